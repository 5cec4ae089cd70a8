/- Codes of the functions that are reached, and that they are the loaded ones. No condition. -/
import Derived.Test.YtoemnjclhheeoaaBase3
import Derived.Test.YtoemnjclhheeoaaProg
namespace Go.Proofs.Ytoemnjclhheeoaa.Ai
open Go Go.Ai Go.Proofs

/- foliot/foliotlaw07.GraphOrder -/
def c3l0 : C :=
 (.seq
  (.seq
   (.reg [⟨some 56, .mv (.s 7), none⟩,
     ⟨some 57, .mv (.s 0), none⟩,
     ⟨some 58, .len (.s 57), none⟩,
     ⟨some 59, .bin .lss (.s 56) (.s 58), none⟩]
     [0, 3, 5, 6, 7, 59])
   (.cond (.s 59)
    .skip
    (.exit 2)))
  (.seq
   (.block 3
    (.seq
     (.reg [⟨some 62, .mv (.s 0), none⟩,
       ⟨some 63, .mv (.s 3), none⟩,
       ⟨some 64, .mv (.s 6), none⟩,
       ⟨some 65, .iadr 1 (.s 63) (.s 64), none⟩,
       ⟨some 66, .load none (.s 65), none⟩,
       ⟨some 67, .mv (.s 7), none⟩,
       ⟨some 68, .call (.k (.fn (.func 10) [] [])) [.s 62, .s 66, .s 67], none⟩,
       ⟨some 69, .mv (.s 68), none⟩,
       ⟨some 70, .mv (.s 5), some (69, true)⟩,
       ⟨some 71, .mv (.s 7), some (69, true)⟩,
       ⟨some 72, .iadr 1 (.s 70) (.s 71), some (69, true)⟩,
       ⟨some 73, .load none (.s 72), some (69, true)⟩,
       ⟨some 74, .un .not (.s 73), some (69, true)⟩,
       ⟨some 75, .pick (.s 69) (.s 74) (.k (litB false)), none⟩]
       [0, 3, 5, 6, 7, 75])
     (.cond (.s 75)
      (.seq
       (.reg [⟨some 2, .mv (.k (litB false)), none⟩]
         [2])
       .ret)
      .skip)))
   (.reg [⟨some 60, .mv (.s 7), none⟩,
     ⟨some 61, .bin .add (.s 60) (.k (litI .i64 1)), none⟩,
     ⟨some 7, .mv (.s 61), none⟩]
     [0, 3, 5, 6, 7])))
def c3l1 : C :=
 (.seq
  (.seq
   (.reg [⟨some 27, .mv (.s 6), none⟩,
     ⟨some 28, .mv (.s 3), none⟩,
     ⟨some 29, .len (.s 28), none⟩,
     ⟨some 30, .bin .lss (.s 27) (.s 29), none⟩]
     [0, 3, 5, 6, 30])
   (.cond (.s 30)
    .skip
    (.exit 0)))
  (.seq
   (.block 1
    (.seq
     (.seq
      (.reg [⟨some 33, .mv (.s 3), none⟩,
        ⟨some 34, .mv (.s 6), none⟩,
        ⟨some 35, .iadr 1 (.s 33) (.s 34), none⟩,
        ⟨some 36, .load none (.s 35), none⟩,
        ⟨some 37, .bin .lss (.s 36) (.k (litI .i64 0)), none⟩,
        ⟨some 38, .mv (.s 37), none⟩,
        ⟨some 39, .mv (.s 3), some (38, false)⟩,
        ⟨some 40, .mv (.s 6), some (38, false)⟩,
        ⟨some 41, .iadr 1 (.s 39) (.s 40), some (38, false)⟩,
        ⟨some 42, .load none (.s 41), some (38, false)⟩,
        ⟨some 43, .mv (.s 0), some (38, false)⟩,
        ⟨some 44, .len (.s 43), some (38, false)⟩,
        ⟨some 45, .bin .geq (.s 42) (.s 44), some (38, false)⟩,
        ⟨some 46, .pick (.s 38) (.k (litB true)) (.s 45), none⟩,
        ⟨some 47, .mv (.s 46), none⟩,
        ⟨some 48, .mv (.s 5), some (47, false)⟩,
        ⟨some 49, .mv (.s 3), some (47, false)⟩,
        ⟨some 50, .mv (.s 6), some (47, false)⟩,
        ⟨some 51, .iadr 1 (.s 49) (.s 50), some (47, false)⟩,
        ⟨some 52, .load none (.s 51), some (47, false)⟩,
        ⟨some 53, .iadr 1 (.s 48) (.s 52), some (47, false)⟩,
        ⟨some 54, .load none (.s 53), some (47, false)⟩,
        ⟨some 55, .pick (.s 47) (.k (litB true)) (.s 54), none⟩]
        [0, 3, 5, 6, 55])
      (.cond (.s 55)
       (.seq
        (.reg [⟨some 2, .mv (.k (litB false)), none⟩]
          [2])
        .ret)
       .skip))
     (.seq
      (.seq
       (.reg [⟨some 7, .mv (.k (litI .i64 0)), none⟩]
         [0, 3, 5, 6, 7])
       (.block 2
        (.loop [0, 3, 5, 6, 7] c3l0)))
      (.reg [⟨some 76, .mv (.s 5), none⟩,
        ⟨some 77, .mv (.s 3), none⟩,
        ⟨some 78, .mv (.s 6), none⟩,
        ⟨some 79, .iadr 1 (.s 77) (.s 78), none⟩,
        ⟨some 80, .load none (.s 79), none⟩,
        ⟨some 81, .iadr 1 (.s 76) (.s 80), none⟩,
        ⟨none, .store 1 (.s 81) (.k (litB true)), none⟩]
        [0, 3, 5, 6]))))
   (.reg [⟨some 31, .mv (.s 6), none⟩,
     ⟨some 32, .bin .add (.s 31) (.k (litI .i64 1)), none⟩,
     ⟨some 6, .mv (.s 32), none⟩]
     [0, 3, 5, 6])))
def c3 : C :=
 (.seq
  (.reg [⟨some 2, .mv (.k (litB false)), none⟩]
    [0])
  (.seq
   (.seq
    (.reg [⟨some 8, .mv (.s 0), none⟩,
      ⟨some 9, .call (.k (.fn (.func 7) [] [])) [.s 8], none⟩,
      ⟨some 10, .un .not (.s 9), none⟩]
      [0, 10])
    (.cond (.s 10)
     (.seq
      (.reg [⟨some 2, .mv (.k (litB true)), none⟩]
        [2])
      .ret)
     .skip))
   (.seq
    (.reg [⟨some 12, .mv (.s 0), none⟩,
      ⟨some 13, .call (.k (.fn (.func 8) [] [])) [.s 12], none⟩,
      ⟨some 11, .mv (.s 13), none⟩,
      ⟨some 14, .ext (.s 11) 0, none⟩,
      ⟨some 15, .ext (.s 11) 1, none⟩,
      ⟨some 3, .mv (.s 14), none⟩,
      ⟨some 4, .mv (.s 15), none⟩]
      [0, 3, 4])
    (.seq
     (.seq
      (.reg [⟨some 16, .mv (.s 4), none⟩,
        ⟨some 17, .un .not (.s 16), none⟩]
        [0, 3, 17])
      (.cond (.s 17)
       (.seq
        (.reg [⟨some 18, .mv (.s 3), none⟩,
          ⟨some 19, .len (.s 18), none⟩,
          ⟨some 20, .bin .eql (.s 19) (.k (litI .i64 0)), none⟩,
          ⟨some 21, .mv (.s 20), none⟩,
          ⟨some 22, .call (.k (.fn (.func 9) [] [])) [], some (21, true)⟩,
          ⟨some 23, .pick (.s 21) (.s 22) (.k (litB false)), none⟩,
          ⟨some 2, .mv (.s 23), none⟩]
          [2])
        .ret)
       .skip))
     (.seq
      (.reg [⟨some 24, .mv (.s 0), none⟩,
        ⟨some 25, .len (.s 24), none⟩,
        ⟨some 26, .mks 1 1 [litB false] 4 (.s 25) (.s 25), none⟩,
        ⟨some 5, .mv (.s 26), none⟩]
        [0, 3, 5])
      (.seq
       (.seq
        (.reg [⟨some 6, .mv (.k (litI .i64 0)), none⟩]
          [0, 3, 5, 6])
        (.block 0
         (.loop [0, 3, 5, 6] c3l1)))
       (.seq
        (.reg [⟨some 82, .mv (.s 3), none⟩,
          ⟨some 83, .len (.s 82), none⟩,
          ⟨some 84, .mv (.s 0), none⟩,
          ⟨some 85, .len (.s 84), none⟩,
          ⟨some 86, .bin .eql (.s 83) (.s 85), none⟩,
          ⟨some 87, .mv (.s 86), none⟩,
          ⟨some 88, .call (.k (.fn (.func 9) [] [])) [], some (87, true)⟩,
          ⟨some 89, .pick (.s 87) (.s 88) (.k (litB false)), none⟩,
          ⟨some 2, .mv (.s 89), none⟩]
          [2])
        .ret)))))))
def fn3 : F := ⟨1, 90, [.t 2], c3⟩
def an3 : Ann := ann [(0, [0]), (1, [0, 10]), (2, [2]), (3, [0, 3, 4]), (4, [0, 3, 17]), (5, [2]), (6, [0, 3, 5]), (7, [0, 3, 5, 6]), (8, [0, 3, 5, 6, 30]), (9, [0, 3, 5, 6]), (10, [0, 3, 5, 6, 55]), (11, [2]), (12, [0, 3, 5, 6, 7]), (13, [0, 3, 5, 6, 7, 59]), (14, [0, 3, 5, 6, 7]), (15, [0, 3, 5, 6, 7, 75]), (16, [2]), (17, [0, 3, 5, 6]), (18, [2])] [(0, [0, 3, 5, 6]), (2, [0, 3, 5, 6, 7])] [] []
theorem is3 : compF Try.prog an3 Try.f3 = some fn3 := by kernel_rfl

/- foliot/foliotlaw07.GraphEither -/
def c4l0 : C :=
 (.seq
  (.seq
   (.reg [⟨some 39, .mv (.s 7), none⟩,
     ⟨some 40, .mv (.s 6), none⟩,
     ⟨some 41, .bin .lss (.s 39) (.s 40), none⟩]
     [0, 4, 5, 6, 7, 41])
   (.cond (.s 41)
    .skip
    (.exit 2)))
  (.seq
   (.block 3
    (.seq
     (.draw [⟨some 44, .mv (.s 5), none⟩,
       ⟨some 45, .mv (.s 7), none⟩,
       ⟨some 46, .iadr 1 (.s 44) (.s 45), none⟩,
       ⟨some 47, .load none (.s 46), none⟩,
       ⟨some 48, .mv (.s 5), none⟩,
       ⟨some 49, .mv (.s 6), none⟩,
       ⟨some 50, .iadr 1 (.s 48) (.s 49), none⟩,
       ⟨some 51, .load none (.s 50), none⟩]
       [⟨some 52, .bin .eql (.s 47) (.s 51), none⟩] [0, 4, 5, 6, 7, 52])
     (.cond (.s 52)
      (.seq
       (.reg [⟨some 2, .mv (.k (litB false)), none⟩]
         [2])
       .ret)
      .skip)))
   (.reg [⟨some 42, .mv (.s 7), none⟩,
     ⟨some 43, .bin .add (.s 42) (.k (litI .i64 1)), none⟩,
     ⟨some 7, .mv (.s 43), none⟩]
     [0, 4, 5, 6, 7])))
def c4l1 : C :=
 (.seq
  (.seq
   (.reg [⟨some 18, .mv (.s 6), none⟩,
     ⟨some 19, .mv (.s 5), none⟩,
     ⟨some 20, .len (.s 19), none⟩,
     ⟨some 21, .bin .lss (.s 18) (.s 20), none⟩]
     [0, 4, 5, 6, 21])
   (.cond (.s 21)
    .skip
    (.exit 0)))
  (.seq
   (.block 1
    (.seq
     (.seq
      (.draw [⟨some 24, .mv (.s 0), none⟩,
        ⟨some 25, .mv (.s 5), none⟩,
        ⟨some 26, .mv (.s 6), none⟩,
        ⟨some 27, .iadr 1 (.s 25) (.s 26), none⟩,
        ⟨some 28, .load none (.s 27), none⟩,
        ⟨some 29, .mv (.s 5), none⟩,
        ⟨some 30, .mv (.s 6), none⟩,
        ⟨some 31, .bin .add (.s 30) (.k (litI .i64 1)), none⟩,
        ⟨some 32, .mv (.s 5), none⟩,
        ⟨some 33, .len (.s 32), none⟩,
        ⟨some 34, .bin .rem (.s 31) (.s 33), none⟩,
        ⟨some 35, .iadr 1 (.s 29) (.s 34), none⟩,
        ⟨some 36, .load none (.s 35), none⟩]
        [⟨some 37, .call (.k (.fn (.func 10) [] [])) [.s 24, .s 28, .s 36], none⟩,
        ⟨some 38, .un .not (.s 37), none⟩] [0, 4, 5, 6, 38])
      (.cond (.s 38)
       (.seq
        (.reg [⟨some 2, .mv (.k (litB false)), none⟩]
          [2])
        .ret)
       .skip))
     (.seq
      (.reg [⟨some 7, .mv (.k (litI .i64 0)), none⟩]
        [0, 4, 5, 6, 7])
      (.block 2
       (.loop [0, 4, 5, 6, 7] c4l0)))))
   (.reg [⟨some 22, .mv (.s 6), none⟩,
     ⟨some 23, .bin .add (.s 22) (.k (litI .i64 1)), none⟩,
     ⟨some 6, .mv (.s 23), none⟩]
     [0, 4, 5, 6])))
def c4 : C :=
 (.seq
  (.reg [⟨some 2, .mv (.k (litB false)), none⟩]
    [0])
  (.seq
   (.seq
    (.reg [⟨some 8, .mv (.s 0), none⟩,
      ⟨some 9, .call (.k (.fn (.func 7) [] [])) [.s 8], none⟩,
      ⟨some 10, .un .not (.s 9), none⟩]
      [0, 10])
    (.cond (.s 10)
     (.seq
      (.reg [⟨some 2, .mv (.k (litB true)), none⟩]
        [2])
      .ret)
     .skip))
   (.seq
    (.reg [⟨some 12, .mv (.s 0), none⟩,
      ⟨some 13, .call (.k (.fn (.func 8) [] [])) [.s 12], none⟩,
      ⟨some 11, .mv (.s 13), none⟩,
      ⟨some 14, .ext (.s 11) 0, none⟩,
      ⟨some 15, .ext (.s 11) 1, none⟩,
      ⟨some 3, .mv (.s 14), none⟩,
      ⟨some 4, .mv (.s 15), none⟩]
      [0, 4])
    (.seq
     (.reg [⟨some 16, .mv (.s 0), none⟩,
       ⟨some 17, .call (.k (.fn (.func 11) [] [])) [.s 16], none⟩,
       ⟨some 5, .mv (.s 17), none⟩]
       [0, 4, 5])
     (.seq
      (.seq
       (.reg [⟨some 6, .mv (.k (litI .i64 0)), none⟩]
         [0, 4, 5, 6])
       (.block 0
        (.loop [0, 4, 5, 6] c4l1)))
      (.seq
       (.reg [⟨some 53, .mv (.s 4), none⟩,
         ⟨some 54, .mv (.s 5), none⟩,
         ⟨some 55, .len (.s 54), none⟩,
         ⟨some 56, .bin .eql (.s 55) (.k (litI .i64 0)), none⟩,
         ⟨some 57, .binb .eql (.s 53) (.s 56), none⟩,
         ⟨some 58, .mv (.s 57), none⟩,
         ⟨some 59, .call (.k (.fn (.func 9) [] [])) [], some (58, true)⟩,
         ⟨some 60, .pick (.s 58) (.s 59) (.k (litB false)), none⟩,
         ⟨some 2, .mv (.s 60), none⟩]
         [2])
       .ret))))))
def fn4 : F := ⟨1, 61, [.t 2], c4⟩
def an4 : Ann := ann [(0, [0]), (1, [0, 10]), (2, [2]), (3, [0, 4]), (4, [0, 4, 5]), (5, [0, 4, 5, 6]), (6, [0, 4, 5, 6, 21]), (7, [0, 4, 5, 6]), (8, [0, 4, 5, 6, 38]), (9, [2]), (10, [0, 4, 5, 6, 7]), (11, [0, 4, 5, 6, 7, 41]), (12, [0, 4, 5, 6, 7]), (13, [0, 4, 5, 6, 7, 52]), (14, [2]), (15, [2])] [(0, [0, 4, 5, 6]), (2, [0, 4, 5, 6, 7])] [] [(8, 13), (13, 8)]
theorem is4 : compF Try.prog an4 Try.f4 = some fn4 := by kernel_rfl

/- foliot/foliotlaw07.GraphLeast -/
def c5l0 : C :=
 (.seq
  (.seq
   (.reg [⟨some 19, .mv (.s 4), none⟩,
     ⟨some 20, .mv (.s 3), none⟩,
     ⟨some 21, .iadr 1 (.s 20) (.k (litI .i64 0)), none⟩,
     ⟨some 22, .load none (.s 21), none⟩,
     ⟨some 23, .bin .lss (.s 19) (.s 22), none⟩]
     [0, 3, 4, 23])
   (.cond (.s 23)
    .skip
    (.exit 0)))
  (.seq
   (.block 1
    (.seq
     (.reg [⟨some 26, .mv (.s 0), none⟩,
       ⟨some 27, .mv (.s 4), none⟩,
       ⟨some 28, .call (.k (.fn (.func 12) [] [])) [.s 26, .s 27], none⟩,
       ⟨some 29, .mv (.s 4), none⟩,
       ⟨some 30, .iadr 1 (.s 28) (.s 29), none⟩,
       ⟨some 31, .load none (.s 30), none⟩]
       [0, 3, 4, 31])
     (.cond (.s 31)
      (.seq
       (.reg [⟨some 2, .mv (.k (litB false)), none⟩]
         [2])
       .ret)
      .skip)))
   (.reg [⟨some 24, .mv (.s 4), none⟩,
     ⟨some 25, .bin .add (.s 24) (.k (litI .i64 1)), none⟩,
     ⟨some 4, .mv (.s 25), none⟩]
     [0, 3, 4])))
def c5l1 : C :=
 (.seq
  (.seq
   (.reg [⟨some 55, .mv (.s 9), none⟩,
     ⟨some 56, .mv (.s 0), none⟩,
     ⟨some 57, .len (.s 56), none⟩,
     ⟨some 58, .bin .lss (.s 55) (.s 57), none⟩]
     [0, 3, 5, 6, 7, 8, 9, 58])
   (.cond (.s 58)
    .skip
    (.exit 6)))
  (.seq
   (.block 7
    (.reg [⟨some 61, .mv (.s 7), none⟩,
      ⟨some 62, .mv (.s 9), none⟩,
      ⟨some 63, .mv (.s 7), none⟩,
      ⟨some 64, .mv (.s 9), none⟩,
      ⟨some 65, .iadr 1 (.s 63) (.s 64), none⟩,
      ⟨some 66, .load none (.s 65), none⟩,
      ⟨some 67, .mv (.s 66), none⟩,
      ⟨some 68, .mv (.s 5), some (67, false)⟩,
      ⟨some 69, .mv (.s 8), some (67, false)⟩,
      ⟨some 70, .iadr 1 (.s 68) (.s 69), some (67, false)⟩,
      ⟨some 71, .load none (.s 70), some (67, false)⟩,
      ⟨some 72, .mv (.s 71), some (67, false)⟩,
      ⟨some 73, .mv (.s 0), some (72, true)⟩,
      ⟨some 74, .mv (.s 8), some (72, true)⟩,
      ⟨some 75, .mv (.s 9), some (72, true)⟩,
      ⟨some 76, .call (.k (.fn (.func 10) [] [])) [.s 73, .s 74, .s 75], some (72, true)⟩,
      ⟨some 77, .pick (.s 72) (.s 76) (.k (litB false)), some (67, false)⟩,
      ⟨some 78, .pick (.s 67) (.k (litB true)) (.s 77), none⟩,
      ⟨some 79, .iadr 1 (.s 61) (.s 62), none⟩,
      ⟨none, .store 1 (.s 79) (.s 78), none⟩]
      [0, 3, 5, 6, 7, 8, 9]))
   (.reg [⟨some 59, .mv (.s 9), none⟩,
     ⟨some 60, .bin .add (.s 59) (.k (litI .i64 1)), none⟩,
     ⟨some 9, .mv (.s 60), none⟩]
     [0, 3, 5, 6, 7, 8, 9])))
def c5l2 : C :=
 (.seq
  (.seq
   (.reg [⟨some 49, .mv (.s 8), none⟩,
     ⟨some 50, .mv (.s 0), none⟩,
     ⟨some 51, .len (.s 50), none⟩,
     ⟨some 52, .bin .lss (.s 49) (.s 51), none⟩]
     [0, 3, 5, 6, 7, 8, 52])
   (.cond (.s 52)
    .skip
    (.exit 4)))
  (.seq
   (.block 5
    (.seq
     (.reg [⟨some 9, .mv (.k (litI .i64 0)), none⟩]
       [0, 3, 5, 6, 7, 8, 9])
     (.block 6
      (.loop [0, 3, 5, 6, 7, 8, 9] c5l1))))
   (.reg [⟨some 53, .mv (.s 8), none⟩,
     ⟨some 54, .bin .add (.s 53) (.k (litI .i64 1)), none⟩,
     ⟨some 8, .mv (.s 54), none⟩]
     [0, 3, 5, 6, 7, 8])))
def c5l3 : C :=
 (.seq
  (.seq
   (.reg [⟨some 40, .mv (.s 6), none⟩,
     ⟨some 41, .mv (.s 3), none⟩,
     ⟨some 42, .len (.s 41), none⟩,
     ⟨some 43, .bin .lss (.s 40) (.s 42), none⟩]
     [0, 3, 5, 6, 43])
   (.cond (.s 43)
    .skip
    (.exit 2)))
  (.seq
   (.block 3
    (.seq
     (.reg [⟨some 46, .mv (.s 0), none⟩,
       ⟨some 47, .len (.s 46), none⟩,
       ⟨some 48, .mks 1 1 [litB false] 4 (.s 47) (.s 47), none⟩,
       ⟨some 7, .mv (.s 48), none⟩]
       [0, 3, 5, 6, 7])
     (.seq
      (.seq
       (.reg [⟨some 8, .mv (.k (litI .i64 0)), none⟩]
         [0, 3, 5, 6, 7, 8])
       (.block 4
        (.loop [0, 3, 5, 6, 7, 8] c5l2)))
      (.seq
       (.seq
        (.reg [⟨some 80, .mv (.s 7), none⟩,
          ⟨some 81, .mv (.s 3), none⟩,
          ⟨some 82, .iadr 1 (.s 81) (.k (litI .i64 0)), none⟩,
          ⟨some 83, .load none (.s 82), none⟩,
          ⟨some 84, .iadr 1 (.s 80) (.s 83), none⟩,
          ⟨some 85, .load none (.s 84), none⟩]
          [0, 3, 6, 7, 85])
        (.cond (.s 85)
         (.seq
          (.reg [⟨some 2, .mv (.k (litB false)), none⟩]
            [2])
          .ret)
         .skip))
       (.reg [⟨some 86, .mv (.s 7), none⟩,
         ⟨some 5, .mv (.s 86), none⟩]
         [0, 3, 5, 6])))))
   (.reg [⟨some 44, .mv (.s 6), none⟩,
     ⟨some 45, .bin .add (.s 44) (.k (litI .i64 1)), none⟩,
     ⟨some 6, .mv (.s 45), none⟩]
     [0, 3, 5, 6])))
def c5 : C :=
 (.seq
  (.reg [⟨some 2, .mv (.k (litB false)), none⟩]
    [0])
  (.seq
   (.seq
    (.reg [⟨some 10, .mv (.s 0), none⟩,
      ⟨some 11, .call (.k (.fn (.func 7) [] [])) [.s 10], none⟩,
      ⟨some 12, .un .not (.s 11), none⟩]
      [0, 12])
    (.cond (.s 12)
     (.seq
      (.reg [⟨some 2, .mv (.k (litB true)), none⟩]
        [2])
      .ret)
     .skip))
   (.seq
    (.reg [⟨some 13, .mv (.s 0), none⟩,
      ⟨some 14, .call (.k (.fn (.func 11) [] [])) [.s 13], none⟩,
      ⟨some 3, .mv (.s 14), none⟩]
      [0, 3])
    (.seq
     (.seq
      (.reg [⟨some 15, .mv (.s 3), none⟩,
        ⟨some 16, .len (.s 15), none⟩,
        ⟨some 17, .bin .eql (.s 16) (.k (litI .i64 0)), none⟩]
        [0, 3, 17])
      (.cond (.s 17)
       (.seq
        (.reg [⟨some 18, .call (.k (.fn (.func 9) [] [])) [], none⟩,
          ⟨some 2, .mv (.s 18), none⟩]
          [2])
        .ret)
       .skip))
     (.seq
      (.seq
       (.reg [⟨some 4, .mv (.k (litI .i64 0)), none⟩]
         [0, 3, 4])
       (.block 0
        (.loop [0, 3, 4] c5l0)))
      (.seq
       (.reg [⟨some 32, .mv (.s 0), none⟩,
         ⟨some 33, .len (.s 32), none⟩,
         ⟨some 34, .mks 1 1 [litB false] 4 (.s 33) (.s 33), none⟩,
         ⟨some 5, .mv (.s 34), none⟩]
         [0, 3, 5])
       (.seq
        (.reg [⟨some 35, .mv (.s 5), none⟩,
          ⟨some 36, .mv (.s 3), none⟩,
          ⟨some 37, .iadr 1 (.s 36) (.k (litI .i64 0)), none⟩,
          ⟨some 38, .load none (.s 37), none⟩,
          ⟨some 39, .iadr 1 (.s 35) (.s 38), none⟩,
          ⟨none, .store 1 (.s 39) (.k (litB true)), none⟩]
          [0, 3, 5])
        (.seq
         (.seq
          (.reg [⟨some 6, .mv (.k (litI .i64 1)), none⟩]
            [0, 3, 5, 6])
          (.block 2
           (.loop [0, 3, 5, 6] c5l3)))
         (.seq
          (.reg [⟨some 87, .call (.k (.fn (.func 9) [] [])) [], none⟩,
            ⟨some 2, .mv (.s 87), none⟩]
            [2])
          .ret)))))))))
def fn5 : F := ⟨1, 88, [.t 2], c5⟩
def an5 : Ann := ann [(0, [0]), (1, [0, 12]), (2, [2]), (3, [0, 3]), (4, [0, 3, 17]), (5, [2]), (6, [0, 3, 4]), (7, [0, 3, 4, 23]), (8, [0, 3, 4]), (9, [0, 3, 4, 31]), (10, [2]), (11, [0, 3, 5]), (12, [0, 3, 5]), (13, [0, 3, 5, 6]), (14, [0, 3, 5, 6, 43]), (15, [0, 3, 5, 6]), (16, [0, 3, 5, 6, 7]), (17, [0, 3, 5, 6, 7, 8]), (18, [0, 3, 5, 6, 7, 8, 52]), (19, [0, 3, 5, 6, 7, 8]), (20, [0, 3, 5, 6, 7, 8, 9]), (21, [0, 3, 5, 6, 7, 8, 9, 58]), (22, [0, 3, 5, 6, 7, 8, 9]), (23, [0, 3, 5, 6, 7, 8, 9]), (24, [0, 3, 6, 7, 85]), (25, [2]), (26, [0, 3, 5, 6]), (27, [2])] [(0, [0, 3, 4]), (2, [0, 3, 5, 6]), (4, [0, 3, 5, 6, 7, 8]), (6, [0, 3, 5, 6, 7, 8, 9])] [] []
theorem is5 : compF Try.prog an5 Try.f5 = some fn5 := by kernel_rfl

/- foliot/foliotlaw07.GraphReach -/
def c6l0 : C :=
 (.seq
  (.seq
   (.reg [⟨some 57, .mv (.s 9), none⟩,
     ⟨some 58, .mv (.s 0), none⟩,
     ⟨some 59, .len (.s 58), none⟩,
     ⟨some 60, .bin .lss (.s 57) (.s 59), none⟩,
     ⟨some 61, .mv (.s 60), none⟩,
     ⟨some 62, .mv (.s 9), some (61, true)⟩,
     ⟨some 63, .mv (.s 8), some (61, true)⟩,
     ⟨some 64, .len (.s 63), some (61, true)⟩,
     ⟨some 65, .bin .lss (.s 62) (.s 64), some (61, true)⟩,
     ⟨some 66, .pick (.s 61) (.s 65) (.k (litB false)), none⟩]
     [0, 1, 5, 6, 7, 8, 9, 66])
   (.cond (.s 66)
    .skip
    (.exit 2)))
  (.seq
   (.block 3
    (.reg [⟨some 69, .mv (.s 6), none⟩,
      ⟨some 70, .mv (.s 9), none⟩,
      ⟨some 71, .mv (.s 6), none⟩,
      ⟨some 72, .mv (.s 9), none⟩,
      ⟨some 73, .iadr 1 (.s 71) (.s 72), none⟩,
      ⟨some 74, .load none (.s 73), none⟩,
      ⟨some 75, .mv (.s 74), none⟩,
      ⟨some 76, .mv (.s 8), some (75, false)⟩,
      ⟨some 77, .mv (.s 9), some (75, false)⟩,
      ⟨some 78, .iadr 1 (.s 76) (.s 77), some (75, false)⟩,
      ⟨some 79, .load none (.s 78), some (75, false)⟩,
      ⟨some 80, .pick (.s 75) (.k (litB true)) (.s 79), none⟩,
      ⟨some 81, .iadr 1 (.s 69) (.s 70), none⟩,
      ⟨none, .store 1 (.s 81) (.s 80), none⟩]
      [0, 1, 5, 6, 7, 8, 9]))
   (.reg [⟨some 67, .mv (.s 9), none⟩,
     ⟨some 68, .bin .add (.s 67) (.k (litI .i64 1)), none⟩,
     ⟨some 9, .mv (.s 68), none⟩]
     [0, 1, 5, 6, 7, 8, 9])))
def c6l1 : C :=
 (.seq
  (.seq
   (.reg [⟨some 40, .mv (.s 7), none⟩,
     ⟨some 41, .mv (.s 0), none⟩,
     ⟨some 42, .len (.s 41), none⟩,
     ⟨some 43, .bin .lss (.s 40) (.s 42), none⟩]
     [0, 1, 5, 6, 7, 43])
   (.cond (.s 43)
    .skip
    (.exit 0)))
  (.seq
   (.block 1
    (.seq
     (.seq
      (.reg [⟨some 46, .mv (.s 0), none⟩,
        ⟨some 47, .mv (.s 1), none⟩,
        ⟨some 48, .mv (.s 7), none⟩,
        ⟨some 49, .call (.k (.fn (.func 10) [] [])) [.s 46, .s 47, .s 48], none⟩,
        ⟨some 50, .un .not (.s 49), none⟩]
        [0, 1, 5, 6, 7, 50])
      (.cond (.s 50)
       (.exit 1)
       .skip))
     (.seq
      (.reg [⟨some 51, .mv (.s 6), none⟩,
        ⟨some 52, .mv (.s 7), none⟩,
        ⟨some 53, .iadr 1 (.s 51) (.s 52), none⟩,
        ⟨none, .store 1 (.s 53) (.k (litB true)), none⟩]
        [0, 1, 5, 6, 7])
      (.seq
       (.reg [⟨some 54, .mv (.s 0), none⟩,
         ⟨some 55, .mv (.s 7), none⟩,
         ⟨some 56, .call (.k (.fn (.func 12) [] [])) [.s 54, .s 55], none⟩,
         ⟨some 8, .mv (.s 56), none⟩]
         [0, 1, 5, 6, 7, 8])
       (.seq
        (.reg [⟨some 9, .mv (.k (litI .i64 0)), none⟩]
          [0, 1, 5, 6, 7, 8, 9])
        (.block 2
         (.loop [0, 1, 5, 6, 7, 8, 9] c6l0)))))))
   (.reg [⟨some 44, .mv (.s 7), none⟩,
     ⟨some 45, .bin .add (.s 44) (.k (litI .i64 1)), none⟩,
     ⟨some 7, .mv (.s 45), none⟩]
     [0, 1, 5, 6, 7])))
def c6l2 : C :=
 (.seq
  (.seq
   (.reg [⟨some 82, .mv (.s 10), none⟩,
     ⟨some 83, .mv (.s 0), none⟩,
     ⟨some 84, .len (.s 83), none⟩,
     ⟨some 85, .bin .lss (.s 82) (.s 84), none⟩]
     [0, 5, 6, 10, 85])
   (.cond (.s 85)
    .skip
    (.exit 4)))
  (.seq
   (.block 5
    (.seq
     (.draw [⟨some 88, .mv (.s 5), none⟩,
       ⟨some 89, .mv (.s 10), none⟩,
       ⟨some 90, .iadr 1 (.s 88) (.s 89), none⟩,
       ⟨some 91, .load none (.s 90), none⟩,
       ⟨some 92, .mv (.s 6), none⟩,
       ⟨some 93, .mv (.s 10), none⟩,
       ⟨some 94, .iadr 1 (.s 92) (.s 93), none⟩,
       ⟨some 95, .load none (.s 94), none⟩]
       [⟨some 96, .binb .neq (.s 91) (.s 95), none⟩] [0, 5, 6, 10, 96])
     (.cond (.s 96)
      (.seq
       (.reg [⟨some 4, .mv (.k (litB false)), none⟩]
         [4])
       .ret)
      .skip)))
   (.reg [⟨some 86, .mv (.s 10), none⟩,
     ⟨some 87, .bin .add (.s 86) (.k (litI .i64 1)), none⟩,
     ⟨some 10, .mv (.s 87), none⟩]
     [0, 5, 6, 10])))
def c6 : C :=
 (.seq
  (.reg [⟨some 4, .mv (.k (litB false)), none⟩]
    [0, 1])
  (.seq
   (.seq
    (.reg [⟨some 11, .mv (.s 0), none⟩,
      ⟨some 12, .call (.k (.fn (.func 7) [] [])) [.s 11], none⟩,
      ⟨some 13, .un .not (.s 12), none⟩,
      ⟨some 14, .mv (.s 13), none⟩,
      ⟨some 15, .mv (.s 0), some (14, false)⟩,
      ⟨some 16, .len (.s 15), some (14, false)⟩,
      ⟨some 17, .bin .eql (.s 16) (.k (litI .i64 0)), some (14, false)⟩,
      ⟨some 18, .pick (.s 14) (.k (litB true)) (.s 17), none⟩]
      [0, 1, 18])
    (.cond (.s 18)
     (.seq
      (.reg [⟨some 4, .mv (.k (litB true)), none⟩]
        [4])
      .ret)
     .skip))
   (.seq
    (.reg [⟨some 19, .mv (.s 1), none⟩,
      ⟨some 20, .mv (.s 0), none⟩,
      ⟨some 21, .len (.s 20), none⟩,
      ⟨some 22, .bin .rem (.s 19) (.s 21), none⟩,
      ⟨some 23, .mv (.s 0), none⟩,
      ⟨some 24, .len (.s 23), none⟩,
      ⟨some 25, .bin .add (.s 22) (.s 24), none⟩,
      ⟨some 26, .mv (.s 0), none⟩,
      ⟨some 27, .len (.s 26), none⟩,
      ⟨some 28, .bin .rem (.s 25) (.s 27), none⟩,
      ⟨some 1, .mv (.s 28), none⟩]
      [0, 1])
    (.seq
     (.reg [⟨some 29, .mv (.s 0), none⟩,
       ⟨some 30, .mv (.s 1), none⟩,
       ⟨some 31, .call (.k (.fn (.func 12) [] [])) [.s 29, .s 30], none⟩,
       ⟨some 5, .mv (.s 31), none⟩]
       [0, 1, 5])
     (.seq
      (.seq
       (.reg [⟨some 32, .mv (.s 5), none⟩,
         ⟨some 33, .len (.s 32), none⟩,
         ⟨some 34, .mv (.s 0), none⟩,
         ⟨some 35, .len (.s 34), none⟩,
         ⟨some 36, .bin .neq (.s 33) (.s 35), none⟩]
         [0, 1, 5, 36])
       (.cond (.s 36)
        (.seq
         (.reg [⟨some 4, .mv (.k (litB false)), none⟩]
           [4])
         .ret)
        .skip))
      (.seq
       (.reg [⟨some 37, .mv (.s 0), none⟩,
         ⟨some 38, .len (.s 37), none⟩,
         ⟨some 39, .mks 1 1 [litB false] 4 (.s 38) (.s 38), none⟩,
         ⟨some 6, .mv (.s 39), none⟩]
         [0, 1, 5, 6])
       (.seq
        (.seq
         (.reg [⟨some 7, .mv (.k (litI .i64 0)), none⟩]
           [0, 1, 5, 6, 7])
         (.block 0
          (.loop [0, 1, 5, 6, 7] c6l1)))
        (.seq
         (.seq
          (.reg [⟨some 10, .mv (.k (litI .i64 0)), none⟩]
            [0, 5, 6, 10])
          (.block 4
           (.loop [0, 5, 6, 10] c6l2)))
         (.seq
          (.reg [⟨some 97, .call (.k (.fn (.func 9) [] [])) [], none⟩,
            ⟨some 4, .mv (.s 97), none⟩]
            [4])
          .ret)))))))))
def fn6 : F := ⟨2, 98, [.t 4], c6⟩
def an6 : Ann := ann [(0, [0, 1]), (1, [0, 1, 18]), (2, [4]), (3, [0, 1]), (4, [0, 1, 5]), (5, [0, 1, 5, 36]), (6, [4]), (7, [0, 1, 5, 6]), (8, [0, 1, 5, 6, 7]), (9, [0, 1, 5, 6, 7, 43]), (10, [0, 1, 5, 6, 7]), (11, [0, 1, 5, 6, 7, 50]), (12, [0, 1, 5, 6, 7]), (13, [0, 1, 5, 6, 7, 8]), (14, [0, 1, 5, 6, 7, 8, 9]), (15, [0, 1, 5, 6, 7, 8, 9, 66]), (16, [0, 1, 5, 6, 7, 8, 9]), (17, [0, 1, 5, 6, 7, 8, 9]), (18, [0, 5, 6, 10]), (19, [0, 5, 6, 10, 85]), (20, [0, 5, 6, 10]), (21, [0, 5, 6, 10, 96]), (22, [4]), (23, [4])] [(0, [0, 1, 5, 6, 7]), (2, [0, 1, 5, 6, 7, 8, 9]), (4, [0, 5, 6, 10])] [] [(21, 8)]
theorem is6 : compF Try.prog an6 Try.f6 = some fn6 := by kernel_rfl

/- foliot/foliotlaw07.few -/
def c7l0 : C :=
 (.seq
  (.seq
   (.reg [⟨some 7, .mv (.s 3), none⟩,
     ⟨some 8, .mv (.s 0), none⟩,
     ⟨some 9, .len (.s 8), none⟩,
     ⟨some 10, .bin .lss (.s 7) (.s 9), none⟩]
     [0, 3, 10])
   (.cond (.s 10)
    .skip
    (.exit 0)))
  (.seq
   (.block 1
    (.seq
     (.reg [⟨some 13, .mv (.s 0), none⟩,
       ⟨some 14, .mv (.s 3), none⟩,
       ⟨some 15, .iadr 1 (.s 13) (.s 14), none⟩,
       ⟨some 16, .load none (.s 15), none⟩,
       ⟨some 17, .len (.s 16), none⟩,
       ⟨some 18, .bin .gtr (.s 17) (.k (litI .i64 40)), none⟩]
       [0, 3, 18])
     (.cond (.s 18)
      (.seq
       (.reg [⟨some 2, .mv (.k (litB false)), none⟩]
         [2])
       .ret)
      .skip)))
   (.reg [⟨some 11, .mv (.s 3), none⟩,
     ⟨some 12, .bin .add (.s 11) (.k (litI .i64 1)), none⟩,
     ⟨some 3, .mv (.s 12), none⟩]
     [0, 3])))
def c7 : C :=
 (.seq
  (.reg [⟨some 2, .mv (.k (litB false)), none⟩]
    [0])
  (.seq
   (.seq
    (.reg [⟨some 4, .mv (.s 0), none⟩,
      ⟨some 5, .len (.s 4), none⟩,
      ⟨some 6, .bin .gtr (.s 5) (.k (litI .i64 20)), none⟩]
      [0, 6])
    (.cond (.s 6)
     (.seq
      (.reg [⟨some 2, .mv (.k (litB false)), none⟩]
        [2])
      .ret)
     .skip))
   (.seq
    (.seq
     (.reg [⟨some 3, .mv (.k (litI .i64 0)), none⟩]
       [0, 3])
     (.block 0
      (.loop [0, 3] c7l0)))
    (.seq
     (.reg [⟨some 2, .mv (.k (litB true)), none⟩]
       [2])
     .ret))))
def fn7 : F := ⟨1, 19, [.t 2], c7⟩
def an7 : Ann := ann [(0, [0]), (1, [0, 6]), (2, [2]), (3, [0, 3]), (4, [0, 3, 10]), (5, [0, 3]), (6, [0, 3, 18]), (7, [2]), (8, [2])] [(0, [0, 3])] [] []
theorem is7 : compF Try.prog an7 Try.f7 = some fn7 := by kernel_rfl

/- foliot/graph.Order -/
def c8l0 : C :=
 (.seq
  (.reg [⟨some 38, .bin .lss (.s 37) (.s 36), none⟩]
    [0, 4, 5, 6, 7, 8, 23, 24, 35, 36, 37, 38])
  (.seq
   (.cond (.s 38)
    .skip
    (.exit 2))
   (.seq
    (.block 3
     (.seq
      (.reg [⟨some 39, .iadr 1 (.s 35) (.s 37), none⟩,
        ⟨some 40, .load none (.s 39), none⟩,
        ⟨some 10, .mv (.s 40), none⟩]
        [0, 4, 5, 6, 7, 8, 10, 23, 24, 35, 36, 37])
      (.reg [⟨some 41, .mv (.s 4), none⟩,
        ⟨some 42, .mv (.s 10), none⟩,
        ⟨some 43, .mv (.s 4), none⟩,
        ⟨some 44, .mv (.s 10), none⟩,
        ⟨some 45, .iadr 1 (.s 43) (.s 44), none⟩,
        ⟨some 46, .load none (.s 45), none⟩,
        ⟨some 47, .mv (.s 7), none⟩,
        ⟨some 48, .bslice false 1 1 [litI .i64 0] [(0, .s 47)] 3, none⟩,
        ⟨some 49, .app 1 8 3 (.s 46) (.s 48), none⟩,
        ⟨some 50, .iadr 1 (.s 41) (.s 42), none⟩,
        ⟨none, .store 1 (.s 50) (.s 49), none⟩]
        [0, 4, 5, 6, 7, 8, 23, 24, 35, 36, 37])))
    (.reg [⟨some 51, .bin .add (.s 37) (.k (litI .i64 1)), none⟩,
      ⟨some 37, .mv (.s 51), none⟩]
      [0, 4, 5, 6, 7, 8, 23, 24, 35, 36, 37]))))
def c8l1 : C :=
 (.seq
  (.reg [⟨some 25, .bin .lss (.s 24) (.s 23), none⟩]
    [0, 4, 5, 6, 23, 24, 25])
  (.seq
   (.cond (.s 25)
    .skip
    (.exit 0))
   (.seq
    (.block 1
     (.seq
      (.reg [⟨some 26, .mv (.s 24), none⟩,
        ⟨some 7, .mv (.s 26), none⟩]
        [0, 4, 5, 6, 7, 23, 24])
      (.seq
       (.reg [⟨some 27, .mv (.s 0), none⟩,
         ⟨some 28, .mv (.s 7), none⟩,
         ⟨some 29, .call (.k (.fn (.func 13) [] [])) [.s 27, .s 28], none⟩,
         ⟨some 8, .mv (.s 29), none⟩]
         [0, 4, 5, 6, 7, 8, 23, 24])
       (.seq
        (.reg [⟨some 30, .mv (.s 5), none⟩,
          ⟨some 31, .mv (.s 7), none⟩,
          ⟨some 32, .mv (.s 8), none⟩,
          ⟨some 33, .len (.s 32), none⟩,
          ⟨some 34, .iadr 1 (.s 30) (.s 31), none⟩,
          ⟨none, .store 1 (.s 34) (.s 33), none⟩]
          [0, 4, 5, 6, 7, 8, 23, 24])
        (.seq
         (.seq
          (.reg [⟨some 35, .mv (.s 8), none⟩,
            ⟨some 36, .len (.s 35), none⟩,
            ⟨some 37, .mv (.k (litI .i64 0)), none⟩]
            [0, 4, 5, 6, 7, 8, 23, 24, 35, 36, 37])
          (.block 2
           (.loop [0, 4, 5, 6, 7, 8, 23, 24, 35, 36, 37] c8l0)))
         (.seq
          (.reg [⟨some 52, .mv (.s 8), none⟩,
            ⟨some 53, .len (.s 52), none⟩,
            ⟨some 54, .bin .eql (.s 53) (.k (litI .i64 0)), none⟩]
            [0, 4, 5, 6, 7, 23, 24, 54])
          (.cond (.s 54)
           (.reg [⟨some 55, .load none (.s 6), none⟩,
             ⟨some 56, .mv (.s 7), none⟩,
             ⟨some 57, .bslice false 1 1 [litI .i64 0] [(0, .s 56)] 3, none⟩,
             ⟨some 58, .app 1 8 3 (.s 55) (.s 57), none⟩,
             ⟨none, .store 1 (.s 6) (.s 58), none⟩]
             [0, 4, 5, 6, 23, 24])
           .skip)))))))
    (.reg [⟨some 59, .bin .add (.s 24) (.k (litI .i64 1)), none⟩,
      ⟨some 24, .mv (.s 59), none⟩]
      [0, 4, 5, 6, 23, 24]))))
def c8l2 : C :=
 (.seq
  (.reg [⟨some 77, .bin .lss (.s 76) (.s 75), none⟩]
    [0, 4, 5, 6, 11, 12, 74, 75, 76, 77])
  (.seq
   (.cond (.s 77)
    .skip
    (.exit 6))
   (.seq
    (.block 7
     (.seq
      (.reg [⟨some 78, .iadr 1 (.s 74) (.s 76), none⟩,
        ⟨some 79, .load none (.s 78), none⟩,
        ⟨some 15, .mv (.s 79), none⟩]
        [0, 4, 5, 6, 11, 12, 15, 74, 75, 76])
      (.seq
       (.reg [⟨some 80, .mv (.s 5), none⟩,
         ⟨some 81, .mv (.s 15), none⟩,
         ⟨some 82, .iadr 1 (.s 80) (.s 81), none⟩,
         ⟨some 83, .load none (.s 82), none⟩,
         ⟨some 84, .bin .sub (.s 83) (.k (litI .i64 1)), none⟩,
         ⟨some 85, .iadr 1 (.s 80) (.s 81), none⟩,
         ⟨none, .store 1 (.s 85) (.s 84), none⟩]
         [0, 4, 5, 6, 11, 12, 15, 74, 75, 76])
       (.seq
        (.reg [⟨some 86, .mv (.s 5), none⟩,
          ⟨some 87, .mv (.s 15), none⟩,
          ⟨some 88, .iadr 1 (.s 86) (.s 87), none⟩,
          ⟨some 89, .load none (.s 88), none⟩,
          ⟨some 90, .bin .eql (.s 89) (.k (litI .i64 0)), none⟩]
          [0, 4, 5, 6, 11, 12, 15, 74, 75, 76, 90])
        (.cond (.s 90)
         (.reg [⟨some 91, .mki 38 (.s 6), none⟩,
           ⟨some 92, .mv (.s 15), none⟩,
           ⟨some 93, .mki 3 (.s 92), none⟩,
           ⟨some 94, .call (.k (.fn (.func 16) [] [])) [.s 91, .s 93], none⟩]
           [0, 4, 5, 6, 11, 12, 74, 75, 76])
         .skip)))))
    (.reg [⟨some 95, .bin .add (.s 76) (.k (litI .i64 1)), none⟩,
      ⟨some 76, .mv (.s 95), none⟩]
      [0, 4, 5, 6, 11, 12, 74, 75, 76]))))
def c8l3 : C :=
 (.seq
  (.seq
   (.reg [⟨some 60, .mv (.s 11), none⟩,
     ⟨some 61, .load none (.s 6), none⟩,
     ⟨some 62, .call (.s 60) [.s 61], none⟩,
     ⟨some 63, .bin .gtr (.s 62) (.k (litI .i64 0)), none⟩]
     [0, 4, 5, 6, 11, 12, 63])
   (.cond (.s 63)
    .skip
    (.exit 4)))
  (.block 5
   (.seq
    (.reg [⟨some 64, .mki 38 (.s 6), none⟩,
      ⟨some 65, .call (.k (.fn (.func 15) [] [])) [.s 64], none⟩,
      ⟨some 66, .tas 3 false (litI .i64 0) (.s 65), none⟩,
      ⟨some 13, .mv (.s 66), none⟩]
      [0, 4, 5, 6, 11, 12, 13])
    (.seq
     (.reg [⟨some 67, .mv (.s 12), none⟩,
       ⟨some 68, .mv (.s 13), none⟩,
       ⟨some 69, .bslice false 1 1 [litI .i64 0] [(0, .s 68)] 3, none⟩,
       ⟨some 70, .app 1 8 3 (.s 67) (.s 69), none⟩,
       ⟨some 12, .mv (.s 70), none⟩]
       [0, 4, 5, 6, 11, 12, 13])
     (.seq
      (.reg [⟨some 71, .mv (.s 4), none⟩,
        ⟨some 72, .mv (.s 13), none⟩,
        ⟨some 73, .iadr 1 (.s 71) (.s 72), none⟩,
        ⟨some 74, .load none (.s 73), none⟩,
        ⟨some 75, .len (.s 74), none⟩,
        ⟨some 76, .mv (.k (litI .i64 0)), none⟩]
        [0, 4, 5, 6, 11, 12, 74, 75, 76])
      (.block 6
       (.loop [0, 4, 5, 6, 11, 12, 74, 75, 76] c8l2)))))))
def c8 : C :=
 (.seq
  (.reg [⟨some 2, .mv (.k (.sl 0 [] (some 0))), none⟩,
    ⟨some 3, .mv (.k (litB false)), none⟩]
    [0])
  (.seq
   (.reg [⟨some 16, .mv (.s 0), none⟩,
     ⟨some 17, .len (.s 16), none⟩,
     ⟨some 18, .mks 1 24 [.sl 0 [] (some 0)] 24 (.s 17) (.s 17), none⟩,
     ⟨some 4, .mv (.s 18), none⟩]
     [0, 4])
   (.seq
    (.reg [⟨some 19, .mv (.s 0), none⟩,
      ⟨some 20, .len (.s 19), none⟩,
      ⟨some 21, .mks 1 8 [litI .i64 0] 3 (.s 20) (.s 20), none⟩,
      ⟨some 5, .mv (.s 21), none⟩]
      [0, 4, 5])
    (.seq
     (.reg [⟨some 6, .alloc [.sl 0 [] (some 0)] 33, none⟩]
       [0, 4, 5, 6])
     (.seq
      (.seq
       (.reg [⟨some 22, .mv (.s 0), none⟩,
         ⟨some 23, .len (.s 22), none⟩,
         ⟨some 24, .mv (.k (litI .i64 0)), none⟩]
         [0, 4, 5, 6, 23, 24])
       (.block 0
        (.loop [0, 4, 5, 6, 23, 24] c8l1)))
      (.seq
       (.reg [⟨some 11, .mv (.k (.fn (.func 14) [] [])), none⟩]
         [0, 4, 5, 6, 11])
       (.seq
        (.reg [⟨some 12, .mv (.k (.sl 0 [] (some 0))), none⟩]
          [0, 4, 5, 6, 11, 12])
        (.seq
         (.block 4
          (.loop [0, 4, 5, 6, 11, 12] c8l3))
         (.seq
          (.seq
           (.reg [⟨some 96, .mv (.s 12), none⟩,
             ⟨some 97, .len (.s 96), none⟩,
             ⟨some 98, .mv (.s 0), none⟩,
             ⟨some 99, .len (.s 98), none⟩,
             ⟨some 100, .bin .lss (.s 97) (.s 99), none⟩]
             [12, 100])
           (.cond (.s 100)
            (.seq
             (.reg [⟨some 2, .mv (.k (.sl 0 [] (some 0))), none⟩,
               ⟨some 3, .mv (.k (litB false)), none⟩]
               [2, 3])
             .ret)
            .skip))
          (.seq
           (.reg [⟨some 101, .mv (.s 12), none⟩,
             ⟨some 2, .mv (.s 101), none⟩,
             ⟨some 3, .mv (.k (litB true)), none⟩]
             [2, 3])
           .ret))))))))))
def fn8 : F := ⟨1, 102, [.t 2, .t 3], c8⟩
def an8 : Ann := ann [(0, [0]), (1, [0, 4]), (2, [0, 4, 5]), (3, [0, 4, 5, 6]), (4, [0, 4, 5, 6, 23, 24]), (5, [0, 4, 5, 6, 23, 24, 25]), (6, [0, 4, 5, 6, 7, 23, 24]), (7, [0, 4, 5, 6, 7, 8, 23, 24]), (8, [0, 4, 5, 6, 7, 8, 23, 24]), (9, [0, 4, 5, 6, 7, 8, 23, 24, 35, 36, 37]), (10, [0, 4, 5, 6, 7, 8, 23, 24, 35, 36, 37, 38]), (11, [0, 4, 5, 6, 7, 8, 10, 23, 24, 35, 36, 37]), (12, [0, 4, 5, 6, 7, 8, 23, 24, 35, 36, 37]), (13, [0, 4, 5, 6, 7, 8, 23, 24, 35, 36, 37]), (14, [0, 4, 5, 6, 7, 23, 24, 54]), (15, [0, 4, 5, 6, 23, 24]), (16, [0, 4, 5, 6, 23, 24]), (17, [0, 4, 5, 6, 11]), (18, [0, 4, 5, 6, 11, 12]), (19, [0, 4, 5, 6, 11, 12, 63]), (20, [0, 4, 5, 6, 11, 12, 13]), (21, [0, 4, 5, 6, 11, 12, 13]), (22, [0, 4, 5, 6, 11, 12, 74, 75, 76]), (23, [0, 4, 5, 6, 11, 12, 74, 75, 76, 77]), (24, [0, 4, 5, 6, 11, 12, 15, 74, 75, 76]), (25, [0, 4, 5, 6, 11, 12, 15, 74, 75, 76]), (26, [0, 4, 5, 6, 11, 12, 15, 74, 75, 76, 90]), (27, [0, 4, 5, 6, 11, 12, 74, 75, 76]), (28, [0, 4, 5, 6, 11, 12, 74, 75, 76]), (29, [12, 100]), (30, [2, 3]), (31, [2, 3])] [(0, [0, 4, 5, 6, 23, 24]), (2, [0, 4, 5, 6, 7, 8, 23, 24, 35, 36, 37]), (4, [0, 4, 5, 6, 11, 12]), (6, [0, 4, 5, 6, 11, 12, 74, 75, 76])] [] []
theorem is8 : compF Try.prog an8 Try.f8 = some fn8 := by kernel_rfl

/- foliot/foliotlaw07.awake -/
def c9 : C :=
 (.seq
  (.reg [⟨some 0, .mv (.k (litB false)), none⟩]
    [])
  (.seq
   (.reg [⟨some 6, .bslice false 1 1 [litI .i64 0] [(0, .k (litI .i64 1))] 3, none⟩,
     ⟨some 7, .bslice false 1 1 [litI .i64 0] [(0, .k (litI .i64 2))] 3, none⟩,
     ⟨some 8, .bslice false 1 3 [.sl 0 [] (some 0)] [(0, .s 6), (1, .s 7), (2, .k (.sl 0 [] (some 0)))] 24, none⟩,
     ⟨some 9, .call (.k (.fn (.func 8) [] [])) [.s 8], none⟩,
     ⟨some 5, .mv (.s 9), none⟩,
     ⟨some 10, .ext (.s 5) 0, none⟩,
     ⟨some 11, .ext (.s 5) 1, none⟩,
     ⟨some 1, .mv (.s 10), none⟩,
     ⟨some 2, .mv (.s 11), none⟩]
     [1, 2])
   (.seq
    (.reg [⟨some 13, .bslice false 1 1 [litI .i64 0] [(0, .k (litI .i64 1))] 3, none⟩,
      ⟨some 14, .bslice false 1 1 [litI .i64 0] [(0, .k (litI .i64 0))] 3, none⟩,
      ⟨some 15, .bslice false 1 2 [.sl 0 [] (some 0)] [(0, .s 13), (1, .s 14)] 24, none⟩,
      ⟨some 16, .call (.k (.fn (.func 8) [] [])) [.s 15], none⟩,
      ⟨some 12, .mv (.s 16), none⟩,
      ⟨some 17, .ext (.s 12) 0, none⟩,
      ⟨some 18, .ext (.s 12) 1, none⟩,
      ⟨some 3, .mv (.s 17), none⟩,
      ⟨some 4, .mv (.s 18), none⟩]
      [1, 2, 3, 4])
    (.seq
     (.reg [⟨some 19, .mv (.s 2), none⟩,
       ⟨some 20, .mv (.s 19), none⟩,
       ⟨some 21, .mv (.s 1), some (20, true)⟩,
       ⟨some 22, .bslice false 1 3 [litI .i64 0] [(0, .k (litI .i64 2)), (1, .k (litI .i64 1)), (2, .k (litI .i64 0))] 3, some (20, true)⟩,
       ⟨some 23, .call (.k (.fn (.func 17) [] [])) [.s 21, .s 22], some (20, true)⟩,
       ⟨some 24, .pick (.s 20) (.s 23) (.k (litB false)), none⟩,
       ⟨some 25, .mv (.s 24), none⟩,
       ⟨some 26, .mv (.s 4), some (25, true)⟩,
       ⟨some 27, .un .not (.s 26), some (25, true)⟩,
       ⟨some 28, .pick (.s 25) (.s 27) (.k (litB false)), none⟩,
       ⟨some 29, .mv (.s 28), none⟩,
       ⟨some 30, .mv (.s 3), some (29, true)⟩,
       ⟨some 31, .len (.s 30), some (29, true)⟩,
       ⟨some 32, .bin .eql (.s 31) (.k (litI .i64 0)), some (29, true)⟩,
       ⟨some 33, .pick (.s 29) (.s 32) (.k (litB false)), none⟩,
       ⟨some 34, .mv (.s 33), none⟩,
       ⟨some 35, .bslice false 1 1 [litI .i64 0] [(0, .k (litI .i64 1))] 3, some (34, true)⟩,
       ⟨some 36, .bslice false 1 1 [litI .i64 0] [(0, .k (litI .i64 0))] 3, some (34, true)⟩,
       ⟨some 37, .bslice false 1 2 [.sl 0 [] (some 0)] [(0, .s 35), (1, .s 36)] 24, some (34, true)⟩,
       ⟨some 38, .call (.k (.fn (.func 11) [] [])) [.s 37], some (34, true)⟩,
       ⟨some 39, .bslice false 1 2 [litI .i64 0] [(0, .k (litI .i64 0)), (1, .k (litI .i64 1))] 3, some (34, true)⟩,
       ⟨some 40, .call (.k (.fn (.func 17) [] [])) [.s 38, .s 39], some (34, true)⟩,
       ⟨some 41, .pick (.s 34) (.s 40) (.k (litB false)), none⟩,
       ⟨some 42, .mv (.s 41), none⟩,
       ⟨some 43, .bslice false 1 1 [litI .i64 0] [(0, .k (litI .i64 1))] 3, some (42, true)⟩,
       ⟨some 44, .bslice false 1 2 [.sl 0 [] (some 0)] [(0, .k (.sl 0 [] (some 0))), (1, .s 43)] 24, some (42, true)⟩,
       ⟨some 45, .call (.k (.fn (.func 11) [] [])) [.s 44], some (42, true)⟩,
       ⟨some 46, .bslice false 1 1 [litI .i64 0] [(0, .k (litI .i64 1))] 3, some (42, true)⟩,
       ⟨some 47, .call (.k (.fn (.func 17) [] [])) [.s 45, .s 46], some (42, true)⟩,
       ⟨some 48, .pick (.s 42) (.s 47) (.k (litB false)), none⟩,
       ⟨some 0, .mv (.s 48), none⟩]
       [0])
     .ret))))
def fn9 : F := ⟨0, 49, [.t 0], c9⟩
def an9 : Ann := ann [(0, []), (1, [1, 2]), (2, [1, 2, 3, 4]), (3, [0])] [] [] []
theorem is9 : compF Try.prog an9 Try.f9 = some fn9 := by kernel_rfl

/- foliot/foliotref07.Needs -/
def c10l0 : C :=
 (.seq
  (.seq
   (.reg [⟨some 26, .mv (.s 7), none⟩,
     ⟨some 27, .mv (.s 0), none⟩,
     ⟨some 28, .mv (.s 1), none⟩,
     ⟨some 29, .iadr 1 (.s 27) (.s 28), none⟩,
     ⟨some 30, .load none (.s 29), none⟩,
     ⟨some 31, .len (.s 30), none⟩,
     ⟨some 32, .bin .lss (.s 26) (.s 31), none⟩]
     [0, 1, 2, 7, 32])
   (.cond (.s 32)
    .skip
    (.exit 0)))
  (.seq
   (.block 1
    (.seq
     (.reg [⟨some 35, .mv (.s 0), none⟩,
       ⟨some 36, .mv (.s 1), none⟩,
       ⟨some 37, .iadr 1 (.s 35) (.s 36), none⟩,
       ⟨some 38, .load none (.s 37), none⟩,
       ⟨some 39, .mv (.s 7), none⟩,
       ⟨some 40, .iadr 1 (.s 38) (.s 39), none⟩,
       ⟨some 41, .load none (.s 40), none⟩,
       ⟨some 42, .mv (.s 2), none⟩,
       ⟨some 43, .bin .eql (.s 41) (.s 42), none⟩]
       [0, 1, 2, 7, 43])
     (.cond (.s 43)
      (.seq
       (.reg [⟨some 6, .mv (.k (litB true)), none⟩]
         [6])
       .ret)
      .skip)))
   (.reg [⟨some 33, .mv (.s 7), none⟩,
     ⟨some 34, .bin .add (.s 33) (.k (litI .i64 1)), none⟩,
     ⟨some 7, .mv (.s 34), none⟩]
     [0, 1, 2, 7])))
def c10 : C :=
 (.seq
  (.reg [⟨some 6, .mv (.k (litB false)), none⟩]
    [0, 1, 2])
  (.seq
   (.seq
    (.reg [⟨some 8, .mv (.s 1), none⟩,
      ⟨some 9, .bin .lss (.s 8) (.k (litI .i64 0)), none⟩,
      ⟨some 10, .mv (.s 9), none⟩,
      ⟨some 11, .mv (.s 1), some (10, false)⟩,
      ⟨some 12, .mv (.s 0), some (10, false)⟩,
      ⟨some 13, .len (.s 12), some (10, false)⟩,
      ⟨some 14, .bin .geq (.s 11) (.s 13), some (10, false)⟩,
      ⟨some 15, .pick (.s 10) (.k (litB true)) (.s 14), none⟩,
      ⟨some 16, .mv (.s 15), none⟩,
      ⟨some 17, .mv (.s 2), some (16, false)⟩,
      ⟨some 18, .bin .lss (.s 17) (.k (litI .i64 0)), some (16, false)⟩,
      ⟨some 19, .pick (.s 16) (.k (litB true)) (.s 18), none⟩,
      ⟨some 20, .mv (.s 19), none⟩,
      ⟨some 21, .mv (.s 2), some (20, false)⟩,
      ⟨some 22, .mv (.s 0), some (20, false)⟩,
      ⟨some 23, .len (.s 22), some (20, false)⟩,
      ⟨some 24, .bin .geq (.s 21) (.s 23), some (20, false)⟩,
      ⟨some 25, .pick (.s 20) (.k (litB true)) (.s 24), none⟩]
      [0, 1, 2, 25])
    (.cond (.s 25)
     (.seq
      (.reg [⟨some 6, .mv (.k (litB false)), none⟩]
        [6])
      .ret)
     .skip))
   (.seq
    (.seq
     (.reg [⟨some 7, .mv (.k (litI .i64 0)), none⟩]
       [0, 1, 2, 7])
     (.block 0
      (.loop [0, 1, 2, 7] c10l0)))
    (.seq
     (.reg [⟨some 6, .mv (.k (litB false)), none⟩]
       [6])
     .ret))))
def fn10 : F := ⟨3, 44, [.t 6], c10⟩
def an10 : Ann := ann [(0, [0, 1, 2]), (1, [0, 1, 2, 25]), (2, [6]), (3, [0, 1, 2, 7]), (4, [0, 1, 2, 7, 32]), (5, [0, 1, 2, 7]), (6, [0, 1, 2, 7, 43]), (7, [6]), (8, [6])] [(0, [0, 1, 2, 7])] [] []
theorem is10 : compF Try.prog an10 Try.f10 = some fn10 := by kernel_rfl

/- foliot/graph.Cycle -/
def c11l0 : C :=
 (.seq
  (.reg [⟨some 7, .bin .lss (.s 6) (.s 5), none⟩]
    [0, 5, 6, 7])
  (.seq
   (.cond (.s 7)
    .skip
    (.exit 0))
   (.seq
    (.block 1
     (.seq
      (.reg [⟨some 8, .mv (.s 6), none⟩,
        ⟨some 3, .mv (.s 8), none⟩]
        [0, 3, 5, 6])
      (.seq
       (.reg [⟨some 9, .mv (.s 0), none⟩,
         ⟨some 10, .mv (.s 3), none⟩,
         ⟨some 11, .call (.k (.fn (.func 12) [] [])) [.s 9, .s 10], none⟩,
         ⟨some 12, .mv (.s 3), none⟩,
         ⟨some 13, .iadr 1 (.s 11) (.s 12), none⟩,
         ⟨some 14, .load none (.s 13), none⟩]
         [0, 3, 5, 6, 14])
       (.cond (.s 14)
        (.seq
         (.reg [⟨some 15, .mv (.s 0), none⟩,
           ⟨some 16, .mv (.s 3), none⟩,
           ⟨some 17, .call (.k (.fn (.func 18) [] [])) [.s 15, .s 16], none⟩,
           ⟨some 2, .mv (.s 17), none⟩]
           [2])
         .ret)
        .skip))))
    (.reg [⟨some 18, .bin .add (.s 6) (.k (litI .i64 1)), none⟩,
      ⟨some 6, .mv (.s 18), none⟩]
      [0, 5, 6]))))
def c11 : C :=
 (.seq
  (.reg [⟨some 2, .mv (.k (.sl 0 [] (some 0))), none⟩]
    [0])
  (.seq
   (.seq
    (.reg [⟨some 4, .mv (.s 0), none⟩,
      ⟨some 5, .len (.s 4), none⟩,
      ⟨some 6, .mv (.k (litI .i64 0)), none⟩]
      [0, 5, 6])
    (.block 0
     (.loop [0, 5, 6] c11l0)))
   (.seq
    (.reg [⟨some 2, .mv (.k (.sl 0 [] (some 0))), none⟩]
      [2])
    .ret)))
def fn11 : F := ⟨1, 19, [.t 2], c11⟩
def an11 : Ann := ann [(0, [0]), (1, [0, 5, 6]), (2, [0, 5, 6, 7]), (3, [0, 3, 5, 6]), (4, [0, 3, 5, 6, 14]), (5, [2]), (6, [0, 5, 6]), (7, [2])] [(0, [0, 5, 6])] [] []
theorem is11 : compF Try.prog an11 Try.f11 = some fn11 := by kernel_rfl

/- foliot/graph.Reach -/
def c12l0 : C :=
 (.seq
  (.seq
   (.reg [⟨some 23, .mv (.s 6), none⟩,
     ⟨some 24, .len (.s 23), none⟩,
     ⟨some 25, .bin .gtr (.s 24) (.k (litI .i64 0)), none⟩]
     [0, 5, 6, 25])
   (.cond (.s 25)
    .skip
    (.exit 0)))
  (.block 1
   (.seq
    (.reg [⟨some 26, .mv (.s 6), none⟩,
      ⟨some 27, .mv (.s 6), none⟩,
      ⟨some 28, .len (.s 27), none⟩,
      ⟨some 29, .bin .sub (.s 28) (.k (litI .i64 1)), none⟩,
      ⟨some 30, .iadr 1 (.s 26) (.s 29), none⟩,
      ⟨some 31, .load none (.s 30), none⟩,
      ⟨some 7, .mv (.s 31), none⟩]
      [0, 5, 6, 7])
    (.seq
     (.reg [⟨some 32, .mv (.s 6), none⟩,
       ⟨some 33, .mv (.s 6), none⟩,
       ⟨some 34, .len (.s 33), none⟩,
       ⟨some 35, .bin .sub (.s 34) (.k (litI .i64 1)), none⟩,
       ⟨some 36, .sli 1 (.s 32) none (some (.s 35)) none, none⟩,
       ⟨some 6, .mv (.s 36), none⟩]
       [0, 5, 6, 7])
     (.seq
      (.reg [⟨some 37, .mv (.s 5), none⟩,
        ⟨some 38, .mv (.s 7), none⟩,
        ⟨some 39, .iadr 1 (.s 37) (.s 38), none⟩,
        ⟨some 40, .load none (.s 39), none⟩,
        ⟨some 41, .un .not (.s 40), none⟩]
        [0, 5, 6, 7, 41])
      (.cond (.s 41)
       (.seq
        (.reg [⟨some 42, .mv (.s 5), none⟩,
          ⟨some 43, .mv (.s 7), none⟩,
          ⟨some 44, .iadr 1 (.s 42) (.s 43), none⟩,
          ⟨none, .store 1 (.s 44) (.k (litB true)), none⟩]
          [0, 5, 6, 7])
        (.reg [⟨some 45, .mv (.s 6), none⟩,
          ⟨some 46, .mv (.s 0), none⟩,
          ⟨some 47, .mv (.s 7), none⟩,
          ⟨some 48, .call (.k (.fn (.func 13) [] [])) [.s 46, .s 47], none⟩,
          ⟨some 49, .app 1 8 3 (.s 45) (.s 48), none⟩,
          ⟨some 6, .mv (.s 49), none⟩]
          [0, 5, 6]))
       .skip))))))
def c12 : C :=
 (.seq
  (.reg [⟨some 4, .mv (.k (.sl 0 [] (some 0))), none⟩]
    [0, 1])
  (.seq
   (.reg [⟨some 8, .mv (.s 0), none⟩,
     ⟨some 9, .len (.s 8), none⟩,
     ⟨some 10, .mks 1 1 [litB false] 4 (.s 9) (.s 9), none⟩,
     ⟨some 5, .mv (.s 10), none⟩]
     [0, 1, 5])
   (.seq
    (.seq
     (.reg [⟨some 11, .mv (.s 1), none⟩,
       ⟨some 12, .bin .lss (.s 11) (.k (litI .i64 0)), none⟩,
       ⟨some 13, .mv (.s 12), none⟩,
       ⟨some 14, .mv (.s 1), some (13, false)⟩,
       ⟨some 15, .mv (.s 0), some (13, false)⟩,
       ⟨some 16, .len (.s 15), some (13, false)⟩,
       ⟨some 17, .bin .geq (.s 14) (.s 16), some (13, false)⟩,
       ⟨some 18, .pick (.s 13) (.k (litB true)) (.s 17), none⟩]
       [0, 1, 5, 18])
     (.cond (.s 18)
      (.seq
       (.reg [⟨some 19, .mv (.s 5), none⟩,
         ⟨some 4, .mv (.s 19), none⟩]
         [4])
       .ret)
      .skip))
    (.seq
     (.seq
      (.reg [⟨some 20, .mv (.s 0), none⟩,
        ⟨some 21, .mv (.s 1), none⟩,
        ⟨some 22, .call (.k (.fn (.func 13) [] [])) [.s 20, .s 21], none⟩,
        ⟨some 6, .mv (.s 22), none⟩]
        [0, 5, 6])
      (.block 0
       (.loop [0, 5, 6] c12l0)))
     (.seq
      (.reg [⟨some 50, .mv (.s 5), none⟩,
        ⟨some 4, .mv (.s 50), none⟩]
        [4])
      .ret)))))
def fn12 : F := ⟨2, 51, [.t 4], c12⟩
def an12 : Ann := ann [(0, [0, 1]), (1, [0, 1, 5]), (2, [0, 1, 5, 18]), (3, [4]), (4, [0, 5, 6]), (5, [0, 5, 6, 25]), (6, [0, 5, 6, 7]), (7, [0, 5, 6, 7]), (8, [0, 5, 6, 7, 41]), (9, [0, 5, 6, 7]), (10, [0, 5, 6]), (11, [4])] [(0, [0, 5, 6])] [] []
theorem is12 : compF Try.prog an12 Try.f12 = some fn12 := by kernel_rfl

/- foliot/graph.needs -/
def c13l0 : C :=
 (.seq
  (.reg [⟨some 14, .bin .lss (.s 13) (.s 12), none⟩]
    [0, 5, 11, 12, 13, 14])
  (.seq
   (.cond (.s 14)
    .skip
    (.exit 0))
   (.seq
    (.block 1
     (.seq
      (.reg [⟨some 15, .iadr 1 (.s 11) (.s 13), none⟩,
        ⟨some 16, .load none (.s 15), none⟩,
        ⟨some 7, .mv (.s 16), none⟩]
        [0, 5, 7, 11, 12, 13])
      (.seq
       (.reg [⟨some 17, .mv (.s 7), none⟩,
         ⟨some 18, .bin .geq (.s 17) (.k (litI .i64 0)), none⟩,
         ⟨some 19, .mv (.s 18), none⟩,
         ⟨some 20, .mv (.s 7), some (19, true)⟩,
         ⟨some 21, .mv (.s 0), some (19, true)⟩,
         ⟨some 22, .len (.s 21), some (19, true)⟩,
         ⟨some 23, .bin .lss (.s 20) (.s 22), some (19, true)⟩,
         ⟨some 24, .pick (.s 19) (.s 23) (.k (litB false)), none⟩]
         [0, 5, 7, 11, 12, 13, 24])
       (.cond (.s 24)
        (.reg [⟨some 25, .mv (.s 5), none⟩,
          ⟨some 26, .mv (.s 7), none⟩,
          ⟨some 27, .bslice false 1 1 [litI .i64 0] [(0, .s 26)] 3, none⟩,
          ⟨some 28, .app 1 8 3 (.s 25) (.s 27), none⟩,
          ⟨some 5, .mv (.s 28), none⟩]
          [0, 5, 11, 12, 13])
        .skip))))
    (.reg [⟨some 29, .bin .add (.s 13) (.k (litI .i64 1)), none⟩,
      ⟨some 13, .mv (.s 29), none⟩]
      [0, 5, 11, 12, 13]))))
def c13 : C :=
 (.seq
  (.reg [⟨some 4, .mv (.k (.sl 0 [] (some 0))), none⟩]
    [0, 1])
  (.seq
   (.reg [⟨some 5, .mv (.k (.sl 0 [] (some 0))), none⟩]
     [0, 1, 5])
   (.seq
    (.seq
     (.reg [⟨some 8, .mv (.s 0), none⟩,
       ⟨some 9, .mv (.s 1), none⟩,
       ⟨some 10, .iadr 1 (.s 8) (.s 9), none⟩,
       ⟨some 11, .load none (.s 10), none⟩,
       ⟨some 12, .len (.s 11), none⟩,
       ⟨some 13, .mv (.k (litI .i64 0)), none⟩]
       [0, 5, 11, 12, 13])
     (.block 0
      (.loop [0, 5, 11, 12, 13] c13l0)))
    (.seq
     (.reg [⟨some 30, .mv (.s 5), none⟩,
       ⟨some 31, .call (.k (.fn (.func 19) [] [])) [.s 30], none⟩]
       [5])
     (.seq
      (.reg [⟨some 32, .mv (.s 5), none⟩,
        ⟨some 33, .call (.k (.fn (.func 20) [] [])) [.s 32], none⟩,
        ⟨some 4, .mv (.s 33), none⟩]
        [4])
      .ret)))))
def fn13 : F := ⟨2, 34, [.t 4], c13⟩
def an13 : Ann := ann [(0, [0, 1]), (1, [0, 1, 5]), (2, [0, 5, 11, 12, 13]), (3, [0, 5, 11, 12, 13, 14]), (4, [0, 5, 7, 11, 12, 13]), (5, [0, 5, 7, 11, 12, 13, 24]), (6, [0, 5, 11, 12, 13]), (7, [0, 5, 11, 12, 13]), (8, [5]), (9, [4])] [(0, [0, 5, 11, 12, 13])] [] []
theorem is13 : compF Try.prog an13 Try.f13 = some fn13 := by kernel_rfl

/- (foliot/graph.ready).Len -/
def c14 : C :=
 (.seq
  (.reg [⟨some 2, .mv (.k (litI .i64 0)), none⟩]
    [0])
  (.seq
   (.reg [⟨some 3, .mv (.s 0), none⟩,
     ⟨some 4, .len (.s 3), none⟩,
     ⟨some 2, .mv (.s 4), none⟩]
     [2])
   .ret))
def fn14 : F := ⟨1, 5, [.t 2], c14⟩
def an14 : Ann := ann [(0, [0]), (1, [2])] [] [] []
theorem is14 : compF Try.prog an14 Try.f14 = some fn14 := by kernel_rfl

/- container/heap.Pop -/
def c15 : C :=
 (.seq
  (.reg [⟨some 2, .mv (.k (.lit .nilIface)), none⟩]
    [0])
  (.seq
   (.reg [⟨some 4, .mv (.s 0), none⟩,
     ⟨some 5, .inv (.s 4) "Len" [], none⟩,
     ⟨some 6, .bin .sub (.s 5) (.k (litI .i64 1)), none⟩,
     ⟨some 3, .mv (.s 6), none⟩]
     [0, 3])
   (.seq
    (.reg [⟨some 7, .mv (.s 0), none⟩,
      ⟨some 8, .mv (.s 3), none⟩,
      ⟨some 9, .inv (.s 7) "Swap" [.k (litI .i64 0), .s 8], none⟩]
      [0, 3])
    (.seq
     (.reg [⟨some 10, .mv (.s 0), none⟩,
       ⟨some 11, .mv (.s 3), none⟩,
       ⟨some 12, .call (.k (.fn (.func 21) [] [])) [.s 10, .k (litI .i64 0), .s 11], none⟩]
       [0])
     (.seq
      (.reg [⟨some 13, .mv (.s 0), none⟩,
        ⟨some 14, .inv (.s 13) "Pop" [], none⟩,
        ⟨some 2, .mv (.s 14), none⟩]
        [2])
      .ret)))))
def fn15 : F := ⟨1, 15, [.t 2], c15⟩
def an15 : Ann := ann [(0, [0]), (1, [0, 3]), (2, [0, 3]), (3, [0]), (4, [2])] [] [] []
theorem is15 : compF Try.prog an15 Try.f15 = some fn15 := by kernel_rfl

/- container/heap.Push -/
def c16 : C :=
 (.seq
  (.reg [⟨some 4, .mv (.s 0), none⟩,
    ⟨some 5, .mv (.s 1), none⟩,
    ⟨some 6, .inv (.s 4) "Push" [.s 5], none⟩]
    [0])
  (.reg [⟨some 7, .mv (.s 0), none⟩,
    ⟨some 8, .mv (.s 0), none⟩,
    ⟨some 9, .inv (.s 8) "Len" [], none⟩,
    ⟨some 10, .bin .sub (.s 9) (.k (litI .i64 1)), none⟩,
    ⟨some 11, .call (.k (.fn (.func 22) [] [])) [.s 7, .s 10], none⟩]
    []))
def fn16 : F := ⟨2, 12, [], c16⟩
def an16 : Ann := ann [(0, [0]), (1, [])] [] [] []
theorem is16 : compF Try.prog an16 Try.f16 = some fn16 := by kernel_rfl

/- foliot/foliotlaw07.same -/
def c17l0 : C :=
 (.seq
  (.seq
   (.reg [⟨some 11, .mv (.s 5), none⟩,
     ⟨some 12, .mv (.s 0), none⟩,
     ⟨some 13, .len (.s 12), none⟩,
     ⟨some 14, .bin .lss (.s 11) (.s 13), none⟩]
     [0, 1, 5, 14])
   (.cond (.s 14)
    .skip
    (.exit 0)))
  (.seq
   (.block 1
    (.seq
     (.draw [⟨some 17, .mv (.s 0), none⟩,
       ⟨some 18, .mv (.s 5), none⟩,
       ⟨some 19, .iadr 1 (.s 17) (.s 18), none⟩,
       ⟨some 20, .load none (.s 19), none⟩,
       ⟨some 21, .mv (.s 1), none⟩,
       ⟨some 22, .mv (.s 5), none⟩,
       ⟨some 23, .iadr 1 (.s 21) (.s 22), none⟩,
       ⟨some 24, .load none (.s 23), none⟩]
       [⟨some 25, .bin .neq (.s 20) (.s 24), none⟩] [0, 1, 5, 25])
     (.cond (.s 25)
      (.seq
       (.reg [⟨some 4, .mv (.k (litB false)), none⟩]
         [4])
       .ret)
      .skip)))
   (.reg [⟨some 15, .mv (.s 5), none⟩,
     ⟨some 16, .bin .add (.s 15) (.k (litI .i64 1)), none⟩,
     ⟨some 5, .mv (.s 16), none⟩]
     [0, 1, 5])))
def c17 : C :=
 (.seq
  (.reg [⟨some 4, .mv (.k (litB false)), none⟩]
    [0, 1])
  (.seq
   (.seq
    (.reg [⟨some 6, .mv (.s 0), none⟩,
      ⟨some 7, .len (.s 6), none⟩,
      ⟨some 8, .mv (.s 1), none⟩,
      ⟨some 9, .len (.s 8), none⟩,
      ⟨some 10, .bin .neq (.s 7) (.s 9), none⟩]
      [0, 1, 10])
    (.cond (.s 10)
     (.seq
      (.reg [⟨some 4, .mv (.k (litB false)), none⟩]
        [4])
      .ret)
     .skip))
   (.seq
    (.seq
     (.reg [⟨some 5, .mv (.k (litI .i64 0)), none⟩]
       [0, 1, 5])
     (.block 0
      (.loop [0, 1, 5] c17l0)))
    (.seq
     (.reg [⟨some 4, .mv (.k (litB true)), none⟩]
       [4])
     .ret))))
def fn17 : F := ⟨2, 26, [.t 4], c17⟩
def an17 : Ann := ann [(0, [0, 1]), (1, [0, 1, 10]), (2, [4]), (3, [0, 1, 5]), (4, [0, 1, 5, 14]), (5, [0, 1, 5]), (6, [0, 1, 5, 25]), (7, [4]), (8, [4])] [(0, [0, 1, 5])] [] [(6, 8)]
theorem is17 : compF Try.prog an17 Try.f17 = some fn17 := by kernel_rfl

/- foliot/graph.back -/
def c18l0 : C :=
 (.seq
  (.reg [⟨some 18, .bin .lss (.s 17) (.s 16), none⟩]
    [0, 1, 5, 16, 17, 18])
  (.seq
   (.cond (.s 18)
    .skip
    (.exit 0))
   (.seq
    (.block 1
     (.seq
      (.reg [⟨some 19, .mv (.s 17), none⟩,
        ⟨some 6, .mv (.s 19), none⟩]
        [0, 1, 5, 6, 16, 17])
      (.reg [⟨some 20, .mv (.s 5), none⟩,
        ⟨some 21, .mv (.s 6), none⟩,
        ⟨some 22, .iadr 1 (.s 20) (.s 21), none⟩,
        ⟨none, .store 1 (.s 22) (.k (litI .i64 (-1))), none⟩]
        [0, 1, 5, 16, 17])))
    (.reg [⟨some 23, .bin .add (.s 17) (.k (litI .i64 1)), none⟩,
      ⟨some 17, .mv (.s 23), none⟩]
      [0, 1, 5, 16, 17]))))
def c18l1 : C :=
 (.seq
  (.seq
   (.reg [⟨some 47, .mv (.s 11), none⟩,
     ⟨some 48, .mv (.s 1), none⟩,
     ⟨some 49, .bin .neq (.s 47) (.s 48), none⟩]
     [1, 5, 10, 11, 49])
   (.cond (.s 49)
    .skip
    (.exit 6)))
  (.seq
   (.block 7
    (.reg [⟨some 54, .mv (.s 10), none⟩,
      ⟨some 55, .mv (.s 11), none⟩,
      ⟨some 56, .bslice false 1 1 [litI .i64 0] [(0, .s 55)] 3, none⟩,
      ⟨some 57, .app 1 8 3 (.s 54) (.s 56), none⟩,
      ⟨some 10, .mv (.s 57), none⟩]
      [1, 5, 10, 11]))
   (.reg [⟨some 50, .mv (.s 5), none⟩,
     ⟨some 51, .mv (.s 11), none⟩,
     ⟨some 52, .iadr 1 (.s 50) (.s 51), none⟩,
     ⟨some 53, .load none (.s 52), none⟩,
     ⟨some 11, .mv (.s 53), none⟩]
     [1, 5, 10, 11])))
def c18l2 : C :=
 (.seq
  (.reg [⟨some 38, .bin .lss (.s 37) (.s 36), none⟩]
    [0, 1, 5, 7, 35, 36, 37, 38])
  (.seq
   (.cond (.s 38)
    .skip
    (.exit 4))
   (.seq
    (.block 5
     (.seq
      (.reg [⟨some 39, .iadr 1 (.s 35) (.s 37), none⟩,
        ⟨some 40, .load none (.s 39), none⟩,
        ⟨some 9, .mv (.s 40), none⟩]
        [0, 1, 5, 7, 9, 35, 36, 37])
      (.seq
       (.seq
        (.reg [⟨some 41, .mv (.s 9), none⟩,
          ⟨some 42, .mv (.s 1), none⟩,
          ⟨some 43, .bin .eql (.s 41) (.s 42), none⟩]
          [0, 1, 5, 7, 9, 35, 36, 37, 43])
        (.cond (.s 43)
         (.seq
          (.reg [⟨some 10, .mv (.k (.sl 0 [] (some 0))), none⟩]
            [1, 5, 7, 10])
          (.seq
           (.seq
            (.reg [⟨some 44, .mv (.s 7), none⟩,
              ⟨some 45, .iadr 1 (.s 44) (.k (litI .i64 0)), none⟩,
              ⟨some 46, .load none (.s 45), none⟩,
              ⟨some 11, .mv (.s 46), none⟩]
              [1, 5, 10, 11])
            (.block 6
             (.loop [1, 5, 10, 11] c18l1)))
           (.seq
            (.reg [⟨some 58, .mv (.s 10), none⟩,
              ⟨some 59, .mv (.s 1), none⟩,
              ⟨some 60, .bslice false 1 1 [litI .i64 0] [(0, .s 59)] 3, none⟩,
              ⟨some 61, .app 1 8 3 (.s 58) (.s 60), none⟩,
              ⟨some 10, .mv (.s 61), none⟩]
              [10])
            (.seq
             (.reg [⟨some 62, .mv (.s 10), none⟩,
               ⟨some 63, .call (.k (.fn (.func 23) [] [])) [.s 62], none⟩]
               [10])
             (.seq
              (.reg [⟨some 64, .mv (.s 10), none⟩,
                ⟨some 4, .mv (.s 64), none⟩]
                [4])
              .ret)))))
         .skip))
       (.seq
        (.reg [⟨some 65, .mv (.s 5), none⟩,
          ⟨some 66, .mv (.s 9), none⟩,
          ⟨some 67, .iadr 1 (.s 65) (.s 66), none⟩,
          ⟨some 68, .load none (.s 67), none⟩,
          ⟨some 69, .bin .lss (.s 68) (.k (litI .i64 0)), none⟩]
          [0, 1, 5, 7, 9, 35, 36, 37, 69])
        (.cond (.s 69)
         (.seq
          (.reg [⟨some 70, .mv (.s 5), none⟩,
            ⟨some 71, .mv (.s 9), none⟩,
            ⟨some 72, .mv (.s 7), none⟩,
            ⟨some 73, .iadr 1 (.s 72) (.k (litI .i64 0)), none⟩,
            ⟨some 74, .load none (.s 73), none⟩,
            ⟨some 75, .iadr 1 (.s 70) (.s 71), none⟩,
            ⟨none, .store 1 (.s 75) (.s 74), none⟩]
            [0, 1, 5, 7, 9, 35, 36, 37])
          (.reg [⟨some 76, .mv (.s 7), none⟩,
            ⟨some 77, .mv (.s 9), none⟩,
            ⟨some 78, .bslice false 1 1 [litI .i64 0] [(0, .s 77)] 3, none⟩,
            ⟨some 79, .app 1 8 3 (.s 76) (.s 78), none⟩,
            ⟨some 7, .mv (.s 79), none⟩]
            [0, 1, 5, 7, 35, 36, 37]))
         .skip)))))
    (.reg [⟨some 80, .bin .add (.s 37) (.k (litI .i64 1)), none⟩,
      ⟨some 37, .mv (.s 80), none⟩]
      [0, 1, 5, 7, 35, 36, 37]))))
def c18l3 : C :=
 (.seq
  (.seq
   (.reg [⟨some 26, .mv (.s 7), none⟩,
     ⟨some 27, .len (.s 26), none⟩,
     ⟨some 28, .bin .gtr (.s 27) (.k (litI .i64 0)), none⟩]
     [0, 1, 5, 7, 28])
   (.cond (.s 28)
    .skip
    (.exit 2)))
  (.seq
   (.block 3
    (.seq
     (.reg [⟨some 31, .mv (.s 0), none⟩,
       ⟨some 32, .mv (.s 7), none⟩,
       ⟨some 33, .iadr 1 (.s 32) (.k (litI .i64 0)), none⟩,
       ⟨some 34, .load none (.s 33), none⟩,
       ⟨some 35, .call (.k (.fn (.func 13) [] [])) [.s 31, .s 34], none⟩,
       ⟨some 36, .len (.s 35), none⟩,
       ⟨some 37, .mv (.k (litI .i64 0)), none⟩]
       [0, 1, 5, 7, 35, 36, 37])
     (.block 4
      (.loop [0, 1, 5, 7, 35, 36, 37] c18l2))))
   (.reg [⟨some 29, .mv (.s 7), none⟩,
     ⟨some 30, .sli 1 (.s 29) (some (.k (litI .i64 1))) none none, none⟩,
     ⟨some 7, .mv (.s 30), none⟩]
     [0, 1, 5, 7])))
def c18 : C :=
 (.seq
  (.reg [⟨some 4, .mv (.k (.sl 0 [] (some 0))), none⟩]
    [0, 1])
  (.seq
   (.reg [⟨some 12, .mv (.s 0), none⟩,
     ⟨some 13, .len (.s 12), none⟩,
     ⟨some 14, .mks 1 8 [litI .i64 0] 3 (.s 13) (.s 13), none⟩,
     ⟨some 5, .mv (.s 14), none⟩]
     [0, 1, 5])
   (.seq
    (.seq
     (.reg [⟨some 15, .mv (.s 5), none⟩,
       ⟨some 16, .len (.s 15), none⟩,
       ⟨some 17, .mv (.k (litI .i64 0)), none⟩]
       [0, 1, 5, 16, 17])
     (.block 0
      (.loop [0, 1, 5, 16, 17] c18l0)))
    (.seq
     (.seq
      (.reg [⟨some 24, .mv (.s 1), none⟩,
        ⟨some 25, .bslice false 1 1 [litI .i64 0] [(0, .s 24)] 3, none⟩,
        ⟨some 7, .mv (.s 25), none⟩]
        [0, 1, 5, 7])
      (.block 2
       (.loop [0, 1, 5, 7] c18l3)))
     (.seq
      (.reg [⟨some 4, .mv (.k (.sl 0 [] (some 0))), none⟩]
        [4])
      .ret)))))
def fn18 : F := ⟨2, 81, [.t 4], c18⟩
def an18 : Ann := ann [(0, [0, 1]), (1, [0, 1, 5]), (2, [0, 1, 5, 16, 17]), (3, [0, 1, 5, 16, 17, 18]), (4, [0, 1, 5, 6, 16, 17]), (5, [0, 1, 5, 16, 17]), (6, [0, 1, 5, 16, 17]), (7, [0, 1, 5, 7]), (8, [0, 1, 5, 7, 28]), (9, [0, 1, 5, 7]), (10, [0, 1, 5, 7, 35, 36, 37]), (11, [0, 1, 5, 7, 35, 36, 37, 38]), (12, [0, 1, 5, 7, 9, 35, 36, 37]), (13, [0, 1, 5, 7, 9, 35, 36, 37, 43]), (14, [1, 5, 7, 10]), (15, [1, 5, 10, 11]), (16, [1, 5, 10, 11, 49]), (17, [1, 5, 10, 11]), (18, [1, 5, 10, 11]), (19, [10]), (20, [10]), (21, [4]), (22, [0, 1, 5, 7, 9, 35, 36, 37, 69]), (23, [0, 1, 5, 7, 9, 35, 36, 37]), (24, [0, 1, 5, 7, 35, 36, 37]), (25, [0, 1, 5, 7, 35, 36, 37]), (26, [4])] [(0, [0, 1, 5, 16, 17]), (2, [0, 1, 5, 7]), (4, [0, 1, 5, 7, 35, 36, 37]), (6, [1, 5, 10, 11])] [] []
theorem is18 : compF Try.prog an18 Try.f18 = some fn18 := by kernel_rfl

/- slices.Sort[[]int,int] -/
def c19 : C :=
 (.seq
  (.reg [⟨some 3, .mv (.s 0), none⟩,
    ⟨some 4, .len (.s 3), none⟩,
    ⟨some 2, .mv (.s 4), none⟩]
    [0, 2])
  (.reg [⟨some 5, .mv (.s 0), none⟩,
    ⟨some 6, .mv (.s 2), none⟩,
    ⟨some 7, .mv (.s 2), none⟩,
    ⟨some 8, .conv (.int .u64) (.s 7), none⟩,
    ⟨some 9, .call (.k (.fn (.func 25) [] [])) [.s 8], none⟩,
    ⟨some 10, .call (.k (.fn (.func 24) [] [])) [.s 5, .k (litI .i64 0), .s 6, .s 9], none⟩]
    []))
def fn19 : F := ⟨1, 11, [], c19⟩
def an19 : Ann := ann [(0, [0, 2]), (1, [])] [] [] []
theorem is19 : compF Try.prog an19 Try.f19 = some fn19 := by kernel_rfl

/- slices.Compact[[]int,int] -/
def c20l0 : C :=
 (.seq
  (.seq
   (.reg [⟨some 29, .mv (.s 5), none⟩,
     ⟨some 30, .mv (.s 4), none⟩,
     ⟨some 31, .len (.s 30), none⟩,
     ⟨some 32, .bin .lss (.s 29) (.s 31), none⟩]
     [0, 3, 4, 5, 32])
   (.cond (.s 32)
    .skip
    (.exit 2)))
  (.seq
   (.block 3
    (.seq
     (.draw [⟨some 35, .mv (.s 4), none⟩,
       ⟨some 36, .mv (.s 5), none⟩,
       ⟨some 37, .iadr 1 (.s 35) (.s 36), none⟩,
       ⟨some 38, .load none (.s 37), none⟩,
       ⟨some 39, .mv (.s 4), none⟩,
       ⟨some 40, .mv (.s 5), none⟩,
       ⟨some 41, .bin .sub (.s 40) (.k (litI .i64 1)), none⟩,
       ⟨some 42, .iadr 1 (.s 39) (.s 41), none⟩,
       ⟨some 43, .load none (.s 42), none⟩]
       [⟨some 44, .bin .neq (.s 38) (.s 43), none⟩] [0, 3, 4, 5, 44])
     (.cond (.s 44)
      (.seq
       (.reg [⟨some 45, .mv (.s 0), none⟩,
         ⟨some 46, .mv (.s 3), none⟩,
         ⟨some 47, .mv (.s 4), none⟩,
         ⟨some 48, .mv (.s 5), none⟩,
         ⟨some 49, .iadr 1 (.s 47) (.s 48), none⟩,
         ⟨some 50, .load none (.s 49), none⟩,
         ⟨some 51, .iadr 1 (.s 45) (.s 46), none⟩,
         ⟨none, .store 1 (.s 51) (.s 50), none⟩]
         [0, 3, 4, 5])
       (.reg [⟨some 52, .mv (.s 3), none⟩,
         ⟨some 53, .bin .add (.s 52) (.k (litI .i64 1)), none⟩,
         ⟨some 3, .mv (.s 53), none⟩]
         [0, 3, 4, 5]))
      .skip)))
   (.reg [⟨some 33, .mv (.s 5), none⟩,
     ⟨some 34, .bin .add (.s 33) (.k (litI .i64 1)), none⟩,
     ⟨some 5, .mv (.s 34), none⟩]
     [0, 3, 4, 5])))
def c20l1 : C :=
 (.seq
  (.seq
   (.reg [⟨some 10, .mv (.s 3), none⟩,
     ⟨some 11, .mv (.s 0), none⟩,
     ⟨some 12, .len (.s 11), none⟩,
     ⟨some 13, .bin .lss (.s 10) (.s 12), none⟩]
     [0, 3, 13])
   (.cond (.s 13)
    .skip
    (.exit 0)))
  (.seq
   (.block 1
    (.seq
     (.draw [⟨some 16, .mv (.s 0), none⟩,
       ⟨some 17, .mv (.s 3), none⟩,
       ⟨some 18, .iadr 1 (.s 16) (.s 17), none⟩,
       ⟨some 19, .load none (.s 18), none⟩,
       ⟨some 20, .mv (.s 0), none⟩,
       ⟨some 21, .mv (.s 3), none⟩,
       ⟨some 22, .bin .sub (.s 21) (.k (litI .i64 1)), none⟩,
       ⟨some 23, .iadr 1 (.s 20) (.s 22), none⟩,
       ⟨some 24, .load none (.s 23), none⟩]
       [⟨some 25, .bin .eql (.s 19) (.s 24), none⟩] [0, 3, 25])
     (.cond (.s 25)
      (.seq
       (.reg [⟨some 26, .mv (.s 0), none⟩,
         ⟨some 27, .mv (.s 3), none⟩,
         ⟨some 28, .sli 1 (.s 26) (some (.s 27)) none none, none⟩,
         ⟨some 4, .mv (.s 28), none⟩]
         [0, 3, 4])
       (.seq
        (.seq
         (.reg [⟨some 5, .mv (.k (litI .i64 1)), none⟩]
           [0, 3, 4, 5])
         (.block 2
          (.loop [0, 3, 4, 5] c20l0)))
        (.seq
         (.reg [⟨some 54, .mv (.s 0), none⟩,
           ⟨some 55, .mv (.s 3), none⟩,
           ⟨some 56, .sli 1 (.s 54) (some (.s 55)) none none, none⟩,
           ⟨none, .clr 1 [litI .i64 0] (.s 56), none⟩]
           [0, 3])
         (.seq
          (.reg [⟨some 57, .mv (.s 0), none⟩,
            ⟨some 58, .mv (.s 3), none⟩,
            ⟨some 59, .sli 1 (.s 57) none (some (.s 58)) none, none⟩,
            ⟨some 2, .mv (.s 59), none⟩]
            [2])
          .ret))))
      .skip)))
   (.reg [⟨some 14, .mv (.s 3), none⟩,
     ⟨some 15, .bin .add (.s 14) (.k (litI .i64 1)), none⟩,
     ⟨some 3, .mv (.s 15), none⟩]
     [0, 3])))
def c20 : C :=
 (.seq
  (.reg [⟨some 2, .mv (.k (.sl 0 [] (some 0))), none⟩]
    [0])
  (.seq
   (.seq
    (.reg [⟨some 6, .mv (.s 0), none⟩,
      ⟨some 7, .len (.s 6), none⟩,
      ⟨some 8, .bin .lss (.s 7) (.k (litI .i64 2)), none⟩]
      [0, 8])
    (.cond (.s 8)
     (.seq
      (.reg [⟨some 9, .mv (.s 0), none⟩,
        ⟨some 2, .mv (.s 9), none⟩]
        [2])
      .ret)
     .skip))
   (.seq
    (.seq
     (.reg [⟨some 3, .mv (.k (litI .i64 1)), none⟩]
       [0, 3])
     (.block 0
      (.loop [0, 3] c20l1)))
    (.seq
     (.reg [⟨some 60, .mv (.s 0), none⟩,
       ⟨some 2, .mv (.s 60), none⟩]
       [2])
     .ret))))
def fn20 : F := ⟨1, 61, [.t 2], c20⟩
def an20 : Ann := ann [(0, [0]), (1, [0, 8]), (2, [2]), (3, [0, 3]), (4, [0, 3, 13]), (5, [0, 3]), (6, [0, 3, 25]), (7, [0, 3, 4]), (8, [0, 3, 4, 5]), (9, [0, 3, 4, 5, 32]), (10, [0, 3, 4, 5]), (11, [0, 3, 4, 5, 44]), (12, [0, 3, 4, 5]), (13, [0, 3, 4, 5]), (14, [0, 3]), (15, [2]), (16, [2])] [(0, [0, 3]), (2, [0, 3, 4, 5])] [] [(6, 9), (11, 9)]
theorem is20 : compF Try.prog an20 Try.f20 = some fn20 := by kernel_rfl

/- container/heap.down -/
def c21l0 : C :=
 (.block 1
  (.seq
   (.reg [⟨some 12, .mv (.s 7), none⟩,
     ⟨some 13, .bin .mul (.k (litI .i64 2)) (.s 12), none⟩,
     ⟨some 14, .bin .add (.s 13) (.k (litI .i64 1)), none⟩,
     ⟨some 8, .mv (.s 14), none⟩]
     [0, 1, 2, 7, 8])
   (.seq
    (.seq
     (.reg [⟨some 15, .mv (.s 8), none⟩,
       ⟨some 16, .mv (.s 2), none⟩,
       ⟨some 17, .bin .geq (.s 15) (.s 16), none⟩,
       ⟨some 18, .mv (.s 17), none⟩,
       ⟨some 19, .mv (.s 8), some (18, false)⟩,
       ⟨some 20, .bin .lss (.s 19) (.k (litI .i64 0)), some (18, false)⟩,
       ⟨some 21, .pick (.s 18) (.k (litB true)) (.s 20), none⟩]
       [0, 1, 2, 7, 8, 21])
     (.cond (.s 21)
      (.exit 0)
      .skip))
    (.seq
     (.reg [⟨some 22, .mv (.s 8), none⟩,
       ⟨some 9, .mv (.s 22), none⟩]
       [0, 1, 2, 7, 8, 9])
     (.seq
      (.seq
       (.reg [⟨some 23, .mv (.s 8), none⟩,
         ⟨some 24, .bin .add (.s 23) (.k (litI .i64 1)), none⟩,
         ⟨some 10, .mv (.s 24), none⟩]
         [0, 1, 2, 7, 8, 9, 10])
       (.seq
        (.reg [⟨some 25, .mv (.s 10), none⟩,
          ⟨some 26, .mv (.s 2), none⟩,
          ⟨some 27, .bin .lss (.s 25) (.s 26), none⟩,
          ⟨some 28, .mv (.s 27), none⟩,
          ⟨some 29, .mv (.s 0), some (28, true)⟩,
          ⟨some 30, .mv (.s 10), some (28, true)⟩,
          ⟨some 31, .mv (.s 8), some (28, true)⟩,
          ⟨some 32, .inv (.s 29) "Less" [.s 30, .s 31], some (28, true)⟩,
          ⟨some 33, .pick (.s 28) (.s 32) (.k (litB false)), none⟩]
          [0, 1, 2, 7, 9, 10, 33])
        (.cond (.s 33)
         (.reg [⟨some 34, .mv (.s 10), none⟩,
           ⟨some 9, .mv (.s 34), none⟩]
           [0, 1, 2, 7, 9])
         .skip)))
      (.seq
       (.seq
        (.reg [⟨some 35, .mv (.s 0), none⟩,
          ⟨some 36, .mv (.s 9), none⟩,
          ⟨some 37, .mv (.s 7), none⟩,
          ⟨some 38, .inv (.s 35) "Less" [.s 36, .s 37], none⟩,
          ⟨some 39, .un .not (.s 38), none⟩]
          [0, 1, 2, 7, 9, 39])
        (.cond (.s 39)
         (.exit 0)
         .skip))
       (.seq
        (.reg [⟨some 40, .mv (.s 0), none⟩,
          ⟨some 41, .mv (.s 7), none⟩,
          ⟨some 42, .mv (.s 9), none⟩,
          ⟨some 43, .inv (.s 40) "Swap" [.s 41, .s 42], none⟩]
          [0, 1, 2, 9])
        (.reg [⟨some 44, .mv (.s 9), none⟩,
          ⟨some 7, .mv (.s 44), none⟩]
          [0, 1, 2, 7]))))))))
def c21 : C :=
 (.seq
  (.reg [⟨some 6, .mv (.k (litB false)), none⟩]
    [0, 1, 2])
  (.seq
   (.reg [⟨some 11, .mv (.s 1), none⟩,
     ⟨some 7, .mv (.s 11), none⟩]
     [0, 1, 2, 7])
   (.seq
    (.block 0
     (.loop [0, 1, 2, 7] c21l0))
    (.seq
     (.reg [⟨some 45, .mv (.s 7), none⟩,
       ⟨some 46, .mv (.s 1), none⟩,
       ⟨some 47, .bin .gtr (.s 45) (.s 46), none⟩,
       ⟨some 6, .mv (.s 47), none⟩]
       [6])
     .ret))))
def fn21 : F := ⟨3, 48, [.t 6], c21⟩
def an21 : Ann := ann [(0, [0, 1, 2]), (1, [0, 1, 2, 7]), (2, [0, 1, 2, 7, 8]), (3, [0, 1, 2, 7, 8, 21]), (4, [0, 1, 2, 7, 8, 9]), (5, [0, 1, 2, 7, 8, 9, 10]), (6, [0, 1, 2, 7, 9, 10, 33]), (7, [0, 1, 2, 7, 9]), (8, [0, 1, 2, 7, 9, 39]), (9, [0, 1, 2, 9]), (10, [0, 1, 2, 7]), (11, [6])] [(0, [0, 1, 2, 7])] [] []
theorem is21 : compF Try.prog an21 Try.f21 = some fn21 := by kernel_rfl

/- container/heap.up -/
def c22l0 : C :=
 (.block 1
  (.seq
   (.reg [⟨some 5, .mv (.s 1), none⟩,
     ⟨some 6, .bin .sub (.s 5) (.k (litI .i64 1)), none⟩,
     ⟨some 7, .bin .quo (.s 6) (.k (litI .i64 2)), none⟩,
     ⟨some 4, .mv (.s 7), none⟩]
     [0, 1, 4])
   (.seq
    (.seq
     (.reg [⟨some 8, .mv (.s 4), none⟩,
       ⟨some 9, .mv (.s 1), none⟩,
       ⟨some 10, .bin .eql (.s 8) (.s 9), none⟩,
       ⟨some 11, .mv (.s 10), none⟩,
       ⟨some 12, .mv (.s 0), some (11, false)⟩,
       ⟨some 13, .mv (.s 1), some (11, false)⟩,
       ⟨some 14, .mv (.s 4), some (11, false)⟩,
       ⟨some 15, .inv (.s 12) "Less" [.s 13, .s 14], some (11, false)⟩,
       ⟨some 16, .un .not (.s 15), some (11, false)⟩,
       ⟨some 17, .pick (.s 11) (.k (litB true)) (.s 16), none⟩]
       [0, 1, 4, 17])
     (.cond (.s 17)
      (.exit 0)
      .skip))
    (.seq
     (.reg [⟨some 18, .mv (.s 0), none⟩,
       ⟨some 19, .mv (.s 4), none⟩,
       ⟨some 20, .mv (.s 1), none⟩,
       ⟨some 21, .inv (.s 18) "Swap" [.s 19, .s 20], none⟩]
       [0, 4])
     (.reg [⟨some 22, .mv (.s 4), none⟩,
       ⟨some 1, .mv (.s 22), none⟩]
       [0, 1])))))
def c22 : C :=
 (.block 0
  (.loop [0, 1] c22l0))
def fn22 : F := ⟨2, 23, [], c22⟩
def an22 : Ann := ann [(0, [0, 1, 4]), (1, [0, 1, 4, 17]), (2, [0, 4]), (3, [0, 1])] [(0, [0, 1])] [] []
theorem is22 : compF Try.prog an22 Try.f22 = some fn22 := by kernel_rfl

/- slices.Reverse[[]int,int] -/
def c23l0 : C :=
 (.seq
  (.seq
   (.reg [⟨some 7, .mv (.s 2), none⟩,
     ⟨some 8, .mv (.s 3), none⟩,
     ⟨some 9, .bin .lss (.s 7) (.s 8), none⟩]
     [0, 2, 3, 9])
   (.cond (.s 9)
    .skip
    (.exit 0)))
  (.seq
   (.block 1
    (.draw [⟨some 14, .mv (.s 0), none⟩,
      ⟨some 15, .mv (.s 2), none⟩,
      ⟨some 16, .mv (.s 0), none⟩,
      ⟨some 17, .mv (.s 3), none⟩,
      ⟨some 18, .mv (.s 0), none⟩,
      ⟨some 19, .mv (.s 3), none⟩,
      ⟨some 20, .iadr 1 (.s 18) (.s 19), none⟩,
      ⟨some 21, .load none (.s 20), none⟩,
      ⟨some 22, .mv (.s 0), none⟩,
      ⟨some 23, .mv (.s 2), none⟩,
      ⟨some 24, .iadr 1 (.s 22) (.s 23), none⟩,
      ⟨some 25, .load none (.s 24), none⟩]
      [⟨some 26, .iadr 1 (.s 14) (.s 15), none⟩,
      ⟨none, .store 1 (.s 26) (.s 21), none⟩,
      ⟨some 27, .iadr 1 (.s 16) (.s 17), none⟩,
      ⟨none, .store 1 (.s 27) (.s 25), none⟩] [0, 2, 3]))
   (.reg [⟨some 10, .mv (.s 2), none⟩,
     ⟨some 11, .bin .add (.s 10) (.k (litI .i64 1)), none⟩,
     ⟨some 12, .mv (.s 3), none⟩,
     ⟨some 13, .bin .sub (.s 12) (.k (litI .i64 1)), none⟩,
     ⟨some 2, .mv (.s 11), none⟩,
     ⟨some 3, .mv (.s 13), none⟩]
     [0, 2, 3])))
def c23 : C :=
 (.seq
  (.reg [⟨some 4, .mv (.s 0), none⟩,
    ⟨some 5, .len (.s 4), none⟩,
    ⟨some 6, .bin .sub (.s 5) (.k (litI .i64 1)), none⟩,
    ⟨some 2, .mv (.k (litI .i64 0)), none⟩,
    ⟨some 3, .mv (.s 6), none⟩]
    [0, 2, 3])
  (.block 0
   (.loop [0, 2, 3] c23l0)))
def fn23 : F := ⟨1, 28, [], c23⟩
def an23 : Ann := ann [(0, [0, 2, 3]), (1, [0, 2, 3, 9]), (2, [0, 2, 3]), (3, [0, 2, 3])] [(0, [0, 2, 3])] [] [(3, 12)]
theorem is23 : compF Try.prog an23 Try.f23 = some fn23 := by kernel_rfl

/- slices.pdqsortOrdered[int] -/
def c24l0 : C :=
 (.block 1
  (.seq
   (.reg [⟨some 19, .mv (.s 2), none⟩,
     ⟨some 20, .mv (.s 1), none⟩,
     ⟨some 21, .bin .sub (.s 19) (.s 20), none⟩,
     ⟨some 10, .mv (.s 21), none⟩]
     [0, 1, 2, 3, 8, 9, 10])
   (.seq
    (.seq
     (.reg [⟨some 22, .mv (.s 10), none⟩,
       ⟨some 23, .bin .leq (.s 22) (.k (litI .i64 12)), none⟩]
       [0, 1, 2, 3, 8, 9, 10, 23])
     (.cond (.s 23)
      (.seq
       (.reg [⟨some 24, .mv (.s 0), none⟩,
         ⟨some 25, .mv (.s 1), none⟩,
         ⟨some 26, .mv (.s 2), none⟩,
         ⟨some 27, .call (.k (.fn (.func 26) [] [])) [.s 24, .s 25, .s 26], none⟩]
         [])
       .ret)
      .skip))
    (.seq
     (.seq
      (.reg [⟨some 28, .mv (.s 3), none⟩,
        ⟨some 29, .bin .eql (.s 28) (.k (litI .i64 0)), none⟩]
        [0, 1, 2, 3, 8, 9, 10, 29])
      (.cond (.s 29)
       (.seq
        (.reg [⟨some 30, .mv (.s 0), none⟩,
          ⟨some 31, .mv (.s 1), none⟩,
          ⟨some 32, .mv (.s 2), none⟩,
          ⟨some 33, .call (.k (.fn (.func 27) [] [])) [.s 30, .s 31, .s 32], none⟩]
          [])
        .ret)
       .skip))
     (.seq
      (.seq
       (.reg [⟨some 34, .mv (.s 8), none⟩,
         ⟨some 35, .un .not (.s 34), none⟩]
         [0, 1, 2, 3, 8, 9, 10, 35])
       (.cond (.s 35)
        (.seq
         (.reg [⟨some 36, .mv (.s 0), none⟩,
           ⟨some 37, .mv (.s 1), none⟩,
           ⟨some 38, .mv (.s 2), none⟩,
           ⟨some 39, .call (.k (.fn (.func 28) [] [])) [.s 36, .s 37, .s 38], none⟩]
           [0, 1, 2, 3, 8, 9, 10])
         (.reg [⟨some 40, .mv (.s 3), none⟩,
           ⟨some 41, .bin .sub (.s 40) (.k (litI .i64 1)), none⟩,
           ⟨some 3, .mv (.s 41), none⟩]
           [0, 1, 2, 3, 8, 9, 10]))
        .skip))
      (.seq
       (.reg [⟨some 43, .mv (.s 0), none⟩,
         ⟨some 44, .mv (.s 1), none⟩,
         ⟨some 45, .mv (.s 2), none⟩,
         ⟨some 46, .call (.k (.fn (.func 29) [] [])) [.s 43, .s 44, .s 45], none⟩,
         ⟨some 42, .mv (.s 46), none⟩,
         ⟨some 47, .ext (.s 42) 0, none⟩,
         ⟨some 48, .ext (.s 42) 1, none⟩,
         ⟨some 11, .mv (.s 47), none⟩,
         ⟨some 12, .mv (.s 48), none⟩]
         [0, 1, 2, 3, 8, 9, 10, 11, 12])
       (.seq
        (.seq
         (.reg [⟨some 49, .mv (.s 12), none⟩,
           ⟨some 50, .bin .eql (.s 49) (.k (litI .i64 2)), none⟩]
           [0, 1, 2, 3, 8, 9, 10, 11, 12, 50])
         (.cond (.s 50)
          (.seq
           (.reg [⟨some 51, .mv (.s 0), none⟩,
             ⟨some 52, .mv (.s 1), none⟩,
             ⟨some 53, .mv (.s 2), none⟩,
             ⟨some 54, .call (.k (.fn (.func 30) [] [])) [.s 51, .s 52, .s 53], none⟩]
             [0, 1, 2, 3, 8, 9, 10, 11])
           (.seq
            (.reg [⟨some 55, .mv (.s 2), none⟩,
              ⟨some 56, .bin .sub (.s 55) (.k (litI .i64 1)), none⟩,
              ⟨some 57, .mv (.s 11), none⟩,
              ⟨some 58, .mv (.s 1), none⟩,
              ⟨some 59, .bin .sub (.s 57) (.s 58), none⟩,
              ⟨some 60, .bin .sub (.s 56) (.s 59), none⟩,
              ⟨some 11, .mv (.s 60), none⟩]
              [0, 1, 2, 3, 8, 9, 10, 11])
            (.reg [⟨some 12, .mv (.k (litI .i64 1)), none⟩]
              [0, 1, 2, 3, 8, 9, 10, 11, 12])))
          .skip))
        (.seq
         (.seq
          (.reg [⟨some 61, .mv (.s 8), none⟩,
            ⟨some 62, .mv (.s 61), none⟩,
            ⟨some 63, .mv (.s 9), some (62, true)⟩,
            ⟨some 64, .pick (.s 62) (.s 63) (.k (litB false)), none⟩,
            ⟨some 65, .mv (.s 64), none⟩,
            ⟨some 66, .mv (.s 12), some (65, true)⟩,
            ⟨some 67, .bin .eql (.s 66) (.k (litI .i64 1)), some (65, true)⟩,
            ⟨some 68, .pick (.s 65) (.s 67) (.k (litB false)), none⟩]
            [0, 1, 2, 3, 8, 9, 10, 11, 68])
          (.cond (.s 68)
           (.seq
            (.reg [⟨some 69, .mv (.s 0), none⟩,
              ⟨some 70, .mv (.s 1), none⟩,
              ⟨some 71, .mv (.s 2), none⟩,
              ⟨some 72, .call (.k (.fn (.func 31) [] [])) [.s 69, .s 70, .s 71], none⟩]
              [0, 1, 2, 3, 8, 9, 10, 11, 72])
            (.cond (.s 72)
             .ret
             .skip))
           .skip))
         (.seq
          (.seq
           (.draw [⟨some 73, .mv (.s 1), none⟩,
             ⟨some 74, .bin .gtr (.s 73) (.k (litI .i64 0)), none⟩,
             ⟨some 75, .mv (.s 74), none⟩,
             ⟨some 76, .mv (.s 0), some (75, true)⟩,
             ⟨some 77, .mv (.s 1), some (75, true)⟩,
             ⟨some 78, .bin .sub (.s 77) (.k (litI .i64 1)), some (75, true)⟩,
             ⟨some 79, .iadr 1 (.s 76) (.s 78), some (75, true)⟩,
             ⟨some 80, .load none (.s 79), some (75, true)⟩,
             ⟨some 81, .mv (.s 0), some (75, true)⟩,
             ⟨some 82, .mv (.s 11), some (75, true)⟩,
             ⟨some 83, .iadr 1 (.s 81) (.s 82), some (75, true)⟩,
             ⟨some 84, .load none (.s 83), some (75, true)⟩]
             [⟨some 85, .call (.k (.fn (.func 32) [] [])) [.s 80, .s 84], some (75, true)⟩,
             ⟨some 86, .un .not (.s 85), some (75, true)⟩,
             ⟨some 87, .pick (.s 75) (.s 86) (.k (litB false)), none⟩] [0, 1, 2, 3, 8, 9, 10, 11, 87])
           (.cond (.s 87)
            (.seq
             (.reg [⟨some 88, .mv (.s 0), none⟩,
               ⟨some 89, .mv (.s 1), none⟩,
               ⟨some 90, .mv (.s 2), none⟩,
               ⟨some 91, .mv (.s 11), none⟩,
               ⟨some 92, .call (.k (.fn (.func 33) [] [])) [.s 88, .s 89, .s 90, .s 91], none⟩,
               ⟨some 13, .mv (.s 92), none⟩]
               [0, 2, 3, 8, 9, 13])
             (.seq
              (.reg [⟨some 93, .mv (.s 13), none⟩,
                ⟨some 1, .mv (.s 93), none⟩]
                [0, 1, 2, 3, 8, 9])
              (.exit 1)))
            .skip))
          (.seq
           (.reg [⟨some 95, .mv (.s 0), none⟩,
             ⟨some 96, .mv (.s 1), none⟩,
             ⟨some 97, .mv (.s 2), none⟩,
             ⟨some 98, .mv (.s 11), none⟩,
             ⟨some 99, .call (.k (.fn (.func 34) [] [])) [.s 95, .s 96, .s 97, .s 98], none⟩,
             ⟨some 94, .mv (.s 99), none⟩,
             ⟨some 100, .ext (.s 94) 0, none⟩,
             ⟨some 101, .ext (.s 94) 1, none⟩,
             ⟨some 14, .mv (.s 100), none⟩,
             ⟨some 15, .mv (.s 101), none⟩]
             [0, 1, 2, 3, 10, 14, 15])
           (.seq
            (.reg [⟨some 102, .mv (.s 15), none⟩,
              ⟨some 9, .mv (.s 102), none⟩]
              [0, 1, 2, 3, 9, 10, 14])
            (.seq
             (.reg [⟨some 103, .mv (.s 14), none⟩,
               ⟨some 104, .mv (.s 1), none⟩,
               ⟨some 105, .bin .sub (.s 103) (.s 104), none⟩,
               ⟨some 106, .mv (.s 2), none⟩,
               ⟨some 107, .mv (.s 14), none⟩,
               ⟨some 108, .bin .sub (.s 106) (.s 107), none⟩,
               ⟨some 16, .mv (.s 105), none⟩,
               ⟨some 17, .mv (.s 108), none⟩]
               [0, 1, 2, 3, 9, 10, 14, 16, 17])
             (.seq
              (.reg [⟨some 109, .mv (.s 10), none⟩,
                ⟨some 110, .bin .quo (.s 109) (.k (litI .i64 8)), none⟩,
                ⟨some 18, .mv (.s 110), none⟩]
                [0, 1, 2, 3, 9, 14, 16, 17, 18])
              (.seq
               (.reg [⟨some 111, .mv (.s 16), none⟩,
                 ⟨some 112, .mv (.s 17), none⟩,
                 ⟨some 113, .bin .lss (.s 111) (.s 112), none⟩]
                 [0, 1, 2, 3, 9, 14, 16, 17, 18, 113])
               (.cond (.s 113)
                (.seq
                 (.reg [⟨some 114, .mv (.s 16), none⟩,
                   ⟨some 115, .mv (.s 18), none⟩,
                   ⟨some 116, .bin .geq (.s 114) (.s 115), none⟩,
                   ⟨some 8, .mv (.s 116), none⟩]
                   [0, 1, 2, 3, 8, 9, 14])
                 (.seq
                  (.reg [⟨some 117, .mv (.s 0), none⟩,
                    ⟨some 118, .mv (.s 1), none⟩,
                    ⟨some 119, .mv (.s 14), none⟩,
                    ⟨some 120, .mv (.s 3), none⟩,
                    ⟨some 121, .call (.k (.fn (.func 24) [] [])) [.s 117, .s 118, .s 119, .s 120], none⟩]
                    [0, 2, 3, 8, 9, 14])
                  (.reg [⟨some 122, .mv (.s 14), none⟩,
                    ⟨some 123, .bin .add (.s 122) (.k (litI .i64 1)), none⟩,
                    ⟨some 1, .mv (.s 123), none⟩]
                    [0, 1, 2, 3, 8, 9])))
                (.seq
                 (.reg [⟨some 124, .mv (.s 17), none⟩,
                   ⟨some 125, .mv (.s 18), none⟩,
                   ⟨some 126, .bin .geq (.s 124) (.s 125), none⟩,
                   ⟨some 8, .mv (.s 126), none⟩]
                   [0, 1, 2, 3, 8, 9, 14])
                 (.seq
                  (.reg [⟨some 127, .mv (.s 0), none⟩,
                    ⟨some 128, .mv (.s 14), none⟩,
                    ⟨some 129, .bin .add (.s 128) (.k (litI .i64 1)), none⟩,
                    ⟨some 130, .mv (.s 2), none⟩,
                    ⟨some 131, .mv (.s 3), none⟩,
                    ⟨some 132, .call (.k (.fn (.func 24) [] [])) [.s 127, .s 129, .s 130, .s 131], none⟩]
                    [0, 1, 3, 8, 9, 14])
                  (.reg [⟨some 133, .mv (.s 14), none⟩,
                    ⟨some 2, .mv (.s 133), none⟩]
                    [0, 1, 2, 3, 8, 9]))))))))))))))))))
def c24 : C :=
 (.seq
  (.reg [⟨some 8, .mv (.k (litB true)), none⟩]
    [0, 1, 2, 3, 8])
  (.seq
   (.reg [⟨some 9, .mv (.k (litB true)), none⟩]
     [0, 1, 2, 3, 8, 9])
   (.block 0
    (.loop [0, 1, 2, 3, 8, 9] c24l0))))
def fn24 : F := ⟨4, 134, [], c24⟩
def an24 : Ann := ann [(0, [0, 1, 2, 3, 8]), (1, [0, 1, 2, 3, 8, 9]), (2, [0, 1, 2, 3, 8, 9, 10]), (3, [0, 1, 2, 3, 8, 9, 10, 23]), (4, []), (5, [0, 1, 2, 3, 8, 9, 10, 29]), (6, []), (7, [0, 1, 2, 3, 8, 9, 10, 35]), (8, [0, 1, 2, 3, 8, 9, 10]), (9, [0, 1, 2, 3, 8, 9, 10]), (10, [0, 1, 2, 3, 8, 9, 10, 11, 12]), (11, [0, 1, 2, 3, 8, 9, 10, 11, 12, 50]), (12, [0, 1, 2, 3, 8, 9, 10, 11]), (13, [0, 1, 2, 3, 8, 9, 10, 11]), (14, [0, 1, 2, 3, 8, 9, 10, 11, 12]), (15, [0, 1, 2, 3, 8, 9, 10, 11, 68]), (16, [0, 1, 2, 3, 8, 9, 10, 11, 72]), (17, [0, 1, 2, 3, 8, 9, 10, 11, 87]), (18, [0, 2, 3, 8, 9, 13]), (19, [0, 1, 2, 3, 8, 9]), (20, [0, 1, 2, 3, 10, 14, 15]), (21, [0, 1, 2, 3, 9, 10, 14]), (22, [0, 1, 2, 3, 9, 10, 14, 16, 17]), (23, [0, 1, 2, 3, 9, 14, 16, 17, 18]), (24, [0, 1, 2, 3, 9, 14, 16, 17, 18, 113]), (25, [0, 1, 2, 3, 8, 9, 14]), (26, [0, 2, 3, 8, 9, 14]), (27, [0, 1, 2, 3, 8, 9]), (28, [0, 1, 2, 3, 8, 9, 14]), (29, [0, 1, 3, 8, 9, 14]), (30, [0, 1, 2, 3, 8, 9])] [(0, [0, 1, 2, 3, 8, 9])] [] [(17, 12)]
theorem is24 : compF Try.prog an24 Try.f24 = some fn24 := by kernel_rfl

/- math/bits.Len -/
def c25 : C :=
 (.seq
  (.reg [⟨some 2, .mv (.k (litI .i64 0)), none⟩]
    [0])
  (.seq
   (.cond (.k (litB false))
    (.seq
     (.reg [⟨some 3, .mv (.s 0), none⟩,
       ⟨some 4, .conv (.int .u32) (.s 3), none⟩,
       ⟨some 5, .call (.k (.fn (.func 35) [] [])) [.s 4], none⟩,
       ⟨some 2, .mv (.s 5), none⟩]
       [2])
     .ret)
    .skip)
   (.seq
    (.reg [⟨some 6, .mv (.s 0), none⟩,
      ⟨some 7, .call (.k (.fn (.func 36) [] [])) [.s 6], none⟩,
      ⟨some 2, .mv (.s 7), none⟩]
      [2])
    .ret)))
def fn25 : F := ⟨1, 8, [.t 2], c25⟩
def an25 : Ann := ann [(0, [0]), (1, [2]), (2, [2])] [] [] []
theorem is25 : compF Try.prog an25 Try.f25 = some fn25 := by kernel_rfl

/- slices.insertionSortOrdered[int] -/
def c26l0 : C :=
 (.seq
  (.seq
   (.draw [⟨some 16, .mv (.s 7), none⟩,
     ⟨some 17, .mv (.s 1), none⟩,
     ⟨some 18, .bin .gtr (.s 16) (.s 17), none⟩,
     ⟨some 19, .mv (.s 18), none⟩,
     ⟨some 20, .mv (.s 0), some (19, true)⟩,
     ⟨some 21, .mv (.s 7), some (19, true)⟩,
     ⟨some 22, .iadr 1 (.s 20) (.s 21), some (19, true)⟩,
     ⟨some 23, .load none (.s 22), some (19, true)⟩,
     ⟨some 24, .mv (.s 0), some (19, true)⟩,
     ⟨some 25, .mv (.s 7), some (19, true)⟩,
     ⟨some 26, .bin .sub (.s 25) (.k (litI .i64 1)), some (19, true)⟩,
     ⟨some 27, .iadr 1 (.s 24) (.s 26), some (19, true)⟩,
     ⟨some 28, .load none (.s 27), some (19, true)⟩]
     [⟨some 29, .call (.k (.fn (.func 32) [] [])) [.s 23, .s 28], some (19, true)⟩,
     ⟨some 30, .pick (.s 19) (.s 29) (.k (litB false)), none⟩] [0, 1, 2, 6, 7, 30])
   (.cond (.s 30)
    .skip
    (.exit 2)))
  (.seq
   (.block 3
    (.draw [⟨some 33, .mv (.s 0), none⟩,
      ⟨some 34, .mv (.s 7), none⟩,
      ⟨some 35, .mv (.s 0), none⟩,
      ⟨some 36, .mv (.s 7), none⟩,
      ⟨some 37, .bin .sub (.s 36) (.k (litI .i64 1)), none⟩,
      ⟨some 38, .mv (.s 0), none⟩,
      ⟨some 39, .mv (.s 7), none⟩,
      ⟨some 40, .bin .sub (.s 39) (.k (litI .i64 1)), none⟩,
      ⟨some 41, .iadr 1 (.s 38) (.s 40), none⟩,
      ⟨some 42, .load none (.s 41), none⟩,
      ⟨some 43, .mv (.s 0), none⟩,
      ⟨some 44, .mv (.s 7), none⟩,
      ⟨some 45, .iadr 1 (.s 43) (.s 44), none⟩,
      ⟨some 46, .load none (.s 45), none⟩]
      [⟨some 47, .iadr 1 (.s 33) (.s 34), none⟩,
      ⟨none, .store 1 (.s 47) (.s 42), none⟩,
      ⟨some 48, .iadr 1 (.s 35) (.s 37), none⟩,
      ⟨none, .store 1 (.s 48) (.s 46), none⟩] [0, 1, 2, 6, 7]))
   (.reg [⟨some 31, .mv (.s 7), none⟩,
     ⟨some 32, .bin .sub (.s 31) (.k (litI .i64 1)), none⟩,
     ⟨some 7, .mv (.s 32), none⟩]
     [0, 1, 2, 6, 7])))
def c26l1 : C :=
 (.seq
  (.seq
   (.reg [⟨some 10, .mv (.s 6), none⟩,
     ⟨some 11, .mv (.s 2), none⟩,
     ⟨some 12, .bin .lss (.s 10) (.s 11), none⟩]
     [0, 1, 2, 6, 12])
   (.cond (.s 12)
    .skip
    (.exit 0)))
  (.seq
   (.block 1
    (.seq
     (.reg [⟨some 15, .mv (.s 6), none⟩,
       ⟨some 7, .mv (.s 15), none⟩]
       [0, 1, 2, 6, 7])
     (.block 2
      (.loop [0, 1, 2, 6, 7] c26l0))))
   (.reg [⟨some 13, .mv (.s 6), none⟩,
     ⟨some 14, .bin .add (.s 13) (.k (litI .i64 1)), none⟩,
     ⟨some 6, .mv (.s 14), none⟩]
     [0, 1, 2, 6])))
def c26 : C :=
 (.seq
  (.reg [⟨some 8, .mv (.s 1), none⟩,
    ⟨some 9, .bin .add (.s 8) (.k (litI .i64 1)), none⟩,
    ⟨some 6, .mv (.s 9), none⟩]
    [0, 1, 2, 6])
  (.block 0
   (.loop [0, 1, 2, 6] c26l1)))
def fn26 : F := ⟨3, 49, [], c26⟩
def an26 : Ann := ann [(0, [0, 1, 2, 6]), (1, [0, 1, 2, 6, 12]), (2, [0, 1, 2, 6]), (3, [0, 1, 2, 6, 7]), (4, [0, 1, 2, 6, 7, 30]), (5, [0, 1, 2, 6, 7]), (6, [0, 1, 2, 6, 7])] [(0, [0, 1, 2, 6]), (2, [0, 1, 2, 6, 7])] [] [(4, 13), (6, 14)]
theorem is26 : compF Try.prog an26 Try.f26 = some fn26 := by kernel_rfl

/- slices.heapSortOrdered[int] -/
def c27l0 : C :=
 (.seq
  (.seq
   (.reg [⟨some 18, .mv (.s 9), none⟩,
     ⟨some 19, .bin .geq (.s 18) (.k (litI .i64 0)), none⟩]
     [0, 6, 7, 8, 9, 19])
   (.cond (.s 19)
    .skip
    (.exit 0)))
  (.seq
   (.block 1
    (.reg [⟨some 22, .mv (.s 0), none⟩,
      ⟨some 23, .mv (.s 9), none⟩,
      ⟨some 24, .mv (.s 8), none⟩,
      ⟨some 25, .mv (.s 6), none⟩,
      ⟨some 26, .call (.k (.fn (.func 37) [] [])) [.s 22, .s 23, .s 24, .s 25], none⟩]
      [0, 6, 7, 8, 9]))
   (.reg [⟨some 20, .mv (.s 9), none⟩,
     ⟨some 21, .bin .sub (.s 20) (.k (litI .i64 1)), none⟩,
     ⟨some 9, .mv (.s 21), none⟩]
     [0, 6, 7, 8, 9])))
def c27l1 : C :=
 (.seq
  (.seq
   (.reg [⟨some 29, .mv (.s 10), none⟩,
     ⟨some 30, .bin .geq (.s 29) (.k (litI .i64 0)), none⟩]
     [0, 6, 7, 10, 30])
   (.cond (.s 30)
    .skip
    (.exit 2)))
  (.seq
   (.block 3
    (.seq
     (.draw [⟨some 33, .mv (.s 0), none⟩,
       ⟨some 34, .mv (.s 6), none⟩,
       ⟨some 35, .mv (.s 0), none⟩,
       ⟨some 36, .mv (.s 6), none⟩,
       ⟨some 37, .mv (.s 10), none⟩,
       ⟨some 38, .bin .add (.s 36) (.s 37), none⟩,
       ⟨some 39, .mv (.s 0), none⟩,
       ⟨some 40, .mv (.s 6), none⟩,
       ⟨some 41, .mv (.s 10), none⟩,
       ⟨some 42, .bin .add (.s 40) (.s 41), none⟩,
       ⟨some 43, .iadr 1 (.s 39) (.s 42), none⟩,
       ⟨some 44, .load none (.s 43), none⟩,
       ⟨some 45, .mv (.s 0), none⟩,
       ⟨some 46, .mv (.s 6), none⟩,
       ⟨some 47, .iadr 1 (.s 45) (.s 46), none⟩,
       ⟨some 48, .load none (.s 47), none⟩]
       [⟨some 49, .iadr 1 (.s 33) (.s 34), none⟩,
       ⟨none, .store 1 (.s 49) (.s 44), none⟩,
       ⟨some 50, .iadr 1 (.s 35) (.s 38), none⟩,
       ⟨none, .store 1 (.s 50) (.s 48), none⟩] [0, 6, 7, 10])
     (.reg [⟨some 51, .mv (.s 0), none⟩,
       ⟨some 52, .mv (.s 7), none⟩,
       ⟨some 53, .mv (.s 10), none⟩,
       ⟨some 54, .mv (.s 6), none⟩,
       ⟨some 55, .call (.k (.fn (.func 37) [] [])) [.s 51, .s 52, .s 53, .s 54], none⟩]
       [0, 6, 7, 10])))
   (.reg [⟨some 31, .mv (.s 10), none⟩,
     ⟨some 32, .bin .sub (.s 31) (.k (litI .i64 1)), none⟩,
     ⟨some 10, .mv (.s 32), none⟩]
     [0, 6, 7, 10])))
def c27 : C :=
 (.seq
  (.reg [⟨some 11, .mv (.s 1), none⟩,
    ⟨some 6, .mv (.s 11), none⟩]
    [0, 1, 2, 6])
  (.seq
   (.reg [⟨some 7, .mv (.k (litI .i64 0)), none⟩]
     [0, 1, 2, 6, 7])
   (.seq
    (.reg [⟨some 12, .mv (.s 2), none⟩,
      ⟨some 13, .mv (.s 1), none⟩,
      ⟨some 14, .bin .sub (.s 12) (.s 13), none⟩,
      ⟨some 8, .mv (.s 14), none⟩]
      [0, 6, 7, 8])
    (.seq
     (.seq
      (.reg [⟨some 15, .mv (.s 8), none⟩,
        ⟨some 16, .bin .sub (.s 15) (.k (litI .i64 1)), none⟩,
        ⟨some 17, .bin .quo (.s 16) (.k (litI .i64 2)), none⟩,
        ⟨some 9, .mv (.s 17), none⟩]
        [0, 6, 7, 8, 9])
      (.block 0
       (.loop [0, 6, 7, 8, 9] c27l0)))
     (.seq
      (.reg [⟨some 27, .mv (.s 8), none⟩,
        ⟨some 28, .bin .sub (.s 27) (.k (litI .i64 1)), none⟩,
        ⟨some 10, .mv (.s 28), none⟩]
        [0, 6, 7, 10])
      (.block 2
       (.loop [0, 6, 7, 10] c27l1)))))))
def fn27 : F := ⟨3, 56, [], c27⟩
def an27 : Ann := ann [(0, [0, 1, 2, 6]), (1, [0, 1, 2, 6, 7]), (2, [0, 6, 7, 8]), (3, [0, 6, 7, 8, 9]), (4, [0, 6, 7, 8, 9, 19]), (5, [0, 6, 7, 8, 9]), (6, [0, 6, 7, 8, 9]), (7, [0, 6, 7, 10]), (8, [0, 6, 7, 10, 30]), (9, [0, 6, 7, 10]), (10, [0, 6, 7, 10]), (11, [0, 6, 7, 10])] [(0, [0, 6, 7, 8, 9]), (2, [0, 6, 7, 10])] [] [(10, 16)]
theorem is27 : compF Try.prog an27 Try.f27 = some fn27 := by kernel_rfl

/- slices.breakPatternsOrdered[int] -/
def c28l0 : C :=
 (.seq
  (.seq
   (.reg [⟨some 26, .mv (.s 9), none⟩,
     ⟨some 27, .mv (.s 1), none⟩,
     ⟨some 28, .mv (.s 6), none⟩,
     ⟨some 29, .bin .quo (.s 28) (.k (litI .i64 4)), none⟩,
     ⟨some 30, .bin .mul (.s 29) (.k (litI .i64 2)), none⟩,
     ⟨some 31, .bin .add (.s 27) (.s 30), none⟩,
     ⟨some 32, .bin .add (.s 31) (.k (litI .i64 1)), none⟩,
     ⟨some 33, .bin .leq (.s 26) (.s 32), none⟩]
     [0, 1, 6, 7, 8, 9, 33])
   (.cond (.s 33)
    .skip
    (.exit 0)))
  (.seq
   (.block 1
    (.seq
     (.reg [⟨some 36, .call (.k (.fn (.func 39) [] [])) [.s 7], none⟩,
       ⟨some 37, .mv (.s 8), none⟩,
       ⟨some 38, .bin .sub (.s 37) (.k (litI .u64 1)), none⟩,
       ⟨some 39, .bin .and (.s 36) (.s 38), none⟩,
       ⟨some 40, .conv (.int .i64) (.s 39), none⟩,
       ⟨some 10, .mv (.s 40), none⟩]
       [0, 1, 6, 7, 8, 9, 10])
     (.seq
      (.seq
       (.reg [⟨some 41, .mv (.s 10), none⟩,
         ⟨some 42, .mv (.s 6), none⟩,
         ⟨some 43, .bin .geq (.s 41) (.s 42), none⟩]
         [0, 1, 6, 7, 8, 9, 10, 43])
       (.cond (.s 43)
        (.reg [⟨some 44, .mv (.s 10), none⟩,
          ⟨some 45, .mv (.s 6), none⟩,
          ⟨some 46, .bin .sub (.s 44) (.s 45), none⟩,
          ⟨some 10, .mv (.s 46), none⟩]
          [0, 1, 6, 7, 8, 9, 10])
        .skip))
      (.draw [⟨some 47, .mv (.s 0), none⟩,
        ⟨some 48, .mv (.s 9), none⟩,
        ⟨some 49, .mv (.s 0), none⟩,
        ⟨some 50, .mv (.s 1), none⟩,
        ⟨some 51, .mv (.s 10), none⟩,
        ⟨some 52, .bin .add (.s 50) (.s 51), none⟩,
        ⟨some 53, .mv (.s 0), none⟩,
        ⟨some 54, .mv (.s 1), none⟩,
        ⟨some 55, .mv (.s 10), none⟩,
        ⟨some 56, .bin .add (.s 54) (.s 55), none⟩,
        ⟨some 57, .iadr 1 (.s 53) (.s 56), none⟩,
        ⟨some 58, .load none (.s 57), none⟩,
        ⟨some 59, .mv (.s 0), none⟩,
        ⟨some 60, .mv (.s 9), none⟩,
        ⟨some 61, .iadr 1 (.s 59) (.s 60), none⟩,
        ⟨some 62, .load none (.s 61), none⟩]
        [⟨some 63, .iadr 1 (.s 47) (.s 48), none⟩,
        ⟨none, .store 1 (.s 63) (.s 58), none⟩,
        ⟨some 64, .iadr 1 (.s 49) (.s 52), none⟩,
        ⟨none, .store 1 (.s 64) (.s 62), none⟩] [0, 1, 6, 7, 8, 9]))))
   (.reg [⟨some 34, .mv (.s 9), none⟩,
     ⟨some 35, .bin .add (.s 34) (.k (litI .i64 1)), none⟩,
     ⟨some 9, .mv (.s 35), none⟩]
     [0, 1, 6, 7, 8, 9])))
def c28 : C :=
 (.seq
  (.reg [⟨some 11, .mv (.s 2), none⟩,
    ⟨some 12, .mv (.s 1), none⟩,
    ⟨some 13, .bin .sub (.s 11) (.s 12), none⟩,
    ⟨some 6, .mv (.s 13), none⟩]
    [0, 1, 6])
  (.seq
   (.reg [⟨some 14, .mv (.s 6), none⟩,
     ⟨some 15, .bin .geq (.s 14) (.k (litI .i64 8)), none⟩]
     [0, 1, 6, 15])
   (.cond (.s 15)
    (.seq
     (.reg [⟨some 16, .mv (.s 6), none⟩,
       ⟨some 17, .conv (.int .u64) (.s 16), none⟩,
       ⟨some 7, .alloc [litI .u64 0] 66, none⟩,
       ⟨none, .store 1 (.s 7) (.s 17), none⟩]
       [0, 1, 6, 7])
     (.seq
      (.reg [⟨some 18, .mv (.s 6), none⟩,
        ⟨some 19, .call (.k (.fn (.func 38) [] [])) [.s 18], none⟩,
        ⟨some 8, .mv (.s 19), none⟩]
        [0, 1, 6, 7, 8])
      (.seq
       (.reg [⟨some 20, .mv (.s 1), none⟩,
         ⟨some 21, .mv (.s 6), none⟩,
         ⟨some 22, .bin .quo (.s 21) (.k (litI .i64 4)), none⟩,
         ⟨some 23, .bin .mul (.s 22) (.k (litI .i64 2)), none⟩,
         ⟨some 24, .bin .add (.s 20) (.s 23), none⟩,
         ⟨some 25, .bin .sub (.s 24) (.k (litI .i64 1)), none⟩,
         ⟨some 9, .mv (.s 25), none⟩]
         [0, 1, 6, 7, 8, 9])
       (.block 0
        (.loop [0, 1, 6, 7, 8, 9] c28l0)))))
    .skip)))
def fn28 : F := ⟨3, 65, [], c28⟩
def an28 : Ann := ann [(0, [0, 1, 6]), (1, [0, 1, 6, 15]), (2, [0, 1, 6, 7]), (3, [0, 1, 6, 7, 8]), (4, [0, 1, 6, 7, 8, 9]), (5, [0, 1, 6, 7, 8, 9, 33]), (6, [0, 1, 6, 7, 8, 9]), (7, [0, 1, 6, 7, 8, 9, 10]), (8, [0, 1, 6, 7, 8, 9, 10, 43]), (9, [0, 1, 6, 7, 8, 9, 10]), (10, [0, 1, 6, 7, 8, 9])] [(0, [0, 1, 6, 7, 8, 9])] [] [(10, 16)]
theorem is28 : compF Try.prog an28 Try.f28 = some fn28 := by kernel_rfl

/- slices.choosePivotOrdered[int] -/
def c29 : C :=
 (.seq
  (.reg [⟨some 6, .mv (.k (litI .i64 0)), none⟩,
    ⟨some 7, .mv (.k (litI .i64 0)), none⟩]
    [0, 1, 2])
  (.seq
   (.reg [⟨some 13, .mv (.s 2), none⟩,
     ⟨some 14, .mv (.s 1), none⟩,
     ⟨some 15, .bin .sub (.s 13) (.s 14), none⟩,
     ⟨some 8, .mv (.s 15), none⟩]
     [0, 1, 8])
   (.seq
    (.reg [⟨some 9, .alloc [litI .i64 0] 3, none⟩]
      [0, 1, 8, 9])
    (.seq
     (.reg [⟨some 16, .mv (.s 1), none⟩,
       ⟨some 17, .mv (.s 8), none⟩,
       ⟨some 18, .bin .quo (.s 17) (.k (litI .i64 4)), none⟩,
       ⟨some 19, .bin .mul (.s 18) (.k (litI .i64 1)), none⟩,
       ⟨some 20, .bin .add (.s 16) (.s 19), none⟩,
       ⟨some 10, .mv (.s 20), none⟩]
       [0, 1, 8, 9, 10])
     (.seq
      (.reg [⟨some 21, .mv (.s 1), none⟩,
        ⟨some 22, .mv (.s 8), none⟩,
        ⟨some 23, .bin .quo (.s 22) (.k (litI .i64 4)), none⟩,
        ⟨some 24, .bin .mul (.s 23) (.k (litI .i64 2)), none⟩,
        ⟨some 25, .bin .add (.s 21) (.s 24), none⟩,
        ⟨some 11, .mv (.s 25), none⟩]
        [0, 1, 8, 9, 10, 11])
      (.seq
       (.reg [⟨some 26, .mv (.s 1), none⟩,
         ⟨some 27, .mv (.s 8), none⟩,
         ⟨some 28, .bin .quo (.s 27) (.k (litI .i64 4)), none⟩,
         ⟨some 29, .bin .mul (.s 28) (.k (litI .i64 3)), none⟩,
         ⟨some 30, .bin .add (.s 26) (.s 29), none⟩,
         ⟨some 12, .mv (.s 30), none⟩]
         [0, 8, 9, 10, 11, 12])
       (.seq
        (.seq
         (.reg [⟨some 31, .mv (.s 8), none⟩,
           ⟨some 32, .bin .geq (.s 31) (.k (litI .i64 8)), none⟩]
           [0, 8, 9, 10, 11, 12, 32])
         (.cond (.s 32)
          (.seq
           (.seq
            (.reg [⟨some 33, .mv (.s 8), none⟩,
              ⟨some 34, .bin .geq (.s 33) (.k (litI .i64 50)), none⟩]
              [0, 9, 10, 11, 12, 34])
            (.cond (.s 34)
             (.seq
              (.reg [⟨some 35, .mv (.s 0), none⟩,
                ⟨some 36, .mv (.s 10), none⟩,
                ⟨some 37, .call (.k (.fn (.func 40) [] [])) [.s 35, .s 36, .s 9], none⟩,
                ⟨some 10, .mv (.s 37), none⟩]
                [0, 9, 10, 11, 12])
              (.seq
               (.reg [⟨some 38, .mv (.s 0), none⟩,
                 ⟨some 39, .mv (.s 11), none⟩,
                 ⟨some 40, .call (.k (.fn (.func 40) [] [])) [.s 38, .s 39, .s 9], none⟩,
                 ⟨some 11, .mv (.s 40), none⟩]
                 [0, 9, 10, 11, 12])
               (.reg [⟨some 41, .mv (.s 0), none⟩,
                 ⟨some 42, .mv (.s 12), none⟩,
                 ⟨some 43, .call (.k (.fn (.func 40) [] [])) [.s 41, .s 42, .s 9], none⟩,
                 ⟨some 12, .mv (.s 43), none⟩]
                 [0, 9, 10, 11, 12])))
             .skip))
           (.reg [⟨some 44, .mv (.s 0), none⟩,
             ⟨some 45, .mv (.s 10), none⟩,
             ⟨some 46, .mv (.s 11), none⟩,
             ⟨some 47, .mv (.s 12), none⟩,
             ⟨some 48, .call (.k (.fn (.func 41) [] [])) [.s 44, .s 45, .s 46, .s 47, .s 9], none⟩,
             ⟨some 11, .mv (.s 48), none⟩]
             [9, 11]))
          .skip))
        (.seq
         (.reg [⟨some 49, .load none (.s 9), none⟩]
           [11, 49])
         (.block 0
          (.seq
           (.reg [⟨some 52, .bin .eql (.s 49) (.k (litI .i64 0)), none⟩,
             ⟨some 51, .mv (.s 52), none⟩]
             [11, 49, 51])
           (.cond (.s 51)
            (.seq
             (.reg [⟨some 53, .mv (.s 11), none⟩,
               ⟨some 6, .mv (.s 53), none⟩,
               ⟨some 7, .mv (.k (litI .i64 1)), none⟩]
               [6, 7])
             .ret)
            (.seq
             (.reg [⟨some 55, .bin .eql (.s 49) (.k (litI .i64 12)), none⟩,
               ⟨some 54, .mv (.s 55), none⟩]
               [11, 54])
             (.cond (.s 54)
              (.seq
               (.reg [⟨some 56, .mv (.s 11), none⟩,
                 ⟨some 6, .mv (.s 56), none⟩,
                 ⟨some 7, .mv (.k (litI .i64 2)), none⟩]
                 [6, 7])
               .ret)
              (.seq
               (.reg [⟨some 50, .mv (.s 11), none⟩,
                 ⟨some 6, .mv (.s 50), none⟩,
                 ⟨some 7, .mv (.k (litI .i64 0)), none⟩]
                 [6, 7])
               .ret))))))))))))))
def fn29 : F := ⟨3, 57, [.t 6, .t 7], c29⟩
def an29 : Ann := ann [(0, [0, 1, 2]), (1, [0, 1, 8]), (2, [0, 1, 8, 9]), (3, [0, 1, 8, 9, 10]), (4, [0, 1, 8, 9, 10, 11]), (5, [0, 8, 9, 10, 11, 12]), (6, [0, 8, 9, 10, 11, 12, 32]), (7, [0, 9, 10, 11, 12, 34]), (8, [0, 9, 10, 11, 12]), (9, [0, 9, 10, 11, 12]), (10, [0, 9, 10, 11, 12]), (11, [9, 11]), (12, [11, 49]), (13, [6, 7]), (14, [11, 49, 51]), (15, [6, 7]), (16, [11, 54]), (17, [6, 7])] [] [] []
theorem is29 : compF Try.prog an29 Try.f29 = some fn29 := by kernel_rfl

/- slices.reverseRangeOrdered[int] -/
def c30l0 : C :=
 (.seq
  (.seq
   (.reg [⟨some 11, .mv (.s 6), none⟩,
     ⟨some 12, .mv (.s 7), none⟩,
     ⟨some 13, .bin .lss (.s 11) (.s 12), none⟩]
     [0, 6, 7, 13])
   (.cond (.s 13)
    .skip
    (.exit 0)))
  (.block 1
   (.seq
    (.draw [⟨some 14, .mv (.s 0), none⟩,
      ⟨some 15, .mv (.s 6), none⟩,
      ⟨some 16, .mv (.s 0), none⟩,
      ⟨some 17, .mv (.s 7), none⟩,
      ⟨some 18, .mv (.s 0), none⟩,
      ⟨some 19, .mv (.s 7), none⟩,
      ⟨some 20, .iadr 1 (.s 18) (.s 19), none⟩,
      ⟨some 21, .load none (.s 20), none⟩,
      ⟨some 22, .mv (.s 0), none⟩,
      ⟨some 23, .mv (.s 6), none⟩,
      ⟨some 24, .iadr 1 (.s 22) (.s 23), none⟩,
      ⟨some 25, .load none (.s 24), none⟩]
      [⟨some 26, .iadr 1 (.s 14) (.s 15), none⟩,
      ⟨none, .store 1 (.s 26) (.s 21), none⟩,
      ⟨some 27, .iadr 1 (.s 16) (.s 17), none⟩,
      ⟨none, .store 1 (.s 27) (.s 25), none⟩] [0, 6, 7])
    (.seq
     (.reg [⟨some 28, .mv (.s 6), none⟩,
       ⟨some 29, .bin .add (.s 28) (.k (litI .i64 1)), none⟩,
       ⟨some 6, .mv (.s 29), none⟩]
       [0, 6, 7])
     (.reg [⟨some 30, .mv (.s 7), none⟩,
       ⟨some 31, .bin .sub (.s 30) (.k (litI .i64 1)), none⟩,
       ⟨some 7, .mv (.s 31), none⟩]
       [0, 6, 7])))))
def c30 : C :=
 (.seq
  (.reg [⟨some 8, .mv (.s 1), none⟩,
    ⟨some 6, .mv (.s 8), none⟩]
    [0, 2, 6])
  (.seq
   (.reg [⟨some 9, .mv (.s 2), none⟩,
     ⟨some 10, .bin .sub (.s 9) (.k (litI .i64 1)), none⟩,
     ⟨some 7, .mv (.s 10), none⟩]
     [0, 6, 7])
   (.block 0
    (.loop [0, 6, 7] c30l0))))
def fn30 : F := ⟨3, 32, [], c30⟩
def an30 : Ann := ann [(0, [0, 2, 6]), (1, [0, 6, 7]), (2, [0, 6, 7, 13]), (3, [0, 6, 7]), (4, [0, 6, 7]), (5, [0, 6, 7])] [(0, [0, 6, 7])] [] [(3, 12)]
theorem is30 : compF Try.prog an30 Try.f30 = some fn30 := by kernel_rfl

/- slices.partialInsertionSortOrdered[int] -/
def c31l0 : C :=
 (.seq
  (.seq
   (.draw [⟨some 17, .mv (.s 7), none⟩,
     ⟨some 18, .mv (.s 2), none⟩,
     ⟨some 19, .bin .lss (.s 17) (.s 18), none⟩,
     ⟨some 20, .mv (.s 19), none⟩,
     ⟨some 21, .mv (.s 0), some (20, true)⟩,
     ⟨some 22, .mv (.s 7), some (20, true)⟩,
     ⟨some 23, .iadr 1 (.s 21) (.s 22), some (20, true)⟩,
     ⟨some 24, .load none (.s 23), some (20, true)⟩,
     ⟨some 25, .mv (.s 0), some (20, true)⟩,
     ⟨some 26, .mv (.s 7), some (20, true)⟩,
     ⟨some 27, .bin .sub (.s 26) (.k (litI .i64 1)), some (20, true)⟩,
     ⟨some 28, .iadr 1 (.s 25) (.s 27), some (20, true)⟩,
     ⟨some 29, .load none (.s 28), some (20, true)⟩]
     [⟨some 30, .call (.k (.fn (.func 32) [] [])) [.s 24, .s 29], some (20, true)⟩,
     ⟨some 31, .un .not (.s 30), some (20, true)⟩,
     ⟨some 32, .pick (.s 20) (.s 31) (.k (litB false)), none⟩] [0, 1, 2, 7, 8, 32])
   (.cond (.s 32)
    .skip
    (.exit 2)))
  (.block 3
   (.reg [⟨some 33, .mv (.s 7), none⟩,
     ⟨some 34, .bin .add (.s 33) (.k (litI .i64 1)), none⟩,
     ⟨some 7, .mv (.s 34), none⟩]
     [0, 1, 2, 7, 8])))
def c31l1 : C :=
 (.seq
  (.seq
   (.reg [⟨some 64, .mv (.s 9), none⟩,
     ⟨some 65, .bin .geq (.s 64) (.k (litI .i64 1)), none⟩]
     [0, 1, 2, 7, 8, 9, 65])
   (.cond (.s 65)
    .skip
    (.exit 4)))
  (.seq
   (.block 5
    (.seq
     (.seq
      (.draw [⟨some 68, .mv (.s 0), none⟩,
        ⟨some 69, .mv (.s 9), none⟩,
        ⟨some 70, .iadr 1 (.s 68) (.s 69), none⟩,
        ⟨some 71, .load none (.s 70), none⟩,
        ⟨some 72, .mv (.s 0), none⟩,
        ⟨some 73, .mv (.s 9), none⟩,
        ⟨some 74, .bin .sub (.s 73) (.k (litI .i64 1)), none⟩,
        ⟨some 75, .iadr 1 (.s 72) (.s 74), none⟩,
        ⟨some 76, .load none (.s 75), none⟩]
        [⟨some 77, .call (.k (.fn (.func 32) [] [])) [.s 71, .s 76], none⟩,
        ⟨some 78, .un .not (.s 77), none⟩] [0, 1, 2, 7, 8, 9, 78])
      (.cond (.s 78)
       (.exit 4)
       .skip))
     (.draw [⟨some 79, .mv (.s 0), none⟩,
       ⟨some 80, .mv (.s 9), none⟩,
       ⟨some 81, .mv (.s 0), none⟩,
       ⟨some 82, .mv (.s 9), none⟩,
       ⟨some 83, .bin .sub (.s 82) (.k (litI .i64 1)), none⟩,
       ⟨some 84, .mv (.s 0), none⟩,
       ⟨some 85, .mv (.s 9), none⟩,
       ⟨some 86, .bin .sub (.s 85) (.k (litI .i64 1)), none⟩,
       ⟨some 87, .iadr 1 (.s 84) (.s 86), none⟩,
       ⟨some 88, .load none (.s 87), none⟩,
       ⟨some 89, .mv (.s 0), none⟩,
       ⟨some 90, .mv (.s 9), none⟩,
       ⟨some 91, .iadr 1 (.s 89) (.s 90), none⟩,
       ⟨some 92, .load none (.s 91), none⟩]
       [⟨some 93, .iadr 1 (.s 79) (.s 80), none⟩,
       ⟨none, .store 1 (.s 93) (.s 88), none⟩,
       ⟨some 94, .iadr 1 (.s 81) (.s 83), none⟩,
       ⟨none, .store 1 (.s 94) (.s 92), none⟩] [0, 1, 2, 7, 8, 9])))
   (.reg [⟨some 66, .mv (.s 9), none⟩,
     ⟨some 67, .bin .sub (.s 66) (.k (litI .i64 1)), none⟩,
     ⟨some 9, .mv (.s 67), none⟩]
     [0, 1, 2, 7, 8, 9])))
def c31l2 : C :=
 (.seq
  (.seq
   (.reg [⟨some 101, .mv (.s 10), none⟩,
     ⟨some 102, .mv (.s 2), none⟩,
     ⟨some 103, .bin .lss (.s 101) (.s 102), none⟩]
     [0, 1, 2, 7, 8, 10, 103])
   (.cond (.s 103)
    .skip
    (.exit 6)))
  (.seq
   (.block 7
    (.seq
     (.seq
      (.draw [⟨some 106, .mv (.s 0), none⟩,
        ⟨some 107, .mv (.s 10), none⟩,
        ⟨some 108, .iadr 1 (.s 106) (.s 107), none⟩,
        ⟨some 109, .load none (.s 108), none⟩,
        ⟨some 110, .mv (.s 0), none⟩,
        ⟨some 111, .mv (.s 10), none⟩,
        ⟨some 112, .bin .sub (.s 111) (.k (litI .i64 1)), none⟩,
        ⟨some 113, .iadr 1 (.s 110) (.s 112), none⟩,
        ⟨some 114, .load none (.s 113), none⟩]
        [⟨some 115, .call (.k (.fn (.func 32) [] [])) [.s 109, .s 114], none⟩,
        ⟨some 116, .un .not (.s 115), none⟩] [0, 1, 2, 7, 8, 10, 116])
      (.cond (.s 116)
       (.exit 6)
       .skip))
     (.draw [⟨some 117, .mv (.s 0), none⟩,
       ⟨some 118, .mv (.s 10), none⟩,
       ⟨some 119, .mv (.s 0), none⟩,
       ⟨some 120, .mv (.s 10), none⟩,
       ⟨some 121, .bin .sub (.s 120) (.k (litI .i64 1)), none⟩,
       ⟨some 122, .mv (.s 0), none⟩,
       ⟨some 123, .mv (.s 10), none⟩,
       ⟨some 124, .bin .sub (.s 123) (.k (litI .i64 1)), none⟩,
       ⟨some 125, .iadr 1 (.s 122) (.s 124), none⟩,
       ⟨some 126, .load none (.s 125), none⟩,
       ⟨some 127, .mv (.s 0), none⟩,
       ⟨some 128, .mv (.s 10), none⟩,
       ⟨some 129, .iadr 1 (.s 127) (.s 128), none⟩,
       ⟨some 130, .load none (.s 129), none⟩]
       [⟨some 131, .iadr 1 (.s 117) (.s 118), none⟩,
       ⟨none, .store 1 (.s 131) (.s 126), none⟩,
       ⟨some 132, .iadr 1 (.s 119) (.s 121), none⟩,
       ⟨none, .store 1 (.s 132) (.s 130), none⟩] [0, 1, 2, 7, 8, 10])))
   (.reg [⟨some 104, .mv (.s 10), none⟩,
     ⟨some 105, .bin .add (.s 104) (.k (litI .i64 1)), none⟩,
     ⟨some 10, .mv (.s 105), none⟩]
     [0, 1, 2, 7, 8, 10])))
def c31l3 : C :=
 (.seq
  (.seq
   (.reg [⟨some 13, .mv (.s 8), none⟩,
     ⟨some 14, .bin .lss (.s 13) (.k (litI .i64 5)), none⟩]
     [0, 1, 2, 7, 8, 14])
   (.cond (.s 14)
    .skip
    (.exit 0)))
  (.seq
   (.block 1
    (.seq
     (.block 2
      (.loop [0, 1, 2, 7, 8] c31l0))
     (.seq
      (.seq
       (.reg [⟨some 35, .mv (.s 7), none⟩,
         ⟨some 36, .mv (.s 2), none⟩,
         ⟨some 37, .bin .eql (.s 35) (.s 36), none⟩]
         [0, 1, 2, 7, 8, 37])
       (.cond (.s 37)
        (.seq
         (.reg [⟨some 6, .mv (.k (litB true)), none⟩]
           [6])
         .ret)
        .skip))
      (.seq
       (.seq
        (.reg [⟨some 38, .mv (.s 2), none⟩,
          ⟨some 39, .mv (.s 1), none⟩,
          ⟨some 40, .bin .sub (.s 38) (.s 39), none⟩,
          ⟨some 41, .bin .lss (.s 40) (.k (litI .i64 50)), none⟩]
          [0, 1, 2, 7, 8, 41])
        (.cond (.s 41)
         (.seq
          (.reg [⟨some 6, .mv (.k (litB false)), none⟩]
            [6])
          .ret)
         .skip))
       (.seq
        (.draw [⟨some 42, .mv (.s 0), none⟩,
          ⟨some 43, .mv (.s 7), none⟩,
          ⟨some 44, .mv (.s 0), none⟩,
          ⟨some 45, .mv (.s 7), none⟩,
          ⟨some 46, .bin .sub (.s 45) (.k (litI .i64 1)), none⟩,
          ⟨some 47, .mv (.s 0), none⟩,
          ⟨some 48, .mv (.s 7), none⟩,
          ⟨some 49, .bin .sub (.s 48) (.k (litI .i64 1)), none⟩,
          ⟨some 50, .iadr 1 (.s 47) (.s 49), none⟩,
          ⟨some 51, .load none (.s 50), none⟩,
          ⟨some 52, .mv (.s 0), none⟩,
          ⟨some 53, .mv (.s 7), none⟩,
          ⟨some 54, .iadr 1 (.s 52) (.s 53), none⟩,
          ⟨some 55, .load none (.s 54), none⟩]
          [⟨some 56, .iadr 1 (.s 42) (.s 43), none⟩,
          ⟨none, .store 1 (.s 56) (.s 51), none⟩,
          ⟨some 57, .iadr 1 (.s 44) (.s 46), none⟩,
          ⟨none, .store 1 (.s 57) (.s 55), none⟩] [0, 1, 2, 7, 8])
        (.seq
         (.seq
          (.reg [⟨some 58, .mv (.s 7), none⟩,
            ⟨some 59, .mv (.s 1), none⟩,
            ⟨some 60, .bin .sub (.s 58) (.s 59), none⟩,
            ⟨some 61, .bin .geq (.s 60) (.k (litI .i64 2)), none⟩]
            [0, 1, 2, 7, 8, 61])
          (.cond (.s 61)
           (.seq
            (.reg [⟨some 62, .mv (.s 7), none⟩,
              ⟨some 63, .bin .sub (.s 62) (.k (litI .i64 1)), none⟩,
              ⟨some 9, .mv (.s 63), none⟩]
              [0, 1, 2, 7, 8, 9])
            (.block 4
             (.loop [0, 1, 2, 7, 8, 9] c31l1)))
           .skip))
         (.seq
          (.reg [⟨some 95, .mv (.s 2), none⟩,
            ⟨some 96, .mv (.s 7), none⟩,
            ⟨some 97, .bin .sub (.s 95) (.s 96), none⟩,
            ⟨some 98, .bin .geq (.s 97) (.k (litI .i64 2)), none⟩]
            [0, 1, 2, 7, 8, 98])
          (.cond (.s 98)
           (.seq
            (.reg [⟨some 99, .mv (.s 7), none⟩,
              ⟨some 100, .bin .add (.s 99) (.k (litI .i64 1)), none⟩,
              ⟨some 10, .mv (.s 100), none⟩]
              [0, 1, 2, 7, 8, 10])
            (.block 6
             (.loop [0, 1, 2, 7, 8, 10] c31l2)))
           .skip))))))))
   (.reg [⟨some 15, .mv (.s 8), none⟩,
     ⟨some 16, .bin .add (.s 15) (.k (litI .i64 1)), none⟩,
     ⟨some 8, .mv (.s 16), none⟩]
     [0, 1, 2, 7, 8])))
def c31 : C :=
 (.seq
  (.reg [⟨some 6, .mv (.k (litB false)), none⟩]
    [0, 1, 2])
  (.seq
   (.reg [⟨some 11, .mv (.s 1), none⟩,
     ⟨some 12, .bin .add (.s 11) (.k (litI .i64 1)), none⟩,
     ⟨some 7, .mv (.s 12), none⟩]
     [0, 1, 2, 7])
   (.seq
    (.seq
     (.reg [⟨some 8, .mv (.k (litI .i64 0)), none⟩]
       [0, 1, 2, 7, 8])
     (.block 0
      (.loop [0, 1, 2, 7, 8] c31l3)))
    (.seq
     (.reg [⟨some 6, .mv (.k (litB false)), none⟩]
       [6])
     .ret))))
def fn31 : F := ⟨3, 133, [.t 6], c31⟩
def an31 : Ann := ann [(0, [0, 1, 2]), (1, [0, 1, 2, 7]), (2, [0, 1, 2, 7, 8]), (3, [0, 1, 2, 7, 8, 14]), (4, [0, 1, 2, 7, 8]), (5, [0, 1, 2, 7, 8, 32]), (6, [0, 1, 2, 7, 8]), (7, [0, 1, 2, 7, 8, 37]), (8, [6]), (9, [0, 1, 2, 7, 8, 41]), (10, [6]), (11, [0, 1, 2, 7, 8]), (12, [0, 1, 2, 7, 8, 61]), (13, [0, 1, 2, 7, 8, 9]), (14, [0, 1, 2, 7, 8, 9, 65]), (15, [0, 1, 2, 7, 8, 9]), (16, [0, 1, 2, 7, 8, 9, 78]), (17, [0, 1, 2, 7, 8, 9]), (18, [0, 1, 2, 7, 8, 98]), (19, [0, 1, 2, 7, 8, 10]), (20, [0, 1, 2, 7, 8, 10, 103]), (21, [0, 1, 2, 7, 8, 10]), (22, [0, 1, 2, 7, 8, 10, 116]), (23, [0, 1, 2, 7, 8, 10]), (24, [6])] [(0, [0, 1, 2, 7, 8]), (2, [0, 1, 2, 7, 8]), (4, [0, 1, 2, 7, 8, 9]), (6, [0, 1, 2, 7, 8, 10])] [] [(5, 13), (11, 14), (16, 9), (17, 14), (22, 9), (23, 14)]
theorem is31 : compF Try.prog an31 Try.f31 = some fn31 := by kernel_rfl

/- cmp.Less[int] -/
def c32 : C :=
 (.seq
  (.reg [⟨some 4, .mv (.k (litB false)), none⟩]
    [0, 1])
  (.seq
   (.reg [⟨some 5, .mv (.s 0), none⟩,
     ⟨some 6, .call (.k (.fn (.func 42) [] [])) [.s 5], none⟩,
     ⟨some 7, .mv (.s 6), none⟩,
     ⟨some 8, .mv (.s 1), some (7, true)⟩,
     ⟨some 9, .call (.k (.fn (.func 42) [] [])) [.s 8], some (7, true)⟩,
     ⟨some 10, .un .not (.s 9), some (7, true)⟩,
     ⟨some 11, .pick (.s 7) (.s 10) (.k (litB false)), none⟩,
     ⟨some 12, .mv (.s 11), none⟩,
     ⟨some 13, .mv (.s 0), some (12, false)⟩,
     ⟨some 14, .mv (.s 1), some (12, false)⟩,
     ⟨some 15, .bin .lss (.s 13) (.s 14), some (12, false)⟩,
     ⟨some 16, .pick (.s 12) (.k (litB true)) (.s 15), none⟩,
     ⟨some 4, .mv (.s 16), none⟩]
     [4])
   .ret))
def fn32 : F := ⟨2, 17, [.t 4], c32⟩
def an32 : Ann := ann [(0, [0, 1]), (1, [4])] [] [] []
theorem is32 : compF Try.prog an32 Try.f32 = some fn32 := by kernel_rfl

/- slices.partitionEqualOrdered[int] -/
def c33l0 : C :=
 (.seq
  (.seq
   (.draw [⟨some 29, .mv (.s 9), none⟩,
     ⟨some 30, .mv (.s 10), none⟩,
     ⟨some 31, .bin .leq (.s 29) (.s 30), none⟩,
     ⟨some 32, .mv (.s 31), none⟩,
     ⟨some 33, .mv (.s 0), some (32, true)⟩,
     ⟨some 34, .mv (.s 1), some (32, true)⟩,
     ⟨some 35, .iadr 1 (.s 33) (.s 34), some (32, true)⟩,
     ⟨some 36, .load none (.s 35), some (32, true)⟩,
     ⟨some 37, .mv (.s 0), some (32, true)⟩,
     ⟨some 38, .mv (.s 9), some (32, true)⟩,
     ⟨some 39, .iadr 1 (.s 37) (.s 38), some (32, true)⟩,
     ⟨some 40, .load none (.s 39), some (32, true)⟩]
     [⟨some 41, .call (.k (.fn (.func 32) [] [])) [.s 36, .s 40], some (32, true)⟩,
     ⟨some 42, .un .not (.s 41), some (32, true)⟩,
     ⟨some 43, .pick (.s 32) (.s 42) (.k (litB false)), none⟩] [0, 1, 9, 10, 43])
   (.cond (.s 43)
    .skip
    (.exit 2)))
  (.block 3
   (.reg [⟨some 44, .mv (.s 9), none⟩,
     ⟨some 45, .bin .add (.s 44) (.k (litI .i64 1)), none⟩,
     ⟨some 9, .mv (.s 45), none⟩]
     [0, 1, 9, 10])))
def c33l1 : C :=
 (.seq
  (.seq
   (.draw [⟨some 46, .mv (.s 9), none⟩,
     ⟨some 47, .mv (.s 10), none⟩,
     ⟨some 48, .bin .leq (.s 46) (.s 47), none⟩,
     ⟨some 49, .mv (.s 48), none⟩,
     ⟨some 50, .mv (.s 0), some (49, true)⟩,
     ⟨some 51, .mv (.s 1), some (49, true)⟩,
     ⟨some 52, .iadr 1 (.s 50) (.s 51), some (49, true)⟩,
     ⟨some 53, .load none (.s 52), some (49, true)⟩,
     ⟨some 54, .mv (.s 0), some (49, true)⟩,
     ⟨some 55, .mv (.s 10), some (49, true)⟩,
     ⟨some 56, .iadr 1 (.s 54) (.s 55), some (49, true)⟩,
     ⟨some 57, .load none (.s 56), some (49, true)⟩]
     [⟨some 58, .call (.k (.fn (.func 32) [] [])) [.s 53, .s 57], some (49, true)⟩,
     ⟨some 59, .pick (.s 49) (.s 58) (.k (litB false)), none⟩] [0, 1, 9, 10, 59])
   (.cond (.s 59)
    .skip
    (.exit 4)))
  (.block 5
   (.reg [⟨some 60, .mv (.s 10), none⟩,
     ⟨some 61, .bin .sub (.s 60) (.k (litI .i64 1)), none⟩,
     ⟨some 10, .mv (.s 61), none⟩]
     [0, 1, 9, 10])))
def c33l2 : C :=
 (.block 1
  (.seq
   (.block 2
    (.loop [0, 1, 9, 10] c33l0))
   (.seq
    (.block 4
     (.loop [0, 1, 9, 10] c33l1))
    (.seq
     (.seq
      (.reg [⟨some 62, .mv (.s 9), none⟩,
        ⟨some 63, .mv (.s 10), none⟩,
        ⟨some 64, .bin .gtr (.s 62) (.s 63), none⟩]
        [0, 1, 9, 10, 64])
      (.cond (.s 64)
       (.exit 0)
       .skip))
     (.seq
      (.draw [⟨some 65, .mv (.s 0), none⟩,
        ⟨some 66, .mv (.s 9), none⟩,
        ⟨some 67, .mv (.s 0), none⟩,
        ⟨some 68, .mv (.s 10), none⟩,
        ⟨some 69, .mv (.s 0), none⟩,
        ⟨some 70, .mv (.s 10), none⟩,
        ⟨some 71, .iadr 1 (.s 69) (.s 70), none⟩,
        ⟨some 72, .load none (.s 71), none⟩,
        ⟨some 73, .mv (.s 0), none⟩,
        ⟨some 74, .mv (.s 9), none⟩,
        ⟨some 75, .iadr 1 (.s 73) (.s 74), none⟩,
        ⟨some 76, .load none (.s 75), none⟩]
        [⟨some 77, .iadr 1 (.s 65) (.s 66), none⟩,
        ⟨none, .store 1 (.s 77) (.s 72), none⟩,
        ⟨some 78, .iadr 1 (.s 67) (.s 68), none⟩,
        ⟨none, .store 1 (.s 78) (.s 76), none⟩] [0, 1, 9, 10])
      (.seq
       (.reg [⟨some 79, .mv (.s 9), none⟩,
         ⟨some 80, .bin .add (.s 79) (.k (litI .i64 1)), none⟩,
         ⟨some 9, .mv (.s 80), none⟩]
         [0, 1, 9, 10])
       (.reg [⟨some 81, .mv (.s 10), none⟩,
         ⟨some 82, .bin .sub (.s 81) (.k (litI .i64 1)), none⟩,
         ⟨some 10, .mv (.s 82), none⟩]
         [0, 1, 9, 10])))))))
def c33 : C :=
 (.seq
  (.reg [⟨some 8, .mv (.k (litI .i64 0)), none⟩]
    [0, 1, 2, 3])
  (.seq
   (.draw [⟨some 11, .mv (.s 0), none⟩,
     ⟨some 12, .mv (.s 1), none⟩,
     ⟨some 13, .mv (.s 0), none⟩,
     ⟨some 14, .mv (.s 3), none⟩,
     ⟨some 15, .mv (.s 0), none⟩,
     ⟨some 16, .mv (.s 3), none⟩,
     ⟨some 17, .iadr 1 (.s 15) (.s 16), none⟩,
     ⟨some 18, .load none (.s 17), none⟩,
     ⟨some 19, .mv (.s 0), none⟩,
     ⟨some 20, .mv (.s 1), none⟩,
     ⟨some 21, .iadr 1 (.s 19) (.s 20), none⟩,
     ⟨some 22, .load none (.s 21), none⟩]
     [⟨some 23, .iadr 1 (.s 11) (.s 12), none⟩,
     ⟨none, .store 1 (.s 23) (.s 18), none⟩,
     ⟨some 24, .iadr 1 (.s 13) (.s 14), none⟩,
     ⟨none, .store 1 (.s 24) (.s 22), none⟩] [0, 1, 2])
   (.seq
    (.reg [⟨some 25, .mv (.s 1), none⟩,
      ⟨some 26, .bin .add (.s 25) (.k (litI .i64 1)), none⟩,
      ⟨some 27, .mv (.s 2), none⟩,
      ⟨some 28, .bin .sub (.s 27) (.k (litI .i64 1)), none⟩,
      ⟨some 9, .mv (.s 26), none⟩,
      ⟨some 10, .mv (.s 28), none⟩]
      [0, 1, 9, 10])
    (.seq
     (.block 0
      (.loop [0, 1, 9, 10] c33l2))
     (.seq
      (.reg [⟨some 83, .mv (.s 9), none⟩,
        ⟨some 8, .mv (.s 83), none⟩]
        [8])
      .ret)))))
def fn33 : F := ⟨4, 84, [.t 8], c33⟩
def an33 : Ann := ann [(0, [0, 1, 2, 3]), (1, [0, 1, 2]), (2, [0, 1, 9, 10]), (3, [0, 1, 9, 10, 43]), (4, [0, 1, 9, 10]), (5, [0, 1, 9, 10, 59]), (6, [0, 1, 9, 10]), (7, [0, 1, 9, 10, 64]), (8, [0, 1, 9, 10]), (9, [0, 1, 9, 10]), (10, [0, 1, 9, 10]), (11, [8])] [(0, [0, 1, 9, 10]), (2, [0, 1, 9, 10]), (4, [0, 1, 9, 10])] [] [(1, 12), (3, 12), (5, 12), (8, 12)]
theorem is33 : compF Try.prog an33 Try.f33 = some fn33 := by kernel_rfl

/- slices.partitionOrdered[int] -/
def c34l0 : C :=
 (.seq
  (.seq
   (.draw [⟨some 30, .mv (.s 10), none⟩,
     ⟨some 31, .mv (.s 11), none⟩,
     ⟨some 32, .bin .leq (.s 30) (.s 31), none⟩,
     ⟨some 33, .mv (.s 32), none⟩,
     ⟨some 34, .mv (.s 0), some (33, true)⟩,
     ⟨some 35, .mv (.s 10), some (33, true)⟩,
     ⟨some 36, .iadr 1 (.s 34) (.s 35), some (33, true)⟩,
     ⟨some 37, .load none (.s 36), some (33, true)⟩,
     ⟨some 38, .mv (.s 0), some (33, true)⟩,
     ⟨some 39, .mv (.s 1), some (33, true)⟩,
     ⟨some 40, .iadr 1 (.s 38) (.s 39), some (33, true)⟩,
     ⟨some 41, .load none (.s 40), some (33, true)⟩]
     [⟨some 42, .call (.k (.fn (.func 32) [] [])) [.s 37, .s 41], some (33, true)⟩,
     ⟨some 43, .pick (.s 33) (.s 42) (.k (litB false)), none⟩] [0, 1, 10, 11, 43])
   (.cond (.s 43)
    .skip
    (.exit 0)))
  (.block 1
   (.reg [⟨some 44, .mv (.s 10), none⟩,
     ⟨some 45, .bin .add (.s 44) (.k (litI .i64 1)), none⟩,
     ⟨some 10, .mv (.s 45), none⟩]
     [0, 1, 10, 11])))
def c34l1 : C :=
 (.seq
  (.seq
   (.draw [⟨some 46, .mv (.s 10), none⟩,
     ⟨some 47, .mv (.s 11), none⟩,
     ⟨some 48, .bin .leq (.s 46) (.s 47), none⟩,
     ⟨some 49, .mv (.s 48), none⟩,
     ⟨some 50, .mv (.s 0), some (49, true)⟩,
     ⟨some 51, .mv (.s 11), some (49, true)⟩,
     ⟨some 52, .iadr 1 (.s 50) (.s 51), some (49, true)⟩,
     ⟨some 53, .load none (.s 52), some (49, true)⟩,
     ⟨some 54, .mv (.s 0), some (49, true)⟩,
     ⟨some 55, .mv (.s 1), some (49, true)⟩,
     ⟨some 56, .iadr 1 (.s 54) (.s 55), some (49, true)⟩,
     ⟨some 57, .load none (.s 56), some (49, true)⟩]
     [⟨some 58, .call (.k (.fn (.func 32) [] [])) [.s 53, .s 57], some (49, true)⟩,
     ⟨some 59, .un .not (.s 58), some (49, true)⟩,
     ⟨some 60, .pick (.s 49) (.s 59) (.k (litB false)), none⟩] [0, 1, 10, 11, 60])
   (.cond (.s 60)
    .skip
    (.exit 2)))
  (.block 3
   (.reg [⟨some 61, .mv (.s 11), none⟩,
     ⟨some 62, .bin .sub (.s 61) (.k (litI .i64 1)), none⟩,
     ⟨some 11, .mv (.s 62), none⟩]
     [0, 1, 10, 11])))
def c34l2 : C :=
 (.seq
  (.seq
   (.draw [⟨some 99, .mv (.s 10), none⟩,
     ⟨some 100, .mv (.s 11), none⟩,
     ⟨some 101, .bin .leq (.s 99) (.s 100), none⟩,
     ⟨some 102, .mv (.s 101), none⟩,
     ⟨some 103, .mv (.s 0), some (102, true)⟩,
     ⟨some 104, .mv (.s 10), some (102, true)⟩,
     ⟨some 105, .iadr 1 (.s 103) (.s 104), some (102, true)⟩,
     ⟨some 106, .load none (.s 105), some (102, true)⟩,
     ⟨some 107, .mv (.s 0), some (102, true)⟩,
     ⟨some 108, .mv (.s 1), some (102, true)⟩,
     ⟨some 109, .iadr 1 (.s 107) (.s 108), some (102, true)⟩,
     ⟨some 110, .load none (.s 109), some (102, true)⟩]
     [⟨some 111, .call (.k (.fn (.func 32) [] [])) [.s 106, .s 110], some (102, true)⟩,
     ⟨some 112, .pick (.s 102) (.s 111) (.k (litB false)), none⟩] [0, 1, 10, 11, 112])
   (.cond (.s 112)
    .skip
    (.exit 6)))
  (.block 7
   (.reg [⟨some 113, .mv (.s 10), none⟩,
     ⟨some 114, .bin .add (.s 113) (.k (litI .i64 1)), none⟩,
     ⟨some 10, .mv (.s 114), none⟩]
     [0, 1, 10, 11])))
def c34l3 : C :=
 (.seq
  (.seq
   (.draw [⟨some 115, .mv (.s 10), none⟩,
     ⟨some 116, .mv (.s 11), none⟩,
     ⟨some 117, .bin .leq (.s 115) (.s 116), none⟩,
     ⟨some 118, .mv (.s 117), none⟩,
     ⟨some 119, .mv (.s 0), some (118, true)⟩,
     ⟨some 120, .mv (.s 11), some (118, true)⟩,
     ⟨some 121, .iadr 1 (.s 119) (.s 120), some (118, true)⟩,
     ⟨some 122, .load none (.s 121), some (118, true)⟩,
     ⟨some 123, .mv (.s 0), some (118, true)⟩,
     ⟨some 124, .mv (.s 1), some (118, true)⟩,
     ⟨some 125, .iadr 1 (.s 123) (.s 124), some (118, true)⟩,
     ⟨some 126, .load none (.s 125), some (118, true)⟩]
     [⟨some 127, .call (.k (.fn (.func 32) [] [])) [.s 122, .s 126], some (118, true)⟩,
     ⟨some 128, .un .not (.s 127), some (118, true)⟩,
     ⟨some 129, .pick (.s 118) (.s 128) (.k (litB false)), none⟩] [0, 1, 10, 11, 129])
   (.cond (.s 129)
    .skip
    (.exit 8)))
  (.block 9
   (.reg [⟨some 130, .mv (.s 11), none⟩,
     ⟨some 131, .bin .sub (.s 130) (.k (litI .i64 1)), none⟩,
     ⟨some 11, .mv (.s 131), none⟩]
     [0, 1, 10, 11])))
def c34l4 : C :=
 (.block 5
  (.seq
   (.block 6
    (.loop [0, 1, 10, 11] c34l2))
   (.seq
    (.block 8
     (.loop [0, 1, 10, 11] c34l3))
    (.seq
     (.seq
      (.reg [⟨some 132, .mv (.s 10), none⟩,
        ⟨some 133, .mv (.s 11), none⟩,
        ⟨some 134, .bin .gtr (.s 132) (.s 133), none⟩]
        [0, 1, 10, 11, 134])
      (.cond (.s 134)
       (.exit 4)
       .skip))
     (.seq
      (.draw [⟨some 135, .mv (.s 0), none⟩,
        ⟨some 136, .mv (.s 10), none⟩,
        ⟨some 137, .mv (.s 0), none⟩,
        ⟨some 138, .mv (.s 11), none⟩,
        ⟨some 139, .mv (.s 0), none⟩,
        ⟨some 140, .mv (.s 11), none⟩,
        ⟨some 141, .iadr 1 (.s 139) (.s 140), none⟩,
        ⟨some 142, .load none (.s 141), none⟩,
        ⟨some 143, .mv (.s 0), none⟩,
        ⟨some 144, .mv (.s 10), none⟩,
        ⟨some 145, .iadr 1 (.s 143) (.s 144), none⟩,
        ⟨some 146, .load none (.s 145), none⟩]
        [⟨some 147, .iadr 1 (.s 135) (.s 136), none⟩,
        ⟨none, .store 1 (.s 147) (.s 142), none⟩,
        ⟨some 148, .iadr 1 (.s 137) (.s 138), none⟩,
        ⟨none, .store 1 (.s 148) (.s 146), none⟩] [0, 1, 10, 11])
      (.seq
       (.reg [⟨some 149, .mv (.s 10), none⟩,
         ⟨some 150, .bin .add (.s 149) (.k (litI .i64 1)), none⟩,
         ⟨some 10, .mv (.s 150), none⟩]
         [0, 1, 10, 11])
       (.reg [⟨some 151, .mv (.s 11), none⟩,
         ⟨some 152, .bin .sub (.s 151) (.k (litI .i64 1)), none⟩,
         ⟨some 11, .mv (.s 152), none⟩]
         [0, 1, 10, 11])))))))
def c34 : C :=
 (.seq
  (.reg [⟨some 8, .mv (.k (litI .i64 0)), none⟩,
    ⟨some 9, .mv (.k (litB false)), none⟩]
    [0, 1, 2, 3])
  (.seq
   (.draw [⟨some 12, .mv (.s 0), none⟩,
     ⟨some 13, .mv (.s 1), none⟩,
     ⟨some 14, .mv (.s 0), none⟩,
     ⟨some 15, .mv (.s 3), none⟩,
     ⟨some 16, .mv (.s 0), none⟩,
     ⟨some 17, .mv (.s 3), none⟩,
     ⟨some 18, .iadr 1 (.s 16) (.s 17), none⟩,
     ⟨some 19, .load none (.s 18), none⟩,
     ⟨some 20, .mv (.s 0), none⟩,
     ⟨some 21, .mv (.s 1), none⟩,
     ⟨some 22, .iadr 1 (.s 20) (.s 21), none⟩,
     ⟨some 23, .load none (.s 22), none⟩]
     [⟨some 24, .iadr 1 (.s 12) (.s 13), none⟩,
     ⟨none, .store 1 (.s 24) (.s 19), none⟩,
     ⟨some 25, .iadr 1 (.s 14) (.s 15), none⟩,
     ⟨none, .store 1 (.s 25) (.s 23), none⟩] [0, 1, 2])
   (.seq
    (.reg [⟨some 26, .mv (.s 1), none⟩,
      ⟨some 27, .bin .add (.s 26) (.k (litI .i64 1)), none⟩,
      ⟨some 28, .mv (.s 2), none⟩,
      ⟨some 29, .bin .sub (.s 28) (.k (litI .i64 1)), none⟩,
      ⟨some 10, .mv (.s 27), none⟩,
      ⟨some 11, .mv (.s 29), none⟩]
      [0, 1, 10, 11])
    (.seq
     (.block 0
      (.loop [0, 1, 10, 11] c34l0))
     (.seq
      (.block 2
       (.loop [0, 1, 10, 11] c34l1))
      (.seq
       (.seq
        (.reg [⟨some 63, .mv (.s 10), none⟩,
          ⟨some 64, .mv (.s 11), none⟩,
          ⟨some 65, .bin .gtr (.s 63) (.s 64), none⟩]
          [0, 1, 10, 11, 65])
        (.cond (.s 65)
         (.seq
          (.draw [⟨some 66, .mv (.s 0), none⟩,
            ⟨some 67, .mv (.s 11), none⟩,
            ⟨some 68, .mv (.s 0), none⟩,
            ⟨some 69, .mv (.s 1), none⟩,
            ⟨some 70, .mv (.s 0), none⟩,
            ⟨some 71, .mv (.s 1), none⟩,
            ⟨some 72, .iadr 1 (.s 70) (.s 71), none⟩,
            ⟨some 73, .load none (.s 72), none⟩,
            ⟨some 74, .mv (.s 0), none⟩,
            ⟨some 75, .mv (.s 11), none⟩,
            ⟨some 76, .iadr 1 (.s 74) (.s 75), none⟩,
            ⟨some 77, .load none (.s 76), none⟩]
            [⟨some 78, .iadr 1 (.s 66) (.s 67), none⟩,
            ⟨none, .store 1 (.s 78) (.s 73), none⟩,
            ⟨some 79, .iadr 1 (.s 68) (.s 69), none⟩,
            ⟨none, .store 1 (.s 79) (.s 77), none⟩] [11])
          (.seq
           (.reg [⟨some 80, .mv (.s 11), none⟩,
             ⟨some 8, .mv (.s 80), none⟩,
             ⟨some 9, .mv (.k (litB true)), none⟩]
             [8, 9])
           .ret))
         .skip))
       (.seq
        (.draw [⟨some 81, .mv (.s 0), none⟩,
          ⟨some 82, .mv (.s 10), none⟩,
          ⟨some 83, .mv (.s 0), none⟩,
          ⟨some 84, .mv (.s 11), none⟩,
          ⟨some 85, .mv (.s 0), none⟩,
          ⟨some 86, .mv (.s 11), none⟩,
          ⟨some 87, .iadr 1 (.s 85) (.s 86), none⟩,
          ⟨some 88, .load none (.s 87), none⟩,
          ⟨some 89, .mv (.s 0), none⟩,
          ⟨some 90, .mv (.s 10), none⟩,
          ⟨some 91, .iadr 1 (.s 89) (.s 90), none⟩,
          ⟨some 92, .load none (.s 91), none⟩]
          [⟨some 93, .iadr 1 (.s 81) (.s 82), none⟩,
          ⟨none, .store 1 (.s 93) (.s 88), none⟩,
          ⟨some 94, .iadr 1 (.s 83) (.s 84), none⟩,
          ⟨none, .store 1 (.s 94) (.s 92), none⟩] [0, 1, 10, 11])
        (.seq
         (.reg [⟨some 95, .mv (.s 10), none⟩,
           ⟨some 96, .bin .add (.s 95) (.k (litI .i64 1)), none⟩,
           ⟨some 10, .mv (.s 96), none⟩]
           [0, 1, 10, 11])
         (.seq
          (.reg [⟨some 97, .mv (.s 11), none⟩,
            ⟨some 98, .bin .sub (.s 97) (.k (litI .i64 1)), none⟩,
            ⟨some 11, .mv (.s 98), none⟩]
            [0, 1, 10, 11])
          (.seq
           (.block 4
            (.loop [0, 1, 10, 11] c34l4))
           (.seq
            (.draw [⟨some 153, .mv (.s 0), none⟩,
              ⟨some 154, .mv (.s 11), none⟩,
              ⟨some 155, .mv (.s 0), none⟩,
              ⟨some 156, .mv (.s 1), none⟩,
              ⟨some 157, .mv (.s 0), none⟩,
              ⟨some 158, .mv (.s 1), none⟩,
              ⟨some 159, .iadr 1 (.s 157) (.s 158), none⟩,
              ⟨some 160, .load none (.s 159), none⟩,
              ⟨some 161, .mv (.s 0), none⟩,
              ⟨some 162, .mv (.s 11), none⟩,
              ⟨some 163, .iadr 1 (.s 161) (.s 162), none⟩,
              ⟨some 164, .load none (.s 163), none⟩]
              [⟨some 165, .iadr 1 (.s 153) (.s 154), none⟩,
              ⟨none, .store 1 (.s 165) (.s 160), none⟩,
              ⟨some 166, .iadr 1 (.s 155) (.s 156), none⟩,
              ⟨none, .store 1 (.s 166) (.s 164), none⟩] [11])
            (.seq
             (.reg [⟨some 167, .mv (.s 11), none⟩,
               ⟨some 8, .mv (.s 167), none⟩,
               ⟨some 9, .mv (.k (litB false)), none⟩]
               [8, 9])
             .ret))))))))))))
def fn34 : F := ⟨4, 168, [.t 8, .t 9], c34⟩
def an34 : Ann := ann [(0, [0, 1, 2, 3]), (1, [0, 1, 2]), (2, [0, 1, 10, 11]), (3, [0, 1, 10, 11, 43]), (4, [0, 1, 10, 11]), (5, [0, 1, 10, 11, 60]), (6, [0, 1, 10, 11]), (7, [0, 1, 10, 11, 65]), (8, [11]), (9, [8, 9]), (10, [0, 1, 10, 11]), (11, [0, 1, 10, 11]), (12, [0, 1, 10, 11]), (13, [0, 1, 10, 11, 112]), (14, [0, 1, 10, 11]), (15, [0, 1, 10, 11, 129]), (16, [0, 1, 10, 11]), (17, [0, 1, 10, 11, 134]), (18, [0, 1, 10, 11]), (19, [0, 1, 10, 11]), (20, [0, 1, 10, 11]), (21, [11]), (22, [8, 9])] [(0, [0, 1, 10, 11]), (2, [0, 1, 10, 11]), (4, [0, 1, 10, 11]), (6, [0, 1, 10, 11]), (8, [0, 1, 10, 11])] [] [(1, 12), (3, 12), (5, 12), (8, 12), (10, 12), (13, 12), (15, 12), (18, 12), (21, 12)]
theorem is34 : compF Try.prog an34 Try.f34 = some fn34 := by kernel_rfl

/- math/bits.Len32 -/
def c35 : C :=
 (.seq
  (.reg [⟨some 2, .mv (.k (litI .i64 0)), none⟩]
    [0, 2])
  (.seq
   (.seq
    (.reg [⟨some 3, .mv (.s 0), none⟩,
      ⟨some 4, .bin .geq (.s 3) (.k (litI .u32 65536)), none⟩]
      [0, 2, 4])
    (.cond (.s 4)
     (.seq
      (.reg [⟨some 5, .mv (.s 0), none⟩,
        ⟨some 6, .bin .shr (.s 5) (.k (litI .u64 16)), none⟩,
        ⟨some 0, .mv (.s 6), none⟩]
        [0])
      (.reg [⟨some 2, .mv (.k (litI .i64 16)), none⟩]
        [0, 2]))
     .skip))
   (.seq
    (.seq
     (.reg [⟨some 7, .mv (.s 0), none⟩,
       ⟨some 8, .bin .geq (.s 7) (.k (litI .u32 256)), none⟩]
       [0, 2, 8])
     (.cond (.s 8)
      (.seq
       (.reg [⟨some 9, .mv (.s 0), none⟩,
         ⟨some 10, .bin .shr (.s 9) (.k (litI .u64 8)), none⟩,
         ⟨some 0, .mv (.s 10), none⟩]
         [0, 2])
       (.reg [⟨some 11, .mv (.s 2), none⟩,
         ⟨some 12, .bin .add (.s 11) (.k (litI .i64 8)), none⟩,
         ⟨some 2, .mv (.s 12), none⟩]
         [0, 2]))
      .skip))
    (.seq
     (.reg [⟨some 13, .mv (.s 2), none⟩,
       ⟨some 14, .mv (.s 0), none⟩,
       ⟨some 15, .conv (.int .u8) (.s 14), none⟩,
       ⟨some 16, .idxS (.k (litS (bs [0, 1, 2, 2, 3, 3, 3, 3, 4, 4, 4, 4, 4, 4, 4, 4, 5, 5, 5, 5, 5, 5, 5, 5, 5, 5, 5, 5, 5, 5, 5, 5, 6, 6, 6, 6, 6, 6, 6, 6, 6, 6, 6, 6, 6, 6, 6, 6, 6, 6, 6, 6, 6, 6, 6, 6, 6, 6, 6, 6, 6, 6, 6, 6, 7, 7, 7, 7, 7, 7, 7, 7, 7, 7, 7, 7, 7, 7, 7, 7, 7, 7, 7, 7, 7, 7, 7, 7, 7, 7, 7, 7, 7, 7, 7, 7, 7, 7, 7, 7, 7, 7, 7, 7, 7, 7, 7, 7, 7, 7, 7, 7, 7, 7, 7, 7, 7, 7, 7, 7, 7, 7, 7, 7, 7, 7, 7, 7, 8, 8, 8, 8, 8, 8, 8, 8, 8, 8, 8, 8, 8, 8, 8, 8, 8, 8, 8, 8, 8, 8, 8, 8, 8, 8, 8, 8, 8, 8, 8, 8, 8, 8, 8, 8, 8, 8, 8, 8, 8, 8, 8, 8, 8, 8, 8, 8, 8, 8, 8, 8, 8, 8, 8, 8, 8, 8, 8, 8, 8, 8, 8, 8, 8, 8, 8, 8, 8, 8, 8, 8, 8, 8, 8, 8, 8, 8, 8, 8, 8, 8, 8, 8, 8, 8, 8, 8, 8, 8, 8, 8, 8, 8, 8, 8, 8, 8, 8, 8, 8, 8, 8, 8, 8, 8, 8, 8, 8, 8, 8, 8, 8, 8, 8, 8, 8, 8, 8, 8, 8, 8, 8, 8, 8, 8, 8, 8]))) (.s 15), none⟩,
       ⟨some 17, .conv (.int .i64) (.s 16), none⟩,
       ⟨some 18, .bin .add (.s 13) (.s 17), none⟩,
       ⟨some 2, .mv (.s 18), none⟩]
       [2])
     .ret))))
def fn35 : F := ⟨1, 19, [.t 2], c35⟩
def an35 : Ann := ann [(0, [0, 2]), (1, [0, 2, 4]), (2, [0]), (3, [0, 2]), (4, [0, 2, 8]), (5, [0, 2]), (6, [0, 2]), (7, [2])] [] [] []
theorem is35 : compF Try.prog an35 Try.f35 = some fn35 := by kernel_rfl

/- math/bits.Len64 -/
def c36 : C :=
 (.seq
  (.reg [⟨some 2, .mv (.k (litI .i64 0)), none⟩]
    [0, 2])
  (.seq
   (.seq
    (.reg [⟨some 3, .mv (.s 0), none⟩,
      ⟨some 4, .bin .geq (.s 3) (.k (litI .u64 4294967296)), none⟩]
      [0, 2, 4])
    (.cond (.s 4)
     (.seq
      (.reg [⟨some 5, .mv (.s 0), none⟩,
        ⟨some 6, .bin .shr (.s 5) (.k (litI .u64 32)), none⟩,
        ⟨some 0, .mv (.s 6), none⟩]
        [0])
      (.reg [⟨some 2, .mv (.k (litI .i64 32)), none⟩]
        [0, 2]))
     .skip))
   (.seq
    (.seq
     (.reg [⟨some 7, .mv (.s 0), none⟩,
       ⟨some 8, .bin .geq (.s 7) (.k (litI .u64 65536)), none⟩]
       [0, 2, 8])
     (.cond (.s 8)
      (.seq
       (.reg [⟨some 9, .mv (.s 0), none⟩,
         ⟨some 10, .bin .shr (.s 9) (.k (litI .u64 16)), none⟩,
         ⟨some 0, .mv (.s 10), none⟩]
         [0, 2])
       (.reg [⟨some 11, .mv (.s 2), none⟩,
         ⟨some 12, .bin .add (.s 11) (.k (litI .i64 16)), none⟩,
         ⟨some 2, .mv (.s 12), none⟩]
         [0, 2]))
      .skip))
    (.seq
     (.seq
      (.reg [⟨some 13, .mv (.s 0), none⟩,
        ⟨some 14, .bin .geq (.s 13) (.k (litI .u64 256)), none⟩]
        [0, 2, 14])
      (.cond (.s 14)
       (.seq
        (.reg [⟨some 15, .mv (.s 0), none⟩,
          ⟨some 16, .bin .shr (.s 15) (.k (litI .u64 8)), none⟩,
          ⟨some 0, .mv (.s 16), none⟩]
          [0, 2])
        (.reg [⟨some 17, .mv (.s 2), none⟩,
          ⟨some 18, .bin .add (.s 17) (.k (litI .i64 8)), none⟩,
          ⟨some 2, .mv (.s 18), none⟩]
          [0, 2]))
       .skip))
     (.seq
      (.reg [⟨some 19, .mv (.s 2), none⟩,
        ⟨some 20, .mv (.s 0), none⟩,
        ⟨some 21, .conv (.int .u8) (.s 20), none⟩,
        ⟨some 22, .idxS (.k (litS (bs [0, 1, 2, 2, 3, 3, 3, 3, 4, 4, 4, 4, 4, 4, 4, 4, 5, 5, 5, 5, 5, 5, 5, 5, 5, 5, 5, 5, 5, 5, 5, 5, 6, 6, 6, 6, 6, 6, 6, 6, 6, 6, 6, 6, 6, 6, 6, 6, 6, 6, 6, 6, 6, 6, 6, 6, 6, 6, 6, 6, 6, 6, 6, 6, 7, 7, 7, 7, 7, 7, 7, 7, 7, 7, 7, 7, 7, 7, 7, 7, 7, 7, 7, 7, 7, 7, 7, 7, 7, 7, 7, 7, 7, 7, 7, 7, 7, 7, 7, 7, 7, 7, 7, 7, 7, 7, 7, 7, 7, 7, 7, 7, 7, 7, 7, 7, 7, 7, 7, 7, 7, 7, 7, 7, 7, 7, 7, 7, 8, 8, 8, 8, 8, 8, 8, 8, 8, 8, 8, 8, 8, 8, 8, 8, 8, 8, 8, 8, 8, 8, 8, 8, 8, 8, 8, 8, 8, 8, 8, 8, 8, 8, 8, 8, 8, 8, 8, 8, 8, 8, 8, 8, 8, 8, 8, 8, 8, 8, 8, 8, 8, 8, 8, 8, 8, 8, 8, 8, 8, 8, 8, 8, 8, 8, 8, 8, 8, 8, 8, 8, 8, 8, 8, 8, 8, 8, 8, 8, 8, 8, 8, 8, 8, 8, 8, 8, 8, 8, 8, 8, 8, 8, 8, 8, 8, 8, 8, 8, 8, 8, 8, 8, 8, 8, 8, 8, 8, 8, 8, 8, 8, 8, 8, 8, 8, 8, 8, 8, 8, 8, 8, 8, 8, 8, 8, 8]))) (.s 21), none⟩,
        ⟨some 23, .conv (.int .i64) (.s 22), none⟩,
        ⟨some 24, .bin .add (.s 19) (.s 23), none⟩,
        ⟨some 2, .mv (.s 24), none⟩]
        [2])
      .ret)))))
def fn36 : F := ⟨1, 25, [.t 2], c36⟩
def an36 : Ann := ann [(0, [0, 2]), (1, [0, 2, 4]), (2, [0]), (3, [0, 2]), (4, [0, 2, 8]), (5, [0, 2]), (6, [0, 2]), (7, [0, 2, 14]), (8, [0, 2]), (9, [0, 2]), (10, [2])] [] [] []
theorem is36 : compF Try.prog an36 Try.f36 = some fn36 := by kernel_rfl

/- slices.siftDownOrdered[int] -/
def c37l0 : C :=
 (.block 1
  (.seq
   (.reg [⟨some 11, .mv (.s 8), none⟩,
     ⟨some 12, .bin .mul (.k (litI .i64 2)) (.s 11), none⟩,
     ⟨some 13, .bin .add (.s 12) (.k (litI .i64 1)), none⟩,
     ⟨some 9, .mv (.s 13), none⟩]
     [0, 2, 3, 8, 9])
   (.seq
    (.seq
     (.reg [⟨some 14, .mv (.s 9), none⟩,
       ⟨some 15, .mv (.s 2), none⟩,
       ⟨some 16, .bin .geq (.s 14) (.s 15), none⟩]
       [0, 2, 3, 8, 9, 16])
     (.cond (.s 16)
      (.exit 0)
      .skip))
    (.seq
     (.seq
      (.draw [⟨some 17, .mv (.s 9), none⟩,
        ⟨some 18, .bin .add (.s 17) (.k (litI .i64 1)), none⟩,
        ⟨some 19, .mv (.s 2), none⟩,
        ⟨some 20, .bin .lss (.s 18) (.s 19), none⟩,
        ⟨some 21, .mv (.s 20), none⟩,
        ⟨some 22, .mv (.s 0), some (21, true)⟩,
        ⟨some 23, .mv (.s 3), some (21, true)⟩,
        ⟨some 24, .mv (.s 9), some (21, true)⟩,
        ⟨some 25, .bin .add (.s 23) (.s 24), some (21, true)⟩,
        ⟨some 26, .iadr 1 (.s 22) (.s 25), some (21, true)⟩,
        ⟨some 27, .load none (.s 26), some (21, true)⟩,
        ⟨some 28, .mv (.s 0), some (21, true)⟩,
        ⟨some 29, .mv (.s 3), some (21, true)⟩,
        ⟨some 30, .mv (.s 9), some (21, true)⟩,
        ⟨some 31, .bin .add (.s 29) (.s 30), some (21, true)⟩,
        ⟨some 32, .bin .add (.s 31) (.k (litI .i64 1)), some (21, true)⟩,
        ⟨some 33, .iadr 1 (.s 28) (.s 32), some (21, true)⟩,
        ⟨some 34, .load none (.s 33), some (21, true)⟩]
        [⟨some 35, .call (.k (.fn (.func 32) [] [])) [.s 27, .s 34], some (21, true)⟩,
        ⟨some 36, .pick (.s 21) (.s 35) (.k (litB false)), none⟩] [0, 2, 3, 8, 9, 36])
      (.cond (.s 36)
       (.reg [⟨some 37, .mv (.s 9), none⟩,
         ⟨some 38, .bin .add (.s 37) (.k (litI .i64 1)), none⟩,
         ⟨some 9, .mv (.s 38), none⟩]
         [0, 2, 3, 8, 9])
       .skip))
     (.seq
      (.seq
       (.draw [⟨some 39, .mv (.s 0), none⟩,
         ⟨some 40, .mv (.s 3), none⟩,
         ⟨some 41, .mv (.s 8), none⟩,
         ⟨some 42, .bin .add (.s 40) (.s 41), none⟩,
         ⟨some 43, .iadr 1 (.s 39) (.s 42), none⟩,
         ⟨some 44, .load none (.s 43), none⟩,
         ⟨some 45, .mv (.s 0), none⟩,
         ⟨some 46, .mv (.s 3), none⟩,
         ⟨some 47, .mv (.s 9), none⟩,
         ⟨some 48, .bin .add (.s 46) (.s 47), none⟩,
         ⟨some 49, .iadr 1 (.s 45) (.s 48), none⟩,
         ⟨some 50, .load none (.s 49), none⟩]
         [⟨some 51, .call (.k (.fn (.func 32) [] [])) [.s 44, .s 50], none⟩,
         ⟨some 52, .un .not (.s 51), none⟩] [0, 2, 3, 8, 9, 52])
       (.cond (.s 52)
        .ret
        .skip))
      (.seq
       (.draw [⟨some 53, .mv (.s 0), none⟩,
         ⟨some 54, .mv (.s 3), none⟩,
         ⟨some 55, .mv (.s 8), none⟩,
         ⟨some 56, .bin .add (.s 54) (.s 55), none⟩,
         ⟨some 57, .mv (.s 0), none⟩,
         ⟨some 58, .mv (.s 3), none⟩,
         ⟨some 59, .mv (.s 9), none⟩,
         ⟨some 60, .bin .add (.s 58) (.s 59), none⟩,
         ⟨some 61, .mv (.s 0), none⟩,
         ⟨some 62, .mv (.s 3), none⟩,
         ⟨some 63, .mv (.s 9), none⟩,
         ⟨some 64, .bin .add (.s 62) (.s 63), none⟩,
         ⟨some 65, .iadr 1 (.s 61) (.s 64), none⟩,
         ⟨some 66, .load none (.s 65), none⟩,
         ⟨some 67, .mv (.s 0), none⟩,
         ⟨some 68, .mv (.s 3), none⟩,
         ⟨some 69, .mv (.s 8), none⟩,
         ⟨some 70, .bin .add (.s 68) (.s 69), none⟩,
         ⟨some 71, .iadr 1 (.s 67) (.s 70), none⟩,
         ⟨some 72, .load none (.s 71), none⟩]
         [⟨some 73, .iadr 1 (.s 53) (.s 56), none⟩,
         ⟨none, .store 1 (.s 73) (.s 66), none⟩,
         ⟨some 74, .iadr 1 (.s 57) (.s 60), none⟩,
         ⟨none, .store 1 (.s 74) (.s 72), none⟩] [0, 2, 3, 9])
       (.reg [⟨some 75, .mv (.s 9), none⟩,
         ⟨some 8, .mv (.s 75), none⟩]
         [0, 2, 3, 8])))))))
def c37 : C :=
 (.seq
  (.reg [⟨some 10, .mv (.s 1), none⟩,
    ⟨some 8, .mv (.s 10), none⟩]
    [0, 2, 3, 8])
  (.block 0
   (.loop [0, 2, 3, 8] c37l0)))
def fn37 : F := ⟨4, 76, [], c37⟩
def an37 : Ann := ann [(0, [0, 2, 3, 8]), (1, [0, 2, 3, 8, 9]), (2, [0, 2, 3, 8, 9, 16]), (3, [0, 2, 3, 8, 9, 36]), (4, [0, 2, 3, 8, 9]), (5, [0, 2, 3, 8, 9, 52]), (6, [0, 2, 3, 9]), (7, [0, 2, 3, 8])] [(0, [0, 2, 3, 8])] [] [(3, 18), (5, 12), (6, 20)]
theorem is37 : compF Try.prog an37 Try.f37 = some fn37 := by kernel_rfl

/- slices.nextPowerOfTwo -/
def c38 : C :=
 (.seq
  (.reg [⟨some 2, .mv (.k (litI .u64 0)), none⟩]
    [0])
  (.seq
   (.reg [⟨some 3, .mv (.s 0), none⟩,
     ⟨some 4, .conv (.int .u64) (.s 3), none⟩,
     ⟨some 5, .call (.k (.fn (.func 25) [] [])) [.s 4], none⟩,
     ⟨some 6, .bin .shl (.k (litI .u64 1)) (.s 5), none⟩,
     ⟨some 2, .mv (.s 6), none⟩]
     [2])
   .ret))
def fn38 : F := ⟨1, 7, [.t 2], c38⟩
def an38 : Ann := ann [(0, [0]), (1, [2])] [] [] []
theorem is38 : compF Try.prog an38 Try.f38 = some fn38 := by kernel_rfl

/- (*slices.xorshift).Next -/
def c39 : C :=
 (.seq
  (.reg [⟨some 2, .mv (.k (litI .u64 0)), none⟩]
    [0])
  (.seq
   (.draw [⟨some 3, .mv (.s 0), none⟩,
     ⟨some 4, .nilck (.s 3), none⟩,
     ⟨some 5, .load none (.s 4), none⟩,
     ⟨some 6, .mv (.s 0), none⟩,
     ⟨some 7, .nilck (.s 6), none⟩,
     ⟨some 8, .load none (.s 7), none⟩]
     [⟨some 9, .bin .shl (.s 8) (.k (litI .u64 13)), none⟩,
     ⟨some 10, .bin .xor (.s 5) (.s 9), none⟩,
     ⟨some 11, .nilck (.s 3), none⟩,
     ⟨none, .store 1 (.s 11) (.s 10), none⟩] [0])
   (.seq
    (.draw [⟨some 12, .mv (.s 0), none⟩,
      ⟨some 13, .nilck (.s 12), none⟩,
      ⟨some 14, .load none (.s 13), none⟩,
      ⟨some 15, .mv (.s 0), none⟩,
      ⟨some 16, .nilck (.s 15), none⟩,
      ⟨some 17, .load none (.s 16), none⟩]
      [⟨some 18, .bin .shr (.s 17) (.k (litI .u64 7)), none⟩,
      ⟨some 19, .bin .xor (.s 14) (.s 18), none⟩,
      ⟨some 20, .nilck (.s 12), none⟩,
      ⟨none, .store 1 (.s 20) (.s 19), none⟩] [0])
    (.seq
     (.draw [⟨some 21, .mv (.s 0), none⟩,
       ⟨some 22, .nilck (.s 21), none⟩,
       ⟨some 23, .load none (.s 22), none⟩,
       ⟨some 24, .mv (.s 0), none⟩,
       ⟨some 25, .nilck (.s 24), none⟩,
       ⟨some 26, .load none (.s 25), none⟩]
       [⟨some 27, .bin .shl (.s 26) (.k (litI .u64 17)), none⟩,
       ⟨some 28, .bin .xor (.s 23) (.s 27), none⟩,
       ⟨some 29, .nilck (.s 21), none⟩,
       ⟨none, .store 1 (.s 29) (.s 28), none⟩] [0])
     (.seq
      (.reg [⟨some 30, .mv (.s 0), none⟩,
        ⟨some 31, .nilck (.s 30), none⟩,
        ⟨some 32, .load none (.s 31), none⟩,
        ⟨some 2, .mv (.s 32), none⟩]
        [2])
      .ret)))))
def fn39 : F := ⟨1, 33, [.t 2], c39⟩
def an39 : Ann := ann [(0, [0]), (1, [0]), (2, [0]), (3, [0]), (4, [2])] [] [] [(1, 6), (2, 6), (3, 6)]
theorem is39 : compF Try.prog an39 Try.f39 = some fn39 := by kernel_rfl

/- slices.medianAdjacentOrdered[int] -/
def c40 : C :=
 (.seq
  (.reg [⟨some 6, .mv (.k (litI .i64 0)), none⟩]
    [0, 1, 2])
  (.seq
   (.reg [⟨some 7, .mv (.s 0), none⟩,
     ⟨some 8, .mv (.s 1), none⟩,
     ⟨some 9, .bin .sub (.s 8) (.k (litI .i64 1)), none⟩,
     ⟨some 10, .mv (.s 1), none⟩,
     ⟨some 11, .mv (.s 1), none⟩,
     ⟨some 12, .bin .add (.s 11) (.k (litI .i64 1)), none⟩,
     ⟨some 13, .mv (.s 2), none⟩,
     ⟨some 14, .call (.k (.fn (.func 41) [] [])) [.s 7, .s 9, .s 10, .s 12, .s 13], none⟩,
     ⟨some 6, .mv (.s 14), none⟩]
     [6])
   .ret))
def fn40 : F := ⟨3, 15, [.t 6], c40⟩
def an40 : Ann := ann [(0, [0, 1, 2]), (1, [6])] [] [] []
theorem is40 : compF Try.prog an40 Try.f40 = some fn40 := by kernel_rfl

/- slices.medianOrdered[int] -/
def c41 : C :=
 (.seq
  (.reg [⟨some 10, .mv (.k (litI .i64 0)), none⟩]
    [0, 1, 2, 3, 4])
  (.seq
   (.reg [⟨some 12, .mv (.s 0), none⟩,
     ⟨some 13, .mv (.s 1), none⟩,
     ⟨some 14, .mv (.s 2), none⟩,
     ⟨some 15, .mv (.s 4), none⟩,
     ⟨some 16, .call (.k (.fn (.func 43) [] [])) [.s 12, .s 13, .s 14, .s 15], none⟩,
     ⟨some 11, .mv (.s 16), none⟩,
     ⟨some 17, .ext (.s 11) 0, none⟩,
     ⟨some 18, .ext (.s 11) 1, none⟩,
     ⟨some 1, .mv (.s 17), none⟩,
     ⟨some 2, .mv (.s 18), none⟩]
     [0, 1, 2, 3, 4])
   (.seq
    (.reg [⟨some 20, .mv (.s 0), none⟩,
      ⟨some 21, .mv (.s 2), none⟩,
      ⟨some 22, .mv (.s 3), none⟩,
      ⟨some 23, .mv (.s 4), none⟩,
      ⟨some 24, .call (.k (.fn (.func 43) [] [])) [.s 20, .s 21, .s 22, .s 23], none⟩,
      ⟨some 19, .mv (.s 24), none⟩,
      ⟨some 25, .ext (.s 19) 0, none⟩,
      ⟨some 26, .ext (.s 19) 1, none⟩,
      ⟨some 2, .mv (.s 25), none⟩,
      ⟨some 3, .mv (.s 26), none⟩]
      [0, 1, 2, 4])
    (.seq
     (.reg [⟨some 28, .mv (.s 0), none⟩,
       ⟨some 29, .mv (.s 1), none⟩,
       ⟨some 30, .mv (.s 2), none⟩,
       ⟨some 31, .mv (.s 4), none⟩,
       ⟨some 32, .call (.k (.fn (.func 43) [] [])) [.s 28, .s 29, .s 30, .s 31], none⟩,
       ⟨some 27, .mv (.s 32), none⟩,
       ⟨some 33, .ext (.s 27) 0, none⟩,
       ⟨some 34, .ext (.s 27) 1, none⟩,
       ⟨some 1, .mv (.s 33), none⟩,
       ⟨some 2, .mv (.s 34), none⟩]
       [2])
     (.seq
      (.reg [⟨some 35, .mv (.s 2), none⟩,
        ⟨some 10, .mv (.s 35), none⟩]
        [10])
      .ret)))))
def fn41 : F := ⟨5, 36, [.t 10], c41⟩
def an41 : Ann := ann [(0, [0, 1, 2, 3, 4]), (1, [0, 1, 2, 3, 4]), (2, [0, 1, 2, 4]), (3, [2]), (4, [10])] [] [] []
theorem is41 : compF Try.prog an41 Try.f41 = some fn41 := by kernel_rfl

/- cmp.isNaN[int] -/
def c42 : C :=
 (.seq
  (.reg [⟨some 2, .mv (.k (litB false)), none⟩]
    [0])
  (.seq
   (.reg [⟨some 3, .mv (.s 0), none⟩,
     ⟨some 4, .mv (.s 0), none⟩,
     ⟨some 5, .bin .neq (.s 3) (.s 4), none⟩,
     ⟨some 2, .mv (.s 5), none⟩]
     [2])
   .ret))
def fn42 : F := ⟨1, 6, [.t 2], c42⟩
def an42 : Ann := ann [(0, [0]), (1, [2])] [] [] []
theorem is42 : compF Try.prog an42 Try.f42 = some fn42 := by kernel_rfl

/- slices.order2Ordered[int] -/
def c43 : C :=
 (.seq
  (.reg [⟨some 8, .mv (.k (litI .i64 0)), none⟩,
    ⟨some 9, .mv (.k (litI .i64 0)), none⟩]
    [0, 1, 2, 3])
  (.seq
   (.seq
    (.draw [⟨some 10, .mv (.s 0), none⟩,
      ⟨some 11, .mv (.s 2), none⟩,
      ⟨some 12, .iadr 1 (.s 10) (.s 11), none⟩,
      ⟨some 13, .load none (.s 12), none⟩,
      ⟨some 14, .mv (.s 0), none⟩,
      ⟨some 15, .mv (.s 1), none⟩,
      ⟨some 16, .iadr 1 (.s 14) (.s 15), none⟩,
      ⟨some 17, .load none (.s 16), none⟩]
      [⟨some 18, .call (.k (.fn (.func 32) [] [])) [.s 13, .s 17], none⟩] [1, 2, 3, 18])
    (.cond (.s 18)
     (.seq
      (.reg [⟨some 19, .mv (.s 3), none⟩,
        ⟨some 20, .nilck (.s 19), none⟩,
        ⟨some 21, .load none (.s 20), none⟩,
        ⟨some 22, .bin .add (.s 21) (.k (litI .i64 1)), none⟩,
        ⟨some 23, .nilck (.s 19), none⟩,
        ⟨none, .store 1 (.s 23) (.s 22), none⟩]
        [1, 2])
      (.seq
       (.reg [⟨some 24, .mv (.s 2), none⟩,
         ⟨some 25, .mv (.s 1), none⟩,
         ⟨some 8, .mv (.s 24), none⟩,
         ⟨some 9, .mv (.s 25), none⟩]
         [8, 9])
       .ret))
     .skip))
   (.seq
    (.reg [⟨some 26, .mv (.s 1), none⟩,
      ⟨some 27, .mv (.s 2), none⟩,
      ⟨some 8, .mv (.s 26), none⟩,
      ⟨some 9, .mv (.s 27), none⟩]
      [8, 9])
    .ret)))
def fn43 : F := ⟨4, 28, [.t 8, .t 9], c43⟩
def an43 : Ann := ann [(0, [0, 1, 2, 3]), (1, [1, 2, 3, 18]), (2, [1, 2]), (3, [8, 9]), (4, [8, 9])] [] [] [(1, 8)]
theorem is43 : compF Try.prog an43 Try.f43 = some fn43 := by kernel_rfl

/- (foliot/graph.ready).Less -/
def c60 : C :=
 (.seq
  (.reg [⟨some 6, .mv (.k (litB false)), none⟩]
    [0, 1, 2])
  (.seq
   (.draw [⟨some 7, .mv (.s 0), none⟩,
     ⟨some 8, .mv (.s 1), none⟩,
     ⟨some 9, .iadr 1 (.s 7) (.s 8), none⟩,
     ⟨some 10, .load none (.s 9), none⟩,
     ⟨some 11, .mv (.s 0), none⟩,
     ⟨some 12, .mv (.s 2), none⟩,
     ⟨some 13, .iadr 1 (.s 11) (.s 12), none⟩,
     ⟨some 14, .load none (.s 13), none⟩]
     [⟨some 15, .bin .lss (.s 10) (.s 14), none⟩,
     ⟨some 6, .mv (.s 15), none⟩] [6])
   .ret))
def fn60 : F := ⟨3, 16, [.t 6], c60⟩
def an60 : Ann := ann [(0, [0, 1, 2]), (1, [6])] [] [] [(1, 8)]
theorem is60 : compF Try.prog an60 Try.f60 = some fn60 := by kernel_rfl

/- (foliot/graph.ready).Swap -/
def c61 : C :=
 (.draw [⟨some 6, .mv (.s 0), none⟩,
   ⟨some 7, .mv (.s 1), none⟩,
   ⟨some 8, .mv (.s 0), none⟩,
   ⟨some 9, .mv (.s 2), none⟩,
   ⟨some 10, .mv (.s 0), none⟩,
   ⟨some 11, .mv (.s 2), none⟩,
   ⟨some 12, .iadr 1 (.s 10) (.s 11), none⟩,
   ⟨some 13, .load none (.s 12), none⟩,
   ⟨some 14, .mv (.s 0), none⟩,
   ⟨some 15, .mv (.s 1), none⟩,
   ⟨some 16, .iadr 1 (.s 14) (.s 15), none⟩,
   ⟨some 17, .load none (.s 16), none⟩]
   [⟨some 18, .iadr 1 (.s 6) (.s 7), none⟩,
   ⟨none, .store 1 (.s 18) (.s 13), none⟩,
   ⟨some 19, .iadr 1 (.s 8) (.s 9), none⟩,
   ⟨none, .store 1 (.s 19) (.s 17), none⟩] [])
def fn61 : F := ⟨3, 20, [], c61⟩
def an61 : Ann := ann [(0, [])] [] [] [(0, 12)]
theorem is61 : compF Try.prog an61 Try.f61 = some fn61 := by kernel_rfl

/- (*foliot/graph.ready).Pop -/
def c62 : C :=
 (.seq
  (.reg [⟨some 2, .mv (.k (.lit .nilIface)), none⟩]
    [0])
  (.seq
   (.reg [⟨some 5, .mv (.s 0), none⟩,
     ⟨some 6, .nilck (.s 5), none⟩,
     ⟨some 7, .load none (.s 6), none⟩,
     ⟨some 3, .mv (.s 7), none⟩]
     [0, 3])
   (.seq
    (.reg [⟨some 8, .mv (.s 3), none⟩,
      ⟨some 9, .mv (.s 3), none⟩,
      ⟨some 10, .len (.s 9), none⟩,
      ⟨some 11, .bin .sub (.s 10) (.k (litI .i64 1)), none⟩,
      ⟨some 12, .iadr 1 (.s 8) (.s 11), none⟩,
      ⟨some 13, .load none (.s 12), none⟩,
      ⟨some 4, .mv (.s 13), none⟩]
      [0, 3, 4])
    (.seq
     (.reg [⟨some 14, .mv (.s 0), none⟩,
       ⟨some 15, .mv (.s 3), none⟩,
       ⟨some 16, .mv (.s 3), none⟩,
       ⟨some 17, .len (.s 16), none⟩,
       ⟨some 18, .bin .sub (.s 17) (.k (litI .i64 1)), none⟩,
       ⟨some 19, .sli 1 (.s 15) none (some (.s 18)) none, none⟩,
       ⟨some 20, .nilck (.s 14), none⟩,
       ⟨none, .store 1 (.s 20) (.s 19), none⟩]
       [4])
     (.seq
      (.reg [⟨some 21, .mv (.s 4), none⟩,
        ⟨some 22, .mki 3 (.s 21), none⟩,
        ⟨some 2, .mv (.s 22), none⟩]
        [2])
      .ret)))))
def fn62 : F := ⟨1, 23, [.t 2], c62⟩
def an62 : Ann := ann [(0, [0]), (1, [0, 3]), (2, [0, 3, 4]), (3, [4]), (4, [2])] [] [] []
theorem is62 : compF Try.prog an62 Try.f62 = some fn62 := by kernel_rfl

/- (*foliot/graph.ready).Push -/
def c63 : C :=
 (.draw [⟨some 4, .mv (.s 0), none⟩,
   ⟨some 5, .mv (.s 0), none⟩,
   ⟨some 6, .nilck (.s 5), none⟩,
   ⟨some 7, .load none (.s 6), none⟩,
   ⟨some 8, .mv (.s 1), none⟩,
   ⟨some 9, .tas 3 false (litI .i64 0) (.s 8), none⟩,
   ⟨some 10, .bslice false 1 1 [litI .i64 0] [(0, .s 9)] 3, none⟩]
   [⟨some 11, .app 1 8 3 (.s 7) (.s 10), none⟩,
   ⟨some 12, .nilck (.s 4), none⟩,
   ⟨none, .store 1 (.s 12) (.s 11), none⟩] [])
def fn63 : F := ⟨2, 13, [], c63⟩
def an63 : Ann := ann [(0, [])] [] [] [(0, 7)]
theorem is63 : compF Try.prog an63 Try.f63 = some fn63 := by kernel_rfl


end Go.Proofs.Ytoemnjclhheeoaa.Ai
