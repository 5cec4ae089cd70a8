/- Codes of the functions that are reached, and that they are the loaded ones. No condition. -/
import Derived.Test.YtcgbdndkfonphaaG5
import Derived.Test.YtcgbdndkfonphaaProg
import Derived.Shelf.Small.Bits
import Derived.Shelf.Small.Wraps
import Derived.Shelf.Strconv.Itoa0
import Derived.Shelf.Sort.Plain
import Derived.Ground.Names2Prog
import Derived.Shelf.Slices.CompactI
import Derived.Shelf.Slices.SearchI
import Derived.Shelf.Slices.Cells
import Derived.Shelf.Slices.In.SortNone
set_option linter.unusedSimpArgs false
set_option linter.unusedVariables false
set_option linter.unusedSectionVars false
open Nat (reduceLT reduceEqDiff reduceAdd)
namespace Go.Proofs.Ytcgbdndkfonphaa.Ai
open Go Go.Ai Go.Proofs
def c54l0:C:=(.seq (.reg [oO 18 (.bin .lss (.s 17) (.s 16))] [1,3,15,16,17,18]) (.seq (.cond (.s 18) .skip (.exit 0)) (.seq (.block 1 (.seq (.reg [oI 19 10 15 17,oO 20 (.load (some 10) (.s 19)),oO 5 (.alloc [litI .i64 0,litS (bs []),.sl 0 [] (some 0),litI .i64 0,litI .i64 0,litB false,.sl 0 [] (some 0),.sl 0 [] (some 0),litS (bs []),litI .i64 0] 60),⟨none,.store 10 (.s 5) (.s 20),none⟩] [1,3,5,15,16,17]) (.seq (.draw [oF 21 2 5,oL 22 21,oO 23 (.load (some 8) (.s 1)),oO 24 (.load (some 10) (.s 5)),oC 25 74 [.s 23,.s 24],oF 26 9 5,oL 27 26,oO 28 (.bslice false 1 1 [litI .i64 0] [(0,.s 27)] 3)] [oO 29 (.bslice false 1 3 [.sl 0 [] (some 0)] [(0,.s 22),(1,.s 25),(2,.s 28)] 23),oC 30 51 [.s 29],oM 6 30] [1,3,5,6,15,16,17]) (.seq (.reg [oM 31 6,oC 32 75 [.s 31]] [1,3,5,6,15,16,17]) (.draw [oM 33 3,oF 34 0 5,oL 35 34,oM 36 6] [oC 37 77 [.s 36],oO 38 (.call (.k (.fn (.func 76) [] [])) [.s 37,.k (.fn (.func 78) [] [])]),oI 39 1 33 35,⟨none,.store 1 (.s 39) (.s 38),none⟩] [1,3,15,16,17] [oL 35 34]))))) (.reg [oO 40 (.bin .add (.s 17) (.k (litI .i64 1))),oM 17 40] [1,3,15,16,17]))))
def c54:C:=(.seq (.reg [oO 1 (.box 8 (.s 0) 29),oO 2 (.mv (.k (.sl 0 [] (some 0))))] [1]) (.seq (.seq (.reg [oO 7 (.load (some 8) (.s 1)),oC 8 37 [.s 7],oO 9 (.un .not (.s 8))] [1,9]) (.cond (.s 9) (.seq (.reg [oO 2 (.mv (.k (.sl 0 [] (some 0))))] [2]) .ret) .skip)) (.seq (.reg [oF 10 1 1,oL 11 10,oO 12 (.len (.s 11)),oO 13 (.mks 1 24 [.sl 0 [] (some 0)] 23 (.s 12) (.s 12)),oM 3 13] [1,3]) (.seq (.seq (.reg [oF 14 3 1,oL 15 14,oO 16 (.len (.s 15)),oO 17 (.mv (.k (litI .i64 0)))] [1,3,15,16,17]) (.block 0 (.loop [1,3,15,16,17] c54l0))) (.seq (.reg [oM 41 3,oM 2 41] [2]) .ret)))))
def fn54:F:=⟨1,42,[.t 2],c54⟩
def an54:Ann:=ann [(0,[1]),(1,[1,9]),(2,[2]),(3,[1,3]),(4,[1,3,15,16,17]),(5,[1,3,15,16,17,18]),(6,[1,3,5,15,16,17]),(7,[1,3,5,6,15,16,17]),(8,[1,3,5,6,15,16,17]),(9,[1,3,15,16,17]),(10,[1,3,15,16,17]),(11,[2])] [(0,[1,3,15,16,17])] [] [(7,8),(9,4)] [(9,[2])]
theorem is54:compF Try.prog an54 Try.f54=some fn54:=by kernel_rfl
def c55l0:C:=(.seq (.reg [oO 24 (.bin .lss (.s 23) (.s 22))] [1,3,21,22,23,24]) (.seq (.cond (.s 24) .skip (.exit 0)) (.seq (.block 1 (.seq (.reg [oI 25 8 21 23,oO 26 (.load (some 8) (.s 25)),oO 5 (.alloc [litI .i64 0,litB false,.sl 0 [] (some 0),.sl 0 [] (some 0),litS (bs []),litI .i64 0,litI .i64 0,.sl 0 [] (some 0)] 87),⟨none,.store 8 (.s 5) (.s 26),none⟩] [1,3,5,21,22,23]) (.draw [oM 27 3,oF 28 5 5,oL 29 28,oF 30 6 5,oL 31 30,oO 32 (.bslice false 1 2 [litI .i64 0] [(0,.s 29),(1,.s 31)] 3)] [oO 33 (.app 1 8 3 (.s 27) (.s 32)),oF 34 7 5,oL 35 34,oO 36 (.app 1 8 3 (.s 33) (.s 35)),oM 3 36] [1,3,21,22,23] [] [35]))) (.reg [oO 37 (.bin .add (.s 23) (.k (litI .i64 1))),oM 23 37] [1,3,21,22,23]))))
def c55l1:C:=(.seq (.reg [oO 59 (.bin .lss (.s 58) (.s 57))] [1,3,39,40,41,56,57,58,59]) (.seq (.cond (.s 59) .skip (.exit 4)) (.seq (.block 5 (.seq (.reg [oI 60 2 56 58,oO 61 (.load (some 2) (.s 60)),oO 9 (.alloc [litI .i64 0,litI .i64 0] 92),⟨none,.store 2 (.s 9) (.s 61),none⟩] [1,3,9,39,40,41,56,57,58]) (.reg [oM 62 3,oF 63 0 9,oL 64 63,oF 65 1 9,oL 66 65,oO 67 (.bslice false 1 2 [litI .i64 0] [(0,.s 64),(1,.s 66)] 3),oO 68 (.app 1 8 3 (.s 62) (.s 67)),oM 3 68] [1,3,39,40,41,56,57,58]))) (.reg [oO 69 (.bin .add (.s 58) (.k (litI .i64 1))),oM 58 69] [1,3,39,40,41,56,57,58]))))
def c55l2:C:=(.seq (.reg [oO 42 (.bin .lss (.s 41) (.s 40))] [1,3,39,40,41,42]) (.seq (.cond (.s 42) .skip (.exit 2)) (.seq (.block 3 (.seq (.reg [oI 43 9 39 41,oO 44 (.load (some 9) (.s 43)),oO 7 (.alloc [litI .i64 0,litB false,.sl 0 [] (some 0),.sl 0 [] (some 0),litS (bs []),litI .i64 0,litI .i64 0,.sl 0 [] (some 0),.sl 0 [] (some 0)] 90),⟨none,.store 9 (.s 7) (.s 44),none⟩] [1,3,7,39,40,41]) (.seq (.draw [oM 45 3,oF 46 5 7,oL 47 46,oF 48 6 7,oL 49 48,oO 50 (.bslice false 1 2 [litI .i64 0] [(0,.s 47),(1,.s 49)] 3)] [oO 51 (.app 1 8 3 (.s 45) (.s 50)),oF 52 7 7,oL 53 52,oO 54 (.app 1 8 3 (.s 51) (.s 53)),oM 3 54] [1,3,7,39,40,41] [] [53]) (.seq (.reg [oF 55 8 7,oL 56 55,oO 57 (.len (.s 56)),oO 58 (.mv (.k (litI .i64 0)))] [1,3,39,40,41,56,57,58]) (.block 4 (.loop [1,3,39,40,41,56,57,58] c55l1)))))) (.reg [oO 70 (.bin .add (.s 41) (.k (litI .i64 1))),oM 41 70] [1,3,39,40,41]))))
def c55l3:C:=(.seq (.reg [oO 87 (.bin .lss (.s 86) (.s 85))] [3,72,73,74,84,85,86,87]) (.seq (.cond (.s 87) .skip (.exit 8)) (.seq (.block 9 (.seq (.reg [oI 88 2 84 86,oO 89 (.load (some 2) (.s 88)),oO 13 (.alloc [litS (bs []),.sl 0 [] (some 0)] 94),⟨none,.store 2 (.s 13) (.s 89),none⟩] [3,13,72,73,74,84,85,86]) (.seq (.reg [oF 90 0 13,oL 91 90,oO 92 (.bin .eql (.s 91) (.k (litS (bs [118,97,114])))),oM 93 92,⟨some 94,.fadr 0 (.s 13),some (93,false)⟩,⟨some 95,.load none (.s 94),some (93,false)⟩,⟨some 96,.bin .eql (.s 95) (.k (litS (bs [115,101,108]))),some (93,false)⟩,oO 97 (.pick (.s 93) (.k (litB true)) (.s 96))] [3,13,72,73,74,84,85,86,97]) (.cond (.s 97) (.reg [oM 98 3,oF 99 1 13,oL 100 99,oO 101 (.iadr 1 (.s 100) (.k (litI .i64 0))),oL 102 101,oO 103 (.bslice false 1 1 [litI .i64 0] [(0,.s 102)] 3),oO 104 (.app 1 8 3 (.s 98) (.s 103)),oM 3 104] [3,72,73,74,84,85,86]) .skip)))) (.reg [oO 105 (.bin .add (.s 86) (.k (litI .i64 1))),oM 86 105] [3,72,73,74,84,85,86]))))
def c55l4:C:=(.seq (.reg [oO 75 (.bin .lss (.s 74) (.s 73))] [3,72,73,74,75]) (.seq (.cond (.s 75) .skip (.exit 6)) (.seq (.block 7 (.seq (.reg [oI 76 2 72 74,oO 77 (.load (some 2) (.s 76)),oO 11 (.alloc [litI .i64 0,.sl 0 [] (some 0)] 45),⟨none,.store 2 (.s 11) (.s 77),none⟩] [3,11,72,73,74]) (.seq (.reg [oM 78 3,oF 79 0 11,oL 80 79,oO 81 (.bslice false 1 1 [litI .i64 0] [(0,.s 80)] 3),oO 82 (.app 1 8 3 (.s 78) (.s 81)),oM 3 82] [3,11,72,73,74]) (.seq (.reg [oF 83 1 11,oL 84 83,oO 85 (.len (.s 84)),oO 86 (.mv (.k (litI .i64 0)))] [3,72,73,74,84,85,86]) (.block 8 (.loop [3,72,73,74,84,85,86] c55l3)))))) (.reg [oO 106 (.bin .add (.s 74) (.k (litI .i64 1))),oM 74 106] [3,72,73,74]))))
def c55:C:=(.seq (.reg [oO 1 (.box 8 (.s 0) 29),oO 2 (.mv (.k (.sl 0 [] (some 0))))] [1]) (.seq (.reg [oF 14 2 1,oL 15 14,oF 16 7 1,oL 17 16,oO 18 (.bslice false 1 2 [.sl 0 [] (some 0)] [(0,.s 15),(1,.s 17)] 23),oC 19 51 [.s 18],oM 3 19] [1,3]) (.seq (.seq (.reg [oF 20 4 1,oL 21 20,oO 22 (.len (.s 21)),oO 23 (.mv (.k (litI .i64 0)))] [1,3,21,22,23]) (.block 0 (.loop [1,3,21,22,23] c55l0))) (.seq (.seq (.reg [oF 38 5 1,oL 39 38,oO 40 (.len (.s 39)),oO 41 (.mv (.k (litI .i64 0)))] [1,3,39,40,41]) (.block 2 (.loop [1,3,39,40,41] c55l2))) (.seq (.seq (.reg [oF 71 6 1,oL 72 71,oO 73 (.len (.s 72)),oO 74 (.mv (.k (litI .i64 0)))] [3,72,73,74]) (.block 6 (.loop [3,72,73,74] c55l4))) (.seq (.reg [oM 107 3,oO 108 (.call (.k (.fn (.func 76) [] [])) [.s 107,.k (.fn (.func 79) [] [])]),oM 2 108] [2]) .ret))))))
def fn55:F:=⟨1,109,[.t 2],c55⟩
def an55:Ann:=ann [(0,[1]),(1,[1,3]),(2,[1,3,21,22,23]),(3,[1,3,21,22,23,24]),(4,[1,3,5,21,22,23]),(5,[1,3,21,22,23]),(6,[1,3,21,22,23]),(7,[1,3,39,40,41]),(8,[1,3,39,40,41,42]),(9,[1,3,7,39,40,41]),(10,[1,3,7,39,40,41]),(11,[1,3,39,40,41,56,57,58]),(12,[1,3,39,40,41,56,57,58,59]),(13,[1,3,9,39,40,41,56,57,58]),(14,[1,3,39,40,41,56,57,58]),(15,[1,3,39,40,41,56,57,58]),(16,[1,3,39,40,41]),(17,[3,72,73,74]),(18,[3,72,73,74,75]),(19,[3,11,72,73,74]),(20,[3,11,72,73,74]),(21,[3,72,73,74,84,85,86]),(22,[3,72,73,74,84,85,86,87]),(23,[3,13,72,73,74,84,85,86]),(24,[3,13,72,73,74,84,85,86,97]),(25,[3,72,73,74,84,85,86]),(26,[3,72,73,74,84,85,86]),(27,[3,72,73,74]),(28,[2])] [(0,[1,3,21,22,23]),(2,[1,3,39,40,41]),(4,[1,3,39,40,41,56,57,58]),(6,[3,72,73,74]),(8,[3,72,73,74,84,85,86])] [] [(5,6),(10,6)] [] [(5,[8]),(10,[8])]
theorem is55:compF Try.prog an55 Try.f55=some fn55:=by kernel_rfl
def c56:C:=(.seq (.reg [oO 2 (.box 8 (.s 0) 87),oO 3 (.mv (.k (litB false)))] [1,2]) (.seq (.reg [oO 4 (.load (some 9) (.s 1)),oF 5 5 2,oL 6 5,oO 7 (.bslice false 1 1 [litI .i64 0] [(0,.s 6)] 3),oC 8 57 [.s 4,.s 7],oO 9 (.un .not (.s 8)),oM 10 9,⟨some 11,.load (some 9) (.s 1),some (10,false)⟩,⟨some 12,.fadr 6 (.s 2),some (10,false)⟩,⟨some 13,.load none (.s 12),some (10,false)⟩,⟨some 14,.call (.k (.fn (.func 58) [] [])) [.s 11,.s 13],some (10,false)⟩,⟨some 15,.un .not (.s 14),some (10,false)⟩,oO 16 (.pick (.s 10) (.k (litB true)) (.s 15)),oM 17 16,⟨some 18,.load (some 9) (.s 1),some (17,false)⟩,⟨some 19,.fadr 7 (.s 2),some (17,false)⟩,⟨some 20,.load none (.s 19),some (17,false)⟩,⟨some 21,.call (.k (.fn (.func 57) [] [])) [.s 18,.s 20],some (17,false)⟩,⟨some 22,.un .not (.s 21),some (17,false)⟩,oO 23 (.pick (.s 17) (.k (litB true)) (.s 22)),oM 3 23] [3]) .ret))
def fn56:F:=⟨2,24,[.t 3],c56⟩
def an56:Ann:=ann [(0,[1,2]),(1,[3])] [] [] []
theorem is56:compF Try.prog an56 Try.f56=some fn56:=by kernel_rfl
def c57:C:=(.seq (.reg [oO 2 (.box 9 (.s 0) 106),oO 4 (.mv (.k (litB false)))] [1,2]) (.seq (.reg [oF 5 8 2,oL 6 5,oM 7 1,oC 8 80 [.s 6,.s 7],oM 4 8] [4]) .ret))
def fn57:F:=⟨2,9,[.t 4],c57⟩
def an57:Ann:=ann [(0,[1,2]),(1,[4])] [] [] []
theorem is57:compF Try.prog an57 Try.f57=some fn57:=by kernel_rfl
def c58:C:=(.seq (.reg [oO 2 (.box 9 (.s 0) 106),oO 4 (.mv (.k (litB false)))] [1,2]) (.seq (.reg [oM 5 1,oF 6 8 2,oL 7 6,oO 8 (.bin .lss (.s 5) (.s 7)),oM 4 8] [4]) .ret))
def fn58:F:=⟨2,9,[.t 4],c58⟩
def an58:Ann:=ann [(0,[1,2]),(1,[4])] [] [] []
theorem is58:compF Try.prog an58 Try.f58=some fn58:=by kernel_rfl
def c59:C:=(.seq (.reg [oO 2 (.box 2 (.s 0) 92),oO 3 (.mv (.k (litB false)))] [1,2]) (.seq (.reg [oO 4 (.load (some 9) (.s 1)),oF 5 1 2,oL 6 5,oO 7 (.bslice false 1 1 [litI .i64 0] [(0,.s 6)] 3),oC 8 57 [.s 4,.s 7],oO 9 (.un .not (.s 8)),oM 10 9,⟨some 11,.load (some 9) (.s 1),some (10,false)⟩,⟨some 12,.fadr 0 (.s 2),some (10,false)⟩,⟨some 13,.load none (.s 12),some (10,false)⟩,⟨some 14,.call (.k (.fn (.func 58) [] [])) [.s 11,.s 13],some (10,false)⟩,⟨some 15,.un .not (.s 14),some (10,false)⟩,oO 16 (.pick (.s 10) (.k (litB true)) (.s 15)),oM 3 16] [3]) .ret))
def fn59:F:=⟨2,17,[.t 3],c59⟩
def an59:Ann:=ann [(0,[1,2]),(1,[3])] [] [] []
theorem is59:compF Try.prog an59 Try.f59=some fn59:=by kernel_rfl
def c60:C:=(.seq (.reg [oO 3 (.box 9 (.s 0) 90),oO 4 (.mv (.k (litB false)))] [1,2,3]) (.seq (.reg [oO 5 (.load (some 9) (.s 1)),oF 6 5 3,oL 7 6,oO 8 (.bslice false 1 1 [litI .i64 0] [(0,.s 7)] 3),oC 9 57 [.s 5,.s 8],oO 10 (.un .not (.s 9)),oM 11 10,⟨some 12,.load (some 9) (.s 1),some (11,false)⟩,⟨some 13,.fadr 6 (.s 3),some (11,false)⟩,⟨some 14,.load none (.s 13),some (11,false)⟩,⟨some 15,.call (.k (.fn (.func 58) [] [])) [.s 12,.s 14],some (11,false)⟩,⟨some 16,.un .not (.s 15),some (11,false)⟩,oO 17 (.pick (.s 11) (.k (litB true)) (.s 16)),oM 18 17,⟨some 19,.load (some 9) (.s 1),some (18,false)⟩,⟨some 20,.fadr 7 (.s 3),some (18,false)⟩,⟨some 21,.load none (.s 20),some (18,false)⟩,⟨some 22,.call (.k (.fn (.func 57) [] [])) [.s 19,.s 21],some (18,false)⟩,⟨some 23,.un .not (.s 22),some (18,false)⟩,oO 24 (.pick (.s 18) (.k (litB true)) (.s 23)),oM 25 24,⟨some 26,.fadr 8 (.s 3),some (25,false)⟩,⟨some 27,.load none (.s 26),some (25,false)⟩,⟨some 28,.load none (.s 2),some (25,false)⟩,⟨some 29,.call (.k (.fn (.func 61) [] [])) [.s 27,.s 28],some (25,false)⟩,oO 30 (.pick (.s 25) (.k (litB true)) (.s 29)),oM 4 30] [4]) .ret))
def fn60:F:=⟨3,31,[.t 4],c60⟩
def an60:Ann:=ann [(0,[1,2,3]),(1,[4])] [] [] []
theorem is60:compF Try.prog an60 Try.f60=some fn60:=by kernel_rfl
def c61:C:=(.seq (.reg [oO 4 (.mv (.k (litB false)))] [0,1]) (.seq (.reg [oM 5 0,oM 6 1,oC 7 81 [.s 5,.s 6],oO 8 (.bin .geq (.s 7) (.k (litI .i64 0))),oM 4 8] [4]) .ret))
def fn61:F:=⟨2,9,[.t 4],c61⟩
def an61:Ann:=ann [(0,[0,1]),(1,[4])] [] [] []
theorem is61:compF Try.prog an61 Try.f61=some fn61:=by kernel_rfl
def c62:C:=(.seq (.reg [oO 2 (.box 2 (.s 0) 45),oO 3 (.mv (.k (litB false)))] [1,2]) (.seq (.reg [oO 4 (.load (some 9) (.s 1)),oF 5 0 2,oL 6 5,oC 7 58 [.s 4,.s 6],oO 8 (.un .not (.s 7)),oM 9 8,⟨some 10,.load (some 9) (.s 1),some (9,false)⟩,⟨some 11,.fadr 1 (.s 2),some (9,false)⟩,⟨some 12,.load none (.s 11),some (9,false)⟩,⟨some 13,.call (.k (.fn (.func 63) [] [])) [.s 10,.s 12],some (9,false)⟩,⟨some 14,.un .not (.s 13),some (9,false)⟩,oO 15 (.pick (.s 9) (.k (litB true)) (.s 14)),oM 3 15] [3]) .ret))
def fn62:F:=⟨2,16,[.t 3],c62⟩
def an62:Ann:=ann [(0,[1,2]),(1,[3])] [] [] []
theorem is62:compF Try.prog an62 Try.f62=some fn62:=by kernel_rfl
def c63l0:C:=(.seq (.reg [oO 12 (.bin .lss (.s 11) (.s 10))] [1,2,9,10,11,12]) (.seq (.cond (.s 12) .skip (.exit 0)) (.seq (.block 1 (.seq (.reg [oM 13 11,oI 14 2 9 11,oO 15 (.load (some 2) (.s 14)),oO 6 (.alloc [litS (bs []),.sl 0 [] (some 0)] 94),oM 5 13,⟨none,.store 2 (.s 6) (.s 15),none⟩] [1,2,5,6,9,10,11]) (.seq (.reg [oF 16 1 6,oL 17 16,oM 7 17,oO 8 (.mv (.k (litB false)))] [1,2,5,6,7,8,9,10,11]) (.seq (.seq (.reg [oF 18 0 6,oL 19 18] [1,2,5,7,8,9,10,11,19]) (.block 2 (.seq (.reg [oO 21 (.bin .eql (.s 19) (.k (litS (bs [118,97,114])))),oM 20 21] [1,2,5,7,8,9,10,11,19,20]) (.cond (.s 20) (.reg [oM 22 7,oO 23 (.len (.s 22)),oO 24 (.bin .eql (.s 23) (.k (litI .i64 1))),oM 25 24,⟨some 26,.load (some 9) (.s 2),some (25,true)⟩,⟨some 27,.mv (.s 7),some (25,true)⟩,⟨some 28,.call (.k (.fn (.func 57) [] [])) [.s 26,.s 27],some (25,true)⟩,oO 29 (.pick (.s 25) (.s 28) (.k (litB false))),oM 8 29] [1,2,8,9,10,11]) (.seq (.reg [oO 31 (.bin .eql (.s 19) (.k (litS (bs [99,111,110,116])))),oM 30 31] [1,2,5,7,8,9,10,11,19,30]) (.cond (.s 30) (.reg [oM 32 7,oO 33 (.len (.s 32)),oO 34 (.bin .eql (.s 33) (.k (litI .i64 1))),oM 35 34,⟨some 36,.fadr 0 (.s 2),some (35,true)⟩,⟨some 37,.fadr 5 (.s 36),some (35,true)⟩,⟨some 38,.load none (.s 37),some (35,true)⟩,⟨some 39,.len (.s 38),some (35,true)⟩,⟨some 40,.mv (.s 7),some (35,true)⟩,⟨some 41,.call (.k (.fn (.func 80) [] [])) [.s 39,.s 40],some (35,true)⟩,oO 42 (.pick (.s 35) (.s 41) (.k (litB false))),oM 8 42] [1,2,8,9,10,11]) (.seq (.reg [oO 44 (.bin .eql (.s 19) (.k (litS (bs [110,101,103])))),oM 43 44] [1,2,5,7,8,9,10,11,19,43]) (.cond (.s 43) (.reg [oM 45 7,oO 46 (.len (.s 45)),oO 47 (.bin .eql (.s 46) (.k (litI .i64 1))),oM 48 47,⟨some 49,.mv (.s 5),some (48,true)⟩,⟨some 50,.mv (.s 7),some (48,true)⟩,⟨some 51,.call (.k (.fn (.func 80) [] [])) [.s 49,.s 50],some (48,true)⟩,oO 52 (.pick (.s 48) (.s 51) (.k (litB false))),oM 8 52] [1,2,8,9,10,11]) (.seq (.seq (.reg [oO 54 (.bin .eql (.s 19) (.k (litS (bs [43])))),oM 53 54] [1,2,5,7,8,9,10,11,19,53]) (.cond (.s 53) .skip (.seq (.reg [oO 55 (.bin .eql (.s 19) (.k (litS (bs [45])))),oM 53 55] [1,2,5,7,8,9,10,11,19,53]) (.cond (.s 53) .skip (.reg [oO 56 (.bin .eql (.s 19) (.k (litS (bs [47])))),oM 53 56] [1,2,5,7,8,9,10,11,19,53]))))) (.cond (.s 53) (.reg [oM 57 7,oO 58 (.len (.s 57)),oO 59 (.bin .eql (.s 58) (.k (litI .i64 2))),oM 60 59,⟨some 61,.mv (.s 5),some (60,true)⟩,⟨some 62,.mv (.s 7),some (60,true)⟩,⟨some 63,.call (.k (.fn (.func 80) [] [])) [.s 61,.s 62],some (60,true)⟩,oO 64 (.pick (.s 60) (.s 63) (.k (litB false))),oM 8 64] [1,2,8,9,10,11]) (.seq (.reg [oO 66 (.bin .eql (.s 19) (.k (litS (bs [42])))),oM 65 66] [1,2,5,7,8,9,10,11,19,65]) (.cond (.s 65) (.reg [oM 67 7,oO 68 (.len (.s 67)),oO 69 (.bin .eql (.s 68) (.k (litI .i64 3))),oM 70 69,⟨some 71,.mv (.s 5),some (70,true)⟩,⟨some 72,.mv (.s 7),some (70,true)⟩,⟨some 73,.sli 1 (.s 72) none (some (.k (litI .i64 2))) none,some (70,true)⟩,⟨some 74,.call (.k (.fn (.func 80) [] [])) [.s 71,.s 73],some (70,true)⟩,oO 75 (.pick (.s 70) (.s 74) (.k (litB false))),oM 76 75,⟨some 77,.mv (.s 7),some (76,true)⟩,⟨some 78,.iadr 1 (.s 77) (.k (litI .i64 2)),some (76,true)⟩,⟨some 79,.load none (.s 78),some (76,true)⟩,⟨some 80,.bslice false 1 1 [litI .i64 0] [(0,.s 79)] 3,some (76,true)⟩,⟨some 81,.call (.k (.fn (.func 80) [] [])) [.k (litI .i64 2),.s 80],some (76,true)⟩,oO 82 (.pick (.s 76) (.s 81) (.k (litB false))),oM 8 82] [1,2,8,9,10,11]) (.seq (.reg [oO 84 (.bin .eql (.s 19) (.k (litS (bs [115,101,108])))),oM 83 84] [1,2,5,7,8,9,10,11,83]) (.cond (.s 83) (.draw [oM 85 7,oO 86 (.len (.s 85)),oO 87 (.bin .eql (.s 86) (.k (litI .i64 3))),oM 88 87,⟨some 89,.load (some 9) (.s 2),some (88,true)⟩,⟨some 90,.mv (.s 7),some (88,true)⟩,⟨some 91,.iadr 1 (.s 90) (.k (litI .i64 0)),some (88,true)⟩,⟨some 92,.load none (.s 91),some (88,true)⟩,⟨some 93,.bslice false 1 1 [litI .i64 0] [(0,.s 92)] 3,some (88,true)⟩] [⟨some 94,.call (.k (.fn (.func 57) [] [])) [.s 89,.s 93],some (88,true)⟩,oO 95 (.pick (.s 88) (.s 94) (.k (litB false))),oM 96 95,⟨some 97,.mv (.s 5),some (96,true)⟩,⟨some 98,.mv (.s 7),some (96,true)⟩,⟨some 99,.sli 1 (.s 98) (some (.k (litI .i64 1))) none none,some (96,true)⟩,⟨some 100,.call (.k (.fn (.func 80) [] [])) [.s 97,.s 99],some (96,true)⟩,oO 101 (.pick (.s 96) (.s 100) (.k (litB false))),oM 8 101] [1,2,8,9,10,11]) .skip)))))))))))))) (.seq (.reg [oM 102 8,oO 103 (.un .not (.s 102))] [1,2,9,10,11,103]) (.cond (.s 103) (.seq (.reg [oO 4 (.mv (.k (litB false)))] [4]) .ret) .skip)))))) (.reg [oO 104 (.bin .add (.s 11) (.k (litI .i64 1))),oM 11 104] [1,2,9,10,11]))))
def c63:C:=(.seq (.reg [oO 2 (.box 9 (.s 0) 106),oO 4 (.mv (.k (litB false)))] [1,2]) (.seq (.seq (.reg [oM 9 1,oO 10 (.len (.s 9)),oO 11 (.mv (.k (litI .i64 0)))] [1,2,9,10,11]) (.block 0 (.loop [1,2,9,10,11] c63l0))) (.seq (.reg [oM 105 1,oO 106 (.len (.s 105)),oO 107 (.bin .gtr (.s 106) (.k (litI .i64 0))),oM 4 107] [4]) .ret)))
def fn63:F:=⟨2,108,[.t 4],c63⟩
def an63:Ann:=ann [(0,[1,2]),(1,[1,2,9,10,11]),(2,[1,2,9,10,11,12]),(3,[1,2,5,6,9,10,11]),(4,[1,2,5,6,7,8,9,10,11]),(5,[1,2,5,7,8,9,10,11,19]),(6,[1,2,5,7,8,9,10,11,19,20]),(7,[1,2,8,9,10,11]),(8,[1,2,5,7,8,9,10,11,19,30]),(9,[1,2,8,9,10,11]),(10,[1,2,5,7,8,9,10,11,19,43]),(11,[1,2,8,9,10,11]),(12,[1,2,5,7,8,9,10,11,19,53]),(13,[1,2,5,7,8,9,10,11,19,53]),(14,[1,2,5,7,8,9,10,11,19,53]),(15,[1,2,8,9,10,11]),(16,[1,2,5,7,8,9,10,11,19,65]),(17,[1,2,8,9,10,11]),(18,[1,2,5,7,8,9,10,11,83]),(19,[1,2,8,9,10,11]),(20,[1,2,9,10,11,103]),(21,[4]),(22,[1,2,9,10,11]),(23,[4])] [(0,[1,2,9,10,11])] [] [(19,9)]
theorem is63:compF Try.prog an63 Try.f63=some fn63:=by kernel_rfl
def c64:C:=(.seq (.reg [oO 4 (.mv (.k (litB false)))] [0,1]) (.seq (.reg [oM 5 0,oM 6 1,oC 7 82 [.s 5,.s 6],oO 8 (.bin .geq (.s 7) (.k (litI .i64 0))),oM 4 8] [4]) .ret))
def fn64:F:=⟨2,9,[.t 4],c64⟩
def an64:Ann:=ann [(0,[0,1]),(1,[4])] [] [] []
theorem is64:compF Try.prog an64 Try.f64=some fn64:=by kernel_rfl
def c65:C:=(.seq (.reg [oO 4 (.mv (.k (litB false)))] [0,1]) (.seq (.reg [oM 5 0,oM 6 1,oC 7 83 [.s 5,.s 6],oO 8 (.bin .geq (.s 7) (.k (litI .i64 0))),oM 4 8] [4]) .ret))
def fn65:F:=⟨2,9,[.t 4],c65⟩
def an65:Ann:=ann [(0,[0,1]),(1,[4])] [] [] []
theorem is65:compF Try.prog an65 Try.f65=some fn65:=by kernel_rfl
def c66:C:=(.seq (.reg [oO 4 (.mv (.k (litB false)))] [0,1]) (.seq (.reg [oM 5 0,oM 6 1,oC 7 84 [.s 5,.s 6],oO 8 (.bin .geq (.s 7) (.k (litI .i64 0))),oM 4 8] [4]) .ret))
def fn66:F:=⟨2,9,[.t 4],c66⟩
def an66:Ann:=ann [(0,[0,1]),(1,[4])] [] [] []
theorem is66:compF Try.prog an66 Try.f66=some fn66:=by kernel_rfl
def c67l0:C:=(.seq (.reg [oO 14 (.bin .lss (.s 13) (.s 12))] [1,3,11,12,13,14]) (.seq (.cond (.s 14) .skip (.exit 0)) (.seq (.block 1 (.seq (.reg [oI 15 10 11 13,oO 16 (.load (some 10) (.s 15)),oO 5 (.alloc [litI .i64 0,litS (bs []),.sl 0 [] (some 0),litI .i64 0,litI .i64 0,litB false,.sl 0 [] (some 0),.sl 0 [] (some 0),litS (bs []),litI .i64 0] 60),⟨none,.store 10 (.s 5) (.s 16),none⟩] [1,3,5,11,12,13]) (.seq (.seq (.reg [oO 17 (.load (some 9) (.s 1)),oF 18 0 5,oL 19 18,oO 20 (.bslice false 1 1 [litI .i64 0] [(0,.s 19)] 3),oC 21 57 [.s 17,.s 20],oO 22 (.un .not (.s 21)),oM 23 22,⟨some 24,.mv (.s 3),some (23,false)⟩,⟨some 25,.fadr 0 (.s 5),some (23,false)⟩,⟨some 26,.load none (.s 25),some (23,false)⟩,⟨some 27,.iadr 1 (.s 24) (.s 26),some (23,false)⟩,⟨some 28,.load none (.s 27),some (23,false)⟩,oO 29 (.pick (.s 23) (.k (litB true)) (.s 28)),oM 30 29,⟨some 31,.load (some 9) (.s 1),some (30,false)⟩,⟨some 32,.fadr 9 (.s 5),some (30,false)⟩,⟨some 33,.load none (.s 32),some (30,false)⟩,⟨some 34,.call (.k (.fn (.func 58) [] [])) [.s 31,.s 33],some (30,false)⟩,⟨some 35,.un .not (.s 34),some (30,false)⟩,oO 36 (.pick (.s 30) (.k (litB true)) (.s 35)),oM 37 36,⟨some 38,.load (some 9) (.s 1),some (37,false)⟩,⟨some 39,.fadr 2 (.s 5),some (37,false)⟩,⟨some 40,.load none (.s 39),some (37,false)⟩,⟨some 41,.call (.k (.fn (.func 57) [] [])) [.s 38,.s 40],some (37,false)⟩,⟨some 42,.un .not (.s 41),some (37,false)⟩,oO 43 (.pick (.s 37) (.k (litB true)) (.s 42)),oM 44 43,⟨some 45,.load (some 9) (.s 1),some (44,false)⟩,⟨some 46,.load (some 10) (.s 5),some (44,false)⟩,⟨some 47,.call (.k (.fn (.func 85) [] [])) [.s 45,.s 46],some (44,false)⟩,⟨some 48,.un .not (.s 47),some (44,false)⟩,oO 49 (.pick (.s 44) (.k (litB true)) (.s 48))] [1,3,5,11,12,13,49]) (.cond (.s 49) (.seq (.reg [oO 2 (.mv (.k (litB false)))] [2]) .ret) .skip)) (.reg [oM 50 3,oF 51 0 5,oL 52 51,oI 53 1 50 52,⟨none,.store 1 (.s 53) (.k (litB true)),none⟩] [1,3,11,12,13])))) (.reg [oO 54 (.bin .add (.s 13) (.k (litI .i64 1))),oM 13 54] [1,3,11,12,13]))))
def c67:C:=(.seq (.reg [oO 1 (.box 9 (.s 0) 106),oO 2 (.mv (.k (litB false)))] [1]) (.seq (.reg [oF 6 8 1,oL 7 6,oO 8 (.mks 1 1 [litB false] 4 (.s 7) (.s 7)),oM 3 8] [1,3]) (.seq (.seq (.reg [oF 9 0 1,oF 10 3 9,oL 11 10,oO 12 (.len (.s 11)),oO 13 (.mv (.k (litI .i64 0)))] [1,3,11,12,13]) (.block 0 (.loop [1,3,11,12,13] c67l0))) (.seq (.reg [oM 55 3,oC 56 86 [.s 55,.k (litB false)],oO 57 (.un .not (.s 56)),oM 2 57] [2]) .ret))))
def fn67:F:=⟨1,58,[.t 2],c67⟩
def an67:Ann:=ann [(0,[1]),(1,[1,3]),(2,[1,3,11,12,13]),(3,[1,3,11,12,13,14]),(4,[1,3,5,11,12,13]),(5,[1,3,5,11,12,13,49]),(6,[2]),(7,[1,3,11,12,13]),(8,[1,3,11,12,13]),(9,[2])] [(0,[1,3,11,12,13])] [] []
theorem is67:compF Try.prog an67 Try.f67=some fn67:=by kernel_rfl
def c68:C:=(.seq (.reg [oO 4 (.mv (.k (litB false)))] [0,1,2]) (.seq (.draw [oL 5 1,oM 6 0,oI 7 1 5 6,oL 8 7,oL 9 1,oL 10 2,oI 11 1 9 10,oL 12 11] [oO 13 (.bin .geq (.s 8) (.s 12)),oM 4 13] [4]) .ret))
def fn68:F:=⟨3,14,[.t 4],c68⟩
def an68:Ann:=ann [(0,[0,1,2]),(1,[4])] [] [] [(1,8)]
theorem is68:compF Try.prog an68 Try.f68=some fn68:=by kernel_rfl
def c69:C:=(.seq (.reg [oO 4 (.mv (.k (.sl 0 [] (some 0))))] [0,1]) (.seq (.seq (.reg [oM 5 1,oO 6 (.bin .lss (.s 5) (.k (litI .i64 0)))] [0,1,6]) (.cond (.s 6) (.reg [oO 7 (.mki 9 (.k (litS (bs [99,97,110,110,111,116,32,98,101,32,110,101,103,97,116,105,118,101])))),⟨none,.pan (.s 7),none⟩] [0,1]) .skip)) (.seq (.seq (.reg [oM 8 1,oM 9 0,oO 10 (.cap (.s 9)),oM 11 0,oO 12 (.len (.s 11)),oO 13 (.bin .sub (.s 10) (.s 12)),oO 14 (.bin .sub (.s 8) (.s 13)),oM 1 14] [0,1]) (.seq (.reg [oM 15 1,oO 16 (.bin .gtr (.s 15) (.k (litI .i64 0)))] [0,1,16]) (.cond (.s 16) (.reg [oM 17 0,oM 18 0,oO 19 (.cap (.s 18)),oO 20 (.sli 1 (.s 17) none (some (.s 19)) none),oM 21 1,oO 22 (.apm 1 8 [litI .i64 0] 3 (.s 20) (.s 21)),oM 23 0,oO 24 (.len (.s 23)),oO 25 (.sli 1 (.s 22) none (some (.s 24)) none),oM 0 25] [0]) .skip))) (.seq (.reg [oM 26 0,oM 4 26] [4]) .ret))))
def fn69:F:=⟨2,27,[.t 4],c69⟩
def an69:Ann:=ann [(0,[0,1]),(1,[0,1,6]),(2,[0,1]),(3,[0,1]),(4,[0,1,16]),(5,[0]),(6,[4])] [] [] []
theorem is69:compF Try.prog an69 Try.f69=some fn69:=by kernel_rfl
def c74:C:=(.seq (.reg [oO 2 (.box 8 (.s 0) 29),oO 3 (.box 10 (.s 1) 60),oO 4 (.mv (.k (.sl 0 [] (some 0))))] [2,3]) (.seq (.seq (.reg [oF 5 1 3,oL 6 5] [2,3,6]) (.block 0 (.seq (.reg [oO 8 (.bin .eql (.s 6) (.k (litS (bs [109,101,109])))),oM 7 8] [2,3,6,7]) (.cond (.s 7) (.seq (.reg [oF 9 4 2,oL 10 9,oF 11 3 3,oL 12 11,oI 13 8 10 12,oF 14 7 13,oL 15 14,oM 4 15] [4]) .ret) (.seq (.reg [oO 17 (.bin .eql (.s 6) (.k (litS (bs [99,111,110,116])))),oM 16 17] [2,3,16]) (.cond (.s 16) (.seq (.reg [oF 18 5 2,oL 19 18,oF 20 3 3,oL 21 20,oI 22 9 19 21,oF 23 7 22,oL 24 23,oM 4 24] [4]) .ret) .skip)))))) (.seq (.reg [oO 4 (.mv (.k (.sl 0 [] (some 0))))] [4]) .ret)))
def fn74:F:=⟨2,25,[.t 4],c74⟩
def an74:Ann:=ann [(0,[2,3]),(1,[2,3,6]),(2,[2,3,6,7]),(3,[4]),(4,[2,3,16]),(5,[4]),(6,[4])] [] [] []
theorem is74:compF Try.prog an74 Try.f74=some fn74:=by kernel_rfl
def c75:C:=(.seq (.reg [oM 3 0,oO 4 (.len (.s 3)),oM 2 4] [0,2]) (.reg [oM 5 0,oM 6 2,oM 7 2,oO 8 (.conv (.int .u64) (.s 7)),oC 9 90 [.s 8],oC 10 89 [.s 5,.k (litI .i64 0),.s 6,.s 9]] []))
def fn75:F:=⟨1,11,[],c75⟩
def an75:Ann:=ann [(0,[0,2]),(1,[])] [] [] []
theorem is75:compF Try.prog an75 Try.f75=some fn75:=by kernel_rfl
def c76l0:C:=(.seq (.seq (.reg [oM 16 6,oM 17 0,oO 18 (.len (.s 17)),oO 19 (.bin .lss (.s 16) (.s 18))] [0,1,5,6,19]) (.cond (.s 19) .skip (.exit 0))) (.seq (.block 1 (.seq (.reg [oM 22 0,oM 23 6,oI 24 1 22 23,oL 25 24,oM 7 25] [0,1,5,6,7]) (.seq (.reg [oM 26 1,oM 27 7,oO 28 (.call (.s 26) [.s 27]),oO 29 (.un .not (.s 28))] [0,1,5,6,7,29]) (.cond (.s 29) (.seq (.reg [oM 30 0,oM 31 5,oM 32 7,oI 33 1 30 31,⟨none,.store 1 (.s 33) (.s 32),none⟩] [0,1,5,6]) (.reg [oM 34 5,oO 35 (.bin .add (.s 34) (.k (litI .i64 1))),oM 5 35] [0,1,5,6])) .skip)))) (.reg [oM 20 6,oO 21 (.bin .add (.s 20) (.k (litI .i64 1))),oM 6 21] [0,1,5,6])))
def c76:C:=(.seq (.reg [oO 4 (.mv (.k (.sl 0 [] (some 0))))] [0,1]) (.seq (.reg [oM 8 0,oM 9 1,oC 10 34 [.s 8,.s 9],oM 5 10] [0,1,5]) (.seq (.seq (.reg [oM 11 5,oO 12 (.bin .eql (.s 11) (.k (litI .i64 (-1))))] [0,1,5,12]) (.cond (.s 12) (.seq (.reg [oM 13 0,oM 4 13] [4]) .ret) .skip)) (.seq (.seq (.reg [oM 14 5,oO 15 (.bin .add (.s 14) (.k (litI .i64 1))),oM 6 15] [0,1,5,6]) (.block 0 (.loop [0,1,5,6] c76l0))) (.seq (.reg [oM 36 0,oM 37 5,oO 38 (.sli 1 (.s 36) (some (.s 37)) none none),⟨none,.clr 1 [litI .i64 0] (.s 38),none⟩] [0,5]) (.seq (.reg [oM 39 0,oM 40 5,oO 41 (.sli 1 (.s 39) none (some (.s 40)) none),oM 4 41] [4]) .ret))))))
def fn76:F:=⟨2,42,[.t 4],c76⟩
def an76:Ann:=ann [(0,[0,1]),(1,[0,1,5]),(2,[0,1,5,12]),(3,[4]),(4,[0,1,5,6]),(5,[0,1,5,6,19]),(6,[0,1,5,6]),(7,[0,1,5,6,7]),(8,[0,1,5,6,7,29]),(9,[0,1,5,6]),(10,[0,1,5,6]),(11,[0,5]),(12,[4])] [(0,[0,1,5,6])] [] []
theorem is76:compF Try.prog an76 Try.f76=some fn76:=by kernel_rfl
def c77l0:C:=(.seq (.seq (.reg [oM 29 5,oM 30 4,oO 31 (.len (.s 30)),oO 32 (.bin .lss (.s 29) (.s 31))] [0,3,4,5,32]) (.cond (.s 32) .skip (.exit 2))) (.seq (.block 3 (.seq (.draw [oM 35 4,oM 36 5,oI 37 1 35 36,oL 38 37,oM 39 4,oM 40 5,oO 41 (.bin .sub (.s 40) (.k (litI .i64 1))),oI 42 1 39 41,oL 43 42] [oO 44 (.bin .neq (.s 38) (.s 43))] [0,3,4,5,44]) (.cond (.s 44) (.seq (.reg [oM 45 0,oM 46 3,oM 47 4,oM 48 5,oI 49 1 47 48,oL 50 49,oI 51 1 45 46,⟨none,.store 1 (.s 51) (.s 50),none⟩] [0,3,4,5]) (.reg [oM 52 3,oO 53 (.bin .add (.s 52) (.k (litI .i64 1))),oM 3 53] [0,3,4,5])) .skip))) (.reg [oM 33 5,oO 34 (.bin .add (.s 33) (.k (litI .i64 1))),oM 5 34] [0,3,4,5])))
def c77l1:C:=(.seq (.seq (.reg [oM 10 3,oM 11 0,oO 12 (.len (.s 11)),oO 13 (.bin .lss (.s 10) (.s 12))] [0,3,13]) (.cond (.s 13) .skip (.exit 0))) (.seq (.block 1 (.seq (.draw [oM 16 0,oM 17 3,oI 18 1 16 17,oL 19 18,oM 20 0,oM 21 3,oO 22 (.bin .sub (.s 21) (.k (litI .i64 1))),oI 23 1 20 22,oL 24 23] [oO 25 (.bin .eql (.s 19) (.s 24))] [0,3,25]) (.cond (.s 25) (.seq (.reg [oM 26 0,oM 27 3,oO 28 (.sli 1 (.s 26) (some (.s 27)) none none),oM 4 28] [0,3,4]) (.seq (.seq (.reg [oO 5 (.mv (.k (litI .i64 1)))] [0,3,4,5]) (.block 2 (.loop [0,3,4,5] c77l0))) (.seq (.reg [oM 54 0,oM 55 3,oO 56 (.sli 1 (.s 54) (some (.s 55)) none none),⟨none,.clr 1 [litI .i64 0] (.s 56),none⟩] [0,3]) (.seq (.reg [oM 57 0,oM 58 3,oO 59 (.sli 1 (.s 57) none (some (.s 58)) none),oM 2 59] [2]) .ret)))) .skip))) (.reg [oM 14 3,oO 15 (.bin .add (.s 14) (.k (litI .i64 1))),oM 3 15] [0,3])))
def c77:C:=(.seq (.reg [oO 2 (.mv (.k (.sl 0 [] (some 0))))] [0]) (.seq (.seq (.reg [oM 6 0,oO 7 (.len (.s 6)),oO 8 (.bin .lss (.s 7) (.k (litI .i64 2)))] [0,8]) (.cond (.s 8) (.seq (.reg [oM 9 0,oM 2 9] [2]) .ret) .skip)) (.seq (.seq (.reg [oO 3 (.mv (.k (litI .i64 1)))] [0,3]) (.block 0 (.loop [0,3] c77l1))) (.seq (.reg [oM 60 0,oM 2 60] [2]) .ret))))
def fn77:F:=⟨1,61,[.t 2],c77⟩
def an77:Ann:=ann [(0,[0]),(1,[0,8]),(2,[2]),(3,[0,3]),(4,[0,3,13]),(5,[0,3]),(6,[0,3,25]),(7,[0,3,4]),(8,[0,3,4,5]),(9,[0,3,4,5,32]),(10,[0,3,4,5]),(11,[0,3,4,5,44]),(12,[0,3,4,5]),(13,[0,3,4,5]),(14,[0,3]),(15,[2]),(16,[2])] [(0,[0,3]),(2,[0,3,4,5])] [] [(6,9),(11,9)]
theorem is77:compF Try.prog an77 Try.f77=some fn77:=by kernel_rfl
def c78:C:=(.seq (.reg [oO 2 (.mv (.k (litB false)))] [0]) (.seq (.reg [oM 3 0,oO 4 (.bin .lss (.s 3) (.k (litI .i64 0))),oM 2 4] [2]) .ret))
def fn78:F:=⟨1,5,[.t 2],c78⟩
def an78:Ann:=ann [(0,[0]),(1,[2])] [] [] []
theorem is78:compF Try.prog an78 Try.f78=some fn78:=by kernel_rfl
def c79:C:=(.seq (.reg [oO 2 (.mv (.k (litB false)))] [0]) (.seq (.reg [oM 3 0,oO 4 (.bin .lss (.s 3) (.k (litI .i64 0))),oM 2 4] [2]) .ret))
def fn79:F:=⟨1,5,[.t 2],c79⟩
def an79:Ann:=ann [(0,[0]),(1,[2])] [] [] []
theorem is79:compF Try.prog an79 Try.f79=some fn79:=by kernel_rfl
def c80:C:=(.seq (.reg [oO 2 (.box 1 (.s 0) 3),oO 4 (.mv (.k (litB false)))] [1,2]) (.seq (.reg [oM 5 1,oO 6 (.mkf (.func 91) [] [.s 2]),oC 7 38 [.s 5,.s 6],oO 8 (.un .not (.s 7)),oM 4 8] [4]) .ret))
def fn80:F:=⟨2,9,[.t 4],c80⟩
def an80:Ann:=ann [(0,[1,2]),(1,[4])] [] [] []
theorem is80:compF Try.prog an80 Try.f80=some fn80:=by kernel_rfl
def c81l0:C:=(.seq (.reg [oO 9 (.bin .lss (.s 8) (.s 7))] [0,1,7,8,9]) (.seq (.cond (.s 9) .skip (.exit 0)) (.seq (.block 1 (.seq (.reg [oM 10 8,oM 5 10] [0,1,5,7,8]) (.seq (.reg [oM 11 1,oM 12 0,oM 13 5,oI 14 2 12 13,oO 15 (.load (some 2) (.s 14)),oO 16 (.call (.s 11) [.s 15])] [0,1,5,7,8,16]) (.cond (.s 16) (.seq (.reg [oM 17 5,oM 4 17] [4]) .ret) .skip)))) (.reg [oO 18 (.bin .add (.s 8) (.k (litI .i64 1))),oM 8 18] [0,1,7,8]))))
def c81:C:=(.seq (.reg [oO 4 (.mv (.k (litI .i64 0)))] [0,1]) (.seq (.seq (.reg [oM 6 0,oO 7 (.len (.s 6)),oO 8 (.mv (.k (litI .i64 0)))] [0,1,7,8]) (.block 0 (.loop [0,1,7,8] c81l0))) (.seq (.reg [oO 4 (.mv (.k (litI .i64 (-1))))] [4]) .ret)))
def fn81:F:=⟨2,19,[.t 4],c81⟩
def an81:Ann:=ann [(0,[0,1]),(1,[0,1,7,8]),(2,[0,1,7,8,9]),(3,[0,1,5,7,8]),(4,[0,1,5,7,8,16]),(5,[4]),(6,[0,1,7,8]),(7,[4])] [(0,[0,1,7,8])] [] []
theorem is81:compF Try.prog an81 Try.f81=some fn81:=by kernel_rfl
def c82l0:C:=(.seq (.reg [oO 9 (.bin .lss (.s 8) (.s 7))] [0,1,7,8,9]) (.seq (.cond (.s 9) .skip (.exit 0)) (.seq (.block 1 (.seq (.reg [oM 10 8,oM 5 10] [0,1,5,7,8]) (.seq (.reg [oM 11 1,oM 12 0,oM 13 5,oI 14 8 12 13,oO 15 (.load (some 8) (.s 14)),oO 16 (.call (.s 11) [.s 15])] [0,1,5,7,8,16]) (.cond (.s 16) (.seq (.reg [oM 17 5,oM 4 17] [4]) .ret) .skip)))) (.reg [oO 18 (.bin .add (.s 8) (.k (litI .i64 1))),oM 8 18] [0,1,7,8]))))
def c82:C:=(.seq (.reg [oO 4 (.mv (.k (litI .i64 0)))] [0,1]) (.seq (.seq (.reg [oM 6 0,oO 7 (.len (.s 6)),oO 8 (.mv (.k (litI .i64 0)))] [0,1,7,8]) (.block 0 (.loop [0,1,7,8] c82l0))) (.seq (.reg [oO 4 (.mv (.k (litI .i64 (-1))))] [4]) .ret)))
def fn82:F:=⟨2,19,[.t 4],c82⟩
def an82:Ann:=ann [(0,[0,1]),(1,[0,1,7,8]),(2,[0,1,7,8,9]),(3,[0,1,5,7,8]),(4,[0,1,5,7,8,16]),(5,[4]),(6,[0,1,7,8]),(7,[4])] [(0,[0,1,7,8])] [] []
theorem is82:compF Try.prog an82 Try.f82=some fn82:=by kernel_rfl
def c83l0:C:=(.seq (.reg [oO 9 (.bin .lss (.s 8) (.s 7))] [0,1,7,8,9]) (.seq (.cond (.s 9) .skip (.exit 0)) (.seq (.block 1 (.seq (.reg [oM 10 8,oM 5 10] [0,1,5,7,8]) (.seq (.reg [oM 11 1,oM 12 0,oM 13 5,oI 14 9 12 13,oO 15 (.load (some 9) (.s 14)),oO 16 (.call (.s 11) [.s 15])] [0,1,5,7,8,16]) (.cond (.s 16) (.seq (.reg [oM 17 5,oM 4 17] [4]) .ret) .skip)))) (.reg [oO 18 (.bin .add (.s 8) (.k (litI .i64 1))),oM 8 18] [0,1,7,8]))))
def c83:C:=(.seq (.reg [oO 4 (.mv (.k (litI .i64 0)))] [0,1]) (.seq (.seq (.reg [oM 6 0,oO 7 (.len (.s 6)),oO 8 (.mv (.k (litI .i64 0)))] [0,1,7,8]) (.block 0 (.loop [0,1,7,8] c83l0))) (.seq (.reg [oO 4 (.mv (.k (litI .i64 (-1))))] [4]) .ret)))
def fn83:F:=⟨2,19,[.t 4],c83⟩
def an83:Ann:=ann [(0,[0,1]),(1,[0,1,7,8]),(2,[0,1,7,8,9]),(3,[0,1,5,7,8]),(4,[0,1,5,7,8,16]),(5,[4]),(6,[0,1,7,8]),(7,[4])] [(0,[0,1,7,8])] [] []
theorem is83:compF Try.prog an83 Try.f83=some fn83:=by kernel_rfl
def c84l0:C:=(.seq (.reg [oO 9 (.bin .lss (.s 8) (.s 7))] [0,1,7,8,9]) (.seq (.cond (.s 9) .skip (.exit 0)) (.seq (.block 1 (.seq (.reg [oM 10 8,oM 5 10] [0,1,5,7,8]) (.seq (.reg [oM 11 1,oM 12 0,oM 13 5,oI 14 2 12 13,oO 15 (.load (some 2) (.s 14)),oO 16 (.call (.s 11) [.s 15])] [0,1,5,7,8,16]) (.cond (.s 16) (.seq (.reg [oM 17 5,oM 4 17] [4]) .ret) .skip)))) (.reg [oO 18 (.bin .add (.s 8) (.k (litI .i64 1))),oM 8 18] [0,1,7,8]))))
def c84:C:=(.seq (.reg [oO 4 (.mv (.k (litI .i64 0)))] [0,1]) (.seq (.seq (.reg [oM 6 0,oO 7 (.len (.s 6)),oO 8 (.mv (.k (litI .i64 0)))] [0,1,7,8]) (.block 0 (.loop [0,1,7,8] c84l0))) (.seq (.reg [oO 4 (.mv (.k (litI .i64 (-1))))] [4]) .ret)))
def fn84:F:=⟨2,19,[.t 4],c84⟩
def an84:Ann:=ann [(0,[0,1]),(1,[0,1,7,8]),(2,[0,1,7,8,9]),(3,[0,1,5,7,8]),(4,[0,1,5,7,8,16]),(5,[4]),(6,[0,1,7,8]),(7,[4])] [(0,[0,1,7,8])] [] []
theorem is84:compF Try.prog an84 Try.f84=some fn84:=by kernel_rfl
def c85:C:=(.seq (.reg [oO 2 (.box 9 (.s 0) 106),oO 3 (.box 10 (.s 1) 60),oO 4 (.mv (.k (litB false)))] [2,3]) (.seq (.reg [oF 6 2 3,oL 7 6,oO 8 (.len (.s 7)),oM 5 8] [2,3,5]) (.seq (.seq (.reg [oF 9 1 3,oL 10 9] [2,3,5,10]) (.block 0 (.seq (.reg [oO 12 (.bin .eql (.s 10) (.k (litS (bs [108,105,116])))),oM 11 12] [2,3,5,10,11]) (.cond (.s 11) (.seq (.reg [oM 13 5,oO 14 (.bin .eql (.s 13) (.k (litI .i64 0))),oM 4 14] [4]) .ret) (.seq (.reg [oO 16 (.bin .eql (.s 10) (.k (litS (bs [105,110])))),oM 15 16] [2,3,5,10,15]) (.cond (.s 15) (.seq (.reg [oM 17 5,oO 18 (.bin .eql (.s 17) (.k (litI .i64 0))),oM 19 18,⟨some 20,.fadr 0 (.s 2),some (19,true)⟩,⟨some 21,.fadr 0 (.s 20),some (19,true)⟩,⟨some 22,.load none (.s 21),some (19,true)⟩,⟨some 23,.len (.s 22),some (19,true)⟩,⟨some 24,.fadr 3 (.s 3),some (19,true)⟩,⟨some 25,.load none (.s 24),some (19,true)⟩,⟨some 26,.bslice false 1 1 [litI .i64 0] [(0,.s 25)] 3,some (19,true)⟩,⟨some 27,.call (.k (.fn (.func 80) [] [])) [.s 23,.s 26],some (19,true)⟩,oO 28 (.pick (.s 19) (.s 27) (.k (litB false))),oM 4 28] [4]) .ret) (.seq (.reg [oO 30 (.bin .eql (.s 10) (.k (litS (bs [109,101,109])))),oM 29 30] [2,3,5,10,29]) (.cond (.s 29) (.seq (.reg [oM 31 5,oO 32 (.bin .eql (.s 31) (.k (litI .i64 0))),oM 33 32,⟨some 34,.fadr 0 (.s 2),some (33,true)⟩,⟨some 35,.fadr 4 (.s 34),some (33,true)⟩,⟨some 36,.load none (.s 35),some (33,true)⟩,⟨some 37,.len (.s 36),some (33,true)⟩,⟨some 38,.fadr 3 (.s 3),some (33,true)⟩,⟨some 39,.load none (.s 38),some (33,true)⟩,⟨some 40,.bslice false 1 1 [litI .i64 0] [(0,.s 39)] 3,some (33,true)⟩,⟨some 41,.call (.k (.fn (.func 80) [] [])) [.s 37,.s 40],some (33,true)⟩,oO 42 (.pick (.s 33) (.s 41) (.k (litB false))),oM 4 42] [4]) .ret) (.seq (.reg [oO 44 (.bin .eql (.s 10) (.k (litS (bs [99,111,110,116])))),oM 43 44] [2,3,5,10,43]) (.cond (.s 43) (.seq (.reg [oM 45 5,oO 46 (.bin .eql (.s 45) (.k (litI .i64 0))),oM 47 46,⟨some 48,.fadr 0 (.s 2),some (47,true)⟩,⟨some 49,.fadr 5 (.s 48),some (47,true)⟩,⟨some 50,.load none (.s 49),some (47,true)⟩,⟨some 51,.len (.s 50),some (47,true)⟩,⟨some 52,.fadr 3 (.s 3),some (47,true)⟩,⟨some 53,.load none (.s 52),some (47,true)⟩,⟨some 54,.bslice false 1 1 [litI .i64 0] [(0,.s 53)] 3,some (47,true)⟩,⟨some 55,.call (.k (.fn (.func 80) [] [])) [.s 51,.s 54],some (47,true)⟩,oO 56 (.pick (.s 47) (.s 55) (.k (litB false))),oM 4 56] [4]) .ret) (.seq (.reg [oO 58 (.bin .eql (.s 10) (.k (litS (bs [102,108,97,103])))),oM 57 58] [2,3,5,10,57]) (.cond (.s 57) (.seq (.reg [oM 59 5,oO 60 (.bin .eql (.s 59) (.k (litI .i64 0))),oM 61 60,⟨some 62,.fadr 0 (.s 2),some (61,true)⟩,⟨some 63,.fadr 6 (.s 62),some (61,true)⟩,⟨some 64,.load none (.s 63),some (61,true)⟩,⟨some 65,.len (.s 64),some (61,true)⟩,⟨some 66,.fadr 3 (.s 3),some (61,true)⟩,⟨some 67,.load none (.s 66),some (61,true)⟩,⟨some 68,.bslice false 1 1 [litI .i64 0] [(0,.s 67)] 3,some (61,true)⟩,⟨some 69,.call (.k (.fn (.func 80) [] [])) [.s 65,.s 68],some (61,true)⟩,oO 70 (.pick (.s 61) (.s 69) (.k (litB false))),oM 4 70] [4]) .ret) (.seq (.seq (.reg [oO 72 (.bin .eql (.s 10) (.k (litS (bs [99,111,112,121])))),oM 71 72] [5,10,71]) (.cond (.s 71) .skip (.seq (.reg [oO 73 (.bin .eql (.s 10) (.k (litS (bs [110,101,103])))),oM 71 73] [5,10,71]) (.cond (.s 71) .skip (.seq (.reg [oO 74 (.bin .eql (.s 10) (.k (litS (bs [110,111,116])))),oM 71 74] [5,10,71]) (.cond (.s 71) .skip (.seq (.reg [oO 75 (.bin .eql (.s 10) (.k (litS (bs [102,108,111,111,114])))),oM 71 75] [5,10,71]) (.cond (.s 71) .skip (.reg [oO 76 (.bin .eql (.s 10) (.k (litS (bs [114,97,116])))),oM 71 76] [5,10,71]))))))))) (.cond (.s 71) (.seq (.reg [oM 77 5,oO 78 (.bin .eql (.s 77) (.k (litI .i64 1))),oM 4 78] [4]) .ret) (.seq (.seq (.reg [oO 80 (.bin .eql (.s 10) (.k (litS (bs [103,97,110,100])))),oM 79 80] [5,10,79]) (.cond (.s 79) .skip (.reg [oO 81 (.bin .eql (.s 10) (.k (litS (bs [109,114,103])))),oM 79 81] [5,10,79]))) (.cond (.s 79) (.seq (.reg [oM 82 5,oO 83 (.bin .gtr (.s 82) (.k (litI .i64 0))),oM 4 83] [4]) .ret) (.seq (.reg [oO 85 (.bin .eql (.s 10) (.k (litS (bs [115,101,108])))),oM 84 85] [5,10,84]) (.cond (.s 84) (.seq (.reg [oM 86 5,oO 87 (.bin .eql (.s 86) (.k (litI .i64 3))),oM 4 87] [4]) .ret) (.seq (.seq (.reg [oO 89 (.bin .eql (.s 10) (.k (litS (bs [43])))),oM 88 89] [5,10,88]) (.cond (.s 88) .skip (.seq (.reg [oO 90 (.bin .eql (.s 10) (.k (litS (bs [45])))),oM 88 90] [5,10,88]) (.cond (.s 88) .skip (.seq (.reg [oO 91 (.bin .eql (.s 10) (.k (litS (bs [42])))),oM 88 91] [5,10,88]) (.cond (.s 88) .skip (.seq (.reg [oO 92 (.bin .eql (.s 10) (.k (litS (bs [47])))),oM 88 92] [5,10,88]) (.cond (.s 88) .skip (.seq (.reg [oO 93 (.bin .eql (.s 10) (.k (litS (bs [100,105,118])))),oM 88 93] [5,10,88]) (.cond (.s 88) .skip (.seq (.reg [oO 94 (.bin .eql (.s 10) (.k (litS (bs [109,111,100])))),oM 88 94] [5,10,88]) (.cond (.s 88) .skip (.seq (.reg [oO 95 (.bin .eql (.s 10) (.k (litS (bs [60])))),oM 88 95] [5,10,88]) (.cond (.s 88) .skip (.seq (.reg [oO 96 (.bin .eql (.s 10) (.k (litS (bs [60,61])))),oM 88 96] [5,10,88]) (.cond (.s 88) .skip (.seq (.reg [oO 97 (.bin .eql (.s 10) (.k (litS (bs [62])))),oM 88 97] [5,10,88]) (.cond (.s 88) .skip (.seq (.reg [oO 98 (.bin .eql (.s 10) (.k (litS (bs [62,61])))),oM 88 98] [5,10,88]) (.cond (.s 88) .skip (.seq (.reg [oO 99 (.bin .eql (.s 10) (.k (litS (bs [61,61])))),oM 88 99] [5,10,88]) (.cond (.s 88) .skip (.seq (.reg [oO 100 (.bin .eql (.s 10) (.k (litS (bs [33,61])))),oM 88 100] [5,10,88]) (.cond (.s 88) .skip (.seq (.reg [oO 101 (.bin .eql (.s 10) (.k (litS (bs [97,110,100])))),oM 88 101] [5,10,88]) (.cond (.s 88) .skip (.reg [oO 102 (.bin .eql (.s 10) (.k (litS (bs [111,114])))),oM 88 102] [5,88]))))))))))))))))))))))))))) (.cond (.s 88) (.seq (.reg [oM 103 5,oO 104 (.bin .eql (.s 103) (.k (litI .i64 2))),oM 4 104] [4]) .ret) .skip)))))))))))))))))))) (.seq (.reg [oO 4 (.mv (.k (litB false)))] [4]) .ret))))
def fn85:F:=⟨2,105,[.t 4],c85⟩
def an85:Ann:=ann [(0,[2,3]),(1,[2,3,5]),(2,[2,3,5,10]),(3,[2,3,5,10,11]),(4,[4]),(5,[2,3,5,10,15]),(6,[4]),(7,[2,3,5,10,29]),(8,[4]),(9,[2,3,5,10,43]),(10,[4]),(11,[2,3,5,10,57]),(12,[4]),(13,[5,10,71]),(14,[5,10,71]),(15,[5,10,71]),(16,[5,10,71]),(17,[5,10,71]),(18,[4]),(19,[5,10,79]),(20,[5,10,79]),(21,[4]),(22,[5,10,84]),(23,[4]),(24,[5,10,88]),(25,[5,10,88]),(26,[5,10,88]),(27,[5,10,88]),(28,[5,10,88]),(29,[5,10,88]),(30,[5,10,88]),(31,[5,10,88]),(32,[5,10,88]),(33,[5,10,88]),(34,[5,10,88]),(35,[5,10,88]),(36,[5,10,88]),(37,[5,88]),(38,[4]),(39,[4])] [] [] []
theorem is85:compF Try.prog an85 Try.f85=some fn85:=by kernel_rfl
def c86:C:=(.seq (.reg [oO 4 (.mv (.k (litB false)))] [0,1]) (.seq (.reg [oM 5 0,oM 6 1,oC 7 92 [.s 5,.s 6],oO 8 (.bin .geq (.s 7) (.k (litI .i64 0))),oM 4 8] [4]) .ret))
def fn86:F:=⟨2,9,[.t 4],c86⟩
def an86:Ann:=ann [(0,[0,1]),(1,[4])] [] [] []
theorem is86:compF Try.prog an86 Try.f86=some fn86:=by kernel_rfl
def c89l0:C:=(.block 1 (.seq (.reg [oM 19 2,oM 20 1,oO 21 (.bin .sub (.s 19) (.s 20)),oM 10 21] [0,1,2,3,8,9,10]) (.seq (.seq (.reg [oM 22 10,oO 23 (.bin .leq (.s 22) (.k (litI .i64 12)))] [0,1,2,3,8,9,10,23]) (.cond (.s 23) (.seq (.reg [oM 24 0,oM 25 1,oM 26 2,oC 27 93 [.s 24,.s 25,.s 26]] []) .ret) .skip)) (.seq (.seq (.reg [oM 28 3,oO 29 (.bin .eql (.s 28) (.k (litI .i64 0)))] [0,1,2,3,8,9,10,29]) (.cond (.s 29) (.seq (.reg [oM 30 0,oM 31 1,oM 32 2,oC 33 94 [.s 30,.s 31,.s 32]] []) .ret) .skip)) (.seq (.seq (.reg [oM 34 8,oO 35 (.un .not (.s 34))] [0,1,2,3,8,9,10,35]) (.cond (.s 35) (.seq (.reg [oM 36 0,oM 37 1,oM 38 2,oC 39 95 [.s 36,.s 37,.s 38]] [0,1,2,3,8,9,10]) (.reg [oM 40 3,oO 41 (.bin .sub (.s 40) (.k (litI .i64 1))),oM 3 41] [0,1,2,3,8,9,10])) .skip)) (.seq (.reg [oM 43 0,oM 44 1,oM 45 2,oC 46 96 [.s 43,.s 44,.s 45],oM 42 46,oO 47 (.ext (.s 42) 0),oO 48 (.ext (.s 42) 1),oM 11 47,oM 12 48] [0,1,2,3,8,9,10,11,12]) (.seq (.seq (.reg [oM 49 12,oO 50 (.bin .eql (.s 49) (.k (litI .i64 2)))] [0,1,2,3,8,9,10,11,12,50]) (.cond (.s 50) (.seq (.reg [oM 51 0,oM 52 1,oM 53 2,oC 54 97 [.s 51,.s 52,.s 53]] [0,1,2,3,8,9,10,11]) (.seq (.reg [oM 55 2,oO 56 (.bin .sub (.s 55) (.k (litI .i64 1))),oM 57 11,oM 58 1,oO 59 (.bin .sub (.s 57) (.s 58)),oO 60 (.bin .sub (.s 56) (.s 59)),oM 11 60] [0,1,2,3,8,9,10,11]) (.reg [oO 12 (.mv (.k (litI .i64 1)))] [0,1,2,3,8,9,10,11,12]))) .skip)) (.seq (.seq (.reg [oM 61 8,oM 62 61,⟨some 63,.mv (.s 9),some (62,true)⟩,oO 64 (.pick (.s 62) (.s 63) (.k (litB false))),oM 65 64,⟨some 66,.mv (.s 12),some (65,true)⟩,⟨some 67,.bin .eql (.s 66) (.k (litI .i64 1)),some (65,true)⟩,oO 68 (.pick (.s 65) (.s 67) (.k (litB false)))] [0,1,2,3,8,9,10,11,68]) (.cond (.s 68) (.seq (.reg [oM 69 0,oM 70 1,oM 71 2,oC 72 98 [.s 69,.s 70,.s 71]] [0,1,2,3,8,9,10,11,72]) (.cond (.s 72) .ret .skip)) .skip)) (.seq (.seq (.draw [oM 73 1,oO 74 (.bin .gtr (.s 73) (.k (litI .i64 0))),oM 75 74,⟨some 76,.mv (.s 0),some (75,true)⟩,⟨some 77,.mv (.s 1),some (75,true)⟩,⟨some 78,.bin .sub (.s 77) (.k (litI .i64 1)),some (75,true)⟩,⟨some 79,.iadr 1 (.s 76) (.s 78),some (75,true)⟩,⟨some 80,.load none (.s 79),some (75,true)⟩,⟨some 81,.mv (.s 0),some (75,true)⟩,⟨some 82,.mv (.s 11),some (75,true)⟩,⟨some 83,.iadr 1 (.s 81) (.s 82),some (75,true)⟩,⟨some 84,.load none (.s 83),some (75,true)⟩] [⟨some 85,.call (.k (.fn (.func 99) [] [])) [.s 80,.s 84],some (75,true)⟩,⟨some 86,.un .not (.s 85),some (75,true)⟩,oO 87 (.pick (.s 75) (.s 86) (.k (litB false)))] [0,1,2,3,8,9,10,11,87]) (.cond (.s 87) (.seq (.reg [oM 88 0,oM 89 1,oM 90 2,oM 91 11,oC 92 100 [.s 88,.s 89,.s 90,.s 91],oM 13 92] [0,2,3,8,9,13]) (.seq (.reg [oM 93 13,oM 1 93] [0,1,2,3,8,9]) (.exit 1))) .skip)) (.seq (.reg [oM 95 0,oM 96 1,oM 97 2,oM 98 11,oC 99 101 [.s 95,.s 96,.s 97,.s 98],oM 94 99,oO 100 (.ext (.s 94) 0),oO 101 (.ext (.s 94) 1),oM 14 100,oM 15 101] [0,1,2,3,10,14,15]) (.seq (.reg [oM 102 15,oM 9 102] [0,1,2,3,9,10,14]) (.seq (.reg [oM 103 14,oM 104 1,oO 105 (.bin .sub (.s 103) (.s 104)),oM 106 2,oM 107 14,oO 108 (.bin .sub (.s 106) (.s 107)),oM 16 105,oM 17 108] [0,1,2,3,9,10,14,16,17]) (.seq (.reg [oM 109 10,oO 110 (.bin .quo (.s 109) (.k (litI .i64 8))),oM 18 110] [0,1,2,3,9,14,16,17,18]) (.seq (.reg [oM 111 16,oM 112 17,oO 113 (.bin .lss (.s 111) (.s 112))] [0,1,2,3,9,14,16,17,18,113]) (.cond (.s 113) (.seq (.reg [oM 114 16,oM 115 18,oO 116 (.bin .geq (.s 114) (.s 115)),oM 8 116] [0,1,2,3,8,9,14]) (.seq (.reg [oM 117 0,oM 118 1,oM 119 14,oM 120 3,oC 121 89 [.s 117,.s 118,.s 119,.s 120]] [0,2,3,8,9,14]) (.reg [oM 122 14,oO 123 (.bin .add (.s 122) (.k (litI .i64 1))),oM 1 123] [0,1,2,3,8,9]))) (.seq (.reg [oM 124 17,oM 125 18,oO 126 (.bin .geq (.s 124) (.s 125)),oM 8 126] [0,1,2,3,8,9,14]) (.seq (.reg [oM 127 0,oM 128 14,oO 129 (.bin .add (.s 128) (.k (litI .i64 1))),oM 130 2,oM 131 3,oC 132 89 [.s 127,.s 129,.s 130,.s 131]] [0,1,3,8,9,14]) (.reg [oM 133 14,oM 2 133] [0,1,2,3,8,9]))))))))))))))))))
def c89:C:=(.seq (.reg [oO 8 (.mv (.k (litB true)))] [0,1,2,3,8]) (.seq (.reg [oO 9 (.mv (.k (litB true)))] [0,1,2,3,8,9]) (.block 0 (.loop [0,1,2,3,8,9] c89l0))))
def fn89:F:=⟨4,134,[],c89⟩
def an89:Ann:=ann [(0,[0,1,2,3,8]),(1,[0,1,2,3,8,9]),(2,[0,1,2,3,8,9,10]),(3,[0,1,2,3,8,9,10,23]),(4,[]),(5,[0,1,2,3,8,9,10,29]),(6,[]),(7,[0,1,2,3,8,9,10,35]),(8,[0,1,2,3,8,9,10]),(9,[0,1,2,3,8,9,10]),(10,[0,1,2,3,8,9,10,11,12]),(11,[0,1,2,3,8,9,10,11,12,50]),(12,[0,1,2,3,8,9,10,11]),(13,[0,1,2,3,8,9,10,11]),(14,[0,1,2,3,8,9,10,11,12]),(15,[0,1,2,3,8,9,10,11,68]),(16,[0,1,2,3,8,9,10,11,72]),(17,[0,1,2,3,8,9,10,11,87]),(18,[0,2,3,8,9,13]),(19,[0,1,2,3,8,9]),(20,[0,1,2,3,10,14,15]),(21,[0,1,2,3,9,10,14]),(22,[0,1,2,3,9,10,14,16,17]),(23,[0,1,2,3,9,14,16,17,18]),(24,[0,1,2,3,9,14,16,17,18,113]),(25,[0,1,2,3,8,9,14]),(26,[0,2,3,8,9,14]),(27,[0,1,2,3,8,9]),(28,[0,1,2,3,8,9,14]),(29,[0,1,3,8,9,14]),(30,[0,1,2,3,8,9])] [(0,[0,1,2,3,8,9])] [] [(17,12)]
theorem is89:compF Try.prog an89 Try.f89=some fn89:=by kernel_rfl
def c90:C:=(.seq (.reg [oO 2 (.mv (.k (litI .i64 0)))] [0]) (.seq (.cond (.k (litB false)) (.seq (.reg [oM 3 0,oO 4 (.conv (.int .u32) (.s 3)),oC 5 102 [.s 4],oM 2 5] [2]) .ret) .skip) (.seq (.reg [oM 6 0,oC 7 103 [.s 6],oM 2 7] [2]) .ret)))
def fn90:F:=⟨1,8,[.t 2],c90⟩
def an90:Ann:=ann [(0,[0]),(1,[2]),(2,[2])] [] [] []
theorem is90:compF Try.prog an90 Try.f90=some fn90:=by kernel_rfl
def c91:C:=(.seq (.reg [oO 3 (.mv (.k (litB false)))] [0,1]) (.seq (.reg [oM 4 0,oO 5 (.bin .lss (.s 4) (.k (litI .i64 0))),oM 6 5,⟨some 7,.mv (.s 0),some (6,false)⟩,⟨some 8,.load none (.s 1),some (6,false)⟩,⟨some 9,.bin .geq (.s 7) (.s 8),some (6,false)⟩,oO 10 (.pick (.s 6) (.k (litB true)) (.s 9)),oM 3 10] [3]) .ret))
def fn91:F:=⟨2,11,[.t 3],c91⟩
def an91:Ann:=ann [(0,[0,1]),(1,[3])] [] [] []
theorem is91:compF Try.prog an91 Try.f91=some fn91:=by kernel_rfl
def c92l0:C:=(.seq (.reg [oO 9 (.bin .lss (.s 8) (.s 7))] [0,1,7,8,9]) (.seq (.cond (.s 9) .skip (.exit 0)) (.seq (.block 1 (.seq (.reg [oM 10 8,oM 5 10] [0,1,5,7,8]) (.seq (.reg [oM 11 1,oM 12 0,oM 13 5,oI 14 1 12 13,oL 15 14,oO 16 (.binb .eql (.s 11) (.s 15))] [0,1,5,7,8,16]) (.cond (.s 16) (.seq (.reg [oM 17 5,oM 4 17] [4]) .ret) .skip)))) (.reg [oO 18 (.bin .add (.s 8) (.k (litI .i64 1))),oM 8 18] [0,1,7,8]))))
def c92:C:=(.seq (.reg [oO 4 (.mv (.k (litI .i64 0)))] [0,1]) (.seq (.seq (.reg [oM 6 0,oO 7 (.len (.s 6)),oO 8 (.mv (.k (litI .i64 0)))] [0,1,7,8]) (.block 0 (.loop [0,1,7,8] c92l0))) (.seq (.reg [oO 4 (.mv (.k (litI .i64 (-1))))] [4]) .ret)))
def fn92:F:=⟨2,19,[.t 4],c92⟩
def an92:Ann:=ann [(0,[0,1]),(1,[0,1,7,8]),(2,[0,1,7,8,9]),(3,[0,1,5,7,8]),(4,[0,1,5,7,8,16]),(5,[4]),(6,[0,1,7,8]),(7,[4])] [(0,[0,1,7,8])] [] []
theorem is92:compF Try.prog an92 Try.f92=some fn92:=by kernel_rfl
def c93l0:C:=(.seq (.seq (.draw [oM 16 7,oM 17 1,oO 18 (.bin .gtr (.s 16) (.s 17)),oM 19 18,⟨some 20,.mv (.s 0),some (19,true)⟩,⟨some 21,.mv (.s 7),some (19,true)⟩,⟨some 22,.iadr 1 (.s 20) (.s 21),some (19,true)⟩,⟨some 23,.load none (.s 22),some (19,true)⟩,⟨some 24,.mv (.s 0),some (19,true)⟩,⟨some 25,.mv (.s 7),some (19,true)⟩,⟨some 26,.bin .sub (.s 25) (.k (litI .i64 1)),some (19,true)⟩,⟨some 27,.iadr 1 (.s 24) (.s 26),some (19,true)⟩,⟨some 28,.load none (.s 27),some (19,true)⟩] [⟨some 29,.call (.k (.fn (.func 99) [] [])) [.s 23,.s 28],some (19,true)⟩,oO 30 (.pick (.s 19) (.s 29) (.k (litB false)))] [0,1,2,6,7,30]) (.cond (.s 30) .skip (.exit 2))) (.seq (.block 3 (.draw [oM 33 0,oM 34 7,oM 35 0,oM 36 7,oO 37 (.bin .sub (.s 36) (.k (litI .i64 1))),oM 38 0,oM 39 7,oO 40 (.bin .sub (.s 39) (.k (litI .i64 1))),oI 41 1 38 40,oL 42 41,oM 43 0,oM 44 7,oI 45 1 43 44,oL 46 45] [oI 47 1 33 34,⟨none,.store 1 (.s 47) (.s 42),none⟩,oI 48 1 35 37,⟨none,.store 1 (.s 48) (.s 46),none⟩] [0,1,2,6,7])) (.reg [oM 31 7,oO 32 (.bin .sub (.s 31) (.k (litI .i64 1))),oM 7 32] [0,1,2,6,7])))
def c93l1:C:=(.seq (.seq (.reg [oM 10 6,oM 11 2,oO 12 (.bin .lss (.s 10) (.s 11))] [0,1,2,6,12]) (.cond (.s 12) .skip (.exit 0))) (.seq (.block 1 (.seq (.reg [oM 15 6,oM 7 15] [0,1,2,6,7]) (.block 2 (.loop [0,1,2,6,7] c93l0)))) (.reg [oM 13 6,oO 14 (.bin .add (.s 13) (.k (litI .i64 1))),oM 6 14] [0,1,2,6])))
def c93:C:=(.seq (.reg [oM 8 1,oO 9 (.bin .add (.s 8) (.k (litI .i64 1))),oM 6 9] [0,1,2,6]) (.block 0 (.loop [0,1,2,6] c93l1)))
def fn93:F:=⟨3,49,[],c93⟩
def an93:Ann:=ann [(0,[0,1,2,6]),(1,[0,1,2,6,12]),(2,[0,1,2,6]),(3,[0,1,2,6,7]),(4,[0,1,2,6,7,30]),(5,[0,1,2,6,7]),(6,[0,1,2,6,7])] [(0,[0,1,2,6]),(2,[0,1,2,6,7])] [] [(4,13),(6,14)]
theorem is93:compF Try.prog an93 Try.f93=some fn93:=by kernel_rfl
def c94l0:C:=(.seq (.seq (.reg [oM 18 9,oO 19 (.bin .geq (.s 18) (.k (litI .i64 0)))] [0,6,7,8,9,19]) (.cond (.s 19) .skip (.exit 0))) (.seq (.block 1 (.reg [oM 22 0,oM 23 9,oM 24 8,oM 25 6,oC 26 104 [.s 22,.s 23,.s 24,.s 25]] [0,6,7,8,9])) (.reg [oM 20 9,oO 21 (.bin .sub (.s 20) (.k (litI .i64 1))),oM 9 21] [0,6,7,8,9])))
def c94l1:C:=(.seq (.seq (.reg [oM 29 10,oO 30 (.bin .geq (.s 29) (.k (litI .i64 0)))] [0,6,7,10,30]) (.cond (.s 30) .skip (.exit 2))) (.seq (.block 3 (.seq (.draw [oM 33 0,oM 34 6,oM 35 0,oM 36 6,oM 37 10,oO 38 (.bin .add (.s 36) (.s 37)),oM 39 0,oM 40 6,oM 41 10,oO 42 (.bin .add (.s 40) (.s 41)),oI 43 1 39 42,oL 44 43,oM 45 0,oM 46 6,oI 47 1 45 46,oL 48 47] [oI 49 1 33 34,⟨none,.store 1 (.s 49) (.s 44),none⟩,oI 50 1 35 38,⟨none,.store 1 (.s 50) (.s 48),none⟩] [0,6,7,10]) (.reg [oM 51 0,oM 52 7,oM 53 10,oM 54 6,oC 55 104 [.s 51,.s 52,.s 53,.s 54]] [0,6,7,10]))) (.reg [oM 31 10,oO 32 (.bin .sub (.s 31) (.k (litI .i64 1))),oM 10 32] [0,6,7,10])))
def c94:C:=(.seq (.reg [oM 11 1,oM 6 11] [0,1,2,6]) (.seq (.reg [oO 7 (.mv (.k (litI .i64 0)))] [0,1,2,6,7]) (.seq (.reg [oM 12 2,oM 13 1,oO 14 (.bin .sub (.s 12) (.s 13)),oM 8 14] [0,6,7,8]) (.seq (.seq (.reg [oM 15 8,oO 16 (.bin .sub (.s 15) (.k (litI .i64 1))),oO 17 (.bin .quo (.s 16) (.k (litI .i64 2))),oM 9 17] [0,6,7,8,9]) (.block 0 (.loop [0,6,7,8,9] c94l0))) (.seq (.reg [oM 27 8,oO 28 (.bin .sub (.s 27) (.k (litI .i64 1))),oM 10 28] [0,6,7,10]) (.block 2 (.loop [0,6,7,10] c94l1)))))))
def fn94:F:=⟨3,56,[],c94⟩
def an94:Ann:=ann [(0,[0,1,2,6]),(1,[0,1,2,6,7]),(2,[0,6,7,8]),(3,[0,6,7,8,9]),(4,[0,6,7,8,9,19]),(5,[0,6,7,8,9]),(6,[0,6,7,8,9]),(7,[0,6,7,10]),(8,[0,6,7,10,30]),(9,[0,6,7,10]),(10,[0,6,7,10]),(11,[0,6,7,10])] [(0,[0,6,7,8,9]),(2,[0,6,7,10])] [] [(10,16)]
theorem is94:compF Try.prog an94 Try.f94=some fn94:=by kernel_rfl
def c95l0:C:=(.seq (.seq (.reg [oM 26 9,oM 27 1,oM 28 6,oO 29 (.bin .quo (.s 28) (.k (litI .i64 4))),oO 30 (.bin .mul (.s 29) (.k (litI .i64 2))),oO 31 (.bin .add (.s 27) (.s 30)),oO 32 (.bin .add (.s 31) (.k (litI .i64 1))),oO 33 (.bin .leq (.s 26) (.s 32))] [0,1,6,7,8,9,33]) (.cond (.s 33) .skip (.exit 0))) (.seq (.block 1 (.seq (.reg [oC 36 106 [.s 7],oM 37 8,oO 38 (.bin .sub (.s 37) (.k (litI .u64 1))),oO 39 (.bin .and (.s 36) (.s 38)),oO 40 (.conv (.int .i64) (.s 39)),oM 10 40] [0,1,6,7,8,9,10]) (.seq (.seq (.reg [oM 41 10,oM 42 6,oO 43 (.bin .geq (.s 41) (.s 42))] [0,1,6,7,8,9,10,43]) (.cond (.s 43) (.reg [oM 44 10,oM 45 6,oO 46 (.bin .sub (.s 44) (.s 45)),oM 10 46] [0,1,6,7,8,9,10]) .skip)) (.draw [oM 47 0,oM 48 9,oM 49 0,oM 50 1,oM 51 10,oO 52 (.bin .add (.s 50) (.s 51)),oM 53 0,oM 54 1,oM 55 10,oO 56 (.bin .add (.s 54) (.s 55)),oI 57 1 53 56,oL 58 57,oM 59 0,oM 60 9,oI 61 1 59 60,oL 62 61] [oI 63 1 47 48,⟨none,.store 1 (.s 63) (.s 58),none⟩,oI 64 1 49 52,⟨none,.store 1 (.s 64) (.s 62),none⟩] [0,1,6,7,8,9])))) (.reg [oM 34 9,oO 35 (.bin .add (.s 34) (.k (litI .i64 1))),oM 9 35] [0,1,6,7,8,9])))
def c95:C:=(.seq (.reg [oM 11 2,oM 12 1,oO 13 (.bin .sub (.s 11) (.s 12)),oM 6 13] [0,1,6]) (.seq (.reg [oM 14 6,oO 15 (.bin .geq (.s 14) (.k (litI .i64 8)))] [0,1,6,15]) (.cond (.s 15) (.seq (.reg [oM 16 6,oO 17 (.conv (.int .u64) (.s 16)),oO 7 (.alloc [litI .u64 0] 158),⟨none,.store 1 (.s 7) (.s 17),none⟩] [0,1,6,7]) (.seq (.reg [oM 18 6,oC 19 105 [.s 18],oM 8 19] [0,1,6,7,8]) (.seq (.reg [oM 20 1,oM 21 6,oO 22 (.bin .quo (.s 21) (.k (litI .i64 4))),oO 23 (.bin .mul (.s 22) (.k (litI .i64 2))),oO 24 (.bin .add (.s 20) (.s 23)),oO 25 (.bin .sub (.s 24) (.k (litI .i64 1))),oM 9 25] [0,1,6,7,8,9]) (.block 0 (.loop [0,1,6,7,8,9] c95l0))))) .skip)))
def fn95:F:=⟨3,65,[],c95⟩
def an95:Ann:=ann [(0,[0,1,6]),(1,[0,1,6,15]),(2,[0,1,6,7]),(3,[0,1,6,7,8]),(4,[0,1,6,7,8,9]),(5,[0,1,6,7,8,9,33]),(6,[0,1,6,7,8,9]),(7,[0,1,6,7,8,9,10]),(8,[0,1,6,7,8,9,10,43]),(9,[0,1,6,7,8,9,10]),(10,[0,1,6,7,8,9])] [(0,[0,1,6,7,8,9])] [] [(10,16)]
theorem is95:compF Try.prog an95 Try.f95=some fn95:=by kernel_rfl
def c96:C:=(.seq (.reg [oO 6 (.mv (.k (litI .i64 0))),oO 7 (.mv (.k (litI .i64 0)))] [0,1,2]) (.seq (.reg [oM 13 2,oM 14 1,oO 15 (.bin .sub (.s 13) (.s 14)),oM 8 15] [0,1,8]) (.seq (.reg [oO 9 (.alloc [litI .i64 0] 3)] [0,1,8,9]) (.seq (.reg [oM 16 1,oM 17 8,oO 18 (.bin .quo (.s 17) (.k (litI .i64 4))),oO 19 (.bin .mul (.s 18) (.k (litI .i64 1))),oO 20 (.bin .add (.s 16) (.s 19)),oM 10 20] [0,1,8,9,10]) (.seq (.reg [oM 21 1,oM 22 8,oO 23 (.bin .quo (.s 22) (.k (litI .i64 4))),oO 24 (.bin .mul (.s 23) (.k (litI .i64 2))),oO 25 (.bin .add (.s 21) (.s 24)),oM 11 25] [0,1,8,9,10,11]) (.seq (.reg [oM 26 1,oM 27 8,oO 28 (.bin .quo (.s 27) (.k (litI .i64 4))),oO 29 (.bin .mul (.s 28) (.k (litI .i64 3))),oO 30 (.bin .add (.s 26) (.s 29)),oM 12 30] [0,8,9,10,11,12]) (.seq (.seq (.reg [oM 31 8,oO 32 (.bin .geq (.s 31) (.k (litI .i64 8)))] [0,8,9,10,11,12,32]) (.cond (.s 32) (.seq (.seq (.reg [oM 33 8,oO 34 (.bin .geq (.s 33) (.k (litI .i64 50)))] [0,9,10,11,12,34]) (.cond (.s 34) (.seq (.reg [oM 35 0,oM 36 10,oC 37 107 [.s 35,.s 36,.s 9],oM 10 37] [0,9,10,11,12]) (.seq (.reg [oM 38 0,oM 39 11,oC 40 107 [.s 38,.s 39,.s 9],oM 11 40] [0,9,10,11,12]) (.reg [oM 41 0,oM 42 12,oC 43 107 [.s 41,.s 42,.s 9],oM 12 43] [0,9,10,11,12]))) .skip)) (.reg [oM 44 0,oM 45 10,oM 46 11,oM 47 12,oC 48 108 [.s 44,.s 45,.s 46,.s 47,.s 9],oM 11 48] [9,11])) .skip)) (.seq (.reg [oL 49 9] [11,49]) (.block 0 (.seq (.reg [oO 52 (.bin .eql (.s 49) (.k (litI .i64 0))),oM 51 52] [11,49,51]) (.cond (.s 51) (.seq (.reg [oM 53 11,oM 6 53,oO 7 (.mv (.k (litI .i64 1)))] [6,7]) .ret) (.seq (.reg [oO 55 (.bin .eql (.s 49) (.k (litI .i64 12))),oM 54 55] [11,54]) (.cond (.s 54) (.seq (.reg [oM 56 11,oM 6 56,oO 7 (.mv (.k (litI .i64 2)))] [6,7]) .ret) (.seq (.reg [oM 50 11,oM 6 50,oO 7 (.mv (.k (litI .i64 0)))] [6,7]) .ret))))))))))))))
def fn96:F:=⟨3,57,[.t 6,.t 7],c96⟩
def an96:Ann:=ann [(0,[0,1,2]),(1,[0,1,8]),(2,[0,1,8,9]),(3,[0,1,8,9,10]),(4,[0,1,8,9,10,11]),(5,[0,8,9,10,11,12]),(6,[0,8,9,10,11,12,32]),(7,[0,9,10,11,12,34]),(8,[0,9,10,11,12]),(9,[0,9,10,11,12]),(10,[0,9,10,11,12]),(11,[9,11]),(12,[11,49]),(13,[6,7]),(14,[11,49,51]),(15,[6,7]),(16,[11,54]),(17,[6,7])] [] [] []
theorem is96:compF Try.prog an96 Try.f96=some fn96:=by kernel_rfl
def c97l0:C:=(.seq (.seq (.reg [oM 11 6,oM 12 7,oO 13 (.bin .lss (.s 11) (.s 12))] [0,6,7,13]) (.cond (.s 13) .skip (.exit 0))) (.block 1 (.seq (.draw [oM 14 0,oM 15 6,oM 16 0,oM 17 7,oM 18 0,oM 19 7,oI 20 1 18 19,oL 21 20,oM 22 0,oM 23 6,oI 24 1 22 23,oL 25 24] [oI 26 1 14 15,⟨none,.store 1 (.s 26) (.s 21),none⟩,oI 27 1 16 17,⟨none,.store 1 (.s 27) (.s 25),none⟩] [0,6,7]) (.seq (.reg [oM 28 6,oO 29 (.bin .add (.s 28) (.k (litI .i64 1))),oM 6 29] [0,6,7]) (.reg [oM 30 7,oO 31 (.bin .sub (.s 30) (.k (litI .i64 1))),oM 7 31] [0,6,7])))))
def c97:C:=(.seq (.reg [oM 8 1,oM 6 8] [0,2,6]) (.seq (.reg [oM 9 2,oO 10 (.bin .sub (.s 9) (.k (litI .i64 1))),oM 7 10] [0,6,7]) (.block 0 (.loop [0,6,7] c97l0))))
def fn97:F:=⟨3,32,[],c97⟩
def an97:Ann:=ann [(0,[0,2,6]),(1,[0,6,7]),(2,[0,6,7,13]),(3,[0,6,7]),(4,[0,6,7]),(5,[0,6,7])] [(0,[0,6,7])] [] [(3,12)]
theorem is97:compF Try.prog an97 Try.f97=some fn97:=by kernel_rfl
def c98l0:C:=(.seq (.seq (.draw [oM 17 7,oM 18 2,oO 19 (.bin .lss (.s 17) (.s 18)),oM 20 19,⟨some 21,.mv (.s 0),some (20,true)⟩,⟨some 22,.mv (.s 7),some (20,true)⟩,⟨some 23,.iadr 1 (.s 21) (.s 22),some (20,true)⟩,⟨some 24,.load none (.s 23),some (20,true)⟩,⟨some 25,.mv (.s 0),some (20,true)⟩,⟨some 26,.mv (.s 7),some (20,true)⟩,⟨some 27,.bin .sub (.s 26) (.k (litI .i64 1)),some (20,true)⟩,⟨some 28,.iadr 1 (.s 25) (.s 27),some (20,true)⟩,⟨some 29,.load none (.s 28),some (20,true)⟩] [⟨some 30,.call (.k (.fn (.func 99) [] [])) [.s 24,.s 29],some (20,true)⟩,⟨some 31,.un .not (.s 30),some (20,true)⟩,oO 32 (.pick (.s 20) (.s 31) (.k (litB false)))] [0,1,2,7,8,32]) (.cond (.s 32) .skip (.exit 2))) (.block 3 (.reg [oM 33 7,oO 34 (.bin .add (.s 33) (.k (litI .i64 1))),oM 7 34] [0,1,2,7,8])))
def c98l1:C:=(.seq (.seq (.reg [oM 64 9,oO 65 (.bin .geq (.s 64) (.k (litI .i64 1)))] [0,1,2,7,8,9,65]) (.cond (.s 65) .skip (.exit 4))) (.seq (.block 5 (.seq (.seq (.draw [oM 68 0,oM 69 9,oI 70 1 68 69,oL 71 70,oM 72 0,oM 73 9,oO 74 (.bin .sub (.s 73) (.k (litI .i64 1))),oI 75 1 72 74,oL 76 75] [oC 77 99 [.s 71,.s 76],oO 78 (.un .not (.s 77))] [0,1,2,7,8,9,78]) (.cond (.s 78) (.exit 4) .skip)) (.draw [oM 79 0,oM 80 9,oM 81 0,oM 82 9,oO 83 (.bin .sub (.s 82) (.k (litI .i64 1))),oM 84 0,oM 85 9,oO 86 (.bin .sub (.s 85) (.k (litI .i64 1))),oI 87 1 84 86,oL 88 87,oM 89 0,oM 90 9,oI 91 1 89 90,oL 92 91] [oI 93 1 79 80,⟨none,.store 1 (.s 93) (.s 88),none⟩,oI 94 1 81 83,⟨none,.store 1 (.s 94) (.s 92),none⟩] [0,1,2,7,8,9]))) (.reg [oM 66 9,oO 67 (.bin .sub (.s 66) (.k (litI .i64 1))),oM 9 67] [0,1,2,7,8,9])))
def c98l2:C:=(.seq (.seq (.reg [oM 101 10,oM 102 2,oO 103 (.bin .lss (.s 101) (.s 102))] [0,1,2,7,8,10,103]) (.cond (.s 103) .skip (.exit 6))) (.seq (.block 7 (.seq (.seq (.draw [oM 106 0,oM 107 10,oI 108 1 106 107,oL 109 108,oM 110 0,oM 111 10,oO 112 (.bin .sub (.s 111) (.k (litI .i64 1))),oI 113 1 110 112,oL 114 113] [oC 115 99 [.s 109,.s 114],oO 116 (.un .not (.s 115))] [0,1,2,7,8,10,116]) (.cond (.s 116) (.exit 6) .skip)) (.draw [oM 117 0,oM 118 10,oM 119 0,oM 120 10,oO 121 (.bin .sub (.s 120) (.k (litI .i64 1))),oM 122 0,oM 123 10,oO 124 (.bin .sub (.s 123) (.k (litI .i64 1))),oI 125 1 122 124,oL 126 125,oM 127 0,oM 128 10,oI 129 1 127 128,oL 130 129] [oI 131 1 117 118,⟨none,.store 1 (.s 131) (.s 126),none⟩,oI 132 1 119 121,⟨none,.store 1 (.s 132) (.s 130),none⟩] [0,1,2,7,8,10]))) (.reg [oM 104 10,oO 105 (.bin .add (.s 104) (.k (litI .i64 1))),oM 10 105] [0,1,2,7,8,10])))
def c98l3:C:=(.seq (.seq (.reg [oM 13 8,oO 14 (.bin .lss (.s 13) (.k (litI .i64 5)))] [0,1,2,7,8,14]) (.cond (.s 14) .skip (.exit 0))) (.seq (.block 1 (.seq (.block 2 (.loop [0,1,2,7,8] c98l0)) (.seq (.seq (.reg [oM 35 7,oM 36 2,oO 37 (.bin .eql (.s 35) (.s 36))] [0,1,2,7,8,37]) (.cond (.s 37) (.seq (.reg [oO 6 (.mv (.k (litB true)))] [6]) .ret) .skip)) (.seq (.seq (.reg [oM 38 2,oM 39 1,oO 40 (.bin .sub (.s 38) (.s 39)),oO 41 (.bin .lss (.s 40) (.k (litI .i64 50)))] [0,1,2,7,8,41]) (.cond (.s 41) (.seq (.reg [oO 6 (.mv (.k (litB false)))] [6]) .ret) .skip)) (.seq (.draw [oM 42 0,oM 43 7,oM 44 0,oM 45 7,oO 46 (.bin .sub (.s 45) (.k (litI .i64 1))),oM 47 0,oM 48 7,oO 49 (.bin .sub (.s 48) (.k (litI .i64 1))),oI 50 1 47 49,oL 51 50,oM 52 0,oM 53 7,oI 54 1 52 53,oL 55 54] [oI 56 1 42 43,⟨none,.store 1 (.s 56) (.s 51),none⟩,oI 57 1 44 46,⟨none,.store 1 (.s 57) (.s 55),none⟩] [0,1,2,7,8]) (.seq (.seq (.reg [oM 58 7,oM 59 1,oO 60 (.bin .sub (.s 58) (.s 59)),oO 61 (.bin .geq (.s 60) (.k (litI .i64 2)))] [0,1,2,7,8,61]) (.cond (.s 61) (.seq (.reg [oM 62 7,oO 63 (.bin .sub (.s 62) (.k (litI .i64 1))),oM 9 63] [0,1,2,7,8,9]) (.block 4 (.loop [0,1,2,7,8,9] c98l1))) .skip)) (.seq (.reg [oM 95 2,oM 96 7,oO 97 (.bin .sub (.s 95) (.s 96)),oO 98 (.bin .geq (.s 97) (.k (litI .i64 2)))] [0,1,2,7,8,98]) (.cond (.s 98) (.seq (.reg [oM 99 7,oO 100 (.bin .add (.s 99) (.k (litI .i64 1))),oM 10 100] [0,1,2,7,8,10]) (.block 6 (.loop [0,1,2,7,8,10] c98l2))) .skip)))))))) (.reg [oM 15 8,oO 16 (.bin .add (.s 15) (.k (litI .i64 1))),oM 8 16] [0,1,2,7,8])))
def c98:C:=(.seq (.reg [oO 6 (.mv (.k (litB false)))] [0,1,2]) (.seq (.reg [oM 11 1,oO 12 (.bin .add (.s 11) (.k (litI .i64 1))),oM 7 12] [0,1,2,7]) (.seq (.seq (.reg [oO 8 (.mv (.k (litI .i64 0)))] [0,1,2,7,8]) (.block 0 (.loop [0,1,2,7,8] c98l3))) (.seq (.reg [oO 6 (.mv (.k (litB false)))] [6]) .ret))))
def fn98:F:=⟨3,133,[.t 6],c98⟩
def an98:Ann:=ann [(0,[0,1,2]),(1,[0,1,2,7]),(2,[0,1,2,7,8]),(3,[0,1,2,7,8,14]),(4,[0,1,2,7,8]),(5,[0,1,2,7,8,32]),(6,[0,1,2,7,8]),(7,[0,1,2,7,8,37]),(8,[6]),(9,[0,1,2,7,8,41]),(10,[6]),(11,[0,1,2,7,8]),(12,[0,1,2,7,8,61]),(13,[0,1,2,7,8,9]),(14,[0,1,2,7,8,9,65]),(15,[0,1,2,7,8,9]),(16,[0,1,2,7,8,9,78]),(17,[0,1,2,7,8,9]),(18,[0,1,2,7,8,98]),(19,[0,1,2,7,8,10]),(20,[0,1,2,7,8,10,103]),(21,[0,1,2,7,8,10]),(22,[0,1,2,7,8,10,116]),(23,[0,1,2,7,8,10]),(24,[6])] [(0,[0,1,2,7,8]),(2,[0,1,2,7,8]),(4,[0,1,2,7,8,9]),(6,[0,1,2,7,8,10])] [] [(5,13),(11,14),(16,9),(17,14),(22,9),(23,14)]
theorem is98:compF Try.prog an98 Try.f98=some fn98:=by kernel_rfl
def c99:C:=(.seq (.reg [oO 4 (.mv (.k (litB false)))] [0,1]) (.seq (.reg [oM 5 0,oC 6 109 [.s 5],oM 7 6,⟨some 8,.mv (.s 1),some (7,true)⟩,⟨some 9,.call (.k (.fn (.func 109) [] [])) [.s 8],some (7,true)⟩,⟨some 10,.un .not (.s 9),some (7,true)⟩,oO 11 (.pick (.s 7) (.s 10) (.k (litB false))),oM 12 11,⟨some 13,.mv (.s 0),some (12,false)⟩,⟨some 14,.mv (.s 1),some (12,false)⟩,⟨some 15,.bin .lss (.s 13) (.s 14),some (12,false)⟩,oO 16 (.pick (.s 12) (.k (litB true)) (.s 15)),oM 4 16] [4]) .ret))
def fn99:F:=⟨2,17,[.t 4],c99⟩
def an99:Ann:=ann [(0,[0,1]),(1,[4])] [] [] []
theorem is99:compF Try.prog an99 Try.f99=some fn99:=by kernel_rfl
def c100l0:C:=(.seq (.seq (.draw [oM 29 9,oM 30 10,oO 31 (.bin .leq (.s 29) (.s 30)),oM 32 31,⟨some 33,.mv (.s 0),some (32,true)⟩,⟨some 34,.mv (.s 1),some (32,true)⟩,⟨some 35,.iadr 1 (.s 33) (.s 34),some (32,true)⟩,⟨some 36,.load none (.s 35),some (32,true)⟩,⟨some 37,.mv (.s 0),some (32,true)⟩,⟨some 38,.mv (.s 9),some (32,true)⟩,⟨some 39,.iadr 1 (.s 37) (.s 38),some (32,true)⟩,⟨some 40,.load none (.s 39),some (32,true)⟩] [⟨some 41,.call (.k (.fn (.func 99) [] [])) [.s 36,.s 40],some (32,true)⟩,⟨some 42,.un .not (.s 41),some (32,true)⟩,oO 43 (.pick (.s 32) (.s 42) (.k (litB false)))] [0,1,9,10,43]) (.cond (.s 43) .skip (.exit 2))) (.block 3 (.reg [oM 44 9,oO 45 (.bin .add (.s 44) (.k (litI .i64 1))),oM 9 45] [0,1,9,10])))
def c100l1:C:=(.seq (.seq (.draw [oM 46 9,oM 47 10,oO 48 (.bin .leq (.s 46) (.s 47)),oM 49 48,⟨some 50,.mv (.s 0),some (49,true)⟩,⟨some 51,.mv (.s 1),some (49,true)⟩,⟨some 52,.iadr 1 (.s 50) (.s 51),some (49,true)⟩,⟨some 53,.load none (.s 52),some (49,true)⟩,⟨some 54,.mv (.s 0),some (49,true)⟩,⟨some 55,.mv (.s 10),some (49,true)⟩,⟨some 56,.iadr 1 (.s 54) (.s 55),some (49,true)⟩,⟨some 57,.load none (.s 56),some (49,true)⟩] [⟨some 58,.call (.k (.fn (.func 99) [] [])) [.s 53,.s 57],some (49,true)⟩,oO 59 (.pick (.s 49) (.s 58) (.k (litB false)))] [0,1,9,10,59]) (.cond (.s 59) .skip (.exit 4))) (.block 5 (.reg [oM 60 10,oO 61 (.bin .sub (.s 60) (.k (litI .i64 1))),oM 10 61] [0,1,9,10])))
def c100l2:C:=(.block 1 (.seq (.block 2 (.loop [0,1,9,10] c100l0)) (.seq (.block 4 (.loop [0,1,9,10] c100l1)) (.seq (.seq (.reg [oM 62 9,oM 63 10,oO 64 (.bin .gtr (.s 62) (.s 63))] [0,1,9,10,64]) (.cond (.s 64) (.exit 0) .skip)) (.seq (.draw [oM 65 0,oM 66 9,oM 67 0,oM 68 10,oM 69 0,oM 70 10,oI 71 1 69 70,oL 72 71,oM 73 0,oM 74 9,oI 75 1 73 74,oL 76 75] [oI 77 1 65 66,⟨none,.store 1 (.s 77) (.s 72),none⟩,oI 78 1 67 68,⟨none,.store 1 (.s 78) (.s 76),none⟩] [0,1,9,10]) (.seq (.reg [oM 79 9,oO 80 (.bin .add (.s 79) (.k (litI .i64 1))),oM 9 80] [0,1,9,10]) (.reg [oM 81 10,oO 82 (.bin .sub (.s 81) (.k (litI .i64 1))),oM 10 82] [0,1,9,10])))))))
def c100:C:=(.seq (.reg [oO 8 (.mv (.k (litI .i64 0)))] [0,1,2,3]) (.seq (.draw [oM 11 0,oM 12 1,oM 13 0,oM 14 3,oM 15 0,oM 16 3,oI 17 1 15 16,oL 18 17,oM 19 0,oM 20 1,oI 21 1 19 20,oL 22 21] [oI 23 1 11 12,⟨none,.store 1 (.s 23) (.s 18),none⟩,oI 24 1 13 14,⟨none,.store 1 (.s 24) (.s 22),none⟩] [0,1,2]) (.seq (.reg [oM 25 1,oO 26 (.bin .add (.s 25) (.k (litI .i64 1))),oM 27 2,oO 28 (.bin .sub (.s 27) (.k (litI .i64 1))),oM 9 26,oM 10 28] [0,1,9,10]) (.seq (.block 0 (.loop [0,1,9,10] c100l2)) (.seq (.reg [oM 83 9,oM 8 83] [8]) .ret)))))
def fn100:F:=⟨4,84,[.t 8],c100⟩
def an100:Ann:=ann [(0,[0,1,2,3]),(1,[0,1,2]),(2,[0,1,9,10]),(3,[0,1,9,10,43]),(4,[0,1,9,10]),(5,[0,1,9,10,59]),(6,[0,1,9,10]),(7,[0,1,9,10,64]),(8,[0,1,9,10]),(9,[0,1,9,10]),(10,[0,1,9,10]),(11,[8])] [(0,[0,1,9,10]),(2,[0,1,9,10]),(4,[0,1,9,10])] [] [(1,12),(3,12),(5,12),(8,12)]
theorem is100:compF Try.prog an100 Try.f100=some fn100:=by kernel_rfl
def c101l0:C:=(.seq (.seq (.draw [oM 30 10,oM 31 11,oO 32 (.bin .leq (.s 30) (.s 31)),oM 33 32,⟨some 34,.mv (.s 0),some (33,true)⟩,⟨some 35,.mv (.s 10),some (33,true)⟩,⟨some 36,.iadr 1 (.s 34) (.s 35),some (33,true)⟩,⟨some 37,.load none (.s 36),some (33,true)⟩,⟨some 38,.mv (.s 0),some (33,true)⟩,⟨some 39,.mv (.s 1),some (33,true)⟩,⟨some 40,.iadr 1 (.s 38) (.s 39),some (33,true)⟩,⟨some 41,.load none (.s 40),some (33,true)⟩] [⟨some 42,.call (.k (.fn (.func 99) [] [])) [.s 37,.s 41],some (33,true)⟩,oO 43 (.pick (.s 33) (.s 42) (.k (litB false)))] [0,1,10,11,43]) (.cond (.s 43) .skip (.exit 0))) (.block 1 (.reg [oM 44 10,oO 45 (.bin .add (.s 44) (.k (litI .i64 1))),oM 10 45] [0,1,10,11])))
def c101l1:C:=(.seq (.seq (.draw [oM 46 10,oM 47 11,oO 48 (.bin .leq (.s 46) (.s 47)),oM 49 48,⟨some 50,.mv (.s 0),some (49,true)⟩,⟨some 51,.mv (.s 11),some (49,true)⟩,⟨some 52,.iadr 1 (.s 50) (.s 51),some (49,true)⟩,⟨some 53,.load none (.s 52),some (49,true)⟩,⟨some 54,.mv (.s 0),some (49,true)⟩,⟨some 55,.mv (.s 1),some (49,true)⟩,⟨some 56,.iadr 1 (.s 54) (.s 55),some (49,true)⟩,⟨some 57,.load none (.s 56),some (49,true)⟩] [⟨some 58,.call (.k (.fn (.func 99) [] [])) [.s 53,.s 57],some (49,true)⟩,⟨some 59,.un .not (.s 58),some (49,true)⟩,oO 60 (.pick (.s 49) (.s 59) (.k (litB false)))] [0,1,10,11,60]) (.cond (.s 60) .skip (.exit 2))) (.block 3 (.reg [oM 61 11,oO 62 (.bin .sub (.s 61) (.k (litI .i64 1))),oM 11 62] [0,1,10,11])))
def c101l2:C:=(.seq (.seq (.draw [oM 99 10,oM 100 11,oO 101 (.bin .leq (.s 99) (.s 100)),oM 102 101,⟨some 103,.mv (.s 0),some (102,true)⟩,⟨some 104,.mv (.s 10),some (102,true)⟩,⟨some 105,.iadr 1 (.s 103) (.s 104),some (102,true)⟩,⟨some 106,.load none (.s 105),some (102,true)⟩,⟨some 107,.mv (.s 0),some (102,true)⟩,⟨some 108,.mv (.s 1),some (102,true)⟩,⟨some 109,.iadr 1 (.s 107) (.s 108),some (102,true)⟩,⟨some 110,.load none (.s 109),some (102,true)⟩] [⟨some 111,.call (.k (.fn (.func 99) [] [])) [.s 106,.s 110],some (102,true)⟩,oO 112 (.pick (.s 102) (.s 111) (.k (litB false)))] [0,1,10,11,112]) (.cond (.s 112) .skip (.exit 6))) (.block 7 (.reg [oM 113 10,oO 114 (.bin .add (.s 113) (.k (litI .i64 1))),oM 10 114] [0,1,10,11])))
def c101l3:C:=(.seq (.seq (.draw [oM 115 10,oM 116 11,oO 117 (.bin .leq (.s 115) (.s 116)),oM 118 117,⟨some 119,.mv (.s 0),some (118,true)⟩,⟨some 120,.mv (.s 11),some (118,true)⟩,⟨some 121,.iadr 1 (.s 119) (.s 120),some (118,true)⟩,⟨some 122,.load none (.s 121),some (118,true)⟩,⟨some 123,.mv (.s 0),some (118,true)⟩,⟨some 124,.mv (.s 1),some (118,true)⟩,⟨some 125,.iadr 1 (.s 123) (.s 124),some (118,true)⟩,⟨some 126,.load none (.s 125),some (118,true)⟩] [⟨some 127,.call (.k (.fn (.func 99) [] [])) [.s 122,.s 126],some (118,true)⟩,⟨some 128,.un .not (.s 127),some (118,true)⟩,oO 129 (.pick (.s 118) (.s 128) (.k (litB false)))] [0,1,10,11,129]) (.cond (.s 129) .skip (.exit 8))) (.block 9 (.reg [oM 130 11,oO 131 (.bin .sub (.s 130) (.k (litI .i64 1))),oM 11 131] [0,1,10,11])))
def c101l4:C:=(.block 5 (.seq (.block 6 (.loop [0,1,10,11] c101l2)) (.seq (.block 8 (.loop [0,1,10,11] c101l3)) (.seq (.seq (.reg [oM 132 10,oM 133 11,oO 134 (.bin .gtr (.s 132) (.s 133))] [0,1,10,11,134]) (.cond (.s 134) (.exit 4) .skip)) (.seq (.draw [oM 135 0,oM 136 10,oM 137 0,oM 138 11,oM 139 0,oM 140 11,oI 141 1 139 140,oL 142 141,oM 143 0,oM 144 10,oI 145 1 143 144,oL 146 145] [oI 147 1 135 136,⟨none,.store 1 (.s 147) (.s 142),none⟩,oI 148 1 137 138,⟨none,.store 1 (.s 148) (.s 146),none⟩] [0,1,10,11]) (.seq (.reg [oM 149 10,oO 150 (.bin .add (.s 149) (.k (litI .i64 1))),oM 10 150] [0,1,10,11]) (.reg [oM 151 11,oO 152 (.bin .sub (.s 151) (.k (litI .i64 1))),oM 11 152] [0,1,10,11])))))))
def c101:C:=(.seq (.reg [oO 8 (.mv (.k (litI .i64 0))),oO 9 (.mv (.k (litB false)))] [0,1,2,3]) (.seq (.draw [oM 12 0,oM 13 1,oM 14 0,oM 15 3,oM 16 0,oM 17 3,oI 18 1 16 17,oL 19 18,oM 20 0,oM 21 1,oI 22 1 20 21,oL 23 22] [oI 24 1 12 13,⟨none,.store 1 (.s 24) (.s 19),none⟩,oI 25 1 14 15,⟨none,.store 1 (.s 25) (.s 23),none⟩] [0,1,2]) (.seq (.reg [oM 26 1,oO 27 (.bin .add (.s 26) (.k (litI .i64 1))),oM 28 2,oO 29 (.bin .sub (.s 28) (.k (litI .i64 1))),oM 10 27,oM 11 29] [0,1,10,11]) (.seq (.block 0 (.loop [0,1,10,11] c101l0)) (.seq (.block 2 (.loop [0,1,10,11] c101l1)) (.seq (.seq (.reg [oM 63 10,oM 64 11,oO 65 (.bin .gtr (.s 63) (.s 64))] [0,1,10,11,65]) (.cond (.s 65) (.seq (.draw [oM 66 0,oM 67 11,oM 68 0,oM 69 1,oM 70 0,oM 71 1,oI 72 1 70 71,oL 73 72,oM 74 0,oM 75 11,oI 76 1 74 75,oL 77 76] [oI 78 1 66 67,⟨none,.store 1 (.s 78) (.s 73),none⟩,oI 79 1 68 69,⟨none,.store 1 (.s 79) (.s 77),none⟩] [11]) (.seq (.reg [oM 80 11,oM 8 80,oO 9 (.mv (.k (litB true)))] [8,9]) .ret)) .skip)) (.seq (.draw [oM 81 0,oM 82 10,oM 83 0,oM 84 11,oM 85 0,oM 86 11,oI 87 1 85 86,oL 88 87,oM 89 0,oM 90 10,oI 91 1 89 90,oL 92 91] [oI 93 1 81 82,⟨none,.store 1 (.s 93) (.s 88),none⟩,oI 94 1 83 84,⟨none,.store 1 (.s 94) (.s 92),none⟩] [0,1,10,11]) (.seq (.reg [oM 95 10,oO 96 (.bin .add (.s 95) (.k (litI .i64 1))),oM 10 96] [0,1,10,11]) (.seq (.reg [oM 97 11,oO 98 (.bin .sub (.s 97) (.k (litI .i64 1))),oM 11 98] [0,1,10,11]) (.seq (.block 4 (.loop [0,1,10,11] c101l4)) (.seq (.draw [oM 153 0,oM 154 11,oM 155 0,oM 156 1,oM 157 0,oM 158 1,oI 159 1 157 158,oL 160 159,oM 161 0,oM 162 11,oI 163 1 161 162,oL 164 163] [oI 165 1 153 154,⟨none,.store 1 (.s 165) (.s 160),none⟩,oI 166 1 155 156,⟨none,.store 1 (.s 166) (.s 164),none⟩] [11]) (.seq (.reg [oM 167 11,oM 8 167,oO 9 (.mv (.k (litB false)))] [8,9]) .ret))))))))))))
def fn101:F:=⟨4,168,[.t 8,.t 9],c101⟩
def an101:Ann:=ann [(0,[0,1,2,3]),(1,[0,1,2]),(2,[0,1,10,11]),(3,[0,1,10,11,43]),(4,[0,1,10,11]),(5,[0,1,10,11,60]),(6,[0,1,10,11]),(7,[0,1,10,11,65]),(8,[11]),(9,[8,9]),(10,[0,1,10,11]),(11,[0,1,10,11]),(12,[0,1,10,11]),(13,[0,1,10,11,112]),(14,[0,1,10,11]),(15,[0,1,10,11,129]),(16,[0,1,10,11]),(17,[0,1,10,11,134]),(18,[0,1,10,11]),(19,[0,1,10,11]),(20,[0,1,10,11]),(21,[11]),(22,[8,9])] [(0,[0,1,10,11]),(2,[0,1,10,11]),(4,[0,1,10,11]),(6,[0,1,10,11]),(8,[0,1,10,11])] [] [(1,12),(3,12),(5,12),(8,12),(10,12),(13,12),(15,12),(18,12),(21,12)]
theorem is101:compF Try.prog an101 Try.f101=some fn101:=by kernel_rfl
def c102:C:=(.seq (.reg [oO 2 (.mv (.k (litI .i64 0)))] [0,2]) (.seq (.seq (.reg [oM 3 0,oO 4 (.bin .geq (.s 3) (.k (litI .u32 65536)))] [0,2,4]) (.cond (.s 4) (.seq (.reg [oM 5 0,oO 6 (.bin .shr (.s 5) (.k (litI .u64 16))),oM 0 6] [0]) (.reg [oO 2 (.mv (.k (litI .i64 16)))] [0,2])) .skip)) (.seq (.seq (.reg [oM 7 0,oO 8 (.bin .geq (.s 7) (.k (litI .u32 256)))] [0,2,8]) (.cond (.s 8) (.seq (.reg [oM 9 0,oO 10 (.bin .shr (.s 9) (.k (litI .u64 8))),oM 0 10] [0,2]) (.reg [oM 11 2,oO 12 (.bin .add (.s 11) (.k (litI .i64 8))),oM 2 12] [0,2])) .skip)) (.seq (.reg [oM 13 2,oM 14 0,oO 15 (.conv (.int .u8) (.s 14)),oO 16 (.idxS (.k (litS (bs [0,1,2,2,3,3,3,3,4,4,4,4,4,4,4,4,5,5,5,5,5,5,5,5,5,5,5,5,5,5,5,5,6,6,6,6,6,6,6,6,6,6,6,6,6,6,6,6,6,6,6,6,6,6,6,6,6,6,6,6,6,6,6,6,7,7,7,7,7,7,7,7,7,7,7,7,7,7,7,7,7,7,7,7,7,7,7,7,7,7,7,7,7,7,7,7,7,7,7,7,7,7,7,7,7,7,7,7,7,7,7,7,7,7,7,7,7,7,7,7,7,7,7,7,7,7,7,7,8,8,8,8,8,8,8,8,8,8,8,8,8,8,8,8,8,8,8,8,8,8,8,8,8,8,8,8,8,8,8,8,8,8,8,8,8,8,8,8,8,8,8,8,8,8,8,8,8,8,8,8,8,8,8,8,8,8,8,8,8,8,8,8,8,8,8,8,8,8,8,8,8,8,8,8,8,8,8,8,8,8,8,8,8,8,8,8,8,8,8,8,8,8,8,8,8,8,8,8,8,8,8,8,8,8,8,8,8,8,8,8,8,8,8,8,8,8,8,8,8,8,8,8,8,8,8,8]))) (.s 15)),oO 17 (.conv (.int .i64) (.s 16)),oO 18 (.bin .add (.s 13) (.s 17)),oM 2 18] [2]) .ret))))
def fn102:F:=⟨1,19,[.t 2],c102⟩
def an102:Ann:=ann [(0,[0,2]),(1,[0,2,4]),(2,[0]),(3,[0,2]),(4,[0,2,8]),(5,[0,2]),(6,[0,2]),(7,[2])] [] [] []
theorem is102:compF Try.prog an102 Try.f102=some fn102:=by kernel_rfl
def c103:C:=(.seq (.reg [oO 2 (.mv (.k (litI .i64 0)))] [0,2]) (.seq (.seq (.reg [oM 3 0,oO 4 (.bin .geq (.s 3) (.k (litI .u64 4294967296)))] [0,2,4]) (.cond (.s 4) (.seq (.reg [oM 5 0,oO 6 (.bin .shr (.s 5) (.k (litI .u64 32))),oM 0 6] [0]) (.reg [oO 2 (.mv (.k (litI .i64 32)))] [0,2])) .skip)) (.seq (.seq (.reg [oM 7 0,oO 8 (.bin .geq (.s 7) (.k (litI .u64 65536)))] [0,2,8]) (.cond (.s 8) (.seq (.reg [oM 9 0,oO 10 (.bin .shr (.s 9) (.k (litI .u64 16))),oM 0 10] [0,2]) (.reg [oM 11 2,oO 12 (.bin .add (.s 11) (.k (litI .i64 16))),oM 2 12] [0,2])) .skip)) (.seq (.seq (.reg [oM 13 0,oO 14 (.bin .geq (.s 13) (.k (litI .u64 256)))] [0,2,14]) (.cond (.s 14) (.seq (.reg [oM 15 0,oO 16 (.bin .shr (.s 15) (.k (litI .u64 8))),oM 0 16] [0,2]) (.reg [oM 17 2,oO 18 (.bin .add (.s 17) (.k (litI .i64 8))),oM 2 18] [0,2])) .skip)) (.seq (.reg [oM 19 2,oM 20 0,oO 21 (.conv (.int .u8) (.s 20)),oO 22 (.idxS (.k (litS (bs [0,1,2,2,3,3,3,3,4,4,4,4,4,4,4,4,5,5,5,5,5,5,5,5,5,5,5,5,5,5,5,5,6,6,6,6,6,6,6,6,6,6,6,6,6,6,6,6,6,6,6,6,6,6,6,6,6,6,6,6,6,6,6,6,7,7,7,7,7,7,7,7,7,7,7,7,7,7,7,7,7,7,7,7,7,7,7,7,7,7,7,7,7,7,7,7,7,7,7,7,7,7,7,7,7,7,7,7,7,7,7,7,7,7,7,7,7,7,7,7,7,7,7,7,7,7,7,7,8,8,8,8,8,8,8,8,8,8,8,8,8,8,8,8,8,8,8,8,8,8,8,8,8,8,8,8,8,8,8,8,8,8,8,8,8,8,8,8,8,8,8,8,8,8,8,8,8,8,8,8,8,8,8,8,8,8,8,8,8,8,8,8,8,8,8,8,8,8,8,8,8,8,8,8,8,8,8,8,8,8,8,8,8,8,8,8,8,8,8,8,8,8,8,8,8,8,8,8,8,8,8,8,8,8,8,8,8,8,8,8,8,8,8,8,8,8,8,8,8,8,8,8,8,8,8,8]))) (.s 21)),oO 23 (.conv (.int .i64) (.s 22)),oO 24 (.bin .add (.s 19) (.s 23)),oM 2 24] [2]) .ret)))))
def fn103:F:=⟨1,25,[.t 2],c103⟩
def an103:Ann:=ann [(0,[0,2]),(1,[0,2,4]),(2,[0]),(3,[0,2]),(4,[0,2,8]),(5,[0,2]),(6,[0,2]),(7,[0,2,14]),(8,[0,2]),(9,[0,2]),(10,[2])] [] [] []
theorem is103:compF Try.prog an103 Try.f103=some fn103:=by kernel_rfl
def c104l0:C:=(.block 1 (.seq (.reg [oM 11 8,oO 12 (.bin .mul (.k (litI .i64 2)) (.s 11)),oO 13 (.bin .add (.s 12) (.k (litI .i64 1))),oM 9 13] [0,2,3,8,9]) (.seq (.seq (.reg [oM 14 9,oM 15 2,oO 16 (.bin .geq (.s 14) (.s 15))] [0,2,3,8,9,16]) (.cond (.s 16) (.exit 0) .skip)) (.seq (.seq (.draw [oM 17 9,oO 18 (.bin .add (.s 17) (.k (litI .i64 1))),oM 19 2,oO 20 (.bin .lss (.s 18) (.s 19)),oM 21 20,⟨some 22,.mv (.s 0),some (21,true)⟩,⟨some 23,.mv (.s 3),some (21,true)⟩,⟨some 24,.mv (.s 9),some (21,true)⟩,⟨some 25,.bin .add (.s 23) (.s 24),some (21,true)⟩,⟨some 26,.iadr 1 (.s 22) (.s 25),some (21,true)⟩,⟨some 27,.load none (.s 26),some (21,true)⟩,⟨some 28,.mv (.s 0),some (21,true)⟩,⟨some 29,.mv (.s 3),some (21,true)⟩,⟨some 30,.mv (.s 9),some (21,true)⟩,⟨some 31,.bin .add (.s 29) (.s 30),some (21,true)⟩,⟨some 32,.bin .add (.s 31) (.k (litI .i64 1)),some (21,true)⟩,⟨some 33,.iadr 1 (.s 28) (.s 32),some (21,true)⟩,⟨some 34,.load none (.s 33),some (21,true)⟩] [⟨some 35,.call (.k (.fn (.func 99) [] [])) [.s 27,.s 34],some (21,true)⟩,oO 36 (.pick (.s 21) (.s 35) (.k (litB false)))] [0,2,3,8,9,36]) (.cond (.s 36) (.reg [oM 37 9,oO 38 (.bin .add (.s 37) (.k (litI .i64 1))),oM 9 38] [0,2,3,8,9]) .skip)) (.seq (.seq (.draw [oM 39 0,oM 40 3,oM 41 8,oO 42 (.bin .add (.s 40) (.s 41)),oI 43 1 39 42,oL 44 43,oM 45 0,oM 46 3,oM 47 9,oO 48 (.bin .add (.s 46) (.s 47)),oI 49 1 45 48,oL 50 49] [oC 51 99 [.s 44,.s 50],oO 52 (.un .not (.s 51))] [0,2,3,8,9,52]) (.cond (.s 52) .ret .skip)) (.seq (.draw [oM 53 0,oM 54 3,oM 55 8,oO 56 (.bin .add (.s 54) (.s 55)),oM 57 0,oM 58 3,oM 59 9,oO 60 (.bin .add (.s 58) (.s 59)),oM 61 0,oM 62 3,oM 63 9,oO 64 (.bin .add (.s 62) (.s 63)),oI 65 1 61 64,oL 66 65,oM 67 0,oM 68 3,oM 69 8,oO 70 (.bin .add (.s 68) (.s 69)),oI 71 1 67 70,oL 72 71] [oI 73 1 53 56,⟨none,.store 1 (.s 73) (.s 66),none⟩,oI 74 1 57 60,⟨none,.store 1 (.s 74) (.s 72),none⟩] [0,2,3,9]) (.reg [oM 75 9,oM 8 75] [0,2,3,8])))))))
def c104:C:=(.seq (.reg [oM 10 1,oM 8 10] [0,2,3,8]) (.block 0 (.loop [0,2,3,8] c104l0)))
def fn104:F:=⟨4,76,[],c104⟩
def an104:Ann:=ann [(0,[0,2,3,8]),(1,[0,2,3,8,9]),(2,[0,2,3,8,9,16]),(3,[0,2,3,8,9,36]),(4,[0,2,3,8,9]),(5,[0,2,3,8,9,52]),(6,[0,2,3,9]),(7,[0,2,3,8])] [(0,[0,2,3,8])] [] [(3,18),(5,12),(6,20)]
theorem is104:compF Try.prog an104 Try.f104=some fn104:=by kernel_rfl
def c105:C:=(.seq (.reg [oO 2 (.mv (.k (litI .u64 0)))] [0]) (.seq (.reg [oM 3 0,oO 4 (.conv (.int .u64) (.s 3)),oC 5 90 [.s 4],oO 6 (.bin .shl (.k (litI .u64 1)) (.s 5)),oM 2 6] [2]) .ret))
def fn105:F:=⟨1,7,[.t 2],c105⟩
def an105:Ann:=ann [(0,[0]),(1,[2])] [] [] []
theorem is105:compF Try.prog an105 Try.f105=some fn105:=by kernel_rfl
def c106:C:=(.seq (.reg [oO 2 (.mv (.k (litI .u64 0)))] [0]) (.seq (.draw [oM 3 0,oO 4 (.nilck (.s 3)),oL 5 4,oM 6 0,oO 7 (.nilck (.s 6)),oL 8 7] [oO 9 (.bin .shl (.s 8) (.k (litI .u64 13))),oO 10 (.bin .xor (.s 5) (.s 9)),oO 11 (.nilck (.s 3)),⟨none,.store 1 (.s 11) (.s 10),none⟩] [0]) (.seq (.draw [oM 12 0,oO 13 (.nilck (.s 12)),oL 14 13,oM 15 0,oO 16 (.nilck (.s 15)),oL 17 16] [oO 18 (.bin .shr (.s 17) (.k (litI .u64 7))),oO 19 (.bin .xor (.s 14) (.s 18)),oO 20 (.nilck (.s 12)),⟨none,.store 1 (.s 20) (.s 19),none⟩] [0]) (.seq (.draw [oM 21 0,oO 22 (.nilck (.s 21)),oL 23 22,oM 24 0,oO 25 (.nilck (.s 24)),oL 26 25] [oO 27 (.bin .shl (.s 26) (.k (litI .u64 17))),oO 28 (.bin .xor (.s 23) (.s 27)),oO 29 (.nilck (.s 21)),⟨none,.store 1 (.s 29) (.s 28),none⟩] [0]) (.seq (.reg [oM 30 0,oO 31 (.nilck (.s 30)),oL 32 31,oM 2 32] [2]) .ret)))))
def fn106:F:=⟨1,33,[.t 2],c106⟩
def an106:Ann:=ann [(0,[0]),(1,[0]),(2,[0]),(3,[0]),(4,[2])] [] [] [(1,6),(2,6),(3,6)]
theorem is106:compF Try.prog an106 Try.f106=some fn106:=by kernel_rfl
def c107:C:=(.seq (.reg [oO 6 (.mv (.k (litI .i64 0)))] [0,1,2]) (.seq (.reg [oM 7 0,oM 8 1,oO 9 (.bin .sub (.s 8) (.k (litI .i64 1))),oM 10 1,oM 11 1,oO 12 (.bin .add (.s 11) (.k (litI .i64 1))),oM 13 2,oC 14 108 [.s 7,.s 9,.s 10,.s 12,.s 13],oM 6 14] [6]) .ret))
def fn107:F:=⟨3,15,[.t 6],c107⟩
def an107:Ann:=ann [(0,[0,1,2]),(1,[6])] [] [] []
theorem is107:compF Try.prog an107 Try.f107=some fn107:=by kernel_rfl
def c108:C:=(.seq (.reg [oO 10 (.mv (.k (litI .i64 0)))] [0,1,2,3,4]) (.seq (.reg [oM 12 0,oM 13 1,oM 14 2,oM 15 4,oC 16 110 [.s 12,.s 13,.s 14,.s 15],oM 11 16,oO 17 (.ext (.s 11) 0),oO 18 (.ext (.s 11) 1),oM 1 17,oM 2 18] [0,1,2,3,4]) (.seq (.reg [oM 20 0,oM 21 2,oM 22 3,oM 23 4,oC 24 110 [.s 20,.s 21,.s 22,.s 23],oM 19 24,oO 25 (.ext (.s 19) 0),oO 26 (.ext (.s 19) 1),oM 2 25,oM 3 26] [0,1,2,4]) (.seq (.reg [oM 28 0,oM 29 1,oM 30 2,oM 31 4,oC 32 110 [.s 28,.s 29,.s 30,.s 31],oM 27 32,oO 33 (.ext (.s 27) 0),oO 34 (.ext (.s 27) 1),oM 1 33,oM 2 34] [2]) (.seq (.reg [oM 35 2,oM 10 35] [10]) .ret)))))
def fn108:F:=⟨5,36,[.t 10],c108⟩
def an108:Ann:=ann [(0,[0,1,2,3,4]),(1,[0,1,2,3,4]),(2,[0,1,2,4]),(3,[2]),(4,[10])] [] [] []
theorem is108:compF Try.prog an108 Try.f108=some fn108:=by kernel_rfl
def c109:C:=(.seq (.reg [oO 2 (.mv (.k (litB false)))] [0]) (.seq (.reg [oM 3 0,oM 4 0,oO 5 (.bin .neq (.s 3) (.s 4)),oM 2 5] [2]) .ret))
def fn109:F:=⟨1,6,[.t 2],c109⟩
def an109:Ann:=ann [(0,[0]),(1,[2])] [] [] []
theorem is109:compF Try.prog an109 Try.f109=some fn109:=by kernel_rfl
def c110:C:=(.seq (.reg [oO 8 (.mv (.k (litI .i64 0))),oO 9 (.mv (.k (litI .i64 0)))] [0,1,2,3]) (.seq (.seq (.draw [oM 10 0,oM 11 2,oI 12 1 10 11,oL 13 12,oM 14 0,oM 15 1,oI 16 1 14 15,oL 17 16] [oC 18 99 [.s 13,.s 17]] [1,2,3,18]) (.cond (.s 18) (.seq (.reg [oM 19 3,oO 20 (.nilck (.s 19)),oL 21 20,oO 22 (.bin .add (.s 21) (.k (litI .i64 1))),oO 23 (.nilck (.s 19)),⟨none,.store 1 (.s 23) (.s 22),none⟩] [1,2]) (.seq (.reg [oM 24 2,oM 25 1,oM 8 24,oM 9 25] [8,9]) .ret)) .skip)) (.seq (.reg [oM 26 1,oM 27 2,oM 8 26,oM 9 27] [8,9]) .ret)))
def fn110:F:=⟨4,28,[.t 8,.t 9],c110⟩
def an110:Ann:=ann [(0,[0,1,2,3]),(1,[1,2,3,18]),(2,[1,2]),(3,[8,9]),(4,[8,9])] [] [] [(1,8)]
theorem is110:compF Try.prog an110 Try.f110=some fn110:=by kernel_rfl
end Go.Proofs.Ytcgbdndkfonphaa.Ai
namespace Go.Proofs
open Go.Shelf
def Try.lays189_ren:Go.Shelf.Ren:=⟨fun|189=>75|125=>90|257=>89|128=>102|129=>103|294=>93|295=>94|296=>95|297=>96|298=>97|299=>98|216=>99|300=>100|301=>101|328=>104|329=>105|330=>106|331=>107|332=>108|215=>109|343=>110|n=>n,fun|28=>23|3=>3|46=>144|0=>0|51=>155|53=>157|4=>4|183=>149|182=>148|131=>83|5=>5|9=>9|218=>158|222=>162|228=>164|229=>165|n=>n,fun|n=>n⟩
theorem Try.lays189:Go.Proofs.Lays.n189 Try.prog Try.lays189_ren:={
 mixed:=by kernel_rfl
 f125:=Try.func90.trans (congrArg some (by kernel_rfl))
 f128:=Try.func102.trans (congrArg some (by kernel_rfl))
 f129:=Try.func103.trans (congrArg some (by kernel_rfl))
 f189:=Try.func75.trans (congrArg some (by kernel_rfl))
 f215:=Try.func109.trans (congrArg some (by kernel_rfl))
 f216:=Try.func99.trans (congrArg some (by kernel_rfl))
 f257:=Try.func89.trans (congrArg some (by kernel_rfl))
 f294:=Try.func93.trans (congrArg some (by kernel_rfl))
 f295:=Try.func94.trans (congrArg some (by kernel_rfl))
 f296:=Try.func95.trans (congrArg some (by kernel_rfl))
 f297:=Try.func96.trans (congrArg some (by kernel_rfl))
 f298:=Try.func97.trans (congrArg some (by kernel_rfl))
 f299:=Try.func98.trans (congrArg some (by kernel_rfl))
 f300:=Try.func100.trans (congrArg some (by kernel_rfl))
 f301:=Try.func101.trans (congrArg some (by kernel_rfl))
 f328:=Try.func104.trans (congrArg some (by kernel_rfl))
 f329:=Try.func105.trans (congrArg some (by kernel_rfl))
 f330:=Try.func106.trans (congrArg some (by kernel_rfl))
 f331:=Try.func107.trans (congrArg some (by kernel_rfl))
 f332:=Try.func108.trans (congrArg some (by kernel_rfl))
 f343:=Try.func110.trans (congrArg some (by kernel_rfl))
 t0:=Try.underlying0
 a0:=Try.isAgg0
 z0:=Try.sizeOf0
 v0:=Try.zeroValue0
 t3:=Try.underlying3
 a3:=Try.isAgg3
 z3:=Try.sizeOf3
 v3:=Try.zeroValue3
 t4:=Try.underlying4
 a4:=Try.isAgg4
 z4:=Try.sizeOf4
 v4:=Try.zeroValue4
 t5:=Try.underlying5
 a5:=Try.isAgg5
 z5:=Try.sizeOf5
 v5:=Try.zeroValue5
 t9:=Try.underlying9
 a9:=Try.isAgg9
 z9:=Try.sizeOf9
 v9:=Try.zeroValue9
 t28:=Try.underlying23
 a28:=Try.isAgg23
 z28:=Try.sizeOf23
 v28:=Try.zeroValue23
 t46:=Try.underlying144
 a46:=Try.isAgg144
 z46:=Try.sizeOf144
 v46:=Try.zeroValue144
 t51:=Try.underlying155
 a51:=Try.isAgg155
 z51:=Try.sizeOf155
 v51:=Try.zeroValue155
 t53:=Try.underlying157
 a53:=Try.isAgg157
 z53:=Try.sizeOf157
 v53:=Try.zeroValue157
 t131:=Try.underlying83
 a131:=Try.isAgg83
 z131:=Try.sizeOf83
 v131:=Try.zeroValue83
 t182:=Try.underlying148
 a182:=Try.isAgg148
 z182:=Try.sizeOf148
 v182:=Try.zeroValue148
 t183:=Try.underlying149
 a183:=Try.isAgg149
 z183:=Try.sizeOf149
 v183:=Try.zeroValue149
 t218:=Try.underlying158
 a218:=Try.isAgg158
 z218:=Try.sizeOf158
 v218:=Try.zeroValue158
 t222:=Try.underlying162
 a222:=Try.isAgg162
 z222:=Try.sizeOf162
 v222:=Try.zeroValue162
 t228:=Try.underlying164
 a228:=Try.isAgg164
 z228:=Try.sizeOf164
 v228:=Try.zeroValue164
 t229:=Try.underlying165
 a229:=Try.isAgg165
 z229:=Try.sizeOf165
 v229:=Try.zeroValue165 }
open Go.Sort Go.RowKit in
theorem Try.slices_Sort_int(blk off cap:Nat)(zs:List Int)(w:World)(hH:Holds (Value.int .i64) w blk off zs.toArray)(hblk:blk<w.heap.size)(hsz:zs.length<4611686018427387904) :
  Calls Try.prog 75 #[.slice (some ⟨blk,off,none⟩) zs.length cap] w fun e w' =>
   e=.returned (.tuple #[])∧∃n os,w'=grow (putRow (Value.int .i64) (Sort.ahead w n) blk off (zs.mergeSort fun x y=>decide (x≤y)).toArray) os:=Any.slices_Sort_int Try.lays189 blk off cap zs w hH hblk hsz
def Try.laysNm220_ren:Go.Shelf.Ren:=⟨fun|20=>77|n=>n,fun|22=>23|3=>3|4=>4|0=>0|n=>n,fun|n=>n⟩
theorem Try.laysNm220:Go.Proofs.Lays2.n20 Try.prog Try.laysNm220_ren:={
 mixed:=by kernel_rfl
 f20:=Try.func77.trans (congrArg some (by kernel_rfl))
 t0:=Try.underlying0
 a0:=Try.isAgg0
 z0:=Try.sizeOf0
 v0:=Try.zeroValue0
 t3:=Try.underlying3
 a3:=Try.isAgg3
 z3:=Try.sizeOf3
 v3:=Try.zeroValue3
 t4:=Try.underlying4
 a4:=Try.isAgg4
 z4:=Try.sizeOf4
 v4:=Try.zeroValue4
 t22:=Try.underlying23
 a22:=Try.isAgg23
 z22:=Try.sizeOf23
 v22:=Try.zeroValue23
 i3:=by kernel_rfl }
open Go.RowKit Go.Lib Go.Sort in
theorem Try.slices_Compact_int(blk off cap:Nat)(zs:List Int)(w:World)(hH:Holds (Value.int .i64) w blk off zs.toArray)(hsz:zs.length≤9223372036854775807)(hcap:zs.length≤cap) :
  Calls Try.prog 77 #[.slice (some ⟨blk,off,none⟩) zs.length cap] w fun e w'=>e=.returned (.slice (some ⟨blk,off,none⟩) (Lib.compact zs).length cap)∧∃q,w'=putRow (Value.int .i64) (Sort.ahead w q) blk off (Lib.compact zs++List.replicate (zs.length-(Lib.compact zs).length) 0).toArray:=Any.slices_Compact_int Try.laysNm220 blk off cap zs w hH hsz hcap
open Go.RowKit Go.Lib Go.Sort in
theorem Try.slices_Compact_int_empty(a:Option Addr)(cap:Nat)(w:World) :
  Calls Try.prog 77 #[.slice a 0 cap] w fun e w'=>e=.returned (.slice a 0 cap)∧w'=w:=Any.slices_Compact_int_empty Try.laysNm220 a cap w
open Go.RowKit Go.Sort in
theorem Try.slices_Sort_int_none(p:Option Addr)(cap:Nat)(w:World) :
  Calls Try.prog 75 #[.slice p 0 cap] w fun e w'=>e=.returned (.tuple #[])∧w'=w:=Any.slices_Sort_int_none Try.lays189 p cap w
end Go.Proofs
namespace Go.Proofs.Ytcgbdndkfonphaa.Ai
open Go Go.Ai Go.Proofs
def tb:List (Nat×F):=[(4,fn4),(10,fn10),(11,fn11),(12,fn12),(13,fn13),(14,fn14),(19,fn19),(21,fn21),(22,fn22),(23,fn23),(24,fn24),(25,fn25),(26,fn26),(27,fn27),(28,fn28),(29,fn29),(30,fn30),(31,fn31),(33,fn33),(34,fn34),(36,fn36),(37,fn37),(38,fn38),(39,fn39),(40,fn40),(41,fn41),(42,fn42),(43,fn43),(44,fn44),(45,fn45),(46,fn46),(47,fn47),(48,fn48),(49,fn49),(50,fn50),(51,fn51),(52,fn52),(54,fn54),(55,fn55),(56,fn56),(57,fn57),(58,fn58),(59,fn59),(60,fn60),(61,fn61),(62,fn62),(63,fn63),(64,fn64),(65,fn65),(66,fn66),(67,fn67),(68,fn68),(69,fn69),(74,fn74),(75,fn75),(76,fn76),(77,fn77),(78,fn78),(79,fn79),(80,fn80),(81,fn81),(82,fn82),(83,fn83),(84,fn84),(85,fn85),(86,fn86),(89,fn89),(90,fn90),(91,fn91),(92,fn92),(93,fn93),(94,fn94),(95,fn95),(96,fn96),(97,fn97),(98,fn98),(99,fn99),(100,fn100),(101,fn101),(102,fn102),(103,fn103),(104,fn104),(105,fn105),(106,fn106),(107,fn107),(108,fn108),(109,fn109),(110,fn110)]
set_option maxRecDepth 10000 in
theorem tbOk:TabOk Try.prog tb:=TabOk.cons Try.func4 is4 (TabOk.cons Try.func10 is10 (TabOk.cons Try.func11 is11 (TabOk.cons Try.func12 is12 (TabOk.cons Try.func13 is13 (TabOk.cons Try.func14 is14 (TabOk.cons Try.func19 is19 (TabOk.cons Try.func21 is21 (TabOk.cons Try.func22 is22 (TabOk.cons Try.func23 is23 (TabOk.cons Try.func24 is24 (TabOk.cons Try.func25 is25 (TabOk.cons Try.func26 is26 (TabOk.cons Try.func27 is27 (TabOk.cons Try.func28 is28 (TabOk.cons Try.func29 is29 (TabOk.cons Try.func30 is30 (TabOk.cons Try.func31 is31 (TabOk.cons Try.func33 is33 (TabOk.cons Try.func34 is34 (TabOk.cons Try.func36 is36 (TabOk.cons Try.func37 is37 (TabOk.cons Try.func38 is38 (TabOk.cons Try.func39 is39 (TabOk.cons Try.func40 is40 (TabOk.cons Try.func41 is41 (TabOk.cons Try.func42 is42 (TabOk.cons Try.func43 is43 (TabOk.cons Try.func44 is44 (TabOk.cons Try.func45 is45 (TabOk.cons Try.func46 is46 (TabOk.cons Try.func47 is47 (TabOk.cons Try.func48 is48 (TabOk.cons Try.func49 is49 (TabOk.cons Try.func50 is50 (TabOk.cons Try.func51 is51 (TabOk.cons Try.func52 is52 (TabOk.cons Try.func54 is54 (TabOk.cons Try.func55 is55 (TabOk.cons Try.func56 is56 (TabOk.cons Try.func57 is57 (TabOk.cons Try.func58 is58 (TabOk.cons Try.func59 is59 (TabOk.cons Try.func60 is60 (TabOk.cons Try.func61 is61 (TabOk.cons Try.func62 is62 (TabOk.cons Try.func63 is63 (TabOk.cons Try.func64 is64 (TabOk.cons Try.func65 is65 (TabOk.cons Try.func66 is66 (TabOk.cons Try.func67 is67 (TabOk.cons Try.func68 is68 (TabOk.cons Try.func69 is69 (TabOk.cons Try.func74 is74 (TabOk.cons Try.func75 is75 (TabOk.cons Try.func76 is76 (TabOk.cons Try.func77 is77 (TabOk.cons Try.func78 is78 (TabOk.cons Try.func79 is79 (TabOk.cons Try.func80 is80 (TabOk.cons Try.func81 is81 (TabOk.cons Try.func82 is82 (TabOk.cons Try.func83 is83 (TabOk.cons Try.func84 is84 (TabOk.cons Try.func85 is85 (TabOk.cons Try.func86 is86 (TabOk.cons Try.func89 is89 (TabOk.cons Try.func90 is90 (TabOk.cons Try.func91 is91 (TabOk.cons Try.func92 is92 (TabOk.cons Try.func93 is93 (TabOk.cons Try.func94 is94 (TabOk.cons Try.func95 is95 (TabOk.cons Try.func96 is96 (TabOk.cons Try.func97 is97 (TabOk.cons Try.func98 is98 (TabOk.cons Try.func99 is99 (TabOk.cons Try.func100 is100 (TabOk.cons Try.func101 is101 (TabOk.cons Try.func102 is102 (TabOk.cons Try.func103 is103 (TabOk.cons Try.func104 is104 (TabOk.cons Try.func105 is105 (TabOk.cons Try.func106 is106 (TabOk.cons Try.func107 is107 (TabOk.cons Try.func108 is108 (TabOk.cons Try.func109 is109 (TabOk.cons Try.func110 is110 (TabOk.nil))))))))))))))))))))))))))))))))))))))))))))))))))))))))))))))))))))))))))))))))))))))))
def mtl:List (TypeId×String×FuncId×Option (Option Nat)):=[(123, "Len",71,some none),(123, "Less",127,some none),(123, "Swap",128,some none),(123, "Pop",129,none),(123, "Push",130,none)]
def ovs:Ov:=fun f=>bif f==75 then some sortG else bif f==77 then some compactG else none
def mds:FuncId→Md:=mdOf [28,29,30,34,35,36,38,46,47,56,59,60,61,62,64,65,66,68,72,73,75,76,77,81,82,83,84,87,88,91,128,129,130] [48,51,52,69,70]
noncomputable def cw:CallF:=callW (lookF tb) ovs (lookM mtl) mds
theorem en75(args:Array Value)(w:World):(callFunc 75 args).run Try.prog w=.ok (.enter 75 args) w:=enters Try.func75 (by kernel_rfl) rfl args w
theorem en77(args:Array Value)(w:World):(callFunc 77 args).run Try.prog w=.ok (.enter 77 args) w:=enters Try.func77 (by kernel_rfl) rfl args w
theorem ovOk:∀f G,ovs f=some G→OneOk Try.prog f G:=by
 intro f G h
 unfold ovs at h
 by_cases h1:f=75
 ·subst h1
  simp only[beq_self_eq_true,cond_true,sI]at h;subst h
  exact sortG_ok en75 Try.slices_Sort_int Try.slices_Sort_int_none
 ·by_cases h2:f=77
  ·subst h2
   simp only[Nat.reduceBEq,cond_false,beq_self_eq_true,cond_true,sI]at h;subst h
   refine compactG_ok en77 (fun blk off cap zs w hH hs hc=>?_) Try.slices_Compact_int_empty
   have:=Try.slices_Compact_int blk off cap zs w hH hs hc
   rw[←compI_eq]at this
   exact this
  ·rw[beq_of_ne h1,beq_of_ne h2]at h
   cases h
set_option maxRecDepth 100000 in
theorem mtOk:MtOk Try.prog (lookM mtl):=by
 refine mtOk_of fun p hp=>?_
 simp only[mtl,zO,yG,or_false]at hp
 rcases hp with rfl|rfl|rfl|rfl|rfl
 ·exact⟨118,by kernel_rfl,fun a u w h=>method_deref (m:=_) (i:=_) rfl rfl rfl rfl Try.underlying123 a u w h⟩
 ·exact⟨118,by kernel_rfl,fun a u w h=>method_deref (m:=_) (i:=_) rfl rfl rfl rfl Try.underlying123 a u w h⟩
 ·exact⟨118,by kernel_rfl,fun a u w h=>method_deref (m:=_) (i:=_) rfl rfl rfl rfl Try.underlying123 a u w h⟩
 ·exact fun v w=>method_ptr (m:=_) (i:=_) rfl rfl rfl rfl Try.underlying123 v w
 ·exact fun v w=>method_ptr (m:=_) (i:=_) rfl rfl rfl rfl Try.underlying123 v w
set_option maxRecDepth 100000 in
theorem linked:Linked Try.prog (lookF tb) ovs (lookM mtl):=⟨by kernel_rfl,mtOk,fun f F h=>tbOk _ (lookF_mem h),ovOk⟩
theorem cw_of{f:FuncId}(FF:F){c:C}{args:List AV}{H:List AO}{r:R×List AO}(ho:ovs f=none)(hT:lookF tb f=some FF)(hl:(args.length==FF.np)=true)(hc:FF.body=c)
  (h:(codeW cw (lookM mtl) mds c (initFr 0 args) H).bind (fin FF)=some r):cw f args H=some r:=by
 subst hc
 exact callW_of ho hT hl h
theorem cw_ov{f:FuncId}{G:List AV→List AO→Option (R×List AO)}{args:List AV}{H:List AO}{r:R×List AO}(ho:ovs f=some G)(h:G args H=some r):cw f args H=some r:=callW_ov ho h
theorem cw_told{f:FuncId}{args:List AV}{H:List AO}{r:R×List AO}(h:cw f args H=some r):∃k,call (lookF tb) ovs (lookM mtl) mds k f args H=some r:=callW_some.1 h
end Go.Proofs.Ytcgbdndkfonphaa.Ai
namespace Go.Proofs.Ytcgbdndkfonphaa.Ai
open Go Go.Ai
variable {call:CallF}{mt:MtF}{md:FuncId→Md}
def rowC(r:List Int)(c:Option Nat):AV:=.sl 1 (r.map fun i=>[litI .i64 i]) c
def limbs(r:List Int):AV:=.sl 1 (r.map fun i=>[litI .u32 i]) none
def strs(r:List ByteArray):AV:=.sl 1 (r.map fun s=>[litS s]) none
structure LitV where
 kind:Int
 neg:Bool
 mag:List Int
 den:List Int
 name:ByteArray
def LitV.cs(l:LitV)(r:List AV):List AV:=litI .i64 l.kind::litB l.neg::limbs l.mag::limbs l.den::litS l.name::r
structure Eqn where
 var:Int
 op:ByteArray
 args:List Int
 k:Int
 lit:LitV
 guard:Int
def Eqn.cs(q:Eqn):List AV:=[litI .i64 q.var,litS q.op,rowC q.args none,litI .i64 q.k,litI .i64 q.lit.kind,litB q.lit.neg,limbs q.lit.mag,limbs q.lit.den,litS q.lit.name,litI .i64 q.guard]
structure MemV where
 init:LitV
 next:Int
 guard:Int
 resets:List Int
def MemV.cs(m:MemV):List AV:=[litI .i64 m.init.kind,litB m.init.neg,limbs m.init.mag,limbs m.init.den,litS m.init.name,litI .i64 m.next,litI .i64 m.guard,rowC m.resets none]
structure SlopeV where
 guard:Int
 var:Int
def SlopeV.cs(s:SlopeV):List AV:=[litI .i64 s.guard,litI .i64 s.var]
structure ContV where
 init:LitV
 var:Int
 guard:Int
 resets:List Int
 slopes:List SlopeV
def slopesA(l:List SlopeV):AV:=.sl 2 (l.map SlopeV.cs) none
def ContV.cs(m:ContV):List AV:=[litI .i64 m.init.kind,litB m.init.neg,limbs m.init.mag,limbs m.init.den,litS m.init.name,litI .i64 m.var,litI .i64 m.guard,rowC m.resets none,slopesA m.slopes]
structure COpV where
 op:ByteArray
 args:List Int
def COpV.cs(o:COpV):List AV:=[litS o.op,rowC o.args none]
def copsA(l:List COpV):AV:=.sl 2 (l.map COpV.cs) none
structure CrossV where
 guard:Int
 ops:List COpV
def CrossV.cs(c:CrossV):List AV:=[litI .i64 c.guard,copsA c.ops]
def eqsA(l:List Eqn):AV:=.sl 10 (l.map Eqn.cs) none
def memsA(l:List MemV):AV:=.sl 8 (l.map MemV.cs) none
def contsA(l:List ContV):AV:=.sl 9 (l.map ContV.cs) none
def crossA(l:List CrossV):AV:=.sl 2 (l.map CrossV.cs) none
structure FlatV where
 ins:List ByteArray
 names:List ByteArray
 outs:List Int
 eqs:List Eqn
 mems:List MemV
 conts:List ContV
 cross:List CrossV
 again:List Int
def FlatV.cs(f:FlatV):List AV:=[strs f.ins,strs f.names,rowC f.outs none,eqsA f.eqs,memsA f.mems,contsA f.conts,crossA f.cross,rowC f.again none]
def flatA(f:FlatV):AV:=.agg f.cs
theorem lenV_row(r:List Int)(c:Option Nat):lenV (rowC r c)=some (litI .i64 r.length):=by simp[rowC,lenV]
theorem lenV_limbs(r:List Int):lenV (limbs r)=some (litI .i64 r.length):=by simp[limbs,lenV]
theorem lenV_strs(r:List ByteArray):lenV (strs r)=some (litI .i64 r.length):=by simp[strs,lenV]
theorem lenV_eqs(r:List Eqn):lenV (eqsA r)=some (litI .i64 r.length):=by simp[eqsA,lenV]
theorem lenV_mems(r:List MemV):lenV (memsA r)=some (litI .i64 r.length):=by simp[memsA,lenV]
theorem lenV_conts(r:List ContV):lenV (contsA r)=some (litI .i64 r.length):=by simp[contsA,lenV]
theorem lenV_cross(r:List CrossV):lenV (crossA r)=some (litI .i64 r.length):=by simp[crossA,lenV]
theorem lenV_cops(r:List COpV):lenV (copsA r)=some (litI .i64 r.length):=by simp[copsA,lenV]
theorem lenV_slopes(r:List SlopeV):lenV (slopesA r)=some (litI .i64 r.length):=by simp[slopesA,lenV]
theorem iadr_row(r:List Int)(c:Option Nat)(n:Nat):iadr 1 (rowC r c) (litI .i64 n)=(r[n]?).map fun x=>.ip [litI .i64 x]:=by
 rw[rowC,iadr_sl];simp[Function.comp_def]
theorem iadr_eqs(r:List Eqn)(n:Nat):iadr 10 (eqsA r) (litI .i64 n)=(r[n]?).map fun x=>.ip x.cs:=by
 rw[eqsA,iadr_sl];simp[Function.comp_def]
theorem iadr_mems(r:List MemV)(n:Nat):iadr 8 (memsA r) (litI .i64 n)=(r[n]?).map fun x=>.ip x.cs:=by
 rw[memsA,iadr_sl];simp[Function.comp_def]
theorem iadr_conts(r:List ContV)(n:Nat):iadr 9 (contsA r) (litI .i64 n)=(r[n]?).map fun x=>.ip x.cs:=by
 rw[contsA,iadr_sl];simp[Function.comp_def]
theorem iadr_cross(r:List CrossV)(n:Nat):iadr 2 (crossA r) (litI .i64 n)=(r[n]?).map fun x=>.ip x.cs:=by
 rw[crossA,iadr_sl];simp[Function.comp_def]
theorem iadr_cops(r:List COpV)(n:Nat):iadr 2 (copsA r) (litI .i64 n)=(r[n]?).map fun x=>.ip x.cs:=by
 rw[copsA,iadr_sl];simp[Function.comp_def]
theorem iadr_slopes(r:List SlopeV)(n:Nat):iadr 2 (slopesA r) (litI .i64 n)=(r[n]?).map fun x=>.ip x.cs:=by
 rw[slopesA,iadr_sl];simp[Function.comp_def]
theorem wrap1{n:Nat}(h:n<4611686018427387904):IntKind.wrap .i64 ((n:Int)+1)=((n+1:Nat):Int):=by rw[Go.Ai.wrap_small]<;>omega
def inN(k:Nat)(x:Int):Bool:=decide (0≤x)&&decide (x<k)
def within(r:List Int)(k:Nat):Bool:=r.all (inN k)
theorem within_loop(r:List Int)(c:Option Nat)(k:Nat)(H:List AO)(hl:r.length≤1000000):∀(m n:Nat),m+n=r.length →
  loopW (codeW call mt md c43l0) [0,1,5] [(0,rowC r c),(1,litI .i64 k),(5,litI .i64 n)] H =
   some (if(r.drop n).all (inN k)=true then(EX.exit 0,[(0,rowC r c),(1,litI .i64 k),(5,litI .i64 r.length),(9,litB false)],H)else(.ret,[(4,litB false)],H))
 | 0,n,h=>by
  have hn:n=r.length:=by omega
  subst hn
  rw[if_pos (by simp)]
  refine loopW_out ?_ (by simp)
  simp -implicitDefEqProofs only[c43l0,aW,↓aP,makes,reduceLT,reduceEqDiff,reduceAdd,lenV_row,zR]
 | m+1,n,h=>by
  have hn:n<r.length:=by omega
  have hg:r[n]?=some r[n]:=zE hn
  have hlt:(n:Int)<r.length:=by omega
  have hd:r.drop n=r[n]::r.drop (n+1):=zS hn
  rw[hd,xE]
  by_cases h0:0≤r[n]
  ·have h0':¬r[n]<0:=by omega
   by_cases h1:r[n]<k
   ·have hi:inN k r[n]=true:=by simp[inN,h0,h1]
    rw[hi,zQ]
    have h1':¬r[n]≥(k:Int):=by omega
    refine loopW_round ?_ (within_loop r c k H hl m (n+1) (by omega))
    simp -implicitDefEqProofs only[c43l0,aW,↓aP,makes,reduceLT,reduceEqDiff,reduceAdd,lenV_row,iadr_row,hg,hlt,h0',h1,h1',Int.not_le.mpr h1,wrap1 (show n<4611686018427387904 by omega)]
   ·have hi:inN k r[n]=false:=by simp[inN,h1]
    rw[hi,zP,if_neg (by simp)]
    refine loopW_out ?_ (by simp)
    simp -implicitDefEqProofs only[c43l0,aW,↓aP,makes,reduceLT,reduceEqDiff,reduceAdd,lenV_row,iadr_row,hg,hlt,h0',h1,Int.not_lt.mp h1]
  ·have hi:inN k r[n]=false:=by simp[inN,h0]
   have h0':r[n]<0:=by omega
   rw[hi,zP,if_neg (by simp)]
   refine loopW_out ?_ (by simp)
   simp -implicitDefEqProofs only[c43l0,aW,↓aP,makes,reduceLT,reduceEqDiff,reduceAdd,lenV_row,iadr_row,hg,hlt,h0']
theorem within_tells(r:List Int)(c:Option Nat)(k:Nat)(hl:r.length≤1000000)(H:List AO):cw 43 [rowC r c,litI .i64 k] H=some (.ret (litB (within r k)),H):=by
 refine cw_of fn43 (c:=c43) rfl rfl rfl rfl ?_
 have L:=within_loop (call:=cw) (mt:=lookM mtl) (md:=mds) r c k H hl r.length 0 (by omega)
 rw[zJ,show((0:Nat):Int)=0 from rfl]at L
 by_cases ha:r.all (inN k)=true
 ·rw[if_pos ha]at L
  rw[show within r k=true from ha]
  simp -implicitDefEqProofs only[c43,aW,↓aP,makes,reduceLT,reduceEqDiff,reduceAdd,L]
  rfl
 ·rw[if_neg ha]at L
  rw[show within r k=false from yO.mpr ha]
  simp -implicitDefEqProofs only[c43,aW,↓aP,makes,reduceLT,reduceEqDiff,reduceAdd,L]
  rfl
theorem within_call(r:List Int)(c:Option Nat)(k:Nat)(hl:r.length≤1000000)(H:List AO)(id:Nat):callV cw mds 43 [rowC r c,litI .i64 k] H id=some (.val (litB (within r k)) none):=callV_pure rfl rfl (within_tells r c k hl []) rfl
def placeF(v:Int):Nat→List Int→Int
 | _,[]=>-1
 | n,x::r=>if x=v then n else placeF v (n+1) r
def placeI(r:List Int)(v:Int):Int:=placeF v 0 r
end Go.Proofs.Ytcgbdndkfonphaa.Ai
namespace Go.Proofs.Ytcgbdndkfonphaa.Ai
open Go Go.Ai
variable {call:CallF}{mt:MtF}{md:FuncId→Md}
def findF{α:Type}(p:α→Bool):Nat→List α→Int
 | _,[]=>-1
 | n,x::r=>bif p x then n else findF p (n+1) r
theorem findF_any{α:Type}(p:α→Bool):∀(r:List α)(n:Nat),decide (findF p n r≥0)=r.any p
 | [],n=>by simp[findF]
 | x::r,n=>by
  rw[findF,vT]
  by_cases h:p x=true
  ·rw[h];simp
  ·rw[yO.mpr h,cond_false,yP];exact findF_any p r (n+1)
theorem wr_same{f:FuncId}{args:List AV}{a:AV}{H H':List AO}{id:Nat}(hm:mds f=.ref)(h:cw f args H=some (.ret a,H'))(hp:H'.take H.length=H)(ha:below H.length frzF a=true)(hB:H.all (belowO H.length)=true):callV cw mds f args H id=some (.wr a H):=by
 unfold callV
 rw[hm]
 simp only
 rw[h]
 simp only[zD]
 rw[hp,ha,hB]
 rfl
theorem index34_loop(r:List Int)(c:Option Nat)(p:Int→Bool)(fv:AV)(H:List AO)(hp:∀x∈r,∀id,fnV cw mds fv [litI .i64 x] H id=some (.wr (litB (p x)) H))(hl:r.length≤1000000):∀(m n:Nat),m+n=r.length →
  loopW (codeW cw (lookM mtl) mds c34l0) [0,1,7,8] [(0,rowC r c),(1,fv),(7,litI .i64 r.length),(8,litI .i64 n)] H =
   some (if findF p n (r.drop n) = -1 then(EX.exit 0,[(0,rowC r c),(1,fv),(7,litI .i64 r.length),(8,litI .i64 r.length),(9,litB false)],H)else(.ret,[(4,litI .i64 (findF p n (r.drop n)))],H))
 | 0,n,h=>by
  have hn:n=r.length:=by omega
  subst hn
  rw[if_pos (by simp[findF])]
  refine loopW_out ?_ (by simp)
  simp -implicitDefEqProofs only[c34l0,aW,↓aP,makes,reduceLT,reduceEqDiff,reduceAdd,zR]
 | m+1,n,h=>by
  have hn:n<r.length:=by omega
  have hg:r[n]?=some r[n]:=zE hn
  have hlt:(n:Int)<r.length:=by omega
  have hd:r.drop n=r[n]::r.drop (n+1):=zS hn
  have hx:=fun id=>hp r[n] (zV hn) id
  rw[hd,findF]
  cases hc:p r[n]with
  | true =>
   rw[hc]at hx
   rw[cond_true,if_neg (by omega)]
   refine loopW_out ?_ (by simp)
   simp -implicitDefEqProofs only[c34l0,aW,↓aP,makes,reduceLT,reduceEqDiff,reduceAdd,iadr_row,hg,hlt,hx]
  | false =>
   rw[hc]at hx
   rw[cond_false]
   refine loopW_round ?_ (index34_loop r c p fv H hp hl m (n+1) (by omega))
   simp -implicitDefEqProofs only[c34l0,aW,↓aP,makes,reduceLT,reduceEqDiff,reduceAdd,iadr_row,hg,hlt,hx,wrap1 (show n<4611686018427387904 by omega)]
theorem index34_tells(r:List Int)(c:Option Nat)(p:Int→Bool)(fv:AV)(H:List AO)(hp:∀x∈r,∀id,fnV cw mds fv [litI .i64 x] H id=some (.wr (litB (p x)) H))(hl:r.length≤1000000) :
  cw 34 [rowC r c,fv] H=some (.ret (litI .i64 (findF p 0 r)),H):=by
 refine cw_of fn34 (c:=c34) rfl rfl rfl rfl ?_
 have L:=index34_loop r c p fv H hp hl r.length 0 (by omega)
 rw[zJ,show((0:Nat):Int)=0 from rfl]at L
 by_cases ha:findF p 0 r = -1
 ·rw[if_pos ha]at L
  rw[ha]
  simp -implicitDefEqProofs only[c34,aW,↓aP,makes,reduceLT,reduceEqDiff,reduceAdd,lenV_row,L]
  rfl
 ·rw[if_neg ha]at L
  simp -implicitDefEqProofs only[c34,aW,↓aP,makes,reduceLT,reduceEqDiff,reduceAdd,lenV_row,L]
  rfl
theorem contains38_tells(r:List Int)(c:Option Nat)(p:Int→Bool)(fv:AV)(H:List AO)(hp:∀x∈r,∀id,fnV cw mds fv [litI .i64 x] H id=some (.wr (litB (p x)) H))(hB:H.all (belowO H.length)=true)(hl:r.length≤1000000) :
  cw 38 [rowC r c,fv] H=some (.ret (litB (r.any p)),H):=by
 refine cw_of fn38 (c:=c38) rfl rfl rfl rfl ?_
 have h:∀id,callV cw mds 34 [rowC r c,fv] H id=some (.wr (litI .i64 (findF p 0 r)) H):=fun id=>wr_same rfl (index34_tells r c p fv H hp hl) (xR) rfl hB
 rw[←findF_any p r 0]
 simp -implicitDefEqProofs only[c38,aW,↓aP,makes,reduceLT,reduceEqDiff,reduceAdd,h]
 rfl
theorem contains38_call(r:List Int)(c:Option Nat)(p:Int→Bool)(fv:AV)(H:List AO)(hp:∀x∈r,∀id,fnV cw mds fv [litI .i64 x] H id=some (.wr (litB (p x)) H))(hB:H.all (belowO H.length)=true)(hl:r.length≤1000000)(id:Nat) :
  callV cw mds 38 [rowC r c,fv] H id=some (.wr (litB (r.any p)) H):=wr_same rfl (contains38_tells r c p fv H hp hB hl) xR rfl hB
theorem index81_loop(r:List SlopeV)(p:SlopeV→Bool)(fv:AV)(H:List AO)(hp:∀x∈r,∀id,fnV cw mds fv [.agg x.cs] H id=some (.wr (litB (p x)) H))(hl:r.length≤1000000):∀(m n:Nat),m+n=r.length →
  loopW (codeW cw (lookM mtl) mds c81l0) [0,1,7,8] [(0,slopesA r),(1,fv),(7,litI .i64 r.length),(8,litI .i64 n)] H =
   some (if findF p n (r.drop n) = -1 then(EX.exit 0,[(0,slopesA r),(1,fv),(7,litI .i64 r.length),(8,litI .i64 r.length),(9,litB false)],H)else(.ret,[(4,litI .i64 (findF p n (r.drop n)))],H))
 | 0,n,h=>by
  have hn:n=r.length:=by omega
  subst hn
  rw[if_pos (by simp[findF])]
  refine loopW_out ?_ (by simp)
  simp -implicitDefEqProofs only[c81l0,aW,↓aP,makes,reduceLT,reduceEqDiff,reduceAdd,zR]
 | m+1,n,h=>by
  have hn:n<r.length:=by omega
  have hg:r[n]?=some r[n]:=zE hn
  have hlt:(n:Int)<r.length:=by omega
  have hd:r.drop n=r[n]::r.drop (n+1):=zS hn
  have hx:=fun id=>hp r[n] (zV hn) id
  rw[hd,findF]
  cases hc:p r[n]with
  | true =>
   rw[hc]at hx
   rw[cond_true,if_neg (by omega)]
   refine loopW_out ?_ (by simp)
   simp -implicitDefEqProofs only[c81l0,aW,↓aP,makes,reduceLT,reduceEqDiff,reduceAdd,iadr_slopes,load_ipA (show(SlopeV.cs r[n]).length=2 from rfl),hg,hlt,hx]
  | false =>
   rw[hc]at hx
   rw[cond_false]
   refine loopW_round ?_ (index81_loop r p fv H hp hl m (n+1) (by omega))
   simp -implicitDefEqProofs only[c81l0,aW,↓aP,makes,reduceLT,reduceEqDiff,reduceAdd,iadr_slopes,load_ipA (show(SlopeV.cs r[n]).length=2 from rfl),hg,hlt,hx,wrap1 (show n<4611686018427387904 by omega)]
theorem index81_tells(r:List SlopeV)(p:SlopeV→Bool)(fv:AV)(H:List AO)(hp:∀x∈r,∀id,fnV cw mds fv [.agg x.cs] H id=some (.wr (litB (p x)) H))(hl:r.length≤1000000) :
  cw 81 [slopesA r,fv] H=some (.ret (litI .i64 (findF p 0 r)),H):=by
 refine cw_of fn81 (c:=c81) rfl rfl rfl rfl ?_
 have L:=index81_loop r p fv H hp hl r.length 0 (by omega)
 rw[zJ,show((0:Nat):Int)=0 from rfl]at L
 by_cases ha:findF p 0 r = -1
 ·rw[if_pos ha]at L
  rw[ha]
  simp -implicitDefEqProofs only[c81,aW,↓aP,makes,reduceLT,reduceEqDiff,reduceAdd,lenV_slopes,L]
  rfl
 ·rw[if_neg ha]at L
  simp -implicitDefEqProofs only[c81,aW,↓aP,makes,reduceLT,reduceEqDiff,reduceAdd,lenV_slopes,L]
  rfl
theorem contains61_tells(r:List SlopeV)(p:SlopeV→Bool)(fv:AV)(H:List AO)(hp:∀x∈r,∀id,fnV cw mds fv [.agg x.cs] H id=some (.wr (litB (p x)) H))(hB:H.all (belowO H.length)=true)(hl:r.length≤1000000) :
  cw 61 [slopesA r,fv] H=some (.ret (litB (r.any p)),H):=by
 refine cw_of fn61 (c:=c61) rfl rfl rfl rfl ?_
 have h:∀id,callV cw mds 81 [slopesA r,fv] H id=some (.wr (litI .i64 (findF p 0 r)) H):=fun id=>wr_same rfl (index81_tells r p fv H hp hl) (xR) rfl hB
 rw[←findF_any p r 0]
 simp -implicitDefEqProofs only[c61,aW,↓aP,makes,reduceLT,reduceEqDiff,reduceAdd,h]
 rfl
theorem contains61_call(r:List SlopeV)(p:SlopeV→Bool)(fv:AV)(H:List AO)(hp:∀x∈r,∀id,fnV cw mds fv [.agg x.cs] H id=some (.wr (litB (p x)) H))(hB:H.all (belowO H.length)=true)(hl:r.length≤1000000)(id:Nat) :
  callV cw mds 61 [slopesA r,fv] H id=some (.wr (litB (r.any p)) H):=wr_same rfl (contains61_tells r p fv H hp hB hl) xR rfl hB
theorem index82_loop(r:List MemV)(p:MemV→Bool)(fv:AV)(H:List AO)(hp:∀x∈r,∀id,fnV cw mds fv [.agg x.cs] H id=some (.wr (litB (p x)) H))(hl:r.length≤1000000):∀(m n:Nat),m+n=r.length →
  loopW (codeW cw (lookM mtl) mds c82l0) [0,1,7,8] [(0,memsA r),(1,fv),(7,litI .i64 r.length),(8,litI .i64 n)] H =
   some (if findF p n (r.drop n) = -1 then(EX.exit 0,[(0,memsA r),(1,fv),(7,litI .i64 r.length),(8,litI .i64 r.length),(9,litB false)],H)else(.ret,[(4,litI .i64 (findF p n (r.drop n)))],H))
 | 0,n,h=>by
  have hn:n=r.length:=by omega
  subst hn
  rw[if_pos (by simp[findF])]
  refine loopW_out ?_ (by simp)
  simp -implicitDefEqProofs only[c82l0,aW,↓aP,makes,reduceLT,reduceEqDiff,reduceAdd,zR]
 | m+1,n,h=>by
  have hn:n<r.length:=by omega
  have hg:r[n]?=some r[n]:=zE hn
  have hlt:(n:Int)<r.length:=by omega
  have hd:r.drop n=r[n]::r.drop (n+1):=zS hn
  have hx:=fun id=>hp r[n] (zV hn) id
  rw[hd,findF]
  cases hc:p r[n]with
  | true =>
   rw[hc]at hx
   rw[cond_true,if_neg (by omega)]
   refine loopW_out ?_ (by simp)
   simp -implicitDefEqProofs only[c82l0,aW,↓aP,makes,reduceLT,reduceEqDiff,reduceAdd,iadr_mems,load_ipA (show(MemV.cs r[n]).length=8 from rfl),hg,hlt,hx]
  | false =>
   rw[hc]at hx
   rw[cond_false]
   refine loopW_round ?_ (index82_loop r p fv H hp hl m (n+1) (by omega))
   simp -implicitDefEqProofs only[c82l0,aW,↓aP,makes,reduceLT,reduceEqDiff,reduceAdd,iadr_mems,load_ipA (show(MemV.cs r[n]).length=8 from rfl),hg,hlt,hx,wrap1 (show n<4611686018427387904 by omega)]
theorem index82_tells(r:List MemV)(p:MemV→Bool)(fv:AV)(H:List AO)(hp:∀x∈r,∀id,fnV cw mds fv [.agg x.cs] H id=some (.wr (litB (p x)) H))(hl:r.length≤1000000) :
  cw 82 [memsA r,fv] H=some (.ret (litI .i64 (findF p 0 r)),H):=by
 refine cw_of fn82 (c:=c82) rfl rfl rfl rfl ?_
 have L:=index82_loop r p fv H hp hl r.length 0 (by omega)
 rw[zJ,show((0:Nat):Int)=0 from rfl]at L
 by_cases ha:findF p 0 r = -1
 ·rw[if_pos ha]at L
  rw[ha]
  simp -implicitDefEqProofs only[c82,aW,↓aP,makes,reduceLT,reduceEqDiff,reduceAdd,lenV_mems,L]
  rfl
 ·rw[if_neg ha]at L
  simp -implicitDefEqProofs only[c82,aW,↓aP,makes,reduceLT,reduceEqDiff,reduceAdd,lenV_mems,L]
  rfl
theorem contains64_tells(r:List MemV)(p:MemV→Bool)(fv:AV)(H:List AO)(hp:∀x∈r,∀id,fnV cw mds fv [.agg x.cs] H id=some (.wr (litB (p x)) H))(hB:H.all (belowO H.length)=true)(hl:r.length≤1000000) :
  cw 64 [memsA r,fv] H=some (.ret (litB (r.any p)),H):=by
 refine cw_of fn64 (c:=c64) rfl rfl rfl rfl ?_
 have h:∀id,callV cw mds 82 [memsA r,fv] H id=some (.wr (litI .i64 (findF p 0 r)) H):=fun id=>wr_same rfl (index82_tells r p fv H hp hl) (xR) rfl hB
 rw[←findF_any p r 0]
 simp -implicitDefEqProofs only[c64,aW,↓aP,makes,reduceLT,reduceEqDiff,reduceAdd,h]
 rfl
theorem contains64_call(r:List MemV)(p:MemV→Bool)(fv:AV)(H:List AO)(hp:∀x∈r,∀id,fnV cw mds fv [.agg x.cs] H id=some (.wr (litB (p x)) H))(hB:H.all (belowO H.length)=true)(hl:r.length≤1000000)(id:Nat) :
  callV cw mds 64 [memsA r,fv] H id=some (.wr (litB (r.any p)) H):=wr_same rfl (contains64_tells r p fv H hp hB hl) xR rfl hB
theorem index83_loop(r:List ContV)(p:ContV→Bool)(fv:AV)(H:List AO)(hp:∀x∈r,∀id,fnV cw mds fv [.agg x.cs] H id=some (.wr (litB (p x)) H))(hl:r.length≤1000000):∀(m n:Nat),m+n=r.length →
  loopW (codeW cw (lookM mtl) mds c83l0) [0,1,7,8] [(0,contsA r),(1,fv),(7,litI .i64 r.length),(8,litI .i64 n)] H =
   some (if findF p n (r.drop n) = -1 then(EX.exit 0,[(0,contsA r),(1,fv),(7,litI .i64 r.length),(8,litI .i64 r.length),(9,litB false)],H)else(.ret,[(4,litI .i64 (findF p n (r.drop n)))],H))
 | 0,n,h=>by
  have hn:n=r.length:=by omega
  subst hn
  rw[if_pos (by simp[findF])]
  refine loopW_out ?_ (by simp)
  simp -implicitDefEqProofs only[c83l0,aW,↓aP,makes,reduceLT,reduceEqDiff,reduceAdd,zR]
 | m+1,n,h=>by
  have hn:n<r.length:=by omega
  have hg:r[n]?=some r[n]:=zE hn
  have hlt:(n:Int)<r.length:=by omega
  have hd:r.drop n=r[n]::r.drop (n+1):=zS hn
  have hx:=fun id=>hp r[n] (zV hn) id
  rw[hd,findF]
  cases hc:p r[n]with
  | true =>
   rw[hc]at hx
   rw[cond_true,if_neg (by omega)]
   refine loopW_out ?_ (by simp)
   simp -implicitDefEqProofs only[c83l0,aW,↓aP,makes,reduceLT,reduceEqDiff,reduceAdd,iadr_conts,load_ipA (show(ContV.cs r[n]).length=9 from rfl),hg,hlt,hx]
  | false =>
   rw[hc]at hx
   rw[cond_false]
   refine loopW_round ?_ (index83_loop r p fv H hp hl m (n+1) (by omega))
   simp -implicitDefEqProofs only[c83l0,aW,↓aP,makes,reduceLT,reduceEqDiff,reduceAdd,iadr_conts,load_ipA (show(ContV.cs r[n]).length=9 from rfl),hg,hlt,hx,wrap1 (show n<4611686018427387904 by omega)]
theorem index83_tells(r:List ContV)(p:ContV→Bool)(fv:AV)(H:List AO)(hp:∀x∈r,∀id,fnV cw mds fv [.agg x.cs] H id=some (.wr (litB (p x)) H))(hl:r.length≤1000000) :
  cw 83 [contsA r,fv] H=some (.ret (litI .i64 (findF p 0 r)),H):=by
 refine cw_of fn83 (c:=c83) rfl rfl rfl rfl ?_
 have L:=index83_loop r p fv H hp hl r.length 0 (by omega)
 rw[zJ,show((0:Nat):Int)=0 from rfl]at L
 by_cases ha:findF p 0 r = -1
 ·rw[if_pos ha]at L
  rw[ha]
  simp -implicitDefEqProofs only[c83,aW,↓aP,makes,reduceLT,reduceEqDiff,reduceAdd,lenV_conts,L]
  rfl
 ·rw[if_neg ha]at L
  simp -implicitDefEqProofs only[c83,aW,↓aP,makes,reduceLT,reduceEqDiff,reduceAdd,lenV_conts,L]
  rfl
theorem contains65_tells(r:List ContV)(p:ContV→Bool)(fv:AV)(H:List AO)(hp:∀x∈r,∀id,fnV cw mds fv [.agg x.cs] H id=some (.wr (litB (p x)) H))(hB:H.all (belowO H.length)=true)(hl:r.length≤1000000) :
  cw 65 [contsA r,fv] H=some (.ret (litB (r.any p)),H):=by
 refine cw_of fn65 (c:=c65) rfl rfl rfl rfl ?_
 have h:∀id,callV cw mds 83 [contsA r,fv] H id=some (.wr (litI .i64 (findF p 0 r)) H):=fun id=>wr_same rfl (index83_tells r p fv H hp hl) (xR) rfl hB
 rw[←findF_any p r 0]
 simp -implicitDefEqProofs only[c65,aW,↓aP,makes,reduceLT,reduceEqDiff,reduceAdd,h]
 rfl
theorem contains65_call(r:List ContV)(p:ContV→Bool)(fv:AV)(H:List AO)(hp:∀x∈r,∀id,fnV cw mds fv [.agg x.cs] H id=some (.wr (litB (p x)) H))(hB:H.all (belowO H.length)=true)(hl:r.length≤1000000)(id:Nat) :
  callV cw mds 65 [contsA r,fv] H id=some (.wr (litB (r.any p)) H):=wr_same rfl (contains65_tells r p fv H hp hB hl) xR rfl hB
theorem index84_loop(r:List CrossV)(p:CrossV→Bool)(fv:AV)(H:List AO)(hp:∀x∈r,∀id,fnV cw mds fv [.agg x.cs] H id=some (.wr (litB (p x)) H))(hl:r.length≤1000000):∀(m n:Nat),m+n=r.length →
  loopW (codeW cw (lookM mtl) mds c84l0) [0,1,7,8] [(0,crossA r),(1,fv),(7,litI .i64 r.length),(8,litI .i64 n)] H =
   some (if findF p n (r.drop n) = -1 then(EX.exit 0,[(0,crossA r),(1,fv),(7,litI .i64 r.length),(8,litI .i64 r.length),(9,litB false)],H)else(.ret,[(4,litI .i64 (findF p n (r.drop n)))],H))
 | 0,n,h=>by
  have hn:n=r.length:=by omega
  subst hn
  rw[if_pos (by simp[findF])]
  refine loopW_out ?_ (by simp)
  simp -implicitDefEqProofs only[c84l0,aW,↓aP,makes,reduceLT,reduceEqDiff,reduceAdd,zR]
 | m+1,n,h=>by
  have hn:n<r.length:=by omega
  have hg:r[n]?=some r[n]:=zE hn
  have hlt:(n:Int)<r.length:=by omega
  have hd:r.drop n=r[n]::r.drop (n+1):=zS hn
  have hx:=fun id=>hp r[n] (zV hn) id
  rw[hd,findF]
  cases hc:p r[n]with
  | true =>
   rw[hc]at hx
   rw[cond_true,if_neg (by omega)]
   refine loopW_out ?_ (by simp)
   simp -implicitDefEqProofs only[c84l0,aW,↓aP,makes,reduceLT,reduceEqDiff,reduceAdd,iadr_cross,load_ipA (show(CrossV.cs r[n]).length=2 from rfl),hg,hlt,hx]
  | false =>
   rw[hc]at hx
   rw[cond_false]
   refine loopW_round ?_ (index84_loop r p fv H hp hl m (n+1) (by omega))
   simp -implicitDefEqProofs only[c84l0,aW,↓aP,makes,reduceLT,reduceEqDiff,reduceAdd,iadr_cross,load_ipA (show(CrossV.cs r[n]).length=2 from rfl),hg,hlt,hx,wrap1 (show n<4611686018427387904 by omega)]
theorem index84_tells(r:List CrossV)(p:CrossV→Bool)(fv:AV)(H:List AO)(hp:∀x∈r,∀id,fnV cw mds fv [.agg x.cs] H id=some (.wr (litB (p x)) H))(hl:r.length≤1000000) :
  cw 84 [crossA r,fv] H=some (.ret (litI .i64 (findF p 0 r)),H):=by
 refine cw_of fn84 (c:=c84) rfl rfl rfl rfl ?_
 have L:=index84_loop r p fv H hp hl r.length 0 (by omega)
 rw[zJ,show((0:Nat):Int)=0 from rfl]at L
 by_cases ha:findF p 0 r = -1
 ·rw[if_pos ha]at L
  rw[ha]
  simp -implicitDefEqProofs only[c84,aW,↓aP,makes,reduceLT,reduceEqDiff,reduceAdd,lenV_cross,L]
  rfl
 ·rw[if_neg ha]at L
  simp -implicitDefEqProofs only[c84,aW,↓aP,makes,reduceLT,reduceEqDiff,reduceAdd,lenV_cross,L]
  rfl
theorem contains66_tells(r:List CrossV)(p:CrossV→Bool)(fv:AV)(H:List AO)(hp:∀x∈r,∀id,fnV cw mds fv [.agg x.cs] H id=some (.wr (litB (p x)) H))(hB:H.all (belowO H.length)=true)(hl:r.length≤1000000) :
  cw 66 [crossA r,fv] H=some (.ret (litB (r.any p)),H):=by
 refine cw_of fn66 (c:=c66) rfl rfl rfl rfl ?_
 have h:∀id,callV cw mds 84 [crossA r,fv] H id=some (.wr (litI .i64 (findF p 0 r)) H):=fun id=>wr_same rfl (index84_tells r p fv H hp hl) (xR) rfl hB
 rw[←findF_any p r 0]
 simp -implicitDefEqProofs only[c66,aW,↓aP,makes,reduceLT,reduceEqDiff,reduceAdd,h]
 rfl
theorem contains66_call(r:List CrossV)(p:CrossV→Bool)(fv:AV)(H:List AO)(hp:∀x∈r,∀id,fnV cw mds fv [.agg x.cs] H id=some (.wr (litB (p x)) H))(hB:H.all (belowO H.length)=true)(hl:r.length≤1000000)(id:Nat) :
  callV cw mds 66 [crossA r,fv] H id=some (.wr (litB (r.any p)) H):=wr_same rfl (contains66_tells r p fv H hp hB hl) xR rfl hB
end Go.Proofs.Ytcgbdndkfonphaa.Ai
namespace Go.Proofs.Ytcgbdndkfonphaa.Ai
open Go Go.Ai
variable {call:CallF}{mt:MtF}{md:FuncId→Md}
theorem core_mkf{H:List AO}{id:Nat}{fr:Fr}(f:Fn)(a b:List X):core call mt md H id (.mkf f a b) fr=some (.val (.fn f (a.map (ev fr)) (b.map (ev fr))) none):=rfl
theorem placesf_tells(x:Int)(n:Nat)(b:Nat)(H:List AO)(hb:H[b]?=some (.row [litI .i64 n] 3)):cw 91 [litI .i64 x,.ptr b 0] H=some (.ret (litB (!inN n x)),H):=by
 refine cw_of fn91 (c:=c91) rfl rfl rfl rfl ?_
 have hl:=load_ptr0 hb
 by_cases h0:x<0
 ·rw[show inN n x=false by simp[inN];omega]
  simp -implicitDefEqProofs only[c91,aW,↓aP,makes,reduceLT,reduceEqDiff,reduceAdd,h0]
  rfl
 ·by_cases h1:x≥(n:Int)
  ·rw[show inN n x=false by simp[inN];omega]
   simp -implicitDefEqProofs only[c91,aW,↓aP,makes,reduceLT,reduceEqDiff,reduceAdd,h0,hl,h1]
   rfl
  ·rw[show inN n x=true by simp[inN];omega]
   simp -implicitDefEqProofs only[c91,aW,↓aP,makes,reduceLT,reduceEqDiff,reduceAdd,h0,hl,h1]
   rfl
theorem not_all_not{α:Type}(p:α→Bool):∀r:List α,(!(r.any fun x=>!p x))=r.all p
 | []=>rfl
 | x::r=>by rw[vT,xE,Bool.not_or,Bool.not_not,not_all_not p r]
theorem places_tells(r:List Int)(c:Option Nat)(n:Nat)(hl:r.length≤1000000):∃H',cw 80 [litI .i64 n,rowC r c] []=some (.ret (litB (within r n)),H'):=by
 refine⟨[.row [litI .i64 n] 3],cw_of fn80 (c:=c80) rfl rfl rfl rfl ?_⟩
 have hb:∀id t,boxV id 1 (litI .i64 n) t=some (.val (.ptr id 0) (some (.row [litI .i64 n] t))):=fun _ _=>rfl
 have h:∀id,callV cw mds 38 [rowC r c,.fn (.func 91) [] [.ptr 0 0]] [.row [litI .i64 n] 3] id=some (.wr (litB (r.any fun x=>!inN n x)) [.row [litI .i64 n] 3]):=fun id =>
  contains38_call r c (fun x=>!inN n x) (.fn (.func 91) [] [.ptr 0 0]) [.row [litI .i64 n] 3] (fun x _ id=>(wr_same rfl (placesf_tells x n 0 [.row [litI .i64 n] 3] rfl) xR rfl rfl:callV cw mds 91 [litI .i64 x,.ptr 0 0] [.row [litI .i64 n] 3] id=_)) rfl hl id
 rw[show within r n=!(r.any fun x=>!inN n x)from(not_all_not (inN n) r).symm]
 simp -implicitDefEqProofs only[c80,aW,↓aP,makes,reduceLT,reduceEqDiff,reduceAdd,core_box,hb,core_mkf,zA,h]
 rfl
theorem places_call(r:List Int)(c:Option Nat)(n:Nat)(hl:r.length≤1000000)(H:List AO)(id:Nat):callV cw mds 80 [litI .i64 n,rowC r c] H id=some (.val (litB (within r n)) none):=by
 obtain⟨H',h⟩:=places_tells r c n hl
 exact callV_pure rfl rfl h rfl
def chkC(f:FlatV)(n:Nat):List AV:=[strs f.ins,strs f.names,rowC f.outs none,eqsA f.eqs,memsA f.mems,contsA f.conts,crossA f.cross,rowC f.again none,litI .i64 n]
theorem vars_tells(f:FlatV)(n:Nat)(r:List Int)(c:Option Nat)(hl:r.length≤1000000):∃H',cw 57 [.agg (chkC f n),rowC r c] []=some (.ret (litB (within r n)),H'):=by
 refine⟨[.row (chkC f n) 106],cw_of fn57 (c:=c57) rfl rfl rfl rfl ?_⟩
 have hb:∀id t,boxV id 9 (.agg (chkC f n)) t=some (.val (.ptr id 0) (some (.row (chkC f n) t))):=fun _ _=>boxV_agg rfl rfl
 have hl8:Ai.load [.row (chkC f n) 106] none (.ptr 0 8)=some (litI .i64 n):=rfl
 have h:=places_call r c n hl
 simp -implicitDefEqProofs only[c57,aW,↓aP,makes,reduceLT,reduceEqDiff,reduceAdd,core_box,hb,zA,fadr_ptr,hl8,h]
 rfl
theorem vars_call(f:FlatV)(n:Nat)(r:List Int)(c:Option Nat)(hl:r.length≤1000000)(H:List AO)(id:Nat):callV cw mds 57 [.agg (chkC f n),rowC r c] H id=some (.val (litB (within r n)) none):=by
 obtain⟨H',h⟩:=vars_tells f n r c hl
 exact callV_pureA rfl rfl h rfl
theorem guard_tells(f:FlatV)(n:Nat)(x:Int):∃H',cw 58 [.agg (chkC f n),litI .i64 x] []=some (.ret (litB (decide (x<n))),H'):=by
 refine⟨[.row (chkC f n) 106],cw_of fn58 (c:=c58) rfl rfl rfl rfl ?_⟩
 have hb:∀id t,boxV id 9 (.agg (chkC f n)) t=some (.val (.ptr id 0) (some (.row (chkC f n) t))):=fun _ _=>boxV_agg rfl rfl
 have hl8:Ai.load [.row (chkC f n) 106] none (.ptr 0 8)=some (litI .i64 n):=rfl
 simp -implicitDefEqProofs only[c58,aW,↓aP,makes,reduceLT,reduceEqDiff,reduceAdd,core_box,hb,zA,fadr_ptr,hl8]
 rfl
theorem guard_call(f:FlatV)(n:Nat)(x:Int)(H:List AO)(id:Nat):callV cw mds 58 [.agg (chkC f n),litI .i64 x] H id=some (.val (litB (decide (x<n))) none):=by
 obtain⟨H',h⟩:=guard_tells f n x
 exact callV_pureA rfl rfl h rfl
end Go.Proofs.Ytcgbdndkfonphaa.Ai
namespace Go.Proofs.Ytcgbdndkfonphaa.Ai.Ord
open Go Go.Ai Go.Proofs.Ytcgbdndkfonphaa.Ai
section
variable {call:CallF}{mt:MtF}{md:FuncId→Md}
variable {cs:Nat→Option Nat}{cc:Option Nat}
def gX(cs:Nat→Option Nat)(cc:Option Nat)(g:List (List Int)):AV:=.sl 1 (g.mapIdx fun i r=>[rowC r (cs i)]) cc
theorem lenV_gX(g:List (List Int)):lenV (gX cs cc g)=some (litI .i64 g.length):=by simp[gX,lenV]
theorem iadr_gX(g:List (List Int))(n:Nat):iadr 1 (gX cs cc g) (litI .i64 n)=(g[n]?).map fun r=>.ip [rowC r (cs n)]:=by
 rw[gX,iadr_sl];simp[Function.comp_def]
def inG(g:List (List Int))(k:Int):Bool:=decide (0≤k)&&decide (k<g.length)
def needG(g:List (List Int))(row:List Int):List Int:=compI' (sortI (row.filter (inG g)))
theorem mem_sortI(y:Int)(l:List Int):y∈sortI l↔y∈l:=(sortI_perm l).mem_iff
theorem mem_compI(z:Int):∀l:List Int,z∈compI' l↔z∈l
 | []=>Iff.rfl
 | [x]=>Iff.rfl
 | x::y::r=>by
  have ih:=mem_compI z (y::r)
  simp only[compI']
  by_cases h:x=y
  ·subst h
   rw[beq_self_eq_true,cond_true,ih]
   simp
  ·have:(x==y)=false:=by simpa using h
   rw[this,cond_false,zO,ih,zO (a:=z) (b:=x)]
def need(g:List (List Int))(k:Nat):List Int:=match g[k]? with
 | some row=>needG g row
 | none=>[]
theorem mem_need{g:List (List Int)}{k:Nat}{row:List Int}(h:g[k]?=some row)(z:Int):z∈need g k↔z∈row∧0≤z∧z<g.length:=by
 unfold need
 rw[h]
 unfold needG
 simp only[mem_compI,mem_sortI,xL,inG,zL,decide_eq_true_eq]
def cellsB(l:List Bool):List AV:=l.map litB
theorem cellsI_get(l:List Int)(n:Nat):(cellsI l)[n]?=(l[n]?).map (litI .i64):=by simp[cellsI]
def fewG(g:List (List Int)):Bool:=decide (g.length≤30)&&g.all fun x=>decide (x.length≤60)
theorem need_rng{g:List (List Int)}:∀k z,z∈need g k→0≤z∧z<g.length:=by
 intro k z h
 cases hg:g[k]? with
 | none=>unfold need at h;rw[hg]at h;cases h
 | some row=>exact((mem_need hg z).1 h).2
end
section
variable {call:CallF}{mt:MtF}{md:FuncId→Md}
variable {cs:Nat→Option Nat}{cc:Option Nat}
theorem getI{l:List Int}{n:Nat}(h:n<l.length):l[n]?=some (l.getD n 0):=by
 rw[zF,zE h];rfl
theorem cells_whole(l:List Int):(cellsI l).all whole=true:=by
 rw[yD];intro a ha
 obtain⟨b,_,rfl⟩:=zW.1 ha;rfl
theorem frz_ints{H:List AO}{p k n:Nat}{l:List Int}{z:List AV}{c:Option Nat}{t:TypeId}(h:H[p]?=some (.row (cellsI l++z) t))(hz:z.all whole=true)(hn:n=l.length):frz H (k+2) (.own p 0 n 1 c)=some (rowC l c,[p]):=by
 subst hn
 rw[frz_own h (by simp[cellsI]) (by rw[List.all_append,cells_whole,hz];rfl)]
 rw[vD (by simp[cellsI])]
 simp[rowC,cellsI,Function.comp_def]
def swapL(l:List Int)(i j:Nat):List Int:=(l.set i (l.getD j 0)).set j (l.getD i 0)
theorem swapL_len(l:List Int)(i j:Nat):(swapL l i j).length=l.length:=by simp[swapL]
theorem cellsZ_get{l:List Int}{z:List AV}{n:Nat}(h:n<l.length):(cellsI l++z)[n]?=some (litI .i64 (l.getD n 0)):=by
 rw[yC (by simpa [cellsI]using h),cellsI_get,getI h];rfl
section
variable {H:List AO}{q p:Nat}{l:List Int}{z:List AV}{d:List Obj1}{id:Nat}
end
def downL:Nat→List Int→Nat→Nat→List Int
 | 0,l,_,_=>l
 | k+1,l,i,n=>if n≤2*i+1 then l else
  if l.getD (if 2*i+2<n∧l.getD (2*i+2) 0<l.getD (2*i+1) 0 then 2*i+2 else 2*i+1) 0<l.getD i 0
  then downL k (swapL l i (if 2*i+2<n∧l.getD (2*i+2) 0<l.getD (2*i+1) 0 then 2*i+2 else 2*i+1)) (if 2*i+2<n∧l.getD (2*i+2) 0<l.getD (2*i+1) 0 then 2*i+2 else 2*i+1) n
  else l
theorem downL_len:∀(k:Nat)(l:List Int)(i n:Nat),(downL k l i n).length=l.length
 | 0,_,_,_=>rfl
 | k+1,l,i,n=>by
  rw[downL]
  repeat' split
  all_goals first
   | rfl
   | rw[downL_len,swapL_len]
end
section
variable {call:CallF}{mt:MtF}{md:FuncId→Md}
variable {cs:Nat→Option Nat}{cc:Option Nat}
section
variable {H:List AO}{q p:Nat}{l:List Int}{z:List AV}{d:List Obj1}{id:Nat}
def upL:Nat→List Int→Nat→List Int
 | 0,l,_=>l
 | k+1,l,j=>if j=0 then l else if l.getD j 0<l.getD ((j-1) / 2) 0 then upL k (swapL l ((j-1) / 2) j) ((j-1) / 2)else l
theorem upL_len:∀(k:Nat)(l:List Int)(j:Nat),(upL k l j).length=l.length
 | 0,_,_=>rfl
 | k+1,l,j=>by
  rw[upL]
  repeat' split
  all_goals first
   | rfl
   | rw[upL_len,swapL_len]
end
def popL(l:List Int):List Int:=downL (l.length-1) (swapL l 0 (l.length-1)) 0 (l.length-1)
theorem popL_len(l:List Int):(popL l).length=l.length:=by unfold popL;rw[downL_len,swapL_len]
def pushL(l:List Int)(x:Int):List Int:=upL (l.length+1) (l++[x]) l.length
theorem pushL_len(l:List Int)(x:Int):(pushL l x).length=l.length+1:=by unfold pushL;rw[upL_len];simp
section
variable {H:List AO}{q p:Nat}{l:List Int}{z:List AV}{d:List Obj1}{id:Nat}
theorem split_last{l:List Int}{n:Nat}(h:l.length=n+1):l=l.take n++[l.getD n 0]:=by
 have:l.drop n=[l.getD n 0]:=by
  rw[zS (by omega),List.drop_eq_nil_of_le (by omega),zF,zE (by omega)];rfl
 rw[←this,uQ]
end
end
section
variable {call:CallF}{mt:MtF}{md:FuncId→Md}
variable {cs:Nat→Option Nat}{cc:Option Nat}
def Sl(A:AV)(l:List Int)(o:List Obj1):Prop :=
 (A=.sl 0 [] (some 0)∧l=[]∧o=[])∨∃p z,z.all whole=true∧A=.own p 0 l.length 1 none∧o=[(p,cellsI l++z,3)]
theorem Sl.nil:Sl (.sl 0 [] (some 0)) [] []:=.inl ⟨rfl,rfl,rfl⟩
theorem Sl.own(p:Nat)(l:List Int):Sl (.own p 0 l.length 1 none) l [(p,cellsI l,3)]:=.inr ⟨p,[],rfl,rfl,by simp⟩
theorem Sl.cellA{A:AV}{l:List Int}{o:List Obj1}(h:Sl A l o):Ai.cellA A=true∧cellsOf A=[A]:=by
 rcases h with⟨rfl,_⟩|⟨p,z,_,rfl,_⟩<;>exact⟨rfl,rfl⟩
theorem Sl.lenV{A:AV}{l:List Int}{o:List Obj1}(h:Sl A l o):Ai.lenV A=some (litI .i64 l.length):=by
 rcases h with⟨rfl,rfl,_⟩|⟨p,z,_,rfl,_⟩<;>rfl
abbrev US:=List (AV×List Int×List Obj1)
def US.ok(us:US):Prop:=∀x∈us,Sl x.1 x.2.1 x.2.2
def US.objs(us:US):List Obj1:=us.flatMap (·.2.2)
def US.ints(us:US):List (List Int):=us.map (·.2.1)
def US.cells(us:US):List AV:=us.map (·.1)
def noU:AV×List Int×List Obj1:=(.any,[],[])
theorem US.focus:∀ {us:US}{k:Nat}{x:AV×List Int×List Obj1},us[k]?=some x→us.objs.Perm (x.2.2++US.objs (us.set k noU))
 | [],k,x,h=>by simp at h
 | y::us,0,x,h=>by
  simp only[wH,sI]at h;subst h
  simp[US.objs,noU]
 | y::us,k+1,x,h=>by
  simp only[wI]at h
  have ih:=US.focus h
  simp only[US.objs,xG,List.set_cons_succ]at ih ⊢
  refine(List.Perm.append_left _ ih).trans ?_
  rw[←zU,←zU]
  exact List.Perm.append_right _ uF
theorem US.refocus{us:US}{k:Nat}(x:AV×List Int×List Obj1)(hk:k<us.length):(US.objs (us.set k x)).Perm (x.2.2++US.objs (us.set k noU)):=by
 have:=US.focus (us:=us.set k x) (k:=k) (x:=x) (by rw[yK hk])
 rw[wG]at this
 exact this
theorem US.ok_set{us:US}(h:us.ok){k:Nat}{x:AV×List Int×List Obj1}(hx:Sl x.1 x.2.1 x.2.2):US.ok (us.set k x):=by
 intro y hy
 rcases tB hy with hy|rfl
 ·exact h y hy
 ·exact hx
def addU(us:List (List Int))(i:Int):List Int→List (List Int)
 | []=>us
 | k::r=>addU (us.set k.toNat (us.getD k.toNat []++[i])) i r
theorem addU_len(i:Int):∀(r:List Int)(us:List (List Int)),(addU us i r).length=us.length
 | [],_=>rfl
 | k::r,us=>by rw[addU,addU_len];simp
theorem load_of{H:List AO}{r off:Nat}{cs:List AV}{t:TypeId}{a:AV}(h:H[r]?=some (.row cs t))(ha:cs[off]?=some a):Ai.load H none (.ptr r off)=some a:=by rw[load_ptr h,ha]
end
section
variable {call:CallF}{mt:MtF}{md:FuncId→Md}
variable {cs:Nat→Option Nat}{cc:Option Nat}
def build(g:List (List Int)):Nat→Nat→List (List Int)×List Int×List Int→List (List Int)×List Int×List Int
 | 0,_,s=>s
 | m+1,n,s=>build g m (n+1) (addU s.1 n (need g n),s.2.1.set n (need g n).length,if need g n=[]then s.2.2++[(n:Int)]else s.2.2)
end
section
variable {call:CallF}{mt:MtF}{md:FuncId→Md}
variable {cs:Nat→Option Nat}{cc:Option Nat}
theorem swapL_perm(l:List Int)(i j:Nat)(hi:i<l.length)(hj:j<l.length):(swapL l i j).Perm l:=by
 unfold swapL
 rw[zF,zF,zE hi,zE hj]
 simp only[wD]
 exact List.set_set_perm hi hj
theorem downL_perm:∀(k:Nat)(l:List Int)(i n:Nat),n≤l.length→i<l.length→(downL k l i n).Perm l
 | 0,l,_,_,_,_=>List.Perm.refl _
 | k+1,l,i,n,hn,hi=>by
  rw[downL]
  by_cases hc:n≤2*i+1
  ·rw[if_pos hc]
  ·rw[if_neg hc]
   generalize hj:(if 2*i+2<n∧l.getD (2*i+2) 0<l.getD (2*i+1) 0 then 2*i+2 else 2*i+1)=j
   have hjn:j<n:=by rw[←hj];split<;>omega
   by_cases hs:l.getD j 0<l.getD i 0
   ·rw[if_pos hs]
    exact(downL_perm k _ j n (by rw[swapL_len];exact hn) (by rw[swapL_len];omega)).trans (swapL_perm l i j hi (by omega))
   ·rw[if_neg hs]
theorem upL_perm:∀(k:Nat)(l:List Int)(j:Nat),j<l.length→(upL k l j).Perm l
 | 0,l,_,_=>List.Perm.refl _
 | k+1,l,j,hj=>by
  rw[upL]
  by_cases h0:j=0
  ·rw[if_pos h0]
  ·rw[if_neg h0]
   by_cases hs:l.getD j 0<l.getD ((j-1) / 2) 0
   ·rw[if_pos hs]
    exact(upL_perm k _ _ (by rw[swapL_len];omega)).trans (swapL_perm l _ j (by omega) hj)
   ·rw[if_neg hs]
theorem popL_perm{l:List Int}(h:0<l.length):(popL l).Perm l :=
 (downL_perm _ _ _ _ (by rw[swapL_len];omega) (by rw[swapL_len];exact h)).trans (swapL_perm l 0 _ h (by omega))
theorem pop_split{l:List Int}(h:0<l.length):((popL l).take (l.length-1)++[(popL l).getD (l.length-1) 0]).Perm l:=by
 rw[←split_last (l:=popL l) (n:=l.length-1) (by rw[popL_len];omega)]
 exact popL_perm h
theorem pushL_perm(l:List Int)(x:Int):(pushL l x).Perm (l++[x]):=upL_perm _ _ _ (by simp)
def relax:List Int→List Int→List Int→List Int×List Int
 | ws,h,[]=>(ws,h)
 | ws,h,k::r=>relax (ws.set k.toNat (ws.getD k.toNat 0-1)) (if ws.getD k.toNat 0-1=0 then pushL h k else h) r
end
section
variable {call:CallF}{mt:MtF}{md:FuncId→Md}
variable {cs:Nat→Option Nat}{cc:Option Nat}
def mu(ws h:List Int):Nat:=ws.countP (fun z=>decide (0<z))+h.length
theorem relax_mu:∀(r ws h:List Int),(∀k∈r,k.toNat<ws.length)→mu (relax ws h r).1 (relax ws h r).2≤mu ws h
 | [],ws,h,_=>zT _
 | k::r,ws,h,hk=>by
  rw[relax]
  have hkl:=hk k (zM ..)
  refine vW (relax_mu r _ _ (fun j hj=>by rw[yW];exact hk j (zI _ hj))) ?_
  unfold mu
  rw[List.countP_set hkl]
  have hg:ws.getD k.toNat 0=ws[k.toNat]:=by rw[zF,zE hkl];rfl
  rw[hg]
  have hpos:ws[k.toNat] > 0→0<ws.countP (fun z=>decide (0<z)):=fun h=>List.countP_pos_iff.2 ⟨_,zV hkl,by simpa using h⟩
  by_cases h1:ws[k.toNat]-1=0
  ·have h2:0<ws[k.toNat]:=by omega
   have h3:¬0<ws[k.toNat]-1:=by omega
   have:=hpos h2
   rw[if_pos h1]
   simp only[h2,h3,decide_true,decide_false,if_true,wW,if_false,pushL_len]
   omega
  ·rw[if_neg h1]
   by_cases h2:0<ws[k.toNat]
   ·have h3:0<ws[k.toNat]-1:=by omega
    have:=hpos h2
    simp only[h2,h3,decide_true,if_true]
    omega
   ·have h3:¬0<ws[k.toNat]-1:=by omega
    simp only[h2,h3,decide_false,wW,if_false]
    omega
def kahn(us:List (List Int)):Nat→List Int→List Int→List Int→List Int
 | 0,_,_,out=>out
 | m+1,ws,h,out=>if h=[]then out else
  kahn us m (relax ws ((popL h).take (h.length-1)) (us.getD ((popL h).getD (h.length-1) 0).toNat [])).1 (relax ws ((popL h).take (h.length-1)) (us.getD ((popL h).getD (h.length-1) 0).toNat [])).2 (out++[(popL h).getD (h.length-1) 0])
theorem Sl.elem{A:AV}{l:List Int}{o d:List Obj1}(S:Sl A l o){H:List AO}(O:Own H (o++d)){j:Nat}(hj:j<l.length):∃c,iadr 1 A (litI .i64 j)=some c∧Ai.load H none c=some (litI .i64 (l.getD j 0)):=by
 rcases S with⟨rfl,rfl,rfl⟩|⟨p,z,hz,rfl,rfl⟩
 ·simp at hj
 ·refine⟨.ptr p j,?_,load_of O.head (cellsZ_get hj)⟩
  rw[iadr_own,if_pos ⟨by omega,by omega⟩]
  simp
end
section
variable {call:CallF}{mt:MtF}{md:FuncId→Md}
variable {cs:Nat→Option Nat}{cc:Option Nat}
theorem compI_sorted:∀l:List Int,l.Pairwise (·≤·)→(compI' l).Pairwise (· < ·)
 | [],_=>List.Pairwise.nil
 | [x],_=>by simp[compI']
 | x::y::r,h=>by
  rw[uE]at h
  have ih:=compI_sorted (y::r) h.2
  simp only[compI']
  by_cases e:x=y
  ·subst e;rw[beq_self_eq_true,cond_true];exact ih
  ·have:(x==y)=false:=by simpa using e
   rw[this,cond_false,uE]
   refine⟨fun z hz=>?_,ih⟩
   rw[mem_compI]at hz
   have hy:=h.1 y (zM ..)
   rcases zO.1 hz with rfl|hz
   ·omega
   ·have:=(uE.1 h.2).1 z hz
    omega
theorem need_nodup(g:List (List Int))(k:Nat):(need g k).Nodup:=by
 unfold need
 split
 ·unfold needG
  exact(compI_sorted _ (sortI_sorted _)).imp fun h=>by omega
 ·exact List.nodup_nil
theorem addU_get(i:Int):∀(r:List Int)(us:List (List Int))(x:Nat),(∀k∈r,0≤k∧k<(us.length:Int))→r.Nodup→(addU us i r).getD x []=us.getD x []++(if(x:Int)∈r then [i]else [])
 | [],us,x,_,_=>by simp[addU]
 | k::r,us,x,hk,hn=>by
  have hk0:=hk k (zM ..)
  rw[xA]at hn
  rw[addU,addU_get i r _ x (fun j hj=>by rw[yW];exact hk j (zI _ hj)) hn.2]
  by_cases e:x=k.toNat
  ·subst e
   have:((k.toNat:Nat):Int)=k:=by omega
   rw[this,if_neg hn.1,if_pos (zM ..)]
   rw[zF,yK (by omega)]
   simp
  ·have e1:(x:Int)≠k:=by omega
   have:(us.set k.toNat (us.getD k.toNat []++[i])).getD x []=us.getD x []:=by
    rw[zF,yT (Ne.symm e),←zF]
   rw[this]
   simp[e1]
structure BuildOk(g:List (List Int))(n:Nat)(s:List (List Int)×List Int×List Int):Prop where
 lu:s.1.length=g.length
 lw:s.2.1.length=g.length
 us:∀x:Nat,(s.1.getD x []).Nodup∧∀i:Int,i∈s.1.getD x []↔∃j:Nat,i=j∧j<n∧(x:Int)∈need g j
 ws:∀j:Nat,j<n→s.2.1.getD j 0=(need g j).length
 r:s.2.2.Nodup∧∀i:Int,i∈s.2.2↔∃j:Nat,i=j∧j<n∧need g j=[]
theorem build_ok(g:List (List Int)):∀(m n:Nat)(s:List (List Int)×List Int×List Int),m+n=g.length→BuildOk g n s→BuildOk g g.length (build g m n s)
 | 0,n,s,h,B=>by
  have:n=g.length:=by omega
  subst this;exact B
 | m+1,n,s,h,B=>by
  rw[build]
  refine build_ok g m (n+1) _ (by omega) ?_
  have hn:n<g.length:=by omega
  have hrng:∀k∈need g n,0≤k∧k<(s.1.length:Int):=fun k hk=>by rw[B.lu];exact need_rng _ _ hk
  refine⟨by rw[addU_len];exact B.lu,by simpa using B.lw,fun x=>?_,fun j hj=>?_,?_⟩
  ·simp only
   rw[addU_get n _ _ x hrng (need_nodup g n)]
   obtain⟨b1,b2⟩:=B.us x
   by_cases hx:(x:Int)∈need g n
   ·rw[if_pos hx]
    constructor
    ·rw[tC]
     refine⟨b1,by simp,fun a ha b hb=>?_⟩
     simp only[xP]at hb
     subst hb
     obtain⟨j,rfl,hj,_⟩:=(b2 a).1 ha
     omega
    ·intro i
     rw[zY,b2 i,xP]
     constructor
     ·rintro (⟨j,e,hj,h⟩|rfl)
      ·exact⟨j,e,by omega,h⟩
      ·exact⟨n,rfl,by omega,hx⟩
     ·rintro ⟨j,e,hj,h⟩
      by_cases ej:j=n
      ·subst ej;exact .inr e
      ·exact .inl ⟨j,e,by omega,h⟩
   ·rw[if_neg hx,zZ]
    refine⟨b1,fun i=>?_⟩
    rw[b2 i]
    constructor
    ·rintro ⟨j,e,hj,h⟩;exact⟨j,e,by omega,h⟩
    ·rintro ⟨j,e,hj,h⟩
     have:j≠n:=fun e=>hx (e▸h)
     exact⟨j,e,by omega,h⟩
  ·simp only
   rw[zF,wV]
   by_cases e:n=j
   ·subst e
    have:n<s.2.1.length:=by rw[B.lw];exact hn
    simp[this]
   ·rw[if_neg e,←zF]
    exact B.ws j (by omega)
  ·obtain⟨b1,b2⟩:=B.r
   simp only
   by_cases hx:need g n=[]
   ·rw[if_pos hx]
    constructor
    ·rw[tC]
     refine⟨b1,by simp,fun a ha b hb=>?_⟩
     simp only[xP]at hb
     subst hb
     obtain⟨j,rfl,hj,_⟩:=(b2 a).1 ha
     omega
    ·intro i
     rw[zY,b2 i,xP]
     constructor
     ·rintro (⟨j,e,hj,h⟩|rfl)
      ·exact⟨j,e,by omega,h⟩
      ·exact⟨n,rfl,by omega,hx⟩
     ·rintro ⟨j,e,hj,h⟩
      by_cases ej:j=n
      ·subst ej;exact .inr e
      ·exact .inl ⟨j,e,by omega,h⟩
   ·rw[if_neg hx]
    refine⟨b1,fun i=>?_⟩
    rw[b2 i]
    constructor
    ·rintro ⟨j,e,hj,h⟩;exact⟨j,e,by omega,h⟩
    ·rintro ⟨j,e,hj,h⟩
     have:j≠n:=fun e=>hx (e▸h)
     exact⟨j,e,by omega,h⟩
theorem relax_get:∀(r ws h:List Int),r.Nodup→(∀k∈r,0≤k∧k<(ws.length:Int))→(relax ws h r).1.length=ws.length∧(∀i:Nat,(relax ws h r).1.getD i 0=ws.getD i 0-(if(i:Int)∈r then 1 else 0))∧(relax ws h r).2.Perm (h++r.filter fun k=>decide (ws.getD k.toNat 0=1))
 | [],ws,h,_,_=>⟨rfl,fun i=>by simp[relax],by simp[relax]⟩
 | k::r,ws,h,hn,hk=>by
  rw[xA]at hn
  have hk0:=hk k (zM ..)
  rw[relax]
  obtain⟨i1,i2,i3⟩:=relax_get r (ws.set k.toNat (ws.getD k.toNat 0-1)) (if ws.getD k.toNat 0-1=0 then pushL h k else h) hn.2 (fun j hj=>by rw[yW];exact hk j (zI _ hj))
  have hset:∀i:Nat,i≠k.toNat→(ws.set k.toNat (ws.getD k.toNat 0-1)).getD i 0=ws.getD i 0:=fun i hi=>by
   rw[zF,yT (Ne.symm hi),←zF]
  refine⟨by rw[i1];simp,fun i=>?_,i3.trans ?_⟩
  ·rw[i2]
   by_cases e:i=k.toNat
   ·subst e
    have ek:((k.toNat:Nat):Int)=k:=by omega
    rw[ek,if_neg hn.1,if_pos (zM ..),zF,yK (by omega)]
    simp
   ·have e1:(i:Int)≠k:=by omega
    rw[hset i e]
    simp[e1]
  ·have hf:r.filter (fun j=>decide ((ws.set k.toNat (ws.getD k.toNat 0-1)).getD j.toNat 0=1))=r.filter (fun j=>decide (ws.getD j.toNat 0=1)):=by
    refine List.filter_congr fun j hj=>?_
    have hj0:=hk j (zI _ hj)
    have:j≠k:=fun e=>hn.1 (e▸hj)
    rw[hset j.toNat (by omega)]
   rw[hf,vM]
   by_cases h1:ws.getD k.toNat 0=1
   ·have h2:ws.getD k.toNat 0-1=0:=by omega
    rw[if_pos h2,if_pos (by simpa using h1)]
    refine(List.Perm.append_right _ (pushL_perm h k)).trans ?_
    rw[zU,yA]
   ·have h2:¬ws.getD k.toNat 0-1=0:=by omega
    rw[if_neg h2,if_neg (by simpa using h1)]
structure KI(g:List (List Int))(ws h out:List Int):Prop where
 lw:ws.length=g.length
 rng:∀x∈h++out,0≤x∧x<(g.length:Int)
 nd:(h++out).Nodup
 w:∀i:Nat,i<g.length→ws.getD i 0=((need g i).filter fun k=>!out.contains k).length
 z:∀i:Nat,i<g.length→((i:Int)∈h++out↔ws.getD i 0=0)
 t:∀j:Nat,j<out.length→∀k∈need g (out.getD j 0).toNat,k∈out.take j
theorem filter_drop{l out:List Int}{x:Int}(hl:l.Nodup)(hx:¬x∈out):((l.filter fun k=>!(out++[x]).contains k).length:Int)=(l.filter fun k=>!out.contains k).length-(if x∈l then 1 else 0):=by
 induction l with
 | nil=>simp
 | cons a l ih =>
  rw[xA]at hl
  have ih:=ih hl.2
  have e1:((out++[x]).contains a)=(out.contains a||a==x):=by
   rw[Bool.eq_iff_iff];simp
  rw[vM,vM,e1]
  by_cases hax:a=x
  ·subst hax
   have h1:out.contains a=false:=by simpa using hx
   rw[h1,if_pos (zM ..)]
   rw[if_neg hl.1]at ih
   simp only[beq_self_eq_true,xD,vK,vU,if_true,wW,if_false,zC]
   omega
  ·have h2:(a==x)=false:=by simpa using hax
   have h3:x∈a::l↔x∈l:=by
    rw[zO];exact⟨fun h=>h.resolve_left (Ne.symm hax),.inr⟩
   rw[h2,Bool.or_false]
   simp only[h3]
   cases out.contains a
   ·simp only[vU,if_true,zC]
    omega
   ·simp only[vK,wW,if_false]
    exact ih
theorem KI.step{g:List (List Int)}{ws h h' out l:List Int}{x:Int}(K:KI g ws h out)(hp:(h'++[x]).Perm h)(hl:l.Nodup)(hm:∀i:Int,i∈l↔∃j:Nat,i=j∧j<g.length∧x∈need g j) :
  KI g (relax ws h' l).1 (relax ws h' l).2 (out++[x]):=by
 have hxh:x∈h:=hp.mem_iff.1 (by simp)
 have hx0:=K.rng x (uD _ hxh)
 have hnd:=K.nd
 have hxo:¬x∈out:=fun ho=>(tC.1 hnd).2.2 x hxh x ho rfl
 have hlr:∀k∈l,0≤k∧k<(ws.length:Int):=fun k hk=>by
  obtain⟨j,rfl,hj,_⟩:=(hm k).1 hk
  rw[K.lw];omega
 obtain⟨r1,r2,r3⟩:=relax_get l ws h' hl hlr
 have hW:∀i:Nat,i<g.length→(relax ws h' l).1.getD i 0=((need g i).filter fun k=>!(out++[x]).contains k).length:=by
  intro i hi
  rw[r2,filter_drop (need_nodup g i) hxo,K.w i hi]
  congr 1
  have:(i:Int)∈l↔x∈need g i:=by
   rw[hm]
   constructor
   ·rintro ⟨j,e,_,h⟩
    have:i=j:=by omega
    subst this;exact h
   ·intro h;exact⟨i,rfl,hi,h⟩
  simp only[this]
 have hone:∀i:Nat,i<g.length→(i:Int)∈l→ws.getD i 0≠0:=by
  intro i hi hil
  obtain⟨j,e,hj,hx⟩:=(hm i).1 hil
  have:i=j:=by omega
  subst this
  rw[K.w i hi]
  have:x∈(need g i).filter fun k=>!out.contains k:=by
   rw[xL];exact⟨hx,by simpa using hxo⟩
  have:=List.length_pos_of_mem this
  omega
 have hmem:∀y:Int,y∈(relax ws h' l).2++(out++[x])↔y∈h++out∨(y∈l∧ws.getD y.toNat 0=1):=by
  intro y
  rw[zY,r3.mem_iff,zY,xL,zY,zY,←hp.mem_iff,zY,decide_eq_true_eq]
  constructor
  ·rintro ((h1|h1)|h1|h1)
   ·exact .inl (.inl (.inl h1))
   ·exact .inr h1
   ·exact .inl (.inr h1)
   ·exact .inl (.inl (.inr h1))
  ·rintro (((h1|h1)|h1)|h1)
   ·exact .inl (.inl h1)
   ·exact .inr (.inr h1)
   ·exact .inr (.inl h1)
   ·exact .inl (.inr h1)
 refine⟨r1.trans K.lw,fun y hy=>?_,?_,hW,fun i hi=>?_,fun j hj k hk=>?_⟩
 ·rcases(hmem y).1 hy with h1|⟨h1,_⟩
  ·exact K.rng y h1
  ·have:=hlr y h1;rw[K.lw]at this;exact this
 ·have e1:((relax ws h' l).2++(out++[x])).Perm ((h++out)++l.filter fun k=>decide (ws.getD k.toNat 0=1)):=by
   refine(List.Perm.append_right _ r3).trans ?_
   refine List.Perm.trans ?_ (List.Perm.append_right _ (List.Perm.append_right _ hp))
   have a1:h'++l.filter (fun k=>decide (ws.getD k.toNat 0=1))++(out++[x])=h'++(l.filter (fun k=>decide (ws.getD k.toNat 0=1))++(out++[x])):=by simp
   have a2:h'++[x]++out++l.filter (fun k=>decide (ws.getD k.toNat 0=1))=h'++(([x]++out)++l.filter (fun k=>decide (ws.getD k.toNat 0=1))):=by simp
   rw[a1,a2]
   exact List.Perm.append_left _ (uF.trans (List.Perm.append_right _ uF))
  rw[e1.nodup_iff,tC]
  refine⟨hnd,hl.filter _,fun a ha b hb e=>?_⟩
  subst e
  rw[xL,decide_eq_true_eq]at hb
  have h0:=K.rng a ha
  have hz:=(K.z a.toNat (by omega)).1 (by rw[show((a.toNat:Nat):Int)=a by omega];exact ha)
  omega
 ·rw[hmem,K.z i hi,r2,xF]
  by_cases hil:(i:Int)∈l
  ·have:=hone i hi hil
   rw[if_pos hil]
   constructor
   ·rintro (h|⟨_,h⟩)<;>omega
   ·intro h;exact .inr ⟨hil,by omega⟩
  ·rw[if_neg hil]
   constructor
   ·rintro (h|⟨h,_⟩)
    ·omega
    ·exact absurd h hil
   ·intro h;exact .inl (by omega)
 ·by_cases hj2:j<out.length
  ·have e1:(out++[x]).getD j 0=out.getD j 0:=by rw[zF,yC hj2,←zF]
   rw[e1]at hk
   rw[List.take_append_of_le_length (by omega)]
   exact K.t j hj2 k hk
  ·have hje:j=out.length:=by simp at hj;omega
   subst hje
   have e1:(out++[x]).getD out.length 0=x:=by simp[zF]
   rw[e1]at hk
   rw[vD]
   ·have hz:=(K.z x.toNat (by omega)).1 (by rw[show((x.toNat:Nat):Int)=x by omega];exact uD _ hxh)
    rw[K.w _ (by omega)]at hz
    have:(need g x.toNat).filter (fun k=>!out.contains k)=[]:=wZ (by omega)
    rw[List.filter_eq_nil_iff]at this
    have:=this k hk
    simpa using this
   ·rfl
theorem kahn_ok{g:List (List Int)}{us:List (List Int)}(hus:∀x:Nat,(us.getD x []).Nodup∧∀i:Int,i∈us.getD x []↔∃j:Nat,i=j∧j<g.length∧(x:Int)∈need g j) :
  ∀(m:Nat)(ws h out:List Int),mu ws h≤m→KI g ws h out→∃ws',KI g ws' [] (kahn us m ws h out)
 | 0,ws,h,out,hm,K=>by
  have:h=[]:=wZ (by unfold mu at hm;omega)
  subst this
  exact⟨ws,K⟩
 | m+1,ws,h,out,hm,K=>by
  rw[kahn]
  by_cases he:h=[]
  ·subst he;rw[if_pos rfl];exact⟨ws,K⟩
  ·rw[if_neg he]
   have hpos:0<h.length:=vX.2 he
   have hps:=pop_split hpos
   have hx:(popL h).getD (h.length-1) 0∈h:=hps.mem_iff.1 (wL _ (by simp))
   have htl:((popL h).take (h.length-1)).length+1=h.length:=by
    have:=hps.length_eq
    simpa using this
   generalize (popL h).take (h.length-1)=h' at *
   generalize (popL h).getD (h.length-1) 0=X at *
   have hX:=K.rng X (uD _ hx)
   obtain⟨u1,u2⟩:=hus X.toNat
   rw[show((X.toNat:Nat):Int)=X by omega]at u2
   refine kahn_ok hus m _ _ _ ?_ (K.step hps u1 u2)
   have:=relax_mu (us.getD X.toNat []) ws h' (fun k hk=>by
    obtain⟨j,rfl,hj,_⟩:=(u2 k).1 hk
    rw[K.lw,xF];exact hj)
   unfold mu at this hm ⊢
   omega
def outL(g:List (List Int)):List Int :=
 kahn (build g g.length 0 (List.replicate g.length [],List.replicate g.length 0,[])).1 (mu (build g g.length 0 (List.replicate g.length [],List.replicate g.length 0,[])).2.1 (build g g.length 0 (List.replicate g.length [],List.replicate g.length 0,[])).2.2)
  (build g g.length 0 (List.replicate g.length [],List.replicate g.length 0,[])).2.1 (build g g.length 0 (List.replicate g.length [],List.replicate g.length 0,[])).2.2 []
theorem build0(g:List (List Int)):BuildOk g 0 (List.replicate g.length [],List.replicate g.length 0,[]) where
 lu:=by simp
 lw:=by simp
 us:=fun x=>by
  have:(List.replicate g.length ([]:List Int)).getD x []=[]:=by
   rw[zF,wS];split<;>rfl
  simp only[this]
  simp
 ws:=fun j hj=>by omega
 r:=⟨List.nodup_nil,fun i=>by simp⟩
theorem buildN(g:List (List Int)):BuildOk g g.length (build g g.length 0 (List.replicate g.length [],List.replicate g.length 0,[])):=build_ok g _ 0 _ (by omega) (build0 g)
theorem outL_ok(g:List (List Int)):∃ws,KI g ws [] (outL g):=by
 have B:=buildN g
 unfold outL
 refine kahn_ok B.us _ _ _ _ (zT _) ⟨B.lw,fun x hx=>?_,?_,fun i hi=>?_,fun i hi=>?_,fun j hj=>by simp at hj⟩
 ·rw[zZ,B.r.2]at hx
  obtain⟨j,rfl,hj,_⟩:=hx
  omega
 ·rw[zZ];exact B.r.1
 ·rw[B.ws i hi,tD.2 (by simp)]
 ·rw[zZ,B.r.2,B.ws i hi]
  constructor
  ·rintro ⟨j,e,_,h⟩
   have:i=j:=by omega
   subst this;simp[h]
  ·intro h;exact⟨i,rfl,hi,wZ (by omega)⟩
end
section
variable {call:CallF}{mt:MtF}{md:FuncId→Md}
variable {cs:Nat→Option Nat}{cc:Option Nat}
def okL(g:List (List Int)):Bool:=decide (g.length≤(outL g).length)
end
end Go.Proofs.Ytcgbdndkfonphaa.Ai.Ord
namespace Go.Proofs.Ytcgbdndkfonphaa.Ai.Ord
open Go Go.Ai
theorem getD_set(l:List Int)(i a:Nat)(x:Int):(l.set i x).getD a 0=if i=a∧i<l.length then x else l.getD a 0:=by
 rw[zF,wV]
 by_cases h:i=a
 ·subst h
  by_cases h2:i<l.length
  ·simp[h2]
  ·simp[h2,zF]
 ·simp[h,zF]
theorem swapL_get(l:List Int)(i j a:Nat)(hi:i<l.length)(hj:j<l.length):(swapL l i j).getD a 0=if a=j then l.getD i 0 else if a=i then l.getD j 0 else l.getD a 0:=by
 unfold swapL
 rw[getD_set,getD_set,yW]
 by_cases h1:a=j
 ·subst h1;simp[hj]
 ·by_cases h2:a=i
  ·subst h2;simp[h1,Ne.symm h1,hi]
  ·simp[h1,Ne.symm h1,h2,Ne.symm h2]
def IsHeap(l:List Int)(n:Nat):Prop:=∀j,0<j→j<n→l.getD ((j-1) / 2) 0≤l.getD j 0
theorem heap_min{l:List Int}{n:Nat}(h:IsHeap l n):∀j,j<n→l.getD 0 0≤l.getD j 0:=by
 intro j
 induction j using Nat.strongRecOn with
 | _ j ih =>
  intro hj
  by_cases h0:j=0
  ·subst h0;exact vR _
  ·exact Int.le_trans (ih ((j-1) / 2) (by omega) (by omega)) (h j (by omega) hj)
structure ButDown(l:List Int)(i n:Nat):Prop where
 o:∀j,0<j→j<n→(j-1) / 2≠i→l.getD ((j-1) / 2) 0≤l.getD j 0
 g:0<i→∀j,0<j→j<n→(j-1) / 2=i→l.getD ((i-1) / 2) 0≤l.getD j 0
theorem downL_far:∀(k:Nat)(l:List Int)(i n:Nat),n≤l.length→i<l.length→∀a,n≤a→a≠i→(downL k l i n).getD a 0=l.getD a 0
 | 0,l,i,n,_,_,a,_,_=>rfl
 | k+1,l,i,n,hn,hi,a,ha,hai=>by
  rw[downL]
  by_cases hc:n≤2*i+1
  ·rw[if_pos hc]
  ·rw[if_neg hc]
   generalize hj:(if 2*i+2<n∧l.getD (2*i+2) 0<l.getD (2*i+1) 0 then 2*i+2 else 2*i+1)=j
   have hjn:j<n:=by rw[←hj];split<;>omega
   by_cases hs:l.getD j 0<l.getD i 0
   ·rw[if_pos hs,downL_far k _ j n (by rw[swapL_len];exact hn) (by rw[swapL_len];omega) a ha (by omega),swapL_get l i j a hi (by omega),if_neg (by omega),if_neg hai]
   ·rw[if_neg hs]
theorem downL_heap:∀(k:Nat)(l:List Int)(i n:Nat),n≤l.length→i<l.length→n≤i+k→ButDown l i n→IsHeap (downL k l i n) n
 | 0,l,i,n,hn,hi,hk,B=>by
  intro j h0 hj
  exact B.o j h0 hj (by omega)
 | k+1,l,i,n,hn,hi,hk,B=>by
  rw[downL]
  by_cases hc:n≤2*i+1
  ·rw[if_pos hc]
   intro j h0 hj
   exact B.o j h0 hj (by omega)
  ·rw[if_neg hc]
   generalize hj:(if 2*i+2<n∧l.getD (2*i+2) 0<l.getD (2*i+1) 0 then 2*i+2 else 2*i+1)=j
   have hjn:j<n:=by rw[←hj];split<;>omega
   have hij:i<j:=by rw[←hj];split<;>omega
   have hjp:(j-1) / 2=i:=by rw[←hj];split<;>omega
   have hmin:∀c,0<c→c<n→(c-1) / 2=i→l.getD j 0≤l.getD c 0:=by
    intro c h0 hc hcp
    have hcc:c=2*i+1∨c=2*i+2:=by omega
    rw[←hj]
    split
    ·rename_i h
     rcases hcc with rfl|rfl
     ·omega
     ·exact vR _
    ·rename_i h
     rcases hcc with rfl|rfl
     ·exact vR _
     ·have:¬l.getD (2*i+2) 0<l.getD (2*i+1) 0:=fun h2=>h ⟨hc,h2⟩
      omega
   by_cases hs:l.getD j 0<l.getD i 0
   ·rw[if_pos hs]
    refine downL_heap k _ j n (by rw[swapL_len];exact hn) (by rw[swapL_len];omega) (by omega) ⟨fun c h0 hc hcp=>?_,fun _ c h0 hc hcp=>?_⟩
    ·rw[swapL_get l i j _ hi (by omega),swapL_get l i j _ hi (by omega)]
     by_cases e1:(c-1) / 2=i
     ·rw[if_neg (show(c-1) / 2≠j by omega),if_pos e1]
      by_cases e2:c=j
      ·rw[if_pos e2];omega
      ·rw[if_neg e2,if_neg (show c≠i by omega)]
       exact hmin c h0 hc e1
     ·rw[if_neg hcp,if_neg e1]
      by_cases e2:c=j
      ·omega
      ·rw[if_neg e2]
       by_cases e3:c=i
       ·rw[if_pos e3]
        subst e3
        exact B.g h0 j (by omega) hjn hjp
       ·rw[if_neg e3]
        exact B.o c h0 hc e1
    ·have hcj:c≠j:=by omega
     have hci:c≠i:=by omega
     rw[hjp,swapL_get l i j _ hi (by omega),swapL_get l i j _ hi (by omega),if_neg (show i≠j by omega),if_pos rfl,if_neg hcj,if_neg hci,←hcp]
     exact B.o c h0 hc (by omega)
   ·rw[if_neg hs]
    intro c h0 hc
    by_cases e:(c-1) / 2=i
    ·rw[e]
     have:=hmin c h0 hc e
     omega
    ·exact B.o c h0 hc e
structure ButUp(l:List Int)(j n:Nat):Prop where
 o:∀c,0<c→c<n→c≠j→l.getD ((c-1) / 2) 0≤l.getD c 0
 g:0<j→∀c,0<c→c<n→(c-1) / 2=j→l.getD ((j-1) / 2) 0≤l.getD c 0
theorem upL_heap:∀(k:Nat)(l:List Int)(j n:Nat),n≤l.length→j<n→j<k→ButUp l j n→IsHeap (upL k l j) n
 | 0,l,j,n,hn,hj,hk,B=>by omega
 | k+1,l,j,n,hn,hj,hk,B=>by
  rw[upL]
  by_cases h0:j=0
  ·rw[if_pos h0]
   intro c hc0 hc
   exact B.o c hc0 hc (by omega)
  ·rw[if_neg h0]
   generalize hp:(j-1) / 2=p
   have hpj:p<j:=by omega
   by_cases hs:l.getD j 0<l.getD p 0
   ·rw[if_pos hs]
    refine upL_heap k _ p n (by rw[swapL_len];exact hn) (by omega) (by omega) ⟨fun c hc0 hc hcp=>?_,fun hp0 c hc0 hc hcp=>?_⟩
    ·rw[swapL_get l p j _ (by omega) (by omega),swapL_get l p j _ (by omega) (by omega)]
     by_cases e1:c=j
     ·subst e1
      rw[hp,if_neg (by omega),if_pos rfl,if_pos rfl]
      omega
     ·rw[if_neg e1,if_neg hcp]
      by_cases e2:(c-1) / 2=j
      ·rw[if_pos e2]
       have:=B.g (by omega) c hc0 hc e2
       rw[hp]at this;exact this
      ·rw[if_neg e2]
       by_cases e3:(c-1) / 2=p
       ·rw[if_pos e3]
        have:=B.o c hc0 hc e1
        rw[e3]at this
        omega
       ·rw[if_neg e3];exact B.o c hc0 hc e1
    ·have hpar:l.getD ((p-1) / 2) 0≤l.getD p 0:=B.o p hp0 (by omega) (by omega)
     rw[swapL_get l p j _ (by omega) (by omega),swapL_get l p j _ (by omega) (by omega),if_neg (show(p-1) / 2≠j by omega),if_neg (show(p-1) / 2≠p by omega)]
     by_cases e1:c=j
     ·rw[if_pos e1];exact hpar
     ·rw[if_neg e1,if_neg (show c≠p by omega)]
      have:=B.o c hc0 hc e1
      rw[hcp]at this
      omega
   ·rw[if_neg hs]
    intro c hc0 hc
    by_cases e:c=j
    ·subst e;rw[hp];omega
    ·exact B.o c hc0 hc e
theorem pushL_heap{l:List Int}(h:IsHeap l l.length)(x:Int):IsHeap (pushL l x) (pushL l x).length:=by
 rw[pushL_len]
 unfold pushL
 have ga:∀a,a<l.length→(l++[x]).getD a 0=l.getD a 0:=fun a ha=>by
  rw[zF,yC ha,←zF]
 refine upL_heap _ _ _ _ (by simp) (by omega) (by omega) ⟨fun c h0 hc hcj=>?_,fun _ c h0 hc hcp=>?_⟩
 ·rw[ga _ (by omega),ga _ (by omega)]
  exact h c h0 (by omega)
 ·omega
theorem popL_heap{l:List Int}(h:IsHeap l l.length)(h0:0<l.length) :
  (popL l).getD (l.length-1) 0=l.getD 0 0∧IsHeap ((popL l).take (l.length-1)) ((popL l).take (l.length-1)).length:=by
 unfold popL
 have hsw:=fun a=>swapL_get l 0 (l.length-1) a h0 (by omega)
 constructor
 ·by_cases h1:l.length=1
  ·rw[h1]
   rw[show(1-1:Nat)=0 from rfl,downL,swapL_get l 0 0 0 h0 h0,if_pos rfl]
  ·rw[downL_far _ _ _ _ (by rw[swapL_len];omega) (by rw[swapL_len];exact h0) _ (zT _) (by omega),hsw,if_pos rfl]
 ·have H:IsHeap (downL (l.length-1) (swapL l 0 (l.length-1)) 0 (l.length-1)) (l.length-1):=by
   refine downL_heap _ _ _ _ (by rw[swapL_len];omega) (by rw[swapL_len];exact h0) (by omega) ⟨fun j h1 hj hp=>?_,fun h=>by omega⟩
   rw[hsw,hsw,if_neg (by omega),if_neg hp,if_neg (by omega),if_neg (by omega)]
   exact h j h1 (by omega)
  intro j h1 hj
  rw[wB,downL_len,swapL_len]at hj
  have gt:∀a,a<l.length-1→((downL (l.length-1) (swapL l 0 (l.length-1)) 0 (l.length-1)).take (l.length-1)).getD a 0=(downL (l.length-1) (swapL l 0 (l.length-1)) 0 (l.length-1)).getD a 0:=fun a ha=>by
   rw[zF,yI,if_pos ha,←zF]
  rw[gt _ (by omega),gt _ (by omega)]
  exact H j h1 (by omega)
theorem relax_heap:∀(r ws h:List Int),IsHeap h h.length→IsHeap (relax ws h r).2 (relax ws h r).2.length
 | [],_,_,H=>H
 | k::r,ws,h,H=>by
  rw[relax]
  refine relax_heap r _ _ ?_
  split
  ·exact pushL_heap H k
  ·exact H
theorem sorted_heap{l:List Int}(h:l.Pairwise (· < ·)):IsHeap l l.length:=by
 intro j h0 hj
 have h1:(j-1) / 2<j:=by omega
 have:=List.pairwise_iff_getElem.1 h ((j-1) / 2) j (by omega) hj h1
 rw[zF,zF,zE (by omega),zE hj]
 simp only[wD];omega
end Go.Proofs.Ytcgbdndkfonphaa.Ai.Ord
