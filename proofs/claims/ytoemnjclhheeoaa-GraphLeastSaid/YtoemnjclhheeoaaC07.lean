/- Seat of layer 7: its codes are linked. No condition. -/
import Derived.Test.YtoemnjclhheeoaaBase3
import Derived.Test.YtoemnjclhheeoaaB07
import Derived.Test.YtoemnjclhheeoaaS07
namespace Go.Proofs.Ytoemnjclhheeoaa.Ai
open Go Go.Ai Go.Proofs

def tb : List (Nat × F) := [(3, fn3), (4, fn4), (5, fn5), (6, fn6), (7, fn7), (8, fn8), (9, fn9), (10, fn10), (11, fn11), (12, fn12), (13, fn13), (14, fn14), (15, fn15), (16, fn16), (17, fn17), (18, fn18), (19, fn19), (20, fn20), (21, fn21), (22, fn22), (23, fn23), (24, fn24), (25, fn25), (26, fn26), (27, fn27), (28, fn28), (29, fn29), (30, fn30), (31, fn31), (32, fn32), (33, fn33), (34, fn34), (35, fn35), (36, fn36), (37, fn37), (38, fn38), (39, fn39), (40, fn40), (41, fn41), (42, fn42), (43, fn43), (60, fn60), (61, fn61), (62, fn62), (63, fn63)]
set_option maxRecDepth 10000 in
theorem tbOk : TabOk Try.prog tb := (TabOk.cons Try.func3 is3 (TabOk.cons Try.func4 is4 (TabOk.cons Try.func5 is5 (TabOk.cons Try.func6 is6 (TabOk.cons Try.func7 is7 (TabOk.cons Try.func8 is8 (TabOk.cons Try.func9 is9 (TabOk.cons Try.func10 is10 (TabOk.cons Try.func11 is11 (TabOk.cons Try.func12 is12 (TabOk.cons Try.func13 is13 (TabOk.cons Try.func14 is14 (TabOk.cons Try.func15 is15 (TabOk.cons Try.func16 is16 (TabOk.cons Try.func17 is17 (TabOk.cons Try.func18 is18 (TabOk.cons Try.func19 is19 (TabOk.cons Try.func20 is20 (TabOk.cons Try.func21 is21 (TabOk.cons Try.func22 is22 (TabOk.cons Try.func23 is23 (TabOk.cons Try.func24 is24 (TabOk.cons Try.func25 is25 (TabOk.cons Try.func26 is26 (TabOk.cons Try.func27 is27 (TabOk.cons Try.func28 is28 (TabOk.cons Try.func29 is29 (TabOk.cons Try.func30 is30 (TabOk.cons Try.func31 is31 (TabOk.cons Try.func32 is32 (TabOk.cons Try.func33 is33 (TabOk.cons Try.func34 is34 (TabOk.cons Try.func35 is35 (TabOk.cons Try.func36 is36 (TabOk.cons Try.func37 is37 (TabOk.cons Try.func38 is38 (TabOk.cons Try.func39 is39 (TabOk.cons Try.func40 is40 (TabOk.cons Try.func41 is41 (TabOk.cons Try.func42 is42 (TabOk.cons Try.func43 is43 (TabOk.cons Try.func60 is60 (TabOk.cons Try.func61 is61 (TabOk.cons Try.func62 is62 (TabOk.cons Try.func63 is63 TabOk.nil)))))))))))))))))))))))))))))))))))))))))))))

def mtl : List (TypeId × String × FuncId × Option (Option Nat)) := [(38, "Len", 14, some none), (38, "Less", 60, some none), (38, "Swap", 61, some none), (38, "Pop", 62, none), (38, "Push", 63, none)]
def ovs : Ov := fun f => bif f == 19 then some sortG else bif f == 20 then some compactG else bif f == 23 then some reverseG else none
def mds : FuncId → Md := mdOf [15,16,61,62,63,21,22,19,20,23,24,26,27,28,30,31,33,34,37,39,43,41,40,29] [13]
noncomputable def cw : CallF := callW (lookF tb) ovs (lookM mtl) mds

theorem en19 (args : Array Value) (w : World) : (callFunc 19 args).run Try.prog w = .ok (.enter 19 args) w := enters Try.func19 (by kernel_rfl) rfl args w
theorem en20 (args : Array Value) (w : World) : (callFunc 20 args).run Try.prog w = .ok (.enter 20 args) w := enters Try.func20 (by kernel_rfl) rfl args w
theorem en23 (args : Array Value) (w : World) : (callFunc 23 args).run Try.prog w = .ok (.enter 23 args) w := enters Try.func23 (by kernel_rfl) rfl args w

theorem ovOk : ∀ f G, ovs f = some G → OneOk Try.prog f G := by
  intro f G h
  unfold ovs at h
  by_cases h1 : f = 19
  · subst h1
    simp only [beq_self_eq_true, cond_true, Option.some.injEq] at h; subst h
    exact sortG_ok en19 Try.slices_Sort_int Try.slices_Sort_int_none
  · by_cases h2 : f = 20
    · subst h2
      simp only [Nat.reduceBEq, cond_false, beq_self_eq_true, cond_true, Option.some.injEq] at h; subst h
      refine compactG_ok en20 (fun blk off cap zs w hH hs hc => ?_) Try.slices_Compact_int_empty
      have := Try.slices_Compact_int blk off cap zs w hH hs hc
      rw [← compI_eq] at this
      exact this
    · by_cases h3 : f = 23
      · subst h3
        simp only [Nat.reduceBEq, cond_false, beq_self_eq_true, cond_true, Option.some.injEq] at h; subst h
        exact reverseG_ok en23 Try.slices_Reverse_int Try.slices_Reverse_int_empty
      · rw [beq_of_ne h1, beq_of_ne h2, beq_of_ne h3] at h
        cases h

theorem mtOk : MtOk Try.prog (lookM mtl) := by
  refine mtOk_of fun p hp => ?_
  simp only [mtl, List.mem_cons, List.not_mem_nil, or_false] at hp
  rcases hp with rfl | rfl | rfl | rfl | rfl
  · exact ⟨33, by kernel_rfl, fun a u w h => method_deref (m := _) (i := _) rfl rfl rfl rfl Try.underlying38 a u w h⟩
  · exact ⟨33, by kernel_rfl, fun a u w h => method_deref (m := _) (i := _) rfl rfl rfl rfl Try.underlying38 a u w h⟩
  · exact ⟨33, by kernel_rfl, fun a u w h => method_deref (m := _) (i := _) rfl rfl rfl rfl Try.underlying38 a u w h⟩
  · exact fun v w => method_ptr (m := _) (i := _) rfl rfl rfl rfl Try.underlying38 v w
  · exact fun v w => method_ptr (m := _) (i := _) rfl rfl rfl rfl Try.underlying38 v w

theorem linked : Linked Try.prog (lookF tb) ovs (lookM mtl) := ⟨by kernel_rfl, mtOk, fun f F h => tbOk _ (lookF_mem h), ovOk⟩

theorem cw_of {f : FuncId} (FF : F) {c : C} {args : List AV} {H : List AO} {r : R × List AO} (ho : ovs f = none) (hT : lookF tb f = some FF) (hl : (args.length == FF.np) = true) (hc : FF.body = c)
    (h : (codeW cw (lookM mtl) mds c (initFr 0 args) H).bind (fin FF) = some r) : cw f args H = some r := by
  subst hc
  exact callW_of ho hT hl h
theorem cw_ov {f : FuncId} {G : List AV → List AO → Option (R × List AO)} {args : List AV} {H : List AO} {r : R × List AO} (ho : ovs f = some G) (h : G args H = some r) : cw f args H = some r := callW_ov ho h
theorem cw_told {f : FuncId} {args : List AV} {H : List AO} {r : R × List AO} (h : cw f args H = some r) : ∃ k, call (lookF tb) ovs (lookM mtl) mds k f args H = some r := callW_some.1 h
end Go.Proofs.Ytoemnjclhheeoaa.Ai
