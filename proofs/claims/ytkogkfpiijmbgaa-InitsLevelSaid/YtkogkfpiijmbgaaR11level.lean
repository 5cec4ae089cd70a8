/- InitsLevel of layer 11: for every input it tells true. No condition. -/
import Derived.Test.YtkogkfpiijmbgaaG8
import Derived.Test.YtkogkfpiijmbgaaRows
import Derived.ProofKit
set_option linter.unusedSimpArgs false
set_option linter.unusedVariables false
set_option linter.unusedSectionVars false
namespace Go.Proofs.Ytkogkfpiijmbgaa
open Go.ChangeShapes Go.WideShapes Go.ChangeAt Go.RowKit
open Go.Ai (AV AO F RT argsR rtE lookF lookM litB litI law_rowR)
set_option maxRecDepth 100000 in
theorem level_law (avs : List AV) (h : argsR Try.prog (rtE Try.prog [24] 12) [24] [Ai.tExpr] avs) : ∃ k H', Go.Ai.call (lookF Ai.tb) Ai.ovs (lookM Ai.mtl) Ai.mds k 3 avs [] = some (.ret (litB true), H') := by
  match avs, h with
  | [a], h =>
    obtain ⟨t, rfl⟩ := Ai.expr_arg h.1
    obtain ⟨H', hc⟩ := Ai.level3_tells t
    obtain ⟨k, hk⟩ := Ai.cw_told hc
    exact ⟨k, H', hk⟩
set_option maxRecDepth 100000 in
theorem level_lifted (os : Os) (started : os.Started) (H : Type) (enc : TypeId × Value → H) :
    ReturnsInHanded {} Try.checked os 3 .any (Rows.initsLevelSpec.pre6 enc Try.prog Try.f3 Rows.initsLevelRow.domain false) (Rows.initsLevelSpec.post enc Try.prog Try.f3 false true false false) := by
  refine returnsInHanded_of_change (C := Try.checked) (by kernel_rfl) started (by kernel_rfl) Try.func3
    (ChangeSpec.witness6 (enc := enc) (C := Try.checked) false ⟨#[], #[.agg #[.int .i64 0, .string ⟨#[]⟩, .slice none 0 0, .int .i64 0]], []⟩ 8 (by kernel_rfl) (by kernel_rfl) (by kernel_rfl) (by kernel_rfl)) ?_
  intro W base args ds gs before hval0 hW hcnd _
  have hval : ∀ (j : Nat) t v, Try.f3.params[j]? = some t → args[j]? = some v → Value.okWide Try.prog W .any base t v := hval0
  exact law_rowR Ai.linked (FF := Ai.fn3) rfl (fn := Try.f3) (ts := [24]) (N := [24]) (k0 := 12) (b := 4) (by kernel_rfl) (by rw [Try.params3]) (by kernel_rfl) (by kernel_rfl)
    (fun t ht => by
      simp only [List.mem_cons, List.not_mem_nil, or_false] at ht
      subst ht
      exact ⟨by kernel_rfl, of_decide_eq_true (by kernel_rfl)⟩) rfl Try.underlying4 rfl
    (fun ds hd => by
      match ds, hd with
      | [a], _ => rfl) level_law W base args ds gs before hval hW
theorem initsLevel_holds : Rows.InitsLevelSaid :=
  OpenClaim.holds_of_wide 3 Try.f3 rfl rfl rfl rfl rfl rfl rfl ⟨rfl, rfl, rfl, rfl, rfl⟩ rfl rfl rfl rfl rfl (by kernel_rfl) Try.func3 (by kernel_rfl)
    (of_decide_eq_true (by kernel_rfl)) (by unfold Func.isWrapper; rw [if_neg (by decide +kernel)]; exact ⟨rfl, rfl⟩)
    (fun os started H enc _ => level_lifted os started H enc)
end Go.Proofs.Ytkogkfpiijmbgaa
