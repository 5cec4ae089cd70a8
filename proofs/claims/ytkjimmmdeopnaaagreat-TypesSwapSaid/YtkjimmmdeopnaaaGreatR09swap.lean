/- TypesSwap of layer 9: for every input it tells true. No condition. -/
import Derived.Test.YtkjimmmdeopnaaaGreatG8
import Derived.Test.YtkjimmmdeopnaaaGreatRows
import Derived.ProofKit
import Derived.SizedLaws
set_option linter.unusedSimpArgs false
set_option linter.unusedVariables false
set_option linter.unusedSectionVars false
namespace Go.Proofs.YtkjimmmdeopnaaaGreat
open Go.ChangeShapes Go.WideShapes Go.ChangeAt Go.RowKit
open Go.Ai (AV AO F RT argsR rtE lookF lookM litB litI law_rowR)
set_option maxRecDepth 100000 in
theorem swap_law (avs : List AV) (h : argsR Tryz.prog (rtE Tryz.prog [28, 65] 12) [25, 29, 9] [Ai.tProg, Ai.tTwo, .str] avs) : ∃ k H', Go.Ai.call (lookF Ai.tb) Ai.ovs (lookM Ai.mtl) Ai.mds k 3 avs [] = some (.ret (litB true), H') := by
  match avs, h with
  | [a, b, c], h =>
    obtain ⟨p, rfl, ok⟩ := Ai.prog_arg h.1
    obtain ⟨t, u, rfl⟩ := Ai.two_arg' h.2.1
    obtain ⟨s, rfl⟩ := Ai.str_arg h.2.2.1
    obtain ⟨H', hc⟩ := Ai.swap3_tells p ok t u s
    obtain ⟨k, hk⟩ := Ai.cw_told hc
    exact ⟨k, H', hk⟩
set_option maxRecDepth 100000 in
theorem swap_lifted (os : Os) (started : os.Started) (H : Type) (enc : TypeId × Value → H) :
    ReturnsInHanded {} Tryz.checked os 3 .any (Rows.typesSwapSpec.pre6 enc Tryz.prog Tryz.f3 Rows.typesSwapRow.domain false) (Rows.typesSwapSpec.post enc Tryz.prog Tryz.f3 false true false false) := by
  refine returnsInHanded_of_change_sized (C := Tryz.checked) (by kernel_rfl) started (by kernel_rfl) Tryz.func3
    (ChangeSpec.witness6 (enc := enc) (C := Tryz.checked) false ⟨#[], #[.agg #[.slice none 0 0, .slice none 0 0], .agg #[.int .i64 0, .string ⟨#[]⟩, .slice none 0 0, .int .i64 0, .int .i64 0, .string ⟨#[]⟩, .slice none 0 0, .int .i64 0], .string ⟨#[]⟩], []⟩ 12 (by kernel_rfl) (by kernel_rfl) (by kernel_rfl) (by kernel_rfl)) ?_
  intro W base args ds gs before hval0 hW hcnd hwt _
  have hval : ∀ (j : Nat) t v, Tryz.f3.params[j]? = some t → args[j]? = some v → Value.okWide Tryz.prog W .any base t v := hval0
  exact law_rowR Ai.linked (FF := Ai.fn3) rfl (fn := Tryz.f3) (ts := [25, 29, 9]) (N := [28, 65]) (k0 := 12) (b := 4) (by kernel_rfl) (by rw [Tryz.params3]) (by kernel_rfl) (by kernel_rfl)
    (fun t ht => by
      simp only [List.mem_cons, List.not_mem_nil, or_false] at ht
      rcases ht with rfl | rfl | rfl <;> exact ⟨by kernel_rfl, of_decide_eq_true (by kernel_rfl)⟩) rfl Tryz.underlying4 rfl
    (fun ds hd => by
      match ds, hd with
      | [a, b, c], _ => rfl) swap_law W base args ds gs before hval hW hwt
theorem typesSwap_holds : Rows.TypesSwapSaid :=
  OpenClaim.holds_of_wide 3 Tryz.f3 rfl rfl rfl rfl rfl rfl rfl ⟨rfl, rfl, rfl, rfl, rfl⟩ rfl rfl rfl rfl rfl (by kernel_rfl) Tryz.func3 (by kernel_rfl)
    (of_decide_eq_true (by kernel_rfl)) (by unfold Func.isWrapper; rw [if_neg (by decide +kernel)]; exact ⟨rfl, rfl⟩)
    (fun os started H enc _ => swap_lifted os started H enc)
end Go.Proofs.YtkjimmmdeopnaaaGreat
