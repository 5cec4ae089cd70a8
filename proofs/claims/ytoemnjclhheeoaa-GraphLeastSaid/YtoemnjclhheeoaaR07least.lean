/- GraphLeast of layer 7: for every graph, no cycle through the first place of the one that is told is shorter, and no place below it lies on any. No condition. -/
import Derived.Test.YtoemnjclhheeoaaV07
import Derived.Test.YtoemnjclhheeoaaTold5
import Derived.Test.YtoemnjclhheeoaaRows
import Derived.ProofKit
namespace Go.Proofs.Ytoemnjclhheeoaa
open Go.ChangeShapes Go.WideShapes Go.ChangeAt Go.RowKit
open Go.Ai (AV AO F Ty lookF lookM litB litI argsSh law_row)

theorem least_law (avs : List AV) (h : argsSh Try.prog [22] [.sl (.sl (.int .i64))] avs) : ∃ k H', Go.Ai.call (lookF Ai.tb) Ai.ovs (lookM Ai.mtl) Ai.mds k 5 avs [] = some (.ret (litB true), H') := by
  obtain ⟨a, rfl, h1⟩ := Go.Ai.argsSh_one h
  unfold Go.Ai.argSh at h1
  rw [Try.underlying22] at h1
  simp only at h1
  obtain ⟨g, rfl⟩ := graph_args h1
  obtain ⟨H', hc⟩ := Ai.least_law g
  obtain ⟨k, hk⟩ := Ai.cw_told hc
  exact ⟨k, H', hk⟩

set_option maxRecDepth 100000 in
theorem least_lifted (os : Os) (started : os.Started) (H : Type) (enc : TypeId × Value → H) :
    ReturnsInHanded {} Try.checked os 5 .any (Rows.graphLeastSpec.pre6 enc Try.prog Try.f5 Rows.graphLeastRow.domain false) (Rows.graphLeastSpec.post enc Try.prog Try.f5 false true false false) := by
  refine returnsInHanded_of_change (C := Try.checked) (by kernel_rfl) started (by kernel_rfl) Try.func5
    (ChangeSpec.witness6 (enc := enc) (C := Try.checked) false ⟨#[], #[.slice none 0 0], []⟩ 8 (by kernel_rfl) (by kernel_rfl) (by kernel_rfl) (by kernel_rfl)) ?_
  intro W base args ds gs before hval0 hW hcnd _
  have hval : ∀ (j : Nat) t v, Try.f5.params[j]? = some t → args[j]? = some v → Value.okWide Try.prog W .any base t v := hval0
  exact law_row Ai.linked (FF := Ai.fn5) rfl (fn := Try.f5) (ts := [22]) (k0 := 5) (b := 4) (by kernel_rfl) (by rw [Try.params5]) (by kernel_rfl)
    (fun t ht => by
      simp only [List.mem_cons, List.not_mem_nil, or_false] at ht
      subst ht
      exact ⟨by kernel_rfl, of_decide_eq_true (by kernel_rfl)⟩) rfl Try.underlying4 rfl
    (fun ds hd => by
      match ds, hd with
      | [a], _ => rfl) least_law W base args ds gs before hval hW

theorem graphLeast_holds : Rows.GraphLeastSaid :=
  OpenClaim.holds_of_wide 5 Try.f5 rfl rfl rfl rfl rfl rfl rfl ⟨rfl, rfl, rfl, rfl, rfl⟩ rfl rfl rfl rfl rfl (by kernel_rfl) Try.func5 (by kernel_rfl)
    (of_decide_eq_true (by kernel_rfl)) (by unfold Func.isWrapper; rw [if_neg (by decide +kernel)]; exact ⟨rfl, rfl⟩)
    (fun os started H enc _ => least_lifted os started H enc)
end Go.Proofs.Ytoemnjclhheeoaa
