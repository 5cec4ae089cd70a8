/- GraphReach of layer 7: for every graph and place, what is reached is what is needed, and what that reaches. No condition. -/
import Derived.Test.YtoemnjclhheeoaaG07
import Derived.Test.YtoemnjclhheeoaaRows
import Derived.ProofKit
namespace Go.Proofs.Ytoemnjclhheeoaa
open Go.ChangeShapes Go.WideShapes Go.ChangeAt Go.RowKit
open Go.Ai (AV AO F Ty lookF lookM litB litI argsSh law_row)

/-- What is handed in as a graph is one. -/
theorem graph_args {a : AV} (h : (Ty.sl (.sl (.int .i64))).Sh [a]) : ∃ g, a = Ai.gA g := by
  obtain ⟨xs, e, hx⟩ := h
  simp only [List.cons.injEq, and_true] at e
  subst e
  have row : ∀ x ∈ xs, ∃ r, x = [Ai.rowA r] := by
    intro x hxm
    obtain ⟨ys, e, hy⟩ := hx x hxm
    subst e
    have : ∀ (ys : List (List AV)), (∀ y ∈ ys, (Ty.int .i64).Sh y) → ∃ r : List Int, ys = r.map fun i => [litI .i64 i] := by
      intro ys
      induction ys with
      | nil => intro _; exact ⟨[], rfl⟩
      | cons y ys ih =>
        intro h
        obtain ⟨n, e, _⟩ := h y (List.mem_cons_self ..)
        obtain ⟨r, er⟩ := ih fun y hy => h y (List.mem_cons_of_mem _ hy)
        exact ⟨n :: r, by rw [e, er]; rfl⟩
    obtain ⟨r, e⟩ := this ys hy
    subst e
    exact ⟨r, rfl⟩
  have : ∀ (xs : List (List AV)), (∀ x ∈ xs, ∃ r, x = [Ai.rowA r]) → ∃ g : List (List Int), xs = g.map fun r => [Ai.rowA r] := by
    intro xs
    induction xs with
    | nil => intro _; exact ⟨[], rfl⟩
    | cons x xs ih =>
      intro h
      obtain ⟨r, e⟩ := h x (List.mem_cons_self ..)
      obtain ⟨g, eg⟩ := ih fun y hy => h y (List.mem_cons_of_mem _ hy)
      exact ⟨r :: g, by rw [e, eg]; rfl⟩
  obtain ⟨g, e⟩ := this xs row
  subst e
  exact ⟨g, rfl⟩

theorem reach_law (avs : List AV) (h : argsSh Try.prog [22, 3] [.sl (.sl (.int .i64)), .int .i64] avs) : ∃ k H', Go.Ai.call (lookF Ai.tb) Ai.ovs (lookM Ai.mtl) Ai.mds k 6 avs [] = some (.ret (litB true), H') := by
  obtain ⟨a, b, rfl, h1, h2⟩ := Go.Ai.argsSh_two h
  unfold Go.Ai.argSh at h1 h2
  rw [Try.underlying22] at h1
  rw [Try.underlying3] at h2
  simp only at h1 h2
  obtain ⟨g, rfl⟩ := graph_args h1
  obtain ⟨i, e, _⟩ := h2
  simp only [List.cons.injEq, and_true] at e
  subst e
  obtain ⟨H', hc⟩ := Ai.law_tells g i
  obtain ⟨k, hk⟩ := Ai.cw_told hc
  exact ⟨k, H', hk⟩

set_option maxRecDepth 100000 in
theorem reach_lifted (os : Os) (started : os.Started) (H : Type) (enc : TypeId × Value → H) :
    ReturnsInHanded {} Try.checked os 6 .any (Rows.graphReachSpec.pre6 enc Try.prog Try.f6 Rows.graphReachRow.domain false) (Rows.graphReachSpec.post enc Try.prog Try.f6 false true false false) := by
  refine returnsInHanded_of_change (C := Try.checked) (by kernel_rfl) started (by kernel_rfl) Try.func6
    (ChangeSpec.witness6 (enc := enc) (C := Try.checked) false ⟨#[], #[.slice none 0 0, .int .i64 0], []⟩ 8 (by kernel_rfl) (by kernel_rfl) (by kernel_rfl) (by kernel_rfl)) ?_
  intro W base args ds gs before hval0 hW hcnd _
  have hval : ∀ (j : Nat) t v, Try.f6.params[j]? = some t → args[j]? = some v → Value.okWide Try.prog W .any base t v := hval0
  exact law_row Ai.linked (FF := Ai.fn6) rfl (fn := Try.f6) (ts := [22, 3]) (k0 := 5) (b := 4) (by kernel_rfl) (by rw [Try.params6]) (by kernel_rfl)
    (fun t ht => by
      simp only [List.mem_cons, List.not_mem_nil, or_false] at ht
      rcases ht with rfl | rfl
      · exact ⟨by kernel_rfl, of_decide_eq_true (by kernel_rfl)⟩
      · exact ⟨by kernel_rfl, of_decide_eq_true (by kernel_rfl)⟩) rfl Try.underlying4 rfl
    (fun ds hd => by
      match ds, hd with
      | [a, b], _ => rfl) reach_law W base args ds gs before hval hW

theorem graphReach_holds : Rows.GraphReachSaid :=
  OpenClaim.holds_of_wide 6 Try.f6 rfl rfl rfl rfl rfl rfl rfl ⟨rfl, rfl, rfl, rfl, rfl⟩ rfl rfl rfl rfl rfl (by kernel_rfl) Try.func6 (by kernel_rfl)
    (of_decide_eq_true (by kernel_rfl)) (by unfold Func.isWrapper; rw [if_neg (by decide +kernel)]; exact ⟨rfl, rfl⟩)
    (fun os started H enc _ => reach_lifted os started H enc)
end Go.Proofs.Ytoemnjclhheeoaa
