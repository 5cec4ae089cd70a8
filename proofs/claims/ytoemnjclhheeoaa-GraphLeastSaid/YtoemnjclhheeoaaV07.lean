/- Layer 7: what is handed in as a graph is one. No condition. -/
import Derived.Test.YtoemnjclhheeoaaTold1
import Derived.ProofKit
namespace Go.Proofs.Ytoemnjclhheeoaa
open Go.ChangeShapes Go.WideShapes Go.ChangeAt Go.RowKit
open Go.Ai (AV AO F Ty lookF lookM litB litI argsSh law_row)

/-- What is handed in as a graph is one. -/
theorem graph_args {a : AV} (h : (Ty.sl (.sl (.int .i64))).Sh [a]) : ∃ g, a = Ai.gA g := by
  obtain ⟨xs, e, hx⟩ := h
  simp only [List.cons.injEq, and_true] at e
  subst e
  have row : ∀ x ∈ xs, ∃ r, x = [Ai.rowA r] := by
    intro x hxm
    obtain ⟨ys, e, hy⟩ := hx x hxm
    subst e
    have : ∀ (ys : List (List AV)), (∀ y ∈ ys, (Ty.int .i64).Sh y) → ∃ r : List Int, ys = r.map fun i => [litI .i64 i] := by
      intro ys
      induction ys with
      | nil => intro _; exact ⟨[], rfl⟩
      | cons y ys ih =>
        intro h
        obtain ⟨n, e, _⟩ := h y (List.mem_cons_self ..)
        obtain ⟨r, er⟩ := ih fun y hy => h y (List.mem_cons_of_mem _ hy)
        exact ⟨n :: r, by rw [e, er]; rfl⟩
    obtain ⟨r, e⟩ := this ys hy
    subst e
    exact ⟨r, rfl⟩
  have : ∀ (xs : List (List AV)), (∀ x ∈ xs, ∃ r, x = [Ai.rowA r]) → ∃ g : List (List Int), xs = g.map fun r => [Ai.rowA r] := by
    intro xs
    induction xs with
    | nil => intro _; exact ⟨[], rfl⟩
    | cons x xs ih =>
      intro h
      obtain ⟨r, e⟩ := h x (List.mem_cons_self ..)
      obtain ⟨g, eg⟩ := ih fun y hy => h y (List.mem_cons_of_mem _ hy)
      exact ⟨r :: g, by rw [e, eg]; rfl⟩
  obtain ⟨g, e⟩ := this xs row
  subst e
  exact ⟨g, rfl⟩

end Go.Proofs.Ytoemnjclhheeoaa
