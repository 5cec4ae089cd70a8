/- The abstract interpreter: loops whose rounds end with more than is kept. No condition. -/
import Derived.Test.YtoemnjclhheeoaaA33
namespace Go.Ai
set_option linter.unusedVariables false
set_option linter.unusedSimpArgs false

theorem keep_keep (l : List Nat) (fr : Fr) : keep l (keep l fr) = keep l fr := by
  unfold keep; rw [List.filter_filter]; simp
theorem loopN_keep (body : Fr → List AO → Option S) (l : List Nat) : ∀ (n : Nat) (fr : Fr) (H : List AO), loopN body l n (keep l fr) H = loopN body l n fr H
  | 0, _, _ => rfl
  | n + 1, fr, H => by simp only [loopN, keep_keep]
theorem loopW_keep (body : Fr → List AO → Option S) (l : List Nat) (fr : Fr) (H : List AO) : loopW body l (keep l fr) H = loopW body l fr H := by
  unfold loopW; congr 1; funext n; exact loopN_keep body l n fr H
/-- A round of a loop; what is not kept is let go. -/
theorem loopW_next {body : Fr → List AO → Option S} {l : List Nat} {fr fr1 fr' : Fr} {H H' : List AO} {s : S} (h : body (keep l fr) H = some (.normal, fr1, H')) (hk : keep l fr1 = fr') (h' : loopW body l fr' H' = some s) : loopW body l fr H = some s := by
  subst hk
  rw [loopW_keep] at h'
  exact loopW_round h h'

/-- It ends, and so. -/
def Ends (x : Option S) (Q : EX → Fr → List AO → Prop) : Prop := ∃ e fr H, x = some (e, fr, H) ∧ Q e fr H
theorem Ends.mono {x : Option S} {Q Q' : EX → Fr → List AO → Prop} (h : Ends x Q) (hq : ∀ e fr H, Q e fr H → Q' e fr H) : Ends x Q' := by
  obtain ⟨e, fr, H, h1, h2⟩ := h; exact ⟨e, fr, H, h1, hq _ _ _ h2⟩

theorem loop_ends {body : Fr → List AO → Option S} {l : List Nat} {I : Nat → Fr → List AO → Prop} {Q : EX → Fr → List AO → Prop} (hQ : ∀ fr H, ¬ Q .normal fr H)
    (step : ∀ m fr H, I m fr H → Ends (body fr H) (fun e fr' H' => (e = .normal ∧ ∃ m', m' < m ∧ I m' (keep l fr') H') ∨ Q e fr' H')) : ∀ m fr H, I m (keep l fr) H → Ends (loopW body l fr H) Q := by
  intro m
  induction m using Nat.strongRecOn with
  | ind m ih =>
    intro fr H hI
    obtain ⟨e, fr', H', h1, h2⟩ := step m _ _ hI
    rcases h2 with ⟨rfl, m', hm, hI'⟩ | hq
    · obtain ⟨e, fr2, H2, h3, h4⟩ := ih m' hm fr' H' hI'
      exact ⟨e, fr2, H2, loopW_round h1 h3, h4⟩
    · exact ⟨e, fr', H', loopW_out h1 (fun h => by subst h; exact hQ _ _ hq), hq⟩
end Go.Ai
