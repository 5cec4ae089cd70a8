/- The abstract interpreter: what an operation asks. No condition. -/
import Derived.Test.YtoemnjclhheeoaaA14
namespace Go.Ai
set_option linter.unusedVariables false
set_option linter.unusedSimpArgs false
set_option linter.unusedSectionVars false
section
variable {P : Program} {H : List AO} {id : Nat} {fr fr' : Fr} {call : CallF} {mt : MtF} {md : FuncId → Md} {ow : List Nat}

/-- What asks no heap answers the same in each. -/
theorem core_N {o : Oper} {i : I} {out : Out} (hN : isN P o.op = true) (hc : compI P ow o = some i) (h : core call mt md H id i fr = some out) : ∃ a, out = .val a none ∧ ∀ H' id', core call mt md H' id' i fr = some (.val a none) := by
  have bind : ∀ {x : Option AV} {out : Out}, (x.bind fun v => some (Out.val v none)) = some out → ∃ a, out = .val a none ∧ (x.bind fun v => some (Out.val v none)) = some (.val a none) := by
    intro x out h
    obtain ⟨v, h1, h2⟩ := Option.bind_eq_some_iff.1 h
    simp only [Option.some.injEq] at h2
    exact ⟨v, h2.symm, by rw [h1]; rfl⟩
  have some' : ∀ {v : AV} {out : Out}, some (Out.val v none) = some out → ∃ a, out = .val a none ∧ some (Out.val v none) = some (.val a none) := by
    intro v out h
    simp only [Option.some.injEq] at h
    exact ⟨v, h.symm, rfl⟩
  have fin : ∀ {x : Option Out}, x = some out → (∀ H' id', core call mt md H' id' i fr = x) → (∃ a, out = .val a none ∧ x = some (.val a none)) → ∃ a, out = .val a none ∧ ∀ H' id', core call mt md H' id' i fr = some (.val a none) :=
    fun _ hx ⟨a, h1, h2⟩ => ⟨a, h1, fun H' id' => (hx H' id').trans h2⟩
  obtain ⟨dst, op, type, pos, after, guard⟩ := o
  cases op with
  | move x => simp only [compI, Option.some.injEq] at hc; subst hc; exact fin h (fun _ _ => rfl) (some' h)
  | assign x => simp only [compI, Option.some.injEq] at hc; subst hc; exact fin h (fun _ _ => rfl) (some' h)
  | pick c a b =>
    simp only [compI, Option.some.injEq] at hc; subst hc
    refine fin h (fun _ _ => rfl) ?_
    simp only [core] at h ⊢
    obtain ⟨v, h1, h2⟩ := Option.bind_eq_some_iff.1 h
    simp only [Option.some.injEq] at h2
    exact ⟨_, h2.symm, by rw [h1]; rfl⟩
  | build t parts =>
    simp only [compI] at hc
    obtain ⟨z, hz, hc⟩ := Option.bind_eq_some_iff.1 hc
    have key : ∀ ps, i = .build z ps → ∃ a, out = .val a none ∧ ∀ H' id', core call mt md H' id' i fr = some (.val a none) := by
      rintro ps rfl
      refine fin h (fun _ _ => rfl) ?_
      simp only [core] at h ⊢
      obtain ⟨v, h1, h2⟩ := Option.bind_eq_some_iff.1 h
      simp only [Option.some.injEq] at h2
      exact ⟨_, h2.symm, by rw [h1]; rfl⟩
    split at hc
    · split at hc
      · obtain ⟨ps, _, hc⟩ := Option.bind_eq_some_iff.1 hc
        simp only [Option.some.injEq] at hc; exact key _ hc.symm
      · cases hc
    · obtain ⟨ps, _, hc⟩ := Option.bind_eq_some_iff.1 hc
      simp only [Option.some.injEq] at hc; exact key _ hc.symm
    · cases hc
  | nilCheck x => simp only [compI, Option.some.injEq] at hc; subst hc; exact fin h (fun _ _ => rfl) (bind h)
  | binOp op xt x y yt =>
    simp only [compI] at hc
    split at hc <;> first
      | (cases hc; done)
      | (simp only [Option.some.injEq] at hc; subst hc; exact fin h (fun _ _ => rfl) (bind h))
  | unOp op xt x => simp only [compI, Option.some.injEq] at hc; subst hc; exact fin h (fun _ _ => rfl) (bind h)
  | fieldAddr s x f =>
    simp only [compI] at hc
    split at hc
    · obtain ⟨fd, _, hc⟩ := Option.bind_eq_some_iff.1 hc
      obtain ⟨n, _, hc⟩ := Option.bind_eq_some_iff.1 hc
      split at hc
      · cases hc
      · simp only [Option.some.injEq] at hc; subst hc; exact fin h (fun _ _ => rfl) (bind h)
    · cases hc
  | field s x f =>
    simp only [compI] at hc
    split at hc
    · obtain ⟨fd, _, hc⟩ := Option.bind_eq_some_iff.1 hc
      obtain ⟨n, _, hc⟩ := Option.bind_eq_some_iff.1 hc
      simp only [Option.some.injEq] at hc; subst hc
      refine fin h (fun _ _ => rfl) ?_
      simp only [core] at h ⊢
      split at h
      · exact bind h
      · cases h
    · cases hc
  | indexAddr t x ix =>
    simp only [compI] at hc
    split at hc
    · obtain ⟨n, _, hc⟩ := Option.bind_eq_some_iff.1 hc
      simp only [Option.some.injEq] at hc; subst hc; exact fin h (fun _ _ => rfl) (bind h)
    · obtain ⟨n, _, hc⟩ := Option.bind_eq_some_iff.1 hc
      simp only [Option.some.injEq] at hc; subst hc
      refine fin h (fun _ _ => rfl) ?_
      simp only [core] at h ⊢
      obtain ⟨j, h1, h2⟩ := Option.bind_eq_some_iff.1 h
      obtain ⟨a, e1, e2⟩ := bind h2
      exact ⟨a, e1, by rw [h1]; exact e2⟩
    · cases hc
  | index t x ix =>
    simp only [compI] at hc
    split at hc
    · simp only [Option.some.injEq] at hc; subst hc; exact fin h (fun _ _ => rfl) (bind h)
    · obtain ⟨n, _, hc⟩ := Option.bind_eq_some_iff.1 hc
      obtain ⟨m, _, hc⟩ := Option.bind_eq_some_iff.1 hc
      simp only [Option.some.injEq] at hc; subst hc
      refine fin h (fun _ _ => rfl) ?_
      simp only [core] at h ⊢
      split at h
      · obtain ⟨j, h1, h2⟩ := Option.bind_eq_some_iff.1 h
        obtain ⟨a, e1, e2⟩ := bind h2
        exact ⟨a, e1, by rw [h1]; exact e2⟩
      · cases h
    · cases hc
  | slice t x lo hi mx =>
    simp only [compI] at hc
    split at hc
    · split at hc
      · simp only [Option.some.injEq] at hc; subst hc; exact fin h (fun _ _ => rfl) (bind h)
      · cases hc
    · obtain ⟨n, _, hc⟩ := Option.bind_eq_some_iff.1 hc
      simp only [Option.some.injEq] at hc; subst hc; exact fin h (fun _ _ => rfl) (bind h)
    · cases hc
  | extract t ix =>
    simp only [compI, Option.some.injEq] at hc; subst hc
    refine fin h (fun _ _ => rfl) ?_
    simp only [core] at h ⊢
    split at h
    · exact bind h
    · cases h
  | makeInterface t x =>
    simp only [compI] at hc
    split at hc <;> first
      | (cases hc; done)
      | (simp only [Option.some.injEq] at hc; subst hc; exact fin h (fun _ _ => rfl) (some' h))
  | typeAssert x xt asserted ok =>
    simp only [compI] at hc
    split at hc
    · cases hc
    · obtain ⟨z, _, hc⟩ := Option.bind_eq_some_iff.1 hc
      simp only [Option.some.injEq] at hc; subst hc
      refine fin h (fun _ _ => rfl) ?_
      simp only [core] at h ⊢
      split at h
      · rename_i t' v _
        cases hb : (asserted == t') <;> rw [hb] at h <;> simp only [cond_true, cond_false] at h
        · cases ok
          · cases h
          · exact some' h
        · exact some' h
      · cases ok
        · cases h
        · exact some' h
      · cases h
    · cases hc
  | makeFunc fn first cap => simp only [compI, Option.some.injEq] at hc; subst hc; exact fin h (fun _ _ => rfl) (some' h)
  | call c =>
    obtain ⟨callee, args, argTypes⟩ := c
    cases callee with
    | value f => simp [isN] at hN
    | invoke r n => simp [isN] at hN
    | builtin b =>
      cases b <;> first
        | (simp [isN] at hN; done)
        | skip
      · simp only [compI, compCall] at hc
        split at hc
        · split at hc <;> first
            | (cases hc; done)
            | (simp only [Option.some.injEq] at hc; subst hc; exact fin h (fun _ _ => rfl) (bind h))
        · cases hc
      · simp only [compI, compCall, Option.some.injEq] at hc; subst hc; exact fin h (fun _ _ => rfl) (bind h)
      · simp only [compI, compCall, Option.some.injEq] at hc; subst hc; exact fin h (fun _ _ => rfl) (bind h)
  | _ => simp [isN] at hN
end
end Go.Ai
