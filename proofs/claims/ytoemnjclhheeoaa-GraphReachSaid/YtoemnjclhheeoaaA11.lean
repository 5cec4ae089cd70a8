/- The abstract interpreter: every operation is sound. No condition. -/
import Derived.Test.YtoemnjclhheeoaaA10
namespace Go.Ai
set_option linter.unusedVariables false
set_option linter.unusedSimpArgs false
set_option linter.unusedSectionVars false

abbrev MtF := TypeId → String → Option (FuncId × Option (Option Nat))

/-- The methods are found as the table says. -/
def MtOk (P : Program) (mt : MtF) : Prop := ∀ t name f d, mt t name = some (f, d) →
  match d with
  | none => ∀ (v : Value) (w : World), (method (P.types.size + Made.depth) t v name).run P w = .ok (f, v) w
  | some n => ∃ elem, nOf P elem = some n ∧ ∀ (a : Addr) (u : Value) (w : World), (loadVar elem a).run P w = .ok u w → (method (P.types.size + Made.depth) t (.pointer (some a)) name).run P w = .ok (f, u) w

section
variable {P : Program} {g : G} {w : World} {H : List AO} {id : Nat} {o : Oper} {act : Act} {fr : Fr}

theorem OpOk.run {out : Out} {v : Value} {w' : World} (h : (execOp act.eval o).run P w = .ok (.value v) w') (ha : After g w H id out false v w') : OpOk P o act g w H id out := by
  intro next Q hn _
  unfold Oper.wp
  rw [h]
  exact hn v w' ha

theorem OpOk.skip {out : Out} {w' : World} (h : (execOp act.eval o).run P w = .ok .skip w') (ha : After g w H id out false undef w') : OpOk P o act g w H id out := by
  intro next Q hn _
  unfold Oper.wp
  rw [h]
  exact hn undef w' ha

theorem OpOk.panics {out : Out} {v : Value} {w' : World} (h : (execOp act.eval o).run P w = .halt (.panic v) w') (ha : After g w H id out true v w') : OpOk P o act g w H id out := by
  intro next Q _ hp
  unfold Oper.wp
  rw [h]
  exact hp v w' ha

theorem OpOk.call {out : Out} {f : FuncId} {vs : Array Value} (h : (execOp act.eval o).run P w = (callFunc f vs).run P w) (hc : FOk P f vs w (AfterE g w H id out)) : OpOk P o act g w H id out := by
  intro next Q hn hp
  unfold Oper.wp
  rw [h]
  rcases hc with ⟨h1, h2⟩ | ⟨v, w', h1, h2⟩
  · rw [h1]
    refine h2.mono ?_
    rintro e w' (⟨v, rfl, ha⟩ | ⟨v, rfl, ha⟩)
    · exact hn v w' ha
    · exact hp v w' ha
  · rw [h1]
    rcases h2 with ⟨u, e, ha⟩ | ⟨u, e, _⟩
    · cases e; exact hn _ w' ha
    · cases e

/-- A value that leaves all as it was. -/
theorem OpOk.val {v : AV} {s : Sem Value} (R : Rel g w H) (h : execOp act.eval o = (do pure (.value (← s)) : Sem Next)) (hs : ∃ z, s.run P w = .ok z w ∧ VR g w v z) : OpOk P o act g w H id (.val v none) := by
  obtain ⟨z, h1, h2⟩ := hs
  refine OpOk.run (v := z) (w' := w) ?_ ⟨rfl, g, rfl, h2, R, Stp.refl⟩
  rw [h]; simp [h1]

theorem evs_vr (F : FRel g w fr act) (xs : Array Operand) : VRs g w ((xs.toList.map cx).map (ev fr)) (xs.map act.eval).toList := by
  rw [Array.toList_map]; exact VRs.map F _

theorem foldS_none (f : Int → Int → Int) : ∀ (xs : List AV), xs.foldl (foldS f) none = none
  | [] => rfl
  | _ :: xs => foldS_none f xs

theorem foldS_run {f : Int → Int → Int} {op : Value → Value → Sem Value} (hop : ∀ k a k' b, op (.int k a) (.int k' b) = pure (.int k (f a b))) : ∀ (xs : List AV) (vs : List Value) (k : IntKind) (a : Int) (r : AV), VRs g w xs vs →
    xs.foldl (foldS f) (some (litI k a)) = some r → ∃ z, (vs.foldlM op (.int k a)).run P w = .ok z w ∧ VR g w r z := by
  intro xs
  induction xs with
  | nil =>
    intro vs k a r hv h
    have : vs = [] := List.eq_nil_of_length_eq_zero hv.1.symm
    subst this
    simp only [List.foldl_nil, Option.some.injEq] at h; subst h
    exact ⟨_, rfl, .fv _ _ (.lit _)⟩
  | cons x xs ih =>
    intro vs k a r hv h
    cases vs with
    | nil => have := hv.1; simp at this
    | cons v vs =>
      have hx := hv.2 0 x v rfl rfl
      have ht : VRs g w xs vs := ⟨by have := hv.1; simpa using this, fun i a u h1 h2 => hv.2 (i + 1) a u (by simpa using h1) (by simpa using h2)⟩
      simp only [List.foldl_cons] at h
      cases x with
      | lit u =>
        cases u with
        | int k' b =>
          rw [hx.lit_inv]
          obtain ⟨z, h1, h2⟩ := ih vs k (f a b) r ht h
          exact ⟨z, by simp only [List.foldlM_cons, hop, Sem.run_bind, Sem.run_pure, Result.andThen_ok]; exact h1, h2⟩
        | _ => exact absurd h (by simp [foldS, litI, foldS_none])
      | _ => exact absurd h (by simp [foldS, litI, foldS_none])

theorem foldI_run {f : Int → Int → Int} {op : Value → Value → Sem Value} (hop : ∀ k a k' b, op (.int k a) (.int k' b) = pure (.int k (f a b))) {xs : List AV} {vs : List Value} {r : AV} (hv : VRs g w xs vs) (h : foldI f xs = some r) :
    ∃ x rest z, vs = x :: rest ∧ (rest.foldlM op x).run P w = .ok z w ∧ VR g w r z := by
  unfold foldI at h
  split at h
  · rename_i k a xs
    cases vs with
    | nil => have := hv.1; simp at this
    | cons v vs =>
      have hx := hv.2 0 _ v rfl rfl
      have ht : VRs g w xs vs := ⟨by have := hv.1; simpa using this, fun i a u h1 h2 => hv.2 (i + 1) a u (by simpa using h1) (by simpa using h2)⟩
      rw [hx.lit_inv]
      obtain ⟨z, h1, h2⟩ := foldS_run (P := P) hop xs vs k a r ht h
      exact ⟨_, _, z, rfl, h1, h2⟩
  · cases h

theorem mapM_parts {P : Program} {fs : Array Field} : ∀ {parts : List (Nat × Operand)} {ps : List (Nat × Nat × X)},
    (parts.mapM fun p => (fs[p.1]?).bind fun f => (tsize P f.type).bind fun n => some (f.offset, n, cx p.2)) = some ps →
    ps.length = parts.length ∧ ∀ (j : Nat) (p : Nat × Operand) (q : Nat × Nat × X), parts[j]? = some p → ps[j]? = some q → ∃ f, fs[p.1]? = some f ∧ q.1 = f.offset ∧ tsize P f.type = some q.2.1 ∧ q.2.2 = cx p.2
  | [], ps, h => by simp at h; subst h; simp
  | p :: parts, ps, h => by
    rw [List.mapM_cons] at h
    obtain ⟨q, h1, h⟩ := Option.bind_eq_some_iff.1 h
    obtain ⟨qs, h2, h⟩ := Option.bind_eq_some_iff.1 h
    simp only [Option.pure_def, Option.some.injEq] at h; subst h
    obtain ⟨f, hf, h1⟩ := Option.bind_eq_some_iff.1 h1
    obtain ⟨n, hn, h1⟩ := Option.bind_eq_some_iff.1 h1
    simp only [Option.some.injEq] at h1; subst h1
    obtain ⟨g1, g2⟩ := mapM_parts h2
    refine ⟨by simp [g1], fun j p' q' hp hq => ?_⟩
    cases j with
    | zero => simp at hp hq; subst hp; subst hq; exact ⟨f, hf, rfl, hn, rfl⟩
    | succ j => simp at hp hq; exact g2 j p' q' hp hq

theorem run_places {fs : Array Field} (h : fs.all (fun f => (tsize P f.type).isSome) = true) :
    (fs.mapM fun f => do pure (f.offset, ← sizeOf f.type) : Sem (Array (Nat × Nat))).run P w = .ok (fs.map fun f => (f.offset, (tsize P f.type).getD 0)) w := by
  have : ∀ (l : List Field), (∀ f ∈ l, (tsize P f.type).isSome = true) → (l.mapM fun f => do pure (f.offset, ← sizeOf f.type) : Sem (List (Nat × Nat))).run P w = .ok (l.map fun f => (f.offset, (tsize P f.type).getD 0)) w := by
    intro l
    induction l with
    | nil => intro _; rfl
    | cons f l ih =>
      intro hl
      have hf := hl f (by simp)
      cases hs : tsize P f.type with
      | none => rw [hs] at hf; cases hf
      | some n =>
        rw [List.mapM_cons]
        simp only [Sem.run_bind, run_sizeOf' hs, Result.andThen_ok, Sem.run_pure, ih (fun f hf => hl f (List.mem_cons_of_mem _ hf))]
        simp [hs]
  rw [Array.mapM_eq_mapM_toList]
  simp only [Sem.run_map, this fs.toList (fun f hf => by
    have := Array.all_eq_true.1 h
    obtain ⟨i, hi, rfl⟩ := List.mem_iff_getElem.1 hf
    have h2 := this i (by simpa using hi)
    simpa using h2), Result.andThen_ok]
  congr 1
  apply Array.ext'
  simp

theorem fieldPlace_run {a : Addr} {fd : Field} {n : Nat} (hn : tsize P fd.type = some n) (h0 : ¬ n = 0) : (fieldPlace a fd).run P w = .ok (a.add fd.offset) w := by
  unfold fieldPlace
  simp [run_sizeOf' hn, h0]
end
end Go.Ai
