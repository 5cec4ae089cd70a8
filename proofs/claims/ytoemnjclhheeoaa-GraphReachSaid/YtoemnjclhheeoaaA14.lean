/- The abstract interpreter: regions in the text's order. No condition. -/
import Derived.Test.YtoemnjclhheeoaaA13
namespace Go.Ai
set_option linter.unusedVariables false
set_option linter.unusedSimpArgs false
set_option linter.unusedSectionVars false

/-- Where a run stands. -/
structure Sit (nt : Nat) (g : G) (w : World) (H : List AO) (fr : Fr) (act : Act) : Prop where
  rel : Rel g w H
  fr : FRel g w fr act
  size : act.tmps.size = nt
  defers : act.defers = []

/-- What is to hold behind a row of operations. -/
def SPost (nt : Nat) (g : G) (w : World) (H : List AO) (Q : Exit → Act → World → Prop) : SR → Prop
  | .go fr' H' => ∀ g' w' act', Stp g w H g' w' H' → Sit nt g' w' H' fr' act' → Q .normal act' w'
  | .pan a fr' H' => ∀ g' w' act' v, Stp g w H g' w' H' → Sit nt g' w' H' fr' act' → VR g' w' a v → Q (.panic [{ v, recovered := false }]) act' w'

theorem SPost.step {nt : Nat} {g g1 : G} {w w1 : World} {H H1 : List AO} {Q : Exit → Act → World → Prop} {s : SR} (h : SPost nt g w H Q s) (st : Stp g w H g1 w1 H1) : SPost nt g1 w1 H1 Q s := by
  cases s with
  | go fr' H' => exact fun g' w' act' h1 h2 => h g' w' act' (st.trans h1) h2
  | pan a fr' H' => exact fun g' w' act' v h1 h2 h3 => h g' w' act' v (st.trans h1) h2 h3

section
variable {P : Program} {g : G} {w : World} {H : List AO} {act : Act} {fr : Fr} {call : CallF} {mt : MtF} {md : FuncId → Md} {ow : List Nat} {nt : Nat} {ops : Array Oper}

theorem compO_inv {o : Oper} {o' : O} (h : compO P ow nt ops o = some o') : compI P ow o = some o'.i ∧ o'.dst = o.dst ∧ (∀ d, o.dst = some d → d < nt) ∧
    ((o.guard = none ∧ o'.guard = none) ∨ ∃ j b d, o.guard = some (j, b) ∧ (ops[j]?).bind (·.dst) = some d ∧ o'.guard = some (d, b)) := by
  unfold compO at h
  obtain ⟨i, hi, h⟩ := Option.bind_eq_some_iff.1 h
  by_cases hd : dstOk nt o.dst = true
  case neg => rw [if_neg hd] at h; cases h
  rw [if_pos hd] at h
  have hlt : ∀ d, o.dst = some d → d < nt := by
    intro d he
    rw [he] at hd
    simpa [dstOk, Nat.blt_eq] using hd
  cases hg : o.guard with
  | none =>
    rw [hg] at h
    simp only [Option.some.injEq] at h; subst h
    exact ⟨hi, rfl, hlt, .inl ⟨rfl, rfl⟩⟩
  | some p =>
    obtain ⟨j, b⟩ := p
    rw [hg] at h
    simp only at h
    obtain ⟨d, hd', h⟩ := Option.bind_eq_some_iff.1 h
    simp only [Option.some.injEq] at h; subst h
    exact ⟨hi, rfl, hlt, .inr ⟨j, b, d, rfl, hd', rfl⟩⟩

theorem getD_some {a : Array Value} {d : Nat} {v : Value} (h : a.getD d undef = v) (hv : v ≠ undef) : a[d]? = some v := by
  rw [Array.getD_eq_getD_getElem?] at h
  cases he : a[d]? with
  | none => rw [he] at h; exact absurd h.symm hv
  | some x => rw [he] at h; simp at h; rw [h]

theorem wanted_ok {o : Oper} {o' : O} {b : Bool} (hc : compO P ow nt ops o = some o') (F : FRel g w fr act) (h : wanted o' fr = some b) : Region.wanted o (yielded ops act.tmps) = b := by
  obtain ⟨_, _, _, hg⟩ := compO_inv hc
  unfold wanted at h
  rcases hg with ⟨h1, h2⟩ | ⟨j, c, d, h1, h2, h3⟩
  · rw [h2] at h
    simp only [Option.some.injEq] at h; subst h
    simp [Region.wanted, h1]
  · rw [h3] at h
    simp only at h
    have V := F d
    simp only [Region.wanted, h1, yielded, h2, Option.bind_some]
    split at h
    · rename_i q heq
      rw [heq] at V
      have hv := V.lit_inv
      have := getD_some hv (by simp [undef])
      rw [this]
      simp only [Option.some.injEq] at h; subst h
      cases q <;> cases c <;> rfl
    · rename_i heq
      rw [heq] at V
      have hv := V.lit_inv
      simp only [Option.some.injEq] at h; subst h
      rw [Array.getD_eq_getD_getElem?] at hv
      cases he : act.tmps[d]? with
      | none => rfl
      | some x => rw [he] at hv; simp at hv; subst hv; rfl
    · cases h

theorem get_map_kill (H : List AO) (ids : List Nat) (t : Nat) : ∀ fr : Fr, get (fr.map fun p => (p.1, kill H ids p.2)) t = kill H ids (get fr t)
  | [] => rfl
  | (k, a) :: fr => by
    simp only [List.map_cons, get]
    cases k == t
    · simp only [cond_false]; exact get_map_kill H ids t fr
    · rfl

/-- One operation, in the text's order. -/
theorem step_ok {o : Oper} {o' : O} {s : SR} (CO : CallOk P call) (MT : MtOk P mt) (hc : compO P ow nt ops o = some o') (S : Sit nt g w H fr act) (h : step call mt md o' fr H = some s) (next : Act → World → Prop) (Q : Exit → Act → World → Prop)
    (hn : ∀ fr' H', s = .go fr' H' → ∀ g' w' act', Stp g w H g' w' H' → Sit nt g' w' H' fr' act' → next act' w')
    (hp : ∀ a fr' H', s = .pan a fr' H' → ∀ g' w' v, Stp g w H g' w' H' → Sit nt g' w' H' fr' act → VR g' w' a v → Q (.panic [{ v, recovered := false }]) act w') : o.wp P act w next Q := by
  obtain ⟨hi, hdst, hlt, _⟩ := compO_inv hc
  have hD : ¬ g.D H.length := fun h => Nat.lt_irrefl _ (S.rel.dom _ h)
  have hlt' : ∀ t, o'.dst = some t → t < act.tmps.size := fun t ht => by rw [S.size]; exact hlt t (hdst ▸ ht)
  unfold step at h
  obtain ⟨out, hcore, h⟩ := Option.bind_eq_some_iff.1 h
  have K := core_ok CO MT hcore hi S.fr S.rel (Nat.le_refl _) hD
  have put : ∀ {g' : G} {w' : World} {H' : List AO} {fr' : Fr} {x : AV} {v : Value}, Rel g' w' H' → FRel g' w' fr' act → VR g' w' x v → Sit nt g' w' H' (putD fr' o'.dst x) (act.put o.dst v) := by
    intro g' w' H' fr' x v R' F' hv
    refine ⟨R', ?_, by rw [put_size]; exact S.size, by rw [put_defers]; exact S.defers⟩
    rw [← hdst]; exact F'.put o'.dst x v hv hlt'
  refine K next Q (fun v w' ha => ?_) (fun v w' ha => ?_)
  · cases out with
    | val a ob =>
      cases ob with
      | none =>
        simp only [Option.some.injEq] at h; subst h
        obtain ⟨_, g', _, h1, h2, h3⟩ := ha
        exact hn _ _ rfl g' w' _ h3 (put h2 (S.fr.step h3) h1)
      | some b =>
        simp only [Option.some.injEq] at h; subst h
        obtain ⟨_, g', _, h1, h2, h3⟩ := ha
        rw [setO_len] at h2 h3
        exact hn _ _ rfl g' w' _ h3 (put h2 (S.fr.step h3) h1)
    | wr a H' =>
      simp only [Option.some.injEq] at h; subst h
      obtain ⟨_, g', h1, h2, h3⟩ := ha
      exact hn _ _ rfl g' w' _ h3 (put h2 (S.fr.step h3) h1)
    | fz a ids =>
      simp only [Option.some.injEq] at h; subst h
      obtain ⟨_, g', h1, h2, h3, h4⟩ := ha
      refine hn _ _ rfl g' w' _ h3 (put h2 (fun t => ?_) h1)
      rw [get_map_kill]; exact h4 _ _ (S.fr t)
    | pan a H' => obtain ⟨h, _⟩ := ha; cases h
  · cases out with
    | val a ob => cases ob <;> (obtain ⟨h, _⟩ := ha; cases h)
    | wr a H' => obtain ⟨h, _⟩ := ha; cases h
    | fz a ids => obtain ⟨h, _⟩ := ha; cases h
    | pan a H' =>
      simp only [Option.some.injEq] at h; subst h
      obtain ⟨_, g', h1, h2, h3⟩ := ha
      exact hp _ _ _ rfl g' w' v h3 ⟨h2, S.fr.step h3, S.size, S.defers⟩ h1

theorem run_ok (CO : CallOk P call) (MT : MtOk P mt) {Q : Exit → Act → World → Prop} : ∀ (l : List Oper) (l' : List O) (fr : Fr) (H : List AO) (s : SR) (g : G) (w : World) (act : Act),
    l.mapM (compO P ow nt ops) = some l' → Sit nt g w H fr act → run call mt md l' fr H = some s → SPost nt g w H Q s → wpList P ops Q l act w
  | [], l', fr, H, s, g, w, act, hc, S, h, hq => by
    simp only [List.mapM_nil, Option.pure_def, Option.some.injEq] at hc; subst hc
    simp only [run, Option.some.injEq] at h; subst h
    exact wpList_nil (hq g w act Stp.refl S)
  | o :: l, l', fr, H, s, g, w, act, hc, S, h, hq => by
    rw [List.mapM_cons] at hc
    obtain ⟨o', h1, hc⟩ := Option.bind_eq_some_iff.1 hc
    obtain ⟨l2, h2, hc⟩ := Option.bind_eq_some_iff.1 hc
    simp only [Option.pure_def, Option.some.injEq] at hc; subst hc
    simp only [run] at h
    obtain ⟨b, hb, h⟩ := Option.bind_eq_some_iff.1 h
    have hw := wanted_ok h1 S.fr hb
    unfold wpList
    cases b with
    | true =>
      rw [if_pos hw]
      obtain ⟨s1, hs, h⟩ := Option.bind_eq_some_iff.1 h
      left
      refine step_ok CO MT h1 S hs _ Q (fun fr' H' e g' w' act' st S' => ?_) (fun a fr' H' e g' w' v st S' hv => ?_)
      · subst e
        exact run_ok CO MT l l2 fr' H' s g' w' act' h2 S' h (hq.step st)
      · subst e
        simp only [Option.some.injEq] at h; subst h
        exact hq g' w' act v st S' hv
    | false =>
      rw [if_neg (by rw [hw]; decide)]
      obtain ⟨_, hdst, hlt, _⟩ := compO_inv h1
      refine run_ok CO MT l l2 _ H s g w (act.put o.dst undef) h2 ⟨S.rel, ?_, by rw [put_size]; exact S.size, by rw [put_defers]; exact S.defers⟩ h hq
      rw [← hdst]
      exact S.fr.put o'.dst _ _ (.fv _ _ (.lit _)) (fun t ht => by rw [S.size]; exact hlt t (hdst ▸ ht))
end
end Go.Ai
