/- The abstract interpreter: what a drawn region needs. No condition. -/
import Derived.Test.YtoemnjclhheeoaaA16
namespace Go.Ai
set_option linter.unusedVariables false
set_option linter.unusedSimpArgs false
set_option linter.unusedSectionVars false

theorem get_filter (p : Nat → Bool) (t : Nat) : ∀ fr : Fr, get (fr.filter fun q => p q.1) t = if p t = true then get fr t else .any
  | [] => by simp [get]
  | (k, a) :: fr => by
    have ih := get_filter p t fr
    by_cases hk : p k = true
    · rw [List.filter_cons_of_pos (by simpa using hk)]
      simp only [get]
      by_cases e : k = t
      · subst e; simp [hk]
      · rw [beq_of_ne e]; simp only [cond_false]; exact ih
    · rw [List.filter_cons_of_neg (by simpa using hk)]
      simp only [get]
      by_cases e : k = t
      · subst e; rw [ih]; simp [hk]
      · rw [beq_of_ne e]; simp only [cond_false]; exact ih

theorem get_keep_mem {l : List Nat} {fr : Fr} {t : Nat} (h : t ∈ l) : get (keep l fr) t = get fr t := by
  have := get_filter (fun k => l.contains k) t fr
  rw [if_pos (by simpa using h)] at this
  exact this

theorem get_keep_not {l : List Nat} {fr : Fr} {t : Nat} (h : ¬ t ∈ l) : get (keep l fr) t = .any := by
  have := get_filter (fun k => l.contains k) t fr
  rw [if_neg (by simpa using h)] at this
  exact this

theorem get_dropD (os : List O) (fr : Fr) (t : Nat) : get (dropD os fr) t = .any ∨ (get (dropD os fr) t = get fr t ∧ ∀ o ∈ os, o.dst ≠ some t) := by
  have := get_filter (fun k => !(os.any fun o => o.dst == some k)) t fr
  by_cases h : (!(os.any fun o => o.dst == some t)) = true
  · rw [if_pos h] at this
    right
    refine ⟨this, fun o ho e => ?_⟩
    simp only [Bool.not_eq_true', List.any_eq_false] at h
    exact h o ho (by simp [e])
  · rw [if_neg h] at this
    exact .inl this

/-! ### What stands ahead -/
def AncOk (acc : List (List Nat)) (l : List Oper) : Prop :=
  acc.length = l.length ∧ ∀ i o p, l[i]? = some o → p ∈ acc.getD i [] → ∃ q ∈ preds o, p = q ∨ p ∈ acc.getD q []

theorem mem_anc_fold (acc : List (List Nat)) (p : Nat) : ∀ (ps l0 : List Nat), p ∈ ps.foldl (fun l p => p :: (acc.getD p []) ++ l) l0 → p ∈ l0 ∨ ∃ q ∈ ps, p = q ∨ p ∈ acc.getD q []
  | [], l0, h => .inl h
  | q :: ps, l0, h => by
    rw [List.foldl_cons] at h
    rcases mem_anc_fold acc p ps _ h with h | ⟨q', h1, h2⟩
    · rcases List.mem_append.1 h with h | h
      · rcases List.mem_cons.1 h with h | h
        · exact .inr ⟨q, List.mem_cons_self .., .inl h⟩
        · exact .inr ⟨q, List.mem_cons_self .., .inr h⟩
      · exact .inl h
    · exact .inr ⟨q', List.mem_cons_of_mem _ h1, h2⟩

theorem AncOk.snoc {acc : List (List Nat)} {l : List Oper} (h : AncOk acc l) (o : Oper) : AncOk (acc ++ [(preds o).foldl (fun l p => p :: (acc.getD p []) ++ l) []]) (l ++ [o]) := by
  obtain ⟨h1, h2⟩ := h
  have up : ∀ (x : List Nat) (q p : Nat), p ∈ acc.getD q [] → p ∈ (acc ++ [x]).getD q [] := by
    intro x q p hp
    rw [List.getD_eq_getElem?_getD] at hp ⊢
    cases he : acc[q]? with
    | none => rw [he] at hp; simp at hp
    | some y => rw [List.getElem?_append_left (List.getElem?_eq_some_iff.1 he).1, he]; rw [he] at hp; exact hp
  refine ⟨by simp [h1], fun i o' p hi hp => ?_⟩
  by_cases hlt : i < l.length
  · rw [List.getElem?_append_left hlt] at hi
    rw [List.getD_eq_getElem?_getD, List.getElem?_append_left (by omega), ← List.getD_eq_getElem?_getD] at hp
    obtain ⟨q, a, b⟩ := h2 i o' p hi hp
    exact ⟨q, a, b.imp_right (up _ _ _)⟩
  · have hlen := (List.getElem?_eq_some_iff.1 hi).1
    have hi' : i = l.length := by simp at hlen; omega
    subst hi'
    rw [List.getElem?_append_right (Nat.le_refl _)] at hi
    simp at hi; subst hi
    rw [List.getD_eq_getElem?_getD, List.getElem?_append_right (by omega), h1] at hp
    simp only [Nat.sub_self, List.getElem?_cons_zero, Option.getD_some] at hp
    rcases mem_anc_fold acc p _ _ hp with h | ⟨q, a, b⟩
    · cases h
    · exact ⟨q, a, b.imp_right (up _ _ _)⟩

theorem anc_ok (l : List Oper) : AncOk (anc l) l := by
  have key : ∀ (l done : List Oper) (acc : List (List Nat)), AncOk acc done →
      AncOk (l.foldl (fun acc o => acc ++ [(preds o).foldl (fun l p => p :: (acc.getD p []) ++ l) []]) acc) (done ++ l) := by
    intro l
    induction l with
    | nil => intro done acc h; simpa using h
    | cons o l ih =>
      intro done acc h
      rw [List.foldl_cons]
      have := ih (done ++ [o]) _ (h.snoc o)
      simpa using this
  exact key l [] [] ⟨rfl, by simp⟩

/-- Where all that stands directly ahead is in, all that stands ahead is. -/
theorem anc_in {l : List Oper} {L : Nat → Prop} (hp : ∀ i o, l[i]? = some o → ∀ q ∈ preds o, q < i) (hL : ∀ j o, L j → l[j]? = some o → ∀ q ∈ preds o, L q) :
    ∀ (i : Nat) (o : Oper), l[i]? = some o → (∀ q ∈ preds o, L q) → ∀ p ∈ (anc l).getD i [], L p := by
  intro i
  induction i using Nat.strongRecOn with
  | _ i ih =>
    intro o hi hq p hm
    obtain ⟨q, h1, h2⟩ := (anc_ok l).2 i o p hi hm
    rcases h2 with rfl | h2
    · exact hq _ h1
    · have hlt := hp i o hi q h1
      have hlen : q < l.length := Nat.lt_trans hlt (List.getElem?_eq_some_iff.1 hi).1
      exact ih q hlt l[q] (List.getElem?_eq_getElem hlen) (hL q _ (hq q h1) (List.getElem?_eq_getElem hlen)) p h2

/-! ### Heaps that are alike -/
theorem Rel.pad {g : G} {w : World} {H : List AO} (R : Rel g w H) (k : Nat) : Rel g w (H ++ List.replicate k .dead) := by
  have at_ : ∀ (r : Nat) (cs : List AV) (t : TypeId), (H ++ List.replicate k AO.dead)[r]? = some (.row cs t) → H[r]? = some (.row cs t) := by
    intro r cs t h
    by_cases hr : r < H.length
    · rwa [List.getElem?_append_left hr] at h
    · rw [List.getElem?_append_right (by omega)] at h
      rw [List.getElem?_replicate] at h
      split at h <;> cases h
  have lv : ∀ r, Live (H ++ List.replicate k AO.dead) r → Live H r := fun r ⟨cs, t, h⟩ => ⟨cs, t, at_ r cs t h⟩
  exact ⟨R.lt, fun r cs t h => R.obj r cs t (at_ r cs t h), fun r r' h h' => R.inj r r' (lv r h) (lv r' h'), fun r h => by have := R.dom r h; simp; omega, fun r h => R.lv r (lv r h)⟩

theorem Rel.strip {g : G} {w : World} {H Y : List AO} (R : Rel g w (H ++ Y)) (hD : ∀ r, g.D r → r < H.length) : Rel g w H := by
  have at_ : ∀ (r : Nat) (cs : List AV) (t : TypeId), H[r]? = some (.row cs t) → (H ++ Y)[r]? = some (.row cs t) := by
    intro r cs t h
    rw [List.getElem?_append_left (List.getElem?_eq_some_iff.1 h).1]; exact h
  have lv : ∀ r, Live H r → Live (H ++ Y) r := fun r ⟨cs, t, h⟩ => ⟨cs, t, at_ r cs t h⟩
  exact ⟨R.lt, fun r cs t h => R.obj r cs t (at_ r cs t h), fun r r' h h' => R.inj r r' (lv r h) (lv r' h'), hD, fun r h => R.lv r (lv r h)⟩

theorem Stp.alike {g g' : G} {w w' : World} {H H' H'' : List AO} (s : Stp g w H g' w' H') (h : ∀ r, Live H'' r → Live H' r) : Stp g w H g' w' H'' :=
  ⟨s.os, s.tape, s.output, s.size, s.S, s.D, s.ρ, s.σ, s.keep, s.frz, fun r hr => s.live r (h r hr), s.fro⟩
theorem Stp.alikeL {g g' : G} {w w' : World} {H H0 H' : List AO} (s : Stp g w H g' w' H') (h : ∀ r, Live H r ↔ Live H0 r) : Stp g w H0 g' w' H' :=
  ⟨s.os, s.tape, s.output, s.size, s.S, s.D, s.ρ, s.σ, fun b hb hl => s.keep b hb fun r hr => hl r ((h r).1 hr), s.frz, fun r hr => (s.live r hr).imp_left fun ⟨r0, a, b⟩ => ⟨r0, (h r0).1 a, b⟩, fun b hb => (s.fro b hb).imp_right (.imp_left fun ⟨r0, a, c⟩ => ⟨r0, (h r0).1 a, c⟩)⟩

/-! ### What the text's order tells -/
section
variable {P : Program} {call : CallF} {mt : MtF} {md : FuncId → Md}

/-- One of the head. -/
def HeadAt (call : CallF) (mt : MtF) (md : FuncId → Md) (H : List AO) (id : Nat) (o : O) (fr fr' : Fr) (a : AV) (ob : AO) : Prop :=
  fr' = putD fr o.dst a ∧ ((wanted o fr = some true ∧ ∃ x, core call mt md H id o.i fr = some (.val a x) ∧ ob = x.getD .dead) ∨ (wanted o fr = some false ∧ a = .lit undef ∧ ob = .dead))

theorem runD_trace {H : List AO} {base : Nat} : ∀ (l : List O) (n : Nat) (fr fr' : Fr) (obs : List AO), runD call mt md H base n l fr = some (fr', obs) →
    obs.length = l.length ∧ ∃ F : Nat → Fr, ∃ a : Nat → AV, F 0 = fr ∧ F l.length = fr' ∧ ∀ i o ob, l[i]? = some o → obs[i]? = some ob → HeadAt call mt md H (base + (n + i)) o (F i) (F (i + 1)) (a i) ob
  | [], n, fr, fr', obs, h => by
    simp only [runD, Option.some.injEq, Prod.mk.injEq] at h
    obtain ⟨rfl, rfl⟩ := h
    exact ⟨rfl, fun _ => fr, fun _ => .any, rfl, rfl, by simp⟩
  | o :: l, n, fr, fr', obs, h => by
    have glue : ∀ (a0 : AV) (ob0 : AO) (fr1 : Fr) (obs1 : List AO), HeadAt call mt md H (base + n) o fr fr1 a0 ob0 → runD call mt md H base (n + 1) l fr1 = some (fr', obs1) → obs = ob0 :: obs1 →
        obs.length = (o :: l).length ∧ ∃ F : Nat → Fr, ∃ a : Nat → AV, F 0 = fr ∧ F (o :: l).length = fr' ∧ ∀ i o' ob, (o :: l)[i]? = some o' → obs[i]? = some ob → HeadAt call mt md H (base + (n + i)) o' (F i) (F (i + 1)) (a i) ob := by
      intro a0 ob0 fr1 obs1 h0 h1 e
      subst e
      obtain ⟨e1, F, a, f0, f1, f2⟩ := runD_trace l (n + 1) fr1 fr' obs1 h1
      refine ⟨by simp [e1], fun i => match i with | 0 => fr | i + 1 => F i, fun i => match i with | 0 => a0 | i + 1 => a i, rfl, by simpa using f1, fun i o' ob hi ho => ?_⟩
      cases i with
      | zero =>
        simp only [List.getElem?_cons_zero, Option.some.injEq] at hi ho
        subst hi; subst ho
        simp only [f0]; exact h0
      | succ i =>
        simp only [List.getElem?_cons_succ] at hi ho
        have := f2 i o' ob hi ho
        rw [show n + 1 + i = n + (i + 1) by omega] at this
        exact this
    simp only [runD] at h
    obtain ⟨b, hb, h⟩ := Option.bind_eq_some_iff.1 h
    cases b with
    | true =>
      simp only at h
      obtain ⟨out, hc, h⟩ := Option.bind_eq_some_iff.1 h
      cases out with
      | val a x =>
        cases x with
        | none =>
          obtain ⟨p, hp, h⟩ := Option.bind_eq_some_iff.1 h
          simp only [Option.some.injEq, Prod.mk.injEq] at h
          obtain ⟨rfl, rfl⟩ := h
          exact glue a .dead _ p.2 ⟨rfl, .inl ⟨hb, none, hc, rfl⟩⟩ hp rfl
        | some b =>
          obtain ⟨p, hp, h⟩ := Option.bind_eq_some_iff.1 h
          simp only [Option.some.injEq, Prod.mk.injEq] at h
          obtain ⟨rfl, rfl⟩ := h
          exact glue a b _ p.2 ⟨rfl, .inl ⟨hb, some b, hc, rfl⟩⟩ hp rfl
      | _ => cases h
    | false =>
      simp only at h
      obtain ⟨p, hp, h⟩ := Option.bind_eq_some_iff.1 h
      simp only [Option.some.injEq, Prod.mk.injEq] at h
      obtain ⟨rfl, rfl⟩ := h
      exact glue (.lit undef) .dead _ p.2 ⟨rfl, .inr ⟨hb, rfl, rfl⟩⟩ hp rfl

/-- How an operation of the tail goes on. -/
def Goes (H : List AO) : Out → AV → List AO → Prop
  | .val a none, a', H' => a' = a ∧ H' = H
  | .val a (some b), a', H' => a' = a ∧ H' = H ++ [b]
  | .wr a H1, a', H' => a' = a ∧ H' = H1
  | .fz a ids, a', H' => a' = a ∧ H' = killH H ids 0 H
  | .pan _ _, _, _ => False

def TailAt (call : CallF) (mt : MtF) (md : FuncId → Md) (o : O) (fr : Fr) (H : List AO) (fr' : Fr) (H' : List AO) (a : AV) : Prop :=
  fr' = putD fr o.dst a ∧ ((wanted o fr = some true ∧ ∃ out, core call mt md H H.length o.i fr = some out ∧ Goes H out a H') ∨ (wanted o fr = some false ∧ a = .lit undef ∧ H' = H))

theorem runT_trace : ∀ (l : List O) (fr : Fr) (H : List AO) (s : SR), runT call mt md l fr H = some s →
    ∃ F : Nat → Fr, ∃ HH : Nat → List AO, ∃ a : Nat → AV, ∃ m, F 0 = fr ∧ HH 0 = H ∧ (∀ i o, i < m → l[i]? = some o → TailAt call mt md o (F i) (HH i) (F (i + 1)) (HH (i + 1)) (a i)) ∧
      ((m = l.length ∧ s = .go (F m) (HH m)) ∨ (m + 1 = l.length ∧ ∃ o b H', l[m]? = some o ∧ s = .pan b (F m) H' ∧ wanted o (F m) = some true ∧ core call mt md (HH m) (HH m).length o.i (F m) = some (.pan b H')))
  | [], fr, H, s, h => by
    simp only [runT, Option.some.injEq] at h; subst h
    exact ⟨fun _ => fr, fun _ => H, fun _ => .any, 0, rfl, rfl, by simp, .inl ⟨rfl, rfl⟩⟩
  | o :: l, fr, H, s, h => by
    have glue : ∀ (a0 : AV) (fr1 : Fr) (H1 : List AO), TailAt call mt md o fr H fr1 H1 a0 → runT call mt md l fr1 H1 = some s →
        ∃ F : Nat → Fr, ∃ HH : Nat → List AO, ∃ a : Nat → AV, ∃ m, F 0 = fr ∧ HH 0 = H ∧ (∀ i o', i < m → (o :: l)[i]? = some o' → TailAt call mt md o' (F i) (HH i) (F (i + 1)) (HH (i + 1)) (a i)) ∧
      ((m = (o :: l).length ∧ s = .go (F m) (HH m)) ∨ (m + 1 = (o :: l).length ∧ ∃ o' b H', (o :: l)[m]? = some o' ∧ s = .pan b (F m) H' ∧ wanted o' (F m) = some true ∧ core call mt md (HH m) (HH m).length o'.i (F m) = some (.pan b H'))) := by
      intro a0 fr1 H1 h0 h1
      obtain ⟨F, HH, a, m, f0, f1, f2, f3⟩ := runT_trace l fr1 H1 s h1
      refine ⟨fun i => match i with | 0 => fr | i + 1 => F i, fun i => match i with | 0 => H | i + 1 => HH i, fun i => match i with | 0 => a0 | i + 1 => a i, m + 1, rfl, rfl, fun i o' hi ho => ?_, ?_⟩
      · cases i with
        | zero =>
          simp only [List.getElem?_cons_zero, Option.some.injEq] at ho
          subst ho
          simp only [f0, f1]; exact h0
        | succ i =>
          simp only [List.getElem?_cons_succ] at ho
          exact f2 i o' (by omega) ho
      · rcases f3 with ⟨e, h⟩ | ⟨e, o', b, H', h⟩
        · exact .inl ⟨by simp [e], h⟩
        · exact .inr ⟨by simp [e], o', b, H', by simpa using h⟩
    simp only [runT] at h
    obtain ⟨b, hb, h⟩ := Option.bind_eq_some_iff.1 h
    cases b with
    | true =>
      simp only at h
      obtain ⟨s1, hs, h⟩ := Option.bind_eq_some_iff.1 h
      unfold stepT at hs
      obtain ⟨out, hc, hs⟩ := Option.bind_eq_some_iff.1 hs
      cases out with
      | val a x =>
        cases x with
        | none =>
          simp only [Option.some.injEq] at hs; subst hs
          exact glue a _ H ⟨rfl, .inl ⟨hb, _, hc, rfl, rfl⟩⟩ h
        | some b =>
          simp only [Option.some.injEq] at hs; subst hs
          exact glue a _ _ ⟨rfl, .inl ⟨hb, _, hc, rfl, rfl⟩⟩ h
      | wr a H' =>
        simp only [Option.some.injEq] at hs; subst hs
        exact glue a _ _ ⟨rfl, .inl ⟨hb, _, hc, rfl, rfl⟩⟩ h
      | fz a ids =>
        simp only [Option.some.injEq] at hs; subst hs
        exact glue a _ _ ⟨rfl, .inl ⟨hb, _, hc, rfl, rfl⟩⟩ h
      | pan a H' =>
        simp only [Option.some.injEq] at hs; subst hs
        simp only at h
        cases hl : l.isEmpty with
        | false => rw [hl] at h; cases h
        | true =>
          rw [hl] at h
          simp only [cond_true, Option.some.injEq] at h
          subst h
          refine ⟨fun _ => fr, fun _ => H, fun _ => .any, 0, rfl, rfl, by simp, .inr ⟨?_, o, a, H', rfl, rfl, hb, hc⟩⟩
          simp only [List.isEmpty_iff] at hl
          simp [hl]
    | false =>
      simp only at h
      exact glue (.lit undef) _ H ⟨rfl, .inr ⟨hb, rfl, rfl⟩⟩ h
end
end Go.Ai
