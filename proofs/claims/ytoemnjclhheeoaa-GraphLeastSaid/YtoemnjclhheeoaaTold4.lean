/- Layer 7: the shortest way back, in plain Lean. No condition. -/
import Derived.Test.YtoemnjclhheeoaaTold3
namespace Go.Proofs.Ytoemnjclhheeoaa.Ai
open Go Go.Ai
set_option linter.unusedSimpArgs false
set_option linter.unusedVariables false

/-- So many steps from a place to another one. -/
inductive Walk (g : List (List Int)) : Nat → Int → Int → Prop
  | zero (a : Int) : Walk g 0 a a
  | snoc {n : Nat} {a b c : Int} (w : Walk g n a b) (h : c ∈ need g b.toNat) : Walk g (n + 1) a c

structure BI (g : List (List Int)) (F : Int) (B l dn : List Int) (dep : Int → Nat) : Prop where
  lB : B.length = g.length
  rng : ∀ z ∈ l ++ dn, 0 ≤ z ∧ z < (g.length : Int)
  kn : ∀ k : Int, 0 ≤ k → k < g.length → (k ∈ l ++ dn ↔ (k = F ∨ 0 ≤ B.getD k.toNat (-1)))
  par : ∀ k : Int, 0 ≤ k → k < g.length → 0 ≤ B.getD k.toNat (-1) → k ≠ F ∧ B.getD k.toNat (-1) ∈ l ++ dn ∧ k ∈ need g (B.getD k.toNat (-1)).toNat ∧ dep k = dep (B.getD k.toNat (-1)) + 1
  dF : dep F = 0
  fr : 0 ≤ F ∧ F < (g.length : Int)
  dnn : ∀ z ∈ dn, ∀ y ∈ need g z.toNat, y ≠ F ∧ y ∈ l ++ dn ∧ dep y ≤ dep z + 1
  c1 : l.Pairwise fun a b => dep a ≤ dep b
  c2 : ∀ a ∈ l, ∀ z ∈ dn, dep z ≤ dep a
  c3 : ∀ x r, l = x :: r → ∀ a ∈ l, dep a ≤ dep x + 1

theorem getB_set {B : List Int} {k j : Nat} {x : Int} (hk : k < B.length) : (B.set k x).getD j (-1) = if k = j then x else B.getD j (-1) := by
  rw [List.getD_eq_getElem?_getD, List.getD_eq_getElem?_getD, List.getElem?_set]
  by_cases e : k = j
  · subst e; simp [hk]
  · simp [e]

/-- One that is new. -/
theorem BI.mark {g : List (List Int)} {F : Int} {B r dn : List Int} {x k : Int} {dep : Int → Nat} (I : BI g F B (x :: r) dn dep) (hk0 : 0 ≤ k) (hk1 : k < g.length) (hkF : k ≠ F) (hB : B.getD k.toNat (-1) < 0) (hx : k ∈ need g x.toNat) :
    ∃ dep', BI g F (B.set k.toNat x) (x :: r ++ [k]) dn dep' ∧ dep' x = dep x ∧ dep' k = dep x + 1 ∧ (∀ z ∈ x :: r ++ dn, dep' z = dep z) := by
  have hkS : ¬ k ∈ x :: r ++ dn := fun h => by
    rcases (I.kn k hk0 hk1).1 h with h | h
    · exact hkF h
    · omega
  have hkl : k.toNat < B.length := by rw [I.lB]; omega
  have hxS : x ∈ x :: r ++ dn := by simp
  have hxr := I.rng x hxS
  have hd : ∀ z ∈ x :: r ++ dn, (if z = k then dep x + 1 else dep z) = dep z := fun z hz => by
    rw [if_neg]; exact fun e => hkS (e ▸ hz)
  have hmem : ∀ z, z ∈ x :: r ++ [k] ++ dn ↔ z = k ∨ z ∈ x :: r ++ dn := by
    intro z
    simp only [List.mem_append, List.mem_cons, List.mem_singleton, List.not_mem_nil, or_false]
    constructor
    · rintro ((h | h) | h) <;> simp [h]
    · rintro (h | h | h) <;> simp [h]
  have hset : ∀ j : Int, 0 ≤ j → j ≠ k → (B.set k.toNat x).getD j.toNat (-1) = B.getD j.toNat (-1) := fun j hj he => by
    rw [getB_set hkl, if_neg (by omega)]
  have hsk : (B.set k.toNat x).getD k.toNat (-1) = x := by rw [getB_set hkl, if_pos rfl]
  have hFS : F ∈ x :: r ++ dn := (I.kn F I.fr.1 I.fr.2).2 (.inl rfl)
  refine ⟨fun z => if z = k then dep x + 1 else dep z, ⟨by simpa using I.lB, fun z hz => ?_, fun j h0 h1 => ?_, fun j h0 h1 hj => ?_, ?_, I.fr, fun z hz y hy => ?_, ?_, fun a ha z hz => ?_, fun x' r' e a ha => ?_⟩, hd x hxS, by simp, hd⟩
  · rcases (hmem z).1 hz with rfl | hz
    · exact ⟨hk0, hk1⟩
    · exact I.rng z hz
  · rw [hmem]
    by_cases e : j = k
    · subst e
      rw [hsk]
      exact ⟨fun _ => .inr hxr.1, fun _ => .inl rfl⟩
    · rw [hset j h0 e, ← I.kn j h0 h1]
      exact ⟨fun h => h.resolve_left e, .inr⟩
  · by_cases e : j = k
    · subst e
      rw [hsk]
      refine ⟨hkF, (hmem x).2 (.inr hxS), hx, ?_⟩
      simp only [if_true]
      rw [hd x hxS]
    · rw [hset j h0 e] at hj ⊢
      obtain ⟨p1, p2, p3, p4⟩ := I.par j h0 h1 hj
      refine ⟨p1, (hmem _).2 (.inr p2), p3, ?_⟩
      rw [if_neg e, hd _ p2]
      exact p4
  · rw [if_neg (Ne.symm hkF)]; exact I.dF
  · obtain ⟨q1, q2, q3⟩ := I.dnn z hz y hy
    refine ⟨q1, (hmem y).2 (.inr q2), ?_⟩
    rw [hd y q2, hd z (List.mem_append_right _ hz)]
    exact q3
  · rw [List.pairwise_append]
    refine ⟨List.Pairwise.imp_of_mem (fun {a b} ha hb h => ?_) I.c1, by simp, fun a ha b hb => ?_⟩
    · rw [hd a (List.mem_append_left _ ha), hd b (List.mem_append_left _ hb)]; exact h
    · simp only [List.mem_singleton] at hb
      subst hb
      simp only [if_true]
      rw [hd a (List.mem_append_left _ ha)]
      exact I.c3 x r rfl a ha
  · rcases List.mem_append.1 ha with ha | ha
    · rw [hd a (List.mem_append_left _ ha), hd z (List.mem_append_right _ hz)]
      exact I.c2 a ha z hz
    · simp only [List.mem_singleton] at ha
      subst ha
      simp only [if_true]
      rw [hd z (List.mem_append_right _ hz)]
      have := I.c2 x (List.mem_cons_self ..) z hz
      omega
  · simp only [List.cons_append, List.cons.injEq] at e
    obtain ⟨rfl, rfl⟩ := e
    rw [hd x hxS]
    rcases List.mem_append.1 (show a ∈ (x :: r) ++ [k] from ha) with ha | ha
    · rw [hd a (List.mem_append_left _ ha)]
      exact I.c3 x r rfl a ha
    · simp only [List.mem_singleton] at ha
      subst ha
      simp

/-- One that was there. -/
theorem BI.near {g : List (List Int)} {F : Int} {B r dn : List Int} {x k : Int} {dep : Int → Nat} (I : BI g F B (x :: r) dn dep) (hk : k ∈ x :: r ++ dn) : dep k ≤ dep x + 1 := by
  rcases List.mem_append.1 hk with h | h
  · exact I.c3 x r rfl k h
  · have := I.c2 x (List.mem_cons_self ..) k h
    omega

/-- A place is done. -/
theorem BI.done {g : List (List Int)} {F : Int} {B r dn : List Int} {x : Int} {dep : Int → Nat} (I : BI g F B (x :: r) dn dep) (h : ∀ y ∈ need g x.toNat, y ≠ F ∧ y ∈ x :: r ++ dn ∧ dep y ≤ dep x + 1) : BI g F B r (x :: dn) dep := by
  have hmem : ∀ z, z ∈ r ++ x :: dn ↔ z ∈ x :: r ++ dn := by
    intro z
    simp only [List.mem_append, List.mem_cons]
    constructor
    · rintro (h | h | h) <;> simp [h]
    · rintro ((h | h) | h) <;> simp [h]
  have hc := I.c1
  rw [List.pairwise_cons] at hc
  refine ⟨I.lB, fun z hz => I.rng z ((hmem z).1 hz), fun k h0 h1 => by rw [hmem]; exact I.kn k h0 h1, fun k h0 h1 hk => ?_, I.dF, I.fr, fun z hz y hy => ?_, hc.2, fun a ha z hz => ?_, fun x' r' e a ha => ?_⟩
  · obtain ⟨p1, p2, p3, p4⟩ := I.par k h0 h1 hk
    exact ⟨p1, (hmem _).2 p2, p3, p4⟩
  · rcases List.mem_cons.1 hz with rfl | hz
    · obtain ⟨q1, q2, q3⟩ := h y hy
      exact ⟨q1, (hmem _).2 q2, q3⟩
    · obtain ⟨q1, q2, q3⟩ := I.dnn z hz y hy
      exact ⟨q1, (hmem _).2 q2, q3⟩
  · rcases List.mem_cons.1 hz with rfl | hz
    · exact hc.1 a ha
    · exact I.c2 a (List.mem_cons_of_mem _ ha) z hz
  · subst e
    have h1 := I.c3 x _ rfl a (List.mem_cons_of_mem _ ha)
    have h2 := hc.1 x' (List.mem_cons_self ..)
    omega

/-- The way up to the beginning. -/
def Up (B : List Int) (F : Int) : List Int → Int → Prop
  | [], i => i = F
  | a :: p, i => a = i ∧ i ≠ F ∧ 0 ≤ i ∧ i.toNat < B.length ∧ Up B F p (B.getD i.toNat (-1))

theorem BI.up {g : List (List Int)} {F : Int} {B l dn : List Int} {dep : Int → Nat} (I : BI g F B l dn dep) : ∀ (m : Nat) (i : Int), i ∈ l ++ dn → dep i = m →
    ∃ p, p.length = m ∧ Up B F p i ∧ (∀ a ∈ p, 0 ≤ a ∧ a < (g.length : Int)) ∧ (p ++ [F]).Pairwise (fun a b => dep b < dep a) ∧ (∀ a ∈ p ++ [F], dep a ≤ m) ∧ (p ++ [F]).head? = some i ∧
      ∀ t : Nat, t + 1 < (p ++ [F]).length → (p ++ [F]).getD t 0 ∈ need g ((p ++ [F]).getD (t + 1) 0).toNat
  | 0, i, hi, hd => by
    have hr := I.rng i hi
    have : i = F := by
      rcases (I.kn i hr.1 hr.2).1 hi with h | h
      · exact h
      · have := (I.par i hr.1 hr.2 h).2.2.2; omega
    subst this
    exact ⟨[], rfl, rfl, by simp, by simp, by simp [I.dF], rfl, fun t ht => by simp at ht⟩
  | m + 1, i, hi, hd => by
    have hr := I.rng i hi
    have hiF : i ≠ F := fun e => by subst e; have := I.dF; omega
    have hb : 0 ≤ B.getD i.toNat (-1) := by
      rcases (I.kn i hr.1 hr.2).1 hi with h | h
      · exact absurd h hiF
      · exact h
    obtain ⟨_, p2, p3, p4⟩ := I.par i hr.1 hr.2 hb
    obtain ⟨p, q1, q2, q3, q4, q5, q6, q7⟩ := I.up m _ p2 (by omega)
    refine ⟨i :: p, by simp [q1], ⟨rfl, hiF, hr.1, by rw [I.lB]; omega, q2⟩, fun a ha => ?_, ?_, fun a ha => ?_, rfl, fun t ht => ?_⟩
    · rcases List.mem_cons.1 ha with rfl | ha
      · exact hr
      · exact q3 a ha
    · rw [List.cons_append, List.pairwise_cons]
      refine ⟨fun b hb => ?_, q4⟩
      have := q5 b hb
      omega
    · rw [List.cons_append] at ha
      rcases List.mem_cons.1 ha with rfl | ha
      · omega
      · have := q5 a ha; omega
    · cases t with
      | zero =>
        have e : (i :: p ++ [F]).getD 1 0 = B.getD i.toNat (-1) := by
          rw [List.cons_append, List.getD_eq_getElem?_getD, List.getElem?_cons_succ, ← List.head?_eq_getElem?, q6]; rfl
        rw [e]
        exact p3
      | succ t =>
        have := q7 t (by simpa using ht)
        simpa using this

/-- Nothing leads back in fewer steps. -/
theorem BI.level {g : List (List Int)} {F : Int} {B r dn : List Int} {x : Int} {dep : Int → Nat} (I : BI g F B (x :: r) dn dep) : ∀ (n : Nat) (y : Int), n ≤ dep x → Walk g n F y → y ∈ x :: r ++ dn ∧ dep y ≤ n ∧ (0 < n → y ≠ F)
  | 0, y, hn, w => by
    cases w
    exact ⟨(I.kn F I.fr.1 I.fr.2).2 (.inl rfl), by rw [I.dF]; exact Nat.le_refl _, fun h => absurd h (by omega)⟩
  | n + 1, y, hn, w => by
    cases w with
    | snoc w h =>
      rename_i b
      obtain ⟨k1, k2, _⟩ := I.level n b (by omega) w
      have hbd : b ∈ dn := by
        rcases List.mem_append.1 k1 with h | h
        · have := I.c1
          rw [List.pairwise_cons] at this
          rcases List.mem_cons.1 h with rfl | h
          · omega
          · have := this.1 b h; omega
        · exact h
      obtain ⟨q1, q2, q3⟩ := I.dnn b hbd y h
      exact ⟨q2, by omega, fun _ => q1⟩

/-- What is told of a cycle. -/
structure Cyc (g : List (List Int)) (F : Int) (c : List Int) : Prop where
  pos : 0 < c.length
  le : c.length ≤ g.length
  first : c.getD 0 0 = F
  rng : ∀ a ∈ c, 0 ≤ a ∧ a < (g.length : Int)
  nd : c.Nodup
  next : ∀ j : Nat, j < c.length → c.getD ((j + 1) % c.length) 0 ∈ need g (c.getD j 0).toNat
  least : ∀ n : Nat, 0 < n → n < c.length → ¬ Walk g n F F

theorem getD_rev (q : List Int) (j : Nat) (h : j < q.length) : q.reverse.getD j 0 = q.getD (q.length - 1 - j) 0 := by
  rw [List.getD_eq_getElem?_getD, List.getD_eq_getElem?_getD, List.getElem?_reverse h]

theorem BI.cyc {g : List (List Int)} {F : Int} {B r dn : List Int} {x : Int} {dep : Int → Nat} (I : BI g F B (x :: r) dn dep) (hF : F ∈ need g x.toNat) : ∃ p, Up B F p x ∧ p.length < g.length ∧ (∀ a ∈ p, 0 ≤ a ∧ a < (g.length : Int)) ∧ Cyc g F (p ++ [F]).reverse := by
  obtain ⟨p, q1, q2, q3, q4, q5, q6, q7⟩ := I.up (dep x) x (by simp) rfl
  have hnd : (p ++ [F]).Nodup := q4.imp fun {a b} h e => by subst e; omega
  have hrng : ∀ a ∈ p ++ [F], 0 ≤ a ∧ a < (g.length : Int) := by
    intro a ha
    rcases List.mem_append.1 ha with ha | ha
    · exact q3 a ha
    · simp only [List.mem_singleton] at ha; subst ha; exact I.fr
  have hle := nodup_le g.length _ hnd hrng
  have hx0 : (p ++ [F]).getD 0 0 = x := by rw [List.getD_eq_getElem?_getD, ← List.head?_eq_getElem?, q6]; rfl
  have hlast : (p ++ [F]).getD ((p ++ [F]).length - 1) 0 = F := by
    have : (p ++ [F]).length - 1 = p.length := by simp
    rw [this, List.getD_eq_getElem?_getD]; simp
  have hlen : (p ++ [F]).length = p.length + 1 := by simp
  refine ⟨p, q2, by omega, q3, ⟨by simp, by simpa using hle, ?_, fun a ha => hrng a (List.mem_reverse.1 ha), (List.reverse_perm _).nodup_iff.2 hnd, fun j hj => ?_, fun n h0 hn w => ?_⟩⟩
  · rw [getD_rev _ _ (by simp), Nat.sub_zero]; exact hlast
  · rw [List.length_reverse] at hj ⊢
    rw [getD_rev _ j hj]
    by_cases e : j + 1 = (p ++ [F]).length
    · rw [e, Nat.mod_self, getD_rev _ 0 (by omega), Nat.sub_zero, hlast, show (p ++ [F]).length - 1 - j = 0 by omega, hx0]
      exact hF
    · rw [Nat.mod_eq_of_lt (by omega), getD_rev _ (j + 1) (by omega)]
      have := q7 ((p ++ [F]).length - 1 - (j + 1)) (by omega)
      rw [show (p ++ [F]).length - 1 - (j + 1) + 1 = (p ++ [F]).length - 1 - j by omega] at this
      exact this
  · rw [List.length_reverse, hlen, q1] at hn
    exact (I.level n F (by omega) w).2.2 h0 rfl

theorem BI.init {g : List (List Int)} {F : Int} (h0 : 0 ≤ F) (h1 : F < g.length) : BI g F (List.replicate g.length (-1)) [F] [] (fun _ => 0) := by
  have hg : ∀ k : Nat, (List.replicate g.length (-1 : Int)).getD k (-1) = -1 := fun k => by
    rw [List.getD_eq_getElem?_getD, List.getElem?_replicate]; split <;> rfl
  refine ⟨by simp, fun z hz => ?_, fun k hk0 hk1 => ?_, fun k hk0 hk1 hk => ?_, rfl, ⟨h0, h1⟩, by simp, by simp, by simp, by simp⟩
  · simp at hz; subst hz; exact ⟨h0, h1⟩
  · rw [hg]; simp
  · rw [hg] at hk; omega

/-- Where nothing leads on any more, nothing leads back. -/
theorem BI.ends {g : List (List Int)} {F : Int} {B dn : List Int} {dep : Int → Nat} (I : BI g F B [] dn dep) {f : Nat} (hf : F = f) : ¬ Road g f f := by
  subst hf
  have key : ∀ {a b : Nat}, Road g a b → (a : Int) ∈ dn → (b : Int) ≠ f ∧ (b : Int) ∈ dn := by
    intro a b r
    induction r with
    | one h =>
      intro ha
      obtain ⟨q1, q2, _⟩ := I.dnn _ ha _ (by simpa using h)
      exact ⟨q1, by simpa using q2⟩
    | more h r ih =>
      intro ha
      obtain ⟨q1, q2, _⟩ := I.dnn _ ha _ (by simpa using h)
      exact ih (by simpa using q2)
  intro r
  have hF : (f : Int) ∈ dn := by simpa using (I.kn f I.fr.1 I.fr.2).2 (.inl rfl)
  exact (key r hF).1 rfl

/-- A walk of some steps is a road. -/
theorem Walk.road {g : List (List Int)} : ∀ {n : Nat} {a b : Int}, Walk g n a b → 0 ≤ a → 0 < n → 0 ≤ b → Road g a.toNat b.toNat
  | 0, _, _, _, _, h, _ => absurd h (by omega)
  | n + 1, a, c, .snoc (b := b) w h, ha, _, hc => by
    have hc' : (c.toNat : Int) = c := by omega
    by_cases h0 : n = 0
    · subst h0
      cases w
      exact .one (by rw [hc']; exact h)
    · have hb : 0 ≤ b := by
        cases w with
        | zero => exact ha
        | snoc w h => exact (need_rng _ _ h).1
      exact (Walk.road w ha (by omega) hb).snoc (by rw [hc']; exact h)
end Go.Proofs.Ytoemnjclhheeoaa.Ai

namespace Go.Proofs.Ytoemnjclhheeoaa.Ai
open Go Go.Ai
set_option linter.unusedSimpArgs false
set_option linter.unusedVariables false

/-- A queue of ints. -/
def Qu (A : AV) (l : List Int) (o : List Obj1) : Prop :=
  (A = .sl 1 (l.map fun i => [litI .i64 i]) (some l.length) ∧ o = []) ∨ ∃ p off cs, A = .own p off l.length 1 none ∧ o = [(p, cs, 3)] ∧ (cs.drop off).take l.length = cellsI l ∧ off + l.length ≤ cs.length

section
variable {A : AV} {l r : List Int} {o d : List Obj1} {x : Int} {H : List AO}
theorem Qu.lenV (h : Qu A l o) : Ai.lenV A = some (litI .i64 l.length) := by
  rcases h with ⟨rfl, _⟩ | ⟨p, off, cs, rfl, _⟩
  · simp [Ai.lenV]
  · rfl
theorem Qu.head (h : Qu A (x :: r) o) (O : Own H (o ++ d)) : ∃ c, iadr 1 A (litI .i64 0) = some c ∧ Ai.load H none c = some (litI .i64 x) := by
  rcases h with ⟨rfl, _⟩ | ⟨p, off, cs, rfl, rfl, h1, h2⟩
  · exact ⟨.ip [litI .i64 x], by rw [iadr_sl]; rfl, rfl⟩
  · refine ⟨.ptr p off, ?_, load_of (show H[p]? = some (.row cs 3) from O.head) ?_⟩
    · rw [iadr_own, if_pos ⟨by omega, by simp only [List.length_cons]; omega⟩]; simp
    · have : ((cs.drop off).take (x :: r).length)[0]? = some (litI .i64 x) := by rw [h1]; rfl
      rw [List.getElem?_take, if_pos (by simp), List.getElem?_drop] at this
      exact this
theorem bound_one {n : Nat} (h : 1 ≤ n) : bound (litI .i64 1) n = some 1 := by
  have : (decide ((0 : Int) ≤ 1) && decide ((1 : Int) ≤ (n : Int))) = true := by
    rw [Bool.and_eq_true, decide_eq_true_eq, decide_eq_true_eq]; omega
  simp only [bound, litI, this, cond_true]
  rfl
theorem Qu.cut (h : Qu A (x :: r) o) : ∃ A', slice 1 A (some (litI .i64 1)) none none = some A' ∧ Qu A' r o := by
  rcases h with ⟨rfl, rfl⟩ | ⟨p, off, cs, rfl, rfl, h1, h2⟩
  · have e1 : (1 : Int) ≤ ((r.length + 1 : Nat) : Int) := by omega
    refine ⟨.sl 1 (r.map fun i => [litI .i64 i]) (some r.length), ?_, .inl ⟨rfl, rfl⟩⟩
    simp only [slice, cuts, BEq.rfl, Bool.true_or, cond_true, List.length_map, List.length_cons, bound_one (show 1 ≤ r.length + 1 by omega), Option.bind_some, Nat.add_sub_cancel]
    simp only [List.map_cons, List.drop_succ_cons, List.drop_zero]
    rw [List.take_of_length_le (by simp)]
  · have e1 : (1 : Int) ≤ ((r.length + 1 : Nat) : Int) := by omega
    refine ⟨.own p (off + 1) r.length 1 none, ?_, .inr ⟨p, off + 1, cs, rfl, rfl, ?_, by simp only [List.length_cons] at h2; omega⟩⟩
    · simp only [slice, cuts, BEq.rfl, cond_true, List.length_cons, bound_one (show 1 ≤ r.length + 1 by omega), Option.bind_some, Nat.add_sub_cancel, Nat.one_mul]
      rfl
    · have := congrArg (List.drop 1) h1
      simp only [List.length_cons, List.drop_take, List.drop_drop, Nat.add_sub_cancel] at this
      rw [this]
      simp [cellsI]
theorem app_Qu (h : Qu A l o) (O : Own H (o ++ d)) (hl : l.length ≤ 100000) :
    ∃ H', (∀ (D : Option Nat) (fr : Fr) (k : Fr → List AO → Option Ai.S), opS (append H H.length 1 8 3 A (.sl 1 [[litI .i64 x]] (some 1))) D fr H k = k (putD fr D (.own H.length 0 (l ++ [x]).length 1 none)) H') ∧
      Own H' ((H.length, cellsI (l ++ [x]), 3) :: d) ∧ H'.length = H.length + 1 := by
  have e1 : Nat.ble ((l.length + 1) * 8) 140737488355328 = true := Nat.ble_eq_true_of_le (by omega)
  rcases h with ⟨rfl, rfl⟩ | ⟨p, off, cs, rfl, rfl, h1, h2⟩
  · have ap : append H H.length 1 8 3 (.sl 1 (l.map fun i => [litI .i64 i]) (some l.length)) (.sl 1 [[litI .i64 x]] (some 1)) = some (.val (.own H.length 0 (l.length + 1) 1 none) (some (.row (cellsI (l ++ [x])) 3))) := by
      have e2 : ((l.map fun i => [litI .i64 i]) : List (List AV)).flatten = cellsI l := by
        clear e1 hl O
        induction l with
        | nil => rfl
        | cons a l ih => simp only [List.map_cons, List.flatten_cons, ih, cellsI]; rfl
      simp only [append, elems, BEq.rfl, Bool.true_or, cond_true, Option.bind_some, List.length_cons, List.length_nil, Nat.zero_add, Nat.reduceBEq, cond_false, List.length_map, Bool.and_self, e1, e2, List.flatten_cons, List.flatten_nil, List.append_nil]
      simp [cellsI]
    refine ⟨H ++ [.row (cellsI (l ++ [x])) 3], fun D fr k => ?_, O.new _ 3, by simp⟩
    rw [ap, opS_new]; simp
  · have hp : H[p]? = some (.row cs 3) := O.head
    have ap : append H H.length 1 8 3 (.own p off l.length 1 none) (.sl 1 [[litI .i64 x]] (some 1)) = some (.wr (.own H.length 0 (l.length + 1) 1 none) (setL H p .dead ++ [.row (cellsI (l ++ [x])) 3])) := by
      have h3 : Nat.ble (off + l.length * 1) cs.length = true := Nat.ble_eq_true_of_le (by omega)
      have h1' : (cs.drop off).take (l.length * 1) = cellsI l := by rw [Nat.mul_one]; exact h1
      simp only [append, elems, BEq.rfl, Bool.true_or, cond_true, Option.bind_some, List.length_cons, List.length_nil, Nat.zero_add, Nat.reduceBEq, cond_false, rowAt_of hp, h1', h3, e1, Bool.and_self, List.flatten_cons, List.flatten_nil, List.append_nil]
      simp [cellsI]
    have On := (Own.kill O).new (cellsI (l ++ [x])) 3
    rw [setL_len] at On
    refine ⟨setL H p .dead ++ [.row (cellsI (l ++ [x])) 3], fun D fr k => ?_, On, by simp [setL_len]⟩
    rw [ap, opS_wr]; simp
theorem Qu.own (p : Nat) (l : List Int) : Qu (.own p 0 l.length 1 none) l [(p, cellsI l, 3)] := .inr ⟨p, 0, cellsI l, rfl, rfl, by rw [List.drop_zero, List.take_of_length_le (by simp [cellsI])], by simp [cellsI]⟩
end

/-! ### The way up -/
theorem chase_loop (b N : Nat) (F : Int) (B : List Int) (hB : B.length = N) : ∀ (p : List Int) (i : Int) (A : AV) (out : List Int) (o d : List Obj1) (H : List AO), Up B F p i → out.length + p.length ≤ 1000 → Sl A out o → Own H ((b, cellsI B, 3) :: (o ++ d)) →
    ∃ (A' : AV) (o' : List Obj1) (H' : List AO), loopW (codeW cw (lookM mtl) mds c18l1) [1, 5, 10, 11] [(1, litI .i64 F), (5, .own b 0 N 1 (some N)), (10, A), (11, litI .i64 i)] H =
      some (EX.exit 6, [(1, litI .i64 F), (5, .own b 0 N 1 (some N)), (10, A'), (11, litI .i64 F), (49, litB false)], H') ∧ Sl A' (out ++ p) o' ∧ Own H' ((b, cellsI B, 3) :: (o' ++ d))
  | [], i, A, out, o, d, H, h, hl, S, O => by
    subst h
    rw [List.append_nil]
    refine ⟨A, o, H, loopW_out ?_ (by simp), S, O⟩
    have e : (i != i) = false := by simp
    simp -implicitDefEqProofs only [c18l1, codeW_seq, codeW_reg, codeW_cond, codeW_block, codeW_loop, codeW_skip, codeW_exit, codeW_ret, thenS_normal, thenS_if, thenS_ret, thenS_exit, thenS_pan, thenS_none, blockS_normal, blockS_exit, blockS_ret, blockS_pan, blockS_if, condS_some, ifS_true, ifS_false, opS_val, opS_new, opS_wr, opS_fz, opS_pan, bindO_some, runS_nil, runS_cons, runS_guard, gS_t, gS_f, gS_undef, asG_lit, asG_undef, core_mv, core_pick, core_alloc, core_load, core_store, core_clr, core_nilck, core_bin, core_binb, core_un, core_fadr, core_iadr, core_sli, core_len, core_lenS, core_idxS, core_app, core_mki, core_call, core_extV, core_fld, core_mks, wrO_some, valO_some, lenV_sl, lenV_own, bin_eql, bin_neq, bin_lss, bin_leq, bin_gtr, bin_geq, bin_add, bin_sub, bin_mul, unop_not, asBool_lit, pickV_lit, load_ip, iadr_sl, iadr_own, ev_s, ev_k, get_cons, get_nil, put_cons, put_nil, putD_some, putD_none, keep_cons, keep_nil, initFr, Nat.reduceEqDiff, Nat.reduceLT, Nat.reduceAdd, if_true, if_false, List.mem_cons, List.not_mem_nil, or_false, false_or, or_true, true_or, or_self, ↓reduceIte, Nat.zero_add, decide_false, decide_true, Nat.reduceBEq, beq_self_eq_true, BEq.rfl, Option.map_some, Option.map_none, List.head?_cons, List.map_cons, List.map_nil, List.append_nil, List.nil_append, List.cons_append, Bool.not_true, Bool.not_false, cond_true, cond_false, Int.natCast_nonneg, Int.toNat_natCast, Int.ofNat_toNat, core_bslice1, bsV_int, codeW_drawn, headS_cons, headS_nil, headS_guard, hS_val, hS_new, tailS_nil, tailS_cons, tailS_guard, tlS_val, tlS_new, tlS_wr, tlS_fz, tlS_pan, anyMk_cons, anyMk_nil, makes, binb_eql, binb_neq, List.isEmpty_nil, List.isEmpty_cons, Bool.or_false, Bool.false_or, Bool.or_true, Bool.true_or, pickV_t, pickV_f, core_inv, core_callS, fnV_func, core_tas, tasV_iface, nilck_ptr, extV_tup, fldV_agg, List.getElem?_cons_zero, List.getElem?_cons_succ, e]
  | a :: p, i, A, out, o, d, H, ⟨e1, e2, e3, e4, e5⟩, hl, S, O => by
    subst e1
    have ne : (a != F) = true := by simpa using e2
    have O1 : Own H (o ++ ((b, cellsI B, 3) :: d)) := O.perm List.perm_middle.symm
    obtain ⟨H1, ap, O2, _⟩ := app_Sl (x := a) S O1 (by omega)
    have O3 := O2.perm (List.Perm.swap ..)
    have hg : (cellsI B)[a.toNat]? = some (litI .i64 (B.getD a.toNat (-1))) := by
      rw [cellsI_get, List.getElem?_eq_getElem e4, List.getD_eq_getElem?_getD, List.getElem?_eq_getElem e4]; rfl
    have lt : a < (N : Int) := by omega
    obtain ⟨A', o', H', L, q1, q2⟩ := chase_loop b N F B hB p (B.getD a.toNat (-1)) _ (out ++ [a]) _ d H1 e5 (by simp at hl ⊢; omega) (Sl.own _ _) O3
    rw [List.append_assoc, List.singleton_append] at q1
    refine ⟨A', o', H', loopW_round ?_ L, q1, q2⟩
    simp -implicitDefEqProofs only [c18l1, codeW_seq, codeW_reg, codeW_cond, codeW_block, codeW_loop, codeW_skip, codeW_exit, codeW_ret, thenS_normal, thenS_if, thenS_ret, thenS_exit, thenS_pan, thenS_none, blockS_normal, blockS_exit, blockS_ret, blockS_pan, blockS_if, condS_some, ifS_true, ifS_false, opS_val, opS_new, opS_wr, opS_fz, opS_pan, bindO_some, runS_nil, runS_cons, runS_guard, gS_t, gS_f, gS_undef, asG_lit, asG_undef, core_mv, core_pick, core_alloc, core_load, core_store, core_clr, core_nilck, core_bin, core_binb, core_un, core_fadr, core_iadr, core_sli, core_len, core_lenS, core_idxS, core_app, core_mki, core_call, core_extV, core_fld, core_mks, wrO_some, valO_some, lenV_sl, lenV_own, bin_eql, bin_neq, bin_lss, bin_leq, bin_gtr, bin_geq, bin_add, bin_sub, bin_mul, unop_not, asBool_lit, pickV_lit, load_ip, iadr_sl, iadr_own, ev_s, ev_k, get_cons, get_nil, put_cons, put_nil, putD_some, putD_none, keep_cons, keep_nil, initFr, Nat.reduceEqDiff, Nat.reduceLT, Nat.reduceAdd, if_true, if_false, List.mem_cons, List.not_mem_nil, or_false, false_or, or_true, true_or, or_self, ↓reduceIte, Nat.zero_add, decide_false, decide_true, Nat.reduceBEq, beq_self_eq_true, BEq.rfl, Option.map_some, Option.map_none, List.head?_cons, List.map_cons, List.map_nil, List.append_nil, List.nil_append, List.cons_append, Bool.not_true, Bool.not_false, cond_true, cond_false, Int.natCast_nonneg, Int.toNat_natCast, Int.ofNat_toNat, core_bslice1, bsV_int, codeW_drawn, headS_cons, headS_nil, headS_guard, hS_val, hS_new, tailS_nil, tailS_cons, tailS_guard, tlS_val, tlS_new, tlS_wr, tlS_fz, tlS_pan, anyMk_cons, anyMk_nil, makes, binb_eql, binb_neq, List.isEmpty_nil, List.isEmpty_cons, Bool.or_false, Bool.false_or, Bool.or_true, Bool.true_or, pickV_t, pickV_f, core_inv, core_callS, fnV_func, core_tas, tasV_iface, nilck_ptr, extV_tup, fldV_agg, List.getElem?_cons_zero, List.getElem?_cons_succ, ne, ap, e3, lt, and_self, Nat.mul_one, load_of O3.head hg]

theorem reverseG_row {H : List AO} {r : Nat} {cap : Option Nat} {t : TypeId} {l : List Int} (hr : H[r]? = some (.row (cellsI l) t)) (h0 : l ≠ []) (hb : l.length ≤ 1099511627776) :
    reverseG [.own r 0 l.length 1 cap] H = some (.ret (.tup []), setL H r (.row (cellsI l.reverse) t)) := by
  have hn : (l.length == 0) = false := by simpa using h0
  have hble : Nat.ble l.length 1099511627776 = true := Nat.ble_eq_true_of_le hb
  have h2 : Nat.ble (0 + l.length) (cellsI l).length = true := Nat.ble_eq_true_of_le (by simp [cellsI])
  have h3 : ((cellsI l).drop 0).take l.length = cellsI l := by rw [List.drop_zero, List.take_of_length_le (by simp [cellsI])]
  have h4 : intsOf (cellsI l) = some l := intsOf_map l
  have h6 : (cellsI l).drop (0 + l.length) = [] := List.drop_eq_nil_of_le (by simp [cellsI])
  have e : reverseG [.own r 0 l.length 1 cap] H = intsG List.reverse (fun _ _ _ _ => .tup []) [.own r 0 l.length 1 cap] H := rfl
  rw [e]
  simp only [intsG, BEq.rfl, hble, Bool.and_self, cond_true, hn, cond_false, rowAt_of hr, Option.bind_some, h2, h3, h4, h6, List.length_reverse, Nat.sub_self, List.replicate_zero, List.append_nil, List.take_zero, List.nil_append]
  rw [show Nat.ble l.length l.length = true from Nat.ble_eq_true_of_le (Nat.le_refl _)]
  rfl

/-! ### A place's needs -/
theorem near_loop (g : List (List Int)) (hf : fewG g = true) (F : Int) (b pk : Nat) (x : Int) (z : List AV) (ks : List Int) (hks : need g x.toNat = ks) :
    ∀ (m n : Nat) (B r dn : List Int) (dep : Int → Nat) (A : AV) (o : List Obj1) (H : List AO), m + n = ks.length → BI g F B (x :: r) dn dep → (x :: r).length + m ≤ 5000 → (∀ y ∈ ks.take n, y ≠ F ∧ y ∈ x :: r ++ dn ∧ dep y ≤ dep x + 1) → Qu A (x :: r) o →
    Own H ((b, cellsI B, 3) :: (pk, cellsI ks ++ z, 3) :: (o ++ [])) →
    (∃ (B' r' : List Int) (dep' : Int → Nat) (A' : AV) (o' : List Obj1) (H' : List AO), loopW (codeW cw (lookM mtl) mds c18l2) [0, 1, 5, 7, 35, 36, 37] [(0, gA g), (1, litI .i64 F), (5, .own b 0 g.length 1 (some g.length)), (7, A), (35, .own pk 0 ks.length 1 none), (36, litI .i64 ks.length), (37, litI .i64 n)] H =
        some (EX.exit 4, [(0, gA g), (1, litI .i64 F), (5, .own b 0 g.length 1 (some g.length)), (7, A'), (35, .own pk 0 ks.length 1 none), (36, litI .i64 ks.length), (37, litI .i64 ks.length), (38, litB false)], H') ∧
        BI g F B' (x :: r') dn dep' ∧ (∀ y ∈ ks, y ≠ F ∧ y ∈ x :: r' ++ dn ∧ dep' y ≤ dep' x + 1) ∧ Qu A' (x :: r') o' ∧ Own H' ((b, cellsI B', 3) :: (o' ++ [])) ∧
        B'.countP (fun v => decide (v < 0)) + (x :: r').length ≤ B.countP (fun v => decide (v < 0)) + (x :: r).length) ∨
    (∃ (c : List Int) (id : Nat) (H' : List AO), loopW (codeW cw (lookM mtl) mds c18l2) [0, 1, 5, 7, 35, 36, 37] [(0, gA g), (1, litI .i64 F), (5, .own b 0 g.length 1 (some g.length)), (7, A), (35, .own pk 0 ks.length 1 none), (36, litI .i64 ks.length), (37, litI .i64 n)] H =
        some (EX.ret, [(4, .own id 0 c.length 1 none)], H') ∧ Cyc g F c ∧ H'[id]? = some (.row (cellsI c) 3)) := by
  have h20 := few_len hf
  intro m
  induction m with
  | zero =>
    intro n B r dn dep A o H hm I hl hs hQ O
    have hn : n = ks.length := by omega
    subst hn
    rw [List.take_length] at hs
    refine .inl ⟨B, r, dep, A, o, H, loopW_out ?_ (by simp), I, hs, hQ, ?_, Nat.le_refl _⟩
    · simp -implicitDefEqProofs only [c18l2, codeW_seq, codeW_reg, codeW_cond, codeW_block, codeW_loop, codeW_skip, codeW_exit, codeW_ret, thenS_normal, thenS_if, thenS_ret, thenS_exit, thenS_pan, thenS_none, blockS_normal, blockS_exit, blockS_ret, blockS_pan, blockS_if, condS_some, ifS_true, ifS_false, opS_val, opS_new, opS_wr, opS_fz, opS_pan, bindO_some, runS_nil, runS_cons, runS_guard, gS_t, gS_f, gS_undef, asG_lit, asG_undef, core_mv, core_pick, core_alloc, core_load, core_store, core_clr, core_nilck, core_bin, core_binb, core_un, core_fadr, core_iadr, core_sli, core_len, core_lenS, core_idxS, core_app, core_mki, core_call, core_extV, core_fld, core_mks, wrO_some, valO_some, lenV_sl, lenV_own, bin_eql, bin_neq, bin_lss, bin_leq, bin_gtr, bin_geq, bin_add, bin_sub, bin_mul, unop_not, asBool_lit, pickV_lit, load_ip, iadr_sl, iadr_own, ev_s, ev_k, get_cons, get_nil, put_cons, put_nil, putD_some, putD_none, keep_cons, keep_nil, initFr, Nat.reduceEqDiff, Nat.reduceLT, Nat.reduceAdd, if_true, if_false, List.mem_cons, List.not_mem_nil, or_false, false_or, or_true, true_or, or_self, ↓reduceIte, Nat.zero_add, decide_false, decide_true, Nat.reduceBEq, beq_self_eq_true, BEq.rfl, Option.map_some, Option.map_none, List.head?_cons, List.map_cons, List.map_nil, List.append_nil, List.nil_append, List.cons_append, Bool.not_true, Bool.not_false, cond_true, cond_false, Int.natCast_nonneg, Int.toNat_natCast, Int.ofNat_toNat, core_bslice1, bsV_int, codeW_drawn, headS_cons, headS_nil, headS_guard, hS_val, hS_new, tailS_nil, tailS_cons, tailS_guard, tlS_val, tlS_new, tlS_wr, tlS_fz, tlS_pan, anyMk_cons, anyMk_nil, makes, binb_eql, binb_neq, List.isEmpty_nil, List.isEmpty_cons, Bool.or_false, Bool.false_or, Bool.or_true, Bool.true_or, pickV_t, pickV_f, core_inv, core_callS, fnV_func, core_tas, tasV_iface, nilck_ptr, extV_tup, fldV_agg, List.getElem?_cons_zero, List.getElem?_cons_succ, Int.lt_irrefl]
    · exact (O.perm (List.Perm.swap ..)).tail
  | succ m ih =>
    intro n B r dn dep A o H hm I hl hs hQ O
    have hn : n < ks.length := by omega
    have hlt : (n : Int) < ks.length := by omega
    have h0 : (0 : Int) ≤ n := by omega
    have hw := wrap1 (show n < 4611686018427387904 by have := need_40 hf x.toNat; rw [hks] at this; omega)
    have hxr := I.rng x (by simp)
    have hK : ks.getD n 0 ∈ need g x.toNat := by
      rw [hks, List.getD_eq_getElem?_getD, List.getElem?_eq_getElem hn]; exact List.getElem_mem _
    have hKr := need_rng _ _ hK
    have htk : ks.take (n + 1) = ks.take n ++ [ks.getD n 0] := by
      rw [List.getD_eq_getElem?_getD, List.getElem?_eq_getElem hn]; exact List.take_succ_eq_append_getElem hn
    have Op : H[pk]? = some (.row (cellsI ks ++ z) 3) := (O.perm (List.Perm.swap ..)).head
    have hgk := cellsZ_get (z := z) hn
    generalize ks.getD n 0 = K at *
    have Oq : Own H (o ++ ((b, cellsI B, 3) :: (pk, cellsI ks ++ z, 3) :: [])) := by
      refine O.perm ?_
      rw [List.append_nil]
      have : (b, cellsI B, 3) :: (pk, cellsI ks ++ z, 3) :: o = [(b, cellsI B, 3), (pk, cellsI ks ++ z, 3)] ++ o := rfl
      rw [this]
      exact List.perm_append_comm
    obtain ⟨c0, hc1, hc2⟩ := hQ.head Oq
    by_cases hF : K = F
    · subst hF
      right
      obtain ⟨p, u1, u2, u3, C⟩ := I.cyc hK
      have hBl := I.lB
      have O2 : Own H ((b, cellsI B, 3) :: ([] ++ ((pk, cellsI ks ++ z, 3) :: (o ++ [])))) := O
      obtain ⟨A1, o1, H1, L1, q1, q2⟩ := chase_loop b g.length K B hBl p x (.sl 0 [] (some 0)) [] [] _ H u1 (by simp; omega) Sl.nil O2
      rw [List.nil_append] at q1
      have O3 : Own H1 (o1 ++ ((b, cellsI B, 3) :: ((pk, cellsI ks ++ z, 3) :: (o ++ [])))) := q2.perm List.perm_middle.symm
      obtain ⟨H2, ap, O4, _⟩ := app_Sl (x := K) q1 O3 (by omega)
      have hr := reverseG_row (cap := none) O4.head (by simp) (by simp; omega)
      have c23 := callV_same (md := mds) (id := H2.length) rfl (cw_ov (f := 23) rfl hr) (by simp [setL_len])
      have eK : (K == K) = true := by simp
      refine ⟨(p ++ [K]).reverse, H1.length, _, loopW_out (fr' := [(4, .own H1.length 0 (p ++ [K]).reverse.length 1 none)]) (H' := setL H2 H1.length (.row (cellsI (p ++ [K]).reverse) 3)) ?_ (by simp), C, getH_set_eq O4.head⟩
      rw [List.length_reverse]
      simp -implicitDefEqProofs only [c18l2, codeW_seq, codeW_reg, codeW_cond, codeW_block, codeW_loop, codeW_skip, codeW_exit, codeW_ret, thenS_normal, thenS_if, thenS_ret, thenS_exit, thenS_pan, thenS_none, blockS_normal, blockS_exit, blockS_ret, blockS_pan, blockS_if, condS_some, ifS_true, ifS_false, opS_val, opS_new, opS_wr, opS_fz, opS_pan, bindO_some, runS_nil, runS_cons, runS_guard, gS_t, gS_f, gS_undef, asG_lit, asG_undef, core_mv, core_pick, core_alloc, core_load, core_store, core_clr, core_nilck, core_bin, core_binb, core_un, core_fadr, core_iadr, core_sli, core_len, core_lenS, core_idxS, core_app, core_mki, core_call, core_extV, core_fld, core_mks, wrO_some, valO_some, lenV_sl, lenV_own, bin_eql, bin_neq, bin_lss, bin_leq, bin_gtr, bin_geq, bin_add, bin_sub, bin_mul, unop_not, asBool_lit, pickV_lit, load_ip, iadr_sl, iadr_own, ev_s, ev_k, get_cons, get_nil, put_cons, put_nil, putD_some, putD_none, keep_cons, keep_nil, initFr, Nat.reduceEqDiff, Nat.reduceLT, Nat.reduceAdd, if_true, if_false, List.mem_cons, List.not_mem_nil, or_false, false_or, or_true, true_or, or_self, ↓reduceIte, Nat.zero_add, decide_false, decide_true, Nat.reduceBEq, beq_self_eq_true, BEq.rfl, Option.map_some, Option.map_none, List.head?_cons, List.map_cons, List.map_nil, List.append_nil, List.nil_append, List.cons_append, Bool.not_true, Bool.not_false, cond_true, cond_false, Int.natCast_nonneg, Int.toNat_natCast, Int.ofNat_toNat, core_bslice1, bsV_int, codeW_drawn, headS_cons, headS_nil, headS_guard, hS_val, hS_new, tailS_nil, tailS_cons, tailS_guard, tlS_val, tlS_new, tlS_wr, tlS_fz, tlS_pan, anyMk_cons, anyMk_nil, makes, binb_eql, binb_neq, List.isEmpty_nil, List.isEmpty_cons, Bool.or_false, Bool.false_or, Bool.or_true, Bool.true_or, pickV_t, pickV_f, core_inv, core_callS, fnV_func, core_tas, tasV_iface, nilck_ptr, extV_tup, fldV_agg, List.getElem?_cons_zero, List.getElem?_cons_succ, hlt, h0, and_self, Nat.mul_one, load_of Op hgk, eK, hc1, hc2, L1, ap, c23]
    · have eK : (K == F) = false := by simpa using hF
      have hKl : K.toNat < B.length := by rw [I.lB]; omega
      have hgB : (cellsI B)[K.toNat]? = some (litI .i64 (B.getD K.toNat (-1))) := by
        rw [cellsI_get, List.getElem?_eq_getElem hKl, List.getD_eq_getElem?_getD, List.getElem?_eq_getElem hKl]; rfl
      have hK1 : K < (g.length : Int) := hKr.2
      by_cases hB : B.getD K.toNat (-1) < 0
      · obtain ⟨dep1, I1, d1, d2, d3⟩ := I.mark hKr.1 hKr.2 hF hB hK
        have O1 := O.set (cellsI (B.set K.toNat x)) 3
        have st : storeAt H 1 (.ptr b K.toNat) (litI .i64 x) = some (setL H b (.row (cellsI (B.set K.toNat x)) 3)) := by
          rw [store_ptr O.head (by rw [cellsI_len]; omega) rfl rfl, cellsI_set]
        generalize setL H b (.row (cellsI (B.set K.toNat x)) 3) = H1 at O1 st
        have O2 : Own H1 (o ++ ((b, cellsI (B.set K.toNat x), 3) :: (pk, cellsI ks ++ z, 3) :: [])) := by
          refine O1.perm ?_
          rw [List.append_nil]
          have : (b, cellsI (B.set K.toNat x), 3) :: (pk, cellsI ks ++ z, 3) :: o = [(b, cellsI (B.set K.toNat x), 3), (pk, cellsI ks ++ z, 3)] ++ o := rfl
          rw [this]
          exact List.perm_append_comm
        obtain ⟨H2, ap, O3, _⟩ := app_Qu (x := K) hQ O2 (by omega)
        have O4 : Own H2 ((b, cellsI (B.set K.toNat x), 3) :: (pk, cellsI ks ++ z, 3) :: ([(H1.length, cellsI (x :: r ++ [K]), 3)] ++ [])) := by
          refine O3.perm ?_
          exact (List.Perm.swap ..).trans (List.Perm.cons _ (List.Perm.swap ..))
        have hcount : (B.set K.toNat x).countP (fun v => decide (v < 0)) + 1 = B.countP (fun v => decide (v < 0)) := by
          rw [List.countP_set hKl]
          have hg : B.getD K.toNat (-1) = B[K.toNat] := by rw [List.getD_eq_getElem?_getD, List.getElem?_eq_getElem hKl]; rfl
          rw [hg] at hB
          have hpos : 0 < B.countP (fun v => decide (v < 0)) := List.countP_pos_iff.2 ⟨_, List.getElem_mem hKl, by simpa using hB⟩
          have hx0 : ¬ x < 0 := by omega
          simp only [hB, hx0, decide_true, decide_false, if_true, Bool.false_eq_true, if_false]
          omega
        have ihs := ih (n + 1) (B.set K.toNat x) (r ++ [K]) dn dep1 (.own H1.length 0 (x :: r ++ [K]).length 1 none) [(H1.length, cellsI (x :: r ++ [K]), 3)] H2 (by omega) I1 (by simp only [List.length_cons, List.length_append, List.length_nil] at hl ⊢; omega) (fun y hy => by
          rw [htk] at hy
          rcases List.mem_append.1 hy with hy | hy
          · obtain ⟨a1, a2, a3⟩ := hs y hy
            refine ⟨a1, ?_, by rw [d3 y a2, d1]; exact a3⟩
            simp only [List.mem_append, List.mem_cons] at a2 ⊢
            rcases a2 with (a2 | a2) | a2 <;> simp [a2]
          · simp only [List.mem_singleton] at hy
            subst hy
            exact ⟨hF, by simp, by rw [d2, d1]; exact Nat.le_refl _⟩) (Qu.own _ _) O4
        have stepE : codeW cw (lookM mtl) mds c18l2 (keep [0, 1, 5, 7, 35, 36, 37] [(0, gA g), (1, litI .i64 F), (5, .own b 0 g.length 1 (some g.length)), (7, A), (35, .own pk 0 ks.length 1 none), (36, litI .i64 ks.length), (37, litI .i64 n)]) H =
            some (.normal, [(0, gA g), (1, litI .i64 F), (5, .own b 0 g.length 1 (some g.length)), (7, .own H1.length 0 (x :: r ++ [K]).length 1 none), (35, .own pk 0 ks.length 1 none), (36, litI .i64 ks.length), (37, litI .i64 ((n + 1 : Nat) : Int))], H2) := by
          have hc2' : Ai.load H none c0 = some (litI .i64 x) := hc2
          simp -implicitDefEqProofs only [c18l2, codeW_seq, codeW_reg, codeW_cond, codeW_block, codeW_loop, codeW_skip, codeW_exit, codeW_ret, thenS_normal, thenS_if, thenS_ret, thenS_exit, thenS_pan, thenS_none, blockS_normal, blockS_exit, blockS_ret, blockS_pan, blockS_if, condS_some, ifS_true, ifS_false, opS_val, opS_new, opS_wr, opS_fz, opS_pan, bindO_some, runS_nil, runS_cons, runS_guard, gS_t, gS_f, gS_undef, asG_lit, asG_undef, core_mv, core_pick, core_alloc, core_load, core_store, core_clr, core_nilck, core_bin, core_binb, core_un, core_fadr, core_iadr, core_sli, core_len, core_lenS, core_idxS, core_app, core_mki, core_call, core_extV, core_fld, core_mks, wrO_some, valO_some, lenV_sl, lenV_own, bin_eql, bin_neq, bin_lss, bin_leq, bin_gtr, bin_geq, bin_add, bin_sub, bin_mul, unop_not, asBool_lit, pickV_lit, load_ip, iadr_sl, iadr_own, ev_s, ev_k, get_cons, get_nil, put_cons, put_nil, putD_some, putD_none, keep_cons, keep_nil, initFr, Nat.reduceEqDiff, Nat.reduceLT, Nat.reduceAdd, if_true, if_false, List.mem_cons, List.not_mem_nil, or_false, false_or, or_true, true_or, or_self, ↓reduceIte, Nat.zero_add, decide_false, decide_true, Nat.reduceBEq, beq_self_eq_true, BEq.rfl, Option.map_some, Option.map_none, List.head?_cons, List.map_cons, List.map_nil, List.append_nil, List.nil_append, List.cons_append, Bool.not_true, Bool.not_false, cond_true, cond_false, Int.natCast_nonneg, Int.toNat_natCast, Int.ofNat_toNat, core_bslice1, bsV_int, codeW_drawn, headS_cons, headS_nil, headS_guard, hS_val, hS_new, tailS_nil, tailS_cons, tailS_guard, tlS_val, tlS_new, tlS_wr, tlS_fz, tlS_pan, anyMk_cons, anyMk_nil, makes, binb_eql, binb_neq, List.isEmpty_nil, List.isEmpty_cons, Bool.or_false, Bool.false_or, Bool.or_true, Bool.true_or, pickV_t, pickV_f, core_inv, core_callS, fnV_func, core_tas, tasV_iface, nilck_ptr, extV_tup, fldV_agg, List.getElem?_cons_zero, List.getElem?_cons_succ, hlt, h0, and_self, Nat.mul_one, load_of Op hgk, eK, hc1, hc2, hKr.1, hK1, load_of O.head hgB, hB, st, ap, hw]
        rcases ihs with ⟨B', r', dep', A', o', H', L, k1, k2, k3, k4, k5⟩ | ⟨c, id, H', L, k1, k2⟩
        · refine .inl ⟨B', r', dep', A', o', H', loopW_round stepE L, k1, k2, k3, k4, ?_⟩
          simp only [List.length_cons, List.length_append, List.length_nil] at k5 ⊢
          omega
        · exact .inr ⟨c, id, H', loopW_round stepE L, k1, k2⟩
      · have hB0 : 0 ≤ B.getD K.toNat (-1) := by omega
        have hKS := (I.kn K hKr.1 hKr.2).2 (.inr hB0)
        have ihs := ih (n + 1) B r dn dep A o H (by omega) I (by omega) (fun y hy => by
          rw [htk] at hy
          rcases List.mem_append.1 hy with hy | hy
          · exact hs y hy
          · simp only [List.mem_singleton] at hy
            subst hy
            exact ⟨hF, hKS, I.near hKS⟩) hQ O
        have stepE : codeW cw (lookM mtl) mds c18l2 (keep [0, 1, 5, 7, 35, 36, 37] [(0, gA g), (1, litI .i64 F), (5, .own b 0 g.length 1 (some g.length)), (7, A), (35, .own pk 0 ks.length 1 none), (36, litI .i64 ks.length), (37, litI .i64 n)]) H =
            some (.normal, [(0, gA g), (1, litI .i64 F), (5, .own b 0 g.length 1 (some g.length)), (7, A), (35, .own pk 0 ks.length 1 none), (36, litI .i64 ks.length), (37, litI .i64 ((n + 1 : Nat) : Int))], H) := by
          simp -implicitDefEqProofs only [c18l2, codeW_seq, codeW_reg, codeW_cond, codeW_block, codeW_loop, codeW_skip, codeW_exit, codeW_ret, thenS_normal, thenS_if, thenS_ret, thenS_exit, thenS_pan, thenS_none, blockS_normal, blockS_exit, blockS_ret, blockS_pan, blockS_if, condS_some, ifS_true, ifS_false, opS_val, opS_new, opS_wr, opS_fz, opS_pan, bindO_some, runS_nil, runS_cons, runS_guard, gS_t, gS_f, gS_undef, asG_lit, asG_undef, core_mv, core_pick, core_alloc, core_load, core_store, core_clr, core_nilck, core_bin, core_binb, core_un, core_fadr, core_iadr, core_sli, core_len, core_lenS, core_idxS, core_app, core_mki, core_call, core_extV, core_fld, core_mks, wrO_some, valO_some, lenV_sl, lenV_own, bin_eql, bin_neq, bin_lss, bin_leq, bin_gtr, bin_geq, bin_add, bin_sub, bin_mul, unop_not, asBool_lit, pickV_lit, load_ip, iadr_sl, iadr_own, ev_s, ev_k, get_cons, get_nil, put_cons, put_nil, putD_some, putD_none, keep_cons, keep_nil, initFr, Nat.reduceEqDiff, Nat.reduceLT, Nat.reduceAdd, if_true, if_false, List.mem_cons, List.not_mem_nil, or_false, false_or, or_true, true_or, or_self, ↓reduceIte, Nat.zero_add, decide_false, decide_true, Nat.reduceBEq, beq_self_eq_true, BEq.rfl, Option.map_some, Option.map_none, List.head?_cons, List.map_cons, List.map_nil, List.append_nil, List.nil_append, List.cons_append, Bool.not_true, Bool.not_false, cond_true, cond_false, Int.natCast_nonneg, Int.toNat_natCast, Int.ofNat_toNat, core_bslice1, bsV_int, codeW_drawn, headS_cons, headS_nil, headS_guard, hS_val, hS_new, tailS_nil, tailS_cons, tailS_guard, tlS_val, tlS_new, tlS_wr, tlS_fz, tlS_pan, anyMk_cons, anyMk_nil, makes, binb_eql, binb_neq, List.isEmpty_nil, List.isEmpty_cons, Bool.or_false, Bool.false_or, Bool.or_true, Bool.true_or, pickV_t, pickV_f, core_inv, core_callS, fnV_func, core_tas, tasV_iface, nilck_ptr, extV_tup, fldV_agg, List.getElem?_cons_zero, List.getElem?_cons_succ, hlt, h0, and_self, Nat.mul_one, load_of Op hgk, eK, hKr.1, hK1, load_of O.head hgB, hB, hw]
        rcases ihs with ⟨B', r', dep', A', o', H', L, k⟩ | ⟨c, id, H', L, k1, k2⟩
        · exact .inl ⟨B', r', dep', A', o', H', loopW_round stepE L, k⟩
        · exact .inr ⟨c, id, H', loopW_round stepE L, k1, k2⟩
end Go.Proofs.Ytoemnjclhheeoaa.Ai

namespace Go.Proofs.Ytoemnjclhheeoaa.Ai
open Go Go.Ai
set_option linter.unusedSimpArgs false
set_option linter.unusedVariables false

theorem back_loop (g : List (List Int)) (hf : fewG g = true) (f : Nat) (hR : Road g f f) (b : Nat) : ∀ (m : Nat) (B l dn : List Int) (dep : Int → Nat) (A : AV) (o : List Obj1) (H : List AO), B.countP (fun v => decide (v < 0)) + l.length ≤ m → m ≤ 1000 → BI g f B l dn dep → Qu A l o →
    Own H ((b, cellsI B, 3) :: (o ++ [])) →
    ∃ (c : List Int) (id : Nat) (H' : List AO), loopW (codeW cw (lookM mtl) mds c18l3) [0, 1, 5, 7] [(0, gA g), (1, litI .i64 f), (5, .own b 0 g.length 1 (some g.length)), (7, A)] H =
        some (EX.ret, [(4, .own id 0 c.length 1 none)], H') ∧ Cyc g f c ∧ H'[id]? = some (.row (cellsI c) 3) := by
  intro m
  induction m with
  | zero =>
    intro B l dn dep A o H hm _ I hQ O
    have : l = [] := List.eq_nil_of_length_eq_zero (by omega)
    subst this
    exact absurd hR (I.ends rfl)
  | succ m ih =>
    intro B l dn dep A o H hm h1000 I hQ O
    cases l with
    | nil => exact absurd hR (I.ends rfl)
    | cons x r =>
      have hxr := I.rng x (by simp)
      have hpos : (0 : Int) < ((x :: r).length : Nat) := by simp only [List.length_cons]; omega
      obtain ⟨c0, hc1, hc2⟩ := hQ.head (O.perm (d' := o ++ ((b, cellsI B, 3) :: [])) (by rw [List.append_nil]; exact (List.perm_append_comm (l₁ := [(b, cellsI B, 3)]) (l₂ := o))))
      obtain ⟨row, hrow⟩ : ∃ row, g[x.toNat]? = some row := ⟨_, List.getElem?_eq_getElem (by omega)⟩
      have hneed : needG g row = need g x.toNat := by unfold need; rw [hrow]
      have hr40 := few_row hf hrow
      have n40 := need_40 hf x.toNat
      have ex : ((x.toNat : Nat) : Int) = x := by omega
      by_cases hnil : needG g row = []
      · have hc := fun id => needs_call0 g x.toNat row hrow (by omega) H id hnil
        rw [ex] at hc
        have hnd : need g x.toNat = [] := hneed ▸ hnil
        obtain ⟨A', hcut, hQ'⟩ := hQ.cut
        obtain ⟨c, id, H', L, k1, k2⟩ := ih B r (x :: dn) dep A' o H (by simp only [List.length_cons] at hm; omega) (by omega) (I.done (by rw [hnd]; simp)) hQ' O
        refine ⟨c, id, H', loopW_next (fr1 := [(0, gA g), (1, litI .i64 f), (5, .own b 0 g.length 1 (some g.length)), (7, A')]) ?_ rfl L, k1, k2⟩
        have Li : loopW (codeW cw (lookM mtl) mds c18l2) [0, 1, 5, 7, 35, 36, 37] [(0, gA g), (1, litI .i64 f), (5, .own b 0 g.length 1 (some g.length)), (7, A), (35, .sl 0 [] (some 0)), (36, litI .i64 0), (37, litI .i64 0)] H =
          some (EX.exit 4, [(0, gA g), (1, litI .i64 f), (5, .own b 0 g.length 1 (some g.length)), (7, A), (35, .sl 0 [] (some 0)), (36, litI .i64 0), (37, litI .i64 0), (38, litB false)], H) := by
          refine loopW_out ?_ (by simp)
          simp -implicitDefEqProofs only [c18l2, codeW_seq, codeW_reg, codeW_cond, codeW_block, codeW_loop, codeW_skip, codeW_exit, codeW_ret, thenS_normal, thenS_if, thenS_ret, thenS_exit, thenS_pan, thenS_none, blockS_normal, blockS_exit, blockS_ret, blockS_pan, blockS_if, condS_some, ifS_true, ifS_false, opS_val, opS_new, opS_wr, opS_fz, opS_pan, bindO_some, runS_nil, runS_cons, runS_guard, gS_t, gS_f, gS_undef, asG_lit, asG_undef, core_mv, core_pick, core_alloc, core_load, core_store, core_clr, core_nilck, core_bin, core_binb, core_un, core_fadr, core_iadr, core_sli, core_len, core_lenS, core_idxS, core_app, core_mki, core_call, core_extV, core_fld, core_mks, wrO_some, valO_some, lenV_sl, lenV_own, bin_eql, bin_neq, bin_lss, bin_leq, bin_gtr, bin_geq, bin_add, bin_sub, bin_mul, unop_not, asBool_lit, pickV_lit, load_ip, iadr_sl, iadr_own, ev_s, ev_k, get_cons, get_nil, put_cons, put_nil, putD_some, putD_none, keep_cons, keep_nil, initFr, Nat.reduceEqDiff, Nat.reduceLT, Nat.reduceAdd, if_true, if_false, List.mem_cons, List.not_mem_nil, or_false, false_or, or_true, true_or, or_self, ↓reduceIte, Nat.zero_add, decide_false, decide_true, Nat.reduceBEq, beq_self_eq_true, BEq.rfl, Option.map_some, Option.map_none, List.head?_cons, List.map_cons, List.map_nil, List.append_nil, List.nil_append, List.cons_append, Bool.not_true, Bool.not_false, cond_true, cond_false, Int.natCast_nonneg, Int.toNat_natCast, Int.ofNat_toNat, core_bslice1, bsV_int, codeW_drawn, headS_cons, headS_nil, headS_guard, hS_val, hS_new, tailS_nil, tailS_cons, tailS_guard, tlS_val, tlS_new, tlS_wr, tlS_fz, tlS_pan, anyMk_cons, anyMk_nil, makes, binb_eql, binb_neq, List.isEmpty_nil, List.isEmpty_cons, Bool.or_false, Bool.false_or, Bool.or_true, Bool.true_or, pickV_t, pickV_f, core_inv, core_callS, fnV_func, core_tas, tasV_iface, nilck_ptr, extV_tup, fldV_agg, List.getElem?_cons_zero, List.getElem?_cons_succ, Int.lt_irrefl]
        simp -implicitDefEqProofs only [c18l3, codeW_seq, codeW_reg, codeW_cond, codeW_block, codeW_loop, codeW_skip, codeW_exit, codeW_ret, thenS_normal, thenS_if, thenS_ret, thenS_exit, thenS_pan, thenS_none, blockS_normal, blockS_exit, blockS_ret, blockS_pan, blockS_if, condS_some, ifS_true, ifS_false, opS_val, opS_new, opS_wr, opS_fz, opS_pan, bindO_some, runS_nil, runS_cons, runS_guard, gS_t, gS_f, gS_undef, asG_lit, asG_undef, core_mv, core_pick, core_alloc, core_load, core_store, core_clr, core_nilck, core_bin, core_binb, core_un, core_fadr, core_iadr, core_sli, core_len, core_lenS, core_idxS, core_app, core_mki, core_call, core_extV, core_fld, core_mks, wrO_some, valO_some, lenV_sl, lenV_own, bin_eql, bin_neq, bin_lss, bin_leq, bin_gtr, bin_geq, bin_add, bin_sub, bin_mul, unop_not, asBool_lit, pickV_lit, load_ip, iadr_sl, iadr_own, ev_s, ev_k, get_cons, get_nil, put_cons, put_nil, putD_some, putD_none, keep_cons, keep_nil, initFr, Nat.reduceEqDiff, Nat.reduceLT, Nat.reduceAdd, if_true, if_false, List.mem_cons, List.not_mem_nil, or_false, false_or, or_true, true_or, or_self, ↓reduceIte, Nat.zero_add, decide_false, decide_true, Nat.reduceBEq, beq_self_eq_true, BEq.rfl, Option.map_some, Option.map_none, List.head?_cons, List.map_cons, List.map_nil, List.append_nil, List.nil_append, List.cons_append, Bool.not_true, Bool.not_false, cond_true, cond_false, Int.natCast_nonneg, Int.toNat_natCast, Int.ofNat_toNat, core_bslice1, bsV_int, codeW_drawn, headS_cons, headS_nil, headS_guard, hS_val, hS_new, tailS_nil, tailS_cons, tailS_guard, tlS_val, tlS_new, tlS_wr, tlS_fz, tlS_pan, anyMk_cons, anyMk_nil, makes, binb_eql, binb_neq, List.isEmpty_nil, List.isEmpty_cons, Bool.or_false, Bool.false_or, Bool.or_true, Bool.true_or, pickV_t, pickV_f, core_inv, core_callS, fnV_func, core_tas, tasV_iface, nilck_ptr, extV_tup, fldV_agg, List.getElem?_cons_zero, List.getElem?_cons_succ, hQ.lenV, hpos, hc1, hc2, hc, List.length_nil, Int.ofNat_zero, Li, hcut]
      · obtain ⟨z, hc⟩ := needs_call1 g x.toNat row hrow (by omega) H H.length hnil
        rw [ex, hneed] at hc
        have O1 := O.new (cellsI (need g x.toNat) ++ z) 3
        generalize hH1 : H ++ [AO.row (cellsI (need g x.toNat) ++ z) 3] = H1 at O1
        have O2 := O1.perm (List.Perm.swap ..)
        rcases near_loop g hf f b H.length x z (need g x.toNat) rfl (need g x.toNat).length 0 B r dn dep A o H1 (by omega) I (by simp only [List.length_cons] at hm ⊢; omega) (by simp) hQ O2 with ⟨B', r', dep', A', o', H', L, k1, k2, k3, k4, k5⟩ | ⟨c, id, H', L, k1, k2⟩
        · rw [show ((0 : Nat) : Int) = 0 from rfl] at L
          obtain ⟨A2, hcut, hQ2⟩ := k3.cut
          obtain ⟨c, id, H2, L2, u1, u2⟩ := ih B' r' (x :: dn) dep' A2 o' H' (by simp only [List.length_cons] at hm k5; omega) (by omega) (k1.done k2) hQ2 k4
          refine ⟨c, id, H2, loopW_next (fr1 := [(0, gA g), (1, litI .i64 f), (5, .own b 0 g.length 1 (some g.length)), (7, A2)]) ?_ rfl L2, u1, u2⟩
          simp -implicitDefEqProofs only [c18l3, codeW_seq, codeW_reg, codeW_cond, codeW_block, codeW_loop, codeW_skip, codeW_exit, codeW_ret, thenS_normal, thenS_if, thenS_ret, thenS_exit, thenS_pan, thenS_none, blockS_normal, blockS_exit, blockS_ret, blockS_pan, blockS_if, condS_some, ifS_true, ifS_false, opS_val, opS_new, opS_wr, opS_fz, opS_pan, bindO_some, runS_nil, runS_cons, runS_guard, gS_t, gS_f, gS_undef, asG_lit, asG_undef, core_mv, core_pick, core_alloc, core_load, core_store, core_clr, core_nilck, core_bin, core_binb, core_un, core_fadr, core_iadr, core_sli, core_len, core_lenS, core_idxS, core_app, core_mki, core_call, core_extV, core_fld, core_mks, wrO_some, valO_some, lenV_sl, lenV_own, bin_eql, bin_neq, bin_lss, bin_leq, bin_gtr, bin_geq, bin_add, bin_sub, bin_mul, unop_not, asBool_lit, pickV_lit, load_ip, iadr_sl, iadr_own, ev_s, ev_k, get_cons, get_nil, put_cons, put_nil, putD_some, putD_none, keep_cons, keep_nil, initFr, Nat.reduceEqDiff, Nat.reduceLT, Nat.reduceAdd, if_true, if_false, List.mem_cons, List.not_mem_nil, or_false, false_or, or_true, true_or, or_self, ↓reduceIte, Nat.zero_add, decide_false, decide_true, Nat.reduceBEq, beq_self_eq_true, BEq.rfl, Option.map_some, Option.map_none, List.head?_cons, List.map_cons, List.map_nil, List.append_nil, List.nil_append, List.cons_append, Bool.not_true, Bool.not_false, cond_true, cond_false, Int.natCast_nonneg, Int.toNat_natCast, Int.ofNat_toNat, core_bslice1, bsV_int, codeW_drawn, headS_cons, headS_nil, headS_guard, hS_val, hS_new, tailS_nil, tailS_cons, tailS_guard, tlS_val, tlS_new, tlS_wr, tlS_fz, tlS_pan, anyMk_cons, anyMk_nil, makes, binb_eql, binb_neq, List.isEmpty_nil, List.isEmpty_cons, Bool.or_false, Bool.false_or, Bool.or_true, Bool.true_or, pickV_t, pickV_f, core_inv, core_callS, fnV_func, core_tas, tasV_iface, nilck_ptr, extV_tup, fldV_agg, List.getElem?_cons_zero, List.getElem?_cons_succ, hQ.lenV, hpos, hc1, hc2, hc, hH1, L, hcut]
        · rw [show ((0 : Nat) : Int) = 0 from rfl] at L
          refine ⟨c, id, H', loopW_out ?_ (by simp), k1, k2⟩
          simp -implicitDefEqProofs only [c18l3, codeW_seq, codeW_reg, codeW_cond, codeW_block, codeW_loop, codeW_skip, codeW_exit, codeW_ret, thenS_normal, thenS_if, thenS_ret, thenS_exit, thenS_pan, thenS_none, blockS_normal, blockS_exit, blockS_ret, blockS_pan, blockS_if, condS_some, ifS_true, ifS_false, opS_val, opS_new, opS_wr, opS_fz, opS_pan, bindO_some, runS_nil, runS_cons, runS_guard, gS_t, gS_f, gS_undef, asG_lit, asG_undef, core_mv, core_pick, core_alloc, core_load, core_store, core_clr, core_nilck, core_bin, core_binb, core_un, core_fadr, core_iadr, core_sli, core_len, core_lenS, core_idxS, core_app, core_mki, core_call, core_extV, core_fld, core_mks, wrO_some, valO_some, lenV_sl, lenV_own, bin_eql, bin_neq, bin_lss, bin_leq, bin_gtr, bin_geq, bin_add, bin_sub, bin_mul, unop_not, asBool_lit, pickV_lit, load_ip, iadr_sl, iadr_own, ev_s, ev_k, get_cons, get_nil, put_cons, put_nil, putD_some, putD_none, keep_cons, keep_nil, initFr, Nat.reduceEqDiff, Nat.reduceLT, Nat.reduceAdd, if_true, if_false, List.mem_cons, List.not_mem_nil, or_false, false_or, or_true, true_or, or_self, ↓reduceIte, Nat.zero_add, decide_false, decide_true, Nat.reduceBEq, beq_self_eq_true, BEq.rfl, Option.map_some, Option.map_none, List.head?_cons, List.map_cons, List.map_nil, List.append_nil, List.nil_append, List.cons_append, Bool.not_true, Bool.not_false, cond_true, cond_false, Int.natCast_nonneg, Int.toNat_natCast, Int.ofNat_toNat, core_bslice1, bsV_int, codeW_drawn, headS_cons, headS_nil, headS_guard, hS_val, hS_new, tailS_nil, tailS_cons, tailS_guard, tlS_val, tlS_new, tlS_wr, tlS_fz, tlS_pan, anyMk_cons, anyMk_nil, makes, binb_eql, binb_neq, List.isEmpty_nil, List.isEmpty_cons, Bool.or_false, Bool.false_or, Bool.or_true, Bool.true_or, pickV_t, pickV_f, core_inv, core_callS, fnV_func, core_tas, tasV_iface, nilck_ptr, extV_tup, fldV_agg, List.getElem?_cons_zero, List.getElem?_cons_succ, hQ.lenV, hpos, hc1, hc2, hc, hH1, L]

theorem minus_loop (g : AV) (F : Int) (b N : Nat) (hN : N ≤ 20) : ∀ (m n : Nat), m + n = N →
    loopW (codeW cw (lookM mtl) mds c18l0) [0, 1, 5, 16, 17] [(0, g), (1, litI .i64 F), (5, .own 0 0 N 1 (some N)), (16, litI .i64 N), (17, litI .i64 n)] [.row (cellsI (List.replicate n (-1) ++ List.replicate m 0)) 3] =
      some (EX.exit 0, [(0, g), (1, litI .i64 F), (5, .own 0 0 N 1 (some N)), (16, litI .i64 N), (17, litI .i64 N), (18, litB false)], [.row (cellsI (List.replicate N (-1))) 3])
  | 0, n, h => by
    have hn : n = N := by omega
    subst hn
    refine loopW_out ?_ (by simp)
    simp -implicitDefEqProofs only [c18l0, codeW_seq, codeW_reg, codeW_cond, codeW_block, codeW_loop, codeW_skip, codeW_exit, codeW_ret, thenS_normal, thenS_if, thenS_ret, thenS_exit, thenS_pan, thenS_none, blockS_normal, blockS_exit, blockS_ret, blockS_pan, blockS_if, condS_some, ifS_true, ifS_false, opS_val, opS_new, opS_wr, opS_fz, opS_pan, bindO_some, runS_nil, runS_cons, runS_guard, gS_t, gS_f, gS_undef, asG_lit, asG_undef, core_mv, core_pick, core_alloc, core_load, core_store, core_clr, core_nilck, core_bin, core_binb, core_un, core_fadr, core_iadr, core_sli, core_len, core_lenS, core_idxS, core_app, core_mki, core_call, core_extV, core_fld, core_mks, wrO_some, valO_some, lenV_sl, lenV_own, bin_eql, bin_neq, bin_lss, bin_leq, bin_gtr, bin_geq, bin_add, bin_sub, bin_mul, unop_not, asBool_lit, pickV_lit, load_ip, iadr_sl, iadr_own, ev_s, ev_k, get_cons, get_nil, put_cons, put_nil, putD_some, putD_none, keep_cons, keep_nil, initFr, Nat.reduceEqDiff, Nat.reduceLT, Nat.reduceAdd, if_true, if_false, List.mem_cons, List.not_mem_nil, or_false, false_or, or_true, true_or, or_self, ↓reduceIte, Nat.zero_add, decide_false, decide_true, Nat.reduceBEq, beq_self_eq_true, BEq.rfl, Option.map_some, Option.map_none, List.head?_cons, List.map_cons, List.map_nil, List.append_nil, List.nil_append, List.cons_append, Bool.not_true, Bool.not_false, cond_true, cond_false, Int.natCast_nonneg, Int.toNat_natCast, Int.ofNat_toNat, core_bslice1, bsV_int, codeW_drawn, headS_cons, headS_nil, headS_guard, hS_val, hS_new, tailS_nil, tailS_cons, tailS_guard, tlS_val, tlS_new, tlS_wr, tlS_fz, tlS_pan, anyMk_cons, anyMk_nil, makes, binb_eql, binb_neq, List.isEmpty_nil, List.isEmpty_cons, Bool.or_false, Bool.false_or, Bool.or_true, Bool.true_or, pickV_t, pickV_f, core_inv, core_callS, fnV_func, core_tas, tasV_iface, nilck_ptr, extV_tup, fldV_agg, List.getElem?_cons_zero, List.getElem?_cons_succ, Int.lt_irrefl, List.replicate_zero]
  | m + 1, n, h => by
    have hlt : (n : Int) < N := by omega
    have h0 : (0 : Int) ≤ n := by omega
    have hw := wrap1 (show n < 4611686018427387904 by omega)
    have st : storeAt [AO.row (cellsI (List.replicate n (-1) ++ List.replicate (m + 1) 0)) 3] 1 (.ptr 0 n) (litI .i64 (-1)) = some [AO.row (cellsI (List.replicate (n + 1) (-1) ++ List.replicate m 0)) 3] := by
      rw [store_ptr (cs := cellsI (List.replicate n (-1) ++ List.replicate (m + 1) 0)) (t := 3) rfl (by simp [cellsI]) rfl rfl, cellsI_set]
      have e : (List.replicate n (-1 : Int) ++ List.replicate (m + 1) 0).set n (-1) = List.replicate (n + 1) (-1) ++ List.replicate m 0 := by
        rw [List.set_append_right _ _ (by simp), List.length_replicate, Nat.sub_self, List.replicate_succ, List.set_cons_zero, List.replicate_succ', List.append_assoc]
        rfl
      rw [e]; rfl
    refine loopW_round ?_ (minus_loop g F b N hN m (n + 1) (by omega))
    simp -implicitDefEqProofs only [c18l0, codeW_seq, codeW_reg, codeW_cond, codeW_block, codeW_loop, codeW_skip, codeW_exit, codeW_ret, thenS_normal, thenS_if, thenS_ret, thenS_exit, thenS_pan, thenS_none, blockS_normal, blockS_exit, blockS_ret, blockS_pan, blockS_if, condS_some, ifS_true, ifS_false, opS_val, opS_new, opS_wr, opS_fz, opS_pan, bindO_some, runS_nil, runS_cons, runS_guard, gS_t, gS_f, gS_undef, asG_lit, asG_undef, core_mv, core_pick, core_alloc, core_load, core_store, core_clr, core_nilck, core_bin, core_binb, core_un, core_fadr, core_iadr, core_sli, core_len, core_lenS, core_idxS, core_app, core_mki, core_call, core_extV, core_fld, core_mks, wrO_some, valO_some, lenV_sl, lenV_own, bin_eql, bin_neq, bin_lss, bin_leq, bin_gtr, bin_geq, bin_add, bin_sub, bin_mul, unop_not, asBool_lit, pickV_lit, load_ip, iadr_sl, iadr_own, ev_s, ev_k, get_cons, get_nil, put_cons, put_nil, putD_some, putD_none, keep_cons, keep_nil, initFr, Nat.reduceEqDiff, Nat.reduceLT, Nat.reduceAdd, if_true, if_false, List.mem_cons, List.not_mem_nil, or_false, false_or, or_true, true_or, or_self, ↓reduceIte, Nat.zero_add, decide_false, decide_true, Nat.reduceBEq, beq_self_eq_true, BEq.rfl, Option.map_some, Option.map_none, List.head?_cons, List.map_cons, List.map_nil, List.append_nil, List.nil_append, List.cons_append, Bool.not_true, Bool.not_false, cond_true, cond_false, Int.natCast_nonneg, Int.toNat_natCast, Int.ofNat_toNat, core_bslice1, bsV_int, codeW_drawn, headS_cons, headS_nil, headS_guard, hS_val, hS_new, tailS_nil, tailS_cons, tailS_guard, tlS_val, tlS_new, tlS_wr, tlS_fz, tlS_pan, anyMk_cons, anyMk_nil, makes, binb_eql, binb_neq, List.isEmpty_nil, List.isEmpty_cons, Bool.or_false, Bool.false_or, Bool.or_true, Bool.true_or, pickV_t, pickV_f, core_inv, core_callS, fnV_func, core_tas, tasV_iface, nilck_ptr, extV_tup, fldV_agg, List.getElem?_cons_zero, List.getElem?_cons_succ, hlt, h0, and_self, Nat.mul_one, st, hw]

theorem back_tells (g : List (List Int)) (hf : fewG g = true) (f : Nat) (hfl : f < g.length) (hR : Road g f f) : ∃ (c : List Int) (id : Nat) (H' : List AO), cw 18 [gA g, litI .i64 f] [] = some (.ret (.own id 0 c.length 1 none), H') ∧ Cyc g f c ∧ H'[id]? = some (.row (cellsI c) 3) := by
  have h20 := few_len hf
  have hm := mksV_ok (id := 0) (e := 1) (bytes := 8) (z := [litI .i64 0]) (t := 3) (n := g.length) (by omega) (by omega)
  rw [reps_one] at hm
  have e0 : List.replicate g.length (litI .i64 0) = cellsI (List.replicate 0 (-1) ++ List.replicate g.length 0) := by simp [cellsI]
  rw [e0] at hm
  have L0 := minus_loop (gA g) f 0 g.length h20 g.length 0 (by omega)
  rw [show ((0 : Nat) : Int) = 0 from rfl] at L0
  have I := BI.init (g := g) (F := (f : Int)) (by omega) (by omega)
  have O : Own [AO.row (cellsI (List.replicate g.length (-1))) 3] ((0, cellsI (List.replicate g.length (-1)), 3) :: ([] ++ [])) := ⟨by simp, fun x hx => by simp at hx; subst hx; rfl⟩
  obtain ⟨c, id, H', L, C, hr⟩ := back_loop g hf f hR 0 _ (List.replicate g.length (-1)) [(f : Int)] [] (fun _ => 0) (.sl 1 [[litI .i64 f]] (some 1)) [] _ (Nat.le_refl _) (by
    have := List.countP_le_length (p := fun v : Int => decide (v < 0)) (l := List.replicate g.length (-1))
    simp only [List.length_replicate, List.length_cons, List.length_nil] at this ⊢; omega) I (.inl ⟨rfl, rfl⟩) O
  refine ⟨c, id, H', cw_of fn18 (c := c18) rfl rfl rfl rfl ?_, C, hr⟩
  simp -implicitDefEqProofs only [c18, codeW_seq, codeW_reg, codeW_cond, codeW_block, codeW_loop, codeW_skip, codeW_exit, codeW_ret, thenS_normal, thenS_if, thenS_ret, thenS_exit, thenS_pan, thenS_none, blockS_normal, blockS_exit, blockS_ret, blockS_pan, blockS_if, condS_some, ifS_true, ifS_false, opS_val, opS_new, opS_wr, opS_fz, opS_pan, bindO_some, runS_nil, runS_cons, runS_guard, gS_t, gS_f, gS_undef, asG_lit, asG_undef, core_mv, core_pick, core_alloc, core_load, core_store, core_clr, core_nilck, core_bin, core_binb, core_un, core_fadr, core_iadr, core_sli, core_len, core_lenS, core_idxS, core_app, core_mki, core_call, core_extV, core_fld, core_mks, wrO_some, valO_some, lenV_sl, lenV_own, bin_eql, bin_neq, bin_lss, bin_leq, bin_gtr, bin_geq, bin_add, bin_sub, bin_mul, unop_not, asBool_lit, pickV_lit, load_ip, iadr_sl, iadr_own, ev_s, ev_k, get_cons, get_nil, put_cons, put_nil, putD_some, putD_none, keep_cons, keep_nil, initFr, Nat.reduceEqDiff, Nat.reduceLT, Nat.reduceAdd, if_true, if_false, List.mem_cons, List.not_mem_nil, or_false, false_or, or_true, true_or, or_self, ↓reduceIte, Nat.zero_add, decide_false, decide_true, Nat.reduceBEq, beq_self_eq_true, BEq.rfl, Option.map_some, Option.map_none, List.head?_cons, List.map_cons, List.map_nil, List.append_nil, List.nil_append, List.cons_append, Bool.not_true, Bool.not_false, cond_true, cond_false, Int.natCast_nonneg, Int.toNat_natCast, Int.ofNat_toNat, core_bslice1, bsV_int, codeW_drawn, headS_cons, headS_nil, headS_guard, hS_val, hS_new, tailS_nil, tailS_cons, tailS_guard, tlS_val, tlS_new, tlS_wr, tlS_fz, tlS_pan, anyMk_cons, anyMk_nil, makes, binb_eql, binb_neq, List.isEmpty_nil, List.isEmpty_cons, Bool.or_false, Bool.false_or, Bool.or_true, Bool.true_or, pickV_t, pickV_f, core_inv, core_callS, fnV_func, core_tas, tasV_iface, nilck_ptr, extV_tup, fldV_agg, List.getElem?_cons_zero, List.getElem?_cons_succ, lenV_g, List.length_nil, hm, L0, L]
  rfl

theorem back_call (g : List (List Int)) (hf : fewG g = true) (f : Nat) (hfl : f < g.length) (hR : Road g f f) : ∃ c, Cyc g f c ∧ ∀ H id, callV cw mds 18 [gA g, litI .i64 f] H id = some (.val (rowC c none) none) := by
  obtain ⟨c, i, H', h1, C, h2⟩ := back_tells g hf f hfl hR
  refine ⟨c, C, fun H id => ?_⟩
  have := callV_fz (md := mds) (H := H) (id := id) rfl rfl h1 h2 (by simp [cellsI]) (cells_whole c)
  rw [this, List.take_of_length_le (by simp [cellsI])]
  simp [rowC, cellsI, Function.comp_def]

/-- What Cycle tells. -/
def CycOr (g : List (List Int)) (c : List Int) : Prop := (c = [] ∧ ∀ i < g.length, ¬ Road g i i) ∨ ∃ f, f < g.length ∧ Road g f f ∧ (∀ i < f, ¬ Road g i i) ∧ Cyc g f c

theorem cycle_loop (g : List (List Int)) (hf : fewG g = true) : ∀ (m n : Nat), m + n = g.length → (∀ i < n, ¬ Road g i i) →
    (loopW (codeW cw (lookM mtl) mds c11l0) [0, 5, 6] [(0, gA g), (5, litI .i64 g.length), (6, litI .i64 n)] [] = some (EX.exit 0, [(0, gA g), (5, litI .i64 g.length), (6, litI .i64 g.length), (7, litB false)], []) ∧ ∀ i < g.length, ¬ Road g i i) ∨
    ∃ f c, loopW (codeW cw (lookM mtl) mds c11l0) [0, 5, 6] [(0, gA g), (5, litI .i64 g.length), (6, litI .i64 n)] [] = some (EX.ret, [(2, rowC c none)], []) ∧ f < g.length ∧ Road g f f ∧ (∀ i < f, ¬ Road g i i) ∧ Cyc g f c
  | 0, n, h, hn => by
    have e : n = g.length := by omega
    subst e
    refine .inl ⟨loopW_out ?_ (by simp), hn⟩
    simp -implicitDefEqProofs only [c11l0, codeW_seq, codeW_reg, codeW_cond, codeW_block, codeW_loop, codeW_skip, codeW_exit, codeW_ret, thenS_normal, thenS_if, thenS_ret, thenS_exit, thenS_pan, thenS_none, blockS_normal, blockS_exit, blockS_ret, blockS_pan, blockS_if, condS_some, ifS_true, ifS_false, opS_val, opS_new, opS_wr, opS_fz, opS_pan, bindO_some, runS_nil, runS_cons, runS_guard, gS_t, gS_f, gS_undef, asG_lit, asG_undef, core_mv, core_pick, core_alloc, core_load, core_store, core_clr, core_nilck, core_bin, core_binb, core_un, core_fadr, core_iadr, core_sli, core_len, core_lenS, core_idxS, core_app, core_mki, core_call, core_extV, core_fld, core_mks, wrO_some, valO_some, lenV_sl, lenV_own, bin_eql, bin_neq, bin_lss, bin_leq, bin_gtr, bin_geq, bin_add, bin_sub, bin_mul, unop_not, asBool_lit, pickV_lit, load_ip, iadr_sl, iadr_own, ev_s, ev_k, get_cons, get_nil, put_cons, put_nil, putD_some, putD_none, keep_cons, keep_nil, initFr, Nat.reduceEqDiff, Nat.reduceLT, Nat.reduceAdd, if_true, if_false, List.mem_cons, List.not_mem_nil, or_false, false_or, or_true, true_or, or_self, ↓reduceIte, Nat.zero_add, decide_false, decide_true, Nat.reduceBEq, beq_self_eq_true, BEq.rfl, Option.map_some, Option.map_none, List.head?_cons, List.map_cons, List.map_nil, List.append_nil, List.nil_append, List.cons_append, Bool.not_true, Bool.not_false, cond_true, cond_false, Int.natCast_nonneg, Int.toNat_natCast, Int.ofNat_toNat, core_bslice1, bsV_int, codeW_drawn, headS_cons, headS_nil, headS_guard, hS_val, hS_new, tailS_nil, tailS_cons, tailS_guard, tlS_val, tlS_new, tlS_wr, tlS_fz, tlS_pan, anyMk_cons, anyMk_nil, makes, binb_eql, binb_neq, List.isEmpty_nil, List.isEmpty_cons, Bool.or_false, Bool.false_or, Bool.or_true, Bool.true_or, pickV_t, pickV_f, core_inv, core_callS, fnV_func, core_tas, tasV_iface, nilck_ptr, extV_tup, fldV_agg, List.getElem?_cons_zero, List.getElem?_cons_succ, Int.lt_irrefl]
  | m + 1, n, h, hn => by
    have hnl : n < g.length := by omega
    have hlt : (n : Int) < g.length := by omega
    have h20 := few_len hf
    have hw := wrap1 (show n < 4611686018427387904 by omega)
    have hr := fun H id => reach_call g hf n hnl H id
    have hroad := reachL_road hf n n hnl
    rw [getD_some (by rw [reachL_len]; exact hnl), Option.some.injEq] at hroad
    have hld : (reachL g n)[n]? = some ((reachL g n).getD n false) := getD_some (by rw [reachL_len]; exact hnl)
    cases hb : (reachL g n).getD n false with
    | true =>
      rw [hb] at hld
      have hR := hroad.1 hb
      obtain ⟨c, C, hc⟩ := back_call g hf n hnl hR
      refine .inr ⟨n, c, loopW_out ?_ (by simp), hnl, hR, hn, C⟩
      simp -implicitDefEqProofs only [c11l0, codeW_seq, codeW_reg, codeW_cond, codeW_block, codeW_loop, codeW_skip, codeW_exit, codeW_ret, thenS_normal, thenS_if, thenS_ret, thenS_exit, thenS_pan, thenS_none, blockS_normal, blockS_exit, blockS_ret, blockS_pan, blockS_if, condS_some, ifS_true, ifS_false, opS_val, opS_new, opS_wr, opS_fz, opS_pan, bindO_some, runS_nil, runS_cons, runS_guard, gS_t, gS_f, gS_undef, asG_lit, asG_undef, core_mv, core_pick, core_alloc, core_load, core_store, core_clr, core_nilck, core_bin, core_binb, core_un, core_fadr, core_iadr, core_sli, core_len, core_lenS, core_idxS, core_app, core_mki, core_call, core_extV, core_fld, core_mks, wrO_some, valO_some, lenV_sl, lenV_own, bin_eql, bin_neq, bin_lss, bin_leq, bin_gtr, bin_geq, bin_add, bin_sub, bin_mul, unop_not, asBool_lit, pickV_lit, load_ip, iadr_sl, iadr_own, ev_s, ev_k, get_cons, get_nil, put_cons, put_nil, putD_some, putD_none, keep_cons, keep_nil, initFr, Nat.reduceEqDiff, Nat.reduceLT, Nat.reduceAdd, if_true, if_false, List.mem_cons, List.not_mem_nil, or_false, false_or, or_true, true_or, or_self, ↓reduceIte, Nat.zero_add, decide_false, decide_true, Nat.reduceBEq, beq_self_eq_true, BEq.rfl, Option.map_some, Option.map_none, List.head?_cons, List.map_cons, List.map_nil, List.append_nil, List.nil_append, List.cons_append, Bool.not_true, Bool.not_false, cond_true, cond_false, Int.natCast_nonneg, Int.toNat_natCast, Int.ofNat_toNat, core_bslice1, bsV_int, codeW_drawn, headS_cons, headS_nil, headS_guard, hS_val, hS_new, tailS_nil, tailS_cons, tailS_guard, tlS_val, tlS_new, tlS_wr, tlS_fz, tlS_pan, anyMk_cons, anyMk_nil, makes, binb_eql, binb_neq, List.isEmpty_nil, List.isEmpty_cons, Bool.or_false, Bool.false_or, Bool.or_true, Bool.true_or, pickV_t, pickV_f, core_inv, core_callS, fnV_func, core_tas, tasV_iface, nilck_ptr, extV_tup, fldV_agg, List.getElem?_cons_zero, List.getElem?_cons_succ, hlt, hr, iadr_bools, hld, hc]
    | false =>
      rw [hb] at hld
      have hnR : ¬ Road g n n := fun r => by rw [hroad.2 r] at hb; cases hb
      have step : codeW cw (lookM mtl) mds c11l0 (keep [0, 5, 6] [(0, gA g), (5, litI .i64 g.length), (6, litI .i64 n)]) [] = some (.normal, [(0, gA g), (5, litI .i64 g.length), (6, litI .i64 ((n + 1 : Nat) : Int))], []) := by
        simp -implicitDefEqProofs only [c11l0, codeW_seq, codeW_reg, codeW_cond, codeW_block, codeW_loop, codeW_skip, codeW_exit, codeW_ret, thenS_normal, thenS_if, thenS_ret, thenS_exit, thenS_pan, thenS_none, blockS_normal, blockS_exit, blockS_ret, blockS_pan, blockS_if, condS_some, ifS_true, ifS_false, opS_val, opS_new, opS_wr, opS_fz, opS_pan, bindO_some, runS_nil, runS_cons, runS_guard, gS_t, gS_f, gS_undef, asG_lit, asG_undef, core_mv, core_pick, core_alloc, core_load, core_store, core_clr, core_nilck, core_bin, core_binb, core_un, core_fadr, core_iadr, core_sli, core_len, core_lenS, core_idxS, core_app, core_mki, core_call, core_extV, core_fld, core_mks, wrO_some, valO_some, lenV_sl, lenV_own, bin_eql, bin_neq, bin_lss, bin_leq, bin_gtr, bin_geq, bin_add, bin_sub, bin_mul, unop_not, asBool_lit, pickV_lit, load_ip, iadr_sl, iadr_own, ev_s, ev_k, get_cons, get_nil, put_cons, put_nil, putD_some, putD_none, keep_cons, keep_nil, initFr, Nat.reduceEqDiff, Nat.reduceLT, Nat.reduceAdd, if_true, if_false, List.mem_cons, List.not_mem_nil, or_false, false_or, or_true, true_or, or_self, ↓reduceIte, Nat.zero_add, decide_false, decide_true, Nat.reduceBEq, beq_self_eq_true, BEq.rfl, Option.map_some, Option.map_none, List.head?_cons, List.map_cons, List.map_nil, List.append_nil, List.nil_append, List.cons_append, Bool.not_true, Bool.not_false, cond_true, cond_false, Int.natCast_nonneg, Int.toNat_natCast, Int.ofNat_toNat, core_bslice1, bsV_int, codeW_drawn, headS_cons, headS_nil, headS_guard, hS_val, hS_new, tailS_nil, tailS_cons, tailS_guard, tlS_val, tlS_new, tlS_wr, tlS_fz, tlS_pan, anyMk_cons, anyMk_nil, makes, binb_eql, binb_neq, List.isEmpty_nil, List.isEmpty_cons, Bool.or_false, Bool.false_or, Bool.or_true, Bool.true_or, pickV_t, pickV_f, core_inv, core_callS, fnV_func, core_tas, tasV_iface, nilck_ptr, extV_tup, fldV_agg, List.getElem?_cons_zero, List.getElem?_cons_succ, hlt, hr, iadr_bools, hld, hw]
      have hn' : ∀ i < n + 1, ¬ Road g i i := fun i hi => by
        by_cases e : i = n
        · subst e; exact hnR
        · exact hn i (by omega)
      rcases cycle_loop g hf m (n + 1) (by omega) hn' with ⟨L, h1⟩ | ⟨f, c, L, h1⟩
      · exact .inl ⟨loopW_round step L, h1⟩
      · exact .inr ⟨f, c, loopW_round step L, h1⟩

theorem cycle_call (g : List (List Int)) (hf : fewG g = true) : ∃ A c, RowV A c ∧ CycOr g c ∧ ∀ H id, callV cw mds 11 [gA g] H id = some (.val A none) := by
  rcases cycle_loop g hf g.length 0 (by omega) (fun i hi => absurd hi (by omega)) with ⟨L, h1⟩ | ⟨f, c, L, h1⟩
  · rw [show ((0 : Nat) : Int) = 0 from rfl] at L
    refine ⟨.sl 0 [] (some 0), [], .inr ⟨rfl, rfl⟩, .inl ⟨rfl, h1⟩, fun H id => ?_⟩
    refine callV_pure (H' := []) rfl rfl (cw_of fn11 (c := c11) rfl rfl rfl rfl ?_) rfl
    simp -implicitDefEqProofs only [c11, codeW_seq, codeW_reg, codeW_cond, codeW_block, codeW_loop, codeW_skip, codeW_exit, codeW_ret, thenS_normal, thenS_if, thenS_ret, thenS_exit, thenS_pan, thenS_none, blockS_normal, blockS_exit, blockS_ret, blockS_pan, blockS_if, condS_some, ifS_true, ifS_false, opS_val, opS_new, opS_wr, opS_fz, opS_pan, bindO_some, runS_nil, runS_cons, runS_guard, gS_t, gS_f, gS_undef, asG_lit, asG_undef, core_mv, core_pick, core_alloc, core_load, core_store, core_clr, core_nilck, core_bin, core_binb, core_un, core_fadr, core_iadr, core_sli, core_len, core_lenS, core_idxS, core_app, core_mki, core_call, core_extV, core_fld, core_mks, wrO_some, valO_some, lenV_sl, lenV_own, bin_eql, bin_neq, bin_lss, bin_leq, bin_gtr, bin_geq, bin_add, bin_sub, bin_mul, unop_not, asBool_lit, pickV_lit, load_ip, iadr_sl, iadr_own, ev_s, ev_k, get_cons, get_nil, put_cons, put_nil, putD_some, putD_none, keep_cons, keep_nil, initFr, Nat.reduceEqDiff, Nat.reduceLT, Nat.reduceAdd, if_true, if_false, List.mem_cons, List.not_mem_nil, or_false, false_or, or_true, true_or, or_self, ↓reduceIte, Nat.zero_add, decide_false, decide_true, Nat.reduceBEq, beq_self_eq_true, BEq.rfl, Option.map_some, Option.map_none, List.head?_cons, List.map_cons, List.map_nil, List.append_nil, List.nil_append, List.cons_append, Bool.not_true, Bool.not_false, cond_true, cond_false, Int.natCast_nonneg, Int.toNat_natCast, Int.ofNat_toNat, core_bslice1, bsV_int, codeW_drawn, headS_cons, headS_nil, headS_guard, hS_val, hS_new, tailS_nil, tailS_cons, tailS_guard, tlS_val, tlS_new, tlS_wr, tlS_fz, tlS_pan, anyMk_cons, anyMk_nil, makes, binb_eql, binb_neq, List.isEmpty_nil, List.isEmpty_cons, Bool.or_false, Bool.false_or, Bool.or_true, Bool.true_or, pickV_t, pickV_f, core_inv, core_callS, fnV_func, core_tas, tasV_iface, nilck_ptr, extV_tup, fldV_agg, List.getElem?_cons_zero, List.getElem?_cons_succ, lenV_g, L]
    rfl
  · rw [show ((0 : Nat) : Int) = 0 from rfl] at L
    refine ⟨rowC c none, c, .inl rfl, .inr ⟨f, h1⟩, fun H id => ?_⟩
    refine callV_pure (H' := []) rfl rfl (cw_of fn11 (c := c11) rfl rfl rfl rfl ?_) rfl
    simp -implicitDefEqProofs only [c11, codeW_seq, codeW_reg, codeW_cond, codeW_block, codeW_loop, codeW_skip, codeW_exit, codeW_ret, thenS_normal, thenS_if, thenS_ret, thenS_exit, thenS_pan, thenS_none, blockS_normal, blockS_exit, blockS_ret, blockS_pan, blockS_if, condS_some, ifS_true, ifS_false, opS_val, opS_new, opS_wr, opS_fz, opS_pan, bindO_some, runS_nil, runS_cons, runS_guard, gS_t, gS_f, gS_undef, asG_lit, asG_undef, core_mv, core_pick, core_alloc, core_load, core_store, core_clr, core_nilck, core_bin, core_binb, core_un, core_fadr, core_iadr, core_sli, core_len, core_lenS, core_idxS, core_app, core_mki, core_call, core_extV, core_fld, core_mks, wrO_some, valO_some, lenV_sl, lenV_own, bin_eql, bin_neq, bin_lss, bin_leq, bin_gtr, bin_geq, bin_add, bin_sub, bin_mul, unop_not, asBool_lit, pickV_lit, load_ip, iadr_sl, iadr_own, ev_s, ev_k, get_cons, get_nil, put_cons, put_nil, putD_some, putD_none, keep_cons, keep_nil, initFr, Nat.reduceEqDiff, Nat.reduceLT, Nat.reduceAdd, if_true, if_false, List.mem_cons, List.not_mem_nil, or_false, false_or, or_true, true_or, or_self, ↓reduceIte, Nat.zero_add, decide_false, decide_true, Nat.reduceBEq, beq_self_eq_true, BEq.rfl, Option.map_some, Option.map_none, List.head?_cons, List.map_cons, List.map_nil, List.append_nil, List.nil_append, List.cons_append, Bool.not_true, Bool.not_false, cond_true, cond_false, Int.natCast_nonneg, Int.toNat_natCast, Int.ofNat_toNat, core_bslice1, bsV_int, codeW_drawn, headS_cons, headS_nil, headS_guard, hS_val, hS_new, tailS_nil, tailS_cons, tailS_guard, tlS_val, tlS_new, tlS_wr, tlS_fz, tlS_pan, anyMk_cons, anyMk_nil, makes, binb_eql, binb_neq, List.isEmpty_nil, List.isEmpty_cons, Bool.or_false, Bool.false_or, Bool.or_true, Bool.true_or, pickV_t, pickV_f, core_inv, core_callS, fnV_func, core_tas, tasV_iface, nilck_ptr, extV_tup, fldV_agg, List.getElem?_cons_zero, List.getElem?_cons_succ, lenV_g, L]
    rfl
end Go.Proofs.Ytoemnjclhheeoaa.Ai
