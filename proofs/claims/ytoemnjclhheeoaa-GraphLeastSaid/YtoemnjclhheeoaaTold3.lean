/- Layer 7: an order by what is wanted still, in plain Lean. No condition. -/
import Derived.Test.YtoemnjclhheeoaaTold2
import Derived.Test.YtoemnjclhheeoaaTold1
namespace Go.Proofs.Ytoemnjclhheeoaa.Ai
open Go Go.Ai
set_option linter.unusedSimpArgs false
set_option linter.unusedVariables false

theorem compI_sorted : ∀ l : List Int, l.Pairwise (· ≤ ·) → (compI' l).Pairwise (· < ·)
  | [], _ => List.Pairwise.nil
  | [x], _ => by simp [compI']
  | x :: y :: r, h => by
    rw [List.pairwise_cons] at h
    have ih := compI_sorted (y :: r) h.2
    simp only [compI']
    by_cases e : x = y
    · subst e; rw [beq_self_eq_true, cond_true]; exact ih
    · have : (x == y) = false := by simpa using e
      rw [this, cond_false, List.pairwise_cons]
      refine ⟨fun z hz => ?_, ih⟩
      rw [mem_compI] at hz
      have hy := h.1 y (List.mem_cons_self ..)
      rcases List.mem_cons.1 hz with rfl | hz
      · omega
      · have := (List.pairwise_cons.1 h.2).1 z hz
        omega
theorem need_nodup (g : List (List Int)) (k : Nat) : (need g k).Nodup := by
  unfold need
  split
  · unfold needG
    exact (compI_sorted _ (sortI_sorted _)).imp fun h => by omega
  · exact List.nodup_nil

/-! ### What the first loop makes -/
theorem addU_get (i : Int) : ∀ (r : List Int) (us : List (List Int)) (x : Nat), (∀ k ∈ r, 0 ≤ k ∧ k < (us.length : Int)) → r.Nodup → (addU us i r).getD x [] = us.getD x [] ++ (if (x : Int) ∈ r then [i] else [])
  | [], us, x, _, _ => by simp [addU]
  | k :: r, us, x, hk, hn => by
    have hk0 := hk k (List.mem_cons_self ..)
    rw [List.nodup_cons] at hn
    rw [addU, addU_get i r _ x (fun j hj => by rw [List.length_set]; exact hk j (List.mem_cons_of_mem _ hj)) hn.2]
    by_cases e : x = k.toNat
    · subst e
      have : ((k.toNat : Nat) : Int) = k := by omega
      rw [this, if_neg hn.1, if_pos (List.mem_cons_self ..)]
      rw [List.getD_eq_getElem?_getD, List.getElem?_set_self (by omega)]
      simp
    · have e1 : (x : Int) ≠ k := by omega
      have : (us.set k.toNat (us.getD k.toNat [] ++ [i])).getD x [] = us.getD x [] := by
        rw [List.getD_eq_getElem?_getD, List.getElem?_set_ne (Ne.symm e), ← List.getD_eq_getElem?_getD]
      rw [this]
      simp [e1]

structure BuildOk (g : List (List Int)) (n : Nat) (s : List (List Int) × List Int × List Int) : Prop where
  lu : s.1.length = g.length
  lw : s.2.1.length = g.length
  us : ∀ x : Nat, (s.1.getD x []).Nodup ∧ ∀ i : Int, i ∈ s.1.getD x [] ↔ ∃ j : Nat, i = j ∧ j < n ∧ (x : Int) ∈ need g j
  ws : ∀ j : Nat, j < n → s.2.1.getD j 0 = (need g j).length
  r : s.2.2.Nodup ∧ ∀ i : Int, i ∈ s.2.2 ↔ ∃ j : Nat, i = j ∧ j < n ∧ need g j = []

theorem build_ok (g : List (List Int)) : ∀ (m n : Nat) (s : List (List Int) × List Int × List Int), m + n = g.length → BuildOk g n s → BuildOk g g.length (build g m n s)
  | 0, n, s, h, B => by
    have : n = g.length := by omega
    subst this; exact B
  | m + 1, n, s, h, B => by
    rw [build]
    refine build_ok g m (n + 1) _ (by omega) ?_
    have hn : n < g.length := by omega
    have hrng : ∀ k ∈ need g n, 0 ≤ k ∧ k < (s.1.length : Int) := fun k hk => by rw [B.lu]; exact need_rng _ _ hk
    refine ⟨by rw [addU_len]; exact B.lu, by simpa using B.lw, fun x => ?_, fun j hj => ?_, ?_⟩
    · simp only
      rw [addU_get n _ _ x hrng (need_nodup g n)]
      obtain ⟨b1, b2⟩ := B.us x
      by_cases hx : (x : Int) ∈ need g n
      · rw [if_pos hx]
        constructor
        · rw [List.nodup_append]
          refine ⟨b1, by simp, fun a ha b hb => ?_⟩
          simp only [List.mem_singleton] at hb
          subst hb
          obtain ⟨j, rfl, hj, _⟩ := (b2 a).1 ha
          omega
        · intro i
          rw [List.mem_append, b2 i, List.mem_singleton]
          constructor
          · rintro (⟨j, e, hj, h⟩ | rfl)
            · exact ⟨j, e, by omega, h⟩
            · exact ⟨n, rfl, by omega, hx⟩
          · rintro ⟨j, e, hj, h⟩
            by_cases ej : j = n
            · subst ej; exact .inr e
            · exact .inl ⟨j, e, by omega, h⟩
      · rw [if_neg hx, List.append_nil]
        refine ⟨b1, fun i => ?_⟩
        rw [b2 i]
        constructor
        · rintro ⟨j, e, hj, h⟩; exact ⟨j, e, by omega, h⟩
        · rintro ⟨j, e, hj, h⟩
          have : j ≠ n := fun e => hx (e ▸ h)
          exact ⟨j, e, by omega, h⟩
    · simp only
      rw [List.getD_eq_getElem?_getD, List.getElem?_set]
      by_cases e : n = j
      · subst e
        have : n < s.2.1.length := by rw [B.lw]; exact hn
        simp [this]
      · rw [if_neg e, ← List.getD_eq_getElem?_getD]
        exact B.ws j (by omega)
    · obtain ⟨b1, b2⟩ := B.r
      simp only
      by_cases hx : need g n = []
      · rw [if_pos hx]
        constructor
        · rw [List.nodup_append]
          refine ⟨b1, by simp, fun a ha b hb => ?_⟩
          simp only [List.mem_singleton] at hb
          subst hb
          obtain ⟨j, rfl, hj, _⟩ := (b2 a).1 ha
          omega
        · intro i
          rw [List.mem_append, b2 i, List.mem_singleton]
          constructor
          · rintro (⟨j, e, hj, h⟩ | rfl)
            · exact ⟨j, e, by omega, h⟩
            · exact ⟨n, rfl, by omega, hx⟩
          · rintro ⟨j, e, hj, h⟩
            by_cases ej : j = n
            · subst ej; exact .inr e
            · exact .inl ⟨j, e, by omega, h⟩
      · rw [if_neg hx]
        refine ⟨b1, fun i => ?_⟩
        rw [b2 i]
        constructor
        · rintro ⟨j, e, hj, h⟩; exact ⟨j, e, by omega, h⟩
        · rintro ⟨j, e, hj, h⟩
          have : j ≠ n := fun e => hx (e ▸ h)
          exact ⟨j, e, by omega, h⟩

/-! ### The second loop -/
theorem relax_get : ∀ (r ws h : List Int), r.Nodup → (∀ k ∈ r, 0 ≤ k ∧ k < (ws.length : Int)) → (relax ws h r).1.length = ws.length ∧ (∀ i : Nat, (relax ws h r).1.getD i 0 = ws.getD i 0 - (if (i : Int) ∈ r then 1 else 0)) ∧ (relax ws h r).2.Perm (h ++ r.filter fun k => decide (ws.getD k.toNat 0 = 1))
  | [], ws, h, _, _ => ⟨rfl, fun i => by simp [relax], by simp [relax]⟩
  | k :: r, ws, h, hn, hk => by
    rw [List.nodup_cons] at hn
    have hk0 := hk k (List.mem_cons_self ..)
    rw [relax]
    obtain ⟨i1, i2, i3⟩ := relax_get r (ws.set k.toNat (ws.getD k.toNat 0 - 1)) (if ws.getD k.toNat 0 - 1 = 0 then pushL h k else h) hn.2 (fun j hj => by rw [List.length_set]; exact hk j (List.mem_cons_of_mem _ hj))
    have hset : ∀ i : Nat, i ≠ k.toNat → (ws.set k.toNat (ws.getD k.toNat 0 - 1)).getD i 0 = ws.getD i 0 := fun i hi => by
      rw [List.getD_eq_getElem?_getD, List.getElem?_set_ne (Ne.symm hi), ← List.getD_eq_getElem?_getD]
    refine ⟨by rw [i1]; simp, fun i => ?_, i3.trans ?_⟩
    · rw [i2]
      by_cases e : i = k.toNat
      · subst e
        have ek : ((k.toNat : Nat) : Int) = k := by omega
        rw [ek, if_neg hn.1, if_pos (List.mem_cons_self ..), List.getD_eq_getElem?_getD, List.getElem?_set_self (by omega)]
        simp
      · have e1 : (i : Int) ≠ k := by omega
        rw [hset i e]
        simp [e1]
    · have hf : r.filter (fun j => decide ((ws.set k.toNat (ws.getD k.toNat 0 - 1)).getD j.toNat 0 = 1)) = r.filter (fun j => decide (ws.getD j.toNat 0 = 1)) := by
        refine List.filter_congr fun j hj => ?_
        have hj0 := hk j (List.mem_cons_of_mem _ hj)
        have : j ≠ k := fun e => hn.1 (e ▸ hj)
        rw [hset j.toNat (by omega)]
      rw [hf, List.filter_cons]
      by_cases h1 : ws.getD k.toNat 0 = 1
      · have h2 : ws.getD k.toNat 0 - 1 = 0 := by omega
        rw [if_pos h2, if_pos (by simpa using h1)]
        refine (List.Perm.append_right _ (pushL_perm h k)).trans ?_
        rw [List.append_assoc, List.singleton_append]
      · have h2 : ¬ ws.getD k.toNat 0 - 1 = 0 := by omega
        rw [if_neg h2, if_neg (by simpa using h1)]

structure KI (g : List (List Int)) (ws h out : List Int) : Prop where
  lw : ws.length = g.length
  rng : ∀ x ∈ h ++ out, 0 ≤ x ∧ x < (g.length : Int)
  nd : (h ++ out).Nodup
  w : ∀ i : Nat, i < g.length → ws.getD i 0 = ((need g i).filter fun k => !out.contains k).length
  z : ∀ i : Nat, i < g.length → ((i : Int) ∈ h ++ out ↔ ws.getD i 0 = 0)
  t : ∀ j : Nat, j < out.length → ∀ k ∈ need g (out.getD j 0).toNat, k ∈ out.take j

theorem filter_drop {l out : List Int} {x : Int} (hl : l.Nodup) (hx : ¬ x ∈ out) : ((l.filter fun k => !(out ++ [x]).contains k).length : Int) = (l.filter fun k => !out.contains k).length - (if x ∈ l then 1 else 0) := by
  induction l with
  | nil => simp
  | cons a l ih =>
    rw [List.nodup_cons] at hl
    have ih := ih hl.2
    have e1 : ((out ++ [x]).contains a) = (out.contains a || a == x) := by
      rw [Bool.eq_iff_iff]; simp
    rw [List.filter_cons, List.filter_cons, e1]
    by_cases hax : a = x
    · subst hax
      have h1 : out.contains a = false := by simpa using hx
      rw [h1, if_pos (List.mem_cons_self ..)]
      rw [if_neg hl.1] at ih
      simp only [beq_self_eq_true, Bool.or_true, Bool.not_true, Bool.not_false, if_true, Bool.false_eq_true, if_false, List.length_cons]
      omega
    · have h2 : (a == x) = false := by simpa using hax
      have h3 : x ∈ a :: l ↔ x ∈ l := by
        rw [List.mem_cons]; exact ⟨fun h => h.resolve_left (Ne.symm hax), .inr⟩
      rw [h2, Bool.or_false]
      simp only [h3]
      cases out.contains a
      · simp only [Bool.not_false, if_true, List.length_cons]
        omega
      · simp only [Bool.not_true, Bool.false_eq_true, if_false]
        exact ih

theorem KI.step {g : List (List Int)} {ws h h' out l : List Int} {x : Int} (K : KI g ws h out) (hp : (h' ++ [x]).Perm h) (hl : l.Nodup) (hm : ∀ i : Int, i ∈ l ↔ ∃ j : Nat, i = j ∧ j < g.length ∧ x ∈ need g j) :
    KI g (relax ws h' l).1 (relax ws h' l).2 (out ++ [x]) := by
  have hxh : x ∈ h := hp.mem_iff.1 (by simp)
  have hx0 := K.rng x (List.mem_append_left _ hxh)
  have hnd := K.nd
  have hxo : ¬ x ∈ out := fun ho => (List.nodup_append.1 hnd).2.2 x hxh x ho rfl
  have hlr : ∀ k ∈ l, 0 ≤ k ∧ k < (ws.length : Int) := fun k hk => by
    obtain ⟨j, rfl, hj, _⟩ := (hm k).1 hk
    rw [K.lw]; omega
  obtain ⟨r1, r2, r3⟩ := relax_get l ws h' hl hlr
  have hW : ∀ i : Nat, i < g.length → (relax ws h' l).1.getD i 0 = ((need g i).filter fun k => !(out ++ [x]).contains k).length := by
    intro i hi
    rw [r2, filter_drop (need_nodup g i) hxo, K.w i hi]
    congr 1
    have : (i : Int) ∈ l ↔ x ∈ need g i := by
      rw [hm]
      constructor
      · rintro ⟨j, e, _, h⟩
        have : i = j := by omega
        subst this; exact h
      · intro h; exact ⟨i, rfl, hi, h⟩
    simp only [this]
  have hone : ∀ i : Nat, i < g.length → (i : Int) ∈ l → ws.getD i 0 ≠ 0 := by
    intro i hi hil
    obtain ⟨j, e, hj, hx⟩ := (hm i).1 hil
    have : i = j := by omega
    subst this
    rw [K.w i hi]
    have : x ∈ (need g i).filter fun k => !out.contains k := by
      rw [List.mem_filter]; exact ⟨hx, by simpa using hxo⟩
    have := List.length_pos_of_mem this
    omega
  have hmem : ∀ y : Int, y ∈ (relax ws h' l).2 ++ (out ++ [x]) ↔ y ∈ h ++ out ∨ (y ∈ l ∧ ws.getD y.toNat 0 = 1) := by
    intro y
    rw [List.mem_append, r3.mem_iff, List.mem_append, List.mem_filter, List.mem_append, List.mem_append, ← hp.mem_iff, List.mem_append, decide_eq_true_eq]
    constructor
    · rintro ((h1 | h1) | h1 | h1)
      · exact .inl (.inl (.inl h1))
      · exact .inr h1
      · exact .inl (.inr h1)
      · exact .inl (.inl (.inr h1))
    · rintro (((h1 | h1) | h1) | h1)
      · exact .inl (.inl h1)
      · exact .inr (.inr h1)
      · exact .inr (.inl h1)
      · exact .inl (.inr h1)
  refine ⟨r1.trans K.lw, fun y hy => ?_, ?_, hW, fun i hi => ?_, fun j hj k hk => ?_⟩
  · rcases (hmem y).1 hy with h1 | ⟨h1, _⟩
    · exact K.rng y h1
    · have := hlr y h1; rw [K.lw] at this; exact this
  · have e1 : ((relax ws h' l).2 ++ (out ++ [x])).Perm ((h ++ out) ++ l.filter fun k => decide (ws.getD k.toNat 0 = 1)) := by
      refine (List.Perm.append_right _ r3).trans ?_
      refine List.Perm.trans ?_ (List.Perm.append_right _ (List.Perm.append_right _ hp))
      have a1 : h' ++ l.filter (fun k => decide (ws.getD k.toNat 0 = 1)) ++ (out ++ [x]) = h' ++ (l.filter (fun k => decide (ws.getD k.toNat 0 = 1)) ++ (out ++ [x])) := by simp
      have a2 : h' ++ [x] ++ out ++ l.filter (fun k => decide (ws.getD k.toNat 0 = 1)) = h' ++ (([x] ++ out) ++ l.filter (fun k => decide (ws.getD k.toNat 0 = 1))) := by simp
      rw [a1, a2]
      exact List.Perm.append_left _ (List.perm_append_comm.trans (List.Perm.append_right _ List.perm_append_comm))
    rw [e1.nodup_iff, List.nodup_append]
    refine ⟨hnd, hl.filter _, fun a ha b hb e => ?_⟩
    subst e
    rw [List.mem_filter, decide_eq_true_eq] at hb
    have h0 := K.rng a ha
    have hz := (K.z a.toNat (by omega)).1 (by rw [show ((a.toNat : Nat) : Int) = a by omega]; exact ha)
    omega
  · rw [hmem, K.z i hi, r2, Int.toNat_natCast]
    by_cases hil : (i : Int) ∈ l
    · have := hone i hi hil
      rw [if_pos hil]
      constructor
      · rintro (h | ⟨_, h⟩) <;> omega
      · intro h; exact .inr ⟨hil, by omega⟩
    · rw [if_neg hil]
      constructor
      · rintro (h | ⟨h, _⟩)
        · omega
        · exact absurd h hil
      · intro h; exact .inl (by omega)
  · by_cases hj2 : j < out.length
    · have e1 : (out ++ [x]).getD j 0 = out.getD j 0 := by rw [List.getD_eq_getElem?_getD, List.getElem?_append_left hj2, ← List.getD_eq_getElem?_getD]
      rw [e1] at hk
      rw [List.take_append_of_le_length (by omega)]
      exact K.t j hj2 k hk
    · have hje : j = out.length := by simp at hj; omega
      subst hje
      have e1 : (out ++ [x]).getD out.length 0 = x := by simp [List.getD_eq_getElem?_getD]
      rw [e1] at hk
      rw [List.take_left']
      · have hz := (K.z x.toNat (by omega)).1 (by rw [show ((x.toNat : Nat) : Int) = x by omega]; exact List.mem_append_left _ hxh)
        rw [K.w _ (by omega)] at hz
        have : (need g x.toNat).filter (fun k => !out.contains k) = [] := List.eq_nil_of_length_eq_zero (by omega)
        rw [List.filter_eq_nil_iff] at this
        have := this k hk
        simpa using this
      · rfl

theorem kahn_ok {g : List (List Int)} {us : List (List Int)} (hus : ∀ x : Nat, (us.getD x []).Nodup ∧ ∀ i : Int, i ∈ us.getD x [] ↔ ∃ j : Nat, i = j ∧ j < g.length ∧ (x : Int) ∈ need g j) :
    ∀ (m : Nat) (ws h out : List Int), mu ws h ≤ m → KI g ws h out → ∃ ws', KI g ws' [] (kahn us m ws h out)
  | 0, ws, h, out, hm, K => by
    have : h = [] := List.eq_nil_of_length_eq_zero (by unfold mu at hm; omega)
    subst this
    exact ⟨ws, K⟩
  | m + 1, ws, h, out, hm, K => by
    rw [kahn]
    by_cases he : h = []
    · subst he; rw [if_pos rfl]; exact ⟨ws, K⟩
    · rw [if_neg he]
      have hpos : 0 < h.length := List.length_pos_iff.2 he
      have hps := pop_split hpos
      have hx : (popL h).getD (h.length - 1) 0 ∈ h := hps.mem_iff.1 (List.mem_append_right _ (by simp))
      have htl : ((popL h).take (h.length - 1)).length + 1 = h.length := by
        have := hps.length_eq
        simpa using this
      generalize (popL h).take (h.length - 1) = h' at *
      generalize (popL h).getD (h.length - 1) 0 = X at *
      have hX := K.rng X (List.mem_append_left _ hx)
      obtain ⟨u1, u2⟩ := hus X.toNat
      rw [show ((X.toNat : Nat) : Int) = X by omega] at u2
      refine kahn_ok hus m _ _ _ ?_ (K.step hps u1 u2)
      have := relax_mu (us.getD X.toNat []) ws h' (fun k hk => by
        obtain ⟨j, rfl, hj, _⟩ := (u2 k).1 hk
        rw [K.lw, Int.toNat_natCast]; exact hj)
      unfold mu at this hm ⊢
      omega

/-- The order that is told, or what there is of it. -/
def outL (g : List (List Int)) : List Int :=
  kahn (build g g.length 0 (List.replicate g.length [], List.replicate g.length 0, [])).1 (mu (build g g.length 0 (List.replicate g.length [], List.replicate g.length 0, [])).2.1 (build g g.length 0 (List.replicate g.length [], List.replicate g.length 0, [])).2.2)
    (build g g.length 0 (List.replicate g.length [], List.replicate g.length 0, [])).2.1 (build g g.length 0 (List.replicate g.length [], List.replicate g.length 0, [])).2.2 []

theorem build0 (g : List (List Int)) : BuildOk g 0 (List.replicate g.length [], List.replicate g.length 0, []) where
  lu := by simp
  lw := by simp
  us := fun x => by
    have : (List.replicate g.length ([] : List Int)).getD x [] = [] := by
      rw [List.getD_eq_getElem?_getD, List.getElem?_replicate]; split <;> rfl
    simp only [this]
    simp
  ws := fun j hj => by omega
  r := ⟨List.nodup_nil, fun i => by simp⟩

theorem buildN (g : List (List Int)) : BuildOk g g.length (build g g.length 0 (List.replicate g.length [], List.replicate g.length 0, [])) := build_ok g _ 0 _ (by omega) (build0 g)

theorem outL_ok (g : List (List Int)) : ∃ ws, KI g ws [] (outL g) := by
  have B := buildN g
  unfold outL
  refine kahn_ok B.us _ _ _ _ (Nat.le_refl _) ⟨B.lw, fun x hx => ?_, ?_, fun i hi => ?_, fun i hi => ?_, fun j hj => by simp at hj⟩
  · rw [List.append_nil, B.r.2] at hx
    obtain ⟨j, rfl, hj, _⟩ := hx
    omega
  · rw [List.append_nil]; exact B.r.1
  · rw [B.ws i hi, List.filter_eq_self.2 (by simp)]
  · rw [List.append_nil, B.r.2, B.ws i hi]
    constructor
    · rintro ⟨j, e, _, h⟩
      have : i = j := by omega
      subst this; simp [h]
    · intro h; exact ⟨i, rfl, hi, List.eq_nil_of_length_eq_zero (by omega)⟩
end Go.Proofs.Ytoemnjclhheeoaa.Ai

namespace Go.Proofs.Ytoemnjclhheeoaa.Ai
open Go Go.Ai
set_option linter.unusedSimpArgs false
set_option linter.unusedVariables false

theorem build_short {g : List (List Int)} (hf : fewG g = true) : ∀ (m n : Nat) (s : List (List Int) × List Int × List Int), (∀ x ∈ s.1, x.length ≤ 40 * n) → s.2.2.length ≤ n → (∀ x ∈ (build g m n s).1, x.length ≤ 40 * (n + m)) ∧ (build g m n s).2.2.length ≤ n + m
  | 0, n, s, h, h2 => ⟨h, h2⟩
  | m + 1, n, s, h, h2 => by
    rw [build]
    have n40 := need_40 hf n
    have := build_short hf m (n + 1) (addU s.1 n (need g n), s.2.1.set n (need g n).length, if need g n = [] then s.2.2 ++ [(n : Int)] else s.2.2) (fun x hx => by
      have := addU_short n (need g n) s.1 (40 * n) h x hx
      omega) (by
      show (if need g n = [] then s.2.2 ++ [(n : Int)] else s.2.2).length ≤ n + 1
      split
      · simp; omega
      · omega)
    rw [show n + (m + 1) = n + 1 + m by omega]
    exact this

def okL (g : List (List Int)) : Bool := decide (g.length ≤ (outL g).length)

theorem order_tells (g : List (List Int)) (hf : fewG g = true) : ∃ (A : AV) (o d : List Obj1) (H' : List AO), cw 8 [gA g] [] = some (.ret (.tup [A, litB (okL g)]), H') ∧ Sl A (if okL g = true then outL g else []) o ∧ Own H' (o ++ d) := by
  have h20 := few_len hf
  have hm1 := mksV_ok (id := 0) (e := 1) (bytes := 24) (z := [.sl 0 [] (some 0)]) (t := 24) (n := g.length) (by omega) (by omega)
  have hm2 := mksV_ok (id := 1) (e := 1) (bytes := 8) (z := [litI .i64 0]) (t := 3) (n := g.length) (by omega) (by omega)
  rw [reps_one] at hm1 hm2
  let us0 : US := List.replicate g.length (.sl 0 [] (some 0), [], [])
  have hcells : us0.cells = List.replicate g.length (.sl 0 [] (some 0)) := by simp [us0, US.cells]
  have hints : us0.ints = List.replicate g.length [] := by simp [us0, US.ints]
  have hobjs : us0.objs = [] := by simp [us0, US.objs]
  have hok0 : us0.ok := by
    intro x hx
    rw [List.eq_of_mem_replicate hx]; exact Sl.nil
  have hws : cellsI (List.replicate g.length 0) = List.replicate g.length (litI .i64 0) := by simp [cellsI]
  have O : Own [AO.row (List.replicate g.length (.sl 0 [] (some 0))) 24, .row (List.replicate g.length (litI .i64 0)) 3, .row [.sl 0 [] (some 0)] 33] ((0, us0.cells, 24) :: (1, cellsI (List.replicate g.length 0), 3) :: (2, [.sl 0 [] (some 0)], 33) :: ([] ++ us0.objs)) := by
    rw [hcells, hws, hobjs]
    refine ⟨by simp, fun x hx => ?_⟩
    simp only [List.append_nil, List.mem_cons, List.not_mem_nil, or_false] at hx
    rcases hx with rfl | rfl | rfl <;> rfl
  obtain ⟨us, R, ro, H1, L1, p1, p2, p3, p4, p5⟩ := build_loop g hf 0 1 2 g.length 0 us0 (List.replicate g.length 0) [] (.sl 0 [] (some 0)) [] _ (by omega) (by simp [us0]) hok0 (fun x hx => by
    rw [hints] at hx; rw [List.eq_of_mem_replicate hx]; simp) (by simp) (Nat.le_refl _) Sl.nil O
  rw [show ((0 : Nat) : Int) = 0 from rfl] at L1
  have B := buildN g
  obtain ⟨sh1, sh2⟩ := build_short hf g.length 0 (List.replicate g.length [], List.replicate g.length 0, []) (fun x hx => by rw [List.eq_of_mem_replicate hx]; simp) (Nat.le_refl _)
  rw [hints] at p3 p4 p5
  have hmu : mu (build g g.length 0 (List.replicate g.length [], List.replicate g.length 0, [])).2.1 (build g g.length 0 (List.replicate g.length [], List.replicate g.length 0, [])).2.2 ≤ 50 := by
    unfold mu
    have := List.countP_le_length (p := fun z => decide (0 < z)) (l := (build g g.length 0 (List.replicate g.length [], List.replicate g.length 0, [])).2.1)
    have := B.lw
    omega
  have O2 : Own H1 ((1, cellsI (build g g.length 0 (List.replicate g.length [], List.replicate g.length 0, [])).2.1, 3) :: (2, [R], 33) :: (ro ++ ([] ++ (0, us.cells, 24) :: us.objs))) := by
    refine p5.perm ?_
    have e1 : (0, us.cells, 24) :: (1, cellsI (build g g.length 0 (List.replicate g.length [], List.replicate g.length 0, [])).2.1, 3) :: (2, [R], 33) :: (ro ++ us.objs) = [(0, us.cells, 24)] ++ ([(1, cellsI (build g g.length 0 (List.replicate g.length [], List.replicate g.length 0, [])).2.1, 3), (2, [R], 33)] ++ ro) ++ us.objs := by simp
    have e2 : (1, cellsI (build g g.length 0 (List.replicate g.length [], List.replicate g.length 0, [])).2.1, 3) :: (2, [R], 33) :: (ro ++ ([] ++ (0, us.cells, 24) :: us.objs)) = ([(1, cellsI (build g g.length 0 (List.replicate g.length [], List.replicate g.length 0, [])).2.1, 3), (2, [R], 33)] ++ ro) ++ [(0, us.cells, 24)] ++ us.objs := by simp
    rw [e1, e2]
    exact List.Perm.append_right _ List.perm_append_comm
  obtain ⟨A', Ao, oo, d', H2, L2, q1, q2⟩ := kahn_loop (gA g) g.length 0 1 2 us h20 p1 p2 (fun x hx => by rw [p3] at hx; have := sh1 x hx; omega)
    (fun x hx k hk => by
      rw [p3] at hx
      obtain ⟨n, hn⟩ := List.getElem?_of_mem hx
      have hg : (build g g.length 0 (List.replicate g.length [], List.replicate g.length 0, [])).1.getD n [] = x := by rw [List.getD_eq_getElem?_getD, hn]; rfl
      obtain ⟨j, rfl, hj, _⟩ := ((B.us n).2 k).1 (hg ▸ hk)
      omega)
    _ (build g g.length 0 (List.replicate g.length [], List.replicate g.length 0, [])).2.1 (build g g.length 0 (List.replicate g.length [], List.replicate g.length 0, [])).2.2 [] R (.sl 0 [] (some 0)) ro [] 0 H1 (Nat.le_refl _) hmu B.lw
    (fun x hx => by obtain ⟨j, rfl, hj, _⟩ := (B.r.2 x).1 hx; omega)
    (fun x hx => by
      obtain ⟨n, hn⟩ := List.getElem?_of_mem hx
      have hnl : n < g.length := by rw [← B.lw]; exact (List.getElem?_eq_some_iff.1 hn).1
      have hg : (build g g.length 0 (List.replicate g.length [], List.replicate g.length 0, [])).2.1.getD n 0 = x := by rw [List.getD_eq_getElem?_getD, hn]; rfl
      rw [B.ws n hnl] at hg
      have := need_40 hf n
      omega) (by omega) (by simp; omega) p4 Sl.nil O2
  rw [p3] at q1
  have q1' : Sl Ao (outL g) oo := q1
  have hlen := q1'.lenV
  by_cases ho : okL g = true
  · rw [if_pos ho]
    refine ⟨Ao, oo, d', H2, cw_of fn8 (c := c8) rfl rfl rfl rfl ?_, q1', q2⟩
    have h1 : ¬ ((outL g).length : Int) < g.length := by simp only [okL, decide_eq_true_eq] at ho; omega
    rw [ho]
    simp -implicitDefEqProofs only [c8, codeW_seq, codeW_reg, codeW_cond, codeW_block, codeW_loop, codeW_skip, codeW_exit, codeW_ret, thenS_normal, thenS_if, thenS_ret, thenS_exit, thenS_pan, thenS_none, blockS_normal, blockS_exit, blockS_ret, blockS_pan, blockS_if, condS_some, ifS_true, ifS_false, opS_val, opS_new, opS_wr, opS_fz, opS_pan, bindO_some, runS_nil, runS_cons, runS_guard, gS_t, gS_f, gS_undef, asG_lit, asG_undef, core_mv, core_pick, core_alloc, core_load, core_store, core_clr, core_nilck, core_bin, core_binb, core_un, core_fadr, core_iadr, core_sli, core_len, core_lenS, core_idxS, core_app, core_mki, core_call, core_extV, core_fld, core_mks, wrO_some, valO_some, lenV_sl, lenV_own, bin_eql, bin_neq, bin_lss, bin_leq, bin_gtr, bin_geq, bin_add, bin_sub, bin_mul, unop_not, asBool_lit, pickV_lit, load_ip, iadr_sl, iadr_own, ev_s, ev_k, get_cons, get_nil, put_cons, put_nil, putD_some, putD_none, keep_cons, keep_nil, initFr, Nat.reduceEqDiff, Nat.reduceLT, Nat.reduceAdd, if_true, if_false, List.mem_cons, List.not_mem_nil, or_false, false_or, or_true, true_or, or_self, ↓reduceIte, Nat.zero_add, decide_false, decide_true, Nat.reduceBEq, beq_self_eq_true, BEq.rfl, Option.map_some, Option.map_none, List.head?_cons, List.map_cons, List.map_nil, List.append_nil, List.nil_append, List.cons_append, Bool.not_true, Bool.not_false, cond_true, cond_false, Int.natCast_nonneg, Int.toNat_natCast, Int.ofNat_toNat, core_bslice1, bsV_int, codeW_drawn, headS_cons, headS_nil, headS_guard, hS_val, hS_new, tailS_nil, tailS_cons, tailS_guard, tlS_val, tlS_new, tlS_wr, tlS_fz, tlS_pan, anyMk_cons, anyMk_nil, makes, binb_eql, binb_neq, List.isEmpty_nil, List.isEmpty_cons, Bool.or_false, Bool.false_or, Bool.or_true, Bool.true_or, pickV_t, pickV_f, core_inv, core_callS, fnV_func, core_tas, tasV_iface, nilck_ptr, extV_tup, fldV_agg, List.getElem?_cons_zero, List.getElem?_cons_succ, lenV_g, List.length_nil, List.length_cons, hm1, hm2, L1, L2, hlen, h1]
    rfl
  · rw [if_neg ho]
    refine ⟨.sl 0 [] (some 0), [], d', H2, cw_of fn8 (c := c8) rfl rfl rfl rfl ?_, Sl.nil, q2.sub (List.sublist_append_right ..)⟩
    have h1 : ((outL g).length : Int) < g.length := by simp only [okL, decide_eq_true_eq] at ho; omega
    rw [Bool.eq_false_iff.mpr ho]
    simp -implicitDefEqProofs only [c8, codeW_seq, codeW_reg, codeW_cond, codeW_block, codeW_loop, codeW_skip, codeW_exit, codeW_ret, thenS_normal, thenS_if, thenS_ret, thenS_exit, thenS_pan, thenS_none, blockS_normal, blockS_exit, blockS_ret, blockS_pan, blockS_if, condS_some, ifS_true, ifS_false, opS_val, opS_new, opS_wr, opS_fz, opS_pan, bindO_some, runS_nil, runS_cons, runS_guard, gS_t, gS_f, gS_undef, asG_lit, asG_undef, core_mv, core_pick, core_alloc, core_load, core_store, core_clr, core_nilck, core_bin, core_binb, core_un, core_fadr, core_iadr, core_sli, core_len, core_lenS, core_idxS, core_app, core_mki, core_call, core_extV, core_fld, core_mks, wrO_some, valO_some, lenV_sl, lenV_own, bin_eql, bin_neq, bin_lss, bin_leq, bin_gtr, bin_geq, bin_add, bin_sub, bin_mul, unop_not, asBool_lit, pickV_lit, load_ip, iadr_sl, iadr_own, ev_s, ev_k, get_cons, get_nil, put_cons, put_nil, putD_some, putD_none, keep_cons, keep_nil, initFr, Nat.reduceEqDiff, Nat.reduceLT, Nat.reduceAdd, if_true, if_false, List.mem_cons, List.not_mem_nil, or_false, false_or, or_true, true_or, or_self, ↓reduceIte, Nat.zero_add, decide_false, decide_true, Nat.reduceBEq, beq_self_eq_true, BEq.rfl, Option.map_some, Option.map_none, List.head?_cons, List.map_cons, List.map_nil, List.append_nil, List.nil_append, List.cons_append, Bool.not_true, Bool.not_false, cond_true, cond_false, Int.natCast_nonneg, Int.toNat_natCast, Int.ofNat_toNat, core_bslice1, bsV_int, codeW_drawn, headS_cons, headS_nil, headS_guard, hS_val, hS_new, tailS_nil, tailS_cons, tailS_guard, tlS_val, tlS_new, tlS_wr, tlS_fz, tlS_pan, anyMk_cons, anyMk_nil, makes, binb_eql, binb_neq, List.isEmpty_nil, List.isEmpty_cons, Bool.or_false, Bool.false_or, Bool.or_true, Bool.true_or, pickV_t, pickV_f, core_inv, core_callS, fnV_func, core_tas, tasV_iface, nilck_ptr, extV_tup, fldV_agg, List.getElem?_cons_zero, List.getElem?_cons_succ, lenV_g, List.length_nil, List.length_cons, hm1, hm2, L1, L2, hlen, h1]
    rfl

/-- A row of ints, told whole, or none. -/
def RowV (A : AV) (l : List Int) : Prop := A = rowC l none ∨ (A = .sl 0 [] (some 0) ∧ l = [])
theorem RowV.lenV {A : AV} {l : List Int} (h : RowV A l) : Ai.lenV A = some (litI .i64 l.length) := by
  rcases h with rfl | ⟨rfl, rfl⟩
  · exact lenV_rowC l none
  · rfl
theorem RowV.iadr {A : AV} {l : List Int} (h : RowV A l) {n : Nat} (hn : n < l.length) : Ai.iadr 1 A (litI .i64 n) = some (.ip [litI .i64 (l.getD n 0)]) := by
  rcases h with rfl | ⟨rfl, rfl⟩
  · rw [iadr_rowC, getI hn]; rfl
  · simp at hn
theorem Sl.frz {A : AV} {l : List Int} {o d : List Obj1} (S : Sl A l o) {H : List AO} (O : Own H (o ++ d)) (k : Nat) : ∃ A' ids, Ai.frz H (k + 2) A = some (A', ids) ∧ RowV A' l := by
  rcases S with ⟨rfl, rfl, rfl⟩ | ⟨p, z, hz, rfl, rfl⟩
  · exact ⟨_, _, rfl, .inr ⟨rfl, rfl⟩⟩
  · exact ⟨_, _, frz_ints O.head hz rfl, .inl rfl⟩

theorem order_call (g : List (List Int)) (hf : fewG g = true) (H : List AO) (id : Nat) : ∃ A, callV cw mds 8 [gA g] H id = some (.val (.tup [A, litB (okL g)]) none) ∧ RowV A (if okL g = true then outL g else []) := by
  obtain ⟨A, o, d, H', h, S, O⟩ := order_tells g hf
  obtain ⟨A', ids, hz, hr⟩ := S.frz O 13
  refine ⟨A', ?_, hr⟩
  unfold callV
  have hm : mds 8 = .pure := rfl
  have hw : [gA g].all whole = true := rfl
  rw [hm]
  simp only
  rw [show frzF = 15 + 1 from rfl, mapL_whole hw]
  simp only [Option.bind_some]
  rw [h]
  simp only [Option.bind_some]
  have : Ai.frz H' (15 + 1) (.tup [A, litB (okL g)]) = some (.tup [A', litB (okL g)], ids ++ []) := by
    rw [Ai.frz]
    simp only [mapL, hz, Option.bind_some]
    rfl
  rw [this]
  rfl

theorem nodup_le : ∀ (N : Nat) (l : List Int), l.Nodup → (∀ x ∈ l, 0 ≤ x ∧ x < (N : Int)) → l.length ≤ N
  | 0, l, _, h => by
    cases l with
    | nil => exact Nat.le_refl _
    | cons x r => have := h x (List.mem_cons_self ..); omega
  | N + 1, l, hn, h => by
    have ih := nodup_le N (l.erase (N : Int)) (hn.erase _) (fun x hx => by
      rw [hn.mem_erase_iff] at hx
      have := h x hx.2
      omega)
    by_cases hm : (N : Int) ∈ l
    · rw [List.length_erase_of_mem hm] at ih; omega
    · rw [List.erase_of_not_mem hm] at ih; omega

variable {call : CallF} {mt : MtF} {md : FuncId → Md}

theorem take_contains (l : List Int) (n : Nat) (h : n < l.length) (z : Int) : (l.take (n + 1)).contains z = ((l.take n).contains z || z == l.getD n 0) := by
  have e : l.take (n + 1) = l.take n ++ [l[n]] := List.take_succ_eq_append_getElem h
  rw [e, List.getD_eq_getElem?_getD, List.getElem?_eq_getElem h, Bool.eq_iff_iff]
  simp only [List.contains_iff_mem, Bool.or_eq_true, List.mem_append, List.mem_singleton, beq_iff_eq, Option.getD_some]

/-- Whoever is needed is done. -/
theorem done_loop (g : List (List Int)) (hf : fewG g = true) (A : AV) (l : List Int) (hA : RowV A l) (i : Nat) (hi : i < l.length) (h0 : 0 ≤ l.getD i 0) (h1 : l.getD i 0 < g.length) (D : List Bool) (hD : D.length = g.length) (hdone : ∀ k : Nat, k < g.length → needB g (l.getD i 0).toNat k = true → D.getD k false = true) :
    ∀ (m n : Nat), m + n = g.length →
    loopW (codeW cw (lookM mtl) mds c3l0) [0, 3, 5, 6, 7] [(0, gA g), (3, A), (5, .own 0 0 g.length 1 (some g.length)), (6, litI .i64 i), (7, litI .i64 n)] [.row (cellsB D) 4] =
      some (EX.exit 2, [(0, gA g), (3, A), (5, .own 0 0 g.length 1 (some g.length)), (6, litI .i64 i), (7, litI .i64 g.length), (59, litB false)], [.row (cellsB D) 4])
  | 0, n, h => by
    have hn : n = g.length := by omega
    subst hn
    refine loopW_out ?_ (by simp)
    simp -implicitDefEqProofs only [c3l0, codeW_seq, codeW_reg, codeW_cond, codeW_block, codeW_loop, codeW_skip, codeW_exit, codeW_ret, thenS_normal, thenS_if, thenS_ret, thenS_exit, thenS_pan, thenS_none, blockS_normal, blockS_exit, blockS_ret, blockS_pan, blockS_if, condS_some, ifS_true, ifS_false, opS_val, opS_new, opS_wr, opS_fz, opS_pan, bindO_some, runS_nil, runS_cons, runS_guard, gS_t, gS_f, gS_undef, asG_lit, asG_undef, core_mv, core_pick, core_alloc, core_load, core_store, core_clr, core_nilck, core_bin, core_binb, core_un, core_fadr, core_iadr, core_sli, core_len, core_lenS, core_idxS, core_app, core_mki, core_call, core_extV, core_fld, core_mks, wrO_some, valO_some, lenV_sl, lenV_own, bin_eql, bin_neq, bin_lss, bin_leq, bin_gtr, bin_geq, bin_add, bin_sub, bin_mul, unop_not, asBool_lit, pickV_lit, load_ip, iadr_sl, iadr_own, ev_s, ev_k, get_cons, get_nil, put_cons, put_nil, putD_some, putD_none, keep_cons, keep_nil, initFr, Nat.reduceEqDiff, Nat.reduceLT, Nat.reduceAdd, if_true, if_false, List.mem_cons, List.not_mem_nil, or_false, false_or, or_true, true_or, or_self, ↓reduceIte, Nat.zero_add, decide_false, decide_true, Nat.reduceBEq, beq_self_eq_true, BEq.rfl, Option.map_some, Option.map_none, List.head?_cons, List.map_cons, List.map_nil, List.append_nil, List.nil_append, List.cons_append, Bool.not_true, Bool.not_false, cond_true, cond_false, Int.natCast_nonneg, Int.toNat_natCast, Int.ofNat_toNat, core_bslice1, bsV_int, codeW_drawn, headS_cons, headS_nil, headS_guard, hS_val, hS_new, tailS_nil, tailS_cons, tailS_guard, tlS_val, tlS_new, tlS_wr, tlS_fz, tlS_pan, anyMk_cons, anyMk_nil, makes, binb_eql, binb_neq, List.isEmpty_nil, List.isEmpty_cons, Bool.or_false, Bool.false_or, Bool.or_true, Bool.true_or, pickV_t, pickV_f, core_inv, core_callS, fnV_func, core_tas, tasV_iface, nilck_ptr, extV_tup, fldV_agg, List.getElem?_cons_zero, List.getElem?_cons_succ, lenV_g, Int.lt_irrefl]
  | m + 1, n, h => by
    have hn : n < g.length := by omega
    have hlt : (n : Int) < g.length := by omega
    have hn0 : (0 : Int) ≤ n := by omega
    have h20 := few_len hf
    have hw := wrap1 (show n < 4611686018427387904 by omega)
    have hR : [AO.row (cellsB D) 4][0]? = some (.row (cellsB D) 4) := rfl
    have hwn : (cellsB D)[n]? = some (litB (D.getD n false)) := by rw [cellsB_get, getD_some (by omega)]; rfl
    have hc := fun H id => rneeds_call g hf (l.getD i 0).toNat n (by omega) hn H id
    rw [show (((l.getD i 0).toNat : Nat) : Int) = l.getD i 0 by omega] at hc
    refine loopW_next (fr1 := [(0, gA g), (3, A), (5, .own 0 0 g.length 1 (some g.length)), (6, litI .i64 i), (7, litI .i64 ((n + 1 : Nat) : Int))]) ?_ rfl (done_loop g hf A l hA i hi h0 h1 D hD hdone m (n + 1) (by omega))
    cases hb : needB g (l.getD i 0).toNat n with
    | true =>
      have hd := hdone n hn hb
      rw [hd] at hwn
      simp -implicitDefEqProofs only [c3l0, codeW_seq, codeW_reg, codeW_cond, codeW_block, codeW_loop, codeW_skip, codeW_exit, codeW_ret, thenS_normal, thenS_if, thenS_ret, thenS_exit, thenS_pan, thenS_none, blockS_normal, blockS_exit, blockS_ret, blockS_pan, blockS_if, condS_some, ifS_true, ifS_false, opS_val, opS_new, opS_wr, opS_fz, opS_pan, bindO_some, runS_nil, runS_cons, runS_guard, gS_t, gS_f, gS_undef, asG_lit, asG_undef, core_mv, core_pick, core_alloc, core_load, core_store, core_clr, core_nilck, core_bin, core_binb, core_un, core_fadr, core_iadr, core_sli, core_len, core_lenS, core_idxS, core_app, core_mki, core_call, core_extV, core_fld, core_mks, wrO_some, valO_some, lenV_sl, lenV_own, bin_eql, bin_neq, bin_lss, bin_leq, bin_gtr, bin_geq, bin_add, bin_sub, bin_mul, unop_not, asBool_lit, pickV_lit, load_ip, iadr_sl, iadr_own, ev_s, ev_k, get_cons, get_nil, put_cons, put_nil, putD_some, putD_none, keep_cons, keep_nil, initFr, Nat.reduceEqDiff, Nat.reduceLT, Nat.reduceAdd, if_true, if_false, List.mem_cons, List.not_mem_nil, or_false, false_or, or_true, true_or, or_self, ↓reduceIte, Nat.zero_add, decide_false, decide_true, Nat.reduceBEq, beq_self_eq_true, BEq.rfl, Option.map_some, Option.map_none, List.head?_cons, List.map_cons, List.map_nil, List.append_nil, List.nil_append, List.cons_append, Bool.not_true, Bool.not_false, cond_true, cond_false, Int.natCast_nonneg, Int.toNat_natCast, Int.ofNat_toNat, core_bslice1, bsV_int, codeW_drawn, headS_cons, headS_nil, headS_guard, hS_val, hS_new, tailS_nil, tailS_cons, tailS_guard, tlS_val, tlS_new, tlS_wr, tlS_fz, tlS_pan, anyMk_cons, anyMk_nil, makes, binb_eql, binb_neq, List.isEmpty_nil, List.isEmpty_cons, Bool.or_false, Bool.false_or, Bool.or_true, Bool.true_or, pickV_t, pickV_f, core_inv, core_callS, fnV_func, core_tas, tasV_iface, nilck_ptr, extV_tup, fldV_agg, List.getElem?_cons_zero, List.getElem?_cons_succ, lenV_g, hlt, hn0, and_self, Nat.mul_one, hA.iadr hi, hc, hb, load_of hR hwn, hw]
    | false =>
      simp -implicitDefEqProofs only [c3l0, codeW_seq, codeW_reg, codeW_cond, codeW_block, codeW_loop, codeW_skip, codeW_exit, codeW_ret, thenS_normal, thenS_if, thenS_ret, thenS_exit, thenS_pan, thenS_none, blockS_normal, blockS_exit, blockS_ret, blockS_pan, blockS_if, condS_some, ifS_true, ifS_false, opS_val, opS_new, opS_wr, opS_fz, opS_pan, bindO_some, runS_nil, runS_cons, runS_guard, gS_t, gS_f, gS_undef, asG_lit, asG_undef, core_mv, core_pick, core_alloc, core_load, core_store, core_clr, core_nilck, core_bin, core_binb, core_un, core_fadr, core_iadr, core_sli, core_len, core_lenS, core_idxS, core_app, core_mki, core_call, core_extV, core_fld, core_mks, wrO_some, valO_some, lenV_sl, lenV_own, bin_eql, bin_neq, bin_lss, bin_leq, bin_gtr, bin_geq, bin_add, bin_sub, bin_mul, unop_not, asBool_lit, pickV_lit, load_ip, iadr_sl, iadr_own, ev_s, ev_k, get_cons, get_nil, put_cons, put_nil, putD_some, putD_none, keep_cons, keep_nil, initFr, Nat.reduceEqDiff, Nat.reduceLT, Nat.reduceAdd, if_true, if_false, List.mem_cons, List.not_mem_nil, or_false, false_or, or_true, true_or, or_self, ↓reduceIte, Nat.zero_add, decide_false, decide_true, Nat.reduceBEq, beq_self_eq_true, BEq.rfl, Option.map_some, Option.map_none, List.head?_cons, List.map_cons, List.map_nil, List.append_nil, List.nil_append, List.cons_append, Bool.not_true, Bool.not_false, cond_true, cond_false, Int.natCast_nonneg, Int.toNat_natCast, Int.ofNat_toNat, core_bslice1, bsV_int, codeW_drawn, headS_cons, headS_nil, headS_guard, hS_val, hS_new, tailS_nil, tailS_cons, tailS_guard, tlS_val, tlS_new, tlS_wr, tlS_fz, tlS_pan, anyMk_cons, anyMk_nil, makes, binb_eql, binb_neq, List.isEmpty_nil, List.isEmpty_cons, Bool.or_false, Bool.false_or, Bool.or_true, Bool.true_or, pickV_t, pickV_f, core_inv, core_callS, fnV_func, core_tas, tasV_iface, nilck_ptr, extV_tup, fldV_agg, List.getElem?_cons_zero, List.getElem?_cons_succ, lenV_g, hlt, hn0, and_self, Nat.mul_one, hA.iadr hi, hc, hb, hw]

theorem each_loop (g : List (List Int)) (hf : fewG g = true) (A : AV) (l : List Int) (hA : RowV A l) (hl : l.length ≤ 1000) (hrng : ∀ x ∈ l, 0 ≤ x ∧ x < (g.length : Int)) (hnd : l.Nodup) (ht : ∀ j : Nat, j < l.length → ∀ k ∈ need g (l.getD j 0).toNat, k ∈ l.take j) :
    ∀ (m n : Nat) (D : List Bool), m + n = l.length → D.length = g.length → (∀ k : Nat, k < g.length → D.getD k false = (l.take n).contains (k : Int)) →
    ∃ D', loopW (codeW cw (lookM mtl) mds c3l1) [0, 3, 5, 6] [(0, gA g), (3, A), (5, .own 0 0 g.length 1 (some g.length)), (6, litI .i64 n)] [.row (cellsB D) 4] =
      some (EX.exit 0, [(0, gA g), (3, A), (5, .own 0 0 g.length 1 (some g.length)), (6, litI .i64 l.length), (30, litB false)], [.row (cellsB D') 4])
  | 0, n, D, h, hD, hd => by
    have hn : n = l.length := by omega
    subst hn
    refine ⟨D, loopW_out ?_ (by simp)⟩
    simp -implicitDefEqProofs only [c3l1, codeW_seq, codeW_reg, codeW_cond, codeW_block, codeW_loop, codeW_skip, codeW_exit, codeW_ret, thenS_normal, thenS_if, thenS_ret, thenS_exit, thenS_pan, thenS_none, blockS_normal, blockS_exit, blockS_ret, blockS_pan, blockS_if, condS_some, ifS_true, ifS_false, opS_val, opS_new, opS_wr, opS_fz, opS_pan, bindO_some, runS_nil, runS_cons, runS_guard, gS_t, gS_f, gS_undef, asG_lit, asG_undef, core_mv, core_pick, core_alloc, core_load, core_store, core_clr, core_nilck, core_bin, core_binb, core_un, core_fadr, core_iadr, core_sli, core_len, core_lenS, core_idxS, core_app, core_mki, core_call, core_extV, core_fld, core_mks, wrO_some, valO_some, lenV_sl, lenV_own, bin_eql, bin_neq, bin_lss, bin_leq, bin_gtr, bin_geq, bin_add, bin_sub, bin_mul, unop_not, asBool_lit, pickV_lit, load_ip, iadr_sl, iadr_own, ev_s, ev_k, get_cons, get_nil, put_cons, put_nil, putD_some, putD_none, keep_cons, keep_nil, initFr, Nat.reduceEqDiff, Nat.reduceLT, Nat.reduceAdd, if_true, if_false, List.mem_cons, List.not_mem_nil, or_false, false_or, or_true, true_or, or_self, ↓reduceIte, Nat.zero_add, decide_false, decide_true, Nat.reduceBEq, beq_self_eq_true, BEq.rfl, Option.map_some, Option.map_none, List.head?_cons, List.map_cons, List.map_nil, List.append_nil, List.nil_append, List.cons_append, Bool.not_true, Bool.not_false, cond_true, cond_false, Int.natCast_nonneg, Int.toNat_natCast, Int.ofNat_toNat, core_bslice1, bsV_int, codeW_drawn, headS_cons, headS_nil, headS_guard, hS_val, hS_new, tailS_nil, tailS_cons, tailS_guard, tlS_val, tlS_new, tlS_wr, tlS_fz, tlS_pan, anyMk_cons, anyMk_nil, makes, binb_eql, binb_neq, List.isEmpty_nil, List.isEmpty_cons, Bool.or_false, Bool.false_or, Bool.or_true, Bool.true_or, pickV_t, pickV_f, core_inv, core_callS, fnV_func, core_tas, tasV_iface, nilck_ptr, extV_tup, fldV_agg, List.getElem?_cons_zero, List.getElem?_cons_succ, hA.lenV, Int.lt_irrefl]
  | m + 1, n, D, h, hD, hd => by
    have hn : n < l.length := by omega
    have hlt : (n : Int) < l.length := by omega
    have hw := wrap1 (show n < 4611686018427387904 by omega)
    have hX : l.getD n 0 ∈ l := by
      rw [List.getD_eq_getElem?_getD, List.getElem?_eq_getElem hn]; exact List.getElem_mem _
    obtain ⟨h0, h1⟩ := hrng _ hX
    have hR : [AO.row (cellsB D) 4][0]? = some (.row (cellsB D) 4) := rfl
    have eX : (((l.getD n 0).toNat : Nat) : Int) = l.getD n 0 := by omega
    have hDX : D.getD (l.getD n 0).toNat false = false := by
      rw [hd _ (by omega), eX, Bool.eq_false_iff]
      intro hc
      have hc : l.getD n 0 ∈ l.take n := by simpa using hc
      have hsp : l = l.take n ++ l.drop n := (List.take_append_drop n l).symm
      have hd2 : l.drop n = l.getD n 0 :: l.drop (n + 1) := by
        rw [List.drop_eq_getElem_cons hn, List.getD_eq_getElem?_getD, List.getElem?_eq_getElem hn]; rfl
      rw [hsp, List.nodup_append] at hnd
      exact hnd.2.2 _ hc _ (by rw [hd2]; exact List.mem_cons_self ..) rfl
    have hwn : (cellsB D)[(l.getD n 0).toNat]? = some (litB false) := by rw [cellsB_get, getD_some (by omega), hDX]; rfl
    have L := done_loop g hf A l hA n hn h0 h1 D hD (fun k hk hb => by
      rw [hd k hk]
      have := ht n hn k ((needB_iff hk).1 hb)
      simpa using this) g.length 0 (by omega)
    rw [show ((0 : Nat) : Int) = 0 from rfl] at L
    have st : storeAt [AO.row (cellsB D) 4] 1 (.ptr 0 (l.getD n 0).toNat) (litB true) = some [AO.row (cellsB (D.set (l.getD n 0).toNat true)) 4] := by
      rw [store_ptr hR (by rw [cellsB_len]; omega) rfl rfl, cellsB_set]; rfl
    have c0 : ¬ l.getD n 0 < 0 := by omega
    have c1 : ¬ (g.length : Int) ≤ l.getD n 0 := by omega
    obtain ⟨D', L'⟩ := each_loop g hf A l hA hl hrng hnd ht m (n + 1) (D.set (l.getD n 0).toNat true) (by omega) (by simpa using hD) (fun k hk => by
      rw [getD_set _ _ _ _ (by omega), take_contains l n hn]
      by_cases e : (l.getD n 0).toNat = k
      · rw [if_pos e]
        have : ((k : Int) == l.getD n 0) = true := by rw [beq_iff_eq]; omega
        rw [this, Bool.or_true]
      · rw [if_neg e, hd k hk]
        have : ((k : Int) == l.getD n 0) = false := by rw [beq_eq_false_iff_ne]; omega
        rw [this, Bool.or_false])
    refine ⟨D', loopW_round ?_ L'⟩
    simp -implicitDefEqProofs only [c3l1, codeW_seq, codeW_reg, codeW_cond, codeW_block, codeW_loop, codeW_skip, codeW_exit, codeW_ret, thenS_normal, thenS_if, thenS_ret, thenS_exit, thenS_pan, thenS_none, blockS_normal, blockS_exit, blockS_ret, blockS_pan, blockS_if, condS_some, ifS_true, ifS_false, opS_val, opS_new, opS_wr, opS_fz, opS_pan, bindO_some, runS_nil, runS_cons, runS_guard, gS_t, gS_f, gS_undef, asG_lit, asG_undef, core_mv, core_pick, core_alloc, core_load, core_store, core_clr, core_nilck, core_bin, core_binb, core_un, core_fadr, core_iadr, core_sli, core_len, core_lenS, core_idxS, core_app, core_mki, core_call, core_extV, core_fld, core_mks, wrO_some, valO_some, lenV_sl, lenV_own, bin_eql, bin_neq, bin_lss, bin_leq, bin_gtr, bin_geq, bin_add, bin_sub, bin_mul, unop_not, asBool_lit, pickV_lit, load_ip, iadr_sl, iadr_own, ev_s, ev_k, get_cons, get_nil, put_cons, put_nil, putD_some, putD_none, keep_cons, keep_nil, initFr, Nat.reduceEqDiff, Nat.reduceLT, Nat.reduceAdd, if_true, if_false, List.mem_cons, List.not_mem_nil, or_false, false_or, or_true, true_or, or_self, ↓reduceIte, Nat.zero_add, decide_false, decide_true, Nat.reduceBEq, beq_self_eq_true, BEq.rfl, Option.map_some, Option.map_none, List.head?_cons, List.map_cons, List.map_nil, List.append_nil, List.nil_append, List.cons_append, Bool.not_true, Bool.not_false, cond_true, cond_false, Int.natCast_nonneg, Int.toNat_natCast, Int.ofNat_toNat, core_bslice1, bsV_int, codeW_drawn, headS_cons, headS_nil, headS_guard, hS_val, hS_new, tailS_nil, tailS_cons, tailS_guard, tlS_val, tlS_new, tlS_wr, tlS_fz, tlS_pan, anyMk_cons, anyMk_nil, makes, binb_eql, binb_neq, List.isEmpty_nil, List.isEmpty_cons, Bool.or_false, Bool.false_or, Bool.or_true, Bool.true_or, pickV_t, pickV_f, core_inv, core_callS, fnV_func, core_tas, tasV_iface, nilck_ptr, extV_tup, fldV_agg, List.getElem?_cons_zero, List.getElem?_cons_succ, hA.lenV, hlt, hA.iadr hn, lenV_g, c0, c1, h0, h1, and_self, Nat.mul_one, load_of hR hwn, L, st, hw]

theorem order_law (g : List (List Int)) : ∃ H', cw 3 [gA g] [] = some (.ret (litB true), H') := by
  cases hf : fewG g with
  | false =>
    refine ⟨[], cw_of fn3 (c := c3) rfl rfl rfl rfl ?_⟩
    simp -implicitDefEqProofs only [c3, codeW_seq, codeW_reg, codeW_cond, codeW_block, codeW_loop, codeW_skip, codeW_exit, codeW_ret, thenS_normal, thenS_if, thenS_ret, thenS_exit, thenS_pan, thenS_none, blockS_normal, blockS_exit, blockS_ret, blockS_pan, blockS_if, condS_some, ifS_true, ifS_false, opS_val, opS_new, opS_wr, opS_fz, opS_pan, bindO_some, runS_nil, runS_cons, runS_guard, gS_t, gS_f, gS_undef, asG_lit, asG_undef, core_mv, core_pick, core_alloc, core_load, core_store, core_clr, core_nilck, core_bin, core_binb, core_un, core_fadr, core_iadr, core_sli, core_len, core_lenS, core_idxS, core_app, core_mki, core_call, core_extV, core_fld, core_mks, wrO_some, valO_some, lenV_sl, lenV_own, bin_eql, bin_neq, bin_lss, bin_leq, bin_gtr, bin_geq, bin_add, bin_sub, bin_mul, unop_not, asBool_lit, pickV_lit, load_ip, iadr_sl, iadr_own, ev_s, ev_k, get_cons, get_nil, put_cons, put_nil, putD_some, putD_none, keep_cons, keep_nil, initFr, Nat.reduceEqDiff, Nat.reduceLT, Nat.reduceAdd, if_true, if_false, List.mem_cons, List.not_mem_nil, or_false, false_or, or_true, true_or, or_self, ↓reduceIte, Nat.zero_add, decide_false, decide_true, Nat.reduceBEq, beq_self_eq_true, BEq.rfl, Option.map_some, Option.map_none, List.head?_cons, List.map_cons, List.map_nil, List.append_nil, List.nil_append, List.cons_append, Bool.not_true, Bool.not_false, cond_true, cond_false, Int.natCast_nonneg, Int.toNat_natCast, Int.ofNat_toNat, core_bslice1, bsV_int, codeW_drawn, headS_cons, headS_nil, headS_guard, hS_val, hS_new, tailS_nil, tailS_cons, tailS_guard, tlS_val, tlS_new, tlS_wr, tlS_fz, tlS_pan, anyMk_cons, anyMk_nil, makes, binb_eql, binb_neq, List.isEmpty_nil, List.isEmpty_cons, Bool.or_false, Bool.false_or, Bool.or_true, Bool.true_or, pickV_t, pickV_f, core_inv, core_callS, fnV_func, core_tas, tasV_iface, nilck_ptr, extV_tup, fldV_agg, List.getElem?_cons_zero, List.getElem?_cons_succ, few_call, hf]
    rfl
  | true =>
    have h20 := few_len hf
    obtain ⟨A, hc, hA⟩ := order_call g hf [] 0
    have hc' : ∀ id, callV cw mds 8 [gA g] [] id = some (.val (.tup [A, litB (okL g)]) none) := fun id => hc
    obtain ⟨ws, K⟩ := outL_ok g
    cases ho : okL g with
    | false =>
      rw [ho] at hA hc
      rw [if_neg (by simp)] at hA
      refine ⟨[], cw_of fn3 (c := c3) rfl rfl rfl rfl ?_⟩
      have e : ((([] : List Int).length : Int) == 0) = true := rfl
      simp -implicitDefEqProofs only [c3, codeW_seq, codeW_reg, codeW_cond, codeW_block, codeW_loop, codeW_skip, codeW_exit, codeW_ret, thenS_normal, thenS_if, thenS_ret, thenS_exit, thenS_pan, thenS_none, blockS_normal, blockS_exit, blockS_ret, blockS_pan, blockS_if, condS_some, ifS_true, ifS_false, opS_val, opS_new, opS_wr, opS_fz, opS_pan, bindO_some, runS_nil, runS_cons, runS_guard, gS_t, gS_f, gS_undef, asG_lit, asG_undef, core_mv, core_pick, core_alloc, core_load, core_store, core_clr, core_nilck, core_bin, core_binb, core_un, core_fadr, core_iadr, core_sli, core_len, core_lenS, core_idxS, core_app, core_mki, core_call, core_extV, core_fld, core_mks, wrO_some, valO_some, lenV_sl, lenV_own, bin_eql, bin_neq, bin_lss, bin_leq, bin_gtr, bin_geq, bin_add, bin_sub, bin_mul, unop_not, asBool_lit, pickV_lit, load_ip, iadr_sl, iadr_own, ev_s, ev_k, get_cons, get_nil, put_cons, put_nil, putD_some, putD_none, keep_cons, keep_nil, initFr, Nat.reduceEqDiff, Nat.reduceLT, Nat.reduceAdd, if_true, if_false, List.mem_cons, List.not_mem_nil, or_false, false_or, or_true, true_or, or_self, ↓reduceIte, Nat.zero_add, decide_false, decide_true, Nat.reduceBEq, beq_self_eq_true, BEq.rfl, Option.map_some, Option.map_none, List.head?_cons, List.map_cons, List.map_nil, List.append_nil, List.nil_append, List.cons_append, Bool.not_true, Bool.not_false, cond_true, cond_false, Int.natCast_nonneg, Int.toNat_natCast, Int.ofNat_toNat, core_bslice1, bsV_int, codeW_drawn, headS_cons, headS_nil, headS_guard, hS_val, hS_new, tailS_nil, tailS_cons, tailS_guard, tlS_val, tlS_new, tlS_wr, tlS_fz, tlS_pan, anyMk_cons, anyMk_nil, makes, binb_eql, binb_neq, List.isEmpty_nil, List.isEmpty_cons, Bool.or_false, Bool.false_or, Bool.or_true, Bool.true_or, pickV_t, pickV_f, core_inv, core_callS, fnV_func, core_tas, tasV_iface, nilck_ptr, extV_tup, fldV_agg, List.getElem?_cons_zero, List.getElem?_cons_succ, few_call, hf, List.length_nil, hc, hA.lenV, e, awake_call]
      rfl
    | true =>
      rw [ho] at hA hc
      rw [if_pos rfl] at hA
      have hnd : (outL g).Nodup := by have := K.nd; simpa using this
      have hrng : ∀ x ∈ outL g, 0 ≤ x ∧ x < (g.length : Int) := fun x hx => K.rng x (by simpa using hx)
      have hlen : (outL g).length = g.length := by
        have h1 : g.length ≤ (outL g).length := by simpa [okL] using ho
        have h2 : (outL g).length ≤ g.length := nodup_le _ _ hnd hrng
        omega
      have hm := mksV_ok (id := 0) (e := 1) (bytes := 1) (z := [litB false]) (t := 4) (n := g.length) (by omega) (by omega)
      rw [cells_rep] at hm
      obtain ⟨D', L⟩ := each_loop g hf A (outL g) hA (by omega) hrng hnd K.t (outL g).length 0 (List.replicate g.length false) (by omega) (by simp) (fun k hk => by
        simp [List.getD_eq_getElem?_getD, List.getElem?_replicate, hk])
      rw [show ((0 : Nat) : Int) = 0 from rfl] at L
      have e : (((outL g).length : Int) == g.length) = true := by rw [beq_iff_eq]; omega
      refine ⟨[.row (cellsB D') 4], cw_of fn3 (c := c3) rfl rfl rfl rfl ?_⟩
      simp -implicitDefEqProofs only [c3, codeW_seq, codeW_reg, codeW_cond, codeW_block, codeW_loop, codeW_skip, codeW_exit, codeW_ret, thenS_normal, thenS_if, thenS_ret, thenS_exit, thenS_pan, thenS_none, blockS_normal, blockS_exit, blockS_ret, blockS_pan, blockS_if, condS_some, ifS_true, ifS_false, opS_val, opS_new, opS_wr, opS_fz, opS_pan, bindO_some, runS_nil, runS_cons, runS_guard, gS_t, gS_f, gS_undef, asG_lit, asG_undef, core_mv, core_pick, core_alloc, core_load, core_store, core_clr, core_nilck, core_bin, core_binb, core_un, core_fadr, core_iadr, core_sli, core_len, core_lenS, core_idxS, core_app, core_mki, core_call, core_extV, core_fld, core_mks, wrO_some, valO_some, lenV_sl, lenV_own, bin_eql, bin_neq, bin_lss, bin_leq, bin_gtr, bin_geq, bin_add, bin_sub, bin_mul, unop_not, asBool_lit, pickV_lit, load_ip, iadr_sl, iadr_own, ev_s, ev_k, get_cons, get_nil, put_cons, put_nil, putD_some, putD_none, keep_cons, keep_nil, initFr, Nat.reduceEqDiff, Nat.reduceLT, Nat.reduceAdd, if_true, if_false, List.mem_cons, List.not_mem_nil, or_false, false_or, or_true, true_or, or_self, ↓reduceIte, Nat.zero_add, decide_false, decide_true, Nat.reduceBEq, beq_self_eq_true, BEq.rfl, Option.map_some, Option.map_none, List.head?_cons, List.map_cons, List.map_nil, List.append_nil, List.nil_append, List.cons_append, Bool.not_true, Bool.not_false, cond_true, cond_false, Int.natCast_nonneg, Int.toNat_natCast, Int.ofNat_toNat, core_bslice1, bsV_int, codeW_drawn, headS_cons, headS_nil, headS_guard, hS_val, hS_new, tailS_nil, tailS_cons, tailS_guard, tlS_val, tlS_new, tlS_wr, tlS_fz, tlS_pan, anyMk_cons, anyMk_nil, makes, binb_eql, binb_neq, List.isEmpty_nil, List.isEmpty_cons, Bool.or_false, Bool.false_or, Bool.or_true, Bool.true_or, pickV_t, pickV_f, core_inv, core_callS, fnV_func, core_tas, tasV_iface, nilck_ptr, extV_tup, fldV_agg, List.getElem?_cons_zero, List.getElem?_cons_succ, few_call, hf, List.length_nil, hc, lenV_g, hm, L, hA.lenV, e, awake_call]
      rfl
end Go.Proofs.Ytoemnjclhheeoaa.Ai
