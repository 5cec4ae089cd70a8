/- The abstract interpreter: addresses, parts, cuts. No condition. -/
import Derived.Test.YtoemnjclhheeoaaA5
namespace Go.Ai
set_option linter.unusedVariables false
set_option linter.unusedSimpArgs false
section
variable {P : Program} {g : G} {w : World} {H : List AO}

theorem run_sizeOf' {t : TypeId} {n : Nat} (h : tsize P t = some n) : (sizeOf t).run P w = .ok n w := by
  unfold tsize at h
  cases hi : P.info? t with
  | none => rw [hi] at h; cases h
  | some i => rw [hi] at h; cases h; simp [sizeOf, typeInfo, hi]

theorem run_isAgg' {t : TypeId} {b : Bool} (h : isAggT P t = some b) : (isAgg t).run P w = .ok b w := by
  unfold isAggT at h
  cases hu : P.underlying t with
  | none => rw [hu] at h; cases h
  | some d =>
    rw [hu] at h; simp only [Option.map_some, Option.some.injEq] at h
    simp only [isAgg, Sem.run_bind, run_underlying hu, Result.andThen_ok]
    cases d <;> (subst h; rfl)

theorem nOf_inv {t : TypeId} {n : Option Nat} (h : nOf P t = some n) : ∃ k, tsize P t = some k ∧ ((n = none ∧ isAggT P t = some false) ∨ (n = some k ∧ isAggT P t = some true)) := by
  unfold nOf at h
  obtain ⟨b, h1, h⟩ := Option.bind_eq_some_iff.1 h
  obtain ⟨k, h2, h⟩ := Option.bind_eq_some_iff.1 h
  refine ⟨k, h2, ?_⟩
  cases b with
  | false => simp at h; exact .inl ⟨h.symm, h1⟩
  | true => simp at h; exact .inr ⟨h.symm, h1⟩

theorem idx_inv {i : AV} {n j : Nat} {u : Value} (hi : VR g w i u) (h : idx i n = some j) : ∃ k, u = .int k (j : Int) ∧ j < n := by
  unfold idx at h
  split at h
  · rename_i k z
    have e := hi.lit_inv; subst e
    by_cases hb : 0 ≤ z ∧ z < (n : Int)
    · simp only [hb.1, hb.2, decide_true, Bool.and_self, cond_true, Option.some.injEq] at h
      subst h
      refine ⟨k, ?_, ?_⟩
      · rw [Int.toNat_of_nonneg hb.1]
      · omega
    · have : (decide (0 ≤ z) && decide (z < (n : Int))) = false := by
        rw [Bool.eq_false_iff]; intro hh; simp at hh; exact hb hh
      rw [this] at h; cases h
  · cases h

theorem bound_inv {i : AV} {n j : Nat} {u : Value} (hi : VR g w i u) (h : bound i n = some j) : ∃ k, u = .int k (j : Int) ∧ j ≤ n := by
  unfold bound at h
  split at h
  · rename_i k z
    have e := hi.lit_inv; subst e
    by_cases hb : 0 ≤ z ∧ z ≤ (n : Int)
    · simp only [hb.1, hb.2, decide_true, Bool.and_self, cond_true, Option.some.injEq] at h
      subst h
      refine ⟨k, ?_, ?_⟩
      · rw [Int.toNat_of_nonneg hb.1]
      · omega
    · have : (decide (0 ≤ z) && decide (z ≤ (n : Int))) = false := by
        rw [Bool.eq_false_iff]; intro hh; simp at hh; exact hb hh
      rw [this] at h; cases h
  · cases h

theorem fadr_vr {off : Nat} {x r : AV} {u : Value} (hx : VR g w x u) (h : fadr off x = some r) : ∃ a, u = .pointer (some a) ∧ VR g w r (.pointer (some (a.add off))) := by
  unfold fadr at h
  split at h
  · rename_i q o
    simp only [Option.some.injEq] at h; subst h
    obtain ⟨rfl, hr⟩ := hx.ptr_inv
    refine ⟨_, rfl, ?_⟩
    rw [add_none]
    exact .ptr q (o + off) hr
  · rename_i xs
    simp only [Option.some.injEq] at h; subst h
    obtain ⟨ad, f, rfl, h1, h2, h3, h4⟩ := hx.ip_inv
    refine ⟨ad, rfl, .fv _ _ (.ip _ _ (fun k => f (off + k)) (fun hne => ?_) (fun k hk => ?_) (fun k hk => ?_) (fun k a ha => ?_))⟩
    · rw [add_block]; exact h1 (by intro e; subst e; simp at hne)
    · rw [add_add]; exact h2 _ (by simp at hk; omega)
    · exact h3 _ (by simp at hk; omega)
    · rw [List.getElem?_drop] at ha; exact h4 _ _ ha
  · cases h

theorem iadr_vr {e : Nat} {x i r : AV} {u v : Value} (hx : VR g w x u) (hi : VR g w i v) (h : iadr e x i = some r) :
    ∃ a n c k j, u = .slice (some a) n c ∧ v = .int k (j : Nat) ∧ j < n ∧ VR g w r (.pointer (some (a.add (j * e)))) := by
  unfold iadr at h
  split at h
  · rename_i e' xs cap
    obtain ⟨j, hj, h⟩ := Option.bind_eq_some_iff.1 h
    by_cases hee : e = e'
    case neg => rw [beq_of_ne hee] at h; cases h
    subst hee
    simp only [beq_self_eq_true, cond_true] at h
    obtain ⟨cs, hc, h⟩ := Option.bind_eq_some_iff.1 h
    simp only [Option.some.injEq] at h; subst h
    obtain ⟨k, rfl, hlt⟩ := idx_inv hi hj
    obtain ⟨a, c, f, rfl, _, _, h3, h4, h5, h6⟩ := hx.sl_inv
    have hne : xs ≠ [] := by intro e; subst e; simp at hlt
    obtain ⟨ad, rfl, g1, g2⟩ := h4 hne
    have e2 := h3 cs (List.mem_of_getElem? hc)
    refine ⟨ad, xs.length, c, k, j, rfl, rfl, hlt, .fv _ _ (.ip cs _ (f j) (fun hne => ?_) (fun m hm => ?_) (fun m hm => h5 j m hlt (by omega)) (fun m a ha => h6 j cs m a hc ha))⟩
    · rw [add_block]; exact g1 (by have := List.length_pos_iff.2 hne; omega)
    · rw [add_add]; exact g2 j m hlt (by omega)
  · rename_i q off n e' cap
    by_cases hee : e = e'
    case neg => rw [beq_of_ne hee] at h; cases h
    subst hee
    simp only [beq_self_eq_true, cond_true] at h
    obtain ⟨j, hj, h⟩ := Option.bind_eq_some_iff.1 h
    simp only [Option.some.injEq] at h; subst h
    obtain ⟨k, rfl, hlt⟩ := idx_inv hi hj
    obtain ⟨o, c, rfl, hr, hn, _, ho, _⟩ := hx.own_inv
    have := ho (by omega); subst this
    refine ⟨_, n, c, k, j, rfl, rfl, hlt, ?_⟩
    rw [add_none]
    exact .ptr q _ hr
  · cases h

/-- n cells at the beginning: as one value, on both sides. -/
theorem part_vr {n : Option Nat} {cs : List AV} {vs : List Value} {r : AV} (h : VRs g w cs vs) (hp : part n cs = some r) :
    (n = none ∧ ∃ v, vs[0]? = some v ∧ VR g w r v) ∨ ∃ k, n = some k ∧ k ≤ vs.length ∧ VR g w r (.agg (vs.take k).toArray) := by
  cases n with
  | none =>
    simp only [part] at hp
    cases cs with
    | nil => cases hp
    | cons a cs =>
      simp at hp; subst hp
      cases vs with
      | nil => have := h.1; simp at this
      | cons v vs => exact .inl ⟨rfl, v, rfl, h.2 0 _ _ rfl rfl⟩
  | some k =>
    simp only [part] at hp
    by_cases hk : Nat.ble k cs.length = true
    case neg => rw [Bool.eq_false_iff.mpr hk] at hp; cases hp
    rw [hk] at hp
    simp only [cond_true, Option.some.injEq] at hp; subst hp
    have hk' := Nat.le_of_ble_eq_true hk
    have ht := h.take k
    exact .inr ⟨k, rfl, by rw [← h.1]; exact hk', .agg _ _ (by simp [h.1]) ht.arr⟩

theorem take_drop_extract (vs : Array Value) (off k : Nat) : (((vs.toList.drop off).take k).toArray : Array Value) = vs.extract off (off + k) := by
  apply Array.ext'
  simp [List.take_drop, Array.toList_extract, List.extract_eq_take_drop]

/-- A part of a struct's cells. -/
theorem part_run {t : TypeId} {n : Option Nat} {cs : List AV} {vs : Array Value} {off : Nat} {r : AV} (hn : nOf P t = some n) (h : VRs g w cs vs.toList) (hp : part n (cs.drop off) = some r) :
    ∃ v, (Go.part t vs off).run P w = .ok v w ∧ VR g w r v := by
  obtain ⟨k, hk, hh⟩ := nOf_inv hn
  rcases part_vr (h.drop off) hp with ⟨rfl, v, hv, hr⟩ | ⟨k', rfl, hle, hr⟩
  · rcases hh with ⟨_, ha⟩ | ⟨e, _⟩
    · refine ⟨v, ?_, hr⟩
      rw [List.getElem?_drop] at hv
      simp only [Nat.add_zero, Array.getElem?_toList] at hv
      simp [Go.part, run_isAgg' ha, hv]
    · cases e
  · rcases hh with ⟨e, _⟩ | ⟨e, ha⟩
    · cases e
    · cases e
      refine ⟨_, ?_, hr⟩
      simp [Go.part, run_isAgg' ha, run_sizeOf' hk]
      rw [take_drop_extract]

theorem cuts_run {n c : Nat} {cap : Option Nat} {lo hi mx : Option AV} {ul uh um : Option Value} {l h : Nat} {q : Option Nat} (hcap : ∀ k, cap = some k → c = k) (hn : n ≤ c)
    (hlo : ∀ a, lo = some a → ∃ u, ul = some u ∧ VR g w a u) (hlo' : lo = none → ul = none) (hhi : ∀ a, hi = some a → ∃ u, uh = some u ∧ VR g w a u) (hhi' : hi = none → uh = none)
    (hmx : ∀ a, mx = some a → ∃ u, um = some u ∧ VR g w a u) (hmx' : mx = none → um = none) (hc : cuts n cap lo hi mx = some (l, h, q)) (isS : Bool) :
    ∃ m, (Instr.sliceBounds isS n c ul uh um).run P w = .ok (l, h, m) w ∧ l ≤ h ∧ h ≤ n ∧ h ≤ m ∧ m ≤ c ∧ (∀ k, q = some k → m - l = k) := by
  have sb : ∀ {a : AV} {u : Value} {y j : Nat} (code : BoundsCode), VR g w a u → bound a y = some j → j ≤ y ∧ ∀ y', y ≤ y' → (Instr.sliceBound u y' code).run P w = .ok j w := by
    intro a u y j code hv hb
    obtain ⟨k, rfl, hj⟩ := bound_inv hv hb
    refine ⟨hj, fun y' hy => ?_⟩
    simp only [Instr.sliceBound, asIntOf, Sem.run_bind, Sem.run_pure, Result.andThen_ok]
    rw [if_pos ⟨by omega, by omega⟩]; simp
  cases mx with
  | some m =>
    obtain ⟨uM, rfl, hm⟩ := hmx m rfl
    simp only [cuts] at hc
    obtain ⟨m', h1, hc⟩ := Option.bind_eq_some_iff.1 hc
    cases hi with
    | none => cases hc
    | some hh =>
      obtain ⟨uH, rfl, hh'⟩ := hhi hh rfl
      obtain ⟨h', h2, hc⟩ := Option.bind_eq_some_iff.1 hc
      obtain ⟨b1, r1⟩ := sb (if isS then .slice3Acap else .slice3Alen) hm h1
      obtain ⟨b2, r2⟩ := sb .slice3B hh' h2
      cases lo with
      | none =>
        simp only [Option.some.injEq, Prod.mk.injEq] at hc
        obtain ⟨rfl, rfl, rfl⟩ := hc
        refine ⟨m', ?_, by omega, by omega, b2, by omega, by simp⟩
        rw [hlo' rfl]
        simp only [Instr.sliceBounds, Sem.run_bind, r1 c hn, Result.andThen_ok, r2 m' (Nat.le_refl _), Sem.run_pure]
      | some ll =>
        obtain ⟨uL, rfl, hl'⟩ := hlo ll rfl
        obtain ⟨l', h3, hc⟩ := Option.bind_eq_some_iff.1 hc
        simp only [Option.some.injEq, Prod.mk.injEq] at hc
        obtain ⟨rfl, rfl, rfl⟩ := hc
        obtain ⟨b3, r3⟩ := sb .slice3C hl' h3
        refine ⟨m', ?_, b3, by omega, b2, by omega, by simp⟩
        simp only [Instr.sliceBounds, Sem.run_bind, r1 c hn, Result.andThen_ok, r2 m' (Nat.le_refl _), Option.isSome_some, if_true, r3 h' (Nat.le_refl _), Sem.run_pure]
  | none =>
    rw [hmx' rfl]
    simp only [cuts] at hc
    cases hi with
    | some hh =>
      obtain ⟨uH, rfl, hh'⟩ := hhi hh rfl
      simp only at hc
      obtain ⟨h', h2, hc⟩ := Option.bind_eq_some_iff.1 hc
      obtain ⟨b2, r2⟩ := sb (if isS then .sliceAcap else .sliceAlen) hh' h2
      cases lo with
      | none =>
        simp only [Option.some.injEq, Prod.mk.injEq] at hc
        obtain ⟨rfl, rfl, rfl⟩ := hc
        refine ⟨c, ?_, by omega, b2, by omega, Nat.le_refl _, fun k hk => by have := hcap k hk; omega⟩
        rw [hlo' rfl]
        simp only [Instr.sliceBounds, Sem.run_bind, Result.andThen_ok, r2 c hn, Sem.run_pure]
      | some ll =>
        obtain ⟨uL, rfl, hl'⟩ := hlo ll rfl
        simp only at hc
        obtain ⟨l', h3, hc⟩ := Option.bind_eq_some_iff.1 hc
        simp only [Option.some.injEq, Prod.mk.injEq] at hc
        obtain ⟨rfl, rfl, rfl⟩ := hc
        obtain ⟨b3, r3⟩ := sb .sliceB hl' h3
        refine ⟨c, ?_, b3, b2, by omega, Nat.le_refl _, fun k hk => ?_⟩
        · simp only [Instr.sliceBounds, Sem.run_bind, Result.andThen_ok, r2 c hn, Option.isSome_none, Bool.false_eq_true, if_false, r3 h' (Nat.le_refl _), Sem.run_pure]
        · obtain ⟨z, hz, hk⟩ := Option.bind_eq_some_iff.1 hk
          have := hcap z hz
          simp only [Option.some.injEq] at hk; omega
    | none =>
      rw [hhi' rfl]
      simp only at hc
      cases lo with
      | none =>
        simp only [Option.some.injEq, Prod.mk.injEq] at hc
        obtain ⟨rfl, rfl, rfl⟩ := hc
        refine ⟨c, ?_, by omega, Nat.le_refl _, hn, Nat.le_refl _, fun k hk => by have := hcap k hk; omega⟩
        rw [hlo' rfl]
        simp only [Instr.sliceBounds, Sem.run_bind, Result.andThen_ok, Sem.run_pure]
      | some ll =>
        obtain ⟨uL, rfl, hl'⟩ := hlo ll rfl
        simp only at hc
        obtain ⟨l', h3, hc⟩ := Option.bind_eq_some_iff.1 hc
        simp only [Option.some.injEq, Prod.mk.injEq] at hc
        obtain ⟨rfl, rfl, rfl⟩ := hc
        obtain ⟨b3, r3⟩ := sb .sliceB hl' h3
        refine ⟨c, ?_, b3, Nat.le_refl _, hn, Nat.le_refl _, fun k hk => ?_⟩
        · simp only [Instr.sliceBounds, Sem.run_bind, Result.andThen_ok, Option.isSome_none, Bool.false_eq_true, if_false, r3 _ (Nat.le_refl _), Sem.run_pure]
        · obtain ⟨z, hz, hk⟩ := Option.bind_eq_some_iff.1 hk
          have := hcap z hz
          simp only [Option.some.injEq] at hk; omega

theorem VR.sl_empty {e e' : Nat} {cap : Option Nat} {u : Value} (h : VR g w (.sl e [] cap) u) : VR g w (.sl e' [] cap) u := by
  obtain ⟨a, c, f, rfl, h1, h2, _⟩ := h.sl_inv
  exact .fv _ _ (.sl e' [] cap a c f h1 h2 (by simp) (by simp) (by simp) (by simp))
theorem VR.sl_e {e e' : Nat} {xs : List (List AV)} {cap : Option Nat} {u : Value} (h : VR g w (.sl e xs cap) u) (hh : (e' == e || xs.isEmpty) = true) : VR g w (.sl e' xs cap) u := by
  rcases Bool.or_eq_true_iff.1 hh with hh | hh
  · rw [beq_iff_eq] at hh; subst hh; exact h
  · cases xs with
    | nil => exact h.sl_empty
    | cons => cases hh

theorem opt_map_vr {fr : Fr} {act : Act} (F : FRel g w fr act) (lo : Option Operand) : (∀ a, (lo.map cx).map (ev fr) = some a → ∃ u, lo.map act.eval = some u ∧ VR g w a u) ∧ ((lo.map cx).map (ev fr) = none → lo.map act.eval = none) := by
  cases lo with
  | none => exact ⟨fun a h => (by cases h), fun _ => rfl⟩
  | some x => exact ⟨fun a h => by simp at h; subst h; exact ⟨_, rfl, ev_vr F x⟩, fun h => by cases h⟩

theorem slice_run {e t : Nat} {x r : AV} {u : Value} {lo hi mx : Option AV} {ul uh um : Option Value} {et : TypeId} (ht : P.underlying t = some (.slice et)) (he : tsize P et = some e) (hx : VR g w x u)
    (hlo : (∀ a, lo = some a → ∃ u, ul = some u ∧ VR g w a u) ∧ (lo = none → ul = none)) (hhi : (∀ a, hi = some a → ∃ u, uh = some u ∧ VR g w a u) ∧ (hi = none → uh = none))
    (hmx : (∀ a, mx = some a → ∃ u, um = some u ∧ VR g w a u) ∧ (mx = none → um = none)) (h : slice e x lo hi mx = some r) : ∃ v, (Instr.sliceAt t u ul uh um).run P w = .ok v w ∧ VR g w r v := by
  unfold slice at h
  split at h
  · rename_i e' xs cap
    by_cases hee : (e == e' || xs.isEmpty) = true
    case neg => rw [Bool.eq_false_iff.mpr hee] at h; cases h
    rw [hee] at h
    simp only [cond_true] at h
    have hx' := hx.sl_e hee
    obtain ⟨⟨l, hh, q⟩, hc, h⟩ := Option.bind_eq_some_iff.1 h
    simp only [Option.some.injEq] at h; subst h
    obtain ⟨a, c, f, rfl, h1, h2, h3, h4, h5, h6⟩ := hx'.sl_inv
    obtain ⟨m, hr, b1, b2, b3, b4, b5⟩ := cuts_run (P := P) (w := w) h2 h1 hlo.1 hlo.2 hhi.1 hhi.2 hmx.1 hmx.2 hc true
    refine ⟨.slice (if m = l then a else a.map (·.add (l * e))) (hh - l) (m - l), ?_, ?_⟩
    · simp only [Instr.sliceAt, Instr.slice, Sem.run_bind, run_underlying ht, Result.andThen_ok, hr, run_sizeOf' he, Sem.run_pure]
    · have hlen : ((xs.drop l).take (hh - l)).length = hh - l := by simp; omega
      have := FV.sl (S := g.S) (w := w) e ((xs.drop l).take (hh - l)) q (if m = l then a else a.map (·.add (l * e))) (m - l) (fun j k => f (l + j) k) (by omega) (fun k hk => b5 k hk) (fun y hy => h3 y (List.mem_of_mem_drop (List.mem_of_mem_take hy))) ?_ ?_ ?_
      · rw [hlen] at this; exact .fv _ _ this
      · intro hne
        have hpos : 0 < hh - l := by rw [← hlen]; exact List.length_pos_iff.2 hne
        obtain ⟨ad, rfl, g1, g2⟩ := h4 (by intro e; subst e; simp at b2; omega)
        rw [if_neg (by omega)]
        refine ⟨ad.add (l * e), rfl, fun h => by rw [add_block]; exact g1 h, fun j k hj hk => ?_⟩
        rw [add_add, ← g2 (l + j) k (by rw [hlen] at hj; omega) hk]
        congr 2; rw [Nat.add_mul]; omega
      · intro j k hj hk; exact h5 _ _ (by rw [hlen] at hj; omega) hk
      · intro j y k b hy hb
        rw [List.getElem?_take] at hy
        split at hy
        · rw [List.getElem?_drop] at hy; exact h6 _ _ _ _ hy hb
        · cases hy
  · rename_i q off n e' cap
    by_cases hee : e = e'
    case neg => rw [beq_of_ne hee] at h; cases h
    subst hee
    simp only [beq_self_eq_true, cond_true] at h
    obtain ⟨⟨l, hh, q'⟩, hc, h⟩ := Option.bind_eq_some_iff.1 h
    simp only [Option.some.injEq] at h; subst h
    obtain ⟨o, c, rfl, h0, h1, h2, h3, h4⟩ := hx.own_inv
    obtain ⟨m, hr, b1, b2, b3, b4, b5⟩ := cuts_run (P := P) (w := w) h2 h1 hlo.1 hlo.2 hhi.1 hhi.2 hmx.1 hmx.2 hc true
    refine ⟨.slice (if m = l then some ⟨g.ρ q, o, none⟩ else some ⟨g.ρ q, o + l * e, none⟩) (hh - l) (m - l), ?_, ?_⟩
    · simp only [Instr.sliceAt, Instr.slice, Sem.run_bind, run_underlying ht, Result.andThen_ok, hr, run_sizeOf' he, Sem.run_pure, Option.map_some, add_none]
    · by_cases hm : m = l
      · rw [if_pos hm]
        exact .own q _ _ _ _ _ _ h0 (by omega) (fun k hk => b5 k hk) (fun hz => by omega) (fun hz => by omega)
      · rw [if_neg hm]
        have hc0 : c ≠ 0 := by omega
        refine .own q _ _ _ _ _ _ h0 (by omega) (fun k hk => b5 k hk) (fun _ => by rw [h3 hc0]) (fun _ => ?_)
        have := h4 hc0
        have h7 : (l + (m - l)) * e ≤ c * e := Nat.mul_le_mul_right e (by omega)
        rw [Nat.add_mul] at h7
        omega
  · cases h

theorem sliceS_run {t : Nat} {x r : AV} {u : Value} {lo hi : Option AV} {ul uh : Option Value} (ht : P.underlying t = some .string) (hx : VR g w x u)
    (hlo : (∀ a, lo = some a → ∃ u, ul = some u ∧ VR g w a u) ∧ (lo = none → ul = none)) (hhi : (∀ a, hi = some a → ∃ u, uh = some u ∧ VR g w a u) ∧ (hi = none → uh = none))
    (h : sliceS x lo hi = some r) : ∃ v, (Instr.sliceAt t u ul uh none).run P w = .ok v w ∧ VR g w r v := by
  unfold sliceS at h
  split at h
  · rename_i s
    have e := hx.lit_inv; subst e
    obtain ⟨⟨l, hh, q⟩, hc, h⟩ := Option.bind_eq_some_iff.1 h
    simp only [Option.some.injEq] at h; subst h
    obtain ⟨m, hr, b1, b2, b3, b4, b5⟩ := cuts_run (P := P) (w := w) (c := s.size) (um := none) (fun k hk => by cases hk) (Nat.le_refl _) hlo.1 hlo.2 hhi.1 hhi.2 (fun a h => by cases h) (fun _ => rfl) hc false
    refine ⟨.string (s.extract l hh), ?_, .fv _ _ (.lit _)⟩
    simp [Instr.sliceAt, Instr.slice, run_underlying ht, hr]
  · cases h
end
end Go.Ai
