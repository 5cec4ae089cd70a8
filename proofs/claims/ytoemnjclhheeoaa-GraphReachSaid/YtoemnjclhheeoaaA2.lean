/- The abstract interpreter: freezing is sound. No condition. -/
import Derived.Test.YtoemnjclhheeoaaA1
namespace Go.Ai
set_option linter.unusedVariables false

theorem add_none (b o m : Nat) : (⟨b, o, none⟩ : Addr).add m = ⟨b, o + m, none⟩ := by
  unfold Addr.add; split
  · rename_i h; subst h; rfl
  · rfl
theorem add_block (a : Addr) (m : Nat) : (a.add m).block = a.block := by unfold Addr.add; split <;> rfl
theorem add_add (a : Addr) (m n : Nat) : (a.add m).add n = a.add (m + n) := by
  unfold Addr.add
  by_cases hm : m = 0
  · subst hm; simp
  · by_cases hn : n = 0
    · subst hn; simp [hm]
    · simp [hm, hn, Nat.add_assoc]

theorem mapL_get {f : AV → Option (AV × List Nat)} : ∀ {xs : List AV} {ys : List AV} {ids : List Nat}, mapL f xs = some (ys, ids) →
    ys.length = xs.length ∧ (∀ (i : Nat) (a : AV), xs[i]? = some a → ∃ b is, f a = some (b, is) ∧ ys[i]? = some b ∧ ∀ r, r ∈ is → r ∈ ids) ∧
    (∀ r, r ∈ ids → ∃ (i : Nat) (a b : AV) (is : List Nat), xs[i]? = some a ∧ f a = some (b, is) ∧ r ∈ is)
  | [], ys, ids, h => by
    simp only [mapL, Option.some.injEq, Prod.mk.injEq] at h
    obtain ⟨rfl, rfl⟩ := h
    simp
  | x :: xs, ys, ids, h => by
    simp only [mapL] at h
    obtain ⟨⟨b, is⟩, h1, h⟩ := Option.bind_eq_some_iff.1 h
    obtain ⟨⟨ys', ids'⟩, h2, h⟩ := Option.bind_eq_some_iff.1 h
    simp only [Option.some.injEq, Prod.mk.injEq] at h
    obtain ⟨rfl, rfl⟩ := h
    obtain ⟨g1, g2, g3⟩ := mapL_get h2
    refine ⟨by simp [g1], fun i a ha => ?_, fun r hr => ?_⟩
    · cases i with
      | zero =>
        simp only [List.getElem?_cons_zero, Option.some.injEq] at ha
        subst ha
        exact ⟨b, is, h1, by simp, fun r hr => List.mem_append.2 (.inl hr)⟩
      | succ i =>
        simp only [List.getElem?_cons_succ] at ha ⊢
        obtain ⟨b', is', e1, e2, e3⟩ := g2 i a ha
        exact ⟨b', is', e1, e2, fun r hr => List.mem_append.2 (.inr (e3 r hr))⟩
    · rcases List.mem_append.1 hr with hr | hr
      · exact ⟨0, x, b, is, by simp, h1, hr⟩
      · obtain ⟨i, a, b', is', e1, e2, e3⟩ := g3 r hr
        exact ⟨i + 1, a, b', is', by simpa using e1, e2, e3⟩

theorem mapR_get {f : AV → Option (AV × List Nat)} {e : Nat} : ∀ {n : Nat} {cs : List AV} {xs : List (List AV)} {ids : List Nat}, mapR f e n cs = some (xs, ids) → n * e ≤ cs.length →
    xs.length = n ∧ (∀ x ∈ xs, x.length = e) ∧ (∀ (j k : Nat) (a : AV) (x : List AV), xs[j]? = some x → k < e → cs[j * e + k]? = some a → ∃ b is, f a = some (b, is) ∧ x[k]? = some b ∧ ∀ r, r ∈ is → r ∈ ids) ∧
    (∀ r, r ∈ ids → ∃ (i : Nat) (a b : AV) (is : List Nat), cs[i]? = some a ∧ f a = some (b, is) ∧ r ∈ is)
  | 0, cs, xs, ids, h, _ => by
    simp only [mapR, Option.some.injEq, Prod.mk.injEq] at h
    obtain ⟨rfl, rfl⟩ := h
    simp
  | n + 1, cs, xs, ids, h, hl => by
    simp only [mapR] at h
    obtain ⟨⟨y, is⟩, h1, h⟩ := Option.bind_eq_some_iff.1 h
    obtain ⟨⟨ys', ids'⟩, h2, h⟩ := Option.bind_eq_some_iff.1 h
    simp only [Option.some.injEq, Prod.mk.injEq] at h
    obtain ⟨rfl, rfl⟩ := h
    have hl' : e + n * e ≤ cs.length := by rw [Nat.add_mul] at hl; omega
    obtain ⟨g1, g2, g3, g4⟩ := mapR_get h2 (by simp; omega)
    obtain ⟨k1, k2, k3⟩ := mapL_get h1
    refine ⟨by simp [g1], ?_, fun j k a x hx hk ha => ?_, fun r hr => ?_⟩
    · intro x hx
      rcases List.mem_cons.1 hx with rfl | hx
      · rw [k1]; simp; omega
      · exact g2 x hx
    · cases j with
      | zero =>
        simp only [List.getElem?_cons_zero, Option.some.injEq] at hx
        subst hx
        simp only [Nat.zero_mul, Nat.zero_add] at ha
        obtain ⟨b, is', e1, e2, e3⟩ := k2 k a (by rw [List.getElem?_take, if_pos hk]; exact ha)
        exact ⟨b, is', e1, e2, fun r hr => List.mem_append.2 (.inl (e3 r hr))⟩
      | succ j =>
        simp only [List.getElem?_cons_succ] at hx
        have ha' : (cs.drop e)[j * e + k]? = some a := by
          rw [List.getElem?_drop, ← ha]; congr 1; rw [Nat.add_mul]; omega
        obtain ⟨b, is', e1, e2, e3⟩ := g3 j k a x hx hk ha'
        exact ⟨b, is', e1, e2, fun r hr => List.mem_append.2 (.inr (e3 r hr))⟩
    · rcases List.mem_append.1 hr with hr | hr
      · obtain ⟨i, a, b', is', e1, e2, e3⟩ := k3 r hr
        rw [List.getElem?_take] at e1
        split at e1
        · exact ⟨i, a, b', is', e1, e2, e3⟩
        · cases e1
      · obtain ⟨i, a, b', is', e1, e2, e3⟩ := g4 r hr
        rw [List.getElem?_drop] at e1
        exact ⟨e + i, a, b', is', e1, e2, e3⟩

/-- The blocks of some objects, beside those that are frozen already. -/
def plus (g : G) (ids : List Nat) : Nat → Prop := fun b => g.S b ∨ ∃ r, r ∈ ids ∧ g.ρ r = b

theorem FV.weaken {S S' : Nat → Prop} {w : World} {a : AV} {v : Value} (h : FV S w a v) (hS : ∀ b, S b → S' b) : FV S' w a v := h.mono hS fun _ _ => rfl

theorem plus_le {g : G} {ids ids' : List Nat} (h : ∀ r, r ∈ ids → r ∈ ids') : ∀ b, plus g ids b → plus g ids' b := by
  rintro b (hb | ⟨r, hr, rfl⟩)
  · exact .inl hb
  · exact .inr ⟨r, h r hr, rfl⟩

theorem frz_list {g : G} {w : World} {H : List AO} {k : Nat}
    (ih : ∀ (a : AV) (v : Value) (b : AV) (ids : List Nat), VR g w a v → frz H k a = some (b, ids) → FV (plus g ids) w b v ∧ ∀ r, r ∈ ids → Live H r)
    {xs ys : List AV} {vs : Array Value} {ids : List Nat} (hl : xs.length = vs.size) (hv : ∀ (i : Nat) (a : AV) (v : Value), xs[i]? = some a → vs[i]? = some v → VR g w a v) (h : mapL (frz H k) xs = some (ys, ids)) :
    (ys.length = vs.size ∧ ∀ (i : Nat) (a : AV) (v : Value), ys[i]? = some a → vs[i]? = some v → FV (plus g ids) w a v) ∧ ∀ r, r ∈ ids → Live H r := by
  obtain ⟨h1, h2, h3⟩ := mapL_get h
  refine ⟨⟨h1.trans hl, fun i b v hb hvi => ?_⟩, fun r hr => ?_⟩
  · have hi : i < xs.length := by rw [← h1]; exact (List.getElem?_eq_some_iff.1 hb).1
    obtain ⟨b', is, e1, e2, e3⟩ := h2 i xs[i] (by simp [hi])
    rw [e2] at hb; cases hb
    exact (ih _ _ _ _ (hv i _ v (by simp [hi]) hvi) e1).1.weaken (plus_le e3)
  · obtain ⟨i, a, b, is, e1, e2, e3⟩ := h3 r hr
    have hi : i < vs.size := by rw [← hl]; exact (List.getElem?_eq_some_iff.1 e1).1
    exact (ih a vs[i] b is (hv i a _ e1 (by simp [hi])) e2).2 r e3

theorem cell_row {w : World} {b off : Nat} {arr : Array Value} {t : TypeId} {fz : Nat × Nat} (h : w.heap[b]? = some (.cells arr t fz)) : w.cell? ⟨b, off, none⟩ = arr[off]? := by simp [World.cell?, h]

theorem frz_sound {g : G} {w : World} {H : List AO} (R : Rel g w H) : ∀ (k : Nat) (a : AV) (v : Value) (b : AV) (ids : List Nat), VR g w a v → frz H k a = some (b, ids) → FV (plus g ids) w b v ∧ ∀ r, r ∈ ids → Live H r := by
  intro k
  induction k with
  | zero => intro a v b ids _ h; simp [frz] at h
  | succ k ih =>
    intro a v b ids hv h
    cases a with
    | any =>
      simp only [frz, Option.some.injEq, Prod.mk.injEq] at h
      obtain ⟨rfl, rfl⟩ := h
      exact ⟨.any _, by simp⟩
    | lit u =>
      simp only [frz, Option.some.injEq, Prod.mk.injEq] at h
      obtain ⟨rfl, rfl⟩ := h
      rw [hv.lit_inv]
      exact ⟨.lit _, by simp⟩
    | agg xs =>
      simp only [frz] at h
      obtain ⟨⟨ys, is⟩, h1, h⟩ := Option.bind_eq_some_iff.1 h
      simp only [Option.some.injEq, Prod.mk.injEq] at h
      obtain ⟨rfl, rfl⟩ := h
      obtain ⟨vs, rfl, hl, hp⟩ := hv.agg_inv
      obtain ⟨⟨e1, e2⟩, e3⟩ := frz_list ih hl hp h1
      exact ⟨.agg _ _ e1 e2, e3⟩
    | tup xs =>
      simp only [frz] at h
      obtain ⟨⟨ys, is⟩, h1, h⟩ := Option.bind_eq_some_iff.1 h
      simp only [Option.some.injEq, Prod.mk.injEq] at h
      obtain ⟨rfl, rfl⟩ := h
      obtain ⟨vs, rfl, hl, hp⟩ := hv.tup_inv
      obtain ⟨⟨e1, e2⟩, e3⟩ := frz_list ih hl hp h1
      exact ⟨.tup _ _ e1 e2, e3⟩
    | iface t x =>
      simp only [frz] at h
      obtain ⟨⟨y, is⟩, h1, h⟩ := Option.bind_eq_some_iff.1 h
      simp only [Option.some.injEq, Prod.mk.injEq] at h
      obtain ⟨rfl, rfl⟩ := h
      obtain ⟨u, rfl, hu⟩ := hv.iface_inv
      obtain ⟨e1, e2⟩ := ih _ _ _ _ hu h1
      exact ⟨.iface _ _ _ e1, e2⟩
    | fn f xs zs =>
      simp only [frz] at h
      obtain ⟨⟨ys, is⟩, h1, h⟩ := Option.bind_eq_some_iff.1 h
      obtain ⟨⟨ys', is'⟩, h2, h⟩ := Option.bind_eq_some_iff.1 h
      simp only [Option.some.injEq, Prod.mk.injEq] at h
      obtain ⟨rfl, rfl⟩ := h
      obtain ⟨vs, us, rfl, hl, hp, hl', hp'⟩ := hv.fn_inv
      obtain ⟨⟨e1, e2⟩, e3⟩ := frz_list ih hl hp h1
      obtain ⟨⟨d1, d2⟩, d3⟩ := frz_list ih hl' hp' h2
      refine ⟨.fn f _ _ _ _ e1 (fun i a v h1 h2 => (e2 i a v h1 h2).weaken (plus_le fun r hr => List.mem_append.2 (.inl hr))) d1 (fun i a v h1 h2 => (d2 i a v h1 h2).weaken (plus_le fun r hr => List.mem_append.2 (.inr hr))), fun r hr => ?_⟩
      rcases List.mem_append.1 hr with hr | hr
      · exact e3 r hr
      · exact d3 r hr
    | ptr r off => simp [frz] at h
    | ip xs =>
      simp only [frz, Option.some.injEq, Prod.mk.injEq] at h
      obtain ⟨rfl, rfl⟩ := h
      cases hv with
      | fv _ _ hv => exact ⟨hv.weaken fun b h => .inl h, by simp⟩
    | sl e xs cap =>
      simp only [frz, Option.some.injEq, Prod.mk.injEq] at h
      obtain ⟨rfl, rfl⟩ := h
      cases hv with
      | fv _ _ hv => exact ⟨hv.weaken fun b h => .inl h, by simp⟩
    | own r off n e cap =>
      simp only [frz] at h
      cases hr : H[r]? with
      | none => rw [hr] at h; cases h
      | some ao =>
        rw [hr] at h
        cases ao with
        | dead => cases h
        | row cells t =>
          simp only at h
          by_cases hb : Nat.ble (off + n * e) cells.length = true
          case neg => rw [Bool.eq_false_iff.mpr hb] at h; cases h
          rw [hb] at h
          simp only [cond_true] at h
          have hb' : off + n * e ≤ cells.length := Nat.le_of_ble_eq_true hb
          obtain ⟨⟨xs, is⟩, h1, h⟩ := Option.bind_eq_some_iff.1 h
          simp only [Option.some.injEq, Prod.mk.injEq] at h
          obtain ⟨rfl, rfl⟩ := h
          obtain ⟨o, c, rfl, hN, hn, hcap, ho, hs⟩ := hv.own_inv
          obtain ⟨arr, a1, a3, a4, a5, a7, a6⟩ := R.obj r cells t hr
          obtain ⟨m1, m2, m3, m4⟩ := mapR_get h1 (by simp; omega)
          have hcell : ∀ i x, (cells.drop off)[i]? = some x → ∃ v, arr[off + i]? = some v ∧ VR g w x v := by
            intro i x hx
            rw [List.getElem?_drop] at hx
            have hi : off + i < cells.length := (List.getElem?_eq_some_iff.1 hx).1
            have hi' : off + i < arr.size := by omega
            exact ⟨arr[off + i], by simp [hi'], a5 _ _ _ hx (by simp [hi'])⟩
          constructor
          · have := FV.sl (S := plus g (r :: is)) (w := w) e xs cap (some ⟨g.ρ r, o, none⟩) c (fun j k => (arr[off + (j * e + k)]?).getD undef) (by omega) hcap m2 ?_ ?_ ?_
            · rw [m1] at this; exact this
            · intro hx
              have hn0 : 0 < n := by rw [← m1]; exact List.length_pos_iff.2 hx
              have ho' := ho (by omega)
              subst ho'
              refine ⟨_, rfl, fun _ => .inr ⟨r, by simp, rfl⟩, fun j k hj hk => ?_⟩
              rw [add_none, cell_row a1]
              have : o + (j * e + k) < arr.size := by
                have h3 : (j + 1) * e ≤ n * e := Nat.mul_le_mul_right e (by omega)
                rw [Nat.add_mul] at h3; omega
              simp [this]
            · intro j k hj hk
              have : off + (j * e + k) < arr.size := by
                have h3 : (j + 1) * e ≤ n * e := Nat.mul_le_mul_right e (by omega)
                rw [Nat.add_mul] at h3; omega
              rw [Array.getElem?_eq_getElem this]
              exact a7 (off + (j * e + k)) _ (by simp [this])
            · intro j x k b hx hb2
              have hk : k < e := by rw [← m2 x (List.mem_of_getElem? hx)]; exact (List.getElem?_eq_some_iff.1 hb2).1
              have hj : j < n := by rw [← m1]; exact (List.getElem?_eq_some_iff.1 hx).1
              have h3 : (j + 1) * e ≤ n * e := Nat.mul_le_mul_right e (by omega)
              rw [Nat.add_mul] at h3
              have hlt : j * e + k < (cells.drop off).length := by simp; omega
              obtain ⟨b', is', e1, e2, e3⟩ := m3 j k (cells.drop off)[j * e + k] x hx hk (by simp)
              rw [e2] at hb2; cases hb2
              obtain ⟨v, v1, v2⟩ := hcell (j * e + k) (cells.drop off)[j * e + k] (by simp)
              rw [v1]
              exact (ih _ _ _ _ v2 e1).1.weaken (plus_le fun r hr => List.mem_cons_of_mem _ (e3 r hr))
          · intro r' hr'
            rcases List.mem_cons.1 hr' with rfl | hr'
            · exact ⟨cells, t, hr⟩
            · obtain ⟨i, a, b, is', e1, e2, e3⟩ := m4 r' hr'
              obtain ⟨v, v1, v2⟩ := hcell i a e1
              exact (ih _ _ _ _ v2 e2).2 r' e3

/-- What leads to no memory stands in every world. -/
theorem flat_fv {S S' : Nat → Prop} {w w' : World} : ∀ (k : Nat) (a : AV) (v : Value), flat k a = true → FV S w a v → FV S' w' a v := by
  intro k
  induction k with
  | zero => intro a v h; simp [flat] at h
  | succ k ih =>
    intro a v h hv
    have L : ∀ {xs : List AV}, xs.all (flat k) = true → ∀ {vs : Array Value}, (∀ (i : Nat) (a : AV) (v : Value), xs[i]? = some a → vs[i]? = some v → FV S w a v) → ∀ (i : Nat) (a : AV) (v : Value), xs[i]? = some a → vs[i]? = some v → FV S' w' a v :=
      fun hx _ hp i a v h1 h2 => ih a v (List.all_eq_true.1 hx a (List.mem_of_getElem? h1)) (hp i a v h1 h2)
    cases hv with
    | any => exact .any _
    | lit => exact .lit _
    | agg xs vs hl hp => simp only [flat] at h; exact .agg _ _ hl (L h hp)
    | tup xs vs hl hp => simp only [flat] at h; exact .tup _ _ hl (L h hp)
    | iface t a v hp => simp only [flat] at h; exact .iface _ _ _ (ih _ _ h hp)
    | fn f xs ys vs us hl hp hl' hp' =>
      simp only [flat, Bool.and_eq_true] at h
      exact .fn f _ _ _ _ hl (L h.1 hp) hl' (L h.2 hp')
    | ip => simp [flat] at h
    | sl e xs cap a c f h1 h2 h3 h4 h5 =>
      cases xs with
      | nil => exact .sl e [] cap a c f h1 h2 (by simp) (by simp) (by simp) (by simp)
      | cons => simp [flat] at h

/-- No object from n on is named: fewer names do. -/
theorem below_vr {g : G} {w : World} (n : Nat) : ∀ (k : Nat) (a : AV) (v : Value), below n k a = true → VR g w a v → VR { g with D := fun r => g.D r ∧ r < n } w a v := by
  intro k
  induction k with
  | zero => intro a v h; simp [below] at h
  | succ k ih =>
    intro a v h hv
    have L : ∀ {xs : List AV}, xs.all (below n k) = true → ∀ {vs : Array Value}, (∀ (i : Nat) (a : AV) (v : Value), xs[i]? = some a → vs[i]? = some v → VR g w a v) → ∀ (i : Nat) (a : AV) (v : Value), xs[i]? = some a → vs[i]? = some v → VR { g with D := fun r => g.D r ∧ r < n } w a v :=
      fun hx _ hp i a v h1 h2 => ih a v (List.all_eq_true.1 hx a (List.mem_of_getElem? h1)) (hp i a v h1 h2)
    cases hv with
    | fv _ _ hv => exact .fv _ _ hv
    | agg xs vs hl hp => simp only [below] at h; exact .agg _ _ hl (L h hp)
    | tup xs vs hl hp => simp only [below] at h; exact .tup _ _ hl (L h hp)
    | iface t a v hp => simp only [below] at h; exact .iface _ _ _ (ih _ _ h hp)
    | fn f xs ys vs us hl hp hl' hp' =>
      simp only [below, Bool.and_eq_true] at h
      exact .fn f _ _ _ _ hl (L h.1 hp) hl' (L h.2 hp')
    | ptr r off hr => simp only [below] at h; exact .ptr r off ⟨hr, by simpa [Nat.blt_eq] using h⟩
    | own r off n e cap o c hr hn hcap ho hs => simp only [below] at h; exact .own r off n e cap o c ⟨hr, by simpa [Nat.blt_eq] using h⟩ hn hcap ho hs

end Go.Ai
