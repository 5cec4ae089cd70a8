/- The abstract interpreter: append, make, literals, bytes. No condition. -/
import Derived.Test.YtoemnjclhheeoaaA7
namespace Go.Ai
set_option linter.unusedVariables false
set_option linter.unusedSimpArgs false
set_option linter.unusedSectionVars false
section
variable {P : Program} {g : G} {w : World} {H : List AO} {o : Oper} {act : Act} {id : Nat}

theorem setRow_same (w : World) (b : Nat) (arr : Array Value) : (w.setRow b arr).os = w.os ∧ (w.setRow b arr).tape = w.tape ∧ (w.setRow b arr).output = w.output ∧ (w.setRow b arr).heap.size = w.heap.size := by simp [World.setRow]

theorem flatten_len {e : Nat} : ∀ {xs : List (List AV)}, (∀ x ∈ xs, x.length = e) → xs.flatten.length = xs.length * e
  | [], _ => by simp
  | x :: xs, h => by
    simp only [List.flatten_cons, List.length_append, List.length_cons]
    rw [flatten_len (fun y hy => h y (List.mem_cons_of_mem _ hy)), h x (by simp), Nat.add_mul]; omega

theorem flatten_get {e : Nat} : ∀ {xs : List (List AV)}, (∀ x ∈ xs, x.length = e) → ∀ (i : Nat) (a : AV), xs.flatten[i]? = some a → ∃ x, xs[i / e]? = some x ∧ x[i % e]? = some a ∧ i / e < xs.length ∧ i % e < e
  | [], _, i, a, h => by simp at h
  | x :: xs, hx, i, a, h => by
    have hl : x.length = e := hx x (by simp)
    simp only [List.flatten_cons] at h
    rw [List.getElem?_append] at h
    split at h
    · rename_i hi
      rw [hl] at hi
      rw [Nat.div_eq_of_lt hi, Nat.mod_eq_of_lt hi]
      exact ⟨x, rfl, h, by simp, hi⟩
    · rename_i hi
      rw [hl] at hi h
      have he : 0 < e := by
        rcases Nat.eq_zero_or_pos e with h0 | h0
        · exfalso
          have := flatten_len (e := e) (xs := xs) (fun y hy => hx y (List.mem_cons_of_mem _ hy))
          have h2 := (List.getElem?_eq_some_iff.1 h).1
          rw [this, h0] at h2; simp at h2
        · exact h0
      obtain ⟨y, h1, h2, h3, h4⟩ := flatten_get (fun y hy => hx y (List.mem_cons_of_mem _ hy)) (i - e) a h
      have hd : i / e = (i - e) / e + 1 := by rw [Nat.div_eq_sub_div he (by omega)]
      have hm : i % e = (i - e) % e := by rw [Nat.mod_eq_sub_mod (by omega)]
      rw [hd, hm]
      exact ⟨y, by simpa using h1, h2, by simp; omega, h4⟩

/-- What a slice's cells are. -/
theorem sl_cells {e : Nat} {xs : List (List AV)} {cap : Option Nat} {u : Value} (hx : VR g w (.sl e xs cap) u) : ∃ a c news, u = .slice a xs.length c ∧ xs.length ≤ c ∧ (∀ k, cap = some k → c = k) ∧ VRs g w xs.flatten news ∧ news.length = xs.length * e ∧
    (∀ v ∈ news, v.oneCell' = true) ∧ (xs ≠ [] → ∃ ad, a = some ad ∧ ∀ (j : Nat) (v : Value), news[j]? = some v → w.cell? (ad.add j) = some v) := by
  obtain ⟨a, c, f, rfl, h1, h2, h3, h4, h5, h6⟩ := hx.sl_inv
  have hl := flatten_len h3
  have hlt : ∀ i, i < xs.length * e → i / e < xs.length ∧ i % e < e := by
    intro i hi
    have he : 0 < e := by rcases Nat.eq_zero_or_pos e with h | h; · subst h; simp at hi
                          · exact h
    exact ⟨(Nat.div_lt_iff_lt_mul he).2 hi, Nat.mod_lt _ he⟩
  refine ⟨a, c, (List.range (xs.length * e)).map fun i => f (i / e) (i % e), rfl, h1, h2, ⟨by simp [hl], fun i b v hb hv => ?_⟩, by simp, fun v hv => ?_, fun hne => ?_⟩
  · obtain ⟨x, e1, e2, e3, e4⟩ := flatten_get h3 i b hb
    have hi : i < xs.length * e := by rw [← hl]; exact (List.getElem?_eq_some_iff.1 hb).1
    simp [hi] at hv; subst hv
    exact .fv _ _ (h6 _ _ _ _ e1 e2)
  · obtain ⟨i, hi, rfl⟩ := List.mem_map.1 hv
    have := hlt i (by simpa using hi)
    exact h5 _ _ this.1 this.2
  · obtain ⟨ad, rfl, _, g2⟩ := h4 hne
    refine ⟨ad, rfl, fun j v hj => ?_⟩
    have hi : j < xs.length * e := by have := (List.getElem?_eq_some_iff.1 hj).1; simpa using this
    simp [hi] at hj; subst hj
    have := hlt j hi
    rw [← g2 _ _ this.1 this.2]; congr 2; rw [Nat.mul_comm, Nat.div_add_mod]

/-- What is appended: its length, its cells, as the machine asks for them. -/
theorem elems_run {e m : Nat} {y : AV} {ns : List AV} {u : Value} (R : Rel g w H) (hy : VR g w y u) (h : elems H e y = some (m, ns)) : ∃ news, VRs g w ns news ∧ news.length = m * e ∧ (∀ v ∈ news, v.oneCell' = true) ∧
    (∀ w', (Builtin.lenOf u).run P w' = .ok m w') ∧ ∀ w', w'.heap = w.heap → (Builtin.firstCells e m u).run P w' = .ok news.toArray w' := by
  unfold elems at h
  split at h
  · rename_i e' xs cap
    by_cases hee : (e == e' || xs.isEmpty) = true
    case neg => rw [Bool.eq_false_iff.mpr hee] at h; cases h
    rw [hee] at h
    simp only [cond_true, Option.some.injEq, Prod.mk.injEq] at h
    obtain ⟨rfl, rfl⟩ := h
    obtain ⟨a, c, news, rfl, h1, h2, h3, h4, h5, h6⟩ := sl_cells (hy.sl_e hee)
    refine ⟨news, h3, h4, h5, fun w' => rfl, fun w' hw => ?_⟩
    cases xs with
    | nil =>
      have : news = [] := List.eq_nil_of_length_eq_zero (by simpa using h4)
      subst this
      cases a with
      | none => exact run_firstCells_none w' e 0 _ c
      | some ad => exact run_firstCells_some w' e 0 ad _ c [] (by simp) (by simp)
    | cons x xs =>
      obtain ⟨ad, rfl, h7⟩ := h6 (by simp)
      exact run_firstCells_some w' e _ ad _ c news h4 (fun j v hj => by rw [← h7 j v hj]; simp [World.cell?, hw])
  · rename_i r off n e' cap
    by_cases hee : e = e'
    case neg => rw [beq_of_ne hee] at h; cases h
    subst hee
    simp only [beq_self_eq_true, cond_true] at h
    obtain ⟨⟨cs, t⟩, hp, h⟩ := Option.bind_eq_some_iff.1 h
    by_cases hb : Nat.ble (off + n * e) cs.length = true
    case neg => rw [Bool.eq_false_iff.mpr hb] at h; cases h
    rw [hb] at h
    simp only [cond_true, Option.some.injEq, Prod.mk.injEq] at h
    obtain ⟨rfl, rfl⟩ := h
    have hb := Nat.le_of_ble_eq_true hb
    have hr : H[r]? = some (.row cs t) := rowAt_inv hp
    obtain ⟨arr, h1, h2, h3, h4, h5, h6⟩ := R.row hr
    obtain ⟨o, c, rfl, k0, k1, k2, k3, k4⟩ := hy.own_inv
    have hl : (((arr.toList.take cs.length).drop off).take (n * e)).length = n * e := by simp; omega
    refine ⟨((arr.toList.take cs.length).drop off).take (n * e), (h4.drop off).take _, hl, fun v hv => h5 v (List.mem_of_mem_take (List.mem_of_mem_drop (List.mem_of_mem_take hv))), fun w' => rfl, fun w' hw => ?_⟩
    refine run_firstCells_some w' e n _ n c _ hl (fun j v hj => ?_)
    have hj' : j < n * e := by rw [← hl]; exact (List.getElem?_eq_some_iff.1 hj).1
    have hn : c ≠ 0 := by
      intro h0
      have : n = 0 := by omega
      subst this; simp at hj'
    rw [k3 hn, add_none]
    rw [List.getElem?_take, if_pos hj', List.getElem?_drop, List.getElem?_take] at hj
    split at hj
    · rw [cell_row (w := w') (by rw [hw]; exact h1)]; simpa using hj
    · cases hj
  · rename_i s
    by_cases he : e = 1
    case neg => rw [beq_of_ne he] at h; cases h
    subst he
    simp only [beq_self_eq_true, cond_true, Option.some.injEq, Prod.mk.injEq] at h
    obtain ⟨rfl, rfl⟩ := h
    have e := hy.lit_inv; subst e
    refine ⟨s.data.toList.map fun b => .int .u8 b.toNat, ⟨by simp, fun i a v h1 h2 => ?_⟩, by simp, by simp [Value.oneCell'], fun w' => rfl, fun w' _ => ?_⟩
    · rw [List.getElem?_map] at h1 h2
      cases hs : s.data.toList[i]? with
      | none => rw [hs] at h1; cases h1
      | some b => rw [hs] at h1 h2; simp at h1 h2; subst h1; subst h2; exact .fv _ _ (.lit _)
    · have : s.extract 0 s.size = s := by
        apply ByteArray.ext
        simp only [ByteArray.data_extract]
        exact Array.extract_size
      simp only [Builtin.firstCells, this, Sem.run_pure]
      congr 1
      apply Array.ext'
      simp
  · cases h

section
variable {t u ty et : TypeId} {i : TypeInfo} {z : Value} (ht : P.underlying t = some (.slice et)) (hu : P.underlying u = some .string ∨ ∃ e2, P.underlying u = some (.slice e2)) (hi : P.info? et = some i) (hz : i.zero = some z)
include ht hu hi hz

theorem run_append_zero {base : Option Addr} {n c : Nat} {y : Value} (hn : n ≤ c) (hl : ∀ w' : World, (Builtin.lenOf y).run P w' = .ok 0 w') (hf : (Builtin.firstCells i.size 0 y).run P w = .ok #[] w) :
    (Builtin.append_ #[t, u] ty #[.slice base n c, y]).run P w = .ok (.slice base n c) w := by
  rcases hu with hd | ⟨e2, hd⟩
  all_goals
    cases base with
    | none => simp [Builtin.append_, run_underlying ht, run_underlying hd, sizeOf, typeInfo, hi, hl, hn, hf]
    | some a => simp [Builtin.append_, run_underlying ht, run_underlying hd, sizeOf, typeInfo, hi, hl, hn, hf, storeCells]

theorem run_append_in {b off n c m : Nat} {y : Value} {news : List Value} {arr : Array Value} {e' : TypeId} (hn : n + m ≤ c) (hl : ∀ w' : World, (Builtin.lenOf y).run P w' = .ok m w') (hf : (Builtin.firstCells i.size m y).run P w = .ok news.toArray w)
    (hb : w.heap[b]? = some (.cells arr e' (0, 0))) (hfit : off + n * i.size + news.length ≤ arr.size) (h1 : ∀ v ∈ news, v.oneCell' = true) :
    (Builtin.append_ #[t, u] ty #[.slice (some ⟨b, off, none⟩) n c, y]).run P w = .ok (.slice (some ⟨b, off, none⟩) (n + m) c) (w.setRow b (arr.toList.take (off + n * i.size) ++ news ++ arr.toList.drop (off + n * i.size + news.length)).toArray) := by
  have hst := run_storeCells_at P b (off + n * i.size) e' news 0 arr w hb (by simpa using hfit) h1
  simp only [Nat.add_zero] at hst
  rcases hu with hd | ⟨e2, hd⟩ <;> simp [Builtin.append_, run_underlying ht, run_underlying hd, sizeOf, typeInfo, hi, hl, hn, hf, add_none, hst]

theorem run_append_out {base : Option Addr} {n c m : Nat} {x y : Value} {olds news : List Value} (hx : x = .slice base n c) (hn : c < n + m) (hl : ∀ w' : World, (Builtin.lenOf y).run P w' = .ok m w') (hf : (Builtin.firstCells i.size m y).run P w.drew = .ok news.toArray w.drew)
    (ho : (Builtin.firstCells i.size n x).run P w.drew = .ok olds.toArray w.drew) (hby : (n + m) * i.bytes ≤ 140737488355328) (h63 : (n + m : Nat) ≤ 9223372036854775807) :
    (Builtin.append_ #[t, u] ty #[x, y]).run P w = .ok (.slice (some ⟨w.heap.size, 0, none⟩) (n + m) (grownCap w (n + m) c et))
        (w.drew.alloc (.cells (olds.toArray ++ news.toArray ++ Builtin.zeroCells z.cells (grownCap w (n + m) c et - (n + m))) et)) := by
  subst hx
  have hn' : ¬ (n + m ≤ c) := by omega
  have h63' : ¬ (9223372036854775807 < ((n : Int) + (m : Int))) := by omega
  have h48' : ¬ (281474976710656 < Builtin.nextslicecap (n + m) c * i.bytes) := by have := growslice_fits (need := n + m) (old := c) (bytes := i.bytes) hn hby; omega
  rcases hu with hd | ⟨e2, hd⟩ <;> simp [Builtin.append_, run_underlying ht, run_underlying hd, sizeOf, typeInfo, zeroValue, hi, hz, hl, hn', h63', h48', Question.forced, hf, ho, newRow, grownCap]
  all_goals (congr 2; apply Array.ext'; simp)
end

theorem Stp.drew (g : G) (w : World) (H : List AO) : Stp g w H g w.drew H := Stp.world rfl rfl rfl rfl

theorem VRs.mono {g' : G} {w' : World} {xs : List AV} {vs : List Value} (h : VRs g w xs vs) (hv : ∀ a v, VR g w a v → VR g' w' a v) : VRs g' w' xs vs := ⟨h.1, fun i a v h1 h2 => hv a v (h.2 i a v h1 h2)⟩

theorem zeroCells_one {z : Array Value} (h : ∀ u ∈ z.toList, u.oneCell' = true) (n : Nat) : ∀ u ∈ (Builtin.zeroCells z n).toList, u.oneCell' = true := by
  intro u hu
  simp only [Builtin.zeroCells, Array.toList_map, Array.toList_range, List.mem_map, List.mem_range] at hu
  obtain ⟨i, hi, rfl⟩ := hu
  have hp : 0 < z.size := by rcases Nat.eq_zero_or_pos z.size with h | h; · rw [h] at hi; simp at hi
                             · exact h
  have hm := Nat.mod_lt i hp
  rw [getElem!_pos z (i % z.size) hm]
  exact h _ (by simp)

theorem append_ok {e bytes : Nat} {t u ty et : TypeId} {x y : AV} {v v' : Value} {out : Out} {i : TypeInfo} {zs : List AV} (R : Rel g w H) (hid : id ≤ H.length) (hd : ¬ g.D id)
    (ht : P.underlying t = some (.slice et)) (hu : P.underlying u = some .string ∨ ∃ e2, P.underlying u = some (.slice e2)) (hi : P.info? et = some i) (hz : zeros P et = some zs) (he : i.size = e) (hb : i.bytes = bytes) (he0 : 0 < e) (hb0 : 0 < bytes)
    (hx : VR g w x v) (hy : VR g w y v') (h : append H id e bytes et x y = some out) :
    ∃ r w', (Builtin.append_ #[t, u] ty #[v, v']).run P w = .ok r w' ∧ After g w H id out false r w' := by
  obtain ⟨i', z, hi', hz1, hz2, _, _, hz3⟩ := zeros_inv hz
  rw [hi] at hi'; cases hi'
  subst he; subst hb
  unfold append at h
  obtain ⟨⟨m, ns⟩, hel, h⟩ := Option.bind_eq_some_iff.1 h
  obtain ⟨news, n1, n2, n3, n4, n5⟩ := elems_run (P := P) R hy hel
  by_cases hm : m = 0
  · subst hm
    simp only [beq_self_eq_true, cond_true] at h
    have hnil : news = [] := List.eq_nil_of_length_eq_zero (by simpa using n2)
    subst hnil
    have hf : (Builtin.firstCells i.size 0 v').run P w = .ok #[] w := n5 w rfl
    split at h
    · simp only [Option.some.injEq] at h; subst h
      obtain ⟨a, c, f, rfl, h1, _⟩ := hx.sl_inv
      exact ⟨_, _, run_append_zero ht hu hi hz1 h1 n4 hf, rfl, g, rfl, hx, R, Stp.refl⟩
    · simp only [Option.some.injEq] at h; subst h
      obtain ⟨o, c, rfl, _, h1, _⟩ := hx.own_inv
      exact ⟨_, _, run_append_zero ht hu hi hz1 h1 n4 hf, rfl, g, rfl, hx, R, Stp.refl⟩
    · cases h
  rw [beq_of_ne hm] at h
  simp only [cond_false] at h
  have small : ∀ k, k * i.bytes ≤ 140737488355328 → k ≤ 9223372036854775807 := fun k hk => by have := Nat.le_mul_of_pos_right k hb0; omega
  -- a new row, whatever was there
  have out : ∀ (base : Option Addr) (n c : Nat) (cs : List AV) (olds : List Value), v = .slice base n c → n ≤ c → c < n + m → VRs g w cs olds → olds.length = n * i.size → (∀ v ∈ olds, v.oneCell' = true) →
      (∀ w' : World, w'.heap = w.heap → (Builtin.firstCells i.size n v).run P w' = .ok olds.toArray w') → (n + m) * i.bytes ≤ 140737488355328 →
      ∃ (c' : Nat) (arr : Array Value), (Builtin.append_ #[t, u] ty #[v, v']).run P w = .ok (.slice (some ⟨w.heap.size, 0, none⟩) (n + m) c') (w.drew.alloc (.cells arr et)) ∧ n + m ≤ c' ∧ arr.size = c' * i.size ∧
        (cs ++ ns).length ≤ arr.size ∧ (∀ (j : Nat) (a : AV) (v : Value), (cs ++ ns)[j]? = some a → arr[j]? = some v → VR g w a v) ∧ ∀ (j : Nat) (v : Value), arr[j]? = some v → v.oneCell' = true := by
    intro base n c cs olds hv hnc hlt hcs hol ho1 hof hby
    have hge := grownCap_ge w (n + m) c et
    refine ⟨_, _, run_append_out ht hu hi hz1 hv hlt n4 (n5 w.drew rfl) (hof w.drew rfl) hby (small _ hby), hge, ?_, ?_, fun j a u ha hu' => ?_, fun j u hu' => ?_⟩
    · simp only [Array.size_append, List.size_toArray, size_zeroCells, hz2, hol, n2, ← Nat.add_mul]
      congr 1; omega
    · simp only [Array.size_append, List.size_toArray, List.length_append, hcs.1, n1.1]; omega
    · refine (hcs.append n1).2 j a u ha ?_
      have hj : j < (cs ++ ns).length := (List.getElem?_eq_some_iff.1 ha).1
      have hj2 : j < (olds ++ news).length := by simpa [hcs.1, n1.1] using hj
      rw [← Array.getElem?_toList] at hu'
      simp only [Array.toList_append] at hu'
      rwa [List.getElem?_append_left (by simpa using hj2)] at hu'
    · have hm' := List.mem_of_getElem? (show ((olds.toArray ++ news.toArray ++ Builtin.zeroCells z.cells (grownCap w (n + m) c et - (n + m))).toList)[j]? = some u by rw [Array.getElem?_toList]; exact hu')
      simp only [Array.toList_append, List.mem_append] at hm'
      rcases hm' with (hm' | hm') | hm'
      · exact ho1 u hm'
      · exact n3 u hm'
      · exact zeroCells_one hz3 _ u hm'
  cases x with
  | sl e' xs cap =>
    cases cap with
    | none => cases h
    | some c0 =>
      simp only at h
      by_cases hc : (c0 == xs.length && (i.size == e' || xs.isEmpty) && Nat.ble ((xs.length + m) * i.bytes) 140737488355328) = true
      case neg => rw [Bool.eq_false_iff.mpr hc] at h; cases h
      rw [hc] at h
      simp only [cond_true, Option.some.injEq] at h; subst h
      simp only [Bool.and_eq_true, beq_iff_eq] at hc
      obtain ⟨⟨rfl, hee⟩, hble⟩ := hc
      have hble := Nat.le_of_ble_eq_true hble
      obtain ⟨a, c, olds, rfl, h1, h2, h3, h4, h5, h6⟩ := sl_cells (hx.sl_e hee)
      have hcc := h2 _ rfl
      subst hcc
      have ho : ∀ w' : World, w'.heap = w.heap → (Builtin.firstCells i.size xs.length (.slice a xs.length xs.length)).run P w' = .ok olds.toArray w' := by
        intro w' hw
        cases xs with
        | nil =>
          have : olds = [] := List.eq_nil_of_length_eq_zero (by simpa using h4)
          subst this
          cases a with
          | none => exact run_firstCells_none w' _ _ _ _
          | some ad => exact run_firstCells_some w' _ _ ad _ _ [] (by simp) (by simp)
        | cons x xs =>
          obtain ⟨ad, rfl, h7⟩ := h6 (by simp)
          exact run_firstCells_some w' _ _ ad _ _ olds h4 (fun j v hj => by rw [← h7 j v hj]; simp [World.cell?, hw])
      obtain ⟨c', arr, r1, r2, r3, r4, r5, r6⟩ := out a _ _ _ olds rfl h1 (by omega) h3 h4 h5 ho hble
      obtain ⟨q1, q2⟩ := (R.world (w' := w.drew) rfl).new (arr := arr) (t := et) hid hd r4 (fun j a v ha hv => (Stp.drew g w H).vr (r5 j a v ha hv)) r6
      refine ⟨_, _, r1, rfl, _, fun r h => h, ?_, q1, (Stp.drew g w H).trans q2⟩
      have := VR.own (g := g.new id w.heap.size arr.size) (w := w.drew.alloc (.cells arr et)) id 0 (xs.length + m) i.size none 0 c' (.inr rfl) r2 (fun k hk => by cases hk) (fun _ => rfl) (fun _ => by simp [G.new, r3])
      simpa [G.new] using this
  | own r off n e' cap =>
    simp only at h
    obtain ⟨⟨cs, t'⟩, hp, h⟩ := Option.bind_eq_some_iff.1 h
    by_cases hc : (off == 0 && i.size == e' && t' == et && Nat.ble (n * i.size) cs.length && Nat.ble ((n + m) * i.bytes) 140737488355328) = true
    case neg => rw [Bool.eq_false_iff.mpr hc] at h; cases h
    rw [hc] at h
    simp only [cond_true, Option.some.injEq] at h; subst h
    simp only [Bool.and_eq_true, beq_iff_eq] at hc
    obtain ⟨⟨⟨⟨rfl, rfl⟩, rfl⟩, hcl⟩, hble⟩ := hc
    have hble := Nat.le_of_ble_eq_true hble
    have hcl := Nat.le_of_ble_eq_true hcl
    have hr : H[r]? = some (.row cs t') := rowAt_inv hp
    obtain ⟨arr, a1, a2, a3, a4, a5, a6⟩ := R.row hr
    obtain ⟨o, c, rfl, k0, k1, k2, k3, k4⟩ := hx.own_inv
    have b4 : VRs g w (cs.take (n * i.size)) (arr.toList.take (n * i.size)) := by
      have := a4.take (n * i.size)
      rwa [List.take_take, Nat.min_eq_left hcl] at this
    have hol : (arr.toList.take (n * i.size)).length = n * i.size := by rw [List.length_take, Array.length_toList]; omega
    have hcl0 : (cs.take (n * i.size)).length = n * i.size := by rw [List.length_take]; omega
    generalize hcs0 : cs.take (n * i.size) = cs0 at b4 hcl0 ⊢
    have hD : ∀ q, (g.new H.length q 0).D H.length := fun q => .inr rfl
    by_cases hroom : n + m ≤ c
    · have hc0 : c ≠ 0 := by omega
      have ho := k3 hc0
      subst ho
      have h4 := k4 hc0
      have hfit : (n + m) * i.size ≤ c * i.size := Nat.mul_le_mul_right _ hroom
      rw [Nat.add_mul] at hfit
      have hrun := run_append_in (P := P) (w := w) (ty := ty) ht hu hi hz1 (b := g.ρ r) (off := 0) hroom n4 (n5 w rfl) a1 (by rw [n2, a2]; omega) n3
      simp only [Nat.zero_add] at hrun
      have hlen : (arr.toList.take (n * i.size) ++ news ++ arr.toList.drop (n * i.size + news.length)).length = arr.size := by
        simp only [List.length_append, List.length_take, List.length_drop, Array.length_toList]; omega
      obtain ⟨s1, s2, s3, s4⟩ := setRow_same w (g.ρ r) (arr.toList.take (n * i.size) ++ news ++ arr.toList.drop (n * i.size + news.length)).toArray
      obtain ⟨q1, q2⟩ := Rel.move (arr' := (arr.toList.take (n * i.size) ++ news ++ arr.toList.drop (n * i.size + news.length)).toArray) (cs' := cs0 ++ ns) (t' := t') R hr s1 s2 s3 (by rw [s4]; exact Nat.le_refl _) (.inl rfl) (setRow_heap _ _ _ _ _ _ a1)
        (by simp only [List.size_toArray]; rw [hlen]; simp only [List.length_append, n1.1, hcl0]; omega)
        (fun j a v ha hv => by
          refine (b4.append n1).2 j a v ha ?_
          have hj : j < (cs0 ++ ns).length := (List.getElem?_eq_some_iff.1 ha).1
          have hj2 : j < (arr.toList.take (n * i.size) ++ news).length := by rw [List.length_append, n1.1, hcl0] at hj; rw [List.length_append, hol]; exact hj
          simp only [List.getElem?_toArray] at hv
          rwa [List.getElem?_append_left hj2] at hv)
        (fun j v hv => by
          have hm' := List.mem_of_getElem? (show (arr.toList.take (n * i.size) ++ news ++ arr.toList.drop (n * i.size + news.length))[j]? = some v by simpa using hv)
          simp only [List.mem_append] at hm'
          rcases hm' with (hm' | hm') | hm'
          · exact a5 v (List.mem_of_mem_take hm')
          · exact n3 v hm'
          · exact a5 v (List.mem_of_mem_drop hm'))
        (fun b _ hb => setRow_other _ _ _ _ hb)
      refine ⟨_, _, hrun, rfl, _, ?_, q1, q2⟩
      have := VR.own (g := g.new H.length (g.ρ r) (arr.toList.take (n * i.size) ++ news ++ arr.toList.drop (n * i.size + news.length)).toArray.size) (w := w.setRow (g.ρ r) (arr.toList.take (n * i.size) ++ news ++ arr.toList.drop (n * i.size + news.length)).toArray)
        H.length 0 (n + m) i.size none 0 c (.inr rfl) hroom (fun k hk => by cases hk) (fun _ => rfl) (fun _ => by simp only [G.new, if_true, List.size_toArray]; rw [hlen, a2]; exact h4)
      simpa only [G.new, if_true] using this
    · have ho : ∀ w' : World, w'.heap = w.heap → (Builtin.firstCells i.size n (.slice (some ⟨g.ρ r, o, none⟩) n c)).run P w' = .ok (arr.toList.take (n * i.size)).toArray w' := by
        intro w' hw
        refine run_firstCells_some w' i.size n _ n c _ hol (fun j v hj => ?_)
        have hj' : j < n * i.size := by rw [← hol]; exact (List.getElem?_eq_some_iff.1 hj).1
        have hn : c ≠ 0 := by
          intro h0
          have : n = 0 := by omega
          subst this; simp at hj'
        rw [k3 hn, add_none]
        rw [List.getElem?_take, if_pos hj'] at hj
        rw [cell_row (w := w') (by rw [hw]; exact a1)]; simpa using hj
      obtain ⟨c', arr', r1, r2, r3, r4, r5, r6⟩ := out _ n c cs0 _ rfl k1 (by omega) b4 hol (fun v hv => a5 v (List.mem_of_mem_take hv)) ho hble
      have hab : g.ρ r < w.heap.size := R.blt (.of hr)
      obtain ⟨q1, q2⟩ := Rel.move (w' := w.drew.alloc (.cells arr' t')) (arr' := arr') (cs' := cs0 ++ ns) (t' := t') (b := w.heap.size) R hr rfl rfl rfl (by simp) (.inr (Nat.le_refl _)) (heap_alloc_at w.drew _) r4 r5 r6 (fun b hb _ => heap_alloc_lt w.drew _ hb)
      refine ⟨_, _, r1, rfl, _, ?_, q1, q2⟩
      have := VR.own (g := g.new H.length w.heap.size arr'.size) (w := w.drew.alloc (.cells arr' t')) H.length 0 (n + m) i.size none 0 c' (.inr rfl) r2 (fun k hk => by cases hk) (fun _ => rfl) (fun _ => by simp [G.new, r3])
      simpa [G.new] using this
  | _ => cases h
end
end Go.Ai
