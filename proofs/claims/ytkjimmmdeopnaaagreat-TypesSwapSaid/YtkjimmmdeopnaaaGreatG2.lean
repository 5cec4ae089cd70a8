/- The abstract interpreter: make, literals, bytes. No condition. -/
import Derived.Test.YtkjimmmdeopnaaaGreatG1
import Derived.MapKept
import Derived.Laws.Build
import Derived.TacticsIn
set_option linter.unusedSimpArgs false
set_option linter.unusedVariables false
set_option linter.unusedSectionVars false
namespace Go.Ai
section
variable {P : Program} {g : G} {w : World} {H : List AO} {o : Oper} {act : Act} {id : Nat}
theorem reps_len (z : List AV) : ∀ n, (reps n z).length = n * z.length
  | 0 => by simp [reps]
  | n + 1 => by simp only [reps, List.length_append, reps_len z n, Nat.add_mul]; omega
theorem reps_get (z : List AV) : ∀ (n j : Nat) (a : AV), (reps n z)[j]? = some a → z[j % z.length]? = some a
  | 0, j, a, h => by simp [reps] at h
  | n + 1, j, a, h => by
    simp only [reps] at h
    rw [List.getElem?_append] at h
    split at h
    · rename_i hj; rw [Nat.mod_eq_of_lt hj]; exact h
    · rename_i hj
      have := reps_get z n (j - z.length) a h
      rw [Nat.mod_eq_sub_mod (by omega)]; exact this
theorem made_vr {z : List AV} {v : Array Value} (hz : VRs g w z v.toList) (h1 : ∀ u ∈ v.toList, u.oneCell' = true) {l n : Nat} (hn : l * v.size ≤ n) :
    (reps l z).length ≤ (madeCells v n).size ∧ (∀ (j : Nat) (a : AV) (u : Value), (reps l z)[j]? = some a → (madeCells v n)[j]? = some u → VR g w a u) ∧ (0 < v.size ∨ n = 0 → ∀ (j : Nat) (u : Value), (madeCells v n)[j]? = some u → u.oneCell' = true) := by
  have hl : z.length = v.size := by rw [hz.1]; simp
  have G : ∀ (j : Nat) (u : Value), (madeCells v n)[j]? = some u → j < n ∧ u = v[j % v.size]! := by
    intro j u h
    simp only [madeCells, Array.getElem?_map, Array.getElem?_range] at h
    split at h
    · rename_i hj; simp at h; exact ⟨hj, h.symm⟩
    · cases h
  refine ⟨by rw [reps_len, hl, size_madeCells]; exact hn, fun j a u ha hu => ?_, fun hp j u hu => ?_⟩
  · obtain ⟨h1, rfl⟩ := G j u hu
    have hk := reps_get z l j a ha
    rw [hl] at hk
    have hlt : j % v.size < v.size := by rw [← hl]; rw [← hl] at hk; exact (List.getElem?_eq_some_iff.1 hk).1
    refine hz.2 _ a _ hk ?_
    rw [getElem!_pos v (j % v.size) hlt]; simp [hlt]
  · obtain ⟨h2, rfl⟩ := G j u hu
    rcases hp with hp | hp
    · have hlt := Nat.mod_lt j hp
      rw [getElem!_pos v (j % v.size) hlt]
      exact h1 _ (by simp)
    · omega
theorem mks_ok {e bytes : Nat} {t et : TypeId} {zs : List AV} {i : TypeInfo} {l c : Int} {u v : Value} (R : Rel g w H) (hid : id ≤ H.length) (hd : ¬ g.D id) (ht : P.underlying t = some (.slice et)) (hi : P.info? et = some i) (he : i.size = e) (hb : i.bytes = bytes) (hz : zeros P et = some zs)
    (hu : VR g w (.lit (.int .i64 l)) u) (hv : VR g w (.lit (.int .i64 c)) v) (hc : (decide (0 ≤ l) && decide (l ≤ c) && decide (c * bytes ≤ 140737488355328) && decide (c ≤ 140737488355328)) = true) :
    ∃ r w', (Instr.makeSlice t u v).run P w = .ok r w' ∧ After g w H id (.val (.own id 0 l.toNat e (some c.toNat)) (some (.row (reps l.toNat zs) et))) false r w' := by
  have e1 := hu.lit_inv; have e2 := hv.lit_inv
  subst e1; subst e2; subst he; subst hb
  simp only [Bool.and_eq_true, decide_eq_true_eq] at hc
  obtain ⟨⟨⟨c1, c2⟩, c3⟩, c4⟩ := hc
  obtain ⟨i', z, hi', hz1, hz2, hz3, hz4, hz5⟩ := zeros_inv hz
  rw [hi] at hi'; cases hi'
  have hr := run_make (P := P) w t et i z ht hi hz1 .i64 .i64 l c c1 c2 (by rw [Int.mul_comm]; omega) (by omega)
  have hle : l.toNat * z.cells.size ≤ c.toNat * i.size := by rw [hz2]; exact Nat.mul_le_mul_right _ (by omega)
  obtain ⟨m1, m2, m3⟩ := made_vr (hz4 g w) hz5 hle
  have hpos : 0 < z.cells.size ∨ c.toNat * i.size = 0 := by
    rcases Nat.eq_zero_or_pos z.cells.size with h | h
    · right; rw [← hz2, h]; simp
    · exact .inl h
  obtain ⟨q1, q2⟩ := R.new (arr := madeCells z.cells (c.toNat * i.size)) (t := et) hid hd m1 m2 (m3 hpos)
  refine ⟨_, _, hr, rfl, _, fun r h => h, ?_, q1, q2⟩
  have := VR.own (g := g.new id w.heap.size (madeCells z.cells (c.toNat * i.size)).size) (w := w.alloc (.cells (madeCells z.cells (c.toNat * i.size)) et)) id 0 l.toNat i.size (some c.toNat) 0 c.toNat (.inr rfl) (by omega) (fun k hk => by cases hk; rfl) (fun _ => by simp [G.new]) (fun _ => by simp [G.new, size_madeCells])
  simpa [G.new] using this
theorem run_append_made {t u ty et : TypeId} {k : IntKind} {i : TypeInfo} {z : Value} (ht : P.underlying t = some (.slice et)) (hu : P.underlying u = some (.int k)) (hi : P.info? et = some i) (hz : i.zero = some z) {base : Option Addr} {n : Nat} (hn : 0 < n) (h0 : 0 < i.size)
    (hby : n * i.bytes ≤ 140737488355328) (h63 : n ≤ 140737488355328) :
    (Builtin.append_ #[t, u] ty #[.slice base 0 0, .int .i64 n]).run P w = .ok (.slice (some ⟨w.heap.size, 0, none⟩) n (grownCap w n 0 et))
        (w.drew.alloc (.cells (Builtin.zeroCells z.cells n ++ Builtin.zeroCells z.cells (grownCap w n 0 et - n)) et)) := by
  have hw : IntKind.wrap .i64 (n : Int) = n := by rw [IntKind.wrap_i64]; omega
  have hai : ∀ w' : World, (Go.asInt (.int .i64 (n : Int))).run P w' = .ok (n : Int) w' := fun w' => by simp [Go.asInt, asIntOf]
  have hf : ∀ w' : World, (Builtin.firstCells i.size 0 (.slice base 0 0)).run P w' = .ok #[] w' := by
    intro w'
    cases base with
    | none => exact run_firstCells_none w' _ _ _ _
    | some ad => exact run_firstCells_some w' _ _ ad _ _ [] (by simp) (by simp)
  have hn' : ¬ (n ≤ 0) := by omega
  have h1 : ¬ ((n : Int) < 0) := by omega
  have h2 : ¬ (281474976710656 < (n : Int) * (i.bytes : Int)) := by
    have : ((n * i.bytes : Nat) : Int) ≤ 140737488355328 := by omega
    rw [Int.natCast_mul] at this; omega
  have h63' : ¬ (9223372036854775807 < (n : Int)) := by omega
  have h48' : ¬ (281474976710656 < Builtin.nextslicecap n 0 * i.bytes) := by have := growslice_fits (need := n) (old := 0) (bytes := i.bytes) (by omega) hby; omega
  have hs : ¬ (n * i.size = 0) := by
    intro e
    rcases Nat.mul_eq_zero.1 e with e | e <;> omega
  have hs2 : ¬ (n = 0 ∨ i.size = 0) := by omega
  simp [Builtin.append_, run_underlying ht, run_underlying hu, sizeOf, typeInfo, zeroValue, hai, hi, hz, hw, h1, h2, hn', h63', h48', Question.forced, hf, newRow, grownCap]
  rw [if_neg (show ¬ n = 0 by omega), if_neg hs]
theorem apm_ok {t u ty et : TypeId} {k : IntKind} {zs : List AV} {i : TypeInfo} {x y : AV} {out : Out} {v v' : Value} (R : Rel g w H) (hid : id ≤ H.length) (hd : ¬ g.D id) (ht : P.underlying t = some (.slice et)) (hu : P.underlying u = some (.int k)) (hi : P.info? et = some i) (hz : zeros P et = some zs) (h0 : 0 < i.size)
    (hx : VR g w x v) (hy : VR g w y v') (h : apmV id i.size i.bytes zs et x y = some out) :
    ∃ r w', (Builtin.append_ #[t, u] ty #[v, v']).run P w = .ok r w' ∧ After g w H id out false r w' := by
  unfold apmV at h
  split at h
  case h_2 => cases h
  rename_i e' n
  by_cases hc : (decide (0 < n) && decide (n * i.bytes ≤ 140737488355328) && decide (n ≤ 140737488355328)) = true
  case neg => rw [Bool.eq_false_iff.mpr hc] at h; cases h
  rw [hc] at h
  simp only [cond_true, sI] at h; subst h
  simp only [Bool.and_eq_true, decide_eq_true_eq] at hc
  obtain ⟨⟨c1, c2⟩, c3⟩ := hc
  obtain ⟨i', z, hi', hz1, hz2, hz3, hz4, hz5⟩ := zeros_inv hz
  rw [hi] at hi'; cases hi'
  obtain ⟨a, c, f, rfl, _, h2, _⟩ := hx.sl_inv
  have hcc := h2 0 rfl
  subst hcc
  have := hy.lit_inv
  subst this
  obtain ⟨m, rfl⟩ : ∃ m : Nat, n = m := ⟨n.toNat, by omega⟩
  have hby : m * i.bytes ≤ 140737488355328 := by
    have : ((m * i.bytes : Nat) : Int) ≤ 140737488355328 := by rw [Int.natCast_mul]; exact c2
    omega
  have hrun := run_append_made (P := P) (w := w) (ty := ty) ht hu hi hz1 (base := a) (n := m) (by omega) h0 hby (by omega)
  have hge := grownCap_ge w m 0 et
  have V : VRs g w (reps m zs) (Builtin.zeroCells z.cells m).toList := by
    obtain ⟨m1, m2, m3⟩ := made_vr (hz4 g w) hz5 (l := m) (n := m * z.cells.size) (Nat.le_refl _)
    exact ⟨by rw [reps_len, hz3, Array.length_toList, size_zeroCells, hz2], fun j a u ha hu => m2 j a u ha (by
      show (Builtin.zeroCells z.cells m)[j]? = some u
      rw [← Array.getElem?_toList]; exact hu)⟩
  have hone := zeroCells_one hz5
  obtain ⟨q1, q2⟩ := (R.world (w' := w.drew) rfl).new (arr := Builtin.zeroCells z.cells m ++ Builtin.zeroCells z.cells (grownCap w m 0 et - m)) (t := et) (cs := reps m zs) hid hd (by
      rw [reps_len, hz3, Array.size_append, size_zeroCells, hz2]; omega)
    (fun j a u ha hu => (Stp.drew g w H).vr (V.2 j a u ha (by
      have hj : j < (reps m zs).length := (List.getElem?_eq_some_iff.1 ha).1
      rw [reps_len, hz3] at hj
      rw [Array.getElem?_append_left (by rw [size_zeroCells, hz2]; exact hj)] at hu
      rw [Array.getElem?_toList]; exact hu)))
    (fun j u hu => by
      have hm := List.mem_of_getElem? (show ((Builtin.zeroCells z.cells m ++ Builtin.zeroCells z.cells (grownCap w m 0 et - m)).toList)[j]? = some u by rw [Array.getElem?_toList]; exact hu)
      rw [Array.toList_append, List.mem_append] at hm
      rcases hm with hm | hm
      · exact hone _ u hm
      · exact hone _ u hm)
  refine ⟨_, _, hrun, rfl, _, fun r h => h, ?_, q1, (Stp.drew g w H).trans q2⟩
  have := VR.own (g := g.new id w.heap.size (Builtin.zeroCells z.cells m ++ Builtin.zeroCells z.cells (grownCap w m 0 et - m)).size) (w := w.drew.alloc (.cells (Builtin.zeroCells z.cells m ++ Builtin.zeroCells z.cells (grownCap w m 0 et - m)) et)) id 0 m i.size none 0 (grownCap w m 0 et) (.inr rfl) (by omega) (fun k hk => by cases hk) (fun _ => by simp [G.new])
    (fun _ => by
      simp only [G.new, if_true, Array.size_append, size_zeroCells, hz2]
      rw [← Nat.add_mul, show m + (grownCap w m 0 et - m) = grownCap w m 0 et by omega]; omega)
  simpa [G.new] using this
theorem put_row {r off : Nat} {cs xs : List AV} {vs : List Value} {e : TypeId} (R : Rel g w H) (hr : H[r]? = some (.row cs e)) (k1 : VRs g w xs vs) (k2 : ∀ u ∈ vs, u.oneCell' = true) (hle : off + xs.length ≤ cs.length) :
    ∃ w', (storeCells ⟨g.ρ r, off + g.δ r, none⟩ vs).run P w = .ok () w' ∧ Rel g w' (setL H r (.row (cs.take off ++ xs ++ cs.drop (off + xs.length)) e)) ∧ Stp g w H g w' (setL H r (.row (cs.take off ++ xs ++ cs.drop (off + xs.length)) e)) := by
  obtain ⟨arr, h1, h2, h3, h4, h5, h6⟩ := R.row hr
  have hn : vs.length = xs.length := k1.1.symm
  have hrun := run_storeCells_at P (g.ρ r) (off + g.δ r) e vs 0 arr w h1 (by omega) k2
  refine ⟨_, hrun, ?_⟩
  rw [Nat.add_zero, hn]
  generalize hN : xs.length = n at hle hn ⊢
  have hlen : (arr.toList.take (off + g.δ r) ++ vs ++ arr.toList.drop (off + g.δ r + n)).length = arr.size := by
    simp [hn, Nat.min_eq_left (show off + g.δ r ≤ arr.size by omega)]; omega
  refine Rel.write (arr' := (arr.toList.take (off + g.δ r) ++ vs ++ arr.toList.drop (off + g.δ r + n)).toArray) R hr rfl rfl rfl (by simp [World.setRow]) (setRow_heap _ _ _ _ _ _ h1) (by simp only [List.size_toArray]; rw [hlen]; exact h2) ?_ ?_ ?_ (fun b hb => setRow_other _ _ _ _ hb)
  · simp only [List.size_toArray]; rw [hlen]; simp [hN, Nat.min_eq_left (show off ≤ cs.length by omega)]; omega
  · have hp := row_patch (L := arr.toList) (d := g.δ r) (off := off) (n := n) (vs := vs) (by simp; omega)
    generalize arr.toList.drop (g.δ r) = A at h4 hp
    have e1 : A.take off = (A.take cs.length).take off := by rw [List.take_take, Nat.min_eq_left (by omega)]
    have e2 : VRs g w (cs.take off ++ xs ++ cs.drop (off + n)) (A.take off ++ vs ++ (A.take cs.length).drop (off + n)) := by
      rw [e1]; exact ((h4.take off).append k1).append (h4.drop (off + n))
    intro j y z hy hz
    refine e2.2 j y z hy ?_
    simp only [List.getElem?_toArray] at hz
    rw [Nat.add_comm j, ← List.getElem?_drop, hp] at hz
    have hAl : off ≤ A.length := by
      have := h4.1
      rw [List.length_take] at this
      omega
    rw [List.getElem?_append] at hz ⊢
    split
    · rename_i hj; rw [if_pos hj] at hz; exact hz
    · rename_i hj; rw [if_neg hj] at hz
      have hj2 : j < (cs.take off ++ xs ++ cs.drop (off + n)).length := (List.getElem?_eq_some_iff.1 hy).1
      rw [List.getElem?_drop, List.getElem?_take]
      rw [List.getElem?_drop] at hz
      have hl1 : (A.take off ++ vs).length = off + n := by simp [hn]; omega
      have hl2 : (cs.take off ++ xs ++ cs.drop (off + n)).length = cs.length := by simp [hN]; omega
      rw [hl2] at hj2
      rw [hl1] at hj
      rw [if_pos, hz]
      rw [hl1]; omega
  · intro j y hy
    have hm := List.mem_of_getElem? (show (arr.toList.take (off + g.δ r) ++ vs ++ arr.toList.drop (off + g.δ r + n))[j]? = some y by simpa using hy)
    rcases List.mem_append.1 hm with hm | hm
    · rcases List.mem_append.1 hm with hm | hm
      · exact h5 y (List.mem_of_mem_take hm)
      · exact k2 y hm
    · exact h5 y (List.mem_of_mem_drop hm)
theorem clr_ok {t et ty : TypeId} {z : List AV} {x : AV} {u : Value} {H' : List AO} (R : Rel g w H) (ht : P.underlying t = some (.slice et)) (hz : zeros P et = some z) (hx : VR g w x u) (h : clrAt H z.length z x = some H') :
    ∃ w', (Builtin.clear_ #[t] ty #[u]).run P w = .ok (.tuple #[]) w' ∧ Rel g w' H' ∧ Stp g w H g w' H' := by
  unfold clrAt at h
  split at h
  · rename_i r off n e' cap
    obtain ⟨o, c, rfl, hD, hnc, _, ho, hs⟩ := hx.own_inv
    cases hn : n == 0 with
    | true =>
      rw [hn] at h
      simp only [cond_true, sI] at h; subst h
      have hn : n = 0 := by simpa using hn
      subst hn
      exact ⟨w, by simp [Builtin.clear_, run_underlying ht], R, Stp.refl⟩
    | false =>
      rw [hn] at h
      simp only [cond_false] at h
      obtain ⟨⟨cs, e⟩, hp, h⟩ := bO.1 h
      by_cases hc : (z.length == e' && z.length == z.length && Nat.ble (off + n * z.length) cs.length) = true
      case neg => rw [Bool.eq_false_iff.mpr hc] at h; cases h
      rw [hc] at h
      simp only [cond_true, sI] at h; subst h
      simp only [Bool.and_eq_true, beq_iff_eq] at hc
      obtain ⟨⟨c1, _⟩, c3⟩ := hc
      have c3 := Nat.le_of_ble_eq_true c3
      have hn : ¬ n = 0 := by simpa using hn
      have hr : H[r]? = some (.row cs e) := rowAt_inv hp
      obtain ⟨i, v, hi, hz1, hz2, hz3, hz4, hz5⟩ := zeros_inv hz
      have ho' := ho (by omega)
      subst ho'
      have hsz : z.length = v.cells.size := by rw [hz3, hz2]
      obtain ⟨m1, m2, m3⟩ := made_vr (hz4 g w) hz5 (l := n) (n := n * v.cells.size) (Nat.le_refl _)
      have ez : Builtin.zeroCells v.cells n = madeCells v.cells (n * v.cells.size) := rfl
      have V : VRs g w (reps n z) (madeCells v.cells (n * v.cells.size)).toList := ⟨by rw [reps_len, hsz, Array.length_toList, size_madeCells], fun j a u ha hu => m2 j a u ha (by simpa using hu)⟩
      have hone : ∀ u ∈ (madeCells v.cells (n * v.cells.size)).toList, u.oneCell' = true := by
        intro u hu
        obtain ⟨k, hk, rfl⟩ := List.mem_iff_getElem.1 hu
        refine m3 ?_ k _ (by rw [← Array.getElem?_toList]; exact List.getElem?_eq_getElem hk)
        rcases Nat.eq_zero_or_pos v.cells.size with h | h
        · right; rw [h]; simp
        · exact .inl h
      obtain ⟨w', h1, h2⟩ := put_row (P := P) R hr V hone (by rw [reps_len]; exact c3)
      rw [reps_len] at h2
      refine ⟨w', ?_, h2⟩
      obtain ⟨m, rfl⟩ : ∃ m, n = m + 1 := ⟨n - 1, by omega⟩
      simp [Builtin.clear_, run_underlying ht, zeroValue, typeInfo, hi, hz1, ez, h1]
  · rename_i e cap
    obtain ⟨a, c, f, rfl, _⟩ := hx.sl_inv
    simp only [sI] at h; subst h
    refine ⟨w, ?_, R, Stp.refl⟩
    cases a <;> simp [Builtin.clear_, run_underlying ht]
  · cases h
theorem chunks_get {e : Nat} : ∀ {n : Nat} {cs : List AV}, cs.length = n * e → (chunks e n cs).length = n ∧ (∀ x ∈ chunks e n cs, x.length = e) ∧ ∀ (j : Nat) (x : List AV), (chunks e n cs)[j]? = some x → ∀ k, k < e → x[k]? = cs[j * e + k]?
  | 0, cs, h => by simp [chunks]
  | n + 1, cs, h => by
    rw [Nat.add_mul] at h
    obtain ⟨h1, h2, h3⟩ := chunks_get (e := e) (n := n) (cs := cs.drop e) (by simp; omega)
    refine ⟨by simp [chunks, h1], fun x hx => ?_, fun j x hx k hk => ?_⟩
    · simp only [chunks, List.mem_cons] at hx
      rcases hx with rfl | hx
      · simp; omega
      · exact h2 x hx
    · simp only [chunks] at hx
      cases j with
      | zero => simp at hx; subst hx; simp [List.getElem?_take, hk]
      | succ j =>
        simp at hx
        rw [h3 j x hx k hk, List.getElem?_drop]; congr 1; rw [Nat.add_mul]; omega
theorem bslice_run {t et : TypeId} {e len : Nat} {zs : List AV} {parts : Array (Nat × Operand)} {fr : Fr} {cs : List AV} {act : Act} (ht : P.underlying t = some (.slice et)) (he : tsize P et = some e) (hz : zeros P et = some zs) (hlen : len * e ≤ 16777216) (he0 : 0 < e)
    (F : FRel g w fr act) (h : fill (reps len zs) ((parts.toList.map fun p => (p.1, cx p.2)).map fun p => (p.1 * e, e, ev fr p.2)) = some cs) :
    ∃ arr : Array Value, (Instr.buildSlice t len (parts.map fun (i, x) => (i, act.eval x))).run P w = .ok (.slice (some ⟨w.heap.size, 0, none⟩) len len) (w.alloc (.cells arr et)) ∧ VRs g w cs arr.toList ∧ ∀ u ∈ arr.toList, u.oneCell' = true := by
  obtain ⟨i, z, hi, hz1, hz2, hz3, hz4, hz5⟩ := zeros_inv hz
  have hsz : i.size = e := by unfold tsize at he; rw [hi] at he; simpa using he
  obtain ⟨m1, m2, m3⟩ := made_vr (l := len) (n := len * e) (hz4 g w) hz5 (by rw [hz2, hsz]; exact Nat.le_refl _)
  have V : VRs g w (reps len zs) (madeCells z.cells (len * e)).toList := ⟨by rw [reps_len, hz3, hsz, Array.length_toList, size_madeCells], fun j a u ha hu => m2 j a u ha (by simpa using hu)⟩
  have hpos : 0 < z.cells.size := by omega
  obtain ⟨us, u1, u2, u3⟩ := fill_run (g := g) (w := w) (fun i => some (i * e, e)) _ ((parts.map fun (i, x) => (i, act.eval x)).toList) _ (madeCells z.cells (len * e)) cs (by simp)
    (fun j p q hp hq => by
      simp only [List.getElem?_map, Array.toList_map] at hp hq
      cases hj : parts.toList[j]? with
      | none => rw [hj] at hp; cases hp
      | some x =>
        rw [hj] at hp hq
        simp only [Option.map_some, sI] at hp hq
        subst hp; subst hq
        exact ⟨rfl, ev_vr F x.2⟩) V (fun u hu => by
          obtain ⟨k, hk, rfl⟩ := List.mem_iff_getElem.1 hu
          exact m3 (.inl hpos) k _ (by rw [← Array.getElem?_toList]; exact List.getElem?_eq_getElem hk)) h
  refine ⟨us, ?_, u2, u3⟩
  have hl : ¬ (16777216 < len * e) := by omega
  replace u1 : Instr.fill (fun i => some (i * e, e)) (madeCells z.cells (len * e)) (parts.toList.map fun x => (x.1, act.eval x.2)) = some us := by rw [← u1]; congr 1; simp
  by_cases h0 : len * e = 0
  · have hmade : madeCells z.cells 0 = #[] := by simp [madeCells]
    rw [h0, hmade] at u1
    simp [Instr.buildSlice, run_underlying ht, run_sizeOf' he, h0, newRow, Array.range_zero', u1]
  · unfold madeCells at u1
    simp [Instr.buildSlice, run_underlying ht, run_sizeOf' he, h0, hl, zeroValue, typeInfo, hi, hz1, newRow, u1]
theorem plus_nil (g : G) : ∀ b, plus g [] b → g.S b := by
  rintro b (h | ⟨r, hr, _⟩)
  · exact h
  · cases hr
theorem bslice_ok {t et : TypeId} {e len : Nat} {zs : List AV} {parts : Array (Nat × Operand)} {fr : Fr} {cs : List AV} {act : Act} {out : Out} {own : Bool} (R : Rel g w H) (hid : id ≤ H.length) (hd : ¬ g.D id)
    (ht : P.underlying t = some (.slice et)) (he : tsize P et = some e) (hz : zeros P et = some zs) (hlen : len * e ≤ 16777216) (he0 : 0 < e)
    (F : FRel g w fr act) (h : fill (reps len zs) ((parts.toList.map fun p => (p.1, cx p.2)).map fun p => (p.1 * e, e, ev fr p.2)) = some cs)
    (ho : (bif own then some (Out.val (.own id 0 len e (some len)) (some (.row cs et))) else (mapL (frz H frzF) cs).bind fun p => bif p.2.isEmpty then some (.val (.sl e (chunks e len p.1) (some len)) none) else none) = some out) :
    ∃ r w', (Instr.buildSlice t len (parts.map fun (i, x) => (i, act.eval x))).run P w = .ok r w' ∧ After g w H id out false r w' := by
  obtain ⟨arr, r1, r2, r3⟩ := bslice_run ht he hz hlen he0 F h
  have hcs : cs.length = len * e := by
    obtain ⟨i, z, hi, hz1, hz2, hz3, _⟩ := zeros_inv hz
    have hsz : i.size = e := by unfold tsize at he; rw [hi] at he; simpa using he
    have : ∀ (ps : List (Nat × Nat × AV)) (zs cs : List AV), fill zs ps = some cs → cs.length = zs.length := by
      intro ps
      induction ps with
      | nil => intro zs cs h; simp only [fill, sI] at h; rw [h]
      | cons p ps ih =>
        obtain ⟨off, n, a⟩ := p
        intro zs cs h
        simp only [fill] at h
        by_cases hc : ((cellsOf a).length == n && (cellsOf a).all cellA && Nat.ble (off + n) zs.length) = true
        case neg => rw [Bool.eq_false_iff.mpr hc] at h; cases h
        rw [hc] at h
        simp only [Bool.and_eq_true, beq_iff_eq] at hc
        have c3 := Nat.le_of_ble_eq_true hc.2
        rw [ih _ _ h]; simp [hc.1.1]; omega
    rw [this _ _ _ h, reps_len, hz3, hsz]
  have harr : arr.size = len * e := by rw [← hcs, r2.1]; simp
  cases own with
  | true =>
    simp only [cond_true, sI] at ho; subst ho
    obtain ⟨q1, q2⟩ := R.new (arr := arr) (t := et) hid hd (by omega) (fun j a u ha hu => r2.2 j a u ha (by simpa using hu)) (fun j u hu => r3 u (List.mem_of_getElem? (show arr.toList[j]? = some u by simpa using hu)))
    refine ⟨_, _, r1, rfl, _, fun r h => h, ?_, q1, q2⟩
    have := VR.own (g := g.new id w.heap.size arr.size) (w := w.alloc (.cells arr et)) id 0 len e (some len) 0 len (.inr rfl) (Nat.le_refl _) (fun k hk => by cases hk; rfl) (fun _ => by simp [G.new]) (fun _ => by simp [G.new, harr])
    simpa [G.new] using this
  | false =>
    simp only [cond_false] at ho
    obtain ⟨⟨ys, ids⟩, hm, ho⟩ := bO.1 ho
    cases ids with
    | cons => simp at ho
    | nil =>
      simp only [List.isEmpty_nil, cond_true, sI] at ho; subst ho
      obtain ⟨q1, q2⟩ := R.frozen (.cells arr et)
      refine ⟨_, _, r1, rfl, { g with S := fun b => g.S b ∨ b = w.heap.size }, rfl, ?_, q1, q2⟩
      obtain ⟨⟨e1, e2⟩, _⟩ := frz_list (vs := arr) (fun a v b ids => frz_sound R frzF a v b ids) (by rw [hcs, harr]) (fun i a v h1 h2 => r2.2 i a v h1 (by simpa using h2)) hm
      have hys : ys.length = len * e := by rw [e1, harr]
      obtain ⟨c1, c2, c3⟩ := chunks_get hys
      have hold : ∀ b, g.S b → (w.alloc (.cells arr et)).heap[b]? = w.heap[b]? := fun b hb => heap_alloc_lt _ _ (R.lt b hb)
      have lt : ∀ j k, j < len → k < e → j * e + k < arr.size := by
        intro j k hj hk
        have : (j + 1) * e ≤ len * e := Nat.mul_le_mul_right e (by omega)
        rw [Nat.add_mul] at this; omega
      have := FV.sl (S := fun b => g.S b ∨ b = w.heap.size) (w := w.alloc (.cells arr et)) e (chunks e len ys) (some len) (some ⟨w.heap.size, 0, none⟩) len (fun j k => (arr[j * e + k]?).getD undef) (by omega) (fun k hk => by cases hk; rfl) c2 ?_ ?_ ?_
      · rw [c1] at this; exact .fv _ _ this
      · intro _
        refine ⟨_, rfl, fun _ => .inr rfl, fun j k hj hk => ?_⟩
        rw [c1] at hj
        rw [add_none, Nat.zero_add, cell_row (heap_alloc_at _ _)]
        simp [lt j k hj hk]
      · intro j k hj hk
        rw [c1] at hj
        rw [Array.getElem?_eq_getElem (lt j k hj hk)]
        exact r3 _ (by simp)
      · intro j x k b hx hb
        have hj : j < len := by rw [← c1]; exact (List.getElem?_eq_some_iff.1 hx).1
        have hk : k < e := by rw [← c2 x (List.mem_of_getElem? hx)]; exact (List.getElem?_eq_some_iff.1 hb).1
        rw [c3 j x hx k hk] at hb
        rw [Array.getElem?_eq_getElem (lt j k hj hk)]
        exact (e2 _ b _ hb (by simp [lt j k hj hk])).mono (fun b hb => .inl (plus_nil g b hb)) (fun b hb => hold b (plus_nil g b hb))
theorem bytesOf_inv : ∀ {xs : List AV} {l : List UInt8}, bytesOf xs = some l → ∃ ns : List Int, xs = ns.map (fun n => .lit (.int .u8 n)) ∧ l = ns.map fun n => UInt8.ofNat n.toNat
  | [], l, h => by simp only [bytesOf, sI] at h; subst h; exact ⟨[], rfl, rfl⟩
  | x :: xs, l, h => by
    unfold bytesOf at h
    split at h
    · cases ‹_ :: _ = []›
    · rename_i n r heq
      cases heq
      obtain ⟨l', h1, h⟩ := bO.1 h
      simp only [sI] at h; subst h
      obtain ⟨ns, rfl, rfl⟩ := bytesOf_inv h1
      exact ⟨n :: ns, rfl, rfl⟩
    · cases h
theorem foldl_push (ns : List Int) : ∀ (s : ByteArray), ns.foldl (fun r n => r.push (UInt8.ofNat n.toNat)) s = ⟨s.data ++ (ns.map fun n => UInt8.ofNat n.toNat).toArray⟩ := by
  induction ns with
  | nil => intro s; simp
  | cons n ns ih =>
    intro s
    simp only [List.foldl_cons, ih]
    congr 1
    apply Array.ext'
    simp [ByteArray.push]
theorem ofBytes_run {x : AV} {u : Value} {m : Nat} {cs : List AV} {l : List UInt8} (R : Rel g w H) (hx : VR g w x u) (hs : ∃ a n c, u = .slice a n c) (he : elems H 1 x = some (m, cs)) (hb : bytesOf cs = some l) : (Conv.bytesToString u).run P w = .ok (.string ⟨l.toArray⟩) w := by
  obtain ⟨news, n1, n2, n3, n4, n5⟩ := elems_run (P := P) R hx he
  obtain ⟨ns, rfl, rfl⟩ := bytesOf_inv hb
  obtain ⟨a, n, c, rfl⟩ := hs
  have hm : n = m := by have := n4 w; simp [Builtin.lenOf] at this; exact this
  subst hm
  have hnews : news = ns.map (Value.int .u8) := by
    apply List.ext_getElem?
    intro j
    have hl := n1.1
    cases hj : ns[j]? with
    | none =>
      have h1 : ns.length ≤ j := by simpa using hj
      rw [List.getElem?_eq_none (by simp at hl; omega), List.getElem?_eq_none (by simpa using h1)]
    | some z =>
      have h1 : j < ns.length := (List.getElem?_eq_some_iff.1 hj).1
      have h2 : j < news.length := by simp at hl; omega
      have := n1.2 j (.lit (.int .u8 z)) news[j] (by simp [hj]) (by simp [h2])
      rw [List.getElem?_eq_getElem h2, this.lit_inv]; simp [hj]
  cases a with
  | none =>
    have h5 := n5 w rfl
    rw [run_firstCells_none] at h5
    have : news = [] := by injection h5 with h5 _; simpa using h5.symm
    rw [hnews] at this
    have : ns = [] := by simpa using this
    subst this
    rfl
  | some a =>
    have h5 := n5 w rfl
    simp only [Builtin.firstCells, Nat.mul_one] at h5
    rw [hnews] at h5
    rw [run_bytesToString w a n c ns h5, foldl_push]
    have : ByteArray.empty.data = #[] := rfl
    rw [this]; simp
theorem toBytes_ok {et : TypeId} {s : ByteArray} (R : Rel g w H) :
    ∃ r w', (Conv.stringToBytes et s).run P w = .ok r w' ∧ After g w H id (.val (.sl 1 (s.data.toList.map fun b => [litI .u8 b.toNat]) none) none) false r w' := by
  let cap := (Question.appendCap s.size 0 et).cut (w.tape w.drawn (.appendCap s.size 0 et))
  let arr : Array Value := s.data.map (fun b => .int .u8 b.toNat) ++ Array.replicate (cap - s.size) (.int .u8 0)
  have hw : ((w.drew.alloc (.cells arr et)).freeze ⟨w.heap.size, arr.size, none⟩ 1) = w.drew.alloc (.cells arr et (arr.size, arr.size + 1)) := by
    unfold World.freeze
    rw [if_neg (by decide)]
    simp only [World.alloc, World.drew]
    congr 1
    apply Array.ext_getElem?
    intro k
    simp only [Array.getElem?_modify, Array.getElem?_push]
    by_cases hk : k = w.heap.size
    · subst hk; simp
    · simp [hk, Ne.symm hk]
  have hsz : s.size ≤ cap := by simp [cap, Question.cut]
  have hr : (Conv.stringToBytes et s).run P w = .ok (.slice (some ⟨w.heap.size, 0, none⟩) s.size cap) (w.drew.alloc (.cells arr et (arr.size, arr.size + 1))) := by
    rw [← hw]
    have h1 : (newRow et arr).run P w.drew = .ok ⟨w.heap.size, 0, none⟩ (w.drew.alloc (.cells arr et)) := by simp [newRow]; rfl
    have h0 : (w.drew.alloc (.cells arr et)).heap[w.heap.size]? = some (.cells arr et) := heap_alloc_at w.drew _
    have h2 : (markStringish ⟨w.heap.size, 0, none⟩).run P (w.drew.alloc (.cells arr et)) = .ok () ((w.drew.alloc (.cells arr et)).freeze ⟨w.heap.size, arr.size, none⟩ 1) := by
      unfold markStringish
      simp only [Sem.run_bind, run_shape, Result.andThen_ok, World.shape?, h0, run_freeze]
    unfold Conv.stringToBytes
    simp only [Sem.run_bind, run_choose, Question.forced, Bool.false_eq_true, if_false, World.drew_eq, Result.andThen_ok]
    show ((newRow et arr).run P w.drew).andThen _ = _
    rw [h1]
    simp only [Result.andThen_ok, h2, Sem.run_pure]
    rfl
  obtain ⟨q1, q2⟩ := (R.world (w' := w.drew) rfl).frozen (.cells arr et (arr.size, arr.size + 1))
  refine ⟨_, _, hr, rfl, { g with S := fun b => g.S b ∨ b = w.drew.heap.size }, rfl, ?_, q1, (Stp.drew g w H).trans q2⟩
  have hl : (s.data.toList.map fun b => [litI .u8 b.toNat]).length = s.size := by simp
  have := FV.sl (S := fun b => g.S b ∨ b = w.drew.heap.size) (w := w.drew.alloc (.cells arr et (arr.size, arr.size + 1))) 1 (s.data.toList.map fun b => [litI .u8 b.toNat]) none (some ⟨w.heap.size, 0, none⟩) cap (fun j k => .int .u8 ((s.data[j]?).getD 0).toNat) (by rw [hl]; exact hsz) (fun k hk => by cases hk) (by simp) ?_ ?_ ?_
  · rw [hl] at this; exact .fv _ _ this
  · intro _
    refine ⟨_, rfl, fun _ => .inr rfl, fun j k hj hk => ?_⟩
    rw [hl] at hj
    have hk0 : k = 0 := by omega
    subst hk0
    have hj' : j < s.data.size := hj
    have h0 : (w.drew.alloc (.cells arr et (arr.size, arr.size + 1))).heap[w.heap.size]? = some (.cells arr et (arr.size, arr.size + 1)) := heap_alloc_at w.drew _
    rw [add_none, cell_row h0]
    simp only [arr, Nat.zero_add, Nat.mul_one, Nat.add_zero]
    rw [Array.getElem?_append_left (by simpa using hj'), Array.getElem?_map, Array.getElem?_eq_getElem hj']
    rfl
  · intro j k _ _; rfl
  · intro j x k b hx hb
    rw [List.getElem?_map] at hx
    cases hs : s.data.toList[j]? with
    | none => rw [hs] at hx; cases hx
    | some y =>
      rw [hs] at hx; simp at hx; subst hx
      cases k with
      | succ k => simp at hb
      | zero =>
        simp at hb; subst hb
        have : s.data[j]? = some y := by simpa using hs
        rw [this]; exact .lit _
end
end Go.Ai
namespace Go.Ai
open Go.MapKept
def KK.d : KK → TypeDesc
  | .int q => .int q
  | .str => .string
theorem kkOf_inv {P : Program} {t : TypeId} {kk : KK} (h : kkOf P t = some kk) : P.underlying t = some kk.d := by
  unfold kkOf at h
  split at h
  · rename_i q hu; simp only [sI] at h; subst h; exact hu
  · rename_i hu; simp only [sI] at h; subst h; exact hu
  · cases h
theorem keyOf_inv {g : G} {w : World} {kk : KK} {x : AV} {v k : Value} (hx : VR g w x v) (h : keyOf kk x = some k) : v = k ∧ IsKey kk.d k := by
  unfold keyOf at h
  split at h
  · rename_i q k' n
    by_cases e : k' = q
    · subst e
      simp only [decide_true, cond_true, sI] at h; subst h
      exact ⟨hx.lit_inv, by simp [KK.d, IsKey]⟩
    · simp only [e, decide_false, cond_false] at h; cases h
  · rename_i s
    simp only [sI] at h; subst h
    exact ⟨hx.lit_inv, by simp [KK.d, IsKey]⟩
  · cases h
theorem sameK_now {kk : KK} {a b : Value} {c : Bool} (h : sameK kk a b = some c) : Instr.sameNow kk.d a b = some c ∧ (c = true → b = a) := by
  unfold sameK at h
  split at h
  · rename_i q k x k' y
    by_cases e1 : k = q
    · by_cases e2 : k' = q
      · subst e1; subst e2
        simp only [decide_true, Bool.and_self, cond_true, sI] at h; subst h
        refine ⟨by simp [KK.d, Instr.sameNow], fun h => ?_⟩
        simp only [beq_iff_eq] at h; rw [h]
      · simp only [e2, decide_false, Bool.and_false, cond_false] at h; cases h
    · simp only [e1, decide_false, Bool.false_and, cond_false] at h; cases h
  · rename_i x y
    simp only [sI] at h; subst h
    have e : (x == y) = (x.data.toList == y.data.toList) := by
      rw [Bool.eq_iff_iff, bytes_beq, beq_iff_eq]
      constructor
      · intro h; rw [h]
      · intro h; exact ByteArray.ext (Array.ext' h)
    refine ⟨by simp only [KK.d, Instr.sameNow, e], fun h => ?_⟩
    rw [← e, bytes_beq] at h; rw [h]
  · cases h
section
variable {P : Program} {g : G} {w : World} {H : List AO} {id : Nat}
theorem findK_now {kk : KK} {key : Value} : ∀ (es : List MapEntry) (kvs : List (Value × AV)) (n : Nat) (r : Option (Nat × AV)), es.length = kvs.length →
    (∀ (i : Nat) (e : MapEntry) (k : Value) (a : AV), es[i]? = some e → kvs[i]? = some (k, a) → e.key = k ∧ VR g w a e.val) → findK kk key kvs n = some r →
    (r = none → Instr.findNow kk.d key es n = some none) ∧ ∀ i a, r = some (i, a) → ∃ e, n ≤ i ∧ es[i - n]? = some e ∧ Instr.findNow kk.d key es n = some (some (i, e.val)) ∧ VR g w a e.val ∧ e.key = key
  | [], [], n, r, _, _, h => by
    simp only [findK, sI] at h; subst h
    exact ⟨fun _ => rfl, fun i a h => by cases h⟩
  | [], _ :: _, _, _, hl, _, _ => by simp at hl
  | _ :: _, [], _, _, hl, _, _ => by simp at hl
  | e :: es, (k, a) :: kvs, n, r, hl, hv, h => by
    obtain ⟨hk, ha⟩ := hv 0 e k a rfl rfl
    simp only [findK] at h
    cases hs : sameK kk key k with
    | none => rw [hs] at h; cases h
    | some c =>
      obtain ⟨s1, s2⟩ := sameK_now hs
      rw [hs] at h
      rw [← hk] at s1
      cases c with
      | true =>
        simp only [sI] at h; subst h
        refine ⟨fun h => (by cases h), fun i b hb => ?_⟩
        simp only [sI, Prod.mk.injEq] at hb
        obtain ⟨rfl, rfl⟩ := hb
        refine ⟨e, Nat.le_refl _, by simp, by simp [Instr.findNow, s1], ha, by rw [hk]; exact s2 rfl⟩
      | false =>
        simp only at h
        obtain ⟨i1, i2⟩ := findK_now es kvs (n + 1) r (by simpa using hl) (fun i e k a he hk => hv (i + 1) e k a (by simpa using he) (by simpa using hk)) h
        refine ⟨fun hr => by simp [Instr.findNow, s1, i1 hr], fun i b hb => ?_⟩
        obtain ⟨e', j1, j2, j3, j4, j5⟩ := i2 i b hb
        refine ⟨e', by omega, ?_, by simp [Instr.findNow, s1, j3], j4, j5⟩
        have : i - n = (i - (n + 1)) + 1 := by omega
        rw [this, List.getElem?_cons_succ]; exact j2
theorem zeroV_run {t : TypeId} {z : AV} (h : zeroV P t = some z) : ∃ v, (zeroValue t).run P w = .ok v w ∧ VR g w z v := by
  unfold zeroV at h
  obtain ⟨inf, i1, h⟩ := bO.1 h
  obtain ⟨v, i2, h⟩ := bO.1 h
  simp only [sI] at h; subst h
  exact ⟨v, by simp [zeroValue, typeInfo, i1, i2], .fv _ _ (ofV_fv _ _ 4 v)⟩
theorem vr_two {a : AV} {u : Value} {b : Bool} (ha : VR g w a u) : VR g w (.tup [a, litB b]) (.tuple #[u, .bool b]) := by
  refine .tup _ _ rfl (fun i c v h1 h2 => ?_)
  cases i with
  | zero => simp at h1 h2; subst h1; subst h2; exact ha
  | succ i =>
    cases i with
    | zero => simp at h1 h2; subst h1; subst h2; exact .fv _ _ (.lit _)
    | succ i => simp at h1
theorem lkp_run {t kt e : TypeId} {kk : KK} {z m x r : AV} {u v : Value} {ok : Bool} (R : Rel g w H) (ht : P.underlying t = some (.map kt e)) (hk : kkOf P kt = some kk) (hz : zeroV P e = some z) (hm : VR g w m u) (hx : VR g w x v)
    (h : lkpV H kk ok z m x = some r) : ∃ y, (Instr.lookup t u v ok).run P w = .ok y w ∧ VR g w r y := by
  unfold lkpV at h
  obtain ⟨kvs, h1, h⟩ := bO.1 h
  obtain ⟨k, h2, h⟩ := bO.1 h
  obtain ⟨res, h3, h⟩ := bO.1 h
  obtain ⟨rfl, hkey⟩ := keyOf_inv hx h2
  have hd := kkOf_inv hk
  obtain ⟨zv, z1, z2⟩ := zeroV_run (P := P) (g := g) (w := w) hz
  have fin : ∀ (es : Array MapEntry), ((∃ b, u = .map (some b) ∧ ∃ clk, w.heap[b]? = some (.map es clk)) ∨ (u = .map none ∧ es = #[])) → es.toList.length = kvs.length →
      (∀ (i : Nat) (e : MapEntry) (k : Value) (a : AV), es.toList[i]? = some e → kvs[i]? = some (k, a) → e.key = k ∧ VR g w a e.val) → ∃ y, (Instr.lookup t u v ok).run P w = .ok y w ∧ VR g w r y := by
    intro es hu hl hv
    obtain ⟨f1, f2⟩ := findK_now es.toList kvs 0 res hl hv h3
    cases res with
    | none =>
      simp only [sI] at h; subst h
      refine ⟨if ok then .tuple #[zv, .bool false] else zv, ?_, by cases ok; exact z2; exact vr_two z2⟩
      rcases hu with ⟨b, rfl, clk, hb⟩ | ⟨rfl, rfl⟩
      · simp [Instr.lookup, run_underlying ht, Go.MapKept.run_getObj_map hb, run_checkKey hd hkey, run_findKey hd (f1 rfl), z1, Result.andThen]
      · simp [Instr.lookup, run_underlying ht, run_checkKey hd hkey, run_findKey hd (f1 rfl), z1, Result.andThen]
    | some p =>
      obtain ⟨i, a⟩ := p
      simp only [sI] at h; subst h
      obtain ⟨e', j1, j2, j3, j4, j5⟩ := f2 i a rfl
      refine ⟨if ok then .tuple #[e'.val, .bool true] else e'.val, ?_, by cases ok; exact j4; exact vr_two j4⟩
      rcases hu with ⟨b, rfl, clk, hb⟩ | ⟨rfl, rfl⟩
      · simp [Instr.lookup, run_underlying ht, Go.MapKept.run_getObj_map hb, run_checkKey hd hkey, run_findKey hd j3, Result.andThen]
      · simp at j2
  unfold mapAt at h1
  split at h1
  · rename_i r'
    split at h1
    · rename_i kvs' hr
      simp only [sI] at h1; subst h1
      obtain ⟨rfl, _⟩ := hm.mpv_inv
      obtain ⟨es, clk, m1, m2, m3, m4⟩ := R.mob r' _ hr
      exact fin es (.inl ⟨_, rfl, clk, m1⟩) (by simpa using m2) (fun i e k a he hk => m3 i e k a (by simpa using he) hk)
    · cases h1
  · simp only [sI] at h1; subst h1
    have := hm.lit_inv
    exact fin #[] (.inr ⟨this, rfl⟩) rfl (fun i e k a he hk => by simp at he)
  · cases h1
theorem mup_ok {t kt e : TypeId} {kk : KK} {m k x : AV} {u v y : Value} {H' : List AO} (R : Rel g w H) (ht : P.underlying t = some (.map kt e)) (hk : kkOf P kt = some kk) (hm : VR g w m u) (hkv : VR g w k v) (hx : VR g w x y)
    (h : mupH H kk m k x = some H') : ∃ w', (Instr.mapUpdate t u v y).run P w = .ok () w' ∧ Rel g w' H' ∧ Stp g w H g w' H' := by
  unfold mupH at h
  split at h
  case h_2 => cases h
  rename_i r
  obtain ⟨kvs, h1, h⟩ := bO.1 h
  obtain ⟨kv, h2, h⟩ := bO.1 h
  obtain ⟨res, h3, h⟩ := bO.1 h
  obtain ⟨rfl, hkey⟩ := keyOf_inv hkv h2
  have hd := kkOf_inv hk
  have hr : H[r]? = some (.mp kvs) := by
    simp only [mapAt] at h1
    split at h1
    · rename_i kvs' hr; simp only [sI] at h1; subst h1; exact hr
    · cases h1
  obtain ⟨rfl, _⟩ := hm.mpv_inv
  obtain ⟨es, clk, m1, m2, m3, m4⟩ := R.mob r _ hr
  obtain ⟨f1, f2⟩ := findK_now es.toList kvs 0 res (by simpa using m2) (fun i e k a he hk => m3 i e k a (by simpa using he) hk) h3
  have hbl : g.ρ r < w.heap.size := R.blt (.ofm hr)
  cases res with
  | none =>
    simp only [sI] at h; subst h
    refine ⟨{ w with heap := w.heap.setIfInBounds (g.ρ r) (.map (es.push { key := v, val := y, born := clk }) (clk + 1)) }, ?_, ?_⟩
    · simp [Instr.mapUpdate, run_underlying ht, Go.MapKept.run_getObj_map m1, run_checkKey hd hkey, run_findKey hd (f1 rfl), run_setObj_map _ m1, Result.andThen]
    · refine Rel.writeM R hr rfl rfl rfl (by simp) (Go.MapKept.heap_set m1).1 (by simp [m2]) (fun i e' k' a he hk' => ?_) (fun b hb => (Go.MapKept.heap_set m1).2 b hb)
      rw [Array.getElem?_push] at he
      by_cases hi : i = es.size
      · rw [if_pos hi] at he
        simp only [sI] at he; subst he
        rw [hi, m2, List.getElem?_append_right (Nat.le_refl _), Nat.sub_self] at hk'
        simp only [List.getElem?_cons_zero, sI, Prod.mk.injEq] at hk'
        obtain ⟨rfl, rfl⟩ := hk'
        exact ⟨rfl, hx⟩
      · rw [if_neg hi] at he
        have hlt : i < es.size := (Array.getElem?_eq_some_iff.1 he).1
        rw [List.getElem?_append_left (by omega)] at hk'
        exact m3 i e' k' a he hk'
  | some p =>
    obtain ⟨i, a⟩ := p
    simp only [sI] at h; subst h
    obtain ⟨e', j1, j2, j3, j4, j5⟩ := f2 i a rfl
    rw [Nat.sub_zero] at j2
    have j2' : es[i]? = some e' := by simpa using j2
    refine ⟨{ w with heap := w.heap.setIfInBounds (g.ρ r) (.map (es.modify i fun e => { e with key := v, val := y }) clk) }, ?_, ?_⟩
    · simp [Instr.mapUpdate, run_underlying ht, Go.MapKept.run_getObj_map m1, run_checkKey hd hkey, run_findKey hd j3, j2', j5, run_keyThatStays hkey, run_setObj_map _ m1, Result.andThen]
    · refine Rel.writeM R hr rfl rfl rfl (by simp) (Go.MapKept.heap_set m1).1 (by simp [m2]) (fun q e2 k' b he hk' => ?_) (fun b hb => (Go.MapKept.heap_set m1).2 b hb)
      rw [Array.getElem?_modify] at he
      rw [List.getElem?_set] at hk'
      by_cases hq : i = q
      · subst hq
        have hl : i < kvs.length := by rw [← m2]; exact (Array.getElem?_eq_some_iff.1 j2').1
        rw [if_pos rfl, j2'] at he
        rw [if_pos rfl, if_pos hl] at hk'
        simp only [Option.map_some, sI] at he hk'
        subst he
        simp only [Prod.mk.injEq] at hk'
        obtain ⟨rfl, rfl⟩ := hk'
        exact ⟨rfl, hx⟩
      · rw [if_neg hq] at he hk'
        exact m3 q e2 k' b he hk'
end
end Go.Ai
namespace Go.Ai
def ERel (g : G) (w : World) : R → Ending → Prop
  | .ret a, e => ∃ v, e = .returned v ∧ VR g w a v
  | .pan a, e => ∃ v, e = .panicked [{ v, recovered := false }] ∧ VR g w a v
def FOk (P : Program) (f : FuncId) (vs : Array Value) (w : World) (R : Ending → World → Prop) : Prop :=
  ((callFunc f vs).run P w = .ok (.enter f vs) w ∧ Calls P f vs w R) ∨ ∃ v w', (callFunc f vs).run P w = .ok (.value v) w' ∧ R (.returned v) w'
theorem FOk.mono {P : Program} {f : FuncId} {vs : Array Value} {w : World} {R R' : Ending → World → Prop} (h : FOk P f vs w R) (hr : ∀ e w', R e w' → R' e w') : FOk P f vs w R' := by
  rcases h with ⟨h1, h2⟩ | ⟨v, w', h1, h2⟩
  · exact .inl ⟨h1, h2.mono hr⟩
  · exact .inr ⟨v, w', h1, hr _ _ h2⟩
abbrev CallF := FuncId → List AV → List AO → Option (R × List AO)
def CallOk (P : Program) (call : CallF) : Prop := ∀ f args H r H', call f args H = some (r, H') → ∀ (w : World) (g : G) (vs : Array Value), Rel g w H → VRs g w args vs.toList →
  FOk P f vs w fun e w' => ∃ g', Rel g' w' H' ∧ Stp g w H g' w' H' ∧ ERel g' w' r e
def AfterE (g : G) (w : World) (H : List AO) (id : Nat) (out : Out) (e : Ending) (w' : World) : Prop :=
  (∃ v, e = .returned v ∧ After g w H id out false v w') ∨ ∃ v, e = .panicked [{ v, recovered := false }] ∧ After g w H id out true v w'
section
variable {P : Program} {g : G} {w w' : World} {H : List AO} {id : Nat}
theorem Rel.outer (R : Rel g w H) (hk : ∀ b, b < w.heap.size → w'.heap[b]? = w.heap[b]?) (hs : w.heap.size ≤ w'.heap.size) (ho : w'.os = w.os) (ht : w'.tape = w.tape) (hp : w'.output = w.output) (S' : Nat → Prop)
    (h1 : ∀ b, g.S b → S' b) (h2 : ∀ b, S' b → g.S b ∨ w.heap.size ≤ b) (h3 : ∀ b, S' b → b < w'.heap.size) : Rel { g with S := S' } w' H ∧ Stp g w H { g with S := S' } w' H := by
  have hf : ∀ b, g.S b → w'.heap[b]? = w.heap[b]? := fun b hb => hk b (R.lt b hb)
  constructor
  · refine ⟨h3, fun r c u h => ?_, fun r kvs h => ?_, R.inj, R.dom, R.lv⟩
    · obtain ⟨arr, g1, g3, g4, g5, g6, g7⟩ := R.obj r c u h
      refine ⟨arr, by rw [hk _ (R.blt (.of h))]; exact g1, g3, g4, fun j a v ha hv => (g5 j a v ha hv).mono h1 (fun _ h => h) (fun _ _ => rfl) (fun _ _ => rfl) (fun _ _ => rfl) hf, g6, fun hS => ?_⟩
      rcases h2 _ hS with hS | hS
      · exact g7 hS
      · have := R.blt (.of h); simp only at hS; omega
    · obtain ⟨es, clk, g1, g3, g4, g7⟩ := R.mob r kvs h
      refine ⟨es, clk, by rw [hk _ (R.blt (.ofm h))]; exact g1, g3, fun i e k a he hk' => ⟨(g4 i e k a he hk').1, (g4 i e k a he hk').2.mono h1 (fun _ h => h) (fun _ _ => rfl) (fun _ _ => rfl) (fun _ _ => rfl) hf⟩, fun hS => ?_⟩
      rcases h2 _ hS with hS | hS
      · exact g7 hS
      · have := R.blt (.ofm h); simp only at hS; omega
  · refine ⟨ho, ht, hp, hs, h1, fun _ h => h, fun _ _ => rfl, fun _ _ => rfl, fun _ _ => rfl, fun b hb _ => hk b hb, hf, fun r hr => .inl ⟨r, hr, rfl⟩, fun b hb => ?_⟩
    rcases h2 b hb with h | h
    · exact .inl h
    · exact .inr (.inr h)
theorem kill_vr {S' : Nat → Prop} {ids : List Nat} {x : AV} {u : Value} (R : Rel g w H) (hl : ∀ r, r ∈ ids → Live H r) (hk : ∀ b, b < w.heap.size → w'.heap[b]? = w.heap[b]?) (hS : ∀ b, plus g ids b → S' b) (h : VR g w x u) :
    VR { g with S := S' } w' (kill H ids x) u := by
  have hf : ∀ b, g.S b → w'.heap[b]? = w.heap[b]? := fun b hb => hk b (R.lt b hb)
  have keep : VR { g with S := S' } w' x u := h.mono (fun b hb => hS b (.inl hb)) (fun _ h => h) (fun _ _ => rfl) (fun _ _ => rfl) (fun _ _ => rfl) hf
  have any : ∀ u, VR { g with S := S' } w' .any u := fun u => .fv _ _ (.any u)
  have alt : ∀ z : AV, VR { g with S := S' } w' (match frz H frzF z with | some p => bif p.2.isEmpty then x else .any | none => .any) u := by
    intro z
    split
    · rename_i p _
      cases p.2.isEmpty
      · exact any u
      · exact keep
    · exact any u
  cases x with
  | any => exact any u
  | lit v => exact keep
  | ip xs => exact keep
  | sl e xs c => exact keep
  | ptr r o =>
    simp only [kill]
    cases ids.contains r
    · exact keep
    · exact any u
  | mpv r =>
    simp only [kill]
    cases ids.contains r
    · exact keep
    · exact any u
  | own r off n e cap =>
    simp only [kill]
    cases ids.contains r
    · exact keep
    · simp only [cond_true]
      split
      · rename_i p hp
        cases hall : p.2.all ids.contains
        · exact any u
        · simp only [cond_true]
          obtain ⟨f1, _⟩ := frz_sound R frzF _ _ _ _ h hp
          have hle : ∀ r, r ∈ p.2 → r ∈ ids := fun r hr => by simpa using List.all_eq_true.1 hall r hr
          refine .fv _ _ (f1.mono (fun b hb => hS b (plus_le hle b hb)) (fun b hb => hk b ?_))
          rcases hb with hb | ⟨r, hr, rfl⟩
          · exact R.lt b hb
          · exact R.blt (hl r (hle r hr))
      · exact any u
  | agg xs => exact alt _
  | tup xs => exact alt _
  | iface t x => exact alt _
  | fn f a b => exact alt _
theorem killH_get (H0 : List AO) (ids : List Nat) : ∀ (H : List AO) (n r : Nat), (killH H0 ids n H)[r]? = (H[r]?).map fun o => bif ids.contains (n + r) then .dead else killO H0 ids o
  | [], n, r => by simp [killH]
  | o :: H, n, r => by
    simp only [killH]
    cases r with
    | zero => simp
    | succ r => simp only [List.getElem?_cons_succ, killH_get H0 ids H (n + 1) r]; rw [show n + 1 + r = n + (r + 1) by omega]
theorem killH_live {ids : List Nat} {r : Nat} (h : Live (killH H ids 0 H) r) : ids.contains r = false ∧ Live H r := by
  obtain ⟨o', h, ha⟩ := h
  rw [killH_get] at h
  simp only [Nat.zero_add] at h
  cases ho : H[r]? with
  | none => rw [ho] at h; cases h
  | some o =>
    rw [ho] at h
    simp only [Option.map_some, sI] at h
    cases hc : ids.contains r with
    | true => rw [hc] at h; simp only [cond_true] at h; subst h; cases ha
    | false =>
      rw [hc] at h
      cases o with
      | dead => simp only [cond_false, killO] at h; subst h; cases ha
      | row cs t' => exact ⟨rfl, _, ho, rfl⟩
      | mp kvs => exact ⟨rfl, _, ho, rfl⟩
theorem killH_length (H0 : List AO) (ids : List Nat) : ∀ (H : List AO) (n : Nat), (killH H0 ids n H).length = H.length
  | [], n => rfl
  | o :: H, n => by simp [killH, killH_length H0 ids H (n + 1)]
theorem Rel.kill {ids : List Nat} (R : Rel g w H) (hl : ∀ r, r ∈ ids → Live H r) (hk : ∀ b, b < w.heap.size → w'.heap[b]? = w.heap[b]?) (hs : w.heap.size ≤ w'.heap.size) (ho : w'.os = w.os) (ht : w'.tape = w.tape) (hp : w'.output = w.output) (S' : Nat → Prop)
    (h1 : ∀ b, plus g ids b → S' b) (h2 : ∀ b, S' b → plus g ids b ∨ w.heap.size ≤ b) (h3 : ∀ b, S' b → b < w'.heap.size) : Rel { g with S := S' } w' (killH H ids 0 H) ∧ Stp g w H { g with S := S' } w' (killH H ids 0 H) := by
  have hf : ∀ b, g.S b → w'.heap[b]? = w.heap[b]? := fun b hb => hk b (R.lt b hb)
  constructor
  · refine ⟨h3, fun r c u h => ?_, fun r kvs h => ?_, fun r r' hr hr' e => R.inj r r' (killH_live hr).2 (killH_live hr').2 e, fun r hr => by rw [killH_length]; exact R.dom r hr, fun r hr => R.lv r (killH_live hr).2⟩
    · obtain ⟨hc, hlv⟩ := killH_live (.of h)
      rw [killH_get] at h
      rcases hlv.or with ⟨cs, t, hh⟩ | ⟨kvs, hh⟩
      case inr => rw [hh] at h; simp only [Nat.zero_add, Option.map_some, hc, cond_false, killO, sI] at h; cases h
      rw [hh] at h
      simp only [Nat.zero_add, Option.map_some, hc, cond_false, killO, sI, AO.row.injEq] at h
      obtain ⟨rfl, rfl⟩ := h
      obtain ⟨arr, g1, g3, g4, g5, g6, g7⟩ := R.obj r cs t hh
      refine ⟨arr, by rw [hk _ (R.blt (.of hh))]; exact g1, g3, by simpa using g4, fun j a v ha hv => ?_, g6, fun hS => ?_⟩
      · rw [List.getElem?_map] at ha
        cases hj : cs[j]? with
        | none => rw [hj] at ha; cases ha
        | some x => rw [hj] at ha; simp only [Option.map_some, sI] at ha; subst ha; exact kill_vr R hl hk h1 (g5 j x v hj hv)
      · rcases h2 _ hS with (hS | ⟨q, hq, e⟩) | hS
        · exact g7 hS
        · have := R.inj q r (hl q hq) (.of hh) e
          subst this
          have : ids.contains q = true := by simpa using hq
          rw [this] at hc; cases hc
        · have := R.blt (.of hh); simp only at hS; omega
    · obtain ⟨hc, hlv⟩ := killH_live (.ofm h)
      rw [killH_get] at h
      rcases hlv.or with ⟨cs, t, hh⟩ | ⟨kvs', hh⟩
      case inl => rw [hh] at h; simp only [Nat.zero_add, Option.map_some, hc, cond_false, killO, sI] at h; cases h
      rw [hh] at h
      simp only [Nat.zero_add, Option.map_some, hc, cond_false, killO, sI, AO.mp.injEq] at h
      subst h
      obtain ⟨es, clk, g1, g3, g4, g7⟩ := R.mob r kvs' hh
      refine ⟨es, clk, by rw [hk _ (R.blt (.ofm hh))]; exact g1, by simpa using g3, fun i e k a he hk' => ?_, fun hS => ?_⟩
      · rw [List.getElem?_map] at hk'
        cases hj : kvs'[i]? with
        | none => rw [hj] at hk'; cases hk'
        | some p =>
          obtain ⟨k2, x⟩ := p
          rw [hj] at hk'
          simp only [Option.map_some, sI, Prod.mk.injEq] at hk'
          obtain ⟨rfl, rfl⟩ := hk'
          exact ⟨(g4 i e _ x he hj).1, kill_vr R hl hk h1 (g4 i e _ x he hj).2⟩
      · rcases h2 _ hS with (hS | ⟨q, hq, e⟩) | hS
        · exact g7 hS
        · have := R.inj q r (hl q hq) (.ofm hh) e
          subst this
          have : ids.contains q = true := by simpa using hq
          rw [this] at hc; cases hc
        · have := R.blt (.ofm hh); simp only at hS; omega
  · refine ⟨ho, ht, hp, hs, fun b hb => h1 b (.inl hb), fun _ h => h, fun _ _ => rfl, fun _ _ => rfl, fun _ _ => rfl, fun b hb _ => hk b hb, hf, fun r hr => .inl ⟨r, (killH_live hr).2, rfl⟩, fun b hb => ?_⟩
    rcases h2 b hb with (h | ⟨q, hq, e⟩) | h
    · exact .inl h
    · exact .inr (.inl ⟨q, hl q hq, e⟩)
    · exact .inr (.inr h)
theorem Rel.trunc {g' : G} {H' : List AO} (R : Rel g w H) (R' : Rel g' w' H') (s : Stp g w H g' w' H') (h : (H'.take H.length).all (belowO H.length) = true) :
    Rel { g' with D := fun r => g'.D r ∧ r < H.length } w' (H'.take H.length) ∧ Stp g w H { g' with D := fun r => g'.D r ∧ r < H.length } w' (H'.take H.length) := by
  have hL : ∀ r, Live (H'.take H.length) r → Live H' r ∧ r < H.length := by
    rintro r ⟨o, h, ha⟩
    rw [List.getElem?_take] at h
    split at h
    · exact ⟨⟨o, h, ha⟩, by assumption⟩
    · cases h
  constructor
  · refine ⟨R'.lt, fun r c u hr => ?_, fun r kvs hr => ?_, fun r r' hr hr' e => R'.inj r r' (hL r hr).1 (hL r' hr').1 e, fun r hr => ?_, fun r hr => ⟨R'.lv r (hL r hr).1, (hL r hr).2⟩⟩
    · have hb := List.all_eq_true.1 h _ (List.mem_of_getElem? hr)
      rw [List.getElem?_take] at hr
      split at hr
      · obtain ⟨arr, g1, g3, g4, g5, g6, g7⟩ := R'.obj r c u hr
        simp only [belowO] at hb
        exact ⟨arr, g1, g3, g4, fun j a v ha hv => below_vr _ _ _ _ (List.all_eq_true.1 hb a (List.mem_of_getElem? ha)) (g5 j a v ha hv), g6, g7⟩
      · cases hr
    · have hb := List.all_eq_true.1 h _ (List.mem_of_getElem? hr)
      rw [List.getElem?_take] at hr
      split at hr
      · obtain ⟨es, clk, g1, g3, g4, g7⟩ := R'.mob r kvs hr
        simp only [belowO] at hb
        exact ⟨es, clk, g1, g3, fun i e k a he hk' => ⟨(g4 i e k a he hk').1, below_vr _ _ _ _ (List.all_eq_true.1 hb (k, a) (List.mem_of_getElem? hk')) (g4 i e k a he hk').2⟩, g7⟩
      · cases hr
    · have := R'.dom r hr.1
      have h2 := hr.2
      rw [List.length_take]; omega
  · exact ⟨s.os, s.tape, s.output, s.size, s.S, fun r hr => ⟨s.D r hr, R.dom r hr⟩, s.ρ, s.σ, s.δ, s.keep, s.frz, fun r hr => s.live r (hL r hr).1, s.fro⟩
variable {call : CallF} {md : FuncId → Md}
theorem callV_ok {f : FuncId} {args : List AV} {out : Out} {vs : Array Value} (CO : CallOk P call) (h : callV call md f args H id = some out) (R : Rel g w H) (hid : id ≤ H.length) (hd : ¬ g.D id) (hv : VRs g w args vs.toList) :
    FOk P f vs w (AfterE g w H id out) := by
  unfold callV at h
  cases hm : md f with
  | ref =>
    rw [hm] at h
    obtain ⟨⟨r, H'⟩, hc, h⟩ := bO.1 h
    refine (CO f args H r H' hc w g vs R hv).mono ?_
    rintro e w' ⟨g', R', s, E⟩
    cases r with
    | ret a =>
      obtain ⟨v, rfl, hv'⟩ := E
      simp only at h
      by_cases hb : (below H.length frzF a && (H'.take H.length).all (belowO H.length)) = true
      · rw [hb] at h
        simp only [cond_true, sI] at h; subst h
        rw [Bool.and_eq_true] at hb
        obtain ⟨q1, q2⟩ := R.trunc R' s hb.2
        exact .inl ⟨v, rfl, rfl, _, below_vr _ _ _ _ hb.1 hv', q1, q2⟩
      · rw [Bool.eq_false_iff.mpr hb] at h
        simp only [cond_false, sI] at h; subst h
        exact .inl ⟨v, rfl, rfl, g', hv', R', s⟩
    | pan a =>
      simp only [sI] at h; subst h
      obtain ⟨v, rfl, hv'⟩ := E
      exact .inr ⟨v, rfl, rfl, g', hv', R', s⟩
  | pure =>
    rw [hm] at h
    obtain ⟨⟨ys, ids⟩, hf, h⟩ := bO.1 h
    obtain ⟨⟨r, H1⟩, hc, h⟩ := bO.1 h
    obtain ⟨⟨e1, e2⟩, hlive⟩ := frz_list (vs := vs) (fun a v b ids => frz_sound R frzF a v b ids) (by rw [hv.1]; simp) (fun i a v h1 h2 => hv.2 i a v h1 (by simpa using h2)) hf
    let gc : G := ⟨plus g ids, fun _ => False, g.ρ, g.σ, g.δ⟩
    have hlt : ∀ b, plus g ids b → b < w.heap.size := by
      rintro b (hb | ⟨r, hr, rfl⟩)
      · exact R.lt b hb
      · exact R.blt (hlive r hr)
    have Rc : Rel gc w [] := ⟨hlt, fun r c t h => by simp at h, fun r kvs h => by simp at h, fun r r' h => (noLive h).elim, fun r h => h.elim, fun r h => (noLive h).elim⟩
    refine (CO f ys [] r H1 hc w gc vs Rc ⟨by simpa using e1, fun i a v h1 h2 => .fv _ _ (e2 i a v h1 (by simpa using h2))⟩).mono ?_
    rintro e w' ⟨g1, R1, s, E⟩
    have hno : ∀ r, ¬ Live ([] : List AO) r := fun r h => noLive h
    have hk : ∀ b, b < w.heap.size → w'.heap[b]? = w.heap[b]? := fun b hb => s.keep b hb fun r hr => (hno r hr).elim
    have fin : ∀ (a z : AV) (ids1 : List Nat) (v : Value) (p : Bool), VR g1 w' a v → frz H1 frzF a = some (z, ids1) → ∀ (out : Out), ((ids.isEmpty || light H1 a z) = true → (p = false ∧ out = .val z none) ∨ (p = true ∧ out = .pan z H)) →
        ((ids.isEmpty || light H1 a z) = false → p = false ∧ out = .fz z ids) → After g w H id out p v w' := by
      intro a z ids1 v p hv' hz out o1 o2
      obtain ⟨f1, f2⟩ := frz_sound R1 frzF a v z ids1 hv' hz
      have hS1 : ∀ b, plus g1 ids1 b → plus g ids b ∨ w.heap.size ≤ b := by
        rintro b (hb | ⟨q, hq, rfl⟩)
        · rcases s.fro b hb with h | ⟨q, hq, _⟩ | h
          · exact .inl h
          · exact (hno q hq).elim
          · exact .inr h
        · rcases s.live q (f2 q hq) with ⟨q', hq', _⟩ | h
          · exact (hno q' hq').elim
          · exact .inr h
      have hS2 : ∀ b, plus g1 ids1 b → b < w'.heap.size := by
        rintro b (hb | ⟨q, hq, rfl⟩)
        · exact R1.lt b hb
        · exact R1.blt (f2 q hq)
      have hS3 : ∀ b, plus g ids b → plus g1 ids1 b := fun b hb => .inl (s.S b hb)
      cases hcond : (ids.isEmpty || light H1 a z) with
      | false =>
        obtain ⟨rfl, rfl⟩ := o2 hcond
        obtain ⟨q1, q2⟩ := R.kill (w' := w') hlive hk s.size s.os s.tape s.output (plus g1 ids1) hS3 hS1 hS2
        exact ⟨rfl, _, .fv _ _ f1, q1, q2, fun x u hx => kill_vr R hlive hk hS3 hx⟩
      | true =>
        have key : ∃ S', (∀ b, g.S b → S' b) ∧ (∀ b, S' b → g.S b ∨ w.heap.size ≤ b) ∧ (∀ b, S' b → b < w'.heap.size) ∧ FV S' w' z v := by
          cases hids : ids with
          | nil =>
            subst hids
            refine ⟨plus g1 ids1, fun b hb => hS3 b (.inl hb), fun b hb => ?_, hS2, f1⟩
            rcases hS1 b hb with h | h
            · exact .inl (plus_nil g b h)
            · exact .inr h
          | cons q qs =>
            rw [hids] at hcond
            simp only [List.isEmpty_cons, Bool.false_or] at hcond
            unfold light at hcond
            rw [Bool.or_eq_true] at hcond
            rcases hcond with hcond | hcond
            · exact ⟨g.S, fun _ h => h, fun _ h => .inl h, fun b hb => Nat.lt_of_lt_of_le (R.lt b hb) s.size, flat_fv _ _ _ hcond f1⟩
            · obtain ⟨⟨z', ids2⟩, hz2⟩ := Option.isSome_iff_exists.1 hcond
              have hzz := frzO_frz _ _ _ hz2
              rw [hz] at hzz
              simp only [sI, Prod.mk.injEq] at hzz
              obtain ⟨rfl, rfl⟩ := hzz
              have fo := (frzO_sound R1 frzF a v z ids1 hv' hz2).1
              refine ⟨fun b => g.S b ∨ ∃ q, q ∈ ids1 ∧ g1.ρ q = b, fun b hb => .inl hb, ?_, ?_, fo.weaken ?_⟩
              · rintro b (hb | ⟨q, hq, rfl⟩)
                · exact .inl hb
                · rcases s.live q (f2 q hq) with ⟨q', hq', _⟩ | h
                  · exact (hno q' hq').elim
                  · exact .inr h
              · rintro b (hb | ⟨q, hq, rfl⟩)
                · exact Nat.lt_of_lt_of_le (R.lt b hb) s.size
                · exact R1.blt (f2 q hq)
              · rintro b (hb | ⟨q, hq, rfl⟩)
                · exact hb.elim
                · exact .inr ⟨q, hq, rfl⟩
        obtain ⟨S', k1, k2, k3, k4⟩ := key
        obtain ⟨q1, q2⟩ := R.outer (w' := w') hk s.size s.os s.tape s.output S' k1 k2 k3
        rcases o1 hcond with ⟨rfl, rfl⟩ | ⟨rfl, rfl⟩
        · exact ⟨rfl, { g with S := S' }, rfl, .fv _ _ k4, q1, q2⟩
        · exact ⟨rfl, { g with S := S' }, .fv _ _ k4, q1, q2⟩
    cases r with
    | ret a =>
      obtain ⟨v, rfl, hv'⟩ := E
      obtain ⟨⟨z, ids1⟩, hz, h⟩ := bO.1 h
      refine .inl ⟨v, rfl, fin a z ids1 v false hv' hz out (fun hc => .inl ⟨rfl, ?_⟩) (fun hc => ⟨rfl, ?_⟩)⟩
      · simp only at h; rw [hc] at h; simp only [cond_true, sI] at h; exact h.symm
      · simp only at h; rw [hc] at h; simp only [cond_false, sI] at h; exact h.symm
    | pan a =>
      obtain ⟨v, rfl, hv'⟩ := E
      obtain ⟨⟨z, ids1⟩, hz, h⟩ := bO.1 h
      cases hc : (ids.isEmpty || light H1 a z) with
      | false => simp only at h; rw [hc] at h; cases h
      | true =>
        simp only at h; rw [hc] at h; simp only [cond_true, sI] at h
        exact .inr ⟨v, rfl, fin a z ids1 v true hv' hz out (fun _ => .inr ⟨rfl, h.symm⟩) (fun hf => by rw [hc] at hf; cases hf)⟩
  | own =>
    rw [hm] at h
    obtain ⟨⟨ys, ids⟩, hf, h⟩ := bO.1 h
    obtain ⟨⟨r, H1⟩, hc, h⟩ := bO.1 h
    obtain ⟨⟨e1, e2⟩, hlive⟩ := frz_list (vs := vs) (fun a v b ids => frz_sound R frzF a v b ids) (by rw [hv.1]; simp) (fun i a v h1 h2 => hv.2 i a v h1 (by simpa using h2)) hf
    let gc : G := ⟨plus g ids, fun _ => False, g.ρ, g.σ, g.δ⟩
    have hlt : ∀ b, plus g ids b → b < w.heap.size := by
      rintro b (hb | ⟨r, hr, rfl⟩)
      · exact R.lt b hb
      · exact R.blt (hlive r hr)
    have Rc : Rel gc w [] := ⟨hlt, fun r c t h => by simp at h, fun r kvs h => by simp at h, fun r r' h => (noLive h).elim, fun r h => h.elim, fun r h => (noLive h).elim⟩
    refine (CO f ys [] r H1 hc w gc vs Rc ⟨by simpa using e1, fun i a v h1 h2 => .fv _ _ (e2 i a v h1 (by simpa using h2))⟩).mono ?_
    rintro e w' ⟨g1, R1, s, E⟩
    have hno : ∀ r, ¬ Live ([] : List AO) r := fun r h => noLive h
    have hk : ∀ b, b < w.heap.size → w'.heap[b]? = w.heap[b]? := fun b hb => s.keep b hb fun r hr => (hno r hr).elim
    have fin : ∀ (a z : AV) (ids1 : List Nat) (v : Value) (p : Bool), VR g1 w' a v → frz H1 frzF a = some (z, ids1) → ∀ (out : Out), ((ids.isEmpty || light H1 a z) = true → (p = false ∧ out = .val z none) ∨ (p = true ∧ out = .pan z H)) →
        ((ids.isEmpty || light H1 a z) = false → p = false ∧ out = .fz z ids) → After g w H id out p v w' := by
      intro a z ids1 v p hv' hz out o1 o2
      obtain ⟨f1, f2⟩ := frz_sound R1 frzF a v z ids1 hv' hz
      have hS1 : ∀ b, plus g1 ids1 b → plus g ids b ∨ w.heap.size ≤ b := by
        rintro b (hb | ⟨q, hq, rfl⟩)
        · rcases s.fro b hb with h | ⟨q, hq, _⟩ | h
          · exact .inl h
          · exact (hno q hq).elim
          · exact .inr h
        · rcases s.live q (f2 q hq) with ⟨q', hq', _⟩ | h
          · exact (hno q' hq').elim
          · exact .inr h
      have hS2 : ∀ b, plus g1 ids1 b → b < w'.heap.size := by
        rintro b (hb | ⟨q, hq, rfl⟩)
        · exact R1.lt b hb
        · exact R1.blt (f2 q hq)
      have hS3 : ∀ b, plus g ids b → plus g1 ids1 b := fun b hb => .inl (s.S b hb)
      cases hcond : (ids.isEmpty || light H1 a z) with
      | false =>
        obtain ⟨rfl, rfl⟩ := o2 hcond
        obtain ⟨q1, q2⟩ := R.kill (w' := w') hlive hk s.size s.os s.tape s.output (plus g1 ids1) hS3 hS1 hS2
        exact ⟨rfl, _, .fv _ _ f1, q1, q2, fun x u hx => kill_vr R hlive hk hS3 hx⟩
      | true =>
        have key : ∃ S', (∀ b, g.S b → S' b) ∧ (∀ b, S' b → g.S b ∨ w.heap.size ≤ b) ∧ (∀ b, S' b → b < w'.heap.size) ∧ FV S' w' z v := by
          cases hids : ids with
          | nil =>
            subst hids
            refine ⟨plus g1 ids1, fun b hb => hS3 b (.inl hb), fun b hb => ?_, hS2, f1⟩
            rcases hS1 b hb with h | h
            · exact .inl (plus_nil g b h)
            · exact .inr h
          | cons q qs =>
            rw [hids] at hcond
            simp only [List.isEmpty_cons, Bool.false_or] at hcond
            unfold light at hcond
            rw [Bool.or_eq_true] at hcond
            rcases hcond with hcond | hcond
            · exact ⟨g.S, fun _ h => h, fun _ h => .inl h, fun b hb => Nat.lt_of_lt_of_le (R.lt b hb) s.size, flat_fv _ _ _ hcond f1⟩
            · obtain ⟨⟨z', ids2⟩, hz2⟩ := Option.isSome_iff_exists.1 hcond
              have hzz := frzO_frz _ _ _ hz2
              rw [hz] at hzz
              simp only [sI, Prod.mk.injEq] at hzz
              obtain ⟨rfl, rfl⟩ := hzz
              have fo := (frzO_sound R1 frzF a v z ids1 hv' hz2).1
              refine ⟨fun b => g.S b ∨ ∃ q, q ∈ ids1 ∧ g1.ρ q = b, fun b hb => .inl hb, ?_, ?_, fo.weaken ?_⟩
              · rintro b (hb | ⟨q, hq, rfl⟩)
                · exact .inl hb
                · rcases s.live q (f2 q hq) with ⟨q', hq', _⟩ | h
                  · exact (hno q' hq').elim
                  · exact .inr h
              · rintro b (hb | ⟨q, hq, rfl⟩)
                · exact Nat.lt_of_lt_of_le (R.lt b hb) s.size
                · exact R1.blt (f2 q hq)
              · rintro b (hb | ⟨q, hq, rfl⟩)
                · exact hb.elim
                · exact .inr ⟨q, hq, rfl⟩
        obtain ⟨S', k1, k2, k3, k4⟩ := key
        obtain ⟨q1, q2⟩ := R.outer (w' := w') hk s.size s.os s.tape s.output S' k1 k2 k3
        rcases o1 hcond with ⟨rfl, rfl⟩ | ⟨rfl, rfl⟩
        · exact ⟨rfl, { g with S := S' }, rfl, .fv _ _ k4, q1, q2⟩
        · exact ⟨rfl, { g with S := S' }, .fv _ _ k4, q1, q2⟩
    cases r with
    | ret a =>
      obtain ⟨v, rfl, hv'⟩ := E
      have plain : ∀ (h : ((frz H1 frzF a).bind fun z => bif (ids.isEmpty || light H1 a z.1) then some (Out.val z.1 none) else some (.fz z.1 ids)) = some out), AfterE g w H id out (.returned v) w' := by
        intro h
        obtain ⟨⟨z, ids1⟩, hz, h⟩ := bO.1 h
        refine .inl ⟨v, rfl, fin a z ids1 v false hv' hz out (fun hc => .inl ⟨rfl, ?_⟩) (fun hc => ⟨rfl, ?_⟩)⟩
        · simp only at h; rw [hc] at h; simp only [cond_true, sI] at h; exact h.symm
        · simp only at h; rw [hc] at h; simp only [cond_false, sI] at h; exact h.symm
      cases a with
      | own r off n e cap =>
        simp only at h
        obtain ⟨⟨cs, t⟩, hp, h⟩ := bO.1 h
        obtain ⟨⟨zs, ids1⟩, hz, h⟩ := bO.1 h
        by_cases hc : (!ids1.contains r && (ids.isEmpty || zs.all (flat frzF))) = true
        case neg => simp only at h; rw [Bool.eq_false_iff.mpr hc] at h; cases h
        simp only at h
        rw [hc] at h
        simp only [cond_true, sI] at h; subst h
        simp only [Bool.and_eq_true, Bool.not_eq_true'] at hc
        obtain ⟨hc1, hc2⟩ := hc
        have hr : H1[r]? = some (.row cs t) := by
          unfold rowAt at hp
          split at hp
          · rename_i cs' t' he; simp only [sI, Prod.mk.injEq] at hp; obtain ⟨rfl, rfl⟩ := hp; exact he
          · cases hp
        obtain ⟨arr, a1, a2, a3, a4, a5, a6⟩ := R1.obj r cs t hr
        have hv1 : (arr.extract (g1.δ r) (g1.δ r + cs.length)).size = cs.length := by simp; omega
        obtain ⟨⟨f1, f2⟩, f3⟩ := frz_list (vs := arr.extract (g1.δ r) (g1.δ r + cs.length)) (fun a v b ids => frz_sound R1 frzF a v b ids) (by rw [hv1]) (fun i a v h1 h2 => a4 i a v h1 (by
          rw [Array.getElem?_extract] at h2
          split at h2
          · rw [Nat.add_comm]; exact h2
          · cases h2)) hz
        have hfresh : ∀ q, Live H1 q → w.heap.size ≤ g1.ρ q := fun q hq => by
          rcases s.live q hq with ⟨q', hq', _⟩ | h
          · exact (hno q' hq').elim
          · exact h
        have hS1 : ∀ b, plus g1 ids1 b → plus g ids b ∨ w.heap.size ≤ b := by
          rintro b (hb | ⟨q, hq, rfl⟩)
          · rcases s.fro b hb with h | ⟨q, hq, _⟩ | h
            · exact .inl h
            · exact (hno q hq).elim
            · exact .inr h
          · exact .inr (hfresh q (f3 q hq))
        have hS2 : ∀ b, plus g1 ids1 b → b < w'.heap.size := by
          rintro b (hb | ⟨q, hq, rfl⟩)
          · exact R1.lt b hb
          · exact R1.blt (f3 q hq)
        have hS3 : ∀ b, plus g ids b → plus g1 ids1 b := fun b hb => .inl (s.S b hb)
        have hnot : ¬ plus g1 ids1 (g1.ρ r) := by
          rintro (hb | ⟨q, hq, hqr⟩)
          · exact a6 hb
          · have := R1.inj q r (f3 q hq) (.of hr) hqr
            subst this
            rw [List.contains_iff_mem.2 hq] at hc1; cases hc1
        have key : ∃ S', (∀ b, g.S b → S' b) ∧ (∀ b, S' b → g.S b ∨ w.heap.size ≤ b) ∧ (∀ b, S' b → b < w'.heap.size) ∧ ¬ S' (g1.ρ r) ∧ ∀ (i : Nat) (a : AV) (v : Value), zs[i]? = some a → (arr.extract (g1.δ r) (g1.δ r + cs.length))[i]? = some v → FV S' w' a v := by
          cases hids : ids with
          | nil =>
            subst hids
            refine ⟨plus g1 ids1, fun b hb => hS3 b (.inl hb), fun b hb => ?_, hS2, hnot, f2⟩
            rcases hS1 b hb with h | h
            · exact .inl (plus_nil g b h)
            · exact .inr h
          | cons q qs =>
            rw [hids] at hc2
            simp only [List.isEmpty_cons, Bool.false_or, List.all_eq_true] at hc2
            refine ⟨g.S, fun _ h => h, fun _ h => .inl h, fun b hb => Nat.lt_of_lt_of_le (R.lt b hb) s.size, fun hb => ?_, fun i a v ha hv => flat_fv _ _ _ (hc2 a (List.mem_of_getElem? ha)) (f2 i a v ha hv)⟩
            have := R.lt _ hb
            have := hfresh r (.of hr)
            omega
        obtain ⟨S', k1, k2, k3, k5, k4⟩ := key
        obtain ⟨q1, q2⟩ := R.outer (w' := w') hk s.size s.os s.tape s.output S' k1 k2 k3
        have hzl : zs.length = cs.length := by rw [f1, hv1]
        obtain ⟨m1, m2⟩ := Rel.adopt (id := id) (b := g1.ρ r) (d := g1.δ r) (cs := zs) (t := t) (arr := arr) q1 q2 hid hd (hfresh r (.of hr)) (fun q hq => R.blt hq) a1 (by rw [hzl]; exact a3) k5 (fun j a v ha hv => .fv _ _ (k4 j a v ha (by
          have hj : j < cs.length := by rw [← hzl]; exact (List.getElem?_eq_some_iff.1 ha).1
          rw [Array.getElem?_extract, if_pos (by omega), Nat.add_comm]; exact hv))) a5
        refine .inl ⟨v, rfl, rfl, _, fun r h => h, ?_, m1, m2⟩
        obtain ⟨o, c, rfl, b0, b1, b2, b3, b4⟩ := hv'.own_inv
        have := VR.own (g := G.newD { g with S := S' } id (g1.ρ r) arr.size (g1.δ r)) (w := w') id off n e cap o c (.inr rfl) b1 b2 (fun h => by simp only [G.newD, if_true]; exact b3 h) (fun h => by simp only [G.newD, if_true]; rw [a2]; exact b4 h)
        simpa only [G.newD, if_true] using this
      | _ => exact plain h
    | pan a =>
      obtain ⟨v, rfl, hv'⟩ := E
      obtain ⟨⟨z, ids1⟩, hz, h⟩ := bO.1 h
      cases hc : (ids.isEmpty || light H1 a z) with
      | false => simp only at h; rw [hc] at h; cases h
      | true =>
        simp only at h; rw [hc] at h; simp only [cond_true, sI] at h
        exact .inr ⟨v, rfl, fin a z ids1 v true hv' hz out (fun _ => .inr ⟨rfl, h.symm⟩) (fun hf => by rw [hc] at hf; cases hf)⟩
end
end Go.Ai
namespace Go.Ai
abbrev MtF := TypeId → String → Option (FuncId × Option (Option Nat))
def MtOk (P : Program) (mt : MtF) : Prop := ∀ t name f d, mt t name = some (f, d) →
  match d with
  | none => ∀ (v : Value) (w : World), (method (P.types.size + Made.depth) t v name).run P w = .ok (f, v) w
  | some n => ∃ elem, nOf P elem = some n ∧ ∀ (a : Addr) (u : Value) (w : World), (loadVar elem a).run P w = .ok u w → (method (P.types.size + Made.depth) t (.pointer (some a)) name).run P w = .ok (f, u) w
section
variable {P : Program} {g : G} {w : World} {H : List AO} {id : Nat} {o : Oper} {act : Act} {fr : Fr}
theorem OpOk.run {out : Out} {v : Value} {w' : World} (h : (execOp act.eval o).run P w = .ok (.value v) w') (ha : After g w H id out false v w') : OpOk P o act g w H id out := by
  intro next Q hn _
  exact opOk_both h (hn v w' ha) fun _ => hn v w' ha
theorem OpOk.skip {out : Out} {w' : World} (h : (execOp act.eval o).run P w = .ok .skip w') (ha : After g w H id out false undef w') : OpOk P o act g w H id out := by
  intro next Q hn _
  exact opOk_both h (hn undef w' ha) fun _ => hn undef w' ha
theorem OpOk.panics {out : Out} {v : Value} {w' : World} (h : (execOp act.eval o).run P w = .halt (.panic v) w') (ha : After g w H id out true v w') : OpOk P o act g w H id out := by
  intro next Q _ hp
  exact opOk_both h (hp v w' ha) fun _ => hp v w' ha
theorem OpOk.call {out : Out} {f : FuncId} {vs : Array Value} (h : (execOp act.eval o).run P w = (callFunc f vs).run P w) (hc : FOk P f vs w (AfterE g w H id out)) : OpOk P o act g w H id out := by
  intro next Q hn hp
  rcases hc with ⟨h1, h2⟩ | ⟨v, w', h1, h2⟩
  · refine opOk_both (h.trans h1) (h2.mono ?_) fun ro => ⟨fun h => (by cases h), callsIn_WF (h2.mono ?_)⟩
    all_goals
      rintro e w' (⟨v, rfl, ha⟩ | ⟨v, rfl, ha⟩)
      · exact hn v w' ha
      · exact hp v w' ha
  · rcases h2 with ⟨u, e, ha⟩ | ⟨u, e, _⟩
    · cases e; exact opOk_both (h.trans h1) (hn _ w' ha) fun _ => hn _ w' ha
    · cases e
theorem OpOk.val {v : AV} {s : Sem Value} (R : Rel g w H) (h : execOp act.eval o = (do pure (.value (← s)) : Sem Next)) (hs : ∃ z, s.run P w = .ok z w ∧ VR g w v z) : OpOk P o act g w H id (.val v none) := by
  obtain ⟨z, h1, h2⟩ := hs
  refine OpOk.run (v := z) (w' := w) ?_ ⟨rfl, g, rfl, h2, R, Stp.refl⟩
  rw [h]; simp [h1]
theorem evs_vr (F : FRel g w fr act) (xs : Array Operand) : VRs g w ((xs.toList.map cx).map (ev fr)) (xs.map act.eval).toList := by
  rw [Array.toList_map]; exact VRs.map F _
theorem foldS_none (f : Int → Int → Int) : ∀ (xs : List AV), xs.foldl (foldS f) none = none
  | [] => rfl
  | _ :: xs => foldS_none f xs
theorem foldS_run {f : Int → Int → Int} {op : Value → Value → Sem Value} (hop : ∀ k a k' b, op (.int k a) (.int k' b) = pure (.int k (f a b))) : ∀ (xs : List AV) (vs : List Value) (k : IntKind) (a : Int) (r : AV), VRs g w xs vs →
    xs.foldl (foldS f) (some (litI k a)) = some r → ∃ z, (vs.foldlM op (.int k a)).run P w = .ok z w ∧ VR g w r z := by
  intro xs
  induction xs with
  | nil =>
    intro vs k a r hv h
    have : vs = [] := List.eq_nil_of_length_eq_zero hv.1.symm
    subst this
    simp only [List.foldl_nil, sI] at h; subst h
    exact ⟨_, rfl, .fv _ _ (.lit _)⟩
  | cons x xs ih =>
    intro vs k a r hv h
    cases vs with
    | nil => have := hv.1; simp at this
    | cons v vs =>
      have hx := hv.2 0 x v rfl rfl
      have ht : VRs g w xs vs := ⟨by have := hv.1; simpa using this, fun i a u h1 h2 => hv.2 (i + 1) a u (by simpa using h1) (by simpa using h2)⟩
      simp only [List.foldl_cons] at h
      cases x with
      | lit u =>
        cases u with
        | int k' b =>
          rw [hx.lit_inv]
          obtain ⟨z, h1, h2⟩ := ih vs k (f a b) r ht h
          exact ⟨z, by simp only [List.foldlM_cons, hop, Sem.run_bind, Sem.run_pure, Result.andThen_ok]; exact h1, h2⟩
        | _ => exact absurd h (by simp [foldS, litI, foldS_none])
      | _ => exact absurd h (by simp [foldS, litI, foldS_none])
theorem foldI_run {f : Int → Int → Int} {op : Value → Value → Sem Value} (hop : ∀ k a k' b, op (.int k a) (.int k' b) = pure (.int k (f a b))) {xs : List AV} {vs : List Value} {r : AV} (hv : VRs g w xs vs) (h : foldI f xs = some r) :
    ∃ x rest z, vs = x :: rest ∧ (rest.foldlM op x).run P w = .ok z w ∧ VR g w r z := by
  unfold foldI at h
  split at h
  · rename_i k a xs
    cases vs with
    | nil => have := hv.1; simp at this
    | cons v vs =>
      have hx := hv.2 0 _ v rfl rfl
      have ht : VRs g w xs vs := ⟨by have := hv.1; simpa using this, fun i a u h1 h2 => hv.2 (i + 1) a u (by simpa using h1) (by simpa using h2)⟩
      rw [hx.lit_inv]
      obtain ⟨z, h1, h2⟩ := foldS_run (P := P) hop xs vs k a r ht h
      exact ⟨_, _, z, rfl, h1, h2⟩
  · cases h
theorem mapM_parts {P : Program} {fs : Array Field} : ∀ {parts : List (Nat × Operand)} {ps : List (Nat × Nat × X)},
    (parts.mapM fun p => (fs[p.1]?).bind fun f => (tsize P f.type).bind fun n => some (f.offset, n, cx p.2)) = some ps →
    ps.length = parts.length ∧ ∀ (j : Nat) (p : Nat × Operand) (q : Nat × Nat × X), parts[j]? = some p → ps[j]? = some q → ∃ f, fs[p.1]? = some f ∧ q.1 = f.offset ∧ tsize P f.type = some q.2.1 ∧ q.2.2 = cx p.2
  | [], ps, h => by simp at h; subst h; simp
  | p :: parts, ps, h => by
    rw [List.mapM_cons] at h
    obtain ⟨q, h1, h⟩ := bO.1 h
    obtain ⟨qs, h2, h⟩ := bO.1 h
    simp only [Option.pure_def, sI] at h; subst h
    obtain ⟨f, hf, h1⟩ := bO.1 h1
    obtain ⟨n, hn, h1⟩ := bO.1 h1
    simp only [sI] at h1; subst h1
    obtain ⟨g1, g2⟩ := mapM_parts h2
    refine ⟨by simp [g1], fun j p' q' hp hq => ?_⟩
    cases j with
    | zero => simp at hp hq; subst hp; subst hq; exact ⟨f, hf, rfl, hn, rfl⟩
    | succ j => simp at hp hq; exact g2 j p' q' hp hq
theorem run_places {fs : Array Field} (h : fs.all (fun f => (tsize P f.type).isSome) = true) :
    (fs.mapM fun f => do pure (f.offset, ← sizeOf f.type) : Sem (Array (Nat × Nat))).run P w = .ok (fs.map fun f => (f.offset, (tsize P f.type).getD 0)) w := by
  have : ∀ (l : List Field), (∀ f ∈ l, (tsize P f.type).isSome = true) → (l.mapM fun f => do pure (f.offset, ← sizeOf f.type) : Sem (List (Nat × Nat))).run P w = .ok (l.map fun f => (f.offset, (tsize P f.type).getD 0)) w := by
    intro l
    induction l with
    | nil => intro _; rfl
    | cons f l ih =>
      intro hl
      have hf := hl f (by simp)
      cases hs : tsize P f.type with
      | none => rw [hs] at hf; cases hf
      | some n =>
        rw [List.mapM_cons]
        simp only [Sem.run_bind, run_sizeOf' hs, Result.andThen_ok, Sem.run_pure, ih (fun f hf => hl f (List.mem_cons_of_mem _ hf))]
        simp [hs]
  rw [Array.mapM_eq_mapM_toList]
  simp only [Sem.run_map, this fs.toList (fun f hf => by
    have := Array.all_eq_true.1 h
    obtain ⟨i, hi, rfl⟩ := List.mem_iff_getElem.1 hf
    have h2 := this i (by simpa using hi)
    simpa using h2), Result.andThen_ok]
  congr 1
  apply Array.ext'
  simp
theorem fieldPlace_run {a : Addr} {fd : Field} {n : Nat} (hn : tsize P fd.type = some n) (h0 : ¬ n = 0) : (fieldPlace a fd).run P w = .ok (a.add fd.offset) w := by
  unfold fieldPlace
  simp [run_sizeOf' hn, h0]
end
end Go.Ai
namespace Go.Ai
section
variable {P : Program} {g : G} {w : World} {H : List AO} {id : Nat} {act : Act} {fr : Fr} {call : CallF} {mt : MtF} {md : FuncId → Md} {ow : List Nat}
theorem call_ok {o : Oper} {c : Call} {i : I} {out : Out} (ho : o.op = .call c) (CO : CallOk P call) (MT : MtOk P mt) (h : core call mt md H id i fr = some out) (hc : compCall P c = some i) (F : FRel g w fr act) (R : Rel g w H) (hid : id ≤ H.length) (hd : ¬ g.D id) :
    OpOk P o act g w H id out := by
  obtain ⟨callee, args, argTypes⟩ := c
  have hex : execOp act.eval o = (do let d ← resolve act.eval ⟨callee, args, argTypes⟩ o.type; invoke d.target d.args) := by unfold execOp; rw [ho]
  cases callee with
  | value f =>
    simp only [compCall, sI] at hc; subst hc
    simp only [core] at h
    have hf := ev_vr F f
    generalize ev fr (cx f) = x at h hf
    generalize hu : act.eval f = u at hf
    cases x with
    | fn fn first cap =>
      cases fn with
      | func q =>
        simp only at h
        obtain ⟨vs, us, rfl, l1, p1, l2, p2⟩ := hf.fn_inv
        have V : VRs g w (first ++ (args.toList.map cx).map (ev fr) ++ cap) (vs ++ args.map act.eval ++ us).toList := by
          rw [Array.toList_append, Array.toList_append]
          exact ((VRs.mk' l1 p1).append (evs_vr F args)).append (VRs.mk' l2 p2)
        refine OpOk.call (f := q) (vs := vs ++ args.map act.eval ++ us) ?_ (callV_ok CO h R hid hd V)
        rw [hex]
        simp [resolve, hu, Deferred.ofValue, invoke]
      | _ => cases h
    | _ => cases h
  | invoke r name =>
    simp only [compCall, sI] at hc; subst hc
    simp only [core] at h
    have hf := ev_vr F r
    generalize ev fr (cx r) = x at h hf
    generalize hu : act.eval r = u at hf
    cases x with
    | iface t x =>
      simp only at h
      obtain ⟨v, rfl, hv⟩ := hf.iface_inv
      obtain ⟨⟨q, d⟩, hm, h⟩ := bO.1 h
      have M := MT t name q d hm
      cases d with
      | none =>
        simp only at h M
        refine OpOk.call (f := q) (vs := #[v] ++ args.map act.eval) ?_ (callV_ok CO h R hid hd (by simpa using VRs.cons hv (evs_vr F args)))
        rw [hex]
        have e0 : (#[Value.iface t v] ++ args.map act.eval)[0]? = some (.iface t v) := by rw [Array.getElem?_append_left (by simp)]; rfl
        simp only [resolve, hu, invoke, Sem.run_bind, Sem.run_pure, Result.andThen_ok, e0, callMethod, run_program, M]
        congr 2
        apply Array.ext'
        simp
        rw [List.take_of_length_le (by simp)]
      | some n =>
        simp only at h M
        obtain ⟨elem, hn, M⟩ := M
        obtain ⟨y, hl, h⟩ := bO.1 h
        obtain ⟨z, hz1, hz2⟩ := load_run R hn hv hl
        have : ∃ a, v = .pointer (some a) := by
          unfold load at hl
          split at hl
          · exact ⟨_, hv.ptr_inv.1⟩
          · obtain ⟨ad, f, e, _⟩ := hv.ip_inv; exact ⟨ad, e⟩
          · cases hl
        obtain ⟨a, rfl⟩ := this
        have hz1' : (loadVar elem a).run P w = .ok z w := by simpa [Instr.loadAt, Instr.sureAddr] using hz1
        have M := M a z w hz1'
        refine OpOk.call (f := q) (vs := #[z] ++ args.map act.eval) ?_ (callV_ok CO h R hid hd (by simpa using VRs.cons hz2 (evs_vr F args)))
        rw [hex]
        have e0 : (#[Value.iface t (.pointer (some a))] ++ args.map act.eval)[0]? = some (.iface t (.pointer (some a))) := by rw [Array.getElem?_append_left (by simp)]; rfl
        simp only [resolve, hu, invoke, Sem.run_bind, Sem.run_pure, Result.andThen_ok, e0, callMethod, run_program, M]
        congr 2
        apply Array.ext'
        simp
        rw [List.take_of_length_le (by simp)]
    | _ => cases h
  | builtin b =>
    obtain ⟨cs, hb⟩ : ∃ cs, execOp act.eval o = builtin b argTypes o.type cs (args.map act.eval) := ⟨_, by rw [hex]; simp only [resolve, invoke, pure_bind]; rfl⟩
    cases b with
    | len =>
      simp only [compCall] at hc
      split at hc
      · rename_i t x hat hax
        have hat' : argTypes = #[t] := by apply Array.ext'; simpa using hat
        have hax' : args = #[x] := by apply Array.ext'; simpa using hax
        subst hat'; subst hax'
        have V := ev_vr F x
        split at hc
        · rename_i hu
          simp only [sI] at hc; subst hc
          simp only [core] at h
          obtain ⟨r, h1, h2⟩ := bO.1 h
          simp only [sI] at h2; subst h2
          refine OpOk.val (s := Builtin.len_ #[t] o.type #[act.eval x]) R (by rw [hb, show Array.map act.eval #[x] = #[act.eval x] by simp]; rfl) ?_
          unfold lenS at h1
          split at h1
          · rename_i s heq
            rw [heq] at V
            rw [V.lit_inv]
            simp only [sI] at h1; subst h1
            exact ⟨_, by simp [Builtin.len_, run_underlying hu]; rfl, .fv _ _ (.lit _)⟩
          · cases h1
        · rename_i e hu
          simp only [sI] at hc; subst hc
          simp only [core] at h
          obtain ⟨r, h1, h2⟩ := bO.1 h
          simp only [sI] at h2; subst h2
          refine OpOk.val (s := Builtin.len_ #[t] o.type #[act.eval x]) R (by rw [hb, show Array.map act.eval #[x] = #[act.eval x] by simp]; rfl) ?_
          unfold lenV at h1
          split at h1
          · rename_i s heq
            rw [heq] at V
            obtain ⟨a, c, f, hv, _⟩ := V.sl_inv
            rw [hv]
            simp only [sI] at h1; subst h1
            exact ⟨_, by simp [Builtin.len_, run_underlying hu]; rfl, .fv _ _ (.lit _)⟩
          · rename_i s heq
            rw [heq] at V
            obtain ⟨a, c, hv, _⟩ := V.own_inv
            rw [hv]
            simp only [sI] at h1; subst h1
            exact ⟨_, by simp [Builtin.len_, run_underlying hu]; rfl, .fv _ _ (.lit _)⟩
          · cases h1
        · cases hc
      · cases hc
    | append =>
      simp only [compCall] at hc
      split at hc
      · rename_i t u x y hat hax
        have hat' : argTypes = #[t, u] := by apply Array.ext'; simpa using hat
        have hax' : args = #[x, y] := by apply Array.ext'; simpa using hax
        subst hat'; subst hax'
        have go : ∀ et (ht : P.underlying t = some (.slice et)), (P.underlying u = some .string ∨ ∃ e2, P.underlying u = some (.slice e2)) →
            ((P.info? et).bind fun i => (zeros P et).bind fun _ => if 0 < i.size ∧ 0 < i.bytes then some (I.app i.size i.bytes et (cx x) (cx y)) else none) = some i → OpOk P o act g w H id out := by
          intro et ht hu hc
          obtain ⟨inf, hi, hc⟩ := bO.1 hc
          obtain ⟨z, hz, hc⟩ := bO.1 hc
          by_cases hp : 0 < inf.size ∧ 0 < inf.bytes
          · rw [if_pos hp] at hc
            simp only [sI] at hc; subst hc
            simp only [core] at h
            obtain ⟨r, w', h1, h2⟩ := append_ok (ty := o.type) R hid hd ht hu hi hz rfl rfl hp.1 hp.2 (ev_vr F x) (ev_vr F y) h
            refine OpOk.run (v := r) (w' := w') ?_ h2
            rw [hb, show Array.map act.eval #[x, y] = #[act.eval x, act.eval y] by simp]
            show (do pure (.value (← Builtin.append_ #[t, u] o.type #[act.eval x, act.eval y])) : Sem Next).run P w = _
            simp [h1]
          · rw [if_neg hp] at hc; cases hc
        split at hc
        · rename_i et ht hu; exact go et ht (.inl hu) hc
        · rename_i et ht e2 hu
          first
            | exact go et ht (.inr ⟨_, hu⟩) hc
            | exact go _ (by assumption) (.inr ⟨_, by assumption⟩) hc
        · rename_i et k ht hu
          obtain ⟨inf, hi, hc⟩ := bO.1 hc
          obtain ⟨z, hz, hc⟩ := bO.1 hc
          by_cases hp : 0 < inf.size ∧ 0 < inf.bytes
          · rw [if_pos hp] at hc
            simp only [sI] at hc; subst hc
            simp only [core] at h
            obtain ⟨r, w', h1, h2⟩ := apm_ok (ty := o.type) R hid hd ht hu hi hz hp.1 (ev_vr F x) (ev_vr F y) h
            refine OpOk.run (v := r) (w' := w') ?_ h2
            rw [hb, show Array.map act.eval #[x, y] = #[act.eval x, act.eval y] by simp]
            show (do pure (.value (← Builtin.append_ #[t, u] o.type #[act.eval x, act.eval y])) : Sem Next).run P w = _
            simp [h1]
          · rw [if_neg hp] at hc; cases hc
        · cases hc
      · cases hc
    | cap =>
      simp only [compCall] at hc
      split at hc
      · rename_i t x hat hax
        have hat' : argTypes = #[t] := by apply Array.ext'; simpa using hat
        have hax' : args = #[x] := by apply Array.ext'; simpa using hax
        subst hat'; subst hax'
        have V := ev_vr F x
        split at hc
        · rename_i e hu
          simp only [sI] at hc; subst hc
          simp only [core] at h
          obtain ⟨r, h1, h2⟩ := bO.1 h
          simp only [sI] at h2; subst h2
          refine OpOk.val (s := Builtin.cap_ #[t] o.type #[act.eval x]) R (by rw [hb, show Array.map act.eval #[x] = #[act.eval x] by simp]; rfl) ?_
          unfold capV at h1
          split at h1
          · rename_i heq
            rw [heq] at V
            obtain ⟨a, c, f, hv, _, hcap, _⟩ := V.sl_inv
            rw [hv, hcap _ rfl]
            simp only [sI] at h1; subst h1
            exact ⟨_, by simp [Builtin.cap_, run_underlying hu]; rfl, .fv _ _ (.lit _)⟩
          · rename_i heq
            rw [heq] at V
            obtain ⟨a, c, hv, _, _, hcap, _⟩ := V.own_inv
            rw [hv, hcap _ rfl]
            simp only [sI] at h1; subst h1
            exact ⟨_, by simp [Builtin.cap_, run_underlying hu]; rfl, .fv _ _ (.lit _)⟩
          · cases h1
        · cases hc
      · cases hc
    | clear =>
      simp only [compCall] at hc
      split at hc
      · rename_i t x hat hax
        have hat' : argTypes = #[t] := by apply Array.ext'; simpa using hat
        have hax' : args = #[x] := by apply Array.ext'; simpa using hax
        subst hat'; subst hax'
        split at hc
        · rename_i e hu
          obtain ⟨z, hz, hc⟩ := bO.1 hc
          simp only [sI] at hc; subst hc
          simp only [core] at h
          obtain ⟨H', h1, h2⟩ := bO.1 h
          simp only [sI] at h2; subst h2
          obtain ⟨w', r1, r2, r3⟩ := clr_ok (ty := o.type) R hu hz (ev_vr F x) h1
          refine OpOk.run (v := .tuple #[]) (w' := w') ?_ ⟨rfl, g, .fv _ _ (.tup _ _ rfl (by simp)), r2, r3⟩
          rw [hb, show Array.map act.eval #[x] = #[act.eval x] by simp]
          show (do pure (.value (← Builtin.clear_ #[t] o.type #[act.eval x])) : Sem Next).run P w = _
          simp [r1]
        · cases hc
      · cases hc
    | max =>
      simp only [compCall, sI] at hc; subst hc
      simp only [core] at h
      obtain ⟨r, h1, h2⟩ := bO.1 h
      simp only [sI] at h2; subst h2
      refine OpOk.val (s := Builtin.max_ argTypes o.type (args.map act.eval)) R (by rw [hb]; rfl) ?_
      obtain ⟨x, rest, z, e, e1, e2⟩ := foldI_run (P := P) (op := Builtin.max2) (f := fun a b => bif decide (b > a) then b else a) (fun k a k' b => by
        simp only [Builtin.max2]; by_cases hh : b > a <;> simp [hh]) (evs_vr F args) h1
      refine ⟨z, ?_, e2⟩
      unfold Builtin.max_
      rw [e]; exact e1
    | min =>
      simp only [compCall, sI] at hc; subst hc
      simp only [core] at h
      obtain ⟨r, h1, h2⟩ := bO.1 h
      simp only [sI] at h2; subst h2
      refine OpOk.val (s := Builtin.min_ argTypes o.type (args.map act.eval)) R (by rw [hb]; rfl) ?_
      obtain ⟨x, rest, z, e, e1, e2⟩ := foldI_run (P := P) (op := Builtin.min2) (f := fun a b => bif decide (b < a) then b else a) (fun k a k' b => by
        simp only [Builtin.min2]; by_cases hh : b < a <;> simp [hh]) (evs_vr F args) h1
      refine ⟨z, ?_, e2⟩
      unfold Builtin.min_
      rw [e]; exact e1
    | _ => simp [compCall] at hc
end
end Go.Ai
namespace Go.Ai
section
variable {P : Program} {g : G} {w : World} {H : List AO} {id : Nat} {act : Act} {fr : Fr} {call : CallF} {mt : MtF} {md : FuncId → Md} {ow : List Nat}
theorem equal_if {P : Program} {w : World} {xt : TypeId} {ms : Array (String × TypeId)} (hu : P.underlying xt = some (.interface ms)) {z : Value} {b : Bool} (hz : (z = .nilIface ∧ b = true) ∨ (∃ t v, z = .iface t v) ∧ b = false) : (Op.equal xt z .nilIface).run P w = .ok b w := by
  have e : Op.equal xt z .nilIface = Op.equalIn (9999 + 1) xt z .nilIface := rfl
  rw [e, Op.equalIn]
  rcases hz with ⟨rfl, rfl⟩ | ⟨⟨t, v, rfl⟩, rfl⟩
  · simp only [Sem.run_bind, run_underlying hu, Result.andThen_ok]; rfl
  · simp only [Sem.run_bind, run_underlying hu, Result.andThen_ok]; rfl
theorem isn_run {P : Program} {w : World} {xt : TypeId} {ms : Array (String × TypeId)} (hu : P.underlying xt = some (.interface ms)) (x : Operand) {z : Value} {b : Bool} (hz : (z = .nilIface ∧ b = true) ∨ (∃ t v, z = .iface t v) ∧ b = false) :
    (do eqGuard .eql xt x (.const .nilIface) z .nilIface; binOp .eql xt z .nilIface : Sem Value).run P w = .ok (.bool b) w ∧ (do eqGuard .neq xt x (.const .nilIface) z .nilIface; binOp .neq xt z .nilIface : Sem Value).run P w = .ok (.bool (!b)) w := by
  have g1 : eqGuard .eql xt x (.const .nilIface) z .nilIface = pure () ∧ eqGuard .neq xt x (.const .nilIface) z .nilIface = pure () := by
    rcases hz with ⟨rfl, _⟩ | ⟨⟨t, v, rfl⟩, _⟩
    · constructor
      · cases x <;> rfl
      · cases x <;> rfl
    · exact ⟨rfl, rfl⟩
  have b1 : binOp .eql xt z .nilIface = (do pure (.bool (← Op.equal xt z .nilIface))) ∧ binOp .neq xt z .nilIface = (do pure (.bool (!(← Op.equal xt z .nilIface)))) := by
    rcases hz with ⟨rfl, _⟩ | ⟨⟨t, v, rfl⟩, _⟩ <;> exact ⟨rfl, rfl⟩
  rw [g1.1, g1.2, b1.1, b1.2]
  have he := equal_if (w := w) hu hz
  constructor
  · simp only [Sem.run_bind, Sem.run_pure, Result.andThen_ok, he]
  · simp only [Sem.run_bind, Sem.run_pure, Result.andThen_ok, he]
theorem val_inv {α : Type} {x : Option α} {f : α → Out} {out : Out} (h : (x.bind fun v => some (f v)) = some out) : ∃ v, x = some v ∧ out = f v := by
  obtain ⟨v, h1, h2⟩ := bO.1 h
  exact ⟨v, h1, by simpa using h2.symm⟩
theorem typeAssert_same {asserted : TypeId} {d : TypeDesc} (hu : P.underlying asserted = some d) (hd : ∀ m, d = .interface m → False) (u : Value) (xt : TypeId) (ok : Bool) :
    (Instr.typeAssert (.iface asserted u) xt asserted ok).run P w = .ok (if ok then .tuple #[u, .bool true] else u) w := by
  unfold Instr.typeAssert
  simp only [Sem.run_bind, run_underlying hu, Result.andThen_ok]
  cases d with
  | interface m => exact (hd m rfl).elim
  | _ => simp
theorem typeAssert_other {asserted t : TypeId} {d : TypeDesc} {z : Value} (hu : P.underlying asserted = some d) (hd : ∀ m, d = .interface m → False) (hz : (zeroValue asserted).run P w = .ok z w) (u : Value) (xt : TypeId) (hne : t ≠ asserted) :
    (Instr.typeAssert (.iface t u) xt asserted true).run P w = .ok (.tuple #[z, .bool false]) w := by
  unfold Instr.typeAssert
  simp only [Sem.run_bind, run_underlying hu, Result.andThen_ok]
  cases d with
  | interface m => exact (hd m rfl).elim
  | _ => simp [hne, hz]
theorem typeAssert_nil {asserted : TypeId} {d : TypeDesc} {z : Value} (hu : P.underlying asserted = some d) (hd : ∀ m, d = .interface m → False) (hz : (zeroValue asserted).run P w = .ok z w) (xt : TypeId) :
    (Instr.typeAssert .nilIface xt asserted true).run P w = .ok (.tuple #[z, .bool false]) w := by
  unfold Instr.typeAssert
  simp only [Sem.run_bind, run_underlying hu, Result.andThen_ok]
  cases d with
  | interface m => exact (hd m rfl).elim
  | _ => simp [hz]
theorem core_ok {o : Oper} {i : I} {out : Out} (CO : CallOk P call) (MT : MtOk P mt) (h : core call mt md H id i fr = some out) (hc : compI P ow o = some i) (F : FRel g w fr act) (R : Rel g w H) (hid : id ≤ H.length) (hd : ¬ g.D id) :
    OpOk P o act g w H id out := by
  have E : ∀ x, VR g w (ev fr (cx x)) (act.eval x) := fun x => ev_vr F x
  obtain ⟨dst, op, type, pos, after, guard⟩ := o
  cases op with
  | move x =>
    simp only [compI, sI] at hc; subst hc
    simp only [core, sI] at h; subst h
    exact OpOk.value R rfl (E x)
  | assign x =>
    simp only [compI, sI] at hc; subst hc
    simp only [core, sI] at h; subst h
    exact OpOk.value R rfl (E x)
  | pick c a b =>
    simp only [compI, sI] at hc; subst hc
    simp only [core] at h
    obtain ⟨t, h1, rfl⟩ := val_inv h
    have hb := asBool_inv h1
    have hc := E c
    rw [hb] at hc
    refine OpOk.value R ?_ (pick_vr (c := t) (E a) (E b))
    simp [execOp, hc.lit_inv, Go.asBool]
  | alloc t =>
    simp only [compI] at hc
    obtain ⟨z, hz, hc⟩ := bO.1 hc
    simp only [sI] at hc; subst hc
    simp only [core, sI] at h; subst h
    obtain ⟨v, w', h1, h2⟩ := alloc_ok R hid hd hz
    exact OpOk.run (by simp [execOp, h1]) h2
  | box t x =>
    simp only [compI] at hc
    obtain ⟨n, hn, hc⟩ := bO.1 hc
    simp only [sI] at hc; subst hc
    simp only [core] at h
    by_cases hb : ((cellsOf (ev fr (cx x))).length == n && (cellsOf (ev fr (cx x))).all cellA) = true
    case neg => rw [Bool.eq_false_iff.mpr hb] at h; cases h
    rw [hb] at h
    simp only [cond_true, sI] at h; subst h
    rw [Bool.and_eq_true] at hb
    obtain ⟨v, w', h1, h2⟩ := box_ok (P := P) (t := t) R hid hd (E x) hb.2
    exact OpOk.run (by simp [execOp, h1]) h2
  | build t parts =>
    simp only [compI] at hc
    obtain ⟨z, hz, hc⟩ := bO.1 hc
    obtain ⟨inf, v, i1, i2, i3, i4, i5, i6⟩ := zeros_inv hz
    have hq : ∀ (j : Nat) (p : Nat × Operand) (q : Nat × Value), parts.toList[j]? = some p → (parts.map fun (i, x) => (i, act.eval x)).toList[j]? = some q → q = (p.1, act.eval p.2) := by
      intro j p q hp hq
      rw [Array.toList_map, List.getElem?_map, hp] at hq
      simpa using hq.symm
    have fin : ∀ (us : Array Value) (cs : List AV), VRs g w cs us.toList → (Instr.build t (parts.map fun (i, x) => (i, act.eval x))).run P w = .ok (.agg us) w → OpOk P ⟨dst, .build t parts, type, pos, after, guard⟩ act g w H id (.val (.agg cs) none) := by
      intro us cs hv hr
      exact OpOk.val (s := Instr.build t (parts.map fun (i, x) => (i, act.eval x))) R rfl ⟨_, hr, .agg _ _ (by rw [hv.1]; simp) (fun i a v h1 h2 => hv.2 i a v h1 (by simpa using h2))⟩
    split at hc
    · rename_i fs hu
      split at hc
      · rename_i hall
        obtain ⟨ps, hps, hc⟩ := bO.1 hc
        simp only [sI] at hc; subst hc
        simp only [core] at h
        obtain ⟨cs, h1, rfl⟩ := val_inv h
        obtain ⟨m1, m2⟩ := mapM_parts hps
        obtain ⟨us, u1, u2, u3⟩ := fill_run (g := g) (w := w) (fun i => (fs.map fun f => (f.offset, (tsize P f.type).getD 0))[i]?) _ ((parts.map fun (i, x) => (i, act.eval x)).toList) z v.cells cs (by simp [m1])
          (fun j p q hp hqq => by
            rw [List.getElem?_map] at hp
            cases hj : ps[j]? with
            | none => rw [hj] at hp; cases hp
            | some y =>
              rw [hj] at hp
              simp only [Option.map_some, sI] at hp; subst hp
              have hjl : j < parts.toList.length := by rw [← m1]; exact (List.getElem?_eq_some_iff.1 hj).1
              obtain ⟨f, f1, f2, f3, f4⟩ := m2 j parts.toList[j] y (List.getElem?_eq_getElem hjl) hj
              have hq' := hq j _ q (List.getElem?_eq_getElem hjl) hqq
              subst hq'
              refine ⟨?_, ?_⟩
              · simp only [Array.getElem?_map, f1, Option.map_some, f3, Option.getD_some, f2]
              · rw [f4]; exact E _) (i5 g w) i6 h1
        refine fin us cs u2 ?_
        simp only [Instr.build, Sem.run_bind, run_underlying hu, Result.andThen_ok, run_places hall, zeroValue, typeInfo, run_program, i1, Sem.run_pure, i2, u1]
      · cases hc
    · rename_i l e hu
      obtain ⟨n, hn, hc⟩ := bO.1 hc
      simp only [sI] at hc; subst hc
      simp only [core] at h
      obtain ⟨cs, h1, rfl⟩ := val_inv h
      obtain ⟨us, u1, u2, u3⟩ := fill_run (g := g) (w := w) (fun i => some (i * n, n)) _ ((parts.map fun (i, x) => (i, act.eval x)).toList) z v.cells cs (by simp)
        (fun j p q hp hqq => by
          rw [List.map_map, List.getElem?_map] at hp
          cases hj : parts.toList[j]? with
          | none => rw [hj] at hp; cases hp
          | some y =>
            rw [hj] at hp
            simp only [Option.map_some, sI, Function.comp_apply] at hp; subst hp
            have hq' := hq j _ q hj hqq
            subst hq'
            exact ⟨rfl, E _⟩) (i5 g w) i6 h1
      refine fin us cs u2 ?_
      simp only [Instr.build, Sem.run_bind, run_underlying hu, Result.andThen_ok, run_sizeOf' hn, zeroValue, typeInfo, run_program, i1, Sem.run_pure, i2, u1]
    · cases hc
  | buildSlice t len parts =>
    simp only [compI] at hc
    split at hc
    · rename_i et hu
      obtain ⟨n, hn, hc⟩ := bO.1 hc
      obtain ⟨z, hz, hc⟩ := bO.1 hc
      split at hc
      · rename_i hh
        simp only [sI] at hc; subst hc
        simp only [Bool.and_eq_true, decide_eq_true_eq] at hh
        simp only [core] at h
        obtain ⟨cs, h1, h⟩ := bO.1 h
        obtain ⟨r, w', r1, r2⟩ := bslice_ok R hid hd hu hn hz hh.1 hh.2 F h1 h
        refine OpOk.run (v := r) (w' := w') ?_ r2
        show (do pure (.value (← Instr.buildSlice t len (parts.map fun (i, x) => (i, act.eval x)))) : Sem Next).run P w = _
        simp only [Sem.run_bind, r1, Result.andThen_ok, Sem.run_pure]
      · cases hc
    · cases hc
  | load t a =>
    simp only [compI] at hc
    obtain ⟨n, hn, hc⟩ := bO.1 hc
    simp only [sI] at hc; subst hc
    simp only [core] at h
    obtain ⟨r, h1, rfl⟩ := val_inv h
    exact OpOk.val R rfl (load_run R hn (E a) h1)
  | store t a x =>
    simp only [compI] at hc
    obtain ⟨n, hn, hc⟩ := bO.1 hc
    simp only [sI] at hc; subst hc
    simp only [core] at h
    obtain ⟨H', h1, rfl⟩ := val_inv h
    obtain ⟨w', r1, r2, r3⟩ := store_ok R hn (E a) (E x) h1
    exact OpOk.skip (w' := w') (by simp [execOp, r1]) ⟨rfl, g, .fv _ _ (.any _), r2, r3⟩
  | nilCheck x =>
    simp only [compI, sI] at hc; subst hc
    simp only [core] at h
    obtain ⟨r, h1, rfl⟩ := val_inv h
    have V := E x
    unfold nilck at h1
    split at h1
    · rename_i q o heq
      rw [heq] at V
      simp only [sI] at h1; subst h1
      exact OpOk.value (v := act.eval x) R (by simp [execOp, V.ptr_inv.1]) V
    · rename_i xs heq
      rw [heq] at V
      simp only [sI] at h1; subst h1
      obtain ⟨ad, f, e, _⟩ := V.ip_inv
      exact OpOk.value (v := act.eval x) R (by simp [execOp, e]) V
    · cases h1
  | binOp op xt x y yt =>
    simp only [compI] at hc
    split at hc
    · simp only [sI] at hc; subst hc
      simp only [core] at h
      obtain ⟨r, h1, rfl⟩ := val_inv h
      exact OpOk.val R rfl (bin_ok xt (E x) (E y) h1 x y)
    · simp only [sI] at hc; subst hc
      simp only [core] at h
      obtain ⟨r, h1, rfl⟩ := val_inv h
      exact OpOk.val R rfl (bin_ok xt (E x) (E y) h1 x y)
    · rename_i hu
      simp only [sI] at hc; subst hc
      simp only [core] at h
      obtain ⟨r, h1, rfl⟩ := val_inv h
      exact OpOk.val R rfl (binb_ok hu (E x) (E y) h1 x y)
    · rename_i ms hu
      have V := E x
      split at hc
      · simp only [sI] at hc; subst hc
        simp only [core] at h
        obtain ⟨r, h1, rfl⟩ := val_inv h
        unfold isnV at h1
        split at h1
        · rename_i heq
          rw [heq] at V
          simp only [sI] at h1; subst h1
          refine OpOk.val R rfl ⟨_, ?_, .fv _ _ (.lit _)⟩
          rw [V.lit_inv]; exact (isn_run hu x (.inl ⟨rfl, rfl⟩)).1
        · rename_i heq
          rw [heq] at V
          simp only [sI] at h1; subst h1
          obtain ⟨z, e, _⟩ := V.iface_inv
          refine OpOk.val R rfl ⟨_, ?_, .fv _ _ (.lit _)⟩
          rw [e]; exact (isn_run hu x (.inr ⟨⟨_, _, rfl⟩, rfl⟩)).1
        · cases h1
      · simp only [sI] at hc; subst hc
        simp only [core] at h
        obtain ⟨r, h1, rfl⟩ := val_inv h
        unfold isnV at h1
        split at h1
        · rename_i heq
          rw [heq] at V
          simp only [sI] at h1; subst h1
          refine OpOk.val R rfl ⟨_, ?_, .fv _ _ (.lit _)⟩
          rw [V.lit_inv]; exact (isn_run hu x (.inl ⟨rfl, rfl⟩)).2
        · rename_i heq
          rw [heq] at V
          simp only [sI] at h1; subst h1
          obtain ⟨z, e, _⟩ := V.iface_inv
          refine OpOk.val R rfl ⟨_, ?_, .fv _ _ (.lit _)⟩
          rw [e]; exact (isn_run hu x (.inr ⟨⟨_, _, rfl⟩, rfl⟩)).2
        · cases h1
      · cases hc
    · cases hc
  | unOp op xt x =>
    simp only [compI, sI] at hc; subst hc
    simp only [core] at h
    obtain ⟨r, h1, rfl⟩ := val_inv h
    exact OpOk.val R rfl (un_ok (E x) h1)
  | convert src dstT x =>
    simp only [compI] at hc
    have V := E x
    have L : ∀ v, VR g w (.lit v) v := fun v => .fv _ _ (.lit v)
    split at hc
    · rename_i k' k hs hdt
      simp only [sI] at hc; subst hc
      simp only [core] at h
      split at h <;> first | (cases ‹CK.int k = _›; done) | skip
      · rename_i heq heq2
        cases heq
        rw [heq2] at V
        simp only [sI] at h; subst h
        exact OpOk.val R rfl ⟨_, by rw [V.lit_inv]; simp [convert, run_underlying hs, run_underlying hdt, Conv.intToInt], L _⟩
      · cases h
    · rename_i hs hdt
      simp only [sI] at hc; subst hc
      simp only [core] at h
      split at h <;> first | (cases ‹CK.same = _›; done) | skip
      · rename_i heq heq2
        rw [heq2] at V
        simp only [sI] at h; subst h
        exact OpOk.val R rfl ⟨_, by rw [V.lit_inv]; simp [convert, run_underlying hs, run_underlying hdt], L _⟩
      · cases h
    · rename_i e hs hdt
      split at hc
      · rename_i he
        simp only [sI] at hc; subst hc
        simp only [core] at h
        split at h <;> first | (cases ‹CK.toBytes = _›; done) | skip
        · rename_i s heq heq2
          rw [heq2] at V
          simp only [sI] at h; subst h
          obtain ⟨r, w', r1, r2⟩ := toBytes_ok (P := P) (et := e) (s := s) (id := id) R
          exact OpOk.run (w' := w') (v := r) (by simp only [execOp]; rw [V.lit_inv]; simp [convert, run_underlying hs, run_underlying hdt, run_underlying he, r1]) r2
        · cases h
      · cases hc
    · rename_i e hs hdt
      split at hc
      · rename_i he
        simp only [sI] at hc; subst hc
        simp only [core] at h
        split at h <;> first | (cases ‹CK.ofBytes = _›; done) | skip
        · rename_i e' xs cap heq heq2
          rw [heq2] at V
          obtain ⟨⟨m, cs⟩, g1, h⟩ := bO.1 h
          obtain ⟨l, g2, rfl⟩ := val_inv h
          have hsl : ∃ a n c, act.eval x = .slice a n c := by obtain ⟨a, c, f, e, _⟩ := V.sl_inv; exact ⟨a, _, c, e⟩
          have hr := ofBytes_run (P := P) R V hsl g1 g2
          obtain ⟨a, n, c, hv⟩ := hsl
          rw [hv] at hr
          exact OpOk.val R rfl ⟨_, by rw [hv]; simp [convert, run_underlying hs, run_underlying hdt, run_underlying he, hr], L _⟩
        · rename_i r off n e' cap heq heq2
          rw [heq2] at V
          obtain ⟨⟨m, cs⟩, g1, h⟩ := bO.1 h
          obtain ⟨l, g2, rfl⟩ := val_inv h
          have hsl : ∃ a n c, act.eval x = .slice a n c := by obtain ⟨a, c, e, _⟩ := V.own_inv; exact ⟨_, _, c, e⟩
          have hr := ofBytes_run (P := P) R V hsl g1 g2
          obtain ⟨a, n, c, hv⟩ := hsl
          rw [hv] at hr
          exact OpOk.val R rfl ⟨_, by rw [hv]; simp [convert, run_underlying hs, run_underlying hdt, run_underlying he, hr], L _⟩
        · cases h
      · cases hc
    · cases hc
  | fieldAddr s x f =>
    simp only [compI] at hc
    split at hc
    · rename_i fs hu
      obtain ⟨fd, hf, hc⟩ := bO.1 hc
      obtain ⟨n, hn, hc⟩ := bO.1 hc
      split at hc
      · cases hc
      · rename_i h0
        simp only [sI] at hc; subst hc
        simp only [core] at h
        obtain ⟨r, h1, rfl⟩ := val_inv h
        obtain ⟨a, e1, e2⟩ := fadr_vr (E x) h1
        refine OpOk.val R rfl ⟨_, ?_, e2⟩
        rw [e1]
        simp only [Instr.fieldAt, Sem.run_bind, run_underlying hu, Result.andThen_ok, hf, Instr.sureAddr, Sem.run_pure, fieldPlace_run hn h0]
    · cases hc
  | field s x f =>
    simp only [compI] at hc
    split at hc
    · rename_i fs hu
      obtain ⟨fd, hf, hc⟩ := bO.1 hc
      obtain ⟨n, hn, hc⟩ := bO.1 hc
      simp only [sI] at hc; subst hc
      simp only [core] at h
      have V := E x
      split at h
      · rename_i cs heq
        rw [heq] at V
        obtain ⟨r, h1, rfl⟩ := val_inv h
        obtain ⟨vs, hv, hl, hp⟩ := V.agg_inv
        obtain ⟨z, z1, z2⟩ := part_run hn (VRs.mk' hl hp) h1
        refine OpOk.val R rfl ⟨z, ?_, z2⟩
        rw [hv]
        simp only [Instr.field, Sem.run_bind, run_underlying hu, Result.andThen_ok, hf, asAgg, Sem.run_pure, z1]
      · cases h
    · cases hc
  | indexAddr t x ix =>
    simp only [compI] at hc
    split at hc
    · rename_i e hu
      obtain ⟨n, hn, hc⟩ := bO.1 hc
      simp only [sI] at hc; subst hc
      simp only [core] at h
      obtain ⟨r, h1, rfl⟩ := val_inv h
      obtain ⟨a, l, c, k, j, e1, e2, e3, e4⟩ := iadr_vr (E x) (E ix) h1
      refine OpOk.val R rfl ⟨_, ?_, e4⟩
      rw [e1, e2]
      have : (0 : Int) ≤ (j : Int) ∧ (j : Int) < (l : Int) := ⟨by omega, by omega⟩
      simp [Instr.indexAt, asIntOf, run_underlying hu, run_sizeOf' hn, e3]
    · rename_i l e hu
      obtain ⟨n, hn, hc⟩ := bO.1 hc
      simp only [sI] at hc; subst hc
      simp only [core] at h
      obtain ⟨j, h1, h⟩ := bO.1 h
      obtain ⟨r, h2, rfl⟩ := val_inv h
      obtain ⟨k, e1, e2⟩ := idx_inv (E ix) h1
      obtain ⟨a, e3, e4⟩ := fadr_vr (E x) h2
      refine OpOk.val R rfl ⟨_, ?_, e4⟩
      rw [e1, e3]
      simp [Instr.indexAt, Instr.sureAddr, asIntOf, run_underlying hu, run_sizeOf' hn, e2]
    · cases hc
  | index t x ix =>
    simp only [compI] at hc
    split at hc
    · rename_i hu
      simp only [sI] at hc; subst hc
      simp only [core] at h
      obtain ⟨r, h1, rfl⟩ := val_inv h
      have V := E x
      unfold idxS at h1
      split at h1
      · rename_i s heq
        rw [heq] at V
        obtain ⟨j, h2, h1⟩ := bO.1 h1
        obtain ⟨b, h3, h1⟩ := bO.1 h1
        simp only [sI] at h1; subst h1
        obtain ⟨k, e1, e2⟩ := idx_inv (E ix) h2
        refine OpOk.val R rfl ⟨.int .u8 b.toNat, ?_, .fv _ _ (.lit _)⟩
        rw [e1, V.lit_inv]
        have hb : s[j]? = some b := by
          have : j < s.size := e2
          rw [getElem?_pos s j this]
          rw [Array.getElem?_eq_getElem (show j < s.data.size from this)] at h3
          exact h3
        simp [Instr.index, asIntOf, run_underlying hu, hb]
      · cases h1
    · rename_i l e hu
      obtain ⟨n, hn, hc⟩ := bO.1 hc
      obtain ⟨m, hm, hc⟩ := bO.1 hc
      simp only [sI] at hc; subst hc
      simp only [core] at h
      have V := E x
      split at h
      · rename_i cs heq
        rw [heq] at V
        obtain ⟨j, h1, h⟩ := bO.1 h
        obtain ⟨r, h2, rfl⟩ := val_inv h
        obtain ⟨k, e1, e2⟩ := idx_inv (E ix) h1
        obtain ⟨vs, hv, hl, hp⟩ := V.agg_inv
        obtain ⟨z, z1, z2⟩ := part_run hm (VRs.mk' hl hp) h2
        refine OpOk.val R rfl ⟨z, ?_, z2⟩
        rw [e1, hv]
        simp [Instr.index, asIntOf, run_underlying hu, run_sizeOf' hn, e2, z1]
      · cases h
    · cases hc
  | slice t x lo hi mx =>
    simp only [compI] at hc
    split at hc
    · rename_i hu
      split at hc
      · simp only [sI] at hc; subst hc
        simp only [core] at h
        obtain ⟨r, h1, rfl⟩ := val_inv h
        exact OpOk.val (s := Instr.sliceAt t (act.eval x) (lo.map act.eval) (hi.map act.eval) none) R rfl (sliceS_run hu (E x) (opt_map_vr F lo) (opt_map_vr F hi) h1)
      · cases hc
    · rename_i e hu
      obtain ⟨n, hn, hc⟩ := bO.1 hc
      simp only [sI] at hc; subst hc
      simp only [core] at h
      obtain ⟨r, h1, rfl⟩ := val_inv h
      exact OpOk.val R rfl (slice_run hu hn (E x) (opt_map_vr F lo) (opt_map_vr F hi) (opt_map_vr F mx) h1)
    · rename_i l e hu
      split at hc
      · obtain ⟨n, hn, hc⟩ := bO.1 hc
        simp only [sI] at hc; subst hc
        simp only [core] at h
        obtain ⟨r, h1, rfl⟩ := val_inv h
        unfold slAV at h1
        have V := E x
        split at h1
        · rename_i q off heq
          rw [heq] at V
          obtain ⟨c, hc1, h1⟩ := bO.1 h1
          cases hb : Nat.ble (off + l * n) c.1.length with
          | false => rw [hb] at h1; cases h1
          | true =>
            rw [hb] at h1
            simp only [cond_true, sI] at h1; subst h1
            have hle := Nat.le_of_ble_eq_true hb
            obtain ⟨arr, _, o2, o3, _⟩ := R.obj q c.1 c.2 (rowAt_inv hc1)
            refine OpOk.val R rfl ⟨_, ?_, .own q off l n (some l) (off + g.δ q) l V.ptr_inv.2 (Nat.le_refl _) (by simp) (fun _ => rfl) (fun _ => by omega)⟩
            simp [Instr.sliceAt, Instr.sureAddr, V.ptr_inv.1, run_underlying hu, Instr.sliceBounds, run_sizeOf' hn]
            intro _; rfl
        · cases h1
      · cases hc
    · cases hc
  | extract t ix =>
    simp only [compI, sI] at hc; subst hc
    simp only [core] at h
    have V := E t
    split at h
    · rename_i xs heq
      rw [heq] at V
      obtain ⟨r, h1, rfl⟩ := val_inv h
      obtain ⟨vs, hv, hl, hp⟩ := V.tup_inv
      have hi : ix < vs.size := by rw [← hl]; exact (List.getElem?_eq_some_iff.1 h1).1
      refine OpOk.val R rfl ⟨vs[ix], ?_, hp ix r _ h1 (by simp [hi])⟩
      rw [hv]
      simp [Instr.extract, hi]
    · cases h
  | call c =>
    simp only [compI] at hc
    exact call_ok rfl CO MT h hc F R hid hd
  | makeSlice t l c =>
    simp only [compI] at hc
    split at hc
    · rename_i e hu
      obtain ⟨inf, hi, hc⟩ := bO.1 hc
      obtain ⟨z, hz, hc⟩ := bO.1 hc
      simp only [sI] at hc; subst hc
      simp only [core] at h
      have V1 := E l
      have V2 := E c
      split at h
      · rename_i a b heq1 heq2
        rw [heq1] at V1
        rw [heq2] at V2
        by_cases hh : (decide (0 ≤ a) && decide (a ≤ b) && decide (b * inf.bytes ≤ 140737488355328) && decide (b ≤ 140737488355328)) = true
        case neg => rw [Bool.eq_false_iff.mpr hh] at h; cases h
        rw [hh] at h
        simp only [cond_true, sI] at h; subst h
        obtain ⟨r, w', r1, r2⟩ := mks_ok R hid hd hu hi rfl rfl hz V1 V2 hh
        exact OpOk.run (by simp [execOp, r1]) r2
      · cases h
    · cases hc
  | makeInterface t x =>
    simp only [compI] at hc
    split at hc
    · cases hc
    · rename_i d hne hu
      simp only [sI] at hc; subst hc
      simp only [core, sI] at h; subst h
      refine OpOk.val R rfl ⟨_, ?_, .iface _ _ _ (E x)⟩
      exact run_makeInterface w t _ (by unfold Program.concrete; rw [hu]; cases d <;> first | rfl | (exact (hne _ rfl).elim))
    · cases hc
  | typeAssert x xt asserted ok =>
    simp only [compI] at hc
    split at hc
    · cases hc
    · rename_i d hd' hu
      obtain ⟨zv, hz, hc⟩ := bO.1 hc
      simp only [sI] at hc; subst hc
      have V := E x
      obtain ⟨inf, i2⟩ : ∃ inf v, P.info? asserted = some inf ∧ inf.zero = some v ∧ zv = ofV 4 v := by
        unfold zeroV at hz
        obtain ⟨inf, i1, hz⟩ := bO.1 hz
        obtain ⟨v, i2, hz⟩ := bO.1 hz
        simp only [sI] at hz
        exact ⟨inf, v, i1, i2, hz.symm⟩
      obtain ⟨zv0, ie, i3, rfl⟩ : ∃ zv0, P.info? asserted = some inf ∧ inf.zero = some zv0 ∧ zv = ofV 4 zv0 := by obtain ⟨a, b, c, d⟩ := i2; exact ⟨a, b, c, d⟩
      have hz0 : (zeroValue asserted).run P w = .ok zv0 w := by simp [zeroValue, typeInfo, ie, i3]
      have two : ∀ (a : AV) (u : Value) (b : Bool), VR g w a u → VR g w (.tup [a, litB b]) (.tuple #[u, .bool b]) := by
        intro a u b ha
        refine .tup _ _ rfl (fun i c v h1 h2 => ?_)
        cases i with
        | zero => simp at h1 h2; subst h1; subst h2; exact ha
        | succ i =>
          cases i with
          | zero => simp at h1 h2; subst h1; subst h2; exact .fv _ _ (.lit _)
          | succ i => simp at h1
      simp only [core] at h
      split at h
      · rename_i t' v heq
        rw [heq] at V
        obtain ⟨u, hv, hvr⟩ := V.iface_inv
        by_cases ht : asserted = t'
        · subst ht
          simp only [beq_self_eq_true, cond_true, sI] at h; subst h
          refine OpOk.val (s := Instr.typeAssert (act.eval x) xt asserted ok) R rfl ⟨if ok then .tuple #[u, .bool true] else u, ?_, ?_⟩
          · rw [hv]; exact typeAssert_same hu hd' u xt ok
          · cases ok
            · exact hvr
            · exact two _ _ _ hvr
        · rw [beq_of_ne ht] at h
          simp only [cond_false] at h
          cases ok with
          | false => cases h
          | true =>
            simp only [cond_true, sI] at h; subst h
            refine OpOk.val (s := Instr.typeAssert (act.eval x) xt asserted true) R rfl ⟨.tuple #[zv0, .bool false], ?_, two _ _ _ (.fv _ _ (ofV_fv _ _ 4 zv0))⟩
            rw [hv]; exact typeAssert_other hu hd' hz0 u xt (fun e => ht e.symm)
      · rename_i heq
        rw [heq] at V
        have hv := V.lit_inv
        cases ok with
        | false => cases h
        | true =>
          simp only [cond_true, sI] at h; subst h
          refine OpOk.val (s := Instr.typeAssert (act.eval x) xt asserted true) R rfl ⟨.tuple #[zv0, .bool false], ?_, two _ _ _ (.fv _ _ (ofV_fv _ _ 4 zv0))⟩
          rw [hv]; exact typeAssert_nil hu hd' hz0 xt
      · cases h
    · cases hc
  | makeFunc fn first cap =>
    simp only [compI, sI] at hc; subst hc
    simp only [core, sI] at h; subst h
    have V1 := evs_vr F first
    have V2 := evs_vr F cap
    refine OpOk.val R rfl ⟨_, rfl, .fn _ _ _ _ _ (by simp) (fun i a v h1 h2 => V1.2 i a v h1 (by simpa using h2)) (by simp) (fun i a v h1 h2 => V2.2 i a v h1 (by simpa using h2))⟩
  | panic x =>
    simp only [compI, sI] at hc; subst hc
    simp only [core] at h
    have V := E x
    split at h
    · rename_i t v heq
      rw [heq] at V
      simp only [sI] at h; subst h
      obtain ⟨u, hu, _⟩ := V.iface_inv
      exact OpOk.panics (v := act.eval x) (w' := w) (by simp [execOp, Instr.panic, hu]) ⟨rfl, g, V, R, Stp.refl⟩
    · cases h
  | makeMap t r =>
    simp only [compI] at hc
    have fin : i = .mkm → (Instr.makeMap t (r.map act.eval)).run P w = .ok (.map (some w.heap.size)) (w.alloc (.map #[] 0)) → OpOk P ⟨dst, .makeMap t r, type, pos, after, guard⟩ act g w H id out := by
      intro e hrun
      subst e
      simp only [core, sI] at h; subst h
      obtain ⟨q1, q2⟩ := Rel.newM R hid hd
      refine OpOk.run (v := .map (some w.heap.size)) (w' := w.alloc (.map #[] 0)) ?_ ⟨rfl, _, fun r h => h, ?_, q1, q2⟩
      · simp [execOp, hrun]
      · have := VR.mpv (g := g.new id w.heap.size 0) (w := w.alloc (.map #[] 0)) id (.inr rfl)
        simpa [G.new] using this
    cases r with
    | none =>
      simp only [sI] at hc
      exact fin hc.symm rfl
    | some x =>
      split at hc
      · cases ‹some x = none›
      · rename_i k n heq
        simp only [sI] at heq; subst heq
        split at hc
        · rename_i kt e hu
          simp only [sI] at hc
          refine fin hc.symm ?_
          simp [Instr.makeMap, run_underlying hu, Act.eval, asInt]
          rfl
        · cases hc
      · cases hc
  | lookup t m x ok =>
    simp only [compI] at hc
    split at hc
    · rename_i kt e hu
      obtain ⟨kk, hk, hc⟩ := bO.1 hc
      obtain ⟨z, hz, hc⟩ := bO.1 hc
      simp only [sI] at hc; subst hc
      simp only [core] at h
      obtain ⟨r, h1, rfl⟩ := val_inv h
      exact OpOk.val R rfl (lkp_run R hu hk hz (E m) (E x) h1)
    · cases hc
  | mapUpdate t m k x =>
    simp only [compI] at hc
    split at hc
    · rename_i kt e hu
      obtain ⟨kk, hk, hc⟩ := bO.1 hc
      simp only [sI] at hc; subst hc
      simp only [core] at h
      obtain ⟨H', h1, rfl⟩ := val_inv h
      obtain ⟨w', r1, r2, r3⟩ := mup_ok R hu hk (E m) (E k) (E x) h1
      exact OpOk.skip (w' := w') (by simp [execOp, r1]) ⟨rfl, g, .fv _ _ (.any _), r2, r3⟩
    · cases hc
  | insert t m k x =>
    simp only [compI] at hc
    split at hc
    · rename_i kt e hu
      obtain ⟨kk, hk, hc⟩ := bO.1 hc
      simp only [sI] at hc; subst hc
      simp only [core] at h
      obtain ⟨H', h1, rfl⟩ := val_inv h
      obtain ⟨w', r1, r2, r3⟩ := mup_ok R hu hk (E m) (E k) (E x) h1
      exact OpOk.skip (w' := w') (by simp [execOp, r1]) ⟨rfl, g, .fv _ _ (.any _), r2, r3⟩
    · cases hc
  | _ => simp [compI] at hc
end
end Go.Ai
namespace Go.Ai
structure Sit (nt : Nat) (ds : List Deferred) (g : G) (w : World) (H : List AO) (fr : Fr) (act : Act) : Prop where
  rel : Rel g w H
  fr : FRel g w fr act
  size : act.tmps.size = nt
  defers : act.defers = ds
def SPost (nt : Nat) (ds : List Deferred) (g : G) (w : World) (H : List AO) (Q : Exit → Act → World → Prop) : SR → Prop
  | .go fr' H' => ∀ g' w' act', Stp g w H g' w' H' → Sit nt ds g' w' H' fr' act' → Q .normal act' w'
  | .pan a fr' H' => ∀ g' w' act' v, Stp g w H g' w' H' → Sit nt ds g' w' H' fr' act' → VR g' w' a v → Q (.panic [{ v, recovered := false }]) act' w'
theorem SPost.step {nt : Nat} {ds : List Deferred} {g g1 : G} {w w1 : World} {H H1 : List AO} {Q : Exit → Act → World → Prop} {s : SR} (h : SPost nt ds g w H Q s) (st : Stp g w H g1 w1 H1) : SPost nt ds g1 w1 H1 Q s := by
  cases s with
  | go fr' H' => exact fun g' w' act' h1 h2 => h g' w' act' (st.trans h1) h2
  | pan a fr' H' => exact fun g' w' act' v h1 h2 h3 => h g' w' act' v (st.trans h1) h2 h3
section
variable {P : Program} {g : G} {w : World} {H : List AO} {act : Act} {fr : Fr} {call : CallF} {mt : MtF} {md : FuncId → Md} {ow : List Nat} {nt : Nat} {ds : List Deferred} {ops : Array Oper}
theorem compO_inv {o : Oper} {o' : O} (h : compO P ow nt ops o = some o') : compI P ow o = some o'.i ∧ o'.dst = o.dst ∧ (∀ d, o.dst = some d → d < nt) ∧
    ((o.guard = none ∧ o'.guard = none) ∨ ∃ j b d, o.guard = some (j, b) ∧ (ops[j]?).bind (·.dst) = some d ∧ o'.guard = some (d, b)) := by
  unfold compO at h
  obtain ⟨i, hi, h⟩ := bO.1 h
  by_cases hd : dstOk nt o.dst = true
  case neg => rw [if_neg hd] at h; cases h
  rw [if_pos hd] at h
  have hlt : ∀ d, o.dst = some d → d < nt := by
    intro d he
    rw [he] at hd
    simpa [dstOk, Nat.blt_eq] using hd
  cases hg : o.guard with
  | none =>
    rw [hg] at h
    simp only [sI] at h; subst h
    exact ⟨hi, rfl, hlt, .inl ⟨rfl, rfl⟩⟩
  | some p =>
    obtain ⟨j, b⟩ := p
    rw [hg] at h
    simp only at h
    obtain ⟨d, hd', h⟩ := bO.1 h
    simp only [sI] at h; subst h
    exact ⟨hi, rfl, hlt, .inr ⟨j, b, d, rfl, hd', rfl⟩⟩
theorem getD_some {a : Array Value} {d : Nat} {v : Value} (h : a.getD d undef = v) (hv : v ≠ undef) : a[d]? = some v := by
  rw [Array.getD_eq_getD_getElem?] at h
  cases he : a[d]? with
  | none => rw [he] at h; exact absurd h.symm hv
  | some x => rw [he] at h; simp at h; rw [h]
theorem wanted_ok {o : Oper} {o' : O} {b : Bool} (hc : compO P ow nt ops o = some o') (F : FRel g w fr act) (h : wanted o' fr = some b) : Region.wanted o (yielded ops act.tmps) = b := by
  obtain ⟨_, _, _, hg⟩ := compO_inv hc
  unfold wanted at h
  rcases hg with ⟨h1, h2⟩ | ⟨j, c, d, h1, h2, h3⟩
  · rw [h2] at h
    simp only [sI] at h; subst h
    simp [Region.wanted, h1]
  · rw [h3] at h
    simp only at h
    have V := F d
    simp only [Region.wanted, h1, yielded, h2, Option.bind_some]
    split at h
    · rename_i q heq
      rw [heq] at V
      have hv := V.lit_inv
      have := getD_some hv (by simp [undef])
      rw [this]
      simp only [sI] at h; subst h
      cases q <;> cases c <;> rfl
    · rename_i heq
      rw [heq] at V
      have hv := V.lit_inv
      simp only [sI] at h; subst h
      rw [Array.getD_eq_getD_getElem?] at hv
      cases he : act.tmps[d]? with
      | none => rfl
      | some x => rw [he] at hv; simp at hv; subst hv; rfl
    · cases h
theorem get_map_kill (H : List AO) (ids : List Nat) (t : Nat) : ∀ fr : Fr, get (fr.map fun p => (p.1, kill H ids p.2)) t = kill H ids (get fr t)
  | [] => rfl
  | (k, a) :: fr => by
    simp only [List.map_cons, get]
    cases k == t
    · simp only [cond_false]; exact get_map_kill H ids t fr
    · rfl
theorem compI_nd {o : Oper} {i : I} (h : compI P ow o = some i) : ∀ c, o.op ≠ .defer c := by
  intro c e
  unfold compI at h
  rw [e] at h
  cases h
theorem step_ok {o : Oper} {o' : O} {s : SR} (CO : CallOk P call) (MT : MtOk P mt) (hc : compO P ow nt ops o = some o') (S : Sit nt ds g w H fr act) (h : step call mt md o' fr H = some s) (next : Act → World → Prop) (Q : Exit → Act → World → Prop)
    (hn : ∀ fr' H', s = .go fr' H' → ∀ g' w' act', Stp g w H g' w' H' → Sit nt ds g' w' H' fr' act' → next act' w')
    (hp : ∀ a fr' H', s = .pan a fr' H' → ∀ g' w' v, Stp g w H g' w' H' → Sit nt ds g' w' H' fr' act → VR g' w' a v → Q (.panic [{ v, recovered := false }]) act w') : o.wp P act w next Q ∧ ∀ ro : Option Nat, o.wpIn (WF ro) 0 P act w next Q := by
  obtain ⟨hi, hdst, hlt, _⟩ := compO_inv hc
  have hD : ¬ g.D H.length := fun h => Nat.lt_irrefl _ (S.rel.dom _ h)
  have hlt' : ∀ t, o'.dst = some t → t < act.tmps.size := fun t ht => by rw [S.size]; exact hlt t (hdst ▸ ht)
  unfold step at h
  obtain ⟨out, hcore, h⟩ := bO.1 h
  have K := core_ok CO MT hcore hi S.fr S.rel (Nat.le_refl _) hD
  have put : ∀ {g' : G} {w' : World} {H' : List AO} {fr' : Fr} {x : AV} {v : Value}, Rel g' w' H' → FRel g' w' fr' act → VR g' w' x v → Sit nt ds g' w' H' (putD fr' o'.dst x) (act.put o.dst v) := by
    intro g' w' H' fr' x v R' F' hv
    refine ⟨R', ?_, by rw [put_size]; exact S.size, by rw [put_defers]; exact S.defers⟩
    rw [← hdst]; exact F'.put o'.dst x v hv hlt'
  suffices hh : o.wp P act w next Q ∧ ((∀ c, o.op ≠ .defer c) → ∀ ro : Option Nat, o.wpIn (WF ro) 0 P act w next Q) from ⟨hh.1, hh.2 (compI_nd hi)⟩
  refine K next Q (fun v w' ha => ?_) (fun v w' ha => ?_)
  · cases out with
    | val a ob =>
      cases ob with
      | none =>
        simp only [sI] at h; subst h
        obtain ⟨_, g', _, h1, h2, h3⟩ := ha
        exact hn _ _ rfl g' w' _ h3 (put h2 (S.fr.step h3) h1)
      | some b =>
        simp only [sI] at h; subst h
        obtain ⟨_, g', _, h1, h2, h3⟩ := ha
        rw [setO_len] at h2 h3
        exact hn _ _ rfl g' w' _ h3 (put h2 (S.fr.step h3) h1)
    | wr a H' =>
      simp only [sI] at h; subst h
      obtain ⟨_, g', h1, h2, h3⟩ := ha
      exact hn _ _ rfl g' w' _ h3 (put h2 (S.fr.step h3) h1)
    | fz a ids =>
      simp only [sI] at h; subst h
      obtain ⟨_, g', h1, h2, h3, h4⟩ := ha
      refine hn _ _ rfl g' w' _ h3 (put h2 (fun t => ?_) h1)
      rw [get_map_kill]; exact h4 _ _ (S.fr t)
    | pan a H' => obtain ⟨h, _⟩ := ha; cases h
  · cases out with
    | val a ob => cases ob <;> (obtain ⟨h, _⟩ := ha; cases h)
    | wr a H' => obtain ⟨h, _⟩ := ha; cases h
    | fz a ids => obtain ⟨h, _⟩ := ha; cases h
    | pan a H' =>
      simp only [sI] at h; subst h
      obtain ⟨_, g', h1, h2, h3⟩ := ha
      exact hp _ _ _ rfl g' w' v h3 ⟨h2, S.fr.step h3, S.size, S.defers⟩ h1
theorem run_ok {ro : Option Nat} (CO : CallOk P call) (MT : MtOk P mt) {Q : Exit → Act → World → Prop} : ∀ (l : List Oper) (l' : List O) (fr : Fr) (H : List AO) (s : SR) (g : G) (w : World) (act : Act),
    l.mapM (compO P ow nt ops) = some l' → Sit nt ds g w H fr act → run call mt md l' fr H = some s → SPost nt ds g w H Q s → wpListIn (WF ro) 0 P ops Q l act w
  | [], l', fr, H, s, g, w, act, hc, S, h, hq => by
    simp only [List.mapM_nil, Option.pure_def, sI] at hc; subst hc
    simp only [run, sI] at h; subst h
    exact wpListIn_nil (hq g w act Stp.refl S)
  | o :: l, l', fr, H, s, g, w, act, hc, S, h, hq => by
    rw [List.mapM_cons] at hc
    obtain ⟨o', h1, hc⟩ := bO.1 hc
    obtain ⟨l2, h2, hc⟩ := bO.1 hc
    simp only [Option.pure_def, sI] at hc; subst hc
    simp only [run] at h
    obtain ⟨b, hb, h⟩ := bO.1 h
    have hw := wanted_ok h1 S.fr hb
    unfold wpListIn
    cases b with
    | true =>
      rw [if_pos hw]
      obtain ⟨s1, hs, h⟩ := bO.1 h
      refine (step_ok CO MT h1 S hs _ Q (fun fr' H' e g' w' act' st S' => ?_) (fun a fr' H' e g' w' v st S' hv => ?_)).2 ro
      · subst e
        exact run_ok CO MT l l2 fr' H' s g' w' act' h2 S' h (hq.step st)
      · subst e
        simp only [sI] at h; subst h
        exact hq g' w' act v st S' hv
    | false =>
      rw [if_neg (by rw [hw]; decide)]
      obtain ⟨_, hdst, hlt, _⟩ := compO_inv h1
      refine ⟨fun _ _ => trivial, run_ok CO MT l l2 _ H s g w (act.put o.dst undef) h2 ⟨S.rel, ?_, by rw [put_size]; exact S.size, by rw [put_defers]; exact S.defers⟩ h hq⟩
      rw [← hdst]
      exact S.fr.put o'.dst _ _ (.fv _ _ (.lit _)) (fun t ht => by rw [S.size]; exact hlt t (hdst ▸ ht))
end
end Go.Ai
namespace Go.Ai
section
variable {P : Program} {H : List AO} {id : Nat} {fr fr' : Fr} {call : CallF} {mt : MtF} {md : FuncId → Md} {ow : List Nat}
theorem core_N {o : Oper} {i : I} {out : Out} (hN : isN P o.op = true) (hc : compI P ow o = some i) (h : core call mt md H id i fr = some out) : ∃ a, out = .val a none ∧ ∀ H' id', core call mt md H' id' i fr = some (.val a none) := by
  have bind : ∀ {x : Option AV} {out : Out}, (x.bind fun v => some (Out.val v none)) = some out → ∃ a, out = .val a none ∧ (x.bind fun v => some (Out.val v none)) = some (.val a none) := by
    intro x out h
    obtain ⟨v, h1, h2⟩ := bO.1 h
    simp only [sI] at h2
    exact ⟨v, h2.symm, by rw [h1]; rfl⟩
  have some' : ∀ {v : AV} {out : Out}, some (Out.val v none) = some out → ∃ a, out = .val a none ∧ some (Out.val v none) = some (.val a none) := by
    intro v out h
    simp only [sI] at h
    exact ⟨v, h.symm, rfl⟩
  have fin : ∀ {x : Option Out}, x = some out → (∀ H' id', core call mt md H' id' i fr = x) → (∃ a, out = .val a none ∧ x = some (.val a none)) → ∃ a, out = .val a none ∧ ∀ H' id', core call mt md H' id' i fr = some (.val a none) :=
    fun _ hx ⟨a, h1, h2⟩ => ⟨a, h1, fun H' id' => (hx H' id').trans h2⟩
  obtain ⟨dst, op, type, pos, after, guard⟩ := o
  cases op with
  | move x => simp only [compI, sI] at hc; subst hc; exact fin h (fun _ _ => rfl) (some' h)
  | assign x => simp only [compI, sI] at hc; subst hc; exact fin h (fun _ _ => rfl) (some' h)
  | pick c a b =>
    simp only [compI, sI] at hc; subst hc
    refine fin h (fun _ _ => rfl) ?_
    simp only [core] at h ⊢
    obtain ⟨v, h1, h2⟩ := bO.1 h
    simp only [sI] at h2
    exact ⟨_, h2.symm, by rw [h1]; rfl⟩
  | build t parts =>
    simp only [compI] at hc
    obtain ⟨z, hz, hc⟩ := bO.1 hc
    have key : ∀ ps, i = .build z ps → ∃ a, out = .val a none ∧ ∀ H' id', core call mt md H' id' i fr = some (.val a none) := by
      rintro ps rfl
      refine fin h (fun _ _ => rfl) ?_
      simp only [core] at h ⊢
      obtain ⟨v, h1, h2⟩ := bO.1 h
      simp only [sI] at h2
      exact ⟨_, h2.symm, by rw [h1]; rfl⟩
    split at hc
    · split at hc
      · obtain ⟨ps, _, hc⟩ := bO.1 hc
        simp only [sI] at hc; exact key _ hc.symm
      · cases hc
    · obtain ⟨ps, _, hc⟩ := bO.1 hc
      simp only [sI] at hc; exact key _ hc.symm
    · cases hc
  | nilCheck x => simp only [compI, sI] at hc; subst hc; exact fin h (fun _ _ => rfl) (bind h)
  | binOp op xt x y yt =>
    simp only [compI] at hc
    split at hc <;> first
      | (cases hc; done)
      | (simp only [sI] at hc; subst hc; exact fin h (fun _ _ => rfl) (bind h))
      | (split at hc <;> first
        | (cases hc; done)
        | (simp only [sI] at hc; subst hc; exact fin h (fun _ _ => rfl) (bind h)))
  | unOp op xt x => simp only [compI, sI] at hc; subst hc; exact fin h (fun _ _ => rfl) (bind h)
  | fieldAddr s x f =>
    simp only [compI] at hc
    split at hc
    · obtain ⟨fd, _, hc⟩ := bO.1 hc
      obtain ⟨n, _, hc⟩ := bO.1 hc
      split at hc
      · cases hc
      · simp only [sI] at hc; subst hc; exact fin h (fun _ _ => rfl) (bind h)
    · cases hc
  | field s x f =>
    simp only [compI] at hc
    split at hc
    · obtain ⟨fd, _, hc⟩ := bO.1 hc
      obtain ⟨n, _, hc⟩ := bO.1 hc
      simp only [sI] at hc; subst hc
      refine fin h (fun _ _ => rfl) ?_
      simp only [core] at h ⊢
      split at h
      · exact bind h
      · cases h
    · cases hc
  | indexAddr t x ix =>
    simp only [compI] at hc
    split at hc
    · obtain ⟨n, _, hc⟩ := bO.1 hc
      simp only [sI] at hc; subst hc; exact fin h (fun _ _ => rfl) (bind h)
    · obtain ⟨n, _, hc⟩ := bO.1 hc
      simp only [sI] at hc; subst hc
      refine fin h (fun _ _ => rfl) ?_
      simp only [core] at h ⊢
      obtain ⟨j, h1, h2⟩ := bO.1 h
      obtain ⟨a, e1, e2⟩ := bind h2
      exact ⟨a, e1, by rw [h1]; exact e2⟩
    · cases hc
  | index t x ix =>
    simp only [compI] at hc
    split at hc
    · simp only [sI] at hc; subst hc; exact fin h (fun _ _ => rfl) (bind h)
    · obtain ⟨n, _, hc⟩ := bO.1 hc
      obtain ⟨m, _, hc⟩ := bO.1 hc
      simp only [sI] at hc; subst hc
      refine fin h (fun _ _ => rfl) ?_
      simp only [core] at h ⊢
      split at h
      · obtain ⟨j, h1, h2⟩ := bO.1 h
        obtain ⟨a, e1, e2⟩ := bind h2
        exact ⟨a, e1, by rw [h1]; exact e2⟩
      · cases h
    · cases hc
  | slice t x lo hi mx =>
    simp only [compI] at hc
    split at hc
    · split at hc
      · simp only [sI] at hc; subst hc; exact fin h (fun _ _ => rfl) (bind h)
      · cases hc
    · obtain ⟨n, _, hc⟩ := bO.1 hc
      simp only [sI] at hc; subst hc; exact fin h (fun _ _ => rfl) (bind h)
    · rename_i l e hu
      simp [isN, hu] at hN
    · cases hc
  | extract t ix =>
    simp only [compI, sI] at hc; subst hc
    refine fin h (fun _ _ => rfl) ?_
    simp only [core] at h ⊢
    split at h
    · exact bind h
    · cases h
  | makeInterface t x =>
    simp only [compI] at hc
    split at hc <;> first
      | (cases hc; done)
      | (simp only [sI] at hc; subst hc; exact fin h (fun _ _ => rfl) (some' h))
  | typeAssert x xt asserted ok =>
    simp only [compI] at hc
    split at hc
    · cases hc
    · obtain ⟨z, _, hc⟩ := bO.1 hc
      simp only [sI] at hc; subst hc
      refine fin h (fun _ _ => rfl) ?_
      simp only [core] at h ⊢
      split at h
      · rename_i t' v _
        cases hb : (asserted == t') <;> rw [hb] at h <;> simp only [cond_true, cond_false] at h
        · cases ok
          · cases h
          · exact some' h
        · exact some' h
      · cases ok
        · cases h
        · exact some' h
      · cases h
    · cases hc
  | makeFunc fn first cap => simp only [compI, sI] at hc; subst hc; exact fin h (fun _ _ => rfl) (some' h)
  | call c =>
    obtain ⟨callee, args, argTypes⟩ := c
    cases callee with
    | value f => simp [isN] at hN
    | invoke r n => simp [isN] at hN
    | builtin b =>
      cases b <;> first
        | (simp [isN] at hN; done)
        | skip
      · simp only [compI, compCall] at hc
        split at hc
        · split at hc <;> first
            | (cases hc; done)
            | (simp only [sI] at hc; subst hc; exact fin h (fun _ _ => rfl) (bind h))
        · cases hc
      · simp only [compI, compCall, sI] at hc; subst hc; exact fin h (fun _ _ => rfl) (bind h)
      · simp only [compI, compCall, sI] at hc; subst hc; exact fin h (fun _ _ => rfl) (bind h)
  | _ => simp [isN] at hN
end
end Go.Ai
namespace Go.Ai
section
variable {P : Program} {H Y : List AO} {id : Nat} {fr fr' : Fr} {call : CallF} {mt : MtF} {md : FuncId → Md} {ow : List Nat}
theorem rowAt_ext {r : Nat} {p : List AV × TypeId} (h : rowAt H r = some p) : rowAt (H ++ Y) r = some p := by
  have h1 := rowAt_inv h
  have : (H ++ Y)[r]? = some (.row p.1 p.2) := by rw [List.getElem?_append_left (List.getElem?_eq_some_iff.1 h1).1]; exact h1
  unfold rowAt; rw [this]
theorem load_ext {n : Option Nat} {x a : AV} (h : load H n x = some a) : load (H ++ Y) n x = some a := by
  unfold load at h ⊢
  split at h
  · obtain ⟨p, h1, h2⟩ := bO.1 h
    rw [rowAt_ext h1]; exact h2
  · exact h
  · cases h
theorem mapL_ext {f f' : AV → Option (AV × List Nat)} (hf : ∀ a p, f a = some p → f' a = some p) : ∀ {xs : List AV} {p : List AV × List Nat}, mapL f xs = some p → mapL f' xs = some p
  | [], p, h => h
  | x :: xs, p, h => by
    simp only [mapL] at h ⊢
    obtain ⟨q, h1, h⟩ := bO.1 h
    obtain ⟨r, h2, h⟩ := bO.1 h
    rw [hf _ _ h1, mapL_ext hf h2]; exact h
theorem mapR_ext {f f' : AV → Option (AV × List Nat)} {e : Nat} (hf : ∀ a p, f a = some p → f' a = some p) : ∀ {n : Nat} {xs : List AV} {p : List (List AV) × List Nat}, mapR f e n xs = some p → mapR f' e n xs = some p
  | 0, xs, p, h => h
  | n + 1, xs, p, h => by
    simp only [mapR] at h ⊢
    obtain ⟨q, h1, h⟩ := bO.1 h
    obtain ⟨r, h2, h⟩ := bO.1 h
    rw [mapL_ext hf h1, mapR_ext hf h2]; exact h
theorem frz_ext : ∀ (k : Nat) (a : AV) (p : AV × List Nat), frz H k a = some p → frz (H ++ Y) k a = some p := by
  intro k
  induction k with
  | zero => intro a p h; simp [frz] at h
  | succ k ih =>
    intro a p h
    cases a with
    | agg xs => simp only [frz] at h ⊢; obtain ⟨q, h1, h⟩ := bO.1 h; rw [mapL_ext ih h1]; exact h
    | tup xs => simp only [frz] at h ⊢; obtain ⟨q, h1, h⟩ := bO.1 h; rw [mapL_ext ih h1]; exact h
    | iface t x => simp only [frz] at h ⊢; obtain ⟨q, h1, h⟩ := bO.1 h; rw [ih _ _ h1]; exact h
    | fn f x y =>
      simp only [frz] at h ⊢
      obtain ⟨q, h1, h⟩ := bO.1 h
      obtain ⟨r, h2, h⟩ := bO.1 h
      rw [mapL_ext ih h1, ]; simp only [Option.bind_some]; rw [mapL_ext ih h2]; exact h
    | ptr r off =>
      simp only [frz] at h ⊢
      cases hr : H[r]? with
      | none => rw [hr] at h; cases h
      | some o =>
        rw [List.getElem?_append_left (List.getElem?_eq_some_iff.1 hr).1, hr]
        rw [hr] at h
        cases o with
        | dead => cases h
        | mp kvs => cases h
        | row cs t =>
          simp only at h ⊢
          cases hb : Nat.ble off cs.length with
          | false => rw [hb] at h; cases h
          | true =>
            rw [hb] at h
            simp only [cond_true] at h ⊢
            obtain ⟨q, h1, h⟩ := bO.1 h
            rw [mapL_ext ih h1]; exact h
    | own r off n e cap =>
      simp only [frz] at h ⊢
      cases hr : H[r]? with
      | none => rw [hr] at h; cases h
      | some o =>
        rw [List.getElem?_append_left (List.getElem?_eq_some_iff.1 hr).1, hr]
        rw [hr] at h
        cases o with
        | dead => cases h
        | mp kvs => cases h
        | row cs t =>
          simp only at h ⊢
          cases hb : Nat.ble (off + n * e) cs.length with
          | false => rw [hb] at h; cases h
          | true =>
            rw [hb] at h
            simp only [cond_true] at h ⊢
            obtain ⟨q, h1, h⟩ := bO.1 h
            rw [mapR_ext ih h1]; exact h
    | _ => exact h
theorem elems_ext {e : Nat} {y : AV} {p : Nat × List AV} (h : elems H e y = some p) : elems (H ++ Y) e y = some p := by
  unfold elems at h ⊢
  split at h
  · exact h
  · rename_i r off n e' cap
    cases hb : (e == e') with
    | false => rw [hb] at h; cases h
    | true =>
      rw [hb] at h
      simp only [cond_true] at h ⊢
      obtain ⟨q, h1, h⟩ := bO.1 h
      rw [rowAt_ext h1]; exact h
  · exact h
  · cases h
theorem callV_ext {f : FuncId} {args : List AV} {a : AV} {o : Option AO} (h : callV call md f args H id = some (.val a o)) : callV call md f args (H ++ Y) id = some (.val a o) := by
  unfold callV at h ⊢
  cases hm : md f with
  | ref =>
    rw [hm] at h
    obtain ⟨q, _, h⟩ := bO.1 h
    cases hq : q.1 with
    | ret b =>
      rw [hq] at h
      simp only at h
      cases hb : (below H.length frzF b && (q.2.take H.length).all (belowO H.length)) <;> rw [hb] at h <;> cases h
    | pan b => rw [hq] at h; cases h
  | pure =>
    rw [hm] at h
    simp only at h ⊢
    obtain ⟨p, h1, h⟩ := bO.1 h
    rw [mapL_ext (frz_ext frzF) h1]
    simp only [Option.bind_some]
    obtain ⟨q, h2, h⟩ := bO.1 h
    rw [h2]
    simp only [Option.bind_some]
    cases hq : q.1 with
    | ret b =>
      rw [hq] at h
      exact h
    | pan b =>
      rw [hq] at h
      simp only at h
      obtain ⟨z, _, h⟩ := bO.1 h
      cases hb : (p.2.isEmpty || light q.2 b z.1) <;> rw [hb] at h <;> cases h
  | own =>
    rw [hm] at h
    simp only at h ⊢
    obtain ⟨p, h1, h⟩ := bO.1 h
    rw [mapL_ext (frz_ext frzF) h1]
    simp only [Option.bind_some]
    obtain ⟨q, h2, h⟩ := bO.1 h
    rw [h2]
    simp only [Option.bind_some]
    cases hq : q.1 with
    | ret b =>
      rw [hq] at h
      cases b <;> exact h
    | pan b =>
      rw [hq] at h
      simp only at h
      obtain ⟨z, _, h⟩ := bO.1 h
      cases hb : (p.2.isEmpty || light q.2 b z.1) <;> rw [hb] at h <;> cases h
theorem append_ext {e bytes : Nat} {t : TypeId} {x y a : AV} {o : Option AO} (h : append H id e bytes t x y = some (.val a o)) : append (H ++ Y) id e bytes t x y = some (.val a o) := by
  unfold append at h ⊢
  obtain ⟨v, h1, h2⟩ := bO.1 h
  rw [elems_ext h1]
  simp only [Option.bind_some]
  cases hz : (v.1 == 0) with
  | true => rw [hz] at h2; simp only [cond_true] at h2 ⊢; exact h2
  | false =>
    rw [hz] at h2
    simp only [cond_false] at h2 ⊢
    cases x with
    | sl e' xs cap =>
      cases cap with
      | none => cases h2
      | some c => exact h2
    | own r off n e' cap =>
      obtain ⟨q, _, h3⟩ := bO.1 h2
      generalize (e == e' && q.2 == t && Nat.ble (off + n * e) q.1.length && Nat.ble ((n + v.1) * bytes) 140737488355328) = cnd at h3
      cases cnd <;> cases h3
    | _ => cases h2
theorem core_ext_conv {c : CK} {x : X} {a : AV} {o : Option AO} (h : core call mt md H id (.conv c x) fr = some (.val a o)) : core call mt md (H ++ Y) id (.conv c x) fr = some (.val a o) := by
  simp only [core] at h ⊢
  split at h
  · exact h
  · exact h
  · exact h
  · obtain ⟨v, h1, h2⟩ := bO.1 h
    rw [elems_ext h1]; exact h2
  · obtain ⟨v, h1, h2⟩ := bO.1 h
    rw [elems_ext h1]; exact h2
  · cases h
theorem core_ext_bslice {own : Bool} {e n : Nat} {zero : List AV} {parts : List (Nat × X)} {t : TypeId} {a : AV} {o : Option AO} (h : core call mt md H id (.bslice own e n zero parts t) fr = some (.val a o)) : core call mt md (H ++ Y) id (.bslice own e n zero parts t) fr = some (.val a o) := by
  simp only [core] at h ⊢
  obtain ⟨v, h1, h2⟩ := bO.1 h
  rw [h1]
  simp only [Option.bind_some]
  have fe := frz_ext (H := H) (Y := Y) frzF
  generalize frz H frzF = f at h2 fe
  generalize frz (H ++ Y) frzF = f' at fe ⊢
  cases own with
  | true => rw [cond_true] at h2 ⊢; exact h2
  | false =>
    rw [cond_false] at h2 ⊢
    obtain ⟨p, h3, h4⟩ := bO.1 h2
    rw [mapL_ext fe h3]; exact h4
theorem core_ext_inv {recv : X} {name : String} {args : List X} {a : AV} {o : Option AO} (h : core call mt md H id (.inv recv name args) fr = some (.val a o)) : core call mt md (H ++ Y) id (.inv recv name args) fr = some (.val a o) := by
  simp only [core] at h ⊢
  split at h
  · obtain ⟨p, h1, h2⟩ := bO.1 h
    rw [h1]
    simp only [Option.bind_some]
    cases hp : p.2 with
    | none => rw [hp] at h2; exact callV_ext h2
    | some n =>
      rw [hp] at h2
      simp only at h2 ⊢
      obtain ⟨u, h3, h4⟩ := bO.1 h2
      rw [load_ext h3]; exact callV_ext h4
  · cases h
theorem mapAt_ext {m : AV} {kvs : List (Value × AV)} (h : mapAt H m = some kvs) : mapAt (H ++ Y) m = some kvs := by
  unfold mapAt at h ⊢
  split at h
  · split at h
    · rename_i r kvs' hr
      rw [List.getElem?_append_left (List.getElem?_eq_some_iff.1 hr).1, hr]
      exact h
    · cases h
  · exact h
  · cases h
theorem lkpV_ext {kk : KK} {ok : Bool} {z m x a : AV} (h : lkpV H kk ok z m x = some a) : lkpV (H ++ Y) kk ok z m x = some a := by
  unfold lkpV at h ⊢
  obtain ⟨kvs, h1, h2⟩ := bO.1 h
  rw [mapAt_ext h1]; exact h2
theorem slAV_ext {e n : Nat} {x a : AV} (h : slAV H e n x = some a) : slAV (H ++ Y) e n x = some a := by
  unfold slAV at h ⊢
  split at h
  · obtain ⟨c, h1, h2⟩ := bO.1 h
    simp only [rowAt_ext h1]; exact h2
  · cases h
theorem core_ext {i : I} {a : AV} {o : Option AO} (h : core call mt md H id i fr = some (.val a o)) : core call mt md (H ++ Y) id i fr = some (.val a o) := by
  have same : ∀ {i : I}, core call mt md H id i fr = some (.val a o) → core call mt md (H ++ Y) id i fr = core call mt md H id i fr → core call mt md (H ++ Y) id i fr = some (.val a o) := fun h e => e.trans h
  cases i with
  | load n x =>
    simp only [core] at h ⊢
    obtain ⟨v, h1, h2⟩ := bO.1 h
    rw [load_ext h1]; exact h2
  | slA e n x =>
    simp only [core] at h ⊢
    obtain ⟨v, h1, h2⟩ := bO.1 h
    rw [slAV_ext h1]; exact h2
  | store n x y =>
    simp only [core] at h
    obtain ⟨v, h1, h2⟩ := bO.1 h
    cases h2
  | clr e z x =>
    simp only [core] at h
    obtain ⟨v, h1, h2⟩ := bO.1 h
    cases h2
  | conv c x => exact core_ext_conv h
  | bslice own e n zero parts t => exact core_ext_bslice h
  | app e bytes t x y => exact append_ext h
  | call f args =>
    simp only [core] at h ⊢
    split at h
    · exact callV_ext h
    · cases h
  | inv recv name args => exact core_ext_inv h
  | lkp kk ok z m x =>
    simp only [core] at h ⊢
    obtain ⟨v, h1, h2⟩ := bO.1 h
    rw [lkpV_ext h1]; exact h2
  | mup kk m k x =>
    simp only [core] at h
    obtain ⟨v, h1, h2⟩ := bO.1 h
    cases h2
  | pan x =>
    simp only [core] at h
    split at h <;> cases h
  | bad => cases h
  | _ => exact same h rfl
theorem core_makes {i : I} {a : AV} {b : AO} (h : core call mt md H id i fr = some (.val a (some b))) : makes md i = true := by
  have nope : ∀ {x : Option AV}, (x.bind fun v => some (Out.val v none)) = some (.val a (some b)) → False := by
    intro x h
    obtain ⟨v, h1, h2⟩ := bO.1 h
    cases h2
  have callN : ∀ {f args}, callV call md f args H id = some (.val a (some b)) → md f = .own := by
    intro f args h
    unfold callV at h
    cases hm : md f with
    | own => rfl
    | ref =>
      rw [hm] at h
      obtain ⟨q, _, h⟩ := bO.1 h
      cases hq : q.1 with
      | ret b =>
        rw [hq] at h
        simp only at h
        cases hb : (below H.length frzF b && (q.2.take H.length).all (belowO H.length)) <;> rw [hb] at h <;> cases h
      | pan b => rw [hq] at h; cases h
    | pure =>
      rw [hm] at h
      simp only at h
      obtain ⟨p, h1, h⟩ := bO.1 h
      obtain ⟨q, h2, h⟩ := bO.1 h
      cases hq : q.1 with
      | ret b =>
        rw [hq] at h
        simp only at h
        obtain ⟨z, _, h⟩ := bO.1 h
        cases hb : (p.2.isEmpty || light q.2 b z.1) <;> rw [hb] at h <;> cases h
      | pan b =>
        rw [hq] at h
        simp only at h
        obtain ⟨z, _, h⟩ := bO.1 h
        cases hb : (p.2.isEmpty || light q.2 b z.1) <;> rw [hb] at h <;> cases h
  cases i with
  | alloc z t => rfl
  | box n x t => rfl
  | mks e by_ z t l c => rfl
  | app e by_ t x y => rfl
  | bslice own e n zero parts t =>
    cases own with
    | true => rfl
    | false =>
      simp only [core] at h
      obtain ⟨v, h1, h2⟩ := bO.1 h
      simp only [cond_false] at h2
      obtain ⟨p, h3, h4⟩ := bO.1 h2
      cases hb : p.2.isEmpty <;> rw [hb] at h4 <;> cases h4
  | mv x => cases h
  | pick c x y => simp only [core] at h; obtain ⟨v, _, h2⟩ := bO.1 h; cases h2
  | build z ps => simp only [core] at h; obtain ⟨v, _, h2⟩ := bO.1 h; cases h2
  | load n x => exact (nope h).elim
  | store n x y => simp only [core] at h; obtain ⟨v, _, h2⟩ := bO.1 h; cases h2
  | clr e z x => simp only [core] at h; obtain ⟨v, _, h2⟩ := bO.1 h; cases h2
  | nilck x => exact (nope h).elim
  | isn neg x => exact (nope h).elim
  | slA e n x => exact (nope h).elim
  | bin op x y => exact (nope h).elim
  | binb op x y => exact (nope h).elim
  | un op x => exact (nope h).elim
  | conv c x =>
    simp only [core] at h
    split at h
    · cases h
    · cases h
    · cases h
    · obtain ⟨v, h1, h2⟩ := bO.1 h
      obtain ⟨v, h1, h2⟩ := bO.1 h2
      cases h2
    · obtain ⟨v, h1, h2⟩ := bO.1 h
      obtain ⟨v, h1, h2⟩ := bO.1 h2
      cases h2
    · cases h
  | fadr off x => exact (nope h).elim
  | fld off n x =>
    simp only [core] at h
    split at h
    · exact (nope h).elim
    · cases h
  | iadr e x j => exact (nope h).elim
  | iadrA e n x j => simp only [core] at h; obtain ⟨v, h1, h2⟩ := bO.1 h; exact (nope h2).elim
  | idxS x j => exact (nope h).elim
  | idxA e l n x j =>
    simp only [core] at h
    split at h
    · obtain ⟨v, h1, h2⟩ := bO.1 h; exact (nope h2).elim
    · cases h
  | slS x lo hi => exact (nope h).elim
  | sli e x lo hi mx => exact (nope h).elim
  | ext x j =>
    simp only [core] at h
    split at h
    · exact (nope h).elim
    · cases h
  | len x => exact (nope h).elim
  | lenS x => exact (nope h).elim
  | maxi xs => exact (nope h).elim
  | mini xs => exact (nope h).elim
  | mki t x => cases h
  | tas t ok zero x =>
    simp only [core] at h
    split at h
    · rename_i t' v _
      cases hb : (t == t') <;> rw [hb] at h <;> simp only [cond_true, cond_false] at h
      · cases ok <;> cases h
      · cases h
    · cases ok <;> cases h
    · cases h
  | mkm => rfl
  | cap x => exact (nope h).elim
  | apm e b z t x n => rfl
  | lkp kk ok z m x => exact (nope h).elim
  | mup kk m k x => simp only [core] at h; obtain ⟨v, _, h2⟩ := bO.1 h; cases h2
  | mkf f x y => cases h
  | call f args =>
    simp only [core] at h
    split at h
    · rename_i g first cap heq
      have := callN h
      cases f with
      | s t => rfl
      | k x =>
        simp only [ev] at heq
        subst heq
        simp only [makes, this]
    · cases h
  | inv recv name args => rfl
  | pan x =>
    simp only [core] at h
    split at h
    · cases h
    · cases h
  | bad => cases h
theorem core_congr {o : Oper} {i : I} (hc : compI P ow o = some i) (hE : ∀ x, x ∈ o.op.operands → ev fr (cx x) = ev fr' (cx x)) : core call mt md H id i fr = core call mt md H id i fr' := by
  have E2 : ∀ (xs : Array Operand), (∀ x, x ∈ xs → ev fr (cx x) = ev fr' (cx x)) → (xs.toList.map cx).map (ev fr) = (xs.toList.map cx).map (ev fr') := by
    intro xs h
    rw [List.map_map, List.map_map]
    exact List.map_congr_left fun x hx => h x (by simpa using hx)
  have E3 : ∀ (lo : Option Operand), (∀ x, x ∈ lo.toArray → ev fr (cx x) = ev fr' (cx x)) → (lo.map cx).map (ev fr) = (lo.map cx).map (ev fr') := by
    intro lo h
    cases lo with
    | none => rfl
    | some x => simp [h x (by simp)]
  obtain ⟨dst, op, type, pos, after, guard⟩ := o
  cases op with
  | call c =>
    obtain ⟨callee, args, argTypes⟩ := c
    simp only [Op.operands, Call.operands] at hE
    cases callee with
    | value f =>
      simp only [compI, compCall, sI] at hc; subst hc
      simp only [core, hE f (by simp), E2 args (fun x hx => hE x (by simp [hx]))]
    | invoke r n =>
      simp only [compI, compCall, sI] at hc; subst hc
      simp only [core, hE r (by simp), E2 args (fun x hx => hE x (by simp [hx]))]
    | builtin b =>
      have hA : ∀ x, x ∈ args → ev fr (cx x) = ev fr' (cx x) := fun x hx => hE x (by simp [hx])
      cases b <;> first
        | (simp [compI, compCall] at hc; done)
        | skip
      · simp only [compI, compCall] at hc
        split at hc
        · rename_i t u x y hat hax
          have hx : x ∈ args := by rw [← Array.mem_toList_iff, hax]; simp
          have hy : y ∈ args := by rw [← Array.mem_toList_iff, hax]; simp
          split at hc <;> first
            | (cases hc; done)
            | (obtain ⟨inf, _, hc⟩ := bO.1 hc
               obtain ⟨z, _, hc⟩ := bO.1 hc
               split at hc
               · simp only [sI] at hc; subst hc
                 simp only [core, hA x hx, hA y hy]
               · cases hc)
        · cases hc
      · simp only [compI, compCall] at hc
        split at hc
        · rename_i t x hat hax
          have hx : x ∈ args := by rw [← Array.mem_toList_iff, hax]; simp
          split at hc <;> first
            | (cases hc; done)
            | (simp only [sI] at hc; subst hc; simp only [core, hA x hx])
        · cases hc
      · simp only [compI, compCall] at hc
        split at hc
        · rename_i t x hat hax
          have hx : x ∈ args := by rw [← Array.mem_toList_iff, hax]; simp
          split at hc
          · obtain ⟨z, _, hc⟩ := bO.1 hc
            simp only [sI] at hc; subst hc; simp only [core, hA x hx]
          · cases hc
        · cases hc
      · simp only [compI, compCall] at hc
        split at hc
        · rename_i t x hat hax
          have hx : x ∈ args := by rw [← Array.mem_toList_iff, hax]; simp
          split at hc <;> first
            | (cases hc; done)
            | (simp only [sI] at hc; subst hc; simp only [core, hA x hx])
        · cases hc
      · simp only [compI, compCall, sI] at hc; subst hc
        simp only [core, E2 args hA]
      · simp only [compI, compCall, sI] at hc; subst hc
        simp only [core, E2 args hA]
  | build t parts =>
    simp only [Op.operands] at hE
    have hP : ∀ p, p ∈ parts → ev fr (cx p.2) = ev fr' (cx p.2) := fun p hp => hE p.2 (by simpa using ⟨p.1, hp⟩)
    simp only [compI] at hc
    obtain ⟨z, hz, hc⟩ := bO.1 hc
    split at hc
    · split at hc
      · obtain ⟨ps, hps, hc⟩ := bO.1 hc
        simp only [sI] at hc; subst hc
        obtain ⟨m1, m2⟩ := mapM_parts hps
        have : (ps.map fun p => (p.1, p.2.1, ev fr p.2.2)) = ps.map fun p => (p.1, p.2.1, ev fr' p.2.2) := by
          refine List.map_congr_left fun q hq => ?_
          obtain ⟨j, hj, rfl⟩ := List.mem_iff_getElem.1 hq
          have hj2 : j < parts.toList.length := by rw [← m1]; exact hj
          obtain ⟨f, _, _, _, f4⟩ := m2 j parts.toList[j] ps[j] (List.getElem?_eq_getElem hj2) (List.getElem?_eq_getElem hj)
          rw [f4, hP _ (by rw [← Array.mem_toList_iff]; exact List.getElem_mem _)]
        simp only [core, this]
      · cases hc
    · obtain ⟨n, _, hc⟩ := bO.1 hc
      simp only [sI] at hc; subst hc
      have : ((parts.toList.map fun p => (p.1 * n, n, cx p.2)).map fun p => (p.1, p.2.1, ev fr p.2.2)) = (parts.toList.map fun p => (p.1 * n, n, cx p.2)).map fun p => (p.1, p.2.1, ev fr' p.2.2) := by
        rw [List.map_map, List.map_map]
        refine List.map_congr_left fun q hq => ?_
        simp only [Function.comp_apply, hP q (by simpa using hq)]
      simp only [core, this]
    · cases hc
  | buildSlice t len parts =>
    simp only [Op.operands] at hE
    have hP : ∀ p, p ∈ parts → ev fr (cx p.2) = ev fr' (cx p.2) := fun p hp => hE p.2 (by simpa using ⟨p.1, hp⟩)
    simp only [compI] at hc
    split at hc
    · obtain ⟨n, _, hc⟩ := bO.1 hc
      obtain ⟨z, _, hc⟩ := bO.1 hc
      split at hc
      · simp only [sI] at hc; subst hc
        have : ((parts.toList.map fun p => (p.1, cx p.2)).map fun p => (p.1 * n, n, ev fr p.2)) = (parts.toList.map fun p => (p.1, cx p.2)).map fun p => (p.1 * n, n, ev fr' p.2) := by
          rw [List.map_map, List.map_map]
          refine List.map_congr_left fun q hq => ?_
          simp only [Function.comp_apply, hP q (by simpa using hq)]
        simp only [core, this]
      · cases hc
    · cases hc
  | makeFunc fn first cap =>
    simp only [Op.operands] at hE
    simp only [compI, sI] at hc; subst hc
    simp only [core, E2 first (fun x hx => hE x (by simp [hx])), E2 cap (fun x hx => hE x (by simp [hx]))]
  | slice t x lo hi mx =>
    simp only [Op.operands] at hE
    simp only [compI] at hc
    split at hc
    · split at hc
      · simp only [sI] at hc; subst hc
        simp only [core, hE x (by simp), E3 lo (fun x hx => hE x (by simp only [Array.mem_append]; exact .inl (.inl (.inr hx)))), E3 hi (fun x hx => hE x (by simp only [Array.mem_append]; exact .inl (.inr hx)))]
      · cases hc
    · obtain ⟨n, _, hc⟩ := bO.1 hc
      simp only [sI] at hc; subst hc
      simp only [core, hE x (by simp), E3 lo (fun x hx => hE x (by simp only [Array.mem_append]; exact .inl (.inl (.inr hx)))), E3 hi (fun x hx => hE x (by simp only [Array.mem_append]; exact .inl (.inr hx))), E3 mx (fun x hx => hE x (by simp only [Array.mem_append]; exact .inr hx))]
    · split at hc
      · obtain ⟨n, _, hc⟩ := bO.1 hc
        simp only [sI] at hc; subst hc
        simp only [core, hE x (by simp)]
      · cases hc
    · cases hc
  | move x => simp only [compI, sI] at hc; subst hc; simp only [core, hE x (by simp [Op.operands])]
  | assign x => simp only [compI, sI] at hc; subst hc; simp only [core, hE x (by simp [Op.operands])]
  | pick c a b => simp only [compI, sI] at hc; subst hc; simp only [core, hE c (by simp [Op.operands]), hE a (by simp [Op.operands]), hE b (by simp [Op.operands])]
  | alloc t => simp only [compI] at hc; obtain ⟨z, _, hc⟩ := bO.1 hc; simp only [sI] at hc; subst hc; rfl
  | box t x => simp only [compI] at hc; obtain ⟨z, _, hc⟩ := bO.1 hc; simp only [sI] at hc; subst hc; simp only [core, hE x (by simp [Op.operands])]
  | load t a => simp only [compI] at hc; obtain ⟨z, _, hc⟩ := bO.1 hc; simp only [sI] at hc; subst hc; simp only [core, hE a (by simp [Op.operands])]
  | store t a x => simp only [compI] at hc; obtain ⟨z, _, hc⟩ := bO.1 hc; simp only [sI] at hc; subst hc; simp only [core, hE a (by simp [Op.operands]), hE x (by simp [Op.operands])]
  | nilCheck x => simp only [compI, sI] at hc; subst hc; simp only [core, hE x (by simp [Op.operands])]
  | binOp op xt x y yt =>
    simp only [compI] at hc
    split at hc <;> first
      | (cases hc; done)
      | (simp only [sI] at hc; subst hc; simp only [core, hE x (by simp [Op.operands]), hE y (by simp [Op.operands])]; done)
      | (split at hc <;> first
        | (cases hc; done)
        | (simp only [sI] at hc; subst hc; simp only [core, hE x (by simp [Op.operands])]))
  | unOp op xt x => simp only [compI, sI] at hc; subst hc; simp only [core, hE x (by simp [Op.operands])]
  | convert src dstT x =>
    have hx := hE x (by simp [Op.operands])
    simp only [compI] at hc
    split at hc <;> first
      | (cases hc; done)
      | (simp only [sI] at hc; subst hc; simp only [core, hx]; done)
      | (split at hc <;> first
          | (cases hc; done)
          | (simp only [sI] at hc; subst hc; simp only [core, hx]; done))
  | fieldAddr s x f =>
    simp only [compI] at hc
    split at hc
    · obtain ⟨fd, _, hc⟩ := bO.1 hc
      obtain ⟨n, _, hc⟩ := bO.1 hc
      split at hc
      · cases hc
      · simp only [sI] at hc; subst hc; simp only [core, hE x (by simp [Op.operands])]
    · cases hc
  | field s x f =>
    simp only [compI] at hc
    split at hc
    · obtain ⟨fd, _, hc⟩ := bO.1 hc
      obtain ⟨n, _, hc⟩ := bO.1 hc
      simp only [sI] at hc; subst hc; simp only [core, hE x (by simp [Op.operands])]
    · cases hc
  | indexAddr t x ix =>
    simp only [compI] at hc
    split at hc <;> first
      | (cases hc; done)
      | (obtain ⟨n, _, hc⟩ := bO.1 hc
         simp only [sI] at hc; subst hc; simp only [core, hE x (by simp [Op.operands]), hE ix (by simp [Op.operands])])
  | index t x ix =>
    simp only [compI] at hc
    split at hc
    · simp only [sI] at hc; subst hc; simp only [core, hE x (by simp [Op.operands]), hE ix (by simp [Op.operands])]
    · obtain ⟨n, _, hc⟩ := bO.1 hc
      obtain ⟨m, _, hc⟩ := bO.1 hc
      simp only [sI] at hc; subst hc; simp only [core, hE x (by simp [Op.operands]), hE ix (by simp [Op.operands])]
    · cases hc
  | extract t ix => simp only [compI, sI] at hc; subst hc; simp only [core, hE t (by simp [Op.operands])]
  | makeSlice t l c =>
    simp only [compI] at hc
    split at hc
    · obtain ⟨inf, _, hc⟩ := bO.1 hc
      obtain ⟨z, _, hc⟩ := bO.1 hc
      simp only [sI] at hc; subst hc; simp only [core, hE l (by simp [Op.operands]), hE c (by simp [Op.operands])]
    · cases hc
  | makeInterface t x =>
    simp only [compI] at hc
    split at hc <;> first
      | (cases hc; done)
      | (simp only [sI] at hc; subst hc; simp only [core, hE x (by simp [Op.operands])])
  | typeAssert x xt asserted ok =>
    simp only [compI] at hc
    split at hc
    · cases hc
    · obtain ⟨z, _, hc⟩ := bO.1 hc
      simp only [sI] at hc; subst hc; simp only [core, hE x (by simp [Op.operands])]
    · cases hc
  | panic x => simp only [compI, sI] at hc; subst hc; simp only [core, hE x (by simp [Op.operands])]
  | makeMap t r =>
    simp only [compI] at hc
    split at hc
    · simp only [sI] at hc; subst hc; rfl
    · split at hc
      · simp only [sI] at hc; subst hc; rfl
      · cases hc
    · cases hc
  | lookup t m x ok =>
    simp only [compI] at hc
    split at hc
    · obtain ⟨kk, _, hc⟩ := bO.1 hc
      obtain ⟨z, _, hc⟩ := bO.1 hc
      simp only [sI] at hc; subst hc; simp only [core, hE m (by simp [Op.operands]), hE x (by simp [Op.operands])]
    · cases hc
  | mapUpdate t m k x =>
    simp only [compI] at hc
    split at hc
    · obtain ⟨kk, _, hc⟩ := bO.1 hc
      simp only [sI] at hc; subst hc; simp only [core, hE m (by simp [Op.operands]), hE k (by simp [Op.operands]), hE x (by simp [Op.operands])]
    · cases hc
  | insert t m k x =>
    simp only [compI] at hc
    split at hc
    · obtain ⟨kk, _, hc⟩ := bO.1 hc
      simp only [sI] at hc; subst hc; simp only [core, hE m (by simp [Op.operands]), hE k (by simp [Op.operands]), hE x (by simp [Op.operands])]
    · cases hc
  | _ => simp [compI] at hc
end
end Go.Ai
namespace Go.Ai
theorem get_filter (p : Nat → Bool) (t : Nat) : ∀ fr : Fr, get (fr.filter fun q => p q.1) t = if p t = true then get fr t else .any
  | [] => by simp [get]
  | (k, a) :: fr => by
    have ih := get_filter p t fr
    by_cases hk : p k = true
    · rw [List.filter_cons_of_pos (by simpa using hk)]
      simp only [get]
      by_cases e : k = t
      · subst e; simp [hk]
      · rw [beq_of_ne e]; simp only [cond_false]; exact ih
    · rw [List.filter_cons_of_neg (by simpa using hk)]
      simp only [get]
      by_cases e : k = t
      · subst e; rw [ih]; simp [hk]
      · rw [beq_of_ne e]; simp only [cond_false]; exact ih
theorem get_keep_mem {l : List Nat} {fr : Fr} {t : Nat} (h : t ∈ l) : get (keep l fr) t = get fr t := by
  have := get_filter (fun k => l.contains k) t fr
  rw [if_pos (by simpa using h)] at this
  exact this
theorem get_keep_not {l : List Nat} {fr : Fr} {t : Nat} (h : ¬ t ∈ l) : get (keep l fr) t = .any := by
  have := get_filter (fun k => l.contains k) t fr
  rw [if_neg (by simpa using h)] at this
  exact this
theorem sameZ_eq {a b : AV} (h : sameZ a b = true) : a = b := by
  unfold sameZ at h
  split at h
  · rw [beq_iff_eq] at h; rw [h]
  · rw [Bool.and_eq_true, beq_iff_eq, decide_eq_true_eq] at h; rw [h.1, h.2]
  · rw [beq_iff_eq] at h; rw [h]
  · cases h
theorem get_dropD (os : List O) (fr0 fr : Fr) (t : Nat) : get (dropD (os, fr0) fr) t = .any ∨ (get (dropD (os, fr0) fr) t = get fr t ∧ ((∀ o ∈ os, o.dst ≠ some t) ∨ get fr0 t = get fr t)) := by
  have := get_filter (fun k => !(os.any fun o => o.dst == some k) || sameZ (get fr0 k) (get fr k)) t fr
  by_cases h : (!(os.any fun o => o.dst == some t) || sameZ (get fr0 t) (get fr t)) = true
  · rw [if_pos h] at this
    right
    refine ⟨this, ?_⟩
    rw [Bool.or_eq_true] at h
    rcases h with h | h
    · left
      intro o ho e
      simp only [Bool.not_eq_true', List.any_eq_false] at h
      exact h o ho (by simp [e])
    · exact .inr (sameZ_eq h)
  · rw [if_neg h] at this
    exact .inl this
def AncOk (acc : List (List Nat)) (l : List Oper) : Prop :=
  acc.length = l.length ∧ ∀ i o p, l[i]? = some o → p ∈ acc.getD i [] → ∃ q ∈ preds o, p = q ∨ p ∈ acc.getD q []
theorem mem_anc_fold (acc : List (List Nat)) (p : Nat) : ∀ (ps l0 : List Nat), p ∈ ps.foldl (fun l p => p :: (acc.getD p []) ++ l) l0 → p ∈ l0 ∨ ∃ q ∈ ps, p = q ∨ p ∈ acc.getD q []
  | [], l0, h => .inl h
  | q :: ps, l0, h => by
    rw [List.foldl_cons] at h
    rcases mem_anc_fold acc p ps _ h with h | ⟨q', h1, h2⟩
    · rcases List.mem_append.1 h with h | h
      · rcases List.mem_cons.1 h with h | h
        · exact .inr ⟨q, List.mem_cons_self .., .inl h⟩
        · exact .inr ⟨q, List.mem_cons_self .., .inr h⟩
      · exact .inl h
    · exact .inr ⟨q', List.mem_cons_of_mem _ h1, h2⟩
theorem AncOk.snoc {acc : List (List Nat)} {l : List Oper} (h : AncOk acc l) (o : Oper) : AncOk (acc ++ [(preds o).foldl (fun l p => p :: (acc.getD p []) ++ l) []]) (l ++ [o]) := by
  obtain ⟨h1, h2⟩ := h
  have up : ∀ (x : List Nat) (q p : Nat), p ∈ acc.getD q [] → p ∈ (acc ++ [x]).getD q [] := by
    intro x q p hp
    rw [List.getD_eq_getElem?_getD] at hp ⊢
    cases he : acc[q]? with
    | none => rw [he] at hp; simp at hp
    | some y => rw [List.getElem?_append_left (List.getElem?_eq_some_iff.1 he).1, he]; rw [he] at hp; exact hp
  refine ⟨by simp [h1], fun i o' p hi hp => ?_⟩
  by_cases hlt : i < l.length
  · rw [List.getElem?_append_left hlt] at hi
    rw [List.getD_eq_getElem?_getD, List.getElem?_append_left (by omega), ← List.getD_eq_getElem?_getD] at hp
    obtain ⟨q, a, b⟩ := h2 i o' p hi hp
    exact ⟨q, a, b.imp_right (up _ _ _)⟩
  · have hlen := (List.getElem?_eq_some_iff.1 hi).1
    have hi' : i = l.length := by simp at hlen; omega
    subst hi'
    rw [List.getElem?_append_right (Nat.le_refl _)] at hi
    simp at hi; subst hi
    rw [List.getD_eq_getElem?_getD, List.getElem?_append_right (by omega), h1] at hp
    simp only [Nat.sub_self, List.getElem?_cons_zero, Option.getD_some] at hp
    rcases mem_anc_fold acc p _ _ hp with h | ⟨q, a, b⟩
    · cases h
    · exact ⟨q, a, b.imp_right (up _ _ _)⟩
theorem anc_ok (l : List Oper) : AncOk (anc l) l := by
  have key : ∀ (l done : List Oper) (acc : List (List Nat)), AncOk acc done →
      AncOk (l.foldl (fun acc o => acc ++ [(preds o).foldl (fun l p => p :: (acc.getD p []) ++ l) []]) acc) (done ++ l) := by
    intro l
    induction l with
    | nil => intro done acc h; simpa using h
    | cons o l ih =>
      intro done acc h
      rw [List.foldl_cons]
      have := ih (done ++ [o]) _ (h.snoc o)
      simpa using this
  exact key l [] [] ⟨rfl, by simp⟩
theorem anc_in {l : List Oper} {L : Nat → Prop} (hp : ∀ i o, l[i]? = some o → ∀ q ∈ preds o, q < i) (hL : ∀ j o, L j → l[j]? = some o → ∀ q ∈ preds o, L q) :
    ∀ (i : Nat) (o : Oper), l[i]? = some o → (∀ q ∈ preds o, L q) → ∀ p ∈ (anc l).getD i [], L p := by
  intro i
  induction i using Nat.strongRecOn with
  | _ i ih =>
    intro o hi hq p hm
    obtain ⟨q, h1, h2⟩ := (anc_ok l).2 i o p hi hm
    rcases h2 with rfl | h2
    · exact hq _ h1
    · have hlt := hp i o hi q h1
      have hlen : q < l.length := Nat.lt_trans hlt (List.getElem?_eq_some_iff.1 hi).1
      exact ih q hlt l[q] (List.getElem?_eq_getElem hlen) (hL q _ (hq q h1) (List.getElem?_eq_getElem hlen)) p h2
theorem Rel.pad {g : G} {w : World} {H : List AO} (R : Rel g w H) (k : Nat) : Rel g w (H ++ List.replicate k .dead) := by
  have at_ : ∀ (r : Nat) (cs : List AV) (t : TypeId), (H ++ List.replicate k AO.dead)[r]? = some (.row cs t) → H[r]? = some (.row cs t) := by
    intro r cs t h
    by_cases hr : r < H.length
    · rwa [List.getElem?_append_left hr] at h
    · rw [List.getElem?_append_right (by omega)] at h
      rw [List.getElem?_replicate] at h
      split at h <;> cases h
  have atm : ∀ (r : Nat) (kvs : List (Value × AV)), (H ++ List.replicate k AO.dead)[r]? = some (.mp kvs) → H[r]? = some (.mp kvs) := by
    intro r kvs h
    by_cases hr : r < H.length
    · rwa [List.getElem?_append_left hr] at h
    · rw [List.getElem?_append_right (by omega)] at h
      rw [List.getElem?_replicate] at h
      split at h <;> cases h
  have lv : ∀ r, Live (H ++ List.replicate k AO.dead) r → Live H r := fun r h => by
    rcases h.or with ⟨cs, t, h⟩ | ⟨kvs, h⟩
    · exact .of (at_ r cs t h)
    · exact .ofm (atm r kvs h)
  exact ⟨R.lt, fun r cs t h => R.obj r cs t (at_ r cs t h), fun r kvs h => R.mob r kvs (atm r kvs h), fun r r' h h' => R.inj r r' (lv r h) (lv r' h'), fun r h => by have := R.dom r h; simp; omega, fun r h => R.lv r (lv r h)⟩
theorem Rel.strip {g : G} {w : World} {H Y : List AO} (R : Rel g w (H ++ Y)) (hD : ∀ r, g.D r → r < H.length) : Rel g w H := by
  have at_ : ∀ (r : Nat) (cs : List AV) (t : TypeId), H[r]? = some (.row cs t) → (H ++ Y)[r]? = some (.row cs t) := by
    intro r cs t h
    rw [List.getElem?_append_left (List.getElem?_eq_some_iff.1 h).1]; exact h
  have atm : ∀ (r : Nat) (kvs : List (Value × AV)), H[r]? = some (.mp kvs) → (H ++ Y)[r]? = some (.mp kvs) := by
    intro r kvs h
    rw [List.getElem?_append_left (List.getElem?_eq_some_iff.1 h).1]; exact h
  have lv : ∀ r, Live H r → Live (H ++ Y) r := fun r h => by
    rcases h.or with ⟨cs, t, h⟩ | ⟨kvs, h⟩
    · exact .of (at_ r cs t h)
    · exact .ofm (atm r kvs h)
  exact ⟨R.lt, fun r cs t h => R.obj r cs t (at_ r cs t h), fun r kvs h => R.mob r kvs (atm r kvs h), fun r r' h h' => R.inj r r' (lv r h) (lv r' h'), hD, fun r h => R.lv r (lv r h)⟩
theorem Stp.alike {g g' : G} {w w' : World} {H H' H'' : List AO} (s : Stp g w H g' w' H') (h : ∀ r, Live H'' r → Live H' r) : Stp g w H g' w' H'' :=
  ⟨s.os, s.tape, s.output, s.size, s.S, s.D, s.ρ, s.σ, s.δ, s.keep, s.frz, fun r hr => s.live r (h r hr), s.fro⟩
section
variable {P : Program} {call : CallF} {mt : MtF} {md : FuncId → Md}
def HeadAt (call : CallF) (mt : MtF) (md : FuncId → Md) (H : List AO) (id : Nat) (o : O) (fr fr' : Fr) (a : AV) (ob : AO) : Prop :=
  fr' = putD fr o.dst a ∧ ((wanted o fr = some true ∧ ∃ x, core call mt md H id o.i fr = some (.val a x) ∧ ob = x.getD .dead) ∨ (wanted o fr = some false ∧ a = .lit undef ∧ ob = .dead))
theorem runD_trace {H : List AO} {base : Nat} : ∀ (l : List O) (n : Nat) (fr fr' : Fr) (obs : List AO), runD call mt md H base n l fr = some (fr', obs) →
    obs.length = l.length ∧ ∃ F : Nat → Fr, ∃ a : Nat → AV, F 0 = fr ∧ F l.length = fr' ∧ ∀ i o ob, l[i]? = some o → obs[i]? = some ob → HeadAt call mt md H (base + (n + i)) o (F i) (F (i + 1)) (a i) ob
  | [], n, fr, fr', obs, h => by
    simp only [runD, sI, Prod.mk.injEq] at h
    obtain ⟨rfl, rfl⟩ := h
    exact ⟨rfl, fun _ => fr, fun _ => .any, rfl, rfl, by simp⟩
  | o :: l, n, fr, fr', obs, h => by
    have glue : ∀ (a0 : AV) (ob0 : AO) (fr1 : Fr) (obs1 : List AO), HeadAt call mt md H (base + n) o fr fr1 a0 ob0 → runD call mt md H base (n + 1) l fr1 = some (fr', obs1) → obs = ob0 :: obs1 →
        obs.length = (o :: l).length ∧ ∃ F : Nat → Fr, ∃ a : Nat → AV, F 0 = fr ∧ F (o :: l).length = fr' ∧ ∀ i o' ob, (o :: l)[i]? = some o' → obs[i]? = some ob → HeadAt call mt md H (base + (n + i)) o' (F i) (F (i + 1)) (a i) ob := by
      intro a0 ob0 fr1 obs1 h0 h1 e
      subst e
      obtain ⟨e1, F, a, f0, f1, f2⟩ := runD_trace l (n + 1) fr1 fr' obs1 h1
      refine ⟨by simp [e1], fun i => match i with | 0 => fr | i + 1 => F i, fun i => match i with | 0 => a0 | i + 1 => a i, rfl, by simpa using f1, fun i o' ob hi ho => ?_⟩
      cases i with
      | zero =>
        simp only [List.getElem?_cons_zero, sI] at hi ho
        subst hi; subst ho
        simp only [f0]; exact h0
      | succ i =>
        simp only [List.getElem?_cons_succ] at hi ho
        have := f2 i o' ob hi ho
        rw [show n + 1 + i = n + (i + 1) by omega] at this
        exact this
    simp only [runD] at h
    obtain ⟨b, hb, h⟩ := bO.1 h
    cases b with
    | true =>
      simp only at h
      obtain ⟨out, hc, h⟩ := bO.1 h
      cases out with
      | val a x =>
        cases x with
        | none =>
          obtain ⟨p, hp, h⟩ := bO.1 h
          simp only [sI, Prod.mk.injEq] at h
          obtain ⟨rfl, rfl⟩ := h
          exact glue a .dead _ p.2 ⟨rfl, .inl ⟨hb, none, hc, rfl⟩⟩ hp rfl
        | some b =>
          obtain ⟨p, hp, h⟩ := bO.1 h
          simp only [sI, Prod.mk.injEq] at h
          obtain ⟨rfl, rfl⟩ := h
          exact glue a b _ p.2 ⟨rfl, .inl ⟨hb, some b, hc, rfl⟩⟩ hp rfl
      | _ => cases h
    | false =>
      simp only at h
      obtain ⟨p, hp, h⟩ := bO.1 h
      simp only [sI, Prod.mk.injEq] at h
      obtain ⟨rfl, rfl⟩ := h
      exact glue (.lit undef) .dead _ p.2 ⟨rfl, .inr ⟨hb, rfl, rfl⟩⟩ hp rfl
def Goes (H : List AO) : Out → AV → List AO → Prop
  | .val a none, a', H' => a' = a ∧ H' = H
  | .val a (some b), a', H' => a' = a ∧ H' = H ++ [b]
  | .wr a H1, a', H' => a' = a ∧ H' = H1
  | .fz a ids, a', H' => a' = a ∧ H' = killH H ids 0 H
  | .pan _ _, _, _ => False
def TailAt (call : CallF) (mt : MtF) (md : FuncId → Md) (o : O) (fr : Fr) (H : List AO) (fr' : Fr) (H' : List AO) (a : AV) : Prop :=
  fr' = putD fr o.dst a ∧ ((wanted o fr = some true ∧ ∃ out, core call mt md H H.length o.i fr = some out ∧ Goes H out a H') ∨ (wanted o fr = some false ∧ a = .lit undef ∧ H' = H))
def LateOk (call : CallF) (mt : MtF) (md : FuncId → Md) (fr : Fr) (H : List AO) (late : List O) : Prop :=
  ∀ o ∈ late, wanted o fr = some false ∨ (wanted o fr = some true ∧ core call mt md H H.length o.i fr = some (.val (getO fr o.dst) none))
theorem lS_some {α : Type} {x : Option Out} {a : AV} {k : Option α} {s : α} (h : lS x a k = some s) : x = some (.val a none) ∧ k = some s := by
  unfold lS at h
  split at h
  · exact ⟨by assumption, h⟩
  · cases h
theorem lateS_some {α : Type} {fr : Fr} {H : List AO} {k : Option α} {s : α} : ∀ {late : List O}, lateS call mt md fr H late k = some s → LateOk call mt md fr H late ∧ k = some s
  | [], h => ⟨fun o ho => (List.not_mem_nil ho).elim, h⟩
  | o :: r, h => by
    simp only [lateS] at h
    obtain ⟨b, hb, h⟩ := bO.1 h
    cases b with
    | false =>
      obtain ⟨h1, h2⟩ := lateS_some h
      refine ⟨fun o' ho => ?_, h2⟩
      rcases List.mem_cons.1 ho with rfl | ho
      · exact .inl hb
      · exact h1 o' ho
    | true =>
      obtain ⟨h0, h⟩ := lS_some h
      obtain ⟨h1, h2⟩ := lateS_some h
      refine ⟨fun o' ho => ?_, h2⟩
      rcases List.mem_cons.1 ho with rfl | ho
      · exact .inr ⟨hb, h0⟩
      · exact h1 o' ho
theorem core_isR {ow : List Nat} {H : List AO} {id : Nat} {fr : Fr} {o : Oper} {i : I} {out : Out} (hR : isR o.op = true) (hc : compI P ow o = some i) (h : core call mt md H id i fr = some out) : ∃ a, out = .val a none := by
  obtain ⟨dst, op, type, pos, after, guard⟩ := o
  cases op with
  | load t a =>
    simp only [compI] at hc
    obtain ⟨n, _, hc⟩ := bO.1 hc
    simp only [sI] at hc; subst hc
    simp only [core] at h
    obtain ⟨v, _, h⟩ := bO.1 h
    simp only [sI] at h
    exact ⟨v, h.symm⟩
  | lookup t m x ok =>
    simp only [compI] at hc
    split at hc
    · obtain ⟨kk, _, hc⟩ := bO.1 hc
      obtain ⟨z, _, hc⟩ := bO.1 hc
      simp only [sI] at hc; subst hc
      simp only [core] at h
      obtain ⟨v, _, h⟩ := bO.1 h
      simp only [sI] at h
      exact ⟨v, h.symm⟩
    · cases hc
  | _ => simp [isR] at hR
theorem core_isR_id {ow : List Nat} {H : List AO} {id id' : Nat} {fr : Fr} {o : Oper} {i : I} {out : Option Out} (hR : isR o.op = true) (hc : compI P ow o = some i) (h : core call mt md H id i fr = out) : core call mt md H id' i fr = out := by
  obtain ⟨dst, op, type, pos, after, guard⟩ := o
  cases op with
  | load t a =>
    simp only [compI] at hc
    obtain ⟨n, _, hc⟩ := bO.1 hc
    simp only [sI] at hc; subst hc
    exact h
  | lookup t m x ok =>
    simp only [compI] at hc
    split at hc
    · obtain ⟨kk, _, hc⟩ := bO.1 hc
      obtain ⟨z, _, hc⟩ := bO.1 hc
      simp only [sI] at hc; subst hc
      exact h
    · cases hc
  | _ => simp [isR] at hR
def EarlyAt (call : CallF) (mt : MtF) (md : FuncId → Md) (early : List Nat) (o : O) (fr : Fr) (H H' : List AO) : Prop :=
  ∀ d, o.dst = some d → early.contains d = true → wanted o fr = some true → core call mt md H' H'.length o.i fr = core call mt md H H.length o.i fr
theorem eaS_some {α : Type} {i : I} {fr : Fr} {x : Option Out} {k : Option α} {s : α} : ∀ {Hs : List (List AO)}, eaS call mt md i fr x Hs k = some s → (∀ H ∈ Hs, core call mt md H H.length i fr = x) ∧ k = some s
  | [], h => ⟨fun H hH => (List.not_mem_nil hH).elim, h⟩
  | H :: r, h => by
    simp only [eaS] at h
    split at h
    · rename_i h0
      obtain ⟨h1, h2⟩ := eaS_some h
      refine ⟨fun H' hH => ?_, h2⟩
      rcases List.mem_cons.1 hH with rfl | hH
      · exact h0
      · exact h1 H' hH
    · cases h
theorem seen_mem {early : List Nat} {d : Nat} {Hs : List (List AO)} (h : early.contains d = true) : seen early (some d) Hs = Hs := by simp only [seen, h, cond_true]
theorem runT_trace {early : List Nat} : ∀ (late : List (List O)) (Hs : List (List AO)) (l : List O) (fr : Fr) (H : List AO) (s : SR), runT call mt md late early Hs l fr H = some s →
    ∃ F : Nat → Fr, ∃ HH : Nat → List AO, ∃ a : Nat → AV, ∃ m, F 0 = fr ∧ HH 0 = H ∧ (∀ i o, i < m → l[i]? = some o → TailAt call mt md o (F i) (HH i) (F (i + 1)) (HH (i + 1)) (a i)) ∧ (∀ i, i ≤ m → LateOk call mt md (F i) (HH i) (late.getD i [])) ∧
      (∀ i o, i < m → l[i]? = some o → (∀ H' ∈ Hs, EarlyAt call mt md early o (F i) (HH i) H') ∧ ∀ q, q < i → EarlyAt call mt md early o (F i) (HH i) (HH q)) ∧
      ((m = l.length ∧ s = .go (F m) (HH m)) ∨ (m < l.length ∧ ∃ o b H', l[m]? = some o ∧ (m + 1 = l.length ∨ pm early o.dst = true) ∧ s = .pan b (F m) H' ∧ wanted o (F m) = some true ∧ core call mt md (HH m) (HH m).length o.i (F m) = some (.pan b H')))
  | late, Hs, [], fr, H, s, h => by
    simp only [runT] at h
    obtain ⟨hL, h⟩ := lateS_some h
    simp only [sI] at h; subst h
    have hL : LateOk call mt md fr H (late.getD 0 []) := by cases late <;> exact hL
    exact ⟨fun _ => fr, fun _ => H, fun _ => .any, 0, rfl, rfl, by simp, fun i hi => (Nat.le_zero.1 hi) ▸ hL, by simp, .inl ⟨rfl, rfl⟩⟩
  | late, Hs, o :: l, fr, H, s, h => by
    simp only [runT] at h
    obtain ⟨hL, h⟩ := lateS_some h
    have hL : LateOk call mt md fr H (late.getD 0 []) := by cases late <;> exact hL
    have glue : ∀ (a0 : AV) (fr1 : Fr) (H1 : List AO), TailAt call mt md o fr H fr1 H1 a0 → (∀ H' ∈ Hs, EarlyAt call mt md early o fr H H') → runT call mt md late.tail early (H :: Hs) l fr1 H1 = some s →
        ∃ F : Nat → Fr, ∃ HH : Nat → List AO, ∃ a : Nat → AV, ∃ m, F 0 = fr ∧ HH 0 = H ∧ (∀ i o', i < m → (o :: l)[i]? = some o' → TailAt call mt md o' (F i) (HH i) (F (i + 1)) (HH (i + 1)) (a i)) ∧ (∀ i, i ≤ m → LateOk call mt md (F i) (HH i) (late.getD i [])) ∧
      (∀ i o', i < m → (o :: l)[i]? = some o' → (∀ H' ∈ Hs, EarlyAt call mt md early o' (F i) (HH i) H') ∧ ∀ q, q < i → EarlyAt call mt md early o' (F i) (HH i) (HH q)) ∧
      ((m = (o :: l).length ∧ s = .go (F m) (HH m)) ∨ (m < (o :: l).length ∧ ∃ o' b H', (o :: l)[m]? = some o' ∧ (m + 1 = (o :: l).length ∨ pm early o'.dst = true) ∧ s = .pan b (F m) H' ∧ wanted o' (F m) = some true ∧ core call mt md (HH m) (HH m).length o'.i (F m) = some (.pan b H'))) := by
      intro a0 fr1 H1 h0 hE h1
      obtain ⟨F, HH, a, m, f0, f1, f2, fL, fE, f3⟩ := runT_trace late.tail (H :: Hs) l fr1 H1 s h1
      refine ⟨fun i => match i with | 0 => fr | i + 1 => F i, fun i => match i with | 0 => H | i + 1 => HH i, fun i => match i with | 0 => a0 | i + 1 => a i, m + 1, rfl, rfl, fun i o' hi ho => ?_, fun i hi => ?_, fun i o' hi ho => ?_, ?_⟩
      · cases i with
        | zero =>
          simp only [List.getElem?_cons_zero, sI] at ho
          subst ho
          simp only [f0, f1]; exact h0
        | succ i =>
          simp only [List.getElem?_cons_succ] at ho
          exact f2 i o' (by omega) ho
      · cases i with
        | zero => exact hL
        | succ i => have := fL i (by omega); cases late <;> exact this
      · cases i with
        | zero =>
          simp only [List.getElem?_cons_zero, sI] at ho
          subst ho
          exact ⟨hE, fun q hq => by omega⟩
        | succ i =>
          simp only [List.getElem?_cons_succ] at ho
          obtain ⟨e1, e2⟩ := fE i o' (by omega) ho
          refine ⟨fun H' hH => e1 H' (List.mem_cons_of_mem _ hH), fun q hq => ?_⟩
          cases q with
          | zero => exact e1 H (List.mem_cons_self ..)
          | succ q => exact e2 q (by omega)
      · rcases f3 with ⟨e, h⟩ | ⟨e, o', b, H', h⟩
        · exact .inl ⟨by simp [e], h⟩
        · exact .inr ⟨by simp; omega, o', b, H', by simpa using h⟩
    obtain ⟨b, hb, h⟩ := bO.1 h
    cases b with
    | true =>
      simp only at h
      obtain ⟨hE0, h⟩ := eaS_some h
      have hE : ∀ H' ∈ Hs, EarlyAt call mt md early o fr H H' := fun H' hH d hd he _ => hE0 H' (by rw [hd, seen_mem he]; exact hH)
      obtain ⟨s1, hs, h⟩ := bO.1 h
      unfold stepT at hs
      obtain ⟨out, hc, hs⟩ := bO.1 hs
      cases out with
      | val a x =>
        cases x with
        | none =>
          simp only [sI] at hs; subst hs
          exact glue a _ H ⟨rfl, .inl ⟨hb, _, hc, rfl, rfl⟩⟩ hE h
        | some b =>
          simp only [sI] at hs; subst hs
          exact glue a _ _ ⟨rfl, .inl ⟨hb, _, hc, rfl, rfl⟩⟩ hE h
      | wr a H' =>
        simp only [sI] at hs; subst hs
        exact glue a _ _ ⟨rfl, .inl ⟨hb, _, hc, rfl, rfl⟩⟩ hE h
      | fz a ids =>
        simp only [sI] at hs; subst hs
        exact glue a _ _ ⟨rfl, .inl ⟨hb, _, hc, rfl, rfl⟩⟩ hE h
      | pan a H' =>
        simp only [sI] at hs; subst hs
        simp only at h
        cases hl : lastOk early o.dst l with
        | false => rw [hl] at h; cases h
        | true =>
          rw [hl] at h
          simp only [cond_true, sI] at h
          subst h
          refine ⟨fun _ => fr, fun _ => H, fun _ => .any, 0, rfl, rfl, by simp, fun i hi => (Nat.le_zero.1 hi) ▸ hL, by simp, .inr ⟨by simp, o, a, H', rfl, ?_, rfl, hb, hc⟩⟩
          unfold lastOk at hl
          rw [Bool.or_eq_true, List.isEmpty_iff] at hl
          rcases hl with hl | hl
          · exact .inr hl
          · left; simp [hl]
    | false =>
      simp only at h
      exact glue (.lit undef) _ H ⟨rfl, .inr ⟨hb, rfl, rfl⟩⟩ (fun H' _ d _ _ hw => by rw [hb] at hw; cases hw) h
end
end Go.Ai
