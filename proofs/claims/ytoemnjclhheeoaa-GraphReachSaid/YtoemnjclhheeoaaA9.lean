/- The abstract interpreter: make, literals, bytes. No condition. -/
import Derived.Test.YtoemnjclhheeoaaA8
namespace Go.Ai
set_option linter.unusedVariables false
set_option linter.unusedSimpArgs false
set_option linter.unusedSectionVars false
section
variable {P : Program} {g : G} {w : World} {H : List AO} {o : Oper} {act : Act} {id : Nat}

theorem reps_len (z : List AV) : ∀ n, (reps n z).length = n * z.length
  | 0 => by simp [reps]
  | n + 1 => by simp only [reps, List.length_append, reps_len z n, Nat.add_mul]; omega
theorem reps_get (z : List AV) : ∀ (n j : Nat) (a : AV), (reps n z)[j]? = some a → z[j % z.length]? = some a
  | 0, j, a, h => by simp [reps] at h
  | n + 1, j, a, h => by
    simp only [reps] at h
    rw [List.getElem?_append] at h
    split at h
    · rename_i hj; rw [Nat.mod_eq_of_lt hj]; exact h
    · rename_i hj
      have := reps_get z n (j - z.length) a h
      rw [Nat.mod_eq_sub_mod (by omega)]; exact this

theorem made_vr {z : List AV} {v : Array Value} (hz : VRs g w z v.toList) (h1 : ∀ u ∈ v.toList, u.oneCell' = true) {l n : Nat} (hn : l * v.size ≤ n) :
    (reps l z).length ≤ (madeCells v n).size ∧ (∀ (j : Nat) (a : AV) (u : Value), (reps l z)[j]? = some a → (madeCells v n)[j]? = some u → VR g w a u) ∧ (0 < v.size ∨ n = 0 → ∀ (j : Nat) (u : Value), (madeCells v n)[j]? = some u → u.oneCell' = true) := by
  have hl : z.length = v.size := by rw [hz.1]; simp
  have G : ∀ (j : Nat) (u : Value), (madeCells v n)[j]? = some u → j < n ∧ u = v[j % v.size]! := by
    intro j u h
    simp only [madeCells, Array.getElem?_map, Array.getElem?_range] at h
    split at h
    · rename_i hj; simp at h; exact ⟨hj, h.symm⟩
    · cases h
  refine ⟨by rw [reps_len, hl, size_madeCells]; exact hn, fun j a u ha hu => ?_, fun hp j u hu => ?_⟩
  · obtain ⟨h1, rfl⟩ := G j u hu
    have hk := reps_get z l j a ha
    rw [hl] at hk
    have hlt : j % v.size < v.size := by rw [← hl]; rw [← hl] at hk; exact (List.getElem?_eq_some_iff.1 hk).1
    refine hz.2 _ a _ hk ?_
    rw [getElem!_pos v (j % v.size) hlt]; simp [hlt]
  · obtain ⟨h2, rfl⟩ := G j u hu
    rcases hp with hp | hp
    · have hlt := Nat.mod_lt j hp
      rw [getElem!_pos v (j % v.size) hlt]
      exact h1 _ (by simp)
    · omega

theorem mks_ok {e bytes : Nat} {t et : TypeId} {zs : List AV} {i : TypeInfo} {l c : Int} {u v : Value} (R : Rel g w H) (hid : id ≤ H.length) (hd : ¬ g.D id) (ht : P.underlying t = some (.slice et)) (hi : P.info? et = some i) (he : i.size = e) (hb : i.bytes = bytes) (hz : zeros P et = some zs)
    (hu : VR g w (.lit (.int .i64 l)) u) (hv : VR g w (.lit (.int .i64 c)) v) (hc : (decide (0 ≤ l) && decide (l ≤ c) && decide (c * bytes ≤ 140737488355328) && decide (c ≤ 140737488355328)) = true) :
    ∃ r w', (Instr.makeSlice t u v).run P w = .ok r w' ∧ After g w H id (.val (.own id 0 l.toNat e (some c.toNat)) (some (.row (reps l.toNat zs) et))) false r w' := by
  have e1 := hu.lit_inv; have e2 := hv.lit_inv
  subst e1; subst e2; subst he; subst hb
  simp only [Bool.and_eq_true, decide_eq_true_eq] at hc
  obtain ⟨⟨⟨c1, c2⟩, c3⟩, c4⟩ := hc
  obtain ⟨i', z, hi', hz1, hz2, hz3, hz4, hz5⟩ := zeros_inv hz
  rw [hi] at hi'; cases hi'
  have hr := run_make (P := P) w t et i z ht hi hz1 .i64 .i64 l c c1 c2 (by rw [Int.mul_comm]; omega) (by omega)
  have hle : l.toNat * z.cells.size ≤ c.toNat * i.size := by rw [hz2]; exact Nat.mul_le_mul_right _ (by omega)
  obtain ⟨m1, m2, m3⟩ := made_vr (hz4 g w) hz5 hle
  have hpos : 0 < z.cells.size ∨ c.toNat * i.size = 0 := by
    rcases Nat.eq_zero_or_pos z.cells.size with h | h
    · right; rw [← hz2, h]; simp
    · exact .inl h
  obtain ⟨q1, q2⟩ := R.new (arr := madeCells z.cells (c.toNat * i.size)) (t := et) hid hd m1 m2 (m3 hpos)
  refine ⟨_, _, hr, rfl, _, fun r h => h, ?_, q1, q2⟩
  have := VR.own (g := g.new id w.heap.size (madeCells z.cells (c.toNat * i.size)).size) (w := w.alloc (.cells (madeCells z.cells (c.toNat * i.size)) et)) id 0 l.toNat i.size (some c.toNat) 0 c.toNat (.inr rfl) (by omega) (fun k hk => by cases hk; rfl) (fun _ => rfl) (fun _ => by simp [G.new, size_madeCells])
  simpa [G.new] using this

/-- Cells of an object are written. -/
theorem put_row {r off : Nat} {cs xs : List AV} {vs : List Value} {e : TypeId} (R : Rel g w H) (hr : H[r]? = some (.row cs e)) (k1 : VRs g w xs vs) (k2 : ∀ u ∈ vs, u.oneCell' = true) (hle : off + xs.length ≤ cs.length) :
    ∃ w', (storeCells ⟨g.ρ r, off, none⟩ vs).run P w = .ok () w' ∧ Rel g w' (setL H r (.row (cs.take off ++ xs ++ cs.drop (off + xs.length)) e)) ∧ Stp g w H g w' (setL H r (.row (cs.take off ++ xs ++ cs.drop (off + xs.length)) e)) := by
  obtain ⟨arr, h1, h2, h3, h4, h5, h6⟩ := R.row hr
  have hn : vs.length = xs.length := k1.1.symm
  have hrun := run_storeCells_at P (g.ρ r) off e vs 0 arr w h1 (by omega) k2
  refine ⟨_, hrun, ?_⟩
  rw [Nat.add_zero, hn]
  generalize hN : xs.length = n at hle hn ⊢
  have hlen : (arr.toList.take off ++ vs ++ arr.toList.drop (off + n)).length = arr.size := by
    simp [hn, Nat.min_eq_left (show off ≤ arr.size by omega)]; omega
  refine Rel.write (arr' := (arr.toList.take off ++ vs ++ arr.toList.drop (off + n)).toArray) R hr rfl rfl rfl (by simp [World.setRow]) (setRow_heap _ _ _ _ _ _ h1) (by simp only [List.size_toArray]; rw [hlen]; exact h2) ?_ ?_ ?_ (fun b hb => setRow_other _ _ _ _ hb)
  · simp only [List.size_toArray]; rw [hlen]; simp [hN, Nat.min_eq_left (show off ≤ cs.length by omega)]; omega
  · have e1 : arr.toList.take off = (arr.toList.take cs.length).take off := by rw [List.take_take, Nat.min_eq_left (by omega)]
    have e2 : VRs g w (cs.take off ++ xs ++ cs.drop (off + n)) (arr.toList.take off ++ vs ++ (arr.toList.take cs.length).drop (off + n)) := by
      rw [e1]; exact ((h4.take off).append k1).append (h4.drop (off + n))
    intro j y z hy hz
    refine e2.2 j y z hy ?_
    simp only [List.getElem?_toArray] at hz
    rw [List.getElem?_append] at hz ⊢
    split
    · rename_i hj; rw [if_pos hj] at hz; exact hz
    · rename_i hj; rw [if_neg hj] at hz
      have hj2 : j < (cs.take off ++ xs ++ cs.drop (off + n)).length := (List.getElem?_eq_some_iff.1 hy).1
      rw [List.getElem?_drop, List.getElem?_take]
      rw [List.getElem?_drop] at hz
      have hl1 : (arr.toList.take off ++ vs).length = off + n := by simp [hn]; omega
      have hl2 : (cs.take off ++ xs ++ cs.drop (off + n)).length = cs.length := by simp [hN]; omega
      rw [hl2] at hj2
      rw [hl1] at hj
      rw [if_pos, hz]
      rw [hl1]; omega
  · intro j y hy
    have hm := List.mem_of_getElem? (show (arr.toList.take off ++ vs ++ arr.toList.drop (off + n))[j]? = some y by simpa using hy)
    rcases List.mem_append.1 hm with hm | hm
    · rcases List.mem_append.1 hm with hm | hm
      · exact h5 y (List.mem_of_mem_take hm)
      · exact k2 y hm
    · exact h5 y (List.mem_of_mem_drop hm)

theorem clr_ok {t et ty : TypeId} {z : List AV} {x : AV} {u : Value} {H' : List AO} (R : Rel g w H) (ht : P.underlying t = some (.slice et)) (hz : zeros P et = some z) (hx : VR g w x u) (h : clrAt H z.length z x = some H') :
    ∃ w', (Builtin.clear_ #[t] ty #[u]).run P w = .ok (.tuple #[]) w' ∧ Rel g w' H' ∧ Stp g w H g w' H' := by
  unfold clrAt at h
  split at h
  · rename_i r off n e' cap
    obtain ⟨o, c, rfl, hD, hnc, _, ho, hs⟩ := hx.own_inv
    cases hn : n == 0 with
    | true =>
      rw [hn] at h
      simp only [cond_true, Option.some.injEq] at h; subst h
      have hn : n = 0 := by simpa using hn
      subst hn
      exact ⟨w, by simp [Builtin.clear_, run_underlying ht], R, Stp.refl⟩
    | false =>
      rw [hn] at h
      simp only [cond_false] at h
      obtain ⟨⟨cs, e⟩, hp, h⟩ := Option.bind_eq_some_iff.1 h
      by_cases hc : (z.length == e' && z.length == z.length && Nat.ble (off + n * z.length) cs.length) = true
      case neg => rw [Bool.eq_false_iff.mpr hc] at h; cases h
      rw [hc] at h
      simp only [cond_true, Option.some.injEq] at h; subst h
      simp only [Bool.and_eq_true, beq_iff_eq] at hc
      obtain ⟨⟨c1, _⟩, c3⟩ := hc
      have c3 := Nat.le_of_ble_eq_true c3
      have hn : ¬ n = 0 := by simpa using hn
      have hr : H[r]? = some (.row cs e) := rowAt_inv hp
      obtain ⟨i, v, hi, hz1, hz2, hz3, hz4, hz5⟩ := zeros_inv hz
      have ho' := ho (by omega)
      subst ho'
      have hsz : z.length = v.cells.size := by rw [hz3, hz2]
      obtain ⟨m1, m2, m3⟩ := made_vr (hz4 g w) hz5 (l := n) (n := n * v.cells.size) (Nat.le_refl _)
      have ez : Builtin.zeroCells v.cells n = madeCells v.cells (n * v.cells.size) := rfl
      have V : VRs g w (reps n z) (madeCells v.cells (n * v.cells.size)).toList := ⟨by rw [reps_len, hsz, Array.length_toList, size_madeCells], fun j a u ha hu => m2 j a u ha (by simpa using hu)⟩
      have hone : ∀ u ∈ (madeCells v.cells (n * v.cells.size)).toList, u.oneCell' = true := by
        intro u hu
        obtain ⟨k, hk, rfl⟩ := List.mem_iff_getElem.1 hu
        refine m3 ?_ k _ (by rw [← Array.getElem?_toList]; exact List.getElem?_eq_getElem hk)
        rcases Nat.eq_zero_or_pos v.cells.size with h | h
        · right; rw [h]; simp
        · exact .inl h
      obtain ⟨w', h1, h2⟩ := put_row (P := P) R hr V hone (by rw [reps_len]; exact c3)
      rw [reps_len] at h2
      refine ⟨w', ?_, h2⟩
      obtain ⟨m, rfl⟩ : ∃ m, n = m + 1 := ⟨n - 1, by omega⟩
      simp [Builtin.clear_, run_underlying ht, zeroValue, typeInfo, hi, hz1, ez, h1]
  · rename_i e cap
    obtain ⟨a, c, f, rfl, _⟩ := hx.sl_inv
    simp only [Option.some.injEq] at h; subst h
    refine ⟨w, ?_, R, Stp.refl⟩
    cases a <;> simp [Builtin.clear_, run_underlying ht]
  · cases h

theorem chunks_get {e : Nat} : ∀ {n : Nat} {cs : List AV}, cs.length = n * e → (chunks e n cs).length = n ∧ (∀ x ∈ chunks e n cs, x.length = e) ∧ ∀ (j : Nat) (x : List AV), (chunks e n cs)[j]? = some x → ∀ k, k < e → x[k]? = cs[j * e + k]?
  | 0, cs, h => by simp [chunks]
  | n + 1, cs, h => by
    rw [Nat.add_mul] at h
    obtain ⟨h1, h2, h3⟩ := chunks_get (e := e) (n := n) (cs := cs.drop e) (by simp; omega)
    refine ⟨by simp [chunks, h1], fun x hx => ?_, fun j x hx k hk => ?_⟩
    · simp only [chunks, List.mem_cons] at hx
      rcases hx with rfl | hx
      · simp; omega
      · exact h2 x hx
    · simp only [chunks] at hx
      cases j with
      | zero => simp at hx; subst hx; simp [List.getElem?_take, hk]
      | succ j =>
        simp at hx
        rw [h3 j x hx k hk, List.getElem?_drop]; congr 1; rw [Nat.add_mul]; omega

theorem bslice_run {t et : TypeId} {e len : Nat} {zs : List AV} {parts : Array (Nat × Operand)} {fr : Fr} {cs : List AV} {act : Act} (ht : P.underlying t = some (.slice et)) (he : tsize P et = some e) (hz : zeros P et = some zs) (hlen : len * e ≤ 16777216) (he0 : 0 < e)
    (F : FRel g w fr act) (h : fill (reps len zs) ((parts.toList.map fun p => (p.1, cx p.2)).map fun p => (p.1 * e, e, ev fr p.2)) = some cs) :
    ∃ arr : Array Value, (Instr.buildSlice t len (parts.map fun (i, x) => (i, act.eval x))).run P w = .ok (.slice (some ⟨w.heap.size, 0, none⟩) len len) (w.alloc (.cells arr et)) ∧ VRs g w cs arr.toList ∧ ∀ u ∈ arr.toList, u.oneCell' = true := by
  obtain ⟨i, z, hi, hz1, hz2, hz3, hz4, hz5⟩ := zeros_inv hz
  have hsz : i.size = e := by unfold tsize at he; rw [hi] at he; simpa using he
  obtain ⟨m1, m2, m3⟩ := made_vr (l := len) (n := len * e) (hz4 g w) hz5 (by rw [hz2, hsz]; exact Nat.le_refl _)
  have V : VRs g w (reps len zs) (madeCells z.cells (len * e)).toList := ⟨by rw [reps_len, hz3, hsz, Array.length_toList, size_madeCells], fun j a u ha hu => m2 j a u ha (by simpa using hu)⟩
  have hpos : 0 < z.cells.size := by omega
  obtain ⟨us, u1, u2, u3⟩ := fill_run (g := g) (w := w) (fun i => some (i * e, e)) _ ((parts.map fun (i, x) => (i, act.eval x)).toList) _ (madeCells z.cells (len * e)) cs (by simp)
    (fun j p q hp hq => by
      simp only [List.getElem?_map, Array.toList_map] at hp hq
      cases hj : parts.toList[j]? with
      | none => rw [hj] at hp; cases hp
      | some x =>
        rw [hj] at hp hq
        simp only [Option.map_some, Option.some.injEq] at hp hq
        subst hp; subst hq
        exact ⟨rfl, ev_vr F x.2⟩) V (fun u hu => by
          obtain ⟨k, hk, rfl⟩ := List.mem_iff_getElem.1 hu
          exact m3 (.inl hpos) k _ (by rw [← Array.getElem?_toList]; exact List.getElem?_eq_getElem hk)) h
  refine ⟨us, ?_, u2, u3⟩
  have hl : ¬ (16777216 < len * e) := by omega
  replace u1 : Instr.fill (fun i => some (i * e, e)) (madeCells z.cells (len * e)) (parts.toList.map fun x => (x.1, act.eval x.2)) = some us := by rw [← u1]; congr 1; simp
  by_cases h0 : len * e = 0
  · have hmade : madeCells z.cells 0 = #[] := by simp [madeCells]
    rw [h0, hmade] at u1
    simp [Instr.buildSlice, run_underlying ht, run_sizeOf' he, h0, newRow, Array.range_zero', u1]
  · unfold madeCells at u1
    simp [Instr.buildSlice, run_underlying ht, run_sizeOf' he, h0, hl, zeroValue, typeInfo, hi, hz1, newRow, u1]

theorem plus_nil (g : G) : ∀ b, plus g [] b → g.S b := by
  rintro b (h | ⟨r, hr, _⟩)
  · exact h
  · cases hr

theorem bslice_ok {t et : TypeId} {e len : Nat} {zs : List AV} {parts : Array (Nat × Operand)} {fr : Fr} {cs : List AV} {act : Act} {out : Out} {own : Bool} (R : Rel g w H) (hid : id ≤ H.length) (hd : ¬ g.D id)
    (ht : P.underlying t = some (.slice et)) (he : tsize P et = some e) (hz : zeros P et = some zs) (hlen : len * e ≤ 16777216) (he0 : 0 < e)
    (F : FRel g w fr act) (h : fill (reps len zs) ((parts.toList.map fun p => (p.1, cx p.2)).map fun p => (p.1 * e, e, ev fr p.2)) = some cs)
    (ho : (bif own then some (Out.val (.own id 0 len e (some len)) (some (.row cs et))) else (mapL (frz H frzF) cs).bind fun p => bif p.2.isEmpty then some (.val (.sl e (chunks e len p.1) (some len)) none) else none) = some out) :
    ∃ r w', (Instr.buildSlice t len (parts.map fun (i, x) => (i, act.eval x))).run P w = .ok r w' ∧ After g w H id out false r w' := by
  obtain ⟨arr, r1, r2, r3⟩ := bslice_run ht he hz hlen he0 F h
  have hcs : cs.length = len * e := by
    obtain ⟨i, z, hi, hz1, hz2, hz3, _⟩ := zeros_inv hz
    have hsz : i.size = e := by unfold tsize at he; rw [hi] at he; simpa using he
    have : ∀ (ps : List (Nat × Nat × AV)) (zs cs : List AV), fill zs ps = some cs → cs.length = zs.length := by
      intro ps
      induction ps with
      | nil => intro zs cs h; simp only [fill, Option.some.injEq] at h; rw [h]
      | cons p ps ih =>
        obtain ⟨off, n, a⟩ := p
        intro zs cs h
        simp only [fill] at h
        by_cases hc : ((cellsOf a).length == n && (cellsOf a).all cellA && Nat.ble (off + n) zs.length) = true
        case neg => rw [Bool.eq_false_iff.mpr hc] at h; cases h
        rw [hc] at h
        simp only [Bool.and_eq_true, beq_iff_eq] at hc
        have c3 := Nat.le_of_ble_eq_true hc.2
        rw [ih _ _ h]; simp [hc.1.1]; omega
    rw [this _ _ _ h, reps_len, hz3, hsz]
  have harr : arr.size = len * e := by rw [← hcs, r2.1]; simp
  cases own with
  | true =>
    simp only [cond_true, Option.some.injEq] at ho; subst ho
    obtain ⟨q1, q2⟩ := R.new (arr := arr) (t := et) hid hd (by omega) (fun j a u ha hu => r2.2 j a u ha (by simpa using hu)) (fun j u hu => r3 u (List.mem_of_getElem? (show arr.toList[j]? = some u by simpa using hu)))
    refine ⟨_, _, r1, rfl, _, fun r h => h, ?_, q1, q2⟩
    have := VR.own (g := g.new id w.heap.size arr.size) (w := w.alloc (.cells arr et)) id 0 len e (some len) 0 len (.inr rfl) (Nat.le_refl _) (fun k hk => by cases hk; rfl) (fun _ => rfl) (fun _ => by simp [G.new, harr])
    simpa [G.new] using this
  | false =>
    simp only [cond_false] at ho
    obtain ⟨⟨ys, ids⟩, hm, ho⟩ := Option.bind_eq_some_iff.1 ho
    cases ids with
    | cons => simp at ho
    | nil =>
      simp only [List.isEmpty_nil, cond_true, Option.some.injEq] at ho; subst ho
      obtain ⟨q1, q2⟩ := R.frozen (.cells arr et)
      refine ⟨_, _, r1, rfl, { g with S := fun b => g.S b ∨ b = w.heap.size }, rfl, ?_, q1, q2⟩
      obtain ⟨⟨e1, e2⟩, _⟩ := frz_list (vs := arr) (fun a v b ids => frz_sound R frzF a v b ids) (by rw [hcs, harr]) (fun i a v h1 h2 => r2.2 i a v h1 (by simpa using h2)) hm
      have hys : ys.length = len * e := by rw [e1, harr]
      obtain ⟨c1, c2, c3⟩ := chunks_get hys
      have hold : ∀ b, g.S b → (w.alloc (.cells arr et)).heap[b]? = w.heap[b]? := fun b hb => heap_alloc_lt _ _ (R.lt b hb)
      have lt : ∀ j k, j < len → k < e → j * e + k < arr.size := by
        intro j k hj hk
        have : (j + 1) * e ≤ len * e := Nat.mul_le_mul_right e (by omega)
        rw [Nat.add_mul] at this; omega
      have := FV.sl (S := fun b => g.S b ∨ b = w.heap.size) (w := w.alloc (.cells arr et)) e (chunks e len ys) (some len) (some ⟨w.heap.size, 0, none⟩) len (fun j k => (arr[j * e + k]?).getD undef) (by omega) (fun k hk => by cases hk; rfl) c2 ?_ ?_ ?_
      · rw [c1] at this; exact .fv _ _ this
      · intro _
        refine ⟨_, rfl, fun _ => .inr rfl, fun j k hj hk => ?_⟩
        rw [c1] at hj
        rw [add_none, Nat.zero_add, cell_row (heap_alloc_at _ _)]
        simp [lt j k hj hk]
      · intro j k hj hk
        rw [c1] at hj
        rw [Array.getElem?_eq_getElem (lt j k hj hk)]
        exact r3 _ (by simp)
      · intro j x k b hx hb
        have hj : j < len := by rw [← c1]; exact (List.getElem?_eq_some_iff.1 hx).1
        have hk : k < e := by rw [← c2 x (List.mem_of_getElem? hx)]; exact (List.getElem?_eq_some_iff.1 hb).1
        rw [c3 j x hx k hk] at hb
        rw [Array.getElem?_eq_getElem (lt j k hj hk)]
        exact (e2 _ b _ hb (by simp [lt j k hj hk])).mono (fun b hb => .inl (plus_nil g b hb)) (fun b hb => hold b (plus_nil g b hb))

theorem bytesOf_inv : ∀ {xs : List AV} {l : List UInt8}, bytesOf xs = some l → ∃ ns : List Int, xs = ns.map (fun n => .lit (.int .u8 n)) ∧ l = ns.map fun n => UInt8.ofNat n.toNat
  | [], l, h => by simp only [bytesOf, Option.some.injEq] at h; subst h; exact ⟨[], rfl, rfl⟩
  | x :: xs, l, h => by
    unfold bytesOf at h
    split at h
    · cases ‹_ :: _ = []›
    · rename_i n r heq
      cases heq
      obtain ⟨l', h1, h⟩ := Option.bind_eq_some_iff.1 h
      simp only [Option.some.injEq] at h; subst h
      obtain ⟨ns, rfl, rfl⟩ := bytesOf_inv h1
      exact ⟨n :: ns, rfl, rfl⟩
    · cases h

theorem foldl_push (ns : List Int) : ∀ (s : ByteArray), ns.foldl (fun r n => r.push (UInt8.ofNat n.toNat)) s = ⟨s.data ++ (ns.map fun n => UInt8.ofNat n.toNat).toArray⟩ := by
  induction ns with
  | nil => intro s; simp
  | cons n ns ih =>
    intro s
    simp only [List.foldl_cons, ih]
    congr 1
    apply Array.ext'
    simp [ByteArray.push]

theorem ofBytes_run {x : AV} {u : Value} {m : Nat} {cs : List AV} {l : List UInt8} (R : Rel g w H) (hx : VR g w x u) (hs : ∃ a n c, u = .slice a n c) (he : elems H 1 x = some (m, cs)) (hb : bytesOf cs = some l) : (Conv.bytesToString u).run P w = .ok (.string ⟨l.toArray⟩) w := by
  obtain ⟨news, n1, n2, n3, n4, n5⟩ := elems_run (P := P) R hx he
  obtain ⟨ns, rfl, rfl⟩ := bytesOf_inv hb
  obtain ⟨a, n, c, rfl⟩ := hs
  have hm : n = m := by have := n4 w; simp [Builtin.lenOf] at this; exact this
  subst hm
  have hnews : news = ns.map (Value.int .u8) := by
    apply List.ext_getElem?
    intro j
    have hl := n1.1
    cases hj : ns[j]? with
    | none =>
      have h1 : ns.length ≤ j := by simpa using hj
      rw [List.getElem?_eq_none (by simp at hl; omega), List.getElem?_eq_none (by simpa using h1)]
    | some z =>
      have h1 : j < ns.length := (List.getElem?_eq_some_iff.1 hj).1
      have h2 : j < news.length := by simp at hl; omega
      have := n1.2 j (.lit (.int .u8 z)) news[j] (by simp [hj]) (by simp [h2])
      rw [List.getElem?_eq_getElem h2, this.lit_inv]; simp [hj]
  cases a with
  | none =>
    have h5 := n5 w rfl
    rw [run_firstCells_none] at h5
    have : news = [] := by injection h5 with h5 _; simpa using h5.symm
    rw [hnews] at this
    have : ns = [] := by simpa using this
    subst this
    rfl
  | some a =>
    have h5 := n5 w rfl
    simp only [Builtin.firstCells, Nat.mul_one] at h5
    rw [hnews] at h5
    rw [run_bytesToString w a n c ns h5, foldl_push]
    have : ByteArray.empty.data = #[] := rfl
    rw [this]; simp

theorem toBytes_ok {et : TypeId} {s : ByteArray} (R : Rel g w H) :
    ∃ r w', (Conv.stringToBytes et s).run P w = .ok r w' ∧ After g w H id (.val (.sl 1 (s.data.toList.map fun b => [litI .u8 b.toNat]) none) none) false r w' := by
  let cap := (Question.appendCap s.size 0 et).cut (w.tape w.drawn (.appendCap s.size 0 et))
  let arr : Array Value := s.data.map (fun b => .int .u8 b.toNat) ++ Array.replicate (cap - s.size) (.int .u8 0)
  have hw : ((w.drew.alloc (.cells arr et)).freeze ⟨w.heap.size, arr.size, none⟩ 1) = w.drew.alloc (.cells arr et (arr.size, arr.size + 1)) := by
    unfold World.freeze
    rw [if_neg (by decide)]
    simp only [World.alloc, World.drew]
    congr 1
    apply Array.ext_getElem?
    intro k
    simp only [Array.getElem?_modify, Array.getElem?_push]
    by_cases hk : k = w.heap.size
    · subst hk; simp
    · simp [hk, Ne.symm hk]
  have hsz : s.size ≤ cap := by simp [cap, Question.cut]
  have hr : (Conv.stringToBytes et s).run P w = .ok (.slice (some ⟨w.heap.size, 0, none⟩) s.size cap) (w.drew.alloc (.cells arr et (arr.size, arr.size + 1))) := by
    rw [← hw]
    have h1 : (newRow et arr).run P w.drew = .ok ⟨w.heap.size, 0, none⟩ (w.drew.alloc (.cells arr et)) := by simp [newRow]; rfl
    have h0 : (w.drew.alloc (.cells arr et)).heap[w.heap.size]? = some (.cells arr et) := heap_alloc_at w.drew _
    have h2 : (markStringish ⟨w.heap.size, 0, none⟩).run P (w.drew.alloc (.cells arr et)) = .ok () ((w.drew.alloc (.cells arr et)).freeze ⟨w.heap.size, arr.size, none⟩ 1) := by
      unfold markStringish
      simp only [Sem.run_bind, run_shape, Result.andThen_ok, World.shape?, h0, run_freeze]
    unfold Conv.stringToBytes
    simp only [Sem.run_bind, run_choose, Question.forced, Bool.false_eq_true, if_false, World.drew_eq, Result.andThen_ok]
    show ((newRow et arr).run P w.drew).andThen _ = _
    rw [h1]
    simp only [Result.andThen_ok, h2, Sem.run_pure]
    rfl
  obtain ⟨q1, q2⟩ := (R.world (w' := w.drew) rfl).frozen (.cells arr et (arr.size, arr.size + 1))
  refine ⟨_, _, hr, rfl, { g with S := fun b => g.S b ∨ b = w.drew.heap.size }, rfl, ?_, q1, (Stp.drew g w H).trans q2⟩
  have hl : (s.data.toList.map fun b => [litI .u8 b.toNat]).length = s.size := by simp
  have := FV.sl (S := fun b => g.S b ∨ b = w.drew.heap.size) (w := w.drew.alloc (.cells arr et (arr.size, arr.size + 1))) 1 (s.data.toList.map fun b => [litI .u8 b.toNat]) none (some ⟨w.heap.size, 0, none⟩) cap (fun j k => .int .u8 ((s.data[j]?).getD 0).toNat) (by rw [hl]; exact hsz) (fun k hk => by cases hk) (by simp) ?_ ?_ ?_
  · rw [hl] at this; exact .fv _ _ this
  · intro _
    refine ⟨_, rfl, fun _ => .inr rfl, fun j k hj hk => ?_⟩
    rw [hl] at hj
    have hk0 : k = 0 := by omega
    subst hk0
    have hj' : j < s.data.size := hj
    have h0 : (w.drew.alloc (.cells arr et (arr.size, arr.size + 1))).heap[w.heap.size]? = some (.cells arr et (arr.size, arr.size + 1)) := heap_alloc_at w.drew _
    rw [add_none, cell_row h0]
    simp only [arr, Nat.zero_add, Nat.mul_one, Nat.add_zero]
    rw [Array.getElem?_append_left (by simpa using hj'), Array.getElem?_map, Array.getElem?_eq_getElem hj']
    rfl
  · intro j k _ _; rfl
  · intro j x k b hx hb
    rw [List.getElem?_map] at hx
    cases hs : s.data.toList[j]? with
    | none => rw [hs] at hx; cases hx
    | some y =>
      rw [hs] at hx; simp at hx; subst hx
      cases k with
      | succ k => simp at hb
      | zero =>
        simp at hb; subst hb
        have : s.data[j]? = some y := by simpa using hs
        rw [this]; exact .lit _
end
end Go.Ai
