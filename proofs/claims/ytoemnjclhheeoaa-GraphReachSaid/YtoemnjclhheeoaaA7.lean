/- The abstract interpreter: operations on the heap. No condition. -/
import Derived.Test.YtoemnjclhheeoaaA6
import Derived.Great.FillDense
import Derived.Laws.MakeOwn
import Derived.Laws.BytesString
namespace Go.Ai
set_option linter.unusedVariables false
set_option linter.unusedSimpArgs false
section
variable {P : Program} {g : G} {w : World} {H : List AO} {o : Oper} {act : Act} {id : Nat}

theorem rowAt_inv {r : Nat} {p : List AV × TypeId} (h : rowAt H r = some p) : H[r]? = some (.row p.1 p.2) := by
  unfold rowAt at h
  split at h
  · rename_i cs t he; simp only [Option.some.injEq] at h; subst h; exact he
  · cases h

/-- A row of the heap. -/
theorem Rel.row (R : Rel g w H) {r : Nat} {cs : List AV} {t : TypeId} (h : H[r]? = some (.row cs t)) : ∃ arr, w.heap[g.ρ r]? = some (.cells arr t (0, 0)) ∧ arr.size = g.σ r ∧ cs.length ≤ arr.size ∧
    VRs g w cs (arr.toList.take cs.length) ∧ (∀ v ∈ arr.toList, v.oneCell' = true) ∧ ¬ g.S (g.ρ r) := by
  obtain ⟨arr, h1, h2, h3, h4, h5, h6⟩ := R.obj r cs t h
  refine ⟨arr, h1, h2, h3, ⟨by simp [Nat.min_eq_left h3], fun i a v ha hv => ?_⟩, fun v hv => ?_, h6⟩
  · rw [List.getElem?_take] at hv
    split at hv
    · exact h4 i a v ha (by simpa using hv)
    · cases hv
  · obtain ⟨i, hi, rfl⟩ := List.mem_iff_getElem.1 hv
    exact h5 i _ (by simp)

theorem load_run {t : TypeId} {n : Option Nat} {x r : AV} {u : Value} (R : Rel g w H) (hn : nOf P t = some n) (hx : VR g w x u) (h : load H n x = some r) : ∃ v, (Instr.loadAt t u).run P w = .ok v w ∧ VR g w r v := by
  obtain ⟨k, hk, hh⟩ := nOf_inv hn
  unfold load at h
  have fin : ∀ (a : Addr) (cs : List AV) (vs : List Value), VRs g w cs vs → (∀ (j : Nat) (v : Value), vs[j]? = some v → w.cell? (a.add j) = some v) → part n cs = some r → ∃ v, (Instr.loadAt t (.pointer (some a))).run P w = .ok v w ∧ VR g w r v := by
    intro a cs vs hv hc hp
    rcases part_vr hv hp with ⟨rfl, v, hv0, hr⟩ | ⟨k', rfl, hle, hr⟩
    · rcases hh with ⟨_, ha⟩ | ⟨e, _⟩
      · refine ⟨v, ?_, hr⟩
        have := hc 0 v hv0
        have e0 : a.add 0 = a := by simp [Addr.add]
        rw [e0] at this
        simp [Instr.loadAt, Instr.sureAddr, loadVar, run_isAgg' ha, this]
      · cases e
    · rcases hh with ⟨e, _⟩ | ⟨e, ha⟩
      · cases e
      · cases e
        refine ⟨_, ?_, hr⟩
        have hl : (vs.take k).length = k := by simp [hle]
        have := run_loadCells_list (P := P) w a (vs.take k) (fun j v hj => hc j v (by rw [List.getElem?_take] at hj; split at hj; exact hj; cases hj))
        rw [hl] at this
        simp [Instr.loadAt, Instr.sureAddr, loadVar, run_isAgg' ha, run_sizeOf' hk, this]
  split at h
  · rename_i q off
    obtain ⟨p, hp, h⟩ := Option.bind_eq_some_iff.1 h
    obtain ⟨rfl, _⟩ := hx.ptr_inv
    obtain ⟨arr, h1, h2, h3, h4, h5, h6⟩ := R.row (rowAt_inv hp)
    refine fin _ _ _ (h4.drop off) (fun j v hj => ?_) h
    rw [List.getElem?_drop, List.getElem?_take] at hj
    split at hj
    · rw [add_none, cell_row h1]; simpa using hj
    · cases hj
  · rename_i xs
    obtain ⟨ad, f, rfl, h1, h2, h3, h4⟩ := hx.ip_inv
    refine fin ad xs ((List.range xs.length).map f) ⟨by simp, fun i a v ha hv => ?_⟩ (fun j v hj => ?_) h
    · have hi : i < xs.length := (List.getElem?_eq_some_iff.1 ha).1
      simp [hi] at hv; subst hv
      exact .fv _ _ (h4 i a ha)
    · have hi : j < xs.length := by have := (List.getElem?_eq_some_iff.1 hj).1; simpa using this
      simp [hi] at hj; subst hj
      exact h2 j hi
  · cases h

theorem run_storeVar' {t : TypeId} {n : Nat} {v : Value} {b off : Nat} {arr : Array Value} {e : TypeId} (hn : tsize P t = some n) (hv : v.cells.size = n) (hb : w.heap[b]? = some (.cells arr e (0, 0))) (hl : off + n ≤ arr.size)
    (h1 : ∀ u ∈ v.cells.toList, u.oneCell' = true) : (Instr.storeAt t (.pointer (some ⟨b, off, none⟩)) v).run P w = .ok () (w.setRow b (arr.toList.take off ++ v.cells.toList ++ arr.toList.drop (off + n)).toArray) := by
  have := run_storeCells_at P b off e v.cells.toList 0 arr w hb (by simp; omega) h1
  simp only [Nat.add_zero, Array.length_toList, hv] at this
  simp [Instr.storeAt, Instr.sureAddr, storeVar, run_sizeOf' hn, hv, this]

theorem VRs.one_append {vs us : List Value} (h : ∀ v ∈ vs, v.oneCell' = true) (k : ∀ v ∈ us, v.oneCell' = true) : ∀ v ∈ vs ++ us, v.oneCell' = true := by
  intro v hv; rcases List.mem_append.1 hv with hv | hv
  · exact h v hv
  · exact k v hv

theorem store_ok {t : TypeId} {n : Nat} {a x : AV} {u v : Value} {H' : List AO} (R : Rel g w H) (hn : tsize P t = some n) (ha : VR g w a u) (hx : VR g w x v) (h : storeAt H n a x = some H') :
    ∃ w', (Instr.storeAt t u v).run P w = .ok () w' ∧ Rel g w' H' ∧ Stp g w H g w' H' := by
  unfold storeAt at h
  split at h
  · rename_i r off
    obtain ⟨⟨cs, e⟩, hp, h⟩ := Option.bind_eq_some_iff.1 h
    by_cases hc : ((cellsOf x).length == n && (cellsOf x).all cellA && Nat.ble (off + n) cs.length) = true
    case neg => rw [Bool.eq_false_iff.mpr hc] at h; cases h
    rw [hc] at h
    simp only [cond_true, Option.some.injEq] at h; subst h
    simp only [Bool.and_eq_true, beq_iff_eq] at hc
    obtain ⟨⟨c1, c2⟩, c3⟩ := hc
    have c3 := Nat.le_of_ble_eq_true c3
    obtain ⟨rfl, _⟩ := ha.ptr_inv
    have hr : H[r]? = some (.row cs e) := rowAt_inv hp
    obtain ⟨arr, h1, h2, h3, h4, h5, h6⟩ := R.row hr
    obtain ⟨k1, k2⟩ := cells_vr hx c2
    have hsz : v.cells.size = n := by rw [← c1, k1.1]; simp
    refine ⟨_, run_storeVar' hn hsz h1 (by omega) k2, ?_⟩
    have hlen : (arr.toList.take off ++ v.cells.toList ++ arr.toList.drop (off + n)).length = arr.size := by
      simp [hsz, Nat.min_eq_left (show off ≤ arr.size by omega)]; omega
    refine Rel.write (arr' := (arr.toList.take off ++ v.cells.toList ++ arr.toList.drop (off + n)).toArray) R hr rfl rfl rfl (by simp [World.setRow]) (setRow_heap _ _ _ _ _ _ h1) (by simp only [List.size_toArray]; rw [hlen]; exact h2) ?_ ?_ ?_ (fun b hb => setRow_other _ _ _ _ hb)
    · simp only [List.size_toArray]; rw [hlen]; simp [c1, Nat.min_eq_left (show off ≤ cs.length by omega)]; omega
    · have e1 : arr.toList.take off = (arr.toList.take cs.length).take off := by rw [List.take_take, Nat.min_eq_left (by omega)]
      have e2 : VRs g w (cs.take off ++ cellsOf x ++ cs.drop (off + n)) (arr.toList.take off ++ v.cells.toList ++ (arr.toList.take cs.length).drop (off + n)) := by
        rw [e1]; exact ((h4.take off).append k1).append (h4.drop (off + n))
      intro j y z hy hz
      refine e2.2 j y z hy ?_
      simp only [List.getElem?_toArray] at hz
      rw [List.getElem?_append] at hz ⊢
      split
      · rename_i hj; rw [if_pos hj] at hz; exact hz
      · rename_i hj; rw [if_neg hj] at hz
        have hj2 : j < (cs.take off ++ cellsOf x ++ cs.drop (off + n)).length := (List.getElem?_eq_some_iff.1 hy).1
        rw [List.getElem?_drop, List.getElem?_take]
        rw [List.getElem?_drop] at hz
        have hl1 : (arr.toList.take off ++ v.cells.toList).length = off + n := by simp [hsz]; omega
        have hl2 : (cs.take off ++ cellsOf x ++ cs.drop (off + n)).length = cs.length := by simp [c1]; omega
        rw [hl2] at hj2
        rw [hl1] at hj
        rw [if_pos, hz]
        rw [hl1]; omega
    · intro j y hy
      have hm := List.mem_of_getElem? (show (arr.toList.take off ++ v.cells.toList ++ arr.toList.drop (off + n))[j]? = some y by simpa using hy)
      rcases List.mem_append.1 hm with hm | hm
      · rcases List.mem_append.1 hm with hm | hm
        · exact h5 y (List.mem_of_mem_take hm)
        · exact k2 y hm
      · exact h5 y (List.mem_of_mem_drop hm)
  · cases h

theorem zeros_inv {t : TypeId} {z : List AV} (h : zeros P t = some z) : ∃ i v, P.info? t = some i ∧ i.zero = some v ∧ v.cells.size = i.size ∧ z.length = i.size ∧ (∀ (g : G) (w : World), VRs g w z v.cells.toList) ∧ ∀ u ∈ v.cells.toList, u.oneCell' = true := by
  unfold zeros at h
  obtain ⟨i, hi, h⟩ := Option.bind_eq_some_iff.1 h
  obtain ⟨v, hv, h⟩ := Option.bind_eq_some_iff.1 h
  split at h
  · rename_i hc
    simp only [Option.some.injEq] at h; subst h
    simp only [Bool.and_eq_true, beq_iff_eq] at hc
    have V : ∀ (g : G) (w : World), VRs g w (v.cells.toList.map (ofV 4)) v.cells.toList := by
      intro g w
      refine ⟨by simp, fun i a u h1 h2 => ?_⟩
      rw [List.getElem?_map, h2] at h1
      simp only [Option.map_some, Option.some.injEq] at h1
      subst h1; exact .fv _ _ (ofV_fv _ _ 4 u)
    refine ⟨i, v, hi, hv, hc.2, by simp [hc.2], V, fun u hu => ?_⟩
    obtain ⟨j, hj, rfl⟩ := List.mem_iff_getElem.1 hu
    have hm : ofV 4 v.cells.toList[j] ∈ v.cells.toList.map (ofV 4) := List.mem_map.2 ⟨_, hu, rfl⟩
    have hca := List.all_eq_true.1 hc.1 _ hm
    generalize v.cells.toList[j] = q at hca
    cases q <;> first
      | rfl
      | (simp [ofV, cellA] at hca; done)
  · cases h

theorem alloc_ok {t : TypeId} {z : List AV} (R : Rel g w H) (hid : id ≤ H.length) (hd : ¬ g.D id) (hz : zeros P t = some z) :
    ∃ v w', (Instr.alloc t true (.tuple #[])).run P w = .ok v w' ∧ After g w H id (.val (.ptr id 0) (some (.row z t))) false v w' := by
  obtain ⟨i, v, h1, h2, h3, h4, h5, h6⟩ := zeros_inv hz
  obtain ⟨a, b⟩ := R.new (arr := v.cells) (t := t) hid hd (by omega) (fun j a u ha hu => (h5 g w).2 j a u ha (by simpa using hu)) (fun j u hu => h6 u (List.mem_of_getElem? (show v.cells.toList[j]? = some u by simpa using hu)))
  refine ⟨.pointer (some ⟨w.heap.size, 0, none⟩), w.alloc (.cells v.cells t), ?_, rfl, _, fun r h => h, ?_, a, b⟩
  · simp [Instr.alloc, zeroValue, typeInfo, h1, h2, newVar, newRow]
  · have := VR.ptr (g := g.new id w.heap.size v.cells.size) (w := w.alloc (.cells v.cells t)) id 0 (.inr rfl)
    simpa [G.new] using this

theorem box_ok {t : TypeId} {x : AV} {v : Value} (R : Rel g w H) (hid : id ≤ H.length) (hd : ¬ g.D id) (hx : VR g w x v) (hc : (cellsOf x).all cellA = true) :
    ∃ u w', (Instr.box t v).run P w = .ok u w' ∧ After g w H id (.val (.ptr id 0) (some (.row (cellsOf x) t))) false u w' := by
  obtain ⟨k1, k2⟩ := cells_vr hx hc
  obtain ⟨a, b⟩ := R.new (arr := v.cells) (t := t) hid hd (by rw [k1.1]; simp) (fun j a u ha hu => k1.2 j a u ha (by simpa using hu)) (fun j u hu => k2 u (List.mem_of_getElem? (show v.cells.toList[j]? = some u by simpa using hu)))
  refine ⟨.pointer (some ⟨w.heap.size, 0, none⟩), w.alloc (.cells v.cells t), ?_, rfl, _, fun r h => h, ?_, a, b⟩
  · simp [Instr.box, newVar, newRow]
  · have := VR.ptr (g := g.new id w.heap.size v.cells.size) (w := w.alloc (.cells v.cells t)) id 0 (.inr rfl)
    simpa [G.new] using this

/-- Parts into their places, on both sides. -/
theorem fill_run (place : Nat → Option (Nat × Nat)) : ∀ (ps : List (Nat × Nat × AV)) (qs : List (Nat × Value)) (zs : List AV) (vs : Array Value) (cs : List AV),
    ps.length = qs.length → (∀ (j : Nat) (p : Nat × Nat × AV) (q : Nat × Value), ps[j]? = some p → qs[j]? = some q → place q.1 = some (p.1, p.2.1) ∧ VR g w p.2.2 q.2) → VRs g w zs vs.toList → (∀ u ∈ vs.toList, u.oneCell' = true) → fill zs ps = some cs →
    ∃ us, Instr.fill place vs qs = some us ∧ VRs g w cs us.toList ∧ ∀ u ∈ us.toList, u.oneCell' = true
  | [], [], zs, vs, cs, _, _, hz, h1, h => by
    simp only [fill, Option.some.injEq] at h; subst h
    exact ⟨vs, rfl, hz, h1⟩
  | [], q :: qs, _, _, _, hl, _, _, _, _ => by simp at hl
  | p :: ps, [], _, _, _, hl, _, _, _, _ => by simp at hl
  | (off, n, a) :: ps, (i, v) :: qs, zs, vs, cs, hl, hp, hz, h1, h => by
    simp only [fill] at h
    by_cases hc : ((cellsOf a).length == n && (cellsOf a).all cellA && Nat.ble (off + n) zs.length) = true
    case neg => rw [Bool.eq_false_iff.mpr hc] at h; cases h
    rw [hc] at h
    simp only [cond_true] at h
    simp only [Bool.and_eq_true, beq_iff_eq] at hc
    obtain ⟨⟨c1, c2⟩, c3⟩ := hc
    have c3 := Nat.le_of_ble_eq_true c3
    obtain ⟨p1, p2⟩ := hp 0 _ _ rfl rfl
    obtain ⟨k1, k2⟩ := cells_vr p2 c2
    have hsz : v.cells.size = n := by rw [← c1, k1.1]; simp
    have hvs : zs.length = vs.size := by rw [hz.1]; simp
    obtain ⟨g1, g2⟩ := Great.foldl_set off v.cells.toList 0 vs
    have hnew : ((v.cells.toList.zipIdx 0).foldl (fun cs (x : Value × Nat) => cs.setIfInBounds (off + x.2) x.1) vs).toList = vs.toList.take off ++ v.cells.toList ++ vs.toList.drop (off + n) := by
      apply List.ext_getElem?
      intro k
      rw [Array.getElem?_toList, g2 k]
      simp only [Nat.add_zero, Array.length_toList, hsz]
      rw [List.getElem?_append, List.getElem?_append]
      simp only [List.length_take, Array.length_toList, List.length_append, hsz, Nat.min_eq_left (show off ≤ vs.size by omega)]
      by_cases ha : k < off
      · rw [if_neg (by omega), if_pos (by omega), if_pos ha, List.getElem?_take, if_pos ha]; simp
      · by_cases hb : k < off + n
        · rw [if_pos ⟨by omega, hb, by omega⟩, if_pos hb, if_neg ha]
        · rw [if_neg (by omega), if_neg hb, List.getElem?_drop]; simp; congr 1; omega
    obtain ⟨us, u1, u2, u3⟩ := fill_run place ps qs (zs.take off ++ cellsOf a ++ zs.drop (off + n)) ((v.cells.toList.zipIdx 0).foldl (fun cs (x : Value × Nat) => cs.setIfInBounds (off + x.2) x.1) vs) cs
      (by simpa using hl) (fun j p q hj hq => hp (j + 1) p q (by simpa using hj) (by simpa using hq)) (by rw [hnew]; exact ((hz.take off).append k1).append (hz.drop (off + n)))
      (by
        rw [hnew]
        intro u hu
        rcases List.mem_append.1 hu with hu | hu
        · rcases List.mem_append.1 hu with hu | hu
          · exact h1 u (List.mem_of_mem_take hu)
          · exact k2 u hu
        · exact h1 u (List.mem_of_mem_drop hu)) h
    refine ⟨us, ?_, u2, u3⟩
    rw [Instr.fill, p1]
    simp only
    rw [if_neg (by simp [hsz]; omega), ← u1]
    congr 1
    rw [← Array.foldl_toList, Array.toList_zipIdx]
end
end Go.Ai
