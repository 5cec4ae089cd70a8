/- The abstract interpreter: what the machine's steps do to the two heaps. No condition. -/
import Derived.Test.YtoemnjclhheeoaaA2
namespace Go.Ai
set_option linter.unusedVariables false

def setO (H : List AO) (id : Nat) (o : AO) : List AO := if id < H.length then H.set id o else H ++ [o]

theorem get_setO {H : List AO} {id : Nat} {o : AO} (h : id ≤ H.length) (r : Nat) : (setO H id o)[r]? = if r = id then some o else H[r]? := by
  unfold setO
  split
  · rename_i hlt
    rw [List.getElem?_set]
    by_cases e : id = r
    · subst e; simp [hlt]
    · simp [e, Ne.symm e]
  · have : id = H.length := by omega
    subst this
    rw [List.getElem?_append]
    by_cases e : r = H.length
    · subst e; simp
    · simp only [e, if_false]
      split
      · rfl
      · rename_i h1
        rw [List.getElem?_eq_none (l := H) (by omega), List.getElem?_eq_none (by simp; omega)]

theorem setO_len (H : List AO) (o : AO) : setO H H.length o = H ++ [o] := by simp [setO]
theorem setO_length {H : List AO} {id : Nat} {o : AO} (h : id ≤ H.length) : H.length ≤ (setO H id o).length ∧ id < (setO H id o).length := by
  unfold setO; split <;> simp <;> omega

theorem Live.of {H : List AO} {r : Nat} {cs : List AV} {t : TypeId} (h : H[r]? = some (.row cs t)) : Live H r := ⟨cs, t, h⟩

theorem Rel.blt {g : G} {w : World} {H : List AO} (R : Rel g w H) {r : Nat} (h : Live H r) : g.ρ r < w.heap.size := by
  obtain ⟨cs, t, h⟩ := h
  obtain ⟨arr, h1, _⟩ := R.obj r cs t h
  exact (Array.getElem?_eq_some_iff.1 h1).1
theorem Rel.nS {g : G} {w : World} {H : List AO} (R : Rel g w H) {r : Nat} (h : Live H r) : ¬ g.S (g.ρ r) := by
  obtain ⟨cs, t, h⟩ := h
  obtain ⟨arr, _, _, _, _, _, h6⟩ := R.obj r cs t h
  exact h6

/-- The heap is the same one. -/
theorem Rel.world {g : G} {w w' : World} {H : List AO} (R : Rel g w H) (hh : w'.heap = w.heap) : Rel g w' H where
  lt := by rw [hh]; exact R.lt
  obj := fun r cs t h => by
    obtain ⟨arr, h1, h3, h4, h5, h6, h7⟩ := R.obj r cs t h
    exact ⟨arr, by rw [hh]; exact h1, h3, h4, fun j a v ha hv => (h5 j a v ha hv).mono (fun _ h => h) (fun _ h => h) (fun _ _ => rfl) (fun _ _ => rfl) (fun _ _ => by rw [hh]), h6, h7⟩
  inj := R.inj
  dom := R.dom
  lv := R.lv
theorem Stp.world {g : G} {w w' : World} {H : List AO} (hh : w'.heap = w.heap) (ho : w'.os = w.os) (ht : w'.tape = w.tape) (hp : w'.output = w.output) : Stp g w H g w' H :=
  ⟨ho, ht, hp, by rw [hh]; exact Nat.le_refl _, fun _ h => h, fun _ h => h, fun _ _ => rfl, fun _ _ => rfl, fun _ _ _ => by rw [hh], fun _ _ => by rw [hh], fun r h => .inl ⟨r, h, rfl⟩, fun _ h => .inl h⟩

theorem heap_alloc_lt (w : World) (o : Obj) {b : Nat} (h : b < w.heap.size) : (w.alloc o).heap[b]? = w.heap[b]? := by
  show (w.heap.push o)[b]? = _
  rw [Array.getElem?_push, if_neg (by omega)]
theorem heap_alloc_at (w : World) (o : Obj) : (w.alloc o).heap[w.heap.size]? = some o := by
  show (w.heap.push o)[w.heap.size]? = _
  simp

/-- A new object. -/
def G.new (g : G) (id b n : Nat) : G := ⟨g.S, fun r => g.D r ∨ r = id, fun r => if r = id then b else g.ρ r, fun r => if r = id then n else g.σ r⟩

theorem G.ne {g : G} {id r : Nat} (hd : ¬ g.D id) (hr : g.D r) : ¬ r = id := fun e => hd (e ▸ hr)
theorem G.new_vr {g : G} {w w' : World} {id b n : Nat} (hd : ¬ g.D id) (hw : ∀ b, g.S b → w'.heap[b]? = w.heap[b]?) {a : AV} {v : Value} (h : VR g w a v) : VR (g.new id b n) w' a v :=
  h.mono (fun _ h => h) (fun _ h => .inl h) (fun r hr => by simp only [G.new]; rw [if_neg (G.ne hd hr)]) (fun r hr => by simp only [G.new]; rw [if_neg (G.ne hd hr)]) hw

theorem Rel.new {g : G} {w : World} {H : List AO} {id : Nat} {cs : List AV} {t : TypeId} {arr : Array Value} (R : Rel g w H) (hid : id ≤ H.length) (hd : ¬ g.D id) (hl : cs.length ≤ arr.size)
    (hv : ∀ (j : Nat) (a : AV) (v : Value), cs[j]? = some a → arr[j]? = some v → VR g w a v) (h1 : ∀ (j : Nat) (v : Value), arr[j]? = some v → v.oneCell' = true) :
    Rel (g.new id w.heap.size arr.size) (w.alloc (.cells arr t)) (setO H id (.row cs t)) ∧ Stp g w H (g.new id w.heap.size arr.size) (w.alloc (.cells arr t)) (setO H id (.row cs t)) := by
  have hw : ∀ b, g.S b → (w.alloc (.cells arr t)).heap[b]? = w.heap[b]? := fun b hb => heap_alloc_lt _ _ (R.lt b hb)
  have hG := get_setO (o := .row cs t) hid
  have hL : ∀ r, Live (setO H id (.row cs t)) r → r = id ∨ (r ≠ id ∧ Live H r) := by
    rintro r ⟨c, u, h⟩
    rw [hG] at h
    by_cases e : r = id
    · exact .inl e
    · rw [if_neg e] at h; exact .inr ⟨e, c, u, h⟩
  constructor
  · refine ⟨fun b hb => ?_, fun r c u h => ?_, fun r r' hr hr' e => ?_, fun r hr => ?_, fun r hr => ?_⟩
    · simp; exact Nat.lt_succ_of_lt (R.lt b hb)
    · rw [hG] at h
      by_cases e : r = id
      · rw [if_pos e] at h
        simp only [Option.some.injEq, AO.row.injEq] at h
        obtain ⟨rfl, rfl⟩ := h
        subst e
        refine ⟨arr, by simp only [G.new, if_true]; exact heap_alloc_at _ _, by simp [G.new], hl, fun j a v ha hv' => G.new_vr hd hw (hv j a v ha hv'), h1, ?_⟩
        simp only [G.new, if_true]
        exact fun h => Nat.lt_irrefl _ (R.lt _ h)
      · rw [if_neg e] at h
        obtain ⟨arr', g1, g3, g4, g5, g6, g7⟩ := R.obj r c u h
        have hb := R.blt (.of h)
        refine ⟨arr', ?_, ?_, g4, fun j a v ha hv' => G.new_vr hd hw (g5 j a v ha hv'), g6, ?_⟩
        · simp only [G.new, if_neg e]; rw [heap_alloc_lt _ _ hb]; exact g1
        · simp only [G.new, if_neg e]; exact g3
        · simp only [G.new, if_neg e]; exact g7
    · rcases hL r hr with rfl | ⟨e1, l1⟩ <;> rcases hL r' hr' with rfl | ⟨e2, l2⟩
      · rfl
      · simp only [G.new, if_true, if_neg e2] at e; have := R.blt l2; omega
      · simp only [G.new, if_true, if_neg e1] at e; have := R.blt l1; omega
      · simp only [G.new, if_neg e1, if_neg e2] at e; exact R.inj r r' l1 l2 e
    · rcases hr with hr | rfl
      · exact Nat.lt_of_lt_of_le (R.dom r hr) (setO_length hid).1
      · exact (setO_length hid).2
    · rcases hL r hr with rfl | ⟨e1, l1⟩
      · exact .inr rfl
      · exact .inl (R.lv r l1)
  · refine ⟨rfl, rfl, rfl, by simp, fun _ h => h, fun _ h => .inl h, fun r hr => ?_, fun r hr => ?_, fun b hb _ => heap_alloc_lt _ _ hb, hw, fun r hr => ?_, fun b h => .inl h⟩
    · simp only [G.new]; rw [if_neg (G.ne hd hr)]
    · simp only [G.new]; rw [if_neg (G.ne hd hr)]
    · rcases hL r hr with rfl | ⟨e1, l1⟩
      · exact .inr (by simp [G.new])
      · exact .inl ⟨r, l1, by simp [G.new, e1]⟩

/-- An object of another's making. -/
theorem Rel.adopt {g g1 : G} {w w' : World} {H : List AO} {id b : Nat} {cs : List AV} {t : TypeId} {arr : Array Value} (R : Rel g1 w' H) (st : Stp g w H g1 w' H) (hid : id ≤ H.length) (hd : ¬ g1.D id) (hb : w.heap.size ≤ b) (ho : ∀ r, Live H r → g1.ρ r < w.heap.size)
    (hblk : w'.heap[b]? = some (.cells arr t (0, 0))) (hl : cs.length ≤ arr.size) (hS : ¬ g1.S b)
    (hv : ∀ (j : Nat) (a : AV) (v : Value), cs[j]? = some a → arr[j]? = some v → VR g1 w' a v) (h1 : ∀ (j : Nat) (v : Value), arr[j]? = some v → v.oneCell' = true) :
    Rel (g1.new id b arr.size) w' (setO H id (.row cs t)) ∧ Stp g w H (g1.new id b arr.size) w' (setO H id (.row cs t)) := by
  have hw : ∀ b, g1.S b → w'.heap[b]? = w'.heap[b]? := fun b hb => rfl
  have hG := get_setO (o := .row cs t) hid
  have hL : ∀ r, Live (setO H id (.row cs t)) r → r = id ∨ (r ≠ id ∧ Live H r) := by
    rintro r ⟨c, u, h⟩
    rw [hG] at h
    by_cases e : r = id
    · exact .inl e
    · rw [if_neg e] at h; exact .inr ⟨e, c, u, h⟩
  constructor
  · refine ⟨fun b hb => R.lt b hb, fun r c u h => ?_, fun r r' hr hr' e => ?_, fun r hr => ?_, fun r hr => ?_⟩
    · rw [hG] at h
      by_cases e : r = id
      · rw [if_pos e] at h
        simp only [Option.some.injEq, AO.row.injEq] at h
        obtain ⟨rfl, rfl⟩ := h
        subst e
        refine ⟨arr, by simp only [G.new, if_true]; exact hblk, by simp [G.new], hl, fun j a v ha hv' => G.new_vr hd hw (hv j a v ha hv'), h1, ?_⟩
        simp only [G.new, if_true]
        exact hS
      · rw [if_neg e] at h
        obtain ⟨arr', g1, g3, g4, g5, g6, g7⟩ := R.obj r c u h
        refine ⟨arr', ?_, ?_, g4, fun j a v ha hv' => G.new_vr hd hw (g5 j a v ha hv'), g6, ?_⟩
        · simp only [G.new, if_neg e]; exact g1
        · simp only [G.new, if_neg e]; exact g3
        · simp only [G.new, if_neg e]; exact g7
    · rcases hL r hr with rfl | ⟨e1, l1⟩ <;> rcases hL r' hr' with rfl | ⟨e2, l2⟩
      · rfl
      · simp only [G.new, if_true, if_neg e2] at e; have := ho r' l2; omega
      · simp only [G.new, if_true, if_neg e1] at e; have := ho r l1; omega
      · simp only [G.new, if_neg e1, if_neg e2] at e; exact R.inj r r' l1 l2 e
    · rcases hr with hr | rfl
      · exact Nat.lt_of_lt_of_le (R.dom r hr) (setO_length hid).1
      · exact (setO_length hid).2
    · rcases hL r hr with rfl | ⟨e1, l1⟩
      · exact .inr rfl
      · exact .inl (R.lv r l1)
  · refine ⟨st.os, st.tape, st.output, st.size, st.S, fun r h => .inl (st.D r h), fun r hr => ?_, fun r hr => ?_, st.keep, st.frz, fun r hr => ?_, st.fro⟩
    · simp only [G.new]; rw [if_neg (G.ne hd (st.D r hr))]; exact st.ρ r hr
    · simp only [G.new]; rw [if_neg (G.ne hd (st.D r hr))]; exact st.σ r hr
    · rcases hL r hr with rfl | ⟨e1, l1⟩
      · exact .inr (by simp [G.new, hb])
      · have := st.live r l1
        simp only [G.new, if_neg e1]
        exact this

/-- A new block that is written no more. -/
theorem Rel.frozen {g : G} {w : World} {H : List AO} (o : Obj) (R : Rel g w H) :
    Rel { g with S := fun b => g.S b ∨ b = w.heap.size } (w.alloc o) H ∧ Stp g w H { g with S := fun b => g.S b ∨ b = w.heap.size } (w.alloc o) H := by
  have hw : ∀ b, g.S b → (w.alloc o).heap[b]? = w.heap[b]? := fun b hb => heap_alloc_lt _ _ (R.lt b hb)
  constructor
  · refine ⟨fun b hb => ?_, fun r c u h => ?_, R.inj, R.dom, R.lv⟩
    · simp
      rcases hb with hb | rfl
      · exact Nat.lt_succ_of_lt (R.lt b hb)
      · exact Nat.lt_succ_self _
    · obtain ⟨arr', g1, g3, g4, g5, g6, g7⟩ := R.obj r c u h
      have hb := R.blt (.of h)
      refine ⟨arr', by rw [heap_alloc_lt _ _ hb]; exact g1, g3, g4, fun j a v ha hv' => (g5 j a v ha hv').mono (fun _ h => .inl h) (fun _ h => h) (fun _ _ => rfl) (fun _ _ => rfl) hw, g6, ?_⟩
      rintro (h | h)
      · exact g7 h
      · simp only at h; omega
  · refine ⟨rfl, rfl, rfl, by simp, fun _ h => .inl h, fun _ h => h, fun _ _ => rfl, fun _ _ => rfl, fun b hb _ => heap_alloc_lt _ _ hb, hw, fun r hr => .inl ⟨r, hr, rfl⟩, fun b h => ?_⟩
    rcases h with h | rfl
    · exact .inl h
    · exact .inr (.inr (Nat.le_refl _))

theorem get_set {H : List AO} {r : Nat} {o : AO} (h : r < H.length) (q : Nat) : (H.set r o)[q]? = if q = r then some o else H[q]? := by
  rw [List.getElem?_set]
  by_cases e : r = q
  · subst e; simp [h]
  · simp [e, Ne.symm e]

theorem Live.lt {H : List AO} {r : Nat} (h : Live H r) : r < H.length := by
  obtain ⟨cs, t, h⟩ := h
  exact (List.getElem?_eq_some_iff.1 h).1

/-- An object is written. -/
theorem Rel.write {g : G} {w w' : World} {H : List AO} {r : Nat} {cs cs' : List AV} {t t' : TypeId} {arr' : Array Value} (R : Rel g w H) (hr : H[r]? = some (.row cs t))
    (ho : w'.os = w.os) (htp : w'.tape = w.tape) (hop : w'.output = w.output) (hsz : w'.heap.size = w.heap.size)
    (hb : w'.heap[g.ρ r]? = some (.cells arr' t' (0, 0))) (hsize : arr'.size = g.σ r) (hl : cs'.length ≤ arr'.size)
    (hv : ∀ (j : Nat) (a : AV) (v : Value), cs'[j]? = some a → arr'[j]? = some v → VR g w a v) (h1 : ∀ (j : Nat) (v : Value), arr'[j]? = some v → v.oneCell' = true)
    (hk : ∀ b, b ≠ g.ρ r → w'.heap[b]? = w.heap[b]?) : Rel g w' (H.set r (.row cs' t')) ∧ Stp g w H g w' (H.set r (.row cs' t')) := by
  have hlv : Live H r := .of hr
  have hS : ∀ b, g.S b → w'.heap[b]? = w.heap[b]? := fun b h => hk b (fun e => R.nS hlv (e ▸ h))
  have hm : ∀ {a : AV} {v : Value}, VR g w a v → VR g w' a v := fun h => h.mono (fun _ h => h) (fun _ h => h) (fun _ _ => rfl) (fun _ _ => rfl) hS
  have hL : ∀ q, Live (H.set r (.row cs' t')) q → Live H q := by
    rintro q ⟨c, u, h⟩
    rw [get_set hlv.lt] at h
    by_cases e : q = r
    · subst e; exact hlv
    · rw [if_neg e] at h; exact .of h
  constructor
  · refine ⟨fun b h => by rw [hsz]; exact R.lt b h, fun q c u h => ?_, fun q q' hq hq' e => R.inj q q' (hL q hq) (hL q' hq') e, fun q hq => by rw [List.length_set]; exact R.dom q hq, fun q hq => R.lv q (hL q hq)⟩
    rw [get_set hlv.lt] at h
    by_cases e : q = r
    · rw [if_pos e] at h
      simp only [Option.some.injEq, AO.row.injEq] at h
      obtain ⟨rfl, rfl⟩ := h
      subst e
      exact ⟨arr', hb, hsize, hl, fun j a v ha hv' => hm (hv j a v ha hv'), h1, R.nS hlv⟩
    · rw [if_neg e] at h
      obtain ⟨arr, g1, g3, g4, g5, g6, g7⟩ := R.obj q c u h
      refine ⟨arr, ?_, g3, g4, fun j a v ha hv' => hm (g5 j a v ha hv'), g6, g7⟩
      rw [hk _ (fun e' => e (R.inj q r (.of h) hlv e'))]; exact g1
  · exact ⟨ho, htp, hop, by omega, fun _ h => h, fun _ h => h, fun _ _ => rfl, fun _ _ => rfl, fun b _ h => hk b (fun e => h r hlv e.symm), hS, fun q hq => .inl ⟨q, hL q hq, rfl⟩, fun b h => .inl h⟩

/-- An object goes, another one comes, in its block or in a new one. -/
theorem Rel.move {g : G} {w w' : World} {H : List AO} {r b : Nat} {cs cs' : List AV} {t t' : TypeId} {arr' : Array Value} (R : Rel g w H) (hr : H[r]? = some (.row cs t))
    (ho : w'.os = w.os) (htp : w'.tape = w.tape) (hop : w'.output = w.output) (hsz : w.heap.size ≤ w'.heap.size) (hbb : b = g.ρ r ∨ w.heap.size ≤ b)
    (hb : w'.heap[b]? = some (.cells arr' t' (0, 0))) (hl : cs'.length ≤ arr'.size)
    (hv : ∀ (j : Nat) (a : AV) (v : Value), cs'[j]? = some a → arr'[j]? = some v → VR g w a v) (h1 : ∀ (j : Nat) (v : Value), arr'[j]? = some v → v.oneCell' = true)
    (hk : ∀ b, b < w.heap.size → b ≠ g.ρ r → w'.heap[b]? = w.heap[b]?) :
    Rel (g.new H.length b arr'.size) w' (H.set r .dead ++ [.row cs' t']) ∧ Stp g w H (g.new H.length b arr'.size) w' (H.set r .dead ++ [.row cs' t']) := by
  have hlv : Live H r := .of hr
  have hd : ¬ g.D H.length := fun h => Nat.lt_irrefl _ (R.dom _ h)
  have hS : ∀ b, g.S b → w'.heap[b]? = w.heap[b]? := fun b h => hk b (R.lt b h) (fun e => R.nS hlv (e ▸ h))
  have hm : ∀ {a : AV} {v : Value}, VR g w a v → VR (g.new H.length b arr'.size) w' a v := fun h => G.new_vr hd hS h
  have hG : ∀ q, (H.set r .dead ++ [.row cs' t'])[q]? = if q = H.length then some (.row cs' t') else if q = r then some .dead else H[q]? := by
    intro q
    rw [List.getElem?_append, List.length_set]
    split
    · rw [get_set hlv.lt, if_neg (by omega : ¬ q = H.length)]
    · by_cases e : q = H.length
      · subst e; simp
      · rw [if_neg e, if_neg (fun e' => by have := hlv.lt; omega), List.getElem?_eq_none (l := H) (by omega), List.getElem?_eq_none (by simp; omega)]
  have hL : ∀ q, Live (H.set r .dead ++ [.row cs' t']) q → q = H.length ∨ (q ≠ H.length ∧ q ≠ r ∧ Live H q) := by
    rintro q ⟨c, u, h⟩
    rw [hG] at h
    by_cases e : q = H.length
    · exact .inl e
    · rw [if_neg e] at h
      by_cases e' : q = r
      · rw [if_pos e'] at h; cases h
      · rw [if_neg e'] at h; exact .inr ⟨e, e', .of h⟩
  have hbq : ∀ q, q ≠ r → Live H q → b ≠ g.ρ q := by
    intro q hq hl' e
    rcases hbb with h | h
    · exact hq (R.inj q r hl' hlv (e.symm.trans h))
    · have := R.blt hl'; omega
  constructor
  · refine ⟨fun b h => Nat.lt_of_lt_of_le (R.lt b h) hsz, fun q c u h => ?_, fun q q' hq hq' e => ?_, fun q hq => ?_, fun q hq => ?_⟩
    · rw [hG] at h
      by_cases e : q = H.length
      · rw [if_pos e] at h
        simp only [Option.some.injEq, AO.row.injEq] at h
        obtain ⟨rfl, rfl⟩ := h
        subst e
        refine ⟨arr', by simpa [G.new] using hb, by simp [G.new], hl, fun j a v ha hv' => hm (hv j a v ha hv'), h1, ?_⟩
        simp only [G.new, if_true]
        intro hs
        rcases hbb with h | h
        · exact R.nS hlv (h ▸ hs)
        · have := R.lt b hs; omega
      · rw [if_neg e] at h
        by_cases e' : q = r
        · rw [if_pos e'] at h; cases h
        rw [if_neg e'] at h
        obtain ⟨arr, g1, g3, g4, g5, g6, g7⟩ := R.obj q c u h
        refine ⟨arr, ?_, by simpa [G.new, e] using g3, g4, fun j a v ha hv' => hm (g5 j a v ha hv'), g6, by simpa [G.new, e] using g7⟩
        simp only [G.new, if_neg e]
        rw [hk _ (R.blt (.of h)) (fun e'' => e' (R.inj q r (.of h) hlv e''))]; exact g1
    · rcases hL q hq with rfl | ⟨e1, f1, l1⟩ <;> rcases hL q' hq' with rfl | ⟨e2, f2, l2⟩
      · rfl
      · simp only [G.new, if_true, if_neg e2] at e; exact absurd e (hbq q' f2 l2)
      · simp only [G.new, if_true, if_neg e1] at e; exact absurd e.symm (hbq q f1 l1)
      · simp only [G.new, if_neg e1, if_neg e2] at e; exact R.inj q q' l1 l2 e
    · simp only [List.length_append, List.length_set, List.length_singleton]
      rcases hq with hq | rfl
      · exact Nat.lt_succ_of_lt (R.dom q hq)
      · exact Nat.lt_succ_self _
    · rcases hL q hq with rfl | ⟨e1, f1, l1⟩
      · exact .inr rfl
      · exact .inl (R.lv q l1)
  · refine ⟨ho, htp, hop, hsz, fun _ h => h, fun _ h => .inl h, fun q hq => ?_, fun q hq => ?_, fun b hb h => hk b hb (fun e => h r hlv e.symm), hS, fun q hq => ?_, fun b h => .inl h⟩
    · simp only [G.new]; rw [if_neg (G.ne hd hq)]
    · simp only [G.new]; rw [if_neg (G.ne hd hq)]
    · rcases hL q hq with rfl | ⟨e1, f1, l1⟩
      · simp only [G.new, if_true]
        rcases hbb with h | h
        · exact .inl ⟨r, hlv, h.symm⟩
        · exact .inr h
      · exact .inl ⟨q, l1, by simp [G.new, e1]⟩

end Go.Ai
