/- The abstract interpreter: slices.Sort at ints, told by the library's contract. No condition. -/
import Derived.Test.YtoemnjclhheeoaaA27
import Derived.Sort.Row
import Derived.Sort.Grow
namespace Go.Ai
open Go.Sort
set_option linter.unusedVariables false
set_option linter.unusedSimpArgs false
set_option linter.unusedSectionVars false

/-- Ints, sorted. -/
def insI (x : Int) : List Int → List Int
  | [] => [x]
  | y :: r => bif decide (x ≤ y) then x :: y :: r else y :: insI x r
def sortI : List Int → List Int
  | [] => []
  | x :: r => insI x (sortI r)

theorem insI_perm (x : Int) : ∀ l, (insI x l).Perm (x :: l)
  | [] => List.Perm.refl _
  | y :: r => by
    simp only [insI]
    by_cases h : x ≤ y
    · simp [h]
    · simp only [h, decide_false, cond_false]
      exact ((insI_perm x r).cons y).trans (List.Perm.swap x y r)
theorem sortI_perm : ∀ l, (sortI l).Perm l
  | [] => List.Perm.refl _
  | x :: r => (insI_perm x (sortI r)).trans ((sortI_perm r).cons x)
theorem insI_sorted (x : Int) : ∀ l, l.Pairwise (· ≤ ·) → (insI x l).Pairwise (· ≤ ·)
  | [], _ => by simp [insI]
  | y :: r, h => by
    simp only [insI]
    rw [List.pairwise_cons] at h
    by_cases hxy : x ≤ y
    · simp only [hxy, decide_true, cond_true, List.pairwise_cons]
      refine ⟨fun a ha => ?_, h.1, h.2⟩
      rcases List.mem_cons.1 ha with rfl | ha
      · exact hxy
      · exact Int.le_trans hxy (h.1 a ha)
    · simp only [hxy, decide_false, cond_false, List.pairwise_cons]
      refine ⟨fun a ha => ?_, insI_sorted x r h.2⟩
      rcases List.mem_cons.1 ((insI_perm x r).mem_iff.1 ha) with rfl | ha
      · omega
      · exact h.1 a ha
theorem sortI_sorted : ∀ l, (sortI l).Pairwise (· ≤ ·)
  | [] => List.Pairwise.nil
  | x :: r => insI_sorted x _ (sortI_sorted r)
theorem sortI_len (l : List Int) : (sortI l).length = l.length := (sortI_perm l).length_eq

theorem sorted_eq : ∀ {l l' : List Int}, l.Perm l' → l.Pairwise (· ≤ ·) → l'.Pairwise (· ≤ ·) → l = l'
  | [], l', h, _, _ => by have := h.length_eq; cases l' with | nil => rfl | cons a r => simp at this
  | x :: r, [], h, _, _ => by have := h.length_eq; simp at this
  | x :: r, y :: r', h, h1, h2 => by
    rw [List.pairwise_cons] at h1 h2
    have hxy : x = y := by
      have m1 : x ∈ y :: r' := h.mem_iff.1 (List.mem_cons_self ..)
      have m2 : y ∈ x :: r := h.mem_iff.2 (List.mem_cons_self ..)
      rcases List.mem_cons.1 m1 with e | m1
      · exact e
      · rcases List.mem_cons.1 m2 with e | m2
        · exact e.symm
        · have := h1.1 y m2; have := h2.1 x m1; omega
    subst hxy
    rw [sorted_eq (List.Perm.cons_inv h) h1.2 h2.2]

theorem sortI_merge (l : List Int) : l.mergeSort (fun x y => decide (x ≤ y)) = sortI l := by
  refine sorted_eq ((List.mergeSort_perm l _).trans (sortI_perm l).symm) ?_ (sortI_sorted l)
  have := List.pairwise_mergeSort (le := fun x y : Int => decide (x ≤ y)) (fun a b c h1 h2 => by simp at *; omega) (fun a b => by simp; omega) l
  exact this.imp fun h => by simpa using h

def intsOf : List AV → Option (List Int)
  | [] => some []
  | .lit (.int .i64 n) :: r => (intsOf r).bind fun l => some (n :: l)
  | _ => none

theorem intsOf_some : ∀ {cs : List AV} {zs : List Int}, intsOf cs = some zs → cs = zs.map (litI .i64)
  | [], zs, h => by simp only [intsOf, Option.some.injEq] at h; subst h; rfl
  | a :: r, zs, h => by
    unfold intsOf at h
    split at h
    · cases ‹_ :: _ = []›
    · rename_i n r' he
      cases he
      obtain ⟨l, h1, h2⟩ := Option.bind_eq_some_iff.1 h
      simp only [Option.some.injEq] at h2; subst h2
      rw [intsOf_some h1]; rfl
    · cases h

theorem intsOf_map : ∀ zs : List Int, intsOf (zs.map (litI .i64)) = some zs
  | [] => rfl
  | z :: zs => by simp only [List.map_cons, litI, intsOf]; have := intsOf_map zs; unfold litI at this ⊢; rw [this]; rfl

section
variable {P : Program} {g : G} {w : World} {H : List AO}

theorem holds_row {q o n : Nat} {cs : List AV} {t : TypeId} {zs : List Int} (R : Rel g w H) (hr : H[q]? = some (.row cs t)) (hb : o + n ≤ cs.length) (hcs : (cs.drop o).take n = zs.map (litI .i64)) :
    zs.length = n ∧ Holds (Value.int .i64) w (g.ρ q) o zs.toArray := by
  have hzl : zs.length = n := by
    have := congrArg List.length hcs
    rw [List.length_take, List.length_drop, List.length_map] at this; omega
  obtain ⟨arr, a1, a2, a3, a4, a5, a6⟩ := R.row hr
  refine ⟨hzl, fun j hj => ?_⟩
  have hj' : j < zs.length := by simpa using hj
  have h1 : cs[o + j]? = some (litI .i64 zs[j]) := by
    have e1 : ((cs.drop o).take n)[j]? = some (litI .i64 zs[j]) := by rw [hcs]; simp [hj']
    rw [List.getElem?_take, if_pos (by omega), List.getElem?_drop] at e1
    exact e1
  have h2 : o + j < arr.size := by omega
  have h3 := a4.2 (o + j) _ arr[o + j] h1 (by rw [List.getElem?_take, if_pos (by omega)]; simp [h2])
  have h4 := h3.lit_inv
  refine ⟨?_, by simp [World.frozen?, a1]⟩
  simp only [World.cell?, a1, Option.isSome_none, Bool.false_eq_true, if_false]
  rw [Array.getElem?_eq_getElem h2, h4]
  simp [hj']

/-- Ints laid into an object's cells, and new blocks behind. -/
theorem rel_putRow {q o n : Nat} {cs : List AV} {t : TypeId} {ys : List Int} (m : Nat) (os : Array Obj) (R : Rel g w H) (hr : H[q]? = some (.row cs t)) (hb : o + n ≤ cs.length) (hsl : ys.length = n) :
    ∃ g', Rel g' (grow (putRow (Value.int .i64) (Sort.ahead w m) (g.ρ q) o ys.toArray) os) (setL H q (.row (cs.take o ++ ys.map (litI .i64) ++ cs.drop (o + n)) t)) ∧
      Stp g w H g' (grow (putRow (Value.int .i64) (Sort.ahead w m) (g.ρ q) o ys.toArray) os) (setL H q (.row (cs.take o ++ ys.map (litI .i64) ++ cs.drop (o + n)) t)) ∧ g'.D = g.D ∧ g'.ρ = g.ρ ∧ g'.σ = g.σ := by
  obtain ⟨arr, a1, a2, a3, a4, a5, a6⟩ := R.row hr
  have hblk : g.ρ q < w.heap.size := R.blt (.of hr)
  have hput : ∀ (j : Nat) (v : Value), (putCells (Value.int .i64) o ys.toArray arr)[j]? = some v → (o ≤ j ∧ j < o + n ∧ ∃ z, ys[j - o]? = some z ∧ v = .int .i64 z) ∨ ((j < o ∨ o + n ≤ j) ∧ arr[j]? = some v) := by
    intro j v hv
    unfold putCells at hv
    rw [Array.getElem?_mapIdx] at hv
    cases ha : arr[j]? with
    | none => rw [ha] at hv; cases hv
    | some x =>
      rw [ha] at hv
      simp only [Option.map_some, Option.some.injEq] at hv
      by_cases hc : o ≤ j ∧ j < o + ys.toArray.size
      · rw [if_pos hc] at hv
        left
        have hlt : j - o < ys.length := by simp at hc; omega
        refine ⟨hc.1, by simp at hc; omega, ys[j - o], List.getElem?_eq_getElem hlt, ?_⟩
        rw [← hv]
        simp [hlt]
      · rw [if_neg hc] at hv
        right
        simp at hc
        exact ⟨by omega, by rw [← hv]⟩
  have hsz : (putCells (Value.int .i64) o ys.toArray arr).size = arr.size := by simp [putCells]
  obtain ⟨q1, q2⟩ := Rel.write (w' := putRow (Value.int .i64) (Sort.ahead w m) (g.ρ q) o ys.toArray) (arr' := putCells (Value.int .i64) o ys.toArray arr) (cs' := cs.take o ++ ys.map (litI .i64) ++ cs.drop (o + n)) (t' := t) R hr rfl rfl rfl
    (by simp [putRow, mapBlock, Sort.ahead]) (by simp [putRow, mapBlock, Sort.ahead, Array.getElem?_modify, a1, onCells]) (by rw [hsz]; exact a2)
    (by rw [hsz]; simp only [List.length_append, List.length_take, List.length_map, List.length_drop, hsl]; omega)
    (fun j a v ha hv => by
      rcases hput j v hv with ⟨h1, h2, z, h3, rfl⟩ | ⟨h1, h2⟩
      · rw [List.append_assoc, List.getElem?_append_right (by simp; omega), List.getElem?_append_left (by simp; omega)] at ha
        have e : j - (cs.take o).length = j - o := by rw [List.length_take]; omega
        rw [e, List.getElem?_map, h3] at ha
        simp only [Option.map_some, Option.some.injEq] at ha
        subst ha
        exact .fv _ _ (.lit _)
      · have hold : cs[j]? = some a := by
          rcases h1 with h1 | h1
          · rw [List.append_assoc, List.getElem?_append_left (by simp; omega), List.getElem?_take, if_pos h1] at ha
            exact ha
          · rw [List.getElem?_append_right (by simp; omega)] at ha
            have e : j - (cs.take o ++ ys.map (litI .i64)).length = j - (o + n) := by simp only [List.length_append, List.length_take, List.length_map]; omega
            rw [e, List.getElem?_drop, show o + n + (j - (o + n)) = j by omega] at ha
            exact ha
        refine a4.2 j a v hold ?_
        have : j < cs.length := (List.getElem?_eq_some_iff.1 hold).1
        rw [List.getElem?_take, if_pos this, Array.getElem?_toList]; exact h2)
    (fun j v hv => by
      rcases hput j v hv with ⟨h1, h2, z, h3, rfl⟩ | ⟨h1, h2⟩
      · rfl
      · exact a5 v (List.mem_of_getElem? (by rw [Array.getElem?_toList]; exact h2)))
    (fun b hb => by
      have : ¬ g.ρ q = b := fun e => hb e.symm
      simp [putRow, mapBlock, Sort.ahead, Array.getElem?_modify, this])
  obtain ⟨p1, p2⟩ := q1.outer (w' := grow (putRow (Value.int .i64) (Sort.ahead w m) (g.ρ q) o ys.toArray) os) (fun b hb => by simp only [grow]; rw [Array.getElem?_append_left hb]) (by simp [grow]) rfl rfl rfl g.S (fun _ h => h) (fun _ h => .inl h) (fun b hb => by
    have := q1.lt b hb
    simp only [grow, Array.size_append]; omega)
  exact ⟨_, p1, q2.trans p2, rfl, rfl, rfl⟩

theorem one_arg {vs : Array Value} {a : AV} (V : VRs g w [a] vs.toList) : ∃ v, vs = #[v] ∧ VR g w a v := by
  have hl := V.1
  match hvs : vs.toList, hl, V with
  | [v], _, V => exact ⟨v, by apply Array.ext'; simpa using hvs, V.2 0 a v rfl (by rfl)⟩
end

/-- One of the library's functions over a slice of ints: new ints in its place. -/
def intsG (f : List Int → List Int) (res : Nat → Nat → Option Nat → Nat → AV) (args : List AV) (H : List AO) : Option (R × List AO) :=
  match args with
  | [.own r off n e cap] => bif (e == 1 && Nat.ble n 1099511627776) then bif n == 0 then some (.ret (res r off cap 0), H) else (rowAt H r).bind fun p =>
    bif Nat.ble (off + n) p.1.length then (intsOf ((p.1.drop off).take n)).bind fun zs =>
      bif Nat.ble (f zs).length n then some (.ret (res r off cap (f zs).length), setL H r (.row (p.1.take off ++ (f zs ++ List.replicate (n - (f zs).length) 0).map (litI .i64) ++ p.1.drop (off + n)) p.2)) else none else none else none
  | _ => none

/-- What slices.Sort does. -/
def sortG (args : List AV) (H : List AO) : Option (R × List AO) :=
  match args with
  | [.sl _ [] _] => some (.ret (.tup []), H)
  | _ => intsG sortI (fun _ _ _ _ => .tup []) args H
/-- What slices.Reverse does. -/
def reverseG (args : List AV) (H : List AO) : Option (R × List AO) :=
  match args with
  | [.sl _ [] _] => some (.ret (.tup []), H)
  | _ => intsG List.reverse (fun _ _ _ _ => .tup []) args H
/-- Runs of equal ints, each once. -/
def compI' : List Int → List Int
  | [] => []
  | [x] => [x]
  | x :: y :: r => bif x == y then compI' (y :: r) else x :: compI' (y :: r)
def compactG (args : List AV) (H : List AO) : Option (R × List AO) :=
  match args with
  | [.sl e [] cap] => some (.ret (.sl e [] cap), H)
  | _ => intsG compI' (fun r off cap n => .own r off n 1 cap) args H

theorem intsG_ok {P : Program} {f : FuncId} {F : List Int → List Int} {res : Nat → Nat → Option Nat → Nat → AV} {ret : Option Addr → Nat → Nat → Value} (en : ∀ args w, (callFunc f args).run P w = .ok (.enter f args) w)
    (hc : ∀ (blk off cap : Nat) (zs : List Int) (w : World), Holds (Value.int .i64) w blk off zs.toArray → blk < w.heap.size → zs.length < 4611686018427387904 → zs.length ≤ cap → (F zs).length ≤ zs.length →
      Calls P f #[.slice (some ⟨blk, off, none⟩) zs.length cap] w fun e w' => e = .returned (ret (some ⟨blk, off, none⟩) (F zs).length cap) ∧ ∃ n os, w' = grow (putRow (Value.int .i64) (Sort.ahead w n) blk off (F zs ++ List.replicate (zs.length - (F zs).length) 0).toArray) os)
    (hn : ∀ (p : Option Addr) (cap : Nat) (w : World), Calls P f #[.slice p 0 cap] w fun e w' => e = .returned (ret p 0 cap) ∧ w' = w)
    (hres : ∀ (g : G) (w : World) (r off n m : Nat) (cap : Option Nat) (o c : Nat), m ≤ n → VR g w (.own r off n 1 cap) (.slice (some ⟨g.ρ r, o, none⟩) n c) → VR g w (res r off cap m) (ret (some ⟨g.ρ r, o, none⟩) m c))
    {args : List AV} {H : List AO} {r : R} {H' : List AO} (h : intsG F res args H = some (r, H')) {w : World} {g : Ai.G} {vs : Array Value} (R : Rel g w H) (V : VRs g w args vs.toList) :
    FOk P f vs w fun e w' => ∃ g', Rel g' w' H' ∧ Stp g w H g' w' H' ∧ ERel g' w' r e := by
  refine .inl ⟨en vs w, ?_⟩
  unfold intsG at h
  split at h
  · rename_i q off n e cap
    obtain ⟨v, rfl, hv⟩ := one_arg V
    by_cases he : (e == 1 && Nat.ble n 1099511627776) = true
    case neg => rw [Bool.eq_false_iff.mpr he] at h; cases h
    rw [he] at h
    simp only [cond_true] at h
    simp only [Bool.and_eq_true, beq_iff_eq] at he
    obtain ⟨rfl, hbig⟩ := he
    have hbig := Nat.le_of_ble_eq_true hbig
    have hv0 := hv
    obtain ⟨o, c, rfl, k0, k1, k2, k3, k4⟩ := hv.own_inv
    by_cases h0 : n = 0
    · subst h0
      simp only [beq_self_eq_true, cond_true, Option.some.injEq, Prod.mk.injEq] at h
      obtain ⟨rfl, rfl⟩ := h
      refine (hn _ c w).mono fun E w' ⟨he, hw⟩ => ?_
      subst hw
      exact ⟨g, R, Stp.refl, _, he, hres g w' q off 0 0 cap o c (Nat.le_refl _) hv0⟩
    rw [beq_of_ne h0] at h
    simp only [cond_false] at h
    obtain ⟨⟨cs, t⟩, hp, h⟩ := Option.bind_eq_some_iff.1 h
    by_cases hb : Nat.ble (off + n) cs.length = true
    case neg => simp only at h; rw [Bool.eq_false_iff.mpr hb] at h; cases h
    simp only at h
    rw [hb] at h
    simp only [cond_true] at h
    have hb : off + n ≤ cs.length := Nat.le_of_ble_eq_true hb
    obtain ⟨zs, hz, h⟩ := Option.bind_eq_some_iff.1 h
    by_cases hf : Nat.ble (F zs).length n = true
    case neg => rw [Bool.eq_false_iff.mpr hf] at h; cases h
    rw [hf] at h
    have hf : (F zs).length ≤ n := Nat.le_of_ble_eq_true hf
    simp only [cond_true, Option.some.injEq, Prod.mk.injEq] at h
    obtain ⟨rfl, rfl⟩ := h
    have hr : H[q]? = some (.row cs t) := rowAt_inv hp
    have ho := k3 (by omega)
    subst ho
    obtain ⟨hzl, hH⟩ := holds_row R hr hb (intsOf_some hz)
    have hblk : g.ρ q < w.heap.size := R.blt (.of hr)
    have hcall := hc (g.ρ q) o c zs w hH hblk (by omega) (by omega) (by omega)
    rw [hzl] at hcall
    refine hcall.mono ?_
    rintro E w' ⟨rfl, m, os, rfl⟩
    obtain ⟨g', p1, p2, p3, p4, p5⟩ := rel_putRow (n := n) (ys := F zs ++ List.replicate (n - (F zs).length) 0) m os R hr hb (by simp; omega)
    refine ⟨g', p1, p2, _, rfl, ?_⟩
    have := hres g' _ q o n (F zs).length cap o c hf (by rw [p4]; exact p2.vr hv0)
    rw [p4] at this
    exact this
  · cases h

theorem own_cut {g : G} {w : World} {r off n m : Nat} {cap : Option Nat} {o c : Nat} (hm : m ≤ n) (h : VR g w (.own r off n 1 cap) (.slice (some ⟨g.ρ r, o, none⟩) n c)) : VR g w (.own r off m 1 cap) (.slice (some ⟨g.ρ r, o, none⟩) m c) := by
  obtain ⟨o', c', e, k0, k1, k2, k3, k4⟩ := h.own_inv
  simp only [Value.slice.injEq, Option.some.injEq, Addr.mk.injEq, true_and, and_true] at e
  obtain ⟨rfl, rfl⟩ := e
  exact .own r off m 1 cap o c k0 (by omega) k2 k3 k4

theorem sortG_ok {P : Program} {f : FuncId} (en : ∀ args w, (callFunc f args).run P w = .ok (.enter f args) w)
    (hc : ∀ (blk off cap : Nat) (zs : List Int) (w : World), Holds (Value.int .i64) w blk off zs.toArray → blk < w.heap.size → zs.length < 4611686018427387904 →
      Calls P f #[.slice (some ⟨blk, off, none⟩) zs.length cap] w fun e w' => e = .returned (.tuple #[]) ∧ ∃ n os, w' = grow (putRow (Value.int .i64) (Sort.ahead w n) blk off (zs.mergeSort fun x y => decide (x ≤ y)).toArray) os)
    (hn : ∀ (p : Option Addr) (cap : Nat) (w : World), Calls P f #[.slice p 0 cap] w fun e w' => e = .returned (.tuple #[]) ∧ w' = w) : OneOk P f sortG := by
  intro args H r H' h w g vs R V
  unfold sortG at h
  split at h
  · simp only [Option.some.injEq, Prod.mk.injEq] at h
    obtain ⟨rfl, rfl⟩ := h
    obtain ⟨v, rfl, hv⟩ := one_arg V
    obtain ⟨a, c, _, rfl, _⟩ := hv.sl_inv
    refine .inl ⟨en _ w, (hn a c w).mono fun E w' ⟨he, hw⟩ => ?_⟩
    subst hw
    exact ⟨g, R, Stp.refl, _, he, .fv _ _ (.tup _ _ rfl (by simp))⟩
  · refine intsG_ok (ret := fun _ _ _ => .tuple #[]) en (fun blk off cap zs w hH hb hs _ _ => ?_) (fun p cap w => hn p cap w) (fun _ _ _ _ _ _ _ _ _ _ _ => .fv _ _ (.tup _ _ rfl (by simp))) h R V
    have := hc blk off cap zs w hH hb hs
    rw [sortI_merge] at this
    rw [sortI_len, Nat.sub_self, List.replicate_zero, List.append_nil]
    exact this

theorem reverseG_ok {P : Program} {f : FuncId} (en : ∀ args w, (callFunc f args).run P w = .ok (.enter f args) w)
    (hc : ∀ (blk off cap : Nat) (zs : List Int) (w : World), Holds (Value.int .i64) w blk off zs.toArray → zs.length ≤ 9223372036854775807 →
      Calls P f #[.slice (some ⟨blk, off, none⟩) zs.length cap] w fun e w' => e = .returned (.tuple #[]) ∧ ∃ n, w' = putRow (Value.int .i64) (Sort.ahead w n) blk off zs.reverse.toArray)
    (hn : ∀ (p : Option Addr) (cap : Nat) (w : World), Calls P f #[.slice p 0 cap] w fun e w' => e = .returned (.tuple #[]) ∧ w' = w) : OneOk P f reverseG := by
  intro args H r H' h w g vs R V
  unfold reverseG at h
  split at h
  · simp only [Option.some.injEq, Prod.mk.injEq] at h
    obtain ⟨rfl, rfl⟩ := h
    obtain ⟨v, rfl, hv⟩ := one_arg V
    obtain ⟨a, c, _, rfl, _⟩ := hv.sl_inv
    refine .inl ⟨en _ w, (hn a c w).mono fun E w' ⟨he, hw⟩ => ?_⟩
    subst hw
    exact ⟨g, R, Stp.refl, _, he, .fv _ _ (.tup _ _ rfl (by simp))⟩
  · refine intsG_ok (ret := fun _ _ _ => .tuple #[]) en (fun blk off cap zs w hH hb hs _ _ => ?_) (fun p cap w => hn p cap w) (fun _ _ _ _ _ _ _ _ _ _ _ => .fv _ _ (.tup _ _ rfl (by simp))) h R V
    refine (hc blk off cap zs w hH (by omega)).mono ?_
    rintro E w' ⟨rfl, n, rfl⟩
    refine ⟨rfl, n, #[], ?_⟩
    rw [List.length_reverse, Nat.sub_self, List.replicate_zero, List.append_nil, grow_empty]

theorem compactG_ok {P : Program} {f : FuncId} (en : ∀ args w, (callFunc f args).run P w = .ok (.enter f args) w)
    (hc : ∀ (blk off cap : Nat) (zs : List Int) (w : World), Holds (Value.int .i64) w blk off zs.toArray → zs.length ≤ 9223372036854775807 → zs.length ≤ cap →
      Calls P f #[.slice (some ⟨blk, off, none⟩) zs.length cap] w fun e w' => e = .returned (.slice (some ⟨blk, off, none⟩) (compI' zs).length cap) ∧ ∃ q, w' = putRow (Value.int .i64) (Sort.ahead w q) blk off (compI' zs ++ List.replicate (zs.length - (compI' zs).length) 0).toArray)
    (hn : ∀ (a : Option Addr) (cap : Nat) (w : World), Calls P f #[.slice a 0 cap] w fun e w' => e = .returned (.slice a 0 cap) ∧ w' = w) : OneOk P f compactG := by
  intro args H r H' h w g vs R V
  unfold compactG at h
  split at h
  · simp only [Option.some.injEq, Prod.mk.injEq] at h
    obtain ⟨rfl, rfl⟩ := h
    obtain ⟨v, rfl, hv⟩ := one_arg V
    have hv0 := hv
    obtain ⟨a, c, _, rfl, _⟩ := hv.sl_inv
    refine .inl ⟨en _ w, (hn a c w).mono fun E w' ⟨he, hw⟩ => ?_⟩
    subst hw
    exact ⟨g, R, Stp.refl, _, he, hv0⟩
  · refine intsG_ok (ret := fun a n c => .slice a n c) en (fun blk off cap zs w hH hb hs h1 h2 => ?_) (fun p cap w => hn p cap w) (fun g w r off n m cap o c hm hv => own_cut hm hv) h R V
    refine (hc blk off cap zs w hH (by omega) h1).mono ?_
    rintro E w' ⟨rfl, n, rfl⟩
    exact ⟨rfl, n, #[], by rw [grow_empty]⟩
end Go.Ai
