/- Seat of layers 14 and 15: the document's Right, whole. No condition. -/
import Derived.Test.YtcgbdndkfonphaaG9
set_option linter.unusedSimpArgs false
set_option linter.unusedVariables false
set_option linter.unusedSectionVars false
open Nat (reduceLT reduceEqDiff reduceAdd)
namespace Go.Proofs.Ytcgbdndkfonphaa.Ai
open Go Go.Ai
section
variable {call : CallF} {mt : MtF} {md : FuncId → Md}
theorem placeF_spec (v : Int) : ∀ (r : List Int) (n : Nat), (placeF v n r = -1 ∧ ¬ v ∈ r) ∨ ∃ j : Nat, placeF v n r = ((n + j : Nat) : Int) ∧ r[j]? = some v ∧ ¬ v ∈ r.take j
  | [], n => .inl ⟨rfl, by simp⟩
  | x :: r, n => by
    rw [placeF]
    by_cases h : x = v
    · right; rw [if_pos h]; exact ⟨0, rfl, by simp [h], by simp⟩
    · rw [if_neg h]
      rcases placeF_spec v r (n + 1) with ⟨h1, h2⟩ | ⟨j, h1, h2, h3⟩
      · left; exact ⟨h1, by simp [Ne.symm h, h2]⟩
      · right; refine ⟨j + 1, by rw [h1]; congr 1; omega, by simpa using h2, ?_⟩
        rw [List.take_succ_cons, List.mem_cons]
        rintro (h4 | h4)
        · exact h h4.symm
        · exact h3 h4
theorem placeI_mem {v : Int} {r : List Int} (h : ¬ placeI r v < 0) : v ∈ r := by
  rcases placeF_spec v r 0 with ⟨h1, _⟩ | ⟨j, _, h2, _⟩
  · unfold placeI at h; omega
  · exact List.mem_of_getElem? h2
theorem perm_rng {ord : List Int} {n : Nat} (hl : ord.length = n) (h : ∀ v : Nat, v < n → (v : Int) ∈ ord) : ∀ x ∈ ord, 0 ≤ x ∧ x < (n : Int) := by
  intro x hx
  apply Classical.byContradiction
  intro hc
  have h1 : ∀ v ∈ List.range n, v ∈ (ord.erase x).map Int.toNat := by
    intro v hv
    have hvo := h v (List.mem_range.1 hv)
    have hlt := List.mem_range.1 hv
    have hne : (v : Int) ≠ x := fun e => hc (by omega)
    exact List.mem_map.2 ⟨v, (List.mem_erase_of_ne hne).2 hvo, by simp⟩
  have := nodup_le List.nodup_range h1
  rw [List.length_map, List.length_erase_of_mem hx] at this
  have := List.length_pos_of_mem hx
  simp at *
  omega
theorem rright_call (f : FlatV) (F : FitsS f) {O S : AV} {ord slots : List Int} (hO : RowA O ord) (hS : RowA S slots) (hlo : ord.length ≤ 1000000) (hls : slots.length ≤ 1000000) (m : Int) (H : List AO) (id : Nat) :
    callV cw mds 20 [flatA f, planA O S m] H id = some (.val (litB (rightR f ord slots m)) none) := by
  obtain ⟨eO, xO, cO, eqO⟩ := hO.cases
  obtain ⟨eS, xS, cS, eqS⟩ := hS.cases
  have hw : [flatA f, planA O S m].all wholeA = true := by rw [eqO, eqS]; rfl
  suffices hs : ∃ H', cw 20 [flatA f, planA O S m] [] = some (.ret (litB (rightR f ord slots m)), H') by
    obtain ⟨H', h⟩ := hs
    exact callV_pureA rfl hw h rfl
  have hgc : ∀ H id, callV cw mds 25 [.agg f.cs] H id = some (.val (litB (goodOk f)) none) := fun H id => by rw [good_eq]; exact rgood_call f F.fits H id
  have hb : ∀ id, boxV id 3 (planA O S m) 32 = some (.val (.ptr id 0) (some (.row [O, S, litI .i64 m] 32))) := fun id => boxV_agg rfl (by simp [hO.cell.1, hS.cell.1]; rfl)
  have lA : Ai.load [.row f.cs 29, .row [O, S, litI .i64 m] 32] (some 8) (.ptr 0 0) = some (.agg f.cs) := load_agg rfl rfl
  have l1 : Ai.load [.row f.cs 29, .row [O, S, litI .i64 m] 32] none (.ptr 0 1) = some (strs f.names) := rfl
  have k0 : Ai.load [.row f.cs 29, .row [O, S, litI .i64 m] 32] none (.ptr 1 0) = some O := rfl
  have k1 : Ai.load [.row f.cs 29, .row [O, S, litI .i64 m] 32] none (.ptr 1 1) = some S := rfl
  have hnn := F.names
  unfold rightR
  cases hG : goodOk f with
  | false =>
    rw [hG] at hgc
    refine ⟨_, cw_of fn20 (c := c20) (r := (.ret (litB false), rrH f O S m)) rfl rfl rfl rfl ?_⟩
    simp -implicitDefEqProofs only [c20, aW, ↓aP, makes, reduceLT, reduceEqDiff, reduceAdd, core_box, flat_f, hb, List.length_nil, List.length_cons, fadr_ptr, Nat.zero_add, l1, lenV_strs, lA, hgc]
    rfl
  | true =>
  rw [hG] at hgc
  cases e1 : ((ord.length : Int) == (f.names.length : Int)) with
  | false =>
    have e1' : ((ord.length : Int) != (f.names.length : Int)) = true := by rw [bne, e1]; rfl
    refine ⟨_, cw_of fn20 (c := c20) (r := (.ret (litB false), rrH f O S m)) rfl rfl rfl rfl ?_⟩
    simp -implicitDefEqProofs only [c20, aW, ↓aP, makes, reduceLT, reduceEqDiff, reduceAdd, core_box, flat_f, hb, List.length_nil, List.length_cons, fadr_ptr, Nat.zero_add, l1, lenV_strs, lA, hgc, k0, hO.lenV, e1']
    rfl
  | true =>
  have e1' : ((ord.length : Int) != (f.names.length : Int)) = false := by rw [bne, e1]; rfl
  cases e2 : ((slots.length : Int) == (f.names.length : Int)) with
  | false =>
    have e2' : ((slots.length : Int) != (f.names.length : Int)) = true := by rw [bne, e2]; rfl
    refine ⟨_, cw_of fn20 (c := c20) (r := (.ret (litB false), rrH f O S m)) rfl rfl rfl rfl ?_⟩
    simp -implicitDefEqProofs only [c20, aW, ↓aP, makes, reduceLT, reduceEqDiff, reduceAdd, core_box, flat_f, hb, List.length_nil, List.length_cons, fadr_ptr, Nat.zero_add, l1, lenV_strs, lA, hgc, k0, hO.lenV, e1', k1, hS.lenV, e2']
    rfl
  | true =>
  have e2' : ((slots.length : Int) != (f.names.length : Int)) = false := by rw [bne, e2]; rfl
  have hol : ord.length = f.names.length := by have := eq_of_beq e1; omega
  have hsl : slots.length = f.names.length := by have := eq_of_beq e2; omega
  have G := goodF_of hG
  obtain ⟨A, hA, hN⟩ := needs27_call f F hG
  have hNc : ∀ H id, callV cw mds 27 [.agg f.cs] H id = some (.val A none) := hN
  have L1 := rr1_loop f O S A (NR f) hA (fun r hr => by have := NR_60 f F G r hr; omega) ord slots hO hS hlo m f.names.length (by omega) hsl f.names.length 0 (by omega)
  rw [show ((0 : Nat) : Int) = 0 from rfl, List.drop_zero, show rrH f O S m = [.row f.cs 29, .row [O, S, litI .i64 m] 32] from rfl] at L1
  cases e3 : (List.range f.names.length).all (varR (NR f) ord slots m f.names.length) with
  | false =>
    rw [e3, if_neg (by simp)] at L1
    refine ⟨_, cw_of fn20 (c := c20) (r := (.ret (litB false), rrH f O S m)) rfl rfl rfl rfl ?_⟩
    simp -implicitDefEqProofs only [c20, aW, ↓aP, makes, reduceLT, reduceEqDiff, reduceAdd, core_box, flat_f, hb, List.length_nil, List.length_cons, fadr_ptr, Nat.zero_add, l1, lenV_strs, lA, hgc, k0, hO.lenV, e1', k1, hS.lenV, e2', hNc, L1]
    rfl
  | true =>
  rw [e3, if_pos rfl] at L1
  have hr : ∀ x ∈ ord, 0 ≤ x ∧ x < (f.names.length : Int) := by
    refine perm_rng hol fun v hv => ?_
    rw [List.all_eq_true] at e3
    have := e3 v (List.mem_range.2 hv)
    simp only [varR, Bool.and_eq_true, Bool.not_eq_true', decide_eq_false_iff_not] at this
    exact placeI_mem this.1.1.1
  have hLc : ∀ H id, callV cw mds 21 [.agg f.cs, O] H id = some (.val (rowC (lastsR f ord) (some f.names.length)) none) := fun H id => lasts_call f F hG hO (by omega) H id
  have L3 := rr3_loop f O S ord slots hO hS m f.names.length (by omega) (lastsR f ord) (some f.names.length) (by simp [lastsR]) hsl hol hr f.names.length 0 (by omega)
  rw [show ((0 : Nat) : Int) = 0 from rfl, List.drop_zero, show rrH f O S m = [.row f.cs 29, .row [O, S, litI .i64 m] 32] from rfl] at L3
  cases e4 : (List.range f.names.length).all (fun i => (List.range i).all (apartR (lastsR f ord) ord slots i)) with
  | false =>
    rw [e4, if_neg (by simp)] at L3
    refine ⟨_, cw_of fn20 (c := c20) (r := (.ret (litB false), rrH f O S m)) rfl rfl rfl rfl ?_⟩
    simp -implicitDefEqProofs only [c20, aW, ↓aP, makes, reduceLT, reduceEqDiff, reduceAdd, core_box, flat_f, hb, List.length_nil, List.length_cons, fadr_ptr, Nat.zero_add, l1, lenV_strs, lA, hgc, k0, hO.lenV, e1', k1, hS.lenV, e2', hNc, L1, hLc, L3]
    rfl
  | true =>
    rw [e4, if_pos rfl] at L3
    refine ⟨_, cw_of fn20 (c := c20) (r := (.ret (litB true), rrH f O S m)) rfl rfl rfl rfl ?_⟩
    simp -implicitDefEqProofs only [c20, aW, ↓aP, makes, reduceLT, reduceEqDiff, reduceAdd, core_box, flat_f, hb, List.length_nil, List.length_cons, fadr_ptr, Nat.zero_add, l1, lenV_strs, lA, hgc, k0, hO.lenV, e1', k1, hS.lenV, e2', hNc, L1, hLc, L3]
    rfl
end
section
set_option maxRecDepth 1000000 in
theorem awake18_says : saysTrue (callB (lookF tb) ovs (lookM mtl) mds 30 18 [] []) = true := by kernel_rfl
theorem awake18_tells : ∃ H', cw 18 [] [] = some (.ret (litB true), H') := by
  obtain ⟨H', h⟩ := saysTrue_some awake18_says
  exact ⟨H', callW_some.2 ⟨30, callB_le 30 _ _ _ _ h⟩⟩
theorem awake18_call (H : List AO) (id : Nat) : callV cw mds 18 [] H id = some (.val (litB true) none) := by
  obtain ⟨H', h⟩ := awake18_tells
  exact callV_pure rfl rfl h rfl
end
section
theorem setN_other (g : Eqn → List Int) (v : Nat) : ∀ (l : List Eqn) (rows : List (List Int)), (∀ q ∈ l, q.var.toNat ≠ v) → (setN g rows l).getD v [] = rows.getD v []
  | [], _, _ => rfl
  | q :: l, rows, h => by
    rw [setN, setN_other g v l _ fun q' hq => h q' (List.mem_cons_of_mem _ hq)]
    rw [List.getD_eq_getElem?_getD, List.getElem?_set_ne (h q (List.mem_cons_self ..)), ← List.getD_eq_getElem?_getD]
theorem setN_get (g : Eqn → List Int) : ∀ (l : List Eqn) (rows : List (List Int)), (∀ q ∈ l, 0 ≤ q.var ∧ q.var < (rows.length : Int)) → (l.map (·.var)).Nodup → ∀ q ∈ l, (setN g rows l).getD q.var.toNat [] = g q
  | [], _, _, _ => by simp
  | q :: l, rows, h, hn => by
    rw [List.map_cons, List.nodup_cons] at hn
    have hq := h q (List.mem_cons_self ..)
    intro q' hq'
    rw [setN]
    rcases List.mem_cons.1 hq' with rfl | hq'
    · rw [setN_other g _ l _ fun x hx e => hn.1 (List.mem_map.2 ⟨x, hx, by have := h x (List.mem_cons_of_mem _ hx); omega⟩)]
      rw [List.getD_eq_getElem?_getD, List.getElem?_set_self (by omega)]; rfl
    · exact setN_get g l _ (fun x hx => by rw [List.length_set]; exact h x (List.mem_cons_of_mem _ hx)) hn.2 q' hq'
theorem NC_get (f : FlatV) (G : GoodF f) (q : Eqn) (hq : q ∈ f.eqs) : (NC f).getD q.var.toNat [] = needC f q := setN_get (needC f) f.eqs _ (fun q hq => by rw [List.length_replicate]; exact G.var q hq) G.nodup q hq
theorem NR_get (f : FlatV) (G : GoodF f) (q : Eqn) (hq : q ∈ f.eqs) : (NR f).getD q.var.toNat [] = needR f q := setN_get (needR f) f.eqs _ (fun q hq => by rw [List.length_replicate]; exact G.var q hq) G.nodup q hq
theorem mem_needC (f : FlatV) (q : Eqn) (x : Int) : x ∈ needC f q ↔ 0 ≤ x ∧ x ∈ needR f q := by
  unfold needC needR
  rw [List.mem_filter, Ord.mem_compI, Ord.mem_sortI]
  simp only [Bool.not_eq_true', decide_eq_false_iff_not, List.mem_append, List.mem_cons, List.not_mem_nil, or_false]
  constructor
  · rintro ⟨(h | h) | h, h0⟩
    · exact ⟨by omega, .inl (.inl h)⟩
    · exact ⟨by omega, .inr h⟩
    · refine ⟨by omega, .inl (.inr ?_)⟩
      rw [if_pos (by omega)]; simp [h]
  · rintro ⟨h0, (h | h) | h⟩
    · exact ⟨.inl (.inl h), by omega⟩
    · split at h
      · simp only [List.mem_cons, List.not_mem_nil, or_false] at h; exact ⟨.inr h, by omega⟩
      · cases h
    · exact ⟨.inl (.inr h), by omega⟩
theorem needsP_NC (f : FlatV) (F : FitsS f) (G : GoodF f) (i k : Nat) (hi : i < f.names.length) (hk : k < f.names.length) : needsP (NR f) i k = true ↔ (k : Int) ∈ (NC f).getD i [] := by
  obtain ⟨q, hq, e⟩ := G.all i hi
  have h1 := NC_get f G q hq
  have h2 := NR_get f G q hq
  rw [e] at h1 h2
  rw [h1, mem_needC]
  unfold needsP
  rw [Int.toNat_natCast, h2, NR_len, decide_eq_true (show (0 : Int) ≤ i by omega), decide_eq_true (show (i : Int) < f.names.length by omega), decide_eq_true (show (0 : Int) ≤ k by omega), decide_eq_true (show (k : Int) < f.names.length by omega)]
  simp only [Bool.true_and, List.contains_iff_mem]
  exact ⟨fun h => ⟨by omega, h⟩, fun h => h.2⟩
theorem need_NC (f : FlatV) (F : FitsS f) (G : GoodF f) (i : Nat) (x : Int) : x ∈ Ord.need (NC f) i ↔ x ∈ (NC f).getD i [] := by
  cases hg : (NC f)[i]? with
  | none =>
    unfold Ord.need
    rw [hg, List.getD_eq_getElem?_getD, hg]; rfl
  | some row =>
    rw [Ord.mem_need hg, List.getD_eq_getElem?_getD, hg]
    simp only [Option.getD_some]
    constructor
    · exact fun h => h.1
    · intro h
      have := NC_rng f F G row (List.mem_of_getElem? hg) x h
      rw [NC_len]; exact ⟨h, this⟩
theorem nodup_inj {l : List Int} (h : l.Nodup) {i j : Nat} {x : Int} (hi : l[i]? = some x) (hj : l[j]? = some x) : i = j := by
  obtain ⟨h1, e1⟩ := List.getElem?_eq_some_iff.1 hi
  obtain ⟨h2, e2⟩ := List.getElem?_eq_some_iff.1 hj
  rw [List.Nodup, List.pairwise_iff_getElem] at h
  rcases Nat.lt_trichotomy i j with hlt | heq | hgt
  · exact absurd (e1.trans e2.symm) (h i j h1 h2 hlt)
  · exact heq
  · exact absurd (e2.trans e1.symm) (h j i h2 h1 hgt)
structure PermO (n : Nat) (ord : List Int) : Prop where
  len : ord.length = n
  rng : ∀ x ∈ ord, 0 ≤ x ∧ x < (n : Int)
  nd : ord.Nodup
def posO (ord : List Int) (v : Nat) : Nat := (placeI ord v).toNat
theorem PermO.all {n : Nat} {ord : List Int} (P : PermO n ord) (v : Nat) (hv : v < n) : (v : Int) ∈ ord := by
  have hm : (ord.map Int.toNat).Nodup := by
    have hr := P.rng
    have hn := P.nd
    clear P
    induction ord with
    | nil => simp
    | cons x l ih =>
      rw [List.nodup_cons] at hn
      rw [List.map_cons, List.nodup_cons]
      refine ⟨fun hm => hn.1 ?_, ih (fun y hy => hr y (List.mem_cons_of_mem _ hy)) hn.2⟩
      obtain ⟨y, hy, e⟩ := List.mem_map.1 hm
      have h1 := hr x (List.mem_cons_self ..)
      have h2 := hr y (List.mem_cons_of_mem _ hy)
      rw [show x = y by omega]; exact hy
  have := nodup_all hm (by rw [List.length_map, P.len]) (fun x hx => by
    obtain ⟨y, hy, rfl⟩ := List.mem_map.1 hx
    have := P.rng y hy; omega) v hv
  obtain ⟨y, hy, e⟩ := List.mem_map.1 this
  have := P.rng y hy
  rw [show (v : Int) = y by omega]; exact hy
theorem PermO.pos {n : Nat} {ord : List Int} (P : PermO n ord) (v : Nat) (hv : v < n) : placeI ord v = (posO ord v : Int) ∧ ord[posO ord v]? = some (v : Int) := by
  rcases placeF_spec v ord 0 with ⟨_, h2⟩ | ⟨j, h1, h2, _⟩
  · exact absurd (P.all v hv) h2
  · have e : placeI ord v = (j : Int) := by unfold placeI; rw [h1]; congr 1; omega
    unfold posO
    rw [e]
    exact ⟨rfl, h2⟩
theorem PermO.at_ {n : Nat} {ord : List Int} (P : PermO n ord) {i : Nat} {v : Nat} (h : ord[i]? = some (v : Int)) : posO ord v = i := by
  have hv : v < n := by have := P.rng _ (List.mem_of_getElem? h); omega
  have h2 := (P.pos v hv).2
  exact nodup_inj P.nd h2 h
theorem PermO.lt {n : Nat} {ord : List Int} (P : PermO n ord) {v : Nat} (hv : v < n) : posO ord v < n := by
  have := (List.getElem?_eq_some_iff.1 (P.pos v hv).2).1
  rw [P.len] at this; exact this
theorem PermO.inj {n : Nat} {ord : List Int} (P : PermO n ord) {u v : Nat} (hu : u < n) (hv : v < n) (h : posO ord u = posO ord v) : u = v := by
  have h1 := (P.pos u hu).2
  have h2 := (P.pos v hv).2
  rw [h, h2] at h1
  simp only [sI] at h1
  omega
theorem setAll_get : ∀ (l r : List Int) (i : Nat) (v : Nat), l.Nodup → (∀ x ∈ l, 0 ≤ x ∧ x < (r.length : Int)) → (∀ j, l[j]? = some (v : Int) → (setAll r i l).getD v 0 = (i + j : Nat)) ∧ (¬ (v : Int) ∈ l → (setAll r i l).getD v 0 = r.getD v 0)
  | [], r, i, v, _, _ => ⟨fun j h => (by cases h), fun _ => rfl⟩
  | x :: l, r, i, v, hn, hr => by
    rw [List.nodup_cons] at hn
    have hx := hr x (List.mem_cons_self ..)
    obtain ⟨h1, h2⟩ := setAll_get l (r.set x.toNat i) (i + 1) v hn.2 (fun y hy => by rw [List.length_set]; exact hr y (List.mem_cons_of_mem _ hy))
    rw [setAll]
    refine ⟨fun j hj => ?_, fun hm => ?_⟩
    · cases j with
      | zero =>
        simp only [List.getElem?_cons_zero, sI] at hj
        rw [h2 (by rw [← hj]; exact hn.1), hj, Int.toNat_natCast, List.getD_eq_getElem?_getD, List.getElem?_set_self (by omega)]; rfl
      | succ j =>
        simp only [List.getElem?_cons_succ] at hj
        rw [h1 j hj]; congr 1; omega
    · rw [List.mem_cons] at hm
      rw [h2 fun h => hm (.inr h), List.getD_eq_getElem?_getD, List.getElem?_set_ne (by omega), ← List.getD_eq_getElem?_getD]
theorem firstF_get {n : Nat} {ord : List Int} (P : PermO n ord) (v : Nat) (hv : v < n) : (firstF ord).getD v 0 = (posO ord v : Int) := by
  unfold firstF
  have := (setAll_get ord (List.replicate ord.length 0) 0 v P.nd (fun x hx => by rw [List.length_replicate, P.len]; exact P.rng x hx)).1 _ (P.pos v hv).2
  rw [this]; congr 1; omega
end
section
theorem getD_set' (l : List Int) (i a : Nat) (x : Int) (hi : i < l.length) : (l.set i x).getD a 0 = if i = a then x else l.getD a 0 := by
  rw [Ord.getD_set]
  by_cases h : i = a
  · rw [if_pos ⟨h, hi⟩, if_pos h]
  · rw [if_neg (fun h2 => h h2.1), if_neg h]
theorem maxK_le (fv : Int) (k : Nat) (z : Int) : ∀ (row last : List Int), (∀ x ∈ row, 0 ≤ x ∧ x < (last.length : Int)) → ((maxK fv last row).getD k 0 ≤ z ↔ last.getD k 0 ≤ z ∧ ((k : Int) ∈ row → fv ≤ z))
  | [], last, _ => by simp [maxK]
  | x :: row, last, h => by
    have hx := h x (List.mem_cons_self ..)
    rw [maxK, maxK_le fv k z row _ (fun y hy => by rw [List.length_set]; exact h y (List.mem_cons_of_mem _ hy)), getD_set' _ _ _ _ (by omega), List.mem_cons]
    by_cases e : x.toNat = k
    · have e' : (k : Int) = x := by omega
      rw [if_pos e, e]
      constructor
      · rintro ⟨h1, h2⟩; exact ⟨by omega, fun _ => by omega⟩
      · rintro ⟨h1, h2⟩; exact ⟨by have := h2 (.inl e'); omega, fun _ => h2 (.inl e')⟩
    · have e' : ¬ (k : Int) = x := by omega
      rw [if_neg e]
      constructor
      · rintro ⟨h1, h2⟩; exact ⟨h1, fun h => h2 (h.resolve_left e')⟩
      · rintro ⟨h1, h2⟩; exact ⟨h1, fun h => h2 (.inr h)⟩
theorem maxV_le (first : List Int) (k : Nat) (z : Int) : ∀ (g : List (List Int)) (v : Nat) (last : List Int), (∀ r ∈ g, ∀ x ∈ r, 0 ≤ x ∧ x < (last.length : Int)) →
    ((maxV first v last g).getD k 0 ≤ z ↔ last.getD k 0 ≤ z ∧ ∀ j, (k : Int) ∈ g.getD j [] → first.getD (v + j) 0 ≤ z)
  | [], v, last, _ => by simp [maxV]
  | row :: g, v, last, h => by
    rw [maxV, maxV_le first k z g (v + 1) _ (fun r hr x hx => by rw [maxK_len]; exact h r (List.mem_cons_of_mem _ hr) x hx), maxK_le _ _ _ _ _ (h row (List.mem_cons_self ..))]
    constructor
    · rintro ⟨⟨h1, h2⟩, h3⟩
      refine ⟨h1, fun j hj => ?_⟩
      cases j with
      | zero => exact h2 hj
      | succ j =>
        have := h3 j hj
        rw [show v + (j + 1) = v + 1 + j by omega]; exact this
    · rintro ⟨h1, h2⟩
      refine ⟨⟨h1, fun hm => h2 0 hm⟩, fun j hj => ?_⟩
      have := h2 (j + 1) hj
      rw [show v + 1 + j = v + (j + 1) by omega]; exact this
theorem endK_get (n : Int) (k : Nat) : ∀ (l last : List Int), (∀ x ∈ l, 0 ≤ x ∧ x < (last.length : Int)) → (endK n last l).getD k 0 = if (k : Int) ∈ l then n else last.getD k 0
  | [], last, _ => by simp [endK]
  | x :: l, last, h => by
    have hx := h x (List.mem_cons_self ..)
    rw [endK, endK_get n k l _ (fun y hy => by rw [List.length_set]; exact h y (List.mem_cons_of_mem _ hy)), getD_set' _ _ _ _ (by omega)]
    by_cases e : x.toNat = k
    · have e' : (k : Int) = x := by omega
      rw [if_pos e, if_pos (show (k : Int) ∈ x :: l from List.mem_cons.2 (.inl e'))]
      split <;> rfl
    · have e' : ¬ (k : Int) = x := by omega
      rw [if_neg e]
      simp only [List.mem_cons, e', false_or]
theorem maxR_le (g : List (List Int)) (v z : Int) : ∀ (l : List Int) (i : Nat) (acc : Int), (maxR g v i l acc ≤ z ↔ acc ≤ z ∧ ∀ (j : Nat) (o : Int), l[j]? = some o → needsP g o v = true → ((i + j : Nat) : Int) ≤ z)
  | [], i, acc => by simp [maxR]
  | x :: l, i, acc => by
    rw [maxR, maxR_le g v z l (i + 1)]
    by_cases hp : needsP g x v = true
    · rw [if_pos hp]
      constructor
      · rintro ⟨h1, h2⟩
        refine ⟨by omega, fun j o hj hn => ?_⟩
        cases j with
        | zero => omega
        | succ j =>
          simp only [List.getElem?_cons_succ] at hj
          have := h2 j o hj hn
          rw [show i + (j + 1) = i + 1 + j by omega]; exact this
      · rintro ⟨h1, h2⟩
        have h0 := h2 0 x rfl hp
        refine ⟨by simp at h0; omega, fun j o hj hn => ?_⟩
        have := h2 (j + 1) o (by simpa using hj) hn
        rw [show i + 1 + j = i + (j + 1) by omega]; exact this
    · rw [if_neg hp]
      constructor
      · rintro ⟨h1, h2⟩
        refine ⟨h1, fun j o hj hn => ?_⟩
        cases j with
        | zero => simp only [List.getElem?_cons_zero, sI] at hj; subst hj; exact absurd hn hp
        | succ j =>
          simp only [List.getElem?_cons_succ] at hj
          have := h2 j o hj hn
          rw [show i + (j + 1) = i + 1 + j by omega]; exact this
      · rintro ⟨h1, h2⟩
        refine ⟨h1, fun j o hj hn => ?_⟩
        have := h2 (j + 1) o (by simpa using hj) hn
        rw [show i + 1 + j = i + (j + 1) by omega]; exact this
theorem endB_get (k : Nat) : ∀ (l : List Int) (bs_ : List Bool), k < bs_.length → (∀ x ∈ l, x < (bs_.length : Int)) → ((endB bs_ l).getD k false = true ↔ bs_.getD k false = true ∨ (k : Int) ∈ l)
  | [], bs_, _, _ => by simp [endB]
  | x :: l, bs_, hk, h => by
    have hx := h x (List.mem_cons_self ..)
    rw [endB]
    by_cases h0 : 0 ≤ x
    · rw [if_pos h0, endB_get k l _ (by simpa using hk) (fun y hy => by rw [List.length_set]; exact h y (List.mem_cons_of_mem _ hy)), List.mem_cons]
      by_cases e : x.toNat = k
      · have e' : (k : Int) = x := by omega
        have : (bs_.set x.toNat true).getD k false = true := by
          rw [e, List.getD_eq_getElem?_getD, List.getElem?_set_self hk]; rfl
        rw [this]; exact ⟨fun _ => .inr (.inl e'), fun _ => .inl rfl⟩
      · have e' : ¬ (k : Int) = x := by omega
        have : (bs_.set x.toNat true).getD k false = bs_.getD k false := by
          rw [List.getD_eq_getElem?_getD, List.getElem?_set_ne e, ← List.getD_eq_getElem?_getD]
        rw [this]; simp [e']
    · rw [if_neg h0, endB_get k l _ hk (fun y hy => h y (List.mem_cons_of_mem _ hy)), List.mem_cons]
      have e' : ¬ (k : Int) = x := by omega
      simp [e']
theorem le_all {a b : Int} (h : ∀ z, a ≤ z ↔ b ≤ z) : a = b := by
  have h1 := (h b).2 (Int.le_refl _)
  have h2 := (h a).1 (Int.le_refl _)
  omega
section
variable (f : FlatV) (F : FitsS f) (G : GoodF f) {ord : List Int} (P : PermO f.names.length ord)
include F G P
theorem endF_iff (k : Nat) (hk : k < f.names.length) : (endF f).getD k false = true ↔ (k : Int) ∈ behF f := by
  unfold endF behF
  rw [endB_get k _ _ (by simpa using hk) (fun x hx => by rw [List.length_replicate]; exact endL_rng f G x hx), List.mem_filter]
  have : (List.replicate f.names.length false).getD k false = false := by
    rw [List.getD_eq_getElem?_getD, List.getElem?_replicate]; split <;> rfl
  rw [this]
  have hneg : ¬ ((k : Int) < 0) := by omega
  simp [hneg]
theorem lastF_get (k : Nat) (hk : k < f.names.length) : (lastF f ord).getD k 0 = lastR f ord k := by
  unfold lastF
  have hfl : (firstF ord).length = f.names.length := by rw [firstF_len, P.len]
  rw [endK_get _ k _ _ (fun x hx => by rw [maxV_len, hfl]; exact behF_rng f G x hx)]
  unfold lastR
  by_cases he : (k : Int) ∈ behF f
  · rw [if_pos he, if_pos ((endF_iff f F G P k hk).2 he)]
  · rw [if_neg he, if_neg (fun h => he ((endF_iff f F G P k hk).1 h))]
    refine le_all fun z => ?_
    rw [maxV_le _ k z _ _ _ (fun r hr x hx => by rw [hfl]; exact NC_rng f F G r hr x hx), maxR_le, firstF_get P k hk, (P.pos k hk).1]
    refine and_congr Iff.rfl ?_
    constructor
    · intro h j o hj hn
      have hoR := P.rng o (List.mem_of_getElem? hj)
      have hoe : ((o.toNat : Nat) : Int) = o := by omega
      rw [← hoe] at hn hj
      have hm := (needsP_NC f F G o.toNat k (by omega) hk).1 hn
      have := h o.toNat hm
      rw [Nat.zero_add, firstF_get P _ (by omega), P.at_ hj] at this
      rw [Nat.zero_add]; exact this
    · intro h v hv
      have hvl : v < f.names.length := by
        apply Classical.byContradiction
        intro hc
        rw [List.getD_eq_getElem?_getD, List.getElem?_eq_none (by rw [NC_len]; omega)] at hv
        cases hv
      have hn := (needsP_NC f F G v k hvl hk).2 hv
      have := h (posO ord v) v (P.pos v hvl).2 hn
      rw [Nat.zero_add] at this
      rw [Nat.zero_add, firstF_get P _ hvl]; exact this
theorem lastF_eq : lastF f ord = lastsR f ord := by
  apply List.ext_getElem
  · rw [lastF_len, P.len]; simp [lastsR]
  · intro k h1 h2
    have hk : k < f.names.length := by simpa [lastsR] using h2
    have := lastF_get f F G P k hk
    rw [List.getD_eq_getElem?_getD, List.getElem?_eq_getElem h1] at this
    simp only [Option.getD_some] at this
    rw [this]
    simp [lastsR]
theorem lastR_ge (k : Nat) (hk : k < f.names.length) : (posO ord k : Int) ≤ lastR f ord k := by
  unfold lastR
  have hp := P.lt hk
  split
  · rw [P.len]; omega
  · have := (maxR_le (NR f) k _ ord 0 (placeI ord k)).1 (Int.le_refl _)
    rw [(P.pos k hk).1] at this ⊢
    exact this.1
theorem lastR_needs (v k : Nat) (hv : v < f.names.length) (hk : k < f.names.length) (h : (k : Int) ∈ (NC f).getD v []) : (posO ord v : Int) ≤ lastR f ord k := by
  unfold lastR
  have hp := P.lt hv
  split
  · rw [P.len]; omega
  · have := ((maxR_le (NR f) k _ ord 0 (placeI ord k)).1 (Int.le_refl _)).2 (posO ord v) v (P.pos v hv).2 ((needsP_NC f F G v k hv hk).2 h)
    rw [Nat.zero_add] at this
    exact this
theorem lastR_end (k : Nat) (hk : k < f.names.length) (h : (endF f).getD k false = true) : lastR f ord k = f.names.length := by
  unfold lastR
  rw [if_pos h, P.len]
end
end
section
theorem perm_of_sub : ∀ {l m : List Int}, l.Nodup → (∀ x ∈ l, x ∈ m) → m.length ≤ l.length → l.Perm m
  | [], m, _, _, h => by
    have : m = [] := List.eq_nil_of_length_eq_zero (by simpa using h)
    rw [this]
  | x :: r, m, hn, hs, hl => by
    rw [List.nodup_cons] at hn
    have hx := hs x (List.mem_cons_self ..)
    have := perm_of_sub (l := r) (m := m.erase x) hn.2 (fun y hy => by
      have hne : y ≠ x := fun e => hn.1 (e ▸ hy)
      exact (List.mem_erase_of_ne hne).2 (hs y (List.mem_cons_of_mem _ hy))) (by
      rw [List.length_erase_of_mem hx]
      simp only [List.length_cons] at hl; omega)
    exact (List.Perm.cons x this).trans (List.perm_cons_erase hx).symm
theorem permO_of_all {ord : List Int} {n : Nat} (hl : ord.length = n) (h : ∀ v : Nat, v < n → (v : Int) ∈ ord) : PermO n ord := by
  have hn : ((List.range n).map fun v : Nat => (v : Int)).Nodup := by
    rw [List.nodup_iff_pairwise_ne, List.pairwise_map]
    exact List.nodup_range.imp fun h e => h (by omega)
  have hp := perm_of_sub hn (fun x hx => by
    obtain ⟨v, hv, rfl⟩ := List.mem_map.1 hx
    exact h v (List.mem_range.1 hv)) (by simp [hl])
  refine ⟨hl, fun x hx => ?_, hp.nodup_iff.1 hn⟩
  obtain ⟨v, hv, rfl⟩ := List.mem_map.1 (hp.mem_iff.2 hx)
  have := List.mem_range.1 hv
  omega
theorem atF_eq (n : Nat) : ∀ (l at_ : List Int) (i : Nat), at_.length = n → (atF n at_ i l = some (setAll at_ i l) ∧ l.Nodup ∧ ∀ x ∈ l, (0 ≤ x ∧ x < (n : Int)) ∧ at_.getD x.toNat 0 < 0) ∨ (atF n at_ i l = none ∧ ¬ (l.Nodup ∧ ∀ x ∈ l, (0 ≤ x ∧ x < (n : Int)) ∧ at_.getD x.toNat 0 < 0))
  | [], at_, i, _ => .inl ⟨rfl, List.nodup_nil, by simp⟩
  | v :: l, at_, i, ha => by
    rw [atF, setAll]
    by_cases hc : v < 0 ∨ (n : Int) ≤ v ∨ 0 ≤ at_.getD v.toNat 0
    · right
      rw [if_pos hc]
      refine ⟨rfl, fun h => ?_⟩
      have := h.2 v (List.mem_cons_self ..)
      omega
    · rw [if_neg hc]
      have gs : ∀ x : Int, 0 ≤ x → x < (n : Int) → ((at_.set v.toNat i).getD x.toNat 0 < 0 ↔ x ≠ v ∧ at_.getD x.toNat 0 < 0) := by
        intro x h0 h1
        rw [getD_set' _ _ _ _ (by omega)]
        by_cases e : v.toNat = x.toNat
        · rw [if_pos e]
          have : x = v := by omega
          simp [this]
        · rw [if_neg e]
          have : x ≠ v := by omega
          simp [this]
      rcases atF_eq n l (at_.set v.toNat i) (i + 1) (by simpa using ha) with ⟨h1, h2, h3⟩ | ⟨h1, h2⟩
      · left
        refine ⟨h1, ?_, fun x hx => ?_⟩
        · rw [List.nodup_cons]
          refine ⟨fun hm => ?_, h2⟩
          have := h3 v hm
          exact ((gs v this.1.1 this.1.2).1 this.2).1 rfl
        · rcases List.mem_cons.1 hx with rfl | hx
          · exact ⟨⟨by omega, by omega⟩, by omega⟩
          · have := h3 x hx
            exact ⟨this.1, ((gs x this.1.1 this.1.2).1 this.2).2⟩
      · right
        refine ⟨h1, fun h => h2 ?_⟩
        obtain ⟨hn, hr⟩ := h
        rw [List.nodup_cons] at hn
        refine ⟨hn.2, fun x hx => ?_⟩
        have := hr x (List.mem_cons_of_mem _ hx)
        exact ⟨this.1, (gs x this.1.1 this.1.2).2 ⟨fun e => hn.1 (e ▸ hx), this.2⟩⟩
theorem needsAt_iff (at_ : List Int) : ∀ (g : List (List Int)) (v : Nat), needsAt at_ v g = true ↔ ∀ j, j < g.length → behindA at_ (v + j) (g.getD j []) = true
  | [], v => by simp [needsAt]
  | row :: g, v => by
    rw [needsAt, Bool.and_eq_true, needsAt_iff at_ g (v + 1)]
    constructor
    · rintro ⟨h1, h2⟩ j hj
      cases j with
      | zero => exact h1
      | succ j =>
        have := h2 j (by simpa using hj)
        rw [show v + (j + 1) = v + 1 + j by omega]; exact this
    · intro h
      refine ⟨h 0 (by simp), fun j hj => ?_⟩
      have := h (j + 1) (by simpa using hj)
      rw [show v + 1 + j = v + (j + 1) by omega]; exact this
structure OrdOk (f : FlatV) (ord : List Int) : Prop where
  p : PermO f.names.length ord
  b : ∀ v k : Nat, v < f.names.length → k < f.names.length → (k : Int) ∈ (NC f).getD v [] → posO ord k < posO ord v
section
variable (f : FlatV) (F : FitsS f) (G : GoodF f)
include F G
theorem ordered_iff {ord : List Int} (hl : ord.length = f.names.length) : orderedF f ord = true ↔ OrdOk f ord := by
  unfold orderedF
  have hm1 : ∀ x : Nat, x < f.names.length → (List.replicate f.names.length (-1 : Int)).getD x 0 = -1 := fun x hx => by
    rw [List.getD_eq_getElem?_getD, List.getElem?_replicate, if_pos hx]; rfl
  rcases atF_eq f.names.length ord (List.replicate f.names.length (-1)) 0 (by simp) with ⟨h1, h2, h3⟩ | ⟨h1, h2⟩
  · rw [h1]
    simp only
    have P : PermO f.names.length ord := ⟨hl, fun x hx => (h3 x hx).1, h2⟩
    have ga : ∀ v : Nat, v < f.names.length → (setAll (List.replicate f.names.length (-1)) 0 ord).getD v 0 = (posO ord v : Int) := by
      intro v hv
      have := (setAll_get ord (List.replicate f.names.length (-1)) 0 v P.nd (fun x hx => by rw [List.length_replicate]; exact P.rng x hx)).1 _ (P.pos v hv).2
      rw [this]; congr 1; omega
    rw [needsAt_iff]
    constructor
    · intro h
      refine ⟨P, fun v k hv hk hn => ?_⟩
      have := h v (by rw [NC_len]; exact hv)
      rw [Nat.zero_add] at this
      unfold behindA at this
      rw [Bool.and_eq_true, Bool.not_eq_true', Bool.not_eq_true', List.any_eq_false] at this
      have := this.2 _ hn
      rw [Int.toNat_natCast, ga v hv, ga k hk] at this
      simp only [ge_iff_le, decide_eq_true_eq] at this
      omega
    · intro h v hv
      rw [NC_len] at hv
      rw [Nat.zero_add]
      unfold behindA
      rw [Bool.and_eq_true, Bool.not_eq_true', Bool.not_eq_true', List.any_eq_false, ga v hv]
      refine ⟨by simp, fun x hx => ?_⟩
      have hrow : (NC f).getD v [] ∈ NC f := by
        rw [List.getD_eq_getElem?_getD, List.getElem?_eq_getElem (by rw [NC_len]; exact hv)]; exact List.getElem_mem _
      have hxr := NC_rng f F G _ hrow x hx
      have := h.b v x.toNat hv (by omega) (by rw [show ((x.toNat : Nat) : Int) = x by omega]; exact hx)
      rw [ga x.toNat (by omega)]
      simp; omega
  · rw [h1]
    constructor
    · intro h; cases h
    · intro h
      exfalso
      refine h2 ⟨h.p.nd, fun x hx => ⟨h.p.rng x hx, ?_⟩⟩
      rw [hm1 _ (by have := h.p.rng x hx; omega)]; omega
def sAt (ord slots : List Int) (k : Nat) : Int := slots.getD (ord.getD k 0).toNat 0
def lAt (ord last : List Int) (k : Nat) : Int := last.getD (ord.getD k 0).toNat 0
def Apart (ord slots last : List Int) (n : Nat) : Prop := ∀ i, i < n → ∀ k, k < i → sAt ord slots k = sAt ord slots i → lAt ord last k < (i : Int)
omit F G in
theorem apartR_iff (ord slots last : List Int) (n : Nat) : ((List.range n).all fun i => (List.range i).all (apartR last ord slots i)) = true ↔ Apart ord slots last n := by
  rw [List.all_eq_true]
  unfold Apart
  constructor
  · intro h i hi k hk hs
    have := h i (List.mem_range.2 hi)
    rw [List.all_eq_true] at this
    have := this k (List.mem_range.2 hk)
    unfold apartR at this
    unfold sAt at hs
    rw [hs, beq_self_eq_true, Bool.true_and, Bool.not_eq_true', decide_eq_false_iff_not] at this
    unfold lAt; omega
  · intro h i hi
    rw [List.all_eq_true]
    intro k hk
    have := h i (List.mem_range.1 hi) k (List.mem_range.1 hk)
    unfold apartR
    unfold sAt lAt at this
    by_cases hs : slots.getD (ord.getD k 0).toNat 0 = slots.getD (ord.getD i 0).toNat 0
    · have := this hs
      rw [hs, beq_self_eq_true, Bool.true_and, Bool.not_eq_true', decide_eq_false_iff_not]; omega
    · have : (slots.getD (ord.getD k 0).toNat 0 == slots.getD (ord.getD i 0).toNat 0) = false := by simpa using hs
      rw [this]; rfl
def MapAt (ord slots : List Int) (i : Nat) (m : Int → Option Int) : Prop := ∀ s, (m s = none ∧ ∀ k, k < i → sAt ord slots k ≠ s) ∨ ∃ k, k < i ∧ m s = some (ord.getD k 0) ∧ sAt ord slots k = s ∧ ∀ k', k < k' → k' < i → sAt ord slots k' ≠ s
omit F G in
theorem liesOk_iff (ord slots last : List Int) : ∀ (j i : Nat) (m : Int → Option Int), j + i = ord.length → MapAt ord slots i m → Apart ord slots last i → (liesOk last slots i (ord.drop i) m = true ↔ Apart ord slots last ord.length)
  | 0, i, m, h, M, A => by
    have hi : i = ord.length := by omega
    subst hi
    rw [List.drop_length, liesOk]
    exact ⟨fun _ => A, fun _ => rfl⟩
  | j + 1, i, m, h, M, A => by
    have hi : i < ord.length := by omega
    have hg : ord.getD i 0 = ord[i] := by rw [List.getD_eq_getElem?_getD, List.getElem?_eq_getElem hi]; rfl
    rw [List.drop_eq_getElem_cons hi, liesOk, ← hg]
    have hs : slots.getD (ord.getD i 0).toNat 0 = sAt ord slots i := rfl
    rw [hs]
    have key : (match m (sAt ord slots i) with | some old => decide (last.getD old.toNat 0 < (i : Int)) | none => true) = true ↔ ∀ k, k < i → sAt ord slots k = sAt ord slots i → lAt ord last k < (i : Int) := by
      rcases M (sAt ord slots i) with ⟨h1, h2⟩ | ⟨k, h1, h2, h3, h4⟩
      · rw [h1]
        exact ⟨fun _ k hk e => absurd e (h2 k hk), fun _ => rfl⟩
      · rw [h2]
        simp only [decide_eq_true_eq]
        constructor
        · intro hl k' hk' e
          by_cases e1 : k' = k
          · subst e1; exact hl
          · by_cases hlt : k < k'
            · exact absurd e (h4 k' hlt hk')
            · have := A k h1 k' (by omega) (e.trans h3.symm)
              unfold lAt at this ⊢
              omega
        · intro h
          exact h k h1 h3
    have M' : MapAt ord slots (i + 1) fun s => if s = sAt ord slots i then some (ord.getD i 0) else m s := by
      intro s
      by_cases e : s = sAt ord slots i
      · right
        refine ⟨i, by omega, if_pos e, e.symm, fun k' h1 h2 => by omega⟩
      · rcases M s with ⟨h1, h2⟩ | ⟨k, h1, h2, h3, h4⟩
        · left
          refine ⟨by simp only [if_neg e]; exact h1, fun k hk => ?_⟩
          by_cases e2 : k = i
          · subst e2; exact fun h => e h.symm
          · exact h2 k (by omega)
        · right
          refine ⟨k, by omega, by simp only [if_neg e]; exact h2, h3, fun k' h5 h6 => ?_⟩
          by_cases e2 : k' = i
          · subst e2; exact fun h => e h.symm
          · exact h4 k' h5 (by omega)
    rw [Bool.and_eq_true]
    refine (and_congr key Iff.rfl).trans ?_
    constructor
    · rintro ⟨h1, h2⟩
      refine (liesOk_iff ord slots last j (i + 1) _ (by omega) M' (fun i' hi' k hk e => ?_)).1 h2
      by_cases e2 : i' = i
      · subst e2; exact h1 k hk e
      · exact A i' (by omega) k hk e
    · intro h
      refine ⟨h i hi, (liesOk_iff ord slots last j (i + 1) _ (by omega) M' (fun i' hi' k hk e => ?_)).2 h⟩
      exact h i' (by omega) k hk e
theorem right_iff {ord slots : List Int} {m : Int} (hG : goodOk f = true) : rightF f ord slots m = rightR f ord slots m := by
  unfold rightF rightR
  cases e1 : ((ord.length : Int) == (f.names.length : Int)) with
  | false => simp
  | true =>
  cases e2 : ((slots.length : Int) == (f.names.length : Int)) with
  | false => simp
  | true =>
  have hol : ord.length = f.names.length := by have := eq_of_beq e1; omega
  have hsl : slots.length = f.names.length := by have := eq_of_beq e2; omega
  rw [hG]
  simp only [Bool.true_and]
  have hslots : (!(slots.any fun s => decide (s < 0) || decide (s ≥ m))) = true ↔ ∀ v, v < f.names.length → 0 ≤ slots.getD v 0 ∧ slots.getD v 0 < m := by
    rw [Bool.not_eq_true', List.any_eq_false]
    constructor
    · intro h v hv
      have := h (slots.getD v 0) (by rw [List.getD_eq_getElem?_getD, List.getElem?_eq_getElem (by omega)]; exact List.getElem_mem _)
      simp only [Bool.or_eq_true, decide_eq_true_eq, not_or] at this
      omega
    · intro h s hs
      obtain ⟨v, hv⟩ := List.getElem?_of_mem hs
      have hlt := (List.getElem?_eq_some_iff.1 hv).1
      have := h v (by omega)
      rw [List.getD_eq_getElem?_getD, hv] at this
      simp only [Option.getD_some] at this
      simp only [Bool.or_eq_true, decide_eq_true_eq, not_or]; omega
  have hvar : (List.range f.names.length).all (varR (NR f) ord slots m f.names.length) = true ↔ (∀ v, v < f.names.length → 0 ≤ slots.getD v 0 ∧ slots.getD v 0 < m) ∧ OrdOk f ord := by
    rw [List.all_eq_true]
    constructor
    · intro h
      have hv := fun v hv => h v (List.mem_range.2 hv)
      simp only [varR, Bool.and_eq_true, Bool.not_eq_true', decide_eq_false_iff_not] at hv
      have P : PermO f.names.length ord := permO_of_all hol fun v hvl => placeI_mem (hv v hvl).1.1.1
      refine ⟨fun v hvl => ?_, P, fun v k hvl hk hn => ?_⟩
      · have := hv v hvl; omega
      · have := (hv v hvl).2
        rw [List.all_eq_true] at this
        have := this k (List.mem_range.2 hk)
        unfold behR at this
        rw [(needsP_NC f F G v k hvl hk).2 hn, Bool.true_and, Bool.not_eq_true', decide_eq_false_iff_not, (P.pos v hvl).1, (P.pos k hk).1] at this
        omega
    · rintro ⟨h1, h2⟩ v hv
      have hv := List.mem_range.1 hv
      have := h1 v hv
      unfold varR
      rw [(h2.p.pos v hv).1, decide_eq_false (show ¬ ((posO ord v : Int) < 0) by omega), decide_eq_false (show ¬ slots.getD v 0 < 0 by omega), decide_eq_false (show ¬ slots.getD v 0 ≥ m by omega)]
      simp only [Bool.not_false, Bool.true_and]
      rw [List.all_eq_true]
      intro k hk
      have hk := List.mem_range.1 hk
      unfold behR
      by_cases hn : needsP (NR f) v k = true
      · have := h2.b v k hv hk ((needsP_NC f F G v k hv hk).1 hn)
        rw [hn, (h2.p.pos v hv).1, (h2.p.pos k hk).1, Bool.true_and, Bool.not_eq_true', decide_eq_false_iff_not]; omega
      · rw [Bool.not_eq_true] at hn; rw [hn]; rfl
  rw [Bool.eq_iff_iff, Bool.and_eq_true, Bool.and_eq_true, Bool.and_eq_true, hslots, ordered_iff f F G hol, hvar, apartR_iff]
  constructor
  · rintro ⟨⟨h1, h2⟩, h3⟩
    refine ⟨⟨h1, h2⟩, ?_⟩
    have := (liesOk_iff ord slots (lastF f ord) ord.length 0 (fun _ => none) (by omega) (fun s => .inl ⟨rfl, by omega⟩) (fun i hi => by omega)).1 (by rw [List.drop_zero]; exact h3)
    rw [lastF_eq f F G h2.p, hol] at this
    exact this
  · rintro ⟨⟨h1, h2⟩, h3⟩
    refine ⟨⟨h1, h2⟩, ?_⟩
    have := (liesOk_iff ord slots (lastF f ord) ord.length 0 (fun _ => none) (by omega) (fun s => .inl ⟨rfl, by omega⟩) (fun i hi => by omega)).2 (by rw [lastF_eq f F G h2.p, hol]; exact h3)
    rw [List.drop_zero] at this
    exact this
end
end
section
def Greedy (ord slots last : List Int) (i : Nat) : Prop := ∀ j, j < i → (∀ k, k < j → sAt ord slots k = sAt ord slots j → lAt ord last k < (j : Int)) ∧ 0 ≤ sAt ord slots j ∧ ∀ s : Nat, (s : Int) < sAt ord slots j → ∃ k, k < j ∧ sAt ord slots k = s ∧ (j : Int) ≤ lAt ord last k
section
variable {n : Nat} {ord last : List Int} (P : PermO n ord) (hll : last.length = n)
include P hll
theorem sAt_set {slots : List Int} (hs : slots.length = n) {i : Nat} (hi : i < n) (x : Int) {k : Nat} (hk : k < n) : sAt ord (slots.set (ord.getD i 0).toNat x) k = if k = i then x else sAt ord slots k := by
  unfold sAt
  have gi : ord[i]? = some (ord.getD i 0) := Ord.getI (by rw [P.len]; exact hi)
  have gk : ord[k]? = some (ord.getD k 0) := Ord.getI (by rw [P.len]; exact hk)
  have ri := P.rng _ (List.mem_of_getElem? gi)
  have rk := P.rng _ (List.mem_of_getElem? gk)
  rw [getD_set' _ _ _ _ (by omega)]
  by_cases e : k = i
  · subst e; simp
  · rw [if_neg e, if_neg]
    intro h
    have : ord.getD i 0 = ord.getD k 0 := by omega
    rw [← this] at gk
    exact e (nodup_inj P.nd gk gi)
theorem greedy_step {slots : List Int} (hs : slots.length = n) {i : Nat} (hi : i < n) (A : Greedy ord slots last i) {s : Nat} (h1 : ∀ k, k < i → sAt ord slots k = s → lAt ord last k < (i : Int)) (h2 : ∀ t : Nat, t < s → ∃ k, k < i ∧ sAt ord slots k = t ∧ (i : Int) ≤ lAt ord last k) :
    Greedy ord (slots.set (ord.getD i 0).toNat s) last (i + 1) := by
  have e : ∀ k, k < n → sAt ord (slots.set (ord.getD i 0).toNat s) k = if k = i then (s : Int) else sAt ord slots k := fun k hk => sAt_set P hll hs hi s hk
  intro j hj
  by_cases eji : j = i
  · subst eji
    rw [e j hi, if_pos rfl]
    refine ⟨fun k hk hse => ?_, by omega, fun t ht => ?_⟩
    · rw [e k (by omega), if_neg (by omega)] at hse
      exact h1 k hk hse
    · obtain ⟨k, hk, k1, k2⟩ := h2 t (by omega)
      exact ⟨k, hk, by rw [e k (by omega), if_neg (by omega)]; exact k1, k2⟩
  · obtain ⟨a1, a2, a3⟩ := A j (by omega)
    rw [e j (by omega), if_neg eji]
    refine ⟨fun k hk hse => ?_, a2, fun t ht => ?_⟩
    · rw [e k (by omega), if_neg (by omega)] at hse
      exact a1 k hk hse
    · obtain ⟨k, hk, k1, k2⟩ := a3 t ht
      exact ⟨k, hk, by rw [e k (by omega), if_neg (by omega)]; exact k1, k2⟩
structure UOk (slots u : List Int) (i : Nat) : Prop where
  b : ∀ k, k < i → 0 ≤ sAt ord slots k ∧ sAt ord slots k < (u.length : Int)
  u : ∀ s : Nat, s < u.length → ∃ k, k < i ∧ sAt ord slots k = s ∧ lAt ord last k = u.getD s 0 ∧ ∀ k', k < k' → k' < i → sAt ord slots k' ≠ s
theorem uok_free {slots u : List Int} {i : Nat} (hi : i ≤ n) (A : Greedy ord slots last i) (U : UOk (ord := ord) (last := last) slots u i) {s : Nat} (hs : s < u.length) : u.getD s 0 < (i : Int) ↔ ∀ k, k < i → sAt ord slots k = s → lAt ord last k < (i : Int) := by
  obtain ⟨k, hk, k1, k2, k3⟩ := U.u s hs
  rw [← k2]
  constructor
  · intro h k' hk' e
    by_cases e1 : k' = k
    · subst e1; exact h
    · by_cases hlt : k < k'
      · exact absurd e (k3 k' hlt hk')
      · have := (A k hk).1 k' (by omega) (e.trans k1.symm)
        omega
  · intro h; exact h k hk k1
theorem plF_greedy : ∀ (j i : Nat) (slots u : List Int), j + i = n → slots.length = n → Greedy ord slots last i → UOk (ord := ord) (last := last) slots u i → (∀ k, k < n → (k : Int) ≤ lAt ord last k) →
    Greedy ord (plF last i (ord.drop i) (u, slots)).2 last n ∧ UOk (ord := ord) (last := last) (plF last i (ord.drop i) (u, slots)).2 (plF last i (ord.drop i) (u, slots)).1 n
  | 0, i, slots, u, h, hs, A, U, hL => by
    have hi : i = n := by omega
    subst hi
    rw [← P.len, List.drop_length, plF, P.len]
    exact ⟨A, U⟩
  | j + 1, i, slots, u, h, hs, A, U, hL => by
    have hi : i < n := by omega
    have hio : i < ord.length := by rw [P.len]; exact hi
    have hg : ord[i] = ord.getD i 0 := by rw [List.getD_eq_getElem?_getD, List.getElem?_eq_getElem hio]; rfl
    rw [List.drop_eq_getElem_cons hio, plF, hg]
    have gi : ord[i]? = some (ord.getD i 0) := Ord.getI hio
    have ri := P.rng _ (List.mem_of_getElem? gi)
    have free := fun s hs' => uok_free P hll (by omega : i ≤ n) A U (s := s) hs'
    have e : ∀ (x : Int) k, k < n → sAt ord (slots.set (ord.getD i 0).toNat x) k = if k = i then x else sAt ord slots k := fun x k hk => sAt_set P hll hs hi x hk
    refine plF_greedy j (i + 1) _ _ (by omega) (by simpa using hs) ?_ ?_ hL
    · refine greedy_step P hll hs hi A ?_ ?_
      · rcases findF_del (fun x => decide (x < (i : Int))) u 0 with ⟨h1, _⟩ | ⟨t, h1, h2, h3⟩
        · have : slotOf i u = u.length := by unfold slotOf; rw [h1]; rfl
          rw [this]
          intro k hk hse
          have := U.b k hk
          omega
        · rw [Nat.zero_add] at h1
          have hst : slotOf i u = t := by unfold slotOf; rw [h1, if_neg (by omega)]; rfl
          rw [hst]
          refine (free t h2).1 ?_
          have hmem : ¬ (u.getD t 0) ∈ (u.take (t + 1)).filter (fun x => !decide (x < (i : Int))) ∨ u.getD t 0 < (i : Int) := by
            by_cases hlt : u.getD t 0 < (i : Int)
            · exact .inr hlt
            · left
              intro hm
              have hl : ((u.take (t + 1)).filter fun x => !decide (x < (i : Int))).length = (u.take t).length := by rw [h3]
              have htk : u.take (t + 1) = u.take t ++ [u.getD t 0] := by
                rw [List.take_add_one, List.getD_eq_getElem?_getD, List.getElem?_eq_getElem h2]; rfl
              rw [htk, List.filter_append, List.length_append] at hl
              have hall : (u.take t).filter (fun x => !decide (x < (i : Int))) = u.take t := by
                rw [List.filter_eq_self]
                intro y hy
                have : y ∈ (u.take (t + 1)).filter (fun x => !decide (x < (i : Int))) := by rw [h3]; exact hy
                exact (List.mem_filter.1 this).2
              rw [hall] at hl
              simp [hlt] at hl
              exact hlt (by rw [List.getD_eq_getElem?_getD]; exact hl)
          rcases hmem with hm | hm
          · apply Classical.byContradiction
            intro hlt
            refine hm ?_
            rw [List.mem_filter]
            refine ⟨?_, by simpa using hlt⟩
            rw [List.getD_eq_getElem?_getD, List.getElem?_eq_getElem h2]
            refine List.mem_of_getElem? (i := t) ?_
            rw [List.getElem?_take, if_pos (by omega), List.getElem?_eq_getElem h2]; rfl
          · exact hm
      · intro t ht
        have hb : ∀ t, t < slotOf i u → t < u.length ∧ ¬ u.getD t 0 < (i : Int) := by
          intro t ht
          rcases findF_del (fun x => decide (x < (i : Int))) u 0 with ⟨h1, h2⟩ | ⟨w, h1, h2, h3⟩
          · have hsl : slotOf i u = u.length := by unfold slotOf; rw [h1]; rfl
            rw [hsl] at ht
            refine ⟨ht, ?_⟩
            rw [List.filter_eq_self] at h2
            have := h2 (u.getD t 0) (by rw [List.getD_eq_getElem?_getD, List.getElem?_eq_getElem ht]; exact List.getElem_mem _)
            simpa using this
          · rw [Nat.zero_add] at h1
            have hsl : slotOf i u = w := by unfold slotOf; rw [h1, if_neg (by omega)]; rfl
            rw [hsl] at ht
            refine ⟨by omega, ?_⟩
            have hy : u.getD t 0 ∈ u.take w := by
              rw [List.getD_eq_getElem?_getD, List.getElem?_eq_getElem (show t < u.length by omega)]
              refine List.mem_of_getElem? (i := t) ?_
              rw [List.getElem?_take, if_pos ht, List.getElem?_eq_getElem (show t < u.length by omega)]; rfl
            rw [← h3] at hy
            have := (List.mem_filter.1 hy).2
            simpa using this
        obtain ⟨h1, h2⟩ := hb t ht
        rw [free t h1] at h2
        apply Classical.byContradiction
        intro hne
        refine h2 fun k hk hse => ?_
        apply Classical.byContradiction
        intro hc
        exact hne ⟨k, hk, hse, by omega⟩
    · -- what is known then
      have hsu : slotOf i u ≤ u.length := (slotOf_lt i u).1
      have hul : (stepU last i (ord.getD i 0).toNat u).length = max u.length (slotOf i u + 1) := by
        have := (slotOf_lt i u).2
        unfold stepU at this ⊢
        rw [List.length_set] at this ⊢
        exact this
      have hug : ∀ s : Nat, s < (stepU last i (ord.getD i 0).toNat u).length → (stepU last i (ord.getD i 0).toNat u).getD s 0 = if s = slotOf i u then lAt ord last i else u.getD s 0 := by
        intro s hs'
        rw [hul] at hs'
        unfold stepU
        rw [Ord.getD_set]
        by_cases e1 : slotOf i u = s
        · rw [if_pos e1.symm, if_pos]
          · rfl
          · refine ⟨e1, ?_⟩
            split
            · simp; omega
            · rename_i hf
              unfold slotOf
              rw [if_neg hf]
              rcases findF_lt (fun x => decide (x < (i : Int))) u 0 with h | ⟨w, h1, h2⟩
              · exact absurd h hf
              · rw [h1]; omega
        · rw [if_neg (fun h : slotOf i u = s ∧ _ => e1 h.1), if_neg (show ¬ s = slotOf i u from fun h => e1 h.symm)]
          split
          · rename_i hf
            have : slotOf i u = u.length := by unfold slotOf; rw [if_pos hf]
            rw [List.getD_eq_getElem?_getD, List.getElem?_append_left (by omega), ← List.getD_eq_getElem?_getD]
          · rfl
      refine ⟨fun k hk => ?_, fun s hs' => ?_⟩
      · rw [e _ k (by omega), hul]
        by_cases ek : k = i
        · rw [if_pos ek]; simp only; omega
        · rw [if_neg ek]
          have := U.b k (by omega)
          omega
      · rw [hug s hs']
        rw [hul] at hs'
        by_cases es : s = slotOf i u
        · rw [if_pos es]
          refine ⟨i, by omega, by rw [e _ i hi, if_pos rfl]; simp only [es], rfl, fun k' h1 h2 => by omega⟩
        · rw [if_neg es]
          obtain ⟨k, hk, k1, k2, k3⟩ := U.u s (by omega)
          refine ⟨k, by omega, by rw [e _ k (by omega), if_neg (by omega)]; exact k1, k2, fun k' h1 h2 => ?_⟩
          rw [e _ k' (by omega)]
          by_cases ek : k' = i
          · rw [if_pos ek]; exact fun h => es (by simp only at h; omega)
          · rw [if_neg ek]; exact k3 k' h1 (by omega)
end
end
section
section
variable (f : FlatV) (F : FitsS f) (G : GoodF f) (hK : Ord.okL (NC f) = true)
include F G hK
theorem ordL_ok : OrdOk f (ordL (NC f)) := by
  have e0 : ordL (NC f) = Ord.outL (NC f) := if_pos hK
  obtain ⟨k1, k2, k3⟩ := ord_facts (NC f) hK
  rw [← e0, NC_len] at k1
  rw [← e0, NC_len] at k2
  rw [← e0] at k3
  have P : PermO f.names.length (ordL (NC f)) := ⟨k1, k2, k3⟩
  refine ⟨P, fun v k hv hk hm => ?_⟩
  obtain ⟨ws, K⟩ := Ord.outL_ok (NC f)
  have hv2 := (P.pos v hv).2
  have hl := P.lt hv
  have := K.t (posO (ordL (NC f)) v) (by rw [← e0, k1]; exact hl) k (by
    rw [← e0, List.getD_eq_getElem?_getD, hv2]
    exact (need_NC f F G v k).2 hm)
  rw [← e0] at this
  obtain ⟨j, hj⟩ := List.getElem?_of_mem this
  rw [List.getElem?_take] at hj
  split at hj
  · rename_i h
    rw [P.at_ hj]; exact h
  · cases hj
abbrev plS : List Int := (slotsF f (ordL (NC f))).2
abbrev plN : Nat := (slotsF f (ordL (NC f))).1.length
abbrev plL : List Int := lastsR f (ordL (NC f))
omit F G hK in
theorem lastsR_len (ord : List Int) : (lastsR f ord).length = f.names.length := by simp [lastsR]
omit F G hK in
theorem lastsR_at {ord : List Int} (v : Nat) (hv : v < f.names.length) : (lastsR f ord).getD v 0 = lastR f ord v := by
  rw [List.getD_eq_getElem?_getD]; simp [lastsR, hv]
omit hK in
theorem lAt_pos {ord : List Int} (P : PermO f.names.length ord) (v : Nat) (hv : v < f.names.length) : lAt ord (lastsR f ord) (posO ord v) = lastR f ord v := by
  unfold lAt
  have e : (ord.getD (posO ord v) 0).toNat = v := by rw [List.getD_eq_getElem?_getD, (P.pos v hv).2]; simp
  rw [e, lastsR_at f v hv]
omit hK in
theorem sAt_pos {ord slots : List Int} (P : PermO f.names.length ord) (v : Nat) (hv : v < f.names.length) : sAt ord slots (posO ord v) = slots.getD v 0 := by
  unfold sAt
  have e : (ord.getD (posO ord v) 0).toNat = v := by rw [List.getD_eq_getElem?_getD, (P.pos v hv).2]; simp
  rw [e]
omit F G hK in
theorem at_pos {ord : List Int} (P : PermO f.names.length ord) (i : Nat) (hi : i < f.names.length) : ∃ v : Nat, v < f.names.length ∧ ord[i]? = some (v : Int) ∧ posO ord v = i := by
  have g := Ord.getI (l := ord) (n := i) (by rw [P.len]; exact hi)
  have r := P.rng _ (List.mem_of_getElem? g)
  refine ⟨(ord.getD i 0).toNat, by omega, ?_, ?_⟩
  · rw [Int.toNat_of_nonneg r.1]; exact g
  · exact P.at_ (by rw [Int.toNat_of_nonneg r.1]; exact g)
omit hK in
theorem lAt_ge {ord : List Int} (P : PermO f.names.length ord) (k : Nat) (hk : k < f.names.length) : (k : Int) ≤ lAt ord (lastsR f ord) k := by
  obtain ⟨v, h1, h2, h3⟩ := at_pos f P k hk
  have := lastR_ge f F G P v h1
  rw [← h3, lAt_pos f F G P v h1]; exact this
theorem pl_len : (plS f).length = f.names.length := by
  have P := (ordL_ok f F G hK).p
  unfold plS slotsF
  rw [plF_len, List.length_replicate, P.len]
theorem pl_greedy : Greedy (ordL (NC f)) (plS f) (plL f) f.names.length ∧ UOk (ord := ordL (NC f)) (last := plL f) (plS f) (slotsF f (ordL (NC f))).1 f.names.length := by
  have P := (ordL_ok f F G hK).p
  have hL := lastsR_len f (ordL (NC f))
  have h := plF_greedy P hL f.names.length 0 (List.replicate (ordL (NC f)).length 0) [] (by omega) (by simp [P.len]) (fun j hj => by omega) ⟨fun k hk => by omega, fun s hs => by simp at hs⟩ (fun k hk => lAt_ge f F G P k hk)
  rw [List.drop_zero] at h
  unfold plS slotsF
  rw [lastF_eq f F G P]
  exact h
theorem pl_apart : Apart (ordL (NC f)) (plS f) (plL f) f.names.length := fun i hi k hk hs => ((pl_greedy f F G hK).1 i hi).1 k hk hs
theorem pl_rng (v : Nat) (hv : v < f.names.length) : 0 ≤ (plS f).getD v 0 ∧ (plS f).getD v 0 < (plN f : Int) := by
  have P := (ordL_ok f F G hK).p
  have := (pl_greedy f F G hK).2.b (posO (ordL (NC f)) v) (P.lt hv)
  rw [sAt_pos f F G P v hv] at this
  exact this
theorem pl_right (hG : goodOk f = true) : rightF f (ordL (NC f)) (plS f) (plN f) = true := by
  have O := ordL_ok f F G hK
  have P := O.p
  have hl := pl_len f F G hK
  unfold rightF
  simp only [Bool.and_eq_true]
  refine ⟨⟨⟨⟨⟨hG, ?_⟩, ?_⟩, ?_⟩, ?_⟩, ?_⟩
  · rw [P.len]; exact beq_self_eq_true _
  · rw [hl]; exact beq_self_eq_true _
  · rw [Bool.not_eq_true', List.any_eq_false]
    intro s hs
    obtain ⟨v, hv⟩ := List.getElem?_of_mem hs
    have hvl := (List.getElem?_eq_some_iff.1 hv).1
    have := pl_rng f F G hK v (by omega)
    rw [List.getD_eq_getElem?_getD, hv] at this
    simp only [Option.getD_some] at this
    simp; omega
  · exact (ordered_iff f F G P.len).2 O
  · have A := pl_apart f F G hK
    have := liesOk_iff (ordL (NC f)) (plS f) (plL f) f.names.length 0 (fun _ => none) (by rw [P.len]; omega) (fun s => .inl ⟨rfl, fun k hk => by omega⟩) (fun i hi => by omega)
    rw [List.drop_zero, P.len] at this
    rw [lastF_eq f F G P]
    exact this.2 A
def liveN (ord last : List Int) (i : Nat) : Nat → Nat
  | 0 => 0
  | k + 1 => liveN ord last i k + if (i : Int) ≤ lAt ord last k then 1 else 0
def maxN (g : Nat → Nat) : Nat → Nat
  | 0 => 0
  | i + 1 => Nat.max (maxN g i) (g i)
omit F G hK in
theorem liveN_eq (ord last : List Int) (i : Nat) : ∀ k, liveN ord last i k = ((List.range k).filter fun j => decide ((i : Int) ≤ lAt ord last j)).length
  | 0 => rfl
  | k + 1 => by
    rw [List.range_succ, List.filter_append, List.length_append, liveN, liveN_eq ord last i k]
    congr 1
    by_cases h : (i : Int) ≤ lAt ord last k
    · rw [if_pos h]; simp [h]
    · rw [if_neg h]; simp [h]
omit F G hK in
theorem maxN_le (g : Nat → Nat) (m : Nat) : ∀ n, (∀ i, i < n → g i ≤ m) → maxN g n ≤ m
  | 0, _ => Nat.zero_le _
  | n + 1, h => by
    rw [maxN]
    exact Nat.max_le.2 ⟨maxN_le g m n (fun i hi => h i (by omega)), h n (by omega)⟩
omit F G hK in
theorem maxN_ge (g : Nat → Nat) : ∀ n i, i < n → g i ≤ maxN g n
  | 0, i, h => by omega
  | n + 1, i, h => by
    rw [maxN]
    by_cases e : i = n
    · subst e; exact Nat.le_max_right _ _
    · exact Nat.le_trans (maxN_ge g n i (by omega)) (Nat.le_max_left _ _)
omit F G hK in
theorem nodup_map_on {l : List Nat} {g : Nat → Nat} (hl : l.Nodup) (h : ∀ a ∈ l, ∀ b ∈ l, a < b → g a ≠ g b) : (l.map g).Nodup := by
  induction l with
  | nil => simp
  | cons x l ih =>
    rw [List.nodup_cons] at hl
    rw [List.map_cons, List.nodup_cons]
    refine ⟨fun hm => ?_, ih hl.2 fun a ha b hb => h a (List.mem_cons_of_mem _ ha) b (List.mem_cons_of_mem _ hb)⟩
    obtain ⟨y, hy, e⟩ := List.mem_map.1 hm
    rcases Nat.lt_trichotomy x y with hxy | hxy | hxy
    · exact h x (List.mem_cons_self ..) y (List.mem_cons_of_mem _ hy) hxy e.symm
    · exact hl.1 (hxy ▸ hy)
    · exact h y (List.mem_cons_of_mem _ hy) x (List.mem_cons_self ..) hxy e
theorem pl_least : (maxN (fun i => liveN (ordL (NC f)) (plL f) i (i + 1)) f.names.length) = plN f := by
  obtain ⟨A, U⟩ := pl_greedy f F G hK
  have P := (ordL_ok f F G hK).p
  apply Nat.le_antisymm
  · refine maxN_le _ _ _ fun i hi => ?_
    rw [liveN_eq]
    have hn := nodup_map_on (l := (List.range (i + 1)).filter fun j => decide ((i : Int) ≤ lAt (ordL (NC f)) (plL f) j)) (g := fun j => (sAt (ordL (NC f)) (plS f) j).toNat) (List.nodup_range.filter _) (fun a ha b hb hab => by
      rw [List.mem_filter, List.mem_range, decide_eq_true_eq] at ha hb
      intro e
      have u1 := U.b a (by omega)
      have u2 := U.b b (by omega)
      have := (A b (by omega)).1 a hab (by omega)
      omega)
    have := nodup_le (m := List.range (plN f)) hn (fun x hx => by
      obtain ⟨j, hj, rfl⟩ := List.mem_map.1 hx
      rw [List.mem_filter, List.mem_range] at hj
      have := U.b j (by omega)
      rw [List.mem_range]
      show (sAt (ordL (NC f)) (plS f) j).toNat < plN f
      have h3 := this.2
      change _ < (plN f : Int) at h3
      omega)
    rw [List.length_map, List.length_range] at this
    exact this
  · by_cases h0 : plN f = 0
    · omega
    · obtain ⟨k, hk, e, _⟩ := U.u (plN f - 1) (by show plN f - 1 < plN f; omega)
      refine Nat.le_trans ?_ (maxN_ge _ _ k hk)
      rw [liveN_eq]
      have := nodup_le (l := List.range (plN f)) (m := ((List.range (k + 1)).filter fun j => decide ((k : Int) ≤ lAt (ordL (NC f)) (plL f) j)).map fun j => (sAt (ordL (NC f)) (plS f) j).toNat) List.nodup_range (fun s hs => by
        rw [List.mem_range] at hs
        rw [List.mem_map]
        by_cases es : s = plN f - 1
        · refine ⟨k, ?_, by omega⟩
          rw [List.mem_filter, List.mem_range, decide_eq_true_eq]
          exact ⟨by omega, lAt_ge f F G P k hk⟩
        · obtain ⟨j, h1, h2, h3⟩ := (A k hk).2.2 s (by omega)
          refine ⟨j, ?_, by omega⟩
          rw [List.mem_filter, List.mem_range, decide_eq_true_eq]
          exact ⟨by omega, h3⟩)
      rw [List.length_map, List.length_range] at this
      exact this
structure Cel (ord slots : List Int) (m i : Nat) (cells : List Int) : Prop where
  len : cells.length = m
  c : ∀ k, k < i → (∀ k', k < k' → k' < i → sAt ord slots k' ≠ sAt ord slots k) → cells.getD (sAt ord slots k).toNat 0 = ord.getD k 0 + 1
omit F G hK in
theorem needR_rng (G : GoodF f) (q : Eqn) (hq : q ∈ f.eqs) : ∀ x ∈ needR f q, 0 ≤ x ∧ x < (f.names.length : Int) := by
  intro x hx
  unfold needR at hx
  rw [List.mem_append, List.mem_append] at hx
  rcases hx with (h1 | h1) | h1
  · exact G.args q hq x h1
  · split at h1
    · simp only [List.mem_cons, List.not_mem_nil, or_false] at h1
      have := G.guard q hq
      rw [h1]; omega
    · cases h1
  · unfold begF at h1
    cases hm : isS q.op [109, 101, 109] with
    | true =>
      obtain ⟨m, k1, _, k3⟩ := iadr_memsI ((G.kok q hq).m hm)
      rw [hm, cond_true, k3] at h1
      exact (G.mems m (List.mem_of_getElem? k1)).2.2 x h1
    | false =>
      cases hk : isS q.op [99, 111, 110, 116] with
      | true =>
        obtain ⟨m, k1, _, k3⟩ := iadr_contsI ((G.kok q hq).k hk)
        rw [hm, hk, cond_false, cond_true, k3] at h1
        exact (G.conts m (List.mem_of_getElem? k1)).2.2.1 x h1
      | false => rw [hm, hk] at h1; cases h1
theorem cel_set {i : Nat} (hi : i < f.names.length) {cells : List Int} (C : Cel (ordL (NC f)) (plS f) (plN f) i cells) :
    Cel (ordL (NC f)) (plS f) (plN f) (i + 1) (cells.set (sAt (ordL (NC f)) (plS f) i).toNat ((ordL (NC f)).getD i 0 + 1)) := by
  obtain ⟨A, U⟩ := pl_greedy f F G hK
  have ui := U.b i hi
  have u3 := ui.2
  change _ < (plN f : Int) at u3
  refine ⟨by rw [List.length_set]; exact C.len, fun k hk h => ?_⟩
  rw [getD_set' _ _ _ _ (by rw [C.len]; omega)]
  by_cases e : k = i
  · subst e; rw [if_pos rfl]
  · have uk := U.b k (by omega)
    rw [if_neg (fun e' => h i (by omega) (by omega) (by omega))]
    exact C.c k (by omega) fun k' h1 h2 => h k' h1 (by omega)
theorem cel_read {i v : Nat} (hi : i < f.names.length) (hv : (ordL (NC f))[i]? = some (v : Int)) {cells : List Int} (C : Cel (ordL (NC f)) (plS f) (plN f) i cells) {q : Eqn} (hq : q ∈ f.eqs) (e : q.var = v) {x : Int} (hx : x ∈ needR f q) :
    (0 ≤ x ∧ x < (f.names.length : Int)) ∧ (0 ≤ (plS f).getD x.toNat 0 ∧ (plS f).getD x.toNat 0 < (plN f : Int)) ∧ cells.getD ((plS f).getD x.toNat 0).toNat 0 = x + 1 := by
  have O := ordL_ok f F G hK
  have P := O.p
  have hr := needR_rng f G q hq x hx
  have hvl : v < f.names.length := by have := P.rng _ (List.mem_of_getElem? hv); omega
  have hxl : x.toNat < f.names.length := by omega
  have hmem : ((x.toNat : Nat) : Int) ∈ (NC f).getD v [] := by
    have := NC_get f G q hq
    rw [e, Int.toNat_natCast] at this
    rw [this, mem_needC, Int.toNat_of_nonneg hr.1]
    exact ⟨hr.1, hx⟩
  have hb := O.b v x.toNat hvl hxl hmem
  have hpv : posO (ordL (NC f)) v = i := P.at_ hv
  rw [hpv] at hb
  refine ⟨hr, pl_rng f F G hK _ hxl, ?_⟩
  have hL := lastR_needs f F G P v x.toNat hvl hxl hmem
  rw [hpv, ← lAt_pos f F G P _ hxl] at hL
  have := C.c (posO (ordL (NC f)) x.toNat) hb fun k' h1 h2 hs => by
    have h4 : lAt (ordL (NC f)) (lastsR f (ordL (NC f))) _ < (k' : Int) := pl_apart f F G hK k' (by omega) _ h1 hs.symm
    omega
  rw [sAt_pos f F G P _ hxl] at this
  rw [this, List.getD_eq_getElem?_getD, (P.pos _ hxl).2]
  simp only [Option.getD_some]; omega
theorem cel_end {cells : List Int} (C : Cel (ordL (NC f)) (plS f) (plN f) f.names.length cells) (k : Nat) (hk : k < f.names.length) (he : (endF f).getD k false = true) :
    cells.getD ((plS f).getD k 0).toNat 0 = k + 1 := by
  have P := (ordL_ok f F G hK).p
  have hL := lastR_end f F G P k hk he
  rw [← lAt_pos f F G P _ hk] at hL
  have := C.c (posO (ordL (NC f)) k) (P.lt hk) fun k' h1 h2 hs => by
    have h4 : lAt (ordL (NC f)) (lastsR f (ordL (NC f))) _ < (k' : Int) := pl_apart f F G hK k' (by omega) _ h1 hs.symm
    omega
  rw [sAt_pos f F G P _ hk] at this
  rw [this, List.getD_eq_getElem?_getD, (P.pos _ hk).2]
  rfl
end
end
section
variable {call : CallF} {mt : MtF} {md : FuncId → Md}
theorem small15_c (f : FlatV) (H : List AO) (id : Nat) : callV cw mds 15 [.agg f.cs] H id = some (.val (litB (small25 f)) none) := small15_call f H id
theorem store_pl (f : FlatV) (R : List AO) {O S : AV} {o s : List Int} (hO : RowA O o) (hS : RowA S s) (m : Int) (x : List AV) (hx : x.length = 3) (r : Nat) (H : List AO) (h : H[r]? = some (.row x 32)) : storeAt H 3 (.ptr r 0) (planA O S m) = some (setL H r (.row [O, S, litI .i64 m] 32)) :=
  storeAt_agg (cs := x) h hx rfl (by simp [hO.cell.1, hS.cell.1]; rfl)
abbrev zPl : List AV := [.sl 0 [] (some 0), .sl 0 [] (some 0), litI .i64 0]
end
section
variable {call : CallF} {mt : MtF} {md : FuncId → Md}
theorem liveN_bd (ord last : List Int) (i : Nat) : ∀ k, liveN ord last i k ≤ k
  | 0 => Nat.le_refl _
  | k + 1 => by
    rw [liveN]
    have := liveN_bd ord last i k
    split <;> omega
section
variable (f : FlatV) (B S : AV) (m : Int) (ord : List Int) (hB : RowA B ord) (last : List Int) (c : Option Nat) (hll : last.length = ord.length) (hr : ∀ x ∈ ord, 0 ≤ x ∧ x < (ord.length : Int)) (hol : ord.length ≤ 100000)
include hB hll hr hol
end
end
section
variable {call : CallF} {mt : MtF} {md : FuncId → Md}
theorem cat_drop : ∀ (T : List (List AV)) (v : Nat), (∀ x ∈ T, x.length = 10) → v ≤ T.length → T.flatten.drop (v * 10) = (T.drop v).flatten
  | T, 0, _, _ => by simp
  | [], v + 1, _, h => by simp at h
  | x :: T, v + 1, h, hv => by
    have hx := h x (List.mem_cons_self ..)
    rw [List.flatten_cons, List.drop_append, List.drop_of_length_le (by omega), List.nil_append, hx, show (v + 1) * 10 - 10 = v * 10 by omega, List.drop_succ_cons]
    exact cat_drop T v (fun y hy => h y (List.mem_cons_of_mem _ hy)) (by simpa using hv)
theorem cat_take : ∀ (T : List (List AV)) (v : Nat), (∀ x ∈ T, x.length = 10) → v ≤ T.length → T.flatten.take (v * 10) = (T.take v).flatten
  | T, 0, _, _ => by simp
  | [], v + 1, _, h => by simp at h
  | x :: T, v + 1, h, hv => by
    have hx := h x (List.mem_cons_self ..)
    rw [List.flatten_cons, List.take_append, List.take_of_length_le (by omega), hx, show (v + 1) * 10 - 10 = v * 10 by omega, List.take_succ_cons, List.flatten_cons]
    rw [cat_take T v (fun y hy => h y (List.mem_cons_of_mem _ hy)) (by simpa using hv)]
theorem cat_len : ∀ (T : List (List AV)), (∀ x ∈ T, x.length = 10) → T.flatten.length = T.length * 10
  | [], _ => rfl
  | x :: T, h => by
    rw [List.flatten_cons, List.length_append, cat_len T (fun y hy => h y (List.mem_cons_of_mem _ hy)), h x (List.mem_cons_self ..), List.length_cons]; omega
theorem cat_load {H : List AO} {r : Nat} {T : List (List AV)} {t : TypeId} {v : Nat} {x : List AV} (h : H[r]? = some (.row T.flatten t)) (hT : ∀ x ∈ T, x.length = 10) (hv : T[v]? = some x) : Ai.load H (some 10) (.ptr r (0 + v * 10)) = some (.agg x) := by
  obtain ⟨h1, h2⟩ := List.getElem?_eq_some_iff.1 hv
  have hx := hT x (List.mem_of_getElem? hv)
  have e : T.flatten.drop (0 + v * 10) = x ++ (T.drop (v + 1)).flatten := by
    rw [Nat.zero_add, cat_drop T v hT (by omega), List.drop_eq_getElem_cons h1, List.flatten_cons, h2]
  simp only [Ai.load, rowAt_of h, Option.bind_some, e]
  show (bif Nat.ble 10 (x ++ (T.drop (v + 1)).flatten).length then some (AV.agg ((x ++ (T.drop (v + 1)).flatten).take 10)) else none) = _
  rw [Nat.ble_eq_true_of_le (by rw [List.length_append]; omega), cond_true, ← hx, List.take_left]
theorem cat_store {H : List AO} {r : Nat} {T : List (List AV)} {t : TypeId} {v : Nat} {x : List AV} (h : H[r]? = some (.row T.flatten t)) (hT : ∀ x ∈ T, x.length = 10) (hv : v < T.length) (hx : x.length = 10) (hc : x.all cellA = true) : storeAt H 10 (.ptr r (0 + v * 10)) (.agg x) = some (setL H r (.row (T.set v x).flatten t)) := by
  have hle : Nat.ble (0 + v * 10 + 10) T.flatten.length = true := Nat.ble_eq_true_of_le (by rw [cat_len T hT]; omega)
  simp only [storeAt, rowAt_of h, Option.bind_some, cellsOf, hx, hc, hle, beq_self_eq_true, Bool.and_self, cond_true]
  congr 3
  rw [Nat.zero_add, show v * 10 + 10 = (v + 1) * 10 by omega, cat_take T v hT (by omega), cat_drop T (v + 1) hT (by omega), List.set_eq_take_append_cons_drop, if_pos hv, List.flatten_append, List.flatten_cons, List.append_assoc]
theorem reps_cat (z : List AV) : ∀ n, reps n z = (List.replicate n z).flatten
  | 0 => rfl
  | n + 1 => by rw [reps, reps_cat z n, List.replicate_succ, List.flatten_cons]
theorem iadr_own10 {r n : Nat} {c : Option Nat} {x : Int} (h0 : 0 ≤ x) (h1 : x < (n : Int)) : iadr 10 (.own r 0 n 10 c) (litI .i64 x) = some (.ptr r (0 + x.toNat * 10)) := by
  rw [iadr_own, if_pos ⟨h0, h1⟩]
theorem eqn_cells (q : Eqn) : q.cs.all cellA = true := rfl
def setT (T : List (List AV)) : List Eqn → List (List AV)
  | [] => T
  | q :: l => setT (T.set q.var.toNat q.cs) l
theorem setT_10 : ∀ (l : List Eqn) (T : List (List AV)), (∀ x ∈ T, x.length = 10) → ∀ x ∈ setT T l, x.length = 10
  | [], _, h => h
  | q :: l, T, h => by
    rw [setT]
    refine setT_10 l _ fun x hx => ?_
    rcases List.mem_or_eq_of_mem_set hx with hx | rfl
    · exact h x hx
    · rfl
theorem setT_other (v : Nat) : ∀ (l : List Eqn) (T : List (List AV)), (∀ q ∈ l, q.var.toNat ≠ v) → (setT T l)[v]? = T[v]?
  | [], _, _ => rfl
  | q :: l, T, h => by
    rw [setT, setT_other v l _ fun q' hq => h q' (List.mem_cons_of_mem _ hq), List.getElem?_set_ne (h q (List.mem_cons_self ..))]
theorem setT_get : ∀ (l : List Eqn) (T : List (List AV)), (∀ q ∈ l, 0 ≤ q.var ∧ q.var < (T.length : Int)) → (l.map (·.var)).Nodup → ∀ q ∈ l, (setT T l)[q.var.toNat]? = some q.cs
  | [], _, _, _ => by simp
  | q :: l, T, h, hn => by
    rw [List.map_cons, List.nodup_cons] at hn
    have hq := h q (List.mem_cons_self ..)
    intro q' hq'
    rw [setT]
    rcases List.mem_cons.1 hq' with rfl | hq'
    · rw [setT_other _ l _ fun q2 h2 e => ?_, List.getElem?_set_self (by omega)]
      have h3 := h q2 (List.mem_cons_of_mem _ h2)
      exact hn.1 (List.mem_map.2 ⟨q2, h2, by omega⟩)
    · exact setT_get l _ (fun q2 h2 => by rw [List.length_set]; exact h q2 (List.mem_cons_of_mem _ h2)) hn.2 q' hq'
abbrev rH (f : FlatV) (B S : AV) (m : Nat) (cells : List Int) (T : List (List AV)) : List AO := [.row f.cs 29, .row [B, S, litI .i64 m] 32, .row (cellsI cells) 3, .row T.flatten 60]
section
variable (f : FlatV) (F : FitsS f) (G : GoodF f) (B S : AV) (m : Nat)
include F G
theorem re0_loop (cells : List Int) : ∀ (j i : Nat) (T : List (List AV)), j + i = f.eqs.length → T.length = f.names.length → (∀ x ∈ T, x.length = 10) →
    loopW (codeW cw (lookM mtl) mds c9l0) [1, 3, 5, 6, 7] [(1, .ptr 0 0), (3, .ptr 1 0), (5, .own 2 0 m 1 (some m)), (6, .own 3 0 f.names.length 10 (some f.names.length)), (7, litI .i64 i)] (rH f B S m cells T) =
      some (.exit 0, [(1, .ptr 0 0), (3, .ptr 1 0), (5, .own 2 0 m 1 (some m)), (6, .own 3 0 f.names.length 10 (some f.names.length)), (7, litI .i64 f.eqs.length), (40, litB false)], rH f B S m cells (setT T (f.eqs.drop i)))
  | 0, i, T, h, hl, hT => by
    have hi : i = f.eqs.length := by omega
    subst hi
    have l3 : Ai.load (rH f B S m cells T) none (.ptr 0 3) = some (eqsA f.eqs) := rfl
    rw [List.drop_length, setT]
    refine loopW_out ?_ (by simp)
    simp -implicitDefEqProofs only [c9l0, aW, ↓aP, makes, reduceLT, reduceEqDiff, reduceAdd, fadr_ptr, Nat.zero_add, l3, lenV_eqs, Int.lt_irrefl]
  | j + 1, i, T, h, hl, hT => by
    have hi : i < f.eqs.length := by omega
    have hg : f.eqs[i]? = some f.eqs[i] := List.getElem?_eq_getElem hi
    have hlt : (i : Int) < f.eqs.length := by omega
    have hmem := List.getElem_mem hi
    rw [List.drop_eq_getElem_cons hi, setT]
    generalize f.eqs[i] = q at hg hmem
    have hv := G.var q hmem
    have l3 : Ai.load (rH f B S m cells T) none (.ptr 0 3) = some (eqsA f.eqs) := rfl
    have lq := load_ipA (H := rH f B S m cells T) (show (Eqn.cs q).length = 10 from rfl)
    have ia := iadr_own10 (r := 3) (n := f.names.length) (c := some f.names.length) hv.1 hv.2
    have st : storeAt (rH f B S m cells T) 10 (.ptr 3 (0 + q.var.toNat * 10)) (.agg q.cs) = some (rH f B S m cells (T.set q.var.toNat q.cs)) := by
      rw [cat_store (T := T) (t := 60) rfl hT (by omega) rfl (eqn_cells q)]; rfl
    rw [Nat.zero_add] at ia st
    refine loopW_round ?_ (re0_loop cells j (i + 1) (T.set q.var.toNat q.cs) (by omega) (by simpa using hl) (fun x hx => by
      rcases List.mem_or_eq_of_mem_set hx with hx | rfl
      · exact hT x hx
      · rfl))
    simp -implicitDefEqProofs only [c9l0, aW, ↓aP, makes, reduceLT, reduceEqDiff, reduceAdd, fadr_ptr, fadr_ip, Nat.zero_add, l3, lenV_eqs, hlt, iadr_eqs, hg, eqn_h0, lq, ia, st, wrap1 (show i < 4611686018427387904 by have := F.eqs; omega)]
omit G in
theorem re1_loop (ord slots : List Int) (hS : RowA S slots) (hsl : slots.length = f.names.length) (cells : List Int) (hcl : cells.length = m) (T : List (List AV)) (i v : Nat) (A : AV) (l : List Int) (hA : RowA A l) (hll : l.length ≤ 1000)
    (hx : ∀ x ∈ l, (0 ≤ x ∧ x < (f.names.length : Int)) ∧ (0 ≤ slots.getD x.toNat 0 ∧ slots.getD x.toNat 0 < (m : Int)) ∧ cells.getD (slots.getD x.toNat 0).toNat 0 = x + 1) : ∀ (j k : Nat), j + k = l.length →
    loopW (codeW cw (lookM mtl) mds c9l1) [1, 3, 5, 6, 8, 9, 10, 11] [(1, .ptr 0 0), (3, .ptr 1 0), (5, .own 2 0 m 1 (some m)), (6, .own 3 0 f.names.length 10 (some f.names.length)), (8, litI .i64 i), (9, litI .i64 v), (10, A), (11, litI .i64 k)] (rH f B S m cells T) =
      some (.exit 4, [(1, .ptr 0 0), (3, .ptr 1 0), (5, .own 2 0 m 1 (some m)), (6, .own 3 0 f.names.length 10 (some f.names.length)), (8, litI .i64 i), (9, litI .i64 v), (10, A), (11, litI .i64 l.length), (77, litB false)], rH f B S m cells T)
  | 0, k, h => by
    have hk : k = l.length := by omega
    subst hk
    refine loopW_out ?_ (by simp)
    simp -implicitDefEqProofs only [c9l1, aW, ↓aP, makes, reduceLT, reduceEqDiff, reduceAdd, hA.lenV, Int.lt_irrefl]
  | j + 1, k, h => by
    have hk : k < l.length := by omega
    have hg : l[k]? = some l[k] := List.getElem?_eq_getElem hk
    have hlt : (k : Int) < l.length := by omega
    obtain ⟨x1, x2, x3⟩ := hx _ (List.getElem_mem hk)
    generalize l[k] = x at hg x1 x2 x3
    have hnn := F.names
    have l1 : Ai.load (rH f B S m cells T) none (.ptr 1 1) = some S := rfl
    have iS : iadr 1 S (litI .i64 x) = some (.ip [litI .i64 (slots.getD x.toNat 0)]) := by
      have := hS.iadr (Ord.getI (l := slots) (n := x.toNat) (by omega))
      rw [Int.toNat_of_nonneg x1.1] at this
      exact this
    have ic := iadr_ownI (r := 2) (n := m) (c := some m) x2.1 x2.2
    have lc : Ai.load (rH f B S m cells T) none (.ptr 2 (slots.getD x.toNat 0).toNat) = some (litI .i64 (x + 1)) := by
      rw [load_ptr (H := rH f B S m cells T) (r := 2) (cs := cellsI cells) (t := 3) rfl, cellsI_at, Ord.getI (by omega), x3]; rfl
    have hw1 : IntKind.wrap .i64 (x + 1) = x + 1 := by rw [wrap_small] <;> omega
    refine loopW_round ?_ (re1_loop ord slots hS hsl cells hcl T i v A l hA hll hx j (k + 1) (by omega))
    simp -implicitDefEqProofs only [c9l1, aW, ↓aP, makes, reduceLT, reduceEqDiff, reduceAdd, hA.lenV, hlt, fadr_ptr, Nat.zero_add, l1, hA.iadr hg, load_ip1, iS, ic, lc, hw1, bne_self_eq_false, wrap1 (show k < 4611686018427387904 by omega)]
omit G in
theorem re3_loop (slots : List Int) (hS : RowA S slots) (hsl : slots.length = f.names.length) (cells : List Int) (hcl : cells.length = m) (T : List (List AV)) (es : List Bool) (hes : es.length = f.names.length)
    (hr : ∀ v : Nat, v < f.names.length → 0 ≤ slots.getD v 0 ∧ slots.getD v 0 < (m : Int)) (hx : ∀ k : Nat, k < f.names.length → es.getD k false = true → cells.getD (slots.getD k 0).toNat 0 = k + 1) : ∀ (j k : Nat), j + k = f.names.length →
    loopW (codeW cw (lookM mtl) mds c9l3) [3, 5, 12, 13] [(3, .ptr 1 0), (5, .own 2 0 m 1 (some m)), (12, boolsC es (some f.names.length)), (13, litI .i64 k)] (rH f B S m cells T) =
      some (.exit 6, [(3, .ptr 1 0), (5, .own 2 0 m 1 (some m)), (12, boolsC es (some f.names.length)), (13, litI .i64 f.names.length), (118, litB false)], rH f B S m cells T)
  | 0, k, h => by
    have hk : k = f.names.length := by omega
    subst hk
    refine loopW_out ?_ (by simp)
    simp -implicitDefEqProofs only [c9l3, aW, ↓aP, makes, reduceLT, reduceEqDiff, reduceAdd, lenV_bools, hes, Int.lt_irrefl]
  | j + 1, k, h => by
    have hk : k < f.names.length := by omega
    have hlt : (k : Int) < f.names.length := by omega
    have hnn := F.names
    have l1 : Ai.load (rH f B S m cells T) none (.ptr 1 1) = some S := rfl
    have hle : lenV S = some (litI .i64 f.names.length) := by rw [hS.lenV, hsl]
    have iE : iadr 1 (boolsC es (some f.names.length)) (litI .i64 k) = some (.ip [litB (es.getD k false)]) := by
      rw [iadr_bools, List.getD_eq_getElem?_getD, List.getElem?_eq_getElem (by omega)]; rfl
    have iS := hS.iadr (Ord.getI (l := slots) (n := k) (by omega))
    have x2 := hr k hk
    have ic := iadr_ownI (r := 2) (n := m) (c := some m) x2.1 x2.2
    have hw := wrap1 (show k < 4611686018427387904 by omega)
    have ih := re3_loop slots hS hsl cells hcl T es hes hr hx j (k + 1) (by omega)
    cases he : es.getD k false with
    | false =>
      rw [he] at iE
      refine loopW_round ?_ ih
      simp -implicitDefEqProofs only [c9l3, aW, ↓aP, makes, reduceLT, reduceEqDiff, reduceAdd, lenV_bools, hes, hlt, fadr_ptr, Nat.zero_add, l1, hle, iE, load_ip1, hw]
    | true =>
      rw [he] at iE
      have x3 := hx k hk he
      have lc : Ai.load (rH f B S m cells T) none (.ptr 2 (slots.getD k 0).toNat) = some (litI .i64 (k + 1 : Nat)) := by
        rw [load_ptr (H := rH f B S m cells T) (r := 2) (cs := cellsI cells) (t := 3) rfl, cellsI_at, Ord.getI (by omega), x3]; rfl
      refine loopW_round ?_ ih
      simp -implicitDefEqProofs only [c9l3, aW, ↓aP, makes, reduceLT, reduceEqDiff, reduceAdd, lenV_bools, hes, hlt, fadr_ptr, Nat.zero_add, l1, hle, iE, iS, ic, lc, load_ip1, hw, bne_self_eq_false]
theorem re2_loop (hK : Ord.okL (NC f) = true) (hB : RowA B (ordL (NC f))) (hS : RowA S (plS f)) (T : List (List AV)) (hT : ∀ x ∈ T, x.length = 10) (hTq : ∀ q ∈ f.eqs, T[q.var.toNat]? = some q.cs) : ∀ (j i : Nat) (cells : List Int), j + i = f.names.length → Cel (ordL (NC f)) (plS f) (plN f) i cells →
    ∃ cells', Cel (ordL (NC f)) (plS f) (plN f) f.names.length cells' ∧
    loopW (codeW cw (lookM mtl) mds c9l2) [1, 3, 5, 6, 8] [(1, .ptr 0 0), (3, .ptr 1 0), (5, .own 2 0 (plN f) 1 (some (plN f))), (6, .own 3 0 f.names.length 10 (some f.names.length)), (8, litI .i64 i)] (rH f B S (plN f) cells T) =
      some (.exit 2, [(1, .ptr 0 0), (3, .ptr 1 0), (5, .own 2 0 (plN f) 1 (some (plN f))), (6, .own 3 0 f.names.length 10 (some f.names.length)), (8, litI .i64 f.names.length), (60, litB false)], rH f B S (plN f) cells' T)
  | 0, i, cells, h, C => by
    have P := (ordL_ok f F G hK).p
    have hi : i = f.names.length := by omega
    subst hi
    have l0 : Ai.load (rH f B S (plN f) cells T) none (.ptr 1 0) = some B := rfl
    refine ⟨cells, C, loopW_out ?_ (by simp)⟩
    simp -implicitDefEqProofs only [c9l2, aW, ↓aP, makes, reduceLT, reduceEqDiff, reduceAdd, fadr_ptr, Nat.zero_add, l0, hB.lenV, P.len, Int.lt_irrefl]
  | j + 1, i, cells, h, C => by
    have P := (ordL_ok f F G hK).p
    have hi : i < f.names.length := by omega
    have hlt : (i : Int) < f.names.length := by omega
    have hnn := F.names
    obtain ⟨v, hv, hg, hpos⟩ := at_pos f P i hi
    have hgd : (ordL (NC f)).getD i 0 = (v : Int) := by rw [List.getD_eq_getElem?_getD, hg]; rfl
    obtain ⟨q, hq, hqv⟩ := G.all v hv
    have hqT := hTq q hq
    have hqr := G.var q hq
    have e0 : q.var = (v : Int) := by omega
    rw [hqv] at hqT
    have l0 : Ai.load (rH f B S (plN f) cells T) none (.ptr 1 0) = some B := rfl
    have l1 : Ai.load (rH f B S (plN f) cells T) none (.ptr 1 1) = some S := rfl
    have lA : Ai.load (rH f B S (plN f) cells T) (some 8) (.ptr 0 0) = some (.agg f.cs) := load_agg rfl rfl
    have ia := iadr_own10 (r := 3) (n := f.names.length) (c := some f.names.length) (x := (v : Int)) (by omega) (by omega)
    rw [Int.toNat_natCast, Nat.zero_add] at ia
    have lq : Ai.load (rH f B S (plN f) cells T) (some 10) (.ptr 3 (v * 10)) = some (.agg q.cs) := by
      have := cat_load (H := rH f B S (plN f) cells T) (r := 3) (T := T) (t := 60) rfl hT hqT
      rw [Nat.zero_add] at this; exact this
    obtain ⟨A, hA, hc⟩ := need22_call f F q (F.args q hq) (G.kok q hq)
    have L := re1_loop f F B S (plN f) (ordL (NC f)) (plS f) hS (pl_len f F G hK) cells C.len T i v A (needR f q) hA (by have := needR_len f F q hq (G.kok q hq); omega) (fun x hx => cel_read f F G hK hi hg C hq e0 hx) (needR f q).length 0 (by omega)
    rw [show ((0 : Nat) : Int) = 0 from rfl] at L
    have iS := hS.iadr (Ord.getI (l := plS f) (n := v) (by rw [pl_len f F G hK]; exact hv))
    have x2 := pl_rng f F G hK v hv
    have ic := iadr_ownI (r := 2) (n := plN f) (c := some (plN f)) x2.1 x2.2
    have C' := cel_set f F G hK hi C
    have es : sAt (ordL (NC f)) (plS f) i = (plS f).getD v 0 := by unfold sAt; rw [hgd]; rfl
    rw [es, hgd] at C'
    have st : storeAt (rH f B S (plN f) cells T) 1 (.ptr 2 ((plS f).getD v 0).toNat) (litI .i64 (v + 1 : Nat)) = some (rH f B S (plN f) (cells.set ((plS f).getD v 0).toNat (v + 1)) T) := by
      rw [store_ptr (r := 2) (cs := cellsI cells) (t := 3) rfl (by rw [cellsI_len, C.len]; omega) rfl rfl]
      have e : (cellsI cells).set ((plS f).getD v 0).toNat (litI .i64 (v + 1 : Nat)) = cellsI (cells.set ((plS f).getD v 0).toNat (v + 1)) := by simp [cellsI]
      rw [e]; rfl
    obtain ⟨cells', C2, L2⟩ := re2_loop hK hB hS T hT hTq j (i + 1) _ (by omega) C'
    refine ⟨cells', C2, loopW_round ?_ L2⟩
    simp -implicitDefEqProofs only [c9l2, aW, ↓aP, makes, reduceLT, reduceEqDiff, reduceAdd, fadr_ptr, Nat.zero_add, l0, l1, hB.lenV, P.len, hlt, hB.iadr hg, load_ip1, lA, ia, lq, show mds 22 = Md.pure from rfl, hc, L, iS, ic, st, wrap1 (show v < 4611686018427387904 by omega), wrap1 (show i < 4611686018427387904 by omega)]
end
end
section
variable {call : CallF} {mt : MtF} {md : FuncId → Md}
theorem plN_le (f : FlatV) (F : FitsS f) (G : GoodF f) (hK : Ord.okL (NC f) = true) : plN f ≤ f.names.length := by
  rw [← pl_least f F G hK]
  refine maxN_le _ _ _ fun i hi => ?_
  have := liveN_bd (ordL (NC f)) (plL f) i (i + 1)
  omega
abbrev zEq : List AV := [litI .i64 0, litS (bs []), .sl 0 [] (some 0), litI .i64 0, litI .i64 0, litB false, .sl 0 [] (some 0), .sl 0 [] (some 0), litS (bs []), litI .i64 0]
theorem planReads9_tells (f : FlatV) : ∃ H', cw 9 [flatA f] [] = some (.ret (litB true), H') := by
  have lA0 : Ai.load [.row f.cs 29] (some 8) (.ptr 0 0) = some (.agg f.cs) := load_agg rfl rfl
  have hsm := small15_c f
  have haw := awake18_call
  cases hs : small25 f with
  | false =>
    rw [hs] at hsm
    refine ⟨_, cw_of fn9 (c := c9) (r := (.ret (litB true), [.row f.cs 29])) rfl rfl rfl rfl ?_⟩
    simp -implicitDefEqProofs only [c9, aW, ↓aP, makes, reduceLT, reduceEqDiff, reduceAdd, core_box, flat_f, List.length_nil, List.length_cons, lA0, hsm]
    rfl
  | true =>
    rw [hs] at hsm
    have F := fitsS_of f hs
    cases hp : planOk f with
    | false =>
      have h1 : ∀ H id, callV cw mds 16 [.agg f.cs] H id = _ := fun H id => planOf_bad f F hp H id
      have he : (errA (goodOk f) (Ord.okL (NC f)) != 0) = true := by
        unfold planOk at hp
        cases h1 : goodOk f with
        | false => rfl
        | true => rw [h1, Bool.true_and] at hp; rw [hp]; rfl
      have st1 : storeAt [.row f.cs 29, .row zPl 32] 3 (.ptr 1 0) (planA (.sl 0 [] (some 0)) (.sl 0 [] (some 0)) 0) = some [.row f.cs 29, .row zPl 32] := store_pl f [] RowA.nil RowA.nil 0 _ rfl _ _ rfl
      refine ⟨_, cw_of fn9 (c := c9) (r := (.ret (litB true), [.row f.cs 29, .row zPl 32])) rfl rfl rfl rfl ?_⟩
      simp -implicitDefEqProofs only [c9, aW, ↓aP, makes, reduceLT, reduceEqDiff, reduceAdd, core_box, flat_f, List.length_nil, List.length_cons, lA0, hsm, h1, st1, he, haw]
      rfl
    | true =>
      obtain ⟨B, hB, h1⟩ := planOf_good f F hp
      have h1 : ∀ H id, callV cw mds 16 [.agg f.cs] H id = some (.val (.tup [planA B (rowC (plS f) (some (ordL (NC f)).length)) (plN f), litI .i64 0]) none) := h1
      unfold planOk at hp
      rw [Bool.and_eq_true] at hp
      obtain ⟨hG, hK⟩ := hp
      have G := goodF_of hG
      have hn := F.names
      have P := (ordL_ok f F G hK).p
      have hl := pl_len f F G hK
      have hS := RowA.of (plS f) (some (ordL (NC f)).length)
      generalize hSd : rowC (plS f) (some (ordL (NC f)).length) = S at hS h1
      have st1 : storeAt [.row f.cs 29, .row zPl 32] 3 (.ptr 1 0) (planA B S (plN f)) = some [.row f.cs 29, .row [B, S, litI .i64 (plN f)] 32] := store_pl f [] hB hS _ _ rfl _ _ rfl
      have lA1 : Ai.load [.row f.cs 29, .row [B, S, litI .i64 (plN f)] 32] (some 8) (.ptr 0 0) = some (.agg f.cs) := load_agg rfl rfl
      have lP1 : Ai.load [.row f.cs 29, .row [B, S, litI .i64 (plN f)] 32] (some 3) (.ptr 1 0) = some (planA B S (plN f)) := load_agg rfl rfl
      have hr : ∀ H id, callV cw mds 20 [.agg f.cs, planA B S (plN f)] H id = some (.val (litB true) none) := fun H id => by
        have := rright_call f F hB hS (by rw [P.len]; omega) (by rw [hl]; omega) (plN f) H id
        rw [← right_iff f F G hG, pl_right f F G hK hG] at this
        exact this
      have l2 : Ai.load [.row f.cs 29, .row [B, S, litI .i64 (plN f)] 32] none (.ptr 1 2) = some (litI .i64 (plN f)) := rfl
      have hmN := plN_le f F G hK
      have hm1 := mksV_ok (id := 2) (e := 1) (bytes := 8) (z := [litI .i64 0]) (t := 3) (n := plN f) (by omega) (by omega)
      rw [reps_one, show List.replicate (plN f) (litI .i64 0) = cellsI (List.replicate (plN f) 0) by simp [cellsI]] at hm1
      have hm2 := mksV_ok (id := 3) (e := 10) (bytes := 144) (z := zEq) (t := 60) (n := f.names.length) (by omega) (by omega)
      rw [reps_cat] at hm2
      have l11 : Ai.load [.row f.cs 29, .row [B, S, litI .i64 (plN f)] 32, .row (cellsI (List.replicate (plN f) 0)) 3] none (.ptr 0 1) = some (strs f.names) := rfl
      have hT0 : ∀ x ∈ List.replicate f.names.length zEq, x.length = 10 := fun x hx => by rw [List.eq_of_mem_replicate hx]; rfl
      have L0 := re0_loop f F G B S (plN f) (List.replicate (plN f) 0) f.eqs.length 0 (List.replicate f.names.length zEq) (by omega) (by simp) hT0
      rw [show ((0 : Nat) : Int) = 0 from rfl, List.drop_zero, show rH f B S (plN f) (List.replicate (plN f) 0) (List.replicate f.names.length zEq) = [.row f.cs 29, .row [B, S, litI .i64 (plN f)] 32, .row (cellsI (List.replicate (plN f) 0)) 3, .row (List.replicate f.names.length zEq).flatten 60] from rfl] at L0
      have hT := setT_10 f.eqs _ hT0
      have hTq := setT_get f.eqs (List.replicate f.names.length zEq) (fun q hq => by rw [List.length_replicate]; exact G.var q hq) G.nodup
      generalize setT (List.replicate f.names.length zEq) f.eqs = T at L0 hT hTq
      obtain ⟨cells, C, L2⟩ := re2_loop f F G B S hK hB hS T hT hTq f.names.length 0 (List.replicate (plN f) 0) (by omega) ⟨by simp, fun k hk => by omega⟩
      rw [show ((0 : Nat) : Int) = 0 from rfl] at L2
      have lA3 : Ai.load (rH f B S (plN f) cells T) (some 8) (.ptr 0 0) = some (.agg f.cs) := load_agg rfl rfl
      have he : ∀ H id, callV cw mds 23 [.agg f.cs] H id = some (.val (boolsC (endF f) (some f.names.length)) none) := fun H id => end_call f F hG H id
      have L3 := re3_loop f F B S (plN f) (plS f) hS hl cells C.len T (endF f) (by simp [endF, endB_len]) (fun v hv => pl_rng f F G hK v hv) (fun k hk h => cel_end f F G hK C k hk h) f.names.length 0 (by omega)
      rw [show ((0 : Nat) : Int) = 0 from rfl] at L3
      refine ⟨_, cw_of fn9 (c := c9) (r := (.ret (litB true), rH f B S (plN f) cells T)) rfl rfl rfl rfl ?_⟩
      simp -implicitDefEqProofs only [c9, aW, ↓aP, makes, reduceLT, reduceEqDiff, reduceAdd, core_box, flat_f, List.length_nil, List.length_cons, lA0, hsm, h1, st1, lA1, lP1, bne_self_eq_false, hr, fadr_ptr, Nat.zero_add, l2, hm1, hm2, l11, lenV_strs, L0, L2, lA3, he, L3, haw]
      rfl
end
section
set_option maxRecDepth 100000
theorem flat_arg {a : AV} (h : argSh Try.prog 29 tFlat a) : ∃ f : FlatV, a = flatA f := by
  unfold argSh at h
  rw [Try.underlying29] at h
  simp only at h
  obtain ⟨xs, rfl, h2⟩ := h
  obtain ⟨f, rfl⟩ := flat_sh h2
  exact ⟨f, rfl⟩
end
end Go.Proofs.Ytcgbdndkfonphaa.Ai
