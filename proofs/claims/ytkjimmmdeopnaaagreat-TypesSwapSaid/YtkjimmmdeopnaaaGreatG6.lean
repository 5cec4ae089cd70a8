/- Seat of layer 9: expressions as trees; which are few; which tell something. No condition. -/
import Derived.Test.YtkjimmmdeopnaaaGreatG5
import Derived.SizedLaws
set_option linter.unusedSimpArgs false
set_option linter.unusedVariables false
set_option linter.unusedSectionVars false
open Nat (reduceLT reduceEqDiff reduceAdd)
namespace Go.Proofs.YtkjimmmdeopnaaaGreat.Ai
open Go Go.Ai
section
inductive Tr where
  | mk (k : Int) (n : ByteArray) (z : Nat) (c : Option Nat) (ts : List Tr) (p : Int)
theorem Tr.ind {P : Tr → Prop} (h : ∀ k n z c ts p, (∀ a ∈ ts, P a) → P (.mk k n z c ts p)) (t : Tr) : P t :=
  Tr.rec (motive_1 := P) (motive_2 := fun ts => ∀ a ∈ ts, P a) (fun k n z c ts p ih => h k n z c ts p ih) (fun a ha => by cases ha) (fun a r ha hr x hx => by
    rcases List.mem_cons.1 hx with rfl | hx
    · exact ha
    · exact hr x hx) t
def Tr.k : Tr → Int | .mk k _ _ _ _ _ => k
def Tr.n : Tr → ByteArray | .mk _ n _ _ _ _ => n
def Tr.z : Tr → Nat | .mk _ _ z _ _ _ => z
def Tr.c : Tr → Option Nat | .mk _ _ _ c _ _ => c
def Tr.ts : Tr → List Tr | .mk _ _ _ _ ts _ => ts
def Tr.p : Tr → Int | .mk _ _ _ _ _ p => p
def eZ (z : Nat) : List Tr → Nat
  | [] => z
  | _ :: _ => 4
mutual
def Tr.cells : Tr → List AV
  | .mk k n z c ts p => [litI .i64 k, litS n, .sl (eZ z ts) (cellsL ts) c, litI .i64 p]
def cellsL : List Tr → List (List AV)
  | [] => []
  | a :: r => a.cells :: cellsL r
end
theorem cellsL_map : ∀ ts : List Tr, cellsL ts = ts.map Tr.cells
  | [] => rfl
  | a :: r => by rw [cellsL, cellsL_map r]; rfl
def argsA (z : Nat) (c : Option Nat) (ts : List Tr) : AV := .sl (eZ z ts) (ts.map Tr.cells) c
theorem cells_mk (t : Tr) : t.cells = [litI .i64 t.k, litS t.n, argsA t.z t.c t.ts, litI .i64 t.p] := by
  obtain ⟨k, n, z, c, ts, p⟩ := t
  rw [Tr.cells, cellsL_map]; rfl
theorem cells_len (t : Tr) : t.cells.length = 4 := by rw [cells_mk]; rfl
theorem cells_cell (t : Tr) : t.cells.all cellA = true := by rw [cells_mk]; rfl
theorem whole_cells (t : Tr) : wholeA (.agg t.cells) = true := by rw [cells_mk]; rfl
theorem lenV_args (z : Nat) (c : Option Nat) (ts : List Tr) : lenV (argsA z c ts) = some (litI .i64 ts.length) := by
  unfold argsA; rw [lenV_sl, List.length_map]
theorem iadr_args {z : Nat} {c : Option Nat} {ts : List Tr} {i : Nat} {t : Tr} (h : ts[i]? = some t) {k : IntKind} : iadr 4 (argsA z c ts) (litI k i) = some (.ip t.cells) := by
  unfold argsA
  have : eZ z ts = 4 := by cases ts with | nil => cases h | cons => rfl
  rw [this, iadr_sl, if_pos (Int.natCast_nonneg i), Int.toNat_natCast, List.getElem?_map, h]
  rfl
theorem fadr_cells1 (t : Tr) : fadr 1 (.ip t.cells) = some (.ip [litS t.n, argsA t.z t.c t.ts, litI .i64 t.p]) := by rw [cells_mk]; rfl
theorem fadr_cells2 (t : Tr) : fadr 2 (.ip t.cells) = some (.ip [argsA t.z t.c t.ts, litI .i64 t.p]) := by rw [cells_mk]; rfl
mutual
def fewT : Tr → Int → Int
  | .mk _ _ _ _ ts _, m => fewL ts (m - 1)
def fewL : List Tr → Int → Int
  | [], m => m
  | a :: r, m => if m < 0 then m else if 400 < (a.n.size : Int) then -1 else fewL r (fewT a m)
end
theorem fewT_eq (a : Tr) (m : Int) : fewT a m = fewL a.ts (m - 1) := by cases a; rfl
theorem few_lo : ∀ (ts : List Tr), (∀ a ∈ ts, ∀ m : Int, -1 ≤ m → m ≤ 400 → -1 ≤ fewL a.ts m ∧ fewL a.ts m ≤ m) → ∀ m : Int, -1 ≤ m → m ≤ 400 → -1 ≤ fewL ts m ∧ fewL ts m ≤ m
  | [], _, m, h1, h2 => ⟨h1, Int.le_refl _⟩
  | a :: r, h, m, h1, h2 => by
    rw [fewL]
    split
    · omega
    · split
      · omega
      · have := h a (List.mem_cons_self ..) (m - 1) (by omega) (by omega)
        rw [fewT_eq]
        have := few_lo r (fun b hb => h b (List.mem_cons_of_mem _ hb)) (fewL a.ts (m - 1)) (by omega) (by omega)
        omega
theorem few_rng : ∀ t : Tr, ∀ m : Int, -1 ≤ m → m ≤ 400 → -1 ≤ fewL t.ts m ∧ fewL t.ts m ≤ m :=
  Tr.ind fun k n z c ts p ih => few_lo ts ih
def fewFr (z : Nat) (c : Option Nat) (ts : List Tr) (m : Int) (i : Int) : Fr := [(0, argsA z c ts), (1, litI .i64 m), (5, litI .i64 i)]
theorem few_loop (z : Nat) (c : Option Nat) (ts : List Tr) (ih : ∀ a ∈ ts, ∀ m : Int, -1 ≤ m → m ≤ 400 → cw0 13 [argsA a.z a.c a.ts, litI .i64 m] [] = some (.ret (litI .i64 (fewL a.ts m)), [])):
    ∀ (r : List Tr) (i : Nat) (m : Int), ts.drop i = r → i ≤ ts.length → -1 ≤ m → m + i ≤ 400 →
      (∃ i', loopW (codeW cw0 (lookM mtl) mds c13l0) [0, 1, 5] (fewFr z c ts m i) [] = some (.exit 0, [(0, argsA z c ts), (1, litI .i64 (fewL r m)), (5, i'), (13, litB false)], [])) ∨
      (fewL r m = -1 ∧ loopW (codeW cw0 (lookM mtl) mds c13l0) [0, 1, 5] (fewFr z c ts m i) [] = some (.ret, [(4, litI .i64 (-1))], []))
  | [], i, m, hd, hi, h1, h2 => by
    have hn : ts.length ≤ i := by
      have := congrArg List.length hd
      rw [List.length_drop, List.length_nil] at this; omega
    left
    refine ⟨litI .i64 i, ?_⟩
    rw [fewL]
    refine loopW_out ?_ (by simp)
    simp -implicitDefEqProofs only [c13l0, fewFr, aW, ↓aP, makes, reduceLT, reduceEqDiff, reduceAdd, ↓reduceIte, Nat.reduceBEq, lenV_args, show ¬ ((i : Int) < ts.length) by omega]
  | a :: r, i, m, hd, hi, h1, h2 => by
    have hlt : i < ts.length := by
      have := congrArg List.length hd
      rw [List.length_drop, List.length_cons] at this; omega
    have hg : ts[i]? = some a := by
      have := congrArg List.head? hd
      rwa [List.head?_drop] at this
    have hlti : (i : Int) < ts.length := by omega
    rw [fewL]
    by_cases hm : m < 0
    · left
      refine ⟨litI .i64 i, ?_⟩
      rw [if_pos hm]
      refine loopW_out ?_ (by simp)
      simp -implicitDefEqProofs only [c13l0, fewFr, aW, ↓aP, makes, reduceLT, reduceEqDiff, reduceAdd, ↓reduceIte, Nat.reduceBEq, lenV_args, hlti, show ¬ ((0 : Int) ≤ m) by omega]
    · rw [if_neg hm]
      by_cases hs : 400 < (a.n.size : Int)
      · right
        rw [if_pos hs]
        refine ⟨rfl, ?_⟩
        refine loopW_out ?_ (by simp)
        simp -implicitDefEqProofs only [c13l0, fewFr, aW, ↓aP, makes, reduceLT, reduceEqDiff, reduceAdd, ↓reduceIte, Nat.reduceBEq, lenV_args, hlti, show (0 : Int) ≤ m by omega, iadr_args hg, fadr_cells1, lenS_str, hs]
      · rw [if_neg hs]
        have hc : ∀ id, callV cw0 mds 13 [argsA a.z a.c a.ts, litI .i64 (m - 1)] [] id = some (.val (litI .i64 (fewL a.ts (m - 1))) none) := fun id => callV_pure rfl rfl (ih a (List.mem_of_getElem? hg) (m - 1) (by omega) (by omega)) rfl
        have hr := few_rng a (m - 1) (by omega) (by omega)
        rw [fewT_eq]
        have step : codeW cw0 (lookM mtl) mds c13l0 (keep [0, 1, 5] (fewFr z c ts m i)) [] = some (.normal, fewFr z c ts (fewL a.ts (m - 1)) ((i + 1 : Nat) : Int), []) := by
          simp -implicitDefEqProofs only [c13l0, fewFr, aW, ↓aP, makes, reduceLT, reduceEqDiff, reduceAdd, ↓reduceIte, Nat.reduceBEq, lenV_args, hlti, show (0 : Int) ≤ m by omega, iadr_args hg, fadr_cells1, fadr_cells2, lenS_str, hs, hc, Go.Ai.wrap_small (show -9223372036854775808 ≤ m - 1 by omega) (by omega), Go.Ai.wrap_small (show -9223372036854775808 ≤ (i : Int) + 1 by omega) (by omega)]
          rfl
        rcases few_loop z c ts ih r (i + 1) (fewL a.ts (m - 1)) (by rw [← List.drop_drop, hd]; rfl) (by omega) (by omega) (by omega) with ⟨i', h⟩ | ⟨e, h⟩
        · exact .inl ⟨i', loopW_round step h⟩
        · exact .inr ⟨e, loopW_round step h⟩
theorem few_row (z : Nat) (c : Option Nat) (ts : List Tr) (ih : ∀ a ∈ ts, ∀ m : Int, -1 ≤ m → m ≤ 400 → cw0 13 [argsA a.z a.c a.ts, litI .i64 m] [] = some (.ret (litI .i64 (fewL a.ts m)), [])) (m : Int) (h1 : -1 ≤ m) (h2 : m ≤ 400) :
    cw0 13 [argsA z c ts, litI .i64 m] [] = some (.ret (litI .i64 (fewL ts m)), []) := by
  refine cw0_of fn13 (c := c13) rfl rfl rfl rfl ?_
  rcases few_loop z c ts ih ts 0 m rfl (by omega) h1 (by omega) with ⟨i', L⟩ | ⟨e, L⟩
  · unfold fewFr at L
    rw [show ((0 : Nat) : Int) = 0 from rfl] at L
    simp -implicitDefEqProofs only [c13, aW, ↓aP, makes, reduceLT, reduceEqDiff, reduceAdd, ↓reduceIte, Nat.reduceBEq, L]
    rfl
  · unfold fewFr at L
    rw [show ((0 : Nat) : Int) = 0 from rfl] at L
    rw [e]
    simp -implicitDefEqProofs only [c13, aW, ↓aP, makes, reduceLT, reduceEqDiff, reduceAdd, ↓reduceIte, Nat.reduceBEq, L]
    rfl
theorem few_tr : ∀ t : Tr, ∀ m : Int, -1 ≤ m → m ≤ 400 → cw0 13 [argsA t.z t.c t.ts, litI .i64 m] [] = some (.ret (litI .i64 (fewL t.ts m)), []) :=
  Tr.ind fun k n z c ts p ih m h1 h2 => few_row z c ts ih m h1 h2
theorem cells_agg4 (t : Tr) (id : Nat) (ty : TypeId) : boxV id 4 (.agg t.cells) ty = some (.val (.ptr id 0) (some (.row t.cells ty))) := boxV_agg (cells_len t) (cells_cell t)
theorem fill_one (t : Tr) (x : List AV) (hx : x.length = 4) : fill x [(0, 4, .agg t.cells)] = some t.cells := by
  simp only [fill, cellsOf, cells_len, cells_cell, beq_self_eq_true, Bool.and_self, Nat.zero_add, hx, Nat.ble_eq_true_of_le (Nat.le_refl 4), cond_true, List.take_zero, List.nil_append]
  rw [← hx, List.drop_length, List.append_nil]
def few (t : Tr) : Bool := decide (0 ≤ fewL [t] 400)
theorem few6_tells (t : Tr) : ∃ H', cw0 5 [.agg t.cells] [] = some (.ret (litB (few t)), H') := by
  refine ⟨[.row t.cells 28], cw0_of fn5 (c := c5) rfl rfl rfl rfl ?_⟩
  have hb : ∀ (H : List AO) (id : Nat) (fr : Fr) (x : X), ev fr x = .agg t.cells → core cw0 (lookM mtl) mds H id (.bslice false 4 1 [litI .i64 0, litS (bs []), .sl 0 [] (some 0), litI .i64 0] [(0, x)] 28) fr = some (.val (argsA 0 (some 1) [t]) none) := by
    intro H id fr x hx
    have hf : mapL (frz H frzF) t.cells = some (t.cells, []) := by rw [cells_mk]; rfl
    simp only [core, List.map_cons, List.map_nil, hx, Nat.zero_mul, reps]
    rw [show fill ([litI .i64 0, litS (bs []), AV.sl 0 [] (some 0), litI .i64 0] ++ []) [(0, 4, .agg t.cells)] = some t.cells from fill_one t _ rfl]
    simp only [Option.bind_some, cond_false, hf, List.isEmpty_nil, cond_true]
    show _ = some (Out.val (.sl 4 [t.cells] (some 1)) none)
    rw [cells_mk]; rfl
  have hc : ∀ H id, callV cw0 mds 13 [argsA 0 (some 1) [t], litI .i64 400] H id = some (.val (litI .i64 (fewL [t] 400)) none) := fun H id => callV_pure rfl rfl (few_row 0 (some 1) [t] (fun a ha => by
    rw [List.mem_singleton.1 ha]; exact few_tr t) 400 (by omega) (by omega)) rfl
  have hl : Ai.load [.row t.cells 28] (some 4) (.ptr 0 0) = some (.agg t.cells) := load_agg rfl (cells_len t)
  unfold few
  simp -implicitDefEqProofs only [c5, aW, ↓aP, makes, reduceLT, reduceEqDiff, reduceAdd, ↓reduceIte, Nat.reduceBEq, core_box, cells_agg4, List.length_nil, hl, hb, hc]
  rfl
end
section
theorem wrap1 {n : Nat} (h : n < 4611686018427387904) : IntKind.wrap .i64 ((n : Int) + 1) = ((n + 1 : Nat) : Int) := by rw [Go.Ai.wrap_small] <;> omega
def rowT (t : Tr) : AO := .row [litI .i64 t.k, litS t.n, argsA t.z t.c t.ts, litI .i64 t.p] 28
theorem box_tr (t : Tr) (id : Nat) : boxV id 4 (.agg t.cells) 28 = some (.val (.ptr id 0) (some (rowT t))) := by
  rw [cells_agg4]; unfold rowT; rw [cells_mk]
theorem ld0 {H : List AO} {r : Nat} {t : Tr} (h : H[r]? = some (rowT t)) : Ai.load H none (.ptr r 0) = some (litI .i64 t.k) := by rw [load_ptr h]; rfl
theorem ld1 {H : List AO} {r : Nat} {t : Tr} (h : H[r]? = some (rowT t)) : Ai.load H none (.ptr r 1) = some (litS t.n) := by rw [load_ptr h]; rfl
theorem ld2 {H : List AO} {r : Nat} {t : Tr} (h : H[r]? = some (rowT t)) : Ai.load H none (.ptr r 2) = some (argsA t.z t.c t.ts) := by rw [load_ptr h]; rfl
theorem ld3 {H : List AO} {r : Nat} {t : Tr} (h : H[r]? = some (rowT t)) : Ai.load H none (.ptr r 3) = some (litI .i64 t.p) := by rw [load_ptr h]; rfl
theorem ld4 {H : List AO} {r : Nat} {t : Tr} (h : H[r]? = some (rowT t)) : Ai.load H (some 4) (.ptr r 0) = some (.agg t.cells) := by
  rw [cells_mk]; exact load_agg h rfl
theorem ldE (H : List AO) (t : Tr) : Ai.load H (some 4) (.ip t.cells) = some (.agg t.cells) := load_ipA (cells_len t)
def isS (n : ByteArray) (l : List Nat) : Bool := n.data.toList == (bs l).data.toList
theorem isS_eq (n : ByteArray) (l : List Nat) : (n.data.toList == (bs l).data.toList) = isS n l := rfl
inductive Shp : Tr → Prop
  | mk (k n z c ts p) (h : k = 7 → ts.length = 2) (hu : k = 6 → ts.length = 1) (hl : ts.length ≤ 1000) (hs : ∀ a ∈ ts, Shp a) : Shp (.mk k n z c ts p)
theorem Shp.two {t : Tr} (h : Shp t) (hk : t.k = 7) : t.ts.length = 2 := by cases h; rename_i h _ _ _; exact h hk
theorem Shp.one {t : Tr} (h : Shp t) (hk : t.k = 6) : t.ts.length = 1 := by cases h; rename_i _ h _ _; exact h hk
theorem Shp.len {t : Tr} (h : Shp t) : t.ts.length ≤ 1000 := by cases h; assumption
theorem Shp.sub {t : Tr} (h : Shp t) : ∀ a ∈ t.ts, Shp a := by cases h; assumption
end
section
inductive Sm : Tr → Prop
  | mk (k n z c ts p) (hn : n.size ≤ 400) (hl : ts.length ≤ 1000) (hs : ∀ a ∈ ts, Sm a) : Sm (.mk k n z c ts p)
theorem Sm.name {t : Tr} (h : Sm t) : t.n.size ≤ 400 := by cases h; assumption
theorem Sm.len {t : Tr} (h : Sm t) : t.ts.length ≤ 1000 := by cases h; assumption
theorem Sm.sub {t : Tr} (h : Sm t) : ∀ a ∈ t.ts, Sm a := by cases h; assumption
mutual
def dep : Tr → Nat
  | .mk _ _ _ _ ts _ => 1 + depL ts
def depL : List Tr → Nat
  | [] => 0
  | a :: r => max (dep a) (depL r)
end
theorem dep_eq (t : Tr) : dep t = 1 + depL t.ts := by cases t; rfl
theorem depL_le : ∀ (r : List Tr) (a : Tr), a ∈ r → dep a ≤ depL r
  | b :: r, a, h => by
    rw [depL]
    rcases List.mem_cons.1 h with rfl | h
    · omega
    · have := depL_le r a h; omega
theorem few_sm : ∀ t : Tr, ∀ m : Int, -1 ≤ m → m ≤ 400 → 0 ≤ fewL t.ts m → (t.ts.length : Int) + fewL t.ts m ≤ m ∧ (depL t.ts : Int) + fewL t.ts m ≤ m ∧ ∀ a ∈ t.ts, Sm a := by
  have key : ∀ (ts : List Tr), (∀ a ∈ ts, ∀ m : Int, -1 ≤ m → m ≤ 400 → 0 ≤ fewL a.ts m → (a.ts.length : Int) + fewL a.ts m ≤ m ∧ (depL a.ts : Int) + fewL a.ts m ≤ m ∧ ∀ b ∈ a.ts, Sm b) → ∀ m : Int, -1 ≤ m → m ≤ 400 → 0 ≤ fewL ts m → (ts.length : Int) + fewL ts m ≤ m ∧ (depL ts : Int) + fewL ts m ≤ m ∧ ∀ a ∈ ts, Sm a := by
    intro ts
    induction ts with
    | nil => intro _ m h1 h2 h3; simp [fewL, depL]
    | cons a r ihr =>
      intro ih m h1 h2 h3
      rw [fewL] at h3 ⊢
      by_cases hm : m < 0
      · rw [if_pos hm] at h3; omega
      · rw [if_neg hm] at h3 ⊢
        by_cases hs : 400 < (a.n.size : Int)
        · rw [if_pos hs] at h3; omega
        · rw [if_neg hs] at h3 ⊢
          rw [fewT_eq] at h3 ⊢
          have r1 := few_rng a (m - 1) (by omega) (by omega)
          by_cases h0 : 0 ≤ fewL a.ts (m - 1)
          · obtain ⟨x1, x2, x3⟩ := ih a (List.mem_cons_self ..) (m - 1) (by omega) (by omega) h0
            obtain ⟨y1, y2, y3⟩ := ihr (fun b hb => ih b (List.mem_cons_of_mem _ hb)) (fewL a.ts (m - 1)) (by omega) (by omega) h3
            refine ⟨by rw [List.length_cons]; omega, ?_, fun b hb => ?_⟩
            · rw [depL, dep_eq]; omega
            · rcases List.mem_cons.1 hb with rfl | hb
              · obtain ⟨k, n, z, c, ts, p⟩ := b
                simp only [Tr.ts, Tr.n] at x1 x3 hs h0
                exact .mk _ _ _ _ _ _ (by omega) (by omega) x3
              · exact y3 b hb
          · have : fewL a.ts (m - 1) = -1 := by omega
            rw [this] at h3
            cases r with
            | nil => rw [fewL] at h3; omega
            | cons b r => rw [fewL, if_pos (by omega)] at h3; omega
  exact Tr.ind fun k n z c ts p ih => key ts ih
theorem few_sm1 {t : Tr} (h : few t = true) : Sm t ∧ dep t ≤ 400 := by
  unfold few at h
  rw [decide_eq_true_eq] at h
  have := few_sm (.mk 0 ⟨#[]⟩ 0 none [t] 0) 400 (by omega) (by omega) h
  simp only [Tr.ts, depL, List.length_cons, List.length_nil] at this
  refine ⟨this.2.2 t (List.mem_singleton.2 rfl), ?_⟩
  omega
theorem zero_store (H : List AO) (t : Tr) : storeAt (H ++ [.row [litI .i64 0, litS (bs []), .sl 0 [] (some 0), litI .i64 0] 28]) 4 (.ptr H.length 0) (.agg t.cells) = some (H ++ [rowT t]) := by
  rw [storeAt_agg (n := 4) (get_last H _) rfl (cells_len t) (cells_cell t), setL_last]
  unfold rowT; rw [cells_mk]
theorem foldI_two (f : Int → Int → Int) (a b : Int) : foldI f [litI .i64 a, litI .i64 b] = some (litI .i64 (f a b)) := rfl
theorem deepest_loop (fv : AV) (z : Nat) (c : Option Nat) (ts : List Tr) (hfv : ∀ a ∈ ts, ∀ H id, fnV cw0 mds fv [.agg a.cells] H id = some (.val (litI .i64 (dep a)) none)) (hl : ts.length ≤ 1000) :
    ∀ (r : List Tr) (i : Nat) (m : Nat) (H : List AO), ts.drop i = r → i ≤ ts.length →
      ∃ i' H', loopW (codeW cw0 (lookM mtl) mds c51l0) [1, 5, 8, 9, 10] [(1, fv), (5, litI .i64 m), (8, argsA z c ts), (9, litI .i64 ts.length), (10, litI .i64 i)] H =
        some (.exit 0, [(1, fv), (5, litI .i64 (max m (depL r) : Nat)), (8, argsA z c ts), (9, litI .i64 ts.length), (10, i'), (11, litB false)], H')
  | [], i, m, H, hd, hi => by
    have hn : ts.length ≤ i := by
      have := congrArg List.length hd
      rw [List.length_drop, List.length_nil] at this; omega
    refine ⟨litI .i64 i, H, ?_⟩
    rw [depL, show max m 0 = m by omega]
    refine loopW_out ?_ (by simp)
    simp -implicitDefEqProofs only [c51l0, aW, ↓aP, makes, reduceLT, reduceEqDiff, reduceAdd, ↓reduceIte, Nat.reduceBEq, show ¬ ((i : Int) < ts.length) by omega]
  | a :: r, i, m, H, hd, hi => by
    have hlt : i < ts.length := by
      have := congrArg List.length hd
      rw [List.length_drop, List.length_cons] at this; omega
    have hg : ts[i]? = some a := by
      have := congrArg List.head? hd
      rwa [List.head?_drop] at this
    have hlti : (i : Int) < ts.length := by omega
    have hc := hfv a (List.mem_of_getElem? hg)
    have h4 : Ai.load (H ++ [rowT a]) (some 4) (.ptr H.length 0) = some (.agg a.cells) := ld4 (get_last H _)
    have hm : (if (dep a : Int) > (m : Int) then (dep a : Int) else (m : Int)) = ((max m (dep a) : Nat) : Int) := by split <;> omega
    obtain ⟨i', H', L⟩ := deepest_loop fv z c ts hfv hl r (i + 1) (max m (dep a)) (H ++ [rowT a]) (by rw [← List.drop_drop, hd]; rfl) (by omega)
    refine ⟨i', H', ?_⟩
    rw [depL, show max m (max (dep a) (depL r)) = max (max m (dep a)) (depL r) by omega]
    refine loopW_round ?_ L
    rw [← hm]
    simp -implicitDefEqProofs only [c51l0, aW, ↓aP, makes, reduceLT, reduceEqDiff, reduceAdd, ↓reduceIte, Nat.reduceBEq, hlti, iadr_args hg, ldE, zero_store, h4, core_callS, hc, core_maxiV, foldI_two, wrap1 (show i < 4611686018427387904 by omega)]
    by_cases hx : (dep a : Int) > (m : Int)
    · rw [if_pos hx, decide_eq_true hx]; rfl
    · rw [if_neg hx, decide_eq_false hx]; rfl
theorem deepest_tells (fv : AV) (z : Nat) (c : Option Nat) (ts : List Tr) (hfv : ∀ a ∈ ts, ∀ H id, fnV cw0 mds fv [.agg a.cells] H id = some (.val (litI .i64 (dep a)) none)) (hl : ts.length ≤ 1000) :
    ∃ H', cw0 51 [argsA z c ts, fv] [] = some (.ret (litI .i64 (depL ts)), H') := by
  obtain ⟨i', H', L⟩ := deepest_loop fv z c ts hfv hl ts 0 0 [] rfl (Nat.zero_le _)
  rw [show ((0 : Nat) : Int) = 0 from rfl, show max 0 (depL ts) = depL ts by omega] at L
  refine ⟨H', cw0_of fn51 (c := c51) rfl rfl rfl rfl ?_⟩
  simp -implicitDefEqProofs only [c51, aW, ↓aP, makes, reduceLT, reduceEqDiff, reduceAdd, ↓reduceIte, Nat.reduceBEq, lenV_args, L]
  rfl
theorem depth_row (t : Tr) (hl : t.ts.length ≤ 1000) (hd : dep t ≤ 1000) (ih : ∀ a ∈ t.ts, ∀ H id, callV cw0 mds 35 [.agg a.cells] H id = some (.val (litI .i64 (dep a)) none)) : cw0 35 [.agg t.cells] [] = some (.ret (litI .i64 (dep t)), [rowT t]) := by
  refine cw0_of fn35 (c := c35) rfl rfl rfl rfl ?_
  have h2 := ld2 (H := [rowT t]) (r := 0) (t := t) rfl
  obtain ⟨H', hD⟩ := deepest_tells (.fn (.func 35) [] []) t.z t.c t.ts (fun a ha H id => ih a ha H id) hl
  have hc : ∀ H id, callV cw0 mds 51 [argsA t.z t.c t.ts, .fn (.func 35) [] []] H id = some (.val (litI .i64 (depL t.ts)) none) := fun H id => callV_flat (p := ([argsA t.z t.c t.ts, .fn (.func 35) [] []], [])) rfl rfl hD
  have hw : IntKind.wrap .i64 (1 + (depL t.ts : Int)) = ((dep t : Nat) : Int) := by
    rw [dep_eq] at hd ⊢
    rw [Go.Ai.wrap_small] <;> omega
  simp -implicitDefEqProofs only [c35, aW, ↓aP, makes, reduceLT, reduceEqDiff, reduceAdd, ↓reduceIte, Nat.reduceBEq, core_box, box_tr, List.length_nil, fadr_ptr, h2, hc, hw]
  rfl
theorem depth_call : ∀ t : Tr, Sm t → dep t ≤ 1000 → ∀ H id, callV cw0 mds 35 [.agg t.cells] H id = some (.val (litI .i64 (dep t)) none) :=
  Tr.ind fun k n z c ts p ih S hd H id => callV_pureA rfl (by rw [List.all_cons, whole_cells]; rfl) (depth_row _ S.len hd fun a ha => ih a ha (S.sub a ha) (by
    have := depL_le ts a ha
    rw [dep_eq] at hd
    simp only [Tr.ts] at hd
    omega)) rfl
theorem deep_call (t : Tr) (S : Sm t) (hd : dep t ≤ 1000) (H : List AO) (id : Nat) : callV cw0 mds 20 [.agg t.cells] H id = some (.val (litB (decide (40 < dep t))) none) := by
  have : cw0 20 [.agg t.cells] [] = some (.ret (litB (decide (40 < dep t))), [rowT t]) := by
    refine cw0_of fn20 (c := c20) rfl rfl rfl rfl ?_
    have h4 : Ai.load [rowT t] (some 4) (.ptr 0 0) = some (.agg t.cells) := ld4 rfl
    have hx : decide ((40 : Int) < (dep t : Int)) = decide (40 < dep t) := decide_eq_decide.2 (by omega)
    simp -implicitDefEqProofs only [c20, aW, ↓aP, makes, reduceLT, reduceEqDiff, reduceAdd, ↓reduceIte, Nat.reduceBEq, core_box, box_tr, List.length_nil, h4, depth_call t S hd, hx]
    rfl
  exact callV_pureA rfl (by rw [List.all_cons, whole_cells]; rfl) this rfl
end
section
def stopA (q : Int) : AV := .iface 75 (.agg [litI .i64 q])
theorem unless_t (p : Int) (H : List AO) (id : Nat) : callV cw0 mds 24 [litB true, litI .i64 p] H id = some (.val (.tup []) none) := by
  have : cw0 24 [litB true, litI .i64 p] [] = some (.ret (.tup []), []) := by
    refine cw0_of fn24 (c := c24) rfl rfl rfl rfl ?_
    simp -implicitDefEqProofs only [c24, aW, ↓aP, makes, reduceLT, reduceEqDiff, reduceAdd, ↓reduceIte, Nat.reduceBEq]
    rfl
  exact callV_pureT rfl rfl this rfl
theorem unless_f (p : Int) (H : List AO) (id : Nat) : callV cw0 mds 24 [litB false, litI .i64 p] H id = some (.pan (stopA p) H) := by
  have : cw0 24 [litB false, litI .i64 p] [] = some (.pan (stopA p), []) := by
    refine cw0_of fn24 (c := c24) rfl rfl rfl rfl ?_
    simp -implicitDefEqProofs only [c24, aW, ↓aP, makes, reduceLT, reduceEqDiff, reduceAdd, ↓reduceIte, Nat.reduceBEq, core_build1, build1V_int, core_panV, core_pan_iface]
    rfl
  exact callV_pan rfl rfl this rfl
def mx (a : Int) (r : List Int) : Int := r.foldl (fun x y => if y > x then y else x) a
def slI (c : Option Nat) (l : List Int) : AV := .sl 1 (l.map fun n => [litI .i64 n]) c
def retOf : Option (R × List AO) → Option R
  | some (r, _) => some r
  | none => none
theorem retOf_some {x : Option (R × List AO)} {r : R} (h : retOf x = some r) : ∃ H', x = some (r, H') := by
  cases x with
  | none => cases h
  | some p => obtain ⟨r', H⟩ := p; cases h; exact ⟨H, rfl⟩
theorem cw0_ret {f : FuncId} (FF : F) {c : C} {args : List AV} {H : List AO} {r : R} (ho : ov0 f = none) (hT : lookF tb f = some FF) (hl : (args.length == FF.np) = true) (hc : FF.body = c)
    (h : retOf ((codeW cw0 (lookM mtl) mds c (initFr 0 args) H).bind (fin FF)) = some r) : ∃ H', cw0 f args H = some (r, H') := by
  obtain ⟨H', h⟩ := retOf_some h
  exact ⟨H', cw0_of FF ho hT hl hc h⟩
theorem get_app {H : List AO} {r : Nat} {o x : AO} (h : H[r]? = some o) : (H ++ [x])[r]? = some o := by
  rw [List.getElem?_append_left (List.getElem?_eq_some_iff.1 h).1]; exact h
end
section
def strs (c : Option Nat) (ss : List ByteArray) : AV := .sl 1 (ss.map fun s => [litS s]) c
theorem lenV_strs (c : Option Nat) (ss : List ByteArray) : lenV (strs c ss) = some (litI .i64 ss.length) := by
  unfold strs; rw [lenV_sl, List.length_map]
theorem iadr_strs {c : Option Nat} {ss : List ByteArray} {i : Nat} {s : ByteArray} (h : ss[i]? = some s) {k : IntKind} : iadr 1 (strs c ss) (litI k i) = some (.ip [litS s]) := by
  unfold strs
  rw [iadr_sl, if_pos (Int.natCast_nonneg i), Int.toNat_natCast, List.getElem?_map, h]
  rfl
theorem wsub {a b : Int} (h1 : -4611686018427387904 ≤ a - b) (h2 : a - b ≤ 4611686018427387904) : IntKind.wrap .i64 (a - b) = a - b := Go.Ai.wrap_small (by omega) (by omega)
theorem wadd {n : Nat} (h : n < 4611686018427387904) : IntKind.wrap .i64 ((n : Int) + 1) = ((n + 1 : Nat) : Int) := wrap1 h
def bslV (H : List AO) (e n : Nat) (zero : List AV) (ps : List (Nat × AV)) : Option Out := (fill (reps n zero) (ps.map fun p => (p.1 * e, e, p.2))).bind fun cs =>
  (mapL (frz H frzF) cs).bind fun p => bif p.2.isEmpty then some (.val (.sl e (chunks e n p.1) (some n)) none) else none
theorem core_bsl {call : CallF} {mt : MtF} {md : FuncId → Md} {H : List AO} {id : Nat} {fr : Fr} {t : TypeId} (e n : Nat) (zero : List AV) (parts : List (Nat × X)) :
    core call mt md H id (.bslice false e n zero parts t) fr = bslV H e n zero (parts.map fun p => (p.1, ev fr p.2)) := by
  unfold bslV
  rw [List.map_map]
  rfl
theorem bsl_s1 (H : List AO) (z : AV) (s : ByteArray) : bslV H 1 1 [z] [(0, litS s)] = some (.val (.sl 1 [[litS s]] (some 1)) none) := rfl
theorem bsl_s2 (H : List AO) (z : AV) (s u : ByteArray) : bslV H 1 2 [z] [(0, litS s), (1, litS u)] = some (.val (.sl 1 [[litS s], [litS u]] (some 2)) none) := rfl
theorem names_loop (c : Option Nat) (ss : List ByteArray) (hl : ss.length ≤ 17592186044416) (m : Int) : ∀ (r : List ByteArray) (i : Nat), ss.drop i = r → i ≤ ss.length →
    (∃ i', loopW (codeW cw0 (lookM mtl) mds c10l0) [0, 1, 5] [(0, strs c ss), (1, litI .i64 m), (5, litI .i64 i)] [] = some (.exit 0, [(0, strs c ss), (1, litI .i64 m), (5, i'), (9, litB false)], [])) ∨
    loopW (codeW cw0 (lookM mtl) mds c10l0) [0, 1, 5] [(0, strs c ss), (1, litI .i64 m), (5, litI .i64 i)] [] = some (.ret, [(4, litI .i64 (-1))], [])
  | [], i, hd, hi => by
    have hn : ss.length ≤ i := by
      have := congrArg List.length hd
      rw [List.length_drop, List.length_nil] at this; omega
    left
    refine ⟨litI .i64 i, loopW_out ?_ (by simp)⟩
    simp -implicitDefEqProofs only [c10l0, aW, ↓aP, makes, reduceLT, reduceEqDiff, reduceAdd, ↓reduceIte, Nat.reduceBEq, lenV_strs, show ¬ ((i : Int) < ss.length) by omega]
  | s :: r, i, hd, hi => by
    have hlt : i < ss.length := by
      have := congrArg List.length hd
      rw [List.length_drop, List.length_cons] at this; omega
    have hg : ss[i]? = some s := by
      have := congrArg List.head? hd
      rwa [List.head?_drop] at this
    have hlti : (i : Int) < ss.length := by omega
    by_cases hs : 400 < (s.size : Int)
    · right
      refine loopW_out ?_ (by simp)
      simp -implicitDefEqProofs only [c10l0, aW, ↓aP, makes, reduceLT, reduceEqDiff, reduceAdd, ↓reduceIte, Nat.reduceBEq, lenV_strs, hlti, iadr_strs hg, lenS_str, hs]
    · have step : codeW cw0 (lookM mtl) mds c10l0 (keep [0, 1, 5] [(0, strs c ss), (1, litI .i64 m), (5, litI .i64 i)]) [] = some (.normal, [(0, strs c ss), (1, litI .i64 m), (5, litI .i64 ((i + 1 : Nat) : Int))], []) := by
        simp -implicitDefEqProofs only [c10l0, aW, ↓aP, makes, reduceLT, reduceEqDiff, reduceAdd, ↓reduceIte, Nat.reduceBEq, lenV_strs, hlti, iadr_strs hg, lenS_str, hs, wadd (show i < 4611686018427387904 by omega)]
      rcases names_loop c ss hl m r (i + 1) (by rw [← List.drop_drop, hd]; rfl) (by omega) with ⟨i', h⟩ | h
      · exact .inl ⟨i', loopW_round step h⟩
      · exact .inr (loopW_round step h)
theorem names_tells (c : Option Nat) (ss : List ByteArray) (hl : ss.length ≤ 17592186044416) (m : Int) (h1 : -1000000000000000 ≤ m) (h2 : m ≤ 400) :
    ∃ m' : Int, cw0 10 [strs c ss, litI .i64 m] [] = some (.ret (litI .i64 m'), []) ∧ (m' = -1 ∨ m' = m - ss.length) := by
  rcases names_loop c ss hl m ss 0 rfl (by omega) with ⟨i', L⟩ | L
  · refine ⟨m - ss.length, ?_, .inr rfl⟩
    refine cw0_of fn10 (c := c10) rfl rfl rfl rfl ?_
    rw [show ((0 : Nat) : Int) = 0 from rfl] at L
    simp -implicitDefEqProofs only [c10, aW, ↓aP, makes, reduceLT, reduceEqDiff, reduceAdd, ↓reduceIte, Nat.reduceBEq, L, lenV_strs, wsub (show -4611686018427387904 ≤ m - (ss.length : Int) by omega) (by omega)]
    rfl
  · refine ⟨-1, ?_, .inl rfl⟩
    refine cw0_of fn10 (c := c10) rfl rfl rfl rfl ?_
    rw [show ((0 : Nat) : Int) = 0 from rfl] at L
    simp -implicitDefEqProofs only [c10, aW, ↓aP, makes, reduceLT, reduceEqDiff, reduceAdd, ↓reduceIte, Nat.reduceBEq, L]
    rfl
theorem names_call (c : Option Nat) (ss : List ByteArray) (hl : ss.length ≤ 17592186044416) (m : Int) (h1 : -1000000000000000 ≤ m) (h2 : m ≤ 400) :
    ∃ m' : Int, (∀ H id, callV cw0 mds 10 [strs c ss, litI .i64 m] H id = some (.val (litI .i64 m') none)) ∧ (m' = -1 ∨ m' = m - ss.length) := by
  obtain ⟨m', h, hm⟩ := names_tells c ss hl m h1 h2
  exact ⟨m', fun H id => callV_pure rfl rfl h rfl, hm⟩
theorem exprs_tells (z : Nat) (c : Option Nat) (ts : List Tr) (m : Int) (h1 : -1 ≤ m) (h2 : m ≤ 400) : ∃ m' : Int, (∀ H id, callV cw0 mds 13 [argsA z c ts, litI .i64 m] H id = some (.val (litI .i64 m') none)) ∧ -1 ≤ m' ∧ m' ≤ m := by
  have h := few_row z c ts (fun a _ => few_tr a) m h1 h2
  have hr := few_lo ts (fun a _ => few_rng a) m h1 h2
  exact ⟨_, fun H id => callV_pure rfl rfl h rfl, hr⟩
structure Va where
  n : ByteArray
  t : ByteArray
  init : List Tr
  p : Int
def Va.cells (v : Va) : List AV := [litS v.n, litS v.t, argsA 4 none v.init, litI .i64 v.p]
def varsA (c : Option Nat) (vs : List Va) : AV := .sl 4 (vs.map Va.cells) c
theorem lenV_vars (c : Option Nat) (vs : List Va) : lenV (varsA c vs) = some (litI .i64 vs.length) := by
  unfold varsA; rw [lenV_sl, List.length_map]
theorem iadr_vars {c : Option Nat} {vs : List Va} {i : Nat} {v : Va} (h : vs[i]? = some v) {k : IntKind} : iadr 4 (varsA c vs) (litI k i) = some (.ip v.cells) := by
  unfold varsA
  rw [iadr_sl, if_pos (Int.natCast_nonneg i), Int.toNat_natCast, List.getElem?_map, h]
  rfl
theorem fadrV1 (v : Va) : fadr 1 (.ip v.cells) = some (.ip [litS v.t, argsA 4 none v.init, litI .i64 v.p]) := rfl
theorem fadrV2 (v : Va) : fadr 2 (.ip v.cells) = some (.ip [argsA 4 none v.init, litI .i64 v.p]) := rfl
theorem fadrV0 (v : Va) : fadr 0 (.ip v.cells) = some (.ip [litS v.n, litS v.t, argsA 4 none v.init, litI .i64 v.p]) := rfl
theorem vars_loop (c : Option Nat) (vs : List Va) (hl : vs.length ≤ 17592186044416) : ∀ (r : List Va) (i : Nat) (m : Int), vs.drop i = r → i ≤ vs.length → -1000000000000000 ≤ m → m ≤ 400 →
    ∃ (m' : Int) (i' x : AV), loopW (codeW cw0 (lookM mtl) mds c11l0) [0, 1, 5] [(0, varsA c vs), (1, litI .i64 m), (5, litI .i64 i)] [] = some (.exit 0, [(0, varsA c vs), (1, litI .i64 m'), (5, i'), (13, x)], []) ∧
      ((m < 0 → m' = m) ∧ (0 ≤ m → -4 ≤ m' ∧ m' ≤ m)) ∧ (0 ≤ m' → m' + r.length ≤ m)
  | [], i, m, hd, hi, h1, h2 => by
    have hn : vs.length ≤ i := by
      have := congrArg List.length hd
      rw [List.length_drop, List.length_nil] at this; omega
    refine ⟨m, litI .i64 i, litB false, loopW_out ?_ (by simp), ⟨fun _ => rfl, fun _ => ⟨by omega, by omega⟩⟩, fun _ => by simp⟩
    simp -implicitDefEqProofs only [c11l0, aW, ↓aP, makes, reduceLT, reduceEqDiff, reduceAdd, ↓reduceIte, Nat.reduceBEq, lenV_vars, show ¬ ((i : Int) < vs.length) by omega]
  | v :: r, i, m, hd, hi, h1, h2 => by
    have hlt : i < vs.length := by
      have := congrArg List.length hd
      rw [List.length_drop, List.length_cons] at this; omega
    have hg : vs[i]? = some v := by
      have := congrArg List.head? hd
      rwa [List.head?_drop] at this
    have hlti : (i : Int) < vs.length := by omega
    by_cases hm : 0 ≤ m
    · obtain ⟨m1, e1, k1, k2⟩ := exprs_tells 4 none v.init (m - 1) (by omega) (by omega)
      obtain ⟨m2, e2, k3⟩ := names_call (some 2) [v.n, v.t] (by simp) m1 (by omega) (by omega)
      have e2' : ∀ H id, callV cw0 mds 10 [.sl 1 [[litS v.n], [litS v.t]] (some 2), litI .i64 m1] H id = some (.val (litI .i64 m2) none) := e2
      have step : codeW cw0 (lookM mtl) mds c11l0 (keep [0, 1, 5] [(0, varsA c vs), (1, litI .i64 m), (5, litI .i64 i)]) [] = some (.normal, [(0, varsA c vs), (1, litI .i64 m2), (5, litI .i64 ((i + 1 : Nat) : Int))], []) := by
        simp -implicitDefEqProofs only [c11l0, aW, ↓aP, makes, reduceLT, reduceEqDiff, reduceAdd, ↓reduceIte, Nat.reduceBEq, lenV_vars, hlti, hm, iadr_vars hg, fadrV0, fadrV1, fadrV2, wsub (show -4611686018427387904 ≤ m - (1 : Int) by omega) (by omega), e1, core_bsl, bsl_s2, e2', wadd (show i < 4611686018427387904 by omega)]
        rfl
      have k4 : m2 ≤ m ∧ -4 ≤ m2 ∧ (0 ≤ m2 → m2 + 1 ≤ m) := by
        simp only [List.length_cons, List.length_nil] at k3
        omega
      obtain ⟨m', i', x, L, a1, a2⟩ := vars_loop c vs hl r (i + 1) m2 (by rw [← List.drop_drop, hd]; rfl) (by omega) (by omega) (by omega)
      refine ⟨m', i', x, loopW_round step L, ⟨fun h => by omega, fun _ => ?_⟩, fun h => ?_⟩
      · by_cases h0 : m2 < 0
        · have := a1.1 h0; omega
        · have := a1.2 (by omega); omega
      · have := a2 h
        simp only [List.length_cons]
        by_cases h0 : m2 < 0
        · have := a1.1 h0; omega
        · omega
    · refine ⟨m, litI .i64 i, litB false, loopW_out ?_ (by simp), ⟨fun _ => rfl, fun h => by omega⟩, fun h => by omega⟩
      simp -implicitDefEqProofs only [c11l0, aW, ↓aP, makes, reduceLT, reduceEqDiff, reduceAdd, ↓reduceIte, Nat.reduceBEq, lenV_vars, hlti, hm]
theorem vars_call (c : Option Nat) (vs : List Va) (hl : vs.length ≤ 17592186044416) (m : Int) (h1 : -1000000000000000 ≤ m) (h2 : m ≤ 400) :
    ∃ m' : Int, (∀ H id, callV cw0 mds 11 [varsA c vs, litI .i64 m] H id = some (.val (litI .i64 m') none)) ∧ ((m < 0 → m' = m) ∧ (0 ≤ m → -4 ≤ m' ∧ m' ≤ m)) ∧ (0 ≤ m' → m' + vs.length ≤ m) := by
  obtain ⟨m', i', x, L, a1, a2⟩ := vars_loop c vs hl vs 0 m rfl (by omega) h1 h2
  have h : cw0 11 [varsA c vs, litI .i64 m] [] = some (.ret (litI .i64 m'), []) := by
    refine cw0_of fn11 (c := c11) rfl rfl rfl rfl ?_
    rw [show ((0 : Nat) : Int) = 0 from rfl] at L
    simp -implicitDefEqProofs only [c11, aW, ↓aP, makes, reduceLT, reduceEqDiff, reduceAdd, ↓reduceIte, Nat.reduceBEq, L]
    rfl
  exact ⟨m', fun H id => callV_pure rfl rfl h rfl, a1, a2⟩
end
section
theorem setL_last (H : List AO) (a b : AO) : setL (H ++ [a]) H.length b = H ++ [b] := by
  unfold setL
  rw [List.set_append_right _ _ (Nat.le_refl _), Nat.sub_self]; rfl
theorem st_new (H : List AO) {n : Nat} {z xs : List AV} {t : TypeId} (hz : z.length = n) (hx : xs.length = n) (hc : xs.all cellA = true) : storeAt (H ++ [.row z t]) n (.ptr H.length 0) (.agg xs) = some (H ++ [.row xs t]) := by
  rw [storeAt_agg (cs := z) (t := t) (by rw [List.getElem?_append_right (Nat.le_refl _), Nat.sub_self]; rfl) hz hx hc, setL_last]
theorem get_last (H : List AO) (a : AO) : (H ++ [a])[H.length]? = some a := by
  rw [List.getElem?_append_right (Nat.le_refl _), Nat.sub_self]; rfl
theorem get_old {H : List AO} {r : Nat} {o : AO} (h : H[r]? = some o) (K : List AO) : (H ++ K)[r]? = some o := by
  rw [List.getElem?_append_left (List.getElem?_eq_some_iff.1 h).1]; exact h
theorem md12 : mds 12 = .pure := rfl
theorem md13 : mds 13 = .pure := rfl
def Cnt (v : AV) : Prop := ∀ m : Int, -1 ≤ m → m ≤ 400 → ∃ m' : Int, (∀ H id, callV cw0 mds 12 [v, litI .i64 m] H id = some (.val (litI .i64 m') none)) ∧ m' ≤ m ∧ -8796093022300 - m ≤ m'
structure EqV where
  k : Int
  names : List ByteArray
  args : List Tr
  init : List Tr
  again : List Tr
  blocks : List AV
  states : List (List AV)
  pos : Int
def EqV.cells (q : EqV) : List AV := [litI .i64 q.k, strs none q.names, argsA 4 none q.args, argsA 4 none q.init, argsA 4 none q.again, .sl 1 (q.blocks.map fun b => [b]) none, .sl 4 q.states none, litI .i64 q.pos]
structure TrV where
  cond : Tr
  to : ByteArray
  keep : Bool
  pos : Int
def TrV.cells (t : TrV) : List AV := t.cond.cells ++ [litS t.to, litB t.keep, litI .i64 t.pos]
structure StV where
  name : ByteArray
  eqs : AV
  trans : List TrV
  pos : Int
def StV.cells (s : StV) : List AV := [litS s.name, s.eqs, .sl 7 (s.trans.map TrV.cells) none, litI .i64 s.pos]
def StD (x : List AV) : Prop := ∃ s : StV, x = s.cells ∧ cellA s.eqs = true ∧ Cnt s.eqs ∧ s.trans.length ≤ 17592186044416
def EqD (x : List AV) : Prop := ∃ q : EqV, x = q.cells ∧ q.names.length ≤ 8796093022208 ∧ q.blocks.length ≤ 17592186044416 ∧ q.states.length ≤ 17592186044416 ∧ (∀ b ∈ q.blocks, Cnt b) ∧ (∀ s ∈ q.states, StD s)
theorem EqV.len (q : EqV) : q.cells.length = 8 := rfl
theorem EqV.cell (q : EqV) : q.cells.all cellA = true := rfl
theorem StV.len (s : StV) : s.cells.length = 4 := rfl
theorem StV.cell {s : StV} (h : cellA s.eqs = true) : s.cells.all cellA = true := by
  simp only [StV.cells, List.all_cons, List.all_nil, h]; rfl
section
variable {H : List AO} {r : Nat}
theorem lq1 {q : EqV} (h : H[r]? = some (.row q.cells 65)) : Ai.load H none (.ptr r 1) = some (strs none q.names) := by rw [load_ptr h]; rfl
theorem lq2 {q : EqV} (h : H[r]? = some (.row q.cells 65)) : Ai.load H none (.ptr r 2) = some (argsA 4 none q.args) := by rw [load_ptr h]; rfl
theorem lq3 {q : EqV} (h : H[r]? = some (.row q.cells 65)) : Ai.load H none (.ptr r 3) = some (argsA 4 none q.init) := by rw [load_ptr h]; rfl
theorem lq4 {q : EqV} (h : H[r]? = some (.row q.cells 65)) : Ai.load H none (.ptr r 4) = some (argsA 4 none q.again) := by rw [load_ptr h]; rfl
theorem lq5 {q : EqV} (h : H[r]? = some (.row q.cells 65)) : Ai.load H none (.ptr r 5) = some (.sl 1 (q.blocks.map fun b => [b]) none) := by rw [load_ptr h]; rfl
theorem lq6 {q : EqV} (h : H[r]? = some (.row q.cells 65)) : Ai.load H none (.ptr r 6) = some (.sl 4 q.states none) := by rw [load_ptr h]; rfl
theorem ls0 {s : StV} (h : H[r]? = some (.row s.cells 68)) : Ai.load H none (.ptr r 0) = some (litS s.name) := by rw [load_ptr h]; rfl
theorem ls1 {s : StV} (h : H[r]? = some (.row s.cells 68)) : Ai.load H none (.ptr r 1) = some s.eqs := by rw [load_ptr h]; rfl
theorem ls2 {s : StV} (h : H[r]? = some (.row s.cells 68)) : Ai.load H none (.ptr r 2) = some (.sl 7 (s.trans.map TrV.cells) none) := by rw [load_ptr h]; rfl
end
theorem iadr_ix {e : Nat} {c : Option Nat} {xs : List (List AV)} {i : Nat} {x : List AV} (h : xs[i]? = some x) {k : IntKind} : iadr e (.sl e xs c) (litI k i) = some (.ip x) := by
  rw [iadr_sl, if_pos (Int.natCast_nonneg i), Int.toNat_natCast, h]
  simp
theorem tr4 (t : TrV) : fadr 4 (.ip t.cells) = some (.ip [litS t.to, litB t.keep, litI .i64 t.pos]) := by
  show some (AV.ip ((t.cond.cells ++ [litS t.to, litB t.keep, litI .i64 t.pos]).drop 4)) = _
  rw [List.drop_left' (cells_len _)]
theorem tr0 (t : TrV) : fadr 0 (.ip t.cells) = some (.ip t.cells) := rfl
theorem ldT (H : List AO) (t : TrV) : Ai.load H (some 4) (.ip t.cells) = some (.agg t.cond.cells) := by
  show (bif Nat.ble 4 (t.cond.cells ++ [litS t.to, litB t.keep, litI .i64 t.pos]).length then some (AV.agg ((t.cond.cells ++ [litS t.to, litB t.keep, litI .i64 t.pos]).take 4)) else none) = _
  rw [List.take_left' (cells_len _), List.length_append, cells_len]
  rfl
theorem bsl_e1 (H : List AO) (a b c d : AV) (t : Tr) : bslV H 4 1 [a, b, c, d] [(0, .agg t.cells)] = some (.val (argsA 4 (some 1) [t]) none) := by
  unfold argsA
  rw [List.map_cons, List.map_nil, cells_mk]
  rfl
theorem blk_loop (l x5 : AV) (r : Nat) (H : List AO) (q : EqV) (hH : H[r]? = some (.row q.cells 65)) (hl : q.blocks.length ≤ 17592186044416) (hb : ∀ b ∈ q.blocks, Cnt b) : ∀ (bs : List AV) (i : Nat) (n : Int), q.blocks.drop i = bs → i ≤ q.blocks.length → n ≤ 400 →
    ∃ (n' : Int) (i' x : AV), loopW (codeW cw0 (lookM mtl) mds c12l0) [0, 1, 5, 6, 7] [(0, l), (1, litI .i64 n), (5, x5), (6, .ptr r 0), (7, litI .i64 i)] H = some (.exit 2, [(0, l), (1, litI .i64 n'), (5, x5), (6, .ptr r 0), (7, i'), (47, x)], H) ∧
      n' ≤ n ∧ (n < 0 → n' = n) ∧ (0 ≤ n → -8796093022300 - n ≤ n')
  | [], i, n, hd, hi, h2 => by
    have hn : q.blocks.length ≤ i := by
      have := congrArg List.length hd
      rw [List.length_drop, List.length_nil] at this; omega
    refine ⟨n, litI .i64 i, litB false, loopW_out ?_ (by simp), by omega, fun _ => rfl, fun _ => by omega⟩
    simp -implicitDefEqProofs only [c12l0, aW, ↓aP, makes, reduceLT, reduceEqDiff, reduceAdd, ↓reduceIte, Nat.reduceBEq, fadr_ptr, lq5 hH, List.length_map, show ¬ ((i : Int) < q.blocks.length) by omega]
  | b :: bs, i, n, hd, hi, h2 => by
    have hlt : i < q.blocks.length := by
      have := congrArg List.length hd
      rw [List.length_drop, List.length_cons] at this; omega
    have hg : q.blocks[i]? = some b := by
      have := congrArg List.head? hd
      rwa [List.head?_drop] at this
    have hg' : (q.blocks.map fun b => [b])[i]? = some [b] := by rw [List.getElem?_map, hg]; rfl
    have hlti : (i : Int) < q.blocks.length := by omega
    by_cases hm : 0 ≤ n
    · obtain ⟨m1, e1, k1, k2⟩ := hb b (List.mem_of_getElem? hg) (n - 1) (by omega) (by omega)
      have step : codeW cw0 (lookM mtl) mds c12l0 (keep [0, 1, 5, 6, 7] [(0, l), (1, litI .i64 n), (5, x5), (6, .ptr r 0), (7, litI .i64 i)]) H = some (.normal, [(0, l), (1, litI .i64 m1), (5, x5), (6, .ptr r 0), (7, litI .i64 ((i + 1 : Nat) : Int))], H) := by
        simp -implicitDefEqProofs only [c12l0, aW, ↓aP, makes, reduceLT, reduceEqDiff, reduceAdd, ↓reduceIte, Nat.reduceBEq, fadr_ptr, lq5 hH, List.length_map, hlti, hm, iadr_ix hg', wsub (show -4611686018427387904 ≤ n - (1 : Int) by omega) (by omega), e1, wadd (show i < 4611686018427387904 by omega)]
      obtain ⟨n', i', x, L, a1, a2, a3⟩ := blk_loop l x5 r H q hH hl hb bs (i + 1) m1 (by rw [← List.drop_drop, hd]; rfl) (by omega) (by omega)
      refine ⟨n', i', x, loopW_round step L, by omega, fun h => by omega, fun _ => ?_⟩
      by_cases h0 : m1 < 0
      · have := a2 h0; omega
      · have := a3 (by omega); omega
    · refine ⟨n, litI .i64 i, litB false, loopW_out ?_ (by simp), by omega, fun _ => rfl, fun h => by omega⟩
      simp -implicitDefEqProofs only [c12l0, aW, ↓aP, makes, reduceLT, reduceEqDiff, reduceAdd, ↓reduceIte, Nat.reduceBEq, fadr_ptr, lq5 hH, List.length_map, hlti, hm]
theorem trn_loop (l x5 x8 : AV) (r r2 : Nat) (H : List AO) (s : StV) (hH : H[r2]? = some (.row s.cells 68)) (hl : s.trans.length ≤ 17592186044416) : ∀ (ts : List TrV) (i : Nat) (n : Int), s.trans.drop i = ts → i ≤ s.trans.length → n ≤ 400 →
    ∃ (n' : Int) (i' x : AV), loopW (codeW cw0 (lookM mtl) mds c12l1) [0, 1, 5, 6, 8, 9, 10] [(0, l), (1, litI .i64 n), (5, x5), (6, .ptr r 0), (8, x8), (9, .ptr r2 0), (10, litI .i64 i)] H = some (.exit 6, [(0, l), (1, litI .i64 n'), (5, x5), (6, .ptr r 0), (8, x8), (9, .ptr r2 0), (10, i'), (91, x)], H) ∧
      n' ≤ n ∧ (n < 0 → n' = n) ∧ (0 ≤ n → -3 ≤ n')
  | [], i, n, hd, hi, h2 => by
    have hn : s.trans.length ≤ i := by
      have := congrArg List.length hd
      rw [List.length_drop, List.length_nil] at this; omega
    refine ⟨n, litI .i64 i, litB false, loopW_out ?_ (by simp), by omega, fun _ => rfl, fun _ => by omega⟩
    simp -implicitDefEqProofs only [c12l1, aW, ↓aP, makes, reduceLT, reduceEqDiff, reduceAdd, ↓reduceIte, Nat.reduceBEq, fadr_ptr, ls2 hH, List.length_map, show ¬ ((i : Int) < s.trans.length) by omega]
  | t :: ts, i, n, hd, hi, h2 => by
    have hlt : i < s.trans.length := by
      have := congrArg List.length hd
      rw [List.length_drop, List.length_cons] at this; omega
    have hg : s.trans[i]? = some t := by
      have := congrArg List.head? hd
      rwa [List.head?_drop] at this
    have hg' : (s.trans.map TrV.cells)[i]? = some t.cells := by rw [List.getElem?_map, hg]; rfl
    have hlti : (i : Int) < s.trans.length := by omega
    by_cases hm : 0 ≤ n
    · obtain ⟨m1, e1, k1, k2⟩ := exprs_tells 4 (some 1) [t.cond] (n - 1) (by omega) (by omega)
      obtain ⟨m2, e2, k3⟩ := names_call (some 1) [t.to] (by simp) m1 (by omega) (by omega)
      have e2' : ∀ H id, callV cw0 mds 10 [.sl 1 [[litS t.to]] (some 1), litI .i64 m1] H id = some (.val (litI .i64 m2) none) := e2
      have k4 : m2 ≤ n - 1 ∧ -3 ≤ m2 := by
        simp only [List.length_cons, List.length_nil] at k3
        omega
      have step : codeW cw0 (lookM mtl) mds c12l1 (keep [0, 1, 5, 6, 8, 9, 10] [(0, l), (1, litI .i64 n), (5, x5), (6, .ptr r 0), (8, x8), (9, .ptr r2 0), (10, litI .i64 i)]) H = some (.normal, [(0, l), (1, litI .i64 m2), (5, x5), (6, .ptr r 0), (8, x8), (9, .ptr r2 0), (10, litI .i64 ((i + 1 : Nat) : Int))], H) := by
        simp -implicitDefEqProofs only [c12l1, aW, ↓aP, makes, reduceLT, reduceEqDiff, reduceAdd, ↓reduceIte, Nat.reduceBEq, fadr_ptr, ls2 hH, List.length_map, hlti, hm, iadr_ix hg', tr4, tr0, ldT, core_bsl, bsl_s1, bsl_e1, wsub (show -4611686018427387904 ≤ n - (1 : Int) by omega) (by omega), e1, e2', wadd (show i < 4611686018427387904 by omega)]
        rfl
      obtain ⟨n', i', x, L, a1, a2, a3⟩ := trn_loop l x5 x8 r r2 H s hH hl ts (i + 1) m2 (by rw [← List.drop_drop, hd]; rfl) (by omega) (by omega)
      refine ⟨n', i', x, loopW_round step L, by omega, fun h => by omega, fun _ => ?_⟩
      by_cases h0 : m2 < 0
      · have := a2 h0; omega
      · have := a3 (by omega); omega
    · refine ⟨n, litI .i64 i, litB false, loopW_out ?_ (by simp), by omega, fun _ => rfl, fun h => by omega⟩
      simp -implicitDefEqProofs only [c12l1, aW, ↓aP, makes, reduceLT, reduceEqDiff, reduceAdd, ↓reduceIte, Nat.reduceBEq, fadr_ptr, ls2 hH, List.length_map, hlti, hm]
def zS : List AV := [litS (bs []), .sl 0 [] (some 0), .sl 0 [] (some 0), litI .i64 0]
theorem sta_loop (l x5 : AV) (r : Nat) (q : EqV) (hl : q.states.length ≤ 17592186044416) (hs : ∀ s ∈ q.states, StD s) : ∀ (ss : List (List AV)) (i : Nat) (n : Int) (H : List AO), H[r]? = some (.row q.cells 65) → q.states.drop i = ss → i ≤ q.states.length → n ≤ 400 →
    ∃ (n' : Int) (i' x : AV) (K : List AO), loopW (codeW cw0 (lookM mtl) mds c12l2) [0, 1, 5, 6, 8] [(0, l), (1, litI .i64 n), (5, x5), (6, .ptr r 0), (8, litI .i64 i)] H = some (.exit 4, [(0, l), (1, litI .i64 n'), (5, x5), (6, .ptr r 0), (8, i'), (66, x)], H ++ K) ∧
      n' ≤ n ∧ (n < 0 → n' = n) ∧ (0 ≤ n → -8796093022300 - n ≤ n')
  | [], i, n, H, hH, hd, hi, h2 => by
    have hn : q.states.length ≤ i := by
      have := congrArg List.length hd
      rw [List.length_drop, List.length_nil] at this; omega
    refine ⟨n, litI .i64 i, litB false, [], loopW_out ?_ (by simp), by omega, fun _ => rfl, fun _ => by omega⟩
    simp -implicitDefEqProofs only [c12l2, aW, ↓aP, makes, reduceLT, reduceEqDiff, reduceAdd, ↓reduceIte, Nat.reduceBEq, fadr_ptr, lq6 hH, show ¬ ((i : Int) < q.states.length) by omega]
  | s :: ss, i, n, H, hH, hd, hi, h2 => by
    have hlt : i < q.states.length := by
      have := congrArg List.length hd
      rw [List.length_drop, List.length_cons] at this; omega
    have hg : q.states[i]? = some s := by
      have := congrArg List.head? hd
      rwa [List.head?_drop] at this
    have hlti : (i : Int) < q.states.length := by omega
    by_cases hm : 0 ≤ n
    · obtain ⟨sv, rfl, q1, q2, q3⟩ := hs s (List.mem_of_getElem? hg)
      obtain ⟨m1, e1, k1, k2⟩ := q2 (n - 1) (by omega) (by omega)
      obtain ⟨m2, e2, k3⟩ := names_call (some 1) [sv.name] (by simp) m1 (by omega) (by omega)
      have e2' : ∀ H id, callV cw0 mds 10 [.sl 1 [[litS sv.name]] (some 1), litI .i64 m1] H id = some (.val (litI .i64 m2) none) := e2
      have k4 : m2 ≤ n - 1 ∧ -8796093022300 - n ≤ m2 := by
        simp only [List.length_cons, List.length_nil] at k3
        omega
      have hN := get_last H (.row sv.cells 68)
      have hst : storeAt (H ++ [.row zS 68]) 4 (.ptr H.length 0) (.agg sv.cells) = some (H ++ [.row sv.cells 68]) := st_new H rfl sv.len (StV.cell q1)
      unfold zS at hst
      have hL4 : ∀ H : List AO, Ai.load H (some 4) (.ip sv.cells) = some (.agg sv.cells) := fun H => load_ipA sv.len
      obtain ⟨m3, j', y, L1, b1, b2, b3⟩ := trn_loop l x5 (litI .i64 i) r H.length (H ++ [.row sv.cells 68]) sv hN q3 sv.trans 0 m2 rfl (Nat.zero_le _) (by omega)
      rw [show ((0 : Nat) : Int) = 0 from rfl] at L1
      have step : codeW cw0 (lookM mtl) mds c12l2 (keep [0, 1, 5, 6, 8] [(0, l), (1, litI .i64 n), (5, x5), (6, .ptr r 0), (8, litI .i64 i)]) H = some (.normal, [(0, l), (1, litI .i64 m3), (5, x5), (6, .ptr r 0), (8, litI .i64 ((i + 1 : Nat) : Int))], H ++ [.row sv.cells 68]) := by
        simp -implicitDefEqProofs only [c12l2, aW, ↓aP, makes, reduceLT, reduceEqDiff, reduceAdd, ↓reduceIte, Nat.reduceBEq, fadr_ptr, lq6 hH, hlti, hm, iadr_ix hg, hL4, hst, ls0 hN, ls1 hN, core_bsl, bsl_s1, wsub (show -4611686018427387904 ≤ n - (1 : Int) by omega) (by omega), e1, e2', md12, md13, L1, wadd (show i < 4611686018427387904 by omega)]
      obtain ⟨n', i', x, K, L, a1, a2, a3⟩ := sta_loop l x5 r q hl hs ss (i + 1) m3 (H ++ [.row sv.cells 68]) (get_old hH _) (by rw [← List.drop_drop, hd]; rfl) (by omega) (by omega)
      refine ⟨n', i', x, [.row sv.cells 68] ++ K, ?_, by omega, fun h => by omega, fun _ => ?_⟩
      · rw [← List.append_assoc]; exact loopW_round step L
      · by_cases h0 : m3 < 0
        · have := a2 h0
          by_cases h1 : m2 < 0
          · have := b2 h1; omega
          · have := b3 (by omega); omega
        · have := a3 (by omega); omega
    · refine ⟨n, litI .i64 i, litB false, [], ?_, by omega, fun _ => rfl, fun h => by omega⟩
      rw [List.append_nil]
      refine loopW_out ?_ (by simp)
      simp -implicitDefEqProofs only [c12l2, aW, ↓aP, makes, reduceLT, reduceEqDiff, reduceAdd, ↓reduceIte, Nat.reduceBEq, fadr_ptr, lq6 hH, hlti, hm]
def zE : List AV := [litI .i64 0, .sl 0 [] (some 0), .sl 0 [] (some 0), .sl 0 [] (some 0), .sl 0 [] (some 0), .sl 0 [] (some 0), .sl 0 [] (some 0), litI .i64 0]
theorem eqs_loop (c : Option Nat) (xs : List (List AV)) (hl : xs.length ≤ 17592186044416) (hx : ∀ x ∈ xs, EqD x) : ∀ (ys : List (List AV)) (i : Nat) (n : Int) (H : List AO), xs.drop i = ys → i ≤ xs.length → n ≤ 400 →
    ∃ (n' : Int) (i' x : AV) (K : List AO), loopW (codeW cw0 (lookM mtl) mds c12l3) [0, 1, 5] [(0, .sl 8 xs c), (1, litI .i64 n), (5, litI .i64 i)] H = some (.exit 0, [(0, .sl 8 xs c), (1, litI .i64 n'), (5, i'), (18, x)], H ++ K) ∧
      n' ≤ n ∧ (n < 0 → n' = n) ∧ (0 ≤ n → -8796093022300 - n ≤ n')
  | [], i, n, H, hd, hi, h2 => by
    have hn : xs.length ≤ i := by
      have := congrArg List.length hd
      rw [List.length_drop, List.length_nil] at this; omega
    refine ⟨n, litI .i64 i, litB false, [], ?_, by omega, fun _ => rfl, fun _ => by omega⟩
    rw [List.append_nil]
    refine loopW_out ?_ (by simp)
    simp -implicitDefEqProofs only [c12l3, aW, ↓aP, makes, reduceLT, reduceEqDiff, reduceAdd, ↓reduceIte, Nat.reduceBEq, show ¬ ((i : Int) < xs.length) by omega]
  | y :: ys, i, n, H, hd, hi, h2 => by
    have hlt : i < xs.length := by
      have := congrArg List.length hd
      rw [List.length_drop, List.length_cons] at this; omega
    have hg : xs[i]? = some y := by
      have := congrArg List.head? hd
      rwa [List.head?_drop] at this
    have hlti : (i : Int) < xs.length := by omega
    by_cases hm : 0 ≤ n
    · obtain ⟨q, rfl, q1, q2, q3, q4, q5⟩ := hx y (List.mem_of_getElem? hg)
      obtain ⟨m1, e1, k1, j1⟩ := exprs_tells 4 none q.args (n - 1) (by omega) (by omega)
      obtain ⟨m2, e2, k2, j2⟩ := exprs_tells 4 none q.init m1 (by omega) (by omega)
      obtain ⟨m3, e3, k3, j3⟩ := exprs_tells 4 none q.again m2 (by omega) (by omega)
      obtain ⟨m4, e4, k4⟩ := names_call none q.names (by omega) m3 (by omega) (by omega)
      have k4' : m4 ≤ n - 1 ∧ -8796093022300 - n ≤ m4 := by omega
      have hN := get_last H (.row q.cells 65)
      have hst : storeAt (H ++ [.row zE 65]) 8 (.ptr H.length 0) (.agg q.cells) = some (H ++ [.row q.cells 65]) := st_new H rfl q.len q.cell
      unfold zE at hst
      have hL8 : ∀ H : List AO, Ai.load H (some 8) (.ip q.cells) = some (.agg q.cells) := fun H => load_ipA q.len
      obtain ⟨m5, i5, y5, L5, b1, b2, b3⟩ := blk_loop (.sl 8 xs c) (litI .i64 i) H.length (H ++ [.row q.cells 65]) q hN q2 q4 q.blocks 0 m4 rfl (Nat.zero_le _) (by omega)
      obtain ⟨m6, i6, y6, K6, L6, d1, d2, d3⟩ := sta_loop (.sl 8 xs c) (litI .i64 i) H.length q q3 q5 q.states 0 m5 (H ++ [.row q.cells 65]) hN rfl (Nat.zero_le _) (by omega)
      rw [show ((0 : Nat) : Int) = 0 from rfl] at L5 L6
      have step : codeW cw0 (lookM mtl) mds c12l3 (keep [0, 1, 5] [(0, .sl 8 xs c), (1, litI .i64 n), (5, litI .i64 i)]) H = some (.normal, [(0, .sl 8 xs c), (1, litI .i64 m6), (5, litI .i64 ((i + 1 : Nat) : Int))], (H ++ [.row q.cells 65]) ++ K6) := by
        simp -implicitDefEqProofs only [c12l3, aW, ↓aP, makes, reduceLT, reduceEqDiff, reduceAdd, ↓reduceIte, Nat.reduceBEq, fadr_ptr, hlti, hm, iadr_ix hg, hL8, hst, lq1 hN, lq2 hN, lq3 hN, lq4 hN, wsub (show -4611686018427387904 ≤ n - (1 : Int) by omega) (by omega), e1, e2, e3, e4, md12, md13, L5, L6, wadd (show i < 4611686018427387904 by omega)]
      obtain ⟨n', i', x, K, L, a1, a2, a3⟩ := eqs_loop c xs hl hx ys (i + 1) m6 ((H ++ [.row q.cells 65]) ++ K6) (by rw [← List.drop_drop, hd]; rfl) (by omega) (by omega)
      refine ⟨n', i', x, [.row q.cells 65] ++ (K6 ++ K), ?_, by omega, fun h => by omega, fun _ => ?_⟩
      · rw [← List.append_assoc, ← List.append_assoc]; exact loopW_round step L
      · have l6 : -8796093022300 - n ≤ m6 := by
          by_cases h1 : m5 < 0
          · have := d2 h1
            by_cases h0 : m4 < 0
            · have := b2 h0; omega
            · have := b3 (by omega); omega
          · have := d3 (by omega); omega
        by_cases h0 : m6 < 0
        · have := a2 h0; omega
        · have := a3 (by omega); omega
    · refine ⟨n, litI .i64 i, litB false, [], ?_, by omega, fun _ => rfl, fun h => by omega⟩
      rw [List.append_nil]
      refine loopW_out ?_ (by simp)
      simp -implicitDefEqProofs only [c12l3, aW, ↓aP, makes, reduceLT, reduceEqDiff, reduceAdd, ↓reduceIte, Nat.reduceBEq, hlti, hm]
theorem eqs_row (c : Option Nat) (xs : List (List AV)) (hl : xs.length ≤ 17592186044416) (hx : ∀ x ∈ xs, EqD x) : Cnt (.sl 8 xs c) := by
  intro m h1 h2
  obtain ⟨n', i', x, K, L, a1, a2, a3⟩ := eqs_loop c xs hl hx xs 0 m [] rfl (Nat.zero_le _) h2
  rw [show ((0 : Nat) : Int) = 0 from rfl] at L
  have h : cw0 12 [.sl 8 xs c, litI .i64 m] [] = some (.ret (litI .i64 n'), K) := by
    refine cw0_of fn12 (c := c12) rfl rfl rfl rfl ?_
    simp -implicitDefEqProofs only [c12, aW, ↓aP, makes, reduceLT, reduceEqDiff, reduceAdd, ↓reduceIte, Nat.reduceBEq, L]
    rfl
  refine ⟨n', fun H id => callV_pure rfl rfl h rfl, a1, ?_⟩
  by_cases h0 : 0 ≤ m
  · exact a3 h0
  · have := a2 (by omega); omega
end
section
structure EnV where
  name : ByteArray
  ctors : List ByteArray
  pos : Int
def EnV.cells (e : EnV) : List AV := [litS e.name, strs none e.ctors, litI .i64 e.pos]
structure NoV where
  name : ByteArray
  hyb : Bool
  inn : List Va
  out : List Va
  loc : List Va
  eqs : List (List AV)
  pos : Int
def NoV.cells (d : NoV) : List AV := [litS d.name, litB d.hyb, varsA none d.inn, varsA none d.out, varsA none d.loc, .sl 8 d.eqs none, litI .i64 d.pos]
structure PrV where
  enums : List EnV
  nodes : List NoV
def PrV.cells (p : PrV) : List AV := [.sl 3 (p.enums.map EnV.cells) none, .sl 7 (p.nodes.map NoV.cells) none]
structure EnOk (e : EnV) : Prop where
  len : e.ctors.length * 16 ≤ reachBytes
structure NoOk (d : NoV) : Prop where
  inn : d.inn.length ≤ 17592186044416
  out : d.out.length ≤ 17592186044416
  loc : d.loc.length ≤ 17592186044416
  eqs : Cnt (.sl 8 d.eqs none)
structure PrOk (p : PrV) : Prop where
  el : p.enums.length ≤ 17592186044416
  nl : p.nodes.length ≤ 17592186044416
  en : ∀ e ∈ p.enums, EnOk e
  no : ∀ d ∈ p.nodes, NoOk d
theorem NoV.len (d : NoV) : d.cells.length = 7 := rfl
theorem NoV.cell (d : NoV) : d.cells.all cellA = true := rfl
def rowN (l : List ByteArray) : AO := .row (l.map litS) 9
theorem app_nil (H : List AO) (id : Nat) (n : ByteArray) : append H id 1 16 9 (.sl 1 [[litS n]] (some 1)) (strs none []) = some (.val (.sl 1 [[litS n]] (some 1)) none) := rfl
theorem flat_strs : ∀ ss : List ByteArray, (ss.map fun s => [litS s]).flatten = ss.map litS
  | [] => rfl
  | s :: r => by rw [List.map_cons, List.flatten_cons, flat_strs r]; rfl
theorem app_cons (H : List AO) (id : Nat) (n : ByteArray) (ss : List ByteArray) (h0 : ss ≠ []) (hl : (1 + ss.length) * 16 ≤ 140737488355328) :
    append H id 1 16 9 (.sl 1 [[litS n]] (some 1)) (strs none ss) = some (.val (.own id 0 (1 + ss.length) 1 none) (some (rowN (n :: ss)))) := by
  have hn : ss.length ≠ 0 := fun h => h0 (List.length_eq_zero_iff.1 h)
  have h1 : (ss.length == 0) = false := by simpa using hn
  simp only [append, elems, strs, List.length_map, BEq.rfl, Bool.true_or, cond_true, Option.bind_some, h1, cond_false, List.length_cons, List.length_nil, Nat.zero_add, Bool.and_self, Bool.true_and, flat_strs, Nat.ble_eq_true_of_le hl]
  rfl
theorem whole_strL (ss : List ByteArray) : (ss.map litS).all whole = true := by
  rw [List.all_map, List.all_eq_true]
  intro s _; rfl
theorem names_own {H : List AO} (n : ByteArray) (ss : List ByteArray) (r : Nat) (hr : H[r]? = some (rowN (n :: ss))) (hl : (n :: ss).length ≤ 17592186044416) (m : Int) (h1 : -1000000000000000 ≤ m) (h2 : m ≤ 400) :
    ∃ m' : Int, (∀ id, callV cw0 mds 10 [.own r 0 (1 + ss.length) 1 none, litI .i64 m] H id = some (.val (litI .i64 m') none)) ∧ (m' = -1 ∨ m' = m - ((n :: ss).length : Nat)) := by
  obtain ⟨m', h, hm⟩ := names_tells none (n :: ss) hl m h1 h2
  refine ⟨m', fun id => ?_, hm⟩
  have hf : frz H 16 (.own r 0 (1 + ss.length) 1 none) = some (strs none (n :: ss), [r]) := by
    have := frz_own (k := 14) hr (n := 1 + ss.length) (cap := none) (by rw [List.length_map, List.length_cons]; omega) (whole_strL _)
    rw [show (16 : Nat) = 14 + 2 from rfl, this]
    unfold strs
    rw [List.take_of_length_le (by rw [List.length_map, List.length_cons]; omega), List.map_map]
    rfl
  have hp : mapL (frz H frzF) [.own r 0 (1 + ss.length) 1 none, litI .i64 m] = some ([strs none (n :: ss), litI .i64 m], [r]) := by
    show mapL (frz H 16) _ = _
    simp only [mapL, hf, Option.bind_some]
    rfl
  exact callV_flat rfl hp h
theorem lp0 {H : List AO} {r : Nat} {p : PrV} (h : H[r]? = some (.row p.cells 25)) : Ai.load H none (.ptr r 0) = some (.sl 3 (p.enums.map EnV.cells) none) := by rw [load_ptr h]; rfl
theorem lp1 {H : List AO} {r : Nat} {p : PrV} (h : H[r]? = some (.row p.cells 25)) : Ai.load H none (.ptr r 1) = some (.sl 7 (p.nodes.map NoV.cells) none) := by rw [load_ptr h]; rfl
theorem fadrE0 (e : EnV) : fadr 0 (.ip e.cells) = some (.ip e.cells) := rfl
theorem fadrE1 (e : EnV) : fadr 1 (.ip e.cells) = some (.ip [strs none e.ctors, litI .i64 e.pos]) := rfl
theorem hdE0 (e : EnV) : e.cells.head? = some (litS e.name) := rfl
theorem enum_loop (p : PrV) (ok : PrOk p) (r : Nat) : ∀ (es : List EnV) (i : Nat) (n : Int) (H : List AO), H[r]? = some (.row p.cells 25) → p.enums.drop i = es → i ≤ p.enums.length → -1000000000000000 ≤ n → n ≤ 400 →
    ∃ (n' : Int) (i' x : AV) (K : List AO), loopW (codeW cw0 (lookM mtl) mds c4l0) [1, 3, 4] [(1, .ptr r 0), (3, litI .i64 n), (4, litI .i64 i)] H = some (.exit 0, [(1, .ptr r 0), (3, litI .i64 n'), (4, i'), (15, x)], H ++ K) ∧ n' ≤ 400 ∧ -1000000000000000 ≤ n'
  | [], i, n, H, hH, hd, hi, h1, h2 => by
    have hn : p.enums.length ≤ i := by
      have := congrArg List.length hd
      rw [List.length_drop, List.length_nil] at this; omega
    refine ⟨n, litI .i64 i, litB false, [], ?_, by omega, h1⟩
    rw [List.append_nil]
    refine loopW_out ?_ (by simp)
    simp -implicitDefEqProofs only [c4l0, aW, ↓aP, makes, reduceLT, reduceEqDiff, reduceAdd, ↓reduceIte, Nat.reduceBEq, fadr_ptr, lp0 hH, List.length_map, show ¬ ((i : Int) < p.enums.length) by omega]
  | e :: es, i, n, H, hH, hd, hi, h1, h2 => by
    have hlt : i < p.enums.length := by
      have := congrArg List.length hd
      rw [List.length_drop, List.length_cons] at this; omega
    have hg : p.enums[i]? = some e := by
      have := congrArg List.head? hd
      rwa [List.head?_drop] at this
    have hg' : (p.enums.map EnV.cells)[i]? = some e.cells := by rw [List.getElem?_map, hg]; rfl
    have hlti : (i : Int) < p.enums.length := by omega
    have hel := ok.el
    by_cases hm : 0 ≤ n
    · have hE := (ok.en e (List.mem_of_getElem? hg)).len
      have hE' : e.ctors.length ≤ 8796093022208 := by unfold reachBytes at hE; omega
      cases hc : e.ctors with
      | nil =>
        obtain ⟨m1, e1, k1⟩ := names_call (some 1) [e.name] (by simp) (n - 1) (by omega) (by omega)
        have e1' : ∀ H id, callV cw0 mds 10 [.sl 1 [[litS e.name]] (some 1), litI .i64 (n - 1)] H id = some (.val (litI .i64 m1) none) := e1
        have hf1 : fadr 1 (.ip e.cells) = some (.ip [strs none [], litI .i64 e.pos]) := by rw [fadrE1, hc]
        have step : codeW cw0 (lookM mtl) mds c4l0 (keep [1, 3, 4] [(1, .ptr r 0), (3, litI .i64 n), (4, litI .i64 i)]) H = some (.normal, [(1, .ptr r 0), (3, litI .i64 m1), (4, litI .i64 ((i + 1 : Nat) : Int))], H) := by
          simp -implicitDefEqProofs only [c4l0, aW, ↓aP, makes, reduceLT, reduceEqDiff, reduceAdd, ↓reduceIte, Nat.reduceBEq, fadr_ptr, lp0 hH, List.length_map, hlti, hm, iadr_ix hg', fadrE0, hf1, hdE0, core_bsl, bsl_s1, app_nil, wsub (show -4611686018427387904 ≤ n - (1 : Int) by omega) (by omega), e1', wadd (show i < 4611686018427387904 by omega)]
        have k2 : m1 ≤ 400 ∧ -1000000000000000 ≤ m1 := by simp only [List.length_cons, List.length_nil] at k1; omega
        obtain ⟨n', i', x, K, L, a1, a2⟩ := enum_loop p ok r es (i + 1) m1 H hH (by rw [← List.drop_drop, hd]; rfl) (by omega) (by omega) (by omega)
        exact ⟨n', i', x, K, loopW_round step L, a1, a2⟩
      | cons s ss =>
        have hl : (1 + (s :: ss).length) * 16 ≤ 140737488355328 := by rw [← hc]; unfold reachBytes at hE; omega
        have hN := get_last H (rowN (e.name :: s :: ss))
        obtain ⟨m1, e1, k1⟩ := names_own e.name (s :: ss) H.length hN (by rw [List.length_cons, ← hc]; omega) (n - 1) (by omega) (by omega)
        have hf1 : fadr 1 (.ip e.cells) = some (.ip [strs none (s :: ss), litI .i64 e.pos]) := by rw [fadrE1, hc]
        have hap := fun id => app_cons H id e.name (s :: ss) (by simp) hl
        have step : codeW cw0 (lookM mtl) mds c4l0 (keep [1, 3, 4] [(1, .ptr r 0), (3, litI .i64 n), (4, litI .i64 i)]) H = some (.normal, [(1, .ptr r 0), (3, litI .i64 m1), (4, litI .i64 ((i + 1 : Nat) : Int))], H ++ [rowN (e.name :: s :: ss)]) := by
          simp -implicitDefEqProofs only [c4l0, aW, ↓aP, makes, reduceLT, reduceEqDiff, reduceAdd, ↓reduceIte, Nat.reduceBEq, fadr_ptr, lp0 hH, List.length_map, hlti, hm, iadr_ix hg', fadrE0, hf1, hdE0, core_bsl, bsl_s1, hap, wsub (show -4611686018427387904 ≤ n - (1 : Int) by omega) (by omega), e1, wadd (show i < 4611686018427387904 by omega)]
        have k2 : m1 ≤ 400 ∧ -1000000000000000 ≤ m1 := by
          have hcl : e.ctors.length = ss.length + 1 := by rw [hc]; rfl
          simp only [List.length_cons] at k1
          omega
        obtain ⟨n', i', x, K, L, a1, a2⟩ := enum_loop p ok r es (i + 1) m1 (H ++ [rowN (e.name :: s :: ss)]) (get_old hH _) (by rw [← List.drop_drop, hd]; rfl) (by omega) (by omega) (by omega)
        refine ⟨n', i', x, [rowN (e.name :: s :: ss)] ++ K, ?_, a1, a2⟩
        rw [← List.append_assoc]
        exact loopW_round step L
    · refine ⟨n, litI .i64 i, litB false, [], ?_, by omega, h1⟩
      rw [List.append_nil]
      refine loopW_out ?_ (by simp)
      simp -implicitDefEqProofs only [c4l0, aW, ↓aP, makes, reduceLT, reduceEqDiff, reduceAdd, ↓reduceIte, Nat.reduceBEq, fadr_ptr, lp0 hH, List.length_map, hlti, hm]
section
variable {H : List AO} {r : Nat}
theorem ln0 {d : NoV} (h : H[r]? = some (.row d.cells 35)) : Ai.load H none (.ptr r 0) = some (litS d.name) := by rw [load_ptr h]; rfl
theorem ln2 {d : NoV} (h : H[r]? = some (.row d.cells 35)) : Ai.load H none (.ptr r 2) = some (varsA none d.inn) := by rw [load_ptr h]; rfl
theorem ln3 {d : NoV} (h : H[r]? = some (.row d.cells 35)) : Ai.load H none (.ptr r 3) = some (varsA none d.out) := by rw [load_ptr h]; rfl
theorem ln4 {d : NoV} (h : H[r]? = some (.row d.cells 35)) : Ai.load H none (.ptr r 4) = some (varsA none d.loc) := by rw [load_ptr h]; rfl
theorem ln5 {d : NoV} (h : H[r]? = some (.row d.cells 35)) : Ai.load H none (.ptr r 5) = some (.sl 8 d.eqs none) := by rw [load_ptr h]; rfl
end
theorem md11 : mds 11 = .pure := rfl
def FewV (d : NoV) : Prop := d.inn.length + d.out.length + d.loc.length ≤ 400
theorem node_loop (p : PrV) (ok : PrOk p) (r : Nat) : ∀ (es : List NoV) (i : Nat) (n : Int) (H : List AO), H[r]? = some (.row p.cells 25) → p.nodes.drop i = es → i ≤ p.nodes.length → -1000000000000000 ≤ n → n ≤ 400 →
    ∃ (n' : Int) (i' x : AV) (K : List AO), loopW (codeW cw0 (lookM mtl) mds c4l1) [1, 3, 5] [(1, .ptr r 0), (3, litI .i64 n), (5, litI .i64 i)] H = some (.exit 2, [(1, .ptr r 0), (3, litI .i64 n'), (5, i'), (43, x)], H ++ K) ∧ n' ≤ n ∧ (0 ≤ n' → ∀ d ∈ es, FewV d)
  | [], i, n, H, hH, hd, hi, h1, h2 => by
    have hn : p.nodes.length ≤ i := by
      have := congrArg List.length hd
      rw [List.length_drop, List.length_nil] at this; omega
    refine ⟨n, litI .i64 i, litB false, [], ?_, by omega, fun _ d hd => by cases hd⟩
    rw [List.append_nil]
    refine loopW_out ?_ (by simp)
    simp -implicitDefEqProofs only [c4l1, aW, ↓aP, makes, reduceLT, reduceEqDiff, reduceAdd, ↓reduceIte, Nat.reduceBEq, fadr_ptr, lp1 hH, List.length_map, show ¬ ((i : Int) < p.nodes.length) by omega]
  | d :: es, i, n, H, hH, hd, hi, h1, h2 => by
    have hlt : i < p.nodes.length := by
      have := congrArg List.length hd
      rw [List.length_drop, List.length_cons] at this; omega
    have hg : p.nodes[i]? = some d := by
      have := congrArg List.head? hd
      rwa [List.head?_drop] at this
    have hg' : (p.nodes.map NoV.cells)[i]? = some d.cells := by rw [List.getElem?_map, hg]; rfl
    have hlti : (i : Int) < p.nodes.length := by omega
    have hnl := ok.nl
    by_cases hm : 0 ≤ n
    · have O := ok.no d (List.mem_of_getElem? hg)
      obtain ⟨m1, e1, k1, k1'⟩ := O.eqs (n - 1) (by omega) (by omega)
      obtain ⟨m2, e2, k2, k2'⟩ := vars_call none d.loc O.loc m1 (by omega) (by omega)
      obtain ⟨m3, e3, k3, k3'⟩ := vars_call none d.out O.out m2 (by omega) (by omega)
      obtain ⟨m4, e4, k4, k4'⟩ := vars_call none d.inn O.inn m3 (by omega) (by omega)
      obtain ⟨m5, e5, k5⟩ := names_call (some 1) [d.name] (by simp) m4 (by omega) (by omega)
      have e5' : ∀ H id, callV cw0 mds 10 [.sl 1 [[litS d.name]] (some 1), litI .i64 m4] H id = some (.val (litI .i64 m5) none) := e5
      have hN := get_last H (.row d.cells 35)
      have hst : storeAt (H ++ [.row [litS (bs []), litB false, .sl 0 [] (some 0), .sl 0 [] (some 0), .sl 0 [] (some 0), .sl 0 [] (some 0), litI .i64 0] 35]) 7 (.ptr H.length 0) (.agg d.cells) = some (H ++ [.row d.cells 35]) := st_new H rfl d.len d.cell
      have hL7 : ∀ H : List AO, Ai.load H (some 7) (.ip d.cells) = some (.agg d.cells) := fun H => load_ipA d.len
      have step : codeW cw0 (lookM mtl) mds c4l1 (keep [1, 3, 5] [(1, .ptr r 0), (3, litI .i64 n), (5, litI .i64 i)]) H = some (.normal, [(1, .ptr r 0), (3, litI .i64 m5), (5, litI .i64 ((i + 1 : Nat) : Int))], H ++ [.row d.cells 35]) := by
        simp -implicitDefEqProofs only [c4l1, aW, ↓aP, makes, reduceLT, reduceEqDiff, reduceAdd, ↓reduceIte, Nat.reduceBEq, fadr_ptr, lp1 hH, List.length_map, hlti, hm, iadr_ix hg', hL7, hst, ln0 hN, ln2 hN, ln3 hN, ln4 hN, ln5 hN, core_bsl, bsl_s1, wsub (show -4611686018427387904 ≤ n - (1 : Int) by omega) (by omega), e1, e2, e3, e4, e5', md11, md12, wadd (show i < 4611686018427387904 by omega)]
        try rfl
      have k6 : m5 ≤ n - 1 ∧ -1000000000000000 ≤ m5 ∧ (0 ≤ m5 → FewV d) := by
        simp only [List.length_cons, List.length_nil] at k5
        unfold FewV
        omega
      obtain ⟨n', i', x, K, L, a1, a2⟩ := node_loop p ok r es (i + 1) m5 (H ++ [.row d.cells 35]) (get_old hH _) (by rw [← List.drop_drop, hd]; rfl) (by omega) (by omega) (by omega)
      refine ⟨n', i', x, [.row d.cells 35] ++ K, ?_, by omega, fun h z hz => ?_⟩
      · rw [← List.append_assoc]
        exact loopW_round step L
      · rcases List.mem_cons.1 hz with rfl | hz
        · exact k6.2.2 (by omega)
        · exact a2 h z hz
    · refine ⟨n, litI .i64 i, litB false, [], ?_, by omega, fun h => by omega⟩
      rw [List.append_nil]
      refine loopW_out ?_ (by simp)
      simp -implicitDefEqProofs only [c4l1, aW, ↓aP, makes, reduceLT, reduceEqDiff, reduceAdd, ↓reduceIte, Nat.reduceBEq, fadr_ptr, lp1 hH, List.length_map, hlti, hm]
theorem few_tells (p : PrV) (ok : PrOk p) : ∃ (b : Bool) (H' : List AO), cw0 4 [.agg p.cells] [] = some (.ret (litB b), H') ∧ (b = true → ∀ d ∈ p.nodes, FewV d) := by
  have hb : ∀ id, boxV id 2 (.agg p.cells) 25 = some (.val (.ptr id 0) (some (.row p.cells 25))) := fun id => boxV_agg rfl rfl
  obtain ⟨n1, i1, x1, K1, L1, a1, a2⟩ := enum_loop p ok 0 p.enums 0 400 [.row p.cells 25] rfl rfl (Nat.zero_le _) (by omega) (by omega)
  obtain ⟨n2, i2, x2, K2, L2, b1, b2⟩ := node_loop p ok 0 p.nodes 0 n1 ([.row p.cells 25] ++ K1) rfl rfl (Nat.zero_le _) a2 a1
  rw [show ((0 : Nat) : Int) = 0 from rfl] at L1 L2
  refine ⟨decide (0 ≤ n2), ([.row p.cells 25] ++ K1) ++ K2, ?_, fun h => b2 (by simpa using h)⟩
  refine cw0_of fn4 (c := c4) rfl rfl rfl rfl ?_
  rw [show [AO.row p.cells 25] ++ K1 = AO.row p.cells 25 :: K1 from rfl] at L1 L2
  simp -implicitDefEqProofs only [c4, aW, ↓aP, makes, reduceLT, reduceEqDiff, reduceAdd, ↓reduceIte, Nat.reduceBEq, core_box, hb, List.length_nil, L1, L2]
  rfl
end
end Go.Proofs.YtkjimmmdeopnaaaGreat.Ai
namespace Go.Ai
open Go.ChangeShapes Go.WideShapes Go.ChangeAt Go.RowKit Go.Deep
inductive RT where
  | int (k : IntKind)
  | bool
  | str
  | sl (e : RT) (by' : Nat)
  | unit
  | cons (a b : RT)
  | ref (t : TypeId) (n : Nat)
def RT.n : RT → Nat
  | .int _ | .bool | .str | .sl _ _ => 1
  | .unit => 0
  | .cons a b => a.n + b.n
  | .ref _ n => n
inductive RSh (E : TypeId → Option RT) : RT → List AV → Prop
  | int (k : IntKind) (n : Int) (h : (Lit.int k n).wf = true) : RSh E (.int k) [litI k n]
  | bool (b : Bool) : RSh E .bool [litB b]
  | str (s : ByteArray) (h : s.size ≤ maxLen) : RSh E .str [litS s]
  | sl (e : RT) (by' : Nat) (xs : List (List AV)) (hb : xs.length ≤ maxLen ∧ xs.length * by' ≤ reachBytes) (h : ∀ x ∈ xs, RSh E e x) : RSh E (.sl e by') [.sl e.n xs none]
  | unit : RSh E .unit []
  | cons (a b : RT) (x y : List AV) (hx : RSh E a x) (hy : RSh E b y) : RSh E (.cons a b) (x ++ y)
  | ref (t : TypeId) (n : Nat) (τ : RT) (x : List AV) (h : E t = some τ) (hn : τ.n = n) (hx : RSh E τ x) : RSh E (.ref t n) x
theorem RSh.len {E : TypeId → Option RT} {τ : RT} {aas : List AV} (h : RSh E τ aas) : aas.length = τ.n := by
  induction h with
  | int | bool | str | unit => rfl
  | sl => rfl
  | cons a b x y _ _ h1 h2 => rw [List.length_append, h1, h2]; rfl
  | ref t n τ x _ hn _ h1 => rw [h1, hn]; rfl
def RT.rep (a : RT) : Nat → RT
  | 0 => .unit
  | n + 1 => .cons a (RT.rep a n)
def rtFs (g : TypeId → Option RT) (P : Program) : Nat → List Field → Option RT
  | _, [] => some .unit
  | off, f :: r => (g f.type).bind fun a => if f.offset = off ∧ a.n = P.cellsOf f.type then (rtFs g P (off + a.n) r).bind fun b => some (.cons a b) else none
def rtOf (P : Program) (N : List TypeId) : Nat → TypeId → Option RT
  | 0, _ => none
  | k + 1, t =>
    let sub : TypeId → Option RT := fun e => if N.contains e = true then some (.ref e (P.cellsOf e)) else rtOf P N k e
    match P.underlying t with
    | some (.int q) => some (.int q)
    | some .bool => some .bool
    | some .string => some .str
    | some (.slice e) => (sub e).bind fun a => if a.n = P.cellsOf e then some (.sl a (P.bytesOf e)) else none
    | some (.struct fs) => (rtFs sub P 0 fs.toList).bind fun a => if a.n = P.cellsOf t then some a else none
    | some (.array n e) => (sub e).bind fun a => if a.n = P.cellsOf e ∧ n * a.n = P.cellsOf t then some (RT.rep a n) else none
    | _ => none
def rtE (P : Program) (N : List TypeId) (k : Nat) (t : TypeId) : Option RT := if N.contains t = true then rtOf P N k t else none
def rtOk (P : Program) (N : List TypeId) (k : Nat) : Bool := N.all fun t => match rtOf P N k t with
  | some τ => τ.n == P.cellsOf t
  | none => false
section
variable {H : Type} {enc : TypeId × Value → H} {P : Program} {w : World} {base : Nat} {spare : Nat → Bool} {held : Bool}
def ReadsR (E : TypeId → Option RT) (w : World) (τ : RT) (cs : List Value) : Prop := ∃ aas, FVs (fun b => b < w.heap.size) w aas cs ∧ RSh E τ aas ∧ ∀ v ∈ cs, v.oneCell' = true
theorem readsR_fs {E : TypeId → Option RT} {g : TypeId → Option RT} {n : Nat} : ∀ (fs : List Field) (off : Nat) (τ : RT) (cs : List Value), rtFs g P off fs = some τ → off + τ.n ≤ cs.length →
    (∀ f ∈ fs, ∃ x, DataW.trod enc P w base spare held n f.type ((cs.drop f.offset).take (P.cellsOf f.type)) = some x ∧ ∀ τ cs', g f.type = some τ → DataW.trod enc P w base spare held n f.type cs' = some x → ReadsR E w τ cs') →
      ReadsR E w τ ((cs.drop off).take τ.n)
  | [], off, τ, cs, h, hl, hx => by
    simp only [rtFs, sI] at h; subst h
    exact ⟨[], by simp [RT.n, FVs], .unit, by simp [RT.n]⟩
  | f :: r, off, τ, cs, h, hl, hx => by
    simp only [rtFs] at h
    obtain ⟨a, ha, h⟩ := bO.1 h
    by_cases hc : f.offset = off ∧ a.n = P.cellsOf f.type
    case neg => rw [if_neg hc] at h; cases h
    rw [if_pos hc] at h
    obtain ⟨b, hb, h⟩ := bO.1 h
    simp only [sI] at h; subst h
    simp only [RT.n] at hl ⊢
    obtain ⟨x, hx1, ih⟩ := hx f (List.mem_cons_self ..)
    obtain ⟨aas, k1, k2, k3⟩ := ih _ _ ha hx1
    obtain ⟨bs, m1, m2, m3⟩ := readsR_fs r (off + a.n) b cs hb (by omega) fun f hf => hx f (List.mem_cons_of_mem _ hf)
    rw [hc.1, ← hc.2] at k1 k3
    have e : (cs.drop off).take (a.n + b.n) = (cs.drop off).take a.n ++ (cs.drop (off + a.n)).take b.n := by
      rw [List.take_add, List.drop_drop]
    rw [e]
    refine ⟨aas ++ bs, k1.append' m1, .cons _ _ _ _ k2 m2, fun v hv => ?_⟩
    rcases List.mem_append.1 hv with hv | hv
    · exact k3 v hv
    · exact m3 v hv
theorem readsR_rep {E : TypeId → Option RT} {n : Nat} {a : RT} {e : TypeId} (ha : a.n = P.cellsOf e) :
    ∀ (m j : Nat) (cs : List Value), (∀ i, i < m → ReadsR E w a ((cs.drop ((j + i) * P.cellsOf e)).take (P.cellsOf e))) →
      ReadsR E w (RT.rep a m) ((cs.drop (j * P.cellsOf e)).take (m * a.n))
  | 0, j, cs, h => ⟨[], by simp [FVs], .unit, by simp⟩
  | m + 1, j, cs, h => by
    obtain ⟨aas, k1, k2, k3⟩ := h 0 (by omega)
    obtain ⟨bs, m1, m2, m3⟩ := readsR_rep (n := n) ha m (j + 1) cs fun i hi => by
      have := h (i + 1) (by omega)
      rwa [show j + (i + 1) = j + 1 + i by omega] at this
    rw [Nat.add_zero, ← ha] at k1 k3
    rw [← ha] at m1 m3 ⊢
    have e' : (cs.drop (j * a.n)).take ((m + 1) * a.n) = (cs.drop (j * a.n)).take a.n ++ (cs.drop ((j + 1) * a.n)).take (m * a.n) := by
      rw [show (m + 1) * a.n = a.n + m * a.n by rw [Nat.add_mul]; omega, List.take_add, List.drop_drop, show j * a.n + a.n = (j + 1) * a.n by rw [Nat.add_mul]; omega]
    rw [e']
    refine ⟨aas ++ bs, k1.append' m1, .cons _ _ _ _ k2 m2, fun v hv => ?_⟩
    rcases List.mem_append.1 hv with hv | hv
    · exact k3 v hv
    · exact m3 v hv
theorem size_map_lt {α : Type} {l : List α} {F : α → DataW H} {a : α} (h : a ∈ l) : SizeOf.sizeOf (F a) < SizeOf.sizeOf (l.map F) := List.sizeOf_lt_of_mem (List.mem_map.2 ⟨a, h, rfl⟩)
theorem weightsAll_mem {e : TypeId} {d : DataW H} : ∀ {ds : List (DataW H)}, d ∈ ds → (DataW.weightsAll P e ds).all (· ≤ reachBytes) = true → (d.weights P e).all (· ≤ reachBytes) = true
  | [], h, _ => by cases h
  | x :: r, h, hw => by
    simp only [DataW.weightsAll, List.all_append, Bool.and_eq_true] at hw
    rcases List.mem_cons.1 h with rfl | h
    · exact hw.1
    · exact weightsAll_mem h hw.2
theorem reads_rt {N : List TypeId} {K : Nat} (hN : rtOk P N K = true) : ∀ (z k fuel : Nat) (t : TypeId) (τ : RT) (cs : List Value) (x : DataW H × List MemPlace), SizeOf.sizeOf x.1 < z → (x.1.weights P t).all (· ≤ reachBytes) = true → rtOf P N k t = some τ → DataW.trod enc P w base spare held fuel t cs = some x → ReadsR (rtE P N K) w τ cs
  | 0, k, fuel, t, τ, cs, x, hz, hw, h, hx => by omega
  | z + 1, 0, fuel, t, τ, cs, x, hz, hw, h, hx => by cases h
  | z + 1, k + 1, fuel, t, τ, cs, x, hz, hw, h, hx => by
    have sub : ∀ (n : Nat) (e : TypeId) (a : RT) (cs' : List Value) (y : DataW H × List MemPlace), SizeOf.sizeOf y.1 < z → (y.1.weights P e).all (· ≤ reachBytes) = true → (if N.contains e = true then some (RT.ref e (P.cellsOf e)) else rtOf P N k e) = some a → DataW.trod enc P w base spare held n e cs' = some y → ReadsR (rtE P N K) w a cs' := by
      intro n e a cs' y hy hyw ha hd
      by_cases hc : N.contains e = true
      · rw [if_pos hc] at ha
        simp only [sI] at ha; subst ha
        have hk := hN
        unfold rtOk at hk
        rw [List.all_eq_true] at hk
        have := hk e (by simpa using hc)
        split at this
        · rename_i τ hτ
          have hn : τ.n = P.cellsOf e := by simpa using this
          obtain ⟨aas, k1, k2, k3⟩ := reads_rt hN z K n e τ cs' y hy hyw hτ hd
          exact ⟨aas, k1, .ref _ _ τ _ (by unfold rtE; rw [if_pos hc]; exact hτ) hn k2, k3⟩
        · cases this
      · rw [if_neg hc] at ha
        exact reads_rt hN z k n e a cs' y hy hyw ha hd
    simp only [rtOf] at h
    split at h
    · rename_i q hu
      simp only [sI] at h; subst h
      obtain ⟨n, rfl, _, hw⟩ := DataW.trod_int hu hx
      exact ⟨[litI q n], .one (.lit _), .int q n hw, by simp [Value.oneCell']⟩
    · rename_i hu
      simp only [sI] at h; subst h
      obtain ⟨b, rfl, _⟩ := DataW.trod_bool hu hx
      exact ⟨[litB b], .one (.lit _), .bool b, by simp [Value.oneCell']⟩
    · rename_i hu
      simp only [sI] at h; subst h
      obtain ⟨s, rfl, _, hs⟩ := DataW.trod_string hu hx
      exact ⟨[litS s], .one (.lit _), .str s hs, by simp [Value.oneCell']⟩
    · rename_i e hu
      obtain ⟨a, ha, h⟩ := bO.1 h
      by_cases hc : a.n = P.cellsOf e
      case neg => rw [if_neg hc] at h; cases h
      rw [if_pos hc] at h
      simp only [sI] at h; subst h
      rcases open_slice hu hx with ⟨rfl, _⟩ | ⟨ad, len, cap, m, n, D, Pl, rfl, _, hle, hcm, hm, rfl, hel⟩
      · exact ⟨[.sl a.n [] none], .one (.sl _ _ _ none 0 (fun _ _ => undef) (Nat.le_refl _) (by simp) (by simp) (by simp) (by simp) (by simp)), .sl a _ [] ⟨Nat.zero_le _, by simp⟩ (by simp), by simp [Value.oneCell']⟩
      · have hlm : len ≤ m := by rw [hm]; split <;> omega
        have hsz : ∀ i, i < len → SizeOf.sizeOf (D i) < z := by
          intro i hi
          have h1 := size_map_lt (F := D) (List.mem_range.2 hi)
          simp only [DataW.slice.sizeOf_spec] at hz
          omega
        have hwb : (len + (m - len)) * P.bytesOf e ≤ reachBytes ∧ ∀ i, i < len → ((D i).weights P e).all (· ≤ reachBytes) = true := by
          simp only [DataW.weights, hu, List.all_cons, List.all_append, Bool.and_eq_true, decide_eq_true_eq, List.length_map, List.length_range] at hw
          refine ⟨hw.1, fun i hi => ?_⟩
          exact weightsAll_mem (List.mem_map.2 ⟨i, List.mem_range.2 hi, rfl⟩) hw.2.1
        have hch : ∀ i, i < len → ∃ p : List AV × List Value, (w.cells? base (ad.add (i * P.cellsOf e)) (P.cellsOf e) = some p.2 ∧ FVs (fun b => b < w.heap.size) w p.1 p.2 ∧ RSh (rtE P N K) a p.1 ∧ ∀ v ∈ p.2, v.oneCell' = true) := by
          intro i hi
          obtain ⟨cs', h1, h2⟩ := hel i (by omega)
          obtain ⟨aas, k1, k2, k3⟩ := sub n e a cs' _ (hsz i hi) (hwb.2 i hi) ha h2
          exact ⟨(aas, cs'), h1, k1, k2, k3⟩
        obtain ⟨F, hF⟩ := choose_lt (α := List AV × List Value) hch
        have hlen : ∀ i, i < len → (F i).1.length = a.n ∧ (F i).2.length = a.n := by
          intro i hi
          obtain ⟨h1, h2, h3, _⟩ := hF i hi
          have := h2.1
          exact ⟨h3.len, by rw [← this]; exact h3.len⟩
        have get : ∀ (j : Nat) (x : List AV), ((List.range len).map fun i => (F i).1)[j]? = some x → j < len ∧ x = (F j).1 := by
          intro j x hj
          rw [List.getElem?_map] at hj
          by_cases hjl : j < len
          · rw [List.getElem?_range hjl] at hj
            simp only [Option.map_some, sI] at hj
            exact ⟨hjl, hj.symm⟩
          · rw [List.getElem?_eq_none (by simpa using hjl)] at hj; cases hj
        have val : ∀ j k, j < len → k < a.n → w.cell? (ad.add (j * a.n + k)) = some ((F j).2.getD k undef) ∧ (F j).2[k]? = some ((F j).2.getD k undef) := by
          intro j k hj hk
          obtain ⟨h1, h2, h3, h4⟩ := hF j hj
          obtain ⟨_, _, h5⟩ := World.cells?_some h1
          have h6 := h5 k (by rw [← hc]; exact hk)
          have h7 : (F j).2[k]? = some ((F j).2.getD k undef) := by
            rw [List.getD_eq_getElem?_getD, List.getElem?_eq_getElem (by rw [(hlen j hj).2]; exact hk)]; rfl
          rw [add_add, ← hc, h7] at h6
          exact ⟨h6, h7⟩
        refine ⟨[.sl a.n ((List.range len).map fun i => (F i).1) none], .one ?_, .sl a _ _ ⟨by rw [List.length_map, List.length_range]; omega, by rw [List.length_map, List.length_range]; exact Nat.le_trans (Nat.mul_le_mul_right _ (by omega)) hwb.1⟩ (fun x hx => ?_), by simp [Value.oneCell']⟩
        · have hl' : ((List.range len).map fun i => (F i).1).length = len := by simp
          have := FV.sl (S := fun b => b < w.heap.size) (w := w) a.n ((List.range len).map fun i => (F i).1) none (some ad) cap (fun j k => (F j).2.getD k undef) (by rw [hl']; exact hle) (by simp)
            (fun x hx => by
              obtain ⟨j, hj⟩ := List.getElem?_of_mem hx
              obtain ⟨h1, rfl⟩ := get j x hj
              exact (hlen j h1).1)
            (fun hne => ⟨ad, rfl, fun he => by
              have h0 : 0 < len := by
                cases hlz : len with
                | zero => rw [hlz] at hne; exact absurd rfl hne
                | succ q => omega
              have := (val 0 0 h0 he).1
              have := cell_lt this
              rwa [add_block] at this, fun j k hj hk => (val j k (by rw [hl'] at hj; exact hj) hk).1⟩)
            (fun j k hj hk => by
              rw [hl'] at hj
              exact (hF j hj).2.2.2 _ (List.mem_of_getElem? (val j k hj hk).2))
            (fun j x k b hj hb => by
              obtain ⟨h1, rfl⟩ := get j x hj
              have hk : k < a.n := by rw [← (hlen j h1).1]; exact (List.getElem?_eq_some_iff.1 hb).1
              exact (hF j h1).2.1.2 k b _ hb (val j k h1 hk).2)
          rw [hl'] at this
          exact this
        · obtain ⟨j, hj⟩ := List.getElem?_of_mem hx
          obtain ⟨h1, rfl⟩ := get j x hj
          exact (hF j h1).2.2.1
    · rename_i fs hu
      obtain ⟨a, ha, h⟩ := bO.1 h
      by_cases hc : a.n = P.cellsOf t
      case neg => rw [if_neg hc] at h; cases h
      rw [if_pos hc] at h
      simp only [sI] at h; subst h
      obtain ⟨xs, n, _, rfl, hl, hxl, hel⟩ := DataW.trod_struct hu hx
      have := readsR_fs (E := rtE P N K) (n := n) (enc := enc) (base := base) (spare := spare) (held := held) (w := w) fs.toList 0 a cs ha (by omega) (fun f hf => by
        obtain ⟨i, hi⟩ := List.getElem?_of_mem hf
        have hi' : fs[i]? = some f := by rwa [Array.getElem?_toList] at hi
        have hlt := (Array.getElem?_eq_some_iff.1 hi').1
        have hsz : SizeOf.sizeOf (xs[i]'(by omega)).1 < z := by
          have h1 := size_map_lt (F := fun p : DataW H × List MemPlace => p.1) (List.getElem_mem (show i < xs.length by omega))
          simp only [DataW.agg.sizeOf_spec] at hz
          omega
        have hwi : ((xs[i]'(by omega)).1.weights P f.type).all (· ≤ reachBytes) = true := by
          rw [List.all_eq_true] at hw ⊢
          intro q hq
          refine hw q ?_
          simp only [DataW.weights, hu]
          exact DataW.weights_mem_each (j := i) (t := f.type) (d := (xs[i]'(by omega)).1) (by rw [List.getElem?_map, hi]; rfl) (by rw [List.getElem?_map, List.getElem?_eq_getElem (by omega)]; rfl) q hq
        refine ⟨xs[i]'(by omega), ?_, fun τ cs' hτ hd => sub n f.type τ cs' _ hsz hwi hτ hd⟩
        rw [hel i f hi', List.getElem?_eq_getElem (by omega)])
      rw [List.drop_zero, List.take_of_length_le (by omega)] at this
      exact this
    · rename_i m e hu
      obtain ⟨a, ha, h⟩ := bO.1 h
      by_cases hc : a.n = P.cellsOf e ∧ m * a.n = P.cellsOf t
      case neg => rw [if_neg hc] at h; cases h
      rw [if_pos hc] at h
      simp only [sI] at h; subst h
      obtain ⟨xs, n, _, rfl, hl, hxl, hel⟩ := DataW.trod_array hu hx
      have := readsR_rep (E := rtE P N K) (n := n) (w := w) hc.1 m 0 cs (fun i hi => by
        have hsz : SizeOf.sizeOf (xs[i]'(by omega)).1 < z := by
          have h1 := size_map_lt (F := fun p : DataW H × List MemPlace => p.1) (List.getElem_mem (show i < xs.length by omega))
          simp only [DataW.agg.sizeOf_spec] at hz
          omega
        have hwi : ((xs[i]'(by omega)).1.weights P e).all (· ≤ reachBytes) = true := by
          simp only [DataW.weights, hu] at hw
          exact weightsAll_mem (List.mem_map.2 ⟨_, List.getElem_mem (show i < xs.length by omega), rfl⟩) hw
        refine sub n e a _ _ hsz hwi ha ?_
        rw [Nat.zero_add, hel i hi, List.getElem?_eq_getElem (by omega)])
      rw [Nat.zero_mul, List.drop_zero, List.take_of_length_le (by omega)] at this
      exact this
    · cases h
end
end Go.Ai
namespace Go.Ai
open Go.ChangeShapes Go.WideShapes Go.ChangeAt Go.RowKit Go.Deep
def argR (P : Program) (E : TypeId → Option RT) (t : TypeId) (τ : RT) (a : AV) : Prop :=
  match P.underlying t with
  | some (.struct _) | some (.array _ _) => ∃ aas, a = .agg aas ∧ RSh E τ aas
  | _ => RSh E τ [a]
def argsR (P : Program) (E : TypeId → Option RT) : List TypeId → List RT → List AV → Prop
  | [], [], [] => True
  | t :: ts, τ :: τs, a :: aas => argR P E t τ a ∧ argsR P E ts τs aas
  | _, _, _ => False
def rtsOf (P : Program) (N : List TypeId) (k : Nat) : List TypeId → Option (List RT)
  | [] => some []
  | t :: ts => (rtOf P N k t).bind fun a => (rtsOf P N k ts).bind fun l => some (a :: l)
section
variable {H : Type} {enc : TypeId × Value → H} {P : Program} {w : World} {base : Nat} {spare : Nat → Bool} {held : Bool}
theorem arg_rt {N : List TypeId} {K : Nat} (hN : rtOk P N K = true) {k : Nat} {t : TypeId} {τ : RT} {v : Value} {d : DataW H} {ps : List MemPlace} {b0 : Nat} (hw : (d.weights P t).all (· ≤ reachBytes) = true) (h : rtOf P N k t = some τ) (hok : Value.okWide P w .any b0 t v) (hx : DataW.Trod enc P w base spare held t v d ps) :
    ∃ a, FV (fun b => b < w.heap.size) w a v ∧ argR P (rtE P N K) t τ a := by
  obtain ⟨fuel, hx⟩ := hx
  obtain ⟨aas, h1, h2, h3⟩ := reads_rt hN _ k fuel t τ _ _ (Nat.lt_succ_self _) hw h hx
  unfold argR
  have agg : ∀ cs : Array Value, v = .agg cs → FV (fun b => b < w.heap.size) w (.agg aas) v := by
    intro cs e
    subst e
    simp only [Value.cells] at h1
    exact .agg _ _ (by simpa using h1.1) fun i a v ha hv => h1.2 i a v ha (by rwa [Array.getElem?_toList])
  have one : v.cells.toList = [v] → RSh (rtE P N K) τ aas → ∃ a, FV (fun b => b < w.heap.size) w a v ∧ RSh (rtE P N K) τ [a] := by
    intro e hs
    rw [e] at h1
    have hl := h1.1
    match aas, hl, h1, hs with
    | [a], _, h1, hs => exact ⟨a, h1.2 0 a v rfl rfl, hs⟩
  cases k with
  | zero => cases h
  | succ k =>
    simp only [rtOf] at h
    split at h
    · rename_i q hu
      rw [hu]
      obtain ⟨n, rfl⟩ := okWide_int hu hok
      exact one rfl h2
    · rename_i hu
      rw [hu]
      obtain ⟨n, rfl⟩ := okWide_bool hu hok
      exact one rfl h2
    · rename_i hu
      rw [hu]
      obtain ⟨n, rfl⟩ := okWide_string hu hok
      exact one rfl h2
    · rename_i e hu
      rw [hu]
      obtain ⟨_, _, _, rfl⟩ := okWide_slice hu hok
      exact one rfl h2
    · rename_i fs hu
      rw [hu]
      obtain ⟨cs, rfl, _⟩ := okWide_struct hu hok
      exact ⟨.agg aas, agg cs rfl, aas, rfl, h2⟩
    · rename_i m e hu
      rw [hu]
      simp only [Value.okWide, hu] at hok
      obtain ⟨cs, rfl, _⟩ := hok
      exact ⟨.agg aas, agg cs rfl, aas, rfl, h2⟩
    · cases h
theorem args_rt {N : List TypeId} {K : Nat} (hN : rtOk P N K = true) {W : World} {k b0 : Nat} : ∀ {ts : List TypeId} {vs : List Value} {ds : List (DataW H)} {ps : List MemPlace} {τs : List RT}, rtsOf P N k ts = some τs → (∀ (j : Nat) t d, ts[j]? = some t → ds[j]? = some d → (d.weights P t).all (· ≤ reachBytes) = true) →
    (∀ (j : Nat) t v, ts[j]? = some t → vs[j]? = some v → Value.okWide P W .any b0 t v) → DataW.TrodAll enc P W 0 (fun _ => true) true ts vs ds ps →
    ∃ aas, FVs (fun b => b < W.heap.size) W aas vs ∧ argsR P (rtE P N K) ts τs aas
  | [], [], [], ps, τs, hτ, hwt, hok, h => by
    simp only [rtsOf, sI] at hτ; subst hτ
    exact ⟨[], ⟨rfl, by simp⟩, trivial⟩
  | t :: ts, v :: vs, d :: ds, ps, τs, hτ, hwt, hok, ⟨p, q, h1, h2, _⟩ => by
    simp only [rtsOf] at hτ
    obtain ⟨τ, h3, hτ⟩ := bO.1 hτ
    obtain ⟨l, h4, hτ⟩ := bO.1 hτ
    simp only [sI] at hτ; subst hτ
    obtain ⟨a, k1, k2⟩ := arg_rt hN (hwt 0 t d rfl rfl) h3 (hok 0 t v rfl rfl) h1
    obtain ⟨aas, m1, m2⟩ := args_rt hN h4 (fun j t d ht hd => hwt (j + 1) t d ht hd) (fun j t v ht hv => hok (j + 1) t v ht hv) h2
    exact ⟨a :: aas, (FVs.one k1).append' m1, k2, m2⟩
  | [], _ :: _, _, _, _, _, _, _, h => h.elim
  | [], [], _ :: _, _, _, _, _, _, h => h.elim
  | _ :: _, [], _, _, _, _, _, _, h => h.elim
  | _ :: _, _ :: _, [], _, _, _, _, _, h => h.elim
theorem law_rowR {T : FuncId → Option F} {ov : Ov} {mt : MtF} {md : FuncId → Md} (L : Linked P T ov mt) {f : FuncId} {FF : F} (hT : T f = some FF) {fn : Func} {s : ChangeSpec} {ts : List TypeId} {τs : List RT} {N : List TypeId} {k0 : Nat} {b : TypeId}
    (hlaid : laidOutB P = true) (hts : fn.params.toList = ts) (hN : rtOk P N k0 = true) (hτ : rtsOf P N k0 ts = some τs) (hr : ∀ t ∈ ts, P.readableRec t = true ∧ t < P.types.size) (hres : fn.resultTypes = #[b]) (hb : P.underlying b = some .bool)
    (hvars : s.vars = []) (hspec : ∀ ds : List (DataW H), ds.length = ts.length → s.fn H ds = { results := [.lit (.bool true)], args := ds })
    (law : ∀ aas, argsR P (rtE P N k0) ts τs aas → ∃ k H', call T ov mt md k f aas [] = some (.ret (litB true), H'))
    (W : World) (base : Nat) (args : Array Value) (ds gs : List (DataW H)) (before : List MemPlace)
    (hval : ∀ (j : Nat) t v, fn.params[j]? = some t → args[j]? = some v → Value.okWide P W .any base t v)
    (hW : DataW.Whole enc P fn.params.toList s.vars false W args.toList ds gs before) (hwt : (DataW.weightsEach P (fn.params.toList ++ s.plain.varTypes P) (ds ++ gs)).all (· ≤ reachBytes) = true) :
    Calls P f args W fun e W' => ∃ v, e = .returned v ∧ s.post enc P fn false true false false W args v W' := by
  have hW' := hW
  obtain ⟨p, q, hA, hV, rfl, hfz, hnd⟩ := hW
  rw [hvars] at hV
  obtain ⟨rfl, rfl⟩ := trodVars_none hV
  rw [hts] at hA
  obtain ⟨aas, k1, k2⟩ := args_rt hN hτ (fun j t d ht hd => by
    rw [List.all_eq_true] at hwt ⊢
    exact fun q hq => hwt q (DataW.weights_mem_each (j := j) (by rw [List.getElem?_append_left (by rw [hts]; exact (List.getElem?_eq_some_iff.1 ht).1), hts]; exact ht) (by rw [List.append_nil]; exact hd) q hq)) (fun j t v ht hv => hval j t v (by rw [← Array.getElem?_toList, hts]; exact ht) (by rw [← Array.getElem?_toList]; exact hv)) hA
  obtain ⟨k, H', hc⟩ := law aas k2
  refine (law_calls L hT hc k1).mono fun e W' ⟨he, bel⟩ => ?_
  subst he
  have hsp := hspec ds (trodAll_len hA)
  refine ⟨_, rfl, ds, [], _, [], p, [], hW', ?_, ?_, ?_, bel.frame _, fun h => by cases h⟩
  · rw [List.append_nil, hsp, hres]
    exact trodAll_mk1 (shut_bool hb _)
  · rw [List.append_nil, hsp, hts]
    exact trodAll_back hlaid bel hr hA
  · rw [List.append_nil, hsp, hvars]
    rfl
end
end Go.Ai
