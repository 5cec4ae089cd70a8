/- Seat of layer 11: expressions as trees; which are few; which tell something. No condition. -/
import Derived.Test.YtkogkfpiijmbgaaG5
set_option linter.unusedSimpArgs false
set_option linter.unusedVariables false
set_option linter.unusedSectionVars false
namespace Go.Proofs.Ytkogkfpiijmbgaa.Ai
open Go Go.Ai
inductive Tr where
  | mk (k : Int) (n : ByteArray) (z : Nat) (c : Option Nat) (ts : List Tr) (p : Int)
theorem Tr.ind {P : Tr → Prop} (h : ∀ k n z c ts p, (∀ a ∈ ts, P a) → P (.mk k n z c ts p)) (t : Tr) : P t :=
  Tr.rec (motive_1 := P) (motive_2 := fun ts => ∀ a ∈ ts, P a) (fun k n z c ts p ih => h k n z c ts p ih) (fun a ha => by cases ha) (fun a r ha hr x hx => by
    rcases List.mem_cons.1 hx with rfl | hx
    · exact ha
    · exact hr x hx) t
def Tr.k : Tr → Int | .mk k _ _ _ _ _ => k
def Tr.n : Tr → ByteArray | .mk _ n _ _ _ _ => n
def Tr.z : Tr → Nat | .mk _ _ z _ _ _ => z
def Tr.c : Tr → Option Nat | .mk _ _ _ c _ _ => c
def Tr.ts : Tr → List Tr | .mk _ _ _ _ ts _ => ts
def Tr.p : Tr → Int | .mk _ _ _ _ _ p => p
def eZ (z : Nat) : List Tr → Nat
  | [] => z
  | _ :: _ => 4
mutual
def Tr.cells : Tr → List AV
  | .mk k n z c ts p => [litI .i64 k, litS n, .sl (eZ z ts) (cellsL ts) c, litI .i64 p]
def cellsL : List Tr → List (List AV)
  | [] => []
  | a :: r => a.cells :: cellsL r
end
theorem cellsL_map : ∀ ts : List Tr, cellsL ts = ts.map Tr.cells
  | [] => rfl
  | a :: r => by rw [cellsL, cellsL_map r]; rfl
def argsA (z : Nat) (c : Option Nat) (ts : List Tr) : AV := .sl (eZ z ts) (ts.map Tr.cells) c
theorem cells_mk (t : Tr) : t.cells = [litI .i64 t.k, litS t.n, argsA t.z t.c t.ts, litI .i64 t.p] := by
  obtain ⟨k, n, z, c, ts, p⟩ := t
  rw [Tr.cells, cellsL_map]; rfl
theorem cells_len (t : Tr) : t.cells.length = 4 := by rw [cells_mk]; rfl
theorem cells_cell (t : Tr) : t.cells.all cellA = true := by rw [cells_mk]; rfl
theorem whole_cells (t : Tr) : wholeA (.agg t.cells) = true := by rw [cells_mk]; rfl
theorem lenV_args (z : Nat) (c : Option Nat) (ts : List Tr) : lenV (argsA z c ts) = some (litI .i64 ts.length) := by
  unfold argsA; rw [lenV_sl, List.length_map]
theorem iadr_args {z : Nat} {c : Option Nat} {ts : List Tr} {i : Nat} {t : Tr} (h : ts[i]? = some t) {k : IntKind} : iadr 4 (argsA z c ts) (litI k i) = some (.ip t.cells) := by
  unfold argsA
  have : eZ z ts = 4 := by cases ts with | nil => cases h | cons => rfl
  rw [this, iadr_sl, if_pos (Int.natCast_nonneg i), Int.toNat_natCast, List.getElem?_map, h]
  rfl
theorem fadr_cells1 (t : Tr) : fadr 1 (.ip t.cells) = some (.ip [litS t.n, argsA t.z t.c t.ts, litI .i64 t.p]) := by rw [cells_mk]; rfl
theorem fadr_cells2 (t : Tr) : fadr 2 (.ip t.cells) = some (.ip [argsA t.z t.c t.ts, litI .i64 t.p]) := by rw [cells_mk]; rfl
theorem fadr_cells3 (t : Tr) : fadr 3 (.ip t.cells) = some (.ip [litI .i64 t.p]) := by rw [cells_mk]; rfl
mutual
def fewT : Tr → Int → Int
  | .mk _ _ _ _ ts _, m => fewL ts (m - 1)
def fewL : List Tr → Int → Int
  | [], m => m
  | a :: r, m => if m < 0 then m else if 400 < (a.n.size : Int) then -1 else fewL r (fewT a m)
end
theorem fewT_eq (a : Tr) (m : Int) : fewT a m = fewL a.ts (m - 1) := by cases a; rfl
theorem few_lo : ∀ (ts : List Tr), (∀ a ∈ ts, ∀ m : Int, -1 ≤ m → m ≤ 400 → -1 ≤ fewL a.ts m ∧ fewL a.ts m ≤ m) → ∀ m : Int, -1 ≤ m → m ≤ 400 → -1 ≤ fewL ts m ∧ fewL ts m ≤ m
  | [], _, m, h1, h2 => ⟨h1, Int.le_refl _⟩
  | a :: r, h, m, h1, h2 => by
    rw [fewL]
    split
    · omega
    · split
      · omega
      · have := h a (List.mem_cons_self ..) (m - 1) (by omega) (by omega)
        rw [fewT_eq]
        have := few_lo r (fun b hb => h b (List.mem_cons_of_mem _ hb)) (fewL a.ts (m - 1)) (by omega) (by omega)
        omega
theorem few_rng : ∀ t : Tr, ∀ m : Int, -1 ≤ m → m ≤ 400 → -1 ≤ fewL t.ts m ∧ fewL t.ts m ≤ m :=
  Tr.ind fun k n z c ts p ih => few_lo ts ih
def fewFr (z : Nat) (c : Option Nat) (ts : List Tr) (m : Int) (i : Int) : Fr := [(0, argsA z c ts), (1, litI .i64 m), (5, litI .i64 i)]
theorem few_loop (z : Nat) (c : Option Nat) (ts : List Tr) (ih : ∀ a ∈ ts, ∀ m : Int, -1 ≤ m → m ≤ 400 → cw0 11 [argsA a.z a.c a.ts, litI .i64 m] [] = some (.ret (litI .i64 (fewL a.ts m)), [])):
    ∀ (r : List Tr) (i : Nat) (m : Int), ts.drop i = r → i ≤ ts.length → -1 ≤ m → m + i ≤ 400 →
      (∃ i', loopW (codeW cw0 (lookM mtl) mds c11l0) [0, 1, 5] (fewFr z c ts m i) [] = some (.exit 0, [(0, argsA z c ts), (1, litI .i64 (fewL r m)), (5, i'), (13, litB false)], [])) ∨
      (fewL r m = -1 ∧ loopW (codeW cw0 (lookM mtl) mds c11l0) [0, 1, 5] (fewFr z c ts m i) [] = some (.ret, [(4, litI .i64 (-1))], []))
  | [], i, m, hd, hi, h1, h2 => by
    have hn : ts.length ≤ i := by
      have := congrArg List.length hd
      rw [List.length_drop, List.length_nil] at this; omega
    left
    refine ⟨litI .i64 i, ?_⟩
    rw [fewL]
    refine loopW_out ?_ (by simp)
    simp -implicitDefEqProofs only [c11l0, fewFr, aW, ↓aP, makes, Nat.reduceLT, Nat.reduceEqDiff, Nat.reduceAdd, ↓reduceIte, Nat.reduceBEq, lenV_args, show ¬ ((i : Int) < ts.length) by omega]
  | a :: r, i, m, hd, hi, h1, h2 => by
    have hlt : i < ts.length := by
      have := congrArg List.length hd
      rw [List.length_drop, List.length_cons] at this; omega
    have hg : ts[i]? = some a := by
      have := congrArg List.head? hd
      rwa [List.head?_drop] at this
    have hlti : (i : Int) < ts.length := by omega
    rw [fewL]
    by_cases hm : m < 0
    · left
      refine ⟨litI .i64 i, ?_⟩
      rw [if_pos hm]
      refine loopW_out ?_ (by simp)
      simp -implicitDefEqProofs only [c11l0, fewFr, aW, ↓aP, makes, Nat.reduceLT, Nat.reduceEqDiff, Nat.reduceAdd, ↓reduceIte, Nat.reduceBEq, lenV_args, hlti, show ¬ ((0 : Int) ≤ m) by omega]
    · rw [if_neg hm]
      by_cases hs : 400 < (a.n.size : Int)
      · right
        rw [if_pos hs]
        refine ⟨rfl, ?_⟩
        refine loopW_out ?_ (by simp)
        simp -implicitDefEqProofs only [c11l0, fewFr, aW, ↓aP, makes, Nat.reduceLT, Nat.reduceEqDiff, Nat.reduceAdd, ↓reduceIte, Nat.reduceBEq, lenV_args, hlti, show (0 : Int) ≤ m by omega, iadr_args hg, fadr_cells1, lenS_str, hs]
      · rw [if_neg hs]
        have hc : ∀ id, callV cw0 mds 11 [argsA a.z a.c a.ts, litI .i64 (m - 1)] [] id = some (.val (litI .i64 (fewL a.ts (m - 1))) none) := fun id => callV_pure rfl rfl (ih a (List.mem_of_getElem? hg) (m - 1) (by omega) (by omega)) rfl
        have hr := few_rng a (m - 1) (by omega) (by omega)
        rw [fewT_eq]
        have step : codeW cw0 (lookM mtl) mds c11l0 (keep [0, 1, 5] (fewFr z c ts m i)) [] = some (.normal, fewFr z c ts (fewL a.ts (m - 1)) ((i + 1 : Nat) : Int), []) := by
          simp -implicitDefEqProofs only [c11l0, fewFr, aW, ↓aP, makes, Nat.reduceLT, Nat.reduceEqDiff, Nat.reduceAdd, ↓reduceIte, Nat.reduceBEq, lenV_args, hlti, show (0 : Int) ≤ m by omega, iadr_args hg, fadr_cells1, fadr_cells2, lenS_str, hs, hc, Go.Ai.wrap_small (show -9223372036854775808 ≤ m - 1 by omega) (by omega), Go.Ai.wrap_small (show -9223372036854775808 ≤ (i : Int) + 1 by omega) (by omega)]
          rfl
        rcases few_loop z c ts ih r (i + 1) (fewL a.ts (m - 1)) (by rw [← List.drop_drop, hd]; rfl) (by omega) (by omega) (by omega) with ⟨i', h⟩ | ⟨e, h⟩
        · exact .inl ⟨i', loopW_round step h⟩
        · exact .inr ⟨e, loopW_round step h⟩
theorem few_row (z : Nat) (c : Option Nat) (ts : List Tr) (ih : ∀ a ∈ ts, ∀ m : Int, -1 ≤ m → m ≤ 400 → cw0 11 [argsA a.z a.c a.ts, litI .i64 m] [] = some (.ret (litI .i64 (fewL a.ts m)), [])) (m : Int) (h1 : -1 ≤ m) (h2 : m ≤ 400) :
    cw0 11 [argsA z c ts, litI .i64 m] [] = some (.ret (litI .i64 (fewL ts m)), []) := by
  refine cw0_of fn11 (c := c11) rfl rfl rfl rfl ?_
  rcases few_loop z c ts ih ts 0 m rfl (by omega) h1 (by omega) with ⟨i', L⟩ | ⟨e, L⟩
  · unfold fewFr at L
    rw [show ((0 : Nat) : Int) = 0 from rfl] at L
    simp -implicitDefEqProofs only [c11, aW, ↓aP, makes, Nat.reduceLT, Nat.reduceEqDiff, Nat.reduceAdd, ↓reduceIte, Nat.reduceBEq, L]
    rfl
  · unfold fewFr at L
    rw [show ((0 : Nat) : Int) = 0 from rfl] at L
    rw [e]
    simp -implicitDefEqProofs only [c11, aW, ↓aP, makes, Nat.reduceLT, Nat.reduceEqDiff, Nat.reduceAdd, ↓reduceIte, Nat.reduceBEq, L]
    rfl
theorem few_tr : ∀ t : Tr, ∀ m : Int, -1 ≤ m → m ≤ 400 → cw0 11 [argsA t.z t.c t.ts, litI .i64 m] [] = some (.ret (litI .i64 (fewL t.ts m)), []) :=
  Tr.ind fun k n z c ts p ih m h1 h2 => few_row z c ts ih m h1 h2
theorem cells_agg4 (t : Tr) (id : Nat) (ty : TypeId) : boxV id 4 (.agg t.cells) ty = some (.val (.ptr id 0) (some (.row t.cells ty))) := boxV_agg (cells_len t) (cells_cell t)
theorem fill_one (t : Tr) (x : List AV) (hx : x.length = 4) : fill x [(0, 4, .agg t.cells)] = some t.cells := by
  simp only [fill, cellsOf, cells_len, cells_cell, beq_self_eq_true, Bool.and_self, Nat.zero_add, hx, Nat.ble_eq_true_of_le (Nat.le_refl 4), cond_true, List.take_zero, List.nil_append]
  rw [← hx, List.drop_length, List.append_nil]
def few (t : Tr) : Bool := decide (0 ≤ fewL [t] 400)
theorem few6_tells (t : Tr) : ∃ H', cw0 6 [.agg t.cells] [] = some (.ret (litB (few t)), H') := by
  refine ⟨[.row t.cells 24], cw0_of fn6 (c := c6) rfl rfl rfl rfl ?_⟩
  have hb : ∀ (H : List AO) (id : Nat) (fr : Fr) (x : X), ev fr x = .agg t.cells → core cw0 (lookM mtl) mds H id (.bslice false 4 1 [litI .i64 0, litS (bs []), .sl 0 [] (some 0), litI .i64 0] [(0, x)] 24) fr = some (.val (argsA 0 (some 1) [t]) none) := by
    intro H id fr x hx
    have hf : mapL (frz H frzF) t.cells = some (t.cells, []) := by rw [cells_mk]; rfl
    simp only [core, List.map_cons, List.map_nil, hx, Nat.zero_mul, reps]
    rw [show fill ([litI .i64 0, litS (bs []), AV.sl 0 [] (some 0), litI .i64 0] ++ []) [(0, 4, .agg t.cells)] = some t.cells from fill_one t _ rfl]
    simp only [Option.bind_some, cond_false, hf, List.isEmpty_nil, cond_true]
    show _ = some (Out.val (.sl 4 [t.cells] (some 1)) none)
    rw [cells_mk]; rfl
  have hc : ∀ H id, callV cw0 mds 11 [argsA 0 (some 1) [t], litI .i64 400] H id = some (.val (litI .i64 (fewL [t] 400)) none) := fun H id => callV_pure rfl rfl (few_row 0 (some 1) [t] (fun a ha => by
    rw [List.mem_singleton.1 ha]; exact few_tr t) 400 (by omega) (by omega)) rfl
  have hl : Ai.load [.row t.cells 24] (some 4) (.ptr 0 0) = some (.agg t.cells) := load_agg rfl (cells_len t)
  unfold few
  simp -implicitDefEqProofs only [c6, aW, ↓aP, makes, Nat.reduceLT, Nat.reduceEqDiff, Nat.reduceAdd, ↓reduceIte, Nat.reduceBEq, core_box, cells_agg4, List.length_nil, hl, hb, hc]
  rfl
end Go.Proofs.Ytkogkfpiijmbgaa.Ai
namespace Go.Ai
open Go.ChangeShapes Go.WideShapes Go.ChangeAt Go.RowKit Go.Deep
inductive RT where
  | int (k : IntKind)
  | bool
  | str
  | sl (e : RT)
  | unit
  | cons (a b : RT)
  | ref (t : TypeId) (n : Nat)
def RT.n : RT → Nat
  | .int _ | .bool | .str | .sl _ => 1
  | .unit => 0
  | .cons a b => a.n + b.n
  | .ref _ n => n
inductive RSh (E : TypeId → Option RT) : RT → List AV → Prop
  | int (k : IntKind) (n : Int) (h : (Lit.int k n).wf = true) : RSh E (.int k) [litI k n]
  | bool (b : Bool) : RSh E .bool [litB b]
  | str (s : ByteArray) (h : s.size ≤ maxLen) : RSh E .str [litS s]
  | sl (e : RT) (xs : List (List AV)) (h : ∀ x ∈ xs, RSh E e x) : RSh E (.sl e) [.sl e.n xs none]
  | unit : RSh E .unit []
  | cons (a b : RT) (x y : List AV) (hx : RSh E a x) (hy : RSh E b y) : RSh E (.cons a b) (x ++ y)
  | ref (t : TypeId) (n : Nat) (τ : RT) (x : List AV) (h : E t = some τ) (hn : τ.n = n) (hx : RSh E τ x) : RSh E (.ref t n) x
theorem RSh.len {E : TypeId → Option RT} {τ : RT} {aas : List AV} (h : RSh E τ aas) : aas.length = τ.n := by
  induction h with
  | int | bool | str | unit => rfl
  | sl => rfl
  | cons a b x y _ _ h1 h2 => rw [List.length_append, h1, h2]; rfl
  | ref t n τ x _ hn _ h1 => rw [h1, hn]; rfl
def RT.rep (a : RT) : Nat → RT
  | 0 => .unit
  | n + 1 => .cons a (RT.rep a n)
def rtFs (g : TypeId → Option RT) (P : Program) : Nat → List Field → Option RT
  | _, [] => some .unit
  | off, f :: r => (g f.type).bind fun a => if f.offset = off ∧ a.n = P.cellsOf f.type then (rtFs g P (off + a.n) r).bind fun b => some (.cons a b) else none
def rtOf (P : Program) (N : List TypeId) : Nat → TypeId → Option RT
  | 0, _ => none
  | k + 1, t =>
    let sub : TypeId → Option RT := fun e => if N.contains e = true then some (.ref e (P.cellsOf e)) else rtOf P N k e
    match P.underlying t with
    | some (.int q) => some (.int q)
    | some .bool => some .bool
    | some .string => some .str
    | some (.slice e) => (sub e).bind fun a => if a.n = P.cellsOf e then some (.sl a) else none
    | some (.struct fs) => (rtFs sub P 0 fs.toList).bind fun a => if a.n = P.cellsOf t then some a else none
    | some (.array n e) => (sub e).bind fun a => if a.n = P.cellsOf e ∧ n * a.n = P.cellsOf t then some (RT.rep a n) else none
    | _ => none
def rtE (P : Program) (N : List TypeId) (k : Nat) (t : TypeId) : Option RT := if N.contains t = true then rtOf P N k t else none
def rtOk (P : Program) (N : List TypeId) (k : Nat) : Bool := N.all fun t => match rtOf P N k t with
  | some τ => τ.n == P.cellsOf t
  | none => false
section
variable {H : Type} {enc : TypeId × Value → H} {P : Program} {w : World} {base : Nat} {spare : Nat → Bool} {held : Bool}
def ReadsR (E : TypeId → Option RT) (w : World) (τ : RT) (cs : List Value) : Prop := ∃ aas, FVs (fun b => b < w.heap.size) w aas cs ∧ RSh E τ aas ∧ ∀ v ∈ cs, v.oneCell' = true
theorem readsR_fs {E : TypeId → Option RT} {g : TypeId → Option RT} {n : Nat} : ∀ (fs : List Field) (off : Nat) (τ : RT) (cs : List Value), rtFs g P off fs = some τ → off + τ.n ≤ cs.length →
    (∀ f ∈ fs, ∃ x, DataW.trod enc P w base spare held n f.type ((cs.drop f.offset).take (P.cellsOf f.type)) = some x ∧ ∀ τ cs', g f.type = some τ → DataW.trod enc P w base spare held n f.type cs' = some x → ReadsR E w τ cs') →
      ReadsR E w τ ((cs.drop off).take τ.n)
  | [], off, τ, cs, h, hl, hx => by
    simp only [rtFs, Option.some.injEq] at h; subst h
    exact ⟨[], by simp [RT.n, FVs], .unit, by simp [RT.n]⟩
  | f :: r, off, τ, cs, h, hl, hx => by
    simp only [rtFs] at h
    obtain ⟨a, ha, h⟩ := Option.bind_eq_some_iff.1 h
    by_cases hc : f.offset = off ∧ a.n = P.cellsOf f.type
    case neg => rw [if_neg hc] at h; cases h
    rw [if_pos hc] at h
    obtain ⟨b, hb, h⟩ := Option.bind_eq_some_iff.1 h
    simp only [Option.some.injEq] at h; subst h
    simp only [RT.n] at hl ⊢
    obtain ⟨x, hx1, ih⟩ := hx f (List.mem_cons_self ..)
    obtain ⟨aas, k1, k2, k3⟩ := ih _ _ ha hx1
    obtain ⟨bs, m1, m2, m3⟩ := readsR_fs r (off + a.n) b cs hb (by omega) fun f hf => hx f (List.mem_cons_of_mem _ hf)
    rw [hc.1, ← hc.2] at k1 k3
    have e : (cs.drop off).take (a.n + b.n) = (cs.drop off).take a.n ++ (cs.drop (off + a.n)).take b.n := by
      rw [List.take_add, List.drop_drop]
    rw [e]
    refine ⟨aas ++ bs, k1.append' m1, .cons _ _ _ _ k2 m2, fun v hv => ?_⟩
    rcases List.mem_append.1 hv with hv | hv
    · exact k3 v hv
    · exact m3 v hv
theorem readsR_rep {E : TypeId → Option RT} {n : Nat} {a : RT} {e : TypeId} (ha : a.n = P.cellsOf e) :
    ∀ (m j : Nat) (cs : List Value), (∀ i, i < m → ReadsR E w a ((cs.drop ((j + i) * P.cellsOf e)).take (P.cellsOf e))) →
      ReadsR E w (RT.rep a m) ((cs.drop (j * P.cellsOf e)).take (m * a.n))
  | 0, j, cs, h => ⟨[], by simp [FVs], .unit, by simp⟩
  | m + 1, j, cs, h => by
    obtain ⟨aas, k1, k2, k3⟩ := h 0 (by omega)
    obtain ⟨bs, m1, m2, m3⟩ := readsR_rep (n := n) ha m (j + 1) cs fun i hi => by
      have := h (i + 1) (by omega)
      rwa [show j + (i + 1) = j + 1 + i by omega] at this
    rw [Nat.add_zero, ← ha] at k1 k3
    rw [← ha] at m1 m3 ⊢
    have e' : (cs.drop (j * a.n)).take ((m + 1) * a.n) = (cs.drop (j * a.n)).take a.n ++ (cs.drop ((j + 1) * a.n)).take (m * a.n) := by
      rw [show (m + 1) * a.n = a.n + m * a.n by rw [Nat.add_mul]; omega, List.take_add, List.drop_drop, show j * a.n + a.n = (j + 1) * a.n by rw [Nat.add_mul]; omega]
    rw [e']
    refine ⟨aas ++ bs, k1.append' m1, .cons _ _ _ _ k2 m2, fun v hv => ?_⟩
    rcases List.mem_append.1 hv with hv | hv
    · exact k3 v hv
    · exact m3 v hv
theorem size_map_lt {α : Type} {l : List α} {F : α → DataW H} {a : α} (h : a ∈ l) : SizeOf.sizeOf (F a) < SizeOf.sizeOf (l.map F) := List.sizeOf_lt_of_mem (List.mem_map.2 ⟨a, h, rfl⟩)
theorem reads_rt {N : List TypeId} {K : Nat} (hN : rtOk P N K = true) : ∀ (z k fuel : Nat) (t : TypeId) (τ : RT) (cs : List Value) (x : DataW H × List MemPlace), SizeOf.sizeOf x.1 < z → rtOf P N k t = some τ → DataW.trod enc P w base spare held fuel t cs = some x → ReadsR (rtE P N K) w τ cs
  | 0, k, fuel, t, τ, cs, x, hz, h, hx => by omega
  | z + 1, 0, fuel, t, τ, cs, x, hz, h, hx => by cases h
  | z + 1, k + 1, fuel, t, τ, cs, x, hz, h, hx => by
    have sub : ∀ (n : Nat) (e : TypeId) (a : RT) (cs' : List Value) (y : DataW H × List MemPlace), SizeOf.sizeOf y.1 < z → (if N.contains e = true then some (RT.ref e (P.cellsOf e)) else rtOf P N k e) = some a → DataW.trod enc P w base spare held n e cs' = some y → ReadsR (rtE P N K) w a cs' := by
      intro n e a cs' y hy ha hd
      by_cases hc : N.contains e = true
      · rw [if_pos hc] at ha
        simp only [Option.some.injEq] at ha; subst ha
        have hk := hN
        unfold rtOk at hk
        rw [List.all_eq_true] at hk
        have := hk e (by simpa using hc)
        split at this
        · rename_i τ hτ
          have hn : τ.n = P.cellsOf e := by simpa using this
          obtain ⟨aas, k1, k2, k3⟩ := reads_rt hN z K n e τ cs' y hy hτ hd
          exact ⟨aas, k1, .ref _ _ τ _ (by unfold rtE; rw [if_pos hc]; exact hτ) hn k2, k3⟩
        · cases this
      · rw [if_neg hc] at ha
        exact reads_rt hN z k n e a cs' y hy ha hd
    simp only [rtOf] at h
    split at h
    · rename_i q hu
      simp only [Option.some.injEq] at h; subst h
      obtain ⟨n, rfl, _, hw⟩ := DataW.trod_int hu hx
      exact ⟨[litI q n], .one (.lit _), .int q n hw, by simp [Value.oneCell']⟩
    · rename_i hu
      simp only [Option.some.injEq] at h; subst h
      obtain ⟨b, rfl, _⟩ := DataW.trod_bool hu hx
      exact ⟨[litB b], .one (.lit _), .bool b, by simp [Value.oneCell']⟩
    · rename_i hu
      simp only [Option.some.injEq] at h; subst h
      obtain ⟨s, rfl, _, hs⟩ := DataW.trod_string hu hx
      exact ⟨[litS s], .one (.lit _), .str s hs, by simp [Value.oneCell']⟩
    · rename_i e hu
      obtain ⟨a, ha, h⟩ := Option.bind_eq_some_iff.1 h
      by_cases hc : a.n = P.cellsOf e
      case neg => rw [if_neg hc] at h; cases h
      rw [if_pos hc] at h
      simp only [Option.some.injEq] at h; subst h
      rcases open_slice hu hx with ⟨rfl, _⟩ | ⟨ad, len, cap, m, n, D, Pl, rfl, _, hle, _, hm, rfl, hel⟩
      · exact ⟨[.sl a.n [] none], .one (.sl _ _ _ none 0 (fun _ _ => undef) (Nat.le_refl _) (by simp) (by simp) (by simp) (by simp) (by simp)), .sl a [] (by simp), by simp [Value.oneCell']⟩
      · have hlm : len ≤ m := by rw [hm]; split <;> omega
        have hsz : ∀ i, i < len → SizeOf.sizeOf (D i) < z := by
          intro i hi
          have h1 := size_map_lt (F := D) (List.mem_range.2 hi)
          simp only [DataW.slice.sizeOf_spec] at hz
          omega
        have hch : ∀ i, i < len → ∃ p : List AV × List Value, (w.cells? base (ad.add (i * P.cellsOf e)) (P.cellsOf e) = some p.2 ∧ FVs (fun b => b < w.heap.size) w p.1 p.2 ∧ RSh (rtE P N K) a p.1 ∧ ∀ v ∈ p.2, v.oneCell' = true) := by
          intro i hi
          obtain ⟨cs', h1, h2⟩ := hel i (by omega)
          obtain ⟨aas, k1, k2, k3⟩ := sub n e a cs' _ (hsz i hi) ha h2
          exact ⟨(aas, cs'), h1, k1, k2, k3⟩
        obtain ⟨F, hF⟩ := choose_lt (α := List AV × List Value) hch
        have hlen : ∀ i, i < len → (F i).1.length = a.n ∧ (F i).2.length = a.n := by
          intro i hi
          obtain ⟨h1, h2, h3, _⟩ := hF i hi
          have := h2.1
          exact ⟨h3.len, by rw [← this]; exact h3.len⟩
        have get : ∀ (j : Nat) (x : List AV), ((List.range len).map fun i => (F i).1)[j]? = some x → j < len ∧ x = (F j).1 := by
          intro j x hj
          rw [List.getElem?_map] at hj
          by_cases hjl : j < len
          · rw [List.getElem?_range hjl] at hj
            simp only [Option.map_some, Option.some.injEq] at hj
            exact ⟨hjl, hj.symm⟩
          · rw [List.getElem?_eq_none (by simpa using hjl)] at hj; cases hj
        have val : ∀ j k, j < len → k < a.n → w.cell? (ad.add (j * a.n + k)) = some ((F j).2.getD k undef) ∧ (F j).2[k]? = some ((F j).2.getD k undef) := by
          intro j k hj hk
          obtain ⟨h1, h2, h3, h4⟩ := hF j hj
          obtain ⟨_, _, h5⟩ := World.cells?_some h1
          have h6 := h5 k (by rw [← hc]; exact hk)
          have h7 : (F j).2[k]? = some ((F j).2.getD k undef) := by
            rw [List.getD_eq_getElem?_getD, List.getElem?_eq_getElem (by rw [(hlen j hj).2]; exact hk)]; rfl
          rw [add_add, ← hc, h7] at h6
          exact ⟨h6, h7⟩
        refine ⟨[.sl a.n ((List.range len).map fun i => (F i).1) none], .one ?_, .sl a _ (fun x hx => ?_), by simp [Value.oneCell']⟩
        · have hl' : ((List.range len).map fun i => (F i).1).length = len := by simp
          have := FV.sl (S := fun b => b < w.heap.size) (w := w) a.n ((List.range len).map fun i => (F i).1) none (some ad) cap (fun j k => (F j).2.getD k undef) (by rw [hl']; exact hle) (by simp)
            (fun x hx => by
              obtain ⟨j, hj⟩ := List.getElem?_of_mem hx
              obtain ⟨h1, rfl⟩ := get j x hj
              exact (hlen j h1).1)
            (fun hne => ⟨ad, rfl, fun he => by
              have h0 : 0 < len := by
                cases hlz : len with
                | zero => rw [hlz] at hne; exact absurd rfl hne
                | succ q => omega
              have := (val 0 0 h0 he).1
              have := cell_lt this
              rwa [add_block] at this, fun j k hj hk => (val j k (by rw [hl'] at hj; exact hj) hk).1⟩)
            (fun j k hj hk => by
              rw [hl'] at hj
              exact (hF j hj).2.2.2 _ (List.mem_of_getElem? (val j k hj hk).2))
            (fun j x k b hj hb => by
              obtain ⟨h1, rfl⟩ := get j x hj
              have hk : k < a.n := by rw [← (hlen j h1).1]; exact (List.getElem?_eq_some_iff.1 hb).1
              exact (hF j h1).2.1.2 k b _ hb (val j k h1 hk).2)
          rw [hl'] at this
          exact this
        · obtain ⟨j, hj⟩ := List.getElem?_of_mem hx
          obtain ⟨h1, rfl⟩ := get j x hj
          exact (hF j h1).2.2.1
    · rename_i fs hu
      obtain ⟨a, ha, h⟩ := Option.bind_eq_some_iff.1 h
      by_cases hc : a.n = P.cellsOf t
      case neg => rw [if_neg hc] at h; cases h
      rw [if_pos hc] at h
      simp only [Option.some.injEq] at h; subst h
      obtain ⟨xs, n, _, rfl, hl, hxl, hel⟩ := DataW.trod_struct hu hx
      have := readsR_fs (E := rtE P N K) (n := n) (enc := enc) (base := base) (spare := spare) (held := held) (w := w) fs.toList 0 a cs ha (by omega) (fun f hf => by
        obtain ⟨i, hi⟩ := List.getElem?_of_mem hf
        have hi' : fs[i]? = some f := by rwa [Array.getElem?_toList] at hi
        have hlt := (Array.getElem?_eq_some_iff.1 hi').1
        have hsz : SizeOf.sizeOf (xs[i]'(by omega)).1 < z := by
          have h1 := size_map_lt (F := fun p : DataW H × List MemPlace => p.1) (List.getElem_mem (show i < xs.length by omega))
          simp only [DataW.agg.sizeOf_spec] at hz
          omega
        refine ⟨xs[i]'(by omega), ?_, fun τ cs' hτ hd => sub n f.type τ cs' _ hsz hτ hd⟩
        rw [hel i f hi', List.getElem?_eq_getElem (by omega)])
      rw [List.drop_zero, List.take_of_length_le (by omega)] at this
      exact this
    · rename_i m e hu
      obtain ⟨a, ha, h⟩ := Option.bind_eq_some_iff.1 h
      by_cases hc : a.n = P.cellsOf e ∧ m * a.n = P.cellsOf t
      case neg => rw [if_neg hc] at h; cases h
      rw [if_pos hc] at h
      simp only [Option.some.injEq] at h; subst h
      obtain ⟨xs, n, _, rfl, hl, hxl, hel⟩ := DataW.trod_array hu hx
      have := readsR_rep (E := rtE P N K) (n := n) (w := w) hc.1 m 0 cs (fun i hi => by
        have hsz : SizeOf.sizeOf (xs[i]'(by omega)).1 < z := by
          have h1 := size_map_lt (F := fun p : DataW H × List MemPlace => p.1) (List.getElem_mem (show i < xs.length by omega))
          simp only [DataW.agg.sizeOf_spec] at hz
          omega
        refine sub n e a _ _ hsz ha ?_
        rw [Nat.zero_add, hel i hi, List.getElem?_eq_getElem (by omega)])
      rw [Nat.zero_mul, List.drop_zero, List.take_of_length_le (by omega)] at this
      exact this
    · cases h
end
end Go.Ai
namespace Go.Ai
open Go.ChangeShapes Go.WideShapes Go.ChangeAt Go.RowKit Go.Deep
def argR (P : Program) (E : TypeId → Option RT) (t : TypeId) (τ : RT) (a : AV) : Prop :=
  match P.underlying t with
  | some (.struct _) | some (.array _ _) => ∃ aas, a = .agg aas ∧ RSh E τ aas
  | _ => RSh E τ [a]
def argsR (P : Program) (E : TypeId → Option RT) : List TypeId → List RT → List AV → Prop
  | [], [], [] => True
  | t :: ts, τ :: τs, a :: aas => argR P E t τ a ∧ argsR P E ts τs aas
  | _, _, _ => False
def rtsOf (P : Program) (N : List TypeId) (k : Nat) : List TypeId → Option (List RT)
  | [] => some []
  | t :: ts => (rtOf P N k t).bind fun a => (rtsOf P N k ts).bind fun l => some (a :: l)
section
variable {H : Type} {enc : TypeId × Value → H} {P : Program} {w : World} {base : Nat} {spare : Nat → Bool} {held : Bool}
theorem arg_rt {N : List TypeId} {K : Nat} (hN : rtOk P N K = true) {k : Nat} {t : TypeId} {τ : RT} {v : Value} {d : DataW H} {ps : List MemPlace} {b0 : Nat} (h : rtOf P N k t = some τ) (hok : Value.okWide P w .any b0 t v) (hx : DataW.Trod enc P w base spare held t v d ps) :
    ∃ a, FV (fun b => b < w.heap.size) w a v ∧ argR P (rtE P N K) t τ a := by
  obtain ⟨fuel, hx⟩ := hx
  obtain ⟨aas, h1, h2, h3⟩ := reads_rt hN _ k fuel t τ _ _ (Nat.lt_succ_self _) h hx
  unfold argR
  have agg : ∀ cs : Array Value, v = .agg cs → FV (fun b => b < w.heap.size) w (.agg aas) v := by
    intro cs e
    subst e
    simp only [Value.cells] at h1
    exact .agg _ _ (by simpa using h1.1) fun i a v ha hv => h1.2 i a v ha (by rwa [Array.getElem?_toList])
  have one : v.cells.toList = [v] → RSh (rtE P N K) τ aas → ∃ a, FV (fun b => b < w.heap.size) w a v ∧ RSh (rtE P N K) τ [a] := by
    intro e hs
    rw [e] at h1
    have hl := h1.1
    match aas, hl, h1, hs with
    | [a], _, h1, hs => exact ⟨a, h1.2 0 a v rfl rfl, hs⟩
  cases k with
  | zero => cases h
  | succ k =>
    simp only [rtOf] at h
    split at h
    · rename_i q hu
      rw [hu]
      obtain ⟨n, rfl⟩ := okWide_int hu hok
      exact one rfl h2
    · rename_i hu
      rw [hu]
      obtain ⟨n, rfl⟩ := okWide_bool hu hok
      exact one rfl h2
    · rename_i hu
      rw [hu]
      obtain ⟨n, rfl⟩ := okWide_string hu hok
      exact one rfl h2
    · rename_i e hu
      rw [hu]
      obtain ⟨_, _, _, rfl⟩ := okWide_slice hu hok
      exact one rfl h2
    · rename_i fs hu
      rw [hu]
      obtain ⟨cs, rfl, _⟩ := okWide_struct hu hok
      exact ⟨.agg aas, agg cs rfl, aas, rfl, h2⟩
    · rename_i m e hu
      rw [hu]
      simp only [Value.okWide, hu] at hok
      obtain ⟨cs, rfl, _⟩ := hok
      exact ⟨.agg aas, agg cs rfl, aas, rfl, h2⟩
    · cases h
theorem args_rt {N : List TypeId} {K : Nat} (hN : rtOk P N K = true) {W : World} {k b0 : Nat} : ∀ {ts : List TypeId} {vs : List Value} {ds : List (DataW H)} {ps : List MemPlace} {τs : List RT}, rtsOf P N k ts = some τs →
    (∀ (j : Nat) t v, ts[j]? = some t → vs[j]? = some v → Value.okWide P W .any b0 t v) → DataW.TrodAll enc P W 0 (fun _ => true) true ts vs ds ps →
    ∃ aas, FVs (fun b => b < W.heap.size) W aas vs ∧ argsR P (rtE P N K) ts τs aas
  | [], [], [], ps, τs, hτ, hok, h => by
    simp only [rtsOf, Option.some.injEq] at hτ; subst hτ
    exact ⟨[], ⟨rfl, by simp⟩, trivial⟩
  | t :: ts, v :: vs, d :: ds, ps, τs, hτ, hok, ⟨p, q, h1, h2, _⟩ => by
    simp only [rtsOf] at hτ
    obtain ⟨τ, h3, hτ⟩ := Option.bind_eq_some_iff.1 hτ
    obtain ⟨l, h4, hτ⟩ := Option.bind_eq_some_iff.1 hτ
    simp only [Option.some.injEq] at hτ; subst hτ
    obtain ⟨a, k1, k2⟩ := arg_rt hN h3 (hok 0 t v rfl rfl) h1
    obtain ⟨aas, m1, m2⟩ := args_rt hN h4 (fun j t v ht hv => hok (j + 1) t v ht hv) h2
    exact ⟨a :: aas, (FVs.one k1).append' m1, k2, m2⟩
  | [], _ :: _, _, _, _, _, _, h => h.elim
  | [], [], _ :: _, _, _, _, _, h => h.elim
  | _ :: _, [], _, _, _, _, _, h => h.elim
  | _ :: _, _ :: _, [], _, _, _, _, h => h.elim
theorem law_rowR {T : FuncId → Option F} {ov : Ov} {mt : MtF} {md : FuncId → Md} (L : Linked P T ov mt) {f : FuncId} {FF : F} (hT : T f = some FF) {fn : Func} {s : ChangeSpec} {ts : List TypeId} {τs : List RT} {N : List TypeId} {k0 : Nat} {b : TypeId}
    (hlaid : laidOutB P = true) (hts : fn.params.toList = ts) (hN : rtOk P N k0 = true) (hτ : rtsOf P N k0 ts = some τs) (hr : ∀ t ∈ ts, P.readableRec t = true ∧ t < P.types.size) (hres : fn.resultTypes = #[b]) (hb : P.underlying b = some .bool)
    (hvars : s.vars = []) (hspec : ∀ ds : List (DataW H), ds.length = ts.length → s.fn H ds = { results := [.lit (.bool true)], args := ds })
    (law : ∀ aas, argsR P (rtE P N k0) ts τs aas → ∃ k H', call T ov mt md k f aas [] = some (.ret (litB true), H'))
    (W : World) (base : Nat) (args : Array Value) (ds gs : List (DataW H)) (before : List MemPlace)
    (hval : ∀ (j : Nat) t v, fn.params[j]? = some t → args[j]? = some v → Value.okWide P W .any base t v)
    (hW : DataW.Whole enc P fn.params.toList s.vars false W args.toList ds gs before) :
    Calls P f args W fun e W' => ∃ v, e = .returned v ∧ s.post enc P fn false true false false W args v W' := by
  have hW' := hW
  obtain ⟨p, q, hA, hV, rfl, hfz, hnd⟩ := hW
  rw [hvars] at hV
  obtain ⟨rfl, rfl⟩ := trodVars_none hV
  rw [hts] at hA
  obtain ⟨aas, k1, k2⟩ := args_rt hN hτ (fun j t v ht hv => hval j t v (by rw [← Array.getElem?_toList, hts]; exact ht) (by rw [← Array.getElem?_toList]; exact hv)) hA
  obtain ⟨k, H', hc⟩ := law aas k2
  refine (law_calls L hT hc k1).mono fun e W' ⟨he, bel⟩ => ?_
  subst he
  have hsp := hspec ds (trodAll_len hA)
  refine ⟨_, rfl, ds, [], _, [], p, [], hW', ?_, ?_, ?_, bel.frame _, fun h => by cases h⟩
  · rw [List.append_nil, hsp, hres]
    exact trodAll_mk1 (shut_bool hb _)
  · rw [List.append_nil, hsp, hts]
    exact trodAll_back hlaid bel hr hA
  · rw [List.append_nil, hsp, hvars]
    rfl
end
end Go.Ai
