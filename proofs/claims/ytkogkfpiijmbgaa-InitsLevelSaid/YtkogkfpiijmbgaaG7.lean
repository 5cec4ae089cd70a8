/- Seat of layer 11: what is handed in is a tree. No condition. -/
import Derived.Test.YtkogkfpiijmbgaaG6
set_option linter.unusedSimpArgs false
set_option linter.unusedVariables false
set_option linter.unusedSectionVars false
namespace Go.Proofs.Ytkogkfpiijmbgaa.Ai
open Go Go.Ai
def tExpr : RT := .cons (.int .i64) (.cons .str (.cons (.sl (.ref 24 4)) (.cons (.int .i64) .unit)))
set_option maxRecDepth 100000 in
theorem rtOf24 : rtOf Try.prog [24] 12 24 = some tExpr := by kernel_rfl
def Den : RT → List AV → Prop
  | .int k, x => ∃ n, x = [litI k n]
  | .str, x => ∃ s, x = [litS s]
  | .sl (.ref _ n), x => ∃ ts : List Tr, x = [.sl n (ts.map Tr.cells) none]
  | .unit, x => x = []
  | .cons a b, x => ∃ y z, x = y ++ z ∧ Den a y ∧ Den b z
  | .ref _ _, x => ∃ t : Tr, x = t.cells
  | _, _ => True
theorem list_of : ∀ (xs : List (List AV)), (∀ x ∈ xs, ∃ t : Tr, x = t.cells) → ∃ ts : List Tr, xs = ts.map Tr.cells
  | [], _ => ⟨[], rfl⟩
  | x :: r, h => by
    obtain ⟨t, ht⟩ := h x (List.mem_cons_self ..)
    obtain ⟨ts, hs⟩ := list_of r fun y hy => h y (List.mem_cons_of_mem _ hy)
    exact ⟨t :: ts, by rw [List.map_cons, ← ht, ← hs]⟩
theorem tree_of {x : List AV} (h : Den tExpr x) : ∃ t : Tr, x = t.cells := by
  obtain ⟨a, r, rfl, ⟨k, rfl⟩, b, r2, rfl, ⟨s, rfl⟩, c, r3, rfl, ⟨ts, rfl⟩, d, r4, rfl, ⟨p, rfl⟩, rfl⟩ := h
  refine ⟨.mk k s 4 none ts p, ?_⟩
  rw [cells_mk]
  unfold argsA
  have : eZ 4 ts = 4 := by cases ts <;> rfl
  simp only [Tr.k, Tr.n, Tr.z, Tr.c, Tr.ts, Tr.p, this]
  rfl
theorem den_of {τ : RT} {x : List AV} (h : RSh (rtE Try.prog [24] 12) τ x) : Den τ x := by
  induction h with
  | int k n _ => exact ⟨n, rfl⟩
  | bool b => exact trivial
  | str s _ => exact ⟨s, rfl⟩
  | sl e xs h ih =>
    cases e with
    | ref t n =>
      obtain ⟨ts, rfl⟩ := list_of xs ih
      exact ⟨ts, rfl⟩
    | _ => exact trivial
  | unit => rfl
  | cons a b x y _ _ h1 h2 => exact ⟨x, y, rfl, h1, h2⟩
  | ref t n τ x h hn hx ih =>
    unfold rtE at h
    by_cases hc : ([24] : List TypeId).contains t = true
    · rw [if_pos hc] at h
      have ht : t = 24 := by simpa using hc
      subst ht
      rw [rtOf24] at h
      simp only [Option.some.injEq] at h; subst h
      exact tree_of ih
    · rw [if_neg hc] at h; cases h
theorem expr_arg {a : AV} (h : argR Try.prog (rtE Try.prog [24] 12) 24 tExpr a) : ∃ t : Tr, a = .agg t.cells := by
  unfold argR at h
  rw [Try.underlying24] at h
  obtain ⟨xs, rfl, hx⟩ := h
  obtain ⟨t, rfl⟩ := tree_of (den_of hx)
  exact ⟨t, rfl⟩
end Go.Proofs.Ytkogkfpiijmbgaa.Ai
namespace Go.Proofs.Ytkogkfpiijmbgaa.Ai
open Go Go.Ai
theorem wrap1 {n : Nat} (h : n < 4611686018427387904) : IntKind.wrap .i64 ((n : Int) + 1) = ((n + 1 : Nat) : Int) := by rw [Go.Ai.wrap_small] <;> omega
def rowT (t : Tr) : AO := .row [litI .i64 t.k, litS t.n, argsA t.z t.c t.ts, litI .i64 t.p] 24
theorem box_tr (t : Tr) (id : Nat) : boxV id 4 (.agg t.cells) 24 = some (.val (.ptr id 0) (some (rowT t))) := by
  rw [cells_agg4]; unfold rowT; rw [cells_mk]
theorem ld0 {H : List AO} {r : Nat} {t : Tr} (h : H[r]? = some (rowT t)) : Ai.load H none (.ptr r 0) = some (litI .i64 t.k) := by rw [load_ptr h]; rfl
theorem ld1 {H : List AO} {r : Nat} {t : Tr} (h : H[r]? = some (rowT t)) : Ai.load H none (.ptr r 1) = some (litS t.n) := by rw [load_ptr h]; rfl
theorem ld2 {H : List AO} {r : Nat} {t : Tr} (h : H[r]? = some (rowT t)) : Ai.load H none (.ptr r 2) = some (argsA t.z t.c t.ts) := by rw [load_ptr h]; rfl
theorem ld3 {H : List AO} {r : Nat} {t : Tr} (h : H[r]? = some (rowT t)) : Ai.load H none (.ptr r 3) = some (litI .i64 t.p) := by rw [load_ptr h]; rfl
theorem ld4 {H : List AO} {r : Nat} {t : Tr} (h : H[r]? = some (rowT t)) : Ai.load H (some 4) (.ptr r 0) = some (.agg t.cells) := by
  rw [cells_mk]; exact load_agg h rfl
theorem ldE (H : List AO) (t : Tr) : Ai.load H (some 4) (.ip t.cells) = some (.agg t.cells) := load_ipA (cells_len t)
def isS (n : ByteArray) (l : List Nat) : Bool := n.data.toList == (bs l).data.toList
theorem isS_eq (n : ByteArray) (l : List Nat) : (n.data.toList == (bs l).data.toList) = isS n l := rfl
inductive Shp : Tr → Prop
  | mk (k n z c ts p) (h : k = 7 → ts.length = 2) (hu : k = 6 → ts.length = 1) (hl : ts.length ≤ 1000) (hs : ∀ a ∈ ts, Shp a) : Shp (.mk k n z c ts p)
theorem Shp.two {t : Tr} (h : Shp t) (hk : t.k = 7) : t.ts.length = 2 := by cases h; rename_i h _ _ _; exact h hk
theorem Shp.one {t : Tr} (h : Shp t) (hk : t.k = 6) : t.ts.length = 1 := by cases h; rename_i _ h _ _; exact h hk
theorem Shp.len {t : Tr} (h : Shp t) : t.ts.length ≤ 1000 := by cases h; assumption
theorem Shp.sub {t : Tr} (h : Shp t) : ∀ a ∈ t.ts, Shp a := by cases h; assumption
mutual
def told : Tr → Bool
  | .mk k n _ _ ts _ => if k = 6 ∧ isS n [112, 114, 101] = true then false else if k = 7 ∧ (isS n [45, 62] = true ∨ isS n [102, 98, 121] = true) then toldH ts else if k = 9 ∨ k = 10 then true else toldL ts
def toldL : List Tr → Bool
  | [] => true
  | a :: r => told a && toldL r
def toldH : List Tr → Bool
  | [] => false
  | a :: _ => told a
end
theorem told_eq (t : Tr) : told t = if t.k = 6 ∧ isS t.n [112, 114, 101] = true then false else if t.k = 7 ∧ (isS t.n [45, 62] = true ∨ isS t.n [102, 98, 121] = true) then toldH t.ts else if t.k = 9 ∨ t.k = 10 then true else toldL t.ts := by
  cases t; rfl
end Go.Proofs.Ytkogkfpiijmbgaa.Ai
namespace Go.Proofs.Ytkogkfpiijmbgaa.Ai
open Go Go.Ai
inductive Sm : Tr → Prop
  | mk (k n z c ts p) (hn : n.size ≤ 400) (hl : ts.length ≤ 1000) (hs : ∀ a ∈ ts, Sm a) : Sm (.mk k n z c ts p)
theorem Sm.name {t : Tr} (h : Sm t) : t.n.size ≤ 400 := by cases h; assumption
theorem Sm.len {t : Tr} (h : Sm t) : t.ts.length ≤ 1000 := by cases h; assumption
theorem Sm.sub {t : Tr} (h : Sm t) : ∀ a ∈ t.ts, Sm a := by cases h; assumption
mutual
def dep : Tr → Nat
  | .mk _ _ _ _ ts _ => 1 + depL ts
def depL : List Tr → Nat
  | [] => 0
  | a :: r => max (dep a) (depL r)
end
theorem dep_eq (t : Tr) : dep t = 1 + depL t.ts := by cases t; rfl
theorem depL_le : ∀ (r : List Tr) (a : Tr), a ∈ r → dep a ≤ depL r
  | b :: r, a, h => by
    rw [depL]
    rcases List.mem_cons.1 h with rfl | h
    · omega
    · have := depL_le r a h; omega
theorem few_sm : ∀ t : Tr, ∀ m : Int, -1 ≤ m → m ≤ 400 → 0 ≤ fewL t.ts m → (t.ts.length : Int) + fewL t.ts m ≤ m ∧ (depL t.ts : Int) + fewL t.ts m ≤ m ∧ ∀ a ∈ t.ts, Sm a := by
  have key : ∀ (ts : List Tr), (∀ a ∈ ts, ∀ m : Int, -1 ≤ m → m ≤ 400 → 0 ≤ fewL a.ts m → (a.ts.length : Int) + fewL a.ts m ≤ m ∧ (depL a.ts : Int) + fewL a.ts m ≤ m ∧ ∀ b ∈ a.ts, Sm b) → ∀ m : Int, -1 ≤ m → m ≤ 400 → 0 ≤ fewL ts m → (ts.length : Int) + fewL ts m ≤ m ∧ (depL ts : Int) + fewL ts m ≤ m ∧ ∀ a ∈ ts, Sm a := by
    intro ts
    induction ts with
    | nil => intro _ m h1 h2 h3; simp [fewL, depL]
    | cons a r ihr =>
      intro ih m h1 h2 h3
      rw [fewL] at h3 ⊢
      by_cases hm : m < 0
      · rw [if_pos hm] at h3; omega
      · rw [if_neg hm] at h3 ⊢
        by_cases hs : 400 < (a.n.size : Int)
        · rw [if_pos hs] at h3; omega
        · rw [if_neg hs] at h3 ⊢
          rw [fewT_eq] at h3 ⊢
          have r1 := few_rng a (m - 1) (by omega) (by omega)
          by_cases h0 : 0 ≤ fewL a.ts (m - 1)
          · obtain ⟨x1, x2, x3⟩ := ih a (List.mem_cons_self ..) (m - 1) (by omega) (by omega) h0
            obtain ⟨y1, y2, y3⟩ := ihr (fun b hb => ih b (List.mem_cons_of_mem _ hb)) (fewL a.ts (m - 1)) (by omega) (by omega) h3
            refine ⟨by rw [List.length_cons]; omega, ?_, fun b hb => ?_⟩
            · rw [depL, dep_eq]; omega
            · rcases List.mem_cons.1 hb with rfl | hb
              · obtain ⟨k, n, z, c, ts, p⟩ := b
                simp only [Tr.ts, Tr.n] at x1 x3 hs h0
                exact .mk _ _ _ _ _ _ (by omega) (by omega) x3
              · exact y3 b hb
          · have : fewL a.ts (m - 1) = -1 := by omega
            rw [this] at h3
            cases r with
            | nil => rw [fewL] at h3; omega
            | cons b r => rw [fewL, if_pos (by omega)] at h3; omega
  exact Tr.ind fun k n z c ts p ih => key ts ih
theorem few_sm1 {t : Tr} (h : few t = true) : Sm t ∧ dep t ≤ 400 := by
  unfold few at h
  rw [decide_eq_true_eq] at h
  have := few_sm (.mk 0 ⟨#[]⟩ 0 none [t] 0) 400 (by omega) (by omega) h
  simp only [Tr.ts, depL, List.length_cons, List.length_nil] at this
  refine ⟨this.2.2 t (List.mem_singleton.2 rfl), ?_⟩
  omega
theorem zero_store (H : List AO) (t : Tr) : storeAt (H ++ [.row [litI .i64 0, litS (bs []), .sl 0 [] (some 0), litI .i64 0] 24]) 4 (.ptr H.length 0) (.agg t.cells) = some (H ++ [rowT t]) := by
  rw [storeAt_agg (n := 4) (get_last H _) rfl (cells_len t) (cells_cell t), setL_last]
  unfold rowT; rw [cells_mk]
theorem foldI_two (f : Int → Int → Int) (a b : Int) : foldI f [litI .i64 a, litI .i64 b] = some (litI .i64 (f a b)) := rfl
theorem deepest_loop (fv : AV) (z : Nat) (c : Option Nat) (ts : List Tr) (hfv : ∀ a ∈ ts, ∀ H id, fnV cw0 mds fv [.agg a.cells] H id = some (.val (litI .i64 (dep a)) none)) (hl : ts.length ≤ 1000) :
    ∀ (r : List Tr) (i : Nat) (m : Nat) (H : List AO), ts.drop i = r → i ≤ ts.length →
      ∃ i' H', loopW (codeW cw0 (lookM mtl) mds c33l0) [1, 5, 8, 9, 10] [(1, fv), (5, litI .i64 m), (8, argsA z c ts), (9, litI .i64 ts.length), (10, litI .i64 i)] H =
        some (.exit 0, [(1, fv), (5, litI .i64 (max m (depL r) : Nat)), (8, argsA z c ts), (9, litI .i64 ts.length), (10, i'), (11, litB false)], H')
  | [], i, m, H, hd, hi => by
    have hn : ts.length ≤ i := by
      have := congrArg List.length hd
      rw [List.length_drop, List.length_nil] at this; omega
    refine ⟨litI .i64 i, H, ?_⟩
    rw [depL, show max m 0 = m by omega]
    refine loopW_out ?_ (by simp)
    simp -implicitDefEqProofs only [c33l0, aW, ↓aP, makes, Nat.reduceLT, Nat.reduceEqDiff, Nat.reduceAdd, ↓reduceIte, Nat.reduceBEq, show ¬ ((i : Int) < ts.length) by omega]
  | a :: r, i, m, H, hd, hi => by
    have hlt : i < ts.length := by
      have := congrArg List.length hd
      rw [List.length_drop, List.length_cons] at this; omega
    have hg : ts[i]? = some a := by
      have := congrArg List.head? hd
      rwa [List.head?_drop] at this
    have hlti : (i : Int) < ts.length := by omega
    have hc := hfv a (List.mem_of_getElem? hg)
    have h4 : Ai.load (H ++ [rowT a]) (some 4) (.ptr H.length 0) = some (.agg a.cells) := ld4 (get_last H _)
    have hm : (if (dep a : Int) > (m : Int) then (dep a : Int) else (m : Int)) = ((max m (dep a) : Nat) : Int) := by split <;> omega
    obtain ⟨i', H', L⟩ := deepest_loop fv z c ts hfv hl r (i + 1) (max m (dep a)) (H ++ [rowT a]) (by rw [← List.drop_drop, hd]; rfl) (by omega)
    refine ⟨i', H', ?_⟩
    rw [depL, show max m (max (dep a) (depL r)) = max (max m (dep a)) (depL r) by omega]
    refine loopW_round ?_ L
    rw [← hm]
    simp -implicitDefEqProofs only [c33l0, aW, ↓aP, makes, Nat.reduceLT, Nat.reduceEqDiff, Nat.reduceAdd, ↓reduceIte, Nat.reduceBEq, hlti, iadr_args hg, ldE, zero_store, h4, core_callS, hc, core_maxiV, foldI_two, wrap1 (show i < 4611686018427387904 by omega)]
    by_cases hx : (dep a : Int) > (m : Int)
    · rw [if_pos hx, decide_eq_true hx]; rfl
    · rw [if_neg hx, decide_eq_false hx]; rfl
theorem deepest_tells (fv : AV) (z : Nat) (c : Option Nat) (ts : List Tr) (hfv : ∀ a ∈ ts, ∀ H id, fnV cw0 mds fv [.agg a.cells] H id = some (.val (litI .i64 (dep a)) none)) (hl : ts.length ≤ 1000) :
    ∃ H', cw0 33 [argsA z c ts, fv] [] = some (.ret (litI .i64 (depL ts)), H') := by
  obtain ⟨i', H', L⟩ := deepest_loop fv z c ts hfv hl ts 0 0 [] rfl (Nat.zero_le _)
  rw [show ((0 : Nat) : Int) = 0 from rfl, show max 0 (depL ts) = depL ts by omega] at L
  refine ⟨H', cw0_of fn33 (c := c33) rfl rfl rfl rfl ?_⟩
  simp -implicitDefEqProofs only [c33, aW, ↓aP, makes, Nat.reduceLT, Nat.reduceEqDiff, Nat.reduceAdd, ↓reduceIte, Nat.reduceBEq, lenV_args, L]
  rfl
theorem depth_row (t : Tr) (hl : t.ts.length ≤ 1000) (hd : dep t ≤ 1000) (ih : ∀ a ∈ t.ts, ∀ H id, callV cw0 mds 25 [.agg a.cells] H id = some (.val (litI .i64 (dep a)) none)) : cw0 25 [.agg t.cells] [] = some (.ret (litI .i64 (dep t)), [rowT t]) := by
  refine cw0_of fn25 (c := c25) rfl rfl rfl rfl ?_
  have h2 := ld2 (H := [rowT t]) (r := 0) (t := t) rfl
  obtain ⟨H', hD⟩ := deepest_tells (.fn (.func 25) [] []) t.z t.c t.ts (fun a ha H id => ih a ha H id) hl
  have hc : ∀ H id, callV cw0 mds 33 [argsA t.z t.c t.ts, .fn (.func 25) [] []] H id = some (.val (litI .i64 (depL t.ts)) none) := fun H id => callV_flat (p := ([argsA t.z t.c t.ts, .fn (.func 25) [] []], [])) rfl rfl hD
  have hw : IntKind.wrap .i64 (1 + (depL t.ts : Int)) = ((dep t : Nat) : Int) := by
    rw [dep_eq] at hd ⊢
    rw [Go.Ai.wrap_small] <;> omega
  simp -implicitDefEqProofs only [c25, aW, ↓aP, makes, Nat.reduceLT, Nat.reduceEqDiff, Nat.reduceAdd, ↓reduceIte, Nat.reduceBEq, core_box, box_tr, List.length_nil, fadr_ptr, h2, hc, hw]
  rfl
theorem depth_call : ∀ t : Tr, Sm t → dep t ≤ 1000 → ∀ H id, callV cw0 mds 25 [.agg t.cells] H id = some (.val (litI .i64 (dep t)) none) :=
  Tr.ind fun k n z c ts p ih S hd H id => callV_pureA rfl (by rw [List.all_cons, whole_cells]; rfl) (depth_row _ S.len hd fun a ha => ih a ha (S.sub a ha) (by
    have := depL_le ts a ha
    rw [dep_eq] at hd
    simp only [Tr.ts] at hd
    omega)) rfl
theorem deep_call (t : Tr) (S : Sm t) (hd : dep t ≤ 1000) (H : List AO) (id : Nat) : callV cw0 mds 18 [.agg t.cells] H id = some (.val (litB (decide (40 < dep t))) none) := by
  have : cw0 18 [.agg t.cells] [] = some (.ret (litB (decide (40 < dep t))), [rowT t]) := by
    refine cw0_of fn18 (c := c18) rfl rfl rfl rfl ?_
    have h4 : Ai.load [rowT t] (some 4) (.ptr 0 0) = some (.agg t.cells) := ld4 rfl
    have hx : decide ((40 : Int) < (dep t : Int)) = decide (40 < dep t) := decide_eq_decide.2 (by omega)
    simp -implicitDefEqProofs only [c18, aW, ↓aP, makes, Nat.reduceLT, Nat.reduceEqDiff, Nat.reduceAdd, ↓reduceIte, Nat.reduceBEq, core_box, box_tr, List.length_nil, h4, depth_call t S hd, hx]
    rfl
  exact callV_pureA rfl (by rw [List.all_cons, whole_cells]; rfl) this rfl
end Go.Proofs.Ytkogkfpiijmbgaa.Ai
namespace Go.Proofs.Ytkogkfpiijmbgaa.Ai
open Go Go.Ai
def stopA (q : Int) : AV := .iface 38 (.agg [litI .i64 q])
theorem unless_t (p : Int) (H : List AO) (id : Nat) : callV cw0 mds 20 [litB true, litI .i64 p] H id = some (.val (.tup []) none) := by
  have : cw0 20 [litB true, litI .i64 p] [] = some (.ret (.tup []), []) := by
    refine cw0_of fn20 (c := c20) rfl rfl rfl rfl ?_
    simp -implicitDefEqProofs only [c20, aW, ↓aP, makes, Nat.reduceLT, Nat.reduceEqDiff, Nat.reduceAdd, ↓reduceIte, Nat.reduceBEq]
    rfl
  exact callV_pureT rfl rfl this rfl
theorem unless_f (p : Int) (H : List AO) (id : Nat) : callV cw0 mds 20 [litB false, litI .i64 p] H id = some (.pan (stopA p) H) := by
  have : cw0 20 [litB false, litI .i64 p] [] = some (.pan (stopA p), []) := by
    refine cw0_of fn20 (c := c20) rfl rfl rfl rfl ?_
    simp -implicitDefEqProofs only [c20, aW, ↓aP, makes, Nat.reduceLT, Nat.reduceEqDiff, Nat.reduceAdd, ↓reduceIte, Nat.reduceBEq, core_build1, build1V_int, core_panV, core_pan_iface]
    rfl
  exact callV_pan rfl rfl this rfl
def mx (a : Int) (r : List Int) : Int := r.foldl (fun x y => if y > x then y else x) a
def slI (c : Option Nat) (l : List Int) : AV := .sl 1 (l.map fun n => [litI .i64 n]) c
theorem iadr_slI {c : Option Nat} {l : List Int} {i : Nat} {n : Int} (h : l[i]? = some n) {k : IntKind} : iadr 1 (slI c l) (litI k i) = some (.ip [litI .i64 n]) := by
  unfold slI
  rw [iadr_sl, if_pos (Int.natCast_nonneg i), Int.toNat_natCast, List.getElem?_map, h]
  rfl
theorem lenV_slI (c : Option Nat) (l : List Int) : lenV (slI c l) = some (litI .i64 l.length) := by
  unfold slI; rw [lenV_sl, List.length_map]
theorem max_loop (c : Option Nat) (l : List Int) (hl : l.length ≤ 1002) : ∀ (r : List Int) (i : Nat) (m : Int), l.drop i = r → i ≤ l.length →
    ∃ i', loopW (codeW cw0 (lookM mtl) mds c21l0) [0, 3, 4] [(0, slI c l), (3, litI .i64 m), (4, litI .i64 i)] [] = some (.exit 0, [(0, slI c l), (3, litI .i64 (mx m r)), (4, i'), (15, litB false)], [])
  | [], i, m, hd, hi => by
    have hn : l.length ≤ i := by
      have := congrArg List.length hd
      rw [List.length_drop, List.length_nil] at this; omega
    refine ⟨litI .i64 i, ?_⟩
    unfold mx
    refine loopW_out ?_ (by simp)
    simp -implicitDefEqProofs only [c21l0, aW, ↓aP, makes, Nat.reduceLT, Nat.reduceEqDiff, Nat.reduceAdd, ↓reduceIte, Nat.reduceBEq, lenV_slI, show ¬ ((i : Int) < l.length) by omega]
    rfl
  | a :: r, i, m, hd, hi => by
    have hlt : i < l.length := by
      have := congrArg List.length hd
      rw [List.length_drop, List.length_cons] at this; omega
    have hg : l[i]? = some a := by
      have := congrArg List.head? hd
      rwa [List.head?_drop] at this
    have hlti : (i : Int) < l.length := by omega
    obtain ⟨i', L⟩ := max_loop c l hl r (i + 1) (if a > m then a else m) (by rw [← List.drop_drop, hd]; rfl) (by omega)
    refine ⟨i', loopW_round ?_ L⟩
    simp -implicitDefEqProofs only [c21l0, aW, ↓aP, makes, Nat.reduceLT, Nat.reduceEqDiff, Nat.reduceAdd, ↓reduceIte, Nat.reduceBEq, lenV_slI, hlti, iadr_slI hg, core_maxiV, foldI_two, wrap1 (show i < 4611686018427387904 by omega)]
    by_cases hx : a > m
    · rw [if_pos hx, decide_eq_true hx]; rfl
    · rw [if_neg hx, decide_eq_false hx]; rfl
theorem max_tells (c : Option Nat) (a : Int) (r : List Int) (hl : (a :: r).length ≤ 1002) : ∃ H', cw0 21 [slI c (a :: r)] [] = some (.ret (litI .i64 (mx a r)), H') := by
  obtain ⟨i', L⟩ := max_loop c (a :: r) hl r 1 a rfl (by simp)
  rw [show ((1 : Nat) : Int) = 1 from rfl] at L
  have h0 := iadr_slI (c := c) (l := a :: r) (i := 0) (n := a) rfl (k := .i64)
  rw [show ((0 : Nat) : Int) = 0 from rfl] at h0
  refine ⟨[], cw0_of fn21 (c := c21) rfl rfl rfl rfl ?_⟩
  simp -implicitDefEqProofs only [c21, aW, ↓aP, makes, Nat.reduceLT, Nat.reduceEqDiff, Nat.reduceAdd, ↓reduceIte, Nat.reduceBEq, lenV_slI, show ¬ (((a :: r).length : Int) < 1) by rw [List.length_cons]; omega, h0, L]
  rfl
def bad : List Tr → List Int → Except Int Int
  | a :: r, n :: l => if n = 0 then bad r l else .error a.p
  | _, _ => .ok 0
def mxL : List Int → Int
  | [] => 0
  | a :: r => mx a (r ++ [0])
def top (k : Int) (n : ByteArray) (ts : List Tr) (p : Int) (ls : List Int) : Except Int Int :=
  if k = 6 ∧ isS n [112, 114, 101] = true then (if ls.headD 0 = 0 then .ok 1 else .error p)
  else if k = 7 ∧ isS n [102, 98, 121] = true then (if ls.getD 1 0 = 0 then .ok (ls.headD 0) else .error (((ts[1]?).map Tr.p).getD 0))
  else if k = 7 ∧ isS n [45, 62] = true then .ok (ls.headD 0)
  else if k = 9 ∨ k = 10 then bad ts ls
  else .ok (mxL ls)
mutual
def lev : Tr → Except Int Int
  | .mk k n _ _ ts p => match levL ts with
    | .error q => .error q
    | .ok ls => top k n ts p ls
def levL : List Tr → Except Int (List Int)
  | [] => .ok []
  | a :: r => match lev a with
    | .error q => .error q
    | .ok n => match levL r with
      | .error q => .error q
      | .ok ls => .ok (n :: ls)
end
theorem lev_eq (t : Tr) : lev t = match levL t.ts with
    | .error q => .error q
    | .ok ls => top t.k t.n t.ts t.p ls := by cases t; rfl
theorem levL_len : ∀ (ts : List Tr) (ls : List Int), levL ts = .ok ls → ls.length = ts.length
  | [], ls, h => by cases h; rfl
  | a :: r, ls, h => by
    rw [levL] at h
    cases ha : lev a with
    | error q => rw [ha] at h; cases h
    | ok n =>
      rw [ha] at h
      cases hr : levL r with
      | error q => rw [hr] at h; cases h
      | ok l =>
        rw [hr] at h
        cases h
        rw [List.length_cons, List.length_cons, levL_len r l hr]
def levOut (H : List AO) : Except Int Int → Option Out
  | .ok n => some (.val (litI .i64 n) none)
  | .error q => some (.pan (stopA q) H)
def ownL (N : Nat) : AV := .own 1 0 N 1 (some N)
theorem iadr_ownL {N i : Nat} (h : i < N) {k : IntKind} : iadr 1 (ownL N) (litI k i) = some (.ptr 1 i) := by
  unfold ownL
  rw [iadr_own, if_pos ⟨Int.natCast_nonneg i, by omega⟩, Int.toNat_natCast, Nat.zero_add, Nat.mul_one]
theorem get_app {H : List AO} {r : Nat} {o x : AO} (h : H[r]? = some o) : (H ++ [x])[r]? = some o := by
  rw [List.getElem?_append_left (List.getElem?_eq_some_iff.1 h).1]; exact h
theorem lev_loop (t : Tr) (hl : t.ts.length ≤ 1000) (ih : ∀ a ∈ t.ts, ∀ H id, callV cw0 mds 14 [.agg a.cells] H id = levOut H (lev a)) :
    ∀ (r : List Tr) (i : Nat) (ls : List Int) (H : List AO), t.ts.drop i = r → i ≤ t.ts.length → ls.length = i → H[0]? = some (rowT t) → H[1]? = some (.row (ls.map (litI .i64) ++ List.replicate (t.ts.length + 1 - i) (litI .i64 0)) 3) →
      match levL r with
      | .ok l' => ∃ i' H', loopW (codeW cw0 (lookM mtl) mds c14l0) [1, 3, 14, 15, 16] [(1, .ptr 0 0), (3, ownL (t.ts.length + 1)), (14, argsA t.z t.c t.ts), (15, litI .i64 t.ts.length), (16, litI .i64 i)] H =
          some (.exit 0, [(1, .ptr 0 0), (3, ownL (t.ts.length + 1)), (14, argsA t.z t.c t.ts), (15, litI .i64 t.ts.length), (16, i'), (17, litB false)], H') ∧ H'[0]? = some (rowT t) ∧ H'[1]? = some (.row ((ls ++ l').map (litI .i64) ++ [litI .i64 0]) 3)
      | .error q => ∃ fr' H', loopW (codeW cw0 (lookM mtl) mds c14l0) [1, 3, 14, 15, 16] [(1, .ptr 0 0), (3, ownL (t.ts.length + 1)), (14, argsA t.z t.c t.ts), (15, litI .i64 t.ts.length), (16, litI .i64 i)] H = some (.pan (stopA q), fr', H')
  | [], i, ls, H, hd, hi, hls, h0, h1 => by
    have hn : t.ts.length ≤ i := by
      have := congrArg List.length hd
      rw [List.length_drop, List.length_nil] at this; omega
    rw [levL]
    refine ⟨litI .i64 i, H, ?_, h0, ?_⟩
    · refine loopW_out ?_ (by simp)
      simp -implicitDefEqProofs only [c14l0, aW, ↓aP, makes, Nat.reduceLT, Nat.reduceEqDiff, Nat.reduceAdd, ↓reduceIte, Nat.reduceBEq, show ¬ ((i : Int) < t.ts.length) by omega]
    · rw [h1, show t.ts.length + 1 - i = 1 by omega, List.append_nil]; rfl
  | a :: r, i, ls, H, hd, hi, hls, h0, h1 => by
    have hlt : i < t.ts.length := by
      have := congrArg List.length hd
      rw [List.length_drop, List.length_cons] at this; omega
    have hg : t.ts[i]? = some a := by
      have := congrArg List.head? hd
      rwa [List.head?_drop] at this
    have hlti : (i : Int) < t.ts.length := by omega
    have hc := ih a (List.mem_of_getElem? hg)
    have h4 : Ai.load (H ++ [rowT a]) (some 4) (.ptr H.length 0) = some (.agg a.cells) := ld4 (get_last H _)
    have hw := iadr_ownL (N := t.ts.length + 1) (i := i) (by omega) (k := .i64)
    rw [levL]
    cases ha : lev a with
    | error q =>
      rw [ha] at hc
      simp only [levOut] at hc
      refine loopW_pan ?_
      simp -implicitDefEqProofs only [c14l0, aW, ↓aP, makes, Nat.reduceLT, Nat.reduceEqDiff, Nat.reduceAdd, ↓reduceIte, Nat.reduceBEq, hlti, iadr_args hg, ldE, zero_store, h4, hc, panOf_pan]
    | ok n =>
      rw [ha] at hc
      simp only [levOut] at hc
      have hst : storeAt (H ++ [rowT a]) 1 (.ptr 1 i) (litI .i64 n) = some (setL (H ++ [rowT a]) 1 (.row ((ls ++ [n]).map (litI .i64) ++ List.replicate (t.ts.length + 1 - (i + 1)) (litI .i64 0)) 3)) := by
        rw [store_ptr (get_app h1) (by rw [List.length_append, List.length_map, List.length_replicate]; omega) rfl rfl]
        congr 3
        rw [List.set_append_right _ _ (by rw [List.length_map]; omega), List.length_map, show i - ls.length = 0 by omega, show t.ts.length + 1 - i = (t.ts.length + 1 - (i + 1)) + 1 by omega, List.replicate_succ, List.set_cons_zero, List.map_append, List.append_assoc]
        rfl
      have step : codeW cw0 (lookM mtl) mds c14l0 (keep [1, 3, 14, 15, 16] [(1, .ptr 0 0), (3, ownL (t.ts.length + 1)), (14, argsA t.z t.c t.ts), (15, litI .i64 t.ts.length), (16, litI .i64 i)]) H =
          some (.normal, [(1, .ptr 0 0), (3, ownL (t.ts.length + 1)), (14, argsA t.z t.c t.ts), (15, litI .i64 t.ts.length), (16, litI .i64 ((i + 1 : Nat) : Int))], setL (H ++ [rowT a]) 1 (.row ((ls ++ [n]).map (litI .i64) ++ List.replicate (t.ts.length + 1 - (i + 1)) (litI .i64 0)) 3)) := by
        simp -implicitDefEqProofs only [c14l0, aW, ↓aP, makes, Nat.reduceLT, Nat.reduceEqDiff, Nat.reduceAdd, ↓reduceIte, Nat.reduceBEq, hlti, iadr_args hg, ldE, zero_store, h4, hc, hw, hst, wrap1 (show i < 4611686018427387904 by omega)]
      have hr1 : (setL (H ++ [rowT a]) 1 (.row ((ls ++ [n]).map (litI .i64) ++ List.replicate (t.ts.length + 1 - (i + 1)) (litI .i64 0)) 3))[1]? = some (.row ((ls ++ [n]).map (litI .i64) ++ List.replicate (t.ts.length + 1 - (i + 1)) (litI .i64 0)) 3) := by
        unfold setL
        have := (List.getElem?_eq_some_iff.1 (get_app (x := rowT a) h1)).1
        simp only [List.getElem?_set, if_true, this]
      have hr0 : (setL (H ++ [rowT a]) 1 (.row ((ls ++ [n]).map (litI .i64) ++ List.replicate (t.ts.length + 1 - (i + 1)) (litI .i64 0)) 3))[0]? = some (rowT t) := by
        unfold setL
        rw [List.getElem?_set, if_neg (by omega)]
        exact get_app h0
      have IH := lev_loop t hl ih r (i + 1) (ls ++ [n]) _ (by rw [← List.drop_drop, hd]; rfl) (by omega) (by rw [List.length_append, hls]; rfl) hr0 hr1
      simp only
      cases hr : levL r with
      | error q =>
        rw [hr] at IH
        obtain ⟨fr', H', L⟩ := IH
        exact ⟨fr', H', loopW_round step L⟩
      | ok l' =>
        rw [hr] at IH
        obtain ⟨i', H', L, x0, x1⟩ := IH
        exact ⟨i', H', loopW_round step L, x0, by rw [x1]; simp⟩
end Go.Proofs.Ytkogkfpiijmbgaa.Ai
namespace Go.Proofs.Ytkogkfpiijmbgaa.Ai
open Go Go.Ai
theorem bad_loop (t : Tr) (hl : t.ts.length ≤ 1000) (ls : List Int) (hls : ls.length = t.ts.length) :
    ∀ (r : List Tr) (i : Nat) (H : List AO), t.ts.drop i = r → i ≤ t.ts.length → H[1]? = some (.row (ls.map (litI .i64) ++ [litI .i64 0]) 3) →
      match bad r (ls.drop i) with
      | .ok _ => ∃ i' H', loopW (codeW cw0 (lookM mtl) mds c14l1) [3, 85, 86, 87] [(3, ownL (t.ts.length + 1)), (85, argsA t.z t.c t.ts), (86, litI .i64 t.ts.length), (87, litI .i64 i)] H =
          some (.exit 3, [(3, ownL (t.ts.length + 1)), (85, argsA t.z t.c t.ts), (86, litI .i64 t.ts.length), (87, i'), (88, litB false)], H')
      | .error q => ∃ fr' H', loopW (codeW cw0 (lookM mtl) mds c14l1) [3, 85, 86, 87] [(3, ownL (t.ts.length + 1)), (85, argsA t.z t.c t.ts), (86, litI .i64 t.ts.length), (87, litI .i64 i)] H = some (.pan (stopA q), fr', H')
  | [], i, H, hd, hi, h1 => by
    have hn : t.ts.length ≤ i := by
      have := congrArg List.length hd
      rw [List.length_drop, List.length_nil] at this; omega
    have : bad [] (ls.drop i) = .ok 0 := by cases ls.drop i <;> rfl
    rw [this]
    refine ⟨litI .i64 i, H, ?_⟩
    refine loopW_out ?_ (by simp)
    simp -implicitDefEqProofs only [c14l1, aW, ↓aP, makes, Nat.reduceLT, Nat.reduceEqDiff, Nat.reduceAdd, ↓reduceIte, Nat.reduceBEq, show ¬ ((i : Int) < t.ts.length) by omega]
  | a :: r, i, H, hd, hi, h1 => by
    have hlt : i < t.ts.length := by
      have := congrArg List.length hd
      rw [List.length_drop, List.length_cons] at this; omega
    have hg : t.ts[i]? = some a := by
      have := congrArg List.head? hd
      rwa [List.head?_drop] at this
    have hlti : (i : Int) < t.ts.length := by omega
    have hw := iadr_ownL (N := t.ts.length + 1) (i := i) (by omega) (k := .i64)
    have hdl : ls.drop i = ls[i] :: ls.drop (i + 1) := List.drop_eq_getElem_cons (by omega)
    have h3 : Ai.load (H ++ [rowT a]) none (.ptr H.length 3) = some (litI .i64 a.p) := ld3 (get_last H _)
    have hv : Ai.load (H ++ [rowT a]) none (.ptr 1 i) = some (litI .i64 ls[i]) := by
      rw [load_ptr (get_app h1), List.getElem?_append_left (by rw [List.length_map]; omega), List.getElem?_map, List.getElem?_eq_getElem (by omega)]
      rfl
    rw [hdl, bad]
    by_cases hz : ls[i] = 0
    · rw [if_pos hz]
      have hb : (ls[i] == 0) = true := beq_iff_eq.2 hz
      have step : codeW cw0 (lookM mtl) mds c14l1 (keep [3, 85, 86, 87] [(3, ownL (t.ts.length + 1)), (85, argsA t.z t.c t.ts), (86, litI .i64 t.ts.length), (87, litI .i64 i)]) H =
          some (.normal, [(3, ownL (t.ts.length + 1)), (85, argsA t.z t.c t.ts), (86, litI .i64 t.ts.length), (87, litI .i64 ((i + 1 : Nat) : Int))], H ++ [rowT a]) := by
        simp -implicitDefEqProofs only [c14l1, aW, ↓aP, makes, Nat.reduceLT, Nat.reduceEqDiff, Nat.reduceAdd, ↓reduceIte, Nat.reduceBEq, hlti, iadr_args hg, ldE, zero_store, hw, hv, hb, fadr_ptr, h3, unless_t, wrap1 (show i < 4611686018427387904 by omega)]
      have IH := bad_loop t hl ls hls r (i + 1) (H ++ [rowT a]) (by rw [← List.drop_drop, hd]; rfl) (by omega) (get_app h1)
      cases hr : bad r (ls.drop (i + 1)) with
      | error q =>
        rw [hr] at IH
        obtain ⟨fr', H', L⟩ := IH
        exact ⟨fr', H', loopW_round step L⟩
      | ok l' =>
        rw [hr] at IH
        obtain ⟨i', H', L⟩ := IH
        exact ⟨i', H', loopW_round step L⟩
    · rw [if_neg hz]
      have hb : (ls[i] == 0) = false := beq_eq_false_iff_ne.2 hz
      refine loopW_pan ?_
      simp -implicitDefEqProofs only [c14l1, aW, ↓aP, makes, Nat.reduceLT, Nat.reduceEqDiff, Nat.reduceAdd, ↓reduceIte, Nat.reduceBEq, hlti, iadr_args hg, ldE, zero_store, hw, hv, hb, fadr_ptr, h3, unless_f, panOf_pan]
theorem bad_zero : ∀ (r : List Tr) (l : List Int) (x : Int), bad r l = .ok x → x = 0
  | a :: r, n :: l, x, h => by
    rw [bad] at h
    split at h
    · exact bad_zero r l x h
    · cases h
  | [], _, x, h => by simp [bad] at h; exact h.symm
  | _ :: _, [], x, h => by simp [bad] at h; exact h.symm
def LevSays (t : Tr) : Prop := match lev t with
  | .ok n => ∃ H', cw0 14 [.agg t.cells] [] = some (.ret (litI .i64 n), H')
  | .error q => ∃ H', cw0 14 [.agg t.cells] [] = some (.pan (stopA q), H')
theorem LevSays.call {t : Tr} (h : LevSays t) (H : List AO) (id : Nat) : callV cw0 mds 14 [.agg t.cells] H id = levOut H (lev t) := by
  unfold LevSays at h
  cases hv : lev t with
  | ok n =>
    rw [hv] at h
    obtain ⟨H', h⟩ := h
    exact callV_pureA rfl (by rw [List.all_cons, whole_cells]; rfl) h rfl
  | error q =>
    rw [hv] at h
    obtain ⟨H', h⟩ := h
    exact callV_pan rfl (by rw [List.all_cons, whole_cells]; rfl) h rfl
def retOf : Option (R × List AO) → Option R
  | some (r, _) => some r
  | none => none
theorem retOf_some {x : Option (R × List AO)} {r : R} (h : retOf x = some r) : ∃ H', x = some (r, H') := by
  cases x with
  | none => cases h
  | some p => obtain ⟨r', H⟩ := p; cases h; exact ⟨H, rfl⟩
theorem cw0_ret {f : FuncId} (FF : F) {c : C} {args : List AV} {H : List AO} {r : R} (ho : ov0 f = none) (hT : lookF tb f = some FF) (hl : (args.length == FF.np) = true) (hc : FF.body = c)
    (h : retOf ((codeW cw0 (lookM mtl) mds c (initFr 0 args) H).bind (fin FF)) = some r) : ∃ H', cw0 f args H = some (r, H') := by
  obtain ⟨H', h⟩ := retOf_some h
  exact ⟨H', cw0_of FF ho hT hl hc h⟩
theorem mksL (N : Nat) (h : N ≤ 1001) : mksV 1 1 8 [litI .i64 0] 3 (litI .i64 (N : Int)) (litI .i64 (N : Int)) = some (.val (ownL N) (some (.row (List.replicate N (litI .i64 0)) 3))) := by
  rw [mksV_ok (by omega) (by omega), reps_one]; rfl
theorem max_call {H : List AO} (ls : List Int) (hl : ls.length ≤ 1000) (h1 : H[1]? = some (.row (ls.map (litI .i64) ++ [litI .i64 0]) 3)) (id : Nat) : callV cw0 mds 21 [ownL (ls.length + 1)] H id = some (.val (litI .i64 (mxL ls)) none) := by
  have hf : mapL (frz H frzF) [ownL (ls.length + 1)] = some ([slI (some (ls.length + 1)) (ls ++ [0])], [1]) := by
    unfold ownL
    rw [show frzF = 14 + 2 from rfl]
    simp only [mapL]
    rw [frz_own h1 (by simp) (by simp [whole, litI])]
    simp only [Option.bind_some]
    rw [List.take_of_length_le (by simp)]
    unfold slI
    simp
  have key : ∃ H', cw0 21 [slI (some (ls.length + 1)) (ls ++ [0])] [] = some (.ret (litI .i64 (mxL ls)), H') := by
    cases ls with
    | nil => exact max_tells _ 0 [] (by simp)
    | cons a r => exact max_tells _ a (r ++ [0]) (by simp at hl ⊢; omega)
  obtain ⟨H', key⟩ := key
  exact callV_flat rfl hf key
theorem lev_row (t : Tr) (S : Shp t) (ih : ∀ a ∈ t.ts, ∀ H id, callV cw0 mds 14 [.agg a.cells] H id = levOut H (lev a)) : LevSays t := by
  have h2 := ld2 (H := [rowT t, .row (List.replicate (t.ts.length + 1) (litI .i64 0)) 3]) (r := 0) (t := t) rfl
  have h2' := ld2 (H := [rowT t]) (r := 0) (t := t) rfl
  have hmk := mksL (t.ts.length + 1) (by have := S.len; omega)
  have hwr := wrap1 (n := t.ts.length) (by have := S.len; omega)
  have loop := lev_loop t S.len ih t.ts 0 [] [rowT t, .row (List.replicate (t.ts.length + 1) (litI .i64 0)) 3] rfl (Nat.zero_le _) rfl rfl rfl
  rw [show ((0 : Nat) : Int) = 0 from rfl] at loop
  unfold LevSays
  rw [lev_eq]
  cases hL : levL t.ts with
  | error q =>
    rw [hL] at loop
    obtain ⟨fr', H', L⟩ := loop
    refine cw0_ret fn14 (c := c14) rfl rfl rfl rfl ?_
    simp -implicitDefEqProofs only [c14, aW, ↓aP, makes, Nat.reduceLT, Nat.reduceEqDiff, Nat.reduceAdd, ↓reduceIte, Nat.reduceBEq, core_box, box_tr, List.length_nil, List.length_cons, fadr_ptr, h2, h2', lenV_args, hwr, hmk, L]
    rfl
  | ok ls =>
    rw [hL] at loop
    obtain ⟨i', H', L, x0, x1⟩ := loop
    rw [List.nil_append] at x1
    have hln := levL_len t.ts ls hL
    have e0 := ld0 x0
    have e1 := ld1 x0
    have e2 := ld2 x0
    have e3 := ld3 x0
    have w0 := iadr_ownL (N := t.ts.length + 1) (i := 0) (by omega) (k := .i64)
    rw [show ((0 : Nat) : Int) = 0 from rfl] at w0
    have v0 : Ai.load H' none (.ptr 1 0) = some (litI .i64 (ls.headD 0)) := by
      rw [load_ptr x1]; cases ls <;> rfl
    have M := max_call ls (by have := S.len; omega) x1
    rw [hln] at M
    simp only
    unfold top
    by_cases k6 : t.k = 6
    · have e6 : (t.k == 6) = true := by rw [k6]; rfl
      have e7 : (t.k == 7) = false := by rw [k6]; rfl
      have e9 : (t.k == 9) = false := by rw [k6]; rfl
      have e10 : (t.k == 10) = false := by rw [k6]; rfl
      cases hp : isS t.n [112, 114, 101] with
      | true =>
        rw [if_pos ⟨k6, rfl⟩]
        by_cases hz : ls.headD 0 = 0
        · rw [if_pos hz]
          have hb : (ls.headD 0 == 0) = true := beq_iff_eq.2 hz
          refine cw0_ret fn14 (c := c14) rfl rfl rfl rfl ?_
          simp -implicitDefEqProofs only [c14, aW, ↓aP, makes, Nat.reduceLT, Nat.reduceEqDiff, Nat.reduceAdd, ↓reduceIte, Nat.reduceBEq, core_box, box_tr, List.length_nil, List.length_cons, fadr_ptr, h2, h2', lenV_args, hwr, hmk, L, e0, e1, e3, e6, bin_eqlS, isS_eq, hp, w0, v0, hb, unless_t]
          rfl
        · rw [if_neg hz]
          have hb : (ls.headD 0 == 0) = false := beq_eq_false_iff_ne.2 hz
          refine cw0_ret fn14 (c := c14) rfl rfl rfl rfl ?_
          simp -implicitDefEqProofs only [c14, aW, ↓aP, makes, Nat.reduceLT, Nat.reduceEqDiff, Nat.reduceAdd, ↓reduceIte, Nat.reduceBEq, core_box, box_tr, List.length_nil, List.length_cons, fadr_ptr, h2, h2', lenV_args, hwr, hmk, L, e0, e1, e3, e6, bin_eqlS, isS_eq, hp, w0, v0, hb, unless_f]
          rfl
      | false =>
        rw [if_neg (by simp), if_neg (by omega), if_neg (by omega), if_neg (by omega)]
        refine cw0_ret fn14 (c := c14) rfl rfl rfl rfl ?_
        simp -implicitDefEqProofs only [c14, aW, ↓aP, makes, Nat.reduceLT, Nat.reduceEqDiff, Nat.reduceAdd, ↓reduceIte, Nat.reduceBEq, core_box, box_tr, List.length_nil, List.length_cons, fadr_ptr, h2, h2', lenV_args, hwr, hmk, L, e0, e1, e3, e6, e7, e9, e10, bin_eqlS, isS_eq, hp, M]
        rfl
    · have e6 : (t.k == 6) = false := beq_eq_false_iff_ne.2 k6
      rw [if_neg (fun h => k6 h.1)]
      by_cases k7 : t.k = 7
      · have e7 : (t.k == 7) = true := by rw [k7]; rfl
        have e9 : (t.k == 9) = false := by rw [k7]; rfl
        have e10 : (t.k == 10) = false := by rw [k7]; rfl
        have h2l := S.two k7
        obtain ⟨a, b, hts⟩ : ∃ a b, t.ts = [a, b] := by
          match h : t.ts, h2l with
          | [a, b], _ => exact ⟨a, b, rfl⟩
        have hg : t.ts[1]? = some b := by rw [hts]; rfl
        have hi := iadr_args (z := t.z) (c := t.c) hg (k := .i64)
        have w1 := iadr_ownL (N := t.ts.length + 1) (i := 1) (by omega) (k := .i64)
        rw [show ((1 : Nat) : Int) = 1 from rfl] at hi w1
        have v1 : Ai.load H' none (.ptr 1 1) = some (litI .i64 (ls.getD 1 0)) := by
          rw [load_ptr x1]
          match ls, hln with
          | [x, y], _ => rfl
          | [], h => rw [h2l] at h; cases h
          | [x], h => rw [h2l] at h; cases h
          | _ :: _ :: _ :: _, h => rw [h2l] at h; simp at h
        have hp1 : ((t.ts[1]?).map Tr.p).getD 0 = b.p := by rw [hg]; rfl
        cases hf : isS t.n [102, 98, 121] with
        | true =>
          rw [if_pos ⟨k7, rfl⟩, hp1]
          by_cases hz : ls.getD 1 0 = 0
          · rw [if_pos hz]
            have hb : (ls.getD 1 0 == 0) = true := beq_iff_eq.2 hz
            refine cw0_ret fn14 (c := c14) rfl rfl rfl rfl ?_
            simp -implicitDefEqProofs only [c14, aW, ↓aP, makes, Nat.reduceLT, Nat.reduceEqDiff, Nat.reduceAdd, ↓reduceIte, Nat.reduceBEq, core_box, box_tr, List.length_nil, List.length_cons, fadr_ptr, h2, h2', lenV_args, hwr, hmk, L, e0, e1, e2, e3, e6, e7, bin_eqlS, isS_eq, hf, w0, v0, w1, v1, hb, hi, fadr_cells3, unless_t]
            rfl
          · rw [if_neg hz]
            have hb : (ls.getD 1 0 == 0) = false := beq_eq_false_iff_ne.2 hz
            refine cw0_ret fn14 (c := c14) rfl rfl rfl rfl ?_
            simp -implicitDefEqProofs only [c14, aW, ↓aP, makes, Nat.reduceLT, Nat.reduceEqDiff, Nat.reduceAdd, ↓reduceIte, Nat.reduceBEq, core_box, box_tr, List.length_nil, List.length_cons, fadr_ptr, h2, h2', lenV_args, hwr, hmk, L, e0, e1, e2, e3, e6, e7, bin_eqlS, isS_eq, hf, w0, v0, w1, v1, hb, hi, fadr_cells3, unless_f]
            rfl
        | false =>
          rw [if_neg (by simp)]
          cases hp : isS t.n [45, 62] with
          | true =>
            rw [if_pos ⟨k7, rfl⟩]
            refine cw0_ret fn14 (c := c14) rfl rfl rfl rfl ?_
            simp -implicitDefEqProofs only [c14, aW, ↓aP, makes, Nat.reduceLT, Nat.reduceEqDiff, Nat.reduceAdd, ↓reduceIte, Nat.reduceBEq, core_box, box_tr, List.length_nil, List.length_cons, fadr_ptr, h2, h2', lenV_args, hwr, hmk, L, e0, e1, e2, e3, e6, e7, bin_eqlS, isS_eq, hf, hp, w0, v0]
            rfl
          | false =>
            rw [if_neg (by simp), if_neg (by omega)]
            refine cw0_ret fn14 (c := c14) rfl rfl rfl rfl ?_
            simp -implicitDefEqProofs only [c14, aW, ↓aP, makes, Nat.reduceLT, Nat.reduceEqDiff, Nat.reduceAdd, ↓reduceIte, Nat.reduceBEq, core_box, box_tr, List.length_nil, List.length_cons, fadr_ptr, h2, h2', lenV_args, hwr, hmk, L, e0, e1, e2, e3, e6, e7, e9, e10, bin_eqlS, isS_eq, hf, hp, M]
            rfl
      · have e7 : (t.k == 7) = false := beq_eq_false_iff_ne.2 k7
        rw [if_neg (fun h => k7 h.1), if_neg (fun h => k7 h.1)]
        have B := bad_loop t S.len ls hln t.ts 0 H' rfl (Nat.zero_le _) x1
        rw [show ((0 : Nat) : Int) = 0 from rfl, List.drop_zero] at B
        by_cases k9 : t.k = 9
        · have e9 : (t.k == 9) = true := by rw [k9]; rfl
          rw [if_pos (.inl k9)]
          cases hB : bad t.ts ls with
          | ok x =>
            rw [hB] at B
            obtain ⟨i2, H2, B⟩ := B
            have hx : x = 0 := bad_zero t.ts ls x hB
            subst hx
            refine cw0_ret fn14 (c := c14) rfl rfl rfl rfl ?_
            simp -implicitDefEqProofs only [c14, aW, ↓aP, makes, Nat.reduceLT, Nat.reduceEqDiff, Nat.reduceAdd, ↓reduceIte, Nat.reduceBEq, core_box, box_tr, List.length_nil, List.length_cons, fadr_ptr, h2, h2', lenV_args, hwr, hmk, L, e0, e1, e2, e3, e6, e7, e9, B]
            rfl
          | error q =>
            rw [hB] at B
            obtain ⟨fr2, H2, B⟩ := B
            refine cw0_ret fn14 (c := c14) rfl rfl rfl rfl ?_
            simp -implicitDefEqProofs only [c14, aW, ↓aP, makes, Nat.reduceLT, Nat.reduceEqDiff, Nat.reduceAdd, ↓reduceIte, Nat.reduceBEq, core_box, box_tr, List.length_nil, List.length_cons, fadr_ptr, h2, h2', lenV_args, hwr, hmk, L, e0, e1, e2, e3, e6, e7, e9, B]
            rfl
        · have e9 : (t.k == 9) = false := beq_eq_false_iff_ne.2 k9
          by_cases k10 : t.k = 10
          · have e10 : (t.k == 10) = true := by rw [k10]; rfl
            rw [if_pos (.inr k10)]
            cases hB : bad t.ts ls with
            | ok x =>
              rw [hB] at B
              obtain ⟨i2, H2, B⟩ := B
              have hx : x = 0 := bad_zero t.ts ls x hB
              subst hx
              refine cw0_ret fn14 (c := c14) rfl rfl rfl rfl ?_
              simp -implicitDefEqProofs only [c14, aW, ↓aP, makes, Nat.reduceLT, Nat.reduceEqDiff, Nat.reduceAdd, ↓reduceIte, Nat.reduceBEq, core_box, box_tr, List.length_nil, List.length_cons, fadr_ptr, h2, h2', lenV_args, hwr, hmk, L, e0, e1, e2, e3, e6, e7, e9, e10, B]
              rfl
            | error q =>
              rw [hB] at B
              obtain ⟨fr2, H2, B⟩ := B
              refine cw0_ret fn14 (c := c14) rfl rfl rfl rfl ?_
              simp -implicitDefEqProofs only [c14, aW, ↓aP, makes, Nat.reduceLT, Nat.reduceEqDiff, Nat.reduceAdd, ↓reduceIte, Nat.reduceBEq, core_box, box_tr, List.length_nil, List.length_cons, fadr_ptr, h2, h2', lenV_args, hwr, hmk, L, e0, e1, e2, e3, e6, e7, e9, e10, B]
              rfl
          · have e10 : (t.k == 10) = false := beq_eq_false_iff_ne.2 k10
            rw [if_neg (fun h => h.elim k9 k10)]
            refine cw0_ret fn14 (c := c14) rfl rfl rfl rfl ?_
            simp -implicitDefEqProofs only [c14, aW, ↓aP, makes, Nat.reduceLT, Nat.reduceEqDiff, Nat.reduceAdd, ↓reduceIte, Nat.reduceBEq, core_box, box_tr, List.length_nil, List.length_cons, fadr_ptr, h2, h2', lenV_args, hwr, hmk, L, e0, e1, e2, e3, e6, e7, e9, e10, M]
            rfl
theorem lev_call : ∀ t : Tr, Shp t → ∀ H id, callV cw0 mds 14 [.agg t.cells] H id = levOut H (lev t) :=
  Tr.ind fun k n z c ts p ih S H id => (lev_row _ S fun a ha => ih a ha (S.sub a ha)).call H id
end Go.Proofs.Ytkogkfpiijmbgaa.Ai
namespace Go.Proofs.Ytkogkfpiijmbgaa.Ai
open Go Go.Ai
def Upd (H H' : List AO) (p : Nat) (o : AO) : Prop := H'[p]? = some o ∧ ∀ r x, r ≠ p → H[r]? = some x → H'[r]? = some x
theorem Upd.set {H : List AO} {p : Nat} {x o : AO} (h : H[p]? = some x) : Upd H (setL H p o) p o := by
  have hp := (List.getElem?_eq_some_iff.1 h).1
  refine ⟨by unfold setL; simp [hp], fun r y hr hy => ?_⟩
  unfold setL
  rw [List.getElem?_set, if_neg (fun e => hr e.symm)]; exact hy
theorem Upd.refl {H : List AO} {p : Nat} {x : AO} (h : H[p]? = some x) : Upd H H p x := ⟨h, fun _ _ _ h => h⟩
theorem Upd.trans {H H' H'' : List AO} {p : Nat} {o o' : AO} (h : Upd H H' p o) (h' : Upd H' H'' p o') : Upd H H'' p o' := ⟨h'.1, fun r x hr hx => h'.2 r x hr (h.2 r x hr hx)⟩
theorem callV_upd {f : FuncId} {args : List AV} {a : AV} {H H' : List AO} {p : Nat} {o x : AO} {id : Nat} (hm : mds f = .ref) (h : cw0 f args H = some (.ret a, H')) (hx : H[p]? = some x) (U : Upd H H' p o) : ∃ H'', callV cw0 mds f args H id = some (.wr a H'') ∧ Upd H H'' p o := by
  unfold callV
  rw [hm]
  simp only
  rw [h]
  simp only [Option.bind_some]
  cases hb : (below H.length frzF a && (H'.take H.length).all (belowO H.length)) with
  | true =>
    refine ⟨H'.take H.length, rfl, ?_, fun r y hr hy => ?_⟩
    · rw [List.getElem?_take, if_pos (List.getElem?_eq_some_iff.1 hx).1]; exact U.1
    · rw [List.getElem?_take, if_pos (List.getElem?_eq_some_iff.1 hy).1]; exact U.2 r y hr hy
  | false => exact ⟨_, rfl, U⟩
def intOf : Option (R × List AO) → Option Int
  | some (.ret (.lit (.int .i64 n)), _) => some n
  | _ => none
theorem intOf_some {x : Option (R × List AO)} {n : Int} (h : intOf x = some n) : ∃ H', x = some (.ret (litI .i64 n), H') := by
  unfold intOf at h
  split at h
  · cases h; exact ⟨_, rfl⟩
  · cases h
def kindR (c : Nat) : Option Int := intOf (callB (lookF tb) ov0 (lookM mtl) mds 20 81 [litI .u8 (c : Int)] [])
def kindK (c : Nat) : Int :=
  if c = 32 ∨ c = 9 ∨ c = 10 ∨ c = 13 then 1
  else if 97 ≤ c ∧ c ≤ 122 ∨ c = 95 then 2
  else if 65 ≤ c ∧ c ≤ 90 then 3
  else if 48 ≤ c ∧ c ≤ 57 then 4
  else if c ∈ [40, 41, 123, 125, 44, 59, 58, 124, 43, 42, 47, 45, 60, 62, 61, 33] then 5
  else 0
set_option maxRecDepth 1000000 in
theorem kind_all : (List.range 256).all (fun c => kindR c == some (kindK c)) = true := by kernel_rfl
theorem kind_call (c : Nat) (h : c < 256) (H : List AO) (id : Nat) : callV cw0 mds 81 [litI .u8 (c : Int)] H id = some (.val (litI .i64 (kindK c)) none) := by
  have := List.all_eq_true.1 kind_all c (List.mem_range.2 h)
  obtain ⟨H', h'⟩ := intOf_some (eq_of_beq this)
  exact callV_pure rfl rfl (callB_leW 20 _ _ _ _ h') rfl
theorem kind_rng (c : Nat) : kindK c ∈ ([0, 1, 2, 3, 4, 5] : List Int) := by
  unfold kindK
  repeat' split
  all_goals decide
def boolOf : Option (R × List AO) → Option Bool
  | some (.ret (.lit (.bool n)), _) => some n
  | _ => none
theorem boolOf_some {x : Option (R × List AO)} {n : Bool} (h : boolOf x = some n) : ∃ H', x = some (.ret (litB n), H') := by
  unfold boolOf at h
  split at h
  · cases h; exact ⟨_, rfl⟩
  · cases h
def allK : List (List Int) := [[2, 3, 4], [4]]
set_option maxRecDepth 1000000 in
theorem cont_all : (allK.all fun ks => ([0, 1, 2, 3, 4, 5] : List Int).all fun v => boolOf (callB (lookF tb) ov0 (lookM mtl) mds 20 88 [slI (some ks.length) ks, litI .i64 v] []) == some (ks.contains v)) = true := by kernel_rfl
theorem cont_call {ks : List Int} (hk : ks ∈ allK) {v : Int} (hv : v ∈ ([0, 1, 2, 3, 4, 5] : List Int)) (H : List AO) (id : Nat) : callV cw0 mds 88 [slI (some ks.length) ks, litI .i64 v] H id = some (.val (litB (ks.contains v)) none) := by
  have := List.all_eq_true.1 (List.all_eq_true.1 cont_all ks hk) v hv
  obtain ⟨H', h'⟩ := boolOf_some (eq_of_beq this)
  exact callV_pure rfl rfl (callB_leW 20 _ _ _ _ h') rfl
def bytesA (b : List UInt8) : AV := .sl 1 (b.map fun x => [litI .u8 x.toNat]) none
def lexR (b : List UInt8) (i : Nat) : AO := .row [bytesA b, litI .i64 i] 83
theorem lenV_bytes (b : List UInt8) : lenV (bytesA b) = some (litI .i64 b.length) := by
  unfold bytesA; rw [lenV_sl, List.length_map]
theorem iadr_bytes {b : List UInt8} {i : Nat} {x : UInt8} (h : b[i]? = some x) {k : IntKind} : iadr 1 (bytesA b) (litI k i) = some (.ip [litI .u8 x.toNat]) := by
  unfold bytesA
  rw [iadr_sl, if_pos (Int.natCast_nonneg i), Int.toNat_natCast, List.getElem?_map, h]
  rfl
theorem lx0 {H : List AO} {p i : Nat} {b : List UInt8} (h : H[p]? = some (lexR b i)) : Ai.load H none (.ptr p 0) = some (bytesA b) := by rw [load_ptr h]; rfl
theorem lx1 {H : List AO} {p i : Nat} {b : List UInt8} (h : H[p]? = some (lexR b i)) : Ai.load H none (.ptr p 1) = some (litI .i64 i) := by rw [load_ptr h]; rfl
theorem lxs {H : List AO} {p i j : Nat} {b : List UInt8} (h : H[p]? = some (lexR b i)) : storeAt H 1 (.ptr p 1) (litI .i64 j) = some (setL H p (lexR b j)) := by
  rw [store_ptr h (by simp) rfl rfl]; rfl
def pk (b : List UInt8) (i : Nat) : Nat := match b[i]? with
  | some x => x.toNat
  | none => 0
theorem pk_some {b : List UInt8} {i : Nat} {x : UInt8} (h : b[i]? = some x) : pk b i = x.toNat := by unfold pk; rw [h]
theorem pk_lt (b : List UInt8) (i : Nat) : pk b i < 256 := by
  unfold pk; split
  · exact UInt8.toNat_lt _
  · omega
theorem wrapN {n : Nat} (h : n < 4611686018427387904) (m : Nat) (hm : m ≤ 4) : IntKind.wrap .i64 ((n : Int) + (m : Int)) = ((n + m : Nat) : Int) := by rw [Go.Ai.wrap_small] <;> omega
theorem peek_tells {H : List AO} {p i : Nat} {b : List UInt8} (h : H[p]? = some (lexR b i)) (hb : b.length ≤ 70000) (hi : i ≤ b.length) (m : Nat) (hm : m ≤ 4) : cw0 82 [.ptr p 0, litI .i64 (m : Int)] H = some (.ret (litI .u8 (pk b (i + m) : Nat)), H) := by
  refine cw0_of fn82 (c := c82) rfl rfl rfl rfl ?_
  have h0 := lx0 h
  have h1 := lx1 h
  have hw := wrapN (n := i) (by omega) m hm
  by_cases hl : i + m < b.length
  · have hlt : ((i + m : Nat) : Int) < b.length := by omega
    have hg : b[i + m]? = some b[i + m] := List.getElem?_eq_getElem hl
    have hi := iadr_bytes hg (k := .i64)
    rw [pk_some hg]
    simp -implicitDefEqProofs only [c82, aW, ↓aP, makes, Nat.reduceLT, Nat.reduceEqDiff, Nat.reduceAdd, ↓reduceIte, Nat.reduceBEq, fadr_ptr, nilck_ptr, h0, h1, hw, lenV_bytes, hlt, hi]
    rfl
  · have hlt : ¬ (((i + m : Nat) : Int) < b.length) := by omega
    have hg : b[i + m]? = none := List.getElem?_eq_none (by omega)
    have : pk b (i + m) = 0 := by unfold pk; rw [hg]
    rw [this]
    simp -implicitDefEqProofs only [c82, aW, ↓aP, makes, Nat.reduceLT, Nat.reduceEqDiff, Nat.reduceAdd, ↓reduceIte, Nat.reduceBEq, fadr_ptr, nilck_ptr, h0, h1, hw, lenV_bytes, hlt]
    rfl
theorem peek_call {H : List AO} {p i : Nat} {b : List UInt8} (h : H[p]? = some (lexR b i)) (hb : b.length ≤ 70000) (hi : i ≤ b.length) (m : Nat) (hm : m ≤ 4) (id : Nat) : callV cw0 mds 82 [.ptr p 0, litI .i64 (m : Int)] H id = some (.wr (litI .u8 (pk b (i + m) : Nat)) H) :=
  callV_same rfl (peek_tells h hb hi m hm) rfl
def whileN (b : List UInt8) (ks : List Int) : Nat → Nat → Nat
  | 0, i => i
  | n + 1, i => if i < b.length ∧ ks.contains (kindK (pk b i)) = true then whileN b ks n (i + 1) else i
def whileF (b : List UInt8) (ks : List Int) (i : Nat) : Nat := whileN b ks (b.length - i) i
theorem while_loop {ks : List Int} (hk : ks ∈ allK) {p : Nat} {b : List UInt8} (hb : b.length ≤ 70000) : ∀ (n i : Nat) (H : List AO), n = b.length - i → i ≤ b.length → H[p]? = some (lexR b i) →
    ∃ H', loopW (codeW cw0 (lookM mtl) mds c83l0) [0, 1] [(0, .ptr p 0), (1, slI (some ks.length) ks)] H = some (.exit 0, [(0, .ptr p 0), (1, slI (some ks.length) ks), (28, litB false)], H') ∧ Upd H H' p (lexR b (whileN b ks n i)) ∧ whileN b ks n i ≤ b.length ∧ i ≤ whileN b ks n i
  | 0, i, H, hn, hi, h => by
    have h0 := lx0 h
    have h1 := lx1 h
    refine ⟨H, ?_, Upd.refl h, hi, Nat.le_refl _⟩
    refine loopW_out ?_ (by simp)
    simp -implicitDefEqProofs only [c83l0, aW, ↓aP, makes, Nat.reduceLT, Nat.reduceEqDiff, Nat.reduceAdd, ↓reduceIte, Nat.reduceBEq, fadr_ptr, nilck_ptr, h0, h1, lenV_bytes, show ¬ ((i : Int) < b.length) by omega]
  | n + 1, i, H, hn, hi, h => by
    have h0 := lx0 h
    have h1 := lx1 h
    have hl : i < b.length := by omega
    have hlt : (i : Int) < b.length := by omega
    have hg : b[i]? = some b[i] := List.getElem?_eq_getElem hl
    have hi' := iadr_bytes hg (k := .i64)
    have hk1 := kind_call b[i].toNat (UInt8.toNat_lt _)
    have hc := cont_call hk (kind_rng b[i].toNat)
    rw [whileN, pk_some hg]
    by_cases hx : ks.contains (kindK b[i].toNat) = true
    · rw [if_pos ⟨hl, hx⟩]
      rw [hx] at hc
      have hs := lxs (j := i + 1) h
      have step : codeW cw0 (lookM mtl) mds c83l0 (keep [0, 1] [(0, .ptr p 0), (1, slI (some ks.length) ks)]) H = some (.normal, [(0, .ptr p 0), (1, slI (some ks.length) ks)], setL H p (lexR b (i + 1))) := by
        simp -implicitDefEqProofs only [c83l0, aW, ↓aP, makes, Nat.reduceLT, Nat.reduceEqDiff, Nat.reduceAdd, ↓reduceIte, Nat.reduceBEq, fadr_ptr, nilck_ptr, h0, h1, lenV_bytes, hlt, hi', hk1, hc, wrap1 (show i < 4611686018427387904 by omega), hs]
      obtain ⟨H', L, U, x1, x2⟩ := while_loop hk hb n (i + 1) (setL H p (lexR b (i + 1))) (by omega) (by omega) (Upd.set h).1
      exact ⟨H', loopW_round step L, (Upd.set h).trans U, x1, by omega⟩
    · rw [if_neg (fun e => hx e.2)]
      rw [Bool.not_eq_true] at hx
      rw [hx] at hc
      refine ⟨H, ?_, Upd.refl h, hi, Nat.le_refl _⟩
      refine loopW_out ?_ (by simp)
      simp -implicitDefEqProofs only [c83l0, aW, ↓aP, makes, Nat.reduceLT, Nat.reduceEqDiff, Nat.reduceAdd, ↓reduceIte, Nat.reduceBEq, fadr_ptr, nilck_ptr, h0, h1, lenV_bytes, hlt, hi', hk1, hc]
theorem while_call {ks : List Int} (hk : ks ∈ allK) {p i : Nat} {b : List UInt8} {H : List AO} (h : H[p]? = some (lexR b i)) (hb : b.length ≤ 70000) (hi : i ≤ b.length) (id : Nat) :
    ∃ H', callV cw0 mds 83 [.ptr p 0, slI (some ks.length) ks] H id = some (.wr (.tup []) H') ∧ Upd H H' p (lexR b (whileF b ks i)) := by
  obtain ⟨H', L, U, x1, x2⟩ := while_loop hk hb _ i H rfl hi h
  refine callV_upd (H' := H') rfl ?_ h U
  refine cw0_of fn83 (c := c83) rfl rfl rfl rfl ?_
  simp -implicitDefEqProofs only [c83, aW, ↓aP, makes, Nat.reduceLT, Nat.reduceEqDiff, Nat.reduceAdd, ↓reduceIte, Nat.reduceBEq, L]
  rfl
theorem whileF_le (b : List UInt8) (ks : List Int) (i : Nat) (hi : i ≤ b.length) : whileF b ks i ≤ b.length ∧ i ≤ whileF b ks i := by
  unfold whileF
  have : ∀ (n i : Nat), i ≤ b.length → whileN b ks n i ≤ b.length ∧ i ≤ whileN b ks n i := by
    intro n
    induction n with
    | zero => intro i hi; exact ⟨hi, Nat.le_refl _⟩
    | succ n ih =>
      intro i hi
      rw [whileN]
      split
      · rename_i h; have := ih (i + 1) (by omega); omega
      · exact ⟨hi, Nat.le_refl _⟩
  exact this _ i hi
end Go.Proofs.Ytkogkfpiijmbgaa.Ai
namespace Go.Proofs.Ytkogkfpiijmbgaa.Ai
open Go Go.Ai
def lineN (b : List UInt8) : Nat → Nat → Nat
  | 0, i => i
  | n + 1, i => if i < b.length ∧ pk b i ≠ 10 then lineN b n (i + 1) else i
def lineF (b : List UInt8) (i : Nat) : Nat := lineN b (b.length - i) i
theorem lineN_le (b : List UInt8) : ∀ (n i : Nat), i ≤ b.length → lineN b n i ≤ b.length ∧ i ≤ lineN b n i
  | 0, i, hi => ⟨hi, Nat.le_refl _⟩
  | n + 1, i, hi => by
    rw [lineN]
    split
    · rename_i h; have := lineN_le b n (i + 1) (by omega); omega
    · exact ⟨hi, Nat.le_refl _⟩
theorem line_loop {p : Nat} {b : List UInt8} (hb : b.length ≤ 70000) : ∀ (n i : Nat) (H : List AO), n = b.length - i → i ≤ b.length → H[p]? = some (lexR b i) →
    ∃ H', loopW (codeW cw0 (lookM mtl) mds c76l0) [0] [(0, .ptr p 0)] H = some (.exit 3, [(0, .ptr p 0), (63, litB false)], H') ∧ Upd H H' p (lexR b (lineN b n i))
  | 0, i, H, hn, hi, h => by
    have h0 := lx0 h
    have h1 := lx1 h
    refine ⟨H, ?_, Upd.refl h⟩
    refine loopW_out ?_ (by simp)
    simp -implicitDefEqProofs only [c76l0, aW, ↓aP, makes, Nat.reduceLT, Nat.reduceEqDiff, Nat.reduceAdd, ↓reduceIte, Nat.reduceBEq, fadr_ptr, nilck_ptr, h0, h1, lenV_bytes, show ¬ ((i : Int) < b.length) by omega]
  | n + 1, i, H, hn, hi, h => by
    have h0 := lx0 h
    have h1 := lx1 h
    have hl : i < b.length := by omega
    have hlt : (i : Int) < b.length := by omega
    have hg : b[i]? = some b[i] := List.getElem?_eq_getElem hl
    have hi' := iadr_bytes hg (k := .i64)
    rw [lineN, pk_some hg]
    by_cases hx : b[i].toNat ≠ 10
    · rw [if_pos ⟨hl, hx⟩]
      have hne : ((b[i].toNat : Int) != 10) = true := bne_iff_ne.2 (by omega)
      have hs := lxs (j := i + 1) h
      have step : codeW cw0 (lookM mtl) mds c76l0 (keep [0] [(0, .ptr p 0)]) H = some (.normal, [(0, .ptr p 0)], setL H p (lexR b (i + 1))) := by
        simp -implicitDefEqProofs only [c76l0, aW, ↓aP, makes, Nat.reduceLT, Nat.reduceEqDiff, Nat.reduceAdd, ↓reduceIte, Nat.reduceBEq, fadr_ptr, nilck_ptr, h0, h1, lenV_bytes, hlt, hi', hne, wrap1 (show i < 4611686018427387904 by omega), hs]
      obtain ⟨H', L, U⟩ := line_loop hb n (i + 1) (setL H p (lexR b (i + 1))) (by omega) (by omega) (Upd.set h).1
      exact ⟨H', loopW_round step L, (Upd.set h).trans U⟩
    · rw [if_neg (fun e => hx e.2)]
      have hne : ((b[i].toNat : Int) != 10) = false := by
        rw [bne_eq_false_iff_eq]; omega
      refine ⟨H, ?_, Upd.refl h⟩
      refine loopW_out ?_ (by simp)
      simp -implicitDefEqProofs only [c76l0, aW, ↓aP, makes, Nat.reduceLT, Nat.reduceEqDiff, Nat.reduceAdd, ↓reduceIte, Nat.reduceBEq, fadr_ptr, nilck_ptr, h0, h1, lenV_bytes, hlt, hi', hne]
def skipN (b : List UInt8) : Nat → Nat → Nat
  | 0, i => i
  | n + 1, i => if i < b.length then (if kindK (pk b i) = 1 then skipN b n (i + 1) else if pk b i = 45 ∧ pk b (i + 1) = 45 then skipN b n (lineF b i) else i) else i
def skipF (b : List UInt8) (i : Nat) : Nat := skipN b (b.length - i) i
theorem lineF_lt {b : List UInt8} {i : Nat} (hl : i < b.length) (hp : pk b i = 45) : lineF b i ≤ b.length ∧ i + 1 ≤ lineF b i := by
  unfold lineF
  rw [show b.length - i = (b.length - i - 1) + 1 by omega, lineN, if_pos ⟨hl, by omega⟩]
  exact lineN_le b _ (i + 1) (by omega)
theorem skipN_le (b : List UInt8) : ∀ (n i : Nat), i ≤ b.length → skipN b n i ≤ b.length ∧ i ≤ skipN b n i
  | 0, i, hi => ⟨hi, Nat.le_refl _⟩
  | n + 1, i, hi => by
    rw [skipN]
    split
    · rename_i h
      split
      · have := skipN_le b n (i + 1) (by omega); omega
      · split
        · rename_i hp
          have h1 := lineF_lt h hp.1
          have := skipN_le b n (lineF b i) h1.1; omega
        · exact ⟨hi, Nat.le_refl _⟩
    · exact ⟨hi, Nat.le_refl _⟩
theorem skip_loop {p : Nat} {b : List UInt8} (hb : b.length ≤ 70000) : ∀ (n i : Nat) (H : List AO), b.length - i ≤ n → i ≤ b.length → H[p]? = some (lexR b i) →
    ∃ e fr' H', loopW (codeW cw0 (lookM mtl) mds c76l1) [0] [(0, .ptr p 0)] H = some (e, fr', H') ∧ (e = .exit 0 ∨ e = .ret) ∧ Upd H H' p (lexR b (skipN b n i))
  | 0, i, H, hn, hi, h => by
    have h0 := lx0 h
    have h1 := lx1 h
    refine ⟨.exit 0, [(0, .ptr p 0), (11, litB false)], H, ?_, .inl rfl, Upd.refl h⟩
    refine loopW_out ?_ (by simp)
    simp -implicitDefEqProofs only [c76l1, aW, ↓aP, makes, Nat.reduceLT, Nat.reduceEqDiff, Nat.reduceAdd, ↓reduceIte, Nat.reduceBEq, fadr_ptr, nilck_ptr, h0, h1, lenV_bytes, show ¬ ((i : Int) < b.length) by omega]
  | n + 1, i, H, hn, hi, h => by
    have h0 := lx0 h
    have h1 := lx1 h
    rw [skipN]
    by_cases hl : i < b.length
    case neg =>
      rw [if_neg hl]
      refine ⟨.exit 0, [(0, .ptr p 0), (11, litB false)], H, ?_, .inl rfl, Upd.refl h⟩
      refine loopW_out ?_ (by simp)
      simp -implicitDefEqProofs only [c76l1, aW, ↓aP, makes, Nat.reduceLT, Nat.reduceEqDiff, Nat.reduceAdd, ↓reduceIte, Nat.reduceBEq, fadr_ptr, nilck_ptr, h0, h1, lenV_bytes, show ¬ ((i : Int) < b.length) by omega]
    rw [if_pos hl]
    have hlt : (i : Int) < b.length := by omega
    have hg : b[i]? = some b[i] := List.getElem?_eq_getElem hl
    have hi' := iadr_bytes hg (k := .i64)
    have hk := kind_call b[i].toNat (UInt8.toNat_lt _)
    rw [← pk_some hg] at hi' hk
    by_cases hx : kindK (pk b i) = 1
    · rw [if_pos hx]
      have he : (kindK (pk b i) == 1) = true := beq_iff_eq.2 hx
      have hs := lxs (j := i + 1) h
      have step : codeW cw0 (lookM mtl) mds c76l1 (keep [0] [(0, .ptr p 0)]) H = some (.normal, [(0, .ptr p 0)], setL H p (lexR b (i + 1))) := by
        simp -implicitDefEqProofs only [c76l1, aW, ↓aP, makes, Nat.reduceLT, Nat.reduceEqDiff, Nat.reduceAdd, ↓reduceIte, Nat.reduceBEq, fadr_ptr, nilck_ptr, h0, h1, lenV_bytes, hlt, hi', hk, he, wrap1 (show i < 4611686018427387904 by omega), hs]
      obtain ⟨e, fr', H', L, x1, U⟩ := skip_loop hb n (i + 1) (setL H p (lexR b (i + 1))) (by omega) (by omega) (Upd.set h).1
      exact ⟨e, fr', H', loopW_round step L, x1, (Upd.set h).trans U⟩
    · rw [if_neg hx]
      have he : (kindK (pk b i) == 1) = false := beq_eq_false_iff_ne.2 hx
      have p0 := peek_call h hb hi 0 (by omega)
      have p1 := peek_call h hb hi 1 (by omega)
      rw [show ((0 : Nat) : Int) = 0 from rfl, Nat.add_zero] at p0
      rw [show ((1 : Nat) : Int) = 1 from rfl] at p1
      by_cases d0 : pk b i = 45
      · have q0 : (((pk b i : Nat) : Int) == 45) = true := beq_iff_eq.2 (by omega)
        by_cases d1 : pk b (i + 1) = 45
        · rw [if_pos ⟨d0, d1⟩]
          have q1 : (((pk b (i + 1) : Nat) : Int) == 45) = true := beq_iff_eq.2 (by omega)
          obtain ⟨H1, L0, U1⟩ := line_loop hb (b.length - i) i H rfl hi h
          have L1 : loopW (codeW cw0 (lookM mtl) mds c76l0) [0] [(0, .ptr p 0), (32, litB true)] H = some (.exit 3, [(0, .ptr p 0), (63, litB false)], H1) := by
            rw [← loopW_keep]; exact L0
          have step : codeW cw0 (lookM mtl) mds c76l1 (keep [0] [(0, .ptr p 0)]) H = some (.normal, [(0, .ptr p 0), (63, litB false)], H1) := by
            simp -implicitDefEqProofs only [c76l1, aW, ↓aP, makes, Nat.reduceLT, Nat.reduceEqDiff, Nat.reduceAdd, ↓reduceIte, Nat.reduceBEq, fadr_ptr, nilck_ptr, h0, h1, lenV_bytes, hlt, hi', hk, he, p0, p1, q0, q1, L1]
          have hlf := lineF_lt hl d0
          obtain ⟨e, fr', H', L, x1, U⟩ := skip_loop hb n (lineF b i) H1 (by omega) hlf.1 U1.1
          exact ⟨e, fr', H', loopW_next step rfl L, x1, U1.trans U⟩
        · rw [if_neg (fun e => d1 e.2)]
          have q1 : (((pk b (i + 1) : Nat) : Int) == 45) = false := beq_eq_false_iff_ne.2 (by omega)
          refine ⟨.ret, [(0, .ptr p 0), (32, litB false)], H, ?_, .inr rfl, Upd.refl h⟩
          refine loopW_out ?_ (by simp)
          simp -implicitDefEqProofs only [c76l1, aW, ↓aP, makes, Nat.reduceLT, Nat.reduceEqDiff, Nat.reduceAdd, ↓reduceIte, Nat.reduceBEq, fadr_ptr, nilck_ptr, h0, h1, lenV_bytes, hlt, hi', hk, he, p0, p1, q0, q1]
      · rw [if_neg (fun e => d0 e.1)]
        have q0 : (((pk b i : Nat) : Int) == 45) = false := beq_eq_false_iff_ne.2 (by omega)
        refine ⟨.ret, [(0, .ptr p 0), (32, litB false)], H, ?_, .inr rfl, Upd.refl h⟩
        refine loopW_out ?_ (by simp)
        simp -implicitDefEqProofs only [c76l1, aW, ↓aP, makes, Nat.reduceLT, Nat.reduceEqDiff, Nat.reduceAdd, ↓reduceIte, Nat.reduceBEq, fadr_ptr, nilck_ptr, h0, h1, lenV_bytes, hlt, hi', hk, he, p0, p1, q0]
theorem skip_call {p i : Nat} {b : List UInt8} {H : List AO} (h : H[p]? = some (lexR b i)) (hb : b.length ≤ 70000) (hi : i ≤ b.length) (id : Nat) :
    ∃ H', callV cw0 mds 76 [.ptr p 0] H id = some (.wr (.tup []) H') ∧ Upd H H' p (lexR b (skipF b i)) := by
  obtain ⟨e, fr', H', L, he, U⟩ := skip_loop hb (b.length - i) i H (Nat.le_refl _) hi h
  refine callV_upd (H' := H') rfl ?_ h U
  refine cw0_of fn76 (c := c76) rfl rfl rfl rfl ?_
  rcases he with rfl | rfl
  · simp -implicitDefEqProofs only [c76, aW, ↓aP, makes, Nat.reduceLT, Nat.reduceEqDiff, Nat.reduceAdd, ↓reduceIte, Nat.reduceBEq, L]
    rfl
  · simp -implicitDefEqProofs only [c76, aW, ↓aP, makes, Nat.reduceLT, Nat.reduceEqDiff, Nat.reduceAdd, ↓reduceIte, Nat.reduceBEq, L]
    rfl
def two (b : List UInt8) (i : Nat) : Bool := (pk b i == 45 && pk b (i + 1) == 62) || ((pk b i == 60 || pk b i == 62 || pk b i == 61 || pk b i == 33) && pk b (i + 1) == 61)
def punF (b : List UInt8) (i : Nat) : Option Nat := if two b i = true then some (i + 2) else if (pk b i == 33) = true then none else some (i + 1)
theorem pkb (b : List UInt8) (i : Nat) (n : Nat) : (((pk b i : Nat) : Int) == (n : Int)) = (pk b i == n) := by
  by_cases h : pk b i = n
  · rw [beq_iff_eq.2 h]; exact beq_iff_eq.2 (by omega)
  · rw [beq_eq_false_iff_ne.2 h]; exact beq_eq_false_iff_ne.2 (by omega)
def punOut (p : Nat) (b : List UInt8) (i : Nat) : Prop := ∀ H : List AO, H[p]? = some (lexR b i) → cw0 84 [.ptr p 0] H = some (.ret (litB (punF b i).isSome), setL H p (lexR b ((punF b i).getD i)))
set_option maxHeartbeats 8000000 in
theorem pun_tells {p i : Nat} {b : List UInt8} (hb : b.length ≤ 70000) (hi : i ≤ b.length) : punOut p b i := by
  intro H h
  refine cw0_of fn84 (c := c84) rfl rfl rfl rfl ?_
  have h1 := lx1 h
  have p0 := peek_call h hb hi 0 (by omega)
  have p1 := peek_call h hb hi 1 (by omega)
  rw [show ((0 : Nat) : Int) = 0 from rfl, Nat.add_zero] at p0
  rw [show ((1 : Nat) : Int) = 1 from rfl] at p1
  have s1 := lxs (j := i + 1) h
  have s2 := lxs (j := i + 2) h
  have w2 := wrapN (n := i) (by omega) 2 (by omega)
  rw [show ((2 : Nat) : Int) = 2 from rfl] at w2
  have c45 := pkb b i 45
  have c60 := pkb b i 60
  have c62 := pkb b i 62
  have c61 := pkb b i 61
  have c33 := pkb b i 33
  have d62 := pkb b (i + 1) 62
  have d61 := pkb b (i + 1) 61
  have self : setL H p (lexR b i) = H := by
    unfold setL
    apply List.ext_getElem?
    intro j
    rw [List.getElem?_set]
    by_cases e : p = j
    · subst e; rw [if_pos rfl, if_pos (List.getElem?_eq_some_iff.1 h).1]; exact h.symm
    · rw [if_neg e]
  unfold punF two
  simp only [show ((45 : Nat) : Int) = 45 from rfl, show ((60 : Nat) : Int) = 60 from rfl, show ((62 : Nat) : Int) = 62 from rfl, show ((61 : Nat) : Int) = 61 from rfl, show ((33 : Nat) : Int) = 33 from rfl] at c45 c60 c62 c61 c33 d62 d61
  generalize (pk b i == 45) = b45 at *
  generalize (pk b i == 60) = b60 at *
  generalize (pk b i == 62) = b62 at *
  generalize (pk b i == 61) = b61 at *
  generalize (pk b i == 33) = b33 at *
  generalize (pk b (i + 1) == 62) = e62 at *
  generalize (pk b (i + 1) == 61) = e61 at *
  cases b45 <;> cases e62 <;> cases b60 <;> cases b62 <;> cases b61 <;> cases b33 <;> cases e61 <;> (
    simp -implicitDefEqProofs only [c84, aW, ↓aP, makes, Nat.reduceLT, Nat.reduceEqDiff, Nat.reduceAdd, ↓reduceIte, Nat.reduceBEq, fadr_ptr, nilck_ptr, p0, p1, c45, c60, c62, c61, c33, d62, d61, h1, w2, wrap1 (show i < 4611686018427387904 by omega), s1, s2, Bool.and_true, Bool.true_and, Bool.and_false, Bool.false_and, Bool.false_eq_true, Option.isSome_some, Option.isSome_none, Option.getD_some, Option.getD_none, self]
    rfl)
theorem pun_call {p i : Nat} {b : List UInt8} {H : List AO} (h : H[p]? = some (lexR b i)) (hb : b.length ≤ 70000) (hi : i ≤ b.length) (id : Nat) :
    ∃ H', callV cw0 mds 84 [.ptr p 0] H id = some (.wr (litB (punF b i).isSome) H') ∧ Upd H H' p (lexR b ((punF b i).getD i)) :=
  callV_upd rfl (pun_tells hb hi H h) h (Upd.set h)
end Go.Proofs.Ytkogkfpiijmbgaa.Ai
namespace Go.Proofs.Ytkogkfpiijmbgaa.Ai
open Go Go.Ai
def sEq (a b : ByteArray) : Bool := a.data.toList == b.data.toList
def rowS (c : Option Nat) (l : List ByteArray) : AV := .sl 1 (l.map fun s => [litS s]) c
theorem lenV_rowS (c : Option Nat) (l : List ByteArray) : lenV (rowS c l) = some (litI .i64 l.length) := by
  unfold rowS; rw [lenV_sl, List.length_map]
theorem iadr_rowS {c : Option Nat} {l : List ByteArray} {i : Nat} {s : ByteArray} (h : l[i]? = some s) {k : IntKind} : iadr 1 (rowS c l) (litI k i) = some (.ip [litS s]) := by
  unfold rowS
  rw [iadr_sl, if_pos (Int.natCast_nonneg i), Int.toNat_natCast, List.getElem?_map, h]
  rfl
def findF {α : Type} (p : α → Bool) : Nat → List α → Int
  | _, [] => -1
  | n, x :: r => bif p x then n else findF p (n + 1) r
theorem findF_any {α : Type} (p : α → Bool) : ∀ (r : List α) (n : Nat), decide (0 ≤ findF p n r) = r.any p
  | [], n => by simp [findF]
  | x :: r, n => by
    rw [findF, List.any_cons]
    by_cases h : p x = true
    · rw [h]; simp
    · rw [Bool.eq_false_iff.mpr h, cond_false, Bool.false_or]; exact findF_any p r (n + 1)
theorem index51_loop (c : Option Nat) (l : List ByteArray) (v : ByteArray) (hl : l.length ≤ 1000) : ∀ (r : List ByteArray) (n : Nat), l.drop n = r → n ≤ l.length →
    (findF (sEq v) n r = -1 ∧ ∃ i', loopW (codeW cw0 (lookM mtl) mds c51l0) [0, 1, 7, 8] [(0, rowS c l), (1, litS v), (7, litI .i64 l.length), (8, litI .i64 n)] [] = some (.exit 0, [(0, rowS c l), (1, litS v), (7, litI .i64 l.length), (8, i'), (9, litB false)], [])) ∨
    loopW (codeW cw0 (lookM mtl) mds c51l0) [0, 1, 7, 8] [(0, rowS c l), (1, litS v), (7, litI .i64 l.length), (8, litI .i64 n)] [] = some (.ret, [(4, litI .i64 (findF (sEq v) n r))], [])
  | [], n, hd, hn => by
    have h : l.length ≤ n := by
      have := congrArg List.length hd
      rw [List.length_drop, List.length_nil] at this; omega
    left
    refine ⟨rfl, litI .i64 n, ?_⟩
    refine loopW_out ?_ (by simp)
    simp -implicitDefEqProofs only [c51l0, aW, ↓aP, makes, Nat.reduceLT, Nat.reduceEqDiff, Nat.reduceAdd, ↓reduceIte, Nat.reduceBEq, show ¬ ((n : Int) < l.length) by omega]
  | x :: r, n, hd, hn => by
    have hlt : n < l.length := by
      have := congrArg List.length hd
      rw [List.length_drop, List.length_cons] at this; omega
    have hg : l[n]? = some x := by
      have := congrArg List.head? hd
      rwa [List.head?_drop] at this
    have hlti : (n : Int) < l.length := by omega
    rw [findF]
    cases hx : sEq v x with
    | true =>
      right
      rw [cond_true]
      refine loopW_out ?_ (by simp)
      have e : (v.data.toList == x.data.toList) = true := hx
      simp -implicitDefEqProofs only [c51l0, aW, ↓aP, makes, Nat.reduceLT, Nat.reduceEqDiff, Nat.reduceAdd, ↓reduceIte, Nat.reduceBEq, hlti, iadr_rowS hg, bin_eqlS, e]
    | false =>
      rw [cond_false]
      have e : (v.data.toList == x.data.toList) = false := hx
      have step : codeW cw0 (lookM mtl) mds c51l0 (keep [0, 1, 7, 8] [(0, rowS c l), (1, litS v), (7, litI .i64 l.length), (8, litI .i64 n)]) [] = some (.normal, [(0, rowS c l), (1, litS v), (7, litI .i64 l.length), (8, litI .i64 ((n + 1 : Nat) : Int))], []) := by
        simp -implicitDefEqProofs only [c51l0, aW, ↓aP, makes, Nat.reduceLT, Nat.reduceEqDiff, Nat.reduceAdd, ↓reduceIte, Nat.reduceBEq, hlti, iadr_rowS hg, bin_eqlS, e, wrap1 (show n < 4611686018427387904 by omega)]
      rcases index51_loop c l v hl r (n + 1) (by rw [← List.drop_drop, hd]; rfl) (by omega) with ⟨h1, i', h⟩ | h
      · exact .inl ⟨h1, i', loopW_round step h⟩
      · exact .inr (loopW_round step h)
theorem cont37_tells (c : Option Nat) (l : List ByteArray) (v : ByteArray) (hl : l.length ≤ 1000) : ∃ H', cw0 37 [rowS c l, litS v] [] = some (.ret (litB (l.any (sEq v))), H') := by
  have h51 : ∃ H', cw0 51 [rowS c l, litS v] [] = some (.ret (litI .i64 (findF (sEq v) 0 l)), H') := by
    have L := index51_loop c l v hl l 0 rfl (Nat.zero_le _)
    rw [show ((0 : Nat) : Int) = 0 from rfl] at L
    refine cw0_ret fn51 (c := c51) rfl rfl rfl rfl ?_
    rcases L with ⟨h1, i', L⟩ | L
    · rw [h1]
      simp -implicitDefEqProofs only [c51, aW, ↓aP, makes, Nat.reduceLT, Nat.reduceEqDiff, Nat.reduceAdd, ↓reduceIte, Nat.reduceBEq, lenV_rowS, L]
      rfl
    · simp -implicitDefEqProofs only [c51, aW, ↓aP, makes, Nat.reduceLT, Nat.reduceEqDiff, Nat.reduceAdd, ↓reduceIte, Nat.reduceBEq, lenV_rowS, L]
      rfl
  obtain ⟨H1, h51⟩ := h51
  have hc : ∀ H id, callV cw0 mds 51 [rowS c l, litS v] H id = some (.val (litI .i64 (findF (sEq v) 0 l)) none) := fun H id => callV_pure rfl rfl h51 rfl
  refine cw0_ret fn37 (c := c37) rfl rfl rfl rfl ?_
  rw [← findF_any (sEq v) l 0]
  simp -implicitDefEqProofs only [c37, aW, ↓aP, makes, Nat.reduceLT, Nat.reduceEqDiff, Nat.reduceAdd, ↓reduceIte, Nat.reduceBEq, hc]
  rfl
theorem cont37_call (c : Option Nat) (l : List ByteArray) (v : ByteArray) (hl : l.length ≤ 1000) (H : List AO) (id : Nat) : callV cw0 mds 37 [rowS c l, litS v] H id = some (.val (litB (l.any (sEq v))) none) := by
  obtain ⟨H2, h37⟩ := cont37_tells c l v hl
  exact callV_pure rfl rfl h37 rfl
def wordsL : List ByteArray := [bs [116, 121, 112, 101], bs [110, 111, 100, 101], bs [104, 121, 98, 114, 105, 100], bs [114, 101, 116, 117, 114, 110, 115], bs [118, 97, 114], bs [108, 101, 116], bs [116, 101, 108], bs [105, 102], bs [116, 104, 101, 110], bs [101, 108, 115, 101], bs [112, 114, 101], bs [102, 98, 121], bs [108, 97, 115, 116], bs [100, 101, 114], bs [105, 110, 105, 116], bs [114, 101, 115, 101, 116], bs [119, 104, 101, 110], bs [101, 118, 101, 114, 121], bs [97, 117, 116, 111, 109, 97, 116, 111, 110], bs [115, 116, 97, 116, 101], bs [117, 110, 116, 105, 108], bs [99, 111, 110, 116, 105, 110, 117, 101], bs [112, 114, 101, 115, 101, 110, 116], bs [101, 110, 100], bs [116, 114, 117, 101], bs [102, 97, 108, 115, 101], bs [97, 110, 100], bs [111, 114], bs [110, 111, 116], bs [117, 112], bs [98, 111, 111, 108], bs [105, 110, 116], bs [114, 97, 116], bs [102, 108, 111, 111, 114], bs [100, 105, 118], bs [109, 111, 100]]
def c85r : C := (.reg [⟨some 4, .build [litS (bs []), litS (bs []), litS (bs []), litS (bs []), litS (bs []), litS (bs []), litS (bs []), litS (bs []), litS (bs []), litS (bs []), litS (bs []), litS (bs []), litS (bs []), litS (bs []), litS (bs []), litS (bs []), litS (bs []), litS (bs []), litS (bs []), litS (bs []), litS (bs []), litS (bs []), litS (bs []), litS (bs []), litS (bs []), litS (bs []), litS (bs []), litS (bs []), litS (bs []), litS (bs []), litS (bs []), litS (bs []), litS (bs []), litS (bs []), litS (bs []), litS (bs [])] [(0, 1, .k (litS (bs [116, 121, 112, 101]))), (1, 1, .k (litS (bs [110, 111, 100, 101]))), (2, 1, .k (litS (bs [104, 121, 98, 114, 105, 100]))), (3, 1, .k (litS (bs [114, 101, 116, 117, 114, 110, 115]))), (4, 1, .k (litS (bs [118, 97, 114]))), (5, 1, .k (litS (bs [108, 101, 116]))), (6, 1, .k (litS (bs [116, 101, 108]))), (7, 1, .k (litS (bs [105, 102]))), (8, 1, .k (litS (bs [116, 104, 101, 110]))), (9, 1, .k (litS (bs [101, 108, 115, 101]))), (10, 1, .k (litS (bs [112, 114, 101]))), (11, 1, .k (litS (bs [102, 98, 121]))), (12, 1, .k (litS (bs [108, 97, 115, 116]))), (13, 1, .k (litS (bs [100, 101, 114]))), (14, 1, .k (litS (bs [105, 110, 105, 116]))), (15, 1, .k (litS (bs [114, 101, 115, 101, 116]))), (16, 1, .k (litS (bs [119, 104, 101, 110]))), (17, 1, .k (litS (bs [101, 118, 101, 114, 121]))), (18, 1, .k (litS (bs [97, 117, 116, 111, 109, 97, 116, 111, 110]))), (19, 1, .k (litS (bs [115, 116, 97, 116, 101]))), (20, 1, .k (litS (bs [117, 110, 116, 105, 108]))), (21, 1, .k (litS (bs [99, 111, 110, 116, 105, 110, 117, 101]))), (22, 1, .k (litS (bs [112, 114, 101, 115, 101, 110, 116]))), (23, 1, .k (litS (bs [101, 110, 100]))), (24, 1, .k (litS (bs [116, 114, 117, 101]))), (25, 1, .k (litS (bs [102, 97, 108, 115, 101]))), (26, 1, .k (litS (bs [97, 110, 100]))), (27, 1, .k (litS (bs [111, 114]))), (28, 1, .k (litS (bs [110, 111, 116]))), (29, 1, .k (litS (bs [117, 112]))), (30, 1, .k (litS (bs [98, 111, 111, 108]))), (31, 1, .k (litS (bs [105, 110, 116]))), (32, 1, .k (litS (bs [114, 97, 116]))), (33, 1, .k (litS (bs [102, 108, 111, 111, 114]))), (34, 1, .k (litS (bs [100, 105, 118]))), (35, 1, .k (litS (bs [109, 111, 100])))], none⟩,
     ⟨some 3, .alloc [litS (bs []), litS (bs []), litS (bs []), litS (bs []), litS (bs []), litS (bs []), litS (bs []), litS (bs []), litS (bs []), litS (bs []), litS (bs []), litS (bs []), litS (bs []), litS (bs []), litS (bs []), litS (bs []), litS (bs []), litS (bs []), litS (bs []), litS (bs []), litS (bs []), litS (bs []), litS (bs []), litS (bs []), litS (bs []), litS (bs []), litS (bs []), litS (bs []), litS (bs []), litS (bs []), litS (bs []), litS (bs []), litS (bs []), litS (bs []), litS (bs []), litS (bs [])] 93, none⟩,
     ⟨none, .store 36 (.s 3) (.s 4), none⟩]
     [0, 3])
theorem c85_eq : c85 = .seq (.reg [⟨some 2, .mv (.k (litB false)), none⟩] [0]) (.seq c85r (.seq (.reg [⟨some 5, .slA 1 36 (.s 3), none⟩, ⟨some 6, .mv (.s 0), none⟩, ⟨some 7, .call (.k (.fn (.func 37) [] [])) [.s 5, .s 6], none⟩, ⟨some 2, .mv (.s 7), none⟩] [2]) .ret)) := rfl
set_option maxRecDepth 100000 in
theorem c85r_run (s : AV) : codeW cw0 (lookM mtl) mds c85r [(0, s)] [] = some (.normal, [(0, s), (3, .ptr 0 0)], [.row (wordsL.map litS) 93]) := by kernel_rfl
theorem word_call (s : ByteArray) (H : List AO) (id : Nat) : callV cw0 mds 85 [litS s] H id = some (.val (litB (wordsL.any (sEq s))) none) := by
  have h85 : ∃ H', cw0 85 [litS s] [] = some (.ret (litB (wordsL.any (sEq s))), H') := by
    refine cw0_ret fn85 (c := c85) rfl rfl rfl rfl ?_
    have h1 : slAV [.row (wordsL.map litS) 93] 1 36 (.ptr 0 0) = some (.own 0 0 36 1 (some 36)) := rfl
    have hc : ∀ id, callV cw0 mds 37 [.own 0 0 36 1 (some 36), litS s] [.row (wordsL.map litS) 93] id = some (.val (litB (wordsL.any (sEq s))) none) := by
      intro id
      have hf : mapL (frz [.row (wordsL.map litS) 93] frzF) [.own 0 0 36 1 (some 36), litS s] = some ([rowS (some 36) wordsL, litS s], [0]) := rfl
      obtain ⟨H', h⟩ := cont37_tells (some 36) wordsL s (by decide)
      exact callV_flat rfl hf h
    rw [c85_eq]
    simp -implicitDefEqProofs only [aW, ↓aP, makes, Nat.reduceLT, Nat.reduceEqDiff, Nat.reduceAdd, ↓reduceIte, Nat.reduceBEq, c85r_run, core_slA, h1, hc]
    rfl
  obtain ⟨H', h85⟩ := h85
  exact callV_pure rfl rfl h85 rfl
end Go.Proofs.Ytkogkfpiijmbgaa.Ai
namespace Go.Proofs.Ytkogkfpiijmbgaa.Ai
open Go Go.Ai
def a77 : C := (.reg [⟨some 2, .alloc [litI .i64 0, litS (bs []), litI .i64 0] 54, none⟩,
    ⟨some 3, .mv (.k (litB false)), none⟩]
    [0, 2])
def b77 : C := (.reg [⟨some 6, .mv (.s 0), none⟩,
     ⟨some 7, .nilck (.s 6), none⟩,
     ⟨some 8, .fadr 1 (.s 7), none⟩,
     ⟨some 9, .load none (.s 8), none⟩,
     ⟨some 4, .mv (.s 9), none⟩]
     [0, 2, 4])
def d77 : C := (.reg [⟨some 10, .mv (.s 4), none⟩,
      ⟨some 11, .build [litI .i64 0, litS (bs []), litI .i64 0] [(2, 1, .s 10)], none⟩,
      ⟨some 5, .alloc [litI .i64 0, litS (bs []), litI .i64 0] 54, none⟩,
      ⟨none, .store 3 (.s 5) (.s 11), none⟩]
      [0, 2, 4, 5])
def e77 : C := (.reg [⟨some 12, .mv (.s 0), none⟩,
        ⟨some 13, .nilck (.s 12), none⟩,
        ⟨some 14, .fadr 0 (.s 13), none⟩,
        ⟨some 15, .load none (.s 14), none⟩,
        ⟨some 16, .mv (.s 4), none⟩,
        ⟨some 17, .iadr 1 (.s 15) (.s 16), none⟩,
        ⟨some 18, .load none (.s 17), none⟩,
        ⟨some 19, .call (.k (.fn (.func 81) [] [])) [.s 18], none⟩]
        [0, 2, 4, 5, 19])
def sw77 : C := (.block 0
       (.seq
        (.reg [⟨some 22, .bin .eql (.s 19) (.k (litI .i64 2)), none⟩,
          ⟨some 21, .mv (.s 22), none⟩]
          [0, 2, 4, 5, 19, 21])
        (.cond (.s 21)
         (.seq
          (.reg [⟨some 23, .fadr 0 (.s 5), none⟩,
            ⟨none, .store 1 (.s 23) (.k (litI .i64 1)), none⟩]
            [0, 2, 4, 5])
          (.reg [⟨some 24, .mv (.s 0), none⟩,
            ⟨some 25, .bslice false 1 3 [litI .i64 0] [(0, .k (litI .i64 2)), (1, .k (litI .i64 3)), (2, .k (litI .i64 4))] 3, none⟩,
            ⟨some 26, .call (.k (.fn (.func 83) [] [])) [.s 24, .s 25], none⟩]
            [0, 2, 4, 5]))
         (.seq
          (.reg [⟨some 28, .bin .eql (.s 19) (.k (litI .i64 3)), none⟩,
            ⟨some 27, .mv (.s 28), none⟩]
            [0, 2, 4, 5, 19, 27])
          (.cond (.s 27)
           (.seq
            (.reg [⟨some 29, .fadr 0 (.s 5), none⟩,
              ⟨none, .store 1 (.s 29) (.k (litI .i64 2)), none⟩]
              [0, 2, 4, 5])
            (.reg [⟨some 30, .mv (.s 0), none⟩,
              ⟨some 31, .bslice false 1 3 [litI .i64 0] [(0, .k (litI .i64 2)), (1, .k (litI .i64 3)), (2, .k (litI .i64 4))] 3, none⟩,
              ⟨some 32, .call (.k (.fn (.func 83) [] [])) [.s 30, .s 31], none⟩]
              [0, 2, 4, 5]))
           (.seq
            (.reg [⟨some 34, .bin .eql (.s 19) (.k (litI .i64 4)), none⟩,
              ⟨some 33, .mv (.s 34), none⟩]
              [0, 2, 4, 5, 19, 33])
            (.cond (.s 33)
             (.seq
              (.reg [⟨some 35, .fadr 0 (.s 5), none⟩,
                ⟨none, .store 1 (.s 35) (.k (litI .i64 3)), none⟩]
                [0, 2, 4, 5])
              (.seq
               (.reg [⟨some 36, .mv (.s 0), none⟩,
                 ⟨some 37, .bslice false 1 1 [litI .i64 0] [(0, .k (litI .i64 4))] 3, none⟩,
                 ⟨some 38, .call (.k (.fn (.func 83) [] [])) [.s 36, .s 37], none⟩]
                 [0, 2, 4, 5])
               (.seq
                (.reg [⟨some 39, .mv (.s 0), none⟩,
                  ⟨some 40, .call (.k (.fn (.func 82) [] [])) [.s 39, .k (litI .i64 0)], none⟩,
                  ⟨some 41, .bin .eql (.s 40) (.k (litI .u8 46)), none⟩,
                  ⟨some 42, .mv (.s 41), none⟩,
                  ⟨some 43, .mv (.s 0), some (42, true)⟩,
                  ⟨some 44, .call (.k (.fn (.func 82) [] [])) [.s 43, .k (litI .i64 1)], some (42, true)⟩,
                  ⟨some 45, .call (.k (.fn (.func 81) [] [])) [.s 44], some (42, true)⟩,
                  ⟨some 46, .bin .eql (.s 45) (.k (litI .i64 4)), some (42, true)⟩,
                  ⟨some 47, .pick (.s 42) (.s 46) (.k (litB false)), none⟩]
                  [0, 2, 4, 5, 47])
                (.cond (.s 47)
                 (.seq
                  (.reg [⟨some 48, .mv (.s 0), none⟩,
                    ⟨some 49, .nilck (.s 48), none⟩,
                    ⟨some 50, .fadr 1 (.s 49), none⟩,
                    ⟨some 51, .load none (.s 50), none⟩,
                    ⟨some 52, .bin .add (.s 51) (.k (litI .i64 1)), none⟩,
                    ⟨some 53, .nilck (.s 48), none⟩,
                    ⟨some 54, .fadr 1 (.s 53), none⟩,
                    ⟨none, .store 1 (.s 54) (.s 52), none⟩]
                    [0, 2, 4, 5])
                  (.reg [⟨some 55, .mv (.s 0), none⟩,
                    ⟨some 56, .bslice false 1 1 [litI .i64 0] [(0, .k (litI .i64 4))] 3, none⟩,
                    ⟨some 57, .call (.k (.fn (.func 83) [] [])) [.s 55, .s 56], none⟩]
                    [0, 2, 4, 5]))
                 .skip))))
             (.seq
              (.reg [⟨some 59, .bin .eql (.s 19) (.k (litI .i64 5)), none⟩,
                ⟨some 58, .mv (.s 59), none⟩]
                [0, 2, 4, 5, 58])
              (.cond (.s 58)
               (.seq
                (.reg [⟨some 60, .fadr 0 (.s 5), none⟩,
                  ⟨none, .store 1 (.s 60) (.k (litI .i64 5)), none⟩]
                  [0, 2, 4, 5])
                (.seq
                 (.reg [⟨some 61, .mv (.s 0), none⟩,
                   ⟨some 62, .call (.k (.fn (.func 84) [] [])) [.s 61], none⟩,
                   ⟨some 63, .un .not (.s 62), none⟩]
                   [0, 2, 4, 5, 63])
                 (.cond (.s 63)
                  (.seq
                   (.reg [⟨some 64, .load (some 3) (.s 5), none⟩,
                     ⟨none, .store 3 (.s 2) (.s 64), none⟩,
                     ⟨some 3, .mv (.k (litB false)), none⟩]
                     [2, 3])
                   .ret)
                  .skip)))
               (.seq
                (.reg [⟨some 20, .load (some 3) (.s 5), none⟩,
                  ⟨none, .store 3 (.s 2) (.s 20), none⟩,
                  ⟨some 3, .mv (.k (litB false)), none⟩]
                  [2, 3])
                .ret))))))))))
def tl77 : C := (.seq
      (.draw [⟨some 65, .mv (.s 0), none⟩,
        ⟨some 66, .nilck (.s 65), none⟩,
        ⟨some 67, .fadr 0 (.s 66), none⟩,
        ⟨some 68, .load none (.s 67), none⟩,
        ⟨some 69, .mv (.s 4), none⟩,
        ⟨some 70, .mv (.s 0), none⟩,
        ⟨some 71, .nilck (.s 70), none⟩,
        ⟨some 72, .fadr 1 (.s 71), none⟩,
        ⟨some 73, .load none (.s 72), none⟩]
        [⟨some 74, .sli 1 (.s 68) (some (.s 69)) (some (.s 73)) none, none⟩,
        ⟨some 75, .conv .ofBytes (.s 74), none⟩,
        ⟨some 76, .fadr 1 (.s 5), none⟩,
        ⟨none, .store 1 (.s 76) (.s 75), none⟩] [2, 5])
      (.seq
       (.seq
        (.reg [⟨some 77, .fadr 0 (.s 5), none⟩,
          ⟨some 78, .load none (.s 77), none⟩,
          ⟨some 79, .bin .eql (.s 78) (.k (litI .i64 1)), none⟩,
          ⟨some 80, .mv (.s 79), none⟩,
          ⟨some 81, .fadr 1 (.s 5), some (80, true)⟩,
          ⟨some 82, .load none (.s 81), some (80, true)⟩,
          ⟨some 83, .call (.k (.fn (.func 85) [] [])) [.s 82], some (80, true)⟩,
          ⟨some 84, .pick (.s 80) (.s 83) (.k (litB false)), none⟩]
          [2, 5, 84])
        (.cond (.s 84)
         (.reg [⟨some 85, .fadr 0 (.s 5), none⟩,
           ⟨none, .store 1 (.s 85) (.k (litI .i64 4)), none⟩]
           [2, 5])
         .skip))
       (.seq
        (.reg [⟨some 86, .load (some 3) (.s 5), none⟩,
          ⟨none, .store 3 (.s 2) (.s 86), none⟩,
          ⟨some 3, .mv (.k (litB true)), none⟩]
          [2, 3])
        .ret)))
theorem c77_eq : c77 = .seq a77 (.seq b77 (.seq d77 (.seq (.seq e77 sw77) tl77))) := rfl
theorem bound_nat {m n : Nat} (h : m ≤ n) (k : IntKind) : bound (litI k (m : Int)) n = some m := by
  have : (decide ((0 : Int) ≤ (m : Int)) && decide ((m : Int) ≤ (n : Int))) = true := by
    rw [Bool.and_eq_true, decide_eq_true_eq, decide_eq_true_eq]; omega
  simp only [bound, litI, this, cond_true, Int.toNat_natCast]
def cut (b : List UInt8) (i e : Nat) : List UInt8 := (b.drop i).take (e - i)
theorem slice_bytes {b : List UInt8} {i e : Nat} (h1 : i ≤ e) (h2 : e ≤ b.length) : slice 1 (bytesA b) (some (litI .i64 i)) (some (litI .i64 e)) none = some (bytesA (cut b i e)) := by
  unfold bytesA cut
  simp only [slice, cuts, BEq.rfl, Bool.true_or, cond_true, List.length_map, bound_nat h2, bound_nat h1, Option.bind_some]
  rw [← List.map_drop, ← List.map_take]
  rfl
theorem bytesOf_map : ∀ b : List UInt8, bytesOf (b.map fun x => litI .u8 x.toNat) = some b
  | [] => rfl
  | x :: r => by
    rw [List.map_cons]
    show (bytesOf (r.map fun x => litI .u8 x.toNat)).bind (fun l => some (UInt8.ofNat ((x.toNat : Int)).toNat :: l)) = _
    rw [bytesOf_map r]
    simp
theorem conv_bytes (H : List AO) (b : List UInt8) : convV H .ofBytes (bytesA b) = some (.val (litS ⟨b.toArray⟩) none) := by
  unfold bytesA
  have : (b.map fun x => [litI .u8 x.toNat]).flatten = b.map fun x => litI .u8 x.toNat := by
    induction b with
    | nil => rfl
    | cons x r ih => rw [List.map_cons, List.flatten_cons, ih]; rfl
  simp only [convV, core, ev, elems, BEq.rfl, Bool.true_or, cond_true, Option.bind_some, this, bytesOf_map]
def tokR (k : Int) (s : ByteArray) (i : Nat) : AO := .row [litI .i64 k, litS s, litI .i64 i] 54
def tokA (k : Int) (s : ByteArray) (i : Nat) : AV := .agg [litI .i64 k, litS s, litI .i64 i]
theorem tk0 {H : List AO} {p : Nat} {k : Int} {s : ByteArray} {i : Nat} (h : H[p]? = some (tokR k s i)) : Ai.load H none (.ptr p 0) = some (litI .i64 k) := by rw [load_ptr h]; rfl
theorem tk1 {H : List AO} {p : Nat} {k : Int} {s : ByteArray} {i : Nat} (h : H[p]? = some (tokR k s i)) : Ai.load H none (.ptr p 1) = some (litS s) := by rw [load_ptr h]; rfl
theorem tk2 {H : List AO} {p : Nat} {k : Int} {s : ByteArray} {i : Nat} (h : H[p]? = some (tokR k s i)) : Ai.load H none (.ptr p 2) = some (litI .i64 i) := by rw [load_ptr h]; rfl
theorem tk3 {H : List AO} {p : Nat} {k : Int} {s : ByteArray} {i : Nat} (h : H[p]? = some (tokR k s i)) : Ai.load H (some 3) (.ptr p 0) = some (tokA k s i) := load_agg h rfl
theorem tks0 {H : List AO} {p : Nat} {k k' : Int} {s : ByteArray} {i : Nat} (h : H[p]? = some (tokR k s i)) : storeAt H 1 (.ptr p 0) (litI .i64 k') = some (setL H p (tokR k' s i)) := by
  rw [store_ptr h (by simp) rfl rfl]; rfl
theorem tks1 {H : List AO} {p : Nat} {k : Int} {s s' : ByteArray} {i : Nat} (h : H[p]? = some (tokR k s i)) : storeAt H 1 (.ptr p 1) (litS s') = some (setL H p (tokR k s' i)) := by
  rw [store_ptr h (by simp) rfl rfl]; rfl
theorem tks3 {H : List AO} {p : Nat} {k k' : Int} {s s' : ByteArray} {i i' : Nat} (h : H[p]? = some (tokR k s i)) : storeAt H 3 (.ptr p 0) (tokA k' s' i') = some (setL H p (tokR k' s' i')) := by
  exact storeAt_agg (n := 3) h rfl rfl rfl
def wordK (s : ByteArray) : Bool := wordsL.any (sEq s)
def textOf (b : List UInt8) (i e : Nat) : ByteArray := ⟨(cut b i e).toArray⟩
theorem setL_get {H : List AO} {p r : Nat} {o x : AO} (hr : r ≠ p) (h : H[r]? = some x) : (setL H p o)[r]? = some x := by
  unfold setL
  rw [List.getElem?_set, if_neg (fun e => hr e.symm)]; exact h
theorem setL_self {H : List AO} {p : Nat} {o x : AO} (h : H[p]? = some x) : (setL H p o)[p]? = some o := (Upd.set h).1
def Rest (H K : List AO) (p A B : Nat) : Prop := ∀ r x, r ≠ p → r ≠ A → r ≠ B → H[r]? = some x → K[r]? = some x
theorem tail77 {p A B i e : Nat} {b : List UInt8} {K : List AO} {k : Int} (x : Fr) (hx : x = [] ∨ x = [(47, litB false)] ∨ x = [(63, litB false)]) (hp : K[p]? = some (lexR b e)) (hA : K[A]? = some (tokR 0 (bs []) 0)) (hB : K[B]? = some (tokR k (bs []) i)) (h1 : i ≤ e) (h2 : e ≤ b.length) (pA : p ≠ A) (pB : p ≠ B) (AB : A ≠ B) :
    ∃ K', codeW cw0 (lookM mtl) mds tl77 ((0, .ptr p 0) :: (2, .ptr A 0) :: (4, litI .i64 i) :: (5, .ptr B 0) :: x) K = some (.ret, [(2, .ptr A 0), (3, litB true)], K') ∧ K'[p]? = some (lexR b e) ∧ K'[A]? = some (tokR (if k = 1 ∧ wordK (textOf b i e) = true then 4 else k) (textOf b i e) i) ∧ Rest K K' p A B := by
  have l0 := lx0 hp
  have l1 := lx1 hp
  have s1 := tks1 (s' := textOf b i e) hB
  have hB1 : (setL K B (tokR k (textOf b i e) i))[B]? = some (tokR k (textOf b i e) i) := setL_self hB
  have hA1 : (setL K B (tokR k (textOf b i e) i))[A]? = some (tokR 0 (bs []) 0) := setL_get AB hA
  have hp1 : (setL K B (tokR k (textOf b i e) i))[p]? = some (lexR b e) := setL_get pB hp
  have k0 := tk0 hB1
  have k1 := tk1 hB1
  have k3 := tk3 hB1
  have st3 := tks3 (k' := k) (s' := textOf b i e) (i' := i) hA1
  have sl := slice_bytes h1 h2
  have cv := conv_bytes (b := cut b i e)
  have wc := word_call (textOf b i e)
  have hR : Rest K (setL (setL K B (tokR k (textOf b i e) i)) A (tokR k (textOf b i e) i)) p A B := fun r x h1 h2 h3 h4 => setL_get h2 (setL_get h3 h4)
  by_cases hk : k = 1
  · have ek : (k == 1) = true := beq_iff_eq.2 hk
    cases hw : wordK (textOf b i e) with
    | true =>
      have hw' : (wordsL.any (sEq (textOf b i e))) = true := hw
      rw [hw'] at wc
      have s4 := tks0 (k' := 4) hB1
      have hB2 : (setL (setL K B (tokR k (textOf b i e) i)) B (tokR 4 (textOf b i e) i))[B]? = some (tokR 4 (textOf b i e) i) := setL_self hB1
      have hA2 : (setL (setL K B (tokR k (textOf b i e) i)) B (tokR 4 (textOf b i e) i))[A]? = some (tokR 0 (bs []) 0) := setL_get AB hA1
      have k3' := tk3 hB2
      have st3' := tks3 (k' := 4) (s' := textOf b i e) (i' := i) hA2
      refine ⟨setL (setL (setL K B (tokR k (textOf b i e) i)) B (tokR 4 (textOf b i e) i)) A (tokR 4 (textOf b i e) i), ?_, setL_get pA (setL_get pB hp1), ?_, fun r x h1 h2 h3 h4 => setL_get h2 (setL_get h3 (setL_get h3 h4))⟩
      · unfold textOf at *
        rcases hx with rfl | rfl | rfl
        all_goals
          simp -implicitDefEqProofs only [tl77, aW, ↓aP, makes, Nat.reduceLT, Nat.reduceEqDiff, Nat.reduceAdd, ↓reduceIte, Nat.reduceBEq, fadr_ptr, nilck_ptr, l0, l1, sl, core_convV, cv, s1, k0, k1, ek, wc, s4, k3', st3']
      · rw [setL_self hA2, if_pos ⟨hk, rfl⟩]
    | false =>
      have hw' : (wordsL.any (sEq (textOf b i e))) = false := hw
      rw [hw'] at wc
      refine ⟨setL (setL K B (tokR k (textOf b i e) i)) A (tokR k (textOf b i e) i), ?_, setL_get pA hp1, ?_, hR⟩
      · unfold textOf at *
        rcases hx with rfl | rfl | rfl
        all_goals
          simp -implicitDefEqProofs only [tl77, aW, ↓aP, makes, Nat.reduceLT, Nat.reduceEqDiff, Nat.reduceAdd, ↓reduceIte, Nat.reduceBEq, fadr_ptr, nilck_ptr, l0, l1, sl, core_convV, cv, s1, k0, k1, ek, wc, k3, st3]
      · rw [setL_self hA1, if_neg (by simp)]
  · have ek : (k == 1) = false := beq_eq_false_iff_ne.2 hk
    refine ⟨setL (setL K B (tokR k (textOf b i e) i)) A (tokR k (textOf b i e) i), ?_, setL_get pA hp1, ?_, hR⟩
    · unfold textOf at *
      rcases hx with rfl | rfl | rfl
      all_goals
        simp -implicitDefEqProofs only [tl77, aW, ↓aP, makes, Nat.reduceLT, Nat.reduceEqDiff, Nat.reduceAdd, ↓reduceIte, Nat.reduceBEq, fadr_ptr, nilck_ptr, l0, l1, sl, core_convV, cv, s1, k0, ek, k3, st3]
    · rw [setL_self hA1, if_neg (fun h => hk h.1)]
end Go.Proofs.Ytkogkfpiijmbgaa.Ai
namespace Go.Proofs.Ytkogkfpiijmbgaa.Ai
open Go Go.Ai
def numF (b : List UInt8) (i : Nat) : Nat :=
  let e := whileF b [4] i
  if pk b e = 46 ∧ kindK (pk b (e + 1)) = 4 then whileF b [4] (e + 1) else e
def nextF (b : List UInt8) (i : Nat) : Option (Int × Nat) :=
  if kindK (pk b i) = 2 then some (1, whileF b [2, 3, 4] i)
  else if kindK (pk b i) = 3 then some (2, whileF b [2, 3, 4] i)
  else if kindK (pk b i) = 4 then some (3, numF b i)
  else if kindK (pk b i) = 5 then (punF b i).map fun e => (5, e)
  else none
def fr77 (p A B i : Nat) (x : Fr) : Fr := (0, .ptr p 0) :: (2, .ptr A 0) :: (4, litI .i64 i) :: (5, .ptr B 0) :: x
section
variable {p A B i : Nat} {b : List UInt8} {K : List AO}
theorem hb3 {H : List AO} {id : Nat} {fr : Fr} : core cw0 (lookM mtl) mds H id (.bslice false 1 3 [litI .i64 0] [(0, .k (litI .i64 2)), (1, .k (litI .i64 3)), (2, .k (litI .i64 4))] 3) fr = some (.val (slI (some 3) [2, 3, 4]) none) := rfl
theorem hb1 {H : List AO} {id : Nat} {fr : Fr} : core cw0 (lookM mtl) mds H id (.bslice false 1 1 [litI .i64 0] [(0, .k (litI .i64 4))] 3) fr = some (.val (slI (some 1) [4]) none) := rfl
theorem pk_in {j : Nat} (h : pk b j ≠ 0) : j < b.length := by
  unfold pk at h
  split at h
  · rename_i x hx; exact (List.getElem?_eq_some_iff.1 hx).1
  · exact absurd rfl h
theorem sw77_name {kk k' : Int} (hkk : (kk = 2 ∧ k' = 1) ∨ (kk = 3 ∧ k' = 2)) (hb : b.length ≤ 70000) (hi : i ≤ b.length) (hp : K[p]? = some (lexR b i)) (hA : K[A]? = some (tokR 0 (bs []) 0)) (hB : K[B]? = some (tokR 0 (bs []) i)) (pA : p ≠ A) (pB : p ≠ B) (AB : A ≠ B) :
    ∃ K', codeW cw0 (lookM mtl) mds sw77 (fr77 p A B i [(19, litI .i64 kk)]) K = some (.normal, fr77 p A B i [], K') ∧ K'[p]? = some (lexR b (whileF b [2, 3, 4] i)) ∧ K'[A]? = some (tokR 0 (bs []) 0) ∧ K'[B]? = some (tokR k' (bs []) i) ∧ Rest K K' p A B := by
  have s0 := tks0 (k' := k') hB
  obtain ⟨K', W, U⟩ := while_call (ks := [2, 3, 4]) (by unfold allK; simp) (setL_get (o := tokR k' (bs []) i) pB hp) hb hi (setL K B (tokR k' (bs []) i)).length
  refine ⟨K', ?_, U.1, U.2 A _ pA.symm (setL_get AB hA), U.2 B _ pB.symm (setL_self hB), fun r x h1 h2 h3 h4 => U.2 r x h1 (setL_get h3 h4)⟩
  rw [show (([2, 3, 4] : List Int)).length = 3 from rfl] at W
  rcases hkk with ⟨rfl, rfl⟩ | ⟨rfl, rfl⟩
  · simp -implicitDefEqProofs only [sw77, fr77, aW, ↓aP, makes, Nat.reduceLT, Nat.reduceEqDiff, Nat.reduceAdd, ↓reduceIte, Nat.reduceBEq, ↓hb3, fadr_ptr, s0, W, Int.reduceBEq]
  · simp -implicitDefEqProofs only [sw77, fr77, aW, ↓aP, makes, Nat.reduceLT, Nat.reduceEqDiff, Nat.reduceAdd, ↓reduceIte, Nat.reduceBEq, ↓hb3, fadr_ptr, s0, W, Int.reduceBEq]
theorem sw77_num (hb : b.length ≤ 70000) (hi : i ≤ b.length) (hp : K[p]? = some (lexR b i)) (hA : K[A]? = some (tokR 0 (bs []) 0)) (hB : K[B]? = some (tokR 0 (bs []) i)) (pA : p ≠ A) (pB : p ≠ B) (AB : A ≠ B) :
    ∃ x K', (x = [] ∨ x = [(47, litB false)] ∨ x = [(63, litB false)]) ∧ codeW cw0 (lookM mtl) mds sw77 (fr77 p A B i [(19, litI .i64 4)]) K = some (.normal, fr77 p A B i x, K') ∧ K'[p]? = some (lexR b (numF b i)) ∧ K'[A]? = some (tokR 0 (bs []) 0) ∧ K'[B]? = some (tokR 3 (bs []) i) ∧ Rest K K' p A B := by
  have s0 := tks0 (k' := 3) hB
  obtain ⟨K1, W, U⟩ := while_call (ks := [4]) (by unfold allK; simp) (setL_get (o := tokR 3 (bs []) i) pB hp) hb hi (setL K B (tokR 3 (bs []) i)).length
  rw [show (([4] : List Int)).length = 1 from rfl] at W
  have hle := whileF_le b [4] i hi
  have hA1 := U.2 A _ pA.symm (setL_get AB hA)
  have hB1 := U.2 B _ pB.symm (setL_self hB)
  have hR1 : Rest K K1 p A B := fun r x h1 h2 h3 h4 => U.2 r x h1 (setL_get h3 h4)
  have p0 := peek_call U.1 hb hle.1 0 (by omega)
  have p1 := peek_call U.1 hb hle.1 1 (by omega)
  rw [show ((0 : Nat) : Int) = 0 from rfl, Nat.add_zero] at p0
  rw [show ((1 : Nat) : Int) = 1 from rfl] at p1
  have kc := kind_call (pk b (whileF b [4] i + 1)) (pk_lt b _)
  unfold numF
  simp only
  by_cases d : pk b (whileF b [4] i) = 46
  · have q0 : (((pk b (whileF b [4] i) : Nat) : Int) == 46) = true := beq_iff_eq.2 (by omega)
    by_cases d1 : kindK (pk b (whileF b [4] i + 1)) = 4
    · rw [if_pos ⟨d, d1⟩]
      have q1 : (kindK (pk b (whileF b [4] i + 1)) == 4) = true := beq_iff_eq.2 d1
      have hlt : whileF b [4] i < b.length := pk_in (by omega)
      have l1 := lx1 U.1
      have ls := lxs (j := whileF b [4] i + 1) U.1
      have hp2 : (setL K1 p (lexR b (whileF b [4] i + 1)))[p]? = some (lexR b (whileF b [4] i + 1)) := setL_self U.1
      obtain ⟨K2, W2, U2⟩ := while_call (ks := [4]) (by unfold allK; simp) hp2 hb (by omega) (setL K1 p (lexR b (whileF b [4] i + 1))).length
      rw [show (([4] : List Int)).length = 1 from rfl] at W2
      refine ⟨[], K2, .inl rfl, ?_, U2.1, U2.2 A _ pA.symm (setL_get pA.symm hA1), U2.2 B _ pB.symm (setL_get pB.symm hB1), fun r x h1 h2 h3 h4 => U2.2 r x h1 (setL_get h1 (hR1 r x h1 h2 h3 h4))⟩
      simp -implicitDefEqProofs only [sw77, fr77, aW, ↓aP, makes, Nat.reduceLT, Nat.reduceEqDiff, Nat.reduceAdd, ↓reduceIte, Nat.reduceBEq, ↓hb1, fadr_ptr, nilck_ptr, s0, W, p0, p1, q0, kc, q1, l1, wrap1 (show whileF b [4] i < 4611686018427387904 by omega), ls, W2, Int.reduceBEq]
    · rw [if_neg (fun e => d1 e.2)]
      have q1 : (kindK (pk b (whileF b [4] i + 1)) == 4) = false := beq_eq_false_iff_ne.2 d1
      refine ⟨[(47, litB false)], K1, .inr (.inl rfl), ?_, U.1, hA1, hB1, hR1⟩
      simp -implicitDefEqProofs only [sw77, fr77, aW, ↓aP, makes, Nat.reduceLT, Nat.reduceEqDiff, Nat.reduceAdd, ↓reduceIte, Nat.reduceBEq, ↓hb1, fadr_ptr, nilck_ptr, s0, W, p0, p1, q0, kc, q1, Int.reduceBEq]
  · rw [if_neg (fun e => d e.1)]
    have q0 : (((pk b (whileF b [4] i) : Nat) : Int) == 46) = false := beq_eq_false_iff_ne.2 (by omega)
    refine ⟨[(47, litB false)], K1, .inr (.inl rfl), ?_, U.1, hA1, hB1, hR1⟩
    simp -implicitDefEqProofs only [sw77, fr77, aW, ↓aP, makes, Nat.reduceLT, Nat.reduceEqDiff, Nat.reduceAdd, ↓reduceIte, Nat.reduceBEq, ↓hb1, fadr_ptr, nilck_ptr, s0, W, p0, q0, Int.reduceBEq]
theorem sw77_sign {e : Nat} (he : punF b i = some e) (hb : b.length ≤ 70000) (hi : i ≤ b.length) (hp : K[p]? = some (lexR b i)) (hA : K[A]? = some (tokR 0 (bs []) 0)) (hB : K[B]? = some (tokR 0 (bs []) i)) (pA : p ≠ A) (pB : p ≠ B) (AB : A ≠ B) :
    ∃ K', codeW cw0 (lookM mtl) mds sw77 (fr77 p A B i [(19, litI .i64 5)]) K = some (.normal, fr77 p A B i [(63, litB false)], K') ∧ K'[p]? = some (lexR b e) ∧ K'[A]? = some (tokR 0 (bs []) 0) ∧ K'[B]? = some (tokR 5 (bs []) i) ∧ Rest K K' p A B := by
  have s0 := tks0 (k' := 5) hB
  obtain ⟨K', W, U⟩ := pun_call (setL_get (o := tokR 5 (bs []) i) pB hp) hb hi (setL K B (tokR 5 (bs []) i)).length
  rw [he] at W U
  simp only [Option.isSome_some, Option.getD_some] at W U
  refine ⟨K', ?_, U.1, U.2 A _ pA.symm (setL_get AB hA), U.2 B _ pB.symm (setL_self hB), fun r x h1 h2 h3 h4 => U.2 r x h1 (setL_get h3 h4)⟩
  simp -implicitDefEqProofs only [sw77, fr77, aW, ↓aP, makes, Nat.reduceLT, Nat.reduceEqDiff, Nat.reduceAdd, ↓reduceIte, Nat.reduceBEq, fadr_ptr, s0, W, Int.reduceBEq]
theorem sw77_nosign (he : punF b i = none) (hb : b.length ≤ 70000) (hi : i ≤ b.length) (hp : K[p]? = some (lexR b i)) (hA : K[A]? = some (tokR 0 (bs []) 0)) (hB : K[B]? = some (tokR 0 (bs []) i)) (pA : p ≠ A) (pB : p ≠ B) (AB : A ≠ B) :
    ∃ K', codeW cw0 (lookM mtl) mds sw77 (fr77 p A B i [(19, litI .i64 5)]) K = some (.ret, [(2, .ptr A 0), (3, litB false)], K') ∧ K'[p]? = some (lexR b i) ∧ K'[A]? = some (tokR 5 (bs []) i) ∧ Rest K K' p A B := by
  have s0 := tks0 (k' := 5) hB
  obtain ⟨K1, W, U⟩ := pun_call (setL_get (o := tokR 5 (bs []) i) pB hp) hb hi (setL K B (tokR 5 (bs []) i)).length
  rw [he] at W U
  simp only [Option.isSome_none, Option.getD_none] at W U
  have hA1 := U.2 A _ pA.symm (setL_get AB hA)
  have hB1 := U.2 B _ pB.symm (setL_self hB)
  have t3 := tk3 hB1
  have st := tks3 (k' := 5) (s' := bs []) (i' := i) hA1
  refine ⟨setL K1 A (tokR 5 (bs []) i), ?_, setL_get pA U.1, setL_self hA1, fun r x h1 h2 h3 h4 => setL_get h2 (U.2 r x h1 (setL_get h3 h4))⟩
  simp -implicitDefEqProofs only [sw77, fr77, aW, ↓aP, makes, Nat.reduceLT, Nat.reduceEqDiff, Nat.reduceAdd, ↓reduceIte, Nat.reduceBEq, fadr_ptr, s0, W, t3, st, Int.reduceBEq]
theorem sw77_none {kk : Int} (h2 : (kk == 2) = false) (h3 : (kk == 3) = false) (h4 : (kk == 4) = false) (h5 : (kk == 5) = false) (hp : K[p]? = some (lexR b i)) (hA : K[A]? = some (tokR 0 (bs []) 0)) (hB : K[B]? = some (tokR 0 (bs []) i)) (pA : p ≠ A) (pB : p ≠ B) (AB : A ≠ B) :
    ∃ K', codeW cw0 (lookM mtl) mds sw77 (fr77 p A B i [(19, litI .i64 kk)]) K = some (.ret, [(2, .ptr A 0), (3, litB false)], K') ∧ K'[p]? = some (lexR b i) ∧ K'[A]? = some (tokR 0 (bs []) i) ∧ Rest K K' p A B := by
  have t3 := tk3 hB
  have st := tks3 (k' := 0) (s' := bs []) (i' := i) hA
  refine ⟨setL K A (tokR 0 (bs []) i), ?_, setL_get pA hp, setL_self hA, fun r x h1 h2 h3 h4 => setL_get h2 h4⟩
  simp -implicitDefEqProofs only [sw77, fr77, aW, ↓aP, makes, Nat.reduceLT, Nat.reduceEqDiff, Nat.reduceAdd, ↓reduceIte, Nat.reduceBEq, h2, h3, h4, h5, t3, st]
end
end Go.Proofs.Ytkogkfpiijmbgaa.Ai
namespace Go.Proofs.Ytkogkfpiijmbgaa.Ai
open Go Go.Ai
def build3V (z : List AV) (a : AV) : Option Out := (fill z [(2, 1, a)]).bind fun cs => some (.val (.agg cs) none)
theorem core_build3 {H : List AO} {id : Nat} (z : List AV) (x : X) (fr : Fr) : core cw0 (lookM mtl) mds H id (.build z [(2, 1, x)]) fr = build3V z (ev fr x) := rfl
theorem build3V_tok (n : Nat) : build3V [litI .i64 0, litS (bs []), litI .i64 0] (litI .i64 (n : Int)) = some (.val (tokA 0 (bs []) n) none) := rfl
theorem sgn_zero {H : List AO} {i : Nat} : storeAt (H ++ [.row [litI .i64 0, litS (bs []), litI .i64 0] 54]) 3 (.ptr H.length 0) (tokA 0 (bs []) i) = some (H ++ [tokR 0 (bs []) i]) := by
  unfold tokA
  rw [storeAt_agg (n := 3) (xs := [litI .i64 0, litS (bs []), litI .i64 i]) (get_last H _) rfl rfl rfl, setL_last]; rfl
theorem pre77 {H : List AO} {p i : Nat} {b : List UInt8} (h : H[p]? = some (lexR b i)) (hl : i < b.length) :
    codeW cw0 (lookM mtl) mds c77 (initFr 0 [.ptr p 0]) H = thenS (codeW cw0 (lookM mtl) mds sw77 (fr77 p H.length (H ++ [tokR 0 (bs []) 0]).length i [(19, litI .i64 (kindK (pk b i)))]) (H ++ [tokR 0 (bs []) 0] ++ [tokR 0 (bs []) i])) (codeW cw0 (lookM mtl) mds tl77) := by
  have hp1 : (H ++ [.row [litI .i64 0, litS (bs []), litI .i64 0] 54])[p]? = some (lexR b i) := get_app h
  have hp2 : (H ++ [.row [litI .i64 0, litS (bs []), litI .i64 0] 54] ++ [tokR 0 (bs []) i])[p]? = some (lexR b i) := get_app hp1
  have l1 := lx1 hp1
  have m0 := lx0 hp2
  have m1 := lx1 hp2
  have hg : b[i]? = some b[i] := List.getElem?_eq_getElem hl
  have hi' := iadr_bytes hg (k := .i64)
  have hk := kind_call b[i].toNat (UInt8.toNat_lt _)
  rw [← pk_some hg] at hi' hk
  have sz := sgn_zero (H := H ++ [.row [litI .i64 0, litS (bs []), litI .i64 0] 54]) (i := i)
  rw [c77_eq]
  simp -implicitDefEqProofs only [a77, b77, d77, e77, aW, ↓aP, makes, Nat.reduceLT, Nat.reduceEqDiff, Nat.reduceAdd, ↓reduceIte, Nat.reduceBEq, fadr_ptr, nilck_ptr, l1, core_build3, build3V_tok, sz, m0, m1, hi', hk]
  rfl
def nextK (b : List UInt8) (i : Nat) : Option ((Int × ByteArray × Nat) × Nat) := (nextF b i).map fun p => ((if p.1 = 1 ∧ wordK (textOf b i p.2) = true then 4 else p.1, textOf b i p.2, i), p.2)
theorem punF_le {b : List UInt8} {i e : Nat} (hl : i < b.length) (h : punF b i = some e) : i < e ∧ e ≤ b.length := by
  unfold punF at h
  split at h
  · rename_i h2
    simp only [Option.some.injEq] at h; subst h
    have : i + 1 < b.length := by
      refine pk_in ?_
      unfold two at h2
      simp only [Bool.or_eq_true, Bool.and_eq_true, beq_iff_eq] at h2
      omega
    omega
  · split at h
    · cases h
    · simp only [Option.some.injEq] at h; omega
theorem while_gt {b : List UInt8} {ks : List Int} {i : Nat} (hl : i < b.length) (hk : ks.contains (kindK (pk b i)) = true) : i < whileF b ks i := by
  unfold whileF
  rw [show b.length - i = (b.length - i - 1) + 1 by omega, whileN, if_pos ⟨hl, hk⟩]
  have := whileF_le b ks (i + 1) (by omega)
  unfold whileF at this
  rw [show b.length - (i + 1) = b.length - i - 1 by omega] at this
  omega
theorem numF_le {b : List UInt8} {i : Nat} (hl : i < b.length) (hk : kindK (pk b i) = 4) : i < numF b i ∧ numF b i ≤ b.length := by
  have g := while_gt (ks := [4]) hl (by rw [hk]; rfl)
  have l := whileF_le b [4] i (by omega)
  unfold numF
  simp only
  split
  · rename_i h
    have : whileF b [4] i < b.length := pk_in (by omega)
    have := whileF_le b [4] (whileF b [4] i + 1) (by omega)
    omega
  · omega
theorem nextF_le {b : List UInt8} {i e : Nat} {k : Int} (hl : i < b.length) (h : nextF b i = some (k, e)) : i < e ∧ e ≤ b.length := by
  unfold nextF at h
  split at h
  · rename_i hk
    simp only [Option.some.injEq, Prod.mk.injEq] at h
    obtain ⟨rfl, rfl⟩ := h
    exact ⟨while_gt hl (by rw [hk]; rfl), (whileF_le b _ i (by omega)).1⟩
  · split at h
    · rename_i hk
      simp only [Option.some.injEq, Prod.mk.injEq] at h
      obtain ⟨rfl, rfl⟩ := h
      exact ⟨while_gt hl (by rw [hk]; rfl), (whileF_le b _ i (by omega)).1⟩
    · split at h
      · rename_i hk
        simp only [Option.some.injEq, Prod.mk.injEq] at h
        obtain ⟨rfl, rfl⟩ := h
        exact numF_le hl hk
      · split at h
        · rw [Option.map_eq_some_iff] at h
          obtain ⟨e', h1, h2⟩ := h
          simp only [Prod.mk.injEq] at h2
          obtain ⟨_, rfl⟩ := h2
          exact punF_le hl h1
        · cases h
theorem fin77 {fr : Fr} {A : Nat} {ok : Bool} {k : Int} {s : ByteArray} {i : Nat} {K : List AO} (h : K[A]? = some (tokR k s i)) : (some ((EX.ret, [(2, .ptr A 0), (3, litB ok)], K) : S)).bind (fin fn77) = some (.ret (.tup [tokA k s i, litB ok]), K) := by
  have t := tk3 h
  show (res [(2, .ptr A 0), (3, litB ok)] K [.c 2 (some 3), .t 3]).bind (fun a => some (R.ret a, K)) = _
  have : res [(2, .ptr A 0), (3, litB ok)] K [.c 2 (some 3), .t 3] = some (.tup [tokA k s i, litB ok]) := by
    unfold res resL resL resL resV
    simp only [show get [(2, .ptr A 0), (3, litB ok)] 2 = .ptr A 0 from rfl, t, Option.bind_some]
    rfl
  rw [this]
  rfl
theorem next_tells {H : List AO} {p i : Nat} {b : List UInt8} (h : H[p]? = some (lexR b i)) (hb : b.length ≤ 70000) (hl : i < b.length) :
    match nextK b i with
    | some (t, e) => ∃ K, cw0 77 [.ptr p 0] H = some (.ret (.tup [tokA t.1 t.2.1 t.2.2, litB true]), K) ∧ Upd H K p (lexR b e)
    | none => ∃ k K, cw0 77 [.ptr p 0] H = some (.ret (.tup [tokA k (bs []) i, litB false]), K) ∧ Upd H K p (lexR b i) := by
  have hpl := (List.getElem?_eq_some_iff.1 h).1
  have hi : i ≤ b.length := by omega
  have pre := pre77 h hl
  have hp : (H ++ [tokR 0 (bs []) 0] ++ [tokR 0 (bs []) i])[p]? = some (lexR b i) := get_app (get_app h)
  have hA : (H ++ [tokR 0 (bs []) 0] ++ [tokR 0 (bs []) i])[H.length]? = some (tokR 0 (bs []) 0) := get_app (get_last H _)
  have hB : (H ++ [tokR 0 (bs []) 0] ++ [tokR 0 (bs []) i])[(H ++ [tokR 0 (bs []) 0]).length]? = some (tokR 0 (bs []) i) := get_last _ _
  have hBl : (H ++ [tokR 0 (bs []) 0]).length = H.length + 1 := by simp
  rw [hBl] at pre hB
  have pA : p ≠ H.length := by omega
  have pB : p ≠ H.length + 1 := by omega
  have AB : H.length ≠ H.length + 1 := by omega
  have rest : ∀ {K : List AO}, Rest (H ++ [tokR 0 (bs []) 0] ++ [tokR 0 (bs []) i]) K p H.length (H.length + 1) → ∀ r x, r ≠ p → H[r]? = some x → K[r]? = some x := by
    intro K R r x hr hx
    have := (List.getElem?_eq_some_iff.1 hx).1
    exact R r x hr (by omega) (by omega) (get_app (get_app hx))
  have good : ∀ (k : Int) (e : Nat) (x : Fr) (K : List AO), (x = [] ∨ x = [(47, litB false)] ∨ x = [(63, litB false)]) → i < e → e ≤ b.length →
      codeW cw0 (lookM mtl) mds sw77 (fr77 p H.length (H.length + 1) i [(19, litI .i64 (kindK (pk b i)))]) (H ++ [tokR 0 (bs []) 0] ++ [tokR 0 (bs []) i]) = some (.normal, fr77 p H.length (H.length + 1) i x, K) →
      K[p]? = some (lexR b e) → K[H.length]? = some (tokR 0 (bs []) 0) → K[H.length + 1]? = some (tokR k (bs []) i) → Rest (H ++ [tokR 0 (bs []) 0] ++ [tokR 0 (bs []) i]) K p H.length (H.length + 1) →
      ∃ K', cw0 77 [.ptr p 0] H = some (.ret (.tup [tokA (if k = 1 ∧ wordK (textOf b i e) = true then 4 else k) (textOf b i e) i, litB true]), K') ∧ Upd H K' p (lexR b e) := by
    intro k e x K hx h1 h2 hs g1 g2 g3 g4
    obtain ⟨K', t1, t2, t3, t4⟩ := tail77 x hx g1 g2 g3 (by omega) h2 pA pB AB
    refine ⟨K', ?_, t2, fun r y hr hy => ?_⟩
    · refine cw0_of fn77 (c := c77) rfl rfl rfl rfl ?_
      rw [pre, hs, thenS_normal]
      rw [show fr77 p H.length (H.length + 1) i x = (0, .ptr p 0) :: (2, .ptr H.length 0) :: (4, litI .i64 i) :: (5, .ptr (H.length + 1) 0) :: x from rfl, t1]
      exact fin77 (fr := []) t3
    · have := (List.getElem?_eq_some_iff.1 hy).1
      exact t4 r y hr (by omega) (by omega) (rest g4 r y hr hy)
  have badE : ∀ (k : Int) (K : List AO), codeW cw0 (lookM mtl) mds sw77 (fr77 p H.length (H.length + 1) i [(19, litI .i64 (kindK (pk b i)))]) (H ++ [tokR 0 (bs []) 0] ++ [tokR 0 (bs []) i]) = some (.ret, [(2, .ptr H.length 0), (3, litB false)], K) →
      K[p]? = some (lexR b i) → K[H.length]? = some (tokR k (bs []) i) → Rest (H ++ [tokR 0 (bs []) 0] ++ [tokR 0 (bs []) i]) K p H.length (H.length + 1) →
      ∃ k K, cw0 77 [.ptr p 0] H = some (.ret (.tup [tokA k (bs []) i, litB false]), K) ∧ Upd H K p (lexR b i) := by
    intro k K hs g1 g2 g3
    refine ⟨k, K, ?_, g1, rest g3⟩
    refine cw0_of fn77 (c := c77) rfl rfl rfl rfl ?_
    rw [pre, hs, thenS_ret]
    exact fin77 (fr := []) g2
  unfold nextK
  cases hn : nextF b i with
  | some q =>
    obtain ⟨k, e⟩ := q
    have le := nextF_le hl hn
    simp only [Option.map_some]
    unfold nextF at hn
    split at hn
    · rename_i hk
      simp only [Option.some.injEq, Prod.mk.injEq] at hn
      obtain ⟨rfl, rfl⟩ := hn
      obtain ⟨K, g0, g1, g2, g3, g4⟩ := sw77_name (kk := kindK (pk b i)) (k' := 1) (.inl ⟨hk, rfl⟩) hb hi hp hA hB pA pB AB
      exact good 1 _ [] K (.inl rfl) le.1 le.2 g0 g1 g2 g3 g4
    · split at hn
      · rename_i hk
        simp only [Option.some.injEq, Prod.mk.injEq] at hn
        obtain ⟨rfl, rfl⟩ := hn
        obtain ⟨K, g0, g1, g2, g3, g4⟩ := sw77_name (kk := kindK (pk b i)) (k' := 2) (.inr ⟨hk, rfl⟩) hb hi hp hA hB pA pB AB
        exact good 2 _ [] K (.inl rfl) le.1 le.2 g0 g1 g2 g3 g4
      · split at hn
        · rename_i hk
          simp only [Option.some.injEq, Prod.mk.injEq] at hn
          obtain ⟨rfl, rfl⟩ := hn
          obtain ⟨x, K, hx, g0, g1, g2, g3, g4⟩ := sw77_num hb hi hp hA hB pA pB AB
          rw [← hk] at g0
          exact good 3 _ x K hx le.1 le.2 g0 g1 g2 g3 g4
        · split at hn
          · rename_i hk
            rw [Option.map_eq_some_iff] at hn
            obtain ⟨e', h1, h2⟩ := hn
            simp only [Prod.mk.injEq] at h2
            obtain ⟨rfl, rfl⟩ := h2
            obtain ⟨K, g0, g1, g2, g3, g4⟩ := sw77_sign h1 hb hi hp hA hB pA pB AB
            rw [← hk] at g0
            exact good 5 _ _ K (.inr (.inr rfl)) le.1 le.2 g0 g1 g2 g3 g4
          · cases hn
  | none =>
    simp only [Option.map_none]
    unfold nextF at hn
    split at hn
    · cases hn
    · rename_i k2
      split at hn
      · cases hn
      · rename_i k3
        split at hn
        · cases hn
        · rename_i k4
          split at hn
          · rename_i hk
            rw [Option.map_eq_none_iff] at hn
            obtain ⟨K, g0, g1, g2, g3⟩ := sw77_nosign hn hb hi hp hA hB pA pB AB
            rw [← hk] at g0
            exact badE 5 K g0 g1 g2 g3
          · rename_i k5
            obtain ⟨K, g0, g1, g2, g3⟩ := sw77_none (beq_eq_false_iff_ne.2 k2) (beq_eq_false_iff_ne.2 k3) (beq_eq_false_iff_ne.2 k4) (beq_eq_false_iff_ne.2 k5) hp hA hB pA pB AB
            exact badE 0 K g0 g1 g2 g3
end Go.Proofs.Ytkogkfpiijmbgaa.Ai
namespace Go.Proofs.Ytkogkfpiijmbgaa.Ai
open Go Go.Ai
abbrev Tk := Int × ByteArray × Nat
def tcells (t : Tk) : List AV := [litI .i64 t.1, litS t.2.1, litI .i64 t.2.2]
def flatT (l : List Tk) : List AV := (l.map tcells).flatten
theorem flatT_len : ∀ l : List Tk, (flatT l).length = l.length * 3
  | [] => rfl
  | t :: r => by
    have := flatT_len r
    unfold flatT at this ⊢
    rw [List.map_cons, List.flatten_cons, List.length_append, this, List.length_cons]
    show 3 + _ = _
    omega
theorem flatT_snoc (l : List Tk) (t : Tk) : flatT (l ++ [t]) = flatT l ++ tcells t := by
  unfold flatT; simp
theorem flatT_whole : ∀ l : List Tk, (flatT l).all whole = true
  | [] => rfl
  | t :: r => by
    have := flatT_whole r
    unfold flatT at this ⊢
    rw [List.map_cons, List.flatten_cons, List.all_append, this]; rfl
theorem chunksT : ∀ l : List Tk, chunks 3 l.length (flatT l) = l.map tcells
  | [] => rfl
  | t :: r => by
    have := chunksT r
    rw [List.length_cons, chunks]
    have e : flatT (t :: r) = tcells t ++ flatT r := by unfold flatT; rfl
    rw [e]
    show List.take (tcells t).length (tcells t ++ flatT r) :: chunks 3 r.length (List.drop (tcells t).length (tcells t ++ flatT r)) = _
    rw [List.take_left, List.drop_left, this]; rfl
theorem mapR_whole3 {H : List AO} {k : Nat} : ∀ (n : Nat) (cs : List AV), cs.all whole = true → mapR (frz H (k + 1)) 3 n cs = some (chunks 3 n cs, [])
  | 0, _, _ => rfl
  | n + 1, cs, h => by
    have h1 : (cs.take 3).all whole = true := by
      rw [List.all_eq_true] at h ⊢; exact fun a ha => h a (List.mem_of_mem_take ha)
    have h2 : (cs.drop 3).all whole = true := by
      rw [List.all_eq_true] at h ⊢; exact fun a ha => h a (List.mem_of_mem_drop ha)
    simp only [mapR, mapL_whole h1, mapR_whole3 n _ h2, Option.bind_some, chunks]
    rfl
theorem frz_toks {H : List AO} {q k : Nat} {l : List Tk} (h : H[q]? = some (.row (flatT l) 54)) : frz H (k + 2) (.own q 0 l.length 3 none) = some (.sl 3 (l.map tcells) none, [q]) := by
  have hb : Nat.ble (0 + l.length * 3) (flatT l).length = true := Nat.ble_eq_true_of_le (by rw [flatT_len]; omega)
  rw [frz]
  simp only [h, hb, cond_true, List.drop_zero, mapR_whole3 l.length _ (flatT_whole l), Option.bind_some, chunksT]
def OutOk (K : List AO) (A : AV) (l : List Tk) (p : Nat) : Prop := (l = [] ∧ A = .sl 0 [] (some 0)) ∨ ∃ q, q ≠ p ∧ A = .own q 0 l.length 3 none ∧ K[q]? = some (.row (flatT l) 54)
theorem OutOk.upd {K K' : List AO} {A : AV} {l : List Tk} {p : Nat} {o : AO} (h : OutOk K A l p) (U : Upd K K' p o) : OutOk K' A l p := by
  rcases h with h | ⟨q, h1, h2, h3⟩
  · exact .inl h
  · exact .inr ⟨q, h1, h2, U.2 q _ h1 h3⟩
theorem OutOk.app {K : List AO} {A : AV} {l : List Tk} {p : Nat} (x : AO) (h : OutOk K A l p) : OutOk (K ++ [x]) A l p := by
  rcases h with h | ⟨q, h1, h2, h3⟩
  · exact .inl h
  · exact .inr ⟨q, h1, h2, get_app h3⟩
theorem app_out {K : List AO} {A : AV} {l : List Tk} {p : Nat} {X : AO} (h : OutOk K A l p) (hp : K[p]? = some X) (t : Tk) (c : Option Nat) (hl : l.length ≤ 70001) :
    ∃ A' K', (∀ (d : Option Nat) (fr : Fr) (k : Fr → List AO → Option S), opS (append K K.length 3 32 54 A (.sl 3 [tcells t] c)) d fr K k = k (putD fr d A') K') ∧ OutOk K' A' (l ++ [t]) p ∧ (∃ q, A' = .own q 0 (l ++ [t]).length 3 none ∧ K'[q]? = some (.row (flatT (l ++ [t])) 54)) ∧ K'[p]? = some X := by
  have hpl := (List.getElem?_eq_some_iff.1 hp).1
  rcases h with ⟨rfl, rfl⟩ | ⟨q, h1, rfl, h3⟩
  · refine ⟨.own K.length 0 1 3 none, K ++ [.row (tcells t) 54], fun d fr k => rfl, .inr ⟨K.length, by omega, rfl, ?_⟩, ⟨K.length, rfl, ?_⟩, get_app hp⟩
    · rw [get_last]; unfold flatT; simp
    · rw [get_last]; unfold flatT; simp
  · have hg : (setL K q .dead ++ [.row (flatT (l ++ [t])) 54])[K.length]? = some (.row (flatT (l ++ [t])) 54) := by
      have := get_last (setL K q .dead) (.row (flatT (l ++ [t])) 54)
      rwa [setL_len] at this
    refine ⟨.own K.length 0 (l ++ [t]).length 3 none, setL K q .dead ++ [.row (flatT (l ++ [t])) 54], fun d fr k => ?_, .inr ⟨K.length, by omega, rfl, hg⟩, ⟨K.length, rfl, hg⟩, get_app (setL_get (fun e => h1 e.symm) hp)⟩
    have b1 : Nat.ble (l.length * 3) (flatT l).length = true := Nat.ble_eq_true_of_le (by rw [flatT_len]; omega)
    have b2 : Nat.ble ((l.length + 1) * 32) 140737488355328 = true := Nat.ble_eq_true_of_le (by omega)
    have tk : (flatT l).take (l.length * 3) = flatT l := List.take_of_length_le (by rw [flatT_len]; omega)
    have e : append K K.length 3 32 54 (.own q 0 l.length 3 none) (.sl 3 [tcells t] c) = some (.wr (.own K.length 0 (l ++ [t]).length 3 none) (setL K q .dead ++ [.row (flatT (l ++ [t])) 54])) := by
      unfold append
      simp only [elems, BEq.rfl, Bool.true_or, cond_true, Option.bind_some, List.length_cons, List.length_nil, Nat.zero_add, Nat.reduceBEq, cond_false, rowAt_of h3, b1, b2, Bool.and_self, List.drop_zero, tk, List.flatten_cons, List.flatten_nil, List.append_nil]
      rw [flatT_snoc]
      simp
    rw [e, opS_wr]
def toksN (b : List UInt8) : Nat → Nat → Except Nat (List Tk)
  | 0, _ => .ok []
  | n + 1, i => if i < b.length then (match nextK b i with
    | none => .error i
    | some (t, e) => match toksN b n (skipF b e) with
      | .error q => .error q
      | .ok l => .ok (t :: l)) else .ok []
def toksF (b : List UInt8) : Except Nat (List Tk) := toksN b b.length (skipF b 0)
theorem nextK_le {b : List UInt8} {i e : Nat} {t : Tk} (hl : i < b.length) (h : nextK b i = some (t, e)) : i < e ∧ e ≤ b.length := by
  unfold nextK at h
  rw [Option.map_eq_some_iff] at h
  obtain ⟨⟨k, e'⟩, h1, h2⟩ := h
  simp only [Prod.mk.injEq] at h2
  obtain ⟨_, rfl⟩ := h2
  exact nextF_le hl h1
theorem skipF_le {b : List UInt8} {i : Nat} (hi : i ≤ b.length) : skipF b i ≤ b.length ∧ i ≤ skipF b i := skipN_le b _ i hi
theorem tok_store {H : List AO} {k : Int} {s : ByteArray} {i : Nat} : storeAt (H ++ [.row [litI .i64 0, litS (bs []), litI .i64 0] 54]) 3 (.ptr H.length 0) (tokA k s i) = some (H ++ [tokR k s i]) := by
  unfold tokA
  rw [storeAt_agg (n := 3) (xs := [litI .i64 k, litS s, litI .i64 i]) (get_last H _) rfl rfl rfl, setL_last]; rfl
theorem bsl_tok {H : List AO} {id : Nat} {fr : Fr} {x : X} {k : Int} {s : ByteArray} {i : Nat} (hx : ev fr x = tokA k s i) : core cw0 (lookM mtl) mds H id (.bslice false 3 1 [litI .i64 0, litS (bs []), litI .i64 0] [(0, x)] 54) fr = some (.val (.sl 3 [tcells (k, s, i)] (some 1)) none) := by
  simp only [core, List.map_cons, List.map_nil, hx]
  rfl
theorem toks_loop {b : List UInt8} (hb : b.length ≤ 65536) : ∀ (n i : Nat) (A : AV) (l : List Tk) (K : List AO), b.length - i ≤ n → i ≤ b.length → l.length ≤ i → K[0]? = some (lexR b i) → OutOk K A l 0 →
    match toksN b n i with
    | .ok l' => ∃ A' x K', loopW (codeW cw0 (lookM mtl) mds c70l0) [0, 5, 6] [(0, bytesA b), (5, .ptr 0 0), (6, A)] K = some (.exit 0, [(0, bytesA b), (5, .ptr 0 0), (6, A'), (23, x)], K') ∧ OutOk K' A' (l ++ l') 0 ∧ (l ++ l').length ≤ b.length ∧ ∃ X, K'[0]? = some X
    | .error q => ∃ K', loopW (codeW cw0 (lookM mtl) mds c70l0) [0, 5, 6] [(0, bytesA b), (5, .ptr 0 0), (6, A)] K = some (.ret, [(2, .sl 0 [] (some 0)), (3, litI .i64 40), (4, litI .i64 q)], K')
  | n, i, A, l, K, hn, hi, hll, hp, hO => by
    have l1 := lx1 hp
    by_cases hl : i < b.length
    case neg =>
      have e : toksN b n i = .ok [] := by
        cases n with
        | zero => rfl
        | succ n => rw [toksN, if_neg hl]
      rw [e]
      refine ⟨A, litB false, K, ?_, by rw [List.append_nil]; exact hO, by rw [List.append_nil]; omega, _, hp⟩
      refine loopW_out ?_ (by simp)
      simp -implicitDefEqProofs only [c70l0, aW, ↓aP, makes, Nat.reduceLT, Nat.reduceEqDiff, Nat.reduceAdd, ↓reduceIte, Nat.reduceBEq, nilck_ptr, fadr_ptr, l1, lenV_bytes, show ¬ ((i : Int) < b.length) by omega]
    have hlt : (i : Int) < b.length := by omega
    obtain ⟨n, rfl⟩ : ∃ m, n = m + 1 := ⟨n - 1, by omega⟩
    rw [toksN, if_pos hl]
    have N := next_tells hp (by omega) hl
    cases hk : nextK b i with
    | none =>
      rw [hk] at N
      obtain ⟨k, K1, c1, U1⟩ := N
      obtain ⟨K2, c2, U2⟩ := callV_upd (id := K.length) rfl c1 hp U1
      have t2 : Ai.load (K2 ++ [tokR k (bs []) i]) none (.ptr K2.length 2) = some (litI .i64 i) := tk2 (get_last K2 _)
      simp only
      refine ⟨K2 ++ [tokR k (bs []) i], ?_⟩
      refine loopW_out ?_ (by simp)
      simp -implicitDefEqProofs only [c70l0, aW, ↓aP, makes, Nat.reduceLT, Nat.reduceEqDiff, Nat.reduceAdd, ↓reduceIte, Nat.reduceBEq, nilck_ptr, fadr_ptr, l1, lenV_bytes, hlt, c2, tok_store, t2]
    | some te =>
      obtain ⟨t, e⟩ := te
      rw [hk] at N
      obtain ⟨K1, c1, U1⟩ := N
      obtain ⟨K2, c2, U2⟩ := callV_upd (id := K.length) rfl c1 hp U1
      have le := nextK_le hl hk
      have t3 : Ai.load (K2 ++ [tokR t.1 t.2.1 t.2.2]) (some 3) (.ptr K2.length 0) = some (tokA t.1 t.2.1 t.2.2) := tk3 (get_last K2 _)
      have O3 := (hO.upd U2).app (tokR t.1 t.2.1 t.2.2)
      obtain ⟨A4, K4, ap, O4, _, hp4⟩ := app_out O3 (get_app U2.1) t (some 1) (by omega)
      obtain ⟨K5, c5, U5⟩ := skip_call hp4 (by omega) le.2 K4.length
      have sle := skipF_le le.2
      have IH := toks_loop hb n (skipF b e) A4 (l ++ [t]) K5 (by omega) sle.1 (by rw [List.length_append]; simp only [List.length_cons, List.length_nil]; omega) U5.1 (O4.upd U5)
      have bt : ∀ {H : List AO} {id : Nat} {fr : Fr} (x : X), ev fr x = tokA t.1 t.2.1 t.2.2 → core cw0 (lookM mtl) mds H id (.bslice false 3 1 [litI .i64 0, litS (bs []), litI .i64 0] [(0, x)] 54) fr = some (.val (.sl 3 [tcells t] (some 1)) none) := fun x hx => bsl_tok hx
      have step : codeW cw0 (lookM mtl) mds c70l0 (keep [0, 5, 6] [(0, bytesA b), (5, .ptr 0 0), (6, A)]) K = some (.normal, [(0, bytesA b), (5, .ptr 0 0), (6, A4)], K5) := by
        simp -implicitDefEqProofs only [c70l0, aW, ↓aP, makes, Nat.reduceLT, Nat.reduceEqDiff, Nat.reduceAdd, ↓reduceIte, Nat.reduceBEq, nilck_ptr, fadr_ptr, l1, lenV_bytes, hlt, c2, tok_store, t3, bt, core_app, ap, c5]
      simp only
      cases hr : toksN b n (skipF b e) with
      | error q =>
        rw [hr] at IH
        obtain ⟨K', L⟩ := IH
        exact ⟨K', loopW_round step L⟩
      | ok l' =>
        rw [hr] at IH
        obtain ⟨A', x, K', L, O', hlen, X, hX⟩ := IH
        rw [List.append_assoc, List.singleton_append] at O' hlen
        exact ⟨A', x, K', loopW_round step L, O', hlen, X, hX⟩
  termination_by n => n
end Go.Proofs.Ytkogkfpiijmbgaa.Ai
namespace Go.Proofs.Ytkogkfpiijmbgaa.Ai
open Go Go.Ai
theorem core_buildL {H : List AO} {id : Nat} {fr : Fr} {x : X} {b : List UInt8} (hx : ev fr x = bytesA b) : core cw0 (lookM mtl) mds H id (.build [.sl 0 [] (some 0), litI .i64 0] [(0, 1, x)]) fr = some (.val (.agg [bytesA b, litI .i64 0]) none) := by
  simp only [core, List.map_cons, List.map_nil, hx]
  rfl
theorem box_lex (b : List UInt8) (id : Nat) : boxV id 2 (.agg [bytesA b, litI .i64 0]) 83 = some (.val (.ptr id 0) (some (lexR b 0))) := rfl
def toksOut (b : List UInt8) : AV := match toksF b with
  | .ok l => .tup [.sl 3 ((l ++ [((0 : Int), bs [], b.length)]).map tcells) none, litI .i64 0, litI .i64 0]
  | .error q => .tup [.sl 0 [] (some 0), litI .i64 40, litI .i64 (q : Nat)]
theorem toks_call (b : List UInt8) (hb : b.length ≤ 65536) (H : List AO) (id : Nat) : callV cw0 mds 70 [bytesA b] H id = some (.val (toksOut b) none) := by
  have h0 : ([lexR b 0])[0]? = some (lexR b 0) := rfl
  obtain ⟨K1, c1, U1⟩ := skip_call (p := 0) (i := 0) h0 (by omega) (Nat.zero_le _) 1
  have sle := skipF_le (b := b) (i := 0) (Nat.zero_le _)
  have L := toks_loop hb b.length (skipF b 0) (.sl 0 [] (some 0)) [] K1 (by omega) sle.1 (by simp) U1.1 (.inl ⟨rfl, rfl⟩)
  have hgt : ¬ ((65536 : Int) < b.length) := by omega
  have bl : ∀ {H : List AO} {id : Nat} {fr : Fr} (x : X), ev fr x = bytesA b → core cw0 (lookM mtl) mds H id (.build [.sl 0 [] (some 0), litI .i64 0] [(0, 1, x)]) fr = some (.val (.agg [bytesA b, litI .i64 0]) none) := fun x hx => core_buildL hx
  unfold toksOut toksF
  cases hr : toksN b b.length (skipF b 0) with
  | error q =>
    rw [hr] at L
    obtain ⟨K2, L⟩ := L
    have : ∃ H', cw0 70 [bytesA b] [] = some (.ret (.tup [.sl 0 [] (some 0), litI .i64 40, litI .i64 (q : Nat)]), H') := by
      refine cw0_ret fn70 (c := c70) rfl rfl rfl rfl ?_
      simp -implicitDefEqProofs only [c70, aW, ↓aP, makes, Nat.reduceLT, Nat.reduceEqDiff, Nat.reduceAdd, ↓reduceIte, Nat.reduceBEq, lenV_bytes, hgt, bl, core_box, List.length_nil, box_lex, List.length_cons, c1, L]
      rfl
    obtain ⟨H', this⟩ := this
    exact callV_pureT rfl rfl this rfl
  | ok l =>
    rw [hr] at L
    simp only [List.nil_append] at L
    obtain ⟨A2, x2, K2, L, O2, hlen, Y, hX⟩ := L
    obtain ⟨A3, K3, ap, _, ⟨q, rfl, hq⟩, _⟩ := app_out O2 hX ((0 : Int), bs [], b.length) (some 1) (by omega)
    have bt : ∀ {H : List AO} {id : Nat} {fr : Fr} (x : X), ev fr x = tokA 0 (bs []) b.length → core cw0 (lookM mtl) mds H id (.bslice false 3 1 [litI .i64 0, litS (bs []), litI .i64 0] [(0, x)] 54) fr = some (.val (.sl 3 [tcells ((0 : Int), bs [], b.length)] (some 1)) none) := fun x hx => bsl_tok hx
    have this : cw0 70 [bytesA b] [] = some (.ret (.tup [.own q 0 (l ++ [((0 : Int), bs [], b.length)]).length 3 none, litI .i64 0, litI .i64 0]), K3) := by
      refine cw0_of fn70 (c := c70) rfl rfl rfl rfl ?_
      simp -implicitDefEqProofs only [c70, aW, ↓aP, makes, Nat.reduceLT, Nat.reduceEqDiff, Nat.reduceAdd, ↓reduceIte, Nat.reduceBEq, lenV_bytes, hgt, bl, core_box, List.length_nil, box_lex, List.length_cons, c1, L, core_build3, build3V_tok, bt, core_app, ap]
      rfl
    have fz := frz_toks (k := 13) hq
    unfold callV
    rw [show mds 70 = .pure from rfl]
    simp only
    rw [show mapL (frz H frzF) [bytesA b] = some ([bytesA b], []) from rfl]
    simp only [Option.bind_some]
    rw [this]
    simp only [Option.bind_some]
    rw [show frzF = 15 + 1 from rfl, frz]
    simp only [mapL, fz, Option.bind_some]
    rfl
def rightL (k : Int) (s : ByteArray) : Bool := match toksF s.data.toList with
  | .ok [t] => t.1 == k && sEq t.2.1 s
  | _ => false
theorem box_tok (k : Int) (s : ByteArray) (i : Nat) (id : Nat) : boxV id 3 (tokA k s i) 54 = some (.val (.ptr id 0) (some (tokR k s i))) := rfl
theorem convV_bytesA (H : List AO) (s : ByteArray) : convV H .toBytes (litS s) = some (.val (bytesA s.data.toList) none) := rfl
theorem right_call (k : Int) (s : ByteArray) (hs : s.size ≤ 65536) (H : List AO) (id : Nat) : callV cw0 mds 66 [tokA k s 0] H id = some (.val (litB (rightL k s)) none) := by
  have hl : s.data.toList.length = s.size := by simp
  have tc := toks_call s.data.toList (by omega)
  have k0 := tk0 (H := [tokR k s 0]) (p := 0) rfl
  have k1 := tk1 (H := [tokR k s 0]) (p := 0) rfl
  have key : ∃ H', cw0 66 [tokA k s 0] [] = some (.ret (litB (rightL k s)), H') := by
    unfold toksOut at tc
    unfold rightL
    cases hr : toksF s.data.toList with
    | error q =>
      rw [hr] at tc
      simp only at tc
      refine cw0_ret fn66 (c := c66) rfl rfl rfl rfl ?_
      simp -implicitDefEqProofs only [c66, aW, ↓aP, makes, Nat.reduceLT, Nat.reduceEqDiff, Nat.reduceAdd, ↓reduceIte, Nat.reduceBEq, core_box, box_tok, List.length_nil, fadr_ptr, k0, k1, core_convV, convV_bytesA, tc, lenV_sl, Int.reduceBEq]
      rfl
    | ok l =>
      rw [hr] at tc
      simp only at tc
      match l with
      | [t] =>
        have ia : ∀ k, iadr 3 (.sl 3 (([t] ++ [((0 : Int), bs [], s.data.toList.length)]).map tcells) none) (litI k 0) = some (.ip (tcells t)) := fun k => rfl
        have f1 : fadr 1 (.ip (tcells t)) = some (.ip [litS t.2.1, litI .i64 t.2.2]) := rfl
        have f0 : fadr 0 (.ip (tcells t)) = some (.ip (tcells t)) := rfl
        have g0 : (tcells t).head? = some (litI .i64 t.1) := rfl
        have hlen : lenV (.sl 3 (([t] ++ [((0 : Int), bs [], s.data.toList.length)]).map tcells) none) = some (litI .i64 2) := rfl
        simp only
        refine cw0_ret fn66 (c := c66) rfl rfl rfl rfl ?_
        generalize (AV.sl 3 (([t] ++ [((0 : Int), bs [], s.data.toList.length)]).map tcells) none) = S at tc ia hlen
        have es : sEq t.2.1 s = (t.2.1.data.toList == s.data.toList) := rfl
        rw [es]
        cases e1 : (t.1 == k) with
        | false =>
          simp -implicitDefEqProofs only [c66, aW, ↓aP, makes, Nat.reduceLT, Nat.reduceEqDiff, Nat.reduceAdd, ↓reduceIte, Nat.reduceBEq, core_box, box_tok, List.length_nil, fadr_ptr, k0, k1, core_convV, convV_bytesA, tc, hlen, ia, f0, f1, g0, e1, bin_eqlS, Int.reduceBEq, Bool.false_and]
          rfl
        | true =>
          simp -implicitDefEqProofs only [c66, aW, ↓aP, makes, Nat.reduceLT, Nat.reduceEqDiff, Nat.reduceAdd, ↓reduceIte, Nat.reduceBEq, core_box, box_tok, List.length_nil, fadr_ptr, k0, k1, core_convV, convV_bytesA, tc, hlen, ia, f0, f1, g0, e1, bin_eqlS, Int.reduceBEq, Bool.true_and]
          rfl
      | [] =>
        have hlen : lenV (.sl 3 (([] ++ [((0 : Int), bs [], s.data.toList.length)]).map tcells) none) = some (litI .i64 1) := rfl
        generalize (AV.sl 3 (([] ++ [((0 : Int), bs [], s.data.toList.length)]).map tcells) none) = S at tc hlen
        refine cw0_ret fn66 (c := c66) rfl rfl rfl rfl ?_
        simp -implicitDefEqProofs only [c66, aW, ↓aP, makes, Nat.reduceLT, Nat.reduceEqDiff, Nat.reduceAdd, ↓reduceIte, Nat.reduceBEq, core_box, box_tok, List.length_nil, fadr_ptr, k0, k1, core_convV, convV_bytesA, tc, hlen, Int.reduceBEq]
        rfl
      | t :: u :: r =>
        have hlen : lenV (.sl 3 (((t :: u :: r) ++ [((0 : Int), bs [], s.data.toList.length)]).map tcells) none) = some (litI .i64 (r.length + 3 : Nat)) := by
          have e : (((t :: u :: r) ++ [((0 : Int), bs [], s.data.toList.length)]).map tcells).length = r.length + 3 := by simp
          rw [lenV_sl, e]
        have e2 : (((r.length + 3 : Nat) : Int) == 2) = false := beq_eq_false_iff_ne.2 (by omega)
        generalize (AV.sl 3 (((t :: u :: r) ++ [((0 : Int), bs [], s.data.toList.length)]).map tcells) none) = S at tc hlen
        refine cw0_ret fn66 (c := c66) rfl rfl rfl rfl ?_
        simp -implicitDefEqProofs only [c66, aW, ↓aP, makes, Nat.reduceLT, Nat.reduceEqDiff, Nat.reduceAdd, ↓reduceIte, Nat.reduceBEq, core_box, box_tok, List.length_nil, fadr_ptr, k0, k1, core_convV, convV_bytesA, tc, hlen, e2, Int.reduceBEq]
        rfl
  obtain ⟨H', key⟩ := key
  exact callV_pureA rfl rfl key rfl
theorem core_buildK {H : List AO} {id : Nat} {fr : Fr} {x y : X} {k : Int} {s : ByteArray} (hx : ev fr x = litI .i64 k) (hy : ev fr y = litS s) : core cw0 (lookM mtl) mds H id (.build [litI .i64 0, litS (bs []), litI .i64 0] [(0, 1, x), (1, 1, y)]) fr = some (.val (tokA k s 0) none) := by
  simp only [core, List.map_cons, List.map_nil, hx, hy]
  rfl
theorem token_call (k : Int) (s : ByteArray) (hs : s.size ≤ 65536) (H : List AO) (id : Nat) : callV cw0 mds 50 [litI .i64 k, litS s] H id = some (.val (litB (rightL k s)) none) := by
  have rc := right_call k s hs
  have bk : ∀ {H : List AO} {id : Nat} {fr : Fr} (x y : X), ev fr x = litI .i64 k → ev fr y = litS s → core cw0 (lookM mtl) mds H id (.build [litI .i64 0, litS (bs []), litI .i64 0] [(0, 1, x), (1, 1, y)]) fr = some (.val (tokA k s 0) none) := fun x y hx hy => core_buildK hx hy
  have key : ∃ H', cw0 50 [litI .i64 k, litS s] [] = some (.ret (litB (rightL k s)), H') := by
    refine cw0_ret fn50 (c := c50) rfl rfl rfl rfl ?_
    simp -implicitDefEqProofs only [c50, aW, ↓aP, makes, Nat.reduceLT, Nat.reduceEqDiff, Nat.reduceAdd, ↓reduceIte, Nat.reduceBEq, bk, rc]
    rfl
  obtain ⟨H', key⟩ := key
  exact callV_pure rfl rfl key rfl
theorem name_call (s : ByteArray) (hs : s.size ≤ 65536) (H : List AO) (id : Nat) : callV cw0 mds 36 [litS s] H id = some (.val (litB (rightL 1 s)) none) := by
  have rc := token_call 1 s hs
  have key : ∃ H', cw0 36 [litS s] [] = some (.ret (litB (rightL 1 s)), H') := by
    refine cw0_ret fn36 (c := c36) rfl rfl rfl rfl ?_
    simp -implicitDefEqProofs only [c36, aW, ↓aP, makes, Nat.reduceLT, Nat.reduceEqDiff, Nat.reduceAdd, ↓reduceIte, Nat.reduceBEq, rc]
    rfl
  obtain ⟨H', key⟩ := key
  exact callV_pure rfl rfl key rfl
theorem ctor_call (s : ByteArray) (hs : s.size ≤ 65536) (H : List AO) (id : Nat) : callV cw0 mds 35 [litS s] H id = some (.val (litB (rightL 2 s)) none) := by
  have rc := token_call 2 s hs
  have key : ∃ H', cw0 35 [litS s] [] = some (.ret (litB (rightL 2 s)), H') := by
    refine cw0_ret fn35 (c := c35) rfl rfl rfl rfl ?_
    simp -implicitDefEqProofs only [c35, aW, ↓aP, makes, Nat.reduceLT, Nat.reduceEqDiff, Nat.reduceAdd, ↓reduceIte, Nat.reduceBEq, rc]
    rfl
  obtain ⟨H', key⟩ := key
  exact callV_pure rfl rfl key rfl
end Go.Proofs.Ytkogkfpiijmbgaa.Ai
namespace Go.Proofs.Ytkogkfpiijmbgaa.Ai
open Go Go.Ai
theorem ba_ext {a b : ByteArray} (h : a.data.toList = b.data.toList) : a = b := by
  obtain ⟨⟨a⟩⟩ := a
  obtain ⟨⟨b⟩⟩ := b
  simp only at h
  rw [h]
theorem ext_list (s : ByteArray) (i j : Nat) : (s.extract i j).data.toList = (s.data.toList.drop i).take (j - i) := by
  simp [ByteArray.data_extract]
theorem ext_text (s : ByteArray) (i j : Nat) : s.extract i j = textOf s.data.toList i j := by
  apply ba_ext
  rw [ext_list]; rfl
theorem sEq_comm (a b : ByteArray) : sEq a b = sEq b a := by
  unfold sEq
  by_cases h : a.data.toList = b.data.toList
  · rw [beq_iff_eq.2 h, beq_iff_eq.2 h.symm]
  · rw [beq_eq_false_iff_ne.2 h, beq_eq_false_iff_ne.2 (fun e => h e.symm)]
def bitR (f : Nat) (c : Nat) : Option Bool := boolOf (callB (lookF tb) ov0 (lookM mtl) mds 20 f [litI .u8 (c : Int)] [])
set_option maxRecDepth 1000000 in
theorem bit_all : (List.range 256).all (fun c => bitR 55 c == some (kindK c == 2) && bitR 56 c == some (kindK c == 3) && bitR 57 c == some (kindK c == 4)) = true := by kernel_rfl
theorem bit_call {f : Nat} {k : Int} {c : Nat} (hm : mds f = .pure) (h : bitR f c = some (kindK c == k)) (H : List AO) (id : Nat) : callV cw0 mds f [litI .u8 (c : Int)] H id = some (.val (litB (kindK c == k)) none) := by
  obtain ⟨H', h'⟩ := boolOf_some h
  exact callV_pure hm rfl (callB_leW 20 _ _ _ _ h') rfl
theorem bits (c : Nat) (h : c < 256) : bitR 55 c = some (kindK c == 2) ∧ bitR 56 c = some (kindK c == 3) ∧ bitR 57 c = some (kindK c == 4) := by
  have := List.all_eq_true.1 bit_all c (List.mem_range.2 h)
  simp only [Bool.and_eq_true, beq_iff_eq] at this
  exact ⟨this.1.1, this.1.2, this.2⟩
theorem small_call (c : Nat) (h : c < 256) (H : List AO) (id : Nat) : callV cw0 mds 55 [litI .u8 (c : Int)] H id = some (.val (litB (kindK c == 2)) none) := bit_call rfl (bits c h).1 H id
theorem large_call (c : Nat) (h : c < 256) (H : List AO) (id : Nat) : callV cw0 mds 56 [litI .u8 (c : Int)] H id = some (.val (litB (kindK c == 3)) none) := bit_call rfl (bits c h).2.1 H id
theorem digit_call (c : Nat) (h : c < 256) (H : List AO) (id : Nat) : callV cw0 mds 57 [litI .u8 (c : Int)] H id = some (.val (litB (kindK c == 4)) none) := bit_call rfl (bits c h).2.2 H id
theorem in58_loop (c : Option Nat) (l : List ByteArray) (v : ByteArray) (hl : l.length ≤ 1000) : ∀ (r : List ByteArray) (n : Nat), l.drop n = r → n ≤ l.length →
    (r.any (sEq v) = false ∧ ∃ i', loopW (codeW cw0 (lookM mtl) mds c58l0) [0, 1, 5] [(0, litS v), (1, rowS c l), (5, litI .i64 n)] [] = some (.exit 0, [(0, litS v), (1, rowS c l), (5, i'), (9, litB false)], [])) ∨
    (r.any (sEq v) = true ∧ loopW (codeW cw0 (lookM mtl) mds c58l0) [0, 1, 5] [(0, litS v), (1, rowS c l), (5, litI .i64 n)] [] = some (.ret, [(4, litB true)], []))
  | [], n, hd, hn => by
    have h : l.length ≤ n := by
      have := congrArg List.length hd
      rw [List.length_drop, List.length_nil] at this; omega
    left
    refine ⟨rfl, litI .i64 n, ?_⟩
    refine loopW_out ?_ (by simp)
    simp -implicitDefEqProofs only [c58l0, aW, ↓aP, makes, Nat.reduceLT, Nat.reduceEqDiff, Nat.reduceAdd, ↓reduceIte, Nat.reduceBEq, lenV_rowS, show ¬ ((n : Int) < l.length) by omega]
  | x :: r, n, hd, hn => by
    have hlt : n < l.length := by
      have := congrArg List.length hd
      rw [List.length_drop, List.length_cons] at this; omega
    have hg : l[n]? = some x := by
      have := congrArg List.head? hd
      rwa [List.head?_drop] at this
    have hlti : (n : Int) < l.length := by omega
    rw [List.any_cons]
    have e0 : (x.data.toList == v.data.toList) = sEq v x := sEq_comm x v
    cases hx : sEq v x with
    | true =>
      right
      refine ⟨by rw [Bool.true_or], ?_⟩
      rw [hx] at e0
      refine loopW_out ?_ (by simp)
      simp -implicitDefEqProofs only [c58l0, aW, ↓aP, makes, Nat.reduceLT, Nat.reduceEqDiff, Nat.reduceAdd, ↓reduceIte, Nat.reduceBEq, lenV_rowS, hlti, iadr_rowS hg, bin_eqlS, e0]
    | false =>
      rw [hx] at e0
      rw [Bool.false_or]
      have step : codeW cw0 (lookM mtl) mds c58l0 (keep [0, 1, 5] [(0, litS v), (1, rowS c l), (5, litI .i64 n)]) [] = some (.normal, [(0, litS v), (1, rowS c l), (5, litI .i64 ((n + 1 : Nat) : Int))], []) := by
        simp -implicitDefEqProofs only [c58l0, aW, ↓aP, makes, Nat.reduceLT, Nat.reduceEqDiff, Nat.reduceAdd, ↓reduceIte, Nat.reduceBEq, lenV_rowS, hlti, iadr_rowS hg, bin_eqlS, e0, wrap1 (show n < 4611686018427387904 by omega)]
      rcases in58_loop c l v hl r (n + 1) (by rw [← List.drop_drop, hd]; rfl) (by omega) with ⟨h1, i', h⟩ | ⟨h1, h⟩
      · exact .inl ⟨h1, i', loopW_round step h⟩
      · exact .inr ⟨h1, loopW_round step h⟩
theorem in58_call (c : Option Nat) (l : List ByteArray) (v : ByteArray) (hl : l.length ≤ 1000) (H : List AO) (id : Nat) : callV cw0 mds 58 [litS v, rowS c l] H id = some (.val (litB (l.any (sEq v))) none) := by
  have key : ∃ H', cw0 58 [litS v, rowS c l] [] = some (.ret (litB (l.any (sEq v))), H') := by
    have L := in58_loop c l v hl l 0 rfl (Nat.zero_le _)
    rw [show ((0 : Nat) : Int) = 0 from rfl] at L
    refine cw0_ret fn58 (c := c58) rfl rfl rfl rfl ?_
    rcases L with ⟨h1, i', L⟩ | ⟨h1, L⟩
    · rw [h1]
      simp -implicitDefEqProofs only [c58, aW, ↓aP, makes, Nat.reduceLT, Nat.reduceEqDiff, Nat.reduceAdd, ↓reduceIte, Nat.reduceBEq, L]
      rfl
    · rw [h1]
      simp -implicitDefEqProofs only [c58, aW, ↓aP, makes, Nat.reduceLT, Nat.reduceEqDiff, Nat.reduceAdd, ↓reduceIte, Nat.reduceBEq, L]
      rfl
  obtain ⟨H', key⟩ := key
  exact callV_pure rfl rfl key rfl
theorem slS_cut {s : ByteArray} {i j : Nat} (h1 : i ≤ j) (h2 : j ≤ s.size) : sliceS (litS s) (some (litI .i64 (i : Int))) (some (litI .i64 (j : Int))) = some (litS (s.extract i j)) := by
  show (cuts s.size none (some (litI .i64 (i : Int))) (some (litI .i64 (j : Int))) none).bind _ = _
  simp only [cuts, bound_nat h2, bound_nat h1, Option.bind_some]
def begB (s : ByteArray) (i : Nat) (t : ByteArray) : Bool := decide (i + t.size ≤ s.size) && sEq (s.extract i (i + t.size)) t
theorem begins_call (s : ByteArray) (i : Nat) (t : ByteArray) (hi : i ≤ 65536) (ht : t.size ≤ 65536) (H : List AO) (id : Nat) : callV cw0 mds 54 [litS s, litI .i64 (i : Int), litS t] H id = some (.val (litB (begB s i t)) none) := by
  have hw : IntKind.wrap .i64 ((i : Int) + (t.size : Int)) = ((i + t.size : Nat) : Int) := by rw [Go.Ai.wrap_small] <;> omega
  have key : ∃ H', cw0 54 [litS s, litI .i64 (i : Int), litS t] [] = some (.ret (litB (begB s i t)), H') := by
    refine cw0_ret fn54 (c := c54) rfl rfl rfl rfl ?_
    unfold begB
    by_cases h : i + t.size ≤ s.size
    · have hc : ((i + t.size : Nat) : Int) ≤ (s.size : Int) := by omega
      have sl := slS_cut (s := s) (i := i) (j := i + t.size) (by omega) h
      have e : ((s.extract i (i + t.size)).data.toList == t.data.toList) = sEq (s.extract i (i + t.size)) t := rfl
      rw [decide_eq_true h, Bool.true_and]
      simp -implicitDefEqProofs only [c54, aW, ↓aP, makes, Nat.reduceLT, Nat.reduceEqDiff, Nat.reduceAdd, ↓reduceIte, Nat.reduceBEq, lenS_str, hw, hc, core_slSV, sl, bin_eqlS, e]
      rfl
    · have hc : ¬ ((i + t.size : Nat) : Int) ≤ (s.size : Int) := by omega
      rw [decide_eq_false h, Bool.false_and]
      simp -implicitDefEqProofs only [c54, aW, ↓aP, makes, Nat.reduceLT, Nat.reduceEqDiff, Nat.reduceAdd, ↓reduceIte, Nat.reduceBEq, lenS_str, hw, hc]
      rfl
  obtain ⟨H', key⟩ := key
  exact callV_pure rfl rfl key rfl
theorem pk_drop (b : List UInt8) (i k : Nat) : pk b (i + k) = pk (b.drop i) k := by
  unfold pk
  rw [List.getElem?_drop]
theorem beg_one (s : ByteArray) (i : Nat) (hi : i ≤ s.size) (c : Nat) (hc : 0 < c) (h2 : c < 256) : begB s i (bs [c]) = (pk s.data.toList i == c) := by
  have hl : s.data.toList.length = s.size := by simp
  have e : sEq (s.extract i (i + 1)) (bs [c]) = ((s.data.toList.drop i).take 1 == [UInt8.ofNat c]) := by
    unfold sEq
    rw [ext_list, show i + 1 - i = 1 by omega]; rfl
  have p0 := pk_drop s.data.toList i 0
  rw [Nat.add_zero] at p0
  unfold begB
  rw [show (bs [c]).size = 1 from rfl, e, p0]
  have hd : (s.data.toList.drop i).length = s.size - i := by rw [List.length_drop, hl]
  cases hx : s.data.toList.drop i with
  | nil =>
    rw [hx] at hd
    have : ¬ (i + 1 ≤ s.size) := by simp at hd; omega
    rw [decide_eq_false this]
    show false = ((0 : Nat) == c)
    rw [eq_comm]; exact beq_eq_false_iff_ne.2 (by omega)
  | cons x r =>
    rw [hx] at hd
    have : i + 1 ≤ s.size := by simp at hd; omega
    rw [decide_eq_true this, Bool.true_and]
    show ([x] == [UInt8.ofNat c]) = (x.toNat == c)
    by_cases hxc : x.toNat = c
    · rw [beq_iff_eq.2 hxc, ← hxc]; simp
    · rw [beq_eq_false_iff_ne.2 hxc]
      refine beq_eq_false_iff_ne.2 fun h => hxc ?_
      simp only [List.cons.injEq, and_true] at h
      rw [h]
      exact Nat.mod_eq_of_lt h2
theorem beg_two (s : ByteArray) (i : Nat) (hi : i ≤ s.size) (c d : Nat) (hc : 0 < c) (h2 : c < 256) (hd0 : 0 < d) (hd2 : d < 256) : begB s i (bs [c, d]) = (pk s.data.toList i == c && pk s.data.toList (i + 1) == d) := by
  have hl : s.data.toList.length = s.size := by simp
  have e : sEq (s.extract i (i + 2)) (bs [c, d]) = ((s.data.toList.drop i).take 2 == [UInt8.ofNat c, UInt8.ofNat d]) := by
    unfold sEq
    rw [ext_list, show i + 2 - i = 2 by omega]; rfl
  have p0 := pk_drop s.data.toList i 0
  have p1 := pk_drop s.data.toList i 1
  rw [Nat.add_zero] at p0
  unfold begB
  rw [show (bs [c, d]).size = 2 from rfl, e, p0, p1]
  have hd : (s.data.toList.drop i).length = s.size - i := by rw [List.length_drop, hl]
  have eqb : ∀ (x : UInt8) (c : Nat), c < 256 → ((x == UInt8.ofNat c) = (x.toNat == c)) := by
    intro x c h2
    by_cases hxc : x.toNat = c
    · rw [beq_iff_eq.2 hxc, ← hxc]; simp
    · rw [beq_eq_false_iff_ne.2 hxc]
      refine beq_eq_false_iff_ne.2 fun h => hxc ?_
      rw [h]
      exact Nat.mod_eq_of_lt h2
  match hx : s.data.toList.drop i with
  | [] =>
    rw [hx] at hd
    have : ¬ (i + 2 ≤ s.size) := by simp at hd; omega
    rw [decide_eq_false this]
    show false = (((0 : Nat) == c) && ((0 : Nat) == d))
    rw [beq_eq_false_iff_ne.2 (show (0 : Nat) ≠ c by omega)]; rfl
  | [x] =>
    rw [hx] at hd
    have : ¬ (i + 2 ≤ s.size) := by simp at hd; omega
    rw [decide_eq_false this]
    show false = ((x.toNat == c) && ((0 : Nat) == d))
    rw [beq_eq_false_iff_ne.2 (show (0 : Nat) ≠ d by omega), Bool.and_false]
  | x :: y :: r =>
    rw [hx] at hd
    have : i + 2 ≤ s.size := by simp at hd; omega
    rw [decide_eq_true this, Bool.true_and]
    show ([x, y] == [UInt8.ofNat c, UInt8.ofNat d]) = ((x.toNat == c) && (y.toNat == d))
    rw [← eqb x c h2, ← eqb y d hd2]
    show ((x == UInt8.ofNat c) && ((y == UInt8.ofNat d) && true)) = _
    rw [Bool.and_true]
theorem idx_pk {s : ByteArray} {i : Nat} (h : i < s.size) {k : IntKind} : idxS (litS s) (litI k (i : Int)) = some (litI .u8 (pk s.data.toList i : Nat)) := by
  have hl : s.data.toList.length = s.size := by simp
  have hg : s.data.toList[i]? = some (s.data.toList[i]'(by omega)) := List.getElem?_eq_getElem (by omega)
  rw [pk_some hg]
  exact idxS_str rfl hg
theorem line44_loop {s : ByteArray} (hs : s.size ≤ 65536) : ∀ (n i : Nat), n = s.data.toList.length - i → i ≤ s.size →
    loopW (codeW cw0 (lookM mtl) mds c44l0) [0, 1] [(0, litS s), (1, litI .i64 i)] [] = some (.exit 3, [(0, litS s), (1, litI .i64 (lineN s.data.toList n i : Nat)), (48, litB false)], [])
  | 0, i, hn, hi => by
    have hl : s.data.toList.length = s.size := by simp
    refine loopW_out ?_ (by simp)
    simp -implicitDefEqProofs only [c44l0, aW, ↓aP, makes, Nat.reduceLT, Nat.reduceEqDiff, Nat.reduceAdd, ↓reduceIte, Nat.reduceBEq, lenS_str, show ¬ ((i : Int) < s.size) by omega]
    rfl
  | n + 1, i, hn, hi => by
    have hl : s.data.toList.length = s.size := by simp
    have hlt : (i : Int) < s.size := by omega
    have ix := idx_pk (s := s) (i := i) (by omega) (k := .i64)
    rw [lineN]
    by_cases hx : pk s.data.toList i ≠ 10
    · rw [if_pos ⟨by omega, hx⟩]
      have hne : (((pk s.data.toList i : Nat) : Int) != 10) = true := bne_iff_ne.2 (by omega)
      refine loopW_round ?_ (line44_loop hs n (i + 1) (by omega) (by omega))
      simp -implicitDefEqProofs only [c44l0, aW, ↓aP, makes, Nat.reduceLT, Nat.reduceEqDiff, Nat.reduceAdd, ↓reduceIte, Nat.reduceBEq, lenS_str, hlt, ix, hne, wrap1 (show i < 4611686018427387904 by omega)]
    · rw [if_neg (fun e => hx e.2)]
      have hne : (((pk s.data.toList i : Nat) : Int) != 10) = false := by
        rw [bne_eq_false_iff_eq]; omega
      refine loopW_out ?_ (by simp)
      simp -implicitDefEqProofs only [c44l0, aW, ↓aP, makes, Nat.reduceLT, Nat.reduceEqDiff, Nat.reduceAdd, ↓reduceIte, Nat.reduceBEq, lenS_str, hlt, ix, hne]
theorem blank_loop {s : ByteArray} (hs : s.size ≤ 65536) : ∀ (n i : Nat), s.data.toList.length - i ≤ n → i ≤ s.size →
    (∃ x, loopW (codeW cw0 (lookM mtl) mds c44l1) [0, 1] [(0, litS s), (1, litI .i64 i)] [] = some (.exit 0, [(0, litS s), (1, litI .i64 (skipN s.data.toList n i : Nat)), (8, x)], [])) ∨
    loopW (codeW cw0 (lookM mtl) mds c44l1) [0, 1] [(0, litS s), (1, litI .i64 i)] [] = some (.ret, [(4, litI .i64 (skipN s.data.toList n i : Nat))], [])
  | 0, i, hn, hi => by
    have hl : s.data.toList.length = s.size := by simp
    left
    refine ⟨litB false, loopW_out ?_ (by simp)⟩
    simp -implicitDefEqProofs only [c44l1, aW, ↓aP, makes, Nat.reduceLT, Nat.reduceEqDiff, Nat.reduceAdd, ↓reduceIte, Nat.reduceBEq, lenS_str, show ¬ ((i : Int) < s.size) by omega]
    rfl
  | n + 1, i, hn, hi => by
    have hl : s.data.toList.length = s.size := by simp
    rw [skipN]
    by_cases hil : i < s.data.toList.length
    case neg =>
      rw [if_neg hil]
      left
      refine ⟨litB false, loopW_out ?_ (by simp)⟩
      simp -implicitDefEqProofs only [c44l1, aW, ↓aP, makes, Nat.reduceLT, Nat.reduceEqDiff, Nat.reduceAdd, ↓reduceIte, Nat.reduceBEq, lenS_str, show ¬ ((i : Int) < s.size) by omega]
    rw [if_pos hil]
    have hlt : (i : Int) < s.size := by omega
    have ix := idx_pk (s := s) (i := i) (by omega) (k := .i64)
    have c32 := pkb s.data.toList i 32
    have c9 := pkb s.data.toList i 9
    have c10 := pkb s.data.toList i 10
    have c13 := pkb s.data.toList i 13
    simp only [show ((32 : Nat) : Int) = 32 from rfl, show ((9 : Nat) : Int) = 9 from rfl, show ((10 : Nat) : Int) = 10 from rfl, show ((13 : Nat) : Int) = 13 from rfl] at c32 c9 c10 c13
    by_cases hx : kindK (pk s.data.toList i) = 1
    · rw [if_pos hx]
      have step : codeW cw0 (lookM mtl) mds c44l1 (keep [0, 1] [(0, litS s), (1, litI .i64 i)]) [] = some (.normal, [(0, litS s), (1, litI .i64 ((i + 1 : Nat) : Int))], []) := by
        have h4 : pk s.data.toList i = 32 ∨ pk s.data.toList i = 9 ∨ pk s.data.toList i = 10 ∨ pk s.data.toList i = 13 := by
          unfold kindK at hx
          split at hx
          · assumption
          · split at hx
            · omega
            · split at hx
              · omega
              · split at hx
                · omega
                · split at hx <;> omega
        have w := wrap1 (show i < 4611686018427387904 by omega)
        rcases h4 with h | h | h | h
        all_goals
          rw [h] at c32 c9 c10 c13
          simp only [Nat.reduceBEq] at c32 c9 c10 c13
          rw [h] at ix
          simp -implicitDefEqProofs only [c44l1, aW, ↓aP, makes, Nat.reduceLT, Nat.reduceEqDiff, Nat.reduceAdd, ↓reduceIte, Nat.reduceBEq, lenS_str, hlt, ix, Int.reduceBEq, Int.cast_ofNat_Int, w]
      rcases blank_loop hs n (i + 1) (by omega) (by omega) with ⟨x, L⟩ | L
      · exact .inl ⟨x, loopW_round step L⟩
      · exact .inr (loopW_round step L)
    · rw [if_neg hx]
      have n32 : (pk s.data.toList i == 32) = false := beq_eq_false_iff_ne.2 fun h => hx (by rw [h]; rfl)
      have n9 : (pk s.data.toList i == 9) = false := beq_eq_false_iff_ne.2 fun h => hx (by rw [h]; rfl)
      have n10 : (pk s.data.toList i == 10) = false := beq_eq_false_iff_ne.2 fun h => hx (by rw [h]; rfl)
      have n13 : (pk s.data.toList i == 13) = false := beq_eq_false_iff_ne.2 fun h => hx (by rw [h]; rfl)
      rw [n32] at c32
      rw [n9] at c9
      rw [n10] at c10
      rw [n13] at c13
      have bc := begins_call s i (bs [45, 45]) (by omega) (by decide)
      rw [beg_two s i hi 45 45 (by omega) (by omega) (by omega) (by omega)] at bc
      by_cases hd : pk s.data.toList i = 45 ∧ pk s.data.toList (i + 1) = 45
      · rw [if_pos hd]
        rw [beq_iff_eq.2 hd.1, beq_iff_eq.2 hd.2, Bool.and_self] at bc
        have L0 := line44_loop hs (s.data.toList.length - i) i rfl hi
        have L1 : loopW (codeW cw0 (lookM mtl) mds c44l0) [0, 1] [(0, litS s), (1, litI .i64 i), (35, litB true)] [] = some (.exit 3, [(0, litS s), (1, litI .i64 (lineN s.data.toList (s.data.toList.length - i) i : Nat)), (48, litB false)], []) := by
          rw [← loopW_keep]; exact L0
        have step : codeW cw0 (lookM mtl) mds c44l1 (keep [0, 1] [(0, litS s), (1, litI .i64 i)]) [] = some (.normal, [(0, litS s), (1, litI .i64 (lineF s.data.toList i : Nat)), (48, litB false)], []) := by
          unfold lineF
          simp -implicitDefEqProofs only [c44l1, aW, ↓aP, makes, Nat.reduceLT, Nat.reduceEqDiff, Nat.reduceAdd, ↓reduceIte, Nat.reduceBEq, lenS_str, hlt, ix, c32, c9, c10, c13, bc, L1]
        have hlf := lineF_lt hil hd.1
        rcases blank_loop hs n (lineF s.data.toList i) (by omega) (by omega) with ⟨x, L⟩ | L
        · exact .inl ⟨x, loopW_next step rfl L⟩
        · exact .inr (loopW_next step rfl L)
      · rw [if_neg hd]
        have e : (pk s.data.toList i == 45 && pk s.data.toList (i + 1) == 45) = false := by
          rw [Bool.and_eq_false_iff]
          by_cases h1 : pk s.data.toList i = 45
          · exact .inr (beq_eq_false_iff_ne.2 fun h2 => hd ⟨h1, h2⟩)
          · exact .inl (beq_eq_false_iff_ne.2 h1)
        rw [e] at bc
        right
        refine loopW_out ?_ (by simp)
        simp -implicitDefEqProofs only [c44l1, aW, ↓aP, makes, Nat.reduceLT, Nat.reduceEqDiff, Nat.reduceAdd, ↓reduceIte, Nat.reduceBEq, lenS_str, hlt, ix, c32, c9, c10, c13, bc]
theorem blank_call (s : ByteArray) (hs : s.size ≤ 65536) (i : Nat) (hi : i ≤ s.size) (H : List AO) (id : Nat) : callV cw0 mds 44 [litS s, litI .i64 (i : Int)] H id = some (.val (litI .i64 (skipF s.data.toList i : Nat)) none) := by
  have key : ∃ H', cw0 44 [litS s, litI .i64 (i : Int)] [] = some (.ret (litI .i64 (skipF s.data.toList i : Nat)), H') := by
    have L := blank_loop hs (s.data.toList.length - i) i (Nat.le_refl _) hi
    refine cw0_ret fn44 (c := c44) rfl rfl rfl rfl ?_
    unfold skipF
    rcases L with ⟨x, L⟩ | L
    · simp -implicitDefEqProofs only [c44, aW, ↓aP, makes, Nat.reduceLT, Nat.reduceEqDiff, Nat.reduceAdd, ↓reduceIte, Nat.reduceBEq, L]
      rfl
    · simp -implicitDefEqProofs only [c44, aW, ↓aP, makes, Nat.reduceLT, Nat.reduceEqDiff, Nat.reduceAdd, ↓reduceIte, Nat.reduceBEq, L]
      rfl
  obtain ⟨H', key⟩ := key
  exact callV_pure rfl rfl key rfl
end Go.Proofs.Ytkogkfpiijmbgaa.Ai
namespace Go.Proofs.Ytkogkfpiijmbgaa.Ai
open Go Go.Ai
set_option maxRecDepth 100000 in
theorem words59_run : (codeW cw0 (lookM mtl) mds c59 (initFr 0 []) []).bind (fin fn59) = some (.ret (rowS (some 36) wordsL), []) := by kernel_rfl
theorem words_call (H : List AO) (id : Nat) : callV cw0 mds 59 [] H id = some (.val (rowS (some 36) wordsL) none) :=
  callV_pure rfl rfl (cw0_of fn59 rfl rfl rfl rfl words59_run) rfl
def specs : List (List Nat) := [[45, 62], [60, 61], [62, 61], [61, 61], [33, 61], [40], [41], [123], [125], [44], [59], [58], [61], [124], [43], [45], [42], [47], [60], [62]]
def signsL : List ByteArray := specs.map bs
set_option maxRecDepth 100000 in
theorem signs60_run : (codeW cw0 (lookM mtl) mds c60 (initFr 0 []) []).bind (fin fn60) = some (.ret (rowS (some 20) signsL), []) := by kernel_rfl
theorem signs_call (H : List AO) (id : Nat) : callV cw0 mds 60 [] H id = some (.val (rowS (some 20) signsL) none) :=
  callV_pure rfl rfl (cw0_of fn60 rfl rfl rfl rfl signs60_run) rfl
def tst (c : Nat) (d62 d61 : Bool) : List Nat → Bool
  | [x] => c == x
  | [x, y] => (c == x) && (if y = 62 then d62 else d61)
  | _ => false
def expS (c : Nat) (d62 d61 : Bool) : Option (List Nat) :=
  if (c == 45 && d62) || ((c == 60 || c == 62 || c == 61 || c == 33) && d61) then some [c, if c == 45 then 62 else 61] else if c == 33 then none else some [c]
theorem sg_all : (List.range 256).all (fun c => [true, false].all fun d62 => [true, false].all fun d61 => (kindK c == 2 || kindK c == 3 || kindK c == 4) || (specs.find? (tst c d62 d61) == (if kindK c = 5 then expS c d62 d61 else none))) = true := by kernel_rfl
theorem sg_find (c : Nat) (hc : c < 256) (d62 d61 : Bool) (h2 : kindK c ≠ 2) (h3 : kindK c ≠ 3) (h4 : kindK c ≠ 4) : specs.find? (tst c d62 d61) = if kindK c = 5 then expS c d62 d61 else none := by
  have := List.all_eq_true.1 sg_all c (List.mem_range.2 hc)
  have := List.all_eq_true.1 this d62 (by cases d62 <;> simp)
  have := List.all_eq_true.1 this d61 (by cases d61 <;> simp)
  rw [beq_eq_false_iff_ne.2 h2, beq_eq_false_iff_ne.2 h3, beq_eq_false_iff_ne.2 h4, Bool.or_false, Bool.or_false, Bool.false_or] at this
  exact eq_of_beq this
theorem specs_ok : ∀ sp ∈ specs, (∃ x, sp = [x] ∧ 0 < x ∧ x < 256) ∨ ∃ x y, sp = [x, y] ∧ 0 < x ∧ x < 256 ∧ (y = 62 ∨ y = 61) := by
  intro sp h
  unfold specs at h
  simp only [List.mem_cons, List.not_mem_nil, or_false] at h
  rcases h with rfl | rfl | rfl | rfl | rfl | rfl | rfl | rfl | rfl | rfl | rfl | rfl | rfl | rfl | rfl | rfl | rfl | rfl | rfl | rfl
  all_goals first
    | exact .inl ⟨_, rfl, by decide, by decide⟩
    | exact .inr ⟨_, _, rfl, by decide, by decide, .inl rfl⟩
    | exact .inr ⟨_, _, rfl, by decide, by decide, .inr rfl⟩
theorem beg_tst (s : ByteArray) (i : Nat) (hi : i ≤ s.size) (sp : List Nat) (h : sp ∈ specs) : begB s i (bs sp) = tst (pk s.data.toList i) (pk s.data.toList (i + 1) == 62) (pk s.data.toList (i + 1) == 61) sp := by
  rcases specs_ok sp h with ⟨x, rfl, h1, h2⟩ | ⟨x, y, rfl, h1, h2, h3⟩
  · rw [beg_one s i hi x h1 h2]; rfl
  · rcases h3 with rfl | rfl
    · rw [beg_two s i hi x 62 h1 h2 (by omega) (by omega)]; rfl
    · rw [beg_two s i hi x 61 h1 h2 (by omega) (by omega)]; rfl
theorem find_congr' {α : Type} {p q : α → Bool} : ∀ {l : List α}, (∀ x ∈ l, p x = q x) → l.find? p = l.find? q
  | [], _ => rfl
  | a :: l, h => by
    rw [List.find?_cons, List.find?_cons, h a (List.mem_cons_self ..), find_congr' fun x hx => h x (List.mem_cons_of_mem _ hx)]
theorem text_one {b : List UInt8} {i : Nat} (h : i < b.length) : textOf b i (i + 1) = bs [pk b i] := by
  apply ba_ext
  show (b.drop i).take (i + 1 - i) = [UInt8.ofNat (pk b i)]
  rw [show i + 1 - i = 1 by omega, List.drop_eq_getElem_cons h, pk_some (List.getElem?_eq_getElem h), UInt8.ofNat_toNat]
  rfl
theorem text_two {b : List UInt8} {i : Nat} (h : i + 1 < b.length) : textOf b i (i + 2) = bs [pk b i, pk b (i + 1)] := by
  apply ba_ext
  show (b.drop i).take (i + 2 - i) = [UInt8.ofNat (pk b i), UInt8.ofNat (pk b (i + 1))]
  rw [show i + 2 - i = 2 by omega, List.drop_eq_getElem_cons (by omega), List.drop_eq_getElem_cons h, pk_some (List.getElem?_eq_getElem (show i < b.length by omega)), pk_some (List.getElem?_eq_getElem h), UInt8.ofNat_toNat, UInt8.ofNat_toNat]
  rfl
theorem sign_find (s : ByteArray) (i : Nat) (hi : i < s.size) (h2 : kindK (pk s.data.toList i) ≠ 2) (h3 : kindK (pk s.data.toList i) ≠ 3) (h4 : kindK (pk s.data.toList i) ≠ 4) :
    signsL.find? (begB s i) = if kindK (pk s.data.toList i) = 5 then (punF s.data.toList i).map (textOf s.data.toList i) else none := by
  have hl : s.data.toList.length = s.size := by simp
  unfold signsL
  rw [List.find?_map]
  show Option.map bs (List.find? (fun sp => begB s i (bs sp)) specs) = _
  rw [find_congr' (q := tst (pk s.data.toList i) (pk s.data.toList (i + 1) == 62) (pk s.data.toList (i + 1) == 61)) (fun sp h => beg_tst s i (by omega) sp h), sg_find _ (pk_lt _ _) _ _ h2 h3 h4]
  by_cases h5 : kindK (pk s.data.toList i) = 5
  · rw [if_pos h5, if_pos h5]
    unfold expS punF two
    by_cases ht : (pk s.data.toList i == 45 && pk s.data.toList (i + 1) == 62 || (pk s.data.toList i == 60 || pk s.data.toList i == 62 || pk s.data.toList i == 61 || pk s.data.toList i == 33) && pk s.data.toList (i + 1) == 61) = true
    · rw [if_pos ht, if_pos ht]
      have hlen : i + 1 < s.data.toList.length := pk_in (by
        simp only [Bool.or_eq_true, Bool.and_eq_true, beq_iff_eq] at ht; omega)
      simp only [Option.map_some]
      rw [text_two hlen]
      congr 3
      simp only [Bool.or_eq_true, Bool.and_eq_true, beq_iff_eq] at ht
      by_cases h45 : pk s.data.toList i = 45
      · rw [if_pos (beq_iff_eq.2 h45)]
        rcases ht with h | h
        · rw [h.2]
        · omega
      · rw [if_neg (by rw [beq_iff_eq]; exact h45)]
        rcases ht with h | h
        · exact absurd h.1 h45
        · rw [h.2]
    · rw [if_neg ht, if_neg ht]
      by_cases h33 : (pk s.data.toList i == 33) = true
      · rw [if_pos h33, if_pos h33]; rfl
      · rw [if_neg h33, if_neg h33]
        simp only [Option.map_some]
        rw [text_one (by omega)]
  · rw [if_neg h5, if_neg h5]; rfl
theorem words_small : wordsL.all (fun w => match w.data.toList with | x :: _ => kindK x.toNat == 2 | [] => false) = true := by kernel_rfl
theorem word_large {b : List UInt8} {i e : Nat} (hl : i < b.length) (he : i < e) (hk : kindK (pk b i) = 3) : wordK (textOf b i e) = false := by
  unfold wordK
  rw [← Bool.not_eq_true, List.any_eq_true]
  rintro ⟨w, hw, hx⟩
  have hs := List.all_eq_true.1 words_small w hw
  have e1 : (textOf b i e).data.toList = w.data.toList := eq_of_beq hx
  have e2 : (textOf b i e).data.toList = b[i] :: ((b.drop (i + 1)).take (e - i - 1)) := by
    show (b.drop i).take (e - i) = _
    rw [List.drop_eq_getElem_cons hl, show e - i = (e - i - 1) + 1 by omega, List.take_succ_cons]
    simp
  rw [← e1, e2] at hs
  simp only [beq_iff_eq] at hs
  rw [pk_some (List.getElem?_eq_getElem hl)] at hk
  rw [hk] at hs
  cases hs
theorem cont3 (k : Int) : ([2, 3, 4] : List Int).contains k = ((k == 2) || ((k == 3) || (k == 4))) := by
  simp only [List.contains_cons, List.contains_nil, Bool.or_false]
theorem cont1 (k : Int) : ([4] : List Int).contains k = (k == 4) := by
  simp only [List.contains_cons, List.contains_nil, Bool.or_false]
theorem name_loop {s : ByteArray} (hs : s.size ≤ 65536) (a4 a6 : AV) (a1 : AV) (H : List AO) : ∀ (n i : Nat), n = s.data.toList.length - i → i ≤ s.size →
    loopW (codeW cw0 (lookM mtl) mds c45l0) [0, 1, 4, 6, 7] [(0, litS s), (1, a1), (4, a4), (6, a6), (7, litI .i64 i)] H = some (.exit 1, [(0, litS s), (1, a1), (4, a4), (6, a6), (7, litI .i64 (whileN s.data.toList [2, 3, 4] n i : Nat)), (43, litB false)], H)
  | 0, i, hn, hi => by
    have hl : s.data.toList.length = s.size := by simp
    refine loopW_out ?_ (by simp)
    simp -implicitDefEqProofs only [c45l0, aW, ↓aP, makes, Nat.reduceLT, Nat.reduceEqDiff, Nat.reduceAdd, ↓reduceIte, Nat.reduceBEq, lenS_str, show ¬ ((i : Int) < s.size) by omega]
    rfl
  | n + 1, i, hn, hi => by
    have hl : s.data.toList.length = s.size := by simp
    have hlt : (i : Int) < s.size := by omega
    have ix := idx_pk (s := s) (i := i) (by omega) (k := .i64)
    have b2 := small_call (pk s.data.toList i) (pk_lt _ _)
    have b3 := large_call (pk s.data.toList i) (pk_lt _ _)
    have b4 := digit_call (pk s.data.toList i) (pk_lt _ _)
    rw [whileN, cont3]
    have w := wrap1 (show i < 4611686018427387904 by omega)
    cases h2 : (kindK (pk s.data.toList i) == 2) with
    | true =>
      rw [h2] at b2
      rw [Bool.true_or, if_pos ⟨by omega, rfl⟩]
      refine loopW_round ?_ (name_loop hs a4 a6 a1 H n (i + 1) (by omega) (by omega))
      simp -implicitDefEqProofs only [c45l0, aW, ↓aP, makes, Nat.reduceLT, Nat.reduceEqDiff, Nat.reduceAdd, ↓reduceIte, Nat.reduceBEq, lenS_str, hlt, ix, b2, w]
    | false =>
      rw [h2] at b2
      cases h3 : (kindK (pk s.data.toList i) == 3) with
      | true =>
        rw [h3] at b3
        rw [Bool.true_or, Bool.false_or, if_pos ⟨by omega, rfl⟩]
        refine loopW_round ?_ (name_loop hs a4 a6 a1 H n (i + 1) (by omega) (by omega))
        simp -implicitDefEqProofs only [c45l0, aW, ↓aP, makes, Nat.reduceLT, Nat.reduceEqDiff, Nat.reduceAdd, ↓reduceIte, Nat.reduceBEq, lenS_str, hlt, ix, b2, b3, w]
      | false =>
        rw [h3] at b3
        cases h4 : (kindK (pk s.data.toList i) == 4) with
        | true =>
          rw [h4] at b4
          rw [Bool.false_or, Bool.false_or, if_pos ⟨by omega, rfl⟩]
          refine loopW_round ?_ (name_loop hs a4 a6 a1 H n (i + 1) (by omega) (by omega))
          simp -implicitDefEqProofs only [c45l0, aW, ↓aP, makes, Nat.reduceLT, Nat.reduceEqDiff, Nat.reduceAdd, ↓reduceIte, Nat.reduceBEq, lenS_str, hlt, ix, b2, b3, b4, w]
        | false =>
          rw [h4] at b4
          rw [Bool.false_or, Bool.false_or, if_neg (by simp)]
          refine loopW_out ?_ (by simp)
          simp -implicitDefEqProofs only [c45l0, aW, ↓aP, makes, Nat.reduceLT, Nat.reduceEqDiff, Nat.reduceAdd, ↓reduceIte, Nat.reduceBEq, lenS_str, hlt, ix, b2, b3, b4]
theorem dig1_loop {s : ByteArray} (hs : s.size ≤ 65536) (a1 a4 : AV) (H : List AO) : ∀ (n i : Nat), n = s.data.toList.length - i → i ≤ s.size →
    loopW (codeW cw0 (lookM mtl) mds c45l1) [0, 1, 4, 7] [(0, litS s), (1, a1), (4, a4), (7, litI .i64 i)] H = some (.exit 3, [(0, litS s), (1, a1), (4, a4), (7, litI .i64 (whileN s.data.toList [4] n i : Nat)), (73, litB false)], H)
  | 0, i, hn, hi => by
    have hl : s.data.toList.length = s.size := by simp
    refine loopW_out ?_ (by simp)
    simp -implicitDefEqProofs only [c45l1, aW, ↓aP, makes, Nat.reduceLT, Nat.reduceEqDiff, Nat.reduceAdd, ↓reduceIte, Nat.reduceBEq, lenS_str, show ¬ ((i : Int) < s.size) by omega]
    rfl
  | n + 1, i, hn, hi => by
    have hl : s.data.toList.length = s.size := by simp
    have hlt : (i : Int) < s.size := by omega
    have ix := idx_pk (s := s) (i := i) (by omega) (k := .i64)
    have b4 := digit_call (pk s.data.toList i) (pk_lt _ _)
    rw [whileN, cont1]
    have w := wrap1 (show i < 4611686018427387904 by omega)
    cases h4 : (kindK (pk s.data.toList i) == 4) with
    | true =>
      rw [h4] at b4
      rw [if_pos ⟨by omega, rfl⟩]
      refine loopW_round ?_ (dig1_loop hs a1 a4 H n (i + 1) (by omega) (by omega))
      simp -implicitDefEqProofs only [c45l1, aW, ↓aP, makes, Nat.reduceLT, Nat.reduceEqDiff, Nat.reduceAdd, ↓reduceIte, Nat.reduceBEq, lenS_str, hlt, ix, b4, w]
    | false =>
      rw [h4] at b4
      rw [if_neg (by simp)]
      refine loopW_out ?_ (by simp)
      simp -implicitDefEqProofs only [c45l1, aW, ↓aP, makes, Nat.reduceLT, Nat.reduceEqDiff, Nat.reduceAdd, ↓reduceIte, Nat.reduceBEq, lenS_str, hlt, ix, b4]
theorem dig2_loop {s : ByteArray} (hs : s.size ≤ 65536) (a1 a4 : AV) (H : List AO) : ∀ (n i : Nat), n = s.data.toList.length - i → i ≤ s.size →
    loopW (codeW cw0 (lookM mtl) mds c45l2) [0, 1, 4, 7] [(0, litS s), (1, a1), (4, a4), (7, litI .i64 i)] H = some (.exit 5, [(0, litS s), (1, a1), (4, a4), (7, litI .i64 (whileN s.data.toList [4] n i : Nat)), (105, litB false)], H)
  | 0, i, hn, hi => by
    have hl : s.data.toList.length = s.size := by simp
    refine loopW_out ?_ (by simp)
    simp -implicitDefEqProofs only [c45l2, aW, ↓aP, makes, Nat.reduceLT, Nat.reduceEqDiff, Nat.reduceAdd, ↓reduceIte, Nat.reduceBEq, lenS_str, show ¬ ((i : Int) < s.size) by omega]
    rfl
  | n + 1, i, hn, hi => by
    have hl : s.data.toList.length = s.size := by simp
    have hlt : (i : Int) < s.size := by omega
    have ix := idx_pk (s := s) (i := i) (by omega) (k := .i64)
    have b4 := digit_call (pk s.data.toList i) (pk_lt _ _)
    rw [whileN, cont1]
    have w := wrap1 (show i < 4611686018427387904 by omega)
    cases h4 : (kindK (pk s.data.toList i) == 4) with
    | true =>
      rw [h4] at b4
      rw [if_pos ⟨by omega, rfl⟩]
      refine loopW_round ?_ (dig2_loop hs a1 a4 H n (i + 1) (by omega) (by omega))
      simp -implicitDefEqProofs only [c45l2, aW, ↓aP, makes, Nat.reduceLT, Nat.reduceEqDiff, Nat.reduceAdd, ↓reduceIte, Nat.reduceBEq, lenS_str, hlt, ix, b4, w]
    | false =>
      rw [h4] at b4
      rw [if_neg (by simp)]
      refine loopW_out ?_ (by simp)
      simp -implicitDefEqProofs only [c45l2, aW, ↓aP, makes, Nat.reduceLT, Nat.reduceEqDiff, Nat.reduceAdd, ↓reduceIte, Nat.reduceBEq, lenS_str, hlt, ix, b4]
end Go.Proofs.Ytkogkfpiijmbgaa.Ai
namespace Go.Proofs.Ytkogkfpiijmbgaa.Ai
open Go Go.Ai
theorem keep_l {body : Fr → List AO → Option S} {l : List Nat} {fr fr' : Fr} {H : List AO} {x : Option S} (h : loopW body l fr' H = x) (hk : keep l fr = fr') : loopW body l fr H = x := by
  rw [← loopW_keep, hk]; exact h
theorem signs_len : signsL.length = 20 := rfl
theorem sign_loop {s : ByteArray} {i : Nat} (hs : s.size ≤ 65536) (hi : i ≤ s.size) : ∀ (r : List ByteArray) (n : Nat), signsL.drop n = r → n ≤ signsL.length →
    match r.find? (begB s i) with
    | some t => loopW (codeW cw0 (lookM mtl) mds c45l3) [0, 1, 4, 9, 10] [(0, litS s), (1, litI .i64 i), (4, .ptr 0 0), (9, rowS (some 20) signsL), (10, litI .i64 n)] [tokR 0 (bs []) 0] = some (.ret, [(4, .ptr 0 0), (5, litB true)], [tokR 5 t i])
    | none => ∃ x, loopW (codeW cw0 (lookM mtl) mds c45l3) [0, 1, 4, 9, 10] [(0, litS s), (1, litI .i64 i), (4, .ptr 0 0), (9, rowS (some 20) signsL), (10, litI .i64 n)] [tokR 0 (bs []) 0] = some (.exit 7, [(0, litS s), (1, litI .i64 i), (4, .ptr 0 0), (9, rowS (some 20) signsL), (10, x), (118, litB false)], [tokR 0 (bs []) 0])
  | [], n, hd, hn => by
    have h : signsL.length ≤ n := by
      have := congrArg List.length hd
      rw [List.length_drop, List.length_nil] at this; omega
    refine ⟨litI .i64 n, loopW_out ?_ (by simp)⟩
    simp -implicitDefEqProofs only [c45l3, aW, ↓aP, makes, Nat.reduceLT, Nat.reduceEqDiff, Nat.reduceAdd, ↓reduceIte, Nat.reduceBEq, lenV_rowS, show ¬ ((n : Int) < signsL.length) by omega]
  | t :: r, n, hd, hn => by
    have hlt : n < signsL.length := by
      have := congrArg List.length hd
      rw [List.length_drop, List.length_cons] at this; omega
    have hg : signsL[n]? = some t := by
      have := congrArg List.head? hd
      rwa [List.head?_drop] at this
    have hlti : (n : Int) < signsL.length := by omega
    have hts : t.size ≤ 65536 := by
      have hm := List.mem_of_getElem? hg
      unfold signsL at hm
      obtain ⟨sp, h1, rfl⟩ := List.mem_map.1 hm
      rcases specs_ok sp h1 with ⟨x, rfl, _⟩ | ⟨x, y, rfl, _⟩
      · show 1 ≤ 65536; omega
      · show 2 ≤ 65536; omega
    have bc := begins_call s i t (by omega) hts
    rw [List.find?_cons]
    cases hb : begB s i t with
    | true =>
      rw [hb] at bc
      simp only
      have bt : ∀ {H : List AO} {id : Nat} {fr : Fr} (x y : X), ev fr x = litS t → ev fr y = litI .i64 (i : Int) → core cw0 (lookM mtl) mds H id (.build [litI .i64 0, litS (bs []), litI .i64 0] [(0, 1, .k (litI .i64 5)), (1, 1, x), (2, 1, y)]) fr = some (.val (tokA 5 t i) none) := by
        intro H id fr x y hx hy
        simp only [core, List.map_cons, List.map_nil, hx, hy]
        rfl
      have st := tks3 (H := [tokR 0 (bs []) 0]) (p := 0) (k := 0) (k' := 5) (s := bs []) (s' := t) (i := 0) (i' := i) rfl
      have st' : setL [tokR 0 (bs []) 0] 0 (tokR 5 t i) = [tokR 5 t i] := rfl
      rw [st'] at st
      refine loopW_out ?_ (by simp)
      simp -implicitDefEqProofs only [c45l3, aW, ↓aP, makes, Nat.reduceLT, Nat.reduceEqDiff, Nat.reduceAdd, ↓reduceIte, Nat.reduceBEq, lenV_rowS, hlti, iadr_rowS hg, bc, bt, st]
    | false =>
      rw [hb] at bc
      simp only
      have step : codeW cw0 (lookM mtl) mds c45l3 (keep [0, 1, 4, 9, 10] [(0, litS s), (1, litI .i64 i), (4, .ptr 0 0), (9, rowS (some 20) signsL), (10, litI .i64 n)]) [tokR 0 (bs []) 0] = some (.normal, [(0, litS s), (1, litI .i64 i), (4, .ptr 0 0), (9, rowS (some 20) signsL), (10, litI .i64 ((n + 1 : Nat) : Int))], [tokR 0 (bs []) 0]) := by
        simp -implicitDefEqProofs only [c45l3, aW, ↓aP, makes, Nat.reduceLT, Nat.reduceEqDiff, Nat.reduceAdd, ↓reduceIte, Nat.reduceBEq, lenV_rowS, hlti, iadr_rowS hg, bc, wrap1 (show n < 4611686018427387904 by rw [signs_len] at hlt; omega)]
      have IH := sign_loop hs hi r (n + 1) (by rw [← List.drop_drop, hd]; rfl) (by omega)
      cases hr : r.find? (begB s i) with
      | some u =>
        rw [hr] at IH
        exact loopW_round step IH
      | none =>
        rw [hr] at IH
        obtain ⟨x, L⟩ := IH
        exact ⟨x, loopW_round step L⟩
def oneOut (b : List UInt8) (i : Nat) : AV := match nextK b i with
  | some (t, _) => .tup [tokA t.1 t.2.1 t.2.2, litB true]
  | none => .tup [tokA 0 (bs []) 0, litB false]
theorem one_tells (s : ByteArray) (hs : s.size ≤ 65536) (i : Nat) (hi : i < s.size) : ∃ H', cw0 45 [litS s, litI .i64 (i : Int)] [] = some (.ret (oneOut s.data.toList i), H') := by
  have hl : s.data.toList.length = s.size := by simp
  have ix := idx_pk hi (k := .i64)
  have b2 := small_call (pk s.data.toList i) (pk_lt _ _)
  have b3 := large_call (pk s.data.toList i) (pk_lt _ _)
  have b4 := digit_call (pk s.data.toList i) (pk_lt _ _)
  have z : ∀ (k : Int) (t : ByteArray), storeAt [tokR 0 (bs []) 0] 3 (.ptr 0 0) (tokA k t i) = some [tokR k t i] := fun k t => tks3 (H := [tokR 0 (bs []) 0]) (p := 0) rfl
  have z0 : storeAt [tokR 0 (bs []) 0] 3 (.ptr 0 0) (tokA 0 (bs []) 0) = some [tokR 0 (bs []) 0] := tks3 (H := [tokR 0 (bs []) 0]) (p := 0) rfl
  have row0 : (AO.row [litI .i64 0, litS (bs []), litI .i64 0] 54) = tokR 0 (bs []) 0 := rfl
  have bk : ∀ (k : Int) (t : ByteArray) {H : List AO} {id : Nat} {fr : Fr} (x y w : X), ev fr x = litI .i64 k → ev fr y = litS t → ev fr w = litI .i64 (i : Int) → core cw0 (lookM mtl) mds H id (.build [litI .i64 0, litS (bs []), litI .i64 0] [(0, 1, x), (1, 1, y), (2, 1, w)]) fr = some (.val (tokA k t i) none) := by
    intro k t H id fr x y w hx hy hw
    simp only [core, List.map_cons, List.map_nil, hx, hy, hw]
    rfl
  have be : ∀ {H : List AO} {id : Nat} {fr : Fr}, core cw0 (lookM mtl) mds H id (.build [litI .i64 0, litS (bs []), litI .i64 0] []) fr = some (.val (tokA 0 (bs []) 0) none) := rfl
  have wc := words_call
  have sg := signs_call
  unfold oneOut nextK nextF
  have le2 := whileF_le s.data.toList [2, 3, 4] i (by omega)
  have sl2 := slS_cut (s := s) (i := i) (j := whileF s.data.toList [2, 3, 4] i) le2.2 (by omega)
  rw [ext_text] at sl2
  have wi := in58_call (some 36) wordsL (textOf s.data.toList i (whileF s.data.toList [2, 3, 4] i)) (by decide)
  have hw : wordsL.any (sEq (textOf s.data.toList i (whileF s.data.toList [2, 3, 4] i))) = wordK (textOf s.data.toList i (whileF s.data.toList [2, 3, 4] i)) := rfl
  rw [hw] at wi
  have L0 := name_loop hs (.ptr 0 0) (litI .u8 (pk s.data.toList i : Nat)) (litI .i64 i) [tokR 0 (bs []) 0] (s.data.toList.length - i) i rfl (by omega)
  have e0 : whileN s.data.toList [2, 3, 4] (s.data.toList.length - i) i = whileF s.data.toList [2, 3, 4] i := rfl
  rw [e0] at L0
  cases h2 : (kindK (pk s.data.toList i) == 2) with
  | true =>
    have k2 : kindK (pk s.data.toList i) = 2 := eq_of_beq h2
    rw [h2] at b2
    rw [if_pos k2]
    simp only [Option.map_some, true_and]
    have L1 := keep_l (fr := [(0, litS s), (1, litI .i64 i), (4, .ptr 0 0), (6, litI .u8 (pk s.data.toList i : Nat)), (7, litI .i64 i), (15, litB true)]) L0 rfl
    cases hwk : wordK (textOf s.data.toList i (whileF s.data.toList [2, 3, 4] i)) with
    | true =>
      rw [hwk] at wi
      rw [if_pos rfl]
      have b := fun {H : List AO} {id : Nat} {fr : Fr} => bk 4 (textOf s.data.toList i (whileF s.data.toList [2, 3, 4] i)) (H := H) (id := id) (fr := fr)
      refine cw0_ret fn45 (c := c45) rfl rfl rfl rfl ?_
      simp -implicitDefEqProofs only [c45, aW, ↓aP, makes, Nat.reduceLT, Nat.reduceEqDiff, Nat.reduceAdd, ↓reduceIte, Nat.reduceBEq, row0, List.length_nil, ix, b2, L1, core_slSV, sl2, wc, wi, b, z]
      rfl
    | false =>
      rw [hwk] at wi
      rw [if_neg (by simp)]
      have b := fun {H : List AO} {id : Nat} {fr : Fr} => bk 1 (textOf s.data.toList i (whileF s.data.toList [2, 3, 4] i)) (H := H) (id := id) (fr := fr)
      refine cw0_ret fn45 (c := c45) rfl rfl rfl rfl ?_
      simp -implicitDefEqProofs only [c45, aW, ↓aP, makes, Nat.reduceLT, Nat.reduceEqDiff, Nat.reduceAdd, ↓reduceIte, Nat.reduceBEq, row0, List.length_nil, ix, b2, L1, core_slSV, sl2, wc, wi, b, z]
      rfl
  | false =>
    have k2 : kindK (pk s.data.toList i) ≠ 2 := beq_eq_false_iff_ne.1 h2
    rw [h2] at b2
    rw [if_neg k2]
    cases h3 : (kindK (pk s.data.toList i) == 3) with
    | true =>
      have k3 : kindK (pk s.data.toList i) = 3 := eq_of_beq h3
      rw [h3] at b3
      rw [if_pos k3]
      simp only [Option.map_some]
      rw [if_neg (by omega)]
      have gt := while_gt (b := s.data.toList) (ks := [2, 3, 4]) (i := i) (by omega) (by rw [k3]; rfl)
      rw [word_large (by omega) gt k3] at wi
      have L1 := keep_l (fr := [(0, litS s), (1, litI .i64 i), (4, .ptr 0 0), (6, litI .u8 (pk s.data.toList i : Nat)), (7, litI .i64 i), (15, litB true)]) L0 rfl
      have b := fun {H : List AO} {id : Nat} {fr : Fr} => bk 2 (textOf s.data.toList i (whileF s.data.toList [2, 3, 4] i)) (H := H) (id := id) (fr := fr)
      refine cw0_ret fn45 (c := c45) rfl rfl rfl rfl ?_
      simp -implicitDefEqProofs only [c45, aW, ↓aP, makes, Nat.reduceLT, Nat.reduceEqDiff, Nat.reduceAdd, ↓reduceIte, Nat.reduceBEq, row0, List.length_nil, ix, b2, b3, L1, core_slSV, sl2, wc, wi, b, z]
      rfl
    | false =>
      have k3 : kindK (pk s.data.toList i) ≠ 3 := beq_eq_false_iff_ne.1 h3
      rw [h3] at b3
      rw [if_neg k3]
      cases h4 : (kindK (pk s.data.toList i) == 4) with
      | true =>
        have k4 : kindK (pk s.data.toList i) = 4 := eq_of_beq h4
        rw [h4] at b4
        rw [if_pos k4]
        simp only [Option.map_some]
        rw [if_neg (by omega)]
        have le := numF_le (b := s.data.toList) (i := i) (by omega) k4
        have sl := slS_cut (s := s) (i := i) (j := numF s.data.toList i) (by omega) (by omega)
        rw [ext_text] at sl
        have b : ∀ {H : List AO} {id : Nat} {fr : Fr} (y w : X), ev fr y = litS (textOf s.data.toList i (numF s.data.toList i)) → ev fr w = litI .i64 (i : Int) → core cw0 (lookM mtl) mds H id (.build [litI .i64 0, litS (bs []), litI .i64 0] [(0, 1, .k (litI .i64 3)), (1, 1, y), (2, 1, w)]) fr = some (.val (tokA 3 (textOf s.data.toList i (numF s.data.toList i)) i) none) := fun y w hy hw => bk 3 _ _ y w rfl hy hw
        have wl := whileF_le s.data.toList [4] i (by omega)
        have D0 := dig1_loop hs (litI .i64 i) (.ptr 0 0) [tokR 0 (bs []) 0] (s.data.toList.length - i) i rfl (by omega)
        have e1 : whileN s.data.toList [4] (s.data.toList.length - i) i = whileF s.data.toList [4] i := rfl
        rw [e1] at D0
        have D1 := keep_l (fr := [(0, litS s), (1, litI .i64 i), (4, .ptr 0 0), (7, litI .i64 i), (61, litB true)]) D0 rfl
        have w1 := wrap1 (n := whileF s.data.toList [4] i) (by omega)
        unfold numF at b sl ⊢
        simp only at b sl ⊢
        generalize whileF s.data.toList [4] i = e at *
        by_cases hd : pk s.data.toList e = 46 ∧ kindK (pk s.data.toList (e + 1)) = 4
        · rw [if_pos hd] at b sl ⊢
          have he : e + 1 < s.size := by
            have : e + 1 < s.data.toList.length := pk_in (fun h0 => by rw [h0] at hd; have := hd.2; revert this; decide)
            omega
          have q0 : (((pk s.data.toList e : Nat) : Int) == 46) = true := beq_iff_eq.2 (by omega)
          have ie := idx_pk (s := s) (i := e) (by omega) (k := .i64)
          have ie1 := idx_pk (s := s) (i := e + 1) he (k := .i64)
          have be4 := digit_call (pk s.data.toList (e + 1)) (pk_lt _ _)
          rw [beq_iff_eq.2 hd.2] at be4
          have D2 := dig2_loop hs (litI .i64 i) (.ptr 0 0) [tokR 0 (bs []) 0] (s.data.toList.length - (e + 1)) (e + 1) rfl (by omega)
          have e2 : whileN s.data.toList [4] (s.data.toList.length - (e + 1)) (e + 1) = whileF s.data.toList [4] (e + 1) := rfl
          rw [e2] at D2
          refine cw0_ret fn45 (c := c45) rfl rfl rfl rfl ?_
          simp -implicitDefEqProofs only [c45, aW, ↓aP, makes, Nat.reduceLT, Nat.reduceEqDiff, Nat.reduceAdd, ↓reduceIte, Nat.reduceBEq, row0, List.length_nil, ix, b2, b3, b4, D1, w1, lenS_str, show ((e + 1 : Nat) : Int) < s.size by omega, ie, q0, ie1, be4, D2, core_slSV, sl, b, z]
          rfl
        · rw [if_neg hd] at b sl ⊢
          refine cw0_ret fn45 (c := c45) rfl rfl rfl rfl ?_
          by_cases hlt : e + 1 < s.size
          · have ie := idx_pk (s := s) (i := e) (by omega) (k := .i64)
            by_cases h46 : pk s.data.toList e = 46
            · have q0 : (((pk s.data.toList e : Nat) : Int) == 46) = true := beq_iff_eq.2 (by omega)
              have ie1 := idx_pk (s := s) (i := e + 1) hlt (k := .i64)
              have be4 := digit_call (pk s.data.toList (e + 1)) (pk_lt _ _)
              rw [beq_eq_false_iff_ne.2 (fun h => hd ⟨h46, h⟩)] at be4
              simp -implicitDefEqProofs only [c45, aW, ↓aP, makes, Nat.reduceLT, Nat.reduceEqDiff, Nat.reduceAdd, ↓reduceIte, Nat.reduceBEq, row0, List.length_nil, ix, b2, b3, b4, D1, w1, lenS_str, show ((e + 1 : Nat) : Int) < s.size by omega, ie, q0, ie1, be4, core_slSV, sl, b, z]
              rfl
            · have q0 : (((pk s.data.toList e : Nat) : Int) == 46) = false := beq_eq_false_iff_ne.2 (by omega)
              simp -implicitDefEqProofs only [c45, aW, ↓aP, makes, Nat.reduceLT, Nat.reduceEqDiff, Nat.reduceAdd, ↓reduceIte, Nat.reduceBEq, row0, List.length_nil, ix, b2, b3, b4, D1, w1, lenS_str, show ((e + 1 : Nat) : Int) < s.size by omega, ie, q0, core_slSV, sl, b, z]
              rfl
          · simp -implicitDefEqProofs only [c45, aW, ↓aP, makes, Nat.reduceLT, Nat.reduceEqDiff, Nat.reduceAdd, ↓reduceIte, Nat.reduceBEq, row0, List.length_nil, ix, b2, b3, b4, D1, w1, lenS_str, show ¬ ((e + 1 : Nat) : Int) < s.size by omega, core_slSV, sl, b, z]
            rfl
      | false =>
        have k4 : kindK (pk s.data.toList i) ≠ 4 := beq_eq_false_iff_ne.1 h4
        rw [h4] at b4
        rw [if_neg k4]
        have F := sign_find s i hi k2 k3 k4
        have SL := sign_loop hs (i := i) (by omega) signsL 0 rfl (Nat.zero_le _)
        rw [show ((0 : Nat) : Int) = 0 from rfl] at SL
        have fin : ∀ {o : Option (Int × Nat)}, (if kindK (pk s.data.toList i) = 5 then (punF s.data.toList i).map (fun e => ((5 : Int), e)) else none) = o → signsL.find? (begB s i) = o.map (fun p => textOf s.data.toList i p.2) → ∃ H', cw0 45 [litS s, litI .i64 (i : Int)] [] = some (.ret (match o.map fun p => ((if p.1 = 1 ∧ wordK (textOf s.data.toList i p.2) = true then 4 else p.1, textOf s.data.toList i p.2, i), p.2) with
            | some (t, _) => .tup [tokA t.1 t.2.1 t.2.2, litB true]
            | none => .tup [tokA 0 (bs []) 0, litB false]), H') := by
          intro o ho hf
          rw [hf] at SL
          cases o with
          | none =>
            simp only [Option.map_none] at SL ⊢
            obtain ⟨x, L⟩ := SL
            refine cw0_ret fn45 (c := c45) rfl rfl rfl rfl ?_
            simp -implicitDefEqProofs only [c45, aW, ↓aP, makes, Nat.reduceLT, Nat.reduceEqDiff, Nat.reduceAdd, ↓reduceIte, Nat.reduceBEq, row0, List.length_nil, ix, b2, b3, b4, sg, L, be, z0]
            rfl
          | some p =>
            obtain ⟨k, e⟩ := p
            have hk : k = 5 := by
              split at ho
              · rw [Option.map_eq_some_iff] at ho
                obtain ⟨_, _, h⟩ := ho
                exact (Prod.mk.injEq .. ▸ h).1.symm
              · cases ho
            subst hk
            simp only [Option.map_some] at SL ⊢
            rw [if_neg (by omega)]
            refine cw0_ret fn45 (c := c45) rfl rfl rfl rfl ?_
            simp -implicitDefEqProofs only [c45, aW, ↓aP, makes, Nat.reduceLT, Nat.reduceEqDiff, Nat.reduceAdd, ↓reduceIte, Nat.reduceBEq, row0, List.length_nil, ix, b2, b3, b4, sg, SL]
            rfl
        refine fin rfl ?_
        rw [F]
        split
        · rw [Option.map_map]; rfl
        · rfl
theorem callV_pureAT {f : FuncId} {args xs : List AV} {H H' : List AO} {id : Nat} (hm : mds f = .pure) (hw : args.all whole = true) (h : cw0 f args [] = some (.ret (.tup xs), H')) (ha : xs.all wholeA = true) : callV cw0 mds f args H id = some (.val (.tup xs) none) := by
  unfold callV
  rw [hm]
  simp only
  rw [show frzF = 15 + 1 from rfl, mapL_whole hw]
  simp only [Option.bind_some]
  rw [h]
  simp only [Option.bind_some]
  rw [frz, show (15 : Nat) = 13 + 2 from rfl, mapL_wholeA ha]
  rfl
theorem one_call (s : ByteArray) (hs : s.size ≤ 65536) (i : Nat) (hi : i < s.size) (H : List AO) (id : Nat) : callV cw0 mds 45 [litS s, litI .i64 (i : Int)] H id = some (.val (oneOut s.data.toList i) none) := by
  obtain ⟨H', key⟩ := one_tells s hs i hi
  unfold oneOut at key ⊢
  cases hn : nextK s.data.toList i with
  | some p =>
    rw [hn] at key
    exact callV_pureAT rfl rfl key rfl
  | none =>
    rw [hn] at key
    exact callV_pureAT rfl rfl key rfl
end Go.Proofs.Ytkogkfpiijmbgaa.Ai
