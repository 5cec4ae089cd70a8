/- Seat of layer 9: what is handed in: a program, two trees, a text. No condition. -/
import Derived.Test.YtkjimmmdeopnaaaGreatG6
set_option linter.unusedSimpArgs false
set_option linter.unusedVariables false
set_option linter.unusedSectionVars false
open Nat (reduceLT reduceEqDiff reduceAdd)
namespace Go.Proofs.YtkjimmmdeopnaaaGreat.Ai
open Go Go.Ai
section
def tTail : RT := .cons (.int .i64) .unit
def tExpr : RT := .cons (.int .i64) (.cons .str (.cons (.sl (.ref 28 4) 56) tTail))
def tVar : RT := .cons .str (.cons .str (.cons (.sl (.ref 28 4) 56) tTail))
def tVars : RT := .sl tVar 64
def tEqs : RT := .sl (.ref 65 8) 160
def tArgs : RT := .sl (.ref 28 4) 56
def tTrans : RT := .cons (.ref 28 4) (.cons .str (.cons .bool tTail))
def tState : RT := .cons .str (.cons tEqs (.cons (.sl tTrans 88) tTail))
def tEq : RT := .cons (.int .i64) (.cons (.sl .str 16) (.cons tArgs (.cons tArgs (.cons tArgs (.cons (.sl tEqs 24) (.cons (.sl tState 72) tTail))))))
def tEnum : RT := .cons .str (.cons (.sl .str 16) tTail)
def tNode : RT := .cons .str (.cons .bool (.cons tVars (.cons tVars (.cons tVars (.cons tEqs tTail)))))
def tProg : RT := .cons (.sl tEnum 48) (.cons (.sl tNode 128) .unit)
def tTwo : RT := .cons (.ref 28 4) (.cons (.ref 28 4) .unit)
set_option maxRecDepth 100000 in
theorem rtOf28 : rtOf Tryz.prog [28, 65] 12 28 = some tExpr := by kernel_rfl
set_option maxRecDepth 100000 in
theorem rtOf65 : rtOf Tryz.prog [28, 65] 12 65 = some tEq := by kernel_rfl
def Den : RT → List AV → Prop
  | .int k, x => ∃ n, x = [litI k n]
  | .bool, x => ∃ b, x = [litB b]
  | .str, x => ∃ s, x = [litS s]
  | .sl e b, x => ∃ xs, x = [.sl e.n xs none] ∧ xs.length * b ≤ reachBytes ∧ ∀ y ∈ xs, Den e y
  | .unit, x => x = []
  | .cons a b, x => ∃ y z, x = y ++ z ∧ Den a y ∧ Den b z
  | .ref t _, x => (t = 28 → ∃ q : Tr, x = q.cells) ∧ (t = 65 → EqD x)
theorem list_map {α : Type} (f : α → List AV) (P : α → Prop) : ∀ (xs : List (List AV)), (∀ x ∈ xs, ∃ a, x = f a ∧ P a) → ∃ l : List α, xs = l.map f ∧ ∀ a ∈ l, P a
  | [], _ => ⟨[], rfl, by simp⟩
  | x :: r, h => by
    obtain ⟨a, ha, hp⟩ := h x (List.mem_cons_self ..)
    obtain ⟨l, hs, hps⟩ := list_map f P r fun y hy => h y (List.mem_cons_of_mem _ hy)
    refine ⟨a :: l, by rw [List.map_cons, ← ha, ← hs], fun b hb => ?_⟩
    rcases List.mem_cons.1 hb with rfl | hb
    · exact hp
    · exact hps b hb
theorem reach_le {n k : Nat} (h : n * k ≤ reachBytes) (hk : 16 ≤ k) : n ≤ 8796093022208 := by
  have h1 : n * 16 ≤ n * k := Nat.mul_le_mul_left n hk
  have h2 : reachBytes = 140737488351232 := rfl
  omega
theorem args_of {x : List AV} (h : Den tArgs x) : ∃ ts : List Tr, x = [argsA 4 none ts] := by
  obtain ⟨xs, rfl, _, hx⟩ := h
  obtain ⟨ts, rfl, _⟩ := list_map Tr.cells (fun _ => True) xs fun y hy => by
    obtain ⟨t, ht⟩ := (hx y hy).1 rfl
    exact ⟨t, ht, trivial⟩
  refine ⟨ts, ?_⟩
  unfold argsA
  have : eZ 4 ts = 4 := by cases ts <;> rfl
  rw [this]; rfl
theorem tail_of {x : List AV} (h : Den tTail x) : ∃ p, x = [litI .i64 p] := by
  obtain ⟨a, r, rfl, ⟨p, rfl⟩, rfl⟩ := h
  exact ⟨p, rfl⟩
theorem tree_of {x : List AV} (h : Den tExpr x) : ∃ t : Tr, x = t.cells := by
  obtain ⟨a, r, rfl, ⟨k, rfl⟩, b, r2, rfl, ⟨s, rfl⟩, c, r3, rfl, hc, ht⟩ := h
  obtain ⟨ts, rfl⟩ := args_of hc
  obtain ⟨p, rfl⟩ := tail_of ht
  refine ⟨.mk k s 4 none ts p, ?_⟩
  rw [cells_mk]
  rfl
theorem strs_of {x : List AV} (h : Den (.sl .str 16) x) : ∃ ss : List ByteArray, x = [strs none ss] ∧ ss.length * 16 ≤ reachBytes := by
  obtain ⟨xs, rfl, hl, hx⟩ := h
  obtain ⟨ss, rfl, _⟩ := list_map (fun s => [litS s]) (fun _ => True) xs fun y hy => by
    obtain ⟨s, hs⟩ := hx y hy
    exact ⟨s, hs, trivial⟩
  exact ⟨ss, rfl, by rwa [List.length_map] at hl⟩
theorem eqs_of {x : List AV} (h : Den tEqs x) : ∃ xs, x = [.sl 8 xs none] ∧ Cnt (.sl 8 xs none) := by
  obtain ⟨xs, rfl, hl, hx⟩ := h
  have := reach_le hl (by decide)
  exact ⟨xs, rfl, eqs_row none xs (by omega) fun y hy => (hx y hy).2 rfl⟩
theorem trans_of {x : List AV} (h : Den (.sl tTrans 88) x) : ∃ ts : List TrV, x = [.sl 7 (ts.map TrV.cells) none] ∧ ts.length ≤ 17592186044416 := by
  obtain ⟨xs, rfl, hl, hx⟩ := h
  obtain ⟨ts, rfl, _⟩ := list_map TrV.cells (fun _ => True) xs fun y hy => by
    obtain ⟨a, r, rfl, ha, b, r2, rfl, ⟨s, rfl⟩, c, r3, rfl, ⟨k, rfl⟩, ht⟩ := hx y hy
    obtain ⟨t, rfl⟩ := ha.1 rfl
    obtain ⟨p, rfl⟩ := tail_of ht
    exact ⟨⟨t, s, k, p⟩, rfl, trivial⟩
  have := reach_le hl (by decide)
  rw [List.length_map] at this
  exact ⟨ts, rfl, by omega⟩
theorem state_of {x : List AV} (h : Den tState x) : StD x := by
  obtain ⟨a, r, rfl, ⟨s, rfl⟩, b, r2, rfl, hb, c, r3, rfl, hc, ht⟩ := h
  obtain ⟨xs, rfl, hcnt⟩ := eqs_of hb
  obtain ⟨ts, rfl, hl⟩ := trans_of hc
  obtain ⟨p, rfl⟩ := tail_of ht
  exact ⟨⟨s, .sl 8 xs none, ts, p⟩, rfl, rfl, hcnt, hl⟩
theorem eq_of {x : List AV} (h : Den tEq x) : EqD x := by
  obtain ⟨a, r, rfl, ⟨k, rfl⟩, b, r2, rfl, hb, c, r3, rfl, hc, d, r4, rfl, hd, e, r5, rfl, he, f, r6, rfl, hf, g, r7, rfl, hg, ht⟩ := h
  obtain ⟨names, rfl, hnl⟩ := strs_of hb
  obtain ⟨args, rfl⟩ := args_of hc
  obtain ⟨init, rfl⟩ := args_of hd
  obtain ⟨again, rfl⟩ := args_of he
  obtain ⟨p, rfl⟩ := tail_of ht
  obtain ⟨fs, rfl, hfl, hfx⟩ := hf
  obtain ⟨gs, rfl, hgl, hgx⟩ := hg
  obtain ⟨bs, rfl, hbs⟩ := list_map (fun b => [b]) Cnt fs fun y hy => by
    obtain ⟨xs, h1, h2⟩ := eqs_of (hfx y hy)
    exact ⟨_, h1, h2⟩
  have l1 := reach_le hnl (by decide)
  have l2 := reach_le hfl (by decide)
  have l3 := reach_le hgl (by decide)
  rw [List.length_map] at l2
  exact ⟨⟨k, names, args, init, again, bs, gs, p⟩, rfl, l1, by show bs.length ≤ _; omega, by show gs.length ≤ _; omega, hbs, fun s hs => state_of (hgx s hs)⟩
theorem den_of {τ : RT} {x : List AV} (h : RSh (rtE Tryz.prog [28, 65] 12) τ x) : Den τ x := by
  induction h with
  | int k n _ => exact ⟨n, rfl⟩
  | bool b => exact ⟨b, rfl⟩
  | str s _ => exact ⟨s, rfl⟩
  | sl e b xs hb h ih => exact ⟨xs, rfl, hb.2, ih⟩
  | unit => rfl
  | cons a b x y _ _ h1 h2 => exact ⟨x, y, rfl, h1, h2⟩
  | ref t n τ x h hn hx ih =>
    refine ⟨fun ht => ?_, fun ht => ?_⟩
    · subst ht
      have : rtE Tryz.prog [28, 65] 12 28 = some tExpr := by unfold rtE; rw [if_pos (by decide), rtOf28]
      rw [this] at h
      simp only [sI] at h; subst h
      exact tree_of ih
    · subst ht
      have : rtE Tryz.prog [28, 65] 12 65 = some tEq := by unfold rtE; rw [if_pos (by decide), rtOf65]
      rw [this] at h
      simp only [sI] at h; subst h
      exact eq_of ih
theorem vars_of {x : List AV} (h : Den tVars x) : ∃ vs : List Va, x = [varsA none vs] ∧ vs.length ≤ 8796093022208 := by
  obtain ⟨xs, rfl, hl, hx⟩ := h
  obtain ⟨vs, rfl, _⟩ := list_map Va.cells (fun _ => True) xs fun y hy => by
    obtain ⟨a, r, rfl, ⟨s, rfl⟩, b, r2, rfl, ⟨u, rfl⟩, c, r3, rfl, hc, ht⟩ := hx y hy
    obtain ⟨ts, rfl⟩ := args_of hc
    obtain ⟨p, rfl⟩ := tail_of ht
    exact ⟨⟨s, u, ts, p⟩, rfl, trivial⟩
  have := reach_le hl (by decide)
  rw [List.length_map] at this
  exact ⟨vs, rfl, this⟩
theorem node_of {x : List AV} (h : Den tNode x) : ∃ d : NoV, x = d.cells ∧ NoOk d := by
  obtain ⟨a, r, rfl, ⟨s, rfl⟩, b, r2, rfl, ⟨hy, rfl⟩, c, r3, rfl, hc, d, r4, rfl, hd, e, r5, rfl, he, f, r6, rfl, hf, ht⟩ := h
  obtain ⟨inn, rfl, li⟩ := vars_of hc
  obtain ⟨out, rfl, lo⟩ := vars_of hd
  obtain ⟨loc, rfl, ll⟩ := vars_of he
  obtain ⟨xs, rfl, hcnt⟩ := eqs_of hf
  obtain ⟨p, rfl⟩ := tail_of ht
  exact ⟨⟨s, hy, inn, out, loc, xs, p⟩, rfl, ⟨by show inn.length ≤ _; omega, by show out.length ≤ _; omega, by show loc.length ≤ _; omega, hcnt⟩⟩
theorem enum_of {x : List AV} (h : Den tEnum x) : ∃ e : EnV, x = e.cells ∧ EnOk e := by
  obtain ⟨a, r, rfl, ⟨s, rfl⟩, b, r2, rfl, hb, ht⟩ := h
  obtain ⟨ss, rfl, hl⟩ := strs_of hb
  obtain ⟨p, rfl⟩ := tail_of ht
  exact ⟨⟨s, ss, p⟩, rfl, ⟨hl⟩⟩
theorem prog_of {x : List AV} (h : Den tProg x) : ∃ p : PrV, x = p.cells ∧ PrOk p := by
  obtain ⟨a, r, rfl, ha, b, r2, rfl, hb, rfl⟩ := h
  obtain ⟨xs, rfl, hl, hx⟩ := ha
  obtain ⟨ys, rfl, hl', hy⟩ := hb
  obtain ⟨es, rfl, he⟩ := list_map EnV.cells EnOk xs fun y h => enum_of (hx y h)
  obtain ⟨ds, rfl, hd⟩ := list_map NoV.cells NoOk ys fun y h => node_of (hy y h)
  have l1 := reach_le hl (by decide)
  have l2 := reach_le hl' (by decide)
  rw [List.length_map] at l1 l2
  exact ⟨⟨es, ds⟩, rfl, ⟨by show es.length ≤ _; omega, by show ds.length ≤ _; omega, he, hd⟩⟩
set_option maxRecDepth 100000 in
theorem prog_arg {a : AV} (h : argR Tryz.prog (rtE Tryz.prog [28, 65] 12) 25 tProg a) : ∃ p : PrV, a = .agg p.cells ∧ PrOk p := by
  unfold argR at h
  rw [Tryz.underlying25] at h
  obtain ⟨xs, rfl, hx⟩ := h
  obtain ⟨p, rfl, ok⟩ := prog_of (den_of hx)
  exact ⟨p, rfl, ok⟩
set_option maxRecDepth 100000 in
theorem two_arg' {a : AV} (h : argR Tryz.prog (rtE Tryz.prog [28, 65] 12) 29 tTwo a) : ∃ t u : Tr, a = .agg (t.cells ++ u.cells) := by
  unfold argR at h
  rw [Tryz.underlying29] at h
  obtain ⟨xs, rfl, hx⟩ := h
  obtain ⟨y, z, rfl, hy, z1, z2, rfl, hz, rfl⟩ := den_of hx
  obtain ⟨t, rfl⟩ := hy.1 rfl
  obtain ⟨u, rfl⟩ := hz.1 rfl
  exact ⟨t, u, by rw [List.append_nil]⟩
set_option maxRecDepth 100000 in
theorem str_arg {a : AV} (h : argR Tryz.prog (rtE Tryz.prog [28, 65] 12) 9 .str a) : ∃ s : ByteArray, a = litS s := by
  unfold argR at h
  rw [Tryz.underlying9] at h
  obtain ⟨s, hs⟩ := den_of h
  simp only [List.cons.injEq, and_true] at hs
  exact ⟨s, hs⟩
end
section
def Upd (H H' : List AO) (p : Nat) (o : AO) : Prop := H'[p]? = some o ∧ ∀ r x, r ≠ p → H[r]? = some x → H'[r]? = some x
theorem Upd.set {H : List AO} {p : Nat} {x o : AO} (h : H[p]? = some x) : Upd H (setL H p o) p o := by
  have hp := (List.getElem?_eq_some_iff.1 h).1
  refine ⟨by unfold setL; simp [hp], fun r y hr hy => ?_⟩
  unfold setL
  rw [List.getElem?_set, if_neg (fun e => hr e.symm)]; exact hy
theorem Upd.refl {H : List AO} {p : Nat} {x : AO} (h : H[p]? = some x) : Upd H H p x := ⟨h, fun _ _ _ h => h⟩
theorem Upd.trans {H H' H'' : List AO} {p : Nat} {o o' : AO} (h : Upd H H' p o) (h' : Upd H' H'' p o') : Upd H H'' p o' := ⟨h'.1, fun r x hr hx => h'.2 r x hr (h.2 r x hr hx)⟩
theorem callV_upd {f : FuncId} {args : List AV} {a : AV} {H H' : List AO} {p : Nat} {o x : AO} {id : Nat} (hm : mds f = .ref) (h : cw0 f args H = some (.ret a, H')) (hx : H[p]? = some x) (U : Upd H H' p o) : ∃ H'', callV cw0 mds f args H id = some (.wr a H'') ∧ Upd H H'' p o := by
  unfold callV
  rw [hm]
  simp only
  rw [h]
  simp only [Option.bind_some]
  cases hb : (below H.length frzF a && (H'.take H.length).all (belowO H.length)) with
  | true =>
    refine ⟨H'.take H.length, rfl, ?_, fun r y hr hy => ?_⟩
    · rw [List.getElem?_take, if_pos (List.getElem?_eq_some_iff.1 hx).1]; exact U.1
    · rw [List.getElem?_take, if_pos (List.getElem?_eq_some_iff.1 hy).1]; exact U.2 r y hr hy
  | false => exact ⟨_, rfl, U⟩
def intOf : Option (R × List AO) → Option Int
  | some (.ret (.lit (.int .i64 n)), _) => some n
  | _ => none
theorem intOf_some {x : Option (R × List AO)} {n : Int} (h : intOf x = some n) : ∃ H', x = some (.ret (litI .i64 n), H') := by
  unfold intOf at h
  split at h
  · cases h; exact ⟨_, rfl⟩
  · cases h
def kindR (c : Nat) : Option Int := intOf (callB (lookF tb) ov0 (lookM mtl) mds 20 96 [litI .u8 (c : Int)] [])
def kindK (c : Nat) : Int :=
  if c = 32 ∨ c = 9 ∨ c = 10 ∨ c = 13 then 1
  else if 97 ≤ c ∧ c ≤ 122 ∨ c = 95 then 2
  else if 65 ≤ c ∧ c ≤ 90 then 3
  else if 48 ≤ c ∧ c ≤ 57 then 4
  else if c ∈ [40, 41, 123, 125, 44, 59, 58, 124, 43, 42, 47, 45, 60, 62, 61, 33] then 5
  else 0
set_option maxRecDepth 1000000 in
theorem kind_all : (List.range 256).all (fun c => kindR c == some (kindK c)) = true := by kernel_rfl
theorem kind_call (c : Nat) (h : c < 256) (H : List AO) (id : Nat) : callV cw0 mds 96 [litI .u8 (c : Int)] H id = some (.val (litI .i64 (kindK c)) none) := by
  have := List.all_eq_true.1 kind_all c (List.mem_range.2 h)
  obtain ⟨H', h'⟩ := intOf_some (eq_of_beq this)
  exact callV_pure rfl rfl (callB_leW 20 _ _ _ _ h') rfl
theorem kind_rng (c : Nat) : kindK c ∈ ([0, 1, 2, 3, 4, 5] : List Int) := by
  unfold kindK
  repeat' split
  all_goals decide
def boolOf : Option (R × List AO) → Option Bool
  | some (.ret (.lit (.bool n)), _) => some n
  | _ => none
theorem boolOf_some {x : Option (R × List AO)} {n : Bool} (h : boolOf x = some n) : ∃ H', x = some (.ret (litB n), H') := by
  unfold boolOf at h
  split at h
  · cases h; exact ⟨_, rfl⟩
  · cases h
def allK : List (List Int) := [[2, 3, 4], [4]]
set_option maxRecDepth 1000000 in
theorem cont_all : (allK.all fun ks => ([0, 1, 2, 3, 4, 5] : List Int).all fun v => boolOf (callB (lookF tb) ov0 (lookM mtl) mds 20 102 [slI (some ks.length) ks, litI .i64 v] []) == some (ks.contains v)) = true := by kernel_rfl
theorem cont_call {ks : List Int} (hk : ks ∈ allK) {v : Int} (hv : v ∈ ([0, 1, 2, 3, 4, 5] : List Int)) (H : List AO) (id : Nat) : callV cw0 mds 102 [slI (some ks.length) ks, litI .i64 v] H id = some (.val (litB (ks.contains v)) none) := by
  have := List.all_eq_true.1 (List.all_eq_true.1 cont_all ks hk) v hv
  obtain ⟨H', h'⟩ := boolOf_some (eq_of_beq this)
  exact callV_pure rfl rfl (callB_leW 20 _ _ _ _ h') rfl
def bytesA (b : List UInt8) : AV := .sl 1 (b.map fun x => [litI .u8 x.toNat]) none
def lexR (b : List UInt8) (i : Nat) : AO := .row [bytesA b, litI .i64 i] 139
theorem lenV_bytes (b : List UInt8) : lenV (bytesA b) = some (litI .i64 b.length) := by
  unfold bytesA; rw [lenV_sl, List.length_map]
theorem iadr_bytes {b : List UInt8} {i : Nat} {x : UInt8} (h : b[i]? = some x) {k : IntKind} : iadr 1 (bytesA b) (litI k i) = some (.ip [litI .u8 x.toNat]) := by
  unfold bytesA
  rw [iadr_sl, if_pos (Int.natCast_nonneg i), Int.toNat_natCast, List.getElem?_map, h]
  rfl
theorem lx0 {H : List AO} {p i : Nat} {b : List UInt8} (h : H[p]? = some (lexR b i)) : Ai.load H none (.ptr p 0) = some (bytesA b) := by rw [load_ptr h]; rfl
theorem lx1 {H : List AO} {p i : Nat} {b : List UInt8} (h : H[p]? = some (lexR b i)) : Ai.load H none (.ptr p 1) = some (litI .i64 i) := by rw [load_ptr h]; rfl
theorem lxs {H : List AO} {p i j : Nat} {b : List UInt8} (h : H[p]? = some (lexR b i)) : storeAt H 1 (.ptr p 1) (litI .i64 j) = some (setL H p (lexR b j)) := by
  rw [store_ptr h (by simp) rfl rfl]; rfl
def pk (b : List UInt8) (i : Nat) : Nat := match b[i]? with
  | some x => x.toNat
  | none => 0
theorem pk_some {b : List UInt8} {i : Nat} {x : UInt8} (h : b[i]? = some x) : pk b i = x.toNat := by unfold pk; rw [h]
theorem pk_lt (b : List UInt8) (i : Nat) : pk b i < 256 := by
  unfold pk; split
  · exact UInt8.toNat_lt _
  · omega
theorem wrapN {n : Nat} (h : n < 4611686018427387904) (m : Nat) (hm : m ≤ 4) : IntKind.wrap .i64 ((n : Int) + (m : Int)) = ((n + m : Nat) : Int) := by rw [Go.Ai.wrap_small] <;> omega
theorem peek_tells {H : List AO} {p i : Nat} {b : List UInt8} (h : H[p]? = some (lexR b i)) (hb : b.length ≤ 70000) (hi : i ≤ b.length) (m : Nat) (hm : m ≤ 4) : cw0 97 [.ptr p 0, litI .i64 (m : Int)] H = some (.ret (litI .u8 (pk b (i + m) : Nat)), H) := by
  refine cw0_of fn97 (c := c97) rfl rfl rfl rfl ?_
  have h0 := lx0 h
  have h1 := lx1 h
  have hw := wrapN (n := i) (by omega) m hm
  by_cases hl : i + m < b.length
  · have hlt : ((i + m : Nat) : Int) < b.length := by omega
    have hg : b[i + m]? = some b[i + m] := List.getElem?_eq_getElem hl
    have hi := iadr_bytes hg (k := .i64)
    rw [pk_some hg]
    simp -implicitDefEqProofs only [c97, aW, ↓aP, makes, reduceLT, reduceEqDiff, reduceAdd, ↓reduceIte, Nat.reduceBEq, fadr_ptr, nilck_ptr, h0, h1, hw, lenV_bytes, hlt, hi]
    rfl
  · have hlt : ¬ (((i + m : Nat) : Int) < b.length) := by omega
    have hg : b[i + m]? = none := List.getElem?_eq_none (by omega)
    have : pk b (i + m) = 0 := by unfold pk; rw [hg]
    rw [this]
    simp -implicitDefEqProofs only [c97, aW, ↓aP, makes, reduceLT, reduceEqDiff, reduceAdd, ↓reduceIte, Nat.reduceBEq, fadr_ptr, nilck_ptr, h0, h1, hw, lenV_bytes, hlt]
    rfl
theorem peek_call {H : List AO} {p i : Nat} {b : List UInt8} (h : H[p]? = some (lexR b i)) (hb : b.length ≤ 70000) (hi : i ≤ b.length) (m : Nat) (hm : m ≤ 4) (id : Nat) : callV cw0 mds 97 [.ptr p 0, litI .i64 (m : Int)] H id = some (.wr (litI .u8 (pk b (i + m) : Nat)) H) :=
  callV_same rfl (peek_tells h hb hi m hm) rfl
def whileN (b : List UInt8) (ks : List Int) : Nat → Nat → Nat
  | 0, i => i
  | n + 1, i => if i < b.length ∧ ks.contains (kindK (pk b i)) = true then whileN b ks n (i + 1) else i
def whileF (b : List UInt8) (ks : List Int) (i : Nat) : Nat := whileN b ks (b.length - i) i
theorem while_loop {ks : List Int} (hk : ks ∈ allK) {p : Nat} {b : List UInt8} (hb : b.length ≤ 70000) : ∀ (n i : Nat) (H : List AO), n = b.length - i → i ≤ b.length → H[p]? = some (lexR b i) →
    ∃ H', loopW (codeW cw0 (lookM mtl) mds c98l0) [0, 1] [(0, .ptr p 0), (1, slI (some ks.length) ks)] H = some (.exit 0, [(0, .ptr p 0), (1, slI (some ks.length) ks), (28, litB false)], H') ∧ Upd H H' p (lexR b (whileN b ks n i)) ∧ whileN b ks n i ≤ b.length ∧ i ≤ whileN b ks n i
  | 0, i, H, hn, hi, h => by
    have h0 := lx0 h
    have h1 := lx1 h
    refine ⟨H, ?_, Upd.refl h, hi, Nat.le_refl _⟩
    refine loopW_out ?_ (by simp)
    simp -implicitDefEqProofs only [c98l0, aW, ↓aP, makes, reduceLT, reduceEqDiff, reduceAdd, ↓reduceIte, Nat.reduceBEq, fadr_ptr, nilck_ptr, h0, h1, lenV_bytes, show ¬ ((i : Int) < b.length) by omega]
  | n + 1, i, H, hn, hi, h => by
    have h0 := lx0 h
    have h1 := lx1 h
    have hl : i < b.length := by omega
    have hlt : (i : Int) < b.length := by omega
    have hg : b[i]? = some b[i] := List.getElem?_eq_getElem hl
    have hi' := iadr_bytes hg (k := .i64)
    have hk1 := kind_call b[i].toNat (UInt8.toNat_lt _)
    have hc := cont_call hk (kind_rng b[i].toNat)
    rw [whileN, pk_some hg]
    by_cases hx : ks.contains (kindK b[i].toNat) = true
    · rw [if_pos ⟨hl, hx⟩]
      rw [hx] at hc
      have hs := lxs (j := i + 1) h
      have step : codeW cw0 (lookM mtl) mds c98l0 (keep [0, 1] [(0, .ptr p 0), (1, slI (some ks.length) ks)]) H = some (.normal, [(0, .ptr p 0), (1, slI (some ks.length) ks)], setL H p (lexR b (i + 1))) := by
        simp -implicitDefEqProofs only [c98l0, aW, ↓aP, makes, reduceLT, reduceEqDiff, reduceAdd, ↓reduceIte, Nat.reduceBEq, fadr_ptr, nilck_ptr, h0, h1, lenV_bytes, hlt, hi', hk1, hc, wrap1 (show i < 4611686018427387904 by omega), hs]
      obtain ⟨H', L, U, x1, x2⟩ := while_loop hk hb n (i + 1) (setL H p (lexR b (i + 1))) (by omega) (by omega) (Upd.set h).1
      exact ⟨H', loopW_round step L, (Upd.set h).trans U, x1, by omega⟩
    · rw [if_neg (fun e => hx e.2)]
      rw [Bool.not_eq_true] at hx
      rw [hx] at hc
      refine ⟨H, ?_, Upd.refl h, hi, Nat.le_refl _⟩
      refine loopW_out ?_ (by simp)
      simp -implicitDefEqProofs only [c98l0, aW, ↓aP, makes, reduceLT, reduceEqDiff, reduceAdd, ↓reduceIte, Nat.reduceBEq, fadr_ptr, nilck_ptr, h0, h1, lenV_bytes, hlt, hi', hk1, hc]
theorem while_call {ks : List Int} (hk : ks ∈ allK) {p i : Nat} {b : List UInt8} {H : List AO} (h : H[p]? = some (lexR b i)) (hb : b.length ≤ 70000) (hi : i ≤ b.length) (id : Nat) :
    ∃ H', callV cw0 mds 98 [.ptr p 0, slI (some ks.length) ks] H id = some (.wr (.tup []) H') ∧ Upd H H' p (lexR b (whileF b ks i)) := by
  obtain ⟨H', L, U, x1, x2⟩ := while_loop hk hb _ i H rfl hi h
  refine callV_upd (H' := H') rfl ?_ h U
  refine cw0_of fn98 (c := c98) rfl rfl rfl rfl ?_
  simp -implicitDefEqProofs only [c98, aW, ↓aP, makes, reduceLT, reduceEqDiff, reduceAdd, ↓reduceIte, Nat.reduceBEq, L]
  rfl
theorem whileF_le (b : List UInt8) (ks : List Int) (i : Nat) (hi : i ≤ b.length) : whileF b ks i ≤ b.length ∧ i ≤ whileF b ks i := by
  unfold whileF
  have : ∀ (n i : Nat), i ≤ b.length → whileN b ks n i ≤ b.length ∧ i ≤ whileN b ks n i := by
    intro n
    induction n with
    | zero => intro i hi; exact ⟨hi, Nat.le_refl _⟩
    | succ n ih =>
      intro i hi
      rw [whileN]
      split
      · rename_i h; have := ih (i + 1) (by omega); omega
      · exact ⟨hi, Nat.le_refl _⟩
  exact this _ i hi
end
section
def lineN (b : List UInt8) : Nat → Nat → Nat
  | 0, i => i
  | n + 1, i => if i < b.length ∧ pk b i ≠ 10 then lineN b n (i + 1) else i
def lineF (b : List UInt8) (i : Nat) : Nat := lineN b (b.length - i) i
theorem lineN_le (b : List UInt8) : ∀ (n i : Nat), i ≤ b.length → lineN b n i ≤ b.length ∧ i ≤ lineN b n i
  | 0, i, hi => ⟨hi, Nat.le_refl _⟩
  | n + 1, i, hi => by
    rw [lineN]
    split
    · rename_i h; have := lineN_le b n (i + 1) (by omega); omega
    · exact ⟨hi, Nat.le_refl _⟩
theorem line_loop {p : Nat} {b : List UInt8} (hb : b.length ≤ 70000) : ∀ (n i : Nat) (H : List AO), n = b.length - i → i ≤ b.length → H[p]? = some (lexR b i) →
    ∃ H', loopW (codeW cw0 (lookM mtl) mds c92l0) [0] [(0, .ptr p 0)] H = some (.exit 3, [(0, .ptr p 0), (63, litB false)], H') ∧ Upd H H' p (lexR b (lineN b n i))
  | 0, i, H, hn, hi, h => by
    have h0 := lx0 h
    have h1 := lx1 h
    refine ⟨H, ?_, Upd.refl h⟩
    refine loopW_out ?_ (by simp)
    simp -implicitDefEqProofs only [c92l0, aW, ↓aP, makes, reduceLT, reduceEqDiff, reduceAdd, ↓reduceIte, Nat.reduceBEq, fadr_ptr, nilck_ptr, h0, h1, lenV_bytes, show ¬ ((i : Int) < b.length) by omega]
  | n + 1, i, H, hn, hi, h => by
    have h0 := lx0 h
    have h1 := lx1 h
    have hl : i < b.length := by omega
    have hlt : (i : Int) < b.length := by omega
    have hg : b[i]? = some b[i] := List.getElem?_eq_getElem hl
    have hi' := iadr_bytes hg (k := .i64)
    rw [lineN, pk_some hg]
    by_cases hx : b[i].toNat ≠ 10
    · rw [if_pos ⟨hl, hx⟩]
      have hne : ((b[i].toNat : Int) != 10) = true := bne_iff_ne.2 (by omega)
      have hs := lxs (j := i + 1) h
      have step : codeW cw0 (lookM mtl) mds c92l0 (keep [0] [(0, .ptr p 0)]) H = some (.normal, [(0, .ptr p 0)], setL H p (lexR b (i + 1))) := by
        simp -implicitDefEqProofs only [c92l0, aW, ↓aP, makes, reduceLT, reduceEqDiff, reduceAdd, ↓reduceIte, Nat.reduceBEq, fadr_ptr, nilck_ptr, h0, h1, lenV_bytes, hlt, hi', hne, wrap1 (show i < 4611686018427387904 by omega), hs]
      obtain ⟨H', L, U⟩ := line_loop hb n (i + 1) (setL H p (lexR b (i + 1))) (by omega) (by omega) (Upd.set h).1
      exact ⟨H', loopW_round step L, (Upd.set h).trans U⟩
    · rw [if_neg (fun e => hx e.2)]
      have hne : ((b[i].toNat : Int) != 10) = false := by
        rw [bne_eq_false_iff_eq]; omega
      refine ⟨H, ?_, Upd.refl h⟩
      refine loopW_out ?_ (by simp)
      simp -implicitDefEqProofs only [c92l0, aW, ↓aP, makes, reduceLT, reduceEqDiff, reduceAdd, ↓reduceIte, Nat.reduceBEq, fadr_ptr, nilck_ptr, h0, h1, lenV_bytes, hlt, hi', hne]
def skipN (b : List UInt8) : Nat → Nat → Nat
  | 0, i => i
  | n + 1, i => if i < b.length then (if kindK (pk b i) = 1 then skipN b n (i + 1) else if pk b i = 45 ∧ pk b (i + 1) = 45 then skipN b n (lineF b i) else i) else i
def skipF (b : List UInt8) (i : Nat) : Nat := skipN b (b.length - i) i
theorem lineF_lt {b : List UInt8} {i : Nat} (hl : i < b.length) (hp : pk b i = 45) : lineF b i ≤ b.length ∧ i + 1 ≤ lineF b i := by
  unfold lineF
  rw [show b.length - i = (b.length - i - 1) + 1 by omega, lineN, if_pos ⟨hl, by omega⟩]
  exact lineN_le b _ (i + 1) (by omega)
theorem skipN_le (b : List UInt8) : ∀ (n i : Nat), i ≤ b.length → skipN b n i ≤ b.length ∧ i ≤ skipN b n i
  | 0, i, hi => ⟨hi, Nat.le_refl _⟩
  | n + 1, i, hi => by
    rw [skipN]
    split
    · rename_i h
      split
      · have := skipN_le b n (i + 1) (by omega); omega
      · split
        · rename_i hp
          have h1 := lineF_lt h hp.1
          have := skipN_le b n (lineF b i) h1.1; omega
        · exact ⟨hi, Nat.le_refl _⟩
    · exact ⟨hi, Nat.le_refl _⟩
theorem skip_loop {p : Nat} {b : List UInt8} (hb : b.length ≤ 70000) : ∀ (n i : Nat) (H : List AO), b.length - i ≤ n → i ≤ b.length → H[p]? = some (lexR b i) →
    ∃ e fr' H', loopW (codeW cw0 (lookM mtl) mds c92l1) [0] [(0, .ptr p 0)] H = some (e, fr', H') ∧ (e = .exit 0 ∨ e = .ret) ∧ Upd H H' p (lexR b (skipN b n i))
  | 0, i, H, hn, hi, h => by
    have h0 := lx0 h
    have h1 := lx1 h
    refine ⟨.exit 0, [(0, .ptr p 0), (11, litB false)], H, ?_, .inl rfl, Upd.refl h⟩
    refine loopW_out ?_ (by simp)
    simp -implicitDefEqProofs only [c92l1, aW, ↓aP, makes, reduceLT, reduceEqDiff, reduceAdd, ↓reduceIte, Nat.reduceBEq, fadr_ptr, nilck_ptr, h0, h1, lenV_bytes, show ¬ ((i : Int) < b.length) by omega]
  | n + 1, i, H, hn, hi, h => by
    have h0 := lx0 h
    have h1 := lx1 h
    rw [skipN]
    by_cases hl : i < b.length
    case neg =>
      rw [if_neg hl]
      refine ⟨.exit 0, [(0, .ptr p 0), (11, litB false)], H, ?_, .inl rfl, Upd.refl h⟩
      refine loopW_out ?_ (by simp)
      simp -implicitDefEqProofs only [c92l1, aW, ↓aP, makes, reduceLT, reduceEqDiff, reduceAdd, ↓reduceIte, Nat.reduceBEq, fadr_ptr, nilck_ptr, h0, h1, lenV_bytes, show ¬ ((i : Int) < b.length) by omega]
    rw [if_pos hl]
    have hlt : (i : Int) < b.length := by omega
    have hg : b[i]? = some b[i] := List.getElem?_eq_getElem hl
    have hi' := iadr_bytes hg (k := .i64)
    have hk := kind_call b[i].toNat (UInt8.toNat_lt _)
    rw [← pk_some hg] at hi' hk
    by_cases hx : kindK (pk b i) = 1
    · rw [if_pos hx]
      have he : (kindK (pk b i) == 1) = true := beq_iff_eq.2 hx
      have hs := lxs (j := i + 1) h
      have step : codeW cw0 (lookM mtl) mds c92l1 (keep [0] [(0, .ptr p 0)]) H = some (.normal, [(0, .ptr p 0)], setL H p (lexR b (i + 1))) := by
        simp -implicitDefEqProofs only [c92l1, aW, ↓aP, makes, reduceLT, reduceEqDiff, reduceAdd, ↓reduceIte, Nat.reduceBEq, fadr_ptr, nilck_ptr, h0, h1, lenV_bytes, hlt, hi', hk, he, wrap1 (show i < 4611686018427387904 by omega), hs]
      obtain ⟨e, fr', H', L, x1, U⟩ := skip_loop hb n (i + 1) (setL H p (lexR b (i + 1))) (by omega) (by omega) (Upd.set h).1
      exact ⟨e, fr', H', loopW_round step L, x1, (Upd.set h).trans U⟩
    · rw [if_neg hx]
      have he : (kindK (pk b i) == 1) = false := beq_eq_false_iff_ne.2 hx
      have p0 := peek_call h hb hi 0 (by omega)
      have p1 := peek_call h hb hi 1 (by omega)
      rw [show ((0 : Nat) : Int) = 0 from rfl, Nat.add_zero] at p0
      rw [show ((1 : Nat) : Int) = 1 from rfl] at p1
      by_cases d0 : pk b i = 45
      · have q0 : (((pk b i : Nat) : Int) == 45) = true := beq_iff_eq.2 (by omega)
        by_cases d1 : pk b (i + 1) = 45
        · rw [if_pos ⟨d0, d1⟩]
          have q1 : (((pk b (i + 1) : Nat) : Int) == 45) = true := beq_iff_eq.2 (by omega)
          obtain ⟨H1, L0, U1⟩ := line_loop hb (b.length - i) i H rfl hi h
          have L1 : loopW (codeW cw0 (lookM mtl) mds c92l0) [0] [(0, .ptr p 0), (32, litB true)] H = some (.exit 3, [(0, .ptr p 0), (63, litB false)], H1) := by
            rw [← loopW_keep]; exact L0
          have step : codeW cw0 (lookM mtl) mds c92l1 (keep [0] [(0, .ptr p 0)]) H = some (.normal, [(0, .ptr p 0), (63, litB false)], H1) := by
            simp -implicitDefEqProofs only [c92l1, aW, ↓aP, makes, reduceLT, reduceEqDiff, reduceAdd, ↓reduceIte, Nat.reduceBEq, fadr_ptr, nilck_ptr, h0, h1, lenV_bytes, hlt, hi', hk, he, p0, p1, q0, q1, L1]
          have hlf := lineF_lt hl d0
          obtain ⟨e, fr', H', L, x1, U⟩ := skip_loop hb n (lineF b i) H1 (by omega) hlf.1 U1.1
          exact ⟨e, fr', H', loopW_next step rfl L, x1, U1.trans U⟩
        · rw [if_neg (fun e => d1 e.2)]
          have q1 : (((pk b (i + 1) : Nat) : Int) == 45) = false := beq_eq_false_iff_ne.2 (by omega)
          refine ⟨.ret, [(0, .ptr p 0), (32, litB false)], H, ?_, .inr rfl, Upd.refl h⟩
          refine loopW_out ?_ (by simp)
          simp -implicitDefEqProofs only [c92l1, aW, ↓aP, makes, reduceLT, reduceEqDiff, reduceAdd, ↓reduceIte, Nat.reduceBEq, fadr_ptr, nilck_ptr, h0, h1, lenV_bytes, hlt, hi', hk, he, p0, p1, q0, q1]
      · rw [if_neg (fun e => d0 e.1)]
        have q0 : (((pk b i : Nat) : Int) == 45) = false := beq_eq_false_iff_ne.2 (by omega)
        refine ⟨.ret, [(0, .ptr p 0), (32, litB false)], H, ?_, .inr rfl, Upd.refl h⟩
        refine loopW_out ?_ (by simp)
        simp -implicitDefEqProofs only [c92l1, aW, ↓aP, makes, reduceLT, reduceEqDiff, reduceAdd, ↓reduceIte, Nat.reduceBEq, fadr_ptr, nilck_ptr, h0, h1, lenV_bytes, hlt, hi', hk, he, p0, p1, q0]
theorem skip_call {p i : Nat} {b : List UInt8} {H : List AO} (h : H[p]? = some (lexR b i)) (hb : b.length ≤ 70000) (hi : i ≤ b.length) (id : Nat) :
    ∃ H', callV cw0 mds 92 [.ptr p 0] H id = some (.wr (.tup []) H') ∧ Upd H H' p (lexR b (skipF b i)) := by
  obtain ⟨e, fr', H', L, he, U⟩ := skip_loop hb (b.length - i) i H (Nat.le_refl _) hi h
  refine callV_upd (H' := H') rfl ?_ h U
  refine cw0_of fn92 (c := c92) rfl rfl rfl rfl ?_
  rcases he with rfl | rfl
  · simp -implicitDefEqProofs only [c92, aW, ↓aP, makes, reduceLT, reduceEqDiff, reduceAdd, ↓reduceIte, Nat.reduceBEq, L]
    rfl
  · simp -implicitDefEqProofs only [c92, aW, ↓aP, makes, reduceLT, reduceEqDiff, reduceAdd, ↓reduceIte, Nat.reduceBEq, L]
    rfl
def two (b : List UInt8) (i : Nat) : Bool := (pk b i == 45 && pk b (i + 1) == 62) || ((pk b i == 60 || pk b i == 62 || pk b i == 61 || pk b i == 33) && pk b (i + 1) == 61)
def punF (b : List UInt8) (i : Nat) : Option Nat := if two b i = true then some (i + 2) else if (pk b i == 33) = true then none else some (i + 1)
theorem pkb (b : List UInt8) (i : Nat) (n : Nat) : (((pk b i : Nat) : Int) == (n : Int)) = (pk b i == n) := by
  by_cases h : pk b i = n
  · rw [beq_iff_eq.2 h]; exact beq_iff_eq.2 (by omega)
  · rw [beq_eq_false_iff_ne.2 h]; exact beq_eq_false_iff_ne.2 (by omega)
def punOut (p : Nat) (b : List UInt8) (i : Nat) : Prop := ∀ H : List AO, H[p]? = some (lexR b i) → cw0 99 [.ptr p 0] H = some (.ret (litB (punF b i).isSome), setL H p (lexR b ((punF b i).getD i)))
set_option maxHeartbeats 8000000 in
theorem pun_tells {p i : Nat} {b : List UInt8} (hb : b.length ≤ 70000) (hi : i ≤ b.length) : punOut p b i := by
  intro H h
  refine cw0_of fn99 (c := c99) rfl rfl rfl rfl ?_
  have h1 := lx1 h
  have p0 := peek_call h hb hi 0 (by omega)
  have p1 := peek_call h hb hi 1 (by omega)
  rw [show ((0 : Nat) : Int) = 0 from rfl, Nat.add_zero] at p0
  rw [show ((1 : Nat) : Int) = 1 from rfl] at p1
  have s1 := lxs (j := i + 1) h
  have s2 := lxs (j := i + 2) h
  have w2 := wrapN (n := i) (by omega) 2 (by omega)
  rw [show ((2 : Nat) : Int) = 2 from rfl] at w2
  have c47 := pkb b i 45
  have c69 := pkb b i 60
  have c71 := pkb b i 62
  have c70 := pkb b i 61
  have c51 := pkb b i 33
  have d62 := pkb b (i + 1) 62
  have d61 := pkb b (i + 1) 61
  have self : setL H p (lexR b i) = H := by
    unfold setL
    apply List.ext_getElem?
    intro j
    rw [List.getElem?_set]
    by_cases e : p = j
    · subst e; rw [if_pos rfl, if_pos (List.getElem?_eq_some_iff.1 h).1]; exact h.symm
    · rw [if_neg e]
  unfold punF two
  simp only [show ((45 : Nat) : Int) = 45 from rfl, show ((60 : Nat) : Int) = 60 from rfl, show ((62 : Nat) : Int) = 62 from rfl, show ((61 : Nat) : Int) = 61 from rfl, show ((33 : Nat) : Int) = 33 from rfl] at c47 c69 c71 c70 c51 d62 d61
  generalize (pk b i == 45) = b45 at *
  generalize (pk b i == 60) = b60 at *
  generalize (pk b i == 62) = b62 at *
  generalize (pk b i == 61) = b61 at *
  generalize (pk b i == 33) = b33 at *
  generalize (pk b (i + 1) == 62) = e62 at *
  generalize (pk b (i + 1) == 61) = e61 at *
  cases b45 <;> cases e62 <;> cases b60 <;> cases b62 <;> cases b61 <;> cases b33 <;> cases e61 <;> (
    simp -implicitDefEqProofs only [c99, aW, ↓aP, makes, reduceLT, reduceEqDiff, reduceAdd, ↓reduceIte, Nat.reduceBEq, fadr_ptr, nilck_ptr, p0, p1, c47, c69, c71, c70, c51, d62, d61, h1, w2, wrap1 (show i < 4611686018427387904 by omega), s1, s2, Bool.and_true, Bool.true_and, Bool.and_false, Bool.false_and, Bool.false_eq_true, Option.isSome_some, Option.isSome_none, Option.getD_some, Option.getD_none, self]
    rfl)
theorem pun_call {p i : Nat} {b : List UInt8} {H : List AO} (h : H[p]? = some (lexR b i)) (hb : b.length ≤ 70000) (hi : i ≤ b.length) (id : Nat) :
    ∃ H', callV cw0 mds 99 [.ptr p 0] H id = some (.wr (litB (punF b i).isSome) H') ∧ Upd H H' p (lexR b ((punF b i).getD i)) :=
  callV_upd rfl (pun_tells hb hi H h) h (Upd.set h)
end
section
def sEq (a b : ByteArray) : Bool := a.data.toList == b.data.toList
def rowS (c : Option Nat) (l : List ByteArray) : AV := .sl 1 (l.map fun s => [litS s]) c
theorem lenV_rowS (c : Option Nat) (l : List ByteArray) : lenV (rowS c l) = some (litI .i64 l.length) := by
  unfold rowS; rw [lenV_sl, List.length_map]
theorem iadr_rowS {c : Option Nat} {l : List ByteArray} {i : Nat} {s : ByteArray} (h : l[i]? = some s) {k : IntKind} : iadr 1 (rowS c l) (litI k i) = some (.ip [litS s]) := by
  unfold rowS
  rw [iadr_sl, if_pos (Int.natCast_nonneg i), Int.toNat_natCast, List.getElem?_map, h]
  rfl
def findF {α : Type} (p : α → Bool) : Nat → List α → Int
  | _, [] => -1
  | n, x :: r => bif p x then n else findF p (n + 1) r
theorem findF_any {α : Type} (p : α → Bool) : ∀ (r : List α) (n : Nat), decide (0 ≤ findF p n r) = r.any p
  | [], n => by simp [findF]
  | x :: r, n => by
    rw [findF, List.any_cons]
    by_cases h : p x = true
    · rw [h]; simp
    · rw [Bool.eq_false_iff.mpr h, cond_false, Bool.false_or]; exact findF_any p r (n + 1)
theorem index51_loop (c : Option Nat) (l : List ByteArray) (v : ByteArray) (hl : l.length ≤ 17592186044416) : ∀ (r : List ByteArray) (n : Nat), l.drop n = r → n ≤ l.length →
    (findF (sEq v) n r = -1 ∧ ∃ i', loopW (codeW cw0 (lookM mtl) mds c62l0) [0, 1, 7, 8] [(0, rowS c l), (1, litS v), (7, litI .i64 l.length), (8, litI .i64 n)] [] = some (.exit 0, [(0, rowS c l), (1, litS v), (7, litI .i64 l.length), (8, i'), (9, litB false)], [])) ∨
    loopW (codeW cw0 (lookM mtl) mds c62l0) [0, 1, 7, 8] [(0, rowS c l), (1, litS v), (7, litI .i64 l.length), (8, litI .i64 n)] [] = some (.ret, [(4, litI .i64 (findF (sEq v) n r))], [])
  | [], n, hd, hn => by
    have h : l.length ≤ n := by
      have := congrArg List.length hd
      rw [List.length_drop, List.length_nil] at this; omega
    left
    refine ⟨rfl, litI .i64 n, ?_⟩
    refine loopW_out ?_ (by simp)
    simp -implicitDefEqProofs only [c62l0, aW, ↓aP, makes, reduceLT, reduceEqDiff, reduceAdd, ↓reduceIte, Nat.reduceBEq, show ¬ ((n : Int) < l.length) by omega]
  | x :: r, n, hd, hn => by
    have hlt : n < l.length := by
      have := congrArg List.length hd
      rw [List.length_drop, List.length_cons] at this; omega
    have hg : l[n]? = some x := by
      have := congrArg List.head? hd
      rwa [List.head?_drop] at this
    have hlti : (n : Int) < l.length := by omega
    rw [findF]
    cases hx : sEq v x with
    | true =>
      right
      rw [cond_true]
      refine loopW_out ?_ (by simp)
      have e : (v.data.toList == x.data.toList) = true := hx
      simp -implicitDefEqProofs only [c62l0, aW, ↓aP, makes, reduceLT, reduceEqDiff, reduceAdd, ↓reduceIte, Nat.reduceBEq, hlti, iadr_rowS hg, bin_eqlS, e]
    | false =>
      rw [cond_false]
      have e : (v.data.toList == x.data.toList) = false := hx
      have step : codeW cw0 (lookM mtl) mds c62l0 (keep [0, 1, 7, 8] [(0, rowS c l), (1, litS v), (7, litI .i64 l.length), (8, litI .i64 n)]) [] = some (.normal, [(0, rowS c l), (1, litS v), (7, litI .i64 l.length), (8, litI .i64 ((n + 1 : Nat) : Int))], []) := by
        simp -implicitDefEqProofs only [c62l0, aW, ↓aP, makes, reduceLT, reduceEqDiff, reduceAdd, ↓reduceIte, Nat.reduceBEq, hlti, iadr_rowS hg, bin_eqlS, e, wrap1 (show n < 4611686018427387904 by omega)]
      rcases index51_loop c l v hl r (n + 1) (by rw [← List.drop_drop, hd]; rfl) (by omega) with ⟨h1, i', h⟩ | h
      · exact .inl ⟨h1, i', loopW_round step h⟩
      · exact .inr (loopW_round step h)
theorem cont37_tells (c : Option Nat) (l : List ByteArray) (v : ByteArray) (hl : l.length ≤ 17592186044416) : ∃ H', cw0 55 [rowS c l, litS v] [] = some (.ret (litB (l.any (sEq v))), H') := by
  have h51 : ∃ H', cw0 62 [rowS c l, litS v] [] = some (.ret (litI .i64 (findF (sEq v) 0 l)), H') := by
    have L := index51_loop c l v hl l 0 rfl (Nat.zero_le _)
    rw [show ((0 : Nat) : Int) = 0 from rfl] at L
    refine cw0_ret fn62 (c := c62) rfl rfl rfl rfl ?_
    rcases L with ⟨h1, i', L⟩ | L
    · rw [h1]
      simp -implicitDefEqProofs only [c62, aW, ↓aP, makes, reduceLT, reduceEqDiff, reduceAdd, ↓reduceIte, Nat.reduceBEq, lenV_rowS, L]
      rfl
    · simp -implicitDefEqProofs only [c62, aW, ↓aP, makes, reduceLT, reduceEqDiff, reduceAdd, ↓reduceIte, Nat.reduceBEq, lenV_rowS, L]
      rfl
  obtain ⟨H1, h51⟩ := h51
  have hc : ∀ H id, callV cw0 mds 62 [rowS c l, litS v] H id = some (.val (litI .i64 (findF (sEq v) 0 l)) none) := fun H id => callV_pure rfl rfl h51 rfl
  refine cw0_ret fn55 (c := c55) rfl rfl rfl rfl ?_
  rw [← findF_any (sEq v) l 0]
  simp -implicitDefEqProofs only [c55, aW, ↓aP, makes, reduceLT, reduceEqDiff, reduceAdd, ↓reduceIte, Nat.reduceBEq, hc]
  rfl
theorem cont37_call (c : Option Nat) (l : List ByteArray) (v : ByteArray) (hl : l.length ≤ 17592186044416) (H : List AO) (id : Nat) : callV cw0 mds 55 [rowS c l, litS v] H id = some (.val (litB (l.any (sEq v))) none) := by
  obtain ⟨H2, h37⟩ := cont37_tells c l v hl
  exact callV_pure rfl rfl h37 rfl
def wordsL : List ByteArray := [bs [116, 121, 112, 101], bs [110, 111, 100, 101], bs [104, 121, 98, 114, 105, 100], bs [114, 101, 116, 117, 114, 110, 115], bs [118, 97, 114], bs [108, 101, 116], bs [116, 101, 108], bs [105, 102], bs [116, 104, 101, 110], bs [101, 108, 115, 101], bs [112, 114, 101], bs [102, 98, 121], bs [108, 97, 115, 116], bs [100, 101, 114], bs [105, 110, 105, 116], bs [114, 101, 115, 101, 116], bs [119, 104, 101, 110], bs [101, 118, 101, 114, 121], bs [97, 117, 116, 111, 109, 97, 116, 111, 110], bs [115, 116, 97, 116, 101], bs [117, 110, 116, 105, 108], bs [99, 111, 110, 116, 105, 110, 117, 101], bs [112, 114, 101, 115, 101, 110, 116], bs [101, 110, 100], bs [116, 114, 117, 101], bs [102, 97, 108, 115, 101], bs [97, 110, 100], bs [111, 114], bs [110, 111, 116], bs [117, 112], bs [98, 111, 111, 108], bs [105, 110, 116], bs [114, 97, 116], bs [102, 108, 111, 111, 114], bs [100, 105, 118], bs [109, 111, 100]]
def c100r : C := (.reg [⟨some 4, .build [litS (bs []), litS (bs []), litS (bs []), litS (bs []), litS (bs []), litS (bs []), litS (bs []), litS (bs []), litS (bs []), litS (bs []), litS (bs []), litS (bs []), litS (bs []), litS (bs []), litS (bs []), litS (bs []), litS (bs []), litS (bs []), litS (bs []), litS (bs []), litS (bs []), litS (bs []), litS (bs []), litS (bs []), litS (bs []), litS (bs []), litS (bs []), litS (bs []), litS (bs []), litS (bs []), litS (bs []), litS (bs []), litS (bs []), litS (bs []), litS (bs []), litS (bs [])] [(0, 1, .k (litS (bs [116, 121, 112, 101]))), (1, 1, .k (litS (bs [110, 111, 100, 101]))), (2, 1, .k (litS (bs [104, 121, 98, 114, 105, 100]))), (3, 1, .k (litS (bs [114, 101, 116, 117, 114, 110, 115]))), (4, 1, .k (litS (bs [118, 97, 114]))), (5, 1, .k (litS (bs [108, 101, 116]))), (6, 1, .k (litS (bs [116, 101, 108]))), (7, 1, .k (litS (bs [105, 102]))), (8, 1, .k (litS (bs [116, 104, 101, 110]))), (9, 1, .k (litS (bs [101, 108, 115, 101]))), (10, 1, .k (litS (bs [112, 114, 101]))), (11, 1, .k (litS (bs [102, 98, 121]))), (12, 1, .k (litS (bs [108, 97, 115, 116]))), (13, 1, .k (litS (bs [100, 101, 114]))), (14, 1, .k (litS (bs [105, 110, 105, 116]))), (15, 1, .k (litS (bs [114, 101, 115, 101, 116]))), (16, 1, .k (litS (bs [119, 104, 101, 110]))), (17, 1, .k (litS (bs [101, 118, 101, 114, 121]))), (18, 1, .k (litS (bs [97, 117, 116, 111, 109, 97, 116, 111, 110]))), (19, 1, .k (litS (bs [115, 116, 97, 116, 101]))), (20, 1, .k (litS (bs [117, 110, 116, 105, 108]))), (21, 1, .k (litS (bs [99, 111, 110, 116, 105, 110, 117, 101]))), (22, 1, .k (litS (bs [112, 114, 101, 115, 101, 110, 116]))), (23, 1, .k (litS (bs [101, 110, 100]))), (24, 1, .k (litS (bs [116, 114, 117, 101]))), (25, 1, .k (litS (bs [102, 97, 108, 115, 101]))), (26, 1, .k (litS (bs [97, 110, 100]))), (27, 1, .k (litS (bs [111, 114]))), (28, 1, .k (litS (bs [110, 111, 116]))), (29, 1, .k (litS (bs [117, 112]))), (30, 1, .k (litS (bs [98, 111, 111, 108]))), (31, 1, .k (litS (bs [105, 110, 116]))), (32, 1, .k (litS (bs [114, 97, 116]))), (33, 1, .k (litS (bs [102, 108, 111, 111, 114]))), (34, 1, .k (litS (bs [100, 105, 118]))), (35, 1, .k (litS (bs [109, 111, 100])))], none⟩,
     ⟨some 3, .alloc [litS (bs []), litS (bs []), litS (bs []), litS (bs []), litS (bs []), litS (bs []), litS (bs []), litS (bs []), litS (bs []), litS (bs []), litS (bs []), litS (bs []), litS (bs []), litS (bs []), litS (bs []), litS (bs []), litS (bs []), litS (bs []), litS (bs []), litS (bs []), litS (bs []), litS (bs []), litS (bs []), litS (bs []), litS (bs []), litS (bs []), litS (bs []), litS (bs []), litS (bs []), litS (bs []), litS (bs []), litS (bs []), litS (bs []), litS (bs []), litS (bs []), litS (bs [])] 147, none⟩,
     ⟨none, .store 36 (.s 3) (.s 4), none⟩]
     [0, 3])
theorem c85_eq : c100 = .seq (.reg [⟨some 2, .mv (.k (litB false)), none⟩] [0]) (.seq c100r (.seq (.reg [⟨some 5, .slA 1 36 (.s 3), none⟩, ⟨some 6, .mv (.s 0), none⟩, ⟨some 7, .call (.k (.fn (.func 55) [] [])) [.s 5, .s 6], none⟩, ⟨some 2, .mv (.s 7), none⟩] [2]) .ret)) := rfl
set_option maxRecDepth 100000 in
theorem c100r_run (s : AV) : codeW cw0 (lookM mtl) mds c100r [(0, s)] [] = some (.normal, [(0, s), (3, .ptr 0 0)], [.row (wordsL.map litS) 147]) := by kernel_rfl
theorem word_call (s : ByteArray) (H : List AO) (id : Nat) : callV cw0 mds 100 [litS s] H id = some (.val (litB (wordsL.any (sEq s))) none) := by
  have h85 : ∃ H', cw0 100 [litS s] [] = some (.ret (litB (wordsL.any (sEq s))), H') := by
    refine cw0_ret fn100 (c := c100) rfl rfl rfl rfl ?_
    have h1 : slAV [.row (wordsL.map litS) 147] 1 36 (.ptr 0 0) = some (.own 0 0 36 1 (some 36)) := rfl
    have hc : ∀ id, callV cw0 mds 55 [.own 0 0 36 1 (some 36), litS s] [.row (wordsL.map litS) 147] id = some (.val (litB (wordsL.any (sEq s))) none) := by
      intro id
      have hf : mapL (frz [.row (wordsL.map litS) 147] frzF) [.own 0 0 36 1 (some 36), litS s] = some ([rowS (some 36) wordsL, litS s], [0]) := rfl
      obtain ⟨H', h⟩ := cont37_tells (some 36) wordsL s (by decide)
      exact callV_flat rfl hf h
    rw [c85_eq]
    simp -implicitDefEqProofs only [aW, ↓aP, makes, reduceLT, reduceEqDiff, reduceAdd, ↓reduceIte, Nat.reduceBEq, c100r_run, core_slA, h1, hc]
    rfl
  obtain ⟨H', h85⟩ := h85
  exact callV_pure rfl rfl h85 rfl
end
section
def a77 : C := (.reg [⟨some 2, .alloc [litI .i64 0, litS (bs []), litI .i64 0] 96, none⟩,
    ⟨some 3, .mv (.k (litB false)), none⟩]
    [0, 2])
def b77 : C := (.reg [⟨some 6, .mv (.s 0), none⟩,
     ⟨some 7, .nilck (.s 6), none⟩,
     ⟨some 8, .fadr 1 (.s 7), none⟩,
     ⟨some 9, .load none (.s 8), none⟩,
     ⟨some 4, .mv (.s 9), none⟩]
     [0, 2, 4])
def d77 : C := (.reg [⟨some 10, .mv (.s 4), none⟩,
      ⟨some 11, .build [litI .i64 0, litS (bs []), litI .i64 0] [(2, 1, .s 10)], none⟩,
      ⟨some 5, .alloc [litI .i64 0, litS (bs []), litI .i64 0] 96, none⟩,
      ⟨none, .store 3 (.s 5) (.s 11), none⟩]
      [0, 2, 4, 5])
def e77 : C := (.reg [⟨some 12, .mv (.s 0), none⟩,
        ⟨some 13, .nilck (.s 12), none⟩,
        ⟨some 14, .fadr 0 (.s 13), none⟩,
        ⟨some 15, .load none (.s 14), none⟩,
        ⟨some 16, .mv (.s 4), none⟩,
        ⟨some 17, .iadr 1 (.s 15) (.s 16), none⟩,
        ⟨some 18, .load none (.s 17), none⟩,
        ⟨some 19, .call (.k (.fn (.func 96) [] [])) [.s 18], none⟩]
        [0, 2, 4, 5, 19])
def sw77 : C := (.block 0
       (.seq
        (.reg [⟨some 22, .bin .eql (.s 19) (.k (litI .i64 2)), none⟩,
          ⟨some 21, .mv (.s 22), none⟩]
          [0, 2, 4, 5, 19, 21])
        (.cond (.s 21)
         (.seq
          (.reg [⟨some 23, .fadr 0 (.s 5), none⟩,
            ⟨none, .store 1 (.s 23) (.k (litI .i64 1)), none⟩]
            [0, 2, 4, 5])
          (.reg [⟨some 24, .mv (.s 0), none⟩,
            ⟨some 25, .bslice false 1 3 [litI .i64 0] [(0, .k (litI .i64 2)), (1, .k (litI .i64 3)), (2, .k (litI .i64 4))] 3, none⟩,
            ⟨some 26, .call (.k (.fn (.func 98) [] [])) [.s 24, .s 25], none⟩]
            [0, 2, 4, 5]))
         (.seq
          (.reg [⟨some 28, .bin .eql (.s 19) (.k (litI .i64 3)), none⟩,
            ⟨some 27, .mv (.s 28), none⟩]
            [0, 2, 4, 5, 19, 27])
          (.cond (.s 27)
           (.seq
            (.reg [⟨some 29, .fadr 0 (.s 5), none⟩,
              ⟨none, .store 1 (.s 29) (.k (litI .i64 2)), none⟩]
              [0, 2, 4, 5])
            (.reg [⟨some 30, .mv (.s 0), none⟩,
              ⟨some 31, .bslice false 1 3 [litI .i64 0] [(0, .k (litI .i64 2)), (1, .k (litI .i64 3)), (2, .k (litI .i64 4))] 3, none⟩,
              ⟨some 32, .call (.k (.fn (.func 98) [] [])) [.s 30, .s 31], none⟩]
              [0, 2, 4, 5]))
           (.seq
            (.reg [⟨some 34, .bin .eql (.s 19) (.k (litI .i64 4)), none⟩,
              ⟨some 33, .mv (.s 34), none⟩]
              [0, 2, 4, 5, 19, 33])
            (.cond (.s 33)
             (.seq
              (.reg [⟨some 35, .fadr 0 (.s 5), none⟩,
                ⟨none, .store 1 (.s 35) (.k (litI .i64 3)), none⟩]
                [0, 2, 4, 5])
              (.seq
               (.reg [⟨some 36, .mv (.s 0), none⟩,
                 ⟨some 37, .bslice false 1 1 [litI .i64 0] [(0, .k (litI .i64 4))] 3, none⟩,
                 ⟨some 38, .call (.k (.fn (.func 98) [] [])) [.s 36, .s 37], none⟩]
                 [0, 2, 4, 5])
               (.seq
                (.reg [⟨some 39, .mv (.s 0), none⟩,
                  ⟨some 40, .call (.k (.fn (.func 97) [] [])) [.s 39, .k (litI .i64 0)], none⟩,
                  ⟨some 41, .bin .eql (.s 40) (.k (litI .u8 46)), none⟩,
                  ⟨some 42, .mv (.s 41), none⟩,
                  ⟨some 43, .mv (.s 0), some (42, true)⟩,
                  ⟨some 44, .call (.k (.fn (.func 97) [] [])) [.s 43, .k (litI .i64 1)], some (42, true)⟩,
                  ⟨some 45, .call (.k (.fn (.func 96) [] [])) [.s 44], some (42, true)⟩,
                  ⟨some 46, .bin .eql (.s 45) (.k (litI .i64 4)), some (42, true)⟩,
                  ⟨some 47, .pick (.s 42) (.s 46) (.k (litB false)), none⟩]
                  [0, 2, 4, 5, 47])
                (.cond (.s 47)
                 (.seq
                  (.reg [⟨some 48, .mv (.s 0), none⟩,
                    ⟨some 49, .nilck (.s 48), none⟩,
                    ⟨some 50, .fadr 1 (.s 49), none⟩,
                    ⟨some 51, .load none (.s 50), none⟩,
                    ⟨some 52, .bin .add (.s 51) (.k (litI .i64 1)), none⟩,
                    ⟨some 53, .nilck (.s 48), none⟩,
                    ⟨some 54, .fadr 1 (.s 53), none⟩,
                    ⟨none, .store 1 (.s 54) (.s 52), none⟩]
                    [0, 2, 4, 5])
                  (.reg [⟨some 55, .mv (.s 0), none⟩,
                    ⟨some 56, .bslice false 1 1 [litI .i64 0] [(0, .k (litI .i64 4))] 3, none⟩,
                    ⟨some 57, .call (.k (.fn (.func 98) [] [])) [.s 55, .s 56], none⟩]
                    [0, 2, 4, 5]))
                 .skip))))
             (.seq
              (.reg [⟨some 59, .bin .eql (.s 19) (.k (litI .i64 5)), none⟩,
                ⟨some 58, .mv (.s 59), none⟩]
                [0, 2, 4, 5, 58])
              (.cond (.s 58)
               (.seq
                (.reg [⟨some 60, .fadr 0 (.s 5), none⟩,
                  ⟨none, .store 1 (.s 60) (.k (litI .i64 5)), none⟩]
                  [0, 2, 4, 5])
                (.seq
                 (.reg [⟨some 61, .mv (.s 0), none⟩,
                   ⟨some 62, .call (.k (.fn (.func 99) [] [])) [.s 61], none⟩,
                   ⟨some 63, .un .not (.s 62), none⟩]
                   [0, 2, 4, 5, 63])
                 (.cond (.s 63)
                  (.seq
                   (.reg [⟨some 64, .load (some 3) (.s 5), none⟩,
                     ⟨none, .store 3 (.s 2) (.s 64), none⟩,
                     ⟨some 3, .mv (.k (litB false)), none⟩]
                     [2, 3])
                   .ret)
                  .skip)))
               (.seq
                (.reg [⟨some 20, .load (some 3) (.s 5), none⟩,
                  ⟨none, .store 3 (.s 2) (.s 20), none⟩,
                  ⟨some 3, .mv (.k (litB false)), none⟩]
                  [2, 3])
                .ret))))))))))
def tl77 : C := (.seq
      (.draw [⟨some 65, .mv (.s 0), none⟩,
        ⟨some 66, .nilck (.s 65), none⟩,
        ⟨some 67, .fadr 0 (.s 66), none⟩,
        ⟨some 68, .load none (.s 67), none⟩,
        ⟨some 69, .mv (.s 4), none⟩,
        ⟨some 70, .mv (.s 0), none⟩,
        ⟨some 71, .nilck (.s 70), none⟩,
        ⟨some 72, .fadr 1 (.s 71), none⟩,
        ⟨some 73, .load none (.s 72), none⟩]
        [⟨some 74, .sli 1 (.s 68) (some (.s 69)) (some (.s 73)) none, none⟩,
        ⟨some 75, .conv .ofBytes (.s 74), none⟩,
        ⟨some 76, .fadr 1 (.s 5), none⟩,
        ⟨none, .store 1 (.s 76) (.s 75), none⟩] [2, 5])
      (.seq
       (.seq
        (.reg [⟨some 77, .fadr 0 (.s 5), none⟩,
          ⟨some 78, .load none (.s 77), none⟩,
          ⟨some 79, .bin .eql (.s 78) (.k (litI .i64 1)), none⟩,
          ⟨some 80, .mv (.s 79), none⟩,
          ⟨some 81, .fadr 1 (.s 5), some (80, true)⟩,
          ⟨some 82, .load none (.s 81), some (80, true)⟩,
          ⟨some 83, .call (.k (.fn (.func 100) [] [])) [.s 82], some (80, true)⟩,
          ⟨some 84, .pick (.s 80) (.s 83) (.k (litB false)), none⟩]
          [2, 5, 84])
        (.cond (.s 84)
         (.reg [⟨some 85, .fadr 0 (.s 5), none⟩,
           ⟨none, .store 1 (.s 85) (.k (litI .i64 4)), none⟩]
           [2, 5])
         .skip))
       (.seq
        (.reg [⟨some 86, .load (some 3) (.s 5), none⟩,
          ⟨none, .store 3 (.s 2) (.s 86), none⟩,
          ⟨some 3, .mv (.k (litB true)), none⟩]
          [2, 3])
        .ret)))
theorem c77_eq : c93 = .seq a77 (.seq b77 (.seq d77 (.seq (.seq e77 sw77) tl77))) := rfl
theorem bound_nat {m n : Nat} (h : m ≤ n) (k : IntKind) : bound (litI k (m : Int)) n = some m := by
  have : (decide ((0 : Int) ≤ (m : Int)) && decide ((m : Int) ≤ (n : Int))) = true := by
    rw [Bool.and_eq_true, decide_eq_true_eq, decide_eq_true_eq]; omega
  simp only [bound, litI, this, cond_true, Int.toNat_natCast]
def cut (b : List UInt8) (i e : Nat) : List UInt8 := (b.drop i).take (e - i)
theorem slice_bytes {b : List UInt8} {i e : Nat} (h1 : i ≤ e) (h2 : e ≤ b.length) : slice 1 (bytesA b) (some (litI .i64 i)) (some (litI .i64 e)) none = some (bytesA (cut b i e)) := by
  unfold bytesA cut
  simp only [slice, cuts, BEq.rfl, Bool.true_or, cond_true, List.length_map, bound_nat h2, bound_nat h1, Option.bind_some]
  rw [← List.map_drop, ← List.map_take]
  rfl
theorem bytesOf_map : ∀ b : List UInt8, bytesOf (b.map fun x => litI .u8 x.toNat) = some b
  | [] => rfl
  | x :: r => by
    rw [List.map_cons]
    show (bytesOf (r.map fun x => litI .u8 x.toNat)).bind (fun l => some (UInt8.ofNat ((x.toNat : Int)).toNat :: l)) = _
    rw [bytesOf_map r]
    simp
theorem conv_bytes (H : List AO) (b : List UInt8) : convV H .ofBytes (bytesA b) = some (.val (litS ⟨b.toArray⟩) none) := by
  unfold bytesA
  have : (b.map fun x => [litI .u8 x.toNat]).flatten = b.map fun x => litI .u8 x.toNat := by
    induction b with
    | nil => rfl
    | cons x r ih => rw [List.map_cons, List.flatten_cons, ih]; rfl
  simp only [convV, core, ev, elems, BEq.rfl, Bool.true_or, cond_true, Option.bind_some, this, bytesOf_map]
def tokR (k : Int) (s : ByteArray) (i : Nat) : AO := .row [litI .i64 k, litS s, litI .i64 i] 96
def tokA (k : Int) (s : ByteArray) (i : Nat) : AV := .agg [litI .i64 k, litS s, litI .i64 i]
theorem tk0 {H : List AO} {p : Nat} {k : Int} {s : ByteArray} {i : Nat} (h : H[p]? = some (tokR k s i)) : Ai.load H none (.ptr p 0) = some (litI .i64 k) := by rw [load_ptr h]; rfl
theorem tk1 {H : List AO} {p : Nat} {k : Int} {s : ByteArray} {i : Nat} (h : H[p]? = some (tokR k s i)) : Ai.load H none (.ptr p 1) = some (litS s) := by rw [load_ptr h]; rfl
theorem tk2 {H : List AO} {p : Nat} {k : Int} {s : ByteArray} {i : Nat} (h : H[p]? = some (tokR k s i)) : Ai.load H none (.ptr p 2) = some (litI .i64 i) := by rw [load_ptr h]; rfl
theorem tk3 {H : List AO} {p : Nat} {k : Int} {s : ByteArray} {i : Nat} (h : H[p]? = some (tokR k s i)) : Ai.load H (some 3) (.ptr p 0) = some (tokA k s i) := load_agg h rfl
theorem tks0 {H : List AO} {p : Nat} {k k' : Int} {s : ByteArray} {i : Nat} (h : H[p]? = some (tokR k s i)) : storeAt H 1 (.ptr p 0) (litI .i64 k') = some (setL H p (tokR k' s i)) := by
  rw [store_ptr h (by simp) rfl rfl]; rfl
theorem tks1 {H : List AO} {p : Nat} {k : Int} {s s' : ByteArray} {i : Nat} (h : H[p]? = some (tokR k s i)) : storeAt H 1 (.ptr p 1) (litS s') = some (setL H p (tokR k s' i)) := by
  rw [store_ptr h (by simp) rfl rfl]; rfl
theorem tks3 {H : List AO} {p : Nat} {k k' : Int} {s s' : ByteArray} {i i' : Nat} (h : H[p]? = some (tokR k s i)) : storeAt H 3 (.ptr p 0) (tokA k' s' i') = some (setL H p (tokR k' s' i')) := by
  exact storeAt_agg (n := 3) h rfl rfl rfl
def wordK (s : ByteArray) : Bool := wordsL.any (sEq s)
def textOf (b : List UInt8) (i e : Nat) : ByteArray := ⟨(cut b i e).toArray⟩
theorem setL_get {H : List AO} {p r : Nat} {o x : AO} (hr : r ≠ p) (h : H[r]? = some x) : (setL H p o)[r]? = some x := by
  unfold setL
  rw [List.getElem?_set, if_neg (fun e => hr e.symm)]; exact h
theorem setL_self {H : List AO} {p : Nat} {o x : AO} (h : H[p]? = some x) : (setL H p o)[p]? = some o := (Upd.set h).1
def Rest (H K : List AO) (p A B : Nat) : Prop := ∀ r x, r ≠ p → r ≠ A → r ≠ B → H[r]? = some x → K[r]? = some x
theorem tail77 {p A B i e : Nat} {b : List UInt8} {K : List AO} {k : Int} (x : Fr) (hx : x = [] ∨ x = [(47, litB false)] ∨ x = [(63, litB false)]) (hp : K[p]? = some (lexR b e)) (hA : K[A]? = some (tokR 0 (bs []) 0)) (hB : K[B]? = some (tokR k (bs []) i)) (h1 : i ≤ e) (h2 : e ≤ b.length) (pA : p ≠ A) (pB : p ≠ B) (AB : A ≠ B) :
    ∃ K', codeW cw0 (lookM mtl) mds tl77 ((0, .ptr p 0) :: (2, .ptr A 0) :: (4, litI .i64 i) :: (5, .ptr B 0) :: x) K = some (.ret, [(2, .ptr A 0), (3, litB true)], K') ∧ K'[p]? = some (lexR b e) ∧ K'[A]? = some (tokR (if k = 1 ∧ wordK (textOf b i e) = true then 4 else k) (textOf b i e) i) ∧ Rest K K' p A B := by
  have l0 := lx0 hp
  have l1 := lx1 hp
  have s1 := tks1 (s' := textOf b i e) hB
  have hB1 : (setL K B (tokR k (textOf b i e) i))[B]? = some (tokR k (textOf b i e) i) := setL_self hB
  have hA1 : (setL K B (tokR k (textOf b i e) i))[A]? = some (tokR 0 (bs []) 0) := setL_get AB hA
  have hp1 : (setL K B (tokR k (textOf b i e) i))[p]? = some (lexR b e) := setL_get pB hp
  have k0 := tk0 hB1
  have k1 := tk1 hB1
  have k3 := tk3 hB1
  have st3 := tks3 (k' := k) (s' := textOf b i e) (i' := i) hA1
  have sl := slice_bytes h1 h2
  have cv := conv_bytes (b := cut b i e)
  have wc := word_call (textOf b i e)
  have hR : Rest K (setL (setL K B (tokR k (textOf b i e) i)) A (tokR k (textOf b i e) i)) p A B := fun r x h1 h2 h3 h4 => setL_get h2 (setL_get h3 h4)
  by_cases hk : k = 1
  · have ek : (k == 1) = true := beq_iff_eq.2 hk
    cases hw : wordK (textOf b i e) with
    | true =>
      have hw' : (wordsL.any (sEq (textOf b i e))) = true := hw
      rw [hw'] at wc
      have s4 := tks0 (k' := 4) hB1
      have hB2 : (setL (setL K B (tokR k (textOf b i e) i)) B (tokR 4 (textOf b i e) i))[B]? = some (tokR 4 (textOf b i e) i) := setL_self hB1
      have hA2 : (setL (setL K B (tokR k (textOf b i e) i)) B (tokR 4 (textOf b i e) i))[A]? = some (tokR 0 (bs []) 0) := setL_get AB hA1
      have k3' := tk3 hB2
      have st3' := tks3 (k' := 4) (s' := textOf b i e) (i' := i) hA2
      refine ⟨setL (setL (setL K B (tokR k (textOf b i e) i)) B (tokR 4 (textOf b i e) i)) A (tokR 4 (textOf b i e) i), ?_, setL_get pA (setL_get pB hp1), ?_, fun r x h1 h2 h3 h4 => setL_get h2 (setL_get h3 (setL_get h3 h4))⟩
      · unfold textOf at *
        rcases hx with rfl | rfl | rfl
        all_goals
          simp -implicitDefEqProofs only [tl77, aW, ↓aP, makes, reduceLT, reduceEqDiff, reduceAdd, ↓reduceIte, Nat.reduceBEq, fadr_ptr, nilck_ptr, l0, l1, sl, core_convV, cv, s1, k0, k1, ek, wc, s4, k3', st3']
      · rw [setL_self hA2, if_pos ⟨hk, rfl⟩]
    | false =>
      have hw' : (wordsL.any (sEq (textOf b i e))) = false := hw
      rw [hw'] at wc
      refine ⟨setL (setL K B (tokR k (textOf b i e) i)) A (tokR k (textOf b i e) i), ?_, setL_get pA hp1, ?_, hR⟩
      · unfold textOf at *
        rcases hx with rfl | rfl | rfl
        all_goals
          simp -implicitDefEqProofs only [tl77, aW, ↓aP, makes, reduceLT, reduceEqDiff, reduceAdd, ↓reduceIte, Nat.reduceBEq, fadr_ptr, nilck_ptr, l0, l1, sl, core_convV, cv, s1, k0, k1, ek, wc, k3, st3]
      · rw [setL_self hA1, if_neg (by simp)]
  · have ek : (k == 1) = false := beq_eq_false_iff_ne.2 hk
    refine ⟨setL (setL K B (tokR k (textOf b i e) i)) A (tokR k (textOf b i e) i), ?_, setL_get pA hp1, ?_, hR⟩
    · unfold textOf at *
      rcases hx with rfl | rfl | rfl
      all_goals
        simp -implicitDefEqProofs only [tl77, aW, ↓aP, makes, reduceLT, reduceEqDiff, reduceAdd, ↓reduceIte, Nat.reduceBEq, fadr_ptr, nilck_ptr, l0, l1, sl, core_convV, cv, s1, k0, ek, k3, st3]
    · rw [setL_self hA1, if_neg (fun h => hk h.1)]
end
section
def numF (b : List UInt8) (i : Nat) : Nat :=
  let e := whileF b [4] i
  if pk b e = 46 ∧ kindK (pk b (e + 1)) = 4 then whileF b [4] (e + 1) else e
def nextF (b : List UInt8) (i : Nat) : Option (Int × Nat) :=
  if kindK (pk b i) = 2 then some (1, whileF b [2, 3, 4] i)
  else if kindK (pk b i) = 3 then some (2, whileF b [2, 3, 4] i)
  else if kindK (pk b i) = 4 then some (3, numF b i)
  else if kindK (pk b i) = 5 then (punF b i).map fun e => (5, e)
  else none
def fr77 (p A B i : Nat) (x : Fr) : Fr := (0, .ptr p 0) :: (2, .ptr A 0) :: (4, litI .i64 i) :: (5, .ptr B 0) :: x
section
variable {p A B i : Nat} {b : List UInt8} {K : List AO}
theorem hb3 {H : List AO} {id : Nat} {fr : Fr} : core cw0 (lookM mtl) mds H id (.bslice false 1 3 [litI .i64 0] [(0, .k (litI .i64 2)), (1, .k (litI .i64 3)), (2, .k (litI .i64 4))] 3) fr = some (.val (slI (some 3) [2, 3, 4]) none) := rfl
theorem hb1 {H : List AO} {id : Nat} {fr : Fr} : core cw0 (lookM mtl) mds H id (.bslice false 1 1 [litI .i64 0] [(0, .k (litI .i64 4))] 3) fr = some (.val (slI (some 1) [4]) none) := rfl
theorem pk_in {j : Nat} (h : pk b j ≠ 0) : j < b.length := by
  unfold pk at h
  split at h
  · rename_i x hx; exact (List.getElem?_eq_some_iff.1 hx).1
  · exact absurd rfl h
theorem sw77_name {kk k' : Int} (hkk : (kk = 2 ∧ k' = 1) ∨ (kk = 3 ∧ k' = 2)) (hb : b.length ≤ 70000) (hi : i ≤ b.length) (hp : K[p]? = some (lexR b i)) (hA : K[A]? = some (tokR 0 (bs []) 0)) (hB : K[B]? = some (tokR 0 (bs []) i)) (pA : p ≠ A) (pB : p ≠ B) (AB : A ≠ B) :
    ∃ K', codeW cw0 (lookM mtl) mds sw77 (fr77 p A B i [(19, litI .i64 kk)]) K = some (.normal, fr77 p A B i [], K') ∧ K'[p]? = some (lexR b (whileF b [2, 3, 4] i)) ∧ K'[A]? = some (tokR 0 (bs []) 0) ∧ K'[B]? = some (tokR k' (bs []) i) ∧ Rest K K' p A B := by
  have s0 := tks0 (k' := k') hB
  obtain ⟨K', W, U⟩ := while_call (ks := [2, 3, 4]) (by unfold allK; simp) (setL_get (o := tokR k' (bs []) i) pB hp) hb hi (setL K B (tokR k' (bs []) i)).length
  refine ⟨K', ?_, U.1, U.2 A _ pA.symm (setL_get AB hA), U.2 B _ pB.symm (setL_self hB), fun r x h1 h2 h3 h4 => U.2 r x h1 (setL_get h3 h4)⟩
  rw [show (([2, 3, 4] : List Int)).length = 3 from rfl] at W
  rcases hkk with ⟨rfl, rfl⟩ | ⟨rfl, rfl⟩
  · simp -implicitDefEqProofs only [sw77, fr77, aW, ↓aP, makes, reduceLT, reduceEqDiff, reduceAdd, ↓reduceIte, Nat.reduceBEq, ↓hb3, fadr_ptr, s0, W, Int.reduceBEq]
  · simp -implicitDefEqProofs only [sw77, fr77, aW, ↓aP, makes, reduceLT, reduceEqDiff, reduceAdd, ↓reduceIte, Nat.reduceBEq, ↓hb3, fadr_ptr, s0, W, Int.reduceBEq]
theorem sw77_num (hb : b.length ≤ 70000) (hi : i ≤ b.length) (hp : K[p]? = some (lexR b i)) (hA : K[A]? = some (tokR 0 (bs []) 0)) (hB : K[B]? = some (tokR 0 (bs []) i)) (pA : p ≠ A) (pB : p ≠ B) (AB : A ≠ B) :
    ∃ x K', (x = [] ∨ x = [(47, litB false)] ∨ x = [(63, litB false)]) ∧ codeW cw0 (lookM mtl) mds sw77 (fr77 p A B i [(19, litI .i64 4)]) K = some (.normal, fr77 p A B i x, K') ∧ K'[p]? = some (lexR b (numF b i)) ∧ K'[A]? = some (tokR 0 (bs []) 0) ∧ K'[B]? = some (tokR 3 (bs []) i) ∧ Rest K K' p A B := by
  have s0 := tks0 (k' := 3) hB
  obtain ⟨K1, W, U⟩ := while_call (ks := [4]) (by unfold allK; simp) (setL_get (o := tokR 3 (bs []) i) pB hp) hb hi (setL K B (tokR 3 (bs []) i)).length
  rw [show (([4] : List Int)).length = 1 from rfl] at W
  have hle := whileF_le b [4] i hi
  have hA1 := U.2 A _ pA.symm (setL_get AB hA)
  have hB1 := U.2 B _ pB.symm (setL_self hB)
  have hR1 : Rest K K1 p A B := fun r x h1 h2 h3 h4 => U.2 r x h1 (setL_get h3 h4)
  have p0 := peek_call U.1 hb hle.1 0 (by omega)
  have p1 := peek_call U.1 hb hle.1 1 (by omega)
  rw [show ((0 : Nat) : Int) = 0 from rfl, Nat.add_zero] at p0
  rw [show ((1 : Nat) : Int) = 1 from rfl] at p1
  have kc := kind_call (pk b (whileF b [4] i + 1)) (pk_lt b _)
  unfold numF
  simp only
  by_cases d : pk b (whileF b [4] i) = 46
  · have q0 : (((pk b (whileF b [4] i) : Nat) : Int) == 46) = true := beq_iff_eq.2 (by omega)
    by_cases d1 : kindK (pk b (whileF b [4] i + 1)) = 4
    · rw [if_pos ⟨d, d1⟩]
      have q1 : (kindK (pk b (whileF b [4] i + 1)) == 4) = true := beq_iff_eq.2 d1
      have hlt : whileF b [4] i < b.length := pk_in (by omega)
      have l1 := lx1 U.1
      have ls := lxs (j := whileF b [4] i + 1) U.1
      have hp2 : (setL K1 p (lexR b (whileF b [4] i + 1)))[p]? = some (lexR b (whileF b [4] i + 1)) := setL_self U.1
      obtain ⟨K2, W2, U2⟩ := while_call (ks := [4]) (by unfold allK; simp) hp2 hb (by omega) (setL K1 p (lexR b (whileF b [4] i + 1))).length
      rw [show (([4] : List Int)).length = 1 from rfl] at W2
      refine ⟨[], K2, .inl rfl, ?_, U2.1, U2.2 A _ pA.symm (setL_get pA.symm hA1), U2.2 B _ pB.symm (setL_get pB.symm hB1), fun r x h1 h2 h3 h4 => U2.2 r x h1 (setL_get h1 (hR1 r x h1 h2 h3 h4))⟩
      simp -implicitDefEqProofs only [sw77, fr77, aW, ↓aP, makes, reduceLT, reduceEqDiff, reduceAdd, ↓reduceIte, Nat.reduceBEq, ↓hb1, fadr_ptr, nilck_ptr, s0, W, p0, p1, q0, kc, q1, l1, wrap1 (show whileF b [4] i < 4611686018427387904 by omega), ls, W2, Int.reduceBEq]
    · rw [if_neg (fun e => d1 e.2)]
      have q1 : (kindK (pk b (whileF b [4] i + 1)) == 4) = false := beq_eq_false_iff_ne.2 d1
      refine ⟨[(47, litB false)], K1, .inr (.inl rfl), ?_, U.1, hA1, hB1, hR1⟩
      simp -implicitDefEqProofs only [sw77, fr77, aW, ↓aP, makes, reduceLT, reduceEqDiff, reduceAdd, ↓reduceIte, Nat.reduceBEq, ↓hb1, fadr_ptr, nilck_ptr, s0, W, p0, p1, q0, kc, q1, Int.reduceBEq]
  · rw [if_neg (fun e => d e.1)]
    have q0 : (((pk b (whileF b [4] i) : Nat) : Int) == 46) = false := beq_eq_false_iff_ne.2 (by omega)
    refine ⟨[(47, litB false)], K1, .inr (.inl rfl), ?_, U.1, hA1, hB1, hR1⟩
    simp -implicitDefEqProofs only [sw77, fr77, aW, ↓aP, makes, reduceLT, reduceEqDiff, reduceAdd, ↓reduceIte, Nat.reduceBEq, ↓hb1, fadr_ptr, nilck_ptr, s0, W, p0, q0, Int.reduceBEq]
theorem sw77_sign {e : Nat} (he : punF b i = some e) (hb : b.length ≤ 70000) (hi : i ≤ b.length) (hp : K[p]? = some (lexR b i)) (hA : K[A]? = some (tokR 0 (bs []) 0)) (hB : K[B]? = some (tokR 0 (bs []) i)) (pA : p ≠ A) (pB : p ≠ B) (AB : A ≠ B) :
    ∃ K', codeW cw0 (lookM mtl) mds sw77 (fr77 p A B i [(19, litI .i64 5)]) K = some (.normal, fr77 p A B i [(63, litB false)], K') ∧ K'[p]? = some (lexR b e) ∧ K'[A]? = some (tokR 0 (bs []) 0) ∧ K'[B]? = some (tokR 5 (bs []) i) ∧ Rest K K' p A B := by
  have s0 := tks0 (k' := 5) hB
  obtain ⟨K', W, U⟩ := pun_call (setL_get (o := tokR 5 (bs []) i) pB hp) hb hi (setL K B (tokR 5 (bs []) i)).length
  rw [he] at W U
  simp only [Option.isSome_some, Option.getD_some] at W U
  refine ⟨K', ?_, U.1, U.2 A _ pA.symm (setL_get AB hA), U.2 B _ pB.symm (setL_self hB), fun r x h1 h2 h3 h4 => U.2 r x h1 (setL_get h3 h4)⟩
  simp -implicitDefEqProofs only [sw77, fr77, aW, ↓aP, makes, reduceLT, reduceEqDiff, reduceAdd, ↓reduceIte, Nat.reduceBEq, fadr_ptr, s0, W, Int.reduceBEq]
theorem sw77_nosign (he : punF b i = none) (hb : b.length ≤ 70000) (hi : i ≤ b.length) (hp : K[p]? = some (lexR b i)) (hA : K[A]? = some (tokR 0 (bs []) 0)) (hB : K[B]? = some (tokR 0 (bs []) i)) (pA : p ≠ A) (pB : p ≠ B) (AB : A ≠ B) :
    ∃ K', codeW cw0 (lookM mtl) mds sw77 (fr77 p A B i [(19, litI .i64 5)]) K = some (.ret, [(2, .ptr A 0), (3, litB false)], K') ∧ K'[p]? = some (lexR b i) ∧ K'[A]? = some (tokR 5 (bs []) i) ∧ Rest K K' p A B := by
  have s0 := tks0 (k' := 5) hB
  obtain ⟨K1, W, U⟩ := pun_call (setL_get (o := tokR 5 (bs []) i) pB hp) hb hi (setL K B (tokR 5 (bs []) i)).length
  rw [he] at W U
  simp only [Option.isSome_none, Option.getD_none] at W U
  have hA1 := U.2 A _ pA.symm (setL_get AB hA)
  have hB1 := U.2 B _ pB.symm (setL_self hB)
  have t3 := tk3 hB1
  have st := tks3 (k' := 5) (s' := bs []) (i' := i) hA1
  refine ⟨setL K1 A (tokR 5 (bs []) i), ?_, setL_get pA U.1, setL_self hA1, fun r x h1 h2 h3 h4 => setL_get h2 (U.2 r x h1 (setL_get h3 h4))⟩
  simp -implicitDefEqProofs only [sw77, fr77, aW, ↓aP, makes, reduceLT, reduceEqDiff, reduceAdd, ↓reduceIte, Nat.reduceBEq, fadr_ptr, s0, W, t3, st, Int.reduceBEq]
theorem sw77_none {kk : Int} (h2 : (kk == 2) = false) (h3 : (kk == 3) = false) (h4 : (kk == 4) = false) (h5 : (kk == 5) = false) (hp : K[p]? = some (lexR b i)) (hA : K[A]? = some (tokR 0 (bs []) 0)) (hB : K[B]? = some (tokR 0 (bs []) i)) (pA : p ≠ A) (pB : p ≠ B) (AB : A ≠ B) :
    ∃ K', codeW cw0 (lookM mtl) mds sw77 (fr77 p A B i [(19, litI .i64 kk)]) K = some (.ret, [(2, .ptr A 0), (3, litB false)], K') ∧ K'[p]? = some (lexR b i) ∧ K'[A]? = some (tokR 0 (bs []) i) ∧ Rest K K' p A B := by
  have t3 := tk3 hB
  have st := tks3 (k' := 0) (s' := bs []) (i' := i) hA
  refine ⟨setL K A (tokR 0 (bs []) i), ?_, setL_get pA hp, setL_self hA, fun r x h1 h2 h3 h4 => setL_get h2 h4⟩
  simp -implicitDefEqProofs only [sw77, fr77, aW, ↓aP, makes, reduceLT, reduceEqDiff, reduceAdd, ↓reduceIte, Nat.reduceBEq, h2, h3, h4, h5, t3, st]
end
end
section
def build3V (z : List AV) (a : AV) : Option Out := (fill z [(2, 1, a)]).bind fun cs => some (.val (.agg cs) none)
theorem core_build3 {H : List AO} {id : Nat} (z : List AV) (x : X) (fr : Fr) : core cw0 (lookM mtl) mds H id (.build z [(2, 1, x)]) fr = build3V z (ev fr x) := rfl
theorem build3V_tok (n : Nat) : build3V [litI .i64 0, litS (bs []), litI .i64 0] (litI .i64 (n : Int)) = some (.val (tokA 0 (bs []) n) none) := rfl
theorem sgn_zero {H : List AO} {i : Nat} : storeAt (H ++ [.row [litI .i64 0, litS (bs []), litI .i64 0] 96]) 3 (.ptr H.length 0) (tokA 0 (bs []) i) = some (H ++ [tokR 0 (bs []) i]) := by
  unfold tokA
  rw [storeAt_agg (n := 3) (xs := [litI .i64 0, litS (bs []), litI .i64 i]) (get_last H _) rfl rfl rfl, setL_last]; rfl
theorem pre77 {H : List AO} {p i : Nat} {b : List UInt8} (h : H[p]? = some (lexR b i)) (hl : i < b.length) :
    codeW cw0 (lookM mtl) mds c93 (initFr 0 [.ptr p 0]) H = thenS (codeW cw0 (lookM mtl) mds sw77 (fr77 p H.length (H ++ [tokR 0 (bs []) 0]).length i [(19, litI .i64 (kindK (pk b i)))]) (H ++ [tokR 0 (bs []) 0] ++ [tokR 0 (bs []) i])) (codeW cw0 (lookM mtl) mds tl77) := by
  have hp1 : (H ++ [.row [litI .i64 0, litS (bs []), litI .i64 0] 96])[p]? = some (lexR b i) := get_app h
  have hp2 : (H ++ [.row [litI .i64 0, litS (bs []), litI .i64 0] 96] ++ [tokR 0 (bs []) i])[p]? = some (lexR b i) := get_app hp1
  have l1 := lx1 hp1
  have m0 := lx0 hp2
  have m1 := lx1 hp2
  have hg : b[i]? = some b[i] := List.getElem?_eq_getElem hl
  have hi' := iadr_bytes hg (k := .i64)
  have hk := kind_call b[i].toNat (UInt8.toNat_lt _)
  rw [← pk_some hg] at hi' hk
  have sz := sgn_zero (H := H ++ [.row [litI .i64 0, litS (bs []), litI .i64 0] 96]) (i := i)
  rw [c77_eq]
  simp -implicitDefEqProofs only [a77, b77, d77, e77, aW, ↓aP, makes, reduceLT, reduceEqDiff, reduceAdd, ↓reduceIte, Nat.reduceBEq, fadr_ptr, nilck_ptr, l1, core_build3, build3V_tok, sz, m0, m1, hi', hk]
  rfl
def nextK (b : List UInt8) (i : Nat) : Option ((Int × ByteArray × Nat) × Nat) := (nextF b i).map fun p => ((if p.1 = 1 ∧ wordK (textOf b i p.2) = true then 4 else p.1, textOf b i p.2, i), p.2)
theorem punF_le {b : List UInt8} {i e : Nat} (hl : i < b.length) (h : punF b i = some e) : i < e ∧ e ≤ b.length := by
  unfold punF at h
  split at h
  · rename_i h2
    simp only [sI] at h; subst h
    have : i + 1 < b.length := by
      refine pk_in ?_
      unfold two at h2
      simp only [Bool.or_eq_true, Bool.and_eq_true, beq_iff_eq] at h2
      omega
    omega
  · split at h
    · cases h
    · simp only [sI] at h; omega
theorem while_gt {b : List UInt8} {ks : List Int} {i : Nat} (hl : i < b.length) (hk : ks.contains (kindK (pk b i)) = true) : i < whileF b ks i := by
  unfold whileF
  rw [show b.length - i = (b.length - i - 1) + 1 by omega, whileN, if_pos ⟨hl, hk⟩]
  have := whileF_le b ks (i + 1) (by omega)
  unfold whileF at this
  rw [show b.length - (i + 1) = b.length - i - 1 by omega] at this
  omega
theorem numF_le {b : List UInt8} {i : Nat} (hl : i < b.length) (hk : kindK (pk b i) = 4) : i < numF b i ∧ numF b i ≤ b.length := by
  have g := while_gt (ks := [4]) hl (by rw [hk]; rfl)
  have l := whileF_le b [4] i (by omega)
  unfold numF
  simp only
  split
  · rename_i h
    have : whileF b [4] i < b.length := pk_in (by omega)
    have := whileF_le b [4] (whileF b [4] i + 1) (by omega)
    omega
  · omega
theorem nextF_le {b : List UInt8} {i e : Nat} {k : Int} (hl : i < b.length) (h : nextF b i = some (k, e)) : i < e ∧ e ≤ b.length := by
  unfold nextF at h
  split at h
  · rename_i hk
    simp only [sI, Prod.mk.injEq] at h
    obtain ⟨rfl, rfl⟩ := h
    exact ⟨while_gt hl (by rw [hk]; rfl), (whileF_le b _ i (by omega)).1⟩
  · split at h
    · rename_i hk
      simp only [sI, Prod.mk.injEq] at h
      obtain ⟨rfl, rfl⟩ := h
      exact ⟨while_gt hl (by rw [hk]; rfl), (whileF_le b _ i (by omega)).1⟩
    · split at h
      · rename_i hk
        simp only [sI, Prod.mk.injEq] at h
        obtain ⟨rfl, rfl⟩ := h
        exact numF_le hl hk
      · split at h
        · rw [Option.map_eq_some_iff] at h
          obtain ⟨e', h1, h2⟩ := h
          simp only [Prod.mk.injEq] at h2
          obtain ⟨_, rfl⟩ := h2
          exact punF_le hl h1
        · cases h
theorem fin77 {fr : Fr} {A : Nat} {ok : Bool} {k : Int} {s : ByteArray} {i : Nat} {K : List AO} (h : K[A]? = some (tokR k s i)) : (some ((EX.ret, [(2, .ptr A 0), (3, litB ok)], K) : S)).bind (fin fn93) = some (.ret (.tup [tokA k s i, litB ok]), K) := by
  have t := tk3 h
  show (res [(2, .ptr A 0), (3, litB ok)] K [.c 2 (some 3), .t 3]).bind (fun a => some (R.ret a, K)) = _
  have : res [(2, .ptr A 0), (3, litB ok)] K [.c 2 (some 3), .t 3] = some (.tup [tokA k s i, litB ok]) := by
    unfold res resL resL resL resV
    simp only [show get [(2, .ptr A 0), (3, litB ok)] 2 = .ptr A 0 from rfl, t, Option.bind_some]
    rfl
  rw [this]
  rfl
theorem next_tells {H : List AO} {p i : Nat} {b : List UInt8} (h : H[p]? = some (lexR b i)) (hb : b.length ≤ 70000) (hl : i < b.length) :
    match nextK b i with
    | some (t, e) => ∃ K, cw0 93 [.ptr p 0] H = some (.ret (.tup [tokA t.1 t.2.1 t.2.2, litB true]), K) ∧ Upd H K p (lexR b e)
    | none => ∃ k K, cw0 93 [.ptr p 0] H = some (.ret (.tup [tokA k (bs []) i, litB false]), K) ∧ Upd H K p (lexR b i) := by
  have hpl := (List.getElem?_eq_some_iff.1 h).1
  have hi : i ≤ b.length := by omega
  have pre := pre77 h hl
  have hp : (H ++ [tokR 0 (bs []) 0] ++ [tokR 0 (bs []) i])[p]? = some (lexR b i) := get_app (get_app h)
  have hA : (H ++ [tokR 0 (bs []) 0] ++ [tokR 0 (bs []) i])[H.length]? = some (tokR 0 (bs []) 0) := get_app (get_last H _)
  have hB : (H ++ [tokR 0 (bs []) 0] ++ [tokR 0 (bs []) i])[(H ++ [tokR 0 (bs []) 0]).length]? = some (tokR 0 (bs []) i) := get_last _ _
  have hBl : (H ++ [tokR 0 (bs []) 0]).length = H.length + 1 := by simp
  rw [hBl] at pre hB
  have pA : p ≠ H.length := by omega
  have pB : p ≠ H.length + 1 := by omega
  have AB : H.length ≠ H.length + 1 := by omega
  have rest : ∀ {K : List AO}, Rest (H ++ [tokR 0 (bs []) 0] ++ [tokR 0 (bs []) i]) K p H.length (H.length + 1) → ∀ r x, r ≠ p → H[r]? = some x → K[r]? = some x := by
    intro K R r x hr hx
    have := (List.getElem?_eq_some_iff.1 hx).1
    exact R r x hr (by omega) (by omega) (get_app (get_app hx))
  have good : ∀ (k : Int) (e : Nat) (x : Fr) (K : List AO), (x = [] ∨ x = [(47, litB false)] ∨ x = [(63, litB false)]) → i < e → e ≤ b.length →
      codeW cw0 (lookM mtl) mds sw77 (fr77 p H.length (H.length + 1) i [(19, litI .i64 (kindK (pk b i)))]) (H ++ [tokR 0 (bs []) 0] ++ [tokR 0 (bs []) i]) = some (.normal, fr77 p H.length (H.length + 1) i x, K) →
      K[p]? = some (lexR b e) → K[H.length]? = some (tokR 0 (bs []) 0) → K[H.length + 1]? = some (tokR k (bs []) i) → Rest (H ++ [tokR 0 (bs []) 0] ++ [tokR 0 (bs []) i]) K p H.length (H.length + 1) →
      ∃ K', cw0 93 [.ptr p 0] H = some (.ret (.tup [tokA (if k = 1 ∧ wordK (textOf b i e) = true then 4 else k) (textOf b i e) i, litB true]), K') ∧ Upd H K' p (lexR b e) := by
    intro k e x K hx h1 h2 hs g1 g2 g3 g4
    obtain ⟨K', t1, t2, t3, t4⟩ := tail77 x hx g1 g2 g3 (by omega) h2 pA pB AB
    refine ⟨K', ?_, t2, fun r y hr hy => ?_⟩
    · refine cw0_of fn93 (c := c93) rfl rfl rfl rfl ?_
      rw [pre, hs, thenS_normal]
      rw [show fr77 p H.length (H.length + 1) i x = (0, .ptr p 0) :: (2, .ptr H.length 0) :: (4, litI .i64 i) :: (5, .ptr (H.length + 1) 0) :: x from rfl, t1]
      exact fin77 (fr := []) t3
    · have := (List.getElem?_eq_some_iff.1 hy).1
      exact t4 r y hr (by omega) (by omega) (rest g4 r y hr hy)
  have badE : ∀ (k : Int) (K : List AO), codeW cw0 (lookM mtl) mds sw77 (fr77 p H.length (H.length + 1) i [(19, litI .i64 (kindK (pk b i)))]) (H ++ [tokR 0 (bs []) 0] ++ [tokR 0 (bs []) i]) = some (.ret, [(2, .ptr H.length 0), (3, litB false)], K) →
      K[p]? = some (lexR b i) → K[H.length]? = some (tokR k (bs []) i) → Rest (H ++ [tokR 0 (bs []) 0] ++ [tokR 0 (bs []) i]) K p H.length (H.length + 1) →
      ∃ k K, cw0 93 [.ptr p 0] H = some (.ret (.tup [tokA k (bs []) i, litB false]), K) ∧ Upd H K p (lexR b i) := by
    intro k K hs g1 g2 g3
    refine ⟨k, K, ?_, g1, rest g3⟩
    refine cw0_of fn93 (c := c93) rfl rfl rfl rfl ?_
    rw [pre, hs, thenS_ret]
    exact fin77 (fr := []) g2
  unfold nextK
  cases hn : nextF b i with
  | some q =>
    obtain ⟨k, e⟩ := q
    have le := nextF_le hl hn
    simp only [Option.map_some]
    unfold nextF at hn
    split at hn
    · rename_i hk
      simp only [sI, Prod.mk.injEq] at hn
      obtain ⟨rfl, rfl⟩ := hn
      obtain ⟨K, g0, g1, g2, g3, g4⟩ := sw77_name (kk := kindK (pk b i)) (k' := 1) (.inl ⟨hk, rfl⟩) hb hi hp hA hB pA pB AB
      exact good 1 _ [] K (.inl rfl) le.1 le.2 g0 g1 g2 g3 g4
    · split at hn
      · rename_i hk
        simp only [sI, Prod.mk.injEq] at hn
        obtain ⟨rfl, rfl⟩ := hn
        obtain ⟨K, g0, g1, g2, g3, g4⟩ := sw77_name (kk := kindK (pk b i)) (k' := 2) (.inr ⟨hk, rfl⟩) hb hi hp hA hB pA pB AB
        exact good 2 _ [] K (.inl rfl) le.1 le.2 g0 g1 g2 g3 g4
      · split at hn
        · rename_i hk
          simp only [sI, Prod.mk.injEq] at hn
          obtain ⟨rfl, rfl⟩ := hn
          obtain ⟨x, K, hx, g0, g1, g2, g3, g4⟩ := sw77_num hb hi hp hA hB pA pB AB
          rw [← hk] at g0
          exact good 3 _ x K hx le.1 le.2 g0 g1 g2 g3 g4
        · split at hn
          · rename_i hk
            rw [Option.map_eq_some_iff] at hn
            obtain ⟨e', h1, h2⟩ := hn
            simp only [Prod.mk.injEq] at h2
            obtain ⟨rfl, rfl⟩ := h2
            obtain ⟨K, g0, g1, g2, g3, g4⟩ := sw77_sign h1 hb hi hp hA hB pA pB AB
            rw [← hk] at g0
            exact good 5 _ _ K (.inr (.inr rfl)) le.1 le.2 g0 g1 g2 g3 g4
          · cases hn
  | none =>
    simp only [Option.map_none]
    unfold nextF at hn
    split at hn
    · cases hn
    · rename_i k2
      split at hn
      · cases hn
      · rename_i k3
        split at hn
        · cases hn
        · rename_i k4
          split at hn
          · rename_i hk
            rw [Option.map_eq_none_iff] at hn
            obtain ⟨K, g0, g1, g2, g3⟩ := sw77_nosign hn hb hi hp hA hB pA pB AB
            rw [← hk] at g0
            exact badE 5 K g0 g1 g2 g3
          · rename_i k5
            obtain ⟨K, g0, g1, g2, g3⟩ := sw77_none (beq_eq_false_iff_ne.2 k2) (beq_eq_false_iff_ne.2 k3) (beq_eq_false_iff_ne.2 k4) (beq_eq_false_iff_ne.2 k5) hp hA hB pA pB AB
            exact badE 0 K g0 g1 g2 g3
end
section
abbrev Tk := Int × ByteArray × Nat
def tcells (t : Tk) : List AV := [litI .i64 t.1, litS t.2.1, litI .i64 t.2.2]
def flatT (l : List Tk) : List AV := (l.map tcells).flatten
theorem flatT_len : ∀ l : List Tk, (flatT l).length = l.length * 3
  | [] => rfl
  | t :: r => by
    have := flatT_len r
    unfold flatT at this ⊢
    rw [List.map_cons, List.flatten_cons, List.length_append, this, List.length_cons]
    show 3 + _ = _
    omega
theorem flatT_snoc (l : List Tk) (t : Tk) : flatT (l ++ [t]) = flatT l ++ tcells t := by
  unfold flatT; simp
theorem flatT_whole : ∀ l : List Tk, (flatT l).all whole = true
  | [] => rfl
  | t :: r => by
    have := flatT_whole r
    unfold flatT at this ⊢
    rw [List.map_cons, List.flatten_cons, List.all_append, this]; rfl
theorem chunksT : ∀ l : List Tk, chunks 3 l.length (flatT l) = l.map tcells
  | [] => rfl
  | t :: r => by
    have := chunksT r
    rw [List.length_cons, chunks]
    have e : flatT (t :: r) = tcells t ++ flatT r := by unfold flatT; rfl
    rw [e]
    show List.take (tcells t).length (tcells t ++ flatT r) :: chunks 3 r.length (List.drop (tcells t).length (tcells t ++ flatT r)) = _
    rw [List.take_left, List.drop_left, this]; rfl
theorem mapR_whole3 {H : List AO} {k : Nat} : ∀ (n : Nat) (cs : List AV), cs.all whole = true → mapR (frz H (k + 1)) 3 n cs = some (chunks 3 n cs, [])
  | 0, _, _ => rfl
  | n + 1, cs, h => by
    have h1 : (cs.take 3).all whole = true := by
      rw [List.all_eq_true] at h ⊢; exact fun a ha => h a (List.mem_of_mem_take ha)
    have h2 : (cs.drop 3).all whole = true := by
      rw [List.all_eq_true] at h ⊢; exact fun a ha => h a (List.mem_of_mem_drop ha)
    simp only [mapR, mapL_whole h1, mapR_whole3 n _ h2, Option.bind_some, chunks]
    rfl
theorem frz_toks {H : List AO} {q k : Nat} {l : List Tk} (h : H[q]? = some (.row (flatT l) 96)) : frz H (k + 2) (.own q 0 l.length 3 none) = some (.sl 3 (l.map tcells) none, [q]) := by
  have hb : Nat.ble (0 + l.length * 3) (flatT l).length = true := Nat.ble_eq_true_of_le (by rw [flatT_len]; omega)
  rw [frz]
  simp only [h, hb, cond_true, List.drop_zero, mapR_whole3 l.length _ (flatT_whole l), Option.bind_some, chunksT]
def OutOk (K : List AO) (A : AV) (l : List Tk) (p : Nat) : Prop := (l = [] ∧ A = .sl 0 [] (some 0)) ∨ ∃ q, q ≠ p ∧ A = .own q 0 l.length 3 none ∧ K[q]? = some (.row (flatT l) 96)
theorem OutOk.upd {K K' : List AO} {A : AV} {l : List Tk} {p : Nat} {o : AO} (h : OutOk K A l p) (U : Upd K K' p o) : OutOk K' A l p := by
  rcases h with h | ⟨q, h1, h2, h3⟩
  · exact .inl h
  · exact .inr ⟨q, h1, h2, U.2 q _ h1 h3⟩
theorem OutOk.app {K : List AO} {A : AV} {l : List Tk} {p : Nat} (x : AO) (h : OutOk K A l p) : OutOk (K ++ [x]) A l p := by
  rcases h with h | ⟨q, h1, h2, h3⟩
  · exact .inl h
  · exact .inr ⟨q, h1, h2, get_app h3⟩
theorem app_out {K : List AO} {A : AV} {l : List Tk} {p : Nat} {X : AO} (h : OutOk K A l p) (hp : K[p]? = some X) (t : Tk) (c : Option Nat) (hl : l.length ≤ 70001) :
    ∃ A' K', (∀ (d : Option Nat) (fr : Fr) (k : Fr → List AO → Option S), opS (append K K.length 3 32 96 A (.sl 3 [tcells t] c)) d fr K k = k (putD fr d A') K') ∧ OutOk K' A' (l ++ [t]) p ∧ (∃ q, A' = .own q 0 (l ++ [t]).length 3 none ∧ K'[q]? = some (.row (flatT (l ++ [t])) 96)) ∧ K'[p]? = some X := by
  have hpl := (List.getElem?_eq_some_iff.1 hp).1
  rcases h with ⟨rfl, rfl⟩ | ⟨q, h1, rfl, h3⟩
  · refine ⟨.own K.length 0 1 3 none, K ++ [.row (tcells t) 96], fun d fr k => rfl, .inr ⟨K.length, by omega, rfl, ?_⟩, ⟨K.length, rfl, ?_⟩, get_app hp⟩
    · rw [get_last]; unfold flatT; simp
    · rw [get_last]; unfold flatT; simp
  · have hg : (setL K q .dead ++ [.row (flatT (l ++ [t])) 96])[K.length]? = some (.row (flatT (l ++ [t])) 96) := by
      have := get_last (setL K q .dead) (.row (flatT (l ++ [t])) 96)
      rwa [setL_len] at this
    refine ⟨.own K.length 0 (l ++ [t]).length 3 none, setL K q .dead ++ [.row (flatT (l ++ [t])) 96], fun d fr k => ?_, .inr ⟨K.length, by omega, rfl, hg⟩, ⟨K.length, rfl, hg⟩, get_app (setL_get (fun e => h1 e.symm) hp)⟩
    have b1 : Nat.ble (l.length * 3) (flatT l).length = true := Nat.ble_eq_true_of_le (by rw [flatT_len]; omega)
    have b2 : Nat.ble ((l.length + 1) * 32) 140737488355328 = true := Nat.ble_eq_true_of_le (by omega)
    have tk : (flatT l).take (l.length * 3) = flatT l := List.take_of_length_le (by rw [flatT_len]; omega)
    have e : append K K.length 3 32 96 (.own q 0 l.length 3 none) (.sl 3 [tcells t] c) = some (.wr (.own K.length 0 (l ++ [t]).length 3 none) (setL K q .dead ++ [.row (flatT (l ++ [t])) 96])) := by
      unfold append
      simp only [elems, BEq.rfl, Bool.true_or, cond_true, Option.bind_some, List.length_cons, List.length_nil, Nat.zero_add, Nat.reduceBEq, cond_false, rowAt_of h3, b1, b2, Bool.and_self, List.drop_zero, tk, List.flatten_cons, List.flatten_nil, List.append_nil]
      rw [flatT_snoc]
      simp
    rw [e, opS_wr]
def toksN (b : List UInt8) : Nat → Nat → Except Nat (List Tk)
  | 0, _ => .ok []
  | n + 1, i => if i < b.length then (match nextK b i with
    | none => .error i
    | some (t, e) => match toksN b n (skipF b e) with
      | .error q => .error q
      | .ok l => .ok (t :: l)) else .ok []
def toksF (b : List UInt8) : Except Nat (List Tk) := toksN b b.length (skipF b 0)
theorem nextK_le {b : List UInt8} {i e : Nat} {t : Tk} (hl : i < b.length) (h : nextK b i = some (t, e)) : i < e ∧ e ≤ b.length := by
  unfold nextK at h
  rw [Option.map_eq_some_iff] at h
  obtain ⟨⟨k, e'⟩, h1, h2⟩ := h
  simp only [Prod.mk.injEq] at h2
  obtain ⟨_, rfl⟩ := h2
  exact nextF_le hl h1
theorem skipF_le {b : List UInt8} {i : Nat} (hi : i ≤ b.length) : skipF b i ≤ b.length ∧ i ≤ skipF b i := skipN_le b _ i hi
theorem tok_store {H : List AO} {k : Int} {s : ByteArray} {i : Nat} : storeAt (H ++ [.row [litI .i64 0, litS (bs []), litI .i64 0] 96]) 3 (.ptr H.length 0) (tokA k s i) = some (H ++ [tokR k s i]) := by
  unfold tokA
  rw [storeAt_agg (n := 3) (xs := [litI .i64 k, litS s, litI .i64 i]) (get_last H _) rfl rfl rfl, setL_last]; rfl
theorem bsl_tok {H : List AO} {id : Nat} {fr : Fr} {x : X} {k : Int} {s : ByteArray} {i : Nat} (hx : ev fr x = tokA k s i) : core cw0 (lookM mtl) mds H id (.bslice false 3 1 [litI .i64 0, litS (bs []), litI .i64 0] [(0, x)] 96) fr = some (.val (.sl 3 [tcells (k, s, i)] (some 1)) none) := by
  simp only [core, List.map_cons, List.map_nil, hx]
  rfl
theorem toks_loop {b : List UInt8} (hb : b.length ≤ 65536) : ∀ (n i : Nat) (A : AV) (l : List Tk) (K : List AO), b.length - i ≤ n → i ≤ b.length → l.length ≤ i → K[0]? = some (lexR b i) → OutOk K A l 0 →
    match toksN b n i with
    | .ok l' => ∃ A' x K', loopW (codeW cw0 (lookM mtl) mds c88l0) [0, 5, 6] [(0, bytesA b), (5, .ptr 0 0), (6, A)] K = some (.exit 0, [(0, bytesA b), (5, .ptr 0 0), (6, A'), (23, x)], K') ∧ OutOk K' A' (l ++ l') 0 ∧ (l ++ l').length ≤ b.length ∧ ∃ X, K'[0]? = some X
    | .error q => ∃ K', loopW (codeW cw0 (lookM mtl) mds c88l0) [0, 5, 6] [(0, bytesA b), (5, .ptr 0 0), (6, A)] K = some (.ret, [(2, .sl 0 [] (some 0)), (3, litI .i64 40), (4, litI .i64 q)], K')
  | n, i, A, l, K, hn, hi, hll, hp, hO => by
    have l1 := lx1 hp
    by_cases hl : i < b.length
    case neg =>
      have e : toksN b n i = .ok [] := by
        cases n with
        | zero => rfl
        | succ n => rw [toksN, if_neg hl]
      rw [e]
      refine ⟨A, litB false, K, ?_, by rw [List.append_nil]; exact hO, by rw [List.append_nil]; omega, _, hp⟩
      refine loopW_out ?_ (by simp)
      simp -implicitDefEqProofs only [c88l0, aW, ↓aP, makes, reduceLT, reduceEqDiff, reduceAdd, ↓reduceIte, Nat.reduceBEq, nilck_ptr, fadr_ptr, l1, lenV_bytes, show ¬ ((i : Int) < b.length) by omega]
    have hlt : (i : Int) < b.length := by omega
    obtain ⟨n, rfl⟩ : ∃ m, n = m + 1 := ⟨n - 1, by omega⟩
    rw [toksN, if_pos hl]
    have N := next_tells hp (by omega) hl
    cases hk : nextK b i with
    | none =>
      rw [hk] at N
      obtain ⟨k, K1, c1, U1⟩ := N
      obtain ⟨K2, c2, U2⟩ := callV_upd (id := K.length) rfl c1 hp U1
      have t2 : Ai.load (K2 ++ [tokR k (bs []) i]) none (.ptr K2.length 2) = some (litI .i64 i) := tk2 (get_last K2 _)
      simp only
      refine ⟨K2 ++ [tokR k (bs []) i], ?_⟩
      refine loopW_out ?_ (by simp)
      simp -implicitDefEqProofs only [c88l0, aW, ↓aP, makes, reduceLT, reduceEqDiff, reduceAdd, ↓reduceIte, Nat.reduceBEq, nilck_ptr, fadr_ptr, l1, lenV_bytes, hlt, c2, tok_store, t2]
    | some te =>
      obtain ⟨t, e⟩ := te
      rw [hk] at N
      obtain ⟨K1, c1, U1⟩ := N
      obtain ⟨K2, c2, U2⟩ := callV_upd (id := K.length) rfl c1 hp U1
      have le := nextK_le hl hk
      have t3 : Ai.load (K2 ++ [tokR t.1 t.2.1 t.2.2]) (some 3) (.ptr K2.length 0) = some (tokA t.1 t.2.1 t.2.2) := tk3 (get_last K2 _)
      have O3 := (hO.upd U2).app (tokR t.1 t.2.1 t.2.2)
      obtain ⟨A4, K4, ap, O4, _, hp4⟩ := app_out O3 (get_app U2.1) t (some 1) (by omega)
      obtain ⟨K5, c5, U5⟩ := skip_call hp4 (by omega) le.2 K4.length
      have sle := skipF_le le.2
      have IH := toks_loop hb n (skipF b e) A4 (l ++ [t]) K5 (by omega) sle.1 (by rw [List.length_append]; simp only [List.length_cons, List.length_nil]; omega) U5.1 (O4.upd U5)
      have bt : ∀ {H : List AO} {id : Nat} {fr : Fr} (x : X), ev fr x = tokA t.1 t.2.1 t.2.2 → core cw0 (lookM mtl) mds H id (.bslice false 3 1 [litI .i64 0, litS (bs []), litI .i64 0] [(0, x)] 96) fr = some (.val (.sl 3 [tcells t] (some 1)) none) := fun x hx => bsl_tok hx
      have step : codeW cw0 (lookM mtl) mds c88l0 (keep [0, 5, 6] [(0, bytesA b), (5, .ptr 0 0), (6, A)]) K = some (.normal, [(0, bytesA b), (5, .ptr 0 0), (6, A4)], K5) := by
        simp -implicitDefEqProofs only [c88l0, aW, ↓aP, makes, reduceLT, reduceEqDiff, reduceAdd, ↓reduceIte, Nat.reduceBEq, nilck_ptr, fadr_ptr, l1, lenV_bytes, hlt, c2, tok_store, t3, bt, core_app, ap, c5]
      simp only
      cases hr : toksN b n (skipF b e) with
      | error q =>
        rw [hr] at IH
        obtain ⟨K', L⟩ := IH
        exact ⟨K', loopW_round step L⟩
      | ok l' =>
        rw [hr] at IH
        obtain ⟨A', x, K', L, O', hlen, X, hX⟩ := IH
        rw [List.append_assoc, List.singleton_append] at O' hlen
        exact ⟨A', x, K', loopW_round step L, O', hlen, X, hX⟩
  termination_by n => n
end
section
theorem core_buildL {H : List AO} {id : Nat} {fr : Fr} {x : X} {b : List UInt8} (hx : ev fr x = bytesA b) : core cw0 (lookM mtl) mds H id (.build [.sl 0 [] (some 0), litI .i64 0] [(0, 1, x)]) fr = some (.val (.agg [bytesA b, litI .i64 0]) none) := by
  simp only [core, List.map_cons, List.map_nil, hx]
  rfl
theorem box_lex (b : List UInt8) (id : Nat) : boxV id 2 (.agg [bytesA b, litI .i64 0]) 139 = some (.val (.ptr id 0) (some (lexR b 0))) := rfl
def toksOut (b : List UInt8) : AV := match toksF b with
  | .ok l => .tup [.sl 3 ((l ++ [((0 : Int), bs [], b.length)]).map tcells) none, litI .i64 0, litI .i64 0]
  | .error q => .tup [.sl 0 [] (some 0), litI .i64 40, litI .i64 (q : Nat)]
theorem toks_call (b : List UInt8) (hb : b.length ≤ 65536) (H : List AO) (id : Nat) : callV cw0 mds 88 [bytesA b] H id = some (.val (toksOut b) none) := by
  have h0 : ([lexR b 0])[0]? = some (lexR b 0) := rfl
  obtain ⟨K1, c1, U1⟩ := skip_call (p := 0) (i := 0) h0 (by omega) (Nat.zero_le _) 1
  have sle := skipF_le (b := b) (i := 0) (Nat.zero_le _)
  have L := toks_loop hb b.length (skipF b 0) (.sl 0 [] (some 0)) [] K1 (by omega) sle.1 (by simp) U1.1 (.inl ⟨rfl, rfl⟩)
  have hgt : ¬ ((65536 : Int) < b.length) := by omega
  have bl : ∀ {H : List AO} {id : Nat} {fr : Fr} (x : X), ev fr x = bytesA b → core cw0 (lookM mtl) mds H id (.build [.sl 0 [] (some 0), litI .i64 0] [(0, 1, x)]) fr = some (.val (.agg [bytesA b, litI .i64 0]) none) := fun x hx => core_buildL hx
  unfold toksOut toksF
  cases hr : toksN b b.length (skipF b 0) with
  | error q =>
    rw [hr] at L
    obtain ⟨K2, L⟩ := L
    have : ∃ H', cw0 88 [bytesA b] [] = some (.ret (.tup [.sl 0 [] (some 0), litI .i64 40, litI .i64 (q : Nat)]), H') := by
      refine cw0_ret fn88 (c := c88) rfl rfl rfl rfl ?_
      simp -implicitDefEqProofs only [c88, aW, ↓aP, makes, reduceLT, reduceEqDiff, reduceAdd, ↓reduceIte, Nat.reduceBEq, lenV_bytes, hgt, bl, core_box, List.length_nil, box_lex, List.length_cons, c1, L]
      rfl
    obtain ⟨H', this⟩ := this
    exact callV_pureT rfl rfl this rfl
  | ok l =>
    rw [hr] at L
    simp only [List.nil_append] at L
    obtain ⟨A2, x2, K2, L, O2, hlen, Y, hX⟩ := L
    obtain ⟨A3, K3, ap, _, ⟨q, rfl, hq⟩, _⟩ := app_out O2 hX ((0 : Int), bs [], b.length) (some 1) (by omega)
    have bt : ∀ {H : List AO} {id : Nat} {fr : Fr} (x : X), ev fr x = tokA 0 (bs []) b.length → core cw0 (lookM mtl) mds H id (.bslice false 3 1 [litI .i64 0, litS (bs []), litI .i64 0] [(0, x)] 96) fr = some (.val (.sl 3 [tcells ((0 : Int), bs [], b.length)] (some 1)) none) := fun x hx => bsl_tok hx
    have this : cw0 88 [bytesA b] [] = some (.ret (.tup [.own q 0 (l ++ [((0 : Int), bs [], b.length)]).length 3 none, litI .i64 0, litI .i64 0]), K3) := by
      refine cw0_of fn88 (c := c88) rfl rfl rfl rfl ?_
      simp -implicitDefEqProofs only [c88, aW, ↓aP, makes, reduceLT, reduceEqDiff, reduceAdd, ↓reduceIte, Nat.reduceBEq, lenV_bytes, hgt, bl, core_box, List.length_nil, box_lex, List.length_cons, c1, L, core_build3, build3V_tok, bt, core_app, ap]
      rfl
    have fz := frz_toks (k := 13) hq
    unfold callV
    rw [show mds 88 = .pure from rfl]
    simp only
    rw [show mapL (frz H frzF) [bytesA b] = some ([bytesA b], []) from rfl]
    simp only [Option.bind_some]
    rw [this]
    simp only [Option.bind_some]
    rw [show frzF = 15 + 1 from rfl, frz]
    simp only [mapL, fz, Option.bind_some]
    rfl
def rightL (k : Int) (s : ByteArray) : Bool := match toksF s.data.toList with
  | .ok [t] => t.1 == k && sEq t.2.1 s
  | _ => false
theorem box_tok (k : Int) (s : ByteArray) (i : Nat) (id : Nat) : boxV id 3 (tokA k s i) 96 = some (.val (.ptr id 0) (some (tokR k s i))) := rfl
theorem convV_bytesA (H : List AO) (s : ByteArray) : convV H .toBytes (litS s) = some (.val (bytesA s.data.toList) none) := rfl
theorem right_call (k : Int) (s : ByteArray) (hs : s.size ≤ 65536) (H : List AO) (id : Nat) : callV cw0 mds 81 [tokA k s 0] H id = some (.val (litB (rightL k s)) none) := by
  have hl : s.data.toList.length = s.size := by simp
  have tc := toks_call s.data.toList (by omega)
  have k0 := tk0 (H := [tokR k s 0]) (p := 0) rfl
  have k1 := tk1 (H := [tokR k s 0]) (p := 0) rfl
  have key : ∃ H', cw0 81 [tokA k s 0] [] = some (.ret (litB (rightL k s)), H') := by
    unfold toksOut at tc
    unfold rightL
    cases hr : toksF s.data.toList with
    | error q =>
      rw [hr] at tc
      simp only at tc
      refine cw0_ret fn81 (c := c81) rfl rfl rfl rfl ?_
      simp -implicitDefEqProofs only [c81, aW, ↓aP, makes, reduceLT, reduceEqDiff, reduceAdd, ↓reduceIte, Nat.reduceBEq, core_box, box_tok, List.length_nil, fadr_ptr, k0, k1, core_convV, convV_bytesA, tc, lenV_sl, Int.reduceBEq]
      rfl
    | ok l =>
      rw [hr] at tc
      simp only at tc
      match l with
      | [t] =>
        have ia : ∀ k, iadr 3 (.sl 3 (([t] ++ [((0 : Int), bs [], s.data.toList.length)]).map tcells) none) (litI k 0) = some (.ip (tcells t)) := fun k => rfl
        have f1 : fadr 1 (.ip (tcells t)) = some (.ip [litS t.2.1, litI .i64 t.2.2]) := rfl
        have f0 : fadr 0 (.ip (tcells t)) = some (.ip (tcells t)) := rfl
        have g0 : (tcells t).head? = some (litI .i64 t.1) := rfl
        have hlen : lenV (.sl 3 (([t] ++ [((0 : Int), bs [], s.data.toList.length)]).map tcells) none) = some (litI .i64 2) := rfl
        simp only
        refine cw0_ret fn81 (c := c81) rfl rfl rfl rfl ?_
        generalize (AV.sl 3 (([t] ++ [((0 : Int), bs [], s.data.toList.length)]).map tcells) none) = S at tc ia hlen
        have es : sEq t.2.1 s = (t.2.1.data.toList == s.data.toList) := rfl
        rw [es]
        cases e1 : (t.1 == k) with
        | false =>
          simp -implicitDefEqProofs only [c81, aW, ↓aP, makes, reduceLT, reduceEqDiff, reduceAdd, ↓reduceIte, Nat.reduceBEq, core_box, box_tok, List.length_nil, fadr_ptr, k0, k1, core_convV, convV_bytesA, tc, hlen, ia, f0, f1, g0, e1, bin_eqlS, Int.reduceBEq, Bool.false_and]
          rfl
        | true =>
          simp -implicitDefEqProofs only [c81, aW, ↓aP, makes, reduceLT, reduceEqDiff, reduceAdd, ↓reduceIte, Nat.reduceBEq, core_box, box_tok, List.length_nil, fadr_ptr, k0, k1, core_convV, convV_bytesA, tc, hlen, ia, f0, f1, g0, e1, bin_eqlS, Int.reduceBEq, Bool.true_and]
          rfl
      | [] =>
        have hlen : lenV (.sl 3 (([] ++ [((0 : Int), bs [], s.data.toList.length)]).map tcells) none) = some (litI .i64 1) := rfl
        generalize (AV.sl 3 (([] ++ [((0 : Int), bs [], s.data.toList.length)]).map tcells) none) = S at tc hlen
        refine cw0_ret fn81 (c := c81) rfl rfl rfl rfl ?_
        simp -implicitDefEqProofs only [c81, aW, ↓aP, makes, reduceLT, reduceEqDiff, reduceAdd, ↓reduceIte, Nat.reduceBEq, core_box, box_tok, List.length_nil, fadr_ptr, k0, k1, core_convV, convV_bytesA, tc, hlen, Int.reduceBEq]
        rfl
      | t :: u :: r =>
        have hlen : lenV (.sl 3 (((t :: u :: r) ++ [((0 : Int), bs [], s.data.toList.length)]).map tcells) none) = some (litI .i64 (r.length + 3 : Nat)) := by
          have e : (((t :: u :: r) ++ [((0 : Int), bs [], s.data.toList.length)]).map tcells).length = r.length + 3 := by simp
          rw [lenV_sl, e]
        have e2 : (((r.length + 3 : Nat) : Int) == 2) = false := beq_eq_false_iff_ne.2 (by omega)
        generalize (AV.sl 3 (((t :: u :: r) ++ [((0 : Int), bs [], s.data.toList.length)]).map tcells) none) = S at tc hlen
        refine cw0_ret fn81 (c := c81) rfl rfl rfl rfl ?_
        simp -implicitDefEqProofs only [c81, aW, ↓aP, makes, reduceLT, reduceEqDiff, reduceAdd, ↓reduceIte, Nat.reduceBEq, core_box, box_tok, List.length_nil, fadr_ptr, k0, k1, core_convV, convV_bytesA, tc, hlen, e2, Int.reduceBEq]
        rfl
  obtain ⟨H', key⟩ := key
  exact callV_pureA rfl rfl key rfl
theorem core_buildK {H : List AO} {id : Nat} {fr : Fr} {x y : X} {k : Int} {s : ByteArray} (hx : ev fr x = litI .i64 k) (hy : ev fr y = litS s) : core cw0 (lookM mtl) mds H id (.build [litI .i64 0, litS (bs []), litI .i64 0] [(0, 1, x), (1, 1, y)]) fr = some (.val (tokA k s 0) none) := by
  simp only [core, List.map_cons, List.map_nil, hx, hy]
  rfl
theorem token_call (k : Int) (s : ByteArray) (hs : s.size ≤ 65536) (H : List AO) (id : Nat) : callV cw0 mds 75 [litI .i64 k, litS s] H id = some (.val (litB (rightL k s)) none) := by
  have rc := right_call k s hs
  have bk : ∀ {H : List AO} {id : Nat} {fr : Fr} (x y : X), ev fr x = litI .i64 k → ev fr y = litS s → core cw0 (lookM mtl) mds H id (.build [litI .i64 0, litS (bs []), litI .i64 0] [(0, 1, x), (1, 1, y)]) fr = some (.val (tokA k s 0) none) := fun x y hx hy => core_buildK hx hy
  have key : ∃ H', cw0 75 [litI .i64 k, litS s] [] = some (.ret (litB (rightL k s)), H') := by
    refine cw0_ret fn75 (c := c75) rfl rfl rfl rfl ?_
    simp -implicitDefEqProofs only [c75, aW, ↓aP, makes, reduceLT, reduceEqDiff, reduceAdd, ↓reduceIte, Nat.reduceBEq, bk, rc]
    rfl
  obtain ⟨H', key⟩ := key
  exact callV_pure rfl rfl key rfl
theorem name_call (s : ByteArray) (hs : s.size ≤ 65536) (H : List AO) (id : Nat) : callV cw0 mds 54 [litS s] H id = some (.val (litB (rightL 1 s)) none) := by
  have rc := token_call 1 s hs
  have key : ∃ H', cw0 54 [litS s] [] = some (.ret (litB (rightL 1 s)), H') := by
    refine cw0_ret fn54 (c := c54) rfl rfl rfl rfl ?_
    simp -implicitDefEqProofs only [c54, aW, ↓aP, makes, reduceLT, reduceEqDiff, reduceAdd, ↓reduceIte, Nat.reduceBEq, rc]
    rfl
  obtain ⟨H', key⟩ := key
  exact callV_pure rfl rfl key rfl
theorem ctor_call (s : ByteArray) (hs : s.size ≤ 65536) (H : List AO) (id : Nat) : callV cw0 mds 53 [litS s] H id = some (.val (litB (rightL 2 s)) none) := by
  have rc := token_call 2 s hs
  have key : ∃ H', cw0 53 [litS s] [] = some (.ret (litB (rightL 2 s)), H') := by
    refine cw0_ret fn53 (c := c53) rfl rfl rfl rfl ?_
    simp -implicitDefEqProofs only [c53, aW, ↓aP, makes, reduceLT, reduceEqDiff, reduceAdd, ↓reduceIte, Nat.reduceBEq, rc]
    rfl
  obtain ⟨H', key⟩ := key
  exact callV_pure rfl rfl key rfl
end
section
def dotF (s : ByteArray) : Int := Lib.indexByte s.data.toList 46
theorem indexByte_lt : ∀ (l : List UInt8) (c : UInt8), -1 ≤ Lib.indexByte l c ∧ Lib.indexByte l c < l.length
  | [], c => by simp [Lib.indexByte]
  | b :: l, c => by
    have := indexByte_lt l c
    unfold Lib.indexByte
    rw [List.length_cons]
    split
    · omega
    · split <;> omega
theorem dotF_rng (s : ByteArray) : -1 ≤ dotF s ∧ dotF s < s.size := by
  have := indexByte_lt s.data.toList 46
  have e : s.data.toList.length = s.size := by simp
  rw [e] at this; exact this
theorem ib72_call (s : ByteArray) (H : List AO) (id : Nat) : callV cw0 mds 82 [litS s, litI .u8 46] H id = some (.val (litI .i64 (dotF s)) none) := by
  have h79 : cw0 89 [litS s, litI .u8 46] [] = some (.ret (litI .i64 (dotF s)), []) := cw0_ov (G := byteG) rfl rfl
  have c89 : ∀ H id, callV cw0 mds 89 [litS s, litI .u8 46] H id = some (.val (litI .i64 (dotF s)) none) := fun H id => callV_pure rfl rfl h79 rfl
  have key : ∃ H', cw0 82 [litS s, litI .u8 46] [] = some (.ret (litI .i64 (dotF s)), H') := by
    refine cw0_ret fn82 (c := c82) rfl rfl rfl rfl ?_
    simp -implicitDefEqProofs only [c82, aW, ↓aP, makes, reduceLT, reduceEqDiff, reduceAdd, ↓reduceIte, Nat.reduceBEq, c89]
    rfl
  obtain ⟨H', key⟩ := key
  exact callV_pure rfl rfl key rfl
theorem ix69_call (s : ByteArray) (H : List AO) (id : Nat) : callV cw0 mds 77 [litS s, litS (bs [46])] H id = some (.val (litI .i64 (dotF s)) none) := by
  have c82' := ib72_call s
  have l1 : lenS (litS (bs [46])) = some (litI .i64 1) := rfl
  have i0 : idxS (litS (bs [46])) (litI .i64 0) = some (litI .u8 46) := rfl
  have key : ∃ H', cw0 77 [litS s, litS (bs [46])] [] = some (.ret (litI .i64 (dotF s)), H') := by
    refine cw0_ret fn77 (c := c77) rfl rfl rfl rfl ?_
    cases he : ((bs [46]).data.toList == s.data.toList) with
    | true =>
      have hz : dotF s = 0 := by
        unfold dotF
        rw [← eq_of_beq he]; rfl
      rw [hz]
      simp -implicitDefEqProofs only [c77, aW, ↓aP, makes, reduceLT, reduceEqDiff, reduceAdd, ↓reduceIte, Nat.reduceBEq, l1, bin_eqlS, he, Int.reduceBEq]
      rfl
    | false =>
      simp -implicitDefEqProofs only [c77, aW, ↓aP, makes, reduceLT, reduceEqDiff, reduceAdd, ↓reduceIte, Nat.reduceBEq, l1, bin_eqlS, he, Int.reduceBEq, i0, c82']
      rfl
  obtain ⟨H', key⟩ := key
  exact callV_pure rfl rfl key rfl
theorem slS_to {s : ByteArray} {n : Nat} (h : n ≤ s.size) {k : IntKind} : sliceS (litS s) none (some (litI k (n : Int))) = some (litS (s.extract 0 n)) := by
  show (cuts s.size none none (some (litI k (n : Int))) none).bind _ = _
  simp only [cuts, bound_nat h, Option.bind_some]
theorem slS_from {s : ByteArray} {n : Nat} (h : n ≤ s.size) {k : IntKind} : sliceS (litS s) (some (litI k (n : Int))) none = some (litS (s.extract n s.size)) := by
  show (cuts s.size none (some (litI k (n : Int))) none none).bind _ = _
  simp only [cuts, bound_nat h, Option.bind_some]
def headS' (s : ByteArray) : ByteArray := if 0 ≤ dotF s then s.extract 0 (dotF s).toNat else s
def tailS' (s : ByteArray) : ByteArray := if 0 ≤ dotF s then s.extract ((dotF s).toNat + 1) s.size else bs []
theorem cut65_call (s : ByteArray) (hs : s.size ≤ 65536) (H : List AO) (id : Nat) : callV cw0 mds 80 [litS s, litS (bs [46])] H id = some (.val (.tup [litS (headS' s), litS (tailS' s), litB (decide (0 ≤ dotF s))]) none) := by
  have ix := ix69_call s
  have l1 : lenS (litS (bs [46])) = some (litI .i64 1) := rfl
  have rng := dotF_rng s
  have key : ∃ H', cw0 80 [litS s, litS (bs [46])] [] = some (.ret (.tup [litS (headS' s), litS (tailS' s), litB (decide (0 ≤ dotF s))]), H') := by
    refine cw0_ret fn80 (c := c80) rfl rfl rfl rfl ?_
    unfold headS' tailS'
    by_cases h : 0 ≤ dotF s
    · rw [if_pos h, if_pos h, decide_eq_true h]
      have e : dotF s = ((dotF s).toNat : Int) := by omega
      have t1 := slS_to (s := s) (n := (dotF s).toNat) (by omega) (k := .i64)
      have t2 := slS_from (s := s) (n := (dotF s).toNat + 1) (by omega) (k := .i64)
      have w := wrap1 (n := (dotF s).toNat) (by omega)
      rw [← e] at t1 w
      simp -implicitDefEqProofs only [c80, aW, ↓aP, makes, reduceLT, reduceEqDiff, reduceAdd, ↓reduceIte, Nat.reduceBEq, ix, h, core_slSV, t1, l1, w, t2]
      rfl
    · rw [if_neg h, if_neg h, decide_eq_false h]
      simp -implicitDefEqProofs only [c80, aW, ↓aP, makes, reduceLT, reduceEqDiff, reduceAdd, ↓reduceIte, Nat.reduceBEq, ix, h, core_slSV]
      rfl
  obtain ⟨H', key⟩ := key
  exact callV_pureT rfl rfl key rfl
theorem cut49_call (s : ByteArray) (hs : s.size ≤ 65536) (H : List AO) (id : Nat) : callV cw0 mds 74 [litS s, litS (bs [46])] H id = some (.val (.tup [litS (headS' s), litS (tailS' s), litB (decide (0 ≤ dotF s))]) none) := by
  have ix := cut65_call s hs
  have key : ∃ H', cw0 74 [litS s, litS (bs [46])] [] = some (.ret (.tup [litS (headS' s), litS (tailS' s), litB (decide (0 ≤ dotF s))]), H') := by
    refine cw0_ret fn74 (c := c74) rfl rfl rfl rfl ?_
    simp -implicitDefEqProofs only [c74, aW, ↓aP, makes, reduceLT, reduceEqDiff, reduceAdd, ↓reduceIte, Nat.reduceBEq, ix]
    rfl
  obtain ⟨H', key⟩ := key
  exact callV_pureT rfl rfl key rfl
def numL (s : ByteArray) : Bool := decide ((headS' s).size ≤ 300 ∧ (tailS' s).size ≤ 300) && rightL 3 s
theorem num_call (s : ByteArray) (hs : s.size ≤ 65536) (H : List AO) (id : Nat) : callV cw0 mds 52 [litS s] H id = some (.val (litB (numL s)) none) := by
  have ct := cut49_call s hs
  have tc := token_call 3 s hs
  have key : ∃ H', cw0 52 [litS s] [] = some (.ret (litB (numL s)), H') := by
    refine cw0_ret fn52 (c := c52) rfl rfl rfl rfl ?_
    have hm : ((bif decide (((tailS' s).size : Int) > ((headS' s).size : Int)) then ((tailS' s).size : Int) else ((headS' s).size : Int)) ≤ 300) ↔ ((headS' s).size ≤ 300 ∧ (tailS' s).size ≤ 300) := by
      by_cases h : ((tailS' s).size : Int) > ((headS' s).size : Int)
      · rw [decide_eq_true h, cond_true]; omega
      · rw [decide_eq_false h, cond_false]; omega
    have hd : decide ((bif decide (((tailS' s).size : Int) > ((headS' s).size : Int)) then ((tailS' s).size : Int) else ((headS' s).size : Int)) ≤ (300 : Int)) = decide ((headS' s).size ≤ 300 ∧ (tailS' s).size ≤ 300) := decide_eq_decide.2 hm
    unfold numL
    rw [← hd]
    cases hx : decide ((bif decide (((tailS' s).size : Int) > ((headS' s).size : Int)) then ((tailS' s).size : Int) else ((headS' s).size : Int)) ≤ 300) with
    | true =>
      simp -implicitDefEqProofs only [c52, aW, ↓aP, makes, reduceLT, reduceEqDiff, reduceAdd, ↓reduceIte, Nat.reduceBEq, ct, lenS_str, core_maxiV, foldI_two, hx, tc]
      rfl
    | false =>
      simp -implicitDefEqProofs only [c52, aW, ↓aP, makes, reduceLT, reduceEqDiff, reduceAdd, ↓reduceIte, Nat.reduceBEq, ct, lenS_str, core_maxiV, foldI_two, hx, tc]
      rfl
  obtain ⟨H', key⟩ := key
  exact callV_pure rfl rfl key rfl
end
section
def unL : List ByteArray := [bs [45], bs [110, 111, 116], bs [112, 114, 101], bs [102, 108, 111, 111, 114], bs [114, 97, 116]]
def biL : List ByteArray := [bs [43], bs [45], bs [42], bs [47], bs [100, 105, 118], bs [109, 111, 100], bs [60], bs [60, 61], bs [62], bs [62, 61], bs [61, 61], bs [33, 61], bs [97, 110, 100], bs [111, 114], bs [102, 98, 121], bs [45, 62]]
def ownB (k : Int) (n : ByteArray) (len : Nat) : Bool :=
  if k = 1 then (len == 0) && (isS n [116, 114, 117, 101] || isS n [102, 97, 108, 115, 101])
  else if k = 2 then (len == 0) && numL n
  else if k = 3 then (len == 0) && rightL 2 n
  else if k = 4 ∨ k = 5 then (len == 0) && rightL 1 n
  else if k = 6 then (len == 1) && unL.any (sEq n)
  else if k = 7 then (len == 2) && biL.any (sEq n)
  else if k = 9 then rightL 1 n
  else if k = 8 then isS n [] && (len == 3)
  else if k = 10 then isS n [] && (len == 1)
  else if k = 11 then isS n [] && decide (2 ≤ len)
  else false
theorem bu {H : List AO} {id : Nat} {fr : Fr} : core cw0 (lookM mtl) mds H id (.bslice false 1 5 [litS (bs [])] [(0, .k (litS (bs [45]))), (1, .k (litS (bs [110, 111, 116]))), (2, .k (litS (bs [112, 114, 101]))), (3, .k (litS (bs [102, 108, 111, 111, 114]))), (4, .k (litS (bs [114, 97, 116])))] 9) fr = some (.val (rowS (some 5) unL) none) := by kernel_rfl
theorem bb {H : List AO} {id : Nat} {fr : Fr} : core cw0 (lookM mtl) mds H id (.bslice false 1 16 [litS (bs [])] [(0, .k (litS (bs [43]))), (1, .k (litS (bs [45]))), (2, .k (litS (bs [42]))), (3, .k (litS (bs [47]))), (4, .k (litS (bs [100, 105, 118]))), (5, .k (litS (bs [109, 111, 100]))), (6, .k (litS (bs [60]))), (7, .k (litS (bs [60, 61]))), (8, .k (litS (bs [62]))), (9, .k (litS (bs [62, 61]))), (10, .k (litS (bs [61, 61]))), (11, .k (litS (bs [33, 61]))), (12, .k (litS (bs [97, 110, 100]))), (13, .k (litS (bs [111, 114]))), (14, .k (litS (bs [102, 98, 121]))), (15, .k (litS (bs [45, 62])))] 9) fr = some (.val (rowS (some 16) biL) none) := by kernel_rfl
theorem core_lkp {H : List AO} {id : Nat} {fr : Fr} (kk : KK) (ok : Bool) (z : AV) (m x : X) : core cw0 (lookM mtl) mds H id (.lkp kk ok z m x) fr = valO (lkpV H kk ok z (ev fr m) (ev fr x)) := rfl
theorem core_mup {H : List AO} {id : Nat} {fr : Fr} (kk : KK) (m k x : X) : core cw0 (lookM mtl) mds H id (.mup kk m k x) fr = wrO .any (mupH H kk (ev fr m) (ev fr k) (ev fr x)) := rfl
def mp26 : AO := .mp [(.int .i64 8, litI .i64 3), (.int .i64 10, litI .i64 1), (.int .i64 11, litI .i64 2)]
theorem mu1 (o : AO) : mupH [o, .mp []] (.int .i64) (.mpv 1) (litI .i64 8) (litI .i64 3) = some [o, .mp [(.int .i64 8, litI .i64 3)]] := rfl
theorem mu2 (o : AO) : mupH [o, .mp [(.int .i64 8, litI .i64 3)]] (.int .i64) (.mpv 1) (litI .i64 10) (litI .i64 1) = some [o, .mp [(.int .i64 8, litI .i64 3), (.int .i64 10, litI .i64 1)]] := rfl
theorem mu3 (o : AO) : mupH [o, .mp [(.int .i64 8, litI .i64 3), (.int .i64 10, litI .i64 1)]] (.int .i64) (.mpv 1) (litI .i64 11) (litI .i64 2) = some [o, mp26] := rfl
theorem sameK_int (a b : Int) : sameK (.int .i64) (.int .i64 a) (.int .i64 b) = some (a == b) := by
  simp [sameK]
theorem lk26 (o : AO) (k : Int) : lkpV [o, mp26] (.int .i64) false (litI .i64 0) (.mpv 1) (litI .i64 k) = some (litI .i64 (if k = 8 then 3 else if k = 10 then 1 else if k = 11 then 2 else 0)) := by
  show ((findK (.int .i64) (.int .i64 k) [(.int .i64 8, litI .i64 3), (.int .i64 10, litI .i64 1), (.int .i64 11, litI .i64 2)] 0).bind _) = _
  unfold findK findK findK findK
  simp only [sameK_int]
  by_cases h8 : k = 8
  · subst h8; rfl
  · rw [beq_eq_false_iff_ne.2 h8, if_neg h8]
    by_cases h10 : k = 10
    · subst h10; rfl
    · rw [beq_eq_false_iff_ne.2 h10, if_neg h10]
      by_cases h11 : k = 11
      · subst h11; rfl
      · rw [beq_eq_false_iff_ne.2 h11, if_neg h11]; rfl
set_option maxHeartbeats 4000000 in
theorem own_tells (t : Tr) (S : Sm t) : ∃ H', cw0 36 [.agg t.cells] [] = some (.ret (litB (ownB t.k t.n t.ts.length)), H') := by
  refine cw0_ret fn36 (c := c36) rfl rfl rfl rfl ?_
  have h0 := ld0 (H := [rowT t]) (r := 0) (t := t) rfl
  have h1 := ld1 (H := [rowT t]) (r := 0) (t := t) rfl
  have h2 := ld2 (H := [rowT t]) (r := 0) (t := t) rfl
  have hn : t.n.size ≤ 65536 := by have := S.name; omega
  have nc := num_call t.n hn
  have cc := ctor_call t.n hn
  have mc := name_call t.n hn
  have uc := cont37_call (some 5) unL t.n (by decide)
  have bc := cont37_call (some 16) biL t.n (by decide)
  have len : ∀ m : Nat, ((t.ts.length : Int) == (m : Int)) = (t.ts.length == m) := fun m => by
    by_cases h : t.ts.length = m
    · rw [beq_iff_eq.2 h]; exact beq_iff_eq.2 (by omega)
    · rw [beq_eq_false_iff_ne.2 h]; exact beq_eq_false_iff_ne.2 (by omega)
  have n0 := len 0
  have n1 := len 1
  have n2 := len 2
  have n3 := len 3
  simp only [show ((0 : Nat) : Int) = 0 from rfl, show ((1 : Nat) : Int) = 1 from rfl, show ((2 : Nat) : Int) = 2 from rfl, show ((3 : Nat) : Int) = 3 from rfl] at n0 n1 n2 n3
  unfold ownB
  by_cases k1 : t.k = 1
  · rw [if_pos k1]
    cases hz : (t.ts.length == 0) with
    | true =>
      rw [Bool.true_and]
      rw [hz] at n0
      cases ht : isS t.n [116, 114, 117, 101] with
      | true =>
        simp -implicitDefEqProofs only [c36, aW, ↓aP, makes, reduceLT, reduceEqDiff, reduceAdd, ↓reduceIte, Nat.reduceBEq, core_box, box_tr, List.length_nil, List.length_cons, fadr_ptr, h0, h1, h2, ↓bu, ↓bb, lenV_args, Int.reduceBEq, bin_eqlS, isS_eq, k1, n0, ht]
        rfl
      | false =>
        simp -implicitDefEqProofs only [c36, aW, ↓aP, makes, reduceLT, reduceEqDiff, reduceAdd, ↓reduceIte, Nat.reduceBEq, core_box, box_tr, List.length_nil, List.length_cons, fadr_ptr, h0, h1, h2, ↓bu, ↓bb, lenV_args, Int.reduceBEq, bin_eqlS, isS_eq, k1, n0, ht]
        rfl
    | false =>
      rw [Bool.false_and]
      rw [hz] at n0
      simp -implicitDefEqProofs only [c36, aW, ↓aP, makes, reduceLT, reduceEqDiff, reduceAdd, ↓reduceIte, Nat.reduceBEq, core_box, box_tr, List.length_nil, List.length_cons, fadr_ptr, h0, h1, h2, ↓bu, ↓bb, lenV_args, Int.reduceBEq, bin_eqlS, isS_eq, k1, n0]
      rfl
  rw [if_neg k1]
  by_cases k2 : t.k = 2
  · rw [if_pos k2]
    cases hz : (t.ts.length == 0) with
    | true =>
      rw [Bool.true_and]
      rw [hz] at n0
      simp -implicitDefEqProofs only [c36, aW, ↓aP, makes, reduceLT, reduceEqDiff, reduceAdd, ↓reduceIte, Nat.reduceBEq, core_box, box_tr, List.length_nil, List.length_cons, fadr_ptr, h0, h1, h2, ↓bu, ↓bb, lenV_args, Int.reduceBEq, bin_eqlS, isS_eq, k2, n0, nc]
      rfl
    | false =>
      rw [Bool.false_and]
      rw [hz] at n0
      simp -implicitDefEqProofs only [c36, aW, ↓aP, makes, reduceLT, reduceEqDiff, reduceAdd, ↓reduceIte, Nat.reduceBEq, core_box, box_tr, List.length_nil, List.length_cons, fadr_ptr, h0, h1, h2, ↓bu, ↓bb, lenV_args, Int.reduceBEq, bin_eqlS, isS_eq, k2, n0]
      rfl
  rw [if_neg k2]
  by_cases k3 : t.k = 3
  · rw [if_pos k3]
    cases hz : (t.ts.length == 0) with
    | true =>
      rw [Bool.true_and]
      rw [hz] at n0
      simp -implicitDefEqProofs only [c36, aW, ↓aP, makes, reduceLT, reduceEqDiff, reduceAdd, ↓reduceIte, Nat.reduceBEq, core_box, box_tr, List.length_nil, List.length_cons, fadr_ptr, h0, h1, h2, ↓bu, ↓bb, lenV_args, Int.reduceBEq, bin_eqlS, isS_eq, k3, n0, cc]
      rfl
    | false =>
      rw [Bool.false_and]
      rw [hz] at n0
      simp -implicitDefEqProofs only [c36, aW, ↓aP, makes, reduceLT, reduceEqDiff, reduceAdd, ↓reduceIte, Nat.reduceBEq, core_box, box_tr, List.length_nil, List.length_cons, fadr_ptr, h0, h1, h2, ↓bu, ↓bb, lenV_args, Int.reduceBEq, bin_eqlS, isS_eq, k3, n0]
      rfl
  rw [if_neg k3]
  by_cases k45 : t.k = 4 ∨ t.k = 5
  · rw [if_pos k45]
    rcases k45 with k4 | k5
    · cases hz : (t.ts.length == 0) with
      | true =>
        rw [Bool.true_and]
        rw [hz] at n0
        simp -implicitDefEqProofs only [c36, aW, ↓aP, makes, reduceLT, reduceEqDiff, reduceAdd, ↓reduceIte, Nat.reduceBEq, core_box, box_tr, List.length_nil, List.length_cons, fadr_ptr, h0, h1, h2, ↓bu, ↓bb, lenV_args, Int.reduceBEq, bin_eqlS, isS_eq, k4, n0, mc]
        rfl
      | false =>
        rw [Bool.false_and]
        rw [hz] at n0
        simp -implicitDefEqProofs only [c36, aW, ↓aP, makes, reduceLT, reduceEqDiff, reduceAdd, ↓reduceIte, Nat.reduceBEq, core_box, box_tr, List.length_nil, List.length_cons, fadr_ptr, h0, h1, h2, ↓bu, ↓bb, lenV_args, Int.reduceBEq, bin_eqlS, isS_eq, k4, n0]
        rfl
    · cases hz : (t.ts.length == 0) with
      | true =>
        rw [Bool.true_and]
        rw [hz] at n0
        simp -implicitDefEqProofs only [c36, aW, ↓aP, makes, reduceLT, reduceEqDiff, reduceAdd, ↓reduceIte, Nat.reduceBEq, core_box, box_tr, List.length_nil, List.length_cons, fadr_ptr, h0, h1, h2, ↓bu, ↓bb, lenV_args, Int.reduceBEq, bin_eqlS, isS_eq, k5, n0, mc]
        rfl
      | false =>
        rw [Bool.false_and]
        rw [hz] at n0
        simp -implicitDefEqProofs only [c36, aW, ↓aP, makes, reduceLT, reduceEqDiff, reduceAdd, ↓reduceIte, Nat.reduceBEq, core_box, box_tr, List.length_nil, List.length_cons, fadr_ptr, h0, h1, h2, ↓bu, ↓bb, lenV_args, Int.reduceBEq, bin_eqlS, isS_eq, k5, n0]
        rfl
  rw [if_neg k45]
  by_cases k6 : t.k = 6
  · rw [if_pos k6]
    cases hz : (t.ts.length == 1) with
    | true =>
      rw [Bool.true_and]
      rw [hz] at n1
      simp -implicitDefEqProofs only [c36, aW, ↓aP, makes, reduceLT, reduceEqDiff, reduceAdd, ↓reduceIte, Nat.reduceBEq, core_box, box_tr, List.length_nil, List.length_cons, fadr_ptr, h0, h1, h2, ↓bu, ↓bb, lenV_args, Int.reduceBEq, bin_eqlS, isS_eq, k6, n1, uc]
      rfl
    | false =>
      rw [Bool.false_and]
      rw [hz] at n1
      simp -implicitDefEqProofs only [c36, aW, ↓aP, makes, reduceLT, reduceEqDiff, reduceAdd, ↓reduceIte, Nat.reduceBEq, core_box, box_tr, List.length_nil, List.length_cons, fadr_ptr, h0, h1, h2, ↓bu, ↓bb, lenV_args, Int.reduceBEq, bin_eqlS, isS_eq, k6, n1]
      rfl
  rw [if_neg k6]
  by_cases k7 : t.k = 7
  · rw [if_pos k7]
    cases hz : (t.ts.length == 2) with
    | true =>
      rw [Bool.true_and]
      rw [hz] at n2
      simp -implicitDefEqProofs only [c36, aW, ↓aP, makes, reduceLT, reduceEqDiff, reduceAdd, ↓reduceIte, Nat.reduceBEq, core_box, box_tr, List.length_nil, List.length_cons, fadr_ptr, h0, h1, h2, ↓bu, ↓bb, lenV_args, Int.reduceBEq, bin_eqlS, isS_eq, k7, n2, bc]
      rfl
    | false =>
      rw [Bool.false_and]
      rw [hz] at n2
      simp -implicitDefEqProofs only [c36, aW, ↓aP, makes, reduceLT, reduceEqDiff, reduceAdd, ↓reduceIte, Nat.reduceBEq, core_box, box_tr, List.length_nil, List.length_cons, fadr_ptr, h0, h1, h2, ↓bu, ↓bb, lenV_args, Int.reduceBEq, bin_eqlS, isS_eq, k7, n2]
      rfl
  rw [if_neg k7]
  by_cases k9 : t.k = 9
  · rw [if_pos k9]
    simp -implicitDefEqProofs only [c36, aW, ↓aP, makes, reduceLT, reduceEqDiff, reduceAdd, ↓reduceIte, Nat.reduceBEq, core_box, box_tr, List.length_nil, List.length_cons, fadr_ptr, h0, h1, h2, ↓bu, ↓bb, lenV_args, Int.reduceBEq, bin_eqlS, isS_eq, k9, mc]
    rfl
  rw [if_neg k9]
  by_cases k8 : t.k = 8
  · rw [if_pos k8]
    have q0 := ld0 (H := [rowT t, mp26]) (r := 0) (t := t) rfl
    have q1 := ld1 (H := [rowT t, mp26]) (r := 0) (t := t) rfl
    cases he : isS t.n [] with
    | true =>
      rw [Bool.true_and]
      cases hz : (t.ts.length == 3) with
      | true =>
        rw [hz] at n3
        simp -implicitDefEqProofs only [c36, aW, ↓aP, makes, reduceLT, reduceEqDiff, reduceAdd, ↓reduceIte, Nat.reduceBEq, core_box, box_tr, List.length_nil, List.length_cons, fadr_ptr, h0, h1, h2, ↓bu, ↓bb, lenV_args, Int.reduceBEq, bin_eqlS, isS_eq, k8, core_mkmV, List.length_cons, List.length_nil, core_mup, mu1, mu2, mu3, core_lkp, q0, lk26, q1, he, n3, Int.reduceLT, Int.reduceEq, decide_true, decide_false]
        rfl
      | false =>
        rw [hz] at n3
        cases hg : decide ((3 : Int) < t.ts.length) with
        | true =>
          simp -implicitDefEqProofs only [c36, aW, ↓aP, makes, reduceLT, reduceEqDiff, reduceAdd, ↓reduceIte, Nat.reduceBEq, core_box, box_tr, List.length_nil, List.length_cons, fadr_ptr, h0, h1, h2, ↓bu, ↓bb, lenV_args, Int.reduceBEq, bin_eqlS, isS_eq, k8, core_mkmV, List.length_cons, List.length_nil, core_mup, mu1, mu2, mu3, core_lkp, q0, lk26, q1, he, n3, hg, Int.reduceLT, Int.reduceEq, decide_true, decide_false]
          rfl
        | false =>
          simp -implicitDefEqProofs only [c36, aW, ↓aP, makes, reduceLT, reduceEqDiff, reduceAdd, ↓reduceIte, Nat.reduceBEq, core_box, box_tr, List.length_nil, List.length_cons, fadr_ptr, h0, h1, h2, ↓bu, ↓bb, lenV_args, Int.reduceBEq, bin_eqlS, isS_eq, k8, core_mkmV, List.length_cons, List.length_nil, core_mup, mu1, mu2, mu3, core_lkp, q0, lk26, q1, he, n3, hg, Int.reduceLT, Int.reduceEq, decide_true, decide_false]
          rfl
    | false =>
      rw [Bool.false_and]
      simp -implicitDefEqProofs only [c36, aW, ↓aP, makes, reduceLT, reduceEqDiff, reduceAdd, ↓reduceIte, Nat.reduceBEq, core_box, box_tr, List.length_nil, List.length_cons, fadr_ptr, h0, h1, h2, ↓bu, ↓bb, lenV_args, Int.reduceBEq, bin_eqlS, isS_eq, k8, core_mkmV, List.length_cons, List.length_nil, core_mup, mu1, mu2, mu3, core_lkp, q0, lk26, q1, he, Int.reduceLT, Int.reduceEq, decide_true, decide_false]
      rfl
  rw [if_neg k8]
  by_cases k10 : t.k = 10
  · rw [if_pos k10]
    have q0 := ld0 (H := [rowT t, mp26]) (r := 0) (t := t) rfl
    have q1 := ld1 (H := [rowT t, mp26]) (r := 0) (t := t) rfl
    cases he : isS t.n [] with
    | true =>
      rw [Bool.true_and]
      cases hz : (t.ts.length == 1) with
      | true =>
        rw [hz] at n1
        simp -implicitDefEqProofs only [c36, aW, ↓aP, makes, reduceLT, reduceEqDiff, reduceAdd, ↓reduceIte, Nat.reduceBEq, core_box, box_tr, List.length_nil, List.length_cons, fadr_ptr, h0, h1, h2, ↓bu, ↓bb, lenV_args, Int.reduceBEq, bin_eqlS, isS_eq, k10, core_mkmV, List.length_cons, List.length_nil, core_mup, mu1, mu2, mu3, core_lkp, q0, lk26, q1, he, n1, Int.reduceLT, Int.reduceEq, decide_true, decide_false]
        rfl
      | false =>
        rw [hz] at n1
        cases hg : decide ((1 : Int) < t.ts.length) with
        | true =>
          simp -implicitDefEqProofs only [c36, aW, ↓aP, makes, reduceLT, reduceEqDiff, reduceAdd, ↓reduceIte, Nat.reduceBEq, core_box, box_tr, List.length_nil, List.length_cons, fadr_ptr, h0, h1, h2, ↓bu, ↓bb, lenV_args, Int.reduceBEq, bin_eqlS, isS_eq, k10, core_mkmV, List.length_cons, List.length_nil, core_mup, mu1, mu2, mu3, core_lkp, q0, lk26, q1, he, n1, hg, Int.reduceLT, Int.reduceEq, decide_true, decide_false]
          rfl
        | false =>
          simp -implicitDefEqProofs only [c36, aW, ↓aP, makes, reduceLT, reduceEqDiff, reduceAdd, ↓reduceIte, Nat.reduceBEq, core_box, box_tr, List.length_nil, List.length_cons, fadr_ptr, h0, h1, h2, ↓bu, ↓bb, lenV_args, Int.reduceBEq, bin_eqlS, isS_eq, k10, core_mkmV, List.length_cons, List.length_nil, core_mup, mu1, mu2, mu3, core_lkp, q0, lk26, q1, he, n1, hg, Int.reduceLT, Int.reduceEq, decide_true, decide_false]
          rfl
    | false =>
      rw [Bool.false_and]
      simp -implicitDefEqProofs only [c36, aW, ↓aP, makes, reduceLT, reduceEqDiff, reduceAdd, ↓reduceIte, Nat.reduceBEq, core_box, box_tr, List.length_nil, List.length_cons, fadr_ptr, h0, h1, h2, ↓bu, ↓bb, lenV_args, Int.reduceBEq, bin_eqlS, isS_eq, k10, core_mkmV, List.length_cons, List.length_nil, core_mup, mu1, mu2, mu3, core_lkp, q0, lk26, q1, he, Int.reduceLT, Int.reduceEq, decide_true, decide_false]
      rfl
  rw [if_neg k10]
  by_cases k11 : t.k = 11
  · rw [if_pos k11]
    have q0 := ld0 (H := [rowT t, mp26]) (r := 0) (t := t) rfl
    have q1 := ld1 (H := [rowT t, mp26]) (r := 0) (t := t) rfl
    cases he : isS t.n [] with
    | true =>
      rw [Bool.true_and]
      cases hz : (t.ts.length == 2) with
      | true =>
        rw [hz] at n2
        rw [decide_eq_true (show 2 ≤ t.ts.length by rw [beq_iff_eq] at hz; omega)]
        simp -implicitDefEqProofs only [c36, aW, ↓aP, makes, reduceLT, reduceEqDiff, reduceAdd, ↓reduceIte, Nat.reduceBEq, core_box, box_tr, List.length_nil, List.length_cons, fadr_ptr, h0, h1, h2, ↓bu, ↓bb, lenV_args, Int.reduceBEq, bin_eqlS, isS_eq, k11, core_mkmV, List.length_cons, List.length_nil, core_mup, mu1, mu2, mu3, core_lkp, q0, lk26, q1, he, n2, Int.reduceLT, Int.reduceEq, decide_true, decide_false]
        rfl
      | false =>
        rw [hz] at n2
        have hg : decide ((2 : Int) < t.ts.length) = decide (2 ≤ t.ts.length) := decide_eq_decide.2 (by rw [beq_eq_false_iff_ne] at hz; omega)
        cases hd : decide (2 ≤ t.ts.length) with
        | true =>
          rw [hd] at hg
          simp -implicitDefEqProofs only [c36, aW, ↓aP, makes, reduceLT, reduceEqDiff, reduceAdd, ↓reduceIte, Nat.reduceBEq, core_box, box_tr, List.length_nil, List.length_cons, fadr_ptr, h0, h1, h2, ↓bu, ↓bb, lenV_args, Int.reduceBEq, bin_eqlS, isS_eq, k11, core_mkmV, List.length_cons, List.length_nil, core_mup, mu1, mu2, mu3, core_lkp, q0, lk26, q1, he, n2, hg, Int.reduceLT, Int.reduceEq, decide_true, decide_false]
          rfl
        | false =>
          rw [hd] at hg
          simp -implicitDefEqProofs only [c36, aW, ↓aP, makes, reduceLT, reduceEqDiff, reduceAdd, ↓reduceIte, Nat.reduceBEq, core_box, box_tr, List.length_nil, List.length_cons, fadr_ptr, h0, h1, h2, ↓bu, ↓bb, lenV_args, Int.reduceBEq, bin_eqlS, isS_eq, k11, core_mkmV, List.length_cons, List.length_nil, core_mup, mu1, mu2, mu3, core_lkp, q0, lk26, q1, he, n2, hg, Int.reduceLT, Int.reduceEq, decide_true, decide_false]
          rfl
    | false =>
      rw [Bool.false_and]
      simp -implicitDefEqProofs only [c36, aW, ↓aP, makes, reduceLT, reduceEqDiff, reduceAdd, ↓reduceIte, Nat.reduceBEq, core_box, box_tr, List.length_nil, List.length_cons, fadr_ptr, h0, h1, h2, ↓bu, ↓bb, lenV_args, Int.reduceBEq, bin_eqlS, isS_eq, k11, core_mkmV, List.length_cons, List.length_nil, core_mup, mu1, mu2, mu3, core_lkp, q0, lk26, q1, he, Int.reduceLT, Int.reduceEq, decide_true, decide_false]
      rfl
  rw [if_neg k11]
  have q0 := ld0 (H := [rowT t, mp26]) (r := 0) (t := t) rfl
  have e1 : (t.k == 1) = false := beq_eq_false_iff_ne.2 k1
  have e2 : (t.k == 2) = false := beq_eq_false_iff_ne.2 k2
  have e3 : (t.k == 3) = false := beq_eq_false_iff_ne.2 k3
  have e6 : (t.k == 6) = false := beq_eq_false_iff_ne.2 k6
  have e7 : (t.k == 7) = false := beq_eq_false_iff_ne.2 k7
  have e8 : (t.k == 8) = false := beq_eq_false_iff_ne.2 k8
  have e9 : (t.k == 9) = false := beq_eq_false_iff_ne.2 k9
  have e10 : (t.k == 10) = false := beq_eq_false_iff_ne.2 k10
  have e11 : (t.k == 11) = false := beq_eq_false_iff_ne.2 k11
  have e4 : (t.k == 4) = false := beq_eq_false_iff_ne.2 fun h => k45 (.inl h)
  have e5 : (t.k == 5) = false := beq_eq_false_iff_ne.2 fun h => k45 (.inr h)
  simp -implicitDefEqProofs only [c36, aW, ↓aP, makes, reduceLT, reduceEqDiff, reduceAdd, ↓reduceIte, Nat.reduceBEq, core_box, box_tr, List.length_nil, List.length_cons, fadr_ptr, h0, h1, h2, ↓bu, ↓bb, lenV_args, Int.reduceBEq, bin_eqlS, isS_eq, e1, e2, e3, e4, e5, e6, e7, e8, e9, e10, e11, core_mkmV, List.length_cons, List.length_nil, core_mup, mu1, mu2, mu3, core_lkp, q0, lk26, k8, k10, k11, Int.reduceLT]
  rfl
theorem own_call (t : Tr) (S : Sm t) (H : List AO) (id : Nat) : callV cw0 mds 36 [.agg t.cells] H id = some (.val (litB (ownB t.k t.n t.ts.length)) none) := by
  obtain ⟨H', key⟩ := own_tells t S
  exact callV_pureA rfl (by rw [List.all_cons, whole_cells]; rfl) key rfl
end
section
theorem index52_loop (z : Nat) (c : Option Nat) (ts : List Tr) (fv : AV) (p : Tr → Bool) (hp : ∀ a ∈ ts, ∀ H id, fnV cw0 mds fv [.agg a.cells] H id = some (.val (litB (p a)) none)) (hl : ts.length ≤ 1000) : ∀ (r : List Tr) (n : Nat), ts.drop n = r → n ≤ ts.length →
    (findF p n r = -1 ∧ ∃ i', loopW (codeW cw0 (lookM mtl) mds c76l0) [0, 1, 7, 8] [(0, argsA z c ts), (1, fv), (7, litI .i64 ts.length), (8, litI .i64 n)] [] = some (.exit 0, [(0, argsA z c ts), (1, fv), (7, litI .i64 ts.length), (8, i'), (9, litB false)], [])) ∨
    loopW (codeW cw0 (lookM mtl) mds c76l0) [0, 1, 7, 8] [(0, argsA z c ts), (1, fv), (7, litI .i64 ts.length), (8, litI .i64 n)] [] = some (.ret, [(4, litI .i64 (findF p n r))], [])
  | [], n, hd, hn => by
    have h : ts.length ≤ n := by
      have := congrArg List.length hd
      rw [List.length_drop, List.length_nil] at this; omega
    left
    refine ⟨rfl, litI .i64 n, ?_⟩
    refine loopW_out ?_ (by simp)
    simp -implicitDefEqProofs only [c76l0, aW, ↓aP, makes, reduceLT, reduceEqDiff, reduceAdd, ↓reduceIte, Nat.reduceBEq, show ¬ ((n : Int) < ts.length) by omega]
  | x :: r, n, hd, hn => by
    have hlt : n < ts.length := by
      have := congrArg List.length hd
      rw [List.length_drop, List.length_cons] at this; omega
    have hg : ts[n]? = some x := by
      have := congrArg List.head? hd
      rwa [List.head?_drop] at this
    have hlti : (n : Int) < ts.length := by omega
    have hc := hp x (List.mem_of_getElem? hg)
    rw [findF]
    cases hx : p x with
    | true =>
      right
      rw [cond_true]
      rw [hx] at hc
      refine loopW_out ?_ (by simp)
      simp -implicitDefEqProofs only [c76l0, aW, ↓aP, makes, reduceLT, reduceEqDiff, reduceAdd, ↓reduceIte, Nat.reduceBEq, hlti, iadr_args hg, ldE, core_callS, hc]
    | false =>
      rw [cond_false]
      rw [hx] at hc
      have step : codeW cw0 (lookM mtl) mds c76l0 (keep [0, 1, 7, 8] [(0, argsA z c ts), (1, fv), (7, litI .i64 ts.length), (8, litI .i64 n)]) [] = some (.normal, [(0, argsA z c ts), (1, fv), (7, litI .i64 ts.length), (8, litI .i64 ((n + 1 : Nat) : Int))], []) := by
        simp -implicitDefEqProofs only [c76l0, aW, ↓aP, makes, reduceLT, reduceEqDiff, reduceAdd, ↓reduceIte, Nat.reduceBEq, hlti, iadr_args hg, ldE, core_callS, hc, wrap1 (show n < 4611686018427387904 by omega)]
      rcases index52_loop z c ts fv p hp hl r (n + 1) (by rw [← List.drop_drop, hd]; rfl) (by omega) with ⟨h1, i', h⟩ | h
      · exact .inl ⟨h1, i', loopW_round step h⟩
      · exact .inr (loopW_round step h)
theorem index52_tells (z : Nat) (c : Option Nat) (ts : List Tr) (fv : AV) (p : Tr → Bool) (hp : ∀ a ∈ ts, ∀ H id, fnV cw0 mds fv [.agg a.cells] H id = some (.val (litB (p a)) none)) (hl : ts.length ≤ 1000) :
    ∃ H', cw0 76 [argsA z c ts, fv] [] = some (.ret (litI .i64 (findF p 0 ts)), H') := by
  have L := index52_loop z c ts fv p hp hl ts 0 rfl (Nat.zero_le _)
  rw [show ((0 : Nat) : Int) = 0 from rfl] at L
  refine cw0_ret fn76 (c := c76) rfl rfl rfl rfl ?_
  rcases L with ⟨h1, i', L⟩ | L
  · rw [h1]
    simp -implicitDefEqProofs only [c76, aW, ↓aP, makes, reduceLT, reduceEqDiff, reduceAdd, ↓reduceIte, Nat.reduceBEq, lenV_args, L]
    rfl
  · simp -implicitDefEqProofs only [c76, aW, ↓aP, makes, reduceLT, reduceEqDiff, reduceAdd, ↓reduceIte, Nat.reduceBEq, lenV_args, L]
    rfl
def clos (fv : AV) : AV := .fn (.func 57) [] [.ip [fv]]
theorem cont38_tells (z : Nat) (c : Option Nat) (ts : List Tr) (fv : AV) (p : Tr → Bool) (hp : ∀ a ∈ ts, ∀ H id, fnV cw0 mds (clos fv) [.agg a.cells] H id = some (.val (litB (p a)) none)) (hl : ts.length ≤ 1000) :
    ∃ H', cw0 56 [argsA z c ts, clos fv] [] = some (.ret (litB (ts.any p)), H') := by
  obtain ⟨H1, h52⟩ := index52_tells z c ts (clos fv) p hp hl
  have hc : ∀ H id, callV cw0 mds 76 [argsA z c ts, clos fv] H id = some (.val (litI .i64 (findF p 0 ts)) none) := fun H id => callV_flat (p := ([argsA z c ts, clos fv], [])) rfl rfl h52
  refine cw0_ret fn56 (c := c56) rfl rfl rfl rfl ?_
  rw [← findF_any p ts 0]
  simp -implicitDefEqProofs only [c56, aW, ↓aP, makes, reduceLT, reduceEqDiff, reduceAdd, ↓reduceIte, Nat.reduceBEq, hc]
  rfl
theorem every_call (z : Nat) (c : Option Nat) (ts : List Tr) (p : Tr → Bool) (hp : ∀ a ∈ ts, ∀ H id, callV cw0 mds 21 [.agg a.cells] H id = some (.val (litB (p a)) none)) (hl : ts.length ≤ 1000) (H : List AO) (id : Nat) :
    callV cw0 mds 37 [argsA z c ts, .fn (.func 21) [] []] H id = some (.val (litB (ts.all p)) none) := by
  have h39 : ∀ a ∈ ts, ∀ H id, fnV cw0 mds (clos (.fn (.func 21) [] [])) [.agg a.cells] H id = some (.val (litB (!(p a))) none) := by
    intro a ha H id
    have key : ∃ H', cw0 57 [.agg a.cells, .ip [.fn (.func 21) [] []]] [] = some (.ret (litB (!(p a))), H') := by
      refine cw0_ret fn57 (c := c57) rfl rfl rfl rfl ?_
      have l4 : Ai.load [rowT a] (some 4) (.ptr 0 0) = some (.agg a.cells) := ld4 rfl
      have c21 := hp a ha
      simp -implicitDefEqProofs only [c57, aW, ↓aP, makes, reduceLT, reduceEqDiff, reduceAdd, ↓reduceIte, Nat.reduceBEq, core_box, box_tr, List.length_nil, l4, c21]
      rfl
    obtain ⟨H', key⟩ := key
    show callV cw0 mds 57 ([] ++ [.agg a.cells] ++ [.ip [.fn (.func 21) [] []]]) H id = _
    exact callV_pureA rfl (by simp only [List.nil_append, List.singleton_append, List.all_cons, whole_cells]; rfl) key rfl
  obtain ⟨H1, h38⟩ := cont38_tells z c ts (.fn (.func 21) [] []) (fun a => !(p a)) h39 hl
  have hf : mapL (frz [.row [.fn (.func 21) [] []] 31] frzF) [argsA z c ts, .fn (.func 57) [] [.ptr 0 0]] = some ([argsA z c ts, clos (.fn (.func 21) [] [])], [0]) := rfl
  have hc : ∀ id, callV cw0 mds 56 [argsA z c ts, .fn (.func 57) [] [.ptr 0 0]] [.row [.fn (.func 21) [] []] 31] id = some (.val (litB (ts.any fun a => !(p a))) none) := fun id => callV_flat rfl hf h38
  have hb : ∀ id, boxV id 1 (.fn (.func 21) [] []) 31 = some (.val (.ptr id 0) (some (.row [.fn (.func 21) [] []] 31))) := fun id => rfl
  have hall : ts.all p = !(ts.any fun a => !(p a)) := by
    rw [List.not_any_eq_all_not]; simp
  have key : ∃ H', cw0 37 [argsA z c ts, .fn (.func 21) [] []] [] = some (.ret (litB (ts.all p)), H') := by
    rw [hall]
    refine cw0_ret fn37 (c := c37) rfl rfl rfl rfl ?_
    simp -implicitDefEqProofs only [c37, aW, ↓aP, makes, reduceLT, reduceEqDiff, reduceAdd, ↓reduceIte, Nat.reduceBEq, core_box, hb, List.length_nil, core_mkf, hc]
    rfl
  obtain ⟨H', key⟩ := key
  exact callV_flat (p := ([argsA z c ts, .fn (.func 21) [] []], [])) rfl rfl key
mutual
def allT : Tr → Bool
  | .mk k n _ _ ts _ => ownB k n ts.length && allL ts
def allL : List Tr → Bool
  | [] => true
  | a :: r => allT a && allL r
end
theorem allL_all : ∀ ts : List Tr, allL ts = ts.all allT
  | [] => rfl
  | a :: r => by rw [allL, allL_all r]; rfl
theorem allT_eq (t : Tr) : allT t = (ownB t.k t.n t.ts.length && t.ts.all allT) := by
  cases t; rw [allT, allL_all]; rfl
theorem all_call : ∀ t : Tr, Sm t → ∀ H id, callV cw0 mds 21 [.agg t.cells] H id = some (.val (litB (allT t)) none) := by
  refine Tr.ind fun k n z c ts p ih S H id => ?_
  generalize ht : Tr.mk k n z c ts p = t at *
  have hts : t.ts = ts := by rw [← ht]; rfl
  have ih' : ∀ a ∈ t.ts, ∀ H id, callV cw0 mds 21 [.agg a.cells] H id = some (.val (litB (allT a)) none) := fun a ha => ih a (hts ▸ ha) (S.sub a ha)
  have oc := own_call t S
  have ec := every_call t.z t.c t.ts allT ih' S.len
  have l4 : Ai.load [rowT t] (some 4) (.ptr 0 0) = some (.agg t.cells) := ld4 rfl
  have h2 := ld2 (H := [rowT t]) (r := 0) (t := t) rfl
  have key : ∃ H', cw0 21 [.agg t.cells] [] = some (.ret (litB (allT t)), H') := by
    rw [allT_eq]
    refine cw0_ret fn21 (c := c21) rfl rfl rfl rfl ?_
    cases ho : ownB t.k t.n t.ts.length with
    | true =>
      rw [ho] at oc
      rw [Bool.true_and]
      simp -implicitDefEqProofs only [c21, aW, ↓aP, makes, reduceLT, reduceEqDiff, reduceAdd, ↓reduceIte, Nat.reduceBEq, core_box, box_tr, List.length_nil, l4, oc, fadr_ptr, h2, ec]
      rfl
    | false =>
      rw [ho] at oc
      rw [Bool.false_and]
      simp -implicitDefEqProofs only [c21, aW, ↓aP, makes, reduceLT, reduceEqDiff, reduceAdd, ↓reduceIte, Nat.reduceBEq, core_box, box_tr, List.length_nil, l4, oc]
      rfl
  obtain ⟨H', key⟩ := key
  exact callV_pureA rfl (by rw [List.all_cons, whole_cells]; rfl) key rfl
def rightT (t : Tr) : Bool := !(decide (40 < dep t)) && allT t
theorem right12_call (t : Tr) (S : Sm t) (hd : dep t ≤ 1000) (H : List AO) (id : Nat) : callV cw0 mds 15 [.agg t.cells] H id = some (.val (litB (rightT t)) none) := by
  have dc := deep_call t S hd
  have ac := all_call t S
  have l4 : Ai.load [rowT t] (some 4) (.ptr 0 0) = some (.agg t.cells) := ld4 rfl
  have key : ∃ H', cw0 15 [.agg t.cells] [] = some (.ret (litB (rightT t)), H') := by
    unfold rightT
    refine cw0_ret fn15 (c := c15) rfl rfl rfl rfl ?_
    cases ho : decide (40 < dep t) with
    | true =>
      rw [ho] at dc
      simp -implicitDefEqProofs only [c15, aW, ↓aP, makes, reduceLT, reduceEqDiff, reduceAdd, ↓reduceIte, Nat.reduceBEq, core_box, box_tr, List.length_nil, l4, dc, Bool.false_and]
      rfl
    | false =>
      rw [ho] at dc
      simp -implicitDefEqProofs only [c15, aW, ↓aP, makes, reduceLT, reduceEqDiff, reduceAdd, ↓reduceIte, Nat.reduceBEq, core_box, box_tr, List.length_nil, l4, dc, ac, Bool.true_and]
      rfl
  obtain ⟨H', key⟩ := key
  exact callV_pureA rfl (by rw [List.all_cons, whole_cells]; rfl) key rfl
end
section
def sBool : ByteArray := bs [98, 111, 111, 108]
def sInt : ByteArray := bs [105, 110, 116]
def sRat : ByteArray := bs [114, 97, 116]
def sNum : ByteArray := bs [110, 117, 109]
def fitB (a b : ByteArray) : Bool := sEq a b || (sEq a sNum && (sEq b sInt || sEq b sRat))
theorem fits_call (a b : ByteArray) (H : List AO) (id : Nat) : callV cw0 mds 43 [litS a, litS b] H id = some (.val (litB (fitB a b)) none) := by
  have key : ∃ H', cw0 43 [litS a, litS b] [] = some (.ret (litB (fitB a b)), H') := by
    refine cw0_ret fn43 (c := c43) rfl rfl rfl rfl ?_
    unfold fitB
    cases h1 : sEq a b with
    | true =>
      have e1 : (a.data.toList == b.data.toList) = true := h1
      simp -implicitDefEqProofs only [c43, aW, ↓aP, makes, reduceLT, reduceEqDiff, reduceAdd, ↓reduceIte, Nat.reduceBEq, bin_eqlS, e1]
      rfl
    | false =>
      have e1 : (a.data.toList == b.data.toList) = false := h1
      cases h2 : sEq a sNum with
      | false =>
        have e2 : (a.data.toList == (bs [110, 117, 109]).data.toList) = false := h2
        simp -implicitDefEqProofs only [c43, aW, ↓aP, makes, reduceLT, reduceEqDiff, reduceAdd, ↓reduceIte, Nat.reduceBEq, bin_eqlS, e1, e2]
        rfl
      | true =>
        have e2 : (a.data.toList == (bs [110, 117, 109]).data.toList) = true := h2
        cases h3 : sEq b sInt with
        | true =>
          have e3 : (b.data.toList == (bs [105, 110, 116]).data.toList) = true := h3
          simp -implicitDefEqProofs only [c43, aW, ↓aP, makes, reduceLT, reduceEqDiff, reduceAdd, ↓reduceIte, Nat.reduceBEq, bin_eqlS, e1, e2, e3]
          rfl
        | false =>
          have e3 : (b.data.toList == (bs [105, 110, 116]).data.toList) = false := h3
          cases h4 : sEq b sRat with
          | true =>
            have e4 : (b.data.toList == (bs [114, 97, 116]).data.toList) = true := h4
            simp -implicitDefEqProofs only [c43, aW, ↓aP, makes, reduceLT, reduceEqDiff, reduceAdd, ↓reduceIte, Nat.reduceBEq, bin_eqlS, e1, e2, e3, e4]
            rfl
          | false =>
            have e4 : (b.data.toList == (bs [114, 97, 116]).data.toList) = false := h4
            simp -implicitDefEqProofs only [c43, aW, ↓aP, makes, reduceLT, reduceEqDiff, reduceAdd, ↓reduceIte, Nat.reduceBEq, bin_eqlS, e1, e2, e3, e4]
            rfl
  obtain ⟨H', key⟩ := key
  exact callV_pure rfl rfl key rfl
def joinB (a b : ByteArray) : ByteArray × Bool := if fitB a b = true then (b, true) else (a, fitB b a)
theorem join_call (a b : ByteArray) (H : List AO) (id : Nat) : callV cw0 mds 41 [litS a, litS b] H id = some (.val (.tup [litS (joinB a b).1, litB (joinB a b).2]) none) := by
  have key : ∃ H', cw0 41 [litS a, litS b] [] = some (.ret (.tup [litS (joinB a b).1, litB (joinB a b).2]), H') := by
    refine cw0_ret fn41 (c := c41) rfl rfl rfl rfl ?_
    have c1 := fits_call a b
    have c2 := fits_call b a
    unfold joinB
    cases h1 : fitB a b with
    | true =>
      rw [h1] at c1
      rw [if_pos rfl]
      simp -implicitDefEqProofs only [c41, aW, ↓aP, makes, reduceLT, reduceEqDiff, reduceAdd, ↓reduceIte, Nat.reduceBEq, c1]
      rfl
    | false =>
      rw [h1] at c1
      rw [if_neg (by decide)]
      simp -implicitDefEqProofs only [c41, aW, ↓aP, makes, reduceLT, reduceEqDiff, reduceAdd, ↓reduceIte, Nat.reduceBEq, c1, c2]
      rfl
  obtain ⟨H', key⟩ := key
  exact callV_pureT rfl rfl key rfl
def amongV (c : Option Nat) (l : List ByteArray) : AV := .fn (.func 58) [] [.ip [strs c l]]
theorem callV_frz {f : FuncId} {args : List AV} {a b : AV} {ids : List Nat} {H H' : List AO} {id : Nat} (hm : mds f = .pure) (hw : args.all wholeA = true) (h : cw0 f args [] = some (.ret a, H')) (hf : frz H' frzF a = some (b, ids)) : callV cw0 mds f args H id = some (.val b none) := by
  unfold callV
  rw [hm]
  simp only
  rw [show mapL (frz H frzF) args = some (args, []) from mapL_wholeA (k := 14) hw]
  simp only [Option.bind_some]
  rw [h]
  simp only [Option.bind_some]
  rw [hf]
  rfl
theorem among_call (c : Option Nat) (l : List ByteArray) (H : List AO) (id : Nat) : callV cw0 mds 40 [strs c l] H id = some (.val (amongV c l) none) := by
  have hb : ∀ id, boxV id 1 (strs c l) 37 = some (.val (.ptr id 0) (some (.row [strs c l] 37))) := fun id => rfl
  have key : cw0 40 [strs c l] [] = some (.ret (.fn (.func 58) [] [.ptr 0 0]), [.row [strs c l] 37]) := by
    refine cw0_of fn40 (c := c40) rfl rfl rfl rfl ?_
    simp -implicitDefEqProofs only [c40, aW, ↓aP, makes, reduceLT, reduceEqDiff, reduceAdd, ↓reduceIte, Nat.reduceBEq, core_box, hb, List.length_nil, core_mkf]
    rfl
  exact callV_frz rfl rfl key rfl
def askV : Option (List ByteArray) → AV
  | none => .fn (.func 28) [] []
  | some l => amongV (some l.length) l
def askB : Option (List ByteArray) → ByteArray → Bool
  | none, _ => true
  | some l, t => l.any (sEq t)
theorem ask_call (q : Option (List ByteArray)) (hq : ∀ l, q = some l → l.length ≤ 1000) (t : ByteArray) (H : List AO) (id : Nat) : fnV cw0 mds (askV q) [litS t] H id = some (.val (litB (askB q t)) none) := by
  cases q with
  | none =>
    have key : ∃ H', cw0 28 [litS t] [] = some (.ret (litB true), H') := by
      refine cw0_ret fn28 (c := c28) rfl rfl rfl rfl ?_
      simp -implicitDefEqProofs only [c28, aW, ↓aP, makes, reduceLT, reduceEqDiff, reduceAdd, ↓reduceIte, Nat.reduceBEq]
      rfl
    obtain ⟨H', key⟩ := key
    show callV cw0 mds 28 ([] ++ [litS t] ++ []) H id = _
    exact callV_pure rfl rfl key rfl
  | some l =>
    have hc := cont37_call (some l.length) l t (by have := hq l rfl; omega)
    have hc' : ∀ H id, callV cw0 mds 55 [strs (some l.length) l, litS t] H id = some (.val (litB (l.any (sEq t))) none) := hc
    have key : ∃ H', cw0 58 [litS t, .ip [strs (some l.length) l]] [] = some (.ret (litB (l.any (sEq t))), H') := by
      refine cw0_ret fn58 (c := c58) rfl rfl rfl rfl ?_
      simp -implicitDefEqProofs only [c58, aW, ↓aP, makes, reduceLT, reduceEqDiff, reduceAdd, ↓reduceIte, Nat.reduceBEq, hc']
      rfl
    obtain ⟨H', key⟩ := key
    show callV cw0 mds 58 ([] ++ [litS t] ++ [.ip [strs (some l.length) l]]) H id = _
    exact callV_pure rfl rfl key rfl
structure Rule where
  asks : Option (List ByteArray)
  gives : ByteArray
def Rule.av (r : Rule) : AV := .agg [askV r.asks, litS r.gives]
def numL3 : List ByteArray := [sInt, sRat, sNum]
def unR (n : ByteArray) : Rule :=
  if isS n [110, 111, 116] = true then ⟨some [sBool], bs []⟩
  else if isS n [112, 114, 101] = true then ⟨none, bs []⟩
  else if isS n [45] = true then ⟨some numL3, bs []⟩
  else if isS n [102, 108, 111, 111, 114] = true then ⟨some [sRat, sNum], sInt⟩
  else if isS n [114, 97, 116] = true then ⟨some [sInt, sNum], sRat⟩
  else ⟨some [sRat, sNum], sBool⟩
def binR (n : ByteArray) : Rule :=
  if isS n [97, 110, 100] = true ∨ isS n [111, 114] = true then ⟨some [sBool], bs []⟩
  else if isS n [45, 62] = true ∨ isS n [102, 98, 121] = true then ⟨none, bs []⟩
  else if isS n [43] = true ∨ isS n [45] = true ∨ isS n [42] = true then ⟨some numL3, bs []⟩
  else if isS n [47] = true then ⟨some [sRat, sNum], sRat⟩
  else if isS n [100, 105, 118] = true ∨ isS n [109, 111, 100] = true then ⟨some [sInt, sNum], sInt⟩
  else if isS n [61, 61] = true ∨ isS n [33, 61] = true then ⟨none, sBool⟩
  else ⟨some numL3, sBool⟩
theorem bsl_n1 (H : List AO) (z : AV) : bslV H 1 1 [z] [(0, litS (bs [98, 111, 111, 108]))] = some (.val (strs (some 1) [sBool]) none) := rfl
theorem bsl_n3 (H : List AO) (z : AV) : bslV H 1 3 [z] [(0, litS (bs [105, 110, 116])), (1, litS (bs [114, 97, 116])), (2, litS (bs [110, 117, 109]))] = some (.val (strs (some 3) numL3) none) := rfl
theorem bsl_n2 (H : List AO) (z : AV) : bslV H 1 2 [z] [(0, litS (bs [114, 97, 116])), (1, litS (bs [110, 117, 109]))] = some (.val (strs (some 2) [sRat, sNum]) none) := rfl
theorem bsl_n2i (H : List AO) (z : AV) : bslV H 1 2 [z] [(0, litS (bs [105, 110, 116])), (1, litS (bs [110, 117, 109]))] = some (.val (strs (some 2) [sInt, sNum]) none) := rfl
def bld2 (z1 z2 a b : AV) : Option Out := (fill [z1, z2] [(0, 1, a), (1, 1, b)]).bind fun cs => some (.val (.agg cs) none)
theorem core_bld2 {call : CallF} {mt : MtF} {md : FuncId → Md} {H : List AO} {id : Nat} {fr : Fr} (z1 z2 : AV) (x y : X) : core call mt md H id (.build [z1, z2] [(0, 1, x), (1, 1, y)]) fr = bld2 z1 z2 (ev fr x) (ev fr y) := rfl
theorem bld2_fn (z1 z2 : AV) (f : Fn) (a b : List AV) (s : ByteArray) : bld2 z1 z2 (.fn f a b) (litS s) = some (.val (.agg [.fn f a b, litS s]) none) := rfl
theorem bld2_am (z1 z2 : AV) (c : Option Nat) (l : List ByteArray) (s : ByteArray) : bld2 z1 z2 (amongV c l) (litS s) = some (.val (.agg [amongV c l, litS s]) none) := rfl
def zR : AO := .row [.lit .nilFunc, litS (bs [])] 83
theorem st_rf (f : Fn) (a b : List AV) (s : ByteArray) : storeAt [zR] 2 (.ptr 0 0) (.agg [.fn f a b, litS s]) = some [.row [.fn f a b, litS s] 83] := rfl
theorem st_ra (c : Option Nat) (l : List ByteArray) (s : ByteArray) : storeAt [zR] 2 (.ptr 0 0) (.agg [amongV c l, litS s]) = some [.row [amongV c l, litS s] 83] := rfl
theorem rule_call {f : FuncId} {n : ByteArray} {r : Rule} {H' : List AO} (hm : mds f = .pure) (h : cw0 f [litS n] [] = some (.ret r.av, H')) (H : List AO) (id : Nat) : callV cw0 mds f [litS n] H id = some (.val r.av none) := by
  refine callV_frz (ids := []) hm rfl h ?_
  obtain ⟨q, g⟩ := r
  cases q <;> rfl
theorem unary_call (n : ByteArray) (H : List AO) (id : Nat) : callV cw0 mds 25 [litS n] H id = some (.val (unR n).av none) := by
  have a1 := among_call (some 1) [sBool]
  have a2 := among_call (some 2) [sRat, sNum]
  have a3 := among_call (some 2) [sInt, sNum]
  have a4 := among_call (some 3) numL3
  have r1 := st_rf (.func 28) [] []
  have r2 := st_ra (some 1) [sBool]
  have r3 := st_ra (some 2) [sRat, sNum]
  have r4 := st_ra (some 2) [sInt, sNum]
  have r5 := st_ra (some 3) numL3
  unfold zR at r1 r2 r3 r4 r5
  have key : ∃ H', cw0 25 [litS n] [] = some (.ret (unR n).av, H') := by
    refine cw0_ret fn25 (c := c25) rfl rfl rfl rfl ?_
    unfold unR
    cases h1 : isS n [110, 111, 116] with
    | true =>
      simp -implicitDefEqProofs only [c25, aW, ↓aP, makes, reduceLT, reduceEqDiff, reduceAdd, ↓reduceIte, Nat.reduceBEq, bin_eqlS, isS_eq, h1, core_bsl, bsl_n1, a1, core_bld2, bld2_am, bld2_fn, List.length_nil, r2]
      rfl
    | false =>
    cases h2 : isS n [112, 114, 101] with
    | true =>
      simp -implicitDefEqProofs only [c25, aW, ↓aP, makes, reduceLT, reduceEqDiff, reduceAdd, ↓reduceIte, Nat.reduceBEq, bin_eqlS, isS_eq, h1, h2, core_bsl, core_bld2, bld2_am, bld2_fn, List.length_nil, r1]
      rfl
    | false =>
    cases h3 : isS n [45] with
    | true =>
      simp -implicitDefEqProofs only [c25, aW, ↓aP, makes, reduceLT, reduceEqDiff, reduceAdd, ↓reduceIte, Nat.reduceBEq, bin_eqlS, isS_eq, h1, h2, h3, core_bsl, bsl_n3, a4, core_bld2, bld2_am, bld2_fn, List.length_nil, r5]
      rfl
    | false =>
    cases h4 : isS n [102, 108, 111, 111, 114] with
    | true =>
      simp -implicitDefEqProofs only [c25, aW, ↓aP, makes, reduceLT, reduceEqDiff, reduceAdd, ↓reduceIte, Nat.reduceBEq, bin_eqlS, isS_eq, h1, h2, h3, h4, core_bsl, bsl_n2, a2, core_bld2, bld2_am, bld2_fn, List.length_nil, r3]
      rfl
    | false =>
    cases h5 : isS n [114, 97, 116] with
    | true =>
      simp -implicitDefEqProofs only [c25, aW, ↓aP, makes, reduceLT, reduceEqDiff, reduceAdd, ↓reduceIte, Nat.reduceBEq, bin_eqlS, isS_eq, h1, h2, h3, h4, h5, core_bsl, bsl_n2i, a3, core_bld2, bld2_am, bld2_fn, List.length_nil, r4]
      rfl
    | false =>
      simp -implicitDefEqProofs only [c25, aW, ↓aP, makes, reduceLT, reduceEqDiff, reduceAdd, ↓reduceIte, Nat.reduceBEq, bin_eqlS, isS_eq, h1, h2, h3, h4, h5, core_bsl, bsl_n2, a2, core_bld2, bld2_am, bld2_fn, List.length_nil, r3]
      rfl
  obtain ⟨H', key⟩ := key
  exact rule_call rfl key H id
theorem binary_call (n : ByteArray) (H : List AO) (id : Nat) : callV cw0 mds 27 [litS n] H id = some (.val (binR n).av none) := by
  have a1 := among_call (some 1) [sBool]
  have a2 := among_call (some 2) [sRat, sNum]
  have a3 := among_call (some 2) [sInt, sNum]
  have a4 := among_call (some 3) numL3
  have r1 := st_rf (.func 28) [] []
  have r2 := st_ra (some 1) [sBool]
  have r3 := st_ra (some 2) [sRat, sNum]
  have r4 := st_ra (some 2) [sInt, sNum]
  have r5 := st_ra (some 3) numL3
  unfold zR at r1 r2 r3 r4 r5
  have key : ∃ H', cw0 27 [litS n] [] = some (.ret (binR n).av, H') := by
    refine cw0_ret fn27 (c := c27) rfl rfl rfl rfl ?_
    unfold binR
    cases h1 : isS n [97, 110, 100] with
    | true =>
      simp -implicitDefEqProofs only [c27, aW, ↓aP, makes, reduceLT, reduceEqDiff, reduceAdd, ↓reduceIte, Nat.reduceBEq, bin_eqlS, isS_eq, h1, core_bsl, bsl_n1, a1, core_bld2, bld2_am, bld2_fn, List.length_nil, r2]
      rfl
    | false =>
    cases h2 : isS n [111, 114] with
    | true =>
      simp -implicitDefEqProofs only [c27, aW, ↓aP, makes, reduceLT, reduceEqDiff, reduceAdd, ↓reduceIte, Nat.reduceBEq, bin_eqlS, isS_eq, h1, h2, core_bsl, bsl_n1, a1, core_bld2, bld2_am, bld2_fn, List.length_nil, r2]
      rfl
    | false =>
    cases h3 : isS n [45, 62] with
    | true =>
      simp -implicitDefEqProofs only [c27, aW, ↓aP, makes, reduceLT, reduceEqDiff, reduceAdd, ↓reduceIte, Nat.reduceBEq, bin_eqlS, isS_eq, h1, h2, h3, core_bsl, core_bld2, bld2_am, bld2_fn, List.length_nil, r1]
      rfl
    | false =>
    cases h4 : isS n [102, 98, 121] with
    | true =>
      simp -implicitDefEqProofs only [c27, aW, ↓aP, makes, reduceLT, reduceEqDiff, reduceAdd, ↓reduceIte, Nat.reduceBEq, bin_eqlS, isS_eq, h1, h2, h3, h4, core_bsl, core_bld2, bld2_am, bld2_fn, List.length_nil, r1]
      rfl
    | false =>
    cases h5 : isS n [43] with
    | true =>
      simp -implicitDefEqProofs only [c27, aW, ↓aP, makes, reduceLT, reduceEqDiff, reduceAdd, ↓reduceIte, Nat.reduceBEq, bin_eqlS, isS_eq, h1, h2, h3, h4, h5, core_bsl, bsl_n3, a4, core_bld2, bld2_am, bld2_fn, List.length_nil, r5]
      rfl
    | false =>
    cases h6 : isS n [45] with
    | true =>
      simp -implicitDefEqProofs only [c27, aW, ↓aP, makes, reduceLT, reduceEqDiff, reduceAdd, ↓reduceIte, Nat.reduceBEq, bin_eqlS, isS_eq, h1, h2, h3, h4, h5, h6, core_bsl, bsl_n3, a4, core_bld2, bld2_am, bld2_fn, List.length_nil, r5]
      rfl
    | false =>
    cases h7 : isS n [42] with
    | true =>
      simp -implicitDefEqProofs only [c27, aW, ↓aP, makes, reduceLT, reduceEqDiff, reduceAdd, ↓reduceIte, Nat.reduceBEq, bin_eqlS, isS_eq, h1, h2, h3, h4, h5, h6, h7, core_bsl, bsl_n3, a4, core_bld2, bld2_am, bld2_fn, List.length_nil, r5]
      rfl
    | false =>
    cases h8 : isS n [47] with
    | true =>
      simp -implicitDefEqProofs only [c27, aW, ↓aP, makes, reduceLT, reduceEqDiff, reduceAdd, ↓reduceIte, Nat.reduceBEq, bin_eqlS, isS_eq, h1, h2, h3, h4, h5, h6, h7, h8, core_bsl, bsl_n2, a2, core_bld2, bld2_am, bld2_fn, List.length_nil, r3]
      rfl
    | false =>
    cases h9 : isS n [100, 105, 118] with
    | true =>
      simp -implicitDefEqProofs only [c27, aW, ↓aP, makes, reduceLT, reduceEqDiff, reduceAdd, ↓reduceIte, Nat.reduceBEq, bin_eqlS, isS_eq, h1, h2, h3, h4, h5, h6, h7, h8, h9, core_bsl, bsl_n2i, a3, core_bld2, bld2_am, bld2_fn, List.length_nil, r4]
      rfl
    | false =>
    cases h10 : isS n [109, 111, 100] with
    | true =>
      simp -implicitDefEqProofs only [c27, aW, ↓aP, makes, reduceLT, reduceEqDiff, reduceAdd, ↓reduceIte, Nat.reduceBEq, bin_eqlS, isS_eq, h1, h2, h3, h4, h5, h6, h7, h8, h9, h10, core_bsl, bsl_n2i, a3, core_bld2, bld2_am, bld2_fn, List.length_nil, r4]
      rfl
    | false =>
    cases h11 : isS n [61, 61] with
    | true =>
      simp -implicitDefEqProofs only [c27, aW, ↓aP, makes, reduceLT, reduceEqDiff, reduceAdd, ↓reduceIte, Nat.reduceBEq, bin_eqlS, isS_eq, h1, h2, h3, h4, h5, h6, h7, h8, h9, h10, h11, core_bsl, core_bld2, bld2_am, bld2_fn, List.length_nil, r1]
      rfl
    | false =>
    cases h12 : isS n [33, 61] with
    | true =>
      simp -implicitDefEqProofs only [c27, aW, ↓aP, makes, reduceLT, reduceEqDiff, reduceAdd, ↓reduceIte, Nat.reduceBEq, bin_eqlS, isS_eq, h1, h2, h3, h4, h5, h6, h7, h8, h9, h10, h11, h12, core_bsl, core_bld2, bld2_am, bld2_fn, List.length_nil, r1]
      rfl
    | false =>
      simp -implicitDefEqProofs only [c27, aW, ↓aP, makes, reduceLT, reduceEqDiff, reduceAdd, ↓reduceIte, Nat.reduceBEq, bin_eqlS, isS_eq, h1, h2, h3, h4, h5, h6, h7, h8, h9, h10, h11, h12, core_bsl, bsl_n3, a4, core_bld2, bld2_am, bld2_fn, List.length_nil, r5]
      rfl
  obtain ⟨H', key⟩ := key
  exact rule_call rfl key H id
end
section
def foldJ : ByteArray → List ByteArray → Option ByteArray
  | t, [] => some t
  | t, o :: r => if (joinB t o).2 = true then foldJ (joinB t o).1 r else none
def applyR (r : Rule) (x : ByteArray) (rs : List ByteArray) : Option ByteArray :=
  match foldJ x rs with
  | none => none
  | some t => if askB r.asks t = true then some (if sEq r.gives (bs []) = true then t else r.gives) else none
theorem sl_tail (c : Option Nat) (x : ByteArray) (rs : List ByteArray) : ∃ c', slice 1 (strs c (x :: rs)) (some (litI .i64 1)) none none = some (strs c' rs) := by
  refine ⟨c.bind fun k => some (k - 1), ?_⟩
  have hb : bound (litI .i64 1) ((x :: rs).map fun s => [litS s]).length = some 1 := by
    unfold bound litI
    have h1 : decide ((1 : Int) ≤ (((x :: rs).map fun s => [litS s]).length : Nat)) = true := by
      simp only [List.length_map, List.length_cons, decide_eq_true_eq]; omega
    simp only [h1, Int.reduceLE, decide_true, Bool.and_self, cond_true]
    rfl
  unfold strs
  simp only [slice, cuts, hb, beq_self_eq_true, Bool.true_or, cond_true, Option.bind_some]
  simp only [List.map_cons, List.drop_succ_cons, List.drop_zero, List.length_cons, Nat.add_sub_cancel]
  rw [List.take_of_length_le (Nat.le_refl _)]
def rowR (r : Rule) : AO := .row [askV r.asks, litS r.gives] 83
theorem box_rule (r : Rule) (id : Nat) : boxV id 2 r.av 83 = some (.val (.ptr id 0) (some (rowR r))) := by
  obtain ⟨q, g⟩ := r
  cases q <;> rfl
theorem app_loop (r : Rule) (q : Int) (c : Option Nat) (rs : List ByteArray) (hl : rs.length ≤ 17592186044416) : ∀ (l : List ByteArray) (i : Nat) (t : ByteArray), rs.drop i = l → i ≤ rs.length →
    match foldJ t l with
    | some t' => ∃ (i' : AV), loopW (codeW cw0 (lookM mtl) mds c26l0) [1, 3, 7, 16, 17, 18] [(1, litI .i64 q), (3, .ptr 0 0), (7, litS t), (16, strs c rs), (17, litI .i64 rs.length), (18, litI .i64 i)] [rowR r] =
        some (.exit 0, [(1, litI .i64 q), (3, .ptr 0 0), (7, litS t'), (16, strs c rs), (17, litI .i64 rs.length), (18, i'), (19, litB false)], [rowR r])
    | none => ∃ fr' H', loopW (codeW cw0 (lookM mtl) mds c26l0) [1, 3, 7, 16, 17, 18] [(1, litI .i64 q), (3, .ptr 0 0), (7, litS t), (16, strs c rs), (17, litI .i64 rs.length), (18, litI .i64 i)] [rowR r] = some (.pan (stopA q), fr', H')
  | [], i, t, hd, hi => by
    have hn : rs.length ≤ i := by
      have := congrArg List.length hd
      rw [List.length_drop, List.length_nil] at this; omega
    rw [foldJ]
    refine ⟨litI .i64 i, loopW_out ?_ (by simp)⟩
    simp -implicitDefEqProofs only [c26l0, aW, ↓aP, makes, reduceLT, reduceEqDiff, reduceAdd, ↓reduceIte, Nat.reduceBEq, show ¬ ((i : Int) < rs.length) by omega]
  | o :: l, i, t, hd, hi => by
    have hlt : i < rs.length := by
      have := congrArg List.length hd
      rw [List.length_drop, List.length_cons] at this; omega
    have hg : rs[i]? = some o := by
      have := congrArg List.head? hd
      rwa [List.head?_drop] at this
    have hlti : (i : Int) < rs.length := by omega
    have jc := join_call t o
    rw [foldJ]
    cases hj : (joinB t o).2 with
    | true =>
      rw [if_pos rfl]
      rw [hj] at jc
      have ut := unless_t q
      have step : codeW cw0 (lookM mtl) mds c26l0 (keep [1, 3, 7, 16, 17, 18] [(1, litI .i64 q), (3, .ptr 0 0), (7, litS t), (16, strs c rs), (17, litI .i64 rs.length), (18, litI .i64 i)]) [rowR r] =
          some (.normal, [(1, litI .i64 q), (3, .ptr 0 0), (7, litS (joinB t o).1), (16, strs c rs), (17, litI .i64 rs.length), (18, litI .i64 ((i + 1 : Nat) : Int))], [rowR r]) := by
        simp -implicitDefEqProofs only [c26l0, aW, ↓aP, makes, reduceLT, reduceEqDiff, reduceAdd, ↓reduceIte, Nat.reduceBEq, hlti, iadr_strs hg, jc, ut, wadd (show i < 4611686018427387904 by omega)]
      have ih := app_loop r q c rs hl l (i + 1) (joinB t o).1 (by rw [← List.drop_drop, hd]; rfl) (by omega)
      cases hf : foldJ (joinB t o).1 l with
      | some t' =>
        rw [hf] at ih
        obtain ⟨i', L⟩ := ih
        exact ⟨i', loopW_round step L⟩
      | none =>
        rw [hf] at ih
        obtain ⟨fr', H', L⟩ := ih
        exact ⟨fr', H', loopW_round step L⟩
    | false =>
      rw [if_neg (by decide)]
      rw [hj] at jc
      have uf := unless_f q
      refine loopW_pan ?_
      simp -implicitDefEqProofs only [c26l0, aW, ↓aP, makes, reduceLT, reduceEqDiff, reduceAdd, ↓reduceIte, Nat.reduceBEq, hlti, iadr_strs hg, jc, uf]
      rfl
theorem apply_tells (r : Rule) (hr : ∀ l, r.asks = some l → l.length ≤ 1000) (q : Int) (c : Option Nat) (x : ByteArray) (rs : List ByteArray) (hl : rs.length ≤ 17592186044415) :
    ∃ H', cw0 26 [r.av, litI .i64 q, strs c (x :: rs)] [] = some ((match applyR r x rs with | some s => .ret (litS s) | none => .pan (stopA q)), H') := by
  obtain ⟨c', ht⟩ := sl_tail c x rs
  have L := app_loop r q c' rs (by omega) rs 0 x rfl (Nat.zero_le _)
  rw [show ((0 : Nat) : Int) = 0 from rfl] at L
  have br := box_rule r
  have h0 : iadr 1 (strs c (x :: rs)) (litI .i64 0) = some (.ip [litS x]) := iadr_strs (i := 0) rfl
  have l0 : Ai.load [rowR r] none (.ptr 0 0) = some (askV r.asks) := rfl
  have l1 : Ai.load [rowR r] none (.ptr 0 1) = some (litS r.gives) := rfl
  cases hf : foldJ x rs with
  | none =>
    have ea : applyR r x rs = none := by unfold applyR; rw [hf]
    rw [ea]
    rw [hf] at L
    obtain ⟨fr', H', L⟩ := L
    refine ⟨H', cw0_of fn26 (c := c26) rfl rfl rfl rfl ?_⟩
    simp -implicitDefEqProofs only [c26, aW, ↓aP, makes, reduceLT, reduceEqDiff, reduceAdd, ↓reduceIte, Nat.reduceBEq, core_box, br, List.length_nil, h0, core_sli, ht, lenV_strs, L]
    rfl
  | some t =>
    rw [hf] at L
    obtain ⟨i', L⟩ := L
    have ac := ask_call r.asks hr t
    cases ha : askB r.asks t with
    | false =>
      have ea : applyR r x rs = none := by unfold applyR; rw [hf]; simp only [ha]; rfl
      rw [ea]
      rw [ha] at ac
      have uf := unless_f q
      refine ⟨[rowR r], cw0_of fn26 (c := c26) rfl rfl rfl rfl ?_⟩
      simp -implicitDefEqProofs only [c26, aW, ↓aP, makes, reduceLT, reduceEqDiff, reduceAdd, ↓reduceIte, Nat.reduceBEq, core_box, br, List.length_nil, h0, core_sli, ht, lenV_strs, L, fadr_ptr, l0, ac, uf]
      rfl
    | true =>
      rw [ha] at ac
      have ut := unless_t q
      cases hg : sEq r.gives (bs []) with
      | true =>
        have e : (r.gives.data.toList == (bs []).data.toList) = true := hg
        have ea : applyR r x rs = some t := by unfold applyR; rw [hf]; simp only [ha, hg]; rfl
        rw [ea]
        refine ⟨[rowR r], cw0_of fn26 (c := c26) rfl rfl rfl rfl ?_⟩
        simp -implicitDefEqProofs only [c26, aW, ↓aP, makes, reduceLT, reduceEqDiff, reduceAdd, ↓reduceIte, Nat.reduceBEq, core_box, br, List.length_nil, h0, core_sli, ht, lenV_strs, L, fadr_ptr, l0, l1, ac, ut, bin_neqS, e]
        rfl
      | false =>
        have e : (r.gives.data.toList == (bs []).data.toList) = false := hg
        have ea : applyR r x rs = some r.gives := by unfold applyR; rw [hf]; simp only [ha, hg]; rfl
        rw [ea]
        refine ⟨[rowR r], cw0_of fn26 (c := c26) rfl rfl rfl rfl ?_⟩
        simp -implicitDefEqProofs only [c26, aW, ↓aP, makes, reduceLT, reduceEqDiff, reduceAdd, ↓reduceIte, Nat.reduceBEq, core_box, br, List.length_nil, h0, core_sli, ht, lenV_strs, L, fadr_ptr, l0, l1, ac, ut, bin_neqS, e]
        rfl
theorem callV_flatP {f : FuncId} {args : List AV} {p : List AV × List Nat} {q : Int} {H H' : List AO} {id : Nat} (hm : mds f = .pure) (hf : mapL (frz H frzF) args = some p) (h : cw0 f p.1 [] = some (.pan (stopA q), H')) : callV cw0 mds f args H id = some (.pan (stopA q) H) := by
  unfold callV
  rw [hm]
  simp only
  rw [hf]
  simp only [Option.bind_some]
  rw [h]
  simp only [Option.bind_some]
  rw [show frz H' frzF (stopA q) = some (stopA q, []) from rfl]
  simp only [Option.bind_some]
  rw [show light H' (stopA q) (stopA q) = true from rfl, Bool.or_true]
  rfl
theorem apply_call (r : Rule) (hr : ∀ l, r.asks = some l → l.length ≤ 1000) (q : Int) (A : AV) (c : Option Nat) (ids : List Nat) (x : ByteArray) (rs : List ByteArray) (hl : rs.length ≤ 17592186044415) (H : List AO) (hA : frz H frzF A = some (strs c (x :: rs), ids)) (id : Nat) :
    callV cw0 mds 26 [r.av, litI .i64 q, A] H id = some (match applyR r x rs with | some s => .val (litS s) none | none => .pan (stopA q) H) := by
  obtain ⟨H', h⟩ := apply_tells r hr q c x rs hl
  have hr0 : frz H frzF r.av = some (r.av, []) := by
    obtain ⟨a, g⟩ := r
    cases a <;> rfl
  have hf : mapL (frz H frzF) [r.av, litI .i64 q, A] = some ([r.av, litI .i64 q, strs c (x :: rs)], ids) := by
    simp only [mapL, hr0, hA, Option.bind_some]
    rw [show frz H frzF (litI .i64 q) = some (litI .i64 q, []) from rfl]
    simp
  cases ha : applyR r x rs with
  | some s =>
    rw [ha] at h
    exact callV_flat rfl hf h
  | none =>
    rw [ha] at h
    exact callV_flatP rfl hf h
def dotB (s : ByteArray) : Bool := decide (0 ≤ dotF s)
theorem dot_call (s : ByteArray) (H : List AO) (id : Nat) : callV cw0 mds 44 [litS s, litS (bs [46])] H id = some (.val (litB (dotB s)) none) := by
  have c1 := ix69_call s
  have k1 : ∃ H', cw0 61 [litS s, litS (bs [46])] [] = some (.ret (litI .i64 (dotF s)), H') := by
    refine cw0_ret fn61 (c := c61) rfl rfl rfl rfl ?_
    simp -implicitDefEqProofs only [c61, aW, ↓aP, makes, reduceLT, reduceEqDiff, reduceAdd, ↓reduceIte, Nat.reduceBEq, c1]
    rfl
  obtain ⟨H1, k1⟩ := k1
  have c2 : ∀ H id, callV cw0 mds 61 [litS s, litS (bs [46])] H id = some (.val (litI .i64 (dotF s)) none) := fun H id => callV_pure rfl rfl k1 rfl
  have k2 : ∃ H', cw0 44 [litS s, litS (bs [46])] [] = some (.ret (litB (dotB s)), H') := by
    refine cw0_ret fn44 (c := c44) rfl rfl rfl rfl ?_
    simp -implicitDefEqProofs only [c44, aW, ↓aP, makes, reduceLT, reduceEqDiff, reduceAdd, ↓reduceIte, Nat.reduceBEq, c2]
    rfl
  obtain ⟨H2, k2⟩ := k2
  exact callV_pure rfl rfl k2 rfl
theorem index62_call (c : Option Nat) (l : List ByteArray) (v : ByteArray) (hl : l.length ≤ 17592186044416) (H : List AO) (id : Nat) : callV cw0 mds 62 [strs c l, litS v] H id = some (.val (litI .i64 (findF (sEq v) 0 l)) none) := by
  have h : ∃ H', cw0 62 [rowS c l, litS v] [] = some (.ret (litI .i64 (findF (sEq v) 0 l)), H') := by
    have L := index51_loop c l v hl l 0 rfl (Nat.zero_le _)
    rw [show ((0 : Nat) : Int) = 0 from rfl] at L
    refine cw0_ret fn62 (c := c62) rfl rfl rfl rfl ?_
    rcases L with ⟨h1, i', L⟩ | L
    · rw [h1]
      simp -implicitDefEqProofs only [c62, aW, ↓aP, makes, reduceLT, reduceEqDiff, reduceAdd, ↓reduceIte, Nat.reduceBEq, lenV_rowS, L]
      rfl
    · simp -implicitDefEqProofs only [c62, aW, ↓aP, makes, reduceLT, reduceEqDiff, reduceAdd, ↓reduceIte, Nat.reduceBEq, lenV_rowS, L]
      rfl
  obtain ⟨H1, h⟩ := h
  exact callV_pure rfl rfl h rfl
def ctorF (v : ByteArray) : Nat → List EnV → Int × Int
  | _, [] => (-1, -1)
  | n, e :: r => if 0 ≤ findF (sEq v) 0 e.ctors then ((n : Int), findF (sEq v) 0 e.ctors) else ctorF v (n + 1) r
theorem ctorF_rng (v : ByteArray) : ∀ (r : List EnV) (n : Nat), ctorF v n r = (-1, -1) ∨ ∃ i, i < r.length ∧ (ctorF v n r).1 = ((n + i : Nat) : Int)
  | [], n => .inl rfl
  | e :: r, n => by
    rw [ctorF]
    split
    · exact .inr ⟨0, by simp, rfl⟩
    · rcases ctorF_rng v r (n + 1) with h | ⟨i, h1, h2⟩
      · exact .inl h
      · exact .inr ⟨i + 1, by simp; omega, by rw [h2]; congr 1; omega⟩
def zEn : List AV := [litS (bs []), .sl 0 [] (some 0), litI .i64 0]
theorem ctor_loop (p : PrV) (ok : PrOk p) (v : ByteArray) : ∀ (es : List EnV) (i : Nat) (H : List AO), p.enums.drop i = es → i ≤ p.enums.length →
    (ctorF v i es = (-1, -1) ∧ ∃ (i' x : AV) (K : List AO), loopW (codeW cw0 (lookM mtl) mds c45l0) [1, 10, 11, 12] [(1, litS v), (10, .sl 3 (p.enums.map EnV.cells) none), (11, litI .i64 p.enums.length), (12, litI .i64 i)] H =
        some (.exit 0, [(1, litS v), (10, .sl 3 (p.enums.map EnV.cells) none), (11, litI .i64 p.enums.length), (12, i'), (13, x)], H ++ K)) ∨
    ∃ K, loopW (codeW cw0 (lookM mtl) mds c45l0) [1, 10, 11, 12] [(1, litS v), (10, .sl 3 (p.enums.map EnV.cells) none), (11, litI .i64 p.enums.length), (12, litI .i64 i)] H = some (.ret, [(4, litI .i64 (ctorF v i es).1), (5, litI .i64 (ctorF v i es).2)], H ++ K)
  | [], i, H, hd, hi => by
    have hn : p.enums.length ≤ i := by
      have := congrArg List.length hd
      rw [List.length_drop, List.length_nil] at this; omega
    left
    refine ⟨rfl, litI .i64 i, litB false, [], ?_⟩
    rw [List.append_nil]
    refine loopW_out ?_ (by simp)
    simp -implicitDefEqProofs only [c45l0, aW, ↓aP, makes, reduceLT, reduceEqDiff, reduceAdd, ↓reduceIte, Nat.reduceBEq, show ¬ ((i : Int) < p.enums.length) by omega]
  | e :: es, i, H, hd, hi => by
    have hlt : i < p.enums.length := by
      have := congrArg List.length hd
      rw [List.length_drop, List.length_cons] at this; omega
    have hg : p.enums[i]? = some e := by
      have := congrArg List.head? hd
      rwa [List.head?_drop] at this
    have hg' : (p.enums.map EnV.cells)[i]? = some e.cells := by rw [List.getElem?_map, hg]; rfl
    have hlti : (i : Int) < p.enums.length := by omega
    have hel := ok.el
    have hE := (ok.en e (List.mem_of_getElem? hg)).len
    have hE' : e.ctors.length ≤ 17592186044416 := by unfold reachBytes at hE; omega
    have ic := index62_call none e.ctors v hE'
    have hst : storeAt (H ++ [.row zEn 46]) 3 (.ptr H.length 0) (.agg e.cells) = some (H ++ [.row e.cells 46]) := st_new H rfl rfl rfl
    unfold zEn at hst
    have hL3 : ∀ H : List AO, Ai.load H (some 3) (.ip e.cells) = some (.agg e.cells) := fun H => load_ipA rfl
    have l1 : Ai.load (H ++ [.row e.cells 46]) none (.ptr H.length 1) = some (strs none e.ctors) := by rw [load_ptr (get_last H _)]; rfl
    rw [ctorF]
    by_cases h0 : 0 ≤ findF (sEq v) 0 e.ctors
    · right
      rw [if_pos h0]
      refine ⟨[.row e.cells 46], loopW_out ?_ (by simp)⟩
      simp -implicitDefEqProofs only [c45l0, aW, ↓aP, makes, reduceLT, reduceEqDiff, reduceAdd, ↓reduceIte, Nat.reduceBEq, hlti, iadr_ix hg', hL3, hst, fadr_ptr, l1, ic, h0]
    · rw [if_neg h0]
      have step : codeW cw0 (lookM mtl) mds c45l0 (keep [1, 10, 11, 12] [(1, litS v), (10, .sl 3 (p.enums.map EnV.cells) none), (11, litI .i64 p.enums.length), (12, litI .i64 i)]) H =
          some (.normal, [(1, litS v), (10, .sl 3 (p.enums.map EnV.cells) none), (11, litI .i64 p.enums.length), (12, litI .i64 ((i + 1 : Nat) : Int))], H ++ [.row e.cells 46]) := by
        simp -implicitDefEqProofs only [c45l0, aW, ↓aP, makes, reduceLT, reduceEqDiff, reduceAdd, ↓reduceIte, Nat.reduceBEq, hlti, iadr_ix hg', hL3, hst, fadr_ptr, l1, ic, h0, wadd (show i < 4611686018427387904 by omega)]
      rcases ctor_loop p ok v es (i + 1) (H ++ [.row e.cells 46]) (by rw [← List.drop_drop, hd]; rfl) (by omega) with ⟨h1, i', x, K, L⟩ | ⟨K, L⟩
      · left
        refine ⟨h1, i', x, [.row e.cells 46] ++ K, ?_⟩
        rw [← List.append_assoc]; exact loopW_round step L
      · right
        refine ⟨[.row e.cells 46] ++ K, ?_⟩
        rw [← List.append_assoc]; exact loopW_round step L
theorem box_pr (p : PrV) (id : Nat) : boxV id 2 (.agg p.cells) 25 = some (.val (.ptr id 0) (some (.row p.cells 25))) := boxV_agg rfl rfl
theorem enum_call (p : PrV) (ok : PrOk p) (v : ByteArray) (H : List AO) (id : Nat) : callV cw0 mds 45 [.agg p.cells, litS v] H id = some (.val (.tup [litI .i64 (ctorF v 0 p.enums).1, litI .i64 (ctorF v 0 p.enums).2]) none) := by
  have L := ctor_loop p ok v p.enums 0 [.row p.cells 25] rfl (Nat.zero_le _)
  rw [show ((0 : Nat) : Int) = 0 from rfl] at L
  have bp := box_pr p
  have l0 : Ai.load [.row p.cells 25] none (.ptr 0 0) = some (.sl 3 (p.enums.map EnV.cells) none) := rfl
  have key : ∃ H', cw0 45 [.agg p.cells, litS v] [] = some (.ret (.tup [litI .i64 (ctorF v 0 p.enums).1, litI .i64 (ctorF v 0 p.enums).2]), H') := by
    refine cw0_ret fn45 (c := c45) rfl rfl rfl rfl ?_
    rcases L with ⟨h1, i', x, K, L⟩ | ⟨K, L⟩
    · rw [h1]
      simp -implicitDefEqProofs only [c45, aW, ↓aP, makes, reduceLT, reduceEqDiff, reduceAdd, ↓reduceIte, Nat.reduceBEq, core_box, bp, List.length_nil, fadr_ptr, l0, List.length_map, L]
      rfl
    · simp -implicitDefEqProofs only [c45, aW, ↓aP, makes, reduceLT, reduceEqDiff, reduceAdd, ↓reduceIte, Nat.reduceBEq, core_box, bp, List.length_nil, fadr_ptr, l0, List.length_map, L]
      rfl
  obtain ⟨H', key⟩ := key
  unfold callV
  rw [show mds 45 = .pure from rfl]
  simp only
  rw [show frzF = 14 + 2 from rfl, mapL_wholeA rfl]
  simp only [Option.bind_some]
  rw [key]
  rfl
end
section
theorem box_no (d : NoV) (id : Nat) : boxV id 7 (.agg d.cells) 35 = some (.val (.ptr id 0) (some (.row d.cells 35))) := boxV_agg rfl rfl
theorem is60_call (d : NoV) (s : ByteArray) (H : List AO) (id : Nat) : fnV cw0 mds (.fn (.func 60) [] [.ip [litS s]]) [.agg d.cells] H id = some (.val (litB (sEq d.name s)) none) := by
  have bn := box_no d
  have l0 : Ai.load [.row d.cells 35] none (.ptr 0 0) = some (litS d.name) := rfl
  have key : ∃ H', cw0 60 [.agg d.cells, .ip [litS s]] [] = some (.ret (litB (sEq d.name s)), H') := by
    refine cw0_ret fn60 (c := c60) rfl rfl rfl rfl ?_
    simp -implicitDefEqProofs only [c60, aW, ↓aP, makes, reduceLT, reduceEqDiff, reduceAdd, ↓reduceIte, Nat.reduceBEq, core_box, bn, List.length_nil, fadr_ptr, l0, bin_eqlS]
    rfl
  obtain ⟨H', key⟩ := key
  show callV cw0 mds 60 ([] ++ [.agg d.cells] ++ [.ip [litS s]]) H id = _
  exact callV_pureA rfl rfl key rfl
theorem node59_loop (p : PrV) (ok : PrOk p) (fv : AV) (g : NoV → Bool) (hp : ∀ d H id, fnV cw0 mds fv [.agg d.cells] H id = some (.val (litB (g d)) none)) : ∀ (r : List NoV) (n : Nat), p.nodes.drop n = r → n ≤ p.nodes.length →
    (findF g n r = -1 ∧ ∃ i', loopW (codeW cw0 (lookM mtl) mds c59l0) [0, 1, 7, 8] [(0, .sl 7 (p.nodes.map NoV.cells) none), (1, fv), (7, litI .i64 p.nodes.length), (8, litI .i64 n)] [] = some (.exit 0, [(0, .sl 7 (p.nodes.map NoV.cells) none), (1, fv), (7, litI .i64 p.nodes.length), (8, i'), (9, litB false)], [])) ∨
    loopW (codeW cw0 (lookM mtl) mds c59l0) [0, 1, 7, 8] [(0, .sl 7 (p.nodes.map NoV.cells) none), (1, fv), (7, litI .i64 p.nodes.length), (8, litI .i64 n)] [] = some (.ret, [(4, litI .i64 (findF g n r))], [])
  | [], n, hd, hn => by
    have h : p.nodes.length ≤ n := by
      have := congrArg List.length hd
      rw [List.length_drop, List.length_nil] at this; omega
    left
    refine ⟨rfl, litI .i64 n, ?_⟩
    refine loopW_out ?_ (by simp)
    simp -implicitDefEqProofs only [c59l0, aW, ↓aP, makes, reduceLT, reduceEqDiff, reduceAdd, ↓reduceIte, Nat.reduceBEq, show ¬ ((n : Int) < p.nodes.length) by omega]
  | d :: r, n, hd, hn => by
    have hlt : n < p.nodes.length := by
      have := congrArg List.length hd
      rw [List.length_drop, List.length_cons] at this; omega
    have hg : p.nodes[n]? = some d := by
      have := congrArg List.head? hd
      rwa [List.head?_drop] at this
    have hg' : (p.nodes.map NoV.cells)[n]? = some d.cells := by rw [List.getElem?_map, hg]; rfl
    have hlti : (n : Int) < p.nodes.length := by omega
    have hnl := ok.nl
    have hc := hp d
    have hL7 : ∀ H : List AO, Ai.load H (some 7) (.ip d.cells) = some (.agg d.cells) := fun H => load_ipA d.len
    rw [findF]
    cases hx : g d with
    | true =>
      rw [hx] at hc
      right
      rw [cond_true]
      refine loopW_out ?_ (by simp)
      simp -implicitDefEqProofs only [c59l0, aW, ↓aP, makes, reduceLT, reduceEqDiff, reduceAdd, ↓reduceIte, Nat.reduceBEq, hlti, iadr_ix hg', hL7, hc]
    | false =>
      rw [hx] at hc
      rw [cond_false]
      have step : codeW cw0 (lookM mtl) mds c59l0 (keep [0, 1, 7, 8] [(0, .sl 7 (p.nodes.map NoV.cells) none), (1, fv), (7, litI .i64 p.nodes.length), (8, litI .i64 n)]) [] = some (.normal, [(0, .sl 7 (p.nodes.map NoV.cells) none), (1, fv), (7, litI .i64 p.nodes.length), (8, litI .i64 ((n + 1 : Nat) : Int))], []) := by
        simp -implicitDefEqProofs only [c59l0, aW, ↓aP, makes, reduceLT, reduceEqDiff, reduceAdd, ↓reduceIte, Nat.reduceBEq, hlti, iadr_ix hg', hL7, hc, wadd (show n < 4611686018427387904 by omega)]
      rcases node59_loop p ok fv g hp r (n + 1) (by rw [← List.drop_drop, hd]; rfl) (by omega) with ⟨h1, i', h⟩ | h
      · exact .inl ⟨h1, i', loopW_round step h⟩
      · exact .inr (loopW_round step h)
def nodeF (p : PrV) (s : ByteArray) : Int := findF (fun d : NoV => sEq d.name s) 0 p.nodes
theorem node_call (p : PrV) (ok : PrOk p) (s : ByteArray) (H : List AO) (id : Nat) : callV cw0 mds 42 [.agg p.cells, litS s] H id = some (.val (litI .i64 (nodeF p s)) none) := by
  have L := node59_loop p ok (.fn (.func 60) [] [.ip [litS s]]) (fun d => sEq d.name s) (fun d H id => is60_call d s H id) p.nodes 0 rfl (Nat.zero_le _)
  rw [show ((0 : Nat) : Int) = 0 from rfl] at L
  have k59 : ∃ H', cw0 59 [.sl 7 (p.nodes.map NoV.cells) none, .fn (.func 60) [] [.ip [litS s]]] [] = some (.ret (litI .i64 (nodeF p s)), H') := by
    refine cw0_ret fn59 (c := c59) rfl rfl rfl rfl ?_
    unfold nodeF
    rcases L with ⟨h1, i', L⟩ | L
    · rw [h1]
      simp -implicitDefEqProofs only [c59, aW, ↓aP, makes, reduceLT, reduceEqDiff, reduceAdd, ↓reduceIte, Nat.reduceBEq, List.length_map, L]
      rfl
    · simp -implicitDefEqProofs only [c59, aW, ↓aP, makes, reduceLT, reduceEqDiff, reduceAdd, ↓reduceIte, Nat.reduceBEq, List.length_map, L]
      rfl
  obtain ⟨H1, k59⟩ := k59
  have bp := box_pr p
  have bs1 : ∀ id, boxV id 1 (litS s) 9 = some (.val (.ptr id 0) (some (.row [litS s] 9))) := fun id => rfl
  have l1 : Ai.load [.row p.cells 25, .row [litS s] 9] none (.ptr 0 1) = some (.sl 7 (p.nodes.map NoV.cells) none) := rfl
  have hf : mapL (frz [.row p.cells 25, .row [litS s] 9] frzF) [.sl 7 (p.nodes.map NoV.cells) none, .fn (.func 60) [] [.ptr 1 0]] = some ([.sl 7 (p.nodes.map NoV.cells) none, .fn (.func 60) [] [.ip [litS s]]], [1]) := rfl
  have hc : ∀ id, callV cw0 mds 59 [.sl 7 (p.nodes.map NoV.cells) none, .fn (.func 60) [] [.ptr 1 0]] [.row p.cells 25, .row [litS s] 9] id = some (.val (litI .i64 (nodeF p s)) none) := fun id => callV_flat rfl hf k59
  have key : ∃ H', cw0 42 [.agg p.cells, litS s] [] = some (.ret (litI .i64 (nodeF p s)), H') := by
    refine cw0_ret fn42 (c := c42) rfl rfl rfl rfl ?_
    simp -implicitDefEqProofs only [c42, aW, ↓aP, makes, reduceLT, reduceEqDiff, reduceAdd, ↓reduceIte, Nat.reduceBEq, core_box, bp, bs1, List.length_nil, List.length_cons, fadr_ptr, l1, core_mkf, hc]
    rfl
  obtain ⟨H', key⟩ := key
  exact callV_pureA rfl rfl key rfl
def strsEq (a b : List ByteArray) : Bool := a.length == b.length && (a.zip b).all fun p => sEq p.1 p.2
theorem str9_loop (c c' : Option Nat) (a b : List ByteArray) (hl : a.length ≤ 17592186044416) (hab : a.length = b.length) : ∀ (r q : List ByteArray) (i : Nat), a.drop i = r → b.drop i = q → i ≤ a.length →
    ((r.zip q).all (fun p => sEq p.1 p.2) = true ∧ ∃ i' x, loopW (codeW cw0 (lookM mtl) mds c9l0) [0, 1, 5] [(0, strs c a), (1, strs c' b), (5, litI .i64 i)] [] = some (.exit 0, [(0, strs c a), (1, strs c' b), (5, i'), (14, x)], [])) ∨
    ((r.zip q).all (fun p => sEq p.1 p.2) = false ∧ loopW (codeW cw0 (lookM mtl) mds c9l0) [0, 1, 5] [(0, strs c a), (1, strs c' b), (5, litI .i64 i)] [] = some (.ret, [(4, litB false)], []))
  | [], q, i, hd, hq, hi => by
    have hn : a.length ≤ i := by
      have := congrArg List.length hd
      rw [List.length_drop, List.length_nil] at this; omega
    left
    refine ⟨rfl, litI .i64 i, litB false, loopW_out ?_ (by simp)⟩
    simp -implicitDefEqProofs only [c9l0, aW, ↓aP, makes, reduceLT, reduceEqDiff, reduceAdd, ↓reduceIte, Nat.reduceBEq, lenV_strs, show ¬ ((i : Int) < a.length) by omega]
  | s :: r, [], i, hd, hq, hi => by
    exfalso
    have h1 := congrArg List.length hd
    have h2 := congrArg List.length hq
    simp only [List.length_drop, List.length_cons, List.length_nil] at h1 h2
    omega
  | s :: r, u :: q, i, hd, hq, hi => by
    have hlt : i < a.length := by
      have := congrArg List.length hd
      rw [List.length_drop, List.length_cons] at this; omega
    have hg : a[i]? = some s := by
      have := congrArg List.head? hd
      rwa [List.head?_drop] at this
    have hgb : b[i]? = some u := by
      have := congrArg List.head? hq
      rwa [List.head?_drop] at this
    have hlti : (i : Int) < a.length := by omega
    rw [List.zip_cons_cons, List.all_cons]
    cases hx : sEq s u with
    | false =>
      right
      have e : (s.data.toList == u.data.toList) = false := hx
      refine ⟨rfl, loopW_out ?_ (by simp)⟩
      simp -implicitDefEqProofs only [c9l0, aW, ↓aP, makes, reduceLT, reduceEqDiff, reduceAdd, ↓reduceIte, Nat.reduceBEq, lenV_strs, hlti, iadr_strs hg, iadr_strs hgb, bin_neqS, e]
      try rfl
    | true =>
      have e : (s.data.toList == u.data.toList) = true := hx
      have step : codeW cw0 (lookM mtl) mds c9l0 (keep [0, 1, 5] [(0, strs c a), (1, strs c' b), (5, litI .i64 i)]) [] = some (.normal, [(0, strs c a), (1, strs c' b), (5, litI .i64 ((i + 1 : Nat) : Int))], []) := by
        simp -implicitDefEqProofs only [c9l0, aW, ↓aP, makes, reduceLT, reduceEqDiff, reduceAdd, ↓reduceIte, Nat.reduceBEq, lenV_strs, hlti, iadr_strs hg, iadr_strs hgb, bin_neqS, e, wadd (show i < 4611686018427387904 by omega)]
        try rfl
      rw [Bool.true_and]
      rcases str9_loop c c' a b hl hab r q (i + 1) (by rw [← List.drop_drop, hd]; rfl) (by rw [← List.drop_drop, hq]; rfl) (by omega) with ⟨h1, i', x, h⟩ | ⟨h1, h⟩
      · exact .inl ⟨h1, i', x, loopW_round step h⟩
      · exact .inr ⟨h1, loopW_round step h⟩
theorem str9_tells (c c' : Option Nat) (a b : List ByteArray) (hl : a.length ≤ 17592186044416) : ∃ H', cw0 9 [strs c a, strs c' b] [] = some (.ret (litB (strsEq a b)), H') := by
  refine cw0_ret fn9 (c := c9) rfl rfl rfl rfl ?_
  by_cases hab : a.length = b.length
  · have e1 : (((a.length : Nat) : Int) != ((b.length : Nat) : Int)) = false := by rw [hab]; simp
    have L := str9_loop c c' a b hl hab a b 0 rfl rfl (Nat.zero_le _)
    rw [show ((0 : Nat) : Int) = 0 from rfl] at L
    have e2 : strsEq a b = (a.zip b).all fun p => sEq p.1 p.2 := by unfold strsEq; rw [hab, beq_self_eq_true, Bool.true_and]
    rw [e2]
    rcases L with ⟨h1, i', x, L⟩ | ⟨h1, L⟩
    · rw [h1]
      simp -implicitDefEqProofs only [c9, aW, ↓aP, makes, reduceLT, reduceEqDiff, reduceAdd, ↓reduceIte, Nat.reduceBEq, lenV_strs, e1, L]
      rfl
    · rw [h1]
      simp -implicitDefEqProofs only [c9, aW, ↓aP, makes, reduceLT, reduceEqDiff, reduceAdd, ↓reduceIte, Nat.reduceBEq, lenV_strs, e1, L]
      rfl
  · have e1 : (((a.length : Nat) : Int) != ((b.length : Nat) : Int)) = true := by
      rw [bne_iff_ne]; omega
    have e2 : strsEq a b = false := by unfold strsEq; rw [show (a.length == b.length) = false from by simpa using hab, Bool.false_and]
    rw [e2]
    simp -implicitDefEqProofs only [c9, aW, ↓aP, makes, reduceLT, reduceEqDiff, reduceAdd, ↓reduceIte, Nat.reduceBEq, lenV_strs, e1]
    rfl
theorem in6_loop (c : Option Nat) (l : List ByteArray) (s : ByteArray) (hl : l.length ≤ 17592186044416) : ∀ (r : List ByteArray) (i : Nat), l.drop i = r → i ≤ l.length →
    (r.any (fun x => sEq x s) = false ∧ ∃ i' x, loopW (codeW cw0 (lookM mtl) mds c6l0) [0, 1, 5] [(0, litS s), (1, strs c l), (5, litI .i64 i)] [] = some (.exit 0, [(0, litS s), (1, strs c l), (5, i'), (9, x)], [])) ∨
    (r.any (fun x => sEq x s) = true ∧ loopW (codeW cw0 (lookM mtl) mds c6l0) [0, 1, 5] [(0, litS s), (1, strs c l), (5, litI .i64 i)] [] = some (.ret, [(4, litB true)], []))
  | [], i, hd, hi => by
    have hn : l.length ≤ i := by
      have := congrArg List.length hd
      rw [List.length_drop, List.length_nil] at this; omega
    left
    refine ⟨rfl, litI .i64 i, litB false, loopW_out ?_ (by simp)⟩
    simp -implicitDefEqProofs only [c6l0, aW, ↓aP, makes, reduceLT, reduceEqDiff, reduceAdd, ↓reduceIte, Nat.reduceBEq, lenV_strs, show ¬ ((i : Int) < l.length) by omega]
  | u :: r, i, hd, hi => by
    have hlt : i < l.length := by
      have := congrArg List.length hd
      rw [List.length_drop, List.length_cons] at this; omega
    have hg : l[i]? = some u := by
      have := congrArg List.head? hd
      rwa [List.head?_drop] at this
    have hlti : (i : Int) < l.length := by omega
    rw [List.any_cons]
    cases hx : sEq u s with
    | true =>
      right
      have e : (u.data.toList == s.data.toList) = true := hx
      refine ⟨rfl, loopW_out ?_ (by simp)⟩
      simp -implicitDefEqProofs only [c6l0, aW, ↓aP, makes, reduceLT, reduceEqDiff, reduceAdd, ↓reduceIte, Nat.reduceBEq, lenV_strs, hlti, iadr_strs hg, bin_eqlS, e]
    | false =>
      have e : (u.data.toList == s.data.toList) = false := hx
      have step : codeW cw0 (lookM mtl) mds c6l0 (keep [0, 1, 5] [(0, litS s), (1, strs c l), (5, litI .i64 i)]) [] = some (.normal, [(0, litS s), (1, strs c l), (5, litI .i64 ((i + 1 : Nat) : Int))], []) := by
        simp -implicitDefEqProofs only [c6l0, aW, ↓aP, makes, reduceLT, reduceEqDiff, reduceAdd, ↓reduceIte, Nat.reduceBEq, lenV_strs, hlti, iadr_strs hg, bin_eqlS, e, wadd (show i < 4611686018427387904 by omega)]
      rw [Bool.false_or]
      rcases in6_loop c l s hl r (i + 1) (by rw [← List.drop_drop, hd]; rfl) (by omega) with ⟨h1, i', x, h⟩ | ⟨h1, h⟩
      · exact .inl ⟨h1, i', x, loopW_round step h⟩
      · exact .inr ⟨h1, loopW_round step h⟩
theorem in6_call (c : Option Nat) (l : List ByteArray) (s : ByteArray) (hl : l.length ≤ 17592186044416) (H : List AO) (id : Nat) : callV cw0 mds 6 [litS s, strs c l] H id = some (.val (litB (l.any fun x => sEq x s)) none) := by
  have L := in6_loop c l s hl l 0 rfl (Nat.zero_le _)
  rw [show ((0 : Nat) : Int) = 0 from rfl] at L
  have key : ∃ H', cw0 6 [litS s, strs c l] [] = some (.ret (litB (l.any fun x => sEq x s)), H') := by
    refine cw0_ret fn6 (c := c6) rfl rfl rfl rfl ?_
    rcases L with ⟨h1, i', x, L⟩ | ⟨h1, L⟩
    · rw [h1]
      simp -implicitDefEqProofs only [c6, aW, ↓aP, makes, reduceLT, reduceEqDiff, reduceAdd, ↓reduceIte, Nat.reduceBEq, L]
      rfl
    · rw [h1]
      simp -implicitDefEqProofs only [c6, aW, ↓aP, makes, reduceLT, reduceEqDiff, reduceAdd, ↓reduceIte, Nat.reduceBEq, L]
      rfl
  obtain ⟨H', key⟩ := key
  exact callV_pure rfl rfl key rfl
end
end Go.Proofs.YtkjimmmdeopnaaaGreat.Ai
