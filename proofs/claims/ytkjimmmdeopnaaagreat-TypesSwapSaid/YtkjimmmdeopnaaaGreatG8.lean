/- Seat of layer 9: leaves' types. No condition. -/
import Derived.Test.YtkjimmmdeopnaaaGreatG7
set_option linter.unusedSimpArgs false
set_option linter.unusedVariables false
set_option linter.unusedSectionVars false
open Nat (reduceLT reduceEqDiff reduceAdd)
namespace Go.Proofs.YtkjimmmdeopnaaaGreat.Ai
open Go Go.Ai
abbrev Vs := List (ByteArray × ByteArray)
def kvs (vs : Vs) : List (Value × AV) := vs.map fun x => (Value.string x.1, litS x.2)
def scL (p : PrV) (r : Nat) : List AV := [.sl 3 (p.enums.map EnV.cells) none, .sl 7 (p.nodes.map NoV.cells) none, .mpv r]
def varF : Vs → ByteArray → ByteArray
  | [], _ => bs []
  | x :: r, s => if sEq s x.1 = true then x.2 else varF r s
theorem find_str (s : ByteArray) : ∀ (vs : Vs) (i : Nat), (findK .str (.string s) (kvs vs) i).bind (fun o => match o with | some (_, a) => some a | none => some (litS (bs []))) = some (litS (varF vs s))
  | [], i => rfl
  | x :: r, i => by
    show ((match sameK .str (.string s) (.string x.1) with | some true => some (some (i, litS x.2)) | some false => findK .str (.string s) (kvs r) (i + 1) | none => none).bind _) = _
    rw [show sameK .str (.string s) (.string x.1) = some (sEq s x.1) from rfl, varF]
    cases sEq s x.1 with
    | true => rfl
    | false => exact find_str s r (i + 1)
theorem lk_str {H : List AO} {r : Nat} {vs : Vs} (h : H[r]? = some (.mp (kvs vs))) (s : ByteArray) : lkpV H .str false (litS (bs [])) (.mpv r) (litS s) = some (litS (varF vs s)) := by
  have hm : mapAt H (.mpv r) = some (kvs vs) := by
    show (match H[r]? with | some (.mp kvs) => some kvs | _ => none) = _
    rw [h]
  unfold lkpV
  rw [hm]
  simp only [Option.bind_some]
  rw [show Ai.keyOf .str (litS s) = some (.string s) from rfl]
  simp only [Option.bind_some]
  rw [← find_str s vs 0]
  rfl
def leafF (p : PrV) (vs : Vs) (k : Int) (n : ByteArray) : ByteArray :=
  if k = 1 then sBool
  else if k = 2 then (if dotB n = true then sRat else sNum)
  else if k = 3 then (match p.enums[(ctorF n 0 p.enums).1.toNat]? with
    | some e => if 0 ≤ (ctorF n 0 p.enums).1 then e.name else bs []
    | none => bs [])
  else varF vs n
theorem sc_box (p : PrV) (r : Nat) (id : Nat) : boxV id 3 (.agg (scL p r)) 57 = some (.val (.ptr id 0) (some (.row (scL p r) 57))) := boxV_agg rfl rfl
section
variable {H : List AO} {b r : Nat} {p : PrV}
theorem lsc3 (h : H[b]? = some (.row (scL p r) 57)) : Ai.load H (some 3) (.ptr b 0) = some (.agg (scL p r)) := by
  show (Ai.rowAt H b).bind _ = _
  unfold Ai.rowAt
  rw [h]; rfl
theorem lsc2 (h : H[b]? = some (.row (scL p r) 57)) : Ai.load H (some 2) (.ptr b 0) = some (.agg p.cells) := by
  show (Ai.rowAt H b).bind _ = _
  unfold Ai.rowAt
  rw [h]; rfl
theorem lsc0 (h : H[b]? = some (.row (scL p r) 57)) : Ai.load H none (.ptr b 0) = some (.sl 3 (p.enums.map EnV.cells) none) := by rw [load_ptr h]; rfl
theorem lsc1 (h : H[b]? = some (.row (scL p r) 57)) : Ai.load H none (.ptr b 1) = some (.sl 7 (p.nodes.map NoV.cells) none) := by rw [load_ptr h]; rfl
theorem lscv (h : H[b]? = some (.row (scL p r) 57)) : Ai.load H none (.ptr b 2) = some (.mpv r) := by rw [load_ptr h]; rfl
end
theorem enum_name {p : PrV} {n : ByteArray} (h : 0 ≤ (ctorF n 0 p.enums).1) : ∃ e, p.enums[(ctorF n 0 p.enums).1.toNat]? = some e ∧ (ctorF n 0 p.enums).1 = (((ctorF n 0 p.enums).1.toNat : Nat) : Int) := by
  rcases ctorF_rng n p.enums 0 with h1 | ⟨i, h1, h2⟩
  · rw [h1] at h; exact absurd h (by decide)
  · rw [h2, Nat.zero_add, Int.toNat_natCast]
    exact ⟨_, List.getElem?_eq_getElem h1, rfl⟩
theorem leaf_tells (p : PrV) (ok : PrOk p) (vs : Vs) (r : Nat) (t : Tr) (H : List AO) (hM : H[r]? = some (.mp (kvs vs))) :
    cw0 30 [.agg (scL p r), .agg t.cells] H = some (.ret (litS (leafF p vs t.k t.n)), H ++ [.row (scL p r) 57, rowT t]) := by
  refine cw0_of fn30 (c := c30) rfl rfl rfl rfl ?_
  have sb := sc_box p r
  have bt := box_tr t
  have e2 : (H ++ [.row (scL p r) 57]) ++ [rowT t] = H ++ [.row (scL p r) 57, rowT t] := by rw [List.append_assoc]; rfl
  have g0 : (H ++ [.row (scL p r) 57, rowT t])[H.length]? = some (.row (scL p r) 57) := by rw [List.getElem?_append_right (Nat.le_refl _), Nat.sub_self]; rfl
  have g1 : (H ++ [.row (scL p r) 57, rowT t])[(H ++ [AO.row (scL p r) 57]).length]? = some (rowT t) := by rw [← e2]; exact get_last _ _
  have gm : (H ++ [.row (scL p r) 57, rowT t])[r]? = some (.mp (kvs vs)) := get_old hM _
  have k0 := ld0 g1
  have k1 := ld1 g1
  have dc := dot_call t.n
  have ec := enum_call p ok t.n
  have s2 := lsc2 g0
  have s0 := lsc0 g0
  have sv := lscv g0
  have lk := lk_str gm t.n
  unfold leafF
  by_cases h1 : t.k = 1
  · have x1 : (t.k == 1) = true := by rw [h1]; rfl
    rw [if_pos h1]
    simp -implicitDefEqProofs only [c30, aW, ↓aP, makes, reduceLT, reduceEqDiff, reduceAdd, ↓reduceIte, Nat.reduceBEq, core_box, sb, bt, e2, fadr_ptr, k0, x1]
    rfl
  · have x1 : (t.k == 1) = false := by rwa [beq_eq_false_iff_ne]
    rw [if_neg h1]
    by_cases h2 : t.k = 2
    · have x2 : (t.k == 2) = true := by rw [h2]; rfl
      rw [if_pos h2]
      cases hd : dotB t.n with
      | true =>
        rw [hd] at dc
        rw [if_pos rfl]
        simp -implicitDefEqProofs only [c30, aW, ↓aP, makes, reduceLT, reduceEqDiff, reduceAdd, ↓reduceIte, Nat.reduceBEq, core_box, sb, bt, e2, fadr_ptr, k0, k1, x1, x2, dc]
        rfl
      | false =>
        rw [hd] at dc
        rw [if_neg (by decide)]
        simp -implicitDefEqProofs only [c30, aW, ↓aP, makes, reduceLT, reduceEqDiff, reduceAdd, ↓reduceIte, Nat.reduceBEq, core_box, sb, bt, e2, fadr_ptr, k0, k1, x1, x2, dc]
        rfl
    · have x2 : (t.k == 2) = false := by rwa [beq_eq_false_iff_ne]
      rw [if_neg h2]
      by_cases h3 : t.k = 3
      · have x3 : (t.k == 3) = true := by rw [h3]; rfl
        rw [if_pos h3]
        by_cases hc : 0 ≤ (ctorF t.n 0 p.enums).1
        · obtain ⟨e, he, hi⟩ := enum_name hc
          rw [he]
          simp only
          rw [if_pos hc]
          have ia : ∀ k : IntKind, iadr 3 (.sl 3 (p.enums.map EnV.cells) none) (litI k (ctorF t.n 0 p.enums).1) = some (.ip e.cells) := by
            intro k
            rw [hi]
            exact iadr_ix (by rw [List.getElem?_map, he]; rfl)
          simp -implicitDefEqProofs only [c30, aW, ↓aP, makes, reduceLT, reduceEqDiff, reduceAdd, ↓reduceIte, Nat.reduceBEq, core_box, sb, bt, e2, fadr_ptr, k0, k1, x1, x2, x3, s2, ec, hc, s0, ia, fadrE0, hdE0]
          rfl
        · have he : (match p.enums[(ctorF t.n 0 p.enums).1.toNat]? with | some e => if 0 ≤ (ctorF t.n 0 p.enums).1 then e.name else bs [] | none => bs []) = bs [] := by
            cases p.enums[(ctorF t.n 0 p.enums).1.toNat]? with
            | none => rfl
            | some e => simp only [if_neg hc]
          rw [he]
          simp -implicitDefEqProofs only [c30, aW, ↓aP, makes, reduceLT, reduceEqDiff, reduceAdd, ↓reduceIte, Nat.reduceBEq, core_box, sb, bt, e2, fadr_ptr, k0, k1, x1, x2, x3, s2, ec, hc]
          rfl
      · have x3 : (t.k == 3) = false := by rwa [beq_eq_false_iff_ne]
        rw [if_neg h3]
        simp -implicitDefEqProofs only [c30, aW, ↓aP, makes, reduceLT, reduceEqDiff, reduceAdd, ↓reduceIte, Nat.reduceBEq, core_box, sb, bt, e2, fadr_ptr, k0, k1, x1, x2, x3, sv, core_lkp, lk]
        rfl
def Agr (b : Nat) (H H' : List AO) : Prop := b ≤ H'.length ∧ ∀ j, j < b → H'[j]? = H[j]?
theorem Agr.refl (H : List AO) : Agr H.length H H := ⟨Nat.le_refl _, fun _ _ => rfl⟩
theorem Agr.app (H K : List AO) : Agr H.length H (H ++ K) := ⟨by simp, fun j hj => List.getElem?_append_left hj⟩
theorem Agr.trans {a b : Nat} {H H1 H2 : List AO} (h : Agr a H H1) (k : Agr b H1 H2) (hab : a ≤ b) : Agr a H H2 := ⟨Nat.le_trans hab k.1, fun j hj => (k.2 j (by omega)).trans (h.2 j hj)⟩
theorem Agr.get {b : Nat} {H H' : List AO} (h : Agr b H H') {r : Nat} {o : AO} (hr : H[r]? = some o) (hb : r < b) : H'[r]? = some o := (h.2 r hb).trans hr
theorem callV_lit {f : FuncId} {args : List AV} {v : Value} {H H1 : List AO} (hm : mds f = .ref) (h : cw0 f args H = some (.ret (.lit v), H1)) (ha : Agr H.length H H1) : ∃ H', (∀ id, callV cw0 mds f args H id = some (.wr (.lit v) H')) ∧ Agr H.length H H' := by
  have key : ∀ id, callV cw0 mds f args H id = (bif below H.length frzF (.lit v) && (H1.take H.length).all (belowO H.length) then some (.wr (.lit v) (H1.take H.length)) else some (.wr (.lit v) H1)) := by
    intro id
    unfold callV
    rw [hm]
    simp only
    rw [h]
    rfl
  cases hb : (below H.length frzF (.lit v) && (H1.take H.length).all (belowO H.length)) with
  | true => exact ⟨H1.take H.length, fun id => by rw [key, hb]; rfl, ⟨by rw [List.length_take]; have := ha.1; omega, fun j hj => by rw [List.getElem?_take, if_pos hj]; exact ha.2 j hj⟩⟩
  | false => exact ⟨H1, fun id => by rw [key, hb]; rfl, ha⟩
theorem callV_refP {f : FuncId} {args : List AV} {a : AV} {H H1 : List AO} {id : Nat} (hm : mds f = .ref) (h : cw0 f args H = some (.pan a, H1)) : callV cw0 mds f args H id = some (.pan a H1) := by
  unfold callV
  rw [hm]
  simp only
  rw [h]
  rfl
theorem leaf_call (p : PrV) (ok : PrOk p) (vs : Vs) (r : Nat) (t : Tr) (H : List AO) (hM : H[r]? = some (.mp (kvs vs))) : ∃ H', (∀ id, callV cw0 mds 30 [.agg (scL p r), .agg t.cells] H id = some (.wr (litS (leafF p vs t.k t.n)) H')) ∧ Agr H.length H H' := by
  exact callV_lit rfl (leaf_tells p ok vs r t H hM) (Agr.app _ _)
def RowB (b : Nat) (H : List AO) (A : AV) (l : List ByteArray) : Prop :=
  (A = .sl 0 [] (some 0) ∧ l = []) ∨ (∃ c, A = strs c l) ∨ ∃ r, b ≤ r ∧ A = .own r 0 l.length 1 none ∧ H[r]? = some (.row (l.map litS) 9)
theorem RowB.agr {b : Nat} {H H' : List AO} {A : AV} {l : List ByteArray} (h : RowB b H A l) (a : Agr H.length H H') : RowB b H' A l := by
  rcases h with h | h | ⟨r, h1, h2, h3⟩
  · exact .inl h
  · exact .inr (.inl h)
  · exact .inr (.inr ⟨r, h1, h2, a.get h3 (List.getElem?_eq_some_iff.1 h3).1⟩)
theorem RowB.len {b : Nat} {H : List AO} {A : AV} {l : List ByteArray} (h : RowB b H A l) : lenV A = some (litI .i64 l.length) := by
  rcases h with ⟨rfl, rfl⟩ | ⟨c, rfl⟩ | ⟨r, _, rfl, _⟩
  · rfl
  · exact lenV_strs c l
  · rfl
theorem RowB.at' {b : Nat} {H : List AO} {A : AV} {l : List ByteArray} (h : RowB b H A l) {i : Nat} {s : ByteArray} (hi : l[i]? = some s) : ∃ z, (∀ k : IntKind, iadr 1 A (litI k i) = some z) ∧ Ai.load H none z = some (litS s) := by
  have hlt := (List.getElem?_eq_some_iff.1 hi).1
  rcases h with ⟨rfl, rfl⟩ | ⟨c, rfl⟩ | ⟨r, _, rfl, h3⟩
  · simp at hi
  · exact ⟨.ip [litS s], fun k => iadr_strs hi, rfl⟩
  · refine ⟨.ptr r i, fun k => ?_, ?_⟩
    · rw [iadr_own, if_pos ⟨Int.natCast_nonneg i, by omega⟩]
      simp
    · rw [load_ptr h3, List.getElem?_map, hi]; rfl
theorem frz_ownS {H : List AO} {r k : Nat} {pre l : List ByteArray} {c : Option Nat} (h : H[r]? = some (.row ((pre ++ l).map litS) 9)) : frz H (k + 2) (.own r pre.length l.length 1 c) = some (strs c l, [r]) := by
  have hb : Nat.ble (pre.length + l.length * 1) ((pre ++ l).map litS).length = true := Nat.ble_eq_true_of_le (by simp)
  have hd : ((pre ++ l).map litS).drop pre.length = l.map litS := by rw [List.map_append, List.drop_left' (by simp)]
  rw [frz]
  simp only [h, hb, cond_true, hd, mapR_whole (whole_strL l), Option.bind_some]
  have hc : chunks 1 l.length (l.map litS) = l.map fun s => [litS s] := by
    have := chunks_one (l.map litS)
    rw [List.length_map] at this
    rw [this, List.map_map]
    rfl
  rw [hc]
  rfl
theorem RowB.frz {b : Nat} {H : List AO} {A : AV} {l : List ByteArray} (h : RowB b H A l) (hl : l ≠ []) : ∃ c ids, Ai.frz H frzF A = some (strs c l, ids) := by
  rcases h with ⟨_, rfl⟩ | ⟨c, rfl⟩ | ⟨r, _, rfl, h3⟩
  · exact absurd rfl hl
  · exact ⟨c, [], rfl⟩
  · exact ⟨none, [r], frz_ownS (pre := []) (k := 14) h3⟩
end Go.Proofs.YtkjimmmdeopnaaaGreat.Ai
namespace Go.Proofs.YtkjimmmdeopnaaaGreat.Ai
open Go Go.Ai
def OutS (b : Nat) (H : List AO) (A : AV) (l : List ByteArray) : Prop :=
  (A = .sl 0 [] (some 0) ∧ l = []) ∨ ∃ r, b ≤ r ∧ A = .own r 0 l.length 1 none ∧ H[r]? = some (.row (l.map litS) 9)
theorem OutS.row {b : Nat} {H : List AO} {A : AV} {l : List ByteArray} (h : OutS b H A l) : RowB b H A l := by
  rcases h with h | h
  · exact .inl h
  · exact .inr (.inr h)
theorem OutS.agr {b : Nat} {H H' : List AO} {A : AV} {l : List ByteArray} (h : OutS b H A l) (a : Agr H.length H H') : OutS b H' A l := by
  rcases h with h | ⟨r, h1, h2, h3⟩
  · exact .inl h
  · exact .inr ⟨r, h1, h2, a.get h3 (List.getElem?_eq_some_iff.1 h3).1⟩
theorem out_step {b : Nat} {H : List AO} {A : AV} {l : List ByteArray} (O : OutS b H A l) (hb : b ≤ H.length) (hl : l.length ≤ 1000) (s : ByteArray) :
    ∃ A' H', (∀ d fr k, opS (append H H.length 1 16 9 A (.sl 1 [[litS s]] (some 1))) d fr H k = k (putD fr d A') H') ∧ OutS b H' A' (l ++ [s]) ∧ Agr b H H' := by
  rcases O with ⟨rfl, rfl⟩ | ⟨r, h1, rfl, h3⟩
  · refine ⟨.own H.length 0 1 1 none, H ++ [.row [litS s] 9], fun d fr k => rfl, .inr ⟨H.length, hb, rfl, get_last _ _⟩, ⟨by simp; omega, fun j hj => List.getElem?_append_left (by omega)⟩⟩
  · have hlt := (List.getElem?_eq_some_iff.1 h3).1
    have h2 : Nat.ble ((l.length + 1) * 16) 140737488355328 = true := Nat.ble_eq_true_of_le (by omega)
    have h4 : Nat.ble (0 + l.length * 1) (l.map litS).length = true := Nat.ble_eq_true_of_le (by simp)
    have h5 : ((l.map litS).drop 0).take (l.length * 1) = l.map litS := by rw [List.drop_zero, List.take_of_length_le (by simp)]
    have hra : Ai.rowAt H r = some (l.map litS, 9) := by unfold Ai.rowAt; rw [h3]
    have e : append H H.length 1 16 9 (.own r 0 l.length 1 none) (.sl 1 [[litS s]] (some 1)) = some (.wr (.own H.length 0 (l.length + 1) 1 none) (setL H r .dead ++ [.row (l.map litS ++ [litS s]) 9])) := by
      simp only [append, elems, BEq.rfl, Bool.true_or, cond_true, Option.bind_some, List.length_cons, List.length_nil, Nat.zero_add, Nat.reduceBEq, cond_false, hra, h2, h5, Bool.and_self, List.flatten_cons, List.flatten_nil, List.append_nil]
      rw [Nat.zero_add] at h4
      rw [h4]
      rfl
    have hsl : (setL H r AO.dead).length = H.length := by unfold setL; rw [List.length_set]
    refine ⟨.own H.length 0 (l.length + 1) 1 none, setL H r .dead ++ [.row (l.map litS ++ [litS s]) 9], fun d fr k => ?_, .inr ⟨H.length, hb, by simp, ?_⟩, ⟨by rw [List.length_append, hsl]; simp; omega, fun j hj => ?_⟩⟩
    · rw [e, opS_wr]
    · rw [← hsl, get_last, List.map_append]; rfl
    · rw [List.getElem?_append_left (by rw [hsl]; omega)]
      unfold setL
      rw [List.getElem?_set_ne (by omega)]
theorem callV_row {f : FuncId} {args : List AV} {A : AV} {l : List ByteArray} {H H1 : List AO} (hm : mds f = .ref) (h : cw0 f args H = some (.ret A, H1)) (R : RowB H.length H1 A l) (ha : Agr H.length H H1) :
    ∃ H', (∀ id, callV cw0 mds f args H id = some (.wr A H')) ∧ Agr H.length H H' ∧ RowB H.length H' A l := by
  have key : ∀ id, callV cw0 mds f args H id = (bif below H.length frzF A && (H1.take H.length).all (belowO H.length) then some (.wr A (H1.take H.length)) else some (.wr A H1)) := by
    intro id
    unfold callV
    rw [hm]
    simp only
    rw [h]
    rfl
  cases hb : (below H.length frzF A && (H1.take H.length).all (belowO H.length)) with
  | true =>
    refine ⟨H1.take H.length, fun id => by rw [key, hb]; rfl, ⟨by rw [List.length_take]; have := ha.1; omega, fun j hj => by rw [List.getElem?_take, if_pos hj]; exact ha.2 j hj⟩, ?_⟩
    rcases R with h | h | ⟨r, h1, rfl, h3⟩
    · exact .inl h
    · exact .inr (.inl h)
    · exfalso
      rw [Bool.and_eq_true] at hb
      have : Nat.blt r H.length = true := hb.1
      rw [Nat.blt_eq] at this
      omega
  | false => exact ⟨H1, fun id => by rw [key, hb]; rfl, ha, R⟩
theorem md43 : mds 43 = .pure := rfl
def fitsL (l : List ByteArray) (vs : List Va) : Bool := (l.zip vs).all fun x => fitB x.1 x.2.t
def callF (p : PrV) (n : ByteArray) (l : List ByteArray) : Option (List ByteArray) :=
  match p.nodes[(nodeF p n).toNat]? with
  | some d => if 0 ≤ nodeF p n ∧ d.inn.length = l.length ∧ fitsL l d.inn = true then some (d.out.map Va.t) else none
  | none => none
theorem findF_rng {α : Type} (g : α → Bool) : ∀ (r : List α) (n : Nat), findF g n r = -1 ∨ ∃ i, i < r.length ∧ findF g n r = ((n + i : Nat) : Int)
  | [], n => .inl rfl
  | x :: r, n => by
    rw [findF]
    cases g x with
    | true => exact .inr ⟨0, by simp, rfl⟩
    | false =>
      rw [cond_false]
      rcases findF_rng g r (n + 1) with h | ⟨i, h1, h2⟩
      · exact .inl h
      · exact .inr ⟨i + 1, by simp; omega, by rw [h2]; congr 1; omega⟩
theorem node_at {p : PrV} {n : ByteArray} (h : 0 ≤ nodeF p n) : ∃ d, p.nodes[(nodeF p n).toNat]? = some d ∧ nodeF p n = (((nodeF p n).toNat : Nat) : Int) := by
  rcases findF_rng (fun d : NoV => sEq d.name n) p.nodes 0 with h1 | ⟨i, h1, h2⟩
  · exact absurd h (by unfold nodeF; rw [h1]; decide)
  · have h2' : nodeF p n = (i : Int) := by unfold nodeF; rw [h2, Nat.zero_add]
    rw [h2', Int.toNat_natCast]
    exact ⟨_, List.getElem?_eq_getElem h1, rfl⟩
theorem fadrN2 (d : NoV) : fadr 2 (.ip d.cells) = some (.ip [varsA none d.inn, varsA none d.out, varsA none d.loc, .sl 8 d.eqs none, litI .i64 d.pos]) := rfl
theorem fit_loop (t : Tr) (d : NoV) (bt bd : Nat) (H : List AO) (ht : H[bt]? = some (rowT t)) (hd : H[bd]? = some (.row d.cells 35)) (b : Nat) (A : AV) (l : List ByteArray) (R : RowB b H A l) (hl : l.length ≤ 1000) (hlen : d.inn.length = l.length) :
    ∀ (r : List ByteArray) (vs : List Va) (i : Nat), l.drop i = r → d.inn.drop i = vs → i ≤ l.length →
      match fitsL r vs with
      | true => ∃ (i' x : AV), loopW (codeW cw0 (lookM mtl) mds c29l0) [4, 8, 43, 44, 45] [(4, .ptr bt 0), (8, .ptr bd 0), (43, A), (44, litI .i64 l.length), (45, litI .i64 i)] H = some (.exit 0, [(4, .ptr bt 0), (8, .ptr bd 0), (43, A), (44, litI .i64 l.length), (45, i'), (46, x)], H)
      | false => ∃ fr', loopW (codeW cw0 (lookM mtl) mds c29l0) [4, 8, 43, 44, 45] [(4, .ptr bt 0), (8, .ptr bd 0), (43, A), (44, litI .i64 l.length), (45, litI .i64 i)] H = some (.pan (stopA t.p), fr', H)
  | [], vs, i, hdr, hdv, hi => by
    have hn : l.length ≤ i := by
      have := congrArg List.length hdr
      rw [List.length_drop, List.length_nil] at this; omega
    have e : fitsL [] vs = true := rfl
    rw [e]
    refine ⟨litI .i64 i, litB false, loopW_out ?_ (by simp)⟩
    simp -implicitDefEqProofs only [c29l0, aW, ↓aP, makes, reduceLT, reduceEqDiff, reduceAdd, ↓reduceIte, Nat.reduceBEq, show ¬ ((i : Int) < l.length) by omega]
  | s :: r, [], i, hdr, hdv, hi => by
    exfalso
    have h1 := congrArg List.length hdr
    have h2 := congrArg List.length hdv
    simp only [List.length_drop, List.length_cons, List.length_nil] at h1 h2
    omega
  | s :: r, v :: vs, i, hdr, hdv, hi => by
    have hlt : i < l.length := by
      have := congrArg List.length hdr
      rw [List.length_drop, List.length_cons] at this; omega
    have hg : l[i]? = some s := by
      have := congrArg List.head? hdr
      rwa [List.head?_drop] at this
    have hgv : d.inn[i]? = some v := by
      have := congrArg List.head? hdv
      rwa [List.head?_drop] at this
    have hlti : (i : Int) < l.length := by omega
    obtain ⟨z, z1, z2⟩ := R.at' hg
    have n2 := ln2 hd
    have t3 := ld3 ht
    have fc := fits_call s v.t
    have e : fitsL (s :: r) (v :: vs) = (fitB s v.t && fitsL r vs) := rfl
    rw [e]
    cases hf : fitB s v.t with
    | false =>
      rw [hf] at fc
      have uf := unless_f t.p
      rw [Bool.false_and]
      refine ⟨_, loopW_out (fr' := [(4, .ptr bt 0), (8, .ptr bd 0), (9, litI .i64 i), (10, litS s), (43, A), (44, litI .i64 l.length), (45, litI .i64 i)]) ?_ (by simp)⟩
      simp -implicitDefEqProofs only [c29l0, aW, ↓aP, makes, reduceLT, reduceEqDiff, reduceAdd, ↓reduceIte, Nat.reduceBEq, hlti, z1, z2, fadr_ptr, n2, t3, iadr_vars hgv, fadrV1, fc, uf, md43]
      rfl
    | true =>
      rw [hf] at fc
      have ut := unless_t t.p
      rw [Bool.true_and]
      have step : codeW cw0 (lookM mtl) mds c29l0 (keep [4, 8, 43, 44, 45] [(4, .ptr bt 0), (8, .ptr bd 0), (43, A), (44, litI .i64 l.length), (45, litI .i64 i)]) H = some (.normal, [(4, .ptr bt 0), (8, .ptr bd 0), (43, A), (44, litI .i64 l.length), (45, litI .i64 ((i + 1 : Nat) : Int))], H) := by
        simp -implicitDefEqProofs only [c29l0, aW, ↓aP, makes, reduceLT, reduceEqDiff, reduceAdd, ↓reduceIte, Nat.reduceBEq, hlti, z1, z2, fadr_ptr, n2, t3, iadr_vars hgv, fadrV1, fc, ut, md43, wadd (show i < 4611686018427387904 by omega)]
      have ih := fit_loop t d bt bd H ht hd b A l R hl hlen r vs (i + 1) (by rw [← List.drop_drop, hdr]; rfl) (by rw [← List.drop_drop, hdv]; rfl) (by omega)
      cases hr : fitsL r vs with
      | true =>
        rw [hr] at ih
        obtain ⟨i', x, L⟩ := ih
        exact ⟨i', x, loopW_round step L⟩
      | false =>
        rw [hr] at ih
        obtain ⟨fr', L⟩ := ih
        exact ⟨fr', loopW_round step L⟩
end Go.Proofs.YtkjimmmdeopnaaaGreat.Ai
namespace Go.Proofs.YtkjimmmdeopnaaaGreat.Ai
open Go Go.Ai
theorem out_loop (vs : List Va) (hl : vs.length ≤ 1000) (b : Nat) : ∀ (r : List Va) (i : Nat) (H : List AO) (A : AV) (l : List ByteArray), vs.drop i = r → i ≤ vs.length → OutS b H A l → b ≤ H.length → l.length ≤ i →
    ∃ (i' x A' : AV) (H' : List AO), loopW (codeW cw0 (lookM mtl) mds c29l1) [11, 63, 64, 65] [(11, A), (63, varsA none vs), (64, litI .i64 vs.length), (65, litI .i64 i)] H = some (.exit 2, [(11, A'), (63, varsA none vs), (64, litI .i64 vs.length), (65, i'), (66, x)], H') ∧ OutS b H' A' (l ++ r.map Va.t) ∧ Agr b H H'
  | [], i, H, A, l, hd, hi, O, hb, hli => by
    have hn : vs.length ≤ i := by
      have := congrArg List.length hd
      rw [List.length_drop, List.length_nil] at this; omega
    refine ⟨litI .i64 i, litB false, A, H, loopW_out ?_ (by simp), by rw [List.map_nil, List.append_nil]; exact O, ⟨hb, fun _ _ => rfl⟩⟩
    simp -implicitDefEqProofs only [c29l1, aW, ↓aP, makes, reduceLT, reduceEqDiff, reduceAdd, ↓reduceIte, Nat.reduceBEq, show ¬ ((i : Int) < vs.length) by omega]
  | v :: r, i, H, A, l, hd, hi, O, hb, hli => by
    have hlt : i < vs.length := by
      have := congrArg List.length hd
      rw [List.length_drop, List.length_cons] at this; omega
    have hg : vs[i]? = some v := by
      have := congrArg List.head? hd
      rwa [List.head?_drop] at this
    have hlti : (i : Int) < vs.length := by omega
    have hst : storeAt (H ++ [.row [litS (bs []), litS (bs []), .sl 0 [] (some 0), litI .i64 0] 61]) 4 (.ptr H.length 0) (.agg v.cells) = some (H ++ [.row v.cells 61]) := st_new H rfl rfl rfl
    have hL4 : ∀ H : List AO, Ai.load H (some 4) (.ip v.cells) = some (.agg v.cells) := fun H => load_ipA rfl
    have l1 : Ai.load (H ++ [.row v.cells 61]) none (.ptr H.length 1) = some (litS v.t) := by rw [load_ptr (get_last H _)]; rfl
    have O' : OutS b (H ++ [.row v.cells 61]) A l := O.agr (Agr.app _ _)
    obtain ⟨A1, H1, h1, O1, a1⟩ := out_step O' (by simp; omega) (by omega) v.t
    have step : codeW cw0 (lookM mtl) mds c29l1 (keep [11, 63, 64, 65] [(11, A), (63, varsA none vs), (64, litI .i64 vs.length), (65, litI .i64 i)]) H = some (.normal, [(11, A1), (63, varsA none vs), (64, litI .i64 vs.length), (65, litI .i64 ((i + 1 : Nat) : Int))], H1) := by
      simp -implicitDefEqProofs only [c29l1, aW, ↓aP, makes, reduceLT, reduceEqDiff, reduceAdd, ↓reduceIte, Nat.reduceBEq, hlti, iadr_vars hg, hL4, hst, fadr_ptr, l1, core_bsl, bsl_s1, h1, wadd (show i < 4611686018427387904 by omega)]
    obtain ⟨i', x, A', H', L, O2, a2⟩ := out_loop vs hl b r (i + 1) H1 A1 (l ++ [v.t]) (by rw [← List.drop_drop, hd]; rfl) (by omega) O1 a1.1 (by simp; omega)
    refine ⟨i', x, A', H', loopW_round step L, ?_, ?_⟩
    · rw [List.map_cons, show v.t :: r.map Va.t = [v.t] ++ r.map Va.t from rfl, ← List.append_assoc]; exact O2
    · have a0 : Agr b H (H ++ [.row v.cells 61]) := ⟨by simp; omega, fun j hj => List.getElem?_append_left (by omega)⟩
      exact (a0.trans a1 (Nat.le_refl _)).trans a2 (Nat.le_refl _)
theorem call29_tells (p : PrV) (ok : PrOk p) (few : ∀ d ∈ p.nodes, FewV d) (vs : Vs) (r : Nat) (t : Tr) (H : List AO) (A : AV) (l : List ByteArray) (R : RowB H.length H A l ∨ ∃ b, RowB b H A l) (hl : l.length ≤ 1000) :
    match callF p t.n l with
    | some o => ∃ A' H', cw0 29 [.agg (scL p r), .agg t.cells, A] H = some (.ret A', H') ∧ RowB H.length H' A' o ∧ Agr H.length H H'
    | none => ∃ H', cw0 29 [.agg (scL p r), .agg t.cells, A] H = some (.pan (stopA t.p), H') ∧ Agr H.length H H' := by
  obtain ⟨b, R⟩ : ∃ b, RowB b H A l := by
    rcases R with h | h
    · exact ⟨_, h⟩
    · exact h
  have sb := sc_box p r
  have bt := box_tr t
  have e2 : (H ++ [.row (scL p r) 57]) ++ [rowT t] = H ++ [.row (scL p r) 57, rowT t] := by rw [List.append_assoc]; rfl
  have hlen2 : (H ++ [AO.row (scL p r) 57]).length = H.length + 1 := by simp
  obtain ⟨H0, hH0⟩ : ∃ H0, H0 = H ++ [.row (scL p r) 57, rowT t] := ⟨_, rfl⟩
  rw [← hH0] at e2
  have g0 : H0[H.length]? = some (.row (scL p r) 57) := by rw [hH0, List.getElem?_append_right (Nat.le_refl _), Nat.sub_self]; rfl
  have g1 : H0[H.length + 1]? = some (rowT t) := by rw [hH0, List.getElem?_append_right (by omega)]; simp
  have ag0 : Agr H.length H H0 := by rw [hH0]; exact Agr.app _ _
  have hl0 : H0.length = H.length + 2 := by rw [hH0]; simp
  have R0 : RowB b H0 A l := R.agr ag0
  have k1 := ld1 g1
  have k3 := ld3 g1
  have s2 := lsc2 g0
  have s1 := lsc1 g0
  have nc := node_call p ok t.n
  have lA := R0.len
  by_cases hi : 0 ≤ nodeF p t.n
  · obtain ⟨d, hd, hn⟩ := node_at hi
    rw [show callF p t.n l = if 0 ≤ nodeF p t.n ∧ d.inn.length = l.length ∧ fitsL l d.inn = true then some (d.out.map Va.t) else none from by unfold callF; rw [hd]]
    have ia : ∀ k : IntKind, iadr 7 (.sl 7 (p.nodes.map NoV.cells) none) (litI k (nodeF p t.n)) = some (.ip d.cells) := by
      intro k
      rw [hn]
      exact iadr_ix (by rw [List.getElem?_map, hd]; rfl)
    have lv := lenV_vars none d.inn
    have hdm := List.mem_of_getElem? hd
    by_cases hlen : d.inn.length = l.length
    · have e1 : (((d.inn.length : Nat) : Int) == ((l.length : Nat) : Int)) = true := by rw [hlen]; exact beq_self_eq_true _
      have ut := unless_t t.p
      have hL7 : ∀ H : List AO, Ai.load H (some 7) (.ip d.cells) = some (.agg d.cells) := fun H => load_ipA d.len
      have hst : storeAt (H0 ++ [.row [litS (bs []), litB false, .sl 0 [] (some 0), .sl 0 [] (some 0), .sl 0 [] (some 0), .sl 0 [] (some 0), litI .i64 0] 35]) 7 (.ptr H0.length 0) (.agg d.cells) = some (H0 ++ [.row d.cells 35]) := st_new H0 rfl d.len d.cell
      have ag1 : Agr H.length H (H0 ++ [.row d.cells 35]) := ag0.trans (Agr.app _ _) (by omega)
      have gd := get_last H0 (.row d.cells 35)
      have n3 := ln3 gd
      have FL := fit_loop t d (H.length + 1) H0.length (H0 ++ [.row d.cells 35]) (get_old g1 _) gd b A l (R0.agr (Agr.app _ _)) hl hlen l d.inn 0 rfl rfl (Nat.zero_le _)
      rw [show ((0 : Nat) : Int) = 0 from rfl] at FL
      cases hf : fitsL l d.inn with
      | true =>
        rw [if_pos ⟨hi, hlen, rfl⟩]
        rw [hf] at FL
        obtain ⟨i', x, L⟩ := FL
        have hfew := few d hdm
        unfold FewV at hfew
        obtain ⟨j', y, A', H', L2, O2, a2⟩ := out_loop d.out (by omega) H.length d.out 0 (H0 ++ [.row d.cells 35]) (.sl 0 [] (some 0)) [] rfl (Nat.zero_le _) (.inl ⟨rfl, rfl⟩) (by simp; omega) (Nat.zero_le _)
        rw [show ((0 : Nat) : Int) = 0 from rfl] at L2
        rw [List.nil_append] at O2
        refine ⟨A', H', cw0_of fn29 (c := c29) rfl rfl rfl rfl ?_, O2.row, ag1.trans a2 (Nat.le_refl _)⟩
        simp -implicitDefEqProofs only [c29, aW, ↓aP, makes, reduceLT, reduceEqDiff, reduceAdd, ↓reduceIte, Nat.reduceBEq, core_box, sb, bt, e2, hlen2, fadr_ptr, s2, k1, nc, hi, s1, ia, fadrN2, lv, lA, e1, k3, ut, hL7, hst, L, n3, lenV_vars, L2]
        rfl
      | false =>
        rw [if_neg (by rintro ⟨_, _, h⟩; cases h)]
        rw [hf] at FL
        obtain ⟨fr', L⟩ := FL
        refine ⟨H0 ++ [.row d.cells 35], cw0_of fn29 (c := c29) rfl rfl rfl rfl ?_, ag1⟩
        simp -implicitDefEqProofs only [c29, aW, ↓aP, makes, reduceLT, reduceEqDiff, reduceAdd, ↓reduceIte, Nat.reduceBEq, core_box, sb, bt, e2, hlen2, fadr_ptr, s2, k1, nc, hi, s1, ia, fadrN2, lv, lA, e1, k3, ut, hL7, hst, L]
        rfl
    · rw [if_neg (by rintro ⟨_, h, _⟩; exact hlen h)]
      have e1 : (((d.inn.length : Nat) : Int) == ((l.length : Nat) : Int)) = false := by rw [beq_eq_false_iff_ne]; omega
      have uf := unless_f t.p
      refine ⟨H0, cw0_of fn29 (c := c29) rfl rfl rfl rfl ?_, ag0⟩
      simp -implicitDefEqProofs only [c29, aW, ↓aP, makes, reduceLT, reduceEqDiff, reduceAdd, ↓reduceIte, Nat.reduceBEq, core_box, sb, bt, e2, hlen2, fadr_ptr, s2, k1, nc, hi, s1, ia, fadrN2, lv, lA, e1, k3, uf]
      rfl
  · have he : callF p t.n l = none := by
      unfold callF
      cases p.nodes[(nodeF p t.n).toNat]? with
      | none => rfl
      | some d => simp only; rw [if_neg (fun h => hi h.1)]
    rw [he]
    have uf := unless_f t.p
    refine ⟨H0, cw0_of fn29 (c := c29) rfl rfl rfl rfl ?_, ag0⟩
    simp -implicitDefEqProofs only [c29, aW, ↓aP, makes, reduceLT, reduceEqDiff, reduceAdd, ↓reduceIte, Nat.reduceBEq, core_box, sb, bt, e2, hlen2, fadr_ptr, s2, k1, nc, hi, k3, uf]
    rfl
end Go.Proofs.YtkjimmmdeopnaaaGreat.Ai
namespace Go.Proofs.YtkjimmmdeopnaaaGreat.Ai
open Go Go.Ai
def one (x : Option ByteArray) : Option (List ByteArray) := x.map fun s => [s]
def topT (p : PrV) (vs : Vs) (k : Int) (n : ByteArray) (l : List ByteArray) : Option (List ByteArray) :=
  if k = 6 ∨ k = 10 then (match l with | x :: rs => one (applyR (unR n) x rs) | [] => none)
  else if k = 7 then (match l with | x :: rs => one (applyR (binR n) x rs) | [] => none)
  else if k = 8 then (match l with | x :: y :: rs => if sEq x sBool = true then one (applyR ⟨none, bs []⟩ y rs) else none | _ => none)
  else if k = 9 then callF p n l
  else if k = 11 then some l
  else if sEq (leafF p vs k n) (bs []) = true then none else some [leafF p vs k n]
mutual
def ty (p : PrV) (vs : Vs) : Tr → Option (List ByteArray)
  | .mk k n _ _ ts _ => match tyL p vs ts with
    | some l => topT p vs k n l
    | none => none
def tyL (p : PrV) (vs : Vs) : List Tr → Option (List ByteArray)
  | [] => some []
  | a :: r => match ty p vs a with
    | some [s] => (match tyL p vs r with | some l => some (s :: l) | none => none)
    | _ => none
end
theorem ty_eq (p : PrV) (vs : Vs) (t : Tr) : ty p vs t = match tyL p vs t.ts with | some l => topT p vs t.k t.n l | none => none := by
  obtain ⟨k, n, z, c, ts, q⟩ := t
  rw [ty]; rfl
theorem tyL_len (p : PrV) (vs : Vs) : ∀ (ts : List Tr) (l : List ByteArray), tyL p vs ts = some l → l.length = ts.length
  | [], l, h => by
    rw [tyL] at h
    simp only [sI] at h; subst h; rfl
  | a :: r, l, h => by
    rw [tyL] at h
    split at h
    · rename_i s hs
      split at h
      · rename_i l' hl
        simp only [sI] at h; subst h
        rw [List.length_cons, List.length_cons, tyL_len p vs r l' hl]
      · cases h
    · cases h
def TyOk (p : PrV) (vs : Vs) (r : Nat) (t : Tr) : Prop := ∀ H : List AO, H[r]? = some (.mp (kvs vs)) →
  match ty p vs t with
  | some l => ∃ A H', (∀ id, callV cw0 mds 18 [.agg (scL p r), .agg t.cells] H id = some (.wr A H')) ∧ Agr H.length H H' ∧ RowB H.length H' A l
  | none => ∃ q H', (∀ id, callV cw0 mds 18 [.agg (scL p r), .agg t.cells] H id = some (.pan (stopA q) H')) ∧ Agr H.length H H'
def panH : Option Ai.S → Option (AV × List AO)
  | some (.pan a, _, H) => some (a, H)
  | _ => none
theorem loopW_panH {body : Fr → List AO → Option Ai.S} {l : List Nat} {fr : Fr} {H H' : List AO} {a : AV} (h : panH (body (keep l fr) H) = some (a, H')) : ∃ fr', loopW body l fr H = some (.pan a, fr', H') := by
  unfold panH at h
  split at h
  · rename_i a' fr' H1 heq
    simp only [sI, Prod.mk.injEq] at h
    obtain ⟨rfl, rfl⟩ := h
    exact ⟨fr', loopW_out heq (by simp)⟩
  · cases h
theorem arg_loop (p : PrV) (vs : Vs) (rm : Nat) (t : Tr) (hl : t.ts.length ≤ 1000) (ih : ∀ a ∈ t.ts, TyOk p vs rm a) (b : Nat) (H0 : List AO) (hs : H0[b]? = some (.row (scL p rm) 57)) (ht : H0[b + 1]? = some (rowT t)) (hM : H0[rm]? = some (.mp (kvs vs))) :
    ∀ (r : List Tr) (i : Nat) (H : List AO) (A : AV) (l : List ByteArray), t.ts.drop i = r → i ≤ t.ts.length → OutS H0.length H A l → Agr H0.length H0 H → l.length = i →
      match tyL p vs r with
      | some l2 => ∃ (i' x A' : AV) (H' : List AO), loopW (codeW cw0 (lookM mtl) mds c18l0) [2, 3, 5, 11, 12, 13] [(2, .ptr b 0), (3, .ptr (b + 1) 0), (5, A), (11, argsA t.z t.c t.ts), (12, litI .i64 t.ts.length), (13, litI .i64 i)] H =
          some (.exit 0, [(2, .ptr b 0), (3, .ptr (b + 1) 0), (5, A'), (11, argsA t.z t.c t.ts), (12, litI .i64 t.ts.length), (13, i'), (14, x)], H') ∧ OutS H0.length H' A' (l ++ l2) ∧ Agr H0.length H0 H'
      | none => ∃ (q : Int) (fr' : Fr) (H' : List AO), loopW (codeW cw0 (lookM mtl) mds c18l0) [2, 3, 5, 11, 12, 13] [(2, .ptr b 0), (3, .ptr (b + 1) 0), (5, A), (11, argsA t.z t.c t.ts), (12, litI .i64 t.ts.length), (13, litI .i64 i)] H = some (.pan (stopA q), fr', H') ∧ Agr H0.length H0 H'
  | [], i, H, A, l, hd, hi, O, ag, hli => by
    have hn : t.ts.length ≤ i := by
      have := congrArg List.length hd
      rw [List.length_drop, List.length_nil] at this; omega
    rw [tyL]
    refine ⟨litI .i64 i, litB false, A, H, loopW_out ?_ (by simp), by rw [List.append_nil]; exact O, ag⟩
    simp -implicitDefEqProofs only [c18l0, aW, ↓aP, makes, reduceLT, reduceEqDiff, reduceAdd, ↓reduceIte, Nat.reduceBEq, show ¬ ((i : Int) < t.ts.length) by omega]
  | a :: r, i, H, A, l, hd, hi, O, ag, hli => by
    have hlt : i < t.ts.length := by
      have := congrArg List.length hd
      rw [List.length_drop, List.length_cons] at this; omega
    have hg : t.ts[i]? = some a := by
      have := congrArg List.head? hd
      rwa [List.head?_drop] at this
    have hlti : (i : Int) < t.ts.length := by omega
    have zs := zero_store H a
    have l4 : Ai.load (H ++ [rowT a]) (some 4) (.ptr H.length 0) = some (.agg a.cells) := ld4 (get_last H (rowT a))
    have hsH : (H ++ [rowT a])[b]? = some (.row (scL p rm) 57) := get_old (ag.get hs (List.getElem?_eq_some_iff.1 hs).1) _
    have hMH : (H ++ [rowT a])[rm]? = some (.mp (kvs vs)) := get_old (ag.get hM (List.getElem?_eq_some_iff.1 hM).1) _
    have l3 := lsc3 hsH
    have agA : Agr H0.length H0 (H ++ [rowT a]) := ag.trans (Agr.app _ _) ag.1
    have hT := ih a (List.mem_of_getElem? hg) _ hMH
    rw [tyL]
    cases hty : ty p vs a with
    | none =>
      rw [hty] at hT
      obtain ⟨q, H1, hc, a1⟩ := hT
      have step : panH (codeW cw0 (lookM mtl) mds c18l0 (keep [2, 3, 5, 11, 12, 13] [(2, .ptr b 0), (3, .ptr (b + 1) 0), (5, A), (11, argsA t.z t.c t.ts), (12, litI .i64 t.ts.length), (13, litI .i64 i)]) H) = some (stopA q, H1) := by
        simp -implicitDefEqProofs only [c18l0, aW, ↓aP, makes, reduceLT, reduceEqDiff, reduceAdd, ↓reduceIte, Nat.reduceBEq, hlti, iadr_args hg, ldE, zs, l3, l4, hc]
        rfl
      obtain ⟨fr', L⟩ := loopW_panH step
      exact ⟨q, fr', H1, L, agA.trans a1 agA.1⟩
    | some l1 =>
      rw [hty] at hT
      obtain ⟨A1, H1, hc, a1, R1⟩ := hT
      have ag1 : Agr H0.length H0 H1 := agA.trans a1 agA.1
      have gT : H1[H.length]? = some (rowT a) := a1.get (get_last H (rowT a)) (by simp)
      have p3 := ld3 gT
      have lA := R1.len
      have bad : l1.length ≠ 1 → ∃ (q : Int) (fr' : Fr) (H' : List AO), loopW (codeW cw0 (lookM mtl) mds c18l0) [2, 3, 5, 11, 12, 13] [(2, .ptr b 0), (3, .ptr (b + 1) 0), (5, A), (11, argsA t.z t.c t.ts), (12, litI .i64 t.ts.length), (13, litI .i64 i)] H = some (.pan (stopA q), fr', H') ∧ Agr H0.length H0 H' := by
        intro hne
        have e1 : (((l1.length : Nat) : Int) == 1) = false := by rw [beq_eq_false_iff_ne]; omega
        have uf := unless_f a.p
        have step : panH (codeW cw0 (lookM mtl) mds c18l0 (keep [2, 3, 5, 11, 12, 13] [(2, .ptr b 0), (3, .ptr (b + 1) 0), (5, A), (11, argsA t.z t.c t.ts), (12, litI .i64 t.ts.length), (13, litI .i64 i)]) H) = some (stopA a.p, H1) := by
          simp -implicitDefEqProofs only [c18l0, aW, ↓aP, makes, reduceLT, reduceEqDiff, reduceAdd, ↓reduceIte, Nat.reduceBEq, hlti, iadr_args hg, ldE, zs, l3, l4, hc, lA, e1, fadr_ptr, p3, uf]
          rfl
        obtain ⟨fr', L⟩ := loopW_panH step
        exact ⟨a.p, fr', H1, L, ag1⟩
      match l1, R1, lA, bad with
      | [], R1, lA, bad => exact bad (by simp)
      | s :: u :: l3', R1, lA, bad => exact bad (by simp)
      | [s], R1, lA, bad =>
        have e1 : ((([s].length : Nat) : Int) == 1) = true := rfl
        have ut := unless_t a.p
        obtain ⟨z, z1, z2⟩ := R1.at' (i := 0) (s := s) rfl
        have z1' : ∀ k : IntKind, iadr 1 A1 (litI k 0) = some z := z1
        have O1 : OutS H0.length H1 A l := (O.agr (Agr.app _ _)).agr a1
        obtain ⟨A2, H2, h2, O2, a2⟩ := out_step O1 ag1.1 (by omega) s
        have step : codeW cw0 (lookM mtl) mds c18l0 (keep [2, 3, 5, 11, 12, 13] [(2, .ptr b 0), (3, .ptr (b + 1) 0), (5, A), (11, argsA t.z t.c t.ts), (12, litI .i64 t.ts.length), (13, litI .i64 i)]) H =
            some (.normal, [(2, .ptr b 0), (3, .ptr (b + 1) 0), (5, A2), (11, argsA t.z t.c t.ts), (12, litI .i64 t.ts.length), (13, litI .i64 ((i + 1 : Nat) : Int))], H2) := by
          simp -implicitDefEqProofs only [c18l0, aW, ↓aP, makes, reduceLT, reduceEqDiff, reduceAdd, ↓reduceIte, Nat.reduceBEq, hlti, iadr_args hg, ldE, zs, l3, l4, hc, lA, e1, fadr_ptr, p3, ut, z1', z2, core_bsl, bsl_s1, h2, wadd (show i < 4611686018427387904 by omega)]
        have ih' := arg_loop p vs rm t hl ih b H0 hs ht hM r (i + 1) H2 A2 (l ++ [s]) (by rw [← List.drop_drop, hd]; rfl) (by omega) O2 (ag1.trans a2 (Nat.le_refl _)) (by simp; omega)
        simp only
        cases hr : tyL p vs r with
        | none =>
          rw [hr] at ih'
          obtain ⟨q, fr', H', L, k⟩ := ih'
          exact ⟨q, fr', H', loopW_round step L, k⟩
        | some l2 =>
          rw [hr] at ih'
          obtain ⟨i', x, A', H', L, k1, k2⟩ := ih'
          exact ⟨i', x, A', H', loopW_round step L, by rw [List.append_assoc] at k1; exact k1, k2⟩
end Go.Proofs.YtkjimmmdeopnaaaGreat.Ai
namespace Go.Proofs.YtkjimmmdeopnaaaGreat.Ai
open Go Go.Ai
inductive ShT : Tr → Prop
  | mk (k n z c ts p) (h1 : k = 6 ∨ k = 10 → ts.length = 1) (h2 : k = 7 → ts.length = 2) (h3 : k = 8 → ts.length = 3) (hl : ts.length ≤ 1000) (hs : ∀ a ∈ ts, ShT a) : ShT (.mk k n z c ts p)
theorem ShT.one {t : Tr} (h : ShT t) (hk : t.k = 6 ∨ t.k = 10) : t.ts.length = 1 := by cases h; rename_i h1 _ _ _ _; exact h1 hk
theorem ShT.two {t : Tr} (h : ShT t) (hk : t.k = 7) : t.ts.length = 2 := by cases h; rename_i _ h2 _ _ _; exact h2 hk
theorem ShT.three {t : Tr} (h : ShT t) (hk : t.k = 8) : t.ts.length = 3 := by cases h; rename_i _ _ h3 _ _; exact h3 hk
theorem ShT.len {t : Tr} (h : ShT t) : t.ts.length ≤ 1000 := by cases h; assumption
theorem ShT.sub {t : Tr} (h : ShT t) : ∀ a ∈ t.ts, ShT a := by cases h; assumption
theorem unR_len (n : ByteArray) : ∀ l, (unR n).asks = some l → l.length ≤ 1000 := by
  intro l h
  unfold unR at h
  split at h
  · cases h; decide
  split at h
  · cases h
  split at h
  · cases h; decide
  split at h
  · cases h; decide
  split at h
  · cases h; decide
  · cases h; decide
theorem binR_len (n : ByteArray) : ∀ l, (binR n).asks = some l → l.length ≤ 1000 := by
  intro l h
  unfold binR at h
  split at h
  · cases h; decide
  split at h
  · cases h
  split at h
  · cases h; decide
  split at h
  · cases h; decide
  split at h
  · cases h; decide
  split at h
  · cases h
  · cases h; decide
theorem md25 : mds 25 = .pure := rfl
theorem md27 : mds 27 = .pure := rfl
theorem ev_rule0 : AV.agg [.fn (.func 28) [] [], litS (bs [])] = (Rule.mk none (bs [])).av := rfl
theorem slice_o3 (r : Nat) : slice 1 (.own r 0 3 1 none) (some (litI .i64 1)) none none = some (.own r 1 2 1 none) := rfl
theorem ty_ok_some {p : PrV} {rm : Nat} {t : Tr} {H : List AO} {l : List ByteArray} {A : AV} {H1 : List AO} (h : cw0 18 [.agg (scL p rm), .agg t.cells] H = some (.ret A, H1)) (R : RowB H.length H1 A l) (ha : Agr H.length H H1) :
    ∃ A H', (∀ id, callV cw0 mds 18 [.agg (scL p rm), .agg t.cells] H id = some (.wr A H')) ∧ Agr H.length H H' ∧ RowB H.length H' A l := by
  obtain ⟨H', h1, h2, h3⟩ := callV_row rfl h R ha
  exact ⟨A, H', h1, h2, h3⟩
theorem ty_ok_none {p : PrV} {rm : Nat} {t : Tr} {H : List AO} {q : Int} {H1 : List AO} (h : cw0 18 [.agg (scL p rm), .agg t.cells] H = some (.pan (stopA q), H1)) (ha : Agr H.length H H1) :
    ∃ q H', (∀ id, callV cw0 mds 18 [.agg (scL p rm), .agg t.cells] H id = some (.pan (stopA q) H')) ∧ Agr H.length H H' :=
  ⟨q, H1, fun id => callV_refP rfl h, ha⟩
set_option maxHeartbeats 1000000 in
theorem types_row (p : PrV) (ok : PrOk p) (few : ∀ d ∈ p.nodes, FewV d) (vs : Vs) (rm : Nat) (t : Tr) (S : ShT t) (ih : ∀ a ∈ t.ts, TyOk p vs rm a) : TyOk p vs rm t := by
  intro H hM
  have sb := sc_box p rm
  have bt := box_tr t
  have e2 : (H ++ [.row (scL p rm) 57]) ++ [rowT t] = H ++ [.row (scL p rm) 57, rowT t] := by rw [List.append_assoc]; rfl
  have hlen2 : (H ++ [AO.row (scL p rm) 57]).length = H.length + 1 := by simp
  obtain ⟨H0, hH0⟩ : ∃ H0, H0 = H ++ [.row (scL p rm) 57, rowT t] := ⟨_, rfl⟩
  rw [← hH0] at e2
  have g0 : H0[H.length]? = some (.row (scL p rm) 57) := by rw [hH0, List.getElem?_append_right (Nat.le_refl _), Nat.sub_self]; rfl
  have g1 : H0[H.length + 1]? = some (rowT t) := by rw [hH0, List.getElem?_append_right (by omega)]; simp
  have ag0 : Agr H.length H H0 := by rw [hH0]; exact Agr.app _ _
  have hl0 : H0.length = H.length + 2 := by rw [hH0]; simp
  have gM : H0[rm]? = some (.mp (kvs vs)) := by rw [hH0]; exact get_old hM _
  have k2 := ld2 g1
  have L := arg_loop p vs rm t S.len ih H.length H0 g0 g1 gM t.ts 0 H0 (.sl 0 [] (some 0)) [] rfl (Nat.zero_le _) (.inl ⟨rfl, rfl⟩) (Agr.refl _) rfl
  rw [show ((0 : Nat) : Int) = 0 from rfl] at L
  rw [ty_eq]
  cases htl : tyL p vs t.ts with
  | none =>
    rw [htl] at L
    obtain ⟨q, fr', H1, L, a1⟩ := L
    have h : cw0 18 [.agg (scL p rm), .agg t.cells] H = some (.pan (stopA q), H1) := by
      refine cw0_of fn18 (c := c18) rfl rfl rfl rfl ?_
      simp -implicitDefEqProofs only [c18, aW, ↓aP, makes, reduceLT, reduceEqDiff, reduceAdd, ↓reduceIte, Nat.reduceBEq, core_box, sb, bt, e2, hlen2, fadr_ptr, k2, lenV_args, L]
      rfl
    exact ty_ok_none h (ag0.trans a1 (by omega))
  | some l =>
    rw [htl] at L
    obtain ⟨i', x, A', H1, L, O1, a1⟩ := L
    rw [List.nil_append] at O1
    have hll := tyL_len p vs _ _ htl
    have ag1 : Agr H.length H H1 := ag0.trans a1 (by omega)
    have g0' : H1[H.length]? = some (.row (scL p rm) 57) := a1.get g0 (by omega)
    have g1' : H1[H.length + 1]? = some (rowT t) := a1.get g1 (by omega)
    have gM' : H1[rm]? = some (.mp (kvs vs)) := a1.get gM (by have := (List.getElem?_eq_some_iff.1 gM).1; omega)
    have j0 := ld0 g1'
    have j1 := ld1 g1'
    have j3 := ld3 g1'
    have j4 := ld4 g1'
    have s3 := lsc3 g0'
    have uf := unless_f t.p
    have ut := unless_t t.p
    have RA : RowB H0.length H1 A' l := O1.row
    simp only
    unfold topT
    by_cases h6 : t.k = 6 ∨ t.k = 10
    · rw [if_pos h6]
      have hl1 := S.one h6
      rw [hl1] at hll
      match l, hll, O1, RA with
      | x :: rs, hll, O1, RA =>
        obtain ⟨c, ids, hf⟩ := RA.frz (by simp)
        have ac := apply_call (unR t.n) (unR_len _) t.p A' c ids x rs (by simp at hll; subst hll; decide) H1 hf
        have uc := unary_call t.n
        have key : (match applyR (unR t.n) x rs with | some s => cw0 18 [.agg (scL p rm), .agg t.cells] H = some (.ret (strs (some 1) [s]), H1) | none => cw0 18 [.agg (scL p rm), .agg t.cells] H = some (.pan (stopA t.p), H1)) := by
          cases ha : applyR (unR t.n) x rs with
          | some s =>
            rw [ha] at ac
            simp only at ac ⊢
            refine cw0_of fn18 (c := c18) rfl rfl rfl rfl ?_
            by_cases h66 : t.k = 6
            · have x6 : (t.k == 6) = true := by rw [h66]; rfl
              simp -implicitDefEqProofs only [c18, aW, ↓aP, makes, reduceLT, reduceEqDiff, reduceAdd, ↓reduceIte, Nat.reduceBEq, core_box, sb, bt, e2, hlen2, fadr_ptr, k2, lenV_args, L, j0, x6, j1, j3, uc, md25, ac, core_bsl, bsl_s1]
              rfl
            · have x6 : (t.k == 6) = false := by rwa [beq_eq_false_iff_ne]
              have x10 : (t.k == 10) = true := by rcases h6 with h | h; exact absurd h h66; rw [h]; rfl
              simp -implicitDefEqProofs only [c18, aW, ↓aP, makes, reduceLT, reduceEqDiff, reduceAdd, ↓reduceIte, Nat.reduceBEq, core_box, sb, bt, e2, hlen2, fadr_ptr, k2, lenV_args, L, j0, x6, x10, j1, j3, uc, md25, ac, core_bsl, bsl_s1]
              rfl
          | none =>
            rw [ha] at ac
            simp only at ac ⊢
            refine cw0_of fn18 (c := c18) rfl rfl rfl rfl ?_
            by_cases h66 : t.k = 6
            · have x6 : (t.k == 6) = true := by rw [h66]; rfl
              simp -implicitDefEqProofs only [c18, aW, ↓aP, makes, reduceLT, reduceEqDiff, reduceAdd, ↓reduceIte, Nat.reduceBEq, core_box, sb, bt, e2, hlen2, fadr_ptr, k2, lenV_args, L, j0, x6, j1, j3, uc, md25, ac, core_bsl, bsl_s1]
              rfl
            · have x6 : (t.k == 6) = false := by rwa [beq_eq_false_iff_ne]
              have x10 : (t.k == 10) = true := by rcases h6 with h | h; exact absurd h h66; rw [h]; rfl
              simp -implicitDefEqProofs only [c18, aW, ↓aP, makes, reduceLT, reduceEqDiff, reduceAdd, ↓reduceIte, Nat.reduceBEq, core_box, sb, bt, e2, hlen2, fadr_ptr, k2, lenV_args, L, j0, x6, x10, j1, j3, uc, md25, ac, core_bsl, bsl_s1]
              rfl
        simp only
        cases ha : applyR (unR t.n) x rs with
        | some s =>
          rw [ha] at key
          exact ty_ok_some key (.inr (.inl ⟨_, rfl⟩)) ag1
        | none =>
          rw [ha] at key
          exact ty_ok_none key ag1
    · rw [if_neg h6]
      have x6 : (t.k == 6) = false := by rw [beq_eq_false_iff_ne]; exact fun h => h6 (.inl h)
      have x10 : (t.k == 10) = false := by rw [beq_eq_false_iff_ne]; exact fun h => h6 (.inr h)
      by_cases h7 : t.k = 7
      · have x7 : (t.k == 7) = true := by rw [h7]; rfl
        rw [if_pos h7]
        have hl1 := S.two h7
        rw [hl1] at hll
        match l, hll, O1, RA with
        | x :: rs, hll, O1, RA =>
          obtain ⟨c, ids, hf⟩ := RA.frz (by simp)
          have ac := apply_call (binR t.n) (binR_len _) t.p A' c ids x rs (by simp at hll; omega) H1 hf
          have bc := binary_call t.n
          simp only
          cases ha : applyR (binR t.n) x rs with
          | some s =>
            rw [ha] at ac
            simp only at ac
            have key : cw0 18 [.agg (scL p rm), .agg t.cells] H = some (.ret (strs (some 1) [s]), H1) := by
              refine cw0_of fn18 (c := c18) rfl rfl rfl rfl ?_
              simp -implicitDefEqProofs only [c18, aW, ↓aP, makes, reduceLT, reduceEqDiff, reduceAdd, ↓reduceIte, Nat.reduceBEq, core_box, sb, bt, e2, hlen2, fadr_ptr, k2, lenV_args, L, j0, x6, x10, x7, j1, j3, bc, md27, ac, core_bsl, bsl_s1]
              rfl
            exact ty_ok_some key (.inr (.inl ⟨_, rfl⟩)) ag1
          | none =>
            rw [ha] at ac
            simp only at ac
            have key : cw0 18 [.agg (scL p rm), .agg t.cells] H = some (.pan (stopA t.p), H1) := by
              refine cw0_of fn18 (c := c18) rfl rfl rfl rfl ?_
              simp -implicitDefEqProofs only [c18, aW, ↓aP, makes, reduceLT, reduceEqDiff, reduceAdd, ↓reduceIte, Nat.reduceBEq, core_box, sb, bt, e2, hlen2, fadr_ptr, k2, lenV_args, L, j0, x6, x10, x7, j1, j3, bc, md27, ac, core_bsl, bsl_s1]
              rfl
            exact ty_ok_none key ag1
      · have x7 : (t.k == 7) = false := by rwa [beq_eq_false_iff_ne]
        rw [if_neg h7]
        by_cases h8 : t.k = 8
        · have x8 : (t.k == 8) = true := by rw [h8]; rfl
          rw [if_pos h8]
          have hl1 := S.three h8
          rw [hl1] at hll
          match l, hll, O1, RA with
          | [x, y, z], hll, O1, RA =>
            simp only
            obtain ⟨w, w1, w2⟩ := RA.at' (i := 0) (s := x) rfl
            have w1' : ∀ k : IntKind, iadr 1 A' (litI k 0) = some w := w1
            cases hb : sEq x sBool with
            | false =>
              have e : (x.data.toList == (bs [98, 111, 111, 108]).data.toList) = false := hb
              rw [if_neg (by decide)]
              have key : cw0 18 [.agg (scL p rm), .agg t.cells] H = some (.pan (stopA t.p), H1) := by
                refine cw0_of fn18 (c := c18) rfl rfl rfl rfl ?_
                simp -implicitDefEqProofs only [c18, aW, ↓aP, makes, reduceLT, reduceEqDiff, reduceAdd, ↓reduceIte, Nat.reduceBEq, core_box, sb, bt, e2, hlen2, fadr_ptr, k2, lenV_args, L, j0, x6, x10, x7, x8, j1, j3, w1', w2, bin_eqlS, e, uf]
                rfl
              exact ty_ok_none key ag1
            | true =>
              have e : (x.data.toList == (bs [98, 111, 111, 108]).data.toList) = true := hb
              rw [if_pos rfl]
              rcases O1 with ⟨_, h⟩ | ⟨r0, hr1, rfl, hr3⟩
              · cases h
              · have so := slice_o3 r0
                have hf : frz H1 frzF (.own r0 1 2 1 none) = some (strs none [y, z], [r0]) := frz_ownS (pre := [x]) (l := [y, z]) (k := 14) hr3
                have ac := apply_call ⟨none, bs []⟩ (by intro l h; cases h) t.p (.own r0 1 2 1 none) none [r0] y [z] (by simp) H1 hf
                have hl3 : [x, y, z].length = 3 := rfl
                rw [hl3] at w1' L
                cases ha : applyR ⟨none, bs []⟩ y [z] with
                | some s =>
                  rw [ha] at ac
                  simp only at ac
                  have key : cw0 18 [.agg (scL p rm), .agg t.cells] H = some (.ret (strs (some 1) [s]), H1) := by
                    refine cw0_of fn18 (c := c18) rfl rfl rfl rfl ?_
                    simp -implicitDefEqProofs only [c18, aW, ↓aP, makes, reduceLT, reduceEqDiff, reduceAdd, ↓reduceIte, Nat.reduceBEq, core_box, sb, bt, e2, hlen2, fadr_ptr, k2, lenV_args, L, j0, x6, x10, x7, x8, j1, j3, w1', w2, bin_eqlS, e, ut, core_bld2, bld2_fn, ev_rule0, core_sli, so, ac, core_bsl, bsl_s1]
                    rfl
                  exact ty_ok_some key (.inr (.inl ⟨_, rfl⟩)) ag1
                | none =>
                  rw [ha] at ac
                  simp only at ac
                  have key : cw0 18 [.agg (scL p rm), .agg t.cells] H = some (.pan (stopA t.p), H1) := by
                    refine cw0_of fn18 (c := c18) rfl rfl rfl rfl ?_
                    simp -implicitDefEqProofs only [c18, aW, ↓aP, makes, reduceLT, reduceEqDiff, reduceAdd, ↓reduceIte, Nat.reduceBEq, core_box, sb, bt, e2, hlen2, fadr_ptr, k2, lenV_args, L, j0, x6, x10, x7, x8, j1, j3, w1', w2, bin_eqlS, e, ut, core_bld2, bld2_fn, ev_rule0, core_sli, so, ac, core_bsl, bsl_s1]
                    rfl
                  exact ty_ok_none key ag1
        · have x8 : (t.k == 8) = false := by rwa [beq_eq_false_iff_ne]
          rw [if_neg h8]
          by_cases h9 : t.k = 9
          · have x9 : (t.k == 9) = true := by rw [h9]; rfl
            rw [if_pos h9]
            have ct := call29_tells p ok few vs rm t H1 A' l (.inr ⟨_, RA⟩) (by rw [hll]; exact S.len)
            cases hc : callF p t.n l with
            | some o =>
              rw [hc] at ct
              obtain ⟨A2, H2, c1, c2, c3⟩ := ct
              obtain ⟨H3, d1, d2, d3⟩ := callV_row rfl c1 c2 c3
              have key : cw0 18 [.agg (scL p rm), .agg t.cells] H = some (.ret A2, H3) := by
                refine cw0_of fn18 (c := c18) rfl rfl rfl rfl ?_
                simp -implicitDefEqProofs only [c18, aW, ↓aP, makes, reduceLT, reduceEqDiff, reduceAdd, ↓reduceIte, Nat.reduceBEq, core_box, sb, bt, e2, hlen2, fadr_ptr, k2, lenV_args, L, j0, x6, x10, x7, x8, x9, s3, j4, d1]
                rfl
              refine ty_ok_some key ?_ (ag1.trans d2 ag1.1)
              rcases d3 with h | h | ⟨r, h1, h2, h3⟩
              · exact .inl h
              · exact .inr (.inl h)
              · exact .inr (.inr ⟨r, Nat.le_trans ag1.1 h1, h2, h3⟩)
            | none =>
              rw [hc] at ct
              obtain ⟨H2, c1, c2⟩ := ct
              have d1 : ∀ id, callV cw0 mds 29 [.agg (scL p rm), .agg t.cells, A'] H1 id = some (.pan (stopA t.p) H2) := fun id => callV_refP rfl c1
              have key : cw0 18 [.agg (scL p rm), .agg t.cells] H = some (.pan (stopA t.p), H2) := by
                refine cw0_of fn18 (c := c18) rfl rfl rfl rfl ?_
                simp -implicitDefEqProofs only [c18, aW, ↓aP, makes, reduceLT, reduceEqDiff, reduceAdd, ↓reduceIte, Nat.reduceBEq, core_box, sb, bt, e2, hlen2, fadr_ptr, k2, lenV_args, L, j0, x6, x10, x7, x8, x9, s3, j4, d1]
                rfl
              exact ty_ok_none key (ag1.trans c2 ag1.1)
          · have x9 : (t.k == 9) = false := by rwa [beq_eq_false_iff_ne]
            rw [if_neg h9]
            by_cases h11 : t.k = 11
            · have x11 : (t.k == 11) = true := by rw [h11]; rfl
              rw [if_pos h11]
              have key : cw0 18 [.agg (scL p rm), .agg t.cells] H = some (.ret A', H1) := by
                refine cw0_of fn18 (c := c18) rfl rfl rfl rfl ?_
                simp -implicitDefEqProofs only [c18, aW, ↓aP, makes, reduceLT, reduceEqDiff, reduceAdd, ↓reduceIte, Nat.reduceBEq, core_box, sb, bt, e2, hlen2, fadr_ptr, k2, lenV_args, L, j0, x6, x10, x7, x8, x9, x11]
                rfl
              refine ty_ok_some key ?_ ag1
              rcases RA with h | h | ⟨r, h1, h2, h3⟩
              · exact .inl h
              · exact .inr (.inl h)
              · exact .inr (.inr ⟨r, by omega, h2, h3⟩)
            · have x11 : (t.k == 11) = false := by rwa [beq_eq_false_iff_ne]
              rw [if_neg h11]
              obtain ⟨H2, d1, d2⟩ := leaf_call p ok vs rm t H1 gM'
              have g2 : H2[H.length + 1]? = some (rowT t) := d2.get g1' (List.getElem?_eq_some_iff.1 g1').1
              have m3 := ld3 g2
              have ag2 := ag1.trans d2 ag1.1
              cases hs : sEq (leafF p vs t.k t.n) (bs []) with
              | true =>
                have e : ((leafF p vs t.k t.n).data.toList == (bs []).data.toList) = true := hs
                rw [if_pos rfl]
                have key : cw0 18 [.agg (scL p rm), .agg t.cells] H = some (.pan (stopA t.p), H2) := by
                  refine cw0_of fn18 (c := c18) rfl rfl rfl rfl ?_
                  simp -implicitDefEqProofs only [c18, aW, ↓aP, makes, reduceLT, reduceEqDiff, reduceAdd, ↓reduceIte, Nat.reduceBEq, core_box, sb, bt, e2, hlen2, fadr_ptr, k2, lenV_args, L, j0, x6, x10, x7, x8, x9, x11, s3, j4, d1, bin_neqS, e, m3, uf]
                  rfl
                exact ty_ok_none key ag2
              | false =>
                have e : ((leafF p vs t.k t.n).data.toList == (bs []).data.toList) = false := hs
                rw [if_neg (by decide)]
                have key : cw0 18 [.agg (scL p rm), .agg t.cells] H = some (.ret (strs (some 1) [leafF p vs t.k t.n]), H2) := by
                  refine cw0_of fn18 (c := c18) rfl rfl rfl rfl ?_
                  simp -implicitDefEqProofs only [c18, aW, ↓aP, makes, reduceLT, reduceEqDiff, reduceAdd, ↓reduceIte, Nat.reduceBEq, core_box, sb, bt, e2, hlen2, fadr_ptr, k2, lenV_args, L, j0, x6, x10, x7, x8, x9, x11, s3, j4, d1, bin_neqS, e, m3, ut, core_bsl, bsl_s1]
                  rfl
                exact ty_ok_some key (.inr (.inl ⟨_, rfl⟩)) ag2
theorem types_ok (p : PrV) (ok : PrOk p) (few : ∀ d ∈ p.nodes, FewV d) (vs : Vs) (rm : Nat) : ∀ t : Tr, ShT t → TyOk p vs rm t :=
  Tr.ind fun k n z c ts q ih S => types_row p ok few vs rm _ S fun a ha => ih a ha (S.sub a ha)
end Go.Proofs.YtkjimmmdeopnaaaGreat.Ai
namespace Go.Proofs.YtkjimmmdeopnaaaGreat.Ai
open Go Go.Ai
def flatV (vs : List Va) : List AV := (vs.map Va.cells).flatten
theorem flatV_len : ∀ vs : List Va, (flatV vs).length = vs.length * 4
  | [] => rfl
  | v :: r => by
    show ((v.cells :: r.map Va.cells).flatten).length = _
    rw [List.flatten_cons, List.length_append, show ((r.map Va.cells).flatten).length = r.length * 4 from flatV_len r, List.length_cons]
    show 4 + r.length * 4 = _
    omega
theorem flatV_app (a b : List Va) : flatV (a ++ b) = flatV a ++ flatV b := by
  unfold flatV; rw [List.map_append, List.flatten_append]
theorem flatV_whole : ∀ vs : List Va, (flatV vs).all whole = true
  | [] => rfl
  | v :: r => by
    show ((v.cells :: r.map Va.cells).flatten).all whole = true
    rw [List.flatten_cons, List.all_append, show ((r.map Va.cells).flatten).all whole = true from flatV_whole r]
    rfl
def OutV (H : List AO) (A : AV) (vs : List Va) : Prop :=
  (A = .sl 0 [] (some 0) ∧ vs = []) ∨ ∃ r z, A = .own r 0 vs.length 4 none ∧ H[r]? = some (.row (flatV vs ++ z) 61) ∧ z.all whole = true
theorem outV_step {H : List AO} {A : AV} {vs : List Va} (O : OutV H A vs) (ys : List Va) (hl : vs.length + ys.length ≤ 1000) :
    ∃ A' H', (∀ d fr k, opS (append H H.length 4 64 61 A (varsA none ys)) d fr H k = k (putD fr d A') H') ∧ OutV H' A' (vs ++ ys) := by
  have he : elems H 4 (varsA none ys) = some (ys.length, flatV ys) := by
    show some ((ys.map Va.cells).length, (ys.map Va.cells).flatten) = _
    rw [List.length_map]; rfl
  cases hys : ys with
  | nil =>
    subst hys
    refine ⟨A, H, fun d fr k => ?_, by rw [List.append_nil]; exact O⟩
    unfold append
    rw [he]
    rcases O with ⟨rfl, rfl⟩ | ⟨r, z, rfl, _, _⟩ <;> rfl
  | cons y ys' =>
    rw [← hys]
    have hn : (ys.length == 0) = false := by rw [hys]; rfl
    have h8 : Nat.ble ((vs.length + ys.length) * 64) 140737488355328 = true := Nat.ble_eq_true_of_le (by omega)
    rcases O with ⟨rfl, rfl⟩ | ⟨r, z, rfl, hr, hz⟩
    · refine ⟨.own H.length 0 ys.length 4 none, H ++ [.row (flatV ys) 61], fun d fr k => ?_, .inr ⟨H.length, [], rfl, by rw [List.append_nil]; exact get_last _ _, rfl⟩⟩
      unfold append
      rw [he]
      simp only [Option.bind_some, hn, cond_false, List.length_nil, BEq.rfl, List.isEmpty_nil, Bool.or_true, Bool.and_true, Bool.true_and, Nat.zero_add, List.flatten_nil, List.nil_append]
      rw [List.length_nil, Nat.zero_add] at h8
      rw [h8]
      rfl
    · have hlt := (List.getElem?_eq_some_iff.1 hr).1
      have hra : Ai.rowAt H r = some (flatV vs ++ z, 61) := by unfold Ai.rowAt; rw [hr]
      have h2 : (flatV vs ++ z).take (vs.length * 4) = flatV vs := by rw [List.take_left' (flatV_len vs)]
      have h3 : Nat.ble (0 + vs.length * 4) (flatV vs ++ z).length = true := Nat.ble_eq_true_of_le (by rw [List.length_append, flatV_len]; omega)
      have hsl : (setL H r AO.dead).length = H.length := by unfold setL; rw [List.length_set]
      refine ⟨.own H.length 0 (vs.length + ys.length) 4 none, setL H r .dead ++ [.row (flatV vs ++ flatV ys) 61], fun d fr k => ?_, .inr ⟨H.length, [], by rw [List.length_append], ?_, rfl⟩⟩
      · unfold append
        rw [he]
        simp only [Option.bind_some, hn, cond_false, hra, BEq.rfl, h3, h8, Bool.and_self, cond_true, List.drop_zero, h2]
        rfl
      · rw [← hsl, get_last, List.append_nil, flatV_app]
theorem core_cap {H : List AO} {id : Nat} {fr : Fr} (x : X) : core cw0 (lookM mtl) mds H id (.cap x) fr = valO (capV (ev fr x)) := rfl
theorem core_apm {H : List AO} {id : Nat} {fr : Fr} (e bytes : Nat) (z : List AV) (t : TypeId) (x n : X) : core cw0 (lookM mtl) mds H id (.apm e bytes z t x n) fr = apmV id e bytes z t (ev fr x) (ev fr n) := rfl
theorem capV_nil : capV (.sl 0 [] (some 0)) = some (litI .i64 0) := rfl
def zV : List AV := [litS (bs []), litS (bs []), .sl 0 [] (some 0), litI .i64 0]
theorem grow0_call (H : List AO) (id : Nat) : callV cw0 mds 39 [.sl 0 [] (some 0), litI .i64 0] H id = some (.val (.sl 0 [] (some 0)) none) := by
  have h : cw0 39 [.sl 0 [] (some 0), litI .i64 0] [] = some (.ret (.sl 0 [] (some 0)), []) := by
    refine cw0_of fn39 (c := c39) rfl rfl rfl rfl ?_
    simp -implicitDefEqProofs only [c39, aW, ↓aP, makes, reduceLT, reduceEqDiff, reduceAdd, ↓reduceIte, Nat.reduceBEq, core_cap, core_apm, capV_nil, List.length_nil, Int.ofNat_zero, Int.lt_irrefl, show IntKind.wrap .i64 (0 - 0) = 0 from rfl]
    rfl
  exact callV_ownP rfl rfl h rfl
theorem reps_whole : ∀ n : Nat, (reps n zV).all whole = true
  | 0 => rfl
  | n + 1 => by
    show (zV ++ reps n zV).all whole = true
    rw [List.all_append, reps_whole n]; rfl
theorem grow1_call (n : Nat) (h0 : 0 < n) (hn : n ≤ 1000) (H : List AO) (id : Nat) : callV cw0 mds 39 [.sl 0 [] (some 0), litI .i64 n] H id = some (.val (.own id 0 0 4 none) (some (.row (reps n zV) 61))) := by
  have h : cw0 39 [.sl 0 [] (some 0), litI .i64 n] [] = some (.ret (.own 0 0 0 4 none), [.row (reps n zV) 61]) := by
    refine cw0_of fn39 (c := c39) rfl rfl rfl rfl ?_
    have h1 : ¬ (n : Int) < 0 := by omega
    have h2 : IntKind.wrap .i64 ((n : Int) - 0) = n := by rw [Go.Ai.wrap_small] <;> omega
    have h3 : (0 : Int) < n := by omega
    have sl1 : slice 4 (.sl 0 [] (some 0)) none (some (litI .i64 0)) none = some (.sl 4 [] (some 0)) := rfl
    have ap : ∀ id, apmV id 4 64 [litS (bs []), litS (bs []), .sl 0 [] (some 0), litI .i64 0] 61 (.sl 4 [] (some 0)) (litI .i64 n) = some (.val (.own id 0 n 4 none) (some (.row (reps n zV) 61))) := by
      intro id
      have e1 : (n : Int) * 64 ≤ 140737488355328 := by omega
      have e2 : (n : Int) ≤ 140737488355328 := by omega
      simp only [apmV, litI, h3, e1, e2, decide_true, Bool.and_self, cond_true, Int.toNat_natCast, Int.cast_ofNat_Int]
      rfl
    have sl2 : ∀ r, slice 4 (.own r 0 n 4 none) none (some (litI .i64 0)) none = some (.own r 0 0 4 none) := fun r => by
      rw [slice_own_to (by omega) (by omega)]; rfl
    simp -implicitDefEqProofs only [c39, aW, ↓aP, makes, reduceLT, reduceEqDiff, reduceAdd, ↓reduceIte, Nat.reduceBEq, core_cap, core_apm, capV_nil, List.length_nil, Int.ofNat_zero, h1, show IntKind.wrap .i64 (0 - 0) = 0 from rfl, h2, h3, sl1, ap, sl2]
    rfl
  exact callV_own rfl rfl h rfl (reps_whole n)
def catA (L : List (List Va)) (c : Option Nat) : AV := .sl 1 (L.map fun vs => [varsA none vs]) c
theorem lenV_cat (L : List (List Va)) (c : Option Nat) : lenV (catA L c) = some (litI .i64 L.length) := by simp [catA, lenV]
theorem iadr_cat {L : List (List Va)} {c : Option Nat} {n : Nat} {vs : List Va} (h : L[n]? = some vs) {k : IntKind} : iadr 1 (catA L c) (litI k n) = some (.ip [varsA none vs]) :=
  iadr_ix (by rw [List.getElem?_map, h]; rfl)
theorem cat_loop0 (L : List (List Va)) (c : Option Nat) (hl : L.length ≤ 1000) (H : List AO) : ∀ (m n s : Nat), m + n = L.length → s + (L.drop n).flatten.length ≤ 1000 →
    loopW (codeW cw0 (lookM mtl) mds c23l0) [0, 3, 9, 10, 11] [(0, catA L c), (3, litI .i64 s), (9, catA L c), (10, litI .i64 L.length), (11, litI .i64 n)] H =
      some (EX.exit 0, [(0, catA L c), (3, litI .i64 (s + (L.drop n).flatten.length : Nat)), (9, catA L c), (10, litI .i64 L.length), (11, litI .i64 L.length), (12, litB false)], H)
  | 0, n, s, h, hs => by
    have hn : n = L.length := by omega
    subst hn
    refine loopW_out ?_ (by simp)
    rw [List.drop_length, List.flatten_nil, List.length_nil, Nat.add_zero]
    simp -implicitDefEqProofs only [c23l0, aW, ↓aP, makes, reduceLT, reduceEqDiff, reduceAdd, ↓reduceIte, Nat.reduceBEq, Int.lt_irrefl]
  | m + 1, n, s, h, hs => by
    have hn : n < L.length := by omega
    have hg : L[n]? = some L[n] := List.getElem?_eq_getElem hn
    have hlt : (n : Int) < L.length := by omega
    have hd : L.drop n = L[n] :: L.drop (n + 1) := List.drop_eq_getElem_cons hn
    rw [hd, List.flatten_cons, List.length_append] at hs
    have ih := cat_loop0 L c hl H m (n + 1) (s + L[n].length) (by omega) (by omega)
    rw [hd, List.flatten_cons, List.length_append, ← Nat.add_assoc]
    refine loopW_round ?_ ih
    have hw : IntKind.wrap .i64 ((s : Int) + (L[n].length : Int)) = ((s + L[n].length : Nat) : Int) := by rw [Go.Ai.wrap_small] <;> omega
    have h0 : ¬ ((s + L[n].length : Nat) : Int) < 0 := by omega
    simp -implicitDefEqProofs only [c23l0, aW, ↓aP, makes, reduceLT, reduceEqDiff, reduceAdd, ↓reduceIte, Nat.reduceBEq, hlt, iadr_cat hg, lenV_vars, hw, h0, wrap1 (show n < 4611686018427387904 by omega)]
theorem cat_loop1 (L : List (List Va)) (c : Option Nat) (hl : L.length ≤ 1000) : ∀ (m n : Nat) (A : AV) (vs : List Va) (H : List AO), m + n = L.length → vs.length + (L.drop n).flatten.length ≤ 1000 → OutV H A vs →
    ∃ A' H', loopW (codeW cw0 (lookM mtl) mds c23l1) [6, 25, 26, 27] [(6, A), (25, catA L c), (26, litI .i64 L.length), (27, litI .i64 n)] H =
      some (EX.exit 2, [(6, A'), (25, catA L c), (26, litI .i64 L.length), (27, litI .i64 L.length), (28, litB false)], H') ∧ OutV H' A' (vs ++ (L.drop n).flatten)
  | 0, n, A, vs, H, h, hs, O => by
    have hn : n = L.length := by omega
    subst hn
    refine ⟨A, H, loopW_out ?_ (by simp), ?_⟩
    · simp -implicitDefEqProofs only [c23l1, aW, ↓aP, makes, reduceLT, reduceEqDiff, reduceAdd, ↓reduceIte, Nat.reduceBEq, Int.lt_irrefl]
    · rw [List.drop_length, List.flatten_nil, List.append_nil]; exact O
  | m + 1, n, A, vs, H, h, hs, O => by
    have hn : n < L.length := by omega
    have hg : L[n]? = some L[n] := List.getElem?_eq_getElem hn
    have hlt : (n : Int) < L.length := by omega
    have hd : L.drop n = L[n] :: L.drop (n + 1) := List.drop_eq_getElem_cons hn
    rw [hd, List.flatten_cons, List.length_append] at hs
    obtain ⟨A1, H1, ap, O1⟩ := outV_step O L[n] (by omega)
    obtain ⟨A', H', L', O'⟩ := cat_loop1 L c hl m (n + 1) A1 (vs ++ L[n]) H1 (by omega) (by rw [List.length_append]; omega) O1
    rw [hd, List.flatten_cons, ← List.append_assoc]
    refine ⟨A', H', loopW_round ?_ L', O'⟩
    simp -implicitDefEqProofs only [c23l1, aW, ↓aP, makes, reduceLT, reduceEqDiff, reduceAdd, ↓reduceIte, Nat.reduceBEq, hlt, iadr_cat hg, ap, wrap1 (show n < 4611686018427387904 by omega)]
theorem chunksV : ∀ (vs : List Va) (z : List AV), chunks 4 vs.length (flatV vs ++ z) = vs.map Va.cells
  | [], z => rfl
  | v :: r, z => by
    show ((flatV (v :: r) ++ z).take 4) :: chunks 4 r.length ((flatV (v :: r) ++ z).drop 4) = _
    rw [show flatV (v :: r) ++ z = v.cells ++ (flatV r ++ z) by
      show (v.cells :: r.map Va.cells).flatten ++ z = _
      rw [List.flatten_cons, List.append_assoc]; rfl]
    rw [List.take_left' (show v.cells.length = 4 from rfl), List.drop_left' (show v.cells.length = 4 from rfl), chunksV r z]
    rfl
theorem mapR_whole4 {H : List AO} {k : Nat} : ∀ (n : Nat) (cs : List AV), cs.all whole = true → mapR (frz H (k + 1)) 4 n cs = some (chunks 4 n cs, [])
  | 0, _, _ => rfl
  | n + 1, cs, h => by
    have h1 : (cs.take 4).all whole = true := by
      rw [List.all_eq_true] at h ⊢; exact fun a ha => h a (List.mem_of_mem_take ha)
    have h2 : (cs.drop 4).all whole = true := by
      rw [List.all_eq_true] at h ⊢; exact fun a ha => h a (List.mem_of_mem_drop ha)
    simp only [mapR, mapL_whole h1, mapR_whole4 n _ h2, Option.bind_some, chunks]
    rfl
theorem frz_outV {H : List AO} {A : AV} {vs : List Va} (O : OutV H A vs) : ∃ e c ids, (vs ≠ [] → e = 4) ∧ frz H frzF A = some (.sl e (vs.map Va.cells) c, ids) := by
  rcases O with ⟨rfl, rfl⟩ | ⟨r, z, rfl, hr, hz⟩
  · exact ⟨0, some 0, [], fun h => absurd rfl h, rfl⟩
  · refine ⟨4, none, [r], fun _ => rfl, ?_⟩
    have hb : Nat.ble (0 + vs.length * 4) (flatV vs ++ z).length = true := Nat.ble_eq_true_of_le (by rw [List.length_append, flatV_len]; omega)
    have hw : (flatV vs ++ z).all whole = true := by rw [List.all_append, flatV_whole, hz]; rfl
    show frz H (14 + 2) _ = _
    rw [frz]
    simp only [hr, hb, cond_true, List.drop_zero, mapR_whole4 vs.length _ hw, Option.bind_some, chunksV]
theorem concat_call (L : List (List Va)) (c : Option Nat) (hl : L.length ≤ 1000) (hs : L.flatten.length ≤ 1000) : ∃ e c', (L.flatten ≠ [] → e = 4) ∧ ∀ H id, callV cw0 mds 23 [catA L c] H id = some (.val (.sl e (L.flatten.map Va.cells) c') none) := by
  have L0 := cat_loop0 L c hl [] L.length 0 0 (by omega) (by simpa using hs)
  rw [show ((0 : Nat) : Int) = 0 from rfl, List.drop_zero, Nat.zero_add] at L0
  have key : ∃ A H', cw0 23 [catA L c] [] = some (.ret A, H') ∧ OutV H' A L.flatten := by
    by_cases h0 : L.flatten.length = 0
    · obtain ⟨A', H', L1, O'⟩ := cat_loop1 L c hl L.length 0 (.sl 0 [] (some 0)) [] [] (by omega) (by simpa using hs) (.inl ⟨rfl, rfl⟩)
      rw [show ((0 : Nat) : Int) = 0 from rfl] at L1
      rw [List.drop_zero, List.nil_append] at O'
      rw [h0, show ((0 : Nat) : Int) = 0 from rfl] at L0
      refine ⟨A', H', cw0_of fn23 (c := c23) rfl rfl rfl rfl ?_, O'⟩
      simp -implicitDefEqProofs only [c23, aW, ↓aP, makes, reduceLT, reduceEqDiff, reduceAdd, ↓reduceIte, Nat.reduceBEq, lenV_cat, L0, grow0_call, L1]
      rfl
    · have hpos : 0 < L.flatten.length := by omega
      have g1 := fun id => grow1_call L.flatten.length hpos hs [] id
      obtain ⟨A', H', L1, O'⟩ := cat_loop1 L c hl L.length 0 (.own 0 0 0 4 none) [] [.row (reps L.flatten.length zV) 61] (by omega) (by simpa using hs) (.inr ⟨0, reps L.flatten.length zV, rfl, rfl, reps_whole _⟩)
      rw [show ((0 : Nat) : Int) = 0 from rfl] at L1
      rw [List.drop_zero, List.nil_append] at O'
      refine ⟨A', H', cw0_of fn23 (c := c23) rfl rfl rfl rfl ?_, O'⟩
      simp -implicitDefEqProofs only [c23, aW, ↓aP, makes, reduceLT, reduceEqDiff, reduceAdd, ↓reduceIte, Nat.reduceBEq, lenV_cat, L0, g1, List.length_nil, L1]
      rfl
  obtain ⟨A, H', h, O⟩ := key
  obtain ⟨e, c', ids, he, hf⟩ := frz_outV O
  exact ⟨e, c', he, fun H id => callV_frz rfl rfl h hf⟩
theorem backward_call (e : Nat) (xs : List (List AV)) (c : Option Nat) (H : List AO) (id : Nat) : callV cw0 mds 22 [.sl e xs c] H id = some (.val (.fn (.func 38) [] [.ip [.sl e xs c]]) none) := by
  have hb : ∀ id, boxV id 1 (.sl e xs c) 32 = some (.val (.ptr id 0) (some (.row [.sl e xs c] 32))) := fun id => rfl
  have key : cw0 22 [.sl e xs c] [] = some (.ret (.fn (.func 38) [] [.ptr 0 0]), [.row [.sl e xs c] 32]) := by
    refine cw0_of fn22 (c := c22) rfl rfl rfl rfl ?_
    simp -implicitDefEqProofs only [c22, aW, ↓aP, makes, reduceLT, reduceEqDiff, reduceAdd, ↓reduceIte, Nat.reduceBEq, core_box, hb, List.length_nil, core_mkf]
    rfl
  exact callV_frz rfl rfl key rfl
end Go.Proofs.YtkjimmmdeopnaaaGreat.Ai
namespace Go.Proofs.YtkjimmmdeopnaaaGreat.Ai
open Go Go.Ai
def idxS (s : ByteArray) : Vs → Nat → Option (Nat × ByteArray)
  | [], _ => none
  | x :: r, i => if sEq s x.1 = true then some (i, x.2) else idxS s r (i + 1)
theorem findK_idx (s : ByteArray) : ∀ (vs : Vs) (i : Nat), findK .str (.string s) (kvs vs) i = some ((idxS s vs i).map fun o => (o.1, litS o.2))
  | [], i => rfl
  | x :: r, i => by
    show (match sameK .str (.string s) (.string x.1) with | some true => some (some (i, litS x.2)) | some false => findK .str (.string s) (kvs r) (i + 1) | none => none) = _
    rw [show sameK .str (.string s) (.string x.1) = some (sEq s x.1) from rfl, idxS]
    cases sEq s x.1 with
    | true => rfl
    | false => exact findK_idx s r (i + 1)
def putV (vs : Vs) (s x : ByteArray) : Vs := match idxS s vs 0 with
  | some o => vs.set o.1 (s, x)
  | none => vs ++ [(s, x)]
theorem mup_str {H : List AO} {r : Nat} {vs : Vs} (h : H[r]? = some (.mp (kvs vs))) (s x : ByteArray) : mupH H .str (.mpv r) (litS s) (litS x) = some (setL H r (.mp (kvs (putV vs s x)))) := by
  have hm : mapAt H (.mpv r) = some (kvs vs) := by
    show (match H[r]? with | some (.mp kvs) => some kvs | _ => none) = _
    rw [h]
  unfold mupH
  simp only [hm, Option.bind_some]
  rw [show Ai.keyOf .str (litS s) = some (.string s) from rfl]
  simp only [Option.bind_some, findK_idx]
  unfold putV
  cases idxS s vs 0 with
  | none =>
    simp only [Option.map_none]
    rw [show kvs (vs ++ [(s, x)]) = kvs vs ++ [(Value.string s, litS x)] by unfold kvs; rw [List.map_append]; rfl]
  | some o =>
    simp only [Option.map_some]
    rw [show kvs (vs.set o.1 (s, x)) = (kvs vs).set o.1 (Value.string s, litS x) by unfold kvs; rw [List.map_set]]
def scV : List Va → Vs
  | [] => []
  | v :: r => putV (scV r) v.n v.t
def NoV.vars (d : NoV) : Vs := scV (d.inn ++ (d.out ++ d.loc))
theorem app_get (H l : List AO) (i : Nat) : (H ++ l)[H.length + i]? = l[i]? := by
  rw [List.getElem?_append_right (by omega)]; congr 1; omega
theorem app_get0 (H l : List AO) : (H ++ l)[H.length]? = l[0]? := app_get H l 0
theorem app_set (H l : List AO) (i : Nat) (o : AO) : setL (H ++ l) (H.length + i) o = H ++ setL l i o := by
  unfold setL; rw [List.set_append_right _ _ (by omega)]; congr 2; omega
def zsV : List AV := [.sl 0 [] (some 0), .sl 0 [] (some 0), .lit (.map none)]
theorem core_mupV {call : CallF} {mt : MtF} {md : FuncId → Md} {H : List AO} {id : Nat} {fr : Fr} (kk : KK) (m k x : X) : core call mt md H id (.mup kk m k x) fr = wrO .any (mupH H kk (ev fr m) (ev fr k) (ev fr x)) := rfl
def bld3 (z1 z2 z3 a b : AV) : Option Out := (fill [z1, z2, z3] [(0, 2, a), (2, 1, b)]).bind fun cs => some (.val (.agg cs) none)
theorem core_bld3 {call : CallF} {mt : MtF} {md : FuncId → Md} {H : List AO} {id : Nat} {fr : Fr} (z1 z2 z3 : AV) (x y : X) : core call mt md H id (.build [z1, z2, z3] [(0, 2, x), (2, 1, y)]) fr = bld3 z1 z2 z3 (ev fr x) (ev fr y) := rfl
theorem bld3_sc (p : PrV) (z1 z2 z3 : AV) (r : Nat) : bld3 z1 z2 z3 (.agg p.cells) (.mpv r) = some (.val (.agg (scL p r)) none) := rfl
section
variable (p : PrV) (d : NoV) (H : List AO)
def HA : List AO := H ++ [.row p.cells 25, .row d.cells 35, .row zsV 57]
def HD : List AO := H ++ [.row p.cells 25, .row d.cells 35, .row zsV 57, .mp [], .row (scL p (H.length + 3)) 57]
theorem r17p0 : code0 c17p0 [(0, .agg p.cells), (1, .agg d.cells)] H = some (.normal, [(2, .ptr H.length 0), (3, .ptr (H.length + 1) 0), (4, .ptr (H.length + 2) 0)], HA p d H) := by
  unfold code0 HA zsV
  have b1 := box_pr p
  have b2 := box_no d
  simp -implicitDefEqProofs only [c17p0, aW, ↓aP, makes, reduceLT, reduceEqDiff, reduceAdd, ↓reduceIte, Nat.reduceBEq, core_box, b1, b2, List.length_append, List.length_cons, List.length_nil, List.append_assoc, reduceAdd]
theorem r17p1 : code0 c17p1 [(2, .ptr H.length 0), (3, .ptr (H.length + 1) 0), (4, .ptr (H.length + 2) 0)] (HA p d H) = some (.normal, [(3, .ptr (H.length + 1) 0), (4, .ptr (H.length + 2) 0), (5, .ptr (H.length + 4) 0)], HD p d H) := by
  have l2 : Ai.load (HA p d H) (some 2) (.ptr H.length 0) = some (.agg p.cells) := load_agg (cs := p.cells) (t := 25) (app_get0 _ _) rfl
  have st : storeAt (H ++ [.row p.cells 25, .row d.cells 35, .row zsV 57, .mp [], .row zsV 57]) 3 (.ptr (H.length + 4) 0) (.agg (scL p (H.length + 3))) = some (HD p d H) := by
    rw [storeAt_agg (n := 3) (app_get _ _ 4) rfl rfl rfl, app_set]; rfl
  unfold code0
  unfold HA at l2 ⊢
  unfold zsV at l2 st ⊢
  simp -implicitDefEqProofs only [c17p1, aW, ↓aP, makes, reduceLT, reduceEqDiff, reduceAdd, ↓reduceIte, Nat.reduceBEq, l2, core_mkmV, core_bld3, bld3_sc, List.length_append, List.length_cons, List.length_nil, List.append_assoc, reduceAdd, st]
theorem dn_ptr (k : Nat) (H' : List AO) (hd : H'[k]? = some (.row d.cells 35)) : Ai.load H' none (.ptr k 2) = some (varsA none d.inn) ∧ Ai.load H' none (.ptr k 3) = some (varsA none d.out) ∧ Ai.load H' none (.ptr k 4) = some (varsA none d.loc) :=
  ⟨by rw [load_ptr hd]; rfl, by rw [load_ptr hd]; rfl, by rw [load_ptr hd]; rfl⟩
theorem bsl_cat (H : List AO) (z : AV) (a b c : List Va) : bslV H 1 3 [z] [(0, varsA none a), (1, varsA none b), (2, varsA none c)] = some (.val (catA [a, b, c] (some 3)) none) := rfl
theorem r17p2 (few : FewV d) : ∃ e c, (d.inn ++ (d.out ++ d.loc) ≠ [] → e = 4) ∧
    code0 c17p2 [(3, .ptr (H.length + 1) 0), (4, .ptr (H.length + 2) 0), (5, .ptr (H.length + 4) 0)] (HD p d H) = some (.normal, [(4, .ptr (H.length + 2) 0), (5, .ptr (H.length + 4) 0), (19, .fn (.func 38) [] [.ip [.sl e ((d.inn ++ (d.out ++ d.loc)).map Va.cells) c]])], HD p d H) := by
  have hf : [d.inn, d.out, d.loc].flatten = d.inn ++ (d.out ++ d.loc) := by simp
  unfold FewV at few
  obtain ⟨e, c, he, hc⟩ := concat_call [d.inn, d.out, d.loc] (some 3) (by simp) (by rw [hf]; simp only [List.length_append]; omega)
  rw [hf] at he hc
  refine ⟨e, c, he, ?_⟩
  obtain ⟨k1, k2, k3⟩ := dn_ptr d (H.length + 1) (HD p d H) (app_get _ _ 1)
  have bw := backward_call e ((d.inn ++ (d.out ++ d.loc)).map Va.cells) c
  unfold code0
  simp -implicitDefEqProofs only [c17p2, aW, ↓aP, makes, reduceLT, reduceEqDiff, reduceAdd, ↓reduceIte, Nat.reduceBEq, fadr_ptr, k1, k2, k3, core_bsl, bsl_cat, hc, bw]
end
theorem oneW_of {cw : C → Fr → List AO → Option Ai.S} {ps : List Nat} {asn body : C} {fr fr1 fr2 : Fr} {a : List AV} {H H1 H2 : List AO} (hl : (a.length == ps.length) = true) (h1 : cw asn (putL fr ps a) H = some (.normal, fr1, H1)) (h2 : cw body fr1 H1 = some (.normal, fr2, H2)) : oneW cw ps asn body fr a H = some (.normal, H2) := by
  unfold oneW
  rw [hl, cond_true, h1]
  simp only [Option.bind_some, h2]
  rfl
structure Scp (p : PrV) (b : Nat) (H0 H : List AO) (vs : Vs) : Prop where
  agr : Agr (b + 3) H0 H
  mp : H[b + 3]? = some (.mp (kvs vs))
  sc : H[b + 4]? = some (.row (scL p (b + 3)) 57)
theorem va_box (H : List AO) (v : Va) : storeAt (H ++ [.row [litS (bs []), litS (bs []), .sl 0 [] (some 0), litI .i64 0] 61]) 4 (.ptr H.length 0) (.agg v.cells) = some (H ++ [.row v.cells 61]) := st_new H rfl rfl rfl
theorem sc_round {p : PrV} {b : Nat} {H0 H : List AO} {vs : Vs} (h : Scp p b H0 H vs) (v : Va) (i : AV) (f : AV) : ∃ H', oneW code0 [20, 21] c17p3a c17p3b [(4, .ptr (b + 2) 0), (5, .ptr (b + 4) 0), (19, f)] [i, .agg v.cells] H = some (.normal, H') ∧ Scp p b H0 H' (putV vs v.n v.t) := by
  have vb := va_box H v
  have a1 : code0 c17p3a [(4, .ptr (b + 2) 0), (5, .ptr (b + 4) 0), (19, f), (20, i), (21, .agg v.cells)] H = some (.normal, [(5, .ptr (b + 4) 0), (7, .ptr H.length 0)], H ++ [.row v.cells 61]) := by
    unfold code0
    simp -implicitDefEqProofs only [c17p3a, aW, ↓aP, makes, reduceLT, reduceEqDiff, reduceAdd, ↓reduceIte, Nat.reduceBEq, vb]
  have hb : b + 4 < H.length := (List.getElem?_eq_some_iff.1 h.sc).1
  have s2 : Ai.load (H ++ [.row v.cells 61]) none (.ptr (b + 4) 2) = some (.mpv (b + 3)) := lscv (get_old h.sc _)
  have v0 : Ai.load (H ++ [.row v.cells 61]) none (.ptr H.length 0) = some (litS v.n) := by rw [load_ptr (get_last H _)]; rfl
  have v1 : Ai.load (H ++ [.row v.cells 61]) none (.ptr H.length 1) = some (litS v.t) := by rw [load_ptr (get_last H _)]; rfl
  have mu := mup_str (get_old h.mp [.row v.cells 61]) v.n v.t
  have a2 : code0 c17p3b [(5, .ptr (b + 4) 0), (7, .ptr H.length 0)] (H ++ [.row v.cells 61]) = some (.normal, [], setL (H ++ [.row v.cells 61]) (b + 3) (.mp (kvs (putV vs v.n v.t)))) := by
    unfold code0
    simp -implicitDefEqProofs only [c17p3b, aW, ↓aP, makes, reduceLT, reduceEqDiff, reduceAdd, ↓reduceIte, Nat.reduceBEq, fadr_ptr, s2, v0, v1, core_mupV, mu]
  refine ⟨setL (H ++ [.row v.cells 61]) (b + 3) (.mp (kvs (putV vs v.n v.t))), ?_, ⟨⟨?_, fun j hj => ?_⟩, ?_, ?_⟩⟩
  · exact oneW_of rfl a1 a2
  · unfold setL; rw [List.length_set, List.length_append]; omega
  · unfold setL; rw [List.getElem?_set_ne (by omega), List.getElem?_append_left (by omega)]; exact h.agr.2 j hj
  · unfold setL; rw [List.getElem?_set_self (by rw [List.length_append]; omega)]
  · unfold setL; rw [List.getElem?_set_ne (by omega)]; exact get_old h.sc _
theorem scV_fold : ∀ l : List Va, scV l = l.foldr (fun v s => putV s v.n v.t) []
  | [] => rfl
  | v :: r => by rw [scV, scV_fold r]; rfl
theorem sc_rounds {p : PrV} {b : Nat} {H0 : List AO} (l : List Va) (f : AV) : ∀ (m : Nat) (H : List AO) (vs : Vs), m ≤ l.length → Scp p b H0 H vs →
    ∃ H', roundsW code0 [20, 21] c17p3a c17p3b [(4, .ptr (b + 2) 0), (5, .ptr (b + 4) 0), (19, f)] (backsAt (l.map Va.cells) m) H = some (.normal, H') ∧ Scp p b H0 H' ((l.take m).foldr (fun v s => putV s v.n v.t) vs)
  | 0, H, vs, hm, h => ⟨H, rfl, by rw [List.take_zero]; exact h⟩
  | m + 1, H, vs, hm, h => by
    have hlt : m < l.length := by omega
    have hg : l[m]? = some l[m] := List.getElem?_eq_getElem hlt
    have hd : (l.map Va.cells).getD m [] = (l[m]).cells := by rw [List.getD_eq_getElem?_getD, List.getElem?_map, hg]; rfl
    rw [backsAt_succ, hd]
    obtain ⟨H1, h1, k1⟩ := sc_round h l[m] (litI .i64 m) f
    obtain ⟨H2, h2, k2⟩ := sc_rounds l f m H1 _ (by omega) k1
    refine ⟨H2, ?_, ?_⟩
    · rw [roundsW, h1]; exact h2
    · rw [List.take_add_one, hg, List.foldr_append]; exact k2
theorem of_tells (p : PrV) (d : NoV) (few : FewV d) (H : List AO) : ∃ H', ofG [.agg p.cells, .agg d.cells] H = some (.ret (.agg (scL p (H.length + 3))), H') ∧ Agr H.length H H' ∧ H'[H.length + 3]? = some (.mp (kvs d.vars)) := by
  have q0 := r17p0 p d H
  have q1 := r17p1 p d H
  obtain ⟨e, c, he, q2⟩ := r17p2 p d H few
  obtain ⟨l, hl⟩ : ∃ l, l = d.inn ++ (d.out ++ d.loc) := ⟨_, rfl⟩
  rw [← hl] at he q2
  have hll : l.length ≤ 400 := by
    unfold FewV at few
    rw [hl]; simp only [List.length_append]; omega
  have hit : it0 38 [.ip [.sl e (l.map Va.cells) c]] = some (backsAt (l.map Va.cells) l.length) := by
    unfold it0
    have c1 : (e == 4 || (l.map Va.cells).isEmpty) = true := by
      cases hq : l with
      | nil => simp
      | cons v r => rw [he (by rw [hq]; simp)]; rfl
    have c2 : Nat.blt (l.map Va.cells).length 4611686018427387904 = true := by rw [Nat.blt_eq, List.length_map]; omega
    have c3 : (l.map Va.cells).all (fun x => x.length == 4) = true := by
      rw [List.all_map, List.all_eq_true]; intro v _; rfl
    simp only [BEq.rfl, cond_true, c1, c2, c3, Bool.and_self]
    unfold backs backsAt
    rw [List.length_map]
  have s0 : Scp p H.length (HD p d H) (HD p d H) [] := ⟨⟨by unfold HD; simp, fun _ _ => rfl⟩, app_get _ _ 3, app_get _ _ 4⟩
  obtain ⟨H2, r1, S2⟩ := sc_rounds l (.fn (.func 38) [] [.ip [.sl e (l.map Va.cells) c]]) l.length _ _ (Nat.le_refl _) s0
  rw [List.take_length, ← scV_fold] at S2
  have l3 : Ai.load H2 (some 3) (.ptr (H.length + 4) 0) = some (.agg (scL p (H.length + 3))) := lsc3 S2.sc
  have hz : H2[H.length + 2]? = some (.row zsV 57) := S2.agr.get (app_get _ _ 2) (by omega)
  have st : storeAt H2 3 (.ptr (H.length + 2) 0) (.agg (scL p (H.length + 3))) = some (setL H2 (H.length + 2) (.row (scL p (H.length + 3)) 57)) := storeAt_agg (n := 3) hz rfl rfl rfl
  have q4 : code0 c17p4 [(4, .ptr (H.length + 2) 0), (5, .ptr (H.length + 4) 0), (19, .fn (.func 38) [] [.ip [.sl e (l.map Va.cells) c]])] H2 = some (.normal, [(4, .ptr (H.length + 2) 0)], setL H2 (H.length + 2) (.row (scL p (H.length + 3)) 57)) := by
    unfold code0
    simp -implicitDefEqProofs only [c17p4, aW, ↓aP, makes, reduceLT, reduceEqDiff, reduceAdd, ↓reduceIte, Nat.reduceBEq, l3, st]
  have hlen : H.length + 4 < H2.length := (List.getElem?_eq_some_iff.1 S2.sc).1
  have hr : (setL H2 (H.length + 2) (AO.row (scL p (H.length + 3)) 57))[H.length + 2]? = some (.row (scL p (H.length + 3)) 57) := by unfold setL; rw [List.getElem?_set_self (by omega)]
  have lr : Ai.load (setL H2 (H.length + 2) (AO.row (scL p (H.length + 3)) 57)) (some 3) (.ptr (H.length + 2) 0) = some (.agg (scL p (H.length + 3))) := lsc3 hr
  refine ⟨setL H2 (H.length + 2) (.row (scL p (H.length + 3)) 57), ?_, ⟨by unfold setL; rw [List.length_set]; omega, fun j hj => ?_⟩, ?_⟩
  · have all : rgW code0 it0 fg17.rg (initFr 0 [.agg p.cells, .agg d.cells]) H = some (.ret, [(4, .ptr (H.length + 2) 0)], setL H2 (H.length + 2) (.row (scL p (H.length + 3)) 57)) := by
      show rgW code0 it0 [.code c17p0, .code c17p1, .code c17p2, .rng 0 (.s 19) [20, 21] c17p3a c17p3b, .code c17p4, .code c17p5] [(0, .agg p.cells), (1, .agg d.cells)] H = _
      simp only [rgW, q0, q1, q2, Option.bind_some, ev_s, get_cons, reduceEqDiff, if_false, if_true, hit, r1, q4]
      rfl
    unfold ofG gG
    rw [show ([AV.agg p.cells, .agg d.cells].length == fg17.np) = true from rfl, cond_true, all]
    show ((res [(4, AV.ptr (H.length + 2) 0)] _ [.c 4 (some 3)]).bind _) = _
    rw [show res [(4, AV.ptr (H.length + 2) 0)] (setL H2 (H.length + 2) (AO.row (scL p (H.length + 3)) 57)) [.c 4 (some 3)] = some (.agg (scL p (H.length + 3))) by
      have lr' : resV [(4, AV.ptr (H.length + 2) 0)] (setL H2 (H.length + 2) (AO.row (scL p (H.length + 3)) 57)) (.c 4 (some 3)) = some (.agg (scL p (H.length + 3))) := lr
      unfold res resL
      rw [lr']; rfl]
    rfl
  · unfold setL; rw [List.getElem?_set_ne (by omega), S2.agr.2 j (by omega)]
    unfold HD; rw [List.getElem?_append_left hj]
  · unfold setL; rw [List.getElem?_set_ne (by omega), S2.mp, hl]; rfl
end Go.Proofs.YtkjimmmdeopnaaaGreat.Ai
namespace Go.Proofs.YtkjimmmdeopnaaaGreat.Ai
open Go Go.Ai
theorem callV_up1 {f : FuncId} {args : List AV} {H : List AO} {id : Nat} {o : Out} (h : callV cw0 mds f args H id = some o) : callV cw1 mds f args H id = some o := callV_mono (callW_ovLe ovLe01) h
theorem callV_up {f : FuncId} {args : List AV} {H : List AO} {id : Nat} {o : Out} (h : callV cw0 mds f args H id = some o) : callV cw mds f args H id = some o := callV_mono (callW_ovLe ovLe1) (callV_up1 h)
theorem sht_of : ∀ t : Tr, Sm t → allT t = true → ShT t := by
  refine Tr.ind fun k n z c ts p ih S h => ?_
  rw [allT_eq, Bool.and_eq_true] at h
  obtain ⟨h1, h2⟩ := h
  simp only [Tr.k, Tr.n, Tr.ts] at h1 h2
  rw [List.all_eq_true] at h2
  refine .mk k n z c ts p (fun hk => ?_) (fun hk => ?_) (fun hk => ?_) S.len fun a ha => ih a ha (S.sub a ha) (h2 a ha)
  · unfold ownB at h1
    rcases hk with hk | hk
    · subst hk
      rw [if_neg (by decide), if_neg (by decide), if_neg (by decide), if_neg (by decide), if_pos rfl, Bool.and_eq_true] at h1
      simpa using h1.1
    · subst hk
      rw [if_neg (by decide), if_neg (by decide), if_neg (by decide), if_neg (by decide), if_neg (by decide), if_neg (by decide), if_neg (by decide), if_neg (by decide), if_pos rfl, Bool.and_eq_true] at h1
      simpa using h1.2
  · subst hk
    unfold ownB at h1
    rw [if_neg (by decide), if_neg (by decide), if_neg (by decide), if_neg (by decide), if_neg (by decide), if_pos rfl, Bool.and_eq_true] at h1
    simpa using h1.1
  · subst hk
    unfold ownB at h1
    rw [if_neg (by decide), if_neg (by decide), if_neg (by decide), if_neg (by decide), if_neg (by decide), if_neg (by decide), if_neg (by decide), if_pos rfl, Bool.and_eq_true] at h1
    simpa using h1.2
section
variable (p : PrV) (d : NoV) (t : Tr)
def H8 (e q : Int) : List AO := [.row p.cells 25, .row d.cells 35, rowT t, .row [litI .i64 e] 39, .row [litI .i64 q] 3]
def fr8 : Fr := [(3, .ptr 0 0), (4, .ptr 1 0), (5, .ptr 2 0), (6, .sl 0 [] (some 0)), (7, .ptr 3 0), (8, .ptr 4 0)]
theorem p80 : code1 c8p0 [(0, .agg p.cells), (1, .agg d.cells), (2, .agg t.cells)] [] = some (.normal, fr8, H8 p d t 0 0) := by
  have b1 := box_pr p
  have b2 := box_no d
  unfold code1
  simp -implicitDefEqProofs only [c8p0, aW, ↓aP, makes, reduceLT, reduceEqDiff, reduceAdd, ↓reduceIte, Nat.reduceBEq, core_box, b1, b2, box_tr, List.length_nil, List.length_cons, List.length_append, reduceAdd, fr8, H8]
theorem p81 (S : Sm t) (hd : dep t ≤ 1000) : code1 c8p1 fr8 (H8 p d t 0 0) = some (.normal, fr8 ++ [(11, litB (!(rightT t)))], H8 p d t 0 0) := by
  have l4 : Ai.load (H8 p d t 0 0) (some 4) (.ptr 2 0) = some (.agg t.cells) := ld4 rfl
  have rc := fun H id => callV_up1 (right12_call t S hd H id)
  unfold code1
  simp -implicitDefEqProofs only [c8p1, fr8, aW, ↓aP, makes, reduceLT, reduceEqDiff, reduceAdd, ↓reduceIte, Nat.reduceBEq, l4, rc]
theorem p82t : code1 c8p2 (fr8 ++ [(11, litB true)]) (H8 p d t 0 0) = some (.ret, [(6, .sl 0 [] (some 0)), (7, .ptr 3 0), (8, .ptr 4 0)], H8 p d t 1 0) := by
  have s1 : storeAt (H8 p d t 0 0) 1 (.ptr 3 0) (litI .i64 1) = some (H8 p d t 1 0) := rfl
  have s2 : storeAt (H8 p d t 1 0) 1 (.ptr 4 0) (litI .i64 0) = some (H8 p d t 1 0) := rfl
  unfold code1
  simp -implicitDefEqProofs only [c8p2, fr8, aW, ↓aP, makes, reduceLT, reduceEqDiff, reduceAdd, ↓reduceIte, Nat.reduceBEq, s1, s2]
theorem p82f : code1 c8p2 (fr8 ++ [(11, litB false)]) (H8 p d t 0 0) = some (.normal, fr8 ++ [(11, litB false)], H8 p d t 0 0) := by
  unfold code1
  simp -implicitDefEqProofs only [c8p2, fr8, aW, ↓aP, makes, reduceLT, reduceEqDiff, reduceAdd, ↓reduceIte, Nat.reduceBEq]
end
theorem of1_call (p : PrV) (d : NoV) (few : FewV d) (H : List AO) : ∃ H', (∀ id, callV cw1 mds 17 [.agg p.cells, .agg d.cells] H id = some (.wr (.agg (scL p (H.length + 3))) H')) ∧ Agr H.length H H' ∧ H'[H.length + 3]? = some (.mp (kvs d.vars)) := by
  obtain ⟨H', h1, h2, h3⟩ := of_tells p d few H
  have hc : cw1 17 [.agg p.cells, .agg d.cells] H = some (.ret (.agg (scL p (H.length + 3))), H') := callW_ov (G := ofG) rfl h1
  refine ⟨H', fun id => ?_, h2, h3⟩
  unfold callV
  rw [show mds 17 = .ref from rfl]
  simp only
  rw [hc]
  have hb : below H.length frzF (.agg (scL p (H.length + 3))) = false := by
    have e : Nat.blt (H.length + 3) H.length = false := by
      cases hq : Nat.blt (H.length + 3) H.length with
      | false => rfl
      | true => rw [Nat.blt_eq] at hq; omega
    show (true && (true && (Nat.blt (H.length + 3) H.length && true))) = false
    rw [e]; rfl
  simp only [Option.bind_some, hb, Bool.false_and, cond_false]
structure Agr5 (p : PrV) (d : NoV) (t : Tr) (H : List AO) : Prop where
  g0 : H[0]? = some (.row p.cells 25)
  g1 : H[1]? = some (.row d.cells 35)
  g2 : H[2]? = some (rowT t)
  g3 : H[3]? = some (.row [litI .i64 0] 39)
  g4 : H[4]? = some (.row [litI .i64 0] 3)
theorem agr5 {p : PrV} {d : NoV} {t : Tr} {H : List AO} (h : Agr 5 (H8 p d t 0 0) H) : Agr5 p d t H :=
  ⟨h.2 0 (by decide), h.2 1 (by decide), h.2 2 (by decide), h.2 3 (by decide), h.2 4 (by decide)⟩
theorem set_same {H : List AO} {r : Nat} {o : AO} (h : H[r]? = some o) : setL H r o = H := by
  unfold setL
  obtain ⟨h1, h2⟩ := List.getElem?_eq_some_iff.1 h
  rw [← h2, List.set_getElem_self]
theorem st_same {H : List AO} {r : Nat} {x y : Int} {ty : TypeId} (h : H[r]? = some (.row [litI .i64 x] ty)) : storeAt H 1 (.ptr r 0) (litI .i64 y) = some (setL H r (.row [litI .i64 y] ty)) := by
  rw [store_ptr h (by simp) rfl rfl]; rfl
theorem p84 (p : PrV) (ok : PrOk p) (few : ∀ d ∈ p.nodes, FewV d) (d : NoV) (fd : FewV d) (t : Tr) (S : ShT t) :
    match ty p d.vars t with
    | some l => ∃ A H', code1 c8p4 fr8 (H8 p d t 0 0) = some (.normal, [(6, A), (7, .ptr 3 0), (8, .ptr 4 0)], H') ∧ Agr5 p d t H' ∧ RowB 5 H' A l
    | none => ∃ q H', code1 c8p4 fr8 (H8 p d t 0 0) = some (.pan (stopA q), fr8, H') ∧ Agr5 p d t H' := by
  obtain ⟨H1, o1, o2, o3⟩ := of1_call p d fd (H8 p d t 0 0)
  have lp : Ai.load (H8 p d t 0 0) (some 2) (.ptr 0 0) = some (.agg p.cells) := load_agg (cs := p.cells) (t := 25) rfl rfl
  have ln : Ai.load (H8 p d t 0 0) (some 7) (.ptr 1 0) = some (.agg d.cells) := load_agg (cs := d.cells) (t := 35) rfl rfl
  have lt : Ai.load H1 (some 4) (.ptr 2 0) = some (.agg t.cells) := ld4 (agr5 o2).g2
  have le : Ai.load (H8 p d t 0 0) (some 4) (.ptr 2 0) = some (.agg t.cells) := ld4 rfl
  have T := types_ok p ok few d.vars ((H8 p d t 0 0).length + 3) t S H1 o3
  have ag : 5 ≤ H1.length := o2.1
  cases hty : ty p d.vars t with
  | some l =>
    rw [hty] at T
    obtain ⟨A, H2, c1, c2, c3⟩ := T
    have c1' := fun id => callV_up1 (c1 id)
    have a2 : Agr 5 (H8 p d t 0 0) H2 := o2.trans c2 ag
    have G := agr5 a2
    have s1 : storeAt H2 1 (.ptr 3 0) (litI .i64 0) = some H2 := by rw [st_same G.g3, set_same G.g3]
    have s2 : storeAt H2 1 (.ptr 4 0) (litI .i64 0) = some H2 := by rw [st_same G.g4, set_same G.g4]
    have lt2 : Ai.load H2 (some 4) (.ptr 2 0) = some (.agg t.cells) := ld4 G.g2
    refine ⟨A, H2, ?_, G, ?_⟩
    · unfold code1
      simp -implicitDefEqProofs only [c8p4, fr8, aW, ↓aP, makes, reduceLT, reduceEqDiff, reduceAdd, ↓reduceIte, Nat.reduceBEq, lp, ln, le, o1, lt, lt2, c1', s1, s2]
    · rcases c3 with h | h | ⟨r, h1, h2, h3⟩
      · exact .inl h
      · exact .inr (.inl h)
      · exact .inr (.inr ⟨r, by omega, h2, h3⟩)
  | none =>
    rw [hty] at T
    obtain ⟨q, H2, c1, c2⟩ := T
    have c1' := fun id => callV_up1 (c1 id)
    have a2 : Agr 5 (H8 p d t 0 0) H2 := o2.trans c2 ag
    have G := agr5 a2
    have lt2 : Ai.load H2 (some 4) (.ptr 2 0) = some (.agg t.cells) := ld4 G.g2
    refine ⟨q, H2, ?_, G⟩
    unfold code1
    simp -implicitDefEqProofs only [c8p4, fr8, aW, ↓aP, makes, reduceLT, reduceEqDiff, reduceAdd, ↓reduceIte, Nat.reduceBEq, lp, ln, le, o1, lt, lt2, c1']
    rfl
theorem gR_eq {cw : C → Fr → List AO → Option S} {rn : List O → Fr → List AO → Option SR} {F : FR} {m : Option AV} {args : List AV} {H : List AO} {p : S × Option AV} (hl : (args.length == F.np) = true) (h : rpW cw rn F.rp (initFr 0 args) H m = some p) : gR cw rn F m args H = finR F p := by
  unfold gR
  rw [hl, cond_true, h]; rfl
theorem gD_eq {cw : C → Fr → List AO → Option S} {rn : List O → Fr → List AO → Option SR} {dc : DcF} {F : FD} {args : List AV} {H : List AO} {p : S × List Dfr} (hl : (args.length == F.np) = true) (h : spW cw rn F.sp (initFr 0 args) H [] = some p) : gD cw rn dc F args H = finD F dc p := by
  unfold gD
  rw [hl, cond_true, h]; rfl
theorem dc1_eq (m : Option AV) (args : List AV) (H : List AO) : dc1 16 m args H = gR code1 run1 fr16 m args H := rfl
theorem finR_of {F : FR} {fr : Fr} {H : List AO} {m : Option AV} (hr : F.res = []) : finR F ((.normal, fr, H), m) = some (m, H) := by
  unfold finR
  simp only [hr]
  rfl
theorem finD_of {F : FD} {dc : DcF} {e : EX} {fr : Fr} {H H2 : List AO} {ds : List Dfr} {m : Option AV} {a : AV} (hm : modeS e = some m) (h : leaveW dc ds m H = some (none, H2)) (hr : res fr H2 F.res = some a) : finD F dc ((e, fr, H), ds) = some (.ret a, H2) := by
  unfold finD
  simp only [hm, Option.bind_some, h, hr]
theorem leave_one {dc : DcF} {f : FuncId} {args : List AV} {m m' : Option AV} {H H2 : List AO} (h : dc f m args H = some (m', H2)) : leaveW dc [(.fn (.func f) [] [], args)] m H = some (m', H2) := by
  unfold leaveW
  simp only [List.nil_append, List.append_nil, h, Option.bind_some]
  rfl
theorem rp_two {cw : C → Fr → List AO → Option S} {rn : List O → Fr → List AO → Option SR} {d : Option Nat} {l : List Nat} {c : C} {fr fr' : Fr} {H H' : List AO} {m : Option AV} (hr : ∀ fr H, rn [] fr H = some (.go fr H)) (h : cw c (keep l (putD fr d (m.getD nilI))) H = some (.normal, fr', H')) :
    rpW cw rn [.rcv [] d [] l, .code c] fr H m = some ((.normal, fr', H'), none) := by
  simp only [rpW, hr, Option.bind_some, h]
section
variable {cw : C → Fr → List AO → Option Ai.S} {rn : List O → Fr → List AO → Option SR} {c : C} {fr fr' : Fr} {H H' : List AO} {r : List Sp} {ds : List Dfr}
theorem spW_next (h : cw c fr H = some (.normal, fr', H')) : spW cw rn (.code c :: r) fr H ds = spW cw rn r fr' H' ds := by
  simp only [spW, h, Option.bind_some]
theorem spW_ret (h : cw c fr H = some (.ret, fr', H')) : spW cw rn (.code c :: r) fr H ds = some ((.ret, fr', H'), ds) := by
  simp only [spW, h, Option.bind_some]
theorem spW_pan {a : AV} (h : cw c fr H = some (.pan a, fr', H')) : spW cw rn (.code c :: r) fr H ds = some ((.pan a, fr', H'), ds) := by
  simp only [spW, h, Option.bind_some]
theorem spW_dfr {f : Fn} {xs : List X} {l : List Nat} (hr : ∀ fr H, rn [] fr H = some (.go fr H)) : spW cw rn (.dfr [] (.k (.fn f [] [])) xs [] l :: r) fr H ds = spW cw rn r (keep l fr) H ((.fn f [] [], xs.map (ev fr)) :: ds) := by
  simp only [spW, hr, Option.bind_some, ev_k, isFn, if_true]
end
theorem run1_nil (fr : Fr) (H : List AO) : run1 [] fr H = some (.go fr H) := rfl
theorem catch_none (H : List AO) : dc1 16 none [.ptr 3 0, .ptr 4 0] H = some (none, H) := by
  have k : code1 c16p1 [(0, .ptr 3 0), (1, .ptr 4 0), (7, nilI)] H = some (.normal, [], H) := by
    unfold code1 nilI
    simp -implicitDefEqProofs only [c16p1, aW, ↓aP, makes, reduceLT, reduceEqDiff, reduceAdd, ↓reduceIte, Nat.reduceBEq, core_isn, isnV_nil]
  rw [dc1_eq, gR_eq (p := ((.normal, [], H), none)) rfl (rp_two run1_nil k)]
  exact finR_of rfl
theorem catch_stop {p : PrV} {d : NoV} {t : Tr} {H : List AO} (G : Agr5 p d t H) (q : Int) : ∃ H', dc1 16 (some (stopA q)) [.ptr 3 0, .ptr 4 0] H = some (none, H') ∧ Ai.load H' none (.ptr 3 0) = some (litI .i64 90) ∧ Ai.load H' none (.ptr 4 0) = some (litI .i64 q) := by
  obtain ⟨K0, hK0⟩ : ∃ K0, K0 = H ++ [.row [litI .i64 q] 75] := ⟨_, rfl⟩
  have st : storeAt (H ++ [.row [litI .i64 0] 75]) 1 (.ptr H.length 0) (.agg [litI .i64 q]) = some K0 := by rw [hK0]; exact st_new H rfl rfl rfl
  have g3 : K0[3]? = some (.row [litI .i64 0] 39) := by rw [hK0]; exact get_old G.g3 _
  have g4 : K0[4]? = some (.row [litI .i64 0] 3) := by rw [hK0]; exact get_old G.g4 _
  have gl : K0[H.length]? = some (.row [litI .i64 q] 75) := by rw [hK0]; exact get_last _ _
  have h4 : 4 < H.length := (List.getElem?_eq_some_iff.1 G.g4).1
  have s1 := st_same (y := 90) g3
  obtain ⟨K1, hK1⟩ : ∃ K1, K1 = setL K0 3 (.row [litI .i64 90] 39) := ⟨_, rfl⟩
  rw [← hK1] at s1
  have g4' : K1[4]? = some (.row [litI .i64 0] 3) := by rw [hK1]; unfold setL; rw [List.getElem?_set_ne (by decide)]; exact g4
  have gl' : K1[H.length]? = some (.row [litI .i64 q] 75) := by rw [hK1]; unfold setL; rw [List.getElem?_set_ne (by omega)]; exact gl
  have g3' : K1[3]? = some (.row [litI .i64 90] 39) := by rw [hK1]; unfold setL; rw [List.getElem?_set_self (List.getElem?_eq_some_iff.1 g3).1]
  have s2 := st_same (y := q) g4'
  obtain ⟨K2, hK2⟩ : ∃ K2, K2 = setL K1 4 (.row [litI .i64 q] 3) := ⟨_, rfl⟩
  rw [← hK2] at s2
  have g3'' : K2[3]? = some (.row [litI .i64 90] 39) := by rw [hK2]; unfold setL; rw [List.getElem?_set_ne (by decide)]; exact g3'
  have g4'' : K2[4]? = some (.row [litI .i64 q] 3) := by rw [hK2]; unfold setL; rw [List.getElem?_set_self (List.getElem?_eq_some_iff.1 g4').1]
  have l0 : Ai.load K0 none (.ptr H.length 0) = some (litI .i64 q) := by rw [load_ptr gl]; rfl
  have l1 : Ai.load K1 none (.ptr H.length 0) = some (litI .i64 q) := by rw [load_ptr gl']; rfl
  refine ⟨K2, ?_, by rw [load_ptr g3'']; rfl, by rw [load_ptr g4'']; rfl⟩
  have k : ∃ fr, code1 c16p1 [(0, .ptr 3 0), (1, .ptr 4 0), (7, stopA q)] H = some (.normal, fr, K2) := by
    refine ⟨[], ?_⟩
    unfold code1 stopA
    simp -implicitDefEqProofs only [c16p1, aW, ↓aP, makes, reduceLT, reduceEqDiff, reduceAdd, ↓reduceIte, Nat.reduceBEq, core_isn, isnV_iface, st, fadr_ptr, l0, l1, nilck_ptr, s1, s2]
  obtain ⟨fr, k⟩ := k
  have e7 : keep [0, 1, 7] (putD [(0, .ptr 3 0), (1, .ptr 4 0)] (some 7) ((some (stopA q)).getD nilI)) = [(0, .ptr 3 0), (1, .ptr 4 0), (7, stopA q)] := rfl
  have r := rp_two (cw := code1) (rn := run1) (d := some 7) (l := [0, 1, 7]) (c := c16p1) (fr := [(0, .ptr 3 0), (1, .ptr 4 0)]) (m := some (stopA q)) run1_nil (by rw [e7]; exact k)
  rw [dc1_eq]
  have g := gR_eq (F := fr16) (args := [.ptr 3 0, .ptr 4 0]) rfl r
  rw [g]
  exact finR_of rfl
def typOut (p : PrV) (d : NoV) (t : Tr) : List ByteArray × Int := if rightT t = true then (match ty p d.vars t with
  | some l => (l, 0)
  | none => ([], 90)) else ([], 1)
theorem res3 {fr : Fr} {H : List AO} {A b c : AV} (h6 : get fr 6 = A) (h7 : get fr 7 = .ptr 3 0) (h8 : get fr 8 = .ptr 4 0) (hb : Ai.load H none (.ptr 3 0) = some b) (hc : Ai.load H none (.ptr 4 0) = some c) : res fr H [.t 6, .c 7 none, .c 8 none] = some (.tup [A, b, c]) := by
  unfold res resL resL resL resL resV
  simp only [h6, h7, h8, hb, hc, Option.bind_some]
theorem typ_tells (p : PrV) (ok : PrOk p) (few : ∀ d ∈ p.nodes, FewV d) (d : NoV) (fd : FewV d) (t : Tr) (S : Sm t) (hd : dep t ≤ 1000) :
    ∃ A q H', typG [.agg p.cells, .agg d.cells, .agg t.cells] [] = some (.ret (.tup [A, litI .i64 (typOut p d t).2, litI .i64 q]), H') ∧ RowB 5 H' A (typOut p d t).1 := by
  have q0 := p80 p d t
  have q1 := p81 p d t S hd
  unfold typOut
  have two : spW code1 run1 fd8.sp (initFr 0 [.agg p.cells, .agg d.cells, .agg t.cells]) [] [] = spW code1 run1 [.code c8p2, .dfr [] (.k (.fn (.func 16) [] [])) [.s 7, .s 8] [] [3, 4, 5, 6, 7, 8], .code c8p4, .code c8p5] (fr8 ++ [(11, litB (!(rightT t)))]) (H8 p d t 0 0) [] := by
    show spW code1 run1 [.code c8p0, .code c8p1, .code c8p2, .dfr [] (.k (.fn (.func 16) [] [])) [.s 7, .s 8] [] [3, 4, 5, 6, 7, 8], .code c8p4, .code c8p5] [(0, .agg p.cells), (1, .agg d.cells), (2, .agg t.cells)] [] [] = _
    rw [spW_next q0, spW_next q1]
  cases hr : rightT t with
  | false =>
    rw [hr, show (!false) = true from rfl, spW_ret (p82t p d t)] at two
    refine ⟨.sl 0 [] (some 0), 0, H8 p d t 1 0, ?_, .inl ⟨rfl, rfl⟩⟩
    unfold typG
    rw [gD_eq (F := fd8) rfl two]
    exact finD_of (m := none) rfl rfl rfl
  | true =>
    have lc := p84 p ok few d fd t (sht_of t S (by unfold rightT at hr; rw [Bool.and_eq_true] at hr; exact hr.2))
    have kp : keep [3, 4, 5, 6, 7, 8] (fr8 ++ [(11, litB false)]) = fr8 := rfl
    rw [hr, show (!true) = false from rfl, spW_next (p82f p d t), spW_dfr run1_nil, kp] at two
    rw [if_pos rfl]
    cases hv : ty p d.vars t with
    | some l =>
      rw [hv] at lc
      obtain ⟨A, H', c1, G, R⟩ := lc
      have c5 : code1 c8p5 [(6, A), (7, .ptr 3 0), (8, .ptr 4 0)] H' = some (.ret, [(6, A), (7, .ptr 3 0), (8, .ptr 4 0)], H') := rfl
      rw [spW_next c1, spW_ret c5] at two
      refine ⟨A, 0, H', ?_, R⟩
      unfold typG
      rw [gD_eq (F := fd8) rfl two]
      exact finD_of (m := none) rfl (leave_one (catch_none H')) (res3 rfl rfl rfl (by rw [load_ptr G.g3]; rfl) (by rw [load_ptr G.g4]; rfl))
    | none =>
      rw [hv] at lc
      obtain ⟨q, H', c1, G⟩ := lc
      rw [spW_pan c1] at two
      obtain ⟨H2, k1, k2, k3⟩ := catch_stop G q
      refine ⟨.sl 0 [] (some 0), q, H2, ?_, .inl ⟨rfl, rfl⟩⟩
      unfold typG
      rw [gD_eq (F := fd8) rfl two]
      exact finD_of (m := some (stopA q)) rfl (leave_one k1) (res3 rfl rfl rfl k2 k3)
def RowZ (A : AV) (l : List ByteArray) : Prop := ∃ e c, A = .sl e (l.map fun s => [litS s]) c ∧ (l ≠ [] → e = 1)
theorem RowB.z {b : Nat} {H : List AO} {A : AV} {l : List ByteArray} (h : RowB b H A l) (k : Nat) : ∃ Z ids, Ai.frz H (k + 2) A = some (Z, ids) ∧ RowZ Z l := by
  rcases h with ⟨rfl, rfl⟩ | ⟨c, rfl⟩ | ⟨r, _, rfl, h3⟩
  · exact ⟨_, [], rfl, 0, some 0, rfl, fun h => absurd rfl h⟩
  · exact ⟨_, [], rfl, 1, c, rfl, fun _ => rfl⟩
  · exact ⟨_, [r], frz_ownS (pre := []) h3, 1, none, rfl, fun _ => rfl⟩
theorem typ_call (p : PrV) (ok : PrOk p) (few : ∀ d ∈ p.nodes, FewV d) (d : NoV) (fd : FewV d) (t : Tr) (S : Sm t) (hd : dep t ≤ 1000) :
    ∃ A q, (∀ H id, callV cw mds 8 [.agg p.cells, .agg d.cells, .agg t.cells] H id = some (.val (.tup [A, litI .i64 (typOut p d t).2, litI .i64 q]) none)) ∧ RowZ A (typOut p d t).1 := by
  obtain ⟨A, q, H', h, R⟩ := typ_tells p ok few d fd t S hd
  obtain ⟨Z, ids, hz, RZ⟩ := R.z 13
  refine ⟨Z, q, fun H id => ?_, RZ⟩
  have hc : cw 8 [.agg p.cells, .agg d.cells, .agg t.cells] [] = some (.ret (.tup [A, litI .i64 (typOut p d t).2, litI .i64 q]), H') := cw_ov (G := typG) rfl h
  have hw : [AV.agg p.cells, .agg d.cells, .agg t.cells].all wholeA = true := by rw [List.all_cons, List.all_cons, List.all_cons]; exact (by rw [show wholeA (.agg p.cells) = true from rfl, show wholeA (.agg d.cells) = true from rfl, whole_cells]; rfl)
  unfold callV
  rw [show mds 8 = .pure from rfl]
  simp only
  rw [show mapL (frz H frzF) [AV.agg p.cells, .agg d.cells, .agg t.cells] = some ([AV.agg p.cells, .agg d.cells, .agg t.cells], []) from mapL_wholeA (k := 14) hw]
  simp only [Option.bind_some]
  rw [hc]
  have hf : frz H' frzF (.tup [A, litI .i64 (typOut p d t).2, litI .i64 q]) = some (.tup [Z, litI .i64 (typOut p d t).2, litI .i64 q], ids ++ ([] ++ ([] ++ []))) := by
    show ((mapL (frz H' 15) [A, litI .i64 (typOut p d t).2, litI .i64 q]).bind _) = _
    rw [show mapL (frz H' 15) [A, litI .i64 (typOut p d t).2, litI .i64 q] = some ([Z, litI .i64 (typOut p d t).2, litI .i64 q], ids ++ ([] ++ ([] ++ []))) by
      rw [mapL, hz]; rfl]
    rfl
  simp only [Option.bind_some, hf]
  rfl
end Go.Proofs.YtkjimmmdeopnaaaGreat.Ai
namespace Go.Ai
theorem oneW_mono {cw cw' : C → Fr → List AO → Option S} (hc : CwLe cw cw') {ps : List Nat} {asn body : C} {fr : Fr} {a : List AV} {H : List AO} {r : EX × List AO} (h : oneW cw ps asn body fr a H = some r) : oneW cw' ps asn body fr a H = some r := by
  unfold oneW at h ⊢
  cases hl : a.length == ps.length with
  | false => rw [hl] at h; cases h
  | true =>
    rw [hl] at h
    simp only [cond_true] at h ⊢
    refine bind_mono (fun _ h => hc _ _ _ _ h) (fun s h => ?_) h
    obtain ⟨e, fr1, H1⟩ := s
    cases e with
    | normal => exact bind_mono (fun _ h => hc _ _ _ _ h) (fun _ h => h) h
    | _ => exact h
theorem roundsW_mono {cw cw' : C → Fr → List AO → Option S} (hc : CwLe cw cw') {ps : List Nat} {asn body : C} {fr : Fr} : ∀ (xs : List (List AV)) (H : List AO) (r : EX × List AO), roundsW cw ps asn body fr xs H = some r → roundsW cw' ps asn body fr xs H = some r
  | [], H, r, h => h
  | a :: xs, H, r, h => by
    simp only [roundsW] at h ⊢
    refine bind_mono (fun _ h => oneW_mono hc h) (fun p h => ?_) h
    obtain ⟨e, H1⟩ := p
    cases e with
    | normal => exact roundsW_mono hc xs H1 r h
    | _ => exact h
theorem rgW_mono {cw cw' : C → Fr → List AO → Option S} (hc : CwLe cw cw') {it : ItF} : ∀ (l : List Rg) (fr : Fr) (H : List AO) (r : S), rgW cw it l fr H = some r → rgW cw' it l fr H = some r
  | [], fr, H, r, h => h
  | .code c :: l, fr, H, r, h => by
    simp only [rgW] at h ⊢
    refine bind_mono (fun _ h => hc _ _ _ _ h) (fun s h => ?_) h
    obtain ⟨e, fr1, H1⟩ := s
    cases e with
    | normal => exact rgW_mono hc l fr1 H1 r h
    | _ => exact h
  | .rng id x ps asn body :: l, fr, H, r, h => by
    simp only [rgW] at h ⊢
    split at h
    · rename_i f caps heq
      refine bind_mono (fun _ h => h) (fun xs h => ?_) h
      refine bind_mono (fun _ h => roundsW_mono hc xs H _ h) (fun p h => ?_) h
      obtain ⟨e, H1⟩ := p
      cases e with
      | normal => exact rgW_mono hc l fr H1 r h
      | exit id' =>
        simp only at h ⊢
        cases hi : id' == id with
        | false => rw [hi] at h; cases h
        | true => rw [hi] at h; exact rgW_mono hc l fr H1 r h
      | ret => exact h
      | pan a => exact h
    · cases h
theorem gG_mono {cw cw' : C → Fr → List AO → Option S} (hc : CwLe cw cw') {it : ItF} {F : FG} {args : List AV} {H : List AO} {r : R × List AO} (h : gG cw it F args H = some r) : gG cw' it F args H = some r := by
  unfold gG at h ⊢
  cases hl : args.length == F.np with
  | false => rw [hl] at h; cases h
  | true =>
    rw [hl] at h
    simp only [cond_true] at h ⊢
    exact bind_mono (fun _ h => rgW_mono hc _ _ _ _ h) (fun _ h => h) h
end Go.Ai
namespace Go.Proofs.YtkjimmmdeopnaaaGreat.Ai
open Go Go.Ai
def code0P (k : Nat) : C → Fr → List AO → Option Ai.S := codeB (callB (lookF tb) ov0 (lookM mtl) mds k) (lookM mtl) mds k
def ofP (k : Nat) : List AV → List AO → Option (R × List AO) := gG (code0P k) it0 fg17
def ov1P (k : Nat) : Ov := fun f => bif f == 89 then some byteG else bif f == 17 then some (ofP k) else none
def code1P (k : Nat) : C → Fr → List AO → Option Ai.S := codeB (callB (lookF tb) (ov1P k) (lookM mtl) mds k) (lookM mtl) mds k
def run1P (k : Nat) : List O → Fr → List AO → Option SR := run (callB (lookF tb) (ov1P k) (lookM mtl) mds k) (lookM mtl) mds
def dc1P (k : Nat) : DcF := fun f m args H => bif f == 16 then gR (code1P k) (run1P k) fr16 m args H else none
def typP (k : Nat) : List AV → List AO → Option (R × List AO) := gD (code1P k) (run1P k) (dc1P k) fd8
def ovP (k : Nat) : Ov := fun f => bif f == 8 then some (typP k) else ov1P k f
theorem code0P_le (k : Nat) : CwLe (code0P k) code0 := fun c fr H s h => code_leW (callB_leW k) (codeB_le h)
theorem ov1P_le (k : Nat) : OvLe (lookF tb) (ov1P k) ov1 := by
  intro f
  by_cases h1 : f = 89
  · subst h1
    exact .inl ⟨byteG, byteG, rfl, rfl, fun _ _ _ h => h⟩
  · by_cases h2 : f = 17
    · subst h2; exact .inl ⟨ofP k, ofG, rfl, rfl, fun _ _ _ h => gG_mono (code0P_le k) h⟩
    · right
      unfold ov1P ov1
      rw [beq_of_ne h1, beq_of_ne h2]
      exact ⟨rfl, .inl rfl⟩
theorem call1P_le (k : Nat) : Le (callB (lookF tb) (ov1P k) (lookM mtl) mds k) cw1 := fun f a H r h => callW_ovLe (ov1P_le k) _ _ _ _ (call_leW k _ _ _ _ (callB_le k _ _ _ _ h))
theorem code1P_le (k : Nat) : CwLe (code1P k) code1 := fun c fr H s h => code_leW (call1P_le k) (codeB_le h)
theorem run1P_le (k : Nat) : RnLe (run1P k) run1 := fun l fr H s h => run_mono (call1P_le k) h
theorem dc1P_le (k : Nat) : DcLe (dc1P k) dc1 := by
  intro f m a H r h
  unfold dc1P at h
  unfold dc1
  cases he : f == 16 with
  | false => rw [he] at h; cases h
  | true =>
    rw [he] at h
    exact gR_mono (code1P_le k) (run1P_le k) h
theorem ovP_le (k : Nat) : OvLe (lookF tb) (ovP k) ovs := by
  intro f
  by_cases h1 : f = 8
  · subst h1
    exact .inl ⟨typP k, typG, rfl, rfl, fun _ _ _ h => gD_mono (code1P_le k) (run1P_le k) (dc1P_le k) h⟩
  · have e : ovP k f = ov1P k f := by unfold ovP; rw [beq_of_ne h1]; rfl
    have e' : ovs f = ov1 f := by unfold ovs; rw [beq_of_ne h1]; rfl
    rcases ov1P_le k f with ⟨G, G', a, b, c⟩ | ⟨a, b⟩
    · exact .inl ⟨G, G', by rw [e, a], by rw [e', b], c⟩
    · exact .inr ⟨by rw [e, a], by rw [e']; exact b⟩
theorem cw_run (k : Nat) {f : FuncId} {args : List AV} {H : List AO} {r : R × List AO} (h : callB (lookF tb) (ovP k) (lookM mtl) mds k f args H = some r) : cw f args H = some r :=
  callW_ovLe (ovP_le k) _ _ _ _ (call_leW k _ _ _ _ (callB_le k _ _ _ _ h))
def saysTwo (n : List Nat) (x : Int) : Option (R × List AO) → Bool
  | some (.ret (.tup [.lit (.string a), .lit (.int .i64 b)]), _) => isS a n && b == x
  | _ => false
theorem saysTwo_some {n : List Nat} {x : Int} {r : Option (R × List AO)} (h : saysTwo n x r = true) : ∃ a H', r = some (.ret (.tup [litS a, litI .i64 x]), H') ∧ isS a n = true := by
  unfold saysTwo at h
  split at h
  · rw [Bool.and_eq_true, beq_iff_eq] at h
    obtain ⟨h1, rfl⟩ := h
    exact ⟨_, _, rfl, h1⟩
  · cases h
theorem of_call {s : ByteArray} {n : List Nat} {x : Int} {k : Nat} (h : saysTwo n x (callB (lookF tb) (ovP k) (lookM mtl) mds k 14 [litS s] []) = true) : ∃ a, isS a n = true ∧ ∀ H id, callV cw mds 14 [litS s] H id = some (.val (.tup [litS a, litI .i64 x]) none) := by
  obtain ⟨a, H', h, ha⟩ := saysTwo_some h
  exact ⟨a, ha, fun H id => callV_pureT rfl rfl (cw_run k h) rfl⟩
set_option maxRecDepth 1000000 in
theorem of1 : saysTwo [114, 97, 116] 0 (callB (lookF tb) (ovP 100) (lookM mtl) mds 100 14 [litS (bs [49, 32, 43, 32, 48, 46, 53])] []) = true := by kernel_rfl
set_option maxRecDepth 1000000 in
theorem of2 : saysTwo [114, 97, 116] 0 (callB (lookF tb) (ovP 100) (lookM mtl) mds 100 14 [litS (bs [49, 32, 47, 32, 50])] []) = true := by kernel_rfl
set_option maxRecDepth 1000000 in
theorem of3 : saysTwo [105, 110, 116] 0 (callB (lookF tb) (ovP 100) (lookM mtl) mds 100 14 [litS (bs [49, 32, 100, 105, 118, 32, 50])] []) = true := by kernel_rfl
set_option maxRecDepth 1000000 in
theorem of4 : saysTwo [] 90 (callB (lookF tb) (ovP 100) (lookM mtl) mds 100 14 [litS (bs [116, 114, 117, 101, 32, 43, 32, 49])] []) = true := by kernel_rfl
set_option maxRecDepth 1000000 in
theorem of5 : saysTwo [98, 111, 111, 108] 0 (callB (lookF tb) (ovP 100) (lookM mtl) mds 100 14 [litS (bs [117, 112, 40, 120, 32, 45, 32, 49, 41, 32, 97, 110, 100, 32, 98])] []) = true := by kernel_rfl
theorem isS_len {n : ByteArray} {l : List Nat} (h : isS n l = true) : n.data.toList = (bs l).data.toList := by
  unfold isS at h; rwa [beq_iff_eq] at h
theorem isS_eqS {n : ByteArray} {l : List Nat} (h : isS n l = true) : n = bs l := by
  have := isS_len h
  cases n; rename_i d
  have e : d = (bs l).data := Array.ext' this
  rw [e]
set_option maxHeartbeats 4000000 in
theorem awake7_tells : ∃ H', cw 7 [] [] = some (.ret (litB true), H') := by
  obtain ⟨a1, k1, h1⟩ := of_call of1
  obtain ⟨a2, k2, h2⟩ := of_call of2
  obtain ⟨a3, k3, h3⟩ := of_call of3
  obtain ⟨a4, k4, h4⟩ := of_call of4
  obtain ⟨a5, k5, h5⟩ := of_call of5
  cases isS_eqS k1; cases isS_eqS k2; cases isS_eqS k3; cases isS_eqS k4; cases isS_eqS k5
  refine ⟨[], cw_of fn7 (c := c7) rfl rfl rfl rfl ?_⟩
  simp -implicitDefEqProofs only [c7, aW, ↓aP, makes, reduceLT, reduceEqDiff, reduceAdd, ↓reduceIte, Nat.reduceBEq, h1, h2, h3, h4, h5, bin_eqlS]
  rfl
theorem awake7_call (H : List AO) (id : Nat) : callV cw mds 7 [] H id = some (.val (litB true) none) := by
  obtain ⟨H', h⟩ := awake7_tells
  exact callV_pure rfl rfl h rfl
end Go.Proofs.YtkjimmmdeopnaaaGreat.Ai
namespace Go.Proofs.YtkjimmmdeopnaaaGreat.Ai
open Go Go.Ai
theorem sEq_iff {a b : ByteArray} : sEq a b = true ↔ a = b := by
  unfold sEq
  rw [beq_iff_eq]
  constructor
  · intro h
    cases a; cases b
    congr 1
    exact Array.ext' h
  · rintro rfl; rfl
theorem fit_both {a b : ByteArray} (h1 : fitB a b = true) (h2 : fitB b a = true) : a = b := by
  unfold fitB at h1 h2
  rw [Bool.or_eq_true, Bool.and_eq_true, Bool.or_eq_true] at h1 h2
  rcases h1 with h1 | ⟨h1, h3⟩
  · exact sEq_iff.1 h1
  · rcases h2 with h2 | ⟨h2, _⟩
    · exact (sEq_iff.1 h2).symm
    · rw [sEq_iff] at h1 h2; rw [h1, h2]
theorem foldJ_swap (a b : ByteArray) : foldJ a [b] = foldJ b [a] := by
  simp only [foldJ]
  unfold joinB
  cases h1 : fitB a b with
  | true =>
    cases h2 : fitB b a with
    | true => rw [fit_both h1 h2]
    | false => rfl
  | false =>
    cases h2 : fitB b a with
    | true => rfl
    | false => rfl
theorem applyR_swap (r : Rule) (a b : ByteArray) : applyR r a [b] = applyR r b [a] := by
  unfold applyR; rw [foldJ_swap]
def twoT (s : ByteArray) (a b : Tr) : Tr := .mk 7 s 4 (some 2) [a, b] 0
theorem right_swap (s : ByteArray) (a b : Tr) : rightT (twoT s a b) = rightT (twoT s b a) := by
  have h1 : dep (twoT s a b) = dep (twoT s b a) := by
    rw [dep_eq, dep_eq]
    show 1 + max (dep a) (max (dep b) 0) = 1 + max (dep b) (max (dep a) 0)
    omega
  have h2 : allT (twoT s a b) = allT (twoT s b a) := by
    rw [allT_eq, allT_eq]
    show (ownB 7 s 2 && (allT a && (allT b && true))) = (ownB 7 s 2 && (allT b && (allT a && true)))
    cases allT a <;> cases allT b <;> rfl
  unfold rightT
  rw [h1, h2]
theorem ty_swap (p : PrV) (vs : Vs) (s : ByteArray) (a b : Tr) : ty p vs (twoT s a b) = ty p vs (twoT s b a) := by
  have key : ∀ a b : Tr, ty p vs (twoT s a b) = (match ty p vs a, ty p vs b with
      | some [x], some [y] => one (applyR (binR s) x [y])
      | _, _ => none) := by
    intro a b
    rw [ty_eq]
    show (match tyL p vs [a, b] with | some l => topT p vs 7 s l | none => none) = _
    rw [tyL, tyL, tyL]
    cases ha : ty p vs a with
    | none => rfl
    | some la =>
      match la with
      | [] => rfl
      | x :: x' :: r => rfl
      | [x] =>
        cases hb : ty p vs b with
        | none => rfl
        | some lb =>
          match lb with
          | [] => rfl
          | y :: y' :: r => rfl
          | [y] => rfl
  rw [key, key]
  cases ty p vs a with
  | none => cases ty p vs b with
    | none => rfl
    | some lb => match lb with
      | [] => rfl
      | y :: y' :: r => rfl
      | [y] => rfl
  | some la => match la with
    | [] => cases ty p vs b with
      | none => rfl
      | some lb => match lb with
        | [] => rfl
        | y :: y' :: r => rfl
        | [y] => rfl
    | x :: x' :: r => cases ty p vs b with
      | none => rfl
      | some lb => match lb with
        | [] => rfl
        | y :: y' :: r => rfl
        | [y] => rfl
    | [x] => cases ty p vs b with
      | none => rfl
      | some lb => match lb with
        | [] => rfl
        | y :: y' :: r => rfl
        | [y] => simp only; rw [applyR_swap]
theorem out_swap (p : PrV) (d : NoV) (s : ByteArray) (a b : Tr) : typOut p d (twoT s b a) = typOut p d (twoT s a b) := by
  unfold typOut
  rw [right_swap s b a, ty_swap p d.vars s b a]
theorem strsEq_same (l : List ByteArray) : strsEq l l = true := by
  unfold strsEq
  rw [beq_self_eq_true, Bool.true_and, List.all_eq_true]
  intro x hx
  have : ∀ (l : List ByteArray) (x : ByteArray × ByteArray), x ∈ l.zip l → x.1 = x.2 := by
    intro l
    induction l with
    | nil => intro x h; cases h
    | cons a r ih =>
      intro x h
      rw [List.zip_cons_cons] at h
      rcases List.mem_cons.1 h with rfl | h
      · rfl
      · exact ih x h
  exact sEq_iff.2 (this l x hx)
theorem str9_same {A B : AV} {l : List ByteArray} (hA : RowZ A l) (hB : RowZ B l) (hl : l.length ≤ 17592186044416) (H : List AO) (id : Nat) : callV cw mds 9 [A, B] H id = some (.val (litB true) none) := by
  refine callV_up ?_
  obtain ⟨e, c, rfl, he⟩ := hA
  obtain ⟨e', c', rfl, he'⟩ := hB
  by_cases h0 : l = []
  · subst h0
    have L : loopW (codeW cw0 (lookM mtl) mds c9l0) [0, 1, 5] [(0, .sl e [] c), (1, .sl e' [] c'), (5, litI .i64 0)] [] = some (.exit 0, [(0, .sl e [] c), (1, .sl e' [] c'), (5, litI .i64 0), (14, litB false)], []) := by
      refine loopW_out ?_ (by simp)
      simp -implicitDefEqProofs only [c9l0, aW, ↓aP, makes, reduceLT, reduceEqDiff, reduceAdd, ↓reduceIte, Nat.reduceBEq, lenV_sl, List.length_nil, Int.ofNat_zero, Int.lt_irrefl]
    have key : ∃ H', cw0 9 [.sl e [] c, .sl e' [] c'] [] = some (.ret (litB true), H') := by
      refine cw0_ret fn9 (c := c9) rfl rfl rfl rfl ?_
      simp -implicitDefEqProofs only [c9, aW, ↓aP, makes, reduceLT, reduceEqDiff, reduceAdd, ↓reduceIte, Nat.reduceBEq, lenV_sl, List.length_nil, bne_self_eq_false, Int.ofNat_zero, L]
      rfl
    obtain ⟨H', key⟩ := key
    exact callV_pure rfl rfl key rfl
  · rw [he h0, he' h0]
    obtain ⟨H', key⟩ := str9_tells c c' l l hl
    rw [strsEq_same] at key
    exact callV_pure rfl rfl key rfl
def iadrAV (e n : Nat) (a i : AV) : Option Out := (idx i n).bind fun j => (fadr (j * e) a).bind fun v => some (.val v none)
theorem core_iadrA {call : CallF} {mt : MtF} {md : FuncId → Md} {H : List AO} {id : Nat} {fr : Fr} (e n : Nat) (x i : X) : core call mt md H id (.iadrA e n x i) fr = iadrAV e n (ev fr x) (ev fr i) := rfl
theorem iadrA_0 : iadrAV 4 2 (.ptr 1 0) (litI .i64 0) = some (.val (.ptr 1 0) none) := rfl
theorem iadrA_1 : iadrAV 4 2 (.ptr 1 0) (litI .i64 1) = some (.val (.ptr 1 4) none) := rfl
def sixL : List ByteArray := [bs [43], bs [42], bs [97, 110, 100], bs [111, 114], bs [61, 61], bs [33, 61]]
theorem bsl_six (H : List AO) (z : AV) : bslV H 1 6 [z] [(0, litS (bs [43])), (1, litS (bs [42])), (2, litS (bs [97, 110, 100])), (3, litS (bs [111, 114])), (4, litS (bs [61, 61])), (5, litS (bs [33, 61]))] = some (.val (strs (some 6) sixL) none) := rfl
theorem bsl_two (H : List AO) (z1 z2 z3 z4 : AV) (a b : Tr) : bslV H 4 2 [z1, z2, z3, z4] [(0, .agg a.cells), (1, .agg b.cells)] = some (.val (argsA 4 (some 2) [a, b]) none) := by
  unfold argsA
  rw [show [a, b].map Tr.cells = [a.cells, b.cells] from rfl, cells_mk a, cells_mk b]
  rfl
def bldT (z1 z2 z3 z4 k a b : AV) : Option Out := (fill [z1, z2, z3, z4] [(0, 1, k), (1, 1, a), (2, 1, b)]).bind fun cs => some (.val (.agg cs) none)
theorem core_bldT {call : CallF} {mt : MtF} {md : FuncId → Md} {H : List AO} {id : Nat} {fr : Fr} (z1 z2 z3 z4 : AV) (k x y : X) : core call mt md H id (.build [z1, z2, z3, z4] [(0, 1, k), (1, 1, x), (2, 1, y)]) fr = bldT z1 z2 z3 z4 (ev fr k) (ev fr x) (ev fr y) := rfl
theorem bldT_two (z1 z2 z3 : AV) (s : ByteArray) (a b : Tr) : bldT z1 z2 z3 (litI .i64 0) (litI .i64 7) (litS s) (argsA 4 (some 2) [a, b]) = some (.val (.agg (twoT s a b).cells) none) := by
  unfold twoT
  rw [cells_mk]
  rfl
theorem two_sm {s : ByteArray} {a b : Tr} (hs : s.size ≤ 10) (ha : Sm a) (hb : Sm b) : Sm (twoT s a b) := by
  refine .mk _ _ _ _ _ _ (by omega) (by simp) fun x hx => ?_
  simp only [List.mem_cons, List.not_mem_nil, or_false] at hx
  rcases hx with rfl | rfl
  · exact ha
  · exact hb
theorem two_dep {s : ByteArray} {a b : Tr} (ha : dep a ≤ 400) (hb : dep b ≤ 400) : dep (twoT s a b) ≤ 1000 := by
  rw [dep_eq]
  show 1 + max (dep a) (max (dep b) 0) ≤ 1000
  omega
theorem tyL_one (p : PrV) (vs : Vs) (s : ByteArray) (a b : Tr) : ∀ l, ty p vs (twoT s a b) = some l → l.length ≤ 1 := by
  intro l h
  rw [ty_eq] at h
  change (match tyL p vs [a, b] with | some l => topT p vs 7 s l | none => none) = some l at h
  split at h
  · rename_i l' hl
    unfold topT at h
    rw [if_neg (by decide), if_pos rfl] at h
    split at h
    · unfold one at h
      rw [Option.map_eq_some_iff] at h
      obtain ⟨x, _, rfl⟩ := h
      simp
    · cases h
  · cases h
theorem out_len (p : PrV) (d : NoV) (s : ByteArray) (a b : Tr) : (typOut p d (twoT s a b)).1.length ≤ 17592186044416 := by
  unfold typOut
  split
  · split
    · rename_i l h
      have := tyL_one p d.vars s a b l h
      show l.length ≤ _
      omega
    · simp
  · simp
end Go.Proofs.YtkjimmmdeopnaaaGreat.Ai
namespace Go.Proofs.YtkjimmmdeopnaaaGreat.Ai
open Go Go.Ai
section
variable (p : PrV) (a b : Tr) (s : ByteArray)
def twoC : List AV := a.cells ++ b.cells
theorem twoC_len : (twoC a b).length = 8 := by unfold twoC; rw [List.length_append, cells_len, cells_len]
theorem twoC_cell : (twoC a b).all cellA = true := by unfold twoC; rw [List.all_append, cells_cell, cells_cell]; rfl
theorem box_two (id : Nat) : boxV id 8 (.agg (twoC a b)) 29 = some (.val (.ptr id 0) (some (.row (twoC a b) 29))) := boxV_agg (twoC_len a b) (twoC_cell a b)
theorem ld_a {H : List AO} (h : H[1]? = some (.row (twoC a b) 29)) : Ai.load H (some 4) (.ptr 1 0) = some (.agg a.cells) := by
  show (Ai.rowAt H 1).bind _ = _
  unfold Ai.rowAt
  rw [h]
  unfold twoC
  rw [cells_mk a, cells_mk b]
  rfl
theorem ld_b {H : List AO} (h : H[1]? = some (.row (twoC a b) 29)) : Ai.load H (some 4) (.ptr 1 4) = some (.agg b.cells) := by
  show (Ai.rowAt H 1).bind _ = _
  unfold Ai.rowAt
  rw [h]
  unfold twoC
  rw [cells_mk a, cells_mk b]
  rfl
end
def zX : List AV := [litI .i64 0, litS (bs []), .sl 0 [] (some 0), litI .i64 0]
def HX (x y : AO) (r : List AO) : List AO := x :: y :: .dead :: .dead :: .dead :: .dead :: r
theorem st_e1 (x y : AO) (a : Tr) (z : AO) : storeAt (HX x y [.row zX 28, z]) 4 (.ptr 6 0) (.agg a.cells) = some (HX x y [rowT a, z]) := by
  rw [storeAt_agg (n := 4) (cs := zX) (t := 28) rfl rfl (cells_len a) (cells_cell a)]
  unfold rowT; rw [cells_mk]; rfl
theorem st_e2 (x y : AO) (a : Tr) (z : AO) : storeAt (HX x y [z, .row zX 28]) 4 (.ptr 7 0) (.agg a.cells) = some (HX x y [z, rowT a]) := by
  rw [storeAt_agg (n := 4) (cs := zX) (t := 28) rfl rfl (cells_len a) (cells_cell a)]
  unfold rowT; rw [cells_mk]; rfl
def zN : List AV := [litS (bs []), litB false, .sl 0 [] (some 0), .sl 0 [] (some 0), .sl 0 [] (some 0), .sl 0 [] (some 0), litI .i64 0]
theorem st_n (x y z w : AO) (d : NoV) : storeAt (HX x y [z, w, .row zN 35]) 7 (.ptr 8 0) (.agg d.cells) = some (HX x y [z, w, .row d.cells 35]) := by
  rw [storeAt_agg (n := 7) (cs := zN) (t := 35) rfl rfl d.len d.cell]; rfl
theorem swap3_tells (p : PrV) (ok : PrOk p) (a b : Tr) (s : ByteArray) : ∃ H', cw 3 [.agg p.cells, .agg (twoC a b), litS s] [] = some (.ret (litB true), H') := by
  obtain ⟨fb, Hf, f4, fw⟩ := few_tells p ok
  have cf := fun H id => callV_up (callV_pureA (H := H) (id := id) (args := [.agg p.cells]) (show mds 4 = .pure from rfl) (by rw [List.all_cons, show wholeA (.agg p.cells) = true from rfl]; rfl) f4 rfl)
  obtain ⟨Ha, f5⟩ := few6_tells a
  have ca := fun H id => callV_up (callV_pureA (H := H) (id := id) (args := [.agg a.cells]) (show mds 5 = .pure from rfl) (by rw [List.all_cons, whole_cells]; rfl) f5 rfl)
  obtain ⟨Hb, f6⟩ := few6_tells b
  have cb := fun H id => callV_up (callV_pureA (H := H) (id := id) (args := [.agg b.cells]) (show mds 5 = .pure from rfl) (by rw [List.all_cons, whole_cells]; rfl) f6 rfl)
  have ci := fun H id => callV_up (in6_call (some 6) sixL s (by decide) H id)
  have aw := awake7_call
  have bp := box_pr p
  have b2 := box_two a b
  have la0 := ld_a a b (H := [.row p.cells 25, .row (twoC a b) 29]) rfl
  have lb0 := ld_b a b (H := [.row p.cells 25, .row (twoC a b) 29]) rfl
  have lb1 := ld_b a b (H := HX (.row p.cells 25) (.row (twoC a b) 29) [.row zX 28, .row zX 28]) rfl
  have lb2 := ld_b a b (H := HX (.row p.cells 25) (.row (twoC a b) 29) [rowT a, .row zX 28]) rfl
  have lb3 := ld_b a b (H := HX (.row p.cells 25) (.row (twoC a b) 29) [rowT a, rowT b]) rfl
  have s1 := st_e1 (.row p.cells 25) (.row (twoC a b) 29) a (.row zX 28)
  have s2 := st_e2 (.row p.cells 25) (.row (twoC a b) 29) b (rowT a)
  have lp : ∀ r, Ai.load (HX (.row p.cells 25) (.row (twoC a b) 29) r) (some 2) (.ptr 0 0) = some (.agg p.cells) := fun r => load_agg (cs := p.cells) (t := 25) rfl rfl
  have l7 : ∀ r, Ai.load (HX (.row p.cells 25) (.row (twoC a b) 29) (rowT a :: rowT b :: r)) (some 4) (.ptr 6 0) = some (.agg a.cells) := fun r => ld4 rfl
  have l8 : ∀ r, Ai.load (HX (.row p.cells 25) (.row (twoC a b) 29) (rowT a :: rowT b :: r)) (some 4) (.ptr 7 0) = some (.agg b.cells) := fun r => ld4 rfl
  have ln : ∀ r, Ai.load (HX (.row p.cells 25) (.row (twoC a b) 29) r) none (.ptr 0 1) = some (.sl 7 (p.nodes.map NoV.cells) none) := fun r => by rw [load_ptr (cs := p.cells) (t := 25) rfl]; rfl
  unfold zX at lb1 lb2 s1 s2
  unfold HX at lb1 lb2 lb3 s1 s2 lp l7 l8 ln
  suffices h : retOf ((codeW cw (lookM mtl) mds c3 (initFr 0 [.agg p.cells, .agg (twoC a b), litS s]) []).bind (fin fn3)) = some (.ret (litB true)) by
    obtain ⟨H', h⟩ := retOf_some h
    exact ⟨H', cw_of fn3 rfl rfl rfl rfl h⟩
  cases hfb : fb with
  | false =>
    rw [hfb] at cf
    simp -implicitDefEqProofs only [c3, aW, ↓aP, makes, reduceLT, reduceEqDiff, reduceAdd, ↓reduceIte, Nat.reduceBEq, core_box, bp, b2, List.length_nil, List.length_cons, List.length_append, reduceAdd, core_iadrA, iadrA_0, iadrA_1, la0, lb0, lb1, lb2, lb3, s1, s2, lp, l7, l8, cf]
    rfl
  | true =>
    rw [hfb] at cf fw
    have fd := fw rfl
    cases hfa : few a with
    | false =>
      rw [hfa] at ca
      simp -implicitDefEqProofs only [c3, aW, ↓aP, makes, reduceLT, reduceEqDiff, reduceAdd, ↓reduceIte, Nat.reduceBEq, core_box, bp, b2, List.length_nil, List.length_cons, List.length_append, reduceAdd, core_iadrA, iadrA_0, iadrA_1, la0, lb0, lb1, lb2, lb3, s1, s2, lp, l7, l8, cf, ca]
      rfl
    | true =>
      rw [hfa] at ca
      cases hfb : few b with
      | false =>
        rw [hfb] at cb
        simp -implicitDefEqProofs only [c3, aW, ↓aP, makes, reduceLT, reduceEqDiff, reduceAdd, ↓reduceIte, Nat.reduceBEq, core_box, bp, b2, List.length_nil, List.length_cons, List.length_append, reduceAdd, core_iadrA, iadrA_0, iadrA_1, la0, lb0, lb1, lb2, lb3, s1, s2, lp, l7, l8, cf, ca, cb]
        rfl
      | true =>
        rw [hfb] at cb
        cases hn : p.nodes with
        | nil =>
          rw [hn] at ln
          simp -implicitDefEqProofs only [c3, aW, ↓aP, makes, reduceLT, reduceEqDiff, reduceAdd, ↓reduceIte, Nat.reduceBEq, core_box, bp, b2, List.length_nil, List.length_cons, List.length_append, reduceAdd, core_iadrA, iadrA_0, iadrA_1, la0, lb0, lb1, lb2, lb3, s1, s2, lp, l7, l8, cf, ca, cb, fadr_ptr, ln, lenV_sl, Int.ofNat_zero]
          rfl
        | cons d ds =>
          rw [hn] at ln
          have e0 : (((ds.length + 1 : Nat) : Int) == 0) = false := by rw [beq_eq_false_iff_ne]; omega
          by_cases hs : 10 < (s.size : Int)
          · simp -implicitDefEqProofs only [c3, aW, ↓aP, makes, reduceLT, reduceEqDiff, reduceAdd, ↓reduceIte, Nat.reduceBEq, core_box, bp, b2, List.length_nil, List.length_cons, List.length_append, reduceAdd, core_iadrA, iadrA_0, iadrA_1, la0, lb0, lb1, lb2, lb3, s1, s2, lp, l7, l8, cf, ca, cb, fadr_ptr, ln, lenV_sl, List.length_map, e0, lenS_str, hs]
            rfl
          · have hs' : s.size ≤ 10 := by omega
            have gN : iadr 7 (.sl 7 (d.cells :: ds.map NoV.cells) none) (litI .i64 0) = some (.ip d.cells) := by rw [iadr_sl, if_pos (by decide)]; rfl
            have lN : ∀ H : List AO, Ai.load H (some 7) (.ip d.cells) = some (.agg d.cells) := fun H => load_ipA d.len
            have sN := st_n (.row p.cells 25) (.row (twoC a b) 29) (rowT a) (rowT b) d
            have l9 : ∀ r, Ai.load (HX (.row p.cells 25) (.row (twoC a b) 29) (rowT a :: rowT b :: .row d.cells 35 :: r)) (some 7) (.ptr 8 0) = some (.agg d.cells) := fun r => load_agg (cs := d.cells) (t := 35) rfl rfl
            unfold HX zN at sN
            unfold HX at l9
            have bs6 := fun H => bsl_six H (litS (bs []))
            cases hin : (sixL.any fun x => sEq x s) with
            | false =>
              rw [hin] at ci
              simp -implicitDefEqProofs only [c3, aW, ↓aP, makes, reduceLT, reduceEqDiff, reduceAdd, ↓reduceIte, Nat.reduceBEq, core_box, bp, b2, List.length_nil, List.length_cons, List.length_append, reduceAdd, core_iadrA, iadrA_0, iadrA_1, la0, lb0, lb1, lb2, lb3, s1, s2, lp, l7, l8, cf, ca, cb, fadr_ptr, ln, lenV_sl, List.length_map, e0, lenS_str, hs, gN, lN, sN, core_bsl, bs6, ci, aw]
              rfl
            | true =>
              rw [hin] at ci
              obtain ⟨Sa, da⟩ := few_sm1 hfa
              obtain ⟨Sb, db⟩ := few_sm1 hfb
              have fN : FewV d := fd d (by rw [hn]; exact List.mem_cons_self ..)
              obtain ⟨A, q, t1, z1⟩ := typ_call p ok fd d fN (twoT s a b) (two_sm hs' Sa Sb) (two_dep da db)
              obtain ⟨B, q', t2, z2⟩ := typ_call p ok fd d fN (twoT s b a) (two_sm hs' Sb Sa) (two_dep db da)
              rw [out_swap p d s a b] at t2 z2
              have st := str9_same z1 z2 (out_len p d s a b)
              have ee : ((typOut p d (twoT s a b)).2 == (typOut p d (twoT s a b)).2) = true := beq_self_eq_true _
              generalize (typOut p d (twoT s a b)).2 = err at t1 t2 ee
              have b2a := fun H => bsl_two H (litI .i64 0) (litS (bs [])) (.sl 0 [] (some 0)) (litI .i64 0) a b
              have b2b := fun H => bsl_two H (litI .i64 0) (litS (bs [])) (.sl 0 [] (some 0)) (litI .i64 0) b a
              simp -implicitDefEqProofs only [c3, aW, ↓aP, makes, reduceLT, reduceEqDiff, reduceAdd, ↓reduceIte, Nat.reduceBEq, core_box, bp, b2, List.length_nil, List.length_cons, List.length_append, reduceAdd, core_iadrA, iadrA_0, iadrA_1, la0, lb0, lb1, lb2, lb3, s1, s2, lp, l7, l8, l9, cf, ca, cb, fadr_ptr, ln, lenV_sl, List.length_map, e0, lenS_str, hs, gN, lN, sN, core_bsl, bs6, ci, b2a, b2b, core_bldT, bldT_two, t1, t2, st, ee, aw]
              rfl
end Go.Proofs.YtkjimmmdeopnaaaGreat.Ai
