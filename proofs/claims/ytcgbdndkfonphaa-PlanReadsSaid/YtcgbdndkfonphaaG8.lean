/- Seat of layers 14 and 15: flat's operations between instants. No condition. -/
import Derived.Test.YtcgbdndkfonphaaG7
set_option linter.unusedSimpArgs false
set_option linter.unusedVariables false
set_option linter.unusedSectionVars false
open Nat (reduceLT reduceEqDiff reduceAdd)
namespace Go.Proofs.Ytcgbdndkfonphaa.Ai
open Go Go.Ai
section
theorem op_st (H : List AO) (o : COpV) : storeAt (H ++ [AO.row [litS (bs []), .sl 0 [] (some 0)] 94]) 2 (.ptr H.length 0) (.agg o.cs) = some (H ++ [.row o.cs 94]) := by
  rw [storeAt_agg (n := 2) (xs := o.cs) (get_last H _) rfl rfl rfl, setL_last]
theorem op_g1 (H : List AO) (o : COpV) : Ai.load (H ++ [.row o.cs 94]) none (.ptr H.length 1) = some (rowC o.args none) := by rw [load_ptr (get_last H _)]; rfl
theorem op_g0 (H : List AO) (o : COpV) : Ai.load (H ++ [.row o.cs 94]) none (.ptr H.length 0) = some (litS o.op) := by rw [load_ptr (get_last H _)]; rfl
theorem get_app0 {H : List AO} {r : AO} (h : H[0]? = some r) (x : AO) : (H ++ [x])[0]? = some r := getH_app h
theorem op_c9 {H : List AO} {f : FlatV} {n : Nat} (h : H[0]? = some (.row (chkC f n) 106)) (x : AO) : Ai.load (H ++ [x]) (some 9) (.ptr 0 0) = some (.agg (chkC f n)) := load_agg (get_app0 h x) rfl
theorem op_c5 {H : List AO} {f : FlatV} {n : Nat} (h : H[0]? = some (.row (chkC f n) 106)) (x : AO) : Ai.load (H ++ [x]) none (.ptr 0 5) = some (contsA f.conts) := by rw [load_ptr (get_app0 h x)]; rfl
theorem iadr_2 (x y z : Int) : iadr 1 (rowC [x, y, z] none) (litI .i64 2) = some (.ip [litI .i64 z]) := rfl
theorem iadr_0 (x y z : Int) : iadr 1 (rowC [x, y, z] none) (litI .i64 0) = some (.ip [litI .i64 x]) := rfl
theorem ops_round_0 (f : FlatV) (n i : Nat) (l : List COpV) (o : COpV) (hi : l[i]? = some o) (hlt : (i : Int) < l.length) (hn : i < 4611686018427387904) (H : List AO) (hH : H[0]? = some (.row (chkC f n) 106)) (h0 : isS o.op [118, 97, 114] = true) :
    codeW cw (lookM mtl) mds c63l0 [(1, copsA l), (2, .ptr 0 0), (9, copsA l), (10, litI .i64 l.length), (11, litI .i64 i)] H = some (bif opOk f n i o then (.normal, [(1, copsA l), (2, .ptr 0 0), (9, copsA l), (10, litI .i64 l.length), (11, litI .i64 ((i + 1 : Nat) : Int))], H ++ [.row o.cs 94]) else (.ret, [(4, litB false)], H ++ [.row o.cs 94])) := by
  rw [show opOk f n i o = (lenI o 1 && within o.args n) by simp only [opOk, h0, bB]]
  by_cases hz : ((o.args.length : Int) == 1) = true
  case neg =>
    rw [Bool.not_eq_true] at hz
    rw [show lenI o 1 = false from hz]
    simp only [Bool.false_and, cond_false]
    simp -implicitDefEqProofs only [c63l0, aW, ↓aP, makes, reduceLT, reduceEqDiff, reduceAdd, lenV_cops, iadr_cops, hi, hlt, load_ipA (show (COpV.cs o).length = 2 from rfl), fadr_ip, fadr_ptr, op_st, op_g1, op_g0, op_c9 hH, op_c5 hH, Nat.zero_add, bin_isS, lenV_row, lenV_conts, wrap1 hn, h0, hz]
  rw [show lenI o 1 = true from hz]
  have hl : o.args.length ≤ 1000000 := by have := eq_of_beq hz; omega
  have hW := vars_call f n o.args none hl
  cases hw : within o.args n with
  | true =>
    rw [hw] at hW
    simp only [Bool.true_and, cond_true]
    simp -implicitDefEqProofs only [c63l0, aW, ↓aP, makes, reduceLT, reduceEqDiff, reduceAdd, lenV_cops, iadr_cops, hi, hlt, load_ipA (show (COpV.cs o).length = 2 from rfl), fadr_ip, fadr_ptr, op_st, op_g1, op_g0, op_c9 hH, op_c5 hH, Nat.zero_add, bin_isS, lenV_row, lenV_conts, wrap1 hn, h0, hz, hW]
  | false =>
    rw [hw] at hW
    simp only [Bool.true_and, cond_false]
    simp -implicitDefEqProofs only [c63l0, aW, ↓aP, makes, reduceLT, reduceEqDiff, reduceAdd, lenV_cops, iadr_cops, hi, hlt, load_ipA (show (COpV.cs o).length = 2 from rfl), fadr_ip, fadr_ptr, op_st, op_g1, op_g0, op_c9 hH, op_c5 hH, Nat.zero_add, bin_isS, lenV_row, lenV_conts, wrap1 hn, h0, hz, hW]
theorem ops_round_1 (f : FlatV) (n i : Nat) (l : List COpV) (o : COpV) (hi : l[i]? = some o) (hlt : (i : Int) < l.length) (hn : i < 4611686018427387904) (H : List AO) (hH : H[0]? = some (.row (chkC f n) 106)) (h0 : isS o.op [118, 97, 114] = false) (h1 : isS o.op [99, 111, 110, 116] = true) :
    codeW cw (lookM mtl) mds c63l0 [(1, copsA l), (2, .ptr 0 0), (9, copsA l), (10, litI .i64 l.length), (11, litI .i64 i)] H = some (bif opOk f n i o then (.normal, [(1, copsA l), (2, .ptr 0 0), (9, copsA l), (10, litI .i64 l.length), (11, litI .i64 ((i + 1 : Nat) : Int))], H ++ [.row o.cs 94]) else (.ret, [(4, litB false)], H ++ [.row o.cs 94])) := by
  rw [show opOk f n i o = (lenI o 1 && within o.args f.conts.length) by simp only [opOk, h0, h1, bB]]
  by_cases hz : ((o.args.length : Int) == 1) = true
  case neg =>
    rw [Bool.not_eq_true] at hz
    rw [show lenI o 1 = false from hz]
    simp only [Bool.false_and, cond_false]
    simp -implicitDefEqProofs only [c63l0, aW, ↓aP, makes, reduceLT, reduceEqDiff, reduceAdd, lenV_cops, iadr_cops, hi, hlt, load_ipA (show (COpV.cs o).length = 2 from rfl), fadr_ip, fadr_ptr, op_st, op_g1, op_g0, op_c9 hH, op_c5 hH, Nat.zero_add, bin_isS, lenV_row, lenV_conts, wrap1 hn, h0, h1, hz]
  rw [show lenI o 1 = true from hz]
  have hl : o.args.length ≤ 1000000 := by have := eq_of_beq hz; omega
  have hW := places_call o.args none f.conts.length hl
  cases hw : within o.args f.conts.length with
  | true =>
    rw [hw] at hW
    simp only [Bool.true_and, cond_true]
    simp -implicitDefEqProofs only [c63l0, aW, ↓aP, makes, reduceLT, reduceEqDiff, reduceAdd, lenV_cops, iadr_cops, hi, hlt, load_ipA (show (COpV.cs o).length = 2 from rfl), fadr_ip, fadr_ptr, op_st, op_g1, op_g0, op_c9 hH, op_c5 hH, Nat.zero_add, bin_isS, lenV_row, lenV_conts, wrap1 hn, h0, h1, hz, hW]
  | false =>
    rw [hw] at hW
    simp only [Bool.true_and, cond_false]
    simp -implicitDefEqProofs only [c63l0, aW, ↓aP, makes, reduceLT, reduceEqDiff, reduceAdd, lenV_cops, iadr_cops, hi, hlt, load_ipA (show (COpV.cs o).length = 2 from rfl), fadr_ip, fadr_ptr, op_st, op_g1, op_g0, op_c9 hH, op_c5 hH, Nat.zero_add, bin_isS, lenV_row, lenV_conts, wrap1 hn, h0, h1, hz, hW]
theorem ops_round_2 (f : FlatV) (n i : Nat) (l : List COpV) (o : COpV) (hi : l[i]? = some o) (hlt : (i : Int) < l.length) (hn : i < 4611686018427387904) (H : List AO) (hH : H[0]? = some (.row (chkC f n) 106)) (h0 : isS o.op [118, 97, 114] = false) (h1 : isS o.op [99, 111, 110, 116] = false) (h2 : isS o.op [110, 101, 103] = true) :
    codeW cw (lookM mtl) mds c63l0 [(1, copsA l), (2, .ptr 0 0), (9, copsA l), (10, litI .i64 l.length), (11, litI .i64 i)] H = some (bif opOk f n i o then (.normal, [(1, copsA l), (2, .ptr 0 0), (9, copsA l), (10, litI .i64 l.length), (11, litI .i64 ((i + 1 : Nat) : Int))], H ++ [.row o.cs 94]) else (.ret, [(4, litB false)], H ++ [.row o.cs 94])) := by
  rw [show opOk f n i o = (lenI o 1 && within o.args i) by simp only [opOk, h0, h1, h2, bB]]
  by_cases hz : ((o.args.length : Int) == 1) = true
  case neg =>
    rw [Bool.not_eq_true] at hz
    rw [show lenI o 1 = false from hz]
    simp only [Bool.false_and, cond_false]
    simp -implicitDefEqProofs only [c63l0, aW, ↓aP, makes, reduceLT, reduceEqDiff, reduceAdd, lenV_cops, iadr_cops, hi, hlt, load_ipA (show (COpV.cs o).length = 2 from rfl), fadr_ip, fadr_ptr, op_st, op_g1, op_g0, op_c9 hH, op_c5 hH, Nat.zero_add, bin_isS, lenV_row, lenV_conts, wrap1 hn, h0, h1, h2, hz]
  rw [show lenI o 1 = true from hz]
  have hl : o.args.length ≤ 1000000 := by have := eq_of_beq hz; omega
  have hW := places_call o.args none i hl
  cases hw : within o.args i with
  | true =>
    rw [hw] at hW
    simp only [Bool.true_and, cond_true]
    simp -implicitDefEqProofs only [c63l0, aW, ↓aP, makes, reduceLT, reduceEqDiff, reduceAdd, lenV_cops, iadr_cops, hi, hlt, load_ipA (show (COpV.cs o).length = 2 from rfl), fadr_ip, fadr_ptr, op_st, op_g1, op_g0, op_c9 hH, op_c5 hH, Nat.zero_add, bin_isS, lenV_row, lenV_conts, wrap1 hn, h0, h1, h2, hz, hW]
  | false =>
    rw [hw] at hW
    simp only [Bool.true_and, cond_false]
    simp -implicitDefEqProofs only [c63l0, aW, ↓aP, makes, reduceLT, reduceEqDiff, reduceAdd, lenV_cops, iadr_cops, hi, hlt, load_ipA (show (COpV.cs o).length = 2 from rfl), fadr_ip, fadr_ptr, op_st, op_g1, op_g0, op_c9 hH, op_c5 hH, Nat.zero_add, bin_isS, lenV_row, lenV_conts, wrap1 hn, h0, h1, h2, hz, hW]
theorem ops_round_3 (f : FlatV) (n i : Nat) (l : List COpV) (o : COpV) (hi : l[i]? = some o) (hlt : (i : Int) < l.length) (hn : i < 4611686018427387904) (H : List AO) (hH : H[0]? = some (.row (chkC f n) 106)) (h0 : isS o.op [118, 97, 114] = false) (h1 : isS o.op [99, 111, 110, 116] = false) (h2 : isS o.op [110, 101, 103] = false) (h3 : isS o.op [43] = true) :
    codeW cw (lookM mtl) mds c63l0 [(1, copsA l), (2, .ptr 0 0), (9, copsA l), (10, litI .i64 l.length), (11, litI .i64 i)] H = some (bif opOk f n i o then (.normal, [(1, copsA l), (2, .ptr 0 0), (9, copsA l), (10, litI .i64 l.length), (11, litI .i64 ((i + 1 : Nat) : Int))], H ++ [.row o.cs 94]) else (.ret, [(4, litB false)], H ++ [.row o.cs 94])) := by
  rw [show opOk f n i o = (lenI o 2 && within o.args i) by simp only [opOk, h0, h1, h2, h3, bB]]
  by_cases hz : ((o.args.length : Int) == 2) = true
  case neg =>
    rw [Bool.not_eq_true] at hz
    rw [show lenI o 2 = false from hz]
    simp only [Bool.false_and, cond_false]
    simp -implicitDefEqProofs only [c63l0, aW, ↓aP, makes, reduceLT, reduceEqDiff, reduceAdd, lenV_cops, iadr_cops, hi, hlt, load_ipA (show (COpV.cs o).length = 2 from rfl), fadr_ip, fadr_ptr, op_st, op_g1, op_g0, op_c9 hH, op_c5 hH, Nat.zero_add, bin_isS, lenV_row, lenV_conts, wrap1 hn, h0, h1, h2, h3, hz]
  rw [show lenI o 2 = true from hz]
  have hl : o.args.length ≤ 1000000 := by have := eq_of_beq hz; omega
  have hW := places_call o.args none i hl
  cases hw : within o.args i with
  | true =>
    rw [hw] at hW
    simp only [Bool.true_and, cond_true]
    simp -implicitDefEqProofs only [c63l0, aW, ↓aP, makes, reduceLT, reduceEqDiff, reduceAdd, lenV_cops, iadr_cops, hi, hlt, load_ipA (show (COpV.cs o).length = 2 from rfl), fadr_ip, fadr_ptr, op_st, op_g1, op_g0, op_c9 hH, op_c5 hH, Nat.zero_add, bin_isS, lenV_row, lenV_conts, wrap1 hn, h0, h1, h2, h3, hz, hW]
  | false =>
    rw [hw] at hW
    simp only [Bool.true_and, cond_false]
    simp -implicitDefEqProofs only [c63l0, aW, ↓aP, makes, reduceLT, reduceEqDiff, reduceAdd, lenV_cops, iadr_cops, hi, hlt, load_ipA (show (COpV.cs o).length = 2 from rfl), fadr_ip, fadr_ptr, op_st, op_g1, op_g0, op_c9 hH, op_c5 hH, Nat.zero_add, bin_isS, lenV_row, lenV_conts, wrap1 hn, h0, h1, h2, h3, hz, hW]
theorem ops_round_4 (f : FlatV) (n i : Nat) (l : List COpV) (o : COpV) (hi : l[i]? = some o) (hlt : (i : Int) < l.length) (hn : i < 4611686018427387904) (H : List AO) (hH : H[0]? = some (.row (chkC f n) 106)) (h0 : isS o.op [118, 97, 114] = false) (h1 : isS o.op [99, 111, 110, 116] = false) (h2 : isS o.op [110, 101, 103] = false) (h3 : isS o.op [43] = false) (h4 : isS o.op [45] = true) :
    codeW cw (lookM mtl) mds c63l0 [(1, copsA l), (2, .ptr 0 0), (9, copsA l), (10, litI .i64 l.length), (11, litI .i64 i)] H = some (bif opOk f n i o then (.normal, [(1, copsA l), (2, .ptr 0 0), (9, copsA l), (10, litI .i64 l.length), (11, litI .i64 ((i + 1 : Nat) : Int))], H ++ [.row o.cs 94]) else (.ret, [(4, litB false)], H ++ [.row o.cs 94])) := by
  rw [show opOk f n i o = (lenI o 2 && within o.args i) by simp only [opOk, h0, h1, h2, h3, h4, bB]]
  by_cases hz : ((o.args.length : Int) == 2) = true
  case neg =>
    rw [Bool.not_eq_true] at hz
    rw [show lenI o 2 = false from hz]
    simp only [Bool.false_and, cond_false]
    simp -implicitDefEqProofs only [c63l0, aW, ↓aP, makes, reduceLT, reduceEqDiff, reduceAdd, lenV_cops, iadr_cops, hi, hlt, load_ipA (show (COpV.cs o).length = 2 from rfl), fadr_ip, fadr_ptr, op_st, op_g1, op_g0, op_c9 hH, op_c5 hH, Nat.zero_add, bin_isS, lenV_row, lenV_conts, wrap1 hn, h0, h1, h2, h3, h4, hz]
  rw [show lenI o 2 = true from hz]
  have hl : o.args.length ≤ 1000000 := by have := eq_of_beq hz; omega
  have hW := places_call o.args none i hl
  cases hw : within o.args i with
  | true =>
    rw [hw] at hW
    simp only [Bool.true_and, cond_true]
    simp -implicitDefEqProofs only [c63l0, aW, ↓aP, makes, reduceLT, reduceEqDiff, reduceAdd, lenV_cops, iadr_cops, hi, hlt, load_ipA (show (COpV.cs o).length = 2 from rfl), fadr_ip, fadr_ptr, op_st, op_g1, op_g0, op_c9 hH, op_c5 hH, Nat.zero_add, bin_isS, lenV_row, lenV_conts, wrap1 hn, h0, h1, h2, h3, h4, hz, hW]
  | false =>
    rw [hw] at hW
    simp only [Bool.true_and, cond_false]
    simp -implicitDefEqProofs only [c63l0, aW, ↓aP, makes, reduceLT, reduceEqDiff, reduceAdd, lenV_cops, iadr_cops, hi, hlt, load_ipA (show (COpV.cs o).length = 2 from rfl), fadr_ip, fadr_ptr, op_st, op_g1, op_g0, op_c9 hH, op_c5 hH, Nat.zero_add, bin_isS, lenV_row, lenV_conts, wrap1 hn, h0, h1, h2, h3, h4, hz, hW]
theorem ops_round_5 (f : FlatV) (n i : Nat) (l : List COpV) (o : COpV) (hi : l[i]? = some o) (hlt : (i : Int) < l.length) (hn : i < 4611686018427387904) (H : List AO) (hH : H[0]? = some (.row (chkC f n) 106)) (h0 : isS o.op [118, 97, 114] = false) (h1 : isS o.op [99, 111, 110, 116] = false) (h2 : isS o.op [110, 101, 103] = false) (h3 : isS o.op [43] = false) (h4 : isS o.op [45] = false) (h5 : isS o.op [47] = true) :
    codeW cw (lookM mtl) mds c63l0 [(1, copsA l), (2, .ptr 0 0), (9, copsA l), (10, litI .i64 l.length), (11, litI .i64 i)] H = some (bif opOk f n i o then (.normal, [(1, copsA l), (2, .ptr 0 0), (9, copsA l), (10, litI .i64 l.length), (11, litI .i64 ((i + 1 : Nat) : Int))], H ++ [.row o.cs 94]) else (.ret, [(4, litB false)], H ++ [.row o.cs 94])) := by
  rw [show opOk f n i o = (lenI o 2 && within o.args i) by simp only [opOk, h0, h1, h2, h3, h4, h5, bB]]
  by_cases hz : ((o.args.length : Int) == 2) = true
  case neg =>
    rw [Bool.not_eq_true] at hz
    rw [show lenI o 2 = false from hz]
    simp only [Bool.false_and, cond_false]
    simp -implicitDefEqProofs only [c63l0, aW, ↓aP, makes, reduceLT, reduceEqDiff, reduceAdd, lenV_cops, iadr_cops, hi, hlt, load_ipA (show (COpV.cs o).length = 2 from rfl), fadr_ip, fadr_ptr, op_st, op_g1, op_g0, op_c9 hH, op_c5 hH, Nat.zero_add, bin_isS, lenV_row, lenV_conts, wrap1 hn, h0, h1, h2, h3, h4, h5, hz]
  rw [show lenI o 2 = true from hz]
  have hl : o.args.length ≤ 1000000 := by have := eq_of_beq hz; omega
  have hW := places_call o.args none i hl
  cases hw : within o.args i with
  | true =>
    rw [hw] at hW
    simp only [Bool.true_and, cond_true]
    simp -implicitDefEqProofs only [c63l0, aW, ↓aP, makes, reduceLT, reduceEqDiff, reduceAdd, lenV_cops, iadr_cops, hi, hlt, load_ipA (show (COpV.cs o).length = 2 from rfl), fadr_ip, fadr_ptr, op_st, op_g1, op_g0, op_c9 hH, op_c5 hH, Nat.zero_add, bin_isS, lenV_row, lenV_conts, wrap1 hn, h0, h1, h2, h3, h4, h5, hz, hW]
  | false =>
    rw [hw] at hW
    simp only [Bool.true_and, cond_false]
    simp -implicitDefEqProofs only [c63l0, aW, ↓aP, makes, reduceLT, reduceEqDiff, reduceAdd, lenV_cops, iadr_cops, hi, hlt, load_ipA (show (COpV.cs o).length = 2 from rfl), fadr_ip, fadr_ptr, op_st, op_g1, op_g0, op_c9 hH, op_c5 hH, Nat.zero_add, bin_isS, lenV_row, lenV_conts, wrap1 hn, h0, h1, h2, h3, h4, h5, hz, hW]
theorem ops_round_6 (f : FlatV) (n i : Nat) (l : List COpV) (o : COpV) (hi : l[i]? = some o) (hlt : (i : Int) < l.length) (hn : i < 4611686018427387904) (H : List AO) (hH : H[0]? = some (.row (chkC f n) 106)) (h0 : isS o.op [118, 97, 114] = false) (h1 : isS o.op [99, 111, 110, 116] = false) (h2 : isS o.op [110, 101, 103] = false) (h3 : isS o.op [43] = false) (h4 : isS o.op [45] = false) (h5 : isS o.op [47] = false) (h6 : isS o.op [42] = true) :
    codeW cw (lookM mtl) mds c63l0 [(1, copsA l), (2, .ptr 0 0), (9, copsA l), (10, litI .i64 l.length), (11, litI .i64 i)] H = some (bif opOk f n i o then (.normal, [(1, copsA l), (2, .ptr 0 0), (9, copsA l), (10, litI .i64 l.length), (11, litI .i64 ((i + 1 : Nat) : Int))], H ++ [.row o.cs 94]) else (.ret, [(4, litB false)], H ++ [.row o.cs 94])) := by
  rw [show opOk f n i o = (lenI o 3 && within (o.args.take 2) i && within (o.args.drop 2) 2) by simp only [opOk, h0, h1, h2, h3, h4, h5, h6, bB]]
  by_cases hz : ((o.args.length : Int) == 3) = true
  case neg =>
    rw [Bool.not_eq_true] at hz
    rw [show lenI o 3 = false from hz]
    simp only [Bool.false_and, cond_false]
    simp -implicitDefEqProofs only [c63l0, aW, ↓aP, makes, reduceLT, reduceEqDiff, reduceAdd, lenV_cops, iadr_cops, hi, hlt, load_ipA (show (COpV.cs o).length = 2 from rfl), fadr_ip, fadr_ptr, op_st, op_g1, op_g0, op_c9 hH, op_c5 hH, Nat.zero_add, bin_isS, lenV_row, lenV_conts, wrap1 hn, h0, h1, h2, h3, h4, h5, h6, hz]
  rw [show lenI o 3 = true from hz]
  obtain ⟨x, y, z, ha⟩ := list3 o.args hz
  rw [ha] at hz ⊢
  have hW1 := places_call [x, y] none i (by simp)
  have hW2 : ∀ H id, callV cw mds 80 [litI .i64 2, .sl 1 [[litI .i64 z]] (some 1)] H id = some (.val (litB (within [z] 2)) none) := fun H id => places_call [z] (some 1) 2 (by simp) H id
  simp only [List.take, List.drop, Bool.true_and]
  cases hw : within [x, y] i with
  | false =>
    rw [hw] at hW1
    simp only [Bool.false_and, cond_false]
    simp -implicitDefEqProofs only [c63l0, aW, ↓aP, makes, reduceLT, reduceEqDiff, reduceAdd, lenV_cops, iadr_cops, hi, hlt, load_ipA (show (COpV.cs o).length = 2 from rfl), fadr_ip, fadr_ptr, op_st, op_g1, op_g0, op_c9 hH, op_c5 hH, Nat.zero_add, bin_isS, lenV_row, lenV_conts, wrap1 hn, h0, h1, h2, h3, h4, h5, h6, ha, sli_1, sli_2, sli_1d, sli_2d, iadr_2, iadr_0, bsV_int, hz, hW1]
  | true =>
  rw [hw] at hW1
  cases hv : within [z] 2 with
  | true =>
    rw [hv] at hW2
    simp only [Bool.true_and, cond_true]
    simp -implicitDefEqProofs only [c63l0, aW, ↓aP, makes, reduceLT, reduceEqDiff, reduceAdd, lenV_cops, iadr_cops, hi, hlt, load_ipA (show (COpV.cs o).length = 2 from rfl), fadr_ip, fadr_ptr, op_st, op_g1, op_g0, op_c9 hH, op_c5 hH, Nat.zero_add, bin_isS, lenV_row, lenV_conts, wrap1 hn, h0, h1, h2, h3, h4, h5, h6, ha, sli_1, sli_2, sli_1d, sli_2d, iadr_2, iadr_0, bsV_int, hz, hW1, hW2]
  | false =>
    rw [hv] at hW2
    simp only [Bool.true_and, cond_false]
    simp -implicitDefEqProofs only [c63l0, aW, ↓aP, makes, reduceLT, reduceEqDiff, reduceAdd, lenV_cops, iadr_cops, hi, hlt, load_ipA (show (COpV.cs o).length = 2 from rfl), fadr_ip, fadr_ptr, op_st, op_g1, op_g0, op_c9 hH, op_c5 hH, Nat.zero_add, bin_isS, lenV_row, lenV_conts, wrap1 hn, h0, h1, h2, h3, h4, h5, h6, ha, sli_1, sli_2, sli_1d, sli_2d, iadr_2, iadr_0, bsV_int, hz, hW1, hW2]
theorem ops_round_7 (f : FlatV) (n i : Nat) (l : List COpV) (o : COpV) (hi : l[i]? = some o) (hlt : (i : Int) < l.length) (hn : i < 4611686018427387904) (H : List AO) (hH : H[0]? = some (.row (chkC f n) 106)) (h0 : isS o.op [118, 97, 114] = false) (h1 : isS o.op [99, 111, 110, 116] = false) (h2 : isS o.op [110, 101, 103] = false) (h3 : isS o.op [43] = false) (h4 : isS o.op [45] = false) (h5 : isS o.op [47] = false) (h6 : isS o.op [42] = false) (h7 : isS o.op [115, 101, 108] = true) :
    codeW cw (lookM mtl) mds c63l0 [(1, copsA l), (2, .ptr 0 0), (9, copsA l), (10, litI .i64 l.length), (11, litI .i64 i)] H = some (bif opOk f n i o then (.normal, [(1, copsA l), (2, .ptr 0 0), (9, copsA l), (10, litI .i64 l.length), (11, litI .i64 ((i + 1 : Nat) : Int))], H ++ [.row o.cs 94]) else (.ret, [(4, litB false)], H ++ [.row o.cs 94])) := by
  rw [show opOk f n i o = (lenI o 3 && within (o.args.take 1) n && within (o.args.drop 1) i) by simp only [opOk, h0, h1, h2, h3, h4, h5, h6, h7, bB]]
  by_cases hz : ((o.args.length : Int) == 3) = true
  case neg =>
    rw [Bool.not_eq_true] at hz
    rw [show lenI o 3 = false from hz]
    simp only [Bool.false_and, cond_false]
    simp -implicitDefEqProofs only [c63l0, aW, ↓aP, makes, reduceLT, reduceEqDiff, reduceAdd, lenV_cops, iadr_cops, hi, hlt, load_ipA (show (COpV.cs o).length = 2 from rfl), fadr_ip, fadr_ptr, op_st, op_g1, op_g0, op_c9 hH, op_c5 hH, Nat.zero_add, bin_isS, lenV_row, lenV_conts, wrap1 hn, h0, h1, h2, h3, h4, h5, h6, h7, hz]
  rw [show lenI o 3 = true from hz]
  obtain ⟨x, y, z, ha⟩ := list3 o.args hz
  rw [ha] at hz ⊢
  have hW1 : ∀ H id, callV cw mds 57 [.agg (chkC f n), .sl 1 [[litI .i64 x]] (some 1)] H id = some (.val (litB (within [x] n)) none) := fun H id => vars_call f n [x] (some 1) (by simp) H id
  have hW2 := places_call [y, z] none i (by simp)
  simp only [List.take, List.drop, Bool.true_and]
  cases hw : within [x] n with
  | false =>
    rw [hw] at hW1
    simp only [Bool.false_and, cond_false]
    simp -implicitDefEqProofs only [c63l0, aW, ↓aP, makes, reduceLT, reduceEqDiff, reduceAdd, lenV_cops, iadr_cops, hi, hlt, load_ipA (show (COpV.cs o).length = 2 from rfl), fadr_ip, fadr_ptr, op_st, op_g1, op_g0, op_c9 hH, op_c5 hH, Nat.zero_add, bin_isS, lenV_row, lenV_conts, wrap1 hn, h0, h1, h2, h3, h4, h5, h6, h7, ha, sli_1, sli_2, sli_1d, sli_2d, iadr_2, iadr_0, bsV_int, hz, hW1]
  | true =>
  rw [hw] at hW1
  cases hv : within [y, z] i with
  | true =>
    rw [hv] at hW2
    simp only [Bool.true_and, cond_true]
    simp -implicitDefEqProofs only [c63l0, aW, ↓aP, makes, reduceLT, reduceEqDiff, reduceAdd, lenV_cops, iadr_cops, hi, hlt, load_ipA (show (COpV.cs o).length = 2 from rfl), fadr_ip, fadr_ptr, op_st, op_g1, op_g0, op_c9 hH, op_c5 hH, Nat.zero_add, bin_isS, lenV_row, lenV_conts, wrap1 hn, h0, h1, h2, h3, h4, h5, h6, h7, ha, sli_1, sli_2, sli_1d, sli_2d, iadr_2, iadr_0, bsV_int, hz, hW1, hW2]
  | false =>
    rw [hv] at hW2
    simp only [Bool.true_and, cond_false]
    simp -implicitDefEqProofs only [c63l0, aW, ↓aP, makes, reduceLT, reduceEqDiff, reduceAdd, lenV_cops, iadr_cops, hi, hlt, load_ipA (show (COpV.cs o).length = 2 from rfl), fadr_ip, fadr_ptr, op_st, op_g1, op_g0, op_c9 hH, op_c5 hH, Nat.zero_add, bin_isS, lenV_row, lenV_conts, wrap1 hn, h0, h1, h2, h3, h4, h5, h6, h7, ha, sli_1, sli_2, sli_1d, sli_2d, iadr_2, iadr_0, bsV_int, hz, hW1, hW2]
theorem ops_round_8 (f : FlatV) (n i : Nat) (l : List COpV) (o : COpV) (hi : l[i]? = some o) (hlt : (i : Int) < l.length) (hn : i < 4611686018427387904) (H : List AO) (hH : H[0]? = some (.row (chkC f n) 106)) (h0 : isS o.op [118, 97, 114] = false) (h1 : isS o.op [99, 111, 110, 116] = false) (h2 : isS o.op [110, 101, 103] = false) (h3 : isS o.op [43] = false) (h4 : isS o.op [45] = false) (h5 : isS o.op [47] = false) (h6 : isS o.op [42] = false) (h7 : isS o.op [115, 101, 108] = false) :
    codeW cw (lookM mtl) mds c63l0 [(1, copsA l), (2, .ptr 0 0), (9, copsA l), (10, litI .i64 l.length), (11, litI .i64 i)] H = some (bif opOk f n i o then (.normal, [(1, copsA l), (2, .ptr 0 0), (9, copsA l), (10, litI .i64 l.length), (11, litI .i64 ((i + 1 : Nat) : Int))], H ++ [.row o.cs 94]) else (.ret, [(4, litB false)], H ++ [.row o.cs 94])) := by
  rw [show opOk f n i o = false by simp only [opOk, h0, h1, h2, h3, h4, h5, h6, h7, bB], cond_false]
  simp -implicitDefEqProofs only [c63l0, aW, ↓aP, makes, reduceLT, reduceEqDiff, reduceAdd, lenV_cops, iadr_cops, hi, hlt, load_ipA (show (COpV.cs o).length = 2 from rfl), fadr_ip, fadr_ptr, op_st, op_g1, op_g0, op_c9 hH, op_c5 hH, Nat.zero_add, bin_isS, lenV_row, lenV_conts, wrap1 hn, h0, h1, h2, h3, h4, h5, h6, h7]
theorem ops_round (f : FlatV) (n i : Nat) (l : List COpV) (o : COpV) (hi : l[i]? = some o) (hlt : (i : Int) < l.length) (hn : i < 4611686018427387904) (H : List AO) (hH : H[0]? = some (.row (chkC f n) 106)) :
    codeW cw (lookM mtl) mds c63l0 [(1, copsA l), (2, .ptr 0 0), (9, copsA l), (10, litI .i64 l.length), (11, litI .i64 i)] H = some (bif opOk f n i o then (.normal, [(1, copsA l), (2, .ptr 0 0), (9, copsA l), (10, litI .i64 l.length), (11, litI .i64 ((i + 1 : Nat) : Int))], H ++ [.row o.cs 94]) else (.ret, [(4, litB false)], H ++ [.row o.cs 94])) := by
  by_cases h0 : isS o.op [118, 97, 114] = true
  · exact ops_round_0 f n i l o hi hlt hn H hH h0
  rw [Bool.not_eq_true] at h0
  by_cases h1 : isS o.op [99, 111, 110, 116] = true
  · exact ops_round_1 f n i l o hi hlt hn H hH h0 h1
  rw [Bool.not_eq_true] at h1
  by_cases h2 : isS o.op [110, 101, 103] = true
  · exact ops_round_2 f n i l o hi hlt hn H hH h0 h1 h2
  rw [Bool.not_eq_true] at h2
  by_cases h3 : isS o.op [43] = true
  · exact ops_round_3 f n i l o hi hlt hn H hH h0 h1 h2 h3
  rw [Bool.not_eq_true] at h3
  by_cases h4 : isS o.op [45] = true
  · exact ops_round_4 f n i l o hi hlt hn H hH h0 h1 h2 h3 h4
  rw [Bool.not_eq_true] at h4
  by_cases h5 : isS o.op [47] = true
  · exact ops_round_5 f n i l o hi hlt hn H hH h0 h1 h2 h3 h4 h5
  rw [Bool.not_eq_true] at h5
  by_cases h6 : isS o.op [42] = true
  · exact ops_round_6 f n i l o hi hlt hn H hH h0 h1 h2 h3 h4 h5 h6
  rw [Bool.not_eq_true] at h6
  by_cases h7 : isS o.op [115, 101, 108] = true
  · exact ops_round_7 f n i l o hi hlt hn H hH h0 h1 h2 h3 h4 h5 h6 h7
  rw [Bool.not_eq_true] at h7
  exact ops_round_8 f n i l o hi hlt hn H hH h0 h1 h2 h3 h4 h5 h6 h7
theorem ops_loop (f : FlatV) (n : Nat) (l : List COpV) (hl : l.length ≤ 1000000) : ∀ (m i : Nat) (H : List AO), m + i = l.length → H[0]? = some (.row (chkC f n) 106) →
    ∃ H', loopW (codeW cw (lookM mtl) mds c63l0) [1, 2, 9, 10, 11] [(1, copsA l), (2, .ptr 0 0), (9, copsA l), (10, litI .i64 l.length), (11, litI .i64 i)] H =
      some (bif opsF f n i (l.drop i) then (EX.exit 0, [(1, copsA l), (2, .ptr 0 0), (9, copsA l), (10, litI .i64 l.length), (11, litI .i64 l.length), (12, litB false)], H') else (.ret, [(4, litB false)], H'))
  | 0, i, H, h, hH => by
    have hn : i = l.length := by omega
    subst hn
    refine ⟨H, ?_⟩
    rw [List.drop_length, opsF, cond_true]
    refine loopW_out ?_ (by simp)
    simp -implicitDefEqProofs only [c63l0, aW, ↓aP, makes, reduceLT, reduceEqDiff, reduceAdd, Int.lt_irrefl]
  | m + 1, i, H, h, hH => by
    have hn : i < l.length := by omega
    have hg : l[i]? = some l[i] := List.getElem?_eq_getElem hn
    have hlt : (i : Int) < l.length := by omega
    have R := ops_round f n i l l[i] hg hlt (by omega) H hH
    rw [List.drop_eq_getElem_cons hn, opsF]
    cases ho : opOk f n i l[i] with
    | true =>
      rw [ho, cond_true] at R
      rw [Bool.true_and]
      obtain ⟨H', L⟩ := ops_loop f n l hl m (i + 1) _ (by omega) (get_app0 hH (.row (COpV.cs l[i]) 94))
      refine ⟨H', loopW_round ?_ L⟩
      simp -implicitDefEqProofs only [aW, ↓aP, makes, reduceLT, reduceEqDiff, reduceAdd, R]
    | false =>
      rw [ho, cond_false] at R
      refine ⟨H ++ [.row (COpV.cs l[i]) 94], ?_⟩
      rw [Bool.false_and, cond_false]
      refine loopW_out ?_ (by simp)
      simp -implicitDefEqProofs only [aW, ↓aP, makes, reduceLT, reduceEqDiff, reduceAdd, R]
theorem ops_tells (f : FlatV) (n : Nat) (l : List COpV) (hl : l.length ≤ 1000000) : ∃ H', cw 63 [.agg (chkC f n), copsA l] [] = some (.ret (litB (opsOk f n l)), H') := by
  obtain ⟨H', L⟩ := ops_loop f n l hl l.length 0 [.row (chkC f n) 106] (by omega) rfl
  refine ⟨H', cw_of fn63 (c := c63) rfl rfl rfl rfl ?_⟩
  rw [List.drop_zero, show ((0 : Nat) : Int) = 0 from rfl] at L
  unfold opsOk
  cases ho : opsF f n 0 l with
  | true =>
    rw [ho, cond_true] at L
    rw [Bool.true_and]
    simp -implicitDefEqProofs only [c63, aW, ↓aP, makes, reduceLT, reduceEqDiff, reduceAdd, core_box, eq_b9 f n, List.length_nil, L, lenV_cops]
    rfl
  | false =>
    rw [ho, cond_false] at L
    rw [Bool.false_and]
    simp -implicitDefEqProofs only [c63, aW, ↓aP, makes, reduceLT, reduceEqDiff, reduceAdd, core_box, eq_b9 f n, List.length_nil, L, lenV_cops]
    rfl
theorem ops_call (f : FlatV) (n : Nat) (l : List COpV) (hl : l.length ≤ 1000000) (H : List AO) (id : Nat) : callV cw mds 63 [.agg (chkC f n), copsA l] H id = some (.val (litB (opsOk f n l)) none) := by
  obtain ⟨H', h⟩ := ops_tells f n l hl
  exact callV_pureA rfl rfl h rfl
end
section
def memOk (n : Nat) (m : MemV) : Bool := inN n m.next && decide (m.guard < n) && within m.resets n
def slopeOk (n : Nat) (s : SlopeV) : Bool := inN n s.var && decide (s.guard < n)
def contOk (n : Nat) (x : ContV) : Bool := inN n x.var && decide (x.guard < n) && within x.resets n && x.slopes.all (slopeOk n)
def crossOk (f : FlatV) (n : Nat) (x : CrossV) : Bool := decide (x.guard < n) && opsOk f n x.ops
def gH (f : FlatV) (n : Nat) : List AO := [.row f.cs 29, .row (chkC f n) 106, .row [.fn (.func 59) [] [.ptr 1 0]] 109]
theorem vars1_call (f : FlatV) (n : Nat) (x : Int) (H : List AO) (id : Nat) : callV cw mds 57 [.agg (chkC f n), .sl 1 [[litI .i64 x]] (some 1)] H id = some (.val (litB (inN n x)) none) := by
  have := vars_call f n [x] (some 1) (by simp) H id
  rwa [show within [x] n = inN n x by simp [within]] at this
theorem mem_tells (f : FlatV) (n : Nat) (m : MemV) (hl : m.resets.length ≤ 1000000) : cw 56 [.agg m.cs, .ptr 1 0] (gH f n) = some (.ret (litB (!memOk n m)), gH f n ++ [.row m.cs 87]) := by
  refine cw_of fn56 (c := c56) rfl rfl rfl rfl ?_
  have hb : ∀ id t, boxV id 8 (.agg m.cs) t = some (.val (.ptr id 0) (some (.row m.cs t))) := fun _ _ => boxV_agg rfl rfl
  have c9 : Ai.load [.row f.cs 29, .row (chkC f n) 106, .row [.fn (.func 59) [] [.ptr 1 0]] 109, .row m.cs 87] (some 9) (.ptr 1 0) = some (.agg (chkC f n)) := rfl
  have m5 : Ai.load [.row f.cs 29, .row (chkC f n) 106, .row [.fn (.func 59) [] [.ptr 1 0]] 109, .row m.cs 87] none (.ptr 3 5) = some (litI .i64 m.next) := rfl
  have m6 : Ai.load [.row f.cs 29, .row (chkC f n) 106, .row [.fn (.func 59) [] [.ptr 1 0]] 109, .row m.cs 87] none (.ptr 3 6) = some (litI .i64 m.guard) := rfl
  have m7 : Ai.load [.row f.cs 29, .row (chkC f n) 106, .row [.fn (.func 59) [] [.ptr 1 0]] 109, .row m.cs 87] none (.ptr 3 7) = some (rowC m.resets none) := rfl
  have hV := vars1_call f n m.next
  have hG := guard_call f n m.guard
  have hR := vars_call f n m.resets none hl
  unfold memOk gH
  cases ha : inN n m.next with
  | false =>
    rw [ha] at hV
    simp -implicitDefEqProofs only [c56, aW, ↓aP, makes, reduceLT, reduceEqDiff, reduceAdd, core_box, hb, List.length_nil, List.length_cons, fadr_ptr, c9, m5, hV, bsV_int]
    rfl
  | true =>
    rw [ha] at hV
    cases hg : decide (m.guard < n) with
    | false =>
      rw [hg] at hG
      simp -implicitDefEqProofs only [c56, aW, ↓aP, makes, reduceLT, reduceEqDiff, reduceAdd, core_box, hb, List.length_nil, List.length_cons, fadr_ptr, c9, m5, m6, hV, hG, bsV_int]
      rfl
    | true =>
      rw [hg] at hG
      simp -implicitDefEqProofs only [c56, aW, ↓aP, makes, reduceLT, reduceEqDiff, reduceAdd, core_box, hb, List.length_nil, List.length_cons, fadr_ptr, c9, m5, m6, m7, hV, hG, hR, bsV_int]
      rfl
theorem mem_fn_call (f : FlatV) (n : Nat) (m : MemV) (hl : m.resets.length ≤ 1000000) (id : Nat) : fnV cw mds (.fn (.func 56) [] [.ptr 1 0]) [.agg m.cs] (gH f n) id = some (.wr (litB (!memOk n m)) (gH f n)) :=
  (wr_same rfl (mem_tells f n m hl) (by simp) rfl rfl : callV cw mds 56 [.agg m.cs, .ptr 1 0] (gH f n) id = _)
theorem cross_tells (f : FlatV) (n : Nat) (m : CrossV) (hl : m.ops.length ≤ 1000000) : cw 62 [.agg m.cs, .ptr 1 0] (gH f n) = some (.ret (litB (!crossOk f n m)), gH f n ++ [.row m.cs 45]) := by
  refine cw_of fn62 (c := c62) rfl rfl rfl rfl ?_
  have hb : ∀ id t, boxV id 2 (.agg m.cs) t = some (.val (.ptr id 0) (some (.row m.cs t))) := fun _ _ => boxV_agg rfl rfl
  have c9 : Ai.load [.row f.cs 29, .row (chkC f n) 106, .row [.fn (.func 59) [] [.ptr 1 0]] 109, .row m.cs 45] (some 9) (.ptr 1 0) = some (.agg (chkC f n)) := rfl
  have m0 : Ai.load [.row f.cs 29, .row (chkC f n) 106, .row [.fn (.func 59) [] [.ptr 1 0]] 109, .row m.cs 45] none (.ptr 3 0) = some (litI .i64 m.guard) := rfl
  have m1 : Ai.load [.row f.cs 29, .row (chkC f n) 106, .row [.fn (.func 59) [] [.ptr 1 0]] 109, .row m.cs 45] none (.ptr 3 1) = some (copsA m.ops) := rfl
  have hG := guard_call f n m.guard
  have hO := ops_call f n m.ops hl
  unfold crossOk gH
  cases hg : decide (m.guard < n) with
  | false =>
    rw [hg] at hG
    simp -implicitDefEqProofs only [c62, aW, ↓aP, makes, reduceLT, reduceEqDiff, reduceAdd, core_box, hb, List.length_nil, List.length_cons, fadr_ptr, c9, m0, hG]
    rfl
  | true =>
    rw [hg] at hG
    simp -implicitDefEqProofs only [c62, aW, ↓aP, makes, reduceLT, reduceEqDiff, reduceAdd, core_box, hb, List.length_nil, List.length_cons, fadr_ptr, c9, m0, m1, hG, hO]
    rfl
theorem cross_fn_call (f : FlatV) (n : Nat) (m : CrossV) (hl : m.ops.length ≤ 1000000) (id : Nat) : fnV cw mds (.fn (.func 62) [] [.ptr 1 0]) [.agg m.cs] (gH f n) id = some (.wr (litB (!crossOk f n m)) (gH f n)) :=
  (wr_same rfl (cross_tells f n m hl) (by simp) rfl rfl : callV cw mds 62 [.agg m.cs, .ptr 1 0] (gH f n) id = _)
def gX (f : FlatV) (n : Nat) (x : ContV) : List AO := [.row f.cs 29, .row (chkC f n) 106, .row [.fn (.func 59) [] [.ptr 1 0]] 109, .row x.cs 90]
theorem slope_tells (f : FlatV) (n : Nat) (x : ContV) (m : SlopeV) : cw 59 [.agg m.cs, .ptr 1 0] (gX f n x) = some (.ret (litB (!slopeOk n m)), gX f n x ++ [.row m.cs 92]) := by
  refine cw_of fn59 (c := c59) rfl rfl rfl rfl ?_
  have hb : ∀ id t, boxV id 2 (.agg m.cs) t = some (.val (.ptr id 0) (some (.row m.cs t))) := fun _ _ => boxV_agg rfl rfl
  have c9 : Ai.load [.row f.cs 29, .row (chkC f n) 106, .row [.fn (.func 59) [] [.ptr 1 0]] 109, .row x.cs 90, .row m.cs 92] (some 9) (.ptr 1 0) = some (.agg (chkC f n)) := rfl
  have m0 : Ai.load [.row f.cs 29, .row (chkC f n) 106, .row [.fn (.func 59) [] [.ptr 1 0]] 109, .row x.cs 90, .row m.cs 92] none (.ptr 4 0) = some (litI .i64 m.guard) := rfl
  have m1 : Ai.load [.row f.cs 29, .row (chkC f n) 106, .row [.fn (.func 59) [] [.ptr 1 0]] 109, .row x.cs 90, .row m.cs 92] none (.ptr 4 1) = some (litI .i64 m.var) := rfl
  have hV := vars1_call f n m.var
  have hG := guard_call f n m.guard
  unfold slopeOk gX
  cases ha : inN n m.var with
  | false =>
    rw [ha] at hV
    simp -implicitDefEqProofs only [c59, aW, ↓aP, makes, reduceLT, reduceEqDiff, reduceAdd, core_box, hb, List.length_nil, List.length_cons, fadr_ptr, c9, m1, hV, bsV_int]
    rfl
  | true =>
    rw [ha] at hV
    simp -implicitDefEqProofs only [c59, aW, ↓aP, makes, reduceLT, reduceEqDiff, reduceAdd, core_box, hb, List.length_nil, List.length_cons, fadr_ptr, c9, m1, m0, hV, hG, bsV_int]
    rfl
theorem slope_fn_call (f : FlatV) (n : Nat) (x : ContV) (m : SlopeV) (id : Nat) : fnV cw mds (.fn (.func 59) [] [.ptr 1 0]) [.agg m.cs] (gX f n x) id = some (.wr (litB (!slopeOk n m)) (gX f n x)) :=
  (wr_same rfl (slope_tells f n x m) (by simp) rfl rfl : callV cw mds 59 [.agg m.cs, .ptr 1 0] (gX f n x) id = _)
theorem any_not {α : Type} (p : α → Bool) (r : List α) : (r.any fun x => !p x) = !r.all p := by rw [← not_all_not p r, Bool.not_not]
theorem cont_tells (f : FlatV) (n : Nat) (m : ContV) (hl : m.resets.length ≤ 1000000) (hs : m.slopes.length ≤ 1000000) : cw 60 [.agg m.cs, .ptr 1 0, .ptr 2 0] (gH f n) = some (.ret (litB (!contOk n m)), gH f n ++ [.row m.cs 90]) := by
  refine cw_of fn60 (c := c60) rfl rfl rfl rfl ?_
  have hb : ∀ id t, boxV id 9 (.agg m.cs) t = some (.val (.ptr id 0) (some (.row m.cs t))) := fun _ _ => boxV_agg rfl rfl
  have c9 : Ai.load [.row f.cs 29, .row (chkC f n) 106, .row [.fn (.func 59) [] [.ptr 1 0]] 109, .row m.cs 90] (some 9) (.ptr 1 0) = some (.agg (chkC f n)) := rfl
  have m5 : Ai.load [.row f.cs 29, .row (chkC f n) 106, .row [.fn (.func 59) [] [.ptr 1 0]] 109, .row m.cs 90] none (.ptr 3 5) = some (litI .i64 m.var) := rfl
  have m6 : Ai.load [.row f.cs 29, .row (chkC f n) 106, .row [.fn (.func 59) [] [.ptr 1 0]] 109, .row m.cs 90] none (.ptr 3 6) = some (litI .i64 m.guard) := rfl
  have m7 : Ai.load [.row f.cs 29, .row (chkC f n) 106, .row [.fn (.func 59) [] [.ptr 1 0]] 109, .row m.cs 90] none (.ptr 3 7) = some (rowC m.resets none) := rfl
  have m8 : Ai.load [.row f.cs 29, .row (chkC f n) 106, .row [.fn (.func 59) [] [.ptr 1 0]] 109, .row m.cs 90] none (.ptr 3 8) = some (slopesA m.slopes) := rfl
  have m2 : Ai.load [.row f.cs 29, .row (chkC f n) 106, .row [.fn (.func 59) [] [.ptr 1 0]] 109, .row m.cs 90] none (.ptr 2 0) = some (.fn (.func 59) [] [.ptr 1 0]) := rfl
  have hV := vars1_call f n m.var
  have hG := guard_call f n m.guard
  have hR := vars_call f n m.resets none hl
  have hS := contains61_call m.slopes (fun s => !slopeOk n s) (.fn (.func 59) [] [.ptr 1 0]) (gX f n m) (fun s _ id => slope_fn_call f n m s id) rfl hs
  rw [any_not] at hS
  unfold gX at hS
  unfold contOk gH
  cases ha : inN n m.var with
  | false =>
    rw [ha] at hV
    simp -implicitDefEqProofs only [c60, aW, ↓aP, makes, reduceLT, reduceEqDiff, reduceAdd, core_box, hb, List.length_nil, List.length_cons, fadr_ptr, c9, m5, hV, bsV_int]
    rfl
  | true =>
    rw [ha] at hV
    cases hg : decide (m.guard < n) with
    | false =>
      rw [hg] at hG
      simp -implicitDefEqProofs only [c60, aW, ↓aP, makes, reduceLT, reduceEqDiff, reduceAdd, core_box, hb, List.length_nil, List.length_cons, fadr_ptr, c9, m5, m6, hV, hG, bsV_int]
      rfl
    | true =>
      rw [hg] at hG
      cases hr : within m.resets n with
      | false =>
        rw [hr] at hR
        simp -implicitDefEqProofs only [c60, aW, ↓aP, makes, reduceLT, reduceEqDiff, reduceAdd, core_box, hb, List.length_nil, List.length_cons, fadr_ptr, c9, m5, m6, m7, hV, hG, hR, bsV_int]
        rfl
      | true =>
        rw [hr] at hR
        simp -implicitDefEqProofs only [c60, aW, ↓aP, makes, reduceLT, reduceEqDiff, reduceAdd, core_box, hb, List.length_nil, List.length_cons, fadr_ptr, c9, m5, m6, m7, m8, m2, hV, hG, hR, hS, bsV_int]
        rfl
theorem cont_fn_call (f : FlatV) (n : Nat) (m : ContV) (hl : m.resets.length ≤ 1000000) (hs : m.slopes.length ≤ 1000000) (id : Nat) : fnV cw mds (.fn (.func 60) [] [.ptr 1 0, .ptr 2 0]) [.agg m.cs] (gH f n) id = some (.wr (litB (!contOk n m)) (gH f n)) :=
  (wr_same rfl (cont_tells f n m hl hs) (by simp) rfl rfl : callV cw mds 60 [.agg m.cs, .ptr 1 0, .ptr 2 0] (gH f n) id = _)
end
section
variable {call : CallF} {mt : MtF} {md : FuncId → Md}
def cellsB (T : List Bool) : List AV := T.map litB
def boolsC (T : List Bool) (c : Option Nat) : AV := .sl 1 (T.map fun b => [litB b]) c
theorem lenV_bools (r : List Bool) (c : Option Nat) : lenV (boolsC r c) = some (litI .i64 r.length) := by simp [boolsC, lenV]
theorem iadr_bools (r : List Bool) (c : Option Nat) (n : Nat) : iadr 1 (boolsC r c) (litI .i64 n) = (r[n]?).map fun x => .ip [litB x] := by
  rw [boolsC, iadr_sl]; simp [Function.comp_def]
theorem cellsB_whole (T : List Bool) : (cellsB T).all whole = true := by
  rw [List.all_eq_true]; intro a ha
  obtain ⟨b, _, rfl⟩ := List.mem_map.1 ha
  rfl
theorem indexb_loop (r : List Bool) (c : Option Nat) (v : Bool) (H : List AO) (hl : r.length ≤ 1000000) : ∀ (m n : Nat), m + n = r.length →
    loopW (codeW call mt md c92l0) [0, 1, 7, 8] [(0, boolsC r c), (1, litB v), (7, litI .i64 r.length), (8, litI .i64 n)] H =
      some (if findF (fun b => v == b) n (r.drop n) = -1 then (EX.exit 0, [(0, boolsC r c), (1, litB v), (7, litI .i64 r.length), (8, litI .i64 r.length), (9, litB false)], H) else (.ret, [(4, litI .i64 (findF (fun b => v == b) n (r.drop n)))], H))
  | 0, n, h => by
    have hn : n = r.length := by omega
    subst hn
    rw [if_pos (by simp [findF])]
    refine loopW_out ?_ (by simp)
    simp -implicitDefEqProofs only [c92l0, aW, ↓aP, makes, reduceLT, reduceEqDiff, reduceAdd, Int.lt_irrefl]
  | m + 1, n, h => by
    have hn : n < r.length := by omega
    have hg : r[n]? = some r[n] := List.getElem?_eq_getElem hn
    have hlt : (n : Int) < r.length := by omega
    have hd : r.drop n = r[n] :: r.drop (n + 1) := List.drop_eq_getElem_cons hn
    rw [hd, findF]
    cases hc : (v == r[n]) with
    | true =>
      rw [cond_true, if_neg (by omega)]
      refine loopW_out ?_ (by simp)
      simp -implicitDefEqProofs only [c92l0, aW, ↓aP, makes, reduceLT, reduceEqDiff, reduceAdd, iadr_bools, hg, hlt, hc]
    | false =>
      rw [cond_false]
      refine loopW_round ?_ (indexb_loop r c v H hl m (n + 1) (by omega))
      simp -implicitDefEqProofs only [c92l0, aW, ↓aP, makes, reduceLT, reduceEqDiff, reduceAdd, iadr_bools, hg, hlt, hc, wrap1 (show n < 4611686018427387904 by omega)]
theorem indexb_tells (r : List Bool) (c : Option Nat) (v : Bool) (hl : r.length ≤ 1000000) (H : List AO) : cw 92 [boolsC r c, litB v] H = some (.ret (litI .i64 (findF (fun b => v == b) 0 r)), H) := by
  refine cw_of fn92 (c := c92) rfl rfl rfl rfl ?_
  have L := indexb_loop (call := cw) (mt := lookM mtl) (md := mds) r c v H hl r.length 0 (by omega)
  rw [List.drop_zero, show ((0 : Nat) : Int) = 0 from rfl] at L
  by_cases ha : findF (fun b => v == b) 0 r = -1
  · rw [if_pos ha] at L
    rw [ha]
    simp -implicitDefEqProofs only [c92, aW, ↓aP, makes, reduceLT, reduceEqDiff, reduceAdd, lenV_bools, L]
    rfl
  · rw [if_neg ha] at L
    simp -implicitDefEqProofs only [c92, aW, ↓aP, makes, reduceLT, reduceEqDiff, reduceAdd, lenV_bools, L]
    rfl
theorem containsb_tells (r : List Bool) (c : Option Nat) (v : Bool) (hl : r.length ≤ 1000000) (H : List AO) : cw 86 [boolsC r c, litB v] H = some (.ret (litB (r.any fun b => v == b)), H) := by
  refine cw_of fn86 (c := c86) rfl rfl rfl rfl ?_
  have h : ∀ H id, callV cw mds 92 [boolsC r c, litB v] H id = some (.val (litI .i64 (findF (fun b => v == b) 0 r)) none) := fun H id => callV_pure rfl rfl (indexb_tells r c v hl []) rfl
  rw [← findF_any _ r 0]
  simp -implicitDefEqProofs only [c86, aW, ↓aP, makes, reduceLT, reduceEqDiff, reduceAdd, h]
  rfl
theorem containsb_own (T : List Bool) (n r : Nat) (c : Option Nat) (v : Bool) (H : List AO) (hT : T.length = n) (hl : n ≤ 1000000) (h : H[r]? = some (.row (cellsB T) 4)) (id : Nat) :
    callV cw mds 86 [.own r 0 n 1 c, litB v] H id = some (.val (litB (T.any fun b => v == b)) none) := by
  refine callV_flat (p := ([boolsC T c, litB v], [r])) rfl ?_ (containsb_tells T c v (by omega) [])
  have := frz_own (k := 14) (n := n) (cap := c) h (by simp [cellsB, hT]) (cellsB_whole T)
  rw [List.take_of_length_le (by simp [cellsB, hT])] at this
  have e : ((cellsB T).map fun a => [a]) = T.map fun b => [litB b] := by simp [cellsB, Function.comp_def]
  rw [e] at this
  simp only [mapL, show frzF = 14 + 2 from rfl, this, Option.bind_some]
  rfl
def stepOk (f : FlatV) (n : Nat) (T : List Bool) (q : Eqn) : Bool := inN n q.var && !(T.getD q.var.toNat false) && decide (q.guard < n) && within q.args n && eqOk f q
def eqsF (f : FlatV) (n : Nat) : List Bool → List Eqn → Option (List Bool)
  | T, [] => some T
  | T, q :: r => bif stepOk f n T q then eqsF f n (T.set q.var.toNat true) r else none
theorem eq_st (H : List AO) (o : Eqn) : storeAt (H ++ [AO.row [litI .i64 0, litS (bs []), .sl 0 [] (some 0), litI .i64 0, litI .i64 0, litB false, .sl 0 [] (some 0), .sl 0 [] (some 0), litS (bs []), litI .i64 0] 60]) 10 (.ptr H.length 0) (.agg o.cs) = some (H ++ [.row o.cs 60]) := by
  rw [storeAt_agg (n := 10) (xs := o.cs) (get_last H _) rfl rfl rfl, setL_last]
theorem eq_g0 (H : List AO) (o : Eqn) : Ai.load (H ++ [.row o.cs 60]) none (.ptr H.length 0) = some (litI .i64 o.var) := by rw [load_ptr (get_last H _)]; rfl
theorem eq_g2 (H : List AO) (o : Eqn) : Ai.load (H ++ [.row o.cs 60]) none (.ptr H.length 2) = some (rowC o.args none) := by rw [load_ptr (get_last H _)]; rfl
theorem eq_g9 (H : List AO) (o : Eqn) : Ai.load (H ++ [.row o.cs 60]) none (.ptr H.length 9) = some (litI .i64 o.guard) := by rw [load_ptr (get_last H _)]; rfl
theorem eq_gA (H : List AO) (o : Eqn) : Ai.load (H ++ [.row o.cs 60]) (some 10) (.ptr H.length 0) = some (.agg o.cs) := load_agg (get_last H _) rfl
theorem eqs_round (f : FlatV) (n i : Nat) (l : List Eqn) (q : Eqn) (T : List Bool) (hi : l[i]? = some q) (hlt : (i : Int) < l.length) (hn : i < 4611686018427387904) (hl : q.args.length ≤ 1000000)
    (H : List AO) (hH : H[0]? = some (.row (chkC f n) 106)) (h1 : H[1]? = some (.row (cellsB T) 4)) (hT : T.length = n) :
    codeW cw (lookM mtl) mds c67l0 [(1, .ptr 0 0), (3, .own 1 0 n 1 (some n)), (11, eqsA l), (12, litI .i64 l.length), (13, litI .i64 i)] H =
      some (bif stepOk f n T q then (.normal, [(1, .ptr 0 0), (3, .own 1 0 n 1 (some n)), (11, eqsA l), (12, litI .i64 l.length), (13, litI .i64 ((i + 1 : Nat) : Int))], setL (H ++ [.row q.cs 60]) 1 (.row (cellsB (T.set q.var.toNat true)) 4))
        else (.ret, [(2, litB false)], H ++ [.row q.cs 60])) := by
  have hV := vars1_call f n q.var
  have hG := guard_call f n q.guard
  have hR := vars_call f n q.args none hl
  have hE := eq_call f n q
  have hA := load_ipA (H := H) (show (Eqn.cs q).length = 10 from rfl)
  have c9 := op_c9 hH (.row q.cs 60)
  cases a1 : inN n q.var with
  | false =>
    rw [a1] at hV
    rw [show stepOk f n T q = false by simp only [stepOk, a1, Bool.false_and], cond_false]
    simp -implicitDefEqProofs only [c67l0, aW, ↓aP, makes, reduceLT, reduceEqDiff, reduceAdd, iadr_eqs, hi, hlt, hA, eq_st, eq_g0, c9, fadr_ptr, hV, bsV_int]
  | true =>
  rw [a1] at hV
  obtain ⟨v, hv, hvn⟩ : ∃ v : Nat, q.var = v ∧ v < n := by
    simp only [inN, Bool.and_eq_true, decide_eq_true_eq] at a1
    exact ⟨q.var.toNat, by omega, by omega⟩
  have ia : iadr 1 (.own 1 0 n 1 (some n)) (litI .i64 q.var) = some (.ptr 1 v) := by
    rw [hv, iadr_own, if_pos (by omega)]; simp
  have ht : Ai.load (H ++ [.row q.cs 60]) none (.ptr 1 v) = some (litB (T.getD v false)) := by
    rw [load_ptr (getH_app h1), cellsB, List.getElem?_map, List.getElem?_eq_getElem (by omega), Option.map_some, List.getD_eq_getElem?_getD, List.getElem?_eq_getElem (by omega)]; rfl
  have hst : storeAt (H ++ [.row q.cs 60]) 1 (.ptr 1 v) (litB true) = some (setL (H ++ [.row q.cs 60]) 1 (.row (cellsB (T.set v true)) 4)) := by
    rw [store_ptr (getH_app h1) (by simp [cellsB]; omega) rfl rfl, cellsB, cellsB, List.map_set]
  have hvt : q.var.toNat = v := by omega
  cases a2 : T.getD v false with
  | true =>
    rw [a2] at ht
    rw [show stepOk f n T q = false by simp only [stepOk, a1, hvt, a2, Bool.not_true, Bool.and_false, Bool.false_and], cond_false]
    simp -implicitDefEqProofs only [c67l0, aW, ↓aP, makes, reduceLT, reduceEqDiff, reduceAdd, iadr_eqs, hi, hlt, hA, eq_st, eq_g0, c9, fadr_ptr, hV, bsV_int, ia, ht]
  | false =>
  rw [a2] at ht
  cases a3 : decide (q.guard < n) with
  | false =>
    rw [a3] at hG
    rw [show stepOk f n T q = false by simp only [stepOk, a3, Bool.and_false, Bool.false_and], cond_false]
    simp -implicitDefEqProofs only [c67l0, aW, ↓aP, makes, reduceLT, reduceEqDiff, reduceAdd, iadr_eqs, hi, hlt, hA, eq_st, eq_g0, eq_g9, c9, fadr_ptr, hV, bsV_int, ia, ht, hG]
  | true =>
  rw [a3] at hG
  cases a4 : within q.args n with
  | false =>
    rw [a4] at hR
    rw [show stepOk f n T q = false by simp only [stepOk, a4, Bool.and_false, Bool.false_and], cond_false]
    simp -implicitDefEqProofs only [c67l0, aW, ↓aP, makes, reduceLT, reduceEqDiff, reduceAdd, iadr_eqs, hi, hlt, hA, eq_st, eq_g0, eq_g2, eq_g9, c9, fadr_ptr, hV, bsV_int, ia, ht, hG, hR]
  | true =>
  rw [a4] at hR
  cases a5 : eqOk f q with
  | false =>
    rw [a5] at hE
    rw [show stepOk f n T q = false by simp only [stepOk, a5, Bool.and_false], cond_false]
    simp -implicitDefEqProofs only [c67l0, aW, ↓aP, makes, reduceLT, reduceEqDiff, reduceAdd, iadr_eqs, hi, hlt, hA, eq_st, eq_g0, eq_g2, eq_g9, eq_gA, c9, fadr_ptr, hV, bsV_int, ia, ht, hG, hR, hE]
  | true =>
  rw [a5] at hE
  rw [show stepOk f n T q = true by simp only [stepOk, a1, hvt, a2, a3, a4, a5, Bool.not_false, Bool.and_self], cond_true, hvt]
  simp -implicitDefEqProofs only [c67l0, aW, ↓aP, makes, reduceLT, reduceEqDiff, reduceAdd, iadr_eqs, hi, hlt, hA, eq_st, eq_g0, eq_g2, eq_g9, eq_gA, c9, fadr_ptr, hV, bsV_int, ia, ht, hG, hR, hE, hst, wrap1 hn]
end
section
theorem eqs_loop (f : FlatV) (n : Nat) (l : List Eqn) (hl : l.length ≤ 1000000) (ha : ∀ q ∈ l, q.args.length ≤ 1000000) : ∀ (m i : Nat) (T : List Bool) (H : List AO), m + i = l.length →
    H[0]? = some (.row (chkC f n) 106) → H[1]? = some (.row (cellsB T) 4) → T.length = n →
    (∀ T', eqsF f n T (l.drop i) = some T' → ∃ H', loopW (codeW cw (lookM mtl) mds c67l0) [1, 3, 11, 12, 13] [(1, .ptr 0 0), (3, .own 1 0 n 1 (some n)), (11, eqsA l), (12, litI .i64 l.length), (13, litI .i64 i)] H =
      some (EX.exit 0, [(1, .ptr 0 0), (3, .own 1 0 n 1 (some n)), (11, eqsA l), (12, litI .i64 l.length), (13, litI .i64 l.length), (14, litB false)], H') ∧ H'[1]? = some (.row (cellsB T') 4) ∧ T'.length = n) ∧
    (eqsF f n T (l.drop i) = none → ∃ H', loopW (codeW cw (lookM mtl) mds c67l0) [1, 3, 11, 12, 13] [(1, .ptr 0 0), (3, .own 1 0 n 1 (some n)), (11, eqsA l), (12, litI .i64 l.length), (13, litI .i64 i)] H = some (.ret, [(2, litB false)], H'))
  | 0, i, T, H, h, h0, h1, hT => by
    have hn : i = l.length := by omega
    subst hn
    rw [List.drop_length, eqsF]
    refine ⟨fun T' e => ⟨H, ?_, ?_, ?_⟩, fun e => by cases e⟩
    · refine loopW_out ?_ (by simp)
      simp -implicitDefEqProofs only [c67l0, aW, ↓aP, makes, reduceLT, reduceEqDiff, reduceAdd, Int.lt_irrefl]
    · simp only [sI] at e; rw [← e]; exact h1
    · simp only [sI] at e; rw [← e]; exact hT
  | m + 1, i, T, H, h, h0, h1, hT => by
    have hn : i < l.length := by omega
    have hg : l[i]? = some l[i] := List.getElem?_eq_getElem hn
    have hlt : (i : Int) < l.length := by omega
    have R := eqs_round f n i l l[i] T hg hlt (by omega) (ha _ (List.getElem_mem hn)) H h0 h1 hT
    rw [List.drop_eq_getElem_cons hn, eqsF]
    cases ho : stepOk f n T l[i] with
    | true =>
      rw [ho, cond_true] at R
      rw [cond_true]
      have k0 : (setL (H ++ [.row (Eqn.cs l[i]) 60]) 1 (.row (cellsB (T.set l[i].var.toNat true)) 4))[0]? = some (.row (chkC f n) 106) := by
        rw [getH_set_ne (by omega)]; exact getH_app h0
      have k1 : (setL (H ++ [.row (Eqn.cs l[i]) 60]) 1 (.row (cellsB (T.set l[i].var.toNat true)) 4))[1]? = some (.row (cellsB (T.set l[i].var.toNat true)) 4) := by
        unfold setL
        have := (List.getElem?_eq_some_iff.1 h1).1
        rw [List.getElem?_set_self (by simp; omega)]
      obtain ⟨A, B⟩ := eqs_loop f n l hl ha m (i + 1) _ _ (by omega) k0 k1 (by simp [hT])
      refine ⟨fun T' e => ?_, fun e => ?_⟩
      · obtain ⟨H', L, x, y⟩ := A T' e
        refine ⟨H', loopW_round ?_ L, x, y⟩
        simp -implicitDefEqProofs only [aW, ↓aP, makes, reduceLT, reduceEqDiff, reduceAdd, R]
      · obtain ⟨H', L⟩ := B e
        refine ⟨H', loopW_round ?_ L⟩
        simp -implicitDefEqProofs only [aW, ↓aP, makes, reduceLT, reduceEqDiff, reduceAdd, R]
    | false =>
      rw [ho, cond_false] at R
      rw [cond_false]
      refine ⟨fun T' e => (by cases e), fun e => ⟨H ++ [.row (Eqn.cs l[i]) 60], loopW_out ?_ (by simp)⟩⟩
      simp -implicitDefEqProofs only [aW, ↓aP, makes, reduceLT, reduceEqDiff, reduceAdd, R]
def eqsOk (f : FlatV) (n : Nat) : Bool := match eqsF f n (List.replicate n false) f.eqs with
  | some T => !(T.any fun b => false == b)
  | none => false
theorem eqs_tells (f : FlatV) (n : Nat) (hn : n ≤ 1000000) (hl : f.eqs.length ≤ 1000000) (ha : ∀ q ∈ f.eqs, q.args.length ≤ 1000000) : ∃ H', cw 67 [.agg (chkC f n)] [] = some (.ret (litB (eqsOk f n)), H') := by
  have hm : ∀ id, mksV id 1 1 [litB false] 4 (litI .i64 n) (litI .i64 n) = some (.val (.own id 0 n 1 (some n)) (some (.row (cellsB (List.replicate n false)) 4))) := fun id => by
    rw [mksV_ok (by omega) (by omega), reps_one, cellsB, List.map_replicate]
  have l8 : Ai.load [.row (chkC f n) 106] none (.ptr 0 8) = some (litI .i64 n) := rfl
  have l3 : Ai.load [.row (chkC f n) 106, .row (cellsB (List.replicate n false)) 4] none (.ptr 0 3) = some (eqsA f.eqs) := rfl
  obtain ⟨A, B⟩ := eqs_loop f n f.eqs hl ha f.eqs.length 0 (List.replicate n false) [.row (chkC f n) 106, .row (cellsB (List.replicate n false)) 4] (by omega) rfl rfl (by simp)
  rw [List.drop_zero, show ((0 : Nat) : Int) = 0 from rfl] at A B
  unfold eqsOk
  cases e : eqsF f n (List.replicate n false) f.eqs with
  | some T =>
    obtain ⟨H', L, x, y⟩ := A T e
    have hc := containsb_own T n 1 (some n) false H' y hn x
    refine ⟨H', cw_of fn67 (c := c67) rfl rfl rfl rfl ?_⟩
    simp only
    simp -implicitDefEqProofs only [c67, aW, ↓aP, makes, reduceLT, reduceEqDiff, reduceAdd, core_box, eq_b9 f n, List.length_nil, List.length_cons, fadr_ptr, Nat.add_zero, l8, hm, l3, lenV_eqs, L, hc]
    rfl
  | none =>
    obtain ⟨H', L⟩ := B e
    refine ⟨H', cw_of fn67 (c := c67) rfl rfl rfl rfl ?_⟩
    simp only
    simp -implicitDefEqProofs only [c67, aW, ↓aP, makes, reduceLT, reduceEqDiff, reduceAdd, core_box, eq_b9 f n, List.length_nil, List.length_cons, fadr_ptr, Nat.add_zero, l8, hm, l3, lenV_eqs, L]
    rfl
theorem eqs_call (f : FlatV) (n : Nat) (hn : n ≤ 1000000) (hl : f.eqs.length ≤ 1000000) (ha : ∀ q ∈ f.eqs, q.args.length ≤ 1000000) (H : List AO) (id : Nat) : callV cw mds 67 [.agg (chkC f n)] H id = some (.val (litB (eqsOk f n)) none) := by
  obtain ⟨H', h⟩ := eqs_tells f n hn hl ha
  exact callV_pureA rfl rfl h rfl
end
section
variable {call : CallF} {mt : MtF} {md : FuncId → Md}
def buildV (z : List AV) (ps : List (Nat × Nat × AV)) : Option Out := (fill z ps).bind fun cs => some (.val (.agg cs) none)
theorem core_build {H : List AO} {id : Nat} {fr : Fr} (z : List AV) (ps : List (Nat × Nat × X)) : core call mt md H id (.build z ps) fr = buildV z (ps.map fun p => (p.1, p.2.1, ev fr p.2.2)) := rfl
theorem flat_f (f : FlatV) (id : Nat) (t : TypeId) : boxV id 8 (flatA f) t = some (.val (.ptr id 0) (some (.row f.cs t))) := boxV_agg rfl rfl
structure FitsF (f : FlatV) : Prop where
  mems : f.mems.length ≤ 1000000
  conts : f.conts.length ≤ 1000000
  cross : f.cross.length ≤ 1000000
  eqs : f.eqs.length ≤ 1000000
  names : f.names.length ≤ 1000000
  outs : f.outs.length ≤ 1000000
  again : f.again.length ≤ 1000000
  args : ∀ q ∈ f.eqs, q.args.length ≤ 1000000
  mres : ∀ m ∈ f.mems, m.resets.length ≤ 1000000
  cres : ∀ m ∈ f.conts, m.resets.length ≤ 1000000
  slopes : ∀ m ∈ f.conts, m.slopes.length ≤ 1000000
  ops : ∀ m ∈ f.cross, m.ops.length ≤ 1000000
def nV (f : FlatV) : Nat := f.names.length
def goodOk (f : FlatV) : Bool := f.mems.all (memOk (nV f)) && f.conts.all (contOk (nV f)) && f.cross.all (crossOk f (nV f)) && ((f.eqs.length : Int) == (nV f : Int)) && eqsOk f (nV f) && within f.outs (nV f) && within f.again (nV f)
theorem good_tells (f : FlatV) (F : FitsF f) : ∃ H', cw 37 [flatA f] [] = some (.ret (litB (goodOk f)), H') := by
  refine ⟨gH f (nV f), cw_of fn37 (c := c37) rfl rfl rfl rfl ?_⟩
  have lA : Ai.load [.row f.cs 29] (some 8) (.ptr 0 0) = some (.agg f.cs) := load_agg rfl rfl
  have l1 : Ai.load [.row f.cs 29] none (.ptr 0 1) = some (strs f.names) := rfl
  have hbu : buildV [.sl 0 [] (some 0), .sl 0 [] (some 0), .sl 0 [] (some 0), .sl 0 [] (some 0), .sl 0 [] (some 0), .sl 0 [] (some 0), .sl 0 [] (some 0), .sl 0 [] (some 0), litI .i64 0] [(0, 8, .agg f.cs), (8, 1, litI .i64 f.names.length)] = some (.val (.agg (chkC f (nV f))) none) := rfl
  have s9 : storeAt [.row f.cs 29, .row [.sl 0 [] (some 0), .sl 0 [] (some 0), .sl 0 [] (some 0), .sl 0 [] (some 0), .sl 0 [] (some 0), .sl 0 [] (some 0), .sl 0 [] (some 0), .sl 0 [] (some 0), litI .i64 0] 106] 9 (.ptr 1 0) (.agg (chkC f (nV f))) = some [.row f.cs 29, .row (chkC f (nV f)) 106] := by
    rw [storeAt_agg (n := 9) (xs := chkC f (nV f)) (t := 106) rfl rfl rfl rfl]; rfl
  have s1 : storeAt [.row f.cs 29, .row (chkC f (nV f)) 106, .row [.lit .nilFunc] 109] 1 (.ptr 2 0) (.fn (.func 59) [] [.ptr 1 0]) = some [.row f.cs 29, .row (chkC f (nV f)) 106, .row [.fn (.func 59) [] [.ptr 1 0]] 109] := rfl
  have g4 : Ai.load [.row f.cs 29, .row (chkC f (nV f)) 106, .row [.fn (.func 59) [] [.ptr 1 0]] 109] none (.ptr 0 4) = some (memsA f.mems) := rfl
  have g5 : Ai.load [.row f.cs 29, .row (chkC f (nV f)) 106, .row [.fn (.func 59) [] [.ptr 1 0]] 109] none (.ptr 0 5) = some (contsA f.conts) := rfl
  have g6 : Ai.load [.row f.cs 29, .row (chkC f (nV f)) 106, .row [.fn (.func 59) [] [.ptr 1 0]] 109] none (.ptr 0 6) = some (crossA f.cross) := rfl
  have g3 : Ai.load [.row f.cs 29, .row (chkC f (nV f)) 106, .row [.fn (.func 59) [] [.ptr 1 0]] 109] none (.ptr 0 3) = some (eqsA f.eqs) := rfl
  have g2 : Ai.load [.row f.cs 29, .row (chkC f (nV f)) 106, .row [.fn (.func 59) [] [.ptr 1 0]] 109] none (.ptr 0 2) = some (rowC f.outs none) := rfl
  have g7 : Ai.load [.row f.cs 29, .row (chkC f (nV f)) 106, .row [.fn (.func 59) [] [.ptr 1 0]] 109] none (.ptr 0 7) = some (rowC f.again none) := rfl
  have h8 : Ai.load [.row f.cs 29, .row (chkC f (nV f)) 106, .row [.fn (.func 59) [] [.ptr 1 0]] 109] none (.ptr 1 8) = some (litI .i64 (nV f)) := rfl
  have hC : Ai.load [.row f.cs 29, .row (chkC f (nV f)) 106, .row [.fn (.func 59) [] [.ptr 1 0]] 109] (some 9) (.ptr 1 0) = some (.agg (chkC f (nV f))) := load_agg rfl rfl
  have cM := contains64_call f.mems (fun m => !memOk (nV f) m) (.fn (.func 56) [] [.ptr 1 0]) (gH f (nV f)) (fun m h id => mem_fn_call f (nV f) m (F.mres m h) id) rfl F.mems
  have cK := contains65_call f.conts (fun m => !contOk (nV f) m) (.fn (.func 60) [] [.ptr 1 0, .ptr 2 0]) (gH f (nV f)) (fun m h id => cont_fn_call f (nV f) m (F.cres m h) (F.slopes m h) id) rfl F.conts
  have cX := contains66_call f.cross (fun m => !crossOk f (nV f) m) (.fn (.func 62) [] [.ptr 1 0]) (gH f (nV f)) (fun m h id => cross_fn_call f (nV f) m (F.ops m h) id) rfl F.cross
  have hE := eqs_call f (nV f) F.names F.eqs F.args
  have hO := vars_call f (nV f) f.outs none F.outs
  have hA := vars_call f (nV f) f.again none F.again
  rw [any_not] at cM cK cX
  unfold gH at cM cK cX ⊢
  unfold goodOk
  cases a1 : f.mems.all (memOk (nV f)) with
  | false =>
    rw [a1] at cM
    simp -implicitDefEqProofs only [c37, aW, ↓aP, makes, reduceLT, reduceEqDiff, reduceAdd, core_box, flat_f, core_build, core_mkf, List.length_nil, List.length_cons, fadr_ptr, Nat.add_zero, lA, l1, lenV_strs, hbu, s9, s1, g4, cM]
    rfl
  | true =>
  rw [a1] at cM
  cases a2 : f.conts.all (contOk (nV f)) with
  | false =>
    rw [a2] at cK
    simp -implicitDefEqProofs only [c37, aW, ↓aP, makes, reduceLT, reduceEqDiff, reduceAdd, core_box, flat_f, core_build, core_mkf, List.length_nil, List.length_cons, fadr_ptr, Nat.add_zero, lA, l1, lenV_strs, hbu, s9, s1, g4, g5, cM, cK]
    rfl
  | true =>
  rw [a2] at cK
  cases a3 : f.cross.all (crossOk f (nV f)) with
  | false =>
    rw [a3] at cX
    simp -implicitDefEqProofs only [c37, aW, ↓aP, makes, reduceLT, reduceEqDiff, reduceAdd, core_box, flat_f, core_build, core_mkf, List.length_nil, List.length_cons, fadr_ptr, Nat.add_zero, lA, l1, lenV_strs, hbu, s9, s1, g4, g5, g6, cM, cK, cX]
    rfl
  | true =>
  rw [a3] at cX
  cases a4 : ((f.eqs.length : Int) == (nV f : Int)) with
  | false =>
    simp -implicitDefEqProofs only [c37, aW, ↓aP, makes, reduceLT, reduceEqDiff, reduceAdd, core_box, flat_f, core_build, core_mkf, List.length_nil, List.length_cons, fadr_ptr, Nat.add_zero, lA, l1, lenV_strs, hbu, s9, s1, g4, g5, g6, g3, h8, cM, cK, cX, lenV_eqs, a4]
    rfl
  | true =>
  cases a5 : eqsOk f (nV f) with
  | false =>
    rw [a5] at hE
    simp -implicitDefEqProofs only [c37, aW, ↓aP, makes, reduceLT, reduceEqDiff, reduceAdd, core_box, flat_f, core_build, core_mkf, List.length_nil, List.length_cons, fadr_ptr, Nat.add_zero, lA, l1, lenV_strs, hbu, s9, s1, g4, g5, g6, g3, h8, cM, cK, cX, lenV_eqs, a4, hC, hE]
    rfl
  | true =>
  rw [a5] at hE
  cases a6 : within f.outs (nV f) with
  | false =>
    rw [a6] at hO
    simp -implicitDefEqProofs only [c37, aW, ↓aP, makes, reduceLT, reduceEqDiff, reduceAdd, core_box, flat_f, core_build, core_mkf, List.length_nil, List.length_cons, fadr_ptr, Nat.add_zero, lA, l1, lenV_strs, hbu, s9, s1, g4, g5, g6, g3, g2, h8, cM, cK, cX, lenV_eqs, a4, hC, hE, hO]
    rfl
  | true =>
  rw [a6] at hO
  simp -implicitDefEqProofs only [c37, aW, ↓aP, makes, reduceLT, reduceEqDiff, reduceAdd, core_box, flat_f, core_build, core_mkf, List.length_nil, List.length_cons, fadr_ptr, Nat.add_zero, lA, l1, lenV_strs, hbu, s9, s1, g4, g5, g6, g3, g2, g7, h8, cM, cK, cX, lenV_eqs, a4, hC, hE, hO, hA]
  rfl
theorem good_call (f : FlatV) (F : FitsF f) (H : List AO) (id : Nat) : callV cw mds 37 [flatA f] H id = some (.val (litB (goodOk f)) none) := by
  obtain ⟨H', h⟩ := good_tells f F
  exact callV_pureA rfl rfl h rfl
end
section
def rstepOk (f : FlatV) (n : Nat) (T : List Bool) (q : Eqn) : Bool := inN n q.var && !(T.getD q.var.toNat false) && decide (q.guard < n) && within q.args n && rightOk f q
def reqsF (f : FlatV) (n : Nat) : List Bool → List Eqn → Option (List Bool)
  | T, [] => some T
  | T, q :: r => bif rstepOk f n T q then reqsF f n (T.set q.var.toNat true) r else none
theorem rg_e {H : List AO} {f : FlatV} (h : H[0]? = some (.row f.cs 29)) : Ai.load H none (.ptr 0 3) = some (eqsA f.eqs) := by rw [load_ptr h]; rfl
theorem rg_f {H : List AO} {f : FlatV} (h : H[0]? = some (.row f.cs 29)) (x : AO) : Ai.load (H ++ [x]) (some 8) (.ptr 0 0) = some (.agg f.cs) := load_agg (get_app0 h x) rfl
theorem req_round (f : FlatV) (n i : Nat) (q : Eqn) (T : List Bool) (hF : Fits f) (hi : f.eqs[i]? = some q) (hlt : (i : Int) < n) (hn : i < 4611686018427387904) (hl : q.args.length ≤ 1000000)
    (H : List AO) (hH : H[0]? = some (.row f.cs 29)) (h1 : H[1]? = some (.row (cellsB T) 4)) (hT : T.length = n) :
    codeW cw (lookM mtl) mds c25l0 [(1, .ptr 0 0), (3, litI .i64 n), (4, .own 1 0 n 1 (some n)), (5, litI .i64 i)] H =
      some (bif rstepOk f n T q then (.normal, [(1, .ptr 0 0), (3, litI .i64 n), (4, .own 1 0 n 1 (some n)), (5, litI .i64 ((i + 1 : Nat) : Int))], setL (H ++ [.row q.cs 60]) 1 (.row (cellsB (T.set q.var.toNat true)) 4))
        else (.ret, [(2, litB false)], H ++ [.row q.cs 60])) := by
  have hR := within_call q.args none n hl
  have hE := right_call f q hF
  have hA := load_ipA (H := H) (show (Eqn.cs q).length = 10 from rfl)
  have ce := rg_e hH
  have cf := rg_f hH (.row q.cs 60)
  by_cases b0 : q.var < 0
  · rw [show rstepOk f n T q = false by simp only [rstepOk, show inN n q.var = false by simp [inN]; omega, Bool.false_and], cond_false]
    simp -implicitDefEqProofs only [c25l0, aW, ↓aP, makes, reduceLT, reduceEqDiff, reduceAdd, iadr_eqs, hi, hlt, hA, ce, eq_st, eq_g0, fadr_ptr, b0]
  by_cases b1 : q.var ≥ (n : Int)
  · rw [show rstepOk f n T q = false by simp only [rstepOk, show inN n q.var = false by simp [inN]; omega, Bool.false_and], cond_false]
    simp -implicitDefEqProofs only [c25l0, aW, ↓aP, makes, reduceLT, reduceEqDiff, reduceAdd, iadr_eqs, hi, hlt, hA, ce, eq_st, eq_g0, fadr_ptr, b0, b1]
  have a1 : inN n q.var = true := by simp [inN]; omega
  obtain ⟨v, hv, hvn⟩ : ∃ v : Nat, q.var = v ∧ v < n := ⟨q.var.toNat, by omega, by omega⟩
  have ia : iadr 1 (.own 1 0 n 1 (some n)) (litI .i64 q.var) = some (.ptr 1 v) := by
    rw [hv, iadr_own, if_pos (by omega)]; simp
  have ht : Ai.load (H ++ [.row q.cs 60]) none (.ptr 1 v) = some (litB (T.getD v false)) := by
    rw [load_ptr (getH_app h1), cellsB, List.getElem?_map, List.getElem?_eq_getElem (by omega), Option.map_some, List.getD_eq_getElem?_getD, List.getElem?_eq_getElem (by omega)]; rfl
  have hst : storeAt (H ++ [.row q.cs 60]) 1 (.ptr 1 v) (litB true) = some (setL (H ++ [.row q.cs 60]) 1 (.row (cellsB (T.set v true)) 4)) := by
    rw [store_ptr (getH_app h1) (by simp [cellsB]; omega) rfl rfl, cellsB, cellsB, List.map_set]
  have hvt : q.var.toNat = v := by omega
  cases a2 : T.getD v false with
  | true =>
    rw [a2] at ht
    rw [show rstepOk f n T q = false by simp only [rstepOk, a1, hvt, a2, Bool.not_true, Bool.and_false, Bool.false_and], cond_false]
    simp -implicitDefEqProofs only [c25l0, aW, ↓aP, makes, reduceLT, reduceEqDiff, reduceAdd, iadr_eqs, hi, hlt, hA, ce, eq_st, eq_g0, fadr_ptr, b0, b1, ia, ht]
  | false =>
  rw [a2] at ht
  by_cases b3 : q.guard ≥ (n : Int)
  · rw [show rstepOk f n T q = false by simp only [rstepOk, show decide (q.guard < n) = false by simp; omega, Bool.and_false, Bool.false_and], cond_false]
    simp -implicitDefEqProofs only [c25l0, aW, ↓aP, makes, reduceLT, reduceEqDiff, reduceAdd, iadr_eqs, hi, hlt, hA, ce, eq_st, eq_g0, eq_g9, fadr_ptr, b0, b1, ia, ht, b3]
  have a3 : decide (q.guard < n) = true := by simp; omega
  cases a4 : within q.args n with
  | false =>
    rw [a4] at hR
    rw [show rstepOk f n T q = false by simp only [rstepOk, a4, Bool.and_false, Bool.false_and], cond_false]
    simp -implicitDefEqProofs only [c25l0, aW, ↓aP, makes, reduceLT, reduceEqDiff, reduceAdd, iadr_eqs, hi, hlt, hA, ce, eq_st, eq_g0, eq_g2, eq_g9, fadr_ptr, b0, b1, ia, ht, b3, hR]
  | true =>
  rw [a4] at hR
  cases a5 : rightOk f q with
  | false =>
    rw [a5] at hE
    rw [show rstepOk f n T q = false by simp only [rstepOk, a5, Bool.and_false], cond_false]
    simp -implicitDefEqProofs only [c25l0, aW, ↓aP, makes, reduceLT, reduceEqDiff, reduceAdd, iadr_eqs, hi, hlt, hA, ce, cf, eq_st, eq_g0, eq_g2, eq_g9, eq_gA, fadr_ptr, b0, b1, ia, ht, b3, hR, hE]
  | true =>
  rw [a5] at hE
  rw [show rstepOk f n T q = true by simp only [rstepOk, a1, hvt, a2, a3, a4, a5, Bool.not_false, Bool.and_self], cond_true, hvt]
  simp -implicitDefEqProofs only [c25l0, aW, ↓aP, makes, reduceLT, reduceEqDiff, reduceAdd, iadr_eqs, hi, hlt, hA, ce, cf, eq_st, eq_g0, eq_g2, eq_g9, eq_gA, fadr_ptr, b0, b1, ia, ht, b3, hR, hE, hst, wrap1 hn]
end
section
theorem req_loop (f : FlatV) (n : Nat) (hF : Fits f) (hn1 : n ≤ 1000000) (hl : f.eqs.length = n) (ha : ∀ q ∈ f.eqs, q.args.length ≤ 1000000) : ∀ (m i : Nat) (T : List Bool) (H : List AO), m + i = n →
    H[0]? = some (.row f.cs 29) → H[1]? = some (.row (cellsB T) 4) → T.length = n →
    (∀ T', reqsF f n T (f.eqs.drop i) = some T' → ∃ H', loopW (codeW cw (lookM mtl) mds c25l0) [1, 3, 4, 5] [(1, .ptr 0 0), (3, litI .i64 n), (4, .own 1 0 n 1 (some n)), (5, litI .i64 i)] H =
      some (EX.exit 0, [(1, .ptr 0 0), (3, litI .i64 n), (4, .own 1 0 n 1 (some n)), (5, litI .i64 n), (25, litB false)], H') ∧ H'[0]? = some (.row f.cs 29)) ∧
    (reqsF f n T (f.eqs.drop i) = none → ∃ H', loopW (codeW cw (lookM mtl) mds c25l0) [1, 3, 4, 5] [(1, .ptr 0 0), (3, litI .i64 n), (4, .own 1 0 n 1 (some n)), (5, litI .i64 i)] H = some (.ret, [(2, litB false)], H'))
  | 0, i, T, H, h, h0, h1, hT => by
    have hn : i = n := by omega
    subst hn
    rw [List.drop_of_length_le (by omega), reqsF]
    refine ⟨fun T' e => ⟨H, ?_, h0⟩, fun e => by cases e⟩
    refine loopW_out ?_ (by simp)
    simp -implicitDefEqProofs only [c25l0, aW, ↓aP, makes, reduceLT, reduceEqDiff, reduceAdd, Int.lt_irrefl]
  | m + 1, i, T, H, h, h0, h1, hT => by
    have hn : i < f.eqs.length := by omega
    have hg : f.eqs[i]? = some f.eqs[i] := List.getElem?_eq_getElem hn
    have R := req_round f n i f.eqs[i] T hF hg (by omega) (by omega) (ha _ (List.getElem_mem hn)) H h0 h1 hT
    rw [List.drop_eq_getElem_cons hn, reqsF]
    cases ho : rstepOk f n T f.eqs[i] with
    | true =>
      rw [ho, cond_true] at R
      rw [cond_true]
      have k0 : (setL (H ++ [.row (Eqn.cs f.eqs[i]) 60]) 1 (.row (cellsB (T.set f.eqs[i].var.toNat true)) 4))[0]? = some (.row f.cs 29) := by
        rw [getH_set_ne (by omega)]; exact getH_app h0
      have k1 : (setL (H ++ [.row (Eqn.cs f.eqs[i]) 60]) 1 (.row (cellsB (T.set f.eqs[i].var.toNat true)) 4))[1]? = some (.row (cellsB (T.set f.eqs[i].var.toNat true)) 4) := by
        unfold setL
        have := (List.getElem?_eq_some_iff.1 h1).1
        rw [List.getElem?_set_self (by simp; omega)]
      obtain ⟨A, B⟩ := req_loop f n hF hn1 hl ha m (i + 1) _ _ (by omega) k0 k1 (by simp [hT])
      refine ⟨fun T' e => ?_, fun e => ?_⟩
      · obtain ⟨H', L, x⟩ := A T' e
        refine ⟨H', loopW_round ?_ L, x⟩
        simp -implicitDefEqProofs only [aW, ↓aP, makes, reduceLT, reduceEqDiff, reduceAdd, R]
      · obtain ⟨H', L⟩ := B e
        refine ⟨H', loopW_round ?_ L⟩
        simp -implicitDefEqProofs only [aW, ↓aP, makes, reduceLT, reduceEqDiff, reduceAdd, R]
    | false =>
      rw [ho, cond_false] at R
      rw [cond_false]
      refine ⟨fun T' e => (by cases e), fun e => ⟨H ++ [.row (Eqn.cs f.eqs[i]) 60], loopW_out ?_ (by simp)⟩⟩
      simp -implicitDefEqProofs only [aW, ↓aP, makes, reduceLT, reduceEqDiff, reduceAdd, R]
theorem rm_st (H : List AO) (o : MemV) : storeAt (H ++ [AO.row [litI .i64 0, litB false, .sl 0 [] (some 0), .sl 0 [] (some 0), litS (bs []), litI .i64 0, litI .i64 0, .sl 0 [] (some 0)] 87]) 8 (.ptr H.length 0) (.agg o.cs) = some (H ++ [.row o.cs 87]) := by
  rw [storeAt_agg (n := 8) (xs := o.cs) (get_last H _) rfl rfl rfl, setL_last]
theorem rm_5 (H : List AO) (o : MemV) : Ai.load (H ++ [.row o.cs 87]) none (.ptr H.length 5) = some (litI .i64 o.next) := by rw [load_ptr (get_last H _)]; rfl
theorem rm_6 (H : List AO) (o : MemV) : Ai.load (H ++ [.row o.cs 87]) none (.ptr H.length 6) = some (litI .i64 o.guard) := by rw [load_ptr (get_last H _)]; rfl
theorem rm_7 (H : List AO) (o : MemV) : Ai.load (H ++ [.row o.cs 87]) none (.ptr H.length 7) = some (rowC o.resets none) := by rw [load_ptr (get_last H _)]; rfl
theorem rg_m {H : List AO} {f : FlatV} (h : H[0]? = some (.row f.cs 29)) : Ai.load H none (.ptr 0 4) = some (memsA f.mems) := by rw [load_ptr h]; rfl
theorem rmem_round (f : FlatV) (n i : Nat) (q : MemV) (hi : f.mems[i]? = some q) (hlt : (i : Int) < f.mems.length) (hn : i < 4611686018427387904) (hl : q.resets.length ≤ 1000000)
    (H : List AO) (hH : H[0]? = some (.row f.cs 29)) :
    codeW cw (lookM mtl) mds c25l1 [(1, .ptr 0 0), (3, litI .i64 n), (7, litI .i64 i)] H =
      some (bif memOk n q then (.normal, [(1, .ptr 0 0), (3, litI .i64 n), (7, litI .i64 ((i + 1 : Nat) : Int))], H ++ [.row q.cs 87]) else (.ret, [(2, litB false)], H ++ [.row q.cs 87])) := by
  have hR := within_call q.resets none n hl
  have hA := load_ipA (H := H) (show (MemV.cs q).length = 8 from rfl)
  have cm := rg_m hH
  by_cases b0 : q.next < 0
  · rw [show memOk n q = false by simp only [memOk, show inN n q.next = false by simp [inN]; omega, Bool.false_and], cond_false]
    simp -implicitDefEqProofs only [c25l1, aW, ↓aP, makes, reduceLT, reduceEqDiff, reduceAdd, iadr_mems, lenV_mems, hi, hlt, hA, cm, rm_st, rm_5, fadr_ptr, b0]
  by_cases b1 : q.next ≥ (n : Int)
  · rw [show memOk n q = false by simp only [memOk, show inN n q.next = false by simp [inN]; omega, Bool.false_and], cond_false]
    simp -implicitDefEqProofs only [c25l1, aW, ↓aP, makes, reduceLT, reduceEqDiff, reduceAdd, iadr_mems, lenV_mems, hi, hlt, hA, cm, rm_st, rm_5, fadr_ptr, b0, b1]
  by_cases b2 : q.guard ≥ (n : Int)
  · rw [show memOk n q = false by simp only [memOk, show decide (q.guard < n) = false by simp; omega, Bool.and_false, Bool.false_and], cond_false]
    simp -implicitDefEqProofs only [c25l1, aW, ↓aP, makes, reduceLT, reduceEqDiff, reduceAdd, iadr_mems, lenV_mems, hi, hlt, hA, cm, rm_st, rm_5, rm_6, fadr_ptr, b0, b1, b2]
  rw [show memOk n q = within q.resets n by simp only [memOk, show inN n q.next = true by simp [inN]; omega, show decide (q.guard < n) = true by simp; omega, Bool.true_and]]
  cases a : within q.resets n with
  | false =>
    rw [a] at hR
    rw [cond_false]
    simp -implicitDefEqProofs only [c25l1, aW, ↓aP, makes, reduceLT, reduceEqDiff, reduceAdd, iadr_mems, lenV_mems, hi, hlt, hA, cm, rm_st, rm_5, rm_6, rm_7, fadr_ptr, b0, b1, b2, hR]
  | true =>
    rw [a] at hR
    rw [cond_true]
    simp -implicitDefEqProofs only [c25l1, aW, ↓aP, makes, reduceLT, reduceEqDiff, reduceAdd, iadr_mems, lenV_mems, hi, hlt, hA, cm, rm_st, rm_5, rm_6, rm_7, fadr_ptr, b0, b1, b2, hR, wrap1 hn]
theorem rmem_loop (f : FlatV) (n : Nat) (hm : f.mems.length ≤ 1000000) (hl : ∀ q ∈ f.mems, q.resets.length ≤ 1000000) : ∀ (m i : Nat) (H : List AO), m + i = f.mems.length → H[0]? = some (.row f.cs 29) →
    ∃ H', H'[0]? = some (.row f.cs 29) ∧ loopW (codeW cw (lookM mtl) mds c25l1) [1, 3, 7] [(1, .ptr 0 0), (3, litI .i64 n), (7, litI .i64 i)] H =
      some (bif (f.mems.drop i).all (memOk n) then (EX.exit 2, [(1, .ptr 0 0), (3, litI .i64 n), (7, litI .i64 f.mems.length), (76, litB false)], H') else (.ret, [(2, litB false)], H'))
  | 0, i, H, h, hH => by
    have hn : i = f.mems.length := by omega
    subst hn
    refine ⟨H, hH, ?_⟩
    rw [List.drop_length, List.all_nil, cond_true]
    refine loopW_out ?_ (by simp)
    simp -implicitDefEqProofs only [c25l1, aW, ↓aP, makes, reduceLT, reduceEqDiff, reduceAdd, fadr_ptr, rg_m hH, lenV_mems, Int.lt_irrefl]
  | m + 1, i, H, h, hH => by
    have hn : i < f.mems.length := by omega
    have hg : f.mems[i]? = some f.mems[i] := List.getElem?_eq_getElem hn
    have R := rmem_round f n i f.mems[i] hg (by omega) (by omega) (hl _ (List.getElem_mem hn)) H hH
    rw [List.drop_eq_getElem_cons hn, List.all_cons]
    cases ho : memOk n f.mems[i] with
    | true =>
      rw [ho, cond_true] at R
      rw [Bool.true_and]
      obtain ⟨H', x, L⟩ := rmem_loop f n hm hl m (i + 1) _ (by omega) (get_app0 hH (.row (MemV.cs f.mems[i]) 87))
      refine ⟨H', x, loopW_round ?_ L⟩
      simp -implicitDefEqProofs only [aW, ↓aP, makes, reduceLT, reduceEqDiff, reduceAdd, R]
    | false =>
      rw [ho, cond_false] at R
      refine ⟨H ++ [.row (MemV.cs f.mems[i]) 87], get_app0 hH _, ?_⟩
      rw [Bool.false_and, cond_false]
      refine loopW_out ?_ (by simp)
      simp -implicitDefEqProofs only [aW, ↓aP, makes, reduceLT, reduceEqDiff, reduceAdd, R]
end
section
theorem sl_h0 (s : SlopeV) : (List.drop 0 s.cs).head? = some (litI .i64 s.guard) := rfl
theorem sl_h1 (s : SlopeV) : (List.drop 1 s.cs).head? = some (litI .i64 s.var) := rfl
theorem rk_8 {H : List AO} {k : Nat} {x : ContV} (h : H[k]? = some (.row x.cs 90)) : Ai.load H none (.ptr k 8) = some (slopesA x.slopes) := by rw [load_ptr h]; rfl
theorem rslope_round (n i j k : Nat) (x : ContV) (s : SlopeV) (hi : x.slopes[j]? = some s) (hlt : (j : Int) < x.slopes.length) (hn : j < 4611686018427387904) (H : List AO) (hk : H[k]? = some (.row x.cs 90)) :
    codeW cw (lookM mtl) mds c25l2 [(1, .ptr 0 0), (3, litI .i64 n), (9, litI .i64 i), (10, .ptr k 0), (11, litI .i64 j)] H =
      some (bif slopeOk n s then (.normal, [(1, .ptr 0 0), (3, litI .i64 n), (9, litI .i64 i), (10, .ptr k 0), (11, litI .i64 ((j + 1 : Nat) : Int))], H) else (.ret, [(2, litB false)], H)) := by
  have c8 := rk_8 hk
  by_cases b2 : s.guard ≥ (n : Int)
  · rw [show slopeOk n s = false by simp only [slopeOk, show decide (s.guard < n) = false by simp; omega, Bool.and_false], cond_false]
    simp -implicitDefEqProofs only [c25l2, aW, ↓aP, makes, reduceLT, reduceEqDiff, reduceAdd, iadr_slopes, lenV_slopes, hi, hlt, c8, fadr_ptr, fadr_ip, sl_h0, sl_h1, b2]
  by_cases b0 : s.var < 0
  · rw [show slopeOk n s = false by simp only [slopeOk, show inN n s.var = false by simp [inN]; omega, Bool.false_and], cond_false]
    simp -implicitDefEqProofs only [c25l2, aW, ↓aP, makes, reduceLT, reduceEqDiff, reduceAdd, iadr_slopes, lenV_slopes, hi, hlt, c8, fadr_ptr, fadr_ip, sl_h0, sl_h1, b2, b0]
  by_cases b1 : s.var ≥ (n : Int)
  · rw [show slopeOk n s = false by simp only [slopeOk, show inN n s.var = false by simp [inN]; omega, Bool.false_and], cond_false]
    simp -implicitDefEqProofs only [c25l2, aW, ↓aP, makes, reduceLT, reduceEqDiff, reduceAdd, iadr_slopes, lenV_slopes, hi, hlt, c8, fadr_ptr, fadr_ip, sl_h0, sl_h1, b2, b0, b1]
  rw [show slopeOk n s = true by simp only [slopeOk, show inN n s.var = true by simp [inN]; omega, show decide (s.guard < n) = true by simp; omega, Bool.and_self], cond_true]
  simp -implicitDefEqProofs only [c25l2, aW, ↓aP, makes, reduceLT, reduceEqDiff, reduceAdd, iadr_slopes, lenV_slopes, hi, hlt, c8, fadr_ptr, fadr_ip, sl_h0, sl_h1, b2, b0, b1, wrap1 hn]
theorem rslope_loop (n i k : Nat) (x : ContV) (hs : x.slopes.length ≤ 1000000) (H : List AO) (hk : H[k]? = some (.row x.cs 90)) : ∀ (m j : Nat), m + j = x.slopes.length →
    loopW (codeW cw (lookM mtl) mds c25l2) [1, 3, 9, 10, 11] [(1, .ptr 0 0), (3, litI .i64 n), (9, litI .i64 i), (10, .ptr k 0), (11, litI .i64 j)] H =
      some (bif (x.slopes.drop j).all (slopeOk n) then (EX.exit 6, [(1, .ptr 0 0), (3, litI .i64 n), (9, litI .i64 i), (10, .ptr k 0), (11, litI .i64 x.slopes.length), (144, litB false)], H) else (.ret, [(2, litB false)], H))
  | 0, j, h => by
    have hn : j = x.slopes.length := by omega
    subst hn
    rw [List.drop_length, List.all_nil, cond_true]
    refine loopW_out ?_ (by simp)
    simp -implicitDefEqProofs only [c25l2, aW, ↓aP, makes, reduceLT, reduceEqDiff, reduceAdd, fadr_ptr, rk_8 hk, lenV_slopes, Int.lt_irrefl]
  | m + 1, j, h => by
    have hn : j < x.slopes.length := by omega
    have hg : x.slopes[j]? = some x.slopes[j] := List.getElem?_eq_getElem hn
    have R := rslope_round n i j k x x.slopes[j] hg (by omega) (by omega) H hk
    rw [List.drop_eq_getElem_cons hn, List.all_cons]
    cases ho : slopeOk n x.slopes[j] with
    | true =>
      rw [ho, cond_true] at R
      rw [Bool.true_and]
      refine loopW_round ?_ (rslope_loop n i k x hs H hk m (j + 1) (by omega))
      simp -implicitDefEqProofs only [aW, ↓aP, makes, reduceLT, reduceEqDiff, reduceAdd, R]
    | false =>
      rw [ho, cond_false] at R
      rw [Bool.false_and, cond_false]
      refine loopW_out ?_ (by simp)
      simp -implicitDefEqProofs only [aW, ↓aP, makes, reduceLT, reduceEqDiff, reduceAdd, R]
theorem rk_st (H : List AO) (o : ContV) : storeAt (H ++ [AO.row [litI .i64 0, litB false, .sl 0 [] (some 0), .sl 0 [] (some 0), litS (bs []), litI .i64 0, litI .i64 0, .sl 0 [] (some 0), .sl 0 [] (some 0)] 90]) 9 (.ptr H.length 0) (.agg o.cs) = some (H ++ [.row o.cs 90]) := by
  rw [storeAt_agg (n := 9) (xs := o.cs) (get_last H _) rfl rfl rfl, setL_last]
theorem rk_5 (H : List AO) (o : ContV) : Ai.load (H ++ [.row o.cs 90]) none (.ptr H.length 5) = some (litI .i64 o.var) := by rw [load_ptr (get_last H _)]; rfl
theorem rk_6 (H : List AO) (o : ContV) : Ai.load (H ++ [.row o.cs 90]) none (.ptr H.length 6) = some (litI .i64 o.guard) := by rw [load_ptr (get_last H _)]; rfl
theorem rk_7 (H : List AO) (o : ContV) : Ai.load (H ++ [.row o.cs 90]) none (.ptr H.length 7) = some (rowC o.resets none) := by rw [load_ptr (get_last H _)]; rfl
theorem rg_k {H : List AO} {f : FlatV} (h : H[0]? = some (.row f.cs 29)) : Ai.load H none (.ptr 0 5) = some (contsA f.conts) := by rw [load_ptr h]; rfl
theorem rcont_round (f : FlatV) (n i : Nat) (q : ContV) (hi : f.conts[i]? = some q) (hlt : (i : Int) < f.conts.length) (hn : i < 4611686018427387904) (hl : q.resets.length ≤ 1000000) (hs : q.slopes.length ≤ 1000000)
    (H : List AO) (hH : H[0]? = some (.row f.cs 29)) :
    codeW cw (lookM mtl) mds c25l3 [(1, .ptr 0 0), (3, litI .i64 n), (9, litI .i64 i)] H =
      some (bif contOk n q then (.normal, [(1, .ptr 0 0), (3, litI .i64 n), (9, litI .i64 ((i + 1 : Nat) : Int))], H ++ [.row q.cs 90]) else (.ret, [(2, litB false)], H ++ [.row q.cs 90])) := by
  have hR := within_call q.resets none n hl
  have hA := load_ipA (H := H) (show (ContV.cs q).length = 9 from rfl)
  have cm := rg_k hH
  have L := rslope_loop n i H.length q hs (H ++ [.row q.cs 90]) (get_last H _) q.slopes.length 0 (by omega)
  rw [List.drop_zero, show ((0 : Nat) : Int) = 0 from rfl] at L
  by_cases b0 : q.var < 0
  · rw [show contOk n q = false by simp only [contOk, show inN n q.var = false by simp [inN]; omega, Bool.false_and], cond_false]
    simp -implicitDefEqProofs only [c25l3, aW, ↓aP, makes, reduceLT, reduceEqDiff, reduceAdd, iadr_conts, lenV_conts, hi, hlt, hA, cm, rk_st, rk_5, fadr_ptr, b0]
  by_cases b1 : q.var ≥ (n : Int)
  · rw [show contOk n q = false by simp only [contOk, show inN n q.var = false by simp [inN]; omega, Bool.false_and], cond_false]
    simp -implicitDefEqProofs only [c25l3, aW, ↓aP, makes, reduceLT, reduceEqDiff, reduceAdd, iadr_conts, lenV_conts, hi, hlt, hA, cm, rk_st, rk_5, fadr_ptr, b0, b1]
  by_cases b2 : q.guard ≥ (n : Int)
  · rw [show contOk n q = false by simp only [contOk, show decide (q.guard < n) = false by simp; omega, Bool.and_false, Bool.false_and], cond_false]
    simp -implicitDefEqProofs only [c25l3, aW, ↓aP, makes, reduceLT, reduceEqDiff, reduceAdd, iadr_conts, lenV_conts, hi, hlt, hA, cm, rk_st, rk_5, rk_6, fadr_ptr, b0, b1, b2]
  rw [show contOk n q = (within q.resets n && q.slopes.all (slopeOk n)) by simp only [contOk, show inN n q.var = true by simp [inN]; omega, show decide (q.guard < n) = true by simp; omega, Bool.true_and]]
  cases a : within q.resets n with
  | false =>
    rw [a] at hR
    rw [Bool.false_and, cond_false]
    simp -implicitDefEqProofs only [c25l3, aW, ↓aP, makes, reduceLT, reduceEqDiff, reduceAdd, iadr_conts, lenV_conts, hi, hlt, hA, cm, rk_st, rk_5, rk_6, rk_7, fadr_ptr, b0, b1, b2, hR]
  | true =>
    rw [a] at hR
    rw [Bool.true_and]
    cases b : q.slopes.all (slopeOk n) with
    | false =>
      rw [b, cond_false] at L
      rw [cond_false]
      simp -implicitDefEqProofs only [c25l3, aW, ↓aP, makes, reduceLT, reduceEqDiff, reduceAdd, iadr_conts, lenV_conts, hi, hlt, hA, cm, rk_st, rk_5, rk_6, rk_7, fadr_ptr, b0, b1, b2, hR, L]
    | true =>
      rw [b, cond_true] at L
      rw [cond_true]
      simp -implicitDefEqProofs only [c25l3, aW, ↓aP, makes, reduceLT, reduceEqDiff, reduceAdd, iadr_conts, lenV_conts, hi, hlt, hA, cm, rk_st, rk_5, rk_6, rk_7, fadr_ptr, b0, b1, b2, hR, L, wrap1 hn]
theorem rcont_loop (f : FlatV) (n : Nat) (hm : f.conts.length ≤ 1000000) (hl : ∀ q ∈ f.conts, q.resets.length ≤ 1000000) (hs : ∀ q ∈ f.conts, q.slopes.length ≤ 1000000) : ∀ (m i : Nat) (H : List AO), m + i = f.conts.length → H[0]? = some (.row f.cs 29) →
    ∃ H', H'[0]? = some (.row f.cs 29) ∧ loopW (codeW cw (lookM mtl) mds c25l3) [1, 3, 9] [(1, .ptr 0 0), (3, litI .i64 n), (9, litI .i64 i)] H =
      some (bif (f.conts.drop i).all (contOk n) then (EX.exit 4, [(1, .ptr 0 0), (3, litI .i64 n), (9, litI .i64 f.conts.length), (110, litB false)], H') else (.ret, [(2, litB false)], H'))
  | 0, i, H, h, hH => by
    have hn : i = f.conts.length := by omega
    subst hn
    refine ⟨H, hH, ?_⟩
    rw [List.drop_length, List.all_nil, cond_true]
    refine loopW_out ?_ (by simp)
    simp -implicitDefEqProofs only [c25l3, aW, ↓aP, makes, reduceLT, reduceEqDiff, reduceAdd, fadr_ptr, rg_k hH, lenV_conts, Int.lt_irrefl]
  | m + 1, i, H, h, hH => by
    have hn : i < f.conts.length := by omega
    have hg : f.conts[i]? = some f.conts[i] := List.getElem?_eq_getElem hn
    have R := rcont_round f n i f.conts[i] hg (by omega) (by omega) (hl _ (List.getElem_mem hn)) (hs _ (List.getElem_mem hn)) H hH
    rw [List.drop_eq_getElem_cons hn, List.all_cons]
    cases ho : contOk n f.conts[i] with
    | true =>
      rw [ho, cond_true] at R
      rw [Bool.true_and]
      obtain ⟨H', x, L⟩ := rcont_loop f n hm hl hs m (i + 1) _ (by omega) (get_app0 hH (.row (ContV.cs f.conts[i]) 90))
      refine ⟨H', x, loopW_round ?_ L⟩
      simp -implicitDefEqProofs only [aW, ↓aP, makes, reduceLT, reduceEqDiff, reduceAdd, R]
    | false =>
      rw [ho, cond_false] at R
      refine ⟨H ++ [.row (ContV.cs f.conts[i]) 90], get_app0 hH _, ?_⟩
      rw [Bool.false_and, cond_false]
      refine loopW_out ?_ (by simp)
      simp -implicitDefEqProofs only [aW, ↓aP, makes, reduceLT, reduceEqDiff, reduceAdd, R]
end
section
theorem cr_h0 (s : CrossV) : (List.drop 0 s.cs).head? = some (litI .i64 s.guard) := rfl
theorem cr_h1 (s : CrossV) : (List.drop 1 s.cs).head? = some (copsA s.ops) := rfl
theorem rg_x {H : List AO} {f : FlatV} (h : H[0]? = some (.row f.cs 29)) : Ai.load H none (.ptr 0 6) = some (crossA f.cross) := by rw [load_ptr h]; rfl
theorem rg_F {H : List AO} {f : FlatV} (h : H[0]? = some (.row f.cs 29)) : Ai.load H (some 8) (.ptr 0 0) = some (.agg f.cs) := load_agg h rfl
theorem rcross_round (f : FlatV) (n i : Nat) (q : CrossV) (hi : f.cross[i]? = some q) (hlt : (i : Int) < f.cross.length) (hn : i < 4611686018427387904) (hl : q.ops.length ≤ 1000000)
    (H : List AO) (hH : H[0]? = some (.row f.cs 29)) :
    codeW cw (lookM mtl) mds c25l4 [(1, .ptr 0 0), (3, litI .i64 n), (12, litI .i64 i)] H =
      some (bif crossOk f n q then (.normal, [(1, .ptr 0 0), (3, litI .i64 n), (12, litI .i64 ((i + 1 : Nat) : Int))], H) else (.ret, [(2, litB false)], H)) := by
  have hO := asks_call f n q.ops hl
  have cx := rg_x hH
  have cF := rg_F hH
  by_cases b2 : q.guard ≥ (n : Int)
  · rw [show crossOk f n q = false by simp only [crossOk, show decide (q.guard < n) = false by simp; omega, Bool.false_and], cond_false]
    simp -implicitDefEqProofs only [c25l4, aW, ↓aP, makes, reduceLT, reduceEqDiff, reduceAdd, iadr_cross, lenV_cross, hi, hlt, cx, cF, fadr_ptr, fadr_ip, cr_h0, cr_h1, b2]
  rw [show crossOk f n q = opsOk f n q.ops by simp only [crossOk, show decide (q.guard < n) = true by simp; omega, Bool.true_and]]
  cases a : opsOk f n q.ops with
  | false =>
    rw [a] at hO
    rw [cond_false]
    simp -implicitDefEqProofs only [c25l4, aW, ↓aP, makes, reduceLT, reduceEqDiff, reduceAdd, iadr_cross, lenV_cross, hi, hlt, cx, cF, fadr_ptr, fadr_ip, cr_h0, cr_h1, b2, hO]
  | true =>
    rw [a] at hO
    rw [cond_true]
    simp -implicitDefEqProofs only [c25l4, aW, ↓aP, makes, reduceLT, reduceEqDiff, reduceAdd, iadr_cross, lenV_cross, hi, hlt, cx, cF, fadr_ptr, fadr_ip, cr_h0, cr_h1, b2, hO, wrap1 hn]
theorem rcross_loop (f : FlatV) (n : Nat) (hm : f.cross.length ≤ 1000000) (hl : ∀ q ∈ f.cross, q.ops.length ≤ 1000000) (H : List AO) (hH : H[0]? = some (.row f.cs 29)) : ∀ (m i : Nat), m + i = f.cross.length →
    loopW (codeW cw (lookM mtl) mds c25l4) [1, 3, 12] [(1, .ptr 0 0), (3, litI .i64 n), (12, litI .i64 i)] H =
      some (bif (f.cross.drop i).all (crossOk f n) then (EX.exit 8, [(1, .ptr 0 0), (3, litI .i64 n), (12, litI .i64 f.cross.length), (178, litB false)], H) else (.ret, [(2, litB false)], H))
  | 0, i, h => by
    have hn : i = f.cross.length := by omega
    subst hn
    rw [List.drop_length, List.all_nil, cond_true]
    refine loopW_out ?_ (by simp)
    simp -implicitDefEqProofs only [c25l4, aW, ↓aP, makes, reduceLT, reduceEqDiff, reduceAdd, fadr_ptr, rg_x hH, lenV_cross, Int.lt_irrefl]
  | m + 1, i, h => by
    have hn : i < f.cross.length := by omega
    have hg : f.cross[i]? = some f.cross[i] := List.getElem?_eq_getElem hn
    have R := rcross_round f n i f.cross[i] hg (by omega) (by omega) (hl _ (List.getElem_mem hn)) H hH
    rw [List.drop_eq_getElem_cons hn, List.all_cons]
    cases ho : crossOk f n f.cross[i] with
    | true =>
      rw [ho, cond_true] at R
      rw [Bool.true_and]
      refine loopW_round ?_ (rcross_loop f n hm hl H hH m (i + 1) (by omega))
      simp -implicitDefEqProofs only [aW, ↓aP, makes, reduceLT, reduceEqDiff, reduceAdd, R]
    | false =>
      rw [ho, cond_false] at R
      rw [Bool.false_and, cond_false]
      refine loopW_out ?_ (by simp)
      simp -implicitDefEqProofs only [aW, ↓aP, makes, reduceLT, reduceEqDiff, reduceAdd, R]
theorem rg_o {H : List AO} {f : FlatV} (h : H[0]? = some (.row f.cs 29)) : Ai.load H none (.ptr 0 2) = some (rowC f.outs none) := by rw [load_ptr h]; rfl
theorem rg_a {H : List AO} {f : FlatV} (h : H[0]? = some (.row f.cs 29)) : Ai.load H none (.ptr 0 7) = some (rowC f.again none) := by rw [load_ptr h]; rfl
def goodR (f : FlatV) : Bool := ((f.eqs.length : Int) == (nV f : Int)) && (reqsF f (nV f) (List.replicate (nV f) false) f.eqs).isSome && f.mems.all (memOk (nV f)) && f.conts.all (contOk (nV f)) && f.cross.all (crossOk f (nV f)) && within f.outs (nV f) && within f.again (nV f)
theorem rgood_tells (f : FlatV) (F : FitsF f) : ∃ H', cw 25 [flatA f] [] = some (.ret (litB (goodR f)), H') := by
  have l1 : Ai.load [.row f.cs 29] none (.ptr 0 1) = some (strs f.names) := rfl
  have ln : lenV (strs f.names) = some (litI .i64 (nV f)) := lenV_strs f.names
  have hm : ∀ id, mksV id 1 1 [litB false] 4 (litI .i64 (nV f)) (litI .i64 (nV f)) = some (.val (.own id 0 (nV f) 1 (some (nV f))) (some (.row (cellsB (List.replicate (nV f) false)) 4))) := fun id => by
    have := F.names
    rw [mksV_ok (by unfold nV; omega) (by unfold nV; omega), reps_one, cellsB, List.map_replicate]
  have l3 : Ai.load [.row f.cs 29, .row (cellsB (List.replicate (nV f) false)) 4] none (.ptr 0 3) = some (eqsA f.eqs) := rfl
  unfold goodR
  cases a0 : ((f.eqs.length : Int) == (nV f : Int)) with
  | false =>
    have a0' : ((f.eqs.length : Int) != (nV f : Int)) = true := by unfold bne; rw [a0]; rfl
    refine ⟨_, cw_of fn25 (c := c25) (H := []) (r := (.ret (litB false), [.row f.cs 29, .row (cellsB (List.replicate (nV f) false)) 4])) rfl rfl rfl rfl ?_⟩
    simp -implicitDefEqProofs only [c25, aW, ↓aP, makes, reduceLT, reduceEqDiff, reduceAdd, core_box, flat_f, List.length_nil, List.length_cons, fadr_ptr, l1, ln, hm, l3, lenV_eqs, a0']
    rfl
  | true =>
  have a0' : ((f.eqs.length : Int) != (nV f : Int)) = false := by unfold bne; rw [a0]; rfl
  have he : f.eqs.length = nV f := by have := eq_of_beq a0; omega
  have hFit : Fits f := ⟨F.mres, F.cres⟩
  obtain ⟨A, B⟩ := req_loop f (nV f) hFit F.names he F.args (nV f) 0 (List.replicate (nV f) false) [.row f.cs 29, .row (cellsB (List.replicate (nV f) false)) 4] (by omega) rfl rfl (by simp)
  rw [List.drop_zero, show ((0 : Nat) : Int) = 0 from rfl] at A B
  cases e : reqsF f (nV f) (List.replicate (nV f) false) f.eqs with
  | none =>
    obtain ⟨H', L⟩ := B e
    refine ⟨H', cw_of fn25 (c := c25) rfl rfl rfl rfl ?_⟩
    simp -implicitDefEqProofs only [c25, aW, ↓aP, makes, reduceLT, reduceEqDiff, reduceAdd, core_box, flat_f, List.length_nil, List.length_cons, fadr_ptr, l1, ln, hm, l3, lenV_eqs, a0', L]
    rfl
  | some T =>
  obtain ⟨H1, L, x1⟩ := A T e
  obtain ⟨H2, x2, L2⟩ := rmem_loop f (nV f) F.mems F.mres f.mems.length 0 H1 (by omega) x1
  rw [List.drop_zero, show ((0 : Nat) : Int) = 0 from rfl] at L2
  cases a2 : f.mems.all (memOk (nV f)) with
  | false =>
    rw [a2, cond_false] at L2
    refine ⟨H2, cw_of fn25 (c := c25) rfl rfl rfl rfl ?_⟩
    simp -implicitDefEqProofs only [c25, aW, ↓aP, makes, reduceLT, reduceEqDiff, reduceAdd, core_box, flat_f, List.length_nil, List.length_cons, fadr_ptr, l1, ln, hm, l3, lenV_eqs, a0', L, L2]
    rfl
  | true =>
  rw [a2, cond_true] at L2
  obtain ⟨H3, x3, L3⟩ := rcont_loop f (nV f) F.conts F.cres F.slopes f.conts.length 0 H2 (by omega) x2
  rw [List.drop_zero, show ((0 : Nat) : Int) = 0 from rfl] at L3
  cases a3 : f.conts.all (contOk (nV f)) with
  | false =>
    rw [a3, cond_false] at L3
    refine ⟨H3, cw_of fn25 (c := c25) rfl rfl rfl rfl ?_⟩
    simp -implicitDefEqProofs only [c25, aW, ↓aP, makes, reduceLT, reduceEqDiff, reduceAdd, core_box, flat_f, List.length_nil, List.length_cons, fadr_ptr, l1, ln, hm, l3, lenV_eqs, a0', L, L2, L3]
    rfl
  | true =>
  rw [a3, cond_true] at L3
  have L4 := rcross_loop f (nV f) F.cross F.ops H3 x3 f.cross.length 0 (by omega)
  rw [List.drop_zero, show ((0 : Nat) : Int) = 0 from rfl] at L4
  cases a4 : f.cross.all (crossOk f (nV f)) with
  | false =>
    rw [a4, cond_false] at L4
    refine ⟨H3, cw_of fn25 (c := c25) rfl rfl rfl rfl ?_⟩
    simp -implicitDefEqProofs only [c25, aW, ↓aP, makes, reduceLT, reduceEqDiff, reduceAdd, core_box, flat_f, List.length_nil, List.length_cons, fadr_ptr, l1, ln, hm, l3, lenV_eqs, a0', L, L2, L3, L4]
    rfl
  | true =>
  rw [a4, cond_true] at L4
  have hO := within_call f.outs none (nV f) F.outs
  have hA := within_call f.again none (nV f) F.again
  have go := rg_o x3
  have ga := rg_a x3
  refine ⟨H3, cw_of fn25 (c := c25) rfl rfl rfl rfl ?_⟩
  cases a5 : within f.outs (nV f) with
  | false =>
    rw [a5] at hO
    simp -implicitDefEqProofs only [c25, aW, ↓aP, makes, reduceLT, reduceEqDiff, reduceAdd, core_box, flat_f, List.length_nil, List.length_cons, fadr_ptr, l1, ln, hm, l3, lenV_eqs, a0', L, L2, L3, L4, go, hO]
    rfl
  | true =>
    rw [a5] at hO
    simp -implicitDefEqProofs only [c25, aW, ↓aP, makes, reduceLT, reduceEqDiff, reduceAdd, core_box, flat_f, List.length_nil, List.length_cons, fadr_ptr, l1, ln, hm, l3, lenV_eqs, a0', L, L2, L3, L4, go, hO, ga, hA]
    rfl
theorem rgood_call (f : FlatV) (F : FitsF f) (H : List AO) (id : Nat) : callV cw mds 25 [flatA f] H id = some (.val (litB (goodR f)) none) := by
  obtain ⟨H', h⟩ := rgood_tells f F
  exact callV_pureA rfl rfl h rfl
end
section
theorem eq_right (f : FlatV) (hm : f.mems.all (memOk (nV f)) = true) (hc : f.conts.all (contOk (nV f)) = true) (q : Eqn) : eqOk f q = rightOk f q := by
  have m : (inN f.mems.length q.k = true) → within (resM f q.k) f.names.length = true := by
    intro h
    simp only [inN, Bool.and_eq_true, decide_eq_true_eq] at h
    have hlt : q.k.toNat < f.mems.length := by omega
    rw [List.all_eq_true] at hm
    have := hm _ (List.getElem_mem hlt)
    simp only [memOk, Bool.and_eq_true] at this
    rw [show resM f q.k = f.mems[q.k.toNat].resets by simp [resM, List.getElem?_eq_getElem hlt]]
    exact this.2
  have k : (inN f.conts.length q.k = true) → within (resK f q.k) f.names.length = true := by
    intro h
    simp only [inN, Bool.and_eq_true, decide_eq_true_eq] at h
    have hlt : q.k.toNat < f.conts.length := by omega
    rw [List.all_eq_true] at hc
    have := hc _ (List.getElem_mem hlt)
    simp only [contOk, Bool.and_eq_true] at this
    rw [show resK f q.k = f.conts[q.k.toNat].resets by simp [resK, List.getElem?_eq_getElem hlt]]
    exact this.1.2
  have e1 : (len0 q && inN f.mems.length q.k && within (resM f q.k) f.names.length) = (len0 q && inN f.mems.length q.k) := by
    cases h : inN f.mems.length q.k with
    | false => simp
    | true => rw [m h, Bool.and_true]
  have e2 : (len0 q && inN f.conts.length q.k && within (resK f q.k) f.names.length) = (len0 q && inN f.conts.length q.k) := by
    cases h : inN f.conts.length q.k with
    | false => simp
    | true => rw [k h, Bool.and_true]
  unfold eqOk rightOk
  rw [e1, e2]
theorem eqs_req (f : FlatV) (n : Nat) (h : ∀ q, eqOk f q = rightOk f q) : ∀ (l : List Eqn) (T : List Bool), eqsF f n T l = reqsF f n T l
  | [], T => rfl
  | q :: l, T => by
    rw [eqsF, reqsF, show stepOk f n T q = rstepOk f n T q by unfold stepOk rstepOk; rw [h q], eqs_req f n h l]
theorem eqs_count (f : FlatV) (n : Nat) : ∀ (l : List Eqn) (T T' : List Bool), T.length = n → eqsF f n T l = some T' → T'.count false + l.length = T.count false
  | [], T, T', hT, h => by simp only [eqsF, sI] at h; subst h; simp
  | q :: l, T, T', hT, h => by
    rw [eqsF] at h
    cases hs : stepOk f n T q with
    | false => rw [hs] at h; cases h
    | true =>
      rw [hs, cond_true] at h
      have ih := eqs_count f n l _ T' (by simp [hT]) h
      simp only [stepOk, inN, Bool.and_eq_true, decide_eq_true_eq, Bool.not_eq_true'] at hs
      obtain ⟨⟨⟨⟨⟨v0, v1⟩, v2⟩, _⟩, _⟩, _⟩ := hs
      have hlt : q.var.toNat < T.length := by omega
      have hg : T[q.var.toNat]? = some false := by
        rw [List.getD_eq_getElem?_getD, List.getElem?_eq_getElem hlt] at v2
        rw [List.getElem?_eq_getElem hlt]
        simpa using v2
      have := count_set hg
      rw [List.length_cons]
      omega
theorem good_eq (f : FlatV) : goodOk f = goodR f := by
  unfold goodOk goodR
  cases hm : f.mems.all (memOk (nV f)) with
  | false => simp
  | true =>
  cases hc : f.conts.all (contOk (nV f)) with
  | false => simp
  | true =>
  cases he : ((f.eqs.length : Int) == (nV f : Int)) with
  | false => simp
  | true =>
  have hl : f.eqs.length = nV f := by have := eq_of_beq he; omega
  have : eqsOk f (nV f) = (reqsF f (nV f) (List.replicate (nV f) false) f.eqs).isSome := by
    unfold eqsOk
    rw [← eqs_req f (nV f) (eq_right f hm hc)]
    cases e : eqsF f (nV f) (List.replicate (nV f) false) f.eqs with
    | none => rfl
    | some T =>
      have c := eqs_count f (nV f) f.eqs _ T (by simp) e
      rw [List.count_replicate_self] at c
      have c0 : T.count false = 0 := by omega
      rw [List.count_eq_zero] at c0
      have : (T.any fun b => false == b) = false := by
        rw [List.any_eq_false]
        intro b hb
        cases b with
        | false => exact absurd hb c0
        | true => decide
      simp only [this]
      rfl
  rw [this]
  cases (reqsF f (nV f) (List.replicate (nV f) false) f.eqs).isSome <;> cases f.cross.all (crossOk f (nV f)) <;> simp
end
section
theorem list_sh {α : Type} (g : α → List AV) : ∀ (xs : List (List AV)), (∀ x ∈ xs, ∃ y, x = g y) → ∃ ys : List α, xs = ys.map g
  | [], _ => ⟨[], rfl⟩
  | x :: xs, h => by
    obtain ⟨y, e⟩ := h x (List.mem_cons_self ..)
    obtain ⟨ys, es⟩ := list_sh g xs fun z hz => h z (List.mem_cons_of_mem _ hz)
    exact ⟨y :: ys, by rw [e, es]; rfl⟩
theorem sl_sh {α : Type} {τ : Ty} (g : α → List AV) (h : ∀ x, τ.Sh x → ∃ y, x = g y) {zs : List AV} (hs : (Ty.sl τ).Sh zs) : ∃ ys : List α, zs = [.sl τ.n (ys.map g) none] := by
  obtain ⟨xs, e, hx⟩ := hs
  obtain ⟨ys, es⟩ := list_sh g xs fun x hm => h x (hx x hm)
  exact ⟨ys, by rw [e, es]⟩
theorem int_sh {k : IntKind} {x : List AV} (h : (Ty.int k).Sh x) : ∃ n : Int, x = [litI k n] := by
  obtain ⟨n, e, _⟩ := h; exact ⟨n, e⟩
theorem str_sh {x : List AV} (h : Ty.str.Sh x) : ∃ s : ByteArray, x = [litS s] := by
  obtain ⟨n, e, _⟩ := h; exact ⟨n, e⟩
theorem bool_sh {x : List AV} (h : Ty.bool.Sh x) : ∃ b : Bool, x = [litB b] := h
def tI : Ty := .int .i64
def tLimbs : Ty := .sl (.int .u32)
def tLit : Ty := .cons tI (.cons (.cons (.cons .bool (.cons tLimbs .unit)) (.cons tLimbs .unit)) (.cons .str .unit))
def tEqn : Ty := .cons tI (.cons .str (.cons (.sl tI) (.cons tI (.cons tLit (.cons tI .unit)))))
def tMem : Ty := .cons tLit (.cons tI (.cons tI (.cons (.sl tI) .unit)))
def tSlope : Ty := .cons tI (.cons tI .unit)
def tCont : Ty := .cons tLit (.cons tI (.cons tI (.cons (.sl tI) (.cons (.sl tSlope) .unit))))
def tCOp : Ty := .cons .str (.cons (.sl tI) .unit)
def tCross : Ty := .cons tI (.cons (.sl tCOp) .unit)
def tFlat : Ty := .cons (.sl .str) (.cons (.sl .str) (.cons (.sl tI) (.cons (.sl tEqn) (.cons (.sl tMem) (.cons (.sl tCont) (.cons (.sl tCross) (.cons (.sl tI) .unit)))))))
theorem ints_sh {x : List AV} (h : (Ty.sl tI).Sh x) : ∃ r : List Int, x = [rowC r none] := by
  obtain ⟨r, e⟩ := sl_sh (fun i : Int => [litI .i64 i]) (fun x hx => int_sh hx) h
  exact ⟨r, e⟩
theorem limbs_sh {x : List AV} (h : tLimbs.Sh x) : ∃ r : List Int, x = [limbs r] := by
  obtain ⟨r, e⟩ := sl_sh (fun i : Int => [litI .u32 i]) (fun x hx => int_sh hx) h
  exact ⟨r, e⟩
theorem strs_sh {x : List AV} (h : (Ty.sl .str).Sh x) : ∃ r : List ByteArray, x = [strs r] := by
  obtain ⟨r, e⟩ := sl_sh (fun i : ByteArray => [litS i]) (fun x hx => str_sh hx) h
  exact ⟨r, e⟩
theorem lit_sh {x : List AV} (h : tLit.Sh x) : ∃ l : LitV, x = l.cs [] := by
  obtain ⟨x1, y1, e1, h1, x2, y2, e2, ⟨x3, y3, e3, ⟨x4, y4, e4, h4, x5, y5, e5, h5, e6⟩, x7, y7, e7, h7, e8⟩, x9, y9, e9, h9, e10⟩ := h
  obtain ⟨kind, rfl⟩ := int_sh h1
  obtain ⟨neg, rfl⟩ := bool_sh h4
  obtain ⟨mag, rfl⟩ := limbs_sh h5
  obtain ⟨den, rfl⟩ := limbs_sh h7
  obtain ⟨name, rfl⟩ := str_sh h9
  subst e6 e8 e10 e5 e7 e9 e4 e3 e2 e1
  exact ⟨⟨kind, neg, mag, den, name⟩, rfl⟩
theorem eqn_sh {x : List AV} (h : tEqn.Sh x) : ∃ q : Eqn, x = q.cs := by
  obtain ⟨x1, y1, e1, h1, x2, y2, e2, h2, x3, y3, e3, h3, x4, y4, e4, h4, x5, y5, e5, h5, x6, y6, e6, h6, e7⟩ := h
  obtain ⟨var, rfl⟩ := int_sh h1
  obtain ⟨op, rfl⟩ := str_sh h2
  obtain ⟨args, rfl⟩ := ints_sh h3
  obtain ⟨k, rfl⟩ := int_sh h4
  obtain ⟨lit, rfl⟩ := lit_sh h5
  obtain ⟨guard, rfl⟩ := int_sh h6
  subst e7 e6 e5 e4 e3 e2 e1
  exact ⟨⟨var, op, args, k, lit, guard⟩, rfl⟩
theorem mem_sh {x : List AV} (h : tMem.Sh x) : ∃ q : MemV, x = q.cs := by
  obtain ⟨x1, y1, e1, h1, x2, y2, e2, h2, x3, y3, e3, h3, x4, y4, e4, h4, e5⟩ := h
  obtain ⟨init, rfl⟩ := lit_sh h1
  obtain ⟨next, rfl⟩ := int_sh h2
  obtain ⟨guard, rfl⟩ := int_sh h3
  obtain ⟨res, rfl⟩ := ints_sh h4
  subst e5 e4 e3 e2 e1
  exact ⟨⟨init, next, guard, res⟩, rfl⟩
theorem slope_sh {x : List AV} (h : tSlope.Sh x) : ∃ q : SlopeV, x = q.cs := by
  obtain ⟨x1, y1, e1, h1, x2, y2, e2, h2, e3⟩ := h
  obtain ⟨guard, rfl⟩ := int_sh h1
  obtain ⟨var, rfl⟩ := int_sh h2
  subst e3 e2 e1
  exact ⟨⟨guard, var⟩, rfl⟩
theorem cont_sh {x : List AV} (h : tCont.Sh x) : ∃ q : ContV, x = q.cs := by
  obtain ⟨x1, y1, e1, h1, x2, y2, e2, h2, x3, y3, e3, h3, x4, y4, e4, h4, x5, y5, e5, h5, e6⟩ := h
  obtain ⟨init, rfl⟩ := lit_sh h1
  obtain ⟨var, rfl⟩ := int_sh h2
  obtain ⟨guard, rfl⟩ := int_sh h3
  obtain ⟨res, rfl⟩ := ints_sh h4
  obtain ⟨slopes, rfl⟩ := sl_sh SlopeV.cs (fun x hx => slope_sh hx) h5
  subst e6 e5 e4 e3 e2 e1
  exact ⟨⟨init, var, guard, res, slopes⟩, rfl⟩
theorem cop_sh {x : List AV} (h : tCOp.Sh x) : ∃ q : COpV, x = q.cs := by
  obtain ⟨x1, y1, e1, h1, x2, y2, e2, h2, e3⟩ := h
  obtain ⟨op, rfl⟩ := str_sh h1
  obtain ⟨args, rfl⟩ := ints_sh h2
  subst e3 e2 e1
  exact ⟨⟨op, args⟩, rfl⟩
theorem cross_sh {x : List AV} (h : tCross.Sh x) : ∃ q : CrossV, x = q.cs := by
  obtain ⟨x1, y1, e1, h1, x2, y2, e2, h2, e3⟩ := h
  obtain ⟨guard, rfl⟩ := int_sh h1
  obtain ⟨ops, rfl⟩ := sl_sh COpV.cs (fun x hx => cop_sh hx) h2
  subst e3 e2 e1
  exact ⟨⟨guard, ops⟩, rfl⟩
theorem flat_sh {x : List AV} (h : tFlat.Sh x) : ∃ f : FlatV, x = f.cs := by
  obtain ⟨x1, y1, e1, h1, x2, y2, e2, h2, x3, y3, e3, h3, x4, y4, e4, h4, x5, y5, e5, h5, x6, y6, e6, h6, x7, y7, e7, h7, x8, y8, e8, h8, e9⟩ := h
  obtain ⟨ins, rfl⟩ := strs_sh h1
  obtain ⟨names, rfl⟩ := strs_sh h2
  obtain ⟨outs, rfl⟩ := ints_sh h3
  obtain ⟨eqs, rfl⟩ := sl_sh Eqn.cs (fun x hx => eqn_sh hx) h4
  obtain ⟨mems, rfl⟩ := sl_sh MemV.cs (fun x hx => mem_sh hx) h5
  obtain ⟨conts, rfl⟩ := sl_sh ContV.cs (fun x hx => cont_sh hx) h6
  obtain ⟨cross, rfl⟩ := sl_sh CrossV.cs (fun x hx => cross_sh hx) h7
  obtain ⟨again, rfl⟩ := ints_sh h8
  subst e9 e8 e7 e6 e5 e4 e3 e2 e1
  exact ⟨⟨ins, names, outs, eqs, mems, conts, cross, again⟩, rfl⟩
end
section
def longL (l : LitV) : Bool := decide (IntKind.wrap .i64 ((l.mag.length : Int) + l.den.length) > 4)
theorem lenS_lit (s : ByteArray) : lenS (litS s) = some (litI .i64 s.size) := rfl
theorem long_tells (l : LitV) : cw 42 [.agg [litB l.neg, limbs l.mag, limbs l.den]] [] = some (.ret (litB (longL l)), [.row [litB l.neg, limbs l.mag, limbs l.den] 50]) := by
  refine cw_of fn42 (c := c42) rfl rfl rfl rfl ?_
  have hb : ∀ id t, boxV id 3 (.agg [litB l.neg, limbs l.mag, limbs l.den]) t = some (.val (.ptr id 0) (some (.row [litB l.neg, limbs l.mag, limbs l.den] t))) := fun _ _ => boxV_agg rfl rfl
  have l1 : Ai.load [.row [litB l.neg, limbs l.mag, limbs l.den] 50] none (.ptr 0 1) = some (limbs l.mag) := rfl
  have l2 : Ai.load [.row [litB l.neg, limbs l.mag, limbs l.den] 50] none (.ptr 0 2) = some (limbs l.den) := rfl
  unfold longL
  simp -implicitDefEqProofs only [c42, aW, ↓aP, makes, reduceLT, reduceEqDiff, reduceAdd, core_box, hb, List.length_nil, fadr_ptr, Nat.add_zero, l1, l2, lenV_limbs]
  rfl
theorem long_call (l : LitV) (H : List AO) (id : Nat) : callV cw mds 42 [.agg [litB l.neg, limbs l.mag, limbs l.den]] H id = some (.val (litB (longL l)) none) := callV_pureA rfl rfl (long_tells l) rfl
theorem eq_h1 (q : Eqn) : (List.drop 1 q.cs).head? = some (litS q.op) := rfl
theorem eq_h2 (q : Eqn) : (List.drop 2 q.cs).head? = some (rowC q.args none) := rfl
theorem eq_hl (q : Eqn) (H : List AO) : Ai.load H (some 3) (.ip (List.drop 1 (List.drop 4 q.cs))) = some (.agg [litB q.lit.neg, limbs q.lit.mag, limbs q.lit.den]) := rfl
theorem eq_hn (q : Eqn) : (List.drop 4 (List.drop 4 q.cs)).head? = some (litS q.lit.name) := rfl
def eqnBig (q : Eqn) : Bool := decide ((q.args.length : Int) > 30) || decide ((q.op.size : Int) > 20) || longL q.lit || decide ((q.lit.name.size : Int) > 100)
theorem sm0_round (f : FlatV) (i : Nat) (q : Eqn) (hi : f.eqs[i]? = some q) (hlt : (i : Int) < f.eqs.length) (hn : i < 4611686018427387904) (H : List AO) (hH : H[0]? = some (.row f.cs 29)) :
    codeW cw (lookM mtl) mds c24l0 [(1, .ptr 0 0), (3, litI .i64 i)] H =
      some (bif eqnBig q then (.ret, [(2, litB false)], H) else (.normal, [(1, .ptr 0 0), (3, litI .i64 ((i + 1 : Nat) : Int))], H)) := by
  have ce := rg_e hH
  have hL := long_call q.lit
  unfold eqnBig
  cases a1 : decide ((q.args.length : Int) > 30) with
  | true =>
    simp -implicitDefEqProofs only [c24l0, aW, ↓aP, makes, reduceLT, reduceEqDiff, reduceAdd, iadr_eqs, lenV_eqs, hi, hlt, ce, fadr_ptr, fadr_ip, eq_h1, eq_h2, lenV_row, a1]
  | false =>
  cases a2 : decide ((q.op.size : Int) > 20) with
  | true =>
    simp -implicitDefEqProofs only [c24l0, aW, ↓aP, makes, reduceLT, reduceEqDiff, reduceAdd, iadr_eqs, lenV_eqs, hi, hlt, ce, fadr_ptr, fadr_ip, eq_h1, eq_h2, lenV_row, a1, lenS_lit, a2]
  | false =>
  cases a3 : longL q.lit with
  | true =>
    rw [a3] at hL
    simp -implicitDefEqProofs only [c24l0, aW, ↓aP, makes, reduceLT, reduceEqDiff, reduceAdd, iadr_eqs, lenV_eqs, hi, hlt, ce, fadr_ptr, fadr_ip, eq_h1, eq_h2, lenV_row, a1, lenS_lit, a2, eq_hl, hL]
  | false =>
  rw [a3] at hL
  cases a4 : decide ((q.lit.name.size : Int) > 100) with
  | true =>
    simp -implicitDefEqProofs only [c24l0, aW, ↓aP, makes, reduceLT, reduceEqDiff, reduceAdd, iadr_eqs, lenV_eqs, hi, hlt, ce, fadr_ptr, fadr_ip, eq_h1, eq_h2, lenV_row, a1, lenS_lit, a2, eq_hl, hL, eq_hn, a4]
  | false =>
    simp -implicitDefEqProofs only [c24l0, aW, ↓aP, makes, reduceLT, reduceEqDiff, reduceAdd, iadr_eqs, lenV_eqs, hi, hlt, ce, fadr_ptr, fadr_ip, eq_h1, eq_h2, lenV_row, a1, lenS_lit, a2, eq_hl, hL, eq_hn, a4, wrap1 hn]
end
section
theorem sm0_loop (f : FlatV) (hm : f.eqs.length ≤ 1000000) (H : List AO) (hH : H[0]? = some (.row f.cs 29)) : ∀ (m i : Nat), m + i = f.eqs.length →
    loopW (codeW cw (lookM mtl) mds c24l0) [1, 3] [(1, .ptr 0 0), (3, litI .i64 i)] H =
      some (bif (f.eqs.drop i).any eqnBig then (.ret, [(2, litB false)], H) else (EX.exit 0, [(1, .ptr 0 0), (3, litI .i64 f.eqs.length), (58, litB false)], H))
  | 0, i, h => by
    have hn : i = f.eqs.length := by omega
    subst hn
    rw [List.drop_length, List.any_nil, cond_false]
    refine loopW_out ?_ (by simp)
    simp -implicitDefEqProofs only [c24l0, aW, ↓aP, makes, reduceLT, reduceEqDiff, reduceAdd, fadr_ptr, rg_e hH, lenV_eqs, Int.lt_irrefl]
  | m + 1, i, h => by
    have hn : i < f.eqs.length := by omega
    have hg : f.eqs[i]? = some f.eqs[i] := List.getElem?_eq_getElem hn
    have R := sm0_round f i f.eqs[i] hg (by omega) (by omega) H hH
    rw [List.drop_eq_getElem_cons hn, List.any_cons]
    cases ho : eqnBig f.eqs[i] with
    | false =>
      rw [ho, cond_false] at R
      rw [Bool.false_or]
      refine loopW_round ?_ (sm0_loop f hm H hH m (i + 1) (by omega))
      simp -implicitDefEqProofs only [aW, ↓aP, makes, reduceLT, reduceEqDiff, reduceAdd, R]
    | true =>
      rw [ho, cond_true] at R
      rw [Bool.true_or, cond_true]
      refine loopW_out ?_ (by simp)
      simp -implicitDefEqProofs only [aW, ↓aP, makes, reduceLT, reduceEqDiff, reduceAdd, R]
theorem me_hl (q : MemV) (H : List AO) : Ai.load H (some 3) (.ip (List.drop 1 (List.drop 0 q.cs))) = some (.agg [litB q.init.neg, limbs q.init.mag, limbs q.init.den]) := rfl
def memBig (q : MemV) : Bool := decide ((q.resets.length : Int) > 20) || longL q.init
theorem sm1_round (f : FlatV) (i : Nat) (q : MemV) (hi : f.mems[i]? = some q) (hlt : (i : Int) < f.mems.length) (hn : i < 4611686018427387904) (H : List AO) (hH : H[0]? = some (.row f.cs 29)) :
    codeW cw (lookM mtl) mds c24l1 [(1, .ptr 0 0), (4, litI .i64 i)] H =
      some (bif memBig q then (.ret, [(2, litB false)], H) else (.normal, [(1, .ptr 0 0), (4, litI .i64 ((i + 1 : Nat) : Int))], H)) := by
  have ce := rg_m hH
  have hL := long_call q.init
  unfold memBig
  cases a1 : decide ((q.resets.length : Int) > 20) with
  | true =>
    simp -implicitDefEqProofs only [c24l1, aW, ↓aP, makes, reduceLT, reduceEqDiff, reduceAdd, iadr_mems, lenV_mems, hi, hlt, ce, fadr_ptr, fadr_ip, mem_h7, lenV_row, a1]
  | false =>
  cases a3 : longL q.init with
  | true =>
    rw [a3] at hL
    simp -implicitDefEqProofs only [c24l1, aW, ↓aP, makes, reduceLT, reduceEqDiff, reduceAdd, iadr_mems, lenV_mems, hi, hlt, ce, fadr_ptr, fadr_ip, mem_h7, lenV_row, a1, me_hl, hL]
  | false =>
    rw [a3] at hL
    simp -implicitDefEqProofs only [c24l1, aW, ↓aP, makes, reduceLT, reduceEqDiff, reduceAdd, iadr_mems, lenV_mems, hi, hlt, ce, fadr_ptr, fadr_ip, mem_h7, lenV_row, a1, me_hl, hL, wrap1 hn]
theorem sm1_loop (f : FlatV) (hm : f.mems.length ≤ 1000000) (H : List AO) (hH : H[0]? = some (.row f.cs 29)) : ∀ (m i : Nat), m + i = f.mems.length →
    loopW (codeW cw (lookM mtl) mds c24l1) [1, 4] [(1, .ptr 0 0), (4, litI .i64 i)] H =
      some (bif (f.mems.drop i).any memBig then (.ret, [(2, litB false)], H) else (EX.exit 2, [(1, .ptr 0 0), (4, litI .i64 f.mems.length), (104, litB false)], H))
  | 0, i, h => by
    have hn : i = f.mems.length := by omega
    subst hn
    rw [List.drop_length, List.any_nil, cond_false]
    refine loopW_out ?_ (by simp)
    simp -implicitDefEqProofs only [c24l1, aW, ↓aP, makes, reduceLT, reduceEqDiff, reduceAdd, fadr_ptr, rg_m hH, lenV_mems, Int.lt_irrefl]
  | m + 1, i, h => by
    have hn : i < f.mems.length := by omega
    have hg : f.mems[i]? = some f.mems[i] := List.getElem?_eq_getElem hn
    have R := sm1_round f i f.mems[i] hg (by omega) (by omega) H hH
    rw [List.drop_eq_getElem_cons hn, List.any_cons]
    cases ho : memBig f.mems[i] with
    | false =>
      rw [ho, cond_false] at R
      rw [Bool.false_or]
      refine loopW_round ?_ (sm1_loop f hm H hH m (i + 1) (by omega))
      simp -implicitDefEqProofs only [aW, ↓aP, makes, reduceLT, reduceEqDiff, reduceAdd, R]
    | true =>
      rw [ho, cond_true] at R
      rw [Bool.true_or, cond_true]
      refine loopW_out ?_ (by simp)
      simp -implicitDefEqProofs only [aW, ↓aP, makes, reduceLT, reduceEqDiff, reduceAdd, R]
end
section
theorem co_hl (q : ContV) (H : List AO) : Ai.load H (some 3) (.ip (List.drop 1 (List.drop 0 q.cs))) = some (.agg [litB q.init.neg, limbs q.init.mag, limbs q.init.den]) := rfl
theorem co_h8 (q : ContV) : (List.drop 8 q.cs).head? = some (slopesA q.slopes) := rfl
def contBig (q : ContV) : Bool := decide ((q.resets.length : Int) > 20) || decide ((q.slopes.length : Int) > 20) || longL q.init
theorem sm2_round (f : FlatV) (i : Nat) (q : ContV) (hi : f.conts[i]? = some q) (hlt : (i : Int) < f.conts.length) (hn : i < 4611686018427387904) (H : List AO) (hH : H[0]? = some (.row f.cs 29)) :
    codeW cw (lookM mtl) mds c24l2 [(1, .ptr 0 0), (5, litI .i64 i)] H =
      some (bif contBig q then (.ret, [(2, litB false)], H) else (.normal, [(1, .ptr 0 0), (5, litI .i64 ((i + 1 : Nat) : Int))], H)) := by
  have ce := rg_k hH
  have hL := long_call q.init
  unfold contBig
  cases a1 : decide ((q.resets.length : Int) > 20) with
  | true =>
    simp -implicitDefEqProofs only [c24l2, aW, ↓aP, makes, reduceLT, reduceEqDiff, reduceAdd, iadr_conts, lenV_conts, hi, hlt, ce, fadr_ptr, fadr_ip, cont_h7, lenV_row, a1]
  | false =>
  cases a2 : decide ((q.slopes.length : Int) > 20) with
  | true =>
    simp -implicitDefEqProofs only [c24l2, aW, ↓aP, makes, reduceLT, reduceEqDiff, reduceAdd, iadr_conts, lenV_conts, hi, hlt, ce, fadr_ptr, fadr_ip, cont_h7, lenV_row, a1, co_h8, lenV_slopes, a2]
  | false =>
  cases a3 : longL q.init with
  | true =>
    rw [a3] at hL
    simp -implicitDefEqProofs only [c24l2, aW, ↓aP, makes, reduceLT, reduceEqDiff, reduceAdd, iadr_conts, lenV_conts, hi, hlt, ce, fadr_ptr, fadr_ip, cont_h7, lenV_row, a1, co_h8, lenV_slopes, a2, co_hl, hL]
  | false =>
    rw [a3] at hL
    simp -implicitDefEqProofs only [c24l2, aW, ↓aP, makes, reduceLT, reduceEqDiff, reduceAdd, iadr_conts, lenV_conts, hi, hlt, ce, fadr_ptr, fadr_ip, cont_h7, lenV_row, a1, co_h8, lenV_slopes, a2, co_hl, hL, wrap1 hn]
theorem sm2_loop (f : FlatV) (hm : f.conts.length ≤ 1000000) (H : List AO) (hH : H[0]? = some (.row f.cs 29)) : ∀ (m i : Nat), m + i = f.conts.length →
    loopW (codeW cw (lookM mtl) mds c24l2) [1, 5] [(1, .ptr 0 0), (5, litI .i64 i)] H =
      some (bif (f.conts.drop i).any contBig then (.ret, [(2, litB false)], H) else (EX.exit 4, [(1, .ptr 0 0), (5, litI .i64 f.conts.length), (129, litB false)], H))
  | 0, i, h => by
    have hn : i = f.conts.length := by omega
    subst hn
    rw [List.drop_length, List.any_nil, cond_false]
    refine loopW_out ?_ (by simp)
    simp -implicitDefEqProofs only [c24l2, aW, ↓aP, makes, reduceLT, reduceEqDiff, reduceAdd, fadr_ptr, rg_k hH, lenV_conts, Int.lt_irrefl]
  | m + 1, i, h => by
    have hn : i < f.conts.length := by omega
    have hg : f.conts[i]? = some f.conts[i] := List.getElem?_eq_getElem hn
    have R := sm2_round f i f.conts[i] hg (by omega) (by omega) H hH
    rw [List.drop_eq_getElem_cons hn, List.any_cons]
    cases ho : contBig f.conts[i] with
    | false =>
      rw [ho, cond_false] at R
      rw [Bool.false_or]
      refine loopW_round ?_ (sm2_loop f hm H hH m (i + 1) (by omega))
      simp -implicitDefEqProofs only [aW, ↓aP, makes, reduceLT, reduceEqDiff, reduceAdd, R]
    | true =>
      rw [ho, cond_true] at R
      rw [Bool.true_or, cond_true]
      refine loopW_out ?_ (by simp)
      simp -implicitDefEqProofs only [aW, ↓aP, makes, reduceLT, reduceEqDiff, reduceAdd, R]
end
section
def opBig (o : COpV) : Bool := decide ((o.args.length : Int) > 5)
def crossBig (q : CrossV) : Bool := decide ((q.ops.length : Int) > 30) || q.ops.any opBig
theorem sm3_loop (f : FlatV) (i : Nat) (q : CrossV) (hi : f.cross[i]? = some q) (hm : q.ops.length ≤ 1000000) (H : List AO) (hH : H[0]? = some (.row f.cs 29)) : ∀ (m j : Nat), m + j = q.ops.length →
    loopW (codeW cw (lookM mtl) mds c24l3) [1, 6, 7] [(1, .ptr 0 0), (6, litI .i64 i), (7, litI .i64 j)] H =
      some (bif (q.ops.drop j).any opBig then (.ret, [(2, litB false)], H) else (EX.exit 8, [(1, .ptr 0 0), (6, litI .i64 i), (7, litI .i64 q.ops.length), (183, litB false)], H))
  | 0, j, h => by
    have hn : j = q.ops.length := by omega
    subst hn
    rw [List.drop_length, List.any_nil, cond_false]
    refine loopW_out ?_ (by simp)
    simp -implicitDefEqProofs only [c24l3, aW, ↓aP, makes, reduceLT, reduceEqDiff, reduceAdd, fadr_ptr, fadr_ip, rg_x hH, iadr_cross, hi, cr_h1, lenV_cops, Int.lt_irrefl]
  | m + 1, j, h => by
    have hn : j < q.ops.length := by omega
    have hg : q.ops[j]? = some q.ops[j] := List.getElem?_eq_getElem hn
    have hlt : (j : Int) < q.ops.length := by omega
    rw [List.drop_eq_getElem_cons hn, List.any_cons]
    cases ho : opBig q.ops[j] with
    | false =>
      have ho' : decide ((q.ops[j].args.length : Int) > 5) = false := ho
      rw [Bool.false_or]
      refine loopW_round ?_ (sm3_loop f i q hi hm H hH m (j + 1) (by omega))
      simp -implicitDefEqProofs only [c24l3, aW, ↓aP, makes, reduceLT, reduceEqDiff, reduceAdd, fadr_ptr, fadr_ip, rg_x hH, iadr_cross, hi, cr_h1, lenV_cops, iadr_cops, hg, hlt, cop_h1, lenV_row, ho', wrap1 (show j < 4611686018427387904 by omega)]
    | true =>
      have ho' : decide ((q.ops[j].args.length : Int) > 5) = true := ho
      rw [Bool.true_or, cond_true]
      refine loopW_out ?_ (by simp)
      simp -implicitDefEqProofs only [c24l3, aW, ↓aP, makes, reduceLT, reduceEqDiff, reduceAdd, fadr_ptr, fadr_ip, rg_x hH, iadr_cross, hi, cr_h1, lenV_cops, iadr_cops, hg, hlt, cop_h1, lenV_row, ho']
theorem sm4_loop (f : FlatV) (hm : f.cross.length ≤ 1000000) (H : List AO) (hH : H[0]? = some (.row f.cs 29)) : ∀ (m i : Nat), m + i = f.cross.length →
    loopW (codeW cw (lookM mtl) mds c24l4) [1, 6] [(1, .ptr 0 0), (6, litI .i64 i)] H =
      some (bif (f.cross.drop i).any crossBig then (.ret, [(2, litB false)], H) else (EX.exit 6, [(1, .ptr 0 0), (6, litI .i64 f.cross.length), (164, litB false)], H))
  | 0, i, h => by
    have hn : i = f.cross.length := by omega
    subst hn
    rw [List.drop_length, List.any_nil, cond_false]
    refine loopW_out ?_ (by simp)
    simp -implicitDefEqProofs only [c24l4, aW, ↓aP, makes, reduceLT, reduceEqDiff, reduceAdd, fadr_ptr, rg_x hH, lenV_cross, Int.lt_irrefl]
  | m + 1, i, h => by
    have hn : i < f.cross.length := by omega
    have hg : f.cross[i]? = some f.cross[i] := List.getElem?_eq_getElem hn
    have hlt : (i : Int) < f.cross.length := by omega
    rw [List.drop_eq_getElem_cons hn, List.any_cons]
    cases a1 : decide ((f.cross[i].ops.length : Int) > 30) with
    | true =>
      rw [show crossBig f.cross[i] = true by unfold crossBig; rw [a1, Bool.true_or], Bool.true_or, cond_true]
      refine loopW_out ?_ (by simp)
      simp -implicitDefEqProofs only [c24l4, aW, ↓aP, makes, reduceLT, reduceEqDiff, reduceAdd, fadr_ptr, fadr_ip, rg_x hH, lenV_cross, iadr_cross, hg, hlt, cr_h1, lenV_cops, a1]
    | false =>
    have hle : f.cross[i].ops.length ≤ 1000000 := by
      have : ¬ ((f.cross[i].ops.length : Int) > 30) := by simpa using a1
      omega
    have L := sm3_loop f i f.cross[i] hg hle H hH f.cross[i].ops.length 0 (by omega)
    rw [List.drop_zero, show ((0 : Nat) : Int) = 0 from rfl] at L
    cases ho : f.cross[i].ops.any opBig with
    | true =>
      rw [ho, cond_true] at L
      rw [show crossBig f.cross[i] = true by unfold crossBig; rw [ho, Bool.or_true], Bool.true_or, cond_true]
      refine loopW_out ?_ (by simp)
      simp -implicitDefEqProofs only [c24l4, aW, ↓aP, makes, reduceLT, reduceEqDiff, reduceAdd, fadr_ptr, fadr_ip, rg_x hH, lenV_cross, iadr_cross, hg, hlt, cr_h1, lenV_cops, a1, L]
    | false =>
      rw [ho, cond_false] at L
      rw [show crossBig f.cross[i] = false by unfold crossBig; rw [a1, ho]; rfl, Bool.false_or]
      refine loopW_round ?_ (sm4_loop f hm H hH m (i + 1) (by omega))
      simp -implicitDefEqProofs only [c24l4, aW, ↓aP, makes, reduceLT, reduceEqDiff, reduceAdd, fadr_ptr, fadr_ip, rg_x hH, lenV_cross, iadr_cross, hg, hlt, cr_h1, lenV_cops, a1, L, wrap1 (show i < 4611686018427387904 by omega)]
end
section
theorem sm_n {H : List AO} {f : FlatV} (h : H[0]? = some (.row f.cs 29)) : Ai.load H none (.ptr 0 1) = some (strs f.names) := by rw [load_ptr h]; rfl
theorem sm_i {H : List AO} {f : FlatV} (h : H[0]? = some (.row f.cs 29)) : Ai.load H none (.ptr 0 0) = some (strs f.ins) := by rw [load_ptr h]; rfl
def sizesBig (f : FlatV) : Bool := decide ((f.eqs.length : Int) > 200) || decide ((f.names.length : Int) > 200) || decide ((f.mems.length : Int) > 100) || decide ((f.conts.length : Int) > 20) || decide ((f.cross.length : Int) > 20) || decide ((f.outs.length : Int) > 50) || decide ((f.again.length : Int) > 50) || decide ((f.ins.length : Int) > 20)
def smallOk (f : FlatV) : Bool := !sizesBig f && !f.eqs.any eqnBig && !f.mems.any memBig && !f.conts.any contBig && !f.cross.any crossBig
theorem small_tells (f : FlatV) : cw 24 [flatA f] [] = some (.ret (litB (smallOk f)), [.row f.cs 29]) := by
  refine cw_of fn24 (c := c24) rfl rfl rfl rfl ?_
  have hH : ([.row f.cs 29] : List AO)[0]? = some (.row f.cs 29) := rfl
  unfold smallOk
  cases s0 : decide ((f.eqs.length : Int) > 200) with
  | true =>
    rw [show sizesBig f = true by simp only [sizesBig, s0, Bool.or_true, Bool.true_or, Bool.false_or]]
    simp -implicitDefEqProofs only [c24, aW, ↓aP, makes, reduceLT, reduceEqDiff, reduceAdd, ↓reduceIte, Nat.reduceBEq, core_box, flat_f, List.length_nil, fadr_ptr, lenV_eqs, lenV_strs, lenV_mems, lenV_conts, lenV_cross, lenV_row, rg_e hH, sm_n hH, rg_m hH, rg_k hH, rg_x hH, rg_o hH, rg_a hH, sm_i hH, s0]
    rfl
  | false =>
  cases s1 : decide ((f.names.length : Int) > 200) with
  | true =>
    rw [show sizesBig f = true by simp only [sizesBig, s0, s1, Bool.or_true, Bool.true_or, Bool.false_or]]
    simp -implicitDefEqProofs only [c24, aW, ↓aP, makes, reduceLT, reduceEqDiff, reduceAdd, ↓reduceIte, Nat.reduceBEq, core_box, flat_f, List.length_nil, fadr_ptr, lenV_eqs, lenV_strs, lenV_mems, lenV_conts, lenV_cross, lenV_row, rg_e hH, sm_n hH, rg_m hH, rg_k hH, rg_x hH, rg_o hH, rg_a hH, sm_i hH, s0, s1]
    rfl
  | false =>
  cases s2 : decide ((f.mems.length : Int) > 100) with
  | true =>
    rw [show sizesBig f = true by simp only [sizesBig, s0, s1, s2, Bool.or_true, Bool.true_or, Bool.false_or]]
    simp -implicitDefEqProofs only [c24, aW, ↓aP, makes, reduceLT, reduceEqDiff, reduceAdd, ↓reduceIte, Nat.reduceBEq, core_box, flat_f, List.length_nil, fadr_ptr, lenV_eqs, lenV_strs, lenV_mems, lenV_conts, lenV_cross, lenV_row, rg_e hH, sm_n hH, rg_m hH, rg_k hH, rg_x hH, rg_o hH, rg_a hH, sm_i hH, s0, s1, s2]
    rfl
  | false =>
  cases s3 : decide ((f.conts.length : Int) > 20) with
  | true =>
    rw [show sizesBig f = true by simp only [sizesBig, s0, s1, s2, s3, Bool.or_true, Bool.true_or, Bool.false_or]]
    simp -implicitDefEqProofs only [c24, aW, ↓aP, makes, reduceLT, reduceEqDiff, reduceAdd, ↓reduceIte, Nat.reduceBEq, core_box, flat_f, List.length_nil, fadr_ptr, lenV_eqs, lenV_strs, lenV_mems, lenV_conts, lenV_cross, lenV_row, rg_e hH, sm_n hH, rg_m hH, rg_k hH, rg_x hH, rg_o hH, rg_a hH, sm_i hH, s0, s1, s2, s3]
    rfl
  | false =>
  cases s4 : decide ((f.cross.length : Int) > 20) with
  | true =>
    rw [show sizesBig f = true by simp only [sizesBig, s0, s1, s2, s3, s4, Bool.or_true, Bool.true_or, Bool.false_or]]
    simp -implicitDefEqProofs only [c24, aW, ↓aP, makes, reduceLT, reduceEqDiff, reduceAdd, ↓reduceIte, Nat.reduceBEq, core_box, flat_f, List.length_nil, fadr_ptr, lenV_eqs, lenV_strs, lenV_mems, lenV_conts, lenV_cross, lenV_row, rg_e hH, sm_n hH, rg_m hH, rg_k hH, rg_x hH, rg_o hH, rg_a hH, sm_i hH, s0, s1, s2, s3, s4]
    rfl
  | false =>
  cases s5 : decide ((f.outs.length : Int) > 50) with
  | true =>
    rw [show sizesBig f = true by simp only [sizesBig, s0, s1, s2, s3, s4, s5, Bool.or_true, Bool.true_or, Bool.false_or]]
    simp -implicitDefEqProofs only [c24, aW, ↓aP, makes, reduceLT, reduceEqDiff, reduceAdd, ↓reduceIte, Nat.reduceBEq, core_box, flat_f, List.length_nil, fadr_ptr, lenV_eqs, lenV_strs, lenV_mems, lenV_conts, lenV_cross, lenV_row, rg_e hH, sm_n hH, rg_m hH, rg_k hH, rg_x hH, rg_o hH, rg_a hH, sm_i hH, s0, s1, s2, s3, s4, s5]
    rfl
  | false =>
  cases s6 : decide ((f.again.length : Int) > 50) with
  | true =>
    rw [show sizesBig f = true by simp only [sizesBig, s0, s1, s2, s3, s4, s5, s6, Bool.or_true, Bool.true_or, Bool.false_or]]
    simp -implicitDefEqProofs only [c24, aW, ↓aP, makes, reduceLT, reduceEqDiff, reduceAdd, ↓reduceIte, Nat.reduceBEq, core_box, flat_f, List.length_nil, fadr_ptr, lenV_eqs, lenV_strs, lenV_mems, lenV_conts, lenV_cross, lenV_row, rg_e hH, sm_n hH, rg_m hH, rg_k hH, rg_x hH, rg_o hH, rg_a hH, sm_i hH, s0, s1, s2, s3, s4, s5, s6]
    rfl
  | false =>
  cases s7 : decide ((f.ins.length : Int) > 20) with
  | true =>
    rw [show sizesBig f = true by simp only [sizesBig, s0, s1, s2, s3, s4, s5, s6, s7, Bool.or_true, Bool.true_or, Bool.false_or]]
    simp -implicitDefEqProofs only [c24, aW, ↓aP, makes, reduceLT, reduceEqDiff, reduceAdd, ↓reduceIte, Nat.reduceBEq, core_box, flat_f, List.length_nil, fadr_ptr, lenV_eqs, lenV_strs, lenV_mems, lenV_conts, lenV_cross, lenV_row, rg_e hH, sm_n hH, rg_m hH, rg_k hH, rg_x hH, rg_o hH, rg_a hH, sm_i hH, s0, s1, s2, s3, s4, s5, s6, s7]
    rfl
  | false =>
  rw [show sizesBig f = false by simp only [sizesBig, s0, s1, s2, s3, s4, s5, s6, s7, Bool.or_self]]
  have L0 := sm0_loop f (by have := of_decide_eq_false s0; omega) [.row f.cs 29] hH f.eqs.length 0 (by omega)
  rw [List.drop_zero, show ((0 : Nat) : Int) = 0 from rfl] at L0
  cases t0 : f.eqs.any eqnBig with
  | true =>
    rw [t0, cond_true] at L0
    simp -implicitDefEqProofs only [c24, aW, ↓aP, makes, reduceLT, reduceEqDiff, reduceAdd, ↓reduceIte, Nat.reduceBEq, core_box, flat_f, List.length_nil, fadr_ptr, lenV_eqs, lenV_strs, lenV_mems, lenV_conts, lenV_cross, lenV_row, rg_e hH, sm_n hH, rg_m hH, rg_k hH, rg_x hH, rg_o hH, rg_a hH, sm_i hH, s0, s1, s2, s3, s4, s5, s6, s7, L0]
    simp only [Bool.not_true, Bool.not_false, Bool.false_and, Bool.and_false, Bool.true_and]
    rfl
  | false =>
  rw [t0, cond_false] at L0
  have L1 := sm1_loop f (by have := of_decide_eq_false s2; omega) [.row f.cs 29] hH f.mems.length 0 (by omega)
  rw [List.drop_zero, show ((0 : Nat) : Int) = 0 from rfl] at L1
  cases t1 : f.mems.any memBig with
  | true =>
    rw [t1, cond_true] at L1
    simp -implicitDefEqProofs only [c24, aW, ↓aP, makes, reduceLT, reduceEqDiff, reduceAdd, ↓reduceIte, Nat.reduceBEq, core_box, flat_f, List.length_nil, fadr_ptr, lenV_eqs, lenV_strs, lenV_mems, lenV_conts, lenV_cross, lenV_row, rg_e hH, sm_n hH, rg_m hH, rg_k hH, rg_x hH, rg_o hH, rg_a hH, sm_i hH, s0, s1, s2, s3, s4, s5, s6, s7, L0, L1]
    simp only [Bool.not_true, Bool.not_false, Bool.false_and, Bool.and_false, Bool.true_and]
    rfl
  | false =>
  rw [t1, cond_false] at L1
  have L2 := sm2_loop f (by have := of_decide_eq_false s3; omega) [.row f.cs 29] hH f.conts.length 0 (by omega)
  rw [List.drop_zero, show ((0 : Nat) : Int) = 0 from rfl] at L2
  cases t2 : f.conts.any contBig with
  | true =>
    rw [t2, cond_true] at L2
    simp -implicitDefEqProofs only [c24, aW, ↓aP, makes, reduceLT, reduceEqDiff, reduceAdd, ↓reduceIte, Nat.reduceBEq, core_box, flat_f, List.length_nil, fadr_ptr, lenV_eqs, lenV_strs, lenV_mems, lenV_conts, lenV_cross, lenV_row, rg_e hH, sm_n hH, rg_m hH, rg_k hH, rg_x hH, rg_o hH, rg_a hH, sm_i hH, s0, s1, s2, s3, s4, s5, s6, s7, L0, L1, L2]
    simp only [Bool.not_true, Bool.not_false, Bool.false_and, Bool.and_false, Bool.true_and]
    rfl
  | false =>
  rw [t2, cond_false] at L2
  have L3 := sm4_loop f (by have := of_decide_eq_false s4; omega) [.row f.cs 29] hH f.cross.length 0 (by omega)
  rw [List.drop_zero, show ((0 : Nat) : Int) = 0 from rfl] at L3
  cases t3 : f.cross.any crossBig with
  | true =>
    rw [t3, cond_true] at L3
    simp -implicitDefEqProofs only [c24, aW, ↓aP, makes, reduceLT, reduceEqDiff, reduceAdd, ↓reduceIte, Nat.reduceBEq, core_box, flat_f, List.length_nil, fadr_ptr, lenV_eqs, lenV_strs, lenV_mems, lenV_conts, lenV_cross, lenV_row, rg_e hH, sm_n hH, rg_m hH, rg_k hH, rg_x hH, rg_o hH, rg_a hH, sm_i hH, s0, s1, s2, s3, s4, s5, s6, s7, L0, L1, L2, L3]
    simp only [Bool.not_true, Bool.not_false, Bool.false_and, Bool.and_false, Bool.true_and]
    rfl
  | false =>
  rw [t3, cond_false] at L3
  simp -implicitDefEqProofs only [c24, aW, ↓aP, makes, reduceLT, reduceEqDiff, reduceAdd, ↓reduceIte, Nat.reduceBEq, core_box, flat_f, List.length_nil, fadr_ptr, lenV_eqs, lenV_strs, lenV_mems, lenV_conts, lenV_cross, lenV_row, rg_e hH, sm_n hH, rg_m hH, rg_k hH, rg_x hH, rg_o hH, rg_a hH, sm_i hH, s0, s1, s2, s3, s4, s5, s6, s7, L0, L1, L2, L3]
  rfl
theorem small_call (f : FlatV) (H : List AO) (id : Nat) : callV cw mds 24 [flatA f] H id = some (.val (litB (smallOk f)) none) := callV_pureA rfl rfl (small_tells f) rfl
end
section
theorem fits_of_small (f : FlatV) (h : smallOk f = true) : FitsF f := by
  simp only [smallOk, Bool.and_eq_true, Bool.not_eq_true', sizesBig, Bool.or_eq_false_iff, decide_eq_false_iff_not, List.any_eq_false, eqnBig, memBig, contBig, crossBig, Bool.not_eq_true] at h
  obtain ⟨⟨⟨⟨⟨⟨⟨⟨⟨⟨⟨s0, s1⟩, s2⟩, s3⟩, s4⟩, s5⟩, s6⟩, s7⟩, e⟩, m⟩, k⟩, x⟩ := h
  refine ⟨by omega, by omega, by omega, by omega, by omega, by omega, by omega, fun q hq => ?_, fun q hq => ?_, fun q hq => ?_, fun q hq => ?_, fun q hq => ?_⟩
  · have := (e q hq).1.1.1; omega
  · have := (m q hq).1; omega
  · have := (k q hq).1.1; omega
  · have := (k q hq).1.2; omega
  · have := (x q hq).1; omega
end
section
variable {call : CallF} {mt : MtF} {md : FuncId → Md}
def RowA (A : AV) (l : List Int) : Prop := (∃ c, A = rowC l c) ∨ ∃ e c, A = .sl e [] c ∧ l = []
theorem RowA.of (l : List Int) (c : Option Nat) : RowA (rowC l c) l := .inl ⟨c, rfl⟩
theorem RowA.nil : RowA (.sl 0 [] (some 0)) [] := .inr ⟨0, some 0, rfl, rfl⟩
theorem RowA.nilE (e : Nat) (c : Option Nat) : RowA (.sl e [] c) [] := .inr ⟨e, c, rfl, rfl⟩
theorem RowA.lenV {A : AV} {l : List Int} (h : RowA A l) : Ai.lenV A = some (litI .i64 l.length) := by
  rcases h with ⟨c, rfl⟩ | ⟨e, c, rfl, rfl⟩
  · exact lenV_row l c
  · rfl
theorem RowA.iadr {A : AV} {l : List Int} (h : RowA A l) {n : Nat} {x : Int} (hn : l[n]? = some x) : Ai.iadr 1 A (litI .i64 n) = some (.ip [litI .i64 x]) := by
  rcases h with ⟨c, rfl⟩ | ⟨e, c, rfl, rfl⟩
  · rw [iadr_row, hn]; rfl
  · cases hn
theorem RowA.whole {A : AV} {l : List Int} (h : RowA A l) : Ai.whole A = true := by
  rcases h with ⟨c, rfl⟩ | ⟨e, c, rfl, rfl⟩ <;> rfl
theorem RowA.cell {A : AV} {l : List Int} (h : RowA A l) : Ai.cellA A = true ∧ cellsOf A = [A] := by
  rcases h with ⟨c, rfl⟩ | ⟨e, c, rfl, rfl⟩ <;> exact ⟨rfl, rfl⟩
def planA (O S : AV) (n : Int) : AV := .agg [O, S, litI .i64 n]
def small25 (f : FlatV) : Bool := smallOk f && decide (f.eqs.length ≤ 25)
theorem small25_1 {f : FlatV} (h : small25 f = true) : smallOk f = true ∧ f.eqs.length ≤ 25 := by simpa [small25] using h
theorem le25 (n : Nat) : decide ((n : Int) ≤ 25) = decide (n ≤ 25) := by congr 1; simp only [eq_iff_iff]; omega
theorem small15_tells (f : FlatV) : ∃ H', cw 15 [flatA f] [] = some (.ret (litB (small25 f)), H') := by
  refine ⟨_, cw_of fn15 (c := c15) (r := (.ret (litB (small25 f)), [.row f.cs 29])) rfl rfl rfl rfl ?_⟩
  have lA : Ai.load [.row f.cs 29] (some 8) (.ptr 0 0) = some (.agg f.cs) := load_agg rfl rfl
  have l3 : Ai.load [.row f.cs 29] none (.ptr 0 3) = some (eqsA f.eqs) := rfl
  have hs : ∀ id, callV cw mds 24 [.agg f.cs] [.row f.cs 29] id = some (.val (litB (smallOk f)) none) := fun id => small_call f [.row f.cs 29] id
  unfold small25
  cases h : smallOk f with
  | false =>
    rw [h] at hs
    simp -implicitDefEqProofs only [c15, aW, ↓aP, makes, reduceLT, reduceEqDiff, reduceAdd, core_box, flat_f, List.length_nil, lA, hs]
    rfl
  | true =>
    rw [h] at hs
    simp -implicitDefEqProofs only [c15, aW, ↓aP, makes, reduceLT, reduceEqDiff, reduceAdd, core_box, flat_f, List.length_nil, lA, hs, fadr_ptr, l3, lenV_eqs, le25]
    rfl
theorem small15_call (f : FlatV) (H : List AO) (id : Nat) : callV cw mds 15 [flatA f] H id = some (.val (litB (small25 f)) none) := by
  obtain ⟨H', h⟩ := small15_tells f
  exact callV_pureA rfl rfl h rfl
end
section
variable {call : CallF} {mt : MtF} {md : FuncId → Md}
def SlX (A : AV) (l : List Int) (o : List Obj1) : Prop :=
  (∃ e, A = .sl e [] (some 0) ∧ l = [] ∧ o = []) ∨ ∃ p z, z.all whole = true ∧ A = .own p 0 l.length 1 none ∧ o = [(p, cellsI l ++ z, 3)]
theorem SlX.nil (e : Nat) : SlX (.sl e [] (some 0)) [] [] := .inl ⟨e, rfl, rfl, rfl⟩
theorem SlX.own (p : Nat) (l : List Int) (z : List AV) (hz : z.all whole = true) : SlX (.own p 0 l.length 1 none) l [(p, cellsI l ++ z, 3)] := .inr ⟨p, z, hz, rfl, rfl⟩
theorem SlX.lenV {A : AV} {l : List Int} {o : List Obj1} (h : SlX A l o) : Ai.lenV A = some (litI .i64 l.length) := by
  rcases h with ⟨e, rfl, rfl, _⟩ | ⟨p, z, _, rfl, _⟩ <;> rfl
theorem SlX.cell {A : AV} {l : List Int} {o : List Obj1} (h : SlX A l o) : cellsOf A = [A] ∧ Ai.cellA A = true := by
  rcases h with ⟨e, rfl, rfl, _⟩ | ⟨p, z, _, rfl, _⟩ <;> exact ⟨rfl, rfl⟩
def App (x : Option Out) (H : List AO) (a : AV) (H' : List AO) : Prop := (x = some (.val a none) ∧ H' = H) ∨ (∃ b, x = some (.val a (some b)) ∧ H' = H ++ [b]) ∨ x = some (.wr a H')
theorem App.opS {x : Option Out} {H H' : List AO} {a : AV} (h : App x H a H') (d : Option Nat) (fr : Fr) (k : Fr → List AO → Option S) : Ai.opS x d fr H k = k (putD fr d a) H' := by
  rcases h with ⟨rfl, rfl⟩ | ⟨b, rfl, rfl⟩ | rfl <;> rfl
theorem App.tlS {x : Option Out} {H H' : List AO} {a : AV} (h : App x H a H') (d : Option Nat) (fr : Fr) (all : List O) (last : Bool) (k : Fr → List AO → Option S) : Ai.tlS x d fr H all last k = k (putD fr d a) H' := by
  rcases h with ⟨rfl, rfl⟩ | ⟨b, rfl, rfl⟩ | rfl <;> rfl
theorem RowA.elems {A : AV} {l : List Int} (h : RowA A l) (H : List AO) : Ai.elems H 1 A = some (l.length, cellsI l) := by
  rcases h with ⟨c, rfl⟩ | ⟨e, c, rfl, rfl⟩
  · simp only [rowC, Ai.elems, BEq.rfl, Bool.true_or, cond_true, List.length_map]
    congr 2
    simp only [cellsI]
    induction l with
    | nil => rfl
    | cons x l ih => simp only [List.map_cons, List.flatten_cons, ih, List.singleton_append]
  · simp only [Ai.elems, List.isEmpty_nil, Bool.or_true, cond_true]; rfl
theorem SlX.append {A : AV} {l : List Int} {o d : List Obj1} {H : List AO} {Y : AV} {ys : List Int} (S : SlX A l o) (O : Own H (o ++ d)) (hY : RowA Y ys) (hb : l.length + ys.length ≤ 1000000) :
    ∃ A' o' H', App (Ai.append H H.length 1 8 3 A Y) H A' H' ∧ SlX A' (l ++ ys) o' ∧ Own H' (o' ++ d) := by
  cases hys : ys with
  | nil =>
    subst hys
    refine ⟨A, o, H, .inl ⟨?_, rfl⟩, by rw [List.append_nil]; exact S, O⟩
    unfold Ai.append
    rw [hY.elems]
    rcases S with ⟨e, rfl, rfl, _⟩ | ⟨p, z, _, rfl, _⟩ <;> rfl
  | cons y r =>
    have hn : (ys.length == 0) = false := by rw [hys]; rfl
    have h8 : Nat.ble ((l.length + ys.length) * 8) 140737488355328 = true := Nat.ble_eq_true_of_le (by omega)
    rw [← hys]
    rcases S with ⟨e, rfl, rfl, rfl⟩ | ⟨p, z, hz, rfl, rfl⟩
    · refine ⟨.own H.length 0 ys.length 1 none, [(H.length, cellsI ys ++ [], 3)], H ++ [.row (cellsI ys) 3], .inr (.inl ⟨.row (cellsI ys) 3, ?_, rfl⟩), by rw [List.nil_append]; exact SlX.own H.length ys [] rfl, ?_⟩
      · unfold Ai.append
        rw [hY.elems]
        simp only [Option.bind_some, hn, cond_false, List.length_nil, BEq.rfl, List.isEmpty_nil, Bool.or_true, Bool.and_true, Bool.true_and, Nat.zero_add, List.flatten_nil, List.nil_append]
        rw [List.length_nil, Nat.zero_add] at h8
        rw [h8]; rfl
      · rw [List.append_nil]; exact O.new (cellsI ys) 3
    · have hp : H[p]? = some (.row (cellsI l ++ z) 3) := O.head
      refine ⟨.own H.length 0 (l ++ ys).length 1 none, [(H.length, cellsI (l ++ ys) ++ [], 3)], setL H p .dead ++ [.row (cellsI (l ++ ys)) 3], .inr (.inr ?_), SlX.own H.length (l ++ ys) [] rfl, ?_⟩
      · have h2 : (cellsI l ++ z).take (l.length * 1) = cellsI l := by rw [Nat.mul_one, List.take_left' (by simp [cellsI])]
        have h3 : Nat.ble (0 + l.length * 1) (cellsI l ++ z).length = true := Nat.ble_eq_true_of_le (by simp [cellsI])
        unfold Ai.append
        rw [hY.elems]
        simp only [Option.bind_some, hn, cond_false, rowAt_of hp, BEq.rfl, h3, h8, Bool.and_self, cond_true, List.drop_zero, h2]
        simp [cellsI]
      · have On := (Own.kill O).new (cellsI (l ++ ys)) 3
        rw [setL_len] at On
        rw [List.append_nil]; exact On
def bslV (H : List AO) (e n : Nat) (zero : List AV) (ps : List (Nat × AV)) : Option Out := (fill (reps n zero) (ps.map fun p => (p.1 * e, e, p.2))).bind fun cs =>
  (mapL (frz H frzF) cs).bind fun p => bif p.2.isEmpty then some (.val (.sl e (chunks e n p.1) (some n)) none) else none
theorem core_bsl {H : List AO} {id : Nat} {fr : Fr} (e n : Nat) (z : List AV) (ps : List (Nat × X)) (t : TypeId) : core call mt md H id (.bslice false e n z ps t) fr = bslV H e n z (ps.map fun p => (p.1, ev fr p.2)) := by
  show ((fill (reps n z) (ps.map fun p => (p.1 * e, e, ev fr p.2))).bind fun cs => _) = _
  unfold bslV
  rw [List.map_map]
  rfl
theorem bslV_0 (H : List AO) (z : List AV) : bslV H 1 0 z [] = some (.val (.sl 1 [] (some 0)) none) := rfl
theorem bslV_1 (H : List AO) (z : AV) (k : IntKind) (n : Int) : bslV H 1 1 [z] [(0, litI k n)] = some (.val (.sl 1 [[litI k n]] (some 1)) none) := rfl
theorem RowA.cases {A : AV} {l : List Int} (h : RowA A l) : ∃ e xs c, A = .sl e xs c := by
  rcases h with ⟨c, rfl⟩ | ⟨e, c, rfl, rfl⟩
  · exact ⟨_, _, _, rfl⟩
  · exact ⟨_, _, _, rfl⟩
theorem bslV_r2 (H : List AO) (z : AV) {A B : AV} {a b : List Int} (hA : RowA A a) (hB : RowA B b) : bslV H 1 2 [z] [(0, A), (1, B)] = some (.val (.sl 1 [[A], [B]] (some 2)) none) := by
  obtain ⟨e, xs, c, rfl⟩ := hA.cases
  obtain ⟨e2, xs2, c2, rfl⟩ := hB.cases
  rfl
theorem bslV_r3 (H : List AO) (z : AV) {A B C : AV} {a b c : List Int} (hA : RowA A a) (hB : RowA B b) (hC : RowA C c) : bslV H 1 3 [z] [(0, A), (1, B), (2, C)] = some (.val (.sl 1 [[A], [B], [C]] (some 3)) none) := by
  obtain ⟨e, xs, c, rfl⟩ := hA.cases
  obtain ⟨e2, xs2, c2, rfl⟩ := hB.cases
  obtain ⟨e3, xs3, c3, rfl⟩ := hC.cases
  rfl
theorem core_cap {H : List AO} {id : Nat} {fr : Fr} (x : X) : core call mt md H id (.cap x) fr = valO (capV (ev fr x)) := rfl
theorem core_apm {H : List AO} {id : Nat} {fr : Fr} (e bytes : Nat) (z : List AV) (t : TypeId) (x n : X) : core call mt md H id (.apm e bytes z t x n) fr = apmV id e bytes z t (ev fr x) (ev fr n) := rfl
theorem capV_nil : capV (.sl 0 [] (some 0)) = some (litI .i64 0) := rfl
theorem grow0_tells : cw 69 [.sl 0 [] (some 0), litI .i64 0] [] = some (.ret (.sl 0 [] (some 0)), []) := by
  refine cw_of fn69 (c := c69) rfl rfl rfl rfl ?_
  simp -implicitDefEqProofs only [c69, aW, ↓aP, makes, reduceLT, reduceEqDiff, reduceAdd, core_cap, core_apm, capV_nil, List.length_nil, Int.ofNat_zero, Int.lt_irrefl, show IntKind.wrap .i64 (0 - 0) = 0 from rfl]
  rfl
theorem grow1_tells (n : Nat) (h0 : 0 < n) (hn : n ≤ 1000000) : cw 69 [.sl 0 [] (some 0), litI .i64 n] [] = some (.ret (.own 0 0 0 1 none), [.row (List.replicate n (litI .i64 0)) 3]) := by
  refine cw_of fn69 (c := c69) rfl rfl rfl rfl ?_
  have h1 : ¬ (n : Int) < 0 := by omega
  have h2 : IntKind.wrap .i64 ((n : Int) - 0) = n := by rw [Go.Ai.wrap_small] <;> omega
  have h3 : (0 : Int) < n := by omega
  have sl1 : slice 1 (.sl 0 [] (some 0)) none (some (litI .i64 0)) none = some (.sl 1 [] (some 0)) := rfl
  have ap : ∀ id, apmV id 1 8 [litI .i64 0] 3 (.sl 1 [] (some 0)) (litI .i64 n) = some (.val (.own id 0 n 1 none) (some (.row (List.replicate n (litI .i64 0)) 3))) := by
    intro id
    have e1 : (n : Int) * 8 ≤ 140737488355328 := by omega
    have e2 : (n : Int) ≤ 140737488355328 := by omega
    simp only [apmV, litI, h3, e1, e2, decide_true, Bool.and_self, cond_true, Int.toNat_natCast, Int.cast_ofNat_Int, reps_one]
  have sl2 : ∀ r, slice 1 (.own r 0 n 1 none) none (some (litI .i64 0)) none = some (.own r 0 0 1 none) := fun r => by
    rw [slice_own_to (by omega) (by omega)]; rfl
  simp -implicitDefEqProofs only [c69, aW, ↓aP, makes, reduceLT, reduceEqDiff, reduceAdd, core_cap, core_apm, capV_nil, List.length_nil, Int.ofNat_zero, h1, show IntKind.wrap .i64 (0 - 0) = 0 from rfl, h2, h3, sl1, ap, sl2]
  rfl
theorem whole_zeros (n : Nat) : (List.replicate n (litI .i64 0)).all whole = true := by
  rw [List.all_eq_true]; intro a ha; rw [List.eq_of_mem_replicate ha]; rfl
theorem grow0_call (H : List AO) (id : Nat) : callV cw mds 69 [.sl 0 [] (some 0), litI .i64 0] H id = some (.val (.sl 0 [] (some 0)) none) := callV_ownP rfl rfl grow0_tells rfl
theorem grow1_call (n : Nat) (h0 : 0 < n) (hn : n ≤ 1000000) (H : List AO) (id : Nat) : callV cw mds 69 [.sl 0 [] (some 0), litI .i64 n] H id = some (.val (.own id 0 0 1 none) (some (.row (List.replicate n (litI .i64 0)) 3))) :=
  callV_own rfl rfl (grow1_tells n h0 hn) rfl (whole_zeros n)
abbrev Rows := List (AV × List Int)
def Rows.ok (L : Rows) : Prop := ∀ p ∈ L, RowA p.1 p.2
def Rows.cat (L : Rows) : List Int := L.flatMap (·.2)
def catA (L : Rows) (c : Option Nat) : AV := .sl 1 (L.map fun p => [p.1]) c
theorem lenV_cat (L : Rows) (c : Option Nat) : lenV (catA L c) = some (litI .i64 L.length) := by simp [catA, lenV]
theorem iadr_cat (L : Rows) (c : Option Nat) (n : Nat) : iadr 1 (catA L c) (litI .i64 n) = (L[n]?).map fun p => .ip [p.1] := by
  rw [catA, iadr_sl]; simp [Function.comp_def]
theorem cat_cons (p : AV × List Int) (L : Rows) : Rows.cat (p :: L) = p.2 ++ Rows.cat L := by simp [Rows.cat]
theorem cat_loop0 (L : Rows) (c : Option Nat) (hL : L.ok) (H : List AO) (hl : L.length ≤ 1000000) : ∀ (m n s : Nat), m + n = L.length → s + (Rows.cat (L.drop n)).length ≤ 1000000 →
    loopW (codeW call mt md c51l0) [0, 3, 9, 10, 11] [(0, catA L c), (3, litI .i64 s), (9, catA L c), (10, litI .i64 L.length), (11, litI .i64 n)] H =
      some (EX.exit 0, [(0, catA L c), (3, litI .i64 (s + (Rows.cat (L.drop n)).length : Nat)), (9, catA L c), (10, litI .i64 L.length), (11, litI .i64 L.length), (12, litB false)], H)
  | 0, n, s, h, hs => by
    have hn : n = L.length := by omega
    subst hn
    refine loopW_out ?_ (by simp)
    simp -implicitDefEqProofs only [c51l0, aW, ↓aP, makes, reduceLT, reduceEqDiff, reduceAdd, Int.lt_irrefl, List.drop_length, show Rows.cat [] = [] from rfl, List.length_nil, Nat.add_zero]
  | m + 1, n, s, h, hs => by
    have hn : n < L.length := by omega
    have hg : L[n]? = some L[n] := List.getElem?_eq_getElem hn
    have hlt : (n : Int) < L.length := by omega
    have hd : L.drop n = L[n] :: L.drop (n + 1) := List.drop_eq_getElem_cons hn
    rw [hd, cat_cons, List.length_append] at hs
    have ih := cat_loop0 L c hL H hl m (n + 1) (s + L[n].2.length) (by omega) (by omega)
    rw [hd, cat_cons, List.length_append, ← Nat.add_assoc]
    refine loopW_round ?_ ih
    have hr := hL _ (List.getElem_mem hn)
    have hw : IntKind.wrap .i64 ((s : Int) + (L[n].2.length : Int)) = ((s + L[n].2.length : Nat) : Int) := by rw [Go.Ai.wrap_small] <;> omega
    have h0 : ¬ ((s + L[n].2.length : Nat) : Int) < 0 := by omega
    simp -implicitDefEqProofs only [c51l0, aW, ↓aP, makes, reduceLT, reduceEqDiff, reduceAdd, hlt, iadr_cat, hg, hr.lenV, hw, h0, wrap1 (show n < 4611686018427387904 by omega)]
theorem cat_loop1 (L : Rows) (c : Option Nat) (hL : L.ok) (hl : L.length ≤ 1000000) : ∀ (m n : Nat) (A : AV) (l : List Int) (o d : List Obj1) (H : List AO), m + n = L.length → l.length + (Rows.cat (L.drop n)).length ≤ 1000000 → SlX A l o → Own H (o ++ d) →
    ∃ A' o' H', loopW (codeW call mt md c51l1) [6, 25, 26, 27] [(6, A), (25, catA L c), (26, litI .i64 L.length), (27, litI .i64 n)] H =
      some (EX.exit 2, [(6, A'), (25, catA L c), (26, litI .i64 L.length), (27, litI .i64 L.length), (28, litB false)], H') ∧ SlX A' (l ++ Rows.cat (L.drop n)) o' ∧ Own H' (o' ++ d)
  | 0, n, A, l, o, d, H, h, hs, S, O => by
    have hn : n = L.length := by omega
    subst hn
    refine ⟨A, o, H, loopW_out ?_ (by simp), ?_, O⟩
    · simp -implicitDefEqProofs only [c51l1, aW, ↓aP, makes, reduceLT, reduceEqDiff, reduceAdd, Int.lt_irrefl]
    · rw [List.drop_length, show Rows.cat [] = [] from rfl, List.append_nil]; exact S
  | m + 1, n, A, l, o, d, H, h, hs, S, O => by
    have hn : n < L.length := by omega
    have hg : L[n]? = some L[n] := List.getElem?_eq_getElem hn
    have hlt : (n : Int) < L.length := by omega
    have hd : L.drop n = L[n] :: L.drop (n + 1) := List.drop_eq_getElem_cons hn
    rw [hd, cat_cons, List.length_append] at hs
    obtain ⟨A1, o1, H1, ap, S1, O1⟩ := S.append O (hL _ (List.getElem_mem hn)) (by omega)
    obtain ⟨A', o', H', L', S', O'⟩ := cat_loop1 L c hL hl m (n + 1) A1 (l ++ L[n].2) o1 d H1 (by omega) (by simp; omega) S1 O1
    rw [hd, cat_cons, ← List.append_assoc]
    refine ⟨A', o', H', loopW_round ?_ L', S', O'⟩
    simp -implicitDefEqProofs only [c51l1, aW, ↓aP, makes, reduceLT, reduceEqDiff, reduceAdd, hlt, iadr_cat, hg, ap.opS, wrap1 (show n < 4611686018427387904 by omega)]
theorem concat_tells (L : Rows) (c : Option Nat) (hL : L.ok) (hl : L.length ≤ 1000000) (hs : (Rows.cat L).length ≤ 1000000) :
    ∃ A o H', cw 51 [catA L c] [] = some (.ret A, H') ∧ SlX A (Rows.cat L) o ∧ Own H' o ∧ (Rows.cat L = [] → A = .sl 0 [] (some 0)) := by
  have L0 := cat_loop0 (call := cw) (mt := lookM mtl) (md := mds) L c hL [] hl L.length 0 0 (by omega) (by simpa using hs)
  rw [show ((0 : Nat) : Int) = 0 from rfl, List.drop_zero, Nat.zero_add] at L0
  by_cases h0 : Rows.cat L = []
  · have all0 : ∀ (m n : Nat), m + n = L.length → loopW (codeW cw (lookM mtl) mds c51l1) [6, 25, 26, 27] [(6, .sl 0 [] (some 0)), (25, catA L c), (26, litI .i64 L.length), (27, litI .i64 n)] [] =
      some (EX.exit 2, [(6, .sl 0 [] (some 0)), (25, catA L c), (26, litI .i64 L.length), (27, litI .i64 L.length), (28, litB false)], []) := by
      intro m
      induction m with
      | zero =>
        intro n h
        have hn : n = L.length := by omega
        subst hn
        refine loopW_out ?_ (by simp)
        simp -implicitDefEqProofs only [c51l1, aW, ↓aP, makes, reduceLT, reduceEqDiff, reduceAdd, Int.lt_irrefl]
      | succ m ih =>
        intro n h
        have hn : n < L.length := by omega
        have hg : L[n]? = some L[n] := List.getElem?_eq_getElem hn
        have hlt : (n : Int) < L.length := by omega
        refine loopW_round ?_ (ih (n + 1) (by omega))
        have hr := hL _ (List.getElem_mem hn)
        have he : L[n].2 = [] := by
          have : L[n].2 ⊆ Rows.cat L := fun x hx => List.mem_flatMap.2 ⟨_, List.getElem_mem hn, hx⟩
          rw [h0] at this
          exact List.eq_nil_of_subset_nil this
        rw [he] at hr
        have ap : ∀ id, append [] id 1 8 3 (.sl 0 [] (some 0)) L[n].1 = some (.val (.sl 0 [] (some 0)) none) := by
          intro id
          unfold append
          rw [hr.elems]; rfl
        simp -implicitDefEqProofs only [c51l1, aW, ↓aP, makes, reduceLT, reduceEqDiff, reduceAdd, hlt, iadr_cat, hg, ap, wrap1 (show n < 4611686018427387904 by omega)]
    have L1 := all0 L.length 0 (by omega)
    rw [show ((0 : Nat) : Int) = 0 from rfl] at L1
    rw [h0, List.length_nil, show ((0 : Nat) : Int) = 0 from rfl] at L0
    refine ⟨.sl 0 [] (some 0), [], [], cw_of fn51 (c := c51) rfl rfl rfl rfl ?_, by rw [h0]; exact SlX.nil 0, Own.nil, fun _ => rfl⟩
    simp -implicitDefEqProofs only [c51, aW, ↓aP, makes, reduceLT, reduceEqDiff, reduceAdd, lenV_cat, L0, grow0_call, L1]
    rfl
  · have hpos : 0 < (Rows.cat L).length := List.length_pos_iff.2 h0
    have g1 := fun id => grow1_call (Rows.cat L).length hpos hs [] id
    have O1 : Own [AO.row (List.replicate (Rows.cat L).length (litI .i64 0)) 3] ([(0, cellsI [] ++ List.replicate (Rows.cat L).length (litI .i64 0), 3)] ++ []) := by
      refine ⟨by simp, fun x hx => ?_⟩
      simp only [List.append_nil, List.mem_cons, List.not_mem_nil, or_false] at hx
      subst hx; rfl
    obtain ⟨A', o', H', L1, S', O'⟩ := cat_loop1 (call := cw) (mt := lookM mtl) (md := mds) L c hL hl L.length 0 (.own 0 0 0 1 none) [] _ [] _ (by omega) (by simpa using hs) (SlX.own 0 [] (List.replicate (Rows.cat L).length (litI .i64 0)) (whole_zeros _)) O1
    rw [show ((0 : Nat) : Int) = 0 from rfl] at L1
    rw [List.drop_zero, List.nil_append] at S'
    rw [List.append_nil] at O'
    refine ⟨A', o', H', cw_of fn51 (c := c51) rfl rfl rfl rfl ?_, S', O', fun h => absurd h h0⟩
    simp -implicitDefEqProofs only [c51, aW, ↓aP, makes, reduceLT, reduceEqDiff, reduceAdd, lenV_cat, L0, g1, List.length_nil, L1]
    rfl
theorem concat_call (L : Rows) (c : Option Nat) (hL : L.ok) (hl : L.length ≤ 1000000) (hs : (Rows.cat L).length ≤ 1000000) (H : List AO) (d : List Obj1) (O : Own H d) :
    ∃ A o H', App (callV cw mds 51 [catA L c] H H.length) H A H' ∧ SlX A (Rows.cat L) o ∧ Own H' (o ++ d) := by
  obtain ⟨A, o, H', h, S, O', _⟩ := concat_tells L c hL hl hs
  rcases S with ⟨e, rfl, h0, rfl⟩ | ⟨p, z, hz, rfl, rfl⟩
  · exact ⟨.sl e [] (some 0), [], H, .inl ⟨callV_ownP rfl rfl h rfl, rfl⟩, by rw [h0]; exact SlX.nil e, O⟩
  · refine ⟨.own H.length 0 (Rows.cat L).length 1 none, _, _, .inr (.inl ⟨_, callV_own rfl rfl h O'.head (by rw [List.all_append, hz, Bool.and_true, List.all_eq_true]; intro a ha; obtain ⟨b, _, rfl⟩ := List.mem_map.1 ha; rfl), rfl⟩), SlX.own _ _ z hz, O.new _ 3⟩
end
section
variable {call : CallF} {mt : MtF} {md : FuncId → Md}
structure Reads (H : List AO) (A : AV) (l : List Int) : Prop where
  len : Ai.lenV A = some (litI .i64 l.length)
  el : ∀ (j : Nat) (x : Int), l[j]? = some x → ∃ c, iadr 1 A (litI .i64 j) = some c ∧ Ai.load H none c = some (litI .i64 x)
theorem cellsI_at (l : List Int) (n : Nat) : (cellsI l)[n]? = (l[n]?).map (litI .i64) := by simp [cellsI]
theorem load_at {H : List AO} {r off : Nat} {cs : List AV} {t : TypeId} {a : AV} (h : H[r]? = some (.row cs t)) (ha : cs[off]? = some a) : Ai.load H none (.ptr r off) = some a := by rw [load_ptr h, ha]
theorem reads_own {H : List AO} {q : Nat} {l : List Int} {z : List AV} {t : TypeId} {c : Option Nat} (h : H[q]? = some (.row (cellsI l ++ z) t)) : Reads H (.own q 0 l.length 1 c) l := by
  refine ⟨rfl, fun j x hj => ?_⟩
  have hlt := (List.getElem?_eq_some_iff.1 hj).1
  refine ⟨.ptr q j, ?_, load_at h ?_⟩
  · rw [iadr_own, if_pos ⟨by omega, by omega⟩]; simp
  · rw [List.getElem?_append_left (by simp [cellsI]; omega), cellsI_at, hj]; rfl
theorem index34p_loop (A : AV) (l : List Int) (p : Int → Bool) (fv : AV) (H : List AO) (R : Reads H A l) (hp : ∀ x id, fnV cw mds fv [litI .i64 x] H id = some (.val (litB (p x)) none)) (hl : l.length ≤ 1000000) : ∀ (m n : Nat), m + n = l.length →
    loopW (codeW cw (lookM mtl) mds c34l0) [0, 1, 7, 8] [(0, A), (1, fv), (7, litI .i64 l.length), (8, litI .i64 n)] H =
      some (if findF p n (l.drop n) = -1 then (EX.exit 0, [(0, A), (1, fv), (7, litI .i64 l.length), (8, litI .i64 l.length), (9, litB false)], H) else (.ret, [(4, litI .i64 (findF p n (l.drop n)))], H))
  | 0, n, h => by
    have hn : n = l.length := by omega
    subst hn
    rw [if_pos (by simp [findF])]
    refine loopW_out ?_ (by simp)
    simp -implicitDefEqProofs only [c34l0, aW, ↓aP, makes, reduceLT, reduceEqDiff, reduceAdd, Int.lt_irrefl]
  | m + 1, n, h => by
    have hn : n < l.length := by omega
    have hg : l[n]? = some l[n] := List.getElem?_eq_getElem hn
    obtain ⟨c, hc1, hc2⟩ := R.el n _ hg
    have hlt : (n : Int) < l.length := by omega
    have hd : l.drop n = l[n] :: l.drop (n + 1) := List.drop_eq_getElem_cons hn
    have hx := fun id => hp l[n] id
    rw [hd, findF]
    cases hc : p l[n] with
    | true =>
      rw [hc] at hx
      rw [cond_true, if_neg (by omega)]
      refine loopW_out ?_ (by simp)
      simp -implicitDefEqProofs only [c34l0, aW, ↓aP, makes, reduceLT, reduceEqDiff, reduceAdd, hc1, hc2, hlt, hx]
    | false =>
      rw [hc] at hx
      rw [cond_false]
      refine loopW_round ?_ (index34p_loop A l p fv H R hp hl m (n + 1) (by omega))
      simp -implicitDefEqProofs only [c34l0, aW, ↓aP, makes, reduceLT, reduceEqDiff, reduceAdd, hc1, hc2, hlt, hx, wrap1 (show n < 4611686018427387904 by omega)]
theorem index34p_tells (A : AV) (l : List Int) (p : Int → Bool) (fv : AV) (H : List AO) (R : Reads H A l) (hp : ∀ x id, fnV cw mds fv [litI .i64 x] H id = some (.val (litB (p x)) none)) (hl : l.length ≤ 1000000) :
    cw 34 [A, fv] H = some (.ret (litI .i64 (findF p 0 l)), H) := by
  refine cw_of fn34 (c := c34) rfl rfl rfl rfl ?_
  have L := index34p_loop A l p fv H R hp hl l.length 0 (by omega)
  rw [List.drop_zero, show ((0 : Nat) : Int) = 0 from rfl] at L
  by_cases ha : findF p 0 l = -1
  · rw [if_pos ha] at L
    rw [ha]
    simp -implicitDefEqProofs only [c34, aW, ↓aP, makes, reduceLT, reduceEqDiff, reduceAdd, R.len, L]
    rfl
  · rw [if_neg ha] at L
    simp -implicitDefEqProofs only [c34, aW, ↓aP, makes, reduceLT, reduceEqDiff, reduceAdd, R.len, L]
    rfl
theorem findF_del (p : Int → Bool) : ∀ (l : List Int) (n : Nat), (findF p n l = -1 ∧ l.filter (fun x => !p x) = l) ∨ ∃ i : Nat, findF p n l = ((n + i : Nat) : Int) ∧ i < l.length ∧ (l.take (i + 1)).filter (fun x => !p x) = l.take i
  | [], n => .inl ⟨rfl, rfl⟩
  | x :: r, n => by
    cases h : p x with
    | true =>
      right
      exact ⟨0, by simp [findF, h], by simp, by simp [h]⟩
    | false =>
      simp only [findF, h, cond_false]
      rcases findF_del p r (n + 1) with ⟨h1, h2⟩ | ⟨i, h1, h2, h3⟩
      · left; exact ⟨h1, by simp [h, h2]⟩
      · right
        refine ⟨i + 1, by rw [h1]; congr 1; omega, by simp; omega, ?_⟩
        rw [List.take_succ_cons, List.filter_cons_of_pos (by simp [h]), h3]; rfl
theorem slice_own_from {e r off n z : Nat} {k : IntKind} (h : z ≤ n) : slice e (.own r off n e none) (some (litI k (z : Int))) none none = some (.own r (off + z * e) (n - z) e none) := by
  have h1 : ((z : Int) ≤ n) := by omega
  simp only [slice, BEq.rfl, cond_true, cuts, bound, litI, Int.natCast_nonneg, h1, decide_true, Bool.and_self, Option.bind_some, Int.toNat_natCast, Option.bind_none]
theorem del_loop (q : Nat) (l : List Int) (z : List AV) (p : Int → Bool) (fv : AV) (hp : ∀ x H id, fnV cw mds fv [litI .i64 x] H id = some (.val (litB (p x)) none)) (hl : l.length ≤ 1000000) (d : List Obj1) : ∀ (m j i : Nat) (r : List Int) (H : List AO), m + j = l.length → i ≤ j → r.length = l.length → r.take i = (l.take j).filter (fun x => !p x) → r.drop j = l.drop j → Own H ((q, cellsI r ++ z, 3) :: d) →
    ∃ (r' : List Int) (i' : Nat) (H' : List AO), loopW (codeW cw (lookM mtl) mds c76l0) [0, 1, 5, 6] [(0, .own q 0 l.length 1 none), (1, fv), (5, litI .i64 i), (6, litI .i64 j)] H =
      some (EX.exit 0, [(0, .own q 0 l.length 1 none), (1, fv), (5, litI .i64 i'), (6, litI .i64 l.length), (19, litB false)], H') ∧ r'.length = l.length ∧ i' ≤ l.length ∧ r'.take i' = l.filter (fun x => !p x) ∧ Own H' ((q, cellsI r' ++ z, 3) :: d) ∧ H'.length = H.length
  | 0, j, i, r, H, hm, hij, hr, ht, hd, O => by
    have hj : j = l.length := by omega
    subst hj
    refine ⟨r, i, H, loopW_out ?_ (by simp), hr, hij, by rw [ht, List.take_length], O, rfl⟩
    simp -implicitDefEqProofs only [c76l0, aW, ↓aP, makes, reduceLT, reduceEqDiff, reduceAdd, Int.lt_irrefl]
  | m + 1, j, i, r, H, hm, hij, hr, ht, hd, O => by
    have hj : j < l.length := by omega
    have hjr : j < r.length := by omega
    have hlt : (j : Int) < l.length := by omega
    have h0 : (0 : Int) ≤ j := by omega
    have hx : r[j] = l[j] := by
      rw [List.drop_eq_getElem_cons hjr, List.drop_eq_getElem_cons hj] at hd
      exact (List.cons.inj hd).1
    have hd' : r.drop (j + 1) = l.drop (j + 1) := by
      rw [List.drop_eq_getElem_cons hjr, List.drop_eq_getElem_cons hj] at hd
      exact (List.cons.inj hd).2
    have hg : (cellsI r ++ z)[j]? = some (litI .i64 l[j]) := by
      rw [List.getElem?_append_left (by simp [cellsI]; omega), cellsI_at, List.getElem?_eq_getElem hjr, hx]; rfl
    have hw := wrap1 (show j < 4611686018427387904 by omega)
    have tk : l.take (j + 1) = l.take j ++ [l[j]] := by rw [List.take_add_one, List.getElem?_eq_getElem hj]; rfl
    have hpx := fun id => hp l[j] H id
    cases hc : p l[j] with
    | true =>
      rw [hc] at hpx
      obtain ⟨r', i', H', L, q1, q2, q3, q4, q5⟩ := del_loop q l z p fv hp hl d m (j + 1) i r H (by omega) (by omega) hr (by rw [ht, tk, List.filter_append]; simp [hc]) hd' O
      refine ⟨r', i', H', loopW_round ?_ L, q1, q2, q3, q4, q5⟩
      simp -implicitDefEqProofs only [c76l0, aW, ↓aP, makes, reduceLT, reduceEqDiff, reduceAdd, hlt, h0, and_self, Nat.mul_one, load_at O.head hg, hpx, hw]
    | false =>
      rw [hc] at hpx
      have hi : (i : Int) < l.length := by omega
      have hi0 : (0 : Int) ≤ i := by omega
      have O1 := O.set (cellsI (r.set i l[j]) ++ z) 3
      have st : storeAt H 1 (.ptr q i) (litI .i64 l[j]) = some (setL H q (.row (cellsI (r.set i l[j]) ++ z) 3)) := by
        rw [store_ptr O.head (by simp [cellsI]; omega) rfl rfl, List.set_append_left _ _ (by simp [cellsI]; omega)]
        simp [cellsI]
      have hwi := wrap1 (show i < 4611686018427387904 by omega)
      obtain ⟨r', i', H', L, q1, q2, q3, q4, q5⟩ := del_loop q l z p fv hp hl d m (j + 1) (i + 1) (r.set i l[j]) _ (by omega) (by omega) (by simpa using hr) (by
        rw [tk, List.filter_append, ← ht]
        rw [List.take_add_one, List.getElem?_set_self (by omega), List.take_set_of_le (by omega)]
        simp [hc]) (by rw [List.drop_set_of_lt (by omega)]; exact hd') O1
      refine ⟨r', i', H', loopW_round ?_ L, q1, q2, q3, q4, by rw [q5, setL_len]⟩
      simp -implicitDefEqProofs only [c76l0, aW, ↓aP, makes, reduceLT, reduceEqDiff, reduceAdd, hlt, h0, hi, hi0, and_self, Nat.mul_one, load_at O.head hg, hpx, st, hwi, hw]
theorem del_tells {q : Nat} {l : List Int} {z : List AV} (hz : z.all whole = true) {p : Int → Bool} {fv : AV} (hp : ∀ x H id, fnV cw mds fv [litI .i64 x] H id = some (.val (litB (p x)) none)) (hl : l.length ≤ 1000000) {d : List Obj1} {H : List AO} (O : Own H ((q, cellsI l ++ z, 3) :: d)) :
    ∃ z' H', cw 76 [.own q 0 l.length 1 none, fv] H = some (.ret (.own q 0 (l.filter fun x => !p x).length 1 none), H') ∧ z'.all whole = true ∧ H'.length = H.length ∧ Own H' ((q, cellsI (l.filter fun x => !p x) ++ z', 3) :: d) := by
  have hfind := index34p_tells (.own q 0 l.length 1 none) l p fv H (reads_own O.head) (fun x id => hp x H id) hl
  have hcall : ∀ id, callV cw mds 34 [.own q 0 l.length 1 none, fv] H id = some (.wr (litI .i64 (findF p 0 l)) H) := fun id => callV_same rfl hfind rfl
  rcases findF_del p l 0 with ⟨h1, h2⟩ | ⟨i, h1, h2, h3⟩
  · rw [h2]
    rw [h1] at hcall
    refine ⟨z, H, cw_of fn76 (c := c76) rfl rfl rfl rfl ?_, hz, rfl, O⟩
    simp -implicitDefEqProofs only [c76, aW, ↓aP, makes, reduceLT, reduceEqDiff, reduceAdd, hcall]
    rfl
  · rw [Nat.zero_add] at h1
    rw [h1] at hcall
    have hne : (((i : Nat) : Int) == -1) = false := by rw [beq_eq_false_iff_ne]; omega
    obtain ⟨r', i', H', L, q1, q2, q3, q4, q5⟩ := del_loop q l z p fv hp hl d (l.length - (i + 1)) (i + 1) i l H (by omega) (by omega) rfl h3.symm rfl O
    have hi' : i' = (l.filter fun x => !p x).length := by
      have := congrArg List.length q3
      rw [List.length_take, q1, Nat.min_eq_left q2] at this
      exact this
    subst hi'
    have hw := wrap1 (show i < 4611686018427387904 by omega)
    have hz0 : ∀ n, (reps n [litI .i64 0]).all whole = true := fun n => by rw [reps_one]; exact whole_zeros n
    have hHl : ∀ (H1 : List AO) (S : List AV), ∃ z', (cellsI (l.filter fun x => !p x) ++ S) = cellsI (l.filter fun x => !p x) ++ z' := fun _ S => ⟨S, rfl⟩
    have clr : ∃ z' H2, clrAt H' 1 [litI .i64 0] (.own q (0 + (l.filter fun x => !p x).length * 1) (l.length - (l.filter fun x => !p x).length) 1 none) = some H2 ∧ z'.all whole = true ∧ H2.length = H'.length ∧ Own H2 ((q, cellsI (l.filter fun x => !p x) ++ z', 3) :: d) := by
      by_cases h0 : l.length - (l.filter fun x => !p x).length = 0
      · refine ⟨z, H', ?_, hz, rfl, ?_⟩
        · rw [h0]; rfl
        · have : r' = l.filter fun x => !p x := by
            rw [← q3, List.take_of_length_le (by omega)]
          rw [← this]; exact q4
      · have hb : ((l.length - (l.filter fun x => !p x).length) == 0) = false := by simpa using h0
        have hble : Nat.ble ((l.filter fun x => !p x).length * 1 + (l.length - (l.filter fun x => !p x).length) * 1) (cellsI r' ++ z).length = true := Nat.ble_eq_true_of_le (by simp [cellsI]; omega)
        refine ⟨reps (l.length - (l.filter fun x => !p x).length) [litI .i64 0] ++ z, _, ?_, by rw [List.all_append, hz0, hz]; rfl, setL_len _ _ _, q4.set _ 3⟩
        simp only [clrAt, hb, cond_false, rowAt_of q4.head, Option.bind_some, BEq.rfl, List.length_cons, List.length_nil, Nat.zero_add, Bool.true_and, hble, Bool.and_true, cond_true]
        congr 3
        rw [Nat.mul_one, Nat.mul_one, List.take_append_of_le_length (by simp [cellsI]; omega)]
        rw [show cellsI r' = cellsI (r'.take (l.filter fun x => !p x).length) ++ cellsI (r'.drop (l.filter fun x => !p x).length) by rw [← List.take_append_drop (l.filter fun x => !p x).length r']; simp [cellsI]]
        rw [List.take_left' (by simp [cellsI]; omega), q3, List.append_assoc]
        congr 2
        rw [show (l.filter fun x => !p x).length + (l.length - (l.filter fun x => !p x).length) = l.length by omega]
        rw [List.drop_left']
        rw [List.length_append, cellsI_len, cellsI_len, List.length_drop, q1]; omega
    obtain ⟨z', H2, hclr, hz', hl2, O2⟩ := clr
    simp only [Nat.zero_add, Nat.mul_one] at hclr
    have sl1 : slice 1 (.own q 0 l.length 1 none) (some (litI .i64 ((l.filter fun x => !p x).length : Int))) none none = some (.own q (0 + (l.filter fun x => !p x).length * 1) (l.length - (l.filter fun x => !p x).length) 1 none) := slice_own_from q2
    have sl2 : slice 1 (.own q 0 l.length 1 none) none (some (litI .i64 ((l.filter fun x => !p x).length : Int))) none = some (.own q 0 (l.filter fun x => !p x).length 1 none) := by
      rw [slice_own_to (by omega) (by omega)]; simp
    simp only [Nat.zero_add, Nat.mul_one] at sl1
    refine ⟨z', H2, cw_of fn76 (c := c76) rfl rfl rfl rfl ?_, hz', by rw [hl2, q5], O2⟩
    simp -implicitDefEqProofs only [c76, aW, ↓aP, makes, reduceLT, reduceEqDiff, reduceAdd, hcall, hne, hw, L, sl1, hclr, sl2]
    rfl
end
section
variable {call : CallF} {mt : MtF} {md : FuncId → Md}
structure FitsS (f : FlatV) : Prop where
  fits : FitsF f
  eqs : f.eqs.length ≤ 25
  mems : f.mems.length ≤ 100
  conts : f.conts.length ≤ 20
  cross : f.cross.length ≤ 20
  outs : f.outs.length ≤ 50
  again : f.again.length ≤ 50
  args : ∀ q ∈ f.eqs, q.args.length ≤ 30
  mres : ∀ m ∈ f.mems, m.resets.length ≤ 20
  cres : ∀ m ∈ f.conts, m.resets.length ≤ 20
  slopes : ∀ m ∈ f.conts, m.slopes.length ≤ 20
  ops : ∀ m ∈ f.cross, m.ops.length ≤ 30
  names : f.names.length ≤ 200
theorem fitsS_of (f : FlatV) (h : small25 f = true) : FitsS f := by
  obtain ⟨h, h25⟩ := small25_1 h
  have F := fits_of_small f h
  simp only [smallOk, Bool.and_eq_true, Bool.not_eq_true', sizesBig, Bool.or_eq_false_iff, decide_eq_false_iff_not, List.any_eq_false, eqnBig, memBig, contBig, crossBig, Bool.not_eq_true] at h
  obtain ⟨⟨⟨⟨⟨⟨⟨⟨⟨⟨⟨s0, s1⟩, s2⟩, s3⟩, s4⟩, s5⟩, s6⟩, s7⟩, e⟩, m⟩, k⟩, x⟩ := h
  refine ⟨F, h25, by omega, by omega, by omega, by omega, by omega, fun q hq => ?_, fun q hq => ?_, fun q hq => ?_, fun q hq => ?_, fun q hq => ?_, by omega⟩
  · have := (e q hq).1.1.1; omega
  · have := (m q hq).1; omega
  · have := (k q hq).1.1; omega
  · have := (k q hq).1.2; omega
  · have := (x q hq).1; omega
theorem inN_iff {k : Nat} {x : Int} : inN k x = true ↔ 0 ≤ x ∧ x < k := by simp [inN]
theorem within_iff {r : List Int} {k : Nat} : within r k = true ↔ ∀ x ∈ r, 0 ≤ x ∧ x < (k : Int) := by
  simp only [within, List.all_eq_true, inN_iff]
theorem isS_ne {s : ByteArray} {a b : List Nat} (h : isS s a = true) (hab : ((bs a).data.toList == (bs b).data.toList) = false) : isS s b = false := by
  unfold isS at h ⊢
  rw [eq_of_beq h]; exact hab
structure KOk (f : FlatV) (q : Eqn) : Prop where
  m : isS q.op [109, 101, 109] = true → inN f.mems.length q.k = true
  k : isS q.op [99, 111, 110, 116] = true → inN f.conts.length q.k = true
theorem kOk_of {f : FlatV} {q : Eqn} (h : eqOk f q = true) : KOk f q := by
  refine ⟨fun hm => ?_, fun hk => ?_⟩
  · have h1 : isS q.op [108, 105, 116] = false := isS_ne hm rfl
    have h2 : isS q.op [105, 110] = false := isS_ne hm rfl
    unfold eqOk at h
    rw [h1, h2, hm] at h
    simp only [cond_false, cond_true, Bool.and_eq_true] at h
    exact h.2
  · have h1 : isS q.op [108, 105, 116] = false := isS_ne hk rfl
    have h2 : isS q.op [105, 110] = false := isS_ne hk rfl
    have h3 : isS q.op [109, 101, 109] = false := isS_ne hk rfl
    unfold eqOk at h
    rw [h1, h2, h3, hk] at h
    simp only [cond_false, cond_true, Bool.and_eq_true] at h
    exact h.2
structure GoodF (f : FlatV) : Prop where
  len : f.eqs.length = f.names.length
  var : ∀ q ∈ f.eqs, 0 ≤ q.var ∧ q.var < (f.names.length : Int)
  nodup : (f.eqs.map (·.var)).Nodup
  guard : ∀ q ∈ f.eqs, q.guard < (f.names.length : Int)
  args : ∀ q ∈ f.eqs, ∀ x ∈ q.args, 0 ≤ x ∧ x < (f.names.length : Int)
  kok : ∀ q ∈ f.eqs, KOk f q
  mems : ∀ m ∈ f.mems, (0 ≤ m.next ∧ m.next < (f.names.length : Int)) ∧ m.guard < (f.names.length : Int) ∧ ∀ x ∈ m.resets, 0 ≤ x ∧ x < (f.names.length : Int)
  conts : ∀ m ∈ f.conts, (0 ≤ m.var ∧ m.var < (f.names.length : Int)) ∧ m.guard < (f.names.length : Int) ∧ (∀ x ∈ m.resets, 0 ≤ x ∧ x < (f.names.length : Int)) ∧ ∀ s ∈ m.slopes, (0 ≤ s.var ∧ s.var < (f.names.length : Int)) ∧ s.guard < (f.names.length : Int)
  cross : ∀ m ∈ f.cross, m.guard < (f.names.length : Int) ∧ opsOk f f.names.length m.ops = true
  outs : ∀ x ∈ f.outs, 0 ≤ x ∧ x < (f.names.length : Int)
  again : ∀ x ∈ f.again, 0 ≤ x ∧ x < (f.names.length : Int)
theorem eqsF_facts (f : FlatV) (n : Nat) : ∀ (l : List Eqn) (T T' : List Bool), T.length = n → eqsF f n T l = some T' →
    (∀ q ∈ l, inN n q.var = true ∧ T.getD q.var.toNat false = false ∧ q.guard < n ∧ within q.args n = true ∧ eqOk f q = true) ∧ (l.map (·.var)).Nodup
  | [], _, _, _, _ => ⟨by simp, by simp⟩
  | q :: l, T, T', hT, h => by
    rw [eqsF] at h
    cases hs : stepOk f n T q with
    | false => rw [hs] at h; cases h
    | true =>
      rw [hs, cond_true] at h
      obtain ⟨ih1, ih2⟩ := eqsF_facts f n l _ T' (by simp [hT]) h
      simp only [stepOk, Bool.and_eq_true, decide_eq_true_eq, Bool.not_eq_true'] at hs
      obtain ⟨⟨⟨⟨s1, s2⟩, s3⟩, s4⟩, s5⟩ := hs
      have key : ∀ q' ∈ l, q'.var ≠ q.var ∧ T.getD q'.var.toNat false = false := by
        intro q' hq'
        obtain ⟨i1, i2, _⟩ := ih1 q' hq'
        rw [inN_iff] at i1 s1
        have hne : q'.var ≠ q.var := by
          intro e
          rw [e, List.getD_eq_getElem?_getD, List.getElem?_set_self (by omega)] at i2
          cases i2
        refine ⟨hne, ?_⟩
        rw [List.getD_eq_getElem?_getD, List.getElem?_set_ne (by omega), ← List.getD_eq_getElem?_getD] at i2
        exact i2
      refine ⟨fun q' hq' => ?_, ?_⟩
      · rcases List.mem_cons.1 hq' with rfl | hq'
        · exact ⟨s1, s2, s3, s4, s5⟩
        · obtain ⟨i1, _, i3⟩ := ih1 q' hq'
          exact ⟨i1, (key q' hq').2, i3⟩
      · rw [List.map_cons, List.nodup_cons]
        refine ⟨fun hm => ?_, ih2⟩
        obtain ⟨q', hq', e⟩ := List.mem_map.1 hm
        exact (key q' hq').1 e
theorem goodF_of {f : FlatV} (h : goodOk f = true) : GoodF f := by
  unfold goodOk nV at h
  simp only [Bool.and_eq_true] at h
  obtain ⟨⟨⟨⟨⟨⟨h1, h2⟩, h3⟩, h4⟩, h5⟩, h6⟩, h7⟩ := h
  have hl : f.eqs.length = f.names.length := by have := eq_of_beq h4; omega
  rw [List.all_eq_true] at h1 h2 h3
  have he : ∃ T', eqsF f f.names.length (List.replicate f.names.length false) f.eqs = some T' := by
    unfold eqsOk at h5
    cases e : eqsF f f.names.length (List.replicate f.names.length false) f.eqs with
    | none => rw [e] at h5; cases h5
    | some T => exact ⟨T, rfl⟩
  obtain ⟨T', e⟩ := he
  obtain ⟨k1, k2⟩ := eqsF_facts f _ _ _ T' (by simp) e
  refine ⟨hl, fun q hq => inN_iff.1 (k1 q hq).1, k2, fun q hq => (k1 q hq).2.2.1, fun q hq => within_iff.1 (k1 q hq).2.2.2.1, fun q hq => kOk_of (k1 q hq).2.2.2.2, fun m hm => ?_, fun m hm => ?_, fun m hm => ?_, within_iff.1 h6, within_iff.1 h7⟩
  · have := h1 m hm
    simp only [memOk, Bool.and_eq_true, decide_eq_true_eq] at this
    exact ⟨inN_iff.1 this.1.1, this.1.2, within_iff.1 this.2⟩
  · have := h2 m hm
    simp only [contOk, Bool.and_eq_true, decide_eq_true_eq, List.all_eq_true] at this
    refine ⟨inN_iff.1 this.1.1.1, this.1.1.2, within_iff.1 this.1.2, fun s hs => ?_⟩
    have := this.2 s hs
    simp only [slopeOk, Bool.and_eq_true, decide_eq_true_eq] at this
    exact ⟨inN_iff.1 this.1, this.2⟩
  · have := h3 m hm
    simp only [crossOk, Bool.and_eq_true, decide_eq_true_eq] at this
    exact this
def begF (f : FlatV) (q : Eqn) : List Int := bif isS q.op [109, 101, 109] then resM f q.k else bif isS q.op [99, 111, 110, 116] then resK f q.k else []
def begA (f : FlatV) (q : Eqn) : AV := bif isS q.op [109, 101, 109] then rowC (resM f q.k) none else bif isS q.op [99, 111, 110, 116] then rowC (resK f q.k) none else .sl 0 [] (some 0)
theorem begA_row (f : FlatV) (q : Eqn) : RowA (begA f q) (begF f q) := by
  unfold begA begF
  cases isS q.op [109, 101, 109] <;> cases isS q.op [99, 111, 110, 116]
  · exact RowA.nil
  · exact RowA.of _ _
  · exact RowA.of _ _
  · exact RowA.of _ _
theorem iadr_memsI {f : FlatV} {k : Int} (h : inN f.mems.length k = true) : ∃ m, f.mems[k.toNat]? = some m ∧ iadr 8 (memsA f.mems) (litI .i64 k) = some (.ip m.cs) ∧ resM f k = m.resets := by
  rw [inN_iff] at h
  have hlt : k.toNat < f.mems.length := by omega
  refine ⟨f.mems[k.toNat], List.getElem?_eq_getElem hlt, ?_, by simp [resM, List.getElem?_eq_getElem hlt]⟩
  have := iadr_mems f.mems k.toNat
  rw [Int.toNat_of_nonneg h.1, List.getElem?_eq_getElem hlt] at this
  exact this
theorem iadr_contsI {f : FlatV} {k : Int} (h : inN f.conts.length k = true) : ∃ m, f.conts[k.toNat]? = some m ∧ iadr 9 (contsA f.conts) (litI .i64 k) = some (.ip m.cs) ∧ resK f k = m.resets := by
  rw [inN_iff] at h
  have hlt : k.toNat < f.conts.length := by omega
  refine ⟨f.conts[k.toNat], List.getElem?_eq_getElem hlt, ?_, by simp [resK, List.getElem?_eq_getElem hlt]⟩
  have := iadr_conts f.conts k.toNat
  rw [Int.toNat_of_nonneg h.1, List.getElem?_eq_getElem hlt] at this
  exact this
theorem begins_tells (f : FlatV) (q : Eqn) (K : KOk f q) : cw 74 [.agg f.cs, .agg q.cs] [] = some (.ret (begA f q), rtH f q) := by
  refine cw_of fn74 (c := c74) rfl rfl rfl rfl ?_
  unfold begA
  cases hm : isS q.op [109, 101, 109] with
  | true =>
    obtain ⟨m, _, h2, h3⟩ := iadr_memsI (K.m hm)
    rw [h3]
    simp -implicitDefEqProofs only [c74, aW, ↓aP, makes, reduceLT, reduceEqDiff, reduceAdd, core_box, rt_b8 f, eq_b10 q, List.length_nil, List.length_cons, List.singleton_append, fadr_ptr, fadr_ip, Nat.add_zero, rt_l1, rt_l2, rt_l3, bin_isS, hm, rt_f4, h2, mem_h7]
    rfl
  | false =>
    cases hk : isS q.op [99, 111, 110, 116] with
    | true =>
      obtain ⟨m, _, h2, h3⟩ := iadr_contsI (K.k hk)
      rw [h3]
      simp -implicitDefEqProofs only [c74, aW, ↓aP, makes, reduceLT, reduceEqDiff, reduceAdd, core_box, rt_b8 f, eq_b10 q, List.length_nil, List.length_cons, List.singleton_append, fadr_ptr, fadr_ip, Nat.add_zero, rt_l1, rt_l2, rt_l3, bin_isS, hm, hk, rt_f5, h2, cont_h7]
      rfl
    | false =>
      simp -implicitDefEqProofs only [c74, aW, ↓aP, makes, reduceLT, reduceEqDiff, reduceAdd, core_box, rt_b8 f, eq_b10 q, List.length_nil, List.length_cons, List.singleton_append, fadr_ptr, fadr_ip, Nat.add_zero, rt_l1, rt_l2, rt_l3, bin_isS, hm, hk]
      rfl
theorem begA_whole (f : FlatV) (q : Eqn) : wholeA (begA f q) = true := by
  obtain ⟨e, xs, c, h⟩ := (begA_row f q).cases
  rw [h]; rfl
theorem begins_call (f : FlatV) (q : Eqn) (K : KOk f q) (H : List AO) (id : Nat) : callV cw mds 74 [.agg f.cs, .agg q.cs] H id = some (.val (begA f q) none) := callV_pureA rfl rfl (begins_tells f q K) (begA_whole f q)
end
end Go.Proofs.Ytcgbdndkfonphaa.Ai
