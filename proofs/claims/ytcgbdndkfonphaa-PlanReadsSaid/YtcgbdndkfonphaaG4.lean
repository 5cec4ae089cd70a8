/- The abstract interpreter: slices of ints that grow, are sorted and made lean. No condition. -/
import Derived.Test.YtcgbdndkfonphaaG3
set_option linter.unusedSimpArgs false
set_option linter.unusedVariables false
set_option linter.unusedSectionVars false
namespace Go.Ai
def cellsI (l : List Int) : List AV := l.map (litI .i64)
theorem cellsI_len (l : List Int) : (cellsI l).length = l.length := by simp [cellsI]
def outA : List Int → AV
  | [] => .sl 0 [] (some 0)
  | x :: l => .own l.length 0 (l.length + 1) 1 none
def outH (t : TypeId) : List Int → List AO
  | [] => []
  | x :: l => List.replicate l.length .dead ++ [.row (cellsI (x :: l)) t]
theorem outH_len (t : TypeId) (l : List Int) : (outH t l).length = l.length := by cases l <;> simp [outH]
theorem outH_get (t : TypeId) (x : Int) (l : List Int) : (outH t (x :: l))[l.length]? = some (.row (cellsI (x :: l)) t) := by simp [outH]
theorem outH_snoc (t : TypeId) (x y : Int) (l : List Int) : setL (outH t (x :: l)) l.length .dead ++ [.row (cellsI (x :: l) ++ [litI .i64 y]) t] = outH t (x :: l ++ [y]) := by
  have : outH t (x :: l ++ [y]) = List.replicate (l.length + 1) .dead ++ [.row (cellsI (x :: l ++ [y])) t] := by simp [outH]
  rw [this]
  have e : cellsI (x :: l ++ [y]) = cellsI (x :: l) ++ [litI .i64 y] := by simp [cellsI]
  rw [e]
  congr 1
  simp only [setL, outH]
  rw [List.set_append_right _ _ (by simp)]
  simp [List.replicate_succ']
theorem append_out {t : TypeId} {l : List Int} {y : Int} {c : Option Nat} (h : l.length < 1099511627776) {d : Option Nat} {fr : Fr} {k : Fr → List AO → Option S} :
    opS (append (outH t l) (outH t l).length 1 8 t (outA l) (.sl 1 [[litI .i64 y]] c)) d fr (outH t l) k = k (putD fr d (outA (l ++ [y]))) (outH t (l ++ [y])) := by
  cases l with
  | nil => rfl
  | cons x l =>
    have h1 : rowAt (outH t (x :: l)) l.length = some (cellsI (x :: l), t) := by unfold rowAt; rw [outH_get]
    have h2 : (cellsI (x :: l)).take ((l.length + 1) * 1) = cellsI (x :: l) := List.take_of_length_le (by simp [cellsI])
    have h3 : Nat.ble ((l.length + 1) * 1) (cellsI (x :: l)).length = true := Nat.ble_eq_true_of_le (by simp [cellsI])
    have h4 : Nat.ble ((l.length + 1 + 1) * 8) 140737488355328 = true := Nat.ble_eq_true_of_le (by simp at h; omega)
    have e : append (outH t (x :: l)) (outH t (x :: l)).length 1 8 t (outA (x :: l)) (.sl 1 [[litI .i64 y]] c) = some (.wr (.own (outH t (x :: l)).length 0 (l.length + 1 + 1) 1 none) (setL (outH t (x :: l)) l.length .dead ++ [.row (cellsI (x :: l) ++ [litI .i64 y]) t])) := by
      simp only [append, elems, List.drop_zero, outA, BEq.rfl, Bool.true_or, cond_true, Option.bind_some, List.length_cons, List.length_nil, Nat.zero_add, Nat.reduceBEq, cond_false, h1, h2, h3, h4, Bool.and_self, List.flatten_cons, List.flatten_nil, List.append_nil]
    rw [e, opS_wr, outH_snoc, outH_len]
    congr 1
    simp [outA]
def bsV (H : List AO) (z a : AV) : Option Out := (fill (reps 1 [z]) [(0 * 1, 1, a)]).bind fun cs =>
  (mapL (frz H frzF) cs).bind fun p => bif p.2.isEmpty then some (.val (.sl 1 (chunks 1 1 p.1) (some 1)) none) else none
theorem core_bslice1 {call : CallF} {mt : MtF} {md : FuncId → Md} {H : List AO} {id : Nat} {fr : Fr} {t : TypeId} (x : X) (z : AV) :
    core call mt md H id (.bslice false 1 1 [z] [(0, x)] t) fr = bsV H z (ev fr x) := rfl
theorem bsV_int (H : List AO) (z : AV) (k : IntKind) (n : Int) : bsV H z (litI k n) = some (.val (.sl 1 [[litI k n]] (some 1)) none) := rfl
theorem sortG_row {H : List AO} {r off : Nat} {cap : Option Nat} {t : TypeId} {pre post : List AV} {l : List Int} (hr : H[r]? = some (.row (pre ++ cellsI l ++ post) t)) (ho : pre.length = off) (h0 : l ≠ []) (hb : l.length ≤ 1099511627776) :
    sortG [.own r off l.length 1 cap] H = some (.ret (.tup []), setL H r (.row (pre ++ cellsI (sortI l) ++ post) t)) := by
  have hn : (l.length == 0) = false := by simpa using h0
  have hble : Nat.ble l.length 1099511627776 = true := Nat.ble_eq_true_of_le hb
  have hrow : rowAt H r = some (pre ++ cellsI l ++ post, t) := by unfold rowAt; rw [hr]
  have h2 : Nat.ble (off + l.length) (pre ++ cellsI l ++ post).length = true := Nat.ble_eq_true_of_le (by simp [cellsI]; omega)
  have h3 : ((pre ++ cellsI l ++ post).drop off).take l.length = cellsI l := by
    rw [← ho, List.append_assoc, List.drop_left', List.take_left']
    · simp [cellsI]
    · rfl
  have h4 : intsOf (cellsI l) = some l := intsOf_map l
  have h5 : (pre ++ cellsI l ++ post).take off = pre := by rw [List.append_assoc, List.take_left' ho]
  have h6 : (pre ++ cellsI l ++ post).drop (off + l.length) = post := by rw [List.drop_left']; simp [cellsI, ho]
  have h7 : Nat.ble (sortI l).length l.length = true := Nat.ble_eq_true_of_le (by rw [sortI_len]; exact Nat.le_refl _)
  have e : sortG [.own r off l.length 1 cap] H = intsG sortI (fun _ _ _ _ => .tup []) [.own r off l.length 1 cap] H := rfl
  rw [e]
  simp only [intsG, BEq.rfl, hble, Bool.and_self, cond_true, hn, cond_false, hrow, Option.bind_some, h2, h3, h4, h5, h6, sortI_len, Nat.sub_self, List.replicate_zero, List.append_nil]
  rw [show Nat.ble l.length l.length = true from Nat.ble_eq_true_of_le (Nat.le_refl _)]
  rfl
theorem compI_len : ∀ l : List Int, (compI' l).length ≤ l.length
  | [] => Nat.le_refl _
  | [x] => Nat.le_refl _
  | x :: y :: r => by
    have := compI_len (y :: r)
    simp only [compI']
    cases x == y
    · simp only [cond_false, List.length_cons] at this ⊢; omega
    · simp only [cond_true, List.length_cons] at this ⊢; omega
theorem compI_ne : ∀ l : List Int, l ≠ [] → compI' l ≠ []
  | [], h => absurd rfl h
  | [x], _ => by simp [compI']
  | x :: y :: r, _ => by
    have := compI_ne (y :: r) (by simp)
    simp only [compI']
    cases x == y
    · simp
    · simpa using this
theorem compactG_row {H : List AO} {r off : Nat} {cap : Option Nat} {t : TypeId} {pre post : List AV} {l : List Int} (hr : H[r]? = some (.row (pre ++ cellsI l ++ post) t)) (ho : pre.length = off) (h0 : l ≠ []) (hb : l.length ≤ 1099511627776) :
    compactG [.own r off l.length 1 cap] H = some (.ret (.own r off (compI' l).length 1 cap), setL H r (.row (pre ++ cellsI (compI' l ++ List.replicate (l.length - (compI' l).length) 0) ++ post) t)) := by
  have hn : (l.length == 0) = false := by simpa using h0
  have hble : Nat.ble l.length 1099511627776 = true := Nat.ble_eq_true_of_le hb
  have hrow : rowAt H r = some (pre ++ cellsI l ++ post, t) := by unfold rowAt; rw [hr]
  have h2 : Nat.ble (off + l.length) (pre ++ cellsI l ++ post).length = true := Nat.ble_eq_true_of_le (by simp [cellsI]; omega)
  have h3 : ((pre ++ cellsI l ++ post).drop off).take l.length = cellsI l := by
    rw [← ho, List.append_assoc, List.drop_left', List.take_left']
    · simp [cellsI]
    · rfl
  have h4 : intsOf (cellsI l) = some l := intsOf_map l
  have h5 : (pre ++ cellsI l ++ post).take off = pre := by rw [List.append_assoc, List.take_left' ho]
  have h6 : (pre ++ cellsI l ++ post).drop (off + l.length) = post := by rw [List.drop_left']; simp [cellsI, ho]
  have h7 : Nat.ble (compI' l).length l.length = true := Nat.ble_eq_true_of_le (compI_len l)
  have e : compactG [.own r off l.length 1 cap] H = intsG compI' (fun r off cap n => .own r off n 1 cap) [.own r off l.length 1 cap] H := rfl
  rw [e]
  simp only [intsG, BEq.rfl, hble, Bool.and_self, cond_true, hn, cond_false, hrow, Option.bind_some, h2, h3, h4, h5, h6, h7]
  rfl
end Go.Ai
namespace Go.Ai
theorem rowAt_of {H : List AO} {r : Nat} {cs : List AV} {t : TypeId} (h : H[r]? = some (.row cs t)) : rowAt H r = some (cs, t) := by unfold rowAt; rw [h]
theorem getH_set_ne {H : List AO} {r q : Nat} {o : AO} (h : r ≠ q) : (setL H r o)[q]? = H[q]? := by simp [setL, List.getElem?_set, h]
theorem getH_set_eq {H : List AO} {r : Nat} {o x : AO} (h : H[r]? = some x) : (setL H r o)[r]? = some o := by
  have := (List.getElem?_eq_some_iff.1 h).1
  simp [setL, List.getElem?_set, this]
theorem getH_app {H : List AO} {q : Nat} {o x : AO} (h : H[q]? = some x) : (H ++ [o])[q]? = some x := by
  rw [List.getElem?_append_left (List.getElem?_eq_some_iff.1 h).1]; exact h
theorem getH_last (H : List AO) (o : AO) : (H ++ [o])[H.length]? = some o := by simp
theorem setL_len (H : List AO) (r : Nat) (o : AO) : (setL H r o).length = H.length := by simp [setL]
theorem load_ptr {H : List AO} {r off : Nat} {cs : List AV} {t : TypeId} (h : H[r]? = some (.row cs t)) : load H none (.ptr r off) = cs[off]? := by
  simp only [load, rowAt_of h, Option.bind_some, part, List.head?_drop]
theorem store_ptr {H : List AO} {r off : Nat} {cs : List AV} {t : TypeId} {x : AV} (h : H[r]? = some (.row cs t)) (ho : off < cs.length) (hx : cellsOf x = [x]) (hc : cellA x = true) :
    storeAt H 1 (.ptr r off) x = some (setL H r (.row (cs.set off x) t)) := by
  have hb : Nat.ble (off + 1) cs.length = true := Nat.ble_eq_true_of_le ho
  simp only [storeAt, rowAt_of h, Option.bind_some, hx, List.length_cons, List.length_nil, Nat.zero_add, BEq.rfl, List.all_cons, List.all_nil, hc, hb, Bool.and_self, cond_true]
  congr 3
  rw [List.set_eq_take_append_cons_drop, if_pos ho]
  simp
theorem slice_own_to {e r off n : Nat} {c : Option Nat} {k : IntKind} {z : Int} (h0 : 0 ≤ z) (h1 : z ≤ n) : slice e (.own r off n e c) none (some (litI k z)) none = some (.own r off z.toNat e c) := by
  simp only [slice, BEq.rfl, cond_true, cuts, bound, litI, h0, h1, decide_true, Bool.and_self, Option.bind_some]
  simp
end Go.Ai
namespace Go.Ai
theorem keep_keep (l : List Nat) (fr : Fr) : keep l (keep l fr) = keep l fr := by
  unfold keep; rw [List.filter_filter]; simp
theorem loopN_keep (body : Fr → List AO → Option S) (l : List Nat) : ∀ (n : Nat) (fr : Fr) (H : List AO), loopN body l n (keep l fr) H = loopN body l n fr H
  | 0, _, _ => rfl
  | n + 1, fr, H => by simp only [loopN, keep_keep]
theorem loopW_keep (body : Fr → List AO → Option S) (l : List Nat) (fr : Fr) (H : List AO) : loopW body l (keep l fr) H = loopW body l fr H := by
  unfold loopW; congr 1; funext n; exact loopN_keep body l n fr H
theorem loopW_next {body : Fr → List AO → Option S} {l : List Nat} {fr fr1 fr' : Fr} {H H' : List AO} {s : S} (h : body (keep l fr) H = some (.normal, fr1, H')) (hk : keep l fr1 = fr') (h' : loopW body l fr' H' = some s) : loopW body l fr H = some s := by
  subst hk
  rw [loopW_keep] at h'
  exact loopW_round h h'
def Ends (x : Option S) (Q : EX → Fr → List AO → Prop) : Prop := ∃ e fr H, x = some (e, fr, H) ∧ Q e fr H
theorem Ends.mono {x : Option S} {Q Q' : EX → Fr → List AO → Prop} (h : Ends x Q) (hq : ∀ e fr H, Q e fr H → Q' e fr H) : Ends x Q' := by
  obtain ⟨e, fr, H, h1, h2⟩ := h; exact ⟨e, fr, H, h1, hq _ _ _ h2⟩
end Go.Ai
namespace Go.Ai
section
variable {call : CallF} {mt : MtF} {md : FuncId → Md}
def tlS (x : Option Out) (d : Option Nat) (fr : Fr) (H : List AO) (all : List O) (last : Bool) (k : Fr → List AO → Option S) : Option S := x.bind fun
  | .val a none => k (putD fr d a) H
  | .val a (some b) => k (putD fr d a) (H ++ [b])
  | .wr a H' => k (putD fr d a) H'
  | .fz a ids => k (putD fr d a) (killH H ids 0 H)
  | .pan a H' => bif last then some (.pan a, dropD all fr, H') else none
@[congr] theorem tlS_congr {x x' : Option Out} {d : Option Nat} {fr : Fr} {H : List AO} {all : List O} {last : Bool} {k : Fr → List AO → Option S} (h : x = x') : tlS x d fr H all last k = tlS x' d fr H all last k := by rw [h]
theorem tlS_val (a : AV) (d : Option Nat) (fr : Fr) (H : List AO) (all : List O) (last : Bool) (k : Fr → List AO → Option S) : tlS (some (.val a none)) d fr H all last k = k (putD fr d a) H := rfl
theorem tlS_new (a : AV) (b : AO) (d : Option Nat) (fr : Fr) (H : List AO) (all : List O) (last : Bool) (k : Fr → List AO → Option S) : tlS (some (.val a (some b))) d fr H all last k = k (putD fr d a) (H ++ [b]) := rfl
theorem tlS_wr (a : AV) (H' : List AO) (d : Option Nat) (fr : Fr) (H : List AO) (all : List O) (last : Bool) (k : Fr → List AO → Option S) : tlS (some (.wr a H')) d fr H all last k = k (putD fr d a) H' := rfl
theorem tlS_fz (a : AV) (ids : List Nat) (d : Option Nat) (fr : Fr) (H : List AO) (all : List O) (last : Bool) (k : Fr → List AO → Option S) : tlS (some (.fz a ids)) d fr H all last k = k (putD fr d a) (killH H ids 0 H) := rfl
theorem tlS_pan (a : AV) (H' : List AO) (d : Option Nat) (fr : Fr) (H : List AO) (all : List O) (k : Fr → List AO → Option S) : tlS (some (.pan a H')) d fr H all true k = some (.pan a, dropD all fr, H') := rfl
@[congr] theorem lateS_congr {α : Type} {fr fr' : Fr} {H H' : List AO} {late late' : List O} {k : Option α} (h1 : fr = fr') (h2 : H = H') (h3 : late = late') : lateS call mt md fr H late k = lateS call mt md fr' H' late' k := by rw [h1, h2, h3]
@[congr] theorem lS_congr {α : Type} {x x' : Option Out} {a a' : AV} {k : Option α} (h1 : x = x') (h2 : a = a') : lS x a k = lS x' a' k := by rw [h1, h2]
theorem lS_val {α : Type} (a : AV) (k : Option α) : lS (some (.val a none)) a k = k := if_pos rfl
theorem lateS_nil {α : Type} (fr : Fr) (H : List AO) (k : Option α) : lateS call mt md fr H [] k = k := rfl
theorem getO_some (fr : Fr) (d : Nat) : getO fr (some d) = get fr d := rfl
theorem lateS_cons {α : Type} (d : Option Nat) (i : I) (r : List O) (fr : Fr) (H : List AO) (k : Option α) :
    lateS call mt md fr H (⟨d, i, none⟩ :: r) k = lS (core call mt md H H.length i fr) (getO fr d) (lateS call mt md fr H r k) := rfl
theorem lateS_guard (d : Option Nat) (i : I) (t : Nat) (b : Bool) (r : List O) (fr : Fr) (H : List AO) (k : Option S) :
    lateS call mt md fr H (⟨d, i, some (t, b)⟩ :: r) k = gS b (asG (get fr t)) (lS (core call mt md H H.length i fr) (getO fr d) (lateS call mt md fr H r k)) (lateS call mt md fr H r k) := by
  have main : ∀ c : Bool, (match c with
      | true => lS (core call mt md H H.length i fr) (getO fr d) (lateS call mt md fr H r k)
      | false => lateS call mt md fr H r k) = bif c then lS (core call mt md H H.length i fr) (getO fr d) (lateS call mt md fr H r k) else lateS call mt md fr H r k := by
    intro c; cases c <;> rfl
  rw [lateS]
  simp only [wanted]
  generalize get fr t = a
  cases a with
  | lit v =>
    cases v <;> first
      | rfl
      | exact main false
      | (rename_i c; exact main (c == b))
  | _ => rfl
theorem tailS_nil (late all : List O) (l : List Nat) (fr : Fr) (H : List AO) : tailS call mt md late all l [] fr H = lateS call mt md fr H late (some (.normal, keep l fr, H)) := rfl
theorem tailS_cons (late all : List O) (l : List Nat) (d : Option Nat) (i : I) (r : List O) (fr : Fr) (H : List AO) :
    tailS call mt md late all l (⟨d, i, none⟩ :: r) fr H = lateS call mt md fr H late (tlS (core call mt md H H.length i fr) d fr H all r.isEmpty (tailS call mt md late all l r)) := by
  rw [tailS]; rfl
theorem tailS_guard (late all : List O) (l : List Nat) (d : Option Nat) (i : I) (t : Nat) (b : Bool) (r : List O) (fr : Fr) (H : List AO) :
    tailS call mt md late all l (⟨d, i, some (t, b)⟩ :: r) fr H = lateS call mt md fr H late (gS b (asG (get fr t)) (tlS (core call mt md H H.length i fr) d fr H all r.isEmpty (tailS call mt md late all l r)) (tailS call mt md late all l r (putD fr d (.lit undef)) H)) := by
  have main : ∀ c : Bool, (match c with
      | true => (core call mt md H H.length i fr).bind fun
        | .val a none => tailS call mt md late all l r (putD fr d a) H
        | .val a (some b) => tailS call mt md late all l r (putD fr d a) (H ++ [b])
        | .wr a H' => tailS call mt md late all l r (putD fr d a) H'
        | .fz a ids => tailS call mt md late all l r (putD fr d a) (killH H ids 0 H)
        | .pan a H' => bif r.isEmpty then some (.pan a, dropD all fr, H') else none
      | false => tailS call mt md late all l r (putD fr d (.lit undef)) H) = bif c then tlS (core call mt md H H.length i fr) d fr H all r.isEmpty (tailS call mt md late all l r) else tailS call mt md late all l r (putD fr d (.lit undef)) H := by
    intro c; cases c <;> rfl
  rw [tailS]
  congr 1
  simp only [wanted]
  generalize get fr t = a
  cases a with
  | lit v =>
    cases v <;> first
      | rfl
      | exact main false
      | (rename_i c; exact main (c == b))
  | _ => rfl
def anyMk (md : FuncId → Md) (ops : List O) : Bool := ops.any (fun o => makes md o.i)
theorem anyMk_nil : anyMk md [] = false := rfl
theorem anyMk_cons (d : Option Nat) (i : I) (g : Option (Nat × Bool)) (r : List O) : anyMk md (⟨d, i, g⟩ :: r) = (makes md i || anyMk md r) := rfl
theorem codeW_drawn (ops tail : List O) (l : List Nat) (late : List O) (fr : Fr) (H : List AO) : codeW call mt md (.draw ops tail l late []) fr H =
    headS call mt md H (fun fr obs => tailS call mt md late (ops ++ tail) l tail fr (bif anyMk md ops then H ++ obs else H)) H.length ops fr [] := by
  rw [codeW_draw]
  simp only [tailE_nil]
  rfl
noncomputable def eaC {α : Type} (x y : Option Out) (k : Option α) : Option α := open Classical in if x = y then k else none
@[congr] theorem eaC_congr {α : Type} {x x' y y' : Option Out} {k : Option α} (h1 : x = x') (h2 : y = y') : eaC x y k = eaC x' y' k := by rw [h1, h2]
theorem eaC_same {α : Type} (x : Out) (k : Option α) : eaC (some x) (some x) k = k := if_pos rfl
@[congr] theorem eaS_congr {α : Type} {i : I} {fr : Fr} {x : Option Out} {Hs Hs' : List (List AO)} {k : Option α} (h : Hs = Hs') : eaS call mt md i fr x Hs k = eaS call mt md i fr x Hs' k := by rw [h]
theorem eaS_nil {α : Type} (i : I) (fr : Fr) (x : Option Out) (k : Option α) : eaS call mt md i fr x [] k = k := rfl
theorem eaS_cons {α : Type} (i : I) (fr : Fr) (x : Option Out) (H : List AO) (r : List (List AO)) (k : Option α) : eaS call mt md i fr x (H :: r) k = eaC (core call mt md H H.length i fr) x (eaS call mt md i fr x r k) := by
  simp only [eaS, eaC]
theorem seen_some (early : List Nat) (d : Nat) (Hs : List (List AO)) : seen early (some d) Hs = if d ∈ early then Hs else [] := by
  simp only [seen]
  by_cases h : d ∈ early
  · rw [if_pos h, List.contains_iff_mem.2 h]; rfl
  · rw [if_neg h]
    have : early.contains d = false := by rw [← Bool.not_eq_true, List.contains_iff_mem]; exact h
    rw [this]; rfl
theorem seen_none (early : List Nat) (Hs : List (List AO)) : seen early none Hs = [] := rfl
theorem codeW_drawnE (ops tail : List O) (l : List Nat) (late : List O) (e : Nat) (es : List Nat) (fr : Fr) (H : List AO) : codeW call mt md (.draw ops tail l late (e :: es)) fr H =
    headS call mt md H (fun fr obs => tailE call mt md late (e :: es) (ops ++ tail) l [H] tail fr (bif anyMk md ops then H ++ obs else H)) H.length ops fr [] := codeW_draw ops tail l late (e :: es) fr H
theorem tailE_done (late : List O) (early : List Nat) (all : List O) (l : List Nat) (Hs : List (List AO)) (fr : Fr) (H : List AO) : tailE call mt md late early all l Hs [] fr H = lateS call mt md fr H late (some (.normal, keep l fr, H)) := rfl
theorem tailE_cons (late : List O) (early : List Nat) (all : List O) (l : List Nat) (Hs : List (List AO)) (d : Option Nat) (i : I) (r : List O) (fr : Fr) (H : List AO) :
    tailE call mt md late early all l Hs (⟨d, i, none⟩ :: r) fr H = lateS call mt md fr H late (eaS call mt md i fr (core call mt md H H.length i fr) (seen early d Hs) (tlS (core call mt md H H.length i fr) d fr H all r.isEmpty (tailE call mt md late early all l (H :: Hs) r))) := by
  rw [tailE]; rfl
theorem tailE_guard (late : List O) (early : List Nat) (all : List O) (l : List Nat) (Hs : List (List AO)) (d : Option Nat) (i : I) (t : Nat) (b : Bool) (r : List O) (fr : Fr) (H : List AO) :
    tailE call mt md late early all l Hs (⟨d, i, some (t, b)⟩ :: r) fr H = lateS call mt md fr H late (gS b (asG (get fr t)) (eaS call mt md i fr (core call mt md H H.length i fr) (seen early d Hs) (tlS (core call mt md H H.length i fr) d fr H all r.isEmpty (tailE call mt md late early all l (H :: Hs) r))) (tailE call mt md late early all l (H :: Hs) r (putD fr d (.lit undef)) H)) := by
  have main : ∀ c : Bool, (match c with
      | true => eaS call mt md i fr (core call mt md H H.length i fr) (seen early d Hs) ((core call mt md H H.length i fr).bind fun
        | .val a none => tailE call mt md late early all l (H :: Hs) r (putD fr d a) H
        | .val a (some b) => tailE call mt md late early all l (H :: Hs) r (putD fr d a) (H ++ [b])
        | .wr a H' => tailE call mt md late early all l (H :: Hs) r (putD fr d a) H'
        | .fz a ids => tailE call mt md late early all l (H :: Hs) r (putD fr d a) (killH H ids 0 H)
        | .pan a H' => bif r.isEmpty then some (.pan a, dropD all fr, H') else none)
      | false => tailE call mt md late early all l (H :: Hs) r (putD fr d (.lit undef)) H) = bif c then eaS call mt md i fr (core call mt md H H.length i fr) (seen early d Hs) (tlS (core call mt md H H.length i fr) d fr H all r.isEmpty (tailE call mt md late early all l (H :: Hs) r)) else tailE call mt md late early all l (H :: Hs) r (putD fr d (.lit undef)) H := by
    intro c; cases c <;> rfl
  rw [tailE]
  congr 1
  simp only [wanted]
  generalize get fr t = a
  cases a with
  | lit v =>
    cases v <;> first
      | rfl
      | exact main false
      | (rename_i c; exact main (c == b))
  | _ => rfl
variable {H : List AO} {id : Nat} {fr : Fr}
theorem mksV_ok {e bytes : Nat} {z : List AV} {t : TypeId} {n : Nat} (h1 : n * bytes ≤ 140737488355328) (h2 : n ≤ 140737488355328) :
    mksV id e bytes z t (litI .i64 (n : Int)) (litI .i64 (n : Int)) = some (.val (.own id 0 n e (some n)) (some (.row (reps n z) t))) := by
  have e1 : (((n * bytes : Nat) : Int) ≤ 140737488355328) := by omega
  rw [Int.natCast_mul] at e1
  have e2 : ((n : Int) ≤ 140737488355328) := by omega
  simp only [mksV, litI, e1, e2, Int.natCast_nonneg, Int.le_refl, decide_true, Bool.and_self, cond_true, Int.toNat_natCast]
theorem reps_one (a : AV) : ∀ n, reps n [a] = List.replicate n a
  | 0 => rfl
  | n + 1 => by rw [reps, reps_one a n]; rfl
theorem bin_quo (k : IntKind) {a b : Int} (h : b ≠ 0) : bin .quo (litI k a) (litI k b) = some (litI k (k.wrap (a.tdiv b))) := by simp [bin, litI, binI, h]
theorem binb_eql (a b : Bool) : binb .eql (litB a) (litB b) = some (litB (a == b)) := rfl
theorem binb_neq (a b : Bool) : binb .neq (litB a) (litB b) = some (litB (!(a == b))) := rfl
theorem pickV_t (a b : AV) : pickV true a b = a := by
  unfold pickV; split <;> rfl
theorem pickV_f (a b : AV) : pickV false a b = b := by
  unfold pickV; split <;> rfl
def saysTrue : Option (R × List AO) → Bool
  | some (.ret (.lit (.bool true)), _) => true
  | _ => false
theorem saysTrue_some {x : Option (R × List AO)} (h : saysTrue x = true) : ∃ H', x = some (.ret (litB true), H') := by
  unfold saysTrue at h
  split at h
  · exact ⟨_, rfl⟩
  · cases h
theorem mapR_whole {cs : List AV} : ∀ {k n : Nat}, cs.all whole = true → mapR (frz H (k + 1)) 1 n cs = some ((chunks 1 n cs), [])
  | k, 0, _ => rfl
  | k, n + 1, h => by
    have h1 : (cs.take 1).all whole = true := by
      rw [List.all_eq_true] at h ⊢; exact fun a ha => h a (List.mem_of_mem_take ha)
    have h2 : (cs.drop 1).all whole = true := by
      rw [List.all_eq_true] at h ⊢; exact fun a ha => h a (List.mem_of_mem_drop ha)
    simp only [mapR, mapL_whole h1, mapR_whole h2, Option.bind_some, chunks]
    rfl
theorem frz_own {r n k : Nat} {cap : Option Nat} {cs : List AV} {t : TypeId} (h : H[r]? = some (.row cs t)) (hn : n ≤ cs.length) (hw : cs.all whole = true) :
    frz H (k + 2) (.own r 0 n 1 cap) = some (.sl 1 ((cs.take n).map fun a => [a]) cap, [r]) := by
  have hb : Nat.ble (0 + n * 1) cs.length = true := Nat.ble_eq_true_of_le (by omega)
  have hc : ∀ (n : Nat) (cs : List AV), n ≤ cs.length → chunks 1 n cs = (cs.take n).map fun a => [a] := by
    intro n
    induction n with
    | zero => intro cs _; simp [chunks]
    | succ n ih =>
      intro cs hn
      cases cs with
      | nil => simp at hn
      | cons a r =>
        simp only [chunks, List.drop_succ_cons, List.drop_zero, List.take_succ_cons, List.map_cons]
        rw [ih r (by simp at hn; omega)]
        rfl
  rw [frz]
  simp only [h, hb, cond_true, List.drop_zero, mapR_whole hw, Option.bind_some, hc n cs hn]
end
theorem argsSh_nil {P : Program} {avs : List AV} (h : argsSh P [] [] avs) : avs = [] := by
  cases avs with
  | nil => rfl
  | cons _ _ => exact h.elim
theorem argsSh_cons {P : Program} {t : TypeId} {ts : List TypeId} {τ : Ty} {τs : List Ty} {avs : List AV} (h : argsSh P (t :: ts) (τ :: τs) avs) : ∃ a r, avs = a :: r ∧ argSh P t τ a ∧ argsSh P ts τs r := by
  cases avs with
  | nil => exact h.elim
  | cons a r => exact ⟨a, r, rfl, h.1, h.2⟩
theorem argsSh_one {P : Program} {t : TypeId} {τ : Ty} {avs : List AV} (h : argsSh P [t] [τ] avs) : ∃ a, avs = [a] ∧ argSh P t τ a := by
  obtain ⟨a, r, rfl, h1, h2⟩ := argsSh_cons h
  exact ⟨a, by rw [argsSh_nil h2], h1⟩
end Go.Ai
namespace Go.Ai
abbrev Obj1 := Nat × List AV × TypeId
structure Own (H : List AO) (d : List Obj1) : Prop where
  nodup : (d.map (·.1)).Nodup
  get : ∀ x ∈ d, H[x.1]? = some (.row x.2.1 x.2.2)
section
variable {H : List AO} {d d' : List Obj1} {r : Nat} {cs cs' : List AV} {t t' : TypeId}
theorem Own.perm (h : Own H d) (p : d.Perm d') : Own H d' := ⟨(p.map _).nodup_iff.1 h.nodup, fun x hx => h.get x (p.mem_iff.2 hx)⟩
theorem Own.head (h : Own H ((r, cs, t) :: d)) : H[r]? = some (.row cs t) := h.get _ (List.mem_cons_self ..)
theorem Own.tail {x : Obj1} (h : Own H (x :: d)) : Own H d := ⟨by have := h.nodup; simp only [List.map_cons, List.nodup_cons] at this; exact this.2, fun x hx => h.get x (List.mem_cons_of_mem _ hx)⟩
theorem Own.lt (h : Own H d) : ∀ x ∈ d, x.1 < H.length := fun x hx => (List.getElem?_eq_some_iff.1 (h.get x hx)).1
theorem Own.ne {x : Obj1} (h : Own H (x :: d)) : ∀ y ∈ d, x.1 ≠ y.1 := by
  have := h.nodup
  simp only [List.map_cons, List.nodup_cons] at this
  exact fun y hy e => this.1 (e ▸ List.mem_map.2 ⟨y, hy, rfl⟩)
theorem Own.set (h : Own H ((r, cs, t) :: d)) (cs' : List AV) (t' : TypeId) : Own (setL H r (.row cs' t')) ((r, cs', t') :: d) := by
  refine ⟨h.nodup, fun x hx => ?_⟩
  rcases List.mem_cons.1 hx with rfl | hx
  · exact getH_set_eq h.head
  · rw [getH_set_ne (h.ne x hx)]; exact h.tail.get x hx
theorem Own.kill (h : Own H ((r, cs, t) :: d)) : Own (setL H r .dead) d := ⟨h.tail.nodup, fun x hx => by rw [getH_set_ne (h.ne x hx)]; exact h.tail.get x hx⟩
theorem Own.app (h : Own H d) (o : AO) : Own (H ++ [o]) d := ⟨h.nodup, fun x hx => getH_app (h.get x hx)⟩
theorem Own.new (h : Own H d) (cs : List AV) (t : TypeId) : Own (H ++ [.row cs t]) ((H.length, cs, t) :: d) := by
  refine ⟨?_, fun x hx => ?_⟩
  · simp only [List.map_cons, List.nodup_cons]
    refine ⟨fun hm => ?_, h.nodup⟩
    obtain ⟨y, hy, e⟩ := List.mem_map.1 hm
    have := h.lt y hy
    omega
  · rcases List.mem_cons.1 hx with rfl | hx
    · exact getH_last _ _
    · exact getH_app (h.get x hx)
theorem Own.nil : Own H [] := ⟨List.nodup_nil, by simp⟩
theorem Own.sub (h : Own H d) (s : d'.Sublist d) : Own H d' := ⟨h.nodup.sublist (s.map _), fun x hx => h.get x (s.subset hx)⟩
end
section
variable {call : CallF} {mt : MtF} {md : FuncId → Md} {H : List AO} {id : Nat} {fr : Fr}
def invV (call : CallF) (mt : MtF) (md : FuncId → Md) (a : AV) (name : String) (args : List AV) (H : List AO) (id : Nat) : Option Out :=
  match a with
  | .iface t v => (mt t name).bind fun p => match p.2 with
    | none => callV call md p.1 (v :: args) H id
    | some n => (Ai.load H n v).bind fun u => callV call md p.1 (u :: args) H id
  | _ => none
theorem core_inv (x : X) (name : String) (args : List X) : core call mt md H id (.inv x name args) fr = invV call mt md (ev fr x) name (args.map (ev fr)) H id := rfl
theorem invV_n {t : TypeId} {v : AV} {name : String} {args : List AV} {f : FuncId} (h : mt t name = some (f, none)) : invV call mt md (.iface t v) name args H id = callV call md f (v :: args) H id := by
  simp only [invV, h, Option.bind_some]
theorem invV_d {t : TypeId} {v u : AV} {name : String} {args : List AV} {f : FuncId} {n : Option Nat} (h : mt t name = some (f, some n)) (hl : Ai.load H n v = some u) : invV call mt md (.iface t v) name args H id = callV call md f (u :: args) H id := by
  simp only [invV, h, Option.bind_some, hl]
theorem extV_tup (i : Nat) (xs : List AV) : extV i (.tup xs) = xs[i]? := rfl
theorem fldV_agg (off : Nat) (n : Option Nat) (cs : List AV) : fldV off n (.agg cs) = part n (cs.drop off) := rfl
def fnV (call : CallF) (md : FuncId → Md) (a : AV) (args : List AV) (H : List AO) (id : Nat) : Option Out :=
  match a with
  | .fn (.func g) first cap => callV call md g (first ++ args ++ cap) H id
  | _ => none
theorem core_callS (t : Nat) (args : List X) : core call mt md H id (.call (.s t) args) fr = fnV call md (get fr t) (args.map (ev fr)) H id := rfl
theorem fnV_func (g : FuncId) (a b args : List AV) : fnV call md (.fn (.func g) a b) args H id = callV call md g (a ++ args ++ b) H id := rfl
def tasV (t : TypeId) (ok : Bool) (zero : AV) (a : AV) : Option Out :=
  match a with
  | .iface t' v => bif t == t' then some (.val (bif ok then .tup [v, litB true] else v) none) else bif ok then some (.val (.tup [zero, litB false]) none) else none
  | .lit .nilIface => bif ok then some (.val (.tup [zero, litB false]) none) else none
  | _ => none
theorem core_tas (t : TypeId) (ok : Bool) (z : AV) (x : X) : core call mt md H id (.tas t ok z x) fr = tasV t ok z (ev fr x) := rfl
theorem tasV_iface (t t' : TypeId) (ok : Bool) (z v : AV) : tasV t ok z (.iface t' v) = bif t == t' then some (.val (bif ok then .tup [v, litB true] else v) none) else bif ok then some (.val (.tup [z, litB false]) none) else none := rfl
theorem nilck_ptr (r o : Nat) : nilck (.ptr r o) = some (.ptr r o) := rfl
theorem load_ptr0 {r : Nat} {a : AV} {cs : List AV} {t : TypeId} (h : H[r]? = some (.row (a :: cs) t)) : Ai.load H none (.ptr r 0) = some a := by
  rw [load_ptr h]; rfl
theorem callV_flat {f : FuncId} {args : List AV} {p : List AV × List Nat} {v : Value} {H' : List AO} (hm : md f = .pure) (hf : mapL (frz H frzF) args = some p) (h : call f p.1 [] = some (.ret (.lit v), H')) : callV call md f args H id = some (.val (.lit v) none) := by
  unfold callV
  rw [hm]
  simp only
  rw [hf]
  simp only [Option.bind_some]
  rw [h]
  simp only [Option.bind_some]
  rw [show frzF = 15 + 1 from rfl, frz_whole rfl]
  simp only [Option.bind_some, flat, Bool.or_true, cond_true]
theorem callV_same {f : FuncId} {args : List AV} {a : AV} {H' : List AO} (hm : md f = .ref) (h : call f args H = some (.ret a, H')) (hl : H'.length = H.length) : callV call md f args H id = some (.wr a H') := by
  unfold callV
  rw [hm]
  simp only
  rw [h]
  simp only [Option.bind_some]
  rw [← hl, List.take_length]
  cases (below H'.length frzF a && H'.all (belowO H'.length)) <;> rfl
theorem callV_new {f : FuncId} {args : List AV} {a : AV} {H' : List AO} {r : Nat} {o : AO} (hm : md f = .ref) (h : call f args H = some (.ret a, H')) (hr : H'[r]? = some o) (hl : r < H.length) (hb : belowO H.length o = false) : callV call md f args H id = some (.wr a H') := by
  unfold callV
  rw [hm]
  simp only
  rw [h]
  simp only [Option.bind_some]
  have : (H'.take H.length).all (belowO H.length) = false := by
    rw [Bool.eq_false_iff]
    intro e
    rw [List.all_eq_true] at e
    have hm : o ∈ H'.take H.length := by
      refine List.mem_of_getElem? (i := r) ?_
      rw [List.getElem?_take, if_pos hl]; exact hr
    rw [e o hm] at hb
    cases hb
  rw [this, Bool.and_false]
  rfl
end
end Go.Ai
namespace Go.Ai
section
variable {call : CallF} {mt : MtF} {md : FuncId → Md} {H : List AO} {id : Nat}
def wholeA : AV → Bool
  | .agg xs => xs.all whole
  | a => whole a
theorem frz_wholeA {a : AV} (h : wholeA a = true) (k : Nat) : frz H (k + 2) a = some (a, []) := by
  cases a with
  | agg xs => rw [frz, mapL_whole h]; rfl
  | any => rfl
  | lit v => rfl
  | ip xs => rfl
  | sl e xs c => rfl
  | _ => cases h
theorem mapL_wholeA {k : Nat} : ∀ {as : List AV}, as.all wholeA = true → mapL (frz H (k + 2)) as = some (as, [])
  | [], _ => rfl
  | a :: r, h => by
    rw [List.all_cons, Bool.and_eq_true] at h
    simp only [mapL, frz_wholeA h.1, mapL_wholeA h.2]
    rfl
theorem callV_pureA {f : FuncId} {args : List AV} {a : AV} {H' : List AO} (hm : md f = .pure) (hw : args.all wholeA = true) (h : call f args [] = some (.ret a, H')) (ha : wholeA a = true) : callV call md f args H id = some (.val a none) := by
  unfold callV
  rw [hm]
  simp only
  rw [show frzF = 14 + 2 from rfl, mapL_wholeA hw]
  simp only [Option.bind_some]
  rw [h]
  simp only [Option.bind_some]
  rw [frz_wholeA ha]
  rfl
def boxV (id n : Nat) (a : AV) (t : TypeId) : Option Out := bif ((cellsOf a).length == n && (cellsOf a).all cellA) then some (.val (.ptr id 0) (some (.row (cellsOf a) t))) else none
theorem core_box (n : Nat) (x : X) (t : TypeId) (fr : Fr) : core call mt md H id (.box n x t) fr = boxV id n (ev fr x) t := rfl
theorem boxV_agg {id n : Nat} {xs : List AV} {t : TypeId} (h : xs.length = n) (hc : xs.all cellA = true) : boxV id n (.agg xs) t = some (.val (.ptr id 0) (some (.row xs t))) := by
  unfold boxV
  simp only [cellsOf, h, hc, beq_self_eq_true, Bool.and_self, cond_true]
theorem load_agg {r n : Nat} {cs : List AV} {t : TypeId} (h : H[r]? = some (.row cs t)) (hn : cs.length = n) : Ai.load H (some n) (.ptr r 0) = some (.agg cs) := by
  simp only [Ai.load, rowAt_of h, Option.bind_some, part, List.drop_zero, hn, Nat.ble_eq_true_of_le (Nat.le_refl n), cond_true]
  rw [← hn, List.take_length]
theorem load_ipA {n : Nat} {cs : List AV} (hn : cs.length = n) : Ai.load H (some n) (.ip cs) = some (.agg cs) := by
  simp only [Ai.load, part, hn, Nat.ble_eq_true_of_le (Nat.le_refl n), cond_true]
  rw [← hn, List.take_length]
theorem storeAt_agg {r n : Nat} {cs xs : List AV} {t : TypeId} (h : H[r]? = some (.row cs t)) (hn : cs.length = n) (hx : xs.length = n) (hc : xs.all cellA = true) : storeAt H n (.ptr r 0) (.agg xs) = some (setL H r (.row xs t)) := by
  simp only [storeAt, rowAt_of h, Option.bind_some, cellsOf, hx, hc, hn, beq_self_eq_true, Nat.zero_add, Nat.ble_eq_true_of_le (Nat.le_refl n), Bool.and_self, cond_true, List.take_zero, List.nil_append]
  rw [← hn, List.drop_length, List.append_nil]
theorem fadr_ptr (off r o : Nat) : fadr off (.ptr r o) = some (.ptr r (o + off)) := rfl
theorem fadr_ip (off : Nat) (xs : List AV) : fadr off (.ip xs) = some (.ip (xs.drop off)) := rfl
theorem setL_last (H : List AO) (o o' : AO) : setL (H ++ [o]) H.length o' = H ++ [o'] := by
  unfold setL; simp
theorem get_last (H : List AO) (o : AO) : (H ++ [o])[H.length]? = some o := by simp
end
end Go.Ai
namespace Go.Ai
def sameLit : Value → Value → Bool
  | .int k a, .int k' b => decide (k = k') && decide (a = b)
  | .bool a, .bool b => a == b
  | .string a, .string b => a.data.toList == b.data.toList
  | .nilIface, .nilIface => true
  | .nilFunc, .nilFunc => true
  | .pointer none, .pointer none => true
  | _, _ => false
theorem sameLit_eq {a b : Value} (h : sameLit a b = true) : a = b := by
  unfold sameLit at h
  split at h
  · rw [Bool.and_eq_true, decide_eq_true_eq, decide_eq_true_eq] at h
    rw [h.1, h.2]
  · rw [eq_of_beq h]
  · rename_i a b
    have := eq_of_beq h
    obtain ⟨⟨a⟩⟩ := a
    obtain ⟨⟨b⟩⟩ := b
    simp only at this
    rw [this]
  · rfl
  · rfl
  · rfl
  · cases h
mutual
/-- Are two abstract values surely the same? -/
def sameA : Nat → AV → AV → Bool
  | 0, _, _ => false
  | k + 1, a, b => match a, b with
    | .any, .any => true
    | .lit v, .lit u => sameLit v u
    | .agg xs, .agg ys => sameAs k xs ys
    | .tup xs, .tup ys => sameAs k xs ys
    | .ptr r o, .ptr r' o' => r == r' && o == o'
    | .ip xs, .ip ys => sameAs k xs ys
    | .own r o n e c, .own r' o' n' e' c' => r == r' && o == o' && n == n' && e == e' && c == c'
    | .sl e xs c, .sl e' ys c' => e == e' && c == c' && sameAss k xs ys
    | .mpv r, .mpv r' => r == r'
    | _, _ => false
def sameAs : Nat → List AV → List AV → Bool
  | _, [], [] => true
  | 0, _, _ => false
  | k + 1, a :: as, b :: bs => sameA k a b && sameAs k as bs
  | _, _, _ => false
def sameAss : Nat → List (List AV) → List (List AV) → Bool
  | _, [], [] => true
  | 0, _, _ => false
  | k + 1, a :: as, b :: bs => sameAs k a b && sameAss k as bs
  | _, _, _ => false
end
theorem same_eq : ∀ k : Nat, (∀ a b, sameA k a b = true → a = b) ∧ (∀ a b, sameAs k a b = true → a = b) ∧ (∀ a b, sameAss k a b = true → a = b)
  | 0 => by
    refine ⟨fun a b h => by simp [sameA] at h, fun a b h => ?_, fun a b h => ?_⟩
    · cases a <;> cases b <;> first | rfl | simp [sameAs] at h
    · cases a <;> cases b <;> first | rfl | simp [sameAss] at h
  | k + 1 => by
    obtain ⟨h1, h2, h3⟩ := same_eq k
    refine ⟨fun a b h => ?_, fun a b h => ?_, fun a b h => ?_⟩
    · unfold sameA at h
      split at h
      · rfl
      · rw [sameLit_eq h]
      · rw [h2 _ _ h]
      · rw [h2 _ _ h]
      · simp only [Bool.and_eq_true, beq_iff_eq] at h; rw [h.1, h.2]
      · rw [h2 _ _ h]
      · simp only [Bool.and_eq_true, beq_iff_eq] at h
        obtain ⟨⟨⟨⟨e1, e2⟩, e3⟩, e4⟩, e5⟩ := h
        rw [e1, e2, e3, e4, e5]
      · simp only [Bool.and_eq_true, beq_iff_eq] at h
        obtain ⟨⟨e1, e2⟩, e3⟩ := h
        rw [e1, e2, h3 _ _ e3]
      · rw [eq_of_beq h]
      · cases h
    · cases a with
      | nil => cases b <;> first | rfl | simp [sameAs] at h
      | cons x xs =>
        cases b with
        | nil => simp [sameAs] at h
        | cons y ys =>
          simp only [sameAs, Bool.and_eq_true] at h
          rw [h1 _ _ h.1, h2 _ _ h.2]
    · cases a with
      | nil => cases b <;> first | rfl | simp [sameAss] at h
      | cons x xs =>
        cases b with
        | nil => simp [sameAss] at h
        | cons y ys =>
          simp only [sameAss, Bool.and_eq_true] at h
          rw [h2 _ _ h.1, h3 _ _ h.2]
def sameO : Option Out → Option Out → Bool
  | some (.val a none), some (.val b none) => sameA 40 a b
  | _, _ => false
theorem sameO_eq {x y : Option Out} (h : sameO x y = true) : x = y := by
  unfold sameO at h
  split at h
  · rw [(same_eq 40).1 _ _ h]
  · cases h
section
variable (call : FuncId → List AV → List AO → Option (R × List AO)) (mt : TypeId → String → Option (FuncId × Option (Option Nat))) (md : FuncId → Md)
def lateB {α : Type} (fr : Fr) (H : List AO) : List O → Option α → Option α
  | [], k => k
  | o :: r, k => (wanted o fr).bind fun
    | true => bif sameO (core call mt md H H.length o.i fr) (some (.val (getO fr o.dst) none)) then lateB fr H r k else none
    | false => lateB fr H r k
def eaB {α : Type} (i : I) (fr : Fr) (x : Option Out) : List (List AO) → Option α → Option α
  | [], k => k
  | H :: r, k => bif sameO (core call mt md H H.length i fr) x then eaB i fr x r k else none
def runTB (late : List O) (early : List Nat) : List (List AO) → List O → Fr → List AO → Option SR
  | _, [], fr, H => lateB call mt md fr H late (some (.go fr H))
  | Hs, o :: r, fr, H => lateB call mt md fr H late ((wanted o fr).bind fun
    | true => eaB call mt md o.i fr (core call mt md H H.length o.i fr) (seen early o.dst Hs) ((stepT call mt md o fr H).bind fun
      | .go fr H' => runTB late early (H :: Hs) r fr H'
      | .pan a fr H' => bif r.isEmpty then some (.pan a fr H') else none)
    | false => runTB late early (H :: Hs) r (putD fr o.dst (.lit undef)) H)
def codeB (k : Nat) : C → Fr → List AO → Option S
  | .skip, fr, H => some (.normal, fr, H)
  | .reg ops l, fr, H => (run call mt md ops fr H).bind fun
    | .go fr H => some (.normal, keep l fr, H)
    | .pan a fr H => some (.pan a, fr, H)
  | .draw ops tail l late early, fr, H => (runD call mt md H H.length 0 ops fr).bind fun p =>
    (runTB call mt md late early [H] tail p.1 (bif ops.any (fun o => makes md o.i) then H ++ p.2 else H)).bind fun
    | .go fr H => some (.normal, keep l fr, H)
    | .pan a fr H => some (.pan a, dropD (ops ++ tail) fr, H)
  | .seq a b, fr, H => (codeB k a fr H).bind fun s => match s.1 with
    | .normal => codeB k b s.2.1 s.2.2
    | e => some (e, s.2.1, s.2.2)
  | .cond x a b, fr, H => (asBool (ev fr x)).bind fun t => bif t then codeB k a fr H else codeB k b fr H
  | .block id c, fr, H => (codeB k c fr H).bind fun s => match s.1 with
    | .exit id' => bif id' == id then some (.normal, s.2.1, s.2.2) else some (.exit id', s.2.1, s.2.2)
    | e => some (e, s.2.1, s.2.2)
  | .loop l c, fr, H => loopN (codeB k c) l k fr H
  | .exit id, fr, H => some (.exit id, fr, H)
  | .ret, fr, H => some (.ret, fr, H)
  | .bad, _, _ => none
end
def callB (T : FuncId → Option F) (ov : Ov) (mt : TypeId → String → Option (FuncId × Option (Option Nat))) (md : FuncId → Md) : Nat → FuncId → List AV → List AO → Option (R × List AO)
  | 0, _, _, _ => none
  | k + 1, f, args, H => match ov f with
    | some G => G args H
    | none => (T f).bind fun F => bif args.length == F.np then
        (codeB (callB T ov mt md k) mt md k F.body (initFr 0 args) H).bind fun s => match s.1 with
          | .ret => (res s.2.1 s.2.2 F.res).bind fun a => some (.ret a, s.2.2)
          | .normal => (res s.2.1 s.2.2 F.res).bind fun a => some (.ret a, s.2.2)
          | .pan a => some (.pan a, s.2.2)
          | .exit _ => none
      else none
section
variable {call : FuncId → List AV → List AO → Option (R × List AO)} {mt : TypeId → String → Option (FuncId × Option (Option Nat))} {md : FuncId → Md}
theorem lateB_le {α : Type} {fr : Fr} {H : List AO} {k k' : Option α} {s : α} (hk : k = some s → k' = some s) : ∀ {late : List O}, lateB call mt md fr H late k = some s → lateS call mt md fr H late k' = some s
  | [], h => hk h
  | o :: r, h => by
    simp only [lateB] at h
    simp only [lateS]
    obtain ⟨b, h0, h⟩ := bO.1 h
    rw [h0]
    cases b with
    | false => exact lateB_le hk h
    | true =>
      simp only at h
      simp only [Option.bind_some]
      cases hs : sameO (core call mt md H H.length o.i fr) (some (.val (getO fr o.dst) none)) with
      | false => rw [hs] at h; cases h
      | true =>
        rw [hs, cond_true] at h
        unfold lS
        rw [if_pos (sameO_eq hs)]
        exact lateB_le hk h
theorem eaB_le {α : Type} {i : I} {fr : Fr} {x : Option Out} {k k' : Option α} {s : α} (hk : k = some s → k' = some s) : ∀ {Hs : List (List AO)}, eaB call mt md i fr x Hs k = some s → eaS call mt md i fr x Hs k' = some s
  | [], h => hk h
  | H :: r, h => by
    simp only [eaB] at h
    simp only [eaS]
    cases hs : sameO (core call mt md H H.length i fr) x with
    | false => rw [hs] at h; cases h
    | true =>
      rw [hs, cond_true] at h
      rw [if_pos (sameO_eq hs)]
      exact eaB_le hk h
theorem runTB_le {late : List O} {early : List Nat} : ∀ {Hs : List (List AO)} {l : List O} {fr : Fr} {H : List AO} {s : SR}, runTB call mt md late early Hs l fr H = some s → runT call mt md late early Hs l fr H = some s
  | _, [], _, _, _, h => by
    simp only [runTB] at h
    simp only [runT]
    exact lateB_le (fun h => h) h
  | Hs, o :: l, fr, H, s, h => by
    simp only [runTB] at h
    simp only [runT]
    refine lateB_le (fun h => ?_) h
    refine bind_mono (fun _ h => h) (fun b h => ?_) h
    cases b with
    | false => exact runTB_le h
    | true =>
      refine eaB_le (fun h => ?_) h
      refine bind_mono (fun _ h => h) (fun x h => ?_) h
      cases x with
      | go fr H => exact runTB_le h
      | pan a fr H => exact h
theorem loopB_le {b b' : Fr → List AO → Option S} {l : List Nat} (hb : ∀ fr H s, b fr H = some s → b' fr H = some s) {n : Nat} {fr : Fr} {H : List AO} {s : S} (h : loopN b l n fr H = some s) : loopN b' l n fr H = some s := loop_mono hb (Nat.le_refl n) h
theorem codeB_le {k : Nat} : ∀ {x : C} {fr : Fr} {H : List AO} {s : S}, codeB call mt md k x fr H = some s → code call mt md k x fr H = some s
  | .skip, _, _, _, h => h
  | .reg ops l, fr, H, s, h => h
  | .draw ops tail l late early, fr, H, s, h => bind_mono (fun _ h => h) (fun _ h => bind_mono (fun _ h => runTB_le h) (fun _ h => h) h) h
  | .seq a b, fr, H, s, h => by
    simp only [codeB] at h
    simp only [code]
    refine bind_mono (fun _ h => codeB_le h) (fun x h => ?_) h
    obtain ⟨e, fr1, H1⟩ := x
    cases e with
    | normal => exact codeB_le h
    | _ => exact h
  | .cond x a b, fr, H, s, h => by
    simp only [codeB] at h
    simp only [code]
    refine bind_mono (fun _ h => h) (fun t h => ?_) h
    cases t with
    | true => exact codeB_le h
    | false => exact codeB_le h
  | .block id c, fr, H, s, h => by
    simp only [codeB] at h
    simp only [code]
    exact bind_mono (fun _ h => codeB_le h) (fun _ h => h) h
  | .loop l c, fr, H, s, h => loopB_le (fun _ _ _ h => codeB_le h) h
  | .exit id, _, _, _, h => h
  | .ret, _, _, _, h => h
end
theorem callB_le {T : FuncId → Option F} {ov : Ov} {mt : TypeId → String → Option (FuncId × Option (Option Nat))} {md : FuncId → Md} : ∀ (k : Nat), Le (callB T ov mt md k) (call T ov mt md k)
  | 0, _, _, _, _, h => h
  | k + 1, f, args, H, r, h => by
    simp only [callB] at h
    simp only [call]
    cases ho : ov f with
    | some G => rw [ho] at h; exact h
    | none =>
      rw [ho] at h
      simp only at h ⊢
      refine bind_mono (fun _ h => h) (fun F h => ?_) h
      cases ha : (args.length == F.np) with
      | false => rw [ha] at h; cases h
      | true =>
        rw [ha] at h
        simp only [cond_true] at h ⊢
        exact bind_mono (fun _ h => code_mono (callB_le k) (Nat.le_refl k) (codeB_le h)) (fun _ h => h) h
end Go.Ai
namespace Go.Ai
open Go
def oO (d : Nat) (i : I) : O := ⟨some d, i, none⟩
def oM (d s : Nat) : O := ⟨some d, .mv (.s s), none⟩
def oL (d s : Nat) : O := ⟨some d, .load none (.s s), none⟩
def oF (d n s : Nat) : O := ⟨some d, .fadr n (.s s), none⟩
def oI (d e s t : Nat) : O := ⟨some d, .iadr e (.s s) (.s t), none⟩
def oC (d f : Nat) (xs : List X) : O := ⟨some d, .call (.k (.fn (.func f) [] [])) xs, none⟩
theorem oO_eq (d : Nat) (i : I) : oO d i = ⟨some d, i, none⟩ := rfl
theorem oM_eq (d s : Nat) : oM d s = ⟨some d, .mv (.s s), none⟩ := rfl
theorem oL_eq (d s : Nat) : oL d s = ⟨some d, .load none (.s s), none⟩ := rfl
theorem oF_eq (d n s : Nat) : oF d n s = ⟨some d, .fadr n (.s s), none⟩ := rfl
theorem oI_eq (d e s t : Nat) : oI d e s t = ⟨some d, .iadr e (.s s) (.s t), none⟩ := rfl
theorem oC_eq (d f : Nat) (xs : List X) : oC d f xs = ⟨some d, .call (.k (.fn (.func f) [] [])) xs, none⟩ := rfl
theorem bB : type_of% (And.intro @cond_true.{1} (And.intro @cond_false.{1} (And.intro Bool.or_true (And.intro Bool.true_or (And.intro Bool.false_or (And.intro Bool.or_false (And.intro Bool.and_true (And.intro Bool.true_and (And.intro Bool.false_and Bool.and_false))))))))) := ⟨@cond_true, @cond_false, Bool.or_true, Bool.true_or, Bool.false_or, Bool.or_false, Bool.and_true, Bool.true_and, Bool.false_and, Bool.and_false⟩
theorem aP : type_of% (And.intro @ifS_true @ifS_false) := (And.intro @ifS_true @ifS_false)
theorem aW : type_of% (And.intro (And.intro (And.intro (And.intro (And.intro (And.intro (And.intro @initFr.eq_1 @initFr.eq_2) (And.intro @oO_eq (And.intro @oM_eq @oL_eq))) (And.intro (And.intro @oF_eq @oI_eq) (And.intro @oC_eq (And.intro @codeW_seq @codeW_reg)))) (And.intro (And.intro (And.intro @codeW_cond @codeW_block) (And.intro @codeW_loop (And.intro @codeW_skip @codeW_exit))) (And.intro (And.intro @codeW_ret (And.intro @thenS_normal @thenS_if)) (And.intro @thenS_ret (And.intro @thenS_exit @thenS_pan))))) (And.intro (And.intro (And.intro (And.intro @thenS_none @blockS_normal) (And.intro @blockS_exit (And.intro @blockS_ret @blockS_pan))) (And.intro (And.intro @blockS_if (And.intro @condS_some @opS_val)) (And.intro @opS_new (And.intro @opS_wr @opS_fz)))) (And.intro (And.intro (And.intro @opS_pan @bindO_some) (And.intro @runS_nil (And.intro @runS_cons @runS_guard))) (And.intro (And.intro @gS_t (And.intro @gS_f @gS_undef)) (And.intro @asG_lit (And.intro @asG_undef @core_mv)))))) (And.intro (And.intro (And.intro (And.intro (And.intro @core_pick @core_alloc) (And.intro @core_load (And.intro @core_store @core_clr))) (And.intro (And.intro @core_nilck (And.intro @core_bin @core_binb)) (And.intro @core_un (And.intro @core_fadr @core_iadr)))) (And.intro (And.intro (And.intro @core_sli @core_len) (And.intro @core_lenS (And.intro @core_idxS @core_app))) (And.intro (And.intro @core_mki (And.intro @core_call @core_extV)) (And.intro @core_fld (And.intro @core_mks @wrO_some))))) (And.intro (And.intro (And.intro (And.intro @valO_some @lenV_sl) (And.intro @lenV_own (And.intro @bin_eql @bin_neq))) (And.intro (And.intro @bin_lss (And.intro @bin_leq @bin_gtr)) (And.intro @bin_geq (And.intro @bin_add @bin_sub)))) (And.intro (And.intro (And.intro @bin_mul @unop_not) (And.intro @asBool_lit (And.intro @pickV_lit @load_ip))) (And.intro (And.intro @iadr_sl (And.intro @iadr_own @ev_s)) (And.intro @ev_k (And.intro @get_cons @get_nil))))))) (And.intro (And.intro (And.intro (And.intro (And.intro (And.intro @put_cons @put_nil) (And.intro @putD_some (And.intro @putD_none @keep_cons))) (And.intro (And.intro @keep_nil @if_true.{1}) (And.intro @if_false.{1} (And.intro @List.mem_cons.{0} @List.not_mem_nil.{0})))) (And.intro (And.intro (And.intro @or_false @false_or) (And.intro @or_true (And.intro @true_or @or_self))) (And.intro (And.intro @Nat.zero_add (And.intro @decide_false @decide_true)) (And.intro @beq_self_eq_true.{0} (And.intro @BEq.rfl.{0} @Option.map_some.{0, 0}))))) (And.intro (And.intro (And.intro (And.intro @Option.map_none.{0, 0} @List.head?_cons.{0}) (And.intro @List.map_cons.{0, 0} (And.intro @List.map_nil.{0, 0} @List.append_nil.{0}))) (And.intro (And.intro @List.nil_append.{0} (And.intro @List.cons_append.{0} @Bool.not_true)) (And.intro @Bool.not_false (And.intro @cond_true.{1} @cond_false.{1})))) (And.intro (And.intro (And.intro @Int.natCast_nonneg @Int.toNat_natCast) (And.intro @Int.ofNat_toNat (And.intro @core_bslice1 @bsV_int))) (And.intro (And.intro @codeW_drawn (And.intro @headS_cons @headS_nil)) (And.intro @headS_guard (And.intro @hS_val @hS_new)))))) (And.intro (And.intro (And.intro (And.intro (And.intro @tailS_nil @tailS_cons) (And.intro @tailS_guard (And.intro @tlS_val @tlS_new))) (And.intro (And.intro @tlS_wr (And.intro @tlS_fz @tlS_pan)) (And.intro @anyMk_cons (And.intro @anyMk_nil @binb_eql)))) (And.intro (And.intro (And.intro @binb_neq @List.isEmpty_nil.{0}) (And.intro @List.isEmpty_cons.{0} (And.intro @Bool.or_false @Bool.false_or))) (And.intro (And.intro @Bool.or_true (And.intro @Bool.true_or @pickV_t)) (And.intro @pickV_f (And.intro @core_inv @core_callS))))) (And.intro (And.intro (And.intro (And.intro @fnV_func @core_tas) (And.intro @tasV_iface (And.intro @nilck_ptr @extV_tup))) (And.intro (And.intro @fldV_agg (And.intro @List.getElem?_cons_zero.{0} @List.getElem?_cons_succ.{0})) (And.intro @lateS_nil (And.intro @lateS_cons @lateS_guard)))) (And.intro (And.intro (And.intro @lS_val @getO_some) (And.intro @codeW_drawnE (And.intro @tailE_done @tailE_cons))) (And.intro (And.intro @tailE_guard (And.intro @eaS_nil @eaS_cons)) (And.intro @eaC_same (And.intro @seen_some @seen_none)))))))) := (And.intro (And.intro (And.intro (And.intro (And.intro (And.intro (And.intro @initFr.eq_1 @initFr.eq_2) (And.intro @oO_eq (And.intro @oM_eq @oL_eq))) (And.intro (And.intro @oF_eq @oI_eq) (And.intro @oC_eq (And.intro @codeW_seq @codeW_reg)))) (And.intro (And.intro (And.intro @codeW_cond @codeW_block) (And.intro @codeW_loop (And.intro @codeW_skip @codeW_exit))) (And.intro (And.intro @codeW_ret (And.intro @thenS_normal @thenS_if)) (And.intro @thenS_ret (And.intro @thenS_exit @thenS_pan))))) (And.intro (And.intro (And.intro (And.intro @thenS_none @blockS_normal) (And.intro @blockS_exit (And.intro @blockS_ret @blockS_pan))) (And.intro (And.intro @blockS_if (And.intro @condS_some @opS_val)) (And.intro @opS_new (And.intro @opS_wr @opS_fz)))) (And.intro (And.intro (And.intro @opS_pan @bindO_some) (And.intro @runS_nil (And.intro @runS_cons @runS_guard))) (And.intro (And.intro @gS_t (And.intro @gS_f @gS_undef)) (And.intro @asG_lit (And.intro @asG_undef @core_mv)))))) (And.intro (And.intro (And.intro (And.intro (And.intro @core_pick @core_alloc) (And.intro @core_load (And.intro @core_store @core_clr))) (And.intro (And.intro @core_nilck (And.intro @core_bin @core_binb)) (And.intro @core_un (And.intro @core_fadr @core_iadr)))) (And.intro (And.intro (And.intro @core_sli @core_len) (And.intro @core_lenS (And.intro @core_idxS @core_app))) (And.intro (And.intro @core_mki (And.intro @core_call @core_extV)) (And.intro @core_fld (And.intro @core_mks @wrO_some))))) (And.intro (And.intro (And.intro (And.intro @valO_some @lenV_sl) (And.intro @lenV_own (And.intro @bin_eql @bin_neq))) (And.intro (And.intro @bin_lss (And.intro @bin_leq @bin_gtr)) (And.intro @bin_geq (And.intro @bin_add @bin_sub)))) (And.intro (And.intro (And.intro @bin_mul @unop_not) (And.intro @asBool_lit (And.intro @pickV_lit @load_ip))) (And.intro (And.intro @iadr_sl (And.intro @iadr_own @ev_s)) (And.intro @ev_k (And.intro @get_cons @get_nil))))))) (And.intro (And.intro (And.intro (And.intro (And.intro (And.intro @put_cons @put_nil) (And.intro @putD_some (And.intro @putD_none @keep_cons))) (And.intro (And.intro @keep_nil @if_true.{1}) (And.intro @if_false.{1} (And.intro @List.mem_cons.{0} @List.not_mem_nil.{0})))) (And.intro (And.intro (And.intro @or_false @false_or) (And.intro @or_true (And.intro @true_or @or_self))) (And.intro (And.intro @Nat.zero_add (And.intro @decide_false @decide_true)) (And.intro @beq_self_eq_true.{0} (And.intro @BEq.rfl.{0} @Option.map_some.{0, 0}))))) (And.intro (And.intro (And.intro (And.intro @Option.map_none.{0, 0} @List.head?_cons.{0}) (And.intro @List.map_cons.{0, 0} (And.intro @List.map_nil.{0, 0} @List.append_nil.{0}))) (And.intro (And.intro @List.nil_append.{0} (And.intro @List.cons_append.{0} @Bool.not_true)) (And.intro @Bool.not_false (And.intro @cond_true.{1} @cond_false.{1})))) (And.intro (And.intro (And.intro @Int.natCast_nonneg @Int.toNat_natCast) (And.intro @Int.ofNat_toNat (And.intro @core_bslice1 @bsV_int))) (And.intro (And.intro @codeW_drawn (And.intro @headS_cons @headS_nil)) (And.intro @headS_guard (And.intro @hS_val @hS_new)))))) (And.intro (And.intro (And.intro (And.intro (And.intro @tailS_nil @tailS_cons) (And.intro @tailS_guard (And.intro @tlS_val @tlS_new))) (And.intro (And.intro @tlS_wr (And.intro @tlS_fz @tlS_pan)) (And.intro @anyMk_cons (And.intro @anyMk_nil @binb_eql)))) (And.intro (And.intro (And.intro @binb_neq @List.isEmpty_nil.{0}) (And.intro @List.isEmpty_cons.{0} (And.intro @Bool.or_false @Bool.false_or))) (And.intro (And.intro @Bool.or_true (And.intro @Bool.true_or @pickV_t)) (And.intro @pickV_f (And.intro @core_inv @core_callS))))) (And.intro (And.intro (And.intro (And.intro @fnV_func @core_tas) (And.intro @tasV_iface (And.intro @nilck_ptr @extV_tup))) (And.intro (And.intro @fldV_agg (And.intro @List.getElem?_cons_zero.{0} @List.getElem?_cons_succ.{0})) (And.intro @lateS_nil (And.intro @lateS_cons @lateS_guard)))) (And.intro (And.intro (And.intro @lS_val @getO_some) (And.intro @codeW_drawnE (And.intro @tailE_done @tailE_cons))) (And.intro (And.intro @tailE_guard (And.intro @eaS_nil @eaS_cons)) (And.intro @eaC_same (And.intro @seen_some @seen_none))))))))
end Go.Ai
