/- The abstract interpreter: words for the tails of drawn regions, and more operations as equations. No condition. -/
import Derived.Test.YtoemnjclhheeoaaA34
namespace Go.Ai
set_option linter.unusedVariables false
set_option linter.unusedSimpArgs false
set_option linter.unusedSectionVars false
section
variable {call : CallF} {mt : MtF} {md : FuncId → Md}

/-- What an operation of a tail is followed by. -/
def tlS (x : Option Out) (d : Option Nat) (fr : Fr) (H : List AO) (all : List O) (last : Bool) (k : Fr → List AO → Option S) : Option S := x.bind fun
  | .val a none => k (putD fr d a) H
  | .val a (some b) => k (putD fr d a) (H ++ [b])
  | .wr a H' => k (putD fr d a) H'
  | .fz a ids => k (putD fr d a) (killH H ids 0 H)
  | .pan a H' => bif last then some (.pan a, dropD all fr, H') else none
@[congr] theorem tlS_congr {x x' : Option Out} {d : Option Nat} {fr : Fr} {H : List AO} {all : List O} {last : Bool} {k : Fr → List AO → Option S} (h : x = x') : tlS x d fr H all last k = tlS x' d fr H all last k := by rw [h]
theorem tlS_val (a : AV) (d : Option Nat) (fr : Fr) (H : List AO) (all : List O) (last : Bool) (k : Fr → List AO → Option S) : tlS (some (.val a none)) d fr H all last k = k (putD fr d a) H := rfl
theorem tlS_new (a : AV) (b : AO) (d : Option Nat) (fr : Fr) (H : List AO) (all : List O) (last : Bool) (k : Fr → List AO → Option S) : tlS (some (.val a (some b))) d fr H all last k = k (putD fr d a) (H ++ [b]) := rfl
theorem tlS_wr (a : AV) (H' : List AO) (d : Option Nat) (fr : Fr) (H : List AO) (all : List O) (last : Bool) (k : Fr → List AO → Option S) : tlS (some (.wr a H')) d fr H all last k = k (putD fr d a) H' := rfl
theorem tlS_fz (a : AV) (ids : List Nat) (d : Option Nat) (fr : Fr) (H : List AO) (all : List O) (last : Bool) (k : Fr → List AO → Option S) : tlS (some (.fz a ids)) d fr H all last k = k (putD fr d a) (killH H ids 0 H) := rfl
theorem tlS_pan (a : AV) (H' : List AO) (d : Option Nat) (fr : Fr) (H : List AO) (all : List O) (k : Fr → List AO → Option S) : tlS (some (.pan a H')) d fr H all true k = some (.pan a, dropD all fr, H') := rfl
theorem tailS_nil (all : List O) (l : List Nat) (fr : Fr) (H : List AO) : tailS call mt md all l [] fr H = some (.normal, keep l fr, H) := rfl
theorem tailS_cons (all : List O) (l : List Nat) (d : Option Nat) (i : I) (r : List O) (fr : Fr) (H : List AO) :
    tailS call mt md all l (⟨d, i, none⟩ :: r) fr H = tlS (core call mt md H H.length i fr) d fr H all r.isEmpty (tailS call mt md all l r) := by
  rw [tailS]; rfl
theorem tailS_guard (all : List O) (l : List Nat) (d : Option Nat) (i : I) (t : Nat) (b : Bool) (r : List O) (fr : Fr) (H : List AO) :
    tailS call mt md all l (⟨d, i, some (t, b)⟩ :: r) fr H = gS b (asG (get fr t)) (tlS (core call mt md H H.length i fr) d fr H all r.isEmpty (tailS call mt md all l r)) (tailS call mt md all l r (putD fr d (.lit undef)) H) := by
  have main : ∀ c : Bool, (match c with
      | true => (core call mt md H H.length i fr).bind fun
        | .val a none => tailS call mt md all l r (putD fr d a) H
        | .val a (some b) => tailS call mt md all l r (putD fr d a) (H ++ [b])
        | .wr a H' => tailS call mt md all l r (putD fr d a) H'
        | .fz a ids => tailS call mt md all l r (putD fr d a) (killH H ids 0 H)
        | .pan a H' => bif r.isEmpty then some (.pan a, dropD all fr, H') else none
      | false => tailS call mt md all l r (putD fr d (.lit undef)) H) = bif c then tlS (core call mt md H H.length i fr) d fr H all r.isEmpty (tailS call mt md all l r) else tailS call mt md all l r (putD fr d (.lit undef)) H := by
    intro c; cases c <;> rfl
  rw [tailS]
  simp only [wanted]
  generalize get fr t = a
  cases a with
  | lit v =>
    cases v <;> first
      | rfl
      | exact main false
      | (rename_i c; exact main (c == b))
  | _ => rfl

/-- Does a head make an object? -/
def anyMk (md : FuncId → Md) (ops : List O) : Bool := ops.any (fun o => makes md o.i)
theorem anyMk_nil : anyMk md [] = false := rfl
theorem anyMk_cons (d : Option Nat) (i : I) (g : Option (Nat × Bool)) (r : List O) : anyMk md (⟨d, i, g⟩ :: r) = (makes md i || anyMk md r) := rfl
theorem codeW_drawn (ops tail : List O) (l : List Nat) (fr : Fr) (H : List AO) : codeW call mt md (.draw ops tail l) fr H =
    headS call mt md H (fun fr obs => tailS call mt md (ops ++ tail) l tail fr (bif anyMk md ops then H ++ obs else H)) H.length ops fr [] := codeW_draw ops tail l fr H

/-! ### More operations -/
variable {H : List AO} {id : Nat} {fr : Fr}
theorem mksV_ok {e bytes : Nat} {z : List AV} {t : TypeId} {n : Nat} (h1 : n * bytes ≤ 140737488355328) (h2 : n ≤ 140737488355328) :
    mksV id e bytes z t (litI .i64 (n : Int)) (litI .i64 (n : Int)) = some (.val (.own id 0 n e (some n)) (some (.row (reps n z) t))) := by
  have e1 : (((n * bytes : Nat) : Int) ≤ 140737488355328) := by omega
  rw [Int.natCast_mul] at e1
  have e2 : ((n : Int) ≤ 140737488355328) := by omega
  simp only [mksV, litI, e1, e2, Int.natCast_nonneg, Int.le_refl, decide_true, Bool.and_self, cond_true, Int.toNat_natCast]
theorem reps_one (a : AV) : ∀ n, reps n [a] = List.replicate n a
  | 0 => rfl
  | n + 1 => by rw [reps, reps_one a n]; rfl
theorem bin_rem (k : IntKind) {a b : Int} (h : b ≠ 0) : bin .rem (litI k a) (litI k b) = some (litI k (a.tmod b)) := by simp [bin, litI, binI, h]
theorem bin_quo (k : IntKind) {a b : Int} (h : b ≠ 0) : bin .quo (litI k a) (litI k b) = some (litI k (k.wrap (a.tdiv b))) := by simp [bin, litI, binI, h]
theorem binb_eql (a b : Bool) : binb .eql (litB a) (litB b) = some (litB (a == b)) := rfl
theorem binb_neq (a b : Bool) : binb .neq (litB a) (litB b) = some (litB (!(a == b))) := rfl

theorem pickV_t (a b : AV) : pickV true a b = a := by
  unfold pickV; split <;> rfl
theorem pickV_f (a b : AV) : pickV false a b = b := by
  unfold pickV; split <;> rfl
/-- Does a call answer true? -/
def saysTrue : Option (R × List AO) → Bool
  | some (.ret (.lit (.bool true)), _) => true
  | _ => false
theorem saysTrue_some {x : Option (R × List AO)} (h : saysTrue x = true) : ∃ H', x = some (.ret (litB true), H') := by
  unfold saysTrue at h
  split at h
  · exact ⟨_, rfl⟩
  · cases h

/-- A row of cells that are told whole, told whole itself. -/
theorem mapR_whole {cs : List AV} : ∀ {k n : Nat}, cs.all whole = true → mapR (frz H (k + 1)) 1 n cs = some ((chunks 1 n cs), [])
  | k, 0, _ => rfl
  | k, n + 1, h => by
    have h1 : (cs.take 1).all whole = true := by
      rw [List.all_eq_true] at h ⊢; exact fun a ha => h a (List.mem_of_mem_take ha)
    have h2 : (cs.drop 1).all whole = true := by
      rw [List.all_eq_true] at h ⊢; exact fun a ha => h a (List.mem_of_mem_drop ha)
    simp only [mapR, mapL_whole h1, mapR_whole h2, Option.bind_some, chunks]
    rfl
theorem chunks_one : ∀ (cs : List AV), chunks 1 cs.length cs = cs.map fun a => [a]
  | [] => rfl
  | a :: r => by
    simp only [List.length_cons, chunks, List.map_cons, List.drop_succ_cons, List.drop_zero, chunks_one r]
    rfl
/-- An own slice whose cells are told whole. -/
theorem frz_own {r n k : Nat} {cap : Option Nat} {cs : List AV} {t : TypeId} (h : H[r]? = some (.row cs t)) (hn : n ≤ cs.length) (hw : cs.all whole = true) :
    frz H (k + 2) (.own r 0 n 1 cap) = some (.sl 1 ((cs.take n).map fun a => [a]) cap, [r]) := by
  have hb : Nat.ble (0 + n * 1) cs.length = true := Nat.ble_eq_true_of_le (by omega)
  have hc : ∀ (n : Nat) (cs : List AV), n ≤ cs.length → chunks 1 n cs = (cs.take n).map fun a => [a] := by
    intro n
    induction n with
    | zero => intro cs _; simp [chunks]
    | succ n ih =>
      intro cs hn
      cases cs with
      | nil => simp at hn
      | cons a r =>
        simp only [chunks, List.drop_succ_cons, List.drop_zero, List.take_succ_cons, List.map_cons]
        rw [ih r (by simp at hn; omega)]
        rfl
  rw [frz]
  simp only [h, hb, cond_true, List.drop_zero, mapR_whole hw, Option.bind_some, hc n cs hn]
/-- A call of values told whole, that answers a slice of its own making. -/
theorem callV_fz {f : FuncId} {args : List AV} {r n : Nat} {cap : Option Nat} {cs : List AV} {t : TypeId} {H' : List AO} (hm : md f = .pure) (hw : args.all whole = true) (h : call f args [] = some (.ret (.own r 0 n 1 cap), H')) (hr : H'[r]? = some (.row cs t)) (hn : n ≤ cs.length) (hc : cs.all whole = true) :
    callV call md f args H id = some (.val (.sl 1 ((cs.take n).map fun a => [a]) cap) none) := by
  unfold callV
  rw [hm]
  simp only
  rw [show frzF = 15 + 1 from rfl, mapL_whole hw]
  simp only [Option.bind_some]
  rw [h]
  simp only [Option.bind_some]
  rw [show 15 + 1 = 14 + 2 from rfl, frz_own hr hn hc]
  rfl
end

/-! ### Arguments -/
theorem argsSh_nil {P : Program} {avs : List AV} (h : argsSh P [] [] avs) : avs = [] := by
  cases avs with
  | nil => rfl
  | cons _ _ => exact h.elim
theorem argsSh_cons {P : Program} {t : TypeId} {ts : List TypeId} {τ : Ty} {τs : List Ty} {avs : List AV} (h : argsSh P (t :: ts) (τ :: τs) avs) : ∃ a r, avs = a :: r ∧ argSh P t τ a ∧ argsSh P ts τs r := by
  cases avs with
  | nil => exact h.elim
  | cons a r => exact ⟨a, r, rfl, h.1, h.2⟩
theorem argsSh_one {P : Program} {t : TypeId} {τ : Ty} {avs : List AV} (h : argsSh P [t] [τ] avs) : ∃ a, avs = [a] ∧ argSh P t τ a := by
  obtain ⟨a, r, rfl, h1, h2⟩ := argsSh_cons h
  exact ⟨a, by rw [argsSh_nil h2], h1⟩
theorem argsSh_two {P : Program} {t u : TypeId} {τ υ : Ty} {avs : List AV} (h : argsSh P [t, u] [τ, υ] avs) : ∃ a b, avs = [a, b] ∧ argSh P t τ a ∧ argSh P u υ b := by
  obtain ⟨a, r, rfl, h1, h2⟩ := argsSh_cons h
  obtain ⟨b, rfl, h3⟩ := argsSh_one h2
  exact ⟨a, b, rfl, h1, h3⟩
end Go.Ai
