/- The abstract interpreter: words by which a body is stepped through. No condition. -/
import Derived.Test.YtoemnjclhheeoaaA25
namespace Go.Ai
set_option linter.unusedVariables false
set_option linter.unusedSimpArgs false
set_option linter.unusedSectionVars false

/-! ### One after the other, the first looked at first -/
def thenS (s : Option S) (k : Fr → List AO → Option S) : Option S := s.bind fun s => match s.1 with
  | .normal => k s.2.1 s.2.2
  | e => some (e, s.2.1, s.2.2)
def blockS (id : Nat) (s : Option S) : Option S := s.bind fun s => match s.1 with
  | .exit id' => bif id' == id then some (.normal, s.2.1, s.2.2) else some (.exit id', s.2.1, s.2.2)
  | e => some (e, s.2.1, s.2.2)
def condS (t : Option Bool) (a b : Option S) : Option S := t.bind fun t => bif t then a else b
def ifS (t : Bool) (a b : Option S) : Option S := bif t then a else b
/-- An operation's outcome, and what comes behind it. -/
def opS (x : Option Out) (d : Option Nat) (fr : Fr) (H : List AO) (k : Fr → List AO → Option S) : Option S := x.bind fun
  | .val a none => k (putD fr d a) H
  | .val a (some b) => k (putD fr d a) (H ++ [b])
  | .wr a H' => k (putD fr d a) H'
  | .fz a ids => k (putD (fr.map fun p => (p.1, kill H ids p.2)) d a) (killH H ids 0 H)
  | .pan a H' => some (.pan a, fr, H')
def bindO {α : Type} (x : Option α) (f : α → Option Out) : Option Out := x.bind f
def valO (x : Option AV) : Option Out := x.bind fun v => some (.val v none)
/-- A row of operations. -/
def runS (call : CallF) (mt : MtF) (md : FuncId → Md) (l : List Nat) : List O → Fr → List AO → Option S
  | [], fr, H => some (.normal, keep l fr, H)
  | o :: r, fr, H => (wanted o fr).bind fun
    | true => opS (core call mt md H H.length o.i fr) o.dst fr H (runS call mt md l r)
    | false => runS call mt md l r (putD fr o.dst (.lit undef)) H

@[congr] theorem thenS_congr {s s' : Option S} {k : Fr → List AO → Option S} (h : s = s') : thenS s k = thenS s' k := by rw [h]
@[congr] theorem condS_congr {t t' : Option Bool} {a b : Option S} (h : t = t') : condS t a b = condS t' a b := by rw [h]
@[congr] theorem ifS_congr {t t' : Bool} {a b : Option S} (h : t = t') : ifS t a b = ifS t' a b := by rw [h]
@[congr] theorem opS_congr {x x' : Option Out} {d : Option Nat} {fr : Fr} {H : List AO} {k : Fr → List AO → Option S} (h : x = x') : opS x d fr H k = opS x' d fr H k := by rw [h]
@[congr] theorem bindO_congr {α : Type} {x x' : Option α} {f : α → Option Out} (h : x = x') : bindO x f = bindO x' f := by rw [h]

section
variable {call : CallF} {mt : MtF} {md : FuncId → Md}

theorem thenS_normal (fr : Fr) (H : List AO) (k : Fr → List AO → Option S) : thenS (some (.normal, fr, H)) k = k fr H := rfl
theorem thenS_exit (i : Nat) (fr : Fr) (H : List AO) (k : Fr → List AO → Option S) : thenS (some (.exit i, fr, H)) k = some (.exit i, fr, H) := rfl
theorem thenS_ret (fr : Fr) (H : List AO) (k : Fr → List AO → Option S) : thenS (some (.ret, fr, H)) k = some (.ret, fr, H) := rfl
theorem thenS_pan (a : AV) (fr : Fr) (H : List AO) (k : Fr → List AO → Option S) : thenS (some (.pan a, fr, H)) k = some (.pan a, fr, H) := rfl
theorem thenS_if (t : Bool) (a b : Option S) (k : Fr → List AO → Option S) : thenS (ifS t a b) k = ifS t (thenS a k) (thenS b k) := by cases t <;> rfl
theorem thenS_none (k : Fr → List AO → Option S) : thenS none k = none := rfl
theorem blockS_normal (i : Nat) (fr : Fr) (H : List AO) : blockS i (some (.normal, fr, H)) = some (.normal, fr, H) := rfl
theorem blockS_exit (i j : Nat) (fr : Fr) (H : List AO) : blockS i (some (.exit j, fr, H)) = ifS (j == i) (some (.normal, fr, H)) (some (.exit j, fr, H)) := rfl
theorem blockS_ret (i : Nat) (fr : Fr) (H : List AO) : blockS i (some (.ret, fr, H)) = some (.ret, fr, H) := rfl
theorem blockS_pan (i : Nat) (a : AV) (fr : Fr) (H : List AO) : blockS i (some (.pan a, fr, H)) = some (.pan a, fr, H) := rfl
theorem blockS_if (i : Nat) (t : Bool) (a b : Option S) : blockS i (ifS t a b) = ifS t (blockS i a) (blockS i b) := by cases t <;> rfl
theorem condS_some (t : Bool) (a b : Option S) : condS (some t) a b = ifS t a b := rfl
theorem ifS_true (a b : Option S) : ifS true a b = a := rfl
theorem ifS_false (a b : Option S) : ifS false a b = b := rfl
theorem opS_val (a : AV) (d : Option Nat) (fr : Fr) (H : List AO) (k : Fr → List AO → Option S) : opS (some (.val a none)) d fr H k = k (putD fr d a) H := rfl
theorem opS_new (a : AV) (b : AO) (d : Option Nat) (fr : Fr) (H : List AO) (k : Fr → List AO → Option S) : opS (some (.val a (some b))) d fr H k = k (putD fr d a) (H ++ [b]) := rfl
theorem opS_wr (a : AV) (H' : List AO) (d : Option Nat) (fr : Fr) (H : List AO) (k : Fr → List AO → Option S) : opS (some (.wr a H')) d fr H k = k (putD fr d a) H' := rfl
theorem opS_fz (a : AV) (ids : List Nat) (d : Option Nat) (fr : Fr) (H : List AO) (k : Fr → List AO → Option S) : opS (some (.fz a ids)) d fr H k = k (putD (fr.map fun p => (p.1, kill H ids p.2)) d a) (killH H ids 0 H) := rfl
theorem opS_pan (a : AV) (H' : List AO) (d : Option Nat) (fr : Fr) (H : List AO) (k : Fr → List AO → Option S) : opS (some (.pan a H')) d fr H k = some (.pan a, fr, H') := rfl
theorem bindO_some {α : Type} (a : α) (f : α → Option Out) : bindO (some a) f = f a := rfl
theorem valO_some (a : AV) : valO (some a) = some (.val a none) := rfl

theorem runS_nil (l : List Nat) (fr : Fr) (H : List AO) : runS call mt md l [] fr H = some (.normal, keep l fr, H) := rfl
theorem runS_cons (l : List Nat) (d : Option Nat) (i : I) (r : List O) (fr : Fr) (H : List AO) : runS call mt md l (⟨d, i, none⟩ :: r) fr H = opS (core call mt md H H.length i fr) d fr H (runS call mt md l r) := rfl
/-- With a guard. -/
def guardS (b : Bool) (x : Option Bool) (yes no : Option S) : Option S := x.bind fun c => bif c == b then yes else no
def asG : AV → Option (Option Bool)
  | .lit (.bool c) => some (some c)
  | .lit (.tuple _) => some none
  | _ => none
def gS (b : Bool) (x : Option (Option Bool)) (yes no : Option S) : Option S := x.bind fun
  | some c => bif c == b then yes else no
  | none => no
@[congr] theorem gS_congr {b : Bool} {x x' : Option (Option Bool)} {yes no : Option S} (h : x = x') : gS b x yes no = gS b x' yes no := by rw [h]
theorem gS_some (b c : Bool) (yes no : Option S) : gS b (some (some c)) yes no = ifS (c == b) yes no := rfl
theorem gS_t (c : Bool) (yes no : Option S) : gS true (some (some c)) yes no = ifS c yes no := by cases c <;> rfl
theorem gS_f (c : Bool) (yes no : Option S) : gS false (some (some c)) yes no = ifS (!c) yes no := by cases c <;> rfl
theorem gS_undef (b : Bool) (yes no : Option S) : gS b (some none) yes no = no := rfl
theorem runS_guard (l : List Nat) (d : Option Nat) (i : I) (t : Nat) (b : Bool) (r : List O) (fr : Fr) (H : List AO) :
    runS call mt md l (⟨d, i, some (t, b)⟩ :: r) fr H = gS b (asG (get fr t)) (opS (core call mt md H H.length i fr) d fr H (runS call mt md l r)) (runS call mt md l r (putD fr d (.lit undef)) H) := by
  rw [runS]
  simp only [wanted]
  generalize get fr t = a
  cases a with
  | lit v => cases v <;> first | rfl | (rename_i c; cases c <;> cases b <;> rfl)
  | _ => rfl

theorem codeW_reg (ops : List O) (l : List Nat) (fr : Fr) (H : List AO) : codeW call mt md (.reg ops l) fr H = runS call mt md l ops fr H := by
  simp only [codeW]
  induction ops generalizing fr H with
  | nil => rfl
  | cons o r ih =>
    simp only [run, runS]
    cases wanted o fr with
    | none => rfl
    | some b =>
      simp only [Option.bind_some]
      cases b with
      | false => exact ih _ _
      | true =>
        unfold step opS
        simp only
        cases hc : core call mt md H H.length o.i fr with
        | none => rfl
        | some out =>
          simp only [Option.bind_some]
          cases out with
          | val a ob => cases ob <;> simp only [Option.bind_some] <;> exact ih _ _
          | wr a H' => simp only [Option.bind_some]; exact ih _ _
          | fz a ids => simp only [Option.bind_some]; exact ih _ _
          | pan a H' => rfl
theorem codeW_seq (a b : C) (fr : Fr) (H : List AO) : codeW call mt md (.seq a b) fr H = thenS (codeW call mt md a fr H) (codeW call mt md b) := rfl
theorem codeW_cond (x : X) (a b : C) (fr : Fr) (H : List AO) : codeW call mt md (.cond x a b) fr H = condS (asBool (ev fr x)) (codeW call mt md a fr H) (codeW call mt md b fr H) := rfl
theorem codeW_block (id : Nat) (c : C) (fr : Fr) (H : List AO) : codeW call mt md (.block id c) fr H = blockS id (codeW call mt md c fr H) := rfl
theorem codeW_loop (l : List Nat) (c : C) (fr : Fr) (H : List AO) : codeW call mt md (.loop l c) fr H = loopW (codeW call mt md c) l fr H := rfl
theorem codeW_skip (fr : Fr) (H : List AO) : codeW call mt md .skip fr H = some (.normal, fr, H) := rfl
theorem codeW_exit (id : Nat) (fr : Fr) (H : List AO) : codeW call mt md (.exit id) fr H = some (.exit id, fr, H) := rfl
theorem codeW_ret (fr : Fr) (H : List AO) : codeW call mt md .ret fr H = some (.ret, fr, H) := rfl

/-! ### Drawn regions: the head reads one heap -/
/-- The head of a drawn region. -/
def headS (call : CallF) (mt : MtF) (md : FuncId → Md) (H : List AO) (k : Fr → List AO → Option S) : Nat → List O → Fr → List AO → Option S
  | _, [], fr, obs => k fr obs
  | n, o :: r, fr, obs => (wanted o fr).bind fun
    | true => (core call mt md H n o.i fr).bind fun
      | .val a none => headS call mt md H k (n + 1) r (putD fr o.dst a) (obs ++ [.dead])
      | .val a (some b) => headS call mt md H k (n + 1) r (putD fr o.dst a) (obs ++ [b])
      | _ => none
    | false => headS call mt md H k (n + 1) r (putD fr o.dst (.lit undef)) (obs ++ [.dead])
def hS (x : Option Out) (k : AV → AO → Option S) : Option S := x.bind fun
  | .val a none => k a .dead
  | .val a (some b) => k a b
  | _ => none
@[congr] theorem hS_congr {x x' : Option Out} {k : AV → AO → Option S} (h : x = x') : hS x k = hS x' k := by rw [h]
theorem hS_val (a : AV) (k : AV → AO → Option S) : hS (some (.val a none)) k = k a .dead := rfl
theorem hS_new (a : AV) (b : AO) (k : AV → AO → Option S) : hS (some (.val a (some b))) k = k a b := rfl
theorem headS_nil (H : List AO) (k : Fr → List AO → Option S) (n : Nat) (fr : Fr) (obs : List AO) : headS call mt md H k n [] fr obs = k fr obs := rfl
theorem headS_cons (H : List AO) (k : Fr → List AO → Option S) (n : Nat) (d : Option Nat) (i : I) (r : List O) (fr : Fr) (obs : List AO) :
    headS call mt md H k n (⟨d, i, none⟩ :: r) fr obs = hS (core call mt md H n i fr) (fun a b => headS call mt md H k (n + 1) r (putD fr d a) (obs ++ [b])) := by
  show (core call mt md H n i fr).bind _ = (core call mt md H n i fr).bind _
  congr 1
theorem headS_guard (H : List AO) (k : Fr → List AO → Option S) (n : Nat) (d : Option Nat) (i : I) (t : Nat) (g : Bool) (r : List O) (fr : Fr) (obs : List AO) :
    headS call mt md H k n (⟨d, i, some (t, g)⟩ :: r) fr obs = gS g (asG (get fr t)) (hS (core call mt md H n i fr) (fun a b => headS call mt md H k (n + 1) r (putD fr d a) (obs ++ [b]))) (headS call mt md H k (n + 1) r (putD fr d (.lit undef)) (obs ++ [.dead])) := by
  have main : ∀ b : Bool, (match b with
      | true => (core call mt md H n i fr).bind fun
        | .val a none => headS call mt md H k (n + 1) r (putD fr d a) (obs ++ [.dead])
        | .val a (some b) => headS call mt md H k (n + 1) r (putD fr d a) (obs ++ [b])
        | _ => none
      | false => headS call mt md H k (n + 1) r (putD fr d (.lit undef)) (obs ++ [.dead])) = bif b then hS (core call mt md H n i fr) (fun a b => headS call mt md H k (n + 1) r (putD fr d a) (obs ++ [b])) else headS call mt md H k (n + 1) r (putD fr d (.lit undef)) (obs ++ [.dead]) := by
    intro b
    cases b with
    | false => rfl
    | true =>
      show (core call mt md H n i fr).bind _ = (core call mt md H n i fr).bind _
      congr 1
  rw [headS]
  simp only [wanted]
  generalize get fr t = a
  cases a with
  | lit v =>
    cases v <;> first
      | rfl
      | exact main false
      | (rename_i c; exact main (c == g))
  | _ => rfl
/-- The tail. -/
def tailS (call : CallF) (mt : MtF) (md : FuncId → Md) (all : List O) (l : List Nat) : List O → Fr → List AO → Option S
  | [], fr, H => some (.normal, keep l fr, H)
  | o :: r, fr, H => (wanted o fr).bind fun
    | true => (core call mt md H H.length o.i fr).bind fun
      | .val a none => tailS call mt md all l r (putD fr o.dst a) H
      | .val a (some b) => tailS call mt md all l r (putD fr o.dst a) (H ++ [b])
      | .wr a H' => tailS call mt md all l r (putD fr o.dst a) H'
      | .fz a ids => tailS call mt md all l r (putD fr o.dst a) (killH H ids 0 H)
      | .pan a H' => bif r.isEmpty then some (.pan a, dropD all fr, H') else none
    | false => tailS call mt md all l r (putD fr o.dst (.lit undef)) H
theorem codeW_draw (ops tail : List O) (l : List Nat) (fr : Fr) (H : List AO) : codeW call mt md (.draw ops tail l) fr H =
    headS call mt md H (fun fr obs => tailS call mt md (ops ++ tail) l tail fr (bif ops.any (fun o => makes md o.i) then H ++ obs else H)) H.length ops fr [] := by
  have t : ∀ (all r : List O) (fr : Fr) (H : List AO), ((runT call mt md r fr H).bind fun
      | .go fr H => some (.normal, keep l fr, H)
      | .pan a fr H => some (.pan a, dropD all fr, H)) = tailS call mt md all l r fr H := by
    intro all r
    induction r with
    | nil => intro fr H; rfl
    | cons o r ih =>
      intro fr H
      simp only [runT, tailS]
      cases wanted o fr with
      | none => rfl
      | some b =>
        simp only [Option.bind_some]
        cases b with
        | false => exact ih _ _
        | true =>
          unfold stepT
          simp only
          cases core call mt md H H.length o.i fr with
          | none => rfl
          | some out =>
            simp only [Option.bind_some]
            cases out with
            | val a ob => cases ob <;> simp only [Option.bind_some] <;> exact ih _ _
            | wr a H' => simp only [Option.bind_some]; exact ih _ _
            | fz a ids => simp only [Option.bind_some]; exact ih _ _
            | pan a H' => simp only [Option.bind_some]; cases r.isEmpty <;> rfl
  have h : ∀ (r : List O) (n : Nat) (fr : Fr) (obs : List AO) (k : Fr → List AO → Option S), ((runD call mt md H H.length n r fr).bind fun p => k p.1 (obs ++ p.2)) = headS call mt md H k (H.length + n) r fr obs := by
    intro r
    induction r with
    | nil => intro n fr obs k; simp [runD, headS]
    | cons o r ih =>
      intro n fr obs k
      simp only [runD, headS]
      have push : ∀ (fr' : Fr) (b : AO), (((runD call mt md H H.length (n + 1) r fr').bind fun p => some (p.1, b :: p.2)).bind fun p => k p.1 (obs ++ p.2)) = headS call mt md H k (H.length + n + 1) r fr' (obs ++ [b]) := by
        intro fr' b
        rw [show H.length + n + 1 = H.length + (n + 1) by omega, ← ih]
        cases runD call mt md H H.length (n + 1) r fr' with
        | none => rfl
        | some p => simp
      cases wanted o fr with
      | none => rfl
      | some b =>
        simp only [Option.bind_some]
        cases b with
        | false => exact push _ _
        | true =>
          simp only
          cases core call mt md H (H.length + n) o.i fr with
          | none => rfl
          | some out =>
            simp only [Option.bind_some]
            cases out with
            | val a ob => cases ob <;> exact push _ _
            | _ => rfl
  simp only [codeW]
  have := h ops 0 fr [] (fun fr obs => tailS call mt md (ops ++ tail) l tail fr (bif ops.any (fun o => makes md o.i) then H ++ obs else H))
  rw [Nat.add_zero] at this
  rw [← this]
  congr 1
  funext p
  rw [List.nil_append]
  exact t _ _ _ _
end
end Go.Ai
