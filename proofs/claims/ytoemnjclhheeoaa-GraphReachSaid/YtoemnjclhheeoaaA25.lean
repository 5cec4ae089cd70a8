/- The abstract interpreter without fuel. No condition. -/
import Derived.Test.YtoemnjclhheeoaaA24
namespace Go.Ai
set_option linter.unusedVariables false
set_option linter.unusedSimpArgs false
set_option linter.unusedSectionVars false

/-- What is told with fuel enough. -/
noncomputable def Lim {α : Type} (p : Nat → Option α) : Option α :=
  open Classical in if h : ∃ k, (p k).isSome = true then p (Classical.choose h) else none

theorem Lim_some {α : Type} {p : Nat → Option α} (mono : ∀ k k' r, k ≤ k' → p k = some r → p k' = some r) {r : α} : Lim p = some r ↔ ∃ k, p k = some r := by
  unfold Lim
  constructor
  · intro h
    split at h
    · exact ⟨_, h⟩
    · cases h
  · rintro ⟨k, hk⟩
    have hx : ∃ k, (p k).isSome = true := ⟨k, by rw [hk]; rfl⟩
    rw [dif_pos hx]
    obtain ⟨r', hr'⟩ := Option.isSome_iff_exists.1 (Classical.choose_spec hx)
    have h1 := mono _ (max k (Classical.choose hx)) _ (Nat.le_max_right _ _) hr'
    have h2 := mono _ (max k (Classical.choose hx)) _ (Nat.le_max_left _ _) hk
    rw [h1] at h2
    rw [hr', h2]

def Le (c c' : FuncId → List AV → List AO → Option (R × List AO)) : Prop := ∀ f a H r, c f a H = some r → c' f a H = some r

section
variable {mt : MtF} {md : FuncId → Md} {c c' : CallF}

theorem bind_mono {α β : Type} {x y : Option α} {f g : α → Option β} {r : β} (hx : ∀ a, x = some a → y = some a) (hf : ∀ a, f a = some r → g a = some r) (h : x.bind f = some r) : y.bind g = some r := by
  obtain ⟨a, h1, h2⟩ := Option.bind_eq_some_iff.1 h
  rw [hx a h1]; exact hf a h2

theorem callV_mono (hc : Le c c') {f : FuncId} {args : List AV} {H : List AO} {id : Nat} {o : Out} (h : callV c md f args H id = some o) : callV c' md f args H id = some o := by
  unfold callV at h ⊢
  cases hm : md f with
  | ref => rw [hm] at h; exact bind_mono (fun a => hc _ _ _ _) (fun _ h => h) h
  | pure => rw [hm] at h; exact bind_mono (fun _ h => h) (fun p h => bind_mono (fun a => hc _ _ _ _) (fun _ h => h) h) h
  | own => rw [hm] at h; exact bind_mono (fun _ h => h) (fun p h => bind_mono (fun a => hc _ _ _ _) (fun _ h => h) h) h

theorem core_mono (hc : Le c c') {i : I} {H : List AO} {id : Nat} {fr : Fr} {o : Out} (h : core c mt md H id i fr = some o) : core c' mt md H id i fr = some o := by
  cases i with
  | call f args =>
    simp only [core] at h ⊢
    split at h
    · exact callV_mono hc h
    · cases h
  | inv recv name args =>
    simp only [core] at h ⊢
    split at h
    · refine bind_mono (fun _ h => h) (fun p h => ?_) h
      cases hp : p.2 with
      | none => rw [hp] at h; exact callV_mono hc h
      | some n => rw [hp] at h; exact bind_mono (fun _ h => h) (fun u h => callV_mono hc h) h
    · cases h
  | _ => exact h

theorem step_mono (hc : Le c c') {o : O} {fr : Fr} {H : List AO} {s : SR} (h : step c mt md o fr H = some s) : step c' mt md o fr H = some s :=
  bind_mono (fun _ h => core_mono hc h) (fun _ h => h) h
theorem stepT_mono (hc : Le c c') {o : O} {fr : Fr} {H : List AO} {s : SR} (h : stepT c mt md o fr H = some s) : stepT c' mt md o fr H = some s :=
  bind_mono (fun _ h => core_mono hc h) (fun _ h => h) h

theorem run_mono (hc : Le c c') : ∀ {l : List O} {fr : Fr} {H : List AO} {s : SR}, run c mt md l fr H = some s → run c' mt md l fr H = some s
  | [], _, _, _, h => h
  | o :: l, fr, H, s, h => by
    simp only [run] at h ⊢
    refine bind_mono (fun _ h => h) (fun b h => ?_) h
    cases b with
    | false => exact run_mono hc h
    | true =>
      refine bind_mono (fun _ h => step_mono hc h) (fun x h => ?_) h
      cases x with
      | go fr H => exact run_mono hc h
      | pan a fr H => exact h

theorem runT_mono (hc : Le c c') : ∀ {l : List O} {fr : Fr} {H : List AO} {s : SR}, runT c mt md l fr H = some s → runT c' mt md l fr H = some s
  | [], _, _, _, h => h
  | o :: l, fr, H, s, h => by
    simp only [runT] at h ⊢
    refine bind_mono (fun _ h => h) (fun b h => ?_) h
    cases b with
    | false => exact runT_mono hc h
    | true =>
      refine bind_mono (fun _ h => stepT_mono hc h) (fun x h => ?_) h
      cases x with
      | go fr H => exact runT_mono hc h
      | pan a fr H => exact h

theorem runD_mono (hc : Le c c') {H : List AO} {base : Nat} : ∀ {l : List O} {n : Nat} {fr : Fr} {s : Fr × List AO}, runD c mt md H base n l fr = some s → runD c' mt md H base n l fr = some s
  | [], _, _, _, h => h
  | o :: l, n, fr, s, h => by
    simp only [runD] at h ⊢
    refine bind_mono (fun _ h => h) (fun b h => ?_) h
    cases b with
    | false => exact bind_mono (fun _ h => runD_mono hc h) (fun _ h => h) h
    | true =>
      refine bind_mono (fun _ h => core_mono hc h) (fun x h => ?_) h
      cases x with
      | val a o => cases o <;> exact bind_mono (fun _ h => runD_mono hc h) (fun _ h => h) h
      | _ => cases h

theorem loop_mono {b b' : Fr → List AO → Option S} {l : List Nat} (hb : ∀ fr H s, b fr H = some s → b' fr H = some s) : ∀ {n n' : Nat} {fr : Fr} {H : List AO} {s : S}, n ≤ n' → loopN b l n fr H = some s → loopN b' l n' fr H = some s
  | 0, _, _, _, _, _, h => by cases h
  | n + 1, 0, _, _, _, hn, h => by omega
  | n + 1, n' + 1, fr, H, s, hn, h => by
    simp only [loopN] at h ⊢
    refine bind_mono (fun _ h => hb _ _ _ h) (fun x h => ?_) h
    obtain ⟨e, fr1, H1⟩ := x
    cases e with
    | normal => exact loop_mono hb (by omega) h
    | _ => exact h

theorem code_mono (hc : Le c c') {k k' : Nat} (hk : k ≤ k') : ∀ {x : C} {fr : Fr} {H : List AO} {s : S}, code c mt md k x fr H = some s → code c' mt md k' x fr H = some s
  | .skip, _, _, _, h => h
  | .reg ops l, fr, H, s, h => bind_mono (fun _ h => run_mono hc h) (fun _ h => h) h
  | .draw ops tail l, fr, H, s, h => bind_mono (fun _ h => runD_mono hc h) (fun _ h => bind_mono (fun _ h => runT_mono hc h) (fun _ h => h) h) h
  | .seq a b, fr, H, s, h => by
    simp only [code] at h ⊢
    refine bind_mono (fun _ h => code_mono hc hk h) (fun x h => ?_) h
    obtain ⟨e, fr1, H1⟩ := x
    cases e with
    | normal => exact code_mono hc hk h
    | _ => exact h
  | .cond x a b, fr, H, s, h => by
    simp only [code] at h ⊢
    refine bind_mono (fun _ h => h) (fun t h => ?_) h
    cases t with
    | true => exact code_mono hc hk h
    | false => exact code_mono hc hk h
  | .block id c, fr, H, s, h => by
    simp only [code] at h ⊢
    exact bind_mono (fun _ h => code_mono hc hk h) (fun _ h => h) h
  | .loop l c, fr, H, s, h => by
    simp only [code] at h ⊢
    exact loop_mono (fun _ _ _ h => code_mono hc hk h) hk h
  | .exit id, _, _, _, h => h
  | .ret, _, _, _, h => h
  | .bad, _, _, _, h => h
end

section
variable {T : FuncId → Option F} {ov : Ov} {mt : MtF} {md : FuncId → Md}

theorem call_le : ∀ k, Le (call T ov mt md k) (call T ov mt md (k + 1))
  | 0 => fun f a H r h => by cases h
  | k + 1 => fun f a H r h => by
    rw [call] at h ⊢
    cases ho : ov f with
    | some G => rw [ho] at h; exact h
    | none =>
      rw [ho] at h
      simp only at h ⊢
      refine bind_mono (fun _ h => h) (fun F h => ?_) h
      cases hl : (a.length == F.np) with
      | false => rw [hl] at h; cases h
      | true =>
        rw [hl] at h
        simp only [cond_true] at h ⊢
        exact bind_mono (fun _ h => code_mono (call_le k) (Nat.le_succ k) h) (fun _ h => h) h

theorem call_mono {k k' : Nat} (hk : k ≤ k') : Le (call T ov mt md k) (call T ov mt md k') := by
  induction hk with
  | refl => exact fun _ _ _ _ h => h
  | step _ ih => exact fun f a H r h => call_le _ _ _ _ _ (ih f a H r h)

/-- What a call tells, with fuel enough. -/
noncomputable def callW (T : FuncId → Option F) (ov : Ov) (mt : MtF) (md : FuncId → Md) : CallF := fun f args H => Lim fun k => call T ov mt md k f args H

theorem callW_some {f : FuncId} {args : List AV} {H : List AO} {r : R × List AO} : callW T ov mt md f args H = some r ↔ ∃ k, call T ov mt md k f args H = some r :=
  Lim_some fun k k' r hk h => call_mono hk f args H r h

noncomputable def loopW (body : Fr → List AO → Option S) (l : List Nat) (fr : Fr) (H : List AO) : Option S := Lim fun n => loopN body l n fr H

theorem loopW_some {body : Fr → List AO → Option S} {l : List Nat} {fr : Fr} {H : List AO} {s : S} : loopW body l fr H = some s ↔ ∃ n, loopN body l n fr H = some s :=
  Lim_some fun k k' r hk h => loop_mono (fun _ _ _ h => h) hk h

/-- A round of a loop. -/
theorem loopW_round {body : Fr → List AO → Option S} {l : List Nat} {fr fr' : Fr} {H H' : List AO} {s : S} (h : body (keep l fr) H = some (.normal, fr', H')) (h' : loopW body l fr' H' = some s) : loopW body l fr H = some s := by
  obtain ⟨n, hn⟩ := loopW_some.1 h'
  refine loopW_some.2 ⟨n + 1, ?_⟩
  rw [loopN, h]; exact hn
theorem loopW_out {body : Fr → List AO → Option S} {l : List Nat} {fr : Fr} {H : List AO} {e : EX} {fr' : Fr} {H' : List AO} (h : body (keep l fr) H = some (e, fr', H')) (he : ∀ h : e = .normal, False) : loopW body l fr H = some (e, fr', H') := by
  refine loopW_some.2 ⟨1, ?_⟩
  rw [loopN, h]
  cases e with
  | normal => exact (he rfl).elim
  | _ => rfl

/-- A body, without fuel. -/
noncomputable def codeW (call : CallF) (mt : MtF) (md : FuncId → Md) : C → Fr → List AO → Option S
  | .skip, fr, H => some (.normal, fr, H)
  | .reg ops l, fr, H => (run call mt md ops fr H).bind fun
    | .go fr H => some (.normal, keep l fr, H)
    | .pan a fr H => some (.pan a, fr, H)
  | .draw ops tail l, fr, H => (runD call mt md H H.length 0 ops fr).bind fun p =>
    (runT call mt md tail p.1 (bif ops.any (fun o => makes md o.i) then H ++ p.2 else H)).bind fun
    | .go fr H => some (.normal, keep l fr, H)
    | .pan a fr H => some (.pan a, dropD (ops ++ tail) fr, H)
  | .seq a b, fr, H => (codeW call mt md a fr H).bind fun s => match s.1 with
    | .normal => codeW call mt md b s.2.1 s.2.2
    | e => some (e, s.2.1, s.2.2)
  | .cond x a b, fr, H => (asBool (ev fr x)).bind fun t => bif t then codeW call mt md a fr H else codeW call mt md b fr H
  | .block id c, fr, H => (codeW call mt md c fr H).bind fun s => match s.1 with
    | .exit id' => bif id' == id then some (.normal, s.2.1, s.2.2) else some (.exit id', s.2.1, s.2.2)
    | e => some (e, s.2.1, s.2.2)
  | .loop l c, fr, H => loopW (codeW call mt md c) l fr H
  | .exit id, fr, H => some (.exit id, fr, H)
  | .ret, fr, H => some (.ret, fr, H)
  | .bad, _, _ => none

/-! ### Only finitely much fuel is used -/
theorem callV_fin {f : FuncId} {args : List AV} {H : List AO} {id : Nat} {o : Out} (h : callV (callW T ov mt md) md f args H id = some o) : ∃ k, callV (call T ov mt md k) md f args H id = some o := by
  unfold callV at h ⊢
  cases hm : md f with
  | ref =>
    rw [hm] at h
    obtain ⟨q, h1, h2⟩ := Option.bind_eq_some_iff.1 h
    obtain ⟨k, hk⟩ := callW_some.1 h1
    exact ⟨k, by simp only [hk]; exact h2⟩
  | pure =>
    rw [hm] at h
    obtain ⟨p, h0, h⟩ := Option.bind_eq_some_iff.1 h
    obtain ⟨q, h1, h2⟩ := Option.bind_eq_some_iff.1 h
    obtain ⟨k, hk⟩ := callW_some.1 h1
    refine ⟨k, ?_⟩
    simp only
    rw [h0]
    simp only [Option.bind_some]
    rw [hk]; exact h2
  | own =>
    rw [hm] at h
    obtain ⟨p, h0, h⟩ := Option.bind_eq_some_iff.1 h
    obtain ⟨q, h1, h2⟩ := Option.bind_eq_some_iff.1 h
    obtain ⟨k, hk⟩ := callW_some.1 h1
    refine ⟨k, ?_⟩
    simp only
    rw [h0]
    simp only [Option.bind_some]
    rw [hk]; exact h2

theorem core_fin {i : I} {H : List AO} {id : Nat} {fr : Fr} {o : Out} (h : core (callW T ov mt md) mt md H id i fr = some o) : ∃ k, core (call T ov mt md k) mt md H id i fr = some o := by
  cases i with
  | call f args =>
    simp only [core] at h ⊢
    split at h
    · exact callV_fin h
    · cases h
  | inv recv name args =>
    simp only [core] at h ⊢
    split at h
    · obtain ⟨p, h0, h⟩ := Option.bind_eq_some_iff.1 h
      rw [h0]
      simp only [Option.bind_some]
      cases hp : p.2 with
      | none => rw [hp] at h; exact callV_fin h
      | some n =>
        rw [hp] at h
        obtain ⟨u, h1, h⟩ := Option.bind_eq_some_iff.1 h
        simp only
        rw [h1]
        exact callV_fin h
    · cases h
  | _ => exact ⟨0, h⟩

theorem run_fin : ∀ {l : List O} {fr : Fr} {H : List AO} {s : SR}, run (callW T ov mt md) mt md l fr H = some s → ∃ k, run (call T ov mt md k) mt md l fr H = some s
  | [], _, _, _, h => ⟨0, h⟩
  | o :: l, fr, H, s, h => by
    simp only [run] at h ⊢
    obtain ⟨b, h0, h⟩ := Option.bind_eq_some_iff.1 h
    rw [h0]
    simp only [Option.bind_some]
    cases b with
    | false => exact run_fin h
    | true =>
      obtain ⟨x, h1, h⟩ := Option.bind_eq_some_iff.1 h
      unfold step at h1 ⊢
      obtain ⟨y, h2, h3⟩ := Option.bind_eq_some_iff.1 h1
      obtain ⟨k, hk⟩ := core_fin h2
      cases x with
      | go fr1 H1 =>
        obtain ⟨k2, hk2⟩ := run_fin h
        refine ⟨max k k2, ?_⟩
        simp only
        rw [core_mono (call_mono (Nat.le_max_left k k2)) hk]
        simp only [Option.bind_some]
        rw [h3]
        exact run_mono (call_mono (Nat.le_max_right k k2)) hk2
      | pan a fr1 H1 =>
        refine ⟨k, ?_⟩
        simp only
        rw [hk]
        simp only [Option.bind_some]
        rw [h3]
        exact h

theorem runT_fin : ∀ {l : List O} {fr : Fr} {H : List AO} {s : SR}, runT (callW T ov mt md) mt md l fr H = some s → ∃ k, runT (call T ov mt md k) mt md l fr H = some s
  | [], _, _, _, h => ⟨0, h⟩
  | o :: l, fr, H, s, h => by
    simp only [runT] at h ⊢
    obtain ⟨b, h0, h⟩ := Option.bind_eq_some_iff.1 h
    rw [h0]
    simp only [Option.bind_some]
    cases b with
    | false => exact runT_fin h
    | true =>
      obtain ⟨x, h1, h⟩ := Option.bind_eq_some_iff.1 h
      unfold stepT at h1 ⊢
      obtain ⟨y, h2, h3⟩ := Option.bind_eq_some_iff.1 h1
      obtain ⟨k, hk⟩ := core_fin h2
      cases x with
      | go fr1 H1 =>
        obtain ⟨k2, hk2⟩ := runT_fin h
        refine ⟨max k k2, ?_⟩
        simp only
        rw [core_mono (call_mono (Nat.le_max_left k k2)) hk]
        simp only [Option.bind_some]
        rw [h3]
        exact runT_mono (call_mono (Nat.le_max_right k k2)) hk2
      | pan a fr1 H1 =>
        refine ⟨k, ?_⟩
        simp only
        rw [hk]
        simp only [Option.bind_some]
        rw [h3]
        exact h

theorem runD_fin {H : List AO} {base : Nat} : ∀ {l : List O} {n : Nat} {fr : Fr} {s : Fr × List AO}, runD (callW T ov mt md) mt md H base n l fr = some s → ∃ k, runD (call T ov mt md k) mt md H base n l fr = some s
  | [], _, _, _, h => ⟨0, h⟩
  | o :: l, n, fr, s, h => by
    simp only [runD] at h ⊢
    obtain ⟨b, h0, h⟩ := Option.bind_eq_some_iff.1 h
    rw [h0]
    simp only [Option.bind_some]
    cases b with
    | false =>
      obtain ⟨p, h1, h2⟩ := Option.bind_eq_some_iff.1 h
      obtain ⟨k, hk⟩ := runD_fin h1
      exact ⟨k, by simp only; rw [hk]; exact h2⟩
    | true =>
      obtain ⟨x, h1, h⟩ := Option.bind_eq_some_iff.1 h
      obtain ⟨k, hk⟩ := core_fin h1
      cases x with
      | val a o =>
        cases o <;>
        · obtain ⟨p, h1, h2⟩ := Option.bind_eq_some_iff.1 h
          obtain ⟨k2, hk2⟩ := runD_fin h1
          refine ⟨max k k2, ?_⟩
          simp only
          rw [core_mono (call_mono (Nat.le_max_left k k2)) hk]
          simp only [Option.bind_some]
          rw [runD_mono (call_mono (Nat.le_max_right k k2)) hk2]
          exact h2
      | _ => cases h

theorem code_fin : ∀ {x : C} {fr : Fr} {H : List AO} {s : S}, codeW (callW T ov mt md) mt md x fr H = some s → ∃ k, code (call T ov mt md k) mt md k x fr H = some s
  | .skip, _, _, _, h => ⟨0, h⟩
  | .reg ops l, fr, H, s, h => by
    simp only [codeW] at h
    obtain ⟨x, h1, h⟩ := Option.bind_eq_some_iff.1 h
    obtain ⟨k, hk⟩ := run_fin h1
    exact ⟨k, by simp only [code]; rw [hk]; exact h⟩
  | .draw ops tail l, fr, H, s, h => by
    simp only [codeW] at h
    obtain ⟨p, h1, h⟩ := Option.bind_eq_some_iff.1 h
    obtain ⟨x, h2, h⟩ := Option.bind_eq_some_iff.1 h
    obtain ⟨k, hk⟩ := runD_fin h1
    obtain ⟨k2, hk2⟩ := runT_fin h2
    refine ⟨max k k2, ?_⟩
    simp only [code]
    rw [runD_mono (call_mono (Nat.le_max_left k k2)) hk]
    simp only [Option.bind_some]
    rw [runT_mono (call_mono (Nat.le_max_right k k2)) hk2]
    exact h
  | .seq a b, fr, H, s, h => by
    simp only [codeW] at h
    obtain ⟨x, h1, h⟩ := Option.bind_eq_some_iff.1 h
    obtain ⟨k, hk⟩ := code_fin h1
    obtain ⟨e, fr1, H1⟩ := x
    cases e with
    | normal =>
      obtain ⟨k2, hk2⟩ := code_fin h
      refine ⟨max k k2, ?_⟩
      simp only [code]
      rw [code_mono (call_mono (Nat.le_max_left k k2)) (Nat.le_max_left k k2) hk]
      exact code_mono (call_mono (Nat.le_max_right k k2)) (Nat.le_max_right k k2) hk2
    | _ => exact ⟨k, by simp only [code]; rw [hk]; exact h⟩
  | .cond x a b, fr, H, s, h => by
    simp only [codeW] at h
    obtain ⟨t, h1, h⟩ := Option.bind_eq_some_iff.1 h
    cases t with
    | true => obtain ⟨k, hk⟩ := code_fin h; exact ⟨k, by simp only [code]; rw [h1]; exact hk⟩
    | false => obtain ⟨k, hk⟩ := code_fin h; exact ⟨k, by simp only [code]; rw [h1]; exact hk⟩
  | .block id c, fr, H, s, h => by
    simp only [codeW] at h
    obtain ⟨x, h1, h⟩ := Option.bind_eq_some_iff.1 h
    obtain ⟨k, hk⟩ := code_fin h1
    exact ⟨k, by simp only [code]; rw [hk]; exact h⟩
  | .loop l c, fr, H, s, h => by
    simp only [codeW] at h
    obtain ⟨n, hn⟩ := loopW_some.1 h
    clear h
    have key : ∀ (n : Nat) (fr : Fr) (H : List AO), loopN (codeW (callW T ov mt md) mt md c) l n fr H = some s → ∃ k, loopN (code (call T ov mt md k) mt md k c) l k fr H = some s := by
      intro n
      induction n with
      | zero => intro fr H h; cases h
      | succ n ih =>
        intro fr H h
        simp only [loopN] at h
        obtain ⟨x, h1, h⟩ := Option.bind_eq_some_iff.1 h
        obtain ⟨k, hk⟩ := code_fin h1
        obtain ⟨e, fr1, H1⟩ := x
        cases e with
        | normal =>
          obtain ⟨k2, hk2⟩ := ih fr1 H1 h
          refine ⟨max k k2 + 1, ?_⟩
          rw [loopN, code_mono (call_mono (Nat.le_succ_of_le (Nat.le_max_left k k2))) (Nat.le_succ_of_le (Nat.le_max_left k k2)) hk]
          exact loop_mono (fun _ _ _ h => code_mono (call_mono (Nat.le_succ_of_le (Nat.le_max_right k k2))) (Nat.le_succ_of_le (Nat.le_max_right k k2)) h) (Nat.le_max_right k k2) hk2
        | _ =>
          refine ⟨k + 1, ?_⟩
          rw [loopN, code_mono (call_mono (Nat.le_succ k)) (Nat.le_succ k) hk]
          exact h
    obtain ⟨k, hk⟩ := key n fr H hn
    exact ⟨k, by simp only [code]; exact hk⟩
  | .exit id, _, _, _, h => ⟨0, h⟩
  | .ret, _, _, _, h => ⟨0, h⟩
  | .bad, _, _, _, h => by cases h

/-- What is left of a body. -/
def fin (F : F) (s : S) : Option (R × List AO) :=
  match s.1 with
  | .ret => (res s.2.1 s.2.2 F.res).bind fun a => some (.ret a, s.2.2)
  | .normal => (res s.2.1 s.2.2 F.res).bind fun a => some (.ret a, s.2.2)
  | .pan a => some (.pan a, s.2.2)
  | .exit _ => none

/-- A call of a function of the table. -/
theorem callW_of {f : FuncId} {FF : F} {args : List AV} {H : List AO} {r : R × List AO} (ho : ov f = none) (hT : T f = some FF) (hl : (args.length == FF.np) = true)
    (h : (codeW (callW T ov mt md) mt md FF.body (initFr 0 args) H).bind (fin FF) = some r) : callW T ov mt md f args H = some r := by
  obtain ⟨s, h1, h2⟩ := Option.bind_eq_some_iff.1 h
  obtain ⟨k, hk⟩ := code_fin h1
  refine callW_some.2 ⟨k + 1, ?_⟩
  rw [call, ho]
  simp only
  rw [hT]
  simp only [Option.bind_some]
  rw [hl]
  simp only [cond_true]
  rw [hk]
  simp only [Option.bind_some]
  obtain ⟨e, fr, H1⟩ := s
  cases e <;> exact h2

/-- A call that is told by a law of its own. -/
theorem callW_ov {f : FuncId} {G : List AV → List AO → Option (R × List AO)} {args : List AV} {H : List AO} {r : R × List AO} (ho : ov f = some G) (h : G args H = some r) : callW T ov mt md f args H = some r :=
  callW_some.2 ⟨1, by rw [call, ho]; exact h⟩
end
end Go.Ai
