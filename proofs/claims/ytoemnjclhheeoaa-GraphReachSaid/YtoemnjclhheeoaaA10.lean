/- The abstract interpreter: calls. No condition. -/
import Derived.Test.YtoemnjclhheeoaaA9
namespace Go.Ai
set_option linter.unusedVariables false
set_option linter.unusedSimpArgs false
set_option linter.unusedSectionVars false

def ERel (g : G) (w : World) : R → Ending → Prop
  | .ret a, e => ∃ v, e = .returned v ∧ VR g w a v
  | .pan a, e => ∃ v, e = .panicked [{ v, recovered := false }] ∧ VR g w a v

/-- What is called, as an operation sees it: Go code that is entered, or a value at once. -/
def FOk (P : Program) (f : FuncId) (vs : Array Value) (w : World) (R : Ending → World → Prop) : Prop :=
  ((callFunc f vs).run P w = .ok (.enter f vs) w ∧ Calls P f vs w R) ∨ ∃ v w', (callFunc f vs).run P w = .ok (.value v) w' ∧ R (.returned v) w'

theorem FOk.mono {P : Program} {f : FuncId} {vs : Array Value} {w : World} {R R' : Ending → World → Prop} (h : FOk P f vs w R) (hr : ∀ e w', R e w' → R' e w') : FOk P f vs w R' := by
  rcases h with ⟨h1, h2⟩ | ⟨v, w', h1, h2⟩
  · exact .inl ⟨h1, h2.mono hr⟩
  · exact .inr ⟨v, w', h1, hr _ _ h2⟩

abbrev CallF := FuncId → List AV → List AO → Option (R × List AO)

def CallOk (P : Program) (call : CallF) : Prop := ∀ f args H r H', call f args H = some (r, H') → ∀ (w : World) (g : G) (vs : Array Value), Rel g w H → VRs g w args vs.toList →
  FOk P f vs w fun e w' => ∃ g', Rel g' w' H' ∧ Stp g w H g' w' H' ∧ ERel g' w' r e

/-- What an operation's call ends as. -/
def AfterE (g : G) (w : World) (H : List AO) (id : Nat) (out : Out) (e : Ending) (w' : World) : Prop :=
  (∃ v, e = .returned v ∧ After g w H id out false v w') ∨ ∃ v, e = .panicked [{ v, recovered := false }] ∧ After g w H id out true v w'

section
variable {P : Program} {g : G} {w w' : World} {H : List AO} {id : Nat}

/-- The heap of another's making, ours untouched. -/
theorem Rel.outer (R : Rel g w H) (hk : ∀ b, b < w.heap.size → w'.heap[b]? = w.heap[b]?) (hs : w.heap.size ≤ w'.heap.size) (ho : w'.os = w.os) (ht : w'.tape = w.tape) (hp : w'.output = w.output) (S' : Nat → Prop)
    (h1 : ∀ b, g.S b → S' b) (h2 : ∀ b, S' b → g.S b ∨ w.heap.size ≤ b) (h3 : ∀ b, S' b → b < w'.heap.size) : Rel { g with S := S' } w' H ∧ Stp g w H { g with S := S' } w' H := by
  have hf : ∀ b, g.S b → w'.heap[b]? = w.heap[b]? := fun b hb => hk b (R.lt b hb)
  constructor
  · refine ⟨h3, fun r c u h => ?_, R.inj, R.dom, R.lv⟩
    obtain ⟨arr, g1, g3, g4, g5, g6, g7⟩ := R.obj r c u h
    refine ⟨arr, by rw [hk _ (R.blt (.of h))]; exact g1, g3, g4, fun j a v ha hv => (g5 j a v ha hv).mono h1 (fun _ h => h) (fun _ _ => rfl) (fun _ _ => rfl) hf, g6, fun hS => ?_⟩
    rcases h2 _ hS with hS | hS
    · exact g7 hS
    · have := R.blt (.of h); simp only at hS; omega
  · refine ⟨ho, ht, hp, hs, h1, fun _ h => h, fun _ _ => rfl, fun _ _ => rfl, fun b hb _ => hk b hb, hf, fun r hr => .inl ⟨r, hr, rfl⟩, fun b hb => ?_⟩
    rcases h2 b hb with h | h
    · exact .inl h
    · exact .inr (.inr h)

theorem kill_vr {S' : Nat → Prop} {ids : List Nat} {x : AV} {u : Value} (R : Rel g w H) (hl : ∀ r, r ∈ ids → Live H r) (hk : ∀ b, b < w.heap.size → w'.heap[b]? = w.heap[b]?) (hS : ∀ b, plus g ids b → S' b) (h : VR g w x u) :
    VR { g with S := S' } w' (kill H ids x) u := by
  have hf : ∀ b, g.S b → w'.heap[b]? = w.heap[b]? := fun b hb => hk b (R.lt b hb)
  have keep : VR { g with S := S' } w' x u := h.mono (fun b hb => hS b (.inl hb)) (fun _ h => h) (fun _ _ => rfl) (fun _ _ => rfl) hf
  have any : ∀ u, VR { g with S := S' } w' .any u := fun u => .fv _ _ (.any u)
  have alt : ∀ z : AV, VR { g with S := S' } w' (match frz H frzF z with | some p => bif p.2.isEmpty then x else .any | none => .any) u := by
    intro z
    split
    · rename_i p _
      cases p.2.isEmpty
      · exact any u
      · exact keep
    · exact any u
  cases x with
  | any => exact any u
  | lit v => exact keep
  | ip xs => exact keep
  | sl e xs c => exact keep
  | ptr r o =>
    simp only [kill]
    cases ids.contains r
    · exact keep
    · exact any u
  | own r off n e cap =>
    simp only [kill]
    cases ids.contains r
    · exact keep
    · simp only [cond_true]
      split
      · rename_i p hp
        cases hall : p.2.all ids.contains
        · exact any u
        · simp only [cond_true]
          obtain ⟨f1, _⟩ := frz_sound R frzF _ _ _ _ h hp
          have hle : ∀ r, r ∈ p.2 → r ∈ ids := fun r hr => by simpa using List.all_eq_true.1 hall r hr
          refine .fv _ _ (f1.mono (fun b hb => hS b (plus_le hle b hb)) (fun b hb => hk b ?_))
          rcases hb with hb | ⟨r, hr, rfl⟩
          · exact R.lt b hb
          · exact R.blt (hl r (hle r hr))
      · exact any u
  | agg xs => exact alt _
  | tup xs => exact alt _
  | iface t x => exact alt _
  | fn f a b => exact alt _

theorem killH_get (H0 : List AO) (ids : List Nat) : ∀ (H : List AO) (n r : Nat), (killH H0 ids n H)[r]? = (H[r]?).map fun o => bif ids.contains (n + r) then .dead else killO H0 ids o
  | [], n, r => by simp [killH]
  | o :: H, n, r => by
    simp only [killH]
    cases r with
    | zero => simp
    | succ r => simp only [List.getElem?_cons_succ, killH_get H0 ids H (n + 1) r]; rw [show n + 1 + r = n + (r + 1) by omega]

theorem killH_live {ids : List Nat} {r : Nat} (h : Live (killH H ids 0 H) r) : ids.contains r = false ∧ Live H r := by
  obtain ⟨c, t, h⟩ := h
  rw [killH_get] at h
  simp only [Nat.zero_add] at h
  cases ho : H[r]? with
  | none => rw [ho] at h; cases h
  | some o =>
    rw [ho] at h
    simp only [Option.map_some, Option.some.injEq] at h
    cases hc : ids.contains r with
    | true => rw [hc] at h; cases h
    | false =>
      rw [hc] at h
      cases o with
      | dead => cases h
      | row cs t' => exact ⟨rfl, cs, t', ho⟩

theorem killH_length (H0 : List AO) (ids : List Nat) : ∀ (H : List AO) (n : Nat), (killH H0 ids n H).length = H.length
  | [], n => rfl
  | o :: H, n => by simp [killH, killH_length H0 ids H (n + 1)]

theorem Rel.kill {ids : List Nat} (R : Rel g w H) (hl : ∀ r, r ∈ ids → Live H r) (hk : ∀ b, b < w.heap.size → w'.heap[b]? = w.heap[b]?) (hs : w.heap.size ≤ w'.heap.size) (ho : w'.os = w.os) (ht : w'.tape = w.tape) (hp : w'.output = w.output) (S' : Nat → Prop)
    (h1 : ∀ b, plus g ids b → S' b) (h2 : ∀ b, S' b → plus g ids b ∨ w.heap.size ≤ b) (h3 : ∀ b, S' b → b < w'.heap.size) : Rel { g with S := S' } w' (killH H ids 0 H) ∧ Stp g w H { g with S := S' } w' (killH H ids 0 H) := by
  have hf : ∀ b, g.S b → w'.heap[b]? = w.heap[b]? := fun b hb => hk b (R.lt b hb)
  constructor
  · refine ⟨h3, fun r c u h => ?_, fun r r' hr hr' e => R.inj r r' (killH_live hr).2 (killH_live hr').2 e, fun r hr => by rw [killH_length]; exact R.dom r hr, fun r hr => R.lv r (killH_live hr).2⟩
    obtain ⟨hc, hlv⟩ := killH_live ⟨c, u, h⟩
    rw [killH_get] at h
    obtain ⟨cs, t, hh⟩ := hlv
    rw [hh] at h
    simp only [Nat.zero_add, Option.map_some, hc, cond_false, killO, Option.some.injEq, AO.row.injEq] at h
    obtain ⟨rfl, rfl⟩ := h
    obtain ⟨arr, g1, g3, g4, g5, g6, g7⟩ := R.obj r cs t hh
    refine ⟨arr, by rw [hk _ (R.blt (.of hh))]; exact g1, g3, by simpa using g4, fun j a v ha hv => ?_, g6, fun hS => ?_⟩
    · rw [List.getElem?_map] at ha
      cases hj : cs[j]? with
      | none => rw [hj] at ha; cases ha
      | some x => rw [hj] at ha; simp only [Option.map_some, Option.some.injEq] at ha; subst ha; exact kill_vr R hl hk h1 (g5 j x v hj hv)
    · rcases h2 _ hS with (hS | ⟨q, hq, e⟩) | hS
      · exact g7 hS
      · have := R.inj q r (hl q hq) (.of hh) e
        subst this
        have : ids.contains q = true := by simpa using hq
        rw [this] at hc; cases hc
      · have := R.blt (.of hh); simp only at hS; omega
  · refine ⟨ho, ht, hp, hs, fun b hb => h1 b (.inl hb), fun _ h => h, fun _ _ => rfl, fun _ _ => rfl, fun b hb _ => hk b hb, hf, fun r hr => .inl ⟨r, (killH_live hr).2, rfl⟩, fun b hb => ?_⟩
    rcases h2 b hb with (h | ⟨q, hq, e⟩) | h
    · exact .inl h
    · exact .inr (.inl ⟨q, hl q hq, e⟩)
    · exact .inr (.inr h)

theorem Rel.trunc {g' : G} {H' : List AO} (R : Rel g w H) (R' : Rel g' w' H') (s : Stp g w H g' w' H') (h : (H'.take H.length).all (belowO H.length) = true) :
    Rel { g' with D := fun r => g'.D r ∧ r < H.length } w' (H'.take H.length) ∧ Stp g w H { g' with D := fun r => g'.D r ∧ r < H.length } w' (H'.take H.length) := by
  have hL : ∀ r, Live (H'.take H.length) r → Live H' r ∧ r < H.length := by
    rintro r ⟨c, t, h⟩
    rw [List.getElem?_take] at h
    split at h
    · exact ⟨.of h, by assumption⟩
    · cases h
  constructor
  · refine ⟨R'.lt, fun r c u hr => ?_, fun r r' hr hr' e => R'.inj r r' (hL r hr).1 (hL r' hr').1 e, fun r hr => ?_, fun r hr => ⟨R'.lv r (hL r hr).1, (hL r hr).2⟩⟩
    · have hb := List.all_eq_true.1 h _ (List.mem_of_getElem? hr)
      rw [List.getElem?_take] at hr
      split at hr
      · obtain ⟨arr, g1, g3, g4, g5, g6, g7⟩ := R'.obj r c u hr
        simp only [belowO] at hb
        exact ⟨arr, g1, g3, g4, fun j a v ha hv => below_vr _ _ _ _ (List.all_eq_true.1 hb a (List.mem_of_getElem? ha)) (g5 j a v ha hv), g6, g7⟩
      · cases hr
    · have := R'.dom r hr.1
      have h2 := hr.2
      rw [List.length_take]; omega
  · exact ⟨s.os, s.tape, s.output, s.size, s.S, fun r hr => ⟨s.D r hr, R.dom r hr⟩, s.ρ, s.σ, s.keep, s.frz, fun r hr => s.live r (hL r hr).1, s.fro⟩

variable {call : CallF} {md : FuncId → Md}

theorem callV_ok {f : FuncId} {args : List AV} {out : Out} {vs : Array Value} (CO : CallOk P call) (h : callV call md f args H id = some out) (R : Rel g w H) (hid : id ≤ H.length) (hd : ¬ g.D id) (hv : VRs g w args vs.toList) :
    FOk P f vs w (AfterE g w H id out) := by
  unfold callV at h
  cases hm : md f with
  | ref =>
    rw [hm] at h
    obtain ⟨⟨r, H'⟩, hc, h⟩ := Option.bind_eq_some_iff.1 h
    refine (CO f args H r H' hc w g vs R hv).mono ?_
    rintro e w' ⟨g', R', s, E⟩
    cases r with
    | ret a =>
      obtain ⟨v, rfl, hv'⟩ := E
      simp only at h
      by_cases hb : (below H.length frzF a && (H'.take H.length).all (belowO H.length)) = true
      · rw [hb] at h
        simp only [cond_true, Option.some.injEq] at h; subst h
        rw [Bool.and_eq_true] at hb
        obtain ⟨q1, q2⟩ := R.trunc R' s hb.2
        exact .inl ⟨v, rfl, rfl, _, below_vr _ _ _ _ hb.1 hv', q1, q2⟩
      · rw [Bool.eq_false_iff.mpr hb] at h
        simp only [cond_false, Option.some.injEq] at h; subst h
        exact .inl ⟨v, rfl, rfl, g', hv', R', s⟩
    | pan a =>
      simp only [Option.some.injEq] at h; subst h
      obtain ⟨v, rfl, hv'⟩ := E
      exact .inr ⟨v, rfl, rfl, g', hv', R', s⟩
  | pure =>
    rw [hm] at h
    obtain ⟨⟨ys, ids⟩, hf, h⟩ := Option.bind_eq_some_iff.1 h
    obtain ⟨⟨r, H1⟩, hc, h⟩ := Option.bind_eq_some_iff.1 h
    obtain ⟨⟨e1, e2⟩, hlive⟩ := frz_list (vs := vs) (fun a v b ids => frz_sound R frzF a v b ids) (by rw [hv.1]; simp) (fun i a v h1 h2 => hv.2 i a v h1 (by simpa using h2)) hf
    let gc : G := ⟨plus g ids, fun _ => False, g.ρ, g.σ⟩
    have hlt : ∀ b, plus g ids b → b < w.heap.size := by
      rintro b (hb | ⟨r, hr, rfl⟩)
      · exact R.lt b hb
      · exact R.blt (hlive r hr)
    have Rc : Rel gc w [] := ⟨hlt, fun r c t h => by simp at h, fun r r' h => by obtain ⟨c, t, h⟩ := h; simp at h, fun r h => h.elim, fun r h => by obtain ⟨c, t, h⟩ := h; simp at h⟩
    refine (CO f ys [] r H1 hc w gc vs Rc ⟨by simpa using e1, fun i a v h1 h2 => .fv _ _ (e2 i a v h1 (by simpa using h2))⟩).mono ?_
    rintro e w' ⟨g1, R1, s, E⟩
    have hno : ∀ r, ¬ Live ([] : List AO) r := fun r h => by obtain ⟨c, t, h⟩ := h; simp at h
    have hk : ∀ b, b < w.heap.size → w'.heap[b]? = w.heap[b]? := fun b hb => s.keep b hb fun r hr => (hno r hr).elim
    -- the value, told whole
    have fin : ∀ (a z : AV) (ids1 : List Nat) (v : Value) (p : Bool), VR g1 w' a v → frz H1 frzF a = some (z, ids1) → ∀ (out : Out), ((ids.isEmpty || flat frzF z) = true → (p = false ∧ out = .val z none) ∨ (p = true ∧ out = .pan z H)) →
        ((ids.isEmpty || flat frzF z) = false → p = false ∧ out = .fz z ids) → After g w H id out p v w' := by
      intro a z ids1 v p hv' hz out o1 o2
      obtain ⟨f1, f2⟩ := frz_sound R1 frzF a v z ids1 hv' hz
      have hS1 : ∀ b, plus g1 ids1 b → plus g ids b ∨ w.heap.size ≤ b := by
        rintro b (hb | ⟨q, hq, rfl⟩)
        · rcases s.fro b hb with h | ⟨q, hq, _⟩ | h
          · exact .inl h
          · exact (hno q hq).elim
          · exact .inr h
        · rcases s.live q (f2 q hq) with ⟨q', hq', _⟩ | h
          · exact (hno q' hq').elim
          · exact .inr h
      have hS2 : ∀ b, plus g1 ids1 b → b < w'.heap.size := by
        rintro b (hb | ⟨q, hq, rfl⟩)
        · exact R1.lt b hb
        · exact R1.blt (f2 q hq)
      have hS3 : ∀ b, plus g ids b → plus g1 ids1 b := fun b hb => .inl (s.S b hb)
      cases hcond : (ids.isEmpty || flat frzF z) with
      | false =>
        obtain ⟨rfl, rfl⟩ := o2 hcond
        obtain ⟨q1, q2⟩ := R.kill (w' := w') hlive hk s.size s.os s.tape s.output (plus g1 ids1) hS3 hS1 hS2
        exact ⟨rfl, _, .fv _ _ f1, q1, q2, fun x u hx => kill_vr R hlive hk hS3 hx⟩
      | true =>
        have key : ∃ S', (∀ b, g.S b → S' b) ∧ (∀ b, S' b → g.S b ∨ w.heap.size ≤ b) ∧ (∀ b, S' b → b < w'.heap.size) ∧ FV S' w' z v := by
          cases hids : ids with
          | nil =>
            subst hids
            refine ⟨plus g1 ids1, fun b hb => hS3 b (.inl hb), fun b hb => ?_, hS2, f1⟩
            rcases hS1 b hb with h | h
            · exact .inl (plus_nil g b h)
            · exact .inr h
          | cons q qs =>
            rw [hids] at hcond
            simp only [List.isEmpty_cons, Bool.false_or] at hcond
            exact ⟨g.S, fun _ h => h, fun _ h => .inl h, fun b hb => Nat.lt_of_lt_of_le (R.lt b hb) s.size, flat_fv _ _ _ hcond f1⟩
        obtain ⟨S', k1, k2, k3, k4⟩ := key
        obtain ⟨q1, q2⟩ := R.outer (w' := w') hk s.size s.os s.tape s.output S' k1 k2 k3
        rcases o1 hcond with ⟨rfl, rfl⟩ | ⟨rfl, rfl⟩
        · exact ⟨rfl, { g with S := S' }, rfl, .fv _ _ k4, q1, q2⟩
        · exact ⟨rfl, { g with S := S' }, .fv _ _ k4, q1, q2⟩
    cases r with
    | ret a =>
      obtain ⟨v, rfl, hv'⟩ := E
      obtain ⟨⟨z, ids1⟩, hz, h⟩ := Option.bind_eq_some_iff.1 h
      refine .inl ⟨v, rfl, fin a z ids1 v false hv' hz out (fun hc => .inl ⟨rfl, ?_⟩) (fun hc => ⟨rfl, ?_⟩)⟩
      · simp only at h; rw [hc] at h; simp only [cond_true, Option.some.injEq] at h; exact h.symm
      · simp only at h; rw [hc] at h; simp only [cond_false, Option.some.injEq] at h; exact h.symm
    | pan a =>
      obtain ⟨v, rfl, hv'⟩ := E
      obtain ⟨⟨z, ids1⟩, hz, h⟩ := Option.bind_eq_some_iff.1 h
      cases hc : (ids.isEmpty || flat frzF z) with
      | false => simp only at h; rw [hc] at h; cases h
      | true =>
        simp only at h; rw [hc] at h; simp only [cond_true, Option.some.injEq] at h
        exact .inr ⟨v, rfl, fin a z ids1 v true hv' hz out (fun _ => .inr ⟨rfl, h.symm⟩) (fun hf => by rw [hc] at hf; cases hf)⟩
  | own =>
    rw [hm] at h
    obtain ⟨⟨ys, ids⟩, hf, h⟩ := Option.bind_eq_some_iff.1 h
    obtain ⟨⟨r, H1⟩, hc, h⟩ := Option.bind_eq_some_iff.1 h
    obtain ⟨⟨e1, e2⟩, hlive⟩ := frz_list (vs := vs) (fun a v b ids => frz_sound R frzF a v b ids) (by rw [hv.1]; simp) (fun i a v h1 h2 => hv.2 i a v h1 (by simpa using h2)) hf
    let gc : G := ⟨plus g ids, fun _ => False, g.ρ, g.σ⟩
    have hlt : ∀ b, plus g ids b → b < w.heap.size := by
      rintro b (hb | ⟨r, hr, rfl⟩)
      · exact R.lt b hb
      · exact R.blt (hlive r hr)
    have Rc : Rel gc w [] := ⟨hlt, fun r c t h => by simp at h, fun r r' h => by obtain ⟨c, t, h⟩ := h; simp at h, fun r h => h.elim, fun r h => by obtain ⟨c, t, h⟩ := h; simp at h⟩
    refine (CO f ys [] r H1 hc w gc vs Rc ⟨by simpa using e1, fun i a v h1 h2 => .fv _ _ (e2 i a v h1 (by simpa using h2))⟩).mono ?_
    rintro e w' ⟨g1, R1, s, E⟩
    have hno : ∀ r, ¬ Live ([] : List AO) r := fun r h => by obtain ⟨c, t, h⟩ := h; simp at h
    have hk : ∀ b, b < w.heap.size → w'.heap[b]? = w.heap[b]? := fun b hb => s.keep b hb fun r hr => (hno r hr).elim
    -- the value, told whole
    have fin : ∀ (a z : AV) (ids1 : List Nat) (v : Value) (p : Bool), VR g1 w' a v → frz H1 frzF a = some (z, ids1) → ∀ (out : Out), ((ids.isEmpty || flat frzF z) = true → (p = false ∧ out = .val z none) ∨ (p = true ∧ out = .pan z H)) →
        ((ids.isEmpty || flat frzF z) = false → p = false ∧ out = .fz z ids) → After g w H id out p v w' := by
      intro a z ids1 v p hv' hz out o1 o2
      obtain ⟨f1, f2⟩ := frz_sound R1 frzF a v z ids1 hv' hz
      have hS1 : ∀ b, plus g1 ids1 b → plus g ids b ∨ w.heap.size ≤ b := by
        rintro b (hb | ⟨q, hq, rfl⟩)
        · rcases s.fro b hb with h | ⟨q, hq, _⟩ | h
          · exact .inl h
          · exact (hno q hq).elim
          · exact .inr h
        · rcases s.live q (f2 q hq) with ⟨q', hq', _⟩ | h
          · exact (hno q' hq').elim
          · exact .inr h
      have hS2 : ∀ b, plus g1 ids1 b → b < w'.heap.size := by
        rintro b (hb | ⟨q, hq, rfl⟩)
        · exact R1.lt b hb
        · exact R1.blt (f2 q hq)
      have hS3 : ∀ b, plus g ids b → plus g1 ids1 b := fun b hb => .inl (s.S b hb)
      cases hcond : (ids.isEmpty || flat frzF z) with
      | false =>
        obtain ⟨rfl, rfl⟩ := o2 hcond
        obtain ⟨q1, q2⟩ := R.kill (w' := w') hlive hk s.size s.os s.tape s.output (plus g1 ids1) hS3 hS1 hS2
        exact ⟨rfl, _, .fv _ _ f1, q1, q2, fun x u hx => kill_vr R hlive hk hS3 hx⟩
      | true =>
        have key : ∃ S', (∀ b, g.S b → S' b) ∧ (∀ b, S' b → g.S b ∨ w.heap.size ≤ b) ∧ (∀ b, S' b → b < w'.heap.size) ∧ FV S' w' z v := by
          cases hids : ids with
          | nil =>
            subst hids
            refine ⟨plus g1 ids1, fun b hb => hS3 b (.inl hb), fun b hb => ?_, hS2, f1⟩
            rcases hS1 b hb with h | h
            · exact .inl (plus_nil g b h)
            · exact .inr h
          | cons q qs =>
            rw [hids] at hcond
            simp only [List.isEmpty_cons, Bool.false_or] at hcond
            exact ⟨g.S, fun _ h => h, fun _ h => .inl h, fun b hb => Nat.lt_of_lt_of_le (R.lt b hb) s.size, flat_fv _ _ _ hcond f1⟩
        obtain ⟨S', k1, k2, k3, k4⟩ := key
        obtain ⟨q1, q2⟩ := R.outer (w' := w') hk s.size s.os s.tape s.output S' k1 k2 k3
        rcases o1 hcond with ⟨rfl, rfl⟩ | ⟨rfl, rfl⟩
        · exact ⟨rfl, { g with S := S' }, rfl, .fv _ _ k4, q1, q2⟩
        · exact ⟨rfl, { g with S := S' }, .fv _ _ k4, q1, q2⟩
    cases r with
    | ret a =>
      obtain ⟨v, rfl, hv'⟩ := E
      have plain : ∀ (h : ((frz H1 frzF a).bind fun z => bif (ids.isEmpty || flat frzF z.1) then some (Out.val z.1 none) else some (.fz z.1 ids)) = some out), AfterE g w H id out (.returned v) w' := by
        intro h
        obtain ⟨⟨z, ids1⟩, hz, h⟩ := Option.bind_eq_some_iff.1 h
        refine .inl ⟨v, rfl, fin a z ids1 v false hv' hz out (fun hc => .inl ⟨rfl, ?_⟩) (fun hc => ⟨rfl, ?_⟩)⟩
        · simp only at h; rw [hc] at h; simp only [cond_true, Option.some.injEq] at h; exact h.symm
        · simp only at h; rw [hc] at h; simp only [cond_false, Option.some.injEq] at h; exact h.symm
      cases a with
      | own r off n e cap =>
        simp only at h
        obtain ⟨⟨cs, t⟩, hp, h⟩ := Option.bind_eq_some_iff.1 h
        obtain ⟨⟨zs, ids1⟩, hz, h⟩ := Option.bind_eq_some_iff.1 h
        by_cases hc : (!ids1.contains r && (ids.isEmpty || zs.all (flat frzF))) = true
        case neg => simp only at h; rw [Bool.eq_false_iff.mpr hc] at h; cases h
        simp only at h
        rw [hc] at h
        simp only [cond_true, Option.some.injEq] at h; subst h
        simp only [Bool.and_eq_true, Bool.not_eq_true'] at hc
        obtain ⟨hc1, hc2⟩ := hc
        have hr : H1[r]? = some (.row cs t) := by
          unfold rowAt at hp
          split at hp
          · rename_i cs' t' he; simp only [Option.some.injEq, Prod.mk.injEq] at hp; obtain ⟨rfl, rfl⟩ := hp; exact he
          · cases hp
        obtain ⟨arr, a1, a2, a3, a4, a5, a6⟩ := R1.obj r cs t hr
        have hv1 : (arr.extract 0 cs.length).size = cs.length := by simp; omega
        obtain ⟨⟨f1, f2⟩, f3⟩ := frz_list (vs := arr.extract 0 cs.length) (fun a v b ids => frz_sound R1 frzF a v b ids) (by rw [hv1]) (fun i a v h1 h2 => a4 i a v h1 (by
          rw [Array.getElem?_extract] at h2
          split at h2
          · simpa using h2
          · cases h2)) hz
        have hfresh : ∀ q, Live H1 q → w.heap.size ≤ g1.ρ q := fun q hq => by
          rcases s.live q hq with ⟨q', hq', _⟩ | h
          · exact (hno q' hq').elim
          · exact h
        have hS1 : ∀ b, plus g1 ids1 b → plus g ids b ∨ w.heap.size ≤ b := by
          rintro b (hb | ⟨q, hq, rfl⟩)
          · rcases s.fro b hb with h | ⟨q, hq, _⟩ | h
            · exact .inl h
            · exact (hno q hq).elim
            · exact .inr h
          · exact .inr (hfresh q (f3 q hq))
        have hS2 : ∀ b, plus g1 ids1 b → b < w'.heap.size := by
          rintro b (hb | ⟨q, hq, rfl⟩)
          · exact R1.lt b hb
          · exact R1.blt (f3 q hq)
        have hS3 : ∀ b, plus g ids b → plus g1 ids1 b := fun b hb => .inl (s.S b hb)
        have hnot : ¬ plus g1 ids1 (g1.ρ r) := by
          rintro (hb | ⟨q, hq, hqr⟩)
          · exact a6 hb
          · have := R1.inj q r (f3 q hq) (.of hr) hqr
            subst this
            rw [List.contains_iff_mem.2 hq] at hc1; cases hc1
        have key : ∃ S', (∀ b, g.S b → S' b) ∧ (∀ b, S' b → g.S b ∨ w.heap.size ≤ b) ∧ (∀ b, S' b → b < w'.heap.size) ∧ ¬ S' (g1.ρ r) ∧ ∀ (i : Nat) (a : AV) (v : Value), zs[i]? = some a → (arr.extract 0 cs.length)[i]? = some v → FV S' w' a v := by
          cases hids : ids with
          | nil =>
            subst hids
            refine ⟨plus g1 ids1, fun b hb => hS3 b (.inl hb), fun b hb => ?_, hS2, hnot, f2⟩
            rcases hS1 b hb with h | h
            · exact .inl (plus_nil g b h)
            · exact .inr h
          | cons q qs =>
            rw [hids] at hc2
            simp only [List.isEmpty_cons, Bool.false_or, List.all_eq_true] at hc2
            refine ⟨g.S, fun _ h => h, fun _ h => .inl h, fun b hb => Nat.lt_of_lt_of_le (R.lt b hb) s.size, fun hb => ?_, fun i a v ha hv => flat_fv _ _ _ (hc2 a (List.mem_of_getElem? ha)) (f2 i a v ha hv)⟩
            have := R.lt _ hb
            have := hfresh r (.of hr)
            omega
        obtain ⟨S', k1, k2, k3, k5, k4⟩ := key
        obtain ⟨q1, q2⟩ := R.outer (w' := w') hk s.size s.os s.tape s.output S' k1 k2 k3
        have hzl : zs.length = cs.length := by rw [f1, hv1]
        obtain ⟨m1, m2⟩ := Rel.adopt (id := id) (b := g1.ρ r) (cs := zs) (t := t) (arr := arr) q1 q2 hid hd (hfresh r (.of hr)) (fun q hq => R.blt hq) a1 (by rw [hzl]; exact a3) k5 (fun j a v ha hv => .fv _ _ (k4 j a v ha (by
          have hj : j < cs.length := by rw [← hzl]; exact (List.getElem?_eq_some_iff.1 ha).1
          rw [Array.getElem?_extract]
          simp only [Nat.zero_add, Nat.sub_zero]
          rw [if_pos (by omega)]; exact hv))) a5
        refine .inl ⟨v, rfl, rfl, _, fun r h => h, ?_, m1, m2⟩
        obtain ⟨o, c, rfl, b0, b1, b2, b3, b4⟩ := hv'.own_inv
        have := VR.own (g := G.new { g with S := S' } id (g1.ρ r) arr.size) (w := w') id off n e cap o c (.inr rfl) b1 b2 b3 (fun h => by simp only [G.new, if_true]; rw [a2]; exact b4 h)
        simpa only [G.new, if_true] using this
      | _ => exact plain h
    | pan a =>
      obtain ⟨v, rfl, hv'⟩ := E
      obtain ⟨⟨z, ids1⟩, hz, h⟩ := Option.bind_eq_some_iff.1 h
      cases hc : (ids.isEmpty || flat frzF z) with
      | false => simp only at h; rw [hc] at h; cases h
      | true =>
        simp only at h; rw [hc] at h; simp only [cond_true, Option.some.injEq] at h
        exact .inr ⟨v, rfl, fin a z ids1 v true hv' hz out (fun _ => .inr ⟨rfl, h.symm⟩) (fun hf => by rw [hc] at hf; cases hf)⟩
end
end Go.Ai
