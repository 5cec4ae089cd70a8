/- The abstract interpreter: regions that are drawn. No condition. -/
import Derived.Test.YtoemnjclhheeoaaA17
import Derived.Orders
namespace Go.Ai
set_option linter.unusedVariables false
set_option linter.unusedSimpArgs false
set_option linter.unusedSectionVars false

structure DCtx (P : Program) (call : CallF) (mt : MtF) (md : FuncId → Md) (ow : List Nat) (nt : Nat) (ops : Array Oper) (h : Nat) (l : List O) (H : List AO) (fr : Fr)
    (F : Nat → Fr) (a : Nat → AV) (ob : Nat → AO) (HH : Nat → List AO) (m : Nat) : Prop where
  co : CallOk P call
  mo : MtOk P mt
  c : ∀ (i : Nat) (o : Oper), ops[i]? = some o → ∃ o' : O, l[i]? = some o' ∧ compO P ow nt ops o = some o'
  hm : h ≤ m
  mn : m ≤ ops.size
  s1 : ∀ (i : Nat) (o : Oper), ops[i]? = some o → ∀ q ∈ preds o, q < i
  s2 : ∀ (i : Nat) (o : Oper) (j : Nat) (o2 : Oper) (d : Nat), ops[i]? = some o → ops[j]? = some o2 → o2.dst = some d → j ≠ i → o.dst ≠ some d ∧ (d ∉ looks ops o ∨ (j < i ∧ j ∈ (anc ops.toList).getD i []) ∨ (i < j ∧ i ∈ (anc ops.toList).getD j []))
  s3 : ∀ (i : Nat) (o : Oper) (q : Nat) (o2 : Oper), ops[i]? = some o → h ≤ i → isN P o.op = false → ops[q]? = some o2 → q < i → isN P o2.op = false → q ∈ (anc ops.toList).getD i []
  f0 : F 0 = fr
  th : ∀ (i : Nat) (o' : O), i < h → l[i]? = some o' → HeadAt call mt md H (H.length + i) o' (F i) (F (i + 1)) (a i) (ob i)
  tt : ∀ (i : Nat) (o' : O), h ≤ i → i < m → l[i]? = some o' → TailAt call mt md o' (F i) (HH i) (F (i + 1)) (HH (i + 1)) (a i)
  tb : ((∃ (i : Nat) (o' : O), i < h ∧ l[i]? = some o' ∧ makes md o'.i = true) ∧ HH h = H ++ (List.range h).map ob) ∨ ((∀ (i : Nat) (o' : O), i < h → l[i]? = some o' → makes md o'.i = false) ∧ HH h = H)

section
variable {P : Program} {call : CallF} {mt : MtF} {md : FuncId → Md} {ow : List Nat} {nt : Nat} {ops : Array Oper} {h : Nat} {l : List O} {H : List AO} {fr : Fr}
  {F : Nat → Fr} {a : Nat → AV} {ob : Nat → AO} {HH : Nat → List AO} {m : Nat} {g0 : G} {w0 : World}

def FI (ops : Array Oper) (fr : Fr) (a : Nat → AV) (g : G) (w : World) (L : Nat → Prop) (act : Act) : Prop :=
  ∀ t, (∃ (j : Nat) (o : Oper), L j ∧ ops[j]? = some o ∧ o.dst = some t ∧ VR g w (a j) (act.tmps.getD t undef)) ∨ ((∀ (j : Nat) (o : Oper), L j → ops[j]? = some o → o.dst ≠ some t) ∧ VR g w (get fr t) (act.tmps.getD t undef))

def HI (md : FuncId → Md) (P : Program) (ops : Array Oper) (h : Nat) (l : List O) (H : List AO) (ob : Nat → AO) (HH : Nat → List AO) (m : Nat) (g : G) (L : Nat → Prop) (Hc : List AO) : Prop :=
  ((∀ (i : Nat) (o : Oper), L i → ops[i]? = some o → isN P o.op = false → i < h) ∧ (∃ obs : List AO, obs.length = h ∧ Hc = H ++ obs ∧ (∀ j, j < h → L j → obs[j]? = some (ob j)) ∧ (∀ j, j < h → ¬ L j → obs[j]? = some .dead)) ∧
    ∀ j, g.D (H.length + j) → L j ∧ ∃ o' : O, l[j]? = some o' ∧ makes md o'.i = true) ∨
  (∃ (q : Nat) (o : Oper), L q ∧ ops[q]? = some o ∧ isN P o.op = false ∧ h ≤ q ∧ q < m ∧ (∀ (i : Nat) (o : Oper), L i → ops[i]? = some o → isN P o.op = false → i ≤ q) ∧ Hc = HH (q + 1))

structure SI (md : FuncId → Md) (P : Program) (nt : Nat) (ops : Array Oper) (h : Nat) (l : List O) (H : List AO) (fr : Fr) (a : Nat → AV) (ob : Nat → AO) (HH : Nat → List AO) (m : Nat) (g0 : G) (w0 : World)
    (L : Nat → Prop) (act : Act) (g : G) (w : World) (Hc : List AO) : Prop where
  stp : Stp g0 w0 H g w Hc
  rel : Rel g w Hc
  size : act.tmps.size = nt
  defers : act.defers = []
  fi : FI ops fr a g w L act
  hi : HI md P ops h l H ob HH m g L Hc
  lm : ∀ i, L i → i < m
  cl : ∀ (j : Nat) (o : Oper), L j → ops[j]? = some o → ∀ q ∈ preds o, L q

namespace DCtx
variable (C : DCtx P call mt md ow nt ops h l H fr F a ob HH m)
include C

theorem dst_inj {i j : Nat} {o o2 : Oper} {d : Nat} (hi : ops[i]? = some o) (hj : ops[j]? = some o2) (h1 : o.dst = some d) (h2 : o2.dst = some d) : i = j := by
  by_cases e : j = i
  · exact e.symm
  · exact absurd h1 (C.s2 i o j o2 d hi hj h2 e).1

theorem anc_in' {L : Nat → Prop} (cl : ∀ (j : Nat) (o : Oper), L j → ops[j]? = some o → ∀ q ∈ preds o, L q) {i : Nat} {o : Oper} (hi : ops[i]? = some o) (hq : ∀ q ∈ preds o, L q) : ∀ p ∈ (anc ops.toList).getD i [], L p :=
  anc_in (l := ops.toList) (fun i o h => C.s1 i o (by rwa [Array.getElem?_toList] at h)) (fun j o hj h => cl j o hj (by rwa [Array.getElem?_toList] at h)) i o (by rwa [Array.getElem?_toList]) hq

theorem puts {i : Nat} {o : Oper} (hi : i < m) (ho : ops[i]? = some o) : F (i + 1) = putD (F i) o.dst (a i) := by
  obtain ⟨o', h1, h2⟩ := C.c i o ho
  rw [← (compO_inv h2).2.1]
  by_cases hh : i < h
  · exact (C.th i o' hh h1).1
  · exact (C.tt i o' (by omega) hi h1).1

theorem frame (t : Nat) : ∀ i, i ≤ m → (∃ (j : Nat) (o : Oper), j < i ∧ ops[j]? = some o ∧ o.dst = some t ∧ get (F i) t = a j) ∨ ((∀ (j : Nat) (o : Oper), j < i → ops[j]? = some o → o.dst ≠ some t) ∧ get (F i) t = get fr t)
  | 0, _ => .inr ⟨by omega, by rw [C.f0]⟩
  | i + 1, hi => by
    have hlt : i < ops.size := Nat.lt_of_lt_of_le hi C.mn
    have ho : ops[i]? = some ops[i] := Array.getElem?_eq_getElem hlt
    rw [C.puts hi ho]
    by_cases e : ops[i].dst = some t
    · left
      refine ⟨i, _, Nat.lt_succ_self i, ho, e, ?_⟩
      rw [e]; simp [putD, get_put]
    · have same : get (putD (F i) ops[i].dst (a i)) t = get (F i) t := by
        cases hd : ops[i].dst with
        | none => rfl
        | some d =>
          have : d ≠ t := fun h => e (by rw [hd, h])
          simp [putD, get_put, this]
      rw [same]
      rcases frame t i (by omega) with ⟨j, o, h1, h2, h3, h4⟩ | ⟨h1, h2⟩
      · exact .inl ⟨j, o, by omega, h2, h3, h4⟩
      · refine .inr ⟨fun j o hj hjo => ?_, h2⟩
        by_cases ej : j = i
        · subst ej; rw [ho] at hjo; simp only [Option.some.injEq] at hjo; rw [← hjo]; exact e
        · exact h1 j o (by omega) hjo

/-- What an operation looks at stands as the text's order has it. -/
theorem agree {L : Nat → Prop} {act : Act} {g : G} {w : World} (fi : FI ops fr a g w L act) (cl : ∀ (j : Nat) (o : Oper), L j → ops[j]? = some o → ∀ q ∈ preds o, L q)
    {i : Nat} {o : Oper} (ho : ops[i]? = some o) (him : i ≤ m) (hL : ¬ L i) (hq : ∀ q ∈ preds o, L q) : FRel g w (keep (looks ops o) (F i)) act := by
  intro t
  by_cases ht : t ∈ looks ops o
  case neg => rw [get_keep_not ht]; exact .fv _ _ (.any _)
  rw [get_keep_mem ht]
  rcases C.frame t i him with ⟨j, o2, h1, h2, h3, h4⟩ | ⟨h1, h2⟩
  · have hne : j ≠ i := by omega
    have hLj : L j := by
      rcases (C.s2 i o j o2 t ho h2 h3 hne).2 with h | h | h
      · exact absurd ht h
      · exact C.anc_in' cl ho hq j h.2
      · omega
    rcases fi t with ⟨j', o3, k1, k2, k3, k4⟩ | ⟨k1, _⟩
    · have := C.dst_inj h2 k2 h3 k3
      subst this
      rw [h4]; exact k4
    · exact absurd h3 (k1 j o2 hLj h2)
  · rw [h2]
    rcases fi t with ⟨j', o3, k1, k2, k3, k4⟩ | ⟨_, k2⟩
    · exfalso
      have hge : ¬ j' < i := fun hlt => h1 j' o3 hlt k2 k3
      have hne : j' ≠ i := fun e => hL (e ▸ k1)
      rcases (C.s2 i o j' o3 t ho k2 k3 hne).2 with h | h | h
      · exact h ht
      · omega
      · exact hL (C.anc_in' cl k2 (cl j' o3 k1 k2) i h.2)
    · exact k2

theorem congr {i : Nat} {o : Oper} {o' : O} (hc : compO P ow nt ops o = some o') (H : List AO) (id : Nat) :
    core call mt md H id o'.i (F i) = core call mt md H id o'.i (keep (looks ops o) (F i)) := by
  obtain ⟨h1, _⟩ := compO_inv hc
  refine core_congr h1 fun x hx => ?_
  cases x with
  | tmp t =>
    simp only [cx, ev]
    rw [get_keep_mem]
    unfold looks
    refine List.mem_append_left _ ?_
    unfold tmpsOf
    exact List.mem_filterMap.2 ⟨.tmp t, by simpa using hx, rfl⟩
  | _ => rfl

theorem wcongr {i : Nat} {o : Oper} {o' : O} (hc : compO P ow nt ops o = some o') : wanted o' (F i) = wanted o' (keep (looks ops o) (F i)) := by
  obtain ⟨_, _, _, hg⟩ := compO_inv hc
  unfold wanted
  rcases hg with ⟨h1, h2⟩ | ⟨j, b, d, h1, h2, h3⟩
  · rw [h2]
  · rw [h3]
    simp only
    rw [get_keep_mem]
    unfold looks
    refine List.mem_append_right _ ?_
    rw [h1]; simp only; rw [h2]; simp

/-- Nothing of the heap is asked: the heap stays. -/
theorem stay {i : Nat} : ∀ k, h ≤ i → i + k ≤ m → (∀ (p : Nat) (o : Oper), i ≤ p → p < i + k → ops[p]? = some o → isN P o.op = true) → HH (i + k) = HH i
  | 0, _, _, _ => rfl
  | k + 1, hi, hk, hN => by
    have ih := stay k hi (by omega) fun p o h1 h2 => hN p o h1 (by omega)
    have hlt : i + k < ops.size := Nat.lt_of_lt_of_le (by omega) C.mn
    have ho : ops[i + k]? = some ops[i + k] := Array.getElem?_eq_getElem hlt
    obtain ⟨o', h1, h2⟩ := C.c _ _ ho
    have hn := hN (i + k) _ (by omega) (by omega) ho
    obtain ⟨_, T⟩ := C.tt (i + k) o' (by omega) (by omega) h1
    rw [← ih]
    rcases T with ⟨_, out, hc, hg⟩ | ⟨_, _, e⟩
    · obtain ⟨x, rfl, _⟩ := core_N hn (compO_inv h2).1 hc
      exact hg.2
    · exact e

theorem obN {j : Nat} {o : Oper} (hj : j < h) (ho : ops[j]? = some o) (hN : isN P o.op = true) : ob j = .dead := by
  obtain ⟨o', h1, h2⟩ := C.c _ _ ho
  obtain ⟨_, T⟩ := C.th j o' hj h1
  rcases T with ⟨_, x, hc, e⟩ | ⟨_, _, e⟩
  · obtain ⟨y, hy, _⟩ := core_N hN (compO_inv h2).1 hc
    cases hy; exact e
  · exact e

theorem transfer {L : Nat → Prop} {act : Act} {g : G} {w : World} {Hc : List AO} (S : SI md P nt ops h l H fr a ob HH m g0 w0 L act g w Hc) {i : Nat} (hi : h ≤ i) (him : i ≤ m)
    (h1 : ∀ (p : Nat) (o : Oper), p < i → ops[p]? = some o → isN P o.op = false → L p) (h2 : ∀ (p : Nat) (o : Oper), L p → ops[p]? = some o → isN P o.op = false → p < i) : Rel g w (HH i) ∧ Stp g0 w0 H g w (HH i) := by
  have hsz : ∀ p, p < m → ∃ o : Oper, ops[p]? = some o := fun p hp => ⟨_, Array.getElem?_eq_getElem (Nat.lt_of_lt_of_le hp C.mn)⟩
  rcases S.hi with ⟨A1, ⟨obs, B1, B2, B3, B4⟩, A3⟩ | ⟨q, o, q1, q2, q3, q4, q5, q6, q7⟩
  · have e : HH i = HH h := by
      have := C.stay (i := h) (i - h) (Nat.le_refl _) (by omega) fun p o p1 p2 po => by
        cases hN : isN P o.op with
        | true => rfl
        | false =>
          have := A1 p o (h1 p o (by omega) po hN) po hN
          omega
      rwa [show h + (i - h) = i by omega] at this
    rw [e]
    rcases C.tb with ⟨_, k⟩ | ⟨k1, k2⟩
    · have : HH h = Hc := by
        rw [k, B2]
        congr 1
        apply List.ext_getElem?
        intro j
        by_cases hj : j < h
        · have hr : ((List.range h).map ob)[j]? = some (ob j) := by simp [hj]
          rw [hr]
          by_cases hL : L j
          · rw [B3 j hj hL]
          · rw [B4 j hj hL]
            obtain ⟨o, ho⟩ := hsz j (Nat.lt_of_lt_of_le hj C.hm)
            cases hN : isN P o.op with
            | true => rw [C.obN hj ho hN]
            | false => exact absurd (h1 j o (by omega) ho hN) hL
        · rw [List.getElem?_eq_none (by simp; omega), List.getElem?_eq_none (by omega)]
      rw [this]; exact ⟨S.rel, S.stp⟩
    · rw [k2]
      have R := S.rel
      have T := S.stp
      rw [B2] at R T
      have hD : ∀ r, g.D r → r < H.length := by
        intro r hr
        by_cases hlt : r < H.length
        · exact hlt
        · exfalso
          have hd := R.dom r hr
          rw [List.length_append, B1] at hd
          obtain ⟨_, o', x1, x2⟩ := A3 (r - H.length) (by rwa [show H.length + (r - H.length) = r by omega])
          rw [k1 (r - H.length) o' (by omega) x1] at x2; cases x2
      refine ⟨R.strip hD, T.alike fun r ⟨cs, t, hr⟩ => ⟨cs, t, ?_⟩⟩
      rw [List.getElem?_append_left (List.getElem?_eq_some_iff.1 hr).1]; exact hr
  · have hqi := h2 q o q1 q2 q3
    have := C.stay (i := q + 1) (i - (q + 1)) (by omega) (by omega) fun p o p1 p2 po => by
      cases hN : isN P o.op with
      | true => rfl
      | false =>
        have := q6 p o (h1 p o (by omega) po hN) po hN
        omega
    rw [show q + 1 + (i - (q + 1)) = i by omega] at this
    rw [this, ← q7]; exact ⟨S.rel, S.stp⟩

/-- One more is in: the frame. -/
theorem fiStep {L : Nat → Prop} {act : Act} {g g' : G} {w w' : World} {Hc Hc' : List AO} (fi : FI ops fr a g w L act) (s : Stp g w Hc g' w' Hc') {i : Nat} {o : Oper} (ho : ops[i]? = some o) (hL : ¬ L i) {v : Value}
    (hv : VR g' w' (a i) v) (hd : ∀ d, o.dst = some d → d < act.tmps.size) : FI ops fr a g' w' (fun j => L j ∨ j = i) (act.put o.dst v) := by
  intro t
  by_cases e : o.dst = some t
  · left
    refine ⟨i, o, .inr rfl, ho, e, ?_⟩
    rw [e]
    simp [Act.put, hd t e, hv]
  · have same : (act.put o.dst v).tmps.getD t undef = act.tmps.getD t undef := by
      cases hd' : o.dst with
      | none => rfl
      | some d =>
        have : d ≠ t := fun h => e (by rw [hd', h])
        simp only [Act.put]
        rw [Array.getD_eq_getD_getElem?, Array.getElem?_setIfInBounds_ne this, ← Array.getD_eq_getD_getElem?]
    rw [same]
    rcases fi t with ⟨j, o2, k1, k2, k3, k4⟩ | ⟨k1, k2⟩
    · exact .inl ⟨j, o2, .inl k1, k2, k3, s.vr k4⟩
    · refine .inr ⟨fun j o2 hj hjo => ?_, s.vr k2⟩
      rcases hj with hj | hj
      · exact k1 j o2 hj hjo
      · subst hj; rw [ho] at hjo; simp only [Option.some.injEq] at hjo; rw [← hjo]; exact e
end DCtx
end
end Go.Ai
