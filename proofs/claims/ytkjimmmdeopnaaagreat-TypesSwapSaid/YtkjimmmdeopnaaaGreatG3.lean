/- The abstract interpreter: regions that are drawn. No condition. -/
import Derived.Test.YtkjimmmdeopnaaaGreatG2
import Derived.Orders
import Derived.OrdersIn
import Derived.LoopN
import Derived.LoopNIn
import Derived.Laws.Sem
import Derived.Deep.Slices
import Derived.OpenShut
import Derived.Carry
import Derived.SizedLaws
import Derived.WalkKit
import Derived.ProofKit
import Derived.ShutString
import Derived.ChangeOld
import Derived.Below
import Derived.IntWalk
import Derived.Sort.Row
import Derived.Sort.Grow
import Derived.Lib.SlicesCompact
set_option linter.unusedSimpArgs false
set_option linter.unusedVariables false
set_option linter.unusedSectionVars false
namespace Go.Ai
def qt (P : Program) (et : List Nat) (i : Nat) (o : Oper) : Bool := isN P o.op || et.contains i
theorem qt_N {P : Program} {et : List Nat} {i : Nat} {o : Oper} (h : qt P et i o = false) : isN P o.op = false := by
  unfold qt at h
  exact (Bool.or_eq_false_iff.1 h).1
structure DCtx (P : Program) (call : CallF) (mt : MtF) (md : FuncId → Md) (ow : List Nat) (nt : Nat) (ops : Array Oper) (h : Nat) (l : List O) (H : List AO) (fr : Fr)
    (F : Nat → Fr) (a : Nat → AV) (ob : Nat → AO) (HH : Nat → List AO) (m : Nat) (lt et : List Nat) : Prop where
  co : CallOk P call
  mo : MtOk P mt
  c : ∀ (i : Nat) (o : Oper), ops[i]? = some o → ∃ o' : O, l[i]? = some o' ∧ compO P ow nt ops o = some o'
  hm : h ≤ m
  mn : m ≤ ops.size
  s1 : ∀ (i : Nat) (o : Oper), ops[i]? = some o → ∀ q ∈ preds o, q < i
  s2 : ∀ (i : Nat) (o : Oper) (j : Nat) (o2 : Oper) (d : Nat), ops[i]? = some o → ops[j]? = some o2 → o2.dst = some d → j ≠ i → o.dst ≠ some d ∧ (d ∉ looks ops o ∨ (j < i ∧ j ∈ (anc ops.toList).getD i []) ∨ (i < j ∧ i ∈ (anc ops.toList).getD j []))
  s3 : ∀ (i : Nat) (o : Oper) (q : Nat) (o2 : Oper), ops[i]? = some o → h ≤ i → qt P et i o = false → ops[q]? = some o2 → q < i → isN P o2.op = false → q ∈ lt ∨ q ∈ (anc ops.toList).getD i []
  s4 : ∀ i, i ∈ lt → i < h ∧ ∃ o d, ops[i]? = some o ∧ isR o.op = true ∧ o.dst = some d ∧ ∀ (j : Nat) (o2 : Oper) (d : Nat), i ≤ j → ops[j]? = some o2 → o2.dst = some d → d ∉ looks ops o
  s5 : ∀ i, i ∈ et → h ≤ i ∧ ∃ o d, ops[i]? = some o ∧ isR o.op = true ∧ o.dst = some d
  te : ∀ (i : Nat) (o' : O), i ∈ et → i < m → l[i]? = some o' → wanted o' (F i) = some true → core call mt md H H.length o'.i (F i) = core call mt md (HH i) (HH i).length o'.i (F i) ∧ ∀ q, h ≤ q → q < i → core call mt md (HH q) (HH q).length o'.i (F i) = core call mt md (HH i) (HH i).length o'.i (F i)
  f0 : F 0 = fr
  th : ∀ (i : Nat) (o' : O), i < h → l[i]? = some o' → HeadAt call mt md H (H.length + i) o' (F i) (F (i + 1)) (a i) (ob i)
  tt : ∀ (i : Nat) (o' : O), h ≤ i → i < m → l[i]? = some o' → TailAt call mt md o' (F i) (HH i) (F (i + 1)) (HH (i + 1)) (a i)
  tl : ∀ (q i : Nat) (o' : O), h ≤ q → q ≤ m → i ∈ lt → (∀ (p : Nat) (o : Oper), h ≤ p → p < q → ops[p]? = some o → qt P et p o = false → i ∉ (anc ops.toList).getD p []) → l[i]? = some o' → LateOk call mt md (F q) (HH q) [o']
  tb : ((∃ (i : Nat) (o' : O), i < h ∧ l[i]? = some o' ∧ makes md o'.i = true) ∧ HH h = H ++ (List.range h).map ob) ∨ ((∀ (i : Nat) (o' : O), i < h → l[i]? = some o' → makes md o'.i = false) ∧ HH h = H)
section
variable {P : Program} {call : CallF} {mt : MtF} {md : FuncId → Md} {ow : List Nat} {nt : Nat} {ds : List Deferred} {ops : Array Oper} {h : Nat} {l : List O} {H : List AO} {fr : Fr}
  {F : Nat → Fr} {a : Nat → AV} {ob : Nat → AO} {HH : Nat → List AO} {m : Nat} {lt et : List Nat} {g0 : G} {w0 : World}
def FI (ops : Array Oper) (fr : Fr) (a : Nat → AV) (g : G) (w : World) (L : Nat → Prop) (act : Act) : Prop :=
  ∀ t, (∃ (j : Nat) (o : Oper), L j ∧ ops[j]? = some o ∧ o.dst = some t ∧ VR g w (a j) (act.tmps.getD t undef)) ∨ ((∀ (j : Nat) (o : Oper), L j → ops[j]? = some o → o.dst ≠ some t) ∧ VR g w (get fr t) (act.tmps.getD t undef))
def HI (md : FuncId → Md) (P : Program) (et : List Nat) (ops : Array Oper) (h : Nat) (l : List O) (H : List AO) (ob : Nat → AO) (HH : Nat → List AO) (m : Nat) (g : G) (L : Nat → Prop) (Hc : List AO) : Prop :=
  ((∀ (i : Nat) (o : Oper), L i → ops[i]? = some o → qt P et i o = false → i < h) ∧ (∃ obs : List AO, obs.length = h ∧ Hc = H ++ obs ∧ (∀ j, j < h → L j → obs[j]? = some (ob j)) ∧ (∀ j, j < h → ¬ L j → obs[j]? = some .dead)) ∧
    ∀ j, g.D (H.length + j) → L j ∧ ∃ o' : O, l[j]? = some o' ∧ makes md o'.i = true) ∨
  (∃ (q : Nat) (o : Oper), L q ∧ ops[q]? = some o ∧ qt P et q o = false ∧ h ≤ q ∧ q < m ∧ (∀ (i : Nat) (o : Oper), L i → ops[i]? = some o → qt P et i o = false → i ≤ q) ∧ Hc = HH (q + 1))
structure SI (md : FuncId → Md) (P : Program) (et : List Nat) (nt : Nat) (ds : List Deferred) (ops : Array Oper) (h : Nat) (l : List O) (H : List AO) (fr : Fr) (a : Nat → AV) (ob : Nat → AO) (HH : Nat → List AO) (m : Nat) (g0 : G) (w0 : World)
    (L : Nat → Prop) (act : Act) (g : G) (w : World) (Hc : List AO) : Prop where
  stp : Stp g0 w0 H g w Hc
  rel : Rel g w Hc
  size : act.tmps.size = nt
  defers : act.defers = ds
  fi : FI ops fr a g w L act
  hi : HI md P et ops h l H ob HH m g L Hc
  lm : ∀ i, L i → i < m
  cl : ∀ (j : Nat) (o : Oper), L j → ops[j]? = some o → ∀ q ∈ preds o, L q
namespace DCtx
variable (C : DCtx P call mt md ow nt ops h l H fr F a ob HH m lt et)
include C
theorem dst_inj {i j : Nat} {o o2 : Oper} {d : Nat} (hi : ops[i]? = some o) (hj : ops[j]? = some o2) (h1 : o.dst = some d) (h2 : o2.dst = some d) : i = j := by
  by_cases e : j = i
  · exact e.symm
  · exact absurd h1 (C.s2 i o j o2 d hi hj h2 e).1
theorem anc_in' {L : Nat → Prop} (cl : ∀ (j : Nat) (o : Oper), L j → ops[j]? = some o → ∀ q ∈ preds o, L q) {i : Nat} {o : Oper} (hi : ops[i]? = some o) (hq : ∀ q ∈ preds o, L q) : ∀ p ∈ (anc ops.toList).getD i [], L p :=
  anc_in (l := ops.toList) (fun i o h => C.s1 i o (by rwa [Array.getElem?_toList] at h)) (fun j o hj h => cl j o hj (by rwa [Array.getElem?_toList] at h)) i o (by rwa [Array.getElem?_toList]) hq
theorem puts {i : Nat} {o : Oper} (hi : i < m) (ho : ops[i]? = some o) : F (i + 1) = putD (F i) o.dst (a i) := by
  obtain ⟨o', h1, h2⟩ := C.c i o ho
  rw [← (compO_inv h2).2.1]
  by_cases hh : i < h
  · exact (C.th i o' hh h1).1
  · exact (C.tt i o' (by omega) hi h1).1
theorem frame (t : Nat) : ∀ i, i ≤ m → (∃ (j : Nat) (o : Oper), j < i ∧ ops[j]? = some o ∧ o.dst = some t ∧ get (F i) t = a j) ∨ ((∀ (j : Nat) (o : Oper), j < i → ops[j]? = some o → o.dst ≠ some t) ∧ get (F i) t = get fr t)
  | 0, _ => .inr ⟨by omega, by rw [C.f0]⟩
  | i + 1, hi => by
    have hlt : i < ops.size := Nat.lt_of_lt_of_le hi C.mn
    have ho : ops[i]? = some ops[i] := Array.getElem?_eq_getElem hlt
    rw [C.puts hi ho]
    by_cases e : ops[i].dst = some t
    · left
      refine ⟨i, _, Nat.lt_succ_self i, ho, e, ?_⟩
      rw [e]; simp [putD, get_put]
    · have same : get (putD (F i) ops[i].dst (a i)) t = get (F i) t := by
        cases hd : ops[i].dst with
        | none => rfl
        | some d =>
          have : d ≠ t := fun h => e (by rw [hd, h])
          simp [putD, get_put, this]
      rw [same]
      rcases frame t i (by omega) with ⟨j, o, h1, h2, h3, h4⟩ | ⟨h1, h2⟩
      · exact .inl ⟨j, o, by omega, h2, h3, h4⟩
      · refine .inr ⟨fun j o hj hjo => ?_, h2⟩
        by_cases ej : j = i
        · subst ej; rw [ho] at hjo; simp only [sI] at hjo; rw [← hjo]; exact e
        · exact h1 j o (by omega) hjo
theorem agree {L : Nat → Prop} {act : Act} {g : G} {w : World} (fi : FI ops fr a g w L act) (cl : ∀ (j : Nat) (o : Oper), L j → ops[j]? = some o → ∀ q ∈ preds o, L q)
    {i : Nat} {o : Oper} (ho : ops[i]? = some o) (him : i ≤ m) (hL : ¬ L i) (hq : ∀ q ∈ preds o, L q) : FRel g w (keep (looks ops o) (F i)) act := by
  intro t
  by_cases ht : t ∈ looks ops o
  case neg => rw [get_keep_not ht]; exact .fv _ _ (.any _)
  rw [get_keep_mem ht]
  rcases C.frame t i him with ⟨j, o2, h1, h2, h3, h4⟩ | ⟨h1, h2⟩
  · have hne : j ≠ i := by omega
    have hLj : L j := by
      rcases (C.s2 i o j o2 t ho h2 h3 hne).2 with h | h | h
      · exact absurd ht h
      · exact C.anc_in' cl ho hq j h.2
      · omega
    rcases fi t with ⟨j', o3, k1, k2, k3, k4⟩ | ⟨k1, _⟩
    · have := C.dst_inj h2 k2 h3 k3
      subst this
      rw [h4]; exact k4
    · exact absurd h3 (k1 j o2 hLj h2)
  · rw [h2]
    rcases fi t with ⟨j', o3, k1, k2, k3, k4⟩ | ⟨_, k2⟩
    · exfalso
      have hge : ¬ j' < i := fun hlt => h1 j' o3 hlt k2 k3
      have hne : j' ≠ i := fun e => hL (e ▸ k1)
      rcases (C.s2 i o j' o3 t ho k2 k3 hne).2 with h | h | h
      · exact h ht
      · omega
      · exact hL (C.anc_in' cl k2 (cl j' o3 k1 k2) i h.2)
    · exact k2
theorem congr {i : Nat} {o : Oper} {o' : O} (hc : compO P ow nt ops o = some o') (H : List AO) (id : Nat) :
    core call mt md H id o'.i (F i) = core call mt md H id o'.i (keep (looks ops o) (F i)) := by
  obtain ⟨h1, _⟩ := compO_inv hc
  refine core_congr h1 fun x hx => ?_
  cases x with
  | tmp t =>
    simp only [cx, ev]
    rw [get_keep_mem]
    unfold looks
    refine List.mem_append_left _ ?_
    unfold tmpsOf
    exact List.mem_filterMap.2 ⟨.tmp t, by simpa using hx, rfl⟩
  | _ => rfl
theorem wcongr {i : Nat} {o : Oper} {o' : O} (hc : compO P ow nt ops o = some o') : wanted o' (F i) = wanted o' (keep (looks ops o) (F i)) := by
  obtain ⟨_, _, _, hg⟩ := compO_inv hc
  unfold wanted
  rcases hg with ⟨h1, h2⟩ | ⟨j, b, d, h1, h2, h3⟩
  · rw [h2]
  · rw [h3]
    simp only
    rw [get_keep_mem]
    unfold looks
    refine List.mem_append_right _ ?_
    rw [h1]; simp only; rw [h2]; simp
theorem stay {i : Nat} : ∀ k, h ≤ i → i + k ≤ m → (∀ (p : Nat) (o : Oper), i ≤ p → p < i + k → ops[p]? = some o → qt P et p o = true) → HH (i + k) = HH i
  | 0, _, _, _ => rfl
  | k + 1, hi, hk, hN => by
    have ih := stay k hi (by omega) fun p o h1 h2 => hN p o h1 (by omega)
    have hlt : i + k < ops.size := Nat.lt_of_lt_of_le (by omega) C.mn
    have ho : ops[i + k]? = some ops[i + k] := Array.getElem?_eq_getElem hlt
    obtain ⟨o', h1, h2⟩ := C.c _ _ ho
    have hn := hN (i + k) _ (by omega) (by omega) ho
    obtain ⟨_, T⟩ := C.tt (i + k) o' (by omega) (by omega) h1
    rw [← ih]
    rcases T with ⟨_, out, hc, hg⟩ | ⟨_, _, e⟩
    · unfold qt at hn
      cases hN : isN P ops[i + k].op with
      | true =>
        obtain ⟨x, rfl, _⟩ := core_N hN (compO_inv h2).1 hc
        exact hg.2
      | false =>
        rw [hN, Bool.false_or, List.contains_iff_mem] at hn
        obtain ⟨_, o2, d, e1, hR, _⟩ := C.s5 _ hn
        rw [ho] at e1; simp only [sI] at e1; subst e1
        obtain ⟨x, rfl⟩ := core_isR hR (compO_inv h2).1 hc
        exact hg.2
    · exact e
theorem qt_head {j : Nat} {o : Oper} (hj : j < h) : qt P et j o = isN P o.op := by
  unfold qt
  have : et.contains j = false := by
    rw [← Bool.not_eq_true, List.contains_iff_mem]
    intro hm
    have := (C.s5 j hm).1
    omega
  rw [this, Bool.or_false]
theorem obN {j : Nat} {o : Oper} (hj : j < h) (ho : ops[j]? = some o) (hN : isN P o.op = true) : ob j = .dead := by
  obtain ⟨o', h1, h2⟩ := C.c _ _ ho
  obtain ⟨_, T⟩ := C.th j o' hj h1
  rcases T with ⟨_, x, hc, e⟩ | ⟨_, _, e⟩
  · obtain ⟨y, hy, _⟩ := core_N hN (compO_inv h2).1 hc
    cases hy; exact e
  · exact e
theorem obL {j : Nat} (hl : j ∈ lt) : ob j = .dead := by
  obtain ⟨hj, o, d, ho, hR, _⟩ := C.s4 j hl
  obtain ⟨o', h1, h2⟩ := C.c _ _ ho
  obtain ⟨_, T⟩ := C.th j o' hj h1
  rcases T with ⟨_, x, hc, e⟩ | ⟨_, _, e⟩
  · obtain ⟨y, hy⟩ := core_isR hR (compO_inv h2).1 hc
    cases hy; exact e
  · exact e
theorem late_get {i : Nat} {o : Oper} (hl : i ∈ lt) (ho : ops[i]? = some o) {t : Nat} (ht : t ∈ looks ops o) : ∀ k, i + k ≤ m → get (F (i + k)) t = get (F i) t
  | 0, _ => rfl
  | k + 1, hk => by
    rw [← late_get hl ho ht k (by omega)]
    have hlt : i + k < ops.size := Nat.lt_of_lt_of_le (by omega) C.mn
    have ho2 : ops[i + k]? = some ops[i + k] := Array.getElem?_eq_getElem hlt
    rw [show i + (k + 1) = i + k + 1 by omega, C.puts (by omega) ho2]
    cases hd : ops[i + k].dst with
    | none => rfl
    | some d =>
      obtain ⟨_, o1, _, e1, _, _, hx⟩ := C.s4 i hl
      rw [ho] at e1; simp only [sI] at e1; subst e1
      have : d ≠ t := fun e => hx (i + k) _ d (by omega) ho2 hd (e ▸ ht)
      simp [putD, get_put, this]
theorem late_at {i : Nat} {o : Oper} {o' : O} (hl : i ∈ lt) (ho : ops[i]? = some o) (h1 : l[i]? = some o') {q : Nat} (hq : h ≤ q) (hm : q ≤ m) (hw : ∀ (p : Nat) (o : Oper), h ≤ p → p < q → ops[p]? = some o → qt P et p o = false → i ∉ (anc ops.toList).getD p []) :
    (wanted o' (F i) = some true ∧ core call mt md (HH q) (HH q).length o'.i (F i) = some (.val (a i) none)) ∨ (wanted o' (F i) = some false ∧ a i = .lit undef) := by
  obtain ⟨hi, o1, d, e1, hR, hd, hx⟩ := C.s4 i hl
  rw [ho] at e1; simp only [sI] at e1; subst e1
  obtain ⟨o2, h2, hc⟩ := C.c i o ho
  rw [h1] at h2; simp only [sI] at h2; subst h2
  have same : ∀ t, t ∈ looks ops o → get (F q) t = get (F i) t := fun t ht => by
    have := C.late_get hl ho ht (q - i) (by omega)
    rwa [show i + (q - i) = q by omega] at this
  have val : getO (F q) o'.dst = a i := by
    rw [(compO_inv hc).2.1, hd]
    show get (F q) d = a i
    rcases C.frame d q hm with ⟨j, o3, _, j2, j3, j4⟩ | ⟨j1, _⟩
    · have := C.dst_inj ho j2 hd j3
      subst this; exact j4
    · exact absurd hd (j1 i o (by omega) ho)
  have W : wanted o' (F q) = wanted o' (F i) := by
    obtain ⟨_, _, _, hg⟩ := compO_inv hc
    unfold wanted
    rcases hg with ⟨g1, g2⟩ | ⟨j, b, d', g1, g2, g3⟩
    · rw [g2]
    · rw [g3]
      simp only
      rw [same d']
      unfold looks
      refine List.mem_append_right _ ?_
      rw [g1]; simp only; rw [g2]; simp
  have K : core call mt md (HH q) (HH q).length o'.i (F q) = core call mt md (HH q) (HH q).length o'.i (F i) := by
    refine core_congr (compO_inv hc).1 fun x hx => ?_
    cases x with
    | tmp t =>
      simp only [cx, ev]
      refine same t ?_
      unfold looks
      refine List.mem_append_left _ ?_
      unfold tmpsOf
      exact List.mem_filterMap.2 ⟨.tmp t, by simpa using hx, rfl⟩
    | _ => rfl
  rcases C.tl q i o' hq hm hl hw h1 o' (List.mem_cons_self ..) with h | ⟨h3, h4⟩
  · right
    rw [W] at h
    refine ⟨h, ?_⟩
    rcases (C.th i o' hi h1).2 with ⟨x1, _⟩ | ⟨_, x2, _⟩
    · rw [h] at x1; cases x1
    · exact x2
  · left
    rw [W] at h3
    rw [K, val] at h4
    exact ⟨h3, h4⟩
theorem transfer {L : Nat → Prop} {act : Act} {g : G} {w : World} {Hc : List AO} (S : SI md P et nt ds ops h l H fr a ob HH m g0 w0 L act g w Hc) {i : Nat} (hi : h ≤ i) (him : i ≤ m)
    (h1 : ∀ (p : Nat) (o : Oper), p < i → ops[p]? = some o → qt P et p o = false → p ∈ lt ∨ L p) (h2 : ∀ (p : Nat) (o : Oper), L p → ops[p]? = some o → qt P et p o = false → p < i) : Rel g w (HH i) ∧ Stp g0 w0 H g w (HH i) := by
  have hsz : ∀ p, p < m → ∃ o : Oper, ops[p]? = some o := fun p hp => ⟨_, Array.getElem?_eq_getElem (Nat.lt_of_lt_of_le hp C.mn)⟩
  rcases S.hi with ⟨A1, ⟨obs, B1, B2, B3, B4⟩, A3⟩ | ⟨q, o, q1, q2, q3, q4, q5, q6, q7⟩
  · have e : HH i = HH h := by
      have := C.stay (i := h) (i - h) (Nat.le_refl _) (by omega) fun p o p1 p2 po => by
        cases hN : qt P et p o with
        | true => rfl
        | false =>
          rcases h1 p o (by omega) po hN with hl | hp
          · have := (C.s4 p hl).1; omega
          · have := A1 p o hp po hN
            omega
      rwa [show h + (i - h) = i by omega] at this
    rw [e]
    rcases C.tb with ⟨_, k⟩ | ⟨k1, k2⟩
    · have : HH h = Hc := by
        rw [k, B2]
        congr 1
        apply List.ext_getElem?
        intro j
        by_cases hj : j < h
        · have hr : ((List.range h).map ob)[j]? = some (ob j) := by simp [hj]
          rw [hr]
          by_cases hL : L j
          · rw [B3 j hj hL]
          · rw [B4 j hj hL]
            obtain ⟨o, ho⟩ := hsz j (Nat.lt_of_lt_of_le hj C.hm)
            cases hN : isN P o.op with
            | true => rw [C.obN hj ho hN]
            | false => exact (h1 j o (by omega) ho (by rw [C.qt_head hj]; exact hN)).elim (fun hl => by rw [C.obL hl]) (absurd · hL)
        · rw [List.getElem?_eq_none (by simp; omega), List.getElem?_eq_none (by omega)]
      rw [this]; exact ⟨S.rel, S.stp⟩
    · rw [k2]
      have R := S.rel
      have T := S.stp
      rw [B2] at R T
      have hD : ∀ r, g.D r → r < H.length := by
        intro r hr
        by_cases hlt : r < H.length
        · exact hlt
        · exfalso
          have hd := R.dom r hr
          rw [List.length_append, B1] at hd
          obtain ⟨_, o', x1, x2⟩ := A3 (r - H.length) (by rwa [show H.length + (r - H.length) = r by omega])
          rw [k1 (r - H.length) o' (by omega) x1] at x2; cases x2
      refine ⟨R.strip hD, T.alike fun r ⟨o, hr, ha⟩ => ⟨o, ?_, ha⟩⟩
      rw [List.getElem?_append_left (List.getElem?_eq_some_iff.1 hr).1]; exact hr
  · have hqi := h2 q o q1 q2 q3
    have := C.stay (i := q + 1) (i - (q + 1)) (by omega) (by omega) fun p o p1 p2 po => by
      cases hN : qt P et p o with
      | true => rfl
      | false =>
        rcases h1 p o (by omega) po hN with hl | hp
        · have := (C.s4 p hl).1; omega
        · have := q6 p o hp po hN
          omega
    rw [show q + 1 + (i - (q + 1)) = i by omega] at this
    rw [this, ← q7]; exact ⟨S.rel, S.stp⟩
theorem fiStep {L : Nat → Prop} {act : Act} {g g' : G} {w w' : World} {Hc Hc' : List AO} (fi : FI ops fr a g w L act) (s : Stp g w Hc g' w' Hc') {i : Nat} {o : Oper} (ho : ops[i]? = some o) (hL : ¬ L i) {v : Value}
    (hv : VR g' w' (a i) v) (hd : ∀ d, o.dst = some d → d < act.tmps.size) : FI ops fr a g' w' (fun j => L j ∨ j = i) (act.put o.dst v) := by
  intro t
  by_cases e : o.dst = some t
  · left
    refine ⟨i, o, .inr rfl, ho, e, ?_⟩
    rw [e]
    simp [Act.put, hd t e, hv]
  · have same : (act.put o.dst v).tmps.getD t undef = act.tmps.getD t undef := by
      cases hd' : o.dst with
      | none => rfl
      | some d =>
        have : d ≠ t := fun h => e (by rw [hd', h])
        simp only [Act.put]
        rw [Array.getD_eq_getD_getElem?, Array.getElem?_setIfInBounds_ne this, ← Array.getD_eq_getD_getElem?]
    rw [same]
    rcases fi t with ⟨j, o2, k1, k2, k3, k4⟩ | ⟨k1, k2⟩
    · exact .inl ⟨j, o2, .inl k1, k2, k3, s.vr k4⟩
    · refine .inr ⟨fun j o2 hj hjo => ?_, s.vr k2⟩
      rcases hj with hj | hj
      · exact k1 j o2 hj hjo
      · subst hj; rw [ho] at hjo; simp only [sI] at hjo; rw [← hjo]; exact e
end DCtx
end
end Go.Ai
namespace Go.Ai
section
variable {P : Program} {call : CallF} {mt : MtF} {md : FuncId → Md} {ow : List Nat} {nt : Nat} {ds : List Deferred} {ops : Array Oper} {h : Nat} {l : List O} {H : List AO} {fr : Fr}
  {F : Nat → Fr} {a : Nat → AV} {ob : Nat → AO} {HH : Nat → List AO} {m : Nat} {lt et : List Nat} {g0 : G} {w0 : World}
namespace DCtx
variable (C : DCtx P call mt md ow nt ops h l H fr F a ob HH m lt et)
include C
theorem behind {L : Nat → Prop} (cl : ∀ (j : Nat) (o : Oper), L j → ops[j]? = some o → ∀ q ∈ preds o, L q) {i : Nat} {o : Oper} (hi : h ≤ i) (ho : ops[i]? = some o) (hN : qt P et i o = false) (hL : ¬ L i) (hq : ∀ q ∈ preds o, L q) :
    (∀ (p : Nat) (o : Oper), p < i → ops[p]? = some o → qt P et p o = false → p ∈ lt ∨ L p) ∧ (∀ (p : Nat) (o : Oper), L p → ops[p]? = some o → qt P et p o = false → p < i) := by
  refine ⟨fun p o2 hp ho2 hn => (C.s3 i o p o2 ho hi hN ho2 hp (qt_N hn)).imp_right fun h => C.anc_in' cl ho hq p h, fun p o2 hp ho2 hn => ?_⟩
  by_cases hlt : p < i
  · exact hlt
  · exfalso
    have hne : p ≠ i := fun e => hL (e ▸ hp)
    rcases C.s3 p o2 i o ho2 (by omega) hn ho (by omega) (qt_N hN) with hl | hl
    · have := (C.s4 i hl).1; omega
    · exact hL (C.anc_in' cl ho2 (cl p o2 hp ho2) i hl)
theorem mkSI {L : Nat → Prop} {act : Act} {g g' : G} {w w' : World} {Hc Hx Hc' : List AO} (S : SI md P et nt ds ops h l H fr a ob HH m g0 w0 L act g w Hc) {i : Nat} {o : Oper} (hi : i < m) (ho : ops[i]? = some o) (hL : ¬ L i) (hq : ∀ q ∈ preds o, L q)
    (s : Stp g w Hx g' w' Hc') (s' : Stp g0 w0 H g' w' Hc') (R : Rel g' w' Hc') {v : Value} (hv : VR g' w' (a i) v) (hh : HI md P et ops h l H ob HH m g' (fun j => L j ∨ j = i) Hc') :
    SI md P et nt ds ops h l H fr a ob HH m g0 w0 (fun j => L j ∨ j = i) (act.put o.dst v) g' w' Hc' := by
  obtain ⟨o', h1, h2⟩ := C.c i o ho
  refine ⟨s', R, by rw [put_size]; exact S.size, by rw [put_defers]; exact S.defers, C.fiStep S.fi s ho hL hv (fun d hd => by rw [S.size]; exact (compO_inv h2).2.2.1 d hd), hh, fun j hj => ?_, fun j o2 hj hjo q hqo => ?_⟩
  · rcases hj with hj | rfl
    · exact S.lm j hj
    · exact hi
  · rcases hj with hj | rfl
    · exact .inl (S.cl j o2 hj hjo q hqo)
    · rw [ho] at hjo; simp only [sI] at hjo; subst hjo
      exact .inl (hq q hqo)
theorem hiN {L : Nat → Prop} {g g' : G} {Hc : List AO} (hh : HI md P et ops h l H ob HH m g L Hc) {i : Nat} {o : Oper} (ho : ops[i]? = some o) (hL : ¬ L i) (hN : qt P et i o = true) (hD : g'.D = g.D) : HI md P et ops h l H ob HH m g' (fun j => L j ∨ j = i) Hc := by
  rcases hh with ⟨A1, ⟨obs, B1, B2, B3, B4⟩, A3⟩ | ⟨q, o2, q1, q2, q3, q4, q5, q6, q7⟩
  · refine .inl ⟨fun j o2 hj hjo hn => ?_, ⟨obs, B1, B2, fun j hj hx => ?_, fun j hj hx => B4 j hj fun h => hx (.inl h)⟩, fun j hj => ?_⟩
    · rcases hj with hj | rfl
      · exact A1 j o2 hj hjo hn
      · rw [ho] at hjo; simp only [sI] at hjo; subst hjo; rw [hN] at hn; cases hn
    · rcases hx with hx | rfl
      · exact B3 j hj hx
      · rw [B4 j hj hL, C.obN hj ho (by rw [← C.qt_head hj]; exact hN)]
    · rw [hD] at hj
      exact ⟨.inl (A3 j hj).1, (A3 j hj).2⟩
  · refine .inr ⟨q, o2, .inl q1, q2, q3, q4, q5, fun j o3 hj hjo hn => ?_, q7⟩
    rcases hj with hj | rfl
    · exact q6 j o3 hj hjo hn
    · rw [ho] at hjo; simp only [sI] at hjo; subst hjo; rw [hN] at hn; cases hn
theorem headA {L : Nat → Prop} {g : G} {Hc : List AO} (hh : HI md P et ops h l H ob HH m g L Hc) (cl : ∀ (j : Nat) (o : Oper), L j → ops[j]? = some o → ∀ q ∈ preds o, L q) {i : Nat} {o : Oper} (hi : i < h) (ho : ops[i]? = some o) (hL : ¬ L i) (hN : isN P o.op = false) (hl : ¬ i ∈ lt) :
    (∀ (i : Nat) (o : Oper), L i → ops[i]? = some o → qt P et i o = false → i < h) ∧ (∃ obs : List AO, obs.length = h ∧ Hc = H ++ obs ∧ (∀ j, j < h → L j → obs[j]? = some (ob j)) ∧ (∀ j, j < h → ¬ L j → obs[j]? = some .dead)) ∧
    ∀ j, g.D (H.length + j) → L j ∧ ∃ o' : O, l[j]? = some o' ∧ makes md o'.i = true := by
  rcases hh with hh | ⟨q, o2, q1, q2, q3, q4, q5, q6, q7⟩
  · exact hh
  · exact absurd (C.anc_in' cl q2 (cl q o2 q1 q2) i ((C.s3 q o2 i o q2 q4 q3 ho (by omega) hN).resolve_left hl)) hL
theorem hiHead {L : Nat → Prop} {g g' : G} {obs : List AO} {i : Nat} {o : Oper} (hi : i < h) (ho : ops[i]? = some o) (hL : ¬ L i)
    (A1 : ∀ (i : Nat) (o : Oper), L i → ops[i]? = some o → qt P et i o = false → i < h) (B1 : obs.length = h) (B3 : ∀ j, j < h → L j → obs[j]? = some (ob j)) (B4 : ∀ j, j < h → ¬ L j → obs[j]? = some .dead)
    (A3 : ∀ j, g'.D (H.length + j) → (L j ∨ j = i) ∧ ∃ o' : O, l[j]? = some o' ∧ makes md o'.i = true) : HI md P et ops h l H ob HH m g' (fun j => L j ∨ j = i) (H ++ obs.set i (ob i)) := by
  refine .inl ⟨fun j o2 hj hjo hn => ?_, ⟨obs.set i (ob i), by simp [B1], rfl, fun j hj hx => ?_, fun j hj hx => ?_⟩, A3⟩
  · rcases hj with hj | rfl
    · exact A1 j o2 hj hjo hn
    · exact hi
  · rw [List.getElem?_set]
    by_cases e : i = j
    · subst e; simp [B1, hi]
    · rw [if_neg e]
      rcases hx with hx | rfl
      · exact B3 j hj hx
      · exact absurd rfl e
  · rw [List.getElem?_set]
    by_cases e : i = j
    · exact absurd (.inr e.symm) hx
    · rw [if_neg e]
      exact B4 j hj fun h => hx (.inl h)
theorem take {ro : Option Nat} {L : Nat → Prop} {act : Act} {g : G} {w : World} {Hc : List AO} (S : SI md P et nt ds ops h l H fr a ob HH m g0 w0 L act g w Hc) {i : Nat} {o : Oper} (hi : i < m) (ho : ops[i]? = some o) (hL : ¬ L i) (hq : ∀ q ∈ preds o, L q)
    (K : Act → World → Prop) (Q : Exit → Act → World → Prop) (hK : ∀ act' g' w' Hc', SI md P et nt ds ops h l H fr a ob HH m g0 w0 (fun j => L j ∨ j = i) act' g' w' Hc' → K act' w') : wpOpIn (WF ro) 0 P ops Q i K act w := by
  obtain ⟨o', h1, hc⟩ := C.c i o ho
  have A := C.agree S.fi S.cl ho (Nat.le_of_lt hi) hL hq
  have hI := (compO_inv hc).1
  have W : ∀ {b}, wanted o' (F i) = some b → Region.wanted o (yielded ops act.tmps) = b := fun hb => wanted_ok hc A (by rw [← C.wcongr hc]; exact hb)
  have noD : ¬ g.D Hc.length := fun h => Nat.lt_irrefl _ (S.rel.dom _ h)
  unfold wpOpIn
  rw [ho]
  simp only
  cases hN : isN P o.op with
  | true =>
    have T : (wanted o' (F i) = some true ∧ core call mt md Hc Hc.length o'.i (F i) = some (.val (a i) none)) ∨ (wanted o' (F i) = some false ∧ a i = .lit undef) := by
      by_cases hh : i < h
      · rcases (C.th i o' hh h1).2 with ⟨x1, x, x2, _⟩ | ⟨x1, x2, _⟩
        · obtain ⟨y, hy, hz⟩ := core_N hN hI x2
          cases hy
          exact .inl ⟨x1, hz _ _⟩
        · exact .inr ⟨x1, x2⟩
      · rcases (C.tt i o' (by omega) hi h1).2 with ⟨x1, out, x2, x3⟩ | ⟨x1, x2, _⟩
        · obtain ⟨y, rfl, hz⟩ := core_N hN hI x2
          obtain ⟨rfl, _⟩ := x3
          exact .inl ⟨x1, hz _ _⟩
        · exact .inr ⟨x1, x2⟩
    rcases T with ⟨x1, x2⟩ | ⟨x1, x2⟩
    · rw [if_pos (W x1)]
      rw [C.congr hc] at x2
      refine (core_ok C.co C.mo x2 hI A S.rel (Nat.le_refl _) noD K Q (fun v w' ha => ?_) (fun v w' ha => ?_)).2 (compI_nd hI) ro
      · obtain ⟨_, g', k1, k2, k3, k4⟩ := ha
        exact hK _ _ _ _ (C.mkSI S hi ho hL hq k4 (S.stp.trans k4) k3 k2 (C.hiN S.hi ho hL (by unfold qt; rw [hN]; rfl) k1))
      · obtain ⟨k, _⟩ := ha; cases k
    · rw [if_neg (by rw [W x1]; decide)]
      refine ⟨fun _ _ => trivial, ?_⟩
      exact hK _ _ _ _ (C.mkSI S hi ho hL hq (Stp.refl (H := Hc)) S.stp S.rel (by rw [x2]; exact .fv _ _ (.lit _)) (C.hiN S.hi ho hL (by unfold qt; rw [hN]; rfl) rfl))
  | false =>
    by_cases hh : i < h
    · have ph : ((∀ (i : Nat) (o : Oper), L i → ops[i]? = some o → qt P et i o = false → i < h) ∧ (∃ obs : List AO, obs.length = h ∧ Hc = H ++ obs ∧ (∀ j, j < h → L j → obs[j]? = some (ob j)) ∧ (∀ j, j < h → ¬ L j → obs[j]? = some .dead)) ∧
          ∀ j, g.D (H.length + j) → L j ∧ ∃ o' : O, l[j]? = some o' ∧ makes md o'.i = true) ∨ (i ∈ lt ∧ ∃ (q : Nat) (o : Oper), L q ∧ ops[q]? = some o ∧ qt P et q o = false ∧ h ≤ q ∧ q < m ∧ (∀ (i : Nat) (o : Oper), L i → ops[i]? = some o → qt P et i o = false → i ≤ q) ∧ Hc = HH (q + 1)) := by
        rcases S.hi with hA | hB
        · exact .inl hA
        · by_cases hl : i ∈ lt
          · exact .inr ⟨hl, hB⟩
          · exact .inl (C.headA S.hi S.cl hh ho hL hN hl)
      rcases ph with ⟨A1, ⟨obs, B1, B2, B3, B4⟩, A3⟩ | ⟨hl, q, o2, q1, q2, q3, q4, q5, q6, q7⟩
      case inr =>
        have hin : ∀ g' : G, HI md P et ops h l H ob HH m g' (fun j => L j ∨ j = i) Hc := fun g' => .inr ⟨q, o2, .inl q1, q2, q3, q4, q5, fun j o3 hj hjo hn => by
          rcases hj with hj | rfl
          · exact q6 j o3 hj hjo hn
          · omega, q7⟩
        have hw : ∀ (p : Nat) (o : Oper), h ≤ p → p < q + 1 → ops[p]? = some o → qt P et p o = false → i ∉ (anc ops.toList).getD p [] := fun p o3 hp hpq ho3 hn hia => by
          have hLp : L p := by
            by_cases e : p = q
            · subst e; exact q1
            · rcases C.s3 q o2 p o3 q2 q4 q3 ho3 (by omega) (qt_N hn) with hx | hx
              · have := (C.s4 p hx).1; omega
              · exact C.anc_in' S.cl q2 (S.cl q o2 q1 q2) p hx
          exact hL (C.anc_in' S.cl ho3 (S.cl p o3 hLp ho3) i hia)
        rcases C.late_at hl ho h1 (q := q + 1) (by omega) (by omega) hw with ⟨x1, x2⟩ | ⟨x1, x2⟩
        · rw [if_pos (W x1)]
          rw [← q7, C.congr hc] at x2
          refine (core_ok C.co C.mo x2 hI A S.rel (Nat.le_refl _) noD K Q (fun v w' ha => ?_) (fun v w' ha => ?_)).2 (compI_nd hI) ro
          · obtain ⟨_, g', k1, k2, k3, k4⟩ := ha
            exact hK _ _ _ _ (C.mkSI S hi ho hL hq k4 (S.stp.trans k4) k3 k2 (hin g'))
          · obtain ⟨k, _⟩ := ha; cases k
        · rw [if_neg (by rw [W x1]; decide)]
          refine ⟨fun _ _ => trivial, ?_⟩
          exact hK _ _ _ _ (C.mkSI S hi ho hL hq (Stp.refl (H := Hc)) S.stp S.rel (by rw [x2]; exact .fv _ _ (.lit _)) (hin g))
      have same : ob i = .dead → H ++ obs.set i (ob i) = Hc := by
        intro e
        rw [B2, e]
        congr 1
        apply List.ext_getElem?
        intro j
        rw [List.getElem?_set]
        by_cases ej : i = j
        · subst ej; rw [B4 i hh hL]; simp [B1, hh]
        · rw [if_neg ej]
      rcases (C.th i o' hh h1).2 with ⟨x1, x, x2, x3⟩ | ⟨x1, x2, x3⟩
      · rw [if_pos (W x1)]
        have x2' : core call mt md Hc (H.length + i) o'.i (keep (looks ops o) (F i)) = some (.val (a i) x) := by
          rw [← C.congr hc, B2]; exact core_ext x2
        refine (core_ok C.co C.mo x2' hI A S.rel (by rw [B2, List.length_append]; omega) (fun hd => hL (A3 i hd).1) K Q (fun v w' ha => ?_) (fun v w' ha => ?_)).2 (compI_nd hI) ro
        · cases x with
          | none =>
            obtain ⟨_, g', k1, k2, k3, k4⟩ := ha
            refine hK _ _ _ _ (C.mkSI S hi ho hL hq k4 (S.stp.trans k4) k3 k2 ?_)
            rw [← same x3]
            exact C.hiHead hh ho hL A1 B1 B3 B4 (fun j hj => ⟨.inl (A3 j (k1 ▸ hj)).1, (A3 j (k1 ▸ hj)).2⟩) (g := g)
          | some b =>
            obtain ⟨_, g', k1, k2, k3, k4⟩ := ha
            have e : setO Hc (H.length + i) b = H ++ obs.set i (ob i) := by
              unfold setO
              rw [if_pos (by rw [B2, List.length_append]; omega), B2, List.set_append_right _ _ (by omega)]
              rw [show H.length + i - H.length = i by omega, x3]
              rfl
            refine hK _ _ _ _ (C.mkSI S hi ho hL hq k4 (S.stp.trans k4) k3 k2 ?_)
            rw [e]
            refine C.hiHead hh ho hL A1 B1 B3 B4 (fun j hj => ?_) (g := g)
            rcases k1 _ hj with hj | hj
            · exact ⟨.inl (A3 j hj).1, (A3 j hj).2⟩
            · have : j = i := by omega
              subst this
              exact ⟨.inr rfl, o', h1, core_makes x2⟩
        · cases x <;> (obtain ⟨k, _⟩ := ha; cases k)
      · rw [if_neg (by rw [W x1]; decide)]
        refine ⟨fun _ _ => trivial, ?_⟩
        refine hK _ _ _ _ (C.mkSI S hi ho hL hq (Stp.refl (H := Hc)) S.stp S.rel (by rw [x2]; exact .fv _ _ (.lit _)) ?_)
        rw [← same x3]
        exact C.hiHead hh ho hL A1 B1 B3 B4 (fun j hj => ⟨.inl (A3 j hj).1, (A3 j hj).2⟩) (g := g)
    · cases hE : et.contains i with
      | true =>
        have hm : i ∈ et := List.contains_iff_mem.1 hE
        obtain ⟨_, o2, d, e1, hR, _⟩ := C.s5 i hm
        rw [ho] at e1; simp only [sI] at e1; subst e1
        have hQ1 : qt P et i o = true := by unfold qt; rw [hE, Bool.or_true]
        rcases (C.tt i o' (by omega) hi h1).2 with ⟨x1, out, x2, x3⟩ | ⟨x1, x2, _⟩
        · obtain ⟨y, rfl⟩ := core_isR hR hI x2
          obtain ⟨rfl, _⟩ := x3
          obtain ⟨t1, t2⟩ := C.te i o' hm hi h1 x1
          have x2' : core call mt md Hc Hc.length o'.i (F i) = some (.val (a i) none) := by
            rcases S.hi with ⟨_, ⟨obs, B1, B2, _, _⟩, _⟩ | ⟨q, o2, q1, q2, q3, q4, q5, q6, q7⟩
            · rw [x2] at t1
              rw [B2]
              have := core_ext (Y := obs) t1
              exact core_isR_id hR hI this
            · have hne : q ≠ i := fun e => hL (e ▸ q1)
              have hlt : q < i := by
                by_cases hlt : q < i
                · exact hlt
                · exfalso
                  rcases C.s3 q o2 i o q2 q4 q3 ho (by omega) hN with hl | hl
                  · have := (C.s4 i hl).1; omega
                  · exact hL (C.anc_in' S.cl q2 (S.cl q o2 q1 q2) i hl)
              rw [q7]
              by_cases he : q + 1 = i
              · rw [he]; exact x2
              · rw [t2 (q + 1) (by omega) (by omega)]; exact x2
          rw [if_pos (W x1)]
          rw [C.congr hc] at x2'
          refine (core_ok C.co C.mo x2' hI A S.rel (Nat.le_refl _) noD K Q (fun v w' ha => ?_) (fun v w' ha => ?_)).2 (compI_nd hI) ro
          · obtain ⟨_, g', k1, k2, k3, k4⟩ := ha
            exact hK _ _ _ _ (C.mkSI S hi ho hL hq k4 (S.stp.trans k4) k3 k2 (C.hiN S.hi ho hL hQ1 k1))
          · obtain ⟨k, _⟩ := ha; cases k
        · rw [if_neg (by rw [W x1]; decide)]
          refine ⟨fun _ _ => trivial, ?_⟩
          exact hK _ _ _ _ (C.mkSI S hi ho hL hq (Stp.refl (H := Hc)) S.stp S.rel (by rw [x2]; exact .fv _ _ (.lit _)) (C.hiN S.hi ho hL hQ1 rfl))
      | false =>
      have hQ0 : qt P et i o = false := by unfold qt; rw [hN, hE]; rfl
      obtain ⟨b1, b2⟩ := C.behind S.cl (by omega) ho hQ0 hL hq
      obtain ⟨R, st⟩ := C.transfer S (by omega) (Nat.le_of_lt hi) b1 b2
      have noD' : ¬ g.D (HH i).length := fun h => Nat.lt_irrefl _ (R.dom _ h)
      have hiT : ∀ g' : G, HI md P et ops h l H ob HH m g' (fun j => L j ∨ j = i) (HH (i + 1)) := fun g' =>
        .inr ⟨i, o, .inr rfl, ho, hQ0, by omega, hi, fun j o2 hj hjo hn => by
          rcases hj with hj | rfl
          · exact Nat.le_of_lt (b2 j o2 hj hjo hn)
          · exact Nat.le_refl _, rfl⟩
      rcases (C.tt i o' (by omega) hi h1).2 with ⟨x1, out, x2, x3⟩ | ⟨x1, x2, x3⟩
      · rw [if_pos (W x1)]
        rw [C.congr hc] at x2
        refine (core_ok C.co C.mo x2 hI A R (Nat.le_refl _) noD' K Q (fun v w' ha => ?_) (fun v w' ha => ?_)).2 (compI_nd hI) ro
        · cases out with
          | val y ox =>
            cases ox with
            | none =>
              obtain ⟨_, g', k1, k2, k3, k4⟩ := ha
              obtain ⟨e1, e2⟩ := x3
              refine hK _ g' w' (HH (i + 1)) (C.mkSI S hi ho hL hq (Hx := HH i) ?_ ?_ ?_ (by rw [e1]; exact k2) (hiT g'))
              · rw [e2]; exact k4
              · rw [e2]; exact st.trans k4
              · rw [e2]; exact k3
            | some b =>
              obtain ⟨_, g', k1, k2, k3, k4⟩ := ha
              obtain ⟨e1, e2⟩ := x3
              rw [setO_len] at k3 k4
              refine hK _ g' w' (HH (i + 1)) (C.mkSI S hi ho hL hq (Hx := HH i) ?_ ?_ ?_ (by rw [e1]; exact k2) (hiT g'))
              · rw [e2]; exact k4
              · rw [e2]; exact st.trans k4
              · rw [e2]; exact k3
          | wr y H1 =>
            obtain ⟨_, g', k2, k3, k4⟩ := ha
            obtain ⟨e1, e2⟩ := x3
            refine hK _ g' w' (HH (i + 1)) (C.mkSI S hi ho hL hq (Hx := HH i) ?_ ?_ ?_ (by rw [e1]; exact k2) (hiT g'))
            · rw [e2]; exact k4
            · rw [e2]; exact st.trans k4
            · rw [e2]; exact k3
          | fz y ids =>
            obtain ⟨_, g', k2, k3, k4, _⟩ := ha
            obtain ⟨e1, e2⟩ := x3
            refine hK _ g' w' (HH (i + 1)) (C.mkSI S hi ho hL hq (Hx := HH i) ?_ ?_ ?_ (by rw [e1]; exact k2) (hiT g'))
            · rw [e2]; exact k4
            · rw [e2]; exact st.trans k4
            · rw [e2]; exact k3
          | pan y H1 => exact x3.elim
        · cases out with
          | val y ox => cases ox <;> (obtain ⟨k, _⟩ := ha; cases k)
          | wr y H1 => obtain ⟨k, _⟩ := ha; cases k
          | fz y ids => obtain ⟨k, _⟩ := ha; cases k
          | pan y H1 => exact x3.elim
      · rw [if_neg (by rw [W x1]; decide)]
        refine ⟨fun _ _ => trivial, ?_⟩
        refine hK _ g w (HH (i + 1)) (C.mkSI S hi ho hL hq (Stp.refl (H := HH (i + 1))) (by rw [x3]; exact st) (by rw [x3]; exact R) (by rw [x2]; exact .fv _ _ (.lit _)) (hiT g))
theorem takeP {ro : Option Nat} {L : Nat → Prop} {act : Act} {g : G} {w : World} {Hc : List AO} (S : SI md P et nt ds ops h l H fr a ob HH m g0 w0 L act g w Hc) {o : Oper} {o' : O} {b : AV} {H' : List AO} (ho : ops[m]? = some o) (hL : ¬ L m) (hq : ∀ q ∈ preds o, L q)
    (h1 : l[m]? = some o') (x1 : wanted o' (F m) = some true) (x2 : core call mt md (HH m) (HH m).length o'.i (F m) = some (.pan b H')) (K : Act → World → Prop) (Q : Exit → Act → World → Prop)
    (hQ : ∀ g w act v, Stp g0 w0 H g w H' → Sit nt ds g w H' (dropD (l, fr) (F m)) act → VR g w b v → Q (.panic [{ v, recovered := false }]) act w) : wpOpIn (WF ro) 0 P ops Q m K act w := by
  obtain ⟨o2, h2, hc⟩ := C.c m o ho
  rw [h1] at h2; simp only [sI] at h2; subst h2
  have A := C.agree S.fi S.cl ho (Nat.le_refl _) hL hq
  have hI := (compO_inv hc).1
  unfold wpOpIn
  rw [ho]
  simp only
  rw [if_pos (wanted_ok hc A (by rw [← C.wcongr hc]; exact x1))]
  have hN : isN P o.op = false := by
    cases hN : isN P o.op with
    | false => rfl
    | true => obtain ⟨y, hy, _⟩ := core_N hN hI x2; cases hy
  have hQ0 : qt P et m o = false := by
    unfold qt
    rw [hN, Bool.false_or, ← Bool.not_eq_true, List.contains_iff_mem]
    intro hm
    obtain ⟨_, o2, d, e1, hR, _⟩ := C.s5 m hm
    rw [ho] at e1; simp only [sI] at e1; subst e1
    obtain ⟨y, hy⟩ := core_isR hR hI x2
    cases hy
  obtain ⟨b1, b2⟩ := C.behind S.cl C.hm ho hQ0 hL hq
  obtain ⟨R, st⟩ := C.transfer S C.hm (Nat.le_refl _) b1 b2
  have noD' : ¬ g.D (HH m).length := fun h => Nat.lt_irrefl _ (R.dom _ h)
  rw [C.congr hc] at x2
  refine (core_ok C.co C.mo x2 hI A R (Nat.le_refl _) noD' K Q (fun v w' ha => ?_) (fun v w' ha => ?_)).2 (compI_nd hI) ro
  · obtain ⟨k, _⟩ := ha; cases k
  · obtain ⟨_, g', k1, k2, k3⟩ := ha
    refine hQ g' w' act v (st.trans k3) ⟨k2, fun t => ?_, S.size, S.defers⟩ k1
    rcases get_dropD l fr (F m) t with e | ⟨e1, e2 | e2⟩
    · rw [e]; exact .fv _ _ (.any _)
    · rw [e1]
      have none : ∀ (j : Nat) (o : Oper), ops[j]? = some o → o.dst ≠ some t := by
        intro j o hj e
        obtain ⟨o3, h3, h4⟩ := C.c j o hj
        exact e2 o3 (List.mem_of_getElem? h3) (by rw [(compO_inv h4).2.1]; exact e)
      rcases C.frame t m (Nat.le_refl _) with ⟨j, o3, _, j2, j3, _⟩ | ⟨_, j2⟩
      · exact absurd j3 (none j o3 j2)
      · rw [j2]
        rcases S.fi t with ⟨j, o3, _, k2, k3, _⟩ | ⟨_, k⟩
        · exact absurd k3 (none j o3 k2)
        · exact k3.vr k
    · rw [e1]
      rcases S.fi t with ⟨j', o3, q1, q2, q3, q4⟩ | ⟨_, k⟩
      · rcases C.frame t m (Nat.le_refl _) with ⟨j, o, j1, j2, j3, j4⟩ | ⟨j1, _⟩
        · rw [j4]
          have := C.dst_inj j2 q2 j3 q3
          subst this; exact k3.vr q4
        · exact absurd q3 (j1 j' o3 (S.lm j' q1) q2)
      · rw [← e2]; exact k3.vr k
theorem done {L : Nat → Prop} {act : Act} {g : G} {w : World} {Hc : List AO} (S : SI md P et nt ds ops h l H fr a ob HH m g0 w0 L act g w Hc) (hm : m = ops.size) (all : ∀ j, j < m → L j) : Stp g0 w0 H g w (HH m) ∧ Sit nt ds g w (HH m) (F m) act := by
  obtain ⟨R, st⟩ := C.transfer S C.hm (Nat.le_refl _) (fun p _ hp _ _ => .inr (all p hp)) (fun p _ hp _ _ => S.lm p hp)
  refine ⟨st, R, fun t => ?_, S.size, S.defers⟩
  rcases C.frame t m (Nat.le_refl _) with ⟨j, o, j1, j2, j3, j4⟩ | ⟨j1, j2⟩
  · rw [j4]
    rcases S.fi t with ⟨j', o', k1, k2, k3, k4⟩ | ⟨k1, _⟩
    · have := C.dst_inj j2 k2 j3 k3
      subst this; exact k4
    · exact absurd j3 (k1 j o (all j j1) j2)
  · rw [j2]
    rcases S.fi t with ⟨j', o', k1, k2, k3, k4⟩ | ⟨_, k⟩
    · exact absurd k3 (j1 j' o' (S.lm j' k1) k2)
    · exact k
end DCtx
theorem ready_mem {listed : Array Bool} (hs : listed.size = ops.size) {i : Nat} (hm : i ∈ Region.ready .any ops listed) : ∃ o, ops[i]? = some o ∧ listed[i]? = some false ∧ ∀ q ∈ preds o, listed[q]? = some true := by
  unfold Region.ready at hm
  obtain ⟨h1, h2⟩ := List.mem_filter.1 hm
  have hlt : i < ops.size := by simpa using h1
  have ho : ops[i]? = some ops[i] := Array.getElem?_eq_getElem hlt
  rw [ho] at h2
  simp only [Option.map_some, Option.getD_some, Bool.and_eq_true, Bool.not_eq_true', Array.all_eq_true'] at h2
  obtain ⟨h2, h3⟩ := h2
  refine ⟨_, ho, ?_, fun q hq => ?_⟩
  · rw [Array.getD_eq_getD_getElem?] at h2
    rw [Array.getElem?_eq_getElem (by omega)] at h2 ⊢
    simpa using h2
  · unfold preds at hq
    obtain ⟨e, he, rfl⟩ := List.mem_map.1 hq
    obtain ⟨e1, e2⟩ := List.mem_filter.1 he
    have := h3 e (by simpa using e1)
    rw [e2] at this
    simp only [Bool.not_true, Bool.false_or] at this
    rw [Array.getD_eq_getD_getElem?] at this
    cases hx : listed[e.on]? with
    | none => rw [hx] at this; cases this
    | some b => rw [hx] at this; simp at this; rw [this]
theorem ready_nil {listed : Array Bool} (s1 : ∀ (i : Nat) (o : Oper), ops[i]? = some o → ∀ q ∈ preds o, q < i) (hs : listed.size = ops.size) (hm : Region.ready .any ops listed = []) : ∀ i, i < ops.size → listed[i]? = some true := by
  intro i
  induction i using Nat.strongRecOn with
  | _ i ih =>
    intro hlt
    have ho : ops[i]? = some ops[i] := Array.getElem?_eq_getElem hlt
    have hl : listed[i]? = some listed[i] := Array.getElem?_eq_getElem (by omega)
    cases hb : listed[i] with
    | true => rw [hl, hb]
    | false =>
      exfalso
      have : i ∈ Region.ready .any ops listed := by
        unfold Region.ready
        refine List.mem_filter.2 ⟨by simpa using hlt, ?_⟩
        rw [ho]
        simp only [Option.map_some, Option.getD_some, Bool.and_eq_true, Bool.not_eq_true', Array.all_eq_true']
        refine ⟨by rw [Array.getD_eq_getD_getElem?, hl, hb]; rfl, fun e he => ?_⟩
        cases hx : Region.binds .any e with
        | false => rfl
        | true =>
          have hq : e.on ∈ preds ops[i] := List.mem_map.2 ⟨e, List.mem_filter.2 ⟨by simpa using he, hx⟩, rfl⟩
          have hlt' := s1 i _ ho _ hq
          rw [Array.getD_eq_getD_getElem?, ih _ hlt' (by omega)]; rfl
      rw [hm] at this; cases this
theorem listed_set {listed : Array Bool} {i : Nat} (hi : i < listed.size) (j : Nat) : (listed.setIfInBounds i true)[j]? = some true ↔ (listed[j]? = some true ∨ j = i) := by
  rw [Array.getElem?_setIfInBounds]
  by_cases e : i = j
  · subst e; simp [hi]
  · rw [if_neg e]
    constructor
    · exact .inl
    · rintro (h | h)
      · exact h
      · exact absurd h.symm e
theorem count_set : ∀ {l : List Bool} {i : Nat}, l[i]? = some false → (l.set i true).count false + 1 = l.count false
  | [], i, h => by cases h
  | b :: l, 0, h => by
    simp only [List.getElem?_cons_zero, sI] at h; subst h
    simp
  | b :: l, i + 1, h => by
    simp only [List.getElem?_cons_succ] at h
    have := count_set h
    simp only [List.set_cons_succ, List.count_cons]
    omega
theorem any_ok {ro : Option Nat} (C : DCtx P call mt md ow nt ops h l H fr F a ob HH m lt et) (Q : Exit → Act → World → Prop)
    (hQ : (m = ops.size ∧ ∀ g w act, Stp g0 w0 H g w (HH m) → Sit nt ds g w (HH m) (F m) act → Q .normal act w) ∨
      (m < ops.size ∧ (∀ (p : Nat) (o : Oper), m < p → ops[p]? = some o → m ∈ (anc ops.toList).getD p []) ∧ ∃ o' b H', l[m]? = some o' ∧ wanted o' (F m) = some true ∧ core call mt md (HH m) (HH m).length o'.i (F m) = some (.pan b H') ∧
        ∀ g w act v, Stp g0 w0 H g w H' → Sit nt ds g w H' (dropD (l, fr) (F m)) act → VR g w b v → Q (.panic [{ v, recovered := false }]) act w)) :
    ∀ (fuel : Nat) (listed : Array Bool) (act : Act) (g : G) (w : World) (Hc : List AO), listed.size = ops.size → listed.toList.count false ≤ fuel → SI md P et nt ds ops h l H fr a ob HH m g0 w0 (fun j => listed[j]? = some true) act g w Hc →
      wpAnyIn (WF ro) 0 P .any ops Q fuel listed act w := by
  have fin : ∀ (listed : Array Bool) (act : Act) (g : G) (w : World) (Hc : List AO), listed.size = ops.size → SI md P et nt ds ops h l H fr a ob HH m g0 w0 (fun j => listed[j]? = some true) act g w Hc → Region.ready .any ops listed = [] → Q .normal act w := by
    intro listed act g w Hc hs S hr
    have all := ready_nil C.s1 hs hr
    rcases hQ with ⟨hm, hQ⟩ | ⟨hm, _⟩
    · obtain ⟨d1, d2⟩ := C.done S hm (fun j hj => all j (by omega))
      exact hQ _ _ _ d1 d2
    · have := S.lm m (all m (by omega))
      omega
  intro fuel
  induction fuel with
  | zero =>
    intro listed act g w Hc hs hc S
    have all : ∀ i, i < listed.size → listed[i]? = some true := by
      intro i hi
      have h0 : listed.toList.count false = 0 := by omega
      rw [List.count_eq_zero] at h0
      rw [Array.getElem?_eq_getElem hi]
      cases hb : listed[i] with
      | true => rfl
      | false => exact absurd (by rw [← hb]; simp) h0
    have hr : Region.ready .any ops listed = [] := by
      cases hr : Region.ready .any ops listed with
      | nil => rfl
      | cons i r =>
        obtain ⟨o, h1, h2, _⟩ := ready_mem hs (i := i) (by rw [hr]; exact List.mem_cons_self ..)
        have hlt := (Array.getElem?_eq_some_iff.1 h1).1
        rw [all i (by omega)] at h2; cases h2
    exact ⟨hr, fin listed act g w Hc hs S hr⟩
  | succ fuel ih =>
    intro listed act g w Hc hs hc S
    refine ⟨fin listed act g w Hc hs S, fun i hi => ?_⟩
    obtain ⟨o, h1, h2, h3⟩ := ready_mem hs hi
    have hL : ¬ (listed[i]? = some true) := by rw [h2]; simp
    have hlt := (Array.getElem?_eq_some_iff.1 h1).1
    by_cases him : i < m
    · refine C.take S him h1 hL h3 _ Q fun act' g' w' Hc' S' => ih _ act' g' w' Hc' (by simpa using hs) ?_ ?_
      · have := count_set (l := listed.toList) (i := i) (by rw [Array.getElem?_toList]; exact h2)
        rw [Array.toList_setIfInBounds]
        omega
      · have e : (fun j => (listed.setIfInBounds i true)[j]? = some true) = fun j => (listed[j]? = some true ∨ j = i) := by
          funext j; exact propext (listed_set (by omega) j)
        rw [e]; exact S'
    · rcases hQ with ⟨hm, _⟩ | ⟨hm, hbh, o', b, H', k1, k2, k3, k4⟩
      · omega
      · have : i = m := by
          rcases Nat.lt_or_ge m i with hlt2 | hge
          · exfalso
            have := C.anc_in' S.cl h1 h3 m (hbh i o hlt2 h1)
            have := S.lm m this
            omega
          · omega
        subst this
        exact C.takeP S h1 hL h3 k1 k2 k3 _ Q k4
end
end Go.Ai
namespace Go.Ai
section
variable {P : Program} {g : G} {w : World} {H : List AO} {act : Act} {fr : Fr} {call : CallF} {mt : MtF} {md : FuncId → Md} {ow : List Nat} {nt : Nat} {ds : List Deferred} {ops : Array Oper}
theorem zip_all {α : Type} {l : List α} {p : α × Nat → Bool} (h : l.zipIdx.all p = true) {i : Nat} {x : α} (hi : l[i]? = some x) : p (x, i) = true := by
  rw [List.all_eq_true] at h
  exact h _ (List.mem_zipIdx_iff_getElem?.2 hi)
theorem drawOk_inv {h : Nat} {lt et : List Nat} (hd : drawOk P ops h lt et = true) : h ≤ ops.size ∧
    (∀ (i : Nat) (o : Oper), ops[i]? = some o → ∀ q ∈ preds o, q < i) ∧
    (∀ (i : Nat) (o : Oper) (j : Nat) (o2 : Oper) (d : Nat), ops[i]? = some o → ops[j]? = some o2 → o2.dst = some d → j ≠ i → o.dst ≠ some d ∧ (d ∉ looks ops o ∨ (j < i ∧ j ∈ (anc ops.toList).getD i []) ∨ (i < j ∧ i ∈ (anc ops.toList).getD j []))) ∧
    (∀ (i : Nat) (o : Oper) (q : Nat) (o2 : Oper), ops[i]? = some o → h ≤ i → qt P et i o = false → ops[q]? = some o2 → q < i → isN P o2.op = false → q ∈ lt ∨ q ∈ (anc ops.toList).getD i []) ∧
    (∀ i, i ∈ lt → i < h ∧ ∃ o d, ops[i]? = some o ∧ isR o.op = true ∧ o.dst = some d ∧ ∀ (j : Nat) (o2 : Oper) (d : Nat), i ≤ j → ops[j]? = some o2 → o2.dst = some d → d ∉ looks ops o) ∧
    (∀ i, i ∈ et → h ≤ i ∧ ∃ o d, ops[i]? = some o ∧ isR o.op = true ∧ o.dst = some d) ∧ (∀ (i : Nat) (o : Oper) (d : Nat), ops[i]? = some o → o.dst = some d → d < 1000000) := by
  unfold drawOk at hd
  simp only [Bool.and_eq_true] at hd
  obtain ⟨⟨⟨⟨⟨h0, h1⟩, h2⟩, h4⟩, h5⟩, h6⟩ := hd
  refine ⟨Nat.le_of_ble_eq_true h0, fun i o ho q hq => ?_, fun i o j o2 d ho ho2 hd2 hne => ?_, fun i o q o2 ho hi hQ ho2 hlt hN2 => ?_, fun i hi => ?_, fun i hi => ?_, fun i o d ho hd => ?_⟩
  · have := zip_all h1 (i := i) (x := o) (by rwa [Array.getElem?_toList])
    simp only [selfOk, Bool.and_eq_true, List.all_eq_true] at this
    simpa using this.1 q hq
  · have := zip_all h1 (i := i) (x := o) (by rwa [Array.getElem?_toList])
    simp only [selfOk, Bool.and_eq_true] at this
    have := zip_all this.2 (i := j) (x := o2) (by rwa [Array.getElem?_toList])
    simp only [hd2, beq_of_ne hne, Bool.false_or, Bool.and_eq_true, Bool.or_eq_true, Bool.not_eq_true', decide_eq_true_eq, List.contains_iff_mem] at this
    obtain ⟨t1, t2⟩ := this
    refine ⟨fun e => by rw [e] at t1; simp at t1, ?_⟩
    rcases t2 with (t2 | t2) | t2
    · left
      intro hm
      rw [List.contains_iff_mem.2 hm] at t2; cases t2
    · exact .inr (.inl t2)
    · exact .inr (.inr t2)
  · have := zip_all h2 (i := i) (x := o) (by rwa [Array.getElem?_toList])
    have hN := qt_N hQ
    have hE : et.contains i = false := by unfold qt at hQ; exact (Bool.or_eq_false_iff.1 hQ).2
    simp only [Bool.or_eq_true, decide_eq_true_eq, hN, hE, Bool.false_eq_true, or_false] at this
    rcases this with this | this
    · omega
    · have := zip_all this (i := q) (x := o2) (by rwa [Array.getElem?_toList])
      simp only [Bool.or_eq_true, decide_eq_true_eq, hN2, Bool.false_eq_true, or_false, List.contains_iff_mem] at this
      rcases this with (this | this) | this
      · omega
      · exact .inr this
      · exact .inl this
  · rw [List.all_eq_true] at h4
    have := h4 i hi
    unfold lateOp at this
    simp only [Bool.and_eq_true, decide_eq_true_eq] at this
    obtain ⟨t1, t2⟩ := this
    cases ho : ops[i]? with
    | none => rw [ho] at t2; cases t2
    | some o =>
      rw [ho] at t2
      simp only [Bool.and_eq_true] at t2
      obtain ⟨⟨t2, t3⟩, t4⟩ := t2
      obtain ⟨d, hd⟩ := Option.isSome_iff_exists.1 t3
      refine ⟨t1, o, d, rfl, t2, hd, fun j o2 d2 hj ho2 hd2 hm => ?_⟩
      have := zip_all t4 (i := j) (x := o2) (by rwa [Array.getElem?_toList])
      simp only [hd2, Bool.or_eq_true, decide_eq_true_eq, Bool.not_eq_true'] at this
      rcases this with this | this
      · omega
      · rw [List.contains_iff_mem.2 hm] at this; cases this
  · rw [List.all_eq_true] at h5
    have := h5 i hi
    unfold earlyOp at this
    simp only [Bool.and_eq_true, decide_eq_true_eq] at this
    obtain ⟨t1, t2⟩ := this
    cases ho : ops[i]? with
    | none => rw [ho] at t2; cases t2
    | some o =>
      rw [ho] at t2
      simp only [Bool.and_eq_true] at t2
      obtain ⟨d, hd⟩ := Option.isSome_iff_exists.1 t2.2
      exact ⟨t1, o, d, rfl, t2.1, hd⟩
  · rw [List.all_eq_true] at h6
    have := h6 o (List.mem_of_getElem? (i := i) (by rwa [Array.getElem?_toList]))
    rw [hd] at this
    simpa [Nat.blt_eq] using this
theorem mapM_get {α β : Type} {f : α → Option β} : ∀ {l : List α} {l' : List β}, l.mapM f = some l' → l'.length = l.length ∧ ∀ (i : Nat) (x : α), l[i]? = some x → ∃ y, l'[i]? = some y ∧ f x = some y
  | [], l', h => by
    simp only [List.mapM_nil, Option.pure_def, sI] at h; subst h
    exact ⟨rfl, by simp⟩
  | x :: l, l', h => by
    rw [List.mapM_cons] at h
    obtain ⟨y, h1, h⟩ := bO.1 h
    obtain ⟨l2, h2, h⟩ := bO.1 h
    simp only [Option.pure_def, sI] at h; subst h
    obtain ⟨e, ih⟩ := mapM_get h2
    refine ⟨by simp [e], fun i z hz => ?_⟩
    cases i with
    | zero => simp only [List.getElem?_cons_zero, sI] at hz; subst hz; exact ⟨y, rfl, h1⟩
    | succ i => simp only [List.getElem?_cons_succ] at hz ⊢; exact ih i z hz
theorem waits_of {h : Nat} {et : List Nat} {i q : Nat} (hw : ∀ (p : Nat) (o : Oper), h ≤ p → p < q → ops[p]? = some o → qt P et p o = false → i ∉ (anc ops.toList).getD p []) : waits P ops h et i q = true := by
  unfold waits
  rw [List.all_eq_true]
  rintro ⟨o, p⟩ hp
  have ho : ops[p]? = some o := by
    have := List.mem_zipIdx_iff_getElem?.1 hp
    simpa using this
  simp only [Bool.or_eq_true, decide_eq_true_eq, Bool.not_eq_true']
  by_cases h1 : p < h
  · exact .inl (.inl (.inl (.inl h1)))
  by_cases h2 : q ≤ p
  · exact .inl (.inl (.inl (.inr h2)))
  cases hq : qt P et p o with
  | true =>
    unfold qt at hq
    rw [Bool.or_eq_true] at hq
    rcases hq with hq | hq
    · exact .inl (.inl (.inr hq))
    · exact .inl (.inr hq)
  | false =>
    right
    have := hw p o (by omega) (by omega) ho hq
    rw [← Bool.not_eq_true, List.contains_iff_mem]; exact this
theorem lateT_get {h : Nat} {lt et : List Nat} {l : List O} {i n : Nat} (hi : i ∈ lt) (hn : n ≤ ops.size - h) : (lateT P ops h lt et l).getD n [] = (lt.filter fun i => waits P ops h et i (h + n)).filterMap fun i => l[i]? := by
  unfold lateT
  have : lt.isEmpty = false := by cases lt with | nil => cases hi | cons => rfl
  rw [if_neg (by rw [this]; decide), List.getD_eq_getElem?_getD, List.getElem?_map, List.getElem?_range (by omega)]
  rfl
theorem pm_mem {early : List Nat} {d : Nat} (h : pm early (some d) = true) : d + 1000000 ∈ early := by
  cases early with
  | nil => cases h
  | cons e es => exact List.contains_iff_mem.1 h
theorem draw_ok {ro : Option Nat} {id h : Nat} {lt et pt : List Nat} {l : List O} {fr1 : Fr} {obs : List AO} {s : SR} (fol : P.follows .mixedOrders = true) (CO : CallOk P call) (MT : MtOk P mt) (hc : ops.toList.mapM (compO P ow nt ops) = some l) (hd : drawOk P ops h lt et = true)
    (S : Sit nt ds g w H fr act) (h1 : runD call mt md H H.length 0 (l.take h) fr = some (fr1, obs))
    (h2 : runT call mt md (lateT P ops h lt et l) ((et.filterMap fun i => (l[i]?).bind (·.dst)) ++ marksM ops l pt) [H] (l.drop h) fr1 (bif (l.take h).any (fun o => makes md o.i) then H ++ obs else H) = some s) (Q : Exit → Act → World → Prop)
    (hQ : SPost nt ds g w H Q (match s with | .go fr H => .go fr H | .pan a fr' H => .pan a (dropD (l, fr) fr') H)) : (Code.region id ops true).wpIn (WF ro) 0 P Q act w := by
  obtain ⟨hn, s1, s2, s3, s4, s5, s6⟩ := drawOk_inv hd
  obtain ⟨hl, hcs⟩ := mapM_get hc
  simp only [Array.length_toList] at hl
  have htl : (l.take h).length = h := by rw [List.length_take]; omega
  obtain ⟨ho, FD, aD, d1, d2, d3⟩ := runD_trace _ _ _ _ _ h1
  obtain ⟨FT, HT, aT, mT, t1, t2, t3, tL, tE, t4⟩ := runT_trace _ _ _ _ _ _ h2
  rw [htl] at ho d2
  have hmT : mT ≤ (l.drop h).length := by rcases t4 with ⟨e, _⟩ | ⟨e, _⟩ <;> omega
  rw [List.length_drop] at hmT
  have hFh : FT 0 = FD h := by rw [t1, d2]
  let F : Nat → Fr := fun i => if i < h then FD i else FT (i - h)
  let a : Nat → AV := fun i => if i < h then aD i else aT (i - h)
  let ob : Nat → AO := fun i => obs.getD i .dead
  let HH : Nat → List AO := fun i => HT (i - h)
  have C : DCtx P call mt md ow nt ops h l H fr F a ob HH (h + mT) lt et := by
    refine ⟨CO, MT, fun i o ho' => hcs i o (by rwa [Array.getElem?_toList]), by omega, by omega, s1, s2, s3, s4, s5, fun i o' hi him ho' hw => ?_, ?_, fun i o' hi ho' => ?_, fun i o' hi him ho' => ?_, fun q i o' hq hm hi hwt ho' => ?_, ?_⟩
    · obtain ⟨hhi, oo, d, e1, _, e2⟩ := s5 i hi
      obtain ⟨o2, e3, e4⟩ := hcs i oo (by rwa [Array.getElem?_toList])
      rw [ho'] at e3; simp only [sI] at e3; subst e3
      have hdst : o'.dst = some d := by rw [(compO_inv e4).2.1]; exact e2
      have hct : ((et.filterMap fun i => (l[i]?).bind (·.dst)) ++ marksM ops l pt).contains d = true := by
        rw [List.contains_iff_mem]
        exact List.mem_append_left _ <| List.mem_filterMap.2 ⟨i, hi, by rw [ho']; exact hdst⟩
      have eF : F i = FT (i - h) := if_neg (by omega)
      obtain ⟨x1, x2⟩ := tE (i - h) o' (by omega) (by rw [List.getElem?_drop, show h + (i - h) = i by omega]; exact ho')
      rw [eF] at hw ⊢
      exact ⟨x1 H (List.mem_cons_self ..) d hdst hct hw, fun q hq hqi => x2 (q - h) (by omega) d hdst hct hw⟩
    · show (if 0 < h then FD 0 else FT (0 - h)) = fr
      by_cases h0 : 0 < h
      · rw [if_pos h0, d1]
      · have : h = 0 := by omega
        subst this
        rw [if_neg h0, Nat.sub_self, hFh, d1]
    · have hob : obs[i]? = some (ob i) := by
        show obs[i]? = some (obs.getD i .dead)
        rw [List.getD_eq_getElem?_getD, List.getElem?_eq_getElem (by omega)]; rfl
      have := d3 i o' (ob i) (by rw [List.getElem?_take, if_pos hi]; exact ho') hob
      rw [Nat.zero_add] at this
      have e1 : F i = FD i := if_pos hi
      have e2 : F (i + 1) = FD (i + 1) := by
        show (if i + 1 < h then FD (i + 1) else FT (i + 1 - h)) = _
        by_cases h0 : i + 1 < h
        · rw [if_pos h0]
        · have : h = i + 1 := by omega
          rw [if_neg h0, show i + 1 - h = 0 by omega, hFh, this]
      have e3 : a i = aD i := if_pos hi
      rw [e1, e2, e3]; exact this
    · have := t3 (i - h) o' (by omega) (by rw [List.getElem?_drop, show h + (i - h) = i by omega]; exact ho')
      have e1 : F i = FT (i - h) := if_neg (by omega)
      have e2 : F (i + 1) = FT (i - h + 1) := by
        show (if i + 1 < h then FD (i + 1) else FT (i + 1 - h)) = _
        rw [if_neg (by omega), show i + 1 - h = i - h + 1 by omega]
      have e3 : a i = aT (i - h) := if_neg (by omega)
      have e4 : HH (i + 1) = HT (i - h + 1) := by show HT (i + 1 - h) = _; rw [show i + 1 - h = i - h + 1 by omega]
      rw [e1, e2, e3, e4]; exact this
    · have e1 : F q = FT (q - h) := if_neg (by omega)
      intro o2 ho2
      simp only [List.mem_cons, List.not_mem_nil, or_false] at ho2
      subst ho2
      rw [e1]
      have := tL (q - h) (by omega)
      rw [lateT_get hi (by omega), show h + (q - h) = q by omega] at this
      exact this o2 (List.mem_filterMap.2 ⟨i, List.mem_filter.2 ⟨hi, waits_of hwt⟩, ho'⟩)
    · have e : HH h = HT 0 := by show HT (h - h) = _; rw [Nat.sub_self]
      rw [e, t2]
      cases hm : (l.take h).any (fun o => makes md o.i) with
      | true =>
        left
        rw [List.any_eq_true] at hm
        obtain ⟨o', h3, h4⟩ := hm
        obtain ⟨i, hi⟩ := List.getElem?_of_mem h3
        rw [List.getElem?_take] at hi
        split at hi
        · rename_i hlt
          refine ⟨⟨i, o', hlt, hi, h4⟩, ?_⟩
          simp only [cond_true]
          congr 1
          apply List.ext_getElem?
          intro j
          by_cases hj : j < h
          · simp only [List.getElem?_map, List.getElem?_range hj, Option.map_some]
            show obs[j]? = some (obs.getD j .dead)
            rw [List.getD_eq_getElem?_getD, List.getElem?_eq_getElem (by omega)]; rfl
          · rw [List.getElem?_eq_none (by omega), List.getElem?_eq_none (by simp; omega)]
        · cases hi
      | false =>
        right
        refine ⟨fun i o' hi ho' => ?_, by simp⟩
        rw [List.any_eq_false] at hm
        have := hm o' (List.mem_of_getElem? (i := i) (by rw [List.getElem?_take, if_pos hi]; exact ho'))
        simpa using this
  refine wpIn_region_any fol ?_
  have Rw : Rel g { w with drawn := w.drawn + 1 } H := S.rel.world rfl
  have Sw : Stp g w H g { w with drawn := w.drawn + 1 } H := Stp.world rfl rfl rfl rfl
  have hlen : (l.drop h).length = l.length - h := by rw [List.length_drop]
  refine any_ok (ds := ds) (g0 := g) (w0 := w) C Q ?_ ops.size (Array.replicate ops.size false) act g _ (H ++ List.replicate h .dead) (by simp) (by simp) ?_
  · rcases t4 with ⟨e1, e2⟩ | ⟨e1, o', b, H', k1, k0, k2, k3, k4⟩
    · left
      refine ⟨by omega, fun g' w' act' hs hS => ?_⟩
      subst e2
      have e3 : F (h + mT) = FT mT := by
        show (if h + mT < h then FD (h + mT) else FT (h + mT - h)) = _
        rw [if_neg (by omega), show h + mT - h = mT by omega]
      have e4 : HH (h + mT) = HT mT := by show HT (h + mT - h) = _; rw [show h + mT - h = mT by omega]
      rw [e4] at hs hS
      rw [e3] at hS
      exact hQ g' w' act' hs hS
    · right
      refine ⟨by omega, fun p o hp ho => ?_, o', b, H', ?_, ?_, ?_, fun g' w' act' v hs hS hv => ?_⟩
      · have hplt := (Array.getElem?_eq_some_iff.1 ho).1
        rcases k0 with k0 | k0
        · omega
        · rw [List.getElem?_drop] at k1
          have hd1 := (List.getElem?_eq_some_iff.1 k1).1
          have hom : ops[h + mT]? = some ops[h + mT] := Array.getElem?_eq_getElem (by omega)
          obtain ⟨o3, e3, e4⟩ := hcs (h + mT) ops[h + mT] (by rw [Array.getElem?_toList]; exact hom)
          rw [k1] at e3; simp only [sI] at e3; subst e3
          have hdst := (compO_inv e4).2.1
          cases hdd : o'.dst with
          | none =>
            rw [hdd] at k0
            revert k0
            cases ((et.filterMap fun i => (l[i]?).bind (·.dst)) ++ marksM ops l pt) with
            | nil => intro k0; cases k0
            | cons e es => intro k0; cases k0
          | some d =>
            rw [hdd] at k0 hdst
            have hmem : d + 1000000 ∈ (et.filterMap fun i => (l[i]?).bind (·.dst)) ++ marksM ops l pt := by
              exact pm_mem k0
            rcases List.mem_append.1 hmem with hmem | hmem
            · exfalso
              obtain ⟨i, _, hi⟩ := List.mem_filterMap.1 hmem
              obtain ⟨oi, hoi, hi⟩ := bO.1 hi
              have hil := (List.getElem?_eq_some_iff.1 hoi).1
              obtain ⟨o4, f3, f4⟩ := hcs i ops[i] (by rw [Array.getElem?_toList]; exact Array.getElem?_eq_getElem (by omega))
              rw [hoi] at f3; simp only [sI] at f3; subst f3
              have f5 := (compO_inv f4).2.1
              rw [hi] at f5
              have := s6 i ops[i] (d + 1000000) (Array.getElem?_eq_getElem (by omega)) f5.symm
              omega
            · unfold marksM at hmem
              obtain ⟨i, _, hi⟩ := List.mem_filterMap.1 hmem
              by_cases hbb : behindB ops i = true
              case neg => rw [if_neg hbb] at hi; cases hi
              rw [if_pos hbb] at hi
              obtain ⟨d2, hi2, he⟩ := Option.map_eq_some_iff.1 hi
              obtain ⟨oi, hoi, hi3⟩ := bO.1 hi2
              have : d2 = d := by omega
              subst this
              have hil := (List.getElem?_eq_some_iff.1 hoi).1
              obtain ⟨o4, f3, f4⟩ := hcs i ops[i] (by rw [Array.getElem?_toList]; exact Array.getElem?_eq_getElem (by omega))
              rw [hoi] at f3; simp only [sI] at f3; subst f3
              have f5 := (compO_inv f4).2.1
              rw [hi3] at f5
              have him : i = h + mT := C.dst_inj (Array.getElem?_eq_getElem (by omega)) hom f5.symm hdst.symm
              subst him
              unfold behindB at hbb
              have := zip_all hbb (i := p) (x := o) (by rwa [Array.getElem?_toList])
              rw [Bool.or_eq_true, decide_eq_true_eq, List.contains_iff_mem] at this
              rcases this with h | h
              · omega
              · exact h
      · rwa [List.getElem?_drop] at k1
      · have e3 : F (h + mT) = FT mT := by
          show (if h + mT < h then FD (h + mT) else FT (h + mT - h)) = _
          rw [if_neg (by omega), show h + mT - h = mT by omega]
        rw [e3]; exact k3
      · have e3 : F (h + mT) = FT mT := by
          show (if h + mT < h then FD (h + mT) else FT (h + mT - h)) = _
          rw [if_neg (by omega), show h + mT - h = mT by omega]
        have e4 : HH (h + mT) = HT mT := by show HT (h + mT - h) = _; rw [show h + mT - h = mT by omega]
        rw [e3, e4]; exact k4
      · subst k2
        have e3 : F (h + mT) = FT mT := by
          show (if h + mT < h then FD (h + mT) else FT (h + mT - h)) = _
          rw [if_neg (by omega), show h + mT - h = mT by omega]
        rw [e3] at hS
        exact hQ g' w' act' v hs hS hv
  · have nL : ∀ j : Nat, ¬ ((Array.replicate ops.size false)[j]? = some true) := by
      intro j e
      rw [Array.getElem?_replicate] at e
      split at e <;> cases e
    have lv : ∀ r, Live (H ++ List.replicate h AO.dead) r → Live H r := by
      rintro r ⟨o, hr, ha⟩
      by_cases hlt : r < H.length
      · rw [List.getElem?_append_left hlt] at hr; exact ⟨o, hr, ha⟩
      · rw [List.getElem?_append_right (by omega), List.getElem?_replicate] at hr
        split at hr
        · simp only [sI] at hr; subst hr; cases ha
        · cases hr
    refine ⟨Sw.alike lv, Rw.pad h, S.size, S.defers, fun t => .inr ⟨fun j o hj => absurd hj (nL j), ?_⟩, .inl ⟨fun i o hi => absurd hi (nL i), ⟨List.replicate h .dead, by simp, rfl, fun j _ hj => absurd hj (nL j), fun j hj _ => by rw [List.getElem?_replicate, if_pos hj]⟩, fun j hj => ?_⟩, fun i hi => absurd hi (nL i), fun j o hj => absurd hj (nL j)⟩
    · exact Sw.vr (S.fr t)
    · have := Rw.dom _ hj; omega
def EPost (nt : Nat) (ds : List Deferred) (g : G) (w : World) (H : List AO) (Q : Exit → Act → World → Prop) (s : Ai.S) : Prop :=
  match s.1 with
  | .normal => ∀ g' w' act', Stp g w H g' w' s.2.2 → Sit nt ds g' w' s.2.2 s.2.1 act' → Q .normal act' w'
  | .exit id => ∀ g' w' act', Stp g w H g' w' s.2.2 → Sit nt ds g' w' s.2.2 s.2.1 act' → Q (.exit id) act' w'
  | .ret => ∀ g' w' act', Stp g w H g' w' s.2.2 → Sit nt ds g' w' s.2.2 s.2.1 act' → Q .ret act' w'
  | .pan a => ∀ g' w' act' v, Stp g w H g' w' s.2.2 → Sit nt ds g' w' s.2.2 s.2.1 act' → VR g' w' a v → Q (.panic [{ v, recovered := false }]) act' w'
theorem EPost.step {g1 : G} {w1 : World} {H1 : List AO} {Q : Exit → Act → World → Prop} {s : Ai.S} (h : EPost nt ds g w H Q s) (st : Stp g w H g1 w1 H1) : EPost nt ds g1 w1 H1 Q s := by
  unfold EPost at h ⊢
  split at h
  · exact fun g' w' act' h1 h2 => h g' w' act' (st.trans h1) h2
  · exact fun g' w' act' h1 h2 => h g' w' act' (st.trans h1) h2
  · exact fun g' w' act' h1 h2 => h g' w' act' (st.trans h1) h2
  · exact fun g' w' act' v h1 h2 h3 => h g' w' act' v (st.trans h1) h2 h3
theorem Sit.keep (S : Sit nt ds g w H fr act) (l : List Nat) : Sit nt ds g w H (Ai.keep l fr) act := ⟨S.rel, S.fr.keep l, S.size, S.defers⟩
theorem loop_ok {ro : Option Nat} {body : Fr → List AO → Option Ai.S} {x : Code} {l : List Nat}
    (hb : ∀ fr H s g w act, Sit nt ds g w H fr act → body fr H = some s → ∀ Q, EPost nt ds g w H Q s → x.wpIn (WF ro) 0 P Q act w) :
    ∀ (n : Nat) (fr : Fr) (H : List AO) (s : Ai.S) (g : G) (w : World) (act : Act), Sit nt ds g w H fr act → loopN body l n fr H = some s → ∀ Q, EPost nt ds g w H Q s → (∀ h : s.1 = .normal, False) → Code.roundsIn (WF ro) 0 P x Q n act w := by
  intro n
  induction n with
  | zero => intro fr H s g w act S h; cases h
  | succ n ih =>
    intro fr H s g w act S h Q hQ hne
    simp only [loopN] at h
    obtain ⟨s1, h1, h⟩ := bO.1 h
    rw [roundsIn_succ]
    refine hb _ _ s1 g w act (S.keep l) h1 _ ?_
    obtain ⟨e, fr1, H1⟩ := s1
    cases e with
    | normal => exact fun g' w' act' st S' => ih fr1 H1 s g' w' act' S' h Q (hQ.step st) hne
    | exit id => simp only [sI] at h; subst h; exact hQ
    | ret => simp only [sI] at h; subst h; exact hQ
    | pan a => simp only [sI] at h; subst h; exact hQ
theorem loop_ne {body : Fr → List AO → Option Ai.S} {l : List Nat} : ∀ (n : Nat) (fr : Fr) (H : List AO) (s : Ai.S), loopN body l n fr H = some s → s.1 = .normal → False := by
  intro n
  induction n with
  | zero => intro fr H s h; cases h
  | succ n ih =>
    intro fr H s h hs
    simp only [loopN] at h
    obtain ⟨s1, h1, h⟩ := bO.1 h
    obtain ⟨e, fr1, H1⟩ := s1
    cases e with
    | normal => exact ih _ _ _ h hs
    | exit id => simp only [sI] at h; subst h; cases hs
    | ret => simp only [sI] at h; subst h; cases hs
    | pan a => simp only [sI] at h; subst h; cases hs
theorem code_ok {ro : Option Nat} {A : Ann} {k : Nat} (fol : P.follows .mixedOrders = true) (CO : CallOk P call) (MT : MtOk P mt) : ∀ (x : Code) (b : Nat) (c : C), comp P A nt b x = some c →
    ∀ (fr : Fr) (H : List AO) (s : Ai.S) (g : G) (w : World) (act : Act), Sit nt ds g w H fr act → code call mt md k c fr H = some s → ∀ Q, EPost nt ds g w H Q s → x.wpIn (WF ro) 0 P Q act w := by
  intro x
  induction x with
  | skip =>
    intro b c hc fr H s g w act S h Q hQ
    simp only [comp, sI] at hc; subst hc
    simp only [code, sI] at h; subst h
    exact wpIn_skip (hQ g w act Stp.refl S)
  | region id ops draw =>
    intro b c hc fr H s g w act S h Q hQ
    simp only [comp] at hc
    obtain ⟨l, hl, hc⟩ := bO.1 hc
    cases draw with
    | false =>
      simp only [sI] at hc; subst hc
      simp only [code] at h
      obtain ⟨s1, h1, h⟩ := bO.1 h
      refine wpIn_region_list (run_ok CO MT ops.toList l fr H s1 g w act hl S h1 ?_)
      cases s1 with
      | go fr1 H1 => simp only [sI] at h; subst h; exact fun g' w' act' st S' => hQ g' w' act' st (S'.keep _)
      | pan a fr1 H1 => simp only [sI] at h; subst h; exact hQ
    | true =>
      simp only at hc
      by_cases hd : drawOk P ops (A.head id) (A.late id) (A.early id) = true
      case neg => rw [if_neg hd] at hc; cases hc
      rw [if_pos hd] at hc
      simp only [sI] at hc; subst hc
      simp only [code] at h
      obtain ⟨⟨fr1, obs⟩, h1, h⟩ := bO.1 h
      obtain ⟨s1, h2, h⟩ := bO.1 h
      refine draw_ok fol CO MT hl hd S h1 h2 Q ?_
      cases s1 with
      | go fr1 H1 => simp only [sI] at h; subst h; exact fun g' w' act' st S' => hQ g' w' act' st (S'.keep _)
      | pan a fr1 H1 =>
        simp only [sI, List.take_append_drop] at h; subst h; exact hQ
  | seq x y ihx ihy =>
    intro b c hc fr H s g w act S h Q hQ
    simp only [comp] at hc
    obtain ⟨c1, h1, hc⟩ := bO.1 hc
    obtain ⟨c2, h2, hc⟩ := bO.1 hc
    simp only [sI] at hc; subst hc
    simp only [code] at h
    obtain ⟨s1, h3, h⟩ := bO.1 h
    refine wpIn_seq (ihx b c1 h1 fr H s1 g w act S h3 _ ?_)
    obtain ⟨e, fr1, H1⟩ := s1
    cases e with
    | normal => exact fun g' w' act' st S' => ihy b c2 h2 fr1 H1 s g' w' act' S' h Q (hQ.step st)
    | exit id => simp only [sI] at h; subst h; exact hQ
    | ret => simp only [sI] at h; subst h; exact hQ
    | pan a => simp only [sI] at h; subst h; exact hQ
  | cond o x y ihx ihy =>
    intro b c hc fr H s g w act S h Q hQ
    simp only [comp] at hc
    obtain ⟨c1, h1, hc⟩ := bO.1 hc
    obtain ⟨c2, h2, hc⟩ := bO.1 hc
    simp only [sI] at hc; subst hc
    simp only [code] at h
    obtain ⟨t, h3, h⟩ := bO.1 h
    have hv := ev_vr S.fr o
    rw [asBool_inv h3] at hv
    have hv := hv.lit_inv
    cases t with
    | true =>
      simp only [cond_true] at h
      exact wpIn_cond hv (by simpa using ihx b c1 h1 fr H s g w act S h Q hQ)
    | false =>
      simp only [cond_false] at h
      exact wpIn_cond hv (by simpa using ihy b c2 h2 fr H s g w act S h Q hQ)
  | block id x ih =>
    intro b c hc fr H s g w act S h Q hQ
    simp only [comp] at hc
    obtain ⟨c1, h1, hc⟩ := bO.1 hc
    simp only [sI] at hc; subst hc
    simp only [code] at h
    obtain ⟨s1, h3, h⟩ := bO.1 h
    refine wpIn_block (ih id c1 h1 fr H s1 g w act S h3 _ ?_)
    obtain ⟨e, fr1, H1⟩ := s1
    cases e with
    | normal => simp only [sI] at h; subst h; exact hQ
    | exit id' =>
      simp only at h
      cases hb : id' == id with
      | true =>
        rw [hb] at h
        simp only [cond_true, sI] at h; subst h
        have : id' = id := by simpa using hb
        subst this
        intro g' w' act' st S'
        simp only [Exit.inBlock, if_true]
        exact hQ g' w' act' st S'
      | false =>
        rw [hb] at h
        simp only [cond_false, sI] at h; subst h
        have : ¬ id' = id := by simpa using hb
        intro g' w' act' st S'
        simp only [Exit.inBlock, if_neg this]
        exact hQ g' w' act' st S'
    | ret => simp only [sI] at h; subst h; exact hQ
    | pan a => simp only [sI] at h; subst h; exact hQ
  | loop x ih =>
    intro b c hc fr H s g w act S h Q hQ
    simp only [comp] at hc
    obtain ⟨c1, h1, hc⟩ := bO.1 hc
    simp only [sI] at hc; subst hc
    simp only [code] at h
    exact wpIn_loop_rounds k (loop_ok (fun fr H s g w act S hs Q hQ => ih b c1 h1 fr H s g w act S hs Q hQ) k fr H s g w act S h Q hQ (loop_ne k fr H s h))
  | exit id =>
    intro b c hc fr H s g w act S h Q hQ
    simp only [comp, sI] at hc; subst hc
    simp only [code, sI] at h; subst h
    exact wpIn_exit (hQ g w act Stp.refl S)
  | ret =>
    intro b c hc fr H s g w act S h Q hQ
    simp only [comp, sI] at hc; subst hc
    simp only [code, sI] at h; subst h
    exact wpIn_ret (hQ g w act Stp.refl S)
  | _ => intro b c hc; simp [comp] at hc
end
end Go.Ai
namespace Go.Ai
def OneOk (P : Program) (f : FuncId) (G : List AV → List AO → Option (R × List AO)) : Prop :=
  ∀ args H r H', G args H = some (r, H') → ∀ (w : World) (g : Ai.G) (vs : Array Value), Rel g w H → VRs g w args vs.toList →
    FOk P f vs w fun e w' => ∃ g', Rel g' w' H' ∧ Stp g w H g' w' H' ∧ ERel g' w' r e
structure Linked (P : Program) (T : FuncId → Option F) (ov : Ov) (mt : MtF) : Prop where
  fol : P.follows .mixedOrders = true
  mt : MtOk P mt
  tab : ∀ f F, T f = some F → ∃ fn A, P.funcs[f]? = some fn ∧ compF P A fn = some F
  ov : ∀ f G, ov f = some G → OneOk P f G
section
variable {P : Program} {g : G} {w : World} {H : List AO}
theorem get_init (t : Nat) : ∀ (args : List AV) (n : Nat), get (initFr n args) (n + t) = args.getD t .any
  | [], n => by simp [initFr, get]
  | a :: r, n => by
    simp only [initFr, get]
    cases t with
    | zero => simp
    | succ t =>
      have : ¬ n = n + (t + 1) := by omega
      rw [beq_of_ne this]
      simp only [cond_false]
      have := get_init t r (n + 1)
      rw [show n + 1 + t = n + (t + 1) by omega] at this
      rw [this]; simp
theorem cell_run {t : TypeId} {n : Option Nat} {x r : AV} {u : Value} (R : Rel g w H) (hn : nOf P t = some n) (hx : VR g w x u) (h : load H n x = some r) : ∃ v, (do loadVar t (← asAddr u) : Sem Value).run P w = .ok v w ∧ VR g w r v := by
  obtain ⟨z, hz1, hz2⟩ := load_run R hn hx h
  have : ∃ a, u = .pointer (some a) := by
    unfold load at h
    split at h
    · exact ⟨_, hx.ptr_inv.1⟩
    · obtain ⟨ad, f, e, _⟩ := hx.ip_inv; exact ⟨ad, e⟩
    · cases h
  obtain ⟨a, rfl⟩ := this
  refine ⟨z, ?_, hz2⟩
  simpa [Instr.loadAt, Instr.sureAddr, asAddr] using hz1
theorem results_run (fn : Func) (act : Act) {fr : Fr} (R : Rel g w H) (S : FRel g w fr act) {rs : List RV} {r : AV} (h1 : fn.results.toList.mapM (compRV P) = some rs) (h2 : res fr H rs = some r) :
    ∃ v, (results fn act.tmps).run P w = .ok v w ∧ VR g w r v := by
  unfold res at h2
  obtain ⟨l, hl, h2⟩ := bO.1 h2
  have key : ∀ (q : ResultVar → Sem Value), (∀ t, q (.tmp t) = pure (act.tmps.getD t undef)) → (∀ a t, q (.cell a t) = (do loadVar t (← asAddr (act.tmps.getD a undef)))) → ∀ (rv : List ResultVar) (rs : List RV) (l : List AV), rv.mapM (compRV P) = some rs → resL fr H rs = some l →
      ∃ vs, (List.mapM q rv).run P w = .ok vs w ∧ VRs g w l vs := by
    intro q hq hq2 rv
    induction rv with
    | nil =>
      intro rs l h3 h4
      simp only [List.mapM_nil, Option.pure_def, sI] at h3; subst h3
      simp only [resL, sI] at h4; subst h4
      exact ⟨[], by simp, VRs.nil⟩
    | cons x rv ih =>
      intro rs l h3 h4
      rw [List.mapM_cons] at h3
      obtain ⟨y, k1, h3⟩ := bO.1 h3
      obtain ⟨ys, k2, h3⟩ := bO.1 h3
      simp only [Option.pure_def, sI] at h3; subst h3
      simp only [resL] at h4
      obtain ⟨a, k3, h4⟩ := bO.1 h4
      obtain ⟨as, k4, h4⟩ := bO.1 h4
      simp only [sI] at h4; subst h4
      obtain ⟨vs, k5, k6⟩ := ih ys as k2 k4
      cases x with
      | cell a0 t =>
        simp only [compRV] at k1
        obtain ⟨n, hn, k1⟩ := bO.1 k1
        simp only [sI] at k1; subst k1
        simp only [resV] at k3
        obtain ⟨v, v1, v2⟩ := cell_run R hn (S a0) k3
        refine ⟨v :: vs, ?_, VRs.cons v2 k6⟩
        rw [List.mapM_cons, Sem.run_bind, hq2, v1, Result.andThen_ok, Sem.run_bind, k5, Result.andThen_ok, Sem.run_pure]
      | tmp t =>
        simp only [compRV, sI] at k1; subst k1
        simp only [resV, sI] at k3; subst k3
        refine ⟨act.tmps.getD t undef :: vs, ?_, VRs.cons (S t) k6⟩
        rw [List.mapM_cons, Sem.run_bind, hq, Sem.run_pure, Result.andThen_ok, Sem.run_bind, k5, Result.andThen_ok, Sem.run_pure]
  have e : ∀ (q : ResultVar → Sem Value), (∀ t, q (.tmp t) = pure (act.tmps.getD t undef)) → (∀ a t, q (.cell a t) = (do loadVar t (← asAddr (act.tmps.getD a undef)))) → ∃ vs, (do let vs ← fn.results.mapM q; pure (if h : vs.size = 1 then vs[0] else Value.tuple vs) : Sem Value).run P w = .ok (if h : vs.toArray.size = 1 then vs.toArray[0] else .tuple vs.toArray) w ∧ VRs g w l vs := by
    intro q hq hq2
    obtain ⟨vs, k1, k2⟩ := key q hq hq2 _ _ _ h1 hl
    refine ⟨vs, ?_, k2⟩
    have : fn.results = fn.results.toList.toArray := by simp
    rw [this, List.mapM_toArray, Sem.run_bind, map_eq_pure_bind, Sem.run_bind, k1]
    simp
  have e' : ∃ vs, (results fn act.tmps).run P w = .ok (if h : vs.toArray.size = 1 then vs.toArray[0] else .tuple vs.toArray) w ∧ VRs g w l vs := by
    unfold results
    exact e _ (fun t => rfl) (fun a t => rfl)
  obtain ⟨vs, k1, k2⟩ := e'
  rw [k1]
  refine ⟨_, rfl, ?_⟩
  obtain ⟨n1, n2⟩ := k2
  split at h2
  · rename_i a
    simp only [sI] at h2; subst h2
    simp only [List.length_cons, List.length_nil] at n1
    have : vs.toArray.size = 1 := by simp [← n1]
    rw [dif_pos this]
    refine n2 0 _ _ rfl ?_
    have hv : 0 < vs.length := by omega
    rw [List.getElem?_eq_getElem hv]
    simp
  · rename_i hne
    simp only [sI] at h2; subst h2
    have : ¬ vs.toArray.size = 1 := by
      intro e
      simp only [List.size_toArray] at e
      have : ∃ a, l = [a] := by
        match l, n1.trans e with
        | [a], _ => exact ⟨a, rfl⟩
      obtain ⟨a, ha⟩ := this
      exact hne a ha
    rw [dif_neg this]
    exact .tup _ _ (by simpa using n1) (by simpa using n2)
theorem enters {f : FuncId} {fn : Func} {c : Code} (hf : P.funcs[f]? = some fn) (hname : (fn.name == "runtime.NumGoroutine") = false) (hb : fn.body = some c) (args : Array Value) (w : World) :
    (callFunc f args).run P w = .ok (.enter f args) w := by
  have h1 : fn.name ≠ "runtime.NumGoroutine" := by simpa using hname
  simp [callFunc, hf, h1, hb]
theorem call_sound {T : FuncId → Option F} {ov : Ov} {mt : MtF} {md : FuncId → Md} (L : Linked P T ov mt) : ∀ k, CallOk P (call T ov mt md k)
  | 0 => by intro f args H r H' h; cases h
  | k + 1 => by
    have IH := call_sound (md := md) L k
    intro f args H r H' h w g vs R V
    simp only [call] at h
    cases ho : ov f with
    | some G => rw [ho] at h; exact L.ov f G ho args H r H' h w g vs R V
    | none =>
      rw [ho] at h
      simp only at h
      obtain ⟨F, hT, h⟩ := bO.1 h
      obtain ⟨fn, A, hfn, hF⟩ := L.tab f F hT
      unfold compF at hF
      obtain ⟨c0, hb, hF⟩ := bO.1 hF
      obtain ⟨c, hc, hF⟩ := bO.1 hF
      obtain ⟨rs, hr, hF⟩ := bO.1 hF
      by_cases hle : fn.params.size + fn.nfree ≤ fn.ntmps ∧ (fn.name == "runtime.NumGoroutine") = false
      case neg => rw [if_neg hle] at hF; cases hF
      rw [if_pos hle] at hF
      simp only [sI] at hF; subst hF
      cases hl : args.length == fn.params.size + fn.nfree with
      | false => simp only [hl] at h; cases h
      | true =>
        simp only [hl, cond_true] at h
        have hl : args.length = fn.params.size + fn.nfree := by simpa using hl
        obtain ⟨s, hs, h⟩ := bO.1 h
        refine .inl ⟨enters hfn hle.2 hb vs w, calls_of_wp hfn hb ?_⟩
        have hvs : vs.size = args.length := by have := V.1; simp at this; omega
        have S : Sit fn.ntmps [] g w H (initFr 0 args) { tmps := vs ++ Array.replicate (fn.ntmps - vs.size) undef, defers := [] } := by
          refine ⟨R, fun t => ?_, by simp; omega, rfl⟩
          have := get_init t args 0
          rw [Nat.zero_add] at this
          rw [this]
          by_cases ht : t < args.length
          · rw [List.getD_eq_getElem?_getD, List.getElem?_eq_getElem ht, Option.getD_some]
            refine V.2 t _ _ (List.getElem?_eq_getElem ht) ?_
            rw [Array.getD_eq_getD_getElem?, Array.getElem?_append_left (by omega), Array.getElem?_eq_getElem (by omega), Option.getD_some, Array.getElem?_toList, Array.getElem?_eq_getElem (by omega)]
          · rw [List.getD_eq_getElem?_getD, List.getElem?_eq_none (by omega)]
            exact .fv _ _ (.any _)
        refine wpIn_wide.1 (code_ok (ro := none) L.fol IH L.mt c0 0 c hc _ H s g w _ S hs _ ?_)
        obtain ⟨e, fr1, H1⟩ := s
        cases e with
        | normal =>
          simp only at h
          obtain ⟨a, ha, h⟩ := bO.1 h
          simp only [sI, Prod.mk.injEq] at h
          obtain ⟨rfl, rfl⟩ := h
          intro g' w' act' st S'
          obtain ⟨v, hv1, hv2⟩ := results_run fn act' S'.rel S'.fr hr ha
          exact ⟨S'.defers, v, hv1, g', S'.rel, st, v, rfl, hv2⟩
        | ret =>
          simp only at h
          obtain ⟨a, ha, h⟩ := bO.1 h
          simp only [sI, Prod.mk.injEq] at h
          obtain ⟨rfl, rfl⟩ := h
          intro g' w' act' st S'
          obtain ⟨v, hv1, hv2⟩ := results_run fn act' S'.rel S'.fr hr ha
          exact ⟨S'.defers, v, hv1, g', S'.rel, st, v, rfl, hv2⟩
        | pan a =>
          simp only [sI, Prod.mk.injEq] at h
          obtain ⟨rfl, rfl⟩ := h
          intro g' w' act' v st S' hv
          exact ⟨S'.defers, g', S'.rel, st, v, rfl, hv⟩
        | exit id => cases h
end
end Go.Ai
namespace Go.Ai
open Go.ChangeShapes Go.WideShapes Go.Deep
inductive Ty where
  | int (k : IntKind)
  | bool
  | str
  | sl (e : Ty)
  | unit
  | cons (a b : Ty)
def Ty.n : Ty → Nat
  | .int _ | .bool | .str | .sl _ => 1
  | .unit => 0
  | .cons a b => a.n + b.n
def Ty.Sh : Ty → List AV → Prop
  | .int k, as => ∃ n, as = [litI k n] ∧ (Lit.int k n).wf = true
  | .bool, as => ∃ b, as = [litB b]
  | .str, as => ∃ s, as = [litS s] ∧ s.size ≤ maxLen
  | .sl e, as => ∃ xs, as = [.sl e.n xs none] ∧ ∀ x ∈ xs, e.Sh x
  | .unit, as => as = []
  | .cons a b, as => ∃ x y, as = x ++ y ∧ a.Sh x ∧ b.Sh y
def Ty.rep (a : Ty) : Nat → Ty
  | 0 => .unit
  | n + 1 => .cons a (Ty.rep a n)
theorem Ty.Sh.len : ∀ {τ : Ty} {as : List AV}, τ.Sh as → as.length = τ.n
  | .int k, as, ⟨n, h, _⟩ => by subst h; rfl
  | .bool, as, ⟨n, h⟩ => by subst h; rfl
  | .str, as, ⟨n, h, _⟩ => by subst h; rfl
  | .sl e, as, ⟨n, h, _⟩ => by subst h; rfl
  | .unit, as, h => by cases h; rfl
  | .cons a b, as, ⟨x, y, h, h1, h2⟩ => by subst h; rw [List.length_append, h1.len, h2.len]; rfl
section
variable {H : Type} {enc : TypeId × Value → H} {P : Program} {w : World} {base : Nat} {spare : Nat → Bool} {held : Bool}
theorem cell_lt {a : Addr} {v : Value} (h : w.cell? a = some v) : a.block < w.heap.size := by
  unfold World.cell? at h
  cases hh : w.heap[a.block]? with
  | none => rw [hh] at h; cases h
  | some o => exact (Array.getElem?_eq_some_iff.1 hh).1
theorem FVs.one {S : Nat → Prop} {a : AV} {v : Value} (h : FV S w a v) : FVs S w [a] [v] := by
  refine ⟨rfl, fun i x u hx hu => ?_⟩
  cases i with
  | zero => simp only [List.getElem?_cons_zero, sI] at hx hu; subst hx; subst hu; exact h
  | succ i => simp at hx
theorem FVs.append' {S : Nat → Prop} {xs ys : List AV} {vs us : List Value} (h : FVs S w xs vs) (k : FVs S w ys us) : FVs S w (xs ++ ys) (vs ++ us) := by
  refine ⟨by simp [h.1, k.1], fun i a v ha hv => ?_⟩
  by_cases hi : i < xs.length
  · rw [List.getElem?_append_left hi] at ha
    rw [List.getElem?_append_left (by rw [← h.1]; exact hi)] at hv
    exact h.2 i a v ha hv
  · rw [List.getElem?_append_right (by omega)] at ha
    rw [List.getElem?_append_right (by rw [← h.1]; omega), ← h.1] at hv
    exact k.2 _ a v ha hv
end
end Go.Ai
namespace Go.Ai
open Go.ChangeShapes Go.WideShapes Go.ChangeAt Go.RowKit
theorem law_calls {P : Program} {T : FuncId → Option F} {ov : Ov} {mt : MtF} {md : FuncId → Md} (L : Linked P T ov mt) {f : FuncId} {FF : F} (hT : T f = some FF) {k : Nat} {as : List AV} {H' : List AO}
    (h : call T ov mt md k f as [] = some (.ret (litB true), H')) {W : World} {args : Array Value} (V : FVs (fun b => b < W.heap.size) W as args.toList) :
    Calls P f args W fun e W' => e = .returned (.bool true) ∧ Below W.heap.size W W' := by
  let g : G := ⟨fun b => b < W.heap.size, fun _ => False, fun _ => 0, fun _ => 0, fun _ => 0⟩
  have R : Rel g W [] := ⟨fun b h => h, fun r cs t h => by simp at h, fun r kvs h => by simp at h, fun r r' h => (noLive h).elim, fun r h => h.elim, fun r h => (noLive h).elim⟩
  have V' : VRs g W as args.toList := ⟨V.1, fun i a v ha hv => .fv _ _ (V.2 i a v ha hv)⟩
  obtain ⟨fn, A, hfn, hF⟩ := L.tab f FF hT
  unfold compF at hF
  obtain ⟨c0, hb, hF⟩ := bO.1 hF
  obtain ⟨c, hc, hF⟩ := bO.1 hF
  obtain ⟨rs, hr, hF⟩ := bO.1 hF
  by_cases hle : fn.params.size + fn.nfree ≤ fn.ntmps ∧ (fn.name == "runtime.NumGoroutine") = false
  case neg => rw [if_neg hle] at hF; cases hF
  have en := enters hfn hle.2 hb args W
  rcases call_sound L k f as [] _ H' h W g args R V' with ⟨_, h2⟩ | ⟨v, w', h1, _⟩
  · refine h2.mono fun e W' ⟨g', _, st, v, he, hv⟩ => ?_
    have := hv.lit_inv
    subst this
    exact ⟨he, st.os, st.tape, st.output, st.size, fun b hb => st.keep b hb fun r hr => (noLive hr).elim⟩
  · rw [en] at h1; cases h1
section
variable {H : Type} {enc : TypeId × Value → H} {P : Program}
theorem trodAll_len {W : World} {sp : Nat → Bool} : ∀ {ts : List TypeId} {vs : List Value} {ds : List (DataW H)} {ps : List MemPlace}, DataW.TrodAll enc P W 0 sp true ts vs ds ps → ds.length = ts.length
  | [], [], [], _, _ => rfl
  | _ :: _, _ :: _, _ :: _, _, ⟨_, _, _, h, _⟩ => by simp [trodAll_len h]
  | [], _ :: _, _, _, h => h.elim
  | [], [], _ :: _, _, h => h.elim
  | _ :: _, [], _, _, h => h.elim
  | _ :: _, _ :: _, [], _, h => h.elim
theorem trodAll_back (hl : laidOutB P = true) {W W' : World} (hb : Below W.heap.size W W') : ∀ {ts : List TypeId} {vs : List Value} {ds : List (DataW H)} {ps : List MemPlace}, (∀ t ∈ ts, P.readableRec t = true ∧ t < P.types.size) →
    DataW.TrodAll enc P W 0 (fun _ => true) true ts vs ds ps → DataW.TrodAll enc P W' 0 (fun b => decide (b < W.heap.size)) true ts vs ds ps
  | [], [], [], _, _, h => h
  | t :: ts, v :: vs, d :: ds, _, ht, ⟨p, q, h1, h2, e⟩ => by
    refine ⟨p, q, ?_, trodAll_back hl hb (fun t h => ht t (List.mem_cons_of_mem _ h)) h2, e⟩
    have lt : ∀ x ∈ p, x.block < W.heap.size := by
      obtain ⟨m, hm⟩ := h1
      exact DataW.trod_lt m _ _ _ hm
    exact Below.trod hl (ht t (List.mem_cons_self ..)).1 (ht t (List.mem_cons_self ..)).2 h1 hb lt
  | [], _ :: _, _, _, _, h => h.elim
  | [], [], _ :: _, _, _, h => h.elim
  | _ :: _, [], _, _, _, h => h.elim
  | _ :: _, _ :: _, [], _, _, h => h.elim
end
end Go.Ai
namespace Go.Ai
def bs (l : List Nat) : ByteArray := ⟨(l.map UInt8.ofNat).toArray⟩
def lookL : List (Nat × List Nat) → Nat → List Nat
  | [], _ => []
  | (k, l) :: r, n => bif k == n then l else lookL r n
def lookN : List (Nat × Nat) → Nat → Nat
  | [], _ => 0
  | (k, l) :: r, n => bif k == n then l else lookN r n
def ann (r l : List (Nat × List Nat)) (ow : List Nat) (h : List (Nat × Nat)) (lt : List (Nat × List Nat) := []) (et : List (Nat × List Nat) := []) (pt : List (Nat × List Nat) := []) : Ann := ⟨lookL r, lookL l, ow, lookN h, lookL lt, lookL et, lookL pt⟩
def lookF : List (Nat × F) → FuncId → Option F
  | [], _ => none
  | (k, F) :: r, f => bif k == f then some F else lookF r f
theorem lookF_mem : ∀ {l : List (Nat × F)} {f : FuncId} {F : F}, lookF l f = some F → (f, F) ∈ l
  | [], f, F, h => by cases h
  | (k, G) :: r, f, F, h => by
    simp only [lookF] at h
    cases hk : k == f with
    | true =>
      rw [hk] at h
      simp only [cond_true, sI] at h
      have : k = f := by simpa using hk
      subst this; subst h
      exact List.mem_cons_self ..
    | false =>
      rw [hk] at h
      exact List.mem_cons_of_mem _ (lookF_mem h)
def TabOk (P : Program) (l : List (Nat × F)) : Prop := ∀ p ∈ l, ∃ fn A, P.funcs[p.1]? = some fn ∧ compF P A fn = some p.2
theorem TabOk.nil {P : Program} : TabOk P [] := fun p h => by cases h
theorem TabOk.cons {P : Program} {l : List (Nat × F)} {i : Nat} {fn : Func} {A : Ann} {FF : F} (hf : P.funcs[i]? = some fn) (hc : compF P A fn = some FF) (h : TabOk P l) : TabOk P ((i, FF) :: l) := by
  intro p hp
  rcases List.mem_cons.1 hp with rfl | hp
  · exact ⟨fn, A, hf, hc⟩
  · exact h p hp
def mdOf (refs owns : List Nat) : FuncId → Md := fun f => bif refs.contains f then .ref else bif owns.contains f then .own else .pure
def lookM : List (TypeId × String × FuncId × Option (Option Nat)) → TypeId → String → Option (FuncId × Option (Option Nat))
  | [], _, _ => none
  | (t, n, f, d) :: r, u, m => bif (t == u && n == m) then some (f, d) else lookM r u m
end Go.Ai
namespace Go.Ai
noncomputable def Lim {α : Type} (p : Nat → Option α) : Option α :=
  open Classical in if h : ∃ k, (p k).isSome = true then p (Classical.choose h) else none
theorem Lim_some {α : Type} {p : Nat → Option α} (mono : ∀ k k' r, k ≤ k' → p k = some r → p k' = some r) {r : α} : Lim p = some r ↔ ∃ k, p k = some r := by
  unfold Lim
  constructor
  · intro h
    split at h
    · exact ⟨_, h⟩
    · cases h
  · rintro ⟨k, hk⟩
    have hx : ∃ k, (p k).isSome = true := ⟨k, by rw [hk]; rfl⟩
    rw [dif_pos hx]
    obtain ⟨r', hr'⟩ := Option.isSome_iff_exists.1 (Classical.choose_spec hx)
    have h1 := mono _ (max k (Classical.choose hx)) _ (Nat.le_max_right _ _) hr'
    have h2 := mono _ (max k (Classical.choose hx)) _ (Nat.le_max_left _ _) hk
    rw [h1] at h2
    rw [hr', h2]
def Le (c c' : FuncId → List AV → List AO → Option (R × List AO)) : Prop := ∀ f a H r, c f a H = some r → c' f a H = some r
section
variable {mt : MtF} {md : FuncId → Md} {c c' : CallF}
theorem bind_mono {α β : Type} {x y : Option α} {f g : α → Option β} {r : β} (hx : ∀ a, x = some a → y = some a) (hf : ∀ a, f a = some r → g a = some r) (h : x.bind f = some r) : y.bind g = some r := by
  obtain ⟨a, h1, h2⟩ := bO.1 h
  rw [hx a h1]; exact hf a h2
theorem callV_mono (hc : Le c c') {f : FuncId} {args : List AV} {H : List AO} {id : Nat} {o : Out} (h : callV c md f args H id = some o) : callV c' md f args H id = some o := by
  unfold callV at h ⊢
  cases hm : md f with
  | ref => rw [hm] at h; exact bind_mono (fun a => hc _ _ _ _) (fun _ h => h) h
  | pure => rw [hm] at h; exact bind_mono (fun _ h => h) (fun p h => bind_mono (fun a => hc _ _ _ _) (fun _ h => h) h) h
  | own => rw [hm] at h; exact bind_mono (fun _ h => h) (fun p h => bind_mono (fun a => hc _ _ _ _) (fun _ h => h) h) h
theorem core_mono (hc : Le c c') {i : I} {H : List AO} {id : Nat} {fr : Fr} {o : Out} (h : core c mt md H id i fr = some o) : core c' mt md H id i fr = some o := by
  cases i with
  | call f args =>
    simp only [core] at h ⊢
    split at h
    · exact callV_mono hc h
    · cases h
  | inv recv name args =>
    simp only [core] at h ⊢
    split at h
    · refine bind_mono (fun _ h => h) (fun p h => ?_) h
      cases hp : p.2 with
      | none => rw [hp] at h; exact callV_mono hc h
      | some n => rw [hp] at h; exact bind_mono (fun _ h => h) (fun u h => callV_mono hc h) h
    · cases h
  | _ => exact h
theorem step_mono (hc : Le c c') {o : O} {fr : Fr} {H : List AO} {s : SR} (h : step c mt md o fr H = some s) : step c' mt md o fr H = some s :=
  bind_mono (fun _ h => core_mono hc h) (fun _ h => h) h
theorem stepT_mono (hc : Le c c') {o : O} {fr : Fr} {H : List AO} {s : SR} (h : stepT c mt md o fr H = some s) : stepT c' mt md o fr H = some s :=
  bind_mono (fun _ h => core_mono hc h) (fun _ h => h) h
theorem run_mono (hc : Le c c') : ∀ {l : List O} {fr : Fr} {H : List AO} {s : SR}, run c mt md l fr H = some s → run c' mt md l fr H = some s
  | [], _, _, _, h => h
  | o :: l, fr, H, s, h => by
    simp only [run] at h ⊢
    refine bind_mono (fun _ h => h) (fun b h => ?_) h
    cases b with
    | false => exact run_mono hc h
    | true =>
      refine bind_mono (fun _ h => step_mono hc h) (fun x h => ?_) h
      cases x with
      | go fr H => exact run_mono hc h
      | pan a fr H => exact h
theorem LateOk.mono (hc : Le c c') {fr : Fr} {H : List AO} {late : List O} (h : LateOk c mt md fr H late) : LateOk c' mt md fr H late := fun o ho => (h o ho).imp_right fun ⟨h1, h2⟩ => ⟨h1, core_mono hc h2⟩
theorem lateS_of {c : CallF} {α : Type} {fr : Fr} {H : List AO} {k : Option α} : ∀ {late : List O}, LateOk c mt md fr H late → lateS c mt md fr H late k = k
  | [], _ => rfl
  | o :: r, h => by
    have hr := lateS_of (k := k) (late := r) fun o ho => h o (List.mem_cons_of_mem _ ho)
    rcases h o (List.mem_cons_self ..) with h1 | ⟨h1, h2⟩
    · simp only [lateS, h1, Option.bind_some]; exact hr
    · simp only [lateS, h1, Option.bind_some]
      unfold lS
      rw [if_pos h2]; exact hr
def EaOk (c : CallF) (mt : MtF) (md : FuncId → Md) (i : I) (fr : Fr) (x : Option Out) (Hs : List (List AO)) : Prop := ∀ H ∈ Hs, core c mt md H H.length i fr = x
theorem EaOk.mono (hc : Le c c') {i : I} {fr : Fr} {out : Out} {Hs : List (List AO)} (h : EaOk c mt md i fr (some out) Hs) : EaOk c' mt md i fr (some out) Hs := fun H hH => core_mono hc (h H hH)
theorem eaS_of {c : CallF} {α : Type} {i : I} {fr : Fr} {x : Option Out} {k : Option α} : ∀ {Hs : List (List AO)}, EaOk c mt md i fr x Hs → eaS c mt md i fr x Hs k = k
  | [], _ => rfl
  | H :: r, h => by
    simp only [eaS]
    rw [if_pos (h H (List.mem_cons_self ..))]
    exact eaS_of fun H' hH => h H' (List.mem_cons_of_mem _ hH)
theorem stepT_core {c : CallF} {o : O} {fr : Fr} {H : List AO} {s : SR} (h : stepT c mt md o fr H = some s) : ∃ out, core c mt md H H.length o.i fr = some out := by
  unfold stepT at h
  obtain ⟨out, h1, _⟩ := bO.1 h
  exact ⟨out, h1⟩
theorem runT_mono (hc : Le c c') {early : List Nat} : ∀ {late : List (List O)} {Hs : List (List AO)} {l : List O} {fr : Fr} {H : List AO} {s : SR}, runT c mt md late early Hs l fr H = some s → runT c' mt md late early Hs l fr H = some s
  | _, _, [], _, _, _, h => by
    simp only [runT] at h ⊢
    obtain ⟨hL, h⟩ := lateS_some h
    rw [lateS_of (hL.mono hc)]; exact h
  | late, Hs, o :: l, fr, H, s, h => by
    simp only [runT] at h ⊢
    obtain ⟨hL, h⟩ := lateS_some h
    rw [lateS_of (hL.mono hc)]
    refine bind_mono (fun _ h => h) (fun b h => ?_) h
    cases b with
    | false => exact runT_mono hc h
    | true =>
      simp only at h ⊢
      obtain ⟨hE, h⟩ := eaS_some h
      obtain ⟨x, h1, _⟩ := bO.1 h
      obtain ⟨out, ho⟩ := stepT_core h1
      rw [ho] at hE
      rw [core_mono hc ho, eaS_of (EaOk.mono hc hE)]
      refine bind_mono (fun _ h => stepT_mono hc h) (fun x h => ?_) h
      cases x with
      | go fr H => exact runT_mono hc h
      | pan a fr H => exact h
theorem runD_mono (hc : Le c c') {H : List AO} {base : Nat} : ∀ {l : List O} {n : Nat} {fr : Fr} {s : Fr × List AO}, runD c mt md H base n l fr = some s → runD c' mt md H base n l fr = some s
  | [], _, _, _, h => h
  | o :: l, n, fr, s, h => by
    simp only [runD] at h ⊢
    refine bind_mono (fun _ h => h) (fun b h => ?_) h
    cases b with
    | false => exact bind_mono (fun _ h => runD_mono hc h) (fun _ h => h) h
    | true =>
      refine bind_mono (fun _ h => core_mono hc h) (fun x h => ?_) h
      cases x with
      | val a o => cases o <;> exact bind_mono (fun _ h => runD_mono hc h) (fun _ h => h) h
      | _ => cases h
theorem loop_mono {b b' : Fr → List AO → Option S} {l : List Nat} (hb : ∀ fr H s, b fr H = some s → b' fr H = some s) : ∀ {n n' : Nat} {fr : Fr} {H : List AO} {s : S}, n ≤ n' → loopN b l n fr H = some s → loopN b' l n' fr H = some s
  | 0, _, _, _, _, _, h => by cases h
  | n + 1, 0, _, _, _, hn, h => by omega
  | n + 1, n' + 1, fr, H, s, hn, h => by
    simp only [loopN] at h ⊢
    refine bind_mono (fun _ h => hb _ _ _ h) (fun x h => ?_) h
    obtain ⟨e, fr1, H1⟩ := x
    cases e with
    | normal => exact loop_mono hb (by omega) h
    | _ => exact h
theorem code_mono (hc : Le c c') {k k' : Nat} (hk : k ≤ k') : ∀ {x : C} {fr : Fr} {H : List AO} {s : S}, code c mt md k x fr H = some s → code c' mt md k' x fr H = some s
  | .skip, _, _, _, h => h
  | .reg ops l, fr, H, s, h => bind_mono (fun _ h => run_mono hc h) (fun _ h => h) h
  | .draw ops tail l late early, fr, H, s, h => bind_mono (fun _ h => runD_mono hc h) (fun _ h => bind_mono (fun _ h => runT_mono hc h) (fun _ h => h) h) h
  | .seq a b, fr, H, s, h => by
    simp only [code] at h ⊢
    refine bind_mono (fun _ h => code_mono hc hk h) (fun x h => ?_) h
    obtain ⟨e, fr1, H1⟩ := x
    cases e with
    | normal => exact code_mono hc hk h
    | _ => exact h
  | .cond x a b, fr, H, s, h => by
    simp only [code] at h ⊢
    refine bind_mono (fun _ h => h) (fun t h => ?_) h
    cases t with
    | true => exact code_mono hc hk h
    | false => exact code_mono hc hk h
  | .block id c, fr, H, s, h => by
    simp only [code] at h ⊢
    exact bind_mono (fun _ h => code_mono hc hk h) (fun _ h => h) h
  | .loop l c, fr, H, s, h => by
    simp only [code] at h ⊢
    exact loop_mono (fun _ _ _ h => code_mono hc hk h) hk h
  | .exit id, _, _, _, h => h
  | .ret, _, _, _, h => h
  | .bad, _, _, _, h => h
end
section
variable {T : FuncId → Option F} {ov : Ov} {mt : MtF} {md : FuncId → Md}
theorem call_le : ∀ k, Le (call T ov mt md k) (call T ov mt md (k + 1))
  | 0 => fun f a H r h => by cases h
  | k + 1 => fun f a H r h => by
    rw [call] at h ⊢
    cases ho : ov f with
    | some G => rw [ho] at h; exact h
    | none =>
      rw [ho] at h
      simp only at h ⊢
      refine bind_mono (fun _ h => h) (fun F h => ?_) h
      cases hl : (a.length == F.np) with
      | false => rw [hl] at h; cases h
      | true =>
        rw [hl] at h
        simp only [cond_true] at h ⊢
        exact bind_mono (fun _ h => code_mono (call_le k) (Nat.le_succ k) h) (fun _ h => h) h
theorem call_mono {k k' : Nat} (hk : k ≤ k') : Le (call T ov mt md k) (call T ov mt md k') := by
  induction hk with
  | refl => exact fun _ _ _ _ h => h
  | step _ ih => exact fun f a H r h => call_le _ _ _ _ _ (ih f a H r h)
noncomputable def callW (T : FuncId → Option F) (ov : Ov) (mt : MtF) (md : FuncId → Md) : CallF := fun f args H => Lim fun k => call T ov mt md k f args H
theorem callW_some {f : FuncId} {args : List AV} {H : List AO} {r : R × List AO} : callW T ov mt md f args H = some r ↔ ∃ k, call T ov mt md k f args H = some r :=
  Lim_some fun k k' r hk h => call_mono hk f args H r h
noncomputable def loopW (body : Fr → List AO → Option S) (l : List Nat) (fr : Fr) (H : List AO) : Option S := Lim fun n => loopN body l n fr H
theorem loopW_some {body : Fr → List AO → Option S} {l : List Nat} {fr : Fr} {H : List AO} {s : S} : loopW body l fr H = some s ↔ ∃ n, loopN body l n fr H = some s :=
  Lim_some fun k k' r hk h => loop_mono (fun _ _ _ h => h) hk h
theorem loopW_round {body : Fr → List AO → Option S} {l : List Nat} {fr fr' : Fr} {H H' : List AO} {s : S} (h : body (keep l fr) H = some (.normal, fr', H')) (h' : loopW body l fr' H' = some s) : loopW body l fr H = some s := by
  obtain ⟨n, hn⟩ := loopW_some.1 h'
  refine loopW_some.2 ⟨n + 1, ?_⟩
  rw [loopN, h]; exact hn
theorem loopW_out {body : Fr → List AO → Option S} {l : List Nat} {fr : Fr} {H : List AO} {e : EX} {fr' : Fr} {H' : List AO} (h : body (keep l fr) H = some (e, fr', H')) (he : ∀ h : e = .normal, False) : loopW body l fr H = some (e, fr', H') := by
  refine loopW_some.2 ⟨1, ?_⟩
  rw [loopN, h]
  cases e with
  | normal => exact (he rfl).elim
  | _ => rfl
noncomputable def codeW (call : CallF) (mt : MtF) (md : FuncId → Md) : C → Fr → List AO → Option S
  | .skip, fr, H => some (.normal, fr, H)
  | .reg ops l, fr, H => (run call mt md ops fr H).bind fun
    | .go fr H => some (.normal, keep l fr, H)
    | .pan a fr H => some (.pan a, fr, H)
  | .draw ops tail l late early, fr, H => (runD call mt md H H.length 0 ops fr).bind fun p =>
    (runT call mt md late early [H] tail p.1 (bif ops.any (fun o => makes md o.i) then H ++ p.2 else H)).bind fun
    | .go fr H => some (.normal, keep l fr, H)
    | .pan a fr' H => some (.pan a, dropD (ops ++ tail, fr) fr', H)
  | .seq a b, fr, H => (codeW call mt md a fr H).bind fun s => match s.1 with
    | .normal => codeW call mt md b s.2.1 s.2.2
    | e => some (e, s.2.1, s.2.2)
  | .cond x a b, fr, H => (asBool (ev fr x)).bind fun t => bif t then codeW call mt md a fr H else codeW call mt md b fr H
  | .block id c, fr, H => (codeW call mt md c fr H).bind fun s => match s.1 with
    | .exit id' => bif id' == id then some (.normal, s.2.1, s.2.2) else some (.exit id', s.2.1, s.2.2)
    | e => some (e, s.2.1, s.2.2)
  | .loop l c, fr, H => loopW (codeW call mt md c) l fr H
  | .exit id, fr, H => some (.exit id, fr, H)
  | .ret, fr, H => some (.ret, fr, H)
  | .bad, _, _ => none
theorem callV_fin {f : FuncId} {args : List AV} {H : List AO} {id : Nat} {o : Out} (h : callV (callW T ov mt md) md f args H id = some o) : ∃ k, callV (call T ov mt md k) md f args H id = some o := by
  unfold callV at h ⊢
  cases hm : md f with
  | ref =>
    rw [hm] at h
    obtain ⟨q, h1, h2⟩ := bO.1 h
    obtain ⟨k, hk⟩ := callW_some.1 h1
    exact ⟨k, by simp only [hk]; exact h2⟩
  | pure =>
    rw [hm] at h
    obtain ⟨p, h0, h⟩ := bO.1 h
    obtain ⟨q, h1, h2⟩ := bO.1 h
    obtain ⟨k, hk⟩ := callW_some.1 h1
    refine ⟨k, ?_⟩
    simp only
    rw [h0]
    simp only [Option.bind_some]
    rw [hk]; exact h2
  | own =>
    rw [hm] at h
    obtain ⟨p, h0, h⟩ := bO.1 h
    obtain ⟨q, h1, h2⟩ := bO.1 h
    obtain ⟨k, hk⟩ := callW_some.1 h1
    refine ⟨k, ?_⟩
    simp only
    rw [h0]
    simp only [Option.bind_some]
    rw [hk]; exact h2
theorem core_fin {i : I} {H : List AO} {id : Nat} {fr : Fr} {o : Out} (h : core (callW T ov mt md) mt md H id i fr = some o) : ∃ k, core (call T ov mt md k) mt md H id i fr = some o := by
  cases i with
  | call f args =>
    simp only [core] at h ⊢
    split at h
    · exact callV_fin h
    · cases h
  | inv recv name args =>
    simp only [core] at h ⊢
    split at h
    · obtain ⟨p, h0, h⟩ := bO.1 h
      rw [h0]
      simp only [Option.bind_some]
      cases hp : p.2 with
      | none => rw [hp] at h; exact callV_fin h
      | some n =>
        rw [hp] at h
        obtain ⟨u, h1, h⟩ := bO.1 h
        simp only
        rw [h1]
        exact callV_fin h
    · cases h
  | _ => exact ⟨0, h⟩
theorem run_fin : ∀ {l : List O} {fr : Fr} {H : List AO} {s : SR}, run (callW T ov mt md) mt md l fr H = some s → ∃ k, run (call T ov mt md k) mt md l fr H = some s
  | [], _, _, _, h => ⟨0, h⟩
  | o :: l, fr, H, s, h => by
    simp only [run] at h ⊢
    obtain ⟨b, h0, h⟩ := bO.1 h
    rw [h0]
    simp only [Option.bind_some]
    cases b with
    | false => exact run_fin h
    | true =>
      obtain ⟨x, h1, h⟩ := bO.1 h
      unfold step at h1 ⊢
      obtain ⟨y, h2, h3⟩ := bO.1 h1
      obtain ⟨k, hk⟩ := core_fin h2
      cases x with
      | go fr1 H1 =>
        obtain ⟨k2, hk2⟩ := run_fin h
        refine ⟨max k k2, ?_⟩
        simp only
        rw [core_mono (call_mono (Nat.le_max_left k k2)) hk]
        simp only [Option.bind_some]
        rw [h3]
        exact run_mono (call_mono (Nat.le_max_right k k2)) hk2
      | pan a fr1 H1 =>
        refine ⟨k, ?_⟩
        simp only
        rw [hk]
        simp only [Option.bind_some]
        rw [h3]
        exact h
theorem LateOk.fin {fr : Fr} {H : List AO} : ∀ {late : List O}, LateOk (callW T ov mt md) mt md fr H late → ∃ k, LateOk (call T ov mt md k) mt md fr H late
  | [], _ => ⟨0, fun o ho => (List.not_mem_nil ho).elim⟩
  | o :: r, h => by
    obtain ⟨k, hk⟩ := LateOk.fin (late := r) fun o ho => h o (List.mem_cons_of_mem _ ho)
    rcases h o (List.mem_cons_self ..) with h1 | ⟨h1, h2⟩
    · refine ⟨k, fun o' ho => ?_⟩
      rcases List.mem_cons.1 ho with rfl | ho
      · exact .inl h1
      · exact hk o' ho
    · obtain ⟨k2, hk2⟩ := core_fin h2
      refine ⟨max k k2, fun o' ho => ?_⟩
      rcases List.mem_cons.1 ho with rfl | ho
      · exact .inr ⟨h1, core_mono (call_mono (Nat.le_max_right k k2)) hk2⟩
      · exact (hk.mono (call_mono (Nat.le_max_left k k2))) o' ho
theorem EaOk.fin {i : I} {fr : Fr} {out : Out} : ∀ {Hs : List (List AO)}, EaOk (callW T ov mt md) mt md i fr (some out) Hs → ∃ k, EaOk (call T ov mt md k) mt md i fr (some out) Hs
  | [], _ => ⟨0, fun H hH => (List.not_mem_nil hH).elim⟩
  | H :: r, h => by
    obtain ⟨k, hk⟩ := EaOk.fin (Hs := r) fun H' hH => h H' (List.mem_cons_of_mem _ hH)
    obtain ⟨k2, hk2⟩ := core_fin (h H (List.mem_cons_self ..))
    refine ⟨max k k2, fun H' hH => ?_⟩
    rcases List.mem_cons.1 hH with rfl | hH
    · exact core_mono (call_mono (Nat.le_max_right k k2)) hk2
    · exact (EaOk.mono (call_mono (Nat.le_max_left k k2)) hk) H' hH
theorem runT_fin {early : List Nat} : ∀ {late : List (List O)} {Hs : List (List AO)} {l : List O} {fr : Fr} {H : List AO} {s : SR}, runT (callW T ov mt md) mt md late early Hs l fr H = some s → ∃ k, runT (call T ov mt md k) mt md late early Hs l fr H = some s
  | _, _, [], _, _, _, h => by
    simp only [runT] at h ⊢
    obtain ⟨hL, h⟩ := lateS_some h
    obtain ⟨k, hk⟩ := hL.fin
    exact ⟨k, by rw [lateS_of hk]; exact h⟩
  | late, Hs, o :: l, fr, H, s, h => by
    simp only [runT] at h
    obtain ⟨hL, h⟩ := lateS_some h
    obtain ⟨kL, hkL⟩ := hL.fin
    suffices hs : ∃ k, ((wanted o fr).bind fun
        | true => eaS (call T ov mt md k) mt md o.i fr (core (call T ov mt md k) mt md H H.length o.i fr) (seen early o.dst Hs) ((stepT (call T ov mt md k) mt md o fr H).bind fun
          | .go fr H' => runT (call T ov mt md k) mt md late.tail early (H :: Hs) l fr H'
          | .pan a fr H' => bif lastOk early o.dst l then some (.pan a fr H') else none)
        | false => runT (call T ov mt md k) mt md late.tail early (H :: Hs) l (putD fr o.dst (.lit undef)) H) = some s from by
      obtain ⟨k, hk⟩ := hs
      refine ⟨max kL k, ?_⟩
      simp only [runT]
      rw [lateS_of (hkL.mono (call_mono (Nat.le_max_left kL k)))]
      refine bind_mono (fun _ h => h) (fun b h => ?_) hk
      cases b with
      | false => exact runT_mono (call_mono (Nat.le_max_right kL k)) h
      | true =>
        simp only at h ⊢
        obtain ⟨hE, h⟩ := eaS_some h
        obtain ⟨x, h1, _⟩ := bO.1 h
        obtain ⟨out, ho⟩ := stepT_core h1
        rw [ho] at hE
        rw [core_mono (call_mono (Nat.le_max_right kL k)) ho, eaS_of (EaOk.mono (call_mono (Nat.le_max_right kL k)) hE)]
        refine bind_mono (fun _ h => stepT_mono (call_mono (Nat.le_max_right kL k)) h) (fun x h => ?_) h
        cases x with
        | go fr H => exact runT_mono (call_mono (Nat.le_max_right kL k)) h
        | pan a fr H => exact h
    obtain ⟨b, h0, h⟩ := bO.1 h
    rw [h0]
    simp only [Option.bind_some]
    cases b with
    | false => exact runT_fin h
    | true =>
      simp only at h
      obtain ⟨hE, h⟩ := eaS_some h
      obtain ⟨x, h1, h⟩ := bO.1 h
      obtain ⟨out, ho⟩ := stepT_core h1
      rw [ho] at hE
      obtain ⟨kE, hkE⟩ := EaOk.fin hE
      unfold stepT at h1 ⊢
      obtain ⟨y, h2, h3⟩ := bO.1 h1
      rw [ho] at h2; simp only [sI] at h2; subst h2
      obtain ⟨k, hk⟩ := core_fin ho
      cases x with
      | go fr1 H1 =>
        obtain ⟨k2, hk2⟩ := runT_fin h
        refine ⟨max kE (max k k2), ?_⟩
        have l1 : k ≤ max kE (max k k2) := by omega
        have l2 : k2 ≤ max kE (max k k2) := by omega
        simp only
        rw [core_mono (call_mono l1) hk, eaS_of (EaOk.mono (call_mono (Nat.le_max_left kE _)) hkE)]
        simp only [Option.bind_some]
        rw [h3]
        exact runT_mono (call_mono l2) hk2
      | pan a fr1 H1 =>
        refine ⟨max kE k, ?_⟩
        simp only
        rw [core_mono (call_mono (Nat.le_max_right kE k)) hk, eaS_of (EaOk.mono (call_mono (Nat.le_max_left kE _)) hkE)]
        simp only [Option.bind_some]
        rw [h3]
        exact h
theorem runD_fin {H : List AO} {base : Nat} : ∀ {l : List O} {n : Nat} {fr : Fr} {s : Fr × List AO}, runD (callW T ov mt md) mt md H base n l fr = some s → ∃ k, runD (call T ov mt md k) mt md H base n l fr = some s
  | [], _, _, _, h => ⟨0, h⟩
  | o :: l, n, fr, s, h => by
    simp only [runD] at h ⊢
    obtain ⟨b, h0, h⟩ := bO.1 h
    rw [h0]
    simp only [Option.bind_some]
    cases b with
    | false =>
      obtain ⟨p, h1, h2⟩ := bO.1 h
      obtain ⟨k, hk⟩ := runD_fin h1
      exact ⟨k, by simp only; rw [hk]; exact h2⟩
    | true =>
      obtain ⟨x, h1, h⟩ := bO.1 h
      obtain ⟨k, hk⟩ := core_fin h1
      cases x with
      | val a o =>
        cases o <;>
        · obtain ⟨p, h1, h2⟩ := bO.1 h
          obtain ⟨k2, hk2⟩ := runD_fin h1
          refine ⟨max k k2, ?_⟩
          simp only
          rw [core_mono (call_mono (Nat.le_max_left k k2)) hk]
          simp only [Option.bind_some]
          rw [runD_mono (call_mono (Nat.le_max_right k k2)) hk2]
          exact h2
      | _ => cases h
theorem code_fin : ∀ {x : C} {fr : Fr} {H : List AO} {s : S}, codeW (callW T ov mt md) mt md x fr H = some s → ∃ k, code (call T ov mt md k) mt md k x fr H = some s
  | .skip, _, _, _, h => ⟨0, h⟩
  | .reg ops l, fr, H, s, h => by
    simp only [codeW] at h
    obtain ⟨x, h1, h⟩ := bO.1 h
    obtain ⟨k, hk⟩ := run_fin h1
    exact ⟨k, by simp only [code]; rw [hk]; exact h⟩
  | .draw ops tail l late early, fr, H, s, h => by
    simp only [codeW] at h
    obtain ⟨p, h1, h⟩ := bO.1 h
    obtain ⟨x, h2, h⟩ := bO.1 h
    obtain ⟨k, hk⟩ := runD_fin h1
    obtain ⟨k2, hk2⟩ := runT_fin h2
    refine ⟨max k k2, ?_⟩
    simp only [code]
    rw [runD_mono (call_mono (Nat.le_max_left k k2)) hk]
    simp only [Option.bind_some]
    rw [runT_mono (call_mono (Nat.le_max_right k k2)) hk2]
    exact h
  | .seq a b, fr, H, s, h => by
    simp only [codeW] at h
    obtain ⟨x, h1, h⟩ := bO.1 h
    obtain ⟨k, hk⟩ := code_fin h1
    obtain ⟨e, fr1, H1⟩ := x
    cases e with
    | normal =>
      obtain ⟨k2, hk2⟩ := code_fin h
      refine ⟨max k k2, ?_⟩
      simp only [code]
      rw [code_mono (call_mono (Nat.le_max_left k k2)) (Nat.le_max_left k k2) hk]
      exact code_mono (call_mono (Nat.le_max_right k k2)) (Nat.le_max_right k k2) hk2
    | _ => exact ⟨k, by simp only [code]; rw [hk]; exact h⟩
  | .cond x a b, fr, H, s, h => by
    simp only [codeW] at h
    obtain ⟨t, h1, h⟩ := bO.1 h
    cases t with
    | true => obtain ⟨k, hk⟩ := code_fin h; exact ⟨k, by simp only [code]; rw [h1]; exact hk⟩
    | false => obtain ⟨k, hk⟩ := code_fin h; exact ⟨k, by simp only [code]; rw [h1]; exact hk⟩
  | .block id c, fr, H, s, h => by
    simp only [codeW] at h
    obtain ⟨x, h1, h⟩ := bO.1 h
    obtain ⟨k, hk⟩ := code_fin h1
    exact ⟨k, by simp only [code]; rw [hk]; exact h⟩
  | .loop l c, fr, H, s, h => by
    simp only [codeW] at h
    obtain ⟨n, hn⟩ := loopW_some.1 h
    clear h
    have key : ∀ (n : Nat) (fr : Fr) (H : List AO), loopN (codeW (callW T ov mt md) mt md c) l n fr H = some s → ∃ k, loopN (code (call T ov mt md k) mt md k c) l k fr H = some s := by
      intro n
      induction n with
      | zero => intro fr H h; cases h
      | succ n ih =>
        intro fr H h
        simp only [loopN] at h
        obtain ⟨x, h1, h⟩ := bO.1 h
        obtain ⟨k, hk⟩ := code_fin h1
        obtain ⟨e, fr1, H1⟩ := x
        cases e with
        | normal =>
          obtain ⟨k2, hk2⟩ := ih fr1 H1 h
          refine ⟨max k k2 + 1, ?_⟩
          rw [loopN, code_mono (call_mono (Nat.le_succ_of_le (Nat.le_max_left k k2))) (Nat.le_succ_of_le (Nat.le_max_left k k2)) hk]
          exact loop_mono (fun _ _ _ h => code_mono (call_mono (Nat.le_succ_of_le (Nat.le_max_right k k2))) (Nat.le_succ_of_le (Nat.le_max_right k k2)) h) (Nat.le_max_right k k2) hk2
        | _ =>
          refine ⟨k + 1, ?_⟩
          rw [loopN, code_mono (call_mono (Nat.le_succ k)) (Nat.le_succ k) hk]
          exact h
    obtain ⟨k, hk⟩ := key n fr H hn
    exact ⟨k, by simp only [code]; exact hk⟩
  | .exit id, _, _, _, h => ⟨0, h⟩
  | .ret, _, _, _, h => ⟨0, h⟩
  | .bad, _, _, _, h => by cases h
def fin (F : F) (s : S) : Option (R × List AO) :=
  match s.1 with
  | .ret => (res s.2.1 s.2.2 F.res).bind fun a => some (.ret a, s.2.2)
  | .normal => (res s.2.1 s.2.2 F.res).bind fun a => some (.ret a, s.2.2)
  | .pan a => some (.pan a, s.2.2)
  | .exit _ => none
theorem callW_of {f : FuncId} {FF : F} {args : List AV} {H : List AO} {r : R × List AO} (ho : ov f = none) (hT : T f = some FF) (hl : (args.length == FF.np) = true)
    (h : (codeW (callW T ov mt md) mt md FF.body (initFr 0 args) H).bind (fin FF) = some r) : callW T ov mt md f args H = some r := by
  obtain ⟨s, h1, h2⟩ := bO.1 h
  obtain ⟨k, hk⟩ := code_fin h1
  refine callW_some.2 ⟨k + 1, ?_⟩
  rw [call, ho]
  simp only
  rw [hT]
  simp only [Option.bind_some]
  rw [hl]
  simp only [cond_true]
  rw [hk]
  simp only [Option.bind_some]
  obtain ⟨e, fr, H1⟩ := s
  cases e <;> exact h2
theorem callW_ov {f : FuncId} {G : List AV → List AO → Option (R × List AO)} {args : List AV} {H : List AO} {r : R × List AO} (ho : ov f = some G) (h : G args H = some r) : callW T ov mt md f args H = some r :=
  callW_some.2 ⟨1, by rw [call, ho]; exact h⟩
end
end Go.Ai
namespace Go.Ai
def thenS (s : Option S) (k : Fr → List AO → Option S) : Option S := s.bind fun s => match s.1 with
  | .normal => k s.2.1 s.2.2
  | e => some (e, s.2.1, s.2.2)
def blockS (id : Nat) (s : Option S) : Option S := s.bind fun s => match s.1 with
  | .exit id' => bif id' == id then some (.normal, s.2.1, s.2.2) else some (.exit id', s.2.1, s.2.2)
  | e => some (e, s.2.1, s.2.2)
def condS (t : Option Bool) (a b : Option S) : Option S := t.bind fun t => bif t then a else b
def ifS (t : Bool) (a b : Option S) : Option S := bif t then a else b
def opS (x : Option Out) (d : Option Nat) (fr : Fr) (H : List AO) (k : Fr → List AO → Option S) : Option S := x.bind fun
  | .val a none => k (putD fr d a) H
  | .val a (some b) => k (putD fr d a) (H ++ [b])
  | .wr a H' => k (putD fr d a) H'
  | .fz a ids => k (putD (fr.map fun p => (p.1, kill H ids p.2)) d a) (killH H ids 0 H)
  | .pan a H' => some (.pan a, fr, H')
def bindO {α : Type} (x : Option α) (f : α → Option Out) : Option Out := x.bind f
def valO (x : Option AV) : Option Out := x.bind fun v => some (.val v none)
def runS (call : CallF) (mt : MtF) (md : FuncId → Md) (l : List Nat) : List O → Fr → List AO → Option S
  | [], fr, H => some (.normal, keep l fr, H)
  | o :: r, fr, H => (wanted o fr).bind fun
    | true => opS (core call mt md H H.length o.i fr) o.dst fr H (runS call mt md l r)
    | false => runS call mt md l r (putD fr o.dst (.lit undef)) H
@[congr] theorem thenS_congr {s s' : Option S} {k : Fr → List AO → Option S} (h : s = s') : thenS s k = thenS s' k := by rw [h]
@[congr] theorem condS_congr {t t' : Option Bool} {a b : Option S} (h : t = t') : condS t a b = condS t' a b := by rw [h]
@[congr] theorem ifS_congr {t t' : Bool} {a b : Option S} (h : t = t') : ifS t a b = ifS t' a b := by rw [h]
@[congr] theorem opS_congr {x x' : Option Out} {d : Option Nat} {fr : Fr} {H : List AO} {k : Fr → List AO → Option S} (h : x = x') : opS x d fr H k = opS x' d fr H k := by rw [h]
@[congr] theorem bindO_congr {α : Type} {x x' : Option α} {f : α → Option Out} (h : x = x') : bindO x f = bindO x' f := by rw [h]
section
variable {call : CallF} {mt : MtF} {md : FuncId → Md}
theorem thenS_normal (fr : Fr) (H : List AO) (k : Fr → List AO → Option S) : thenS (some (.normal, fr, H)) k = k fr H := rfl
theorem thenS_exit (i : Nat) (fr : Fr) (H : List AO) (k : Fr → List AO → Option S) : thenS (some (.exit i, fr, H)) k = some (.exit i, fr, H) := rfl
theorem thenS_ret (fr : Fr) (H : List AO) (k : Fr → List AO → Option S) : thenS (some (.ret, fr, H)) k = some (.ret, fr, H) := rfl
theorem thenS_pan (a : AV) (fr : Fr) (H : List AO) (k : Fr → List AO → Option S) : thenS (some (.pan a, fr, H)) k = some (.pan a, fr, H) := rfl
theorem thenS_if (t : Bool) (a b : Option S) (k : Fr → List AO → Option S) : thenS (ifS t a b) k = ifS t (thenS a k) (thenS b k) := by cases t <;> rfl
theorem thenS_none (k : Fr → List AO → Option S) : thenS none k = none := rfl
theorem blockS_normal (i : Nat) (fr : Fr) (H : List AO) : blockS i (some (.normal, fr, H)) = some (.normal, fr, H) := rfl
theorem blockS_exit (i j : Nat) (fr : Fr) (H : List AO) : blockS i (some (.exit j, fr, H)) = ifS (j == i) (some (.normal, fr, H)) (some (.exit j, fr, H)) := rfl
theorem blockS_ret (i : Nat) (fr : Fr) (H : List AO) : blockS i (some (.ret, fr, H)) = some (.ret, fr, H) := rfl
theorem blockS_pan (i : Nat) (a : AV) (fr : Fr) (H : List AO) : blockS i (some (.pan a, fr, H)) = some (.pan a, fr, H) := rfl
theorem blockS_if (i : Nat) (t : Bool) (a b : Option S) : blockS i (ifS t a b) = ifS t (blockS i a) (blockS i b) := by cases t <;> rfl
theorem condS_some (t : Bool) (a b : Option S) : condS (some t) a b = ifS t a b := rfl
theorem ifS_true (a b : Option S) : ifS true a b = a := rfl
theorem ifS_false (a b : Option S) : ifS false a b = b := rfl
theorem opS_val (a : AV) (d : Option Nat) (fr : Fr) (H : List AO) (k : Fr → List AO → Option S) : opS (some (.val a none)) d fr H k = k (putD fr d a) H := rfl
theorem opS_new (a : AV) (b : AO) (d : Option Nat) (fr : Fr) (H : List AO) (k : Fr → List AO → Option S) : opS (some (.val a (some b))) d fr H k = k (putD fr d a) (H ++ [b]) := rfl
theorem opS_wr (a : AV) (H' : List AO) (d : Option Nat) (fr : Fr) (H : List AO) (k : Fr → List AO → Option S) : opS (some (.wr a H')) d fr H k = k (putD fr d a) H' := rfl
theorem opS_fz (a : AV) (ids : List Nat) (d : Option Nat) (fr : Fr) (H : List AO) (k : Fr → List AO → Option S) : opS (some (.fz a ids)) d fr H k = k (putD (fr.map fun p => (p.1, kill H ids p.2)) d a) (killH H ids 0 H) := rfl
theorem opS_pan (a : AV) (H' : List AO) (d : Option Nat) (fr : Fr) (H : List AO) (k : Fr → List AO → Option S) : opS (some (.pan a H')) d fr H k = some (.pan a, fr, H') := rfl
theorem bindO_some {α : Type} (a : α) (f : α → Option Out) : bindO (some a) f = f a := rfl
theorem valO_some (a : AV) : valO (some a) = some (.val a none) := rfl
theorem runS_nil (l : List Nat) (fr : Fr) (H : List AO) : runS call mt md l [] fr H = some (.normal, keep l fr, H) := rfl
theorem runS_cons (l : List Nat) (d : Option Nat) (i : I) (r : List O) (fr : Fr) (H : List AO) : runS call mt md l (⟨d, i, none⟩ :: r) fr H = opS (core call mt md H H.length i fr) d fr H (runS call mt md l r) := rfl
def asG : AV → Option (Option Bool)
  | .lit (.bool c) => some (some c)
  | .lit (.tuple _) => some none
  | _ => none
def gS (b : Bool) (x : Option (Option Bool)) (yes no : Option S) : Option S := x.bind fun
  | some c => bif c == b then yes else no
  | none => no
@[congr] theorem gS_congr {b : Bool} {x x' : Option (Option Bool)} {yes no : Option S} (h : x = x') : gS b x yes no = gS b x' yes no := by rw [h]
theorem gS_t (c : Bool) (yes no : Option S) : gS true (some (some c)) yes no = ifS c yes no := by cases c <;> rfl
theorem gS_f (c : Bool) (yes no : Option S) : gS false (some (some c)) yes no = ifS (!c) yes no := by cases c <;> rfl
theorem gS_undef (b : Bool) (yes no : Option S) : gS b (some none) yes no = no := rfl
theorem runS_guard (l : List Nat) (d : Option Nat) (i : I) (t : Nat) (b : Bool) (r : List O) (fr : Fr) (H : List AO) :
    runS call mt md l (⟨d, i, some (t, b)⟩ :: r) fr H = gS b (asG (get fr t)) (opS (core call mt md H H.length i fr) d fr H (runS call mt md l r)) (runS call mt md l r (putD fr d (.lit undef)) H) := by
  rw [runS]
  simp only [wanted]
  generalize get fr t = a
  cases a with
  | lit v => cases v <;> first | rfl | (rename_i c; cases c <;> cases b <;> rfl)
  | _ => rfl
theorem codeW_reg (ops : List O) (l : List Nat) (fr : Fr) (H : List AO) : codeW call mt md (.reg ops l) fr H = runS call mt md l ops fr H := by
  simp only [codeW]
  induction ops generalizing fr H with
  | nil => rfl
  | cons o r ih =>
    simp only [run, runS]
    cases wanted o fr with
    | none => rfl
    | some b =>
      simp only [Option.bind_some]
      cases b with
      | false => exact ih _ _
      | true =>
        unfold step opS
        simp only
        cases hc : core call mt md H H.length o.i fr with
        | none => rfl
        | some out =>
          simp only [Option.bind_some]
          cases out with
          | val a ob => cases ob <;> simp only [Option.bind_some] <;> exact ih _ _
          | wr a H' => simp only [Option.bind_some]; exact ih _ _
          | fz a ids => simp only [Option.bind_some]; exact ih _ _
          | pan a H' => rfl
theorem codeW_seq (a b : C) (fr : Fr) (H : List AO) : codeW call mt md (.seq a b) fr H = thenS (codeW call mt md a fr H) (codeW call mt md b) := rfl
theorem codeW_cond (x : X) (a b : C) (fr : Fr) (H : List AO) : codeW call mt md (.cond x a b) fr H = condS (asBool (ev fr x)) (codeW call mt md a fr H) (codeW call mt md b fr H) := rfl
theorem codeW_block (id : Nat) (c : C) (fr : Fr) (H : List AO) : codeW call mt md (.block id c) fr H = blockS id (codeW call mt md c fr H) := rfl
theorem codeW_loop (l : List Nat) (c : C) (fr : Fr) (H : List AO) : codeW call mt md (.loop l c) fr H = loopW (codeW call mt md c) l fr H := rfl
theorem codeW_skip (fr : Fr) (H : List AO) : codeW call mt md .skip fr H = some (.normal, fr, H) := rfl
theorem codeW_exit (id : Nat) (fr : Fr) (H : List AO) : codeW call mt md (.exit id) fr H = some (.exit id, fr, H) := rfl
theorem codeW_ret (fr : Fr) (H : List AO) : codeW call mt md .ret fr H = some (.ret, fr, H) := rfl
def headS (call : CallF) (mt : MtF) (md : FuncId → Md) (H : List AO) (k : Fr → List AO → Option S) : Nat → List O → Fr → List AO → Option S
  | _, [], fr, obs => k fr obs
  | n, o :: r, fr, obs => (wanted o fr).bind fun
    | true => (core call mt md H n o.i fr).bind fun
      | .val a none => headS call mt md H k (n + 1) r (putD fr o.dst a) (obs ++ [.dead])
      | .val a (some b) => headS call mt md H k (n + 1) r (putD fr o.dst a) (obs ++ [b])
      | _ => none
    | false => headS call mt md H k (n + 1) r (putD fr o.dst (.lit undef)) (obs ++ [.dead])
def hS (x : Option Out) (k : AV → AO → Option S) : Option S := x.bind fun
  | .val a none => k a .dead
  | .val a (some b) => k a b
  | _ => none
@[congr] theorem hS_congr {x x' : Option Out} {k : AV → AO → Option S} (h : x = x') : hS x k = hS x' k := by rw [h]
theorem hS_val (a : AV) (k : AV → AO → Option S) : hS (some (.val a none)) k = k a .dead := rfl
theorem hS_new (a : AV) (b : AO) (k : AV → AO → Option S) : hS (some (.val a (some b))) k = k a b := rfl
theorem headS_nil (H : List AO) (k : Fr → List AO → Option S) (n : Nat) (fr : Fr) (obs : List AO) : headS call mt md H k n [] fr obs = k fr obs := rfl
theorem headS_cons (H : List AO) (k : Fr → List AO → Option S) (n : Nat) (d : Option Nat) (i : I) (r : List O) (fr : Fr) (obs : List AO) :
    headS call mt md H k n (⟨d, i, none⟩ :: r) fr obs = hS (core call mt md H n i fr) (fun a b => headS call mt md H k (n + 1) r (putD fr d a) (obs ++ [b])) := by
  show (core call mt md H n i fr).bind _ = (core call mt md H n i fr).bind _
  congr 1
theorem headS_guard (H : List AO) (k : Fr → List AO → Option S) (n : Nat) (d : Option Nat) (i : I) (t : Nat) (g : Bool) (r : List O) (fr : Fr) (obs : List AO) :
    headS call mt md H k n (⟨d, i, some (t, g)⟩ :: r) fr obs = gS g (asG (get fr t)) (hS (core call mt md H n i fr) (fun a b => headS call mt md H k (n + 1) r (putD fr d a) (obs ++ [b]))) (headS call mt md H k (n + 1) r (putD fr d (.lit undef)) (obs ++ [.dead])) := by
  have main : ∀ b : Bool, (match b with
      | true => (core call mt md H n i fr).bind fun
        | .val a none => headS call mt md H k (n + 1) r (putD fr d a) (obs ++ [.dead])
        | .val a (some b) => headS call mt md H k (n + 1) r (putD fr d a) (obs ++ [b])
        | _ => none
      | false => headS call mt md H k (n + 1) r (putD fr d (.lit undef)) (obs ++ [.dead])) = bif b then hS (core call mt md H n i fr) (fun a b => headS call mt md H k (n + 1) r (putD fr d a) (obs ++ [b])) else headS call mt md H k (n + 1) r (putD fr d (.lit undef)) (obs ++ [.dead]) := by
    intro b
    cases b with
    | false => rfl
    | true =>
      show (core call mt md H n i fr).bind _ = (core call mt md H n i fr).bind _
      congr 1
  rw [headS]
  simp only [wanted]
  generalize get fr t = a
  cases a with
  | lit v =>
    cases v <;> first
      | rfl
      | exact main false
      | (rename_i c; exact main (c == g))
  | _ => rfl
noncomputable def tailS (call : CallF) (mt : MtF) (md : FuncId → Md) : List (List O) → List O × Fr → List Nat → List O → Fr → List AO → Option S
  | late, all, l, [], fr, H => lateS call mt md fr H (late.headD []) (some (.normal, keep l fr, H))
  | late, all, l, o :: r, fr, H => lateS call mt md fr H (late.headD []) ((wanted o fr).bind fun
    | true => (core call mt md H H.length o.i fr).bind fun
      | .val a none => tailS call mt md late.tail all l r (putD fr o.dst a) H
      | .val a (some b) => tailS call mt md late.tail all l r (putD fr o.dst a) (H ++ [b])
      | .wr a H' => tailS call mt md late.tail all l r (putD fr o.dst a) H'
      | .fz a ids => tailS call mt md late.tail all l r (putD fr o.dst a) (killH H ids 0 H)
      | .pan a H' => bif r.isEmpty then some (.pan a, dropD all fr, H') else none
    | false => tailS call mt md late.tail all l r (putD fr o.dst (.lit undef)) H)
theorem lS_bind {α β : Type} (x : Option Out) (a : AV) (k : Option α) (f : α → Option β) : (lS x a k).bind f = lS x a (k.bind f) := by
  unfold lS; split <;> rfl
theorem lateS_bind {α β : Type} (fr : Fr) (H : List AO) (f : α → Option β) : ∀ (late : List O) (k : Option α), (lateS call mt md fr H late k).bind f = lateS call mt md fr H late (k.bind f)
  | [], k => rfl
  | o :: r, k => by
    simp only [lateS]
    cases wanted o fr with
    | none => rfl
    | some b =>
      cases b with
      | false => exact lateS_bind fr H f r k
      | true => simp only [Option.bind_some]; rw [lS_bind, lateS_bind fr H f r k]
theorem eaS_bind {α β : Type} (i : I) (fr : Fr) (x : Option Out) (f : α → Option β) : ∀ (Hs : List (List AO)) (k : Option α), (eaS call mt md i fr x Hs k).bind f = eaS call mt md i fr x Hs (k.bind f)
  | [], k => rfl
  | H :: r, k => by
    simp only [eaS]
    split
    · exact eaS_bind i fr x f r k
    · rfl
noncomputable def tailE (call : CallF) (mt : MtF) (md : FuncId → Md) : List (List O) → List Nat → List O × Fr → List Nat → List (List AO) → List O → Fr → List AO → Option S
  | late, _, all, l, _, [], fr, H => lateS call mt md fr H (late.headD []) (some (.normal, keep l fr, H))
  | late, early, all, l, Hs, o :: r, fr, H => lateS call mt md fr H (late.headD []) ((wanted o fr).bind fun
    | true => eaS call mt md o.i fr (core call mt md H H.length o.i fr) (seen early o.dst Hs) ((core call mt md H H.length o.i fr).bind fun
      | .val a none => tailE call mt md late.tail early all l (H :: Hs) r (putD fr o.dst a) H
      | .val a (some b) => tailE call mt md late.tail early all l (H :: Hs) r (putD fr o.dst a) (H ++ [b])
      | .wr a H' => tailE call mt md late.tail early all l (H :: Hs) r (putD fr o.dst a) H'
      | .fz a ids => tailE call mt md late.tail early all l (H :: Hs) r (putD fr o.dst a) (killH H ids 0 H)
      | .pan a H' => bif lastOk early o.dst r then some (.pan a, dropD all fr, H') else none)
    | false => tailE call mt md late.tail early all l (H :: Hs) r (putD fr o.dst (.lit undef)) H)
theorem seen_nil (d : Option Nat) (Hs : List (List AO)) : seen [] d Hs = [] := by cases d <;> rfl
theorem tailE_nil (all : List O × Fr) (l : List Nat) : ∀ (late : List (List O)) (r : List O) (Hs : List (List AO)) (fr : Fr) (H : List AO), tailE call mt md late [] all l Hs r fr H = tailS call mt md late all l r fr H
  | _, [], _, _, _ => rfl
  | late, o :: r, Hs, fr, H => by
    simp only [tailE, tailS, seen_nil, eaS]
    congr 1
    cases wanted o fr with
    | none => rfl
    | some b =>
      simp only [Option.bind_some]
      cases b with
      | false => exact tailE_nil all l late.tail r _ _ _
      | true =>
        simp only
        cases core call mt md H H.length o.i fr with
        | none => rfl
        | some out =>
          simp only [Option.bind_some]
          cases out with
          | val a ob => cases ob <;> exact tailE_nil all l late.tail r _ _ _
          | wr a H' => exact tailE_nil all l late.tail r _ _ _
          | fz a ids => exact tailE_nil all l late.tail r _ _ _
          | pan a H' => rfl
theorem codeW_draw (ops tail : List O) (l : List Nat) (late : List (List O)) (early : List Nat) (fr : Fr) (H : List AO) : codeW call mt md (.draw ops tail l late early) fr H =
    headS call mt md H (fun fr' obs => tailE call mt md late early (ops ++ tail, fr) l [H] tail fr' (bif ops.any (fun o => makes md o.i) then H ++ obs else H)) H.length ops fr [] := by
  have t : ∀ (all : List O × Fr) (r : List O) (late : List (List O)) (Hs : List (List AO)) (fr : Fr) (H : List AO), ((runT call mt md late early Hs r fr H).bind fun
      | .go fr H => some (.normal, keep l fr, H)
      | .pan a fr H => some (.pan a, dropD all fr, H)) = tailE call mt md late early all l Hs r fr H := by
    intro all r
    induction r with
    | nil => intro late Hs fr H; simp only [runT, tailE, lateS_bind]; rfl
    | cons o r ih =>
      intro late Hs fr H
      simp only [runT, tailE, lateS_bind]
      congr 1
      cases wanted o fr with
      | none => rfl
      | some b =>
        simp only [Option.bind_some]
        cases b with
        | false => exact ih _ _ _ _
        | true =>
          simp only [eaS_bind]
          congr 1
          unfold stepT
          cases core call mt md H H.length o.i fr with
          | none => rfl
          | some out =>
            simp only [Option.bind_some]
            cases out with
            | val a ob => cases ob <;> simp only [Option.bind_some] <;> exact ih _ _ _ _
            | wr a H' => simp only [Option.bind_some]; exact ih _ _ _ _
            | fz a ids => simp only [Option.bind_some]; exact ih _ _ _ _
            | pan a H' => simp only [Option.bind_some]; cases lastOk early o.dst r <;> rfl
  have h : ∀ (r : List O) (n : Nat) (fr : Fr) (obs : List AO) (k : Fr → List AO → Option S), ((runD call mt md H H.length n r fr).bind fun p => k p.1 (obs ++ p.2)) = headS call mt md H k (H.length + n) r fr obs := by
    intro r
    induction r with
    | nil => intro n fr obs k; simp [runD, headS]
    | cons o r ih =>
      intro n fr obs k
      simp only [runD, headS]
      have push : ∀ (fr' : Fr) (b : AO), (((runD call mt md H H.length (n + 1) r fr').bind fun p => some (p.1, b :: p.2)).bind fun p => k p.1 (obs ++ p.2)) = headS call mt md H k (H.length + n + 1) r fr' (obs ++ [b]) := by
        intro fr' b
        rw [show H.length + n + 1 = H.length + (n + 1) by omega, ← ih]
        cases runD call mt md H H.length (n + 1) r fr' with
        | none => rfl
        | some p => simp
      cases wanted o fr with
      | none => rfl
      | some b =>
        simp only [Option.bind_some]
        cases b with
        | false => exact push _ _
        | true =>
          simp only
          cases core call mt md H (H.length + n) o.i fr with
          | none => rfl
          | some out =>
            simp only [Option.bind_some]
            cases out with
            | val a ob => cases ob <;> exact push _ _
            | _ => rfl
  simp only [codeW]
  have := h ops 0 fr [] (fun fr' obs => tailE call mt md late early (ops ++ tail, fr) l [H] tail fr' (bif ops.any (fun o => makes md o.i) then H ++ obs else H))
  rw [Nat.add_zero] at this
  rw [← this]
  congr 1
  funext p
  rw [List.nil_append]
  exact t _ _ _ _ _ _
end
end Go.Ai
namespace Go.Ai
section
variable {call : CallF} {mt : MtF} {md : FuncId → Md} {H : List AO} {id : Nat} {fr : Fr}
theorem get_nil (t : Nat) : get [] t = .any := rfl
theorem get_cons (k : Nat) (a : AV) (r : Fr) (t : Nat) : get ((k, a) :: r) t = if k = t then a else get r t := by
  simp only [get]; by_cases h : k = t <;> simp [h, beq_of_ne]
theorem put_nil (t : Nat) (a : AV) : put [] t a = [(t, a)] := rfl
theorem put_cons (k : Nat) (b : AV) (r : Fr) (t : Nat) (a : AV) : put ((k, b) :: r) t a = if t < k then (t, a) :: (k, b) :: r else if k = t then (t, a) :: r else (k, b) :: put r t a := by
  simp only [put]
  by_cases h : t < k
  · have : Nat.blt t k = true := by rw [Nat.blt_eq]; exact h
    simp [h, this]
  · have : Nat.blt t k = false := by rw [← Bool.not_eq_true, Nat.blt_eq]; exact h
    simp only [this, cond_false, h, if_false]
    by_cases e : k = t <;> simp [e, beq_of_ne]
theorem keep_nil (l : List Nat) : keep l [] = [] := rfl
theorem keep_cons (l : List Nat) (k : Nat) (b : AV) (r : Fr) : keep l ((k, b) :: r) = if k ∈ l then (k, b) :: keep l r else keep l r := by
  unfold keep; rw [List.filter_cons]; by_cases h : k ∈ l <;> simp [h]
theorem putD_some (d : Nat) (a : AV) : putD fr (some d) a = put fr d a := rfl
theorem putD_none (a : AV) : putD fr none a = fr := rfl
theorem ev_s (t : Nat) : ev fr (.s t) = get fr t := rfl
theorem ev_k (a : AV) : ev fr (.k a) = a := rfl
theorem core_mv (x : X) : core call mt md H id (.mv x) fr = some (.val (ev fr x) none) := rfl
theorem core_pick (c a b : X) : core call mt md H id (.pick c a b) fr = bindO (asBool (ev fr c)) fun t => some (.val (pickV t (ev fr a) (ev fr b)) none) := rfl
theorem core_alloc (z : List AV) (t : TypeId) : core call mt md H id (.alloc z t) fr = some (.val (.ptr id 0) (some (.row z t))) := rfl
theorem core_load (n : Option Nat) (a : X) : core call mt md H id (.load n a) fr = valO (load H n (ev fr a)) := rfl
def wrO (v : AV) (x : Option (List AO)) : Option Out := x.bind fun H' => some (.wr v H')
theorem wrO_some (v : AV) (H' : List AO) : wrO v (some H') = some (.wr v H') := rfl
theorem core_store (n : Nat) (a x : X) : core call mt md H id (.store n a x) fr = wrO .any (storeAt H n (ev fr a) (ev fr x)) := rfl
theorem core_clr (e : Nat) (z : List AV) (x : X) : core call mt md H id (.clr e z x) fr = wrO (.tup []) (clrAt H e z (ev fr x)) := rfl
theorem core_isn (neg : Bool) (x : X) : core call mt md H id (.isn neg x) fr = valO (isnV neg (ev fr x)) := rfl
theorem core_slA (e n : Nat) (x : X) : core call mt md H id (.slA e n x) fr = valO (slAV H e n (ev fr x)) := rfl
theorem core_nilck (x : X) : core call mt md H id (.nilck x) fr = valO (nilck (ev fr x)) := rfl
theorem core_bin (op : BinOp) (x y : X) : core call mt md H id (.bin op x y) fr = valO (bin op (ev fr x) (ev fr y)) := rfl
theorem core_binb (op : BinOp) (x y : X) : core call mt md H id (.binb op x y) fr = valO (binb op (ev fr x) (ev fr y)) := rfl
theorem core_un (op : UnOp) (x : X) : core call mt md H id (.un op x) fr = valO (unop op (ev fr x)) := rfl
theorem core_fadr (off : Nat) (x : X) : core call mt md H id (.fadr off x) fr = valO (fadr off (ev fr x)) := rfl
theorem core_iadr (e : Nat) (x i : X) : core call mt md H id (.iadr e x i) fr = valO (iadr e (ev fr x) (ev fr i)) := rfl
theorem core_sli (e : Nat) (x : X) (lo hi mx : Option X) : core call mt md H id (.sli e x lo hi mx) fr = valO (slice e (ev fr x) (lo.map (ev fr)) (hi.map (ev fr)) (mx.map (ev fr))) := rfl
theorem core_len (x : X) : core call mt md H id (.len x) fr = valO (lenV (ev fr x)) := rfl
theorem core_lenS (x : X) : core call mt md H id (.lenS x) fr = valO (lenS (ev fr x)) := rfl
theorem core_idxS (x i : X) : core call mt md H id (.idxS x i) fr = valO (idxS (ev fr x) (ev fr i)) := rfl
theorem core_app (e bytes : Nat) (t : TypeId) (x y : X) : core call mt md H id (.app e bytes t x y) fr = append H id e bytes t (ev fr x) (ev fr y) := rfl
theorem core_mki (t : TypeId) (x : X) : core call mt md H id (.mki t x) fr = some (.val (.iface t (ev fr x)) none) := rfl
theorem core_call (g : FuncId) (a b : List AV) (args : List X) : core call mt md H id (.call (.k (.fn (.func g) a b)) args) fr = callV call md g (a ++ args.map (ev fr) ++ b) H id := rfl
def extV (i : Nat) : AV → Option AV
  | .tup xs => xs[i]?
  | _ => none
theorem core_extV (x : X) (i : Nat) : core call mt md H id (.ext x i) fr = valO (extV i (ev fr x)) := by
  simp only [core]; generalize ev fr x = a; cases a <;> rfl
def fldV (off : Nat) (n : Option Nat) : AV → Option AV
  | .agg cs => part n (cs.drop off)
  | _ => none
theorem core_fld (off : Nat) (n : Option Nat) (x : X) : core call mt md H id (.fld off n x) fr = valO (fldV off n (ev fr x)) := by
  simp only [core]; generalize ev fr x = a; cases a <;> rfl
def mksV (id e bytes : Nat) (zero : List AV) (t : TypeId) : AV → AV → Option Out
  | .lit (.int .i64 l), .lit (.int .i64 c) => bif (decide (0 ≤ l) && decide (l ≤ c) && decide (c * bytes ≤ 140737488355328) && decide (c ≤ 140737488355328)) then some (.val (.own id 0 l.toNat e (some c.toNat)) (some (.row (reps l.toNat zero) t))) else none
  | _, _ => none
theorem core_mks (e bytes : Nat) (zero : List AV) (t : TypeId) (l c : X) : core call mt md H id (.mks e bytes zero t l c) fr = mksV id e bytes zero t (ev fr l) (ev fr c) := rfl
theorem bin_eql (k : IntKind) (a b : Int) : bin .eql (litI k a) (litI k b) = some (litB (a == b)) := by simp [bin, litI, binI]
theorem bin_neq (k : IntKind) (a b : Int) : bin .neq (litI k a) (litI k b) = some (litB (a != b)) := by simp [bin, litI, binI]
theorem bin_lss (k : IntKind) (a b : Int) : bin .lss (litI k a) (litI k b) = some (litB (decide (a < b))) := by simp [bin, litI, binI]
theorem bin_leq (k : IntKind) (a b : Int) : bin .leq (litI k a) (litI k b) = some (litB (decide (a ≤ b))) := by simp [bin, litI, binI]
theorem bin_gtr (k : IntKind) (a b : Int) : bin .gtr (litI k a) (litI k b) = some (litB (decide (b < a))) := by simp [bin, litI, binI]
theorem bin_geq (k : IntKind) (a b : Int) : bin .geq (litI k a) (litI k b) = some (litB (decide (b ≤ a))) := by simp [bin, litI, binI]
theorem bin_add (k : IntKind) (a b : Int) : bin .add (litI k a) (litI k b) = some (litI k (k.wrap (a + b))) := by simp [bin, litI, binI]
theorem bin_sub (k : IntKind) (a b : Int) : bin .sub (litI k a) (litI k b) = some (litI k (k.wrap (a - b))) := by simp [bin, litI, binI]
theorem bin_mul (k : IntKind) (a b : Int) : bin .mul (litI k a) (litI k b) = some (litI k (k.wrap (a * b))) := by simp [bin, litI, binI]
theorem unop_not (b : Bool) : unop .not (litB b) = some (litB !b) := rfl
theorem asBool_lit (b : Bool) : asBool (litB b) = some b := rfl
theorem asG_lit (b : Bool) : asG (litB b) = some (some b) := rfl
theorem asG_undef : asG (.lit undef) = some none := rfl
theorem pickV_lit (c p q : Bool) : pickV c (litB p) (litB q) = litB (bif c then p else q) := rfl
theorem lenV_sl (e : Nat) (xs : List (List AV)) (c : Option Nat) : lenV (.sl e xs c) = some (litI .i64 xs.length) := rfl
theorem lenV_own (r off n e : Nat) (c : Option Nat) : lenV (.own r off n e c) = some (litI .i64 n) := rfl
theorem load_ip (xs : List AV) : load H none (.ip xs) = xs.head? := rfl
theorem wrap_small {z : Int} (h1 : -9223372036854775808 ≤ z) (h2 : z ≤ 9223372036854775807) : IntKind.wrap .i64 z = z := by
  rw [IntKind.wrap_i64]; omega
theorem iadr_sl (e : Nat) (xs : List (List AV)) (c : Option Nat) (k : IntKind) (z : Int) : iadr e (.sl e xs c) (litI k z) = if 0 ≤ z then (xs[z.toNat]?).map .ip else none := by
  simp only [iadr, idx, litI]
  by_cases h : 0 ≤ z
  · by_cases h2 : z < xs.length
    · have h3 : z.toNat < xs.length := by omega
      simp [h, h2, List.getElem?_eq_getElem h3]
    · have h3 : xs.length ≤ z.toNat := by omega
      simp [h, h2, List.getElem?_eq_none h3]
  · simp [h]
theorem iadr_own (e r off n : Nat) (c : Option Nat) (k : IntKind) (z : Int) : iadr e (.own r off n e c) (litI k z) = if 0 ≤ z ∧ z < n then some (.ptr r (off + z.toNat * e)) else none := by
  simp only [iadr, idx, litI]
  by_cases h : 0 ≤ z <;> by_cases h2 : z < (n : Int) <;> simp [h, h2]
end
end Go.Ai
namespace Go.Ai
section
variable {P : Program} {t e : TypeId} {name : String} {f : FuncId} {i : TypeInfo} {m : Method}
end
def MtE (P : Program) (p : TypeId × String × FuncId × Option (Option Nat)) : Prop :=
  match p.2.2.2 with
  | none => ∀ (v : Value) (w : World), (method (P.types.size + Made.depth) p.1 v p.2.1).run P w = .ok (p.2.2.1, v) w
  | some n => ∃ elem, nOf P elem = some n ∧ ∀ (a : Addr) (u : Value) (w : World), (loadVar elem a).run P w = .ok u w → (method (P.types.size + Made.depth) p.1 (.pointer (some a)) p.2.1).run P w = .ok (p.2.2.1, u) w
theorem mtOk_of {P : Program} : ∀ {l : List (TypeId × String × FuncId × Option (Option Nat))}, (∀ p ∈ l, MtE P p) → MtOk P (lookM l)
  | [], _ => fun t name f d h => by cases h
  | (t, n, f, d) :: r, h => fun u m g d' hl => by
    simp only [lookM] at hl
    by_cases hc : (t == u && n == m) = true
    · rw [hc] at hl
      simp only [cond_true, sI, Prod.mk.injEq] at hl
      obtain ⟨rfl, rfl⟩ := hl
      simp only [Bool.and_eq_true, beq_iff_eq] at hc
      obtain ⟨rfl, rfl⟩ := hc
      have := h _ (List.mem_cons_self ..)
      unfold MtE at this
      exact this
    · rw [Bool.eq_false_iff.mpr hc] at hl
      exact mtOk_of (fun p hp => h p (List.mem_cons_of_mem _ hp)) u m g d' hl
end Go.Ai
namespace Go.Ai
section
variable {call : CallF} {mt : MtF} {md : FuncId → Md} {H : List AO} {id : Nat}
def whole : AV → Bool
  | .lit _ | .any | .ip _ | .sl _ _ _ => true
  | _ => false
theorem frz_whole {a : AV} (h : whole a = true) (k : Nat) : frz H (k + 1) a = some (a, []) := by
  cases a <;> first | rfl | cases h
theorem mapL_whole {k : Nat} : ∀ {as : List AV}, as.all whole = true → mapL (frz H (k + 1)) as = some (as, [])
  | [], _ => rfl
  | a :: r, h => by
    rw [List.all_cons, Bool.and_eq_true] at h
    simp only [mapL, frz_whole h.1, mapL_whole h.2]
    rfl
theorem callV_pure {f : FuncId} {args : List AV} {a : AV} {H' : List AO} (hm : md f = .pure) (hw : args.all whole = true) (h : call f args [] = some (.ret a, H')) (ha : whole a = true) : callV call md f args H id = some (.val a none) := by
  unfold callV
  rw [hm]
  simp only
  rw [show frzF = 15 + 1 from rfl, mapL_whole hw]
  simp only [Option.bind_some]
  rw [h]
  simp only [Option.bind_some]
  rw [frz_whole ha]
  rfl
theorem callV_pureT {f : FuncId} {args as : List AV} {H' : List AO} (hm : md f = .pure) (hw : args.all whole = true) (h : call f args [] = some (.ret (.tup as), H')) (ha : as.all whole = true) : callV call md f args H id = some (.val (.tup as) none) := by
  unfold callV
  rw [hm]
  simp only
  rw [show frzF = 15 + 1 from rfl, mapL_whole hw]
  simp only [Option.bind_some]
  rw [h]
  simp only [Option.bind_some]
  rw [frz, show (15 : Nat) = 14 + 1 from rfl, mapL_whole ha]
  rfl
theorem callV_own {f : FuncId} {args : List AV} {r off n e : Nat} {cap : Option Nat} {cs : List AV} {t : TypeId} {H' : List AO} (hm : md f = .own) (hw : args.all whole = true) (h : call f args [] = some (.ret (.own r off n e cap), H')) (hr : H'[r]? = some (.row cs t)) (hc : cs.all whole = true) :
    callV call md f args H id = some (.val (.own id off n e cap) (some (.row cs t))) := by
  unfold callV
  rw [hm]
  simp only
  rw [show frzF = 15 + 1 from rfl, mapL_whole hw]
  simp only [Option.bind_some]
  rw [h]
  simp only [Option.bind_some]
  have : rowAt H' r = some (cs, t) := by unfold rowAt; rw [hr]
  rw [this]
  simp only [Option.bind_some]
  rw [mapL_whole hc]
  rfl
theorem callV_ownP {f : FuncId} {args : List AV} {a : AV} {H' : List AO} (hm : md f = .own) (hw : args.all whole = true) (h : call f args [] = some (.ret a, H')) (ha : whole a = true) : callV call md f args H id = some (.val a none) := by
  unfold callV
  rw [hm]
  simp only
  rw [show frzF = 15 + 1 from rfl, mapL_whole hw]
  simp only [Option.bind_some]
  rw [h]
  simp only [Option.bind_some]
  cases a <;> first
    | rfl
    | cases ha
end
end Go.Ai
namespace Go.Ai
def bsV (H : List AO) (z a : AV) : Option Out := (fill (reps 1 [z]) [(0 * 1, 1, a)]).bind fun cs =>
  (mapL (frz H frzF) cs).bind fun p => bif p.2.isEmpty then some (.val (.sl 1 (chunks 1 1 p.1) (some 1)) none) else none
theorem core_bslice1 {call : CallF} {mt : MtF} {md : FuncId → Md} {H : List AO} {id : Nat} {fr : Fr} {t : TypeId} (x : X) (z : AV) :
    core call mt md H id (.bslice false 1 1 [z] [(0, x)] t) fr = bsV H z (ev fr x) := rfl
theorem bsV_int (H : List AO) (z : AV) (k : IntKind) (n : Int) : bsV H z (litI k n) = some (.val (.sl 1 [[litI k n]] (some 1)) none) := rfl
end Go.Ai
namespace Go.Ai
theorem rowAt_of {H : List AO} {r : Nat} {cs : List AV} {t : TypeId} (h : H[r]? = some (.row cs t)) : rowAt H r = some (cs, t) := by unfold rowAt; rw [h]
theorem getH_set_ne {H : List AO} {r q : Nat} {o : AO} (h : r ≠ q) : (setL H r o)[q]? = H[q]? := by simp [setL, List.getElem?_set, h]
theorem getH_set_eq {H : List AO} {r : Nat} {o x : AO} (h : H[r]? = some x) : (setL H r o)[r]? = some o := by
  have := (List.getElem?_eq_some_iff.1 h).1
  simp [setL, List.getElem?_set, this]
theorem getH_app {H : List AO} {q : Nat} {o x : AO} (h : H[q]? = some x) : (H ++ [o])[q]? = some x := by
  rw [List.getElem?_append_left (List.getElem?_eq_some_iff.1 h).1]; exact h
theorem getH_last (H : List AO) (o : AO) : (H ++ [o])[H.length]? = some o := by simp
theorem setL_len (H : List AO) (r : Nat) (o : AO) : (setL H r o).length = H.length := by simp [setL]
theorem load_ptr {H : List AO} {r off : Nat} {cs : List AV} {t : TypeId} (h : H[r]? = some (.row cs t)) : load H none (.ptr r off) = cs[off]? := by
  simp only [load, rowAt_of h, Option.bind_some, part, List.head?_drop]
theorem store_ptr {H : List AO} {r off : Nat} {cs : List AV} {t : TypeId} {x : AV} (h : H[r]? = some (.row cs t)) (ho : off < cs.length) (hx : cellsOf x = [x]) (hc : cellA x = true) :
    storeAt H 1 (.ptr r off) x = some (setL H r (.row (cs.set off x) t)) := by
  have hb : Nat.ble (off + 1) cs.length = true := Nat.ble_eq_true_of_le ho
  simp only [storeAt, rowAt_of h, Option.bind_some, hx, List.length_cons, List.length_nil, Nat.zero_add, BEq.rfl, List.all_cons, List.all_nil, hc, hb, Bool.and_self, cond_true]
  congr 3
  rw [List.set_eq_take_append_cons_drop, if_pos ho]
  simp
theorem slice_own_to {e r off n : Nat} {c : Option Nat} {k : IntKind} {z : Int} (h0 : 0 ≤ z) (h1 : z ≤ n) : slice e (.own r off n e c) none (some (litI k z)) none = some (.own r off z.toNat e c) := by
  simp only [slice, BEq.rfl, cond_true, cuts, bound, litI, h0, h1, decide_true, Bool.and_self, Option.bind_some]
  simp
end Go.Ai
namespace Go.Ai
theorem keep_keep (l : List Nat) (fr : Fr) : keep l (keep l fr) = keep l fr := by
  unfold keep; rw [List.filter_filter]; simp
theorem loopN_keep (body : Fr → List AO → Option S) (l : List Nat) : ∀ (n : Nat) (fr : Fr) (H : List AO), loopN body l n (keep l fr) H = loopN body l n fr H
  | 0, _, _ => rfl
  | n + 1, fr, H => by simp only [loopN, keep_keep]
theorem loopW_keep (body : Fr → List AO → Option S) (l : List Nat) (fr : Fr) (H : List AO) : loopW body l (keep l fr) H = loopW body l fr H := by
  unfold loopW; congr 1; funext n; exact loopN_keep body l n fr H
theorem loopW_next {body : Fr → List AO → Option S} {l : List Nat} {fr fr1 fr' : Fr} {H H' : List AO} {s : S} (h : body (keep l fr) H = some (.normal, fr1, H')) (hk : keep l fr1 = fr') (h' : loopW body l fr' H' = some s) : loopW body l fr H = some s := by
  subst hk
  rw [loopW_keep] at h'
  exact loopW_round h h'
def Ends (x : Option S) (Q : EX → Fr → List AO → Prop) : Prop := ∃ e fr H, x = some (e, fr, H) ∧ Q e fr H
theorem Ends.mono {x : Option S} {Q Q' : EX → Fr → List AO → Prop} (h : Ends x Q) (hq : ∀ e fr H, Q e fr H → Q' e fr H) : Ends x Q' := by
  obtain ⟨e, fr, H, h1, h2⟩ := h; exact ⟨e, fr, H, h1, hq _ _ _ h2⟩
end Go.Ai
namespace Go.Ai
section
variable {call : CallF} {mt : MtF} {md : FuncId → Md}
def tlS (x : Option Out) (d : Option Nat) (fr : Fr) (H : List AO) (all : List O × Fr) (last : Bool) (k : Fr → List AO → Option S) : Option S := x.bind fun
  | .val a none => k (putD fr d a) H
  | .val a (some b) => k (putD fr d a) (H ++ [b])
  | .wr a H' => k (putD fr d a) H'
  | .fz a ids => k (putD fr d a) (killH H ids 0 H)
  | .pan a H' => bif last then some (.pan a, dropD all fr, H') else none
@[congr] theorem tlS_congr {x x' : Option Out} {d : Option Nat} {fr : Fr} {H : List AO} {all : List O × Fr} {last : Bool} {k : Fr → List AO → Option S} (h : x = x') : tlS x d fr H all last k = tlS x' d fr H all last k := by rw [h]
theorem tlS_val (a : AV) (d : Option Nat) (fr : Fr) (H : List AO) (all : List O × Fr) (last : Bool) (k : Fr → List AO → Option S) : tlS (some (.val a none)) d fr H all last k = k (putD fr d a) H := rfl
theorem tlS_new (a : AV) (b : AO) (d : Option Nat) (fr : Fr) (H : List AO) (all : List O × Fr) (last : Bool) (k : Fr → List AO → Option S) : tlS (some (.val a (some b))) d fr H all last k = k (putD fr d a) (H ++ [b]) := rfl
theorem tlS_wr (a : AV) (H' : List AO) (d : Option Nat) (fr : Fr) (H : List AO) (all : List O × Fr) (last : Bool) (k : Fr → List AO → Option S) : tlS (some (.wr a H')) d fr H all last k = k (putD fr d a) H' := rfl
theorem tlS_fz (a : AV) (ids : List Nat) (d : Option Nat) (fr : Fr) (H : List AO) (all : List O × Fr) (last : Bool) (k : Fr → List AO → Option S) : tlS (some (.fz a ids)) d fr H all last k = k (putD fr d a) (killH H ids 0 H) := rfl
theorem tlS_pan (a : AV) (H' : List AO) (d : Option Nat) (fr : Fr) (H : List AO) (all : List O × Fr) (k : Fr → List AO → Option S) : tlS (some (.pan a H')) d fr H all true k = some (.pan a, dropD all fr, H') := rfl
@[congr] theorem lateS_congr {α : Type} {fr fr' : Fr} {H H' : List AO} {late late' : List O} {k : Option α} (h1 : fr = fr') (h2 : H = H') (h3 : late = late') : lateS call mt md fr H late k = lateS call mt md fr' H' late' k := by rw [h1, h2, h3]
@[congr] theorem lS_congr {α : Type} {x x' : Option Out} {a a' : AV} {k : Option α} (h1 : x = x') (h2 : a = a') : lS x a k = lS x' a' k := by rw [h1, h2]
theorem lS_val {α : Type} (a : AV) (k : Option α) : lS (some (.val a none)) a k = k := if_pos rfl
theorem lateS_nil {α : Type} (fr : Fr) (H : List AO) (k : Option α) : lateS call mt md fr H [] k = k := rfl
theorem getO_some (fr : Fr) (d : Nat) : getO fr (some d) = get fr d := rfl
theorem lateS_cons {α : Type} (d : Option Nat) (i : I) (r : List O) (fr : Fr) (H : List AO) (k : Option α) :
    lateS call mt md fr H (⟨d, i, none⟩ :: r) k = lS (core call mt md H H.length i fr) (getO fr d) (lateS call mt md fr H r k) := rfl
theorem lateS_guard (d : Option Nat) (i : I) (t : Nat) (b : Bool) (r : List O) (fr : Fr) (H : List AO) (k : Option S) :
    lateS call mt md fr H (⟨d, i, some (t, b)⟩ :: r) k = gS b (asG (get fr t)) (lS (core call mt md H H.length i fr) (getO fr d) (lateS call mt md fr H r k)) (lateS call mt md fr H r k) := by
  have main : ∀ c : Bool, (match c with
      | true => lS (core call mt md H H.length i fr) (getO fr d) (lateS call mt md fr H r k)
      | false => lateS call mt md fr H r k) = bif c then lS (core call mt md H H.length i fr) (getO fr d) (lateS call mt md fr H r k) else lateS call mt md fr H r k := by
    intro c; cases c <;> rfl
  rw [lateS]
  simp only [wanted]
  generalize get fr t = a
  cases a with
  | lit v =>
    cases v <;> first
      | rfl
      | exact main false
      | (rename_i c; exact main (c == b))
  | _ => rfl
theorem tailS_nil (late : List (List O)) (all : List O × Fr) (l : List Nat) (fr : Fr) (H : List AO) : tailS call mt md late all l [] fr H = lateS call mt md fr H (late.headD []) (some (.normal, keep l fr, H)) := rfl
theorem tailS_cons (late : List (List O)) (all : List O × Fr) (l : List Nat) (d : Option Nat) (i : I) (r : List O) (fr : Fr) (H : List AO) :
    tailS call mt md late all l (⟨d, i, none⟩ :: r) fr H = lateS call mt md fr H (late.headD []) (tlS (core call mt md H H.length i fr) d fr H all r.isEmpty (tailS call mt md late.tail all l r)) := by
  rw [tailS]; rfl
theorem tailS_guard (late : List (List O)) (all : List O × Fr) (l : List Nat) (d : Option Nat) (i : I) (t : Nat) (b : Bool) (r : List O) (fr : Fr) (H : List AO) :
    tailS call mt md late all l (⟨d, i, some (t, b)⟩ :: r) fr H = lateS call mt md fr H (late.headD []) (gS b (asG (get fr t)) (tlS (core call mt md H H.length i fr) d fr H all r.isEmpty (tailS call mt md late.tail all l r)) (tailS call mt md late.tail all l r (putD fr d (.lit undef)) H)) := by
  have main : ∀ c : Bool, (match c with
      | true => (core call mt md H H.length i fr).bind fun
        | .val a none => tailS call mt md late.tail all l r (putD fr d a) H
        | .val a (some b) => tailS call mt md late.tail all l r (putD fr d a) (H ++ [b])
        | .wr a H' => tailS call mt md late.tail all l r (putD fr d a) H'
        | .fz a ids => tailS call mt md late.tail all l r (putD fr d a) (killH H ids 0 H)
        | .pan a H' => bif r.isEmpty then some (.pan a, dropD all fr, H') else none
      | false => tailS call mt md late.tail all l r (putD fr d (.lit undef)) H) = bif c then tlS (core call mt md H H.length i fr) d fr H all r.isEmpty (tailS call mt md late.tail all l r) else tailS call mt md late.tail all l r (putD fr d (.lit undef)) H := by
    intro c; cases c <;> rfl
  rw [tailS]
  congr 1
  simp only [wanted]
  generalize get fr t = a
  cases a with
  | lit v =>
    cases v <;> first
      | rfl
      | exact main false
      | (rename_i c; exact main (c == b))
  | _ => rfl
def anyMk (md : FuncId → Md) (ops : List O) : Bool := ops.any (fun o => makes md o.i)
theorem anyMk_nil : anyMk md [] = false := rfl
theorem anyMk_cons (d : Option Nat) (i : I) (g : Option (Nat × Bool)) (r : List O) : anyMk md (⟨d, i, g⟩ :: r) = (makes md i || anyMk md r) := rfl
theorem codeW_drawn (ops tail : List O) (l : List Nat) (late : List (List O)) (fr : Fr) (H : List AO) : codeW call mt md (.draw ops tail l late []) fr H =
    headS call mt md H (fun fr' obs => tailS call mt md late (ops ++ tail, fr) l tail fr' (bif anyMk md ops then H ++ obs else H)) H.length ops fr [] := by
  rw [codeW_draw]
  simp only [tailE_nil]
  rfl
noncomputable def eaC {α : Type} (x y : Option Out) (k : Option α) : Option α := open Classical in if x = y then k else none
@[congr] theorem eaC_congr {α : Type} {x x' y y' : Option Out} {k : Option α} (h1 : x = x') (h2 : y = y') : eaC x y k = eaC x' y' k := by rw [h1, h2]
theorem eaC_same {α : Type} (x : Out) (k : Option α) : eaC (some x) (some x) k = k := if_pos rfl
@[congr] theorem eaS_congr {α : Type} {i : I} {fr : Fr} {x : Option Out} {Hs Hs' : List (List AO)} {k : Option α} (h : Hs = Hs') : eaS call mt md i fr x Hs k = eaS call mt md i fr x Hs' k := by rw [h]
theorem eaS_nil {α : Type} (i : I) (fr : Fr) (x : Option Out) (k : Option α) : eaS call mt md i fr x [] k = k := rfl
theorem eaS_cons {α : Type} (i : I) (fr : Fr) (x : Option Out) (H : List AO) (r : List (List AO)) (k : Option α) : eaS call mt md i fr x (H :: r) k = eaC (core call mt md H H.length i fr) x (eaS call mt md i fr x r k) := by
  simp only [eaS, eaC]
theorem seen_some (early : List Nat) (d : Nat) (Hs : List (List AO)) : seen early (some d) Hs = if d ∈ early then Hs else [] := by
  simp only [seen]
  by_cases h : d ∈ early
  · rw [if_pos h, List.contains_iff_mem.2 h]; rfl
  · rw [if_neg h]
    have : early.contains d = false := by rw [← Bool.not_eq_true, List.contains_iff_mem]; exact h
    rw [this]; rfl
theorem seen_none (early : List Nat) (Hs : List (List AO)) : seen early none Hs = [] := rfl
theorem codeW_drawnE (ops tail : List O) (l : List Nat) (late : List (List O)) (e : Nat) (es : List Nat) (fr : Fr) (H : List AO) : codeW call mt md (.draw ops tail l late (e :: es)) fr H =
    headS call mt md H (fun fr' obs => tailE call mt md late (e :: es) (ops ++ tail, fr) l [H] tail fr' (bif anyMk md ops then H ++ obs else H)) H.length ops fr [] := codeW_draw ops tail l late (e :: es) fr H
theorem tailE_done (late : List (List O)) (early : List Nat) (all : List O × Fr) (l : List Nat) (Hs : List (List AO)) (fr : Fr) (H : List AO) : tailE call mt md late early all l Hs [] fr H = lateS call mt md fr H (late.headD []) (some (.normal, keep l fr, H)) := rfl
theorem tailE_cons (late : List (List O)) (early : List Nat) (all : List O × Fr) (l : List Nat) (Hs : List (List AO)) (d : Option Nat) (i : I) (r : List O) (fr : Fr) (H : List AO) :
    tailE call mt md late early all l Hs (⟨d, i, none⟩ :: r) fr H = lateS call mt md fr H (late.headD []) (eaS call mt md i fr (core call mt md H H.length i fr) (seen early d Hs) (tlS (core call mt md H H.length i fr) d fr H all (lastOk early d r) (tailE call mt md late.tail early all l (H :: Hs) r))) := by
  rw [tailE]; rfl
theorem lastOk_some (e : Nat) (es : List Nat) (d : Nat) (r : List O) : lastOk (e :: es) (some d) r = if d + 1000000 ∈ e :: es then true else r.isEmpty := by
  show ((e :: es).contains (d + 1000000) || r.isEmpty) = _
  by_cases h : d + 1000000 ∈ e :: es
  · rw [if_pos h, List.contains_iff_mem.2 h]; rfl
  · rw [if_neg h]
    have : (e :: es).contains (d + 1000000) = false := by rw [← Bool.not_eq_true, List.contains_iff_mem]; exact h
    rw [this]; rfl
theorem lastOk_none (early : List Nat) (r : List O) : lastOk early none r = r.isEmpty := by
  cases early <;> rfl
theorem tailE_guard (late : List (List O)) (early : List Nat) (all : List O × Fr) (l : List Nat) (Hs : List (List AO)) (d : Option Nat) (i : I) (t : Nat) (b : Bool) (r : List O) (fr : Fr) (H : List AO) :
    tailE call mt md late early all l Hs (⟨d, i, some (t, b)⟩ :: r) fr H = lateS call mt md fr H (late.headD []) (gS b (asG (get fr t)) (eaS call mt md i fr (core call mt md H H.length i fr) (seen early d Hs) (tlS (core call mt md H H.length i fr) d fr H all (lastOk early d r) (tailE call mt md late.tail early all l (H :: Hs) r))) (tailE call mt md late.tail early all l (H :: Hs) r (putD fr d (.lit undef)) H)) := by
  have main : ∀ c : Bool, (match c with
      | true => eaS call mt md i fr (core call mt md H H.length i fr) (seen early d Hs) ((core call mt md H H.length i fr).bind fun
        | .val a none => tailE call mt md late.tail early all l (H :: Hs) r (putD fr d a) H
        | .val a (some b) => tailE call mt md late.tail early all l (H :: Hs) r (putD fr d a) (H ++ [b])
        | .wr a H' => tailE call mt md late.tail early all l (H :: Hs) r (putD fr d a) H'
        | .fz a ids => tailE call mt md late.tail early all l (H :: Hs) r (putD fr d a) (killH H ids 0 H)
        | .pan a H' => bif lastOk early d r then some (.pan a, dropD all fr, H') else none)
      | false => tailE call mt md late.tail early all l (H :: Hs) r (putD fr d (.lit undef)) H) = bif c then eaS call mt md i fr (core call mt md H H.length i fr) (seen early d Hs) (tlS (core call mt md H H.length i fr) d fr H all (lastOk early d r) (tailE call mt md late.tail early all l (H :: Hs) r)) else tailE call mt md late.tail early all l (H :: Hs) r (putD fr d (.lit undef)) H := by
    intro c; cases c <;> rfl
  rw [tailE]
  congr 1
  simp only [wanted]
  generalize get fr t = a
  cases a with
  | lit v =>
    cases v <;> first
      | rfl
      | exact main false
      | (rename_i c; exact main (c == b))
  | _ => rfl
variable {H : List AO} {id : Nat} {fr : Fr}
theorem binb_eql (a b : Bool) : binb .eql (litB a) (litB b) = some (litB (a == b)) := rfl
theorem binb_neq (a b : Bool) : binb .neq (litB a) (litB b) = some (litB (!(a == b))) := rfl
theorem pickV_t (a b : AV) : pickV true a b = a := by
  unfold pickV; split <;> rfl
theorem pickV_f (a b : AV) : pickV false a b = b := by
  unfold pickV; split <;> rfl
theorem mapR_whole {cs : List AV} : ∀ {k n : Nat}, cs.all whole = true → mapR (frz H (k + 1)) 1 n cs = some ((chunks 1 n cs), [])
  | k, 0, _ => rfl
  | k, n + 1, h => by
    have h1 : (cs.take 1).all whole = true := by
      rw [List.all_eq_true] at h ⊢; exact fun a ha => h a (List.mem_of_mem_take ha)
    have h2 : (cs.drop 1).all whole = true := by
      rw [List.all_eq_true] at h ⊢; exact fun a ha => h a (List.mem_of_mem_drop ha)
    simp only [mapR, mapL_whole h1, mapR_whole h2, Option.bind_some, chunks]
    rfl
theorem chunks_one : ∀ (cs : List AV), chunks 1 cs.length cs = cs.map fun a => [a]
  | [] => rfl
  | a :: r => by
    simp only [List.length_cons, chunks, List.map_cons, List.drop_succ_cons, List.drop_zero, chunks_one r]
    rfl
theorem frz_own {r n k : Nat} {cap : Option Nat} {cs : List AV} {t : TypeId} (h : H[r]? = some (.row cs t)) (hn : n ≤ cs.length) (hw : cs.all whole = true) :
    frz H (k + 2) (.own r 0 n 1 cap) = some (.sl 1 ((cs.take n).map fun a => [a]) cap, [r]) := by
  have hb : Nat.ble (0 + n * 1) cs.length = true := Nat.ble_eq_true_of_le (by omega)
  have hc : ∀ (n : Nat) (cs : List AV), n ≤ cs.length → chunks 1 n cs = (cs.take n).map fun a => [a] := by
    intro n
    induction n with
    | zero => intro cs _; simp [chunks]
    | succ n ih =>
      intro cs hn
      cases cs with
      | nil => simp at hn
      | cons a r =>
        simp only [chunks, List.drop_succ_cons, List.drop_zero, List.take_succ_cons, List.map_cons]
        rw [ih r (by simp at hn; omega)]
        rfl
  rw [frz]
  simp only [h, hb, cond_true, List.drop_zero, mapR_whole hw, Option.bind_some, hc n cs hn]
end
end Go.Ai
namespace Go.Ai
abbrev Obj1 := Nat × List AV × TypeId
structure Own (H : List AO) (d : List Obj1) : Prop where
  nodup : (d.map (·.1)).Nodup
  get : ∀ x ∈ d, H[x.1]? = some (.row x.2.1 x.2.2)
section
variable {H : List AO} {d d' : List Obj1} {r : Nat} {cs cs' : List AV} {t t' : TypeId}
theorem Own.head (h : Own H ((r, cs, t) :: d)) : H[r]? = some (.row cs t) := h.get _ (List.mem_cons_self ..)
theorem Own.tail {x : Obj1} (h : Own H (x :: d)) : Own H d := ⟨by have := h.nodup; simp only [List.map_cons, List.nodup_cons] at this; exact this.2, fun x hx => h.get x (List.mem_cons_of_mem _ hx)⟩
theorem Own.lt (h : Own H d) : ∀ x ∈ d, x.1 < H.length := fun x hx => (List.getElem?_eq_some_iff.1 (h.get x hx)).1
theorem Own.ne {x : Obj1} (h : Own H (x :: d)) : ∀ y ∈ d, x.1 ≠ y.1 := by
  have := h.nodup
  simp only [List.map_cons, List.nodup_cons] at this
  exact fun y hy e => this.1 (e ▸ List.mem_map.2 ⟨y, hy, rfl⟩)
theorem Own.set (h : Own H ((r, cs, t) :: d)) (cs' : List AV) (t' : TypeId) : Own (setL H r (.row cs' t')) ((r, cs', t') :: d) := by
  refine ⟨h.nodup, fun x hx => ?_⟩
  rcases List.mem_cons.1 hx with rfl | hx
  · exact getH_set_eq h.head
  · rw [getH_set_ne (h.ne x hx)]; exact h.tail.get x hx
theorem Own.kill (h : Own H ((r, cs, t) :: d)) : Own (setL H r .dead) d := ⟨h.tail.nodup, fun x hx => by rw [getH_set_ne (h.ne x hx)]; exact h.tail.get x hx⟩
theorem Own.app (h : Own H d) (o : AO) : Own (H ++ [o]) d := ⟨h.nodup, fun x hx => getH_app (h.get x hx)⟩
theorem Own.new (h : Own H d) (cs : List AV) (t : TypeId) : Own (H ++ [.row cs t]) ((H.length, cs, t) :: d) := by
  refine ⟨?_, fun x hx => ?_⟩
  · simp only [List.map_cons, List.nodup_cons]
    refine ⟨fun hm => ?_, h.nodup⟩
    obtain ⟨y, hy, e⟩ := List.mem_map.1 hm
    have := h.lt y hy
    omega
  · rcases List.mem_cons.1 hx with rfl | hx
    · exact getH_last _ _
    · exact getH_app (h.get x hx)
theorem Own.nil : Own H [] := ⟨List.nodup_nil, by simp⟩
theorem Own.sub (h : Own H d) (s : d'.Sublist d) : Own H d' := ⟨h.nodup.sublist (s.map _), fun x hx => h.get x (s.subset hx)⟩
end
section
variable {call : CallF} {mt : MtF} {md : FuncId → Md} {H : List AO} {id : Nat} {fr : Fr}
def invV (call : CallF) (mt : MtF) (md : FuncId → Md) (a : AV) (name : String) (args : List AV) (H : List AO) (id : Nat) : Option Out :=
  match a with
  | .iface t v => (mt t name).bind fun p => match p.2 with
    | none => callV call md p.1 (v :: args) H id
    | some n => (Ai.load H n v).bind fun u => callV call md p.1 (u :: args) H id
  | _ => none
theorem core_inv (x : X) (name : String) (args : List X) : core call mt md H id (.inv x name args) fr = invV call mt md (ev fr x) name (args.map (ev fr)) H id := rfl
theorem extV_tup (i : Nat) (xs : List AV) : extV i (.tup xs) = xs[i]? := rfl
theorem fldV_agg (off : Nat) (n : Option Nat) (cs : List AV) : fldV off n (.agg cs) = part n (cs.drop off) := rfl
def fnV (call : CallF) (md : FuncId → Md) (a : AV) (args : List AV) (H : List AO) (id : Nat) : Option Out :=
  match a with
  | .fn (.func g) first cap => callV call md g (first ++ args ++ cap) H id
  | _ => none
theorem core_callS (t : Nat) (args : List X) : core call mt md H id (.call (.s t) args) fr = fnV call md (get fr t) (args.map (ev fr)) H id := rfl
theorem fnV_func (g : FuncId) (a b args : List AV) : fnV call md (.fn (.func g) a b) args H id = callV call md g (a ++ args ++ b) H id := rfl
def tasV (t : TypeId) (ok : Bool) (zero : AV) (a : AV) : Option Out :=
  match a with
  | .iface t' v => bif t == t' then some (.val (bif ok then .tup [v, litB true] else v) none) else bif ok then some (.val (.tup [zero, litB false]) none) else none
  | .lit .nilIface => bif ok then some (.val (.tup [zero, litB false]) none) else none
  | _ => none
theorem core_tas (t : TypeId) (ok : Bool) (z : AV) (x : X) : core call mt md H id (.tas t ok z x) fr = tasV t ok z (ev fr x) := rfl
theorem tasV_iface (t t' : TypeId) (ok : Bool) (z v : AV) : tasV t ok z (.iface t' v) = bif t == t' then some (.val (bif ok then .tup [v, litB true] else v) none) else bif ok then some (.val (.tup [z, litB false]) none) else none := rfl
theorem nilck_ptr (r o : Nat) : nilck (.ptr r o) = some (.ptr r o) := rfl
theorem callV_flat {f : FuncId} {args : List AV} {p : List AV × List Nat} {v : Value} {H' : List AO} (hm : md f = .pure) (hf : mapL (frz H frzF) args = some p) (h : call f p.1 [] = some (.ret (.lit v), H')) : callV call md f args H id = some (.val (.lit v) none) := by
  unfold callV
  rw [hm]
  simp only
  rw [hf]
  simp only [Option.bind_some]
  rw [h]
  simp only [Option.bind_some]
  rw [show frzF = 15 + 1 from rfl, frz_whole rfl]
  simp only [Option.bind_some]
  rw [show light H' (.lit v) (.lit v) = true from rfl, Bool.or_true]
  rfl
theorem callV_same {f : FuncId} {args : List AV} {a : AV} {H' : List AO} (hm : md f = .ref) (h : call f args H = some (.ret a, H')) (hl : H'.length = H.length) : callV call md f args H id = some (.wr a H') := by
  unfold callV
  rw [hm]
  simp only
  rw [h]
  simp only [Option.bind_some]
  rw [← hl, List.take_length]
  cases (below H'.length frzF a && H'.all (belowO H'.length)) <;> rfl
end
end Go.Ai
namespace Go.Ai
section
variable {call : CallF} {mt : MtF} {md : FuncId → Md} {H : List AO} {id : Nat}
def wholeA : AV → Bool
  | .agg xs => xs.all whole
  | a => whole a
theorem frz_wholeA {a : AV} (h : wholeA a = true) (k : Nat) : frz H (k + 2) a = some (a, []) := by
  cases a with
  | agg xs => rw [frz, mapL_whole h]; rfl
  | any => rfl
  | lit v => rfl
  | ip xs => rfl
  | sl e xs c => rfl
  | _ => cases h
theorem mapL_wholeA {k : Nat} : ∀ {as : List AV}, as.all wholeA = true → mapL (frz H (k + 2)) as = some (as, [])
  | [], _ => rfl
  | a :: r, h => by
    rw [List.all_cons, Bool.and_eq_true] at h
    simp only [mapL, frz_wholeA h.1, mapL_wholeA h.2]
    rfl
theorem callV_pureA {f : FuncId} {args : List AV} {a : AV} {H' : List AO} (hm : md f = .pure) (hw : args.all wholeA = true) (h : call f args [] = some (.ret a, H')) (ha : wholeA a = true) : callV call md f args H id = some (.val a none) := by
  unfold callV
  rw [hm]
  simp only
  rw [show frzF = 14 + 2 from rfl, mapL_wholeA hw]
  simp only [Option.bind_some]
  rw [h]
  simp only [Option.bind_some]
  rw [frz_wholeA ha]
  rfl
def boxV (id n : Nat) (a : AV) (t : TypeId) : Option Out := bif ((cellsOf a).length == n && (cellsOf a).all cellA) then some (.val (.ptr id 0) (some (.row (cellsOf a) t))) else none
theorem core_box (n : Nat) (x : X) (t : TypeId) (fr : Fr) : core call mt md H id (.box n x t) fr = boxV id n (ev fr x) t := rfl
theorem boxV_agg {id n : Nat} {xs : List AV} {t : TypeId} (h : xs.length = n) (hc : xs.all cellA = true) : boxV id n (.agg xs) t = some (.val (.ptr id 0) (some (.row xs t))) := by
  unfold boxV
  simp only [cellsOf, h, hc, beq_self_eq_true, Bool.and_self, cond_true]
theorem load_agg {r n : Nat} {cs : List AV} {t : TypeId} (h : H[r]? = some (.row cs t)) (hn : cs.length = n) : Ai.load H (some n) (.ptr r 0) = some (.agg cs) := by
  simp only [Ai.load, rowAt_of h, Option.bind_some, part, List.drop_zero, hn, Nat.ble_eq_true_of_le (Nat.le_refl n), cond_true]
  rw [← hn, List.take_length]
theorem load_ipA {n : Nat} {cs : List AV} (hn : cs.length = n) : Ai.load H (some n) (.ip cs) = some (.agg cs) := by
  simp only [Ai.load, part, hn, Nat.ble_eq_true_of_le (Nat.le_refl n), cond_true]
  rw [← hn, List.take_length]
theorem storeAt_agg {r n : Nat} {cs xs : List AV} {t : TypeId} (h : H[r]? = some (.row cs t)) (hn : cs.length = n) (hx : xs.length = n) (hc : xs.all cellA = true) : storeAt H n (.ptr r 0) (.agg xs) = some (setL H r (.row xs t)) := by
  simp only [storeAt, rowAt_of h, Option.bind_some, cellsOf, hx, hc, hn, beq_self_eq_true, Nat.zero_add, Nat.ble_eq_true_of_le (Nat.le_refl n), Bool.and_self, cond_true, List.take_zero, List.nil_append]
  rw [← hn, List.drop_length, List.append_nil]
theorem fadr_ptr (off r o : Nat) : fadr off (.ptr r o) = some (.ptr r (o + off)) := rfl
theorem setL_last (H : List AO) (o o' : AO) : setL (H ++ [o]) H.length o' = H ++ [o'] := by
  unfold setL; simp
theorem get_last (H : List AO) (o : AO) : (H ++ [o])[H.length]? = some o := by simp
end
end Go.Ai
namespace Go.Ai
def sameLit : Value → Value → Bool
  | .int k a, .int k' b => decide (k = k') && decide (a = b)
  | .bool a, .bool b => a == b
  | .string a, .string b => a.data.toList == b.data.toList
  | .nilIface, .nilIface => true
  | .nilFunc, .nilFunc => true
  | .pointer none, .pointer none => true
  | _, _ => false
theorem sameLit_eq {a b : Value} (h : sameLit a b = true) : a = b := by
  unfold sameLit at h
  split at h
  · rw [Bool.and_eq_true, decide_eq_true_eq, decide_eq_true_eq] at h
    rw [h.1, h.2]
  · rw [eq_of_beq h]
  · rename_i a b
    have := eq_of_beq h
    obtain ⟨⟨a⟩⟩ := a
    obtain ⟨⟨b⟩⟩ := b
    simp only at this
    rw [this]
  · rfl
  · rfl
  · rfl
  · cases h
mutual
/-- Are two abstract values surely the same? -/
def sameA : Nat → AV → AV → Bool
  | 0, _, _ => false
  | k + 1, a, b => match a, b with
    | .any, .any => true
    | .lit v, .lit u => sameLit v u
    | .agg xs, .agg ys => sameAs k xs ys
    | .tup xs, .tup ys => sameAs k xs ys
    | .ptr r o, .ptr r' o' => r == r' && o == o'
    | .ip xs, .ip ys => sameAs k xs ys
    | .own r o n e c, .own r' o' n' e' c' => r == r' && o == o' && n == n' && e == e' && c == c'
    | .sl e xs c, .sl e' ys c' => e == e' && c == c' && sameAss k xs ys
    | .mpv r, .mpv r' => r == r'
    | _, _ => false
def sameAs : Nat → List AV → List AV → Bool
  | _, [], [] => true
  | 0, _, _ => false
  | k + 1, a :: as, b :: bs => sameA k a b && sameAs k as bs
  | _, _, _ => false
def sameAss : Nat → List (List AV) → List (List AV) → Bool
  | _, [], [] => true
  | 0, _, _ => false
  | k + 1, a :: as, b :: bs => sameAs k a b && sameAss k as bs
  | _, _, _ => false
end
theorem same_eq : ∀ k : Nat, (∀ a b, sameA k a b = true → a = b) ∧ (∀ a b, sameAs k a b = true → a = b) ∧ (∀ a b, sameAss k a b = true → a = b)
  | 0 => by
    refine ⟨fun a b h => by simp [sameA] at h, fun a b h => ?_, fun a b h => ?_⟩
    · cases a <;> cases b <;> first | rfl | simp [sameAs] at h
    · cases a <;> cases b <;> first | rfl | simp [sameAss] at h
  | k + 1 => by
    obtain ⟨h1, h2, h3⟩ := same_eq k
    refine ⟨fun a b h => ?_, fun a b h => ?_, fun a b h => ?_⟩
    · unfold sameA at h
      split at h
      · rfl
      · rw [sameLit_eq h]
      · rw [h2 _ _ h]
      · rw [h2 _ _ h]
      · simp only [Bool.and_eq_true, beq_iff_eq] at h; rw [h.1, h.2]
      · rw [h2 _ _ h]
      · simp only [Bool.and_eq_true, beq_iff_eq] at h
        obtain ⟨⟨⟨⟨e1, e2⟩, e3⟩, e4⟩, e5⟩ := h
        rw [e1, e2, e3, e4, e5]
      · simp only [Bool.and_eq_true, beq_iff_eq] at h
        obtain ⟨⟨e1, e2⟩, e3⟩ := h
        rw [e1, e2, h3 _ _ e3]
      · rw [eq_of_beq h]
      · cases h
    · cases a with
      | nil => cases b <;> first | rfl | simp [sameAs] at h
      | cons x xs =>
        cases b with
        | nil => simp [sameAs] at h
        | cons y ys =>
          simp only [sameAs, Bool.and_eq_true] at h
          rw [h1 _ _ h.1, h2 _ _ h.2]
    · cases a with
      | nil => cases b <;> first | rfl | simp [sameAss] at h
      | cons x xs =>
        cases b with
        | nil => simp [sameAss] at h
        | cons y ys =>
          simp only [sameAss, Bool.and_eq_true] at h
          rw [h2 _ _ h.1, h3 _ _ h.2]
def sameO : Option Out → Option Out → Bool
  | some (.val a none), some (.val b none) => sameA 40 a b
  | _, _ => false
theorem sameO_eq {x y : Option Out} (h : sameO x y = true) : x = y := by
  unfold sameO at h
  split at h
  · rw [(same_eq 40).1 _ _ h]
  · cases h
section
variable (call : FuncId → List AV → List AO → Option (R × List AO)) (mt : TypeId → String → Option (FuncId × Option (Option Nat))) (md : FuncId → Md)
def lateB {α : Type} (fr : Fr) (H : List AO) : List O → Option α → Option α
  | [], k => k
  | o :: r, k => (wanted o fr).bind fun
    | true => bif sameO (core call mt md H H.length o.i fr) (some (.val (getO fr o.dst) none)) then lateB fr H r k else none
    | false => lateB fr H r k
def eaB {α : Type} (i : I) (fr : Fr) (x : Option Out) : List (List AO) → Option α → Option α
  | [], k => k
  | H :: r, k => bif sameO (core call mt md H H.length i fr) x then eaB i fr x r k else none
def runTB : List (List O) → List Nat → List (List AO) → List O → Fr → List AO → Option SR
  | late, _, _, [], fr, H => lateB call mt md fr H (late.headD []) (some (.go fr H))
  | late, early, Hs, o :: r, fr, H => lateB call mt md fr H (late.headD []) ((wanted o fr).bind fun
    | true => eaB call mt md o.i fr (core call mt md H H.length o.i fr) (seen early o.dst Hs) ((stepT call mt md o fr H).bind fun
      | .go fr H' => runTB late.tail early (H :: Hs) r fr H'
      | .pan a fr H' => bif lastOk early o.dst r then some (.pan a fr H') else none)
    | false => runTB late.tail early (H :: Hs) r (putD fr o.dst (.lit undef)) H)
def codeB (k : Nat) : C → Fr → List AO → Option S
  | .skip, fr, H => some (.normal, fr, H)
  | .reg ops l, fr, H => (run call mt md ops fr H).bind fun
    | .go fr H => some (.normal, keep l fr, H)
    | .pan a fr H => some (.pan a, fr, H)
  | .draw ops tail l late early, fr, H => (runD call mt md H H.length 0 ops fr).bind fun p =>
    (runTB call mt md late early [H] tail p.1 (bif ops.any (fun o => makes md o.i) then H ++ p.2 else H)).bind fun
    | .go fr H => some (.normal, keep l fr, H)
    | .pan a fr' H => some (.pan a, dropD (ops ++ tail, fr) fr', H)
  | .seq a b, fr, H => (codeB k a fr H).bind fun s => match s.1 with
    | .normal => codeB k b s.2.1 s.2.2
    | e => some (e, s.2.1, s.2.2)
  | .cond x a b, fr, H => (asBool (ev fr x)).bind fun t => bif t then codeB k a fr H else codeB k b fr H
  | .block id c, fr, H => (codeB k c fr H).bind fun s => match s.1 with
    | .exit id' => bif id' == id then some (.normal, s.2.1, s.2.2) else some (.exit id', s.2.1, s.2.2)
    | e => some (e, s.2.1, s.2.2)
  | .loop l c, fr, H => loopN (codeB k c) l k fr H
  | .exit id, fr, H => some (.exit id, fr, H)
  | .ret, fr, H => some (.ret, fr, H)
  | .bad, _, _ => none
end
def callB (T : FuncId → Option F) (ov : Ov) (mt : TypeId → String → Option (FuncId × Option (Option Nat))) (md : FuncId → Md) : Nat → FuncId → List AV → List AO → Option (R × List AO)
  | 0, _, _, _ => none
  | k + 1, f, args, H => match ov f with
    | some G => G args H
    | none => (T f).bind fun F => bif args.length == F.np then
        (codeB (callB T ov mt md k) mt md k F.body (initFr 0 args) H).bind fun s => match s.1 with
          | .ret => (res s.2.1 s.2.2 F.res).bind fun a => some (.ret a, s.2.2)
          | .normal => (res s.2.1 s.2.2 F.res).bind fun a => some (.ret a, s.2.2)
          | .pan a => some (.pan a, s.2.2)
          | .exit _ => none
      else none
section
variable {call : FuncId → List AV → List AO → Option (R × List AO)} {mt : TypeId → String → Option (FuncId × Option (Option Nat))} {md : FuncId → Md}
theorem lateB_le {α : Type} {fr : Fr} {H : List AO} {k k' : Option α} {s : α} (hk : k = some s → k' = some s) : ∀ {late : List O}, lateB call mt md fr H late k = some s → lateS call mt md fr H late k' = some s
  | [], h => hk h
  | o :: r, h => by
    simp only [lateB] at h
    simp only [lateS]
    obtain ⟨b, h0, h⟩ := bO.1 h
    rw [h0]
    cases b with
    | false => exact lateB_le hk h
    | true =>
      simp only at h
      simp only [Option.bind_some]
      cases hs : sameO (core call mt md H H.length o.i fr) (some (.val (getO fr o.dst) none)) with
      | false => rw [hs] at h; cases h
      | true =>
        rw [hs, cond_true] at h
        unfold lS
        rw [if_pos (sameO_eq hs)]
        exact lateB_le hk h
theorem eaB_le {α : Type} {i : I} {fr : Fr} {x : Option Out} {k k' : Option α} {s : α} (hk : k = some s → k' = some s) : ∀ {Hs : List (List AO)}, eaB call mt md i fr x Hs k = some s → eaS call mt md i fr x Hs k' = some s
  | [], h => hk h
  | H :: r, h => by
    simp only [eaB] at h
    simp only [eaS]
    cases hs : sameO (core call mt md H H.length i fr) x with
    | false => rw [hs] at h; cases h
    | true =>
      rw [hs, cond_true] at h
      rw [if_pos (sameO_eq hs)]
      exact eaB_le hk h
theorem runTB_le {early : List Nat} : ∀ {late : List (List O)} {Hs : List (List AO)} {l : List O} {fr : Fr} {H : List AO} {s : SR}, runTB call mt md late early Hs l fr H = some s → runT call mt md late early Hs l fr H = some s
  | _, _, [], _, _, _, h => by
    simp only [runTB] at h
    simp only [runT]
    exact lateB_le (fun h => h) h
  | late, Hs, o :: l, fr, H, s, h => by
    simp only [runTB] at h
    simp only [runT]
    refine lateB_le (fun h => ?_) h
    refine bind_mono (fun _ h => h) (fun b h => ?_) h
    cases b with
    | false => exact runTB_le h
    | true =>
      refine eaB_le (fun h => ?_) h
      refine bind_mono (fun _ h => h) (fun x h => ?_) h
      cases x with
      | go fr H => exact runTB_le h
      | pan a fr H => exact h
theorem loopB_le {b b' : Fr → List AO → Option S} {l : List Nat} (hb : ∀ fr H s, b fr H = some s → b' fr H = some s) {n : Nat} {fr : Fr} {H : List AO} {s : S} (h : loopN b l n fr H = some s) : loopN b' l n fr H = some s := loop_mono hb (Nat.le_refl n) h
theorem codeB_le {k : Nat} : ∀ {x : C} {fr : Fr} {H : List AO} {s : S}, codeB call mt md k x fr H = some s → code call mt md k x fr H = some s
  | .skip, _, _, _, h => h
  | .reg ops l, fr, H, s, h => h
  | .draw ops tail l late early, fr, H, s, h => bind_mono (fun _ h => h) (fun _ h => bind_mono (fun _ h => runTB_le h) (fun _ h => h) h) h
  | .seq a b, fr, H, s, h => by
    simp only [codeB] at h
    simp only [code]
    refine bind_mono (fun _ h => codeB_le h) (fun x h => ?_) h
    obtain ⟨e, fr1, H1⟩ := x
    cases e with
    | normal => exact codeB_le h
    | _ => exact h
  | .cond x a b, fr, H, s, h => by
    simp only [codeB] at h
    simp only [code]
    refine bind_mono (fun _ h => h) (fun t h => ?_) h
    cases t with
    | true => exact codeB_le h
    | false => exact codeB_le h
  | .block id c, fr, H, s, h => by
    simp only [codeB] at h
    simp only [code]
    exact bind_mono (fun _ h => codeB_le h) (fun _ h => h) h
  | .loop l c, fr, H, s, h => loopB_le (fun _ _ _ h => codeB_le h) h
  | .exit id, _, _, _, h => h
  | .ret, _, _, _, h => h
end
theorem callB_le {T : FuncId → Option F} {ov : Ov} {mt : TypeId → String → Option (FuncId × Option (Option Nat))} {md : FuncId → Md} : ∀ (k : Nat), Le (callB T ov mt md k) (call T ov mt md k)
  | 0, _, _, _, _, h => h
  | k + 1, f, args, H, r, h => by
    simp only [callB] at h
    simp only [call]
    cases ho : ov f with
    | some G => rw [ho] at h; exact h
    | none =>
      rw [ho] at h
      simp only at h ⊢
      refine bind_mono (fun _ h => h) (fun F h => ?_) h
      cases ha : (args.length == F.np) with
      | false => rw [ha] at h; cases h
      | true =>
        rw [ha] at h
        simp only [cond_true] at h ⊢
        exact bind_mono (fun _ h => code_mono (callB_le k) (Nat.le_refl k) (codeB_le h)) (fun _ h => h) h
end Go.Ai
