/- The abstract interpreter: regions that are drawn, one operation after another. No condition. -/
import Derived.Test.YtoemnjclhheeoaaA18
namespace Go.Ai
set_option linter.unusedVariables false
set_option linter.unusedSimpArgs false
set_option linter.unusedSectionVars false

section
variable {P : Program} {call : CallF} {mt : MtF} {md : FuncId → Md} {ow : List Nat} {nt : Nat} {ops : Array Oper} {h : Nat} {l : List O} {H : List AO} {fr : Fr}
  {F : Nat → Fr} {a : Nat → AV} {ob : Nat → AO} {HH : Nat → List AO} {m : Nat} {g0 : G} {w0 : World}

namespace DCtx
variable (C : DCtx P call mt md ow nt ops h l H fr F a ob HH m)
include C

theorem behind {L : Nat → Prop} (cl : ∀ (j : Nat) (o : Oper), L j → ops[j]? = some o → ∀ q ∈ preds o, L q) {i : Nat} {o : Oper} (hi : h ≤ i) (ho : ops[i]? = some o) (hN : isN P o.op = false) (hL : ¬ L i) (hq : ∀ q ∈ preds o, L q) :
    (∀ (p : Nat) (o : Oper), p < i → ops[p]? = some o → isN P o.op = false → L p) ∧ (∀ (p : Nat) (o : Oper), L p → ops[p]? = some o → isN P o.op = false → p < i) := by
  refine ⟨fun p o2 hp ho2 hn => C.anc_in' cl ho hq p (C.s3 i o p o2 ho hi hN ho2 hp hn), fun p o2 hp ho2 hn => ?_⟩
  by_cases hlt : p < i
  · exact hlt
  · exfalso
    have hne : p ≠ i := fun e => hL (e ▸ hp)
    exact hL (C.anc_in' cl ho2 (cl p o2 hp ho2) i (C.s3 p o2 i o ho2 (by omega) hn ho (by omega) hN))

theorem mkSI {L : Nat → Prop} {act : Act} {g g' : G} {w w' : World} {Hc Hx Hc' : List AO} (S : SI md P nt ops h l H fr a ob HH m g0 w0 L act g w Hc) {i : Nat} {o : Oper} (hi : i < m) (ho : ops[i]? = some o) (hL : ¬ L i) (hq : ∀ q ∈ preds o, L q)
    (s : Stp g w Hx g' w' Hc') (s' : Stp g0 w0 H g' w' Hc') (R : Rel g' w' Hc') {v : Value} (hv : VR g' w' (a i) v) (hh : HI md P ops h l H ob HH m g' (fun j => L j ∨ j = i) Hc') :
    SI md P nt ops h l H fr a ob HH m g0 w0 (fun j => L j ∨ j = i) (act.put o.dst v) g' w' Hc' := by
  obtain ⟨o', h1, h2⟩ := C.c i o ho
  refine ⟨s', R, by rw [put_size]; exact S.size, by rw [put_defers]; exact S.defers, C.fiStep S.fi s ho hL hv (fun d hd => by rw [S.size]; exact (compO_inv h2).2.2.1 d hd), hh, fun j hj => ?_, fun j o2 hj hjo q hqo => ?_⟩
  · rcases hj with hj | rfl
    · exact S.lm j hj
    · exact hi
  · rcases hj with hj | rfl
    · exact .inl (S.cl j o2 hj hjo q hqo)
    · rw [ho] at hjo; simp only [Option.some.injEq] at hjo; subst hjo
      exact .inl (hq q hqo)

theorem hiN {L : Nat → Prop} {g g' : G} {Hc : List AO} (hh : HI md P ops h l H ob HH m g L Hc) {i : Nat} {o : Oper} (ho : ops[i]? = some o) (hL : ¬ L i) (hN : isN P o.op = true) (hD : g'.D = g.D) : HI md P ops h l H ob HH m g' (fun j => L j ∨ j = i) Hc := by
  rcases hh with ⟨A1, ⟨obs, B1, B2, B3, B4⟩, A3⟩ | ⟨q, o2, q1, q2, q3, q4, q5, q6, q7⟩
  · refine .inl ⟨fun j o2 hj hjo hn => ?_, ⟨obs, B1, B2, fun j hj hx => ?_, fun j hj hx => B4 j hj fun h => hx (.inl h)⟩, fun j hj => ?_⟩
    · rcases hj with hj | rfl
      · exact A1 j o2 hj hjo hn
      · rw [ho] at hjo; simp only [Option.some.injEq] at hjo; subst hjo; rw [hN] at hn; cases hn
    · rcases hx with hx | rfl
      · exact B3 j hj hx
      · rw [B4 j hj hL, C.obN hj ho hN]
    · rw [hD] at hj
      exact ⟨.inl (A3 j hj).1, (A3 j hj).2⟩
  · refine .inr ⟨q, o2, .inl q1, q2, q3, q4, q5, fun j o3 hj hjo hn => ?_, q7⟩
    rcases hj with hj | rfl
    · exact q6 j o3 hj hjo hn
    · rw [ho] at hjo; simp only [Option.some.injEq] at hjo; subst hjo; rw [hN] at hn; cases hn

theorem headA {L : Nat → Prop} {g : G} {Hc : List AO} (hh : HI md P ops h l H ob HH m g L Hc) (cl : ∀ (j : Nat) (o : Oper), L j → ops[j]? = some o → ∀ q ∈ preds o, L q) {i : Nat} {o : Oper} (hi : i < h) (ho : ops[i]? = some o) (hL : ¬ L i) (hN : isN P o.op = false) :
    (∀ (i : Nat) (o : Oper), L i → ops[i]? = some o → isN P o.op = false → i < h) ∧ (∃ obs : List AO, obs.length = h ∧ Hc = H ++ obs ∧ (∀ j, j < h → L j → obs[j]? = some (ob j)) ∧ (∀ j, j < h → ¬ L j → obs[j]? = some .dead)) ∧
    ∀ j, g.D (H.length + j) → L j ∧ ∃ o' : O, l[j]? = some o' ∧ makes md o'.i = true := by
  rcases hh with hh | ⟨q, o2, q1, q2, q3, q4, q5, q6, q7⟩
  · exact hh
  · exact absurd (C.anc_in' cl q2 (cl q o2 q1 q2) i (C.s3 q o2 i o q2 q4 q3 ho (by omega) hN)) hL

theorem hiHead {L : Nat → Prop} {g g' : G} {obs : List AO} {i : Nat} {o : Oper} (hi : i < h) (ho : ops[i]? = some o) (hL : ¬ L i)
    (A1 : ∀ (i : Nat) (o : Oper), L i → ops[i]? = some o → isN P o.op = false → i < h) (B1 : obs.length = h) (B3 : ∀ j, j < h → L j → obs[j]? = some (ob j)) (B4 : ∀ j, j < h → ¬ L j → obs[j]? = some .dead)
    (A3 : ∀ j, g'.D (H.length + j) → (L j ∨ j = i) ∧ ∃ o' : O, l[j]? = some o' ∧ makes md o'.i = true) : HI md P ops h l H ob HH m g' (fun j => L j ∨ j = i) (H ++ obs.set i (ob i)) := by
  refine .inl ⟨fun j o2 hj hjo hn => ?_, ⟨obs.set i (ob i), by simp [B1], rfl, fun j hj hx => ?_, fun j hj hx => ?_⟩, A3⟩
  · rcases hj with hj | rfl
    · exact A1 j o2 hj hjo hn
    · exact hi
  · rw [List.getElem?_set]
    by_cases e : i = j
    · subst e; simp [B1, hi]
    · rw [if_neg e]
      rcases hx with hx | rfl
      · exact B3 j hj hx
      · exact absurd rfl e
  · rw [List.getElem?_set]
    by_cases e : i = j
    · exact absurd (.inr e.symm) hx
    · rw [if_neg e]
      exact B4 j hj fun h => hx (.inl h)

theorem take {L : Nat → Prop} {act : Act} {g : G} {w : World} {Hc : List AO} (S : SI md P nt ops h l H fr a ob HH m g0 w0 L act g w Hc) {i : Nat} {o : Oper} (hi : i < m) (ho : ops[i]? = some o) (hL : ¬ L i) (hq : ∀ q ∈ preds o, L q)
    (K : Act → World → Prop) (Q : Exit → Act → World → Prop) (hK : ∀ act' g' w' Hc', SI md P nt ops h l H fr a ob HH m g0 w0 (fun j => L j ∨ j = i) act' g' w' Hc' → K act' w') : wpOp P ops Q i K act w := by
  obtain ⟨o', h1, hc⟩ := C.c i o ho
  have A := C.agree S.fi S.cl ho (Nat.le_of_lt hi) hL hq
  have hI := (compO_inv hc).1
  have W : ∀ {b}, wanted o' (F i) = some b → Region.wanted o (yielded ops act.tmps) = b := fun hb => wanted_ok hc A (by rw [← C.wcongr hc]; exact hb)
  have noD : ¬ g.D Hc.length := fun h => Nat.lt_irrefl _ (S.rel.dom _ h)
  unfold wpOp
  rw [ho]
  simp only
  cases hN : isN P o.op with
  | true =>
    have T : (wanted o' (F i) = some true ∧ core call mt md Hc Hc.length o'.i (F i) = some (.val (a i) none)) ∨ (wanted o' (F i) = some false ∧ a i = .lit undef) := by
      by_cases hh : i < h
      · rcases (C.th i o' hh h1).2 with ⟨x1, x, x2, _⟩ | ⟨x1, x2, _⟩
        · obtain ⟨y, hy, hz⟩ := core_N hN hI x2
          cases hy
          exact .inl ⟨x1, hz _ _⟩
        · exact .inr ⟨x1, x2⟩
      · rcases (C.tt i o' (by omega) hi h1).2 with ⟨x1, out, x2, x3⟩ | ⟨x1, x2, _⟩
        · obtain ⟨y, rfl, hz⟩ := core_N hN hI x2
          obtain ⟨rfl, _⟩ := x3
          exact .inl ⟨x1, hz _ _⟩
        · exact .inr ⟨x1, x2⟩
    rcases T with ⟨x1, x2⟩ | ⟨x1, x2⟩
    · rw [if_pos (W x1)]
      left
      rw [C.congr hc] at x2
      refine core_ok C.co C.mo x2 hI A S.rel (Nat.le_refl _) noD K Q (fun v w' ha => ?_) (fun v w' ha => ?_)
      · obtain ⟨_, g', k1, k2, k3, k4⟩ := ha
        exact hK _ _ _ _ (C.mkSI S hi ho hL hq k4 (S.stp.trans k4) k3 k2 (C.hiN S.hi ho hL hN k1))
      · obtain ⟨k, _⟩ := ha; cases k
    · rw [if_neg (by rw [W x1]; decide)]
      exact hK _ _ _ _ (C.mkSI S hi ho hL hq (Stp.refl (H := Hc)) S.stp S.rel (by rw [x2]; exact .fv _ _ (.lit _)) (C.hiN S.hi ho hL hN rfl))
  | false =>
    by_cases hh : i < h
    · obtain ⟨A1, ⟨obs, B1, B2, B3, B4⟩, A3⟩ := C.headA S.hi S.cl hh ho hL hN
      have same : ob i = .dead → H ++ obs.set i (ob i) = Hc := by
        intro e
        rw [B2, e]
        congr 1
        apply List.ext_getElem?
        intro j
        rw [List.getElem?_set]
        by_cases ej : i = j
        · subst ej; rw [B4 i hh hL]; simp [B1, hh]
        · rw [if_neg ej]
      rcases (C.th i o' hh h1).2 with ⟨x1, x, x2, x3⟩ | ⟨x1, x2, x3⟩
      · rw [if_pos (W x1)]
        left
        have x2' : core call mt md Hc (H.length + i) o'.i (keep (looks ops o) (F i)) = some (.val (a i) x) := by
          rw [← C.congr hc, B2]; exact core_ext x2
        refine core_ok C.co C.mo x2' hI A S.rel (by rw [B2, List.length_append]; omega) (fun hd => hL (A3 i hd).1) K Q (fun v w' ha => ?_) (fun v w' ha => ?_)
        · cases x with
          | none =>
            obtain ⟨_, g', k1, k2, k3, k4⟩ := ha
            refine hK _ _ _ _ (C.mkSI S hi ho hL hq k4 (S.stp.trans k4) k3 k2 ?_)
            rw [← same x3]
            exact C.hiHead hh ho hL A1 B1 B3 B4 (fun j hj => ⟨.inl (A3 j (k1 ▸ hj)).1, (A3 j (k1 ▸ hj)).2⟩) (g := g)
          | some b =>
            obtain ⟨_, g', k1, k2, k3, k4⟩ := ha
            have e : setO Hc (H.length + i) b = H ++ obs.set i (ob i) := by
              unfold setO
              rw [if_pos (by rw [B2, List.length_append]; omega), B2, List.set_append_right _ _ (by omega)]
              rw [show H.length + i - H.length = i by omega, x3]
              rfl
            refine hK _ _ _ _ (C.mkSI S hi ho hL hq k4 (S.stp.trans k4) k3 k2 ?_)
            rw [e]
            refine C.hiHead hh ho hL A1 B1 B3 B4 (fun j hj => ?_) (g := g)
            rcases k1 _ hj with hj | hj
            · exact ⟨.inl (A3 j hj).1, (A3 j hj).2⟩
            · have : j = i := by omega
              subst this
              exact ⟨.inr rfl, o', h1, core_makes x2⟩
        · cases x <;> (obtain ⟨k, _⟩ := ha; cases k)
      · rw [if_neg (by rw [W x1]; decide)]
        refine hK _ _ _ _ (C.mkSI S hi ho hL hq (Stp.refl (H := Hc)) S.stp S.rel (by rw [x2]; exact .fv _ _ (.lit _)) ?_)
        rw [← same x3]
        exact C.hiHead hh ho hL A1 B1 B3 B4 (fun j hj => ⟨.inl (A3 j hj).1, (A3 j hj).2⟩) (g := g)
    · obtain ⟨b1, b2⟩ := C.behind S.cl (by omega) ho hN hL hq
      obtain ⟨R, st⟩ := C.transfer S (by omega) (Nat.le_of_lt hi) b1 b2
      have noD' : ¬ g.D (HH i).length := fun h => Nat.lt_irrefl _ (R.dom _ h)
      have hiT : ∀ g' : G, HI md P ops h l H ob HH m g' (fun j => L j ∨ j = i) (HH (i + 1)) := fun g' =>
        .inr ⟨i, o, .inr rfl, ho, hN, by omega, hi, fun j o2 hj hjo hn => by
          rcases hj with hj | rfl
          · exact Nat.le_of_lt (b2 j o2 hj hjo hn)
          · exact Nat.le_refl _, rfl⟩
      rcases (C.tt i o' (by omega) hi h1).2 with ⟨x1, out, x2, x3⟩ | ⟨x1, x2, x3⟩
      · rw [if_pos (W x1)]
        left
        rw [C.congr hc] at x2
        refine core_ok C.co C.mo x2 hI A R (Nat.le_refl _) noD' K Q (fun v w' ha => ?_) (fun v w' ha => ?_)
        · cases out with
          | val y ox =>
            cases ox with
            | none =>
              obtain ⟨_, g', k1, k2, k3, k4⟩ := ha
              obtain ⟨e1, e2⟩ := x3
              refine hK _ g' w' (HH (i + 1)) (C.mkSI S hi ho hL hq (Hx := HH i) ?_ ?_ ?_ (by rw [e1]; exact k2) (hiT g'))
              · rw [e2]; exact k4
              · rw [e2]; exact st.trans k4
              · rw [e2]; exact k3
            | some b =>
              obtain ⟨_, g', k1, k2, k3, k4⟩ := ha
              obtain ⟨e1, e2⟩ := x3
              rw [setO_len] at k3 k4
              refine hK _ g' w' (HH (i + 1)) (C.mkSI S hi ho hL hq (Hx := HH i) ?_ ?_ ?_ (by rw [e1]; exact k2) (hiT g'))
              · rw [e2]; exact k4
              · rw [e2]; exact st.trans k4
              · rw [e2]; exact k3
          | wr y H1 =>
            obtain ⟨_, g', k2, k3, k4⟩ := ha
            obtain ⟨e1, e2⟩ := x3
            refine hK _ g' w' (HH (i + 1)) (C.mkSI S hi ho hL hq (Hx := HH i) ?_ ?_ ?_ (by rw [e1]; exact k2) (hiT g'))
            · rw [e2]; exact k4
            · rw [e2]; exact st.trans k4
            · rw [e2]; exact k3
          | fz y ids =>
            obtain ⟨_, g', k2, k3, k4, _⟩ := ha
            obtain ⟨e1, e2⟩ := x3
            refine hK _ g' w' (HH (i + 1)) (C.mkSI S hi ho hL hq (Hx := HH i) ?_ ?_ ?_ (by rw [e1]; exact k2) (hiT g'))
            · rw [e2]; exact k4
            · rw [e2]; exact st.trans k4
            · rw [e2]; exact k3
          | pan y H1 => exact x3.elim
        · cases out with
          | val y ox => cases ox <;> (obtain ⟨k, _⟩ := ha; cases k)
          | wr y H1 => obtain ⟨k, _⟩ := ha; cases k
          | fz y ids => obtain ⟨k, _⟩ := ha; cases k
          | pan y H1 => exact x3.elim
      · rw [if_neg (by rw [W x1]; decide)]
        refine hK _ g w (HH (i + 1)) (C.mkSI S hi ho hL hq (Stp.refl (H := HH (i + 1))) (by rw [x3]; exact st) (by rw [x3]; exact R) (by rw [x2]; exact .fv _ _ (.lit _)) (hiT g))

theorem takeP {L : Nat → Prop} {act : Act} {g : G} {w : World} {Hc : List AO} (S : SI md P nt ops h l H fr a ob HH m g0 w0 L act g w Hc) {o : Oper} {o' : O} {b : AV} {H' : List AO} (ho : ops[m]? = some o) (hL : ¬ L m) (hq : ∀ q ∈ preds o, L q)
    (h1 : l[m]? = some o') (x1 : wanted o' (F m) = some true) (x2 : core call mt md (HH m) (HH m).length o'.i (F m) = some (.pan b H')) (K : Act → World → Prop) (Q : Exit → Act → World → Prop)
    (hQ : ∀ g w act v, Stp g0 w0 H g w H' → Sit nt g w H' (dropD l (F m)) act → VR g w b v → Q (.panic [{ v, recovered := false }]) act w) : wpOp P ops Q m K act w := by
  obtain ⟨o2, h2, hc⟩ := C.c m o ho
  rw [h1] at h2; simp only [Option.some.injEq] at h2; subst h2
  have A := C.agree S.fi S.cl ho (Nat.le_refl _) hL hq
  have hI := (compO_inv hc).1
  unfold wpOp
  rw [ho]
  simp only
  rw [if_pos (wanted_ok hc A (by rw [← C.wcongr hc]; exact x1))]
  left
  have hN : isN P o.op = false := by
    cases hN : isN P o.op with
    | false => rfl
    | true => obtain ⟨y, hy, _⟩ := core_N hN hI x2; cases hy
  obtain ⟨b1, b2⟩ := C.behind S.cl C.hm ho hN hL hq
  obtain ⟨R, st⟩ := C.transfer S C.hm (Nat.le_refl _) b1 b2
  have noD' : ¬ g.D (HH m).length := fun h => Nat.lt_irrefl _ (R.dom _ h)
  rw [C.congr hc] at x2
  refine core_ok C.co C.mo x2 hI A R (Nat.le_refl _) noD' K Q (fun v w' ha => ?_) (fun v w' ha => ?_)
  · obtain ⟨k, _⟩ := ha; cases k
  · obtain ⟨_, g', k1, k2, k3⟩ := ha
    refine hQ g' w' act v (st.trans k3) ⟨k2, fun t => ?_, S.size, S.defers⟩ k1
    rcases get_dropD l (F m) t with e | ⟨e1, e2⟩
    · rw [e]; exact .fv _ _ (.any _)
    · rw [e1]
      have none : ∀ (j : Nat) (o : Oper), ops[j]? = some o → o.dst ≠ some t := by
        intro j o hj e
        obtain ⟨o3, h3, h4⟩ := C.c j o hj
        exact e2 o3 (List.mem_of_getElem? h3) (by rw [(compO_inv h4).2.1]; exact e)
      rcases C.frame t m (Nat.le_refl _) with ⟨j, o3, _, j2, j3, _⟩ | ⟨_, j2⟩
      · exact absurd j3 (none j o3 j2)
      · rw [j2]
        rcases S.fi t with ⟨j, o3, _, k2, k3, _⟩ | ⟨_, k⟩
        · exact absurd k3 (none j o3 k2)
        · exact k3.vr k

theorem done {L : Nat → Prop} {act : Act} {g : G} {w : World} {Hc : List AO} (S : SI md P nt ops h l H fr a ob HH m g0 w0 L act g w Hc) (hm : m = ops.size) (all : ∀ j, j < m → L j) : Stp g0 w0 H g w (HH m) ∧ Sit nt g w (HH m) (F m) act := by
  obtain ⟨R, st⟩ := C.transfer S C.hm (Nat.le_refl _) (fun p _ hp _ _ => all p hp) (fun p _ hp _ _ => S.lm p hp)
  refine ⟨st, R, fun t => ?_, S.size, S.defers⟩
  rcases C.frame t m (Nat.le_refl _) with ⟨j, o, j1, j2, j3, j4⟩ | ⟨j1, j2⟩
  · rw [j4]
    rcases S.fi t with ⟨j', o', k1, k2, k3, k4⟩ | ⟨k1, _⟩
    · have := C.dst_inj j2 k2 j3 k3
      subst this; exact k4
    · exact absurd j3 (k1 j o (all j j1) j2)
  · rw [j2]
    rcases S.fi t with ⟨j', o', k1, k2, k3, k4⟩ | ⟨_, k⟩
    · exact absurd k3 (j1 j' o' (S.lm j' k1) k2)
    · exact k
end DCtx

theorem ready_mem {listed : Array Bool} (hs : listed.size = ops.size) {i : Nat} (hm : i ∈ Region.ready .any ops listed) : ∃ o, ops[i]? = some o ∧ listed[i]? = some false ∧ ∀ q ∈ preds o, listed[q]? = some true := by
  unfold Region.ready at hm
  obtain ⟨h1, h2⟩ := List.mem_filter.1 hm
  have hlt : i < ops.size := by simpa using h1
  have ho : ops[i]? = some ops[i] := Array.getElem?_eq_getElem hlt
  rw [ho] at h2
  simp only [Option.map_some, Option.getD_some, Bool.and_eq_true, Bool.not_eq_true', Array.all_eq_true'] at h2
  obtain ⟨h2, h3⟩ := h2
  refine ⟨_, ho, ?_, fun q hq => ?_⟩
  · rw [Array.getD_eq_getD_getElem?] at h2
    rw [Array.getElem?_eq_getElem (by omega)] at h2 ⊢
    simpa using h2
  · unfold preds at hq
    obtain ⟨e, he, rfl⟩ := List.mem_map.1 hq
    obtain ⟨e1, e2⟩ := List.mem_filter.1 he
    have := h3 e (by simpa using e1)
    rw [e2] at this
    simp only [Bool.not_true, Bool.false_or] at this
    rw [Array.getD_eq_getD_getElem?] at this
    cases hx : listed[e.on]? with
    | none => rw [hx] at this; cases this
    | some b => rw [hx] at this; simp at this; rw [this]

theorem ready_nil {listed : Array Bool} (s1 : ∀ (i : Nat) (o : Oper), ops[i]? = some o → ∀ q ∈ preds o, q < i) (hs : listed.size = ops.size) (hm : Region.ready .any ops listed = []) : ∀ i, i < ops.size → listed[i]? = some true := by
  intro i
  induction i using Nat.strongRecOn with
  | _ i ih =>
    intro hlt
    have ho : ops[i]? = some ops[i] := Array.getElem?_eq_getElem hlt
    have hl : listed[i]? = some listed[i] := Array.getElem?_eq_getElem (by omega)
    cases hb : listed[i] with
    | true => rw [hl, hb]
    | false =>
      exfalso
      have : i ∈ Region.ready .any ops listed := by
        unfold Region.ready
        refine List.mem_filter.2 ⟨by simpa using hlt, ?_⟩
        rw [ho]
        simp only [Option.map_some, Option.getD_some, Bool.and_eq_true, Bool.not_eq_true', Array.all_eq_true']
        refine ⟨by rw [Array.getD_eq_getD_getElem?, hl, hb]; rfl, fun e he => ?_⟩
        cases hx : Region.binds .any e with
        | false => rfl
        | true =>
          have hq : e.on ∈ preds ops[i] := List.mem_map.2 ⟨e, List.mem_filter.2 ⟨by simpa using he, hx⟩, rfl⟩
          have hlt' := s1 i _ ho _ hq
          rw [Array.getD_eq_getD_getElem?, ih _ hlt' (by omega)]; rfl
      rw [hm] at this; cases this

theorem listed_set {listed : Array Bool} {i : Nat} (hi : i < listed.size) (j : Nat) : (listed.setIfInBounds i true)[j]? = some true ↔ (listed[j]? = some true ∨ j = i) := by
  rw [Array.getElem?_setIfInBounds]
  by_cases e : i = j
  · subst e; simp [hi]
  · rw [if_neg e]
    constructor
    · exact .inl
    · rintro (h | h)
      · exact h
      · exact absurd h.symm e

theorem count_set : ∀ {l : List Bool} {i : Nat}, l[i]? = some false → (l.set i true).count false + 1 = l.count false
  | [], i, h => by cases h
  | b :: l, 0, h => by
    simp only [List.getElem?_cons_zero, Option.some.injEq] at h; subst h
    simp
  | b :: l, i + 1, h => by
    simp only [List.getElem?_cons_succ] at h
    have := count_set h
    simp only [List.set_cons_succ, List.count_cons]
    omega

/-- All of a drawn region. -/
theorem any_ok (C : DCtx P call mt md ow nt ops h l H fr F a ob HH m) (Q : Exit → Act → World → Prop)
    (hQ : (m = ops.size ∧ ∀ g w act, Stp g0 w0 H g w (HH m) → Sit nt g w (HH m) (F m) act → Q .normal act w) ∨
      (m + 1 = ops.size ∧ ∃ o' b H', l[m]? = some o' ∧ wanted o' (F m) = some true ∧ core call mt md (HH m) (HH m).length o'.i (F m) = some (.pan b H') ∧
        ∀ g w act v, Stp g0 w0 H g w H' → Sit nt g w H' (dropD l (F m)) act → VR g w b v → Q (.panic [{ v, recovered := false }]) act w)) :
    ∀ (fuel : Nat) (listed : Array Bool) (act : Act) (g : G) (w : World) (Hc : List AO), listed.size = ops.size → listed.toList.count false ≤ fuel → SI md P nt ops h l H fr a ob HH m g0 w0 (fun j => listed[j]? = some true) act g w Hc →
      wpAny P .any ops Q fuel listed act w := by
  have fin : ∀ (listed : Array Bool) (act : Act) (g : G) (w : World) (Hc : List AO), listed.size = ops.size → SI md P nt ops h l H fr a ob HH m g0 w0 (fun j => listed[j]? = some true) act g w Hc → Region.ready .any ops listed = [] → Q .normal act w := by
    intro listed act g w Hc hs S hr
    have all := ready_nil C.s1 hs hr
    rcases hQ with ⟨hm, hQ⟩ | ⟨hm, _⟩
    · obtain ⟨d1, d2⟩ := C.done S hm (fun j hj => all j (by omega))
      exact hQ _ _ _ d1 d2
    · have := S.lm m (all m (by omega))
      omega
  intro fuel
  induction fuel with
  | zero =>
    intro listed act g w Hc hs hc S
    have all : ∀ i, i < listed.size → listed[i]? = some true := by
      intro i hi
      have h0 : listed.toList.count false = 0 := by omega
      rw [List.count_eq_zero] at h0
      rw [Array.getElem?_eq_getElem hi]
      cases hb : listed[i] with
      | true => rfl
      | false => exact absurd (by rw [← hb]; simp) h0
    have hr : Region.ready .any ops listed = [] := by
      cases hr : Region.ready .any ops listed with
      | nil => rfl
      | cons i r =>
        obtain ⟨o, h1, h2, _⟩ := ready_mem hs (i := i) (by rw [hr]; exact List.mem_cons_self ..)
        have hlt := (Array.getElem?_eq_some_iff.1 h1).1
        rw [all i (by omega)] at h2; cases h2
    exact ⟨hr, fin listed act g w Hc hs S hr⟩
  | succ fuel ih =>
    intro listed act g w Hc hs hc S
    refine ⟨fin listed act g w Hc hs S, fun i hi => ?_⟩
    obtain ⟨o, h1, h2, h3⟩ := ready_mem hs hi
    have hL : ¬ (listed[i]? = some true) := by rw [h2]; simp
    have hlt := (Array.getElem?_eq_some_iff.1 h1).1
    by_cases him : i < m
    · refine C.take S him h1 hL h3 _ Q fun act' g' w' Hc' S' => ih _ act' g' w' Hc' (by simpa using hs) ?_ ?_
      · have := count_set (l := listed.toList) (i := i) (by rw [Array.getElem?_toList]; exact h2)
        rw [Array.toList_setIfInBounds]
        omega
      · have e : (fun j => (listed.setIfInBounds i true)[j]? = some true) = fun j => (listed[j]? = some true ∨ j = i) := by
          funext j; exact propext (listed_set (by omega) j)
        rw [e]; exact S'
    · rcases hQ with ⟨hm, _⟩ | ⟨hm, o', b, H', k1, k2, k3, k4⟩
      · omega
      · have : i = m := by omega
        subst this
        exact C.takeP S h1 hL h3 k1 k2 k3 _ Q k4
end
end Go.Ai
