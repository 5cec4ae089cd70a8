/- The abstract interpreter: functions that defer. No condition. -/
import Derived.Test.YtkogkfpiijmbgaaG3
import Derived.Recover
set_option linter.unusedSimpArgs false
set_option linter.unusedVariables false
set_option linter.unusedSectionVars false
namespace Go.Ai
inductive Sp where
  | code (c : C)
  | dfr (pre : List O) (x : X) (args : List X) (post : List O) (l : List Nat)
abbrev Dfr := AV × List AV
def dfrOf (o : Oper) : Option (X × List X) :=
  match o.op, o.guard, o.dst with
  | .defer c, none, none => match c.callee with
    | .value f => some (cx f, c.args.toList.map cx)
    | _ => none
  | _, _, _ => none
def splitD : List Oper → Option (List Oper × Oper × List Oper)
  | [] => none
  | o :: r => match dfrOf o with
    | some _ => some ([], o, r)
    | none => (splitD r).map fun p => (o :: p.1, p.2.1, p.2.2)
theorem splitD_eq : ∀ {l : List Oper} {a b : List Oper} {o : Oper}, splitD l = some (a, o, b) → l = a ++ o :: b ∧ ∃ d, dfrOf o = some d
  | [], _, _, _, h => by cases h
  | x :: r, a, b, o, h => by
    unfold splitD at h
    cases hx : dfrOf x with
    | some d =>
      rw [hx] at h
      simp only [Option.some.injEq, Prod.mk.injEq] at h
      obtain ⟨rfl, rfl, rfl⟩ := h
      exact ⟨rfl, d, hx⟩
    | none =>
      rw [hx] at h
      simp only at h
      obtain ⟨⟨a', o', b'⟩, h1, h2⟩ := Option.map_eq_some_iff.1 h
      simp only [Prod.mk.injEq] at h2
      obtain ⟨rfl, rfl, rfl⟩ := h2
      obtain ⟨e, hd⟩ := splitD_eq h1
      exact ⟨by rw [e]; rfl, hd⟩
def compSp (P : Program) (A : Ann) (nt : Nat) (b : Nat) : Code → Option (List Sp)
  | .seq x y => (compSp P A nt b x).bind fun l => (compSp P A nt b y).bind fun r => some (l ++ r)
  | .region id ops draw => match draw, splitD ops.toList with
    | false, some (p, o, q) => (p.mapM (compO P A.ow nt ops)).bind fun p => (q.mapM (compO P A.ow nt ops)).bind fun q => (dfrOf o).bind fun d => some [.dfr p d.1 d.2 q (A.keepR id)]
    | _, _ => (comp P A nt b (.region id ops draw)).bind fun c => some [.code c]
  | c => (comp P A nt b c).bind fun c => some [.code c]
def isFn : AV → Bool
  | .fn _ _ _ => true
  | _ => false
section
variable (cw : C → Fr → List AO → Option S) (rn : List O → Fr → List AO → Option SR)
def spW : List Sp → Fr → List AO → List Dfr → Option (S × List Dfr)
  | [], fr, H, ds => some ((.normal, fr, H), ds)
  | .code c :: r, fr, H, ds => (cw c fr H).bind fun s => match s.1 with
    | .normal => spW r s.2.1 s.2.2 ds
    | _ => some (s, ds)
  | .dfr p x args q l :: r, fr, H, ds => (rn p fr H).bind fun
    | .go fr1 H1 => (if isFn (ev fr1 x) = true then rn q fr1 H1 else none).bind fun
      | .go fr2 H2 => spW r (keep l fr2) H2 ((ev fr1 x, args.map (ev fr1)) :: ds)
      | .pan a fr2 H2 => some ((.pan a, fr2, H2), (ev fr1 x, args.map (ev fr1)) :: ds)
    | .pan a fr1 H1 => some ((.pan a, fr1, H1), ds)
theorem spW_append : ∀ (l r : List Sp) (fr : Fr) (H : List AO) (ds : List Dfr), spW cw rn (l ++ r) fr H ds = (spW cw rn l fr H ds).bind fun p => match p.1.1 with
    | .normal => spW cw rn r p.1.2.1 p.1.2.2 p.2
    | _ => some p
  | [], r, fr, H, ds => rfl
  | .code c :: l, r, fr, H, ds => by
    simp only [List.cons_append, spW]
    cases cw c fr H with
    | none => rfl
    | some s =>
      obtain ⟨e, fr1, H1⟩ := s
      cases e with
      | normal => exact spW_append l r fr1 H1 ds
      | _ => rfl
  | .dfr p x args q k :: l, r, fr, H, ds => by
    simp only [List.cons_append, spW]
    cases rn p fr H with
    | none => rfl
    | some s =>
      cases s with
      | pan a fr1 H1 => rfl
      | go fr1 H1 =>
        simp only [Option.bind_some]
        cases (if isFn (ev fr1 x) = true then rn q fr1 H1 else none) with
        | none => rfl
        | some s2 =>
          cases s2 with
          | pan a fr2 H2 => rfl
          | go fr2 H2 => exact spW_append l r _ H2 _
end
inductive DRel (g : G) (w : World) : List Dfr → List Deferred → Prop
  | nil : DRel g w [] []
  | cons {a : AV} {as : List AV} {ds : List Dfr} {f : Fn} {first cap args : Array Value} {Ds : List Deferred} (h : VR g w a (.func f first cap)) (hs : VRs g w as args.toList) (r : DRel g w ds Ds) :
      DRel g w ((a, as) :: ds) ({ target := .fn f cap, args := first ++ args } :: Ds)
theorem DRel.step {g g' : G} {w w' : World} {H H' : List AO} {ds : List Dfr} {Ds : List Deferred} (h : DRel g w ds Ds) (s : Stp g w H g' w' H') : DRel g' w' ds Ds := by
  induction h with
  | nil => exact .nil
  | cons h hs _ ih => exact .cons (s.vr h) ⟨hs.1, fun i a v ha hv => s.vr (hs.2 i a v ha hv)⟩ ih
def SpPost (nt : Nat) (g : G) (w : World) (H : List AO) (Q : Exit → Act → World → Prop) (p : S × List Dfr) : Prop :=
  ∀ g' w' act' Ds, Stp g w H g' w' p.1.2.2 → Sit nt Ds g' w' p.1.2.2 p.1.2.1 act' → DRel g' w' p.2 Ds → match p.1.1 with
  | .normal => Q .normal act' w'
  | .exit id => Q (.exit id) act' w'
  | .ret => Q .ret act' w'
  | .pan a => ∀ v, VR g' w' a v → Q (.panic [{ v, recovered := false }]) act' w'
section
variable {P : Program} {call : CallF} {mt : MtF} {md : FuncId → Md}
def CdOk (P : Program) (A : Ann) (nt : Nat) (cw : C → Fr → List AO → Option S) : Prop := ∀ (x : Code) (b : Nat) (c : C), comp P A nt b x = some c →
  ∀ (ds : List Deferred) (fr : Fr) (H : List AO) (s : Ai.S) (g : G) (w : World) (act : Act), Sit nt ds g w H fr act → cw c fr H = some s → ∀ Q, EPost nt ds g w H Q s → x.wp P Q act w
def RPost (nt : Nat) (ds : List Deferred) (g : G) (w : World) (H : List AO) (K : Act → World → Prop) (Q : Exit → Act → World → Prop) : SR → Prop
  | .go fr' H' => ∀ g' w' act', Stp g w H g' w' H' → Sit nt ds g' w' H' fr' act' → K act' w'
  | .pan a fr' H' => ∀ g' w' act' v, Stp g w H g' w' H' → Sit nt ds g' w' H' fr' act' → VR g' w' a v → Q (.panic [{ v, recovered := false }]) act' w'
theorem RPost.step {nt : Nat} {ds : List Deferred} {g g1 : G} {w w1 : World} {H H1 : List AO} {K : Act → World → Prop} {Q : Exit → Act → World → Prop} {s : SR} (h : RPost nt ds g w H K Q s) (st : Stp g w H g1 w1 H1) : RPost nt ds g1 w1 H1 K Q s := by
  cases s with
  | go fr' H' => exact fun g' w' act' h1 h2 => h g' w' act' (st.trans h1) h2
  | pan a fr' H' => exact fun g' w' act' v h1 h2 h3 => h g' w' act' v (st.trans h1) h2 h3
theorem run_okR {ow : List Nat} {nt : Nat} {ds : List Deferred} {ops : Array Oper} (CO : CallOk P call) (MT : MtOk P mt) {Q : Exit → Act → World → Prop} (rest : List Oper) : ∀ (l : List Oper) (l' : List O) (fr : Fr) (H : List AO) (s : SR) (g : G) (w : World) (act : Act),
    l.mapM (compO P ow nt ops) = some l' → Sit nt ds g w H fr act → run call mt md l' fr H = some s → RPost nt ds g w H (wpList P ops Q rest) Q s → wpList P ops Q (l ++ rest) act w
  | [], l', fr, H, s, g, w, act, hc, S, h, hq => by
    simp only [List.mapM_nil, Option.pure_def, Option.some.injEq] at hc; subst hc
    simp only [run, Option.some.injEq] at h; subst h
    exact hq g w act Stp.refl S
  | o :: l, l', fr, H, s, g, w, act, hc, S, h, hq => by
    rw [List.mapM_cons] at hc
    obtain ⟨o', h1, hc⟩ := Option.bind_eq_some_iff.1 hc
    obtain ⟨l2, h2, hc⟩ := Option.bind_eq_some_iff.1 hc
    simp only [Option.pure_def, Option.some.injEq] at hc; subst hc
    simp only [run] at h
    obtain ⟨b, hb, h⟩ := Option.bind_eq_some_iff.1 h
    have hw := wanted_ok h1 S.fr hb
    rw [List.cons_append]
    unfold wpList
    cases b with
    | true =>
      rw [if_pos hw]
      obtain ⟨s1, hs, h⟩ := Option.bind_eq_some_iff.1 h
      left
      refine step_ok CO MT h1 S hs _ Q (fun fr' H' e g' w' act' st S' => ?_) (fun a fr' H' e g' w' v st S' hv => ?_)
      · subst e
        exact run_okR CO MT rest l l2 fr' H' s g' w' act' h2 S' h (hq.step st)
      · subst e
        simp only [Option.some.injEq] at h; subst h
        exact hq g' w' act v st S' hv
    | false =>
      rw [if_neg (by rw [hw]; decide)]
      obtain ⟨_, hdst, hlt, _⟩ := compO_inv h1
      refine run_okR CO MT rest l l2 _ H s g w (act.put o.dst undef) h2 ⟨S.rel, ?_, by rw [put_size]; exact S.size, by rw [put_defers]; exact S.defers⟩ h hq
      rw [← hdst]
      exact S.fr.put o'.dst _ _ (.fv _ _ (.lit _)) (fun t ht => by rw [S.size]; exact hlt t (hdst ▸ ht))
theorem dfr_run {o : Oper} {d : X × List X} (hd : dfrOf o = some d) {fr : Fr} {act : Act} {g : G} {w : World} (F : FRel g w fr act) {f : Fn} {a b : List AV} (he : ev fr d.1 = .fn f a b) :
    ∃ (first cap args : Array Value), VR g w (ev fr d.1) (.func f first cap) ∧ VRs g w (d.2.map (ev fr)) args.toList ∧ (execOp act.eval o).run P w = .ok (.defer { target := .fn f cap, args := first ++ args }) w ∧ o.dst = none ∧ o.guard = none := by
  unfold dfrOf at hd
  split at hd
  · rename_i c h1 h2 h3
    split at hd
    · rename_i x hx
      simp only [Option.some.injEq] at hd; subst hd
      have hv := ev_vr F x
      simp only at he
      rw [he] at hv
      obtain ⟨vs, us, e, _⟩ := hv.fn_inv
      have ha := evs_vr F c.args
      refine ⟨vs, us, c.args.map act.eval, by simp only; rw [← e]; exact ev_vr F x, ?_, ?_, h3, h2⟩
      · exact ha
      · simp only [execOp, h1, resolve, hx, Deferred.ofValue, e]
        simp
    · cases hd
  · cases hd
theorem sp_ok {A : Ann} {nt : Nat} {cw : C → Fr → List AO → Option S} (CO : CallOk P call) (MT : MtOk P mt) (CD : CdOk P A nt cw) : ∀ (x : Code) (b : Nat) (l : List Sp), compSp P A nt b x = some l →
    ∀ (ds : List Dfr) (Ds : List Deferred) (fr : Fr) (H : List AO) (p : Ai.S × List Dfr) (g : G) (w : World) (act : Act), Sit nt Ds g w H fr act → DRel g w ds Ds → spW cw (run call mt md) l fr H ds = some p → ∀ Q, SpPost nt g w H Q p → x.wp P Q act w := by
  have base : ∀ (x : Code) (b : Nat) (c : C), comp P A nt b x = some c → ∀ (ds : List Dfr) (Ds : List Deferred) (fr : Fr) (H : List AO) (p : Ai.S × List Dfr) (g : G) (w : World) (act : Act), Sit nt Ds g w H fr act → DRel g w ds Ds → spW cw (run call mt md) [.code c] fr H ds = some p → ∀ Q, SpPost nt g w H Q p → x.wp P Q act w := by
    intro x b c hc ds Ds fr H p g w act S D h Q hQ
    simp only [spW] at h
    obtain ⟨s, hs, h⟩ := Option.bind_eq_some_iff.1 h
    refine CD x b c hc Ds fr H s g w act S hs Q ?_
    obtain ⟨e, fr1, H1⟩ := s
    cases e with
    | normal =>
      simp only [Option.some.injEq] at h; subst h
      exact fun g' w' act' st S' => hQ g' w' act' Ds st S' (D.step st)
    | exit id =>
      simp only [Option.some.injEq] at h; subst h
      exact fun g' w' act' st S' => hQ g' w' act' Ds st S' (D.step st)
    | ret =>
      simp only [Option.some.injEq] at h; subst h
      exact fun g' w' act' st S' => hQ g' w' act' Ds st S' (D.step st)
    | pan a =>
      simp only [Option.some.injEq] at h; subst h
      exact fun g' w' act' v st S' hv => hQ g' w' act' Ds st S' (D.step st) v hv
  intro x
  induction x with
  | seq x y ihx ihy =>
    intro b l hc ds Ds fr H p g w act S D h Q hQ
    simp only [compSp] at hc
    obtain ⟨l1, h1, hc⟩ := Option.bind_eq_some_iff.1 hc
    obtain ⟨l2, h2, hc⟩ := Option.bind_eq_some_iff.1 hc
    simp only [Option.some.injEq] at hc; subst hc
    rw [spW_append] at h
    obtain ⟨p1, h3, h⟩ := Option.bind_eq_some_iff.1 h
    refine wp_seq (ihx b l1 h1 ds Ds fr H p1 g w act S D h3 _ ?_)
    obtain ⟨⟨e, fr1, H1⟩, ds1⟩ := p1
    intro g' w' act' Ds' st S' D'
    cases e with
    | normal =>
      simp only at h ⊢
      refine ihy b l2 h2 ds1 Ds' fr1 H1 p g' w' act' S' D' h Q ?_
      exact fun g2 w2 act2 Ds2 st2 S2 D2 => hQ g2 w2 act2 Ds2 (st.trans st2) S2 D2
    | exit id =>
      simp only [Option.some.injEq] at h; subst h
      exact hQ g' w' act' Ds' st S' D'
    | ret =>
      simp only [Option.some.injEq] at h; subst h
      exact hQ g' w' act' Ds' st S' D'
    | pan a =>
      simp only [Option.some.injEq] at h; subst h
      exact hQ g' w' act' Ds' st S' D'
  | region id ops draw =>
    intro b l hc
    simp only [compSp] at hc
    split at hc
    · rename_i p o q heq
      obtain ⟨p', h1, hc⟩ := Option.bind_eq_some_iff.1 hc
      obtain ⟨q', h2, hc⟩ := Option.bind_eq_some_iff.1 hc
      obtain ⟨d, h3, hc⟩ := Option.bind_eq_some_iff.1 hc
      simp only [Option.some.injEq] at hc; subst hc
      obtain ⟨e, _⟩ := splitD_eq heq
      intro ds Ds fr H r g w act S D h Q hQ
      simp only [spW] at h
      obtain ⟨s1, hs1, h⟩ := Option.bind_eq_some_iff.1 h
      refine wp_region_list ?_
      rw [e]
      refine run_okR CO MT (o :: q) p p' fr H s1 g w act h1 S hs1 ?_
      cases s1 with
      | pan a fr1 H1 =>
        simp only [Option.some.injEq] at h; subst h
        exact fun g' w' act' v st S' hv => hQ g' w' act' Ds st S' (D.step st) v hv
      | go fr1 H1 =>
        simp only at h
        obtain ⟨s2, hs2, h⟩ := Option.bind_eq_some_iff.1 h
        intro g1 w1 act1 st1 S1
        by_cases hf : isFn (ev fr1 d.1) = true
        case neg => rw [if_neg hf] at hs2; cases hs2
        rw [if_pos hf] at hs2
        obtain ⟨f, a, b', hfe⟩ : ∃ f a b', ev fr1 d.1 = .fn f a b' := by
          generalize ev fr1 d.1 = y at hf
          cases y <;> first | exact ⟨_, _, _, rfl⟩ | cases hf
        obtain ⟨first, cap, args, v1, v2, hr, hdst, hg⟩ := dfr_run h3 S1.fr hfe
        unfold wpList
        rw [if_pos (by simp [Region.wanted, hg])]
        left
        unfold Oper.wp
        rw [hr, Oper.upon_defer, hdst]
        have hput : ∀ a : Act, a.put none undef = a := fun a => rfl
        rw [hput]
        have S2 : Sit nt ({ target := .fn f cap, args := first ++ args } :: Ds) g1 w1 H1 fr1 { act1 with defers := { target := .fn f cap, args := first ++ args } :: act1.defers } := ⟨S1.rel, S1.fr, S1.size, by simp [S1.defers]⟩
        have D2 : DRel g1 w1 ((ev fr1 d.1, d.2.map (ev fr1)) :: ds) ({ target := .fn f cap, args := first ++ args } :: Ds) := .cons v1 v2 (D.step st1)
        have hnil := run_okR CO MT [] q q' fr1 H1 s2 g1 w1 _ h2 S2 hs2 (Q := Q) (ops := ops)
        rw [List.append_nil] at hnil
        refine hnil ?_
        cases s2 with
        | pan a fr2 H2 =>
          simp only [Option.some.injEq] at h; subst h
          exact fun g' w' act' v st S' hv => hQ g' w' act' _ (st1.trans st) S' (D2.step st) v hv
        | go fr2 H2 =>
          simp only [spW, Option.some.injEq] at h; subst h
          exact fun g' w' act' st S' => wpList_nil (hQ g' w' act' _ (st1.trans st) (S'.keep _) (D2.step st))
    · obtain ⟨c, h1, hc⟩ := Option.bind_eq_some_iff.1 hc
      simp only [Option.some.injEq] at hc; subst hc
      exact base _ b c h1
  | _ =>
    intro b l hc
    simp only [compSp] at hc
    obtain ⟨c, h1, hc⟩ := Option.bind_eq_some_iff.1 hc
    simp only [Option.some.injEq] at hc; subst hc
    exact base _ b c h1
abbrev DcF := FuncId → Option AV → List AV → List AO → Option (Option AV × List AO)
def UM (g : G) (w : World) : Option AV → FrameMode → Prop
  | none, u => u = .returning
  | some a, u => ∃ v, u = .panicking [{ v, recovered := false }] ∧ VR g w a v
def DcOk (P : Program) (dc : DcF) : Prop := ∀ f m args H m' H', dc f m args H = some (m', H') → ∀ (g : G) (w : World) (vs : Array Value) (u : FrameMode), Rel g w H → VRs g w args vs.toList → UM g w m u →
  (callFunc f vs).run P w = .ok (.enter f vs) w ∧ CallsD P f vs u w fun e u' w' => (∃ v, e = .returned v) ∧ ∃ g', Rel g' w' H' ∧ Stp g w H g' w' H' ∧ UM g' w' m' (settle u')
def leaveW (dc : DcF) : List Dfr → Option AV → List AO → Option (Option AV × List AO)
  | [], m, H => some (m, H)
  | d :: ds, m, H => match d.1 with
    | .fn (.func f) x y => (dc f m (x ++ d.2 ++ y) H).bind fun p => leaveW dc ds p.1 p.2
    | _ => none
theorem UM.run {g : G} {w : World} {m : Option AV} {u : FrameMode} (h : UM g w m u) : u ≠ .run := by
  cases m with
  | none => rw [show u = .returning from h]; intro e; cases e
  | some a => obtain ⟨v, rfl, _⟩ := h; intro e; cases e
theorem UM.step {g g' : G} {w w' : World} {H H' : List AO} {m : Option AV} {u : FrameMode} (h : UM g w m u) (s : Stp g w H g' w' H') : UM g' w' m u := by
  cases m with
  | none => exact h
  | some a => obtain ⟨v, e, hv⟩ := h; exact ⟨v, e, s.vr hv⟩
theorem leave_ok {dc : DcF} (DO : DcOk P dc) {fn : Func} {tmps : Array Value} {R : Ending → World → Prop} : ∀ (ds : List Dfr) (Ds : List Deferred) (m : Option AV) (H : List AO) (m' : Option AV) (H' : List AO) (g : G) (w : World) (u : FrameMode),
    leaveW dc ds m H = some (m', H') → Rel g w H → DRel g w ds Ds → UM g w m u → (∀ g' w' u', Rel g' w' H' → Stp g w H g' w' H' → UM g' w' m' u' → Leaves P fn tmps R [] u' w') → Leaves P fn tmps R Ds u w
  | [], Ds, m, H, m', H', g, w, u, h, R0, D, U, hp => by
    cases D
    simp only [leaveW, Option.some.injEq, Prod.mk.injEq] at h
    obtain ⟨rfl, rfl⟩ := h
    exact hp g w u R0 Stp.refl U
  | d :: ds, Ds, m, H, m', H', g, w, u, h, R0, D, U, hp => by
    obtain ⟨a, as⟩ := d
    cases D with
    | @cons _ _ _ f first cap args Ds hv hs D =>
      simp only [leaveW] at h
      split at h
      · rename_i fi x y
        obtain ⟨⟨m1, H1⟩, h1, h⟩ := Option.bind_eq_some_iff.1 h
        obtain ⟨vs, us, e, l1, p1, l2, p2⟩ := hv.fn_inv
        simp only [Value.func.injEq] at e
        obtain ⟨rfl, rfl, rfl⟩ := e
        have V : VRs g w (x ++ as ++ y) (first ++ args ++ cap).toList := by
          rw [Array.toList_append, Array.toList_append]
          exact VRs.append (VRs.append ⟨by simpa using l1, fun i a v ha hv => p1 i a v ha (by rwa [Array.getElem?_toList] at hv)⟩ hs) ⟨by simpa using l2, fun i a v ha hv => p2 i a v ha (by rwa [Array.getElem?_toList] at hv)⟩
        obtain ⟨hi, hc⟩ := DO fi m _ H m1 H1 h1 g w _ u R0 V U
        refine ⟨U.run, _, _, fi, _, rfl, hi, hc.mono fun e u' w' hh => ?_⟩
        obtain ⟨⟨v, rfl⟩, g', R', st, U'⟩ := hh
        exact leave_ok DO ds Ds m1 H1 m' H' g' w' (settle u') h R' (D.step st) U' fun g2 w2 u2 R2 st2 U2 => hp g2 w2 u2 R2 (st.trans st2) U2
      · cases h
structure FD where
  np : Nat
  nt : Nat
  res : List RV
  sp : List Sp
def compFD (P : Program) (A : Ann) (fn : Func) : Option FD :=
  fn.body.bind fun c => (compSp P A fn.ntmps 0 c).bind fun c => (fn.results.toList.mapM (compRV P)).bind fun rs =>
    if fn.params.size + fn.nfree ≤ fn.ntmps ∧ (fn.name == "runtime.NumGoroutine") = false then some ⟨fn.params.size + fn.nfree, fn.ntmps, rs, c⟩ else none
def modeS : EX → Option (Option AV)
  | .normal | .ret => some none
  | .pan a => some (some a)
  | .exit _ => none
def finD (F : FD) (dc : DcF) (p : Ai.S × List Dfr) : Option (R × List AO) :=
  (modeS p.1.1).bind fun m => (leaveW dc p.2 m p.1.2.2).bind fun q => match q.1 with
    | none => (res p.1.2.1 q.2 F.res).bind fun r => some (.ret r, q.2)
    | some a => some (.pan a, q.2)
def gD (cw : C → Fr → List AO → Option Ai.S) (rn : List O → Fr → List AO → Option SR) (dc : DcF) (F : FD) (args : List AV) (H : List AO) : Option (R × List AO) :=
  bif args.length == F.np then (spW cw rn F.sp (initFr 0 args) H []).bind (finD F dc) else none
theorem defers_ok {A : Ann} {cw : C → Fr → List AO → Option Ai.S} {dc : DcF} (CO : CallOk P call) (MT : MtOk P mt) (DO : DcOk P dc) {f : FuncId} {fn : Func} {F : FD} (hfn : P.funcs[f]? = some fn) (CD : CdOk P A fn.ntmps cw) (hF : compFD P A fn = some F) : OneOk P f (gD cw (run call mt md) dc F) := by
  intro args H r H' h w g vs R V
  unfold compFD at hF
  obtain ⟨c0, hb, hF⟩ := Option.bind_eq_some_iff.1 hF
  obtain ⟨c, hc, hF⟩ := Option.bind_eq_some_iff.1 hF
  obtain ⟨rs, hr, hF⟩ := Option.bind_eq_some_iff.1 hF
  by_cases hle : fn.params.size + fn.nfree ≤ fn.ntmps ∧ (fn.name == "runtime.NumGoroutine") = false
  case neg => rw [if_neg hle] at hF; cases hF
  rw [if_pos hle] at hF
  simp only [Option.some.injEq] at hF; subst hF
  unfold gD at h
  cases hl : args.length == fn.params.size + fn.nfree with
  | false => simp only [hl] at h; cases h
  | true =>
    simp only [hl, cond_true] at h
    have hl : args.length = fn.params.size + fn.nfree := by simpa using hl
    obtain ⟨p, hs, h⟩ := Option.bind_eq_some_iff.1 h
    refine .inl ⟨enters hfn hle.2 hb vs w, calls_of_wp_defers hfn hb ?_⟩
    have hvs : vs.size = args.length := by have := V.1; simp at this; omega
    have S : Sit fn.ntmps [] g w H (initFr 0 args) { tmps := vs ++ Array.replicate (fn.ntmps - vs.size) undef, defers := [] } := by
      refine ⟨R, fun t => ?_, by simp; omega, rfl⟩
      have := get_init t args 0
      rw [Nat.zero_add] at this
      rw [this]
      by_cases ht : t < args.length
      · rw [List.getD_eq_getElem?_getD, List.getElem?_eq_getElem ht, Option.getD_some]
        refine V.2 t _ _ (List.getElem?_eq_getElem ht) ?_
        rw [Array.getD_eq_getD_getElem?, Array.getElem?_append_left (by omega), Array.getElem?_eq_getElem (by omega), Option.getD_some, Array.getElem?_toList, Array.getElem?_eq_getElem (by omega)]
      · rw [List.getD_eq_getElem?_getD, List.getElem?_eq_none (by omega)]
        exact .fv _ _ (.any _)
    refine sp_ok CO MT CD c0 0 c hc [] [] _ H p g w _ S .nil hs _ ?_
    obtain ⟨⟨e, fr1, H1⟩, ds⟩ := p
    intro g' w' act' Ds st S' D'
    unfold finD at h
    obtain ⟨m, hm, h⟩ := Option.bind_eq_some_iff.1 h
    obtain ⟨⟨m', H2⟩, hlv, h⟩ := Option.bind_eq_some_iff.1 h
    have key : ∀ u, UM g' w' m u → Leaves P fn act'.tmps (fun e w' => ∃ g', Rel g' w' H' ∧ Stp g w H g' w' H' ∧ ERel g' w' r e) Ds u w' := by
      intro u hu
      refine leave_ok DO ds Ds m H1 m' H2 g' w' u hlv S'.rel D' hu fun g2 w2 u2 R2 st2 U2 => ?_
      cases m' with
      | none =>
        simp only at h
        obtain ⟨a, ha, h⟩ := Option.bind_eq_some_iff.1 h
        simp only [Option.some.injEq, Prod.mk.injEq] at h
        obtain ⟨rfl, rfl⟩ := h
        obtain ⟨v, hv1, hv2⟩ := results_run fn act' R2 (S'.fr.step st2) hr ha
        rw [show u2 = .returning from U2]
        exact ⟨v, hv1, g2, R2, st.trans st2, v, rfl, hv2⟩
      | some a =>
        simp only [Option.some.injEq, Prod.mk.injEq] at h
        obtain ⟨rfl, rfl⟩ := h
        obtain ⟨v, rfl, hv⟩ := U2
        exact ⟨g2, R2, st.trans st2, v, rfl, hv⟩
    rw [S'.defers.symm] at key
    cases e with
    | normal =>
      simp only [modeS, Option.some.injEq] at hm; subst hm
      exact key _ rfl
    | ret =>
      simp only [modeS, Option.some.injEq] at hm; subst hm
      exact key _ rfl
    | pan a =>
      simp only [modeS, Option.some.injEq] at hm; subst hm
      exact fun v hv => key _ ⟨v, rfl, hv⟩
    | exit id => cases hm
end
end Go.Ai
namespace Go.Ai
inductive Rp where
  | code (c : C)
  | rcv (pre : List O) (dst : Option Nat) (post : List O) (l : List Nat)
def isRcv (o : Oper) : Bool :=
  match o.op, o.guard with
  | .call c, none => match c.callee with
    | .builtin .recover => true
    | _ => false
  | _, _ => false
def splitR : List Oper → Option (List Oper × Oper × List Oper)
  | [] => none
  | o :: r => if isRcv o = true then some ([], o, r) else (splitR r).map fun p => (o :: p.1, p.2.1, p.2.2)
theorem splitR_eq : ∀ {l : List Oper} {a b : List Oper} {o : Oper}, splitR l = some (a, o, b) → l = a ++ o :: b ∧ isRcv o = true
  | [], _, _, _, h => by cases h
  | x :: r, a, b, o, h => by
    unfold splitR at h
    by_cases hx : isRcv x = true
    · rw [if_pos hx] at h
      simp only [Option.some.injEq, Prod.mk.injEq] at h
      obtain ⟨rfl, rfl, rfl⟩ := h
      exact ⟨rfl, hx⟩
    · rw [if_neg hx] at h
      obtain ⟨⟨a', o', b'⟩, h1, h2⟩ := Option.map_eq_some_iff.1 h
      simp only [Prod.mk.injEq] at h2
      obtain ⟨rfl, rfl, rfl⟩ := h2
      obtain ⟨e, hd⟩ := splitR_eq h1
      exact ⟨by rw [e]; rfl, hd⟩
def compRp (P : Program) (A : Ann) (nt : Nat) (b : Nat) : Code → Option (List Rp)
  | .seq x y => (compRp P A nt b x).bind fun l => (compRp P A nt b y).bind fun r => some (l ++ r)
  | .region id ops draw => match draw, splitR ops.toList with
    | false, some (p, o, q) => if dstOk nt o.dst = true then (p.mapM (compO P A.ow nt ops)).bind fun p => (q.mapM (compO P A.ow nt ops)).bind fun q => some [.rcv p o.dst q (A.keepR id)] else none
    | _, _ => (comp P A nt b (.region id ops draw)).bind fun c => some [.code c]
  | c => (comp P A nt b c).bind fun c => some [.code c]
def nilI : AV := .lit .nilIface
section
variable (cw : C → Fr → List AO → Option S) (rn : List O → Fr → List AO → Option SR)
def rpW : List Rp → Fr → List AO → Option AV → Option (S × Option AV)
  | [], fr, H, m => some ((.normal, fr, H), m)
  | .code c :: r, fr, H, m => (cw c fr H).bind fun s => match s.1 with
    | .normal => rpW r s.2.1 s.2.2 m
    | _ => some (s, m)
  | .rcv p d q l :: r, fr, H, m => (rn p fr H).bind fun
    | .go fr1 H1 => (rn q (putD fr1 d (m.getD nilI)) H1).bind fun
      | .go fr2 H2 => rpW r (keep l fr2) H2 none
      | .pan _ _ _ => none
    | .pan _ _ _ => none
theorem rpW_append : ∀ (l r : List Rp) (fr : Fr) (H : List AO) (m : Option AV), rpW cw rn (l ++ r) fr H m = (rpW cw rn l fr H m).bind fun p => match p.1.1 with
    | .normal => rpW cw rn r p.1.2.1 p.1.2.2 p.2
    | _ => some p
  | [], r, fr, H, m => rfl
  | .code c :: l, r, fr, H, m => by
    simp only [List.cons_append, rpW]
    cases cw c fr H with
    | none => rfl
    | some s =>
      obtain ⟨e, fr1, H1⟩ := s
      cases e with
      | normal => exact rpW_append l r fr1 H1 m
      | _ => rfl
  | .rcv p d q k :: l, r, fr, H, m => by
    simp only [List.cons_append, rpW]
    cases rn p fr H with
    | none => rfl
    | some s =>
      cases s with
      | pan a fr1 H1 => rfl
      | go fr1 H1 =>
        simp only [Option.bind_some]
        cases rn q (putD fr1 d (m.getD nilI)) H1 with
        | none => rfl
        | some s2 =>
          cases s2 with
          | pan a fr2 H2 => rfl
          | go fr2 H2 => exact rpW_append l r _ H2 _
end
def RM (g : G) (w : World) (m : Option AV) (u : FrameMode) : Prop :=
  match m with
  | none => settle u = .returning ∧ (u = .returning ∨ ∃ v, u = .panicking [{ v, recovered := true }])
  | some a => ∃ v, u = .panicking [{ v, recovered := false }] ∧ VR g w a v
theorem RM.step {g g' : G} {w w' : World} {H H' : List AO} {m : Option AV} {u : FrameMode} (h : RM g w m u) (s : Stp g w H g' w' H') : RM g' w' m u := by
  cases m with
  | none => exact h
  | some a => obtain ⟨v, e, hv⟩ := h; exact ⟨v, e, s.vr hv⟩
theorem RM.settle {g : G} {w : World} {m : Option AV} {u : FrameMode} (h : RM g w m u) : UM g w m (Go.settle u) := by
  cases m with
  | none => exact h.1
  | some a => obtain ⟨v, rfl, hv⟩ := h; exact ⟨v, rfl, hv⟩
theorem RM.of {g : G} {w : World} {m : Option AV} {u : FrameMode} (h : UM g w m u) : RM g w m u := by
  cases m with
  | none => rw [show u = .returning from h]; exact ⟨rfl, .inl rfl⟩
  | some a => exact h
section
variable {P : Program} {call : CallF} {mt : MtF} {md : FuncId → Md}
theorem rcv_run {o : Oper} (h : isRcv o = true) (ρ : Operand → Value) (w : World) : (execOp ρ o).run P w = .ok .recover w ∧ o.guard = none := by
  unfold isRcv at h
  split at h
  · rename_i c h1 h2
    split at h
    · rename_i h3
      refine ⟨?_, h2⟩
      simp only [execOp, h1, resolve, h3]
      rfl
    · cases h
  · cases h
theorem wpOpsS_none {ops : Array Oper} {Q : Exit → Act → List Frame → World → Prop} {i : Nat} {rest : List Nat} {a : Act} {cs : List Frame} {w : World} {o : Oper} (ho : ops[i]? = some o) (hw : Region.wanted o (yielded ops a.tmps) = true)
    (h : o.wp P a w (fun a' w' => wpOpsS P ops Q rest a' cs w') (fun e a' w' => Q e a' cs w')) : wpOpsS P ops Q (i :: rest) a cs w := by
  unfold wpOpsS
  simp only [ho, hw, if_true]
  unfold Oper.wp at h
  split
  · rename_i w' hr
    rw [hr] at h
    exact h.elim
  · exact h
theorem run_okS {ow : List Nat} {nt : Nat} {ops : Array Oper} (CO : CallOk P call) (MT : MtOk P mt) {Q : Exit → Act → List Frame → World → Prop} {cs : List Frame} (rest : List Nat) : ∀ (l : List Oper) (k : Nat) (l' : List O) (fr : Fr) (H : List AO) (s : SR) (g : G) (w : World) (act : Act),
    (∀ j o, l[j]? = some o → ops[k + j]? = some o) → l.mapM (compO P ow nt ops) = some l' → Sit nt [] g w H fr act → run call mt md l' fr H = some s → (∃ fr' H', s = .go fr' H') → RPost nt [] g w H (fun a w => wpOpsS P ops Q rest a cs w) (fun e a w => Q e a cs w) s → wpOpsS P ops Q (List.range' k l.length ++ rest) act cs w
  | [], k, l', fr, H, s, g, w, act, hk, hc, S, h, hgo, hq => by
    simp only [List.mapM_nil, Option.pure_def, Option.some.injEq] at hc; subst hc
    simp only [run, Option.some.injEq] at h; subst h
    exact hq g w act Stp.refl S
  | o :: l, k, l', fr, H, s, g, w, act, hk, hc, S, h, hgo, hq => by
    rw [List.mapM_cons] at hc
    obtain ⟨o', h1, hc⟩ := Option.bind_eq_some_iff.1 hc
    obtain ⟨l2, h2, hc⟩ := Option.bind_eq_some_iff.1 hc
    simp only [Option.pure_def, Option.some.injEq] at hc; subst hc
    simp only [run] at h
    obtain ⟨b, hb, h⟩ := Option.bind_eq_some_iff.1 h
    have hw := wanted_ok h1 S.fr hb
    have ho : ops[k]? = some o := hk 0 o rfl
    have hk' : ∀ j o2, l[j]? = some o2 → ops[k + 1 + j]? = some o2 := fun j o2 hj => by
      have := hk (j + 1) o2 hj
      rwa [show k + (j + 1) = k + 1 + j by omega] at this
    rw [List.length_cons, List.range'_succ, List.cons_append]
    cases b with
    | true =>
      obtain ⟨s1, hs, h⟩ := Option.bind_eq_some_iff.1 h
      refine wpOpsS_none ho hw ?_
      refine step_ok CO MT h1 S hs _ _ (fun fr' H' e g' w' act' st S' => ?_) (fun a fr' H' e g' w' v st S' hv => ?_)
      · subst e
        exact run_okS CO MT rest l (k + 1) l2 fr' H' s g' w' act' hk' h2 S' h hgo (hq.step st)
      · subst e
        simp only [Option.some.injEq] at h; subst h
        exact hq g' w' act v st S' hv
    | false =>
      obtain ⟨_, hdst, hlt, _⟩ := compO_inv h1
      unfold wpOpsS
      simp only [ho]
      rw [if_neg (by rw [hw]; decide)]
      refine run_okS CO MT rest l (k + 1) l2 _ H s g w (act.put o.dst undef) hk' h2 ⟨S.rel, ?_, by rw [put_size]; exact S.size, by rw [put_defers]; exact S.defers⟩ h hgo hq
      rw [← hdst]
      exact S.fr.put o'.dst _ _ (.fv _ _ (.lit _)) (fun t ht => by rw [S.size]; exact hlt t (hdst ▸ ht))
def RpPost (nt : Nat) (g : G) (w : World) (H : List AO) (c₀ : Frame) (cs : List Frame) (Q : Exit → Act → List Frame → World → Prop) (p : S × Option AV) : Prop :=
  ∀ g' w' act' u', Stp g w H g' w' p.1.2.2 → Sit nt [] g' w' p.1.2.2 p.1.2.1 act' → RM g' w' p.2 u' → match p.1.1 with
  | .normal => Q .normal act' ({ c₀ with mode := u' } :: cs) w'
  | .exit id => Q (.exit id) act' ({ c₀ with mode := u' } :: cs) w'
  | .ret => Q .ret act' ({ c₀ with mode := u' } :: cs) w'
  | .pan a => ∀ v, VR g' w' a v → Q (.panic [{ v, recovered := false }]) act' ({ c₀ with mode := u' } :: cs) w'
theorem rp_ok {A : Ann} {nt : Nat} {cw : C → Fr → List AO → Option S} (CO : CallOk P call) (MT : MtOk P mt) (CD : CdOk P A nt cw) (c₀ : Frame) (cs : List Frame) : ∀ (x : Code) (b : Nat) (l : List Rp), compRp P A nt b x = some l →
    ∀ (m : Option AV) (u : FrameMode) (fr : Fr) (H : List AO) (p : Ai.S × Option AV) (g : G) (w : World) (act : Act), Sit nt [] g w H fr act → RM g w m u → rpW cw (run call mt md) l fr H m = some p → ∀ Q, RpPost nt g w H c₀ cs Q p → x.wpS P Q act ({ c₀ with mode := u } :: cs) w := by
  have base : ∀ (x : Code) (b : Nat) (c : C), comp P A nt b x = some c → ∀ (m : Option AV) (u : FrameMode) (fr : Fr) (H : List AO) (p : Ai.S × Option AV) (g : G) (w : World) (act : Act), Sit nt [] g w H fr act → RM g w m u → rpW cw (run call mt md) [.code c] fr H m = some p → ∀ Q, RpPost nt g w H c₀ cs Q p → x.wpS P Q act ({ c₀ with mode := u } :: cs) w := by
    intro x b c hc m u fr H p g w act S D h Q hQ
    simp only [rpW] at h
    obtain ⟨s, hs, h⟩ := Option.bind_eq_some_iff.1 h
    refine wpS_of_wp (CD x b c hc [] fr H s g w act S hs _ ?_)
    obtain ⟨e, fr1, H1⟩ := s
    cases e with
    | normal =>
      simp only [Option.some.injEq] at h; subst h
      exact fun g' w' act' st S' => hQ g' w' act' u st S' (D.step st)
    | exit id =>
      simp only [Option.some.injEq] at h; subst h
      exact fun g' w' act' st S' => hQ g' w' act' u st S' (D.step st)
    | ret =>
      simp only [Option.some.injEq] at h; subst h
      exact fun g' w' act' st S' => hQ g' w' act' u st S' (D.step st)
    | pan a =>
      simp only [Option.some.injEq] at h; subst h
      exact fun g' w' act' v st S' hv => hQ g' w' act' u st S' (D.step st) v hv
  intro x
  induction x with
  | seq x y ihx ihy =>
    intro b l hc m u fr H p g w act S D h Q hQ
    simp only [compRp] at hc
    obtain ⟨l1, h1, hc⟩ := Option.bind_eq_some_iff.1 hc
    obtain ⟨l2, h2, hc⟩ := Option.bind_eq_some_iff.1 hc
    simp only [Option.some.injEq] at hc; subst hc
    rw [rpW_append] at h
    obtain ⟨p1, h3, h⟩ := Option.bind_eq_some_iff.1 h
    refine wpS_seq (ihx b l1 h1 m u fr H p1 g w act S D h3 _ ?_)
    obtain ⟨⟨e, fr1, H1⟩, m1⟩ := p1
    intro g' w' act' u' st S' D'
    cases e with
    | normal =>
      simp only at h ⊢
      refine ihy b l2 h2 m1 u' fr1 H1 p g' w' act' S' D' h Q ?_
      exact fun g2 w2 act2 u2 st2 S2 D2 => hQ g2 w2 act2 u2 (st.trans st2) S2 D2
    | exit id =>
      simp only [Option.some.injEq] at h; subst h
      exact hQ g' w' act' u' st S' D'
    | ret =>
      simp only [Option.some.injEq] at h; subst h
      exact hQ g' w' act' u' st S' D'
    | pan a =>
      simp only [Option.some.injEq] at h; subst h
      exact hQ g' w' act' u' st S' D'
  | region id ops draw =>
    intro b l hc
    simp only [compRp] at hc
    split at hc
    · rename_i p o q heq
      by_cases hd : dstOk nt o.dst = true
      case neg => rw [if_neg hd] at hc; cases hc
      rw [if_pos hd] at hc
      obtain ⟨p', h1, hc⟩ := Option.bind_eq_some_iff.1 hc
      obtain ⟨q', h2, hc⟩ := Option.bind_eq_some_iff.1 hc
      simp only [Option.some.injEq] at hc; subst hc
      obtain ⟨e, hr⟩ := splitR_eq heq
      intro m u fr H r g w act S D h Q hQ
      simp only [rpW] at h
      obtain ⟨s1, hs1, h⟩ := Option.bind_eq_some_iff.1 h
      refine wpS_region ?_
      have hsz : List.range ops.size = List.range' 0 p.length ++ p.length :: List.range' (p.length + 1) q.length := by
        have : ops.size = p.length + (q.length + 1) := by
          rw [← Array.length_toList, e]; simp
        rw [this, List.range_eq_range', ← List.range'_append_1, Nat.zero_add, List.range'_succ]
      rw [hsz]
      have ix : ∀ i : Nat, ops[i]? = (p ++ o :: q)[i]? := fun i => by rw [← e, Array.getElem?_toList]
      cases s1 with
      | pan a fr1 H1 => cases h
      | go fr1 H1 =>
        refine run_okS CO MT (p.length :: List.range' (p.length + 1) q.length) p 0 p' fr H _ g w act (fun j o2 hj => by rw [ix, Nat.zero_add, List.getElem?_append_left (List.getElem?_eq_some_iff.1 hj).1]; exact hj) h1 S hs1 ⟨_, _, rfl⟩ ?_
        intro g1 w1 act1 st1 S1
        simp only at h
        obtain ⟨s2, hs2, h⟩ := Option.bind_eq_some_iff.1 h
        cases s2 with
        | pan a fr2 H2 => cases h
        | go fr2 H2 =>
          simp only [rpW, Option.some.injEq] at h; subst h
          have ho : ops[p.length]? = some o := by rw [ix, List.getElem?_append_right (Nat.le_refl _), Nat.sub_self]; rfl
          have hdl : ∀ d, o.dst = some d → d < nt := fun d he => by rw [he] at hd; simpa [dstOk, Nat.blt_eq] using hd
          have fin : ∀ (u' : FrameMode) (x : AV) (v : Value), putD fr1 o.dst x = putD fr1 o.dst (m.getD nilI) → VR g1 w1 x v → RM g1 w1 none u' → wpOpsS P ops Q (List.range' (p.length + 1) q.length) (act1.put o.dst v) ({ c₀ with mode := u' } :: cs) w1 := by
            intro u' x v hx hv D'
            have S2 : Sit nt [] g1 w1 H1 (putD fr1 o.dst (m.getD nilI)) (act1.put o.dst v) := by
              refine ⟨S1.rel, ?_, by rw [put_size]; exact S1.size, by rw [put_defers]; exact S1.defers⟩
              rw [← hx]
              exact S1.fr.put o.dst _ _ hv (fun t ht => by rw [S1.size]; exact hdl t ht)
            have := run_okS (Q := Q) (cs := { c₀ with mode := u' } :: cs) CO MT [] q (p.length + 1) q' _ H1 _ g1 w1 _ (fun j o2 hj => by
              rw [ix, List.getElem?_append_right (by omega), show p.length + 1 + j - p.length = j + 1 by omega]; exact hj) h2 S2 hs2 ⟨_, _, rfl⟩
            rw [List.append_nil] at this
            exact this fun g2 w2 act2 st2 S3 => hQ g2 w2 act2 u' (st1.trans st2) (S3.keep _) (D'.step st2)
          obtain ⟨hrun, hg⟩ := rcv_run (P := P) hr act1.eval w1
          have hwn : Region.wanted o (yielded ops act1.tmps) = true := by simp [Region.wanted, hg]
          unfold wpOpsS
          simp only [ho, hwn, if_true, hrun]
          cases m with
          | none =>
            have hrec : recoverD ({ c₀ with mode := u } :: cs) = none := by
              rcases D.2 with rfl | ⟨v, rfl⟩ <;> rfl
            rw [hrec]
            exact fin u nilI .nilIface rfl (.fv _ _ (.lit _)) (D.step st1)
          | some a =>
            obtain ⟨v, rfl, hv⟩ := D
            have hrec : recoverD ({ c₀ with mode := .panicking [{ v, recovered := false }] } :: cs) = some (v, { c₀ with mode := .panicking [{ v, recovered := true }] } :: cs) := rfl
            rw [hrec]
            exact fin _ a v rfl (st1.vr hv) ⟨rfl, .inr ⟨v, rfl⟩⟩
    · obtain ⟨c, h1, hc⟩ := Option.bind_eq_some_iff.1 hc
      simp only [Option.some.injEq] at hc; subst hc
      exact base _ b c h1
  | _ =>
    intro b l hc
    simp only [compRp] at hc
    obtain ⟨c, h1, hc⟩ := Option.bind_eq_some_iff.1 hc
    simp only [Option.some.injEq] at hc; subst hc
    exact base _ b c h1
structure FR where
  np : Nat
  nt : Nat
  res : List RV
  rp : List Rp
def compFR (P : Program) (A : Ann) (fn : Func) : Option FR :=
  fn.body.bind fun c => (compRp P A fn.ntmps 0 c).bind fun c => (fn.results.toList.mapM (compRV P)).bind fun rs =>
    if fn.params.size + fn.nfree ≤ fn.ntmps ∧ (fn.name == "runtime.NumGoroutine") = false then some ⟨fn.params.size + fn.nfree, fn.ntmps, rs, c⟩ else none
def finR (F : FR) (p : Ai.S × Option AV) : Option (Option AV × List AO) :=
  match p.1.1 with
  | .normal | .ret => (res p.1.2.1 p.1.2.2 F.res).bind fun _ => some (p.2, p.1.2.2)
  | _ => none
def gR (cw : C → Fr → List AO → Option Ai.S) (rn : List O → Fr → List AO → Option SR) (F : FR) (m : Option AV) (args : List AV) (H : List AO) : Option (Option AV × List AO) :=
  bif args.length == F.np then (rpW cw rn F.rp (initFr 0 args) H m).bind (finR F) else none
theorem recovers_ok {A : Ann} {cw : C → Fr → List AO → Option Ai.S} (CO : CallOk P call) (MT : MtOk P mt) {f : FuncId} {fn : Func} {F : FR} (hfn : P.funcs[f]? = some fn) (CD : CdOk P A fn.ntmps cw) (hF : compFR P A fn = some F) {m : Option AV} {args : List AV} {H : List AO} {m' : Option AV} {H' : List AO} (h : gR cw (run call mt md) F m args H = some (m', H'))
    (g : G) (w : World) (vs : Array Value) (u : FrameMode) (R : Rel g w H) (V : VRs g w args vs.toList) (U : UM g w m u) :
    (callFunc f vs).run P w = .ok (.enter f vs) w ∧ CallsD P f vs u w fun e u' w' => (∃ v, e = .returned v) ∧ ∃ g', Rel g' w' H' ∧ Stp g w H g' w' H' ∧ UM g' w' m' (settle u') := by
  unfold compFR at hF
  obtain ⟨c0, hb, hF⟩ := Option.bind_eq_some_iff.1 hF
  obtain ⟨c, hc, hF⟩ := Option.bind_eq_some_iff.1 hF
  obtain ⟨rs, hr, hF⟩ := Option.bind_eq_some_iff.1 hF
  by_cases hle : fn.params.size + fn.nfree ≤ fn.ntmps ∧ (fn.name == "runtime.NumGoroutine") = false
  case neg => rw [if_neg hle] at hF; cases hF
  rw [if_pos hle] at hF
  simp only [Option.some.injEq] at hF; subst hF
  unfold gR at h
  cases hl : args.length == fn.params.size + fn.nfree with
  | false => simp only [hl] at h; cases h
  | true =>
    simp only [hl, cond_true] at h
    have hl : args.length = fn.params.size + fn.nfree := by simpa using hl
    obtain ⟨p, hs, h⟩ := Option.bind_eq_some_iff.1 h
    refine ⟨enters hfn hle.2 hb vs w, callsD_of_wpS hfn hb fun c₀ cs hu => ?_⟩
    have hvs : vs.size = args.length := by have := V.1; simp at this; omega
    have S : Sit fn.ntmps [] g w H (initFr 0 args) { tmps := vs ++ Array.replicate (fn.ntmps - vs.size) undef, defers := [] } := by
      refine ⟨R, fun t => ?_, by simp; omega, rfl⟩
      have := get_init t args 0
      rw [Nat.zero_add] at this
      rw [this]
      by_cases ht : t < args.length
      · rw [List.getD_eq_getElem?_getD, List.getElem?_eq_getElem ht, Option.getD_some]
        refine V.2 t _ _ (List.getElem?_eq_getElem ht) ?_
        rw [Array.getD_eq_getD_getElem?, Array.getElem?_append_left (by omega), Array.getElem?_eq_getElem (by omega), Option.getD_some, Array.getElem?_toList, Array.getElem?_eq_getElem (by omega)]
      · rw [List.getD_eq_getElem?_getD, List.getElem?_eq_none (by omega)]
        exact .fv _ _ (.any _)
    have hc0 : ({ c₀ with mode := u } : Frame) = c₀ := by subst hu; rfl
    have key := rp_ok CO MT CD c₀ cs c0 0 c hc m u _ H p g w _ S (RM.of U) hs (bodyPostS P fn c₀ cs fun e u' w' => (∃ v, e = .returned v) ∧ ∃ g', Rel g' w' H' ∧ Stp g w H g' w' H' ∧ UM g' w' m' (settle u'))
    rw [hc0] at key
    refine key ?_
    obtain ⟨⟨e, fr1, H1⟩, m1⟩ := p
    intro g' w' act' u' st S' D'
    unfold finR at h
    cases e with
    | normal =>
      simp only at h
      obtain ⟨a, ha, h⟩ := Option.bind_eq_some_iff.1 h
      simp only [Option.some.injEq, Prod.mk.injEq] at h
      obtain ⟨rfl, rfl⟩ := h
      obtain ⟨v, hv1, hv2⟩ := results_run fn act' S'.rel S'.fr hr ha
      exact ⟨S'.defers, u', rfl, v, hv1, ⟨v, rfl⟩, g', S'.rel, st, D'.settle⟩
    | ret =>
      simp only at h
      obtain ⟨a, ha, h⟩ := Option.bind_eq_some_iff.1 h
      simp only [Option.some.injEq, Prod.mk.injEq] at h
      obtain ⟨rfl, rfl⟩ := h
      obtain ⟨v, hv1, hv2⟩ := results_run fn act' S'.rel S'.fr hr ha
      exact ⟨S'.defers, u', rfl, v, hv1, ⟨v, rfl⟩, g', S'.rel, st, D'.settle⟩
    | pan a => cases h
    | exit id => cases h
end
end Go.Ai
namespace Go.Ai
section
variable {T : FuncId → Option F} {ov ov' : Ov} {mt : MtF} {md : FuncId → Md} {P : Program}
def OvLe (T : FuncId → Option F) (ov ov' : Ov) : Prop := ∀ f, (∃ G G', ov f = some G ∧ ov' f = some G' ∧ ∀ args H r, G args H = some r → G' args H = some r) ∨ (ov f = none ∧ (ov' f = none ∨ T f = none))
theorem call_ov (h : OvLe T ov ov') : ∀ k, Le (call T ov mt md k) (call T ov' mt md k)
  | 0 => fun f a H r h => by cases h
  | k + 1 => fun f a H r hc => by
    rw [call] at hc ⊢
    rcases h f with ⟨G, G', h1, h2, h3⟩ | ⟨h1, h2⟩
    · rw [h1] at hc
      rw [h2]
      exact h3 _ _ _ hc
    · rw [h1] at hc
      simp only at hc
      rcases h2 with h2 | h2
      · rw [h2]
        simp only
        refine bind_mono (fun _ h => h) (fun F hc => ?_) hc
        cases hl : (a.length == F.np) with
        | false => rw [hl] at hc; cases hc
        | true =>
          rw [hl] at hc
          simp only [cond_true] at hc ⊢
          exact bind_mono (fun _ h' => code_mono (call_ov h k) (Nat.le_refl k) h') (fun _ h => h) hc
      · rw [h2] at hc; cases hc
theorem callW_ovLe (h : OvLe T ov ov') : Le (callW T ov mt md) (callW T ov' mt md) := fun f a H r hc => by
  obtain ⟨k, hk⟩ := callW_some.1 hc
  exact callW_some.2 ⟨k, call_ov h k _ _ _ _ hk⟩
theorem call_leW (k : Nat) : Le (call T ov mt md k) (callW T ov mt md) := fun f a H r h => callW_some.2 ⟨k, h⟩
theorem callW_ok (L : Linked P T ov mt) : CallOk P (callW T ov mt md) := fun f args H r H' h => by
  obtain ⟨k, hk⟩ := callW_some.1 h
  exact call_sound L k f args H r H' hk
theorem code_leW {c c' : CallF} (hc : Le c c') {k : Nat} : ∀ {x : C} {fr : Fr} {H : List AO} {s : S}, code c mt md k x fr H = some s → codeW c' mt md x fr H = some s
  | .skip, _, _, _, h => h
  | .reg ops l, fr, H, s, h => bind_mono (fun _ h => run_mono hc h) (fun _ h => h) h
  | .draw ops tail l late early, fr, H, s, h => bind_mono (fun _ h => runD_mono hc h) (fun _ h => bind_mono (fun _ h => runT_mono hc h) (fun _ h => h) h) h
  | .seq a b, fr, H, s, h => by
    simp only [code, codeW] at h ⊢
    refine bind_mono (fun _ h => code_leW hc h) (fun x h => ?_) h
    obtain ⟨e, fr1, H1⟩ := x
    cases e with
    | normal => exact code_leW hc h
    | _ => exact h
  | .cond x a b, fr, H, s, h => by
    simp only [code, codeW] at h ⊢
    refine bind_mono (fun _ h => h) (fun t h => ?_) h
    cases t with
    | true => exact code_leW hc h
    | false => exact code_leW hc h
  | .block id c, fr, H, s, h => by
    simp only [code, codeW] at h ⊢
    exact bind_mono (fun _ h => code_leW hc h) (fun _ h => h) h
  | .loop l c, fr, H, s, h => by
    simp only [code, codeW] at h ⊢
    exact loopW_some.2 ⟨k, loop_mono (fun _ _ _ h => code_leW hc h) (Nat.le_refl k) h⟩
  | .exit id, _, _, _, h => h
  | .ret, _, _, _, h => h
  | .bad, _, _, _, h => h
theorem cdOk_W (L : Linked P T ov mt) (A : Ann) (nt : Nat) : CdOk P A nt (codeW (callW T ov mt md) mt md) := by
  intro x b c hx ds fr H s g w act S h Q hQ
  obtain ⟨k, hk⟩ := code_fin h
  exact code_ok L.fol (call_sound L k) L.mt x b c hx fr H s g w act S hk Q hQ
end
section
variable {cw cw' : C → Fr → List AO → Option S} {rn rn' : List O → Fr → List AO → Option SR} {dc dc' : DcF}
def CwLe (cw cw' : C → Fr → List AO → Option S) : Prop := ∀ c fr H s, cw c fr H = some s → cw' c fr H = some s
def RnLe (rn rn' : List O → Fr → List AO → Option SR) : Prop := ∀ l fr H s, rn l fr H = some s → rn' l fr H = some s
def DcLe (dc dc' : DcF) : Prop := ∀ f m a H r, dc f m a H = some r → dc' f m a H = some r
theorem spW_mono (hc : CwLe cw cw') (hr : RnLe rn rn') : ∀ (l : List Sp) (fr : Fr) (H : List AO) (ds : List Dfr) (r : S × List Dfr), spW cw rn l fr H ds = some r → spW cw' rn' l fr H ds = some r
  | [], fr, H, ds, r, h => h
  | .code c :: l, fr, H, ds, r, h => by
    simp only [spW] at h ⊢
    refine bind_mono (fun _ h => hc _ _ _ _ h) (fun x h => ?_) h
    obtain ⟨e, fr1, H1⟩ := x
    cases e with
    | normal => exact spW_mono hc hr _ _ _ _ _ h
    | _ => exact h
  | .dfr p x args q k :: l, fr, H, ds, r, h => by
    simp only [spW] at h ⊢
    refine bind_mono (fun _ h => hr _ _ _ _ h) (fun y h => ?_) h
    cases y with
    | pan a fr1 H1 => exact h
    | go fr1 H1 =>
      simp only at h ⊢
      refine bind_mono (fun y h => ?_) (fun y h => ?_) h
      · split at h
        · rename_i hf; rw [if_pos hf]; exact hr _ _ _ _ h
        · cases h
      · cases y with
        | pan a fr2 H2 => exact h
        | go fr2 H2 => exact spW_mono hc hr _ _ _ _ _ h
theorem leaveW_mono (hd : DcLe dc dc') : ∀ (ds : List Dfr) (m : Option AV) (H : List AO) (r : Option AV × List AO), leaveW dc ds m H = some r → leaveW dc' ds m H = some r
  | [], m, H, r, h => h
  | d :: ds, m, H, r, h => by
    unfold leaveW at h ⊢
    split at h
    · exact bind_mono (fun _ h => hd _ _ _ _ _ h) (fun p h => leaveW_mono hd _ _ _ _ h) h
    · cases h
theorem gD_mono (hc : CwLe cw cw') (hr : RnLe rn rn') (hd : DcLe dc dc') {F : FD} {args : List AV} {H : List AO} {r : R × List AO} (h : gD cw rn dc F args H = some r) : gD cw' rn' dc' F args H = some r := by
  unfold gD at h ⊢
  cases hl : args.length == F.np with
  | false => rw [hl] at h; cases h
  | true =>
    rw [hl] at h
    simp only [cond_true] at h ⊢
    refine bind_mono (fun _ h => spW_mono hc hr _ _ _ _ _ h) (fun p h => ?_) h
    unfold finD at h ⊢
    exact bind_mono (fun _ h => h) (fun m h => bind_mono (fun _ h => leaveW_mono hd _ _ _ _ h) (fun _ h => h) h) h
theorem rpW_mono (hc : CwLe cw cw') (hr : RnLe rn rn') : ∀ (l : List Rp) (fr : Fr) (H : List AO) (m : Option AV) (r : S × Option AV), rpW cw rn l fr H m = some r → rpW cw' rn' l fr H m = some r
  | [], fr, H, m, r, h => h
  | .code c :: l, fr, H, m, r, h => by
    simp only [rpW] at h ⊢
    refine bind_mono (fun _ h => hc _ _ _ _ h) (fun x h => ?_) h
    obtain ⟨e, fr1, H1⟩ := x
    cases e with
    | normal => exact rpW_mono hc hr _ _ _ _ _ h
    | _ => exact h
  | .rcv p d q k :: l, fr, H, m, r, h => by
    simp only [rpW] at h ⊢
    refine bind_mono (fun _ h => hr _ _ _ _ h) (fun y h => ?_) h
    cases y with
    | pan a fr1 H1 => exact h
    | go fr1 H1 =>
      simp only at h ⊢
      refine bind_mono (fun _ h => hr _ _ _ _ h) (fun y h => ?_) h
      cases y with
      | pan a fr2 H2 => exact h
      | go fr2 H2 => exact rpW_mono hc hr _ _ _ _ _ h
theorem gR_mono (hc : CwLe cw cw') (hr : RnLe rn rn') {F : FR} {m : Option AV} {args : List AV} {H : List AO} {r : Option AV × List AO} (h : gR cw rn F m args H = some r) : gR cw' rn' F m args H = some r := by
  unfold gR at h ⊢
  cases hl : args.length == F.np with
  | false => rw [hl] at h; cases h
  | true =>
    rw [hl] at h
    simp only [cond_true] at h ⊢
    exact bind_mono (fun _ h => rpW_mono hc hr _ _ _ _ _ h) (fun _ h => h) h
end
end Go.Ai
