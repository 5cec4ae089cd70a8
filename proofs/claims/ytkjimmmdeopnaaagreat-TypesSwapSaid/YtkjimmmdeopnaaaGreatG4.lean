/- The stepping words, in one. No condition. -/
import Derived.Test.YtkjimmmdeopnaaaGreatG3
import Derived.Recover
import Derived.RangeFuncSeq
import Derived.RangeFuncCalls
import Derived.RangeFuncLeaves
import Derived.RangeFuncIn
set_option linter.unusedSimpArgs false
set_option linter.unusedVariables false
set_option linter.unusedSectionVars false
namespace Go.Ai
open Go
def oO (d : Nat) (i : I) : O := ⟨some d, i, none⟩
def oM (d s : Nat) : O := ⟨some d, .mv (.s s), none⟩
def oL (d s : Nat) : O := ⟨some d, .load none (.s s), none⟩
def oF (d n s : Nat) : O := ⟨some d, .fadr n (.s s), none⟩
def oI (d e s t : Nat) : O := ⟨some d, .iadr e (.s s) (.s t), none⟩
def oC (d f : Nat) (xs : List X) : O := ⟨some d, .call (.k (.fn (.func f) [] [])) xs, none⟩
theorem oO_eq (d : Nat) (i : I) : oO d i = ⟨some d, i, none⟩ := rfl
theorem oM_eq (d s : Nat) : oM d s = ⟨some d, .mv (.s s), none⟩ := rfl
theorem oL_eq (d s : Nat) : oL d s = ⟨some d, .load none (.s s), none⟩ := rfl
theorem oF_eq (d n s : Nat) : oF d n s = ⟨some d, .fadr n (.s s), none⟩ := rfl
theorem oI_eq (d e s t : Nat) : oI d e s t = ⟨some d, .iadr e (.s s) (.s t), none⟩ := rfl
theorem oC_eq (d f : Nat) (xs : List X) : oC d f xs = ⟨some d, .call (.k (.fn (.func f) [] [])) xs, none⟩ := rfl
theorem aP : type_of% (And.intro @ifS_true @ifS_false) := (And.intro @ifS_true @ifS_false)
theorem aW : type_of% (And.intro (And.intro (And.intro (And.intro (And.intro (And.intro (And.intro @initFr.eq_1 @initFr.eq_2) (And.intro @oO_eq (And.intro @oM_eq @oL_eq))) (And.intro (And.intro @oF_eq (And.intro @oI_eq @oC_eq)) (And.intro @codeW_seq (And.intro @codeW_reg @codeW_cond)))) (And.intro (And.intro (And.intro @codeW_block @codeW_loop) (And.intro @codeW_skip (And.intro @codeW_exit @codeW_ret))) (And.intro (And.intro @thenS_normal (And.intro @thenS_if @thenS_ret)) (And.intro @thenS_exit (And.intro @thenS_pan @thenS_none))))) (And.intro (And.intro (And.intro (And.intro @blockS_normal @blockS_exit) (And.intro @blockS_ret (And.intro @blockS_pan @blockS_if))) (And.intro (And.intro @condS_some (And.intro @opS_val @opS_new)) (And.intro @opS_wr (And.intro @opS_fz @opS_pan)))) (And.intro (And.intro (And.intro @bindO_some (And.intro @runS_nil @runS_cons)) (And.intro @runS_guard (And.intro @gS_t @gS_f))) (And.intro (And.intro @gS_undef (And.intro @asG_lit @asG_undef)) (And.intro @core_mv (And.intro @core_pick @core_alloc)))))) (And.intro (And.intro (And.intro (And.intro (And.intro @core_load @core_store) (And.intro @core_clr (And.intro @core_nilck @core_bin))) (And.intro (And.intro @core_binb (And.intro @core_un @core_fadr)) (And.intro @core_iadr (And.intro @core_sli @core_len)))) (And.intro (And.intro (And.intro @core_lenS @core_idxS) (And.intro @core_app (And.intro @core_mki @core_call))) (And.intro (And.intro @core_extV (And.intro @core_fld @core_mks)) (And.intro @wrO_some (And.intro @valO_some @lenV_sl))))) (And.intro (And.intro (And.intro (And.intro @lenV_own @bin_eql) (And.intro @bin_neq (And.intro @bin_lss @bin_leq))) (And.intro (And.intro @bin_gtr (And.intro @bin_geq @bin_add)) (And.intro @bin_sub (And.intro @bin_mul @unop_not)))) (And.intro (And.intro (And.intro @asBool_lit (And.intro @pickV_lit @load_ip)) (And.intro @iadr_sl (And.intro @iadr_own @ev_s))) (And.intro (And.intro @ev_k (And.intro @get_cons @get_nil)) (And.intro @put_cons (And.intro @put_nil @putD_some))))))) (And.intro (And.intro (And.intro (And.intro (And.intro (And.intro @putD_none @keep_cons) (And.intro @keep_nil (And.intro @if_true.{1} @if_false.{1}))) (And.intro (And.intro @List.mem_cons.{0} (And.intro @List.not_mem_nil.{0} @or_false)) (And.intro @false_or (And.intro @or_true @true_or)))) (And.intro (And.intro (And.intro @or_self @Nat.zero_add) (And.intro @decide_false (And.intro @decide_true @beq_self_eq_true.{0}))) (And.intro (And.intro @BEq.rfl.{0} (And.intro @Option.map_some.{0, 0} @Option.map_none.{0, 0})) (And.intro @List.head?_cons.{0} (And.intro @List.map_cons.{0, 0} @List.map_nil.{0, 0}))))) (And.intro (And.intro (And.intro (And.intro @List.append_nil.{0} @List.nil_append.{0}) (And.intro @List.cons_append.{0} (And.intro @Bool.not_true @Bool.not_false))) (And.intro (And.intro @cond_true.{1} (And.intro @cond_false.{1} @Int.natCast_nonneg)) (And.intro @Int.toNat_natCast (And.intro @Int.ofNat_toNat @core_bslice1)))) (And.intro (And.intro (And.intro @bsV_int (And.intro @codeW_drawn @headS_cons)) (And.intro @headS_nil (And.intro @headS_guard @hS_val))) (And.intro (And.intro @hS_new (And.intro @tailS_nil @tailS_cons)) (And.intro @tailS_guard (And.intro @tlS_val @tlS_new)))))) (And.intro (And.intro (And.intro (And.intro (And.intro @tlS_wr @tlS_fz) (And.intro @tlS_pan (And.intro @anyMk_cons @anyMk_nil))) (And.intro (And.intro @binb_eql (And.intro @binb_neq @List.isEmpty_nil.{0})) (And.intro @List.isEmpty_cons.{0} (And.intro @Bool.or_false @Bool.false_or)))) (And.intro (And.intro (And.intro @Bool.or_true @Bool.true_or) (And.intro @pickV_t (And.intro @pickV_f @core_inv))) (And.intro (And.intro @core_callS (And.intro @fnV_func @core_tas)) (And.intro @tasV_iface (And.intro @nilck_ptr @extV_tup))))) (And.intro (And.intro (And.intro (And.intro @fldV_agg @List.getElem?_cons_zero.{0}) (And.intro @List.getElem?_cons_succ.{0} (And.intro @lateS_nil @List.headD_cons.{0}))) (And.intro (And.intro @List.headD_nil.{0} (And.intro @List.tail_cons.{0} @List.tail_nil.{0})) (And.intro @lateS_cons (And.intro @lateS_guard @lS_val)))) (And.intro (And.intro (And.intro @getO_some (And.intro @codeW_drawnE @tailE_done)) (And.intro @tailE_cons (And.intro @tailE_guard @eaS_nil))) (And.intro (And.intro @eaS_cons (And.intro @eaC_same @seen_some)) (And.intro @seen_none (And.intro @lastOk_some @lastOk_none)))))))) := (And.intro (And.intro (And.intro (And.intro (And.intro (And.intro (And.intro @initFr.eq_1 @initFr.eq_2) (And.intro @oO_eq (And.intro @oM_eq @oL_eq))) (And.intro (And.intro @oF_eq (And.intro @oI_eq @oC_eq)) (And.intro @codeW_seq (And.intro @codeW_reg @codeW_cond)))) (And.intro (And.intro (And.intro @codeW_block @codeW_loop) (And.intro @codeW_skip (And.intro @codeW_exit @codeW_ret))) (And.intro (And.intro @thenS_normal (And.intro @thenS_if @thenS_ret)) (And.intro @thenS_exit (And.intro @thenS_pan @thenS_none))))) (And.intro (And.intro (And.intro (And.intro @blockS_normal @blockS_exit) (And.intro @blockS_ret (And.intro @blockS_pan @blockS_if))) (And.intro (And.intro @condS_some (And.intro @opS_val @opS_new)) (And.intro @opS_wr (And.intro @opS_fz @opS_pan)))) (And.intro (And.intro (And.intro @bindO_some (And.intro @runS_nil @runS_cons)) (And.intro @runS_guard (And.intro @gS_t @gS_f))) (And.intro (And.intro @gS_undef (And.intro @asG_lit @asG_undef)) (And.intro @core_mv (And.intro @core_pick @core_alloc)))))) (And.intro (And.intro (And.intro (And.intro (And.intro @core_load @core_store) (And.intro @core_clr (And.intro @core_nilck @core_bin))) (And.intro (And.intro @core_binb (And.intro @core_un @core_fadr)) (And.intro @core_iadr (And.intro @core_sli @core_len)))) (And.intro (And.intro (And.intro @core_lenS @core_idxS) (And.intro @core_app (And.intro @core_mki @core_call))) (And.intro (And.intro @core_extV (And.intro @core_fld @core_mks)) (And.intro @wrO_some (And.intro @valO_some @lenV_sl))))) (And.intro (And.intro (And.intro (And.intro @lenV_own @bin_eql) (And.intro @bin_neq (And.intro @bin_lss @bin_leq))) (And.intro (And.intro @bin_gtr (And.intro @bin_geq @bin_add)) (And.intro @bin_sub (And.intro @bin_mul @unop_not)))) (And.intro (And.intro (And.intro @asBool_lit (And.intro @pickV_lit @load_ip)) (And.intro @iadr_sl (And.intro @iadr_own @ev_s))) (And.intro (And.intro @ev_k (And.intro @get_cons @get_nil)) (And.intro @put_cons (And.intro @put_nil @putD_some))))))) (And.intro (And.intro (And.intro (And.intro (And.intro (And.intro @putD_none @keep_cons) (And.intro @keep_nil (And.intro @if_true.{1} @if_false.{1}))) (And.intro (And.intro @List.mem_cons.{0} (And.intro @List.not_mem_nil.{0} @or_false)) (And.intro @false_or (And.intro @or_true @true_or)))) (And.intro (And.intro (And.intro @or_self @Nat.zero_add) (And.intro @decide_false (And.intro @decide_true @beq_self_eq_true.{0}))) (And.intro (And.intro @BEq.rfl.{0} (And.intro @Option.map_some.{0, 0} @Option.map_none.{0, 0})) (And.intro @List.head?_cons.{0} (And.intro @List.map_cons.{0, 0} @List.map_nil.{0, 0}))))) (And.intro (And.intro (And.intro (And.intro @List.append_nil.{0} @List.nil_append.{0}) (And.intro @List.cons_append.{0} (And.intro @Bool.not_true @Bool.not_false))) (And.intro (And.intro @cond_true.{1} (And.intro @cond_false.{1} @Int.natCast_nonneg)) (And.intro @Int.toNat_natCast (And.intro @Int.ofNat_toNat @core_bslice1)))) (And.intro (And.intro (And.intro @bsV_int (And.intro @codeW_drawn @headS_cons)) (And.intro @headS_nil (And.intro @headS_guard @hS_val))) (And.intro (And.intro @hS_new (And.intro @tailS_nil @tailS_cons)) (And.intro @tailS_guard (And.intro @tlS_val @tlS_new)))))) (And.intro (And.intro (And.intro (And.intro (And.intro @tlS_wr @tlS_fz) (And.intro @tlS_pan (And.intro @anyMk_cons @anyMk_nil))) (And.intro (And.intro @binb_eql (And.intro @binb_neq @List.isEmpty_nil.{0})) (And.intro @List.isEmpty_cons.{0} (And.intro @Bool.or_false @Bool.false_or)))) (And.intro (And.intro (And.intro @Bool.or_true @Bool.true_or) (And.intro @pickV_t (And.intro @pickV_f @core_inv))) (And.intro (And.intro @core_callS (And.intro @fnV_func @core_tas)) (And.intro @tasV_iface (And.intro @nilck_ptr @extV_tup))))) (And.intro (And.intro (And.intro (And.intro @fldV_agg @List.getElem?_cons_zero.{0}) (And.intro @List.getElem?_cons_succ.{0} (And.intro @lateS_nil @List.headD_cons.{0}))) (And.intro (And.intro @List.headD_nil.{0} (And.intro @List.tail_cons.{0} @List.tail_nil.{0})) (And.intro @lateS_cons (And.intro @lateS_guard @lS_val)))) (And.intro (And.intro (And.intro @getO_some (And.intro @codeW_drawnE @tailE_done)) (And.intro @tailE_cons (And.intro @tailE_guard @eaS_nil))) (And.intro (And.intro @eaS_cons (And.intro @eaC_same @seen_some)) (And.intro @seen_none (And.intro @lastOk_some @lastOk_none))))))))
end Go.Ai
namespace Go.Ai
inductive Sp where
  | code (c : C)
  | dfr (pre : List O) (x : X) (args : List X) (post : List O) (l : List Nat)
abbrev Dfr := AV × List AV
def dfrOf (o : Oper) : Option (X × List X) :=
  match o.op, o.guard, o.dst with
  | .defer c, none, none => match c.callee with
    | .value f => some (cx f, c.args.toList.map cx)
    | _ => none
  | _, _, _ => none
def splitD : List Oper → Option (List Oper × Oper × List Oper)
  | [] => none
  | o :: r => match dfrOf o with
    | some _ => some ([], o, r)
    | none => (splitD r).map fun p => (o :: p.1, p.2.1, p.2.2)
theorem splitD_eq : ∀ {l : List Oper} {a b : List Oper} {o : Oper}, splitD l = some (a, o, b) → l = a ++ o :: b ∧ ∃ d, dfrOf o = some d
  | [], _, _, _, h => by cases h
  | x :: r, a, b, o, h => by
    unfold splitD at h
    cases hx : dfrOf x with
    | some d =>
      rw [hx] at h
      simp only [sI, Prod.mk.injEq] at h
      obtain ⟨rfl, rfl, rfl⟩ := h
      exact ⟨rfl, d, hx⟩
    | none =>
      rw [hx] at h
      simp only at h
      obtain ⟨⟨a', o', b'⟩, h1, h2⟩ := Option.map_eq_some_iff.1 h
      simp only [Prod.mk.injEq] at h2
      obtain ⟨rfl, rfl, rfl⟩ := h2
      obtain ⟨e, hd⟩ := splitD_eq h1
      exact ⟨by rw [e]; rfl, hd⟩
def compSp (P : Program) (A : Ann) (nt : Nat) (b : Nat) : Code → Option (List Sp)
  | .seq x y => (compSp P A nt b x).bind fun l => (compSp P A nt b y).bind fun r => some (l ++ r)
  | .region id ops draw => match draw, splitD ops.toList with
    | false, some (p, o, q) => (p.mapM (compO P A.ow nt ops)).bind fun p => (q.mapM (compO P A.ow nt ops)).bind fun q => (dfrOf o).bind fun d => some [.dfr p d.1 d.2 q (A.keepR id)]
    | _, _ => (comp P A nt b (.region id ops draw)).bind fun c => some [.code c]
  | c => (comp P A nt b c).bind fun c => some [.code c]
def isFn : AV → Bool
  | .fn _ _ _ => true
  | _ => false
section
variable (cw : C → Fr → List AO → Option S) (rn : List O → Fr → List AO → Option SR)
def spW : List Sp → Fr → List AO → List Dfr → Option (S × List Dfr)
  | [], fr, H, ds => some ((.normal, fr, H), ds)
  | .code c :: r, fr, H, ds => (cw c fr H).bind fun s => match s.1 with
    | .normal => spW r s.2.1 s.2.2 ds
    | _ => some (s, ds)
  | .dfr p x args q l :: r, fr, H, ds => (rn p fr H).bind fun
    | .go fr1 H1 => (if isFn (ev fr1 x) = true then rn q fr1 H1 else none).bind fun
      | .go fr2 H2 => spW r (keep l fr2) H2 ((ev fr1 x, args.map (ev fr1)) :: ds)
      | .pan a fr2 H2 => some ((.pan a, fr2, H2), (ev fr1 x, args.map (ev fr1)) :: ds)
    | .pan a fr1 H1 => some ((.pan a, fr1, H1), ds)
theorem spW_append : ∀ (l r : List Sp) (fr : Fr) (H : List AO) (ds : List Dfr), spW cw rn (l ++ r) fr H ds = (spW cw rn l fr H ds).bind fun p => match p.1.1 with
    | .normal => spW cw rn r p.1.2.1 p.1.2.2 p.2
    | _ => some p
  | [], r, fr, H, ds => rfl
  | .code c :: l, r, fr, H, ds => by
    simp only [List.cons_append, spW]
    cases cw c fr H with
    | none => rfl
    | some s =>
      obtain ⟨e, fr1, H1⟩ := s
      cases e with
      | normal => exact spW_append l r fr1 H1 ds
      | _ => rfl
  | .dfr p x args q k :: l, r, fr, H, ds => by
    simp only [List.cons_append, spW]
    cases rn p fr H with
    | none => rfl
    | some s =>
      cases s with
      | pan a fr1 H1 => rfl
      | go fr1 H1 =>
        simp only [Option.bind_some]
        cases (if isFn (ev fr1 x) = true then rn q fr1 H1 else none) with
        | none => rfl
        | some s2 =>
          cases s2 with
          | pan a fr2 H2 => rfl
          | go fr2 H2 => exact spW_append l r _ H2 _
end
inductive DRel (g : G) (w : World) : List Dfr → List Deferred → Prop
  | nil : DRel g w [] []
  | cons {a : AV} {as : List AV} {ds : List Dfr} {f : Fn} {first cap args : Array Value} {Ds : List Deferred} (h : VR g w a (.func f first cap)) (hs : VRs g w as args.toList) (r : DRel g w ds Ds) :
      DRel g w ((a, as) :: ds) ({ target := .fn f cap, args := first ++ args } :: Ds)
theorem DRel.step {g g' : G} {w w' : World} {H H' : List AO} {ds : List Dfr} {Ds : List Deferred} (h : DRel g w ds Ds) (s : Stp g w H g' w' H') : DRel g' w' ds Ds := by
  induction h with
  | nil => exact .nil
  | cons h hs _ ih => exact .cons (s.vr h) ⟨hs.1, fun i a v ha hv => s.vr (hs.2 i a v ha hv)⟩ ih
def SpPost (nt : Nat) (g : G) (w : World) (H : List AO) (Q : Exit → Act → World → Prop) (p : S × List Dfr) : Prop :=
  ∀ g' w' act' Ds, Stp g w H g' w' p.1.2.2 → Sit nt Ds g' w' p.1.2.2 p.1.2.1 act' → DRel g' w' p.2 Ds → match p.1.1 with
  | .normal => Q .normal act' w'
  | .exit id => Q (.exit id) act' w'
  | .ret => Q .ret act' w'
  | .pan a => ∀ v, VR g' w' a v → Q (.panic [{ v, recovered := false }]) act' w'
section
variable {P : Program} {call : CallF} {mt : MtF} {md : FuncId → Md}
def CdOk (P : Program) (A : Ann) (nt : Nat) (cw : C → Fr → List AO → Option S) : Prop := ∀ (x : Code) (b : Nat) (c : C), comp P A nt b x = some c →
  ∀ (ds : List Deferred) (fr : Fr) (H : List AO) (s : Ai.S) (g : G) (w : World) (act : Act), Sit nt ds g w H fr act → cw c fr H = some s → ∀ Q, EPost nt ds g w H Q s → ∀ ro : Option Nat, x.wpIn (WF ro) 0 P Q act w
def RPost (nt : Nat) (ds : List Deferred) (g : G) (w : World) (H : List AO) (K : Act → World → Prop) (Q : Exit → Act → World → Prop) : SR → Prop
  | .go fr' H' => ∀ g' w' act', Stp g w H g' w' H' → Sit nt ds g' w' H' fr' act' → K act' w'
  | .pan a fr' H' => ∀ g' w' act' v, Stp g w H g' w' H' → Sit nt ds g' w' H' fr' act' → VR g' w' a v → Q (.panic [{ v, recovered := false }]) act' w'
theorem RPost.step {nt : Nat} {ds : List Deferred} {g g1 : G} {w w1 : World} {H H1 : List AO} {K : Act → World → Prop} {Q : Exit → Act → World → Prop} {s : SR} (h : RPost nt ds g w H K Q s) (st : Stp g w H g1 w1 H1) : RPost nt ds g1 w1 H1 K Q s := by
  cases s with
  | go fr' H' => exact fun g' w' act' h1 h2 => h g' w' act' (st.trans h1) h2
  | pan a fr' H' => exact fun g' w' act' v h1 h2 h3 => h g' w' act' v (st.trans h1) h2 h3
theorem run_okR {ow : List Nat} {nt : Nat} {ds : List Deferred} {ops : Array Oper} (CO : CallOk P call) (MT : MtOk P mt) {Q : Exit → Act → World → Prop} (rest : List Oper) : ∀ (l : List Oper) (l' : List O) (fr : Fr) (H : List AO) (s : SR) (g : G) (w : World) (act : Act),
    l.mapM (compO P ow nt ops) = some l' → Sit nt ds g w H fr act → run call mt md l' fr H = some s → RPost nt ds g w H (wpList P ops Q rest) Q s → wpList P ops Q (l ++ rest) act w
  | [], l', fr, H, s, g, w, act, hc, S, h, hq => by
    simp only [List.mapM_nil, Option.pure_def, sI] at hc; subst hc
    simp only [run, sI] at h; subst h
    exact hq g w act Stp.refl S
  | o :: l, l', fr, H, s, g, w, act, hc, S, h, hq => by
    rw [List.mapM_cons] at hc
    obtain ⟨o', h1, hc⟩ := bO.1 hc
    obtain ⟨l2, h2, hc⟩ := bO.1 hc
    simp only [Option.pure_def, sI] at hc; subst hc
    simp only [run] at h
    obtain ⟨b, hb, h⟩ := bO.1 h
    have hw := wanted_ok h1 S.fr hb
    rw [List.cons_append]
    unfold wpList
    cases b with
    | true =>
      rw [if_pos hw]
      obtain ⟨s1, hs, h⟩ := bO.1 h
      left
      refine (step_ok CO MT h1 S hs _ Q (fun fr' H' e g' w' act' st S' => ?_) (fun a fr' H' e g' w' v st S' hv => ?_)).1
      · subst e
        exact run_okR CO MT rest l l2 fr' H' s g' w' act' h2 S' h (hq.step st)
      · subst e
        simp only [sI] at h; subst h
        exact hq g' w' act v st S' hv
    | false =>
      rw [if_neg (by rw [hw]; decide)]
      obtain ⟨_, hdst, hlt, _⟩ := compO_inv h1
      refine run_okR CO MT rest l l2 _ H s g w (act.put o.dst undef) h2 ⟨S.rel, ?_, by rw [put_size]; exact S.size, by rw [put_defers]; exact S.defers⟩ h hq
      rw [← hdst]
      exact S.fr.put o'.dst _ _ (.fv _ _ (.lit _)) (fun t ht => by rw [S.size]; exact hlt t (hdst ▸ ht))
theorem dfr_run {o : Oper} {d : X × List X} (hd : dfrOf o = some d) {fr : Fr} {act : Act} {g : G} {w : World} (F : FRel g w fr act) {f : Fn} {a b : List AV} (he : ev fr d.1 = .fn f a b) :
    ∃ (first cap args : Array Value), VR g w (ev fr d.1) (.func f first cap) ∧ VRs g w (d.2.map (ev fr)) args.toList ∧ (execOp act.eval o).run P w = .ok (.defer { target := .fn f cap, args := first ++ args }) w ∧ o.dst = none ∧ o.guard = none := by
  unfold dfrOf at hd
  split at hd
  · rename_i c h1 h2 h3
    split at hd
    · rename_i x hx
      simp only [sI] at hd; subst hd
      have hv := ev_vr F x
      simp only at he
      rw [he] at hv
      obtain ⟨vs, us, e, _⟩ := hv.fn_inv
      have ha := evs_vr F c.args
      refine ⟨vs, us, c.args.map act.eval, by simp only; rw [← e]; exact ev_vr F x, ?_, ?_, h3, h2⟩
      · exact ha
      · simp only [execOp, h1, resolve, hx, Deferred.ofValue, e]
        simp
    · cases hd
  · cases hd
theorem sp_ok {A : Ann} {nt : Nat} {cw : C → Fr → List AO → Option S} (CO : CallOk P call) (MT : MtOk P mt) (CD : CdOk P A nt cw) : ∀ (x : Code) (b : Nat) (l : List Sp), compSp P A nt b x = some l →
    ∀ (ds : List Dfr) (Ds : List Deferred) (fr : Fr) (H : List AO) (p : Ai.S × List Dfr) (g : G) (w : World) (act : Act), Sit nt Ds g w H fr act → DRel g w ds Ds → spW cw (run call mt md) l fr H ds = some p → ∀ Q, SpPost nt g w H Q p → x.wp P Q act w := by
  have base : ∀ (x : Code) (b : Nat) (c : C), comp P A nt b x = some c → ∀ (ds : List Dfr) (Ds : List Deferred) (fr : Fr) (H : List AO) (p : Ai.S × List Dfr) (g : G) (w : World) (act : Act), Sit nt Ds g w H fr act → DRel g w ds Ds → spW cw (run call mt md) [.code c] fr H ds = some p → ∀ Q, SpPost nt g w H Q p → x.wp P Q act w := by
    intro x b c hc ds Ds fr H p g w act S D h Q hQ
    simp only [spW] at h
    obtain ⟨s, hs, h⟩ := bO.1 h
    refine wpIn_wide.1 (CD x b c hc Ds fr H s g w act S hs Q ?_ none)
    obtain ⟨e, fr1, H1⟩ := s
    cases e with
    | normal =>
      simp only [sI] at h; subst h
      exact fun g' w' act' st S' => hQ g' w' act' Ds st S' (D.step st)
    | exit id =>
      simp only [sI] at h; subst h
      exact fun g' w' act' st S' => hQ g' w' act' Ds st S' (D.step st)
    | ret =>
      simp only [sI] at h; subst h
      exact fun g' w' act' st S' => hQ g' w' act' Ds st S' (D.step st)
    | pan a =>
      simp only [sI] at h; subst h
      exact fun g' w' act' v st S' hv => hQ g' w' act' Ds st S' (D.step st) v hv
  intro x
  induction x with
  | seq x y ihx ihy =>
    intro b l hc ds Ds fr H p g w act S D h Q hQ
    simp only [compSp] at hc
    obtain ⟨l1, h1, hc⟩ := bO.1 hc
    obtain ⟨l2, h2, hc⟩ := bO.1 hc
    simp only [sI] at hc; subst hc
    rw [spW_append] at h
    obtain ⟨p1, h3, h⟩ := bO.1 h
    refine wp_seq (ihx b l1 h1 ds Ds fr H p1 g w act S D h3 _ ?_)
    obtain ⟨⟨e, fr1, H1⟩, ds1⟩ := p1
    intro g' w' act' Ds' st S' D'
    cases e with
    | normal =>
      simp only at h ⊢
      refine ihy b l2 h2 ds1 Ds' fr1 H1 p g' w' act' S' D' h Q ?_
      exact fun g2 w2 act2 Ds2 st2 S2 D2 => hQ g2 w2 act2 Ds2 (st.trans st2) S2 D2
    | exit id =>
      simp only [sI] at h; subst h
      exact hQ g' w' act' Ds' st S' D'
    | ret =>
      simp only [sI] at h; subst h
      exact hQ g' w' act' Ds' st S' D'
    | pan a =>
      simp only [sI] at h; subst h
      exact hQ g' w' act' Ds' st S' D'
  | region id ops draw =>
    intro b l hc
    simp only [compSp] at hc
    split at hc
    · rename_i p o q heq
      obtain ⟨p', h1, hc⟩ := bO.1 hc
      obtain ⟨q', h2, hc⟩ := bO.1 hc
      obtain ⟨d, h3, hc⟩ := bO.1 hc
      simp only [sI] at hc; subst hc
      obtain ⟨e, _⟩ := splitD_eq heq
      intro ds Ds fr H r g w act S D h Q hQ
      simp only [spW] at h
      obtain ⟨s1, hs1, h⟩ := bO.1 h
      refine wp_region_list ?_
      rw [e]
      refine run_okR CO MT (o :: q) p p' fr H s1 g w act h1 S hs1 ?_
      cases s1 with
      | pan a fr1 H1 =>
        simp only [sI] at h; subst h
        exact fun g' w' act' v st S' hv => hQ g' w' act' Ds st S' (D.step st) v hv
      | go fr1 H1 =>
        simp only at h
        obtain ⟨s2, hs2, h⟩ := bO.1 h
        intro g1 w1 act1 st1 S1
        by_cases hf : isFn (ev fr1 d.1) = true
        case neg => rw [if_neg hf] at hs2; cases hs2
        rw [if_pos hf] at hs2
        obtain ⟨f, a, b', hfe⟩ : ∃ f a b', ev fr1 d.1 = .fn f a b' := by
          generalize ev fr1 d.1 = y at hf
          cases y <;> first | exact ⟨_, _, _, rfl⟩ | cases hf
        obtain ⟨first, cap, args, v1, v2, hr, hdst, hg⟩ := dfr_run h3 S1.fr hfe
        unfold wpList
        rw [if_pos (by simp [Region.wanted, hg])]
        left
        unfold Oper.wp
        rw [hr, Oper.upon_defer, hdst]
        have hput : ∀ a : Act, a.put none undef = a := fun a => rfl
        rw [hput]
        have S2 : Sit nt ({ target := .fn f cap, args := first ++ args } :: Ds) g1 w1 H1 fr1 { act1 with defers := { target := .fn f cap, args := first ++ args } :: act1.defers } := ⟨S1.rel, S1.fr, S1.size, by simp [S1.defers]⟩
        have D2 : DRel g1 w1 ((ev fr1 d.1, d.2.map (ev fr1)) :: ds) ({ target := .fn f cap, args := first ++ args } :: Ds) := .cons v1 v2 (D.step st1)
        have hnil := run_okR CO MT [] q q' fr1 H1 s2 g1 w1 _ h2 S2 hs2 (Q := Q) (ops := ops)
        rw [List.append_nil] at hnil
        refine hnil ?_
        cases s2 with
        | pan a fr2 H2 =>
          simp only [sI] at h; subst h
          exact fun g' w' act' v st S' hv => hQ g' w' act' _ (st1.trans st) S' (D2.step st) v hv
        | go fr2 H2 =>
          simp only [spW, sI] at h; subst h
          exact fun g' w' act' st S' => wpList_nil (hQ g' w' act' _ (st1.trans st) (S'.keep _) (D2.step st))
    · obtain ⟨c, h1, hc⟩ := bO.1 hc
      simp only [sI] at hc; subst hc
      exact base _ b c h1
  | _ =>
    intro b l hc
    simp only [compSp] at hc
    obtain ⟨c, h1, hc⟩ := bO.1 hc
    simp only [sI] at hc; subst hc
    exact base _ b c h1
abbrev DcF := FuncId → Option AV → List AV → List AO → Option (Option AV × List AO)
def UM (g : G) (w : World) : Option AV → FrameMode → Prop
  | none, u => u = .returning
  | some a, u => ∃ v, u = .panicking [{ v, recovered := false }] ∧ VR g w a v
def DcOk (P : Program) (dc : DcF) : Prop := ∀ f m args H m' H', dc f m args H = some (m', H') → ∀ (g : G) (w : World) (vs : Array Value) (u : FrameMode), Rel g w H → VRs g w args vs.toList → UM g w m u →
  (callFunc f vs).run P w = .ok (.enter f vs) w ∧ CallsD P f vs u w fun e u' w' => (∃ v, e = .returned v) ∧ ∃ g', Rel g' w' H' ∧ Stp g w H g' w' H' ∧ UM g' w' m' (settle u')
def leaveW (dc : DcF) : List Dfr → Option AV → List AO → Option (Option AV × List AO)
  | [], m, H => some (m, H)
  | d :: ds, m, H => match d.1 with
    | .fn (.func f) x y => (dc f m (x ++ d.2 ++ y) H).bind fun p => leaveW dc ds p.1 p.2
    | _ => none
theorem UM.run {g : G} {w : World} {m : Option AV} {u : FrameMode} (h : UM g w m u) : u ≠ .run := by
  cases m with
  | none => rw [show u = .returning from h]; intro e; cases e
  | some a => obtain ⟨v, rfl, _⟩ := h; intro e; cases e
theorem UM.step {g g' : G} {w w' : World} {H H' : List AO} {m : Option AV} {u : FrameMode} (h : UM g w m u) (s : Stp g w H g' w' H') : UM g' w' m u := by
  cases m with
  | none => exact h
  | some a => obtain ⟨v, e, hv⟩ := h; exact ⟨v, e, s.vr hv⟩
theorem leave_ok {dc : DcF} (DO : DcOk P dc) {fn : Func} {tmps : Array Value} {R : Ending → World → Prop} : ∀ (ds : List Dfr) (Ds : List Deferred) (m : Option AV) (H : List AO) (m' : Option AV) (H' : List AO) (g : G) (w : World) (u : FrameMode),
    leaveW dc ds m H = some (m', H') → Rel g w H → DRel g w ds Ds → UM g w m u → (∀ g' w' u', Rel g' w' H' → Stp g w H g' w' H' → UM g' w' m' u' → Leaves P fn tmps R [] u' w') → Leaves P fn tmps R Ds u w
  | [], Ds, m, H, m', H', g, w, u, h, R0, D, U, hp => by
    cases D
    simp only [leaveW, sI, Prod.mk.injEq] at h
    obtain ⟨rfl, rfl⟩ := h
    exact hp g w u R0 Stp.refl U
  | d :: ds, Ds, m, H, m', H', g, w, u, h, R0, D, U, hp => by
    obtain ⟨a, as⟩ := d
    cases D with
    | @cons _ _ _ f first cap args Ds hv hs D =>
      simp only [leaveW] at h
      split at h
      · rename_i fi x y
        obtain ⟨⟨m1, H1⟩, h1, h⟩ := bO.1 h
        obtain ⟨vs, us, e, l1, p1, l2, p2⟩ := hv.fn_inv
        simp only [Value.func.injEq] at e
        obtain ⟨rfl, rfl, rfl⟩ := e
        have V : VRs g w (x ++ as ++ y) (first ++ args ++ cap).toList := by
          rw [Array.toList_append, Array.toList_append]
          exact VRs.append (VRs.append ⟨by simpa using l1, fun i a v ha hv => p1 i a v ha (by rwa [Array.getElem?_toList] at hv)⟩ hs) ⟨by simpa using l2, fun i a v ha hv => p2 i a v ha (by rwa [Array.getElem?_toList] at hv)⟩
        obtain ⟨hi, hc⟩ := DO fi m _ H m1 H1 h1 g w _ u R0 V U
        refine ⟨U.run, _, _, fi, _, rfl, hi, hc.mono fun e u' w' hh => ?_⟩
        obtain ⟨⟨v, rfl⟩, g', R', st, U'⟩ := hh
        exact leave_ok DO ds Ds m1 H1 m' H' g' w' (settle u') h R' (D.step st) U' fun g2 w2 u2 R2 st2 U2 => hp g2 w2 u2 R2 (st.trans st2) U2
      · cases h
structure FD where
  np : Nat
  nt : Nat
  res : List RV
  sp : List Sp
def compFD (P : Program) (A : Ann) (fn : Func) : Option FD :=
  fn.body.bind fun c => (compSp P A fn.ntmps 0 c).bind fun c => (fn.results.toList.mapM (compRV P)).bind fun rs =>
    if fn.params.size + fn.nfree ≤ fn.ntmps ∧ (fn.name == "runtime.NumGoroutine") = false then some ⟨fn.params.size + fn.nfree, fn.ntmps, rs, c⟩ else none
def modeS : EX → Option (Option AV)
  | .normal | .ret => some none
  | .pan a => some (some a)
  | .exit _ => none
def finD (F : FD) (dc : DcF) (p : Ai.S × List Dfr) : Option (R × List AO) :=
  (modeS p.1.1).bind fun m => (leaveW dc p.2 m p.1.2.2).bind fun q => match q.1 with
    | none => (res p.1.2.1 q.2 F.res).bind fun r => some (.ret r, q.2)
    | some a => some (.pan a, q.2)
def gD (cw : C → Fr → List AO → Option Ai.S) (rn : List O → Fr → List AO → Option SR) (dc : DcF) (F : FD) (args : List AV) (H : List AO) : Option (R × List AO) :=
  bif args.length == F.np then (spW cw rn F.sp (initFr 0 args) H []).bind (finD F dc) else none
theorem defers_ok {A : Ann} {cw : C → Fr → List AO → Option Ai.S} {dc : DcF} (CO : CallOk P call) (MT : MtOk P mt) (DO : DcOk P dc) {f : FuncId} {fn : Func} {F : FD} (hfn : P.funcs[f]? = some fn) (CD : CdOk P A fn.ntmps cw) (hF : compFD P A fn = some F) : OneOk P f (gD cw (run call mt md) dc F) := by
  intro args H r H' h w g vs R V
  unfold compFD at hF
  obtain ⟨c0, hb, hF⟩ := bO.1 hF
  obtain ⟨c, hc, hF⟩ := bO.1 hF
  obtain ⟨rs, hr, hF⟩ := bO.1 hF
  by_cases hle : fn.params.size + fn.nfree ≤ fn.ntmps ∧ (fn.name == "runtime.NumGoroutine") = false
  case neg => rw [if_neg hle] at hF; cases hF
  rw [if_pos hle] at hF
  simp only [sI] at hF; subst hF
  unfold gD at h
  cases hl : args.length == fn.params.size + fn.nfree with
  | false => simp only [hl] at h; cases h
  | true =>
    simp only [hl, cond_true] at h
    have hl : args.length = fn.params.size + fn.nfree := by simpa using hl
    obtain ⟨p, hs, h⟩ := bO.1 h
    refine .inl ⟨enters hfn hle.2 hb vs w, calls_of_wp_defers hfn hb ?_⟩
    have hvs : vs.size = args.length := by have := V.1; simp at this; omega
    have S : Sit fn.ntmps [] g w H (initFr 0 args) { tmps := vs ++ Array.replicate (fn.ntmps - vs.size) undef, defers := [] } := by
      refine ⟨R, fun t => ?_, by simp; omega, rfl⟩
      have := get_init t args 0
      rw [Nat.zero_add] at this
      rw [this]
      by_cases ht : t < args.length
      · rw [List.getD_eq_getElem?_getD, List.getElem?_eq_getElem ht, Option.getD_some]
        refine V.2 t _ _ (List.getElem?_eq_getElem ht) ?_
        rw [Array.getD_eq_getD_getElem?, Array.getElem?_append_left (by omega), Array.getElem?_eq_getElem (by omega), Option.getD_some, Array.getElem?_toList, Array.getElem?_eq_getElem (by omega)]
      · rw [List.getD_eq_getElem?_getD, List.getElem?_eq_none (by omega)]
        exact .fv _ _ (.any _)
    refine sp_ok CO MT CD c0 0 c hc [] [] _ H p g w _ S .nil hs _ ?_
    obtain ⟨⟨e, fr1, H1⟩, ds⟩ := p
    intro g' w' act' Ds st S' D'
    unfold finD at h
    obtain ⟨m, hm, h⟩ := bO.1 h
    obtain ⟨⟨m', H2⟩, hlv, h⟩ := bO.1 h
    have key : ∀ u, UM g' w' m u → Leaves P fn act'.tmps (fun e w' => ∃ g', Rel g' w' H' ∧ Stp g w H g' w' H' ∧ ERel g' w' r e) Ds u w' := by
      intro u hu
      refine leave_ok DO ds Ds m H1 m' H2 g' w' u hlv S'.rel D' hu fun g2 w2 u2 R2 st2 U2 => ?_
      cases m' with
      | none =>
        simp only at h
        obtain ⟨a, ha, h⟩ := bO.1 h
        simp only [sI, Prod.mk.injEq] at h
        obtain ⟨rfl, rfl⟩ := h
        obtain ⟨v, hv1, hv2⟩ := results_run fn act' R2 (S'.fr.step st2) hr ha
        rw [show u2 = .returning from U2]
        exact ⟨v, hv1, g2, R2, st.trans st2, v, rfl, hv2⟩
      | some a =>
        simp only [sI, Prod.mk.injEq] at h
        obtain ⟨rfl, rfl⟩ := h
        obtain ⟨v, rfl, hv⟩ := U2
        exact ⟨g2, R2, st.trans st2, v, rfl, hv⟩
    rw [S'.defers.symm] at key
    cases e with
    | normal =>
      simp only [modeS, sI] at hm; subst hm
      exact key _ rfl
    | ret =>
      simp only [modeS, sI] at hm; subst hm
      exact key _ rfl
    | pan a =>
      simp only [modeS, sI] at hm; subst hm
      exact fun v hv => key _ ⟨v, rfl, hv⟩
    | exit id => cases hm
end
end Go.Ai
namespace Go.Ai
inductive Rp where
  | code (c : C)
  | rcv (pre : List O) (dst : Option Nat) (post : List O) (l : List Nat)
def isRcv (o : Oper) : Bool :=
  match o.op, o.guard with
  | .call c, none => match c.callee with
    | .builtin .recover => true
    | _ => false
  | _, _ => false
def splitR : List Oper → Option (List Oper × Oper × List Oper)
  | [] => none
  | o :: r => if isRcv o = true then some ([], o, r) else (splitR r).map fun p => (o :: p.1, p.2.1, p.2.2)
theorem splitR_eq : ∀ {l : List Oper} {a b : List Oper} {o : Oper}, splitR l = some (a, o, b) → l = a ++ o :: b ∧ isRcv o = true
  | [], _, _, _, h => by cases h
  | x :: r, a, b, o, h => by
    unfold splitR at h
    by_cases hx : isRcv x = true
    · rw [if_pos hx] at h
      simp only [sI, Prod.mk.injEq] at h
      obtain ⟨rfl, rfl, rfl⟩ := h
      exact ⟨rfl, hx⟩
    · rw [if_neg hx] at h
      obtain ⟨⟨a', o', b'⟩, h1, h2⟩ := Option.map_eq_some_iff.1 h
      simp only [Prod.mk.injEq] at h2
      obtain ⟨rfl, rfl, rfl⟩ := h2
      obtain ⟨e, hd⟩ := splitR_eq h1
      exact ⟨by rw [e]; rfl, hd⟩
def compRp (P : Program) (A : Ann) (nt : Nat) (b : Nat) : Code → Option (List Rp)
  | .seq x y => (compRp P A nt b x).bind fun l => (compRp P A nt b y).bind fun r => some (l ++ r)
  | .region id ops draw => match draw, splitR ops.toList with
    | false, some (p, o, q) => if dstOk nt o.dst = true then (p.mapM (compO P A.ow nt ops)).bind fun p => (q.mapM (compO P A.ow nt ops)).bind fun q => some [.rcv p o.dst q (A.keepR id)] else none
    | _, _ => (comp P A nt b (.region id ops draw)).bind fun c => some [.code c]
  | c => (comp P A nt b c).bind fun c => some [.code c]
def nilI : AV := .lit .nilIface
section
variable (cw : C → Fr → List AO → Option S) (rn : List O → Fr → List AO → Option SR)
def rpW : List Rp → Fr → List AO → Option AV → Option (S × Option AV)
  | [], fr, H, m => some ((.normal, fr, H), m)
  | .code c :: r, fr, H, m => (cw c fr H).bind fun s => match s.1 with
    | .normal => rpW r s.2.1 s.2.2 m
    | _ => some (s, m)
  | .rcv p d q l :: r, fr, H, m => (rn p fr H).bind fun
    | .go fr1 H1 => (rn q (putD fr1 d (m.getD nilI)) H1).bind fun
      | .go fr2 H2 => rpW r (keep l fr2) H2 none
      | .pan _ _ _ => none
    | .pan _ _ _ => none
theorem rpW_append : ∀ (l r : List Rp) (fr : Fr) (H : List AO) (m : Option AV), rpW cw rn (l ++ r) fr H m = (rpW cw rn l fr H m).bind fun p => match p.1.1 with
    | .normal => rpW cw rn r p.1.2.1 p.1.2.2 p.2
    | _ => some p
  | [], r, fr, H, m => rfl
  | .code c :: l, r, fr, H, m => by
    simp only [List.cons_append, rpW]
    cases cw c fr H with
    | none => rfl
    | some s =>
      obtain ⟨e, fr1, H1⟩ := s
      cases e with
      | normal => exact rpW_append l r fr1 H1 m
      | _ => rfl
  | .rcv p d q k :: l, r, fr, H, m => by
    simp only [List.cons_append, rpW]
    cases rn p fr H with
    | none => rfl
    | some s =>
      cases s with
      | pan a fr1 H1 => rfl
      | go fr1 H1 =>
        simp only [Option.bind_some]
        cases rn q (putD fr1 d (m.getD nilI)) H1 with
        | none => rfl
        | some s2 =>
          cases s2 with
          | pan a fr2 H2 => rfl
          | go fr2 H2 => exact rpW_append l r _ H2 _
end
def RM (g : G) (w : World) (m : Option AV) (u : FrameMode) : Prop :=
  match m with
  | none => settle u = .returning ∧ (u = .returning ∨ ∃ v, u = .panicking [{ v, recovered := true }])
  | some a => ∃ v, u = .panicking [{ v, recovered := false }] ∧ VR g w a v
theorem RM.step {g g' : G} {w w' : World} {H H' : List AO} {m : Option AV} {u : FrameMode} (h : RM g w m u) (s : Stp g w H g' w' H') : RM g' w' m u := by
  cases m with
  | none => exact h
  | some a => obtain ⟨v, e, hv⟩ := h; exact ⟨v, e, s.vr hv⟩
theorem RM.settle {g : G} {w : World} {m : Option AV} {u : FrameMode} (h : RM g w m u) : UM g w m (Go.settle u) := by
  cases m with
  | none => exact h.1
  | some a => obtain ⟨v, rfl, hv⟩ := h; exact ⟨v, rfl, hv⟩
theorem RM.of {g : G} {w : World} {m : Option AV} {u : FrameMode} (h : UM g w m u) : RM g w m u := by
  cases m with
  | none => rw [show u = .returning from h]; exact ⟨rfl, .inl rfl⟩
  | some a => exact h
section
variable {P : Program} {call : CallF} {mt : MtF} {md : FuncId → Md}
theorem rcv_run {o : Oper} (h : isRcv o = true) (ρ : Operand → Value) (w : World) : (execOp ρ o).run P w = .ok .recover w ∧ o.guard = none := by
  unfold isRcv at h
  split at h
  · rename_i c h1 h2
    split at h
    · rename_i h3
      refine ⟨?_, h2⟩
      simp only [execOp, h1, resolve, h3]
      rfl
    · cases h
  · cases h
theorem wpOpsS_none {ops : Array Oper} {Q : Exit → Act → List Frame → World → Prop} {i : Nat} {rest : List Nat} {a : Act} {cs : List Frame} {w : World} {o : Oper} (ho : ops[i]? = some o) (hw : Region.wanted o (yielded ops a.tmps) = true)
    (h : o.wp P a w (fun a' w' => wpOpsS P ops Q rest a' cs w') (fun e a' w' => Q e a' cs w')) : wpOpsS P ops Q (i :: rest) a cs w := by
  unfold wpOpsS
  simp only [ho, hw, if_true]
  unfold Oper.wp at h
  split
  · rename_i w' hr
    rw [hr] at h
    exact h.elim
  · exact h
theorem run_okS {ow : List Nat} {nt : Nat} {ops : Array Oper} (CO : CallOk P call) (MT : MtOk P mt) {Q : Exit → Act → List Frame → World → Prop} {cs : List Frame} (rest : List Nat) : ∀ (l : List Oper) (k : Nat) (l' : List O) (fr : Fr) (H : List AO) (s : SR) (g : G) (w : World) (act : Act),
    (∀ j o, l[j]? = some o → ops[k + j]? = some o) → l.mapM (compO P ow nt ops) = some l' → Sit nt [] g w H fr act → run call mt md l' fr H = some s → (∃ fr' H', s = .go fr' H') → RPost nt [] g w H (fun a w => wpOpsS P ops Q rest a cs w) (fun e a w => Q e a cs w) s → wpOpsS P ops Q (List.range' k l.length ++ rest) act cs w
  | [], k, l', fr, H, s, g, w, act, hk, hc, S, h, hgo, hq => by
    simp only [List.mapM_nil, Option.pure_def, sI] at hc; subst hc
    simp only [run, sI] at h; subst h
    exact hq g w act Stp.refl S
  | o :: l, k, l', fr, H, s, g, w, act, hk, hc, S, h, hgo, hq => by
    rw [List.mapM_cons] at hc
    obtain ⟨o', h1, hc⟩ := bO.1 hc
    obtain ⟨l2, h2, hc⟩ := bO.1 hc
    simp only [Option.pure_def, sI] at hc; subst hc
    simp only [run] at h
    obtain ⟨b, hb, h⟩ := bO.1 h
    have hw := wanted_ok h1 S.fr hb
    have ho : ops[k]? = some o := hk 0 o rfl
    have hk' : ∀ j o2, l[j]? = some o2 → ops[k + 1 + j]? = some o2 := fun j o2 hj => by
      have := hk (j + 1) o2 hj
      rwa [show k + (j + 1) = k + 1 + j by omega] at this
    rw [List.length_cons, List.range'_succ, List.cons_append]
    cases b with
    | true =>
      obtain ⟨s1, hs, h⟩ := bO.1 h
      refine wpOpsS_none ho hw ?_
      refine (step_ok CO MT h1 S hs _ _ (fun fr' H' e g' w' act' st S' => ?_) (fun a fr' H' e g' w' v st S' hv => ?_)).1
      · subst e
        exact run_okS CO MT rest l (k + 1) l2 fr' H' s g' w' act' hk' h2 S' h hgo (hq.step st)
      · subst e
        simp only [sI] at h; subst h
        exact hq g' w' act v st S' hv
    | false =>
      obtain ⟨_, hdst, hlt, _⟩ := compO_inv h1
      unfold wpOpsS
      simp only [ho]
      rw [if_neg (by rw [hw]; decide)]
      refine run_okS CO MT rest l (k + 1) l2 _ H s g w (act.put o.dst undef) hk' h2 ⟨S.rel, ?_, by rw [put_size]; exact S.size, by rw [put_defers]; exact S.defers⟩ h hgo hq
      rw [← hdst]
      exact S.fr.put o'.dst _ _ (.fv _ _ (.lit _)) (fun t ht => by rw [S.size]; exact hlt t (hdst ▸ ht))
def RpPost (nt : Nat) (g : G) (w : World) (H : List AO) (c₀ : Frame) (cs : List Frame) (Q : Exit → Act → List Frame → World → Prop) (p : S × Option AV) : Prop :=
  ∀ g' w' act' u', Stp g w H g' w' p.1.2.2 → Sit nt [] g' w' p.1.2.2 p.1.2.1 act' → RM g' w' p.2 u' → match p.1.1 with
  | .normal => Q .normal act' ({ c₀ with mode := u' } :: cs) w'
  | .exit id => Q (.exit id) act' ({ c₀ with mode := u' } :: cs) w'
  | .ret => Q .ret act' ({ c₀ with mode := u' } :: cs) w'
  | .pan a => ∀ v, VR g' w' a v → Q (.panic [{ v, recovered := false }]) act' ({ c₀ with mode := u' } :: cs) w'
theorem rp_ok {A : Ann} {nt : Nat} {cw : C → Fr → List AO → Option S} (CO : CallOk P call) (MT : MtOk P mt) (CD : CdOk P A nt cw) (c₀ : Frame) (cs : List Frame) : ∀ (x : Code) (b : Nat) (l : List Rp), compRp P A nt b x = some l →
    ∀ (m : Option AV) (u : FrameMode) (fr : Fr) (H : List AO) (p : Ai.S × Option AV) (g : G) (w : World) (act : Act), Sit nt [] g w H fr act → RM g w m u → rpW cw (run call mt md) l fr H m = some p → ∀ Q, RpPost nt g w H c₀ cs Q p → x.wpS P Q act ({ c₀ with mode := u } :: cs) w := by
  have base : ∀ (x : Code) (b : Nat) (c : C), comp P A nt b x = some c → ∀ (m : Option AV) (u : FrameMode) (fr : Fr) (H : List AO) (p : Ai.S × Option AV) (g : G) (w : World) (act : Act), Sit nt [] g w H fr act → RM g w m u → rpW cw (run call mt md) [.code c] fr H m = some p → ∀ Q, RpPost nt g w H c₀ cs Q p → x.wpS P Q act ({ c₀ with mode := u } :: cs) w := by
    intro x b c hc m u fr H p g w act S D h Q hQ
    simp only [rpW] at h
    obtain ⟨s, hs, h⟩ := bO.1 h
    refine wpS_of_wp (wpIn_wide.1 (CD x b c hc [] fr H s g w act S hs _ ?_ none))
    obtain ⟨e, fr1, H1⟩ := s
    cases e with
    | normal =>
      simp only [sI] at h; subst h
      exact fun g' w' act' st S' => hQ g' w' act' u st S' (D.step st)
    | exit id =>
      simp only [sI] at h; subst h
      exact fun g' w' act' st S' => hQ g' w' act' u st S' (D.step st)
    | ret =>
      simp only [sI] at h; subst h
      exact fun g' w' act' st S' => hQ g' w' act' u st S' (D.step st)
    | pan a =>
      simp only [sI] at h; subst h
      exact fun g' w' act' v st S' hv => hQ g' w' act' u st S' (D.step st) v hv
  intro x
  induction x with
  | seq x y ihx ihy =>
    intro b l hc m u fr H p g w act S D h Q hQ
    simp only [compRp] at hc
    obtain ⟨l1, h1, hc⟩ := bO.1 hc
    obtain ⟨l2, h2, hc⟩ := bO.1 hc
    simp only [sI] at hc; subst hc
    rw [rpW_append] at h
    obtain ⟨p1, h3, h⟩ := bO.1 h
    refine wpS_seq (ihx b l1 h1 m u fr H p1 g w act S D h3 _ ?_)
    obtain ⟨⟨e, fr1, H1⟩, m1⟩ := p1
    intro g' w' act' u' st S' D'
    cases e with
    | normal =>
      simp only at h ⊢
      refine ihy b l2 h2 m1 u' fr1 H1 p g' w' act' S' D' h Q ?_
      exact fun g2 w2 act2 u2 st2 S2 D2 => hQ g2 w2 act2 u2 (st.trans st2) S2 D2
    | exit id =>
      simp only [sI] at h; subst h
      exact hQ g' w' act' u' st S' D'
    | ret =>
      simp only [sI] at h; subst h
      exact hQ g' w' act' u' st S' D'
    | pan a =>
      simp only [sI] at h; subst h
      exact hQ g' w' act' u' st S' D'
  | region id ops draw =>
    intro b l hc
    simp only [compRp] at hc
    split at hc
    · rename_i p o q heq
      by_cases hd : dstOk nt o.dst = true
      case neg => rw [if_neg hd] at hc; cases hc
      rw [if_pos hd] at hc
      obtain ⟨p', h1, hc⟩ := bO.1 hc
      obtain ⟨q', h2, hc⟩ := bO.1 hc
      simp only [sI] at hc; subst hc
      obtain ⟨e, hr⟩ := splitR_eq heq
      intro m u fr H r g w act S D h Q hQ
      simp only [rpW] at h
      obtain ⟨s1, hs1, h⟩ := bO.1 h
      refine wpS_region ?_
      have hsz : List.range ops.size = List.range' 0 p.length ++ p.length :: List.range' (p.length + 1) q.length := by
        have : ops.size = p.length + (q.length + 1) := by
          rw [← Array.length_toList, e]; simp
        rw [this, List.range_eq_range', ← List.range'_append_1, Nat.zero_add, List.range'_succ]
      rw [hsz]
      have ix : ∀ i : Nat, ops[i]? = (p ++ o :: q)[i]? := fun i => by rw [← e, Array.getElem?_toList]
      cases s1 with
      | pan a fr1 H1 => cases h
      | go fr1 H1 =>
        refine run_okS CO MT (p.length :: List.range' (p.length + 1) q.length) p 0 p' fr H _ g w act (fun j o2 hj => by rw [ix, Nat.zero_add, List.getElem?_append_left (List.getElem?_eq_some_iff.1 hj).1]; exact hj) h1 S hs1 ⟨_, _, rfl⟩ ?_
        intro g1 w1 act1 st1 S1
        simp only at h
        obtain ⟨s2, hs2, h⟩ := bO.1 h
        cases s2 with
        | pan a fr2 H2 => cases h
        | go fr2 H2 =>
          simp only [rpW, sI] at h; subst h
          have ho : ops[p.length]? = some o := by rw [ix, List.getElem?_append_right (Nat.le_refl _), Nat.sub_self]; rfl
          have hdl : ∀ d, o.dst = some d → d < nt := fun d he => by rw [he] at hd; simpa [dstOk, Nat.blt_eq] using hd
          have fin : ∀ (u' : FrameMode) (x : AV) (v : Value), putD fr1 o.dst x = putD fr1 o.dst (m.getD nilI) → VR g1 w1 x v → RM g1 w1 none u' → wpOpsS P ops Q (List.range' (p.length + 1) q.length) (act1.put o.dst v) ({ c₀ with mode := u' } :: cs) w1 := by
            intro u' x v hx hv D'
            have S2 : Sit nt [] g1 w1 H1 (putD fr1 o.dst (m.getD nilI)) (act1.put o.dst v) := by
              refine ⟨S1.rel, ?_, by rw [put_size]; exact S1.size, by rw [put_defers]; exact S1.defers⟩
              rw [← hx]
              exact S1.fr.put o.dst _ _ hv (fun t ht => by rw [S1.size]; exact hdl t ht)
            have := run_okS (Q := Q) (cs := { c₀ with mode := u' } :: cs) CO MT [] q (p.length + 1) q' _ H1 _ g1 w1 _ (fun j o2 hj => by
              rw [ix, List.getElem?_append_right (by omega), show p.length + 1 + j - p.length = j + 1 by omega]; exact hj) h2 S2 hs2 ⟨_, _, rfl⟩
            rw [List.append_nil] at this
            exact this fun g2 w2 act2 st2 S3 => hQ g2 w2 act2 u' (st1.trans st2) (S3.keep _) (D'.step st2)
          obtain ⟨hrun, hg⟩ := rcv_run (P := P) hr act1.eval w1
          have hwn : Region.wanted o (yielded ops act1.tmps) = true := by simp [Region.wanted, hg]
          unfold wpOpsS
          simp only [ho, hwn, if_true, hrun]
          cases m with
          | none =>
            have hrec : recoverD ({ c₀ with mode := u } :: cs) = none := by
              rcases D.2 with rfl | ⟨v, rfl⟩ <;> rfl
            rw [hrec]
            exact fin u nilI .nilIface rfl (.fv _ _ (.lit _)) (D.step st1)
          | some a =>
            obtain ⟨v, rfl, hv⟩ := D
            have hrec : recoverD ({ c₀ with mode := .panicking [{ v, recovered := false }] } :: cs) = some (v, { c₀ with mode := .panicking [{ v, recovered := true }] } :: cs) := rfl
            rw [hrec]
            exact fin _ a v rfl (st1.vr hv) ⟨rfl, .inr ⟨v, rfl⟩⟩
    · obtain ⟨c, h1, hc⟩ := bO.1 hc
      simp only [sI] at hc; subst hc
      exact base _ b c h1
  | _ =>
    intro b l hc
    simp only [compRp] at hc
    obtain ⟨c, h1, hc⟩ := bO.1 hc
    simp only [sI] at hc; subst hc
    exact base _ b c h1
structure FR where
  np : Nat
  nt : Nat
  res : List RV
  rp : List Rp
def compFR (P : Program) (A : Ann) (fn : Func) : Option FR :=
  fn.body.bind fun c => (compRp P A fn.ntmps 0 c).bind fun c => (fn.results.toList.mapM (compRV P)).bind fun rs =>
    if fn.params.size + fn.nfree ≤ fn.ntmps ∧ (fn.name == "runtime.NumGoroutine") = false then some ⟨fn.params.size + fn.nfree, fn.ntmps, rs, c⟩ else none
def finR (F : FR) (p : Ai.S × Option AV) : Option (Option AV × List AO) :=
  match p.1.1 with
  | .normal | .ret => (res p.1.2.1 p.1.2.2 F.res).bind fun _ => some (p.2, p.1.2.2)
  | _ => none
def gR (cw : C → Fr → List AO → Option Ai.S) (rn : List O → Fr → List AO → Option SR) (F : FR) (m : Option AV) (args : List AV) (H : List AO) : Option (Option AV × List AO) :=
  bif args.length == F.np then (rpW cw rn F.rp (initFr 0 args) H m).bind (finR F) else none
theorem recovers_ok {A : Ann} {cw : C → Fr → List AO → Option Ai.S} (CO : CallOk P call) (MT : MtOk P mt) {f : FuncId} {fn : Func} {F : FR} (hfn : P.funcs[f]? = some fn) (CD : CdOk P A fn.ntmps cw) (hF : compFR P A fn = some F) {m : Option AV} {args : List AV} {H : List AO} {m' : Option AV} {H' : List AO} (h : gR cw (run call mt md) F m args H = some (m', H'))
    (g : G) (w : World) (vs : Array Value) (u : FrameMode) (R : Rel g w H) (V : VRs g w args vs.toList) (U : UM g w m u) :
    (callFunc f vs).run P w = .ok (.enter f vs) w ∧ CallsD P f vs u w fun e u' w' => (∃ v, e = .returned v) ∧ ∃ g', Rel g' w' H' ∧ Stp g w H g' w' H' ∧ UM g' w' m' (settle u') := by
  unfold compFR at hF
  obtain ⟨c0, hb, hF⟩ := bO.1 hF
  obtain ⟨c, hc, hF⟩ := bO.1 hF
  obtain ⟨rs, hr, hF⟩ := bO.1 hF
  by_cases hle : fn.params.size + fn.nfree ≤ fn.ntmps ∧ (fn.name == "runtime.NumGoroutine") = false
  case neg => rw [if_neg hle] at hF; cases hF
  rw [if_pos hle] at hF
  simp only [sI] at hF; subst hF
  unfold gR at h
  cases hl : args.length == fn.params.size + fn.nfree with
  | false => simp only [hl] at h; cases h
  | true =>
    simp only [hl, cond_true] at h
    have hl : args.length = fn.params.size + fn.nfree := by simpa using hl
    obtain ⟨p, hs, h⟩ := bO.1 h
    refine ⟨enters hfn hle.2 hb vs w, callsD_of_wpS hfn hb fun c₀ cs hu => ?_⟩
    have hvs : vs.size = args.length := by have := V.1; simp at this; omega
    have S : Sit fn.ntmps [] g w H (initFr 0 args) { tmps := vs ++ Array.replicate (fn.ntmps - vs.size) undef, defers := [] } := by
      refine ⟨R, fun t => ?_, by simp; omega, rfl⟩
      have := get_init t args 0
      rw [Nat.zero_add] at this
      rw [this]
      by_cases ht : t < args.length
      · rw [List.getD_eq_getElem?_getD, List.getElem?_eq_getElem ht, Option.getD_some]
        refine V.2 t _ _ (List.getElem?_eq_getElem ht) ?_
        rw [Array.getD_eq_getD_getElem?, Array.getElem?_append_left (by omega), Array.getElem?_eq_getElem (by omega), Option.getD_some, Array.getElem?_toList, Array.getElem?_eq_getElem (by omega)]
      · rw [List.getD_eq_getElem?_getD, List.getElem?_eq_none (by omega)]
        exact .fv _ _ (.any _)
    have hc0 : ({ c₀ with mode := u } : Frame) = c₀ := by subst hu; rfl
    have key := rp_ok CO MT CD c₀ cs c0 0 c hc m u _ H p g w _ S (RM.of U) hs (bodyPostS P fn c₀ cs fun e u' w' => (∃ v, e = .returned v) ∧ ∃ g', Rel g' w' H' ∧ Stp g w H g' w' H' ∧ UM g' w' m' (settle u'))
    rw [hc0] at key
    refine key ?_
    obtain ⟨⟨e, fr1, H1⟩, m1⟩ := p
    intro g' w' act' u' st S' D'
    unfold finR at h
    cases e with
    | normal =>
      simp only at h
      obtain ⟨a, ha, h⟩ := bO.1 h
      simp only [sI, Prod.mk.injEq] at h
      obtain ⟨rfl, rfl⟩ := h
      obtain ⟨v, hv1, hv2⟩ := results_run fn act' S'.rel S'.fr hr ha
      exact ⟨S'.defers, u', rfl, v, hv1, ⟨v, rfl⟩, g', S'.rel, st, D'.settle⟩
    | ret =>
      simp only at h
      obtain ⟨a, ha, h⟩ := bO.1 h
      simp only [sI, Prod.mk.injEq] at h
      obtain ⟨rfl, rfl⟩ := h
      obtain ⟨v, hv1, hv2⟩ := results_run fn act' S'.rel S'.fr hr ha
      exact ⟨S'.defers, u', rfl, v, hv1, ⟨v, rfl⟩, g', S'.rel, st, D'.settle⟩
    | pan a => cases h
    | exit id => cases h
end
end Go.Ai
namespace Go.Ai
section
variable {T : FuncId → Option F} {ov ov' : Ov} {mt : MtF} {md : FuncId → Md} {P : Program}
def OvLe (T : FuncId → Option F) (ov ov' : Ov) : Prop := ∀ f, (∃ G G', ov f = some G ∧ ov' f = some G' ∧ ∀ args H r, G args H = some r → G' args H = some r) ∨ (ov f = none ∧ (ov' f = none ∨ T f = none))
theorem call_ov (h : OvLe T ov ov') : ∀ k, Le (call T ov mt md k) (call T ov' mt md k)
  | 0 => fun f a H r h => by cases h
  | k + 1 => fun f a H r hc => by
    rw [call] at hc ⊢
    rcases h f with ⟨G, G', h1, h2, h3⟩ | ⟨h1, h2⟩
    · rw [h1] at hc
      rw [h2]
      exact h3 _ _ _ hc
    · rw [h1] at hc
      simp only at hc
      rcases h2 with h2 | h2
      · rw [h2]
        simp only
        refine bind_mono (fun _ h => h) (fun F hc => ?_) hc
        cases hl : (a.length == F.np) with
        | false => rw [hl] at hc; cases hc
        | true =>
          rw [hl] at hc
          simp only [cond_true] at hc ⊢
          exact bind_mono (fun _ h' => code_mono (call_ov h k) (Nat.le_refl k) h') (fun _ h => h) hc
      · rw [h2] at hc; cases hc
theorem callW_ovLe (h : OvLe T ov ov') : Le (callW T ov mt md) (callW T ov' mt md) := fun f a H r hc => by
  obtain ⟨k, hk⟩ := callW_some.1 hc
  exact callW_some.2 ⟨k, call_ov h k _ _ _ _ hk⟩
theorem call_leW (k : Nat) : Le (call T ov mt md k) (callW T ov mt md) := fun f a H r h => callW_some.2 ⟨k, h⟩
theorem callW_ok (L : Linked P T ov mt) : CallOk P (callW T ov mt md) := fun f args H r H' h => by
  obtain ⟨k, hk⟩ := callW_some.1 h
  exact call_sound L k f args H r H' hk
theorem code_leW {c c' : CallF} (hc : Le c c') {k : Nat} : ∀ {x : C} {fr : Fr} {H : List AO} {s : S}, code c mt md k x fr H = some s → codeW c' mt md x fr H = some s
  | .skip, _, _, _, h => h
  | .reg ops l, fr, H, s, h => bind_mono (fun _ h => run_mono hc h) (fun _ h => h) h
  | .draw ops tail l late early, fr, H, s, h => bind_mono (fun _ h => runD_mono hc h) (fun _ h => bind_mono (fun _ h => runT_mono hc h) (fun _ h => h) h) h
  | .seq a b, fr, H, s, h => by
    simp only [code, codeW] at h ⊢
    refine bind_mono (fun _ h => code_leW hc h) (fun x h => ?_) h
    obtain ⟨e, fr1, H1⟩ := x
    cases e with
    | normal => exact code_leW hc h
    | _ => exact h
  | .cond x a b, fr, H, s, h => by
    simp only [code, codeW] at h ⊢
    refine bind_mono (fun _ h => h) (fun t h => ?_) h
    cases t with
    | true => exact code_leW hc h
    | false => exact code_leW hc h
  | .block id c, fr, H, s, h => by
    simp only [code, codeW] at h ⊢
    exact bind_mono (fun _ h => code_leW hc h) (fun _ h => h) h
  | .loop l c, fr, H, s, h => by
    simp only [code, codeW] at h ⊢
    exact loopW_some.2 ⟨k, loop_mono (fun _ _ _ h => code_leW hc h) (Nat.le_refl k) h⟩
  | .exit id, _, _, _, h => h
  | .ret, _, _, _, h => h
  | .bad, _, _, _, h => h
theorem cdOk_W (L : Linked P T ov mt) (A : Ann) (nt : Nat) : CdOk P A nt (codeW (callW T ov mt md) mt md) := by
  intro x b c hx ds fr H s g w act S h Q hQ ro
  obtain ⟨k, hk⟩ := code_fin h
  exact code_ok L.fol (call_sound L k) L.mt x b c hx fr H s g w act S hk Q hQ
end
section
variable {cw cw' : C → Fr → List AO → Option S} {rn rn' : List O → Fr → List AO → Option SR} {dc dc' : DcF}
def CwLe (cw cw' : C → Fr → List AO → Option S) : Prop := ∀ c fr H s, cw c fr H = some s → cw' c fr H = some s
def RnLe (rn rn' : List O → Fr → List AO → Option SR) : Prop := ∀ l fr H s, rn l fr H = some s → rn' l fr H = some s
def DcLe (dc dc' : DcF) : Prop := ∀ f m a H r, dc f m a H = some r → dc' f m a H = some r
theorem spW_mono (hc : CwLe cw cw') (hr : RnLe rn rn') : ∀ (l : List Sp) (fr : Fr) (H : List AO) (ds : List Dfr) (r : S × List Dfr), spW cw rn l fr H ds = some r → spW cw' rn' l fr H ds = some r
  | [], fr, H, ds, r, h => h
  | .code c :: l, fr, H, ds, r, h => by
    simp only [spW] at h ⊢
    refine bind_mono (fun _ h => hc _ _ _ _ h) (fun x h => ?_) h
    obtain ⟨e, fr1, H1⟩ := x
    cases e with
    | normal => exact spW_mono hc hr _ _ _ _ _ h
    | _ => exact h
  | .dfr p x args q k :: l, fr, H, ds, r, h => by
    simp only [spW] at h ⊢
    refine bind_mono (fun _ h => hr _ _ _ _ h) (fun y h => ?_) h
    cases y with
    | pan a fr1 H1 => exact h
    | go fr1 H1 =>
      simp only at h ⊢
      refine bind_mono (fun y h => ?_) (fun y h => ?_) h
      · split at h
        · rename_i hf; rw [if_pos hf]; exact hr _ _ _ _ h
        · cases h
      · cases y with
        | pan a fr2 H2 => exact h
        | go fr2 H2 => exact spW_mono hc hr _ _ _ _ _ h
theorem leaveW_mono (hd : DcLe dc dc') : ∀ (ds : List Dfr) (m : Option AV) (H : List AO) (r : Option AV × List AO), leaveW dc ds m H = some r → leaveW dc' ds m H = some r
  | [], m, H, r, h => h
  | d :: ds, m, H, r, h => by
    unfold leaveW at h ⊢
    split at h
    · exact bind_mono (fun _ h => hd _ _ _ _ _ h) (fun p h => leaveW_mono hd _ _ _ _ h) h
    · cases h
theorem gD_mono (hc : CwLe cw cw') (hr : RnLe rn rn') (hd : DcLe dc dc') {F : FD} {args : List AV} {H : List AO} {r : R × List AO} (h : gD cw rn dc F args H = some r) : gD cw' rn' dc' F args H = some r := by
  unfold gD at h ⊢
  cases hl : args.length == F.np with
  | false => rw [hl] at h; cases h
  | true =>
    rw [hl] at h
    simp only [cond_true] at h ⊢
    refine bind_mono (fun _ h => spW_mono hc hr _ _ _ _ _ h) (fun p h => ?_) h
    unfold finD at h ⊢
    exact bind_mono (fun _ h => h) (fun m h => bind_mono (fun _ h => leaveW_mono hd _ _ _ _ h) (fun _ h => h) h) h
theorem rpW_mono (hc : CwLe cw cw') (hr : RnLe rn rn') : ∀ (l : List Rp) (fr : Fr) (H : List AO) (m : Option AV) (r : S × Option AV), rpW cw rn l fr H m = some r → rpW cw' rn' l fr H m = some r
  | [], fr, H, m, r, h => h
  | .code c :: l, fr, H, m, r, h => by
    simp only [rpW] at h ⊢
    refine bind_mono (fun _ h => hc _ _ _ _ h) (fun x h => ?_) h
    obtain ⟨e, fr1, H1⟩ := x
    cases e with
    | normal => exact rpW_mono hc hr _ _ _ _ _ h
    | _ => exact h
  | .rcv p d q k :: l, fr, H, m, r, h => by
    simp only [rpW] at h ⊢
    refine bind_mono (fun _ h => hr _ _ _ _ h) (fun y h => ?_) h
    cases y with
    | pan a fr1 H1 => exact h
    | go fr1 H1 =>
      simp only at h ⊢
      refine bind_mono (fun _ h => hr _ _ _ _ h) (fun y h => ?_) h
      cases y with
      | pan a fr2 H2 => exact h
      | go fr2 H2 => exact rpW_mono hc hr _ _ _ _ _ h
theorem gR_mono (hc : CwLe cw cw') (hr : RnLe rn rn') {F : FR} {m : Option AV} {args : List AV} {H : List AO} {r : Option AV × List AO} (h : gR cw rn F m args H = some r) : gR cw' rn' F m args H = some r := by
  unfold gR at h ⊢
  cases hl : args.length == F.np with
  | false => rw [hl] at h; cases h
  | true =>
    rw [hl] at h
    simp only [cond_true] at h ⊢
    exact bind_mono (fun _ h => rpW_mono hc hr _ _ _ _ _ h) (fun _ h => h) h
end
end Go.Ai
namespace Go.Ai
inductive Ip where
  | code (c : C)
  | yld (pre : List O) (t : Nat) (args : List X) (dst : Option Nat) (post : List O) (l : List Nat)
  | seq (a b : Ip)
  | cond (x : X) (a b : Ip)
  | block (id : Nat) (a : Ip)
  | loop (l : List Nat) (a : Ip)
def yldOf (o : Oper) : Option (Nat × List X) :=
  match o.op, o.guard with
  | .call c, none => match c.callee with
    | .value (.tmp t) => some (t, c.args.toList.map cx)
    | _ => none
  | _, _ => none
def splitY : List Oper → Option (List Oper × Oper × List Oper)
  | [] => none
  | o :: r => match yldOf o with
    | some _ => some ([], o, r)
    | none => (splitY r).map fun p => (o :: p.1, p.2.1, p.2.2)
theorem splitY_eq : ∀ {l : List Oper} {a b : List Oper} {o : Oper}, splitY l = some (a, o, b) → l = a ++ o :: b ∧ ∃ d, yldOf o = some d
  | [], _, _, _, h => by cases h
  | x :: r, a, b, o, h => by
    unfold splitY at h
    cases hx : yldOf x with
    | some d =>
      rw [hx] at h
      simp only [sI, Prod.mk.injEq] at h
      obtain ⟨rfl, rfl, rfl⟩ := h
      exact ⟨rfl, d, hx⟩
    | none =>
      rw [hx] at h
      simp only at h
      obtain ⟨⟨a', o', b'⟩, h1, h2⟩ := Option.map_eq_some_iff.1 h
      simp only [Prod.mk.injEq] at h2
      obtain ⟨rfl, rfl, rfl⟩ := h2
      obtain ⟨e, hd⟩ := splitY_eq h1
      exact ⟨by rw [e]; rfl, hd⟩
def compIp (P : Program) (A : Ann) (nt : Nat) : Nat → Code → Option Ip
  | b, .seq x y => (compIp P A nt b x).bind fun x => (compIp P A nt b y).bind fun y => some (.seq x y)
  | b, .cond c x y => (compIp P A nt b x).bind fun x => (compIp P A nt b y).bind fun y => some (.cond (cx c) x y)
  | _, .block id c => (compIp P A nt id c).bind fun c => some (.block id c)
  | b, .loop c => (compIp P A nt b c).bind fun c => some (.loop (A.keepL b) c)
  | b, .region id ops draw => match draw, splitY ops.toList with
    | false, some (p, o, q) => (p.mapM (compO P A.ow nt ops)).bind fun p => (q.mapM (compO P A.ow nt ops)).bind fun q => (yldOf o).bind fun d =>
      if dstOk nt o.dst = true then some (.yld p d.1 d.2 o.dst q (A.keepR id)) else none
    | _, _ => (comp P A nt b (.region id ops draw)).bind fun c => some (.code c)
  | b, c => (comp P A nt b c).bind fun c => some (.code c)
abbrev Y := Bool × List (List AV)
def isPan : EX → Bool
  | .pan _ => true
  | _ => false
section
variable (cw : C → Fr → List AO → Option S) (rn : List O → Fr → List AO → Option SR) (l : Nat)
def awp : Ip → (EX → Fr → Y → Prop) → Fr → Y → Prop
  | .code c, Q, fr, y => ∃ e fr1, (∀ H, cw c fr H = some (e, fr1, H)) ∧ isPan e = false ∧ Q e fr1 y
  | .yld p t args dst q k, Q, fr, y => ∃ fr1, (∀ H, rn p fr H = some (.go fr1 H)) ∧ get fr1 t = .lit (.func (.yield l) #[] #[]) ∧ ∃ r, y = (false, args.map (ev fr1) :: r) ∧
      ∀ go : Bool, ∃ fr2, (∀ H, rn q (putD fr1 dst (litB go)) H = some (.go fr2 H)) ∧ Q .normal (keep k fr2) (bif go then (false, r) else (true, []))
  | .seq a b, Q, fr, y => awp a (fun e fr y => match e with | .normal => awp b Q fr y | e => Q e fr y) fr y
  | .cond x a b, Q, fr, y => ∃ t, asBool (ev fr x) = some t ∧ bif t then awp a Q fr y else awp b Q fr y
  | .block id a, Q, fr, y => awp a (fun e fr y => match e with | .exit id' => bif id' == id then Q .normal fr y else Q (.exit id') fr y | e => Q e fr y) fr y
  | .loop k a, Q, fr, y => ∃ I : Nat → Fr → Y → Prop, (∃ n, I n (keep k fr) y) ∧ ∀ n fr y, I n fr y → awp a (fun e fr y => match e with | .normal => ∃ m, m < n ∧ I m (keep k fr) y | e => Q e fr y) fr y
end
structure Ext (g : G) (w : World) (g' : G) (w' : World) : Prop where
  S : ∀ b, g.S b → g'.S b
  D : ∀ r, g.D r → g'.D r
  ρ : ∀ r, g.D r → g'.ρ r = g.ρ r
  σ : ∀ r, g.D r → g'.σ r = g.σ r
  δ : ∀ r, g.D r → g'.δ r = g.δ r
  frz : ∀ b, g.S b → w'.heap[b]? = w.heap[b]?
theorem Ext.vr {g g' : G} {w w' : World} (s : Ext g w g' w') {a : AV} {v : Value} (h : VR g w a v) : VR g' w' a v := h.mono s.S s.D s.ρ s.σ s.δ s.frz
theorem Ext.refl {g : G} {w : World} : Ext g w g w := ⟨fun _ h => h, fun _ h => h, fun _ _ => rfl, fun _ _ => rfl, fun _ _ => rfl, fun _ _ => rfl⟩
theorem Ext.trans {g g1 g2 : G} {w w1 w2 : World} (a : Ext g w g1 w1) (b : Ext g1 w1 g2 w2) : Ext g w g2 w2 :=
  ⟨fun x h => b.S x (a.S x h), fun x h => b.D x (a.D x h), fun r h => (b.ρ r (a.D r h)).trans (a.ρ r h), fun r h => (b.σ r (a.D r h)).trans (a.σ r h), fun r h => (b.δ r (a.D r h)).trans (a.δ r h), fun x h => (b.frz x (a.S x h)).trans (a.frz x h)⟩
theorem Stp.ext {g g' : G} {w w' : World} {H H' : List AO} (s : Stp g w H g' w' H') : Ext g w g' w' := ⟨s.S, s.D, s.ρ, s.σ, s.δ, s.frz⟩
theorem FRel.ext {g g' : G} {w w' : World} {fr : Fr} {a : Act} (h : FRel g w fr a) (s : Ext g w g' w') : FRel g' w' fr a := fun t => s.vr (h t)
structure Rds (P : Program) (l : Nat) (xs : List (List AV)) (Hh : Option Nat → List AO) (J : Option Nat → G → World → Prop) : Prop where
  rel : ∀ i g w, J i g w → Rel g w (Hh i)
  stp : ∀ i g w g' w', J i g w → Rel g' w' (Hh i) → Stp g w (Hh i) g' w' (Hh i) → J i g' w'
  yld : ∀ n a g w us, xs[n]? = some a → J (some n) g w → VRs g w a us.toList → YieldAt (WF none) 0 P l us w fun e w' => ∃ g', Ext g w g' w' ∧ ((e = .returned (.bool true) ∧ J (some (n + 1)) g' w') ∨ (e = .returned (.bool false) ∧ J none g' w'))
abbrev ItF := FuncId → List AV → Option (List (List AV))
def ItOk (P : Program) (it : ItF) : Prop := ∀ f caps xs, it f caps = some xs → (∀ args w, (callFunc f args).run P w = .ok (.enter f args) w) ∧
  ∀ (l : Nat) (Hh : Option Nat → List AO) (J : Option Nat → G → World → Prop) (g : G) (w : World) (vs : Array Value), Rds P l xs Hh J → J (some 0) g w → VRs g w caps vs.toList →
    CallsIn (WF none) 0 P f (#[.func (.yield l) #[] #[]] ++ vs) w fun e w' => (∃ v, e = .returned v) ∧ ∃ g', J (some xs.length) g' w' ∨ J none g' w'
section
variable {P : Program} {call : CallF} {mt : MtF} {md : FuncId → Md}
theorem run_okI {ro : Option Nat} {ow : List Nat} {nt : Nat} {ds : List Deferred} {ops : Array Oper} (CO : CallOk P call) (MT : MtOk P mt) {Q : Exit → Act → World → Prop} (rest : List Oper) : ∀ (l : List Oper) (l' : List O) (fr : Fr) (H : List AO) (fr2 : Fr) (H2 : List AO) (g : G) (w : World) (act : Act),
    l.mapM (compO P ow nt ops) = some l' → Sit nt ds g w H fr act → run call mt md l' fr H = some (.go fr2 H2) → (∀ g' w' act', Stp g w H g' w' H2 → Sit nt ds g' w' H2 fr2 act' → wpListIn (WF ro) 0 P ops Q rest act' w') → wpListIn (WF ro) 0 P ops Q (l ++ rest) act w
  | [], l', fr, H, fr2, H2, g, w, act, hc, S, h, hq => by
    simp only [List.mapM_nil, Option.pure_def, sI] at hc; subst hc
    simp only [run, sI, SR.go.injEq] at h
    obtain ⟨rfl, rfl⟩ := h
    exact hq g w act Stp.refl S
  | o :: l, l', fr, H, fr2, H2, g, w, act, hc, S, h, hq => by
    rw [List.mapM_cons] at hc
    obtain ⟨o', h1, hc⟩ := bO.1 hc
    obtain ⟨l2, h2, hc⟩ := bO.1 hc
    simp only [Option.pure_def, sI] at hc; subst hc
    simp only [run] at h
    obtain ⟨b, hb, h⟩ := bO.1 h
    have hw := wanted_ok h1 S.fr hb
    rw [List.cons_append]
    unfold wpListIn
    cases b with
    | true =>
      rw [if_pos hw]
      obtain ⟨s1, hs, h⟩ := bO.1 h
      refine (step_ok CO MT h1 S hs _ Q (fun fr' H' e g' w' act' st S' => ?_) (fun a fr' H' e g' w' v st S' hv => ?_)).2 ro
      · subst e
        exact run_okI CO MT rest l l2 fr' H' fr2 H2 g' w' act' h2 S' h fun g2 w2 a2 st2 S2 => hq g2 w2 a2 (st.trans st2) S2
      · subst e
        simp only [sI] at h
        cases h
    | false =>
      rw [if_neg (by rw [hw]; decide)]
      obtain ⟨_, hdst, hlt, _⟩ := compO_inv h1
      refine ⟨fun _ _ => trivial, run_okI CO MT rest l l2 _ H fr2 H2 g w (act.put o.dst undef) h2 ⟨S.rel, ?_, by rw [put_size]; exact S.size, by rw [put_defers]; exact S.defers⟩ h hq⟩
      rw [← hdst]
      exact S.fr.put o'.dst _ _ (.fv _ _ (.lit _)) (fun t ht => by rw [S.size]; exact hlt t (hdst ▸ ht))
def YS (xs : List (List AV)) (J : Option Nat → G → World → Prop) (y : Y) (g : G) (w : World) : Prop :=
  match y with
  | (false, r) => ∃ n, xs.drop n = r ∧ n ≤ xs.length ∧ J (some n) g w
  | (true, _) => J none g w
structure FS (nt : Nat) (g : G) (w : World) (fr : Fr) (act : Act) : Prop where
  fr : FRel g w fr act
  size : act.tmps.size = nt
  defers : act.defers = []
def exQ (Q : Exit → Act → World → Prop) : EX → Act → World → Prop
  | .normal, a, w => Q .normal a w
  | .exit id, a, w => Q (.exit id) a w
  | .ret, a, w => Q .ret a w
  | .pan _, _, _ => True
theorem YS.at' {xs : List (List AV)} {J : Option Nat → G → World → Prop} {y : Y} {g : G} {w : World} (h : YS xs J y g w) : ∃ i, J i g w ∧ ∀ g' w', J i g' w' → YS xs J y g' w' := by
  obtain ⟨b, r⟩ := y
  cases b with
  | false => obtain ⟨n, h1, h2, h3⟩ := h; exact ⟨some n, h3, fun g' w' h => ⟨n, h1, h2, h⟩⟩
  | true => exact ⟨none, h, fun g' w' h => h⟩
theorem yld_run {o : Oper} {d : Nat × List X} (hd : yldOf o = some d) {fr : Fr} {act : Act} {g : G} {w : World} (F : FRel g w fr act) {l : Nat} (he : get fr d.1 = .lit (.func (.yield l) #[] #[])) :
    ∃ us : Array Value, VRs g w (d.2.map (ev fr)) us.toList ∧ (execOp act.eval o).run P w = (Instr.yield l us).run P w ∧ o.guard = none := by
  unfold yldOf at hd
  split at hd
  · rename_i c h1 h2
    split at hd
    · rename_i t hx
      simp only [sI] at hd; subst hd
      have hv := F t
      simp only at he
      rw [he] at hv
      have hv := hv.lit_inv
      refine ⟨c.args.map act.eval, evs_vr F c.args, ?_, h2⟩
      have hev : act.eval (.tmp t) = .func (.yield l) #[] #[] := hv
      simp only [execOp, h1, resolve, hx, Deferred.ofValue, hev]
      simp [invoke, go_sem]
    · cases hd
  · cases hd
theorem least_of {p : Nat → Prop} : ∀ n, p n → ∃ n, p n ∧ ∀ m, p m → n ≤ m := by
  intro n
  induction n using Nat.strongRecOn with
  | _ n ih =>
    intro h
    by_cases hm : ∃ m, m < n ∧ p m
    · obtain ⟨m, h1, h2⟩ := hm
      exact ih m h1 h2
    · exact ⟨n, h, fun m h2 => Nat.le_of_not_lt fun h1 => hm ⟨m, h1, h2⟩⟩
theorem least_ex {p : Nat → Prop} (h : ∃ n, p n) : ∃ n, p n ∧ ∀ m, p m → n ≤ m := least_of h.choose h.choose_spec
open Classical in
theorem wpIn_loop_ix {F : Fence} {k : Nat} {c : Code} {Q : Exit → Act → World → Prop} (I : Nat → Act → World → Prop) (round : ∀ n a w, I n a w → c.wpIn F k P (Exit.then (fun a w => ∃ m, m < n ∧ I m a w) Q) a w) {a : Act} {w : World} (n : Nat) (h : I n a w) :
    (Code.loop c).wpIn F k P Q a w := by
  refine wpIn_loop (fun a w => ∃ n, I n a w) (fun a w => if h : ∃ n, I n a w then Classical.choose (least_ex h) else 0) ⟨n, h⟩ fun a w hI => ?_
  have hs := Classical.choose_spec (least_ex hI)
  refine wpIn_mono (round _ a w hs.1) fun e a' w' hq => ?_
  cases e with
  | normal =>
    obtain ⟨m, h1, h2⟩ := hq
    have hI' : ∃ n, I n a' w' := ⟨m, h2⟩
    refine ⟨hI', ?_⟩
    rw [dif_pos hI', dif_pos hI]
    exact Nat.lt_of_le_of_lt ((Classical.choose_spec (least_ex hI')).2 m h2) h1
  | _ => exact hq
theorem ip_ok {A : Ann} {nt : Nat} {cw : C → Fr → List AO → Option S} (CO : CallOk P call) (MT : MtOk P mt) (CD : CdOk P A nt cw) {l : Nat} {xs : List (List AV)} {Hh : Option Nat → List AO} {J : Option Nat → G → World → Prop} (RD : Rds P l xs Hh J) :
    ∀ (x : Code) (b : Nat) (t : Ip), compIp P A nt b x = some t → ∀ (Q : EX → Fr → Y → Prop) (fr : Fr) (y : Y) (g : G) (w : World) (act : Act), awp cw (run call mt md) l t Q fr y → YS xs J y g w → FS nt g w fr act →
      ∀ Qc : Exit → Act → World → Prop, (∀ e fr y g w act, Q e fr y → YS xs J y g w → FS nt g w fr act → exQ Qc e act w) → x.wpIn (WF none) 0 P Qc act w := by
  have base : ∀ (x : Code) (b : Nat) (c : C), comp P A nt b x = some c → ∀ (Q : EX → Fr → Y → Prop) (fr : Fr) (y : Y) (g : G) (w : World) (act : Act), awp cw (run call mt md) l (.code c) Q fr y → YS xs J y g w → FS nt g w fr act →
      ∀ Qc : Exit → Act → World → Prop, (∀ e fr y g w act, Q e fr y → YS xs J y g w → FS nt g w fr act → exQ Qc e act w) → x.wpIn (WF none) 0 P Qc act w := by
    intro x b c hc Q fr y g w act h hy F Qc hq
    obtain ⟨e, fr1, h1, hp, h2⟩ := h
    obtain ⟨i, hi, hb⟩ := hy.at'
    refine CD x b c hc [] fr (Hh i) (e, fr1, Hh i) g w act ⟨RD.rel _ _ _ hi, F.fr, F.size, F.defers⟩ (h1 _) Qc ?_ none
    have fin : ∀ g' w' act', Stp g w (Hh i) g' w' (Hh i) → Sit nt [] g' w' (Hh i) fr1 act' → exQ Qc e act' w' := fun g' w' act' st S' =>
      hq e fr1 y g' w' act' h2 (hb _ _ (RD.stp _ _ _ _ _ hi S'.rel st)) ⟨S'.fr, S'.size, S'.defers⟩
    cases e with
    | normal => exact fin
    | exit id => exact fin
    | ret => exact fin
    | pan a => cases hp
  intro x
  induction x with
  | seq x y ihx ihy =>
    intro b t hc Q fr z g w act h hy F Qc hq
    simp only [compIp] at hc
    obtain ⟨t1, h1, hc⟩ := bO.1 hc
    obtain ⟨t2, h2, hc⟩ := bO.1 hc
    simp only [sI] at hc; subst hc
    refine wpIn_seq (ihx b t1 h1 _ fr z g w act h hy F _ fun e fr' y' g' w' act' hh hy' F' => ?_)
    cases e with
    | normal => exact ihy b t2 h2 Q fr' y' g' w' act' hh hy' F' Qc hq
    | exit id => exact hq _ _ _ _ _ _ hh hy' F'
    | ret => exact hq _ _ _ _ _ _ hh hy' F'
    | pan a => trivial
  | cond o x y ihx ihy =>
    intro b t hc Q fr z g w act h hy F Qc hq
    simp only [compIp] at hc
    obtain ⟨t1, h1, hc⟩ := bO.1 hc
    obtain ⟨t2, h2, hc⟩ := bO.1 hc
    simp only [sI] at hc; subst hc
    obtain ⟨v, h3, h⟩ := h
    have hv := ev_vr F.fr o
    rw [asBool_inv h3] at hv
    have hv := hv.lit_inv
    cases v with
    | true => exact wpIn_cond hv (by simpa using ihx b t1 h1 Q fr z g w act h hy F Qc hq)
    | false => exact wpIn_cond hv (by simpa using ihy b t2 h2 Q fr z g w act h hy F Qc hq)
  | block id x ih =>
    intro b t hc Q fr z g w act h hy F Qc hq
    simp only [compIp] at hc
    obtain ⟨t1, h1, hc⟩ := bO.1 hc
    simp only [sI] at hc; subst hc
    refine wpIn_block (ih id t1 h1 _ fr z g w act h hy F _ fun e fr' y' g' w' act' hh hy' F' => ?_)
    cases e with
    | normal => exact hq _ _ _ _ _ _ hh hy' F'
    | exit id' =>
      simp only at hh
      simp only [exQ, Exit.inBlock]
      cases hb : id' == id with
      | true =>
        rw [hb] at hh
        have : id' = id := by simpa using hb
        subst this
        rw [if_pos rfl]
        exact hq .normal _ _ _ _ _ hh hy' F'
      | false =>
        rw [hb] at hh
        have : ¬ id' = id := by simpa using hb
        rw [if_neg this]
        exact hq (.exit id') _ _ _ _ _ hh hy' F'
    | ret => exact hq _ _ _ _ _ _ hh hy' F'
    | pan a => trivial
  | loop x ih =>
    intro b t hc Q fr z g w act h hy F Qc hq
    simp only [compIp] at hc
    obtain ⟨t1, h1, hc⟩ := bO.1 hc
    simp only [sI] at hc; subst hc
    obtain ⟨I, ⟨n, hn⟩, hr⟩ := h
    refine wpIn_loop_ix (fun n a w => ∃ fr y g, I n fr y ∧ YS xs J y g w ∧ FS nt g w fr a) (fun n a w hh => ?_) n ⟨_, z, g, hn, hy, ⟨F.fr.keep _, F.size, F.defers⟩⟩
    obtain ⟨fr, y, g, hI, hy, F⟩ := hh
    refine ih b t1 h1 _ fr y g w a (hr n fr y hI) hy F _ fun e fr' y' g' w' act' hh hy' F' => ?_
    cases e with
    | normal =>
      obtain ⟨m, hm, hi⟩ := hh
      exact ⟨m, hm, _, y', g', hi, hy', ⟨F'.fr.keep _, F'.size, F'.defers⟩⟩
    | exit id => exact hq _ _ _ _ _ _ hh hy' F'
    | ret => exact hq _ _ _ _ _ _ hh hy' F'
    | pan a => trivial
  | region id ops draw =>
    intro b t hc
    simp only [compIp] at hc
    split at hc
    · rename_i p o q heq
      obtain ⟨p', h1, hc⟩ := bO.1 hc
      obtain ⟨q', h2, hc⟩ := bO.1 hc
      obtain ⟨d, h3, hc⟩ := bO.1 hc
      by_cases hd : dstOk nt o.dst = true
      case neg => rw [if_neg hd] at hc; cases hc
      rw [if_pos hd] at hc
      simp only [sI] at hc; subst hc
      obtain ⟨e, _⟩ := splitY_eq heq
      intro Q fr y g w act h hy F Qc hq
      obtain ⟨fr1, k1, k2, r, rfl, k3⟩ := h
      obtain ⟨n, n1, n2, n3⟩ := hy
      refine wpIn_region_list ?_
      rw [e]
      refine run_okI CO MT (o :: q) p p' fr (Hh (some n)) fr1 (Hh (some n)) g w act h1 ⟨RD.rel _ _ _ n3, F.fr, F.size, F.defers⟩ (k1 _) fun g1 w1 act1 st1 S1 => ?_
      have J1 := RD.stp _ _ _ _ _ n3 S1.rel st1
      obtain ⟨us, u1, u2, u3⟩ := yld_run (P := P) h3 S1.fr k2
      unfold wpListIn
      rw [if_pos (by simp [Region.wanted, u3])]
      refine ⟨fun _ _ => trivial, ?_⟩
      have hxn : xs[n]? = some (d.2.map (ev fr1)) := by
        have := congrArg List.head? n1
        rwa [List.head?_drop] at this
      have hdr : xs.drop (n + 1) = r := by rw [← List.drop_drop, n1]; rfl
      have hlt : n < xs.length := (List.getElem?_eq_some_iff.1 hxn).1
      obtain ⟨fn, tmps, assign, body, y1, y2⟩ := RD.yld n _ g1 w1 us hxn J1 u1
      rw [show (WF none).round = none from rfl, Oper.semAt_none, u2, y1, Oper.uponIn_round]
      refine ⟨fun h => (by cases h), y2.mono ?_⟩
      have hdl : ∀ t, o.dst = some t → t < nt := by
        intro t he
        rw [he] at hd
        simpa [dstOk, Nat.blt_eq] using hd
      have go : ∀ (v : Bool) (i : Option Nat) (g2 : G) (w2 : World), Ext g1 w1 g2 w2 → J i g2 w2 → (∀ g w, J i g w → YS xs J (bif v then (false, r) else (true, [])) g w) → wpListIn (WF none) 0 P ops Qc q (act1.put o.dst (.bool v)) w2 := by
        intro v i g2 w2 ex Ji hb
        obtain ⟨fr2, m1, m2⟩ := k3 v
        have S2 : Sit nt [] g2 w2 (Hh i) (putD fr1 o.dst (litB v)) (act1.put o.dst (.bool v)) :=
          ⟨RD.rel _ _ _ Ji, (S1.fr.ext ex).put o.dst _ _ (.fv _ _ (.lit _)) (fun t ht => by rw [S1.size]; exact hdl t ht), by rw [put_size]; exact S1.size, by rw [put_defers]; exact S1.defers⟩
        have hnil := run_okI (ro := none) CO MT (Q := Qc) [] q q' _ (Hh i) fr2 (Hh i) g2 w2 _ h2 S2 (m1 _) fun g3 w3 act3 st3 S3 =>
          wpListIn_nil (hq .normal _ _ g3 w3 act3 m2 (hb _ _ (RD.stp _ _ _ _ _ Ji S3.rel st3)) ⟨S3.fr.keep _, S3.size, S3.defers⟩)
        rwa [List.append_nil] at hnil
      rintro e w2 ⟨g2, ex, (⟨rfl, Ji⟩ | ⟨rfl, Ji⟩)⟩
      · exact go true _ g2 w2 ex Ji fun g w h => ⟨n + 1, hdr, hlt, h⟩
      · exact go false _ g2 w2 ex Ji fun g w h => h
    · obtain ⟨c, h1, hc⟩ := bO.1 hc
      simp only [sI] at hc; subst hc
      exact base _ b c h1
  | _ =>
    intro b t hc
    simp only [compIp] at hc
    obtain ⟨c, h1, hc⟩ := bO.1 hc
    simp only [sI] at hc; subst hc
    exact base _ b c h1
end
end Go.Ai
namespace Go.Ai
structure FI' where
  np : Nat
  nt : Nat
  ip : Ip
def compFI (P : Program) (A : Ann) (fn : Func) : Option FI' :=
  fn.body.bind fun c => (compIp P A fn.ntmps 0 c).bind fun c =>
    if fn.params.size + fn.nfree ≤ fn.ntmps ∧ (fn.name == "runtime.NumGoroutine") = false ∧ fn.results = #[] then some ⟨fn.params.size + fn.nfree, fn.ntmps, c⟩ else none
section
variable {P : Program} {call : CallF} {mt : MtF} {md : FuncId → Md}
theorem init_fs {nt : Nat} {g : G} {w : World} {args : List AV} {vs : Array Value} (V : VRs g w args vs.toList) (hle : args.length ≤ nt) : FS nt g w (initFr 0 args) { tmps := vs ++ Array.replicate (nt - vs.size) undef, defers := [] } := by
  have hvs : vs.size = args.length := by have := V.1; simp at this; omega
  refine ⟨fun t => ?_, by simp; omega, rfl⟩
  have := get_init t args 0
  rw [Nat.zero_add] at this
  rw [this]
  by_cases ht : t < args.length
  · rw [List.getD_eq_getElem?_getD, List.getElem?_eq_getElem ht, Option.getD_some]
    refine V.2 t _ _ (List.getElem?_eq_getElem ht) ?_
    rw [Array.getD_eq_getD_getElem?, Array.getElem?_append_left (by omega), Array.getElem?_eq_getElem (by omega), Option.getD_some, Array.getElem?_toList, Array.getElem?_eq_getElem (by omega)]
  · rw [List.getD_eq_getElem?_getD, List.getElem?_eq_none (by omega)]
    exact .fv _ _ (.any _)
def itEnd : EX → Fr → Y → Prop := fun e _ y => (e = .normal ∨ e = .ret) ∧ (y.1 = false → y.2 = [])
theorem iter_ok {A : Ann} {cw : C → Fr → List AO → Option Ai.S} (CO : CallOk P call) (MT : MtOk P mt) {f : FuncId} {fn : Func} {F : FI'} (hfn : P.funcs[f]? = some fn) (CD : CdOk P A fn.ntmps cw) (hF : compFI P A fn = some F) {caps : List AV} {xs : List (List AV)}
    (hl : caps.length + 1 = F.np) (h : ∀ l, awp cw (run call mt md) l F.ip itEnd (initFr 0 (.lit (.func (.yield l) #[] #[]) :: caps)) (false, xs)) :
    (∀ args w, (callFunc f args).run P w = .ok (.enter f args) w) ∧
    ∀ (l : Nat) (Hh : Option Nat → List AO) (J : Option Nat → G → World → Prop) (g : G) (w : World) (vs : Array Value), Rds P l xs Hh J → J (some 0) g w → VRs g w caps vs.toList →
      CallsIn (WF none) 0 P f (#[.func (.yield l) #[] #[]] ++ vs) w fun e w' => (∃ v, e = .returned v) ∧ ∃ g', J (some xs.length) g' w' ∨ J none g' w' := by
  unfold compFI at hF
  obtain ⟨c0, hb, hF⟩ := bO.1 hF
  obtain ⟨c, hc, hF⟩ := bO.1 hF
  by_cases hle : fn.params.size + fn.nfree ≤ fn.ntmps ∧ (fn.name == "runtime.NumGoroutine") = false ∧ fn.results = #[]
  case neg => rw [if_neg hle] at hF; cases hF
  rw [if_pos hle] at hF
  simp only [sI] at hF; subst hF
  obtain ⟨h1, h2, h3⟩ := hle
  refine ⟨fun args w => enters hfn h2 hb args w, fun l Hh J g w vs RD J0 V => callsIn_WF (calls_of_wp hfn hb ?_)⟩
  have V' : VRs g w (.lit (.func (.yield l) #[] #[]) :: caps) (#[Value.func (.yield l) #[] #[]] ++ vs).toList := by
    rw [Array.toList_append]
    exact VRs.cons (.fv _ _ (.lit _)) V
  refine wpIn_wide.1 (ip_ok CO MT CD RD c0 0 c hc itEnd _ (false, xs) g w _ (h l) ⟨0, rfl, Nat.zero_le _, J0⟩ (init_fs V' (by simp only [List.length_cons]; simp only at hl; omega)) _ fun e fr y g' w' act hh hy F => ?_)
  obtain ⟨he, hy2⟩ := hh
  have R0 : ∃ i, J i g' w' := by
    obtain ⟨i, hi, _⟩ := hy.at'
    exact ⟨i, hi⟩
  obtain ⟨i, hi⟩ := R0
  obtain ⟨v, hv1, hv2⟩ := results_run (P := P) fn act (fr := fr) (RD.rel _ _ _ hi) F.fr (rs := []) (r := .tup []) (by rw [h3]; rfl) rfl
  have fin : (∃ v, (Ending.returned v) = .returned v) ∧ ∃ g', J (some xs.length) g' w' ∨ J none g' w' := by
    refine ⟨⟨v, rfl⟩, g', ?_⟩
    obtain ⟨b, r⟩ := y
    cases b with
    | false =>
      have : r = [] := hy2 rfl
      subst this
      obtain ⟨n, n1, n2, n3⟩ := hy
      have : n = xs.length := by
        have := congrArg List.length n1
        rw [List.length_drop, List.length_nil] at this; omega
      subst this
      exact .inl n3
    | true => exact .inr hy
  rcases he with rfl | rfl
  · exact ⟨F.defers, v, hv1, ⟨v, rfl⟩, fin.2⟩
  · exact ⟨F.defers, v, hv1, ⟨v, rfl⟩, fin.2⟩
end
structure Out' (l : Nat) (g : G) (w : World) (H : List AO) : Prop where
  lt : l < w.heap.size
  live : ∀ r, Live H r → g.ρ r ≠ l
  S : ¬ g.S l
theorem Out'.step {l : Nat} {g g' : G} {w w' : World} {H H' : List AO} (h : Out' l g w H) (s : Stp g w H g' w' H') : Out' l g' w' H' := by
  refine ⟨Nat.lt_of_lt_of_le h.lt s.size, fun r hr e => ?_, fun hS => ?_⟩
  · rcases s.live r hr with ⟨r0, h0, h1⟩ | h1
    · exact h.live r0 h0 (h1.trans e)
    · have := h.lt; omega
  · rcases s.fro l hS with h1 | ⟨r0, h0, h1⟩ | h1
    · exact h.S h1
    · exact h.live r0 h0 h1
    · have := h.lt; omega
theorem Out'.same {l : Nat} {g g' : G} {w w' : World} {H H' : List AO} (h : Out' l g w H) (s : Stp g w H g' w' H') : w'.heap[l]? = w.heap[l]? := s.keep l h.lt h.live
theorem Out'.put {l k : Nat} {g : G} {w : World} {H : List AO} (h : Out' l g w H) (o : Obj) : Out' l g (w.putObj k o) H := ⟨by rw [World.putObj_size]; exact h.lt, h.live, h.S⟩
theorem ext_put {l : Nat} {g : G} {w : World} {H : List AO} (h : Out' l g w H) (o : Obj) : Ext g w g (w.putObj l o) :=
  ⟨fun _ h => h, fun _ h => h, fun _ _ => rfl, fun _ _ => rfl, fun _ _ => rfl, fun b hb => World.putObj_heap_other fun e => h.S (e ▸ hb)⟩
theorem Rel.put' {l : Nat} {g : G} {w : World} {H : List AO} (R : Rel g w H) (h : Out' l g w H) (o : Obj) : Rel g (w.putObj l o) H := by
  have hv : ∀ {a : AV} {v : Value}, VR g w a v → VR g (w.putObj l o) a v := fun k => (ext_put h o).vr k
  refine ⟨fun b hb => by rw [World.putObj_size]; exact R.lt b hb, fun r c u hr => ?_, fun r kvs hr => ?_, R.inj, R.dom, R.lv⟩
  · obtain ⟨arr, g1, g3, g4, g5, g6, g7⟩ := R.obj r c u hr
    exact ⟨arr, by rw [World.putObj_heap_other (h.live r ⟨_, hr, rfl⟩)]; exact g1, g3, g4, fun j a v ha hv' => hv (g5 j a v ha hv'), g6, g7⟩
  · obtain ⟨es, clk, g1, g3, g4, g7⟩ := R.mob r kvs hr
    exact ⟨es, clk, by rw [World.putObj_heap_other (h.live r ⟨_, hr, rfl⟩)]; exact g1, g3, fun i e k a he hk => ⟨(g4 i e k a he hk).1, hv (g4 i e k a he hk).2⟩, g7⟩
theorem Stp.put' {l : Nat} {g g' : G} {w w' : World} {H H' : List AO} (s : Stp g w H g' w' H') (R : Rel g w H) (hl : w.heap.size ≤ l) (o : Obj) : Stp g w H g' (w'.putObj l o) H' where
  os := s.os
  tape := s.tape
  output := s.output
  size := by rw [World.putObj_size]; exact s.size
  S := s.S
  D := s.D
  ρ := s.ρ
  σ := s.σ
  δ := s.δ
  keep := fun b hb hr => (World.putObj_heap_other (by omega)).trans (s.keep b hb hr)
  frz := fun b hb => (World.putObj_heap_other (by have := R.lt b hb; omega)).trans (s.frz b hb)
  live := s.live
  fro := s.fro
theorem Rel.alloc' {g : G} {w : World} {H : List AO} (R : Rel g w H) (o : Obj) : Rel g (w.alloc o) H ∧ Stp g w H g (w.alloc o) H :=
  R.outer (w' := w.alloc o) (fun b hb => RowKit.Below.heap_alloc w o b hb) (by simp) rfl rfl rfl g.S (fun _ h => h) (fun _ h => .inl h) (fun b hb => by have := R.lt b hb; simp; omega)
theorem Out'.new {g : G} {w : World} {H : List AO} (R : Rel g w H) (o : Obj) (hb : ∀ r, Live H r → g.ρ r < w.heap.size) : Out' w.heap.size g (w.alloc o) H :=
  ⟨by simp, fun r hr e => by have := hb r hr; omega, fun hS => by have := R.lt _ hS; omega⟩
end Go.Ai
namespace Go.Ai
inductive Rg where
  | code (c : C)
  | rng (id : Nat) (x : X) (ps : List Nat) (asn body : C)
def compRg (P : Program) (A : Ann) (nt : Nat) (b : Nat) : Code → Option (List Rg)
  | .seq x y => (compRg P A nt b x).bind fun l => (compRg P A nt b y).bind fun r => some (l ++ r)
  | .block id (.rangeFunc g ps asn body) => (comp P A nt id asn).bind fun a => (comp P A nt id body).bind fun c =>
    if ps.toList.all (fun p => Nat.blt p nt) = true then some [.rng id (cx g) ps.toList a c] else none
  | c => (comp P A nt b c).bind fun c => some [.code c]
def putL : Fr → List Nat → List AV → Fr
  | fr, p :: ps, a :: as => putL (put fr p a) ps as
  | fr, _, _ => fr
section
variable (cw : C → Fr → List AO → Option S) (it : ItF)
def oneW (ps : List Nat) (asn body : C) (fr : Fr) (a : List AV) (H : List AO) : Option (EX × List AO) :=
  bif a.length == ps.length then (cw asn (putL fr ps a) H).bind fun s => match s.1 with
    | .normal => (cw body s.2.1 s.2.2).bind fun s => bif isPan s.1 then none else some (s.1, s.2.2)
    | _ => none
  else none
def roundsW (ps : List Nat) (asn body : C) (fr : Fr) : List (List AV) → List AO → Option (EX × List AO)
  | [], H => some (.normal, H)
  | a :: r, H => (oneW cw ps asn body fr a H).bind fun p => match p.1 with
    | .normal => roundsW ps asn body fr r p.2
    | e => some (e, p.2)
def rgW : List Rg → Fr → List AO → Option S
  | [], fr, H => some (.normal, fr, H)
  | .code c :: r, fr, H => (cw c fr H).bind fun s => match s.1 with
    | .normal => rgW r s.2.1 s.2.2
    | _ => some s
  | .rng id x ps asn body :: r, fr, H => match ev fr x with
    | .fn (.func f) [] caps => (it f caps).bind fun xs => (roundsW cw ps asn body fr xs H).bind fun p => match p.1 with
      | .normal => rgW r fr p.2
      | .exit id' => bif id' == id then rgW r fr p.2 else none
      | .ret => some (.ret, fr, p.2)
      | .pan _ => none
    | _ => none
theorem rgW_append : ∀ (l r : List Rg) (fr : Fr) (H : List AO), rgW cw it (l ++ r) fr H = (rgW cw it l fr H).bind fun s => match s.1 with
    | .normal => rgW cw it r s.2.1 s.2.2
    | _ => some s
  | [], r, fr, H => rfl
  | .code c :: l, r, fr, H => by
    simp only [List.cons_append, rgW]
    cases cw c fr H with
    | none => rfl
    | some s =>
      obtain ⟨e, fr1, H1⟩ := s
      cases e with
      | normal => exact rgW_append l r fr1 H1
      | _ => rfl
  | .rng id x ps asn body :: l, r, fr, H => by
    simp only [List.cons_append, rgW]
    split
    · rename_i f caps heq
      cases it f caps with
      | none => rfl
      | some xs =>
        simp only [Option.bind_some]
        cases roundsW cw ps asn body fr xs H with
        | none => rfl
        | some p =>
          obtain ⟨e, H1⟩ := p
          cases e with
          | normal => exact rgW_append l r fr H1
          | exit id' =>
            simp only [Option.bind_some]
            cases id' == id
            · rfl
            · exact rgW_append l r fr H1
          | ret => rfl
          | pan a => rfl
    · rfl
theorem rounds_heaps {ps : List Nat} {asn body : C} {fr : Fr} : ∀ (xs : List (List AV)) (H : List AO) (e : EX) (H' : List AO), roundsW cw ps asn body fr xs H = some (e, H') →
    ∃ (Hs : Nat → List AO) (m : Nat), Hs 0 = H ∧ m ≤ xs.length ∧ (∀ n a, n < m → xs[n]? = some a → oneW cw ps asn body fr a (Hs n) = some (.normal, Hs (n + 1))) ∧
      ((e = .normal ∧ m = xs.length ∧ Hs m = H') ∨ (e ≠ .normal ∧ m < xs.length ∧ ∀ a, xs[m]? = some a → oneW cw ps asn body fr a (Hs m) = some (e, H')))
  | [], H, e, H', h => by
    simp only [roundsW, sI, Prod.mk.injEq] at h
    obtain ⟨rfl, rfl⟩ := h
    exact ⟨fun _ => H, 0, rfl, Nat.le_refl _, fun n a h => by omega, .inl ⟨rfl, rfl, rfl⟩⟩
  | a :: r, H, e, H', h => by
    simp only [roundsW] at h
    obtain ⟨⟨e1, H1⟩, h1, h⟩ := bO.1 h
    by_cases he : e1 = .normal
    · subst he
      simp only at h
      obtain ⟨Hs, m, k1, k2, k3, k4⟩ := rounds_heaps r H1 e H' h
      refine ⟨fun n => match n with | 0 => H | n + 1 => Hs n, m + 1, rfl, by simp only [List.length_cons]; omega, fun n b hn hb => ?_, ?_⟩
      · cases n with
        | zero =>
          simp only [List.getElem?_cons_zero, sI] at hb; subst hb
          simp only [k1]; exact h1
        | succ n => exact k3 n b (by omega) (by simpa using hb)
      · rcases k4 with ⟨a1, a2, a3⟩ | ⟨a1, a2, a3⟩
        · exact .inl ⟨a1, by simp only [List.length_cons]; omega, a3⟩
        · exact .inr ⟨a1, by simp only [List.length_cons]; omega, fun b hb => a3 b (by simpa using hb)⟩
    · have e2 : e = e1 ∧ H' = H1 := by
        cases e1 with
        | normal => exact absurd rfl he
        | _ =>
          simp only [sI, Prod.mk.injEq] at h
          exact ⟨h.1.symm, h.2.symm⟩
      obtain ⟨rfl, rfl⟩ := e2
      refine ⟨fun _ => H, 0, rfl, Nat.zero_le _, fun n a h => by omega, .inr ⟨he, by simp, fun b hb => ?_⟩⟩
      simp only [List.getElem?_cons_zero, sI] at hb; subst hb
      exact h1
end
def marks (bs : List Nat) : List Deferred := bs.map fun b => { target := .collected b, args := #[] }
structure Mk (base : Nat) (bs : List Nat) (g : G) (w : World) (H : List AO) : Prop where
  out : ∀ b ∈ bs, Out' b g w H
  at' : ∀ b ∈ bs, w.heap[b]? = some (.deferred (some []))
  base : ∀ b ∈ bs, base ≤ b
  nd : bs.Nodup
theorem Mk.step {base : Nat} {bs : List Nat} {g g' : G} {w w' : World} {H H' : List AO} (h : Mk base bs g w H) (s : Stp g w H g' w' H') : Mk base bs g' w' H' :=
  ⟨fun b hb => (h.out b hb).step s, fun b hb => ((h.out b hb).same s).trans (h.at' b hb), h.base, h.nd⟩
theorem Mk.put {base : Nat} {bs : List Nat} {g : G} {w : World} {H : List AO} (h : Mk base bs g w H) {l : Nat} (hl : l ∉ bs) (o : Obj) : Mk base bs g (w.putObj l o) H :=
  ⟨fun b hb => (h.out b hb).put o, fun b hb => (World.putObj_heap_other (fun e => hl (by rw [← e]; exact hb))).trans (h.at' b hb), h.base, h.nd⟩
theorem FRel.putL {g : G} {w : World} {nt : Nat} : ∀ (ps : List Nat) (as : List AV) (us : List Value) (fr : Fr) (a : Act), (∀ p ∈ ps, p < nt) → a.tmps.size = nt → FRel g w fr a → VRs g w as us →
    FRel g w (Ai.putL fr ps as) { a with tmps := (ps.zip us).foldl (fun t x => t.setIfInBounds x.1 x.2) a.tmps } ∧ ((ps.zip us).foldl (fun t x => t.setIfInBounds x.1 x.2) a.tmps).size = nt
  | [], as, us, fr, a, hp, hs, F, V => by
    simp only [Ai.putL, List.zip_nil_left, List.foldl_nil]
    exact ⟨F, hs⟩
  | p :: ps, [], us, fr, a, hp, hs, F, V => by
    have : us = [] := by have := V.1; simpa using this.symm
    subst this
    simp only [Ai.putL, List.zip_nil_right, List.foldl_nil]
    exact ⟨F, hs⟩
  | p :: ps, x :: as, [], fr, a, hp, hs, F, V => by have := V.1; simp at this
  | p :: ps, x :: as, u :: us, fr, a, hp, hs, F, V => by
    have F1 := F.put (some p) x u (V.2 0 x u rfl rfl) (fun t ht => by simp only [sI] at ht; subst ht; rw [hs]; exact hp p (List.mem_cons_self ..))
    have s1 : (a.put (some p) u).tmps.size = nt := by rw [put_size]; exact hs
    have := FRel.putL ps as us (Ai.put fr p x) (a.put (some p) u) (fun q hq => hp q (List.mem_cons_of_mem _ hq)) s1 F1 ⟨by have := V.1; simpa using this, fun i b v hb hv => V.2 (i + 1) b v (by simpa using hb) (by simpa using hv)⟩
    simp only [Ai.putL, List.zip_cons_cons, List.foldl_cons]
    exact this
section
variable {P : Program} {call : CallF} {mt : MtF} {md : FuncId → Md}
def RgPost (base : Nat) (nt : Nat) (g : G) (w : World) (H : List AO) (Q : Exit → Act → World → Prop) (p : S) : Prop :=
  ∀ g' w' act' bs', Stp g w H g' w' p.2.2 → Sit nt (marks bs') g' w' p.2.2 p.2.1 act' → Mk base bs' g' w' p.2.2 → match p.1 with
  | .normal => Q .normal act' w'
  | .exit id => Q (.exit id) act' w'
  | .ret => Q .ret act' w'
  | .pan a => ∀ v, VR g' w' a v → Q (.panic [{ v, recovered := false }]) act' w'
def jumpOf : EX → Option Code
  | .exit id => some (.exit id)
  | .ret => some .ret
  | _ => none
theorem rng_ok {A : Ann} {nt : Nat} {cw : C → Fr → List AO → Option S} {it : ItF} (IT : ItOk P it) (CD : CdOk P A nt cw) {id : Nat} {gx : Operand} {ps : Array Tmp} {asn body : Code} {ca cb : C} (hca : comp P A nt id asn = some ca) (hcb : comp P A nt id body = some cb)
    (hps : ∀ p ∈ ps.toList, p < nt) {f : FuncId} {caps : List AV} {xs : List (List AV)} (hit : it f caps = some xs) {fr : Fr} {H : List AO} {e : EX} {H' : List AO} (hr : roundsW cw ps.toList ca cb fr xs H = some (e, H')) (hev : ev fr (cx gx) = .fn (.func f) [] caps)
    {base : Nat} {bs : List Nat} {g : G} {w : World} {act : Act} (S : Sit nt (marks bs) g w H fr act) (hbase : base ≤ w.heap.size) (M : Mk base bs g w H) (Q : Exit → Act → World → Prop) (hne : isPan e = false)
    (hq : ∀ g' w' act' bs', Stp g w H g' w' H' → Sit nt (marks bs') g' w' H' fr act' → Mk base bs' g' w' H' → exQ Q e act' w') : (Code.rangeFunc gx ps asn body).wpIn (WF none) 0 P Q act w := by
  obtain ⟨Hs, m, r1, r2, r3, r4⟩ := rounds_heaps cw xs H e H' hr
  refine wpIn_rangeFunc ?_
  intro fn hfn
  rw [show (WF none).round = none from rfl]
  obtain ⟨rec, hrec⟩ : ∃ rec : LoopState → Option Code → Loop, rec = fun st pe => { state := st, pending := pe, fn, tmps := act.tmps, params := ps, assign := asn, body, defers := w.heap.size } := ⟨_, rfl⟩
  obtain ⟨W1, hW1⟩ : ∃ W1, (w.alloc (.deferred (some []))).alloc (.loop (rec .ready none)) = W1 := ⟨_, rfl⟩
  obtain ⟨R1, st1⟩ := S.rel.alloc' (.deferred (some []))
  obtain ⟨R2, st2⟩ := R1.alloc' (.loop (rec .ready none))
  rw [hW1] at R2 st2
  have st := st1.trans st2
  have OD : Out' w.heap.size g W1 H := (Out'.new S.rel (.deferred (some [])) fun r hr => S.rel.blt hr).step st2
  have OL : Out' (w.heap.size + 1) g W1 H := by
    have := Out'.new R1 (.loop (rec .ready none)) fun r hr => R1.blt hr
    rw [hW1] at this
    simpa using this
  have hL1 : W1.heap[w.heap.size + 1]? = some (.loop (rec .ready none)) := by
    rw [← hW1]; have := World.alloc_heap_new (w.alloc (.deferred (some []))) (.loop (rec .ready none)); rwa [World.size_alloc] at this
  have hK1 : W1.heap[w.heap.size]? = some (.deferred (some [])) := by
    rw [← hW1]; exact (RowKit.Below.heap_alloc _ _ _ (by simp)).trans (World.alloc_heap_new w _)
  have hv := ev_vr S.fr gx
  rw [hev] at hv
  obtain ⟨v1, lb, hge, l1, _, l2, p2⟩ := hv.fn_inv
  have hv1 : v1 = #[] := by
    have : v1.size = 0 := by simpa using l1.symm
    exact Array.eq_empty_of_size_eq_zero this
  subst hv1
  obtain ⟨eg, IT⟩ := IT f caps xs hit
  have Vc : VRs g W1 caps lb.toList := ⟨by simpa using l2, fun i a v ha hv => st.vr (p2 i a v ha (by rwa [Array.getElem?_toList] at hv))⟩
  obtain ⟨Hh, hHs, hHn⟩ : ∃ Hh : Option Nat → List AO, (∀ n, Hh (some n) = Hs n) ∧ Hh none = H' := ⟨fun i => match i with | some n => Hs n | none => H', fun _ => rfl, rfl⟩
  obtain ⟨J, hJs, hJn⟩ : ∃ J : Option Nat → G → World → Prop,
      (∀ n g' w', J (some n) g' w' ↔ (Rel g' w' (Hs n) ∧ Stp g w H g' w' (Hs n) ∧ Out' (w.heap.size + 1) g' w' (Hs n) ∧ Out' w.heap.size g' w' (Hs n) ∧ w'.heap[w.heap.size]? = some (.deferred (some [])) ∧ n ≤ m ∧ w'.heap[w.heap.size + 1]? = some (.loop (rec .ready none)))) ∧
      (∀ g' w', J none g' w' ↔ (Rel g' w' H' ∧ Stp g w H g' w' H' ∧ Out' (w.heap.size + 1) g' w' H' ∧ Out' w.heap.size g' w' H' ∧ w'.heap[w.heap.size]? = some (.deferred (some [])) ∧ m < xs.length ∧ w'.heap[w.heap.size + 1]? = some (.loop (rec .done (jumpOf e))) ∧ e ≠ .normal)) :=
    ⟨fun i g' w' => match i with
      | some n => Rel g' w' (Hs n) ∧ Stp g w H g' w' (Hs n) ∧ Out' (w.heap.size + 1) g' w' (Hs n) ∧ Out' w.heap.size g' w' (Hs n) ∧ w'.heap[w.heap.size]? = some (.deferred (some [])) ∧ n ≤ m ∧ w'.heap[w.heap.size + 1]? = some (.loop (rec .ready none))
      | none => Rel g' w' H' ∧ Stp g w H g' w' H' ∧ Out' (w.heap.size + 1) g' w' H' ∧ Out' w.heap.size g' w' H' ∧ w'.heap[w.heap.size]? = some (.deferred (some [])) ∧ m < xs.length ∧ w'.heap[w.heap.size + 1]? = some (.loop (rec .done (jumpOf e))) ∧ e ≠ .normal, fun _ _ _ => Iff.rfl, fun _ _ => Iff.rfl⟩
  have RD : Rds P (w.heap.size + 1) xs Hh J := by
    refine ⟨fun i g' w' h => ?_, fun i g1 w1 g2 w2 h R' s => ?_, fun n a g1 w1 us hx h V => ?_⟩
    · cases i with
      | some n => rw [hHs]; exact ((hJs _ _ _).1 h).1
      | none => rw [hHn]; exact ((hJn _ _).1 h).1
    · cases i with
      | some n =>
        rw [hHs] at R' s
        obtain ⟨h1, h2, h3, h4, h5, h6, h7⟩ := (hJs _ _ _).1 h
        exact (hJs _ _ _).2 ⟨R', h2.trans s, h3.step s, h4.step s, (h4.same s).trans h5, h6, (h3.same s).trans h7⟩
      | none =>
        rw [hHn] at R' s
        obtain ⟨h1, h2, h3, h4, h5, h6, h7, h8⟩ := (hJn _ _).1 h
        exact (hJn _ _).2 ⟨R', h2.trans s, h3.step s, h4.step s, (h4.same s).trans h5, h6, (h3.same s).trans h7, h8⟩
    · obtain ⟨h1, h2, h3, h4, h5, h6, h7⟩ := (hJs _ _ _).1 h
      obtain ⟨e1, H1, ho, hcase⟩ : ∃ e1 H1, oneW cw ps.toList ca cb fr a (Hs n) = some (e1, H1) ∧ ((e1 = .normal ∧ n < m ∧ H1 = Hs (n + 1)) ∨ (e1 = e ∧ e ≠ .normal ∧ m < xs.length ∧ H1 = H')) := by
        rcases Nat.lt_or_ge n m with hlt | hge
        · exact ⟨_, _, r3 n a hlt hx, .inl ⟨rfl, hlt, rfl⟩⟩
        · have hnm : n = m := by omega
          subst hnm
          rcases r4 with ⟨_, k2, _⟩ | ⟨k1, k2, k3⟩
          · have := (List.getElem?_eq_some_iff.1 hx).1; omega
          · exact ⟨_, _, k3 a hx, .inr ⟨rfl, k1, k2, rfl⟩⟩
      unfold oneW at ho
      have hal : (a.length == ps.toList.length) = true := by
        cases hh : a.length == ps.toList.length with
        | true => rfl
        | false => rw [hh] at ho; cases ho
      rw [hal, cond_true] at ho
      have hal : a.length = ps.toList.length := by simpa using hal
      obtain ⟨⟨ea, fra, Ha⟩, hoa, ho⟩ := bO.1 ho
      have hea : ea = .normal := by
        cases ea with
        | normal => rfl
        | _ => cases ho
      subst hea
      simp only at ho
      obtain ⟨⟨eb, frb, Hb⟩, hob, ho⟩ := bO.1 ho
      simp only at ho
      have hpb : isPan eb = false := by
        cases hh : isPan eb with
        | false => rfl
        | true => rw [hh] at ho; cases ho
      rw [hpb, cond_false] at ho
      simp only [sI, Prod.mk.injEq] at ho
      obtain ⟨rfl, rfl⟩ := ho
      have hus : us.size = ps.size := by have := V.1; simp at this hal; omega
      have hy := run_yield (P := P) (args := us) h7 (by rw [hrec]; exact hus)
      rw [hrec] at hy
      refine ⟨fn, _, asn, body, hy, ?_⟩
      refine roundIn_of_wpIn (F := WF none) trivial ?_
      rw [show (WF none).inRound (w.heap.size + 1) = WF (some (w.heap.size + 1)) from rfl]
      have Fr0 : FRel g1 w1 fr { tmps := act.tmps, defers := [] } := fun t => h2.vr (S.fr t)
      obtain ⟨Fp, sp⟩ := FRel.putL ps.toList a us.toList fr { tmps := act.tmps, defers := [] } hps S.size Fr0 V
      have hzip : (ps.zip us).foldl (fun t (x : Tmp × Value) => t.setIfInBounds x.1 x.2) act.tmps = (ps.toList.zip us.toList).foldl (fun t x => t.setIfInBounds x.1 x.2) act.tmps := by
        rw [← Array.foldl_toList, Array.toList_zip]
      have Sa : Sit nt [] g1 w1 (Hs n) (putL fr ps.toList a) { tmps := (ps.zip us).foldl (fun t (x : Tmp × Value) => t.setIfInBounds x.1 x.2) act.tmps, defers := [] } := by
        rw [hzip]; exact ⟨h1, Fp, sp, rfl⟩
      refine CD asn id ca hca [] (putL fr ps.toList a) (Hs n) (.normal, fra, Ha) g1 w1 _ Sa hoa _ ?_ (some (w.heap.size + 1))
      intro g2 w2 act2 s2 S2
      have L2 := h3.step s2
      have hl2 := (h3.same s2).trans h7
      refine ⟨_, run_beginRound hl2 (by rw [hrec]), ?_⟩
      obtain ⟨ob, hob'⟩ : ∃ ob : Obj, ob = .loop { rec .ready none with state := .busy } := ⟨_, rfl⟩
      rw [← hob']
      have R3 : Rel g2 (w2.putObj (w.heap.size + 1) ob) Ha := S2.rel.put' L2 ob
      have ex3 := ext_put L2 ob
      refine CD body id cb hcb [] fra Ha (eb, frb, Hb) g2 _ act2 ⟨R3, S2.fr.ext ex3, S2.size, S2.defers⟩ hob _ ?_ (some (w.heap.size + 1))
      have L3 : Out' (w.heap.size + 1) g2 (w2.putObj (w.heap.size + 1) ob) Ha := L2.put ob
      have D3 : Out' w.heap.size g2 (w2.putObj (w.heap.size + 1) ob) Ha := (h4.step s2).put ob
      have hD3 : (w2.putObj (w.heap.size + 1) ob).heap[w.heap.size]? = some (.deferred (some [])) := (World.putObj_heap_other (by omega)).trans (((h4.same s2)).trans h5)
      have hl3 : (w2.putObj (w.heap.size + 1) ob).heap[w.heap.size + 1]? = some ob := World.putObj_heap_same L2.lt
      have st3 : Stp g w H g2 (w2.putObj (w.heap.size + 1) ob) Ha := (h2.trans s2).put' S.rel (by omega) ob
      have fin : ∀ (jump : Option Code) (g4 : G) (w4 : World) (act4 : Act), Stp g2 (w2.putObj (w.heap.size + 1) ob) Ha g4 w4 Hb → Sit nt [] g4 w4 Hb frb act4 →
          (Instr.endRound (w.heap.size + 1) jump).run P w4 = .ok (.bool jump.isNone) (w4.putObj (w.heap.size + 1) (.loop (rec (if jump.isNone then .ready else .done) jump))) ∧
          Rel g4 (w4.putObj (w.heap.size + 1) (.loop (rec (if jump.isNone then .ready else .done) jump))) Hb ∧ Stp g w H g4 (w4.putObj (w.heap.size + 1) (.loop (rec (if jump.isNone then .ready else .done) jump))) Hb ∧
          Out' (w.heap.size + 1) g4 (w4.putObj (w.heap.size + 1) (.loop (rec (if jump.isNone then .ready else .done) jump))) Hb ∧ Out' w.heap.size g4 (w4.putObj (w.heap.size + 1) (.loop (rec (if jump.isNone then .ready else .done) jump))) Hb ∧
          (w4.putObj (w.heap.size + 1) (.loop (rec (if jump.isNone then .ready else .done) jump))).heap[w.heap.size]? = some (.deferred (some [])) ∧
          (w4.putObj (w.heap.size + 1) (.loop (rec (if jump.isNone then .ready else .done) jump))).heap[w.heap.size + 1]? = some (.loop (rec (if jump.isNone then .ready else .done) jump)) ∧
          Ext g1 w1 g4 (w4.putObj (w.heap.size + 1) (.loop (rec (if jump.isNone then .ready else .done) jump))) := by
        intro jump g4 w4 act4 s4 S4
        have L4 := L3.step s4
        have hl4 : w4.heap[w.heap.size + 1]? = some ob := (L3.same s4).trans hl3
        rw [hob'] at hl4
        have he := run_endRound (P := P) jump hl4
        refine ⟨?_, S4.rel.put' L4 _, (st3.trans s4).put' S.rel (by omega) _, L4.put _, (D3.step s4).put _, (World.putObj_heap_other (by omega)).trans ((D3.same s4).trans hD3), World.putObj_heap_same L4.lt, ((s2.ext.trans ex3).trans s4.ext).trans (ext_put L4 _)⟩
        rw [hrec] at he ⊢
        exact he
      cases eb with
      | normal =>
        intro g4 w4 act4 s4 S4
        obtain ⟨f1, f2, f3, f4, f5, f6, f7, f8⟩ := fin none g4 w4 act4 s4 S4
        refine ⟨_, _, f1, g4, f8, .inl ⟨rfl, ?_⟩⟩
        rcases hcase with ⟨_, c2, c3⟩ | ⟨c1, c2, _⟩
        · subst c3
          exact (hJs _ _ _).2 ⟨f2, f3, f4, f5, f6, by omega, f7⟩
        · exact absurd c1.symm c2
      | exit id' =>
        intro g4 w4 act4 s4 S4
        obtain ⟨f1, f2, f3, f4, f5, f6, f7, f8⟩ := fin (some (.exit id')) g4 w4 act4 s4 S4
        refine ⟨_, _, f1, g4, f8, .inr ⟨rfl, ?_⟩⟩
        rcases hcase with ⟨c1, _⟩ | ⟨c1, c2, c3, c4⟩
        · cases c1
        · subst c1; subst c4
          exact (hJn _ _).2 ⟨f2, f3, f4, f5, f6, c3, f7, c2⟩
      | ret =>
        intro g4 w4 act4 s4 S4
        obtain ⟨f1, f2, f3, f4, f5, f6, f7, f8⟩ := fin (some .ret) g4 w4 act4 s4 S4
        refine ⟨_, _, f1, g4, f8, .inr ⟨rfl, ?_⟩⟩
        rcases hcase with ⟨c1, _⟩ | ⟨c1, c2, c3, c4⟩
        · cases c1
        · subst c1; subst c4
          exact (hJn _ _).2 ⟨f2, f3, f4, f5, f6, c3, f7, c2⟩
      | pan a => cases hpb
  have J0 : J (some 0) g W1 := by
    refine (hJs _ _ _).2 ?_
    rw [r1]
    exact ⟨R2, st, OL, OD, hK1, Nat.zero_le _, hL1⟩
  refine ⟨w.heap.size + 1, [{ target := .collected w.heap.size, args := #[] }], W1, { target := .fn (.func f) lb, args := #[.func (.yield (w.heap.size + 1)) #[] #[]] }, W1, f,
    #[.func (.yield (w.heap.size + 1)) #[] #[]] ++ lb, W1, ?_, ?_, fun _ _ => trivial, ?_, fun h => (by cases h), ?_⟩
  · rw [← hW1, hrec]; exact run_enterLoop_outer _ _ _ _ _
  · have hge' : act.eval gx = .func (.func f) #[] lb := hge
    simp only [resolve, hge']
    simp [go_sem]
  · simp [invoke, go_sem, eg]
  · refine (IT (w.heap.size + 1) Hh J g W1 lb RD J0 Vc).mono ?_
    rintro e2 W2 ⟨⟨v, rfl⟩, g2, hJ2⟩
    have done : ∀ (st' : LoopState) (jump : Option Code) (Hx : List AO), Rel g2 W2 Hx → Stp g w H g2 W2 Hx → Out' (w.heap.size + 1) g2 W2 Hx → Out' w.heap.size g2 W2 Hx → W2.heap[w.heap.size]? = some (.deferred (some [])) → W2.heap[w.heap.size + 1]? = some (.loop (rec st' jump)) → st' ≠ .busy → Hx = H' →
        (Instr.endLoop (w.heap.size + 1)).run P W2 = .ok jump (W2.putObj (w.heap.size + 1) (.loop { rec st' jump with state := .exhausted })) ∧
        exQ Q e { act with defers := [{ target := .collected w.heap.size, args := #[] }] ++ act.defers } (W2.putObj (w.heap.size + 1) (.loop { rec st' jump with state := .exhausted })) := by
      intro st' jump Hx q1 q2 q3 q4 q5 q6 q7 q8
      subst q8
      have := run_endLoop (P := P) q6 (by rw [hrec]; exact q7)
      refine ⟨by rw [this, hrec], ?_⟩
      have M2 : Mk base bs g2 W2 Hx := M.step q2
      have hnl : w.heap.size + 1 ∉ bs := fun hb => by have := (M.out _ hb).lt; omega
      have hnd : w.heap.size ∉ bs := fun hb => by have := (M.out _ hb).lt; omega
      have M3 := M2.put hnl (.loop { rec st' jump with state := .exhausted })
      refine hq g2 _ _ (w.heap.size :: bs) (q2.put' S.rel (by omega) _) ⟨q1.put' q3 _, fun t => (ext_put q3 _).vr (q2.vr (S.fr t)), S.size, by rw [S.defers]; rfl⟩ ⟨fun b hb => ?_, fun b hb => ?_, fun b hb => ?_, List.nodup_cons.2 ⟨hnd, M.nd⟩⟩
      · rcases List.mem_cons.1 hb with rfl | hb
        · exact q4.put _
        · exact M3.out b hb
      · rcases List.mem_cons.1 hb with rfl | hb
        · exact (World.putObj_heap_other (by omega)).trans q5
        · exact M3.at' b hb
      · rcases List.mem_cons.1 hb with rfl | hb
        · exact hbase
        · exact M.base b hb
    rcases hJ2 with h | h
    · obtain ⟨q1, q2, q3, q4, q5, q6, q7⟩ := (hJs _ _ _).1 h
      rcases r4 with ⟨k1, k2, k3⟩ | ⟨k1, k2, k3⟩
      · have hH : Hs xs.length = H' := by rw [← k3, k2]
        obtain ⟨d1, d2⟩ := done .ready none _ q1 q2 q3 q4 q5 q7 (by decide) hH
        refine ⟨none, _, d1, ?_⟩
        subst k1
        exact d2
      · omega
    · obtain ⟨q1, q2, q3, q4, q5, q6, q7, q8⟩ := (hJn _ _).1 h
      obtain ⟨d1, d2⟩ := done .done (jumpOf e) _ q1 q2 q3 q4 q5 q7 (by decide) rfl
      refine ⟨jumpOf e, _, d1, ?_⟩
      cases e with
      | normal => exact absurd rfl q8
      | exit id' => exact wpIn_exit d2
      | ret => exact wpIn_ret d2
      | pan a => cases hne
end
end Go.Ai
namespace Go.Ai
section
variable {P : Program} {call : CallF} {mt : MtF} {md : FuncId → Md}
theorem rg_ok {A : Ann} {nt : Nat} {cw : C → Fr → List AO → Option S} {it : ItF} (IT : ItOk P it) (CD : CdOk P A nt cw) {base : Nat} : ∀ (x : Code) (b : Nat) (l : List Rg), compRg P A nt b x = some l →
    ∀ (bs : List Nat) (fr : Fr) (H : List AO) (p : Ai.S) (g : G) (w : World) (act : Act), Sit nt (marks bs) g w H fr act → Mk base bs g w H → base ≤ w.heap.size → rgW cw it l fr H = some p → ∀ Q, RgPost base nt g w H Q p → x.wpIn (WF none) 0 P Q act w := by
  have plain : ∀ (x : Code) (b : Nat) (c : C), comp P A nt b x = some c → ∀ (bs : List Nat) (fr : Fr) (H : List AO) (p : Ai.S) (g : G) (w : World) (act : Act), Sit nt (marks bs) g w H fr act → Mk base bs g w H → base ≤ w.heap.size → rgW cw it [.code c] fr H = some p → ∀ Q, RgPost base nt g w H Q p → x.wpIn (WF none) 0 P Q act w := by
    intro x b c hc bs fr H p g w act S M hb h Q hQ
    simp only [rgW] at h
    obtain ⟨s, hs, h⟩ := bO.1 h
    refine CD x b c hc (marks bs) fr H s g w act S hs Q ?_ none
    obtain ⟨e, fr1, H1⟩ := s
    cases e with
    | normal =>
      simp only [sI] at h; subst h
      exact fun g' w' act' st S' => hQ g' w' act' bs st S' (M.step st)
    | exit id =>
      simp only [sI] at h; subst h
      exact fun g' w' act' st S' => hQ g' w' act' bs st S' (M.step st)
    | ret =>
      simp only [sI] at h; subst h
      exact fun g' w' act' st S' => hQ g' w' act' bs st S' (M.step st)
    | pan a =>
      simp only [sI] at h; subst h
      exact fun g' w' act' v st S' hv => hQ g' w' act' bs st S' (M.step st) v hv
  intro x
  induction x with
  | seq x y ihx ihy =>
    intro b l hc bs fr H p g w act S M hb h Q hQ
    simp only [compRg] at hc
    obtain ⟨l1, h1, hc⟩ := bO.1 hc
    obtain ⟨l2, h2, hc⟩ := bO.1 hc
    simp only [sI] at hc; subst hc
    rw [rgW_append] at h
    obtain ⟨p1, h3, h⟩ := bO.1 h
    refine wpIn_seq (ihx b l1 h1 bs fr H p1 g w act S M hb h3 _ ?_)
    obtain ⟨e, fr1, H1⟩ := p1
    intro g' w' act' bs' st S' M'
    cases e with
    | normal =>
      simp only at h ⊢
      refine ihy b l2 h2 bs' fr1 H1 p g' w' act' S' M' (Nat.le_trans hb st.size) h Q ?_
      exact fun g2 w2 act2 bs2 st2 S2 M2 => hQ g2 w2 act2 bs2 (st.trans st2) S2 M2
    | exit id =>
      simp only [sI] at h; subst h
      exact hQ g' w' act' bs' st S' M'
    | ret =>
      simp only [sI] at h; subst h
      exact hQ g' w' act' bs' st S' M'
    | pan a =>
      simp only [sI] at h; subst h
      exact hQ g' w' act' bs' st S' M'
  | block id x ih =>
    intro b l hc
    rw [compRg.eq_def] at hc
    split at hc
    · rename_i heq
      cases heq
    · rename_i id' gx ps asn body heq
      simp only [Code.block.injEq] at heq
      obtain ⟨rfl, rfl⟩ := heq
      obtain ⟨ca, h1, hc⟩ := bO.1 hc
      obtain ⟨cb, h2, hc⟩ := bO.1 hc
      by_cases hp : ps.toList.all (fun p => Nat.blt p nt) = true
      case neg => rw [if_neg hp] at hc; cases hc
      rw [if_pos hp] at hc
      simp only [sI] at hc; subst hc
      have hps : ∀ p ∈ ps.toList, p < nt := fun p hm => by
        have := List.all_eq_true.1 hp p hm
        simpa [Nat.blt_eq] using this
      intro bs fr H p g w act S M hb h Q hQ
      simp only [rgW] at h
      split at h
      · rename_i f caps hev
        obtain ⟨xs, hit, h⟩ := bO.1 h
        obtain ⟨⟨e, H1⟩, hr, h⟩ := bO.1 h
        refine wpIn_block ?_
        have hne : isPan e = false := by
          cases e with
          | pan a => cases h
          | _ => rfl
        refine rng_ok IT CD h1 h2 hps hit hr hev S hb M _ hne fun g' w' act' bs' st S' M' => ?_
        cases e with
        | normal =>
          simp only [sI] at h; subst h
          exact hQ g' w' act' bs' st S' M'
        | exit id' =>
          simp only at h
          cases hi : id' == id with
          | true =>
            rw [hi] at h
            simp only [cond_true, sI] at h; subst h
            have : id' = id := by simpa using hi
            simp only [exQ, Exit.inBlock]
            rw [if_pos this]
            exact hQ g' w' act' bs' st S' M'
          | false => rw [hi] at h; cases h
        | ret =>
          simp only [sI] at h; subst h
          exact hQ g' w' act' bs' st S' M'
        | pan a => cases h
      · cases h
    · rename_i hn1 hn2
      obtain ⟨c, h1, hc⟩ := bO.1 hc
      simp only [sI] at hc; subst hc
      exact plain _ b c h1
  | _ =>
    intro b l hc
    simp only [compRg] at hc
    obtain ⟨c, h1, hc⟩ := bO.1 hc
    simp only [sI] at hc; subst hc
    exact plain _ b c h1
structure FG where
  np : Nat
  nt : Nat
  res : List RV
  rg : List Rg
def compFG (P : Program) (A : Ann) (fn : Func) : Option FG :=
  fn.body.bind fun c => (compRg P A fn.ntmps 0 c).bind fun c => (fn.results.toList.mapM (compRV P)).bind fun rs =>
    if fn.params.size + fn.nfree ≤ fn.ntmps ∧ (fn.name == "runtime.NumGoroutine") = false then some ⟨fn.params.size + fn.nfree, fn.ntmps, rs, c⟩ else none
def finG (F : FG) (p : Ai.S) : Option (R × List AO) :=
  match p.1 with
  | .normal | .ret => (res p.2.1 p.2.2 F.res).bind fun r => some (.ret r, p.2.2)
  | .pan a => some (.pan a, p.2.2)
  | .exit _ => none
def gG (cw : C → Fr → List AO → Option Ai.S) (it : ItF) (F : FG) (args : List AV) (H : List AO) : Option (R × List AO) :=
  bif args.length == F.np then (rgW cw it F.rg (initFr 0 args) H).bind (finG F) else none
theorem leave_marks {base : Nat} {fn : Func} {tmps : Array Value} {R : Ending → World → Prop} {H : List AO} {g0 : G} {w0 : World} {H0 : List AO} (R0 : Rel g0 w0 H0) (hb : base = w0.heap.size) : ∀ (bs : List Nat) (g : G) (w : World) (u : FrameMode),
    u ≠ .run → Rel g w H → Stp g0 w0 H0 g w H → Mk base bs g w H → (∀ w', Rel g w' H → Stp g0 w0 H0 g w' H → Ext g w g w' → LeavesIn (WF none) 0 P fn tmps R [] u w') → LeavesInM (WF none) 0 P fn tmps R (marks bs) u w
  | [], g, w, u, hu, Rl, st, M, h => h w Rl st Ext.refl
  | b :: bs, g, w, u, hu, Rl, st, M, h => by
    have ob := M.out b (List.mem_cons_self ..)
    have hbb := M.base b (List.mem_cons_self ..)
    obtain ⟨hn1, hn2⟩ := List.nodup_cons.1 M.nd
    refine ⟨hu, .inl ⟨b, _, rfl, run_takeDeferred (M.at' b (List.mem_cons_self ..)), ?_⟩⟩
    have M' : Mk base bs g w H := ⟨fun c hc => M.out c (List.mem_cons_of_mem _ hc), fun c hc => M.at' c (List.mem_cons_of_mem _ hc), fun c hc => M.base c (List.mem_cons_of_mem _ hc), hn2⟩
    exact leave_marks R0 hb bs g _ u hu (Rl.put' ob _) (st.put' R0 (by omega) _) (M'.put hn1 _) fun w' h1 h2 h3 => h w' h1 h2 ((ext_put ob _).trans h3)
theorem ranges_ok {A : Ann} {cw : C → Fr → List AO → Option Ai.S} {it : ItF} (IT : ItOk P it) {f : FuncId} {fn : Func} {F : FG} (hfn : P.funcs[f]? = some fn) (CD : CdOk P A fn.ntmps cw) (hF : compFG P A fn = some F) : OneOk P f (gG cw it F) := by
  intro args H r H' h w g vs R V
  unfold compFG at hF
  obtain ⟨c0, hb, hF⟩ := bO.1 hF
  obtain ⟨c, hc, hF⟩ := bO.1 hF
  obtain ⟨rs, hr, hF⟩ := bO.1 hF
  by_cases hle : fn.params.size + fn.nfree ≤ fn.ntmps ∧ (fn.name == "runtime.NumGoroutine") = false
  case neg => rw [if_neg hle] at hF; cases hF
  rw [if_pos hle] at hF
  simp only [sI] at hF; subst hF
  unfold gG at h
  cases hl : args.length == fn.params.size + fn.nfree with
  | false => simp only [hl] at h; cases h
  | true =>
    simp only [hl, cond_true] at h
    have hl : args.length = fn.params.size + fn.nfree := by simpa using hl
    obtain ⟨p, hs, h⟩ := bO.1 h
    refine .inl ⟨enters hfn hle.2 hb vs w, callsIn_wide.1 (callsIn_of_wp_marks (F := WF none) (n := 0) hfn hb trivial ?_)⟩
    have F0 := init_fs V (nt := fn.ntmps) (by omega)
    refine rg_ok IT CD (base := w.heap.size) c0 0 c hc [] _ H p g w _ ⟨R, F0.fr, F0.size, F0.defers⟩ ⟨by simp, by simp, by simp, List.nodup_nil⟩ (Nat.le_refl _) hs _ ?_
    obtain ⟨e, fr1, H1⟩ := p
    intro g' w' act' bs' st S' M'
    cases e with
    | normal =>
      simp only [finG] at h
      obtain ⟨a, ha, h⟩ := bO.1 h
      simp only [sI, Prod.mk.injEq] at h
      obtain ⟨rfl, rfl⟩ := h
      simp only [bodyPostM]
      rw [S'.defers]
      refine leave_marks R rfl bs' g' w' .returning (by simp) S'.rel st M' fun w2 h1 h2 h3 => ?_
      obtain ⟨v, hv1, hv2⟩ := results_run fn act' h1 (S'.fr.ext h3) hr ha
      exact ⟨v, hv1, g', h1, h2, v, rfl, hv2⟩
    | ret =>
      simp only [finG] at h
      obtain ⟨a, ha, h⟩ := bO.1 h
      simp only [sI, Prod.mk.injEq] at h
      obtain ⟨rfl, rfl⟩ := h
      simp only [bodyPostM]
      rw [S'.defers]
      refine leave_marks R rfl bs' g' w' .returning (by simp) S'.rel st M' fun w2 h1 h2 h3 => ?_
      obtain ⟨v, hv1, hv2⟩ := results_run fn act' h1 (S'.fr.ext h3) hr ha
      exact ⟨v, hv1, g', h1, h2, v, rfl, hv2⟩
    | pan a =>
      simp only [finG, sI, Prod.mk.injEq] at h
      obtain ⟨rfl, rfl⟩ := h
      intro v hv
      simp only [bodyPostM]
      rw [S'.defers]
      refine leave_marks R rfl bs' g' w' _ (by simp) S'.rel st M' fun w2 h1 h2 h3 => ?_
      exact ⟨g', h1, h2, v, rfl, h3.vr hv⟩
    | exit id => cases h
end
end Go.Ai
