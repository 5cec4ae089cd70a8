/- The abstract interpreter: what it tells of a call is so. No condition. -/
import Derived.Test.YtoemnjclhheeoaaA20
namespace Go.Ai
set_option linter.unusedVariables false
set_option linter.unusedSimpArgs false
set_option linter.unusedSectionVars false

def OneOk (P : Program) (f : FuncId) (G : List AV → List AO → Option (R × List AO)) : Prop :=
  ∀ args H r H', G args H = some (r, H') → ∀ (w : World) (g : Ai.G) (vs : Array Value), Rel g w H → VRs g w args vs.toList →
    FOk P f vs w fun e w' => ∃ g', Rel g' w' H' ∧ Stp g w H g' w' H' ∧ ERel g' w' r e

/-- A table of bodies, and its program. -/
structure Linked (P : Program) (T : FuncId → Option F) (ov : Ov) (mt : MtF) : Prop where
  fol : P.follows .mixedOrders = true
  mt : MtOk P mt
  tab : ∀ f F, T f = some F → ∃ fn A, P.funcs[f]? = some fn ∧ compF P A fn = some F
  ov : ∀ f G, ov f = some G → OneOk P f G

section
variable {P : Program} {g : G} {w : World} {H : List AO}

theorem get_init (t : Nat) : ∀ (args : List AV) (n : Nat), get (initFr n args) (n + t) = args.getD t .any
  | [], n => by simp [initFr, get]
  | a :: r, n => by
    simp only [initFr, get]
    cases t with
    | zero => simp
    | succ t =>
      have : ¬ n = n + (t + 1) := by omega
      rw [beq_of_ne this]
      simp only [cond_false]
      have := get_init t r (n + 1)
      rw [show n + 1 + t = n + (t + 1) by omega] at this
      rw [this]; simp

theorem results_run (fn : Func) (act : Act) {fr : Fr} (S : FRel g w fr act) {rs : List RV} {r : AV} (h1 : fn.results.toList.mapM (compRV P) = some rs) (h2 : res fr H rs = some r) :
    ∃ v, (results fn act.tmps).run P w = .ok v w ∧ VR g w r v := by
  unfold res at h2
  obtain ⟨l, hl, h2⟩ := Option.bind_eq_some_iff.1 h2
  have key : ∀ (q : ResultVar → Sem Value), (∀ t, q (.tmp t) = pure (act.tmps.getD t undef)) → ∀ (rv : List ResultVar) (rs : List RV) (l : List AV), rv.mapM (compRV P) = some rs → resL fr H rs = some l →
      ∃ vs, (List.mapM q rv).run P w = .ok vs w ∧ VRs g w l vs := by
    intro q hq rv
    induction rv with
    | nil =>
      intro rs l h3 h4
      simp only [List.mapM_nil, Option.pure_def, Option.some.injEq] at h3; subst h3
      simp only [resL, Option.some.injEq] at h4; subst h4
      exact ⟨[], by simp, VRs.nil⟩
    | cons x rv ih =>
      intro rs l h3 h4
      rw [List.mapM_cons] at h3
      obtain ⟨y, k1, h3⟩ := Option.bind_eq_some_iff.1 h3
      obtain ⟨ys, k2, h3⟩ := Option.bind_eq_some_iff.1 h3
      simp only [Option.pure_def, Option.some.injEq] at h3; subst h3
      simp only [resL] at h4
      obtain ⟨a, k3, h4⟩ := Option.bind_eq_some_iff.1 h4
      obtain ⟨as, k4, h4⟩ := Option.bind_eq_some_iff.1 h4
      simp only [Option.some.injEq] at h4; subst h4
      obtain ⟨vs, k5, k6⟩ := ih ys as k2 k4
      cases x with
      | cell _ _ => cases k1
      | tmp t =>
        simp only [compRV, Option.some.injEq] at k1; subst k1
        simp only [resV, Option.some.injEq] at k3; subst k3
        refine ⟨act.tmps.getD t undef :: vs, ?_, VRs.cons (S t) k6⟩
        rw [List.mapM_cons, Sem.run_bind, hq, Sem.run_pure, Result.andThen_ok, Sem.run_bind, k5, Result.andThen_ok, Sem.run_pure]
  have e : ∀ (q : ResultVar → Sem Value), (∀ t, q (.tmp t) = pure (act.tmps.getD t undef)) → ∃ vs, (do let vs ← fn.results.mapM q; pure (if h : vs.size = 1 then vs[0] else Value.tuple vs) : Sem Value).run P w = .ok (if h : vs.toArray.size = 1 then vs.toArray[0] else .tuple vs.toArray) w ∧ VRs g w l vs := by
    intro q hq
    obtain ⟨vs, k1, k2⟩ := key q hq _ _ _ h1 hl
    refine ⟨vs, ?_, k2⟩
    have : fn.results = fn.results.toList.toArray := by simp
    rw [this, List.mapM_toArray, Sem.run_bind, map_eq_pure_bind, Sem.run_bind, k1]
    simp
  have e' : ∃ vs, (results fn act.tmps).run P w = .ok (if h : vs.toArray.size = 1 then vs.toArray[0] else .tuple vs.toArray) w ∧ VRs g w l vs := by
    unfold results
    exact e _ (fun t => rfl)
  obtain ⟨vs, k1, k2⟩ := e'
  rw [k1]
  refine ⟨_, rfl, ?_⟩
  obtain ⟨n1, n2⟩ := k2
  split at h2
  · rename_i a
    simp only [Option.some.injEq] at h2; subst h2
    simp only [List.length_cons, List.length_nil] at n1
    have : vs.toArray.size = 1 := by simp [← n1]
    rw [dif_pos this]
    refine n2 0 _ _ rfl ?_
    have hv : 0 < vs.length := by omega
    rw [List.getElem?_eq_getElem hv]
    simp
  · rename_i hne
    simp only [Option.some.injEq] at h2; subst h2
    have : ¬ vs.toArray.size = 1 := by
      intro e
      simp only [List.size_toArray] at e
      have : ∃ a, l = [a] := by
        match l, n1.trans e with
        | [a], _ => exact ⟨a, rfl⟩
      obtain ⟨a, ha⟩ := this
      exact hne a ha
    rw [dif_neg this]
    exact .tup _ _ (by simpa using n1) (by simpa using n2)

theorem enters {f : FuncId} {fn : Func} {c : Code} (hf : P.funcs[f]? = some fn) (hname : (fn.name == "runtime.NumGoroutine") = false) (hb : fn.body = some c) (args : Array Value) (w : World) :
    (callFunc f args).run P w = .ok (.enter f args) w := by
  have h1 : fn.name ≠ "runtime.NumGoroutine" := by simpa using hname
  simp [callFunc, hf, h1, hb]

/-- What is told of a call is so. -/
theorem call_sound {T : FuncId → Option F} {ov : Ov} {mt : MtF} {md : FuncId → Md} (L : Linked P T ov mt) : ∀ k, CallOk P (call T ov mt md k)
  | 0 => by intro f args H r H' h; cases h
  | k + 1 => by
    have IH := call_sound (md := md) L k
    intro f args H r H' h w g vs R V
    simp only [call] at h
    cases ho : ov f with
    | some G => rw [ho] at h; exact L.ov f G ho args H r H' h w g vs R V
    | none =>
      rw [ho] at h
      simp only at h
      obtain ⟨F, hT, h⟩ := Option.bind_eq_some_iff.1 h
      obtain ⟨fn, A, hfn, hF⟩ := L.tab f F hT
      unfold compF at hF
      obtain ⟨c0, hb, hF⟩ := Option.bind_eq_some_iff.1 hF
      obtain ⟨c, hc, hF⟩ := Option.bind_eq_some_iff.1 hF
      obtain ⟨rs, hr, hF⟩ := Option.bind_eq_some_iff.1 hF
      by_cases hle : fn.params.size + fn.nfree ≤ fn.ntmps ∧ (fn.name == "runtime.NumGoroutine") = false
      case neg => rw [if_neg hle] at hF; cases hF
      rw [if_pos hle] at hF
      simp only [Option.some.injEq] at hF; subst hF
      cases hl : args.length == fn.params.size + fn.nfree with
      | false => simp only [hl] at h; cases h
      | true =>
        simp only [hl, cond_true] at h
        have hl : args.length = fn.params.size + fn.nfree := by simpa using hl
        obtain ⟨s, hs, h⟩ := Option.bind_eq_some_iff.1 h
        refine .inl ⟨enters hfn hle.2 hb vs w, calls_of_wp hfn hb ?_⟩
        have hvs : vs.size = args.length := by have := V.1; simp at this; omega
        have S : Sit fn.ntmps g w H (initFr 0 args) { tmps := vs ++ Array.replicate (fn.ntmps - vs.size) undef, defers := [] } := by
          refine ⟨R, fun t => ?_, by simp; omega, rfl⟩
          have := get_init t args 0
          rw [Nat.zero_add] at this
          rw [this]
          by_cases ht : t < args.length
          · rw [List.getD_eq_getElem?_getD, List.getElem?_eq_getElem ht, Option.getD_some]
            refine V.2 t _ _ (List.getElem?_eq_getElem ht) ?_
            rw [Array.getD_eq_getD_getElem?, Array.getElem?_append_left (by omega), Array.getElem?_eq_getElem (by omega), Option.getD_some, Array.getElem?_toList, Array.getElem?_eq_getElem (by omega)]
          · rw [List.getD_eq_getElem?_getD, List.getElem?_eq_none (by omega)]
            exact .fv _ _ (.any _)
        refine code_ok L.fol IH L.mt c0 0 c hc _ H s g w _ S hs _ ?_
        obtain ⟨e, fr1, H1⟩ := s
        cases e with
        | normal =>
          simp only at h
          obtain ⟨a, ha, h⟩ := Option.bind_eq_some_iff.1 h
          simp only [Option.some.injEq, Prod.mk.injEq] at h
          obtain ⟨rfl, rfl⟩ := h
          intro g' w' act' st S'
          obtain ⟨v, hv1, hv2⟩ := results_run fn act' S'.fr hr ha
          exact ⟨S'.defers, v, hv1, g', S'.rel, st, v, rfl, hv2⟩
        | ret =>
          simp only at h
          obtain ⟨a, ha, h⟩ := Option.bind_eq_some_iff.1 h
          simp only [Option.some.injEq, Prod.mk.injEq] at h
          obtain ⟨rfl, rfl⟩ := h
          intro g' w' act' st S'
          obtain ⟨v, hv1, hv2⟩ := results_run fn act' S'.fr hr ha
          exact ⟨S'.defers, v, hv1, g', S'.rel, st, v, rfl, hv2⟩
        | pan a =>
          simp only [Option.some.injEq, Prod.mk.injEq] at h
          obtain ⟨rfl, rfl⟩ := h
          intro g' w' act' v st S' hv
          exact ⟨S'.defers, g', S'.rel, st, v, rfl, hv⟩
        | exit id => cases h
end
end Go.Ai
