/- The abstract interpreter: every operation is sound, one by one. No condition. -/
import Derived.Test.YtoemnjclhheeoaaA11
namespace Go.Ai
set_option linter.unusedVariables false
set_option linter.unusedSimpArgs false
set_option linter.unusedSectionVars false
section
variable {P : Program} {g : G} {w : World} {H : List AO} {id : Nat} {act : Act} {fr : Fr} {call : CallF} {mt : MtF} {md : FuncId → Md} {ow : List Nat}

theorem call_ok {o : Oper} {c : Call} {i : I} {out : Out} (ho : o.op = .call c) (CO : CallOk P call) (MT : MtOk P mt) (h : core call mt md H id i fr = some out) (hc : compCall P c = some i) (F : FRel g w fr act) (R : Rel g w H) (hid : id ≤ H.length) (hd : ¬ g.D id) :
    OpOk P o act g w H id out := by
  obtain ⟨callee, args, argTypes⟩ := c
  have hex : execOp act.eval o = (do let d ← resolve act.eval ⟨callee, args, argTypes⟩ o.type; invoke d.target d.args) := by unfold execOp; rw [ho]
  cases callee with
  | value f =>
    simp only [compCall, Option.some.injEq] at hc; subst hc
    simp only [core] at h
    have hf := ev_vr F f
    generalize ev fr (cx f) = x at h hf
    generalize hu : act.eval f = u at hf
    cases x with
    | fn fn first cap =>
      cases fn with
      | func q =>
        simp only at h
        obtain ⟨vs, us, rfl, l1, p1, l2, p2⟩ := hf.fn_inv
        have V : VRs g w (first ++ (args.toList.map cx).map (ev fr) ++ cap) (vs ++ args.map act.eval ++ us).toList := by
          rw [Array.toList_append, Array.toList_append]
          exact ((VRs.mk' l1 p1).append (evs_vr F args)).append (VRs.mk' l2 p2)
        refine OpOk.call (f := q) (vs := vs ++ args.map act.eval ++ us) ?_ (callV_ok CO h R hid hd V)
        rw [hex]
        simp [resolve, hu, Deferred.ofValue, invoke]
      | _ => cases h
    | _ => cases h
  | invoke r name =>
    simp only [compCall, Option.some.injEq] at hc; subst hc
    simp only [core] at h
    have hf := ev_vr F r
    generalize ev fr (cx r) = x at h hf
    generalize hu : act.eval r = u at hf
    cases x with
    | iface t x =>
      simp only at h
      obtain ⟨v, rfl, hv⟩ := hf.iface_inv
      obtain ⟨⟨q, d⟩, hm, h⟩ := Option.bind_eq_some_iff.1 h
      have M := MT t name q d hm
      cases d with
      | none =>
        simp only at h M
        refine OpOk.call (f := q) (vs := #[v] ++ args.map act.eval) ?_ (callV_ok CO h R hid hd (by simpa using VRs.cons hv (evs_vr F args)))
        rw [hex]
        have e0 : (#[Value.iface t v] ++ args.map act.eval)[0]? = some (.iface t v) := by rw [Array.getElem?_append_left (by simp)]; rfl
        simp only [resolve, hu, invoke, Sem.run_bind, Sem.run_pure, Result.andThen_ok, e0, callMethod, run_program, M]
        congr 2
        apply Array.ext'
        simp
        rw [List.take_of_length_le (by simp)]
      | some n =>
        simp only at h M
        obtain ⟨elem, hn, M⟩ := M
        obtain ⟨y, hl, h⟩ := Option.bind_eq_some_iff.1 h
        obtain ⟨z, hz1, hz2⟩ := load_run R hn hv hl
        have : ∃ a, v = .pointer (some a) := by
          unfold load at hl
          split at hl
          · exact ⟨_, hv.ptr_inv.1⟩
          · obtain ⟨ad, f, e, _⟩ := hv.ip_inv; exact ⟨ad, e⟩
          · cases hl
        obtain ⟨a, rfl⟩ := this
        have hz1' : (loadVar elem a).run P w = .ok z w := by simpa [Instr.loadAt, Instr.sureAddr] using hz1
        have M := M a z w hz1'
        refine OpOk.call (f := q) (vs := #[z] ++ args.map act.eval) ?_ (callV_ok CO h R hid hd (by simpa using VRs.cons hz2 (evs_vr F args)))
        rw [hex]
        have e0 : (#[Value.iface t (.pointer (some a))] ++ args.map act.eval)[0]? = some (.iface t (.pointer (some a))) := by rw [Array.getElem?_append_left (by simp)]; rfl
        simp only [resolve, hu, invoke, Sem.run_bind, Sem.run_pure, Result.andThen_ok, e0, callMethod, run_program, M]
        congr 2
        apply Array.ext'
        simp
        rw [List.take_of_length_le (by simp)]
    | _ => cases h
  | builtin b =>
    obtain ⟨cs, hb⟩ : ∃ cs, execOp act.eval o = builtin b argTypes o.type cs (args.map act.eval) := ⟨_, by rw [hex]; simp only [resolve, invoke, pure_bind]; rfl⟩
    cases b with
    | len =>
      simp only [compCall] at hc
      split at hc
      · rename_i t x hat hax
        have hat' : argTypes = #[t] := by apply Array.ext'; simpa using hat
        have hax' : args = #[x] := by apply Array.ext'; simpa using hax
        subst hat'; subst hax'
        have V := ev_vr F x
        split at hc
        · rename_i hu
          simp only [Option.some.injEq] at hc; subst hc
          simp only [core] at h
          obtain ⟨r, h1, h2⟩ := Option.bind_eq_some_iff.1 h
          simp only [Option.some.injEq] at h2; subst h2
          refine OpOk.val (s := Builtin.len_ #[t] o.type #[act.eval x]) R (by rw [hb, show Array.map act.eval #[x] = #[act.eval x] by simp]; rfl) ?_
          unfold lenS at h1
          split at h1
          · rename_i s heq
            rw [heq] at V
            rw [V.lit_inv]
            simp only [Option.some.injEq] at h1; subst h1
            exact ⟨_, by simp [Builtin.len_, run_underlying hu]; rfl, .fv _ _ (.lit _)⟩
          · cases h1
        · rename_i e hu
          simp only [Option.some.injEq] at hc; subst hc
          simp only [core] at h
          obtain ⟨r, h1, h2⟩ := Option.bind_eq_some_iff.1 h
          simp only [Option.some.injEq] at h2; subst h2
          refine OpOk.val (s := Builtin.len_ #[t] o.type #[act.eval x]) R (by rw [hb, show Array.map act.eval #[x] = #[act.eval x] by simp]; rfl) ?_
          unfold lenV at h1
          split at h1
          · rename_i s heq
            rw [heq] at V
            obtain ⟨a, c, f, hv, _⟩ := V.sl_inv
            rw [hv]
            simp only [Option.some.injEq] at h1; subst h1
            exact ⟨_, by simp [Builtin.len_, run_underlying hu]; rfl, .fv _ _ (.lit _)⟩
          · rename_i s heq
            rw [heq] at V
            obtain ⟨a, c, hv, _⟩ := V.own_inv
            rw [hv]
            simp only [Option.some.injEq] at h1; subst h1
            exact ⟨_, by simp [Builtin.len_, run_underlying hu]; rfl, .fv _ _ (.lit _)⟩
          · cases h1
        · cases hc
      · cases hc
    | append =>
      simp only [compCall] at hc
      split at hc
      · rename_i t u x y hat hax
        have hat' : argTypes = #[t, u] := by apply Array.ext'; simpa using hat
        have hax' : args = #[x, y] := by apply Array.ext'; simpa using hax
        subst hat'; subst hax'
        have go : ∀ et (ht : P.underlying t = some (.slice et)), (P.underlying u = some .string ∨ ∃ e2, P.underlying u = some (.slice e2)) →
            ((P.info? et).bind fun i => (zeros P et).bind fun _ => if 0 < i.size ∧ 0 < i.bytes then some (I.app i.size i.bytes et (cx x) (cx y)) else none) = some i → OpOk P o act g w H id out := by
          intro et ht hu hc
          obtain ⟨inf, hi, hc⟩ := Option.bind_eq_some_iff.1 hc
          obtain ⟨z, hz, hc⟩ := Option.bind_eq_some_iff.1 hc
          by_cases hp : 0 < inf.size ∧ 0 < inf.bytes
          · rw [if_pos hp] at hc
            simp only [Option.some.injEq] at hc; subst hc
            simp only [core] at h
            obtain ⟨r, w', h1, h2⟩ := append_ok (ty := o.type) R hid hd ht hu hi hz rfl rfl hp.1 hp.2 (ev_vr F x) (ev_vr F y) h
            refine OpOk.run (v := r) (w' := w') ?_ h2
            rw [hb, show Array.map act.eval #[x, y] = #[act.eval x, act.eval y] by simp]
            show (do pure (.value (← Builtin.append_ #[t, u] o.type #[act.eval x, act.eval y])) : Sem Next).run P w = _
            simp [h1]
          · rw [if_neg hp] at hc; cases hc
        split at hc
        · rename_i et ht hu; exact go et ht (.inl hu) hc
        · rename_i et ht e2 hu
          first
            | exact go et ht (.inr ⟨_, hu⟩) hc
            | exact go _ (by assumption) (.inr ⟨_, by assumption⟩) hc
        · cases hc
      · cases hc
    | clear =>
      simp only [compCall] at hc
      split at hc
      · rename_i t x hat hax
        have hat' : argTypes = #[t] := by apply Array.ext'; simpa using hat
        have hax' : args = #[x] := by apply Array.ext'; simpa using hax
        subst hat'; subst hax'
        split at hc
        · rename_i e hu
          obtain ⟨z, hz, hc⟩ := Option.bind_eq_some_iff.1 hc
          simp only [Option.some.injEq] at hc; subst hc
          simp only [core] at h
          obtain ⟨H', h1, h2⟩ := Option.bind_eq_some_iff.1 h
          simp only [Option.some.injEq] at h2; subst h2
          obtain ⟨w', r1, r2, r3⟩ := clr_ok (ty := o.type) R hu hz (ev_vr F x) h1
          refine OpOk.run (v := .tuple #[]) (w' := w') ?_ ⟨rfl, g, .fv _ _ (.tup _ _ rfl (by simp)), r2, r3⟩
          rw [hb, show Array.map act.eval #[x] = #[act.eval x] by simp]
          show (do pure (.value (← Builtin.clear_ #[t] o.type #[act.eval x])) : Sem Next).run P w = _
          simp [r1]
        · cases hc
      · cases hc
    | max =>
      simp only [compCall, Option.some.injEq] at hc; subst hc
      simp only [core] at h
      obtain ⟨r, h1, h2⟩ := Option.bind_eq_some_iff.1 h
      simp only [Option.some.injEq] at h2; subst h2
      refine OpOk.val (s := Builtin.max_ argTypes o.type (args.map act.eval)) R (by rw [hb]; rfl) ?_
      obtain ⟨x, rest, z, e, e1, e2⟩ := foldI_run (P := P) (op := Builtin.max2) (f := fun a b => bif decide (b > a) then b else a) (fun k a k' b => by
        simp only [Builtin.max2]; by_cases hh : b > a <;> simp [hh]) (evs_vr F args) h1
      refine ⟨z, ?_, e2⟩
      unfold Builtin.max_
      rw [e]; exact e1
    | min =>
      simp only [compCall, Option.some.injEq] at hc; subst hc
      simp only [core] at h
      obtain ⟨r, h1, h2⟩ := Option.bind_eq_some_iff.1 h
      simp only [Option.some.injEq] at h2; subst h2
      refine OpOk.val (s := Builtin.min_ argTypes o.type (args.map act.eval)) R (by rw [hb]; rfl) ?_
      obtain ⟨x, rest, z, e, e1, e2⟩ := foldI_run (P := P) (op := Builtin.min2) (f := fun a b => bif decide (b < a) then b else a) (fun k a k' b => by
        simp only [Builtin.min2]; by_cases hh : b < a <;> simp [hh]) (evs_vr F args) h1
      refine ⟨z, ?_, e2⟩
      unfold Builtin.min_
      rw [e]; exact e1
    | _ => simp [compCall] at hc
end
end Go.Ai
