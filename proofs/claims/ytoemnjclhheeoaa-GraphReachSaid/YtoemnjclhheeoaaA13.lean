/- The abstract interpreter: every operation is sound. No condition. -/
import Derived.Test.YtoemnjclhheeoaaA12
import Derived.Laws.Build
namespace Go.Ai
set_option linter.unusedVariables false
set_option linter.unusedSimpArgs false
set_option linter.unusedSectionVars false
section
variable {P : Program} {g : G} {w : World} {H : List AO} {id : Nat} {act : Act} {fr : Fr} {call : CallF} {mt : MtF} {md : FuncId → Md} {ow : List Nat}

theorem val_inv {α : Type} {x : Option α} {f : α → Out} {out : Out} (h : (x.bind fun v => some (f v)) = some out) : ∃ v, x = some v ∧ out = f v := by
  obtain ⟨v, h1, h2⟩ := Option.bind_eq_some_iff.1 h
  exact ⟨v, h1, by simpa using h2.symm⟩

theorem typeAssert_same {asserted : TypeId} {d : TypeDesc} (hu : P.underlying asserted = some d) (hd : ∀ m, d = .interface m → False) (u : Value) (xt : TypeId) (ok : Bool) :
    (Instr.typeAssert (.iface asserted u) xt asserted ok).run P w = .ok (if ok then .tuple #[u, .bool true] else u) w := by
  unfold Instr.typeAssert
  simp only [Sem.run_bind, run_underlying hu, Result.andThen_ok]
  cases d with
  | interface m => exact (hd m rfl).elim
  | _ => simp
theorem typeAssert_other {asserted t : TypeId} {d : TypeDesc} {z : Value} (hu : P.underlying asserted = some d) (hd : ∀ m, d = .interface m → False) (hz : (zeroValue asserted).run P w = .ok z w) (u : Value) (xt : TypeId) (hne : t ≠ asserted) :
    (Instr.typeAssert (.iface t u) xt asserted true).run P w = .ok (.tuple #[z, .bool false]) w := by
  unfold Instr.typeAssert
  simp only [Sem.run_bind, run_underlying hu, Result.andThen_ok]
  cases d with
  | interface m => exact (hd m rfl).elim
  | _ => simp [hne, hz]
theorem typeAssert_nil {asserted : TypeId} {d : TypeDesc} {z : Value} (hu : P.underlying asserted = some d) (hd : ∀ m, d = .interface m → False) (hz : (zeroValue asserted).run P w = .ok z w) (xt : TypeId) :
    (Instr.typeAssert .nilIface xt asserted true).run P w = .ok (.tuple #[z, .bool false]) w := by
  unfold Instr.typeAssert
  simp only [Sem.run_bind, run_underlying hu, Result.andThen_ok]
  cases d with
  | interface m => exact (hd m rfl).elim
  | _ => simp [hz]

theorem core_ok {o : Oper} {i : I} {out : Out} (CO : CallOk P call) (MT : MtOk P mt) (h : core call mt md H id i fr = some out) (hc : compI P ow o = some i) (F : FRel g w fr act) (R : Rel g w H) (hid : id ≤ H.length) (hd : ¬ g.D id) :
    OpOk P o act g w H id out := by
  have E : ∀ x, VR g w (ev fr (cx x)) (act.eval x) := fun x => ev_vr F x
  obtain ⟨dst, op, type, pos, after, guard⟩ := o
  cases op with
  | move x =>
    simp only [compI, Option.some.injEq] at hc; subst hc
    simp only [core, Option.some.injEq] at h; subst h
    exact OpOk.value R rfl (E x)
  | assign x =>
    simp only [compI, Option.some.injEq] at hc; subst hc
    simp only [core, Option.some.injEq] at h; subst h
    exact OpOk.value R rfl (E x)
  | pick c a b =>
    simp only [compI, Option.some.injEq] at hc; subst hc
    simp only [core] at h
    obtain ⟨t, h1, rfl⟩ := val_inv h
    have hb := asBool_inv h1
    have hc := E c
    rw [hb] at hc
    refine OpOk.value R ?_ (pick_vr (c := t) (E a) (E b))
    simp [execOp, hc.lit_inv, Go.asBool]
  | alloc t =>
    simp only [compI] at hc
    obtain ⟨z, hz, hc⟩ := Option.bind_eq_some_iff.1 hc
    simp only [Option.some.injEq] at hc; subst hc
    simp only [core, Option.some.injEq] at h; subst h
    obtain ⟨v, w', h1, h2⟩ := alloc_ok R hid hd hz
    exact OpOk.run (by simp [execOp, h1]) h2
  | box t x =>
    simp only [compI] at hc
    obtain ⟨n, hn, hc⟩ := Option.bind_eq_some_iff.1 hc
    simp only [Option.some.injEq] at hc; subst hc
    simp only [core] at h
    by_cases hb : ((cellsOf (ev fr (cx x))).length == n && (cellsOf (ev fr (cx x))).all cellA) = true
    case neg => rw [Bool.eq_false_iff.mpr hb] at h; cases h
    rw [hb] at h
    simp only [cond_true, Option.some.injEq] at h; subst h
    rw [Bool.and_eq_true] at hb
    obtain ⟨v, w', h1, h2⟩ := box_ok (P := P) (t := t) R hid hd (E x) hb.2
    exact OpOk.run (by simp [execOp, h1]) h2
  | build t parts =>
    simp only [compI] at hc
    obtain ⟨z, hz, hc⟩ := Option.bind_eq_some_iff.1 hc
    obtain ⟨inf, v, i1, i2, i3, i4, i5, i6⟩ := zeros_inv hz
    have hq : ∀ (j : Nat) (p : Nat × Operand) (q : Nat × Value), parts.toList[j]? = some p → (parts.map fun (i, x) => (i, act.eval x)).toList[j]? = some q → q = (p.1, act.eval p.2) := by
      intro j p q hp hq
      rw [Array.toList_map, List.getElem?_map, hp] at hq
      simpa using hq.symm
    have fin : ∀ (us : Array Value) (cs : List AV), VRs g w cs us.toList → (Instr.build t (parts.map fun (i, x) => (i, act.eval x))).run P w = .ok (.agg us) w → OpOk P ⟨dst, .build t parts, type, pos, after, guard⟩ act g w H id (.val (.agg cs) none) := by
      intro us cs hv hr
      exact OpOk.val (s := Instr.build t (parts.map fun (i, x) => (i, act.eval x))) R rfl ⟨_, hr, .agg _ _ (by rw [hv.1]; simp) (fun i a v h1 h2 => hv.2 i a v h1 (by simpa using h2))⟩
    split at hc
    · rename_i fs hu
      split at hc
      · rename_i hall
        obtain ⟨ps, hps, hc⟩ := Option.bind_eq_some_iff.1 hc
        simp only [Option.some.injEq] at hc; subst hc
        simp only [core] at h
        obtain ⟨cs, h1, rfl⟩ := val_inv h
        obtain ⟨m1, m2⟩ := mapM_parts hps
        obtain ⟨us, u1, u2, u3⟩ := fill_run (g := g) (w := w) (fun i => (fs.map fun f => (f.offset, (tsize P f.type).getD 0))[i]?) _ ((parts.map fun (i, x) => (i, act.eval x)).toList) z v.cells cs (by simp [m1])
          (fun j p q hp hqq => by
            rw [List.getElem?_map] at hp
            cases hj : ps[j]? with
            | none => rw [hj] at hp; cases hp
            | some y =>
              rw [hj] at hp
              simp only [Option.map_some, Option.some.injEq] at hp; subst hp
              have hjl : j < parts.toList.length := by rw [← m1]; exact (List.getElem?_eq_some_iff.1 hj).1
              obtain ⟨f, f1, f2, f3, f4⟩ := m2 j parts.toList[j] y (List.getElem?_eq_getElem hjl) hj
              have hq' := hq j _ q (List.getElem?_eq_getElem hjl) hqq
              subst hq'
              refine ⟨?_, ?_⟩
              · simp only [Array.getElem?_map, f1, Option.map_some, f3, Option.getD_some, f2]
              · rw [f4]; exact E _) (i5 g w) i6 h1
        refine fin us cs u2 ?_
        simp only [Instr.build, Sem.run_bind, run_underlying hu, Result.andThen_ok, run_places hall, zeroValue, typeInfo, run_program, i1, Sem.run_pure, i2, u1]
      · cases hc
    · rename_i l e hu
      obtain ⟨n, hn, hc⟩ := Option.bind_eq_some_iff.1 hc
      simp only [Option.some.injEq] at hc; subst hc
      simp only [core] at h
      obtain ⟨cs, h1, rfl⟩ := val_inv h
      obtain ⟨us, u1, u2, u3⟩ := fill_run (g := g) (w := w) (fun i => some (i * n, n)) _ ((parts.map fun (i, x) => (i, act.eval x)).toList) z v.cells cs (by simp)
        (fun j p q hp hqq => by
          rw [List.map_map, List.getElem?_map] at hp
          cases hj : parts.toList[j]? with
          | none => rw [hj] at hp; cases hp
          | some y =>
            rw [hj] at hp
            simp only [Option.map_some, Option.some.injEq, Function.comp_apply] at hp; subst hp
            have hq' := hq j _ q hj hqq
            subst hq'
            exact ⟨rfl, E _⟩) (i5 g w) i6 h1
      refine fin us cs u2 ?_
      simp only [Instr.build, Sem.run_bind, run_underlying hu, Result.andThen_ok, run_sizeOf' hn, zeroValue, typeInfo, run_program, i1, Sem.run_pure, i2, u1]
    · cases hc
  | buildSlice t len parts =>
    simp only [compI] at hc
    split at hc
    · rename_i et hu
      obtain ⟨n, hn, hc⟩ := Option.bind_eq_some_iff.1 hc
      obtain ⟨z, hz, hc⟩ := Option.bind_eq_some_iff.1 hc
      split at hc
      · rename_i hh
        simp only [Option.some.injEq] at hc; subst hc
        simp only [Bool.and_eq_true, decide_eq_true_eq] at hh
        simp only [core] at h
        obtain ⟨cs, h1, h⟩ := Option.bind_eq_some_iff.1 h
        obtain ⟨r, w', r1, r2⟩ := bslice_ok R hid hd hu hn hz hh.1 hh.2 F h1 h
        refine OpOk.run (v := r) (w' := w') ?_ r2
        show (do pure (.value (← Instr.buildSlice t len (parts.map fun (i, x) => (i, act.eval x)))) : Sem Next).run P w = _
        simp only [Sem.run_bind, r1, Result.andThen_ok, Sem.run_pure]
      · cases hc
    · cases hc
  | load t a =>
    simp only [compI] at hc
    obtain ⟨n, hn, hc⟩ := Option.bind_eq_some_iff.1 hc
    simp only [Option.some.injEq] at hc; subst hc
    simp only [core] at h
    obtain ⟨r, h1, rfl⟩ := val_inv h
    exact OpOk.val R rfl (load_run R hn (E a) h1)
  | store t a x =>
    simp only [compI] at hc
    obtain ⟨n, hn, hc⟩ := Option.bind_eq_some_iff.1 hc
    simp only [Option.some.injEq] at hc; subst hc
    simp only [core] at h
    obtain ⟨H', h1, rfl⟩ := val_inv h
    obtain ⟨w', r1, r2, r3⟩ := store_ok R hn (E a) (E x) h1
    exact OpOk.skip (w' := w') (by simp [execOp, r1]) ⟨rfl, g, .fv _ _ (.any _), r2, r3⟩
  | nilCheck x =>
    simp only [compI, Option.some.injEq] at hc; subst hc
    simp only [core] at h
    obtain ⟨r, h1, rfl⟩ := val_inv h
    have V := E x
    unfold nilck at h1
    split at h1
    · rename_i q o heq
      rw [heq] at V
      simp only [Option.some.injEq] at h1; subst h1
      exact OpOk.value (v := act.eval x) R (by simp [execOp, V.ptr_inv.1]) V
    · rename_i xs heq
      rw [heq] at V
      simp only [Option.some.injEq] at h1; subst h1
      obtain ⟨ad, f, e, _⟩ := V.ip_inv
      exact OpOk.value (v := act.eval x) R (by simp [execOp, e]) V
    · cases h1
  | binOp op xt x y yt =>
    simp only [compI] at hc
    split at hc
    · simp only [Option.some.injEq] at hc; subst hc
      simp only [core] at h
      obtain ⟨r, h1, rfl⟩ := val_inv h
      exact OpOk.val R rfl (bin_ok xt (E x) (E y) h1 x y)
    · simp only [Option.some.injEq] at hc; subst hc
      simp only [core] at h
      obtain ⟨r, h1, rfl⟩ := val_inv h
      exact OpOk.val R rfl (bin_ok xt (E x) (E y) h1 x y)
    · rename_i hu
      simp only [Option.some.injEq] at hc; subst hc
      simp only [core] at h
      obtain ⟨r, h1, rfl⟩ := val_inv h
      exact OpOk.val R rfl (binb_ok hu (E x) (E y) h1 x y)
    · cases hc
  | unOp op xt x =>
    simp only [compI, Option.some.injEq] at hc; subst hc
    simp only [core] at h
    obtain ⟨r, h1, rfl⟩ := val_inv h
    exact OpOk.val R rfl (un_ok (E x) h1)
  | convert src dstT x =>
    simp only [compI] at hc
    have V := E x
    have L : ∀ v, VR g w (.lit v) v := fun v => .fv _ _ (.lit v)
    split at hc
    · rename_i k' k hs hdt
      simp only [Option.some.injEq] at hc; subst hc
      simp only [core] at h
      split at h <;> first | (cases ‹CK.int k = _›; done) | skip
      · rename_i heq heq2
        cases heq
        rw [heq2] at V
        simp only [Option.some.injEq] at h; subst h
        exact OpOk.val R rfl ⟨_, by rw [V.lit_inv]; simp [convert, run_underlying hs, run_underlying hdt, Conv.intToInt], L _⟩
      · cases h
    · rename_i hs hdt
      simp only [Option.some.injEq] at hc; subst hc
      simp only [core] at h
      split at h <;> first | (cases ‹CK.same = _›; done) | skip
      · rename_i heq heq2
        rw [heq2] at V
        simp only [Option.some.injEq] at h; subst h
        exact OpOk.val R rfl ⟨_, by rw [V.lit_inv]; simp [convert, run_underlying hs, run_underlying hdt], L _⟩
      · cases h
    · rename_i e hs hdt
      split at hc
      · rename_i he
        simp only [Option.some.injEq] at hc; subst hc
        simp only [core] at h
        split at h <;> first | (cases ‹CK.toBytes = _›; done) | skip
        · rename_i s heq heq2
          rw [heq2] at V
          simp only [Option.some.injEq] at h; subst h
          obtain ⟨r, w', r1, r2⟩ := toBytes_ok (P := P) (et := e) (s := s) (id := id) R
          exact OpOk.run (w' := w') (v := r) (by simp only [execOp]; rw [V.lit_inv]; simp [convert, run_underlying hs, run_underlying hdt, run_underlying he, r1]) r2
        · cases h
      · cases hc
    · rename_i e hs hdt
      split at hc
      · rename_i he
        simp only [Option.some.injEq] at hc; subst hc
        simp only [core] at h
        split at h <;> first | (cases ‹CK.ofBytes = _›; done) | skip
        · rename_i e' xs cap heq heq2
          rw [heq2] at V
          obtain ⟨⟨m, cs⟩, g1, h⟩ := Option.bind_eq_some_iff.1 h
          obtain ⟨l, g2, rfl⟩ := val_inv h
          have hsl : ∃ a n c, act.eval x = .slice a n c := by obtain ⟨a, c, f, e, _⟩ := V.sl_inv; exact ⟨a, _, c, e⟩
          have hr := ofBytes_run (P := P) R V hsl g1 g2
          obtain ⟨a, n, c, hv⟩ := hsl
          rw [hv] at hr
          exact OpOk.val R rfl ⟨_, by rw [hv]; simp [convert, run_underlying hs, run_underlying hdt, run_underlying he, hr], L _⟩
        · rename_i r off n e' cap heq heq2
          rw [heq2] at V
          obtain ⟨⟨m, cs⟩, g1, h⟩ := Option.bind_eq_some_iff.1 h
          obtain ⟨l, g2, rfl⟩ := val_inv h
          have hsl : ∃ a n c, act.eval x = .slice a n c := by obtain ⟨a, c, e, _⟩ := V.own_inv; exact ⟨_, _, c, e⟩
          have hr := ofBytes_run (P := P) R V hsl g1 g2
          obtain ⟨a, n, c, hv⟩ := hsl
          rw [hv] at hr
          exact OpOk.val R rfl ⟨_, by rw [hv]; simp [convert, run_underlying hs, run_underlying hdt, run_underlying he, hr], L _⟩
        · cases h
      · cases hc
    · cases hc
  | fieldAddr s x f =>
    simp only [compI] at hc
    split at hc
    · rename_i fs hu
      obtain ⟨fd, hf, hc⟩ := Option.bind_eq_some_iff.1 hc
      obtain ⟨n, hn, hc⟩ := Option.bind_eq_some_iff.1 hc
      split at hc
      · cases hc
      · rename_i h0
        simp only [Option.some.injEq] at hc; subst hc
        simp only [core] at h
        obtain ⟨r, h1, rfl⟩ := val_inv h
        obtain ⟨a, e1, e2⟩ := fadr_vr (E x) h1
        refine OpOk.val R rfl ⟨_, ?_, e2⟩
        rw [e1]
        simp only [Instr.fieldAt, Sem.run_bind, run_underlying hu, Result.andThen_ok, hf, Instr.sureAddr, Sem.run_pure, fieldPlace_run hn h0]
    · cases hc
  | field s x f =>
    simp only [compI] at hc
    split at hc
    · rename_i fs hu
      obtain ⟨fd, hf, hc⟩ := Option.bind_eq_some_iff.1 hc
      obtain ⟨n, hn, hc⟩ := Option.bind_eq_some_iff.1 hc
      simp only [Option.some.injEq] at hc; subst hc
      simp only [core] at h
      have V := E x
      split at h
      · rename_i cs heq
        rw [heq] at V
        obtain ⟨r, h1, rfl⟩ := val_inv h
        obtain ⟨vs, hv, hl, hp⟩ := V.agg_inv
        obtain ⟨z, z1, z2⟩ := part_run hn (VRs.mk' hl hp) h1
        refine OpOk.val R rfl ⟨z, ?_, z2⟩
        rw [hv]
        simp only [Instr.field, Sem.run_bind, run_underlying hu, Result.andThen_ok, hf, asAgg, Sem.run_pure, z1]
      · cases h
    · cases hc
  | indexAddr t x ix =>
    simp only [compI] at hc
    split at hc
    · rename_i e hu
      obtain ⟨n, hn, hc⟩ := Option.bind_eq_some_iff.1 hc
      simp only [Option.some.injEq] at hc; subst hc
      simp only [core] at h
      obtain ⟨r, h1, rfl⟩ := val_inv h
      obtain ⟨a, l, c, k, j, e1, e2, e3, e4⟩ := iadr_vr (E x) (E ix) h1
      refine OpOk.val R rfl ⟨_, ?_, e4⟩
      rw [e1, e2]
      have : (0 : Int) ≤ (j : Int) ∧ (j : Int) < (l : Int) := ⟨by omega, by omega⟩
      simp [Instr.indexAt, asIntOf, run_underlying hu, run_sizeOf' hn, e3]
    · rename_i l e hu
      obtain ⟨n, hn, hc⟩ := Option.bind_eq_some_iff.1 hc
      simp only [Option.some.injEq] at hc; subst hc
      simp only [core] at h
      obtain ⟨j, h1, h⟩ := Option.bind_eq_some_iff.1 h
      obtain ⟨r, h2, rfl⟩ := val_inv h
      obtain ⟨k, e1, e2⟩ := idx_inv (E ix) h1
      obtain ⟨a, e3, e4⟩ := fadr_vr (E x) h2
      refine OpOk.val R rfl ⟨_, ?_, e4⟩
      rw [e1, e3]
      simp [Instr.indexAt, Instr.sureAddr, asIntOf, run_underlying hu, run_sizeOf' hn, e2]
    · cases hc
  | index t x ix =>
    simp only [compI] at hc
    split at hc
    · rename_i hu
      simp only [Option.some.injEq] at hc; subst hc
      simp only [core] at h
      obtain ⟨r, h1, rfl⟩ := val_inv h
      have V := E x
      unfold idxS at h1
      split at h1
      · rename_i s heq
        rw [heq] at V
        obtain ⟨j, h2, h1⟩ := Option.bind_eq_some_iff.1 h1
        obtain ⟨b, h3, h1⟩ := Option.bind_eq_some_iff.1 h1
        simp only [Option.some.injEq] at h1; subst h1
        obtain ⟨k, e1, e2⟩ := idx_inv (E ix) h2
        refine OpOk.val R rfl ⟨.int .u8 b.toNat, ?_, .fv _ _ (.lit _)⟩
        rw [e1, V.lit_inv]
        have hb : s[j]? = some b := by
          have : j < s.size := e2
          rw [getElem?_pos s j this]
          rw [Array.getElem?_eq_getElem (show j < s.data.size from this)] at h3
          exact h3
        simp [Instr.index, asIntOf, run_underlying hu, hb]
      · cases h1
    · rename_i l e hu
      obtain ⟨n, hn, hc⟩ := Option.bind_eq_some_iff.1 hc
      obtain ⟨m, hm, hc⟩ := Option.bind_eq_some_iff.1 hc
      simp only [Option.some.injEq] at hc; subst hc
      simp only [core] at h
      have V := E x
      split at h
      · rename_i cs heq
        rw [heq] at V
        obtain ⟨j, h1, h⟩ := Option.bind_eq_some_iff.1 h
        obtain ⟨r, h2, rfl⟩ := val_inv h
        obtain ⟨k, e1, e2⟩ := idx_inv (E ix) h1
        obtain ⟨vs, hv, hl, hp⟩ := V.agg_inv
        obtain ⟨z, z1, z2⟩ := part_run hm (VRs.mk' hl hp) h2
        refine OpOk.val R rfl ⟨z, ?_, z2⟩
        rw [e1, hv]
        simp [Instr.index, asIntOf, run_underlying hu, run_sizeOf' hn, e2, z1]
      · cases h
    · cases hc
  | slice t x lo hi mx =>
    simp only [compI] at hc
    split at hc
    · rename_i hu
      split at hc
      · simp only [Option.some.injEq] at hc; subst hc
        simp only [core] at h
        obtain ⟨r, h1, rfl⟩ := val_inv h
        exact OpOk.val (s := Instr.sliceAt t (act.eval x) (lo.map act.eval) (hi.map act.eval) none) R rfl (sliceS_run hu (E x) (opt_map_vr F lo) (opt_map_vr F hi) h1)
      · cases hc
    · rename_i e hu
      obtain ⟨n, hn, hc⟩ := Option.bind_eq_some_iff.1 hc
      simp only [Option.some.injEq] at hc; subst hc
      simp only [core] at h
      obtain ⟨r, h1, rfl⟩ := val_inv h
      exact OpOk.val R rfl (slice_run hu hn (E x) (opt_map_vr F lo) (opt_map_vr F hi) (opt_map_vr F mx) h1)
    · cases hc
  | extract t ix =>
    simp only [compI, Option.some.injEq] at hc; subst hc
    simp only [core] at h
    have V := E t
    split at h
    · rename_i xs heq
      rw [heq] at V
      obtain ⟨r, h1, rfl⟩ := val_inv h
      obtain ⟨vs, hv, hl, hp⟩ := V.tup_inv
      have hi : ix < vs.size := by rw [← hl]; exact (List.getElem?_eq_some_iff.1 h1).1
      refine OpOk.val R rfl ⟨vs[ix], ?_, hp ix r _ h1 (by simp [hi])⟩
      rw [hv]
      simp [Instr.extract, hi]
    · cases h
  | call c =>
    simp only [compI] at hc
    exact call_ok rfl CO MT h hc F R hid hd
  | makeSlice t l c =>
    simp only [compI] at hc
    split at hc
    · rename_i e hu
      obtain ⟨inf, hi, hc⟩ := Option.bind_eq_some_iff.1 hc
      obtain ⟨z, hz, hc⟩ := Option.bind_eq_some_iff.1 hc
      simp only [Option.some.injEq] at hc; subst hc
      simp only [core] at h
      have V1 := E l
      have V2 := E c
      split at h
      · rename_i a b heq1 heq2
        rw [heq1] at V1
        rw [heq2] at V2
        by_cases hh : (decide (0 ≤ a) && decide (a ≤ b) && decide (b * inf.bytes ≤ 140737488355328) && decide (b ≤ 140737488355328)) = true
        case neg => rw [Bool.eq_false_iff.mpr hh] at h; cases h
        rw [hh] at h
        simp only [cond_true, Option.some.injEq] at h; subst h
        obtain ⟨r, w', r1, r2⟩ := mks_ok R hid hd hu hi rfl rfl hz V1 V2 hh
        exact OpOk.run (by simp [execOp, r1]) r2
      · cases h
    · cases hc
  | makeInterface t x =>
    simp only [compI] at hc
    split at hc
    · cases hc
    · rename_i d hne hu
      simp only [Option.some.injEq] at hc; subst hc
      simp only [core, Option.some.injEq] at h; subst h
      refine OpOk.val R rfl ⟨_, ?_, .iface _ _ _ (E x)⟩
      exact run_makeInterface w t _ (by unfold Program.concrete; rw [hu]; cases d <;> first | rfl | (exact (hne _ rfl).elim))
    · cases hc
  | typeAssert x xt asserted ok =>
    simp only [compI] at hc
    split at hc
    · cases hc
    · rename_i d hd' hu
      obtain ⟨zv, hz, hc⟩ := Option.bind_eq_some_iff.1 hc
      simp only [Option.some.injEq] at hc; subst hc
      have V := E x
      obtain ⟨inf, i2⟩ : ∃ inf v, P.info? asserted = some inf ∧ inf.zero = some v ∧ zv = ofV 4 v := by
        unfold zeroV at hz
        obtain ⟨inf, i1, hz⟩ := Option.bind_eq_some_iff.1 hz
        obtain ⟨v, i2, hz⟩ := Option.bind_eq_some_iff.1 hz
        simp only [Option.some.injEq] at hz
        exact ⟨inf, v, i1, i2, hz.symm⟩
      obtain ⟨zv0, ie, i3, rfl⟩ : ∃ zv0, P.info? asserted = some inf ∧ inf.zero = some zv0 ∧ zv = ofV 4 zv0 := by obtain ⟨a, b, c, d⟩ := i2; exact ⟨a, b, c, d⟩
      have hz0 : (zeroValue asserted).run P w = .ok zv0 w := by simp [zeroValue, typeInfo, ie, i3]
      have two : ∀ (a : AV) (u : Value) (b : Bool), VR g w a u → VR g w (.tup [a, litB b]) (.tuple #[u, .bool b]) := by
        intro a u b ha
        refine .tup _ _ rfl (fun i c v h1 h2 => ?_)
        cases i with
        | zero => simp at h1 h2; subst h1; subst h2; exact ha
        | succ i =>
          cases i with
          | zero => simp at h1 h2; subst h1; subst h2; exact .fv _ _ (.lit _)
          | succ i => simp at h1
      simp only [core] at h
      split at h
      · rename_i t' v heq
        rw [heq] at V
        obtain ⟨u, hv, hvr⟩ := V.iface_inv
        by_cases ht : asserted = t'
        · subst ht
          simp only [beq_self_eq_true, cond_true, Option.some.injEq] at h; subst h
          refine OpOk.val (s := Instr.typeAssert (act.eval x) xt asserted ok) R rfl ⟨if ok then .tuple #[u, .bool true] else u, ?_, ?_⟩
          · rw [hv]; exact typeAssert_same hu hd' u xt ok
          · cases ok
            · exact hvr
            · exact two _ _ _ hvr
        · rw [beq_of_ne ht] at h
          simp only [cond_false] at h
          cases ok with
          | false => cases h
          | true =>
            simp only [cond_true, Option.some.injEq] at h; subst h
            refine OpOk.val (s := Instr.typeAssert (act.eval x) xt asserted true) R rfl ⟨.tuple #[zv0, .bool false], ?_, two _ _ _ (.fv _ _ (ofV_fv _ _ 4 zv0))⟩
            rw [hv]; exact typeAssert_other hu hd' hz0 u xt (fun e => ht e.symm)
      · rename_i heq
        rw [heq] at V
        have hv := V.lit_inv
        cases ok with
        | false => cases h
        | true =>
          simp only [cond_true, Option.some.injEq] at h; subst h
          refine OpOk.val (s := Instr.typeAssert (act.eval x) xt asserted true) R rfl ⟨.tuple #[zv0, .bool false], ?_, two _ _ _ (.fv _ _ (ofV_fv _ _ 4 zv0))⟩
          rw [hv]; exact typeAssert_nil hu hd' hz0 xt
      · cases h
    · cases hc
  | makeFunc fn first cap =>
    simp only [compI, Option.some.injEq] at hc; subst hc
    simp only [core, Option.some.injEq] at h; subst h
    have V1 := evs_vr F first
    have V2 := evs_vr F cap
    refine OpOk.val R rfl ⟨_, rfl, .fn _ _ _ _ _ (by simp) (fun i a v h1 h2 => V1.2 i a v h1 (by simpa using h2)) (by simp) (fun i a v h1 h2 => V2.2 i a v h1 (by simpa using h2))⟩
  | panic x =>
    simp only [compI, Option.some.injEq] at hc; subst hc
    simp only [core] at h
    have V := E x
    split at h
    · rename_i t v heq
      rw [heq] at V
      simp only [Option.some.injEq] at h; subst h
      obtain ⟨u, hu, _⟩ := V.iface_inv
      exact OpOk.panics (v := act.eval x) (w' := w) (by simp [execOp, Instr.panic, hu]) ⟨rfl, g, V, R, Stp.refl⟩
    · cases h
  | _ => simp [compI] at hc
end
end Go.Ai
