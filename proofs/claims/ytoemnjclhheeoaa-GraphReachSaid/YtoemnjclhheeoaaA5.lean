/- The abstract interpreter: operations that ask no heap. No condition. -/
import Derived.Test.YtoemnjclhheeoaaA4
import Derived.Laws.Strings
namespace Go.Ai
set_option linter.unusedVariables false
set_option linter.unusedSimpArgs false

/-- What an operation leaves. -/
def After (g : G) (w : World) (H : List AO) (id : Nat) : Out → Bool → Value → World → Prop
  | .val a none, p, v, w' => p = false ∧ ∃ g' : G, g'.D = g.D ∧ VR g' w' a v ∧ Rel g' w' H ∧ Stp g w H g' w' H
  | .val a (some o), p, v, w' => p = false ∧ ∃ g' : G, (∀ r, g'.D r → g.D r ∨ r = id) ∧ VR g' w' a v ∧ Rel g' w' (setO H id o) ∧ Stp g w H g' w' (setO H id o)
  | .wr a H', p, v, w' => p = false ∧ ∃ g' : G, VR g' w' a v ∧ Rel g' w' H' ∧ Stp g w H g' w' H'
  | .fz a ids, p, v, w' => p = false ∧ ∃ g' : G, VR g' w' a v ∧ Rel g' w' (killH H ids 0 H) ∧ Stp g w H g' w' (killH H ids 0 H) ∧ ∀ x u, VR g w x u → VR g' w' (kill H ids x) u
  | .pan a H', p, v, w' => p = true ∧ ∃ g' : G, VR g' w' a v ∧ Rel g' w' H' ∧ Stp g w H g' w' H'

def OpOk (P : Program) (o : Oper) (act : Act) (g : G) (w : World) (H : List AO) (id : Nat) (out : Out) : Prop :=
  ∀ (next : Act → World → Prop) (Q : Exit → Act → World → Prop), (∀ v w', After g w H id out false v w' → next (act.put o.dst v) w') →
    (∀ v w', After g w H id out true v w' → Q (.panic [{ v, recovered := false }]) act w') → o.wp P act w next Q

section
variable {P : Program} {o : Oper} {act : Act} {g : G} {w : World} {H : List AO} {id : Nat} {fr : Fr}

theorem OpOk.value {a : AV} {v : Value} (R : Rel g w H) (h : (execOp act.eval o).run P w = .ok (.value v) w) (hv : VR g w a v) : OpOk P o act g w H id (.val a none) := by
  intro next Q hn _
  unfold Oper.wp
  rw [h]
  exact hn v w ⟨rfl, g, rfl, hv, R, Stp.refl⟩

theorem ev_vr (F : FRel g w fr act) (x : Operand) : VR g w (ev fr (cx x)) (act.eval x) := by
  cases x with
  | tmp t => exact F t
  | const v => exact .fv _ _ (ofV_fv _ _ 8 v)
  | global n => exact .fv _ _ (.lit _)
  | func f => exact .fv _ _ (.fn _ _ _ _ _ rfl (by simp) rfl (by simp))

theorem asBool_inv {a : AV} {b : Bool} (h : asBool a = some b) : a = .lit (.bool b) := by
  unfold asBool at h; split at h
  · cases h; rfl
  · cases h

theorem VRs.mk' {xs : List AV} {vs : Array Value} (hl : xs.length = vs.size) (h : ∀ (i : Nat) (a : AV) (v : Value), xs[i]? = some a → vs[i]? = some v → VR g w a v) : VRs g w xs vs.toList :=
  ⟨by simpa using hl, fun i a v h1 h2 => h i a v h1 (by simpa using h2)⟩

theorem VRs.nil : VRs g w [] [] := ⟨rfl, by simp⟩
theorem VRs.cons {a : AV} {v : Value} {xs : List AV} {vs : List Value} (h : VR g w a v) (hs : VRs g w xs vs) : VRs g w (a :: xs) (v :: vs) := by
  refine ⟨by simp [hs.1], fun i b u h1 h2 => ?_⟩
  cases i with
  | zero => simp at h1 h2; subst h1; subst h2; exact h
  | succ i => simp at h1 h2; exact hs.2 i b u h1 h2
theorem VRs.append {xs ys : List AV} {vs us : List Value} (h : VRs g w xs vs) (k : VRs g w ys us) : VRs g w (xs ++ ys) (vs ++ us) := by
  refine ⟨by simp [h.1, k.1], fun i a v h1 h2 => ?_⟩
  rw [List.getElem?_append] at h1 h2
  rw [h.1] at h1
  split at h1
  · rename_i hi; rw [if_pos hi] at h2; exact h.2 i a v h1 h2
  · rename_i hi; rw [if_neg hi] at h2; exact k.2 _ a v h1 h2
theorem VRs.take {xs : List AV} {vs : List Value} (h : VRs g w xs vs) (n : Nat) : VRs g w (xs.take n) (vs.take n) := by
  refine ⟨by simp [h.1], fun i a v h1 h2 => ?_⟩
  rw [List.getElem?_take] at h1 h2
  split at h1
  · rename_i hi; rw [if_pos hi] at h2; exact h.2 i a v h1 h2
  · cases h1
theorem VRs.drop {xs : List AV} {vs : List Value} (h : VRs g w xs vs) (n : Nat) : VRs g w (xs.drop n) (vs.drop n) := by
  refine ⟨by simp [h.1], fun i a v h1 h2 => ?_⟩
  rw [List.getElem?_drop] at h1 h2
  exact h.2 _ a v h1 h2
theorem VRs.map (F : FRel g w fr act) (xs : List Operand) : VRs g w ((xs.map cx).map (ev fr)) (xs.map act.eval) := by
  induction xs with
  | nil => exact VRs.nil
  | cons x xs ih => exact VRs.cons (ev_vr F x) ih
theorem VRs.arr {xs : List AV} {vs : List Value} (h : VRs g w xs vs) : ∀ (i : Nat) (a : AV) (v : Value), xs[i]? = some a → vs.toArray[i]? = some v → VR g w a v :=
  fun i a v h1 h2 => h.2 i a v h1 (by simpa using h2)

/-- A value's cells, on both sides. -/
theorem cells_vr {a : AV} {v : Value} (h : VR g w a v) (hc : (cellsOf a).all cellA = true) : VRs g w (cellsOf a) v.cells.toList ∧ ∀ u ∈ v.cells.toList, u.oneCell' = true := by
  have one : ∀ {a : AV} {v : Value}, VR g w a v → cellA a = true → v.oneCell' = true := by
    intro a v h hc
    cases a with
    | any => simp [cellA] at hc
    | lit u => rw [h.lit_inv]; simpa [cellA] using hc
    | agg xs => simp [cellA] at hc
    | tup xs => simp [cellA] at hc
    | iface t x => obtain ⟨u, rfl, _⟩ := h.iface_inv; rfl
    | fn f x y => obtain ⟨u, u', rfl, _⟩ := h.fn_inv; rfl
    | ptr r off => rw [h.ptr_inv.1]; rfl
    | ip xs => obtain ⟨ad, f, rfl, _⟩ := h.ip_inv; rfl
    | own r off n e cap => obtain ⟨o, c, rfl, _⟩ := h.own_inv; rfl
    | sl e xs cap => obtain ⟨ad, c, f, rfl, _⟩ := h.sl_inv; rfl
  have single : ∀ {a : AV}, cellsOf a = [a] → VR g w a v → cellA a = true → VRs g w (cellsOf a) v.cells.toList ∧ ∀ u ∈ v.cells.toList, u.oneCell' = true := by
    intro a ha h hc
    have ho := one h hc
    have : v.cells = #[v] := by cases v <;> simp_all [Value.cells, Value.oneCell']
    rw [ha, this]
    exact ⟨VRs.cons h VRs.nil, by simpa using ho⟩
  cases a with
  | agg xs =>
    obtain ⟨vs, rfl, hl, hp⟩ := h.agg_inv
    refine ⟨VRs.mk' hl hp, fun u hu => ?_⟩
    simp only [cellsOf] at hc
    obtain ⟨i, hi, rfl⟩ := List.mem_iff_getElem.1 hu
    have hi' : i < xs.length := by simp [Value.cells] at hi; omega
    exact one (hp i xs[i] _ (by simp [hi']) (by simp [Value.cells] at hi ⊢)) (List.all_eq_true.1 hc _ (by simp))
  | any => simp [cellsOf, cellA] at hc
  | tup xs => simp [cellsOf, cellA] at hc
  | lit u => exact single rfl h (by simpa [cellsOf] using hc)
  | iface t x => exact single rfl h rfl
  | fn f x y => exact single rfl h rfl
  | ptr r off => exact single rfl h rfl
  | ip xs => exact single rfl h rfl
  | own r off n e cap => exact single rfl h rfl
  | sl e xs cap => exact single rfl h rfl

theorem pick_vr {c : Bool} {a b : AV} {x y : Value} (ha : VR g w a x) (hb : VR g w b y) : VR g w (pickV c a b) (if c = true then x else y) := by
  unfold pickV
  split
  · rename_i p q
    have h1 := ha.lit_inv; have h2 := hb.lit_inv
    subst h1; subst h2
    cases c
    · exact hb
    · exact ha
  · cases c
    · exact hb
    · exact ha

theorem bin_ok {op : BinOp} {x y r : AV} {u v : Value} (t : TypeId) (hx : VR g w x u) (hy : VR g w y v) (h : bin op x y = some r) (X Y : Operand) :
    ∃ z, (do eqGuard op t X Y u v; binOp op t u v : Sem Value).run P w = .ok z w ∧ VR g w r z := by
  unfold bin at h
  split at h
  · rename_i k a k' b
    have e1 := hx.lit_inv; have e2 := hy.lit_inv
    subst e1; subst e2
    have hg : (eqGuard op t X Y (.int k a) (.int k' b)).run P w = .ok () w := by unfold eqGuard; split <;> simp
    have shift : ∀ op', (op' = BinOp.shl ∨ op' = BinOp.shr) → shiftI op' k a b = some r → ∃ z, (Op.shift op' k a k' b).run P w = .ok z w ∧ VR g w r z := by
      intro op' hop hs
      unfold shiftI at hs
      by_cases hb : b < 0
      · simp [hb] at hs
      · simp only [hb, decide_false, cond_false] at hs
        unfold Op.shift
        rw [if_neg hb]
        rcases hop with rfl | rfl <;> (simp only [Option.some.injEq] at hs; subst hs; exact ⟨_, rfl, .fv _ _ (.lit _)⟩)
    have int : ∀ op', op' ≠ .shl → op' ≠ .shr → op = op' → (bif decide (k = k') then binI op' k a b else none) = some r → ∃ z, (binOp op' t (.int k a) (.int k' b)).run P w = .ok z w ∧ VR g w r z := by
      intro op' h1 h2 _ h
      by_cases hk : k = k'
      case neg => simp [hk] at h
      subst hk
      simp only [decide_true, cond_true] at h
      have L : ∀ v, VR g w (.lit v) v := fun v => .fv _ _ (.lit v)
      cases op' <;> simp only [binI, bitsI, ne_eq, not_true_eq_false, reduceCtorEq, not_false_eq_true] at h h1 h2 <;> simp only [binOp, ne_eq, not_true_eq_false, if_false]
      case quo =>
        by_cases hb : b = 0
        · simp [hb] at h
        · simp only [hb, decide_false, cond_false, Option.some.injEq] at h
          subst h; unfold Op.intDiv; rw [if_neg hb]; exact ⟨_, rfl, L _⟩
      case rem =>
        by_cases hb : b = 0
        · simp [hb] at h
        · simp only [hb, decide_false, cond_false, Option.some.injEq] at h
          subst h; unfold Op.intDiv; rw [if_neg hb]; exact ⟨_, rfl, L _⟩
      all_goals first
        | (simp only [Option.some.injEq] at h; subst h; exact ⟨_, rfl, L _⟩)
        | (cases h; done)
    cases op
    case shl =>
      obtain ⟨z, hz, hr⟩ := shift .shl (.inl rfl) h
      exact ⟨z, by simp only [Sem.run_bind, hg, Result.andThen_ok]; exact hz, hr⟩
    case shr =>
      obtain ⟨z, hz, hr⟩ := shift .shr (.inr rfl) h
      exact ⟨z, by simp only [Sem.run_bind, hg, Result.andThen_ok]; exact hz, hr⟩
    all_goals
      obtain ⟨z, hz, hr⟩ := int _ (by simp) (by simp) rfl h
      exact ⟨z, by simp only [Sem.run_bind, hg, Result.andThen_ok]; exact hz, hr⟩
  · rename_i a b
    have e1 := hx.lit_inv; have e2 := hy.lit_inv
    subst e1; subst e2
    have hg : (eqGuard op t X Y (.string a) (.string b)).run P w = .ok () w := by unfold eqGuard; split <;> simp
    have L : ∀ v, VR g w (.lit v) v := fun v => .fv _ _ (.lit v)
    simp only [Sem.run_bind, hg, Result.andThen_ok]
    cases op <;> simp only [binS] at h <;> simp only [binOp, Op.stringOp, ByteArray.toList_eq]
    case add =>
      by_cases hb : ((a.size + b.size : Nat) : Int) > IntKind.i64.max
      · rw [decide_eq_true hb] at h; cases h
      · rw [decide_eq_false hb] at h
        simp only [cond_false, Option.some.injEq] at h
        subst h; rw [if_neg hb]; exact ⟨_, rfl, L _⟩
    all_goals first
      | (simp only [Option.some.injEq] at h; subst h; exact ⟨_, rfl, L _⟩)
      | (cases h; done)
  · cases h

theorem binb_ok {op : BinOp} {x y r : AV} {u v : Value} {t : TypeId} (ht : P.underlying t = some .bool) (hx : VR g w x u) (hy : VR g w y v) (h : binb op x y = some r) (X Y : Operand) :
    ∃ z, (do eqGuard op t X Y u v; binOp op t u v : Sem Value).run P w = .ok z w ∧ VR g w r z := by
  unfold binb at h
  split at h
  · rename_i a b
    have e1 := hx.lit_inv; have e2 := hy.lit_inv
    subst e1; subst e2
    have hg : (eqGuard op t X Y (.bool a) (.bool b)).run P w = .ok () w := by unfold eqGuard; split <;> simp
    have L : ∀ v, VR g w (.lit v) v := fun v => .fv _ _ (.lit v)
    have he : (Op.equal t (.bool a) (.bool b)).run P w = .ok (a == b) w := by
      unfold Op.equal Op.maxDepth Op.equalIn
      simp [run_underlying ht]
    simp only [Sem.run_bind, hg, Result.andThen_ok]
    cases op <;> simp only [binB] at h <;> simp only [binOp]
    case eql => simp only [Option.some.injEq] at h; subst h; exact ⟨_, by simp [he], L _⟩
    case neq => simp only [Option.some.injEq] at h; subst h; exact ⟨_, by simp [he], L _⟩
    all_goals cases h
  · cases h

theorem un_ok {op : UnOp} {x r : AV} {u : Value} (hx : VR g w x u) (h : unop op x = some r) : ∃ z, (Op.unary op u).run P w = .ok z w ∧ VR g w r z := by
  have L : ∀ v, VR g w (.lit v) v := fun v => .fv _ _ (.lit v)
  unfold unop at h
  split at h
  · have e1 := hx.lit_inv; subst e1
    simp only [Option.some.injEq] at h; subst h; exact ⟨_, rfl, L _⟩
  · have e1 := hx.lit_inv; subst e1
    simp only [bitsI, Option.some.injEq] at h; subst h; exact ⟨_, rfl, L _⟩
  · have e1 := hx.lit_inv; subst e1
    simp only [Option.some.injEq] at h; subst h; exact ⟨_, rfl, L _⟩
  · cases h
end
end Go.Ai
