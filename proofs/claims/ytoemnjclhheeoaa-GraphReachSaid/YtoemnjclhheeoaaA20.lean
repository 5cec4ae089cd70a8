/- The abstract interpreter: whole bodies. No condition. -/
import Derived.Test.YtoemnjclhheeoaaA19
import Derived.LoopN
import Derived.Laws.Sem
namespace Go.Ai
set_option linter.unusedVariables false
set_option linter.unusedSimpArgs false
set_option linter.unusedSectionVars false

section
variable {P : Program} {g : G} {w : World} {H : List AO} {act : Act} {fr : Fr} {call : CallF} {mt : MtF} {md : FuncId → Md} {ow : List Nat} {nt : Nat} {ops : Array Oper}

theorem zip_all {α : Type} {l : List α} {p : α × Nat → Bool} (h : l.zipIdx.all p = true) {i : Nat} {x : α} (hi : l[i]? = some x) : p (x, i) = true := by
  rw [List.all_eq_true] at h
  exact h _ (List.mem_zipIdx_iff_getElem?.2 hi)

theorem drawOk_inv {h : Nat} (hd : drawOk P ops h = true) : h ≤ ops.size ∧
    (∀ (i : Nat) (o : Oper), ops[i]? = some o → ∀ q ∈ preds o, q < i) ∧
    (∀ (i : Nat) (o : Oper) (j : Nat) (o2 : Oper) (d : Nat), ops[i]? = some o → ops[j]? = some o2 → o2.dst = some d → j ≠ i → o.dst ≠ some d ∧ (d ∉ looks ops o ∨ (j < i ∧ j ∈ (anc ops.toList).getD i []) ∨ (i < j ∧ i ∈ (anc ops.toList).getD j []))) ∧
    (∀ (i : Nat) (o : Oper) (q : Nat) (o2 : Oper), ops[i]? = some o → h ≤ i → isN P o.op = false → ops[q]? = some o2 → q < i → isN P o2.op = false → q ∈ (anc ops.toList).getD i []) := by
  unfold drawOk at hd
  simp only [Bool.and_eq_true] at hd
  obtain ⟨⟨h0, h1⟩, h2⟩ := hd
  refine ⟨Nat.le_of_ble_eq_true h0, fun i o ho q hq => ?_, fun i o j o2 d ho ho2 hd2 hne => ?_, fun i o q o2 ho hi hN ho2 hlt hN2 => ?_⟩
  · have := zip_all h1 (i := i) (x := o) (by rwa [Array.getElem?_toList])
    simp only [selfOk, Bool.and_eq_true, List.all_eq_true] at this
    simpa using this.1 q hq
  · have := zip_all h1 (i := i) (x := o) (by rwa [Array.getElem?_toList])
    simp only [selfOk, Bool.and_eq_true] at this
    have := zip_all this.2 (i := j) (x := o2) (by rwa [Array.getElem?_toList])
    simp only [hd2, beq_of_ne hne, Bool.false_or, Bool.and_eq_true, Bool.or_eq_true, Bool.not_eq_true', decide_eq_true_eq, List.contains_iff_mem] at this
    obtain ⟨t1, t2⟩ := this
    refine ⟨fun e => by rw [e] at t1; simp at t1, ?_⟩
    rcases t2 with (t2 | t2) | t2
    · left
      intro hm
      rw [List.contains_iff_mem.2 hm] at t2; cases t2
    · exact .inr (.inl t2)
    · exact .inr (.inr t2)
  · have := zip_all h2 (i := i) (x := o) (by rwa [Array.getElem?_toList])
    simp only [Bool.or_eq_true, decide_eq_true_eq, hN, Bool.false_eq_true, or_false] at this
    rcases this with this | this
    · omega
    · have := zip_all this (i := q) (x := o2) (by rwa [Array.getElem?_toList])
      simp only [Bool.or_eq_true, decide_eq_true_eq, hN2, Bool.false_eq_true, or_false, List.contains_iff_mem] at this
      rcases this with this | this
      · omega
      · exact this

theorem mapM_get {α β : Type} {f : α → Option β} : ∀ {l : List α} {l' : List β}, l.mapM f = some l' → l'.length = l.length ∧ ∀ (i : Nat) (x : α), l[i]? = some x → ∃ y, l'[i]? = some y ∧ f x = some y
  | [], l', h => by
    simp only [List.mapM_nil, Option.pure_def, Option.some.injEq] at h; subst h
    exact ⟨rfl, by simp⟩
  | x :: l, l', h => by
    rw [List.mapM_cons] at h
    obtain ⟨y, h1, h⟩ := Option.bind_eq_some_iff.1 h
    obtain ⟨l2, h2, h⟩ := Option.bind_eq_some_iff.1 h
    simp only [Option.pure_def, Option.some.injEq] at h; subst h
    obtain ⟨e, ih⟩ := mapM_get h2
    refine ⟨by simp [e], fun i z hz => ?_⟩
    cases i with
    | zero => simp only [List.getElem?_cons_zero, Option.some.injEq] at hz; subst hz; exact ⟨y, rfl, h1⟩
    | succ i => simp only [List.getElem?_cons_succ] at hz ⊢; exact ih i z hz

/-- A drawn region. -/
theorem draw_ok {id h : Nat} {l : List O} {fr1 : Fr} {obs : List AO} {s : SR} (fol : P.follows .mixedOrders = true) (CO : CallOk P call) (MT : MtOk P mt) (hc : ops.toList.mapM (compO P ow nt ops) = some l) (hd : drawOk P ops h = true)
    (S : Sit nt g w H fr act) (h1 : runD call mt md H H.length 0 (l.take h) fr = some (fr1, obs))
    (h2 : runT call mt md (l.drop h) fr1 (bif (l.take h).any (fun o => makes md o.i) then H ++ obs else H) = some s) (Q : Exit → Act → World → Prop)
    (hQ : SPost nt g w H Q (match s with | .go fr H => .go fr H | .pan a fr H => .pan a (dropD l fr) H)) : (Code.region id ops true).wp P Q act w := by
  obtain ⟨hn, s1, s2, s3⟩ := drawOk_inv hd
  obtain ⟨hl, hcs⟩ := mapM_get hc
  simp only [Array.length_toList] at hl
  have htl : (l.take h).length = h := by rw [List.length_take]; omega
  obtain ⟨ho, FD, aD, d1, d2, d3⟩ := runD_trace _ _ _ _ _ h1
  obtain ⟨FT, HT, aT, mT, t1, t2, t3, t4⟩ := runT_trace _ _ _ _ h2
  rw [htl] at ho d2
  have hmT : mT ≤ (l.drop h).length := by rcases t4 with ⟨e, _⟩ | ⟨e, _⟩ <;> omega
  rw [List.length_drop] at hmT
  have hFh : FT 0 = FD h := by rw [t1, d2]
  let F : Nat → Fr := fun i => if i < h then FD i else FT (i - h)
  let a : Nat → AV := fun i => if i < h then aD i else aT (i - h)
  let ob : Nat → AO := fun i => obs.getD i .dead
  let HH : Nat → List AO := fun i => HT (i - h)
  have C : DCtx P call mt md ow nt ops h l H fr F a ob HH (h + mT) := by
    refine ⟨CO, MT, fun i o ho' => hcs i o (by rwa [Array.getElem?_toList]), by omega, by omega, s1, s2, s3, ?_, fun i o' hi ho' => ?_, fun i o' hi him ho' => ?_, ?_⟩
    · show (if 0 < h then FD 0 else FT (0 - h)) = fr
      by_cases h0 : 0 < h
      · rw [if_pos h0, d1]
      · have : h = 0 := by omega
        subst this
        rw [if_neg h0, Nat.sub_self, hFh, d1]
    · have hob : obs[i]? = some (ob i) := by
        show obs[i]? = some (obs.getD i .dead)
        rw [List.getD_eq_getElem?_getD, List.getElem?_eq_getElem (by omega)]; rfl
      have := d3 i o' (ob i) (by rw [List.getElem?_take, if_pos hi]; exact ho') hob
      rw [Nat.zero_add] at this
      have e1 : F i = FD i := if_pos hi
      have e2 : F (i + 1) = FD (i + 1) := by
        show (if i + 1 < h then FD (i + 1) else FT (i + 1 - h)) = _
        by_cases h0 : i + 1 < h
        · rw [if_pos h0]
        · have : h = i + 1 := by omega
          rw [if_neg h0, show i + 1 - h = 0 by omega, hFh, this]
      have e3 : a i = aD i := if_pos hi
      rw [e1, e2, e3]; exact this
    · have := t3 (i - h) o' (by omega) (by rw [List.getElem?_drop, show h + (i - h) = i by omega]; exact ho')
      have e1 : F i = FT (i - h) := if_neg (by omega)
      have e2 : F (i + 1) = FT (i - h + 1) := by
        show (if i + 1 < h then FD (i + 1) else FT (i + 1 - h)) = _
        rw [if_neg (by omega), show i + 1 - h = i - h + 1 by omega]
      have e3 : a i = aT (i - h) := if_neg (by omega)
      have e4 : HH (i + 1) = HT (i - h + 1) := by show HT (i + 1 - h) = _; rw [show i + 1 - h = i - h + 1 by omega]
      rw [e1, e2, e3, e4]; exact this
    · have e : HH h = HT 0 := by show HT (h - h) = _; rw [Nat.sub_self]
      rw [e, t2]
      cases hm : (l.take h).any (fun o => makes md o.i) with
      | true =>
        left
        rw [List.any_eq_true] at hm
        obtain ⟨o', h3, h4⟩ := hm
        obtain ⟨i, hi⟩ := List.getElem?_of_mem h3
        rw [List.getElem?_take] at hi
        split at hi
        · rename_i hlt
          refine ⟨⟨i, o', hlt, hi, h4⟩, ?_⟩
          simp only [cond_true]
          congr 1
          apply List.ext_getElem?
          intro j
          by_cases hj : j < h
          · simp only [List.getElem?_map, List.getElem?_range hj, Option.map_some]
            show obs[j]? = some (obs.getD j .dead)
            rw [List.getD_eq_getElem?_getD, List.getElem?_eq_getElem (by omega)]; rfl
          · rw [List.getElem?_eq_none (by omega), List.getElem?_eq_none (by simp; omega)]
        · cases hi
      | false =>
        right
        refine ⟨fun i o' hi ho' => ?_, by simp⟩
        rw [List.any_eq_false] at hm
        have := hm o' (List.mem_of_getElem? (i := i) (by rw [List.getElem?_take, if_pos hi]; exact ho'))
        simpa using this
  refine wp_region_any fol ?_
  have Rw : Rel g { w with drawn := w.drawn + 1 } H := S.rel.world rfl
  have Sw : Stp g w H g { w with drawn := w.drawn + 1 } H := Stp.world rfl rfl rfl rfl
  have hlen : (l.drop h).length = l.length - h := by rw [List.length_drop]
  refine any_ok (g0 := g) (w0 := w) C Q ?_ ops.size (Array.replicate ops.size false) act g _ (H ++ List.replicate h .dead) (by simp) (by simp) ?_
  · rcases t4 with ⟨e1, e2⟩ | ⟨e1, o', b, H', k1, k2, k3, k4⟩
    · left
      refine ⟨by omega, fun g' w' act' hs hS => ?_⟩
      subst e2
      have e3 : F (h + mT) = FT mT := by
        show (if h + mT < h then FD (h + mT) else FT (h + mT - h)) = _
        rw [if_neg (by omega), show h + mT - h = mT by omega]
      have e4 : HH (h + mT) = HT mT := by show HT (h + mT - h) = _; rw [show h + mT - h = mT by omega]
      rw [e4] at hs hS
      rw [e3] at hS
      exact hQ g' w' act' hs hS
    · right
      refine ⟨by omega, o', b, H', ?_, ?_, ?_, fun g' w' act' v hs hS hv => ?_⟩
      · rwa [List.getElem?_drop] at k1
      · have e3 : F (h + mT) = FT mT := by
          show (if h + mT < h then FD (h + mT) else FT (h + mT - h)) = _
          rw [if_neg (by omega), show h + mT - h = mT by omega]
        rw [e3]; exact k3
      · have e3 : F (h + mT) = FT mT := by
          show (if h + mT < h then FD (h + mT) else FT (h + mT - h)) = _
          rw [if_neg (by omega), show h + mT - h = mT by omega]
        have e4 : HH (h + mT) = HT mT := by show HT (h + mT - h) = _; rw [show h + mT - h = mT by omega]
        rw [e3, e4]; exact k4
      · subst k2
        have e3 : F (h + mT) = FT mT := by
          show (if h + mT < h then FD (h + mT) else FT (h + mT - h)) = _
          rw [if_neg (by omega), show h + mT - h = mT by omega]
        rw [e3] at hS
        exact hQ g' w' act' v hs hS hv
  · have nL : ∀ j : Nat, ¬ ((Array.replicate ops.size false)[j]? = some true) := by
      intro j e
      rw [Array.getElem?_replicate] at e
      split at e <;> cases e
    have lv : ∀ r, Live (H ++ List.replicate h AO.dead) r → Live H r := by
      rintro r ⟨cs, t, hr⟩
      by_cases hlt : r < H.length
      · rw [List.getElem?_append_left hlt] at hr; exact ⟨cs, t, hr⟩
      · rw [List.getElem?_append_right (by omega), List.getElem?_replicate] at hr
        split at hr <;> cases hr
    refine ⟨Sw.alike lv, Rw.pad h, S.size, S.defers, fun t => .inr ⟨fun j o hj => absurd hj (nL j), ?_⟩, .inl ⟨fun i o hi => absurd hi (nL i), ⟨List.replicate h .dead, by simp, rfl, fun j _ hj => absurd hj (nL j), fun j hj _ => by rw [List.getElem?_replicate, if_pos hj]⟩, fun j hj => ?_⟩, fun i hi => absurd hi (nL i), fun j o hj => absurd hj (nL j)⟩
    · exact Sw.vr (S.fr t)
    · have := Rw.dom _ hj; omega

/-- What is to hold behind a body's part. -/
def EPost (nt : Nat) (g : G) (w : World) (H : List AO) (Q : Exit → Act → World → Prop) (s : Ai.S) : Prop :=
  match s.1 with
  | .normal => ∀ g' w' act', Stp g w H g' w' s.2.2 → Sit nt g' w' s.2.2 s.2.1 act' → Q .normal act' w'
  | .exit id => ∀ g' w' act', Stp g w H g' w' s.2.2 → Sit nt g' w' s.2.2 s.2.1 act' → Q (.exit id) act' w'
  | .ret => ∀ g' w' act', Stp g w H g' w' s.2.2 → Sit nt g' w' s.2.2 s.2.1 act' → Q .ret act' w'
  | .pan a => ∀ g' w' act' v, Stp g w H g' w' s.2.2 → Sit nt g' w' s.2.2 s.2.1 act' → VR g' w' a v → Q (.panic [{ v, recovered := false }]) act' w'

theorem EPost.step {g1 : G} {w1 : World} {H1 : List AO} {Q : Exit → Act → World → Prop} {s : Ai.S} (h : EPost nt g w H Q s) (st : Stp g w H g1 w1 H1) : EPost nt g1 w1 H1 Q s := by
  unfold EPost at h ⊢
  split at h
  · exact fun g' w' act' h1 h2 => h g' w' act' (st.trans h1) h2
  · exact fun g' w' act' h1 h2 => h g' w' act' (st.trans h1) h2
  · exact fun g' w' act' h1 h2 => h g' w' act' (st.trans h1) h2
  · exact fun g' w' act' v h1 h2 h3 => h g' w' act' v (st.trans h1) h2 h3

theorem Sit.keep (S : Sit nt g w H fr act) (l : List Nat) : Sit nt g w H (Ai.keep l fr) act := ⟨S.rel, S.fr.keep l, S.size, S.defers⟩

theorem loop_ok {body : Fr → List AO → Option Ai.S} {x : Code} {l : List Nat}
    (hb : ∀ fr H s g w act, Sit nt g w H fr act → body fr H = some s → ∀ Q, EPost nt g w H Q s → x.wp P Q act w) :
    ∀ (n : Nat) (fr : Fr) (H : List AO) (s : Ai.S) (g : G) (w : World) (act : Act), Sit nt g w H fr act → loopN body l n fr H = some s → ∀ Q, EPost nt g w H Q s → (∀ h : s.1 = .normal, False) → Code.rounds P x Q n act w := by
  intro n
  induction n with
  | zero => intro fr H s g w act S h; cases h
  | succ n ih =>
    intro fr H s g w act S h Q hQ hne
    simp only [loopN] at h
    obtain ⟨s1, h1, h⟩ := Option.bind_eq_some_iff.1 h
    rw [rounds_succ]
    refine hb _ _ s1 g w act (S.keep l) h1 _ ?_
    obtain ⟨e, fr1, H1⟩ := s1
    cases e with
    | normal => exact fun g' w' act' st S' => ih fr1 H1 s g' w' act' S' h Q (hQ.step st) hne
    | exit id => simp only [Option.some.injEq] at h; subst h; exact hQ
    | ret => simp only [Option.some.injEq] at h; subst h; exact hQ
    | pan a => simp only [Option.some.injEq] at h; subst h; exact hQ

theorem loop_ne {body : Fr → List AO → Option Ai.S} {l : List Nat} : ∀ (n : Nat) (fr : Fr) (H : List AO) (s : Ai.S), loopN body l n fr H = some s → s.1 = .normal → False := by
  intro n
  induction n with
  | zero => intro fr H s h; cases h
  | succ n ih =>
    intro fr H s h hs
    simp only [loopN] at h
    obtain ⟨s1, h1, h⟩ := Option.bind_eq_some_iff.1 h
    obtain ⟨e, fr1, H1⟩ := s1
    cases e with
    | normal => exact ih _ _ _ h hs
    | exit id => simp only [Option.some.injEq] at h; subst h; cases hs
    | ret => simp only [Option.some.injEq] at h; subst h; cases hs
    | pan a => simp only [Option.some.injEq] at h; subst h; cases hs

theorem code_ok {A : Ann} {k : Nat} (fol : P.follows .mixedOrders = true) (CO : CallOk P call) (MT : MtOk P mt) : ∀ (x : Code) (b : Nat) (c : C), comp P A nt b x = some c →
    ∀ (fr : Fr) (H : List AO) (s : Ai.S) (g : G) (w : World) (act : Act), Sit nt g w H fr act → code call mt md k c fr H = some s → ∀ Q, EPost nt g w H Q s → x.wp P Q act w := by
  intro x
  induction x with
  | skip =>
    intro b c hc fr H s g w act S h Q hQ
    simp only [comp, Option.some.injEq] at hc; subst hc
    simp only [code, Option.some.injEq] at h; subst h
    exact wp_skip (hQ g w act Stp.refl S)
  | region id ops draw =>
    intro b c hc fr H s g w act S h Q hQ
    simp only [comp] at hc
    obtain ⟨l, hl, hc⟩ := Option.bind_eq_some_iff.1 hc
    cases draw with
    | false =>
      simp only [Option.some.injEq] at hc; subst hc
      simp only [code] at h
      obtain ⟨s1, h1, h⟩ := Option.bind_eq_some_iff.1 h
      refine wp_region_list (run_ok CO MT ops.toList l fr H s1 g w act hl S h1 ?_)
      cases s1 with
      | go fr1 H1 => simp only [Option.some.injEq] at h; subst h; exact fun g' w' act' st S' => hQ g' w' act' st (S'.keep _)
      | pan a fr1 H1 => simp only [Option.some.injEq] at h; subst h; exact hQ
    | true =>
      simp only at hc
      by_cases hd : drawOk P ops (A.head id) = true
      case neg => rw [if_neg hd] at hc; cases hc
      rw [if_pos hd] at hc
      simp only [Option.some.injEq] at hc; subst hc
      simp only [code] at h
      obtain ⟨⟨fr1, obs⟩, h1, h⟩ := Option.bind_eq_some_iff.1 h
      obtain ⟨s1, h2, h⟩ := Option.bind_eq_some_iff.1 h
      refine draw_ok fol CO MT hl hd S h1 h2 Q ?_
      cases s1 with
      | go fr1 H1 => simp only [Option.some.injEq] at h; subst h; exact fun g' w' act' st S' => hQ g' w' act' st (S'.keep _)
      | pan a fr1 H1 =>
        simp only [Option.some.injEq, List.take_append_drop] at h; subst h; exact hQ
  | seq x y ihx ihy =>
    intro b c hc fr H s g w act S h Q hQ
    simp only [comp] at hc
    obtain ⟨c1, h1, hc⟩ := Option.bind_eq_some_iff.1 hc
    obtain ⟨c2, h2, hc⟩ := Option.bind_eq_some_iff.1 hc
    simp only [Option.some.injEq] at hc; subst hc
    simp only [code] at h
    obtain ⟨s1, h3, h⟩ := Option.bind_eq_some_iff.1 h
    refine wp_seq (ihx b c1 h1 fr H s1 g w act S h3 _ ?_)
    obtain ⟨e, fr1, H1⟩ := s1
    cases e with
    | normal => exact fun g' w' act' st S' => ihy b c2 h2 fr1 H1 s g' w' act' S' h Q (hQ.step st)
    | exit id => simp only [Option.some.injEq] at h; subst h; exact hQ
    | ret => simp only [Option.some.injEq] at h; subst h; exact hQ
    | pan a => simp only [Option.some.injEq] at h; subst h; exact hQ
  | cond o x y ihx ihy =>
    intro b c hc fr H s g w act S h Q hQ
    simp only [comp] at hc
    obtain ⟨c1, h1, hc⟩ := Option.bind_eq_some_iff.1 hc
    obtain ⟨c2, h2, hc⟩ := Option.bind_eq_some_iff.1 hc
    simp only [Option.some.injEq] at hc; subst hc
    simp only [code] at h
    obtain ⟨t, h3, h⟩ := Option.bind_eq_some_iff.1 h
    have hv := ev_vr S.fr o
    rw [asBool_inv h3] at hv
    have hv := hv.lit_inv
    cases t with
    | true =>
      simp only [cond_true] at h
      exact wp_cond hv (by simpa using ihx b c1 h1 fr H s g w act S h Q hQ)
    | false =>
      simp only [cond_false] at h
      exact wp_cond hv (by simpa using ihy b c2 h2 fr H s g w act S h Q hQ)
  | block id x ih =>
    intro b c hc fr H s g w act S h Q hQ
    simp only [comp] at hc
    obtain ⟨c1, h1, hc⟩ := Option.bind_eq_some_iff.1 hc
    simp only [Option.some.injEq] at hc; subst hc
    simp only [code] at h
    obtain ⟨s1, h3, h⟩ := Option.bind_eq_some_iff.1 h
    refine wp_block (ih id c1 h1 fr H s1 g w act S h3 _ ?_)
    obtain ⟨e, fr1, H1⟩ := s1
    cases e with
    | normal => simp only [Option.some.injEq] at h; subst h; exact hQ
    | exit id' =>
      simp only at h
      cases hb : id' == id with
      | true =>
        rw [hb] at h
        simp only [cond_true, Option.some.injEq] at h; subst h
        have : id' = id := by simpa using hb
        subst this
        intro g' w' act' st S'
        simp only [Exit.inBlock, if_true]
        exact hQ g' w' act' st S'
      | false =>
        rw [hb] at h
        simp only [cond_false, Option.some.injEq] at h; subst h
        have : ¬ id' = id := by simpa using hb
        intro g' w' act' st S'
        simp only [Exit.inBlock, if_neg this]
        exact hQ g' w' act' st S'
    | ret => simp only [Option.some.injEq] at h; subst h; exact hQ
    | pan a => simp only [Option.some.injEq] at h; subst h; exact hQ
  | loop x ih =>
    intro b c hc fr H s g w act S h Q hQ
    simp only [comp] at hc
    obtain ⟨c1, h1, hc⟩ := Option.bind_eq_some_iff.1 hc
    simp only [Option.some.injEq] at hc; subst hc
    simp only [code] at h
    exact wp_loop_rounds k (loop_ok (fun fr H s g w act S hs Q hQ => ih b c1 h1 fr H s g w act S hs Q hQ) k fr H s g w act S h Q hQ (loop_ne k fr H s h))
  | exit id =>
    intro b c hc fr H s g w act S h Q hQ
    simp only [comp, Option.some.injEq] at hc; subst hc
    simp only [code, Option.some.injEq] at h; subst h
    exact wp_exit (hQ g w act Stp.refl S)
  | ret =>
    intro b c hc fr H s g w act S h Q hQ
    simp only [comp, Option.some.injEq] at hc; subst hc
    simp only [code, Option.some.injEq] at h; subst h
    exact wp_ret (hQ g w act Stp.refl S)
  | _ => intro b c hc; simp [comp] at hc
end
end Go.Ai
