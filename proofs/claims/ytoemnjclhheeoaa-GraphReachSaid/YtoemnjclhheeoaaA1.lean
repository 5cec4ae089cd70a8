/- The abstract interpreter: how abstract values, heaps and frames stand for the machine's. No condition. -/
import Derived.Test.YtoemnjclhheeoaaA0
import Derived.Below
import Derived.Laws.AppendOwn
namespace Go.Ai
set_option linter.unusedVariables false

/-- S: the blocks that are written no more; D: the objects that have been named; ρ: an object's block; σ: how many cells that has. -/
structure G where
  S : Nat → Prop
  D : Nat → Prop
  ρ : Nat → Nat
  σ : Nat → Nat

inductive FV (S : Nat → Prop) (w : World) : AV → Value → Prop
  | any (v : Value) : FV S w .any v
  | lit (v : Value) : FV S w (.lit v) v
  | agg (xs : List AV) (vs : Array Value) (hl : xs.length = vs.size) (h : ∀ (i : Nat) (a : AV) (v : Value), xs[i]? = some a → vs[i]? = some v → FV S w a v) : FV S w (.agg xs) (.agg vs)
  | tup (xs : List AV) (vs : Array Value) (hl : xs.length = vs.size) (h : ∀ (i : Nat) (a : AV) (v : Value), xs[i]? = some a → vs[i]? = some v → FV S w a v) : FV S w (.tup xs) (.tuple vs)
  | iface (t : TypeId) (a : AV) (v : Value) (h : FV S w a v) : FV S w (.iface t a) (.iface t v)
  | fn (f : Fn) (xs ys : List AV) (vs us : Array Value) (hl : xs.length = vs.size) (h : ∀ (i : Nat) (a : AV) (v : Value), xs[i]? = some a → vs[i]? = some v → FV S w a v)
      (hl' : ys.length = us.size) (h' : ∀ (i : Nat) (a : AV) (v : Value), ys[i]? = some a → us[i]? = some v → FV S w a v) : FV S w (.fn f xs ys) (.func f vs us)
  | ip (xs : List AV) (ad : Addr) (f : Nat → Value) (hS : xs ≠ [] → S ad.block) (hc : ∀ k, k < xs.length → w.cell? (ad.add k) = some (f k)) (ho : ∀ k, k < xs.length → (f k).oneCell' = true)
      (h : ∀ (k : Nat) (a : AV), xs[k]? = some a → FV S w a (f k)) : FV S w (.ip xs) (.pointer (some ad))
  | sl (e : Nat) (xs : List (List AV)) (cap : Option Nat) (a : Option Addr) (c : Nat) (f : Nat → Nat → Value) (hn : xs.length ≤ c) (hcap : ∀ k, cap = some k → c = k)
      (he : ∀ x ∈ xs, x.length = e)
      (hc : xs ≠ [] → ∃ ad, a = some ad ∧ (0 < e → S ad.block) ∧ ∀ j k, j < xs.length → k < e → w.cell? (ad.add (j * e + k)) = some (f j k))
      (ho : ∀ j k, j < xs.length → k < e → (f j k).oneCell' = true)
      (h : ∀ (j : Nat) (x : List AV) (k : Nat) (b : AV), xs[j]? = some x → x[k]? = some b → FV S w b (f j k)) : FV S w (.sl e xs cap) (.slice a xs.length c)

inductive VR (g : G) (w : World) : AV → Value → Prop
  | fv (a : AV) (v : Value) (h : FV g.S w a v) : VR g w a v
  | agg (xs : List AV) (vs : Array Value) (hl : xs.length = vs.size) (h : ∀ (i : Nat) (a : AV) (v : Value), xs[i]? = some a → vs[i]? = some v → VR g w a v) : VR g w (.agg xs) (.agg vs)
  | tup (xs : List AV) (vs : Array Value) (hl : xs.length = vs.size) (h : ∀ (i : Nat) (a : AV) (v : Value), xs[i]? = some a → vs[i]? = some v → VR g w a v) : VR g w (.tup xs) (.tuple vs)
  | iface (t : TypeId) (a : AV) (v : Value) (h : VR g w a v) : VR g w (.iface t a) (.iface t v)
  | fn (f : Fn) (xs ys : List AV) (vs us : Array Value) (hl : xs.length = vs.size) (h : ∀ (i : Nat) (a : AV) (v : Value), xs[i]? = some a → vs[i]? = some v → VR g w a v)
      (hl' : ys.length = us.size) (h' : ∀ (i : Nat) (a : AV) (v : Value), ys[i]? = some a → us[i]? = some v → VR g w a v) : VR g w (.fn f xs ys) (.func f vs us)
  | ptr (r off : Nat) (hr : g.D r) : VR g w (.ptr r off) (.pointer (some ⟨g.ρ r, off, none⟩))
  | own (r off n e : Nat) (cap : Option Nat) (o c : Nat) (hr : g.D r) (hn : n ≤ c) (hcap : ∀ k, cap = some k → c = k) (ho : c ≠ 0 → o = off)
      (hs : c ≠ 0 → off + c * e ≤ g.σ r) : VR g w (.own r off n e cap) (.slice (some ⟨g.ρ r, o, none⟩) n c)

/-- Lists of values. -/
def VRs (g : G) (w : World) (xs : List AV) (vs : List Value) : Prop := xs.length = vs.length ∧ ∀ (i : Nat) (a : AV) (v : Value), xs[i]? = some a → vs[i]? = some v → VR g w a v
def FVs (S : Nat → Prop) (w : World) (xs : List AV) (vs : List Value) : Prop := xs.length = vs.length ∧ ∀ (i : Nat) (a : AV) (v : Value), xs[i]? = some a → vs[i]? = some v → FV S w a v

theorem FV.mono {S S' : Nat → Prop} {w w' : World} {a : AV} {v : Value} (h : FV S w a v) (hS : ∀ b, S b → S' b) (hw : ∀ b, S b → w'.heap[b]? = w.heap[b]?) : FV S' w' a v := by
  induction h with
  | any v => exact .any v
  | lit v => exact .lit v
  | agg xs vs hl _ ih => exact .agg xs vs hl ih
  | tup xs vs hl _ ih => exact .tup xs vs hl ih
  | iface t a v _ ih => exact .iface t a v ih
  | fn f xs ys vs us hl _ hl' _ ih ih' => exact .fn f xs ys vs us hl ih hl' ih'
  | ip xs ad f h1 hc ho _ ih =>
    refine .ip xs ad f (fun hx => hS _ (h1 hx)) (fun k hk => ?_) ho ih
    have hx : xs ≠ [] := by intro e; subst e; simp at hk
    rw [← hc k hk]
    refine World.cell?_of_block ?_
    have : (ad.add k).block = ad.block := by unfold Addr.add; split <;> rfl
    rw [this]; exact hw _ (h1 hx)
  | sl e xs cap a c f hn hcap he hc ho _ ih =>
    refine .sl e xs cap a c f hn hcap he (fun hx => ?_) ho ih
    obtain ⟨ad, rfl, h1, h2⟩ := hc hx
    refine ⟨ad, rfl, fun h => hS _ (h1 h), fun j k hj hk => ?_⟩
    rw [← h2 j k hj hk]
    refine World.cell?_of_block ?_
    have : (ad.add (j * e + k)).block = ad.block := by unfold Addr.add; split <;> rfl
    rw [this]; exact hw _ (h1 (by omega))

def Live (H : List AO) (r : Nat) : Prop := ∃ cs t, H[r]? = some (.row cs t)

/-- How the heap of objects lies in the machine's. -/
structure Rel (g : G) (w : World) (H : List AO) : Prop where
  lt : ∀ b, g.S b → b < w.heap.size
  obj : ∀ r cs t, H[r]? = some (.row cs t) → ∃ arr, w.heap[g.ρ r]? = some (.cells arr t (0, 0)) ∧ arr.size = g.σ r ∧ cs.length ≤ arr.size ∧
    (∀ (j : Nat) (a : AV) (v : Value), cs[j]? = some a → arr[j]? = some v → VR g w a v) ∧ (∀ (j : Nat) (v : Value), arr[j]? = some v → v.oneCell' = true) ∧ ¬ g.S (g.ρ r)
  inj : ∀ r r', Live H r → Live H r' → g.ρ r = g.ρ r' → r = r'
  dom : ∀ r, g.D r → r < H.length
  lv : ∀ r, Live H r → g.D r

/-- One step of the machine, as it looks from here. -/
structure Stp (g : G) (w : World) (H : List AO) (g' : G) (w' : World) (H' : List AO) : Prop where
  os : w'.os = w.os
  tape : w'.tape = w.tape
  output : w'.output = w.output
  size : w.heap.size ≤ w'.heap.size
  S : ∀ b, g.S b → g'.S b
  D : ∀ r, g.D r → g'.D r
  ρ : ∀ r, g.D r → g'.ρ r = g.ρ r
  σ : ∀ r, g.D r → g'.σ r = g.σ r
  keep : ∀ b, b < w.heap.size → (∀ r, Live H r → g.ρ r ≠ b) → w'.heap[b]? = w.heap[b]?
  frz : ∀ b, g.S b → w'.heap[b]? = w.heap[b]?
  live : ∀ r, Live H' r → (∃ r0, Live H r0 ∧ g.ρ r0 = g'.ρ r) ∨ w.heap.size ≤ g'.ρ r
  fro : ∀ b, g'.S b → g.S b ∨ (∃ r0, Live H r0 ∧ g.ρ r0 = b) ∨ w.heap.size ≤ b

theorem VR.mono {g g' : G} {w w' : World} {a : AV} {v : Value} (h : VR g w a v) (hS : ∀ b, g.S b → g'.S b) (hN : ∀ r, g.D r → g'.D r) (hρ : ∀ r, g.D r → g'.ρ r = g.ρ r)
    (hσ : ∀ r, g.D r → g'.σ r = g.σ r) (hw : ∀ b, g.S b → w'.heap[b]? = w.heap[b]?) : VR g' w' a v := by
  induction h with
  | fv a v h => exact .fv a v (h.mono hS hw)
  | agg xs vs hl _ ih => exact .agg xs vs hl ih
  | tup xs vs hl _ ih => exact .tup xs vs hl ih
  | iface t a v _ ih => exact .iface t a v ih
  | fn f xs ys vs us hl _ hl' _ ih ih' => exact .fn f xs ys vs us hl ih hl' ih'
  | ptr r off hr => rw [← hρ r hr]; exact .ptr r off (hN r hr)
  | own r off n e cap o c hr hn hcap ho hs => rw [← hρ r hr]; exact .own r off n e cap o c (hN r hr) hn hcap ho (by rw [hσ r hr]; exact hs)

theorem Stp.vr {g g' : G} {w w' : World} {H H' : List AO} (s : Stp g w H g' w' H') {a : AV} {v : Value} (h : VR g w a v) : VR g' w' a v :=
  h.mono s.S s.D s.ρ s.σ s.frz

theorem Stp.refl {g : G} {w : World} {H : List AO} : Stp g w H g w H :=
  ⟨rfl, rfl, rfl, Nat.le_refl _, fun _ h => h, fun _ h => h, fun _ _ => rfl, fun _ _ => rfl, fun _ _ _ => rfl, fun _ _ => rfl, fun r h => .inl ⟨r, h, rfl⟩, fun _ h => .inl h⟩

theorem Stp.trans {g g1 g2 : G} {w w1 w2 : World} {H H1 H2 : List AO} (a : Stp g w H g1 w1 H1) (b : Stp g1 w1 H1 g2 w2 H2) : Stp g w H g2 w2 H2 where
  os := b.os.trans a.os
  tape := b.tape.trans a.tape
  output := b.output.trans a.output
  size := Nat.le_trans a.size b.size
  S := fun x h => b.S x (a.S x h)
  D := fun r h => b.D r (a.D r h)
  ρ := fun r h => (b.ρ r (a.D r h)).trans (a.ρ r h)
  σ := fun r h => (b.σ r (a.D r h)).trans (a.σ r h)
  keep := fun x hx hl => by
    refine (b.keep x (Nat.lt_of_lt_of_le hx a.size) fun r hr e => ?_).trans (a.keep x hx hl)
    rcases a.live r hr with ⟨r0, h0, h1⟩ | h
    · exact hl r0 h0 (h1.trans e)
    · omega
  frz := fun x h => (b.frz x (a.S x h)).trans (a.frz x h)
  live := fun r hr => by
    rcases b.live r hr with ⟨r0, h0, h1⟩ | h
    · rcases a.live r0 h0 with ⟨r1, h2, h3⟩ | h
      · exact .inl ⟨r1, h2, h3.trans h1⟩
      · exact .inr (h1 ▸ h)
    · exact .inr (Nat.le_trans a.size h)
  fro := fun x hx => by
    rcases b.fro x hx with h | ⟨r0, h0, h1⟩ | h
    · exact a.fro x h
    · rcases a.live r0 h0 with ⟨r1, h2, h3⟩ | h
      · exact .inr (.inl ⟨r1, h2, h3.trans h1⟩)
      · exact .inr (.inr (h1 ▸ h))
    · exact .inr (.inr (Nat.le_trans a.size h))

/-- A frame. -/
def FRel (g : G) (w : World) (fr : Fr) (a : Act) : Prop := ∀ t, VR g w (get fr t) (a.tmps.getD t undef)

theorem FRel.step {g g' : G} {w w' : World} {H H' : List AO} {fr : Fr} {a : Act} (h : FRel g w fr a) (s : Stp g w H g' w' H') : FRel g' w' fr a := fun t => s.vr (h t)

theorem beq_of_ne {a b : Nat} (h : ¬ a = b) : (a == b) = false := by simpa using h
theorem get_put (fr : Fr) (t : Nat) (a : AV) (u : Nat) : get (put fr t a) u = if t = u then a else get fr u := by
  induction fr with
  | nil => simp only [Ai.put, get]; by_cases h : t = u <;> simp [h, beq_of_ne]
  | cons p r ih =>
    obtain ⟨k, b⟩ := p
    simp only [Ai.put]
    by_cases h1 : Nat.blt t k = true
    · rw [h1]; simp only [cond_true, get]
      by_cases h : t = u <;> simp [h, beq_of_ne]
    · rw [Bool.eq_false_iff.mpr h1]; simp only [cond_false]
      by_cases h2 : k = t
      · subst h2; simp only [beq_self_eq_true, cond_true, get]
        by_cases h : k = u <;> simp [h, beq_of_ne]
      · rw [beq_of_ne h2]; simp only [cond_false, get, ih]
        by_cases h : k = u
        · subst h; simp [Ne.symm h2]
        · simp [beq_of_ne h]

theorem FRel.put {g : G} {w : World} {fr : Fr} {a : Act} (h : FRel g w fr a) (d : Option Nat) (x : AV) (v : Value) (hv : VR g w x v) (hd : ∀ t, d = some t → t < a.tmps.size) :
    FRel g w (putD fr d x) (a.put d v) := by
  intro t
  cases d with
  | none => exact h t
  | some d =>
    simp only [putD, get_put, Act.put]
    have hd' := hd d rfl
    by_cases e : d = t
    · subst e; simp [hd', hv]
    · simp only [e, if_false]
      rw [Array.getD_eq_getD_getElem?, Array.getElem?_setIfInBounds_ne e, ← Array.getD_eq_getD_getElem?]; exact h t

theorem put_size (a : Act) (d : Option Nat) (v : Value) : (a.put d v).tmps.size = a.tmps.size := by cases d <;> simp [Act.put]
theorem put_defers (a : Act) (d : Option Nat) (v : Value) : (a.put d v).defers = a.defers := by cases d <;> simp [Act.put]

theorem get_keep (l : List Nat) (fr : Fr) (t : Nat) : get (keep l fr) t = get fr t ∨ get (keep l fr) t = .any := by
  induction fr with
  | nil => exact .inl rfl
  | cons p r ih =>
    obtain ⟨k, b⟩ := p
    unfold keep at ih ⊢
    simp only [List.filter_cons]
    by_cases hk : l.contains k = true
    · rw [if_pos hk]; simp only [get]
      by_cases e : k = t
      · simp [e]
      · rw [show (k == t) = false by simpa using e]; simp only [cond_false]; exact ih
    · rw [if_neg hk]; simp only [get]
      by_cases e : k = t
      · subst e
        right
        clear ih
        induction r with
        | nil => rfl
        | cons q r ih =>
          obtain ⟨k', b'⟩ := q
          simp only [List.filter_cons]
          by_cases hk' : l.contains k' = true
          · rw [if_pos hk']; simp only [get]
            have : k' ≠ k := by intro e; subst e; exact hk hk'
            rw [show (k' == k) = false by simpa using this]; exact ih
          · rw [if_neg hk']; exact ih
      · rw [show (k == t) = false by simpa using e]; simp only [cond_false]; exact ih

theorem FRel.keep {g : G} {w : World} {fr : Fr} {a : Act} (h : FRel g w fr a) (l : List Nat) : FRel g w (Ai.keep l fr) a := by
  intro t
  rcases get_keep l fr t with e | e
  · rw [e]; exact h t
  · rw [e]; exact .fv _ _ (.any _)

/-! ### What a value of a form is -/
section
variable {g : G} {w : World} {u : Value}
theorem VR.lit_inv {v : Value} (h : VR g w (.lit v) u) : u = v := by
  cases h with
  | fv _ _ h => cases h; rfl
theorem VR.int_inv {k : IntKind} {n : Int} (h : VR g w (.lit (.int k n)) u) : u = .int k n := h.lit_inv
theorem VR.agg_inv {xs : List AV} (h : VR g w (.agg xs) u) : ∃ vs, u = .agg vs ∧ xs.length = vs.size ∧ ∀ (i : Nat) (a : AV) (v : Value), xs[i]? = some a → vs[i]? = some v → VR g w a v := by
  cases h with
  | fv _ _ h => cases h with
    | agg _ vs hl h => exact ⟨vs, rfl, hl, fun i a v h1 h2 => .fv _ _ (h i a v h1 h2)⟩
  | agg _ vs hl h => exact ⟨vs, rfl, hl, h⟩
theorem VR.tup_inv {xs : List AV} (h : VR g w (.tup xs) u) : ∃ vs, u = .tuple vs ∧ xs.length = vs.size ∧ ∀ (i : Nat) (a : AV) (v : Value), xs[i]? = some a → vs[i]? = some v → VR g w a v := by
  cases h with
  | fv _ _ h => cases h with
    | tup _ vs hl h => exact ⟨vs, rfl, hl, fun i a v h1 h2 => .fv _ _ (h i a v h1 h2)⟩
  | tup _ vs hl h => exact ⟨vs, rfl, hl, h⟩
theorem VR.iface_inv {t : TypeId} {a : AV} (h : VR g w (.iface t a) u) : ∃ v, u = .iface t v ∧ VR g w a v := by
  cases h with
  | fv _ _ h => cases h with
    | iface _ _ v h => exact ⟨v, rfl, .fv _ _ h⟩
  | iface _ _ v h => exact ⟨v, rfl, h⟩
theorem VR.fn_inv {f : Fn} {xs ys : List AV} (h : VR g w (.fn f xs ys) u) : ∃ vs us, u = .func f vs us ∧ xs.length = vs.size ∧ (∀ (i : Nat) (a : AV) (v : Value), xs[i]? = some a → vs[i]? = some v → VR g w a v) ∧
    ys.length = us.size ∧ (∀ (i : Nat) (a : AV) (v : Value), ys[i]? = some a → us[i]? = some v → VR g w a v) := by
  cases h with
  | fv _ _ h => cases h with
    | fn _ _ _ vs us hl h hl' h' => exact ⟨vs, us, rfl, hl, fun i a v h1 h2 => .fv _ _ (h i a v h1 h2), hl', fun i a v h1 h2 => .fv _ _ (h' i a v h1 h2)⟩
  | fn _ _ _ vs us hl h hl' h' => exact ⟨vs, us, rfl, hl, h, hl', h'⟩
theorem VR.ptr_inv {r off : Nat} (h : VR g w (.ptr r off) u) : u = .pointer (some ⟨g.ρ r, off, none⟩) ∧ g.D r := by
  cases h with
  | fv _ _ h => cases h
  | ptr _ _ hr => exact ⟨rfl, hr⟩
theorem VR.own_inv {r off n e : Nat} {cap : Option Nat} (h : VR g w (.own r off n e cap) u) : ∃ o c, u = .slice (some ⟨g.ρ r, o, none⟩) n c ∧ g.D r ∧ n ≤ c ∧ (∀ k, cap = some k → c = k) ∧
    (c ≠ 0 → o = off) ∧ (c ≠ 0 → off + c * e ≤ g.σ r) := by
  cases h with
  | fv _ _ h => cases h
  | own _ _ _ _ _ o c hr hn hcap ho hs => exact ⟨o, c, rfl, hr, hn, hcap, ho, hs⟩
theorem VR.ip_inv {xs : List AV} (h : VR g w (.ip xs) u) : ∃ ad, ∃ f : Nat → Value, u = .pointer (some ad) ∧ (xs ≠ [] → g.S ad.block) ∧ (∀ k, k < xs.length → w.cell? (ad.add k) = some (f k)) ∧ (∀ k, k < xs.length → (f k).oneCell' = true) ∧ (∀ (k : Nat) (a : AV), xs[k]? = some a → FV g.S w a (f k)) := by
  cases h with
  | fv _ _ h => cases h with
    | ip _ ad f h1 h2 h3 h4 => exact ⟨ad, f, rfl, h1, h2, h3, h4⟩
theorem VR.sl_inv {e : Nat} {xs : List (List AV)} {cap : Option Nat} (h : VR g w (.sl e xs cap) u) : ∃ a c, ∃ f : Nat → Nat → Value, u = .slice a xs.length c ∧ xs.length ≤ c ∧ (∀ k, cap = some k → c = k) ∧ (∀ x ∈ xs, x.length = e) ∧
    (xs ≠ [] → ∃ ad, a = some ad ∧ (0 < e → g.S ad.block) ∧ ∀ j k, j < xs.length → k < e → w.cell? (ad.add (j * e + k)) = some (f j k)) ∧
    (∀ j k, j < xs.length → k < e → (f j k).oneCell' = true) ∧
    (∀ (j : Nat) (x : List AV) (k : Nat) (b : AV), xs[j]? = some x → x[k]? = some b → FV g.S w b (f j k)) := by
  cases h with
  | fv _ _ h => cases h with
    | sl _ _ _ a c f h1 h2 h3 h4 h5 h6 => exact ⟨a, c, f, rfl, h1, h2, h3, h4, h5, h6⟩
end

/-- A constant stands for itself. -/
theorem ofV_fv (S : Nat → Prop) (w : World) : ∀ (k : Nat) (v : Value), FV S w (ofV k v) v := by
  intro k
  induction k with
  | zero => intro v; exact .any v
  | succ k ih =>
    intro v
    have L : ∀ (cs : Array Value) (i : Nat) (a : AV) (v : Value), (cs.toList.map (ofV k))[i]? = some a → cs[i]? = some v → FV S w a v := by
      intro cs i a v h1 h2
      rw [List.getElem?_map, Array.getElem?_toList, h2] at h1
      simp only [Option.map_some, Option.some.injEq] at h1
      subst h1; exact ih v
    cases v with
    | agg cs => exact .agg _ _ (by simp) (L cs)
    | tuple cs => exact .tup _ _ (by simp) (L cs)
    | iface t v => exact .iface t _ _ (ih v)
    | func f a b => exact .fn f _ _ _ _ (by simp) (L a) (by simp) (L b)
    | slice a n c =>
      cases a with
      | some a => exact .lit _
      | none =>
        cases n with
        | succ n => exact .lit _
        | zero =>
          cases c with
          | succ c => exact .lit _
          | zero => exact .sl 0 [] (some 0) none 0 (fun _ _ => undef) (Nat.le_refl _) (fun k h => by cases h; rfl) (by simp) (by simp) (by simp) (by simp)
    | _ => exact .lit _

end Go.Ai
