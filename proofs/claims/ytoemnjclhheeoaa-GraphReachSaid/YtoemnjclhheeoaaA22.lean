/- The abstract interpreter: what is handed in, as it is read. No condition. -/
import Derived.Test.YtoemnjclhheeoaaA21
import Derived.Deep.Slices
import Derived.OpenShut
import Derived.Carry
import Derived.SizedLaws
namespace Go.Ai
open Go.ChangeShapes Go.WideShapes Go.Deep
set_option linter.unusedVariables false
set_option linter.unusedSimpArgs false
set_option linter.unusedSectionVars false

/-- Forms of data. -/
inductive Ty where
  | int (k : IntKind)
  | bool
  | str
  | sl (e : Ty)
  | unit
  | cons (a b : Ty)

/-- How many cells. -/
def Ty.n : Ty → Nat
  | .int _ | .bool | .str | .sl _ => 1
  | .unit => 0
  | .cons a b => a.n + b.n

/-- The cells of a form. -/
def Ty.Sh : Ty → List AV → Prop
  | .int k, as => ∃ n, as = [litI k n] ∧ (Lit.int k n).wf = true
  | .bool, as => ∃ b, as = [litB b]
  | .str, as => ∃ s, as = [litS s] ∧ s.size ≤ maxLen
  | .sl e, as => ∃ xs, as = [.sl e.n xs none] ∧ ∀ x ∈ xs, e.Sh x
  | .unit, as => as = []
  | .cons a b, as => ∃ x y, as = x ++ y ∧ a.Sh x ∧ b.Sh y

def Ty.rep (a : Ty) : Nat → Ty
  | 0 => .unit
  | n + 1 => .cons a (Ty.rep a n)

def tyFs (g : TypeId → Option Ty) (P : Program) : Nat → List Field → Option Ty
  | _, [] => some .unit
  | off, f :: r => (g f.type).bind fun a => if f.offset = off ∧ a.n = P.cellsOf f.type then (tyFs g P (off + a.n) r).bind fun b => some (.cons a b) else none

def tyOf (P : Program) : Nat → TypeId → Option Ty
  | 0, _ => none
  | k + 1, t => match P.underlying t with
    | some (.int q) => some (.int q)
    | some .bool => some .bool
    | some .string => some .str
    | some (.slice e) => (tyOf P k e).bind fun a => if a.n = P.cellsOf e then some (.sl a) else none
    | some (.struct fs) => (tyFs (tyOf P k) P 0 fs.toList).bind fun a => if a.n = P.cellsOf t then some a else none
    | some (.array n e) => (tyOf P k e).bind fun a => if a.n = P.cellsOf e ∧ n * a.n = P.cellsOf t then some (Ty.rep a n) else none
    | _ => none

theorem Ty.rep_n (a : Ty) : ∀ n, (Ty.rep a n).n = n * a.n
  | 0 => by simp [Ty.rep, Ty.n]
  | n + 1 => by simp only [Ty.rep, Ty.n, Ty.rep_n a n, Nat.add_mul]; omega

theorem Ty.Sh.len : ∀ {τ : Ty} {as : List AV}, τ.Sh as → as.length = τ.n
  | .int k, as, ⟨n, h, _⟩ => by subst h; rfl
  | .bool, as, ⟨n, h⟩ => by subst h; rfl
  | .str, as, ⟨n, h, _⟩ => by subst h; rfl
  | .sl e, as, ⟨n, h, _⟩ => by subst h; rfl
  | .unit, as, h => by cases h; rfl
  | .cons a b, as, ⟨x, y, h, h1, h2⟩ => by subst h; rw [List.length_append, h1.len, h2.len]; rfl

section
variable {H : Type} {enc : TypeId × Value → H} {P : Program} {w : World} {base : Nat} {spare : Nat → Bool} {held : Bool}

/-- Cells that read as a form does. -/
def Reads (w : World) (τ : Ty) (cs : List Value) : Prop := ∃ as, FVs (fun b => b < w.heap.size) w as cs ∧ τ.Sh as ∧ ∀ v ∈ cs, v.oneCell' = true

theorem cell_lt {a : Addr} {v : Value} (h : w.cell? a = some v) : a.block < w.heap.size := by
  unfold World.cell? at h
  cases hh : w.heap[a.block]? with
  | none => rw [hh] at h; cases h
  | some o => exact (Array.getElem?_eq_some_iff.1 hh).1


theorem FVs.one {S : Nat → Prop} {a : AV} {v : Value} (h : FV S w a v) : FVs S w [a] [v] := by
  refine ⟨rfl, fun i x u hx hu => ?_⟩
  cases i with
  | zero => simp only [List.getElem?_cons_zero, Option.some.injEq] at hx hu; subst hx; subst hu; exact h
  | succ i => simp at hx

theorem FVs.append' {S : Nat → Prop} {xs ys : List AV} {vs us : List Value} (h : FVs S w xs vs) (k : FVs S w ys us) : FVs S w (xs ++ ys) (vs ++ us) := by
  refine ⟨by simp [h.1, k.1], fun i a v ha hv => ?_⟩
  by_cases hi : i < xs.length
  · rw [List.getElem?_append_left hi] at ha
    rw [List.getElem?_append_left (by rw [← h.1]; exact hi)] at hv
    exact h.2 i a v ha hv
  · rw [List.getElem?_append_right (by omega)] at ha
    rw [List.getElem?_append_right (by rw [← h.1]; omega), ← h.1] at hv
    exact k.2 _ a v ha hv

theorem reads_fs {g : TypeId → Option Ty} {n : Nat} (ih : ∀ t τ cs x, g t = some τ → DataW.trod enc P w base spare held n t cs = some x → Reads w τ cs) :
    ∀ (fs : List Field) (off : Nat) (τ : Ty) (cs : List Value), tyFs g P off fs = some τ → off + τ.n ≤ cs.length → (∀ f ∈ fs, ∃ x, DataW.trod enc P w base spare held n f.type ((cs.drop f.offset).take (P.cellsOf f.type)) = some x) →
      Reads w τ ((cs.drop off).take τ.n)
  | [], off, τ, cs, h, hl, hx => by
    simp only [tyFs, Option.some.injEq] at h; subst h
    exact ⟨[], by simp [Ty.n, FVs], rfl, by simp [Ty.n]⟩
  | f :: r, off, τ, cs, h, hl, hx => by
    simp only [tyFs] at h
    obtain ⟨a, ha, h⟩ := Option.bind_eq_some_iff.1 h
    by_cases hc : f.offset = off ∧ a.n = P.cellsOf f.type
    case neg => rw [if_neg hc] at h; cases h
    rw [if_pos hc] at h
    obtain ⟨b, hb, h⟩ := Option.bind_eq_some_iff.1 h
    simp only [Option.some.injEq] at h; subst h
    simp only [Ty.n] at hl ⊢
    obtain ⟨x, hx1⟩ := hx f (List.mem_cons_self ..)
    obtain ⟨as, k1, k2, k3⟩ := ih _ _ _ _ ha hx1
    obtain ⟨bs, m1, m2, m3⟩ := reads_fs ih r (off + a.n) b cs hb (by omega) fun f hf => hx f (List.mem_cons_of_mem _ hf)
    rw [hc.1, ← hc.2] at k1 k3
    have e : (cs.drop off).take (a.n + b.n) = (cs.drop off).take a.n ++ (cs.drop (off + a.n)).take b.n := by
      rw [List.take_add, List.drop_drop]
    rw [e]
    refine ⟨as ++ bs, k1.append' m1, ⟨as, bs, rfl, k2, m2⟩, fun v hv => ?_⟩
    rcases List.mem_append.1 hv with hv | hv
    · exact k3 v hv
    · exact m3 v hv

theorem reads_rep {n : Nat} {a : Ty} {e : TypeId} (ha : a.n = P.cellsOf e) (ih : ∀ cs x, DataW.trod enc P w base spare held n e cs = some x → Reads w a cs) :
    ∀ (m j : Nat) (cs : List Value), (∀ i, i < m → ∃ x, DataW.trod enc P w base spare held n e ((cs.drop ((j + i) * P.cellsOf e)).take (P.cellsOf e)) = some x) →
      Reads w (Ty.rep a m) ((cs.drop (j * P.cellsOf e)).take (m * a.n))
  | 0, j, cs, h => ⟨[], by simp [FVs], rfl, by simp⟩
  | m + 1, j, cs, h => by
    obtain ⟨x, hx⟩ := h 0 (by omega)
    obtain ⟨as, k1, k2, k3⟩ := ih _ _ hx
    obtain ⟨bs, m1, m2, m3⟩ := reads_rep ha ih m (j + 1) cs fun i hi => by
      have := h (i + 1) (by omega)
      rwa [show j + (i + 1) = j + 1 + i by omega] at this
    rw [Nat.add_zero, ← ha] at k1 k3
    rw [← ha] at m1 m3 ⊢
    have e' : (cs.drop (j * a.n)).take ((m + 1) * a.n) = (cs.drop (j * a.n)).take a.n ++ (cs.drop ((j + 1) * a.n)).take (m * a.n) := by
      rw [show (m + 1) * a.n = a.n + m * a.n by rw [Nat.add_mul]; omega, List.take_add, List.drop_drop, show j * a.n + a.n = (j + 1) * a.n by rw [Nat.add_mul]; omega]
    rw [e']
    refine ⟨as ++ bs, k1.append' m1, ⟨as, bs, rfl, k2, m2⟩, fun v hv => ?_⟩
    rcases List.mem_append.1 hv with hv | hv
    · exact k3 v hv
    · exact m3 v hv

/-- What is read at a type is of its form. -/
theorem reads_ty : ∀ (k fuel : Nat) (t : TypeId) (τ : Ty) (cs : List Value) (x : DataW H × List MemPlace), tyOf P k t = some τ → DataW.trod enc P w base spare held fuel t cs = some x → Reads w τ cs
  | 0, fuel, t, τ, cs, x, h, hx => by cases h
  | k + 1, fuel, t, τ, cs, x, h, hx => by
    simp only [tyOf] at h
    split at h
    · rename_i q hu
      simp only [Option.some.injEq] at h; subst h
      obtain ⟨n, rfl, _, hw⟩ := DataW.trod_int hu hx
      exact ⟨[litI q n], .one (.lit _), ⟨n, rfl, hw⟩, by simp [Value.oneCell']⟩
    · rename_i hu
      simp only [Option.some.injEq] at h; subst h
      obtain ⟨b, rfl, _⟩ := DataW.trod_bool hu hx
      exact ⟨[litB b], .one (.lit _), ⟨b, rfl⟩, by simp [Value.oneCell']⟩
    · rename_i hu
      simp only [Option.some.injEq] at h; subst h
      obtain ⟨s, rfl, _, hs⟩ := DataW.trod_string hu hx
      exact ⟨[litS s], .one (.lit _), ⟨s, rfl, hs⟩, by simp [Value.oneCell']⟩
    · rename_i e hu
      obtain ⟨a, ha, h⟩ := Option.bind_eq_some_iff.1 h
      by_cases hc : a.n = P.cellsOf e
      case neg => rw [if_neg hc] at h; cases h
      rw [if_pos hc] at h
      simp only [Option.some.injEq] at h; subst h
      rcases open_slice hu hx with ⟨rfl, _⟩ | ⟨ad, len, cap, m, n, D, Pl, rfl, _, hle, _, hm, _, hel⟩
      · exact ⟨[.sl a.n [] none], .one (.sl _ _ _ none 0 (fun _ _ => undef) (Nat.le_refl _) (by simp) (by simp) (by simp) (by simp) (by simp)), ⟨[], rfl, by simp⟩, by simp [Value.oneCell']⟩
      · have hlm : len ≤ m := by rw [hm]; split <;> omega
        have hch : ∀ i, i < len → ∃ p : List AV × List Value, (w.cells? base (ad.add (i * P.cellsOf e)) (P.cellsOf e) = some p.2 ∧ FVs (fun b => b < w.heap.size) w p.1 p.2 ∧ a.Sh p.1 ∧ ∀ v ∈ p.2, v.oneCell' = true) := by
          intro i hi
          obtain ⟨cs', h1, h2⟩ := hel i (by omega)
          obtain ⟨as, k1, k2, k3⟩ := reads_ty k n e a cs' _ ha h2
          exact ⟨(as, cs'), h1, k1, k2, k3⟩
        obtain ⟨F, hF⟩ := choose_lt (α := List AV × List Value) hch
        have hlen : ∀ i, i < len → (F i).1.length = a.n ∧ (F i).2.length = a.n := by
          intro i hi
          obtain ⟨h1, h2, h3, _⟩ := hF i hi
          have := h2.1
          exact ⟨h3.len, by rw [← this]; exact h3.len⟩
        have get : ∀ (j : Nat) (x : List AV), ((List.range len).map fun i => (F i).1)[j]? = some x → j < len ∧ x = (F j).1 := by
          intro j x hj
          rw [List.getElem?_map] at hj
          by_cases hjl : j < len
          · rw [List.getElem?_range hjl] at hj
            simp only [Option.map_some, Option.some.injEq] at hj
            exact ⟨hjl, hj.symm⟩
          · rw [List.getElem?_eq_none (by simpa using hjl)] at hj; cases hj
        have val : ∀ j k, j < len → k < a.n → w.cell? (ad.add (j * a.n + k)) = some ((F j).2.getD k undef) ∧ (F j).2[k]? = some ((F j).2.getD k undef) := by
          intro j k hj hk
          obtain ⟨h1, h2, h3, h4⟩ := hF j hj
          obtain ⟨_, _, h5⟩ := World.cells?_some h1
          have h6 := h5 k (by rw [← hc]; exact hk)
          have h7 : (F j).2[k]? = some ((F j).2.getD k undef) := by
            rw [List.getD_eq_getElem?_getD, List.getElem?_eq_getElem (by rw [(hlen j hj).2]; exact hk)]; rfl
          rw [add_add, ← hc, h7] at h6
          exact ⟨h6, h7⟩
        refine ⟨[.sl a.n ((List.range len).map fun i => (F i).1) none], .one ?_, ⟨_, rfl, fun x hx => ?_⟩, by simp [Value.oneCell']⟩
        · have hl' : ((List.range len).map fun i => (F i).1).length = len := by simp
          have := FV.sl (S := fun b => b < w.heap.size) (w := w) a.n ((List.range len).map fun i => (F i).1) none (some ad) cap (fun j k => (F j).2.getD k undef) (by rw [hl']; exact hle) (by simp)
            (fun x hx => by
              obtain ⟨j, hj⟩ := List.getElem?_of_mem hx
              obtain ⟨h1, rfl⟩ := get j x hj
              exact (hlen j h1).1)
            (fun hne => ⟨ad, rfl, fun he => by
              have h0 : 0 < len := by
                cases hlz : len with
                | zero => rw [hlz] at hne; exact absurd rfl hne
                | succ q => omega
              have := (val 0 0 h0 he).1
              have := cell_lt this
              rwa [add_block] at this, fun j k hj hk => (val j k (by rw [hl'] at hj; exact hj) hk).1⟩)
            (fun j k hj hk => by
              rw [hl'] at hj
              exact (hF j hj).2.2.2 _ (List.mem_of_getElem? (val j k hj hk).2))
            (fun j x k b hj hb => by
              obtain ⟨h1, rfl⟩ := get j x hj
              have hk : k < a.n := by rw [← (hlen j h1).1]; exact (List.getElem?_eq_some_iff.1 hb).1
              exact (hF j h1).2.1.2 k b _ hb (val j k h1 hk).2)
          rw [hl'] at this
          exact this
        · obtain ⟨j, hj⟩ := List.getElem?_of_mem hx
          obtain ⟨h1, rfl⟩ := get j x hj
          exact (hF j h1).2.2.1
    · rename_i fs hu
      obtain ⟨a, ha, h⟩ := Option.bind_eq_some_iff.1 h
      by_cases hc : a.n = P.cellsOf t
      case neg => rw [if_neg hc] at h; cases h
      rw [if_pos hc] at h
      simp only [Option.some.injEq] at h; subst h
      obtain ⟨xs, n, rfl, _, hl, hxl, hel⟩ := DataW.trod_struct hu hx
      have := reads_fs (g := tyOf P k) (n := n) (fun t τ cs x h1 h2 => reads_ty k n t τ cs x h1 h2) fs.toList 0 a cs ha (by omega) (fun f hf => by
        obtain ⟨i, hi⟩ := List.getElem?_of_mem hf
        have hi' : fs[i]? = some f := by rwa [Array.getElem?_toList] at hi
        have hlt := (Array.getElem?_eq_some_iff.1 hi').1
        refine ⟨xs[i]'(by omega), ?_⟩
        rw [hel i f hi', List.getElem?_eq_getElem (by omega)])
      rw [List.drop_zero, List.take_of_length_le (by omega)] at this
      exact this
    · rename_i m e hu
      obtain ⟨a, ha, h⟩ := Option.bind_eq_some_iff.1 h
      by_cases hc : a.n = P.cellsOf e ∧ m * a.n = P.cellsOf t
      case neg => rw [if_neg hc] at h; cases h
      rw [if_pos hc] at h
      simp only [Option.some.injEq] at h; subst h
      obtain ⟨xs, n, rfl, _, hl, hxl, hel⟩ := DataW.trod_array hu hx
      have := reads_rep (n := n) hc.1 (fun cs x h2 => reads_ty k n e a cs x ha h2) m 0 cs (fun i hi => by
        refine ⟨xs[i]'(by omega), ?_⟩
        rw [Nat.zero_add, hel i hi, List.getElem?_eq_getElem (by omega)])
      rw [Nat.zero_mul, List.drop_zero, List.take_of_length_le (by omega)] at this
      exact this
    · cases h

/-- A whole value. -/
def argSh (P : Program) (t : TypeId) (τ : Ty) (a : AV) : Prop :=
  match P.underlying t with
  | some (.struct _) | some (.array _ _) => ∃ as, a = .agg as ∧ τ.Sh as
  | _ => τ.Sh [a]

theorem arg_ty {k : Nat} {t : TypeId} {τ : Ty} {v : Value} {d : DataW H} {ps : List MemPlace} {b0 : Nat} (h : tyOf P k t = some τ) (hok : Value.okWide P w .any b0 t v) (hx : DataW.Trod enc P w base spare held t v d ps) :
    ∃ a, FV (fun b => b < w.heap.size) w a v ∧ argSh P t τ a := by
  obtain ⟨fuel, hx⟩ := hx
  obtain ⟨as, h1, h2, h3⟩ := reads_ty k fuel t τ _ _ h hx
  unfold argSh
  have agg : ∀ cs : Array Value, v = .agg cs → FV (fun b => b < w.heap.size) w (.agg as) v := by
    intro cs e
    subst e
    simp only [Value.cells] at h1
    exact .agg _ _ (by simpa using h1.1) fun i a v ha hv => h1.2 i a v ha (by rwa [Array.getElem?_toList])
  have one : v.cells.toList = [v] → τ.Sh as → ∃ a, FV (fun b => b < w.heap.size) w a v ∧ τ.Sh [a] := by
    intro e hs
    rw [e] at h1
    have hl := h1.1
    match as, hl, h1, hs with
    | [a], _, h1, hs => exact ⟨a, h1.2 0 a v rfl rfl, hs⟩
  cases k with
  | zero => cases h
  | succ k =>
    simp only [tyOf] at h
    split at h
    · rename_i q hu
      rw [hu]
      obtain ⟨n, rfl⟩ := okWide_int hu hok
      exact one rfl h2
    · rename_i hu
      rw [hu]
      obtain ⟨n, rfl⟩ := okWide_bool hu hok
      exact one rfl h2
    · rename_i hu
      rw [hu]
      obtain ⟨n, rfl⟩ := okWide_string hu hok
      exact one rfl h2
    · rename_i e hu
      rw [hu]
      obtain ⟨_, _, _, rfl⟩ := okWide_slice hu hok
      exact one rfl h2
    · rename_i fs hu
      rw [hu]
      obtain ⟨cs, rfl, _⟩ := okWide_struct hu hok
      exact ⟨.agg as, agg cs rfl, as, rfl, h2⟩
    · rename_i m e hu
      rw [hu]
      simp only [Value.okWide, hu] at hok
      obtain ⟨cs, rfl, _⟩ := hok
      exact ⟨.agg as, agg cs rfl, as, rfl, h2⟩
    · cases h
end
end Go.Ai
