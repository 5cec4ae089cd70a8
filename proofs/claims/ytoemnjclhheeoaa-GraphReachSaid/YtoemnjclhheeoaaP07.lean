/- Layer 7: the search, in plain Lean. No condition. -/
import Derived.Test.YtoemnjclhheeoaaD07
namespace Go.Proofs.Ytoemnjclhheeoaa.Ai
open Go Go.Ai
set_option linter.unusedSimpArgs false
set_option linter.unusedVariables false

theorem mem_insI (x y : Int) (l : List Int) : y ∈ insI x l ↔ y = x ∨ y ∈ l := by
  rw [(insI_perm x l).mem_iff, List.mem_cons]
theorem mem_sortI (y : Int) (l : List Int) : y ∈ sortI l ↔ y ∈ l := (sortI_perm l).mem_iff
theorem mem_compI (z : Int) : ∀ l : List Int, z ∈ compI' l ↔ z ∈ l
  | [] => Iff.rfl
  | [x] => Iff.rfl
  | x :: y :: r => by
    have ih := mem_compI z (y :: r)
    simp only [compI']
    by_cases h : x = y
    · subst h
      rw [beq_self_eq_true, cond_true, ih]
      simp
    · have : (x == y) = false := by simpa using h
      rw [this, cond_false, List.mem_cons, ih, List.mem_cons (a := z) (b := x)]

/-- What place k needs. -/
def need (g : List (List Int)) (k : Nat) : List Int := match g[k]? with
  | some row => needG g row
  | none => []
theorem mem_need {g : List (List Int)} {k : Nat} {row : List Int} (h : g[k]? = some row) (z : Int) : z ∈ need g k ↔ z ∈ row ∧ 0 ≤ z ∧ z < g.length := by
  unfold need
  rw [h]
  unfold needG
  simp only [mem_compI, mem_sortI, List.mem_filter, inG, Bool.and_eq_true, decide_eq_true_eq]
theorem need_len {g : List (List Int)} {k : Nat} {row : List Int} (h : g[k]? = some row) : (need g k).length ≤ row.length := by
  unfold need
  rw [h]
  unfold needG
  refine Nat.le_trans (compI_len _) ?_
  rw [sortI_len]
  exact List.length_filter_le _ _

/-- The search, by the stack. -/
def dfs (g : List (List Int)) : Nat → List Bool → List Int → List Bool
  | 0, out, _ => out
  | m + 1, out, stk => match stk.getLast? with
    | none => out
    | some k => match out[k.toNat]? with
      | some false => dfs g m (out.set k.toNat true) (stk.dropLast ++ need g k.toNat)
      | _ => dfs g m out stk.dropLast

/-- How much is left. -/
def left (out : List Bool) (stk : List Int) : Nat := 41 * out.count false + stk.length

theorem left_mark {g : List (List Int)} {out : List Bool} {stk : List Int} {k : Int} (h : stk.getLast? = some k) (hk : out[k.toNat]? = some false) (hn : (need g k.toNat).length ≤ 40) :
    left (out.set k.toNat true) (stk.dropLast ++ need g k.toNat) < left out stk := by
  have h1 := count_set hk
  have h2 : stk.length = stk.dropLast.length + 1 := by
    cases stk with
    | nil => cases h
    | cons x l => simp
  unfold left
  rw [List.length_append]
  omega
theorem left_pop {out : List Bool} {stk : List Int} {k : Int} (h : stk.getLast? = some k) : left out stk.dropLast < left out stk := by
  have h2 : stk.length = stk.dropLast.length + 1 := by
    cases stk with
    | nil => cases h
    | cons x l => simp
  unfold left
  omega

/-- A road of one step or more. -/
inductive Road (g : List (List Int)) : Nat → Nat → Prop
  | one {i k : Nat} (h : (k : Int) ∈ need g i) : Road g i k
  | more {i j k : Nat} (h : (j : Int) ∈ need g i) (r : Road g j k) : Road g i k

theorem Road.snoc {g : List (List Int)} {i j k : Nat} (r : Road g i j) (h : (k : Int) ∈ need g j) : Road g i k := by
  induction r with
  | one h1 => exact .more h1 (.one h)
  | more h1 _ ih => exact .more h1 (ih h)

structure DfsOk (g : List (List Int)) (out : List Bool) (stk : List Int) (out' : List Bool) : Prop where
  len : out'.length = out.length
  old : ∀ k : Nat, out[k]? = some true → out'[k]? = some true
  st : ∀ k ∈ stk, out'[k.toNat]? = some true
  closed : ∀ k : Nat, out'[k]? = some true → out[k]? = some false → ∀ z ∈ need g k, out'[z.toNat]? = some true
  sound : ∀ k : Nat, out'[k]? = some true → out[k]? = some false → (k : Int) ∈ stk ∨ ∃ j : Nat, (j : Int) ∈ stk ∧ Road g j k

theorem dfs_ok {g : List (List Int)} (hr : ∀ k z, z ∈ need g k → 0 ≤ z ∧ z < g.length) (hn : ∀ k, (need g k).length ≤ 40) : ∀ (m : Nat) (out : List Bool) (stk : List Int), left out stk ≤ m → out.length = g.length → (∀ k ∈ stk, 0 ≤ k ∧ k < g.length) → DfsOk g out stk (dfs g m out stk)
  | 0, out, stk, hm, hl, hs => by
    have : stk = [] := List.eq_nil_of_length_eq_zero (by unfold left at hm; omega)
    subst this
    exact ⟨rfl, fun _ h => h, by simp, fun k h1 h2 => (by simp only [dfs] at h1; rw [h1] at h2; cases h2), fun k h1 h2 => (by simp only [dfs] at h1; rw [h1] at h2; cases h2)⟩
  | m + 1, out, stk, hm, hl, hs => by
    cases hg : stk.getLast? with
    | none =>
      have : stk = [] := by simpa using hg
      subst this
      simp only [dfs, hg]
      exact ⟨rfl, fun _ h => h, by simp, fun k h1 h2 => (by rw [h1] at h2; cases h2), fun k h1 h2 => (by rw [h1] at h2; cases h2)⟩
    | some k =>
      have hsplit : stk = stk.dropLast ++ [k] := by
        have hne : stk ≠ [] := by intro e; subst e; cases hg
        have := List.dropLast_concat_getLast hne
        rw [List.getLast?_eq_some_getLast hne] at hg
        simp only [Option.some.injEq] at hg
        rw [← hg]; exact this.symm
      have hkm : k ∈ stk := by rw [hsplit]; simp
      have hk := hs k hkm
      have hdl : ∀ z ∈ stk.dropLast, z ∈ stk := fun z hz => (List.dropLast_sublist stk).subset hz
      have hlt : k.toNat < out.length := by omega
      cases hb : out[k.toNat] with
      | true =>
        have ho : out[k.toNat]? = some true := by rw [List.getElem?_eq_getElem hlt, hb]
        have ih := dfs_ok hr hn m out stk.dropLast (by have := left_pop (out := out) hg; omega) hl (fun z hz => hs z (hdl z hz))
        simp only [dfs, hg, ho]
        refine ⟨ih.len, ih.old, fun z hz => ?_, ih.closed, fun q h1 h2 => ?_⟩
        · rw [hsplit] at hz
          rcases List.mem_append.1 hz with hz | hz
          · exact ih.st z hz
          · simp only [List.mem_singleton] at hz
            subst hz
            exact ih.old _ ho
        · rcases ih.sound q h1 h2 with h | ⟨j, h, r⟩
          · exact .inl (hdl _ h)
          · exact .inr ⟨j, hdl _ h, r⟩
      | false =>
        have ho : out[k.toNat]? = some false := by rw [List.getElem?_eq_getElem hlt, hb]
        have ih := dfs_ok hr hn m (out.set k.toNat true) (stk.dropLast ++ need g k.toNat) (by have := left_mark (g := g) hg ho (hn _); omega) (by simpa using hl)
          (fun z hz => by
            rcases List.mem_append.1 hz with hz | hz
            · exact hs z (hdl z hz)
            · exact hr _ _ hz)
        simp only [dfs, hg, ho]
        have hset : ∀ q : Nat, (out.set k.toNat true)[q]? = if k.toNat = q then some true else out[q]? := by
          intro q
          rw [List.getElem?_set]
          by_cases e : k.toNat = q
          · rw [if_pos e, if_pos e, if_pos hlt]
          · rw [if_neg e, if_neg e]
        have hkt : (dfs g m (out.set k.toNat true) (stk.dropLast ++ need g k.toNat))[k.toNat]? = some true := ih.old _ (by rw [hset, if_pos rfl])
        refine ⟨by rw [ih.len]; simp, fun q hq => ih.old q (by rw [hset]; by_cases e : k.toNat = q; (· rw [if_pos e]); (· rw [if_neg e]; exact hq)), fun z hz => ?_, fun q h1 h2 => ?_, fun q h1 h2 => ?_⟩
        · rw [hsplit] at hz
          rcases List.mem_append.1 hz with hz | hz
          · exact ih.st z (List.mem_append_left _ hz)
          · simp only [List.mem_singleton] at hz
            subst hz
            exact hkt
        · by_cases e : k.toNat = q
          · subst e
            intro z hz
            exact ih.st z (List.mem_append_right _ hz)
          · exact ih.closed q h1 (by rw [hset, if_neg e]; exact h2)
        · by_cases e : k.toNat = q
          · subst e
            left
            rw [Int.toNat_of_nonneg hk.1]
            exact hkm
          · have kk : (k.toNat : Int) ∈ stk := by rw [Int.toNat_of_nonneg hk.1]; exact hkm
            rcases ih.sound q h1 (by rw [hset, if_neg e]; exact h2) with h | ⟨j, h, r⟩
            · rcases List.mem_append.1 h with h | h
              · exact .inl (hdl _ h)
              · exact .inr ⟨k.toNat, kk, .one h⟩
            · rcases List.mem_append.1 h with h | h
              · exact .inr ⟨j, hdl _ h, r⟩
              · exact .inr ⟨k.toNat, kk, .more h r⟩

/-- What is reached. -/
theorem dfs_road {g : List (List Int)} (hr : ∀ k z, z ∈ need g k → 0 ≤ z ∧ z < g.length) (hn : ∀ k, (need g k).length ≤ 40) {m i : Nat} (hm : left (List.replicate g.length false) (need g i) ≤ m) (k : Nat) (hk : k < g.length) :
    (dfs g m (List.replicate g.length false) (need g i))[k]? = some true ↔ Road g i k := by
  have D := dfs_ok hr hn m (List.replicate g.length false) (need g i) hm (by simp) (fun z hz => hr _ _ hz)
  have hf : ∀ q : Nat, q < g.length → (List.replicate g.length false)[q]? = some false := fun q hq => by rw [List.getElem?_replicate, if_pos hq]
  constructor
  · intro h
    rcases D.sound k h (hf k hk) with h | ⟨j, h, r⟩
    · exact .one h
    · exact .more h r
  · intro r
    have lt : ∀ {i k : Nat}, Road g i k → k < g.length := by
      intro i k r
      induction r with
      | one h => have := hr _ _ h; omega
      | more _ _ ih => exact ih
    have key : ∀ {a b : Nat}, Road g a b → (∀ z ∈ need g a, (dfs g m (List.replicate g.length false) (need g i))[z.toNat]? = some true) → (dfs g m (List.replicate g.length false) (need g i))[b]? = some true := by
      intro a b r
      induction r with
      | one h => intro ha; exact ha _ h
      | more h r ih =>
        intro ha
        rename_i a j b
        have hj := ha _ h
        have hjl := hr _ _ h
        exact ih (D.closed j hj (hf j (by omega)))
    exact key r D.st
end Go.Proofs.Ytoemnjclhheeoaa.Ai
