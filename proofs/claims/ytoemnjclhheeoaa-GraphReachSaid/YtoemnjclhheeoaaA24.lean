/- The abstract interpreter: words for codes that are told as text. No condition. -/
import Derived.Test.YtoemnjclhheeoaaA23
namespace Go.Ai

/-- Bytes. -/
def bs (l : List Nat) : ByteArray := ⟨(l.map UInt8.ofNat).toArray⟩

def lookL : List (Nat × List Nat) → Nat → List Nat
  | [], _ => []
  | (k, l) :: r, n => bif k == n then l else lookL r n
def lookN : List (Nat × Nat) → Nat → Nat
  | [], _ => 0
  | (k, l) :: r, n => bif k == n then l else lookN r n
def ann (r l : List (Nat × List Nat)) (ow : List Nat) (h : List (Nat × Nat)) : Ann := ⟨lookL r, lookL l, ow, lookN h⟩

/-- A table of codes. -/
def lookF : List (Nat × F) → FuncId → Option F
  | [], _ => none
  | (k, F) :: r, f => bif k == f then some F else lookF r f

theorem lookF_mem : ∀ {l : List (Nat × F)} {f : FuncId} {F : F}, lookF l f = some F → (f, F) ∈ l
  | [], f, F, h => by cases h
  | (k, G) :: r, f, F, h => by
    simp only [lookF] at h
    cases hk : k == f with
    | true =>
      rw [hk] at h
      simp only [cond_true, Option.some.injEq] at h
      have : k = f := by simpa using hk
      subst this; subst h
      exact List.mem_cons_self ..
    | false =>
      rw [hk] at h
      exact List.mem_cons_of_mem _ (lookF_mem h)

def TabOk (P : Program) (l : List (Nat × F)) : Prop := ∀ p ∈ l, ∃ fn A, P.funcs[p.1]? = some fn ∧ compF P A fn = some p.2

theorem TabOk.nil {P : Program} : TabOk P [] := fun p h => by cases h
theorem TabOk.cons {P : Program} {l : List (Nat × F)} {i : Nat} {fn : Func} {A : Ann} {FF : F} (hf : P.funcs[i]? = some fn) (hc : compF P A fn = some FF) (h : TabOk P l) : TabOk P ((i, FF) :: l) := by
  intro p hp
  rcases List.mem_cons.1 hp with rfl | hp
  · exact ⟨fn, A, hf, hc⟩
  · exact h p hp

/-- Which functions are handed the heap, and of which a slice stays an object. -/
def mdOf (refs owns : List Nat) : FuncId → Md := fun f => bif refs.contains f then .ref else bif owns.contains f then .own else .pure

/-- Methods of types. -/
def lookM : List (TypeId × String × FuncId × Option (Option Nat)) → TypeId → String → Option (FuncId × Option (Option Nat))
  | [], _, _ => none
  | (t, n, f, d) :: r, u, m => bif (t == u && n == m) then some (f, d) else lookM r u m
end Go.Ai
