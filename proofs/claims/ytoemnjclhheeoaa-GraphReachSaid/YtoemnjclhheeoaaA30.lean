/- The abstract interpreter: methods are found as a table says. No condition. -/
import Derived.Test.YtoemnjclhheeoaaA29
namespace Go.Ai
set_option linter.unusedVariables false
set_option linter.unusedSimpArgs false

section
variable {P : Program} {t e : TypeId} {name : String} {f : FuncId} {i : TypeInfo} {m : Method}

theorem wrapchk (ts : Array TypeId) (ty : TypeId) (a : Addr) (s m : String) : Builtin.ssaWrapNilChk_ ts ty #[.pointer (some a), strVal s, strVal m] = pure (.pointer (some a)) := rfl

theorem fuel_pos (P : Program) : ∃ k, P.types.size + Made.depth = k + 1 := ⟨P.types.size + 99, by unfold Made.depth; omega⟩

theorem method_ptr (hi : P.info? t = some i) (hm : i.methods.find? (·.name == name) = some m) (hp : m.path = #[]) (hf : m.func = some (f, true)) (hu : P.underlying t = some (.pointer e)) (v : Value) (w : World) :
    (method (P.types.size + Made.depth) t v name).run P w = .ok (f, v) w := by
  obtain ⟨k, hk⟩ := fuel_pos P
  rw [hk]
  simp [method, typeInfo, hi, hm, hp, hf, follow, receiverAt, run_underlying hu, Place.get]

theorem method_val {d : TypeDesc} (hi : P.info? t = some i) (hm : i.methods.find? (·.name == name) = some m) (hp : m.path = #[]) (hf : m.func = some (f, false)) (hu : P.underlying t = some d) (hd : ∀ e, d ≠ .pointer e) (v : Value) (w : World) :
    (method (P.types.size + Made.depth) t v name).run P w = .ok (f, v) w := by
  obtain ⟨k, hk⟩ := fuel_pos P
  rw [hk]
  cases d <;> first
    | exact absurd rfl (hd _)
    | simp [method, typeInfo, hi, hm, hp, hf, follow, receiverAt, run_underlying hu, Place.get]

theorem method_deref (hi : P.info? t = some i) (hm : i.methods.find? (·.name == name) = some m) (hp : m.path = #[]) (hf : m.func = some (f, false)) (hu : P.underlying t = some (.pointer e)) (a : Addr) (u : Value) (w : World)
    (hl : (loadVar e a).run P w = .ok u w) : (method (P.types.size + Made.depth) t (.pointer (some a)) name).run P w = .ok (f, u) w := by
  obtain ⟨k, hk⟩ := fuel_pos P
  rw [hk]
  simp [method, typeInfo, hi, hm, hp, hf, follow, receiverAt, run_underlying hu, Place.get, wrapchk, asAddr, hl]
end

/-- A row of the table is right. -/
def MtE (P : Program) (p : TypeId × String × FuncId × Option (Option Nat)) : Prop :=
  match p.2.2.2 with
  | none => ∀ (v : Value) (w : World), (method (P.types.size + Made.depth) p.1 v p.2.1).run P w = .ok (p.2.2.1, v) w
  | some n => ∃ elem, nOf P elem = some n ∧ ∀ (a : Addr) (u : Value) (w : World), (loadVar elem a).run P w = .ok u w → (method (P.types.size + Made.depth) p.1 (.pointer (some a)) p.2.1).run P w = .ok (p.2.2.1, u) w

theorem mtOk_of {P : Program} : ∀ {l : List (TypeId × String × FuncId × Option (Option Nat))}, (∀ p ∈ l, MtE P p) → MtOk P (lookM l)
  | [], _ => fun t name f d h => by cases h
  | (t, n, f, d) :: r, h => fun u m g d' hl => by
    simp only [lookM] at hl
    by_cases hc : (t == u && n == m) = true
    · rw [hc] at hl
      simp only [cond_true, Option.some.injEq, Prod.mk.injEq] at hl
      obtain ⟨rfl, rfl⟩ := hl
      simp only [Bool.and_eq_true, beq_iff_eq] at hc
      obtain ⟨rfl, rfl⟩ := hc
      have := h _ (List.mem_cons_self ..)
      unfold MtE at this
      exact this
    · rw [Bool.eq_false_iff.mpr hc] at hl
      exact mtOk_of (fun p hp => h p (List.mem_cons_of_mem _ hp)) u m g d' hl
end Go.Ai
