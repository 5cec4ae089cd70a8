/- The abstract interpreter: calls within a body, as equations. No condition. -/
import Derived.Test.YtoemnjclhheeoaaA30
namespace Go.Ai
set_option linter.unusedVariables false
set_option linter.unusedSimpArgs false
section
variable {call : CallF} {mt : MtF} {md : FuncId → Md} {H : List AO} {id : Nat}

/-- Values that are told whole as they stand. -/
def whole : AV → Bool
  | .lit _ | .any | .ip _ | .sl _ _ _ => true
  | _ => false
theorem frz_whole {a : AV} (h : whole a = true) (k : Nat) : frz H (k + 1) a = some (a, []) := by
  cases a <;> first | rfl | cases h
theorem mapL_whole {k : Nat} : ∀ {as : List AV}, as.all whole = true → mapL (frz H (k + 1)) as = some (as, [])
  | [], _ => rfl
  | a :: r, h => by
    rw [List.all_cons, Bool.and_eq_true] at h
    simp only [mapL, frz_whole h.1, mapL_whole h.2]
    rfl

/-- A call of values told whole, that answers one such. -/
theorem callV_pure {f : FuncId} {args : List AV} {a : AV} {H' : List AO} (hm : md f = .pure) (hw : args.all whole = true) (h : call f args [] = some (.ret a, H')) (ha : whole a = true) : callV call md f args H id = some (.val a none) := by
  unfold callV
  rw [hm]
  simp only
  rw [show frzF = 15 + 1 from rfl, mapL_whole hw]
  simp only [Option.bind_some]
  rw [h]
  simp only [Option.bind_some]
  rw [frz_whole ha]
  rfl

/-- .. that answers several such. -/
theorem callV_pureT {f : FuncId} {args as : List AV} {H' : List AO} (hm : md f = .pure) (hw : args.all whole = true) (h : call f args [] = some (.ret (.tup as), H')) (ha : as.all whole = true) : callV call md f args H id = some (.val (.tup as) none) := by
  unfold callV
  rw [hm]
  simp only
  rw [show frzF = 15 + 1 from rfl, mapL_whole hw]
  simp only [Option.bind_some]
  rw [h]
  simp only [Option.bind_some]
  rw [frz, show (15 : Nat) = 14 + 1 from rfl, mapL_whole ha]
  rfl

/-- A call with values told whole, that answers a slice of its own making, whose cells are told whole. -/
theorem callV_own {f : FuncId} {args : List AV} {r off n e : Nat} {cap : Option Nat} {cs : List AV} {t : TypeId} {H' : List AO} (hm : md f = .own) (hw : args.all whole = true) (h : call f args [] = some (.ret (.own r off n e cap), H')) (hr : H'[r]? = some (.row cs t)) (hc : cs.all whole = true) :
    callV call md f args H id = some (.val (.own id off n e cap) (some (.row cs t))) := by
  unfold callV
  rw [hm]
  simp only
  rw [show frzF = 15 + 1 from rfl, mapL_whole hw]
  simp only [Option.bind_some]
  rw [h]
  simp only [Option.bind_some]
  have : rowAt H' r = some (cs, t) := by unfold rowAt; rw [hr]
  rw [this]
  simp only [Option.bind_some]
  rw [mapL_whole hc]
  rfl

/-- .. that answers no object after all. -/
theorem callV_ownP {f : FuncId} {args : List AV} {a : AV} {H' : List AO} (hm : md f = .own) (hw : args.all whole = true) (h : call f args [] = some (.ret a, H')) (ha : whole a = true) : callV call md f args H id = some (.val a none) := by
  unfold callV
  rw [hm]
  simp only
  rw [show frzF = 15 + 1 from rfl, mapL_whole hw]
  simp only [Option.bind_some]
  rw [h]
  simp only [Option.bind_some]
  cases a <;> first
    | rfl
    | cases ha

/-- A call that is handed the heap, and names no new object. -/
theorem callV_ref {f : FuncId} {args : List AV} {a : AV} {H' : List AO} (hm : md f = .ref) (h : call f args H = some (.ret a, H')) (hb : (below H.length frzF a && (H'.take H.length).all (belowO H.length)) = true) : callV call md f args H id = some (.wr a (H'.take H.length)) := by
  unfold callV
  rw [hm]
  simp only
  rw [h]
  simp only [Option.bind_some]
  rw [hb]
  rfl

theorem below_lits {n k : Nat} {cs : List AV} (h : ∀ a ∈ cs, ∃ v, a = .lit v) : cs.all (below n (k + 1)) = true := by
  rw [List.all_eq_true]
  intro a ha
  obtain ⟨v, rfl⟩ := h a ha
  rfl
end
end Go.Ai
