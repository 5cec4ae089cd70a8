/-
  No cell of these rows narrows 'for every input' (looked for: loops, veiled, ifaces, maps, wideKeys, modest, calm, conditions, laid).
  DERIVED. THE GIVEN ROWS OF THIS SEAT. 7 by the template 'for every input the law returns true; each argument reads behind the call as it read before'; 0 by the template 'total and deterministic' (their statements: YtcgbdndkfonphaaTotals.lean).
  GIVEN WITH THE SEED: the statements are not yours to turn. If you find one false, say at which input.
  Laid BY PROGRAM, IN A SANDBOX (cutbox-rows.mjs): the forced cells as the released guide's own fill.sh prints them over the translation 2e3a1bd3f4dcbe8c… (all of the seat's roots in one cut). By AI agents, Wed Nov 11 2026. No macro, syntax, notation, axiom, sorry.
-/
import Derived.Test.YtcgbdndkfonphaaChecked
import GoSem.Claim
import GoSem.ClaimJoined
import GoSem.ClaimMapViews
import Derived.JoinedTies
import Derived.KernelRfl
namespace Go.Proofs.Ytcgbdndkfonphaa
/- THE CELL 'sum', in the pinned program and in every row, IS THE sha256 OF THE DUMP (.gsa) THAT YtcgbdndkfonphaaProg.lean LOADS. Nothing in Lean hashes anything: it is a label: what it is worth is what the hold of that sum in a sandbox is worth. -/
noncomputable def Try.pinned : Pinned := { name := "ytcgbdndkfonphaa", sum := "2e3a1bd3f4dcbe8c061f77d6f9af488d730c6ad9b6857ab8eecc4691ca156635", checked := Try.checked }
namespace Rows
def none {H : Type} : Left H := { results := [], args := [] }

/-- 'foliotlaw15.CodeBodies': WHATEVER THE INPUT: true; the input reads as it did. -/
def codeBodiesSpec : ChangeSpec := { name := "codeBodies", fn := fun _ => fun
  | [d] => { results := [.lit (.bool true)], args := [d] }
  | _ => none }
def codeBodiesRow : OpenClaim := { program := "ytcgbdndkfonphaa", sum := "2e3a1bd3f4dcbe8c061f77d6f9af488d730c6ad9b6857ab8eecc4691ca156635", func := "foliot/foliotlaw15.CodeBodies", spec := "codeBodies", unfollowed := true, recurses := true, apart := false }
def CodeBodiesSaid : Prop := codeBodiesRow.holds Try.pinned (OpenSpec.ofChange codeBodiesSpec)

/-- ITS FALSE NEIGHBOUR: 'it returns false'. Refute it at one input. -/
def codeBodiesWrong : ChangeSpec := { name := "codeBodies", fn := fun _ => fun
  | [d] => { results := [.lit (.bool false)], args := [d] }
  | _ => none }
def CodeBodiesWrongFalsely : Prop := codeBodiesRow.holds Try.pinned (OpenSpec.ofChange codeBodiesWrong)

/-- 'foliotlaw15.CodeWrites': WHATEVER THE INPUT: true; the input reads as it did. -/
def codeWritesSpec : ChangeSpec := { name := "codeWrites", fn := fun _ => fun
  | [d] => { results := [.lit (.bool true)], args := [d] }
  | _ => none }
def codeWritesRow : OpenClaim := { program := "ytcgbdndkfonphaa", sum := "2e3a1bd3f4dcbe8c061f77d6f9af488d730c6ad9b6857ab8eecc4691ca156635", func := "foliot/foliotlaw15.CodeWrites", spec := "codeWrites", unfollowed := true, recurses := true, apart := false }
def CodeWritesSaid : Prop := codeWritesRow.holds Try.pinned (OpenSpec.ofChange codeWritesSpec)

/-- ITS FALSE NEIGHBOUR: 'it returns false'. Refute it at one input. -/
def codeWritesWrong : ChangeSpec := { name := "codeWrites", fn := fun _ => fun
  | [d] => { results := [.lit (.bool false)], args := [d] }
  | _ => none }
def CodeWritesWrongFalsely : Prop := codeWritesRow.holds Try.pinned (OpenSpec.ofChange codeWritesWrong)

/-- 'foliotlaw14.PlanOf': WHATEVER THE INPUT: true; the input reads as it did. -/
def planOfSpec : ChangeSpec := { name := "planOf", fn := fun _ => fun
  | [d] => { results := [.lit (.bool true)], args := [d] }
  | _ => none }
def planOfRow : OpenClaim := { program := "ytcgbdndkfonphaa", sum := "2e3a1bd3f4dcbe8c061f77d6f9af488d730c6ad9b6857ab8eecc4691ca156635", func := "foliot/foliotlaw14.PlanOf", spec := "planOf", unfollowed := true, recurses := true, apart := false }
def PlanOfSaid : Prop := planOfRow.holds Try.pinned (OpenSpec.ofChange planOfSpec)

/-- ITS FALSE NEIGHBOUR: 'it returns false'. Refute it at one input. -/
def planOfWrong : ChangeSpec := { name := "planOf", fn := fun _ => fun
  | [d] => { results := [.lit (.bool false)], args := [d] }
  | _ => none }
def PlanOfWrongFalsely : Prop := planOfRow.holds Try.pinned (OpenSpec.ofChange planOfWrong)

/-- 'foliotlaw14.PlanRights': WHATEVER THE INPUT: true; the input reads as it did. -/
def planRightsSpec : ChangeSpec := { name := "planRights", fn := fun _ => fun
  | [d1, d2] => { results := [.lit (.bool true)], args := [d1, d2] }
  | _ => none }
def planRightsRow : OpenClaim := { program := "ytcgbdndkfonphaa", sum := "2e3a1bd3f4dcbe8c061f77d6f9af488d730c6ad9b6857ab8eecc4691ca156635", func := "foliot/foliotlaw14.PlanRights", spec := "planRights", unfollowed := true, recurses := true, apart := false }
def PlanRightsSaid : Prop := planRightsRow.holds Try.pinned (OpenSpec.ofChange planRightsSpec)

/-- ITS FALSE NEIGHBOUR: 'it returns false'. Refute it at one input. -/
def planRightsWrong : ChangeSpec := { name := "planRights", fn := fun _ => fun
  | [d1, d2] => { results := [.lit (.bool false)], args := [d1, d2] }
  | _ => none }
def PlanRightsWrongFalsely : Prop := planRightsRow.holds Try.pinned (OpenSpec.ofChange planRightsWrong)

/-- 'foliotlaw14.PlanFits': WHATEVER THE INPUT: true; the input reads as it did. -/
def planFitsSpec : ChangeSpec := { name := "planFits", fn := fun _ => fun
  | [d] => { results := [.lit (.bool true)], args := [d] }
  | _ => none }
def planFitsRow : OpenClaim := { program := "ytcgbdndkfonphaa", sum := "2e3a1bd3f4dcbe8c061f77d6f9af488d730c6ad9b6857ab8eecc4691ca156635", func := "foliot/foliotlaw14.PlanFits", spec := "planFits", unfollowed := true, recurses := true, apart := false }
def PlanFitsSaid : Prop := planFitsRow.holds Try.pinned (OpenSpec.ofChange planFitsSpec)

/-- ITS FALSE NEIGHBOUR: 'it returns false'. Refute it at one input. -/
def planFitsWrong : ChangeSpec := { name := "planFits", fn := fun _ => fun
  | [d] => { results := [.lit (.bool false)], args := [d] }
  | _ => none }
def PlanFitsWrongFalsely : Prop := planFitsRow.holds Try.pinned (OpenSpec.ofChange planFitsWrong)

/-- 'foliotlaw14.PlanLeast': WHATEVER THE INPUT: true; the input reads as it did. -/
def planLeastSpec : ChangeSpec := { name := "planLeast", fn := fun _ => fun
  | [d] => { results := [.lit (.bool true)], args := [d] }
  | _ => none }
def planLeastRow : OpenClaim := { program := "ytcgbdndkfonphaa", sum := "2e3a1bd3f4dcbe8c061f77d6f9af488d730c6ad9b6857ab8eecc4691ca156635", func := "foliot/foliotlaw14.PlanLeast", spec := "planLeast", unfollowed := true, recurses := true, apart := false }
def PlanLeastSaid : Prop := planLeastRow.holds Try.pinned (OpenSpec.ofChange planLeastSpec)

/-- ITS FALSE NEIGHBOUR: 'it returns false'. Refute it at one input. -/
def planLeastWrong : ChangeSpec := { name := "planLeast", fn := fun _ => fun
  | [d] => { results := [.lit (.bool false)], args := [d] }
  | _ => none }
def PlanLeastWrongFalsely : Prop := planLeastRow.holds Try.pinned (OpenSpec.ofChange planLeastWrong)

/-- 'foliotlaw14.PlanReads': WHATEVER THE INPUT: true; the input reads as it did. -/
def planReadsSpec : ChangeSpec := { name := "planReads", fn := fun _ => fun
  | [d] => { results := [.lit (.bool true)], args := [d] }
  | _ => none }
def planReadsRow : OpenClaim := { program := "ytcgbdndkfonphaa", sum := "2e3a1bd3f4dcbe8c061f77d6f9af488d730c6ad9b6857ab8eecc4691ca156635", func := "foliot/foliotlaw14.PlanReads", spec := "planReads", unfollowed := true, recurses := true, apart := false }
def PlanReadsSaid : Prop := planReadsRow.holds Try.pinned (OpenSpec.ofChange planReadsSpec)

/-- ITS FALSE NEIGHBOUR: 'it returns false'. Refute it at one input. -/
def planReadsWrong : ChangeSpec := { name := "planReads", fn := fun _ => fun
  | [d] => { results := [.lit (.bool false)], args := [d] }
  | _ => none }
def PlanReadsWrongFalsely : Prop := planReadsRow.holds Try.pinned (OpenSpec.ofChange planReadsWrong)

/- THE SECOND FORM. 'bulk': how many values and letters a reading holds, each counted each time it is reached (what is shared counts as often as it is met; a slice's spare places count too). A statement '..UptoSaid' is the law's where the arguments, and the package variables that the reading takes, are together of bulk at most 1048576: NARROWER than '..Said'. Prove '..Said' where nothing that the law and all that it calls make is longer than what came in: it says more and counts as full. Else prove '..UptoSaid'. A law counts once. -/
mutual
def uptoBulk {H : Type} : DataW H → Nat
  | .lit (.string bytes) => bytes.length + 1
  | .lit _ => 1
  | .nil => 1
  | .ptr d => uptoBulk d + 1
  | .slice elems spare => uptoBulkAll elems + uptoBulkAll spare + 1
  | .agg parts => uptoBulkAll parts + 1
  | .iface _ d => uptoBulk d + 1
  | .map entries => uptoBulkEntries entries + 1
  | .held _ => 1
def uptoBulkAll {H : Type} : List (DataW H) → Nat
  | [] => 0
  | d :: r => uptoBulk d + uptoBulkAll r
def uptoBulkEntries {H : Type} : List (Lit × DataW H) → Nat
  | [] => 0
  | x :: r => uptoBulkEntry x + uptoBulkEntries r
def uptoBulkEntry {H : Type} : Lit × DataW H → Nat
  | (.string bytes, d) => bytes.length + uptoBulk d + 1
  | (_, d) => uptoBulk d + 1
 end
def uptoSmall : (H : Type) → List (DataW H) → Bool := fun _ ds => decide (uptoBulkAll ds ≤ 1048576)
def OpenSpec.upto (s : _root_.Go.ChangeSpec) : _root_.Go.OpenSpec := { _root_.Go.OpenSpec.ofChange s with cond := some uptoSmall }

/-- 'foliotlaw15.CodeBodies', WHERE WHAT IT READS IS OF BULK AT MOST 1048576: true; the input reads as it did. -/
def codeBodiesUptoRow : OpenClaim := { program := "ytcgbdndkfonphaa", sum := "2e3a1bd3f4dcbe8c061f77d6f9af488d730c6ad9b6857ab8eecc4691ca156635", func := "foliot/foliotlaw15.CodeBodies", spec := "codeBodies", unfollowed := true, recurses := true, apart := false, narrowed := true }
def CodeBodiesUptoSaid : Prop := codeBodiesUptoRow.holds Try.pinned (OpenSpec.upto codeBodiesSpec)

/-- 'foliotlaw15.CodeWrites', WHERE WHAT IT READS IS OF BULK AT MOST 1048576: true; the input reads as it did. -/
def codeWritesUptoRow : OpenClaim := { program := "ytcgbdndkfonphaa", sum := "2e3a1bd3f4dcbe8c061f77d6f9af488d730c6ad9b6857ab8eecc4691ca156635", func := "foliot/foliotlaw15.CodeWrites", spec := "codeWrites", unfollowed := true, recurses := true, apart := false, narrowed := true }
def CodeWritesUptoSaid : Prop := codeWritesUptoRow.holds Try.pinned (OpenSpec.upto codeWritesSpec)

/-- 'foliotlaw14.PlanOf', WHERE WHAT IT READS IS OF BULK AT MOST 1048576: true; the input reads as it did. -/
def planOfUptoRow : OpenClaim := { program := "ytcgbdndkfonphaa", sum := "2e3a1bd3f4dcbe8c061f77d6f9af488d730c6ad9b6857ab8eecc4691ca156635", func := "foliot/foliotlaw14.PlanOf", spec := "planOf", unfollowed := true, recurses := true, apart := false, narrowed := true }
def PlanOfUptoSaid : Prop := planOfUptoRow.holds Try.pinned (OpenSpec.upto planOfSpec)

/-- 'foliotlaw14.PlanRights', WHERE WHAT IT READS IS OF BULK AT MOST 1048576: true; the input reads as it did. -/
def planRightsUptoRow : OpenClaim := { program := "ytcgbdndkfonphaa", sum := "2e3a1bd3f4dcbe8c061f77d6f9af488d730c6ad9b6857ab8eecc4691ca156635", func := "foliot/foliotlaw14.PlanRights", spec := "planRights", unfollowed := true, recurses := true, apart := false, narrowed := true }
def PlanRightsUptoSaid : Prop := planRightsUptoRow.holds Try.pinned (OpenSpec.upto planRightsSpec)

/-- 'foliotlaw14.PlanFits', WHERE WHAT IT READS IS OF BULK AT MOST 1048576: true; the input reads as it did. -/
def planFitsUptoRow : OpenClaim := { program := "ytcgbdndkfonphaa", sum := "2e3a1bd3f4dcbe8c061f77d6f9af488d730c6ad9b6857ab8eecc4691ca156635", func := "foliot/foliotlaw14.PlanFits", spec := "planFits", unfollowed := true, recurses := true, apart := false, narrowed := true }
def PlanFitsUptoSaid : Prop := planFitsUptoRow.holds Try.pinned (OpenSpec.upto planFitsSpec)

/-- 'foliotlaw14.PlanLeast', WHERE WHAT IT READS IS OF BULK AT MOST 1048576: true; the input reads as it did. -/
def planLeastUptoRow : OpenClaim := { program := "ytcgbdndkfonphaa", sum := "2e3a1bd3f4dcbe8c061f77d6f9af488d730c6ad9b6857ab8eecc4691ca156635", func := "foliot/foliotlaw14.PlanLeast", spec := "planLeast", unfollowed := true, recurses := true, apart := false, narrowed := true }
def PlanLeastUptoSaid : Prop := planLeastUptoRow.holds Try.pinned (OpenSpec.upto planLeastSpec)

/-- 'foliotlaw14.PlanReads', WHERE WHAT IT READS IS OF BULK AT MOST 1048576: true; the input reads as it did. -/
def planReadsUptoRow : OpenClaim := { program := "ytcgbdndkfonphaa", sum := "2e3a1bd3f4dcbe8c061f77d6f9af488d730c6ad9b6857ab8eecc4691ca156635", func := "foliot/foliotlaw14.PlanReads", spec := "planReads", unfollowed := true, recurses := true, apart := false, narrowed := true }
def PlanReadsUptoSaid : Prop := planReadsUptoRow.holds Try.pinned (OpenSpec.upto planReadsSpec)

end Rows
end Go.Proofs.Ytcgbdndkfonphaa
