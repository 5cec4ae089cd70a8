/-
  NARROWER THAN 'FOR EVERY INPUT', by the rows' own cells (each row's printed sentence says how): InitsLevel: loops · InitsTold: loops · InitsArrow: loops.
  DERIVED. THE GIVEN ROWS OF THIS SEAT. 3 by the template 'for every input the law returns true; each argument reads behind the call as it read before'; 0 by the template 'total and deterministic' (their statements: YtkogkfpiijmbgaaTotals.lean).
  GIVEN WITH THE SEED: the statements are not yours to turn. If you find one false, say at which input.
  Laid BY PROGRAM, IN A SANDBOX (cutbox-rows.mjs): the forced cells as the released guide's own fill.sh prints them over the translation fe5a33d8943bf353… (all of the seat's roots in one cut). By AI agents, Wed Nov 11 2026. No macro, syntax, notation, axiom, sorry.
-/
import Derived.Test.YtkogkfpiijmbgaaChecked
import GoSem.Claim
import GoSem.ClaimJoined
import GoSem.ClaimMapViews
import Derived.JoinedTies
import Derived.KernelRfl
namespace Go.Proofs.Ytkogkfpiijmbgaa
/- THE CELL 'sum', in the pinned program and in every row, IS THE sha256 OF THE DUMP (.gsa) THAT YtkogkfpiijmbgaaProg.lean LOADS. Nothing in Lean hashes anything: it is a label: what it is worth is what the hold of that sum in a sandbox is worth. -/
noncomputable def Try.pinned : Pinned := { name := "ytkogkfpiijmbgaa", sum := "fe5a33d8943bf35308a7ac31bb8edf4d82f811261d55bb1a1128b8b225a21f27", checked := Try.checked }
namespace Rows
def none {H : Type} : Left H := { results := [], args := [] }

/-- 'foliotlaw11.InitsLevel': WHATEVER THE INPUT: true; the input reads as it did. -/
def initsLevelSpec : ChangeSpec := { name := "initsLevel", fn := fun _ => fun
  | [d] => { results := [.lit (.bool true)], args := [d] }
  | _ => none }
def initsLevelRow : OpenClaim := { program := "ytkogkfpiijmbgaa", sum := "fe5a33d8943bf35308a7ac31bb8edf4d82f811261d55bb1a1128b8b225a21f27", func := "foliot/foliotlaw11.InitsLevel", spec := "initsLevel", inPlace := ["internal/bytealg.IndexByteString", "internal/bytealg.IndexString"], unfollowed := true, recurses := true, named := ["internal/bytealg.MaxLen"], loops := true, apart := false }
def InitsLevelSaid : Prop := initsLevelRow.holds Try.pinned (OpenSpec.ofChange initsLevelSpec)

/-- ITS FALSE NEIGHBOUR: 'it returns false'. Refute it at one input. -/
def initsLevelWrong : ChangeSpec := { name := "initsLevel", fn := fun _ => fun
  | [d] => { results := [.lit (.bool false)], args := [d] }
  | _ => none }
def InitsLevelWrongFalsely : Prop := initsLevelRow.holds Try.pinned (OpenSpec.ofChange initsLevelWrong)

/-- 'foliotlaw11.InitsTold': WHATEVER THE INPUT: true; the input reads as it did. -/
def initsToldSpec : ChangeSpec := { name := "initsTold", fn := fun _ => fun
  | [d] => { results := [.lit (.bool true)], args := [d] }
  | _ => none }
def initsToldRow : OpenClaim := { program := "ytkogkfpiijmbgaa", sum := "fe5a33d8943bf35308a7ac31bb8edf4d82f811261d55bb1a1128b8b225a21f27", func := "foliot/foliotlaw11.InitsTold", spec := "initsTold", inPlace := ["internal/bytealg.IndexByteString", "internal/bytealg.IndexString"], unfollowed := true, recurses := true, named := ["internal/bytealg.MaxLen"], loops := true, apart := false }
def InitsToldSaid : Prop := initsToldRow.holds Try.pinned (OpenSpec.ofChange initsToldSpec)

/-- ITS FALSE NEIGHBOUR: 'it returns false'. Refute it at one input. -/
def initsToldWrong : ChangeSpec := { name := "initsTold", fn := fun _ => fun
  | [d] => { results := [.lit (.bool false)], args := [d] }
  | _ => none }
def InitsToldWrongFalsely : Prop := initsToldRow.holds Try.pinned (OpenSpec.ofChange initsToldWrong)

/-- 'foliotlaw11.InitsArrow': WHATEVER THE INPUT: true; the input reads as it did. -/
def initsArrowSpec : ChangeSpec := { name := "initsArrow", fn := fun _ => fun
  | [d] => { results := [.lit (.bool true)], args := [d] }
  | _ => none }
def initsArrowRow : OpenClaim := { program := "ytkogkfpiijmbgaa", sum := "fe5a33d8943bf35308a7ac31bb8edf4d82f811261d55bb1a1128b8b225a21f27", func := "foliot/foliotlaw11.InitsArrow", spec := "initsArrow", inPlace := ["internal/bytealg.IndexByteString", "internal/bytealg.IndexString"], unfollowed := true, recurses := true, named := ["internal/bytealg.MaxLen"], loops := true, apart := false }
def InitsArrowSaid : Prop := initsArrowRow.holds Try.pinned (OpenSpec.ofChange initsArrowSpec)

/-- ITS FALSE NEIGHBOUR: 'it returns false'. Refute it at one input. -/
def initsArrowWrong : ChangeSpec := { name := "initsArrow", fn := fun _ => fun
  | [d] => { results := [.lit (.bool false)], args := [d] }
  | _ => none }
def InitsArrowWrongFalsely : Prop := initsArrowRow.holds Try.pinned (OpenSpec.ofChange initsArrowWrong)

/- THE SECOND FORM. 'bulk': how many values and letters a reading holds, each counted each time it is reached (what is shared counts as often as it is met; a slice's spare places count too). A statement '..UptoSaid' is the law's where the arguments, and the package variables that the reading takes, are together of bulk at most 1048576: NARROWER than '..Said'. Prove '..Said' where nothing that the law and all that it calls make is longer than what came in: it says more and counts as full. Else prove '..UptoSaid'. A law counts once. -/
mutual
def uptoBulk {H : Type} : DataW H → Nat
  | .lit (.string bytes) => bytes.length + 1
  | .lit _ => 1
  | .nil => 1
  | .ptr d => uptoBulk d + 1
  | .slice elems spare => uptoBulkAll elems + uptoBulkAll spare + 1
  | .agg parts => uptoBulkAll parts + 1
  | .iface _ d => uptoBulk d + 1
  | .map entries => uptoBulkEntries entries + 1
  | .held _ => 1
def uptoBulkAll {H : Type} : List (DataW H) → Nat
  | [] => 0
  | d :: r => uptoBulk d + uptoBulkAll r
def uptoBulkEntries {H : Type} : List (Lit × DataW H) → Nat
  | [] => 0
  | x :: r => uptoBulkEntry x + uptoBulkEntries r
def uptoBulkEntry {H : Type} : Lit × DataW H → Nat
  | (.string bytes, d) => bytes.length + uptoBulk d + 1
  | (_, d) => uptoBulk d + 1
 end
def uptoSmall : (H : Type) → List (DataW H) → Bool := fun _ ds => decide (uptoBulkAll ds ≤ 1048576)
def OpenSpec.upto (s : _root_.Go.ChangeSpec) : _root_.Go.OpenSpec := { _root_.Go.OpenSpec.ofChange s with cond := some uptoSmall }

/-- 'foliotlaw11.InitsLevel', WHERE WHAT IT READS IS OF BULK AT MOST 1048576: true; the input reads as it did. -/
def initsLevelUptoRow : OpenClaim := { program := "ytkogkfpiijmbgaa", sum := "fe5a33d8943bf35308a7ac31bb8edf4d82f811261d55bb1a1128b8b225a21f27", func := "foliot/foliotlaw11.InitsLevel", spec := "initsLevel", inPlace := ["internal/bytealg.IndexByteString", "internal/bytealg.IndexString"], unfollowed := true, recurses := true, named := ["internal/bytealg.MaxLen"], loops := true, apart := false, narrowed := true }
def InitsLevelUptoSaid : Prop := initsLevelUptoRow.holds Try.pinned (OpenSpec.upto initsLevelSpec)

/-- 'foliotlaw11.InitsTold', WHERE WHAT IT READS IS OF BULK AT MOST 1048576: true; the input reads as it did. -/
def initsToldUptoRow : OpenClaim := { program := "ytkogkfpiijmbgaa", sum := "fe5a33d8943bf35308a7ac31bb8edf4d82f811261d55bb1a1128b8b225a21f27", func := "foliot/foliotlaw11.InitsTold", spec := "initsTold", inPlace := ["internal/bytealg.IndexByteString", "internal/bytealg.IndexString"], unfollowed := true, recurses := true, named := ["internal/bytealg.MaxLen"], loops := true, apart := false, narrowed := true }
def InitsToldUptoSaid : Prop := initsToldUptoRow.holds Try.pinned (OpenSpec.upto initsToldSpec)

/-- 'foliotlaw11.InitsArrow', WHERE WHAT IT READS IS OF BULK AT MOST 1048576: true; the input reads as it did. -/
def initsArrowUptoRow : OpenClaim := { program := "ytkogkfpiijmbgaa", sum := "fe5a33d8943bf35308a7ac31bb8edf4d82f811261d55bb1a1128b8b225a21f27", func := "foliot/foliotlaw11.InitsArrow", spec := "initsArrow", inPlace := ["internal/bytealg.IndexByteString", "internal/bytealg.IndexString"], unfollowed := true, recurses := true, named := ["internal/bytealg.MaxLen"], loops := true, apart := false, narrowed := true }
def InitsArrowUptoSaid : Prop := initsArrowUptoRow.holds Try.pinned (OpenSpec.upto initsArrowSpec)

end Rows
end Go.Proofs.Ytkogkfpiijmbgaa
