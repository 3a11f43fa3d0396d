/-
  No cell of these rows narrows 'for every input' (looked for: loops, veiled, ifaces, maps, wideKeys, modest, calm, conditions, laid).
  DERIVED. THE GIVEN ROWS OF THIS SEAT. 8 by the template 'for every input the law returns true; each argument reads behind the call as it read before'; 0 by the template 'total and deterministic' (their statements: YtlfhmkjomogkiaaTotals.lean).
  GIVEN WITH THE SEED: the statements are not yours to turn. If you find one false, say at which input.
  Laid BY PROGRAM, IN A SANDBOX (cutbox-rows.mjs): the forced cells as the released guide's own fill.sh prints them over the translation 121272111a0ec226… (all of the seat's roots in one cut). By AI agents, Wed Nov 11 2026. No macro, syntax, notation, axiom, sorry.
-/
import Derived.Test.YtlfhmkjomogkiaaChecked
import GoSem.Claim
import GoSem.ClaimJoined
import GoSem.ClaimMapViews
import Derived.JoinedTies
import Derived.KernelRfl
namespace Go.Proofs.Ytlfhmkjomogkiaa
/- THE CELL 'sum', in the pinned program and in every row, IS THE sha256 OF THE DUMP (.gsa) THAT YtlfhmkjomogkiaaProg.lean LOADS. Nothing in Lean hashes anything: it is a label: what it is worth is what the hold of that sum in a sandbox is worth. -/
noncomputable def Try.pinned : Pinned := { name := "ytlfhmkjomogkiaa", sum := "121272111a0ec22622c71a095bf9b516eb9b61750c88c5dbf59b4091f357fc61", checked := Try.checked }
namespace Rows
def none {H : Type} : Left H := { results := [], args := [] }

/-- 'inkhornlaw02.WideNext': WHATEVER THE INPUT: true; the input reads as it did. -/
def wideNextSpec : ChangeSpec := { name := "wideNext", fn := fun _ => fun
  | [d1, d2] => { results := [.lit (.bool true)], args := [d1, d2] }
  | _ => none }
def wideNextRow : OpenClaim := { program := "ytlfhmkjomogkiaa", sum := "121272111a0ec22622c71a095bf9b516eb9b61750c88c5dbf59b4091f357fc61", func := "inkhorn/inkhornlaw02.WideNext", spec := "wideNext", inPlace := ["internal/abi.NoEscape"], apart := false }
def WideNextSaid : Prop := wideNextRow.holds Try.pinned (OpenSpec.ofChange wideNextSpec)

/-- ITS FALSE NEIGHBOUR: 'it returns false'. Refute it at one input. -/
def wideNextWrong : ChangeSpec := { name := "wideNext", fn := fun _ => fun
  | [d1, d2] => { results := [.lit (.bool false)], args := [d1, d2] }
  | _ => none }
def WideNextWrongFalsely : Prop := wideNextRow.holds Try.pinned (OpenSpec.ofChange wideNextWrong)

/-- 'inkhornlaw02.WideBytes': WHATEVER THE INPUT: true; the input reads as it did. -/
def wideBytesSpec : ChangeSpec := { name := "wideBytes", fn := fun _ => fun
  | [d1, d2] => { results := [.lit (.bool true)], args := [d1, d2] }
  | _ => none }
def wideBytesRow : OpenClaim := { program := "ytlfhmkjomogkiaa", sum := "121272111a0ec22622c71a095bf9b516eb9b61750c88c5dbf59b4091f357fc61", func := "inkhorn/inkhornlaw02.WideBytes", spec := "wideBytes", inPlace := ["internal/abi.NoEscape"], apart := false }
def WideBytesSaid : Prop := wideBytesRow.holds Try.pinned (OpenSpec.ofChange wideBytesSpec)

/-- ITS FALSE NEIGHBOUR: 'it returns false'. Refute it at one input. -/
def wideBytesWrong : ChangeSpec := { name := "wideBytes", fn := fun _ => fun
  | [d1, d2] => { results := [.lit (.bool false)], args := [d1, d2] }
  | _ => none }
def WideBytesWrongFalsely : Prop := wideBytesRow.holds Try.pinned (OpenSpec.ofChange wideBytesWrong)

/-- 'inkhornlaw02.WideTells': WHATEVER THE INPUT: true; the input reads as it did. -/
def wideTellsSpec : ChangeSpec := { name := "wideTells", fn := fun _ => fun
  | [d1, d2] => { results := [.lit (.bool true)], args := [d1, d2] }
  | _ => none }
def wideTellsRow : OpenClaim := { program := "ytlfhmkjomogkiaa", sum := "121272111a0ec22622c71a095bf9b516eb9b61750c88c5dbf59b4091f357fc61", func := "inkhorn/inkhornlaw02.WideTells", spec := "wideTells", inPlace := ["internal/abi.NoEscape"], apart := false }
def WideTellsSaid : Prop := wideTellsRow.holds Try.pinned (OpenSpec.ofChange wideTellsSpec)

/-- ITS FALSE NEIGHBOUR: 'it returns false'. Refute it at one input. -/
def wideTellsWrong : ChangeSpec := { name := "wideTells", fn := fun _ => fun
  | [d1, d2] => { results := [.lit (.bool false)], args := [d1, d2] }
  | _ => none }
def WideTellsWrongFalsely : Prop := wideTellsRow.holds Try.pinned (OpenSpec.ofChange wideTellsWrong)

/-- 'inkhornlaw02.WideDecodes': WHATEVER THE INPUT: true; the input reads as it did. -/
def wideDecodesSpec : ChangeSpec := { name := "wideDecodes", fn := fun _ => fun
  | [d1, d2, d3] => { results := [.lit (.bool true)], args := [d1, d2, d3] }
  | _ => none }
def wideDecodesRow : OpenClaim := { program := "ytlfhmkjomogkiaa", sum := "121272111a0ec22622c71a095bf9b516eb9b61750c88c5dbf59b4091f357fc61", func := "inkhorn/inkhornlaw02.WideDecodes", spec := "wideDecodes", inPlace := ["internal/abi.NoEscape", "internal/bytealg.MakeNoZero"], apart := false }
def WideDecodesSaid : Prop := wideDecodesRow.holds Try.pinned (OpenSpec.ofChange wideDecodesSpec)

/-- ITS FALSE NEIGHBOUR: 'it returns false'. Refute it at one input. -/
def wideDecodesWrong : ChangeSpec := { name := "wideDecodes", fn := fun _ => fun
  | [d1, d2, d3] => { results := [.lit (.bool false)], args := [d1, d2, d3] }
  | _ => none }
def WideDecodesWrongFalsely : Prop := wideDecodesRow.holds Try.pinned (OpenSpec.ofChange wideDecodesWrong)

/-- 'inkhornlaw02.WideKinds': WHATEVER THE INPUT: true; the input reads as it did. -/
def wideKindsSpec : ChangeSpec := { name := "wideKinds", fn := fun _ => fun
  | [d1, d2] => { results := [.lit (.bool true)], args := [d1, d2] }
  | _ => none }
def wideKindsRow : OpenClaim := { program := "ytlfhmkjomogkiaa", sum := "121272111a0ec22622c71a095bf9b516eb9b61750c88c5dbf59b4091f357fc61", func := "inkhorn/inkhornlaw02.WideKinds", spec := "wideKinds", inPlace := ["internal/abi.NoEscape", "internal/bytealg.MakeNoZero"], apart := false }
def WideKindsSaid : Prop := wideKindsRow.holds Try.pinned (OpenSpec.ofChange wideKindsSpec)

/-- ITS FALSE NEIGHBOUR: 'it returns false'. Refute it at one input. -/
def wideKindsWrong : ChangeSpec := { name := "wideKinds", fn := fun _ => fun
  | [d1, d2] => { results := [.lit (.bool false)], args := [d1, d2] }
  | _ => none }
def WideKindsWrongFalsely : Prop := wideKindsRow.holds Try.pinned (OpenSpec.ofChange wideKindsWrong)

/-- 'inkhornlaw02.WideParts': WHATEVER THE INPUT: true; the input reads as it did. -/
def widePartsSpec : ChangeSpec := { name := "wideParts", fn := fun _ => fun
  | [d1, d2, d3] => { results := [.lit (.bool true)], args := [d1, d2, d3] }
  | _ => none }
def widePartsRow : OpenClaim := { program := "ytlfhmkjomogkiaa", sum := "121272111a0ec22622c71a095bf9b516eb9b61750c88c5dbf59b4091f357fc61", func := "inkhorn/inkhornlaw02.WideParts", spec := "wideParts", inPlace := ["internal/abi.NoEscape", "internal/bytealg.MakeNoZero"], apart := false }
def WidePartsSaid : Prop := widePartsRow.holds Try.pinned (OpenSpec.ofChange widePartsSpec)

/-- ITS FALSE NEIGHBOUR: 'it returns false'. Refute it at one input. -/
def widePartsWrong : ChangeSpec := { name := "wideParts", fn := fun _ => fun
  | [d1, d2, d3] => { results := [.lit (.bool false)], args := [d1, d2, d3] }
  | _ => none }
def WidePartsWrongFalsely : Prop := widePartsRow.holds Try.pinned (OpenSpec.ofChange widePartsWrong)

/-- 'inkhornlaw02.WideBack': WHATEVER THE INPUT: true; the input reads as it did. -/
def wideBackSpec : ChangeSpec := { name := "wideBack", fn := fun _ => fun
  | [d1, d2, d3] => { results := [.lit (.bool true)], args := [d1, d2, d3] }
  | _ => none }
def wideBackRow : OpenClaim := { program := "ytlfhmkjomogkiaa", sum := "121272111a0ec22622c71a095bf9b516eb9b61750c88c5dbf59b4091f357fc61", func := "inkhorn/inkhornlaw02.WideBack", spec := "wideBack", inPlace := ["internal/abi.NoEscape", "internal/bytealg.MakeNoZero"], apart := false }
def WideBackSaid : Prop := wideBackRow.holds Try.pinned (OpenSpec.ofChange wideBackSpec)

/-- ITS FALSE NEIGHBOUR: 'it returns false'. Refute it at one input. -/
def wideBackWrong : ChangeSpec := { name := "wideBack", fn := fun _ => fun
  | [d1, d2, d3] => { results := [.lit (.bool false)], args := [d1, d2, d3] }
  | _ => none }
def WideBackWrongFalsely : Prop := wideBackRow.holds Try.pinned (OpenSpec.ofChange wideBackWrong)

/-- 'inkhornlaw02.WideJoins': WHATEVER THE INPUT: true; the input reads as it did. -/
def wideJoinsSpec : ChangeSpec := { name := "wideJoins", fn := fun _ => fun
  | [d1, d2, d3] => { results := [.lit (.bool true)], args := [d1, d2, d3] }
  | _ => none }
def wideJoinsRow : OpenClaim := { program := "ytlfhmkjomogkiaa", sum := "121272111a0ec22622c71a095bf9b516eb9b61750c88c5dbf59b4091f357fc61", func := "inkhorn/inkhornlaw02.WideJoins", spec := "wideJoins", inPlace := ["internal/abi.NoEscape", "internal/bytealg.MakeNoZero"], apart := false }
def WideJoinsSaid : Prop := wideJoinsRow.holds Try.pinned (OpenSpec.ofChange wideJoinsSpec)

/-- ITS FALSE NEIGHBOUR: 'it returns false'. Refute it at one input. -/
def wideJoinsWrong : ChangeSpec := { name := "wideJoins", fn := fun _ => fun
  | [d1, d2, d3] => { results := [.lit (.bool false)], args := [d1, d2, d3] }
  | _ => none }
def WideJoinsWrongFalsely : Prop := wideJoinsRow.holds Try.pinned (OpenSpec.ofChange wideJoinsWrong)

/- THE SECOND FORM. 'bulk': how many values and letters a reading holds, each counted each time it is reached (what is shared counts as often as it is met; a slice's spare places count too). A statement '..UptoSaid' is the law's where the arguments, and the package variables that the reading takes, are together of bulk at most 1048576: NARROWER than '..Said'. Prove '..Said' where nothing that the law and all that it calls make is longer than what came in: it says more and counts as full. Else prove '..UptoSaid'. A law counts once. -/
mutual
def uptoBulk {H : Type} : DataW H → Nat
  | .lit (.string bytes) => bytes.length + 1
  | .lit _ => 1
  | .nil => 1
  | .ptr d => uptoBulk d + 1
  | .slice elems spare => uptoBulkAll elems + uptoBulkAll spare + 1
  | .agg parts => uptoBulkAll parts + 1
  | .iface _ d => uptoBulk d + 1
  | .map entries => uptoBulkEntries entries + 1
  | .held _ => 1
def uptoBulkAll {H : Type} : List (DataW H) → Nat
  | [] => 0
  | d :: r => uptoBulk d + uptoBulkAll r
def uptoBulkEntries {H : Type} : List (Lit × DataW H) → Nat
  | [] => 0
  | x :: r => uptoBulkEntry x + uptoBulkEntries r
def uptoBulkEntry {H : Type} : Lit × DataW H → Nat
  | (.string bytes, d) => bytes.length + uptoBulk d + 1
  | (_, d) => uptoBulk d + 1
 end
def uptoSmall : (H : Type) → List (DataW H) → Bool := fun _ ds => decide (uptoBulkAll ds ≤ 1048576)
def OpenSpec.upto (s : _root_.Go.ChangeSpec) : _root_.Go.OpenSpec := { _root_.Go.OpenSpec.ofChange s with cond := some uptoSmall }

/-- 'inkhornlaw02.WideNext', WHERE WHAT IT READS IS OF BULK AT MOST 1048576: true; the input reads as it did. -/
def wideNextUptoRow : OpenClaim := { program := "ytlfhmkjomogkiaa", sum := "121272111a0ec22622c71a095bf9b516eb9b61750c88c5dbf59b4091f357fc61", func := "inkhorn/inkhornlaw02.WideNext", spec := "wideNext", inPlace := ["internal/abi.NoEscape"], apart := false, narrowed := true }
def WideNextUptoSaid : Prop := wideNextUptoRow.holds Try.pinned (OpenSpec.upto wideNextSpec)

/-- 'inkhornlaw02.WideBytes', WHERE WHAT IT READS IS OF BULK AT MOST 1048576: true; the input reads as it did. -/
def wideBytesUptoRow : OpenClaim := { program := "ytlfhmkjomogkiaa", sum := "121272111a0ec22622c71a095bf9b516eb9b61750c88c5dbf59b4091f357fc61", func := "inkhorn/inkhornlaw02.WideBytes", spec := "wideBytes", inPlace := ["internal/abi.NoEscape"], apart := false, narrowed := true }
def WideBytesUptoSaid : Prop := wideBytesUptoRow.holds Try.pinned (OpenSpec.upto wideBytesSpec)

/-- 'inkhornlaw02.WideTells', WHERE WHAT IT READS IS OF BULK AT MOST 1048576: true; the input reads as it did. -/
def wideTellsUptoRow : OpenClaim := { program := "ytlfhmkjomogkiaa", sum := "121272111a0ec22622c71a095bf9b516eb9b61750c88c5dbf59b4091f357fc61", func := "inkhorn/inkhornlaw02.WideTells", spec := "wideTells", inPlace := ["internal/abi.NoEscape"], apart := false, narrowed := true }
def WideTellsUptoSaid : Prop := wideTellsUptoRow.holds Try.pinned (OpenSpec.upto wideTellsSpec)

/-- 'inkhornlaw02.WideDecodes', WHERE WHAT IT READS IS OF BULK AT MOST 1048576: true; the input reads as it did. -/
def wideDecodesUptoRow : OpenClaim := { program := "ytlfhmkjomogkiaa", sum := "121272111a0ec22622c71a095bf9b516eb9b61750c88c5dbf59b4091f357fc61", func := "inkhorn/inkhornlaw02.WideDecodes", spec := "wideDecodes", inPlace := ["internal/abi.NoEscape", "internal/bytealg.MakeNoZero"], apart := false, narrowed := true }
def WideDecodesUptoSaid : Prop := wideDecodesUptoRow.holds Try.pinned (OpenSpec.upto wideDecodesSpec)

/-- 'inkhornlaw02.WideKinds', WHERE WHAT IT READS IS OF BULK AT MOST 1048576: true; the input reads as it did. -/
def wideKindsUptoRow : OpenClaim := { program := "ytlfhmkjomogkiaa", sum := "121272111a0ec22622c71a095bf9b516eb9b61750c88c5dbf59b4091f357fc61", func := "inkhorn/inkhornlaw02.WideKinds", spec := "wideKinds", inPlace := ["internal/abi.NoEscape", "internal/bytealg.MakeNoZero"], apart := false, narrowed := true }
def WideKindsUptoSaid : Prop := wideKindsUptoRow.holds Try.pinned (OpenSpec.upto wideKindsSpec)

/-- 'inkhornlaw02.WideParts', WHERE WHAT IT READS IS OF BULK AT MOST 1048576: true; the input reads as it did. -/
def widePartsUptoRow : OpenClaim := { program := "ytlfhmkjomogkiaa", sum := "121272111a0ec22622c71a095bf9b516eb9b61750c88c5dbf59b4091f357fc61", func := "inkhorn/inkhornlaw02.WideParts", spec := "wideParts", inPlace := ["internal/abi.NoEscape", "internal/bytealg.MakeNoZero"], apart := false, narrowed := true }
def WidePartsUptoSaid : Prop := widePartsUptoRow.holds Try.pinned (OpenSpec.upto widePartsSpec)

/-- 'inkhornlaw02.WideBack', WHERE WHAT IT READS IS OF BULK AT MOST 1048576: true; the input reads as it did. -/
def wideBackUptoRow : OpenClaim := { program := "ytlfhmkjomogkiaa", sum := "121272111a0ec22622c71a095bf9b516eb9b61750c88c5dbf59b4091f357fc61", func := "inkhorn/inkhornlaw02.WideBack", spec := "wideBack", inPlace := ["internal/abi.NoEscape", "internal/bytealg.MakeNoZero"], apart := false, narrowed := true }
def WideBackUptoSaid : Prop := wideBackUptoRow.holds Try.pinned (OpenSpec.upto wideBackSpec)

/-- 'inkhornlaw02.WideJoins', WHERE WHAT IT READS IS OF BULK AT MOST 1048576: true; the input reads as it did. -/
def wideJoinsUptoRow : OpenClaim := { program := "ytlfhmkjomogkiaa", sum := "121272111a0ec22622c71a095bf9b516eb9b61750c88c5dbf59b4091f357fc61", func := "inkhorn/inkhornlaw02.WideJoins", spec := "wideJoins", inPlace := ["internal/abi.NoEscape", "internal/bytealg.MakeNoZero"], apart := false, narrowed := true }
def WideJoinsUptoSaid : Prop := wideJoinsUptoRow.holds Try.pinned (OpenSpec.upto wideJoinsSpec)

end Rows
end Go.Proofs.Ytlfhmkjomogkiaa
