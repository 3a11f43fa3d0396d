/-
  NARROWER THAN 'FOR EVERY INPUT', by the rows' own cells (each row's printed sentence says how): UtfNext: laid · UtfBytes: laid · UtfParts: laid · UtfOrder: laid · UtfDecodes: laid · UtfCuts: laid · UtfBack: laid · UtfJoins: laid · StreamWhole: laid · StreamMarks: laid · StreamSure: laid · StreamNil: laid · StreamParts: laid.
  DERIVED. THE GIVEN ROWS OF THIS SEAT. 13 by the template 'for every input the law returns true; each argument reads behind the call as it read before'; 0 by the template 'total and deterministic' (their statements: YtlfhmkjomogkiaaDoorTotals.lean).
  GIVEN WITH THE SEED: the statements are not yours to turn. If you find one false, say at which input.
  Laid BY PROGRAM, IN A SANDBOX (cutbox-rows.mjs): the forced cells as the released guide's own fill.sh prints them over the translation 9a2067be142a4b8a… (all of the seat's roots in one cut). By AI agents, Wed Nov 11 2026. No macro, syntax, notation, axiom, sorry.
-/
import Derived.Test.YtlfhmkjomogkiaaDoorChecked
import GoSem.Claim
import GoSem.ClaimJoined
import GoSem.ClaimMapViews
import Derived.JoinedTies
import Derived.KernelRfl
namespace Go.Proofs.YtlfhmkjomogkiaaDoor
/- THE CELL 'sum', in the pinned program and in every row, IS THE sha256 OF THE DUMP (.gsa) THAT YtlfhmkjomogkiaaDoorProg.lean LOADS. Nothing in Lean hashes anything: it is a label: what it is worth is what the hold of that sum in a sandbox is worth. -/
noncomputable def Tryd.pinned : Pinned := { name := "ytlfhmkjomogkiaadoor", sum := "9a2067be142a4b8a38dc6dbb7f3cfd27de2f3b924f74a0479d1311e6d4198a6b", checked := Tryd.checked }
namespace Rows
def none {H : Type} : Left H := { results := [], args := [] }

/- WHAT THE LISTED PACKAGE-LEVEL VARIABLES READ AS WHEN THE CALL BEGINS. Each datum BY PROGRAM (the guide's laid-datum.mjs) off the statement by which the dump's own 'gosem.cut.vars' lays the variable. In a bare row this is a premise. The card (YtlfhmkjomogkiaaDoorCards.lean) ties it to the program's text. -/
def laid_inkhorn_utf8_rows {H : Type} : DataW H := .agg [.agg [.lit (.int .i32 127), .lit (.int .i64 0), .lit (.int .i64 7)], .agg [.lit (.int .i32 2047), .lit (.int .i64 192), .lit (.int .i64 5)], .agg [.lit (.int .i32 65535), .lit (.int .i64 224), .lit (.int .i64 4)], .agg [.lit (.int .i32 1114111), .lit (.int .i64 240), .lit (.int .i64 3)]]

/-- 'inkhornlaw01.UtfNext': WHATEVER THE INPUT: true; the input reads as it did. -/
def utfNextSpec : ChangeSpec := { name := "utfNext", fn := fun _ => fun
  | [d] => { results := [.lit (.bool true)], args := [d] }
  | _ => none }
def utfNextRow : OpenClaim := { program := "ytlfhmkjomogkiaadoor", sum := "9a2067be142a4b8a38dc6dbb7f3cfd27de2f3b924f74a0479d1311e6d4198a6b", func := "inkhorn/inkhornlaw01.UtfNext", spec := "utfNext", inPlace := ["internal/abi.NoEscape", "internal/bytealg.MakeNoZero"], named := ["inkhorn/utf8.rows"], apart := false, laid := [("inkhorn/utf8.rows", laid_inkhorn_utf8_rows)] }
def UtfNextSaid : Prop := utfNextRow.holds Tryd.pinned (OpenSpec.ofChange utfNextSpec)

/-- ITS FALSE NEIGHBOUR: 'it returns false'. Refute it at one input. -/
def utfNextWrong : ChangeSpec := { name := "utfNext", fn := fun _ => fun
  | [d] => { results := [.lit (.bool false)], args := [d] }
  | _ => none }
def UtfNextWrongFalsely : Prop := utfNextRow.holds Tryd.pinned (OpenSpec.ofChange utfNextWrong)

/-- 'inkhornlaw01.UtfBytes': WHATEVER THE INPUT: true; the input reads as it did. -/
def utfBytesSpec : ChangeSpec := { name := "utfBytes", fn := fun _ => fun
  | [d] => { results := [.lit (.bool true)], args := [d] }
  | _ => none }
def utfBytesRow : OpenClaim := { program := "ytlfhmkjomogkiaadoor", sum := "9a2067be142a4b8a38dc6dbb7f3cfd27de2f3b924f74a0479d1311e6d4198a6b", func := "inkhorn/inkhornlaw01.UtfBytes", spec := "utfBytes", inPlace := ["internal/abi.NoEscape", "internal/bytealg.MakeNoZero"], named := ["inkhorn/utf8.rows"], apart := false, laid := [("inkhorn/utf8.rows", laid_inkhorn_utf8_rows)] }
def UtfBytesSaid : Prop := utfBytesRow.holds Tryd.pinned (OpenSpec.ofChange utfBytesSpec)

/-- ITS FALSE NEIGHBOUR: 'it returns false'. Refute it at one input. -/
def utfBytesWrong : ChangeSpec := { name := "utfBytes", fn := fun _ => fun
  | [d] => { results := [.lit (.bool false)], args := [d] }
  | _ => none }
def UtfBytesWrongFalsely : Prop := utfBytesRow.holds Tryd.pinned (OpenSpec.ofChange utfBytesWrong)

/-- 'inkhornlaw01.UtfParts': WHATEVER THE INPUT: true; the input reads as it did. -/
def utfPartsSpec : ChangeSpec := { name := "utfParts", fn := fun _ => fun
  | [d1, d2] => { results := [.lit (.bool true)], args := [d1, d2] }
  | _ => none }
def utfPartsRow : OpenClaim := { program := "ytlfhmkjomogkiaadoor", sum := "9a2067be142a4b8a38dc6dbb7f3cfd27de2f3b924f74a0479d1311e6d4198a6b", func := "inkhorn/inkhornlaw01.UtfParts", spec := "utfParts", inPlace := ["internal/abi.NoEscape", "internal/bytealg.MakeNoZero"], named := ["inkhorn/utf8.rows"], apart := false, laid := [("inkhorn/utf8.rows", laid_inkhorn_utf8_rows)] }
def UtfPartsSaid : Prop := utfPartsRow.holds Tryd.pinned (OpenSpec.ofChange utfPartsSpec)

/-- ITS FALSE NEIGHBOUR: 'it returns false'. Refute it at one input. -/
def utfPartsWrong : ChangeSpec := { name := "utfParts", fn := fun _ => fun
  | [d1, d2] => { results := [.lit (.bool false)], args := [d1, d2] }
  | _ => none }
def UtfPartsWrongFalsely : Prop := utfPartsRow.holds Tryd.pinned (OpenSpec.ofChange utfPartsWrong)

/-- 'inkhornlaw01.UtfOrder': WHATEVER THE INPUT: true; the input reads as it did. -/
def utfOrderSpec : ChangeSpec := { name := "utfOrder", fn := fun _ => fun
  | [d1, d2] => { results := [.lit (.bool true)], args := [d1, d2] }
  | _ => none }
def utfOrderRow : OpenClaim := { program := "ytlfhmkjomogkiaadoor", sum := "9a2067be142a4b8a38dc6dbb7f3cfd27de2f3b924f74a0479d1311e6d4198a6b", func := "inkhorn/inkhornlaw01.UtfOrder", spec := "utfOrder", inPlace := ["internal/abi.NoEscape", "internal/bytealg.MakeNoZero"], named := ["inkhorn/utf8.rows"], apart := false, laid := [("inkhorn/utf8.rows", laid_inkhorn_utf8_rows)] }
def UtfOrderSaid : Prop := utfOrderRow.holds Tryd.pinned (OpenSpec.ofChange utfOrderSpec)

/-- ITS FALSE NEIGHBOUR: 'it returns false'. Refute it at one input. -/
def utfOrderWrong : ChangeSpec := { name := "utfOrder", fn := fun _ => fun
  | [d1, d2] => { results := [.lit (.bool false)], args := [d1, d2] }
  | _ => none }
def UtfOrderWrongFalsely : Prop := utfOrderRow.holds Tryd.pinned (OpenSpec.ofChange utfOrderWrong)

/-- 'inkhornlaw01.UtfDecodes': WHATEVER THE INPUT: true; the input reads as it did. -/
def utfDecodesSpec : ChangeSpec := { name := "utfDecodes", fn := fun _ => fun
  | [d1, d2] => { results := [.lit (.bool true)], args := [d1, d2] }
  | _ => none }
def utfDecodesRow : OpenClaim := { program := "ytlfhmkjomogkiaadoor", sum := "9a2067be142a4b8a38dc6dbb7f3cfd27de2f3b924f74a0479d1311e6d4198a6b", func := "inkhorn/inkhornlaw01.UtfDecodes", spec := "utfDecodes", inPlace := ["internal/abi.NoEscape", "internal/bytealg.MakeNoZero"], named := ["inkhorn/utf8.rows"], apart := false, laid := [("inkhorn/utf8.rows", laid_inkhorn_utf8_rows)] }
def UtfDecodesSaid : Prop := utfDecodesRow.holds Tryd.pinned (OpenSpec.ofChange utfDecodesSpec)

/-- ITS FALSE NEIGHBOUR: 'it returns false'. Refute it at one input. -/
def utfDecodesWrong : ChangeSpec := { name := "utfDecodes", fn := fun _ => fun
  | [d1, d2] => { results := [.lit (.bool false)], args := [d1, d2] }
  | _ => none }
def UtfDecodesWrongFalsely : Prop := utfDecodesRow.holds Tryd.pinned (OpenSpec.ofChange utfDecodesWrong)

/-- 'inkhornlaw01.UtfCuts': WHATEVER THE INPUT: true; the input reads as it did. -/
def utfCutsSpec : ChangeSpec := { name := "utfCuts", fn := fun _ => fun
  | [d] => { results := [.lit (.bool true)], args := [d] }
  | _ => none }
def utfCutsRow : OpenClaim := { program := "ytlfhmkjomogkiaadoor", sum := "9a2067be142a4b8a38dc6dbb7f3cfd27de2f3b924f74a0479d1311e6d4198a6b", func := "inkhorn/inkhornlaw01.UtfCuts", spec := "utfCuts", inPlace := ["internal/abi.NoEscape", "internal/bytealg.MakeNoZero"], named := ["inkhorn/utf8.rows"], apart := false, laid := [("inkhorn/utf8.rows", laid_inkhorn_utf8_rows)] }
def UtfCutsSaid : Prop := utfCutsRow.holds Tryd.pinned (OpenSpec.ofChange utfCutsSpec)

/-- ITS FALSE NEIGHBOUR: 'it returns false'. Refute it at one input. -/
def utfCutsWrong : ChangeSpec := { name := "utfCuts", fn := fun _ => fun
  | [d] => { results := [.lit (.bool false)], args := [d] }
  | _ => none }
def UtfCutsWrongFalsely : Prop := utfCutsRow.holds Tryd.pinned (OpenSpec.ofChange utfCutsWrong)

/-- 'inkhornlaw01.UtfBack': WHATEVER THE INPUT: true; the input reads as it did. -/
def utfBackSpec : ChangeSpec := { name := "utfBack", fn := fun _ => fun
  | [d1, d2] => { results := [.lit (.bool true)], args := [d1, d2] }
  | _ => none }
def utfBackRow : OpenClaim := { program := "ytlfhmkjomogkiaadoor", sum := "9a2067be142a4b8a38dc6dbb7f3cfd27de2f3b924f74a0479d1311e6d4198a6b", func := "inkhorn/inkhornlaw01.UtfBack", spec := "utfBack", inPlace := ["internal/abi.NoEscape", "internal/bytealg.MakeNoZero"], named := ["inkhorn/utf8.rows"], apart := false, laid := [("inkhorn/utf8.rows", laid_inkhorn_utf8_rows)] }
def UtfBackSaid : Prop := utfBackRow.holds Tryd.pinned (OpenSpec.ofChange utfBackSpec)

/-- ITS FALSE NEIGHBOUR: 'it returns false'. Refute it at one input. -/
def utfBackWrong : ChangeSpec := { name := "utfBack", fn := fun _ => fun
  | [d1, d2] => { results := [.lit (.bool false)], args := [d1, d2] }
  | _ => none }
def UtfBackWrongFalsely : Prop := utfBackRow.holds Tryd.pinned (OpenSpec.ofChange utfBackWrong)

/-- 'inkhornlaw01.UtfJoins': WHATEVER THE INPUT: true; the input reads as it did. -/
def utfJoinsSpec : ChangeSpec := { name := "utfJoins", fn := fun _ => fun
  | [d1, d2] => { results := [.lit (.bool true)], args := [d1, d2] }
  | _ => none }
def utfJoinsRow : OpenClaim := { program := "ytlfhmkjomogkiaadoor", sum := "9a2067be142a4b8a38dc6dbb7f3cfd27de2f3b924f74a0479d1311e6d4198a6b", func := "inkhorn/inkhornlaw01.UtfJoins", spec := "utfJoins", inPlace := ["internal/abi.NoEscape", "internal/bytealg.MakeNoZero"], named := ["inkhorn/utf8.rows"], apart := false, laid := [("inkhorn/utf8.rows", laid_inkhorn_utf8_rows)] }
def UtfJoinsSaid : Prop := utfJoinsRow.holds Tryd.pinned (OpenSpec.ofChange utfJoinsSpec)

/-- ITS FALSE NEIGHBOUR: 'it returns false'. Refute it at one input. -/
def utfJoinsWrong : ChangeSpec := { name := "utfJoins", fn := fun _ => fun
  | [d1, d2] => { results := [.lit (.bool false)], args := [d1, d2] }
  | _ => none }
def UtfJoinsWrongFalsely : Prop := utfJoinsRow.holds Tryd.pinned (OpenSpec.ofChange utfJoinsWrong)

/-- 'inkhornlaw03.StreamWhole': WHATEVER THE INPUT: true; the input reads as it did. -/
def streamWholeSpec : ChangeSpec := { name := "streamWhole", fn := fun _ => fun
  | [d1, d2] => { results := [.lit (.bool true)], args := [d1, d2] }
  | _ => none }
def streamWholeRow : OpenClaim := { program := "ytlfhmkjomogkiaadoor", sum := "9a2067be142a4b8a38dc6dbb7f3cfd27de2f3b924f74a0479d1311e6d4198a6b", func := "inkhorn/inkhornlaw03.StreamWhole", spec := "streamWhole", inPlace := ["internal/abi.NoEscape", "internal/bytealg.MakeNoZero"], unfollowed := true, recurses := true, named := ["inkhorn/utf8.rows"], apart := false, laid := [("inkhorn/utf8.rows", laid_inkhorn_utf8_rows)] }
def StreamWholeSaid : Prop := streamWholeRow.holds Tryd.pinned (OpenSpec.ofChange streamWholeSpec)

/-- ITS FALSE NEIGHBOUR: 'it returns false'. Refute it at one input. -/
def streamWholeWrong : ChangeSpec := { name := "streamWhole", fn := fun _ => fun
  | [d1, d2] => { results := [.lit (.bool false)], args := [d1, d2] }
  | _ => none }
def StreamWholeWrongFalsely : Prop := streamWholeRow.holds Tryd.pinned (OpenSpec.ofChange streamWholeWrong)

/-- 'inkhornlaw03.StreamMarks': WHATEVER THE INPUT: true; the input reads as it did. -/
def streamMarksSpec : ChangeSpec := { name := "streamMarks", fn := fun _ => fun
  | [d1, d2, d3] => { results := [.lit (.bool true)], args := [d1, d2, d3] }
  | _ => none }
def streamMarksRow : OpenClaim := { program := "ytlfhmkjomogkiaadoor", sum := "9a2067be142a4b8a38dc6dbb7f3cfd27de2f3b924f74a0479d1311e6d4198a6b", func := "inkhorn/inkhornlaw03.StreamMarks", spec := "streamMarks", inPlace := ["internal/abi.NoEscape", "internal/bytealg.MakeNoZero"], unfollowed := true, recurses := true, named := ["inkhorn/utf8.rows"], apart := false, laid := [("inkhorn/utf8.rows", laid_inkhorn_utf8_rows)] }
def StreamMarksSaid : Prop := streamMarksRow.holds Tryd.pinned (OpenSpec.ofChange streamMarksSpec)

/-- ITS FALSE NEIGHBOUR: 'it returns false'. Refute it at one input. -/
def streamMarksWrong : ChangeSpec := { name := "streamMarks", fn := fun _ => fun
  | [d1, d2, d3] => { results := [.lit (.bool false)], args := [d1, d2, d3] }
  | _ => none }
def StreamMarksWrongFalsely : Prop := streamMarksRow.holds Tryd.pinned (OpenSpec.ofChange streamMarksWrong)

/-- 'inkhornlaw03.StreamSure': WHATEVER THE INPUT: true; the input reads as it did. -/
def streamSureSpec : ChangeSpec := { name := "streamSure", fn := fun _ => fun
  | [d1, d2, d3] => { results := [.lit (.bool true)], args := [d1, d2, d3] }
  | _ => none }
def streamSureRow : OpenClaim := { program := "ytlfhmkjomogkiaadoor", sum := "9a2067be142a4b8a38dc6dbb7f3cfd27de2f3b924f74a0479d1311e6d4198a6b", func := "inkhorn/inkhornlaw03.StreamSure", spec := "streamSure", inPlace := ["internal/abi.NoEscape", "internal/bytealg.MakeNoZero"], unfollowed := true, recurses := true, named := ["inkhorn/utf8.rows"], apart := false, laid := [("inkhorn/utf8.rows", laid_inkhorn_utf8_rows)] }
def StreamSureSaid : Prop := streamSureRow.holds Tryd.pinned (OpenSpec.ofChange streamSureSpec)

/-- ITS FALSE NEIGHBOUR: 'it returns false'. Refute it at one input. -/
def streamSureWrong : ChangeSpec := { name := "streamSure", fn := fun _ => fun
  | [d1, d2, d3] => { results := [.lit (.bool false)], args := [d1, d2, d3] }
  | _ => none }
def StreamSureWrongFalsely : Prop := streamSureRow.holds Tryd.pinned (OpenSpec.ofChange streamSureWrong)

/-- 'inkhornlaw03.StreamNil': WHATEVER THE INPUT: true; the input reads as it did. -/
def streamNilSpec : ChangeSpec := { name := "streamNil", fn := fun _ => fun
  | [d] => { results := [.lit (.bool true)], args := [d] }
  | _ => none }
def streamNilRow : OpenClaim := { program := "ytlfhmkjomogkiaadoor", sum := "9a2067be142a4b8a38dc6dbb7f3cfd27de2f3b924f74a0479d1311e6d4198a6b", func := "inkhorn/inkhornlaw03.StreamNil", spec := "streamNil", inPlace := ["internal/abi.NoEscape", "internal/bytealg.MakeNoZero"], unfollowed := true, recurses := true, named := ["inkhorn/utf8.rows"], apart := false, laid := [("inkhorn/utf8.rows", laid_inkhorn_utf8_rows)] }
def StreamNilSaid : Prop := streamNilRow.holds Tryd.pinned (OpenSpec.ofChange streamNilSpec)

/-- ITS FALSE NEIGHBOUR: 'it returns false'. Refute it at one input. -/
def streamNilWrong : ChangeSpec := { name := "streamNil", fn := fun _ => fun
  | [d] => { results := [.lit (.bool false)], args := [d] }
  | _ => none }
def StreamNilWrongFalsely : Prop := streamNilRow.holds Tryd.pinned (OpenSpec.ofChange streamNilWrong)

/-- 'inkhornlaw03.StreamParts': WHATEVER THE INPUT: true; the input reads as it did. -/
def streamPartsSpec : ChangeSpec := { name := "streamParts", fn := fun _ => fun
  | [d1, d2] => { results := [.lit (.bool true)], args := [d1, d2] }
  | _ => none }
def streamPartsRow : OpenClaim := { program := "ytlfhmkjomogkiaadoor", sum := "9a2067be142a4b8a38dc6dbb7f3cfd27de2f3b924f74a0479d1311e6d4198a6b", func := "inkhorn/inkhornlaw03.StreamParts", spec := "streamParts", inPlace := ["internal/abi.NoEscape", "internal/bytealg.MakeNoZero"], unfollowed := true, recurses := true, named := ["inkhorn/utf8.rows"], apart := false, laid := [("inkhorn/utf8.rows", laid_inkhorn_utf8_rows)] }
def StreamPartsSaid : Prop := streamPartsRow.holds Tryd.pinned (OpenSpec.ofChange streamPartsSpec)

/-- ITS FALSE NEIGHBOUR: 'it returns false'. Refute it at one input. -/
def streamPartsWrong : ChangeSpec := { name := "streamParts", fn := fun _ => fun
  | [d1, d2] => { results := [.lit (.bool false)], args := [d1, d2] }
  | _ => none }
def StreamPartsWrongFalsely : Prop := streamPartsRow.holds Tryd.pinned (OpenSpec.ofChange streamPartsWrong)

/- THE SECOND FORM. 'bulk': how many values and letters a reading holds, each counted each time it is reached (what is shared counts as often as it is met; a slice's spare places count too). A statement '..UptoSaid' is the law's where the arguments, and the package variables that the reading takes, are together of bulk at most 1048576: NARROWER than '..Said'. Prove '..Said' where nothing that the law and all that it calls make is longer than what came in: it says more and counts as full. Else prove '..UptoSaid'. A law counts once. -/
mutual
def uptoBulk {H : Type} : DataW H → Nat
  | .lit (.string bytes) => bytes.length + 1
  | .lit _ => 1
  | .nil => 1
  | .ptr d => uptoBulk d + 1
  | .slice elems spare => uptoBulkAll elems + uptoBulkAll spare + 1
  | .agg parts => uptoBulkAll parts + 1
  | .iface _ d => uptoBulk d + 1
  | .map entries => uptoBulkEntries entries + 1
  | .held _ => 1
def uptoBulkAll {H : Type} : List (DataW H) → Nat
  | [] => 0
  | d :: r => uptoBulk d + uptoBulkAll r
def uptoBulkEntries {H : Type} : List (Lit × DataW H) → Nat
  | [] => 0
  | x :: r => uptoBulkEntry x + uptoBulkEntries r
def uptoBulkEntry {H : Type} : Lit × DataW H → Nat
  | (.string bytes, d) => bytes.length + uptoBulk d + 1
  | (_, d) => uptoBulk d + 1
 end
def uptoSmall : (H : Type) → List (DataW H) → Bool := fun _ ds => decide (uptoBulkAll ds ≤ 1048576)
def OpenSpec.upto (s : _root_.Go.ChangeSpec) : _root_.Go.OpenSpec := { _root_.Go.OpenSpec.ofChange s with cond := some uptoSmall }

/-- 'inkhornlaw01.UtfNext', WHERE WHAT IT READS IS OF BULK AT MOST 1048576: true; the input reads as it did. -/
def utfNextUptoRow : OpenClaim := { program := "ytlfhmkjomogkiaadoor", sum := "9a2067be142a4b8a38dc6dbb7f3cfd27de2f3b924f74a0479d1311e6d4198a6b", func := "inkhorn/inkhornlaw01.UtfNext", spec := "utfNext", inPlace := ["internal/abi.NoEscape", "internal/bytealg.MakeNoZero"], named := ["inkhorn/utf8.rows"], apart := false, laid := [("inkhorn/utf8.rows", laid_inkhorn_utf8_rows)], narrowed := true }
def UtfNextUptoSaid : Prop := utfNextUptoRow.holds Tryd.pinned (OpenSpec.upto utfNextSpec)

/-- 'inkhornlaw01.UtfBytes', WHERE WHAT IT READS IS OF BULK AT MOST 1048576: true; the input reads as it did. -/
def utfBytesUptoRow : OpenClaim := { program := "ytlfhmkjomogkiaadoor", sum := "9a2067be142a4b8a38dc6dbb7f3cfd27de2f3b924f74a0479d1311e6d4198a6b", func := "inkhorn/inkhornlaw01.UtfBytes", spec := "utfBytes", inPlace := ["internal/abi.NoEscape", "internal/bytealg.MakeNoZero"], named := ["inkhorn/utf8.rows"], apart := false, laid := [("inkhorn/utf8.rows", laid_inkhorn_utf8_rows)], narrowed := true }
def UtfBytesUptoSaid : Prop := utfBytesUptoRow.holds Tryd.pinned (OpenSpec.upto utfBytesSpec)

/-- 'inkhornlaw01.UtfParts', WHERE WHAT IT READS IS OF BULK AT MOST 1048576: true; the input reads as it did. -/
def utfPartsUptoRow : OpenClaim := { program := "ytlfhmkjomogkiaadoor", sum := "9a2067be142a4b8a38dc6dbb7f3cfd27de2f3b924f74a0479d1311e6d4198a6b", func := "inkhorn/inkhornlaw01.UtfParts", spec := "utfParts", inPlace := ["internal/abi.NoEscape", "internal/bytealg.MakeNoZero"], named := ["inkhorn/utf8.rows"], apart := false, laid := [("inkhorn/utf8.rows", laid_inkhorn_utf8_rows)], narrowed := true }
def UtfPartsUptoSaid : Prop := utfPartsUptoRow.holds Tryd.pinned (OpenSpec.upto utfPartsSpec)

/-- 'inkhornlaw01.UtfOrder', WHERE WHAT IT READS IS OF BULK AT MOST 1048576: true; the input reads as it did. -/
def utfOrderUptoRow : OpenClaim := { program := "ytlfhmkjomogkiaadoor", sum := "9a2067be142a4b8a38dc6dbb7f3cfd27de2f3b924f74a0479d1311e6d4198a6b", func := "inkhorn/inkhornlaw01.UtfOrder", spec := "utfOrder", inPlace := ["internal/abi.NoEscape", "internal/bytealg.MakeNoZero"], named := ["inkhorn/utf8.rows"], apart := false, laid := [("inkhorn/utf8.rows", laid_inkhorn_utf8_rows)], narrowed := true }
def UtfOrderUptoSaid : Prop := utfOrderUptoRow.holds Tryd.pinned (OpenSpec.upto utfOrderSpec)

/-- 'inkhornlaw01.UtfDecodes', WHERE WHAT IT READS IS OF BULK AT MOST 1048576: true; the input reads as it did. -/
def utfDecodesUptoRow : OpenClaim := { program := "ytlfhmkjomogkiaadoor", sum := "9a2067be142a4b8a38dc6dbb7f3cfd27de2f3b924f74a0479d1311e6d4198a6b", func := "inkhorn/inkhornlaw01.UtfDecodes", spec := "utfDecodes", inPlace := ["internal/abi.NoEscape", "internal/bytealg.MakeNoZero"], named := ["inkhorn/utf8.rows"], apart := false, laid := [("inkhorn/utf8.rows", laid_inkhorn_utf8_rows)], narrowed := true }
def UtfDecodesUptoSaid : Prop := utfDecodesUptoRow.holds Tryd.pinned (OpenSpec.upto utfDecodesSpec)

/-- 'inkhornlaw01.UtfCuts', WHERE WHAT IT READS IS OF BULK AT MOST 1048576: true; the input reads as it did. -/
def utfCutsUptoRow : OpenClaim := { program := "ytlfhmkjomogkiaadoor", sum := "9a2067be142a4b8a38dc6dbb7f3cfd27de2f3b924f74a0479d1311e6d4198a6b", func := "inkhorn/inkhornlaw01.UtfCuts", spec := "utfCuts", inPlace := ["internal/abi.NoEscape", "internal/bytealg.MakeNoZero"], named := ["inkhorn/utf8.rows"], apart := false, laid := [("inkhorn/utf8.rows", laid_inkhorn_utf8_rows)], narrowed := true }
def UtfCutsUptoSaid : Prop := utfCutsUptoRow.holds Tryd.pinned (OpenSpec.upto utfCutsSpec)

/-- 'inkhornlaw01.UtfBack', WHERE WHAT IT READS IS OF BULK AT MOST 1048576: true; the input reads as it did. -/
def utfBackUptoRow : OpenClaim := { program := "ytlfhmkjomogkiaadoor", sum := "9a2067be142a4b8a38dc6dbb7f3cfd27de2f3b924f74a0479d1311e6d4198a6b", func := "inkhorn/inkhornlaw01.UtfBack", spec := "utfBack", inPlace := ["internal/abi.NoEscape", "internal/bytealg.MakeNoZero"], named := ["inkhorn/utf8.rows"], apart := false, laid := [("inkhorn/utf8.rows", laid_inkhorn_utf8_rows)], narrowed := true }
def UtfBackUptoSaid : Prop := utfBackUptoRow.holds Tryd.pinned (OpenSpec.upto utfBackSpec)

/-- 'inkhornlaw01.UtfJoins', WHERE WHAT IT READS IS OF BULK AT MOST 1048576: true; the input reads as it did. -/
def utfJoinsUptoRow : OpenClaim := { program := "ytlfhmkjomogkiaadoor", sum := "9a2067be142a4b8a38dc6dbb7f3cfd27de2f3b924f74a0479d1311e6d4198a6b", func := "inkhorn/inkhornlaw01.UtfJoins", spec := "utfJoins", inPlace := ["internal/abi.NoEscape", "internal/bytealg.MakeNoZero"], named := ["inkhorn/utf8.rows"], apart := false, laid := [("inkhorn/utf8.rows", laid_inkhorn_utf8_rows)], narrowed := true }
def UtfJoinsUptoSaid : Prop := utfJoinsUptoRow.holds Tryd.pinned (OpenSpec.upto utfJoinsSpec)

/-- 'inkhornlaw03.StreamWhole', WHERE WHAT IT READS IS OF BULK AT MOST 1048576: true; the input reads as it did. -/
def streamWholeUptoRow : OpenClaim := { program := "ytlfhmkjomogkiaadoor", sum := "9a2067be142a4b8a38dc6dbb7f3cfd27de2f3b924f74a0479d1311e6d4198a6b", func := "inkhorn/inkhornlaw03.StreamWhole", spec := "streamWhole", inPlace := ["internal/abi.NoEscape", "internal/bytealg.MakeNoZero"], unfollowed := true, recurses := true, named := ["inkhorn/utf8.rows"], apart := false, laid := [("inkhorn/utf8.rows", laid_inkhorn_utf8_rows)], narrowed := true }
def StreamWholeUptoSaid : Prop := streamWholeUptoRow.holds Tryd.pinned (OpenSpec.upto streamWholeSpec)

/-- 'inkhornlaw03.StreamMarks', WHERE WHAT IT READS IS OF BULK AT MOST 1048576: true; the input reads as it did. -/
def streamMarksUptoRow : OpenClaim := { program := "ytlfhmkjomogkiaadoor", sum := "9a2067be142a4b8a38dc6dbb7f3cfd27de2f3b924f74a0479d1311e6d4198a6b", func := "inkhorn/inkhornlaw03.StreamMarks", spec := "streamMarks", inPlace := ["internal/abi.NoEscape", "internal/bytealg.MakeNoZero"], unfollowed := true, recurses := true, named := ["inkhorn/utf8.rows"], apart := false, laid := [("inkhorn/utf8.rows", laid_inkhorn_utf8_rows)], narrowed := true }
def StreamMarksUptoSaid : Prop := streamMarksUptoRow.holds Tryd.pinned (OpenSpec.upto streamMarksSpec)

/-- 'inkhornlaw03.StreamSure', WHERE WHAT IT READS IS OF BULK AT MOST 1048576: true; the input reads as it did. -/
def streamSureUptoRow : OpenClaim := { program := "ytlfhmkjomogkiaadoor", sum := "9a2067be142a4b8a38dc6dbb7f3cfd27de2f3b924f74a0479d1311e6d4198a6b", func := "inkhorn/inkhornlaw03.StreamSure", spec := "streamSure", inPlace := ["internal/abi.NoEscape", "internal/bytealg.MakeNoZero"], unfollowed := true, recurses := true, named := ["inkhorn/utf8.rows"], apart := false, laid := [("inkhorn/utf8.rows", laid_inkhorn_utf8_rows)], narrowed := true }
def StreamSureUptoSaid : Prop := streamSureUptoRow.holds Tryd.pinned (OpenSpec.upto streamSureSpec)

/-- 'inkhornlaw03.StreamNil', WHERE WHAT IT READS IS OF BULK AT MOST 1048576: true; the input reads as it did. -/
def streamNilUptoRow : OpenClaim := { program := "ytlfhmkjomogkiaadoor", sum := "9a2067be142a4b8a38dc6dbb7f3cfd27de2f3b924f74a0479d1311e6d4198a6b", func := "inkhorn/inkhornlaw03.StreamNil", spec := "streamNil", inPlace := ["internal/abi.NoEscape", "internal/bytealg.MakeNoZero"], unfollowed := true, recurses := true, named := ["inkhorn/utf8.rows"], apart := false, laid := [("inkhorn/utf8.rows", laid_inkhorn_utf8_rows)], narrowed := true }
def StreamNilUptoSaid : Prop := streamNilUptoRow.holds Tryd.pinned (OpenSpec.upto streamNilSpec)

/-- 'inkhornlaw03.StreamParts', WHERE WHAT IT READS IS OF BULK AT MOST 1048576: true; the input reads as it did. -/
def streamPartsUptoRow : OpenClaim := { program := "ytlfhmkjomogkiaadoor", sum := "9a2067be142a4b8a38dc6dbb7f3cfd27de2f3b924f74a0479d1311e6d4198a6b", func := "inkhorn/inkhornlaw03.StreamParts", spec := "streamParts", inPlace := ["internal/abi.NoEscape", "internal/bytealg.MakeNoZero"], unfollowed := true, recurses := true, named := ["inkhorn/utf8.rows"], apart := false, laid := [("inkhorn/utf8.rows", laid_inkhorn_utf8_rows)], narrowed := true }
def StreamPartsUptoSaid : Prop := streamPartsUptoRow.holds Tryd.pinned (OpenSpec.upto streamPartsSpec)

end Rows
end Go.Proofs.YtlfhmkjomogkiaaDoor
