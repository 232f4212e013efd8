/-
  NARROWER THAN 'FOR EVERY INPUT', by the rows' own cells (each row's printed sentence says how): ObjectTells: laid · ObjectBack: laid · ObjectReads: laid · ObjectForms: laid · ObjectRefuses: laid.
  DERIVED. THE GIVEN ROWS OF THIS SEAT. 5 by the template 'for every input the law returns true; each argument reads behind the call as it read before'; 0 by the template 'total and deterministic' (their statements: YtfaepbjnpakghaaGreatDoorTotals.lean).
  GIVEN WITH THE SEED: the statements are not yours to turn. If you find one false, say at which input.
  Laid BY PROGRAM, IN A SANDBOX (cutbox-rows.mjs): the forced cells as the released guide's own fill.sh prints them over the translation a3f3bd200511f540… (all of the seat's roots in one cut). By AI agents, Wed Nov 11 2026. No macro, syntax, notation, axiom, sorry.
-/
import Derived.Test.YtfaepbjnpakghaaGreatDoorChecked
import GoSem.Claim
import GoSem.ClaimJoined
import GoSem.ClaimMapViews
import Derived.JoinedTies
import Derived.KernelRfl
namespace Go.Proofs.YtfaepbjnpakghaaGreatDoor
/- THE CELL 'sum', in the pinned program and in every row, IS THE sha256 OF THE DUMP (.gsa) THAT YtfaepbjnpakghaaGreatDoorProg.lean LOADS. Nothing in Lean hashes anything: it is a label: what it is worth is what the hold of that sum in a sandbox is worth. -/
noncomputable def Tryz.pinned : Pinned := { name := "ytfaepbjnpakghaagreatdoor", sum := "a3f3bd200511f540a8cd270a65a7120309b0432bc5fe79838f5cc98a9c6af9c2", checked := Tryz.checked }
namespace Rows
def none {H : Type} : Left H := { results := [], args := [] }

/- WHAT THE LISTED PACKAGE-LEVEL VARIABLES READ AS WHEN THE CALL BEGINS. Each datum BY PROGRAM (the guide's laid-datum.mjs) off the statement by which the dump's own 'gosem.cut.vars' lays the variable. In a bare row this is a premise. The card (YtfaepbjnpakghaaGreatDoorCards.lean) ties it to the program's text. -/
def laid_linchpin_digest_turns {H : Type} : DataW H := .agg [.lit (.int .i64 0), .lit (.int .i64 1), .lit (.int .i64 62), .lit (.int .i64 28), .lit (.int .i64 27), .lit (.int .i64 36), .lit (.int .i64 44), .lit (.int .i64 6), .lit (.int .i64 55), .lit (.int .i64 20), .lit (.int .i64 3), .lit (.int .i64 10), .lit (.int .i64 43), .lit (.int .i64 25), .lit (.int .i64 39), .lit (.int .i64 41), .lit (.int .i64 45), .lit (.int .i64 15), .lit (.int .i64 21), .lit (.int .i64 8), .lit (.int .i64 18), .lit (.int .i64 2), .lit (.int .i64 61), .lit (.int .i64 56), .lit (.int .i64 14)]
def laid_linchpin_digest_constants {H : Type} : DataW H := .agg [.lit (.int .u64 1), .lit (.int .u64 32898), .lit (.int .u64 9223372036854808714), .lit (.int .u64 9223372039002292224), .lit (.int .u64 32907), .lit (.int .u64 2147483649), .lit (.int .u64 9223372039002292353), .lit (.int .u64 9223372036854808585), .lit (.int .u64 138), .lit (.int .u64 136), .lit (.int .u64 2147516425), .lit (.int .u64 2147483658), .lit (.int .u64 2147516555), .lit (.int .u64 9223372036854775947), .lit (.int .u64 9223372036854808713), .lit (.int .u64 9223372036854808579), .lit (.int .u64 9223372036854808578), .lit (.int .u64 9223372036854775936), .lit (.int .u64 32778), .lit (.int .u64 9223372039002259466), .lit (.int .u64 9223372039002292353), .lit (.int .u64 9223372036854808704), .lit (.int .u64 2147483649), .lit (.int .u64 9223372039002292232)]
def laid_linchpin_isa_forms {H : Type} : DataW H := .agg [.agg [.lit (.string []), .lit (.string []), .lit (.string []), .lit (.string [])], .agg [.lit (.string [110, 111, 112]), .lit (.string []), .lit (.string []), .lit (.string [])], .agg [.lit (.string [115, 97, 102, 101]), .lit (.string []), .lit (.string []), .lit (.string [])], .agg [.lit (.string [115, 101, 116]), .lit (.string [65, 73]), .lit (.string []), .lit (.string [65])], .agg [.lit (.string [104, 105, 103, 104]), .lit (.string [65, 73]), .lit (.string [65]), .lit (.string [65])], .agg [.lit (.string [109, 111, 118, 101]), .lit (.string [65, 66]), .lit (.string [66]), .lit (.string [65])], .agg [.lit (.string [97, 100, 100]), .lit (.string [65, 66, 67]), .lit (.string [66, 67]), .lit (.string [65])], .agg [.lit (.string [115, 117, 98]), .lit (.string [65, 66, 67]), .lit (.string [66, 67]), .lit (.string [65])], .agg [.lit (.string [109, 117, 108]), .lit (.string [65, 66, 67]), .lit (.string [66, 67]), .lit (.string [65])], .agg [.lit (.string [97, 110, 100]), .lit (.string [65, 66, 67]), .lit (.string [66, 67]), .lit (.string [65])], .agg [.lit (.string [111, 114]), .lit (.string [65, 66, 67]), .lit (.string [66, 67]), .lit (.string [65])], .agg [.lit (.string [108, 101, 115, 115]), .lit (.string [65, 66, 67]), .lit (.string [66, 67]), .lit (.string [65])], .agg [.lit (.string [115, 97, 109, 101]), .lit (.string [65, 66, 67]), .lit (.string [66, 67]), .lit (.string [65])], .agg [.lit (.string [97, 100, 100, 105]), .lit (.string [65, 66, 73]), .lit (.string [66]), .lit (.string [65])], .agg [.lit (.string [97, 100, 100, 114]), .lit (.string [65, 73]), .lit (.string []), .lit (.string [65])], .agg [.lit (.string [108, 111, 97, 100]), .lit (.string [65, 66, 73]), .lit (.string [66]), .lit (.string [65])], .agg [.lit (.string [98, 121, 116, 101]), .lit (.string [65, 66, 73]), .lit (.string [66]), .lit (.string [65])], .agg [.lit (.string [115, 116, 111, 114, 101]), .lit (.string [65, 66, 73]), .lit (.string [65, 66]), .lit (.string [])], .agg [.lit (.string [112, 117, 116]), .lit (.string [65, 66, 73]), .lit (.string [65, 66]), .lit (.string [])], .agg [.lit (.string [106, 117, 109, 112]), .lit (.string [73]), .lit (.string []), .lit (.string [])], .agg [.lit (.string [122, 101, 114, 111]), .lit (.string [65, 73]), .lit (.string [65]), .lit (.string [])], .agg [.lit (.string [110, 111, 110, 122, 101, 114, 111]), .lit (.string [65, 73]), .lit (.string [65]), .lit (.string [])], .agg [.lit (.string [99, 97, 108, 108]), .lit (.string [73]), .lit (.string [83]), .lit (.string [83])], .agg [.lit (.string [99, 97, 108, 108, 114]), .lit (.string [65]), .lit (.string [65, 83]), .lit (.string [83])], .agg [.lit (.string [99, 97, 108, 108, 115]), .lit (.string [73]), .lit (.string [83]), .lit (.string [83])], .agg [.lit (.string [106, 117, 109, 112, 115]), .lit (.string [73]), .lit (.string []), .lit (.string [])], .agg [.lit (.string [114, 101, 116, 117, 114, 110]), .lit (.string []), .lit (.string [83]), .lit (.string [83])], .agg [.lit (.string [112, 117, 115, 104]), .lit (.string [65]), .lit (.string [65, 83]), .lit (.string [83])], .agg [.lit (.string [112, 111, 112]), .lit (.string [65]), .lit (.string [83]), .lit (.string [65, 83])], .agg [.lit (.string [116, 108, 115]), .lit (.string [65, 66]), .lit (.string [66]), .lit (.string [65])], .agg [.lit (.string [115, 121, 115]), .lit (.string [73]), .lit (.string []), .lit (.string [])]]

/-- 'linchpinlaw10.ObjectTells': WHATEVER THE INPUT: true; the input reads as it did. -/
def objectTellsSpec : ChangeSpec := { name := "objectTells", fn := fun _ => fun
  | [d1, d2, d3, d4, d5] => { results := [.lit (.bool true)], args := [d1, d2, d3, d4, d5] }
  | _ => none }
def objectTellsRow : OpenClaim := { program := "ytfaepbjnpakghaagreatdoor", sum := "a3f3bd200511f540a8cd270a65a7120309b0432bc5fe79838f5cc98a9c6af9c2", func := "linchpin/linchpinlaw10.ObjectTells", spec := "objectTells", inPlace := ["internal/bytealg.IndexByteString", "internal/abi.NoEscape"], unfollowed := true, recurses := true, named := ["linchpin/isa.forms", "linchpin/digest.constants", "linchpin/digest.turns"], plainKeys := false, apart := false, laid := [("linchpin/digest.turns", laid_linchpin_digest_turns), ("linchpin/digest.constants", laid_linchpin_digest_constants), ("linchpin/isa.forms", laid_linchpin_isa_forms)] }
def ObjectTellsSaid : Prop := objectTellsRow.holds Tryz.pinned (OpenSpec.ofChange objectTellsSpec)

/-- ITS FALSE NEIGHBOUR: 'it returns false'. Refute it at one input. -/
def objectTellsWrong : ChangeSpec := { name := "objectTells", fn := fun _ => fun
  | [d1, d2, d3, d4, d5] => { results := [.lit (.bool false)], args := [d1, d2, d3, d4, d5] }
  | _ => none }
def ObjectTellsWrongFalsely : Prop := objectTellsRow.holds Tryz.pinned (OpenSpec.ofChange objectTellsWrong)

/-- 'linchpinlaw10.ObjectBack': WHATEVER THE INPUT: true; the input reads as it did. -/
def objectBackSpec : ChangeSpec := { name := "objectBack", fn := fun _ => fun
  | [d1, d2] => { results := [.lit (.bool true)], args := [d1, d2] }
  | _ => none }
def objectBackRow : OpenClaim := { program := "ytfaepbjnpakghaagreatdoor", sum := "a3f3bd200511f540a8cd270a65a7120309b0432bc5fe79838f5cc98a9c6af9c2", func := "linchpin/linchpinlaw10.ObjectBack", spec := "objectBack", inPlace := ["internal/bytealg.IndexByteString", "internal/abi.NoEscape"], unfollowed := true, recurses := true, named := ["linchpin/isa.forms", "linchpin/digest.constants", "linchpin/digest.turns"], plainKeys := false, apart := false, laid := [("linchpin/digest.turns", laid_linchpin_digest_turns), ("linchpin/digest.constants", laid_linchpin_digest_constants), ("linchpin/isa.forms", laid_linchpin_isa_forms)] }
def ObjectBackSaid : Prop := objectBackRow.holds Tryz.pinned (OpenSpec.ofChange objectBackSpec)

/-- ITS FALSE NEIGHBOUR: 'it returns false'. Refute it at one input. -/
def objectBackWrong : ChangeSpec := { name := "objectBack", fn := fun _ => fun
  | [d1, d2] => { results := [.lit (.bool false)], args := [d1, d2] }
  | _ => none }
def ObjectBackWrongFalsely : Prop := objectBackRow.holds Tryz.pinned (OpenSpec.ofChange objectBackWrong)

/-- 'linchpinlaw10.ObjectReads': WHATEVER THE INPUT: true; the input reads as it did. -/
def objectReadsSpec : ChangeSpec := { name := "objectReads", fn := fun _ => fun
  | [d] => { results := [.lit (.bool true)], args := [d] }
  | _ => none }
def objectReadsRow : OpenClaim := { program := "ytfaepbjnpakghaagreatdoor", sum := "a3f3bd200511f540a8cd270a65a7120309b0432bc5fe79838f5cc98a9c6af9c2", func := "linchpin/linchpinlaw10.ObjectReads", spec := "objectReads", inPlace := ["internal/bytealg.IndexByteString", "internal/abi.NoEscape"], unfollowed := true, recurses := true, named := ["linchpin/isa.forms", "linchpin/digest.constants", "linchpin/digest.turns"], plainKeys := false, apart := false, laid := [("linchpin/digest.turns", laid_linchpin_digest_turns), ("linchpin/digest.constants", laid_linchpin_digest_constants), ("linchpin/isa.forms", laid_linchpin_isa_forms)] }
def ObjectReadsSaid : Prop := objectReadsRow.holds Tryz.pinned (OpenSpec.ofChange objectReadsSpec)

/-- ITS FALSE NEIGHBOUR: 'it returns false'. Refute it at one input. -/
def objectReadsWrong : ChangeSpec := { name := "objectReads", fn := fun _ => fun
  | [d] => { results := [.lit (.bool false)], args := [d] }
  | _ => none }
def ObjectReadsWrongFalsely : Prop := objectReadsRow.holds Tryz.pinned (OpenSpec.ofChange objectReadsWrong)

/-- 'linchpinlaw10.ObjectForms': WHATEVER THE INPUT: true; the input reads as it did. -/
def objectFormsSpec : ChangeSpec := { name := "objectForms", fn := fun _ => fun
  | [d1, d2, d3, d4] => { results := [.lit (.bool true)], args := [d1, d2, d3, d4] }
  | _ => none }
def objectFormsRow : OpenClaim := { program := "ytfaepbjnpakghaagreatdoor", sum := "a3f3bd200511f540a8cd270a65a7120309b0432bc5fe79838f5cc98a9c6af9c2", func := "linchpin/linchpinlaw10.ObjectForms", spec := "objectForms", inPlace := ["internal/bytealg.IndexByteString", "internal/abi.NoEscape"], unfollowed := true, recurses := true, named := ["linchpin/isa.forms", "linchpin/digest.constants", "linchpin/digest.turns"], plainKeys := false, apart := false, laid := [("linchpin/digest.turns", laid_linchpin_digest_turns), ("linchpin/digest.constants", laid_linchpin_digest_constants), ("linchpin/isa.forms", laid_linchpin_isa_forms)] }
def ObjectFormsSaid : Prop := objectFormsRow.holds Tryz.pinned (OpenSpec.ofChange objectFormsSpec)

/-- ITS FALSE NEIGHBOUR: 'it returns false'. Refute it at one input. -/
def objectFormsWrong : ChangeSpec := { name := "objectForms", fn := fun _ => fun
  | [d1, d2, d3, d4] => { results := [.lit (.bool false)], args := [d1, d2, d3, d4] }
  | _ => none }
def ObjectFormsWrongFalsely : Prop := objectFormsRow.holds Tryz.pinned (OpenSpec.ofChange objectFormsWrong)

/-- 'linchpinlaw10.ObjectRefuses': WHATEVER THE INPUT: true; the input reads as it did. -/
def objectRefusesSpec : ChangeSpec := { name := "objectRefuses", fn := fun _ => fun
  | [d1, d2, d3] => { results := [.lit (.bool true)], args := [d1, d2, d3] }
  | _ => none }
def objectRefusesRow : OpenClaim := { program := "ytfaepbjnpakghaagreatdoor", sum := "a3f3bd200511f540a8cd270a65a7120309b0432bc5fe79838f5cc98a9c6af9c2", func := "linchpin/linchpinlaw10.ObjectRefuses", spec := "objectRefuses", inPlace := ["internal/bytealg.IndexByteString", "internal/abi.NoEscape"], unfollowed := true, recurses := true, named := ["linchpin/isa.forms", "linchpin/digest.constants", "linchpin/digest.turns"], plainKeys := false, apart := false, laid := [("linchpin/digest.turns", laid_linchpin_digest_turns), ("linchpin/digest.constants", laid_linchpin_digest_constants), ("linchpin/isa.forms", laid_linchpin_isa_forms)] }
def ObjectRefusesSaid : Prop := objectRefusesRow.holds Tryz.pinned (OpenSpec.ofChange objectRefusesSpec)

/-- ITS FALSE NEIGHBOUR: 'it returns false'. Refute it at one input. -/
def objectRefusesWrong : ChangeSpec := { name := "objectRefuses", fn := fun _ => fun
  | [d1, d2, d3] => { results := [.lit (.bool false)], args := [d1, d2, d3] }
  | _ => none }
def ObjectRefusesWrongFalsely : Prop := objectRefusesRow.holds Tryz.pinned (OpenSpec.ofChange objectRefusesWrong)

/- THE SECOND FORM. 'bulk': how many values and letters a reading holds, each counted each time it is reached (what is shared counts as often as it is met; a slice's spare places count too). A statement '..UptoSaid' is the law's where the arguments, and the package variables that the reading takes, are together of bulk at most 1048576: NARROWER than '..Said'. Prove '..Said' where nothing that the law and all that it calls make is longer than what came in: it says more and counts as full. Else prove '..UptoSaid'. A law counts once. -/
mutual
def uptoBulk {H : Type} : DataW H → Nat
  | .lit (.string bytes) => bytes.length + 1
  | .lit _ => 1
  | .nil => 1
  | .ptr d => uptoBulk d + 1
  | .slice elems spare => uptoBulkAll elems + uptoBulkAll spare + 1
  | .agg parts => uptoBulkAll parts + 1
  | .iface _ d => uptoBulk d + 1
  | .map entries => uptoBulkEntries entries + 1
  | .held _ => 1
def uptoBulkAll {H : Type} : List (DataW H) → Nat
  | [] => 0
  | d :: r => uptoBulk d + uptoBulkAll r
def uptoBulkEntries {H : Type} : List (Lit × DataW H) → Nat
  | [] => 0
  | x :: r => uptoBulkEntry x + uptoBulkEntries r
def uptoBulkEntry {H : Type} : Lit × DataW H → Nat
  | (.string bytes, d) => bytes.length + uptoBulk d + 1
  | (_, d) => uptoBulk d + 1
 end
def uptoSmall : (H : Type) → List (DataW H) → Bool := fun _ ds => decide (uptoBulkAll ds ≤ 1048576)
def OpenSpec.upto (s : _root_.Go.ChangeSpec) : _root_.Go.OpenSpec := { _root_.Go.OpenSpec.ofChange s with cond := some uptoSmall }

/-- 'linchpinlaw10.ObjectTells', WHERE WHAT IT READS IS OF BULK AT MOST 1048576: true; the input reads as it did. -/
def objectTellsUptoRow : OpenClaim := { program := "ytfaepbjnpakghaagreatdoor", sum := "a3f3bd200511f540a8cd270a65a7120309b0432bc5fe79838f5cc98a9c6af9c2", func := "linchpin/linchpinlaw10.ObjectTells", spec := "objectTells", inPlace := ["internal/bytealg.IndexByteString", "internal/abi.NoEscape"], unfollowed := true, recurses := true, named := ["linchpin/isa.forms", "linchpin/digest.constants", "linchpin/digest.turns"], plainKeys := false, apart := false, laid := [("linchpin/digest.turns", laid_linchpin_digest_turns), ("linchpin/digest.constants", laid_linchpin_digest_constants), ("linchpin/isa.forms", laid_linchpin_isa_forms)], narrowed := true }
def ObjectTellsUptoSaid : Prop := objectTellsUptoRow.holds Tryz.pinned (OpenSpec.upto objectTellsSpec)

/-- 'linchpinlaw10.ObjectBack', WHERE WHAT IT READS IS OF BULK AT MOST 1048576: true; the input reads as it did. -/
def objectBackUptoRow : OpenClaim := { program := "ytfaepbjnpakghaagreatdoor", sum := "a3f3bd200511f540a8cd270a65a7120309b0432bc5fe79838f5cc98a9c6af9c2", func := "linchpin/linchpinlaw10.ObjectBack", spec := "objectBack", inPlace := ["internal/bytealg.IndexByteString", "internal/abi.NoEscape"], unfollowed := true, recurses := true, named := ["linchpin/isa.forms", "linchpin/digest.constants", "linchpin/digest.turns"], plainKeys := false, apart := false, laid := [("linchpin/digest.turns", laid_linchpin_digest_turns), ("linchpin/digest.constants", laid_linchpin_digest_constants), ("linchpin/isa.forms", laid_linchpin_isa_forms)], narrowed := true }
def ObjectBackUptoSaid : Prop := objectBackUptoRow.holds Tryz.pinned (OpenSpec.upto objectBackSpec)

/-- 'linchpinlaw10.ObjectReads', WHERE WHAT IT READS IS OF BULK AT MOST 1048576: true; the input reads as it did. -/
def objectReadsUptoRow : OpenClaim := { program := "ytfaepbjnpakghaagreatdoor", sum := "a3f3bd200511f540a8cd270a65a7120309b0432bc5fe79838f5cc98a9c6af9c2", func := "linchpin/linchpinlaw10.ObjectReads", spec := "objectReads", inPlace := ["internal/bytealg.IndexByteString", "internal/abi.NoEscape"], unfollowed := true, recurses := true, named := ["linchpin/isa.forms", "linchpin/digest.constants", "linchpin/digest.turns"], plainKeys := false, apart := false, laid := [("linchpin/digest.turns", laid_linchpin_digest_turns), ("linchpin/digest.constants", laid_linchpin_digest_constants), ("linchpin/isa.forms", laid_linchpin_isa_forms)], narrowed := true }
def ObjectReadsUptoSaid : Prop := objectReadsUptoRow.holds Tryz.pinned (OpenSpec.upto objectReadsSpec)

/-- 'linchpinlaw10.ObjectForms', WHERE WHAT IT READS IS OF BULK AT MOST 1048576: true; the input reads as it did. -/
def objectFormsUptoRow : OpenClaim := { program := "ytfaepbjnpakghaagreatdoor", sum := "a3f3bd200511f540a8cd270a65a7120309b0432bc5fe79838f5cc98a9c6af9c2", func := "linchpin/linchpinlaw10.ObjectForms", spec := "objectForms", inPlace := ["internal/bytealg.IndexByteString", "internal/abi.NoEscape"], unfollowed := true, recurses := true, named := ["linchpin/isa.forms", "linchpin/digest.constants", "linchpin/digest.turns"], plainKeys := false, apart := false, laid := [("linchpin/digest.turns", laid_linchpin_digest_turns), ("linchpin/digest.constants", laid_linchpin_digest_constants), ("linchpin/isa.forms", laid_linchpin_isa_forms)], narrowed := true }
def ObjectFormsUptoSaid : Prop := objectFormsUptoRow.holds Tryz.pinned (OpenSpec.upto objectFormsSpec)

/-- 'linchpinlaw10.ObjectRefuses', WHERE WHAT IT READS IS OF BULK AT MOST 1048576: true; the input reads as it did. -/
def objectRefusesUptoRow : OpenClaim := { program := "ytfaepbjnpakghaagreatdoor", sum := "a3f3bd200511f540a8cd270a65a7120309b0432bc5fe79838f5cc98a9c6af9c2", func := "linchpin/linchpinlaw10.ObjectRefuses", spec := "objectRefuses", inPlace := ["internal/bytealg.IndexByteString", "internal/abi.NoEscape"], unfollowed := true, recurses := true, named := ["linchpin/isa.forms", "linchpin/digest.constants", "linchpin/digest.turns"], plainKeys := false, apart := false, laid := [("linchpin/digest.turns", laid_linchpin_digest_turns), ("linchpin/digest.constants", laid_linchpin_digest_constants), ("linchpin/isa.forms", laid_linchpin_isa_forms)], narrowed := true }
def ObjectRefusesUptoSaid : Prop := objectRefusesUptoRow.holds Tryz.pinned (OpenSpec.upto objectRefusesSpec)

end Rows
end Go.Proofs.YtfaepbjnpakghaaGreatDoor
