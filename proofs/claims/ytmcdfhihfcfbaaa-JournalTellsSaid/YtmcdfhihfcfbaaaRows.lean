/-
  No cell of these rows narrows 'for every input' (looked for: loops, veiled, ifaces, maps, wideKeys, modest, calm, conditions, laid).
  DERIVED. THE GIVEN ROWS OF THIS SEAT. 5 by the template 'for every input the law returns true; each argument reads behind the call as it read before'; 0 by the template 'total and deterministic' (their statements: YtmcdfhihfcfbaaaTotals.lean).
  GIVEN WITH THE SEED: the statements are not yours to turn. If you find one false, say at which input.
  Laid BY PROGRAM, IN A SANDBOX (cutbox-rows.mjs): the forced cells as the released guide's own fill.sh prints them over the translation 30d08ec6ce1d9a27… (all of the seat's roots in one cut). By AI agents, Wed Nov 11 2026. No macro, syntax, notation, axiom, sorry.
-/
import Derived.Test.YtmcdfhihfcfbaaaChecked
import GoSem.Claim
import GoSem.ClaimJoined
import GoSem.ClaimMapViews
import Derived.JoinedTies
import Derived.KernelRfl
namespace Go.Proofs.Ytmcdfhihfcfbaaa
/- THE CELL 'sum', in the pinned program and in every row, IS THE sha256 OF THE DUMP (.gsa) THAT YtmcdfhihfcfbaaaProg.lean LOADS. Nothing in Lean hashes anything: it is a label: what it is worth is what the hold of that sum in a sandbox is worth. -/
noncomputable def Try.pinned : Pinned := { name := "ytmcdfhihfcfbaaa", sum := "30d08ec6ce1d9a27b8d0518136e44de178f97bb64ecc221abcdab2e1c2c32c5d", checked := Try.checked }
namespace Rows
def none {H : Type} : Left H := { results := [], args := [] }

/-- 'linchpinlaw07.JournalLists': WHATEVER THE INPUT: true; the input reads as it did. -/
def journalListsSpec : ChangeSpec := { name := "journalLists", fn := fun _ => fun
  | [d] => { results := [.lit (.bool true)], args := [d] }
  | _ => none }
def journalListsRow : OpenClaim := { program := "ytmcdfhihfcfbaaa", sum := "30d08ec6ce1d9a27b8d0518136e44de178f97bb64ecc221abcdab2e1c2c32c5d", func := "linchpin/linchpinlaw07.JournalLists", spec := "journalLists", inPlace := ["internal/abi.NoEscape", "internal/bytealg.MakeNoZero"], unfollowed := true, recurses := true, apart := false }
def JournalListsSaid : Prop := journalListsRow.holds Try.pinned (OpenSpec.ofChange journalListsSpec)

/-- ITS FALSE NEIGHBOUR: 'it returns false'. Refute it at one input. -/
def journalListsWrong : ChangeSpec := { name := "journalLists", fn := fun _ => fun
  | [d] => { results := [.lit (.bool false)], args := [d] }
  | _ => none }
def JournalListsWrongFalsely : Prop := journalListsRow.holds Try.pinned (OpenSpec.ofChange journalListsWrong)

/-- 'linchpinlaw07.JournalForms': WHATEVER THE INPUT: true; the input reads as it did. -/
def journalFormsSpec : ChangeSpec := { name := "journalForms", fn := fun _ => fun
  | [d1, d2] => { results := [.lit (.bool true)], args := [d1, d2] }
  | _ => none }
def journalFormsRow : OpenClaim := { program := "ytmcdfhihfcfbaaa", sum := "30d08ec6ce1d9a27b8d0518136e44de178f97bb64ecc221abcdab2e1c2c32c5d", func := "linchpin/linchpinlaw07.JournalForms", spec := "journalForms", inPlace := ["internal/abi.NoEscape", "internal/bytealg.MakeNoZero"], unfollowed := true, recurses := true, apart := false }
def JournalFormsSaid : Prop := journalFormsRow.holds Try.pinned (OpenSpec.ofChange journalFormsSpec)

/-- ITS FALSE NEIGHBOUR: 'it returns false'. Refute it at one input. -/
def journalFormsWrong : ChangeSpec := { name := "journalForms", fn := fun _ => fun
  | [d1, d2] => { results := [.lit (.bool false)], args := [d1, d2] }
  | _ => none }
def JournalFormsWrongFalsely : Prop := journalFormsRow.holds Try.pinned (OpenSpec.ofChange journalFormsWrong)

/-- 'linchpinlaw07.JournalTells': WHATEVER THE INPUT: true; the input reads as it did. -/
def journalTellsSpec : ChangeSpec := { name := "journalTells", fn := fun _ => fun
  | [d1, d2] => { results := [.lit (.bool true)], args := [d1, d2] }
  | _ => none }
def journalTellsRow : OpenClaim := { program := "ytmcdfhihfcfbaaa", sum := "30d08ec6ce1d9a27b8d0518136e44de178f97bb64ecc221abcdab2e1c2c32c5d", func := "linchpin/linchpinlaw07.JournalTells", spec := "journalTells", inPlace := ["internal/abi.NoEscape", "internal/bytealg.MakeNoZero"], unfollowed := true, recurses := true, apart := false }
def JournalTellsSaid : Prop := journalTellsRow.holds Try.pinned (OpenSpec.ofChange journalTellsSpec)

/-- ITS FALSE NEIGHBOUR: 'it returns false'. Refute it at one input. -/
def journalTellsWrong : ChangeSpec := { name := "journalTells", fn := fun _ => fun
  | [d1, d2] => { results := [.lit (.bool false)], args := [d1, d2] }
  | _ => none }
def JournalTellsWrongFalsely : Prop := journalTellsRow.holds Try.pinned (OpenSpec.ofChange journalTellsWrong)

/-- 'linchpinlaw07.JournalTurns': WHATEVER THE INPUT: true; the input reads as it did. -/
def journalTurnsSpec : ChangeSpec := { name := "journalTurns", fn := fun _ => fun
  | [d1, d2, d3, d4] => { results := [.lit (.bool true)], args := [d1, d2, d3, d4] }
  | _ => none }
def journalTurnsRow : OpenClaim := { program := "ytmcdfhihfcfbaaa", sum := "30d08ec6ce1d9a27b8d0518136e44de178f97bb64ecc221abcdab2e1c2c32c5d", func := "linchpin/linchpinlaw07.JournalTurns", spec := "journalTurns", inPlace := ["internal/abi.NoEscape", "internal/bytealg.MakeNoZero"], unfollowed := true, recurses := true, apart := false }
def JournalTurnsSaid : Prop := journalTurnsRow.holds Try.pinned (OpenSpec.ofChange journalTurnsSpec)

/-- ITS FALSE NEIGHBOUR: 'it returns false'. Refute it at one input. -/
def journalTurnsWrong : ChangeSpec := { name := "journalTurns", fn := fun _ => fun
  | [d1, d2, d3, d4] => { results := [.lit (.bool false)], args := [d1, d2, d3, d4] }
  | _ => none }
def JournalTurnsWrongFalsely : Prop := journalTurnsRow.holds Try.pinned (OpenSpec.ofChange journalTurnsWrong)

/-- 'linchpinlaw07.JournalLasts': WHATEVER THE INPUT: true; the input reads as it did. -/
def journalLastsSpec : ChangeSpec := { name := "journalLasts", fn := fun _ => fun
  | [d1, d2] => { results := [.lit (.bool true)], args := [d1, d2] }
  | _ => none }
def journalLastsRow : OpenClaim := { program := "ytmcdfhihfcfbaaa", sum := "30d08ec6ce1d9a27b8d0518136e44de178f97bb64ecc221abcdab2e1c2c32c5d", func := "linchpin/linchpinlaw07.JournalLasts", spec := "journalLasts", inPlace := ["internal/abi.NoEscape", "internal/bytealg.MakeNoZero"], unfollowed := true, recurses := true, apart := false }
def JournalLastsSaid : Prop := journalLastsRow.holds Try.pinned (OpenSpec.ofChange journalLastsSpec)

/-- ITS FALSE NEIGHBOUR: 'it returns false'. Refute it at one input. -/
def journalLastsWrong : ChangeSpec := { name := "journalLasts", fn := fun _ => fun
  | [d1, d2] => { results := [.lit (.bool false)], args := [d1, d2] }
  | _ => none }
def JournalLastsWrongFalsely : Prop := journalLastsRow.holds Try.pinned (OpenSpec.ofChange journalLastsWrong)

/- THE SECOND FORM. 'bulk': how many values and letters a reading holds, each counted each time it is reached (what is shared counts as often as it is met; a slice's spare places count too). A statement '..UptoSaid' is the law's where the arguments, and the package variables that the reading takes, are together of bulk at most 1048576: NARROWER than '..Said'. Prove '..Said' where nothing that the law and all that it calls make is longer than what came in: it says more and counts as full. Else prove '..UptoSaid'. A law counts once. -/
mutual
def uptoBulk {H : Type} : DataW H → Nat
  | .lit (.string bytes) => bytes.length + 1
  | .lit _ => 1
  | .nil => 1
  | .ptr d => uptoBulk d + 1
  | .slice elems spare => uptoBulkAll elems + uptoBulkAll spare + 1
  | .agg parts => uptoBulkAll parts + 1
  | .iface _ d => uptoBulk d + 1
  | .map entries => uptoBulkEntries entries + 1
  | .held _ => 1
def uptoBulkAll {H : Type} : List (DataW H) → Nat
  | [] => 0
  | d :: r => uptoBulk d + uptoBulkAll r
def uptoBulkEntries {H : Type} : List (Lit × DataW H) → Nat
  | [] => 0
  | x :: r => uptoBulkEntry x + uptoBulkEntries r
def uptoBulkEntry {H : Type} : Lit × DataW H → Nat
  | (.string bytes, d) => bytes.length + uptoBulk d + 1
  | (_, d) => uptoBulk d + 1
 end
def uptoSmall : (H : Type) → List (DataW H) → Bool := fun _ ds => decide (uptoBulkAll ds ≤ 1048576)
def OpenSpec.upto (s : _root_.Go.ChangeSpec) : _root_.Go.OpenSpec := { _root_.Go.OpenSpec.ofChange s with cond := some uptoSmall }

/-- 'linchpinlaw07.JournalLists', WHERE WHAT IT READS IS OF BULK AT MOST 1048576: true; the input reads as it did. -/
def journalListsUptoRow : OpenClaim := { program := "ytmcdfhihfcfbaaa", sum := "30d08ec6ce1d9a27b8d0518136e44de178f97bb64ecc221abcdab2e1c2c32c5d", func := "linchpin/linchpinlaw07.JournalLists", spec := "journalLists", inPlace := ["internal/abi.NoEscape", "internal/bytealg.MakeNoZero"], unfollowed := true, recurses := true, apart := false, narrowed := true }
def JournalListsUptoSaid : Prop := journalListsUptoRow.holds Try.pinned (OpenSpec.upto journalListsSpec)

/-- 'linchpinlaw07.JournalForms', WHERE WHAT IT READS IS OF BULK AT MOST 1048576: true; the input reads as it did. -/
def journalFormsUptoRow : OpenClaim := { program := "ytmcdfhihfcfbaaa", sum := "30d08ec6ce1d9a27b8d0518136e44de178f97bb64ecc221abcdab2e1c2c32c5d", func := "linchpin/linchpinlaw07.JournalForms", spec := "journalForms", inPlace := ["internal/abi.NoEscape", "internal/bytealg.MakeNoZero"], unfollowed := true, recurses := true, apart := false, narrowed := true }
def JournalFormsUptoSaid : Prop := journalFormsUptoRow.holds Try.pinned (OpenSpec.upto journalFormsSpec)

/-- 'linchpinlaw07.JournalTells', WHERE WHAT IT READS IS OF BULK AT MOST 1048576: true; the input reads as it did. -/
def journalTellsUptoRow : OpenClaim := { program := "ytmcdfhihfcfbaaa", sum := "30d08ec6ce1d9a27b8d0518136e44de178f97bb64ecc221abcdab2e1c2c32c5d", func := "linchpin/linchpinlaw07.JournalTells", spec := "journalTells", inPlace := ["internal/abi.NoEscape", "internal/bytealg.MakeNoZero"], unfollowed := true, recurses := true, apart := false, narrowed := true }
def JournalTellsUptoSaid : Prop := journalTellsUptoRow.holds Try.pinned (OpenSpec.upto journalTellsSpec)

/-- 'linchpinlaw07.JournalTurns', WHERE WHAT IT READS IS OF BULK AT MOST 1048576: true; the input reads as it did. -/
def journalTurnsUptoRow : OpenClaim := { program := "ytmcdfhihfcfbaaa", sum := "30d08ec6ce1d9a27b8d0518136e44de178f97bb64ecc221abcdab2e1c2c32c5d", func := "linchpin/linchpinlaw07.JournalTurns", spec := "journalTurns", inPlace := ["internal/abi.NoEscape", "internal/bytealg.MakeNoZero"], unfollowed := true, recurses := true, apart := false, narrowed := true }
def JournalTurnsUptoSaid : Prop := journalTurnsUptoRow.holds Try.pinned (OpenSpec.upto journalTurnsSpec)

/-- 'linchpinlaw07.JournalLasts', WHERE WHAT IT READS IS OF BULK AT MOST 1048576: true; the input reads as it did. -/
def journalLastsUptoRow : OpenClaim := { program := "ytmcdfhihfcfbaaa", sum := "30d08ec6ce1d9a27b8d0518136e44de178f97bb64ecc221abcdab2e1c2c32c5d", func := "linchpin/linchpinlaw07.JournalLasts", spec := "journalLasts", inPlace := ["internal/abi.NoEscape", "internal/bytealg.MakeNoZero"], unfollowed := true, recurses := true, apart := false, narrowed := true }
def JournalLastsUptoSaid : Prop := journalLastsUptoRow.holds Try.pinned (OpenSpec.upto journalLastsSpec)

end Rows
end Go.Proofs.Ytmcdfhihfcfbaaa
