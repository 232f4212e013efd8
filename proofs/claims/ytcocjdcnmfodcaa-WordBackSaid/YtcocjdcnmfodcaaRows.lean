/-
  No cell of these rows narrows 'for every input' (looked for: loops, veiled, ifaces, maps, wideKeys, modest, calm, conditions, laid).
  DERIVED. THE GIVEN ROWS OF THIS SEAT. 5 by the template 'for every input the law returns true; each argument reads behind the call as it read before'; 0 by the template 'total and deterministic' (their statements: YtcocjdcnmfodcaaTotals.lean).
  GIVEN WITH THE SEED: the statements are not yours to turn. If you find one false, say at which input.
  Laid BY PROGRAM, IN A SANDBOX (cutbox-rows.mjs): the forced cells as the released guide's own fill.sh prints them over the translation 2afcb389650f6b85… (all of the seat's roots in one cut). By AI agents, Wed Nov 11 2026. No macro, syntax, notation, axiom, sorry.
-/
import Derived.Test.YtcocjdcnmfodcaaChecked
import GoSem.Claim
import GoSem.ClaimJoined
import GoSem.ClaimMapViews
import Derived.JoinedTies
import Derived.KernelRfl
namespace Go.Proofs.Ytcocjdcnmfodcaa
/- THE CELL 'sum', in the pinned program and in every row, IS THE sha256 OF THE DUMP (.gsa) THAT YtcocjdcnmfodcaaProg.lean LOADS. Nothing in Lean hashes anything: it is a label: what it is worth is what the hold of that sum in a sandbox is worth. -/
noncomputable def Try.pinned : Pinned := { name := "ytcocjdcnmfodcaa", sum := "2afcb389650f6b85fdc69aef9d8fa64f4dff7b21640c7b3feced95544f7cde01", checked := Try.checked }
namespace Rows
def none {H : Type} : Left H := { results := [], args := [] }

/-- 'linchpinlaw01.WordTells': WHATEVER THE INPUT: true; the input reads as it did. -/
def wordTellsSpec : ChangeSpec := { name := "wordTells", fn := fun _ => fun
  | [d1, d2, d3, d4, d5] => { results := [.lit (.bool true)], args := [d1, d2, d3, d4, d5] }
  | _ => none }
def wordTellsRow : OpenClaim := { program := "ytcocjdcnmfodcaa", sum := "2afcb389650f6b85fdc69aef9d8fa64f4dff7b21640c7b3feced95544f7cde01", func := "linchpin/linchpinlaw01.WordTells", spec := "wordTells", unfollowed := true, recurses := true, apart := false }
def WordTellsSaid : Prop := wordTellsRow.holds Try.pinned (OpenSpec.ofChange wordTellsSpec)

/-- ITS FALSE NEIGHBOUR: 'it returns false'. Refute it at one input. -/
def wordTellsWrong : ChangeSpec := { name := "wordTells", fn := fun _ => fun
  | [d1, d2, d3, d4, d5] => { results := [.lit (.bool false)], args := [d1, d2, d3, d4, d5] }
  | _ => none }
def WordTellsWrongFalsely : Prop := wordTellsRow.holds Try.pinned (OpenSpec.ofChange wordTellsWrong)

/-- 'linchpinlaw01.WordBack': WHATEVER THE INPUT: true; the input reads as it did. -/
def wordBackSpec : ChangeSpec := { name := "wordBack", fn := fun _ => fun
  | [d1, d2, d3, d4, d5] => { results := [.lit (.bool true)], args := [d1, d2, d3, d4, d5] }
  | _ => none }
def wordBackRow : OpenClaim := { program := "ytcocjdcnmfodcaa", sum := "2afcb389650f6b85fdc69aef9d8fa64f4dff7b21640c7b3feced95544f7cde01", func := "linchpin/linchpinlaw01.WordBack", spec := "wordBack", unfollowed := true, recurses := true, apart := false }
def WordBackSaid : Prop := wordBackRow.holds Try.pinned (OpenSpec.ofChange wordBackSpec)

/-- ITS FALSE NEIGHBOUR: 'it returns false'. Refute it at one input. -/
def wordBackWrong : ChangeSpec := { name := "wordBack", fn := fun _ => fun
  | [d1, d2, d3, d4, d5] => { results := [.lit (.bool false)], args := [d1, d2, d3, d4, d5] }
  | _ => none }
def WordBackWrongFalsely : Prop := wordBackRow.holds Try.pinned (OpenSpec.ofChange wordBackWrong)

/-- 'linchpinlaw01.WordRanges': WHATEVER THE INPUT: true; the input reads as it did. -/
def wordRangesSpec : ChangeSpec := { name := "wordRanges", fn := fun _ => fun
  | [d1, d2, d3, d4, d5] => { results := [.lit (.bool true)], args := [d1, d2, d3, d4, d5] }
  | _ => none }
def wordRangesRow : OpenClaim := { program := "ytcocjdcnmfodcaa", sum := "2afcb389650f6b85fdc69aef9d8fa64f4dff7b21640c7b3feced95544f7cde01", func := "linchpin/linchpinlaw01.WordRanges", spec := "wordRanges", unfollowed := true, recurses := true, apart := false }
def WordRangesSaid : Prop := wordRangesRow.holds Try.pinned (OpenSpec.ofChange wordRangesSpec)

/-- ITS FALSE NEIGHBOUR: 'it returns false'. Refute it at one input. -/
def wordRangesWrong : ChangeSpec := { name := "wordRanges", fn := fun _ => fun
  | [d1, d2, d3, d4, d5] => { results := [.lit (.bool false)], args := [d1, d2, d3, d4, d5] }
  | _ => none }
def WordRangesWrongFalsely : Prop := wordRangesRow.holds Try.pinned (OpenSpec.ofChange wordRangesWrong)

/-- 'linchpinlaw01.WordParts': WHATEVER THE INPUT: true; the input reads as it did. -/
def wordPartsSpec : ChangeSpec := { name := "wordParts", fn := fun _ => fun
  | [d1, d2] => { results := [.lit (.bool true)], args := [d1, d2] }
  | _ => none }
def wordPartsRow : OpenClaim := { program := "ytcocjdcnmfodcaa", sum := "2afcb389650f6b85fdc69aef9d8fa64f4dff7b21640c7b3feced95544f7cde01", func := "linchpin/linchpinlaw01.WordParts", spec := "wordParts", unfollowed := true, recurses := true, apart := false }
def WordPartsSaid : Prop := wordPartsRow.holds Try.pinned (OpenSpec.ofChange wordPartsSpec)

/-- ITS FALSE NEIGHBOUR: 'it returns false'. Refute it at one input. -/
def wordPartsWrong : ChangeSpec := { name := "wordParts", fn := fun _ => fun
  | [d1, d2] => { results := [.lit (.bool false)], args := [d1, d2] }
  | _ => none }
def WordPartsWrongFalsely : Prop := wordPartsRow.holds Try.pinned (OpenSpec.ofChange wordPartsWrong)

/-- 'linchpinlaw01.WordRounds': WHATEVER THE INPUT: true; the input reads as it did. -/
def wordRoundsSpec : ChangeSpec := { name := "wordRounds", fn := fun _ => fun
  | [d1, d2] => { results := [.lit (.bool true)], args := [d1, d2] }
  | _ => none }
def wordRoundsRow : OpenClaim := { program := "ytcocjdcnmfodcaa", sum := "2afcb389650f6b85fdc69aef9d8fa64f4dff7b21640c7b3feced95544f7cde01", func := "linchpin/linchpinlaw01.WordRounds", spec := "wordRounds", unfollowed := true, recurses := true, apart := false }
def WordRoundsSaid : Prop := wordRoundsRow.holds Try.pinned (OpenSpec.ofChange wordRoundsSpec)

/-- ITS FALSE NEIGHBOUR: 'it returns false'. Refute it at one input. -/
def wordRoundsWrong : ChangeSpec := { name := "wordRounds", fn := fun _ => fun
  | [d1, d2] => { results := [.lit (.bool false)], args := [d1, d2] }
  | _ => none }
def WordRoundsWrongFalsely : Prop := wordRoundsRow.holds Try.pinned (OpenSpec.ofChange wordRoundsWrong)

/- THE SECOND FORM. 'bulk': how many values and letters a reading holds, each counted each time it is reached (what is shared counts as often as it is met; a slice's spare places count too). A statement '..UptoSaid' is the law's where the arguments, and the package variables that the reading takes, are together of bulk at most 1048576: NARROWER than '..Said'. Prove '..Said' where nothing that the law and all that it calls make is longer than what came in: it says more and counts as full. Else prove '..UptoSaid'. A law counts once. -/
mutual
def uptoBulk {H : Type} : DataW H → Nat
  | .lit (.string bytes) => bytes.length + 1
  | .lit _ => 1
  | .nil => 1
  | .ptr d => uptoBulk d + 1
  | .slice elems spare => uptoBulkAll elems + uptoBulkAll spare + 1
  | .agg parts => uptoBulkAll parts + 1
  | .iface _ d => uptoBulk d + 1
  | .map entries => uptoBulkEntries entries + 1
  | .held _ => 1
def uptoBulkAll {H : Type} : List (DataW H) → Nat
  | [] => 0
  | d :: r => uptoBulk d + uptoBulkAll r
def uptoBulkEntries {H : Type} : List (Lit × DataW H) → Nat
  | [] => 0
  | x :: r => uptoBulkEntry x + uptoBulkEntries r
def uptoBulkEntry {H : Type} : Lit × DataW H → Nat
  | (.string bytes, d) => bytes.length + uptoBulk d + 1
  | (_, d) => uptoBulk d + 1
 end
def uptoSmall : (H : Type) → List (DataW H) → Bool := fun _ ds => decide (uptoBulkAll ds ≤ 1048576)
def OpenSpec.upto (s : _root_.Go.ChangeSpec) : _root_.Go.OpenSpec := { _root_.Go.OpenSpec.ofChange s with cond := some uptoSmall }

/-- 'linchpinlaw01.WordTells', WHERE WHAT IT READS IS OF BULK AT MOST 1048576: true; the input reads as it did. -/
def wordTellsUptoRow : OpenClaim := { program := "ytcocjdcnmfodcaa", sum := "2afcb389650f6b85fdc69aef9d8fa64f4dff7b21640c7b3feced95544f7cde01", func := "linchpin/linchpinlaw01.WordTells", spec := "wordTells", unfollowed := true, recurses := true, apart := false, narrowed := true }
def WordTellsUptoSaid : Prop := wordTellsUptoRow.holds Try.pinned (OpenSpec.upto wordTellsSpec)

/-- 'linchpinlaw01.WordBack', WHERE WHAT IT READS IS OF BULK AT MOST 1048576: true; the input reads as it did. -/
def wordBackUptoRow : OpenClaim := { program := "ytcocjdcnmfodcaa", sum := "2afcb389650f6b85fdc69aef9d8fa64f4dff7b21640c7b3feced95544f7cde01", func := "linchpin/linchpinlaw01.WordBack", spec := "wordBack", unfollowed := true, recurses := true, apart := false, narrowed := true }
def WordBackUptoSaid : Prop := wordBackUptoRow.holds Try.pinned (OpenSpec.upto wordBackSpec)

/-- 'linchpinlaw01.WordRanges', WHERE WHAT IT READS IS OF BULK AT MOST 1048576: true; the input reads as it did. -/
def wordRangesUptoRow : OpenClaim := { program := "ytcocjdcnmfodcaa", sum := "2afcb389650f6b85fdc69aef9d8fa64f4dff7b21640c7b3feced95544f7cde01", func := "linchpin/linchpinlaw01.WordRanges", spec := "wordRanges", unfollowed := true, recurses := true, apart := false, narrowed := true }
def WordRangesUptoSaid : Prop := wordRangesUptoRow.holds Try.pinned (OpenSpec.upto wordRangesSpec)

/-- 'linchpinlaw01.WordParts', WHERE WHAT IT READS IS OF BULK AT MOST 1048576: true; the input reads as it did. -/
def wordPartsUptoRow : OpenClaim := { program := "ytcocjdcnmfodcaa", sum := "2afcb389650f6b85fdc69aef9d8fa64f4dff7b21640c7b3feced95544f7cde01", func := "linchpin/linchpinlaw01.WordParts", spec := "wordParts", unfollowed := true, recurses := true, apart := false, narrowed := true }
def WordPartsUptoSaid : Prop := wordPartsUptoRow.holds Try.pinned (OpenSpec.upto wordPartsSpec)

/-- 'linchpinlaw01.WordRounds', WHERE WHAT IT READS IS OF BULK AT MOST 1048576: true; the input reads as it did. -/
def wordRoundsUptoRow : OpenClaim := { program := "ytcocjdcnmfodcaa", sum := "2afcb389650f6b85fdc69aef9d8fa64f4dff7b21640c7b3feced95544f7cde01", func := "linchpin/linchpinlaw01.WordRounds", spec := "wordRounds", unfollowed := true, recurses := true, apart := false, narrowed := true }
def WordRoundsUptoSaid : Prop := wordRoundsUptoRow.holds Try.pinned (OpenSpec.upto wordRoundsSpec)

end Rows
end Go.Proofs.Ytcocjdcnmfodcaa
