/-
  No cell of these rows narrows 'for every input' (looked for: loops, veiled, ifaces, maps, wideKeys, modest, calm, conditions, laid).
  DERIVED. THE GIVEN ROWS OF THIS SEAT. 6 by the template 'for every input the law returns true; each argument reads behind the call as it read before'; 0 by the template 'total and deterministic' (their statements: YtmgkoocpnakanaaTotals.lean).
  GIVEN WITH THE SEED: the statements are not yours to turn. If you find one false, say at which input.
  Laid BY PROGRAM, IN A SANDBOX (cutbox-rows.mjs): the forced cells as the released guide's own fill.sh prints them over the translation 26045781120eaba0… (all of the seat's roots in one cut). By AI agents, Wed Nov 11 2026. No macro, syntax, notation, axiom, sorry.
-/
import Derived.Test.YtmgkoocpnakanaaChecked
import GoSem.Claim
import GoSem.ClaimJoined
import GoSem.ClaimMapViews
import Derived.JoinedTies
import Derived.KernelRfl
namespace Go.Proofs.Ytmgkoocpnakanaa
/- THE CELL 'sum', in the pinned program and in every row, IS THE sha256 OF THE DUMP (.gsa) THAT YtmgkoocpnakanaaProg.lean LOADS. Nothing in Lean hashes anything: it is a label: what it is worth is what the hold of that sum in a sandbox is worth. -/
noncomputable def Try.pinned : Pinned := { name := "ytmgkoocpnakanaa", sum := "26045781120eaba0c9cafc797c3befc79d652c4003ef34203277dec91826327d", checked := Try.checked }
namespace Rows
def none {H : Type} : Left H := { results := [], args := [] }

/-- 'linchpinlaw08.VersionTells': WHATEVER THE INPUT: true; the input reads as it did. -/
def versionTellsSpec : ChangeSpec := { name := "versionTells", fn := fun _ => fun
  | [d1, d2, d3] => { results := [.lit (.bool true)], args := [d1, d2, d3] }
  | _ => none }
def versionTellsRow : OpenClaim := { program := "ytmgkoocpnakanaa", sum := "26045781120eaba0c9cafc797c3befc79d652c4003ef34203277dec91826327d", func := "linchpin/linchpinlaw08.VersionTells", spec := "versionTells", unfollowed := true, recurses := true, apart := false }
def VersionTellsSaid : Prop := versionTellsRow.holds Try.pinned (OpenSpec.ofChange versionTellsSpec)

/-- ITS FALSE NEIGHBOUR: 'it returns false'. Refute it at one input. -/
def versionTellsWrong : ChangeSpec := { name := "versionTells", fn := fun _ => fun
  | [d1, d2, d3] => { results := [.lit (.bool false)], args := [d1, d2, d3] }
  | _ => none }
def VersionTellsWrongFalsely : Prop := versionTellsRow.holds Try.pinned (OpenSpec.ofChange versionTellsWrong)

/-- 'linchpinlaw08.VersionPartial': WHATEVER THE INPUT: true; the input reads as it did. -/
def versionPartialSpec : ChangeSpec := { name := "versionPartial", fn := fun _ => fun
  | [d1, d2, d3, d4] => { results := [.lit (.bool true)], args := [d1, d2, d3, d4] }
  | _ => none }
def versionPartialRow : OpenClaim := { program := "ytmgkoocpnakanaa", sum := "26045781120eaba0c9cafc797c3befc79d652c4003ef34203277dec91826327d", func := "linchpin/linchpinlaw08.VersionPartial", spec := "versionPartial", unfollowed := true, recurses := true, apart := false }
def VersionPartialSaid : Prop := versionPartialRow.holds Try.pinned (OpenSpec.ofChange versionPartialSpec)

/-- ITS FALSE NEIGHBOUR: 'it returns false'. Refute it at one input. -/
def versionPartialWrong : ChangeSpec := { name := "versionPartial", fn := fun _ => fun
  | [d1, d2, d3, d4] => { results := [.lit (.bool false)], args := [d1, d2, d3, d4] }
  | _ => none }
def VersionPartialWrongFalsely : Prop := versionPartialRow.holds Try.pinned (OpenSpec.ofChange versionPartialWrong)

/-- 'linchpinlaw08.VersionParents': WHATEVER THE INPUT: true; the input reads as it did. -/
def versionParentsSpec : ChangeSpec := { name := "versionParents", fn := fun _ => fun
  | [d1, d2, d3] => { results := [.lit (.bool true)], args := [d1, d2, d3] }
  | _ => none }
def versionParentsRow : OpenClaim := { program := "ytmgkoocpnakanaa", sum := "26045781120eaba0c9cafc797c3befc79d652c4003ef34203277dec91826327d", func := "linchpin/linchpinlaw08.VersionParents", spec := "versionParents", unfollowed := true, recurses := true, apart := false }
def VersionParentsSaid : Prop := versionParentsRow.holds Try.pinned (OpenSpec.ofChange versionParentsSpec)

/-- ITS FALSE NEIGHBOUR: 'it returns false'. Refute it at one input. -/
def versionParentsWrong : ChangeSpec := { name := "versionParents", fn := fun _ => fun
  | [d1, d2, d3] => { results := [.lit (.bool false)], args := [d1, d2, d3] }
  | _ => none }
def VersionParentsWrongFalsely : Prop := versionParentsRow.holds Try.pinned (OpenSpec.ofChange versionParentsWrong)

/-- 'linchpinlaw08.VersionLine': WHATEVER THE INPUT: true; the input reads as it did. -/
def versionLineSpec : ChangeSpec := { name := "versionLine", fn := fun _ => fun
  | [d1, d2] => { results := [.lit (.bool true)], args := [d1, d2] }
  | _ => none }
def versionLineRow : OpenClaim := { program := "ytmgkoocpnakanaa", sum := "26045781120eaba0c9cafc797c3befc79d652c4003ef34203277dec91826327d", func := "linchpin/linchpinlaw08.VersionLine", spec := "versionLine", unfollowed := true, recurses := true, apart := false }
def VersionLineSaid : Prop := versionLineRow.holds Try.pinned (OpenSpec.ofChange versionLineSpec)

/-- ITS FALSE NEIGHBOUR: 'it returns false'. Refute it at one input. -/
def versionLineWrong : ChangeSpec := { name := "versionLine", fn := fun _ => fun
  | [d1, d2] => { results := [.lit (.bool false)], args := [d1, d2] }
  | _ => none }
def VersionLineWrongFalsely : Prop := versionLineRow.holds Try.pinned (OpenSpec.ofChange versionLineWrong)

/-- 'linchpinlaw08.VersionOrders': WHATEVER THE INPUT: true; the input reads as it did. -/
def versionOrdersSpec : ChangeSpec := { name := "versionOrders", fn := fun _ => fun
  | [d] => { results := [.lit (.bool true)], args := [d] }
  | _ => none }
def versionOrdersRow : OpenClaim := { program := "ytmgkoocpnakanaa", sum := "26045781120eaba0c9cafc797c3befc79d652c4003ef34203277dec91826327d", func := "linchpin/linchpinlaw08.VersionOrders", spec := "versionOrders", unfollowed := true, recurses := true, apart := false }
def VersionOrdersSaid : Prop := versionOrdersRow.holds Try.pinned (OpenSpec.ofChange versionOrdersSpec)

/-- ITS FALSE NEIGHBOUR: 'it returns false'. Refute it at one input. -/
def versionOrdersWrong : ChangeSpec := { name := "versionOrders", fn := fun _ => fun
  | [d] => { results := [.lit (.bool false)], args := [d] }
  | _ => none }
def VersionOrdersWrongFalsely : Prop := versionOrdersRow.holds Try.pinned (OpenSpec.ofChange versionOrdersWrong)

/-- 'linchpinlaw08.VersionGrows': WHATEVER THE INPUT: true; the input reads as it did. -/
def versionGrowsSpec : ChangeSpec := { name := "versionGrows", fn := fun _ => fun
  | [d1, d2, d3, d4] => { results := [.lit (.bool true)], args := [d1, d2, d3, d4] }
  | _ => none }
def versionGrowsRow : OpenClaim := { program := "ytmgkoocpnakanaa", sum := "26045781120eaba0c9cafc797c3befc79d652c4003ef34203277dec91826327d", func := "linchpin/linchpinlaw08.VersionGrows", spec := "versionGrows", unfollowed := true, recurses := true, apart := false }
def VersionGrowsSaid : Prop := versionGrowsRow.holds Try.pinned (OpenSpec.ofChange versionGrowsSpec)

/-- ITS FALSE NEIGHBOUR: 'it returns false'. Refute it at one input. -/
def versionGrowsWrong : ChangeSpec := { name := "versionGrows", fn := fun _ => fun
  | [d1, d2, d3, d4] => { results := [.lit (.bool false)], args := [d1, d2, d3, d4] }
  | _ => none }
def VersionGrowsWrongFalsely : Prop := versionGrowsRow.holds Try.pinned (OpenSpec.ofChange versionGrowsWrong)

/- THE SECOND FORM. 'bulk': how many values and letters a reading holds, each counted each time it is reached (what is shared counts as often as it is met; a slice's spare places count too). A statement '..UptoSaid' is the law's where the arguments, and the package variables that the reading takes, are together of bulk at most 1048576: NARROWER than '..Said'. Prove '..Said' where nothing that the law and all that it calls make is longer than what came in: it says more and counts as full. Else prove '..UptoSaid'. A law counts once. -/
mutual
def uptoBulk {H : Type} : DataW H → Nat
  | .lit (.string bytes) => bytes.length + 1
  | .lit _ => 1
  | .nil => 1
  | .ptr d => uptoBulk d + 1
  | .slice elems spare => uptoBulkAll elems + uptoBulkAll spare + 1
  | .agg parts => uptoBulkAll parts + 1
  | .iface _ d => uptoBulk d + 1
  | .map entries => uptoBulkEntries entries + 1
  | .held _ => 1
def uptoBulkAll {H : Type} : List (DataW H) → Nat
  | [] => 0
  | d :: r => uptoBulk d + uptoBulkAll r
def uptoBulkEntries {H : Type} : List (Lit × DataW H) → Nat
  | [] => 0
  | x :: r => uptoBulkEntry x + uptoBulkEntries r
def uptoBulkEntry {H : Type} : Lit × DataW H → Nat
  | (.string bytes, d) => bytes.length + uptoBulk d + 1
  | (_, d) => uptoBulk d + 1
 end
def uptoSmall : (H : Type) → List (DataW H) → Bool := fun _ ds => decide (uptoBulkAll ds ≤ 1048576)
def OpenSpec.upto (s : _root_.Go.ChangeSpec) : _root_.Go.OpenSpec := { _root_.Go.OpenSpec.ofChange s with cond := some uptoSmall }

/-- 'linchpinlaw08.VersionTells', WHERE WHAT IT READS IS OF BULK AT MOST 1048576: true; the input reads as it did. -/
def versionTellsUptoRow : OpenClaim := { program := "ytmgkoocpnakanaa", sum := "26045781120eaba0c9cafc797c3befc79d652c4003ef34203277dec91826327d", func := "linchpin/linchpinlaw08.VersionTells", spec := "versionTells", unfollowed := true, recurses := true, apart := false, narrowed := true }
def VersionTellsUptoSaid : Prop := versionTellsUptoRow.holds Try.pinned (OpenSpec.upto versionTellsSpec)

/-- 'linchpinlaw08.VersionPartial', WHERE WHAT IT READS IS OF BULK AT MOST 1048576: true; the input reads as it did. -/
def versionPartialUptoRow : OpenClaim := { program := "ytmgkoocpnakanaa", sum := "26045781120eaba0c9cafc797c3befc79d652c4003ef34203277dec91826327d", func := "linchpin/linchpinlaw08.VersionPartial", spec := "versionPartial", unfollowed := true, recurses := true, apart := false, narrowed := true }
def VersionPartialUptoSaid : Prop := versionPartialUptoRow.holds Try.pinned (OpenSpec.upto versionPartialSpec)

/-- 'linchpinlaw08.VersionParents', WHERE WHAT IT READS IS OF BULK AT MOST 1048576: true; the input reads as it did. -/
def versionParentsUptoRow : OpenClaim := { program := "ytmgkoocpnakanaa", sum := "26045781120eaba0c9cafc797c3befc79d652c4003ef34203277dec91826327d", func := "linchpin/linchpinlaw08.VersionParents", spec := "versionParents", unfollowed := true, recurses := true, apart := false, narrowed := true }
def VersionParentsUptoSaid : Prop := versionParentsUptoRow.holds Try.pinned (OpenSpec.upto versionParentsSpec)

/-- 'linchpinlaw08.VersionLine', WHERE WHAT IT READS IS OF BULK AT MOST 1048576: true; the input reads as it did. -/
def versionLineUptoRow : OpenClaim := { program := "ytmgkoocpnakanaa", sum := "26045781120eaba0c9cafc797c3befc79d652c4003ef34203277dec91826327d", func := "linchpin/linchpinlaw08.VersionLine", spec := "versionLine", unfollowed := true, recurses := true, apart := false, narrowed := true }
def VersionLineUptoSaid : Prop := versionLineUptoRow.holds Try.pinned (OpenSpec.upto versionLineSpec)

/-- 'linchpinlaw08.VersionOrders', WHERE WHAT IT READS IS OF BULK AT MOST 1048576: true; the input reads as it did. -/
def versionOrdersUptoRow : OpenClaim := { program := "ytmgkoocpnakanaa", sum := "26045781120eaba0c9cafc797c3befc79d652c4003ef34203277dec91826327d", func := "linchpin/linchpinlaw08.VersionOrders", spec := "versionOrders", unfollowed := true, recurses := true, apart := false, narrowed := true }
def VersionOrdersUptoSaid : Prop := versionOrdersUptoRow.holds Try.pinned (OpenSpec.upto versionOrdersSpec)

/-- 'linchpinlaw08.VersionGrows', WHERE WHAT IT READS IS OF BULK AT MOST 1048576: true; the input reads as it did. -/
def versionGrowsUptoRow : OpenClaim := { program := "ytmgkoocpnakanaa", sum := "26045781120eaba0c9cafc797c3befc79d652c4003ef34203277dec91826327d", func := "linchpin/linchpinlaw08.VersionGrows", spec := "versionGrows", unfollowed := true, recurses := true, apart := false, narrowed := true }
def VersionGrowsUptoSaid : Prop := versionGrowsUptoRow.holds Try.pinned (OpenSpec.upto versionGrowsSpec)

end Rows
end Go.Proofs.Ytmgkoocpnakanaa
