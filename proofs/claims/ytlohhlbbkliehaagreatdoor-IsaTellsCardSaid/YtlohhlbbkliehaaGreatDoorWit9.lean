/-
  The tables out of a row's list; a world for the witness.
-/
import Derived.Test.YtlohhlbbkliehaaGreatDoorTab9
import Derived.Deep.DeepLaidRun
namespace Go.Proofs.YtlohhlbbkliehaaGreatDoor.W
open Go.RowKit
set_option linter.unusedVariables false

abbrev laidL : List (String × DataW Unit) := [("math/bits.deBruijn32tab", Rows.laid_math_bits_deBruijn32tab), ("math/bits.deBruijn64tab", Rows.laid_math_bits_deBruijn64tab), ("internal/strconv.uint64pow10", Rows.laid_internal_strconv_uint64pow10), ("unicode/utf8.acceptRanges", Rows.laid_unicode_utf8_acceptRanges), ("strconv.ErrRange", Rows.laid_strconv_ErrRange), ("strconv.ErrSyntax", Rows.laid_strconv_ErrSyntax), ("unicode.White_Space", Rows.laid_unicode_White_Space), ("strings.asciiSpace", Rows.laid_strings_asciiSpace), ("linchpin/isa.forms", Rows.laid_linchpin_isa_forms), ("linchpin/isa.calls", Rows.laid_linchpin_isa_calls), ("unicode/utf8.first", Rows.laid_unicode_utf8_first)]

theorem gP : Tryz.prog.globalNamed "internal/strconv.uint64pow10" = some 9 := by kernel_rfl
theorem gPty : (Tryz.prog.globals[9]?).map (·.type) = some 168 := by kernel_rfl
theorem gS : Tryz.prog.globalNamed "strings.asciiSpace" = some 2 := by kernel_rfl
theorem gSty : (Tryz.prog.globals[2]?).map (·.type) = some 103 := by kernel_rfl
theorem cellsU8 : Tryz.prog.cellsOf 5 = 1 := by kernel_rfl
theorem cellsU64 : Tryz.prog.cellsOf 81 = 1 := by kernel_rfl
theorem cellsPow : Tryz.prog.cellsOf 168 = 20 := by kernel_rfl
theorem cellsSp : Tryz.prog.cellsOf 103 = 256 := by kernel_rfl

theorem tabs_of {W : World} (h : laidMetH Tryz.prog laidL W) : Tabs W := by
  have h' : laidMet Tryz.prog laidL W := h
  have h1 : laidMet Tryz.prog [("linchpin/isa.forms", Rows.laid_linchpin_isa_forms)] W := h'.filter (fun x => x.1 == "linchpin/isa.forms")
  have h2 : laidMet Tryz.prog [("linchpin/isa.calls", Rows.laid_linchpin_isa_calls)] W := h'.filter (fun x => x.1 == "linchpin/isa.calls")
  have h3 : laidMet Tryz.prog [("internal/strconv.uint64pow10", Rows.laid_internal_strconv_uint64pow10)] W := h'.filter (fun x => x.1 == "internal/strconv.uint64pow10")
  have h4 : laidMet Tryz.prog [("strings.asciiSpace", Rows.laid_strings_asciiSpace)] W := h'.filter (fun x => x.1 == "strings.asciiSpace")
  have e3 : (Rows.laid_internal_strconv_uint64pow10 : DataW Unit) = Lib.tabData .u64 Lib.pow10Tab := by kernel_rfl
  have e4 : (Rows.laid_strings_asciiSpace : DataW Unit) = Lib.tabData .u8 Lib.asciiSpaceTab := by kernel_rfl
  rw [e3] at h3
  rw [e4] at h4
  exact ⟨forms_of h1, calls_of h2, Lib.tabIs_of_head gP gPty Tryz.underlying168 Tryz.underlying81 cellsU64 cellsPow h3, Lib.tabIs_of_head gS gSty Tryz.underlying103 Tryz.underlying5 cellsU8 cellsSp h4⟩

/-- a world for the witness: the settled one, every listed variable laid -/
def putCells (vs : List Value) : Obj → Obj
  | .cells _ t frozen => .cells vs.toArray t frozen
  | o => o
def flat0 : DataW Unit → List Value
  | .lit (.int k z) => [.int k z]
  | .lit (.string s) => [.string ⟨s.toArray⟩]
  | _ => []
def flat1 : DataW Unit → List Value
  | .agg l => l.flatMap flat0
  | d => flat0 d
def flat2 : DataW Unit → List Value
  | .agg l => l.flatMap flat1
  | d => flat1 d
def wsRows : List Value := [9, 13, 1, 32, 133, 101, 160, 5760, 5600, 8192, 8202, 1, 8232, 8233, 1, 8239, 8287, 48, 12288, 12288, 1].map fun z => Value.int .u16 z
noncomputable def laidFirst : List Obj := [
    .cells (flat2 Rows.laid_linchpin_isa_forms).toArray 57 (0, 0),
    .cells (flat2 Rows.laid_linchpin_isa_calls).toArray 76 (0, 0),
    .cells (flat2 Rows.laid_strings_asciiSpace).toArray 103 (0, 0),
    .cells #[.pointer (some ⟨20, 0, none⟩)] 119 (0, 0),
    .cells #[.int .i64 0] 3 (0, 0),
    .cells (flat2 Rows.laid_unicode_utf8_first).toArray 103 (0, 0),
    .cells (flat2 Rows.laid_unicode_utf8_acceptRanges).toArray 161 (0, 0),
    .cells #[.iface 181 (.pointer (some ⟨19, 0, none⟩))] 97 (0, 0),
    .cells #[.iface 181 (.pointer (some ⟨18, 0, none⟩))] 97 (0, 0),
    .cells (flat2 Rows.laid_internal_strconv_uint64pow10).toArray 168 (0, 0),
    .cells (flat2 Rows.laid_math_bits_deBruijn32tab).toArray 186 (0, 0),
    .cells (flat2 Rows.laid_math_bits_deBruijn64tab).toArray 187 (0, 0),
    .cells #[.pointer none] 119 (0, 0)]
noncomputable def laidLast : List Obj := [
    .cells #[.string ⟨#[118, 97, 108, 117, 101, 32, 111, 117, 116, 32, 111, 102, 32, 114, 97, 110, 103, 101]⟩] 183 (0, 0),
    .cells #[.string ⟨#[105, 110, 118, 97, 108, 105, 100, 32, 115, 121, 110, 116, 97, 120]⟩] 183 (0, 0),
    .cells #[.slice (some ⟨21, 0, none⟩) 7 7, .slice none 0 0, .int .i64 2] 139 (0, 0),
    .cells wsRows.toArray 142 (0, 0)]
noncomputable def laidWorld (os : Os) : World :=
  { World.holding Tryz.prog os ⟨#[], #[], []⟩ with heap := (laidFirst ++ ((World.holding Tryz.prog os ⟨#[], #[], []⟩).heap.toList.drop 13 ++ laidLast)).toArray }
theorem heap_size : (World.holding Tryz.prog (default : Os) ⟨#[], #[], []⟩).heap.size = 18 := by kernel_rfl
theorem heap_types : ((World.holding Tryz.prog (default : Os) ⟨#[], #[], []⟩).heap.toList.take 13).map (fun o => match o with | .cells c t f => some (c.size, t, f) | _ => none) = ((laidWorld (default : Os)).heap.toList.take 13).map fun o => match o with | .cells c t f => some (c.size, t, f) | _ => none := by kernel_rfl
theorem run_some (os : Os) : (DataW.laidRun Tryz.prog (laidWorld os) 8 (laidL.map (·.1))).map (·.1) = some laidL := by kernel_rfl
theorem laid_world (os : Os) : laidMet Tryz.prog laidL (laidWorld os) :=
  laidMet_of_run3 8 (run_some os) (by kernel_rfl) (by kernel_rfl)

end Go.Proofs.YtlohhlbbkliehaaGreatDoor.W
