/-
  The table of the instructions' forms.
-/
import Derived.Test.YtlohhlbbkliehaaGreatDoorLaid
import Derived.Test.YtlohhlbbkliehaaGreatDoorCards
import Derived.Lib.LaidTab
import Derived.LaidSub
import Derived.LaidLaws
namespace Go.Proofs.YtlohhlbbkliehaaGreatDoor.W
open Go.RowKit
set_option linter.unusedVariables false

/-- of each Op: its name, its operands, what it reads, what it writes -/
def formT : List (List (List UInt8)) := [
  [[], [], [], []],
  [[110, 111, 112], [], [], []],
  [[115, 97, 102, 101], [], [], []],
  [[115, 101, 116], [65, 73], [], [65]],
  [[104, 105, 103, 104], [65, 73], [65], [65]],
  [[109, 111, 118, 101], [65, 66], [66], [65]],
  [[97, 100, 100], [65, 66, 67], [66, 67], [65]],
  [[115, 117, 98], [65, 66, 67], [66, 67], [65]],
  [[109, 117, 108], [65, 66, 67], [66, 67], [65]],
  [[97, 110, 100], [65, 66, 67], [66, 67], [65]],
  [[111, 114], [65, 66, 67], [66, 67], [65]],
  [[108, 101, 115, 115], [65, 66, 67], [66, 67], [65]],
  [[115, 97, 109, 101], [65, 66, 67], [66, 67], [65]],
  [[97, 100, 100, 105], [65, 66, 73], [66], [65]],
  [[97, 100, 100, 114], [65, 73], [], [65]],
  [[108, 111, 97, 100], [65, 66, 73], [66], [65]],
  [[98, 121, 116, 101], [65, 66, 73], [66], [65]],
  [[115, 116, 111, 114, 101], [65, 66, 73], [65, 66], []],
  [[112, 117, 116], [65, 66, 73], [65, 66], []],
  [[106, 117, 109, 112], [73], [], []],
  [[122, 101, 114, 111], [65, 73], [65], []],
  [[110, 111, 110, 122, 101, 114, 111], [65, 73], [65], []],
  [[99, 97, 108, 108], [73], [83], [83]],
  [[99, 97, 108, 108, 114], [65], [65, 83], [83]],
  [[99, 97, 108, 108, 115], [73], [83], [83]],
  [[106, 117, 109, 112, 115], [73], [], []],
  [[114, 101, 116, 117, 114, 110], [], [83], [83]],
  [[112, 117, 115, 104], [65], [65, 83], [83]],
  [[112, 111, 112], [65], [83], [65, 83]],
  [[116, 108, 115], [65, 66], [66], [65]],
  [[115, 121, 115], [73], [], []]]

def formLeaves : List (TypeId × DataW Unit) := formT.flatten.map fun s => (9, .lit (.string s))
set_option maxRecDepth 100000 in
theorem leaves_forms : leavesB Tryz.prog 4 57 (Rows.laid_linchpin_isa_forms : DataW Unit) = some formLeaves := by kernel_rfl
theorem gF : Tryz.prog.globalNamed "linchpin/isa.forms" = some 0 := by kernel_rfl
theorem gFty : (Tryz.prog.globals[0]?).map (·.type) = some 57 := by kernel_rfl

/-- the table as it lies in memory -/
structure FormsAt (W : World) : Prop where
  is : ∃ (cs : Array Value) (t : TypeId) (fz : Nat × Nat), W.heap[0]? = some (.cells cs t fz) ∧ ∀ (i : Nat) (s : List UInt8), formT.flatten[i]? = some s → cs[i]? = some (Value.string ⟨s.toArray⟩)

theorem forms_of {W : World} {rest : List (String × DataW Unit)} (h : laidMet Tryz.prog (("linchpin/isa.forms", Rows.laid_linchpin_isa_forms) :: rest) W) : FormsAt W := by
  obtain ⟨cs, t, fz, hb, hc⟩ := laid_leaves gF gFty Tryz.underlying57 leaves_forms h
  refine ⟨cs, t, fz, hb, fun i s hs => ?_⟩
  obtain ⟨c, h1, h2⟩ := hc i (9, .lit (.string s)) (by unfold formLeaves; rw [List.getElem?_map, hs]; rfl)
  rw [h1, leaf_string Tryz.underlying9 h2]

theorem FormsAt.below {W w : World} (h : FormsAt W) (hb : Below W.heap.size W w) : FormsAt w := by
  obtain ⟨cs, t, fz, h1, h2⟩ := h.is
  have hlt : 0 < W.heap.size := by
    rcases Nat.lt_or_ge 0 W.heap.size with h' | h'
    · exact h'
    · rw [Array.getElem?_eq_none h'] at h1; cases h1
  exact ⟨cs, t, fz, by rw [hb.block _ hlt, h1], h2⟩

/-- the operands' letters -/
def opersL (op : Nat) : List UInt8 := (formT.flatten.getD (4 * op + 1) [])
theorem FormsAt.oper {W : World} (h : FormsAt W) (op : Nat) (ho : op < 31) : W.cell? ⟨0, op * 4 + 1, none⟩ = some (.string ⟨(opersL op).toArray⟩) := by
  obtain ⟨cs, t, fz, h1, h2⟩ := h.is
  have hl : formT.flatten.length = 124 := by decide +kernel
  have := h2 (4 * op + 1) (opersL op) (by unfold opersL; rw [List.getD_eq_getElem?_getD, List.getElem?_eq_getElem (by omega)]; rfl)
  simp only [World.cell?, h1]
  rw [show op * 4 + 1 = 4 * op + 1 by omega]
  simpa using this

/-- its cells, for a witness -/
def formV : List Value := formT.flatten.map fun s => .string ⟨s.toArray⟩

end Go.Proofs.YtlohhlbbkliehaaGreatDoor.W
