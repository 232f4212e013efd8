/-
  The tables that Isa's functions read.
-/
import Derived.Test.YtlohhlbbkliehaaGreatDoorForms
import Derived.Lib.LaidTab
import Derived.Lib.ItoaNum
import Derived.Lib.Space
namespace Go.Proofs.YtlohhlbbkliehaaGreatDoor.W
open Go.RowKit
set_option linter.unusedVariables false

/-- of each system call: how many registers it reads, writes -/
def callT : List Int := [0, 0, 1, 0, 1, 1, 2, 1, 0, 0, 3, 1, 1, 1, 3, 1]
def callLeaves : List (TypeId × DataW Unit) := callT.map fun k => (3, .lit (.int .i64 k))
set_option maxRecDepth 100000 in
theorem leaves_calls : leavesB Tryz.prog 4 76 (Rows.laid_linchpin_isa_calls : DataW Unit) = some callLeaves := by kernel_rfl
theorem gC : Tryz.prog.globalNamed "linchpin/isa.calls" = some 1 := by kernel_rfl
theorem gCty : (Tryz.prog.globals[1]?).map (·.type) = some 76 := by kernel_rfl

structure CallsAt (W : World) : Prop where
  is : ∃ (cs : Array Value) (t : TypeId) (fz : Nat × Nat), W.heap[1]? = some (.cells cs t fz) ∧ ∀ (i : Nat) (k : Int), callT[i]? = some k → cs[i]? = some (Value.int .i64 k)
theorem calls_of {W : World} {rest : List (String × DataW Unit)} (h : laidMet Tryz.prog (("linchpin/isa.calls", Rows.laid_linchpin_isa_calls) :: rest) W) : CallsAt W := by
  obtain ⟨cs, t, fz, hb, hc⟩ := laid_leaves gC gCty Tryz.underlying76 leaves_calls h
  refine ⟨cs, t, fz, hb, fun i s hs => ?_⟩
  obtain ⟨c, h1, h2⟩ := hc i (3, .lit (.int .i64 s)) (by unfold callLeaves; rw [List.getElem?_map, hs]; rfl)
  rw [h1, leaf_int Tryz.underlying3 h2]
theorem CallsAt.below {W w : World} (h : CallsAt W) (hb : Below W.heap.size W w) : CallsAt w := by
  obtain ⟨cs, t, fz, h1, h2⟩ := h.is
  have hlt : 1 < W.heap.size := by
    rcases Nat.lt_or_ge 1 W.heap.size with h' | h'
    · exact h'
    · rw [Array.getElem?_eq_none h'] at h1; cases h1
  exact ⟨cs, t, fz, by rw [hb.block _ hlt, h1], h2⟩
def sysR (m : Int) : Nat := (callT.getD (2 * m.toNat) 0).toNat
def sysW (m : Int) : Nat := (callT.getD (2 * m.toNat + 1) 0).toNat
theorem CallsAt.at {W : World} (h : CallsAt W) (k : Nat) (hk : k < 8) : W.cell? ⟨1, k * 2, none⟩ = some (.int .i64 (sysR k : Nat)) ∧ W.cell? ⟨1, k * 2 + 1, none⟩ = some (.int .i64 (sysW k : Nat)) ∧ sysR k ≤ 3 ∧ sysW k ≤ 1 := by
  obtain ⟨cs, t, fz, h1, h2⟩ := h.is
  simp only [World.cell?, h1]
  rcases (by omega : k = 0 ∨ k = 1 ∨ k = 2 ∨ k = 3 ∨ k = 4 ∨ k = 5 ∨ k = 6 ∨ k = 7) with rfl | rfl | rfl | rfl | rfl | rfl | rfl | rfl
  all_goals refine ⟨?_, ?_, by decide, by decide⟩
  all_goals first | exact h2 0 _ rfl | exact h2 1 _ rfl | exact h2 2 _ rfl | exact h2 3 _ rfl | exact h2 4 _ rfl | exact h2 5 _ rfl | exact h2 6 _ rfl | exact h2 7 _ rfl | exact h2 8 _ rfl | exact h2 9 _ rfl | exact h2 10 _ rfl | exact h2 11 _ rfl | exact h2 12 _ rfl | exact h2 13 _ rfl | exact h2 14 _ rfl | exact h2 15 _ rfl

/-- the words of an instruction: its name, what it reads, what it writes -/
def nameL (op : Nat) : List UInt8 := formT.flatten.getD (4 * op) []
def readsL (op : Nat) : List UInt8 := formT.flatten.getD (4 * op + 2) []
def writesL (op : Nat) : List UInt8 := formT.flatten.getD (4 * op + 3) []
theorem FormsAt.word {W : World} (h : FormsAt W) (op : Nat) (ho : op < 31) (i : Nat) (hi : i < 4) : W.cell? ⟨0, op * 4 + i, none⟩ = some (.string ⟨(formT.flatten.getD (4 * op + i) []).toArray⟩) := by
  obtain ⟨cs, t, fz, h1, h2⟩ := h.is
  have hl : formT.flatten.length = 124 := by decide +kernel
  have := h2 (4 * op + i) (formT.flatten.getD (4 * op + i) []) (by rw [List.getD_eq_getElem?_getD, List.getElem?_eq_getElem (by omega)]; rfl)
  simp only [World.cell?, h1]
  rw [show op * 4 + i = 4 * op + i by omega]
  simpa using this

/-- the library's tables -/
abbrev PowAt (W : World) : Prop := Lib.TabIs Tryz.prog W "internal/strconv.uint64pow10" .u64 Lib.pow10Tab
abbrev SpaceAt (W : World) : Prop := Lib.TabIs Tryz.prog W "strings.asciiSpace" .u8 Lib.asciiSpaceTab
theorem tab_below {P : Program} {W w : World} {name : String} {k : IntKind} {zs : List Int} (h : Lib.TabIs P W name k zs) (hb : Below W.heap.size W w) : Lib.TabIs P w name k zs := by
  unfold Lib.TabIs World.var? at h ⊢
  rcases hg : P.globalNamed name with _ | g
  · rw [hg] at h; cases h
  · rw [hg] at h
    simp only [Option.bind_some] at h ⊢
    rcases Nat.lt_or_ge g W.heap.size with hlt | hge
    · rw [hb.block g hlt]; exact h
    · rw [Array.getElem?_eq_none hge] at h; cases h

/-- all tables -/
structure Tabs (W : World) : Prop where
  f : FormsAt W
  c : CallsAt W
  p : PowAt W
  s : SpaceAt W
theorem Tabs.below {W w : World} (h : Tabs W) (hb : Below W.heap.size W w) : Tabs w := ⟨h.f.below hb, h.c.below hb, tab_below h.p hb, tab_below h.s hb⟩
theorem Tabs.alloc {W : World} (h : Tabs W) (o : Obj) : Tabs (W.alloc o) := h.below ((Below.refl _ _).alloc (Nat.le_refl _) _)

end Go.Proofs.YtlohhlbbkliehaaGreatDoor.W
