/-
  The table of the kinds of relocations; both tables out of a row's list; a world for the witness.
-/
import Derived.Test.YtmngicdgapkbmaaDoorForms
namespace Go.Proofs.YtmngicdgapkbmaaDoor.W
open Go.RowKit
set_option linter.unusedVariables false

/-- of each kind: the field's offset and size, and the Ops that it goes with -/
def rowT : List (Int × Int × List Int) := [(0, 8, []), (0, 8, []), (0, 4, []), (0, 2, []), (0, 8, []), (4, 4, [14, 19, 20, 21]), (4, 4, [22]), (4, 4, [24, 25]), (4, 4, [3]), (4, 4, [4]), (4, 4, [13, 3]), (0, 8, []), (0, 8, [])]
def opsD (l : List Int) : DataW Unit := if l = [] then .nil else .slice (l.map fun z => .lit (.int .i64 z)) []
def rowLeaves : List (TypeId × DataW Unit) := rowT.flatMap fun r => [(3, .lit (.int .i64 r.1)), (3, .lit (.int .i64 r.2.1)), (47, opsD r.2.2)]
set_option maxRecDepth 100000 in
theorem leaves_rows : leavesB Tryd.prog 4 50 (Rows.laid_linchpin_reloc_rows : DataW Unit) = some rowLeaves := by kernel_rfl
theorem gR : Tryd.prog.globalNamed "linchpin/reloc.rows" = some 0 := by kernel_rfl
theorem gRty : (Tryd.prog.globals[0]?).map (·.type) = some 50 := by kernel_rfl
theorem cells1 : Tryd.prog.cellsOf 3 = 1 := by kernel_rfl

def kOff (k : Nat) : Int := (rowT.getD k (0, 0, [])).1
def kSize (k : Nat) : Int := (rowT.getD k (0, 0, [])).2.1
def kOps (k : Nat) : List Int := (rowT.getD k (0, 0, [])).2.2

/-- a row of ints in memory, or nil -/
structure OpsAt (W : World) (v : Value) (l : List Int) : Prop where
  is : (l = [] ∧ v = .slice none 0 0) ∨ (0 < l.length ∧ ∃ g o cap, v = .slice (some ⟨g, o, none⟩) l.length cap ∧ g < W.heap.size ∧ ∀ j z, l[j]? = some z → W.cell? ⟨g, o + j, none⟩ = some (.int .i64 z))

structure RowsAt (W : World) : Prop where
  is : ∃ (cs : Array Value) (t : TypeId) (fz : Nat × Nat), W.heap[0]? = some (.cells cs t fz) ∧ ∀ k, k < 13 → cs[k * 3]? = some (Value.int .i64 (kOff k)) ∧ cs[k * 3 + 1]? = some (Value.int .i64 (kSize k)) ∧ ∃ v, cs[k * 3 + 2]? = some v ∧ OpsAt W v (kOps k)

theorem leaf_at (k : Nat) (h : k < 13) : rowLeaves[k * 3]? = some (3, .lit (.int .i64 (kOff k))) ∧ rowLeaves[k * 3 + 1]? = some (3, .lit (.int .i64 (kSize k))) ∧ rowLeaves[k * 3 + 2]? = some (47, opsD (kOps k)) := by
  rcases (by omega : k = 0 ∨ k = 1 ∨ k = 2 ∨ k = 3 ∨ k = 4 ∨ k = 5 ∨ k = 6 ∨ k = 7 ∨ k = 8 ∨ k = 9 ∨ k = 10 ∨ k = 11 ∨ k = 12) with rfl | rfl | rfl | rfl | rfl | rfl | rfl | rfl | rfl | rfl | rfl | rfl | rfl <;> exact ⟨rfl, rfl, rfl⟩

theorem rows_of {W : World} {rest : List (String × DataW Unit)} (h : laidMet Tryd.prog (("linchpin/reloc.rows", Rows.laid_linchpin_reloc_rows) :: rest) W) : RowsAt W := by
  obtain ⟨cs, t, fz, hb, hc⟩ := laid_leaves gR gRty Tryd.underlying50 leaves_rows h
  refine ⟨cs, t, fz, hb, fun k hk => ?_⟩
  obtain ⟨l1, l2, l3⟩ := leaf_at k hk
  obtain ⟨c1, a1, b1⟩ := hc _ _ l1
  obtain ⟨c2, a2, b2⟩ := hc _ _ l2
  obtain ⟨c3, a3, b3⟩ := hc _ _ l3
  refine ⟨by rw [a1, leaf_int Tryd.underlying3 b1], by rw [a2, leaf_int Tryd.underlying3 b2], c3, a3, ?_⟩
  unfold opsD at b3
  split at b3
  · rename_i hn
    exact ⟨.inl ⟨hn, leaf_nil Tryd.underlying47 b3⟩⟩
  · rename_i hn
    have h0 := List.length_pos_iff.2 hn
    exact ⟨.inr ⟨h0, leaf_ints Tryd.underlying47 Tryd.underlying3 cells1 b3 h0⟩⟩

theorem OpsAt.below {W w : World} {v : Value} {l : List Int} (h : OpsAt W v l) (hb : Below W.heap.size W w) : OpsAt w v l := by
  rcases h.is with h0 | ⟨h0, g, o, cap, e, hg, hc⟩
  · exact ⟨.inl h0⟩
  · exact ⟨.inr ⟨h0, g, o, cap, e, Nat.lt_of_lt_of_le hg hb.size, fun j z hj => by rw [hb.cell (p := ⟨g, o + j, none⟩) hg]; exact hc j z hj⟩⟩

theorem RowsAt.below {W w : World} (h : RowsAt W) (hb : Below W.heap.size W w) : RowsAt w := by
  obtain ⟨cs, t, fz, h1, h2⟩ := h.is
  have hlt : 0 < W.heap.size := by
    rcases Nat.lt_or_ge 0 W.heap.size with h' | h'
    · exact h'
    · rw [Array.getElem?_eq_none h'] at h1; cases h1
  refine ⟨cs, t, fz, by rw [hb.block _ hlt, h1], fun k hk => ?_⟩
  obtain ⟨a, b, v, c, d⟩ := h2 k hk
  exact ⟨a, b, v, c, d.below hb⟩

/-- both tables -/
structure Tabs (W : World) : Prop where
  f : FormsAt W
  r : RowsAt W
theorem Tabs.below {W w : World} (h : Tabs W) (hb : Below W.heap.size W w) : Tabs w := ⟨h.f.below hb, h.r.below hb⟩
theorem Tabs.alloc {W : World} (h : Tabs W) (o : Obj) : Tabs (W.alloc o) := h.below ((Below.refl _ _).alloc (Nat.le_refl _) _)

theorem Tabs.off {W : World} (h : Tabs W) (k : Nat) (hk : k < 13) : W.cell? ⟨0, k * 3, none⟩ = some (.int .i64 (kOff k)) ∧ W.cell? ⟨0, k * 3 + 1, none⟩ = some (.int .i64 (kSize k)) ∧ ∃ v, W.cell? ⟨0, k * 3 + 2, none⟩ = some v ∧ OpsAt W v (kOps k) := by
  obtain ⟨cs, t, fz, h1, h2⟩ := h.r.is
  obtain ⟨a, b, v, c, d⟩ := h2 k hk
  exact ⟨by simpa [World.cell?, h1] using a, by simpa [World.cell?, h1] using b, v, by simpa [World.cell?, h1] using c, d⟩

abbrev laidL : List (String × DataW Unit) := [("linchpin/isa.forms", Rows.laid_linchpin_isa_forms), ("linchpin/reloc.rows", Rows.laid_linchpin_reloc_rows)]
theorem tabs_of {W : World} (h : laidMetH Tryd.prog laidL W) : Tabs W := by
  have h' : laidMet Tryd.prog laidL W := h
  have h2 : laidMet Tryd.prog [("linchpin/reloc.rows", Rows.laid_linchpin_reloc_rows)] W := h'.filter (fun x => x.1 == "linchpin/reloc.rows")
  exact ⟨forms_of h', rows_of h2⟩

/-- a world for the witness: the settled one, both tables laid -/
def putCells (vs : List Value) : Obj → Obj
  | .cells _ t frozen => .cells vs.toArray t frozen
  | o => o
def opsBlocks : List (List Int) := [[14, 19, 20, 21], [22], [24, 25], [3], [4], [13, 3]]
def rowV (n : Nat) : List Value := (rowT.zipIdx.flatMap fun r => [.int .i64 r.1.1, .int .i64 r.1.2.1, if r.1.2.2 = [] then .slice none 0 0 else .slice (some ⟨n + (r.2 - 5), 0, none⟩) r.1.2.2.length r.1.2.2.length])
noncomputable def laidWorld (os : Os) : World :=
  let w0 := World.holding Tryd.prog os ⟨#[], #[], []⟩
  { w0 with heap := ((w0.heap.modify 1 (putCells formV)).modify 0 (putCells (rowV w0.heap.size))) ++ (opsBlocks.map fun l => Obj.cells (l.map fun z => .int .i64 z).toArray 3 (0, 0)).toArray }
theorem laid_try (os : Os) : laidMet Tryd.prog Rows.relocMovesRow.laid ((laidWorld os).forCall (fun _ _ => 0) ⟨#[], #[], []⟩).memory :=
  laidMet_of_run' 8 (by kernel_rfl) (by kernel_rfl)

end Go.Proofs.YtmngicdgapkbmaaDoor.W
