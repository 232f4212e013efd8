/-
  How a disk lies in memory.
-/
import Derived.Test.YtmcdfhihfcfbaaaS
import Derived.Test.YtmcdfhihfcfbaaaOwn
namespace Go.Proofs.Ytmcdfhihfcfbaaa.W
open Go.RowKit
set_option linter.unusedVariables false

def strV (l : List UInt8) : Value := .string ⟨l.toArray⟩
theorem strV_def (l : List UInt8) : strV l = .string ⟨l.toArray⟩ := rfl
theorem strV_of (s : ByteArray) : strV s.data.toList = .string s := rfl
def cellsD (σ : St) (qv kv : Value) : List Value := σ.lasts.map strV ++ (σ.files.map strV ++ [qv, .int .i64 σ.lost, .bool σ.down, .int .i64 σ.armed, kv])

def pCells (p : Pn) : List Value := [.int .i64 p.f, .int .i64 p.at_, strV p.s]
def qCells (q : List Pn) : List Value := q.flatMap pCells

theorem qCells_len (q : List Pn) : (qCells q).length = q.length * 3 := by
  induction q with
  | nil => rfl
  | cons p q ih => simp only [qCells, List.flatMap_cons, List.length_append, List.length_cons] at ih ⊢; simp [pCells, ih]; omega
theorem qCells_append (q r : List Pn) : qCells (q ++ r) = qCells q ++ qCells r := by simp [qCells]

/-- the queue's row; O: its block -/
structure QRow (w : World) (v : Value) (q : List Pn) (O : Option Nat) : Prop where
  is : (O = none ∧ q = [] ∧ ∃ p, v = .slice p 0 0) ∨ (∃ g, O = some g ∧ v.ownBlock = some g ∧ w.ownsRow 0 91 3 v q.length (qCells q))

/-- a row of ints that is only read -/
structure IRow (w : World) (v : Value) (ks : List Int) : Prop where
  is : (ks = [] ∧ (v = .slice none 0 0 ∨ ∃ a c, v = .slice (some a) 0 c)) ∨ (∃ g o cap, v = .slice (some ⟨g, o, none⟩) ks.length cap ∧ (∃ cur fz, w.heap[g]? = some (.cells cur 3 fz)) ∧ ∀ j x, ks[j]? = some x → w.cell? ⟨g, o + j, none⟩ = some (.int .i64 x))

structure Rep (w : World) (D : Nat) (σ : St) (O : Option Nat) : Prop where
  is : ∃ qv kv, Blk w D 70 (cellsD σ qv kv) ∧ QRow w qv σ.queue O ∧ IRow w kv σ.keep
  ok : Ok σ

theorem cellsD_last {σ : St} (h : Ok σ) (qv kv : Value) {f : Nat} (hf : f < 8) : (cellsD σ qv kv)[f]? = some (strV (σ.lasts.getD f [])) := by
  have := h.l8
  rw [cellsD, List.getElem?_append_left (by simp; omega), List.getElem?_map, List.getD_eq_getElem?_getD, List.getElem?_eq_getElem (by omega)]; rfl
theorem cellsD_file {σ : St} (h : Ok σ) (qv kv : Value) {f : Nat} (hf : f < 8) : (cellsD σ qv kv)[8 + f]? = some (strV (σ.files.getD f [])) := by
  have := h.l8
  have := h.f8
  rw [cellsD, List.getElem?_append_right (by simp; omega), List.length_map, h.l8, show 8 + f - 8 = f by omega, List.getElem?_append_left (by simp; omega), List.getElem?_map, List.getD_eq_getElem?_getD, List.getElem?_eq_getElem (by omega)]; rfl
theorem cellsD_rest {σ : St} (h : Ok σ) (qv kv : Value) (j : Nat) : (cellsD σ qv kv)[16 + j]? = [qv, .int .i64 σ.lost, .bool σ.down, .int .i64 σ.armed, kv][j]? := by
  rw [cellsD, List.getElem?_append_right (by rw [List.length_map, h.l8]; omega), List.length_map, h.l8, List.getElem?_append_right (by rw [List.length_map, h.f8]; omega), List.length_map, h.f8]
  congr 1; omega

theorem set_last {σ : St} (h : Ok σ) (qv kv : Value) {f : Nat} (hf : f < 8) (s : List UInt8) : (cellsD σ qv kv).set f (strV s) = cellsD { σ with lasts := σ.lasts.set f s } qv kv := by
  have := h.l8
  rw [cellsD, List.set_append_left _ _ (by simp; omega), ← List.map_set]; rfl
theorem set_file {σ : St} (h : Ok σ) (qv kv : Value) {f : Nat} (hf : f < 8) (s : List UInt8) : (cellsD σ qv kv).set (8 + f) (strV s) = cellsD { σ with files := σ.files.set f s } qv kv := by
  have := h.l8
  have := h.f8
  rw [cellsD, List.set_append_right _ _ (by simp; omega), List.length_map, h.l8, show 8 + f - 8 = f by omega, List.set_append_left _ _ (by simp; omega), ← List.map_set]; rfl
theorem set_rest {σ : St} (h : Ok σ) (qv kv : Value) (j : Nat) (v : Value) : (cellsD σ qv kv).set (16 + j) v = σ.lasts.map strV ++ (σ.files.map strV ++ [qv, .int .i64 σ.lost, .bool σ.down, .int .i64 σ.armed, kv].set j v) := by
  rw [cellsD, List.set_append_right _ _ (by rw [List.length_map, h.l8]; omega), List.length_map, h.l8, List.set_append_right _ _ (by rw [List.length_map, h.f8]; omega), List.length_map, h.f8]
  congr 3; omega
theorem set_queue {σ : St} (h : Ok σ) (qv kv qv' : Value) (q : List Pn) : (cellsD σ qv kv).set 16 qv' = cellsD { σ with queue := q } qv' kv := set_rest h qv kv 0 qv'
theorem set_lost {σ : St} (h : Ok σ) (qv kv : Value) (n : Nat) : (cellsD σ qv kv).set 17 (.int .i64 n) = cellsD { σ with lost := n } qv kv := set_rest h qv kv 1 _
theorem set_down {σ : St} (h : Ok σ) (qv kv : Value) (b : Bool) : (cellsD σ qv kv).set 18 (.bool b) = cellsD { σ with down := b } qv kv := set_rest h qv kv 2 _
theorem set_armed {σ : St} (h : Ok σ) (qv kv : Value) (n : Nat) : (cellsD σ qv kv).set 19 (.int .i64 n) = cellsD { σ with armed := n } qv kv := set_rest h qv kv 3 _
theorem set_keep {σ : St} (h : Ok σ) (qv kv kv' : Value) (ks : List Int) : (cellsD σ qv kv).set 20 kv' = cellsD { σ with keep := ks } qv kv' := set_rest h qv kv 4 _

theorem QRow.keeps {S : Nat → Prop} {w w' : World} {v : Value} {q : List Pn} {O : Option Nat} (h : QRow w v q O) (k : Keeps S w w') (hs : ∀ g, O = some g → ¬ S g) : QRow w' v q O := by
  rcases h.is with h0 | ⟨g, rfl, hv, hrow⟩
  · exact ⟨.inl h0⟩
  · refine ⟨.inr ⟨g, rfl, hv, hrow.1, ?_⟩⟩
    rcases hrow.2 with h1 | ⟨b, cap, cur, rfl, hB, hg, r⟩
    · exact .inl h1
    · have hbg : b = g := by simpa [Value.ownBlock] using hv
      subst hbg
      have hlt : b < w.heap.size := by
        rcases Nat.lt_or_ge b w.heap.size with h' | h'
        · exact h'
        · rw [Array.getElem?_eq_none h'] at hg; cases hg
      exact .inr ⟨b, cap, cur, rfl, hB, by rw [k.block b hlt (hs b rfl), hg], r⟩

theorem IRow.keeps {S : Nat → Prop} {w w' : World} {v : Value} {ks : List Int} (h : IRow w v ks) (k : Keeps S w w') (hs : ∀ g cur fz, w.heap[g]? = some (.cells cur 3 fz) → ¬ S g) : IRow w' v ks := by
  rcases h.is with h0 | ⟨g, o, cap, rfl, ⟨cur, fz, hg⟩, hc⟩
  · exact ⟨.inl h0⟩
  · have hlt : g < w.heap.size := by
      rcases Nat.lt_or_ge g w.heap.size with h' | h'
      · exact h'
      · rw [Array.getElem?_eq_none h'] at hg; cases hg
    have hb := k.block g hlt (hs g cur fz hg)
    exact ⟨.inr ⟨g, o, cap, rfl, ⟨cur, fz, by rw [hb, hg]⟩, fun j x hj => by rw [World.cell?_of_block (a := ⟨g, o + j, none⟩) hb]; exact hc j x hj⟩⟩

theorem IRow.slice {w : World} {v : Value} {ks : List Int} (h : IRow w v ks) : ∃ p c, v = .slice p ks.length c := by
  rcases h.is with ⟨rfl, rfl | ⟨a, c, rfl⟩⟩ | ⟨g, o, cap, rfl, _⟩
  · exact ⟨none, 0, rfl⟩
  · exact ⟨some a, c, rfl⟩
  · exact ⟨_, cap, rfl⟩
theorem QRow.slice {w : World} {v : Value} {q : List Pn} {O : Option Nat} (h : QRow w v q O) : ∃ p c, v = .slice p q.length c := by
  rcases h.is with ⟨_, rfl, p, rfl⟩ | ⟨g, _, hv, hrow⟩
  · exact ⟨p, 0, rfl⟩
  · rcases hrow.2 with ⟨rfl, h0⟩ | ⟨b, cap, cur, rfl, _⟩
    · cases hv
    · exact ⟨_, cap, rfl⟩

/-- the blocks of a disk are no rows of ints -/
theorem Rep.notInt {w : World} {D : Nat} {σ : St} {O : Option Nat} (h : Rep w D σ O) : ∀ g cur fz, w.heap[g]? = some (.cells cur 3 fz) → ¬ (g = D ∨ O = some g) := by
  obtain ⟨qv, kv, hb, hq, hk⟩ := h.is
  intro g cur fz hg hn
  rcases hn with rfl | hO
  · rw [hb.is] at hg
    injection hg with hg; injection hg with _ hg _; exact absurd hg (by decide)
  · rcases hq.is with ⟨h0, _⟩ | ⟨g', hO', hv, hrow⟩
    · rw [h0] at hO; cases hO
    · rw [hO'] at hO
      cases hO
      rcases hrow.2 with ⟨rfl, _⟩ | ⟨b, cap, cur', rfl, hB, hg', r⟩
      · cases hv
      · have hbg : b = g := by simpa [Value.ownBlock] using hv
        subst hbg
        rw [hg'] at hg
        injection hg with hg; injection hg with _ hg _; exact absurd hg (by decide)

theorem Rep.ne {w : World} {D : Nat} {σ : St} {O : Option Nat} (h : Rep w D σ O) : O ≠ some D := by
  obtain ⟨qv, kv, hb, hq, hk⟩ := h.is
  intro hO
  rcases hq.is with ⟨h0, _⟩ | ⟨g', hO', hv, hrow⟩
  · rw [h0] at hO; cases hO
  · rw [hO'] at hO
    cases hO
    rcases hrow.2 with ⟨rfl, _⟩ | ⟨b, cap, cur', rfl, hB, hg', r⟩
    · cases hv
    · have hbg : b = D := by simpa [Value.ownBlock] using hv
      subst hbg
      have hg := hb.is
      rw [hg'] at hg
      injection hg with hg; injection hg with _ hg _; exact absurd hg (by decide)

theorem Rep.lt {w : World} {D : Nat} {σ : St} {O : Option Nat} (h : Rep w D σ O) : D < w.heap.size := by
  obtain ⟨qv, kv, hb, _⟩ := h.is
  exact hb.lt

/-- what another does leaves the disk -/
theorem Rep.keeps {S : Nat → Prop} {w w' : World} {D : Nat} {σ : St} {O : Option Nat} (h : Rep w D σ O) (k : Keeps S w w') (hD : ¬ S D) (hO : ∀ g, O = some g → ¬ S g) (hI : ∀ g cur fz, w.heap[g]? = some (.cells cur 3 fz) → ¬ S g) : Rep w' D σ O := by
  obtain ⟨qv, kv, hb, hq, hk⟩ := h.is
  exact ⟨⟨qv, kv, k.blk hb hD, hq.keeps k hO, hk.keeps k hI⟩, h.ok⟩

/-- a row of ints that is only read; its block is none of S -/
structure IR (S : Nat → Prop) (w : World) (v : Value) (ks : List Int) : Prop where
  is : (ks = [] ∧ (v = .slice none 0 0 ∨ ∃ a c, v = .slice (some a) 0 c)) ∨ (∃ g o cap, v = .slice (some ⟨g, o, none⟩) ks.length cap ∧ ¬ S g ∧ ∀ j x, ks[j]? = some x → w.cell? ⟨g, o + j, none⟩ = some (.int .i64 x))

theorem IRow.ir {S : Nat → Prop} {w : World} {v : Value} {ks : List Int} (h : IRow w v ks) (hs : ∀ g cur fz, w.heap[g]? = some (.cells cur 3 fz) → ¬ S g) : IR S w v ks := by
  rcases h.is with h0 | ⟨g, o, cap, rfl, ⟨cur, fz, hg⟩, hc⟩
  · exact ⟨.inl h0⟩
  · exact ⟨.inr ⟨g, o, cap, rfl, hs g cur fz hg, hc⟩⟩

theorem lt_of_cell {w : World} {a : Addr} {v : Value} (h : w.cell? a = some v) : a.block < w.heap.size := by
  rcases Nat.lt_or_ge a.block w.heap.size with h' | h'
  · exact h'
  · unfold World.cell? at h
    rw [Array.getElem?_eq_none h'] at h; cases h

theorem IR.keeps {S : Nat → Prop} {w w' : World} {v : Value} {ks : List Int} (h : IR S w v ks) (k : Keeps S w w') : IR S w' v ks := by
  rcases h.is with h0 | ⟨g, o, cap, rfl, hs, hc⟩
  · exact ⟨.inl h0⟩
  · refine ⟨.inr ⟨g, o, cap, rfl, hs, fun j x hj => ?_⟩⟩
    have := hc j x hj
    rw [World.cell?_of_block (a := ⟨g, o + j, none⟩) (k.block g (lt_of_cell this) hs)]
    exact this

theorem IR.mono {S S' : Nat → Prop} {w : World} {v : Value} {ks : List Int} (h : IR S w v ks) (hs : ∀ g, S' g → S g) : IR S' w v ks := by
  rcases h.is with h0 | ⟨g, o, cap, rfl, hn, hc⟩
  · exact ⟨.inl h0⟩
  · exact ⟨.inr ⟨g, o, cap, rfl, fun h => hn (hs g h), hc⟩⟩

theorem IR.slice {S : Nat → Prop} {w : World} {v : Value} {ks : List Int} (h : IR S w v ks) : ∃ p c, v = .slice p ks.length c := by
  rcases h.is with ⟨rfl, rfl | ⟨a, c, rfl⟩⟩ | ⟨g, o, cap, rfl, _⟩
  · exact ⟨none, 0, rfl⟩
  · exact ⟨some a, c, rfl⟩
  · exact ⟨_, cap, rfl⟩

theorem IR.nil (S : Nat → Prop) (w : World) : IR S w (.slice none 0 0) [] := ⟨.inl ⟨rfl, .inl rfl⟩⟩

end Go.Proofs.Ytmcdfhihfcfbaaa.W
