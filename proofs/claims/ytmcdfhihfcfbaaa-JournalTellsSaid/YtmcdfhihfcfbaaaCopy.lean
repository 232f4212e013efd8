/-
  The walks of slices.Clone at the queue, and Copy.
-/
import Derived.Test.YtmcdfhihfcfbaaaClone
import Derived.Deep.Cut
namespace Go.Proofs.Ytmcdfhihfcfbaaa.W
open Go.RowKit
set_option linter.unusedVariables false

theorem qCells_one (q : List Pn) : ∀ u ∈ qCells q, u.oneCell' = true := by
  intro u hu
  simp only [qCells, List.mem_flatMap] at hu
  obtain ⟨p, _, hp⟩ := hu
  simp only [pCells, List.mem_cons, List.not_mem_nil, or_false] at hp
  rcases hp with rfl | rfl | rfl <;> rfl

/-- a queue's row from an owned row -/
theorem QRow.of_row {w : World} {v : Value} {q : List Pn} (h : w.ownsRow 0 91 3 v q.length (qCells q)) : QRow w v q v.ownBlock := by
  rcases ho : v.ownBlock with _ | g
  · rcases h.2 with ⟨rfl, h0⟩ | ⟨g, cap, cur, rfl, _⟩
    · exact ⟨.inl ⟨rfl, List.length_eq_zero_iff.1 h0, none, rfl⟩⟩
    · cases ho
  · exact ⟨.inr ⟨g, rfl, ho, h⟩⟩

theorem add0 (g j : Nat) : (⟨g, 0, none⟩ : Addr).add j = ⟨g, j, none⟩ := by unfold Addr.add; split <;> simp_all

theorem Blk.setCells {b : Nat} {T : TypeId} : ∀ (us : List Value) (o : Nat) (w : World) (vs : List Value), Blk w b T vs → o + us.length ≤ vs.length → Blk (w.setCells b o us) b T (vs.take o ++ us ++ vs.drop (o + us.length))
  | [], o, w, vs, h, _ => h.cast (by simp)
  | u :: r, o, w, vs, h, hl => by
    simp only [List.length_cons] at hl
    have h1 := Blk.setCells r (o + 1) (w.setCell ⟨b, o, none⟩ u) (vs.set o u) (h.set o u) (by simp; omega)
    refine h1.cast ?_
    have e1 : (vs.set o u).take (o + 1) = vs.take o ++ [u] := by
      rw [List.take_succ_eq_append_getElem (by simp; omega), List.take_set_of_le (by omega)]
      simp
    have e2 : (vs.set o u).drop (o + 1 + r.length) = vs.drop (o + (u :: r).length) := by
      rw [List.drop_set_of_lt (by omega)]
      congr 1; simp; omega
    rw [e1, e2]
    simp

theorem cellsD_len {σ : St} (h : Ok σ) (qv kv : Value) : (cellsD σ qv kv).length = 21 := by simp [cellsD, h.l8, h.f8]

theorem cellsD_one {w : World} {σ : St} {qv kv : Value} {O : Option Nat} (hq : QRow w qv σ.queue O) (hk : IRow w kv σ.keep) : ∀ u ∈ cellsD σ qv kv, u.oneCell' = true := by
  obtain ⟨p, c, rfl⟩ := hq.slice
  obtain ⟨p2, c2, rfl⟩ := hk.slice
  intro u hu
  simp only [cellsD, List.mem_append, List.mem_map, List.mem_cons, List.not_mem_nil, or_false] at hu
  rcases hu with ⟨x, _, rfl⟩ | ⟨x, _, rfl⟩ | rfl | rfl | rfl | rfl | rfl <;> rfl

theorem keeps_setCells' {g : Nat} : ∀ (us : List Value) (o : Nat) (w : World), Keeps (· = g) w (w.setCells g o us)
  | [], _, w => Keeps.refl _ w
  | u :: r, o, w => by
    have h1 : Keeps (· = g) w (w.setCell ⟨g, o, none⟩ u) := (Keeps.refl (· = g) w).setCell (p := ⟨g, o, none⟩) (.inr rfl) u
    exact h1.trans (keeps_setCells' r (o + 1) _)

end Go.Proofs.Ytmcdfhihfcfbaaa.W
