/-
  The state of a region that makes single cells and appends them, in any order.
-/
import Derived.Test.YtlohhlbbkliehaaGreatDoorOwn
import Derived.Test.YtlohhlbbkliehaaGreatDoorOrdT
import Derived.Test.YtlohhlbbkliehaaGreatDoorUse
namespace Go.Proofs.YtlohhlbbkliehaaGreatDoor.W
open Go.RowKit
set_option linter.unusedVariables false

/-- a row that grows, and new cells for it -/
structure St (w0 w : World) (v : Value) (xs : List Value) (hs : List (Nat × Value)) (M : Nat) : Prop where
  own : Own w w0.heap.size 5 v xs
  blk : ∀ (j : Nat) (p : Nat × Value), hs[j]? = some p → (∃ T f, w.heap[p.1]? = some (.cells #[p.2] T f)) ∧ v.ownBlock ≠ some p.1
  fr : Keeps (fun _ => False) w0 w
  len : xs.length ≤ M
theorem St.bs {w0 w : World} {v : Value} {xs : List Value} {hs : List (Nat × Value)} {M : Nat} (h : St w0 w v xs hs M) : w0.heap.size ≤ w.heap.size := h.fr.size
theorem St.l1 {w0 w : World} {v : Value} {xs : List Value} {hs : List (Nat × Value)} {M : Nat} (h : St w0 w v xs hs M) (hM : M ≤ 5000) : xs.length + 1 ≤ maxLen := by
  have := h.len; unfold maxLen; omega
theorem St.l2 {w0 w : World} {v : Value} {xs : List Value} {hs : List (Nat × Value)} {M : Nat} (h : St w0 w v xs hs M) (hM : M ≤ 5000) : (xs.length + 1) * 1 ≤ 140737488355328 := by
  have := h.len; omega
theorem St.build {w0 w w' : World} {v : Value} {xs : List Value} {hs : List (Nat × Value)} {M g : Nat} (h : St w0 w v xs hs M) (u : Value) (hg : w.heap.size = g) (hw : w.alloc (.cells #[u] 5) = w') : St w0 w' v xs ((g, u) :: hs) M := by
  subst hg hw
  refine ⟨h.own.alloc _, fun j p hj => ?_, h.fr.alloc _, h.len⟩
  cases j with
  | zero =>
    injection hj with hj; subst hj
    exact ⟨⟨_, _, (Blk.new w 5 [u]).is⟩, fun e => by have := (h.own.lt e).2; omega⟩
  | succ j =>
    obtain ⟨⟨T, f, e⟩, hn⟩ := h.blk j p hj
    have hlt : p.1 < w.heap.size := (Array.getElem?_eq_some_iff.1 e).1
    exact ⟨⟨T, f, by rw [((Keeps.refl (fun _ => False) w).alloc _).block p.1 hlt (fun h => h)]; exact e⟩, hn⟩
theorem St.app {w0 w w' : World} {v v' u : Value} {xs : List Value} {hs : List (Nat × Value)} {M : Nat} (h : St w0 w v xs hs M) (h1 : Own w' w0.heap.size 5 v' (xs ++ [u])) (h2 : Keeps (fun k => v.ownBlock = some k) w w')
    (h3 : v'.ownBlock = v.ownBlock ∨ ∃ k, w.heap.size ≤ k ∧ v'.ownBlock = some k) : St w0 w' v' (xs ++ [u]) hs (M + 1) := by
  refine ⟨h1, fun j p hj => ?_, ?_, by rw [List.length_append]; have := h.len; simp; omega⟩
  · obtain ⟨⟨T, f, e⟩, hn⟩ := h.blk j p hj
    have hlt : p.1 < w.heap.size := (Array.getElem?_eq_some_iff.1 e).1
    refine ⟨⟨T, f, by rw [h2.block p.1 hlt hn]; exact e⟩, ?_⟩
    rcases h3 with h3 | ⟨k, hk, h3⟩
    · rw [h3]; exact hn
    · rw [h3]; intro e; injection e with e; omega
  · exact ⟨h2.os.trans h.fr.os, h2.tape.trans h.fr.tape, h2.output.trans h.fr.output, Nat.le_trans h.fr.size h2.size, fun i hi hn => by
      rw [h2.block i (Nat.lt_of_lt_of_le hi h.fr.size) (fun e => by have := (h.own.lt e).1; omega)]
      exact h.fr.block i hi hn⟩
theorem St.fin {w0 w : World} {v : Value} {xs ys : List Value} {hs : List (Nat × Value)} {M : Nat} (h : St w0 w v xs hs M) (e : ys = xs) : Own w w0.heap.size 5 v ys ∧ Keeps (fun _ => False) w0 w := ⟨e ▸ h.own, h.fr⟩

end Go.Proofs.YtlohhlbbkliehaaGreatDoor.W
