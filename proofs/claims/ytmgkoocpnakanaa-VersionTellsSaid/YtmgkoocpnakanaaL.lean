/-
  Small laws on memory: a block known whole, a world that keeps all blocks but some. No program.
-/
import Derived.Test.YtmgkoocpnakanaaRows
import Derived.WalkKit
import Derived.WalkLawsBesides
import Derived.WalkSpells
import Derived.WalkSmall
import Derived.Handy
import Derived.Lib.Hide
import Derived.Lib.Strings
namespace Go.Proofs.Ytmgkoocpnakanaa.W
open Go.RowKit
set_option linter.unusedVariables false

/-- block b is a row of these cells, none of them frozen -/
structure Blk (w : World) (b : Nat) (T : TypeId) (vs : List Value) : Prop where
  is : w.heap[b]? = some (.cells vs.toArray T (0, 0))

/-- a fact that the walk shall not look into -/
structure Hd (p : Prop) : Prop where
  out : p

theorem Blk.lt {w : World} {b : Nat} {T : TypeId} {vs : List Value} (h : Blk w b T vs) : b < w.heap.size := by
  rcases Nat.lt_or_ge b w.heap.size with h' | h'
  · exact h'
  · have := h.is
    rw [Array.getElem?_eq_none h'] at this; cases this

theorem Blk.cell {w : World} {b : Nat} {T : TypeId} {vs : List Value} (h : Blk w b T vs) (j : Nat) : w.cell? ⟨b, j, none⟩ = vs[j]? := by
  simp [World.cell?, h.is]

theorem Blk.at {w : World} {b : Nat} {T : TypeId} {vs : List Value} (h : Blk w b T vs) {j : Nat} {v : Value} (hv : vs[j]? = some v) : w.cell? ⟨b, j, none⟩ = some v := (h.cell j).trans hv

theorem Blk.free {w : World} {b : Nat} {T : TypeId} {vs : List Value} (h : Blk w b T vs) (j : Nat) : w.frozen? ⟨b, j, none⟩ = false := by
  simp [World.frozen?, h.is]

theorem Blk.set {w : World} {b : Nat} {T : TypeId} {vs : List Value} (h : Blk w b T vs) (j : Nat) (v : Value) : Blk (w.setCell ⟨b, j, none⟩ v) b T (vs.set j v) := by
  exact ⟨by simp [World.setCell, Array.getElem?_modify, h.is]⟩

theorem Blk.other {w : World} {b : Nat} {T : TypeId} {vs : List Value} (h : Blk w b T vs) {a : Addr} (hne : a.block ≠ b) (v : Value) : Blk (w.setCell a v) b T vs := by
  exact ⟨by simp [World.setCell, Array.getElem?_modify, h.is, hne]⟩

theorem Blk.alloc {w : World} {b : Nat} {T : TypeId} {vs : List Value} (h : Blk w b T vs) (o : Obj) : Blk (w.alloc o) b T vs := by
  have := h.lt
  refine ⟨?_⟩
  show (w.heap.push o)[b]? = _
  rw [Array.getElem?_push, if_neg (by omega), h.is]

theorem Blk.new (w : World) (T : TypeId) (vs : List Value) : Blk (w.alloc (.cells vs.toArray T)) w.heap.size T vs := by
  refine ⟨?_⟩
  show (w.heap.push _)[w.heap.size]? = _
  simp

theorem Blk.drew {w : World} {b : Nat} {T : TypeId} {vs : List Value} (h : Blk w b T vs) : Blk w.drew b T vs := ⟨h.is⟩
theorem Blk.drewN {w : World} {b : Nat} {T : TypeId} {vs : List Value} (h : Blk w b T vs) (n : Nat) : Blk (w.drewN n) b T vs := ⟨h.is⟩

theorem Blk.below {w w' : World} {B b : Nat} {T : TypeId} {vs : List Value} (h : Blk w b T vs) (hb : Below B w w') (hlt : b < B) : Blk w' b T vs := by
  exact ⟨by rw [hb.block b hlt, h.is]⟩

/-- all blocks that lay in w stand in w', but for those of S -/
structure Keeps (S : Nat → Prop) (w w' : World) : Prop where
  os : w'.os = w.os
  tape : w'.tape = w.tape
  output : w'.output = w.output
  size : w.heap.size ≤ w'.heap.size
  block : ∀ k, k < w.heap.size → ¬ S k → w'.heap[k]? = w.heap[k]?

theorem Keeps.refl (S : Nat → Prop) (w : World) : Keeps S w w := ⟨rfl, rfl, rfl, Nat.le_refl _, fun _ _ _ => rfl⟩

theorem Keeps.trans {S : Nat → Prop} {a b c : World} (h : Keeps S a b) (k : Keeps S b c) : Keeps S a c :=
  ⟨k.os.trans h.os, k.tape.trans h.tape, k.output.trans h.output, Nat.le_trans h.size k.size, fun i hi hs => (k.block i (Nat.lt_of_lt_of_le hi h.size) hs).trans (h.block i hi hs)⟩

theorem Keeps.mono {S S' : Nat → Prop} {a b : World} (h : Keeps S a b) (hs : ∀ k, k < a.heap.size → S k → S' k) : Keeps S' a b :=
  ⟨h.os, h.tape, h.output, h.size, fun i hi hn => h.block i hi (fun e => hn (hs i hi e))⟩

theorem Keeps.drew {S : Nat → Prop} {a b : World} (h : Keeps S a b) : Keeps S a b.drew := ⟨h.os, h.tape, h.output, h.size, h.block⟩
theorem Keeps.drewN {S : Nat → Prop} {a b : World} (h : Keeps S a b) (n : Nat) : Keeps S a (b.drewN n) := ⟨h.os, h.tape, h.output, h.size, h.block⟩

theorem Keeps.alloc {S : Nat → Prop} {a b : World} (h : Keeps S a b) (o : Obj) : Keeps S a (b.alloc o) :=
  ⟨h.os, h.tape, h.output, by have := h.size; simp; omega, fun i hi hn => by
    have hi' : i < b.heap.size := Nat.lt_of_lt_of_le hi h.size
    show (b.heap.push o)[i]? = _
    rw [Array.getElem?_push, if_neg (by omega)]
    exact h.block i hi hn⟩

theorem Keeps.setCell {S : Nat → Prop} {a b : World} (h : Keeps S a b) {p : Addr} (hp : a.heap.size ≤ p.block ∨ S p.block) (v : Value) : Keeps S a (b.setCell p v) :=
  ⟨h.os, h.tape, h.output, by have := h.size; simp; omega, fun i hi hn => by
    have hne : p.block ≠ i := by
      rcases hp with hp | hp
      · omega
      · exact fun e => hn (e ▸ hp)
    rw [← h.block i hi hn]
    simp [World.setCell, Array.getElem?_modify, hne]⟩

theorem Keeps.below {S : Nat → Prop} {a b : World} (h : Keeps S a b) {B : Nat} (hB : B ≤ a.heap.size) (hs : ∀ k, k < B → ¬ S k) : Below B a b :=
  ⟨h.os, h.tape, h.output, h.size, fun k hk => h.block k (Nat.lt_of_lt_of_le hk hB) (hs k hk)⟩

theorem Keeps.of_below {S : Nat → Prop} {a b : World} {B : Nat} (h : Below B a b) (hs : ∀ k, k < a.heap.size → B ≤ k → S k) : Keeps S a b :=
  ⟨h.os, h.tape, h.output, h.size, fun i hi hn => h.block i (by rcases Nat.lt_or_ge i B with x | x; exact x; exact absurd (hs i hi x) hn)⟩

theorem Keeps.blk {S : Nat → Prop} {w w' : World} {b : Nat} {T : TypeId} {vs : List Value} (h : Keeps S w w') (hb : Blk w b T vs) (hs : ¬ S b) : Blk w' b T vs := by
  exact ⟨by rw [h.block b hb.lt hs, hb.is]⟩

/-- what is written to a new block keeps all that lay before -/
theorem Keeps.fresh {S : Nat → Prop} {n : Nat} {o : Obj} {w w' : World} (h : Keeps (· = n) (w.alloc o) w') (hn : n = w.heap.size) : Keeps S w w' :=
  ⟨h.os, h.tape, h.output, by have := h.size; simp at this; omega, fun i hi _ => by
    rw [h.block i (by simp; omega) (by omega)]
    show (w.heap.push o)[i]? = _
    rw [Array.getElem?_push, if_neg (by omega)]⟩

theorem Blk.cast {w : World} {b : Nat} {T : TypeId} {vs vs' : List Value} (h : Blk w b T vs) (e : vs = vs') : Blk w b T vs' := e ▸ h

theorem Below.chain {w b c : World} (h : Below w.heap.size w b) (k : Below b.heap.size b c) : Below w.heap.size w c := h.trans (k.mono h.size)

theorem str_beq (a b : ByteArray) : (a.toList == b.toList) = decide (a = b) := by
  rw [_root_.Go.ByteArray.toList_eq, _root_.Go.ByteArray.toList_eq]
  by_cases h : a = b
  · subst h; simp
  · have : ¬ a.data.toList = b.data.toList := fun e => h (by cases a; cases b; simp only [ByteArray.mk.injEq]; exact Array.toList_inj.1 e)
    rw [decide_eq_false h, beq_eq_false_iff_ne]
    exact this

theorem ret_b {x y : Bool} (h : x = y) : Ending.returned (.bool x) = .returned (.bool y) := by rw [h]
theorem ret_i {x y : Int} (h : x = y) : Ending.returned (.int .i64 x) = .returned (.int .i64 y) := by rw [h]
theorem ret_s {x y : ByteArray} (h : x = y) : Ending.returned (.string x) = .returned (.string y) := by rw [h]

end Go.Proofs.Ytmgkoocpnakanaa.W
