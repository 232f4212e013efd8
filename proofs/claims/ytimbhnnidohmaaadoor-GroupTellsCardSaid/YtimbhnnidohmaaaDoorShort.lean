/-
  The walk of the program's Short.
-/
import Derived.Test.YtimbhnnidohmaaaDoorSmall
namespace Go.Proofs.YtimbhnnidohmaaaDoor.W
open Go.RowKit
set_option linter.unusedVariables false

/-- the number of bytes, the first the highest -/
def beN (l : List UInt8) : Nat := l.foldl (fun n c => n * 256 + c.toNat) 0
def shortL (l : List UInt8) : Nat := beN ((sumL l).take 8) / 16

theorem beN_snoc (l : List UInt8) (b : UInt8) : beN (l ++ [b]) = beN l * 256 + b.toNat := by simp [beN]

theorem beN_fold : ∀ (l : List UInt8) (n : Nat), l.foldl (fun n c => n * 256 + c.toNat) n < (n + 1) * 256 ^ l.length
  | [], n => by simp
  | b :: l, n => by
    have h := beN_fold l (n * 256 + b.toNat)
    have hb := b.toNat_lt
    rw [List.foldl_cons, List.length_cons, Nat.pow_succ, Nat.mul_comm (256 ^ l.length) 256, ← Nat.mul_assoc]
    exact Nat.lt_of_lt_of_le h (Nat.mul_le_mul_right _ (by omega))
theorem beN_low (l : List UInt8) : beN l < 256 ^ l.length := by
  have := beN_fold l 0
  simpa [beN] using this

/-- what a string's bytes read as in a row -/
theorem bytes_cell (w : World) (s : ByteArray) (cap : Nat) (e : TypeId) (j : Nat) (hj : j < s.size) :
    (w.drew.alloc (.cells (bytesRow s cap) e ((bytesRow s cap).size, (bytesRow s cap).size + 1))).cell? ⟨w.heap.size, j, none⟩ = some (.int .u8 (s[j].toNat : Int)) := by
  have h := bytesRow_at s cap j hj
  have hb : (w.drew.alloc (.cells (bytesRow s cap) e ((bytesRow s cap).size, (bytesRow s cap).size + 1))).heap[w.heap.size]? = some (.cells (bytesRow s cap) e ((bytesRow s cap).size, (bytesRow s cap).size + 1)) := by
    show (w.heap.push _)[w.heap.size]? = _
    simp
  simp only [World.cell?, hb]
  exact (by simpa using h : (bytesRow s cap)[j]? = some (.int .u8 (s.data[j].toNat : Int)))

theorem or_byte (n : Nat) (b : UInt8) (h : n * 256 < 18446744073709551616) : bits BinOp.or IntKind.u64 ((n : Int) * 256) (b.toNat : Int) = ((n * 256 + b.toNat : Nat) : Int) := by
  have hb := b.toNat_lt
  have := u64_or_nat (n * 256) b.toNat h (by omega)
  rw [← Nat.shiftLeft_eq n 8, ← Nat.shiftLeft_add_eq_or_of_lt (i := 8) hb n, Nat.shiftLeft_eq] at this
  exact this


end Go.Proofs.YtimbhnnidohmaaaDoor.W
