/-
  The walks of Get, the program's and the reference's: what they return, as a plain function. Condition: the string's own bound.
-/
import Derived.Test.YtlohhlbbkliehaaGreatDoorA
namespace Go.Proofs.YtlohhlbbkliehaaGreatDoor.W
open Go.RowKit

/-- the number of a little-endian list of bytes -/
def le : List UInt8 → Nat
  | [] => 0
  | b :: r => b.toNat + 256 * le r

theorem le_lt (l : List UInt8) : le l < 256 ^ l.length := by
  induction l with
  | nil => simp [le]
  | cons b r ih => have := b.toNat_lt; simp only [le, List.length_cons, Nat.pow_succ]; omega

theorem le_snoc (l : List UInt8) (b : UInt8) : le (l ++ [b]) = le l + 256 ^ l.length * b.toNat := by
  induction l with
  | nil => simp [le]
  | cons x r ih => simp only [List.cons_append, le, ih, List.length_cons, Nat.pow_succ]; rw [Nat.mul_add, ← Nat.mul_assoc, Nat.mul_comm 256 (256 ^ r.length)]; omega

/-- the bytes of a string from a on, k of them -/
def cut (s : ByteArray) (a k : Nat) : List UInt8 := (s.data.toList.drop a).take k

theorem cut_succ (s : ByteArray) (a k : Nat) (h : a + k < s.size) : cut s a (k + 1) = cut s a k ++ [s[a + k]] := by
  unfold cut
  have hl : s.data.toList.length = s.size := by simp
  rw [List.take_succ_eq_append_getElem (by rw [List.length_drop]; omega)]
  simp; rfl

theorem cut_length (s : ByteArray) (a k : Nat) (h : a + k ≤ s.size) : (cut s a k).length = k := by
  have : s.data.toList.length = s.size := by simp
  simp [cut]; omega

/-- one round of word.Get, as the walk writes it -/
theorem or_round (x b k : Nat) (hx : x < 256 ^ k) (hb : b < 256) (hk : k < 8) :
    bits .or .u64 (x : Int) (IntKind.u64.wrap (IntKind.u64.wrap (b : Int) * 2 ^ (8 * k))) = ((x + 256 ^ k * b : Nat) : Int) := by
  have e0 : IntKind.u64.wrap (b : Int) = (b : Int) := by rw [IntKind.wrap_u64]; omega
  have hp : 256 ^ k * b < 18446744073709551616 ∧ 256 ^ k ≤ 72057594037927936 := by
    rcases (by omega : k = 0 ∨ k = 1 ∨ k = 2 ∨ k = 3 ∨ k = 4 ∨ k = 5 ∨ k = 6 ∨ k = 7) with rfl | rfl | rfl | rfl | rfl | rfl | rfl | rfl <;> (constructor <;> omega)
  have e1 : ((b : Int) * 2 ^ (8 * k)) = ((256 ^ k * b : Nat) : Int) := by
    rw [show (256 : Nat) = 2 ^ 8 from rfl, ← Nat.pow_mul]; push_cast; exact Int.mul_comm _ _
  have e2 : IntKind.u64.wrap ((256 ^ k * b : Nat) : Int) = ((256 ^ k * b : Nat) : Int) := by rw [IntKind.wrap_u64]; omega
  rw [e0, e1, e2, u64_or_nat _ _ (by omega) (by omega)]
  congr 1
  rw [Nat.or_comm, nat_join (8 * k) _ _ ?_ ?_]
  · omega
  · rw [show (256 : Nat) = 2 ^ 8 from rfl, ← Nat.pow_mul]; exact Nat.mul_mod_right _ _
  · rw [show (256 : Nat) = 2 ^ 8 from rfl, ← Nat.pow_mul] at hx; exact hx

/-- what a field of k bytes is worth -/
def getI (U k : Nat) (sg : Bool) : Int := if (sg || k == 8) && decide (2 ^ (8 * k - 1) ≤ U) then (U : Int) - 2 ^ (8 * k) else U

theorem get_signed (U k : Nat) (hU : U < 256 ^ k) (hk : k = 1 ∨ k = 2 ∨ k = 4 ∨ k = 8) :
    wrap64 (IntKind.u64.wrap ((U : Int) * 2 ^ (64 - 8 * k))) / 2 ^ (64 - 8 * k) = getI U k true := by
  rw [IntKind.wrap_u64]
  unfold wrap64 getI
  rcases hk with rfl | rfl | rfl | rfl <;> simp <;> split <;> omega

theorem get_unsigned (U k : Nat) (hU : U < 256 ^ k) (hk : k = 1 ∨ k = 2 ∨ k = 4 ∨ k = 8) : wrap64 (U : Int) = getI U k false := by
  unfold wrap64 getI
  rcases hk with rfl | rfl | rfl | rfl <;> simp <;> (try split) <;> omega

theorem fieldB_iff {n a size : Int} : fieldB n a size = true ↔ (size = 1 ∨ size = 2 ∨ size = 4 ∨ size = 8) ∧ 0 ≤ a ∧ a ≤ n - size := by
  simp [fieldB, or_assoc]

def getP (s : ByteArray) (a size : Int) (sg : Bool) : Int × Bool :=
  if fieldB s.size a size then (getI (le (cut s a.toNat size.toNat)) size.toNat sg, true) else (0, false)

theorem ret_ib {a b : Int} {x y : Bool} (h : a = b) (h' : x = y) : Ending.returned (.tuple #[.int .i64 a, .bool x]) = .returned (.tuple #[.int .i64 b, .bool y]) := by rw [h, h']

set_option maxHeartbeats 400000 in
theorem get_yes (s : ByteArray) (a k : Nat) (sg : Bool) (w : World) (hs : s.size ≤ maxLen) (h1 : a + k ≤ s.size) (hk : k = 1 ∨ k = 2 ∨ k = 4 ∨ k = 8) (hf : fieldB s.size a k = true) :
    Calls Tryz.prog 22 #[.string s, .int .i64 a, .int .i64 k, .bool sg] w fun e w' => e = .returned (.tuple #[.int .i64 (getI (le (cut s a k)) k sg), .bool true]) ∧ w = w' := by
  unfold maxLen at hs
  have h2 : k ≤ 8 := by omega
  have HK := Lib.hid hk
  clear hk
  have hU := le_lt (cut s a k)
  rw [cut_length s a k h1] at hU
  go_enter Tryz.func22, Tryz.ntmps22
  go_wp2_with (go_at_call 50; refine (field_any _ _ _ _ (by unfold maxLen; omega)).mono ?_; rintro e w' ⟨rfl, rfl⟩; simp only [hf])
  go_loop [10, 19] (fun v i => ∃ j : Nat, j ≤ k ∧ i = .int .i64 j ∧ v = .int .u64 (le (cut s a j))) (fun _ i => k - (intOf i).toNat)
  case atStart => exact ⟨0, Nat.zero_le _, rfl, rfl⟩
  case round =>
    obtain ⟨j, hj, rfl, rfl⟩ := hrel
    by_cases hlt : j < k
    · go_wp2
      go_round
      case rel => exact ⟨j + 1, by omega, by go_num, by rw [or_round _ _ _ (by have := le_lt (cut s a j); rwa [cut_length s a j (by omega)] at this) (s[a + j]).toNat_lt (by omega), cut_succ s a j (by omega), le_snoc, cut_length s a j (by omega)]⟩
      case measure => simp [intOf]; omega
    · obtain rfl : j = k := by omega
      cases sg
      all_goals go_wp2
      all_goals go_ret2
      · exact ⟨ret_ib (get_unsigned _ _ hU HK.out) rfl, rfl⟩
      · exact ⟨ret_ib (get_signed _ _ hU HK.out) rfl, rfl⟩

set_option maxHeartbeats 400000 in
theorem get_no (s : ByteArray) (a k : Int) (sg : Bool) (w : World) (hs : s.size ≤ maxLen) (hf : fieldB s.size a k = false) :
    Calls Tryz.prog 22 #[.string s, .int .i64 a, .int .i64 k, .bool sg] w fun e w' => e = .returned (.tuple #[.int .i64 0, .bool false]) ∧ w = w' := by
  go_enter Tryz.func22, Tryz.ntmps22
  go_wp2_with (go_at_call 50; refine (field_any _ _ _ _ hs).mono ?_; rintro e w' ⟨rfl, rfl⟩; simp only [hf])
  go_ret2
  exact ⟨rfl, rfl⟩

theorem get_any (s : ByteArray) (a k : Int) (sg : Bool) (w : World) (hs : s.size ≤ maxLen) :
    Calls Tryz.prog 22 #[.string s, .int .i64 a, .int .i64 k, .bool sg] w fun e w' => e = .returned (.tuple #[.int .i64 (getP s a k sg).1, .bool (getP s a k sg).2]) ∧ w = w' := by
  unfold getP
  by_cases hf : fieldB s.size a k = true
  · obtain ⟨h1, h2, h3⟩ := fieldB_iff.1 hf
    obtain ⟨a, rfl⟩ := Int.eq_ofNat_of_zero_le h2
    obtain ⟨k, rfl⟩ := Int.eq_ofNat_of_zero_le (show 0 ≤ k by omega)
    rw [if_pos hf]
    exact get_yes s a k sg w hs (by omega) (by omega) hf
  · rw [if_neg hf]
    exact get_no s a k sg w hs (by simpa using hf)

theorem cut_cons (s : ByteArray) (a k : Nat) (h : a + k < s.size) : cut s a (k + 1) = s[a] :: cut s (a + 1) k := by
  unfold cut
  have hl : s.data.toList.length = s.size := by simp
  rw [List.drop_eq_getElem_cons (by omega), List.take_succ_cons]
  simp; rfl

/-- one round of the reference's Get -/
theorem add_round (x b k : Nat) (hx : x < 256 ^ k) (hb : b < 256) (hk : k < 8) :
    IntKind.u64.wrap (IntKind.u64.wrap (256 * (x : Int)) + IntKind.u64.wrap (b : Int)) = ((b + 256 * x : Nat) : Int) := by
  have hp : 256 ^ k ≤ 72057594037927936 := by
    rcases (by omega : k = 0 ∨ k = 1 ∨ k = 2 ∨ k = 3 ∨ k = 4 ∨ k = 5 ∨ k = 6 ∨ k = 7) with rfl | rfl | rfl | rfl | rfl | rfl | rfl | rfl <;> omega
  simp only [IntKind.wrap_u64]
  omega

theorem mul_round (q : Nat) (h : q < 7) : wrap64 (256 * 256 ^ q) = ((256 ^ (q + 1) : Nat) : Int) := by
  rcases (by omega : q = 0 ∨ q = 1 ∨ q = 2 ∨ q = 3 ∨ q = 4 ∨ q = 5 ∨ q = 6) with rfl | rfl | rfl | rfl | rfl | rfl | rfl <;> decide +kernel

theorem rget_hi (U k : Nat) (hU : U < 256 ^ k) (hk : k = 1 ∨ k = 2 ∨ k = 4) (h : wrap64 ((256 ^ k : Int).tdiv 2) ≤ wrap64 (U : Int)) :
    wrap64 (wrap64 (U : Int) - 256 ^ k) = getI U k true := by
  unfold wrap64 getI at *
  rcases hk with rfl | rfl | rfl <;> simp at * <;> (try split) <;> omega

theorem rget_lo (U k : Nat) (hU : U < 256 ^ k) (hk : k = 1 ∨ k = 2 ∨ k = 4) (h : wrap64 (U : Int) < wrap64 ((256 ^ k : Int).tdiv 2)) :
    wrap64 (U : Int) = getI U k true := by
  unfold wrap64 getI at *
  rcases hk with rfl | rfl | rfl <;> simp at * <;> (try split) <;> omega


end Go.Proofs.YtlohhlbbkliehaaGreatDoor.W
