import Derived.Test.YtmcdfhihfcfbaaaRows
import Derived.WalkKit
import Derived.WalkLawsBesides
import Derived.WalkSpells
import Derived.Lib.Hide
import Derived.Test.YtmcdfhihfcfbaaaL
import Derived.Handy
import Derived.Lib.Strings
/-
  The walks of the two functions that ask whether a field exists. No condition but the strings' own bound.
-/
namespace Go.Proofs.Ytmcdfhihfcfbaaa.Wd
open Go.Proofs.Ytmcdfhihfcfbaaa.W
open Go.RowKit
set_option linter.unusedSimpArgs false

def fieldB (n at_ size : Int) : Bool := (size == 1 || size == 2 || size == 4 || size == 8) && (decide (0 ≤ at_) && decide (at_ ≤ n - size))

set_option maxHeartbeats 400000 in
theorem field_any (s : ByteArray) (a size : Int) (w : World) (hs : s.size ≤ maxLen) :
    Calls Try.prog 70 #[.string s, .int .i64 a, .int .i64 size] w fun e w' => e = .returned (.bool (fieldB s.size a size)) ∧ w = w' := by
  unfold maxLen at hs
  go_enter Try.func70, Try.ntmps70
  go_wp2
  all_goals (go_ret; refine ⟨?_, rfl⟩)
  all_goals simp_all [fieldB, wrap64]
  all_goals omega

set_option maxHeartbeats 400000 in
theorem rfield_any (s : ByteArray) (a size : Int) (w : World) (hs : s.size ≤ maxLen) :
    Calls Try.prog 77 #[.string s, .int .i64 a, .int .i64 size] w fun e w' => e = .returned (.bool (fieldB s.size a size)) ∧ w = w' := by
  unfold maxLen at hs
  go_enter Try.func77, Try.ntmps77
  go_wp2
  all_goals (go_ret; refine ⟨?_, rfl⟩)
  all_goals simp_all [fieldB, wrap64]
  all_goals omega
end Go.Proofs.Ytmcdfhihfcfbaaa.Wd

/-
  The walks of Get, the program's and the reference's: what they return, as a plain function. Condition: the string's own bound.
-/
namespace Go.Proofs.Ytmcdfhihfcfbaaa.Wd
open Go.Proofs.Ytmcdfhihfcfbaaa.W
open Go.RowKit

/-- the number of a little-endian list of bytes -/
def le : List UInt8 → Nat
  | [] => 0
  | b :: r => b.toNat + 256 * le r

theorem le_lt (l : List UInt8) : le l < 256 ^ l.length := by
  induction l with
  | nil => simp [le]
  | cons b r ih => have := b.toNat_lt; simp only [le, List.length_cons, Nat.pow_succ]; omega

theorem le_snoc (l : List UInt8) (b : UInt8) : le (l ++ [b]) = le l + 256 ^ l.length * b.toNat := by
  induction l with
  | nil => simp [le]
  | cons x r ih => simp only [List.cons_append, le, ih, List.length_cons, Nat.pow_succ]; rw [Nat.mul_add, ← Nat.mul_assoc, Nat.mul_comm 256 (256 ^ r.length)]; omega

/-- the bytes of a string from a on, k of them -/
def cut (s : ByteArray) (a k : Nat) : List UInt8 := (s.data.toList.drop a).take k

theorem cut_succ (s : ByteArray) (a k : Nat) (h : a + k < s.size) : cut s a (k + 1) = cut s a k ++ [s[a + k]] := by
  unfold cut
  have hl : s.data.toList.length = s.size := by simp
  rw [List.take_succ_eq_append_getElem (by rw [List.length_drop]; omega)]
  simp; rfl

theorem cut_length (s : ByteArray) (a k : Nat) (h : a + k ≤ s.size) : (cut s a k).length = k := by
  have : s.data.toList.length = s.size := by simp
  simp [cut]; omega

/-- one round of word.Get, as the walk writes it -/
theorem or_round (x b k : Nat) (hx : x < 256 ^ k) (hb : b < 256) (hk : k < 8) :
    bits .or .u64 (x : Int) (IntKind.u64.wrap (IntKind.u64.wrap (b : Int) * 2 ^ (8 * k))) = ((x + 256 ^ k * b : Nat) : Int) := by
  have e0 : IntKind.u64.wrap (b : Int) = (b : Int) := by rw [IntKind.wrap_u64]; omega
  have hp : 256 ^ k * b < 18446744073709551616 ∧ 256 ^ k ≤ 72057594037927936 := by
    rcases (by omega : k = 0 ∨ k = 1 ∨ k = 2 ∨ k = 3 ∨ k = 4 ∨ k = 5 ∨ k = 6 ∨ k = 7) with rfl | rfl | rfl | rfl | rfl | rfl | rfl | rfl <;> (constructor <;> omega)
  have e1 : ((b : Int) * 2 ^ (8 * k)) = ((256 ^ k * b : Nat) : Int) := by
    rw [show (256 : Nat) = 2 ^ 8 from rfl, ← Nat.pow_mul]; push_cast; exact Int.mul_comm _ _
  have e2 : IntKind.u64.wrap ((256 ^ k * b : Nat) : Int) = ((256 ^ k * b : Nat) : Int) := by rw [IntKind.wrap_u64]; omega
  rw [e0, e1, e2, u64_or_nat _ _ (by omega) (by omega)]
  congr 1
  rw [Nat.or_comm, nat_join (8 * k) _ _ ?_ ?_]
  · omega
  · rw [show (256 : Nat) = 2 ^ 8 from rfl, ← Nat.pow_mul]; exact Nat.mul_mod_right _ _
  · rw [show (256 : Nat) = 2 ^ 8 from rfl, ← Nat.pow_mul] at hx; exact hx

/-- what a field of k bytes is worth -/
def getI (U k : Nat) (sg : Bool) : Int := if (sg || k == 8) && decide (2 ^ (8 * k - 1) ≤ U) then (U : Int) - 2 ^ (8 * k) else U

theorem get_signed (U k : Nat) (hU : U < 256 ^ k) (hk : k = 1 ∨ k = 2 ∨ k = 4 ∨ k = 8) :
    wrap64 (IntKind.u64.wrap ((U : Int) * 2 ^ (64 - 8 * k))) / 2 ^ (64 - 8 * k) = getI U k true := by
  rw [IntKind.wrap_u64]
  unfold wrap64 getI
  rcases hk with rfl | rfl | rfl | rfl <;> simp <;> split <;> omega

theorem get_unsigned (U k : Nat) (hU : U < 256 ^ k) (hk : k = 1 ∨ k = 2 ∨ k = 4 ∨ k = 8) : wrap64 (U : Int) = getI U k false := by
  unfold wrap64 getI
  rcases hk with rfl | rfl | rfl | rfl <;> simp <;> (try split) <;> omega

theorem fieldB_iff {n a size : Int} : fieldB n a size = true ↔ (size = 1 ∨ size = 2 ∨ size = 4 ∨ size = 8) ∧ 0 ≤ a ∧ a ≤ n - size := by
  simp [fieldB, or_assoc]

def getP (s : ByteArray) (a size : Int) (sg : Bool) : Int × Bool :=
  if fieldB s.size a size then (getI (le (cut s a.toNat size.toNat)) size.toNat sg, true) else (0, false)

theorem ret_ib {a b : Int} {x y : Bool} (h : a = b) (h' : x = y) : Ending.returned (.tuple #[.int .i64 a, .bool x]) = .returned (.tuple #[.int .i64 b, .bool y]) := by rw [h, h']

set_option maxHeartbeats 400000 in
theorem get_yes (s : ByteArray) (a k : Nat) (sg : Bool) (w : World) (hs : s.size ≤ maxLen) (h1 : a + k ≤ s.size) (hk : k = 1 ∨ k = 2 ∨ k = 4 ∨ k = 8) (hf : fieldB s.size a k = true) :
    Calls Try.prog 36 #[.string s, .int .i64 a, .int .i64 k, .bool sg] w fun e w' => e = .returned (.tuple #[.int .i64 (getI (le (cut s a k)) k sg), .bool true]) ∧ w = w' := by
  unfold maxLen at hs
  have h2 : k ≤ 8 := by omega
  have HK := Lib.hid hk
  clear hk
  have hU := le_lt (cut s a k)
  rw [cut_length s a k h1] at hU
  go_enter Try.func36, Try.ntmps36
  go_wp2_with (go_at_call 70; refine (field_any _ _ _ _ (by unfold maxLen; omega)).mono ?_; rintro e w' ⟨rfl, rfl⟩; simp only [hf])
  go_loop [10, 19] (fun v i => ∃ j : Nat, j ≤ k ∧ i = .int .i64 j ∧ v = .int .u64 (le (cut s a j))) (fun _ i => k - (intOf i).toNat)
  case atStart => exact ⟨0, Nat.zero_le _, rfl, rfl⟩
  case round =>
    obtain ⟨j, hj, rfl, rfl⟩ := hrel
    by_cases hlt : j < k
    · go_wp2
      go_round
      case rel => exact ⟨j + 1, by omega, by go_num, by rw [or_round _ _ _ (by have := le_lt (cut s a j); rwa [cut_length s a j (by omega)] at this) (s[a + j]).toNat_lt (by omega), cut_succ s a j (by omega), le_snoc, cut_length s a j (by omega)]⟩
      case measure => simp [intOf]; omega
    · obtain rfl : j = k := by omega
      cases sg
      all_goals go_wp2
      all_goals go_ret2
      · exact ⟨ret_ib (get_unsigned _ _ hU HK.out) rfl, rfl⟩
      · exact ⟨ret_ib (get_signed _ _ hU HK.out) rfl, rfl⟩

set_option maxHeartbeats 400000 in
theorem get_no (s : ByteArray) (a k : Int) (sg : Bool) (w : World) (hs : s.size ≤ maxLen) (hf : fieldB s.size a k = false) :
    Calls Try.prog 36 #[.string s, .int .i64 a, .int .i64 k, .bool sg] w fun e w' => e = .returned (.tuple #[.int .i64 0, .bool false]) ∧ w = w' := by
  go_enter Try.func36, Try.ntmps36
  go_wp2_with (go_at_call 70; refine (field_any _ _ _ _ hs).mono ?_; rintro e w' ⟨rfl, rfl⟩; simp only [hf])
  go_ret2
  exact ⟨rfl, rfl⟩

theorem get_any (s : ByteArray) (a k : Int) (sg : Bool) (w : World) (hs : s.size ≤ maxLen) :
    Calls Try.prog 36 #[.string s, .int .i64 a, .int .i64 k, .bool sg] w fun e w' => e = .returned (.tuple #[.int .i64 (getP s a k sg).1, .bool (getP s a k sg).2]) ∧ w = w' := by
  unfold getP
  by_cases hf : fieldB s.size a k = true
  · obtain ⟨h1, h2, h3⟩ := fieldB_iff.1 hf
    obtain ⟨a, rfl⟩ := Int.eq_ofNat_of_zero_le h2
    obtain ⟨k, rfl⟩ := Int.eq_ofNat_of_zero_le (show 0 ≤ k by omega)
    rw [if_pos hf]
    exact get_yes s a k sg w hs (by omega) (by omega) hf
  · rw [if_neg hf]
    exact get_no s a k sg w hs (by simpa using hf)

theorem cut_cons (s : ByteArray) (a k : Nat) (h : a + k < s.size) : cut s a (k + 1) = s[a] :: cut s (a + 1) k := by
  unfold cut
  have hl : s.data.toList.length = s.size := by simp
  rw [List.drop_eq_getElem_cons (by omega), List.take_succ_cons]
  simp; rfl

/-- one round of the reference's Get -/
theorem add_round (x b k : Nat) (hx : x < 256 ^ k) (hb : b < 256) (hk : k < 8) :
    IntKind.u64.wrap (IntKind.u64.wrap (256 * (x : Int)) + IntKind.u64.wrap (b : Int)) = ((b + 256 * x : Nat) : Int) := by
  have hp : 256 ^ k ≤ 72057594037927936 := by
    rcases (by omega : k = 0 ∨ k = 1 ∨ k = 2 ∨ k = 3 ∨ k = 4 ∨ k = 5 ∨ k = 6 ∨ k = 7) with rfl | rfl | rfl | rfl | rfl | rfl | rfl | rfl <;> omega
  simp only [IntKind.wrap_u64]
  omega

theorem mul_round (q : Nat) (h : q < 7) : wrap64 (256 * 256 ^ q) = ((256 ^ (q + 1) : Nat) : Int) := by
  rcases (by omega : q = 0 ∨ q = 1 ∨ q = 2 ∨ q = 3 ∨ q = 4 ∨ q = 5 ∨ q = 6) with rfl | rfl | rfl | rfl | rfl | rfl | rfl <;> decide +kernel

theorem rget_hi (U k : Nat) (hU : U < 256 ^ k) (hk : k = 1 ∨ k = 2 ∨ k = 4) (h : wrap64 ((256 ^ k : Int).tdiv 2) ≤ wrap64 (U : Int)) :
    wrap64 (wrap64 (U : Int) - 256 ^ k) = getI U k true := by
  unfold wrap64 getI at *
  rcases hk with rfl | rfl | rfl <;> simp at * <;> (try split) <;> omega

theorem rget_lo (U k : Nat) (hU : U < 256 ^ k) (hk : k = 1 ∨ k = 2 ∨ k = 4) (h : wrap64 (U : Int) < wrap64 ((256 ^ k : Int).tdiv 2)) :
    wrap64 (U : Int) = getI U k true := by
  unfold wrap64 getI at *
  rcases hk with rfl | rfl | rfl <;> simp at * <;> (try split) <;> omega

set_option maxHeartbeats 400000 in
theorem rget_yes (s : ByteArray) (a k : Nat) (sg : Bool) (w : World) (hs : s.size ≤ maxLen) (h1 : a + k ≤ s.size) (hk : k = 1 ∨ k = 2 ∨ k = 4 ∨ k = 8) (hf : fieldB s.size a k = true) :
    Calls Try.prog 56 #[.string s, .int .i64 a, .int .i64 k, .bool sg] w fun e w' => e = .returned (.tuple #[.int .i64 (getI (le (cut s a k)) k sg), .bool true]) ∧ w = w' := by
  unfold maxLen at hs
  have h2 : k ≤ 8 := by omega
  have HK := Lib.hid hk
  clear hk
  have hU := le_lt (cut s a k)
  rw [cut_length s a k h1] at hU
  go_enter Try.func56, Try.ntmps56
  go_wp2_with (go_at_call 77; refine (rfield_any _ _ _ _ (by unfold maxLen; omega)).mono ?_; rintro e w' ⟨rfl, rfl⟩; simp only [hf])
  go_loop [10, 11] (fun v i => ∃ m j : Nat, m + j ≤ k ∧ k ≤ m + j ∧ i = .int .i64 ((m : Int) - 1) ∧ v = .int .u64 (le (cut s (a + m) j))) (fun _ i => (intOf i + 1).toNat)
  case atStart => exact ⟨k, 0, by omega, by omega, rfl, rfl⟩
  case round =>
    obtain ⟨m, j, hj, hj', rfl, rfl⟩ := hrel
    by_cases hlt : 0 < m
    · obtain ⟨i, rfl⟩ : ∃ i, m = i + 1 := ⟨m - 1, by omega⟩
      have e0 : (((i + 1 : Nat) : Int) - 1) = (i : Int) := by omega
      rw [e0]
      clear e0
      go_wp2
      go_round
      case rel => exact ⟨i, j + 1, by omega, by omega, rfl, by rw [add_round _ _ j (by have := le_lt (cut s (a + (i + 1)) j); rwa [cut_length s (a + (i + 1)) j (by omega)] at this) (s[a + i]).toNat_lt (by omega), cut_cons s (a + i) j (by omega)]; rfl⟩
      case measure => simp [intOf]
    · obtain rfl : m = 0 := by omega
      obtain rfl : j = k := by omega
      cases sg
      · go_wp2
        go_ret2
        exact ⟨ret_ib (get_unsigned _ _ hU HK.out) rfl, rfl⟩
      · by_cases h8 : j = 8
        · subst h8
          go_wp2
          go_ret2
          exact ⟨ret_ib ((get_unsigned _ _ hU (by decide)).trans (by simp [getI])) rfl, rfl⟩
        · have h9 : ((j : Int) == 8) = false := beq_eq_false_iff_ne.2 (by omega)
          go_wp2
          go_loop [12, 13] (fun v i => ∃ q : Nat, q ≤ j ∧ i = .int .i64 q ∧ v = .int .i64 ((256 ^ q : Nat) : Int)) (fun _ i => j - (intOf i).toNat)
          case atStart => exact ⟨0, Nat.zero_le _, rfl, rfl⟩
          case round =>
            obtain ⟨q, hq, rfl, rfl⟩ := hrel
            by_cases hqt : q < j
            · go_wp2
              go_round
              case rel => exact ⟨q + 1, by omega, by go_num, by rw [mul_round q (by have := HK.out; omega)]⟩
              case measure => simp [intOf]; omega
            · obtain rfl : q = j := by omega
              have hk3 : q = 1 ∨ q = 2 ∨ q = 4 := by have := HK.out; omega
              have HK3 := Lib.hid hk3
              clear hk3 HK
              go_wp2
              all_goals go_ret2
              · exact ⟨ret_ib (rget_hi _ _ hU HK3.out (by assumption)) rfl, rfl⟩
              · exact ⟨ret_ib (rget_lo _ _ hU HK3.out (by assumption)) rfl, rfl⟩

set_option maxHeartbeats 400000 in
theorem rget_no (s : ByteArray) (a k : Int) (sg : Bool) (w : World) (hs : s.size ≤ maxLen) (hf : fieldB s.size a k = false) :
    Calls Try.prog 56 #[.string s, .int .i64 a, .int .i64 k, .bool sg] w fun e w' => e = .returned (.tuple #[.int .i64 0, .bool false]) ∧ w = w' := by
  go_enter Try.func56, Try.ntmps56
  go_wp2_with (go_at_call 77; refine (rfield_any _ _ _ _ hs).mono ?_; rintro e w' ⟨rfl, rfl⟩; simp only [hf])
  go_ret2
  exact ⟨rfl, rfl⟩

theorem rget_any (s : ByteArray) (a k : Int) (sg : Bool) (w : World) (hs : s.size ≤ maxLen) :
    Calls Try.prog 56 #[.string s, .int .i64 a, .int .i64 k, .bool sg] w fun e w' => e = .returned (.tuple #[.int .i64 (getP s a k sg).1, .bool (getP s a k sg).2]) ∧ w = w' := by
  unfold getP
  by_cases hf : fieldB s.size a k = true
  · obtain ⟨h1, h2, h3⟩ := fieldB_iff.1 hf
    obtain ⟨a, rfl⟩ := Int.eq_ofNat_of_zero_le h2
    obtain ⟨k, rfl⟩ := Int.eq_ofNat_of_zero_le (show 0 ≤ k by omega)
    rw [if_pos hf]
    exact rget_yes s a k sg w hs (by omega) (by omega) hf
  · rw [if_neg hf]
    exact rget_no s a k sg w hs (by simpa using hf)

end Go.Proofs.Ytmcdfhihfcfbaaa.Wd

/-
  The walks of Fits. Condition: the number is an int.
-/
namespace Go.Proofs.Ytmcdfhihfcfbaaa.Wd
open Go.Proofs.Ytmcdfhihfcfbaaa.W
open Go.RowKit

def fitsB (n b : Int) (sg : Bool) : Bool := decide (1 ≤ b) && (decide (b ≤ 64) && if sg then decide (-(2 ^ (b - 1).toNat) ≤ n) && decide (n < 2 ^ (b - 1).toNat) else decide (0 ≤ n) && decide (n < 2 ^ b.toNat))


theorem div_zero (n p : Int) (hp : 1 ≤ p) : n / p = 0 ↔ 0 ≤ n ∧ n < p := by
  have h1 := Int.le_ediv_iff_mul_le (a := 0) (b := n) (c := p) (by omega)
  have h2 := Int.ediv_lt_iff_lt_mul (a := n) (b := 1) (c := p) (by omega)
  omega

theorem div_neg1 (n p : Int) (hp : 1 ≤ p) : n / p = -1 ↔ -p ≤ n ∧ n < 0 := by
  have h1 := Int.le_ediv_iff_mul_le (a := -1) (b := n) (c := p) (by omega)
  have h2 := Int.ediv_lt_iff_lt_mul (a := n) (b := 0) (c := p) (by omega)
  omega

theorem pow_pos' (e : Nat) : (1 : Int) ≤ 2 ^ e := by
  have := Nat.two_pow_pos e
  have h : ((2 ^ e : Nat) : Int) = 2 ^ e := by push_cast; rfl
  omega

theorem pow_le' {e f : Nat} (h : e ≤ f) : (2 : Int) ^ e ≤ 2 ^ f := by
  have := Nat.pow_le_pow_right (n := 2) (by decide) h
  have h1 : ((2 ^ e : Nat) : Int) = 2 ^ e := by push_cast; rfl
  have h2 : ((2 ^ f : Nat) : Int) = 2 ^ f := by push_cast; rfl
  omega

theorem pow_eq63 {e : Nat} (h : e = 63) : (2 : Int) ^ e = 9223372036854775808 := by subst h; rfl
theorem pow_eq62 {e : Nat} (h : e = 62) : (2 : Int) ^ e = 4611686018427387904 := by subst h; rfl

/-- the outcome of Fits by plain comparisons -/
theorem fits_out {n b : Int} (hb : 1 ≤ b ∧ b ≤ 64) : fitsB n b false = (decide (0 ≤ n) && decide (n < 2 ^ b.toNat)) ∧ fitsB n b true = (decide (-(2 ^ (b.toNat - 1)) ≤ n) && decide (n < 2 ^ (b.toNat - 1))) := by
  have e : (b - 1).toNat = b.toNat - 1 := by omega
  simp [fitsB, hb.1, hb.2, e]

set_option maxHeartbeats 400000 in
theorem fits_any (n b : Int) (sg : Bool) (w : World) (h1 : -9223372036854775808 ≤ n) (h2 : n ≤ 9223372036854775807) :
    Calls Try.prog 92 #[.int .i64 n, .int .i64 b, .bool sg] w fun e w' => e = .returned (.bool (fitsB n b sg)) ∧ w = w' := by
  by_cases hb : 1 ≤ b ∧ b ≤ 64
  · have HO := Lib.hid (fits_out (n := n) hb)
    have HP := Lib.hid (pow_pos' (b.toNat - 1))
    have HQ := Lib.hid (pow_pos' b.toNat)
    have HR := Lib.hid (fun h : 63 ≤ b.toNat => pow_le' h)
    obtain ⟨hb1, hb2⟩ := hb
    cases sg
    all_goals go_enter Try.func92, Try.ntmps92
    all_goals go_wp2
    all_goals go_ret
    · rw [HO.out.1]
      refine ⟨ret_b ?_, rfl⟩
      have := div_zero n _ HQ.out
      rw [Bool.eq_iff_iff]; simp; omega
    · rw [HO.out.1]
      refine ⟨ret_b ?_, rfl⟩
      have := HR.out (by omega)
      rw [Bool.eq_iff_iff]; simp; omega
    · rw [HO.out.1]
      refine ⟨ret_b ?_, rfl⟩
      rw [Bool.eq_iff_iff]; simp; omega
    · rw [HO.out.2]
      refine ⟨ret_b ?_, rfl⟩
      have := div_zero n _ HP.out
      rw [Bool.eq_iff_iff]; simp; omega
    · rw [HO.out.2]
      refine ⟨ret_b ?_, rfl⟩
      have := div_zero n _ HP.out
      have := div_neg1 n _ HP.out
      rw [Bool.eq_iff_iff]; simp; omega
  · go_enter Try.func92, Try.ntmps92
    go_wp2
    all_goals go_ret
    all_goals (refine ⟨ret_b ?_, rfl⟩; simp [fitsB]; omega)

end Go.Proofs.Ytmcdfhihfcfbaaa.Wd

/-
  The walk of the program's Put, for strings of at most 1000 bytes.
-/
namespace Go.Proofs.Ytmcdfhihfcfbaaa.Wd
open Go.Proofs.Ytmcdfhihfcfbaaa.W
open Go.RowKit
set_option linter.unusedVariables false

/-- byte i of a number, as Put writes it -/
def byteOf (n : Int) (i : Nat) : Int := IntKind.u64.wrap n / 2 ^ (8 * i) % 256

theorem byteOf_bd (n : Int) (i : Nat) : 0 ≤ byteOf n i ∧ byteOf n i < 256 := by unfold byteOf; omega

set_option maxHeartbeats 400000 in
theorem putl_any (i a len cap B : Nat) (n old : Int) (pn po pa : Addr) (w : World) (hn : w.cell? pn = some (.int .i64 n)) (ho : w.cell? po = some (.slice (some ⟨B, 0, none⟩) len cap)) (ha : w.cell? pa = some (.int .i64 a))
    (hc : w.cell? ⟨B, a + i, none⟩ = some (.int .u8 old)) (hf : w.frozen? ⟨B, a + i, none⟩ = false) (hl : a + i < len) (hm : len ≤ 1000) (hi : i < 8) :
    Calls Try.prog 93 #[.int .i64 i, .pointer (some pn), .pointer (some po), .pointer (some pa)] w fun e w' => e = .returned (.tuple #[]) ∧ (w.setCell ⟨B, a + i, none⟩ (.int .u8 (byteOf n i))).drew = w' := by
  go_enter Try.func93, Try.ntmps93
  go_region
  go_end0
  exact ⟨rfl, rfl⟩

/-- the byte at j after the first k were written from a on -/
def mixed (s : ByteArray) (a k : Nat) (n : Int) (j : Nat) : Int := if a ≤ j ∧ j < a + k then byteOf n (j - a) else if h : j < s.size then (s[j]'h).toNat else 0

/-- the new text -/
def putL (s : ByteArray) (a k : Nat) (n : Int) : List UInt8 := (List.range s.size).map fun j => UInt8.ofNat (mixed s a k n j).toNat

theorem putL_len (s : ByteArray) (a k : Nat) (n : Int) : (putL s a k n).length = s.size := by simp [putL]

theorem mixed_bd (s : ByteArray) (a k : Nat) (n : Int) (j : Nat) : 0 ≤ mixed s a k n j ∧ mixed s a k n j < 256 := by
  unfold mixed
  split
  · exact byteOf_bd _ _
  · split
    · rename_i h; have := (s[j]'h).toNat_lt; omega
    · omega

theorem putL_get (s : ByteArray) (a k : Nat) (n : Int) (j : Nat) (h : j < (putL s a k n).length) : (((putL s a k n)[j]'h).toNat : Int) = mixed s a k n j := by
  have := mixed_bd s a k n j
  simp [putL]
  omega

/-- what a round of Put writes keeps -/
def Cells (wr : World) (B : Nat) (s : ByteArray) (a k : Nat) (n : Int) : Prop := ∀ j, j < s.size → wr.cell? ⟨B, j, none⟩ = some (.int .u8 (mixed s a k n j)) ∧ wr.frozen? ⟨B, j, none⟩ = false

theorem cells_step {wr : World} {B : Nat} {s : ByteArray} {a k : Nat} {n : Int} (h : Cells wr B s a k n) (hk : a + k < s.size) :
    Cells (wr.setCell ⟨B, a + k, none⟩ (.int .u8 (byteOf n k))).drew B s a (k + 1) n := by
  intro j hj
  have hj' := h j hj
  by_cases e : j = a + k
  · subst e
    refine ⟨?_, by simpa using hj'.2⟩
    have : mixed s a (k + 1) n (a + k) = byteOf n k := by unfold mixed; rw [if_pos ⟨by omega, by omega⟩]; congr 1; omega
    rw [this]
    exact World.cell?_setCell_same _ _ _ hj'.1
  · have : mixed s a (k + 1) n j = mixed s a k n j := by
      unfold mixed
      by_cases e2 : a ≤ j ∧ j < a + k
      · rw [if_pos e2, if_pos ⟨e2.1, by omega⟩]
      · rw [if_neg e2, if_neg (by omega)]
    rw [this]
    exact ⟨by rw [show (wr.setCell ⟨B, a + k, none⟩ (.int .u8 (byteOf n k))).drew.cell? ⟨B, j, none⟩ = (wr.setCell ⟨B, a + k, none⟩ (.int .u8 (byteOf n k))).cell? ⟨B, j, none⟩ from rfl, World.cell?_setCell_other _ _ _ _ (fun e' => e (Addr.mk.inj e').2.1.symm), hj'.1], by simpa using hj'.2⟩

theorem start_cells (w : World) (o1 o2 o4 : Obj) (s : ByteArray) (a cap : Nat) (n : Int) (row : Array Value) (hrow : bytesRow s cap = row) :
    Cells ((((w.alloc o1).alloc o2).alloc (.cells row 5 (row.size, row.size + 1))).alloc o4).drew (w.heap.size + 1 + 1) s a 0 n := by
  subst hrow
  intro j hj
  have h := bytesRow_at s cap j (by simpa using hj)
  have hsz : j < (bytesRow s cap).size := (Array.getElem?_eq_some_iff.1 h).1
  have e : mixed s a 0 n j = (s.data[j]'(by simpa using hj)).toNat := by
    unfold mixed; rw [if_neg (by omega), dif_pos hj]; rfl
  rw [e]
  have hb : ((((w.alloc o1).alloc o2).alloc (.cells (bytesRow s cap) 5 ((bytesRow s cap).size, (bytesRow s cap).size + 1))).alloc o4).drew.heap[w.heap.size + 1 + 1]? = some (.cells (bytesRow s cap) 5 ((bytesRow s cap).size, (bytesRow s cap).size + 1)) := by
    show ((((w.heap.push _).push _).push _).push _)[w.heap.size + 1 + 1]? = _
    simp only [Array.getElem?_push, Array.size_push]
    rw [if_neg (by omega), if_pos trivial]
  constructor
  · simp only [World.cell?, hb]; simpa using h
  · simp only [World.frozen?, hb]; simp; omega

/-- what the bytes of the block read as -/
theorem back (w : World) (B cap : Nat) (s : ByteArray) (a k : Nat) (n : Int) (h : Cells w B s a k n) :
    (convert 74 9 (.slice (some ⟨B, 0, none⟩) s.size cap)).run Try.prog w = .ok (.string ⟨(putL s a k n).toArray⟩) w := by
  have := run_convert_bytes_back (P := Try.prog) w 74 9 5 ⟨B, 0, none⟩ cap (putL s a k n) Try.underlying74 Try.underlying5 Try.underlying9 (fun j hj => by
    rw [putL_get]
    rw [putL_len] at hj
    have e : (⟨B, 0, none⟩ : Addr).add j = ⟨B, j, none⟩ := by unfold Addr.add; split <;> simp_all
    rw [e]
    exact (h j hj).1)
  rwa [putL_len] at this

def putOk (s : ByteArray) (a k n : Int) : Bool := fieldB s.size a k && (fitsB n (8 * k) false || fitsB n (8 * k) true)

set_option maxHeartbeats 400000 in
theorem put_yes (s : ByteArray) (a k : Nat) (n : Int) (w : World) (hs : s.size ≤ 1000) (h1 : a + k ≤ s.size) (hk : k = 1 ∨ k = 2 ∨ k = 4 ∨ k = 8) (hf : fieldB s.size a k = true)
    (hn1 : -9223372036854775808 ≤ n) (hn2 : n ≤ 9223372036854775807) (hF : fitsB n (8 * k) false = true) :
    Calls Try.prog 85 #[.string s, .int .i64 a, .int .i64 k, .int .i64 n] w fun e w' => e = .returned (.tuple #[.string ⟨(putL s a k n).toArray⟩, .bool true]) ∧ Below w.heap.size w w' := by
  have h2 : k ≤ 8 := by omega
  have hcv := run_bytes_of_string (P := Try.prog) ((w.alloc (.cells #[.int .i64 a] 3)).alloc (.cells #[.int .i64 n] 3)) 9 74 5 s Try.underlying9 Try.underlying74 Try.underlying5
  generalize grownCap ((w.alloc (.cells #[.int .i64 a] 3)).alloc (.cells #[.int .i64 n] 3)) s.size 0 5 = cap at hcv
  generalize hrow : bytesRow s cap = row at hcv
  have HR := Lib.hid hrow
  clear hrow
  clear hk
  go_enter Try.func85, Try.ntmps85
  go_wp2_with (first | (go_at_call 70; refine (field_any _ _ _ _ (by unfold maxLen; omega)).mono ?_; rintro e w' ⟨rfl, rfl⟩; simp only [hf]) | (go_at_call 92; refine (fits_any _ _ _ _ (by omega) (by omega)).mono ?_; rintro e w' ⟨rfl, rfl⟩))
  go_loopw [36] (fun i wr => ∃ j : Nat, j ≤ k ∧ i = .int .i64 j ∧ Cells wr (w.heap.size + 1 + 1) s a j n ∧ wr.cell? ⟨w.heap.size, 0, none⟩ = some (.int .i64 a) ∧ wr.cell? ⟨w.heap.size + 1, 0, none⟩ = some (.int .i64 n) ∧ wr.cell? ⟨w.heap.size + 1 + 1 + 1, 0, none⟩ = some (.slice (some ⟨w.heap.size + 1 + 1, 0, none⟩) s.size cap) ∧ Below w.heap.size w wr) (fun i _ => k - (intOf i).toNat)
  case atStart => exact ⟨0, Nat.zero_le _, rfl, start_cells w _ _ _ s a cap n row HR.out, by simp [go_sem], by simp [go_sem], by simp [go_sem], by go_grown⟩
  case round =>
    obtain ⟨j, hj, rfl, HC, ca, cn, co, hb⟩ := hrel
    by_cases hlt : j < k
    · have hcj := HC (a + j) (by omega)
      go_wp2_with (go_at_call 93; refine (putl_any j a s.size cap (w.heap.size + 1 + 1) n _ _ _ _ _ cn co ca hcj.1 hcj.2 (by omega) (by omega) (by omega)).mono ?_; rintro e w' ⟨rfl, rfl⟩)
      go_roundw
      case rel => exact ⟨j + 1, by omega, by go_num, cells_step HC (by omega), by simp [go_sem, ca], by simp [go_sem, cn], by simp [go_sem, co], by go_grown⟩
      case measure => simp [intOf]; omega
    · obtain rfl : j = k := by omega
      have hbk := back wr (w.heap.size + 1 + 1) cap s a j n HC
      go_wp2
      go_ret2
      exact ⟨rfl, hb⟩

set_option maxHeartbeats 400000 in
theorem put_yes' (s : ByteArray) (a k : Nat) (n : Int) (w : World) (hs : s.size ≤ 1000) (h1 : a + k ≤ s.size) (hk : k = 1 ∨ k = 2 ∨ k = 4 ∨ k = 8) (hf : fieldB s.size a k = true)
    (hn1 : -9223372036854775808 ≤ n) (hn2 : n ≤ 9223372036854775807) (hF : fitsB n (8 * k) false = false) (hF' : fitsB n (8 * k) true = true) :
    Calls Try.prog 85 #[.string s, .int .i64 a, .int .i64 k, .int .i64 n] w fun e w' => e = .returned (.tuple #[.string ⟨(putL s a k n).toArray⟩, .bool true]) ∧ Below w.heap.size w w' := by
  have h2 : k ≤ 8 := by omega
  have hcv := run_bytes_of_string (P := Try.prog) ((w.alloc (.cells #[.int .i64 a] 3)).alloc (.cells #[.int .i64 n] 3)) 9 74 5 s Try.underlying9 Try.underlying74 Try.underlying5
  generalize grownCap ((w.alloc (.cells #[.int .i64 a] 3)).alloc (.cells #[.int .i64 n] 3)) s.size 0 5 = cap at hcv
  generalize hrow : bytesRow s cap = row at hcv
  have HR := Lib.hid hrow
  clear hrow
  clear hk
  go_enter Try.func85, Try.ntmps85
  go_wp2_with (first | (go_at_call 70; refine (field_any _ _ _ _ (by unfold maxLen; omega)).mono ?_; rintro e w' ⟨rfl, rfl⟩; simp only [hf]) | (go_at_call 92; refine (fits_any _ _ _ _ (by omega) (by omega)).mono ?_; rintro e w' ⟨rfl, rfl⟩))
  go_loopw [36] (fun i wr => ∃ j : Nat, j ≤ k ∧ i = .int .i64 j ∧ Cells wr (w.heap.size + 1 + 1) s a j n ∧ wr.cell? ⟨w.heap.size, 0, none⟩ = some (.int .i64 a) ∧ wr.cell? ⟨w.heap.size + 1, 0, none⟩ = some (.int .i64 n) ∧ wr.cell? ⟨w.heap.size + 1 + 1 + 1, 0, none⟩ = some (.slice (some ⟨w.heap.size + 1 + 1, 0, none⟩) s.size cap) ∧ Below w.heap.size w wr) (fun i _ => k - (intOf i).toNat)
  case atStart => exact ⟨0, Nat.zero_le _, rfl, start_cells w _ _ _ s a cap n row HR.out, by simp [go_sem], by simp [go_sem], by simp [go_sem], by go_grown⟩
  case round =>
    obtain ⟨j, hj, rfl, HC, ca, cn, co, hb⟩ := hrel
    by_cases hlt : j < k
    · have hcj := HC (a + j) (by omega)
      go_wp2_with (go_at_call 93; refine (putl_any j a s.size cap (w.heap.size + 1 + 1) n _ _ _ _ _ cn co ca hcj.1 hcj.2 (by omega) (by omega) (by omega)).mono ?_; rintro e w' ⟨rfl, rfl⟩)
      go_roundw
      case rel => exact ⟨j + 1, by omega, by go_num, cells_step HC (by omega), by simp [go_sem, ca], by simp [go_sem, cn], by simp [go_sem, co], by go_grown⟩
      case measure => simp [intOf]; omega
    · obtain rfl : j = k := by omega
      have hbk := back wr (w.heap.size + 1 + 1) cap s a j n HC
      go_wp2
      go_ret2
      exact ⟨rfl, hb⟩

theorem ret_snb : Ending.returned (.tuple #[.string ⟨#[]⟩, .bool false]) = .returned (.tuple #[.string ByteArray.empty, .bool false]) := rfl

set_option maxHeartbeats 400000 in
theorem put_no (s : ByteArray) (a k n : Int) (w : World) (hs : s.size ≤ 1000) (hn1 : -9223372036854775808 ≤ n) (hn2 : n ≤ 9223372036854775807) (hF : putOk s a k n = false) :
    Calls Try.prog 85 #[.string s, .int .i64 a, .int .i64 k, .int .i64 n] w fun e w' => e = .returned (.tuple #[.string ByteArray.empty, .bool false]) ∧ Below w.heap.size w w' := by
  by_cases hf : fieldB s.size a k = false
  · clear hF
    go_enter Try.func85, Try.ntmps85
    go_wp2_with (go_at_call 70; refine (field_any _ _ _ _ (by unfold maxLen; omega)).mono ?_; rintro e w' ⟨rfl, rfl⟩; simp only [hf])
    go_ret2
    exact ⟨rfl, by go_grown⟩
  · have hf' : fieldB s.size a k = true := by simpa using hf
    have hF0 : fitsB n (8 * k) false = false := by simp [putOk, hf'] at hF; exact hF.1
    have hF1 : fitsB n (8 * k) true = false := by simp [putOk, hf'] at hF; exact hF.2
    have hk := (fieldB_iff.1 hf').1
    have hk1 : 1 ≤ k := by omega
    have hk2 : k ≤ 8 := by omega
    clear hF hf hk
    go_enter Try.func85, Try.ntmps85
    go_wp2_with (first | (go_at_call 70; refine (field_any _ _ _ _ (by unfold maxLen; omega)).mono ?_; rintro e w' ⟨rfl, rfl⟩; simp only [hf']) | (go_at_call 92; refine (fits_any _ _ _ _ (by omega) (by omega)).mono ?_; rintro e w' ⟨rfl, rfl⟩))
    go_ret2
    exact ⟨rfl, by go_grown⟩

def putS (s : ByteArray) (a k n : Int) : ByteArray := if putOk s a k n = true then ⟨(putL s a.toNat k.toNat n).toArray⟩ else ByteArray.empty

theorem put_any (s : ByteArray) (a k n : Int) (w : World) (hs : s.size ≤ 1000) (hn1 : -9223372036854775808 ≤ n) (hn2 : n ≤ 9223372036854775807) :
    Calls Try.prog 85 #[.string s, .int .i64 a, .int .i64 k, .int .i64 n] w fun e w' => e = .returned (.tuple #[.string (putS s a k n), .bool (putOk s a k n)]) ∧ Below w.heap.size w w' := by
  by_cases h : putOk s a k n = true
  · rw [putS, if_pos h, h]
    have hf : fieldB s.size a k = true := by simp [putOk] at h; exact h.1
    obtain ⟨h1, h2, h3⟩ := fieldB_iff.1 hf
    obtain ⟨a, rfl⟩ := Int.eq_ofNat_of_zero_le h2
    obtain ⟨k, rfl⟩ := Int.eq_ofNat_of_zero_le (show 0 ≤ k by omega)
    by_cases h0 : fitsB n (8 * k) false = true
    · exact put_yes s a k n w hs (by omega) (by omega) hf hn1 hn2 h0
    · have h0' : fitsB n (8 * k) false = false := by simpa using h0
      have h1' : fitsB n (8 * k) true = true := by simp [putOk, hf, h0'] at h; exact h
      exact put_yes' s a k n w hs (by omega) (by omega) hf hn1 hn2 h0' h1'
  · have h' : putOk s a k n = false := by simpa using h
    rw [putS, if_neg h, h']
    exact put_no s a k n w hs hn1 hn2 h'

end Go.Proofs.Ytmcdfhihfcfbaaa.Wd

/-
  The walk of the reference's Put, for strings of at most 1000 bytes.
-/
namespace Go.Proofs.Ytmcdfhihfcfbaaa.Wd
open Go.Proofs.Ytmcdfhihfcfbaaa.W
open Go.RowKit
set_option linter.unusedVariables false

/-- a string of one byte -/
theorem one_byte (w : World) (y : Int) (h0 : 0 ≤ y) (h1 : y < 256) :
    (convert 74 9 (.slice (some ⟨w.heap.size, 0, none⟩) 1 1)).run Try.prog (w.alloc (.cells #[.int .u8 y] 5)) = .ok (.string ⟨#[UInt8.ofNat y.toNat]⟩) (w.alloc (.cells #[.int .u8 y] 5)) := by
  have := run_convert_bytes_back (P := Try.prog) (w.alloc (.cells #[.int .u8 y] 5)) 74 9 5 ⟨w.heap.size, 0, none⟩ 1 [UInt8.ofNat y.toNat] Try.underlying74 Try.underlying5 Try.underlying9 (fun j hj => by
    obtain rfl : j = 0 := by simpa using hj
    have e : (⟨w.heap.size, 0, none⟩ : Addr).add 0 = ⟨w.heap.size, 0, none⟩ := rfl
    rw [e, World.cell?_alloc_new]
    simp
    omega)
  exact this

def byteL (n : Int) (j : Nat) : List UInt8 := (List.range j).map fun i => UInt8.ofNat (byteOf n i).toNat

/-- the text before the round j -/
def pre (s : ByteArray) (a j : Nat) (n : Int) : List UInt8 := s.data.toList.take a ++ byteL n j

theorem extract_pre (s : ByteArray) (a : Nat) (n : Int) : s.extract 0 a = ⟨(pre s a 0 n).toArray⟩ := by
  apply ByteArray.ext
  rw [ByteArray.data_extract]
  apply Array.ext'
  simp [pre, byteL]

theorem pre_size (s : ByteArray) (a j : Nat) (n : Int) (h : a + j + 1 ≤ 2000) (b : UInt8) : ((⟨(pre s a j n).toArray⟩ : ByteArray) ++ ⟨#[b]⟩).size ≤ 2000 := by
  rw [ByteArray.size_append]
  have h1 : (⟨(pre s a j n).toArray⟩ : ByteArray).size = (pre s a j n).length := by simp [ByteArray.size]
  have h2 : (⟨#[b]⟩ : ByteArray).size = 1 := rfl
  have h3 : (pre s a j n).length ≤ a + j := by simp [pre, byteL]; omega
  omega

theorem u64_nonneg' (n : Int) (e : Nat) : 0 ≤ IntKind.u64.wrap n / 2 ^ e ∧ IntKind.u64.wrap n / 2 ^ e < 18446744073709551616 := by
  rw [IntKind.wrap_u64]
  have h0 : 0 ≤ n % 18446744073709551616 := Int.emod_nonneg _ (by decide)
  have h1 : n % 18446744073709551616 < 18446744073709551616 := Int.emod_lt_of_pos _ (by decide)
  have hp := pow_pos' e
  have := Int.ediv_nonneg h0 (show 0 ≤ (2 : Int) ^ e by omega)
  have := Int.ediv_le_self (2 ^ e) h0
  omega

theorem next_m (n : Int) (j : Nat) : IntKind.u64.wrap ((IntKind.u64.wrap n / 2 ^ (8 * j)).tdiv 256) = IntKind.u64.wrap n / 2 ^ (8 * (j + 1)) := by
  have h := u64_nonneg' n (8 * j)
  have h2 := u64_nonneg' n (8 * (j + 1))
  rw [Int.tdiv_eq_ediv_of_nonneg h.1]
  have e : IntKind.u64.wrap n / 2 ^ (8 * j) / 256 = IntKind.u64.wrap n / 2 ^ (8 * (j + 1)) := by
    rw [Int.ediv_ediv_of_nonneg (by have := pow_pos' (8 * j); omega), show 8 * (j + 1) = 8 * j + 8 by omega, Int.pow_add]; rfl
  rw [e, IntKind.wrap_u64 (IntKind.u64.wrap n / 2 ^ (8 * (j + 1)))]
  omega

theorem byte_at (n : Int) (j : Nat) : (IntKind.u64.wrap n / 2 ^ (8 * j)).tmod 256 % 256 = byteOf n j := by
  have h := u64_nonneg' n (8 * j)
  rw [Int.tmod_eq_emod_of_nonneg h.1]
  unfold byteOf
  omega

theorem pre_step (s : ByteArray) (a j : Nat) (n : Int) : (⟨(pre s a j n).toArray⟩ : ByteArray) ++ ⟨#[UInt8.ofNat ((IntKind.u64.wrap n / 2 ^ (8 * j)).tmod 256 % 256).toNat]⟩ = ⟨(pre s a (j + 1) n).toArray⟩ := by
  rw [byte_at, show (#[UInt8.ofNat (byteOf n j).toNat] : Array UInt8) = [UInt8.ofNat (byteOf n j).toNat].toArray from rfl, ByteArray.mk_append_mk]
  simp [pre, byteL, List.range_succ]

theorem pre_all (s : ByteArray) (a k : Nat) (n : Int) (h : a + k ≤ s.size) : (⟨(pre s a k n).toArray⟩ : ByteArray) ++ s.extract (a + k) s.size = ⟨(putL s a k n).toArray⟩ := by
  have hl : s.data.toList.length = s.size := by simp
  have e : s.extract (a + k) s.size = ⟨(s.data.toList.drop (a + k)).toArray⟩ := by
    apply ByteArray.ext
    rw [ByteArray.data_extract]
    apply Array.ext'
    simp
    rw [List.take_of_length_le (by simp)]
  rw [e, ByteArray.mk_append_mk]
  congr 2
  apply List.ext_getElem
  · simp [pre, byteL, putL]; omega
  · intro j h1 h2
    have hj : j < s.size := by simpa [putL] using h2
    simp only [pre, byteL, putL, List.getElem_map, List.getElem_range, List.getElem_append, List.length_append, List.length_take, List.length_map, List.length_range, List.getElem_take, List.getElem_drop, hl]
    unfold mixed
    by_cases c1 : j < a
    · rw [dif_pos (by omega), dif_pos (by omega), if_neg (by omega), dif_pos hj]
      simp; rfl
    · by_cases c2 : j < a + k
      · rw [dif_pos (by omega), dif_neg (by omega), if_pos (by omega)]
        congr 3; omega
      · rw [dif_neg (by omega), if_neg (by omega), dif_pos hj]
        simp
        congr 1; omega

theorem ret_sb {x y : ByteArray} (h : x = y) : Ending.returned (.tuple #[.string x, .bool true]) = .returned (.tuple #[.string y, .bool true]) := by rw [h]

set_option maxHeartbeats 400000 in
theorem rput_yes (s : ByteArray) (a k : Nat) (n : Int) (w : World) (hs : s.size ≤ 1000) (h1 : a + k ≤ s.size) (h8 : k < 8) (hf : fieldB s.size a k = true)
    (hn1 : -9223372036854775808 ≤ n) (hn2 : n ≤ 9223372036854775807) (g1 : wrap64 ((wrap64 (-256 ^ k)).tdiv 2) ≤ n) (g2 : n < 256 ^ k) :
    Calls Try.prog 91 #[.string s, .int .i64 a, .int .i64 k, .int .i64 n] w fun e w' => e = .returned (.tuple #[.string ⟨(putL s a k n).toArray⟩, .bool true]) ∧ Below w.heap.size w w' := by
    go_enter Try.func91, Try.ntmps91
    go_wp2_with (first | (go_at_call 77; refine (rfield_any _ _ _ _ (by unfold maxLen; omega)).mono ?_; rintro e w' ⟨rfl, rfl⟩; simp only [hf]))
    go_loop [10, 11] (fun v i => ∃ q : Nat, q ≤ k ∧ i = .int .i64 q ∧ v = .int .i64 ((256 ^ q : Nat) : Int)) (fun _ i => k - (intOf i).toNat)
    case atStart => exact ⟨0, Nat.zero_le _, rfl, rfl⟩
    case round =>
      obtain ⟨q, hq, rfl, rfl⟩ := hrel
      by_cases hqt : q < k
      · go_wp2
        go_round
        case rel => exact ⟨q + 1, by omega, by go_num, by rw [mul_round q (by omega)]⟩
        case measure => simp [intOf]; omega
      · obtain rfl : q = k := by omega
        go_wp2
        go_loopw [12, 13, 14] (fun m o i wr => ∃ j : Nat, j ≤ q ∧ i = .int .i64 j ∧ (∃ x : ByteArray, x.size ≤ 2000 ∧ m = .int .u64 (IntKind.u64.wrap n / 2 ^ (8 * j)) ∧ o = .string x ∧ x = ⟨(pre s a j n).toArray⟩) ∧ Below w.heap.size w wr) (fun _ _ i _ => q - (intOf i).toNat)
        case atStart => exact ⟨0, Nat.zero_le _, rfl, ⟨_, by simp; omega, by simp, rfl, extract_pre s a n⟩, by go_grown⟩
        case round =>
          obtain ⟨j, hj, rfl, ⟨x, hx, rfl, rfl, hpre⟩, hb⟩ := hrel
          have HPRE := Lib.hid hpre
          clear hpre
          by_cases hlt : j < q
          · have hcv := one_byte wr ((IntKind.u64.wrap n / 2 ^ (8 * j)).tmod 256 % 256) (by omega) (by omega)
            go_wp2
            go_roundw
            case rel => exact ⟨j + 1, by omega, by go_num, ⟨_, by rw [HPRE.out]; exact pre_size s a j n (by omega) _, by rw [next_m], rfl, by rw [HPRE.out]; exact pre_step s a j n⟩, hb.alloc hb.size _⟩
            case measure => simp [intOf]; omega
          · obtain rfl : j = q := by omega
            go_wp2
            go_ret2
            exact ⟨ret_sb (by rw [HPRE.out]; exact pre_all s a j n h1), hb⟩

set_option maxHeartbeats 400000 in
theorem rput_8 (s : ByteArray) (a k : Nat) (n : Int) (w : World) (hs : s.size ≤ 1000) (h1 : a + k ≤ s.size) (h8 : 8 ≤ k) (h9 : k ≤ 8) (hf : fieldB s.size a k = true)
    (hn1 : -9223372036854775808 ≤ n) (hn2 : n ≤ 9223372036854775807) :
    Calls Try.prog 91 #[.string s, .int .i64 a, .int .i64 k, .int .i64 n] w fun e w' => e = .returned (.tuple #[.string ⟨(putL s a k n).toArray⟩, .bool true]) ∧ Below w.heap.size w w' := by
    go_enter Try.func91, Try.ntmps91
    go_wp2_with (first | (go_at_call 77; refine (rfield_any _ _ _ _ (by unfold maxLen; omega)).mono ?_; rintro e w' ⟨rfl, rfl⟩; simp only [hf]))
    go_loopw [12, 13, 14] (fun m o i wr => ∃ j : Nat, j ≤ k ∧ i = .int .i64 j ∧ (∃ x : ByteArray, x.size ≤ 2000 ∧ m = .int .u64 (IntKind.u64.wrap n / 2 ^ (8 * j)) ∧ o = .string x ∧ x = ⟨(pre s a j n).toArray⟩) ∧ Below w.heap.size w wr) (fun _ _ i _ => k - (intOf i).toNat)
    case atStart => exact ⟨0, Nat.zero_le _, rfl, ⟨_, by simp; omega, by simp, rfl, extract_pre s a n⟩, by go_grown⟩
    case round =>
      obtain ⟨j, hj, rfl, ⟨x, hx, rfl, rfl, hpre⟩, hb⟩ := hrel
      have HPRE := Lib.hid hpre
      clear hpre
      by_cases hlt : j < k
      · have hcv := one_byte wr ((IntKind.u64.wrap n / 2 ^ (8 * j)).tmod 256 % 256) (by omega) (by omega)
        go_wp2
        go_roundw
        case rel => exact ⟨j + 1, by omega, by go_num, ⟨_, by rw [HPRE.out]; exact pre_size s a j n (by omega) _, by rw [next_m], rfl, by rw [HPRE.out]; exact pre_step s a j n⟩, hb.alloc hb.size _⟩
        case measure => simp [intOf]; omega
      · obtain rfl : j = k := by omega
        go_wp2
        go_ret2
        exact ⟨ret_sb (by rw [HPRE.out]; exact pre_all s a j n h1), hb⟩

theorem ok_8 (s : ByteArray) (a n : Int) (hf : fieldB s.size a 8 = true) (hn1 : -9223372036854775808 ≤ n) (hn2 : n ≤ 9223372036854775807) : putOk s a 8 n = true := by
  simp [putOk, hf, fitsB]
  omega

theorem ok_k (s : ByteArray) (a : Int) (k : Nat) (n : Int) (hf : fieldB s.size a k = true) (hk : k = 1 ∨ k = 2 ∨ k = 4) :
    putOk s a k n = true ↔ wrap64 ((wrap64 (-256 ^ k)).tdiv 2) ≤ n ∧ n < 256 ^ k := by
  simp only [putOk, hf, Bool.true_and]
  rcases hk with rfl | rfl | rfl
  all_goals (simp [fitsB, wrap64]; omega)

set_option maxHeartbeats 400000 in
theorem rput_nof (s : ByteArray) (a k : Int) (n : Int) (w : World) (hs : s.size ≤ 1000) (hf : fieldB s.size a k = false) :
    Calls Try.prog 91 #[.string s, .int .i64 a, .int .i64 k, .int .i64 n] w fun e w' => e = .returned (.tuple #[.string ByteArray.empty, .bool false]) ∧ Below w.heap.size w w' := by
    go_enter Try.func91, Try.ntmps91
    go_wp2_with (first | (go_at_call 77; refine (rfield_any _ _ _ _ (by unfold maxLen; omega)).mono ?_; rintro e w' ⟨rfl, rfl⟩; simp only [hf]))
    go_ret2
    exact ⟨rfl, Below.refl _ _⟩

set_option maxHeartbeats 400000 in
theorem rput_nok (s : ByteArray) (a k : Nat) (n : Int) (w : World) (hs : s.size ≤ 1000) (h1 : a + k ≤ s.size) (h8 : k < 8) (hf : fieldB s.size a k = true)
    (g : ¬ (wrap64 ((wrap64 (-256 ^ k)).tdiv 2) ≤ n ∧ n < 256 ^ k)) :
    Calls Try.prog 91 #[.string s, .int .i64 a, .int .i64 k, .int .i64 n] w fun e w' => e = .returned (.tuple #[.string ByteArray.empty, .bool false]) ∧ Below w.heap.size w w' := by
    go_enter Try.func91, Try.ntmps91
    go_wp2_with (first | (go_at_call 77; refine (rfield_any _ _ _ _ (by unfold maxLen; omega)).mono ?_; rintro e w' ⟨rfl, rfl⟩; simp only [hf]))
    go_loop [10, 11] (fun v i => ∃ q : Nat, q ≤ k ∧ i = .int .i64 q ∧ v = .int .i64 ((256 ^ q : Nat) : Int)) (fun _ i => k - (intOf i).toNat)
    case atStart => exact ⟨0, Nat.zero_le _, rfl, rfl⟩
    case round =>
      obtain ⟨q, hq, rfl, rfl⟩ := hrel
      by_cases hqt : q < k
      · go_wp2
        go_round
        case rel => exact ⟨q + 1, by omega, by go_num, by rw [mul_round q (by omega)]⟩
        case measure => simp [intOf]; omega
      · obtain rfl : q = k := by omega
        go_wp2
        all_goals (first | (go_ret2; exact ⟨rfl, Below.refl _ _⟩) | (exact absurd (by assumption) g))

theorem rput_any (s : ByteArray) (a k n : Int) (w : World) (hs : s.size ≤ 1000) (hn1 : -9223372036854775808 ≤ n) (hn2 : n ≤ 9223372036854775807) :
    Calls Try.prog 91 #[.string s, .int .i64 a, .int .i64 k, .int .i64 n] w fun e w' => e = .returned (.tuple #[.string (putS s a k n), .bool (putOk s a k n)]) ∧ Below w.heap.size w w' := by
  by_cases hf : fieldB s.size a k = true
  · obtain ⟨h1, h2, h3⟩ := fieldB_iff.1 hf
    obtain ⟨a, rfl⟩ := Int.eq_ofNat_of_zero_le h2
    obtain ⟨k, rfl⟩ := Int.eq_ofNat_of_zero_le (show 0 ≤ k by omega)
    by_cases h8 : k < 8
    · have hk := ok_k s a k n hf (by omega)
      by_cases g : wrap64 ((wrap64 (-256 ^ k)).tdiv 2) ≤ n ∧ n < 256 ^ k
      · rw [putS, if_pos (hk.2 g), hk.2 g]
        exact rput_yes s a k n w hs (by omega) h8 hf hn1 hn2 g.1 g.2
      · have g' : putOk s a k n = false := by simpa using fun e => g (hk.1 e)
        rw [putS, if_neg (by rw [g']; decide), g']
        exact rput_nok s a k n w hs (by omega) h8 hf g
    · obtain rfl : k = 8 := by omega
      have g := ok_8 s a n hf hn1 hn2
      rw [putS, if_pos (by exact g), show putOk s a ((8 : Nat) : Int) n = true from g]
      exact rput_8 s a 8 n w hs (by omega) (by decide) (by decide) hf hn1 hn2
  · have hf' : fieldB s.size a k = false := by simpa using hf
    have g' : putOk s a k n = false := by simp [putOk, hf']
    rw [putS, if_neg (by rw [g']; decide), g']
    exact rput_nof s a k n w hs hf'

end Go.Proofs.Ytmcdfhihfcfbaaa.Wd

/-
  Plain laws of fields of little-endian bytes: what is written is read again, what is read is written back. No program.
-/
namespace Go.Proofs.Ytmcdfhihfcfbaaa.Wd
open Go.Proofs.Ytmcdfhihfcfbaaa.W
open Go.RowKit
set_option linter.unusedVariables false

theorem byteOf_nat (n : Int) (k U : Nat) (hU : IntKind.u64.wrap n = (U : Int)) : byteOf n k = ((U / 256 ^ k % 256 : Nat) : Int) := by
  unfold byteOf
  rw [hU, show (256 : Nat) ^ k = 2 ^ (8 * k) by rw [show (256 : Nat) = 2 ^ 8 from rfl, ← Nat.pow_mul]]
  rw [Int.natCast_emod, Int.natCast_ediv, Int.natCast_pow]
  rfl

theorem byte_back (x : Nat) (h : x < 256) : (UInt8.ofNat (((x : Nat) : Int)).toNat).toNat = x := by
  rw [Int.toNat_natCast]
  exact UInt8.toNat_ofNat_of_lt (by simpa using h)

theorem le_byteL (n : Int) (k : Nat) : le (byteL n k) = (IntKind.u64.wrap n).toNat % 256 ^ k := by
  have h0 : 0 ≤ IntKind.u64.wrap n := by rw [IntKind.wrap_u64]; omega
  obtain ⟨U, hU⟩ := Int.eq_ofNat_of_zero_le h0
  rw [hU, Int.toNat_natCast]
  induction k with
  | zero => simp [byteL, le, Nat.mod_one]
  | succ k ih =>
    have e : byteL n (k + 1) = byteL n k ++ [UInt8.ofNat (byteOf n k).toNat] := by simp [byteL, List.range_succ]
    have hl : (byteL n k).length = k := by simp [byteL]
    rw [e, le_snoc, ih, hl, Nat.pow_succ, Nat.mod_mul, byteOf_nat n k U hU, byte_back _ (Nat.mod_lt _ (by decide))]

theorem le_inj : ∀ (l r : List UInt8), l.length = r.length → le l = le r → l = r
  | [], [], _, _ => rfl
  | [], b :: r, h, _ => by simp at h
  | a :: l, [], h, _ => by simp at h
  | a :: l, b :: r, h, e => by
    have h1 := a.toNat_lt
    have h2 := b.toNat_lt
    simp only [le] at e
    have : a.toNat = b.toNat := by omega
    have hab : a = b := UInt8.toNat_inj.1 this
    rw [hab, le_inj l r (by simpa using h) (by omega)]

theorem putL_eq (s : ByteArray) (a k : Nat) (n : Int) (h : a + k ≤ s.size) : putL s a k n = s.data.toList.take a ++ byteL n k ++ s.data.toList.drop (a + k) := by
  have hl : s.data.toList.length = s.size := by simp
  have e := pre_all s a k n h
  have e2 : s.extract (a + k) s.size = ⟨(s.data.toList.drop (a + k)).toArray⟩ := by
    apply ByteArray.ext
    rw [ByteArray.data_extract]
    apply Array.ext'
    simp
    rw [List.take_of_length_le (by simp)]
  rw [e2, ByteArray.mk_append_mk] at e
  have := congrArg (fun x : ByteArray => x.data.toList) e
  simpa [pre] using this.symm

theorem cut_put (s : ByteArray) (a k : Nat) (n : Int) (h : a + k ≤ s.size) : cut ⟨(putL s a k n).toArray⟩ a k = byteL n k := by
  have hl : s.data.toList.length = s.size := by simp
  unfold cut
  rw [show (⟨(putL s a k n).toArray⟩ : ByteArray).data.toList = putL s a k n from rfl, putL_eq s a k n h, List.append_assoc, List.drop_append_of_le_length (by simp; omega)]
  rw [List.drop_of_length_le (by simp; omega), List.nil_append, List.take_append_of_le_length (by simp [byteL]), List.take_of_length_le (by simp [byteL])]

theorem put_size (s : ByteArray) (a k : Nat) (n : Int) : (⟨(putL s a k n).toArray⟩ : ByteArray).size = s.size := by
  show (putL s a k n).toArray.size = s.size
  rw [List.size_toArray, putL_len]

theorem ok_iff {s : ByteArray} {a k n : Int} (h : putOk s a k n = true) : fieldB s.size a k = true ∧ (fitsB n (8 * k) false = true ∨ fitsB n (8 * k) true = true) := by
  simpa [putOk] using h

/-- what fits comes back from its residue -/
theorem get_back (n : Int) (k : Nat) (hk : k = 1 ∨ k = 2 ∨ k = 4 ∨ k = 8) (h1 : -9223372036854775808 ≤ n) (h2 : n ≤ 9223372036854775807)
    (hf : fitsB n (8 * k) false = true ∨ fitsB n (8 * k) true = true) : getI ((IntKind.u64.wrap n).toNat % 256 ^ k) k (decide (n < 0)) = n := by
  have h0 : (IntKind.u64.wrap n).toNat = (n % 18446744073709551616).toNat := by rw [IntKind.wrap_u64]
  rw [h0]
  rcases hk with rfl | rfl | rfl | rfl <;> simp [fitsB] at hf <;> simp [getI] <;> (try split) <;> omega

theorem back_put {s : ByteArray} {a k n : Int} (hs : s.size ≤ maxLen) (h1 : -9223372036854775808 ≤ n) (h2 : n ≤ 9223372036854775807) (h : putOk s a k n = true) :
    getP (putS s a k n) a k (decide (n < 0)) = (n, true) ∧ (putS s a k n).size = s.size := by
  obtain ⟨hf, hF⟩ := ok_iff h
  obtain ⟨k1, k2, k3⟩ := fieldB_iff.1 hf
  obtain ⟨a, rfl⟩ := Int.eq_ofNat_of_zero_le k2
  obtain ⟨k, rfl⟩ := Int.eq_ofNat_of_zero_le (show 0 ≤ k by omega)
  have e : putS s a k n = ⟨(putL s a k n).toArray⟩ := by rw [putS, if_pos h]; simp
  have hz := put_size s a k n
  rw [e]
  refine ⟨?_, hz⟩
  rw [getP, hz, if_pos hf]
  simp only [Int.toNat_natCast]
  rw [cut_put s a k n (by omega), le_byteL, get_back n k (by omega) h1 h2 hF]

theorem getI_bd (U k : Nat) (sg : Bool) (hU : U < 256 ^ k) (hk : k = 1 ∨ k = 2 ∨ k = 4 ∨ k = 8) :
    -9223372036854775808 ≤ getI U k sg ∧ getI U k sg ≤ 9223372036854775807 ∧ fitsB (getI U k sg) (8 * k) (sg || k == 8) = true ∧ (IntKind.u64.wrap (getI U k sg)).toNat % 256 ^ k = U := by
  rw [IntKind.wrap_u64]
  cases sg <;> rcases hk with rfl | rfl | rfl | rfl <;> simp [getI, fitsB] <;> (try split) <;> (try simp) <;> omega

theorem fits_or {n b : Int} {sg : Bool} (h : fitsB n b sg = true) : fitsB n b false = true ∨ fitsB n b true = true := by
  cases sg
  · exact .inl h
  · exact .inr h

theorem put_back {s : ByteArray} {a k : Int} {sg : Bool} (hf : fieldB s.size a k = true) :
    putOk s a k (getP s a k sg).1 = true ∧ putS s a k (getP s a k sg).1 = s ∧ -9223372036854775808 ≤ (getP s a k sg).1 ∧ (getP s a k sg).1 ≤ 9223372036854775807 ∧ fitsB (getP s a k sg).1 (8 * k) (sg || k == 8) = true := by
  obtain ⟨k1, k2, k3⟩ := fieldB_iff.1 hf
  obtain ⟨a, rfl⟩ := Int.eq_ofNat_of_zero_le k2
  obtain ⟨k, rfl⟩ := Int.eq_ofNat_of_zero_le (show 0 ≤ k by omega)
  have hU := le_lt (cut s a k)
  rw [cut_length s a k (by omega)] at hU
  obtain ⟨b1, b2, b3, b4⟩ := getI_bd (le (cut s a k)) k sg hU (by omega)
  have e : (getP s a k sg).1 = getI (le (cut s a k)) k sg := by rw [getP, if_pos hf]; simp
  rw [e]
  have ek : ((k : Int) == 8) = (k == 8) := by rw [Bool.eq_iff_iff]; simp; omega
  have hok : putOk s a k (getI (le (cut s a k)) k sg) = true := by
    rcases fits_or b3 with h | h <;> simp [putOk, hf, h]
  refine ⟨hok, ?_, b1, b2, by rw [ek]; exact b3⟩
  rw [putS, if_pos hok]
  simp only [Int.toNat_natCast]
  have hbl : byteL (getI (le (cut s a k)) k sg) k = cut s a k := by
    apply le_inj
    · rw [cut_length s a k (by omega)]; simp [byteL]
    · rw [le_byteL, b4]
  rw [putL_eq s a k _ (by omega), hbl]
  apply ByteArray.ext
  apply Array.ext'
  simp only [cut]
  rw [List.append_assoc, show a + k = a + k from rfl, ← List.drop_drop, List.take_append_drop, List.take_append_drop]

theorem put_parts {s : ByteArray} {a k : Nat} {n : Int} (h : a + k ≤ s.size) :
    (⟨(putL s a k n).toArray⟩ : ByteArray).extract 0 a = s.extract 0 a ∧ (⟨(putL s a k n).toArray⟩ : ByteArray).extract (a + k) s.size = s.extract (a + k) s.size := by
  have hl : s.data.toList.length = s.size := by simp
  have hb : (byteL n k).length = k := by simp [byteL]
  have ht : (s.data.toList.take a).length = a := by rw [List.length_take]; omega
  constructor <;> apply ByteArray.ext <;> apply Array.ext' <;> rw [Lib.extract_data, Lib.extract_data, show (⟨(putL s a k n).toArray⟩ : ByteArray).data.toList = putL s a k n from rfl, putL_eq s a k n h]
  · rw [List.drop_zero, List.drop_zero, Nat.sub_zero, List.append_assoc, List.take_append_of_le_length (by omega), List.take_of_length_le (by omega)]
  · congr 1
    rw [List.drop_append, List.drop_of_length_le (by rw [List.length_append]; omega), List.nil_append, List.length_append, ht, hb, Nat.sub_self, List.drop_zero]

theorem le_append (l r : List UInt8) : le (l ++ r) = le l + 256 ^ l.length * le r := by
  induction l with
  | nil => simp [le]
  | cons x l ih => simp only [List.cons_append, le, ih, List.length_cons, Nat.pow_succ]; rw [Nat.mul_add, ← Nat.mul_assoc, Nat.mul_comm 256 (256 ^ l.length)]; omega

theorem cut_add (s : ByteArray) (a j k : Nat) : cut s a (j + k) = cut s a j ++ cut s (a + j) k := by
  unfold cut
  rw [List.take_add, List.drop_drop]

end Go.Proofs.Ytmcdfhihfcfbaaa.Wd
