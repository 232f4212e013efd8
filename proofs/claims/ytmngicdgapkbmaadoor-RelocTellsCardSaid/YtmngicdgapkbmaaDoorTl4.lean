/-
  The walks of the reference's Read and Write.
-/
import Derived.Test.YtmngicdgapkbmaaDoorTl1
import Derived.Test.YtmngicdgapkbmaaDoorTl3
import Derived.Test.YtmngicdgapkbmaaDoorRop
import Derived.Test.YtmngicdgapkbmaaDoorBk
namespace Go.Proofs.YtmngicdgapkbmaaDoor.W
open Go.RowKit
set_option linter.unusedVariables false

theorem offI_le (k : Int) : 0 ≤ offI k ∧ offI k ≤ 8 ∧ 0 ≤ sizeI k ∧ sizeI k ≤ 8 := by
  rcases isk_cases k with rfl | rfl | rfl | rfl | rfl | rfl | rfl | rfl | rfl | rfl | rfl | rfl | rfl | hk
  case inr.inr.inr.inr.inr.inr.inr.inr.inr.inr.inr.inr.inr => unfold offI sizeI; rw [hk]; simp
  all_goals decide

set_option maxHeartbeats 2000000 in
theorem rread15_any (s : ByteArray) (x k : Int) (w : World) (hs : s.size ≤ 1000) (hx : i64R x) :
    Calls Tryd.prog 22 #[.string s, .int .i64 x, .int .i64 k] w fun e w' => e = .returned (.tuple #[.int .i64 (read15 s x k).1, .bool (read15 s x k).2]) ∧ w = w' := by
  have HW := Hd.mk (rwidth_any k w)
  have hz := size_zero k
  have ho := offI_le k
  have hsz : (s.size : Int) ≤ 1000 := by omega
  rcases hk : isK k with _ | _
  · have e : Hd (read15 s x k = (0, false)) := ⟨by unfold read15 readOk; rw [hk]; rfl⟩
    rw [e.out]
    rw [hk] at hz
    have hz : (sizeI k == 0) = true := hz
    obtain ⟨o, hoo⟩ : ∃ o, offI k = o := ⟨_, rfl⟩
    obtain ⟨z, hzz⟩ : ∃ z, sizeI k = z := ⟨_, rfl⟩
    rw [hoo, hzz] at HW
    rw [hzz] at hz
    clear hx hs hk hoo hzz ho
    go_enter Tryd.func22, Tryd.ntmps22
    go_wp2_with fail
    refine HW.out.mono ?_; rintro e w1 ⟨rfl, rfl⟩
    go_wp2
    go_ret2
    exact ⟨rfl, rfl⟩
  · rw [hk] at hz
    have hz : (sizeI k == 0) = false := hz
    by_cases hin : 0 ≤ x ∧ x ≤ s.size
    · have e : Hd (read15 s x k = getP s (x + offI k) (sizeI k) (!decide (k = 3))) := ⟨by
        unfold read15 readOk; rw [hk, decide_eq_true hin]; rfl⟩
      rw [e.out]
      have t1 : ¬ x < 0 := by omega
      have t2 : ¬ (s.size : Int) < x := by omega
      have hr : IntKind.i64.wrap (x + offI k) = x + offI k := IntWalk.i64_in _ (by omega)
      have HG := Hd.mk (rget_any s (x + offI k) (sizeI k) (!decide (k = 3)) w (by unfold maxLen; omega))
      have hb : (k != 3) = !decide (k = 3) := rfl
      obtain ⟨o, hoo⟩ : ∃ o, offI k = o := ⟨_, rfl⟩
      obtain ⟨z, hzz⟩ : ∃ z, sizeI k = z := ⟨_, rfl⟩
      obtain ⟨b, hbb⟩ : ∃ b, (!decide (k = 3)) = b := ⟨_, rfl⟩
      rw [hoo, hzz] at HW
      rw [hzz] at hz
      rw [hoo] at hr
      rw [hbb] at hb
      rw [hoo, hzz, hbb] at HG ⊢
      clear hx hs hk hoo hzz ho hbb e hin
      go_enter Tryd.func22, Tryd.ntmps22
      go_wp2_with fail
      refine HW.out.mono ?_; rintro e w1 ⟨rfl, rfl⟩
      go_wp2_with fail
      refine HG.out.mono ?_; rintro e w1 ⟨rfl, rfl⟩
      go_wp2
      go_ret2
      exact ⟨rfl, rfl⟩
    · have e : Hd (read15 s x k = (0, false)) := ⟨by unfold read15 readOk; rw [hk, decide_eq_false hin]; rfl⟩
      rw [e.out]
      have hor : x < 0 ∨ (¬ x < 0 ∧ (s.size : Int) < x) := by omega
      obtain ⟨o, hoo⟩ : ∃ o, offI k = o := ⟨_, rfl⟩
      obtain ⟨z, hzz⟩ : ∃ z, sizeI k = z := ⟨_, rfl⟩
      rw [hoo, hzz] at HW
      rw [hzz] at hz
      clear hx hs hk hoo hzz ho hin
      rcases hor with h | ⟨h, h'⟩
      all_goals
        go_enter Tryd.func22, Tryd.ntmps22
        go_wp2_with fail
        refine HW.out.mono ?_; rintro e w1 ⟨rfl, rfl⟩
        go_wp2
        go_ret2
        exact ⟨rfl, rfl⟩

/-- what the reference's Write answers where something may be written -/
def rwOut (s : ByteArray) (n : Nat) (k v : Int) : ByteArray := ⟨(putL s (n + (offI k).toNat) (sizeI k).toNat v).toArray⟩

theorem rwrite_law {s : ByteArray} {n : Nat} {k v : Int} (hv : i64R v) (hf : fits15 k v = true) (hn : n ≤ s.size) :
    (¬ offI k + sizeI k ≤ s.size - (n : Int) → write15 s n k v = (⟨#[]⟩, false)) ∧
    (offI k + sizeI k ≤ s.size - (n : Int) → (rwOut s n k v).size = s.size ∧ (offI k = 0 → write15 s n k v = (rwOut s n k v, true)) ∧
      (offI k ≠ 0 → write15 s n k v = if decB (rwOut s n k v) n && ropB k (byteAt (rwOut s n k v) n) then (rwOut s n k v, true) else (⟨#[]⟩, false))) := by
  have hk := fits_isK hf
  have hp : wPre s n k v = true := by unfold wPre; rw [hf, decide_eq_true (by omega)]; rfl
  have hz' := (fit_law hv hk).z
  have ho := offI_le k
  obtain ⟨hok, hg⟩ := ok_fits hv hk hf s ((n : Int) + offI k)
  constructor
  · intro h
    exact back_no hv hk (by unfold canB; rw [hp, decide_eq_false h]; rfl)
  · intro h
    have hF : fieldB s.size ((n : Int) + offI k) (sizeI k) = true := by rw [fieldB_iff]; omega
    rw [hF] at hok
    have eo : wOut s n k v = rwOut s n k v := by
      unfold wOut rwOut
      rw [putS, if_pos hok, show ((n : Int) + offI k).toNat = n + (offI k).toNat by omega]
    have hcode : (offI k == 4) = code15 k := by
      rcases isk_cases k with rfl | rfl | rfl | rfl | rfl | rfl | rfl | rfl | rfl | rfl | rfl | rfl | rfl | hk'
      case inr.inr.inr.inr.inr.inr.inr.inr.inr.inr.inr.inr.inr => rw [hk] at hk'; cases hk'
      all_goals rfl
    refine ⟨put_size _ _ _ _, fun h0 => ?_, fun h0 => ?_⟩
    · have : code15 k = false := by rw [← hcode, h0]; rfl
      unfold write15
      rw [if_pos hp, this, Bool.and_false, if_neg (by decide), eo]
      unfold wOk; rw [hok]
    · have : code15 k = true := by
        rw [← hcode]
        rcases isk_cases k with rfl | rfl | rfl | rfl | rfl | rfl | rfl | rfl | rfl | rfl | rfl | rfl | rfl | hk'
        case inr.inr.inr.inr.inr.inr.inr.inr.inr.inr.inr.inr.inr => rw [hk] at hk'; cases hk'
        all_goals (first | rfl | exact absurd rfl h0 | exact absurd (by decide) h0)
      unfold write15
      rw [if_pos hp, this]
      unfold wOk
      rw [hok]
      have hi : wIns s n k v = (decB (rwOut s n k v) n && ropB k (byteAt (rwOut s n k v) n)) := by
        unfold wIns ropB
        rw [eo, hk, Int.toNat_natCast]
        rcases hd : decB (rwOut s n k v) n with _ | _
        · rfl
        · have h8 : 8 ≤ (s.size : Int) - n := by
            unfold decB at hd
            simp only [Bool.and_eq_true, decide_eq_true_eq] at hd
            have : (rwOut s n k v).size = s.size := put_size _ _ _ _
            omega
          rw [decide_eq_true h8]
      rw [hi, eo]; rfl

theorem byteOf_small (v : Int) (j : Nat) (h : j < 8) : byteOf v j = (v / 256 ^ j) % 256 := by
  unfold byteOf
  rw [IntKind.wrap_u64]
  rcases (by omega : j = 0 ∨ j = 1 ∨ j = 2 ∨ j = 3 ∨ j = 4 ∨ j = 5 ∨ j = 6 ∨ j = 7) with rfl | rfl | rfl | rfl | rfl | rfl | rfl | rfl <;> (simp; try omega)

theorem i64_and_255 (x : Int) : bits .and .i64 x 255 = x % 256 := by
  show IntKind.i64.wrap ((BitVec.ofInt 64 x &&& BitVec.ofInt 64 255).toNat : Int) = _
  have e : (BitVec.ofInt 64 x &&& BitVec.ofInt 64 255).toNat = (BitVec.ofInt 64 x).toNat % 256 := by
    rw [BitVec.toNat_and, show (BitVec.ofInt 64 255).toNat = 2 ^ 8 - 1 from rfl, Nat.and_two_pow_sub_one_eq_mod]
  have e2 : ((BitVec.ofInt 64 x).toNat : Int) = x % 18446744073709551616 := by
    rw [BitVec.toNat_ofInt]; omega
  rw [e]
  have : ((((BitVec.ofInt 64 x).toNat % 256 : Nat)) : Int) = x % 256 := by omega
  rw [this]
  exact IntWalk.i64_in _ (by omega)

/-- the row that []byte(s) makes -/
theorem start1 (w : World) (s : ByteArray) (a cap : Nat) (n : Int) (row : Array Value) (hrow : bytesRow s cap = row) :
    Cells (w.alloc (.cells row 5 (row.size, row.size + 1))) w.heap.size s a 0 n := by
  subst hrow
  intro j hj
  have h := bytesRow_at s cap j (by simpa using hj)
  have hsz : j < (bytesRow s cap).size := (Array.getElem?_eq_some_iff.1 h).1
  have e : mixed s a 0 n j = (s.data[j]'(by simpa using hj)).toNat := by
    unfold mixed; rw [if_neg (by omega), dif_pos hj]; rfl
  rw [e]
  have hb : (w.alloc (.cells (bytesRow s cap) 5 ((bytesRow s cap).size, (bytesRow s cap).size + 1))).heap[w.heap.size]? = some (.cells (bytesRow s cap) 5 ((bytesRow s cap).size, (bytesRow s cap).size + 1)) := by
    show (w.heap.push _)[w.heap.size]? = _
    simp
  constructor
  · simp only [World.cell?, hb]; simpa using h
  · simp only [World.frozen?, hb]; simp; omega

theorem cells_step1 {wr : World} {B : Nat} {s : ByteArray} {a k : Nat} {n : Int} (h : Cells wr B s a k n) (hk : a + k < s.size) :
    Cells (wr.setCell ⟨B, a + k, none⟩ (.int .u8 (byteOf n k))) B s a (k + 1) n := fun j hj => cells_step h hk j hj

theorem shr_step (v : Int) (j : Nat) : v / 256 ^ j / 256 = v / 256 ^ (j + 1) := by
  have hp : (0 : Int) ≤ 256 ^ j := by
    have : ((256 ^ j : Nat) : Int) = (256 : Int) ^ j := Int.natCast_pow 256 j
    rw [← this]; exact Int.natCast_nonneg _
  rw [Int.ediv_ediv_of_nonneg hp, Int.pow_succ]
theorem shr_range {v : Int} (hv : i64R v) (j : Nat) : i64R (v / 256 ^ j) := by
  have h1 : ((256 ^ j : Nat) : Int) = (256 : Int) ^ j := Int.natCast_pow 256 j
  have h2 : 0 < (256 ^ j : Nat) := Nat.pow_pos (by decide)
  obtain ⟨P, hP⟩ : ∃ P, (256 : Int) ^ j = P := ⟨_, rfl⟩
  have hp : (1 : Int) ≤ P := by rw [← hP, ← h1]; exact Int.ofNat_le.2 h2
  rw [hP]
  clear h1 h2 hP
  have h3 := Int.mul_le_mul_of_nonneg_left hp (show (0 : Int) ≤ 9223372036854775808 by decide)
  unfold i64R at *
  constructor
  · rw [Int.le_ediv_iff_mul_le (by omega), Int.neg_mul]
    omega
  · have := Int.ediv_lt_iff_lt_mul (a := v) (b := 9223372036854775808) (c := P) (by omega)
    omega

end Go.Proofs.YtmngicdgapkbmaaDoor.W
