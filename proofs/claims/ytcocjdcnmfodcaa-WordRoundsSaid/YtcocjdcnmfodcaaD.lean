/-
  The walks of Up, Down and Power. Condition: the number is an int.
-/
import Derived.Test.YtcocjdcnmfodcaaC
namespace Go.Proofs.Ytcocjdcnmfodcaa.W
open Go.RowKit

def okTo (n t : Int) : Bool := decide (1 ≤ t) && (decide (t ≤ 1099511627776) && (decide (-1152921504606846976 ≤ n) && decide (n ≤ 1152921504606846976)))
def downI (n t : Int) : Int := if okTo n t = true then n - n % t else n
def upI (n t : Int) : Int := if downI n t = n then n else downI n t + t

theorem okTo_iff {n t : Int} : okTo n t = true ↔ 1 ≤ t ∧ t ≤ 1099511627776 ∧ -1152921504606846976 ≤ n ∧ n ≤ 1152921504606846976 := by simp [okTo]

theorem tm (n t : Int) (ht : 1 ≤ t) : (n.tmod t = n % t ∨ n.tmod t = n % t - t) ∧ (0 ≤ n → 0 ≤ n.tmod t) ∧ (n < 0 → n.tmod t ≤ 0) ∧ 0 ≤ n % t ∧ n % t < t ∧ n.tdiv t * t = n - n.tmod t ∧ -t < n.tmod t ∧ n.tmod t < t := by
  have e1 := Int.emod_nonneg n (b := t) (by omega)
  have e2 := Int.emod_lt_of_pos n (b := t) (by omega)
  have e3 := Int.tmod_eq_emod (a := n) (b := t)
  have e4 := Int.mul_tdiv_add_tmod n t
  rw [Int.mul_comm] at e4
  refine ⟨?_, fun h => Int.tmod_nonneg t h, fun h => ?_, e1, e2, by omega, Int.lt_tmod_of_pos n (by omega), Int.tmod_lt_of_pos n (by omega)⟩
  · rw [e3]; split
    · exact .inl (by omega)
    · exact .inr (by omega)
  · have := Int.neg_tmod (a := n) (b := t)
    have := Int.tmod_nonneg (a := -n) t (by omega)
    omega

theorem tdiv_bd (n t B : Int) (h1 : -B ≤ n) (h2 : n ≤ B) : -B ≤ n.tdiv t ∧ n.tdiv t ≤ B := by
  have h : (n.tdiv t).natAbs ≤ n.natAbs := by rw [Int.natAbs_tdiv]; exact Nat.div_le_self _ _
  omega

set_option maxHeartbeats 400000 in
theorem down_any (n t : Int) (w : World) :
    Calls Try.prog 17 #[.int .i64 n, .int .i64 t] w fun e w' => e = .returned (.int .i64 (downI n t)) ∧ w = w' := by
  by_cases h : 1 ≤ t ∧ t ≤ 1099511627776 ∧ -1152921504606846976 ≤ n ∧ n ≤ 1152921504606846976
  · have HO := Lib.hid (show downI n t = n - n % t by rw [downI, if_pos (okTo_iff.2 h)])
    obtain ⟨h1, h2, h3, h4⟩ := h
    have m1 := Int.tmod_lt_of_pos n (b := t) (by omega)
    have m2 := Int.lt_tmod_of_pos n (b := t) (by omega)
    go_enter Try.func17, Try.ntmps17
    go_wp2
    all_goals go_ret
    all_goals rw [HO.out]
    all_goals refine ⟨ret_i ?_, rfl⟩
    all_goals (have := tm n t h1; omega)
  · have HO := Lib.hid (show downI n t = n by rw [downI, if_neg (by rw [okTo_iff]; exact h)])
    go_enter Try.func17, Try.ntmps17
    go_wp2
    all_goals go_ret
    all_goals rw [HO.out]
    all_goals exact ⟨rfl, rfl⟩

/-- the reference's two ways -/
theorem rdown_hi (n t : Int) (h1 : 1 ≤ t) (h2 : t ≤ 1099511627776) (h3 : -1152921504606846976 ≤ n) (h4 : n ≤ 1152921504606846976) (h : n < wrap64 (n.tdiv t * t)) :
    wrap64 (wrap64 (n.tdiv t - 1) * t) = n - n % t := by
  have a := tm n t h1
  have b := tdiv_bd n t 1152921504606846976 h3 h4
  have e : wrap64 (n.tdiv t - 1) = n.tdiv t - 1 := by unfold wrap64; omega
  rw [e, Int.sub_mul, a.2.2.2.2.2.1]
  rw [a.2.2.2.2.2.1] at h
  unfold wrap64 at *; omega

theorem rdown_lo (n t : Int) (h1 : 1 ≤ t) (h2 : t ≤ 1099511627776) (h3 : -1152921504606846976 ≤ n) (h4 : n ≤ 1152921504606846976) (h : wrap64 (n.tdiv t * t) ≤ n) :
    wrap64 (n.tdiv t * t) = n - n % t := by
  have a := tm n t h1
  have e := a.2.2.2.2.2.1
  rw [e] at h ⊢
  unfold wrap64 at *; omega

theorem up_eq (n t : Int) (h : 1 ≤ t ∧ t ≤ 1099511627776 ∧ -1152921504606846976 ≤ n ∧ n ≤ 1152921504606846976) : upI n t = if n % t = 0 then n else n - n % t + t := by
  have hd : downI n t = n - n % t := by rw [downI, if_pos (okTo_iff.2 h)]
  rw [upI, hd]
  by_cases h0 : n % t = 0
  · rw [if_pos (by omega), if_pos h0]
  · rw [if_neg (by omega), if_neg h0]

theorem rup_hi (n t : Int) (h1 : 1 ≤ t) (h2 : t ≤ 1099511627776) (h3 : -1152921504606846976 ≤ n) (h4 : n ≤ 1152921504606846976) (h : wrap64 (n.tdiv t * t) < n) :
    wrap64 (wrap64 (n.tdiv t + 1) * t) = upI n t := by
  have a := tm n t h1
  have b := tdiv_bd n t 1152921504606846976 h3 h4
  have e : wrap64 (n.tdiv t + 1) = n.tdiv t + 1 := by unfold wrap64; omega
  rw [up_eq n t ⟨h1, h2, h3, h4⟩]
  rw [e, Int.add_mul, a.2.2.2.2.2.1]
  rw [a.2.2.2.2.2.1] at h
  unfold wrap64 at *; split <;> omega

theorem rup_lo (n t : Int) (h1 : 1 ≤ t) (h2 : t ≤ 1099511627776) (h3 : -1152921504606846976 ≤ n) (h4 : n ≤ 1152921504606846976) (h : n ≤ wrap64 (n.tdiv t * t)) :
    wrap64 (n.tdiv t * t) = upI n t := by
  have a := tm n t h1
  rw [up_eq n t ⟨h1, h2, h3, h4⟩]
  have e := a.2.2.2.2.2.1
  rw [e] at h ⊢
  unfold wrap64 at *; split <;> omega

set_option maxHeartbeats 400000 in
theorem rdown_any (n t : Int) (w : World) :
    Calls Try.prog 18 #[.int .i64 n, .int .i64 t] w fun e w' => e = .returned (.int .i64 (downI n t)) ∧ w = w' := by
  by_cases h : 1 ≤ t ∧ t ≤ 1099511627776 ∧ -1152921504606846976 ≤ n ∧ n ≤ 1152921504606846976
  · have HO := Lib.hid (show downI n t = n - n % t by rw [downI, if_pos (okTo_iff.2 h)])
    obtain ⟨h1, h2, h3, h4⟩ := h
    go_enter Try.func18, Try.ntmps18
    go_wp2
    all_goals go_ret
    all_goals rw [HO.out]
    · exact ⟨ret_i (rdown_hi n t h1 h2 h3 h4 (by assumption)), rfl⟩
    · exact ⟨ret_i (rdown_lo n t h1 h2 h3 h4 (by assumption)), rfl⟩
  · have HO := Lib.hid (show downI n t = n by rw [downI, if_neg (by rw [okTo_iff]; exact h)])
    go_enter Try.func18, Try.ntmps18
    go_wp2
    all_goals go_ret
    all_goals rw [HO.out]
    all_goals exact ⟨rfl, rfl⟩

theorem up_off {n t : Int} (h : ¬ (1 ≤ t ∧ t ≤ 1099511627776 ∧ -1152921504606846976 ≤ n ∧ n ≤ 1152921504606846976)) : upI n t = n := by
  have hd : downI n t = n := by rw [downI, if_neg (by rw [okTo_iff]; exact h)]
  rw [upI, if_pos hd]

set_option maxHeartbeats 400000 in
theorem rup_any (n t : Int) (w : World) :
    Calls Try.prog 16 #[.int .i64 n, .int .i64 t] w fun e w' => e = .returned (.int .i64 (upI n t)) ∧ w = w' := by
  by_cases h : 1 ≤ t ∧ t ≤ 1099511627776 ∧ -1152921504606846976 ≤ n ∧ n ≤ 1152921504606846976
  · obtain ⟨h1, h2, h3, h4⟩ := h
    go_enter Try.func16, Try.ntmps16
    go_wp2
    all_goals go_ret
    · exact ⟨ret_i (rup_hi n t h1 h2 h3 h4 (by assumption)), rfl⟩
    · exact ⟨ret_i (rup_lo n t h1 h2 h3 h4 (by assumption)), rfl⟩
  · have HO := Lib.hid (up_off h)
    go_enter Try.func16, Try.ntmps16
    go_wp2
    all_goals go_ret
    all_goals rw [HO.out]
    all_goals exact ⟨rfl, rfl⟩

theorem down_bd (n t : Int) (h1 : -9223372036854775808 ≤ n) (h2 : n ≤ 9223372036854775807) (hne : downI n t ≠ n) :
    -9223372036854775808 ≤ downI n t + t ∧ downI n t + t ≤ 9223372036854775807 := by
  unfold downI at *
  split at hne
  · rename_i h
    rw [if_pos h]
    rw [okTo_iff] at h
    have := tm n t h.1
    omega
  · exact absurd rfl hne

set_option maxHeartbeats 400000 in
theorem up_any (n t : Int) (w : World) (h1 : -9223372036854775808 ≤ n) (h2 : n ≤ 9223372036854775807) :
    Calls Try.prog 15 #[.int .i64 n, .int .i64 t] w fun e w' => e = .returned (.int .i64 (upI n t)) ∧ w = w' := by
  by_cases h : downI n t = n
  · have HO := Lib.hid (show upI n t = n by rw [upI, if_pos h])
    have HD := Lib.hid h
    clear h
    go_enter Try.func15, Try.ntmps15
    go_wp2_with (go_at_call 17; refine (down_any _ _ _).mono ?_; rintro e w' ⟨rfl, rfl⟩; rw [HD.out])
    all_goals go_ret
    rw [HO.out]
    exact ⟨rfl, rfl⟩
  · have HO := Lib.hid (show upI n t = downI n t + t by rw [upI, if_neg h])
    have hb : (downI n t != n) = true := by rw [bne_iff_ne]; exact h
    have bd := down_bd n t h1 h2 h
    clear h
    go_enter Try.func15, Try.ntmps15
    go_wp2_with (go_at_call 17; refine (down_any _ _ _).mono ?_; rintro e w' ⟨rfl, rfl⟩)
    all_goals go_ret
    rw [HO.out]
    exact ⟨rfl, rfl⟩

def powB (n : Int) : Bool := n == 1 || n == 2 || n == 4 || n == 8 || n == 16 || n == 32 || n == 64 || n == 128 || n == 256

theorem pow_tab : ∀ m : Fin 257, m.val = 0 ∨ (bits BinOp.and IntKind.i64 (m.val : Int) ((m.val : Int) - 1) == 0) = powB m.val := by decide +kernel

theorem pow_in {n : Int} (h1 : 1 ≤ n) (h2 : n ≤ 256) : (bits BinOp.and IntKind.i64 n (n - 1) == 0) = powB n := by
  have := pow_tab ⟨n.toNat, by omega⟩
  simp only [Int.toNat_of_nonneg (show 0 ≤ n by omega)] at this
  rcases this with h | h
  · omega
  · exact h

theorem pow_out {n : Int} (h : n < 1 ∨ 256 < n) : false = powB n := by
  have : powB n ≠ true := by simp [powB]; omega
  simpa using this

set_option maxHeartbeats 400000 in
theorem power_any (n : Int) (w : World) :
    Calls Try.prog 19 #[.int .i64 n] w fun e w' => e = .returned (.bool (powB n)) ∧ w = w' := by
  go_enter Try.func19, Try.ntmps19
  go_wp2
  all_goals go_ret
  all_goals refine ⟨ret_b ?_, rfl⟩
  · exact pow_in (by assumption) (by assumption)
  · exact pow_out (by omega)
  · exact pow_out (by omega)

theorem pow9 (k : Nat) (h : k ≤ 8) : powB (2 ^ k) = true ∧ 2 * (2 : Int) ^ k = 2 ^ (k + 1) ∧ (2 : Int) ^ k ≤ 256 := by
  rcases (by omega : k = 0 ∨ k = 1 ∨ k = 2 ∨ k = 3 ∨ k = 4 ∨ k = 5 ∨ k = 6 ∨ k = 7 ∨ k = 8) with rfl | rfl | rfl | rfl | rfl | rfl | rfl | rfl | rfl <;> decide +kernel

def noneOf (n : Int) (k : Nat) : Prop := ∀ j : Nat, j < k → n ≠ 2 ^ j

theorem noneOf_all {n : Int} (h : noneOf n 9) : false = powB n := by
  have h0 := h 0 (by decide)
  have h1 := h 1 (by decide)
  have h2 := h 2 (by decide)
  have h3 := h 3 (by decide)
  have h4 := h 4 (by decide)
  have h5 := h 5 (by decide)
  have h6 := h 6 (by decide)
  have h7 := h 7 (by decide)
  have h8 := h 8 (by decide)
  have : powB n ≠ true := by simp [powB]; omega
  simpa using this

set_option maxHeartbeats 400000 in
theorem rpower_any (n : Int) (w : World) :
    Calls Try.prog 20 #[.int .i64 n] w fun e w' => e = .returned (.bool (powB n)) ∧ w = w' := by
  go_enter Try.func20, Try.ntmps20
  go_wp2
  go_loop [3] (fun p => ∃ k : Nat, k ≤ 9 ∧ p = .int .i64 (2 ^ k) ∧ noneOf n k) (fun p => (1024 - intOf p).toNat)
  case atStart => exact ⟨0, by omega, rfl, fun j hj => by omega⟩
  case round =>
    obtain ⟨k, hk, rfl, hn⟩ := hrel
    by_cases h9 : k ≤ 8
    · have h := pow9 k h9
      have HP := Lib.hid h.1
      have HW := Lib.hid h.2.1
      have hlt := h.2.2
      have h0 := pow_pos' k
      clear h
      by_cases he : (2 : Int) ^ k = n
      · subst he
        go_wp2
        go_ret
        exact ⟨ret_b HP.out.symm, rfl⟩
      · have hb : ((2 : Int) ^ k == n) = false := beq_eq_false_iff_ne.2 he
        clear he
        go_wp2
        go_round
        case rel => exact ⟨k + 1, by omega, by rw [HW.out], fun j hj => by
          rcases Nat.lt_or_ge j k with h | h
          · exact hn j h
          · obtain rfl : j = k := by omega
            exact fun e => by rw [e] at hb; simp at hb⟩
        case measure => simp only [intOf]; omega
    · obtain rfl : k = 9 := by omega
      have HN := Lib.hid (noneOf_all hn)
      clear hn
      go_wp2
      go_ret
      exact ⟨ret_b HN.out, rfl⟩

end Go.Proofs.Ytcocjdcnmfodcaa.W
