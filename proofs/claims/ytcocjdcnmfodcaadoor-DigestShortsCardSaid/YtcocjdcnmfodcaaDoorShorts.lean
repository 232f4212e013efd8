/-
  DigestShorts: the walk of the law.
-/
import Derived.Test.YtcocjdcnmfodcaaDoorShort
import Derived.Test.YtcocjdcnmfodcaaDoorTab
namespace Go.Proofs.YtcocjdcnmfodcaaDoor.W
open Go.RowKit
set_option linter.unusedVariables false

/-- what is left of the number when k bytes are left -/
def left8 (q : List UInt8) (k : Nat) : Nat := if k = 8 then beN (q.take 8) / 16 else beN (q.take k)

theorem beN_take (q : List UInt8) (k : Nat) (h : k < q.length) : beN (q.take (k + 1)) = beN (q.take k) * 256 + q[k].toNat := by
  rw [List.take_succ_eq_append_getElem h, beN_snoc]

theorem left8_step (q : List UInt8) (j : Nat) (h : j < q.length) (h8 : j < 8) :
    if j = 7 then left8 q (j + 1) % 16 = q[j].toNat / 16 ∧ left8 q (j + 1) / 16 = left8 q j ∧ left8 q (j + 1) < 1152921504606846976 else left8 q (j + 1) % 256 = q[j].toNat ∧ left8 q (j + 1) / 256 = left8 q j ∧ left8 q (j + 1) < 1152921504606846976 := by
  have hb := q[j].toNat_lt
  have hs := beN_take q j h
  have hl := beN_low (q.take (j + 1))
  rw [List.length_take, Nat.min_eq_left (by omega)] at hl
  split
  · rename_i h7
    subst h7
    have e1 : left8 q (7 + 1) = beN (q.take 8) / 16 := rfl
    have e2 : left8 q 7 = beN (q.take 7) := rfl
    rw [e1, e2]
    have hs' : beN (q.take 8) = beN (q.take 7) * 256 + q[7].toNat := hs
    have hl' : beN (q.take 8) < 18446744073709551616 := hl
    omega
  · rename_i h7
    have e1 : left8 q (j + 1) = beN (q.take (j + 1)) := if_neg (by omega)
    have e2 : left8 q j = beN (q.take j) := if_neg (by omega)
    have hp : 256 ^ (j + 1) ≤ 256 ^ 7 := Nat.pow_le_pow_right (by decide) (by omega)
    have hl' : beN (q.take (j + 1)) < 72057594037927936 := Nat.lt_of_lt_of_le hl hp
    rw [e1, e2]
    omega

set_option maxHeartbeats 1000000 in
set_option maxRecDepth 100000 in
theorem shorts_any (s : ByteArray) (hs : s.size ≤ maxLen) (w : World) (hT : Tabs w) :
    Calls Tryd.prog 8 #[.string s] w fun e w' => e = .returned (.bool true) ∧ Below w.heap.size w w' := by
  have HT := Hd.mk hT
  unfold maxLen at hs
  clear hT
  go_enter Tryd.func8, Tryd.ntmps8
  go_wp2_with fail
  refine (small_any _ HT.out).mono ?_
  rintro e w1 ⟨rfl, b1⟩
  by_cases hbig : s.size ≤ 2000
  · have T1 := Hd.mk (HT.out.below b1)
    have B1 := Hd.mk b1
    clear b1 HT
    go_wp2_with fail
    refine (sum_any _ _ T1.out (by omega)).mono ?_
    rintro e w2 ⟨rfl, b2⟩
    obtain ⟨q, hq⟩ : ∃ q, sumL s.data.toList = q := ⟨_, rfl⟩
    have hql : q.length = 32 := by rw [← hq, sumL_len]
    have hqs : (⟨q.toArray⟩ : ByteArray).size = 32 := hql
    rw [hq]
    have HQ := Hd.mk hq
    have T2 := Hd.mk (T1.out.below b2)
    have B2 := Hd.mk (Below.chain B1.out b2)
    clear b2 hq T1 B1
    go_wp2_with fail
    refine (short_any _ _ T2.out (by omega)).mono ?_
    rintro e w3 ⟨rfl, b3⟩
    have hsh : shortL s.data.toList = left8 q 8 := by rw [shortL, HQ.out]; rfl
    rw [hsh]
    have B3 := Hd.mk (Below.chain B2.out b3)
    clear b3 B2 T2 hsh HQ
    go_wp2_with fail
    go_loop [5, 6] (fun n i => ∃ k : Nat, k ≤ 8 ∧ i = .int .i64 ((k : Int) - 1) ∧ n = .int .i64 ((left8 q k : Nat) : Int)) (fun _ i => (intOf i + 1).toNat)
    case atStart => exact ⟨8, by omega, rfl, rfl⟩
    case round =>
      obtain ⟨k, hk, rfl, rfl⟩ := hrel
      rcases Nat.eq_zero_or_pos k with h0 | h0
      · have hl : left8 q k = 0 := by rw [h0]; rfl
        have hi : (k : Int) - 1 = -1 := by omega
        rw [hl, hi]
        clear hl hi h0
        go_wp2
        go_ret
        exact ⟨rfl, B3.out⟩
      · obtain ⟨j, rfl⟩ : ∃ j, k = j + 1 := ⟨k - 1, by omega⟩
        have hi : ((j + 1 : Nat) : Int) - 1 = (j : Int) := by omega
        have hj : j < q.length := by omega
        have hst := left8_step q j hj (by omega)
        obtain ⟨n, hn⟩ : ∃ n, left8 q (j + 1) = n := ⟨_, rfl⟩
        obtain ⟨m, hm⟩ : ∃ m, left8 q j = m := ⟨_, rfl⟩
        have hget : (⟨q.toArray⟩ : ByteArray)[j]'(by omega) = q[j] := rfl
        rw [hi, hn]
        rw [hn, hm] at hst
        have HM := Hd.mk hm
        have hcl := q[j].toNat_lt
        obtain ⟨c, hc⟩ : ∃ c, q[j].toNat = c := ⟨_, rfl⟩
        have hgc : ((⟨q.toArray⟩ : ByteArray)[j]'(by omega)).toNat = c := hc
        rw [hc] at hcl hst
        have cw : wrap64 (c : Int) = (c : Int) := by unfold wrap64; omega
        clear hn hm hi hc hget
        by_cases h7 : j = 7
        · rw [if_pos h7] at hst
          subst h7
          obtain ⟨y, hy⟩ : ∃ y, c / 16 = y := ⟨_, rfl⟩
          have e1 : (c : Int) / 16 = (y : Int) := by omega
          have e2 : (n : Int) % 16 = (y : Int) := by omega
          have e3 : (n : Int) / 16 = (m : Int) := by omega
          have hm0 : m < 1152921504606846976 := by omega
          clear hst hy h0 hcl
          go_wp2
          go_round
          case rel => exact ⟨7, by omega, rfl, by rw [HM.out]⟩
          case measure => decide
        · rw [if_neg h7] at hst
          have e2 : (n : Int) % 256 = (c : Int) := by omega
          have e3 : (n : Int) / 256 = (m : Int) := by omega
          have hm0 : m < 1152921504606846976 := by omega
          clear hst
          go_wp2
          go_round
          case rel => exact ⟨j, by omega, rfl, by rw [HM.out]⟩
          case measure => simp [intOf]
  · go_wp2_with fail
    go_ret
    exact ⟨rfl, b1⟩

end Go.Proofs.YtcocjdcnmfodcaaDoor.W
