/-
  The reference's Short: the walk.
-/
import Derived.Test.YtcocjdcnmfodcaaDoorRSum
namespace Go.Proofs.YtcocjdcnmfodcaaDoor.W
open Go.RowKit
set_option linter.unusedVariables false

theorem d7t {k : Nat} (h : k < 7) : decide ((k : Int) < 7) = true := by simp; omega
theorem d7f {k : Nat} (h : ¬ k < 7) : decide ((k : Int) < 7) = false := by simp; omega

theorem short_next {n x : Nat} : ((n : Int) * 256 + (x : Int)) = ((n * 256 + x : Nat) : Int) := by simp

theorem short_last {n x : Nat} (hn : n < 72057594037927936) (hx : x < 256) : ∃ q r : Nat, IntKind.i64.wrap ((n : Int) * 16) = (n : Int) * 16 ∧ (x : Int) / 16 = (q : Int) ∧ (x : Int).tdiv 16 = (q : Int) ∧ IntKind.i64.wrap (q : Int) = (q : Int) ∧ IntKind.i64.wrap ((n : Int) * 16 + (q : Int)) = (r : Int) ∧ (n : Int) * 16 + (q : Int) = (r : Int) ∧ IntKind.i64.wrap (x : Int) = (x : Int) ∧ (n * 256 + x) / 16 = r := by
  refine ⟨x / 16, n * 16 + x / 16, IntWalk.i64_in _ (by omega), by omega, ?_, IntWalk.i64_in _ (by omega), (IntWalk.i64_in _ (by omega)).trans (by omega), by omega, IntWalk.i64_in _ (by omega), by omega⟩
  rw [Int.tdiv_eq_ediv_of_nonneg (by omega)]; omega

set_option maxHeartbeats 1000000 in
set_option maxRecDepth 100000 in
theorem rshort_any (s : ByteArray) (hs : s.size ≤ 900000) (w : World) :
    Calls Tryd.prog 18 #[.string s] w fun e w' => e = .returned (.int .i64 (shortL s.data.toList : Nat)) ∧ Below w.heap.size w w' := by
  go_enter Tryd.func18, Tryd.ntmps18
  go_wp2_with (go_at_call 16; refine (rsum_any s hs _).mono ?_; rintro e w1 ⟨rfl, b1⟩)
  have B1 := Hd.mk b1
  obtain ⟨d, hd⟩ : ∃ d, (⟨(sumL s.data.toList).toArray⟩ : ByteArray) = d := ⟨_, rfl⟩
  have hds : d.size = 32 := by rw [← hd]; exact sumL_len _
  have HS : Hd (shortL s.data.toList = beN (d.data.toList.take 8) / 16) := ⟨by rw [← hd]; rfl⟩
  rw [hd]
  clear hd b1
  go_wp2
  go_loop [4, 5] (fun n i => ∃ k : Nat, k ≤ 7 ∧ i = .int .i64 k ∧ n = .int .i64 ((beN (d.data.toList.take k) : Nat) : Int)) (fun _ i => 7 - (intOf i).toNat)
  case atStart => exact ⟨0, Nat.zero_le _, rfl, rfl⟩
  case round =>
    obtain ⟨k, hk, rfl, rfl⟩ := hrel
    by_cases hlt : k < 7
    · have hlow := beN_low (d.data.toList.take k)
      have hlen : (d.data.toList.take k).length ≤ 6 := by rw [List.length_take]; omega
      have hp : 256 ^ (d.data.toList.take k).length ≤ 256 ^ 6 := Nat.pow_le_pow_right (by decide) hlen
      have hl7 : beN (d.data.toList.take k) < 281474976710656 := Nat.lt_of_lt_of_le hlow hp
      clear hlow hp hlen
      have hd1 := d7t hlt
      have hks : k < d.size := by omega
      have hx := Hd.mk (take_snoc d k hks)
      obtain ⟨n, hn⟩ : ∃ n, beN (d.data.toList.take k) = n := ⟨_, rfl⟩
      rw [hn] at hl7 ⊢
      have HN := Hd.mk hn
      have hbl := d[k].toNat_lt
      clear hn
      go_wp2
      exact ⟨⟨k + 1, hlt, by go_num, by rw [hx.out, beN_snoc, HN.out, short_next]⟩, by simp [intOf]; omega⟩
    · have hk7 : k = 7 := Nat.le_antisymm hk (Nat.not_lt.1 hlt)
      have hlow := beN_low (d.data.toList.take k)
      have hlen : (d.data.toList.take k).length ≤ 7 := by rw [List.length_take]; omega
      have hp : 256 ^ (d.data.toList.take k).length ≤ 256 ^ 7 := Nat.pow_le_pow_right (by decide) hlen
      have hl7 : beN (d.data.toList.take k) < 72057594037927936 := Nat.lt_of_lt_of_le hlow hp
      have hd1 := d7f hlt
      have h7 : 7 < d.size := by omega
      have e8 : beN (d.data.toList.take 8) = beN (d.data.toList.take k) * 256 + d[7].toNat := by rw [hk7, take_snoc d 7 h7, beN_snoc]
      have H8 := Hd.mk e8
      clear hlow hp hlen e8 hk7
      obtain ⟨n, hn⟩ : ∃ n, beN (d.data.toList.take k) = n := ⟨_, rfl⟩
      rw [hn] at hl7 H8 ⊢
      have hbl := d[7].toNat_lt
      obtain ⟨q, r, w1, w2, w3, w4, w5, w6, w7, w8⟩ := short_last hl7 hbl
      have HR : Hd (shortL s.data.toList = r) := ⟨by rw [HS.out, H8.out, w8]⟩
      clear w8 hn
      go_wp2
      go_ret
      exact ⟨ret_i (by rw [HR.out]), B1.out⟩

end Go.Proofs.YtcocjdcnmfodcaaDoor.W
