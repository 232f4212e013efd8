/-
  The walk of the program's Crc: the checksum in plain words, for every string.
-/
import Derived.Test.YtcocjdcnmfodcaaDoorCrcP
namespace Go.Proofs.YtcocjdcnmfodcaaDoor.W
open Go.RowKit
set_option linter.unusedVariables false

theorem crc_end (c : Nat) (h : c < 4294967296) : wrap64 (bits BinOp.xor IntKind.u32 IntKind.u32.max (c : Int)) = ((4294967295 ^^^ c : Nat) : Int) := by
  have e : bits BinOp.xor IntKind.u32 IntKind.u32.max (c : Int) = ((4294967295 ^^^ c : Nat) : Int) := u32_xor_nat 4294967295 c (by decide) h
  have hl : 4294967295 ^^^ c < 4294967296 := Nat.xor_lt_two_pow (n := 32) (by decide) h
  rw [e]
  unfold wrap64
  omega

set_option maxHeartbeats 1000000 in
set_option maxRecDepth 100000 in
theorem crc_any (s : ByteArray) (w : World) (hs : s.size ≤ maxLen) :
    Calls Tryd.prog 13 #[.string s] w fun e w' => e = .returned (.int .i64 (crcL s.data.toList : Nat)) ∧ w = w' := by
  unfold maxLen at hs
  go_enter Tryd.func13, Tryd.ntmps13
  go_wp2
  go_loop [3, 8] (fun x i => ∃ k : Nat, k ≤ s.size ∧ i = .int .i64 k ∧ x = .int .u32 ((crcR (s.data.toList.take k) : Nat) : Int)) (fun _ i => s.size - (intOf i).toNat)
  case atStart => exact ⟨0, Nat.zero_le _, rfl, rfl⟩
  case round =>
    obtain ⟨k, hk, rfl, rfl⟩ := hrel
    by_cases hlt : k < s.size
    · have hl := crcR_low (s.data.toList.take k)
      have ht := Hd.mk (take_snoc s k hlt)
      have hb := s[k].toNat_lt
      obtain ⟨c, hc⟩ : ∃ c, crcR (s.data.toList.take k) = c := ⟨_, rfl⟩
      rw [hc] at hl ⊢
      have hd : decide ((k : Int) < (s.size : Int)) = true := by simp; omega
      have HC := Hd.mk hc
      have xw : IntKind.u32.wrap (s[k].toNat : Int) = (s[k].toNat : Int) := by rw [IntKind.wrap_u32]; omega
      have xx := u32_xor_nat c s[k].toNat hl (by omega)
      have hl2 : c ^^^ s[k].toNat < 4294967296 := Nat.xor_lt_two_pow (n := 32) hl (by omega)
      clear hc
      go_wp2
      go_loop [3, 17] (fun x i => ∃ j : Nat, j ≤ 8 ∧ i = .int .i64 j ∧ x = .int .u32 ((bitN (c ^^^ s[k].toNat) j : Nat) : Int)) (fun _ i => 8 - (intOf i).toNat)
      case atStart => exact ⟨0, by omega, rfl, rfl⟩
      case round =>
        obtain ⟨j, hj, rfl, rfl⟩ := hrel
        have hl3 := bitN_low hl2 j
        obtain ⟨x, hx⟩ : ∃ x, bitN (c ^^^ s[k].toNat) j = x := ⟨_, rfl⟩
        rw [hx] at hl3 ⊢
        have HX := Hd.mk hx
        clear hx
        by_cases hlj : j < 8
        · have xa := u32_and_nat x 1 hl3 (by decide)
          rw [nat_mask1] at xa
          obtain ⟨y, hy⟩ : ∃ y, x / 2 = y := ⟨_, rfl⟩
          have xd : (x : Int) / 2 = (y : Int) := by omega
          have hyl : y < 4294967296 := by omega
          have HY := Hd.mk hy
          by_cases h1 : x % 2 = 1
          · have xb : bits BinOp.and IntKind.u32 (x : Int) 1 = 1 := by rw [h1] at xa; exact xa
            have yx := u32_xor_nat y 2197175160 hyl (by decide)
            have yx' : bits BinOp.xor IntKind.u32 (y : Int) 2197175160 = ((y ^^^ 2197175160 : Nat) : Int) := yx
            have e1 := Hd.mk (show bit1 x = y ^^^ 2197175160 by rw [bit1, if_pos h1, hy])
            clear xa yx h1 hy
            go_wp2
            go_round
            case rel => exact ⟨j + 1, by omega, by go_num, by rw [bitN, HX.out, e1.out]⟩
            case measure => simp [intOf]; omega
          · have h0 : x % 2 = 0 := by omega
            have xb : bits BinOp.and IntKind.u32 (x : Int) 1 = 0 := by rw [h0] at xa; exact xa
            have e1 := Hd.mk (show bit1 x = y by rw [bit1, if_neg h1, hy])
            clear xa h0 h1 hy
            go_wp2
            go_round
            case rel => exact ⟨j + 1, by omega, by go_num, by rw [bitN, HX.out, e1.out]⟩
            case measure => simp [intOf]; omega
        · have hj8 : j = 8 := by omega
          have e8 := Hd.mk (show crcR (s.data.toList.take (k + 1)) = x by rw [ht.out, crcR_snoc, HC.out, ← HX.out, hj8])
          clear hj8
          go_wp2
          go_round
          case rel => exact ⟨k + 1, by omega, by go_num, by rw [e8.out]⟩
          case measure => simp [intOf]; omega
    · have hks : k = s.size := by omega
      have hl := crcR_low s.data.toList
      have et : s.data.toList.take k = s.data.toList := by rw [hks]; exact List.take_of_length_le (by simp)
      rw [et]
      obtain ⟨c, hc⟩ : ∃ c, crcR s.data.toList = c := ⟨_, rfl⟩
      rw [hc] at hl ⊢
      have HC := Hd.mk hc
      clear hc et hks
      go_wp2
      go_ret
      exact ⟨ret_i (by rw [crc_end c hl, crcL, HC.out]), rfl⟩

end Go.Proofs.YtcocjdcnmfodcaaDoor.W
