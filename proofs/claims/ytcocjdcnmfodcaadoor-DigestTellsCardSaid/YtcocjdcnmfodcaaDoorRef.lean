/-
  The reference's Crc, digit, Hex: the walks.
-/
import Derived.Test.YtcocjdcnmfodcaaDoorHexP
import Derived.Test.YtcocjdcnmfodcaaDoorCrcP
import Derived.Test.YtcocjdcnmfodcaaDoorHex
import Derived.Test.YtcocjdcnmfodcaaDoorOwn
import Derived.Deep.QuietTactic
import Derived.BigQuiet
import Derived.Test.YtcocjdcnmfodcaaDoorOrd
namespace Go.Proofs.YtcocjdcnmfodcaaDoor.W
open Go.RowKit
set_option linter.unusedVariables false

set_option maxHeartbeats 1000000 in
set_option maxRecDepth 100000 in
theorem rcrc_any (s : ByteArray) (w : World) (hs : s.size ≤ maxLen) :
    Calls Tryd.prog 19 #[.string s] w fun e w' => e = .returned (.int .i64 (crcL s.data.toList : Nat)) ∧ w = w' := by
  unfold maxLen at hs
  go_enter Tryd.func19, Tryd.ntmps19
  go_wp2
  go_loop [3, 4] (fun x i => ∃ k : Nat, k ≤ s.size ∧ i = .int .i64 k ∧ x = .int .i64 ((crcR (s.data.toList.take k) : Nat) : Int)) (fun _ i => s.size - (intOf i).toNat)
  case atStart => exact ⟨0, Nat.zero_le _, rfl, rfl⟩
  case round =>
    obtain ⟨k, hk, rfl, rfl⟩ := hrel
    by_cases hlt : k < s.size
    · have hl := crcR_low (s.data.toList.take k)
      have ht := Hd.mk (take_snoc s k hlt)
      have hb := s[k].toNat_lt
      obtain ⟨c, hc⟩ : ∃ c, crcR (s.data.toList.take k) = c := ⟨_, rfl⟩
      rw [hc] at hl ⊢
      have hd : decide ((k : Int) < (s.size : Int)) = true := by simp; omega
      have HC := Hd.mk hc
      have xw : wrap64 (s[k].toNat : Int) = (s[k].toNat : Int) := by unfold wrap64; omega
      have xx := i64_xor_nat c s[k].toNat (by omega) (by omega)
      have hl2 : c ^^^ s[k].toNat < 4294967296 := Nat.xor_lt_two_pow (n := 32) hl (by omega)
      clear hc
      go_wp2
      go_loop [3, 5] (fun x i => ∃ j : Nat, j ≤ 8 ∧ i = .int .i64 j ∧ x = .int .i64 ((bitN (c ^^^ s[k].toNat) j : Nat) : Int)) (fun _ i => 8 - (intOf i).toNat)
      case atStart => exact ⟨0, by omega, rfl, rfl⟩
      case round =>
        obtain ⟨j, hj, rfl, rfl⟩ := hrel
        have hl3 := bitN_low hl2 j
        obtain ⟨x, hx⟩ : ∃ x, bitN (c ^^^ s[k].toNat) j = x := ⟨_, rfl⟩
        rw [hx] at hl3 ⊢
        have HX := Hd.mk hx
        clear hx
        by_cases hlj : j < 8
        · have hdj : decide ((j : Int) < 8) = true := by simp; omega
          obtain ⟨y, hy⟩ : ∃ y, x / 2 = y := ⟨_, rfl⟩
          have xd : (x : Int) / 2 = (y : Int) := by omega
          have hyl : y < 4294967296 := by omega
          by_cases h1 : x % 2 = 1
          · have xb : (x : Int) % 2 = 1 := by omega
            have yx := i64_xor_nat y 2197175160 (by omega) (by decide)
            have yx' : bits BinOp.xor IntKind.i64 (y : Int) 2197175160 = ((y ^^^ 2197175160 : Nat) : Int) := yx
            have e1 := Hd.mk (show bit1 x = y ^^^ 2197175160 by rw [bit1, if_pos h1, hy])
            clear yx h1 hy
            go_wp2
            go_round
            case rel => exact ⟨j + 1, by omega, by go_num, by rw [bitN, HX.out, e1.out]⟩
            case measure => simp [intOf]; omega
          · have xb : (x : Int) % 2 = 0 := by omega
            have e1 := Hd.mk (show bit1 x = y by rw [bit1, if_neg h1, hy])
            clear h1 hy
            go_wp2
            go_round
            case rel => exact ⟨j + 1, by omega, by go_num, by rw [bitN, HX.out, e1.out]⟩
            case measure => simp [intOf]; omega
        · have hj8 : j = 8 := by omega
          have hdj : decide ((j : Int) < 8) = false := by simp; omega
          have e8 := Hd.mk (show crcR (s.data.toList.take (k + 1)) = x by rw [ht.out, crcR_snoc, HC.out, ← HX.out, hj8])
          clear hj8
          go_wp2
          go_round
          case rel => exact ⟨k + 1, by omega, by go_num, by rw [e8.out]⟩
          case measure => simp [intOf]; omega
    · have hks : k = s.size := by omega
      have hl := crcR_low s.data.toList
      have et : s.data.toList.take k = s.data.toList := by rw [hks]; exact List.take_of_length_le (by simp)
      have hd : decide ((k : Int) < (s.size : Int)) = false := by simp; omega
      rw [et]
      obtain ⟨c, hc⟩ : ∃ c, crcR s.data.toList = c := ⟨_, rfl⟩
      rw [hc] at hl ⊢
      have HC := Hd.mk hc
      clear hc et hks
      go_wp2
      go_ret
      refine ⟨ret_i ?_, rfl⟩
      have := i64_xor_nat c 4294967295 (by omega) (by decide)
      rw [crcL, HC.out, Nat.xor_comm]
      exact this

set_option maxHeartbeats 1000000 in
theorem digit_any (n : Nat) (h : n < 16) (w : World) : Calls Tryd.prog 29 #[.int .i64 n] w fun e w' => e = .returned (.int .u8 ((dig n).toNat : Int)) ∧ w' = w := by
  have hd : ((dig n).toNat : Int) = if n < 10 then 48 + (n : Int) else 87 + (n : Int) := by
    have : ∀ m : Fin 16, ((dig m.val).toNat : Int) = if m.val < 10 then 48 + (m.val : Int) else 87 + (m.val : Int) := by decide
    exact this ⟨n, h⟩
  rw [hd]
  clear hd
  by_cases h10 : n < 10
  · rw [if_pos h10]
    have h2 : decide ((n : Int) < 10) = true := by simp; omega
    go_enter Tryd.func29, Tryd.ntmps29
    go_wp2
    go_ret
    exact ⟨rfl, rfl⟩
  · rw [if_neg h10]
    have h2 : decide ((n : Int) < 10) = false := by simp; omega
    go_enter Tryd.func29, Tryd.ntmps29
    go_wp2
    go_ret
    refine ⟨?_, rfl⟩
    have : 97 + (n : Int) - 10 = 87 + (n : Int) := by omega
    rw [← this]
    rfl

set_option maxHeartbeats 1000000 in
set_option maxRecDepth 100000 in
theorem rhex_any (s : ByteArray) (w : World) (hs : s.size ≤ 1000000000) :
    Calls Tryd.prog 20 #[.string s] w fun e w' => e = .returned (.string ⟨(hexL s.data.toList).toArray⟩) ∧ Below w.heap.size w w' := by
  obtain ⟨i0, hi, hz0, hz1, hz2⟩ := info_parts infoU8
  have HI : Hd (_ ∧ _ ∧ _ ∧ _) := ⟨⟨hi, hz0, hz1, hz2⟩⟩
  clear hi hz0 hz1 hz2
  go_enter Tryd.func20, Tryd.ntmps20
  go_wp2
  go_loopw [3, 4] (fun v i wr => ∃ k : Nat, k ≤ s.size ∧ i = .int .i64 k ∧ Own wr w.heap.size 5 v (Lib.byteCells (hexL (s.data.toList.take k))) ∧ Below w.heap.size w wr) (fun _ i _ => s.size - (intOf i).toNat)
  case atStart => exact ⟨0, Nat.zero_le _, rfl, Own.nil _ _ _, Below.refl _ _⟩
  case round =>
    obtain ⟨k, hk, rfl, hO, hB⟩ := hrel
    by_cases hlt : k < s.size
    · have ht := Hd.mk (take_snoc s k hlt)
      have hb := s[k].toNat_lt
      have hd : decide ((k : Int) < (s.size : Int)) = true := by simp; omega
      have hlen := hexL_len (s.data.toList.take k)
      have hlen2 : (s.data.toList.take k).length ≤ k := List.length_take_le _ _
      have bl := bc_len (hexL (s.data.toList.take k))
      obtain ⟨c, hc⟩ : ∃ c, s[k] = c := ⟨_, rfl⟩
      rw [hc] at hb ht
      have xw : wrap64 (c.toNat : Int) = (c.toNat : Int) := by unfold wrap64; omega
      obtain ⟨x, hx⟩ : ∃ x, c.toNat / 16 = x := ⟨_, rfl⟩
      obtain ⟨y, hy⟩ : ∃ y, c.toNat % 16 = y := ⟨_, rfl⟩
      have ex : (c.toNat : Int) / 16 = (x : Int) := by omega
      have ey : (c.toNat : Int) % 16 = (y : Int) := by omega
      have xw2 : IntKind.i64.wrap (c.toNat : Int) = (c.toNat : Int) := IntWalk.i64_in _ (by omega)
      have ex2 : (c.toNat : Int).tdiv 16 = (x : Int) := by rw [Int.tdiv_eq_ediv_of_nonneg (by omega)]; exact ex
      have ey2 : (c.toNat : Int).tmod 16 = (y : Int) := by rw [Int.tmod_eq_emod_of_nonneg (by omega)]; exact ey
      have ex3 : IntKind.i64.wrap (x : Int) = (x : Int) := IntWalk.i64_in _ (by omega)
      have ey3 : IntKind.i64.wrap (y : Int) = (y : Int) := IntWalk.i64_in _ (by omega)
      have hxl : x < 16 := by omega
      have hyl : y < 16 := by omega
      have HO := Hd.mk hO
      have HB := Hd.mk hB
      have hsz := hB.size
      have HE : Hd (hexL (s.data.toList.take (k + 1)) = hexL (s.data.toList.take k) ++ [dig x] ++ [dig y]) := ⟨by rw [ht.out, hexL_snoc, hx, hy]⟩
      clear hO hB hx hy
      go_wp2_with fail
      refine wp_region_lin default (fun _ => True) [(0, true), (1, true), (2, true), (3, true), (4, true), (5, true), (7, true), (8, true), (9, true), (10, true), (11, true), (6, false), (12, false), (13, false), (14, false), (15, true)] (by kernel_rfl) (by kernel_rfl) rfl (by kernel_rfl) (by kernel_rfl) trivial ?_
      simp only [pick, List.getD_cons_zero, List.getD_cons_succ]
      repeat
        refine lin_free (v := ?_) (by rfl) ?_ ?_
        rotate_left
        · intro w' hSw
          go_simp
          first | done | with_reducible rfl
        simp only [Act.put, List.setIfInBounds_toArray, List.set_cons_zero, List.set_cons_succ]
      refine lin_bound (fun K hK => ?_)
      go_simp
      refine (digit_any x hxl _).mono ?_
      rintro e w' ⟨rfl, rfl⟩
      dsimp only
      refine hK.out _ _ trivial ?_
      clear hK K
      refine lin_bound (fun K hK => ?_)
      go_simp
      refine (digit_any y hyl _).mono ?_
      rintro e w' ⟨rfl, rfl⟩
      dsimp only
      refine hK.out _ _ trivial ?_
      clear hK K
      refine lin_bound (fun K hK => ?_)
      go_simp
      refine hK.out _ _ trivial ?_
      clear hK K
      refine lin_bound (fun K hK => ?_)
      refine step_app rfl _ _ 30 rfl 5 Tryd.underlying30 HI.out.1 HI.out.2.1 HI.out.2.2.1 HI.out.2.2.2 rfl u3 _ [.int .u8 ((dig x).toNat : Int), .int .u8 ((dig y).toNat : Int)] _ _ _ rfl (HO.out.keeps (((Keeps.refl (fun _ => False) wr).drew).alloc _) (fun _ _ h => h)) rfl ⟨_, _, heap_alloc_new _ _⟩ (by simp [Value.oneCell']) (by simp; unfold maxLen; omega) (by simp; omega) (by simp; omega) ?_
      intro v' w' hO' hK' _
      refine hK.out _ _ trivial ?_
      clear hK K
      refine lin_free (v := ?_) (by rfl) ?_ ?_
      rotate_left
      · intro w' hSw
        go_simp
        first | done | with_reducible rfl
      simp only [Act.put, List.setIfInBounds_toArray, List.set_cons_zero, List.set_cons_succ]
      refine NoPanic.normal ?_
      rw [show Lib.byteCells (hexL (s.data.toList.take k)) ++ [.int .u8 ((dig x).toNat : Int), .int .u8 ((dig y).toNat : Int)] = Lib.byteCells (hexL (s.data.toList.take (k + 1))) by rw [HE.out, ← bc_snoc, ← bc_snoc]; simp] at hO'
      have HO3 := Hd.mk hO'
      have HB3 : Hd (Below w.heap.size w w') := ⟨HB.out.trans (((((Keeps.refl (fun k => u3.ownBlock = some k) wr).drew).alloc _).trans hK').below hsz (fun g hg h => by have := (HO.out.lt h).1; omega))⟩
      clear hO' hK'
      go_wp2
      go_roundw
      case rel => exact ⟨k + 1, by omega, by go_num, HO3.out, HB3.out⟩
      case measure => simp [intOf]; omega
    · have hks : k = s.size := by omega
      have et : s.data.toList.take k = s.data.toList := by rw [hks]; exact List.take_of_length_le (by simp)
      rw [et] at hO
      have hcv := hO.back
      have HB := Hd.mk hB
      have hd : decide ((k : Int) < (s.size : Int)) = false := by simp; omega
      clear hO hB et hks
      go_wp2
      go_ret
      exact ⟨rfl, HB.out⟩

end Go.Proofs.YtcocjdcnmfodcaaDoor.W
