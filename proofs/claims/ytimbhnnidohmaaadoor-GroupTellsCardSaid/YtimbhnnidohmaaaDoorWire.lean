/-
  The wire's Num, Text, and the reference's: the walks.
-/
import Derived.Test.YtimbhnnidohmaaaDoorWireP
import Derived.Test.YtimbhnnidohmaaaDoorOwn
import Derived.Test.YtimbhnnidohmaaaDoorHex
namespace Go.Proofs.YtimbhnnidohmaaaDoor.W
open Go.RowKit
set_option linter.unusedVariables false

theorem num_byte (m : Nat) : ∃ b : UInt8, UInt8.ofNat (m % 128 + 128) = b ∧ IntKind.u8.wrap ((m % 128 : Nat) : Int) = ((m % 128 : Nat) : Int) ∧ bits BinOp.or IntKind.u8 ((m % 128 : Nat) : Int) 128 = (b.toNat : Int) ∧ (m % 128) + 128 = b.toNat := by
  refine ⟨_, rfl, ?_, ?_, ?_⟩
  · rw [IntKind.wrap_u8]; omega
  · have hb : (UInt8.ofNat (m % 128 + 128)).toNat = m % 128 + 128 := by simp; omega
    have : ∀ k : Fin 128, bits BinOp.or IntKind.u8 ((k.val : Nat) : Int) 128 = ((k.val + 128 : Nat) : Int) := by decide +kernel
    rw [hb]
    exact this ⟨m % 128, Nat.mod_lt _ (by decide)⟩
  · simp; omega

set_option maxHeartbeats 1000000 in
set_option maxRecDepth 100000 in
theorem wput_any (n : Nat) (hn : n < 18446744073709551616) (w : World) :
    Calls Tryd.prog 38 #[.slice none 0 0, .int .u64 n] w fun e w' => ∃ v, e = .returned v ∧ Own w' w.heap.size 5 v (Lib.byteCells (numL n)) ∧ Below w.heap.size w w' := by
  obtain ⟨i0, hi, hz0, hz1, hz2⟩ := info_parts infoU8
  have HI : Hd (_ ∧ _ ∧ _ ∧ _) := ⟨⟨hi, hz0, hz1, hz2⟩⟩
  clear hi hz0 hz1 hz2
  go_enter Tryd.func38, Tryd.ntmps38
  go_wp2
  go_loopw [0, 1] (fun v m wr => ∃ (k f : Nat) (acc : List UInt8), k < 128 ^ (f + 1) ∧ k < 18446744073709551616 ∧ acc.length + f = 9 ∧ m = .int .u64 k ∧ Own wr w.heap.size 5 v (Lib.byteCells acc) ∧ Below w.heap.size w wr ∧ Hd (numL n = acc ++ numF f k)) (fun _ m _ => match m with | .int _ k => k.toNat | _ => 0)
  case atStart => exact ⟨n, 9, [], by omega, hn, rfl, rfl, Own.nil _ _ _, Below.refl _ _, ⟨rfl⟩⟩
  case round =>
    obtain ⟨k, f, acc, hk, hk64, hacc, rfl, hO, hB, hN⟩ := hrel
    have HO := Hd.mk hO
    have HB := Hd.mk hB
    have hsz := hB.size
    have bl := bc_len acc
    by_cases hlt : k < 128
    · have hd : decide (128 ≤ (k : Int)) = false := by simp; omega
      have e1 : numL n = acc ++ [UInt8.ofNat k] := by rw [hN.out, numF_low f k hlt]
      have eb : ((UInt8.ofNat k).toNat : Int) = (k : Int) := by have : (UInt8.ofNat k).toNat = k := by simp; omega
                                                                omega
      have ew : IntKind.u8.wrap (k : Int) = (k : Int) := by rw [IntKind.wrap_u8]; omega
      have E1 := Hd.mk e1
      clear e1 hO hB hN hk hk64
      go_wp2_with (at_builtin; refine wp_app1 rfl _ _ 68 rfl 5 Tryd.underlying68 HI.out.1 HI.out.2.1 HI.out.2.2.1 HI.out.2.2.2 rfl u0 _ _ _ rfl HO.out rfl rfl (by unfold maxLen; omega) (by omega) (by omega) ?_)
      intro v' w' hO' hK' _
      rw [← eb, bc_snoc, ← E1.out] at hO'
      have HX : Hd (Own w' w.heap.size 5 v' (Lib.byteCells (numL n)) ∧ Below w.heap.size w w') := ⟨hO', HB.out.trans (hK'.below hsz (fun g hg h => by have := (HO.out.lt h).1; omega))⟩
      clear hO' hK'
      go_wp2
      go_ret
      exact ⟨_, rfl, HX.out⟩
    · have hd : decide (128 ≤ (k : Int)) = true := by simp; omega
      obtain ⟨f', rfl, hk'⟩ := num_step hk hlt
      obtain ⟨b, hb, b1, b2, b3⟩ := num_byte k
      have e1 : numL n = (acc ++ [b]) ++ numF f' (k / 128) := by rw [hN.out, numF_more f' k hlt, hb]; simp
      have E1 := Hd.mk e1
      obtain ⟨r, hr⟩ : ∃ r, k % 128 = r := ⟨_, rfl⟩
      obtain ⟨q, hq⟩ : ∃ q, k / 128 = q := ⟨_, rfl⟩
      rw [hr] at b1 b2
      rw [hq] at hk' E1
      have t1 : (k : Int).tmod 128 = (r : Int) := by rw [Int.tmod_eq_emod_of_nonneg (by omega)]; omega
      have t2 : (k : Int) % 128 = (r : Int) := by omega
      have t3 : (k : Int).tdiv 128 = (q : Int) := by rw [Int.tdiv_eq_ediv_of_nonneg (by omega)]; omega
      have t4 : (k : Int) / 128 = (q : Int) := by omega
      have t5 : IntKind.u64.wrap (q : Int) = (q : Int) := by rw [IntKind.wrap_u64]; omega
      have HQ := Hd.mk (And.intro hk' (show q < 18446744073709551616 ∧ q < k by omega))
      clear e1 hO hB hN hk hk64 hb b3 hr hq hk'
      go_wp2_with (at_builtin; refine wp_app1 rfl _ _ 68 rfl 5 Tryd.underlying68 HI.out.1 HI.out.2.1 HI.out.2.2.1 HI.out.2.2.2 rfl u0 _ _ _ rfl HO.out rfl rfl (by unfold maxLen; omega) (by omega) (by omega) ?_)
      intro v' w' hO' hK' _
      rw [bc_snoc] at hO'
      have HX : Hd (Own w' w.heap.size 5 v' (Lib.byteCells (acc ++ [b])) ∧ Below w.heap.size w w') := ⟨hO', HB.out.trans (hK'.below hsz (fun g hg h => by have := (HO.out.lt h).1; omega))⟩
      clear hO' hK'
      go_wp2
      go_roundw
      case rel => exact ⟨q, f', acc ++ [b], HQ.out.1, HQ.out.2.1, by rw [List.length_append]; show acc.length + 1 + f' = 9; omega, rfl, HX.out.1, HX.out.2, E1⟩
      case measure => exact HQ.out.2.2

set_option maxHeartbeats 1000000 in
theorem wnum_any (n : Nat) (hn : n ≤ 9223372036854775807) (w : World) :
    Calls Tryd.prog 27 #[.int .i64 n] w fun e w' => e = .returned (.string ⟨(numL n).toArray⟩) ∧ Below w.heap.size w w' := by
  have hd : decide ((n : Int) < 0) = false := by simp
  have hc : IntKind.u64.wrap (n : Int) = (n : Int) := by rw [IntKind.wrap_u64]; omega
  obtain ⟨s, hs⟩ : ∃ s : ByteArray, (⟨(numL n).toArray⟩ : ByteArray) = s := ⟨_, rfl⟩
  have HC : Hd (∀ w : World, Calls Tryd.prog 38 #[.slice none 0 0, .int .u64 n] w fun e w' => ∃ v, e = .returned v ∧ (convert 68 9 v).run Tryd.prog w' = .ok (.string s) w' ∧ Below w.heap.size w w') := ⟨fun w => (wput_any n (by omega) w).mono fun e w' ⟨v, he, hO, hB⟩ => ⟨v, he, by rw [← hs]; exact hO.back, hB⟩⟩
  rw [hs]
  clear hn hs
  go_enter Tryd.func27, Tryd.ntmps27
  go_wp2_with fail
  refine (HC.out _).mono ?_
  rintro e w1 ⟨v, rfl, hb, hB⟩
  have HB := Hd.mk hB
  clear hB
  go_wp2
  go_ret
  exact ⟨rfl, HB.out⟩

set_option maxHeartbeats 1000000 in
theorem wnum_neg (n : Int) (hn : n < 0) (w : World) :
    Calls Tryd.prog 27 #[.int .i64 n] w fun e w' => e = .returned (.string ⟨#[]⟩) ∧ w = w' := by
  have hd : decide (n < 0) = true := by simpa using hn
  go_enter Tryd.func27, Tryd.ntmps27
  go_wp2
  go_ret
  exact ⟨rfl, rfl⟩

theorem text_eq (s : ByteArray) : (⟨(numL s.size).toArray⟩ : ByteArray) ++ s = ⟨(textL s.data.toList).toArray⟩ := by
  have e : s.data.toList.length = s.size := by simp
  apply ByteArray.ext
  simp [ByteArray.data_append, textL, e]

set_option maxHeartbeats 1000000 in
theorem wtext_any (s : ByteArray) (hs : s.size ≤ 1000000000) (w : World) :
    Calls Tryd.prog 28 #[.string s] w fun e w' => e = .returned (.string ⟨(textL s.data.toList).toArray⟩) ∧ Below w.heap.size w w' := by
  have hl : (⟨(numL s.size).toArray⟩ : ByteArray).size ≤ 10 := numL_len s.size
  have he := Hd.mk (text_eq s)
  have HC := Hd.mk (fun w => wnum_any s.size (by omega) w)
  obtain ⟨t, ht⟩ : ∃ t : ByteArray, (⟨(numL s.size).toArray⟩ : ByteArray) = t := ⟨_, rfl⟩
  rw [ht] at hl he HC
  rw [← he.out]
  have hsum : ¬ 9223372036854775807 < t.size + s.size := by omega
  clear ht
  go_enter Tryd.func28, Tryd.ntmps28
  go_wp2_with fail
  refine (HC.out _).mono ?_
  rintro e w1 ⟨rfl, hB⟩
  have HB := Hd.mk hB
  clear hB
  go_wp2
  go_ret
  exact ⟨rfl, HB.out⟩

theorem ref_byte (m : Nat) : ∃ b : UInt8, UInt8.ofNat (m % 128 + 128) = b ∧ IntKind.u8.wrap ((m % 128 : Nat) : Int) = ((m % 128 : Nat) : Int) ∧ IntKind.u8.wrap (((m % 128 : Nat) : Int) + 128) = (b.toNat : Int) ∧ ((m % 128 : Nat) : Int) + 128 = (b.toNat : Int) := by
  have hb : (UInt8.ofNat (m % 128 + 128)).toNat = m % 128 + 128 := by simp; omega
  refine ⟨_, rfl, ?_, ?_, ?_⟩
  · rw [IntKind.wrap_u8]; omega
  · rw [IntKind.wrap_u8, hb]; omega
  · rw [hb]; omega

set_option maxHeartbeats 1000000 in
set_option maxRecDepth 100000 in
theorem groups_any (n : Nat) (hn : n < 18446744073709551616) (w : World) :
    Calls Tryd.prog 61 #[.int .u64 n] w fun e w' => e = .returned (.string ⟨(numL n).toArray⟩) ∧ Below w.heap.size w w' := by
  obtain ⟨i0, hi, hz0, hz1, hz2⟩ := info_parts infoU8
  have HI : Hd (_ ∧ _ ∧ _ ∧ _) := ⟨⟨hi, hz0, hz1, hz2⟩⟩
  clear hi hz0 hz1 hz2
  obtain ⟨s, hs⟩ : ∃ s : ByteArray, (⟨(numL n).toArray⟩ : ByteArray) = s := ⟨_, rfl⟩
  have HBk : Hd (∀ W B v, Own W B 5 v (Lib.byteCells (numL n)) → (convert 68 9 v).run Tryd.prog W = .ok (.string s) W) := ⟨fun W B v h => by rw [← hs]; exact h.back⟩
  rw [hs]
  clear hs
  go_enter Tryd.func61, Tryd.ntmps61
  go_wp2
  go_loopw [0, 3] (fun m v wr => ∃ (k f : Nat) (acc : List UInt8), k < 128 ^ (f + 1) ∧ k < 18446744073709551616 ∧ acc.length + f = 9 ∧ m = .int .u64 k ∧ Own wr w.heap.size 5 v (Lib.byteCells acc) ∧ Below w.heap.size w wr ∧ Hd (numL n = acc ++ numF f k)) (fun m _ _ => match m with | .int _ k => k.toNat | _ => 0)
  case atStart => exact ⟨n, 9, [], by omega, hn, rfl, rfl, Own.nil _ _ _, Below.refl _ _, ⟨rfl⟩⟩
  case round =>
    obtain ⟨k, f, acc, hk, hk64, hacc, rfl, hO, hB, hN⟩ := hrel
    have HO := Hd.mk hO
    have HB := Hd.mk hB
    have hsz := hB.size
    have bl := bc_len acc
    by_cases hlt : k < 128
    · have hd : decide (128 ≤ (k : Int)) = false := by simp; omega
      have e1 : numL n = acc ++ [UInt8.ofNat k] := by rw [hN.out, numF_low f k hlt]
      have eb : ((UInt8.ofNat k).toNat : Int) = (k : Int) := by have : (UInt8.ofNat k).toNat = k := by simp; omega
                                                                omega
      have ew : IntKind.u8.wrap (k : Int) = (k : Int) := by rw [IntKind.wrap_u8]; omega
      have E1 := Hd.mk e1
      clear e1 hO hB hN hk hk64
      go_wp2_with (at_builtin; refine wp_app1 rfl _ _ 68 rfl 5 Tryd.underlying68 HI.out.1 HI.out.2.1 HI.out.2.2.1 HI.out.2.2.2 rfl u3 _ _ _ rfl HO.out rfl rfl (by unfold maxLen; omega) (by omega) (by omega) ?_)
      intro v' w' hO' hK' _
      rw [← eb, bc_snoc, ← E1.out] at hO'
      have hback := HBk.out _ _ _ hO'
      have HX : Hd (Below w.heap.size w w') := ⟨HB.out.trans (hK'.below hsz (fun g hg h => by have := (HO.out.lt h).1; omega))⟩
      clear hO' hK'
      go_wp2
      go_ret
      exact ⟨rfl, HX.out⟩
    · have hd : decide (128 ≤ (k : Int)) = true := by simp; omega
      obtain ⟨f', rfl, hk'⟩ := num_step hk hlt
      obtain ⟨b, hb, b1, b2, b3⟩ := ref_byte k
      have e1 : numL n = (acc ++ [b]) ++ numF f' (k / 128) := by rw [hN.out, numF_more f' k hlt, hb]; simp
      have E1 := Hd.mk e1
      obtain ⟨r, hr⟩ : ∃ r, k % 128 = r := ⟨_, rfl⟩
      obtain ⟨q, hq⟩ : ∃ q, k / 128 = q := ⟨_, rfl⟩
      rw [hr] at b1 b2 b3
      rw [hq] at hk' E1
      have t1 : (k : Int).tmod 128 = (r : Int) := by rw [Int.tmod_eq_emod_of_nonneg (by omega)]; omega
      have t2 : (k : Int) % 128 = (r : Int) := by omega
      have t3 : (k : Int).tdiv 128 = (q : Int) := by rw [Int.tdiv_eq_ediv_of_nonneg (by omega)]; omega
      have t4 : (k : Int) / 128 = (q : Int) := by omega
      have t5 : IntKind.u64.wrap (q : Int) = (q : Int) := by rw [IntKind.wrap_u64]; omega
      have t6 : IntKind.u8.wrap (b.toNat : Int) = (b.toNat : Int) := by have := b.toNat_lt; rw [IntKind.wrap_u8]; omega
      have HQ := Hd.mk (And.intro hk' (show q < 18446744073709551616 ∧ q < k by omega))
      clear e1 hO hB hN hk hk64 hb hr hq hk'
      go_wp2_with (at_builtin; refine wp_app1 rfl _ _ 68 rfl 5 Tryd.underlying68 HI.out.1 HI.out.2.1 HI.out.2.2.1 HI.out.2.2.2 rfl u3 _ _ _ rfl HO.out rfl rfl (by unfold maxLen; omega) (by omega) (by omega) ?_)
      intro v' w' hO' hK' _
      rw [bc_snoc] at hO'
      have HX : Hd (Own w' w.heap.size 5 v' (Lib.byteCells (acc ++ [b])) ∧ Below w.heap.size w w') := ⟨hO', HB.out.trans (hK'.below hsz (fun g hg h => by have := (HO.out.lt h).1; omega))⟩
      clear hO' hK'
      go_wp2
      go_roundw
      case rel => exact ⟨q, f', acc ++ [b], HQ.out.1, HQ.out.2.1, by rw [List.length_append]; show acc.length + 1 + f' = 9; omega, rfl, HX.out.1, HX.out.2, E1⟩
      case measure => exact HQ.out.2.2

set_option maxHeartbeats 1000000 in
theorem r2num_any (n : Nat) (hn : n ≤ 9223372036854775807) (w : World) :
    Calls Tryd.prog 60 #[.int .i64 n] w fun e w' => e = .returned (.string ⟨(numL n).toArray⟩) ∧ Below w.heap.size w w' := by
  have hd : decide ((n : Int) < 0) = false := by simp
  have hc : IntKind.u64.wrap (n : Int) = (n : Int) := by rw [IntKind.wrap_u64]; omega
  have HC := Hd.mk (fun w => groups_any n (by omega) w)
  obtain ⟨s, hs⟩ : ∃ s : ByteArray, (⟨(numL n).toArray⟩ : ByteArray) = s := ⟨_, rfl⟩
  rw [hs] at HC ⊢
  clear hn hs
  go_enter Tryd.func60, Tryd.ntmps60
  go_wp2_with fail
  refine (HC.out _).mono ?_
  rintro e w1 ⟨rfl, hB⟩
  have HB := Hd.mk hB
  clear hB
  go_wp2
  go_ret
  exact ⟨rfl, HB.out⟩

set_option maxHeartbeats 1000000 in
theorem r2num_neg (n : Int) (hn : n < 0) (w : World) :
    Calls Tryd.prog 60 #[.int .i64 n] w fun e w' => e = .returned (.string ⟨#[]⟩) ∧ w = w' := by
  have hd : decide (n < 0) = true := by simpa using hn
  go_enter Tryd.func60, Tryd.ntmps60
  go_wp2
  go_ret
  exact ⟨rfl, rfl⟩

set_option maxHeartbeats 1000000 in
theorem r2text_any (s : ByteArray) (hs : s.size ≤ 1000000000) (w : World) :
    Calls Tryd.prog 53 #[.string s] w fun e w' => e = .returned (.string ⟨(textL s.data.toList).toArray⟩) ∧ Below w.heap.size w w' := by
  have hl : (⟨(numL s.size).toArray⟩ : ByteArray).size ≤ 10 := numL_len s.size
  have he := Hd.mk (text_eq s)
  have HC := Hd.mk (fun w => r2num_any s.size (by omega) w)
  obtain ⟨t, ht⟩ : ∃ t : ByteArray, (⟨(numL s.size).toArray⟩ : ByteArray) = t := ⟨_, rfl⟩
  rw [ht] at hl he HC
  rw [← he.out]
  have hsum : ¬ 9223372036854775807 < t.size + s.size := by omega
  clear ht
  go_enter Tryd.func53, Tryd.ntmps53
  go_wp2_with fail
  refine (HC.out _).mono ?_
  rintro e w1 ⟨rfl, hB⟩
  have HB := Hd.mk hB
  clear hB
  go_wp2
  go_ret
  exact ⟨rfl, HB.out⟩

end Go.Proofs.YtimbhnnidohmaaaDoor.W
