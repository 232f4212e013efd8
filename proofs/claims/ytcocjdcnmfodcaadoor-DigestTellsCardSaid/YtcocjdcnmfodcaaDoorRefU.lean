/-
  The reference's value, Unhex: the walks.
-/
import Derived.Test.YtcocjdcnmfodcaaDoorRef
import Derived.Test.YtcocjdcnmfodcaaDoorUnhex
namespace Go.Proofs.YtcocjdcnmfodcaaDoor.W
open Go.RowKit
set_option linter.unusedVariables false

theorem hv_eq (c : UInt8) : hv c = if 48 ≤ c.toNat ∧ c.toNat ≤ 57 then (c.toNat : Int) - 48 else if 97 ≤ c.toNat ∧ c.toNat ≤ 102 then (c.toNat : Int) - 87 else -1 := by
  have : ∀ m : Fin 256, hv (UInt8.ofNat m.val) = if 48 ≤ m.val ∧ m.val ≤ 57 then (m.val : Int) - 48 else if 97 ≤ m.val ∧ m.val ≤ 102 then (m.val : Int) - 87 else -1 := by decide +kernel
  have h := this ⟨c.toNat, c.toNat_lt⟩
  rwa [show UInt8.ofNat c.toNat = c from UInt8.ofNat_toNat] at h

set_option maxHeartbeats 1000000 in
theorem value_any (c : UInt8) (w : World) : Calls Tryd.prog 24 #[.int .u8 (c.toNat : Int)] w fun e w' => e = .returned (.int .i64 (hv c)) ∧ w = w' := by
  rw [hv_eq]
  have hc := c.toNat_lt
  generalize c.toNat = n at hc ⊢
  by_cases h1 : 48 ≤ n ∧ n ≤ 57
  · rw [if_pos h1]
    have d1 : decide ((48 : Int) ≤ (n : Int)) = true := by simp; omega
    have d2 : decide ((n : Int) ≤ 57) = true := by simp; omega
    go_enter Tryd.func24, Tryd.ntmps24
    go_wp2
    go_ret
    exact ⟨rfl, rfl⟩
  · rw [if_neg h1]
    by_cases h2 : 97 ≤ n ∧ n ≤ 102
    · rw [if_pos h2]
      have d1 : decide ((48 : Int) ≤ (n : Int)) = true := by simp; omega
      have d2 : decide ((n : Int) ≤ 57) = false := by simp; omega
      have d3 : decide ((97 : Int) ≤ (n : Int)) = true := by simp; omega
      have d4 : decide ((n : Int) ≤ 102) = true := by simp; omega
      go_enter Tryd.func24, Tryd.ntmps24
      go_wp2
      go_ret
      refine ⟨?_, rfl⟩
      have e : (n : Int) - 97 + 10 = (n : Int) - 87 := by omega
      rw [← e]
      rfl
    · rw [if_neg h2]
      go_enter Tryd.func24, Tryd.ntmps24
      go_wp2
      all_goals
        go_ret
        exact ⟨rfl, rfl⟩

set_option maxHeartbeats 1000000 in
set_option maxRecDepth 100000 in
theorem runhex_any (s : ByteArray) (w : World) (hs : s.size ≤ 1000000000) :
    Calls Tryd.prog 14 #[.string s] w fun e w' => e = .returned (.tuple #[.string ⟨(unhexS s.data.toList).toArray⟩, .bool (unhexB s.data.toList)]) ∧ Below w.heap.size w w' := by
  obtain ⟨i0, hi, hz0, hz1, hz2⟩ := info_parts infoU8
  have HI : Hd (_ ∧ _ ∧ _ ∧ _) := ⟨⟨hi, hz0, hz1, hz2⟩⟩
  clear hi hz0 hz1 hz2
  rcases Nat.mod_two_eq_zero_or_one s.size with h2 | h2
  · have hm : (s.size : Int) % 2 = 0 := by omega
    go_enter Tryd.func14, Tryd.ntmps14
    go_wp2
    go_loopw [4, 5] (fun v i wr => ∃ (j : Nat) (acc : List UInt8), j ≤ s.size ∧ j % 2 = 0 ∧ acc.length ≤ j ∧ i = .int .i64 j ∧ Own wr w.heap.size 5 v (Lib.byteCells acc) ∧ Below w.heap.size w wr ∧ Hd (unhexR s.data.toList = (unhexR (s.data.toList.drop j)).map (acc ++ ·))) (fun _ i _ => s.size - (intOf i).toNat)
    case atStart => exact ⟨0, [], Nat.zero_le _, rfl, Nat.le_refl _, rfl, Own.nil _ _ _, Below.refl _ _, ⟨by simp⟩⟩
    case round =>
      obtain ⟨j, acc, hj, hj2, hacc, rfl, hO, hB, hU⟩ := hrel
      have hev : ¬ j + 1 < s.size → j = s.size := by omega
      clear hm h2
      have HO := Hd.mk hO
      have HB := Hd.mk hB
      have hsz := hB.size
      by_cases hlt : j + 1 < s.size
      · have bl := bc_len acc
        have hd := Hd.mk (drop2 s j hlt)
        have hjs : decide ((j : Int) < (s.size : Int)) = true := by simp; omega
        obtain ⟨a, ha⟩ : ∃ a, s[j] = a := ⟨_, rfl⟩
        obtain ⟨b, hb⟩ : ∃ b, s[j + 1] = b := ⟨_, rfl⟩
        have n1 : ((j : Int) + 1).toNat = j + 1 := by omega
        have bda := hv_bd a
        have bdb := hv_bd b
        clear hO hB
        by_cases hbad : hv a < 0 ∨ hv b < 0
        · have hR := Hd.mk (unhex_bad _ s j a b hU.out hd.out ha hb hbad)
          have nb1 : (decide (hv a < 0)) = true ∨ (decide (hv a < 0) = false ∧ decide (hv b < 0) = true) := by
            rcases hbad with h | h
            · exact .inl (by simpa using h)
            · by_cases h' : hv a < 0
              · exact .inl (by simpa using h')
              · exact .inr ⟨by simpa using h', by simpa using h⟩
          rcases nb1 with n1 | ⟨n1, n2⟩
          all_goals
            go_wp2_with (go_at_call 24; refine (value_any _ _).mono ?_; rintro e w' ⟨rfl, rfl⟩)
            go_ret2
            exact ⟨by rw [unhexS, unhexB, hR.out]; rfl, HB.out⟩
        · have hR := Hd.mk (unhex_good _ s j a b acc hU.out hd.out ha hb hbad)
          have hna : decide (hv a < 0) = false := by simp; omega
          have hnb : decide (hv b < 0) = false := by simp; omega
          obtain ⟨x, hx⟩ : ∃ x : Nat, x = (16 * hv a + hv b).toNat := ⟨_, rfl⟩
          have ux : ((UInt8.ofNat x).toNat : Int) = 16 * hv a + hv b := by
            have : (UInt8.ofNat x).toNat = x := by simp; omega
            omega
          rw [← hx] at hR
          clear hx hbad hd hU
          go_wp2_with (first | (go_at_call 24; refine (value_any _ _).mono ?_; rintro e w' ⟨rfl, rfl⟩) | (at_builtin; refine wp_app1 rfl _ _ 30 rfl 5 Tryd.underlying30 HI.out.1 HI.out.2.1 HI.out.2.2.1 HI.out.2.2.2 rfl u4 _ _ _ rfl HO.out rfl rfl (by unfold maxLen; omega) (by omega) (by omega) ?_))
          intro v' w' hO' hK' _
          rw [← ux, bc_snoc] at hO'
          have HO3 := Hd.mk hO'
          have HB3 : Hd (Below w.heap.size w w') := ⟨HB.out.trans (hK'.below hsz (fun g hg h => by have := (HO.out.lt h).1; omega))⟩
          have s2 : IntKind.i64.wrap ((j : Int) + 2) = (j : Int) + 2 := IntWalk.i64_in _ (by omega)
          clear hO' hK' ux
          go_wp2
          go_roundw
          case rel => exact ⟨j + 2, acc ++ [UInt8.ofNat x], by omega, by omega, by simp; omega, rfl, HO3.out, HB3.out, hR⟩
          case measure => simp [intOf]; omega
      · have hje := hev hlt
        have hcv := hO.back
        have hR : Hd (unhexR s.data.toList = some acc) := ⟨by
          have := hU.out
          rw [hje, List.drop_of_length_le (by simp)] at this
          simpa [unhexR] using this⟩
        have hjs : decide ((j : Int) < (s.size : Int)) = false := by simp; omega
        have hnj : ¬ j < s.size := by omega
        clear hO hB hU hje hlt hev
        go_wp2
        go_ret2
        exact ⟨by rw [unhexS, unhexB, hR.out]; rfl, HB.out⟩
  · have hR := Hd.mk (unhex_odd s.data.toList (by simpa using h2))
    have hm : (s.size : Int) % 2 = 1 := by omega
    go_enter Tryd.func14, Tryd.ntmps14
    go_wp2
    go_ret2
    exact ⟨by rw [unhexS, unhexB, hR.out]; rfl, by go_grown⟩

end Go.Proofs.YtcocjdcnmfodcaaDoor.W
