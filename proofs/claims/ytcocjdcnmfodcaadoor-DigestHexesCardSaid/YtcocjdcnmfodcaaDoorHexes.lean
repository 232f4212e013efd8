/-
  DigestHexes: the plain law and the walk.
-/
import Derived.Test.YtcocjdcnmfodcaaDoorSmall
import Derived.Test.YtcocjdcnmfodcaaDoorTab
namespace Go.Proofs.YtcocjdcnmfodcaaDoor.W
open Go.RowKit
set_option linter.unusedVariables false

theorem hv_dig (n : Nat) (h : n < 16) : hv (dig n) = n := by
  have : ∀ m : Fin 16, hv (dig m.val) = (m.val : Int) := by decide
  exact this ⟨n, h⟩

theorem dig_hv (c : UInt8) (h : 0 ≤ hv c) : dig (hv c).toNat = c := by
  have : ∀ m : Fin 256, 0 ≤ hv (UInt8.ofNat m.val) → dig (hv (UInt8.ofNat m.val)).toNat = UInt8.ofNat m.val := by decide +kernel
  have := this ⟨c.toNat, c.toNat_lt⟩
  rw [show UInt8.ofNat c.toNat = c from UInt8.ofNat_toNat] at this
  exact this h

theorem unhex_hex : ∀ l : List UInt8, unhexR (hexL l) = some l
  | [] => rfl
  | b :: l => by
    have hb := b.toNat_lt
    show unhexR (dig (b.toNat / 16) :: dig (b.toNat % 16) :: hexL l) = _
    rw [unhexR, hv_dig _ (by omega), hv_dig _ (by omega), if_neg (by omega), unhex_hex l]
    have e : (16 * ((b.toNat / 16 : Nat) : Int) + ((b.toNat % 16 : Nat) : Int)).toNat = b.toNat := by omega
    rw [e, show UInt8.ofNat b.toNat = b from UInt8.ofNat_toNat]
    rfl

theorem hex_unhex : ∀ (h b : List UInt8), unhexR h = some b → hexL b = h
  | [], b, e => by simp [unhexR] at e; subst e; rfl
  | [_], b, e => by simp [unhexR] at e
  | x :: y :: r, b, e => by
    rw [unhexR] at e
    split at e
    · cases e
    · rename_i hn
      obtain ⟨t, ht, rfl⟩ := Option.map_eq_some_iff.1 e
      have ih := hex_unhex r t ht
      have hx := hv_bd x
      have hy := hv_bd y
      have dx := dig_hv x (by omega)
      have dy := dig_hv y (by omega)
      have e1 : (UInt8.ofNat (16 * hv x + hv y).toNat).toNat = (16 * hv x + hv y).toNat := by simp; omega
      show dig ((UInt8.ofNat (16 * hv x + hv y).toNat).toNat / 16) :: dig ((UInt8.ofNat (16 * hv x + hv y).toNat).toNat % 16) :: hexL t = _
      rw [e1, ih, show (16 * hv x + hv y).toNat / 16 = (hv x).toNat by omega, show (16 * hv x + hv y).toNat % 16 = (hv y).toNat by omega, dx, dy]

theorem un_len : ∀ (h b : List UInt8), unhexR h = some b → b.length ≤ h.length := by
  intro h b e
  have := hexL_len b
  rw [hex_unhex h b e] at this
  omega

set_option maxHeartbeats 1000000 in
set_option maxRecDepth 100000 in
theorem hexes_any (s h : ByteArray) (hs : s.size ≤ maxLen) (hh : h.size ≤ maxLen) (w : World) (hT : Tabs w) :
    Calls Tryd.prog 3 #[.string s, .string h] w fun e w' => e = .returned (.bool true) ∧ Below w.heap.size w w' := by
  have HT := Hd.mk hT
  unfold maxLen at hs hh
  clear hT
  go_enter Tryd.func3, Tryd.ntmps3
  go_wp2_with fail
  refine (small_any _ HT.out).mono ?_
  rintro e w1 ⟨rfl, b1⟩
  by_cases hbig : s.size ≤ 2000
  · by_cases hbig2 : h.size ≤ 2000
    · have B1 := Hd.mk b1
      clear b1 HT
      go_wp2_with fail
      refine (hex_any _ _ (by omega)).mono ?_
      rintro e w2 ⟨rfl, b2⟩
      have B2 := Hd.mk (Below.chain B1.out b2)
      obtain ⟨x, hx⟩ : ∃ x : ByteArray, (⟨(hexL s.data.toList).toArray⟩ : ByteArray) = x := ⟨_, rfl⟩
      have hxs : x.size = 2 * s.size := by
        rw [← hx]
        show (hexL s.data.toList).toArray.size = _
        rw [List.size_toArray, hexL_len]; simp
      have hxl : x.data.toList = hexL s.data.toList := by rw [← hx]
      have u1 : unhexS x.data.toList = s.data.toList := by rw [hxl, unhexS, unhex_hex]; rfl
      have u2 : unhexB x.data.toList = true := by rw [hxl, unhexB, unhex_hex]; rfl
      rw [hx]
      have U1 := Hd.mk u1
      have U2 := Hd.mk u2
      clear b2 B1 hx hxl u1 u2
      go_wp2_with fail
      refine (unhex_any _ _ (by omega)).mono ?_
      rintro e w3 ⟨rfl, b3⟩
      rw [U1.out, U2.out]
      have B3 := Hd.mk (Below.chain B2.out b3)
      clear b3 B2
      go_wp2_with fail
      refine (unhex_any _ _ (by omega)).mono ?_
      rintro e w4 ⟨rfl, b4⟩
      have B4 := Hd.mk (Below.chain B3.out b4)
      clear b4 B3 U1 U2
      have sE : (⟨s.data.toList.toArray⟩ : ByteArray) = s := rfl
      rcases hr : unhexR h.data.toList with _ | b
      · have v1 : unhexS h.data.toList = [] := by rw [unhexS, hr]; rfl
        have v2 : unhexB h.data.toList = false := by rw [unhexB, hr]; rfl
        rw [v1, v2]
        clear hr v1 v2
        go_wp2
        go_ret
        exact ⟨rfl, B4.out⟩
      · have v1 : unhexS h.data.toList = b := by rw [unhexS, hr]; rfl
        have v2 : unhexB h.data.toList = true := by rw [unhexB, hr]; rfl
        have v3 := hex_unhex _ _ hr
        have v4 := un_len _ _ hr
        rw [v1, v2]
        have V3 := Hd.mk v3
        have hbs : (⟨b.toArray⟩ : ByteArray).size ≤ 2000 := by
          show b.toArray.size ≤ _
          simp at v4 ⊢; omega
        clear hr v1 v2 v3 v4
        go_wp2_with fail
        refine (hex_any _ _ (by omega)).mono ?_
        rintro e w5 ⟨rfl, b5⟩
        have B5 := Hd.mk (Below.chain B4.out b5)
        rw [show ({ data := b.toArray } : ByteArray).data.toList = b from rfl, V3.out]
        clear b5
        go_wp2
        go_ret
        exact ⟨rfl, B5.out⟩
    · go_wp2_with fail
      go_ret
      exact ⟨rfl, b1⟩
  · go_wp2_with fail
    go_ret
    exact ⟨rfl, b1⟩

end Go.Proofs.YtcocjdcnmfodcaaDoor.W
