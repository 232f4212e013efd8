/-
  DigestTells: the walk of the law.
-/
import Derived.Test.YtcocjdcnmfodcaaDoorRShort
import Derived.Test.YtcocjdcnmfodcaaDoorRefU
import Derived.Test.YtcocjdcnmfodcaaDoorCrc
import Derived.Test.YtcocjdcnmfodcaaDoorHex
import Derived.Test.YtcocjdcnmfodcaaDoorUnhex
import Derived.Test.YtcocjdcnmfodcaaDoorSmall
import Derived.Test.YtcocjdcnmfodcaaDoorTab
namespace Go.Proofs.YtcocjdcnmfodcaaDoor.W
open Go.RowKit
set_option linter.unusedVariables false

set_option maxHeartbeats 1000000 in
set_option maxRecDepth 100000 in
theorem tells_any (s h : ByteArray) (hs : s.size ≤ maxLen) (hh : h.size ≤ maxLen) (w : World) (hT : Tabs w) :
    Calls Tryd.prog 7 #[.string s, .string h] w fun e w' => e = .returned (.bool true) ∧ Below w.heap.size w w' := by
  have HT := Hd.mk hT
  unfold maxLen at hs hh
  clear hT
  go_enter Tryd.func7, Tryd.ntmps7
  go_wp2_with fail
  refine (small_any _ HT.out).mono ?_
  rintro e w1 ⟨rfl, b1⟩
  by_cases hbig : s.size ≤ 2000
  · by_cases hbig2 : h.size ≤ 2000
    · have B1 := Hd.mk b1
      have T1 := Hd.mk (HT.out.below b1)
      clear b1 HT
      go_wp2_with fail
      refine (unhex_any _ _ (by omega)).mono ?_
      rintro e w2 ⟨rfl, b2⟩
      have B2 := Hd.mk (Below.chain B1.out b2)
      have T2 := Hd.mk (T1.out.below b2)
      obtain ⟨u, hu⟩ : ∃ u : ByteArray, (⟨(unhexS h.data.toList).toArray⟩ : ByteArray) = u := ⟨_, rfl⟩
      obtain ⟨v, hv⟩ : ∃ v, unhexB h.data.toList = v := ⟨_, rfl⟩
      have HU := Hd.mk hu
      have HV := Hd.mk hv
      rw [hu, hv]
      clear b2 B1 T1 hu hv
      go_wp2_with fail
      refine (runhex_any _ _ (by omega)).mono ?_
      rintro e w3 ⟨rfl, b3⟩
      have B3 := Hd.mk (Below.chain B2.out b3)
      have T3 := Hd.mk (T2.out.below b3)
      rw [HU.out, HV.out]
      clear b3 B2 T2
      go_wp2_with fail
      refine (sum_any _ _ T3.out (by omega)).mono ?_
      rintro e w4 ⟨rfl, b4⟩
      have B4 := Hd.mk (Below.chain B3.out b4)
      have T4 := Hd.mk (T3.out.below b4)
      obtain ⟨q, hq⟩ : ∃ q : ByteArray, (⟨(sumL s.data.toList).toArray⟩ : ByteArray) = q := ⟨_, rfl⟩
      have HQ := Hd.mk hq
      rw [hq]
      clear b4 B3 T3 hq
      go_wp2_with fail
      refine (rsum_any _ (by omega) _).mono ?_
      rintro e w5 ⟨rfl, b5⟩
      have B5 := Hd.mk (Below.chain B4.out b5)
      have T5 := Hd.mk (T4.out.below b5)
      rw [HQ.out]
      clear b5 B4 T4
      go_wp2_with fail
      refine (short_any _ _ T5.out (by omega)).mono ?_
      rintro e w6 ⟨rfl, b6⟩
      have B6 := Hd.mk (Below.chain B5.out b6)
      obtain ⟨n, hn⟩ : ∃ n, shortL s.data.toList = n := ⟨_, rfl⟩
      have HN := Hd.mk hn
      rw [hn]
      clear b6 B5 T5 hn
      go_wp2_with fail
      refine (rshort_any _ (by omega) _).mono ?_
      rintro e w7 ⟨rfl, b7⟩
      have B7 := Hd.mk (Below.chain B6.out b7)
      rw [HN.out]
      clear b7 B6
      go_wp2_with fail
      refine (crc_any _ _ (by unfold maxLen; omega)).mono ?_
      rintro e w8 ⟨rfl, rfl⟩
      obtain ⟨c, hc⟩ : ∃ n, crcL s.data.toList = n := ⟨_, rfl⟩
      have HC := Hd.mk hc
      rw [hc]
      clear hc
      go_wp2_with fail
      refine (rcrc_any _ _ (by unfold maxLen; omega)).mono ?_
      rintro e w8 ⟨rfl, rfl⟩
      rw [HC.out]
      go_wp2_with fail
      refine (hex_any _ _ (by omega)).mono ?_
      rintro e w9 ⟨rfl, b9⟩
      have B9 := Hd.mk (Below.chain B7.out b9)
      obtain ⟨x, hx⟩ : ∃ q : ByteArray, (⟨(hexL s.data.toList).toArray⟩ : ByteArray) = q := ⟨_, rfl⟩
      have HX := Hd.mk hx
      rw [hx]
      clear b9 B7 hx
      go_wp2_with fail
      refine (rhex_any _ _ (by omega)).mono ?_
      rintro e w10 ⟨rfl, b10⟩
      have B10 := Hd.mk (Below.chain B9.out b10)
      rw [HX.out]
      clear b10 B9
      go_wp2
      go_ret
      exact ⟨rfl, B10.out⟩
    · go_wp2_with fail
      go_ret
      exact ⟨rfl, b1⟩
  · go_wp2_with fail
    go_ret
    exact ⟨rfl, b1⟩

end Go.Proofs.YtcocjdcnmfodcaaDoor.W
