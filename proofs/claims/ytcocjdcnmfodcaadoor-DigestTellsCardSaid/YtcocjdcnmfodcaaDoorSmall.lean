/-
  The walk of the law's own examples: they hold.
-/
import Derived.Test.YtcocjdcnmfodcaaDoorSum
import Derived.Test.YtcocjdcnmfodcaaDoorCrc
import Derived.Test.YtcocjdcnmfodcaaDoorUnhex
import Derived.Test.YtcocjdcnmfodcaaDoorVal
namespace Go.Proofs.YtcocjdcnmfodcaaDoor.W
open Go.RowKit
set_option linter.unusedVariables false

theorem Tabs.below {w w' : World} (h : Tabs w) (b : Below w.heap.size w w') : Tabs w' :=
  h.keeps (Keeps.of_below (S := fun k => w.heap.size ≤ k) b (fun k _ h => h)) (by have := h.lt; omega) (by have := h.lt; omega)

theorem sumL_len (l : List UInt8) : (sumL l).length = 32 := by simp [sumL, outN]

theorem small_any (w : World) (hT : Tabs w) :
    Calls Tryd.prog 9 #[] w fun e w' => e = .returned (.bool true) ∧ Below w.heap.size w w' := by
  have HT := Hd.mk hT
  clear hT
  go_enter Tryd.func9, Tryd.ntmps9
  go_wp2_with fail
  refine (unhex_any _ _ (by decide)).mono ?_
  rintro e w1 ⟨rfl, b1⟩
  have T1 := Hd.mk (HT.out.below b1)
  have B1 := Hd.mk b1
  clear b1
  go_wp2_with fail
  refine (unhex_any _ _ (by decide)).mono ?_
  rintro e w2 ⟨rfl, b2⟩
  have T2 := Hd.mk (T1.out.below b2)
  have B2 := Hd.mk (Below.chain B1.out b2)
  clear b2 B1 T1
  go_wp2_with fail
  refine (sum_any _ _ T2.out (by decide)).mono ?_
  rintro e w3 ⟨rfl, b3⟩
  obtain ⟨q, hq⟩ : ∃ q, sumL [97, 98, 99] = q := ⟨_, rfl⟩
  have hql : q.length = 32 := by rw [← hq, sumL_len]
  have va := v_abc
  rw [show ({ data := #[97, 98, 99] } : ByteArray).data.toList = [97, 98, 99] from rfl, hq]
  rw [hq] at va
  have VA := Hd.mk va
  have hs3 : (⟨q.toArray⟩ : ByteArray).size = 32 := hql
  have T3 := Hd.mk (T2.out.below b3)
  have B3 := Hd.mk (Below.chain B2.out b3)
  have V1 := v_one
  have V2 := v_two
  have V3 := v_s
  clear b3 B2 T2 hq hql va
  go_wp2_with fail
  refine (hex_any _ _ (by omega)).mono ?_
  rintro e w4 ⟨rfl, b4⟩
  rw [show ({ data := q.toArray } : ByteArray).data.toList = q from rfl, VA.out]
  have T4 := Hd.mk (T3.out.below b4)
  have B4 := Hd.mk (Below.chain B3.out b4)
  clear b4 B3 T3 hs3 VA
  unfold abcL
  go_wp2_with fail
  refine (sum_any _ _ T4.out (by decide)).mono ?_
  rintro e w5 ⟨rfl, b5⟩
  obtain ⟨q, hq⟩ : ∃ q, sumL [] = q := ⟨_, rfl⟩
  have hql : q.length = 32 := by rw [← hq, sumL_len]
  have va := v_empty
  rw [show ({ data := #[] } : ByteArray).data.toList = [] from rfl, hq]
  rw [hq] at va
  have VA := Hd.mk va
  have hs3 : (⟨q.toArray⟩ : ByteArray).size = 32 := hql
  have T5 := Hd.mk (T4.out.below b5)
  have B5 := Hd.mk (Below.chain B4.out b5)
  clear b5 B4 T4 hq hql va
  go_wp2_with fail
  refine (hex_any _ _ (by omega)).mono ?_
  rintro e w6 ⟨rfl, b6⟩
  rw [show ({ data := q.toArray } : ByteArray).data.toList = q from rfl, VA.out]
  have B6 := Hd.mk (Below.chain B5.out b6)
  clear b6 B5 T5 hs3 VA
  unfold emptyL
  go_wp2_with fail
  refine (crc_any _ _ (by decide)).mono ?_
  rintro e w7 ⟨rfl, rfl⟩
  rw [show ({ data := #[49, 50, 51, 52, 53, 54, 55, 56, 57] } : ByteArray).data.toList = [49, 50, 51, 52, 53, 54, 55, 56, 57] from rfl, v_crc]
  go_wp2_with fail
  refine (crc_any _ _ (by decide)).mono ?_
  rintro e w7 ⟨rfl, rfl⟩
  rw [show ({ data := #[] } : ByteArray).data.toList = [] from rfl, v_crc0]
  go_wp2_with fail
  go_ret
  exact ⟨rfl, B6.out⟩

end Go.Proofs.YtcocjdcnmfodcaaDoor.W
