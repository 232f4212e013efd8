/-
  Plain laws of Write and Read: what is written is read; halves; ranges. No program.
-/
import Derived.Test.YtmngicdgapkbmaaDoorP
import Derived.Test.YtmngicdgapkbmaaDoorWrt15
import Derived.Test.YtmngicdgapkbmaaDoorVal15
namespace Go.Proofs.YtmngicdgapkbmaaDoor.W
open Go.RowKit
set_option linter.unusedVariables false

theorem get_back_sg (n : Int) (k : Nat) (sg : Bool) (hk : k = 1 ∨ k = 2 ∨ k = 4 ∨ k = 8) (h1 : -9223372036854775808 ≤ n) (h2 : n ≤ 9223372036854775807)
    (hf : k = 8 ∨ fitsB n (8 * k) sg = true) : getI ((IntKind.u64.wrap n).toNat % 256 ^ k) k sg = n := by
  have h0 : (IntKind.u64.wrap n).toNat = (n % 18446744073709551616).toNat := by rw [IntKind.wrap_u64]
  rw [h0]
  cases sg <;> rcases hk with rfl | rfl | rfl | rfl <;> simp [fitsB] at hf <;> simp [getI] <;> (try split) <;> omega

theorem back_sg {s : ByteArray} {a k n : Int} (sg : Bool) (h1 : -9223372036854775808 ≤ n) (h2 : n ≤ 9223372036854775807) (h : putOk s a k n = true) (hg : k = 8 ∨ fitsB n (8 * k) sg = true) :
    getP (putS s a k n) a k sg = (n, true) ∧ (putS s a k n).size = s.size := by
  obtain ⟨hf, hF⟩ := ok_iff h
  obtain ⟨k1, k2, k3⟩ := fieldB_iff.1 hf
  obtain ⟨a, rfl⟩ := Int.eq_ofNat_of_zero_le k2
  obtain ⟨k, rfl⟩ := Int.eq_ofNat_of_zero_le (show 0 ≤ k by omega)
  have e : putS s a k n = ⟨(putL s a k n).toArray⟩ := by rw [putS, if_pos h]; simp
  have hz := put_size s a k n
  rw [e]
  refine ⟨?_, hz⟩
  rw [getP, hz, if_pos hf]
  simp only [Int.toNat_natCast]
  rw [cut_put s a k n (by omega), le_byteL, get_back_sg n k sg (by omega) h1 h2 (hg.imp (fun h => by omega) id)]

def e8 : ByteArray := ⟨#[49, 50, 51, 52, 53, 54, 55, 56]⟩
theorem e8_size : e8.size = 8 := rfl

/-- the text that Write makes of 12345678 -/
def w8 (u : Int) : ByteArray := putS e8 0 8 u
theorem write_0 (u : Int) (h : i64R u) : write15 e8 0 0 u = (w8 u, true) ∧ read15 (w8 u) 0 0 = (u, true) ∧ (w8 u).size = 8 := by
  unfold i64R at h
  have hok : putOk e8 0 8 u = true := ok_8 e8 0 u (by decide) h.1 h.2
  have hb := back_sg (s := e8) (a := 0) (k := 8) true h.1 h.2 hok (.inl rfl)
  have ho : offI 0 = 0 := by decide
  have hz : sizeI 0 = 8 := by decide
  have hc : code15 0 = false := by decide
  have hp : wPre e8 0 0 u = true := by
    have hk0 : isK 0 = true := by decide
    have : fits15 0 u = true := by unfold fits15; rw [hz, hk0]; rfl
    unfold wPre; rw [this]; decide
  refine ⟨?_, ?_, hb.2⟩
  · unfold write15; rw [if_pos hp, hc]
    unfold wOk wOut; rw [ho, hz]
    rw [show (0 : Int) + 0 = 0 from rfl, hok]; rfl
  · unfold read15
    have : readOk (w8 u) 0 0 = true := by unfold readOk w8; rw [hb.2]; decide
    rw [if_pos this, ho, hz]
    exact hb.1

theorem halves_ok (x : Wh) (hx : WhOk x) : fits15 8 (val15 8 x) = true ∧ fits15 9 (val15 9 x) = true ∧ val15 0 x = sumW x ∧ i64R (sumW x) ∧ i64R (val15 8 x) ∧ i64R (val15 9 x) ∧
    wrap64 (wrap64 (val15 9 x * 4294967296) + val15 8 x % 4294967296) = sumW x := by
  obtain ⟨u, hu⟩ : ∃ u, sumW x = u := ⟨_, rfl⟩
  have hr : i64R u := by rw [← hu]; unfold sumW i64R wrap64; omega
  have e0 : val15 0 x = u := hu
  have e8 : val15 8 x = IntKind.i32.wrap u := by rw [← hu]; rfl
  have e9 : val15 9 x = u / 4294967296 := by rw [← hu]; rfl
  unfold i64R at hr
  have hw : IntKind.i32.wrap u = (u + 2147483648) % 4294967296 - 2147483648 := by rw [IntKind.wrap_i32]
  have z8 : sizeI 8 = 4 := by decide
  have z9 : sizeI 9 = 4 := by decide
  have k8 : isK 8 = true := by decide
  have k9 : isK 9 = true := by decide
  refine ⟨?_, ?_, e0.trans hu.symm ▸ rfl, hu ▸ hr, ?_, ?_, ?_⟩
  · rw [e8, hw]; unfold fits15; rw [k8, z8]; simp [fitsB]; omega
  · rw [e9]; unfold fits15; rw [k9, z9]; simp [fitsB]; omega
  · rw [e8, hw]; unfold i64R; omega
  · rw [e9]; unfold i64R; omega
  · rw [e8, e9, hw, hu]; unfold wrap64; omega

end Go.Proofs.YtmngicdgapkbmaaDoor.W
