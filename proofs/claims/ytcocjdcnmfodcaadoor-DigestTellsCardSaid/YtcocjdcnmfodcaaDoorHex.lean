/-
  The walk of the program's Hex, for strings of at most 10^9 bytes.
-/
import Derived.Test.YtcocjdcnmfodcaaDoorHexP
import Derived.Test.YtcocjdcnmfodcaaDoorCrcP
import Derived.Test.YtcocjdcnmfodcaaDoorBld
import Derived.Test.YtcocjdcnmfodcaaDoorShelf
namespace Go.Proofs.YtcocjdcnmfodcaaDoor.W
open Go.RowKit
set_option linter.unusedVariables false

theorem bc_snoc (l : List UInt8) (b : UInt8) : Lib.byteCells l ++ [.int .u8 (b.toNat : Int)] = Lib.byteCells (l ++ [b]) := by simp [Lib.byteCells]
theorem bc_len (l : List UInt8) : (Lib.byteCells l).length = l.length := by simp [Lib.byteCells]

theorem hex_put {B b : Nat} (l : List UInt8) (n : Nat) (h : n < 16) {W : World} (hI : Lib.IsBuilder 35 5 B b (Lib.byteCells l ++ [.int .u8 ((digitS[n]'h).toNat : Int)]) W) :
    Lib.IsBuilder 35 5 B b (Lib.byteCells (l ++ [dig n])) W := by
  rw [dig_at n h, bc_snoc] at hI
  exact hI

set_option maxHeartbeats 1000000 in
set_option maxRecDepth 100000 in
theorem hex_any (s : ByteArray) (w : World) (hs : s.size ≤ 1000000000) :
    Calls Tryd.prog 10 #[.string s] w fun e w' => e = .returned (.string ⟨(hexL s.data.toList).toArray⟩) ∧ Below w.heap.size w w' := by
  have HF := Hd.mk (Lib.fresh_isBuilder 35 5 w)
  go_enter Tryd.func10, Tryd.ntmps10
  go_wp2
  go_loopw [7] (fun i wr => ∃ k : Nat, k ≤ s.size ∧ i = .int .i64 k ∧ Lib.IsBuilder 35 5 w.heap.size w.heap.size (Lib.byteCells (hexL (s.data.toList.take k))) wr ∧ Below w.heap.size w wr) (fun i _ => s.size - (intOf i).toNat)
  case atStart => exact ⟨0, Nat.zero_le _, rfl, HF.out, by go_grown⟩
  case round =>
    obtain ⟨k, hk, rfl, hI, hB⟩ := hrel
    by_cases hlt : k < s.size
    · have ht := Hd.mk (take_snoc s k hlt)
      have hb := s[k].toNat_lt
      have hlen := hexL_len (s.data.toList.take k)
      have hlen2 : (s.data.toList.take k).length ≤ k := List.length_take_le _ _
      have HI := Hd.mk hI
      have HB := Hd.mk hB
      have hsz := hB.size
      have bl := bc_len (hexL (s.data.toList.take k))
      clear hI hB
      go_wp2_with fail
      refine (write_any w.heap.size w.heap.size _ _ _ HI.out (by omega) (by omega)).mono ?_
      rintro e w6 ⟨rfl, hI6, hB6⟩
      have hI7 := Hd.mk (hex_put _ _ (by omega) hI6)
      have hs6 := hB6.size
      have HB6 := Hd.mk hB6
      have bl7 := bc_len (hexL (s.data.toList.take k) ++ [dig (s[k].toNat / 16)])
      have bl8 : (hexL (s.data.toList.take k) ++ [dig (s[k].toNat / 16)]).length = (hexL (s.data.toList.take k)).length + 1 := by simp
      clear hI6 hB6
      go_wp2_with fail
      refine (write_any w.heap.size w.heap.size _ _ _ hI7.out (by omega) (by omega)).mono ?_
      rintro e w7 ⟨rfl, hI8, hB8⟩
      have hI9 := Hd.mk (hex_put _ _ (by omega) hI8)
      have HB8 := Hd.mk hB8
      clear hI8 hB8 bl8 bl7 bl hlen
      go_wp2
      go_roundw
      case rel => exact ⟨k + 1, by omega, by go_num, by rw [ht.out, hexL_snoc]; exact hI9.out, (HB.out.trans HB6.out).trans HB8.out⟩
      case measure => simp [intOf]; omega
    · have et : s.data.toList.take k = s.data.toList := List.take_of_length_le (by simp; omega)
      rw [et] at hI
      have HI := Hd.mk hI
      have hsz := hB.size
      have HB := Hd.mk hB
      clear hI hB et
      go_wp2_with fail
      refine (_root_.Go.Proofs.Tryd.Builder_String_any w.heap.size w.heap.size (hexL s.data.toList) _ HI.out hsz).mono ?_
      rintro e w6 ⟨rfl, hB6⟩
      go_wp2
      go_ret
      exact ⟨rfl, HB.out.trans hB6⟩

end Go.Proofs.YtcocjdcnmfodcaaDoor.W
