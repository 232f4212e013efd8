/-
  The walk of the reference's Put, for strings of at most 1000 bytes.
-/
import Derived.Test.YtlohhlbbkliehaaGreatDoorE
namespace Go.Proofs.YtlohhlbbkliehaaGreatDoor.W
open Go.RowKit
set_option linter.unusedVariables false

/-- a string of one byte -/
theorem one_byte (w : World) (y : Int) (h0 : 0 ≤ y) (h1 : y < 256) :
    (convert 43 9 (.slice (some ⟨w.heap.size, 0, none⟩) 1 1)).run Tryz.prog (w.alloc (.cells #[.int .u8 y] 5)) = .ok (.string ⟨#[UInt8.ofNat y.toNat]⟩) (w.alloc (.cells #[.int .u8 y] 5)) := by
  have := run_convert_bytes_back (P := Tryz.prog) (w.alloc (.cells #[.int .u8 y] 5)) 43 9 5 ⟨w.heap.size, 0, none⟩ 1 [UInt8.ofNat y.toNat] Tryz.underlying43 Tryz.underlying5 Tryz.underlying9 (fun j hj => by
    obtain rfl : j = 0 := by simpa using hj
    have e : (⟨w.heap.size, 0, none⟩ : Addr).add 0 = ⟨w.heap.size, 0, none⟩ := rfl
    rw [e, World.cell?_alloc_new]
    simp
    omega)
  exact this

def byteL (n : Int) (j : Nat) : List UInt8 := (List.range j).map fun i => UInt8.ofNat (byteOf n i).toNat

/-- the text before the round j -/
def pre (s : ByteArray) (a j : Nat) (n : Int) : List UInt8 := s.data.toList.take a ++ byteL n j

theorem extract_pre (s : ByteArray) (a : Nat) (n : Int) : s.extract 0 a = ⟨(pre s a 0 n).toArray⟩ := by
  apply ByteArray.ext
  rw [ByteArray.data_extract]
  apply Array.ext'
  simp [pre, byteL]

theorem pre_size (s : ByteArray) (a j : Nat) (n : Int) (h : a + j + 1 ≤ 2000) (b : UInt8) : ((⟨(pre s a j n).toArray⟩ : ByteArray) ++ ⟨#[b]⟩).size ≤ 2000 := by
  rw [ByteArray.size_append]
  have h1 : (⟨(pre s a j n).toArray⟩ : ByteArray).size = (pre s a j n).length := by simp [ByteArray.size]
  have h2 : (⟨#[b]⟩ : ByteArray).size = 1 := rfl
  have h3 : (pre s a j n).length ≤ a + j := by simp [pre, byteL]; omega
  omega

theorem u64_nonneg' (n : Int) (e : Nat) : 0 ≤ IntKind.u64.wrap n / 2 ^ e ∧ IntKind.u64.wrap n / 2 ^ e < 18446744073709551616 := by
  rw [IntKind.wrap_u64]
  have h0 : 0 ≤ n % 18446744073709551616 := Int.emod_nonneg _ (by decide)
  have h1 : n % 18446744073709551616 < 18446744073709551616 := Int.emod_lt_of_pos _ (by decide)
  have hp := pow_pos' e
  have := Int.ediv_nonneg h0 (show 0 ≤ (2 : Int) ^ e by omega)
  have := Int.ediv_le_self (2 ^ e) h0
  omega

theorem next_m (n : Int) (j : Nat) : IntKind.u64.wrap ((IntKind.u64.wrap n / 2 ^ (8 * j)).tdiv 256) = IntKind.u64.wrap n / 2 ^ (8 * (j + 1)) := by
  have h := u64_nonneg' n (8 * j)
  have h2 := u64_nonneg' n (8 * (j + 1))
  rw [Int.tdiv_eq_ediv_of_nonneg h.1]
  have e : IntKind.u64.wrap n / 2 ^ (8 * j) / 256 = IntKind.u64.wrap n / 2 ^ (8 * (j + 1)) := by
    rw [Int.ediv_ediv_of_nonneg (by have := pow_pos' (8 * j); omega), show 8 * (j + 1) = 8 * j + 8 by omega, Int.pow_add]; rfl
  rw [e, IntKind.wrap_u64 (IntKind.u64.wrap n / 2 ^ (8 * (j + 1)))]
  omega

theorem byte_at (n : Int) (j : Nat) : (IntKind.u64.wrap n / 2 ^ (8 * j)).tmod 256 % 256 = byteOf n j := by
  have h := u64_nonneg' n (8 * j)
  rw [Int.tmod_eq_emod_of_nonneg h.1]
  unfold byteOf
  omega

theorem pre_step (s : ByteArray) (a j : Nat) (n : Int) : (⟨(pre s a j n).toArray⟩ : ByteArray) ++ ⟨#[UInt8.ofNat ((IntKind.u64.wrap n / 2 ^ (8 * j)).tmod 256 % 256).toNat]⟩ = ⟨(pre s a (j + 1) n).toArray⟩ := by
  rw [byte_at, show (#[UInt8.ofNat (byteOf n j).toNat] : Array UInt8) = [UInt8.ofNat (byteOf n j).toNat].toArray from rfl, ByteArray.mk_append_mk]
  simp [pre, byteL, List.range_succ]

theorem pre_all (s : ByteArray) (a k : Nat) (n : Int) (h : a + k ≤ s.size) : (⟨(pre s a k n).toArray⟩ : ByteArray) ++ s.extract (a + k) s.size = ⟨(putL s a k n).toArray⟩ := by
  have hl : s.data.toList.length = s.size := by simp
  have e : s.extract (a + k) s.size = ⟨(s.data.toList.drop (a + k)).toArray⟩ := by
    apply ByteArray.ext
    rw [ByteArray.data_extract]
    apply Array.ext'
    simp
    rw [List.take_of_length_le (by simp)]
  rw [e, ByteArray.mk_append_mk]
  congr 2
  apply List.ext_getElem
  · simp [pre, byteL, putL]; omega
  · intro j h1 h2
    have hj : j < s.size := by simpa [putL] using h2
    simp only [pre, byteL, putL, List.getElem_map, List.getElem_range, List.getElem_append, List.length_append, List.length_take, List.length_map, List.length_range, List.getElem_take, List.getElem_drop, hl]
    unfold mixed
    by_cases c1 : j < a
    · rw [dif_pos (by omega), dif_pos (by omega), if_neg (by omega), dif_pos hj]
      simp; rfl
    · by_cases c2 : j < a + k
      · rw [dif_pos (by omega), dif_neg (by omega), if_pos (by omega)]
        congr 3; omega
      · rw [dif_neg (by omega), if_neg (by omega), dif_pos hj]
        simp
        congr 1; omega

theorem ret_sb {x y : ByteArray} (h : x = y) : Ending.returned (.tuple #[.string x, .bool true]) = .returned (.tuple #[.string y, .bool true]) := by rw [h]

theorem ok_8 (s : ByteArray) (a n : Int) (hf : fieldB s.size a 8 = true) (hn1 : -9223372036854775808 ≤ n) (hn2 : n ≤ 9223372036854775807) : putOk s a 8 n = true := by
  simp [putOk, hf, fitsB]
  omega

theorem ok_k (s : ByteArray) (a : Int) (k : Nat) (n : Int) (hf : fieldB s.size a k = true) (hk : k = 1 ∨ k = 2 ∨ k = 4) :
    putOk s a k n = true ↔ wrap64 ((wrap64 (-256 ^ k)).tdiv 2) ≤ n ∧ n < 256 ^ k := by
  simp only [putOk, hf, Bool.true_and]
  rcases hk with rfl | rfl | rfl
  all_goals (simp [fitsB, wrap64]; omega)

end Go.Proofs.YtlohhlbbkliehaaGreatDoor.W
