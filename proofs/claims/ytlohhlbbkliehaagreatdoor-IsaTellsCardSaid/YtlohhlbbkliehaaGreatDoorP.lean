/-
  Plain laws of fields of little-endian bytes: what is written is read again, what is read is written back. No program.
-/
import Derived.Test.YtlohhlbbkliehaaGreatDoorF
import Derived.Lib.Strings
namespace Go.Proofs.YtlohhlbbkliehaaGreatDoor.W
open Go.RowKit
set_option linter.unusedVariables false

theorem byteOf_nat (n : Int) (k U : Nat) (hU : IntKind.u64.wrap n = (U : Int)) : byteOf n k = ((U / 256 ^ k % 256 : Nat) : Int) := by
  unfold byteOf
  rw [hU, show (256 : Nat) ^ k = 2 ^ (8 * k) by rw [show (256 : Nat) = 2 ^ 8 from rfl, ← Nat.pow_mul]]
  rw [Int.natCast_emod, Int.natCast_ediv, Int.natCast_pow]
  rfl

theorem byte_back (x : Nat) (h : x < 256) : (UInt8.ofNat (((x : Nat) : Int)).toNat).toNat = x := by
  rw [Int.toNat_natCast]
  exact UInt8.toNat_ofNat_of_lt (by simpa using h)

theorem le_byteL (n : Int) (k : Nat) : le (byteL n k) = (IntKind.u64.wrap n).toNat % 256 ^ k := by
  have h0 : 0 ≤ IntKind.u64.wrap n := by rw [IntKind.wrap_u64]; omega
  obtain ⟨U, hU⟩ := Int.eq_ofNat_of_zero_le h0
  rw [hU, Int.toNat_natCast]
  induction k with
  | zero => simp [byteL, le, Nat.mod_one]
  | succ k ih =>
    have e : byteL n (k + 1) = byteL n k ++ [UInt8.ofNat (byteOf n k).toNat] := by simp [byteL, List.range_succ]
    have hl : (byteL n k).length = k := by simp [byteL]
    rw [e, le_snoc, ih, hl, Nat.pow_succ, Nat.mod_mul, byteOf_nat n k U hU, byte_back _ (Nat.mod_lt _ (by decide))]

theorem le_inj : ∀ (l r : List UInt8), l.length = r.length → le l = le r → l = r
  | [], [], _, _ => rfl
  | [], b :: r, h, _ => by simp at h
  | a :: l, [], h, _ => by simp at h
  | a :: l, b :: r, h, e => by
    have h1 := a.toNat_lt
    have h2 := b.toNat_lt
    simp only [le] at e
    have : a.toNat = b.toNat := by omega
    have hab : a = b := UInt8.toNat_inj.1 this
    rw [hab, le_inj l r (by simpa using h) (by omega)]

theorem putL_eq (s : ByteArray) (a k : Nat) (n : Int) (h : a + k ≤ s.size) : putL s a k n = s.data.toList.take a ++ byteL n k ++ s.data.toList.drop (a + k) := by
  have hl : s.data.toList.length = s.size := by simp
  have e := pre_all s a k n h
  have e2 : s.extract (a + k) s.size = ⟨(s.data.toList.drop (a + k)).toArray⟩ := by
    apply ByteArray.ext
    rw [ByteArray.data_extract]
    apply Array.ext'
    simp
    rw [List.take_of_length_le (by simp)]
  rw [e2, ByteArray.mk_append_mk] at e
  have := congrArg (fun x : ByteArray => x.data.toList) e
  simpa [pre] using this.symm

theorem cut_put (s : ByteArray) (a k : Nat) (n : Int) (h : a + k ≤ s.size) : cut ⟨(putL s a k n).toArray⟩ a k = byteL n k := by
  have hl : s.data.toList.length = s.size := by simp
  unfold cut
  rw [show (⟨(putL s a k n).toArray⟩ : ByteArray).data.toList = putL s a k n from rfl, putL_eq s a k n h, List.append_assoc, List.drop_append_of_le_length (by simp; omega)]
  rw [List.drop_of_length_le (by simp; omega), List.nil_append, List.take_append_of_le_length (by simp [byteL]), List.take_of_length_le (by simp [byteL])]

theorem put_size (s : ByteArray) (a k : Nat) (n : Int) : (⟨(putL s a k n).toArray⟩ : ByteArray).size = s.size := by
  show (putL s a k n).toArray.size = s.size
  rw [List.size_toArray, putL_len]

theorem ok_iff {s : ByteArray} {a k n : Int} (h : putOk s a k n = true) : fieldB s.size a k = true ∧ (fitsB n (8 * k) false = true ∨ fitsB n (8 * k) true = true) := by
  simpa [putOk] using h

/-- what fits comes back from its residue -/
theorem get_back (n : Int) (k : Nat) (hk : k = 1 ∨ k = 2 ∨ k = 4 ∨ k = 8) (h1 : -9223372036854775808 ≤ n) (h2 : n ≤ 9223372036854775807)
    (hf : fitsB n (8 * k) false = true ∨ fitsB n (8 * k) true = true) : getI ((IntKind.u64.wrap n).toNat % 256 ^ k) k (decide (n < 0)) = n := by
  have h0 : (IntKind.u64.wrap n).toNat = (n % 18446744073709551616).toNat := by rw [IntKind.wrap_u64]
  rw [h0]
  rcases hk with rfl | rfl | rfl | rfl <;> simp [fitsB] at hf <;> simp [getI] <;> (try split) <;> omega

theorem back_put {s : ByteArray} {a k n : Int} (hs : s.size ≤ maxLen) (h1 : -9223372036854775808 ≤ n) (h2 : n ≤ 9223372036854775807) (h : putOk s a k n = true) :
    getP (putS s a k n) a k (decide (n < 0)) = (n, true) ∧ (putS s a k n).size = s.size := by
  obtain ⟨hf, hF⟩ := ok_iff h
  obtain ⟨k1, k2, k3⟩ := fieldB_iff.1 hf
  obtain ⟨a, rfl⟩ := Int.eq_ofNat_of_zero_le k2
  obtain ⟨k, rfl⟩ := Int.eq_ofNat_of_zero_le (show 0 ≤ k by omega)
  have e : putS s a k n = ⟨(putL s a k n).toArray⟩ := by rw [putS, if_pos h]; simp
  have hz := put_size s a k n
  rw [e]
  refine ⟨?_, hz⟩
  rw [getP, hz, if_pos hf]
  simp only [Int.toNat_natCast]
  rw [cut_put s a k n (by omega), le_byteL, get_back n k (by omega) h1 h2 hF]

theorem getI_bd (U k : Nat) (sg : Bool) (hU : U < 256 ^ k) (hk : k = 1 ∨ k = 2 ∨ k = 4 ∨ k = 8) :
    -9223372036854775808 ≤ getI U k sg ∧ getI U k sg ≤ 9223372036854775807 ∧ fitsB (getI U k sg) (8 * k) (sg || k == 8) = true ∧ (IntKind.u64.wrap (getI U k sg)).toNat % 256 ^ k = U := by
  rw [IntKind.wrap_u64]
  cases sg <;> rcases hk with rfl | rfl | rfl | rfl <;> simp [getI, fitsB] <;> (try split) <;> (try simp) <;> omega

theorem fits_or {n b : Int} {sg : Bool} (h : fitsB n b sg = true) : fitsB n b false = true ∨ fitsB n b true = true := by
  cases sg
  · exact .inl h
  · exact .inr h

theorem put_back {s : ByteArray} {a k : Int} {sg : Bool} (hf : fieldB s.size a k = true) :
    putOk s a k (getP s a k sg).1 = true ∧ putS s a k (getP s a k sg).1 = s ∧ -9223372036854775808 ≤ (getP s a k sg).1 ∧ (getP s a k sg).1 ≤ 9223372036854775807 ∧ fitsB (getP s a k sg).1 (8 * k) (sg || k == 8) = true := by
  obtain ⟨k1, k2, k3⟩ := fieldB_iff.1 hf
  obtain ⟨a, rfl⟩ := Int.eq_ofNat_of_zero_le k2
  obtain ⟨k, rfl⟩ := Int.eq_ofNat_of_zero_le (show 0 ≤ k by omega)
  have hU := le_lt (cut s a k)
  rw [cut_length s a k (by omega)] at hU
  obtain ⟨b1, b2, b3, b4⟩ := getI_bd (le (cut s a k)) k sg hU (by omega)
  have e : (getP s a k sg).1 = getI (le (cut s a k)) k sg := by rw [getP, if_pos hf]; simp
  rw [e]
  have ek : ((k : Int) == 8) = (k == 8) := by rw [Bool.eq_iff_iff]; simp; omega
  have hok : putOk s a k (getI (le (cut s a k)) k sg) = true := by
    rcases fits_or b3 with h | h <;> simp [putOk, hf, h]
  refine ⟨hok, ?_, b1, b2, by rw [ek]; exact b3⟩
  rw [putS, if_pos hok]
  simp only [Int.toNat_natCast]
  have hbl : byteL (getI (le (cut s a k)) k sg) k = cut s a k := by
    apply le_inj
    · rw [cut_length s a k (by omega)]; simp [byteL]
    · rw [le_byteL, b4]
  rw [putL_eq s a k _ (by omega), hbl]
  apply ByteArray.ext
  apply Array.ext'
  simp only [cut]
  rw [List.append_assoc, show a + k = a + k from rfl, ← List.drop_drop, List.take_append_drop, List.take_append_drop]

theorem put_parts {s : ByteArray} {a k : Nat} {n : Int} (h : a + k ≤ s.size) :
    (⟨(putL s a k n).toArray⟩ : ByteArray).extract 0 a = s.extract 0 a ∧ (⟨(putL s a k n).toArray⟩ : ByteArray).extract (a + k) s.size = s.extract (a + k) s.size := by
  have hl : s.data.toList.length = s.size := by simp
  have hb : (byteL n k).length = k := by simp [byteL]
  have ht : (s.data.toList.take a).length = a := by rw [List.length_take]; omega
  constructor <;> apply ByteArray.ext <;> apply Array.ext' <;> rw [Lib.extract_data, Lib.extract_data, show (⟨(putL s a k n).toArray⟩ : ByteArray).data.toList = putL s a k n from rfl, putL_eq s a k n h]
  · rw [List.drop_zero, List.drop_zero, Nat.sub_zero, List.append_assoc, List.take_append_of_le_length (by omega), List.take_of_length_le (by omega)]
  · congr 1
    rw [List.drop_append, List.drop_of_length_le (by rw [List.length_append]; omega), List.nil_append, List.length_append, ht, hb, Nat.sub_self, List.drop_zero]

theorem le_append (l r : List UInt8) : le (l ++ r) = le l + 256 ^ l.length * le r := by
  induction l with
  | nil => simp [le]
  | cons x l ih => simp only [List.cons_append, le, ih, List.length_cons, Nat.pow_succ]; rw [Nat.mul_add, ← Nat.mul_assoc, Nat.mul_comm 256 (256 ^ l.length)]; omega

theorem cut_add (s : ByteArray) (a j k : Nat) : cut s a (j + k) = cut s a j ++ cut s (a + j) k := by
  unfold cut
  rw [List.take_add, List.drop_drop]

end Go.Proofs.YtlohhlbbkliehaaGreatDoor.W
