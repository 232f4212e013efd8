/-
  A log in plain words: its rows, its file, what Open reads. No program.
-/
import Derived.Test.YtmcdfhihfcfbaaaS
import Derived.Test.YtmcdfhihfcfbaaaWd
namespace Go.Proofs.Ytmcdfhihfcfbaaa.W
set_option linter.unusedVariables false

def num8 (n : Nat) : List UInt8 := Wd.byteL (n : Int) 8
def formL (r : ByteArray) : List UInt8 := num8 r.size ++ r.data.toList
def formsL (rs : List ByteArray) : List UInt8 := rs.flatMap formL
def headL (e m : Nat) : List UInt8 := num8 e ++ num8 m
def endL (rs : List ByteArray) : Nat := 16 + (formsL rs).length
def fileL (rs : List ByteArray) : List UInt8 := headL (endL rs) rs.length ++ formsL rs

/-- a log -/
structure Lg where
  f : Nat
  rows : List ByteArray
  sure : Nat

def numOf (t : List UInt8) : Int := Wd.getI (Wd.le (t.take 8)) 8 true
def parseF : Nat → List UInt8 → Option (List ByteArray)
  | 0, t => if t = [] then some [] else none
  | n + 1, t => if t = [] then some [] else if t.length < 8 then none else if numOf t < 0 ∨ (t.length : Int) - 8 < numOf t then none else
    (parseF n (t.drop (8 + (numOf t).toNat))).map (⟨((t.drop 8).take (numOf t).toNat).toArray⟩ :: ·)
def parse (t : List UInt8) : Option (List ByteArray) := parseF t.length t
def openL (s : List UInt8) : Option (List ByteArray) :=
  if s.length < 16 then some [] else if numOf s = 0 then some [] else if numOf s < 16 ∨ (s.length : Int) < numOf s then none else
    (parse ((s.take (numOf s).toNat).drop 16)).bind fun rs => if (rs.length : Int) = numOf (s.drop 8) then some rs else none

theorem num8_len (n : Nat) : (num8 n).length = 8 := by simp [num8, Wd.byteL]
theorem formL_len (r : ByteArray) : (formL r).length = 8 + r.size := by
  rw [formL, List.length_append, num8_len]; rfl
theorem formsL_nil : formsL [] = [] := rfl
theorem formsL_append (a b : List ByteArray) : formsL (a ++ b) = formsL a ++ formsL b := by simp [formsL]
theorem formsL_one (r : ByteArray) : formsL [r] = formL r := by simp [formsL]
theorem formsL_cons (r : ByteArray) (b : List ByteArray) : formsL (r :: b) = formL r ++ formsL b := by simp [formsL]
theorem endL_append (a : List ByteArray) (r : ByteArray) : endL (a ++ [r]) = endL a + (8 + r.size) := by
  rw [endL, formsL_append, formsL_one, List.length_append, formL_len, endL]; omega
theorem headL_len (e m : Nat) : (headL e m).length = 16 := by rw [headL, List.length_append, num8_len, num8_len]
theorem len_le_forms (rs : List ByteArray) : rs.length * 8 ≤ (formsL rs).length := by
  induction rs with
  | nil => simp
  | cons r rs ih => rw [formsL_cons, List.length_append, formL_len, List.length_cons]; omega

/-- a number is read as it was written -/
theorem numOf_num8 (n : Nat) (h : n ≤ 9223372036854775807) (t : List UInt8) : numOf (num8 n ++ t) = n := by
  have e : (num8 n ++ t).take 8 = Wd.byteL (n : Int) 8 := by
    rw [List.take_append_of_le_length (by rw [num8_len]; decide), List.take_of_length_le (by rw [num8_len]; decide)]; rfl
  rw [numOf, e]
  have hn1 : (-9223372036854775808 : Int) ≤ n := by omega
  have hn2 : (n : Int) ≤ 9223372036854775807 := by omega
  have := Wd.le_byteL (n : Int) 8
  rw [this]
  have hu : (IntKind.u64.wrap (n : Int)).toNat = n := by rw [IntKind.wrap_u64]; omega
  rw [hu]
  unfold Wd.getI
  have h256 : (256 : Nat) ^ 8 = 18446744073709551616 := by decide
  rw [h256, Nat.mod_eq_of_lt (by omega)]
  have : ¬ (2 ^ (8 * 8 - 1) ≤ n) := by omega
  simp [this]

theorem parseF_forms : ∀ (rs : List ByteArray) (n : Nat), (formsL rs).length ≤ n → (formsL rs).length ≤ 9223372036854775807 → parseF n (formsL rs) = some rs
  | [], 0, _, _ => rfl
  | [], n + 1, _, _ => rfl
  | r :: rs, n, h, h2 => by
    rw [formsL_cons, List.length_append, formL_len] at h h2
    match n, h with
    | 0, h => omega
    | n + 1, h =>
      have hne : formsL (r :: rs) ≠ [] := by
        intro e
        have : (formsL (r :: rs)).length = 0 := by rw [e]; rfl
        rw [formsL_cons, List.length_append, formL_len] at this; omega
      have hlen : (formsL (r :: rs)).length = 8 + r.size + (formsL rs).length := by rw [formsL_cons, List.length_append, formL_len]
      have e1 : formsL (r :: rs) = num8 r.size ++ (r.data.toList ++ formsL rs) := by rw [formsL_cons, formL, List.append_assoc]
      have hnum : numOf (formsL (r :: rs)) = r.size := by rw [e1]; exact numOf_num8 _ (by omega) _
      rw [parseF, if_neg hne, if_neg (by omega), hnum, if_neg (by omega)]
      have d8 : (formsL (r :: rs)).drop 8 = r.data.toList ++ formsL rs := by
        rw [e1]
        have := num8_len r.size
        rw [List.drop_append_of_le_length (by omega), List.drop_of_length_le (by omega), List.nil_append]
      have hr : r.data.toList.length = r.size := rfl
      have d9 : (formsL (r :: rs)).drop (8 + r.size) = formsL rs := by
        rw [← List.drop_drop, d8, List.drop_append_of_le_length (by omega), List.drop_of_length_le (by omega), List.nil_append]
      rw [d8, show ((r.size : Int)).toNat = r.size by omega, d9, parseF_forms rs n (by omega) (by omega), List.take_append_of_le_length (by omega), List.take_of_length_le (by omega)]
      rfl

/-- what stands behind the rows does not matter -/
theorem openL_file (rs : List ByteArray) (more : List UInt8) (h : endL rs ≤ 9223372036854775807) : openL (fileL rs ++ more) = some rs := by
  have hh := headL_len (endL rs) rs.length
  have hl := len_le_forms rs
  have hf : (fileL rs).length = endL rs := by rw [fileL, List.length_append, hh, endL]
  have hn : numOf (fileL rs ++ more) = endL rs := by
    rw [fileL, headL, List.append_assoc, List.append_assoc]; exact numOf_num8 _ h _
  have hd : (fileL rs ++ more).drop 8 = num8 rs.length ++ (formsL rs ++ more) := by
    rw [fileL, headL, List.append_assoc, List.append_assoc, List.drop_append_of_le_length (by rw [num8_len]; decide), List.drop_of_length_le (by rw [num8_len]; decide), List.nil_append]
  have hm : numOf ((fileL rs ++ more).drop 8) = rs.length := by rw [hd]; exact numOf_num8 _ (by unfold endL at h; omega) _
  have ht : ((fileL rs ++ more).take (endL rs)).drop 16 = formsL rs := by
    rw [List.take_append_of_le_length (by omega), List.take_of_length_le (by omega), fileL, List.drop_append_of_le_length (by omega), List.drop_of_length_le (by omega), List.nil_append]
  have hlen : (fileL rs ++ more).length = endL rs + more.length := by rw [List.length_append, hf]
  have he : 16 ≤ endL rs := by unfold endL; omega
  rw [openL, if_neg (by omega), hn, if_neg (by omega), if_neg (by omega), Int.toNat_natCast, ht, parse, parseF_forms rs _ (Nat.le_refl _) (by unfold endL at h; omega), hm]
  simp

theorem openL_empty (s : List UInt8) (h : s.length < 16) : openL s = some [] := by rw [openL, if_pos h]

end Go.Proofs.Ytmcdfhihfcfbaaa.W
