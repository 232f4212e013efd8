/-
  Plain laws: bytes and texts of right instructions come back, and are different for different ones.
-/
import Derived.Test.YtlohhlbbkliehaaGreatDoorPt9
import Derived.Test.YtlohhlbbkliehaaGreatDoorEnc
namespace Go.Proofs.YtlohhlbbkliehaaGreatDoor.W
open Go.RowKit
set_option linter.unusedVariables false

theorem imm_back {m : Int} (h0 : -2147483648 ≤ m) (h1 : m ≤ 2147483647) : getI (le (byteL m 4)) 4 true = m := by
  have h2 : (IntKind.u64.wrap m).toNat = (m % 18446744073709551616).toNat := by rw [IntKind.wrap_u64]
  rw [le_byteL, h2]
  simp [getI]
  split <;> omega
theorem byteL_len (m : Int) (k : Nat) : (byteL m k).length = k := by simp [byteL]
theorem enc_list {op a b c m : Int} (h : rightB op a b c m = true) : (encS op a b c m).data.toList = encL op a b c ++ byteL m 4 := by
  unfold encS; rw [if_pos h]
theorem enc_size {op a b c m : Int} (h : rightB op a b c m = true) : (encS op a b c m).size = 8 := by
  show (encS op a b c m).data.toList.length = 8
  rw [enc_list h, List.length_append, byteL_len]; rfl
theorem getD_app (P R : List UInt8) (j : Nat) : (P ++ R).getD (P.length + j) 0 = R.getD j 0 := by
  rw [List.getD_eq_getElem?_getD, List.getD_eq_getElem?_getD, List.getElem?_append_right (by omega), Nat.add_sub_cancel_left]
theorem byte_num {x : Int} (h0 : 0 ≤ x) (h1 : x ≤ 255) : ((UInt8.ofNat x.toNat).toNat : Int) = x := by
  have e : (UInt8.ofNat x.toNat).toNat = x.toNat := by simp; omega
  rw [e]; omega
theorem cat3 (x y z : ByteArray) : (x ++ y ++ z).data.toList = x.data.toList ++ (y.data.toList ++ z.data.toList) := by simp
theorem dec_back {op a b c m : Int} (h : rightB op a b c m = true) (x z : ByteArray) : decB (x ++ encS op a b c m ++ z) (x.size : Int) = true ∧ decV (x ++ encS op a b c m ++ z) (x.size : Int) = .agg #[.int .i64 op, .int .i64 a, .int .i64 b, .int .i64 c, .int .i64 m] := by
  have hp := right_parts h
  obtain ⟨X, hX⟩ : ∃ X, x ++ encS op a b c m ++ z = X := ⟨_, rfl⟩
  have hl : X.data.toList = x.data.toList ++ (encL op a b c ++ (byteL m 4 ++ z.data.toList)) := by rw [← hX, cat3, enc_list h, List.append_assoc]
  have hsz : X.size = x.size + 8 + z.size := by
    show X.data.toList.length = _
    rw [hl, List.length_append, List.length_append, List.length_append, byteL_len]
    show x.size + (4 + (4 + z.size)) = _
    omega
  have hb : ∀ j, byteAt X (x.size + j) = (((encL op a b c ++ (byteL m 4 ++ z.data.toList)).getD j 0).toNat : Int) := fun j => by
    unfold byteAt
    rw [hl]
    exact congrArg (fun u : UInt8 => (u.toNat : Int)) (getD_app x.data.toList _ j)
  have b0 : byteAt X x.size = op := (hb 0).trans (byte_num (by have := hp.op; omega) (by have := hp.op; omega))
  have b1 : byteAt X (x.size + 1) = a := (hb 1).trans (byte_num (by have := hp.a; omega) (by have := hp.a; omega))
  have b2 : byteAt X (x.size + 2) = b := (hb 2).trans (byte_num (by have := hp.b; omega) (by have := hp.b; omega))
  have b3 : byteAt X (x.size + 3) = c := (hb 3).trans (byte_num (by have := hp.c; omega) (by have := hp.c; omega))
  have hm : immAt X x.size = m := by
    unfold immAt cut
    rw [hl, show x.size + 4 = x.data.toList.length + 4 from rfl, ← List.drop_drop, List.drop_left]
    have : List.drop 4 (encL op a b c ++ (byteL m 4 ++ z.data.toList)) = byteL m 4 ++ z.data.toList := rfl
    rw [this, List.take_left' (byteL_len m 4)]
    exact imm_back hp.m.1 hp.m.2
  have hi : insAt X x.size = true := by unfold insAt; rw [b0, b1, b2, b3, hm]; exact h
  have hB : decB X (x.size : Int) = true := by
    unfold decB
    rw [decide_eq_true (by omega), Int.toNat_natCast, hi]; rfl
  rw [hX]
  refine ⟨hB, ?_⟩
  unfold decV
  rw [hB, if_pos rfl, Int.toNat_natCast, b0, b1, b2, b3, hm]
theorem enc_inj {op a b c m op' a' b' c' m' : Int} (h : rightB op a b c m = true) (h' : rightB op' a' b' c' m' = true) (e : encS op a b c m = encS op' a' b' c' m') : op = op' ∧ a = a' ∧ b = b' ∧ c = c' ∧ m = m' := by
  have h1 := (dec_back h ⟨#[]⟩ ⟨#[]⟩).2
  have h2 := (dec_back h' ⟨#[]⟩ ⟨#[]⟩).2
  rw [e] at h1
  have h3 := h1.symm.trans h2
  simpa using h3
theorem text_inj {op a b c m op' a' b' c' m' : Int} (h : rightB op a b c m = true) (h' : rightB op' a' b' c' m' = true) (e : textL op a b c m = textL op' a' b' c' m') : op = op' ∧ a = a' ∧ b = b' ∧ c = c' ∧ m = m' := by
  have h1 := (parse_text h).1
  have h2 := (parse_text h').1
  rw [e] at h1
  have h3 := h1.symm.trans h2
  simpa using h3
theorem get_enc {op a b c m : Int} (h : rightB op a b c m = true) : getP (encS op a b c m) 4 4 true = (m, true) := by
  have hp := right_parts h
  have hf : fieldB (encS op a b c m).size 4 4 = true := by rw [enc_size h]; decide
  unfold getP
  rw [if_pos hf]
  have : cut (encS op a b c m) 4 4 = byteL m 4 := by
    unfold cut
    rw [enc_list h, List.drop_left' (by rfl), List.take_of_length_le (by rw [byteL_len]; decide)]
  show (getI (le (cut (encS op a b c m) 4 4)) 4 true, true) = _
  rw [this, imm_back hp.m.1 hp.m.2]
theorem enc_first {op a b c m : Int} (h : rightB op a b c m = true) (h0 : 0 < (encS op a b c m).size) : (((encS op a b c m)[0]'h0).toNat : Int) = op := by
  have hp := right_parts h
  have := byteAt_eq (encS op a b c m) 0 h0
  rw [← this]
  unfold byteAt
  rw [enc_list h]
  exact byte_num (by have := hp.op; omega) (by have := hp.op; omega)
theorem text_len (op a b c m : Int) : (textL op a b c m).length ≤ 1000 := by
  unfold textL
  split
  · rename_i h
    have hp := right_parts h
    obtain ⟨n, rfl⟩ : ∃ n : Nat, op = (n : Int) := ⟨op.toNat, by have := hp.op; omega⟩
    have hn : n < 31 := by have := hp.op; omega
    rw [Int.toNat_natCast]
    obtain ⟨h1, h2, h3, h4⟩ := words_ok n hn
    have hj := join_len (opsT a b c m (opersL n)) [44, 32] 22 (fun x hx => by
      unfold opsT at hx
      obtain ⟨ch, _, rfl⟩ := List.mem_map.1 hx
      exact opT_len ch _ (opd_i64 hp ch))
    have hl : (opsT a b c m (opersL n)).length ≤ 4 := by unfold opsT; rw [List.length_map]; exact h4
    have ht : ∀ l : List UInt8, (Lib.trimSpace l).length ≤ l.length := fun l => by
      unfold Lib.trimSpace
      have e1 := (List.dropWhile_sublist (l := (l.dropWhile Lib.isSp).reverse) Lib.isSp).length_le
      have e2 := (List.dropWhile_sublist (l := l) Lib.isSp).length_le
      rw [List.length_reverse] at e1 ⊢
      omega
    refine Nat.le_trans (ht _) ?_
    rw [List.length_append, List.length_append]
    have : (opsT a b c m (opersL n)).length * (22 + ([44, 32] : List UInt8).length) ≤ 4 * 24 := Nat.mul_le_mul hl (by decide)
    simp only [List.length_cons, List.length_nil] at this hj ⊢
    omega
  · exact Nat.zero_le _
theorem text_wrong {op a b c m : Int} (h : rightB op a b c m = false) : textL op a b c m = [] ∧ encS op a b c m = ⟨#[]⟩ := by
  unfold textL encS; rw [h]; exact ⟨rfl, rfl⟩

end Go.Proofs.YtlohhlbbkliehaaGreatDoor.W
