/-
  The walk of Parse's operand.
-/
import Derived.Test.YtlohhlbbkliehaaGreatDoorCl9
namespace Go.Proofs.YtlohhlbbkliehaaGreatDoor.W
open Go.RowKit
set_option linter.unusedVariables false

/-- is the first byte this one? -/
def headB (l : List UInt8) (c : UInt8) : Bool := decide (l.head? = some c)
/-- an operand's number, and whether it is one -/
def immL (l : List UInt8) : Option Int :=
  if headB l 45 then (if digB l.tail 10 then some (-(numL l.tail : Int)) else none) else (if digB l 10 then some (numL l : Int) else none)
def regL (l : List UInt8) : Option Int :=
  if headB l 114 && (digB l.tail 2 && !(decide (l.tail.length = 2) && headB l.tail 48)) then some (numL l.tail : Int) else none
def opL (l : List UInt8) (ch : UInt8) : Option Int := if ch = 73 then immL l else regL l
def optV : Option Int → Value
  | some n => .tuple #[.int .i64 n, .bool true]
  | none => .tuple #[.int .i64 0, .bool false]
theorem opL_bound {l : List UInt8} {ch : UInt8} {n : Int} (h : opL l ch = some n) : -10000000000 < n ∧ n < 10000000000 := by
  unfold opL immL regL at h
  split at h
  · split at h
    · split at h
      · rename_i h2
        injection h with h; subst h
        have := numL_bound h2 (by decide); omega
      · cases h
    · split at h
      · rename_i h2
        injection h with h; subst h
        have := numL_bound h2 (by decide); omega
      · cases h
  · split at h
    · rename_i h2
      injection h with h; subst h
      simp only [Bool.and_eq_true] at h2
      have := numL_bound h2.2.1 (by decide); omega
    · cases h

theorem hasP_one (l : List UInt8) (c : UInt8) : Lib.hasPrefix l [c] = headB l c := by
  unfold Lib.hasPrefix headB
  cases l with
  | nil => simp [List.isPrefixOf]
  | cons b l =>
    simp only [List.isPrefixOf, List.head?_cons, Option.some.injEq, Bool.and_true]
    by_cases h : c = b
    · subst h; simp
    · have : ¬ b = c := fun e => h e.symm
      simp [h, this]
theorem trimP_one (l : List UInt8) (c : UInt8) : Lib.trimPrefix l [c] = if headB l c then l.tail else l := by
  unfold Lib.trimPrefix
  rw [hasP_one]
  show (if headB l c = true then l.drop 1 else l) = _
  rw [List.drop_one]

theorem ext_all (s : ByteArray) (n : Nat) (h : s.size = n) : s.extract 0 n = s := by
  subst h
  apply ByteArray.ext
  simp
theorem ext_head {s : ByteArray} {c : UInt8} (h : headB s.data.toList c = true) : s.extract 0 1 = ⟨#[c]⟩ := by
  rw [← Lib.mk_data (s.extract 0 1), Lib.extract_from_zero]
  unfold headB at h
  have h := of_decide_eq_true h
  cases hs : s.data.toList with
  | nil => rw [hs] at h; cases h
  | cons b l => rw [hs] at h; injection h with h; subst h; rfl
theorem ext_tail (s : ByteArray) (n : Nat) (h : s.size = n) : s.extract 1 n = ⟨s.data.toList.tail.toArray⟩ := by
  rw [← Lib.mk_data (s.extract 1 n), ← h, Lib.extract_to_end, List.drop_one]
theorem cat_one (c : UInt8) (t : List UInt8) : (⟨#[c]⟩ : ByteArray) ++ ⟨t.toArray⟩ = ⟨(c :: t).toArray⟩ := by
  apply ByteArray.ext
  simp
theorem cat_none (s : ByteArray) : (⟨#[]⟩ : ByteArray) ++ s = s := by
  apply ByteArray.ext
  simp

set_option maxHeartbeats 2000000 in
set_option maxRecDepth 100000 in
theorem operand_imm (s : ByteArray) (w : World) (hs : s.size ≤ 100000) : Calls Tryz.prog 33 #[.string s, .int .u8 73] w fun e w' => e = .returned (optV (immL s.data.toList)) ∧ Below w.heap.size w w' := by
  have HTp := Hd.mk (fun w => Tryz.strings_TrimPrefix s ⟨#[45]⟩ w)
  have e45 : (⟨#[45]⟩ : ByteArray).data.toList = [45] := rfl
  rw [e45, trimP_one] at HTp
  have HU : Hd (immL s.data.toList = if headB s.data.toList 45 then (if digB s.data.toList.tail 10 then some (-(numL s.data.toList.tail : Int)) else none) else (if digB s.data.toList 10 then some (numL s.data.toList : Int) else none)) := ⟨rfl⟩
  rw [HU.out]
  clear HU e45
  obtain ⟨b, hb⟩ : ∃ b, headB s.data.toList 45 = b := ⟨_, rfl⟩
  rw [hb] at HTp ⊢
  rcases b with _ | _
  · rw [if_neg (by decide), Lib.mk_data] at HTp
    rw [if_neg (by decide)]
    have x1 : IntKind.i64.wrap 0 = 0 := by decide
    have x2 : s.extract 0 0 = ⟨#[]⟩ := by rw [← Lib.mk_data (s.extract 0 0), Lib.extract_from_zero]; rfl
    have x3 := ext_all s s.size rfl
    have x4 : (⟨#[]⟩ : ByteArray).size = 0 := rfl
    have x5 := cat_none s
    have x6 : (s.size : Int) - (s.size : Int) = 0 := by omega
    have x7 : (0 : Int) ≤ (s.size : Int) := by omega
    have HD := Hd.mk (fun w => digits_any s 10 w (by omega) (by decide))
    obtain ⟨d, hd⟩ : ∃ d, digB s.data.toList 10 = d := ⟨_, rfl⟩
    have HA : Hd (d = true → ∀ w, Calls Tryz.prog 67 #[.string s] w fun e w' => e = .returned (.tuple #[.int .i64 (numL s.data.toList : Int), .nilIface]) ∧ Below w.heap.size w w') := ⟨fun h w => by
      subst h
      have hp := digB_parts hd
      exact atoi_call s _ (by have := hp.2.1; rw [← Lib.size_eq] at this; omega) (atoi_plain hd) w⟩
    obtain ⟨n, hn⟩ : ∃ n : Int, (numL s.data.toList : Int) = n := ⟨_, rfl⟩
    rw [hn] at HA ⊢
    rw [hd] at HD ⊢
    clear hd hn hb
    go_enter Tryz.func33, Tryz.ntmps33
    go_wp2_with fail
    refine (HTp.out _).mono ?_
    rintro e w1 ⟨rfl, rfl⟩
    go_wp2_with fail
    refine (HD.out _).mono ?_
    rintro e w1 ⟨rfl, k1⟩
    have K1 := Hd.mk k1
    clear k1
    rcases d with _ | _
    · go_wp2
      go_ret2
      exact ⟨rfl, K1.out⟩
    · have a1 : ¬ 9223372036854775807 < (⟨#[]⟩ : ByteArray).size + s.size := by show ¬ 9223372036854775807 < 0 + s.size; omega
      have a2 : ¬ 9223372036854775807 < s.size := by omega
      go_wp2_with fail
      refine (HA.out (by trivial) _).mono ?_
      rintro e w2 ⟨rfl, k2⟩
      have K2 := Hd.mk (Below.chain K1.out k2)
      clear k2
      go_wp2_with fail
      go_quiet (fail)
      go_wp2
      go_ret2
      exact ⟨rfl, Below.chain K2.out (keepsOfDrewN _ _)⟩
  · rw [if_pos rfl] at HTp
    rw [if_pos rfl]
    have x2 := ext_head hb
    have x3 := ext_tail s s.size rfl
    obtain ⟨t, ht⟩ : ∃ t : ByteArray, (⟨s.data.toList.tail.toArray⟩ : ByteArray) = t := ⟨_, rfl⟩
    have htl : t.data.toList = s.data.toList.tail := by rw [← ht]
    have hts : s.size = t.size + 1 := by
      show s.data.toList.length = t.data.toList.length + 1
      rw [htl]
      unfold headB at hb
      have hb := of_decide_eq_true hb
      cases hs : s.data.toList with
      | nil => rw [hs] at hb; cases hb
      | cons b l => rfl
    rw [ht] at HTp x3
    rw [← htl]
    have x4 : (⟨#[45]⟩ : ByteArray).size = 1 := rfl
    have x5 : (⟨#[45]⟩ : ByteArray) ++ t = ⟨(45 :: t.data.toList).toArray⟩ := by have := cat_one 45 t.data.toList; rwa [Lib.mk_data] at this
    have x6 : (s.size : Int) - (t.size : Int) = 1 := by omega
    have x7 : (1 : Int) ≤ (s.size : Int) := by omega
    have x8 : IntKind.i64.wrap 1 = 1 := by decide
    have x9 : ((1 : Int)).toNat = 1 := rfl
    have HD := Hd.mk (fun w => digits_any t 10 w (by omega) (by decide))
    obtain ⟨d, hd⟩ : ∃ d, digB t.data.toList 10 = d := ⟨_, rfl⟩
    have HA : Hd (d = true → ∀ w, Calls Tryz.prog 67 #[.string ⟨(45 :: t.data.toList).toArray⟩] w fun e w' => e = .returned (.tuple #[.int .i64 (-(numL t.data.toList : Int)), .nilIface]) ∧ Below w.heap.size w w') := ⟨fun h w => by
      subst h
      have hp := digB_parts hd
      exact atoi_call ⟨(45 :: t.data.toList).toArray⟩ _ (by show (45 :: t.data.toList).length ≤ 18; rw [List.length_cons]; omega) (atoi_minus hd) w⟩
    obtain ⟨n, hn⟩ : ∃ n : Int, -(numL t.data.toList : Int) = n := ⟨_, rfl⟩
    rw [hn] at HA ⊢
    rw [hd] at HD ⊢
    have htz : t.size ≤ 100000 := by omega
    clear hd hn hb ht htl hts
    go_enter Tryz.func33, Tryz.ntmps33
    go_wp2_with fail
    refine (HTp.out _).mono ?_
    rintro e w1 ⟨rfl, rfl⟩
    go_wp2_with fail
    refine (HD.out _).mono ?_
    rintro e w1 ⟨rfl, k1⟩
    have K1 := Hd.mk k1
    clear k1
    rcases d with _ | _
    · go_wp2
      go_ret2
      exact ⟨rfl, K1.out⟩
    · have a1 : ¬ 9223372036854775807 < (⟨#[45]⟩ : ByteArray).size + t.size := by show ¬ 9223372036854775807 < 1 + t.size; omega
      have a2 : ¬ 9223372036854775807 < 1 + t.size := by omega
      go_wp2_with fail
      refine (HA.out (by trivial) _).mono ?_
      rintro e w2 ⟨rfl, k2⟩
      have K2 := Hd.mk (Below.chain K1.out k2)
      clear k2
      go_wp2_with fail
      go_quiet (fail)
      go_wp2
      go_ret2
      exact ⟨rfl, Below.chain K2.out (keepsOfDrewN _ _)⟩

set_option maxHeartbeats 2000000 in
set_option maxRecDepth 100000 in
theorem operand_reg (s : ByteArray) (ch : UInt8) (hch : ch ≠ 73) (w : World) (hs : s.size ≤ 100000) : Calls Tryz.prog 33 #[.string s, .int .u8 (ch.toNat : Int)] w fun e w' => e = .returned (optV (regL s.data.toList)) ∧ Below w.heap.size w w' := by
  have hc0 : ((ch.toNat : Int) == 73) = false := by
    rw [beq_eq_false_iff_ne]
    intro e
    exact hch (UInt8.toNat_inj.1 (by have : (73 : UInt8).toNat = 73 := rfl; omega))
  have HCp := Hd.mk (fun w => Tryz.strings_CutPrefix s ⟨#[114]⟩ w)
  have e114 : (⟨#[114]⟩ : ByteArray).data.toList = [114] := rfl
  rw [e114, trimP_one, hasP_one] at HCp
  have HU : Hd (regL s.data.toList = if headB s.data.toList 114 && (digB s.data.toList.tail 2 && !(decide (s.data.toList.tail.length = 2) && headB s.data.toList.tail 48)) then some (numL s.data.toList.tail : Int) else none) := ⟨rfl⟩
  rw [HU.out]
  clear HU e114
  obtain ⟨b, hb⟩ : ∃ b, headB s.data.toList 114 = b := ⟨_, rfl⟩
  rw [hb] at HCp ⊢
  rcases b with _ | _
  · rw [if_neg (by decide)] at HCp
    rw [Bool.false_and, if_neg (by decide)]
    clear hb
    go_enter Tryz.func33, Tryz.ntmps33
    go_wp2_with fail
    refine (HCp.out _).mono ?_
    rintro e w1 ⟨rfl, rfl⟩
    go_wp2
    go_ret2
    exact ⟨rfl, Below.refl _ _⟩
  · rw [if_pos rfl] at HCp
    rw [Bool.true_and]
    obtain ⟨t, ht⟩ : ∃ t : ByteArray, (⟨s.data.toList.tail.toArray⟩ : ByteArray) = t := ⟨_, rfl⟩
    have htl : t.data.toList = s.data.toList.tail := by rw [← ht]
    rw [ht] at HCp
    rw [← htl]
    have htz : t.size ≤ 100000 := by
      show t.data.toList.length ≤ 100000
      rw [htl, List.length_tail]
      have : s.data.toList.length ≤ 100000 := hs
      omega
    have HD := Hd.mk (fun w => digits_any t 2 w (by omega) (by decide))
    obtain ⟨d, hd⟩ : ∃ d, digB t.data.toList 2 = d := ⟨_, rfl⟩
    have HA : Hd (d = true → ∀ w, Calls Tryz.prog 67 #[.string t] w fun e w' => e = .returned (.tuple #[.int .i64 (numL t.data.toList : Int), .nilIface]) ∧ Below w.heap.size w w') := ⟨fun h w => by
      subst h
      have hp := digB_parts hd
      exact atoi_call t _ (by show t.data.toList.length ≤ 18; omega) (atoi_plain hd) w⟩
    obtain ⟨n, hn⟩ : ∃ n : Int, (numL t.data.toList : Int) = n := ⟨_, rfl⟩
    rw [hn] at HA ⊢
    have x5 := cat_none t
    have x6 : t.data.toList.length = t.size := rfl
    have a1 : ¬ 9223372036854775807 < (⟨#[]⟩ : ByteArray).size + t.size := by show ¬ 9223372036854775807 < 0 + t.size; omega
    have a2 : ¬ 9223372036854775807 < t.size := by omega
    rcases d with _ | _
    · rw [hd] at HD ⊢
      rw [Bool.false_and, if_neg (by decide)]
      clear hd hn hb ht htl
      go_enter Tryz.func33, Tryz.ntmps33
      go_wp2_with fail
      refine (HCp.out _).mono ?_
      rintro e w1 ⟨rfl, rfl⟩
      go_wp2_with fail
      refine (HD.out _).mono ?_
      rintro e w1 ⟨rfl, k1⟩
      have K1 := Hd.mk k1
      clear k1
      go_wp2
      go_ret2
      exact ⟨rfl, K1.out⟩
    · rw [hd] at HD ⊢
      rw [Bool.true_and, x6]
      by_cases h2 : t.size = 2
      · have hp : t.data.toList = [t[0]'(by omega), t[1]'(by omega)] := by
          apply List.ext_getElem?
          intro i
          rcases (by omega : i = 0 ∨ i = 1 ∨ 2 ≤ i) with rfl | rfl | h
          · rw [Lib.data_getElem? t 0 (by omega)]; rfl
          · rw [Lib.data_getElem? t 1 (by omega)]; rfl
          · rw [List.getElem?_eq_none (by rw [x6]; omega), List.getElem?_eq_none (by simpa using h)]
        have hh : headB t.data.toList 48 = decide (t[0]'(by omega) = 48) := by rw [hp]; unfold headB; simp
        rw [hh, decide_eq_true h2, Bool.true_and]
        have b2 : ((t.size : Int) == 2) = true := by rw [h2]; rfl
        have i0 : (0 : Int) < (t.size : Int) := by omega
        have i1 : 0 < t.size := by omega
        obtain ⟨y, hy⟩ : ∃ y, t[0]'i1 = y := ⟨_, rfl⟩
        rw [hy]
        by_cases h48 : y = 48
        · have b3 : ((y.toNat : Int) == 48) = true := by subst h48; rfl
          rw [decide_eq_true h48, if_neg (by decide)]
          clear hd hn hb ht htl hp hh h48
          go_enter Tryz.func33, Tryz.ntmps33
          go_wp2_with fail
          refine (HCp.out _).mono ?_
          rintro e w1 ⟨rfl, rfl⟩
          go_wp2_with fail
          refine (HD.out _).mono ?_
          rintro e w1 ⟨rfl, k1⟩
          have K1 := Hd.mk k1
          clear k1
          go_wp2
          go_ret2
          exact ⟨rfl, K1.out⟩
        · have b3 : ((y.toNat : Int) == 48) = false := by
            rw [beq_eq_false_iff_ne]
            intro e
            exact h48 (UInt8.toNat_inj.1 (by have : (48 : UInt8).toNat = 48 := rfl; omega))
          rw [decide_eq_false h48, if_pos (by decide)]
          clear hd hn hb ht htl hp hh h48
          go_enter Tryz.func33, Tryz.ntmps33
          go_wp2_with fail
          refine (HCp.out _).mono ?_
          rintro e w1 ⟨rfl, rfl⟩
          go_wp2_with fail
          refine (HD.out _).mono ?_
          rintro e w1 ⟨rfl, k1⟩
          have K1 := Hd.mk k1
          clear k1
          go_wp2_with fail
          refine (HA.out (by trivial) _).mono ?_
          rintro e w2 ⟨rfl, k2⟩
          have K2 := Hd.mk (Below.chain K1.out k2)
          clear k2
          go_wp2_with fail
          go_quiet (fail)
          go_wp2
          go_ret2
          exact ⟨rfl, Below.chain K2.out (keepsOfDrewN _ _)⟩
      · have b2 : ((t.size : Int) == 2) = false := by rw [beq_eq_false_iff_ne]; omega
        rw [decide_eq_false h2, Bool.false_and, if_pos (by decide)]
        clear hd hn hb ht htl
        go_enter Tryz.func33, Tryz.ntmps33
        go_wp2_with fail
        refine (HCp.out _).mono ?_
        rintro e w1 ⟨rfl, rfl⟩
        go_wp2_with fail
        refine (HD.out _).mono ?_
        rintro e w1 ⟨rfl, k1⟩
        have K1 := Hd.mk k1
        clear k1
        go_wp2_with fail
        refine (HA.out (by trivial) _).mono ?_
        rintro e w2 ⟨rfl, k2⟩
        have K2 := Hd.mk (Below.chain K1.out k2)
        clear k2
        go_wp2_with fail
        go_quiet (fail)
        go_wp2
        go_ret2
        exact ⟨rfl, Below.chain K2.out (keepsOfDrewN _ _)⟩

theorem operand_any (s : ByteArray) (ch : UInt8) (w : World) (hs : s.size ≤ 100000) : Calls Tryz.prog 33 #[.string s, .int .u8 (ch.toNat : Int)] w fun e w' => e = .returned (optV (opL s.data.toList ch)) ∧ Below w.heap.size w w' := by
  unfold opL
  by_cases h : ch = 73
  · subst h
    rw [if_pos rfl]
    exact operand_imm s w hs
  · rw [if_neg h]
    exact operand_reg s ch h w hs

end Go.Proofs.YtlohhlbbkliehaaGreatDoor.W
