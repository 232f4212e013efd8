/-
  The walks of number, form, header; slices.Clone of a row of strings; Same.
-/
import Derived.Test.YtmcdfhihfcfbaaaJS
import Derived.Test.YtmcdfhihfcfbaaaShelf
import Derived.Test.YtmcdfhihfcfbaaaRw
import Derived.Deep.QuietTactic
import Derived.BigQuiet
namespace Go.Proofs.Ytmcdfhihfcfbaaa.W
open Go.RowKit
set_option linter.unusedVariables false

theorem zero8 : (⟨(Lib.repeatL (⟨#[0]⟩ : ByteArray).data.toList 8).toArray⟩ : ByteArray) = ⟨#[0, 0, 0, 0, 0, 0, 0, 0]⟩ := by kernel_rfl

theorem repeat8 (w : World) : Calls Try.prog 86 #[.string ⟨#[0]⟩, .int .i64 8] w fun e w' => e = .returned (.string ⟨#[0, 0, 0, 0, 0, 0, 0, 0]⟩) ∧ Below w.heap.size w w' := by
  have h := Try.strings_Repeat ⟨#[0]⟩ 8 w (by decide) (by decide)
  rw [zero8] at h
  exact h

theorem put8 (n : Nat) (h : n ≤ 9223372036854775807) : Wd.putS ⟨#[0, 0, 0, 0, 0, 0, 0, 0]⟩ 0 8 n = ⟨(num8 n).toArray⟩ ∧ Wd.putOk ⟨#[0, 0, 0, 0, 0, 0, 0, 0]⟩ 0 8 n = true := by
  have hok := Wd.ok_8 ⟨#[0, 0, 0, 0, 0, 0, 0, 0]⟩ 0 n (by kernel_rfl) (by omega) (by omega)
  refine ⟨?_, hok⟩
  rw [Wd.putS, if_pos hok]
  have := Wd.putL_eq ⟨#[0, 0, 0, 0, 0, 0, 0, 0]⟩ 0 8 n (by decide)
  rw [show ((0 : Int)).toNat = 0 from rfl, show ((8 : Int)).toNat = 8 from rfl, this]
  simp [num8]

theorem number_any (n : Nat) (w : World) (h : n ≤ 9223372036854775807) : Calls Try.prog 71 #[.int .i64 n] w fun e w' => e = .returned (.string ⟨(num8 n).toArray⟩) ∧ Below w.heap.size w w' := by
  have HP : Hd (∀ w, Calls Try.prog 85 #[.string ⟨#[0, 0, 0, 0, 0, 0, 0, 0]⟩, .int .i64 0, .int .i64 8, .int .i64 n] w fun e w' => e = .returned (.tuple #[.string ⟨(num8 n).toArray⟩, .bool true]) ∧ Below w.heap.size w w') := ⟨fun w => by
    have := Wd.put_any ⟨#[0, 0, 0, 0, 0, 0, 0, 0]⟩ 0 8 n w (by decide) (by omega) (by omega)
    rw [(put8 n h).1, (put8 n h).2] at this
    exact this⟩
  clear h
  go_enter Try.func71, Try.ntmps71
  go_wp2_with fail
  refine (repeat8 _).mono ?_
  rintro e w1 ⟨rfl, b1⟩
  have B1 := Hd.mk b1; clear b1
  go_wp2_with fail
  refine (HP.out w1).mono ?_
  rintro e w2 ⟨rfl, b2⟩
  have B2 := Hd.mk b2; clear b2
  go_wp2
  go_ret
  exact ⟨rfl, Below.chain B1.out B2.out⟩

theorem form_str (r : ByteArray) : (⟨(num8 r.size).toArray⟩ : ByteArray) ++ r = ⟨(formL r).toArray⟩ := by
  apply ByteArray.ext
  simp [formL]

theorem form_any (r : ByteArray) (w : World) (h : r.size ≤ 1000000000) : Calls Try.prog 43 #[.string r] w fun e w' => e = .returned (.string ⟨(formL r).toArray⟩) ∧ Below w.heap.size w w' := by
  have hs : (⟨(num8 r.size).toArray⟩ : ByteArray).size = 8 := num8_len r.size
  have h1 : ¬ 9223372036854775807 < (⟨(num8 r.size).toArray⟩ : ByteArray).size + r.size := by rw [hs]; omega
  have HN := Hd.mk (fun w => number_any r.size w (by omega))
  have HF := Hd.mk (form_str r)
  clear hs h
  obtain ⟨x, hx⟩ : ∃ x, (⟨(num8 r.size).toArray⟩ : ByteArray) = x := ⟨_, rfl⟩
  rw [hx] at h1 HN HF
  clear hx
  go_enter Try.func43, Try.ntmps43
  go_wp2_with fail
  refine (HN.out w).mono ?_
  rintro e w1 ⟨rfl, b1⟩
  have B1 := Hd.mk b1; clear b1
  go_wp2
  go_ret
  exact ⟨ret_s HF.out, B1.out⟩

theorem head_str (a b : Nat) : (⟨(num8 a).toArray⟩ : ByteArray) ++ ⟨(num8 b).toArray⟩ = ⟨(headL a b).toArray⟩ := by
  apply ByteArray.ext
  simp [headL]

theorem header_any (a b : Nat) (w : World) (ha : a ≤ 9223372036854775807) (hb : b ≤ 9223372036854775807) : Calls Try.prog 41 #[.int .i64 a, .int .i64 b] w fun e w' => e = .returned (.string ⟨(headL a b).toArray⟩) ∧ Below w.heap.size w w' := by
  have h1 : ¬ 9223372036854775807 < (⟨(num8 a).toArray⟩ : ByteArray).size + (⟨(num8 b).toArray⟩ : ByteArray).size := by
    have e1 : (⟨(num8 a).toArray⟩ : ByteArray).size = 8 := num8_len a
    have e2 : (⟨(num8 b).toArray⟩ : ByteArray).size = 8 := num8_len b
    omega
  have HN := Hd.mk (fun w => number_any a w ha)
  have HM := Hd.mk (fun w => number_any b w hb)
  have HF := Hd.mk (head_str a b)
  clear ha hb
  obtain ⟨x, hx⟩ : ∃ x, (⟨(num8 a).toArray⟩ : ByteArray) = x := ⟨_, rfl⟩
  obtain ⟨y, hy⟩ : ∃ y, (⟨(num8 b).toArray⟩ : ByteArray) = y := ⟨_, rfl⟩
  rw [hx] at h1 HN HF
  rw [hy] at h1 HM HF
  clear hx hy
  go_enter Try.func41, Try.ntmps41
  go_wp2_with fail
  refine (HN.out w).mono ?_
  rintro e w1 ⟨rfl, b1⟩
  have B1 := Hd.mk b1; clear b1
  go_wp2_with fail
  refine (HM.out w1).mono ?_
  rintro e w2 ⟨rfl, b2⟩
  have B2 := Hd.mk b2; clear b2
  go_wp2
  go_ret
  exact ⟨ret_s HF.out, Below.chain B1.out B2.out⟩

/-- a clone of a row of strings -/
theorem cloneS_any (w : World) (v : Value) (xs : List ByteArray) (hl : xs.length ≤ 1000000000) (h : Rw 1 strE w v xs) :
    Calls Try.prog 53 #[v] w fun e w' => ∃ v', e = .returned v' ∧ Own w' w.heap.size 9 v' (xs.map Value.string) ∧ Below w.heap.size w w' := by
  rcases h.is with ⟨rfl, rfl | ⟨a, c, rfl⟩⟩ | ⟨g, o, cap, rfl, hg, hc⟩
  · refine (Try.slices_Clone_string_nil 0 0 w).mono ?_
    rintro e w' ⟨rfl, rfl⟩
    exact ⟨_, rfl, Own.nil _ _ _, Below.refl _ _⟩
  · refine (Try.slices_Clone_string_zero a c w).mono ?_
    rintro e w' ⟨v', rfl, hO, _, hb⟩
    exact ⟨_, rfl, Own.of_row hO, hb⟩
  · refine (Try.slices_Clone_string g o xs.length cap xs w (Nat.le_refl _) (by omega) (fun j hj => ?_)).mono ?_
    · obtain ⟨cs, _, he, h3⟩ := hc j _ (List.getElem?_eq_getElem hj)
      have he : cs = [.string xs[j]] := he
      subst he
      have := h3 0 _ rfl
      rw [Nat.mul_one, Nat.add_zero] at this
      rw [this]
      simp [List.getD_eq_getElem?_getD, List.getElem?_eq_getElem hj]
    · rintro e w' ⟨v', rfl, hO, _, hb⟩
      exact ⟨_, rfl, (Own.of_row hO).cast (by rw [List.take_of_length_le (Nat.le_refl _)]), hb⟩

theorem Rw.of_str {w : World} {B : Nat} {e : TypeId} {v : Value} {xs : List ByteArray} (h : Own w B e v (xs.map Value.string)) : Rw 1 strE w v xs :=
  Rw.of_own h (by simp) (fun j x u hx hu => by rw [List.getElem?_map, hx] at hu; cases hu; rfl)

/-- are two rows equal -/
theorem same_any (w : World) (v u : Value) (xs ys : List ByteArray) (hl : xs.length ≤ 9223372036854775807) (hm : ys.length ≤ 9223372036854775807) (h : Rw 1 strE w v xs) (k : Rw 1 strE w u ys) :
    Calls Try.prog 15 #[v, u] w fun e w' => e = .returned (.bool (decide (xs = ys))) ∧ Below w.heap.size w w' := by
  obtain ⟨pv, cv, hv⟩ := h.slice
  obtain ⟨pu, cu, hu⟩ := k.slice
  obtain ⟨n, hn⟩ : ∃ n, xs.length = n := ⟨_, rfl⟩
  obtain ⟨m, hm'⟩ : ∃ m, ys.length = m := ⟨_, rfl⟩
  have HV := Hd.mk h
  have HU := Hd.mk k
  have HN := Hd.mk hn
  have HM := Hd.mk hm'
  rw [hn] at hv hl
  rw [hm'] at hu hm
  subst hv hu
  clear h k hn hm'
  by_cases hnm : n = m
  · subst hnm
    clear hm
    go_enter Try.func15, Try.ntmps15
    go_wp2
    go_loopw [5] (fun i wr => ∃ k : Nat, k ≤ n ∧ i = .int .i64 k ∧ (∀ j (h1 : j < xs.length) (h2 : j < ys.length), j < k → xs[j] = ys[j]) ∧ Below w.heap.size w wr) (fun i _ => n - (intOf i).toNat)
    case atStart => exact ⟨0, Nat.zero_le _, rfl, fun j _ _ hj => absurd hj (Nat.not_lt_zero _), Below.refl _ _⟩
    case round =>
      obtain ⟨k, hk, rfl, hall, hB⟩ := hrel
      have HA := Hd.mk hall
      have HB := Hd.mk hB
      clear hall hB
      by_cases hlt : k < n
      · have hd1 : decide ((k : Int) < (n : Int)) = true := by simp; omega
        have k1 : k < xs.length := HN.out ▸ hlt
        have k2 : k < ys.length := HM.out ▸ hlt
        obtain ⟨g1, o1, cs1, rfl, hg1, _, he1, hc1⟩ := (HV.out.below strE_stays HB.out).at rfl k1
        obtain ⟨g2, o2, cs2, rfl, hg2, _, he2, hc2⟩ := (HU.out.below strE_stays HB.out).at rfl k2
        have he1 : cs1 = [.string xs[k]] := he1
        have he2 : cs2 = [.string ys[k]] := he2
        subst he1 he2
        have c1 := hc1 0 _ rfl
        have c2 := hc2 0 _ rfl
        rw [Nat.mul_one, Nat.add_zero] at c1 c2
        obtain ⟨x, hx⟩ : ∃ x, xs[k] = x := ⟨_, rfl⟩
        obtain ⟨y, hy⟩ : ∃ y, ys[k] = y := ⟨_, rfl⟩
        rw [hx] at c1
        rw [hy] at c2
        have HX := Hd.mk hx
        have HY := Hd.mk hy
        clear hc1 hc2 hx hy
        by_cases hxy : x = y
        · subst hxy
          have HE : Hd (∀ j (h1 : j < xs.length) (h2 : j < ys.length), j < k + 1 → xs[j] = ys[j]) := ⟨fun j h1 h2 hj => by
            rcases Nat.lt_or_ge j k with h' | h'
            · exact HA.out j h1 h2 h'
            · obtain rfl : j = k := by omega
              rw [HX.out, HY.out]⟩
          go_wp2_with fail
          go_quiet (fail)
          go_wp2
          go_roundw
          case rel => exact ⟨k + 1, hlt, by go_num, HE.out, ⟨HB.out.os, HB.out.tape, HB.out.output, HB.out.size, HB.out.block⟩⟩
          case measure => simp [intOf]; omega
        · have hxe := str_beq x y
          rw [decide_eq_false hxy] at hxe
          have HE : Hd (xs ≠ ys) := ⟨fun e => hxy (by subst e; rw [← HX.out, HY.out])⟩
          clear hxy
          go_wp2_with fail
          go_quiet (fail)
          go_wp2
          go_ret
          exact ⟨ret_b (decide_eq_false HE.out).symm, ⟨HB.out.os, HB.out.tape, HB.out.output, HB.out.size, HB.out.block⟩⟩
      · have hd1 : decide ((k : Int) < (n : Int)) = false := by simp; omega
        have HE : Hd (xs = ys) := ⟨List.ext_getElem (by rw [HN.out, HM.out]) (fun j h1 h2 => HA.out j h1 h2 (by have := HN.out; omega))⟩
        go_wp2
        go_ret
        exact ⟨ret_b (decide_eq_true HE.out).symm, HB.out⟩
  · have hd1 : ((n : Int) == (m : Int)) = false := by simp; omega
    have HE : Hd (xs ≠ ys) := ⟨fun e => hnm (by rw [← HN.out, ← HM.out, e])⟩
    clear hnm
    go_enter Try.func15, Try.ntmps15
    go_wp2
    go_ret
    exact ⟨ret_b (decide_eq_false HE.out).symm, Below.refl _ _⟩

end Go.Proofs.Ytmcdfhihfcfbaaa.W
