/-
  The walk of the program's Unhex, for strings of at most 10^9 bytes.
-/
import Derived.Test.YtcocjdcnmfodcaaDoorHex
import Derived.Deep.QuietTactic
import Derived.BigQuiet
namespace Go.Proofs.YtcocjdcnmfodcaaDoor.W
open Go.RowKit
set_option linter.unusedVariables false

theorem index_any (c : UInt8) (w : World) : Calls Tryd.prog 23 #[.string ⟨#[48, 49, 50, 51, 52, 53, 54, 55, 56, 57, 97, 98, 99, 100, 101, 102]⟩, .int .u8 (c.toNat : Int)] w fun e w' => e = .returned (.int .i64 (hv c)) ∧ w' = w := by
  have := _root_.Go.Proofs.Tryd.strings_IndexByte ⟨#[48, 49, 50, 51, 52, 53, 54, 55, 56, 57, 97, 98, 99, 100, 101, 102]⟩ (c.toNat : Int) w
  have e : ((c.toNat : Int)).toNat.toUInt8 = c := by simp
  rw [e] at this
  exact this

set_option maxHeartbeats 1000000 in
set_option maxRecDepth 100000 in
theorem unhex_even (s : ByteArray) (w : World) (hs : s.size ≤ 1000000000) (h2 : s.size % 2 = 0) :
    Calls Tryd.prog 11 #[.string s] w fun e w' => e = .returned (.tuple #[.string ⟨(unhexS s.data.toList).toArray⟩, .bool (unhexB s.data.toList)]) ∧ Below w.heap.size w w' := by
  have HF := Hd.mk (Lib.fresh_isBuilder 35 5 w)
  have hm : (s.size : Int) % 2 = 0 := by omega
  go_enter Tryd.func11, Tryd.ntmps11
  go_wp2
  go_loopw [5] (fun i wr => ∃ (j : Nat) (acc : List UInt8), j ≤ s.size ∧ j % 2 = 0 ∧ acc.length ≤ j ∧ i = .int .i64 j ∧ Lib.IsBuilder 35 5 w.heap.size w.heap.size (Lib.byteCells acc) wr ∧ Below w.heap.size w wr ∧ Hd (unhexR s.data.toList = (unhexR (s.data.toList.drop j)).map (acc ++ ·))) (fun i _ => s.size - (intOf i).toNat)
  case atStart => exact ⟨0, [], Nat.zero_le _, rfl, Nat.le_refl _, rfl, HF.out, by go_grown, ⟨by simp⟩⟩
  case round =>
    obtain ⟨j, acc, hj, hj2, hacc, rfl, hI, hB, hU⟩ := hrel
    have hev : ¬ j + 1 < s.size → j = s.size := by omega
    clear hm h2
    by_cases hlt : j + 1 < s.size
    · have HI := Hd.mk hI
      have HB := Hd.mk hB
      have hsz := hB.size
      have bl := bc_len acc
      have s1 : IntKind.i64.wrap ((j : Int) + 1) = (j : Int) + 1 := IntWalk.i64_in _ (by omega)
      have n1 : ((j : Int) + 1).toNat = j + 1 := by omega
      have hd := Hd.mk (drop2 s j hlt)
      obtain ⟨a, ha⟩ : ∃ a, s[j] = a := ⟨_, rfl⟩
      obtain ⟨b, hb⟩ : ∃ b, s[j + 1] = b := ⟨_, rfl⟩
      have bda := hv_bd a
      have bdb := hv_bd b
      clear hI hB
      go_wp2_with fail
      go_quiet ((go_at_call 23; exact Calls.quiet_of_same (index_any _ _)))
      by_cases hbad : hv a < 0 ∨ hv b < 0
      · have hR := Hd.mk (unhex_bad _ s j a b hU.out hd.out ha hb hbad)
        have nb1 : (decide (hv a < 0)) = true ∨ (decide (hv a < 0) = false ∧ decide (hv b < 0) = true) := by
          rcases hbad with h | h
          · exact .inl (by simpa using h)
          · by_cases h' : hv a < 0
            · exact .inl (by simpa using h')
            · exact .inr ⟨by simpa using h', by simpa using h⟩
        rcases nb1 with n1 | ⟨n1, n2⟩
        all_goals
          go_wp2_with fail
          go_ret2
          exact ⟨by rw [unhexS, unhexB, hR.out]; rfl, Go.below_drewN HB.out nq⟩
      · have hR := Hd.mk (unhex_good _ s j a b acc hU.out hd.out ha hb hbad)
        have hna : decide (hv a < 0) = false := by simp; omega
        have hnb : decide (hv b < 0) = false := by simp; omega
        obtain ⟨x, hx⟩ : ∃ x : Nat, x = (16 * hv a + hv b).toNat := ⟨_, rfl⟩
        have ux : ((UInt8.ofNat x).toNat : Int) = 16 * hv a + hv b := by
          have : (UInt8.ofNat x).toNat = x := by simp; omega
          omega
        rw [← hx] at hR
        have HI2 : Hd (Lib.IsBuilder 35 5 w.heap.size w.heap.size (Lib.byteCells acc) (wr.drewN nq)) := ⟨HI.out⟩
        have hsz2 : w.heap.size ≤ (wr.drewN nq).heap.size := hsz
        have HB2 : Hd (Below w.heap.size w (wr.drewN nq)) := ⟨Go.below_drewN HB.out nq⟩
        clear HI HB hsz
        generalize wr.drewN nq = w2 at *
        go_wp2_with fail
        rw [← ux]
        refine (write_any w.heap.size w.heap.size _ _ _ HI2.out (by omega) hsz2).mono ?_
        rintro e w6 ⟨rfl, hI6, hB6⟩
        have hI7 : Lib.IsBuilder 35 5 w.heap.size w.heap.size (Lib.byteCells (acc ++ [UInt8.ofNat x])) w6 := by
          rw [← bc_snoc]; exact hI6
        have HI7 := Hd.mk hI7
        have HB6 := Hd.mk hB6
        have s2 : IntKind.i64.wrap ((j : Int) + 2) = (j : Int) + 2 := IntWalk.i64_in _ (by omega)
        clear hI7 hI6 hB6
        go_wp2
        go_roundw
        case rel => exact ⟨j + 2, acc ++ [UInt8.ofNat x], by omega, by omega, by simp; omega, rfl, HI7.out, HB2.out.trans HB6.out, hR⟩
        case measure => simp [intOf]; omega
    · have HI := Hd.mk hI
      have HB := Hd.mk hB
      have hsz := hB.size
      have hjs : j = s.size := hev hlt
      rw [hjs] at hU ⊢
      have hR : unhexR s.data.toList = some acc := by
        have := hU.out
        rw [List.drop_of_length_le (by simp)] at this
        simpa [unhexR] using this
      have HR := Hd.mk hR
      clear hR hI hB hU hj2 hev
      go_wp2_with fail
      refine (_root_.Go.Proofs.Tryd.Builder_String_any w.heap.size w.heap.size acc _ HI.out hsz).mono ?_
      rintro e w6 ⟨rfl, hB6⟩
      go_wp2
      go_ret2
      exact ⟨by rw [unhexS, unhexB, HR.out]; rfl, HB.out.trans hB6⟩

theorem unhex_odd_walk (s : ByteArray) (w : World) (hs : s.size ≤ 1000000000) (h2 : s.size % 2 = 1) :
    Calls Tryd.prog 11 #[.string s] w fun e w' => e = .returned (.tuple #[.string ⟨(unhexS s.data.toList).toArray⟩, .bool (unhexB s.data.toList)]) ∧ Below w.heap.size w w' := by
  have hR := Hd.mk (unhex_odd s.data.toList (by simpa using h2))
  have hm : (s.size : Int) % 2 = 1 := by omega
  go_enter Tryd.func11, Tryd.ntmps11
  go_wp2
  go_ret2
  exact ⟨by rw [unhexS, unhexB, hR.out]; rfl, by go_grown⟩

theorem unhex_any (s : ByteArray) (w : World) (hs : s.size ≤ 1000000000) :
    Calls Tryd.prog 11 #[.string s] w fun e w' => e = .returned (.tuple #[.string ⟨(unhexS s.data.toList).toArray⟩, .bool (unhexB s.data.toList)]) ∧ Below w.heap.size w w' := by
  rcases Nat.mod_two_eq_zero_or_one s.size with h | h
  · exact unhex_even s w hs h
  · exact unhex_odd_walk s w hs h

end Go.Proofs.YtcocjdcnmfodcaaDoor.W
