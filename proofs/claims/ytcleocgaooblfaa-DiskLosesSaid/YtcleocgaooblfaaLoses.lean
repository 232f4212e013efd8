/-
  DiskLoses: the plain law and the walk.
-/
import Derived.Test.YtcleocgaooblfaaTwo
import Derived.Test.YtcleocgaooblfaaArmsP
import Derived.Test.YtcleocgaooblfaaTurns
import Derived.Test.YtcleocgaooblfaaArgS
namespace Go.Proofs.Ytcleocgaooblfaa.W
open Go.RowKit
set_option linter.unusedVariables false

def lS (s : List UInt8) (m : Nat) : St := ⟨row0 [], row0 s, pieces 0 0 s, m, false, 0, []⟩
def lD (s : List UInt8) (m : Nat) (d : Bool) : St := ⟨row0 s, row0 s, [], m, d, 0, []⟩

theorem loses_write (s : List UInt8) (m : Nat) (h : s.length ≤ 50000) : WriteE { newS with lost := m } 0 0 s = 0 ∧ WriteS { newS with lost := m } 0 0 s = lS s m := by
  have := (show Calm { newS with lost := m } from ⟨rfl, rfl⟩).add (f := 0) (k := 0) (s := s) (by decide) (by omega) (fun _ => rfl) rfl
  refine ⟨this.1, this.2.trans ?_⟩
  simp [addS, lS, newS, row0, putL_zero]
theorem loses_flush (s : List UInt8) (m : Nat) : FlushE (lS s (m + 1)) 0 = 12 ∧ FlushS (lS s (m + 1)) 0 = lS s m := by
  unfold FlushE FlushS
  rw [(show Calm (lS s (m + 1)) from ⟨rfl, rfl⟩).head]
  exact ⟨rfl, rfl⟩
theorem loses_crash (s : List UInt8) (m : Nat) : crashS (lS s m) [] = lD [] m true := by
  have : stays (row0 []) (pieces 0 0 s) [] = row0 [] := by cases pieces 0 0 s <;> rfl
  show (⟨stays (row0 []) (pieces 0 0 s) [], stays (row0 []) (pieces 0 0 s) [], [], m, true, 0, []⟩ : St) = _
  rw [this]; rfl
theorem loses_last (s : List UInt8) : FlushE (lS s 0) 0 = 0 ∧ FlushS (lS s 0) 0 = lD s 0 false := by
  have := (show Calm (lS s 0) from ⟨rfl, rfl⟩).Flush (f := 0) (by decide) rfl
  refine ⟨this.1, this.2.trans ?_⟩
  simp only [settleS, lS, row0, filter_pieces]
  rfl
theorem fit_lS (s : List UInt8) (m : Nat) (hm : m ≤ 100) (hs : s.length ≤ 50000) : Fit (lS s m) :=
  ⟨Nat.zero_le _, Nat.le_trans hm (by decide), Nat.zero_le _, Nat.le_trans (pieces_le 0 0 s) (Nat.le_trans hs (by decide))⟩
theorem fit_lD (s : List UInt8) (m : Nat) (d : Bool) (hm : m ≤ 100) : Fit (lD s m d) := ⟨Nat.zero_le _, Nat.le_trans hm (by decide), Nat.zero_le _, Nat.zero_le _⟩

set_option maxHeartbeats 2000000 in
set_option maxRecDepth 100000 in
theorem loses_any (W : World) (s : ByteArray) (n : Int) (hs : s.size ≤ 140737488351232) (hn : -9223372036854775808 ≤ n ∧ n ≤ 9223372036854775807) :
    Calls Try.prog 7 #[.string s, .int .i64 n] W fun e w' => e = .returned (.bool true) ∧ Below W.heap.size W w' := by
  have HN := Hd.mk hn
  clear hs hn
  go_enter Try.func7, Try.ntmps7
  go_wp2_with fail
  refine (small_any W).mono ?_; rintro e wa ⟨rfl, hb0⟩
  have B0 := Hd.mk hb0; clear hb0
  go_wp2_with fail
  refine (One.new wa).mono ?_; rintro e w0 ⟨D, rfl, h0⟩
  have H0 := Hd.mk h0; clear h0
  have hend : ∀ {w' : World} {σ : St}, One wa w' D σ → Below W.heap.size W w' := fun h => Below.chain B0.out h.below
  have HEnd := Hd.mk @hend; clear hend
  by_cases la : 50000 < s.size
  · have la' : (50000 : Int) < (s.size : Int) := by omega
    clear la
    go_wp2
    go_ret
    exact ⟨rfl, HEnd.out H0.out⟩
  have la' : ¬ (50000 : Int) < (s.size : Int) := by omega
  have LA : Hd (s.size ≤ 50000) := ⟨by omega⟩
  clear la
  by_cases ln : 20 < n
  · go_wp2
    go_ret
    exact ⟨rfl, HEnd.out H0.out⟩
  obtain ⟨M, hM⟩ : ∃ M : Nat, (max n 0).toNat = M := ⟨_, rfl⟩
  have HM : Hd (M ≤ 20 ∧ ∀ k : Nat, k < M ↔ (k : Int) < n) := ⟨by omega, fun k => by omega⟩
  have HMM := Hd.mk hM
  clear hM
  have HW := Hd.mk (loses_write s.data.toList M LA.out)
  go_wp2_with fail
  refine (H0.out.run (OpC.lose n { newS with lost := M } HN.out.2 (by unfold loseS; rw [HMM.out]))).mono ?_; rintro e w1 ⟨rfl, h1⟩
  have H1 := Hd.mk h1; clear h1
  go_wp2_with fail
  refine (H1.out.run (OpC.write 0 0 s 0 _ ⟨Nat.zero_le _, Nat.le_trans HM.out.1 (by decide), Nat.zero_le _, Nat.zero_le _⟩ (by have := LA.out; simp [newS]; omega) (by decide) (Nat.le_trans LA.out (by decide)) (congrArg Nat.cast HW.out.1) HW.out.2)).mono ?_; rintro e w2 ⟨rfl, h2⟩
  have H2 := Hd.mk h2; clear h2
  go_wp2_with fail
  go_loopw [7] (fun i wr => ∃ k : Nat, k ≤ M ∧ i = .int .i64 k ∧ One wa wr D (lS s.data.toList (M - k))) (fun i _ => M - (intOf i).toNat)
  case atStart => exact ⟨0, Nat.zero_le _, rfl, H2.out⟩
  case round =>
    clear H0 H1 H2
    obtain ⟨k, hk, rfl, h3⟩ := hrel
    have H3 := Hd.mk h3
    have hfit := fit_lS s.data.toList (M - k) (by have := HM.out.1; omega) LA.out
    have HFit := Hd.mk hfit
    clear h3 hfit
    by_cases hlt : k < M
    · have hd1 : decide ((k : Int) < n) = true := by rw [decide_eq_true_eq]; exact (HM.out.2 k).1 hlt
      obtain ⟨m, hm⟩ : ∃ m, M - k = m + 1 := ⟨M - k - 1, by omega⟩
      have hm2 : M - (k + 1) = m := by omega
      have hm3 : m ≤ 100 := by have := HM.out.1; omega
      have HM2 := Hd.mk hm2
      have HM3 := Hd.mk hm3
      rw [hm] at H3 HFit
      have hkz : k ≤ 20 := by have := HM.out.1; omega
      clear hm hm2 hm3
      have HFL := Hd.mk (loses_flush s.data.toList m)
      have HFit2 := Hd.mk (fit_lS s.data.toList m HM3.out LA.out)
      go_wp2_with fail
      refine (H3.out.copy HFit.out.q).mono ?_; rintro e w3 ⟨E, rfl, h4⟩
      have H4 := Hd.mk h4; clear h4
      go_wp2_with fail
      refine (H4.out.run (OpC.flush 0 12 _ HFit.out (congrArg Nat.cast HFL.out.1) HFL.out.2)).mono ?_; rintro e w4 ⟨rfl, h5⟩
      have H5 := Hd.mk h5; clear h5
      go_wp2_with fail
      refine (H5.out.run2 (OpC.flush 0 12 _ HFit.out (congrArg Nat.cast HFL.out.1) HFL.out.2)).mono ?_; rintro e w5 ⟨rfl, h6⟩
      have H6 := Hd.mk h6; clear h6
      go_wp2_with fail
      refine (H6.out.run2 (OpC.crash (.slice none 0 0) [] _ (by decide) HFit2.out (IR.nil _ _) (loses_crash _ _))).mono ?_; rintro e w6 ⟨rfl, h7⟩
      have H7 := Hd.mk h7; clear h7
      go_wp2_with fail
      refine (H7.out.run2 (OpC.start (lD [] m false) rfl)).mono ?_; rintro e w7 ⟨rfl, h8⟩
      have H8 := Hd.mk h8; clear h8
      go_wp2_with fail
      refine (H8.out.run2 (OpC.read 0 ⟨#[]⟩ 0 rfl rfl)).mono ?_; rintro e w8 ⟨rfl, h9⟩
      have H9 := Hd.mk h9; clear h9
      go_wp2
      exact ⟨⟨k + 1, hlt, by go_num, by rw [HM2.out]; exact H9.out.left⟩, by simp [intOf]; omega⟩
    · have hd1 : decide ((k : Int) < n) = false := by rw [decide_eq_false_iff_not]; exact fun h => hlt ((HM.out.2 k).2 h)
      have hm : M - k = 0 := by omega
      rw [hm] at H3 HFit
      have HLL := Hd.mk (loses_last s.data.toList)
      clear hm hk hlt
      go_wp2_with fail
      refine (H3.out.run (OpC.flush 0 0 _ HFit.out (congrArg Nat.cast HLL.out.1) HLL.out.2)).mono ?_; rintro e w4 ⟨rfl, h5⟩
      have H5 := Hd.mk h5; clear h5
      go_wp2_with fail
      refine (H5.out.run (OpC.crash (.slice none 0 0) [] (lD s.data.toList 0 true) (by decide) (fit_lD _ _ _ (by decide)) (IR.nil _ _) rfl)).mono ?_; rintro e w6 ⟨rfl, h7⟩
      have H7 := Hd.mk h7; clear h7
      go_wp2_with fail
      refine (H7.out.run (OpC.start (lD s.data.toList 0 false) rfl)).mono ?_; rintro e w7 ⟨rfl, h8⟩
      have H8 := Hd.mk h8; clear h8
      go_wp2_with fail
      refine (H8.out.run (OpC.read 0 s 0 rfl rfl)).mono ?_; rintro e w8 ⟨rfl, h9⟩
      have H9 := Hd.mk h9; clear h9
      go_wp2
      go_ret
      exact ⟨rfl, HEnd.out H9.out⟩

end Go.Proofs.Ytcleocgaooblfaa.W
