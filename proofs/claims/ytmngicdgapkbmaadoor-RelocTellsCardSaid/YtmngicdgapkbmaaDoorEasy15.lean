/-
  The walks of reloc's is, Width, Fits, Code, Direct, Value.
-/
import Derived.Test.YtmngicdgapkbmaaDoorRows15
import Derived.Test.YtmngicdgapkbmaaDoorE
import Derived.Test.YtmngicdgapkbmaaDoorRight
import Derived.BigQuiet
import Derived.Deep.QuietTactic
import Derived.Outline
namespace Go.Proofs.YtmngicdgapkbmaaDoor.W
open Go.RowKit
set_option linter.unusedVariables false

def isK (k : Int) : Bool := decide (0 ≤ k ∧ k < 13)

theorem isK_nat {k : Int} (h : isK k = true) : ∃ n : Nat, k = (n : Int) ∧ n < 13 := by
  unfold isK at h; simp at h; exact ⟨k.toNat, by omega, by omega⟩

theorem is15_any (k : Int) (w : World) : Calls Tryd.prog 27 #[.int .i64 k] w fun e w' => e = .returned (.bool (isK k)) ∧ w = w' := by
  by_cases h0 : 0 ≤ k
  · by_cases h1 : k < 13
    · have e : Hd (isK k = true) := ⟨by simp [isK]; omega⟩
      go_enter Tryd.func27, Tryd.ntmps27
      go_wp2
      go_ret
      exact ⟨ret_b e.out.symm, rfl⟩
    · have e : Hd (isK k = false) := ⟨by simp [isK]; omega⟩
      go_enter Tryd.func27, Tryd.ntmps27
      go_wp2
      go_ret
      exact ⟨ret_b e.out.symm, rfl⟩
  · have e : Hd (isK k = false) := ⟨by simp [isK]; omega⟩
    go_enter Tryd.func27, Tryd.ntmps27
    go_wp2
    go_ret
    exact ⟨ret_b e.out.symm, rfl⟩

def offI (k : Int) : Int := if isK k then kOff k.toNat else 0
def sizeI (k : Int) : Int := if isK k then kSize k.toNat else 0

theorem width_any (k : Int) (w : World) (h : Tabs w) : Calls Tryd.prog 9 #[.int .i64 k] w fun e w' => e = .returned (.tuple #[.int .i64 (offI k), .int .i64 (sizeI k)]) ∧ Below w.heap.size w w' := by
  rcases hk : isK k with _ | _
  · have e : Hd (offI k = 0 ∧ sizeI k = 0) := ⟨by unfold offI; rw [hk]; rfl, by unfold sizeI; rw [hk]; rfl⟩
    rw [e.out.1, e.out.2]
    clear h
    go_enter Tryd.func9, Tryd.ntmps9
    go_wp2_with fail
    refine (is15_any k w).mono ?_; rintro e w1 ⟨rfl, rfl⟩
    rw [hk]
    go_wp2
    go_ret2
    exact ⟨rfl, Below.refl _ _⟩
  · obtain ⟨n, rfl, hn⟩ := isK_nat hk
    have e : Hd (offI n = kOff n ∧ sizeI n = kSize n) := ⟨by unfold offI; rw [hk]; rfl, by unfold sizeI; rw [hk]; rfl⟩
    rw [e.out.1, e.out.2]
    obtain ⟨c0, c1, _⟩ := h.off n hn
    have i0 : (0 : Int) ≤ (n : Int) := by omega
    have i1 : (n : Int) < 13 := by omega
    have HT := Hd.mk h
    clear h
    obtain ⟨a, ha⟩ : ∃ a, kOff n = a := ⟨_, rfl⟩
    obtain ⟨b, hb⟩ : ∃ b, kSize n = b := ⟨_, rfl⟩
    rw [ha] at c0 ⊢
    rw [hb] at c1 ⊢
    clear ha hb
    go_enter Tryd.func9, Tryd.ntmps9
    go_wp2_with fail
    refine (is15_any n w).mono ?_; rintro e w1 ⟨rfl, rfl⟩
    rw [hk]
    go_wp2
    go_quiet (fail)
    go_wp2
    go_ret2
    exact ⟨rfl, ⟨rfl, rfl, rfl, Nat.le_refl _, fun _ _ => rfl⟩⟩

def fits15 (k v : Int) : Bool := if k = 3 then decide (0 ≤ v ∧ v < 65536) else if k = 6 then decide (v % 8 = 0 ∧ -512 ≤ v ∧ v < 512) else isK k && (decide (sizeI k = 8) || fitsB v 32 true)

theorem fits15_any (k v : Int) (w : World) (h : Tabs w) (hv : i64R v) : Calls Tryd.prog 13 #[.int .i64 k, .int .i64 v] w fun e w' => e = .returned (.bool (fits15 k v)) ∧ w = w' := by
  unfold i64R at hv
  by_cases h3 : k = 3
  · subst h3
    have e : Hd (fits15 3 v = decide (0 ≤ v ∧ v < 65536)) := ⟨rfl⟩
    rw [e.out]
    clear h
    by_cases a : 0 ≤ v
    · by_cases b : v < 65536
      · have e2 : Hd (decide (0 ≤ v ∧ v < 65536) = true) := ⟨by simp; omega⟩
        rw [e2.out]
        go_enter Tryd.func13, Tryd.ntmps13
        go_wp2
        go_ret
        exact ⟨rfl, rfl⟩
      · have e2 : Hd (decide (0 ≤ v ∧ v < 65536) = false) := ⟨by simp; omega⟩
        rw [e2.out]
        go_enter Tryd.func13, Tryd.ntmps13
        go_wp2
        go_ret
        exact ⟨rfl, rfl⟩
    · have e2 : Hd (decide (0 ≤ v ∧ v < 65536) = false) := ⟨by simp; omega⟩
      rw [e2.out]
      go_enter Tryd.func13, Tryd.ntmps13
      go_wp2
      go_ret
      exact ⟨rfl, rfl⟩
  · have z3 : (k == 3) = false := by simp [h3]
    by_cases h6 : k = 6
    · subst h6
      have e : Hd (fits15 6 v = decide (v % 8 = 0 ∧ -512 ≤ v ∧ v < 512)) := ⟨rfl⟩
      rw [e.out]
      clear h h3 z3
      have hm : v.tmod 8 = 0 ↔ v % 8 = 0 := by
        have h1 := Int.dvd_iff_emod_eq_zero (a := 8) (b := v)
        have h2 := Int.dvd_iff_tmod_eq_zero (a := 8) (b := v)
        exact h2.symm.trans h1
      by_cases a : v % 8 = 0
      · have a' : (v.tmod 8 == 0) = true := by simp [hm, a]
        by_cases b : -512 ≤ v
        · by_cases c : v < 512
          · have e2 : Hd (decide (v % 8 = 0 ∧ -512 ≤ v ∧ v < 512) = true) := ⟨by simp; omega⟩
            rw [e2.out]
            clear hm
            go_enter Tryd.func13, Tryd.ntmps13
            go_wp2
            go_ret
            exact ⟨rfl, rfl⟩
          · have e2 : Hd (decide (v % 8 = 0 ∧ -512 ≤ v ∧ v < 512) = false) := ⟨by simp; omega⟩
            rw [e2.out]
            clear hm
            go_enter Tryd.func13, Tryd.ntmps13
            go_wp2
            go_ret
            exact ⟨rfl, rfl⟩
        · have e2 : Hd (decide (v % 8 = 0 ∧ -512 ≤ v ∧ v < 512) = false) := ⟨by simp; omega⟩
          rw [e2.out]
          clear hm
          go_enter Tryd.func13, Tryd.ntmps13
          go_wp2
          go_ret
          exact ⟨rfl, rfl⟩
      · have a' : (v.tmod 8 == 0) = false := by simp [hm, a]
        have e2 : Hd (decide (v % 8 = 0 ∧ -512 ≤ v ∧ v < 512) = false) := ⟨by simp; omega⟩
        rw [e2.out]
        have a'' : (v % 8 == 0) = false := by simp [a]
        clear hm a
        go_enter Tryd.func13, Tryd.ntmps13
        go_wp2
        go_ret
        exact ⟨rfl, rfl⟩
    · have z6 : (k == 6) = false := by simp [h6]
      have e : Hd (fits15 k v = (isK k && (decide (sizeI k = 8) || fitsB v 32 true))) := ⟨by unfold fits15; rw [if_neg h3, if_neg h6]⟩
      rw [e.out]
      clear h3 h6
      rcases hk : isK k with _ | _
      · clear h
        go_enter Tryd.func13, Tryd.ntmps13
        go_wp2_with fail
        refine (is15_any k w).mono ?_; rintro e w1 ⟨rfl, rfl⟩
        rw [hk]
        go_wp2
        go_ret
        exact ⟨rfl, rfl⟩
      · obtain ⟨n, rfl, hn⟩ := isK_nat hk
        have e2 : Hd (sizeI n = kSize n) := ⟨by unfold sizeI; rw [hk]; rfl⟩
        rw [e2.out]
        obtain ⟨c0, c1, _⟩ := h.off n hn
        have i0 : (0 : Int) ≤ (n : Int) := by omega
        have i1 : (n : Int) < 13 := by omega
        obtain ⟨b, hb⟩ : ∃ b, kSize n = b := ⟨_, rfl⟩
        rw [hb] at c1 ⊢
        have HF := Hd.mk (fits_any v 32 true w hv.1 hv.2)
        clear h hb c0
        by_cases h8 : b = 8
        · subst h8
          go_enter Tryd.func13, Tryd.ntmps13
          go_wp2_with fail
          refine (is15_any n w).mono ?_; rintro e w1 ⟨rfl, rfl⟩
          rw [hk]
          go_wp2
          go_ret
          exact ⟨rfl, rfl⟩
        · have z8 : (b == 8) = false := by simp [h8]
          have e3 : Hd (decide (b = 8) = false) := ⟨by simp [h8]⟩
          rw [e3.out]
          obtain ⟨f, hf⟩ : ∃ f, fitsB v 32 true = f := ⟨_, rfl⟩
          rw [hf] at HF ⊢
          clear h8 hf
          go_enter Tryd.func13, Tryd.ntmps13
          go_wp2_with fail
          refine (is15_any n w).mono ?_; rintro e w1 ⟨rfl, rfl⟩
          rw [hk]
          go_wp2_with fail
          refine HF.out.mono ?_; rintro e w1 ⟨rfl, rfl⟩
          go_wp2
          go_ret
          exact ⟨ret_b (by simp), rfl⟩

def code15 (k : Int) : Bool := isK k && decide (kOps k.toNat ≠ [])

theorem code_any (k : Int) (w : World) (h : Tabs w) : Calls Tryd.prog 15 #[.int .i64 k] w fun e w' => e = .returned (.bool (code15 k)) ∧ w = w' := by
  rcases hk : isK k with _ | _
  · have e : Hd (code15 k = false) := ⟨by unfold code15; rw [hk]; rfl⟩
    rw [e.out]
    clear h
    go_enter Tryd.func15, Tryd.ntmps15
    go_wp2_with fail
    refine (is15_any k w).mono ?_; rintro e w1 ⟨rfl, rfl⟩
    rw [hk]
    go_wp2
    go_ret
    exact ⟨rfl, rfl⟩
  · obtain ⟨n, rfl, hn⟩ := isK_nat hk
    obtain ⟨_, _, v, c2, hO⟩ := h.off n hn
    have i0 : (0 : Int) ≤ (n : Int) := by omega
    have i1 : (n : Int) < 13 := by omega
    have e : Hd (code15 n = decide (kOps n ≠ [])) := ⟨by unfold code15; rw [hk]; rfl⟩
    rw [e.out]
    rcases hO.is with ⟨h0, rfl⟩ | ⟨h0, g, o, cap, rfl, _⟩
    · have e2 : Hd (decide (kOps n ≠ []) = false) := ⟨by simp [h0]⟩
      rw [e2.out]
      have hnil := _root_.Go.run_neq_slice_nil_any (P := Tryd.prog) w 47 3 none 0 0 0 0 Tryd.underlying47
      clear h hO h0
      go_enter Tryd.func15, Tryd.ntmps15
      go_wp2_with fail
      refine (is15_any n w).mono ?_; rintro e w1 ⟨rfl, rfl⟩
      rw [hk]
      go_wp2
      go_ret
      exact ⟨rfl, rfl⟩
    · have e2 : Hd (decide (kOps n ≠ []) = true) := ⟨by simp; exact List.length_pos_iff.1 h0⟩
      rw [e2.out]
      have hnil := _root_.Go.run_neq_slice_nil_any (P := Tryd.prog) w 47 3 (some ⟨g, o, none⟩) (kOps n).length cap 0 0 Tryd.underlying47
      clear h hO h0
      go_enter Tryd.func15, Tryd.ntmps15
      go_wp2_with fail
      refine (is15_any n w).mono ?_; rintro e w1 ⟨rfl, rfl⟩
      rw [hk]
      go_wp2
      go_ret
      exact ⟨rfl, rfl⟩

end Go.Proofs.YtmngicdgapkbmaaDoor.W
