/-
  DiskTells: the walks of the reference's Write, Flush.
-/
import Derived.Test.YtcleocgaooblfaaRf7
namespace Go.Proofs.Ytcleocgaooblfaa.W
open Go.RowKit
set_option linter.unusedVariables false

theorem crash_d (σ : St) (ks : List Int) : (crashS σ ks).down = true := by
  unfold crashS; split
  · assumption
  · rfl
theorem comS_queue (σ : St) (f k : Int) (s : List UInt8) (h : endsB σ = false) : (comS σ f k s).queue = σ.queue := by
  unfold comS; rw [h]; exact endsS_queue σ

set_option maxHeartbeats 4000000 in
set_option maxRecDepth 100000 in
theorem rwrite_any (w : World) (B E : Nat) (σ : St) (f k : Int) (s : ByteArray) (hB : B ≤ w.heap.size) (hlen : σ.queue.length + s.size ≤ 1000000000) (ha : σ.armed ≤ 9223372036854775807) (hkk : σ.keep.length ≤ 1000000000) (hs : s.size ≤ 1000000000) (h : RRep w B E σ) :
    Calls Try.prog 47 #[.pointer (some ⟨E, 0, none⟩), .int .i64 f, .int .i64 k, .string s] w fun e w' => e = .returned (.int .i64 (WriteE σ f k s.data.toList : Nat)) ∧ RRep w' B E (WriteS σ f k s.data.toList) ∧ RK B w w' := by
  have HC := Hd.mk (rcomes_any w B E σ f k s hB hlen ha hkk hs h)
  obtain ⟨τ, hτ⟩ : ∃ τ, comS σ f k s.data.toList = τ := ⟨_, rfl⟩
  rw [hτ] at HC
  have HM := fun w (h : RRep w B E τ) => Hd.mk (rmay_any w B E τ f h)
  by_cases hm : mayS τ f = 0
  · have hE : endsB σ = false := by
      rcases hb : endsB σ with _ | _
      · rfl
      · have : τ.down = true := by rw [← hτ]; unfold comS; rw [hb]; exact crash_d _ _
        have h10 : mayS τ f = 10 := by unfold mayS; rw [this]; rfl
        rw [h10] at hm; cases hm
    have hτ2 : τ = endsS σ := by rw [← hτ]; unfold comS; rw [hE]; rfl
    have hWS : WriteS σ f k s.data.toList = writeS τ f k s.data.toList := by unfold WriteS; rw [hE, hτ2]; rfl
    have hWE : WriteE σ f k s.data.toList = writeE τ f k s.data.toList := by unfold WriteE; rw [hE, hτ2]; rfl
    have hq : τ.queue = σ.queue := by rw [hτ2]; exact endsS_queue σ
    rw [hWS, hWE]
    have HFits := fun w => Hd.mk (rfits_any k s w (by omega))
    obtain ⟨hdn, m0, m8⟩ := may_zero hm
    obtain ⟨F, rfl⟩ := Int.eq_ofNat_of_zero_le m0
    have hsl : (s.data.toList.length : Int) = (s.size : Int) := rfl
    rw [hm] at HM
    by_cases k0 : k < 0
    · have e1 : writeE τ F k s.data.toList = 1 := by unfold writeE; rw [hm, if_neg (by decide), if_pos k0]
      have e2 : writeS τ F k s.data.toList = τ := by unfold writeS; rw [if_neg (fun h => by rw [e1] at h; cases h.1)]
      rw [e1, e2]
      clear h hτ hτ2 hWS hWE hq hm hsl HFits e1 e2
      go_enter Try.func47, Try.ntmps47
      go_wp2_with fail
      refine HC.out.mono ?_
      rintro e w1 ⟨rfl, hr, hk⟩
      have HR := Hd.mk hr
      have HK := Hd.mk hk
      clear hr hk
      go_wp2_with fail
      refine (HM _ HR.out).out.mono ?_
      rintro e w2 ⟨rfl, rfl⟩
      go_wp2
      go_ret
      exact ⟨rfl, HR.out, HK.out⟩
    · obtain ⟨K0, rfl⟩ := Int.eq_ofNat_of_zero_le (by omega : 0 ≤ k)
      by_cases hfit : (K0 : Int) ≤ 16777216 ∧ (K0 : Int) + (s.size : Int) ≤ 16777216
      · have hf : (decide ((0 : Int) ≤ (K0 : Int)) && (decide ((K0 : Int) ≤ 16777216) && decide ((K0 : Int) + (s.size : Int) ≤ 16777216))) = true := by simp; omega
        rw [hf] at HFits
        have e1 : writeE τ F K0 s.data.toList = 0 := by unfold writeE; rw [hm, if_neg (by decide), if_neg k0, if_neg (by omega)]
        have hst : (if s.data.toList = [] then τ else addS τ F K0 s.data.toList) = writeS τ F K0 s.data.toList := by
          unfold writeS
          split
          · rename_i hs0; rw [if_neg (fun h => h.2 hs0)]
          · rename_i hs0; rw [if_pos ⟨e1, hs0⟩]; rfl
        have HA := fun w (h : RRep w B E τ) (hb : B ≤ w.heap.size) => Hd.mk (radd_any w B E τ F K0 s (by omega) (by omega) hb (by rw [hq]; exact hlen) h)
        rw [hst] at HA
        rw [e1]
        have HB := Hd.mk hB
        have k0' : decide ((K0 : Int) < 0) = false := by simp
        clear h hτ hτ2 hWS hWE hq hm hsl hf hst e1 hfit k0 hB hlen
        go_enter Try.func47, Try.ntmps47
        go_wp2_with fail
        refine HC.out.mono ?_
        rintro e w1 ⟨rfl, hr, hk⟩
        have HR := Hd.mk hr
        have HK := Hd.mk hk
        clear hr hk
        go_wp2_with fail
        refine (HM _ HR.out).out.mono ?_
        rintro e w2 ⟨rfl, rfl⟩
        go_wp2_with fail
        refine (HFits _).out.mono ?_
        rintro e w2 ⟨rfl, rfl⟩
        go_wp2_with fail
        refine (HA _ HR.out (Nat.le_trans HB.out HK.out.k.size)).out.mono ?_
        rintro e w3 ⟨rfl, hr3, hk3⟩
        have HR3 := Hd.mk hr3
        have HK3 := Hd.mk (HK.out.trans hk3)
        clear hr3 hk3
        go_wp2
        go_ret
        exact ⟨rfl, HR3.out, HK3.out⟩
      · have hf : (decide ((0 : Int) ≤ (K0 : Int)) && (decide ((K0 : Int) ≤ 16777216) && decide ((K0 : Int) + (s.size : Int) ≤ 16777216))) = false := by
          rw [← Bool.not_eq_true]
          simp only [Bool.and_eq_true, decide_eq_true_eq]
          intro hx
          exact hfit ⟨hx.2.1, hx.2.2⟩
        rw [hf] at HFits
        have e1 : writeE τ F K0 s.data.toList = 7 := by unfold writeE; rw [hm, if_neg (by decide), if_neg k0, if_pos (by omega)]
        have e2 : writeS τ F K0 s.data.toList = τ := by unfold writeS; rw [if_neg (fun h => by rw [e1] at h; cases h.1)]
        rw [e1, e2]
        have k0' : decide ((K0 : Int) < 0) = false := by simp
        clear h hτ hτ2 hWS hWE hq hm hsl hf e1 e2 hfit k0
        go_enter Try.func47, Try.ntmps47
        go_wp2_with fail
        refine HC.out.mono ?_
        rintro e w1 ⟨rfl, hr, hk⟩
        have HR := Hd.mk hr
        have HK := Hd.mk hk
        clear hr hk
        go_wp2_with fail
        refine (HM _ HR.out).out.mono ?_
        rintro e w2 ⟨rfl, rfl⟩
        go_wp2_with fail
        refine (HFits _).out.mono ?_
        rintro e w2 ⟨rfl, rfl⟩
        go_wp2
        go_ret
        exact ⟨rfl, HR.out, HK.out⟩
  · have hout : WriteE σ f k s.data.toList = mayS τ f ∧ WriteS σ f k s.data.toList = τ := by
      rcases hb : endsB σ with _ | _
      · have hτ2 : τ = endsS σ := by rw [← hτ]; unfold comS; rw [hb]; rfl
        have e1 : writeE (endsS σ) f k s.data.toList = mayS τ f := by unfold writeE; rw [← hτ2, if_pos hm]
        refine ⟨by unfold WriteE; rw [hb]; exact e1, ?_⟩
        unfold WriteS; rw [hb]
        show writeS (endsS σ) f k s.data.toList = τ
        unfold writeS; rw [if_neg (fun h => by rw [e1] at h; exact hm h.1), hτ2]
      · have hd : τ.down = true := by rw [← hτ]; unfold comS; rw [hb]; exact crash_d _ _
        have h10 : mayS τ f = 10 := by unfold mayS; rw [hd]; rfl
        refine ⟨by unfold WriteE; rw [hb, h10]; rfl, ?_⟩
        unfold WriteS; rw [hb, ← hτ]; unfold comS; rw [hb]; rfl
    rw [hout.1, hout.2]
    obtain ⟨m, hmm⟩ : ∃ m, mayS τ f = m := ⟨_, rfl⟩
    rw [hmm] at HM hm ⊢
    have m1 : ((m : Int) != 0) = true := by simp; omega
    clear h hτ hout hmm hm
    go_enter Try.func47, Try.ntmps47
    go_wp2_with fail
    refine HC.out.mono ?_
    rintro e w1 ⟨rfl, hr, hk⟩
    have HR := Hd.mk hr
    have HK := Hd.mk hk
    clear hr hk
    go_wp2_with fail
    refine (HM _ HR.out).out.mono ?_
    rintro e w2 ⟨rfl, rfl⟩
    go_wp2
    go_ret
    exact ⟨rfl, HR.out, HK.out⟩

end Go.Proofs.Ytcleocgaooblfaa.W
