/-
  The walk of Cut.
-/
import Derived.Test.YtmcdfhihfcfbaaaFlush
namespace Go.Proofs.Ytmcdfhihfcfbaaa.W
open Go.RowKit
set_option linter.unusedVariables false

set_option maxHeartbeats 1000000 in
theorem cut_any (w : World) (D : Nat) (σ : St) (O : Option Nat) (f n : Int) (hF : Fit σ) (h : Rep w D σ O) :
    Calls Try.prog 46 #[.pointer (some ⟨D, 0, none⟩), .int .i64 f, .int .i64 n] w fun e w' => ∃ O', e = .returned (.int .i64 (CutE σ f n)) ∧ Rep w' D (CutS σ f n) O' ∧ (O' = O ∨ O' = none) ∧ Keeps (fun g => g = D ∨ O = some g) w w' := by
  have HE := Hd.mk (ends_any w D σ O hF.a h)
  have HF := Hd.mk hF
  have rest : ∀ (b : Bool), endsB σ = b → Calls Try.prog 46 #[.pointer (some ⟨D, 0, none⟩), .int .i64 f, .int .i64 n] w fun e w' => ∃ O', e = .returned (.int .i64 (CutE σ f n)) ∧ Rep w' D (CutS σ f n) O' ∧ (O' = O ∨ O' = none) ∧ Keeps (fun g => g = D ∨ O = some g) w w' := by
    intro b hb
    rw [hb] at HE
    have HB := Hd.mk hb
    clear hb h hF
    go_enter Try.func46, Try.ntmps46
    rcases b with _ | _
    · go_wp2_with fail
      refine HE.out.mono ?_
      rintro e w1 ⟨rfl, h1, k1⟩
      have hs : headS σ = endsS σ := by unfold headS; rw [HB.out]; rfl
      rw [← hs] at h1
      have HF1 := Hd.mk HF.out.head
      have HFE : Hd (CutE σ f n = cutE (headS σ) f n) := ⟨rfl⟩
      have HFS : Hd (CutS σ f n = cutS (headS σ) f n) := ⟨rfl⟩
      obtain ⟨σ1, hσ1⟩ : ∃ σ1, headS σ = σ1 := ⟨_, rfl⟩
      rw [hσ1] at h1 HF1 HFE HFS
      have k2 := k1.alloc (.cells #[.int .i64 f] 3)
      have h2 := h1.alloc (.cells #[.int .i64 f] 3)
      have HA := Hd.mk (may_any (w1.alloc (.cells #[.int .i64 f] 3)) D σ1 O _ [f] (by simp) (IRow.one w1 f) h2)
      rw [mayL_one] at HA
      obtain ⟨qv, kv, hc⟩ := h2.cells
      have HC := Hd.mk hc
      obtain ⟨W, hW⟩ : ∃ W, w1.alloc (.cells #[.int .i64 f] 3) = W := ⟨_, rfl⟩
      rw [hW] at k2 h2 HA HC
      have H2 := Hd.mk h2
      have K2 := Hd.mk k2
      clear h1 h2 k1 k2 hs hσ1 hc HE HB HF
      by_cases hm : mayS σ1 f = 0
      · rw [hm] at HA
        have hz := may_zero hm
        obtain ⟨k, rfl, hk⟩ : ∃ k : Nat, f = (k : Int) ∧ k < 8 := ⟨f.toNat, by omega, by omega⟩
        have cf := HC.out.file k hk
        have hki : (k : Int) < 8 := by omega
        have HSZ := Hd.mk (size_any W D σ1 O k H2.out)
        have hszf : sizeS σ1 (k : Int) = (σ1.files.getD k []).length := by
          unfold sizeS
          rw [show isF (k : Int) = true by unfold isF; simp; omega]; rfl
        by_cases hn0 : n < 0
        · have e1 : Hd (cutE σ1 (k : Int) n = 1 ∧ cutS σ1 (k : Int) n = σ1) := by
            have h1 : cutE σ1 (k : Int) n = 1 := by unfold cutE; rw [hm]; simp [hn0]
            exact ⟨h1, by unfold cutS; rw [h1]; rfl⟩
          clear hz cf hm hszf
          go_wp2_with fail
          refine HA.out.mono ?_
          rintro e w5 ⟨rfl, rfl⟩
          go_wp2
          go_ret
          refine ⟨O, ret_i (by rw [HFE.out, e1.out.1]; rfl), ?_, .inl rfl, K2.out.mono (fun _ _ e => Or.inl e)⟩
          rw [HFS.out, e1.out.2]
          exact H2.out
        · obtain ⟨m, rfl⟩ : ∃ m : Nat, n = (m : Int) := ⟨n.toNat, by omega⟩
          rw [hszf] at HSZ
          obtain ⟨len, hlen⟩ : ∃ l, (σ1.files.getD k []).length = l := ⟨_, rfl⟩
          rw [hlen] at HSZ hszf
          by_cases hml : len < m
          · have e1 : Hd (cutE σ1 (k : Int) m = 1 ∧ cutS σ1 (k : Int) m = σ1) := by
              have h1 : cutE σ1 (k : Int) m = 1 := by unfold cutE; rw [hm, hszf]; simp; omega
              exact ⟨h1, by unfold cutS; rw [h1]; rfl⟩
            have hli : (len : Int) < (m : Int) := by omega
            clear hz cf hm hszf hlen hml hn0
            go_wp2_with fail
            refine HA.out.mono ?_
            rintro e w5 ⟨rfl, rfl⟩
            go_wp2_with fail
            refine HSZ.out.mono ?_
            rintro e w5 ⟨rfl, rfl⟩
            go_wp2
            go_ret
            refine ⟨O, ret_i (by rw [HFE.out, e1.out.1]; rfl), ?_, .inl rfl, K2.out.mono (fun _ _ e => Or.inl e)⟩
            rw [HFS.out, e1.out.2]
            exact H2.out
          · have e1 : Hd (cutE σ1 (k : Int) m = 0 ∧ cutS σ1 (k : Int) m = settleS σ1 k ((σ1.files.getD k []).take m)) := by
              have h1 : cutE σ1 (k : Int) m = 0 := by unfold cutE; rw [hm, hszf]; simp; omega
              exact ⟨h1, by unfold cutS; rw [h1]; rfl⟩
            rw [strV_def] at cf
            obtain ⟨s, hs⟩ : ∃ s : ByteArray, (⟨(σ1.files.getD k []).toArray⟩ : ByteArray) = s := ⟨_, rfl⟩
            have hsl : s.data.toList = σ1.files.getD k [] := by rw [← hs]
            have hss : s.size = len := by rw [← hlen, ← hs]; rfl
            rw [hs] at cf
            obtain ⟨t, ht⟩ : ∃ t, s.extract 0 m = t := ⟨_, rfl⟩
            have htl : Hd (t.data.toList = (σ1.files.getD k []).take m) := ⟨by rw [← ht, Lib.extract_data, hsl]; rfl⟩
            have hts : t.size ≤ 16777216 := by
              rw [← ht, ByteArray.size_extract]
              have := getD_le H2.out.ok.fl k
              omega
            have HS := Hd.mk (settle_any W D σ1 O k t hk hts HF1.out.q H2.out)
            have hms : m ≤ s.size := by omega
            have hmi : (m : Int) ≤ (s.size : Int) := by omega
            have hli : ¬ (len : Int) < (m : Int) := by omega
            have hn1 : ¬ (m : Int) < 0 := hn0
            clear hz hm hszf hlen hml hn0 hs hsl hss hts
            go_wp2_with fail
            refine HA.out.mono ?_
            rintro e w5 ⟨rfl, rfl⟩
            go_wp2_with fail
            refine HSZ.out.mono ?_
            rintro e w5 ⟨rfl, rfl⟩
            go_wp2_with fail
            refine HS.out.mono ?_
            rintro e w6 ⟨rfl, h6, k6⟩
            go_wp2
            go_ret
            refine ⟨O, ret_i (by rw [HFE.out, e1.out.1]; rfl), ?_, .inl rfl, (K2.out.mono (fun _ _ e => Or.inl e)).trans k6⟩
            rw [HFS.out, e1.out.2, ← htl.out]
            exact h6
      · have e1 : Hd (cutE σ1 f n = mayS σ1 f ∧ cutS σ1 f n = σ1) := ⟨by unfold cutE; rw [if_pos hm], by unfold cutS; rw [if_neg (by unfold cutE; rw [if_pos hm]; exact hm)]⟩
        obtain ⟨m, hmm⟩ : ∃ m, mayS σ1 f = m := ⟨_, rfl⟩
        rw [hmm] at hm HA e1
        have hne : ((m : Int) == 0) = false := by simp; omega
        clear hmm hm
        go_wp2_with fail
        refine HA.out.mono ?_
        rintro e w5 ⟨rfl, rfl⟩
        go_wp2
        go_ret
        refine ⟨O, ret_i (by rw [HFE.out, e1.out.1]), ?_, .inl rfl, K2.out.mono (fun _ _ e => .inl e)⟩
        rw [HFS.out, e1.out.2]
        exact H2.out
    · go_wp2_with fail
      refine HE.out.mono ?_
      rintro e w1 ⟨rfl, h1, k1⟩
      obtain ⟨kv, hkc, hki⟩ := h1.keepRow
      rw [endsS_keep] at hki
      have HCR := Hd.mk (crash_any w1 D (endsS σ) O kv σ.keep (Nat.le_trans HF.out.k (by decide)) HF.out.ends.q (hki.ir (fun g cur fz hg e => h1.notInt g cur fz hg (.inl e))) h1)
      have hs : headS σ = crashS (endsS σ) σ.keep := by unfold headS; rw [HB.out]; rfl
      rw [← hs] at HCR
      have ht := head_true HB.out f
      have e1 : Hd (CutE σ f n = 10 ∧ CutS σ f n = headS σ) := ⟨by show cutE (headS σ) f n = 10; unfold cutE; rw [ht.2]; rfl, by show cutS (headS σ) f n = headS σ; unfold cutS cutE; rw [ht.2]; rfl⟩
      have HT := Hd.mk ht
      have K1 := Hd.mk k1
      clear h1 k1 hki hs ht
      go_wp2_with fail
      refine HCR.out.mono ?_
      rintro e w2 ⟨rfl, O2, h2, hO2, k2⟩
      have h3 := h2.alloc (.cells #[.int .i64 f] 3)
      have HA := Hd.mk (may_any (w2.alloc (.cells #[.int .i64 f] 3)) D (headS σ) O2 _ [f] (by simp) (IRow.one w2 f) h3)
      rw [mayL_one, HT.out.2] at HA
      have H3 := Hd.mk h3
      have K3 := Hd.mk ((K1.out.trans k2).alloc (.cells #[.int .i64 f] 3))
      have HO2 := Hd.mk hO2
      clear h2 h3 k2 hO2
      go_wp2_with fail
      refine HA.out.mono ?_
      rintro e w5 ⟨rfl, rfl⟩
      go_wp2
      go_ret
      refine ⟨O2, ret_i (by rw [e1.out.1]; rfl), ?_, HO2.out, K3.out.mono (fun _ _ e => .inl e)⟩
      rw [e1.out.2]
      exact H3.out
  exact rest _ rfl

end Go.Proofs.Ytmcdfhihfcfbaaa.W
