/-
  The walk of Turn.
-/
import Derived.Test.YtmcdfhihfcfbaaaCut
namespace Go.Proofs.Ytmcdfhihfcfbaaa.W
open Go.RowKit
set_option linter.unusedVariables false

theorem head_true2 {σ : St} (h : endsB σ = true) (f g : Int) : may2 (headS σ) f g = 10 := by
  unfold may2
  rw [(head_true h f).2]; rfl

set_option maxHeartbeats 1000000 in
theorem turn_any (w : World) (D : Nat) (σ : St) (O : Option Nat) (f g : Int) (hF : Fit σ) (h : Rep w D σ O) :
    Calls Try.prog 52 #[.pointer (some ⟨D, 0, none⟩), .int .i64 f, .int .i64 g] w fun e w' => ∃ O', e = .returned (.int .i64 (TurnE σ f g)) ∧ Rep w' D (TurnS σ f g) O' ∧ (O' = O ∨ O' = none) ∧ Keeps (fun k => k = D ∨ O = some k) w w' := by
  have h0 := h.alloc (.cells #[.int .i64 g] 3)
  have HE := Hd.mk (ends_any (w.alloc (.cells #[.int .i64 g] 3)) D σ O hF.a h0)
  have HF := Hd.mk hF
  have hbx := Blk.new w 3 [.int .i64 g]
  have HBX := Hd.mk hbx
  have HDH : Hd (¬ D = w.heap.size) := ⟨fun e => Nat.lt_irrefl _ (e ▸ h.lt)⟩
  have HOH : Hd (¬ O = some w.heap.size) := ⟨fun e => by
    obtain ⟨qv, kv, hb, hQ, hK⟩ := h.is
    exact Nat.lt_irrefl _ (hQ.lt e)⟩
  have K0 : Hd (Keeps (fun _ => False) w (w.alloc (.cells #[.int .i64 g] 3))) := ⟨(Keeps.refl (fun _ => False) w).alloc _⟩
  clear hbx
  have rest : ∀ (b : Bool), endsB σ = b → Calls Try.prog 52 #[.pointer (some ⟨D, 0, none⟩), .int .i64 f, .int .i64 g] w fun e w' => ∃ O', e = .returned (.int .i64 (TurnE σ f g)) ∧ Rep w' D (TurnS σ f g) O' ∧ (O' = O ∨ O' = none) ∧ Keeps (fun k => k = D ∨ O = some k) w w' := by
    intro b hb
    rw [hb] at HE
    have HB := Hd.mk hb
    obtain ⟨w0, hw0⟩ : ∃ w0, w.alloc (.cells #[.int .i64 g] 3) = w0 := ⟨_, rfl⟩
    obtain ⟨X, hX⟩ : ∃ X, w.heap.size = X := ⟨_, rfl⟩
    rw [hX] at HBX HDH HOH
    rw [hw0] at HE HBX K0
    clear hb h hF h0
    go_enter Try.func52, Try.ntmps52
    rcases b with _ | _
    · go_wp2_with fail
      refine HE.out.mono ?_
      rintro e w1 ⟨rfl, h1, k1⟩
      have hs : headS σ = endsS σ := by unfold headS; rw [HB.out]; rfl
      rw [← hs] at h1
      have HF1 := Hd.mk HF.out.head
      have HFE : Hd (TurnE σ f g = turnE (headS σ) f g) := ⟨rfl⟩
      have HFS : Hd (TurnS σ f g = turnS (headS σ) f g) := ⟨rfl⟩
      obtain ⟨σ1, hσ1⟩ : ∃ σ1, headS σ = σ1 := ⟨_, rfl⟩
      rw [hσ1] at h1 HF1 HFE HFS
      have hbx1 := k1.blk HBX.out (fun e => HDH.out e.symm)
      have k2 := (((K0.out.mono (S' := (· = D)) (fun _ _ h => h.elim)).trans k1).alloc (.cells #[.int .i64 f, .int .i64 g] 3))
      have h2 := h1.alloc (.cells #[.int .i64 f, .int .i64 g] 3)
      have hbx2 := hbx1.alloc (.cells #[.int .i64 f, .int .i64 g] 3)
      have cbx1 := hbx1.at (j := 0) rfl
      have HA := Hd.mk (may_any (w1.alloc (.cells #[.int .i64 f, .int .i64 g] 3)) D σ1 O _ [f, g] (by simp) (IRow.two w1 f g) h2)
      rw [mayL_two] at HA
      obtain ⟨W, hW⟩ : ∃ W, w1.alloc (.cells #[.int .i64 f, .int .i64 g] 3) = W := ⟨_, rfl⟩
      rw [hW] at k2 h2 HA hbx2
      have cbx := hbx2.at (j := 0) rfl
      have H2 := Hd.mk h2
      have K2 := Hd.mk k2
      have HBX2 := Hd.mk hbx2
      clear h1 h2 k1 k2 hs hσ1 HE HB HF hbx1 hbx2 K0
      by_cases hm : may2 σ1 f g = 0
      · rw [hm] at HA
        have hm1 : mayS σ1 f = 0 := by
          unfold may2 at hm
          by_cases h : mayS σ1 f = 0
          · exact h
          · rw [if_pos h] at hm; exact hm
        have hm2 : mayS σ1 g = 0 := by unfold may2 at hm; rw [if_neg (by simp [hm1])] at hm; exact hm
        have hz1 := may_zero hm1
        have hz2 := may_zero hm2
        obtain ⟨k, rfl, hk⟩ : ∃ k : Nat, f = (k : Int) ∧ k < 8 := ⟨f.toNat, by omega, by omega⟩
        obtain ⟨l, rfl, hl⟩ : ∃ l : Nat, g = (l : Int) ∧ l < 8 := ⟨g.toNat, by omega, by omega⟩
        by_cases hkl : k = l
        · have e1 : Hd (turnE σ1 (k : Int) (l : Int) = 1 ∧ turnS σ1 (k : Int) (l : Int) = σ1) := by
            have h1 : turnE σ1 (k : Int) (l : Int) = 1 := by unfold turnE; rw [hm]; simp [hkl]
            exact ⟨h1, by unfold turnS; rw [h1]; rfl⟩
          subst hkl
          clear hz1 hz2 hm1 hm2 hm
          go_wp2_with fail
          refine HA.out.mono ?_
          rintro e w5 ⟨rfl, rfl⟩
          go_wp2
          go_ret
          refine ⟨O, ret_i (by rw [HFE.out, e1.out.1]; rfl), ?_, .inl rfl, K2.out.mono (fun _ _ e => Or.inl e)⟩
          rw [HFS.out, e1.out.2]
          exact H2.out
        · have hne : ((k : Int) == (l : Int)) = false := by simp; omega
          obtain ⟨qv, kv, hbD, hQ, hK⟩ := H2.out.is
          have hcD := Cells.of hbD H2.out.ok
          have cq := hcD.q
          have HCON := Hd.mk (contains_any W qv σ1.queue O X l HF1.out.q hQ cbx)
          rcases hany : (σ1.queue.any fun p => decide (p.f = l)) with _ | _
          · have e1 : Hd (turnE σ1 (k : Int) (l : Int) = 0 ∧ turnS σ1 (k : Int) (l : Int) = settleS (settleS σ1 k (σ1.lasts.getD l [])) l []) := by
              have h1 : turnE σ1 (k : Int) (l : Int) = 0 := by
                unfold turnE; rw [hm]
                have : (σ1.queue.any fun p => decide (p.f = ((l : Int)).toNat)) = false := hany
                rw [this]; simp; omega
              exact ⟨h1, by unfold turnS; rw [h1]; rfl⟩
            rw [hany] at HCON
            clear hz1 hz2 hm1 hm2 hm hkl hany hbD hQ hK hcD
            go_wp2_with fail
            refine HA.out.mono ?_
            rintro e w5 ⟨rfl, rfl⟩
            go_wp2_with fail
            refine HCON.out.mono ?_
            rintro e w6 ⟨rfl, k6⟩
            have h6 := (H2.out.next k6).next ((Keeps.refl (fun _ => False) w6).drew)
            have K6 := Hd.mk (((K2.out.mono (S' := fun j => j = D ∨ O = some j) (fun _ _ e => Or.inl e)).trans (k6.mono (fun _ _ h => h.elim))).drew)
            have hbx6 := (k6.blk HBX2.out (fun h => h)).drew
            have cb6 := hbx6.at (j := 0) rfl
            obtain ⟨qv6, kv6, hc6⟩ := h6.cells
            have cl6 := hc6.last l hl
            have hsz : (⟨(σ1.lasts.getD l []).toArray⟩ : ByteArray).size ≤ 16777216 := getD_le H2.out.ok.ll l
            have HS := Hd.mk (settle_any w6.drew D σ1 O k ⟨(σ1.lasts.getD l []).toArray⟩ hk hsz HF1.out.q h6)
            rw [strV_def] at cl6
            obtain ⟨s, hs⟩ : ∃ s : ByteArray, (⟨(σ1.lasts.getD l []).toArray⟩ : ByteArray) = s := ⟨_, rfl⟩
            have hsl : Hd (s.data.toList = σ1.lasts.getD l []) := ⟨by rw [← hs]⟩
            rw [hs] at HS cl6
            have hli : (l : Int) < 8 := by omega
            have HBX6 := Hd.mk hbx6
            have cb6' : w6.cell? ⟨X, 0, none⟩ = some (.int .i64 (l : Int)) := cb6
            have cl6' : w6.cell? ⟨D, l, none⟩ = some (.string s) := cl6
            clear h6 hbx6 hc6 hsz hs k6 cbx1 cbx cq
            go_wp2_with fail
            go_region_with (go_at_call 74; refine HS.out.mono ?_; rintro e w7 ⟨rfl, h7, k7⟩)
            have hbx7 := k7.blk HBX6.out (fun h => h.elim (fun e => HDH.out e.symm) (fun e => HOH.out e))
            have cb7 := hbx7.at (j := 0) rfl
            have hq7 : (settleS σ1 k s.data.toList).queue.length ≤ 1000000000 := Nat.le_trans (List.length_filter_le _ _) HF1.out.q
            have HS2 := Hd.mk (settle_any w7 D (settleS σ1 k s.data.toList) O l ⟨#[]⟩ hl (by decide) hq7 h7)
            have K7 := Hd.mk (K6.out.trans k7)
            clear h7 k7 hbx7 hq7
            go_wp2_with fail
            refine HS2.out.mono ?_
            rintro e w8 ⟨rfl, h8, k8⟩
            go_wp2
            go_ret
            refine ⟨O, ret_i (by rw [HFE.out, e1.out.1]; rfl), ?_, .inl rfl, K7.out.trans k8⟩
            rw [HFS.out, e1.out.2, ← hsl.out]
            exact h8
          · have e1 : Hd (turnE σ1 (k : Int) (l : Int) = 11 ∧ turnS σ1 (k : Int) (l : Int) = σ1) := by
              have h1 : turnE σ1 (k : Int) (l : Int) = 11 := by
                unfold turnE; rw [hm]
                have : (σ1.queue.any fun p => decide (p.f = ((l : Int)).toNat)) = true := hany
                rw [this]; simp; omega
              exact ⟨h1, by unfold turnS; rw [h1]; rfl⟩
            rw [hany] at HCON
            clear hz1 hz2 hm1 hm2 hm hkl hany hbD hQ hK hcD
            go_wp2_with fail
            refine HA.out.mono ?_
            rintro e w5 ⟨rfl, rfl⟩
            go_wp2_with fail
            refine HCON.out.mono ?_
            rintro e w6 ⟨rfl, k6⟩
            go_wp2
            go_ret
            refine ⟨O, ret_i (by rw [HFE.out, e1.out.1]; rfl), ?_, .inl rfl, (K2.out.mono (fun _ _ e => Or.inl e)).trans (k6.mono (fun _ _ h => h.elim))⟩
            rw [HFS.out, e1.out.2]
            exact H2.out.next k6
      · have e1 : Hd (turnE σ1 f g = may2 σ1 f g ∧ turnS σ1 f g = σ1) := ⟨by unfold turnE; rw [if_pos hm], by unfold turnS; rw [if_neg (by unfold turnE; rw [if_pos hm]; exact hm)]⟩
        obtain ⟨m, hmm⟩ : ∃ m, may2 σ1 f g = m := ⟨_, rfl⟩
        rw [hmm] at hm HA e1
        have hne : ((m : Int) == 0) = false := by simp; omega
        clear hmm hm
        go_wp2_with fail
        refine HA.out.mono ?_
        rintro e w5 ⟨rfl, rfl⟩
        go_wp2
        go_ret
        refine ⟨O, ret_i (by rw [HFE.out, e1.out.1]), ?_, .inl rfl, K2.out.mono (fun _ _ e => Or.inl e)⟩
        rw [HFS.out, e1.out.2]
        exact H2.out
    · go_wp2_with fail
      refine HE.out.mono ?_
      rintro e w1 ⟨rfl, h1, k1⟩
      obtain ⟨kv, hkc, hki⟩ := h1.keepRow
      rw [endsS_keep] at hki
      have HCR := Hd.mk (crash_any w1 D (endsS σ) O kv σ.keep (Nat.le_trans HF.out.k (by decide)) HF.out.ends.q (hki.ir (fun g cur fz hg e => h1.notInt g cur fz hg (.inl e))) h1)
      have hs : headS σ = crashS (endsS σ) σ.keep := by unfold headS; rw [HB.out]; rfl
      rw [← hs] at HCR
      have ht := head_true2 HB.out f g
      have e1 : Hd (TurnE σ f g = 10 ∧ TurnS σ f g = headS σ) := ⟨by show turnE (headS σ) f g = 10; unfold turnE; rw [ht]; rfl, by show turnS (headS σ) f g = headS σ; unfold turnS turnE; rw [ht]; rfl⟩
      have HT := Hd.mk ht
      have hbx1 := Hd.mk (k1.blk HBX.out (fun e => HDH.out e.symm))
      have K1 := Hd.mk ((K0.out.mono (S' := (· = D)) (fun _ _ h => h.elim)).trans k1)
      clear h1 k1 hki hs ht
      go_wp2_with fail
      refine HCR.out.mono ?_
      rintro e w2 ⟨rfl, O2, h2, hO2, k2⟩
      have hbx2 := k2.blk hbx1.out (fun e => HDH.out e.symm)
      have cbx := hbx2.at (j := 0) rfl
      have h3 := h2.alloc (.cells #[.int .i64 f, .int .i64 g] 3)
      have HA := Hd.mk (may_any (w2.alloc (.cells #[.int .i64 f, .int .i64 g] 3)) D (headS σ) O2 _ [f, g] (by simp) (IRow.two w2 f g) h3)
      rw [mayL_two, HT.out] at HA
      have H3 := Hd.mk h3
      have K3 := Hd.mk ((K1.out.trans k2).alloc (.cells #[.int .i64 f, .int .i64 g] 3))
      have HO2 := Hd.mk hO2
      clear h2 h3 k2 hO2 hbx2
      go_wp2_with fail
      refine HA.out.mono ?_
      rintro e w5 ⟨rfl, rfl⟩
      go_wp2
      go_ret
      refine ⟨O2, ret_i (by rw [e1.out.1]; rfl), ?_, HO2.out, K3.out.mono (fun _ _ e => Or.inl e)⟩
      rw [e1.out.2]
      exact H3.out
  exact rest _ rfl

end Go.Proofs.Ytmcdfhihfcfbaaa.W
