/-
  The walks of Flush, Cut, Turn.
-/
import Derived.Test.YtmcdfhihfcfbaaaCrash
namespace Go.Proofs.Ytmcdfhihfcfbaaa.W
open Go.RowKit
set_option linter.unusedVariables false

/-- the disk's numbers fit -/
structure Fit (σ : St) : Prop where
  a : σ.armed ≤ 9223372036854775807
  l : σ.lost ≤ 9223372036854775807
  k : σ.keep.length ≤ 1000000000
  q : σ.queue.length ≤ 1000000000

theorem Fit.ends {σ : St} (h : Fit σ) : Fit (endsS σ) := by
  unfold endsS
  split
  · exact h
  · exact ⟨by have := h.a; show σ.armed - 1 ≤ _; omega, h.l, h.k, h.q⟩
theorem Fit.crash {σ : St} (h : Fit σ) (ks : List Int) : Fit (crashS σ ks) := by
  unfold crashS
  split
  · exact h
  · exact ⟨by simp, h.l, h.k, by simp⟩
theorem Fit.head {σ : St} (h : Fit σ) : Fit (headS σ) := by
  unfold headS
  split
  · exact h.ends.crash _
  · exact h.ends

theorem endsS_keep (σ : St) : (endsS σ).keep = σ.keep := by
  unfold endsS; split <;> rfl

/-- the scheduled crash, ahead of a call: what holds behind it -/
theorem Rep.keepRow {w : World} {D : Nat} {σ : St} {O : Option Nat} (h : Rep w D σ O) : ∃ kv, w.cell? ⟨D, 20, none⟩ = some kv ∧ IRow w kv σ.keep := by
  obtain ⟨qv, kv, hb, hQ, hK⟩ := h.is
  exact ⟨kv, (Cells.of hb h.ok).keep, hK⟩

theorem head_true {σ : St} (h : endsB σ = true) (f : Int) : (headS σ).down = true ∧ mayS (headS σ) f = 10 := by
  have hd : (headS σ).down = true := by
    unfold headS
    rw [if_pos h]
    unfold crashS
    split
    · assumption
    · rfl
  exact ⟨hd, by unfold mayS; rw [if_pos hd]⟩

theorem Rep.cells {w : World} {D : Nat} {σ : St} {O : Option Nat} (h : Rep w D σ O) : ∃ qv kv, Cells w D σ qv kv := by
  obtain ⟨qv, kv, hb, hQ, hK⟩ := h.is
  exact ⟨qv, kv, Cells.of hb h.ok⟩

theorem Rep.next {w w' : World} {D : Nat} {σ : St} {O : Option Nat} (h : Rep w D σ O) (k : Keeps (fun _ => False) w w') : Rep w' D σ O := h.keeps k (fun h => h) (fun _ _ h => h) (fun _ _ _ _ h => h)

set_option maxHeartbeats 1000000 in
theorem flush_any (w : World) (D : Nat) (σ : St) (O : Option Nat) (f : Int) (hF : Fit σ) (h : Rep w D σ O) :
    Calls Try.prog 50 #[.pointer (some ⟨D, 0, none⟩), .int .i64 f] w fun e w' => ∃ O', e = .returned (.int .i64 (FlushE σ f)) ∧ Rep w' D (FlushS σ f) O' ∧ (O' = O ∨ O' = none) ∧ Keeps (fun g => g = D ∨ O = some g) w w' := by
  have HE := Hd.mk (ends_any w D σ O hF.a h)
  have HF := Hd.mk hF
  have rest : ∀ (b : Bool), endsB σ = b → Calls Try.prog 50 #[.pointer (some ⟨D, 0, none⟩), .int .i64 f] w fun e w' => ∃ O', e = .returned (.int .i64 (FlushE σ f)) ∧ Rep w' D (FlushS σ f) O' ∧ (O' = O ∨ O' = none) ∧ Keeps (fun g => g = D ∨ O = some g) w w' := by
    intro b hb
    rw [hb] at HE
    have HB := Hd.mk hb
    clear hb h hF
    go_enter Try.func50, Try.ntmps50
    rcases b with _ | _
    · go_wp2_with fail
      refine HE.out.mono ?_
      rintro e w1 ⟨rfl, h1, k1⟩
      have hs : headS σ = endsS σ := by unfold headS; rw [HB.out]; rfl
      rw [← hs] at h1
      have HF1 := Hd.mk HF.out.head
      have HFE : Hd (FlushE σ f = flushE (headS σ) f) := ⟨rfl⟩
      have HFS : Hd (FlushS σ f = flushS (headS σ) f) := ⟨rfl⟩
      obtain ⟨σ1, hσ1⟩ : ∃ σ1, headS σ = σ1 := ⟨_, rfl⟩
      rw [hσ1] at h1 HF1 HFE HFS
      have k2 := k1.alloc (.cells #[.int .i64 f] 3)
      have h2 := h1.alloc (.cells #[.int .i64 f] 3)
      have HA := Hd.mk (may_any (w1.alloc (.cells #[.int .i64 f] 3)) D σ1 O _ [f] (by simp) (IRow.one w1 f) h2)
      rw [mayL_one] at HA
      obtain ⟨qv, kv, hc⟩ := h2.cells
      have HC := Hd.mk hc
      obtain ⟨W, hW⟩ : ∃ W, w1.alloc (.cells #[.int .i64 f] 3) = W := ⟨_, rfl⟩
      rw [hW] at k2 h2 HA HC
      have H2 := Hd.mk h2
      have K2 := Hd.mk k2
      clear h1 h2 k1 k2 hs hσ1 hc HE HB HF
      by_cases hm : mayS σ1 f = 0
      · rw [hm] at HA
        have hz := may_zero hm
        obtain ⟨k, rfl, hk⟩ : ∃ k : Nat, f = (k : Int) ∧ k < 8 := ⟨f.toNat, by omega, by omega⟩
        have cl := HC.out.lost
        have fl := HC.out.free 17
        have cf := HC.out.file k hk
        have hki : (k : Int) < 8 := by omega
        by_cases hl : σ1.lost > 0
        · obtain ⟨n, hn⟩ : ∃ n, σ1.lost - 1 = n := ⟨_, rfl⟩
          have hn1 : (σ1.lost : Int) - 1 = (n : Int) := by omega
          have hl0 : (0 : Int) < (σ1.lost : Int) := by omega
          have hl1 := HF1.out.l
          have hw : IntKind.i64.wrap ((σ1.lost : Int) - 1) = (n : Int) := by rw [hn1]; exact IntWalk.i64_in _ (by omega)
          have e1 : Hd (flushE σ1 (k : Int) = 12 ∧ flushS σ1 (k : Int) = { σ1 with lost := n }) := ⟨by unfold flushE; rw [hm]; simp [hl], by unfold flushS; rw [hm, ← hn]; simp [hl]⟩
          have HR := Hd.mk (H2.out.put (σ' := { σ1 with lost := n }) ⟨H2.out.ok.l8, H2.out.ok.f8, H2.out.ok.ll, H2.out.ok.fl, H2.out.ok.q⟩ rfl rfl (fun qv kv => set_lost H2.out.ok qv kv n))
          have HK := Hd.mk (K2.out.setCell (p := ⟨D, 17, none⟩) (.inr rfl) (.int .i64 (n : Int)))
          have hnb : n ≤ 9223372036854775807 := by omega
          clear hz cf hm hl hn hw
          go_wp2_with fail
          refine HA.out.mono ?_
          rintro e w5 ⟨rfl, rfl⟩
          go_wp2
          go_ret
          refine ⟨O, ret_i (by rw [HFE.out, e1.out.1]; rfl), ?_, .inl rfl, HK.out.mono (fun _ _ e => Or.inl e)⟩
          rw [HFS.out, e1.out.2]
          exact HR.out
        · have hl0 : ¬ (0 : Int) < (σ1.lost : Int) := by omega
          have e1 : Hd (flushE σ1 (k : Int) = 0 ∧ flushS σ1 (k : Int) = settleS σ1 k (σ1.files.getD k [])) := ⟨by unfold flushE; rw [hm]; simp [hl], by unfold flushS; rw [hm]; simp [hl]⟩
          have hsz : (⟨(σ1.files.getD k []).toArray⟩ : ByteArray).size ≤ 16777216 := getD_le H2.out.ok.fl k
          have HS := Hd.mk (settle_any W D σ1 O k ⟨(σ1.files.getD k []).toArray⟩ hk hsz HF1.out.q H2.out)
          rw [strV_def] at cf
          obtain ⟨s, hs⟩ : ∃ s : ByteArray, (⟨(σ1.files.getD k []).toArray⟩ : ByteArray) = s := ⟨_, rfl⟩
          have hsl : Hd (s.data.toList = σ1.files.getD k []) := ⟨by rw [← hs]⟩
          rw [hs] at HS cf
          clear hz hm hl hsz hs
          go_wp2_with fail
          refine HA.out.mono ?_
          rintro e w5 ⟨rfl, rfl⟩
          go_wp2_with fail
          refine HS.out.mono ?_
          rintro e w6 ⟨rfl, h6, k6⟩
          go_wp2
          go_ret
          refine ⟨O, ret_i (by rw [HFE.out, e1.out.1]; rfl), ?_, .inl rfl, (K2.out.mono (fun _ _ e => .inl e)).trans k6⟩
          rw [HFS.out, e1.out.2, ← hsl.out]
          exact h6
      · have e1 : Hd (flushE σ1 f = mayS σ1 f ∧ flushS σ1 f = σ1) := ⟨by unfold flushE; rw [if_pos hm], by unfold flushS; rw [if_pos hm]⟩
        obtain ⟨m, hmm⟩ : ∃ m, mayS σ1 f = m := ⟨_, rfl⟩
        rw [hmm] at hm HA e1
        have hne : ((m : Int) == 0) = false := by simp; omega
        clear hmm hm
        go_wp2_with fail
        refine HA.out.mono ?_
        rintro e w5 ⟨rfl, rfl⟩
        go_wp2
        go_ret
        refine ⟨O, ret_i (by rw [HFE.out, e1.out.1]), ?_, .inl rfl, K2.out.mono (fun _ _ e => .inl e)⟩
        rw [HFS.out, e1.out.2]
        exact H2.out
    · go_wp2_with fail
      refine HE.out.mono ?_
      rintro e w1 ⟨rfl, h1, k1⟩
      obtain ⟨kv, hkc, hki⟩ := h1.keepRow
      rw [endsS_keep] at hki
      have HCR := Hd.mk (crash_any w1 D (endsS σ) O kv σ.keep (Nat.le_trans HF.out.k (by decide)) HF.out.ends.q (hki.ir (fun g cur fz hg e => h1.notInt g cur fz hg (.inl e))) h1)
      have hs : headS σ = crashS (endsS σ) σ.keep := by unfold headS; rw [HB.out]; rfl
      rw [← hs] at HCR
      have ht := head_true HB.out f
      have e1 : Hd (FlushE σ f = 10 ∧ FlushS σ f = headS σ) := ⟨by show flushE (headS σ) f = 10; unfold flushE; rw [ht.2]; rfl, by show flushS (headS σ) f = headS σ; unfold flushS; rw [ht.2]; rfl⟩
      have HT := Hd.mk ht
      have K1 := Hd.mk k1
      clear h1 k1 hki hs ht
      go_wp2_with fail
      refine HCR.out.mono ?_
      rintro e w2 ⟨rfl, O2, h2, hO2, k2⟩
      have h3 := h2.alloc (.cells #[.int .i64 f] 3)
      have HA := Hd.mk (may_any (w2.alloc (.cells #[.int .i64 f] 3)) D (headS σ) O2 _ [f] (by simp) (IRow.one w2 f) h3)
      rw [mayL_one, HT.out.2] at HA
      have H3 := Hd.mk h3
      have K3 := Hd.mk ((K1.out.trans k2).alloc (.cells #[.int .i64 f] 3))
      have HO2 := Hd.mk hO2
      clear h2 h3 k2 hO2
      go_wp2_with fail
      refine HA.out.mono ?_
      rintro e w5 ⟨rfl, rfl⟩
      go_wp2
      go_ret
      refine ⟨O2, ret_i (by rw [e1.out.1]; rfl), ?_, HO2.out, K3.out.mono (fun _ _ e => .inl e)⟩
      rw [e1.out.2]
      exact H3.out
  exact rest _ rfl

end Go.Proofs.Ytmcdfhihfcfbaaa.W
