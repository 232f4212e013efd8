/-
  JournalTells: the reference's disk, second part (first printed by tools/rf_journal.py, then edited: Others, LRow).
-/
import Derived.Test.YtmcdfhihfcfbaaaJRa
import Derived.Test.YtmcdfhihfcfbaaaAppF
namespace Go.Proofs.Ytmcdfhihfcfbaaa.W
open Go.RowKit
set_option linter.unusedVariables false
section
variable [Others]

end
theorem crash_d (σ : St) (ks : List Int) : (crashS σ ks).down = true := by
  unfold crashS; split
  · assumption
  · rfl
theorem comS_queue (σ : St) (f k : Int) (s : List UInt8) (h : endsB σ = false) : (comS σ f k s).queue = σ.queue := by
  unfold comS; rw [h]; exact endsS_queue σ
section
variable [Others]
set_option maxHeartbeats 4000000 in
set_option maxRecDepth 100000 in
theorem rwrite_any (w : World) (B E : Nat) (σ : St) (f k : Int) (s : ByteArray) (hB : B ≤ w.heap.size) (hlen : σ.queue.length + s.size ≤ 1000000000) (ha : σ.armed ≤ 9223372036854775807) (hkk : σ.keep.length ≤ 1000000000) (hs : s.size ≤ 1000000000) (h : RRep w B E σ) :
    Calls Try.prog 59 #[.pointer (some ⟨E, 0, none⟩), .int .i64 f, .int .i64 k, .string s] w fun e w' => e = .returned (.int .i64 (WriteE σ f k s.data.toList : Nat)) ∧ RRep w' B E (WriteS σ f k s.data.toList) ∧ RK B w w' := by
  have HC := Hd.mk (rcomes_any w B E σ f k s hB hlen ha hkk hs h)
  obtain ⟨τ, hτ⟩ : ∃ τ, comS σ f k s.data.toList = τ := ⟨_, rfl⟩
  rw [hτ] at HC
  have HM := fun w (h : RRep w B E τ) => Hd.mk (rmay_any w B E τ f h)
  by_cases hm : mayS τ f = 0
  · have hE : endsB σ = false := by
      rcases hb : endsB σ with _ | _
      · rfl
      · have : τ.down = true := by rw [← hτ]; unfold comS; rw [hb]; exact crash_d _ _
        have h10 : mayS τ f = 10 := by unfold mayS; rw [this]; rfl
        rw [h10] at hm; cases hm
    have hτ2 : τ = endsS σ := by rw [← hτ]; unfold comS; rw [hE]; rfl
    have hWS : WriteS σ f k s.data.toList = writeS τ f k s.data.toList := by unfold WriteS; rw [hE, hτ2]; rfl
    have hWE : WriteE σ f k s.data.toList = writeE τ f k s.data.toList := by unfold WriteE; rw [hE, hτ2]; rfl
    have hq : τ.queue = σ.queue := by rw [hτ2]; exact endsS_queue σ
    rw [hWS, hWE]
    have HFits := fun w => Hd.mk (rfits_any k s w (by omega))
    obtain ⟨hdn, m0, m8⟩ := may_zero hm
    obtain ⟨F, rfl⟩ := Int.eq_ofNat_of_zero_le m0
    have hsl : (s.data.toList.length : Int) = (s.size : Int) := rfl
    rw [hm] at HM
    by_cases k0 : k < 0
    · have e1 : writeE τ F k s.data.toList = 1 := by unfold writeE; rw [hm, if_neg (by decide), if_pos k0]
      have e2 : writeS τ F k s.data.toList = τ := by unfold writeS; rw [if_neg (fun h => by rw [e1] at h; cases h.1)]
      rw [e1, e2]
      clear h hτ hτ2 hWS hWE hq hm hsl HFits e1 e2
      go_enter Try.func59, Try.ntmps59
      go_wp2_with fail
      refine HC.out.mono ?_
      rintro e w1 ⟨rfl, hr, hk⟩
      have HR := Hd.mk hr
      have HK := Hd.mk hk
      clear hr hk
      go_wp2_with fail
      refine (HM _ HR.out).out.mono ?_
      rintro e w2 ⟨rfl, rfl⟩
      go_wp2
      go_ret
      exact ⟨rfl, HR.out, HK.out⟩
    · obtain ⟨K0, rfl⟩ := Int.eq_ofNat_of_zero_le (by omega : 0 ≤ k)
      by_cases hfit : (K0 : Int) ≤ 16777216 ∧ (K0 : Int) + (s.size : Int) ≤ 16777216
      · have hf : (decide ((0 : Int) ≤ (K0 : Int)) && (decide ((K0 : Int) ≤ 16777216) && decide ((K0 : Int) + (s.size : Int) ≤ 16777216))) = true := by simp; omega
        rw [hf] at HFits
        have e1 : writeE τ F K0 s.data.toList = 0 := by unfold writeE; rw [hm, if_neg (by decide), if_neg k0, if_neg (by omega)]
        have hst : (if s.data.toList = [] then τ else addS τ F K0 s.data.toList) = writeS τ F K0 s.data.toList := by
          unfold writeS
          split
          · rename_i hs0; rw [if_neg (fun h => h.2 hs0)]
          · rename_i hs0; rw [if_pos ⟨e1, hs0⟩]; rfl
        have HA := fun w (h : RRep w B E τ) (hb : B ≤ w.heap.size) => Hd.mk (radd_any w B E τ F K0 s (by omega) (by omega) hb (by rw [hq]; exact hlen) h)
        rw [hst] at HA
        rw [e1]
        have HB := Hd.mk hB
        have k0' : decide ((K0 : Int) < 0) = false := by simp
        clear h hτ hτ2 hWS hWE hq hm hsl hf hst e1 hfit k0 hB hlen
        go_enter Try.func59, Try.ntmps59
        go_wp2_with fail
        refine HC.out.mono ?_
        rintro e w1 ⟨rfl, hr, hk⟩
        have HR := Hd.mk hr
        have HK := Hd.mk hk
        clear hr hk
        go_wp2_with fail
        refine (HM _ HR.out).out.mono ?_
        rintro e w2 ⟨rfl, rfl⟩
        go_wp2_with fail
        refine (HFits _).out.mono ?_
        rintro e w2 ⟨rfl, rfl⟩
        go_wp2_with fail
        refine (HA _ HR.out (Nat.le_trans HB.out HK.out.k.size)).out.mono ?_
        rintro e w3 ⟨rfl, hr3, hk3⟩
        have HR3 := Hd.mk hr3
        have HK3 := Hd.mk (HK.out.trans hk3)
        clear hr3 hk3
        go_wp2
        go_ret
        exact ⟨rfl, HR3.out, HK3.out⟩
      · have hf : (decide ((0 : Int) ≤ (K0 : Int)) && (decide ((K0 : Int) ≤ 16777216) && decide ((K0 : Int) + (s.size : Int) ≤ 16777216))) = false := by
          rw [← Bool.not_eq_true]
          simp only [Bool.and_eq_true, decide_eq_true_eq]
          intro hx
          exact hfit ⟨hx.2.1, hx.2.2⟩
        rw [hf] at HFits
        have e1 : writeE τ F K0 s.data.toList = 7 := by unfold writeE; rw [hm, if_neg (by decide), if_neg k0, if_pos (by omega)]
        have e2 : writeS τ F K0 s.data.toList = τ := by unfold writeS; rw [if_neg (fun h => by rw [e1] at h; cases h.1)]
        rw [e1, e2]
        have k0' : decide ((K0 : Int) < 0) = false := by simp
        clear h hτ hτ2 hWS hWE hq hm hsl hf e1 e2 hfit k0
        go_enter Try.func59, Try.ntmps59
        go_wp2_with fail
        refine HC.out.mono ?_
        rintro e w1 ⟨rfl, hr, hk⟩
        have HR := Hd.mk hr
        have HK := Hd.mk hk
        clear hr hk
        go_wp2_with fail
        refine (HM _ HR.out).out.mono ?_
        rintro e w2 ⟨rfl, rfl⟩
        go_wp2_with fail
        refine (HFits _).out.mono ?_
        rintro e w2 ⟨rfl, rfl⟩
        go_wp2
        go_ret
        exact ⟨rfl, HR.out, HK.out⟩
  · have hout : WriteE σ f k s.data.toList = mayS τ f ∧ WriteS σ f k s.data.toList = τ := by
      rcases hb : endsB σ with _ | _
      · have hτ2 : τ = endsS σ := by rw [← hτ]; unfold comS; rw [hb]; rfl
        have e1 : writeE (endsS σ) f k s.data.toList = mayS τ f := by unfold writeE; rw [← hτ2, if_pos hm]
        refine ⟨by unfold WriteE; rw [hb]; exact e1, ?_⟩
        unfold WriteS; rw [hb]
        show writeS (endsS σ) f k s.data.toList = τ
        unfold writeS; rw [if_neg (fun h => by rw [e1] at h; exact hm h.1), hτ2]
      · have hd : τ.down = true := by rw [← hτ]; unfold comS; rw [hb]; exact crash_d _ _
        have h10 : mayS τ f = 10 := by unfold mayS; rw [hd]; rfl
        refine ⟨by unfold WriteE; rw [hb, h10]; rfl, ?_⟩
        unfold WriteS; rw [hb, ← hτ]; unfold comS; rw [hb]; rfl
    rw [hout.1, hout.2]
    obtain ⟨m, hmm⟩ : ∃ m, mayS τ f = m := ⟨_, rfl⟩
    rw [hmm] at HM hm ⊢
    have m1 : ((m : Int) != 0) = true := by simp; omega
    clear h hτ hout hmm hm
    go_enter Try.func59, Try.ntmps59
    go_wp2_with fail
    refine HC.out.mono ?_
    rintro e w1 ⟨rfl, hr, hk⟩
    have HR := Hd.mk hr
    have HK := Hd.mk hk
    clear hr hk
    go_wp2_with fail
    refine (HM _ HR.out).out.mono ?_
    rintro e w2 ⟨rfl, rfl⟩
    go_wp2
    go_ret
    exact ⟨rfl, HR.out, HK.out⟩

end
end Go.Proofs.Ytmcdfhihfcfbaaa.W

namespace Go.Proofs.Ytmcdfhihfcfbaaa.W
open Go.RowKit
set_option linter.unusedVariables false
section
variable [Others]

theorem RCells.setLast {w : World} {B E : Nat} {σ : St} {g c : Nat} {qv kv : Value} (hc : RCells w B E σ (.slice (some ⟨g, 0, none⟩) 8 c) qv kv) (h8 : σ.lasts.length = 8) {F : Nat} (hF : F < 8) (s : List UInt8) :
    RCells (w.setCell ⟨g, F, none⟩ (strV s)) B E { σ with lasts := σ.lasts.set F s } (.slice (some ⟨g, 0, none⟩) 8 c) qv kv ∧ RK B w (w.setCell ⟨g, F, none⟩ (strV s)) := by
  have hl := hc.l.o
  have hg : B ≤ g ∧ ∃ cur fz, w.heap[g]? = some (.cells cur 9 fz) := by
    refine ⟨(hl.lt rfl).1, ?_⟩
    rcases hl.is with ⟨e, _⟩ | ⟨g', cap, e, _, _, _, ⟨cur, fz, hg', _⟩, _⟩
    · cases e
    · injection e with e1 _ _; injection e1 with e1; injection e1 with e1 _ _
      subst e1
      exact ⟨cur, fz, hg'⟩
  obtain ⟨hB, cur, fz, hgt⟩ := hg
  have k : Keeps (· = g) w (w.setCell ⟨g, F, none⟩ (strV s)) := (Keeps.refl (· = g) w).setCell (p := ⟨g, F, none⟩) (.inr rfl) _
  have hne : ∀ {b : Nat} {cur' : Array Value} {T : TypeId} {fz' : Nat × Nat}, w.heap[b]? = some (.cells cur' T fz') → T ≠ 9 → ¬ b = g := fun hb hT e => by
    subst e
    rw [hgt] at hb
    injection hb with hb; injection hb with _ h2 _
    exact hT h2.symm
  refine ⟨⟨k.blk hc.b (hne hc.b.is (by decide)), ?_, hc.q.keeps k (fun b cur' fz' hb => hne hb (by decide)), hc.k.keeps k (fun b cur' fz' hb => hne hb (by decide))⟩, ⟨(Keeps.refl (RS w B) w).setCell (p := ⟨g, F, none⟩) (.inr ⟨hB, cur, fz, _, hgt, .inr (.inl ⟨rfl, hc.l.x g rfl⟩)⟩) _⟩⟩
  have := hl.set F (by rw [List.length_map, h8]; exact hF) (strV s)
  rw [← List.map_set] at this
  exact ⟨this, hc.l.x, fun g' hg' => Nat.lt_of_lt_of_le (hc.l.lt g' hg') (by simp)⟩

/-- the queue without a file's pieces, put in place -/
theorem settle_end {w2 w3 : World} {B E : Nat} {τ : St} {lv qv kv v' : Value} {F : Nat} {s : List UInt8} (hr : Rd τ) (ok : Ok τ) (hF : F < 8) (hs : s.length ≤ 16777216) (hE : B ≤ E) (hB : B ≤ w2.heap.size)
    (hc : RCells w2 B E { τ with lasts := τ.lasts.set F s } lv qv kv) (hp : PRow w3 w2.heap.size v' (otherQ τ.queue F)) (k : Keeps (fun _ => False) w2 w3) :
    RRep (w3.setCell ⟨E, 1, none⟩ v') B E (settleS τ F s) ∧ RK B w2 (w3.setCell ⟨E, 1, none⟩ v') ∧ w3.cell? ⟨E, 1, none⟩ = some qv ∧ w3.frozen? ⟨E, 1, none⟩ = false ∧ ∃ p n c, v' = .slice p n c := by
  have hc3 := hc.keeps k (fun h => h) (fun _ _ h => h) (fun _ _ _ _ h => h) (fun _ _ _ _ h => h)
  have hput := hc3.put (σ' := { τ with lasts := τ.lasts.set F s, queue := otherQ τ.queue F }) (lv' := lv) (qv' := v') (j := 1) (u := v') hc3.l (hp.base hB) rfl rfl
  obtain ⟨p', c', e⟩ := hp.slice
  exact ⟨RMem.rep (σ := settleS τ F s) ⟨⟨lv, v', kv, ⟨hput.b, hput.l, hput.q, hput.k⟩⟩, hE⟩ (ok.settle F hs) (hr.settle ok hF s), (RK.of k).trans (RK.set hc3.b hE (.inl rfl) 1 v'), hc3.b.at (j := 1) rfl, hc3.b.free 1, p', _, c', e⟩

set_option maxHeartbeats 4000000 in
set_option maxRecDepth 100000 in
theorem rflush_any (w : World) (B E : Nat) (σ : St) (f : Int) (hB : B ≤ w.heap.size) (hlen : σ.queue.length ≤ 1000000000) (ha : σ.armed ≤ 9223372036854775807) (hkk : σ.keep.length ≤ 1000000000) (hlo : σ.lost ≤ 9223372036854775807) (h : RRep w B E σ) :
    Calls Try.prog 58 #[.pointer (some ⟨E, 0, none⟩), .int .i64 f] w fun e w' => e = .returned (.int .i64 (FlushE σ f : Nat)) ∧ RRep w' B E (FlushS σ f) ∧ RK B w w' := by
  have HC := Hd.mk (rcomes_any w B E σ 0 0 ⟨#[]⟩ hB (by show σ.queue.length + 0 ≤ _; omega) ha hkk (by decide) h)
  rw [show (⟨#[]⟩ : ByteArray).data.toList = [] from rfl, comS_head] at HC
  unfold FlushE FlushS
  have hq : (headS σ).queue.length ≤ 1000000000 := by
    unfold headS; split
    · unfold crashS; split
      · rw [endsS_queue]; exact hlen
      · exact Nat.zero_le _
    · rw [endsS_queue]; exact hlen
  have hlo2 : (headS σ).lost ≤ 9223372036854775807 := by
    have : (headS σ).lost = σ.lost := by
      unfold headS crashS endsS; split <;> (try split) <;> (try split) <;> rfl
    rw [this]; exact hlo
  obtain ⟨τ, hτ⟩ : ∃ τ, headS σ = τ := ⟨_, rfl⟩
  rw [hτ] at HC hq hlo2 ⊢
  have HM := fun w (h : RRep w B E τ) => Hd.mk (rmay_any w B E τ f h)
  clear hτ h
  by_cases hm : mayS τ f = 0
  · obtain ⟨hdn, m0, m8⟩ := may_zero hm
    obtain ⟨F, rfl⟩ := Int.eq_ofNat_of_zero_le m0
    rw [hm] at HM
    by_cases hl : 0 < τ.lost
    · have e1 : flushE τ F = 12 := by unfold flushE; rw [if_neg (by omega), if_pos hl]
      have e2 : flushS τ F = { τ with lost := τ.lost - 1 } := by unfold flushS; rw [if_neg (by omega), if_pos hl]
      rw [e1, e2]
      have HPut : Hd (∀ w (h : RRep w B E τ), RRep (w.setCell ⟨E, 2, none⟩ (.int .i64 ((τ.lost : Int) - 1))) B E { τ with lost := τ.lost - 1 } ∧ RK B w (w.setCell ⟨E, 2, none⟩ (.int .i64 ((τ.lost : Int) - 1))) ∧ w.cell? ⟨E, 2, none⟩ = some (.int .i64 τ.lost) ∧ w.frozen? ⟨E, 2, none⟩ = false) := ⟨fun w h => by
        have hp := h.put (σ' := { τ with lost := τ.lost - 1 }) (j := 2) (u := .int .i64 ((τ.lost : Int) - 1)) rfl rfl rfl ⟨h.ok.l8, h.ok.f8, h.ok.ll, h.ok.fl, h.ok.q⟩ ⟨h.rd.eq⟩ (fun _ _ _ => by rw [show (τ.lost : Int) - 1 = ((τ.lost - 1 : Nat) : Int) by omega]; rfl)
        obtain ⟨lv, qv, kv, hc⟩ := h.cells
        exact ⟨hp.1, hp.2, hc.b.at (j := 2) rfl, hc.b.free 2⟩⟩
      have rw1 : IntKind.i64.wrap ((τ.lost : Int) - 1) = (τ.lost : Int) - 1 := IntWalk.i64_in _ (by omega)
      have hgt : decide ((0 : Int) < (τ.lost : Int)) = true := by simp; omega
      clear hm m0 m8 hdn e1 e2
      go_enter Try.func58, Try.ntmps58
      go_wp2_with fail
      refine HC.out.mono ?_
      rintro e w1 ⟨rfl, hr, hk⟩
      have HR := Hd.mk hr
      have HK := Hd.mk hk
      clear hr hk
      go_wp2_with fail
      refine (HM _ HR.out).out.mono ?_
      rintro e w2 ⟨rfl, rfl⟩
      obtain ⟨p1, p2, c2, f2⟩ := HPut.out w1 HR.out
      have HP := Hd.mk (And.intro p1 p2)
      clear p1 p2
      go_wp2
      go_ret
      exact ⟨rfl, HP.out.1, HK.out.trans HP.out.2⟩
    · have hl0 : τ.lost = 0 := by omega
      have e1 : flushE τ F = 0 := by unfold flushE; rw [if_neg (by omega), if_neg hl]
      have e2 : flushS τ F = settleS τ F (τ.files.getD F []) := by unfold flushS; rw [if_neg (by omega), if_neg hl]; rfl
      rw [e1, e2]
      have hF8 : F < 8 := by omega
      obtain ⟨s, hs⟩ := bytesOf (τ.files.getD F [])
      have HRead := fun w (h : RRep w B E τ) => Hd.mk (rread_file w B E τ F hF8 hq h)
      rw [hs, strV_of] at HRead
      rw [hs]
      have HS : Hd (∀ w, RRep w B E τ → s.data.toList.length ≤ 16777216) := ⟨fun w h => by rw [← hs]; exact getD_le h.ok.fl F⟩
      have f0 : (0 : Int) ≤ (F : Int) := by omega
      have f8 : (F : Int) < 8 := by omega
      have HQ := Hd.mk (And.intro hq hF8)
      have HB := Hd.mk hB
      have HL0 := Hd.mk hl0
      clear hm m0 m8 hdn e1 e2 hs hl hl0 hF8 hq hB
      go_enter Try.func58, Try.ntmps58
      go_wp2_with fail
      refine HC.out.mono ?_
      rintro e w1 ⟨rfl, hr, hk⟩
      have HR := Hd.mk hr
      have HK := Hd.mk hk
      obtain ⟨lv, qv, kv, hc⟩ := hr.cells
      obtain ⟨gl, cl, rfl, hl1, hl2⟩ := last_cell hc.l.o hr.ok HQ.out.2
      have c0 := hc.b.at (j := 0) rfl
      have c2 := hc.b.at (j := 2) rfl
      rw [HL0.out] at c2
      have HCc := Hd.mk hc
      clear hr hk hc
      go_wp2_with fail
      refine (HM _ HR.out).out.mono ?_
      rintro e w2 ⟨rfl, rfl⟩
      go_wp2_with fail
      refine wp_region_lin default (fun w' => w'.cell? ⟨E, 0, none⟩ = some (.slice (some ⟨gl, 0, none⟩) 8 cl) ∧ w'.frozen? ⟨gl, F, none⟩ = false ∧ ∃ y, w'.cell? ⟨gl, F, none⟩ = some y) [(0, true), (1, true), (2, true), (3, true), (4, true), (5, true), (6, true), (7, false), (8, true), (9, false)] (by kernel_rfl) (by kernel_rfl) rfl (by kernel_rfl) (by kernel_rfl) ⟨c0, hl2, _, hl1⟩ ?_
      simp only [pick, List.getD_cons_zero, List.getD_cons_succ]
      repeat
        refine lin_free (v := ?_) (by rfl) ?_ ?_
        rotate_left
        · intro w' hSw
          obtain ⟨d0, d1, y, d2⟩ := hSw
          go_simp
          first | done | with_reducible rfl
        simp only [Act.put, List.setIfInBounds_toArray, List.set_cons_zero, List.set_cons_succ]
      refine lin_bound (fun K hK => ?_)
      go_simp
      refine (HRead _ (HR.out.next (Keeps.refl _ _).drew)).out.mono ?_
      rintro e w5 ⟨rfl, k5⟩
      dsimp only
      have HK5 : Hd (Keeps (fun _ => False) w1 w5) := ⟨(Keeps.refl _ w1).drew.trans k5⟩
      have hc5 := HCc.out.keeps HK5.out (fun h => h) (fun _ _ h => h) (fun _ _ _ _ h => h) (fun _ _ _ _ h => h)
      obtain ⟨hcl, hfr⟩ := hc5.l.o.at (j := F) (u := strV (τ.lasts.getD F [])) (by rw [List.getElem?_map, List.getElem?_eq_getElem (by rw [HR.out.ok.l8]; exact HQ.out.2), List.getD_eq_getElem?_getD, List.getElem?_eq_getElem (by rw [HR.out.ok.l8]; exact HQ.out.2)]; rfl)
      have hset := hc5.setLast HR.out.ok.l8 HQ.out.2 s.data.toList
      have HSet := Hd.mk hset
      have HC5 := Hd.mk hc5
      refine hK.out _ _ ⟨hc5.b.at (j := 0) rfl, hfr, _, hcl⟩ ?_
      clear hK K k5 hc5 hset c0 hl1 hl2
      repeat
        refine lin_free (v := ?_) (by rfl) ?_ ?_
        rotate_left
        · intro w' hSw
          obtain ⟨d0, d1, y, d2⟩ := hSw
          go_simp
          first | done | with_reducible rfl
        simp only [Act.put, List.setIfInBounds_toArray, List.set_cons_zero, List.set_cons_succ]
      refine lin_bound (fun K hK => ?_)
      go_simp
      have hfr6 : (w5.setCell ⟨gl, F, none⟩ (.string s)).frozen? ⟨gl, F, none⟩ = false := by simpa using hfr
      have hcl6 : (w5.setCell ⟨gl, F, none⟩ (.string s)).cell? ⟨gl, F, none⟩ = some (.string s) := World.cell?_setCell_same _ _ _ hcl
      have hb6 : (w5.setCell ⟨gl, F, none⟩ (.string s)).cell? ⟨E, 0, none⟩ = some (.slice (some ⟨gl, 0, none⟩) 8 cl) := HSet.out.1.b.at (j := 0) rfl
      refine hK.out _ _ ⟨hb6, hfr6, _, hcl6⟩ ?_
      clear hK K hcl hfr hfr6 hcl6 hb6
      refine NoPanic.normal ?_
      obtain ⟨w6, hw6⟩ : ∃ w6, w5.setCell ⟨gl, F, none⟩ (.string s) = w6 := ⟨_, rfl⟩
      have HS6 : Hd (RCells w6 B E { τ with lasts := τ.lasts.set F s.data.toList } (.slice (some ⟨gl, 0, none⟩) 8 cl) qv kv ∧ RK B w5 w6) := ⟨by rw [← hw6]; exact HSet.out⟩
      rw [hw6]
      clear hw6 HSet HC5
      go_wp2_with fail
      refine (rwithout_any w6 B E { τ with lasts := τ.lasts.set F s.data.toList } F HQ.out.1 HS6.out.1).mono ?_
      rintro e w7 ⟨v7, rfl, hp7, k7⟩
      obtain ⟨hr8, hk8, c1, f1, pv, nv, cv, rfl⟩ := settle_end HR.out.rd HR.out.ok HQ.out.2 (HS.out _ HR.out) HR.out.ge (Nat.le_trans (Nat.le_trans (Nat.le_trans HB.out HK.out.k.size) HK5.out.size) HS6.out.2.k.size) HS6.out.1 hp7 k7
      have HR8 := Hd.mk hr8
      have HK8 := Hd.mk (((HK.out.trans (RK.of HK5.out)).trans HS6.out.2).trans hk8)
      clear hp7 k7 hr8 hk8
      go_wp2
      go_ret
      exact ⟨rfl, HR8.out, HK8.out⟩
  · have hout : flushE τ f = mayS τ f ∧ flushS τ f = τ := ⟨by unfold flushE; rw [if_pos hm], by unfold flushS; rw [if_pos hm]⟩
    rw [hout.1, hout.2]
    obtain ⟨m, hmm⟩ : ∃ m, mayS τ f = m := ⟨_, rfl⟩
    rw [hmm] at HM hm ⊢
    have m1 : ((m : Int) != 0) = true := by simp; omega
    clear hout hmm hm
    go_enter Try.func58, Try.ntmps58
    go_wp2_with fail
    refine HC.out.mono ?_
    rintro e w1 ⟨rfl, hr, hk⟩
    have HR := Hd.mk hr
    have HK := Hd.mk hk
    clear hr hk
    go_wp2_with fail
    refine (HM _ HR.out).out.mono ?_
    rintro e w2 ⟨rfl, rfl⟩
    go_wp2
    go_ret
    exact ⟨rfl, HR.out, HK.out⟩

end
end Go.Proofs.Ytmcdfhihfcfbaaa.W

namespace Go.Proofs.Ytmcdfhihfcfbaaa.W
open Go.RowKit
set_option linter.unusedVariables false
section
variable [Others]

end
theorem head_queue {σ : St} (hlen : σ.queue.length ≤ 1000000000) : (headS σ).queue.length ≤ 1000000000 := by
  unfold headS; split
  · unfold crashS; split
    · rw [endsS_queue]; exact hlen
    · exact Nat.zero_le _
  · rw [endsS_queue]; exact hlen
section
variable [Others]
set_option maxHeartbeats 4000000 in
set_option maxRecDepth 100000 in
theorem rcut_any (w : World) (B E : Nat) (σ : St) (f n : Int) (hB : B ≤ w.heap.size) (hlen : σ.queue.length ≤ 1000000000) (ha : σ.armed ≤ 9223372036854775807) (hkk : σ.keep.length ≤ 1000000000) (h : RRep w B E σ) :
    Calls Try.prog 61 #[.pointer (some ⟨E, 0, none⟩), .int .i64 f, .int .i64 n] w fun e w' => e = .returned (.int .i64 (CutE σ f n : Nat)) ∧ RRep w' B E (CutS σ f n) ∧ RK B w w' := by
  have HC := Hd.mk (rcomes_any w B E σ 0 0 ⟨#[]⟩ hB (by show σ.queue.length + 0 ≤ _; omega) ha hkk (by decide) h)
  rw [show (⟨#[]⟩ : ByteArray).data.toList = [] from rfl, comS_head] at HC
  unfold CutE CutS
  have hq := head_queue hlen
  obtain ⟨τ, hτ⟩ : ∃ τ, headS σ = τ := ⟨_, rfl⟩
  rw [hτ] at HC hq ⊢
  have HM := fun w (h : RRep w B E τ) => Hd.mk (rmay_any w B E τ f h)
  clear hτ h
  by_cases hm : mayS τ f = 0
  · obtain ⟨hdn, m0, m8⟩ := may_zero hm
    obtain ⟨F, rfl⟩ := Int.eq_ofNat_of_zero_le m0
    rw [hm] at HM
    have hF8 : F < 8 := by omega
    have hsz : sizeS τ F = (τ.files.getD F []).length := by unfold sizeS; rw [show isF (F : Int) = true by unfold isF; exact decide_eq_true (by omega)]; rfl
    obtain ⟨s, hs⟩ := bytesOf (τ.files.getD F [])
    have HRead := fun w (h : RRep w B E τ) => Hd.mk (rread_file w B E τ F hF8 hq h)
    rw [hs, strV_of] at HRead
    have hsl : s.data.toList.length = s.size := rfl
    rw [hs, hsl] at hsz
    by_cases hn : n < 0 ∨ (s.size : Int) < n
    · have e1 : cutE τ F n = 1 := by unfold cutE; rw [if_neg (by omega), if_pos (by rw [hsz]; omega)]
      have e2 : cutS τ F n = τ := by unfold cutS; rw [if_neg (by rw [e1]; decide)]
      rw [e1, e2]
      have hcs : decide (n < 0) = true ∨ (decide (n < 0) = false ∧ decide ((s.size : Int) < n) = true) := by
        by_cases h0 : n < 0
        · left; simp [h0]
        · right; exact ⟨by simp; omega, by simp; omega⟩
      clear hm m0 m8 hdn e1 e2 hs hn hsz hsl
      rcases hcs with h1 | ⟨h1, h2⟩
      all_goals
        go_enter Try.func61, Try.ntmps61
        go_wp2_with fail
        refine HC.out.mono ?_
        rintro e w1 ⟨rfl, hr, hk⟩
        have HR := Hd.mk hr
        have HK := Hd.mk hk
        clear hr hk
        go_wp2_with fail
        refine (HM _ HR.out).out.mono ?_
        rintro e w2 ⟨rfl, rfl⟩
        go_wp2_with fail
        refine (HRead _ HR.out).out.mono ?_
        rintro e w2 ⟨rfl, k2⟩
        have HR2 := Hd.mk (HR.out.next k2)
        have HK2 := Hd.mk (HK.out.trans (RK.of k2))
        clear k2
        go_wp2
        go_ret
        exact ⟨rfl, HR2.out, HK2.out⟩
    · obtain ⟨m, rfl⟩ := Int.eq_ofNat_of_zero_le (by omega : 0 ≤ n)
      have hms : m ≤ s.size := by omega
      have e1 : cutE τ F m = 0 := by unfold cutE; rw [if_neg (by omega), if_neg (by rw [hsz]; omega)]
      obtain ⟨t, ht⟩ : ∃ t, s.extract 0 m = t := ⟨_, rfl⟩
      have htl : t.data.toList = s.data.toList.take m := by rw [← ht, Lib.extract_data, List.drop_zero, Nat.sub_zero]
      have e2 : cutS τ F m = settleS τ F t.data.toList := by
        unfold cutS; rw [if_pos e1, htl]
        show settleS τ F ((τ.files.getD F []).take m) = _
        rw [hs]
      rw [e1, e2]
      have HS : Hd (∀ w, RRep w B E τ → t.data.toList.length ≤ 16777216) := ⟨fun w h => by
        have := getD_le h.ok.fl F
        rw [hs] at this
        rw [htl, List.length_take]; omega⟩
      have f0 : (0 : Int) ≤ (F : Int) := by omega
      have f8 : (F : Int) < 8 := by omega
      have h1 : decide ((m : Int) < 0) = false := by simp
      have h2 : decide ((s.size : Int) < (m : Int)) = false := by simp; omega
      have h3 : ¬ s.size < m := by omega
      have h4 : (m : Int) ≤ (s.size : Int) := by omega
      have HQ := Hd.mk (And.intro hq hF8)
      have HB := Hd.mk hB
      clear hm m0 m8 hdn e1 e2 hs hn hsz hsl htl hF8 hq hB
      go_enter Try.func61, Try.ntmps61
      go_wp2_with fail
      refine HC.out.mono ?_
      rintro e w1 ⟨rfl, hr, hk⟩
      have HR := Hd.mk hr
      have HK := Hd.mk hk
      clear hr hk
      go_wp2_with fail
      refine (HM _ HR.out).out.mono ?_
      rintro e w2 ⟨rfl, rfl⟩
      go_wp2_with fail
      refine (HRead _ HR.out).out.mono ?_
      rintro e w2 ⟨rfl, k2⟩
      have HR2 := Hd.mk (HR.out.next k2)
      have HK2 := Hd.mk (HK.out.trans (RK.of k2))
      clear k2
      obtain ⟨lv, qv, kv, hc⟩ := HR2.out.cells
      obtain ⟨gl, cl, rfl, hl1, hl2⟩ := last_cell hc.l.o HR2.out.ok HQ.out.2
      have c0 := hc.b.at (j := 0) rfl
      have hset := hc.setLast HR2.out.ok.l8 HQ.out.2 t.data.toList
      have HSet := Hd.mk hset
      clear hc hset
      go_wp2_with fail
      refine wp_region_lin default (fun w' => w'.cell? ⟨E, 0, none⟩ = some (.slice (some ⟨gl, 0, none⟩) 8 cl) ∧ w'.frozen? ⟨gl, F, none⟩ = false ∧ ∃ y, w'.cell? ⟨gl, F, none⟩ = some y) [(0, true), (1, true), (2, true), (3, true), (4, true), (5, true), (6, true), (7, true), (8, true), (9, false)] (by kernel_rfl) (by kernel_rfl) rfl (by kernel_rfl) (by kernel_rfl) ⟨c0, hl2, _, hl1⟩ ?_
      simp only [pick, List.getD_cons_zero, List.getD_cons_succ]
      repeat
        refine lin_free (v := ?_) (by rfl) ?_ ?_
        rotate_left
        · intro w' hSw
          obtain ⟨d0, d1, y, d2⟩ := hSw
          go_simp
          first | done | with_reducible rfl
        simp only [Act.put, List.setIfInBounds_toArray, List.set_cons_zero, List.set_cons_succ]
      refine lin_bound (fun K hK => ?_)
      go_simp
      have hfr6 : (w2.setCell ⟨gl, F, none⟩ (.string t)).frozen? ⟨gl, F, none⟩ = false := by simpa using hl2
      have hcl6 : (w2.setCell ⟨gl, F, none⟩ (.string t)).cell? ⟨gl, F, none⟩ = some (.string t) := World.cell?_setCell_same _ _ _ hl1
      have hb6 : (w2.setCell ⟨gl, F, none⟩ (.string t)).cell? ⟨E, 0, none⟩ = some (.slice (some ⟨gl, 0, none⟩) 8 cl) := HSet.out.1.b.at (j := 0) rfl
      refine hK.out _ _ ⟨hb6, hfr6, _, hcl6⟩ ?_
      clear hK K hfr6 hcl6 hb6 hl1 hl2 c0
      refine NoPanic.normal ?_
      obtain ⟨w6, hw6⟩ : ∃ w6, (w2.setCell ⟨gl, F, none⟩ (.string t)).drew = w6 := ⟨_, rfl⟩
      have HS6 : Hd (RCells w6 B E { τ with lasts := τ.lasts.set F t.data.toList } (.slice (some ⟨gl, 0, none⟩) 8 cl) qv kv ∧ RK B w2 w6) := ⟨by
        rw [← hw6]
        exact ⟨HSet.out.1.keeps ((Keeps.refl (fun _ => False) _).drew) (fun h => h) (fun _ _ h => h) (fun _ _ _ _ h => h) (fun _ _ _ _ h => h), HSet.out.2.trans (RK.of (Keeps.refl _ _).drew)⟩⟩
      rw [hw6]
      clear hw6 HSet
      go_wp2_with fail
      refine (rwithout_any w6 B E { τ with lasts := τ.lasts.set F t.data.toList } F HQ.out.1 HS6.out.1).mono ?_
      rintro e w7 ⟨v7, rfl, hp7, k7⟩
      obtain ⟨hr8, hk8, c1, f1, pv, nv, cv, rfl⟩ := settle_end HR2.out.rd HR2.out.ok HQ.out.2 (HS.out _ HR2.out) HR2.out.ge (Nat.le_trans (Nat.le_trans HB.out HK2.out.k.size) HS6.out.2.k.size) HS6.out.1 hp7 k7
      have HR8 := Hd.mk hr8
      have HK8 := Hd.mk ((HK2.out.trans HS6.out.2).trans hk8)
      clear hp7 k7 hr8 hk8
      go_wp2
      go_ret
      exact ⟨rfl, HR8.out, HK8.out⟩
  · have hout : cutE τ f n = mayS τ f ∧ cutS τ f n = τ := by
      have e1 : cutE τ f n = mayS τ f := by unfold cutE; rw [if_pos hm]
      exact ⟨e1, by unfold cutS; rw [if_neg (by rw [e1]; exact hm)]⟩
    rw [hout.1, hout.2]
    obtain ⟨m, hmm⟩ : ∃ m, mayS τ f = m := ⟨_, rfl⟩
    rw [hmm] at HM hm ⊢
    have m1 : ((m : Int) != 0) = true := by simp; omega
    clear hout hmm hm
    go_enter Try.func61, Try.ntmps61
    go_wp2_with fail
    refine HC.out.mono ?_
    rintro e w1 ⟨rfl, hr, hk⟩
    have HR := Hd.mk hr
    have HK := Hd.mk hk
    clear hr hk
    go_wp2_with fail
    refine (HM _ HR.out).out.mono ?_
    rintro e w2 ⟨rfl, rfl⟩
    go_wp2
    go_ret
    exact ⟨rfl, HR.out, HK.out⟩

end
end Go.Proofs.Ytmcdfhihfcfbaaa.W

namespace Go.Proofs.Ytmcdfhihfcfbaaa.W
open Go.RowKit
set_option linter.unusedVariables false
section
variable [Others]

end
theorem up_may0 {σ : St} (h : σ.down = false) {f : Nat} (hf : f < 8) : mayS σ (f : Int) = 0 := by
  unfold mayS; rw [h, show isF (f : Int) = true by unfold isF; exact decide_eq_true (by omega)]; rfl
theorem otherQ_len (q : List Pn) (g : Nat) : ((otherQ q g).length = q.length) ↔ (q.any fun p => decide (p.f = g)) = false := by
  unfold otherQ
  rw [List.any_eq_false]
  constructor
  · intro h p hp
    have := List.length_filter_eq_length_iff.1 h p hp
    simpa using this
  · intro h
    exact List.length_filter_eq_length_iff.2 (fun p hp => by simpa using h p hp)
theorem otherQ_id {q : List Pn} {g : Nat} (h : (q.any fun p => decide (p.f = g)) = false) (f : Nat) : otherQ (otherQ q f) g = otherQ q f := by
  unfold otherQ
  rw [List.any_eq_false] at h
  rw [List.filter_eq_self]
  intro p hp
  simpa using h p (List.mem_filter.1 hp).1
section
variable [Others]
/-- lasts and queue put in place -/
theorem settle_end2 {w2 w3 : World} {B E : Nat} {τ σ' : St} {lv qv kv v' : Value} {L : List (List UInt8)} {q' : List Pn} (hE : B ≤ E) (hB : B ≤ w2.heap.size)
    (hc : RCells w2 B E { τ with lasts := L } lv qv kv) (hp : PRow w3 w2.heap.size v' q') (k : Keeps (fun _ => False) w2 w3)
    (h1 : σ'.lasts = L) (h2 : σ'.queue = q') (h3 : σ'.lost = τ.lost) (h4 : σ'.down = τ.down) (h5 : σ'.armed = τ.armed) (h6 : σ'.keep = τ.keep) (ok : Ok σ') (rd : Rd σ') :
    RRep (w3.setCell ⟨E, 1, none⟩ v') B E σ' ∧ RK B w2 (w3.setCell ⟨E, 1, none⟩ v') ∧ w3.cell? ⟨E, 1, none⟩ = some qv ∧ w3.frozen? ⟨E, 1, none⟩ = false ∧ ∃ p n c, v' = .slice p n c := by
  have hc3 := hc.keeps k (fun h => h) (fun _ _ h => h) (fun _ _ _ _ h => h) (fun _ _ _ _ h => h)
  have hput := hc3.put (σ' := { τ with lasts := L, queue := q' }) (lv' := lv) (qv' := v') (j := 1) (u := v') hc3.l (hp.base hB) rfl rfl
  obtain ⟨p', c', e⟩ := hp.slice
  refine ⟨RMem.rep ⟨⟨lv, v', kv, ⟨?_, ?_, ?_, ?_⟩⟩, hE⟩ ok rd, (RK.of k).trans (RK.set hc3.b hE (.inl rfl) 1 v'), hc3.b.at (j := 1) rfl, hc3.b.free 1, p', _, c', e⟩
  · rw [h3, h4, h5]; exact hput.b
  · rw [h1]; exact hput.l
  · rw [h2]; exact hput.q
  · rw [h6]; exact hput.k

/-- the walk's beginning is alike in every case -/
structure TurnPre (w : World) (B E : Nat) (τ : St) (f g : Int) : Prop where
  c : Calls Try.prog 78 #[.pointer (some ⟨E, 0, none⟩), .int .i64 0, .int .i64 0, .string ⟨#[]⟩] w fun e w' => e = .returned (.tuple #[]) ∧ RRep w' B E τ ∧ RK B w w'
  b : B ≤ w.heap.size
  q : τ.queue.length ≤ 1000000000

set_option maxHeartbeats 4000000 in
set_option maxRecDepth 100000 in
theorem rturn_go (w : World) (B E : Nat) (τ : St) (F G : Nat) (hF : F < 8) (hG : G < 8) (hd : τ.down = false) (hne : F ≠ G) (hany : (τ.queue.any fun p => decide (p.f = G)) = false) (P : TurnPre w B E τ F G) :
    Calls Try.prog 63 #[.pointer (some ⟨E, 0, none⟩), .int .i64 F, .int .i64 G] w fun e w' => e = .returned (.int .i64 0) ∧ RRep w' B E (settleS (settleS τ F (τ.lasts.getD G [])) G []) ∧ RK B w w' := by
  have HC := Hd.mk P.c
  have HM1 := fun w (h : RRep w B E τ) => Hd.mk (rmay_any w B E τ F h)
  have HM2 := fun w (h : RRep w B E τ) => Hd.mk (rmay_any w B E τ G h)
  rw [up_may0 hd hF] at HM1
  rw [up_may0 hd hG] at HM2
  have hfg : ((F : Int) == (G : Int)) = false := by simp; omega
  have hln : (otherQ τ.queue G).length = τ.queue.length := (otherQ_len _ _).2 hany
  have f0 : (0 : Int) ≤ (F : Int) := by omega
  have f8 : (F : Int) < 8 := by omega
  have g0 : (0 : Int) ≤ (G : Int) := by omega
  have g8 : (G : Int) < 8 := by omega
  have HP := Hd.mk P
  have HFG := Hd.mk (And.intro hF (And.intro hG (And.intro hany hne)))
  obtain ⟨N, hN⟩ : ∃ N, τ.queue.length = N := ⟨_, rfl⟩
  rw [hN] at hln
  have HLn := Hd.mk hln
  have HN := Hd.mk hN
  obtain ⟨sg, hsg⟩ := bytesOf (τ.lasts.getD G [])
  rw [hsg]
  have HSg := Hd.mk hsg
  obtain ⟨ρ, hρ⟩ : ∃ ρ, settleS (settleS τ F sg.data.toList) G [] = ρ := ⟨_, rfl⟩
  rw [hρ]
  have HRo : Hd (∀ w, RRep w B E τ → (ρ.lasts = (τ.lasts.set F sg.data.toList).set G [] ∧ ρ.queue = otherQ τ.queue F ∧ ρ.lost = τ.lost ∧ ρ.down = τ.down ∧ ρ.armed = τ.armed ∧ ρ.keep = τ.keep) ∧ Ok ρ ∧ Rd ρ) := ⟨fun w h => by
    have hsl : sg.data.toList.length ≤ 16777216 := by rw [← hsg]; exact getD_le h.ok.ll G
    have o1 := h.ok.settle F hsl
    refine ⟨?_, by rw [← hρ]; exact o1.settle G (by simp), by rw [← hρ]; exact (h.rd.settle h.ok hF _).settle o1 hG _⟩
    rw [← hρ]
    exact ⟨rfl, otherQ_id hany F, rfl, rfl, rfl, rfl⟩⟩
  clear hρ hsg hN hln hF hG hd hne hany P
  go_enter Try.func63, Try.ntmps63
  go_wp2_with fail
  refine HC.out.mono ?_
  rintro e w1 ⟨rfl, hr, hk⟩
  have HR := Hd.mk hr
  have HK := Hd.mk hk
  clear hr hk
  go_wp2_with fail
  refine (HM1 _ HR.out).out.mono ?_
  rintro e w2 ⟨rfl, rfl⟩
  go_wp2_with fail
  refine (HM2 _ HR.out).out.mono ?_
  rintro e w2 ⟨rfl, rfl⟩
  obtain ⟨lv, qv, kv, hc⟩ := HR.out.cells
  obtain ⟨pq, cq, rfl⟩ := hc.q.slice
  have c1 := hc.b.at (j := 1) rfl
  rw [HN.out] at c1
  have HCc := Hd.mk hc
  clear hc
  go_wp2_with fail
  refine wp_region_lin default (fun w' => w'.cell? ⟨E, 1, none⟩ = some (.slice pq N cq)) [(0, true), (1, true), (4, true), (5, true), (6, true), (7, true), (8, true), (2, false), (3, true), (9, true)] (by kernel_rfl) (by kernel_rfl) rfl (by kernel_rfl) (by kernel_rfl) c1 ?_
  simp only [pick, List.getD_cons_zero, List.getD_cons_succ]
  repeat
    refine lin_free (v := ?_) (by rfl) ?_ ?_
    rotate_left
    · intro w' hSw
      go_simp
      first | done | with_reducible rfl
    simp only [Act.put, List.setIfInBounds_toArray, List.set_cons_zero, List.set_cons_succ]
  refine lin_bound (fun K hK => ?_)
  go_simp
  have hcd := HCc.out.keeps ((Keeps.refl (fun _ => False) w1).drew) (fun h => h) (fun _ _ h => h) (fun _ _ _ _ h => h) (fun _ _ _ _ h => h)
  refine (rwithout_any w1.drew B E τ G HP.out.q hcd).mono ?_
  rintro e w5 ⟨v5, rfl, hp5, k5⟩
  dsimp only
  obtain ⟨p5, c5, hv5⟩ := hp5.slice
  rw [HLn.out] at hv5
  subst hv5
  have hk5 : Keeps (fun _ => False) w1 w5 := (Keeps.refl _ w1).drew.trans k5
  have hc5 := HCc.out.keeps hk5 (fun h => h) (fun _ _ h => h) (fun _ _ _ _ h => h) (fun _ _ _ _ h => h)
  have c15 := hc5.b.at (j := 1) rfl
  rw [HN.out] at c15
  refine hK.out _ _ c15 ?_
  have HR5 := Hd.mk (HR.out.next hk5)
  have HK5 := Hd.mk (HK.out.trans (RK.of hk5))
  have HC5 := Hd.mk hc5
  clear hK K hcd hp5 k5 hk5 hc5 c15 c1
  repeat
    refine lin_free (v := ?_) (by rfl) ?_ ?_
    rotate_left
    · intro w' hSw
      go_simp
      first | done | with_reducible rfl
    simp only [Act.put, List.setIfInBounds_toArray, List.set_cons_zero, List.set_cons_succ]
  refine NoPanic.normal ?_
  have hl8 := HR5.out.ok.l8
  obtain ⟨gl, cl, e0, hl1, hl2⟩ := last_cell HC5.out.l.o HR5.out.ok HFG.out.1
  obtain ⟨gl', cl', e0', hg1, hg2⟩ := last_cell HC5.out.l.o HR5.out.ok HFG.out.2.1
  subst e0
  obtain ⟨rfl, rfl⟩ : gl = gl' ∧ cl = cl' := by injection e0' with a1 _ a2; injection a1 with a1; injection a1 with a1 _ _; exact ⟨a1, a2⟩
  clear e0'
  rw [HSg.out, strV_of] at hg1
  have c05 := HC5.out.b.at (j := 0) rfl
  obtain ⟨hs1, hk1⟩ := HC5.out.setLast hl8 HFG.out.1 sg.data.toList
  obtain ⟨hs2, hk2⟩ := hs1.setLast (by simpa using hl8) HFG.out.2.1 []
  have HS1 := Hd.mk hs1
  have HS2 := Hd.mk hs2
  have HKK := Hd.mk (hk1.trans hk2)
  have hgs : ((τ.lasts.set F sg.data.toList).getD G []) = τ.lasts.getD G [] := by rw [getD_set _ _ _ _ _ (by rw [hl8]; exact HFG.out.1), if_neg HFG.out.2.2.2]
  clear hs1 hs2 hk1 hk2 hl8
  go_wp2_with fail
  refine wp_region_lin default (fun w' => w'.cell? ⟨E, 0, none⟩ = some (.slice (some ⟨gl, 0, none⟩) 8 cl) ∧ w'.cell? ⟨gl, G, none⟩ = some (.string sg) ∧ w'.frozen? ⟨gl, F, none⟩ = false ∧ ∃ y, w'.cell? ⟨gl, F, none⟩ = some y) [(0, true), (1, true), (2, true), (3, true), (4, true), (5, true), (6, true), (7, true), (8, true), (9, true), (10, true), (11, true), (12, true), (13, false)] (by kernel_rfl) (by kernel_rfl) rfl (by kernel_rfl) (by kernel_rfl) ⟨c05, hg1, hl2, _, hl1⟩ ?_
  simp only [pick, List.getD_cons_zero, List.getD_cons_succ]
  repeat
    refine lin_free (v := ?_) (by rfl) ?_ ?_
    rotate_left
    · intro w' hSw
      obtain ⟨d0, d1, d2, y, d3⟩ := hSw
      go_simp
      first | done | with_reducible rfl
    simp only [Act.put, List.setIfInBounds_toArray, List.set_cons_zero, List.set_cons_succ]
  refine lin_bound (fun K hK => ?_)
  go_simp
  have hfr6 : (w5.setCell ⟨gl, F, none⟩ (.string sg)).frozen? ⟨gl, F, none⟩ = false := by simpa using hl2
  have hcl6 : (w5.setCell ⟨gl, F, none⟩ (.string sg)).cell? ⟨gl, F, none⟩ = some (.string sg) := World.cell?_setCell_same _ _ _ hl1
  have hb6 : (w5.setCell ⟨gl, F, none⟩ (.string sg)).cell? ⟨E, 0, none⟩ = some (.slice (some ⟨gl, 0, none⟩) 8 cl) := HS1.out.b.at (j := 0) rfl
  have hg6 : (w5.setCell ⟨gl, F, none⟩ (.string sg)).cell? ⟨gl, G, none⟩ = some (.string sg) := by
    rw [World.cell?_setCell_other _ _ _ _ (fun e' => HFG.out.2.2.2 (Addr.mk.inj e').2.1)]; exact hg1
  have hgf6 : (w5.setCell ⟨gl, F, none⟩ (.string sg)).frozen? ⟨gl, G, none⟩ = false := by simpa using hg2
  refine hK.out _ _ ⟨hb6, hg6, hfr6, _, hcl6⟩ ?_
  clear hK K hfr6 hcl6 hl1 hl2 hg1 hg2 c05 hgs
  refine NoPanic.normal ?_
  obtain ⟨w6, hw6⟩ : ∃ w6, (w5.setCell ⟨gl, F, none⟩ (.string sg)).drew = w6 := ⟨_, rfl⟩
  have hb6' : w6.cell? ⟨E, 0, none⟩ = some (.slice (some ⟨gl, 0, none⟩) 8 cl) := by rw [← hw6]; exact hb6
  have hg6' : w6.cell? ⟨gl, G, none⟩ = some (.string sg) := by rw [← hw6]; exact hg6
  have hf6' : w6.frozen? ⟨gl, G, none⟩ = false := by rw [← hw6]; exact hgf6
  obtain ⟨w7, hw7⟩ : ∃ w7, w6.setCell ⟨gl, G, none⟩ (.string ⟨#[]⟩) = w7 := ⟨_, rfl⟩
  have HS7 : Hd (RCells w7 B E { τ with lasts := (τ.lasts.set F sg.data.toList).set G [] } (.slice (some ⟨gl, 0, none⟩) 8 cl) (.slice pq τ.queue.length cq) kv ∧ RK B w5 w7) := ⟨by
    rw [← hw7, ← hw6]
    exact ⟨HS2.out.keeps ((Keeps.refl (fun _ => False) _).drew) (fun h => h) (fun _ _ h => h) (fun _ _ _ _ h => h) (fun _ _ _ _ h => h), HKK.out.trans (RK.of (Keeps.refl _ _).drew)⟩⟩
  rw [hw6]
  clear hw6 HS1 HS2 HKK hb6 hg6 hgf6
  go_wp2_with fail
  refine (rwithout_any w7 B E { τ with lasts := (τ.lasts.set F sg.data.toList).set G [] } F HP.out.q HS7.out.1).mono ?_
  rintro e w8 ⟨v8, rfl, hp8, k8⟩
  obtain ⟨⟨h1, h2, h3, h4, h5, h6⟩, o1, o2⟩ := HRo.out _ HR.out
  obtain ⟨hr8, hk8, c1, f1, pv, nv, cv, rfl⟩ := settle_end2 (σ' := ρ) HR.out.ge (Nat.le_trans (Nat.le_trans HP.out.b HK5.out.k.size) HS7.out.2.k.size) HS7.out.1 hp8 k8 h1 h2 h3 h4 h5 h6 o1 o2
  have HR8 := Hd.mk hr8
  have HK8 := Hd.mk ((HK5.out.trans HS7.out.2).trans hk8)
  clear hp8 k8 hr8 hk8 h1 h2 h3 h4 h5 h6 o1 o2 hw7 hb6' hg6' hf6'
  go_wp2
  go_ret
  exact ⟨rfl, HR8.out, HK8.out⟩

end
end Go.Proofs.Ytmcdfhihfcfbaaa.W

namespace Go.Proofs.Ytmcdfhihfcfbaaa.W
open Go.RowKit
set_option linter.unusedVariables false
section
variable [Others]

set_option maxHeartbeats 4000000 in
set_option maxRecDepth 100000 in
theorem rturn_any (w : World) (B E : Nat) (σ : St) (f g : Int) (hB : B ≤ w.heap.size) (hlen : σ.queue.length ≤ 1000000000) (ha : σ.armed ≤ 9223372036854775807) (hkk : σ.keep.length ≤ 1000000000) (h : RRep w B E σ) :
    Calls Try.prog 63 #[.pointer (some ⟨E, 0, none⟩), .int .i64 f, .int .i64 g] w fun e w' => e = .returned (.int .i64 (TurnE σ f g : Nat)) ∧ RRep w' B E (TurnS σ f g) ∧ RK B w w' := by
  have hC := rcomes_any w B E σ 0 0 ⟨#[]⟩ hB (by show σ.queue.length + 0 ≤ _; omega) ha hkk (by decide) h
  rw [show (⟨#[]⟩ : ByteArray).data.toList = [] from rfl, comS_head] at hC
  unfold TurnE TurnS
  have hq := head_queue hlen
  obtain ⟨τ, hτ⟩ : ∃ τ, headS σ = τ := ⟨_, rfl⟩
  rw [hτ] at hC hq ⊢
  clear hτ h
  have HC := Hd.mk hC
  have HM := fun w (h : RRep w B E τ) => Hd.mk (rmay_any w B E τ f h)
  by_cases hm : mayS τ f = 0
  · obtain ⟨hdn, m0, m8⟩ := may_zero hm
    obtain ⟨F, rfl⟩ := Int.eq_ofNat_of_zero_le m0
    rw [hm] at HM
    have hF8 : F < 8 := by omega
    have HM2 := fun w (h : RRep w B E τ) => Hd.mk (rmay_any w B E τ g h)
    by_cases hm2 : mayS τ g = 0
    · obtain ⟨_, n0, n8⟩ := may_zero hm2
      obtain ⟨G, rfl⟩ := Int.eq_ofNat_of_zero_le n0
      rw [hm2] at HM2
      have hG8 : G < 8 := by omega
      have h2 : may2 τ F G = 0 := by unfold may2; rw [if_neg (by omega), hm2]
      by_cases hfg : F = G
      · subst hfg
        have e1 : turnE τ F F = 1 := by unfold turnE; rw [if_neg (by omega), if_pos rfl]
        have e2 : turnS τ F F = τ := by unfold turnS; rw [if_neg (by rw [e1]; decide)]
        rw [e1, e2]
        clear hm hm2 m0 m8 n0 n8 hdn h2 e1 e2 hC hB hF8 hG8
        go_enter Try.func63, Try.ntmps63
        go_wp2_with fail
        refine HC.out.mono ?_
        rintro e w1 ⟨rfl, hr, hk⟩
        have HR := Hd.mk hr
        have HK := Hd.mk hk
        clear hr hk
        go_wp2_with fail
        refine (HM _ HR.out).out.mono ?_
        rintro e w2 ⟨rfl, rfl⟩
        go_wp2_with fail
        refine (HM2 _ HR.out).out.mono ?_
        rintro e w2 ⟨rfl, rfl⟩
        go_wp2
        go_ret
        exact ⟨rfl, HR.out, HK.out⟩
      · by_cases hany : (τ.queue.any fun p => decide (p.f = G)) = true
        · have e1 : turnE τ F G = 11 := by
            unfold turnE; rw [if_neg (by omega), if_neg (by omega), show (G : Int).toNat = G from rfl, hany]; rfl
          have e2 : turnS τ F G = τ := by unfold turnS; rw [if_neg (by rw [e1]; decide)]
          rw [e1, e2]
          have hln : (otherQ τ.queue G).length ≠ τ.queue.length := fun h => by
            have := (otherQ_len _ _).1 h
            rw [this] at hany; cases hany
          have hfg' : ((F : Int) == (G : Int)) = false := by simp; omega
          have f0 : (0 : Int) ≤ (F : Int) := by omega
          have f8 : (F : Int) < 8 := by omega
          have g0 : (0 : Int) ≤ (G : Int) := by omega
          have g8 : (G : Int) < 8 := by omega
          obtain ⟨N, hN⟩ : ∃ N, τ.queue.length = N := ⟨_, rfl⟩
          obtain ⟨M, hM⟩ : ∃ M, (otherQ τ.queue G).length = M := ⟨_, rfl⟩
          rw [hN, hM] at hln
          have hmn : ((M : Int) != (N : Int)) = true := by simp; omega
          have HN := Hd.mk hN
          have HLn := Hd.mk hM
          have HQ := Hd.mk hq
          clear hm hm2 m0 m8 n0 n8 hdn h2 e1 e2 hC hB hany hN hM hF8 hG8 hfg hln hq
          go_enter Try.func63, Try.ntmps63
          go_wp2_with fail
          refine HC.out.mono ?_
          rintro e w1 ⟨rfl, hr, hk⟩
          have HR := Hd.mk hr
          have HK := Hd.mk hk
          clear hr hk
          go_wp2_with fail
          refine (HM _ HR.out).out.mono ?_
          rintro e w2 ⟨rfl, rfl⟩
          go_wp2_with fail
          refine (HM2 _ HR.out).out.mono ?_
          rintro e w2 ⟨rfl, rfl⟩
          obtain ⟨lv, qv, kv, hc⟩ := HR.out.cells
          obtain ⟨pq, cq, rfl⟩ := hc.q.slice
          have c1 := hc.b.at (j := 1) rfl
          rw [HN.out] at c1
          have HCc := Hd.mk hc
          clear hc
          go_wp2_with fail
          refine wp_region_lin default (fun w' => w'.cell? ⟨E, 1, none⟩ = some (.slice pq N cq)) [(0, true), (1, true), (4, true), (5, true), (6, true), (7, true), (8, true), (2, false), (3, true), (9, true)] (by kernel_rfl) (by kernel_rfl) rfl (by kernel_rfl) (by kernel_rfl) c1 ?_
          simp only [pick, List.getD_cons_zero, List.getD_cons_succ]
          repeat
            refine lin_free (v := ?_) (by rfl) ?_ ?_
            rotate_left
            · intro w' hSw
              go_simp
              first | done | with_reducible rfl
            simp only [Act.put, List.setIfInBounds_toArray, List.set_cons_zero, List.set_cons_succ]
          refine lin_bound (fun K hK => ?_)
          go_simp
          have hcd := HCc.out.keeps ((Keeps.refl (fun _ => False) w1).drew) (fun h => h) (fun _ _ h => h) (fun _ _ _ _ h => h) (fun _ _ _ _ h => h)
          refine (rwithout_any w1.drew B E τ G HQ.out hcd).mono ?_
          rintro e w5 ⟨v5, rfl, hp5, k5⟩
          dsimp only
          obtain ⟨p5, c5, hv5⟩ := hp5.slice
          rw [HLn.out] at hv5
          subst hv5
          have hk5 : Keeps (fun _ => False) w1 w5 := (Keeps.refl _ w1).drew.trans k5
          have hc5 := HCc.out.keeps hk5 (fun h => h) (fun _ _ h => h) (fun _ _ _ _ h => h) (fun _ _ _ _ h => h)
          have c15 := hc5.b.at (j := 1) rfl
          rw [HN.out] at c15
          refine hK.out _ _ c15 ?_
          have HR5 := Hd.mk (HR.out.next hk5)
          have HK5 := Hd.mk (HK.out.trans (RK.of hk5))
          clear hK K hcd hp5 k5 hk5 hc5 c15 c1
          repeat
            refine lin_free (v := ?_) (by rfl) ?_ ?_
            rotate_left
            · intro w' hSw
              go_simp
              first | done | with_reducible rfl
            simp only [Act.put, List.setIfInBounds_toArray, List.set_cons_zero, List.set_cons_succ]
          refine NoPanic.normal ?_
          go_wp2
          go_ret
          exact ⟨rfl, HR5.out, HK5.out⟩
        · have hany' : (τ.queue.any fun p => decide (p.f = G)) = false := by simpa using hany
          have e1 : turnE τ F G = 0 := by
            unfold turnE; rw [if_neg (by omega), if_neg (by omega), show (G : Int).toNat = G from rfl, hany']; rfl
          have e2 : turnS τ F G = settleS (settleS τ F (τ.lasts.getD G [])) G [] := by unfold turnS; rw [if_pos e1]; rfl
          rw [e1, e2]
          exact rturn_go w B E τ F G hF8 hG8 hdn hfg hany' ⟨HC.out, hB, hq⟩
    · have h2 : may2 τ F g = mayS τ g := by unfold may2; rw [if_neg (by omega)]
      have e1 : turnE τ F g = mayS τ g := by unfold turnE; rw [h2, if_pos hm2]
      have e2 : turnS τ F g = τ := by unfold turnS; rw [if_neg (by rw [e1]; exact hm2)]
      rw [e1, e2]
      obtain ⟨m, hmm⟩ : ∃ m, mayS τ g = m := ⟨_, rfl⟩
      rw [hmm] at HM2 hm2 ⊢
      have m1 : ((m : Int) != 0) = true := by simp; omega
      clear hm hm2 m0 m8 hdn h2 e1 e2 hmm hC hB hF8
      go_enter Try.func63, Try.ntmps63
      go_wp2_with fail
      refine HC.out.mono ?_
      rintro e w1 ⟨rfl, hr, hk⟩
      have HR := Hd.mk hr
      have HK := Hd.mk hk
      clear hr hk
      go_wp2_with fail
      refine (HM _ HR.out).out.mono ?_
      rintro e w2 ⟨rfl, rfl⟩
      go_wp2_with fail
      refine (HM2 _ HR.out).out.mono ?_
      rintro e w2 ⟨rfl, rfl⟩
      go_wp2
      go_ret
      exact ⟨rfl, HR.out, HK.out⟩
  · have h2 : may2 τ f g = mayS τ f := by unfold may2; rw [if_pos hm]
    have e1 : turnE τ f g = mayS τ f := by unfold turnE; rw [h2, if_pos hm]
    have e2 : turnS τ f g = τ := by unfold turnS; rw [if_neg (by rw [e1]; exact hm)]
    rw [e1, e2]
    obtain ⟨m, hmm⟩ : ∃ m, mayS τ f = m := ⟨_, rfl⟩
    rw [hmm] at HM hm ⊢
    have m1 : ((m : Int) != 0) = true := by simp; omega
    clear e1 e2 h2 hmm hm hC
    go_enter Try.func63, Try.ntmps63
    go_wp2_with fail
    refine HC.out.mono ?_
    rintro e w1 ⟨rfl, hr, hk⟩
    have HR := Hd.mk hr
    have HK := Hd.mk hk
    clear hr hk
    go_wp2_with fail
    refine (HM _ HR.out).out.mono ?_
    rintro e w2 ⟨rfl, rfl⟩
    go_wp2
    go_ret
    exact ⟨rfl, HR.out, HK.out⟩

end
end Go.Proofs.Ytmcdfhihfcfbaaa.W

namespace Go.Proofs.Ytmcdfhihfcfbaaa.W
open Go.RowKit
set_option linter.unusedVariables false
section
variable [Others]

end
theorem add0' (g j : Nat) : (⟨g, 0, none⟩ : Addr).add j = ⟨g, j, none⟩ := by unfold Addr.add; split <;> simp_all
theorem row_keeps {w w' : World} {B size n : Nat} {e : TypeId} {v : Value} {xs : List Value} (h : w.ownsRow B e size v n xs) (k : Keeps (fun _ => False) w w') : w'.ownsRow B e size v n xs := by
  refine ⟨h.1, ?_⟩
  rcases h.2 with h1 | ⟨b, cap, cur, e, hB, hg, r⟩
  · exact .inl h1
  · have hlt : b < w.heap.size := by
      rcases Nat.lt_or_ge b w.heap.size with h' | h'
      · exact h'
      · rw [Array.getElem?_eq_none h'] at hg; cases hg
    exact .inr ⟨b, cap, cur, e, hB, by rw [k.block b hlt (fun h => h), hg], r⟩
theorem empty_row2 (w : World) (B : Nat) (hB : B ≤ w.heap.size) (e : TypeId) (size : Nat) : (w.alloc (.cells #[] e)).ownsRow B e size (.slice (some ⟨w.heap.size, 0, none⟩) 0 0) 0 [] :=
  ⟨by simp, .inr ⟨w.heap.size, 0, #[], rfl, hB, (Blk.new w e []).is, Nat.le_refl _, by unfold maxLen; omega, by simp, by simp⟩⟩
theorem app_ints (w : World) (v : Value) (ks : List Int) (hk : ks.length ≤ 1000000000) (hI : IR (fun _ => False) w v ks) (p : Option Addr) (hown : w.ownsRow 0 3 1 (.slice p 0 0) 0 []) :
    ∃ v' w' p' c', (Builtin.append_ #[32, 32] 32 #[.slice p 0 0, v]).run Try.prog w = .ok v' w' ∧ IRow w' v' ks ∧ Keeps (fun _ => False) w w' ∧ v' = .slice p' ks.length c' := by
  obtain ⟨i0, hi, hz0, hz1, hz2⟩ := info_parts infoInt
  have fin : ∀ q c, v = .slice q ks.length c → ((q = none ∧ ks.length = 0) ∨ ∃ a, q = some a ∧ ∀ j u, (intsV ks)[j]? = some u → w.cell? (a.add j) = some u) → ∃ v' w' p' c', (Builtin.append_ #[32, 32] 32 #[.slice p 0 0, v]).run Try.prog w = .ok v' w' ∧ IRow w' v' ks ∧ Keeps (fun _ => False) w w' ∧ v' = .slice p' ks.length c' := fun q c hv hx => by
    obtain ⟨v', w', h1, h2, h3⟩ := app_fresh (P := Try.prog) w 32 32 3 Try.underlying32 hi hz0 hz1 hz2 rfl (by decide) 0 (Nat.zero_le _) p hown q ks.length c (intsV ks) hx (by simp [intsV]) (fun u hu => by simp [intsV] at hu; obtain ⟨x, _, rfl⟩ := hu; rfl) (by unfold maxLen; omega) (by omega)
    have hI' : IRow w' v' ks := IRow.of_row h2
    obtain ⟨p', c', e⟩ := hI'.slice
    exact ⟨v', w', p', c', by rw [hv]; exact h1, hI', h3, e⟩
  rcases hI.is with ⟨rfl, rfl | ⟨a, c, rfl⟩⟩ | ⟨g, o, cap, rfl, _, hc⟩
  · exact fin none 0 rfl (.inl ⟨rfl, rfl⟩)
  · exact fin (some a) c rfl (.inr ⟨a, rfl, fun j u hj => by simp [intsV] at hj⟩)
  · refine fin _ cap rfl (.inr ⟨_, rfl, fun j u hj => ?_⟩)
    have e : (⟨g, o, none⟩ : Addr).add j = ⟨g, o + j, none⟩ := by unfold Addr.add; split <;> simp_all
    rw [e]
    simp [intsV] at hj
    obtain ⟨x, hx, rfl⟩ := hj
    exact hc j x hx
theorem app_strs (w : World) (B : Nat) (hB : B ≤ w.heap.size) (v : Value) (ls : List (List UInt8)) (h8 : ls.length = 8) (hI : Own w B 9 v (ls.map strV)) (p : Option Addr) (hown : w.ownsRow B 9 1 (.slice p 0 0) 0 []) :
    ∃ v' w' p' c', (Builtin.append_ #[31, 31] 31 #[.slice p 0 0, v]).run Try.prog w = .ok v' w' ∧ Own w' B 9 v' (ls.map strV) ∧ Keeps (fun _ => False) w w' ∧ v' = .slice p' 8 c' := by
  obtain ⟨i0, hi, hz0, hz1, hz2⟩ := info_parts rinfoStr
  obtain ⟨g, cap, rfl⟩ := hI.slice (by rw [List.length_map, h8]; decide)
  have hl : (ls.map strV).length = 8 := by rw [List.length_map, h8]
  rw [hl] at hI ⊢
  obtain ⟨v', w', h1, h2, h3⟩ := app_fresh (P := Try.prog) w 31 31 9 Try.underlying31 hi hz0 hz1 hz2 rfl (by decide) B hB p hown (some ⟨g, 0, none⟩) 8 cap (ls.map strV) (.inr ⟨_, rfl, fun j u hj => by rw [add0']; exact (hI.at hj).1⟩) (by rw [hl]) (fun u hu => by
    obtain ⟨x, _, rfl⟩ := List.mem_map.1 hu
    rfl) (by unfold maxLen; omega) (by omega)
  have hO := Own.of_row h2
  obtain ⟨p', c', e⟩ := own_slice hO hl
  exact ⟨v', w', p', c', h1, hO, h3, e⟩
theorem app_pieces (w : World) (B : Nat) (hB : B ≤ w.heap.size) (v : Value) (q : List Pn) (hq : q.length ≤ 1000000000) (hI : PRow w B v q) (p : Option Addr) (hown : w.ownsRow B 109 3 (.slice p 0 0) 0 []) :
    ∃ v' w' p' c', (Builtin.append_ #[86, 86] 86 #[.slice p 0 0, v]).run Try.prog w = .ok v' w' ∧ PRow w' B v' q ∧ Keeps (fun _ => False) w w' ∧ v' = .slice p' q.length c' := by
  obtain ⟨i0, hi, hz0, hz1, hz2⟩ := info_parts infoPiece
  have fin : ∀ a c, v = .slice a q.length c → ((a = none ∧ q.length = 0) ∨ ∃ a', a = some a' ∧ ∀ j u, (qCells q)[j]? = some u → w.cell? (a'.add j) = some u) → ∃ v' w' p' c', (Builtin.append_ #[86, 86] 86 #[.slice p 0 0, v]).run Try.prog w = .ok v' w' ∧ PRow w' B v' q ∧ Keeps (fun _ => False) w w' ∧ v' = .slice p' q.length c' := fun a c hv hx => by
    obtain ⟨v', w', h1, h2, h3⟩ := app_fresh (P := Try.prog) w 86 86 109 Try.underlying86 hi hz0 hz1 hz2 rfl (by decide) B hB p hown a q.length c (qCells q) hx (qCells_len q) (qCells_one q) (by unfold maxLen; omega) (by omega)
    have hI' : PRow w' B v' q := ⟨.inr h2⟩
    obtain ⟨p', c', e⟩ := hI'.slice
    exact ⟨v', w', p', c', by rw [hv]; exact h1, hI', h3, e⟩
  rcases hI.is with ⟨rfl, a, rfl⟩ | hrow
  · rcases a with _ | a
    · exact fin none 0 rfl (.inl ⟨rfl, rfl⟩)
    · exact fin (some a) 0 rfl (.inr ⟨a, rfl, fun j u hj => by simp [qCells] at hj⟩)
  · have hr := hrow
    rcases hrow.2 with ⟨rfl, h0⟩ | ⟨b, cap, cur, rfl, _⟩
    · exact fin none 0 (by rw [h0]) (.inl ⟨rfl, h0⟩)
    · exact fin _ cap rfl (.inr ⟨_, rfl, fun j u hj => hr.cells (g := b) rfl j u hj⟩)
section
variable [Others]
/-- Arm's end -/
theorem arm_end {w w2 : World} {B E : Nat} {σ : St} {n : Int} {m : Nat} {kv : Value} {ks : List Int} (hm : (max n 0).toNat = m) (hok : Ok σ) (hrd : Rd σ) (hE : B ≤ E) {lv qv kv0 : Value} (hc : RCells w B E σ lv qv kv0)
    (k : Keeps (fun _ => False) (w.setCell ⟨E, 4, none⟩ (.int .i64 (m : Int))) w2) (hI : IRow w2 kv ks) :
    RRep (w2.setCell ⟨E, 5, none⟩ kv) B E (armS σ n ks) ∧ RK B w (w2.setCell ⟨E, 5, none⟩ kv) ∧ (∃ u, w2.cell? ⟨E, 5, none⟩ = some u) ∧ w2.frozen? ⟨E, 5, none⟩ = false := by
  have h1 := hc.put (σ' := { σ with armed := m }) (lv' := lv) (qv' := qv) (j := 4) (u := .int .i64 (m : Int)) hc.l hc.q rfl rfl
  have h2 := h1.keeps k (fun h => h) (fun _ _ h => h) (fun _ _ _ _ h => h) (fun _ _ _ _ h => h)
  have k5 : Keeps (· = E) w2 (w2.setCell ⟨E, 5, none⟩ kv) := (Keeps.refl (· = E) w2).setCell (p := ⟨E, 5, none⟩) (.inr rfl) kv
  refine ⟨RMem.rep ⟨⟨lv, qv, kv, ⟨?_, ?_, ?_, ?_⟩⟩, hE⟩ (hok.arm n ks) ⟨hrd.eq⟩, ((RK.set hc.b hE (.inl rfl) 4 _).trans (RK.of k)).trans (RK.set h2.b hE (.inl rfl) 5 kv), ⟨_, h2.b.at (j := 5) rfl⟩, h2.b.free 5⟩
  · exact (h2.b.set 5 kv).cast (by show _ = [lv, qv, .int .i64 σ.lost, .bool σ.down, .int .i64 ((max n 0).toNat : Nat), kv]; rw [hm]; rfl)
  · exact lrow_keeps_type h2.b (by decide) h2.l rfl
  · exact h2.q.keeps k5 (fun g cur fz hg => blk_ne h2.b hg (by decide))
  · exact hI.keeps k5 (fun g cur fz hg => blk_ne h2.b hg (by decide))

end
end Go.Proofs.Ytmcdfhihfcfbaaa.W

namespace Go.Proofs.Ytmcdfhihfcfbaaa.W
open Go.RowKit
set_option linter.unusedVariables false
section
variable [Others]

end
theorem strs8_own {w : World} {B g : Nat} (hB : B ≤ g) (hb : Blk w g 9 [.string ⟨#[]⟩, .string ⟨#[]⟩, .string ⟨#[]⟩, .string ⟨#[]⟩, .string ⟨#[]⟩, .string ⟨#[]⟩, .string ⟨#[]⟩, .string ⟨#[]⟩]) : Own w B 9 (.slice (some ⟨g, 0, none⟩) 8 8) (newS.lasts.map strV) :=
  ⟨.inr ⟨g, 8, rfl, hB, Nat.le_refl _, by unfold maxLen; omega, ⟨_, _, hb.is, rfl⟩, fun j u hj => hb.at hj, fun j _ => hb.free j⟩⟩
theorem rmake_8 (w : World) : (Instr.makeSlice 31 (.int .i64 8) (.int .i64 8)).run Try.prog w = .ok (.slice (some ⟨w.heap.size, 0, none⟩) 8 8) (w.alloc (.cells #[.string ⟨#[]⟩, .string ⟨#[]⟩, .string ⟨#[]⟩, .string ⟨#[]⟩, .string ⟨#[]⟩, .string ⟨#[]⟩, .string ⟨#[]⟩, .string ⟨#[]⟩] 9)) := by kernel_rfl
section
variable [Others]
theorem new_end (w : World) (B : Nat) (hX : ∀ g, Others.X g → g < w.heap.size) (hB : B ≤ w.heap.size) : RRep ((w.alloc (.cells #[.string ⟨#[]⟩, .string ⟨#[]⟩, .string ⟨#[]⟩, .string ⟨#[]⟩, .string ⟨#[]⟩, .string ⟨#[]⟩, .string ⟨#[]⟩, .string ⟨#[]⟩] 9)).alloc (.cells #[.slice (some ⟨w.heap.size, 0, none⟩) 8 8, .slice none 0 0, .int .i64 0, .bool false, .int .i64 0, .slice none 0 0] 88)) B (w.heap.size + 1) newS ∧
    Keeps (fun _ => False) w ((w.alloc (.cells #[.string ⟨#[]⟩, .string ⟨#[]⟩, .string ⟨#[]⟩, .string ⟨#[]⟩, .string ⟨#[]⟩, .string ⟨#[]⟩, .string ⟨#[]⟩, .string ⟨#[]⟩] 9)).alloc (.cells #[.slice (some ⟨w.heap.size, 0, none⟩) 8 8, .slice none 0 0, .int .i64 0, .bool false, .int .i64 0, .slice none 0 0] 88)) := by
  have h1 := Blk.new w 9 [.string ⟨#[]⟩, .string ⟨#[]⟩, .string ⟨#[]⟩, .string ⟨#[]⟩, .string ⟨#[]⟩, .string ⟨#[]⟩, .string ⟨#[]⟩, .string ⟨#[]⟩]
  obtain ⟨w1, hw1⟩ : ∃ w1, w.alloc (.cells #[.string ⟨#[]⟩, .string ⟨#[]⟩, .string ⟨#[]⟩, .string ⟨#[]⟩, .string ⟨#[]⟩, .string ⟨#[]⟩, .string ⟨#[]⟩, .string ⟨#[]⟩] 9) = w1 := ⟨_, rfl⟩
  have h1 : Blk w1 w.heap.size 9 [.string ⟨#[]⟩, .string ⟨#[]⟩, .string ⟨#[]⟩, .string ⟨#[]⟩, .string ⟨#[]⟩, .string ⟨#[]⟩, .string ⟨#[]⟩, .string ⟨#[]⟩] := hw1 ▸ h1
  have k1 : Keeps (fun _ => False) w w1 := hw1 ▸ (Keeps.refl (fun _ => False) w).alloc _
  have hsz : w1.heap.size = w.heap.size + 1 := by rw [← hw1]; simp
  rw [hw1]
  have h2 := Blk.new w1 88 [.slice (some ⟨w.heap.size, 0, none⟩) 8 8, .slice none 0 0, .int .i64 0, .bool false, .int .i64 0, .slice none 0 0]
  have k2 : Keeps (fun _ => False) w1 (w1.alloc (.cells #[.slice (some ⟨w.heap.size, 0, none⟩) 8 8, .slice none 0 0, .int .i64 0, .bool false, .int .i64 0, .slice none 0 0] 88)) := (Keeps.refl (fun _ => False) w1).alloc _
  have hx0 : ∀ g, (Value.slice (some ⟨w.heap.size, 0, none⟩) 8 8).ownBlock = some g → ¬ Others.X g := fun g hg hx => by
    have e : some w.heap.size = some g := hg
    have e := Option.some.inj e
    have := hX g hx
    omega
  refine ⟨RMem.rep ⟨⟨_, _, _, ⟨by rw [← hsz]; exact h2, ⟨strs8_own hB (k2.blk h1 (fun h => h)), hx0, fun g hg => Nat.lt_of_lt_of_le (Nat.lt_of_lt_of_le (hX g hg) k1.size) k2.size⟩, ⟨.inl ⟨rfl, none, rfl⟩⟩, ⟨.inl ⟨rfl, .inl rfl⟩⟩⟩⟩, by omega⟩ Ok.new Rd.new, k1.trans k2⟩

set_option maxHeartbeats 4000000 in
set_option maxRecDepth 100000 in
theorem rnew_any (w : World) (B : Nat) (hX : ∀ g, Others.X g → g < w.heap.size) (hB : B ≤ w.heap.size) :
    Calls Try.prog 20 #[] w fun e w' => ∃ E, e = .returned (.pointer (some ⟨E, 0, none⟩)) ∧ RRep w' B E newS ∧ Keeps (fun _ => False) w w' := by
  have hm := rmake_8
  have HE := Hd.mk (new_end w B hX hB)
  clear hB hX
  go_enter Try.func20, Try.ntmps20
  go_wp2
  go_ret
  exact ⟨_, rfl, HE.out⟩

/-- what each operation of Copy yields -/
def CopyR (σ : St) (B : Nat) : Nat → Value → World → Prop
  | 0, v, w => B ≤ w.heap.size ∧ ∃ p, v = .slice p 0 0 ∧ w.ownsRow B 9 1 v 0 []
  | 5, v, w => ∃ p c, v = .slice p 8 c ∧ Own w B 9 v (σ.lasts.map strV)
  | 6, v, w => B ≤ w.heap.size ∧ ∃ p, v = .slice p 0 0 ∧ w.ownsRow B 109 3 v 0 []
  | 11, v, w => ∃ p c, v = .slice p σ.queue.length c ∧ PRow w B v σ.queue
  | 24, v, w => ∃ p, v = .slice p 0 0 ∧ w.ownsRow 0 3 1 v 0 []
  | 29, v, w => ∃ p c, v = .slice p σ.keep.length c ∧ IRow w v σ.keep
  | 30, v, w => B ≤ w.heap.size ∧ ∃ v5 v11 v29, v = .agg #[v5, v11, .int .i64 σ.lost, .bool σ.down, .int .i64 σ.armed, v29] ∧ Own w B 9 v5 (σ.lasts.map strV) ∧ PRow w B v11 σ.queue ∧ IRow w v29 σ.keep
  | 31, v, w => ∃ E, v = .pointer (some ⟨E, 0, none⟩) ∧ RRep w B E σ
  | 32, v, w => ∃ E, v = .pointer (some ⟨E, 0, none⟩) ∧ RRep w B E σ
  | _, _, _ => True
theorem CopyR.keep {σ : St} {B : Nat} : ∀ i v w w', CopyR σ B i v w → Keeps (fun _ => False) w w' → CopyR σ B i v w' := by
  intro i v w w' h k
  have s := k.size
  unfold CopyR at h ⊢
  split at h
  · obtain ⟨h0, p, e, h⟩ := h; exact ⟨by omega, p, e, row_keeps h k⟩
  · obtain ⟨p, c, e, h⟩ := h; exact ⟨p, c, e, h.keeps k (fun _ _ h => h)⟩
  · obtain ⟨h0, p, e, h⟩ := h; exact ⟨by omega, p, e, row_keeps h k⟩
  · obtain ⟨p, c, e, h⟩ := h; exact ⟨p, c, e, h.keeps k (fun _ _ _ _ h => h)⟩
  · obtain ⟨p, e, h⟩ := h; exact ⟨p, e, row_keeps h k⟩
  · obtain ⟨p, c, e, h⟩ := h; exact ⟨p, c, e, h.keeps k (fun _ _ _ _ h => h)⟩
  · obtain ⟨h0, a, b, c, e, h1, h2, h3⟩ := h; exact ⟨by omega, a, b, c, e, h1.keeps k (fun _ _ h => h), h2.keeps k (fun _ _ _ _ h => h), h3.keeps k (fun _ _ _ _ h => h)⟩
  · obtain ⟨E, e, h⟩ := h; exact ⟨E, e, h.next k⟩
  · obtain ⟨E, e, h⟩ := h; exact ⟨E, e, h.next k⟩
  · trivial

end
end Go.Proofs.Ytmcdfhihfcfbaaa.W

namespace Go.Proofs.Ytmcdfhihfcfbaaa.W
open Go.RowKit
set_option linter.unusedVariables false
section
variable [Others]

end
theorem Rep.typR {w : World} {D : Nat} {σ : St} {O : Option Nat} (h : Rep w D σ O) {g : Nat} (hg : g = D ∨ O = some g) : ∃ cur fz T, w.heap[g]? = some (.cells cur T fz) ∧ (T = 70 ∨ T = 91) := by
  obtain ⟨qv, kv, hb, hq, hk⟩ := h.is
  rcases hg with rfl | hO
  · exact ⟨_, _, _, hb.is, .inl rfl⟩
  · rcases hq.is with ⟨h0, _⟩ | ⟨g', hO', hv, hrow⟩
    · rw [h0] at hO; cases hO
    · rw [hO'] at hO
      cases hO
      rcases hrow.2 with ⟨rfl, _⟩ | ⟨b, cap, cur', rfl, hB, hg', r⟩
      · cases hv
      · have hbg : b = g := by simpa [Value.ownBlock] using hv
        subst hbg
        exact ⟨_, _, _, hg', .inr rfl⟩
theorem Rep.not_typR {w : World} {D : Nat} {σ : St} {O : Option Nat} (h : Rep w D σ O) {g : Nat} {cur : Array Value} {T : TypeId} {fz : Nat × Nat} (hb : w.heap[g]? = some (.cells cur T fz)) (h1 : T ≠ 70) (h2 : T ≠ 91) : ¬ (g = D ∨ O = some g) := fun hg => by
  obtain ⟨cur', fz', T', h3, h4⟩ := h.typR hg
  rw [hb] at h3
  injection h3 with h3; injection h3 with _ h5 _
  rcases h4 with h4 | h4
  · exact h1 (h5.trans h4)
  · exact h2 (h5.trans h4)
section
variable [Others]
/-- the reference's disk outlasts what is done to blocks of other types -/
theorem RRep.keepsT {S : Nat → Prop} {w w' : World} {B E : Nat} {σ : St} (h : RRep w B E σ) (k : Keeps S w w') (hs : ∀ g cur fz T, w.heap[g]? = some (.cells cur T fz) → (T = 88 ∨ T = 9 ∨ T = 109 ∨ T = 3) → ¬ S g) : RRep w' B E σ := by
  obtain ⟨lv, qv, kv, hc⟩ := h.cells
  have hc' := hc.keeps k (hs _ _ _ _ hc.b.is (.inl rfl)) (fun g hg => ?_) (fun g cur fz hg => hs g cur fz _ hg (.inr (.inr (.inl rfl)))) (fun g cur fz hg => hs g cur fz _ hg (.inr (.inr (.inr rfl))))
  · exact RMem.rep ⟨⟨lv, qv, kv, hc'⟩, h.ge⟩ h.ok h.rd
  · rcases hc.l.o.is with ⟨rfl, _⟩ | ⟨g', cap, rfl, _, _, _, ⟨cur, fz, hg', _⟩, _⟩
    · cases hg
    · have : g' = g := by simpa [Value.ownBlock] using hg
      subst this
      exact hs _ _ _ _ hg' (.inr (.inl rfl))

theorem One.runR {B w : World} {D b E : Nat} {σ σ' τ : St} {f : FuncId} {args : Array Value} {val : Value} (h : One B w D σ) (hr : RRep w b E τ) (hc : OpC w f args D σ σ' val) : Calls Try.prog f args w fun e w' => e = .returned val ∧ One B w' D σ' ∧ RRep w' b E τ := by
  obtain ⟨O, h1, hO⟩ := h.is
  refine (hc.run O h1).mono fun e w' ⟨he, O', hr', hO', k⟩ => ⟨he, One.op h.below h.ge hO hr' hO' k, hr.keepsT k (fun g cur fz T hg hT => ?_)⟩
  rcases hT with rfl | rfl | rfl | rfl <;> exact h1.not_typR hg (by decide) (by decide)
theorem Two.runR {B w : World} {D C b E : Nat} {σ σ' ρ τ : St} {f : FuncId} {args : Array Value} {val : Value} (h : Two B w D C σ ρ) (hr : RRep w b E τ) (hc : OpC w f args D σ σ' val) : Calls Try.prog f args w fun e w' => e = .returned val ∧ Two B w' D C σ' ρ ∧ RRep w' b E τ := by
  obtain ⟨O, P, h1, h2, h3, h4, h5, h6, h7⟩ := h.is
  have hl := h1.lt
  have hb := h.below
  refine (hc.run O h1).mono fun e w' ⟨he, O', hr', hO', k⟩ => ⟨he, ?_, hr.keepsT k (fun g cur fz T hg hT => ?_)⟩
  · have h1' := One.op h.below h.ge h3 hr' hO' k
    have hlE := h2.lt
    have h2' : Rep w' C ρ P := h2.keeps k (fun e => e.elim (fun e => h.ne e.symm) h5) (fun g hg e => e.elim (fun e => h6 (e ▸ hg)) (fun e => h7 g e hg)) (fun g cur fz hg e => h1.notInt g cur fz hg e)
    refine ⟨⟨O', P, hr', h2', fun g hg => (hO' g hg).elim (h3 g) (Nat.le_trans hb.size), h4, fun e => ?_, h6, fun g a b => ?_⟩, h.ne, h1'.below, h.ge, h.ge'⟩
    · rcases hO' C e with e | e
      · exact h5 e
      · exact Nat.lt_irrefl _ (Nat.lt_of_lt_of_le hlE e)
    · rcases hO' g a with e | e
      · exact h7 g e b
      · exact Nat.lt_irrefl _ (Nat.lt_of_lt_of_le (h2.ltO b) e)
  · rcases hT with rfl | rfl | rfl | rfl <;> exact h1.not_typR hg (by decide) (by decide)

theorem RS.not_typ {w : World} {B : Nat} {g : Nat} {cur : Array Value} {T : TypeId} {fz : Nat × Nat} (hb : w.heap[g]? = some (.cells cur T fz)) (h1 : T ≠ 88) (h2 : T ≠ 9) (h3 : T ≠ 109) : ¬ RS w B g := fun ⟨_, cur', fz', T', h, h'⟩ => by
  rw [hb] at h
  injection h with h; injection h with _ h _
  rcases h' with h' | h' | h'
  · exact h1 (h.trans h')
  · exact h2 (h.trans h'.1)
  · exact h3 (h.trans h')
theorem One.rk {B w w' : World} {D : Nat} {σ : St} (h : One B w D σ) (k : RK B.heap.size w w') : One B w' D σ := by
  obtain ⟨O, hr, hO⟩ := h.is
  have hn : ∀ g, (g = D ∨ O = some g) → ¬ RS w B.heap.size g := fun g hg => by
    obtain ⟨cur, fz, T, hc, hT⟩ := hr.typR hg
    rcases hT with rfl | rfl <;> exact RS.not_typ hc (by decide) (by decide) (by decide)
  exact ⟨⟨O, hr.keeps k.k (hn D (.inl rfl)) (fun g hg => hn g (.inr hg)) (fun g cur fz hg => RS.not_typ hg (by decide) (by decide) (by decide)), hO⟩, h.below.trans (k.k.below h.below.size (fun g hg hs => by have := hs.1; omega)), h.ge⟩

end
end Go.Proofs.Ytmcdfhihfcfbaaa.W
