/-
  DiskTells: a file made durable in the reference's memory; the walk of Flush.
-/
import Derived.Test.YtcleocgaooblfaaRf8
namespace Go.Proofs.Ytcleocgaooblfaa.W
open Go.RowKit
set_option linter.unusedVariables false

theorem RCells.setLast {w : World} {B E : Nat} {σ : St} {g c : Nat} {qv kv : Value} (hc : RCells w B E σ (.slice (some ⟨g, 0, none⟩) 8 c) qv kv) (h8 : σ.lasts.length = 8) {F : Nat} (hF : F < 8) (s : List UInt8) :
    RCells (w.setCell ⟨g, F, none⟩ (strV s)) B E { σ with lasts := σ.lasts.set F s } (.slice (some ⟨g, 0, none⟩) 8 c) qv kv ∧ RK B w (w.setCell ⟨g, F, none⟩ (strV s)) := by
  have hl := hc.l
  have hg : B ≤ g ∧ ∃ cur fz, w.heap[g]? = some (.cells cur 9 fz) := by
    refine ⟨(hl.lt rfl).1, ?_⟩
    rcases hl.is with ⟨e, _⟩ | ⟨g', cap, e, _, _, _, ⟨cur, fz, hg', _⟩, _⟩
    · cases e
    · injection e with e1 _ _; injection e1 with e1; injection e1 with e1 _ _
      subst e1
      exact ⟨cur, fz, hg'⟩
  obtain ⟨hB, cur, fz, hgt⟩ := hg
  have k : Keeps (· = g) w (w.setCell ⟨g, F, none⟩ (strV s)) := (Keeps.refl (· = g) w).setCell (p := ⟨g, F, none⟩) (.inr rfl) _
  have hne : ∀ {b : Nat} {cur' : Array Value} {T : TypeId} {fz' : Nat × Nat}, w.heap[b]? = some (.cells cur' T fz') → T ≠ 9 → ¬ b = g := fun hb hT e => by
    subst e
    rw [hgt] at hb
    injection hb with hb; injection hb with _ h2 _
    exact hT h2.symm
  refine ⟨⟨k.blk hc.b (hne hc.b.is (by decide)), ?_, hc.q.keeps k (fun b cur' fz' hb => hne hb (by decide)), hc.k.keeps k (fun b cur' fz' hb => hne hb (by decide))⟩, ⟨(Keeps.refl (RS w B) w).setCell (p := ⟨g, F, none⟩) (.inr ⟨hB, cur, fz, _, hgt, .inr (.inl rfl)⟩) _⟩⟩
  have := hl.set F (by rw [List.length_map, h8]; exact hF) (strV s)
  rw [← List.map_set] at this
  exact this

/-- the queue without a file's pieces, put in place -/
theorem settle_end {w2 w3 : World} {B E : Nat} {τ : St} {lv qv kv v' : Value} {F : Nat} {s : List UInt8} (hr : Rd τ) (ok : Ok τ) (hF : F < 8) (hs : s.length ≤ 16777216) (hE : B ≤ E) (hB : B ≤ w2.heap.size)
    (hc : RCells w2 B E { τ with lasts := τ.lasts.set F s } lv qv kv) (hp : PRow w3 w2.heap.size v' (otherQ τ.queue F)) (k : Keeps (fun _ => False) w2 w3) :
    RRep (w3.setCell ⟨E, 1, none⟩ v') B E (settleS τ F s) ∧ RK B w2 (w3.setCell ⟨E, 1, none⟩ v') ∧ w3.cell? ⟨E, 1, none⟩ = some qv ∧ w3.frozen? ⟨E, 1, none⟩ = false ∧ ∃ p n c, v' = .slice p n c := by
  have hc3 := hc.keeps k (fun h => h) (fun _ _ h => h) (fun _ _ _ _ h => h) (fun _ _ _ _ h => h)
  have hput := hc3.put (σ' := { τ with lasts := τ.lasts.set F s, queue := otherQ τ.queue F }) (lv' := lv) (qv' := v') (j := 1) (u := v') hc3.l (hp.base hB) rfl rfl
  obtain ⟨p', c', e⟩ := hp.slice
  exact ⟨RMem.rep (σ := settleS τ F s) ⟨⟨lv, v', kv, ⟨hput.b, hput.l, hput.q, hput.k⟩⟩, hE⟩ (ok.settle F hs) (hr.settle ok hF s), (RK.of k).trans (RK.set hc3.b hE (.inl rfl) 1 v'), hc3.b.at (j := 1) rfl, hc3.b.free 1, p', _, c', e⟩

set_option maxHeartbeats 4000000 in
set_option maxRecDepth 100000 in
theorem rflush_any (w : World) (B E : Nat) (σ : St) (f : Int) (hB : B ≤ w.heap.size) (hlen : σ.queue.length ≤ 1000000000) (ha : σ.armed ≤ 9223372036854775807) (hkk : σ.keep.length ≤ 1000000000) (hlo : σ.lost ≤ 9223372036854775807) (h : RRep w B E σ) :
    Calls Try.prog 48 #[.pointer (some ⟨E, 0, none⟩), .int .i64 f] w fun e w' => e = .returned (.int .i64 (FlushE σ f : Nat)) ∧ RRep w' B E (FlushS σ f) ∧ RK B w w' := by
  have HC := Hd.mk (rcomes_any w B E σ 0 0 ⟨#[]⟩ hB (by show σ.queue.length + 0 ≤ _; omega) ha hkk (by decide) h)
  rw [show (⟨#[]⟩ : ByteArray).data.toList = [] from rfl, comS_head] at HC
  unfold FlushE FlushS
  have hq : (headS σ).queue.length ≤ 1000000000 := by
    unfold headS; split
    · unfold crashS; split
      · rw [endsS_queue]; exact hlen
      · exact Nat.zero_le _
    · rw [endsS_queue]; exact hlen
  have hlo2 : (headS σ).lost ≤ 9223372036854775807 := by
    have : (headS σ).lost = σ.lost := by
      unfold headS crashS endsS; split <;> (try split) <;> (try split) <;> rfl
    rw [this]; exact hlo
  obtain ⟨τ, hτ⟩ : ∃ τ, headS σ = τ := ⟨_, rfl⟩
  rw [hτ] at HC hq hlo2 ⊢
  have HM := fun w (h : RRep w B E τ) => Hd.mk (rmay_any w B E τ f h)
  clear hτ h
  by_cases hm : mayS τ f = 0
  · obtain ⟨hdn, m0, m8⟩ := may_zero hm
    obtain ⟨F, rfl⟩ := Int.eq_ofNat_of_zero_le m0
    rw [hm] at HM
    by_cases hl : 0 < τ.lost
    · have e1 : flushE τ F = 12 := by unfold flushE; rw [if_neg (by omega), if_pos hl]
      have e2 : flushS τ F = { τ with lost := τ.lost - 1 } := by unfold flushS; rw [if_neg (by omega), if_pos hl]
      rw [e1, e2]
      have HPut : Hd (∀ w (h : RRep w B E τ), RRep (w.setCell ⟨E, 2, none⟩ (.int .i64 ((τ.lost : Int) - 1))) B E { τ with lost := τ.lost - 1 } ∧ RK B w (w.setCell ⟨E, 2, none⟩ (.int .i64 ((τ.lost : Int) - 1))) ∧ w.cell? ⟨E, 2, none⟩ = some (.int .i64 τ.lost) ∧ w.frozen? ⟨E, 2, none⟩ = false) := ⟨fun w h => by
        have hp := h.put (σ' := { τ with lost := τ.lost - 1 }) (j := 2) (u := .int .i64 ((τ.lost : Int) - 1)) rfl rfl rfl ⟨h.ok.l8, h.ok.f8, h.ok.ll, h.ok.fl, h.ok.q⟩ ⟨h.rd.eq⟩ (fun _ _ _ => by rw [show (τ.lost : Int) - 1 = ((τ.lost - 1 : Nat) : Int) by omega]; rfl)
        obtain ⟨lv, qv, kv, hc⟩ := h.cells
        exact ⟨hp.1, hp.2, hc.b.at (j := 2) rfl, hc.b.free 2⟩⟩
      have rw1 : IntKind.i64.wrap ((τ.lost : Int) - 1) = (τ.lost : Int) - 1 := IntWalk.i64_in _ (by omega)
      have hgt : decide ((0 : Int) < (τ.lost : Int)) = true := by simp; omega
      clear hm m0 m8 hdn e1 e2
      go_enter Try.func48, Try.ntmps48
      go_wp2_with fail
      refine HC.out.mono ?_
      rintro e w1 ⟨rfl, hr, hk⟩
      have HR := Hd.mk hr
      have HK := Hd.mk hk
      clear hr hk
      go_wp2_with fail
      refine (HM _ HR.out).out.mono ?_
      rintro e w2 ⟨rfl, rfl⟩
      obtain ⟨p1, p2, c2, f2⟩ := HPut.out w1 HR.out
      have HP := Hd.mk (And.intro p1 p2)
      clear p1 p2
      go_wp2
      go_ret
      exact ⟨rfl, HP.out.1, HK.out.trans HP.out.2⟩
    · have hl0 : τ.lost = 0 := by omega
      have e1 : flushE τ F = 0 := by unfold flushE; rw [if_neg (by omega), if_neg hl]
      have e2 : flushS τ F = settleS τ F (τ.files.getD F []) := by unfold flushS; rw [if_neg (by omega), if_neg hl]; rfl
      rw [e1, e2]
      have hF8 : F < 8 := by omega
      obtain ⟨s, hs⟩ := bytesOf (τ.files.getD F [])
      have HRead := fun w (h : RRep w B E τ) => Hd.mk (rread_file w B E τ F hF8 hq h)
      rw [hs, strV_of] at HRead
      rw [hs]
      have HS : Hd (∀ w, RRep w B E τ → s.data.toList.length ≤ 16777216) := ⟨fun w h => by rw [← hs]; exact getD_le h.ok.fl F⟩
      have f0 : (0 : Int) ≤ (F : Int) := by omega
      have f8 : (F : Int) < 8 := by omega
      have HQ := Hd.mk (And.intro hq hF8)
      have HB := Hd.mk hB
      have HL0 := Hd.mk hl0
      clear hm m0 m8 hdn e1 e2 hs hl hl0 hF8 hq hB
      go_enter Try.func48, Try.ntmps48
      go_wp2_with fail
      refine HC.out.mono ?_
      rintro e w1 ⟨rfl, hr, hk⟩
      have HR := Hd.mk hr
      have HK := Hd.mk hk
      obtain ⟨lv, qv, kv, hc⟩ := hr.cells
      obtain ⟨gl, cl, rfl, hl1, hl2⟩ := last_cell hc.l hr.ok HQ.out.2
      have c0 := hc.b.at (j := 0) rfl
      have c2 := hc.b.at (j := 2) rfl
      rw [HL0.out] at c2
      have HCc := Hd.mk hc
      clear hr hk hc
      go_wp2_with fail
      refine (HM _ HR.out).out.mono ?_
      rintro e w2 ⟨rfl, rfl⟩
      go_wp2_with fail
      refine wp_region_lin default (fun w' => w'.cell? ⟨E, 0, none⟩ = some (.slice (some ⟨gl, 0, none⟩) 8 cl) ∧ w'.frozen? ⟨gl, F, none⟩ = false ∧ ∃ y, w'.cell? ⟨gl, F, none⟩ = some y) [(0, true), (1, true), (2, true), (3, true), (4, true), (5, true), (6, true), (7, false), (8, true), (9, false)] (by kernel_rfl) (by kernel_rfl) rfl (by kernel_rfl) (by kernel_rfl) ⟨c0, hl2, _, hl1⟩ ?_
      simp only [pick, List.getD_cons_zero, List.getD_cons_succ]
      repeat
        refine lin_free (v := ?_) (by rfl) ?_ ?_
        rotate_left
        · intro w' hSw
          obtain ⟨d0, d1, y, d2⟩ := hSw
          go_simp
          first | done | with_reducible rfl
        simp only [Act.put, List.setIfInBounds_toArray, List.set_cons_zero, List.set_cons_succ]
      refine lin_bound (fun K hK => ?_)
      go_simp
      refine (HRead _ (HR.out.next (Keeps.refl _ _).drew)).out.mono ?_
      rintro e w5 ⟨rfl, k5⟩
      dsimp only
      have HK5 : Hd (Keeps (fun _ => False) w1 w5) := ⟨(Keeps.refl _ w1).drew.trans k5⟩
      have hc5 := HCc.out.keeps HK5.out (fun h => h) (fun _ _ h => h) (fun _ _ _ _ h => h) (fun _ _ _ _ h => h)
      obtain ⟨hcl, hfr⟩ := hc5.l.at (j := F) (u := strV (τ.lasts.getD F [])) (by rw [List.getElem?_map, List.getElem?_eq_getElem (by rw [HR.out.ok.l8]; exact HQ.out.2), List.getD_eq_getElem?_getD, List.getElem?_eq_getElem (by rw [HR.out.ok.l8]; exact HQ.out.2)]; rfl)
      have hset := hc5.setLast HR.out.ok.l8 HQ.out.2 s.data.toList
      have HSet := Hd.mk hset
      have HC5 := Hd.mk hc5
      refine hK.out _ _ ⟨hc5.b.at (j := 0) rfl, hfr, _, hcl⟩ ?_
      clear hK K k5 hc5 hset c0 hl1 hl2
      repeat
        refine lin_free (v := ?_) (by rfl) ?_ ?_
        rotate_left
        · intro w' hSw
          obtain ⟨d0, d1, y, d2⟩ := hSw
          go_simp
          first | done | with_reducible rfl
        simp only [Act.put, List.setIfInBounds_toArray, List.set_cons_zero, List.set_cons_succ]
      refine lin_bound (fun K hK => ?_)
      go_simp
      have hfr6 : (w5.setCell ⟨gl, F, none⟩ (.string s)).frozen? ⟨gl, F, none⟩ = false := by simpa using hfr
      have hcl6 : (w5.setCell ⟨gl, F, none⟩ (.string s)).cell? ⟨gl, F, none⟩ = some (.string s) := World.cell?_setCell_same _ _ _ hcl
      have hb6 : (w5.setCell ⟨gl, F, none⟩ (.string s)).cell? ⟨E, 0, none⟩ = some (.slice (some ⟨gl, 0, none⟩) 8 cl) := HSet.out.1.b.at (j := 0) rfl
      refine hK.out _ _ ⟨hb6, hfr6, _, hcl6⟩ ?_
      clear hK K hcl hfr hfr6 hcl6 hb6
      refine NoPanic.normal ?_
      obtain ⟨w6, hw6⟩ : ∃ w6, w5.setCell ⟨gl, F, none⟩ (.string s) = w6 := ⟨_, rfl⟩
      have HS6 : Hd (RCells w6 B E { τ with lasts := τ.lasts.set F s.data.toList } (.slice (some ⟨gl, 0, none⟩) 8 cl) qv kv ∧ RK B w5 w6) := ⟨by rw [← hw6]; exact HSet.out⟩
      rw [hw6]
      clear hw6 HSet HC5
      go_wp2_with fail
      refine (rwithout_any w6 B E { τ with lasts := τ.lasts.set F s.data.toList } F HQ.out.1 HS6.out.1).mono ?_
      rintro e w7 ⟨v7, rfl, hp7, k7⟩
      obtain ⟨hr8, hk8, c1, f1, pv, nv, cv, rfl⟩ := settle_end HR.out.rd HR.out.ok HQ.out.2 (HS.out _ HR.out) HR.out.ge (Nat.le_trans (Nat.le_trans (Nat.le_trans HB.out HK.out.k.size) HK5.out.size) HS6.out.2.k.size) HS6.out.1 hp7 k7
      have HR8 := Hd.mk hr8
      have HK8 := Hd.mk (((HK.out.trans (RK.of HK5.out)).trans HS6.out.2).trans hk8)
      clear hp7 k7 hr8 hk8
      go_wp2
      go_ret
      exact ⟨rfl, HR8.out, HK8.out⟩
  · have hout : flushE τ f = mayS τ f ∧ flushS τ f = τ := ⟨by unfold flushE; rw [if_pos hm], by unfold flushS; rw [if_pos hm]⟩
    rw [hout.1, hout.2]
    obtain ⟨m, hmm⟩ : ∃ m, mayS τ f = m := ⟨_, rfl⟩
    rw [hmm] at HM hm ⊢
    have m1 : ((m : Int) != 0) = true := by simp; omega
    clear hout hmm hm
    go_enter Try.func48, Try.ntmps48
    go_wp2_with fail
    refine HC.out.mono ?_
    rintro e w1 ⟨rfl, hr, hk⟩
    have HR := Hd.mk hr
    have HK := Hd.mk hk
    clear hr hk
    go_wp2_with fail
    refine (HM _ HR.out).out.mono ?_
    rintro e w2 ⟨rfl, rfl⟩
    go_wp2
    go_ret
    exact ⟨rfl, HR.out, HK.out⟩

end Go.Proofs.Ytcleocgaooblfaa.W
