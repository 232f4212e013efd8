/-
  DiskTells: the walk of the reference's Cut.
-/
import Derived.Test.YtcleocgaooblfaaRf9
namespace Go.Proofs.Ytcleocgaooblfaa.W
open Go.RowKit
set_option linter.unusedVariables false

theorem head_queue {σ : St} (hlen : σ.queue.length ≤ 1000000000) : (headS σ).queue.length ≤ 1000000000 := by
  unfold headS; split
  · unfold crashS; split
    · rw [endsS_queue]; exact hlen
    · exact Nat.zero_le _
  · rw [endsS_queue]; exact hlen

set_option maxHeartbeats 4000000 in
set_option maxRecDepth 100000 in
theorem rcut_any (w : World) (B E : Nat) (σ : St) (f n : Int) (hB : B ≤ w.heap.size) (hlen : σ.queue.length ≤ 1000000000) (ha : σ.armed ≤ 9223372036854775807) (hkk : σ.keep.length ≤ 1000000000) (h : RRep w B E σ) :
    Calls Try.prog 49 #[.pointer (some ⟨E, 0, none⟩), .int .i64 f, .int .i64 n] w fun e w' => e = .returned (.int .i64 (CutE σ f n : Nat)) ∧ RRep w' B E (CutS σ f n) ∧ RK B w w' := by
  have HC := Hd.mk (rcomes_any w B E σ 0 0 ⟨#[]⟩ hB (by show σ.queue.length + 0 ≤ _; omega) ha hkk (by decide) h)
  rw [show (⟨#[]⟩ : ByteArray).data.toList = [] from rfl, comS_head] at HC
  unfold CutE CutS
  have hq := head_queue hlen
  obtain ⟨τ, hτ⟩ : ∃ τ, headS σ = τ := ⟨_, rfl⟩
  rw [hτ] at HC hq ⊢
  have HM := fun w (h : RRep w B E τ) => Hd.mk (rmay_any w B E τ f h)
  clear hτ h
  by_cases hm : mayS τ f = 0
  · obtain ⟨hdn, m0, m8⟩ := may_zero hm
    obtain ⟨F, rfl⟩ := Int.eq_ofNat_of_zero_le m0
    rw [hm] at HM
    have hF8 : F < 8 := by omega
    have hsz : sizeS τ F = (τ.files.getD F []).length := by unfold sizeS; rw [show isF (F : Int) = true by unfold isF; exact decide_eq_true (by omega)]; rfl
    obtain ⟨s, hs⟩ := bytesOf (τ.files.getD F [])
    have HRead := fun w (h : RRep w B E τ) => Hd.mk (rread_file w B E τ F hF8 hq h)
    rw [hs, strV_of] at HRead
    have hsl : s.data.toList.length = s.size := rfl
    rw [hs, hsl] at hsz
    by_cases hn : n < 0 ∨ (s.size : Int) < n
    · have e1 : cutE τ F n = 1 := by unfold cutE; rw [if_neg (by omega), if_pos (by rw [hsz]; omega)]
      have e2 : cutS τ F n = τ := by unfold cutS; rw [if_neg (by rw [e1]; decide)]
      rw [e1, e2]
      have hcs : decide (n < 0) = true ∨ (decide (n < 0) = false ∧ decide ((s.size : Int) < n) = true) := by
        by_cases h0 : n < 0
        · left; simp [h0]
        · right; exact ⟨by simp; omega, by simp; omega⟩
      clear hm m0 m8 hdn e1 e2 hs hn hsz hsl
      rcases hcs with h1 | ⟨h1, h2⟩
      all_goals
        go_enter Try.func49, Try.ntmps49
        go_wp2_with fail
        refine HC.out.mono ?_
        rintro e w1 ⟨rfl, hr, hk⟩
        have HR := Hd.mk hr
        have HK := Hd.mk hk
        clear hr hk
        go_wp2_with fail
        refine (HM _ HR.out).out.mono ?_
        rintro e w2 ⟨rfl, rfl⟩
        go_wp2_with fail
        refine (HRead _ HR.out).out.mono ?_
        rintro e w2 ⟨rfl, k2⟩
        have HR2 := Hd.mk (HR.out.next k2)
        have HK2 := Hd.mk (HK.out.trans (RK.of k2))
        clear k2
        go_wp2
        go_ret
        exact ⟨rfl, HR2.out, HK2.out⟩
    · obtain ⟨m, rfl⟩ := Int.eq_ofNat_of_zero_le (by omega : 0 ≤ n)
      have hms : m ≤ s.size := by omega
      have e1 : cutE τ F m = 0 := by unfold cutE; rw [if_neg (by omega), if_neg (by rw [hsz]; omega)]
      obtain ⟨t, ht⟩ : ∃ t, s.extract 0 m = t := ⟨_, rfl⟩
      have htl : t.data.toList = s.data.toList.take m := by rw [← ht, Lib.extract_data, List.drop_zero, Nat.sub_zero]
      have e2 : cutS τ F m = settleS τ F t.data.toList := by
        unfold cutS; rw [if_pos e1, htl]
        show settleS τ F ((τ.files.getD F []).take m) = _
        rw [hs]
      rw [e1, e2]
      have HS : Hd (∀ w, RRep w B E τ → t.data.toList.length ≤ 16777216) := ⟨fun w h => by
        have := getD_le h.ok.fl F
        rw [hs] at this
        rw [htl, List.length_take]; omega⟩
      have f0 : (0 : Int) ≤ (F : Int) := by omega
      have f8 : (F : Int) < 8 := by omega
      have h1 : decide ((m : Int) < 0) = false := by simp
      have h2 : decide ((s.size : Int) < (m : Int)) = false := by simp; omega
      have h3 : ¬ s.size < m := by omega
      have h4 : (m : Int) ≤ (s.size : Int) := by omega
      have HQ := Hd.mk (And.intro hq hF8)
      have HB := Hd.mk hB
      clear hm m0 m8 hdn e1 e2 hs hn hsz hsl htl hF8 hq hB
      go_enter Try.func49, Try.ntmps49
      go_wp2_with fail
      refine HC.out.mono ?_
      rintro e w1 ⟨rfl, hr, hk⟩
      have HR := Hd.mk hr
      have HK := Hd.mk hk
      clear hr hk
      go_wp2_with fail
      refine (HM _ HR.out).out.mono ?_
      rintro e w2 ⟨rfl, rfl⟩
      go_wp2_with fail
      refine (HRead _ HR.out).out.mono ?_
      rintro e w2 ⟨rfl, k2⟩
      have HR2 := Hd.mk (HR.out.next k2)
      have HK2 := Hd.mk (HK.out.trans (RK.of k2))
      clear k2
      obtain ⟨lv, qv, kv, hc⟩ := HR2.out.cells
      obtain ⟨gl, cl, rfl, hl1, hl2⟩ := last_cell hc.l HR2.out.ok HQ.out.2
      have c0 := hc.b.at (j := 0) rfl
      have hset := hc.setLast HR2.out.ok.l8 HQ.out.2 t.data.toList
      have HSet := Hd.mk hset
      clear hc hset
      go_wp2_with fail
      refine wp_region_lin default (fun w' => w'.cell? ⟨E, 0, none⟩ = some (.slice (some ⟨gl, 0, none⟩) 8 cl) ∧ w'.frozen? ⟨gl, F, none⟩ = false ∧ ∃ y, w'.cell? ⟨gl, F, none⟩ = some y) [(0, true), (1, true), (2, true), (3, true), (4, true), (5, true), (6, true), (7, true), (8, true), (9, false)] (by kernel_rfl) (by kernel_rfl) rfl (by kernel_rfl) (by kernel_rfl) ⟨c0, hl2, _, hl1⟩ ?_
      simp only [pick, List.getD_cons_zero, List.getD_cons_succ]
      repeat
        refine lin_free (v := ?_) (by rfl) ?_ ?_
        rotate_left
        · intro w' hSw
          obtain ⟨d0, d1, y, d2⟩ := hSw
          go_simp
          first | done | with_reducible rfl
        simp only [Act.put, List.setIfInBounds_toArray, List.set_cons_zero, List.set_cons_succ]
      refine lin_bound (fun K hK => ?_)
      go_simp
      have hfr6 : (w2.setCell ⟨gl, F, none⟩ (.string t)).frozen? ⟨gl, F, none⟩ = false := by simpa using hl2
      have hcl6 : (w2.setCell ⟨gl, F, none⟩ (.string t)).cell? ⟨gl, F, none⟩ = some (.string t) := World.cell?_setCell_same _ _ _ hl1
      have hb6 : (w2.setCell ⟨gl, F, none⟩ (.string t)).cell? ⟨E, 0, none⟩ = some (.slice (some ⟨gl, 0, none⟩) 8 cl) := HSet.out.1.b.at (j := 0) rfl
      refine hK.out _ _ ⟨hb6, hfr6, _, hcl6⟩ ?_
      clear hK K hfr6 hcl6 hb6 hl1 hl2 c0
      refine NoPanic.normal ?_
      obtain ⟨w6, hw6⟩ : ∃ w6, (w2.setCell ⟨gl, F, none⟩ (.string t)).drew = w6 := ⟨_, rfl⟩
      have HS6 : Hd (RCells w6 B E { τ with lasts := τ.lasts.set F t.data.toList } (.slice (some ⟨gl, 0, none⟩) 8 cl) qv kv ∧ RK B w2 w6) := ⟨by
        rw [← hw6]
        exact ⟨HSet.out.1.keeps ((Keeps.refl (fun _ => False) _).drew) (fun h => h) (fun _ _ h => h) (fun _ _ _ _ h => h) (fun _ _ _ _ h => h), HSet.out.2.trans (RK.of (Keeps.refl _ _).drew)⟩⟩
      rw [hw6]
      clear hw6 HSet
      go_wp2_with fail
      refine (rwithout_any w6 B E { τ with lasts := τ.lasts.set F t.data.toList } F HQ.out.1 HS6.out.1).mono ?_
      rintro e w7 ⟨v7, rfl, hp7, k7⟩
      obtain ⟨hr8, hk8, c1, f1, pv, nv, cv, rfl⟩ := settle_end HR2.out.rd HR2.out.ok HQ.out.2 (HS.out _ HR2.out) HR2.out.ge (Nat.le_trans (Nat.le_trans HB.out HK2.out.k.size) HS6.out.2.k.size) HS6.out.1 hp7 k7
      have HR8 := Hd.mk hr8
      have HK8 := Hd.mk ((HK2.out.trans HS6.out.2).trans hk8)
      clear hp7 k7 hr8 hk8
      go_wp2
      go_ret
      exact ⟨rfl, HR8.out, HK8.out⟩
  · have hout : cutE τ f n = mayS τ f ∧ cutS τ f n = τ := by
      have e1 : cutE τ f n = mayS τ f := by unfold cutE; rw [if_pos hm]
      exact ⟨e1, by unfold cutS; rw [if_neg (by rw [e1]; exact hm)]⟩
    rw [hout.1, hout.2]
    obtain ⟨m, hmm⟩ : ∃ m, mayS τ f = m := ⟨_, rfl⟩
    rw [hmm] at HM hm ⊢
    have m1 : ((m : Int) != 0) = true := by simp; omega
    clear hout hmm hm
    go_enter Try.func49, Try.ntmps49
    go_wp2_with fail
    refine HC.out.mono ?_
    rintro e w1 ⟨rfl, hr, hk⟩
    have HR := Hd.mk hr
    have HK := Hd.mk hk
    clear hr hk
    go_wp2_with fail
    refine (HM _ HR.out).out.mono ?_
    rintro e w2 ⟨rfl, rfl⟩
    go_wp2
    go_ret
    exact ⟨rfl, HR.out, HK.out⟩

end Go.Proofs.Ytcleocgaooblfaa.W
