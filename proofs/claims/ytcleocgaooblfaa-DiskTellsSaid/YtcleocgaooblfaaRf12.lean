/-
  DiskTells: the walk of the reference's Turn, all cases; Arm.
-/
import Derived.Test.YtcleocgaooblfaaRf11
import Derived.Test.YtcleocgaooblfaaClone
namespace Go.Proofs.Ytcleocgaooblfaa.W
open Go.RowKit
set_option linter.unusedVariables false

set_option maxHeartbeats 4000000 in
set_option maxRecDepth 100000 in
theorem rturn_any (w : World) (B E : Nat) (σ : St) (f g : Int) (hB : B ≤ w.heap.size) (hlen : σ.queue.length ≤ 1000000000) (ha : σ.armed ≤ 9223372036854775807) (hkk : σ.keep.length ≤ 1000000000) (h : RRep w B E σ) :
    Calls Try.prog 50 #[.pointer (some ⟨E, 0, none⟩), .int .i64 f, .int .i64 g] w fun e w' => e = .returned (.int .i64 (TurnE σ f g : Nat)) ∧ RRep w' B E (TurnS σ f g) ∧ RK B w w' := by
  have hC := rcomes_any w B E σ 0 0 ⟨#[]⟩ hB (by show σ.queue.length + 0 ≤ _; omega) ha hkk (by decide) h
  rw [show (⟨#[]⟩ : ByteArray).data.toList = [] from rfl, comS_head] at hC
  unfold TurnE TurnS
  have hq := head_queue hlen
  obtain ⟨τ, hτ⟩ : ∃ τ, headS σ = τ := ⟨_, rfl⟩
  rw [hτ] at hC hq ⊢
  clear hτ h
  have HC := Hd.mk hC
  have HM := fun w (h : RRep w B E τ) => Hd.mk (rmay_any w B E τ f h)
  by_cases hm : mayS τ f = 0
  · obtain ⟨hdn, m0, m8⟩ := may_zero hm
    obtain ⟨F, rfl⟩ := Int.eq_ofNat_of_zero_le m0
    rw [hm] at HM
    have hF8 : F < 8 := by omega
    have HM2 := fun w (h : RRep w B E τ) => Hd.mk (rmay_any w B E τ g h)
    by_cases hm2 : mayS τ g = 0
    · obtain ⟨_, n0, n8⟩ := may_zero hm2
      obtain ⟨G, rfl⟩ := Int.eq_ofNat_of_zero_le n0
      rw [hm2] at HM2
      have hG8 : G < 8 := by omega
      have h2 : may2 τ F G = 0 := by unfold may2; rw [if_neg (by omega), hm2]
      by_cases hfg : F = G
      · subst hfg
        have e1 : turnE τ F F = 1 := by unfold turnE; rw [if_neg (by omega), if_pos rfl]
        have e2 : turnS τ F F = τ := by unfold turnS; rw [if_neg (by rw [e1]; decide)]
        rw [e1, e2]
        clear hm hm2 m0 m8 n0 n8 hdn h2 e1 e2 hC hB hF8 hG8
        go_enter Try.func50, Try.ntmps50
        go_wp2_with fail
        refine HC.out.mono ?_
        rintro e w1 ⟨rfl, hr, hk⟩
        have HR := Hd.mk hr
        have HK := Hd.mk hk
        clear hr hk
        go_wp2_with fail
        refine (HM _ HR.out).out.mono ?_
        rintro e w2 ⟨rfl, rfl⟩
        go_wp2_with fail
        refine (HM2 _ HR.out).out.mono ?_
        rintro e w2 ⟨rfl, rfl⟩
        go_wp2
        go_ret
        exact ⟨rfl, HR.out, HK.out⟩
      · by_cases hany : (τ.queue.any fun p => decide (p.f = G)) = true
        · have e1 : turnE τ F G = 11 := by
            unfold turnE; rw [if_neg (by omega), if_neg (by omega), show (G : Int).toNat = G from rfl, hany]; rfl
          have e2 : turnS τ F G = τ := by unfold turnS; rw [if_neg (by rw [e1]; decide)]
          rw [e1, e2]
          have hln : (otherQ τ.queue G).length ≠ τ.queue.length := fun h => by
            have := (otherQ_len _ _).1 h
            rw [this] at hany; cases hany
          have hfg' : ((F : Int) == (G : Int)) = false := by simp; omega
          have f0 : (0 : Int) ≤ (F : Int) := by omega
          have f8 : (F : Int) < 8 := by omega
          have g0 : (0 : Int) ≤ (G : Int) := by omega
          have g8 : (G : Int) < 8 := by omega
          obtain ⟨N, hN⟩ : ∃ N, τ.queue.length = N := ⟨_, rfl⟩
          obtain ⟨M, hM⟩ : ∃ M, (otherQ τ.queue G).length = M := ⟨_, rfl⟩
          rw [hN, hM] at hln
          have hmn : ((M : Int) != (N : Int)) = true := by simp; omega
          have HN := Hd.mk hN
          have HLn := Hd.mk hM
          have HQ := Hd.mk hq
          clear hm hm2 m0 m8 n0 n8 hdn h2 e1 e2 hC hB hany hN hM hF8 hG8 hfg hln hq
          go_enter Try.func50, Try.ntmps50
          go_wp2_with fail
          refine HC.out.mono ?_
          rintro e w1 ⟨rfl, hr, hk⟩
          have HR := Hd.mk hr
          have HK := Hd.mk hk
          clear hr hk
          go_wp2_with fail
          refine (HM _ HR.out).out.mono ?_
          rintro e w2 ⟨rfl, rfl⟩
          go_wp2_with fail
          refine (HM2 _ HR.out).out.mono ?_
          rintro e w2 ⟨rfl, rfl⟩
          obtain ⟨lv, qv, kv, hc⟩ := HR.out.cells
          obtain ⟨pq, cq, rfl⟩ := hc.q.slice
          have c1 := hc.b.at (j := 1) rfl
          rw [HN.out] at c1
          have HCc := Hd.mk hc
          clear hc
          go_wp2_with fail
          refine wp_region_lin default (fun w' => w'.cell? ⟨E, 1, none⟩ = some (.slice pq N cq)) [(0, true), (1, true), (4, true), (5, true), (6, true), (7, true), (8, true), (2, false), (3, true), (9, true)] (by kernel_rfl) (by kernel_rfl) rfl (by kernel_rfl) (by kernel_rfl) c1 ?_
          simp only [pick, List.getD_cons_zero, List.getD_cons_succ]
          repeat
            refine lin_free (v := ?_) (by rfl) ?_ ?_
            rotate_left
            · intro w' hSw
              go_simp
              first | done | with_reducible rfl
            simp only [Act.put, List.setIfInBounds_toArray, List.set_cons_zero, List.set_cons_succ]
          refine lin_bound (fun K hK => ?_)
          go_simp
          have hcd := HCc.out.keeps ((Keeps.refl (fun _ => False) w1).drew) (fun h => h) (fun _ _ h => h) (fun _ _ _ _ h => h) (fun _ _ _ _ h => h)
          refine (rwithout_any w1.drew B E τ G HQ.out hcd).mono ?_
          rintro e w5 ⟨v5, rfl, hp5, k5⟩
          dsimp only
          obtain ⟨p5, c5, hv5⟩ := hp5.slice
          rw [HLn.out] at hv5
          subst hv5
          have hk5 : Keeps (fun _ => False) w1 w5 := (Keeps.refl _ w1).drew.trans k5
          have hc5 := HCc.out.keeps hk5 (fun h => h) (fun _ _ h => h) (fun _ _ _ _ h => h) (fun _ _ _ _ h => h)
          have c15 := hc5.b.at (j := 1) rfl
          rw [HN.out] at c15
          refine hK.out _ _ c15 ?_
          have HR5 := Hd.mk (HR.out.next hk5)
          have HK5 := Hd.mk (HK.out.trans (RK.of hk5))
          clear hK K hcd hp5 k5 hk5 hc5 c15 c1
          repeat
            refine lin_free (v := ?_) (by rfl) ?_ ?_
            rotate_left
            · intro w' hSw
              go_simp
              first | done | with_reducible rfl
            simp only [Act.put, List.setIfInBounds_toArray, List.set_cons_zero, List.set_cons_succ]
          refine NoPanic.normal ?_
          go_wp2
          go_ret
          exact ⟨rfl, HR5.out, HK5.out⟩
        · have hany' : (τ.queue.any fun p => decide (p.f = G)) = false := by simpa using hany
          have e1 : turnE τ F G = 0 := by
            unfold turnE; rw [if_neg (by omega), if_neg (by omega), show (G : Int).toNat = G from rfl, hany']; rfl
          have e2 : turnS τ F G = settleS (settleS τ F (τ.lasts.getD G [])) G [] := by unfold turnS; rw [if_pos e1]; rfl
          rw [e1, e2]
          exact rturn_go w B E τ F G hF8 hG8 hdn hfg hany' ⟨HC.out, hB, hq⟩
    · have h2 : may2 τ F g = mayS τ g := by unfold may2; rw [if_neg (by omega)]
      have e1 : turnE τ F g = mayS τ g := by unfold turnE; rw [h2, if_pos hm2]
      have e2 : turnS τ F g = τ := by unfold turnS; rw [if_neg (by rw [e1]; exact hm2)]
      rw [e1, e2]
      obtain ⟨m, hmm⟩ : ∃ m, mayS τ g = m := ⟨_, rfl⟩
      rw [hmm] at HM2 hm2 ⊢
      have m1 : ((m : Int) != 0) = true := by simp; omega
      clear hm hm2 m0 m8 hdn h2 e1 e2 hmm hC hB hF8
      go_enter Try.func50, Try.ntmps50
      go_wp2_with fail
      refine HC.out.mono ?_
      rintro e w1 ⟨rfl, hr, hk⟩
      have HR := Hd.mk hr
      have HK := Hd.mk hk
      clear hr hk
      go_wp2_with fail
      refine (HM _ HR.out).out.mono ?_
      rintro e w2 ⟨rfl, rfl⟩
      go_wp2_with fail
      refine (HM2 _ HR.out).out.mono ?_
      rintro e w2 ⟨rfl, rfl⟩
      go_wp2
      go_ret
      exact ⟨rfl, HR.out, HK.out⟩
  · have h2 : may2 τ f g = mayS τ f := by unfold may2; rw [if_pos hm]
    have e1 : turnE τ f g = mayS τ f := by unfold turnE; rw [h2, if_pos hm]
    have e2 : turnS τ f g = τ := by unfold turnS; rw [if_neg (by rw [e1]; exact hm)]
    rw [e1, e2]
    obtain ⟨m, hmm⟩ : ∃ m, mayS τ f = m := ⟨_, rfl⟩
    rw [hmm] at HM hm ⊢
    have m1 : ((m : Int) != 0) = true := by simp; omega
    clear e1 e2 h2 hmm hm hC
    go_enter Try.func50, Try.ntmps50
    go_wp2_with fail
    refine HC.out.mono ?_
    rintro e w1 ⟨rfl, hr, hk⟩
    have HR := Hd.mk hr
    have HK := Hd.mk hk
    clear hr hk
    go_wp2_with fail
    refine (HM _ HR.out).out.mono ?_
    rintro e w2 ⟨rfl, rfl⟩
    go_wp2
    go_ret
    exact ⟨rfl, HR.out, HK.out⟩

end Go.Proofs.Ytcleocgaooblfaa.W
