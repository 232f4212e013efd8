/-
  DiskTells: the walk of the reference's Turn.
-/
import Derived.Test.YtcleocgaooblfaaRf10
namespace Go.Proofs.Ytcleocgaooblfaa.W
open Go.RowKit
set_option linter.unusedVariables false

theorem up_may0 {σ : St} (h : σ.down = false) {f : Nat} (hf : f < 8) : mayS σ (f : Int) = 0 := by
  unfold mayS; rw [h, show isF (f : Int) = true by unfold isF; exact decide_eq_true (by omega)]; rfl
theorem otherQ_len (q : List Pn) (g : Nat) : ((otherQ q g).length = q.length) ↔ (q.any fun p => decide (p.f = g)) = false := by
  unfold otherQ
  rw [List.any_eq_false]
  constructor
  · intro h p hp
    have := List.length_filter_eq_length_iff.1 h p hp
    simpa using this
  · intro h
    exact List.length_filter_eq_length_iff.2 (fun p hp => by simpa using h p hp)
theorem otherQ_id {q : List Pn} {g : Nat} (h : (q.any fun p => decide (p.f = g)) = false) (f : Nat) : otherQ (otherQ q f) g = otherQ q f := by
  unfold otherQ
  rw [List.any_eq_false] at h
  rw [List.filter_eq_self]
  intro p hp
  simpa using h p (List.mem_filter.1 hp).1

/-- lasts and queue put in place -/
theorem settle_end2 {w2 w3 : World} {B E : Nat} {τ σ' : St} {lv qv kv v' : Value} {L : List (List UInt8)} {q' : List Pn} (hE : B ≤ E) (hB : B ≤ w2.heap.size)
    (hc : RCells w2 B E { τ with lasts := L } lv qv kv) (hp : PRow w3 w2.heap.size v' q') (k : Keeps (fun _ => False) w2 w3)
    (h1 : σ'.lasts = L) (h2 : σ'.queue = q') (h3 : σ'.lost = τ.lost) (h4 : σ'.down = τ.down) (h5 : σ'.armed = τ.armed) (h6 : σ'.keep = τ.keep) (ok : Ok σ') (rd : Rd σ') :
    RRep (w3.setCell ⟨E, 1, none⟩ v') B E σ' ∧ RK B w2 (w3.setCell ⟨E, 1, none⟩ v') ∧ w3.cell? ⟨E, 1, none⟩ = some qv ∧ w3.frozen? ⟨E, 1, none⟩ = false ∧ ∃ p n c, v' = .slice p n c := by
  have hc3 := hc.keeps k (fun h => h) (fun _ _ h => h) (fun _ _ _ _ h => h) (fun _ _ _ _ h => h)
  have hput := hc3.put (σ' := { τ with lasts := L, queue := q' }) (lv' := lv) (qv' := v') (j := 1) (u := v') hc3.l (hp.base hB) rfl rfl
  obtain ⟨p', c', e⟩ := hp.slice
  refine ⟨RMem.rep ⟨⟨lv, v', kv, ⟨?_, ?_, ?_, ?_⟩⟩, hE⟩ ok rd, (RK.of k).trans (RK.set hc3.b hE (.inl rfl) 1 v'), hc3.b.at (j := 1) rfl, hc3.b.free 1, p', _, c', e⟩
  · rw [h3, h4, h5]; exact hput.b
  · rw [h1]; exact hput.l
  · rw [h2]; exact hput.q
  · rw [h6]; exact hput.k

/-- the walk's beginning is alike in every case -/
structure TurnPre (w : World) (B E : Nat) (τ : St) (f g : Int) : Prop where
  c : Calls Try.prog 59 #[.pointer (some ⟨E, 0, none⟩), .int .i64 0, .int .i64 0, .string ⟨#[]⟩] w fun e w' => e = .returned (.tuple #[]) ∧ RRep w' B E τ ∧ RK B w w'
  b : B ≤ w.heap.size
  q : τ.queue.length ≤ 1000000000

set_option maxHeartbeats 4000000 in
set_option maxRecDepth 100000 in
theorem rturn_go (w : World) (B E : Nat) (τ : St) (F G : Nat) (hF : F < 8) (hG : G < 8) (hd : τ.down = false) (hne : F ≠ G) (hany : (τ.queue.any fun p => decide (p.f = G)) = false) (P : TurnPre w B E τ F G) :
    Calls Try.prog 50 #[.pointer (some ⟨E, 0, none⟩), .int .i64 F, .int .i64 G] w fun e w' => e = .returned (.int .i64 0) ∧ RRep w' B E (settleS (settleS τ F (τ.lasts.getD G [])) G []) ∧ RK B w w' := by
  have HC := Hd.mk P.c
  have HM1 := fun w (h : RRep w B E τ) => Hd.mk (rmay_any w B E τ F h)
  have HM2 := fun w (h : RRep w B E τ) => Hd.mk (rmay_any w B E τ G h)
  rw [up_may0 hd hF] at HM1
  rw [up_may0 hd hG] at HM2
  have hfg : ((F : Int) == (G : Int)) = false := by simp; omega
  have hln : (otherQ τ.queue G).length = τ.queue.length := (otherQ_len _ _).2 hany
  have f0 : (0 : Int) ≤ (F : Int) := by omega
  have f8 : (F : Int) < 8 := by omega
  have g0 : (0 : Int) ≤ (G : Int) := by omega
  have g8 : (G : Int) < 8 := by omega
  have HP := Hd.mk P
  have HFG := Hd.mk (And.intro hF (And.intro hG (And.intro hany hne)))
  obtain ⟨N, hN⟩ : ∃ N, τ.queue.length = N := ⟨_, rfl⟩
  rw [hN] at hln
  have HLn := Hd.mk hln
  have HN := Hd.mk hN
  obtain ⟨sg, hsg⟩ := bytesOf (τ.lasts.getD G [])
  rw [hsg]
  have HSg := Hd.mk hsg
  obtain ⟨ρ, hρ⟩ : ∃ ρ, settleS (settleS τ F sg.data.toList) G [] = ρ := ⟨_, rfl⟩
  rw [hρ]
  have HRo : Hd (∀ w, RRep w B E τ → (ρ.lasts = (τ.lasts.set F sg.data.toList).set G [] ∧ ρ.queue = otherQ τ.queue F ∧ ρ.lost = τ.lost ∧ ρ.down = τ.down ∧ ρ.armed = τ.armed ∧ ρ.keep = τ.keep) ∧ Ok ρ ∧ Rd ρ) := ⟨fun w h => by
    have hsl : sg.data.toList.length ≤ 16777216 := by rw [← hsg]; exact getD_le h.ok.ll G
    have o1 := h.ok.settle F hsl
    refine ⟨?_, by rw [← hρ]; exact o1.settle G (by simp), by rw [← hρ]; exact (h.rd.settle h.ok hF _).settle o1 hG _⟩
    rw [← hρ]
    exact ⟨rfl, otherQ_id hany F, rfl, rfl, rfl, rfl⟩⟩
  clear hρ hsg hN hln hF hG hd hne hany P
  go_enter Try.func50, Try.ntmps50
  go_wp2_with fail
  refine HC.out.mono ?_
  rintro e w1 ⟨rfl, hr, hk⟩
  have HR := Hd.mk hr
  have HK := Hd.mk hk
  clear hr hk
  go_wp2_with fail
  refine (HM1 _ HR.out).out.mono ?_
  rintro e w2 ⟨rfl, rfl⟩
  go_wp2_with fail
  refine (HM2 _ HR.out).out.mono ?_
  rintro e w2 ⟨rfl, rfl⟩
  obtain ⟨lv, qv, kv, hc⟩ := HR.out.cells
  obtain ⟨pq, cq, rfl⟩ := hc.q.slice
  have c1 := hc.b.at (j := 1) rfl
  rw [HN.out] at c1
  have HCc := Hd.mk hc
  clear hc
  go_wp2_with fail
  refine wp_region_lin default (fun w' => w'.cell? ⟨E, 1, none⟩ = some (.slice pq N cq)) [(0, true), (1, true), (4, true), (5, true), (6, true), (7, true), (8, true), (2, false), (3, true), (9, true)] (by kernel_rfl) (by kernel_rfl) rfl (by kernel_rfl) (by kernel_rfl) c1 ?_
  simp only [pick, List.getD_cons_zero, List.getD_cons_succ]
  repeat
    refine lin_free (v := ?_) (by rfl) ?_ ?_
    rotate_left
    · intro w' hSw
      go_simp
      first | done | with_reducible rfl
    simp only [Act.put, List.setIfInBounds_toArray, List.set_cons_zero, List.set_cons_succ]
  refine lin_bound (fun K hK => ?_)
  go_simp
  have hcd := HCc.out.keeps ((Keeps.refl (fun _ => False) w1).drew) (fun h => h) (fun _ _ h => h) (fun _ _ _ _ h => h) (fun _ _ _ _ h => h)
  refine (rwithout_any w1.drew B E τ G HP.out.q hcd).mono ?_
  rintro e w5 ⟨v5, rfl, hp5, k5⟩
  dsimp only
  obtain ⟨p5, c5, hv5⟩ := hp5.slice
  rw [HLn.out] at hv5
  subst hv5
  have hk5 : Keeps (fun _ => False) w1 w5 := (Keeps.refl _ w1).drew.trans k5
  have hc5 := HCc.out.keeps hk5 (fun h => h) (fun _ _ h => h) (fun _ _ _ _ h => h) (fun _ _ _ _ h => h)
  have c15 := hc5.b.at (j := 1) rfl
  rw [HN.out] at c15
  refine hK.out _ _ c15 ?_
  have HR5 := Hd.mk (HR.out.next hk5)
  have HK5 := Hd.mk (HK.out.trans (RK.of hk5))
  have HC5 := Hd.mk hc5
  clear hK K hcd hp5 k5 hk5 hc5 c15 c1
  repeat
    refine lin_free (v := ?_) (by rfl) ?_ ?_
    rotate_left
    · intro w' hSw
      go_simp
      first | done | with_reducible rfl
    simp only [Act.put, List.setIfInBounds_toArray, List.set_cons_zero, List.set_cons_succ]
  refine NoPanic.normal ?_
  have hl8 := HR5.out.ok.l8
  obtain ⟨gl, cl, e0, hl1, hl2⟩ := last_cell HC5.out.l HR5.out.ok HFG.out.1
  obtain ⟨gl', cl', e0', hg1, hg2⟩ := last_cell HC5.out.l HR5.out.ok HFG.out.2.1
  subst e0
  obtain ⟨rfl, rfl⟩ : gl = gl' ∧ cl = cl' := by injection e0' with a1 _ a2; injection a1 with a1; injection a1 with a1 _ _; exact ⟨a1, a2⟩
  clear e0'
  rw [HSg.out, strV_of] at hg1
  have c05 := HC5.out.b.at (j := 0) rfl
  obtain ⟨hs1, hk1⟩ := HC5.out.setLast hl8 HFG.out.1 sg.data.toList
  obtain ⟨hs2, hk2⟩ := hs1.setLast (by simpa using hl8) HFG.out.2.1 []
  have HS1 := Hd.mk hs1
  have HS2 := Hd.mk hs2
  have HKK := Hd.mk (hk1.trans hk2)
  have hgs : ((τ.lasts.set F sg.data.toList).getD G []) = τ.lasts.getD G [] := by rw [getD_set _ _ _ _ _ (by rw [hl8]; exact HFG.out.1), if_neg HFG.out.2.2.2]
  clear hs1 hs2 hk1 hk2 hl8
  go_wp2_with fail
  refine wp_region_lin default (fun w' => w'.cell? ⟨E, 0, none⟩ = some (.slice (some ⟨gl, 0, none⟩) 8 cl) ∧ w'.cell? ⟨gl, G, none⟩ = some (.string sg) ∧ w'.frozen? ⟨gl, F, none⟩ = false ∧ ∃ y, w'.cell? ⟨gl, F, none⟩ = some y) [(0, true), (1, true), (2, true), (3, true), (4, true), (5, true), (6, true), (7, true), (8, true), (9, true), (10, true), (11, true), (12, true), (13, false)] (by kernel_rfl) (by kernel_rfl) rfl (by kernel_rfl) (by kernel_rfl) ⟨c05, hg1, hl2, _, hl1⟩ ?_
  simp only [pick, List.getD_cons_zero, List.getD_cons_succ]
  repeat
    refine lin_free (v := ?_) (by rfl) ?_ ?_
    rotate_left
    · intro w' hSw
      obtain ⟨d0, d1, d2, y, d3⟩ := hSw
      go_simp
      first | done | with_reducible rfl
    simp only [Act.put, List.setIfInBounds_toArray, List.set_cons_zero, List.set_cons_succ]
  refine lin_bound (fun K hK => ?_)
  go_simp
  have hfr6 : (w5.setCell ⟨gl, F, none⟩ (.string sg)).frozen? ⟨gl, F, none⟩ = false := by simpa using hl2
  have hcl6 : (w5.setCell ⟨gl, F, none⟩ (.string sg)).cell? ⟨gl, F, none⟩ = some (.string sg) := World.cell?_setCell_same _ _ _ hl1
  have hb6 : (w5.setCell ⟨gl, F, none⟩ (.string sg)).cell? ⟨E, 0, none⟩ = some (.slice (some ⟨gl, 0, none⟩) 8 cl) := HS1.out.b.at (j := 0) rfl
  have hg6 : (w5.setCell ⟨gl, F, none⟩ (.string sg)).cell? ⟨gl, G, none⟩ = some (.string sg) := by
    rw [World.cell?_setCell_other _ _ _ _ (fun e' => HFG.out.2.2.2 (Addr.mk.inj e').2.1)]; exact hg1
  have hgf6 : (w5.setCell ⟨gl, F, none⟩ (.string sg)).frozen? ⟨gl, G, none⟩ = false := by simpa using hg2
  refine hK.out _ _ ⟨hb6, hg6, hfr6, _, hcl6⟩ ?_
  clear hK K hfr6 hcl6 hl1 hl2 hg1 hg2 c05 hgs
  refine NoPanic.normal ?_
  obtain ⟨w6, hw6⟩ : ∃ w6, (w5.setCell ⟨gl, F, none⟩ (.string sg)).drew = w6 := ⟨_, rfl⟩
  have hb6' : w6.cell? ⟨E, 0, none⟩ = some (.slice (some ⟨gl, 0, none⟩) 8 cl) := by rw [← hw6]; exact hb6
  have hg6' : w6.cell? ⟨gl, G, none⟩ = some (.string sg) := by rw [← hw6]; exact hg6
  have hf6' : w6.frozen? ⟨gl, G, none⟩ = false := by rw [← hw6]; exact hgf6
  obtain ⟨w7, hw7⟩ : ∃ w7, w6.setCell ⟨gl, G, none⟩ (.string ⟨#[]⟩) = w7 := ⟨_, rfl⟩
  have HS7 : Hd (RCells w7 B E { τ with lasts := (τ.lasts.set F sg.data.toList).set G [] } (.slice (some ⟨gl, 0, none⟩) 8 cl) (.slice pq τ.queue.length cq) kv ∧ RK B w5 w7) := ⟨by
    rw [← hw7, ← hw6]
    exact ⟨HS2.out.keeps ((Keeps.refl (fun _ => False) _).drew) (fun h => h) (fun _ _ h => h) (fun _ _ _ _ h => h) (fun _ _ _ _ h => h), HKK.out.trans (RK.of (Keeps.refl _ _).drew)⟩⟩
  rw [hw6]
  clear hw6 HS1 HS2 HKK hb6 hg6 hgf6
  go_wp2_with fail
  refine (rwithout_any w7 B E { τ with lasts := (τ.lasts.set F sg.data.toList).set G [] } F HP.out.q HS7.out.1).mono ?_
  rintro e w8 ⟨v8, rfl, hp8, k8⟩
  obtain ⟨⟨h1, h2, h3, h4, h5, h6⟩, o1, o2⟩ := HRo.out _ HR.out
  obtain ⟨hr8, hk8, c1, f1, pv, nv, cv, rfl⟩ := settle_end2 (σ' := ρ) HR.out.ge (Nat.le_trans (Nat.le_trans HP.out.b HK5.out.k.size) HS7.out.2.k.size) HS7.out.1 hp8 k8 h1 h2 h3 h4 h5 h6 o1 o2
  have HR8 := Hd.mk hr8
  have HK8 := Hd.mk ((HK5.out.trans HS7.out.2).trans hk8)
  clear hp8 k8 hr8 hk8 h1 h2 h3 h4 h5 h6 o1 o2 hw7 hb6' hg6' hf6'
  go_wp2
  go_ret
  exact ⟨rfl, HR8.out, HK8.out⟩

end Go.Proofs.Ytcleocgaooblfaa.W
