/-
  The walk of Flush, Append, All, Sure.
-/
import Derived.Test.YtmcdfhihfcfbaaaJOp
namespace Go.Proofs.Ytmcdfhihfcfbaaa.W
open Go.RowKit
set_option linter.unusedVariables false

theorem fluL_same (σ : St) (l : Lg) (h : l.sure = l.rows.length) : fluL σ l = l ∧ fluP σ l = (if σ.down then 10 else 0, σ) := by
  have : fluP σ l = (if σ.down then 10 else 0, σ) := by unfold fluP; rw [if_pos h]
  refine ⟨?_, this⟩
  unfold fluL
  split
  · cases l; simp at h; simp [h]
  · rfl

theorem LRep.setSure {w : World} {L D : Nat} {l : Lg} {R : Option Nat} (h : LRep w L D l R) {n : Nat} (hn : n ≤ l.rows.length) : LRep (w.setCell ⟨L, 3, none⟩ (.int .i64 (n : Nat))) L D { l with sure := n } R := by
  have hne := h.ne
  obtain ⟨v, hb, hO, rfl⟩ := h.is
  exact ⟨⟨v, hb.set 3 _, hO.keeps ((Keeps.refl (· = L) w).setCell (p := ⟨L, 3, none⟩) (.inr rfl) _) (fun g hg e => hne (e ▸ hg)), rfl⟩, ⟨h.ok.f, h.ok.e, hn⟩⟩

set_option maxRecDepth 100000 in
set_option maxHeartbeats 2000000 in
theorem jFlush_op (w : World) (L D : Nat) (l : Lg) (σ : St) (q : Nat) (hF : FitQ σ q) (hq : q ≤ 900000000) : LOp w 12 #[.pointer (some ⟨L, 0, none⟩)] L D σ (fluP σ l).2 l (fluL σ l) (.int .i64 (fluP σ l).1) := by
  refine ⟨fun O R hr hl => ?_⟩
  obtain ⟨w1, hw1⟩ : ∃ w1, w.alloc (.cells #[.pointer (some ⟨L, 0, none⟩)] 25) = w1 := ⟨_, rfl⟩
  have K1 : Keeps (fun _ => False) w w1 := hw1 ▸ (Keeps.refl _ w).alloc _
  have hsz : w1.heap.size = w.heap.size + 1 := by rw [← hw1]; simp
  have hbx : Blk w1 w.heap.size 25 [.pointer (some ⟨L, 0, none⟩)] := hw1 ▸ Blk.new w 25 _
  have hr1 := hr.next K1
  have hl1 := hl.next K1
  obtain ⟨b, hbn⟩ : ∃ b, w.heap.size = b := ⟨_, rfl⟩
  rw [hbn] at hbx
  obtain ⟨v, hlb, hlO, hlR⟩ := hl1.is
  obtain ⟨p, c, rfl⟩ := hlO.slice'
  rw [List.length_map] at hlb
  obtain ⟨n, hn⟩ : ∃ n, l.rows.length = n := ⟨_, rfl⟩
  obtain ⟨s, hs⟩ : ∃ s, l.sure = s := ⟨_, rfl⟩
  rw [hn, hs] at hlb
  have d0 : w1.cell? ⟨b, 0, none⟩ = some (.pointer (some ⟨L, 0, none⟩)) := hbx.at (j := 0) rfl
  have c0 : w1.cell? ⟨L, 0, none⟩ = some (.pointer (some ⟨D, 0, none⟩)) := hlb.at (j := 0) rfl
  have c2 : w1.cell? ⟨L, 2, none⟩ = some (.slice p n c) := hlb.at (j := 2) rfl
  have c3 : w1.cell? ⟨L, 3, none⟩ = some (.int .i64 (s : Nat)) := hlb.at (j := 3) rfl
  have HBX := Hd.mk hbx
  have HR1 := Hd.mk hr1
  have HL1 := Hd.mk hl1
  have HK1 := Hd.mk K1
  have HW := Hd.mk hw1
  have HN := Hd.mk hn
  have HS := Hd.mk hs
  have HSZ := Hd.mk hsz
  have HBD : Hd (D ≠ L) := ⟨fun e => (hl1.disk hr1).1 (.inl e.symm)⟩
  have HFq := Hd.mk hF
  have hRs : Hd (∀ O', (∀ g, O' = some g → O = some g ∨ w1.heap.size ≤ g) → (∀ g, O' = some g → O = some g ∨ w.heap.size ≤ g)) := ⟨fun O' h g hg => (h g hg).imp_right (Nat.le_trans HK1.out.size)⟩
  clear hbx hr1 hl1 K1 hn hs hsz hF hlb hlO hlR hl hr
  by_cases hsn : s = n
  · have e := Hd.mk (fluL_same σ l (by rw [HS.out, HN.out, hsn]))
    subst hsn
    obtain ⟨dn, hdn⟩ : ∃ dn, σ.down = dn := ⟨_, rfl⟩
    have HDn := Hd.mk (fun (w' : World) (h : Rep w' D σ O) => hdn ▸ down_any w' D σ O h)
    rw [hdn] at e
    clear hdn
    go_enter Try.func12, Try.ntmps12
    go_wp2_with fail
    go_quiet (fail)
    go_wp2_with fail
    refine (HDn.out _ (HR1.out.next ((Keeps.refl _ _).drewN _))).mono ?_
    rintro e1 w2 ⟨rfl, rfl⟩
    rcases dn with _ | _
    · go_wp2
      go_ret
      rw [e.out.1, e.out.2]
      exact ⟨rfl, O, R, HR1.out.next ((Keeps.refl _ _).drewN _), HL1.out.next ((Keeps.refl _ _).drewN _), fun g h => .inl h, fun g h => .inl h, (HK1.out.mono (fun _ _ h => h.elim)).drewN _⟩
    · go_wp2
      go_ret
      rw [e.out.1, e.out.2]
      exact ⟨rfl, O, R, HR1.out.next ((Keeps.refl _ _).drewN _), HL1.out.next ((Keeps.refl _ _).drewN _), fun g h => .inl h, fun g h => .inl h, (HK1.out.mono (fun _ _ h => h.elim)).drewN _⟩
  · have hsn2 : ((s : Int) == (n : Int)) = false := by simp; omega
    go_enter Try.func12, Try.ntmps12
    go_wp2_with fail
    go_quiet (fail)
    go_wp2_with fail
    obtain ⟨w2, hw2⟩ : ∃ w2, (w1.drewN nq).alloc (.cells #[.func (.func 39) #[.pointer (some ⟨L, 0, none⟩)] #[], .func (.func 40) #[] #[.pointer (some ⟨b, 0, none⟩)], .func (.func 39) #[.pointer (some ⟨L, 0, none⟩)] #[]] 35) = w2 := ⟨_, rfl⟩
    rw [hw2]
    have K2 : Keeps (fun _ => False) w1 w2 := hw2 ▸ ((Keeps.refl _ w1).drewN nq).alloc _
    have hg2 : Blk w2 w1.heap.size 35 [.func (.func 39) #[.pointer (some ⟨L, 0, none⟩)] #[], .func (.func 40) #[] #[.pointer (some ⟨b, 0, none⟩)], .func (.func 39) #[.pointer (some ⟨L, 0, none⟩)] #[]] := hw2 ▸ Blk.new (w1.drewN nq) 35 _
    have hbx2 := K2.blk HBX.out (fun h => h)
    have hr2 := HR1.out.next K2
    have hl2 := HL1.out.next K2
    have hall := flSteps_any w2 b w1.heap.size L D l R σ O q HFq.out hq hr2 hl2 hbx2 hg2 (by rw [HS.out, HN.out]; exact hsn)
    refine hall.mono ?_
    clear hall
    rintro e1 w3 ⟨rfl, O3, h3, hO3, k3⟩
    have hl3 := hl2.op hr2 k3
    have hbx3 := k3.blk hbx2 (hr2.not_typ hbx2.is (by decide) (by decide))
    have K3 : Hd (Keeps (fun g => (g = D ∨ O = some g) ∨ (g = L ∨ R = some g)) w w3) := ⟨((HK1.out.trans K2).mono (fun _ _ h => h.elim)).trans (k3.mono (fun _ _ h => .inl h))⟩
    have HO3 : Hd (∀ g, O3 = some g → O = some g ∨ w.heap.size ≤ g) := ⟨fun g hg => (hO3 g hg).imp_right (Nat.le_trans (Nat.le_trans HK1.out.size K2.size))⟩
    obtain ⟨v3, hlb3, hlO3, hlR3⟩ := hl3.is
    obtain ⟨p3, cp3, rfl⟩ := hlO3.slice'
    rw [List.length_map, HN.out, HS.out] at hlb3
    have d3 : w3.cell? ⟨b, 0, none⟩ = some (.pointer (some ⟨L, 0, none⟩)) := hbx3.at (j := 0) rfl
    have e2 : w3.cell? ⟨L, 2, none⟩ = some (.slice p3 n cp3) := hlb3.at (j := 2) rfl
    have e3 : w3.cell? ⟨L, 3, none⟩ = some (.int .i64 (s : Nat)) := hlb3.at (j := 3) rfl
    have f3 := hlb3.free 3
    have H3 := Hd.mk h3
    have HL3 := Hd.mk hl3
    obtain ⟨E, hE⟩ : ∃ E, (fluP σ l).1 = E := ⟨_, rfl⟩
    have hL : Hd (fluL σ l = if E = 0 then { l with sure := l.rows.length } else l) := ⟨by unfold fluL; rw [hE]⟩
    rw [hE]
    have HE := Hd.mk hE
    clear hE hbx3 hl3 hlb3 hlO3 hlR3 h3 hO3 k3 K2 hg2 hbx2 hr2 hl2 hsn
    by_cases hz : E = 0
    · subst hz
      have hfr : w3.drew.frozen? ⟨L, 3, none⟩ = false := f3
      have hSd : w3.drew.cell? ⟨b, 0, none⟩ = some (.pointer (some ⟨L, 0, none⟩)) ∧ w3.drew.cell? ⟨L, 2, none⟩ = some (.slice p3 n cp3) := ⟨d3, e2⟩
      have hbL : b ≠ L := fun e => by subst e; rw [d0] at c0; injection c0 with c0; injection c0 with c0; injection c0 with c0; exact HBD.out (congrArg Addr.block c0).symm
      go_wp2_with fail
      refine wp_region_lin default (fun w' => w'.cell? ⟨b, 0, none⟩ = some (.pointer (some ⟨L, 0, none⟩)) ∧ w'.cell? ⟨L, 2, none⟩ = some (.slice p3 n cp3)) [(0, true), (1, true), (2, true), (3, true), (4, true), (5, true), (6, true), (7, true), (8, false)] (by kernel_rfl) (by kernel_rfl) rfl (by kernel_rfl) (by kernel_rfl) hSd ?_
      simp only [pick, List.getD_cons_zero, List.getD_cons_succ]
      clear hSd
      repeat
        refine lin_free (v := ?_) (by rfl) ?_ ?_
        rotate_left
        · intro w' hSw
          obtain ⟨a0, a1⟩ := hSw
          go_simp
          first | done | with_reducible rfl
        simp only [Act.put, List.setIfInBounds_toArray, List.set_cons_zero, List.set_cons_succ]
      refine lin_bound (fun K hK => ?_)
      go_simp
      have hS4 : (w3.setCell ⟨L, 3, none⟩ (.int .i64 (n : Nat))).drew.cell? ⟨b, 0, none⟩ = some (.pointer (some ⟨L, 0, none⟩)) ∧ (w3.setCell ⟨L, 3, none⟩ (.int .i64 (n : Nat))).drew.cell? ⟨L, 2, none⟩ = some (.slice p3 n cp3) := ⟨by go_simp, by go_simp⟩
      refine hK.out _ _ hS4 ?_
      clear hK K hS4
      refine NoPanic.normal ?_
      go_wp2
      go_ret
      refine ⟨ret_i (by rw [HE.out]; rfl), O3, R, ?_, ?_, HO3.out, fun g h => .inl h, (K3.out.setCell (p := ⟨L, 3, none⟩) (.inr (.inr (.inl rfl))) _).drew⟩
      · exact (H3.out.others ((Keeps.refl (· = L) w3).setCell (p := ⟨L, 3, none⟩) (.inr rfl) _) (fun g hg => by subst hg; obtain ⟨cur, fz, hh⟩ := HL3.out.heap; exact ⟨cur, _, fz, hh, by decide, by decide, by decide⟩)).next (Keeps.refl _ _).drew
      · rw [hL.out, if_pos (by trivial), ← HN.out]
        exact (HL3.out.setSure (n := l.rows.length) (Nat.le_refl _)).next (Keeps.refl _ _).drew
    · have h1 : ((E : Int) == 0) = false := by simp; omega
      have HL0 : Hd (fluL σ l = l) := ⟨by rw [hL.out, if_neg hz]⟩
      clear hz hL
      go_wp2
      go_ret
      rw [HL0.out]
      exact ⟨ret_i (by rw [HE.out]), O3, R, H3.out, HL3.out, HO3.out, fun g h => .inl h, K3.out⟩

end Go.Proofs.Ytmcdfhihfcfbaaa.W
