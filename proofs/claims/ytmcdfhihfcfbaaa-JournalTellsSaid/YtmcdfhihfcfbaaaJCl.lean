/-
  The walks of the functions that Flush and Rewrite hand to all. (Printed by gen_jcl.py.)
-/
import Derived.Test.YtmcdfhihfcfbaaaJL
import Derived.Test.YtmcdfhihfcfbaaaBws
namespace Go.Proofs.Ytmcdfhihfcfbaaa.W
open Go.RowKit
set_option linter.unusedVariables false

set_option maxRecDepth 100000 in
set_option maxHeartbeats 1000000 in
/-- Rewrite's first step: Cut -/
theorem jrew1_any (w : World) (b L D : Nat) (f : Nat) (v : Value) (s e : Int) (σ : St) (O : Option Nat) (hf6 : f ≤ 6) (hF : Fit σ) (hr : Rep w D σ O) (hbx : Blk w b 25 [.pointer (some ⟨L, 0, none⟩)]) (hb : Blk w L 64 (lgCells D f v s e)) :
    Calls Try.prog 45 #[.pointer (some ⟨b, 0, none⟩)] w fun e w' => ∃ O', e = .returned (.int .i64 (CutE σ ((f : Int) + 1) 0)) ∧ Rep w' D (CutS σ ((f : Int) + 1) 0) O' ∧ (O' = O ∨ O' = none) ∧ Keeps (fun g => g = D ∨ O = some g) w w' := by
  have HD := Hd.mk (hr.not_typ hb.is (by decide) (by decide))
  have HDB := Hd.mk (hr.not_typ hbx.is (by decide) (by decide))
  have HFl := Hd.mk (cut_any w.drew D σ O ((f : Int) + 1) 0 hF (hr.next (Keeps.refl _ _).drew))
  have hSd : w.drew.cell? ⟨b, 0, none⟩ = some (.pointer (some ⟨L, 0, none⟩)) ∧ Blk w.drew L 64 (lgCells D f v s e) := ⟨hbx.drew.at (j := 0) rfl, hb.drew⟩
  have HS := Hd.mk hSd
  have HBX := Hd.mk hbx.drew
  have wf : wrap64 ((f : Int) + 1) = (f : Int) + 1 := by unfold wrap64; omega
  have wf2 : IntKind.i64.wrap ((f : Int) + 1) = (f : Int) + 1 := IntWalk.i64_in _ (by omega)
  clear hF hr hb hbx hf6
  obtain ⟨E, hE⟩ : ∃ E, (CutE σ ((f : Int) + 1) 0 : Int) = E := ⟨_, rfl⟩
  obtain ⟨T, hT⟩ : ∃ T, CutS σ ((f : Int) + 1) 0 = T := ⟨_, rfl⟩
  rw [hE, hT] at HFl
  rw [hE, hT]
  clear hE hT
  go_enter Try.func45, Try.ntmps45
  go_wp2_with fail
  refine wp_region_lin default (fun w' => w'.cell? ⟨b, 0, none⟩ = some (.pointer (some ⟨L, 0, none⟩)) ∧ Blk w' L 64 (lgCells D f v s e)) [(0, true), (1, true), (2, true), (3, true), (4, true), (5, true), (6, true), (7, true), (8, true), (9, false), (10, true)] (by kernel_rfl) (by kernel_rfl) rfl (by kernel_rfl) (by kernel_rfl) hSd ?_
  simp only [pick, List.getD_cons_zero, List.getD_cons_succ]
  clear hSd
  repeat
    refine lin_free (v := ?_) (by rfl) ?_ ?_
    rotate_left
    · intro w' hSw
      have d0 := hSw.1
      have c0 := hSw.2.at (j := 0) rfl
      have c1 := hSw.2.at (j := 1) rfl
      go_simp
      first | done | with_reducible rfl
    simp only [Act.put, List.setIfInBounds_toArray, List.set_cons_zero, List.set_cons_succ]
  refine lin_bound (fun K hK => ?_)
  go_simp
  refine HFl.out.mono ?_
  rintro e w5 ⟨O', rfl, hr', hO', k⟩
  dsimp only
  have HR := Hd.mk hr'
  have HK := Hd.mk k
  have HO := Hd.mk hO'
  refine hK.out _ _ ⟨(k.blk HBX.out HDB.out).at (j := 0) rfl, k.blk HS.out.2 HD.out⟩ ?_
  clear hK K hr' k hO' HFl
  repeat
    refine lin_free (v := ?_) (by rfl) ?_ ?_
    rotate_left
    · intro w' hSw
      go_simp
      first | done | with_reducible rfl
    simp only [Act.put, List.setIfInBounds_toArray, List.set_cons_zero, List.set_cons_succ]
  refine NoPanic.normal ?_
  go_wp2
  go_ret
  exact ⟨O', rfl, HR.out, HO.out, (Keeps.refl _ w).drew.trans HK.out⟩

set_option maxRecDepth 100000 in
set_option maxHeartbeats 1000000 in
/-- Rewrite's third step: Flush -/
theorem jrew3_any (w : World) (b L D : Nat) (f : Nat) (v : Value) (s e : Int) (σ : St) (O : Option Nat) (hf6 : f ≤ 6) (hF : Fit σ) (hr : Rep w D σ O) (hbx : Blk w b 25 [.pointer (some ⟨L, 0, none⟩)]) (hb : Blk w L 64 (lgCells D f v s e)) :
    Calls Try.prog 49 #[.pointer (some ⟨b, 0, none⟩)] w fun e w' => ∃ O', e = .returned (.int .i64 (FlushE σ ((f : Int) + 1))) ∧ Rep w' D (FlushS σ ((f : Int) + 1)) O' ∧ (O' = O ∨ O' = none) ∧ Keeps (fun g => g = D ∨ O = some g) w w' := by
  have HD := Hd.mk (hr.not_typ hb.is (by decide) (by decide))
  have HDB := Hd.mk (hr.not_typ hbx.is (by decide) (by decide))
  have HFl := Hd.mk (flush_any w.drew D σ O ((f : Int) + 1) hF (hr.next (Keeps.refl _ _).drew))
  have hSd : w.drew.cell? ⟨b, 0, none⟩ = some (.pointer (some ⟨L, 0, none⟩)) ∧ Blk w.drew L 64 (lgCells D f v s e) := ⟨hbx.drew.at (j := 0) rfl, hb.drew⟩
  have HS := Hd.mk hSd
  have HBX := Hd.mk hbx.drew
  have wf : wrap64 ((f : Int) + 1) = (f : Int) + 1 := by unfold wrap64; omega
  have wf2 : IntKind.i64.wrap ((f : Int) + 1) = (f : Int) + 1 := IntWalk.i64_in _ (by omega)
  clear hF hr hb hbx hf6
  obtain ⟨E, hE⟩ : ∃ E, (FlushE σ ((f : Int) + 1) : Int) = E := ⟨_, rfl⟩
  obtain ⟨T, hT⟩ : ∃ T, FlushS σ ((f : Int) + 1) = T := ⟨_, rfl⟩
  rw [hE, hT] at HFl
  rw [hE, hT]
  clear hE hT
  go_enter Try.func49, Try.ntmps49
  go_wp2_with fail
  refine wp_region_lin default (fun w' => w'.cell? ⟨b, 0, none⟩ = some (.pointer (some ⟨L, 0, none⟩)) ∧ Blk w' L 64 (lgCells D f v s e)) [(0, true), (1, true), (2, true), (3, true), (4, true), (5, true), (6, true), (7, true), (8, true), (9, false), (10, true)] (by kernel_rfl) (by kernel_rfl) rfl (by kernel_rfl) (by kernel_rfl) hSd ?_
  simp only [pick, List.getD_cons_zero, List.getD_cons_succ]
  clear hSd
  repeat
    refine lin_free (v := ?_) (by rfl) ?_ ?_
    rotate_left
    · intro w' hSw
      have d0 := hSw.1
      have c0 := hSw.2.at (j := 0) rfl
      have c1 := hSw.2.at (j := 1) rfl
      go_simp
      first | done | with_reducible rfl
    simp only [Act.put, List.setIfInBounds_toArray, List.set_cons_zero, List.set_cons_succ]
  refine lin_bound (fun K hK => ?_)
  go_simp
  refine HFl.out.mono ?_
  rintro e w5 ⟨O', rfl, hr', hO', k⟩
  dsimp only
  have HR := Hd.mk hr'
  have HK := Hd.mk k
  have HO := Hd.mk hO'
  refine hK.out _ _ ⟨(k.blk HBX.out HDB.out).at (j := 0) rfl, k.blk HS.out.2 HD.out⟩ ?_
  clear hK K hr' k hO' HFl
  repeat
    refine lin_free (v := ?_) (by rfl) ?_ ?_
    rotate_left
    · intro w' hSw
      go_simp
      first | done | with_reducible rfl
    simp only [Act.put, List.setIfInBounds_toArray, List.set_cons_zero, List.set_cons_succ]
  refine NoPanic.normal ?_
  go_wp2
  go_ret
  exact ⟨O', rfl, HR.out, HO.out, (Keeps.refl _ w).drew.trans HK.out⟩

set_option maxRecDepth 100000 in
set_option maxHeartbeats 1000000 in
/-- Rewrite's last step: Turn -/
theorem jrew4_any (w : World) (b L D : Nat) (f : Nat) (v : Value) (s e : Int) (σ : St) (O : Option Nat) (hf6 : f ≤ 6) (hF : Fit σ) (hr : Rep w D σ O) (hbx : Blk w b 25 [.pointer (some ⟨L, 0, none⟩)]) (hb : Blk w L 64 (lgCells D f v s e)) :
    Calls Try.prog 51 #[.pointer (some ⟨b, 0, none⟩)] w fun e w' => ∃ O', e = .returned (.int .i64 (TurnE σ (f : Int) ((f : Int) + 1))) ∧ Rep w' D (TurnS σ (f : Int) ((f : Int) + 1)) O' ∧ (O' = O ∨ O' = none) ∧ Keeps (fun g => g = D ∨ O = some g) w w' := by
  have HD := Hd.mk (hr.not_typ hb.is (by decide) (by decide))
  have HDB := Hd.mk (hr.not_typ hbx.is (by decide) (by decide))
  have HFl := Hd.mk (turn_any w.drew D σ O (f : Int) ((f : Int) + 1) hF (hr.next (Keeps.refl _ _).drew))
  have hSd : w.drew.cell? ⟨b, 0, none⟩ = some (.pointer (some ⟨L, 0, none⟩)) ∧ Blk w.drew L 64 (lgCells D f v s e) := ⟨hbx.drew.at (j := 0) rfl, hb.drew⟩
  have HS := Hd.mk hSd
  have HBX := Hd.mk hbx.drew
  have wf : wrap64 ((f : Int) + 1) = (f : Int) + 1 := by unfold wrap64; omega
  have wf2 : IntKind.i64.wrap ((f : Int) + 1) = (f : Int) + 1 := IntWalk.i64_in _ (by omega)
  clear hF hr hb hbx hf6
  obtain ⟨E, hE⟩ : ∃ E, (TurnE σ (f : Int) ((f : Int) + 1) : Int) = E := ⟨_, rfl⟩
  obtain ⟨T, hT⟩ : ∃ T, TurnS σ (f : Int) ((f : Int) + 1) = T := ⟨_, rfl⟩
  rw [hE, hT] at HFl
  rw [hE, hT]
  clear hE hT
  go_enter Try.func51, Try.ntmps51
  go_wp2_with fail
  refine wp_region_lin default (fun w' => w'.cell? ⟨b, 0, none⟩ = some (.pointer (some ⟨L, 0, none⟩)) ∧ Blk w' L 64 (lgCells D f v s e)) [(0, true), (1, true), (2, true), (3, true), (4, true), (5, true), (6, true), (7, true), (8, true), (9, true), (10, true), (11, true), (12, true), (13, false), (14, true)] (by kernel_rfl) (by kernel_rfl) rfl (by kernel_rfl) (by kernel_rfl) hSd ?_
  simp only [pick, List.getD_cons_zero, List.getD_cons_succ]
  clear hSd
  repeat
    refine lin_free (v := ?_) (by rfl) ?_ ?_
    rotate_left
    · intro w' hSw
      have d0 := hSw.1
      have c0 := hSw.2.at (j := 0) rfl
      have c1 := hSw.2.at (j := 1) rfl
      go_simp
      first | done | with_reducible rfl
    simp only [Act.put, List.setIfInBounds_toArray, List.set_cons_zero, List.set_cons_succ]
  refine lin_bound (fun K hK => ?_)
  go_simp
  refine HFl.out.mono ?_
  rintro e w5 ⟨O', rfl, hr', hO', k⟩
  dsimp only
  have HR := Hd.mk hr'
  have HK := Hd.mk k
  have HO := Hd.mk hO'
  refine hK.out _ _ ⟨(k.blk HBX.out HDB.out).at (j := 0) rfl, k.blk HS.out.2 HD.out⟩ ?_
  clear hK K hr' k hO' HFl
  repeat
    refine lin_free (v := ?_) (by rfl) ?_ ?_
    rotate_left
    · intro w' hSw
      go_simp
      first | done | with_reducible rfl
    simp only [Act.put, List.setIfInBounds_toArray, List.set_cons_zero, List.set_cons_succ]
  refine NoPanic.normal ?_
  go_wp2
  go_ret
  exact ⟨O', rfl, HR.out, HO.out, (Keeps.refl _ w).drew.trans HK.out⟩

set_option maxRecDepth 100000 in
set_option maxHeartbeats 1000000 in
/-- Flush's second step: the header -/
theorem jflush1_any (w : World) (b L D : Nat) (f : Nat) (p : Option Addr) (n c : Nat) (s : Int) (e : Nat) (σ : St) (O : Option Nat) (hn : n ≤ 9223372036854775807) (he : e ≤ 9223372036854775807) (hF : Fit σ) (hq : σ.queue.length + 16 ≤ 1000000000) (hr : Rep w D σ O) (hbx : Blk w b 25 [.pointer (some ⟨L, 0, none⟩)]) (hb : Blk w L 64 (lgCells D f (.slice p n c) s e)) :
    Calls Try.prog 40 #[.pointer (some ⟨b, 0, none⟩)] w fun e' w' => ∃ O', e' = .returned (.int .i64 (WriteE σ f 0 (headL e n))) ∧ Rep w' D (WriteS σ f 0 (headL e n)) O' ∧ (∀ g, O' = some g → O = some g ∨ w.heap.size ≤ g) ∧ Keeps (fun g => g = D ∨ O = some g) w w' := by
  have HD := Hd.mk (hr.not_typ hb.is (by decide) (by decide))
  have HDB := Hd.mk (hr.not_typ hbx.is (by decide) (by decide))
  have HFl : Hd (∀ w1, Keeps (fun _ => False) w w1 → Calls Try.prog 18 #[.pointer (some ⟨D, 0, none⟩), .int .i64 f, .int .i64 0, .string ⟨(headL e n).toArray⟩] w1 fun e' w' => ∃ O', e' = .returned (.int .i64 (WriteE σ f 0 (headL e n))) ∧ Rep w' D (WriteS σ f 0 (headL e n)) O' ∧ (∀ g, O' = some g → O = some g ∨ w1.heap.size ≤ g) ∧ Keeps (fun g => g = D ∨ O = some g) w1 w') := ⟨fun w1 k =>
    Write_any w1 D σ O f 0 ⟨(headL e n).toArray⟩ hF (by rw [show (⟨(headL e n).toArray⟩ : ByteArray).size = 16 from headL_len e n]; exact hq) (by decide) (by rw [show (⟨(headL e n).toArray⟩ : ByteArray).size = 16 from headL_len e n]; decide) (hr.next k)⟩
  have HH := Hd.mk (fun w1 => header_any e n w1 he hn)
  have hSd : w.drew.cell? ⟨b, 0, none⟩ = some (.pointer (some ⟨L, 0, none⟩)) ∧ Blk w.drew L 64 (lgCells D f (.slice p n c) s e) := ⟨hbx.drew.at (j := 0) rfl, hb.drew⟩
  have HB := Hd.mk hb
  have HBX := Hd.mk hbx
  clear hF hr hb hbx hn he hq
  obtain ⟨hs, hhs⟩ : ∃ hs, (⟨(headL e n).toArray⟩ : ByteArray) = hs := ⟨_, rfl⟩
  rw [hhs] at HFl HH
  obtain ⟨E, hE⟩ : ∃ E, (WriteE σ f 0 (headL e n) : Int) = E := ⟨_, rfl⟩
  obtain ⟨T, hT⟩ : ∃ T, WriteS σ f 0 (headL e n) = T := ⟨_, rfl⟩
  rw [hE, hT] at HFl
  rw [hE, hT]
  clear hE hT hhs
  go_enter Try.func40, Try.ntmps40
  go_wp2_with fail
  refine wp_region_lin default (fun w' => w'.cell? ⟨b, 0, none⟩ = some (.pointer (some ⟨L, 0, none⟩)) ∧ Blk w' L 64 (lgCells D f (.slice p n c) s e)) [(0, true), (1, true), (2, true), (3, true), (4, true), (5, true), (6, true), (7, true), (8, true), (9, true), (10, true), (11, true), (12, true), (13, true), (14, true), (15, true), (16, true), (17, false), (18, false), (19, true)] (by kernel_rfl) (by kernel_rfl) rfl (by kernel_rfl) (by kernel_rfl) hSd ?_
  simp only [pick, List.getD_cons_zero, List.getD_cons_succ]
  clear hSd
  repeat
    refine lin_free (v := ?_) (by rfl) ?_ ?_
    rotate_left
    · intro w' hSw
      have d0 := hSw.1
      have c0 := hSw.2.at (j := 0) rfl
      have c1 := hSw.2.at (j := 1) rfl
      have c2 := hSw.2.at (j := 2) rfl
      have c4 := hSw.2.at (j := 4) rfl
      go_simp
      first | done | with_reducible rfl
    simp only [Act.put, List.setIfInBounds_toArray, List.set_cons_zero, List.set_cons_succ]
  refine lin_bound (fun K hK => ?_)
  go_simp
  refine (HH.out _).mono ?_
  rintro e' w4 ⟨rfl, hb4⟩
  dsimp only
  have K4 : Hd (Keeps (fun _ => False) w w4) := ⟨(Keeps.refl _ w).drew.trans (Keeps.of_below hb4 (fun k h1 h2 => absurd h1 (Nat.not_lt.2 h2)))⟩
  have hS4 : w4.cell? ⟨b, 0, none⟩ = some (.pointer (some ⟨L, 0, none⟩)) ∧ Blk w4 L 64 (lgCells D f (.slice p n c) s e) := ⟨(K4.out.blk HBX.out (fun h => h)).at (j := 0) rfl, K4.out.blk HB.out (fun h => h)⟩
  refine hK.out _ _ hS4 ?_
  clear hK K hb4 hS4
  repeat
    refine lin_free (v := ?_) (by rfl) ?_ ?_
    rotate_left
    · intro w' hSw
      go_simp
      first | done | with_reducible rfl
    simp only [Act.put, List.setIfInBounds_toArray, List.set_cons_zero, List.set_cons_succ]
  refine lin_bound (fun K hK => ?_)
  go_simp
  refine (HFl.out w4 K4.out).mono ?_
  rintro e' w5 ⟨O', rfl, hr', hO', k⟩
  dsimp only
  have HR := Hd.mk hr'
  have HO : Hd (∀ g, O' = some g → O = some g ∨ w.heap.size ≤ g) := ⟨fun g hg => (hO' g hg).imp_right (Nat.le_trans K4.out.size)⟩
  have HK : Hd (Keeps (fun g => g = D ∨ O = some g) w w5) := ⟨(K4.out.mono (fun _ _ h => h.elim)).trans k⟩
  refine hK.out _ _ ⟨(HK.out.blk HBX.out HDB.out).at (j := 0) rfl, HK.out.blk HB.out HD.out⟩ ?_
  clear hK K hr' k hO' HFl
  repeat
    refine lin_free (v := ?_) (by rfl) ?_ ?_
    rotate_left
    · intro w' hSw
      go_simp
      first | done | with_reducible rfl
    simp only [Act.put, List.setIfInBounds_toArray, List.set_cons_zero, List.set_cons_succ]
  refine NoPanic.normal ?_
  go_wp2
  go_ret
  exact ⟨O', rfl, HR.out, HO.out, HK.out⟩

end Go.Proofs.Ytmcdfhihfcfbaaa.W
