/-
  The walk of the reference's Uses.
-/
import Derived.Test.YtlohhlbbkliehaaGreatDoorRg9
namespace Go.Proofs.YtlohhlbbkliehaaGreatDoor.W
open Go.RowKit
set_option linter.unusedVariables false

theorem uR {op a b c m : Int} {L : List UInt8} (h : rightB op a b c m = true) (h30 : op ≠ 30) (e : readsL op.toNat = L) : usesR op a b c m = regsL a b c m L := by
  unfold usesR; rw [if_pos h, if_neg h30, e]
theorem uW {op a b c m : Int} {L : List UInt8} (h : rightB op a b c m = true) (h30 : op ≠ 30) (e : writesL op.toNat = L) : usesW op a b c m = regsL a b c m L := by
  unfold usesW; rw [if_pos h, if_neg h30, e]
theorem regs0 (a b c m : Int) : regsL a b c m [] = [] := List.eq_nil_of_length_eq_zero (Nat.le_zero.1 (regs_len a b c m []))
theorem regs1 {a b c m x : Int} {ch : UInt8} (h : regN a b c m ch = x) : regsL a b c m [ch] = [x] := by
  obtain ⟨g1, g2⟩ := regs_sorted a b c m [ch]
  refine sorted_ext _ _ g1 (by simp) (fun z => ?_)
  rw [g2]
  simp [h, eq_comm]
theorem regs2 {a b c m x y : Int} {ch dh : UInt8} (h1 : regN a b c m ch = x) (h2 : regN a b c m dh = y) (hx : 0 ≤ x ∧ x ≤ 15) (hy : 0 ≤ y ∧ y ≤ 15) : regsL a b c m [ch, dh] = useL [x, y] 16 := by
  refine (use_regs (fun z => ?_) (fun z hz => ?_)).symm
  · simp [h1, h2, eq_comm]
  · simp only [List.mem_cons, List.not_mem_nil, or_false] at hz
    rcases hz with rfl | rfl
    · exact hx
    · exact hy
theorem ops2 {w : World} {g c : Nat} {T : TypeId} {x y : Int} (hb : Blk w g T [.int .i64 x, .int .i64 y]) : OpsAt w (.slice (some ⟨g, 0, none⟩) 2 c) [x, y] :=
  ⟨.inr ⟨by simp, g, 0, c, rfl, hb.lt, fun j z hj => by
    rw [Nat.zero_add]
    exact hb.at (by
      rcases j with _ | _ | j
      · injection hj with hj; subst hj; rfl
      · injection hj with hj; subst hj; rfl
      · simp at hj)⟩⟩

set_option maxHeartbeats 8000000 in
set_option maxRecDepth 100000 in
theorem ruses9_any (op a b c m : Int) (w : World) :
    Calls Tryz.prog 20 #[.agg #[.int .i64 op, .int .i64 a, .int .i64 b, .int .i64 c, .int .i64 m]] w fun e w' => ∃ v1 v2, e = .returned (.tuple #[v1, v2]) ∧ Rw 1 intE w' v1 (usesR op a b c m) ∧ Rw 1 intE w' v2 (usesW op a b c m) ∧ Below w.heap.size w w' := by
  have hbl := Blk.new w 23 [.int .i64 op, .int .i64 a, .int .i64 b, .int .i64 c, .int .i64 m]
  have HB := Hd.mk hbl
  have HR := Hd.mk (rright_any op a b c m (w.alloc (.cells #[.int .i64 op, .int .i64 a, .int .i64 b, .int .i64 c, .int .i64 m] 23)))
  obtain ⟨r, hr⟩ : ∃ r, rightB op a b c m = r := ⟨_, rfl⟩
  rw [hr] at HR
  clear hbl
  rcases r with _ | _
  · have HX : Hd (usesR op a b c m = [] ∧ usesW op a b c m = []) := ⟨by unfold usesR usesW; rw [hr]; exact ⟨rfl, rfl⟩⟩
    clear hr
    go_enter Tryz.func20, Tryz.ntmps20
    go_wp2_with fail
    refine HR.out.mono ?_
    rintro e w1 ⟨rfl, k1⟩
    have K1 : Hd (Below w.heap.size w w1) := ⟨Below.chain ((Below.refl _ _).alloc (Nat.le_refl _) _) k1⟩
    clear k1
    go_wp2
    go_ret2
    exact ⟨_, _, rfl, by rw [HX.out.1]; exact Rw.nil _, by rw [HX.out.2]; exact Rw.nil _, K1.out⟩
  · have hp := right_parts hr
    have ha := hp.a
    have hb := hp.b
    have hc := hp.c
    have H30 : Hd (op = 30 → 0 ≤ m ∧ m < 8) := ⟨fun e => by
      have h := hr
      unfold rightB at h
      simp only [Bool.and_eq_true, decide_eq_true_eq] at h
      have h2 := h.2.1
      unfold immB at h2
      rw [if_neg (by omega), if_neg (by omega), if_pos e] at h2
      simp only [Bool.and_eq_true, decide_eq_true_eq] at h2
      exact h2⟩
    have hcl : (op = 1 ∨ op = 2 ∨ op = 19 ∨ op = 25) ∨ (op = 3 ∨ op = 14) ∨ op = 4 ∨ (op = 5 ∨ op = 13 ∨ op = 15 ∨ op = 16 ∨ op = 29) ∨ (op = 6 ∨ op = 7 ∨ op = 8 ∨ op = 9 ∨ op = 10 ∨ op = 11 ∨ op = 12) ∨ (op = 17 ∨ op = 18) ∨ (op = 20 ∨ op = 21) ∨ (op = 22 ∨ op = 24 ∨ op = 26) ∨ (op = 23 ∨ op = 27) ∨ op = 28 ∨ op = 30 := by have := hp.op; omega
    clear hp
    rcases hcl with h | h | h | h | h | h | h | h | h | h | h
    · rcases h with rfl | rfl | rfl | rfl
      all_goals
        have eR : Hd (usesR _ a b c m = []) := ⟨(uR hr (by decide) (L := []) (by decide +kernel)).trans (regs0 _ _ _ _)⟩
        have eW : Hd (usesW _ a b c m = []) := ⟨(uW hr (by decide) (L := []) (by decide +kernel)).trans (regs0 _ _ _ _)⟩
        rw [eR.out, eW.out]
        clear eR eW hr H30
        go_enter Tryz.func20, Tryz.ntmps20
        go_wp2_with fail
        refine HR.out.mono ?_
        rintro e w1 ⟨rfl, k1⟩
        have HI := Hd.mk (HB.out.below k1 HB.out.lt)
        have K1 : Hd (Below w.heap.size w w1) := ⟨Below.chain ((Below.refl _ _).alloc (Nat.le_refl _) _) k1⟩
        have c0 := HI.out.at (j := 0) rfl
        have c1 := HI.out.at (j := 1) rfl
        have c2 := HI.out.at (j := 2) rfl
        have c3 := HI.out.at (j := 3) rfl
        have c4 := HI.out.at (j := 4) rfl
        clear k1 HR HB
        go_wp2
        go_ret2
        exact ⟨_, _, rfl, Rw.nil _, Rw.nil _, K1.out⟩
    · rcases h with rfl | rfl
      all_goals
        have eR : Hd (usesR _ a b c m = []) := ⟨(uR hr (by decide) (L := []) (by decide +kernel)).trans (regs0 _ _ _ _)⟩
        have eW : Hd (usesW _ a b c m = [a]) := ⟨(uW hr (by decide) (L := [65]) (by decide +kernel)).trans (regs1 (ch := 65) rfl)⟩
        rw [eR.out, eW.out]
        clear eR eW hr H30
        go_enter Tryz.func20, Tryz.ntmps20
        go_wp2_with fail
        refine HR.out.mono ?_
        rintro e w1 ⟨rfl, k1⟩
        have HI := Hd.mk (HB.out.below k1 HB.out.lt)
        have K1 : Hd (Below w.heap.size w w1) := ⟨Below.chain ((Below.refl _ _).alloc (Nat.le_refl _) _) k1⟩
        have c0 := HI.out.at (j := 0) rfl
        have c1 := HI.out.at (j := 1) rfl
        have c2 := HI.out.at (j := 2) rfl
        have c3 := HI.out.at (j := 3) rfl
        have c4 := HI.out.at (j := 4) rfl
        clear k1 HR HB
        go_wp2_with fail
        obtain ⟨I, hI⟩ : ∃ I, w.heap.size = I := ⟨_, rfl⟩
        rw [hI] at HI
        have SD := Hd.mk HI.out.drew
        have KD := Hd.mk K1.out.drew
        refine wp_region_tr default (fun w' => Blk w' I 23 _) (.free 0 <| .free 1 <| .free 3 <| .one 2 <| .free 4 .done) (by kernel_rfl) (by kernel_rfl) rfl (by kernel_rfl) (by kernel_rfl) SD.out ?_
        obtain ⟨wd, hwd⟩ : ∃ x, w1.drew = x := ⟨_, rfl⟩
        rw [hwd] at SD KD ⊢
        (try rw [hI])
        clear hwd hI c0 c1 c2 c3 c4
        repeat
          refine tr_free (v := ?_) (by rfl) ?_ ?_
          rotate_left
          · intro w' hSw
            have c0 := hSw.at (j := 0) rfl
            have c1 := hSw.at (j := 1) rfl
            have c2 := hSw.at (j := 2) rfl
            have c3 := hSw.at (j := 3) rfl
            have c4 := hSw.at (j := 4) rfl
            clear hSw
            go_simp
            first | done | with_reducible rfl
          simp only [Act.put, List.setIfInBounds_toArray, List.set_cons_zero, List.set_cons_succ, List.getD_cons_zero, List.getD_cons_succ]
        refine tr_one (fun K hK => ?_)
        go_simp
        have nb1 := Blk.new wd 3 [.int .i64 a]
        obtain ⟨x1, hx1⟩ : ∃ X, wd.alloc (.cells #[.int .i64 a] 3) = X := ⟨_, rfl⟩
        have hx1' : wd.alloc (.cells [.int .i64 a].toArray 3) = x1 := hx1
        rw [hx1'] at nb1
        have S101 := Hd.mk (hx1 ▸ SD.out.alloc (.cells #[.int .i64 a] 3))
        have K101 := Hd.mk (hx1 ▸ KD.out.alloc KD.out.size (.cells #[.int .i64 a] 3))
        rw [hx1]
        obtain ⟨g1, hg1⟩ : ∃ g, wd.heap.size = g := ⟨_, rfl⟩
        rw [hg1] at nb1 ⊢
        have B1 := Hd.mk nb1
        refine hK.out _ _ S101.out ?_
        clear hK K hx1 hx1' hg1 nb1
        repeat
          refine tr_free (v := ?_) (by rfl) ?_ ?_
          rotate_left
          · intro w' hSw
            have c0 := hSw.at (j := 0) rfl
            have c1 := hSw.at (j := 1) rfl
            have c2 := hSw.at (j := 2) rfl
            have c3 := hSw.at (j := 3) rfl
            have c4 := hSw.at (j := 4) rfl
            clear hSw
            go_simp
            first | done | with_reducible rfl
          simp only [Act.put, List.setIfInBounds_toArray, List.set_cons_zero, List.set_cons_succ, List.getD_cons_zero, List.getD_cons_succ]
        refine NoPanic.normal ?_
        go_wp2
        go_ret2
        exact ⟨_, _, rfl, Rw.nil _, rw1 B1.out, K101.out⟩
    · subst h
      have eR : Hd (usesR _ a b c m = [a]) := ⟨(uR hr (by decide) (L := [65]) (by decide +kernel)).trans (regs1 (ch := 65) rfl)⟩
      have eW : Hd (usesW _ a b c m = [a]) := ⟨(uW hr (by decide) (L := [65]) (by decide +kernel)).trans (regs1 (ch := 65) rfl)⟩
      rw [eR.out, eW.out]
      clear eR eW hr H30
      go_enter Tryz.func20, Tryz.ntmps20
      go_wp2_with fail
      refine HR.out.mono ?_
      rintro e w1 ⟨rfl, k1⟩
      have HI := Hd.mk (HB.out.below k1 HB.out.lt)
      have K1 : Hd (Below w.heap.size w w1) := ⟨Below.chain ((Below.refl _ _).alloc (Nat.le_refl _) _) k1⟩
      have c0 := HI.out.at (j := 0) rfl
      have c1 := HI.out.at (j := 1) rfl
      have c2 := HI.out.at (j := 2) rfl
      have c3 := HI.out.at (j := 3) rfl
      have c4 := HI.out.at (j := 4) rfl
      clear k1 HR HB
      go_wp2_with fail
      obtain ⟨I, hI⟩ : ∃ I, w.heap.size = I := ⟨_, rfl⟩
      rw [hI] at HI
      have SD := Hd.mk HI.out.drew
      have KD := Hd.mk K1.out.drew
      refine wp_region_tr default (fun w' => Blk w' I 23 _) (.free 0 <| .free 1 <| .free 3 <| .free 4 <| .two 2 (.free 6 <| .one 5 <| .free 7 .done) 5 (.one 2 <| .free 6 <| .free 7 .done)) (by kernel_rfl) (by kernel_rfl) rfl (by kernel_rfl) (by kernel_rfl) SD.out ?_
      obtain ⟨wd, hwd⟩ : ∃ x, w1.drew = x := ⟨_, rfl⟩
      rw [hwd] at SD KD ⊢
      (try rw [hI])
      clear hwd hI c0 c1 c2 c3 c4
      repeat
        refine tr_free (v := ?_) (by rfl) ?_ ?_
        rotate_left
        · intro w' hSw
          have c0 := hSw.at (j := 0) rfl
          have c1 := hSw.at (j := 1) rfl
          have c2 := hSw.at (j := 2) rfl
          have c3 := hSw.at (j := 3) rfl
          have c4 := hSw.at (j := 4) rfl
          clear hSw
          go_simp
          first | done | with_reducible rfl
        simp only [Act.put, List.setIfInBounds_toArray, List.set_cons_zero, List.set_cons_succ, List.getD_cons_zero, List.getD_cons_succ]
      refine tr_two ?_ ?_
      · refine tr_one (fun K hK => ?_)
        go_simp
        have nb2 := Blk.new wd 3 [.int .i64 a]
        obtain ⟨x2, hx2⟩ : ∃ X, wd.alloc (.cells #[.int .i64 a] 3) = X := ⟨_, rfl⟩
        have hx2' : wd.alloc (.cells [.int .i64 a].toArray 3) = x2 := hx2
        rw [hx2'] at nb2
        have S102 := Hd.mk (hx2 ▸ SD.out.alloc (.cells #[.int .i64 a] 3))
        have K102 := Hd.mk (hx2 ▸ KD.out.alloc KD.out.size (.cells #[.int .i64 a] 3))
        rw [hx2]
        obtain ⟨g2, hg2⟩ : ∃ g, wd.heap.size = g := ⟨_, rfl⟩
        rw [hg2] at nb2 ⊢
        have B2 := Hd.mk nb2
        refine hK.out _ _ S102.out ?_
        clear hK K hx2 hx2' hg2 nb2
        repeat
          refine tr_free (v := ?_) (by rfl) ?_ ?_
          rotate_left
          · intro w' hSw
            have c0 := hSw.at (j := 0) rfl
            have c1 := hSw.at (j := 1) rfl
            have c2 := hSw.at (j := 2) rfl
            have c3 := hSw.at (j := 3) rfl
            have c4 := hSw.at (j := 4) rfl
            clear hSw
            go_simp
            first | done | with_reducible rfl
          simp only [Act.put, List.setIfInBounds_toArray, List.set_cons_zero, List.set_cons_succ, List.getD_cons_zero, List.getD_cons_succ]
        refine tr_one (fun K hK => ?_)
        go_simp
        have nb3 := Blk.new x2 3 [.int .i64 a]
        obtain ⟨x3, hx3⟩ : ∃ X, x2.alloc (.cells #[.int .i64 a] 3) = X := ⟨_, rfl⟩
        have hx3' : x2.alloc (.cells [.int .i64 a].toArray 3) = x3 := hx3
        rw [hx3'] at nb3
        have S103 := Hd.mk (hx3 ▸ S102.out.alloc (.cells #[.int .i64 a] 3))
        have K103 := Hd.mk (hx3 ▸ K102.out.alloc K102.out.size (.cells #[.int .i64 a] 3))
        have B2' := Hd.mk (hx3 ▸ B2.out.alloc (.cells #[.int .i64 a] 3))
        rw [hx3]
        obtain ⟨g3, hg3⟩ : ∃ g, x2.heap.size = g := ⟨_, rfl⟩
        rw [hg3] at nb3 ⊢
        have B3 := Hd.mk nb3
        refine hK.out _ _ S103.out ?_
        clear hK K hx3 hx3' hg3 nb3
        repeat
          refine tr_free (v := ?_) (by rfl) ?_ ?_
          rotate_left
          · intro w' hSw
            have c0 := hSw.at (j := 0) rfl
            have c1 := hSw.at (j := 1) rfl
            have c2 := hSw.at (j := 2) rfl
            have c3 := hSw.at (j := 3) rfl
            have c4 := hSw.at (j := 4) rfl
            clear hSw
            go_simp
            first | done | with_reducible rfl
          simp only [Act.put, List.setIfInBounds_toArray, List.set_cons_zero, List.set_cons_succ, List.getD_cons_zero, List.getD_cons_succ]
        refine NoPanic.normal ?_
        go_wp2
        go_ret2
        exact ⟨_, _, rfl, rw1 B2'.out, rw1 B3.out, K103.out⟩
      · refine tr_one (fun K hK => ?_)
        go_simp
        have nb4 := Blk.new wd 3 [.int .i64 a]
        obtain ⟨x4, hx4⟩ : ∃ X, wd.alloc (.cells #[.int .i64 a] 3) = X := ⟨_, rfl⟩
        have hx4' : wd.alloc (.cells [.int .i64 a].toArray 3) = x4 := hx4
        rw [hx4'] at nb4
        have S104 := Hd.mk (hx4 ▸ SD.out.alloc (.cells #[.int .i64 a] 3))
        have K104 := Hd.mk (hx4 ▸ KD.out.alloc KD.out.size (.cells #[.int .i64 a] 3))
        rw [hx4]
        obtain ⟨g4, hg4⟩ : ∃ g, wd.heap.size = g := ⟨_, rfl⟩
        rw [hg4] at nb4 ⊢
        have B4 := Hd.mk nb4
        refine hK.out _ _ S104.out ?_
        clear hK K hx4 hx4' hg4 nb4
        refine tr_one (fun K hK => ?_)
        go_simp
        have nb5 := Blk.new x4 3 [.int .i64 a]
        obtain ⟨x5, hx5⟩ : ∃ X, x4.alloc (.cells #[.int .i64 a] 3) = X := ⟨_, rfl⟩
        have hx5' : x4.alloc (.cells [.int .i64 a].toArray 3) = x5 := hx5
        rw [hx5'] at nb5
        have S105 := Hd.mk (hx5 ▸ S104.out.alloc (.cells #[.int .i64 a] 3))
        have K105 := Hd.mk (hx5 ▸ K104.out.alloc K104.out.size (.cells #[.int .i64 a] 3))
        have B4' := Hd.mk (hx5 ▸ B4.out.alloc (.cells #[.int .i64 a] 3))
        rw [hx5]
        obtain ⟨g5, hg5⟩ : ∃ g, x4.heap.size = g := ⟨_, rfl⟩
        rw [hg5] at nb5 ⊢
        have B5 := Hd.mk nb5
        refine hK.out _ _ S105.out ?_
        clear hK K hx5 hx5' hg5 nb5
        repeat
          refine tr_free (v := ?_) (by rfl) ?_ ?_
          rotate_left
          · intro w' hSw
            have c0 := hSw.at (j := 0) rfl
            have c1 := hSw.at (j := 1) rfl
            have c2 := hSw.at (j := 2) rfl
            have c3 := hSw.at (j := 3) rfl
            have c4 := hSw.at (j := 4) rfl
            clear hSw
            go_simp
            first | done | with_reducible rfl
          simp only [Act.put, List.setIfInBounds_toArray, List.set_cons_zero, List.set_cons_succ, List.getD_cons_zero, List.getD_cons_succ]
        refine NoPanic.normal ?_
        go_wp2
        go_ret2
        exact ⟨_, _, rfl, rw1 B5.out, rw1 B4'.out, K105.out⟩
    · rcases h with rfl | rfl | rfl | rfl | rfl
      all_goals
        have eR : Hd (usesR _ a b c m = [b]) := ⟨(uR hr (by decide) (L := [66]) (by decide +kernel)).trans (regs1 (ch := 66) rfl)⟩
        have eW : Hd (usesW _ a b c m = [a]) := ⟨(uW hr (by decide) (L := [65]) (by decide +kernel)).trans (regs1 (ch := 65) rfl)⟩
        rw [eR.out, eW.out]
        clear eR eW hr H30
        go_enter Tryz.func20, Tryz.ntmps20
        go_wp2_with fail
        refine HR.out.mono ?_
        rintro e w1 ⟨rfl, k1⟩
        have HI := Hd.mk (HB.out.below k1 HB.out.lt)
        have K1 : Hd (Below w.heap.size w w1) := ⟨Below.chain ((Below.refl _ _).alloc (Nat.le_refl _) _) k1⟩
        have c0 := HI.out.at (j := 0) rfl
        have c1 := HI.out.at (j := 1) rfl
        have c2 := HI.out.at (j := 2) rfl
        have c3 := HI.out.at (j := 3) rfl
        have c4 := HI.out.at (j := 4) rfl
        clear k1 HR HB
        go_wp2_with fail
        obtain ⟨I, hI⟩ : ∃ I, w.heap.size = I := ⟨_, rfl⟩
        rw [hI] at HI
        have SD := Hd.mk HI.out.drew
        have KD := Hd.mk K1.out.drew
        refine wp_region_tr default (fun w' => Blk w' I 23 _) (.free 0 <| .free 1 <| .free 3 <| .free 4 <| .two 2 (.free 6 <| .one 5 <| .free 7 .done) 5 (.one 2 <| .free 6 <| .free 7 .done)) (by kernel_rfl) (by kernel_rfl) rfl (by kernel_rfl) (by kernel_rfl) SD.out ?_
        obtain ⟨wd, hwd⟩ : ∃ x, w1.drew = x := ⟨_, rfl⟩
        rw [hwd] at SD KD ⊢
        (try rw [hI])
        clear hwd hI c0 c1 c2 c3 c4
        repeat
          refine tr_free (v := ?_) (by rfl) ?_ ?_
          rotate_left
          · intro w' hSw
            have c0 := hSw.at (j := 0) rfl
            have c1 := hSw.at (j := 1) rfl
            have c2 := hSw.at (j := 2) rfl
            have c3 := hSw.at (j := 3) rfl
            have c4 := hSw.at (j := 4) rfl
            clear hSw
            go_simp
            first | done | with_reducible rfl
          simp only [Act.put, List.setIfInBounds_toArray, List.set_cons_zero, List.set_cons_succ, List.getD_cons_zero, List.getD_cons_succ]
        refine tr_two ?_ ?_
        · refine tr_one (fun K hK => ?_)
          go_simp
          have nb6 := Blk.new wd 3 [.int .i64 b]
          obtain ⟨x6, hx6⟩ : ∃ X, wd.alloc (.cells #[.int .i64 b] 3) = X := ⟨_, rfl⟩
          have hx6' : wd.alloc (.cells [.int .i64 b].toArray 3) = x6 := hx6
          rw [hx6'] at nb6
          have S106 := Hd.mk (hx6 ▸ SD.out.alloc (.cells #[.int .i64 b] 3))
          have K106 := Hd.mk (hx6 ▸ KD.out.alloc KD.out.size (.cells #[.int .i64 b] 3))
          rw [hx6]
          obtain ⟨g6, hg6⟩ : ∃ g, wd.heap.size = g := ⟨_, rfl⟩
          rw [hg6] at nb6 ⊢
          have B6 := Hd.mk nb6
          refine hK.out _ _ S106.out ?_
          clear hK K hx6 hx6' hg6 nb6
          repeat
            refine tr_free (v := ?_) (by rfl) ?_ ?_
            rotate_left
            · intro w' hSw
              have c0 := hSw.at (j := 0) rfl
              have c1 := hSw.at (j := 1) rfl
              have c2 := hSw.at (j := 2) rfl
              have c3 := hSw.at (j := 3) rfl
              have c4 := hSw.at (j := 4) rfl
              clear hSw
              go_simp
              first | done | with_reducible rfl
            simp only [Act.put, List.setIfInBounds_toArray, List.set_cons_zero, List.set_cons_succ, List.getD_cons_zero, List.getD_cons_succ]
          refine tr_one (fun K hK => ?_)
          go_simp
          have nb7 := Blk.new x6 3 [.int .i64 a]
          obtain ⟨x7, hx7⟩ : ∃ X, x6.alloc (.cells #[.int .i64 a] 3) = X := ⟨_, rfl⟩
          have hx7' : x6.alloc (.cells [.int .i64 a].toArray 3) = x7 := hx7
          rw [hx7'] at nb7
          have S107 := Hd.mk (hx7 ▸ S106.out.alloc (.cells #[.int .i64 a] 3))
          have K107 := Hd.mk (hx7 ▸ K106.out.alloc K106.out.size (.cells #[.int .i64 a] 3))
          have B6' := Hd.mk (hx7 ▸ B6.out.alloc (.cells #[.int .i64 a] 3))
          rw [hx7]
          obtain ⟨g7, hg7⟩ : ∃ g, x6.heap.size = g := ⟨_, rfl⟩
          rw [hg7] at nb7 ⊢
          have B7 := Hd.mk nb7
          refine hK.out _ _ S107.out ?_
          clear hK K hx7 hx7' hg7 nb7
          repeat
            refine tr_free (v := ?_) (by rfl) ?_ ?_
            rotate_left
            · intro w' hSw
              have c0 := hSw.at (j := 0) rfl
              have c1 := hSw.at (j := 1) rfl
              have c2 := hSw.at (j := 2) rfl
              have c3 := hSw.at (j := 3) rfl
              have c4 := hSw.at (j := 4) rfl
              clear hSw
              go_simp
              first | done | with_reducible rfl
            simp only [Act.put, List.setIfInBounds_toArray, List.set_cons_zero, List.set_cons_succ, List.getD_cons_zero, List.getD_cons_succ]
          refine NoPanic.normal ?_
          go_wp2
          go_ret2
          exact ⟨_, _, rfl, rw1 B6'.out, rw1 B7.out, K107.out⟩
        · refine tr_one (fun K hK => ?_)
          go_simp
          have nb8 := Blk.new wd 3 [.int .i64 a]
          obtain ⟨x8, hx8⟩ : ∃ X, wd.alloc (.cells #[.int .i64 a] 3) = X := ⟨_, rfl⟩
          have hx8' : wd.alloc (.cells [.int .i64 a].toArray 3) = x8 := hx8
          rw [hx8'] at nb8
          have S108 := Hd.mk (hx8 ▸ SD.out.alloc (.cells #[.int .i64 a] 3))
          have K108 := Hd.mk (hx8 ▸ KD.out.alloc KD.out.size (.cells #[.int .i64 a] 3))
          rw [hx8]
          obtain ⟨g8, hg8⟩ : ∃ g, wd.heap.size = g := ⟨_, rfl⟩
          rw [hg8] at nb8 ⊢
          have B8 := Hd.mk nb8
          refine hK.out _ _ S108.out ?_
          clear hK K hx8 hx8' hg8 nb8
          refine tr_one (fun K hK => ?_)
          go_simp
          have nb9 := Blk.new x8 3 [.int .i64 b]
          obtain ⟨x9, hx9⟩ : ∃ X, x8.alloc (.cells #[.int .i64 b] 3) = X := ⟨_, rfl⟩
          have hx9' : x8.alloc (.cells [.int .i64 b].toArray 3) = x9 := hx9
          rw [hx9'] at nb9
          have S109 := Hd.mk (hx9 ▸ S108.out.alloc (.cells #[.int .i64 b] 3))
          have K109 := Hd.mk (hx9 ▸ K108.out.alloc K108.out.size (.cells #[.int .i64 b] 3))
          have B8' := Hd.mk (hx9 ▸ B8.out.alloc (.cells #[.int .i64 b] 3))
          rw [hx9]
          obtain ⟨g9, hg9⟩ : ∃ g, x8.heap.size = g := ⟨_, rfl⟩
          rw [hg9] at nb9 ⊢
          have B9 := Hd.mk nb9
          refine hK.out _ _ S109.out ?_
          clear hK K hx9 hx9' hg9 nb9
          repeat
            refine tr_free (v := ?_) (by rfl) ?_ ?_
            rotate_left
            · intro w' hSw
              have c0 := hSw.at (j := 0) rfl
              have c1 := hSw.at (j := 1) rfl
              have c2 := hSw.at (j := 2) rfl
              have c3 := hSw.at (j := 3) rfl
              have c4 := hSw.at (j := 4) rfl
              clear hSw
              go_simp
              first | done | with_reducible rfl
            simp only [Act.put, List.setIfInBounds_toArray, List.set_cons_zero, List.set_cons_succ, List.getD_cons_zero, List.getD_cons_succ]
          refine NoPanic.normal ?_
          go_wp2
          go_ret2
          exact ⟨_, _, rfl, rw1 B9.out, rw1 B8'.out, K109.out⟩
    · rcases h with rfl | rfl | rfl | rfl | rfl | rfl | rfl
      all_goals
        have eR : Hd (usesR _ a b c m = useL [b, c] 16) := ⟨(uR hr (by decide) (L := [66, 67]) (by decide +kernel)).trans (regs2 (ch := 66) (dh := 67) rfl rfl hb hc)⟩
        have eW : Hd (usesW _ a b c m = [a]) := ⟨(uW hr (by decide) (L := [65]) (by decide +kernel)).trans (regs1 (ch := 65) rfl)⟩
        rw [eR.out, eW.out]
        clear eR eW hr H30
        go_enter Tryz.func20, Tryz.ntmps20
        go_wp2_with fail
        refine HR.out.mono ?_
        rintro e w1 ⟨rfl, k1⟩
        have HI := Hd.mk (HB.out.below k1 HB.out.lt)
        have K1 : Hd (Below w.heap.size w w1) := ⟨Below.chain ((Below.refl _ _).alloc (Nat.le_refl _) _) k1⟩
        have c0 := HI.out.at (j := 0) rfl
        have c1 := HI.out.at (j := 1) rfl
        have c2 := HI.out.at (j := 2) rfl
        have c3 := HI.out.at (j := 3) rfl
        have c4 := HI.out.at (j := 4) rfl
        clear k1 HR HB
        go_wp2_with fail
        obtain ⟨I, hI⟩ : ∃ I, w.heap.size = I := ⟨_, rfl⟩
        rw [hI] at HI
        have SD := Hd.mk HI.out.drew
        have KD := Hd.mk K1.out.drew
        refine wp_region_tr default (fun w' => Blk w' I 23 _) (.free 0 <| .free 1 <| .free 2 <| .free 3 <| .free 6 <| .free 7 <| .two 4 (.two 5 (.free 9 <| .one 8 <| .free 10 .done) 8 (.one 5 <| .free 9 <| .free 10 .done)) 8 (.one 4 <| .one 5 <| .free 9 <| .free 10 .done)) (by kernel_rfl) (by kernel_rfl) rfl (by kernel_rfl) (by kernel_rfl) SD.out ?_
        obtain ⟨wd, hwd⟩ : ∃ x, w1.drew = x := ⟨_, rfl⟩
        rw [hwd] at SD KD ⊢
        (try rw [hI])
        clear hwd hI c0 c1 c2 c3 c4
        repeat
          refine tr_free (v := ?_) (by rfl) ?_ ?_
          rotate_left
          · intro w' hSw
            have c0 := hSw.at (j := 0) rfl
            have c1 := hSw.at (j := 1) rfl
            have c2 := hSw.at (j := 2) rfl
            have c3 := hSw.at (j := 3) rfl
            have c4 := hSw.at (j := 4) rfl
            clear hSw
            go_simp
            first | done | with_reducible rfl
          simp only [Act.put, List.setIfInBounds_toArray, List.set_cons_zero, List.set_cons_succ, List.getD_cons_zero, List.getD_cons_succ]
        refine tr_two ?_ ?_
        · refine tr_one (fun K hK => ?_)
          go_simp
          have nb10 := Blk.new wd 3 [.int .i64 b, .int .i64 c]
          obtain ⟨x10, hx10⟩ : ∃ X, wd.alloc (.cells #[.int .i64 b, .int .i64 c] 3) = X := ⟨_, rfl⟩
          have hx10' : wd.alloc (.cells [.int .i64 b, .int .i64 c].toArray 3) = x10 := hx10
          rw [hx10'] at nb10
          have S110 := Hd.mk (hx10 ▸ SD.out.alloc (.cells #[.int .i64 b, .int .i64 c] 3))
          have K110 := Hd.mk (hx10 ▸ KD.out.alloc KD.out.size (.cells #[.int .i64 b, .int .i64 c] 3))
          rw [hx10]
          obtain ⟨g10, hg10⟩ : ∃ g, wd.heap.size = g := ⟨_, rfl⟩
          rw [hg10] at nb10 ⊢
          have B10 := Hd.mk nb10
          refine hK.out _ _ S110.out ?_
          clear hK K hx10 hx10' hg10 nb10
          refine tr_two ?_ ?_
          · refine tr_one (fun K hK => ?_)
            go_simp
            refine (ruses_any x10 _ [b, c] (by simp) (ops2 B10.out)).mono ?_
            rintro e x11 ⟨v11, rfl, r11, k11⟩
            dsimp only
            have S111 := Hd.mk (S110.out.below k11 S110.out.lt)
            have K111 := Hd.mk (Below.chain K110.out k11)
            have Q11 := Hd.mk r11
            refine hK.out _ _ S111.out ?_
            clear hK K k11 r11
            repeat
              refine tr_free (v := ?_) (by rfl) ?_ ?_
              rotate_left
              · intro w' hSw
                have c0 := hSw.at (j := 0) rfl
                have c1 := hSw.at (j := 1) rfl
                have c2 := hSw.at (j := 2) rfl
                have c3 := hSw.at (j := 3) rfl
                have c4 := hSw.at (j := 4) rfl
                clear hSw
                go_simp
                first | done | with_reducible rfl
              simp only [Act.put, List.setIfInBounds_toArray, List.set_cons_zero, List.set_cons_succ, List.getD_cons_zero, List.getD_cons_succ]
            refine tr_one (fun K hK => ?_)
            go_simp
            have nb12 := Blk.new x11 3 [.int .i64 a]
            obtain ⟨x12, hx12⟩ : ∃ X, x11.alloc (.cells #[.int .i64 a] 3) = X := ⟨_, rfl⟩
            have hx12' : x11.alloc (.cells [.int .i64 a].toArray 3) = x12 := hx12
            rw [hx12'] at nb12
            have S112 := Hd.mk (hx12 ▸ S111.out.alloc (.cells #[.int .i64 a] 3))
            have K112 := Hd.mk (hx12 ▸ K111.out.alloc K111.out.size (.cells #[.int .i64 a] 3))
            rw [hx12]
            have RQ1 := Hd.mk (Q11.out.below intE_stays (hx12 ▸ (Below.refl _ _).alloc (Nat.le_refl _) _ : Below x11.heap.size x11 x12))
            obtain ⟨g12, hg12⟩ : ∃ g, x11.heap.size = g := ⟨_, rfl⟩
            rw [hg12] at nb12 ⊢
            have B12 := Hd.mk nb12
            refine hK.out _ _ S112.out ?_
            clear hK K hx12 hx12' hg12 nb12
            repeat
              refine tr_free (v := ?_) (by rfl) ?_ ?_
              rotate_left
              · intro w' hSw
                have c0 := hSw.at (j := 0) rfl
                have c1 := hSw.at (j := 1) rfl
                have c2 := hSw.at (j := 2) rfl
                have c3 := hSw.at (j := 3) rfl
                have c4 := hSw.at (j := 4) rfl
                clear hSw
                go_simp
                first | done | with_reducible rfl
              simp only [Act.put, List.setIfInBounds_toArray, List.set_cons_zero, List.set_cons_succ, List.getD_cons_zero, List.getD_cons_succ]
            refine NoPanic.normal ?_
            go_wp2
            go_ret2
            exact ⟨_, _, rfl, RQ1.out, rw1 B12.out, K112.out⟩
          · refine tr_one (fun K hK => ?_)
            go_simp
            have nb13 := Blk.new x10 3 [.int .i64 a]
            obtain ⟨x13, hx13⟩ : ∃ X, x10.alloc (.cells #[.int .i64 a] 3) = X := ⟨_, rfl⟩
            have hx13' : x10.alloc (.cells [.int .i64 a].toArray 3) = x13 := hx13
            rw [hx13'] at nb13
            have S113 := Hd.mk (hx13 ▸ S110.out.alloc (.cells #[.int .i64 a] 3))
            have K113 := Hd.mk (hx13 ▸ K110.out.alloc K110.out.size (.cells #[.int .i64 a] 3))
            have B10' := Hd.mk (hx13 ▸ B10.out.alloc (.cells #[.int .i64 a] 3))
            rw [hx13]
            obtain ⟨g13, hg13⟩ : ∃ g, x10.heap.size = g := ⟨_, rfl⟩
            rw [hg13] at nb13 ⊢
            have B13 := Hd.mk nb13
            refine hK.out _ _ S113.out ?_
            clear hK K hx13 hx13' hg13 nb13
            refine tr_one (fun K hK => ?_)
            go_simp
            refine (ruses_any x13 _ [b, c] (by simp) (ops2 B10'.out)).mono ?_
            rintro e x14 ⟨v14, rfl, r14, k14⟩
            dsimp only
            have S114 := Hd.mk (S113.out.below k14 S113.out.lt)
            have K114 := Hd.mk (Below.chain K113.out k14)
            have B13' := Hd.mk (B13.out.below k14 B13.out.lt)
            have Q14 := Hd.mk r14
            refine hK.out _ _ S114.out ?_
            clear hK K k14 r14
            repeat
              refine tr_free (v := ?_) (by rfl) ?_ ?_
              rotate_left
              · intro w' hSw
                have c0 := hSw.at (j := 0) rfl
                have c1 := hSw.at (j := 1) rfl
                have c2 := hSw.at (j := 2) rfl
                have c3 := hSw.at (j := 3) rfl
                have c4 := hSw.at (j := 4) rfl
                clear hSw
                go_simp
                first | done | with_reducible rfl
              simp only [Act.put, List.setIfInBounds_toArray, List.set_cons_zero, List.set_cons_succ, List.getD_cons_zero, List.getD_cons_succ]
            refine NoPanic.normal ?_
            go_wp2
            go_ret2
            exact ⟨_, _, rfl, Q14.out, rw1 B13'.out, K114.out⟩
        · refine tr_one (fun K hK => ?_)
          go_simp
          have nb15 := Blk.new wd 3 [.int .i64 a]
          obtain ⟨x15, hx15⟩ : ∃ X, wd.alloc (.cells #[.int .i64 a] 3) = X := ⟨_, rfl⟩
          have hx15' : wd.alloc (.cells [.int .i64 a].toArray 3) = x15 := hx15
          rw [hx15'] at nb15
          have S115 := Hd.mk (hx15 ▸ SD.out.alloc (.cells #[.int .i64 a] 3))
          have K115 := Hd.mk (hx15 ▸ KD.out.alloc KD.out.size (.cells #[.int .i64 a] 3))
          rw [hx15]
          obtain ⟨g15, hg15⟩ : ∃ g, wd.heap.size = g := ⟨_, rfl⟩
          rw [hg15] at nb15 ⊢
          have B15 := Hd.mk nb15
          refine hK.out _ _ S115.out ?_
          clear hK K hx15 hx15' hg15 nb15
          refine tr_one (fun K hK => ?_)
          go_simp
          have nb16 := Blk.new x15 3 [.int .i64 b, .int .i64 c]
          obtain ⟨x16, hx16⟩ : ∃ X, x15.alloc (.cells #[.int .i64 b, .int .i64 c] 3) = X := ⟨_, rfl⟩
          have hx16' : x15.alloc (.cells [.int .i64 b, .int .i64 c].toArray 3) = x16 := hx16
          rw [hx16'] at nb16
          have S116 := Hd.mk (hx16 ▸ S115.out.alloc (.cells #[.int .i64 b, .int .i64 c] 3))
          have K116 := Hd.mk (hx16 ▸ K115.out.alloc K115.out.size (.cells #[.int .i64 b, .int .i64 c] 3))
          have B15' := Hd.mk (hx16 ▸ B15.out.alloc (.cells #[.int .i64 b, .int .i64 c] 3))
          rw [hx16]
          obtain ⟨g16, hg16⟩ : ∃ g, x15.heap.size = g := ⟨_, rfl⟩
          rw [hg16] at nb16 ⊢
          have B16 := Hd.mk nb16
          refine hK.out _ _ S116.out ?_
          clear hK K hx16 hx16' hg16 nb16
          refine tr_one (fun K hK => ?_)
          go_simp
          refine (ruses_any x16 _ [b, c] (by simp) (ops2 B16.out)).mono ?_
          rintro e x17 ⟨v17, rfl, r17, k17⟩
          dsimp only
          have S117 := Hd.mk (S116.out.below k17 S116.out.lt)
          have K117 := Hd.mk (Below.chain K116.out k17)
          have B15'' := Hd.mk (B15'.out.below k17 B15'.out.lt)
          have Q17 := Hd.mk r17
          refine hK.out _ _ S117.out ?_
          clear hK K k17 r17
          repeat
            refine tr_free (v := ?_) (by rfl) ?_ ?_
            rotate_left
            · intro w' hSw
              have c0 := hSw.at (j := 0) rfl
              have c1 := hSw.at (j := 1) rfl
              have c2 := hSw.at (j := 2) rfl
              have c3 := hSw.at (j := 3) rfl
              have c4 := hSw.at (j := 4) rfl
              clear hSw
              go_simp
              first | done | with_reducible rfl
            simp only [Act.put, List.setIfInBounds_toArray, List.set_cons_zero, List.set_cons_succ, List.getD_cons_zero, List.getD_cons_succ]
          refine NoPanic.normal ?_
          go_wp2
          go_ret2
          exact ⟨_, _, rfl, Q17.out, rw1 B15''.out, K117.out⟩
    · rcases h with rfl | rfl
      all_goals
        have eR : Hd (usesR _ a b c m = useL [a, b] 16) := ⟨(uR hr (by decide) (L := [65, 66]) (by decide +kernel)).trans (regs2 (ch := 65) (dh := 66) rfl rfl ha hb)⟩
        have eW : Hd (usesW _ a b c m = []) := ⟨(uW hr (by decide) (L := []) (by decide +kernel)).trans (regs0 _ _ _ _)⟩
        rw [eR.out, eW.out]
        clear eR eW hr H30
        go_enter Tryz.func20, Tryz.ntmps20
        go_wp2_with fail
        refine HR.out.mono ?_
        rintro e w1 ⟨rfl, k1⟩
        have HI := Hd.mk (HB.out.below k1 HB.out.lt)
        have K1 : Hd (Below w.heap.size w w1) := ⟨Below.chain ((Below.refl _ _).alloc (Nat.le_refl _) _) k1⟩
        have c0 := HI.out.at (j := 0) rfl
        have c1 := HI.out.at (j := 1) rfl
        have c2 := HI.out.at (j := 2) rfl
        have c3 := HI.out.at (j := 3) rfl
        have c4 := HI.out.at (j := 4) rfl
        clear k1 HR HB
        have nb := Blk.new w1 3 [.int .i64 a, .int .i64 b]
        have KB : Hd (Below w.heap.size w (w1.alloc (.cells #[.int .i64 a, .int .i64 b] 3))) := ⟨K1.out.alloc K1.out.size _⟩
        have HU := Hd.mk (ruses_any _ (.slice (some ⟨w1.heap.size, 0, none⟩) 2 2) [a, b] (by simp) (ops2 nb))
        clear nb
        go_wp2_with fail
        refine HU.out.mono ?_
        rintro e w2 ⟨v2, rfl, r2, k2⟩
        have R2 := Hd.mk r2
        have K2 := Hd.mk (Below.chain KB.out k2)
        clear r2 k2 HU
        go_wp2
        go_ret2
        exact ⟨_, _, rfl, R2.out, Rw.nil _, K2.out⟩
    · rcases h with rfl | rfl
      all_goals
        have eR : Hd (usesR _ a b c m = [a]) := ⟨(uR hr (by decide) (L := [65]) (by decide +kernel)).trans (regs1 (ch := 65) rfl)⟩
        have eW : Hd (usesW _ a b c m = []) := ⟨(uW hr (by decide) (L := []) (by decide +kernel)).trans (regs0 _ _ _ _)⟩
        rw [eR.out, eW.out]
        clear eR eW hr H30
        go_enter Tryz.func20, Tryz.ntmps20
        go_wp2_with fail
        refine HR.out.mono ?_
        rintro e w1 ⟨rfl, k1⟩
        have HI := Hd.mk (HB.out.below k1 HB.out.lt)
        have K1 : Hd (Below w.heap.size w w1) := ⟨Below.chain ((Below.refl _ _).alloc (Nat.le_refl _) _) k1⟩
        have c0 := HI.out.at (j := 0) rfl
        have c1 := HI.out.at (j := 1) rfl
        have c2 := HI.out.at (j := 2) rfl
        have c3 := HI.out.at (j := 3) rfl
        have c4 := HI.out.at (j := 4) rfl
        clear k1 HR HB
        go_wp2
        go_ret2
        exact ⟨_, _, rfl, rw1 (Blk.new w1 _ [.int .i64 a]), Rw.nil _, K1.out.alloc K1.out.size _⟩
    · rcases h with rfl | rfl | rfl
      all_goals
        have eR : Hd (usesR _ a b c m = [15]) := ⟨(uR hr (by decide) (L := [83]) (by decide +kernel)).trans (regs1 (ch := 83) rfl)⟩
        have eW : Hd (usesW _ a b c m = [15]) := ⟨(uW hr (by decide) (L := [83]) (by decide +kernel)).trans (regs1 (ch := 83) rfl)⟩
        rw [eR.out, eW.out]
        clear eR eW hr H30
        go_enter Tryz.func20, Tryz.ntmps20
        go_wp2_with fail
        refine HR.out.mono ?_
        rintro e w1 ⟨rfl, k1⟩
        have HI := Hd.mk (HB.out.below k1 HB.out.lt)
        have K1 : Hd (Below w.heap.size w w1) := ⟨Below.chain ((Below.refl _ _).alloc (Nat.le_refl _) _) k1⟩
        have c0 := HI.out.at (j := 0) rfl
        have c1 := HI.out.at (j := 1) rfl
        have c2 := HI.out.at (j := 2) rfl
        have c3 := HI.out.at (j := 3) rfl
        have c4 := HI.out.at (j := 4) rfl
        clear k1 HR HB
        go_wp2
        go_ret2
        exact ⟨_, _, rfl, rw1 ((Blk.new w1 _ [.int .i64 15]).alloc _), rw1 (blk_second w1 _ _ [.int .i64 15]), (K1.out.alloc K1.out.size _).alloc (Nat.le_trans K1.out.size (by simp)) _⟩
    · rcases h with rfl | rfl
      all_goals
        have eR : Hd (usesR _ a b c m = useL [a, 15] 16) := ⟨(uR hr (by decide) (L := [65, 83]) (by decide +kernel)).trans (regs2 (ch := 65) (dh := 83) rfl rfl ha (by decide))⟩
        have eW : Hd (usesW _ a b c m = [15]) := ⟨(uW hr (by decide) (L := [83]) (by decide +kernel)).trans (regs1 (ch := 83) rfl)⟩
        rw [eR.out, eW.out]
        clear eR eW hr H30
        go_enter Tryz.func20, Tryz.ntmps20
        go_wp2_with fail
        refine HR.out.mono ?_
        rintro e w1 ⟨rfl, k1⟩
        have HI := Hd.mk (HB.out.below k1 HB.out.lt)
        have K1 : Hd (Below w.heap.size w w1) := ⟨Below.chain ((Below.refl _ _).alloc (Nat.le_refl _) _) k1⟩
        have c0 := HI.out.at (j := 0) rfl
        have c1 := HI.out.at (j := 1) rfl
        have c2 := HI.out.at (j := 2) rfl
        have c3 := HI.out.at (j := 3) rfl
        have c4 := HI.out.at (j := 4) rfl
        clear k1 HR HB
        have nb := Blk.new w1 3 [.int .i64 a, .int .i64 15]
        have KB : Hd (Below w.heap.size w (w1.alloc (.cells #[.int .i64 a, .int .i64 15] 3))) := ⟨K1.out.alloc K1.out.size _⟩
        have HU := Hd.mk (ruses_any _ (.slice (some ⟨w1.heap.size, 0, none⟩) 2 2) [a, 15] (by simp) (ops2 nb))
        clear nb
        go_wp2_with fail
        refine HU.out.mono ?_
        rintro e w2 ⟨v2, rfl, r2, k2⟩
        have R2 := Hd.mk r2
        have K2 := Hd.mk (Below.chain KB.out k2)
        clear r2 k2 HU
        go_wp2
        go_ret2
        exact ⟨_, _, rfl, R2.out.below intE_stays ((Below.refl _ _).alloc (Nat.le_refl _) _), rw1 (Blk.new w2 _ [.int .i64 15]), K2.out.alloc K2.out.size _⟩
    · subst h
      have eR : Hd (usesR _ a b c m = [15]) := ⟨(uR hr (by decide) (L := [83]) (by decide +kernel)).trans (regs1 (ch := 83) rfl)⟩
      have eW : Hd (usesW _ a b c m = useL [a, 15] 16) := ⟨(uW hr (by decide) (L := [65, 83]) (by decide +kernel)).trans (regs2 (ch := 65) (dh := 83) rfl rfl ha (by decide))⟩
      rw [eR.out, eW.out]
      clear eR eW hr H30
      go_enter Tryz.func20, Tryz.ntmps20
      go_wp2_with fail
      refine HR.out.mono ?_
      rintro e w1 ⟨rfl, k1⟩
      have HI := Hd.mk (HB.out.below k1 HB.out.lt)
      have K1 : Hd (Below w.heap.size w w1) := ⟨Below.chain ((Below.refl _ _).alloc (Nat.le_refl _) _) k1⟩
      have c0 := HI.out.at (j := 0) rfl
      have c1 := HI.out.at (j := 1) rfl
      have c2 := HI.out.at (j := 2) rfl
      have c3 := HI.out.at (j := 3) rfl
      have c4 := HI.out.at (j := 4) rfl
      clear k1 HR HB
      have n1 := Blk.new w1 3 [.int .i64 15]
      have n2 := blk_second w1 (.cells #[.int .i64 15] 3) 3 [.int .i64 a, .int .i64 15]
      have KB : Hd (Below w.heap.size w ((w1.alloc (.cells #[.int .i64 15] 3)).alloc (.cells #[.int .i64 a, .int .i64 15] 3))) := ⟨(K1.out.alloc K1.out.size _).alloc (Nat.le_trans K1.out.size (by simp)) _⟩
      have HU := Hd.mk (ruses_any _ (.slice (some ⟨w1.heap.size + 1, 0, none⟩) 2 2) [a, 15] (by simp) (ops2 n2))
      have N1 := Hd.mk (n1.alloc (.cells #[.int .i64 a, .int .i64 15] 3))
      have d1 := (HI.out.alloc (.cells #[.int .i64 15] 3)).at (j := 1) rfl
      clear n1 n2
      go_wp2_with fail
      refine HU.out.mono ?_
      rintro e w2 ⟨v2, rfl, r2, k2⟩
      have R2 := Hd.mk r2
      have K2 := Hd.mk (Below.chain KB.out k2)
      have N2 := Hd.mk (N1.out.below k2 N1.out.lt)
      clear r2 k2 HU
      go_wp2
      go_ret2
      exact ⟨_, _, rfl, rw1 N2.out, R2.out, K2.out⟩
    · subst h
      have eR : Hd (usesR 30 a b c m = [0, 1, 2].take (sysR m)) := ⟨by unfold usesR; rw [if_pos hr, if_pos rfl]⟩
      have eW : Hd (usesW 30 a b c m = [0].take (sysW m)) := ⟨by unfold usesW; rw [if_pos hr, if_pos rfl]⟩
      rw [eR.out, eW.out]
      have HS := Hd.mk (fun w => rsystem_any m w (H30.out rfl))
      clear eR eW hr H30
      go_enter Tryz.func20, Tryz.ntmps20
      go_wp2_with fail
      refine HR.out.mono ?_
      rintro e w1 ⟨rfl, k1⟩
      have HI := Hd.mk (HB.out.below k1 HB.out.lt)
      have K1 : Hd (Below w.heap.size w w1) := ⟨Below.chain ((Below.refl _ _).alloc (Nat.le_refl _) _) k1⟩
      have c0 := HI.out.at (j := 0) rfl
      have c1 := HI.out.at (j := 1) rfl
      have c2 := HI.out.at (j := 2) rfl
      have c3 := HI.out.at (j := 3) rfl
      have c4 := HI.out.at (j := 4) rfl
      clear k1 HR HB
      go_wp2_with fail
      refine (HS.out _).mono ?_
      rintro e w2 ⟨v1, v2, rfl, r1, r2, k2⟩
      have R1 := Hd.mk r1
      have R2 := Hd.mk r2
      have K2 := Hd.mk (Below.chain K1.out k2)
      clear r1 r2 k2
      go_wp2
      go_ret2
      exact ⟨_, _, rfl, R1.out, R2.out, K2.out⟩

end Go.Proofs.YtlohhlbbkliehaaGreatDoor.W
