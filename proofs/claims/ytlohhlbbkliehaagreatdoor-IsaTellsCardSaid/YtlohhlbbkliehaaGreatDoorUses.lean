/-
  The walk of Uses.
-/
import Derived.Test.YtlohhlbbkliehaaGreatDoorUse
import Derived.Test.YtlohhlbbkliehaaGreatDoorTab9
namespace Go.Proofs.YtlohhlbbkliehaaGreatDoor.W
open Go.RowKit
set_option linter.unusedVariables false

theorem letters_ok : (formT.all fun r => (r.getD 2 []).all (fun ch => ch = 65 ∨ ch = 66 ∨ ch = 67 ∨ ch = 73 ∨ ch = 83) && (r.getD 3 []).all (fun ch => ch = 65 ∨ ch = 66 ∨ ch = 67 ∨ ch = 73 ∨ ch = 83)) = true := by decide +kernel

def usesR (op a b c m : Int) : List Int := if rightB op a b c m then (if op = 30 then [0, 1, 2].take (sysR m) else regsL a b c m (readsL op.toNat)) else []
def usesW (op a b c m : Int) : List Int := if rightB op a b c m then (if op = 30 then [0].take (sysW m) else regsL a b c m (writesL op.toNat)) else []

theorem letters_at (n : Nat) (h : n < 31) : (∀ ch ∈ readsL n, ch = 65 ∨ ch = 66 ∨ ch = 67 ∨ ch = 73 ∨ ch = 83) ∧ (∀ ch ∈ writesL n, ch = 65 ∨ ch = 66 ∨ ch = 67 ∨ ch = 73 ∨ ch = 83) ∧ (readsL n).length ≤ 1000 ∧ (writesL n).length ≤ 1000 := by
  have key : ((List.range 31).all fun n => (readsL n).all (fun ch => decide (ch = 65 ∨ ch = 66 ∨ ch = 67 ∨ ch = 73 ∨ ch = 83)) && ((writesL n).all (fun ch => decide (ch = 65 ∨ ch = 66 ∨ ch = 67 ∨ ch = 73 ∨ ch = 83)) && (decide ((readsL n).length ≤ 1000) && decide ((writesL n).length ≤ 1000)))) = true := by decide +kernel
  have := List.all_eq_true.1 key n (List.mem_range.2 h)
  simp only [Bool.and_eq_true, List.all_eq_true, decide_eq_true_eq] at this
  exact ⟨this.1, this.2.1, this.2.2.1, this.2.2.2⟩

theorem rw_lits {w : World} {g : Nat} {ks : List Int} {n c : Nat} (hb : Blk w g 3 (ks.map fun k => .int .i64 k)) (hn : n ≤ ks.length) : Rw 1 intE w (.slice (some ⟨g, 0, none⟩) n c) (ks.take n) :=
  (Rw.ints (cap := c) hb).take rfl hn

set_option maxHeartbeats 4000000 in
set_option maxRecDepth 100000 in
theorem uses_any (op a b c m : Int) (w : World) (hT : Tabs w) (hm : i64R m) :
    Calls Tryz.prog 19 #[.agg #[.int .i64 op, .int .i64 a, .int .i64 b, .int .i64 c, .int .i64 m]] w fun e w' => ∃ v1 v2, e = .returned (.tuple #[v1, v2]) ∧ Rw 1 intE w' v1 (usesR op a b c m) ∧ Rw 1 intE w' v2 (usesW op a b c m) ∧ Below w.heap.size w w' := by
  have hbl := Blk.new w 23 [.int .i64 op, .int .i64 a, .int .i64 b, .int .i64 c, .int .i64 m]
  have HB := Hd.mk hbl
  have hT1 := hT.alloc (.cells #[.int .i64 op, .int .i64 a, .int .i64 b, .int .i64 c, .int .i64 m] 23)
  have HR := Hd.mk (right_any op a b c m _ hT1.f hm)
  have HT1 := Hd.mk hT1
  have HRP : Hd (rightB op a b c m = true → RightP op a b c m) := ⟨right_parts⟩
  have H30 : Hd (rightB op a b c m = true → op = 30 → 0 ≤ m ∧ m < 8) := ⟨fun h e => by
    unfold rightB at h
    simp only [Bool.and_eq_true, decide_eq_true_eq] at h
    have h2 := h.2.1
    unfold immB at h2
    rw [if_neg (by omega), if_neg (by omega), if_pos e] at h2
    simp only [Bool.and_eq_true, decide_eq_true_eq] at h2
    exact h2⟩
  have HU1 : Hd (usesR op a b c m = if rightB op a b c m then (if op = 30 then [0, 1, 2].take (sysR m) else regsL a b c m (readsL op.toNat)) else []) := ⟨rfl⟩
  have HU2 : Hd (usesW op a b c m = if rightB op a b c m then (if op = 30 then [0].take (sysW m) else regsL a b c m (writesL op.toNat)) else []) := ⟨rfl⟩
  obtain ⟨r, hr⟩ : ∃ r, rightB op a b c m = r := ⟨_, rfl⟩
  rw [hr] at HR HRP H30 HU1 HU2
  clear hbl hT hT1 hr hm
  rcases r with _ | _
  · clear HRP H30
    go_enter Tryz.func19, Tryz.ntmps19
    go_wp2_with fail
    refine HR.out.mono ?_
    rintro e w1 ⟨rfl, k1⟩
    have K1 : Hd (Below w.heap.size w w1) := ⟨Below.chain ((Below.refl _ _).alloc (Nat.le_refl _) _) k1⟩
    clear k1
    go_wp2
    go_ret2
    exact ⟨_, _, rfl, by rw [HU1.out]; exact Rw.nil _, by rw [HU2.out]; exact Rw.nil _, K1.out⟩
  · have hp := HRP.out rfl
    obtain ⟨n, rfl⟩ : ∃ n : Nat, op = (n : Int) := ⟨op.toNat, by have := hp.op; omega⟩
    have hn := hp.op
    have HN : Hd (n < 31) := ⟨by omega⟩
    rw [Int.toNat_natCast] at HU1 HU2
    by_cases h30 : n = 30
    · subst h30
      obtain ⟨m0, m8⟩ := H30.out rfl rfl
      obtain ⟨k, rfl⟩ := Int.eq_ofNat_of_zero_le m0
      have hk : k < 8 := by omega
      have HU1' : Hd (usesR (30 : Nat) a b c k = [0, 1, 2].take (sysR k)) := ⟨by rw [HU1.out]; rfl⟩
      have HU2' : Hd (usesW (30 : Nat) a b c k = [0].take (sysW k)) := ⟨by rw [HU2.out]; rfl⟩
      rw [HU1'.out, HU2'.out]
      have HC : Hd (∀ w', CallsAt w' → w'.cell? ⟨1, k * 2, none⟩ = some (.int .i64 (sysR k : Nat)) ∧ w'.cell? ⟨1, k * 2 + 1, none⟩ = some (.int .i64 (sysW k : Nat)) ∧ sysR k ≤ 3 ∧ sysW k ≤ 1) := ⟨fun w' h => h.at k hk⟩
      obtain ⟨x, hx⟩ : ∃ x, sysR (k : Int) = x := ⟨_, rfl⟩
      obtain ⟨y, hy⟩ : ∃ y, sysW (k : Int) = y := ⟨_, rfl⟩
      rw [hx, hy] at HC ⊢
      clear HU1 HU2 HU1' HU2' HRP H30 hp hn m0 m8 hx hy HN
      go_enter Tryz.func19, Tryz.ntmps19
      go_wp2_with fail
      refine HR.out.mono ?_
      rintro e w1 ⟨rfl, k1⟩
      have hb1 := HB.out.below k1 HB.out.lt
      have K1 : Hd (Below w.heap.size w w1) := ⟨Below.chain ((Below.refl _ _).alloc (Nat.le_refl _) _) k1⟩
      have hT2 := HT1.out.below k1
      obtain ⟨t1, t2, t3, t4⟩ := HC.out _ hT2.c
      have HT2 := Hd.mk hT2
      have b0 := hb1.at (j := 0) rfl
      have HB1 := Hd.mk hb1
      clear k1 hb1 hT2
      go_wp2_with fail
      obtain ⟨w2, hw2⟩ : ∃ x, w1.alloc (.cells #[.int .i64 0, .int .i64 1, .int .i64 2] 3) = x := ⟨_, rfl⟩
      have hz2 : w1.heap.size < w2.heap.size := by rw [← hw2]; simp
      have hg2 : Blk w2 w1.heap.size 3 [.int .i64 0, .int .i64 1, .int .i64 2] := hw2 ▸ Blk.new w1 3 _
      have hk2 : Below w1.heap.size w1 w2 := hw2 ▸ (Below.refl _ _).alloc (Nat.le_refl _) _
      have hb2 := HB1.out.below hk2 HB1.out.lt
      obtain ⟨t1', t2', _, _⟩ := HC.out _ (HT2.out.below hk2).c
      have b4 := hb2.at (j := 4) rfl
      have HG2 := Hd.mk hg2
      have HK2 := Hd.mk (Below.chain K1.out hk2)
      have HB2 := Hd.mk hb2
      have HT3 := Hd.mk (HT2.out.below hk2)
      obtain ⟨g, hg⟩ : ∃ g, w1.heap.size = g := ⟨_, rfl⟩
      have i0 : (0 : Int) ≤ (k : Int) := by omega
      have i1 : (k : Int) < 8 := by omega
      have x0 : (0 : Int) ≤ (x : Int) := by omega
      have x3 : (x : Int) ≤ 3 := by omega
      have y0 : (0 : Int) ≤ (y : Int) := by omega
      have y1 : (y : Int) ≤ 1 := by omega
      have nx : ((x : Int)).toNat = x := by omega
      have ny : ((y : Int)).toNat = y := by omega
      have nk : ((k : Int)).toNat = k := by omega
      clear hg2 hk2 hb2 t1 t2 b0
      rw [hw2, hg]
      refine wp_region_lin default (fun w' => w'.cell? ⟨w.heap.size, 4, none⟩ = some (.int .i64 (k : Int)) ∧ w'.cell? ⟨1, k * 2, none⟩ = some (.int .i64 (x : Nat)) ∧ w'.cell? ⟨1, k * 2 + 1, none⟩ = some (.int .i64 (y : Nat))) [(0, true), (1, true), (2, true), (3, true), (4, true), (5, true), (6, true), (8, true), (9, true), (10, true), (11, true), (12, true), (14, true), (7, false), (13, true), (15, true)] (by kernel_rfl) (by kernel_rfl) rfl (by kernel_rfl) (by kernel_rfl) ⟨b4, t1', t2'⟩ ?_
      simp only [pick, List.getD_cons_zero, List.getD_cons_succ]
      repeat
        refine lin_free (v := ?_) (by rfl) ?_ ?_
        rotate_left
        · intro w' hSw
          obtain ⟨a0, a1, a2⟩ := hSw
          go_simp
          first | done | with_reducible rfl
        simp only [Act.put, List.setIfInBounds_toArray, List.set_cons_zero, List.set_cons_succ]
      refine lin_bound (fun K hK => ?_)
      go_simp
      have k3 : Below w2.heap.size w2 ((w2.alloc (.cells #[.int .i64 0] 3)).drew) := ((Below.refl _ _).alloc (Nat.le_refl _) _).drew
      have hb3 := HB2.out.below k3 HB2.out.lt
      have hg3 := HG2.out.below k3 HG2.out.lt
      have hn3 : Blk ((w2.alloc (.cells #[.int .i64 0] 3)).drew) w2.heap.size 3 [.int .i64 0] := (Blk.new w2 3 _).drew
      obtain ⟨s1, s2, _, _⟩ := HC.out _ (HT3.out.below k3).c
      obtain ⟨w3, hw3⟩ : ∃ x, (w2.alloc (.cells #[.int .i64 0] 3)).drew = x := ⟨_, rfl⟩
      rw [hw3] at k3 hb3 hg3 hn3 s1 s2 ⊢
      have K3 := Hd.mk (Below.chain HK2.out k3)
      have HG3 := Hd.mk hg3
      have HN3 := Hd.mk hn3
      have HX := Hd.mk hg
      refine hK.out _ _ ⟨hb3.at (j := 4) rfl, s1, s2⟩ ?_
      clear hK K k3 hb3 hg3 hn3 s1 s2 hw3 b4 t1' t2'
      repeat
        refine lin_free (v := ?_) (by rfl) ?_ ?_
        rotate_left
        · intro w' hSw
          go_simp
          first | done | with_reducible rfl
        simp only [Act.put, List.setIfInBounds_toArray, List.set_cons_zero, List.set_cons_succ]
      refine NoPanic.normal ?_
      go_wp2
      go_ret2
      refine ⟨_, _, rfl, ?_, ?_, K3.out⟩
      · exact HX.out ▸ rw_lits (ks := [0, 1, 2]) HG3.out (by show x ≤ 3; omega)
      · exact rw_lits (ks := [0]) HN3.out (by show y ≤ 1; omega)
    · have hb30 : ((n : Int) == 30) = false := by simp; omega
      have HU1' : Hd (usesR (n : Int) a b c m = regsL a b c m (readsL n)) := ⟨by rw [HU1.out, if_pos rfl, if_neg (by omega)]⟩
      have HU2' : Hd (usesW (n : Int) a b c m = regsL a b c m (writesL n)) := ⟨by rw [HU2.out, if_pos rfl, if_neg (by omega)]⟩
      rw [HU1'.out, HU2'.out]
      have HW : Hd (∀ w', FormsAt w' → w'.cell? ⟨0, n * 4 + 2, none⟩ = some (.string ⟨(readsL n).toArray⟩) ∧ w'.cell? ⟨0, n * 4 + 3, none⟩ = some (.string ⟨(writesL n).toArray⟩)) := ⟨fun w' h => ⟨h.word n HN.out 2 (by decide), h.word n HN.out 3 (by decide)⟩⟩
      obtain ⟨l1, l2, l3, l4⟩ := letters_at n HN.out
      have HG1 := Hd.mk (fun w' => registers_any (n : Int) a b c m ⟨(readsL n).toArray⟩ w' l1 l3)
      have HG2 := Hd.mk (fun w' => registers_any (n : Int) a b c m ⟨(writesL n).toArray⟩ w' l2 l4)
      have e1 : (⟨(readsL n).toArray⟩ : ByteArray).data.toList = readsL n := rfl
      have e2 : (⟨(writesL n).toArray⟩ : ByteArray).data.toList = writesL n := rfl
      rw [e1] at HG1
      rw [e2] at HG2
      obtain ⟨q1, hq1⟩ : ∃ x : ByteArray, (⟨(readsL n).toArray⟩ : ByteArray) = x := ⟨_, rfl⟩
      obtain ⟨q2, hq2⟩ : ∃ x : ByteArray, (⟨(writesL n).toArray⟩ : ByteArray) = x := ⟨_, rfl⟩
      rw [hq1] at HW HG1
      rw [hq2] at HW HG2
      obtain ⟨r1, hr1⟩ : ∃ x, regsL a b c m (readsL n) = x := ⟨_, rfl⟩
      obtain ⟨r2, hr2⟩ : ∃ x, regsL a b c m (writesL n) = x := ⟨_, rfl⟩
      rw [hr1] at HG1 ⊢
      rw [hr2] at HG2 ⊢
      have i0 : (0 : Int) ≤ (n : Int) := by omega
      have i1 : (n : Int) < 31 := by have := HN.out; omega
      have nn : ((n : Int)).toNat = n := by omega
      clear HU1 HU2 HU1' HU2' HRP H30 hp hn h30 hr1 hr2 hq1 hq2 e1 e2 l1 l2 l3 l4
      go_enter Tryz.func19, Tryz.ntmps19
      go_wp2_with fail
      refine HR.out.mono ?_
      rintro e w1 ⟨rfl, k1⟩
      have hb1 := HB.out.below k1 HB.out.lt
      have K1 : Hd (Below w.heap.size w w1) := ⟨Below.chain ((Below.refl _ _).alloc (Nat.le_refl _) _) k1⟩
      have hT2 := HT1.out.below k1
      obtain ⟨t1, t2⟩ := HW.out _ hT2.f
      have HT2 := Hd.mk hT2
      have b0 := hb1.at (j := 0) rfl
      have HB1 := Hd.mk hb1
      clear k1 hT2
      go_wp2_with fail
      refine wp_region_lin default (fun w' => Blk w' w.heap.size 23 [.int .i64 (n : Int), .int .i64 a, .int .i64 b, .int .i64 c, .int .i64 m] ∧ w'.cell? ⟨0, n * 4 + 2, none⟩ = some (.string q1) ∧ w'.cell? ⟨0, n * 4 + 3, none⟩ = some (.string q2)) [(0, true), (1, true), (2, true), (3, true), (4, true), (5, true), (7, true), (8, true), (9, true), (10, true), (11, true), (12, true), (6, false), (13, false), (14, true), (15, true)] (by kernel_rfl) (by kernel_rfl) rfl (by kernel_rfl) (by kernel_rfl) ⟨hb1.drew, t1, t2⟩ ?_
      simp only [pick, List.getD_cons_zero, List.getD_cons_succ]
      clear hb1 t1 t2 b0
      repeat
        refine lin_free (v := ?_) (by rfl) ?_ ?_
        rotate_left
        · intro w' hSw
          obtain ⟨hbw, a1, a2⟩ := hSw
          have b0 := hbw.at (j := 0) rfl
          have b1 := hbw.at (j := 1) rfl
          have b2 := hbw.at (j := 2) rfl
          have b3 := hbw.at (j := 3) rfl
          have b4 := hbw.at (j := 4) rfl
          clear hbw
          go_simp
          first | done | with_reducible rfl
        simp only [Act.put, List.setIfInBounds_toArray, List.set_cons_zero, List.set_cons_succ]
      refine lin_bound (fun K hK => ?_)
      go_simp
      refine (HG1.out _).mono ?_
      rintro e w3 ⟨v3, rfl, hr3, k3⟩
      dsimp only
      have k13 : Below w1.heap.size w1 w3 := (Below.refl _ w1).drew.trans k3
      have K3 := Hd.mk k13
      have HR3 := Hd.mk hr3
      have t3 := HW.out _ (HT2.out.below k13).f
      refine hK.out _ _ ⟨HB1.out.below k13 HB1.out.lt, t3.1, t3.2⟩ ?_
      clear hK K hr3 k3 k13 t3
      refine lin_bound (fun K hK => ?_)
      go_simp
      refine (HG2.out _).mono ?_
      rintro e w4 ⟨v4, rfl, hr4, k4⟩
      dsimp only
      have k14 : Below w1.heap.size w1 w4 := Below.chain K3.out k4
      have K4 := Hd.mk k14
      have HR4 := Hd.mk hr4
      have HR3' := Hd.mk (HR3.out.below intE_stays k4)
      have t4 := HW.out _ (HT2.out.below k14).f
      refine hK.out _ _ ⟨HB1.out.below k14 HB1.out.lt, t4.1, t4.2⟩ ?_
      clear hK K hr4 k4 k14 t4
      obtain ⟨p3, c3, rfl⟩ := HR3.out.slice
      obtain ⟨p4, c4, rfl⟩ := HR4.out.slice
      repeat
        refine lin_free (v := ?_) (by rfl) ?_ ?_
        rotate_left
        · intro w' hSw
          go_simp
          first | done | with_reducible rfl
        simp only [Act.put, List.setIfInBounds_toArray, List.set_cons_zero, List.set_cons_succ]
      refine NoPanic.normal ?_
      go_wp2
      go_ret2
      exact ⟨_, _, rfl, HR3'.out, HR4.out, Below.chain K1.out K4.out⟩

end Go.Proofs.YtlohhlbbkliehaaGreatDoor.W
