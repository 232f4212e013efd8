/-
  IsaTells walked.
-/
import Derived.Test.YtlohhlbbkliehaaGreatDoorSm9
import Derived.Test.YtlohhlbbkliehaaGreatDoorRc9
import Derived.Test.YtlohhlbbkliehaaGreatDoorRdc9
import Derived.Test.YtlohhlbbkliehaaGreatDoorRe9
import Derived.Test.YtlohhlbbkliehaaGreatDoorRh9
import Derived.Test.YtlohhlbbkliehaaGreatDoorIn9
import Derived.Test.YtlohhlbbkliehaaGreatDoorWit9
namespace Go.Proofs.YtlohhlbbkliehaaGreatDoor.W
open Go.RowKit
set_option linter.unusedVariables false

theorem dec_ints (s : ByteArray) (x : Int) : ∃ d : In5, decV s x = .agg #[.int .i64 d.op, .int .i64 d.a, .int .i64 d.b, .int .i64 d.c, .int .i64 d.m] := by
  unfold decV
  split
  · exact ⟨⟨_, _, _, _, _⟩, rfl⟩
  · exact ⟨⟨0, 0, 0, 0, 0⟩, rfl⟩
theorem uses_len (op a b c m : Int) : (usesR op a b c m).length ≤ 1000000 ∧ (usesW op a b c m).length ≤ 1000000 := by
  by_cases h : rightB op a b c m = true
  · have hp := right_parts h
    obtain ⟨n, rfl⟩ : ∃ n : Nat, op = (n : Int) := ⟨op.toNat, by have := hp.op; omega⟩
    obtain ⟨⟨_, h2, _⟩, ⟨_, h5, _⟩⟩ := uses_parts h
    omega
  · unfold usesR usesW
    rw [if_neg h, if_neg h]
    exact ⟨Nat.zero_le _, Nat.zero_le _⟩
/-- what the law keeps in memory -/
structure S5 (w w' : World) (I C D X Y : Nat) (z d p : In5) : Prop where
  bel : Below w.heap.size w w'
  i : Blk w' I 23 [.int .i64 z.op, .int .i64 z.a, .int .i64 z.b, .int .i64 z.c, .int .i64 z.m]
  c : Blk w' C 23 [.int .i64 d.op, .int .i64 d.a, .int .i64 d.b, .int .i64 d.c, .int .i64 d.m]
  d : Blk w' D 23 [.int .i64 d.op, .int .i64 d.a, .int .i64 d.b, .int .i64 d.c, .int .i64 d.m]
  x : Blk w' X 23 [.int .i64 p.op, .int .i64 p.a, .int .i64 p.b, .int .i64 p.c, .int .i64 p.m]
  y : Blk w' Y 23 [.int .i64 p.op, .int .i64 p.a, .int .i64 p.b, .int .i64 p.c, .int .i64 p.m]
theorem S5.below {w w1 w2 : World} {I C D X Y : Nat} {z d p : In5} (h : S5 w w1 I C D X Y z d p) (k : Below w1.heap.size w1 w2) : S5 w w2 I C D X Y z d p :=
  ⟨Below.chain h.bel k, h.i.below k h.i.lt, h.c.below k h.c.lt, h.d.below k h.d.lt, h.x.below k h.x.lt, h.y.below k h.y.lt⟩
theorem S5.drew {w w1 : World} {I C D X Y : Nat} {z d p : In5} (h : S5 w w1 I C D X Y z d p) : S5 w w1.drew I C D X Y z d p := h.below (Below.refl _ _).drew
theorem blk5 {w : World} {I : Nat} {z : In5} (h : Blk w I 23 [.int .i64 z.op, .int .i64 z.a, .int .i64 z.b, .int .i64 z.c, .int .i64 z.m]) : w.cell? ⟨I, 0, none⟩ = some (.int .i64 z.op) ∧ w.cell? ⟨I, 1, none⟩ = some (.int .i64 z.a) ∧ w.cell? ⟨I, 2, none⟩ = some (.int .i64 z.b) ∧ w.cell? ⟨I, 3, none⟩ = some (.int .i64 z.c) ∧ w.cell? ⟨I, 4, none⟩ = some (.int .i64 z.m) :=
  ⟨h.at (j := 0) rfl, h.at (j := 1) rfl, h.at (j := 2) rfl, h.at (j := 3) rfl, h.at (j := 4) rfl⟩

set_option maxHeartbeats 8000000 in
set_option maxRecDepth 100000 in
theorem tells_any (W : World) (v0 : Value) (z : In5) (s : ByteArray) (at0 : Int) (h0 : ArgIns W v0 z) (hs : s.size ≤ 140737488351232) (hx : -9223372036854775808 ≤ at0 ∧ at0 ≤ 9223372036854775807) (hT : Tabs W) :
    Calls Tryz.prog 3 #[v0, .string s, .int .i64 at0] W fun e w' => e = .returned (.bool true) ∧ Below W.heap.size W w' := by
  obtain rfl := h0.is
  obtain ⟨op, a, b, c, m⟩ := z
  have hmx : i64R m := h0.m
  have hs0 : Below W.heap.size W (W.alloc (.cells #[.int .i64 op, .int .i64 a, .int .i64 b, .int .i64 c, .int .i64 m] 23)) := (Below.refl _ _).alloc (Nat.le_refl _) _
  have hi0 := Blk.new W 23 [.int .i64 op, .int .i64 a, .int .i64 b, .int .i64 c, .int .i64 m]
  dsimp only
  clear h0
  have HT := Hd.mk hT
  obtain ⟨W2, hW2⟩ : ∃ X, W.alloc (.cells #[.int .i64 op, .int .i64 a, .int .i64 b, .int .i64 c, .int .i64 m] 23) = X := ⟨_, rfl⟩
  have hW2' : W.alloc (.cells [.int .i64 op, .int .i64 a, .int .i64 b, .int .i64 c, .int .i64 m].toArray 23) = W2 := hW2
  rw [hW2] at hs0
  rw [hW2'] at hi0
  obtain ⟨I, hI⟩ : ∃ I, W.heap.size = I := ⟨_, rfl⟩
  rw [hI] at hi0
  have HSm := Hd.mk (small_any W2 (hT.below hs0))
  have HB0 := Hd.mk hs0
  have HI0 := Hd.mk hi0
  clear hW2' hs0 hi0
  by_cases hbig : 300 < s.size
  · have hd : decide ((300 : Int) < (s.size : Int)) = true := by simp; omega
    clear hT hmx
    go_enter Tryz.func3, Tryz.ntmps3
    go_wp2_with fail
    refine HSm.out.mono ?_
    rintro e w1 ⟨rfl, k1⟩
    have K1 := Hd.mk (Below.chain HB0.out k1)
    clear k1
    go_wp2
    go_ret
    exact ⟨rfl, K1.out⟩
  · have hd : decide ((300 : Int) < (s.size : Int)) = false := by simp; omega
    have hz : s.size ≤ 300 := by omega
    have HE1 := Hd.mk (fun w h => encode_any op a b c m w h hmx)
    have HE2 := Hd.mk (fun w => rencode_any op a b c m w)
    have HD1 := Hd.mk (fun w h => decode_any s at0 w (by omega) hx h)
    have HD2 := Hd.mk (fun w => rdecode_any s at0 w (by omega) hx)
    have HP1 := Hd.mk (fun w h => parse_any s w (by omega) h)
    have HP2 := Hd.mk (fun w => rparse_any s w (by omega))
    have HR1 := Hd.mk (fun w h => right_any op a b c m w h hmx)
    have HR2 := Hd.mk (fun w => rright_any op a b c m w)
    have HX1 := Hd.mk (fun w h => text_any op a b c m w h hmx)
    have HX2 := Hd.mk (fun w => rtext_any op a b c m w)
    have HU1 := Hd.mk (fun w h => uses_any op a b c m w h hmx)
    have HU2 := Hd.mk (fun w => ruses9_any op a b c m w)
    have HUL := Hd.mk (uses_len op a b c m)
    obtain ⟨d, hdv⟩ := dec_ints s at0
    rw [hdv] at HD1 HD2
    obtain ⟨db, hdb⟩ : ∃ db, decB s at0 = db := ⟨_, rfl⟩
    rw [hdb] at HD1 HD2
    obtain ⟨⟨er, pop, ⟨pa, pb, pc, pm⟩⟩, hpl⟩ : ∃ r, parseL s.data.toList = r := ⟨_, rfl⟩
    have hPV : parseV (er, pop, ⟨pa, pb, pc, pm⟩) = .tuple #[.agg #[.int .i64 pop, .int .i64 pa, .int .i64 pb, .int .i64 pc, .int .i64 pm], .int .i64 er] := rfl
    rw [hpl, hPV] at HP1 HP2
    obtain ⟨r, hr⟩ : ∃ r, rightB op a b c m = r := ⟨_, rfl⟩
    rw [hr] at HE1 HE2 HR1 HR2
    obtain ⟨q, hq⟩ : ∃ q, encS op a b c m = q := ⟨_, rfl⟩
    rw [hq] at HE1 HE2
    obtain ⟨tx, htx⟩ : ∃ x : ByteArray, (⟨(textL op a b c m).toArray⟩ : ByteArray) = x := ⟨_, rfl⟩
    rw [htx] at HX1 HX2
    obtain ⟨l1, hl1⟩ : ∃ l, usesR op a b c m = l := ⟨_, rfl⟩
    obtain ⟨l2, hl2⟩ : ∃ l, usesW op a b c m = l := ⟨_, rfl⟩
    rw [hl1, hl2] at HU1 HU2 HUL
    have e1 : (q.toList == q.toList) = true := by simp
    have e2 : (tx.toList == tx.toList) = true := by simp
    clear hT hmx hdv hdb hpl hPV hr hq htx hl1 hl2 hz hs hbig e1 e2
    go_enter Tryz.func3, Tryz.ntmps3
    go_wp2_with fail
    refine HSm.out.mono ?_
    rintro e w1 ⟨rfl, k1⟩
    have B1 := Hd.mk (Below.chain HB0.out k1)
    have I1 := Hd.mk (HI0.out.below k1 HI0.out.lt)
    clear k1 HSm HB0 HI0 hW2 hI
    have c0 := I1.out.at (j := 0) rfl
    have c1 := I1.out.at (j := 1) rfl
    have c2 := I1.out.at (j := 2) rfl
    have c3 := I1.out.at (j := 3) rfl
    have c4 := I1.out.at (j := 4) rfl
    go_wp2_with fail
    refine (HE1.out _ (HT.out.below B1.out).f).mono ?_
    rintro e w2 ⟨rfl, k2⟩
    have B2 := Hd.mk (Below.chain B1.out k2)
    have I2 := Hd.mk (I1.out.below k2 I1.out.lt)
    clear k2 B1 I1 HE1 c0 c1 c2 c3 c4
    have c0 := I2.out.at (j := 0) rfl
    have c1 := I2.out.at (j := 1) rfl
    have c2 := I2.out.at (j := 2) rfl
    have c3 := I2.out.at (j := 3) rfl
    have c4 := I2.out.at (j := 4) rfl
    go_wp2_with fail
    refine (HE2.out _).mono ?_
    rintro e w3 ⟨rfl, k3⟩
    have B3 := Hd.mk (Below.chain B2.out k3)
    have I3 := Hd.mk (I2.out.below k3 I2.out.lt)
    clear k3 B2 I2 HE2 c0 c1 c2 c3 c4
    go_wp2_with fail
    refine (HD1.out _ (HT.out.below B3.out).f).mono ?_
    rintro e w4 ⟨rfl, k4⟩
    have C4 := Hd.mk (Blk.new w4 23 [.int .i64 d.op, .int .i64 d.a, .int .i64 d.b, .int .i64 d.c, .int .i64 d.m])
    have k4a : Below w4.heap.size w4 (w4.alloc (.cells #[.int .i64 d.op, .int .i64 d.a, .int .i64 d.b, .int .i64 d.c, .int .i64 d.m] 23)) := (Below.refl _ _).alloc (Nat.le_refl _) _
    have B4 := Hd.mk (Below.chain (Below.chain B3.out k4) k4a)
    have I4 := Hd.mk ((I3.out.below k4 I3.out.lt).below k4a (I3.out.below k4 I3.out.lt).lt)
    obtain ⟨C, hC⟩ : ∃ C, w4.heap.size = C := ⟨_, rfl⟩
    rw [hC] at C4
    clear k4 k4a B3 I3 HD1
    go_wp2_with fail
    refine (HD2.out _).mono ?_
    rintro e w5 ⟨rfl, k5⟩
    have D5 := Hd.mk (Blk.new w5 23 [.int .i64 d.op, .int .i64 d.a, .int .i64 d.b, .int .i64 d.c, .int .i64 d.m])
    have k5a : Below w5.heap.size w5 (w5.alloc (.cells #[.int .i64 d.op, .int .i64 d.a, .int .i64 d.b, .int .i64 d.c, .int .i64 d.m] 23)) := (Below.refl _ _).alloc (Nat.le_refl _) _
    have B5 := Hd.mk (Below.chain (Below.chain B4.out k5) k5a)
    have I5 := Hd.mk ((I4.out.below k5 I4.out.lt).below k5a (I4.out.below k5 I4.out.lt).lt)
    have C5 := Hd.mk ((C4.out.below k5 C4.out.lt).below k5a (C4.out.below k5 C4.out.lt).lt)
    obtain ⟨D, hD⟩ : ∃ C, w5.heap.size = C := ⟨_, rfl⟩
    rw [hD] at D5
    clear k5 k5a B4 I4 C4 hC HD2
    go_wp2_with fail
    refine (HP1.out _ (HT.out.below B5.out).f).mono ?_
    rintro e w6 ⟨rfl, k6⟩
    have X6 := Hd.mk (Blk.new w6 23 [.int .i64 pop, .int .i64 pa, .int .i64 pb, .int .i64 pc, .int .i64 pm])
    have k6a : Below w6.heap.size w6 (w6.alloc (.cells #[.int .i64 pop, .int .i64 pa, .int .i64 pb, .int .i64 pc, .int .i64 pm] 23)) := (Below.refl _ _).alloc (Nat.le_refl _) _
    have B6 := Hd.mk (Below.chain (Below.chain B5.out k6) k6a)
    have I6 := Hd.mk ((I5.out.below k6 I5.out.lt).below k6a (I5.out.below k6 I5.out.lt).lt)
    have C6 := Hd.mk ((C5.out.below k6 C5.out.lt).below k6a (C5.out.below k6 C5.out.lt).lt)
    have D6 := Hd.mk ((D5.out.below k6 D5.out.lt).below k6a (D5.out.below k6 D5.out.lt).lt)
    obtain ⟨X, hX⟩ : ∃ C, w6.heap.size = C := ⟨_, rfl⟩
    rw [hX] at X6
    clear k6 k6a B5 I5 C5 D5 hD HP1
    go_wp2_with fail
    refine (HP2.out _).mono ?_
    rintro e w7 ⟨rfl, k7⟩
    have k7a : Below w7.heap.size w7 (w7.alloc (.cells #[.int .i64 pop, .int .i64 pa, .int .i64 pb, .int .i64 pc, .int .i64 pm] 23)) := (Below.refl _ _).alloc (Nat.le_refl _) _
    have k7b := Below.chain k7 k7a
    have S7 : Hd (S5 W (w7.alloc (.cells #[.int .i64 pop, .int .i64 pa, .int .i64 pb, .int .i64 pc, .int .i64 pm] 23)) I C D X w7.heap.size ⟨op, a, b, c, m⟩ d ⟨pop, pa, pb, pc, pm⟩) :=
      ⟨⟨Below.chain B6.out k7b, I6.out.below k7b I6.out.lt, C6.out.below k7b C6.out.lt, D6.out.below k7b D6.out.lt, X6.out.below k7b X6.out.lt, Blk.new w7 23 [.int .i64 pop, .int .i64 pa, .int .i64 pb, .int .i64 pc, .int .i64 pm]⟩⟩
    clear k7 k7a k7b B6 I6 C6 D6 X6 hX HP2
    go_wp2_with fail
    obtain ⟨Y, hY⟩ : ∃ C, w7.heap.size = C := ⟨_, rfl⟩
    obtain ⟨w8, hw8⟩ : ∃ X, w7.alloc (.cells #[.int .i64 pop, .int .i64 pa, .int .i64 pb, .int .i64 pc, .int .i64 pm] 23) = X := ⟨_, rfl⟩
    rw [hw8, hY] at S7
    (try rw [hw8])
    (try rw [hY])
    clear hw8 hY
    have e1 : (q.toList == q.toList) = true := by simp
    have e2 : (tx.toList == tx.toList) = true := by simp
    refine wp_region_lin default (fun w' => S5 W w' I C D X Y ⟨op, a, b, c, m⟩ d ⟨pop, pa, pb, pc, pm⟩) [(0, true), (1, true), (2, true), (3, true), (4, true), (5, true), (6, true), (7, true), (8, true), (9, true), (10, true), (11, true), (12, true), (13, true), (14, true), (15, true), (16, true), (17, true), (18, true), (19, true), (20, true), (21, true), (22, true), (23, true), (24, true), (25, true), (26, true), (27, true), (28, true), (29, true), (31, true), (30, false), (32, false), (33, true), (34, true), (35, true), (36, true), (38, true), (37, false), (39, false), (40, true), (41, true)] (by kernel_rfl) (by kernel_rfl) rfl (by kernel_rfl) (by kernel_rfl) S7.out.drew ?_
    simp only [pick, List.getD_cons_zero, List.getD_cons_succ]
    repeat
      refine lin_free (v := ?_) (by rfl) ?_ ?_
      rotate_left
      · intro w' hSw
        obtain ⟨c0, c1, c2, c3, c4⟩ := blk5 hSw.i
        obtain ⟨d0, d1, d2, d3, d4⟩ := blk5 hSw.c
        obtain ⟨e0, e1, e2, e3, e4⟩ := blk5 hSw.d
        obtain ⟨f0, f1, f2, f3, f4⟩ := blk5 hSw.x
        obtain ⟨g0, g1, g2, g3, g4⟩ := blk5 hSw.y
        dsimp only at c0 c1 c2 c3 c4 f0 f1 f2 f3 f4 g0 g1 g2 g3 g4
        clear hSw
        go_simp
        first | done | with_reducible rfl
      simp only [Act.put, List.setIfInBounds_toArray, List.set_cons_zero, List.set_cons_succ]
    refine lin_bound (fun K hK => ?_)
    go_simp
    refine (HR1.out _ (HT.out.below S7.out.drew.bel).f).mono ?_
    rintro e w9 ⟨rfl, k9⟩
    dsimp only
    have S9 := Hd.mk (S7.out.drew.below k9)
    refine hK.out _ _ S9.out ?_
    clear hK K k9 S7 HR1
    refine lin_bound (fun K hK => ?_)
    go_simp
    refine (HR2.out _).mono ?_
    rintro e w10 ⟨rfl, k10⟩
    dsimp only
    have S10 := Hd.mk (S9.out.below k10)
    refine hK.out _ _ S10.out ?_
    clear hK K k10 S9 HR2
    repeat
      refine lin_free (v := ?_) (by rfl) ?_ ?_
      rotate_left
      · intro w' hSw
        obtain ⟨c0, c1, c2, c3, c4⟩ := blk5 hSw.i
        obtain ⟨d0, d1, d2, d3, d4⟩ := blk5 hSw.c
        obtain ⟨e0, e1, e2, e3, e4⟩ := blk5 hSw.d
        obtain ⟨f0, f1, f2, f3, f4⟩ := blk5 hSw.x
        obtain ⟨g0, g1, g2, g3, g4⟩ := blk5 hSw.y
        dsimp only at c0 c1 c2 c3 c4 f0 f1 f2 f3 f4 g0 g1 g2 g3 g4
        clear hSw
        go_simp
        first | done | with_reducible rfl
      simp only [Act.put, List.setIfInBounds_toArray, List.set_cons_zero, List.set_cons_succ]
    refine lin_bound (fun K hK => ?_)
    go_simp
    refine (HX1.out _ (HT.out.below S10.out.bel)).mono ?_
    rintro e w11 ⟨rfl, k11⟩
    dsimp only
    have S11 := Hd.mk (S10.out.below k11)
    refine hK.out _ _ S11.out ?_
    clear hK K k11 S10 HX1
    refine lin_bound (fun K hK => ?_)
    go_simp
    refine (HX2.out _).mono ?_
    rintro e w12 ⟨rfl, k12⟩
    dsimp only
    have S12 := Hd.mk (S11.out.below k12)
    refine hK.out _ _ S12.out ?_
    clear hK K k12 S11 HX2
    repeat
      refine lin_free (v := ?_) (by rfl) ?_ ?_
      rotate_left
      · intro w' hSw
        obtain ⟨c0, c1, c2, c3, c4⟩ := blk5 hSw.i
        obtain ⟨d0, d1, d2, d3, d4⟩ := blk5 hSw.c
        obtain ⟨e0, e1, e2, e3, e4⟩ := blk5 hSw.d
        obtain ⟨f0, f1, f2, f3, f4⟩ := blk5 hSw.x
        obtain ⟨g0, g1, g2, g3, g4⟩ := blk5 hSw.y
        dsimp only at c0 c1 c2 c3 c4 f0 f1 f2 f3 f4 g0 g1 g2 g3 g4
        clear hSw
        go_simp
        first | done | with_reducible rfl
      simp only [Act.put, List.setIfInBounds_toArray, List.set_cons_zero, List.set_cons_succ]
    refine NoPanic.normal ?_
    obtain ⟨c0, c1, c2, c3, c4⟩ := blk5 S12.out.i
    dsimp only at c0 c1 c2 c3 c4
    go_wp2_with fail
    refine (HU1.out _ (HT.out.below S12.out.bel)).mono ?_
    rintro e w13 ⟨v1, v2, rfl, r1, r2, k13⟩
    have S13 := Hd.mk (S12.out.below k13)
    have R1 := Hd.mk r1
    have R2 := Hd.mk r2
    clear k13 r1 r2 S12 HU1 c0 c1 c2 c3 c4
    obtain ⟨c0, c1, c2, c3, c4⟩ := blk5 S13.out.i
    dsimp only at c0 c1 c2 c3 c4
    go_wp2_with fail
    refine (HU2.out _).mono ?_
    rintro e w14 ⟨v3, v4, rfl, r3, r4, k14⟩
    have B14 := Hd.mk (Below.chain S13.out.bel k14)
    have HI1 := Hd.mk (ints_any v1 v3 l1 l1 w14 (R1.out.below intE_stays k14) r3 HUL.out.1 HUL.out.1)
    rw [decide_eq_true rfl] at HI1
    have R2' := Hd.mk (R2.out.below intE_stays k14)
    have R4 := Hd.mk r4
    clear k14 r3 r4 S13 HU2 R1 R2 c0 c1 c2 c3 c4
    go_wp2_with fail
    refine HI1.out.mono ?_
    rintro e w15 ⟨rfl, k15⟩
    have B15 := Hd.mk (Below.chain B14.out k15)
    have HI2 := Hd.mk (ints_any v2 v4 l2 l2 w15 (R2'.out.below intE_stays k15) (R4.out.below intE_stays k15) HUL.out.2 HUL.out.2)
    rw [decide_eq_true rfl] at HI2
    clear k15 B14 R2' R4 HI1
    go_wp2_with fail
    refine HI2.out.mono ?_
    rintro e w16 ⟨rfl, k16⟩
    have B16 := Hd.mk (Below.chain B15.out k16)
    clear k16
    go_wp2
    go_ret
    exact ⟨rfl, B16.out⟩

end Go.Proofs.YtlohhlbbkliehaaGreatDoor.W
