/-
  RelocTells: the walk.
-/
import Derived.Test.YtmngicdgapkbmaaDoorTl5
import Derived.Test.YtmngicdgapkbmaaDoorSm15
import Derived.Test.YtmngicdgapkbmaaDoorMoves
namespace Go.Proofs.YtmngicdgapkbmaaDoor.W
open Go.RowKit Go.ChangeShapes Go.WideShapes
set_option linter.unusedVariables false

set_option maxHeartbeats 2000000 in
set_option maxRecDepth 100000 in
theorem tells_long (W : World) (k : Int) (y : Wh) (s : ByteArray) (x tg v : Int) (hs : s.size ≤ 140737488351232) (hT : Tabs W) (hl : 300 < s.size) :
    Calls Tryd.prog 3 #[.int .i64 k, whV y, .string s, .int .i64 x, .int .i64 tg, .int .i64 v] W fun e w' => e = .returned (.bool true) ∧ Below W.heap.size W w' := by
  have TB0 : Hd (TB W (W.alloc (.cells (whCells y).toArray 23))) := ⟨(TB.refl hT).alloc _⟩
  have HS := Hd.mk (small15_any _ TB0.out.t)
  have d : decide ((300 : Int) < s.size) = true := by simp; omega
  unfold whV
  unfold whCells at HS TB0
  clear hT hl
  go_enter Tryd.func3, Tryd.ntmps3
  go_wp2_with fail
  refine HS.out.mono ?_
  rintro e w1 ⟨rfl, kk⟩
  have T1 := Hd.mk (TB0.out.step kk); clear kk
  go_wp2
  go_ret
  exact ⟨rfl, T1.out.b⟩

/-- both circumstances as they lie -/
structure TwoWh (w : World) (b1 b2 : Nat) (xs xa xp xi xb xz xl : Int) : Prop where
  a : Blk w b1 23 [.int .i64 xs, .int .i64 xa, .int .i64 xp, .int .i64 xi, .int .i64 xb, .int .i64 xz, .int .i64 xl]
  b : Blk w b2 25 [.int .i64 xs, .int .i64 xa, .int .i64 xp, .int .i64 xi, .int .i64 xb, .int .i64 xz, .int .i64 xl]
theorem TwoWh.below {w w' : World} {b1 b2 : Nat} {xs xa xp xi xb xz xl : Int} (h : TwoWh w b1 b2 xs xa xp xi xb xz xl) (k : Below w.heap.size w w') : TwoWh w' b1 b2 xs xa xp xi xb xz xl :=
  ⟨h.a.below k h.a.lt, h.b.below k h.b.lt⟩

set_option maxHeartbeats 8000000 in
set_option maxRecDepth 100000 in
theorem tells_short (W : World) (k : Int) (y : Wh) (s : ByteArray) (x tg v : Int) (hy : WhOk y) (hx : i64R x) (hv : i64R v) (hT : Tabs W) (hl : s.size ≤ 300) :
    Calls Tryd.prog 3 #[.int .i64 k, whV y, .string s, .int .i64 x, .int .i64 tg, .int .i64 v] W fun e w' => e = .returned (.bool true) ∧ Below W.heap.size W w' := by
  have TB0 : Hd (TB W (W.alloc (.cells (whCells y).toArray 23))) := ⟨(TB.refl hT).alloc _⟩
  have HB := Hd.mk (Blk.new W 23 (whCells y))
  have HS := Hd.mk (small15_any _ TB0.out.t)
  have d : decide ((300 : Int) < s.size) = false := by simp; omega
  have HWi := fun w (h : Tabs w) => Hd.mk (width_any k w h)
  have HRWi := fun w => Hd.mk (rwidth_any k w)
  have HV := fun w => Hd.mk (value_any k y w hy)
  have HRV := fun w => Hd.mk (rvalue_any k y w hy)
  have HF := fun w (h : Tabs w) => Hd.mk (fits15_any k v w h hv)
  have HRF := fun w => Hd.mk (rfits15_any k v w)
  have HC := fun w (h : Tabs w) => Hd.mk (code_any k w h)
  have HRC := fun w => Hd.mk (rcode_any k w)
  have HD := fun w => Hd.mk (direct_any k tg w)
  have HRD := fun w => Hd.mk (rdirect_any k tg w)
  have HWR := fun w (h : Tabs w) => Hd.mk (write15_any s x k v w (by omega) hx hv h)
  have HRWR := fun w => Hd.mk (rwrite_any s x k v w (by omega) hx hv)
  have HRE := fun w (h : Tabs w) => Hd.mk (read15_any s x k w (by omega) hx h)
  have HRRE := fun w => Hd.mk (rread15_any s x k w (by omega) hx)
  obtain ⟨⟨tw, tb⟩, hw⟩ : ∃ p, write15 s x k v = p := ⟨_, rfl⟩
  obtain ⟨⟨rm, rb⟩, hr⟩ : ∃ p, read15 s x k = p := ⟨_, rfl⟩
  simp only [hw] at HWR HRWR
  simp only [hr] at HRE HRRE
  obtain ⟨o, ho⟩ : ∃ o, offI k = o := ⟨_, rfl⟩
  obtain ⟨z, hz⟩ : ∃ z, sizeI k = z := ⟨_, rfl⟩
  obtain ⟨f, hf⟩ : ∃ z, fits15 k v = z := ⟨_, rfl⟩
  obtain ⟨c, hc⟩ : ∃ z, code15 k = z := ⟨_, rfl⟩
  obtain ⟨dd, hd⟩ : ∃ z, direct15 k tg = z := ⟨_, rfl⟩
  obtain ⟨vv, hvv⟩ : ∃ z, val15 k y = z := ⟨_, rfl⟩
  rw [ho, hz] at HWi HRWi
  rw [hf] at HF HRF
  rw [hc] at HC HRC
  rw [hd] at HD HRD
  rw [hvv] at HV HRV
  obtain ⟨xs, xa, xp, xi, xb, xz, xl⟩ := y
  unfold whV at HV HRV ⊢
  unfold whCells at HS TB0 HB
  have hc' : ∀ {w' : World} {b : Nat} {T : TypeId}, Blk w' b T [.int .i64 xs, .int .i64 xa, .int .i64 xp, .int .i64 xi, .int .i64 xb, .int .i64 xz, .int .i64 xl] → w'.cell? ⟨b, 0, none⟩ = some (.int .i64 xs) ∧ w'.cell? ⟨b, 1, none⟩ = some (.int .i64 xa) ∧ w'.cell? ⟨b, 2, none⟩ = some (.int .i64 xp) ∧ w'.cell? ⟨b, 3, none⟩ = some (.int .i64 xi) ∧ w'.cell? ⟨b, 4, none⟩ = some (.int .i64 xb) ∧ w'.cell? ⟨b, 5, none⟩ = some (.int .i64 xz) ∧ w'.cell? ⟨b, 6, none⟩ = some (.int .i64 xl) := fun h =>
    ⟨h.at (j := 0) rfl, h.at (j := 1) rfl, h.at (j := 2) rfl, h.at (j := 3) rfl, h.at (j := 4) rfl, h.at (j := 5) rfl, h.at (j := 6) rfl⟩
  have HCL := Hd.mk @hc'; clear hc'
  clear hw hr ho hz hf hc hd hvv hy hx hv hT hl
  go_enter Tryd.func3, Tryd.ntmps3
  go_wp2_with fail
  refine HS.out.mono ?_
  rintro e w1 ⟨rfl, kk⟩
  have T1 := Hd.mk (TB0.out.step kk)
  have P1 := Hd.mk (HB.out.below kk HB.out.lt); clear kk HS TB0 HB
  obtain ⟨b0, b1, b2, b3, b4, b5, b6⟩ := HCL.out P1.out
  have P2' := (Blk.new w1 25 [.int .i64 xs, .int .i64 xa, .int .i64 xp, .int .i64 xi, .int .i64 xb, .int .i64 xz, .int .i64 xl])
  have P2 : Hd (TwoWh (w1.alloc (.cells #[.int .i64 xs, .int .i64 xa, .int .i64 xp, .int .i64 xi, .int .i64 xb, .int .i64 xz, .int .i64 xl] 25)) W.heap.size w1.heap.size xs xa xp xi xb xz xl) := ⟨P1.out.alloc _, P2'⟩
  have T2 : Hd (TB W (w1.alloc (.cells #[.int .i64 xs, .int .i64 xa, .int .i64 xp, .int .i64 xi, .int .i64 xb, .int .i64 xz, .int .i64 xl] 25))) := ⟨T1.out.alloc _⟩
  clear P2' P1 T1
  go_wp2_with fail
  refine (HWi _ T2.out.t).out.mono ?_
  rintro e w2 ⟨rfl, kk⟩
  have T3 := Hd.mk (T2.out.step kk)
  have P3 := Hd.mk (P2.out.below kk); clear kk T2 P2 b0 b1 b2 b3 b4 b5 b6
  go_wp2_with fail
  refine (HRWi _).out.mono ?_
  rintro e w3 ⟨rfl, rfl⟩
  obtain ⟨B1, hB1⟩ : ∃ b, W.heap.size = b := ⟨_, rfl⟩
  obtain ⟨B2, hB2⟩ : ∃ b, w1.heap.size = b := ⟨_, rfl⟩
  rw [hB1, hB2] at P3
  have HB1 := Hd.mk hB1
  have HB2 := Hd.mk hB2
  go_wp2_with fail
  clear hB1 hB2
  refine wp_region_lin default (fun w' => TwoWh w' B1 B2 xs xa xp xi xb xz xl) [(0, true), (1, true), (3, true), (4, true), (2, false), (5, false), (6, true), (7, true), (8, true), (9, true), (11, true), (12, true), (10, false), (13, false), (14, true), (15, true), (16, true), (17, true), (18, true), (19, true), (20, true), (21, true), (22, true), (23, true), (24, true), (25, true), (26, true), (27, true), (29, true), (28, false), (30, false), (31, true), (32, true), (33, true), (34, true), (35, true), (37, true), (38, true), (36, false), (39, false), (40, true), (41, true)] (by kernel_rfl) (by kernel_rfl) rfl (by kernel_rfl) (by kernel_rfl) ⟨P3.out.a.drew, P3.out.b.drew⟩ ?_
  simp only [pick, List.getD_cons_zero, List.getD_cons_succ]
  have T4 : Hd (TB W w2.drew) := ⟨T3.out.step (Below.refl _ _).drew⟩
  have P4 : Hd (TwoWh w2.drew B1 B2 xs xa xp xi xb xz xl) := ⟨P3.out.a.drew, P3.out.b.drew⟩
  clear T3 P3
  repeat
    refine lin_free (v := ?_) (by rfl) ?_ ?_
    rotate_left
    · intro w' hSw
      first
      | (go_simp
         first | done | with_reducible rfl)
      | (obtain ⟨c0, c1, c2, c3, c4, c5, c6⟩ := HCL.out hSw.a
         obtain ⟨d0, d1, d2, d3, d4, d5, d6⟩ := HCL.out hSw.b
         go_simp
         first | done | with_reducible rfl)
    simp only [Act.put, List.setIfInBounds_toArray, List.set_cons_zero, List.set_cons_succ]
  refine lin_bound (fun K hK => ?_)
  go_simp
  refine (HV _).out.mono ?_
  rintro e w5 ⟨rfl, k5⟩
  dsimp only
  have T5 := Hd.mk (T4.out.step k5)
  have P5 := Hd.mk (P4.out.below k5)
  refine hK.out _ _ P5.out ?_
  clear hK K k5 T4 P4
  refine lin_bound (fun K hK => ?_)
  go_simp
  refine (HRV _).out.mono ?_
  rintro e w6 ⟨rfl, k6⟩
  dsimp only
  have T6 := Hd.mk (T5.out.step k6)
  have P6 := Hd.mk (P5.out.below k6)
  refine hK.out _ _ P6.out ?_
  clear hK K k6 T5 P5
  repeat
    refine lin_free (v := ?_) (by rfl) ?_ ?_
    rotate_left
    · intro w' hSw
      go_simp
      first | done | with_reducible rfl
    simp only [Act.put, List.setIfInBounds_toArray, List.set_cons_zero, List.set_cons_succ]
  refine lin_bound (fun K hK => ?_)
  go_simp
  refine (HF _ T6.out.t).out.mono ?_
  rintro e w7 ⟨rfl, rfl⟩
  dsimp only
  refine hK.out _ _ P6.out ?_
  clear hK K
  refine lin_bound (fun K hK => ?_)
  go_simp
  refine (HRF _).out.mono ?_
  rintro e w7 ⟨rfl, rfl⟩
  dsimp only
  refine hK.out _ _ P6.out ?_
  clear hK K
  repeat
    refine lin_free (v := ?_) (by rfl) ?_ ?_
    rotate_left
    · intro w' hSw
      go_simp
      first | done | with_reducible rfl
    simp only [Act.put, List.setIfInBounds_toArray, List.set_cons_zero, List.set_cons_succ]
  refine lin_bound (fun K hK => ?_)
  go_simp
  refine (HC _ T6.out.t).out.mono ?_
  rintro e w7 ⟨rfl, rfl⟩
  dsimp only
  refine hK.out _ _ P6.out ?_
  clear hK K
  refine lin_bound (fun K hK => ?_)
  go_simp
  refine (HRC _).out.mono ?_
  rintro e w7 ⟨rfl, rfl⟩
  dsimp only
  refine hK.out _ _ P6.out ?_
  clear hK K
  repeat
    refine lin_free (v := ?_) (by rfl) ?_ ?_
    rotate_left
    · intro w' hSw
      go_simp
      first | done | with_reducible rfl
    simp only [Act.put, List.setIfInBounds_toArray, List.set_cons_zero, List.set_cons_succ]
  refine lin_bound (fun K hK => ?_)
  go_simp
  refine (HD _).out.mono ?_
  rintro e w7 ⟨rfl, rfl⟩
  dsimp only
  refine hK.out _ _ P6.out ?_
  clear hK K
  refine lin_bound (fun K hK => ?_)
  go_simp
  refine (HRD _).out.mono ?_
  rintro e w7 ⟨rfl, rfl⟩
  dsimp only
  refine hK.out _ _ P6.out ?_
  clear hK K
  repeat
    refine lin_free (v := ?_) (by rfl) ?_ ?_
    rotate_left
    · intro w' hSw
      go_simp
      first | done | with_reducible rfl
    simp only [Act.put, List.setIfInBounds_toArray, List.set_cons_zero, List.set_cons_succ]
  refine NoPanic.normal ?_
  clear P6
  go_wp2_with fail
  refine (HWR _ T6.out.t).out.mono ?_
  rintro e w7 ⟨rfl, kk⟩
  have T7 := Hd.mk (T6.out.step kk); clear kk T6
  go_wp2_with fail
  refine (HRWR _).out.mono ?_
  rintro e w8 ⟨rfl, kk⟩
  have T8 := Hd.mk (T7.out.step kk); clear kk T7
  go_wp2_with fail
  refine (HRE _ T8.out.t).out.mono ?_
  rintro e w9 ⟨rfl, kk⟩
  have T9 := Hd.mk (T8.out.step kk); clear kk T8
  go_wp2_with fail
  refine (HRRE _).out.mono ?_
  rintro e w10 ⟨rfl, rfl⟩
  go_wp2
  go_ret
  exact ⟨rfl, T9.out.b⟩

theorem tells_any (W : World) (k : Int) (wv : Value) (y : Wh) (s : ByteArray) (x tg v : Int) (hk : -9223372036854775808 ≤ k ∧ k ≤ 9223372036854775807) (hy : ArgWh W wv y) (hs : s.size ≤ 140737488351232)
    (hx : -9223372036854775808 ≤ x ∧ x ≤ 9223372036854775807) (htg : -9223372036854775808 ≤ tg ∧ tg ≤ 9223372036854775807) (hv : -9223372036854775808 ≤ v ∧ v ≤ 9223372036854775807) (hT : Tabs W) :
    Calls Tryd.prog 3 #[.int .i64 k, wv, .string s, .int .i64 x, .int .i64 tg, .int .i64 v] W fun e w' => e = .returned (.bool true) ∧ Below W.heap.size W w' := by
  obtain rfl := hy.is
  by_cases hl : s.size ≤ 300
  · exact tells_short W k y s x tg v hy.ok hx hv hT hl
  · exact tells_long W k y s x tg v hs hT (by omega)

end Go.Proofs.YtmngicdgapkbmaaDoor.W
