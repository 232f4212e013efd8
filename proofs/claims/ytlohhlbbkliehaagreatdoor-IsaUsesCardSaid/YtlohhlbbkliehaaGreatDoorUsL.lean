/-
  IsaUses walked.
-/
import Derived.Test.YtlohhlbbkliehaaGreatDoorSm9
import Derived.Test.YtlohhlbbkliehaaGreatDoorSw9
import Derived.Test.YtlohhlbbkliehaaGreatDoorIn9
import Derived.Test.YtlohhlbbkliehaaGreatDoorWit9
namespace Go.Proofs.YtlohhlbbkliehaaGreatDoor.W
open Go.RowKit
set_option linter.unusedVariables false

/-- an instruction in memory -/
structure S1 (w w' : World) (I : Nat) (x : In5) : Prop where
  bel : Below w.heap.size w w'
  i : Blk w' I 23 [.int .i64 x.op, .int .i64 x.a, .int .i64 x.b, .int .i64 x.c, .int .i64 x.m]
theorem S1.below {w w1 w2 : World} {I : Nat} {x : In5} (h : S1 w w1 I x) (k : Below w1.heap.size w1 w2) : S1 w w2 I x := ⟨Below.chain h.bel k, h.i.below k h.i.lt⟩
theorem S1.at {w w1 : World} {I : Nat} {x : In5} (h : S1 w w1 I x) : w1.cell? ⟨I, 0, none⟩ = some (.int .i64 x.op) ∧ w1.cell? ⟨I, 1, none⟩ = some (.int .i64 x.a) ∧ w1.cell? ⟨I, 2, none⟩ = some (.int .i64 x.b) ∧ w1.cell? ⟨I, 3, none⟩ = some (.int .i64 x.c) ∧ w1.cell? ⟨I, 4, none⟩ = some (.int .i64 x.m) :=
  ⟨h.i.at (j := 0) rfl, h.i.at (j := 1) rfl, h.i.at (j := 2) rfl, h.i.at (j := 3) rfl, h.i.at (j := 4) rfl⟩

theorem own_nilI (w : World) : Own (w.alloc (.cells #[] 3)) w.heap.size 3 (.slice (some ⟨w.heap.size, 0, none⟩) 0 0) (([] : List Int).map (Value.int .i64)) := by
  have hb := Blk.new w 3 []
  exact ⟨.inr ⟨w.heap.size, 0, rfl, Nat.le_refl _, Nat.le_refl _, Nat.zero_le _, ⟨#[], (0, 0), hb.is, rfl⟩, fun j u hj => by simp at hj, fun j hj => absurd hj (Nat.not_lt_zero _)⟩⟩
/-- the two rows, one behind the other, in a row of the law's own -/
theorem app_two (w : World) (ty : TypeId) (v1 v2 : Value) (l1 l2 : List Int) (h1 : Rw 1 intE w v1 l1) (h2 : Rw 1 intE w v2 l2) (hl1 : l1.length ≤ 3) (hl2 : l2.length ≤ 2) :
    ∃ v3 w3 v4 w4, (Builtin.append_ #[34, 34] ty #[.slice (some ⟨w.heap.size, 0, none⟩) 0 0, v1]).run Tryz.prog (w.alloc (.cells #[] 3)) = .ok v3 w3 ∧ (Builtin.append_ #[34, 34] ty #[v3, v2]).run Tryz.prog w3 = .ok v4 w4 ∧ Rw 1 intE w4 v4 (l1 ++ l2) ∧ Below w.heap.size w w4 := by
  have k0 : Below w.heap.size w (w.alloc (.cells #[] 3)) := (Below.refl _ _).alloc (Nat.le_refl _) _
  obtain ⟨v3, w3, hr3, ho3, hk3⟩ := app_ints (w.alloc (.cells #[] 3)) ty (B := w.heap.size) k0.size _ v1 [] l1 (own_nilI w) (h1.below intE_stays k0) (by decide) (by omega)
  rw [List.nil_append] at ho3
  have K3 : Keeps (fun g => w.heap.size ≤ g) w w3 := ((Keeps.refl (fun g => w.heap.size ≤ g) w).alloc _).trans (hk3.mono (fun g _ e => (Own.lt (own_nilI w) e).1))
  have k3 : Below w.heap.size w w3 := K3.below (Nat.le_refl _) (fun k h1 h2 => by omega)
  obtain ⟨v4, w4, hr4, ho4, hk4⟩ := app_ints w3 ty (B := w.heap.size) k3.size v3 v2 l1 l2 ho3 (h2.below intE_stays k3) (by omega) (by omega)
  have K4 : Keeps (fun g => w.heap.size ≤ g) w w4 := K3.trans (hk4.mono (fun g _ e => (Own.lt ho3 e).1))
  exact ⟨v3, w3, v4, w4, hr3, hr4, Rw.of_own ho4 (by rw [List.length_map]) (fun j x u hx hu => by rw [List.getElem?_map, hx] at hu; cases hu; rfl), K4.below (Nat.le_refl _) (fun k h1 h2 => by omega)⟩
theorem asc_app {l1 l2 : List Int} (h1 : l1.Pairwise (· < ·)) (h2 : l2.Pairwise (· < ·)) {k : Nat} (hk : k < (l1 ++ l2).length) (h0 : 0 < k) (hn : k ≠ l1.length) : (l1 ++ l2)[k - 1]'(by omega) < (l1 ++ l2)[k] := by
  rw [List.length_append] at hk
  by_cases hlt : k < l1.length
  · rw [List.getElem_append_left hlt, List.getElem_append_left (by omega)]
    exact List.pairwise_iff_getElem.1 h1 _ _ _ _ (by omega)
  · rw [List.getElem_append_right (by omega), List.getElem_append_right (by omega)]
    exact List.pairwise_iff_getElem.1 h2 _ _ _ _ (by omega)
theorem rops_cases {n : Nat} (h1 : 1 ≤ n) (h2 : n ≤ 30) : (decide ((1 : Int) ∈ ropsL n) = false ∧ decide ((2 : Int) ∈ ropsL n) = false ∧ decide ((3 : Int) ∈ ropsL n) = false) ∨ (decide ((1 : Int) ∈ ropsL n) = true ∧ decide ((2 : Int) ∈ ropsL n) = false ∧ decide ((3 : Int) ∈ ropsL n) = false) ∨ (decide ((1 : Int) ∈ ropsL n) = true ∧ decide ((2 : Int) ∈ ropsL n) = true ∧ decide ((3 : Int) ∈ ropsL n) = false) ∨ (decide ((1 : Int) ∈ ropsL n) = true ∧ decide ((2 : Int) ∈ ropsL n) = true ∧ decide ((3 : Int) ∈ ropsL n) = true) := by
  have key : ((List.range 31).all fun n => decide ((decide ((1 : Int) ∈ ropsL n) = false ∧ decide ((2 : Int) ∈ ropsL n) = false ∧ decide ((3 : Int) ∈ ropsL n) = false) ∨ (decide ((1 : Int) ∈ ropsL n) = true ∧ decide ((2 : Int) ∈ ropsL n) = false ∧ decide ((3 : Int) ∈ ropsL n) = false) ∨ (decide ((1 : Int) ∈ ropsL n) = true ∧ decide ((2 : Int) ∈ ropsL n) = true ∧ decide ((3 : Int) ∈ ropsL n) = false) ∨ (decide ((1 : Int) ∈ ropsL n) = true ∧ decide ((2 : Int) ∈ ropsL n) = true ∧ decide ((3 : Int) ∈ ropsL n) = true))) = true := by decide +kernel
  exact of_decide_eq_true (List.all_eq_true.1 key n (List.mem_range.2 (by omega)))

/-- all that the tail of the law knows -/
structure Ts (W w : World) (I : Nat) (z : In5) (v1 v2 : Value) (l1 l2 : List Int) : Prop where
  s : S1 W w I z
  r1 : Rw 1 intE w v1 l1
  r2 : Rw 1 intE w v2 l2
theorem Ts.below {W w w' : World} {I : Nat} {z : In5} {v1 v2 : Value} {l1 l2 : List Int} (h : Ts W w I z v1 v2 l1 l2) (k : Below w.heap.size w w') : Ts W w' I z v1 v2 l1 l2 :=
  ⟨h.s.below k, h.r1.below intE_stays k, h.r2.below intE_stays k⟩

set_option maxHeartbeats 8000000 in
set_option maxRecDepth 100000 in
theorem usesL_any (W : World) (v0 : Value) (z : In5) (x y : Int) (h0 : ArgIns W v0 z) (hx : -9223372036854775808 ≤ x ∧ x ≤ 9223372036854775807) (hy : -9223372036854775808 ≤ y ∧ y ≤ 9223372036854775807) (hT : Tabs W) :
    Calls Tryz.prog 7 #[v0, .int .i64 x, .int .i64 y] W fun e w' => e = .returned (.bool true) ∧ Below W.heap.size W w' := by
  obtain rfl := h0.is
  obtain ⟨op, a, b, c, m⟩ := z
  have hmx : i64R m := h0.m
  have hs : S1 W (W.alloc (.cells #[.int .i64 op, .int .i64 a, .int .i64 b, .int .i64 c, .int .i64 m] 23)) W.heap.size ⟨op, a, b, c, m⟩ := ⟨(Below.refl _ _).alloc (Nat.le_refl _) _, Blk.new _ _ _⟩
  dsimp only
  clear h0
  have HT := Hd.mk hT
  obtain ⟨W2, hW2⟩ : ∃ X, W.alloc (.cells #[.int .i64 op, .int .i64 a, .int .i64 b, .int .i64 c, .int .i64 m] 23) = X := ⟨_, rfl⟩
  rw [hW2] at hs
  obtain ⟨I, hI⟩ : ∃ I, W.heap.size = I := ⟨_, rfl⟩
  rw [hI] at hs
  have HSm := Hd.mk (small_any W2 (hT.below hs.bel))
  have HS0 := Hd.mk hs
  have HU := Hd.mk (fun w h => uses_any op a b c m w h hmx)
  have HR := Hd.mk (fun w h => right_any op a b c m w h hmx)
  obtain ⟨r, hr⟩ : ∃ r, rightB op a b c m = r := ⟨_, rfl⟩
  rw [hr] at HR
  rcases r with _ | _
  · have e1 : usesR op a b c m = [] := by unfold usesR; rw [hr]; rfl
    have e2 : usesW op a b c m = [] := by unfold usesW; rw [hr]; rfl
    rw [e1, e2] at HU
    clear hs hmx hT hr e1 e2 hx hy
    go_enter Tryz.func7, Tryz.ntmps7
    go_wp2_with fail
    refine HSm.out.mono ?_
    rintro e w1 ⟨rfl, k1⟩
    have HS1 := Hd.mk (HS0.out.below k1)
    clear k1 HS0 HSm hW2 hI
    obtain ⟨c0, c1, c2, c3, c4⟩ := HS1.out.at
    dsimp only at c0 c1 c2 c3 c4
    go_wp2_with fail
    refine (HU.out _ (HT.out.below HS1.out.bel)).mono ?_
    rintro e w2 ⟨v1, v2, rfl, r1, r2, k2⟩
    have HS2 := Hd.mk (HS1.out.below k2)
    obtain ⟨p1, d1, rfl⟩ := r1.slice
    obtain ⟨p2, d2, rfl⟩ := r2.slice
    clear k2 HS1 HU c0 c1 c2 c3 c4 r1 r2
    obtain ⟨c0, c1, c2, c3, c4⟩ := HS2.out.at
    dsimp only at c0 c1 c2 c3 c4
    go_wp2_with fail
    refine (HR.out _ (HT.out.below HS2.out.bel).f).mono ?_
    rintro e w3 ⟨rfl, k3⟩
    have HS3 := Hd.mk (HS2.out.below k3)
    clear k3 HS2 HR c0 c1 c2 c3 c4
    go_wp2
    go_ret
    exact ⟨rfl, HS3.out.bel⟩
  · have hp := right_parts hr
    obtain ⟨n, rfl⟩ : ∃ n : Nat, op = (n : Int) := ⟨op.toNat, by have := hp.op; omega⟩
    have hn1 : 1 ≤ n := by have := hp.op; omega
    have hn2 : n ≤ 30 := by have := hp.op; omega
    obtain ⟨⟨q1, q2, q3⟩, ⟨q4, q5, q6⟩⟩ := uses_parts hr
    have HSW : Hd (n ≠ 30 → (0 ≤ x ∧ x ≤ 14) → (0 ≤ y ∧ y ≤ 14) → rightB n (swA x y n a) (swB x y n b) (swC x y n c) m = true ∧ usesR n (swA x y n a) (swB x y n b) (swC x y n c) m = swapL x y (usesR n a b c m) ∧ usesW n (swA x y n a) (swB x y n b) (swC x y n c) m = swapL x y (usesW n a b c m)) := ⟨fun h1 h2 h3 => ⟨right_swap h2 h3 hr, uses_swap hr h1 h2 h3⟩⟩
    have HU2 := Hd.mk (fun w h => uses_any n (swA x y n a) (swB x y n b) (swC x y n c) m w h hmx)
    have HR2 := Hd.mk (fun w h => right_any n (swA x y n a) (swB x y n b) (swC x y n c) m w h hmx)
    have HOP := Hd.mk (fun w => roperands_any n w ⟨by omega, by omega⟩)
    rw [Int.toNat_natCast] at HOP
    have HRL := Hd.mk (ropsL_len n ⟨by omega, by omega⟩)
    rw [Int.toNat_natCast] at HRL
    have HRC := Hd.mk (rops_cases hn1 hn2)
    have HSA : Hd (swA x y n a = (if decide ((1 : Int) ∈ ropsL n) = true then mapI x y a else a) ∧ swB x y n b = (if decide ((2 : Int) ∈ ropsL n) = true then mapI x y b else b) ∧ swC x y n c = (if decide ((3 : Int) ∈ ropsL n) = true then mapI x y c else c)) := ⟨by simp [swA, swB, swC]⟩
    obtain ⟨l1, hl1⟩ : ∃ l, usesR n a b c m = l := ⟨_, rfl⟩
    obtain ⟨l2, hl2⟩ : ∃ l, usesW n a b c m = l := ⟨_, rfl⟩
    rw [hl1, hl2] at HU HSW
    rw [hl1] at q1 q2 q3
    rw [hl2] at q4 q5 q6
    have HA := Hd.mk (fun k hk h0 hne => @asc_app l1 l2 q1 q4 k hk h0 hne)
    have HRg : Hd (∀ k (hk : k < (l1 ++ l2).length), 0 ≤ (l1 ++ l2)[k] ∧ (l1 ++ l2)[k] ≤ 15) := ⟨fun k hk => by
      rcases List.mem_append.1 (List.getElem_mem hk) with h | h
      · exact q3 _ h
      · exact q6 _ h⟩
    have hx1 := hx
    have hy1 := hy
    have hN : (l1 ++ l2).length ≤ 5 := by rw [List.length_append]; omega
    have t3 : decide ((3 : Int) < (l1.length : Int)) = false := by simp; omega
    have t2 : decide ((2 : Int) < (l2.length : Int)) = false := by simp; omega
    have T32 := Hd.mk (And.intro t3 t2)
    have HQ := Hd.mk (And.intro q2 q5)
    have HN12 := Hd.mk (And.intro hn1 hn2)
    have HXY := Hd.mk (And.intro hx hy)
    clear hs hmx hT hr hl1 hl2 q1 q2 q3 q4 q5 q6 hp t3 t2 hx hy hx1 hy1
    go_enter Tryz.func7, Tryz.ntmps7
    go_wp2_with fail
    refine HSm.out.mono ?_
    rintro e w1 ⟨rfl, k1⟩
    have HS1 := Hd.mk (HS0.out.below k1)
    clear k1 HS0 HSm hW2 hI
    obtain ⟨c0, c1, c2, c3, c4⟩ := HS1.out.at
    dsimp only at c0 c1 c2 c3 c4
    go_wp2_with fail
    refine (HU.out _ (HT.out.below HS1.out.bel)).mono ?_
    rintro e w2 ⟨v1, v2, rfl, r1, r2, k2⟩
    have TS2 : Hd (Ts W w2 I ⟨n, a, b, c, m⟩ v1 v2 l1 l2) := ⟨⟨HS1.out.below k2, r1, r2⟩⟩
    clear k2 HS1 HU c0 c1 c2 c3 c4 r1 r2
    obtain ⟨c0, c1, c2, c3, c4⟩ := TS2.out.s.at
    dsimp only at c0 c1 c2 c3 c4
    go_wp2_with fail
    refine (HR.out _ (HT.out.below TS2.out.s.bel).f).mono ?_
    rintro e w3 ⟨rfl, k3⟩
    have TS3 := Hd.mk (TS2.out.below k3)
    clear k3 TS2 HR c0 c1 c2 c3 c4
    obtain ⟨v3, w4, v4, w5, hr3, hr4, hr5, k5⟩ := app_two w3 34 v1 v2 l1 l2 TS3.out.r1 TS3.out.r2 HQ.out.1 HQ.out.2
    have HR3 := Hd.mk hr3
    have HR4 := Hd.mk hr4
    have HR5 := Hd.mk hr5
    have TS5 := Hd.mk (TS3.out.below k5)
    obtain ⟨p1, d1, hv1⟩ := TS3.out.r1.slice
    obtain ⟨p2, d2, hv2⟩ := TS3.out.r2.slice
    obtain ⟨N1, hN1⟩ : ∃ N, l1.length = N := ⟨_, rfl⟩
    obtain ⟨N2, hN2⟩ : ∃ N, l2.length = N := ⟨_, rfl⟩
    rw [hN1] at hv1 T32 HA HQ
    rw [hN2] at hv2 T32 HQ
    have HN1 := Hd.mk (And.intro hN1 hN2)
    subst hv1 hv2
    clear hr3 hr4 hr5 k5 TS3 hN1 hN2
    go_wp2_with (at_builtin; first | refine wp_append_run rfl (Operand.tmp 36) (Operand.tmp 37) 34 rfl (.slice (some ⟨w3.heap.size, 0, none⟩) 0 0) (.slice p1 N1 d1) _ rfl rfl HR3.out ?_ | refine wp_append_run rfl (Operand.tmp 38) (Operand.tmp 39) 34 rfl v3 (.slice p2 N2 d2) _ rfl rfl HR4.out ?_)
    clear HR3 HR4
    obtain ⟨p4, d4, hv4⟩ := HR5.out.slice
    obtain ⟨N, hN5⟩ : ∃ N, (l1 ++ l2).length = N := ⟨_, rfl⟩
    rw [hN5] at hv4 hN
    have HN5 := Hd.mk hN5
    subst hv4
    clear hN5
    go_wp2
    go_loopw [11] (fun i wr => ∃ k : Nat, k ≤ N ∧ i = .int .i64 k ∧ Hd (Below w5.heap.size w5 wr)) (fun i _ => N - (intOf i).toNat)
    case atStart => exact ⟨0, Nat.zero_le _, rfl, ⟨Below.refl _ _⟩⟩
    case round =>
      obtain ⟨k, hk, rfl, HB⟩ := hrel
      by_cases hlt : k < N
      · have hd1 : decide ((k : Int) < (N : Int)) = true := by simp; omega
        have hkl : k < (l1 ++ l2).length := by rw [HN5.out]; exact hlt
        have hR := HR5.out.below intE_stays HB.out
        obtain ⟨g, o, cs, e1, hg, hcl, he, hc⟩ := hR.at rfl hkl
        unfold intE at he
        subst e1 he
        have z1 := hc 0 _ rfl
        rw [Nat.mul_one, Nat.add_zero] at z1
        have hrg := HRg.out k hkl
        have hasc : 0 < k → k ≠ N1 → ∃ u, wr.cell? ⟨g, o + (k - 1), none⟩ = some (.int .i64 u) ∧ u < (l1 ++ l2)[k] := fun h0 hne => by
          obtain ⟨g', o', cs', e', hg', hcl', he', hc'⟩ := hR.at rfl (show k - 1 < (l1 ++ l2).length by omega)
          simp only [Option.some.injEq, Addr.mk.injEq, and_true] at e'
          obtain ⟨rfl, rfl⟩ := e'
          unfold intE at he'
          subst he'
          have := hc' 0 _ rfl
          rw [Nat.mul_one, Nat.add_zero] at this
          exact ⟨_, this, HA.out k hkl h0 hne⟩
        obtain ⟨zk, hzk⟩ : ∃ u, (l1 ++ l2)[k] = u := ⟨_, rfl⟩
        rw [hzk] at z1 hrg hasc
        have HAS := Hd.mk hasc
        have b1 : decide (zk < 0) = false := by simp; omega
        have b2 : decide (15 < zk) = false := by simp; omega
        have b1' : (zk < 0) = False := eq_false (by omega)
        have b2' : (15 < zk) = False := eq_false (by omega)
        have i0 : (0 : Int) ≤ (k : Int) := by omega
        have i1 : (k : Int) < (N : Int) := by omega
        clear hasc hzk hc hR hkl hcl hg hrg
        by_cases hk0 : k = 0
        · subst hk0
          rw [Nat.add_zero] at z1
          have Z1 := Hd.mk z1
          clear z1
          go_wp2_with fail
          refine wp_region_lin default (fun w' => w'.cell? ⟨g, o, none⟩ = some (.int .i64 zk)) [(0, true), (1, true), (2, true), (3, true), (4, true), (5, true), (6, true), (7, true), (8, true), (9, true), (10, true), (11, true), (12, true), (13, true), (14, true), (15, true), (16, true), (17, true), (18, true), (19, true), (20, true), (21, true), (22, true), (23, true), (24, true), (25, true), (26, true), (27, true), (28, true), (29, true), (30, true), (31, true), (32, true), (33, true)] (by kernel_rfl) (by kernel_rfl) rfl (by kernel_rfl) (by kernel_rfl) Z1.out ?_
          simp only [pick, List.getD_cons_zero, List.getD_cons_succ]
          repeat
            first
            | (refine lin_free (v := ?_) (by rfl) ?_ ?_
               rotate_left
               · intro w' hSw
                 go_simp
                 first | done | with_reducible rfl)
            | refine lin_skip (by rfl) ?_
            simp only [Act.put, List.setIfInBounds_toArray, List.set_cons_zero, List.set_cons_succ]
          refine NoPanic.normal ?_
          have HB2 : Hd (Below w5.heap.size w5 wr.drew) := ⟨Below.chain HB.out (Below.refl _ _).drew⟩
          go_wp2
          go_roundw
          case rel => exact ⟨1, by omega, by go_num, HB2⟩
          case measure => simp [intOf]; omega
        · have hkp : 0 < k := by omega
          have b3 : decide ((0 : Int) < (k : Int)) = true := by simp; omega
          have w1' : IntKind.i64.wrap ((k : Int) - 1) = ((k - 1 : Nat) : Int) := by rw [IntWalk.i64_in _ (by omega)]; omega
          have j0 : (0 : Int) ≤ ((k - 1 : Nat) : Int) := by omega
          have j1 : ((k - 1 : Nat) : Int) < (N : Int) := by omega
          by_cases hkn : k = N1
          · have b4 : ((k : Int) != (N1 : Int)) = false := by simp; omega
            have Z1 := Hd.mk z1
            clear z1 hk0 hkn
            go_wp2_with fail
            refine wp_region_lin default (fun w' => w'.cell? ⟨g, o + k, none⟩ = some (.int .i64 zk)) [(0, true), (1, true), (2, true), (3, true), (4, true), (5, true), (6, true), (7, true), (8, true), (9, true), (10, true), (11, true), (12, true), (13, true), (14, true), (15, true), (16, true), (17, true), (18, true), (19, true), (20, true), (21, true), (22, true), (23, true), (24, true), (25, true), (26, true), (27, true), (28, true), (29, true), (30, true), (31, true), (32, true), (33, true)] (by kernel_rfl) (by kernel_rfl) rfl (by kernel_rfl) (by kernel_rfl) Z1.out ?_
            simp only [pick, List.getD_cons_zero, List.getD_cons_succ]
            repeat
              first
              | (refine lin_free (v := ?_) (by rfl) ?_ ?_
                 rotate_left
                 · intro w' hSw
                   go_simp
                   first | done | with_reducible rfl)
              | refine lin_skip (by rfl) ?_
              simp only [Act.put, List.setIfInBounds_toArray, List.set_cons_zero, List.set_cons_succ]
            refine NoPanic.normal ?_
            have HB2 : Hd (Below w5.heap.size w5 wr.drew) := ⟨Below.chain HB.out (Below.refl _ _).drew⟩
            go_wp2
            go_roundw
            case rel => exact ⟨k + 1, by omega, by go_num, HB2⟩
            case measure => simp [intOf]; omega
          · have b4 : ((k : Int) != (N1 : Int)) = true := by simp only [bne_iff_ne, ne_eq]; omega
            obtain ⟨u, z2, hu⟩ := HAS.out hkp hkn
            have b5 : decide (zk ≤ u) = false := by simp; omega
            have b5' : (zk ≤ u) = False := eq_false (by omega)
            have Z1 := Hd.mk (And.intro z1 z2)
            clear z1 z2 hk0 hu
            go_wp2_with fail
            refine wp_region_lin default (fun w' => w'.cell? ⟨g, o + k, none⟩ = some (.int .i64 zk) ∧ w'.cell? ⟨g, o + (k - 1), none⟩ = some (.int .i64 u)) [(0, true), (1, true), (2, true), (3, true), (4, true), (5, true), (6, true), (7, true), (8, true), (9, true), (10, true), (11, true), (12, true), (13, true), (14, true), (15, true), (16, true), (17, true), (18, true), (19, true), (20, true), (21, true), (22, true), (23, true), (24, true), (25, true), (26, true), (27, true), (28, true), (29, true), (30, true), (31, true), (32, true), (33, true)] (by kernel_rfl) (by kernel_rfl) rfl (by kernel_rfl) (by kernel_rfl) Z1.out ?_
            simp only [pick, List.getD_cons_zero, List.getD_cons_succ]
            repeat
              first
              | (refine lin_free (v := ?_) (by rfl) ?_ ?_
                 rotate_left
                 · intro w' hSw
                   obtain ⟨hSw1, hSw2⟩ := hSw
                   go_simp
                   first | done | with_reducible rfl)
              | refine lin_skip (by rfl) ?_
              simp only [Act.put, List.setIfInBounds_toArray, List.set_cons_zero, List.set_cons_succ]
            refine NoPanic.normal ?_
            have HB2 : Hd (Below w5.heap.size w5 wr.drew) := ⟨Below.chain HB.out (Below.refl _ _).drew⟩
            go_wp2
            go_roundw
            case rel => exact ⟨k + 1, by omega, by go_num, HB2⟩
            case measure => simp [intOf]; omega
      · have hd1 : decide ((k : Int) < (N : Int)) = false := by simp; omega
        have TS6 := Hd.mk (TS5.out.below HB.out)
        obtain ⟨t3, t2⟩ := T32.out
        obtain ⟨c0, c1, c2, c3, c4⟩ := TS6.out.s.at
        dsimp only at c0 c1 c2 c3 c4
        clear HR5 HB TS5 hk
        by_cases hout : n = 30 ∨ (n ≠ 30 ∧ x < 0) ∨ (n ≠ 30 ∧ ¬ x < 0 ∧ 14 < x) ∨ (n ≠ 30 ∧ ¬ x < 0 ∧ ¬ 14 < x ∧ y < 0) ∨ (n ≠ 30 ∧ ¬ x < 0 ∧ ¬ 14 < x ∧ ¬ y < 0 ∧ 14 < y)
        · rcases hout with h | ⟨h, hx⟩ | ⟨h, hx, hx2⟩ | ⟨h, hx, hx2, hy⟩ | ⟨h, hx, hx2, hy, hy2⟩
          · have f1 : ((n : Int) == 30) = true := by simp; omega
            go_wp2
            go_ret
            exact ⟨rfl, TS6.out.s.bel⟩
          · have f1 : ((n : Int) == 30) = false := by simp; omega
            have f2 : decide (x < 0) = true := by simp; omega
            go_wp2
            go_ret
            exact ⟨rfl, TS6.out.s.bel⟩
          · have f1 : ((n : Int) == 30) = false := by simp; omega
            have f2 : decide (x < 0) = false := by simp; omega
            have f3 : decide (14 < x) = true := by simp; omega
            go_wp2
            go_ret
            exact ⟨rfl, TS6.out.s.bel⟩
          · have f1 : ((n : Int) == 30) = false := by simp; omega
            have f2 : decide (x < 0) = false := by simp; omega
            have f3 : decide (14 < x) = false := by simp; omega
            have f4 : decide (y < 0) = true := by simp; omega
            go_wp2
            go_ret
            exact ⟨rfl, TS6.out.s.bel⟩
          · have f1 : ((n : Int) == 30) = false := by simp; omega
            have f2 : decide (x < 0) = false := by simp; omega
            have f3 : decide (14 < x) = false := by simp; omega
            have f4 : decide (y < 0) = false := by simp; omega
            have f5 : decide (14 < y) = true := by simp; omega
            go_wp2
            go_ret
            exact ⟨rfl, TS6.out.s.bel⟩
        · have h30 : n ≠ 30 := by omega
          have hx : 0 ≤ x ∧ x ≤ 14 := by omega
          have hy : 0 ≤ y ∧ y ≤ 14 := by omega
          have f1 : ((n : Int) == 30) = false := by simp; omega
          have f2 : decide (x < 0) = false := by simp; omega
          have f3 : decide (14 < x) = false := by simp; omega
          have f4 : decide (y < 0) = false := by simp; omega
          have f5 : decide (14 < y) = false := by simp; omega
          have hsw := HSW.out h30 hx hy
          rw [hsw.1] at HR2
          rw [hsw.2.1, hsw.2.2] at HU2
          clear hsw hout h30 hx hy HSW
          go_wp2_with fail
          refine (HOP.out _).mono ?_
          rintro e w7 ⟨⟨vO, rfl, hO⟩, k7⟩
          have TS7 := Hd.mk (TS6.out.below k7)
          have HO7 := Hd.mk hO
          clear k7 hO TS6 c0 c1 c2 c3 c4 HOP t3 t2 f1 f2 f3 f4 f5
          obtain ⟨c0, c1, c2, c3, c4⟩ := TS7.out.s.at
          dsimp only at c0 c1 c2 c3 c4
          have hsl : ∃ p d, vO = .slice p (ropsL n).length d := by
            rcases HO7.out.is with ⟨e0, rfl⟩ | ⟨_, g, o, cap, rfl, _⟩
            · rw [e0]; exact ⟨none, 0, rfl⟩
            · exact ⟨_, cap, rfl⟩
          obtain ⟨pO, dO, rfl⟩ := hsl
          have K8 : Hd (Below w7.heap.size w7 (w7.alloc (.cells #[.int .i64 n, .int .i64 a, .int .i64 b, .int .i64 c, .int .i64 m] 23))) := ⟨(Below.refl _ _).alloc (Nat.le_refl _) _⟩
          have HJ8 : Hd (Blk (w7.alloc (.cells #[.int .i64 n, .int .i64 a, .int .i64 b, .int .i64 c, .int .i64 m] 23)) w7.heap.size 23 [.int .i64 n, .int .i64 a, .int .i64 b, .int .i64 c, .int .i64 m]) := ⟨Blk.new _ _ _⟩
          have HA1 := Hd.mk (fun w h => rhas_any w (.slice pO (ropsL n).length dO) (ropsL n) 1 HRL.out h)
          have HA2 := Hd.mk (fun w h => rhas_any w (.slice pO (ropsL n).length dO) (ropsL n) 2 HRL.out h)
          have HA3 := Hd.mk (fun w h => rhas_any w (.slice pO (ropsL n).length dO) (ropsL n) 3 HRL.out h)
          obtain ⟨sA, sB, sC⟩ := HSA.out
          have HM1 := Hd.mk (fun w => mapped_any a x y w)
          have HM2 := Hd.mk (fun w => mapped_any b x y w)
          have HM3 := Hd.mk (fun w => mapped_any c x y w)
          obtain ⟨LO, hLO⟩ : ∃ L, (ropsL n).length = L := ⟨_, rfl⟩
          rw [hLO] at HO7 HA1 HA2 HA3
          obtain ⟨J, hJ⟩ : ∃ J, w7.heap.size = J := ⟨_, rfl⟩
          have HJJ := Hd.mk hJ
          rw [hJ] at HJ8
          obtain ⟨w8, hw8⟩ : ∃ X, w7.alloc (.cells #[.int .i64 n, .int .i64 a, .int .i64 b, .int .i64 c, .int .i64 m] 23) = X := ⟨_, rfl⟩
          rw [hw8] at HJ8 K8
          obtain ⟨b1, hb1⟩ : ∃ b, decide ((1 : Int) ∈ ropsL n) = b := ⟨_, rfl⟩
          obtain ⟨b2, hb2⟩ : ∃ b, decide ((2 : Int) ∈ ropsL n) = b := ⟨_, rfl⟩
          obtain ⟨b3, hb3⟩ : ∃ b, decide ((3 : Int) ∈ ropsL n) = b := ⟨_, rfl⟩
          rw [hb1] at HA1 sA HRC
          rw [hb2] at HA2 sB HRC
          rw [hb3] at HA3 sC HRC
          have SAB := Hd.mk (And.intro sA (And.intro sB sC))
          rw [hLO]
          clear hb1 hb2 hb3 sA sB sC HSA hLO
          go_wp2_with fail
          refine (HA1.out w8 (HO7.out.below K8.out)).mono ?_
          rintro e wx ⟨rfl, rfl⟩
          clear hJ hw8 c0 c1 c2 c3 c4
          have hJ7 : w7.heap.size ≤ J := Nat.le_of_eq HJJ.out
          have HJ7 := Hd.mk hJ7
          clear hJ7
          obtain ⟨c0, c1, c2, c3, c4⟩ := (TS7.out.below K8.out).s.at
          dsimp only at c0 c1 c2 c3 c4
          obtain ⟨ma, hma⟩ : ∃ u, mapI x y a = u := ⟨_, rfl⟩
          obtain ⟨mb, hmb⟩ : ∃ u, mapI x y b = u := ⟨_, rfl⟩
          obtain ⟨mc, hmc⟩ : ∃ u, mapI x y c = u := ⟨_, rfl⟩
          rw [hma] at HM1 SAB
          rw [hmb] at HM2 SAB
          rw [hmc] at HM3 SAB
          clear hma hmb hmc
          have HSL1 : Hd ((swapL x y l1).length ≤ 1000000) := ⟨by have h1 := swapU_len x y l1 16; have h2 := HN1.out.1; have h3 := HQ.out.1; show (swapU x y l1 16).length ≤ _; omega⟩
          have HSL2 : Hd ((swapL x y l2).length ≤ 1000000) := ⟨by have h1 := swapU_len x y l2 16; have h2 := HN1.out.2; have h3 := HQ.out.2; show (swapU x y l2 16).length ≤ _; omega⟩
          have HLL : Hd (l1.length ≤ 100 ∧ l2.length ≤ 100) := ⟨by have h2 := HN1.out; have h3 := HQ.out; omega⟩
          rcases HRC.out with ⟨rfl, rfl, rfl⟩ | ⟨rfl, rfl, rfl⟩ | ⟨rfl, rfl, rfl⟩ | ⟨rfl, rfl, rfl⟩
          · go_wp2_with fail
            refine (HA2.out w8 (HO7.out.below K8.out)).mono ?_
            rintro e wx1 ⟨rfl, rfl⟩
            go_wp2_with fail
            refine (HA3.out w8 (HO7.out.below K8.out)).mono ?_
            rintro e wx2 ⟨rfl, rfl⟩
            have d0 := HJ8.out.at (j := 0) rfl
            have d1 := HJ8.out.at (j := 1) rfl
            have d2 := HJ8.out.at (j := 2) rfl
            have d3 := HJ8.out.at (j := 3) rfl
            have d4 := HJ8.out.at (j := 4) rfl
            have eA : swA x y n a = a := by rw [SAB.out.1]; simp
            have eB : swB x y n b = b := by rw [SAB.out.2.1]; simp
            have eC : swC x y n c = c := by rw [SAB.out.2.2]; simp
            rw [eA, eB, eC] at HU2 HR2
            have TSW := Hd.mk (TS7.out.below K8.out)
            clear eA eB eC
            go_wp2_with fail
            refine (HU2.out _ (HT.out.below TSW.out.s.bel)).mono ?_
            rintro e wU ⟨u1, u2, rfl, ru1, ru2, kU⟩
            have TSU := Hd.mk (TSW.out.below kU)
            have HJU := Hd.mk (HJ8.out.below kU HJ8.out.lt)
            have RU1 := Hd.mk ru1
            have RU2 := Hd.mk ru2
            clear kU ru1 ru2 d0 d1 d2 d3 d4 TSW
            have d0 := HJU.out.at (j := 0) rfl
            have d1 := HJU.out.at (j := 1) rfl
            have d2 := HJU.out.at (j := 2) rfl
            have d3 := HJU.out.at (j := 3) rfl
            have d4 := HJU.out.at (j := 4) rfl
            go_wp2_with fail
            refine (HR2.out _ (HT.out.below TSU.out.s.bel).f).mono ?_
            rintro e wR ⟨rfl, kR⟩
            have TSR := Hd.mk (TSU.out.below kR)
            have RR1 := Hd.mk (RU1.out.below intE_stays kR)
            have RR2 := Hd.mk (RU2.out.below intE_stays kR)
            clear kR d0 d1 d2 d3 d4 RU1 RU2 TSU
            go_wp2_with fail
            refine (swapped_any wR _ l1 x y HLL.out.1 TSR.out.r1).mono ?_
            rintro e wS ⟨vs, rfl, rs, kS⟩
            have TSS := Hd.mk (TSR.out.below kS)
            have RS1 := Hd.mk (RR1.out.below intE_stays kS)
            have RS2 := Hd.mk (RR2.out.below intE_stays kS)
            have HI1 := Hd.mk (ints_any u1 vs (swapL x y l1) (swapL x y l1) wS RS1.out rs HSL1.out HSL1.out)
            rw [decide_eq_true rfl] at HI1
            clear kS rs RR1 RR2 TSR
            go_wp2_with fail
            refine HI1.out.mono ?_
            rintro e wV ⟨rfl, kV⟩
            have TSV := Hd.mk (TSS.out.below kV)
            have RV2 := Hd.mk (RS2.out.below intE_stays kV)
            clear kV RS1 RS2 TSS HI1
            go_wp2_with fail
            refine (swapped_any wV _ l2 x y HLL.out.2 TSV.out.r2).mono ?_
            rintro e wX ⟨vt, rfl, rt, kX⟩
            have TSX := Hd.mk (TSV.out.below kX)
            have HI2 := Hd.mk (ints_any u2 vt (swapL x y l2) (swapL x y l2) wX (RV2.out.below intE_stays kX) rt HSL2.out HSL2.out)
            rw [decide_eq_true rfl] at HI2
            clear kX rt RV2 TSV
            go_wp2_with fail
            refine HI2.out.mono ?_
            rintro e wY ⟨rfl, kY⟩
            have BY := Hd.mk (TSX.out.below kY).s.bel
            clear kY
            go_wp2
            go_ret
            exact ⟨rfl, BY.out⟩
          · have fz0 := HJ8.out.free 1
            have jc0_0 := HJ8.out.at (j := 0) rfl
            have jc0_1 := HJ8.out.at (j := 1) rfl
            have jc0_2 := HJ8.out.at (j := 2) rfl
            have jc0_3 := HJ8.out.at (j := 3) rfl
            have jc0_4 := HJ8.out.at (j := 4) rfl
            go_wp2_with fail
            refine (HM1.out _).mono ?_
            rintro e wy0 ⟨rfl, rfl⟩
            obtain ⟨w90, hw90⟩ : ∃ X, w8.setCell ⟨J, 1, none⟩ (.int .i64 ma) = X := ⟨_, rfl⟩
            have K90 : Hd (Below w7.heap.size w7 w90) := ⟨hw90 ▸ (K8.out.setCell HJ7.out _)⟩
            have HJ90 : Hd (Blk w90 J 23 [.int .i64 n, .int .i64 ma, .int .i64 b, .int .i64 c, .int .i64 m]) := ⟨hw90 ▸ HJ8.out.set 1 (.int .i64 ma)⟩
            obtain ⟨c1_0, c1_1, c1_2, c1_3, c1_4⟩ := (TS7.out.below K90.out).s.at
            dsimp only at c1_0 c1_1 c1_2 c1_3 c1_4
            go_wp2_with fail
            refine (HA2.out w90 (HO7.out.below K90.out)).mono ?_
            rintro e wx1 ⟨rfl, rfl⟩
            go_wp2_with fail
            refine (HA3.out w90 (HO7.out.below K90.out)).mono ?_
            rintro e wx2 ⟨rfl, rfl⟩
            have d0 := HJ90.out.at (j := 0) rfl
            have d1 := HJ90.out.at (j := 1) rfl
            have d2 := HJ90.out.at (j := 2) rfl
            have d3 := HJ90.out.at (j := 3) rfl
            have d4 := HJ90.out.at (j := 4) rfl
            have eA : swA x y n a = ma := by rw [SAB.out.1]; simp
            have eB : swB x y n b = b := by rw [SAB.out.2.1]; simp
            have eC : swC x y n c = c := by rw [SAB.out.2.2]; simp
            rw [eA, eB, eC] at HU2 HR2
            have TSW := Hd.mk (TS7.out.below K90.out)
            clear eA eB eC
            go_wp2_with fail
            refine (HU2.out _ (HT.out.below TSW.out.s.bel)).mono ?_
            rintro e wU ⟨u1, u2, rfl, ru1, ru2, kU⟩
            have TSU := Hd.mk (TSW.out.below kU)
            have HJU := Hd.mk (HJ90.out.below kU HJ90.out.lt)
            have RU1 := Hd.mk ru1
            have RU2 := Hd.mk ru2
            clear kU ru1 ru2 d0 d1 d2 d3 d4 TSW
            have d0 := HJU.out.at (j := 0) rfl
            have d1 := HJU.out.at (j := 1) rfl
            have d2 := HJU.out.at (j := 2) rfl
            have d3 := HJU.out.at (j := 3) rfl
            have d4 := HJU.out.at (j := 4) rfl
            go_wp2_with fail
            refine (HR2.out _ (HT.out.below TSU.out.s.bel).f).mono ?_
            rintro e wR ⟨rfl, kR⟩
            have TSR := Hd.mk (TSU.out.below kR)
            have RR1 := Hd.mk (RU1.out.below intE_stays kR)
            have RR2 := Hd.mk (RU2.out.below intE_stays kR)
            clear kR d0 d1 d2 d3 d4 RU1 RU2 TSU
            go_wp2_with fail
            refine (swapped_any wR _ l1 x y HLL.out.1 TSR.out.r1).mono ?_
            rintro e wS ⟨vs, rfl, rs, kS⟩
            have TSS := Hd.mk (TSR.out.below kS)
            have RS1 := Hd.mk (RR1.out.below intE_stays kS)
            have RS2 := Hd.mk (RR2.out.below intE_stays kS)
            have HI1 := Hd.mk (ints_any u1 vs (swapL x y l1) (swapL x y l1) wS RS1.out rs HSL1.out HSL1.out)
            rw [decide_eq_true rfl] at HI1
            clear kS rs RR1 RR2 TSR
            go_wp2_with fail
            refine HI1.out.mono ?_
            rintro e wV ⟨rfl, kV⟩
            have TSV := Hd.mk (TSS.out.below kV)
            have RV2 := Hd.mk (RS2.out.below intE_stays kV)
            clear kV RS1 RS2 TSS HI1
            go_wp2_with fail
            refine (swapped_any wV _ l2 x y HLL.out.2 TSV.out.r2).mono ?_
            rintro e wX ⟨vt, rfl, rt, kX⟩
            have TSX := Hd.mk (TSV.out.below kX)
            have HI2 := Hd.mk (ints_any u2 vt (swapL x y l2) (swapL x y l2) wX (RV2.out.below intE_stays kX) rt HSL2.out HSL2.out)
            rw [decide_eq_true rfl] at HI2
            clear kX rt RV2 TSV
            go_wp2_with fail
            refine HI2.out.mono ?_
            rintro e wY ⟨rfl, kY⟩
            have BY := Hd.mk (TSX.out.below kY).s.bel
            clear kY
            go_wp2
            go_ret
            exact ⟨rfl, BY.out⟩
          · have fz0 := HJ8.out.free 1
            have jc0_0 := HJ8.out.at (j := 0) rfl
            have jc0_1 := HJ8.out.at (j := 1) rfl
            have jc0_2 := HJ8.out.at (j := 2) rfl
            have jc0_3 := HJ8.out.at (j := 3) rfl
            have jc0_4 := HJ8.out.at (j := 4) rfl
            go_wp2_with fail
            refine (HM1.out _).mono ?_
            rintro e wy0 ⟨rfl, rfl⟩
            obtain ⟨w90, hw90⟩ : ∃ X, w8.setCell ⟨J, 1, none⟩ (.int .i64 ma) = X := ⟨_, rfl⟩
            have K90 : Hd (Below w7.heap.size w7 w90) := ⟨hw90 ▸ (K8.out.setCell HJ7.out _)⟩
            have HJ90 : Hd (Blk w90 J 23 [.int .i64 n, .int .i64 ma, .int .i64 b, .int .i64 c, .int .i64 m]) := ⟨hw90 ▸ HJ8.out.set 1 (.int .i64 ma)⟩
            obtain ⟨c2_0, c2_1, c2_2, c2_3, c2_4⟩ := (TS7.out.below K90.out).s.at
            dsimp only at c2_0 c2_1 c2_2 c2_3 c2_4
            go_wp2_with fail
            refine (HA2.out w90 (HO7.out.below K90.out)).mono ?_
            rintro e wx1 ⟨rfl, rfl⟩
            have fz1 := HJ90.out.free 2
            have jc1_0 := HJ90.out.at (j := 0) rfl
            have jc1_1 := HJ90.out.at (j := 1) rfl
            have jc1_2 := HJ90.out.at (j := 2) rfl
            have jc1_3 := HJ90.out.at (j := 3) rfl
            have jc1_4 := HJ90.out.at (j := 4) rfl
            go_wp2_with fail
            refine (HM2.out _).mono ?_
            rintro e wy1 ⟨rfl, rfl⟩
            obtain ⟨w91, hw91⟩ : ∃ X, w90.setCell ⟨J, 2, none⟩ (.int .i64 mb) = X := ⟨_, rfl⟩
            have K91 : Hd (Below w7.heap.size w7 w91) := ⟨hw91 ▸ (K90.out.setCell HJ7.out _)⟩
            have HJ91 : Hd (Blk w91 J 23 [.int .i64 n, .int .i64 ma, .int .i64 mb, .int .i64 c, .int .i64 m]) := ⟨hw91 ▸ HJ90.out.set 2 (.int .i64 mb)⟩
            obtain ⟨c3_0, c3_1, c3_2, c3_3, c3_4⟩ := (TS7.out.below K91.out).s.at
            dsimp only at c3_0 c3_1 c3_2 c3_3 c3_4
            go_wp2_with fail
            refine (HA3.out w91 (HO7.out.below K91.out)).mono ?_
            rintro e wx2 ⟨rfl, rfl⟩
            have d0 := HJ91.out.at (j := 0) rfl
            have d1 := HJ91.out.at (j := 1) rfl
            have d2 := HJ91.out.at (j := 2) rfl
            have d3 := HJ91.out.at (j := 3) rfl
            have d4 := HJ91.out.at (j := 4) rfl
            have eA : swA x y n a = ma := by rw [SAB.out.1]; simp
            have eB : swB x y n b = mb := by rw [SAB.out.2.1]; simp
            have eC : swC x y n c = c := by rw [SAB.out.2.2]; simp
            rw [eA, eB, eC] at HU2 HR2
            have TSW := Hd.mk (TS7.out.below K91.out)
            clear eA eB eC
            go_wp2_with fail
            refine (HU2.out _ (HT.out.below TSW.out.s.bel)).mono ?_
            rintro e wU ⟨u1, u2, rfl, ru1, ru2, kU⟩
            have TSU := Hd.mk (TSW.out.below kU)
            have HJU := Hd.mk (HJ91.out.below kU HJ91.out.lt)
            have RU1 := Hd.mk ru1
            have RU2 := Hd.mk ru2
            clear kU ru1 ru2 d0 d1 d2 d3 d4 TSW
            have d0 := HJU.out.at (j := 0) rfl
            have d1 := HJU.out.at (j := 1) rfl
            have d2 := HJU.out.at (j := 2) rfl
            have d3 := HJU.out.at (j := 3) rfl
            have d4 := HJU.out.at (j := 4) rfl
            go_wp2_with fail
            refine (HR2.out _ (HT.out.below TSU.out.s.bel).f).mono ?_
            rintro e wR ⟨rfl, kR⟩
            have TSR := Hd.mk (TSU.out.below kR)
            have RR1 := Hd.mk (RU1.out.below intE_stays kR)
            have RR2 := Hd.mk (RU2.out.below intE_stays kR)
            clear kR d0 d1 d2 d3 d4 RU1 RU2 TSU
            go_wp2_with fail
            refine (swapped_any wR _ l1 x y HLL.out.1 TSR.out.r1).mono ?_
            rintro e wS ⟨vs, rfl, rs, kS⟩
            have TSS := Hd.mk (TSR.out.below kS)
            have RS1 := Hd.mk (RR1.out.below intE_stays kS)
            have RS2 := Hd.mk (RR2.out.below intE_stays kS)
            have HI1 := Hd.mk (ints_any u1 vs (swapL x y l1) (swapL x y l1) wS RS1.out rs HSL1.out HSL1.out)
            rw [decide_eq_true rfl] at HI1
            clear kS rs RR1 RR2 TSR
            go_wp2_with fail
            refine HI1.out.mono ?_
            rintro e wV ⟨rfl, kV⟩
            have TSV := Hd.mk (TSS.out.below kV)
            have RV2 := Hd.mk (RS2.out.below intE_stays kV)
            clear kV RS1 RS2 TSS HI1
            go_wp2_with fail
            refine (swapped_any wV _ l2 x y HLL.out.2 TSV.out.r2).mono ?_
            rintro e wX ⟨vt, rfl, rt, kX⟩
            have TSX := Hd.mk (TSV.out.below kX)
            have HI2 := Hd.mk (ints_any u2 vt (swapL x y l2) (swapL x y l2) wX (RV2.out.below intE_stays kX) rt HSL2.out HSL2.out)
            rw [decide_eq_true rfl] at HI2
            clear kX rt RV2 TSV
            go_wp2_with fail
            refine HI2.out.mono ?_
            rintro e wY ⟨rfl, kY⟩
            have BY := Hd.mk (TSX.out.below kY).s.bel
            clear kY
            go_wp2
            go_ret
            exact ⟨rfl, BY.out⟩
          · have fz0 := HJ8.out.free 1
            have jc0_0 := HJ8.out.at (j := 0) rfl
            have jc0_1 := HJ8.out.at (j := 1) rfl
            have jc0_2 := HJ8.out.at (j := 2) rfl
            have jc0_3 := HJ8.out.at (j := 3) rfl
            have jc0_4 := HJ8.out.at (j := 4) rfl
            go_wp2_with fail
            refine (HM1.out _).mono ?_
            rintro e wy0 ⟨rfl, rfl⟩
            obtain ⟨w90, hw90⟩ : ∃ X, w8.setCell ⟨J, 1, none⟩ (.int .i64 ma) = X := ⟨_, rfl⟩
            have K90 : Hd (Below w7.heap.size w7 w90) := ⟨hw90 ▸ (K8.out.setCell HJ7.out _)⟩
            have HJ90 : Hd (Blk w90 J 23 [.int .i64 n, .int .i64 ma, .int .i64 b, .int .i64 c, .int .i64 m]) := ⟨hw90 ▸ HJ8.out.set 1 (.int .i64 ma)⟩
            obtain ⟨c4_0, c4_1, c4_2, c4_3, c4_4⟩ := (TS7.out.below K90.out).s.at
            dsimp only at c4_0 c4_1 c4_2 c4_3 c4_4
            go_wp2_with fail
            refine (HA2.out w90 (HO7.out.below K90.out)).mono ?_
            rintro e wx1 ⟨rfl, rfl⟩
            have fz1 := HJ90.out.free 2
            have jc1_0 := HJ90.out.at (j := 0) rfl
            have jc1_1 := HJ90.out.at (j := 1) rfl
            have jc1_2 := HJ90.out.at (j := 2) rfl
            have jc1_3 := HJ90.out.at (j := 3) rfl
            have jc1_4 := HJ90.out.at (j := 4) rfl
            go_wp2_with fail
            refine (HM2.out _).mono ?_
            rintro e wy1 ⟨rfl, rfl⟩
            obtain ⟨w91, hw91⟩ : ∃ X, w90.setCell ⟨J, 2, none⟩ (.int .i64 mb) = X := ⟨_, rfl⟩
            have K91 : Hd (Below w7.heap.size w7 w91) := ⟨hw91 ▸ (K90.out.setCell HJ7.out _)⟩
            have HJ91 : Hd (Blk w91 J 23 [.int .i64 n, .int .i64 ma, .int .i64 mb, .int .i64 c, .int .i64 m]) := ⟨hw91 ▸ HJ90.out.set 2 (.int .i64 mb)⟩
            obtain ⟨c5_0, c5_1, c5_2, c5_3, c5_4⟩ := (TS7.out.below K91.out).s.at
            dsimp only at c5_0 c5_1 c5_2 c5_3 c5_4
            go_wp2_with fail
            refine (HA3.out w91 (HO7.out.below K91.out)).mono ?_
            rintro e wx2 ⟨rfl, rfl⟩
            have fz2 := HJ91.out.free 3
            have jc2_0 := HJ91.out.at (j := 0) rfl
            have jc2_1 := HJ91.out.at (j := 1) rfl
            have jc2_2 := HJ91.out.at (j := 2) rfl
            have jc2_3 := HJ91.out.at (j := 3) rfl
            have jc2_4 := HJ91.out.at (j := 4) rfl
            go_wp2_with fail
            refine (HM3.out _).mono ?_
            rintro e wy2 ⟨rfl, rfl⟩
            obtain ⟨w92, hw92⟩ : ∃ X, w91.setCell ⟨J, 3, none⟩ (.int .i64 mc) = X := ⟨_, rfl⟩
            have K92 : Hd (Below w7.heap.size w7 w92) := ⟨hw92 ▸ (K91.out.setCell HJ7.out _)⟩
            have HJ92 : Hd (Blk w92 J 23 [.int .i64 n, .int .i64 ma, .int .i64 mb, .int .i64 mc, .int .i64 m]) := ⟨hw92 ▸ HJ91.out.set 3 (.int .i64 mc)⟩
            obtain ⟨c6_0, c6_1, c6_2, c6_3, c6_4⟩ := (TS7.out.below K92.out).s.at
            dsimp only at c6_0 c6_1 c6_2 c6_3 c6_4
            have d0 := HJ92.out.at (j := 0) rfl
            have d1 := HJ92.out.at (j := 1) rfl
            have d2 := HJ92.out.at (j := 2) rfl
            have d3 := HJ92.out.at (j := 3) rfl
            have d4 := HJ92.out.at (j := 4) rfl
            have eA : swA x y n a = ma := by rw [SAB.out.1]; simp
            have eB : swB x y n b = mb := by rw [SAB.out.2.1]; simp
            have eC : swC x y n c = mc := by rw [SAB.out.2.2]; simp
            rw [eA, eB, eC] at HU2 HR2
            have TSW := Hd.mk (TS7.out.below K92.out)
            clear eA eB eC
            go_wp2_with fail
            refine (HU2.out _ (HT.out.below TSW.out.s.bel)).mono ?_
            rintro e wU ⟨u1, u2, rfl, ru1, ru2, kU⟩
            have TSU := Hd.mk (TSW.out.below kU)
            have HJU := Hd.mk (HJ92.out.below kU HJ92.out.lt)
            have RU1 := Hd.mk ru1
            have RU2 := Hd.mk ru2
            clear kU ru1 ru2 d0 d1 d2 d3 d4 TSW
            have d0 := HJU.out.at (j := 0) rfl
            have d1 := HJU.out.at (j := 1) rfl
            have d2 := HJU.out.at (j := 2) rfl
            have d3 := HJU.out.at (j := 3) rfl
            have d4 := HJU.out.at (j := 4) rfl
            go_wp2_with fail
            refine (HR2.out _ (HT.out.below TSU.out.s.bel).f).mono ?_
            rintro e wR ⟨rfl, kR⟩
            have TSR := Hd.mk (TSU.out.below kR)
            have RR1 := Hd.mk (RU1.out.below intE_stays kR)
            have RR2 := Hd.mk (RU2.out.below intE_stays kR)
            clear kR d0 d1 d2 d3 d4 RU1 RU2 TSU
            go_wp2_with fail
            refine (swapped_any wR _ l1 x y HLL.out.1 TSR.out.r1).mono ?_
            rintro e wS ⟨vs, rfl, rs, kS⟩
            have TSS := Hd.mk (TSR.out.below kS)
            have RS1 := Hd.mk (RR1.out.below intE_stays kS)
            have RS2 := Hd.mk (RR2.out.below intE_stays kS)
            have HI1 := Hd.mk (ints_any u1 vs (swapL x y l1) (swapL x y l1) wS RS1.out rs HSL1.out HSL1.out)
            rw [decide_eq_true rfl] at HI1
            clear kS rs RR1 RR2 TSR
            go_wp2_with fail
            refine HI1.out.mono ?_
            rintro e wV ⟨rfl, kV⟩
            have TSV := Hd.mk (TSS.out.below kV)
            have RV2 := Hd.mk (RS2.out.below intE_stays kV)
            clear kV RS1 RS2 TSS HI1
            go_wp2_with fail
            refine (swapped_any wV _ l2 x y HLL.out.2 TSV.out.r2).mono ?_
            rintro e wX ⟨vt, rfl, rt, kX⟩
            have TSX := Hd.mk (TSV.out.below kX)
            have HI2 := Hd.mk (ints_any u2 vt (swapL x y l2) (swapL x y l2) wX (RV2.out.below intE_stays kX) rt HSL2.out HSL2.out)
            rw [decide_eq_true rfl] at HI2
            clear kX rt RV2 TSV
            go_wp2_with fail
            refine HI2.out.mono ?_
            rintro e wY ⟨rfl, kY⟩
            have BY := Hd.mk (TSX.out.below kY).s.bel
            clear kY
            go_wp2
            go_ret
            exact ⟨rfl, BY.out⟩

end Go.Proofs.YtlohhlbbkliehaaGreatDoor.W
