/-
  RelocMoves: the plain law and the walk.
-/
import Derived.Test.YtmngicdgapkbmaaDoorSm15
namespace Go.Proofs.YtmngicdgapkbmaaDoor.W
open Go.RowKit Go.ChangeShapes Go.WideShapes
set_option linter.unusedVariables false

def moveW (x : Wh) (d : Int) : Wh := ⟨wrap64 (x.s + d), x.a, wrap64 (x.p + d), wrap64 (x.i + d), wrap64 (x.b + d), x.z, wrap64 (x.l + d)⟩
def moveS (x : Wh) (d : Int) : Wh := ⟨wrap64 (x.s + d), x.a, x.p, x.i, x.b, x.z, x.l⟩
theorem i64R_wrap (x : Int) : i64R (wrap64 x) := by unfold i64R wrap64; omega

/-- what the law asks of a kind -/
def movesB (k : Int) (x : Wh) (d : Int) : Prop :=
  (direct15 k 0 = true → k ≠ 10 → k ≠ 12 → k ≠ 11 → val15 k (moveW x d) = val15 k x) ∧ (k = 0 → val15 k (moveW x d) = wrap64 (val15 k x + d)) ∧
  ((k = 0 ∨ k = 1 ∨ k = 2 ∨ k = 5 ∨ k = 6 ∨ k = 10 ∨ k = 12 ∨ k = 11) → val15 k (moveS x d) = wrap64 (val15 k x + d)) ∧ ((k = 4 ∨ k = 7) → val15 k (moveS x d) = val15 k x)

theorem wrap_sub (a b d : Int) : wrap64 (wrap64 (wrap64 a + d) - wrap64 (b + d)) = wrap64 (wrap64 a - b) := by unfold wrap64; omega
theorem sum_move (x : Wh) (d : Int) : sumW (moveW x d) = wrap64 (sumW x + d) ∧ sumW (moveS x d) = wrap64 (sumW x + d) := by
  unfold sumW moveW moveS wrap64; constructor <;> (simp only []; omega)

theorem moves_ok (k : Int) (x : Wh) (d : Int) (hx : WhOk x) (hd : i64R d) : movesB k x d := by
  have hs := sum_move x d
  have e1 : wrap64 (wrap64 (sumW x + d) - wrap64 (x.p + d)) = wrap64 (sumW x - x.p) := by unfold wrap64; omega
  have e2 : wrap64 (wrap64 (sumW x + d) - wrap64 (x.i + d)) = wrap64 (sumW x - x.i) := by unfold wrap64; omega
  have e3 : wrap64 (wrap64 (sumW x + d) - wrap64 (x.b + d)) = wrap64 (sumW x - x.b) := by unfold wrap64; omega
  have e4 : wrap64 (wrap64 (x.l + d) - wrap64 (x.i + d)) = wrap64 (x.l - x.i) := by unfold wrap64; omega
  have e5 : wrap64 (wrap64 (sumW x + d) - x.p) = wrap64 (wrap64 (sumW x - x.p) + d) := by unfold wrap64; omega
  have e6 : wrap64 (wrap64 (sumW x + d) - x.i) = wrap64 (wrap64 (sumW x - x.i) + d) := by unfold wrap64; omega
  have f1 : (moveW x d).p = wrap64 (x.p + d) := rfl
  have f2 : (moveW x d).i = wrap64 (x.i + d) := rfl
  have f3 : (moveW x d).b = wrap64 (x.b + d) := rfl
  have f4 : (moveW x d).l = wrap64 (x.l + d) := rfl
  have f5 : (moveW x d).z = x.z := rfl
  have f6 : (moveW x d).a = x.a := rfl
  have f7 : (moveS x d).p = x.p := rfl
  have f8 : (moveS x d).i = x.i := rfl
  have f9 : (moveS x d).l = x.l := rfl
  have f10 : (moveS x d).z = x.z := rfl
  have f11 : (moveS x d).a = x.a := rfl
  have hdel : deltaW (moveW x d) = deltaW x := by unfold deltaW; rw [hs.1, f3, e3]
  have hk : k = 0 ∨ k = 1 ∨ k = 2 ∨ k = 3 ∨ k = 4 ∨ k = 5 ∨ k = 6 ∨ k = 7 ∨ k = 8 ∨ k = 9 ∨ k = 10 ∨ k = 11 ∨ k = 12 ∨ (k < 0 ∨ 12 < k) := by omega
  unfold movesB
  rcases hk with rfl | rfl | rfl | rfl | rfl | rfl | rfl | rfl | rfl | rfl | rfl | rfl | rfl | hk
  · refine ⟨fun h => absurd h (by decide), fun _ => hs.1, fun _ => hs.2, fun h => by omega⟩
  · refine ⟨fun _ _ _ _ => ?_, fun h => by omega, fun _ => ?_, fun h => by omega⟩
    · show wrap64 (sumW (moveW x d) - (moveW x d).p) = wrap64 (sumW x - x.p); rw [hs.1, f1, e1]
    · show wrap64 (sumW (moveS x d) - (moveS x d).p) = wrap64 (wrap64 (sumW x - x.p) + d); rw [hs.2, f7, e5]
  · refine ⟨fun _ _ _ _ => ?_, fun h => by omega, fun _ => ?_, fun h => by omega⟩
    · show wrap64 (sumW (moveW x d) - (moveW x d).p) = wrap64 (sumW x - x.p); rw [hs.1, f1, e1]
    · show wrap64 (sumW (moveS x d) - (moveS x d).p) = wrap64 (wrap64 (sumW x - x.p) + d); rw [hs.2, f7, e5]
  · refine ⟨fun _ _ _ _ => ?_, fun h => by omega, fun h => by omega, fun h => by omega⟩
    show (if deltaW (moveW x d) % 8 = 0 then deltaW (moveW x d) / 8 else -1) = (if deltaW x % 8 = 0 then deltaW x / 8 else -1); rw [hdel]
  · refine ⟨fun _ _ _ _ => rfl, fun h => by omega, fun h => by omega, fun _ => rfl⟩
  · refine ⟨fun _ _ _ _ => ?_, fun h => by omega, fun _ => ?_, fun h => by omega⟩
    · show wrap64 (sumW (moveW x d) - (moveW x d).i) = wrap64 (sumW x - x.i); rw [hs.1, f2, e2]
    · show wrap64 (sumW (moveS x d) - (moveS x d).i) = wrap64 (wrap64 (sumW x - x.i) + d); rw [hs.2, f8, e6]
  · refine ⟨fun _ _ _ _ => ?_, fun h => by omega, fun _ => ?_, fun h => by omega⟩
    · show wrap64 (sumW (moveW x d) - (moveW x d).i) = wrap64 (sumW x - x.i); rw [hs.1, f2, e2]
    · show wrap64 (sumW (moveS x d) - (moveS x d).i) = wrap64 (wrap64 (sumW x - x.i) + d); rw [hs.2, f8, e6]
  · refine ⟨fun _ _ _ _ => ?_, fun h => by omega, fun h => by omega, fun _ => rfl⟩
    show wrap64 ((moveW x d).l - (moveW x d).i) = wrap64 (x.l - x.i); rw [f4, f2, e4]
  · refine ⟨fun h => absurd h (by decide), fun h => by omega, fun h => by omega, fun h => by omega⟩
  · refine ⟨fun h => absurd h (by decide), fun h => by omega, fun h => by omega, fun h => by omega⟩
  · refine ⟨fun _ h => absurd rfl h, fun h => by omega, fun _ => hs.2, fun h => by omega⟩
  · refine ⟨fun _ _ _ h => absurd rfl h, fun h => by omega, fun _ => rfl, fun h => by omega⟩
  · refine ⟨fun _ _ h => absurd rfl h, fun h => by omega, fun _ => hs.2, fun h => by omega⟩
  · refine ⟨fun h => ?_, fun h => by omega, fun h => by omega, fun h => by omega⟩
    have : isK k = false := by simp [isK]; omega
    simp [direct15, this] at h

/-- circumstances that came in -/
structure ArgWh (W : World) (v : Value) (x : Wh) : Prop where
  is : v = whV x
  ok : WhOk x
theorem wf64 {x : Int} (h : (Lit.int .i64 x).wf = true) : i64R x := by
  simp [Lit.wf, IntKind.min, IntKind.max, IntKind.signed, IntKind.bits] at h
  unfold i64R; omega
theorem cellsWh : Tryd.prog.cellsOf 23 = 7 := by kernel_rfl
theorem args_wh {H : Type} {enc : TypeId × Value → H} {base : Nat} {W : World} {v : Value} {d : DataW H} {p : List MemPlace} (hval : Value.okWide Tryd.prog W .any base 23 v) (h : DataW.Trod enc Tryd.prog W 0 (fun _ => true) true 23 v d p)
    (hz : ∀ n ∈ d.weights Tryd.prog 23, n ≤ reachBytes) : ∃ x : Wh, ArgWh W v x := by
  obtain ⟨cs, rfl, _⟩ := okWide_struct Tryd.underlying23 hval
  obtain ⟨fuel, h⟩ := h
  obtain ⟨xs, n, rfl, hx, hl, hxl, hall⟩ := DataW.trod_struct Tryd.underlying23 h
  rw [cellsWh] at hl
  have hl' : cs.toList.length = 7 := hl
  have hxl' : xs.length = 7 := hxl
  obtain ⟨L, hL⟩ : ∃ L, cs.toList = L := ⟨_, rfl⟩
  have hall' := hall
  have hcs : (Value.agg cs).cells.toList = L := hL
  rw [hcs] at hall
  rw [hL] at hl'
  match L, hl' with
  | [c0, c1, c2, c3, c4, c5, c6], _ =>
    match xs, hxl' with
    | [x0, x1, x2, x3, x4, x5, x6], _ =>
      have f0 : DataW.trod enc Tryd.prog W 0 (fun _ => true) true n 3 (List.take (Tryd.prog.cellsOf 3) (List.drop 0 [c0, c1, c2, c3, c4, c5, c6])) = some x0 := hall 0 _ rfl
      have f1 : DataW.trod enc Tryd.prog W 0 (fun _ => true) true n 3 (List.take (Tryd.prog.cellsOf 3) (List.drop 1 [c0, c1, c2, c3, c4, c5, c6])) = some x1 := hall 1 _ rfl
      have f2 : DataW.trod enc Tryd.prog W 0 (fun _ => true) true n 3 (List.take (Tryd.prog.cellsOf 3) (List.drop 2 [c0, c1, c2, c3, c4, c5, c6])) = some x2 := hall 2 _ rfl
      have f3 : DataW.trod enc Tryd.prog W 0 (fun _ => true) true n 3 (List.take (Tryd.prog.cellsOf 3) (List.drop 3 [c0, c1, c2, c3, c4, c5, c6])) = some x3 := hall 3 _ rfl
      have f4 : DataW.trod enc Tryd.prog W 0 (fun _ => true) true n 3 (List.take (Tryd.prog.cellsOf 3) (List.drop 4 [c0, c1, c2, c3, c4, c5, c6])) = some x4 := hall 4 _ rfl
      have f5 : DataW.trod enc Tryd.prog W 0 (fun _ => true) true n 3 (List.take (Tryd.prog.cellsOf 3) (List.drop 5 [c0, c1, c2, c3, c4, c5, c6])) = some x5 := hall 5 _ rfl
      have f6 : DataW.trod enc Tryd.prog W 0 (fun _ => true) true n 3 (List.take (Tryd.prog.cellsOf 3) (List.drop 6 [c0, c1, c2, c3, c4, c5, c6])) = some x6 := hall 6 _ rfl
      simp only [cells1, List.drop_succ_cons, List.take_succ_cons, List.take_zero, List.drop_zero] at f0 f1 f2 f3 f4 f5 f6
      obtain ⟨i0, e0, _, w0⟩ := DataW.trod_int Tryd.underlying3 f0
      obtain ⟨i1, e1, _, w1⟩ := DataW.trod_int Tryd.underlying3 f1
      obtain ⟨i2, e2, _, w2⟩ := DataW.trod_int Tryd.underlying3 f2
      obtain ⟨i3, e3, _, w3⟩ := DataW.trod_int Tryd.underlying3 f3
      obtain ⟨i4, e4, _, w4⟩ := DataW.trod_int Tryd.underlying3 f4
      obtain ⟨i5, e5, _, w5⟩ := DataW.trod_int Tryd.underlying3 f5
      obtain ⟨i6, e6, _, w6⟩ := DataW.trod_int Tryd.underlying3 f6
      simp only [List.cons.injEq, and_true] at e0 e1 e2 e3 e4 e5 e6
      subst e0 e1 e2 e3 e4 e5 e6
      have e' : cs = #[.int .i64 i0, .int .i64 i1, .int .i64 i2, .int .i64 i3, .int .i64 i4, .int .i64 i5, .int .i64 i6] := by
        rw [← Array.toArray_toList (xs := cs), hL]
      exact ⟨⟨i0, i1, i2, i3, i4, i5, i6⟩, ⟨by rw [e']; rfl, ⟨wf64 w0, wf64 w1, wf64 w2, wf64 w3, wf64 w4, wf64 w5, wf64 w6⟩⟩⟩

def whCells (x : Wh) : List Value := [.int .i64 x.s, .int .i64 x.a, .int .i64 x.p, .int .i64 x.i, .int .i64 x.b, .int .i64 x.z, .int .i64 x.l]

set_option maxHeartbeats 4000000 in
set_option maxRecDepth 100000 in
theorem moves_any (W : World) (k : Int) (v : Value) (x : Wh) (d : Int) (hk : -9223372036854775808 ≤ k ∧ k ≤ 9223372036854775807) (hv : ArgWh W v x) (hd : -9223372036854775808 ≤ d ∧ d ≤ 9223372036854775807) (hT : Tabs W) :
    Calls Tryd.prog 5 #[.int .i64 k, v, .int .i64 d] W fun e w' => e = .returned (.bool true) ∧ Below W.heap.size W w' := by
  obtain rfl := hv.is
  have HM := Hd.mk (moves_ok k x d hv.ok hd)
  have HOK := Hd.mk hv.ok
  have hb := Blk.new W 23 (whCells x)
  have TB0 : Hd (TB W (W.alloc (.cells (whCells x).toArray 23))) := ⟨(TB.refl hT).alloc _⟩
  have HB := Hd.mk hb
  have HS := Hd.mk (small15_any _ TB0.out.t)
  obtain ⟨xs, xa, xp, xi, xb, xz, xl⟩ := x
  unfold whV
  unfold whCells at HS TB0 HB
  obtain ⟨bx, hbx⟩ : ∃ bx, W.heap.size = bx := ⟨_, rfl⟩
  have HBX := Hd.mk hbx
  clear hv hd hk hT hb
  go_enter Tryd.func5, Tryd.ntmps5
  go_wp2_with fail
  refine HS.out.mono ?_
  rintro e w1 ⟨rfl, kk⟩
  have T1 := Hd.mk (TB0.out.step kk)
  have P1 := Hd.mk (HB.out.below kk HB.out.lt); clear kk HS TB0 HB
  have hc : ∀ {w' : World}, Blk w' W.heap.size 23 [.int .i64 xs, .int .i64 xa, .int .i64 xp, .int .i64 xi, .int .i64 xb, .int .i64 xz, .int .i64 xl] → w'.cell? ⟨bx, 0, none⟩ = some (.int .i64 xs) ∧ w'.cell? ⟨bx, 1, none⟩ = some (.int .i64 xa) ∧ w'.cell? ⟨bx, 2, none⟩ = some (.int .i64 xp) ∧ w'.cell? ⟨bx, 3, none⟩ = some (.int .i64 xi) ∧ w'.cell? ⟨bx, 4, none⟩ = some (.int .i64 xb) ∧ w'.cell? ⟨bx, 5, none⟩ = some (.int .i64 xz) ∧ w'.cell? ⟨bx, 6, none⟩ = some (.int .i64 xl) := fun h => by
    rw [← HBX.out]
    exact ⟨h.at (j := 0) rfl, h.at (j := 1) rfl, h.at (j := 2) rfl, h.at (j := 3) rfl, h.at (j := 4) rfl, h.at (j := 5) rfl, h.at (j := 6) rfl⟩
  have HC := Hd.mk @hc; clear hc
  obtain ⟨b0, b1, b2, b3, b4, b5, b6⟩ := HC.out P1.out
  have q0 := fun (o : Obj) => (by rw [World.cell?_alloc_some _ _ _ (by rw [b0]; rfl)]; exact b0 : (w1.alloc o).cell? ⟨bx, 0, none⟩ = some (.int .i64 xs))
  have q1 := fun (o : Obj) => (by rw [World.cell?_alloc_some _ _ _ (by rw [b1]; rfl)]; exact b1 : (w1.alloc o).cell? ⟨bx, 1, none⟩ = some (.int .i64 xa))
  have q2 := fun (o : Obj) => (by rw [World.cell?_alloc_some _ _ _ (by rw [b2]; rfl)]; exact b2 : (w1.alloc o).cell? ⟨bx, 2, none⟩ = some (.int .i64 xp))
  have q3 := fun (o : Obj) => (by rw [World.cell?_alloc_some _ _ _ (by rw [b3]; rfl)]; exact b3 : (w1.alloc o).cell? ⟨bx, 3, none⟩ = some (.int .i64 xi))
  have q4 := fun (o : Obj) => (by rw [World.cell?_alloc_some _ _ _ (by rw [b4]; rfl)]; exact b4 : (w1.alloc o).cell? ⟨bx, 4, none⟩ = some (.int .i64 xb))
  have q5 := fun (o : Obj) => (by rw [World.cell?_alloc_some _ _ _ (by rw [b5]; rfl)]; exact b5 : (w1.alloc o).cell? ⟨bx, 5, none⟩ = some (.int .i64 xz))
  have q6 := fun (o : Obj) => (by rw [World.cell?_alloc_some _ _ _ (by rw [b6]; rfl)]; exact b6 : (w1.alloc o).cell? ⟨bx, 6, none⟩ = some (.int .i64 xl))
  obtain ⟨s1, hs1⟩ : ∃ q, wrap64 (xs + d) = q := ⟨_, rfl⟩
  obtain ⟨p1, hp1⟩ : ∃ q, wrap64 (xp + d) = q := ⟨_, rfl⟩
  obtain ⟨i1, hi1⟩ : ∃ q, wrap64 (xi + d) = q := ⟨_, rfl⟩
  obtain ⟨c1, hc1⟩ : ∃ q, wrap64 (xb + d) = q := ⟨_, rfl⟩
  obtain ⟨l1, hl1⟩ : ∃ q, wrap64 (xl + d) = q := ⟨_, rfl⟩
  have HE : Hd (moveW ⟨xs, xa, xp, xi, xb, xz, xl⟩ d = ⟨s1, xa, p1, i1, c1, xz, l1⟩ ∧ moveS ⟨xs, xa, xp, xi, xb, xz, xl⟩ d = ⟨s1, xa, xp, xi, xb, xz, xl⟩) := ⟨by unfold moveW; simp only [hs1, hp1, hi1, hc1, hl1], by unfold moveS; simp only [hs1]⟩
  have P2 : Hd (Blk (w1.alloc (.cells #[.int .i64 s1, .int .i64 xa, .int .i64 p1, .int .i64 i1, .int .i64 c1, .int .i64 xz, .int .i64 l1] 23)) W.heap.size 23 [.int .i64 xs, .int .i64 xa, .int .i64 xp, .int .i64 xi, .int .i64 xb, .int .i64 xz, .int .i64 xl]) := ⟨P1.out.alloc _⟩
  have M2 := Hd.mk (Blk.new w1 23 [.int .i64 s1, .int .i64 xa, .int .i64 p1, .int .i64 i1, .int .i64 c1, .int .i64 xz, .int .i64 l1])
  have T2 := Hd.mk (T1.out.alloc (.cells #[.int .i64 s1, .int .i64 xa, .int .i64 p1, .int .i64 i1, .int .i64 c1, .int .i64 xz, .int .i64 l1] 23))
  obtain ⟨mx, hmx⟩ : ∃ mx, w1.heap.size = mx := ⟨_, rfl⟩
  have HMX := Hd.mk hmx
  have OKM : Hd (WhOk ⟨s1, xa, p1, i1, c1, xz, l1⟩) := ⟨⟨hs1 ▸ i64R_wrap _, HOK.out.a, hp1 ▸ i64R_wrap _, hi1 ▸ i64R_wrap _, hc1 ▸ i64R_wrap _, HOK.out.z, hl1 ▸ i64R_wrap _⟩⟩
  have OKS : Hd (WhOk ⟨s1, xa, xp, xi, xb, xz, xl⟩) := ⟨⟨hs1 ▸ i64R_wrap _, HOK.out.a, HOK.out.p, HOK.out.i, HOK.out.b, HOK.out.z, HOK.out.l⟩⟩
  obtain ⟨X, hX⟩ : ∃ X, val15 k ⟨xs, xa, xp, xi, xb, xz, xl⟩ = X := ⟨_, rfl⟩
  obtain ⟨Y, hY⟩ : ∃ X, val15 k ⟨s1, xa, p1, i1, c1, xz, l1⟩ = X := ⟨_, rfl⟩
  obtain ⟨Z, hZ⟩ : ∃ X, val15 k ⟨s1, xa, xp, xi, xb, xz, xl⟩ = X := ⟨_, rfl⟩
  obtain ⟨V, hV⟩ : ∃ V, wrap64 (X + d) = V := ⟨_, rfl⟩
  have hmv := HM.out
  unfold movesB at hmv
  rw [HE.out.1, HE.out.2, hX, hY, hZ, hV] at hmv
  have HMV := Hd.mk hmv
  have V1 := fun w => Hd.mk (value_any k ⟨xs, xa, xp, xi, xb, xz, xl⟩ w HOK.out)
  have V2 := fun w => Hd.mk (value_any k ⟨s1, xa, p1, i1, c1, xz, l1⟩ w OKM.out)
  have V3 := fun w => Hd.mk (value_any k ⟨s1, xa, xp, xi, xb, xz, xl⟩ w OKS.out)
  rw [hX] at V1; rw [hY] at V2; rw [hZ] at V3
  unfold whV at V1 V2 V3
  clear hmv hX hY hZ hmx
  go_wp2_with fail
  refine (V1 _).out.mono ?_
  rintro e w2 ⟨rfl, kk⟩
  have T3 := Hd.mk (T2.out.step kk)
  have P3 := Hd.mk (P2.out.below kk P2.out.lt)
  have M3 := Hd.mk (M2.out.below kk M2.out.lt)
  clear kk q0 q1 q2 q3 q4 q5 q6 b0 b1 b2 b3 b4 b5 b6
  have m0 : w2.cell? ⟨mx, 0, none⟩ = some (.int .i64 s1) := by rw [← HMX.out]; exact M3.out.at (j := 0) rfl
  have m1 : w2.cell? ⟨mx, 1, none⟩ = some (.int .i64 xa) := by rw [← HMX.out]; exact M3.out.at (j := 1) rfl
  have m2 : w2.cell? ⟨mx, 2, none⟩ = some (.int .i64 p1) := by rw [← HMX.out]; exact M3.out.at (j := 2) rfl
  have m3 : w2.cell? ⟨mx, 3, none⟩ = some (.int .i64 i1) := by rw [← HMX.out]; exact M3.out.at (j := 3) rfl
  have m4 : w2.cell? ⟨mx, 4, none⟩ = some (.int .i64 c1) := by rw [← HMX.out]; exact M3.out.at (j := 4) rfl
  have m5 : w2.cell? ⟨mx, 5, none⟩ = some (.int .i64 xz) := by rw [← HMX.out]; exact M3.out.at (j := 5) rfl
  have m6 : w2.cell? ⟨mx, 6, none⟩ = some (.int .i64 l1) := by rw [← HMX.out]; exact M3.out.at (j := 6) rfl
  have m0' : w2.cell? ⟨w1.heap.size, 0, none⟩ = some (.int .i64 s1) := M3.out.at (j := 0) rfl
  have m1' : w2.cell? ⟨w1.heap.size, 1, none⟩ = some (.int .i64 xa) := M3.out.at (j := 1) rfl
  have m2' : w2.cell? ⟨w1.heap.size, 2, none⟩ = some (.int .i64 p1) := M3.out.at (j := 2) rfl
  have m3' : w2.cell? ⟨w1.heap.size, 3, none⟩ = some (.int .i64 i1) := M3.out.at (j := 3) rfl
  have m4' : w2.cell? ⟨w1.heap.size, 4, none⟩ = some (.int .i64 c1) := M3.out.at (j := 4) rfl
  have m5' : w2.cell? ⟨w1.heap.size, 5, none⟩ = some (.int .i64 xz) := M3.out.at (j := 5) rfl
  have m6' : w2.cell? ⟨w1.heap.size, 6, none⟩ = some (.int .i64 l1) := M3.out.at (j := 6) rfl
  go_wp2_with fail
  refine (V2 _).out.mono ?_
  rintro e w3 ⟨rfl, kk⟩
  have T4 := Hd.mk (T3.out.step kk)
  have P4 := Hd.mk (P3.out.below kk P3.out.lt)
  clear kk m0 m1 m2 m3 m4 m5 m6 m0' m1' m2' m3' m4' m5' m6'
  obtain ⟨b0, b1, b2, b3, b4, b5, b6⟩ := HC.out P4.out
  have q0 := fun (o : Obj) => (by rw [World.cell?_alloc_some _ _ _ (by rw [b0]; rfl)]; exact b0 : (w3.alloc o).cell? ⟨bx, 0, none⟩ = some (.int .i64 xs))
  have q1 := fun (o : Obj) => (by rw [World.cell?_alloc_some _ _ _ (by rw [b1]; rfl)]; exact b1 : (w3.alloc o).cell? ⟨bx, 1, none⟩ = some (.int .i64 xa))
  have q2 := fun (o : Obj) => (by rw [World.cell?_alloc_some _ _ _ (by rw [b2]; rfl)]; exact b2 : (w3.alloc o).cell? ⟨bx, 2, none⟩ = some (.int .i64 xp))
  have q3 := fun (o : Obj) => (by rw [World.cell?_alloc_some _ _ _ (by rw [b3]; rfl)]; exact b3 : (w3.alloc o).cell? ⟨bx, 3, none⟩ = some (.int .i64 xi))
  have q4 := fun (o : Obj) => (by rw [World.cell?_alloc_some _ _ _ (by rw [b4]; rfl)]; exact b4 : (w3.alloc o).cell? ⟨bx, 4, none⟩ = some (.int .i64 xb))
  have q5 := fun (o : Obj) => (by rw [World.cell?_alloc_some _ _ _ (by rw [b5]; rfl)]; exact b5 : (w3.alloc o).cell? ⟨bx, 5, none⟩ = some (.int .i64 xz))
  have q6 := fun (o : Obj) => (by rw [World.cell?_alloc_some _ _ _ (by rw [b6]; rfl)]; exact b6 : (w3.alloc o).cell? ⟨bx, 6, none⟩ = some (.int .i64 xl))
  have HDi := Hd.mk (direct_any k 0 w3)
  have hk : k = 0 ∨ k = 1 ∨ k = 2 ∨ k = 3 ∨ k = 4 ∨ k = 5 ∨ k = 6 ∨ k = 7 ∨ k = 8 ∨ k = 9 ∨ k = 10 ∨ k = 11 ∨ k = 12 ∨ (k < 0 ∨ 12 < k) := by omega
  rcases hk with rfl | rfl | rfl | rfl | rfl | rfl | rfl | rfl | rfl | rfl | rfl | rfl | rfl | hk
  · rw [show direct15 0 0 = false from rfl] at HDi
    have h2 : (Y != V) = false := by simp [HMV.out.2.1 rfl]
    have h3 : (Z == V) = true := by simp [HMV.out.2.2.1 (by decide)]
    go_wp2_with fail
    refine HDi.out.mono ?_; rintro e w4 ⟨rfl, rfl⟩
    go_wp2_with fail
    refine (V3 _).out.mono ?_
    rintro e w5 ⟨rfl, kk⟩
    have T5 := Hd.mk ((T4.out.alloc _).step kk); clear kk
    go_wp2
    go_ret
    exact ⟨rfl, T5.out.b⟩
  · rw [show direct15 1 0 = true from rfl] at HDi
    have h1 : (X != Y) = false := by simp [HMV.out.1 rfl (by decide) (by decide) (by decide)]
    have h3 : (Z == V) = true := by simp [HMV.out.2.2.1 (by decide)]
    go_wp2_with fail
    refine HDi.out.mono ?_; rintro e w4 ⟨rfl, rfl⟩
    go_wp2_with fail
    refine (V3 _).out.mono ?_
    rintro e w5 ⟨rfl, kk⟩
    have T5 := Hd.mk ((T4.out.alloc _).step kk); clear kk
    go_wp2
    go_ret
    exact ⟨rfl, T5.out.b⟩
  · rw [show direct15 2 0 = true from rfl] at HDi
    have h1 : (X != Y) = false := by simp [HMV.out.1 rfl (by decide) (by decide) (by decide)]
    have h3 : (Z == V) = true := by simp [HMV.out.2.2.1 (by decide)]
    go_wp2_with fail
    refine HDi.out.mono ?_; rintro e w4 ⟨rfl, rfl⟩
    go_wp2_with fail
    refine (V3 _).out.mono ?_
    rintro e w5 ⟨rfl, kk⟩
    have T5 := Hd.mk ((T4.out.alloc _).step kk); clear kk
    go_wp2
    go_ret
    exact ⟨rfl, T5.out.b⟩
  · rw [show direct15 3 0 = true from rfl] at HDi
    have h1 : (X != Y) = false := by simp [HMV.out.1 rfl (by decide) (by decide) (by decide)]
    go_wp2_with fail
    refine HDi.out.mono ?_; rintro e w4 ⟨rfl, rfl⟩
    go_wp2_with fail
    refine (V3 _).out.mono ?_
    rintro e w5 ⟨rfl, kk⟩
    have T5 := Hd.mk ((T4.out.alloc _).step kk); clear kk
    go_wp2
    go_ret
    exact ⟨rfl, T5.out.b⟩
  · rw [show direct15 4 0 = true from rfl] at HDi
    have h1 : (X != Y) = false := by simp [HMV.out.1 rfl (by decide) (by decide) (by decide)]
    have h4 : (Z == X) = true := by simp [HMV.out.2.2.2 (by decide)]
    go_wp2_with fail
    refine HDi.out.mono ?_; rintro e w4 ⟨rfl, rfl⟩
    go_wp2_with fail
    refine (V3 _).out.mono ?_
    rintro e w5 ⟨rfl, kk⟩
    have T5 := Hd.mk ((T4.out.alloc _).step kk); clear kk
    go_wp2
    go_ret
    exact ⟨rfl, T5.out.b⟩
  · rw [show direct15 5 0 = true from rfl] at HDi
    have h1 : (X != Y) = false := by simp [HMV.out.1 rfl (by decide) (by decide) (by decide)]
    have h3 : (Z == V) = true := by simp [HMV.out.2.2.1 (by decide)]
    go_wp2_with fail
    refine HDi.out.mono ?_; rintro e w4 ⟨rfl, rfl⟩
    go_wp2_with fail
    refine (V3 _).out.mono ?_
    rintro e w5 ⟨rfl, kk⟩
    have T5 := Hd.mk ((T4.out.alloc _).step kk); clear kk
    go_wp2
    go_ret
    exact ⟨rfl, T5.out.b⟩
  · rw [show direct15 6 0 = true from rfl] at HDi
    have h1 : (X != Y) = false := by simp [HMV.out.1 rfl (by decide) (by decide) (by decide)]
    have h3 : (Z == V) = true := by simp [HMV.out.2.2.1 (by decide)]
    go_wp2_with fail
    refine HDi.out.mono ?_; rintro e w4 ⟨rfl, rfl⟩
    go_wp2_with fail
    refine (V3 _).out.mono ?_
    rintro e w5 ⟨rfl, kk⟩
    have T5 := Hd.mk ((T4.out.alloc _).step kk); clear kk
    go_wp2
    go_ret
    exact ⟨rfl, T5.out.b⟩
  · rw [show direct15 7 0 = true from rfl] at HDi
    have h1 : (X != Y) = false := by simp [HMV.out.1 rfl (by decide) (by decide) (by decide)]
    have h4 : (Z == X) = true := by simp [HMV.out.2.2.2 (by decide)]
    go_wp2_with fail
    refine HDi.out.mono ?_; rintro e w4 ⟨rfl, rfl⟩
    go_wp2_with fail
    refine (V3 _).out.mono ?_
    rintro e w5 ⟨rfl, kk⟩
    have T5 := Hd.mk ((T4.out.alloc _).step kk); clear kk
    go_wp2
    go_ret
    exact ⟨rfl, T5.out.b⟩
  · rw [show direct15 8 0 = false from rfl] at HDi
    go_wp2_with fail
    refine HDi.out.mono ?_; rintro e w4 ⟨rfl, rfl⟩
    go_wp2_with fail
    refine (V3 _).out.mono ?_
    rintro e w5 ⟨rfl, kk⟩
    have T5 := Hd.mk ((T4.out.alloc _).step kk); clear kk
    go_wp2
    go_ret
    exact ⟨rfl, T5.out.b⟩
  · rw [show direct15 9 0 = false from rfl] at HDi
    go_wp2_with fail
    refine HDi.out.mono ?_; rintro e w4 ⟨rfl, rfl⟩
    go_wp2_with fail
    refine (V3 _).out.mono ?_
    rintro e w5 ⟨rfl, kk⟩
    have T5 := Hd.mk ((T4.out.alloc _).step kk); clear kk
    go_wp2
    go_ret
    exact ⟨rfl, T5.out.b⟩
  · rw [show direct15 10 0 = true from rfl] at HDi
    have h3 : (Z == V) = true := by simp [HMV.out.2.2.1 (by decide)]
    go_wp2_with fail
    refine HDi.out.mono ?_; rintro e w4 ⟨rfl, rfl⟩
    go_wp2_with fail
    refine (V3 _).out.mono ?_
    rintro e w5 ⟨rfl, kk⟩
    have T5 := Hd.mk ((T4.out.alloc _).step kk); clear kk
    go_wp2
    go_ret
    exact ⟨rfl, T5.out.b⟩
  · rw [show direct15 11 0 = false from rfl] at HDi
    have h3 : (Z == V) = true := by simp [HMV.out.2.2.1 (by decide)]
    go_wp2_with fail
    refine HDi.out.mono ?_; rintro e w4 ⟨rfl, rfl⟩
    go_wp2_with fail
    refine (V3 _).out.mono ?_
    rintro e w5 ⟨rfl, kk⟩
    have T5 := Hd.mk ((T4.out.alloc _).step kk); clear kk
    go_wp2
    go_ret
    exact ⟨rfl, T5.out.b⟩
  · rw [show direct15 12 0 = true from rfl] at HDi
    have h3 : (Z == V) = true := by simp [HMV.out.2.2.1 (by decide)]
    go_wp2_with fail
    refine HDi.out.mono ?_; rintro e w4 ⟨rfl, rfl⟩
    go_wp2_with fail
    refine (V3 _).out.mono ?_
    rintro e w5 ⟨rfl, kk⟩
    have T5 := Hd.mk ((T4.out.alloc _).step kk); clear kk
    go_wp2
    go_ret
    exact ⟨rfl, T5.out.b⟩
  · have hkf : isK k = false := by simp [isK]; omega
    rw [show direct15 k 0 = false from by simp [direct15, hkf]] at HDi
    have z0 : (k == 0) = false := by simp; omega
    have z1 : (k == 1) = false := by simp; omega
    have z2 : (k == 2) = false := by simp; omega
    have z3 : (k == 3) = false := by simp; omega
    have z4 : (k == 4) = false := by simp; omega
    have z5 : (k == 5) = false := by simp; omega
    have z6 : (k == 6) = false := by simp; omega
    have z7 : (k == 7) = false := by simp; omega
    have z8 : (k == 8) = false := by simp; omega
    have z9 : (k == 9) = false := by simp; omega
    have z10 : (k == 10) = false := by simp; omega
    have z11 : (k == 11) = false := by simp; omega
    have z12 : (k == 12) = false := by simp; omega
    clear hk hkf
    go_wp2_with fail
    refine HDi.out.mono ?_; rintro e w4 ⟨rfl, rfl⟩
    go_wp2_with fail
    refine (V3 _).out.mono ?_
    rintro e w5 ⟨rfl, kk⟩
    have T5 := Hd.mk ((T4.out.alloc _).step kk); clear kk
    go_wp2
    go_ret
    exact ⟨rfl, T5.out.b⟩

end Go.Proofs.YtmngicdgapkbmaaDoor.W
