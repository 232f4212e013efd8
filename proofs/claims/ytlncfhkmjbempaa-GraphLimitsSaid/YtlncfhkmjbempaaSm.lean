/-
  The laws' few, small.
-/
import Derived.Test.YtlncfhkmjbempaaRs
namespace Go.Proofs.Ytlncfhkmjbempaa.W
open Go.RowKit
set_option linter.unusedVariables false

def fewB (n : Int) (a r : Nat) : Bool := decide (n ≤ 14) && decide (a ≤ 60) && decide (r ≤ 20)

set_option maxRecDepth 100000 in
theorem few_any (w : World) (n : Int) (p q : Option Addr) (a r c d : Nat) :
    Calls Try.prog 11 #[.int .i64 n, .slice p a c, .slice q r d] w fun e w' => e = .returned (.bool (fewB n a r)) ∧ w = w' := by
  go_enter Try.func11, Try.ntmps11
  by_cases h1 : n ≤ 14
  · have e1 : decide (n ≤ 14) = true := by simpa using h1
    by_cases h2 : a ≤ 60
    · have e2 : decide ((a : Int) ≤ 60) = true := by simp; omega
      go_wp2
      go_ret
      exact ⟨ret_b (by simp only [fewB]; rw [e1, decide_eq_true h2]; simp; omega), rfl⟩
    · have e2 : decide ((a : Int) ≤ 60) = false := by simp; omega
      go_wp2
      go_ret
      exact ⟨ret_b (by simp only [fewB]; rw [e1, decide_eq_false h2]; rfl), rfl⟩
  · have e1 : decide (n ≤ 14) = false := by simpa using h1
    go_wp2
    go_ret
    exact ⟨ret_b (by simp only [fewB]; rw [e1]; rfl), rfl⟩

def arcs1 : List Arc := [⟨0, 1⟩, ⟨1, 0⟩, ⟨1, 2⟩, ⟨3, 2⟩]
def arcs2 : List Arc := [⟨0, 1⟩, ⟨0, 2⟩, ⟨1, 3⟩, ⟨2, 3⟩]
def arcs3 : List Arc := [⟨2, 1⟩, ⟨1, 2⟩]

theorem up {w wk : World} (h : Below w.heap.size w wk) (o : Obj) : Below w.heap.size w (wk.alloc o) := h.alloc h.size o

theorem arcs_rw {w : World} {g : Nat} (arcs : List Arc) (hb : Blk w g 36 (arcs.flatMap Arc.cells)) {c : Nat} : Rw 2 Arc.E w (.slice (some ⟨g, 0, none⟩) arcs.length c) arcs :=
  Rw.of_blk (css := arcs.map Arc.cells) hb (by rw [List.flatMap]) (by simp) (fun cs h => by obtain ⟨a, _, rfl⟩ := List.mem_map.1 h; rfl) (fun j x cs hx hc => by rw [List.getElem?_map, hx] at hc; cases hc; rfl)

theorem lit_rows (w : World) : Rw 1 rowE ((((w.alloc (.cells #[.int .i64 2] 3)).alloc (.cells #[.int .i64 0, .int .i64 1] 3)).alloc (.cells #[.int .i64 3] 3)).alloc (.cells #[.slice (some ⟨w.heap.size, 0, none⟩) 1 1, .slice (some ⟨w.heap.size + 1, 0, none⟩) 2 2, .slice (some ⟨w.heap.size + 2, 0, none⟩) 1 1] 23))
    (.slice (some ⟨w.heap.size + 3, 0, none⟩) 3 3) [[2], [0, 1], [3]] := by
  have r1 : RI (w.alloc (.cells #[.int .i64 2] 3)) (.slice (some ⟨w.heap.size, 0, none⟩) 1 1) [2] := Rw.ints (ks := [2]) (Blk.new w 3 [.int .i64 2])
  have r2 : RI ((w.alloc (.cells #[.int .i64 2] 3)).alloc (.cells #[.int .i64 0, .int .i64 1] 3)) (.slice (some ⟨w.heap.size + 1, 0, none⟩) 2 2) [0, 1] := by
    have := Rw.ints (ks := [0, 1]) (cap := 2) (Blk.new (w.alloc (.cells #[.int .i64 2] 3)) 3 [.int .i64 0, .int .i64 1])
    rw [show (w.alloc (.cells #[.int .i64 2] 3)).heap.size = w.heap.size + 1 by simp] at this
    exact this
  have r3 : RI (((w.alloc (.cells #[.int .i64 2] 3)).alloc (.cells #[.int .i64 0, .int .i64 1] 3)).alloc (.cells #[.int .i64 3] 3)) (.slice (some ⟨w.heap.size + 2, 0, none⟩) 1 1) [3] := by
    have := Rw.ints (ks := [3]) (cap := 1) (Blk.new ((w.alloc (.cells #[.int .i64 2] 3)).alloc (.cells #[.int .i64 0, .int .i64 1] 3)) 3 [.int .i64 3])
    rw [show ((w.alloc (.cells #[.int .i64 2] 3)).alloc (.cells #[.int .i64 0, .int .i64 1] 3)).heap.size = w.heap.size + 2 by simp] at this
    exact this
  have hb := Blk.new (((w.alloc (.cells #[.int .i64 2] 3)).alloc (.cells #[.int .i64 0, .int .i64 1] 3)).alloc (.cells #[.int .i64 3] 3)) 23 [.slice (some ⟨w.heap.size, 0, none⟩) 1 1, .slice (some ⟨w.heap.size + 1, 0, none⟩) 2 2, .slice (some ⟨w.heap.size + 2, 0, none⟩) 1 1]
  rw [show (((w.alloc (.cells #[.int .i64 2] 3)).alloc (.cells #[.int .i64 0, .int .i64 1] 3)).alloc (.cells #[.int .i64 3] 3)).heap.size = w.heap.size + 3 by simp] at hb
  refine Rw.of_blk1 (xs := [[2], [0, 1], [3]]) hb rfl (fun j x u hx hu => ?_)
  rcases j with _ | _ | _ | j
  · cases hx; cases hu
    exact ⟨_, rfl, Rw.below (Rw.below (Rw.below r1 intE_stays (below_al _ _)) intE_stays (below_al _ _)) intE_stays (below_al _ _)⟩
  · cases hx; cases hu
    exact ⟨_, rfl, Rw.below (Rw.below r2 intE_stays (below_al _ _)) intE_stays (below_al _ _)⟩
  · cases hx; cases hu
    exact ⟨_, rfl, Rw.below r3 intE_stays (below_al _ _)⟩
  · simp at hx

theorem ex_parts : (Tj.greedy 4 (fun u x => (Tj.heads (Tj.waysOf 4 (nx 4 arcs1) [u])).contains x) 4 (fun _ => false)).map intL = [[2], [0, 1], [3]] := by decide +kernel
theorem ex_reach : intL (reachL 4 arcs1 [0]) = [0, 1, 2] := by decide +kernel
theorem ex_way : intL (Tj.wayL (wavesOf 4 arcs2 [0]) 3) = [0, 1, 3] := by decide +kernel
theorem ex_loop : intL (loopL 3 arcs3) = [1, 2] := by decide +kernel
theorem ex_noloop : loopL 4 arcs2 = [] := by decide +kernel
theorem ex_r1 : rightB 4 arcs1 = true := by decide +kernel
theorem ex_r2 : rightB 4 arcs2 = true := by decide +kernel
theorem ex_r3 : rightB 3 arcs3 = true := by decide +kernel
theorem ex_r4 : rightB 2 arcs1 = false := by decide +kernel

set_option maxHeartbeats 4000000 in
set_option maxRecDepth 100000 in
theorem small_any (w : World) : Calls Try.prog 10 #[] w fun e w' => e = .returned (.bool true) ∧ Below w.heap.size w w' := by
  have hb1 := Blk.new w 36 (arcs1.flatMap Arc.cells)
  have hb2 := Blk.new (w.alloc (.cells (arcs1.flatMap Arc.cells).toArray 36)) 36 (arcs2.flatMap Arc.cells)
  have R1 : ∀ w', Below ((w.alloc (.cells (arcs1.flatMap Arc.cells).toArray 36)).alloc (.cells (arcs2.flatMap Arc.cells).toArray 36)).heap.size ((w.alloc (.cells (arcs1.flatMap Arc.cells).toArray 36)).alloc (.cells (arcs2.flatMap Arc.cells).toArray 36)) w' → Rw 2 Arc.E w' (.slice (some ⟨w.heap.size, 0, none⟩) 4 4) arcs1 :=
    fun w' h => ((arcs_rw arcs1 hb1 (c := 4)).below Arc.stays (below_al _ _)).below Arc.stays h
  have R2 : ∀ w', Below ((w.alloc (.cells (arcs1.flatMap Arc.cells).toArray 36)).alloc (.cells (arcs2.flatMap Arc.cells).toArray 36)).heap.size ((w.alloc (.cells (arcs1.flatMap Arc.cells).toArray 36)).alloc (.cells (arcs2.flatMap Arc.cells).toArray 36)) w' → Rw 2 Arc.E w' (.slice (some ⟨w.heap.size + 1, 0, none⟩) 4 4) arcs2 :=
    fun w' h => (show Rw 2 Arc.E _ (.slice (some ⟨w.heap.size + 1, 0, none⟩) 4 4) arcs2 from by
      have := arcs_rw arcs2 hb2 (c := 4)
      rw [show (w.alloc (.cells (arcs1.flatMap Arc.cells).toArray 36)).heap.size = w.heap.size + 1 by simp] at this
      exact this).below Arc.stays h
  have HB0 : Hd (Below w.heap.size w ((w.alloc (.cells (arcs1.flatMap Arc.cells).toArray 36)).alloc (.cells (arcs2.flatMap Arc.cells).toArray 36))) := ⟨up (up (Below.refl _ _) _) _⟩
  obtain ⟨W, hW⟩ : ∃ W, (w.alloc (.cells #[.int .i64 0, .int .i64 1, .int .i64 1, .int .i64 0, .int .i64 1, .int .i64 2, .int .i64 3, .int .i64 2] 36)).alloc (.cells #[.int .i64 0, .int .i64 1, .int .i64 0, .int .i64 2, .int .i64 1, .int .i64 3, .int .i64 2, .int .i64 3] 36) = W := ⟨_, rfl⟩
  have HB0' : Hd (Below w.heap.size w W) := ⟨by rw [← hW]; exact HB0.out⟩
  have HR1 : Hd (∀ w', Below W.heap.size W w' → Rw 2 Arc.E w' (.slice (some ⟨w.heap.size, 0, none⟩) 4 4) arcs1) := ⟨by rw [← hW]; exact R1⟩
  have HR2 : Hd (∀ w', Below W.heap.size W w' → Rw 2 Arc.E w' (.slice (some ⟨w.heap.size + 1, 0, none⟩) 4 4) arcs2) := ⟨by rw [← hW]; exact R2⟩
  have HW := Hd.mk hW
  clear R1 R2 hb1 hb2 HB0 hW
  have HP1 : Hd (Calls Try.prog 15 #[.int .i64 4, .slice (some ⟨w.heap.size, 0, none⟩) 4 4] W fun e w' => ∃ v' vs, e = .returned v' ∧ RowsO w' W.heap.size v' vs [[2], [0, 1], [3]] ∧ Below W.heap.size W w') := ⟨by
    have := parts_any W 4 (by decide) (.slice (some ⟨w.heap.size, 0, none⟩) 4 4) arcs1 (HR1.out W (Below.refl _ _)) (by decide) ex_r1
    rw [ex_parts] at this
    exact this⟩
  go_enter Try.func10, Try.ntmps10
  go_wp2_with fail
  rw [HW.out]
  refine HP1.out.mono ?_
  rintro e w1 ⟨v1, vs1, rfl, hro1, b1⟩
  have HB1 := Hd.mk b1
  have HS1 := Hd.mk (fun (w' : World) (hb : Below w1.heap.size w1 w') (u : Value) (hu : Rw 1 rowE w' u [[2], [0, 1], [3]]) => rsameL_any w' v1 u [[2], [0, 1], [3]] [[2], [0, 1], [3]] (by decide) (by decide) (by decide) (by decide) ((RR.of hro1).below rowE_stays hb) hu |>.mono (R' := fun e w'' => e = .returned (.bool true) ∧ Below w'.heap.size w' w'') (fun e w'' ⟨a, b⟩ => ⟨by rw [a]; rfl, b⟩))
  have HL1 := Hd.mk (lit_rows w1)
  clear b1 hro1 HP1
  go_wp2_with fail
  refine (HS1.out _ (up (up (up (up (Below.refl _ _) _) _) _) _) _ HL1.out).mono ?_
  rintro e w2 ⟨rfl, b2⟩
  have HB2 : Hd (Below W.heap.size W w2) := ⟨(up (up (up (up HB1.out _) _) _) _).trans (b2.mono (up (up (up (up HB1.out _) _) _) _).size)⟩
  clear b2 HS1 HL1 HB1
  -- Reach
  have HRe := Hd.mk (fun (w' : World) (hb : Below W.heap.size W w') (rv : Value) (hr : RI w' rv [0]) => reach_any w' 4 (by decide) (.slice (some ⟨w.heap.size, 0, none⟩) 4 4) rv arcs1 [0] (HR1.out w' hb) (by decide) ex_r1 hr (by decide))
  have r0 : RI (w2.alloc (.cells #[.int .i64 0] 3)) (.slice (some ⟨w2.heap.size, 0, none⟩) 1 1) [0] := Rw.ints (ks := [0]) (Blk.new w2 3 [.int .i64 0])
  have HC1 := Hd.mk (HRe.out _ (up HB2.out _) _ r0)
  clear r0 HRe
  go_wp2_with fail
  refine HC1.out.mono ?_
  rintro e w3 ⟨v3, rfl, o3, b3⟩
  have HB3 : Hd (Below W.heap.size W w3) := ⟨(up HB2.out _).trans (b3.mono (up HB2.out _).size)⟩
  have r3 : RI w3 v3 [0, 1, 2] := by
    have := RI.ofN o3
    rw [ex_reach] at this
    exact this
  have HC2 := Hd.mk ((rsame_any (w3.alloc (.cells #[.int .i64 0, .int .i64 1, .int .i64 2] 3)) v3 (.slice (some ⟨w3.heap.size, 0, none⟩) 3 3) [0, 1, 2] [0, 1, 2] (by decide) (by decide) (Rw.below r3 intE_stays (below_al _ _)) (Rw.ints (ks := [0, 1, 2]) (Blk.new w3 3 [.int .i64 0, .int .i64 1, .int .i64 2]))).mono (R' := fun e w'' => e = .returned (.bool true) ∧ Below (w3.alloc (.cells #[.int .i64 0, .int .i64 1, .int .i64 2] 3)).heap.size (w3.alloc (.cells #[.int .i64 0, .int .i64 1, .int .i64 2] 3)) w'') (fun e w'' ⟨a, b⟩ => ⟨by rw [a]; rfl, b⟩))
  clear o3 b3 r3 HC1 HB2
  go_wp2_with fail
  refine HC2.out.mono ?_
  rintro e w4 ⟨rfl, b4⟩
  have HB4 : Hd (Below W.heap.size W w4) := ⟨(up HB3.out _).trans (b4.mono (up HB3.out _).size)⟩
  clear b4 HC2 HB3
  -- Way
  have r0 : RI (w4.alloc (.cells #[.int .i64 0] 3)) (.slice (some ⟨w4.heap.size, 0, none⟩) 1 1) [0] := Rw.ints (ks := [0]) (Blk.new w4 3 [.int .i64 0])
  have HC3 := Hd.mk (way_any _ 4 (by decide) (.slice (some ⟨w.heap.size + 1, 0, none⟩) 4 4) _ arcs2 [0] 3 (by decide) (HR2.out _ (up HB4.out _)) (by decide) ex_r2 r0 (by decide))
  clear r0
  go_wp2_with fail
  refine HC3.out.mono ?_
  rintro e w5 ⟨v5, rfl, o5, b5⟩
  have HB5 : Hd (Below W.heap.size W w5) := ⟨(up HB4.out _).trans (b5.mono (up HB4.out _).size)⟩
  have r5 : RI w5 v5 [0, 1, 3] := by
    have := RI.ofN o5
    rw [ex_way] at this
    exact this
  have HC4 := Hd.mk ((rsame_any (w5.alloc (.cells #[.int .i64 0, .int .i64 1, .int .i64 3] 3)) v5 (.slice (some ⟨w5.heap.size, 0, none⟩) 3 3) [0, 1, 3] [0, 1, 3] (by decide) (by decide) (Rw.below r5 intE_stays (below_al _ _)) (Rw.ints (ks := [0, 1, 3]) (Blk.new w5 3 [.int .i64 0, .int .i64 1, .int .i64 3]))).mono (R' := fun e w'' => e = .returned (.bool true) ∧ Below (w5.alloc (.cells #[.int .i64 0, .int .i64 1, .int .i64 3] 3)).heap.size (w5.alloc (.cells #[.int .i64 0, .int .i64 1, .int .i64 3] 3)) w'') (fun e w'' ⟨a, b⟩ => ⟨by rw [a]; rfl, b⟩))
  clear o5 b5 r5 HC3 HB4
  go_wp2_with fail
  refine HC4.out.mono ?_
  rintro e w6 ⟨rfl, b6⟩
  have HB6 : Hd (Below W.heap.size W w6) := ⟨(up HB5.out _).trans (b6.mono (up HB5.out _).size)⟩
  clear b6 HC4 HB5
  -- Loop
  have ra : Rw 2 Arc.E (w6.alloc (.cells #[.int .i64 2, .int .i64 1, .int .i64 1, .int .i64 2] 36)) (.slice (some ⟨w6.heap.size, 0, none⟩) 2 2) arcs3 := arcs_rw arcs3 (c := 2) (Blk.new w6 36 (arcs3.flatMap Arc.cells))
  have HC5 := Hd.mk (loop_any _ 3 (by decide) _ arcs3 ra (by decide) ex_r3)
  clear ra
  go_wp2_with fail
  refine HC5.out.mono ?_
  rintro e w7 ⟨v7, rfl, o7, b7⟩
  have HB7 : Hd (Below W.heap.size W w7) := ⟨(up HB6.out _).trans (b7.mono (up HB6.out _).size)⟩
  have r7 : RI w7 v7 [1, 2] := by
    have := RI.ofN o7
    rw [ex_loop] at this
    exact this
  have HC6 := Hd.mk ((rsame_any (w7.alloc (.cells #[.int .i64 1, .int .i64 2] 3)) v7 (.slice (some ⟨w7.heap.size, 0, none⟩) 2 2) [1, 2] [1, 2] (by decide) (by decide) (Rw.below r7 intE_stays (below_al _ _)) (Rw.ints (ks := [1, 2]) (Blk.new w7 3 [.int .i64 1, .int .i64 2]))).mono (R' := fun e w'' => e = .returned (.bool true) ∧ Below (w7.alloc (.cells #[.int .i64 1, .int .i64 2] 3)).heap.size (w7.alloc (.cells #[.int .i64 1, .int .i64 2] 3)) w'') (fun e w'' ⟨a, b⟩ => ⟨by rw [a]; rfl, b⟩))
  clear o7 b7 r7 HC5 HB6
  go_wp2_with fail
  refine HC6.out.mono ?_
  rintro e w8 ⟨rfl, b8⟩
  have HB8 : Hd (Below W.heap.size W w8) := ⟨(up HB7.out _).trans (b8.mono (up HB7.out _).size)⟩
  clear b8 HC6 HB7
  have HC7 := Hd.mk (loop_any w8 4 (by decide) (.slice (some ⟨w.heap.size + 1, 0, none⟩) 4 4) arcs2 (HR2.out _ HB8.out) (by decide) ex_r2)
  rw [ex_noloop] at HC7
  go_wp2_with fail
  refine HC7.out.mono ?_
  rintro e w9 ⟨v9, rfl, o9, b9⟩
  obtain ⟨p9, c9, hv9⟩ := o9.slice'
  have hv9' : v9 = .slice p9 0 c9 := hv9
  subst hv9'
  have HB9 : Hd (Below W.heap.size W w9) := ⟨HB8.out.trans (b9.mono HB8.out.size)⟩
  clear o9 b9 HC7 HB8 hv9
  have HC8 := Hd.mk (gright_any w9 4 (.slice (some ⟨w.heap.size, 0, none⟩) 4 4) arcs1 (HR1.out _ HB9.out) (by unfold lenR; decide))
  rw [ex_r1] at HC8
  go_wp2_with fail
  refine HC8.out.mono ?_
  rintro e w10 ⟨rfl, b10⟩
  have HB10 : Hd (Below W.heap.size W w10) := ⟨HB9.out.trans (b10.mono HB9.out.size)⟩
  have HC9 := Hd.mk (gright_any w10 2 (.slice (some ⟨w.heap.size, 0, none⟩) 4 4) arcs1 (HR1.out _ HB10.out) (by unfold lenR; decide))
  rw [ex_r4] at HC9
  clear b10 HC8 HB9
  go_wp2_with fail
  refine HC9.out.mono ?_
  rintro e w11 ⟨rfl, b11⟩
  have HB11 : Hd (Below W.heap.size W w11) := ⟨HB10.out.trans (b11.mono HB10.out.size)⟩
  have HC10 := Hd.mk (parts_no w11 2 (.slice (some ⟨w.heap.size, 0, none⟩) 4 4) arcs1 (HR1.out _ HB11.out) (by unfold lenR; decide) ex_r4)
  clear b11 HC9 HB10
  go_wp2_with fail
  refine HC10.out.mono ?_
  rintro e w12 ⟨rfl, b12⟩
  have HB12 : Hd (Below w.heap.size w w12) := ⟨HB0'.out.trans ((HB11.out.trans (b12.mono HB11.out.size)).mono HB0'.out.size)⟩
  clear b12 HC10 HB11
  go_wp2
  go_ret
  exact ⟨rfl, HB12.out⟩

end Go.Proofs.Ytlncfhkmjbempaa.W
