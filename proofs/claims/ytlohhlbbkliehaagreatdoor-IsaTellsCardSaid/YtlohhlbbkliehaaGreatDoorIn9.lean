/-
  An instruction that came in; two instructions in memory.
-/
import Derived.Test.YtlohhlbbkliehaaGreatDoorUse
import Derived.Test.YtlohhlbbkliehaaGreatDoorArgS
namespace Go.Proofs.YtlohhlbbkliehaaGreatDoor.W
open Go.RowKit Go.ChangeShapes Go.WideShapes
set_option linter.unusedVariables false

structure In5 where
  op : Int
  a : Int
  b : Int
  c : Int
  m : Int
def insC (x : In5) : List Value := [.int .i64 x.op, .int .i64 x.a, .int .i64 x.b, .int .i64 x.c, .int .i64 x.m]
/-- an instruction that came in -/
structure ArgIns (W : World) (v : Value) (x : In5) : Prop where
  is : v = .agg #[.int .i64 x.op, .int .i64 x.a, .int .i64 x.b, .int .i64 x.c, .int .i64 x.m]
  op : i64R x.op
  a : i64R x.a
  b : i64R x.b
  c : i64R x.c
  m : i64R x.m
theorem wf64 {x : Int} (h : (Lit.int .i64 x).wf = true) : i64R x := by
  simp [Lit.wf, IntKind.min, IntKind.max, IntKind.signed, IntKind.bits] at h
  unfold i64R; omega
theorem cellsIns : Tryz.prog.cellsOf 23 = 5 := by kernel_rfl
theorem cells1i : Tryz.prog.cellsOf 3 = 1 := by kernel_rfl
set_option maxRecDepth 100000 in
theorem args_ins {H : Type} {enc : TypeId × Value → H} {base : Nat} {W : World} {v : Value} {d : DataW H} {p : List MemPlace} (hval : Value.okWide Tryz.prog W .any base 23 v) (h : DataW.Trod enc Tryz.prog W 0 (fun _ => true) true 23 v d p)
    (hz : ∀ n ∈ d.weights Tryz.prog 23, n ≤ reachBytes) : ∃ x : In5, ArgIns W v x := by
  obtain ⟨cs, rfl, _⟩ := okWide_struct Tryz.underlying23 hval
  obtain ⟨fuel, h⟩ := h
  obtain ⟨xs, n, rfl, hx, hl, hxl, hall⟩ := DataW.trod_struct Tryz.underlying23 h
  rw [cellsIns] at hl
  have hl' : cs.toList.length = 5 := hl
  have hxl' : xs.length = 5 := hxl
  obtain ⟨L, hL⟩ : ∃ L, cs.toList = L := ⟨_, rfl⟩
  have hcs : (Value.agg cs).cells.toList = L := hL
  rw [hcs] at hall
  rw [hL] at hl'
  match L, hl' with
  | [c0, c1, c2, c3, c4], _ =>
    match xs, hxl' with
    | [x0, x1, x2, x3, x4], _ =>
      have f0 : DataW.trod enc Tryz.prog W 0 (fun _ => true) true n 3 (List.take (Tryz.prog.cellsOf 3) (List.drop 0 [c0, c1, c2, c3, c4])) = some x0 := hall 0 _ rfl
      have f1 : DataW.trod enc Tryz.prog W 0 (fun _ => true) true n 3 (List.take (Tryz.prog.cellsOf 3) (List.drop 1 [c0, c1, c2, c3, c4])) = some x1 := hall 1 _ rfl
      have f2 : DataW.trod enc Tryz.prog W 0 (fun _ => true) true n 3 (List.take (Tryz.prog.cellsOf 3) (List.drop 2 [c0, c1, c2, c3, c4])) = some x2 := hall 2 _ rfl
      have f3 : DataW.trod enc Tryz.prog W 0 (fun _ => true) true n 3 (List.take (Tryz.prog.cellsOf 3) (List.drop 3 [c0, c1, c2, c3, c4])) = some x3 := hall 3 _ rfl
      have f4 : DataW.trod enc Tryz.prog W 0 (fun _ => true) true n 3 (List.take (Tryz.prog.cellsOf 3) (List.drop 4 [c0, c1, c2, c3, c4])) = some x4 := hall 4 _ rfl
      simp only [cells1i, List.drop_succ_cons, List.take_succ_cons, List.take_zero, List.drop_zero] at f0 f1 f2 f3 f4
      obtain ⟨i0, e0, _, w0⟩ := DataW.trod_int Tryz.underlying3 f0
      obtain ⟨i1, e1, _, w1⟩ := DataW.trod_int Tryz.underlying3 f1
      obtain ⟨i2, e2, _, w2⟩ := DataW.trod_int Tryz.underlying3 f2
      obtain ⟨i3, e3, _, w3⟩ := DataW.trod_int Tryz.underlying3 f3
      obtain ⟨i4, e4, _, w4⟩ := DataW.trod_int Tryz.underlying3 f4
      simp only [List.cons.injEq, and_true] at e0 e1 e2 e3 e4
      subst e0 e1 e2 e3 e4
      have e' : cs = #[.int .i64 i0, .int .i64 i1, .int .i64 i2, .int .i64 i3, .int .i64 i4] := by
        rw [← Array.toArray_toList (xs := cs), hL]
      exact ⟨⟨i0, i1, i2, i3, i4⟩, ⟨by rw [e'], wf64 w0, wf64 w1, wf64 w2, wf64 w3, wf64 w4⟩⟩

/-- two instructions in memory -/
structure S2 (w w' : World) (I J : Nat) (x y : In5) : Prop where
  bel : Below w.heap.size w w'
  i : Blk w' I 23 [.int .i64 x.op, .int .i64 x.a, .int .i64 x.b, .int .i64 x.c, .int .i64 x.m]
  j : Blk w' J 23 [.int .i64 y.op, .int .i64 y.a, .int .i64 y.b, .int .i64 y.c, .int .i64 y.m]
theorem S2.below {w w1 w2 : World} {I J : Nat} {x y : In5} (h : S2 w w1 I J x y) (k : Below w1.heap.size w1 w2) : S2 w w2 I J x y :=
  ⟨Below.chain h.bel k, h.i.below k h.i.lt, h.j.below k h.j.lt⟩
theorem S2.alloc {w w1 : World} {I J : Nat} {x y : In5} (h : S2 w w1 I J x y) (o : Obj) : S2 w (w1.alloc o) I J x y := h.below ((Below.refl _ _).alloc (Nat.le_refl _) _)
theorem S2.drew {w w1 : World} {I J : Nat} {x y : In5} (h : S2 w w1 I J x y) : S2 w w1.drew I J x y := h.below (Below.refl _ _).drew
theorem S2.new (w : World) (x y : In5) : S2 w ((w.alloc (.cells #[.int .i64 x.op, .int .i64 x.a, .int .i64 x.b, .int .i64 x.c, .int .i64 x.m] 23)).alloc (.cells #[.int .i64 y.op, .int .i64 y.a, .int .i64 y.b, .int .i64 y.c, .int .i64 y.m] 23)) w.heap.size (w.heap.size + 1) x y := by
  refine ⟨by go_grown, (Blk.new w 23 _).alloc _, ?_⟩
  have := Blk.new (w.alloc (.cells #[.int .i64 x.op, .int .i64 x.a, .int .i64 x.b, .int .i64 x.c, .int .i64 x.m] 23)) 23 [.int .i64 y.op, .int .i64 y.a, .int .i64 y.b, .int .i64 y.c, .int .i64 y.m]
  rw [show (w.alloc (.cells #[.int .i64 x.op, .int .i64 x.a, .int .i64 x.b, .int .i64 x.c, .int .i64 x.m] 23)).heap.size = w.heap.size + 1 from by simp] at this
  exact this
theorem S2.at {w w1 : World} {I J : Nat} {x y : In5} (h : S2 w w1 I J x y) : (w1.cell? ⟨I, 0, none⟩ = some (.int .i64 x.op) ∧ w1.cell? ⟨I, 1, none⟩ = some (.int .i64 x.a) ∧ w1.cell? ⟨I, 2, none⟩ = some (.int .i64 x.b) ∧ w1.cell? ⟨I, 3, none⟩ = some (.int .i64 x.c) ∧ w1.cell? ⟨I, 4, none⟩ = some (.int .i64 x.m)) ∧
    (w1.cell? ⟨J, 0, none⟩ = some (.int .i64 y.op) ∧ w1.cell? ⟨J, 1, none⟩ = some (.int .i64 y.a) ∧ w1.cell? ⟨J, 2, none⟩ = some (.int .i64 y.b) ∧ w1.cell? ⟨J, 3, none⟩ = some (.int .i64 y.c) ∧ w1.cell? ⟨J, 4, none⟩ = some (.int .i64 y.m)) :=
  ⟨⟨h.i.at (j := 0) rfl, h.i.at (j := 1) rfl, h.i.at (j := 2) rfl, h.i.at (j := 3) rfl, h.i.at (j := 4) rfl⟩, ⟨h.j.at (j := 0) rfl, h.j.at (j := 1) rfl, h.j.at (j := 2) rfl, h.j.at (j := 3) rfl, h.j.at (j := 4) rfl⟩⟩

end Go.Proofs.YtlohhlbbkliehaaGreatDoor.W
