/-
  The structs of an object: the frame's openers (printed by tools/gen_struct.py).
-/
import Derived.Test.YtimbhnnidohmaaaDoorObj
import Derived.Test.YtimbhnnidohmaaaDoorArgS
namespace Go.Proofs.YtimbhnnidohmaaaDoor.W
open Go.RowKit Go.ChangeShapes Go.WideShapes
set_option linter.unusedVariables false
set_option maxRecDepth 100000

section
variable {H : Type} {enc : TypeId × Value → H}

theorem wfI {x : Int} (h : (Lit.int .i64 x).wf = true) : I64 x := by
  simp [Lit.wf, IntKind.min, IntKind.max, IntKind.signed, IntKind.bits] at h
  unfold I64; omega
theorem cellsI1 : Tryd.prog.cellsOf 3 = 1 := by kernel_rfl
theorem cellsS1 : Tryd.prog.cellsOf 9 = 1 := by kernel_rfl
theorem cellsB1 : Tryd.prog.cellsOf 4 = 1 := by kernel_rfl
theorem rw_of_slice {α : Type} {m : Nat} {Q : α → Prop} {E : World → List Value → α → Prop} {W : World} {v : Value} {xs : List α} (h : SliceAt W m (fun cs x => E W cs x ∧ Q x) v xs) : Rw m E W v xs ∧ ∀ y ∈ xs, Q y := by
  refine ⟨⟨?_⟩, fun y hy => ?_⟩
  · rcases h.is with h0 | ⟨g, o, cap, e, hg, hc⟩
    · exact .inl h0
    · refine .inr ⟨g, o, cap, e, hg, fun j x hx => ?_⟩
      obtain ⟨cs, h1, h2, h3⟩ := hc j x hx
      exact ⟨cs, h1, h2.1, h3⟩
  · obtain ⟨j, hj, rfl⟩ := List.getElem_of_mem hy
    rcases h.is with ⟨rfl, _⟩ | ⟨g, o, cap, e, hg, hc⟩
    · simp at hj
    · obtain ⟨cs, _, h2, _⟩ := hc j _ (List.getElem?_eq_getElem hj)
      exact h2.2

theorem cellsSec : Tryd.prog.cellsOf 52 = 6 := by kernel_rfl
theorem elem_Sec {W : World} (fuel : Nat) (cs : List Value) (d : DataW H) (p : List MemPlace) (h : DataW.trod enc Tryd.prog W 0 (fun _ => true) true fuel 52 cs = some (d, p)) (hz : ∀ x ∈ d.weights Tryd.prog 52, x ≤ reachBytes) :
    ∃ a : Sec, Sec.E W cs a ∧ a.Ok := by
  obtain ⟨xs, n, rfl, hx, hl, hxl, hall⟩ := DataW.trod_struct Tryd.underlying52 h
  rw [cellsSec] at hl
  match cs, hl with
  | [c0, c1, c2, c3, c4, c5], _ =>
    have hxl' : xs.length = 6 := hxl
    match xs, hxl' with
    | [x0, x1, x2, x3, x4, x5], _ =>
      injection hx with hd _
      have f0 : DataW.trod enc Tryd.prog W 0 (fun _ => true) true n 9 (List.take (Tryd.prog.cellsOf 9) (List.drop 0 [c0, c1, c2, c3, c4, c5])) = some x0 := hall 0 _ rfl
      have f1 : DataW.trod enc Tryd.prog W 0 (fun _ => true) true n 3 (List.take (Tryd.prog.cellsOf 3) (List.drop 1 [c0, c1, c2, c3, c4, c5])) = some x1 := hall 1 _ rfl
      have f2 : DataW.trod enc Tryd.prog W 0 (fun _ => true) true n 3 (List.take (Tryd.prog.cellsOf 3) (List.drop 2 [c0, c1, c2, c3, c4, c5])) = some x2 := hall 2 _ rfl
      have f3 : DataW.trod enc Tryd.prog W 0 (fun _ => true) true n 3 (List.take (Tryd.prog.cellsOf 3) (List.drop 3 [c0, c1, c2, c3, c4, c5])) = some x3 := hall 3 _ rfl
      have f4 : DataW.trod enc Tryd.prog W 0 (fun _ => true) true n 9 (List.take (Tryd.prog.cellsOf 9) (List.drop 4 [c0, c1, c2, c3, c4, c5])) = some x4 := hall 4 _ rfl
      have f5 : DataW.trod enc Tryd.prog W 0 (fun _ => true) true n 4 (List.take (Tryd.prog.cellsOf 4) (List.drop 5 [c0, c1, c2, c3, c4, c5])) = some x5 := hall 5 _ rfl
      simp only [cellsB1, cellsI1, cellsS1, List.drop_succ_cons, List.take_succ_cons, List.take_zero, List.drop_zero] at f0 f1 f2 f3 f4 f5
      have hw : ∀ {j : Nat} {t : TypeId} {y : DataW H}, [9, 3, 3, 3, 9, 4][j]? = some t → [x0.1, x1.1, x2.1, x3.1, x4.1, x5.1][j]? = some y → ∀ x ∈ y.weights Tryd.prog t, x ≤ reachBytes := by
        intro j t y ht hy x hxx
        apply hz
        subst hd
        rw [DataW.weights, Tryd.underlying52]
        exact DataW.weights_mem_each ht hy x hxx
      obtain ⟨i0, e0, w0⟩ := elem_string (P := Tryd.prog) Tryd.underlying9 n [c0] x0.1 x0.2 f0 (hw (j := 0) rfl rfl)
      obtain ⟨i1, e1, _, w1⟩ := DataW.trod_int Tryd.underlying3 f1
      obtain ⟨i2, e2, _, w2⟩ := DataW.trod_int Tryd.underlying3 f2
      obtain ⟨i3, e3, _, w3⟩ := DataW.trod_int Tryd.underlying3 f3
      obtain ⟨i4, e4, w4⟩ := elem_string (P := Tryd.prog) Tryd.underlying9 n [c4] x4.1 x4.2 f4 (hw (j := 4) rfl rfl)
      obtain ⟨i5, e5, _⟩ := DataW.trod_bool Tryd.underlying4 f5
      simp only [List.cons.injEq, and_true] at e0 e1 e2 e3 e4 e5
      subst e0 e1 e2 e3 e4 e5
      exact ⟨⟨i0, i1, i2, i3, i4, i5⟩, rfl, ⟨w0, wfI w1, wfI w2, wfI w3, w4⟩⟩

theorem row_Sec {W : World} (fuel : Nat) (cs : List Value) (d : DataW H) (p : List MemPlace) (h : DataW.trod enc Tryd.prog W 0 (fun _ => true) true fuel 32 cs = some (d, p)) (hz : ∀ x ∈ d.weights Tryd.prog 32, x ≤ reachBytes) :
    ∃ (v : Value) (xs : List Sec), cs = [v] ∧ Rw 6 Sec.E W v xs ∧ lenR xs.length ∧ ∀ y ∈ xs, Sec.Ok y := by
  obtain ⟨v, xs, hv, h1, h2⟩ := arg_slice_cells (P := Tryd.prog) (m := 6) (fun cs (x : Sec) => Sec.E W cs x ∧ Sec.Ok x) Tryd.underlying32 cellsSec (by decide) elem_Sec h hz
  have hb : 1 ≤ Tryd.prog.bytesOf 52 := by rw [show Tryd.prog.bytesOf 52 = 64 from by kernel_rfl]; decide
  have hr : reachBytes = 140737488351232 := by decide
  obtain ⟨h3, h4⟩ := rw_of_slice h1
  exact ⟨v, xs, hv, h3, by unfold lenR; have := Nat.mul_le_mul_left xs.length hb; omega, h4⟩

structure ArgSecs (W : World) (v : Value) (l : List Sec) : Prop where
  row : Rw 6 Sec.E W v l
  len : lenR l.length
  ok : ∀ x ∈ l, x.Ok
theorem args_Secs {base : Nat} {W : World} {v : Value} {d : DataW H} {p : List MemPlace} (hval : Value.okWide Tryd.prog W .any base 32 v) (h : DataW.Trod enc Tryd.prog W 0 (fun _ => true) true 32 v d p)
    (hz : ∀ n ∈ d.weights Tryd.prog 32, n ≤ reachBytes) : ∃ l : List Sec, ArgSecs W v l := by
  obtain ⟨a0, len, cap, rfl⟩ := okWide_slice Tryd.underlying32 hval
  obtain ⟨fuel, hf⟩ := h
  obtain ⟨v, xs, hv, h1, h2, h3⟩ := row_Sec fuel _ d p hf hz
  have e : Value.slice a0 len cap = v := by have : [Value.slice a0 len cap] = [v] := hv; exact List.head_eq_of_cons_eq this
  exact ⟨xs, e ▸ h1, h2, h3⟩

theorem cellsSym : Tryd.prog.cellsOf 133 = 10 := by kernel_rfl
theorem elem_Sym {W : World} (fuel : Nat) (cs : List Value) (d : DataW H) (p : List MemPlace) (h : DataW.trod enc Tryd.prog W 0 (fun _ => true) true fuel 133 cs = some (d, p)) (hz : ∀ x ∈ d.weights Tryd.prog 133, x ≤ reachBytes) :
    ∃ a : Sym, Sym.E W cs a ∧ a.Ok := by
  obtain ⟨xs, n, rfl, hx, hl, hxl, hall⟩ := DataW.trod_struct Tryd.underlying133 h
  rw [cellsSym] at hl
  match cs, hl with
  | [c0, c1, c2, c3, c4, c5, c6, c7, c8, c9], _ =>
    have hxl' : xs.length = 10 := hxl
    match xs, hxl' with
    | [x0, x1, x2, x3, x4, x5, x6, x7, x8, x9], _ =>
      injection hx with hd _
      have f0 : DataW.trod enc Tryd.prog W 0 (fun _ => true) true n 9 (List.take (Tryd.prog.cellsOf 9) (List.drop 0 [c0, c1, c2, c3, c4, c5, c6, c7, c8, c9])) = some x0 := hall 0 _ rfl
      have f1 : DataW.trod enc Tryd.prog W 0 (fun _ => true) true n 9 (List.take (Tryd.prog.cellsOf 9) (List.drop 1 [c0, c1, c2, c3, c4, c5, c6, c7, c8, c9])) = some x1 := hall 1 _ rfl
      have f2 : DataW.trod enc Tryd.prog W 0 (fun _ => true) true n 4 (List.take (Tryd.prog.cellsOf 4) (List.drop 2 [c0, c1, c2, c3, c4, c5, c6, c7, c8, c9])) = some x2 := hall 2 _ rfl
      have f3 : DataW.trod enc Tryd.prog W 0 (fun _ => true) true n 3 (List.take (Tryd.prog.cellsOf 3) (List.drop 3 [c0, c1, c2, c3, c4, c5, c6, c7, c8, c9])) = some x3 := hall 3 _ rfl
      have f4 : DataW.trod enc Tryd.prog W 0 (fun _ => true) true n 3 (List.take (Tryd.prog.cellsOf 3) (List.drop 4 [c0, c1, c2, c3, c4, c5, c6, c7, c8, c9])) = some x4 := hall 4 _ rfl
      have f5 : DataW.trod enc Tryd.prog W 0 (fun _ => true) true n 3 (List.take (Tryd.prog.cellsOf 3) (List.drop 5 [c0, c1, c2, c3, c4, c5, c6, c7, c8, c9])) = some x5 := hall 5 _ rfl
      have f6 : DataW.trod enc Tryd.prog W 0 (fun _ => true) true n 3 (List.take (Tryd.prog.cellsOf 3) (List.drop 6 [c0, c1, c2, c3, c4, c5, c6, c7, c8, c9])) = some x6 := hall 6 _ rfl
      have f7 : DataW.trod enc Tryd.prog W 0 (fun _ => true) true n 3 (List.take (Tryd.prog.cellsOf 3) (List.drop 7 [c0, c1, c2, c3, c4, c5, c6, c7, c8, c9])) = some x7 := hall 7 _ rfl
      have f8 : DataW.trod enc Tryd.prog W 0 (fun _ => true) true n 3 (List.take (Tryd.prog.cellsOf 3) (List.drop 8 [c0, c1, c2, c3, c4, c5, c6, c7, c8, c9])) = some x8 := hall 8 _ rfl
      have f9 : DataW.trod enc Tryd.prog W 0 (fun _ => true) true n 3 (List.take (Tryd.prog.cellsOf 3) (List.drop 9 [c0, c1, c2, c3, c4, c5, c6, c7, c8, c9])) = some x9 := hall 9 _ rfl
      simp only [cellsB1, cellsI1, cellsS1, List.drop_succ_cons, List.take_succ_cons, List.take_zero, List.drop_zero] at f0 f1 f2 f3 f4 f5 f6 f7 f8 f9
      have hw : ∀ {j : Nat} {t : TypeId} {y : DataW H}, [9, 9, 4, 3, 3, 3, 3, 3, 3, 3][j]? = some t → [x0.1, x1.1, x2.1, x3.1, x4.1, x5.1, x6.1, x7.1, x8.1, x9.1][j]? = some y → ∀ x ∈ y.weights Tryd.prog t, x ≤ reachBytes := by
        intro j t y ht hy x hxx
        apply hz
        subst hd
        rw [DataW.weights, Tryd.underlying133]
        exact DataW.weights_mem_each ht hy x hxx
      obtain ⟨i0, e0, w0⟩ := elem_string (P := Tryd.prog) Tryd.underlying9 n [c0] x0.1 x0.2 f0 (hw (j := 0) rfl rfl)
      obtain ⟨i1, e1, w1⟩ := elem_string (P := Tryd.prog) Tryd.underlying9 n [c1] x1.1 x1.2 f1 (hw (j := 1) rfl rfl)
      obtain ⟨i2, e2, _⟩ := DataW.trod_bool Tryd.underlying4 f2
      obtain ⟨i3, e3, _, w3⟩ := DataW.trod_int Tryd.underlying3 f3
      obtain ⟨i4, e4, _, w4⟩ := DataW.trod_int Tryd.underlying3 f4
      obtain ⟨i5, e5, _, w5⟩ := DataW.trod_int Tryd.underlying3 f5
      obtain ⟨i6, e6, _, w6⟩ := DataW.trod_int Tryd.underlying3 f6
      obtain ⟨i7, e7, _, w7⟩ := DataW.trod_int Tryd.underlying3 f7
      obtain ⟨i8, e8, _, w8⟩ := DataW.trod_int Tryd.underlying3 f8
      obtain ⟨i9, e9, _, w9⟩ := DataW.trod_int Tryd.underlying3 f9
      simp only [List.cons.injEq, and_true] at e0 e1 e2 e3 e4 e5 e6 e7 e8 e9
      subst e0 e1 e2 e3 e4 e5 e6 e7 e8 e9
      exact ⟨⟨i0, i1, i2, i3, i4, i5, i6, i7, i8, i9⟩, rfl, ⟨w0, w1, wfI w3, wfI w4, wfI w5, wfI w6, wfI w7, wfI w8, wfI w9⟩⟩

theorem row_Sym {W : World} (fuel : Nat) (cs : List Value) (d : DataW H) (p : List MemPlace) (h : DataW.trod enc Tryd.prog W 0 (fun _ => true) true fuel 33 cs = some (d, p)) (hz : ∀ x ∈ d.weights Tryd.prog 33, x ≤ reachBytes) :
    ∃ (v : Value) (xs : List Sym), cs = [v] ∧ Rw 10 Sym.E W v xs ∧ lenR xs.length ∧ ∀ y ∈ xs, Sym.Ok y := by
  obtain ⟨v, xs, hv, h1, h2⟩ := arg_slice_cells (P := Tryd.prog) (m := 10) (fun cs (x : Sym) => Sym.E W cs x ∧ Sym.Ok x) Tryd.underlying33 cellsSym (by decide) elem_Sym h hz
  have hb : 1 ≤ Tryd.prog.bytesOf 133 := by rw [show Tryd.prog.bytesOf 133 = 96 from by kernel_rfl]; decide
  have hr : reachBytes = 140737488351232 := by decide
  obtain ⟨h3, h4⟩ := rw_of_slice h1
  exact ⟨v, xs, hv, h3, by unfold lenR; have := Nat.mul_le_mul_left xs.length hb; omega, h4⟩

structure ArgSyms (W : World) (v : Value) (l : List Sym) : Prop where
  row : Rw 10 Sym.E W v l
  len : lenR l.length
  ok : ∀ x ∈ l, x.Ok
theorem args_Syms {base : Nat} {W : World} {v : Value} {d : DataW H} {p : List MemPlace} (hval : Value.okWide Tryd.prog W .any base 33 v) (h : DataW.Trod enc Tryd.prog W 0 (fun _ => true) true 33 v d p)
    (hz : ∀ n ∈ d.weights Tryd.prog 33, n ≤ reachBytes) : ∃ l : List Sym, ArgSyms W v l := by
  obtain ⟨a0, len, cap, rfl⟩ := okWide_slice Tryd.underlying33 hval
  obtain ⟨fuel, hf⟩ := h
  obtain ⟨v, xs, hv, h1, h2, h3⟩ := row_Sym fuel _ d p hf hz
  have e : Value.slice a0 len cap = v := by have : [Value.slice a0 len cap] = [v] := hv; exact List.head_eq_of_cons_eq this
  exact ⟨xs, e ▸ h1, h2, h3⟩

theorem cellsRel : Tryd.prog.cellsOf 70 = 5 := by kernel_rfl
theorem elem_Rel {W : World} (fuel : Nat) (cs : List Value) (d : DataW H) (p : List MemPlace) (h : DataW.trod enc Tryd.prog W 0 (fun _ => true) true fuel 70 cs = some (d, p)) (hz : ∀ x ∈ d.weights Tryd.prog 70, x ≤ reachBytes) :
    ∃ a : Rel, Rel.E W cs a ∧ a.Ok := by
  obtain ⟨xs, n, rfl, hx, hl, hxl, hall⟩ := DataW.trod_struct Tryd.underlying70 h
  rw [cellsRel] at hl
  match cs, hl with
  | [c0, c1, c2, c3, c4], _ =>
    have hxl' : xs.length = 5 := hxl
    match xs, hxl' with
    | [x0, x1, x2, x3, x4], _ =>
      injection hx with hd _
      have f0 : DataW.trod enc Tryd.prog W 0 (fun _ => true) true n 3 (List.take (Tryd.prog.cellsOf 3) (List.drop 0 [c0, c1, c2, c3, c4])) = some x0 := hall 0 _ rfl
      have f1 : DataW.trod enc Tryd.prog W 0 (fun _ => true) true n 3 (List.take (Tryd.prog.cellsOf 3) (List.drop 1 [c0, c1, c2, c3, c4])) = some x1 := hall 1 _ rfl
      have f2 : DataW.trod enc Tryd.prog W 0 (fun _ => true) true n 3 (List.take (Tryd.prog.cellsOf 3) (List.drop 2 [c0, c1, c2, c3, c4])) = some x2 := hall 2 _ rfl
      have f3 : DataW.trod enc Tryd.prog W 0 (fun _ => true) true n 3 (List.take (Tryd.prog.cellsOf 3) (List.drop 3 [c0, c1, c2, c3, c4])) = some x3 := hall 3 _ rfl
      have f4 : DataW.trod enc Tryd.prog W 0 (fun _ => true) true n 3 (List.take (Tryd.prog.cellsOf 3) (List.drop 4 [c0, c1, c2, c3, c4])) = some x4 := hall 4 _ rfl
      simp only [cellsI1, List.drop_succ_cons, List.take_succ_cons, List.take_zero, List.drop_zero] at f0 f1 f2 f3 f4
      have hw : ∀ {j : Nat} {t : TypeId} {y : DataW H}, [3, 3, 3, 3, 3][j]? = some t → [x0.1, x1.1, x2.1, x3.1, x4.1][j]? = some y → ∀ x ∈ y.weights Tryd.prog t, x ≤ reachBytes := by
        intro j t y ht hy x hxx
        apply hz
        subst hd
        rw [DataW.weights, Tryd.underlying70]
        exact DataW.weights_mem_each ht hy x hxx
      obtain ⟨i0, e0, _, w0⟩ := DataW.trod_int Tryd.underlying3 f0
      obtain ⟨i1, e1, _, w1⟩ := DataW.trod_int Tryd.underlying3 f1
      obtain ⟨i2, e2, _, w2⟩ := DataW.trod_int Tryd.underlying3 f2
      obtain ⟨i3, e3, _, w3⟩ := DataW.trod_int Tryd.underlying3 f3
      obtain ⟨i4, e4, _, w4⟩ := DataW.trod_int Tryd.underlying3 f4
      simp only [List.cons.injEq, and_true] at e0 e1 e2 e3 e4
      subst e0 e1 e2 e3 e4
      exact ⟨⟨i0, i1, i2, i3, i4⟩, rfl, ⟨wfI w0, wfI w1, wfI w2, wfI w3, wfI w4⟩⟩

theorem row_Rel {W : World} (fuel : Nat) (cs : List Value) (d : DataW H) (p : List MemPlace) (h : DataW.trod enc Tryd.prog W 0 (fun _ => true) true fuel 34 cs = some (d, p)) (hz : ∀ x ∈ d.weights Tryd.prog 34, x ≤ reachBytes) :
    ∃ (v : Value) (xs : List Rel), cs = [v] ∧ Rw 5 Rel.E W v xs ∧ lenR xs.length ∧ ∀ y ∈ xs, Rel.Ok y := by
  obtain ⟨v, xs, hv, h1, h2⟩ := arg_slice_cells (P := Tryd.prog) (m := 5) (fun cs (x : Rel) => Rel.E W cs x ∧ Rel.Ok x) Tryd.underlying34 cellsRel (by decide) elem_Rel h hz
  have hb : 1 ≤ Tryd.prog.bytesOf 70 := by rw [show Tryd.prog.bytesOf 70 = 40 from by kernel_rfl]; decide
  have hr : reachBytes = 140737488351232 := by decide
  obtain ⟨h3, h4⟩ := rw_of_slice h1
  exact ⟨v, xs, hv, h3, by unfold lenR; have := Nat.mul_le_mul_left xs.length hb; omega, h4⟩

structure ArgRels (W : World) (v : Value) (l : List Rel) : Prop where
  row : Rw 5 Rel.E W v l
  len : lenR l.length
  ok : ∀ x ∈ l, x.Ok
theorem args_Rels {base : Nat} {W : World} {v : Value} {d : DataW H} {p : List MemPlace} (hval : Value.okWide Tryd.prog W .any base 34 v) (h : DataW.Trod enc Tryd.prog W 0 (fun _ => true) true 34 v d p)
    (hz : ∀ n ∈ d.weights Tryd.prog 34, n ≤ reachBytes) : ∃ l : List Rel, ArgRels W v l := by
  obtain ⟨a0, len, cap, rfl⟩ := okWide_slice Tryd.underlying34 hval
  obtain ⟨fuel, hf⟩ := h
  obtain ⟨v, xs, hv, h1, h2, h3⟩ := row_Rel fuel _ d p hf hz
  have e : Value.slice a0 len cap = v := by have : [Value.slice a0 len cap] = [v] := hv; exact List.head_eq_of_cons_eq this
  exact ⟨xs, e ▸ h1, h2, h3⟩

theorem row_int {W : World} (fuel : Nat) (cs : List Value) (d : DataW H) (p : List MemPlace) (h : DataW.trod enc Tryd.prog W 0 (fun _ => true) true fuel 45 cs = some (d, p)) (hz : ∀ x ∈ d.weights Tryd.prog 45, x ≤ reachBytes) :
    ∃ (v : Value) (xs : List Int), cs = [v] ∧ Rw 1 intE W v xs ∧ lenR xs.length ∧ ∀ y ∈ xs, I64 y := by
  obtain ⟨v, xs, hv, h1, h2⟩ := arg_slice_cells (P := Tryd.prog) (m := 1) (fun cs (x : Int) => intE W cs x ∧ I64 x) Tryd.underlying45 cellsI1 (by decide) (fun fuel cs d p h hz => by obtain ⟨x, e, w⟩ := elem_int (P := Tryd.prog) Tryd.underlying3 fuel cs d p h hz; exact ⟨x, e, wfI w⟩) h hz
  have hb : 1 ≤ Tryd.prog.bytesOf 3 := by rw [show Tryd.prog.bytesOf 3 = 8 from by kernel_rfl]; decide
  have hr : reachBytes = 140737488351232 := by decide
  obtain ⟨h3, h4⟩ := rw_of_slice h1
  exact ⟨v, xs, hv, h3, by unfold lenR; have := Nat.mul_le_mul_left xs.length hb; omega, h4⟩

theorem cellsGrp : Tryd.prog.cellsOf 47 = 2 := by kernel_rfl
theorem elem_Grp {W : World} (fuel : Nat) (cs : List Value) (d : DataW H) (p : List MemPlace) (h : DataW.trod enc Tryd.prog W 0 (fun _ => true) true fuel 47 cs = some (d, p)) (hz : ∀ x ∈ d.weights Tryd.prog 47, x ≤ reachBytes) :
    ∃ a : Grp, Grp.E W cs a ∧ a.Ok := by
  obtain ⟨xs, n, rfl, hx, hl, hxl, hall⟩ := DataW.trod_struct Tryd.underlying47 h
  rw [cellsGrp] at hl
  match cs, hl with
  | [c0, c1], _ =>
    have hxl' : xs.length = 2 := hxl
    match xs, hxl' with
    | [x0, x1], _ =>
      injection hx with hd _
      have f0 : DataW.trod enc Tryd.prog W 0 (fun _ => true) true n 9 (List.take (Tryd.prog.cellsOf 9) (List.drop 0 [c0, c1])) = some x0 := hall 0 _ rfl
      have f1 : DataW.trod enc Tryd.prog W 0 (fun _ => true) true n 45 (List.take (Tryd.prog.cellsOf 45) (List.drop 1 [c0, c1])) = some x1 := hall 1 _ rfl
      have cellsLint : Tryd.prog.cellsOf 45 = 1 := by kernel_rfl
      simp only [cellsLint, cellsS1, List.drop_succ_cons, List.take_succ_cons, List.take_zero, List.drop_zero] at f0 f1
      have hw : ∀ {j : Nat} {t : TypeId} {y : DataW H}, [9, 45][j]? = some t → [x0.1, x1.1][j]? = some y → ∀ x ∈ y.weights Tryd.prog t, x ≤ reachBytes := by
        intro j t y ht hy x hxx
        apply hz
        subst hd
        rw [DataW.weights, Tryd.underlying47]
        exact DataW.weights_mem_each ht hy x hxx
      obtain ⟨i0, e0, w0⟩ := elem_string (P := Tryd.prog) Tryd.underlying9 n [c0] x0.1 x0.2 f0 (hw (j := 0) rfl rfl)
      obtain ⟨v1, i1, e1, r1, w1, q1⟩ := row_int n [c1] x1.1 x1.2 f1 (hw (j := 1) rfl rfl)
      simp only [List.cons.injEq, and_true] at e0 e1
      subst e0 e1
      exact ⟨⟨i0, i1⟩, ⟨c1, rfl, ⟨r1⟩⟩, ⟨w0, w1, q1⟩⟩

theorem row_Grp {W : World} (fuel : Nat) (cs : List Value) (d : DataW H) (p : List MemPlace) (h : DataW.trod enc Tryd.prog W 0 (fun _ => true) true fuel 35 cs = some (d, p)) (hz : ∀ x ∈ d.weights Tryd.prog 35, x ≤ reachBytes) :
    ∃ (v : Value) (xs : List Grp), cs = [v] ∧ Rw 2 Grp.E W v xs ∧ lenR xs.length ∧ ∀ y ∈ xs, Grp.Ok y := by
  obtain ⟨v, xs, hv, h1, h2⟩ := arg_slice_cells (P := Tryd.prog) (m := 2) (fun cs (x : Grp) => Grp.E W cs x ∧ Grp.Ok x) Tryd.underlying35 cellsGrp (by decide) elem_Grp h hz
  have hb : 1 ≤ Tryd.prog.bytesOf 47 := by rw [show Tryd.prog.bytesOf 47 = 40 from by kernel_rfl]; decide
  have hr : reachBytes = 140737488351232 := by decide
  obtain ⟨h3, h4⟩ := rw_of_slice h1
  exact ⟨v, xs, hv, h3, by unfold lenR; have := Nat.mul_le_mul_left xs.length hb; omega, h4⟩

structure ArgGrps (W : World) (v : Value) (l : List Grp) : Prop where
  row : Rw 2 Grp.E W v l
  len : lenR l.length
  ok : ∀ x ∈ l, x.Ok
theorem args_Grps {base : Nat} {W : World} {v : Value} {d : DataW H} {p : List MemPlace} (hval : Value.okWide Tryd.prog W .any base 35 v) (h : DataW.Trod enc Tryd.prog W 0 (fun _ => true) true 35 v d p)
    (hz : ∀ n ∈ d.weights Tryd.prog 35, n ≤ reachBytes) : ∃ l : List Grp, ArgGrps W v l := by
  obtain ⟨a0, len, cap, rfl⟩ := okWide_slice Tryd.underlying35 hval
  obtain ⟨fuel, hf⟩ := h
  obtain ⟨v, xs, hv, h1, h2, h3⟩ := row_Grp fuel _ d p hf hz
  have e : Value.slice a0 len cap = v := by have : [Value.slice a0 len cap] = [v] := hv; exact List.head_eq_of_cons_eq this
  exact ⟨xs, e ▸ h1, h2, h3⟩
structure ArgGrp (W : World) (v : Value) (x : Grp) : Prop where
  is : ∃ cs, v = .agg cs.toArray ∧ Grp.E W cs x
  ok : x.Ok
theorem args_Grp {base : Nat} {W : World} {v : Value} {d : DataW H} {p : List MemPlace} (hval : Value.okWide Tryd.prog W .any base 47 v) (h : DataW.Trod enc Tryd.prog W 0 (fun _ => true) true 47 v d p)
    (hz : ∀ n ∈ d.weights Tryd.prog 47, n ≤ reachBytes) : ∃ x : Grp, ArgGrp W v x := by
  obtain ⟨cs, rfl, _⟩ := okWide_struct Tryd.underlying47 hval
  obtain ⟨fuel, hf⟩ := h
  obtain ⟨a, hE, hok⟩ := elem_Grp fuel _ d p hf hz
  exact ⟨a, ⟨cs.toList, by simp, hE⟩, hok⟩

theorem cellsIni : Tryd.prog.cellsOf 135 = 3 := by kernel_rfl
theorem elem_Ini {W : World} (fuel : Nat) (cs : List Value) (d : DataW H) (p : List MemPlace) (h : DataW.trod enc Tryd.prog W 0 (fun _ => true) true fuel 135 cs = some (d, p)) (hz : ∀ x ∈ d.weights Tryd.prog 135, x ≤ reachBytes) :
    ∃ a : Ini, Ini.E W cs a ∧ a.Ok := by
  obtain ⟨xs, n, rfl, hx, hl, hxl, hall⟩ := DataW.trod_struct Tryd.underlying135 h
  rw [cellsIni] at hl
  match cs, hl with
  | [c0, c1, c2], _ =>
    have hxl' : xs.length = 3 := hxl
    match xs, hxl' with
    | [x0, x1, x2], _ =>
      injection hx with hd _
      have f0 : DataW.trod enc Tryd.prog W 0 (fun _ => true) true n 3 (List.take (Tryd.prog.cellsOf 3) (List.drop 0 [c0, c1, c2])) = some x0 := hall 0 _ rfl
      have f1 : DataW.trod enc Tryd.prog W 0 (fun _ => true) true n 3 (List.take (Tryd.prog.cellsOf 3) (List.drop 1 [c0, c1, c2])) = some x1 := hall 1 _ rfl
      have f2 : DataW.trod enc Tryd.prog W 0 (fun _ => true) true n 4 (List.take (Tryd.prog.cellsOf 4) (List.drop 2 [c0, c1, c2])) = some x2 := hall 2 _ rfl
      simp only [cellsB1, cellsI1, List.drop_succ_cons, List.take_succ_cons, List.take_zero, List.drop_zero] at f0 f1 f2
      have hw : ∀ {j : Nat} {t : TypeId} {y : DataW H}, [3, 3, 4][j]? = some t → [x0.1, x1.1, x2.1][j]? = some y → ∀ x ∈ y.weights Tryd.prog t, x ≤ reachBytes := by
        intro j t y ht hy x hxx
        apply hz
        subst hd
        rw [DataW.weights, Tryd.underlying135]
        exact DataW.weights_mem_each ht hy x hxx
      obtain ⟨i0, e0, _, w0⟩ := DataW.trod_int Tryd.underlying3 f0
      obtain ⟨i1, e1, _, w1⟩ := DataW.trod_int Tryd.underlying3 f1
      obtain ⟨i2, e2, _⟩ := DataW.trod_bool Tryd.underlying4 f2
      simp only [List.cons.injEq, and_true] at e0 e1 e2
      subst e0 e1 e2
      exact ⟨⟨i0, i1, i2⟩, rfl, ⟨wfI w0, wfI w1⟩⟩

theorem row_Ini {W : World} (fuel : Nat) (cs : List Value) (d : DataW H) (p : List MemPlace) (h : DataW.trod enc Tryd.prog W 0 (fun _ => true) true fuel 36 cs = some (d, p)) (hz : ∀ x ∈ d.weights Tryd.prog 36, x ≤ reachBytes) :
    ∃ (v : Value) (xs : List Ini), cs = [v] ∧ Rw 3 Ini.E W v xs ∧ lenR xs.length ∧ ∀ y ∈ xs, Ini.Ok y := by
  obtain ⟨v, xs, hv, h1, h2⟩ := arg_slice_cells (P := Tryd.prog) (m := 3) (fun cs (x : Ini) => Ini.E W cs x ∧ Ini.Ok x) Tryd.underlying36 cellsIni (by decide) elem_Ini h hz
  have hb : 1 ≤ Tryd.prog.bytesOf 135 := by rw [show Tryd.prog.bytesOf 135 = 24 from by kernel_rfl]; decide
  have hr : reachBytes = 140737488351232 := by decide
  obtain ⟨h3, h4⟩ := rw_of_slice h1
  exact ⟨v, xs, hv, h3, by unfold lenR; have := Nat.mul_le_mul_left xs.length hb; omega, h4⟩

structure ArgInis (W : World) (v : Value) (l : List Ini) : Prop where
  row : Rw 3 Ini.E W v l
  len : lenR l.length
  ok : ∀ x ∈ l, x.Ok
theorem args_Inis {base : Nat} {W : World} {v : Value} {d : DataW H} {p : List MemPlace} (hval : Value.okWide Tryd.prog W .any base 36 v) (h : DataW.Trod enc Tryd.prog W 0 (fun _ => true) true 36 v d p)
    (hz : ∀ n ∈ d.weights Tryd.prog 36, n ≤ reachBytes) : ∃ l : List Ini, ArgInis W v l := by
  obtain ⟨a0, len, cap, rfl⟩ := okWide_slice Tryd.underlying36 hval
  obtain ⟨fuel, hf⟩ := h
  obtain ⟨v, xs, hv, h1, h2, h3⟩ := row_Ini fuel _ d p hf hz
  have e : Value.slice a0 len cap = v := by have : [Value.slice a0 len cap] = [v] := hv; exact List.head_eq_of_cons_eq this
  exact ⟨xs, e ▸ h1, h2, h3⟩

theorem cellsLne : Tryd.prog.cellsOf 137 = 4 := by kernel_rfl
theorem elem_Lne {W : World} (fuel : Nat) (cs : List Value) (d : DataW H) (p : List MemPlace) (h : DataW.trod enc Tryd.prog W 0 (fun _ => true) true fuel 137 cs = some (d, p)) (hz : ∀ x ∈ d.weights Tryd.prog 137, x ≤ reachBytes) :
    ∃ a : Lne, Lne.E W cs a ∧ a.Ok := by
  obtain ⟨xs, n, rfl, hx, hl, hxl, hall⟩ := DataW.trod_struct Tryd.underlying137 h
  rw [cellsLne] at hl
  match cs, hl with
  | [c0, c1, c2, c3], _ =>
    have hxl' : xs.length = 4 := hxl
    match xs, hxl' with
    | [x0, x1, x2, x3], _ =>
      injection hx with hd _
      have f0 : DataW.trod enc Tryd.prog W 0 (fun _ => true) true n 3 (List.take (Tryd.prog.cellsOf 3) (List.drop 0 [c0, c1, c2, c3])) = some x0 := hall 0 _ rfl
      have f1 : DataW.trod enc Tryd.prog W 0 (fun _ => true) true n 3 (List.take (Tryd.prog.cellsOf 3) (List.drop 1 [c0, c1, c2, c3])) = some x1 := hall 1 _ rfl
      have f2 : DataW.trod enc Tryd.prog W 0 (fun _ => true) true n 9 (List.take (Tryd.prog.cellsOf 9) (List.drop 2 [c0, c1, c2, c3])) = some x2 := hall 2 _ rfl
      have f3 : DataW.trod enc Tryd.prog W 0 (fun _ => true) true n 3 (List.take (Tryd.prog.cellsOf 3) (List.drop 3 [c0, c1, c2, c3])) = some x3 := hall 3 _ rfl
      simp only [cellsI1, cellsS1, List.drop_succ_cons, List.take_succ_cons, List.take_zero, List.drop_zero] at f0 f1 f2 f3
      have hw : ∀ {j : Nat} {t : TypeId} {y : DataW H}, [3, 3, 9, 3][j]? = some t → [x0.1, x1.1, x2.1, x3.1][j]? = some y → ∀ x ∈ y.weights Tryd.prog t, x ≤ reachBytes := by
        intro j t y ht hy x hxx
        apply hz
        subst hd
        rw [DataW.weights, Tryd.underlying137]
        exact DataW.weights_mem_each ht hy x hxx
      obtain ⟨i0, e0, _, w0⟩ := DataW.trod_int Tryd.underlying3 f0
      obtain ⟨i1, e1, _, w1⟩ := DataW.trod_int Tryd.underlying3 f1
      obtain ⟨i2, e2, w2⟩ := elem_string (P := Tryd.prog) Tryd.underlying9 n [c2] x2.1 x2.2 f2 (hw (j := 2) rfl rfl)
      obtain ⟨i3, e3, _, w3⟩ := DataW.trod_int Tryd.underlying3 f3
      simp only [List.cons.injEq, and_true] at e0 e1 e2 e3
      subst e0 e1 e2 e3
      exact ⟨⟨i0, i1, i2, i3⟩, rfl, ⟨wfI w0, wfI w1, w2, wfI w3⟩⟩

theorem row_Lne {W : World} (fuel : Nat) (cs : List Value) (d : DataW H) (p : List MemPlace) (h : DataW.trod enc Tryd.prog W 0 (fun _ => true) true fuel 37 cs = some (d, p)) (hz : ∀ x ∈ d.weights Tryd.prog 37, x ≤ reachBytes) :
    ∃ (v : Value) (xs : List Lne), cs = [v] ∧ Rw 4 Lne.E W v xs ∧ lenR xs.length ∧ ∀ y ∈ xs, Lne.Ok y := by
  obtain ⟨v, xs, hv, h1, h2⟩ := arg_slice_cells (P := Tryd.prog) (m := 4) (fun cs (x : Lne) => Lne.E W cs x ∧ Lne.Ok x) Tryd.underlying37 cellsLne (by decide) elem_Lne h hz
  have hb : 1 ≤ Tryd.prog.bytesOf 137 := by rw [show Tryd.prog.bytesOf 137 = 40 from by kernel_rfl]; decide
  have hr : reachBytes = 140737488351232 := by decide
  obtain ⟨h3, h4⟩ := rw_of_slice h1
  exact ⟨v, xs, hv, h3, by unfold lenR; have := Nat.mul_le_mul_left xs.length hb; omega, h4⟩

structure ArgLnes (W : World) (v : Value) (l : List Lne) : Prop where
  row : Rw 4 Lne.E W v l
  len : lenR l.length
  ok : ∀ x ∈ l, x.Ok
theorem args_Lnes {base : Nat} {W : World} {v : Value} {d : DataW H} {p : List MemPlace} (hval : Value.okWide Tryd.prog W .any base 37 v) (h : DataW.Trod enc Tryd.prog W 0 (fun _ => true) true 37 v d p)
    (hz : ∀ n ∈ d.weights Tryd.prog 37, n ≤ reachBytes) : ∃ l : List Lne, ArgLnes W v l := by
  obtain ⟨a0, len, cap, rfl⟩ := okWide_slice Tryd.underlying37 hval
  obtain ⟨fuel, hf⟩ := h
  obtain ⟨v, xs, hv, h1, h2, h3⟩ := row_Lne fuel _ d p hf hz
  have e : Value.slice a0 len cap = v := by have : [Value.slice a0 len cap] = [v] := hv; exact List.head_eq_of_cons_eq this
  exact ⟨xs, e ▸ h1, h2, h3⟩

theorem cellsInl : Tryd.prog.cellsOf 139 = 6 := by kernel_rfl
theorem elem_Inl {W : World} (fuel : Nat) (cs : List Value) (d : DataW H) (p : List MemPlace) (h : DataW.trod enc Tryd.prog W 0 (fun _ => true) true fuel 139 cs = some (d, p)) (hz : ∀ x ∈ d.weights Tryd.prog 139, x ≤ reachBytes) :
    ∃ a : Inl, Inl.E W cs a ∧ a.Ok := by
  obtain ⟨xs, n, rfl, hx, hl, hxl, hall⟩ := DataW.trod_struct Tryd.underlying139 h
  rw [cellsInl] at hl
  match cs, hl with
  | [c0, c1, c2, c3, c4, c5], _ =>
    have hxl' : xs.length = 6 := hxl
    match xs, hxl' with
    | [x0, x1, x2, x3, x4, x5], _ =>
      injection hx with hd _
      have f0 : DataW.trod enc Tryd.prog W 0 (fun _ => true) true n 3 (List.take (Tryd.prog.cellsOf 3) (List.drop 0 [c0, c1, c2, c3, c4, c5])) = some x0 := hall 0 _ rfl
      have f1 : DataW.trod enc Tryd.prog W 0 (fun _ => true) true n 3 (List.take (Tryd.prog.cellsOf 3) (List.drop 1 [c0, c1, c2, c3, c4, c5])) = some x1 := hall 1 _ rfl
      have f2 : DataW.trod enc Tryd.prog W 0 (fun _ => true) true n 3 (List.take (Tryd.prog.cellsOf 3) (List.drop 2 [c0, c1, c2, c3, c4, c5])) = some x2 := hall 2 _ rfl
      have f3 : DataW.trod enc Tryd.prog W 0 (fun _ => true) true n 9 (List.take (Tryd.prog.cellsOf 9) (List.drop 3 [c0, c1, c2, c3, c4, c5])) = some x3 := hall 3 _ rfl
      have f4 : DataW.trod enc Tryd.prog W 0 (fun _ => true) true n 9 (List.take (Tryd.prog.cellsOf 9) (List.drop 4 [c0, c1, c2, c3, c4, c5])) = some x4 := hall 4 _ rfl
      have f5 : DataW.trod enc Tryd.prog W 0 (fun _ => true) true n 3 (List.take (Tryd.prog.cellsOf 3) (List.drop 5 [c0, c1, c2, c3, c4, c5])) = some x5 := hall 5 _ rfl
      simp only [cellsI1, cellsS1, List.drop_succ_cons, List.take_succ_cons, List.take_zero, List.drop_zero] at f0 f1 f2 f3 f4 f5
      have hw : ∀ {j : Nat} {t : TypeId} {y : DataW H}, [3, 3, 3, 9, 9, 3][j]? = some t → [x0.1, x1.1, x2.1, x3.1, x4.1, x5.1][j]? = some y → ∀ x ∈ y.weights Tryd.prog t, x ≤ reachBytes := by
        intro j t y ht hy x hxx
        apply hz
        subst hd
        rw [DataW.weights, Tryd.underlying139]
        exact DataW.weights_mem_each ht hy x hxx
      obtain ⟨i0, e0, _, w0⟩ := DataW.trod_int Tryd.underlying3 f0
      obtain ⟨i1, e1, _, w1⟩ := DataW.trod_int Tryd.underlying3 f1
      obtain ⟨i2, e2, _, w2⟩ := DataW.trod_int Tryd.underlying3 f2
      obtain ⟨i3, e3, w3⟩ := elem_string (P := Tryd.prog) Tryd.underlying9 n [c3] x3.1 x3.2 f3 (hw (j := 3) rfl rfl)
      obtain ⟨i4, e4, w4⟩ := elem_string (P := Tryd.prog) Tryd.underlying9 n [c4] x4.1 x4.2 f4 (hw (j := 4) rfl rfl)
      obtain ⟨i5, e5, _, w5⟩ := DataW.trod_int Tryd.underlying3 f5
      simp only [List.cons.injEq, and_true] at e0 e1 e2 e3 e4 e5
      subst e0 e1 e2 e3 e4 e5
      exact ⟨⟨i0, i1, i2, i3, i4, i5⟩, rfl, ⟨wfI w0, wfI w1, wfI w2, w3, w4, wfI w5⟩⟩

theorem row_Inl {W : World} (fuel : Nat) (cs : List Value) (d : DataW H) (p : List MemPlace) (h : DataW.trod enc Tryd.prog W 0 (fun _ => true) true fuel 38 cs = some (d, p)) (hz : ∀ x ∈ d.weights Tryd.prog 38, x ≤ reachBytes) :
    ∃ (v : Value) (xs : List Inl), cs = [v] ∧ Rw 6 Inl.E W v xs ∧ lenR xs.length ∧ ∀ y ∈ xs, Inl.Ok y := by
  obtain ⟨v, xs, hv, h1, h2⟩ := arg_slice_cells (P := Tryd.prog) (m := 6) (fun cs (x : Inl) => Inl.E W cs x ∧ Inl.Ok x) Tryd.underlying38 cellsInl (by decide) elem_Inl h hz
  have hb : 1 ≤ Tryd.prog.bytesOf 139 := by rw [show Tryd.prog.bytesOf 139 = 64 from by kernel_rfl]; decide
  have hr : reachBytes = 140737488351232 := by decide
  obtain ⟨h3, h4⟩ := rw_of_slice h1
  exact ⟨v, xs, hv, h3, by unfold lenR; have := Nat.mul_le_mul_left xs.length hb; omega, h4⟩

structure ArgInls (W : World) (v : Value) (l : List Inl) : Prop where
  row : Rw 6 Inl.E W v l
  len : lenR l.length
  ok : ∀ x ∈ l, x.Ok
theorem args_Inls {base : Nat} {W : World} {v : Value} {d : DataW H} {p : List MemPlace} (hval : Value.okWide Tryd.prog W .any base 38 v) (h : DataW.Trod enc Tryd.prog W 0 (fun _ => true) true 38 v d p)
    (hz : ∀ n ∈ d.weights Tryd.prog 38, n ≤ reachBytes) : ∃ l : List Inl, ArgInls W v l := by
  obtain ⟨a0, len, cap, rfl⟩ := okWide_slice Tryd.underlying38 hval
  obtain ⟨fuel, hf⟩ := h
  obtain ⟨v, xs, hv, h1, h2, h3⟩ := row_Inl fuel _ d p hf hz
  have e : Value.slice a0 len cap = v := by have : [Value.slice a0 len cap] = [v] := hv; exact List.head_eq_of_cons_eq this
  exact ⟨xs, e ▸ h1, h2, h3⟩

theorem cellsVrr : Tryd.prog.cellsOf 141 = 6 := by kernel_rfl
theorem elem_Vrr {W : World} (fuel : Nat) (cs : List Value) (d : DataW H) (p : List MemPlace) (h : DataW.trod enc Tryd.prog W 0 (fun _ => true) true fuel 141 cs = some (d, p)) (hz : ∀ x ∈ d.weights Tryd.prog 141, x ≤ reachBytes) :
    ∃ a : Vrr, Vrr.E W cs a ∧ a.Ok := by
  obtain ⟨xs, n, rfl, hx, hl, hxl, hall⟩ := DataW.trod_struct Tryd.underlying141 h
  rw [cellsVrr] at hl
  match cs, hl with
  | [c0, c1, c2, c3, c4, c5], _ =>
    have hxl' : xs.length = 6 := hxl
    match xs, hxl' with
    | [x0, x1, x2, x3, x4, x5], _ =>
      injection hx with hd _
      have f0 : DataW.trod enc Tryd.prog W 0 (fun _ => true) true n 3 (List.take (Tryd.prog.cellsOf 3) (List.drop 0 [c0, c1, c2, c3, c4, c5])) = some x0 := hall 0 _ rfl
      have f1 : DataW.trod enc Tryd.prog W 0 (fun _ => true) true n 3 (List.take (Tryd.prog.cellsOf 3) (List.drop 1 [c0, c1, c2, c3, c4, c5])) = some x1 := hall 1 _ rfl
      have f2 : DataW.trod enc Tryd.prog W 0 (fun _ => true) true n 3 (List.take (Tryd.prog.cellsOf 3) (List.drop 2 [c0, c1, c2, c3, c4, c5])) = some x2 := hall 2 _ rfl
      have f3 : DataW.trod enc Tryd.prog W 0 (fun _ => true) true n 9 (List.take (Tryd.prog.cellsOf 9) (List.drop 3 [c0, c1, c2, c3, c4, c5])) = some x3 := hall 3 _ rfl
      have f4 : DataW.trod enc Tryd.prog W 0 (fun _ => true) true n 3 (List.take (Tryd.prog.cellsOf 3) (List.drop 4 [c0, c1, c2, c3, c4, c5])) = some x4 := hall 4 _ rfl
      have f5 : DataW.trod enc Tryd.prog W 0 (fun _ => true) true n 3 (List.take (Tryd.prog.cellsOf 3) (List.drop 5 [c0, c1, c2, c3, c4, c5])) = some x5 := hall 5 _ rfl
      simp only [cellsI1, cellsS1, List.drop_succ_cons, List.take_succ_cons, List.take_zero, List.drop_zero] at f0 f1 f2 f3 f4 f5
      have hw : ∀ {j : Nat} {t : TypeId} {y : DataW H}, [3, 3, 3, 9, 3, 3][j]? = some t → [x0.1, x1.1, x2.1, x3.1, x4.1, x5.1][j]? = some y → ∀ x ∈ y.weights Tryd.prog t, x ≤ reachBytes := by
        intro j t y ht hy x hxx
        apply hz
        subst hd
        rw [DataW.weights, Tryd.underlying141]
        exact DataW.weights_mem_each ht hy x hxx
      obtain ⟨i0, e0, _, w0⟩ := DataW.trod_int Tryd.underlying3 f0
      obtain ⟨i1, e1, _, w1⟩ := DataW.trod_int Tryd.underlying3 f1
      obtain ⟨i2, e2, _, w2⟩ := DataW.trod_int Tryd.underlying3 f2
      obtain ⟨i3, e3, w3⟩ := elem_string (P := Tryd.prog) Tryd.underlying9 n [c3] x3.1 x3.2 f3 (hw (j := 3) rfl rfl)
      obtain ⟨i4, e4, _, w4⟩ := DataW.trod_int Tryd.underlying3 f4
      obtain ⟨i5, e5, _, w5⟩ := DataW.trod_int Tryd.underlying3 f5
      simp only [List.cons.injEq, and_true] at e0 e1 e2 e3 e4 e5
      subst e0 e1 e2 e3 e4 e5
      exact ⟨⟨i0, i1, i2, i3, i4, i5⟩, rfl, ⟨wfI w0, wfI w1, wfI w2, w3, wfI w4, wfI w5⟩⟩

theorem row_Vrr {W : World} (fuel : Nat) (cs : List Value) (d : DataW H) (p : List MemPlace) (h : DataW.trod enc Tryd.prog W 0 (fun _ => true) true fuel 39 cs = some (d, p)) (hz : ∀ x ∈ d.weights Tryd.prog 39, x ≤ reachBytes) :
    ∃ (v : Value) (xs : List Vrr), cs = [v] ∧ Rw 6 Vrr.E W v xs ∧ lenR xs.length ∧ ∀ y ∈ xs, Vrr.Ok y := by
  obtain ⟨v, xs, hv, h1, h2⟩ := arg_slice_cells (P := Tryd.prog) (m := 6) (fun cs (x : Vrr) => Vrr.E W cs x ∧ Vrr.Ok x) Tryd.underlying39 cellsVrr (by decide) elem_Vrr h hz
  have hb : 1 ≤ Tryd.prog.bytesOf 141 := by rw [show Tryd.prog.bytesOf 141 = 56 from by kernel_rfl]; decide
  have hr : reachBytes = 140737488351232 := by decide
  obtain ⟨h3, h4⟩ := rw_of_slice h1
  exact ⟨v, xs, hv, h3, by unfold lenR; have := Nat.mul_le_mul_left xs.length hb; omega, h4⟩

structure ArgVrrs (W : World) (v : Value) (l : List Vrr) : Prop where
  row : Rw 6 Vrr.E W v l
  len : lenR l.length
  ok : ∀ x ∈ l, x.Ok
theorem args_Vrrs {base : Nat} {W : World} {v : Value} {d : DataW H} {p : List MemPlace} (hval : Value.okWide Tryd.prog W .any base 39 v) (h : DataW.Trod enc Tryd.prog W 0 (fun _ => true) true 39 v d p)
    (hz : ∀ n ∈ d.weights Tryd.prog 39, n ≤ reachBytes) : ∃ l : List Vrr, ArgVrrs W v l := by
  obtain ⟨a0, len, cap, rfl⟩ := okWide_slice Tryd.underlying39 hval
  obtain ⟨fuel, hf⟩ := h
  obtain ⟨v, xs, hv, h1, h2, h3⟩ := row_Vrr fuel _ d p hf hz
  have e : Value.slice a0 len cap = v := by have : [Value.slice a0 len cap] = [v] := hv; exact List.head_eq_of_cons_eq this
  exact ⟨xs, e ▸ h1, h2, h3⟩

theorem cellsDep : Tryd.prog.cellsOf 143 = 4 := by kernel_rfl
theorem elem_Dep {W : World} (fuel : Nat) (cs : List Value) (d : DataW H) (p : List MemPlace) (h : DataW.trod enc Tryd.prog W 0 (fun _ => true) true fuel 143 cs = some (d, p)) (hz : ∀ x ∈ d.weights Tryd.prog 143, x ≤ reachBytes) :
    ∃ a : Dep, Dep.E W cs a ∧ a.Ok := by
  obtain ⟨xs, n, rfl, hx, hl, hxl, hall⟩ := DataW.trod_struct Tryd.underlying143 h
  rw [cellsDep] at hl
  match cs, hl with
  | [c0, c1, c2, c3], _ =>
    have hxl' : xs.length = 4 := hxl
    match xs, hxl' with
    | [x0, x1, x2, x3], _ =>
      injection hx with hd _
      have f0 : DataW.trod enc Tryd.prog W 0 (fun _ => true) true n 3 (List.take (Tryd.prog.cellsOf 3) (List.drop 0 [c0, c1, c2, c3])) = some x0 := hall 0 _ rfl
      have f1 : DataW.trod enc Tryd.prog W 0 (fun _ => true) true n 3 (List.take (Tryd.prog.cellsOf 3) (List.drop 1 [c0, c1, c2, c3])) = some x1 := hall 1 _ rfl
      have f2 : DataW.trod enc Tryd.prog W 0 (fun _ => true) true n 3 (List.take (Tryd.prog.cellsOf 3) (List.drop 2 [c0, c1, c2, c3])) = some x2 := hall 2 _ rfl
      have f3 : DataW.trod enc Tryd.prog W 0 (fun _ => true) true n 3 (List.take (Tryd.prog.cellsOf 3) (List.drop 3 [c0, c1, c2, c3])) = some x3 := hall 3 _ rfl
      simp only [cellsI1, List.drop_succ_cons, List.take_succ_cons, List.take_zero, List.drop_zero] at f0 f1 f2 f3
      have hw : ∀ {j : Nat} {t : TypeId} {y : DataW H}, [3, 3, 3, 3][j]? = some t → [x0.1, x1.1, x2.1, x3.1][j]? = some y → ∀ x ∈ y.weights Tryd.prog t, x ≤ reachBytes := by
        intro j t y ht hy x hxx
        apply hz
        subst hd
        rw [DataW.weights, Tryd.underlying143]
        exact DataW.weights_mem_each ht hy x hxx
      obtain ⟨i0, e0, _, w0⟩ := DataW.trod_int Tryd.underlying3 f0
      obtain ⟨i1, e1, _, w1⟩ := DataW.trod_int Tryd.underlying3 f1
      obtain ⟨i2, e2, _, w2⟩ := DataW.trod_int Tryd.underlying3 f2
      obtain ⟨i3, e3, _, w3⟩ := DataW.trod_int Tryd.underlying3 f3
      simp only [List.cons.injEq, and_true] at e0 e1 e2 e3
      subst e0 e1 e2 e3
      exact ⟨⟨i0, i1, i2, i3⟩, rfl, ⟨wfI w0, wfI w1, wfI w2, wfI w3⟩⟩

theorem row_Dep {W : World} (fuel : Nat) (cs : List Value) (d : DataW H) (p : List MemPlace) (h : DataW.trod enc Tryd.prog W 0 (fun _ => true) true fuel 40 cs = some (d, p)) (hz : ∀ x ∈ d.weights Tryd.prog 40, x ≤ reachBytes) :
    ∃ (v : Value) (xs : List Dep), cs = [v] ∧ Rw 4 Dep.E W v xs ∧ lenR xs.length ∧ ∀ y ∈ xs, Dep.Ok y := by
  obtain ⟨v, xs, hv, h1, h2⟩ := arg_slice_cells (P := Tryd.prog) (m := 4) (fun cs (x : Dep) => Dep.E W cs x ∧ Dep.Ok x) Tryd.underlying40 cellsDep (by decide) elem_Dep h hz
  have hb : 1 ≤ Tryd.prog.bytesOf 143 := by rw [show Tryd.prog.bytesOf 143 = 32 from by kernel_rfl]; decide
  have hr : reachBytes = 140737488351232 := by decide
  obtain ⟨h3, h4⟩ := rw_of_slice h1
  exact ⟨v, xs, hv, h3, by unfold lenR; have := Nat.mul_le_mul_left xs.length hb; omega, h4⟩

structure ArgDeps (W : World) (v : Value) (l : List Dep) : Prop where
  row : Rw 4 Dep.E W v l
  len : lenR l.length
  ok : ∀ x ∈ l, x.Ok
theorem args_Deps {base : Nat} {W : World} {v : Value} {d : DataW H} {p : List MemPlace} (hval : Value.okWide Tryd.prog W .any base 40 v) (h : DataW.Trod enc Tryd.prog W 0 (fun _ => true) true 40 v d p)
    (hz : ∀ n ∈ d.weights Tryd.prog 40, n ≤ reachBytes) : ∃ l : List Dep, ArgDeps W v l := by
  obtain ⟨a0, len, cap, rfl⟩ := okWide_slice Tryd.underlying40 hval
  obtain ⟨fuel, hf⟩ := h
  obtain ⟨v, xs, hv, h1, h2, h3⟩ := row_Dep fuel _ d p hf hz
  have e : Value.slice a0 len cap = v := by have : [Value.slice a0 len cap] = [v] := hv; exact List.head_eq_of_cons_eq this
  exact ⟨xs, e ▸ h1, h2, h3⟩

theorem cellsPce : Tryd.prog.cellsOf 148 = 3 := by kernel_rfl
theorem elem_Pce {W : World} (fuel : Nat) (cs : List Value) (d : DataW H) (p : List MemPlace) (h : DataW.trod enc Tryd.prog W 0 (fun _ => true) true fuel 148 cs = some (d, p)) (hz : ∀ x ∈ d.weights Tryd.prog 148, x ≤ reachBytes) :
    ∃ a : Pce, Pce.E W cs a ∧ a.Ok := by
  obtain ⟨xs, n, rfl, hx, hl, hxl, hall⟩ := DataW.trod_struct Tryd.underlying148 h
  rw [cellsPce] at hl
  match cs, hl with
  | [c0, c1, c2], _ =>
    have hxl' : xs.length = 3 := hxl
    match xs, hxl' with
    | [x0, x1, x2], _ =>
      injection hx with hd _
      have f0 : DataW.trod enc Tryd.prog W 0 (fun _ => true) true n 3 (List.take (Tryd.prog.cellsOf 3) (List.drop 0 [c0, c1, c2])) = some x0 := hall 0 _ rfl
      have f1 : DataW.trod enc Tryd.prog W 0 (fun _ => true) true n 3 (List.take (Tryd.prog.cellsOf 3) (List.drop 1 [c0, c1, c2])) = some x1 := hall 1 _ rfl
      have f2 : DataW.trod enc Tryd.prog W 0 (fun _ => true) true n 3 (List.take (Tryd.prog.cellsOf 3) (List.drop 2 [c0, c1, c2])) = some x2 := hall 2 _ rfl
      simp only [cellsI1, List.drop_succ_cons, List.take_succ_cons, List.take_zero, List.drop_zero] at f0 f1 f2
      have hw : ∀ {j : Nat} {t : TypeId} {y : DataW H}, [3, 3, 3][j]? = some t → [x0.1, x1.1, x2.1][j]? = some y → ∀ x ∈ y.weights Tryd.prog t, x ≤ reachBytes := by
        intro j t y ht hy x hxx
        apply hz
        subst hd
        rw [DataW.weights, Tryd.underlying148]
        exact DataW.weights_mem_each ht hy x hxx
      obtain ⟨i0, e0, _, w0⟩ := DataW.trod_int Tryd.underlying3 f0
      obtain ⟨i1, e1, _, w1⟩ := DataW.trod_int Tryd.underlying3 f1
      obtain ⟨i2, e2, _, w2⟩ := DataW.trod_int Tryd.underlying3 f2
      simp only [List.cons.injEq, and_true] at e0 e1 e2
      subst e0 e1 e2
      exact ⟨⟨i0, i1, i2⟩, rfl, ⟨wfI w0, wfI w1, wfI w2⟩⟩

theorem row_Pce {W : World} (fuel : Nat) (cs : List Value) (d : DataW H) (p : List MemPlace) (h : DataW.trod enc Tryd.prog W 0 (fun _ => true) true fuel 144 cs = some (d, p)) (hz : ∀ x ∈ d.weights Tryd.prog 144, x ≤ reachBytes) :
    ∃ (v : Value) (xs : List Pce), cs = [v] ∧ Rw 3 Pce.E W v xs ∧ lenR xs.length ∧ ∀ y ∈ xs, Pce.Ok y := by
  obtain ⟨v, xs, hv, h1, h2⟩ := arg_slice_cells (P := Tryd.prog) (m := 3) (fun cs (x : Pce) => Pce.E W cs x ∧ Pce.Ok x) Tryd.underlying144 cellsPce (by decide) elem_Pce h hz
  have hb : 1 ≤ Tryd.prog.bytesOf 148 := by rw [show Tryd.prog.bytesOf 148 = 24 from by kernel_rfl]; decide
  have hr : reachBytes = 140737488351232 := by decide
  obtain ⟨h3, h4⟩ := rw_of_slice h1
  exact ⟨v, xs, hv, h3, by unfold lenR; have := Nat.mul_le_mul_left xs.length hb; omega, h4⟩

structure ArgPces (W : World) (v : Value) (l : List Pce) : Prop where
  row : Rw 3 Pce.E W v l
  len : lenR l.length
  ok : ∀ x ∈ l, x.Ok
theorem args_Pces {base : Nat} {W : World} {v : Value} {d : DataW H} {p : List MemPlace} (hval : Value.okWide Tryd.prog W .any base 144 v) (h : DataW.Trod enc Tryd.prog W 0 (fun _ => true) true 144 v d p)
    (hz : ∀ n ∈ d.weights Tryd.prog 144, n ≤ reachBytes) : ∃ l : List Pce, ArgPces W v l := by
  obtain ⟨a0, len, cap, rfl⟩ := okWide_slice Tryd.underlying144 hval
  obtain ⟨fuel, hf⟩ := h
  obtain ⟨v, xs, hv, h1, h2, h3⟩ := row_Pce fuel _ d p hf hz
  have e : Value.slice a0 len cap = v := by have : [Value.slice a0 len cap] = [v] := hv; exact List.head_eq_of_cons_eq this
  exact ⟨xs, e ▸ h1, h2, h3⟩

theorem cellsCnv : Tryd.prog.cellsOf 146 = 4 := by kernel_rfl
theorem elem_Cnv {W : World} (fuel : Nat) (cs : List Value) (d : DataW H) (p : List MemPlace) (h : DataW.trod enc Tryd.prog W 0 (fun _ => true) true fuel 146 cs = some (d, p)) (hz : ∀ x ∈ d.weights Tryd.prog 146, x ≤ reachBytes) :
    ∃ a : Cnv, Cnv.E W cs a ∧ a.Ok := by
  obtain ⟨xs, n, rfl, hx, hl, hxl, hall⟩ := DataW.trod_struct Tryd.underlying146 h
  rw [cellsCnv] at hl
  match cs, hl with
  | [c0, c1, c2, c3], _ =>
    have hxl' : xs.length = 4 := hxl
    match xs, hxl' with
    | [x0, x1, x2, x3], _ =>
      injection hx with hd _
      have f0 : DataW.trod enc Tryd.prog W 0 (fun _ => true) true n 3 (List.take (Tryd.prog.cellsOf 3) (List.drop 0 [c0, c1, c2, c3])) = some x0 := hall 0 _ rfl
      have f1 : DataW.trod enc Tryd.prog W 0 (fun _ => true) true n 9 (List.take (Tryd.prog.cellsOf 9) (List.drop 1 [c0, c1, c2, c3])) = some x1 := hall 1 _ rfl
      have f2 : DataW.trod enc Tryd.prog W 0 (fun _ => true) true n 144 (List.take (Tryd.prog.cellsOf 144) (List.drop 2 [c0, c1, c2, c3])) = some x2 := hall 2 _ rfl
      have f3 : DataW.trod enc Tryd.prog W 0 (fun _ => true) true n 3 (List.take (Tryd.prog.cellsOf 3) (List.drop 3 [c0, c1, c2, c3])) = some x3 := hall 3 _ rfl
      have cellsLPce : Tryd.prog.cellsOf 144 = 1 := by kernel_rfl
      simp only [cellsI1, cellsLPce, cellsS1, List.drop_succ_cons, List.take_succ_cons, List.take_zero, List.drop_zero] at f0 f1 f2 f3
      have hw : ∀ {j : Nat} {t : TypeId} {y : DataW H}, [3, 9, 144, 3][j]? = some t → [x0.1, x1.1, x2.1, x3.1][j]? = some y → ∀ x ∈ y.weights Tryd.prog t, x ≤ reachBytes := by
        intro j t y ht hy x hxx
        apply hz
        subst hd
        rw [DataW.weights, Tryd.underlying146]
        exact DataW.weights_mem_each ht hy x hxx
      obtain ⟨i0, e0, _, w0⟩ := DataW.trod_int Tryd.underlying3 f0
      obtain ⟨i1, e1, w1⟩ := elem_string (P := Tryd.prog) Tryd.underlying9 n [c1] x1.1 x1.2 f1 (hw (j := 1) rfl rfl)
      obtain ⟨v2, i2, e2, r2, w2, q2⟩ := row_Pce n [c2] x2.1 x2.2 f2 (hw (j := 2) rfl rfl)
      obtain ⟨i3, e3, _, w3⟩ := DataW.trod_int Tryd.underlying3 f3
      simp only [List.cons.injEq, and_true] at e0 e1 e2 e3
      subst e0 e1 e2 e3
      exact ⟨⟨i0, i1, i2, i3⟩, ⟨c2, rfl, ⟨r2⟩⟩, ⟨wfI w0, w1, w2, q2, wfI w3⟩⟩

theorem row_Cnv {W : World} (fuel : Nat) (cs : List Value) (d : DataW H) (p : List MemPlace) (h : DataW.trod enc Tryd.prog W 0 (fun _ => true) true fuel 41 cs = some (d, p)) (hz : ∀ x ∈ d.weights Tryd.prog 41, x ≤ reachBytes) :
    ∃ (v : Value) (xs : List Cnv), cs = [v] ∧ Rw 4 Cnv.E W v xs ∧ lenR xs.length ∧ ∀ y ∈ xs, Cnv.Ok y := by
  obtain ⟨v, xs, hv, h1, h2⟩ := arg_slice_cells (P := Tryd.prog) (m := 4) (fun cs (x : Cnv) => Cnv.E W cs x ∧ Cnv.Ok x) Tryd.underlying41 cellsCnv (by decide) elem_Cnv h hz
  have hb : 1 ≤ Tryd.prog.bytesOf 146 := by rw [show Tryd.prog.bytesOf 146 = 56 from by kernel_rfl]; decide
  have hr : reachBytes = 140737488351232 := by decide
  obtain ⟨h3, h4⟩ := rw_of_slice h1
  exact ⟨v, xs, hv, h3, by unfold lenR; have := Nat.mul_le_mul_left xs.length hb; omega, h4⟩

structure ArgCnvs (W : World) (v : Value) (l : List Cnv) : Prop where
  row : Rw 4 Cnv.E W v l
  len : lenR l.length
  ok : ∀ x ∈ l, x.Ok
theorem args_Cnvs {base : Nat} {W : World} {v : Value} {d : DataW H} {p : List MemPlace} (hval : Value.okWide Tryd.prog W .any base 41 v) (h : DataW.Trod enc Tryd.prog W 0 (fun _ => true) true 41 v d p)
    (hz : ∀ n ∈ d.weights Tryd.prog 41, n ≤ reachBytes) : ∃ l : List Cnv, ArgCnvs W v l := by
  obtain ⟨a0, len, cap, rfl⟩ := okWide_slice Tryd.underlying41 hval
  obtain ⟨fuel, hf⟩ := h
  obtain ⟨v, xs, hv, h1, h2, h3⟩ := row_Cnv fuel _ d p hf hz
  have e : Value.slice a0 len cap = v := by have : [Value.slice a0 len cap] = [v] := hv; exact List.head_eq_of_cons_eq this
  exact ⟨xs, e ▸ h1, h2, h3⟩
structure ArgCnv (W : World) (v : Value) (x : Cnv) : Prop where
  is : ∃ cs, v = .agg cs.toArray ∧ Cnv.E W cs x
  ok : x.Ok
theorem args_Cnv {base : Nat} {W : World} {v : Value} {d : DataW H} {p : List MemPlace} (hval : Value.okWide Tryd.prog W .any base 146 v) (h : DataW.Trod enc Tryd.prog W 0 (fun _ => true) true 146 v d p)
    (hz : ∀ n ∈ d.weights Tryd.prog 146, n ≤ reachBytes) : ∃ x : Cnv, ArgCnv W v x := by
  obtain ⟨cs, rfl, _⟩ := okWide_struct Tryd.underlying146 hval
  obtain ⟨fuel, hf⟩ := h
  obtain ⟨a, hE, hok⟩ := elem_Cnv fuel _ d p hf hz
  exact ⟨a, ⟨cs.toList, by simp, hE⟩, hok⟩

theorem cellsOb : Tryd.prog.cellsOf 43 = 11 := by kernel_rfl
theorem elem_Ob {W : World} (fuel : Nat) (cs : List Value) (d : DataW H) (p : List MemPlace) (h : DataW.trod enc Tryd.prog W 0 (fun _ => true) true fuel 43 cs = some (d, p)) (hz : ∀ x ∈ d.weights Tryd.prog 43, x ≤ reachBytes) :
    ∃ a : Ob, Ob.E W cs a ∧ a.Ok := by
  obtain ⟨xs, n, rfl, hx, hl, hxl, hall⟩ := DataW.trod_struct Tryd.underlying43 h
  rw [cellsOb] at hl
  match cs, hl with
  | [c0, c1, c2, c3, c4, c5, c6, c7, c8, c9, c10], _ =>
    have hxl' : xs.length = 11 := hxl
    match xs, hxl' with
    | [x0, x1, x2, x3, x4, x5, x6, x7, x8, x9, x10], _ =>
      injection hx with hd _
      have f0 : DataW.trod enc Tryd.prog W 0 (fun _ => true) true n 9 (List.take (Tryd.prog.cellsOf 9) (List.drop 0 [c0, c1, c2, c3, c4, c5, c6, c7, c8, c9, c10])) = some x0 := hall 0 _ rfl
      have f1 : DataW.trod enc Tryd.prog W 0 (fun _ => true) true n 32 (List.take (Tryd.prog.cellsOf 32) (List.drop 1 [c0, c1, c2, c3, c4, c5, c6, c7, c8, c9, c10])) = some x1 := hall 1 _ rfl
      have f2 : DataW.trod enc Tryd.prog W 0 (fun _ => true) true n 33 (List.take (Tryd.prog.cellsOf 33) (List.drop 2 [c0, c1, c2, c3, c4, c5, c6, c7, c8, c9, c10])) = some x2 := hall 2 _ rfl
      have f3 : DataW.trod enc Tryd.prog W 0 (fun _ => true) true n 34 (List.take (Tryd.prog.cellsOf 34) (List.drop 3 [c0, c1, c2, c3, c4, c5, c6, c7, c8, c9, c10])) = some x3 := hall 3 _ rfl
      have f4 : DataW.trod enc Tryd.prog W 0 (fun _ => true) true n 35 (List.take (Tryd.prog.cellsOf 35) (List.drop 4 [c0, c1, c2, c3, c4, c5, c6, c7, c8, c9, c10])) = some x4 := hall 4 _ rfl
      have f5 : DataW.trod enc Tryd.prog W 0 (fun _ => true) true n 36 (List.take (Tryd.prog.cellsOf 36) (List.drop 5 [c0, c1, c2, c3, c4, c5, c6, c7, c8, c9, c10])) = some x5 := hall 5 _ rfl
      have f6 : DataW.trod enc Tryd.prog W 0 (fun _ => true) true n 37 (List.take (Tryd.prog.cellsOf 37) (List.drop 6 [c0, c1, c2, c3, c4, c5, c6, c7, c8, c9, c10])) = some x6 := hall 6 _ rfl
      have f7 : DataW.trod enc Tryd.prog W 0 (fun _ => true) true n 38 (List.take (Tryd.prog.cellsOf 38) (List.drop 7 [c0, c1, c2, c3, c4, c5, c6, c7, c8, c9, c10])) = some x7 := hall 7 _ rfl
      have f8 : DataW.trod enc Tryd.prog W 0 (fun _ => true) true n 39 (List.take (Tryd.prog.cellsOf 39) (List.drop 8 [c0, c1, c2, c3, c4, c5, c6, c7, c8, c9, c10])) = some x8 := hall 8 _ rfl
      have f9 : DataW.trod enc Tryd.prog W 0 (fun _ => true) true n 40 (List.take (Tryd.prog.cellsOf 40) (List.drop 9 [c0, c1, c2, c3, c4, c5, c6, c7, c8, c9, c10])) = some x9 := hall 9 _ rfl
      have f10 : DataW.trod enc Tryd.prog W 0 (fun _ => true) true n 41 (List.take (Tryd.prog.cellsOf 41) (List.drop 10 [c0, c1, c2, c3, c4, c5, c6, c7, c8, c9, c10])) = some x10 := hall 10 _ rfl
      have cellsLCnv : Tryd.prog.cellsOf 41 = 1 := by kernel_rfl
      have cellsLDep : Tryd.prog.cellsOf 40 = 1 := by kernel_rfl
      have cellsLGrp : Tryd.prog.cellsOf 35 = 1 := by kernel_rfl
      have cellsLIni : Tryd.prog.cellsOf 36 = 1 := by kernel_rfl
      have cellsLInl : Tryd.prog.cellsOf 38 = 1 := by kernel_rfl
      have cellsLLne : Tryd.prog.cellsOf 37 = 1 := by kernel_rfl
      have cellsLRel : Tryd.prog.cellsOf 34 = 1 := by kernel_rfl
      have cellsLSec : Tryd.prog.cellsOf 32 = 1 := by kernel_rfl
      have cellsLSym : Tryd.prog.cellsOf 33 = 1 := by kernel_rfl
      have cellsLVrr : Tryd.prog.cellsOf 39 = 1 := by kernel_rfl
      simp only [cellsLCnv, cellsLDep, cellsLGrp, cellsLIni, cellsLInl, cellsLLne, cellsLRel, cellsLSec, cellsLSym, cellsLVrr, cellsS1, List.drop_succ_cons, List.take_succ_cons, List.take_zero, List.drop_zero] at f0 f1 f2 f3 f4 f5 f6 f7 f8 f9 f10
      have hw : ∀ {j : Nat} {t : TypeId} {y : DataW H}, [9, 32, 33, 34, 35, 36, 37, 38, 39, 40, 41][j]? = some t → [x0.1, x1.1, x2.1, x3.1, x4.1, x5.1, x6.1, x7.1, x8.1, x9.1, x10.1][j]? = some y → ∀ x ∈ y.weights Tryd.prog t, x ≤ reachBytes := by
        intro j t y ht hy x hxx
        apply hz
        subst hd
        rw [DataW.weights, Tryd.underlying43]
        exact DataW.weights_mem_each ht hy x hxx
      obtain ⟨i0, e0, w0⟩ := elem_string (P := Tryd.prog) Tryd.underlying9 n [c0] x0.1 x0.2 f0 (hw (j := 0) rfl rfl)
      obtain ⟨v1, i1, e1, r1, w1, q1⟩ := row_Sec n [c1] x1.1 x1.2 f1 (hw (j := 1) rfl rfl)
      obtain ⟨v2, i2, e2, r2, w2, q2⟩ := row_Sym n [c2] x2.1 x2.2 f2 (hw (j := 2) rfl rfl)
      obtain ⟨v3, i3, e3, r3, w3, q3⟩ := row_Rel n [c3] x3.1 x3.2 f3 (hw (j := 3) rfl rfl)
      obtain ⟨v4, i4, e4, r4, w4, q4⟩ := row_Grp n [c4] x4.1 x4.2 f4 (hw (j := 4) rfl rfl)
      obtain ⟨v5, i5, e5, r5, w5, q5⟩ := row_Ini n [c5] x5.1 x5.2 f5 (hw (j := 5) rfl rfl)
      obtain ⟨v6, i6, e6, r6, w6, q6⟩ := row_Lne n [c6] x6.1 x6.2 f6 (hw (j := 6) rfl rfl)
      obtain ⟨v7, i7, e7, r7, w7, q7⟩ := row_Inl n [c7] x7.1 x7.2 f7 (hw (j := 7) rfl rfl)
      obtain ⟨v8, i8, e8, r8, w8, q8⟩ := row_Vrr n [c8] x8.1 x8.2 f8 (hw (j := 8) rfl rfl)
      obtain ⟨v9, i9, e9, r9, w9, q9⟩ := row_Dep n [c9] x9.1 x9.2 f9 (hw (j := 9) rfl rfl)
      obtain ⟨v10, i10, e10, r10, w10, q10⟩ := row_Cnv n [c10] x10.1 x10.2 f10 (hw (j := 10) rfl rfl)
      simp only [List.cons.injEq, and_true] at e0 e1 e2 e3 e4 e5 e6 e7 e8 e9 e10
      subst e0 e1 e2 e3 e4 e5 e6 e7 e8 e9 e10
      exact ⟨⟨i0, i1, i2, i3, i4, i5, i6, i7, i8, i9, i10⟩, ⟨c1, c2, c3, c4, c5, c6, c7, c8, c9, c10, rfl, ⟨r1, r2, r3, r4, r5, r6, r7, r8, r9, r10⟩⟩, ⟨w0, w1, q1, w2, q2, w3, q3, w4, q4, w5, q5, w6, q6, w7, q7, w8, q8, w9, q9, w10, q10⟩⟩

theorem row_Ob {W : World} (fuel : Nat) (cs : List Value) (d : DataW H) (p : List MemPlace) (h : DataW.trod enc Tryd.prog W 0 (fun _ => true) true fuel 22 cs = some (d, p)) (hz : ∀ x ∈ d.weights Tryd.prog 22, x ≤ reachBytes) :
    ∃ (v : Value) (xs : List Ob), cs = [v] ∧ Rw 11 Ob.E W v xs ∧ lenR xs.length ∧ ∀ y ∈ xs, Ob.Ok y := by
  obtain ⟨v, xs, hv, h1, h2⟩ := arg_slice_cells (P := Tryd.prog) (m := 11) (fun cs (x : Ob) => Ob.E W cs x ∧ Ob.Ok x) Tryd.underlying22 cellsOb (by decide) elem_Ob h hz
  have hb : 1 ≤ Tryd.prog.bytesOf 43 := by rw [show Tryd.prog.bytesOf 43 = 256 from by kernel_rfl]; decide
  have hr : reachBytes = 140737488351232 := by decide
  obtain ⟨h3, h4⟩ := rw_of_slice h1
  exact ⟨v, xs, hv, h3, by unfold lenR; have := Nat.mul_le_mul_left xs.length hb; omega, h4⟩

structure ArgObs (W : World) (v : Value) (l : List Ob) : Prop where
  row : Rw 11 Ob.E W v l
  len : lenR l.length
  ok : ∀ x ∈ l, x.Ok
theorem args_Obs {base : Nat} {W : World} {v : Value} {d : DataW H} {p : List MemPlace} (hval : Value.okWide Tryd.prog W .any base 22 v) (h : DataW.Trod enc Tryd.prog W 0 (fun _ => true) true 22 v d p)
    (hz : ∀ n ∈ d.weights Tryd.prog 22, n ≤ reachBytes) : ∃ l : List Ob, ArgObs W v l := by
  obtain ⟨a0, len, cap, rfl⟩ := okWide_slice Tryd.underlying22 hval
  obtain ⟨fuel, hf⟩ := h
  obtain ⟨v, xs, hv, h1, h2, h3⟩ := row_Ob fuel _ d p hf hz
  have e : Value.slice a0 len cap = v := by have : [Value.slice a0 len cap] = [v] := hv; exact List.head_eq_of_cons_eq this
  exact ⟨xs, e ▸ h1, h2, h3⟩
structure ArgOb (W : World) (v : Value) (x : Ob) : Prop where
  is : ∃ cs, v = .agg cs.toArray ∧ Ob.E W cs x
  ok : x.Ok
theorem args_Ob {base : Nat} {W : World} {v : Value} {d : DataW H} {p : List MemPlace} (hval : Value.okWide Tryd.prog W .any base 43 v) (h : DataW.Trod enc Tryd.prog W 0 (fun _ => true) true 43 v d p)
    (hz : ∀ n ∈ d.weights Tryd.prog 43, n ≤ reachBytes) : ∃ x : Ob, ArgOb W v x := by
  obtain ⟨cs, rfl, _⟩ := okWide_struct Tryd.underlying43 hval
  obtain ⟨fuel, hf⟩ := h
  obtain ⟨a, hE, hok⟩ := elem_Ob fuel _ d p hf hz
  exact ⟨a, ⟨cs.toList, by simp, hE⟩, hok⟩

end

end Go.Proofs.YtimbhnnidohmaaaDoor.W
