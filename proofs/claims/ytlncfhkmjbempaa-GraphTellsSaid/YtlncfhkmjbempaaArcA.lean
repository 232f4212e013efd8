/-
  api.Arc: the frame's openers (printed by tools/gen_struct.py).
-/
import Derived.Test.YtlncfhkmjbempaaArc
import Derived.Test.YtlncfhkmjbempaaArgS
namespace Go.Proofs.Ytlncfhkmjbempaa.W
open Go.RowKit Go.ChangeShapes Go.WideShapes
set_option linter.unusedVariables false
set_option maxRecDepth 100000

section
variable {H : Type} {enc : TypeId × Value → H}

theorem wfI {x : Int} (h : (Lit.int .i64 x).wf = true) : I64 x := by
  simp [Lit.wf, IntKind.min, IntKind.max, IntKind.signed, IntKind.bits] at h
  unfold I64; omega
theorem cellsI1 : Try.prog.cellsOf 3 = 1 := by kernel_rfl
theorem cellsS1 : Try.prog.cellsOf 9 = 1 := by kernel_rfl
theorem cellsB1 : Try.prog.cellsOf 4 = 1 := by kernel_rfl
theorem rw_of_slice {α : Type} {m : Nat} {Q : α → Prop} {E : World → List Value → α → Prop} {W : World} {v : Value} {xs : List α} (h : SliceAt W m (fun cs x => E W cs x ∧ Q x) v xs) : Rw m E W v xs ∧ ∀ y ∈ xs, Q y := by
  refine ⟨⟨?_⟩, fun y hy => ?_⟩
  · rcases h.is with h0 | ⟨g, o, cap, e, hg, hc⟩
    · exact .inl h0
    · refine .inr ⟨g, o, cap, e, hg, fun j x hx => ?_⟩
      obtain ⟨cs, h1, h2, h3⟩ := hc j x hx
      exact ⟨cs, h1, h2.1, h3⟩
  · obtain ⟨j, hj, rfl⟩ := List.getElem_of_mem hy
    rcases h.is with ⟨rfl, _⟩ | ⟨g, o, cap, e, hg, hc⟩
    · simp at hj
    · obtain ⟨cs, _, h2, _⟩ := hc j _ (List.getElem?_eq_getElem hj)
      exact h2.2

theorem cellsArc : Try.prog.cellsOf 36 = 2 := by kernel_rfl
theorem elem_Arc {W : World} (fuel : Nat) (cs : List Value) (d : DataW H) (p : List MemPlace) (h : DataW.trod enc Try.prog W 0 (fun _ => true) true fuel 36 cs = some (d, p)) (hz : ∀ x ∈ d.weights Try.prog 36, x ≤ reachBytes) :
    ∃ a : Arc, Arc.E W cs a ∧ a.Ok := by
  obtain ⟨xs, n, rfl, hx, hl, hxl, hall⟩ := DataW.trod_struct Try.underlying36 h
  rw [cellsArc] at hl
  match cs, hl with
  | [c0, c1], _ =>
    have hxl' : xs.length = 2 := hxl
    match xs, hxl' with
    | [x0, x1], _ =>
      injection hx with hd _
      have f0 : DataW.trod enc Try.prog W 0 (fun _ => true) true n 3 (List.take (Try.prog.cellsOf 3) (List.drop 0 [c0, c1])) = some x0 := hall 0 _ rfl
      have f1 : DataW.trod enc Try.prog W 0 (fun _ => true) true n 3 (List.take (Try.prog.cellsOf 3) (List.drop 1 [c0, c1])) = some x1 := hall 1 _ rfl
      simp only [cellsI1, List.drop_succ_cons, List.take_succ_cons, List.take_zero, List.drop_zero] at f0 f1
      have hw : ∀ {j : Nat} {t : TypeId} {y : DataW H}, [3, 3][j]? = some t → [x0.1, x1.1][j]? = some y → ∀ x ∈ y.weights Try.prog t, x ≤ reachBytes := by
        intro j t y ht hy x hxx
        apply hz
        subst hd
        rw [DataW.weights, Try.underlying36]
        exact DataW.weights_mem_each ht hy x hxx
      obtain ⟨i0, e0, _, w0⟩ := DataW.trod_int Try.underlying3 f0
      obtain ⟨i1, e1, _, w1⟩ := DataW.trod_int Try.underlying3 f1
      simp only [List.cons.injEq, and_true] at e0 e1
      subst e0 e1
      exact ⟨⟨i0, i1⟩, rfl, ⟨wfI w0, wfI w1⟩⟩

theorem row_Arc {W : World} (fuel : Nat) (cs : List Value) (d : DataW H) (p : List MemPlace) (h : DataW.trod enc Try.prog W 0 (fun _ => true) true fuel 22 cs = some (d, p)) (hz : ∀ x ∈ d.weights Try.prog 22, x ≤ reachBytes) :
    ∃ (v : Value) (xs : List Arc), cs = [v] ∧ Rw 2 Arc.E W v xs ∧ lenR xs.length ∧ ∀ y ∈ xs, Arc.Ok y := by
  obtain ⟨v, xs, hv, h1, h2⟩ := arg_slice_cells (P := Try.prog) (m := 2) (fun cs (x : Arc) => Arc.E W cs x ∧ Arc.Ok x) Try.underlying22 cellsArc (by decide) elem_Arc h hz
  have hb : 1 ≤ Try.prog.bytesOf 36 := by rw [show Try.prog.bytesOf 36 = 16 from by kernel_rfl]; decide
  have hr : reachBytes = 140737488351232 := by decide
  obtain ⟨h3, h4⟩ := rw_of_slice h1
  exact ⟨v, xs, hv, h3, by unfold lenR; have := Nat.mul_le_mul_left xs.length hb; omega, h4⟩

structure ArgI (W : World) (v : Value) (ks : List Int) : Prop where
  row : Rw 1 intE W v ks
  len : ks.length ≤ 140737488351232
theorem args_ints {base : Nat} {W : World} {v : Value} {d : DataW H} {p : List MemPlace} (hval : Value.okWide Try.prog W .any base 23 v) (h : DataW.Trod enc Try.prog W 0 (fun _ => true) true 23 v d p)
    (hz : ∀ n ∈ d.weights Try.prog 23, n ≤ reachBytes) : ∃ ks : List Int, ArgI W v ks := by
  obtain ⟨ks, h1, h2⟩ := arg_slice (P := Try.prog) (m := 1) (fun cs (x : Int) => cs = [.int .i64 x] ∧ (Lit.int .i64 x).wf = true) Try.underlying23 cellsI1 (by decide) (elem_int Try.underlying3) (okWide_slice Try.underlying23 hval) h hz
  have hb : 1 ≤ Try.prog.bytesOf 3 := by rw [show Try.prog.bytesOf 3 = 8 from by kernel_rfl]; decide
  have hr : reachBytes = 140737488351232 := by decide
  obtain ⟨h3, _⟩ := rw_of_slice (E := intE) h1
  exact ⟨ks, h3, by have := Nat.mul_le_mul_left ks.length hb; omega⟩

structure ArgArcs (W : World) (v : Value) (l : List Arc) : Prop where
  row : Rw 2 Arc.E W v l
  len : lenR l.length
  ok : ∀ x ∈ l, x.Ok
theorem args_Arcs {base : Nat} {W : World} {v : Value} {d : DataW H} {p : List MemPlace} (hval : Value.okWide Try.prog W .any base 22 v) (h : DataW.Trod enc Try.prog W 0 (fun _ => true) true 22 v d p)
    (hz : ∀ n ∈ d.weights Try.prog 22, n ≤ reachBytes) : ∃ l : List Arc, ArgArcs W v l := by
  obtain ⟨a0, len, cap, rfl⟩ := okWide_slice Try.underlying22 hval
  obtain ⟨fuel, hf⟩ := h
  obtain ⟨v, xs, hv, h1, h2, h3⟩ := row_Arc fuel _ d p hf hz
  have e : Value.slice a0 len cap = v := by have : [Value.slice a0 len cap] = [v] := hv; exact List.head_eq_of_cons_eq this
  exact ⟨xs, e ▸ h1, h2, h3⟩

end

end Go.Proofs.Ytlncfhkmjbempaa.W
