/-
  Operations that came in: the frame's openers.
-/
import Derived.Test.YtcleocgaooblfaaDo
namespace Go.Proofs.Ytcleocgaooblfaa.W
open Go.RowKit Go.ChangeShapes Go.WideShapes
set_option linter.unusedVariables false

theorem cellsInt : Try.prog.cellsOf 3 = 1 := by kernel_rfl
theorem cellsStr : Try.prog.cellsOf 9 = 1 := by kernel_rfl
theorem cellsInts : Try.prog.cellsOf 22 = 1 := by kernel_rfl
theorem cellsAct : Try.prog.cellsOf 42 = 6 := by kernel_rfl
theorem bytesInt : Try.prog.bytesOf 3 = 8 := by kernel_rfl
theorem bytesAct : Try.prog.bytesOf 42 = 72 := by kernel_rfl

section
variable {H : Type} {enc : TypeId × Value → H}

theorem elem_ints {W : World} (fuel : Nat) (cs : List Value) (d : DataW H) (p : List MemPlace) (h : DataW.trod enc Try.prog W 0 (fun _ => true) true fuel 22 cs = some (d, p)) (hz : ∀ x ∈ d.weights Try.prog 22, x ≤ reachBytes) :
    ∃ (v : Value) (ks : List Int), cs = [v] ∧ IR (fun g => W.heap.size ≤ g) W v ks ∧ ks.length ≤ 140737488351232 := by
  obtain ⟨v, ks, hv, h1, h2⟩ := arg_slice_cells (P := Try.prog) (m := 1) (fun cs (x : Int) => cs = [.int .i64 x] ∧ (Lit.int .i64 x).wf = true) Try.underlying22 cellsInt (by decide) (elem_int Try.underlying3) h hz
  rw [bytesInt] at h2
  have hr : reachBytes = 140737488351232 := by decide
  refine ⟨v, ks, hv, ?_, by omega⟩
  rcases h1.is with h0 | ⟨g, o, cap, e, hg, hc⟩
  · exact ⟨.inl h0⟩
  · refine ⟨.inr ⟨g, o, cap, e, Nat.not_le.2 hg, fun j x hj => ?_⟩⟩
    obtain ⟨cs, _, ⟨rfl, _⟩, h3⟩ := hc j x hj
    have := h3 0 _ rfl
    rwa [Nat.mul_one, Nat.add_zero] at this

theorem wf64 {x : Int} (h : (Lit.int .i64 x).wf = true) : i64R x := by
  simp [Lit.wf, IntKind.min, IntKind.max, IntKind.signed, IntKind.bits] at h
  unfold i64R; omega

theorem elem_act {W : World} (fuel : Nat) (cs : List Value) (d : DataW H) (p : List MemPlace) (h : DataW.trod enc Try.prog W 0 (fun _ => true) true fuel 42 cs = some (d, p)) (hz : ∀ x ∈ d.weights Try.prog 42, x ≤ reachBytes) :
    ∃ a : Ac, AcOk a ∧ ∃ kv, IR (fun g => W.heap.size ≤ g) W kv a.k ∧ cs = acCells a kv := by
  obtain ⟨xs, n, rfl, hx, hl, hxl, hall⟩ := DataW.trod_struct Try.underlying42 h
  rw [cellsAct] at hl
  match cs, hl with
  | [c0, c1, c2, c3, c4, c5], _ =>
    have hxl' : xs.length = 6 := hxl
    match xs, hxl' with
    | [x0, x1, x2, x3, x4, x5], _ =>
      injection hx with hd _
      have f0 : DataW.trod enc Try.prog W 0 (fun _ => true) true n 3 (List.take (Try.prog.cellsOf 3) (List.drop 0 [c0, c1, c2, c3, c4, c5])) = some x0 := hall 0 _ rfl
      have f1 : DataW.trod enc Try.prog W 0 (fun _ => true) true n 3 (List.take (Try.prog.cellsOf 3) (List.drop 1 [c0, c1, c2, c3, c4, c5])) = some x1 := hall 1 _ rfl
      have f2 : DataW.trod enc Try.prog W 0 (fun _ => true) true n 3 (List.take (Try.prog.cellsOf 3) (List.drop 2 [c0, c1, c2, c3, c4, c5])) = some x2 := hall 2 _ rfl
      have f3 : DataW.trod enc Try.prog W 0 (fun _ => true) true n 3 (List.take (Try.prog.cellsOf 3) (List.drop 3 [c0, c1, c2, c3, c4, c5])) = some x3 := hall 3 _ rfl
      have f4 : DataW.trod enc Try.prog W 0 (fun _ => true) true n 9 (List.take (Try.prog.cellsOf 9) (List.drop 4 [c0, c1, c2, c3, c4, c5])) = some x4 := hall 4 _ rfl
      have f5 : DataW.trod enc Try.prog W 0 (fun _ => true) true n 22 (List.take (Try.prog.cellsOf 22) (List.drop 5 [c0, c1, c2, c3, c4, c5])) = some x5 := hall 5 _ rfl
      simp only [cellsInt, cellsStr, cellsInts, List.drop_succ_cons, List.take_succ_cons, List.take_zero, List.drop_zero] at f0 f1 f2 f3 f4 f5
      obtain ⟨i0, e0, _, w0⟩ := DataW.trod_int Try.underlying3 f0
      obtain ⟨i1, e1, _, w1⟩ := DataW.trod_int Try.underlying3 f1
      obtain ⟨i2, e2, _, w2⟩ := DataW.trod_int Try.underlying3 f2
      obtain ⟨i3, e3, _, w3⟩ := DataW.trod_int Try.underlying3 f3
      have hw : ∀ {j : Nat} {t : TypeId} {y : DataW H}, [3, 3, 3, 3, 9, 22][j]? = some t → [x0.1, x1.1, x2.1, x3.1, x4.1, x5.1][j]? = some y → ∀ x ∈ y.weights Try.prog t, x ≤ reachBytes := by
        intro j t y ht hy x hxx
        apply hz
        subst hd
        rw [DataW.weights, Try.underlying42]
        exact DataW.weights_mem_each ht hy x hxx
      obtain ⟨s, e4, hs⟩ := elem_string (P := Try.prog) Try.underlying9 n [c4] x4.1 x4.2 f4 (hw (j := 4) rfl rfl)
      obtain ⟨kv, ks, e5, hI, hk⟩ := elem_ints n [c5] x5.1 x5.2 f5 (hw (j := 5) rfl rfl)
      simp only [List.cons.injEq, and_true] at e0 e1 e2 e3 e4 e5
      subst e0 e1 e2 e3 e4 e5
      exact ⟨⟨i0, i1, i2, i3, s, ks⟩, ⟨wf64 w0, wf64 w1, wf64 w2, wf64 w3, hs, hk⟩, _, hI, rfl⟩

structure ArgActs (W : World) (v : Value) (l : List Ac) : Prop where
  row : ARow (fun kv ks => IR (fun g => W.heap.size ≤ g) W kv ks) W v l
  len : l.length ≤ 140737488351232

theorem args_acts {base : Nat} {W : World} {v : Value} {d : DataW H} {p : List MemPlace} (hval : Value.okWide Try.prog W .any base 38 v) (h : DataW.Trod enc Try.prog W 0 (fun _ => true) true 38 v d p)
    (hz : ∀ n ∈ d.weights Try.prog 38, n ≤ reachBytes) : ∃ l : List Ac, ArgActs W v l := by
  obtain ⟨l, h1, h2⟩ := arg_slice (P := Try.prog) (m := 6) (fun cs (a : Ac) => AcOk a ∧ ∃ kv, IR (fun g => W.heap.size ≤ g) W kv a.k ∧ cs = acCells a kv) Try.underlying38 cellsAct (by decide) elem_act (okWide_slice Try.underlying38 hval) h hz
  rw [bytesAct] at h2
  have hr : reachBytes = 140737488351232 := by decide
  refine ⟨l, ⟨?_⟩, by omega⟩
  rcases h1.is with h0 | ⟨g, o, cap, e, hg, hc⟩
  · exact .inl h0
  · refine .inr ⟨g, o, cap, e, hg, fun j a hj => ?_⟩
    obtain ⟨cs, _, ⟨hok, kv, hI, rfl⟩, h3⟩ := hc j a hj
    exact ⟨hok, kv, hI, h3⟩

structure ArgAct (W : World) (v : Value) (a : Ac) : Prop where
  is : ∃ kv, IR (fun g => W.heap.size ≤ g) W kv a.k ∧ v = .agg (acCells a kv).toArray
  ok : AcOk a

theorem args_act {base : Nat} {W : World} {v : Value} {d : DataW H} {p : List MemPlace} (hval : Value.okWide Try.prog W .any base 42 v) (h : DataW.Trod enc Try.prog W 0 (fun _ => true) true 42 v d p)
    (hz : ∀ n ∈ d.weights Try.prog 42, n ≤ reachBytes) : ∃ a : Ac, ArgAct W v a := by
  obtain ⟨cs, rfl, _⟩ := okWide_struct Try.underlying42 hval
  obtain ⟨fuel, hf⟩ := h
  obtain ⟨a, hok, kv, hI, e⟩ := elem_act fuel _ d p hf hz
  have e' : cs = (acCells a kv).toArray := by
    have : cs.toList = acCells a kv := e
    rw [← this]
  exact ⟨a, ⟨kv, hI, by rw [e']⟩, hok⟩
end

end Go.Proofs.Ytcleocgaooblfaa.W
