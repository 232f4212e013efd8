import Derived.Test.YtmgkoocpnakanaaRw
import Derived.Test.YtmgkoocpnakanaaArgS
/-
  api.VersionDef: what they are in memory (printed by tools/gen_struct.py).
-/
namespace Go.Proofs.Ytmgkoocpnakanaa.W
open Go.RowKit
set_option linter.unusedVariables false

structure Vdf where
  name : ByteArray
  parents : List ByteArray
deriving DecidableEq
def Vdf.cells (x : Vdf) (parentsV : Value) : List Value := [.string x.name, parentsV]
structure Vdf.Ok (x : Vdf) : Prop where
  name : lenR x.name.size
  parents : lenR x.parents.length
  parentsI : ∀ y ∈ x.parents, lenR y.size
structure Vdf.At (w : World) (x : Vdf) (parentsV : Value) : Prop where
  parents : Rw 1 strE w parentsV x.parents
def Vdf.E (w : World) (cs : List Value) (x : Vdf) : Prop := ∃ parentsV, cs = x.cells parentsV ∧ x.At w parentsV
theorem Vdf.At.below {w w' : World} {x : Vdf} {parentsV : Value} (h : x.At w parentsV) (hb : Below w.heap.size w w') : x.At w' parentsV :=
  ⟨h.parents.below strE_stays hb⟩
theorem Vdf.stays : Stays Vdf.E := by
  rintro w w' cs x hb ⟨parentsV, rfl, h⟩
  exact ⟨parentsV, rfl, h.below hb⟩
theorem Vdf.cells_len (x : Vdf) (parentsV : Value) : (x.cells parentsV).length = 2 := rfl

end Go.Proofs.Ytmgkoocpnakanaa.W

/-
  api.VersionDef: the frame's openers (printed by tools/gen_struct.py).
-/
namespace Go.Proofs.Ytmgkoocpnakanaa.W
open Go.RowKit Go.ChangeShapes Go.WideShapes
set_option linter.unusedVariables false
set_option maxRecDepth 100000

section
variable {H : Type} {enc : TypeId × Value → H}

theorem wfI {x : Int} (h : (Lit.int .i64 x).wf = true) : I64 x := by
  simp [Lit.wf, IntKind.min, IntKind.max, IntKind.signed, IntKind.bits] at h
  unfold I64; omega
theorem cellsI1 : Try.prog.cellsOf 3 = 1 := by kernel_rfl
theorem cellsS1 : Try.prog.cellsOf 9 = 1 := by kernel_rfl
theorem cellsB1 : Try.prog.cellsOf 4 = 1 := by kernel_rfl
theorem rw_of_slice {α : Type} {m : Nat} {Q : α → Prop} {E : World → List Value → α → Prop} {W : World} {v : Value} {xs : List α} (h : SliceAt W m (fun cs x => E W cs x ∧ Q x) v xs) : Rw m E W v xs ∧ ∀ y ∈ xs, Q y := by
  refine ⟨⟨?_⟩, fun y hy => ?_⟩
  · rcases h.is with h0 | ⟨g, o, cap, e, hg, hc⟩
    · exact .inl h0
    · refine .inr ⟨g, o, cap, e, hg, fun j x hx => ?_⟩
      obtain ⟨cs, h1, h2, h3⟩ := hc j x hx
      exact ⟨cs, h1, h2.1, h3⟩
  · obtain ⟨j, hj, rfl⟩ := List.getElem_of_mem hy
    rcases h.is with ⟨rfl, _⟩ | ⟨g, o, cap, e, hg, hc⟩
    · simp at hj
    · obtain ⟨cs, _, h2, _⟩ := hc j _ (List.getElem?_eq_getElem hj)
      exact h2.2

theorem row_string {W : World} (fuel : Nat) (cs : List Value) (d : DataW H) (p : List MemPlace) (h : DataW.trod enc Try.prog W 0 (fun _ => true) true fuel 27 cs = some (d, p)) (hz : ∀ x ∈ d.weights Try.prog 27, x ≤ reachBytes) :
    ∃ (v : Value) (xs : List ByteArray), cs = [v] ∧ Rw 1 strE W v xs ∧ lenR xs.length ∧ ∀ y ∈ xs, (fun (s : ByteArray) => lenR s.size) y := by
  obtain ⟨v, xs, hv, h1, h2⟩ := arg_slice_cells (P := Try.prog) (m := 1) (fun cs (x : ByteArray) => strE W cs x ∧ (fun (s : ByteArray) => lenR s.size) x) Try.underlying27 cellsS1 (by decide) (fun fuel cs d p h hz => by obtain ⟨x, e, w⟩ := elem_string (P := Try.prog) Try.underlying9 fuel cs d p h hz; exact ⟨x, e, w⟩) h hz
  have hb : 1 ≤ Try.prog.bytesOf 9 := by rw [show Try.prog.bytesOf 9 = 16 from by kernel_rfl]; decide
  have hr : reachBytes = 140737488351232 := by decide
  obtain ⟨h3, h4⟩ := rw_of_slice h1
  exact ⟨v, xs, hv, h3, by unfold lenR; have := Nat.mul_le_mul_left xs.length hb; omega, h4⟩

theorem cellsVdf : Try.prog.cellsOf 32 = 2 := by kernel_rfl
theorem elem_Vdf {W : World} (fuel : Nat) (cs : List Value) (d : DataW H) (p : List MemPlace) (h : DataW.trod enc Try.prog W 0 (fun _ => true) true fuel 32 cs = some (d, p)) (hz : ∀ x ∈ d.weights Try.prog 32, x ≤ reachBytes) :
    ∃ a : Vdf, Vdf.E W cs a ∧ a.Ok := by
  obtain ⟨xs, n, rfl, hx, hl, hxl, hall⟩ := DataW.trod_struct Try.underlying32 h
  rw [cellsVdf] at hl
  match cs, hl with
  | [c0, c1], _ =>
    have hxl' : xs.length = 2 := hxl
    match xs, hxl' with
    | [x0, x1], _ =>
      injection hx with hd _
      have f0 : DataW.trod enc Try.prog W 0 (fun _ => true) true n 9 (List.take (Try.prog.cellsOf 9) (List.drop 0 [c0, c1])) = some x0 := hall 0 _ rfl
      have f1 : DataW.trod enc Try.prog W 0 (fun _ => true) true n 27 (List.take (Try.prog.cellsOf 27) (List.drop 1 [c0, c1])) = some x1 := hall 1 _ rfl
      have cellsLstring : Try.prog.cellsOf 27 = 1 := by kernel_rfl
      simp only [cellsLstring, cellsS1, List.drop_succ_cons, List.take_succ_cons, List.take_zero, List.drop_zero] at f0 f1
      have hw : ∀ {j : Nat} {t : TypeId} {y : DataW H}, [9, 27][j]? = some t → [x0.1, x1.1][j]? = some y → ∀ x ∈ y.weights Try.prog t, x ≤ reachBytes := by
        intro j t y ht hy x hxx
        apply hz
        subst hd
        rw [DataW.weights, Try.underlying32]
        exact DataW.weights_mem_each ht hy x hxx
      obtain ⟨i0, e0, w0⟩ := elem_string (P := Try.prog) Try.underlying9 n [c0] x0.1 x0.2 f0 (hw (j := 0) rfl rfl)
      obtain ⟨v1, i1, e1, r1, w1, q1⟩ := row_string n [c1] x1.1 x1.2 f1 (hw (j := 1) rfl rfl)
      simp only [List.cons.injEq, and_true] at e0 e1
      subst e0 e1
      exact ⟨⟨i0, i1⟩, ⟨c1, rfl, ⟨r1⟩⟩, ⟨w0, w1, q1⟩⟩

theorem row_Vdf {W : World} (fuel : Nat) (cs : List Value) (d : DataW H) (p : List MemPlace) (h : DataW.trod enc Try.prog W 0 (fun _ => true) true fuel 22 cs = some (d, p)) (hz : ∀ x ∈ d.weights Try.prog 22, x ≤ reachBytes) :
    ∃ (v : Value) (xs : List Vdf), cs = [v] ∧ Rw 2 Vdf.E W v xs ∧ lenR xs.length ∧ ∀ y ∈ xs, Vdf.Ok y := by
  obtain ⟨v, xs, hv, h1, h2⟩ := arg_slice_cells (P := Try.prog) (m := 2) (fun cs (x : Vdf) => Vdf.E W cs x ∧ Vdf.Ok x) Try.underlying22 cellsVdf (by decide) elem_Vdf h hz
  have hb : 1 ≤ Try.prog.bytesOf 32 := by rw [show Try.prog.bytesOf 32 = 40 from by kernel_rfl]; decide
  have hr : reachBytes = 140737488351232 := by decide
  obtain ⟨h3, h4⟩ := rw_of_slice h1
  exact ⟨v, xs, hv, h3, by unfold lenR; have := Nat.mul_le_mul_left xs.length hb; omega, h4⟩

structure ArgVdfs (W : World) (v : Value) (l : List Vdf) : Prop where
  row : Rw 2 Vdf.E W v l
  len : lenR l.length
  ok : ∀ x ∈ l, x.Ok
theorem args_Vdfs {base : Nat} {W : World} {v : Value} {d : DataW H} {p : List MemPlace} (hval : Value.okWide Try.prog W .any base 22 v) (h : DataW.Trod enc Try.prog W 0 (fun _ => true) true 22 v d p)
    (hz : ∀ n ∈ d.weights Try.prog 22, n ≤ reachBytes) : ∃ l : List Vdf, ArgVdfs W v l := by
  obtain ⟨a0, len, cap, rfl⟩ := okWide_slice Try.underlying22 hval
  obtain ⟨fuel, hf⟩ := h
  obtain ⟨v, xs, hv, h1, h2, h3⟩ := row_Vdf fuel _ d p hf hz
  have e : Value.slice a0 len cap = v := by have : [Value.slice a0 len cap] = [v] := hv; exact List.head_eq_of_cons_eq this
  exact ⟨xs, e ▸ h1, h2, h3⟩
structure ArgVdf (W : World) (v : Value) (x : Vdf) : Prop where
  is : ∃ cs, v = .agg cs.toArray ∧ Vdf.E W cs x
  ok : x.Ok
theorem args_Vdf {base : Nat} {W : World} {v : Value} {d : DataW H} {p : List MemPlace} (hval : Value.okWide Try.prog W .any base 32 v) (h : DataW.Trod enc Try.prog W 0 (fun _ => true) true 32 v d p)
    (hz : ∀ n ∈ d.weights Try.prog 32, n ≤ reachBytes) : ∃ x : Vdf, ArgVdf W v x := by
  obtain ⟨cs, rfl, _⟩ := okWide_struct Try.underlying32 hval
  obtain ⟨fuel, hf⟩ := h
  obtain ⟨a, hE, hok⟩ := elem_Vdf fuel _ d p hf hz
  exact ⟨a, ⟨cs.toList, by simp, hE⟩, hok⟩

end

end Go.Proofs.Ytmgkoocpnakanaa.W
