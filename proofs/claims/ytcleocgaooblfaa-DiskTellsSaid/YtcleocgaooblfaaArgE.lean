/-
  Rows of ints, of strings that came in: the frame's openers.
-/
import Derived.Test.YtcleocgaooblfaaArgS
import Derived.Test.YtcleocgaooblfaaArgD
namespace Go.Proofs.Ytcleocgaooblfaa.W
open Go.RowKit Go.ChangeShapes Go.WideShapes
set_option linter.unusedVariables false

theorem args_ints {H : Type} {enc : TypeId × Value → H} {base : Nat} {W : World} {v : Value} {d : DataW H} {p : List MemPlace} (hval : Value.okWide Try.prog W .any base 22 v) (h : DataW.Trod enc Try.prog W 0 (fun _ => true) true 22 v d p)
    (hz : ∀ n ∈ d.weights Try.prog 22, n ≤ reachBytes) : ∃ ks : List Int, ArgInts W v ks := arg_ints hval h

structure ArgStrs (W : World) (v : Value) (ss : List ByteArray) : Prop where
  row : SliceAt W 1 (fun cs s => cs = [.string s] ∧ s.size ≤ 140737488351232) v ss
  len : ss.length ≤ 9223372036854775807

theorem args_strs {H : Type} {enc : TypeId × Value → H} {base : Nat} {W : World} {v : Value} {d : DataW H} {p : List MemPlace} (hval : Value.okWide Try.prog W .any base 40 v) (h : DataW.Trod enc Try.prog W 0 (fun _ => true) true 40 v d p)
    (hz : ∀ n ∈ d.weights Try.prog 40, n ≤ reachBytes) : ∃ ss : List ByteArray, ArgStrs W v ss := by
  obtain ⟨ss, h1, h2⟩ := arg_slice (P := Try.prog) (m := 1) (fun cs s => cs = [.string s] ∧ s.size ≤ 140737488351232) Try.underlying40 (by kernel_rfl) (by decide) (elem_string Try.underlying9) (okWide_slice Try.underlying40 hval) h hz
  have hb : Try.prog.bytesOf 9 = 16 := by kernel_rfl
  rw [hb] at h2
  have hr : reachBytes ≤ 140737488355328 := by decide
  exact ⟨ss, h1, by omega⟩

/-- a string's cell, in any world that has grown -/
theorem ArgStrs.at {W : World} {v : Value} {ss : List ByteArray} (h : ArgStrs W v ss) {p : Option Addr} {c n : Nat} (hv : v = .slice p n c) {j : Nat} (hj : j < ss.length) :
    ∃ g o, p = some ⟨g, o, none⟩ ∧ ss[j].size ≤ 140737488351232 ∧ ∀ w, Below W.heap.size W w → w.cell? ⟨g, o + j, none⟩ = some (.string ss[j]) := by
  obtain ⟨g, o, cap, cs, e, _, ⟨rfl, hs⟩, hc⟩ := h.row.at (List.getElem?_eq_getElem hj)
  rw [hv] at e
  injection e with e1 _ _
  refine ⟨g, o, e1, hs, fun w hb => ?_⟩
  have := hc w hb 0 _ rfl
  rwa [Nat.mul_one, Nat.add_zero] at this

end Go.Proofs.Ytcleocgaooblfaa.W
