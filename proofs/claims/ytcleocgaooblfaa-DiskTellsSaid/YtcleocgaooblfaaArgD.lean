/-
  A row of ints that came in.
-/
import Derived.Test.YtcleocgaooblfaaArg
import Derived.Test.YtcleocgaooblfaaRep
namespace Go.Proofs.Ytcleocgaooblfaa.W
open Go.RowKit Go.ChangeShapes Go.WideShapes
set_option linter.unusedVariables false

structure ArgInts (W : World) (v : Value) (ks : List Int) : Prop where
  row : IR (fun g => W.heap.size ≤ g) W v ks
  len : ks.length ≤ 9223372036854775807

theorem arg_ints {H : Type} {base : Nat} {enc : TypeId × Value → H} {W : World} {v : Value} {d : DataW H} {p : List MemPlace} (hval : Value.okWide Try.prog W .any base 22 v) (h : DataW.Trod enc Try.prog W 0 (fun _ => true) true 22 v d p) :
    ∃ ks : List Int, ArgInts W v ks := by
  obtain ⟨ks, hks, hl, hw⟩ := arg_ints_raw (P := Try.prog) Try.underlying22 Try.underlying3 (by kernel_rfl) (okWide_slice Try.underlying22 hval) h
  refine ⟨ks, ⟨?_, by unfold maxLen at hl; omega⟩⟩
  rcases hks with h0 | ⟨g, o, cap, rfl, hg, hc⟩
  · exact ⟨.inl h0⟩
  · exact ⟨.inr ⟨g, o, cap, rfl, Nat.not_le.2 hg, hc⟩⟩

theorem IR.below {W w : World} {v : Value} {ks : List Int} (h : IR (fun g => W.heap.size ≤ g) W v ks) (hb : Below W.heap.size W w) : IR (fun g => W.heap.size ≤ g) w v ks :=
  h.keeps (Keeps.of_below hb (fun k _ h => h))

end Go.Proofs.Ytcleocgaooblfaa.W
