/-
  A section's form in plain words. No program.
-/
import Derived.Test.YtimbhnnidohmaaaDoorObj
import Derived.Test.YtimbhnnidohmaaaDoorWireP
import Derived.Test.YtimbhnnidohmaaaDoorSum
namespace Go.Proofs.YtimbhnnidohmaaaDoor.W
set_option linter.unusedVariables false

def widthI (k : Int) : Nat := if k = 2 then 4 else if k = 3 then 2 else 8
def codeB (k : Int) : Bool := decide (5 ≤ k ∧ k ≤ 10)
/-- the section at a place, if there is one -/
def secAt (o : Ob) (i : Int) : Option Sec := if 0 ≤ i then o.secs[i.toNat]? else none
def secOk (s : Sec) : Bool := decide (0 ≤ s.kind ∧ 0 ≤ s.align ∧ 0 ≤ s.size)
def hasB (o : Ob) (i : Int) : Bool := match secAt o i with | some s => secOk s | none => false
def relHit (r : Rel) (sec : Int) (n : Nat) : Bool := decide (r.sec = sec ∧ (0 ≤ r.kind ∧ r.kind < 13) ∧ 0 ≤ r.at_ ∧ r.at_ ≤ (n : Int) - widthI r.kind)
def relFrom (r : Rel) : Nat := r.at_.toNat + (if codeB r.kind then 4 else 0)
def relTo (r : Rel) : Nat := r.at_.toNat + widthI r.kind
def zeroAt (b : List UInt8) (a z : Nat) : List UInt8 := b.take a ++ List.replicate (z - a) 0 ++ b.drop z
def plainStep (sec : Int) (b : List UInt8) (r : Rel) : List UInt8 := if relHit r sec b.length then zeroAt b (relFrom r) (relTo r) else b
def plainL (sec : Int) (rels : List Rel) (b : List UInt8) : List UInt8 := rels.foldl (plainStep sec) b
def shapeL (kind align size : Nat) (b : List UInt8) : List UInt8 := numL kind ++ numL align ++ numL size ++ textL b
def formL (o : Ob) (i : Int) : List UInt8 := match secAt o i with
  | some s => if secOk s then sumL (shapeL s.kind.toNat s.align.toNat s.size.toNat (plainL i o.rels s.bytes.data.toList)) else []
  | none => []

theorem widthI_le (k : Int) : 2 ≤ widthI k ∧ widthI k ≤ 8 := by unfold widthI; split; decide; split <;> decide
theorem width_code {k : Int} (h : codeB k = true) : widthI k = 8 := by
  unfold codeB at h
  have := of_decide_eq_true h
  unfold widthI
  rw [if_neg (by omega), if_neg (by omega)]
theorem relHit_le {r : Rel} {sec : Int} {n : Nat} (h : relHit r sec n = true) : relFrom r ≤ relTo r ∧ relTo r ≤ n ∧ r.at_.toNat ≤ relFrom r ∧ (r.at_ = (r.at_.toNat : Int)) := by
  have h := of_decide_eq_true h
  obtain ⟨_, _, h0, h1⟩ := h
  have hw := widthI_le r.kind
  unfold relFrom relTo
  refine ⟨?_, by omega, by omega, by omega⟩
  split
  · rename_i hc; rw [width_code hc]; omega
  · omega
theorem zeroAt_len {b : List UInt8} {a z : Nat} (h : a ≤ z) (hz : z ≤ b.length) : (zeroAt b a z).length = b.length := by
  simp [zeroAt]; omega
theorem plainStep_len (sec : Int) (b : List UInt8) (r : Rel) : (plainStep sec b r).length = b.length := by
  unfold plainStep
  split
  · rename_i h; have := relHit_le h; exact zeroAt_len this.1 this.2.1
  · rfl
theorem plainL_len (sec : Int) : ∀ (rels : List Rel) (b : List UInt8), (plainL sec rels b).length = b.length
  | [], _ => rfl
  | r :: rels, b => (plainL_len sec rels (plainStep sec b r)).trans (plainStep_len sec b r)
theorem plainL_take (sec : Int) (rels : List Rel) (b : List UInt8) (k : Nat) (h : k < rels.length) : plainL sec (rels.take (k + 1)) b = plainStep sec (plainL sec (rels.take k) b) rels[k] := by
  unfold plainL
  rw [List.take_succ_eq_append_getElem h, List.foldl_append]; rfl

theorem secAt_in {o : Ob} {k : Nat} (h : k < o.secs.length) : secAt o (k : Int) = some o.secs[k] := by
  unfold secAt
  rw [if_pos (by omega), Int.toNat_natCast, List.getElem?_eq_getElem h]
theorem secAt_out {o : Ob} {i : Int} (h : i < 0 ∨ (o.secs.length : Int) ≤ i) : secAt o i = none := by
  unfold secAt
  split
  · rw [List.getElem?_eq_none (by omega)]
  · rfl

end Go.Proofs.YtimbhnnidohmaaaDoor.W
