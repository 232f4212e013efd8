/-
  Three writes to two files, and what a crash leaves of them. No program.
-/
import Derived.Test.YtcleocgaooblfaaLawP
import Derived.Test.YtcleocgaooblfaaPut
namespace Go.Proofs.Ytcleocgaooblfaa.W
set_option linter.unusedVariables false

def partL (s : List UInt8) (k : Int) : List UInt8 := if k = 1 then s else if k = 2 then s.take (min s.length 16) else []
def row56 (a b : List UInt8) : List (List UInt8) := [[], [], [], [], [], a, b, []]
def rS (F : List (List UInt8)) (q : List Pn) : St := ⟨row56 [] [], F, q, 0, false, 0, []⟩
def uS (a b : List UInt8) (d : Bool) : St := ⟨row56 a b, row56 a b, [], 0, d, 0, []⟩
def ptL (p : List UInt8) (k : Nat) (s : List UInt8) (x : Int) : List UInt8 := if x = 1 then putL p k s else if x = 2 then putL p k (s.take (min s.length 16)) else p

theorem putL_gap (s : List UInt8) (k : Nat) (t : List UInt8) (h : s.length ≤ k) : putL s k t = s ++ List.replicate (k - s.length) 0 ++ t := by
  rw [← putL_eq s k t (k + t.length) (by omega)]
  have e : s ++ List.replicate (k + t.length - s.length) (0 : UInt8) = (s ++ List.replicate (k - s.length) 0) ++ List.replicate t.length 0 := by
    rw [List.append_assoc, List.replicate_append_replicate]; congr 2; omega
  have hl : (s ++ List.replicate (k - s.length) (0 : UInt8)).length = k := by simp; omega
  rw [e, List.take_left' hl, List.drop_of_length_le (by simp; omega), List.append_nil]

theorem stays5 (a b : List UInt8) (k : Nat) (s : List UInt8) (q : List Pn) (x : Int) (ks : List Int) : stays (row56 a b) (⟨5, k, s⟩ :: q) (x :: ks) = stays (row56 (ptL a k s x) b) q ks := by
  rw [stays]; unfold ptL
  split
  · rfl
  · split <;> rfl
theorem stays6 (a b : List UInt8) (k : Nat) (s : List UInt8) (q : List Pn) (x : Int) (ks : List Int) : stays (row56 a b) (⟨6, k, s⟩ :: q) (x :: ks) = stays (row56 a (ptL b k s x)) q ks := by
  rw [stays]; unfold ptL
  split
  · rfl
  · split <;> rfl

theorem ptL_part (p : List UInt8) (k : Nat) (s : List UInt8) (x : Int) (hs : s ≠ []) : ptL p k s x = if partL s x = [] then p else putL p k (partL s x) := by
  have h0 : 0 < s.length := List.length_pos_iff.2 hs
  have ht : s.take (min s.length 16) ≠ [] := by
    intro e
    have := congrArg List.length e
    rw [List.length_take, List.length_nil] at this; omega
  unfold ptL partL
  by_cases h1 : x = 1
  · simp only [h1, if_true]; rw [if_neg hs]
  · by_cases h2 : x = 2
    · rw [if_neg h1, if_pos h2, if_neg h1, if_pos h2, if_neg ht]
    · rw [if_neg h1, if_neg h2, if_neg h1, if_neg h2, if_pos rfl]

theorem pieces_one (f k : Nat) (s : List UInt8) (hs : s ≠ []) (h : s.length ≤ 32) (hk : k % 32 = 0) : pieces f k s = [⟨f, k, s⟩] := by
  have h0 : 0 < s.length := List.length_pos_iff.2 hs
  unfold pieces
  obtain ⟨n, hn⟩ : ∃ n, s.length = n + 1 := ⟨s.length - 1, by omega⟩
  rw [hn, piecesF, if_neg hs, hk]
  have e : min s.length (32 - 0) = s.length := by omega
  rw [e, List.take_of_length_le (Nat.le_refl _), List.drop_of_length_le (Nat.le_refl _)]
  cases n <;> rfl

theorem reord_write (F : List (List UInt8)) (q : List Pn) (f k : Nat) (s : List UInt8) (hF : F.length = 8) (hf : f < 8) (hs : s ≠ []) (h : s.length ≤ 32) (hk : k % 32 = 0) (hk2 : k ≤ 1000) :
    ∃ F', F'.length = 8 ∧ WriteE (rS F q) f k s = 0 ∧ WriteS (rS F q) f k s = rS F' (q ++ [⟨f, k, s⟩]) := by
  have := (show Calm (rS F q) from ⟨rfl, rfl⟩).add (f := f) (k := k) (s := s) hf (by omega) (fun e => absurd e hs) hF
  refine ⟨F.set f (putL (F.getD f []) k s), by simpa using hF, this.1, this.2.trans ?_⟩
  simp [addS, rS, pieces_one f k s hs h hk]

/-- what file 5 and file 6 hold -/
def f5L (a b : List UInt8) (k0 k2 : Int) : List UInt8 := if partL b k2 = [] then partL a k0 else partL a k0 ++ List.replicate (32 - (partL a k0).length) 0 ++ partL b k2
def f6L (c : List UInt8) (k1 : Int) : List UInt8 := if partL c k1 = [] then [] else List.replicate 64 0 ++ partL c k1

theorem partL_le (s : List UInt8) (k : Int) : (partL s k).length ≤ s.length := by
  unfold partL
  split
  · exact Nat.le_refl _
  · split
    · rw [List.length_take]; omega
    · simp

theorem reord_crash (F : List (List UInt8)) (a b c : List UInt8) (k0 k1 k2 : Int) (ha : a ≠ []) (hb : b ≠ []) (hc : c ≠ []) (hal : a.length ≤ 32) :
    crashS (rS F ([] ++ [⟨5, 0, a⟩] ++ [⟨6, 64, c⟩] ++ [⟨5, 32, b⟩])) [k0, k1, k2] = uS (f5L a b k0 k2) (f6L c k1) true := by
  have e : stays (row56 [] []) ([] ++ [⟨5, 0, a⟩] ++ [⟨6, 64, c⟩] ++ [⟨5, 32, b⟩]) [k0, k1, k2] = row56 (f5L a b k0 k2) (f6L c k1) := by
    simp only [List.nil_append, List.cons_append]
    rw [stays5, stays6, stays5]
    have s0 : ∀ ls, stays ls [] [] = ls := fun _ => rfl
    rw [s0, ptL_part _ _ _ _ ha, ptL_part _ _ _ _ hb, ptL_part _ _ _ _ hc]
    have e1 : (if partL a k0 = [] then [] else putL [] 0 (partL a k0)) = partL a k0 := by
      split
      · rename_i h; rw [h]
      · rw [putL_zero]
    rw [e1]
    have hl := partL_le a k0
    unfold f5L f6L
    rw [putL_gap _ 32 _ (by omega), putL_gap _ 64 _ (by simp)]
    rfl
  have h : ∀ q, crashS (rS F q) [k0, k1, k2] = ⟨stays (row56 [] []) q [k0, k1, k2], stays (row56 [] []) q [k0, k1, k2], [], 0, true, 0, []⟩ := fun _ => rfl
  rw [h, e]; rfl

end Go.Proofs.Ytcleocgaooblfaa.W
