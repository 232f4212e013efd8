/-
  WordTells: for every string, offset, size, number and sign, the law returns true and its input reads as before. No condition.
-/
import Derived.Test.YtcocjdcnmfodcaaG
import Derived.ProofKit
import Derived.OpenShut
namespace Go.Proofs.Ytcocjdcnmfodcaa.W
open Go.ChangeShapes Go.WideShapes Go.ChangeAt Go.RowKit
open Go.ChangeMaps (open_string shut_string)
set_option linter.unusedVariables false

set_option maxHeartbeats 1000000 in
theorem tells_walk (s : ByteArray) (a k n : Int) (sg : Bool) (hs : s.size ≤ maxLen) (_ha : -9223372036854775808 ≤ a ∧ a ≤ 9223372036854775807) (_hk : -9223372036854775808 ≤ k ∧ k ≤ 9223372036854775807) (hn : -9223372036854775808 ≤ n ∧ n ≤ 9223372036854775807) (w : World) :
    Calls Try.prog 3 #[.string s, .int .i64 a, .int .i64 k, .int .i64 n, .bool sg] w fun e w' => e = .returned (.bool true) ∧ Below w.heap.size w w' := by
  obtain ⟨h1, h2⟩ := hn
  have hs' := hs
  unfold maxLen at hs
  by_cases hl : s.size ≤ 1000
  · go_enter Try.func3, Try.ntmps3
    go_wp2_with (first | (go_at_call 8; refine (small_any _).mono ?_; rintro e w1 ⟨rfl, hb1⟩) | (go_at_call 9; refine (get_any _ _ _ _ _ hs').mono ?_; rintro e w' ⟨rfl, rfl⟩) | (go_at_call 10; refine (rget_any _ _ _ _ _ hs').mono ?_; rintro e w' ⟨rfl, rfl⟩) | (go_at_call 11; refine (put_any _ _ _ _ _ hl h1 h2).mono ?_; rintro e w2 ⟨rfl, hb2⟩) | (go_at_call 12; refine (rput_any _ _ _ _ _ hl h1 h2).mono ?_; rintro e w3 ⟨rfl, hb3⟩) | (go_at_call 15; refine (up_any _ _ _ h1 h2).mono ?_; rintro e w' ⟨rfl, rfl⟩) | (go_at_call 17; refine (down_any _ _ _).mono ?_; rintro e w' ⟨rfl, rfl⟩) | (go_at_call 16; refine (rup_any _ _ _).mono ?_; rintro e w' ⟨rfl, rfl⟩) | (go_at_call 18; refine (rdown_any _ _ _).mono ?_; rintro e w' ⟨rfl, rfl⟩) | (go_at_call 19; refine (power_any _ _).mono ?_; rintro e w' ⟨rfl, rfl⟩) | (go_at_call 20; refine (rpower_any _ _).mono ?_; rintro e w' ⟨rfl, rfl⟩) | (go_at_call 13; refine (fits_any _ _ _ _ h1 h2).mono ?_; rintro e w' ⟨rfl, rfl⟩) | (go_at_call 14; refine (rfits_any _ _ _ _ h1 h2).mono ?_; rintro e w' ⟨rfl, rfl⟩))
    all_goals go_ret
    exact ⟨rfl, hb1.trans ((hb2.mono hb1.size).trans (hb3.mono (Nat.le_trans hb1.size hb2.size)))⟩
  · go_enter Try.func3, Try.ntmps3
    go_wp2_with (first | (go_at_call 8; refine (small_any _).mono ?_; rintro e w1 ⟨rfl, hb1⟩))
    go_ret
    exact ⟨rfl, by assumption⟩

end Go.Proofs.Ytcocjdcnmfodcaa.W
