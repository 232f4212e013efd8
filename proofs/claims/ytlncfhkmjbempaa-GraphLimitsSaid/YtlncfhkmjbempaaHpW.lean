/-
  The heap's methods: Len, Less.
-/
import Derived.Test.YtlncfhkmjbempaaHpT
import Derived.Deep.QuietTactic
import Derived.BigQuiet
import Derived.RegionTactic
import Derived.ChangeAlike
namespace Go.Proofs.Ytlncfhkmjbempaa.W
open Go.RowKit
set_option linter.unusedVariables false

theorem flen_any (w : World) (p : Option Addr) (m c : Nat) : Calls Try.prog 91 #[.slice p m c] w fun e w' => e = .returned (.int .i64 (m : Int)) ∧ w = w' := by
  go_enter Try.func91, Try.ntmps91
  go_wp2
  go_ret
  exact ⟨rfl, rfl⟩

theorem fless_any (w : World) (g m c i j gi mi ci gj mj cj : Nat) (a b : Int) (hi : i < m) (hj : j < m) (hm : m ≤ 1000000) (h1 : w.cell? ⟨g, i, none⟩ = some (.slice (some ⟨gi, 0, none⟩) (mi + 1) ci)) (h2 : w.cell? ⟨g, j, none⟩ = some (.slice (some ⟨gj, 0, none⟩) (mj + 1) cj))
    (h3 : w.cell? ⟨gi, 0, none⟩ = some (.int .i64 a)) (h4 : w.cell? ⟨gj, 0, none⟩ = some (.int .i64 b)) :
    Calls Try.prog 92 #[.slice (some ⟨g, 0, none⟩) m c, .int .i64 i, .int .i64 j] w fun e w' => e = .returned (.bool (decide (a < b))) ∧ Below w.heap.size w w' := by
  go_enter Try.func92, Try.ntmps92
  go_wp2
  go_quiet (fail)
  go_wp2
  go_ret
  exact ⟨rfl, ((Keeps.refl (fun _ => False) w).drewN _).below (Nat.le_refl _) (fun _ _ h => h)⟩

theorem fswap_any (w : World) (B g m c i j p q p2 q2 : Nat) (b1 b2 : Option Addr) (xs : List Value) (h : Own w B 23 (.slice (some ⟨g, 0, none⟩) m c) xs) (hm : m ≤ 1000000) (hi : i < m) (hj : j < m) (h1 : xs[i]? = some (.slice b1 p q)) (h2 : xs[j]? = some (.slice b2 p2 q2)) :
    Calls Try.prog 95 #[.slice (some ⟨g, 0, none⟩) m c, .int .i64 i, .int .i64 j] w fun e w' => e = .returned (.tuple #[]) ∧ Own w' B 23 (.slice (some ⟨g, 0, none⟩) m c) ((xs.set i (.slice b2 p2 q2)).set j (.slice b1 p q)) ∧ Keeps (fun k => k = g) w w' := by
  obtain ⟨c1, f1⟩ := h.at h1
  obtain ⟨c2, f2⟩ := h.at h2
  have g1 : (xs.set i (.slice b2 p2 q2))[j]? = some (.slice b2 p2 q2) := by
    have hij := (List.getElem?_eq_some_iff.1 h1).1
    by_cases e : i = j
    · subst e; exact List.getElem?_set_self hij
    · rw [List.getElem?_set_ne e]; exact h2
  have g2 : (xs.set j (.slice b1 p q))[i]? = some (.slice b1 p q) := by
    have hij := (List.getElem?_eq_some_iff.1 h2).1
    by_cases e : j = i
    · subst e; exact List.getElem?_set_self hij
    · rw [List.getElem?_set_ne e]; exact h1
  obtain ⟨c3, f3⟩ := (h.setAt (.slice b2 p2 q2) (j := i)).at g1
  obtain ⟨c4, f4⟩ := (h.setAt (.slice b1 p q) (j := j)).at g2
  have H := Hd.mk h
  clear h
  go_enter Try.func95, Try.ntmps95
  go_region
  all_goals
    go_end0
    refine ⟨rfl, ?_, ?_⟩
    · exact (((H.out.setAt _).setAt _).keeps ((Keeps.refl (fun _ => False) _).drew) (fun _ _ h => h))
    · exact (((Keeps.refl (fun k => k = g) w).setCell (p := ⟨g, i, none⟩) (.inr rfl) _).setCell (p := ⟨g, j, none⟩) (.inr rfl) _).drew

end Go.Proofs.Ytlncfhkmjbempaa.W
