/-
  The walks of object.within, width, has, ops.
-/
import Derived.Test.YtimbhnnidohmaaaDoorFormP
import Derived.Test.YtimbhnnidohmaaaDoorWire
import Derived.Deep.RegionHeld
import Derived.Deep.QuietTactic
import Derived.BigQuiet
namespace Go.Proofs.YtimbhnnidohmaaaDoor.W
open Go.RowKit
set_option linter.unusedVariables false

theorem owithin_any (n u : Int) (w : World) : Calls Tryd.prog 24 #[.int .i64 n, .int .i64 u] w fun e w' => e = .returned (.bool (decide (0 ≤ n ∧ n < u))) ∧ w = w' := by
  by_cases h0 : 0 ≤ n
  · by_cases h1 : n < u
    · go_enter Tryd.func24, Tryd.ntmps24
      go_wp2
      go_ret
      exact ⟨ret_b (by rw [Bool.eq_iff_iff]; simp; try omega), rfl⟩
    · go_enter Tryd.func24, Tryd.ntmps24
      go_wp2
      go_ret
      exact ⟨ret_b (by rw [Bool.eq_iff_iff]; simp; try omega), rfl⟩
  · go_enter Tryd.func24, Tryd.ntmps24
    go_wp2
    go_ret
    exact ⟨ret_b (by rw [Bool.eq_iff_iff]; simp; try omega), rfl⟩

theorem owidth_any (k : Int) (w : World) : Calls Tryd.prog 23 #[.int .i64 k] w fun e w' => e = .returned (.int .i64 (widthI k : Nat)) ∧ w = w' := by
  by_cases h2 : k = 2
  · subst h2
    go_enter Tryd.func23, Tryd.ntmps23
    go_wp2
    go_ret
    exact ⟨rfl, rfl⟩
  · by_cases h3 : k = 3
    · subst h3
      go_enter Tryd.func23, Tryd.ntmps23
      go_wp2
      go_ret
      exact ⟨rfl, rfl⟩
    · have e : ((widthI k : Nat) : Int) = 8 := by unfold widthI; rw [if_neg h2, if_neg h3]; rfl
      rw [e]
      have d2 : (k == 2) = false := by simpa using h2
      have d3 : (k == 3) = false := by simpa using h3
      go_enter Tryd.func23, Tryd.ntmps23
      go_wp2
      go_ret
      exact ⟨rfl, rfl⟩

/-- ops: nil or not -/
theorem oops_any (k : Int) (w : World) : Calls Tryd.prog 25 #[.int .i64 k] w fun e w' => (∃ v, e = .returned v ∧ ((codeB k = false ∧ v = .slice none 0 0) ∨ (codeB k = true ∧ ∃ a n c, v = .slice (some a) n c))) ∧ Below w.heap.size w w' := by
  have hr : k = 5 ∨ k = 6 ∨ k = 7 ∨ k = 8 ∨ k = 9 ∨ k = 10 ∨ (¬ k = 5 ∧ ¬ k = 6 ∧ ¬ k = 7 ∧ ¬ k = 8 ∧ ¬ k = 9 ∧ ¬ k = 10) := by omega
  rcases hr with rfl | rfl | rfl | rfl | rfl | rfl | ⟨h5, h6, h7, h8, h9, h10⟩
  case inr.inr.inr.inr.inr.inr =>
    have d5 : (k == 5) = false := by simpa using h5
    have d6 : (k == 6) = false := by simpa using h6
    have d7 : (k == 7) = false := by simpa using h7
    have d8 : (k == 8) = false := by simpa using h8
    have d9 : (k == 9) = false := by simpa using h9
    have d10 : (k == 10) = false := by simpa using h10
    have hc : Hd (codeB k = false) := ⟨decide_eq_false (by omega)⟩
    go_enter Tryd.func25, Tryd.ntmps25
    go_wp2
    go_ret
    exact ⟨⟨_, rfl, .inl ⟨hc.out, rfl⟩⟩, Below.refl _ _⟩
  all_goals
    go_enter Tryd.func25, Tryd.ntmps25
    go_wp2
    go_ret
    exact ⟨⟨_, rfl, .inr ⟨by decide, _, _, _, rfl⟩⟩, by go_grown⟩

theorem ohas_any (w : World) (o : Ob) (x1 x2 x3 x4 x5 x6 x7 x8 x9 x10 : Value) (i : Int) (hA : o.At w x1 x2 x3 x4 x5 x6 x7 x8 x9 x10) (hl : lenR o.secs.length) :
    Calls Tryd.prog 22 #[.agg (o.cells x1 x2 x3 x4 x5 x6 x7 x8 x9 x10).toArray, .int .i64 i] w fun e w' => e = .returned (.bool (hasB o i)) ∧ Below w.heap.size w w' := by
  have hcs : (o.cells x1 x2 x3 x4 x5 x6 x7 x8 x9 x10).toArray = #[.string o.name, x1, x2, x3, x4, x5, x6, x7, x8, x9, x10] := rfl
  rw [hcs]
  have hS := hA.secs
  obtain ⟨p, c, rfl⟩ := hS.slice
  obtain ⟨N, hN⟩ : ∃ N, o.secs.length = N := ⟨_, rfl⟩
  unfold lenR at hl
  rw [hN] at hl ⊢
  by_cases hin : 0 ≤ i ∧ i < (N : Int)
  · obtain ⟨k, rfl⟩ := Int.eq_ofNat_of_zero_le hin.1
    have hk : k < N := by omega
    obtain ⟨g, of, cs, rfl, hg, hcl, hE, hc⟩ := hS.at rfl (j := k) (by omega)
    have hB : Hd (hasB o (k : Int) = secOk o.secs[k]) := ⟨by unfold hasB; rw [secAt_in (by omega)]⟩
    rw [hB.out]
    obtain ⟨s, hs⟩ : ∃ s, o.secs[k] = s := ⟨_, rfl⟩
    rw [hs] at hE ⊢
    have hE' : cs = s.cells := hE
    subst hE'
    have hcell : ∀ (o' : Obj), True := fun _ => trivial
    have c1 : ∀ ob, (w.alloc ob).cell? ⟨g, of + k * 6 + 1, none⟩ = some (.int .i64 s.kind) := fun ob => by rw [World.cell?_alloc_some _ _ _ (by rw [hc 1 _ rfl]; rfl)]; exact hc 1 _ rfl
    have c2 : ∀ ob, (w.alloc ob).cell? ⟨g, of + k * 6 + 2, none⟩ = some (.int .i64 s.align) := fun ob => by rw [World.cell?_alloc_some _ _ _ (by rw [hc 2 _ rfl]; rfl)]; exact hc 2 _ rfl
    have c3 : ∀ ob, (w.alloc ob).cell? ⟨g, of + k * 6 + 3, none⟩ = some (.int .i64 s.size) := fun ob => by rw [World.cell?_alloc_some _ _ _ (by rw [hc 3 _ rfl]; rfl)]; exact hc 3 _ rfl
    have hd : decide (0 ≤ (k : Int) ∧ (k : Int) < (N : Int)) = true := by simp; omega
    have HW := Hd.mk (fun w => owithin_any (k : Int) (N : Int) w)
    rw [hd] at HW
    clear hc hE hA hS hcs hB hs hcell hd hN hin
    by_cases k1 : 0 ≤ s.kind
    · by_cases k2 : 0 ≤ s.align
      · have hr : Hd (secOk s = decide (0 ≤ s.size)) := ⟨by unfold secOk; rw [Bool.eq_iff_iff]; simp [k1, k2]⟩
        rw [hr.out]
        go_enter Tryd.func22, Tryd.ntmps22
        go_wp2_with fail
        refine (HW.out _).mono ?_; rintro e w1 ⟨rfl, rfl⟩
        go_wp2
        go_ret
        exact ⟨rfl, by go_grown⟩
      · have hr : Hd (secOk s = false) := ⟨by unfold secOk; exact decide_eq_false (fun h => k2 h.2.1)⟩
        rw [hr.out]
        go_enter Tryd.func22, Tryd.ntmps22
        go_wp2_with fail
        refine (HW.out _).mono ?_; rintro e w1 ⟨rfl, rfl⟩
        go_wp2
        go_ret
        exact ⟨rfl, by go_grown⟩
    · have hr : Hd (secOk s = false) := ⟨by unfold secOk; exact decide_eq_false (fun h => k1 h.1)⟩
      rw [hr.out]
      go_enter Tryd.func22, Tryd.ntmps22
      go_wp2_with fail
      refine (HW.out _).mono ?_; rintro e w1 ⟨rfl, rfl⟩
      go_wp2
      go_ret
      exact ⟨rfl, by go_grown⟩
  · have hB : Hd (hasB o i = false) := ⟨by unfold hasB; rw [secAt_out (by omega)]⟩
    rw [hB.out]
    have hd : decide (0 ≤ i ∧ i < (N : Int)) = false := decide_eq_false hin
    have HW := Hd.mk (fun w => owithin_any i (N : Int) w)
    rw [hd] at HW
    clear hA hS hcs hB hd hN hin
    go_enter Tryd.func22, Tryd.ntmps22
    go_wp2_with fail
    refine (HW.out _).mono ?_; rintro e w1 ⟨rfl, rfl⟩
    go_wp2
    go_ret
    exact ⟨rfl, by go_grown⟩

end Go.Proofs.YtimbhnnidohmaaaDoor.W
