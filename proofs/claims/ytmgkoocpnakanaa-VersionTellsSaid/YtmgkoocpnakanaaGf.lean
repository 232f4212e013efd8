/-
  What next gives, in plain words: the arcs' ends, ascending, each once. No program.
-/
import Derived.Test.YtmgkoocpnakanaaGe
import Derived.Test.YtmgkoocpnakanaaHpP
namespace Go.Proofs.Ytmgkoocpnakanaa.W
open Go.RowKit
set_option linter.unusedVariables false

theorem comp_inv (d : Array Int) (hs : ∀ i j, i < j → j < d.size → d[i]! ≤ d[j]!) : ∀ m, m ≤ d.size →
    (Lib.compactUpTo d m).Pairwise (· < ·) ∧ (∀ x ∈ Lib.compactUpTo d m, 0 < m ∧ x ≤ d[m - 1]!) ∧ (∀ j, j < m → d[j]! ∈ Lib.compactUpTo d m) ∧ (∀ x ∈ Lib.compactUpTo d m, ∃ j, j < m ∧ d[j]! = x)
  | 0, _ => by
    have : Lib.compactUpTo d 0 = [] := rfl
    rw [this]
    exact ⟨List.Pairwise.nil, by simp, by simp, by simp⟩
  | m + 1, hm => by
    obtain ⟨h1, h2, h3, h4⟩ := comp_inv d hs m (by omega)
    rw [Lib.compactUpTo_succ]
    by_cases hk : Lib.keeps d m = true
    · rw [if_pos hk]
      have hlt : ∀ x ∈ Lib.compactUpTo d m, x < d[m]! := fun x hx => by
        obtain ⟨h0, hle⟩ := h2 x hx
        have hmono := hs (m - 1) m (by omega) (by omega)
        unfold Lib.keeps at hk
        rw [decide_eq_true_eq] at hk
        rcases hk with hk | hk
        · omega
        · have : d[m - 1]! ≠ d[m]! := fun e => hk e.symm
          omega
      refine ⟨?_, ?_, ?_, ?_⟩
      · rw [List.pairwise_append]
        exact ⟨h1, by simp, fun x hx y hy => by simp at hy; subst hy; exact hlt x hx⟩
      · intro x hx
        rw [Nat.add_sub_cancel]
        rcases List.mem_append.1 hx with hx | hx
        · exact ⟨by omega, Int.le_of_lt (hlt x hx)⟩
        · simp at hx; subst hx; exact ⟨by omega, Int.le_refl _⟩
      · intro j hj
        by_cases e : j = m
        · subst e; exact List.mem_append_right _ (by simp)
        · exact List.mem_append_left _ (h3 j (by omega))
      · intro x hx
        rcases List.mem_append.1 hx with hx | hx
        · obtain ⟨j, hj, e⟩ := h4 x hx; exact ⟨j, by omega, e⟩
        · simp at hx; subst hx; exact ⟨m, by omega, rfl⟩
    · rw [if_neg hk, List.append_nil]
      unfold Lib.keeps at hk
      rw [decide_eq_true_eq] at hk
      have hm0 : m ≠ 0 := fun e => hk (.inl e)
      have he : d[m]! = d[m - 1]! := Decidable.byContradiction fun e => hk (.inr e)
      refine ⟨h1, ?_, ?_, ?_⟩
      · intro x hx
        rw [Nat.add_sub_cancel, he]
        exact ⟨by omega, (h2 x hx).2⟩
      · intro j hj
        by_cases e : j = m
        · subst e; rw [he]; exact h3 _ (by omega)
        · exact h3 j (by omega)
      · intro x hx
        obtain ⟨j, hj, e⟩ := h4 x hx; exact ⟨j, by omega, e⟩
theorem arr_bang (l : List Int) (j : Nat) (h : j < l.length) : l.toArray[j]! = l[j] := by simp [h]
theorem compact_sorted {l : List Int} (h : l.Pairwise (· ≤ ·)) : (Lib.compact l).Pairwise (· < ·) ∧ ∀ x, x ∈ Lib.compact l ↔ x ∈ l := by
  have hs : ∀ i j, i < j → j < l.toArray.size → l.toArray[i]! ≤ l.toArray[j]! := fun i j hij hj => by
    have hj' : j < l.length := by simpa using hj
    rw [arr_bang l i (by omega), arr_bang l j hj']
    exact List.pairwise_iff_getElem.1 h i j (by omega) hj' hij
  obtain ⟨h1, h2, h3, h4⟩ := comp_inv l.toArray hs l.length (by simp)
  refine ⟨h1, fun x => ⟨fun hx => ?_, fun hx => ?_⟩⟩
  · obtain ⟨j, hj, e⟩ := h4 x hx
    rw [arr_bang l j hj] at e
    exact e ▸ List.getElem_mem hj
  · obtain ⟨j, hj, e⟩ := List.getElem_of_mem hx
    have := h3 j hj
    rw [arr_bang l j hj, e] at this
    exact this
theorem merge_le (l : List Int) : (l.mergeSort fun x y => decide (x ≤ y)).Pairwise (· ≤ ·) := by
  have := List.pairwise_mergeSort (le := fun x y : Int => decide (x ≤ y)) (fun a b c h1 h2 => by simp only [decide_eq_true_eq] at *; omega) (fun a b => by simp only [Bool.or_eq_true, decide_eq_true_eq]; omega) l
  exact this.imp (fun h => by simpa using h)

theorem sorted_ext : ∀ (l m : List Int), l.Pairwise (· < ·) → m.Pairwise (· < ·) → (∀ x, x ∈ l ↔ x ∈ m) → l = m
  | [], [], _, _, _ => rfl
  | [], y :: m, _, _, h => absurd ((h y).2 (by simp)) (by simp)
  | x :: l, [], _, _, h => absurd ((h x).1 (by simp)) (by simp)
  | x :: l, y :: m, h1, h2, h => by
    rw [List.pairwise_cons] at h1 h2
    have e : x = y := by
      rcases List.mem_cons.1 ((h x).1 (by simp)) with e | hx
      · exact e
      · rcases List.mem_cons.1 ((h y).2 (by simp)) with e | hy
        · exact e.symm
        · have := h1.1 y hy; have := h2.1 x hx; omega
    subst e
    rw [sorted_ext l m h1.2 h2.2 (fun z => ?_)]
    constructor
    · intro hz
      rcases List.mem_cons.1 ((h z).1 (by simp [hz])) with e | hz'
      · subst e; have := h1.1 z hz; omega
      · exact hz'
    · intro hz
      rcases List.mem_cons.1 ((h z).2 (by simp [hz])) with e | hz'
      · subst e; have := h2.1 z hz; omega
      · exact hz'

/-! The exchange of two registers. -/

/-- there is an arc -/
def arcB (arcs : List Arc) (v x : Nat) : Bool := arcs.any fun a => a.f == (v : Int) && a.t == (x : Int)
/-- where the arcs from v lead, ascending -/
def nx (n : Nat) (arcs : List Arc) (v : Nat) : List Nat := (List.range n).filter (arcB arcs v)
/-- nodes as ints -/
def intL (l : List Nat) : List Int := l.map Int.ofNat

theorem norm_sorted (zs : List Int) : (norm zs).Pairwise (· < ·) ∧ ∀ x, x ∈ norm zs ↔ x ∈ zs := by
  obtain ⟨h1, h2⟩ := compact_sorted (merge_le zs)
  exact ⟨h1, fun x => (h2 x).trans (List.mem_mergeSort)⟩

theorem norm_row {n : Nat} {arcs : List Arc} (ht : ∀ a ∈ arcs, 0 ≤ a.t ∧ a.t < (n : Int)) (v : Nat) : norm (rowF arcs v) = intL (nx n arcs v) := by
  obtain ⟨h1, h2⟩ := norm_sorted (rowF arcs v)
  refine sorted_ext _ _ h1 ?_ (fun x => ?_)
  · exact List.pairwise_map.2 (((List.pairwise_lt_range (n := n)).filter _).imp (fun {a b} h => by show (a : Int) < (b : Int); omega))
  · rw [h2]
    simp only [rowF, intL, nx, arcB, List.mem_map, List.mem_filter, List.mem_range, List.any_eq_true, Bool.and_eq_true, beq_iff_eq]
    constructor
    · rintro ⟨a, ⟨ha, hf⟩, rfl⟩
      have := ht a ha
      exact ⟨a.t.toNat, ⟨by omega, a, ha, hf, by omega⟩, by show ((a.t.toNat : Nat) : Int) = a.t; omega⟩
    · rintro ⟨y, ⟨_, a, ha, hf, hy⟩, rfl⟩
      exact ⟨a, ⟨ha, hf⟩, hy⟩

theorem nextI_eq {n : Nat} {arcs : List Arc} (ht : ∀ a ∈ arcs, 0 ≤ a.t ∧ a.t < (n : Int)) : nextI n arcs = (List.range n).map fun v => intL (nx n arcs v) := by
  unfold nextI
  exact List.map_congr_left (fun v _ => norm_row ht v)

theorem nx_asc (n : Nat) (arcs : List Arc) (v : Nat) : (nx n arcs v).Pairwise (· < ·) := (List.pairwise_lt_range (n := n)).filter _
theorem nx_lt {n : Nat} {arcs : List Arc} {v x : Nat} (h : x ∈ nx n arcs v) : x < n := List.mem_range.1 (List.mem_filter.1 h).1
theorem mem_nx {n : Nat} {arcs : List Arc} {v x : Nat} : x ∈ nx n arcs v ↔ x < n ∧ ∃ a ∈ arcs, a.f = (v : Int) ∧ a.t = (x : Int) := by
  simp [nx, arcB]

end Go.Proofs.Ytmgkoocpnakanaa.W
