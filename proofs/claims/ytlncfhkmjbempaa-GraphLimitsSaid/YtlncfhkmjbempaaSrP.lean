/-
  graph.search: what stands before each node. No program.
-/
import Derived.Test.YtlncfhkmjbempaaFin
namespace Go.Proofs.Ytlncfhkmjbempaa.W
open Go.RowKit
set_option linter.unusedVariables false

/-- the node before u on the way that is kept (u itself where the way begins), or -1 -/
def befI (ws : List (List Nat)) (u : Nat) : Int := match ws.find? (fun l => Tj.headN l == u) with
  | none => -1
  | some l => ((l.getD 1 u : Nat) : Int)
def befC (n : Nat) (ws : List (List Nat)) : List Value := (List.range n).map fun u => .int .i64 (befI ws u)

theorem befC_len (n : Nat) (ws : List (List Nat)) : (befC n ws).length = n := by simp [befC]
theorem befC_at {n : Nat} {ws : List (List Nat)} {u : Nat} (hu : u < n) : (befC n ws)[u]? = some (.int .i64 (befI ws u)) := by simp [befC, hu]
theorem befC_nil (n : Nat) : befC n [] = List.replicate n (.int .i64 (-1)) := by
  apply List.ext_getElem <;> simp [befC, befI]

theorem find_head {ws : List (List Nat)} {u : Nat} (h : u ∉ Tj.heads ws) : ws.find? (fun l => Tj.headN l == u) = none :=
  List.find?_eq_none.2 (fun l hl e => h (Tj.mem_heads.2 ⟨l, hl, by simpa using e⟩))
theorem find_some {ws : List (List Nat)} {u : Nat} (h : u ∈ Tj.heads ws) : ∃ l, ws.find? (fun l => Tj.headN l == u) = some l ∧ l ∈ ws ∧ Tj.headN l = u := by
  rcases hf : ws.find? (fun l => Tj.headN l == u) with _ | l
  · obtain ⟨l, hl, e⟩ := Tj.mem_heads.1 h
    have := List.find?_eq_none.1 hf l hl
    simp [e] at this
  · exact ⟨l, rfl, List.mem_of_find?_eq_some hf, by have := List.find?_some hf; simpa using this⟩
theorem befI_neg {ws : List (List Nat)} {u : Nat} : befI ws u < 0 ↔ u ∉ Tj.heads ws := by
  unfold befI
  constructor
  · intro h hm
    obtain ⟨l, e, _, _⟩ := find_some hm
    rw [e] at h
    simp only [] at h
    omega
  · intro h
    rw [find_head h]
    show (-1 : Int) < 0
    omega

/-- one more found -/
theorem befI_add {ws : List (List Nat)} {w : Nat} {l : List Nat} (h : w ∉ Tj.heads ws) (u : Nat) : befI (ws ++ [w :: l]) u = if u = w then ((l.getD 0 w : Nat) : Int) else befI ws u := by
  unfold befI
  rw [List.find?_append]
  by_cases e : u = w
  · subst e
    rw [if_pos rfl, find_head h]
    simp [Tj.headN]
  · rw [if_neg e]
    rcases ws.find? (fun l => Tj.headN l == u) with _ | m
    · have : ¬ w = u := fun h => e h.symm
      simp [Tj.headN, this]
    · simp
theorem befC_set {n : Nat} {ws : List (List Nat)} {w : Nat} {l : List Nat} (h : w ∉ Tj.heads ws) (hw : w < n) : (befC n ws).set w (.int .i64 ((l.getD 0 w : Nat) : Int)) = befC n (ws ++ [w :: l]) := by
  apply List.ext_getElem
  · simp [befC]
  · intro j h1 h2
    rw [List.getElem_set]
    simp only [befC, List.getElem_map, List.getElem_range, befI_add h]
    by_cases e : w = j
    · subst e; simp
    · have : ¬ j = w := fun h => e h.symm
      rw [if_neg e, if_neg this]

/-- the roots that are nodes, ascending, each once -/
def rtsOf (n : Nat) (L : List Int) : List Nat := (L.filter fun x => decide (0 ≤ x) && decide (x < (n : Int))).map Int.toNat
theorem rtsOf_step {n : Nat} {L : List Int} {k : Nat} (hk : k < L.length) : rtsOf n (L.take (k + 1)) = if 0 ≤ L[k] ∧ L[k] < (n : Int) then rtsOf n (L.take k) ++ [L[k].toNat] else rtsOf n (L.take k) := by
  have e : L.take (k + 1) = L.take k ++ [L[k]] := by rw [List.take_add_one, List.getElem?_eq_getElem hk]; rfl
  unfold rtsOf
  rw [e, List.filter_append, List.map_append, List.filter_cons]
  by_cases h : 0 ≤ L[k] ∧ L[k] < (n : Int)
  · rw [if_pos h, if_pos (by simp [h.1, h.2])]; rfl
  · rw [if_neg h, if_neg (by simp; omega)]; simp
theorem mem_rtsOf {n : Nat} {L : List Int} {u : Nat} : u ∈ rtsOf n L ↔ u < n ∧ (u : Int) ∈ L := by
  simp only [rtsOf, List.mem_map, List.mem_filter, Bool.and_eq_true, decide_eq_true_eq]
  constructor
  · rintro ⟨x, ⟨h1, h2, h3⟩, rfl⟩
    exact ⟨by omega, by rw [Int.toNat_of_nonneg h2]; exact h1⟩
  · rintro ⟨h1, h2⟩
    exact ⟨(u : Int), ⟨h2, by omega, by omega⟩, by simp⟩
theorem rtsOf_asc {n : Nat} {L : List Int} (h : L.Pairwise (· < ·)) : (rtsOf n L).Pairwise (· < ·) := by
  unfold rtsOf
  rw [List.pairwise_map]
  refine List.Pairwise.imp_of_mem (fun {a b} ha hb hab => ?_) (h.filter _)
  have h1 := (List.mem_filter.1 ha).2
  have h2 := (List.mem_filter.1 hb).2
  simp only [Bool.and_eq_true, decide_eq_true_eq] at h1 h2
  omega
theorem heads_one (l : List Nat) : Tj.heads (l.map ([·])) = l := by simp [Tj.heads, Tj.headN, Function.comp_def]
theorem heads_app (a b : List (List Nat)) : Tj.heads (a ++ b) = Tj.heads a ++ Tj.heads b := by simp [Tj.heads]
theorem bfs_end (nx : Nat → List Nat) (k i : Nat) (ws : List (List Nat)) (h : ws.length ≤ i) : Tj.bfs nx k i ws = ws := by
  cases k with
  | zero => rfl
  | succ k => unfold Tj.bfs; rw [List.getElem?_eq_none h]

end Go.Proofs.Ytlncfhkmjbempaa.W
