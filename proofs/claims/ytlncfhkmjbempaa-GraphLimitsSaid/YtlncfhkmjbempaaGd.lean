/-
  Rows of the call's own: sorted, without what is twice; made anew.
-/
import Derived.Test.YtlncfhkmjbempaaGc
import Derived.Sort.OwnSortedInts
namespace Go.Proofs.Ytlncfhkmjbempaa.W
open Go.RowKit
set_option linter.unusedVariables false

theorem Own.pre {w : World} {B : Nat} {e : TypeId} {g n c : Nat} {xs : List Value} (h : Own w B e (.slice (some ⟨g, 0, none⟩) n c) xs) {k : Nat} (hk : k ≤ xs.length) : Own w B e (.slice (some ⟨g, 0, none⟩) k c) (xs.take k) := by
  rcases h.is with ⟨e', _⟩ | ⟨g', cap, e', hB, hn, hm, hb, hc, hf⟩
  · cases e'
  · injection e' with e1 e2 e3; injection e1 with e1; injection e1 with e1 _ _
    subst e1 e3
    refine ⟨.inr ⟨g, c, by rw [List.length_take, Nat.min_eq_left hk], hB, by rw [List.length_take]; omega, hm, hb, fun j u hj => hc j u ?_, hf⟩⟩
    rw [List.getElem?_take] at hj
    split at hj
    · exact hj
    · cases hj

theorem Own.at {w : World} {B : Nat} {e : TypeId} {g n c : Nat} {xs : List Value} (h : Own w B e (.slice (some ⟨g, 0, none⟩) n c) xs) {j : Nat} {u : Value} (hj : xs[j]? = some u) : w.cell? ⟨g, j, none⟩ = some u ∧ w.frozen? ⟨g, j, none⟩ = false := by
  rcases h.is with ⟨e', rfl⟩ | ⟨g', cap, e', _, hn, _, _, hc, hf⟩
  · simp at hj
  · injection e' with e1 _ _; injection e1 with e1; injection e1 with e1 _ _
    subst e1
    exact ⟨hc j u hj, hf j (by have := (List.getElem?_eq_some_iff.1 hj).1; omega)⟩

theorem Own.slice' {w : World} {B : Nat} {e : TypeId} {v : Value} {xs : List Value} (h : Own w B e v xs) : ∃ p c, v = .slice p xs.length c := by
  rcases h.is with ⟨rfl, rfl⟩ | ⟨g, cap, rfl, _⟩
  · exact ⟨none, 0, rfl⟩
  · exact ⟨_, cap, rfl⟩

/-- one row written in place -/
theorem RowsO.inp {w w' : World} {B : Nat} {v : Value} {vs : List Value} {ls : List (List Int)} (h : RowsO w B v vs ls) {j : Nat} {u : Value} (hu : vs[j]? = some u) (hk : Keeps (fun k => u.ownBlock = some k) w w') {l' : List Int} (ho : Own w' B 3 u (ints l')) :
    RowsO w' B v vs (ls.set j l') := by
  have hj : j < vs.length := (List.getElem?_eq_some_iff.1 hu).1
  refine ⟨h.own.keeps hk (fun k h1 h2 => h.ne j u k hu h2 h1), by simp [h.len], fun i x l hx hl => ?_, h.dis, h.ne⟩
  by_cases e : i = j
  · subst e
    rw [List.getElem?_set_self (by rw [← h.len]; exact hj)] at hl
    rw [hu] at hx
    cases hx; cases hl
    exact ho
  · have hne : j ≠ i := fun h => e h.symm
    rw [List.getElem?_set_ne hne] at hl
    exact (h.each i x l hx hl).keeps hk (fun k h1 h2 => e (h.dis i j x u k hx hu h1 h2))

theorem compact_len (zs : List Int) : (Lib.compact zs).length ≤ zs.length := by
  unfold Lib.compact Lib.compactUpTo
  rw [List.length_map]
  exact Nat.le_trans (List.length_filter_le _ _) (by simp)

theorem int_bang (zs : List Int) (j : Nat) (h : j < zs.length) : zs.toArray[j]! = zs[j] := by simp [h]

theorem own_holds {w : World} {B g c : Nat} {zs : List Int} {n : Nat} (h : Own w B 3 (.slice (some ⟨g, 0, none⟩) n c) (zs.map (Value.int .i64))) : Go.Sort.Holds (Value.int .i64) w g 0 zs.toArray := by
  rcases h.is with ⟨e, _⟩ | ⟨g', cap, e, _, hn, _, _, hc, hf⟩
  · cases e
  · injection e with e1 _ _; injection e1 with e1; injection e1 with e1 _ _
    subst e1
    intro j hj
    have hj' : j < zs.length := by simpa using hj
    rw [Nat.zero_add]
    refine ⟨?_, hf j (by rw [List.length_map] at hn; omega)⟩
    rw [int_bang zs j hj']
    exact hc j _ (by rw [List.getElem?_map, List.getElem?_eq_getElem hj']; rfl)

theorem put_keeps {w : World} {g n : Nat} {d : Array Int} {os : Array Obj} : Keeps (· = g) w (Go.Sort.grow (Go.Sort.putRow (Value.int .i64) (Go.Sort.ahead w n) g 0 d) os) := by
  obtain ⟨h1, h2, h3, h4, h5⟩ := grownBy_sortedI (w := w) (g := g) (n := n) (os := os) d
  exact ⟨h1, h2, h3, h4, fun k hk hs => h5 k hk (fun e => hs (by cases e; rfl))⟩

theorem own_put {w : World} {B g c n m : Nat} {zs ts : List Int} {os : Array Obj} (h : Own w B 3 (.slice (some ⟨g, 0, none⟩) m c) (zs.map (Value.int .i64))) (hl : ts.length = zs.length) : Own (Go.Sort.grow (Go.Sort.putRow (Value.int .i64) (Go.Sort.ahead w n) g 0 ts.toArray) os) B 3 (.slice (some ⟨g, 0, none⟩) ts.length c) (ts.map (Value.int .i64)) := by
  have hlt := (h.lt (k := g) rfl).2
  have hH := own_holds h
  have hH' := Go.Sort.holds_putRow (Value.int .i64) (Go.Sort.ahead w n) g 0 zs.toArray ts.toArray hH (by simp [hl])
  have hG := Go.Sort.holds_grow (Value.int .i64) _ os g 0 ts.toArray (by simpa using hlt) hH'
  rcases h.is with ⟨e, _⟩ | ⟨g', cap, e, hB, hn, hm, ⟨cur, fz, hg, hc⟩, hcl, hf⟩
  · cases e
  · injection e with e1 e2 e3; injection e1 with e1; injection e1 with e1 _ _
    subst e1 e3
    refine ⟨.inr ⟨g, c, by rw [List.length_map], hB, by rw [List.length_map] at hn ⊢; omega, hm, ⟨_, fz, heap_sortedI _ hg, by simp [Go.Sort.putCells, hc]⟩, fun j u hj => ?_, fun j hj => ?_⟩⟩
    · rw [List.getElem?_map, Option.map_eq_some_iff] at hj
      obtain ⟨x, hx, rfl⟩ := hj
      obtain ⟨hjl, rfl⟩ := List.getElem?_eq_some_iff.1 hx
      have := (hG j (by simpa using hjl)).1
      rw [Nat.zero_add, int_bang ts j hjl] at this
      exact this
    · have := hf j hj
      simp only [World.frozen?] at this ⊢
      rw [heap_sortedI _ hg]
      rw [hg] at this
      exact this

theorem sort_own (w : World) (B : Nat) (v : Value) (zs : List Int) (hz : zs.length ≤ 1000000) (h : Own w B 3 v (zs.map (Value.int .i64))) :
    Calls Try.prog 42 #[v] w fun e w' => e = .returned (.tuple #[]) ∧ Own w' B 3 v ((zs.mergeSort fun x y => decide (x ≤ y)).map (Value.int .i64)) ∧ Keeps (fun g => v.ownBlock = some g) w w' := by
  have h0 := h
  rcases h.is with ⟨rfl, hx⟩ | ⟨g, cap, rfl, hB, hn, hm, hbk, hcl, hf⟩
  · have hz0 : zs = [] := by simpa using hx
    subst hz0
    exact (Try.slices_Sort_int_none none 0 w).mono fun e w' ⟨he, hw⟩ => ⟨he, by subst hw; rw [show (([] : List Int).mergeSort fun x y => decide (x ≤ y)) = [] from by simp]; exact Own.nil _ _ _, by subst hw; exact Keeps.refl _ _⟩
  · rw [List.length_map] at h0 ⊢
    refine (Try.slices_Sort_int g 0 cap zs w (own_holds h0) (h0.lt rfl).2 (by omega)).mono ?_
    rintro e w' ⟨rfl, n, os, rfl⟩
    have hl : (zs.mergeSort fun x y => decide (x ≤ y)).length = zs.length := List.length_mergeSort _
    have := own_put (n := n) (os := os) h0 hl
    rw [hl] at this
    exact ⟨rfl, this, put_keeps.mono (fun k _ e => by subst e; rfl)⟩

theorem compact_own2 (w : World) (B : Nat) (v : Value) (zs : List Int) (hz : zs.length ≤ 1000000) (h : Own w B 3 v (zs.map (Value.int .i64))) :
    Calls Try.prog 43 #[v] w fun e w' => ∃ v', e = .returned v' ∧ Own w' B 3 v' (ints (Lib.compact zs)) ∧ v'.ownBlock = v.ownBlock ∧ Keeps (fun g => v.ownBlock = some g) w w' := by
  have h0 := h
  rcases h.is with ⟨rfl, hx⟩ | ⟨g, cap, rfl, hB, hn, hm, hbk, hcl, hf⟩
  · have hz0 : zs = [] := by simpa using hx
    subst hz0
    exact (Try.slices_Compact_int_empty none 0 w).mono fun e w' ⟨he, hw⟩ => ⟨_, he, by subst hw; exact Own.nil _ _ _, rfl, by subst hw; exact Keeps.refl _ _⟩
  · rw [List.length_map] at h0 hn ⊢
    refine (Try.slices_Compact_int g 0 cap zs w (own_holds h0) (by omega) hn).mono ?_
    rintro e w' ⟨rfl, q, rfl⟩
    have hcl : (Lib.compact zs).length ≤ zs.length := compact_len zs
    have hl : (Lib.compact zs ++ List.replicate (zs.length - (Lib.compact zs).length) (0 : Int)).length = zs.length := by simp; omega
    have hown := own_put (n := q) (os := #[]) h0 hl
    have hk := put_keeps (w := w) (g := g) (n := q) (d := (Lib.compact zs ++ List.replicate (zs.length - (Lib.compact zs).length) (0 : Int)).toArray) (os := #[])
    rw [Go.Sort.grow_empty] at hown hk
    rw [hl] at hown
    have hT := hown.pre (k := (Lib.compact zs).length) (by rw [List.length_map, List.length_append]; omega)
    have e : ((Lib.compact zs ++ List.replicate (zs.length - (Lib.compact zs).length) (0 : Int)).map (Value.int .i64)).take (Lib.compact zs).length = ints (Lib.compact zs) := by
      rw [List.map_append]; exact List.take_left' (List.length_map _)
    exact ⟨_, rfl, e ▸ hT, rfl, hk.mono (fun k _ e => by subst e; rfl)⟩

theorem infoInt : (Try.prog.info? 3).map (fun i => (i.zero, i.size, i.bytes)) = some (some (.int .i64 0), 1, 8) := by kernel_rfl
theorem infoInts : (Try.prog.info? 23).map (fun i => (i.zero, i.size, i.bytes)) = some (some (.slice none 0 0), 1, 24) := by kernel_rfl
theorem made_one (v : Value) (n : Nat) (h : v.cells = #[v]) : madeCells v.cells n = (List.replicate n v).toArray := by
  rw [h]
  apply Array.ext'
  rw [toList_madeCells_one]
theorem make_ints (w : World) (n : Nat) (h : n ≤ 100000000) : (Instr.makeSlice 23 (.int .i64 n) (.int .i64 n)).run Try.prog w = .ok (.slice (some ⟨w.heap.size, 0, none⟩) n n) (w.alloc (.cells (List.replicate n (.int .i64 0)).toArray 3)) := by
  obtain ⟨i0, hi, hz0, hz1, hz2⟩ := info_parts infoInt
  have := run_make (P := Try.prog) w 23 3 i0 (.int .i64 0) Try.underlying23 hi hz0 .i64 .i64 (n : Int) (n : Int) (by omega) (by omega) (by rw [hz2]; omega) (by omega)
  rw [hz1] at this
  simp only [Int.toNat_natCast, Nat.mul_one] at this
  rw [this, made_one _ _ rfl]
theorem make_rows (w : World) (n : Nat) (h : n ≤ 100000000) : (Instr.makeSlice 28 (.int .i64 n) (.int .i64 n)).run Try.prog w = .ok (.slice (some ⟨w.heap.size, 0, none⟩) n n) (w.alloc (.cells (List.replicate n (.slice none 0 0)).toArray 23)) := by
  obtain ⟨i0, hi, hz0, hz1, hz2⟩ := info_parts infoInts
  have := run_make (P := Try.prog) w 28 23 i0 (.slice none 0 0) Try.underlying28 hi hz0 .i64 .i64 (n : Int) (n : Int) (by omega) (by omega) (by rw [hz2]; omega) (by omega)
  rw [hz1] at this
  simp only [Int.toNat_natCast, Nat.mul_one] at this
  rw [this, made_one _ _ rfl]

/-- a row just made -/
theorem Own.made {w : World} {B : Nat} {e : TypeId} (hB : B ≤ w.heap.size) (xs : List Value) (hl : xs.length ≤ maxLen) : Own (w.alloc (.cells xs.toArray e)) B e (.slice (some ⟨w.heap.size, 0, none⟩) xs.length xs.length) xs :=
  ⟨.inr ⟨w.heap.size, xs.length, rfl, hB, Nat.le_refl _, hl, ⟨xs.toArray, _, heap_alloc_new w _, by simp⟩, fun j u hj => (Blk.new w e xs).at hj, fun j hj => (Blk.new w e xs).free j⟩⟩
theorem RowsO.made {w : World} {B n : Nat} (hB : B ≤ w.heap.size) (hn : n ≤ 100000000) : RowsO (w.alloc (.cells (List.replicate n (Value.slice none 0 0)).toArray 23)) B (.slice (some ⟨w.heap.size, 0, none⟩) n n) (List.replicate n (.slice none 0 0)) (List.replicate n []) := by
  have h := Own.made (e := 23) hB (List.replicate n (Value.slice none 0 0)) (by rw [List.length_replicate]; unfold maxLen; omega)
  rw [List.length_replicate] at h
  refine ⟨h, by simp, fun j u l hu hl => ?_, fun i j u u' k hu _ hk _ => ?_, fun j u k hu hk => ?_⟩
  · have h1 : u = .slice none 0 0 := (List.mem_replicate.1 (List.mem_of_getElem? hu)).2
    have h2 : l = [] := (List.mem_replicate.1 (List.mem_of_getElem? hl)).2
    subst h1 h2
    exact Own.nil _ _ _
  · have h1 : u = .slice none 0 0 := (List.mem_replicate.1 (List.mem_of_getElem? hu)).2
    subst h1; cases hk
  · have h1 : u = .slice none 0 0 := (List.mem_replicate.1 (List.mem_of_getElem? hu)).2
    subst h1; cases hk

end Go.Proofs.Ytlncfhkmjbempaa.W
