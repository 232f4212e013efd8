import Derived.Test.YtmgkoocpnakanaaGb
import Derived.Sort.OwnSortedInts
/-
  A row of rows of ints, all made by the call. No program.
-/
namespace Go.Proofs.Ytmgkoocpnakanaa.W
open Go.RowKit
set_option linter.unusedVariables false

theorem Own.setAt {w : World} {B : Nat} {e : TypeId} {g n cap : Nat} {l : List Value} (h : Own w B e (.slice (some ⟨g, 0, none⟩) n cap) l) (u : Value) {j : Nat} : Own (w.setCell ⟨g, j, none⟩ u) B e (.slice (some ⟨g, 0, none⟩) n cap) (l.set j u) := by
  rcases h.is with ⟨h, _⟩ | ⟨g', cap', h, hB, hn, hm, ⟨cur, fz, hg0, hc⟩, hcell, hf⟩
  · cases h
  · have hg : g = g' ∧ n = l.length ∧ cap = cap' := by simp at h; exact h
    obtain ⟨rfl, rfl, rfl⟩ := hg
    have hheap : (w.setCell ⟨g, j, none⟩ u).heap[g]? = some (.cells (cur.setIfInBounds j u) e fz) := by simp [World.setCell, Array.getElem?_modify, hg0]
    refine ⟨.inr ⟨g, cap, by simp, hB, by simpa using hn, hm, ⟨_, fz, hheap, by simpa using hc⟩, fun i x hi => ?_, fun i hi => ?_⟩⟩
    · have h0 := fun (x : Value) (hi : l[i]? = some x) => hcell i x hi
      simp only [World.cell?, hheap]
      simp only [World.cell?, hg0] at h0
      rw [List.getElem?_set] at hi
      by_cases hij : j = i
      · subst hij
        by_cases hjl : j < l.length
        · rw [if_pos rfl, if_pos hjl] at hi
          cases hi
          have : j < cur.size := by omega
          simp [this]
        · rw [if_pos rfl, if_neg hjl] at hi; cases hi
      · rw [if_neg hij] at hi
        have := h0 x hi
        simpa [Array.getElem?_setIfInBounds, hij] using this
    · have := hf i hi
      simp only [World.frozen?, hg0] at this
      simp only [World.frozen?, hheap]
      exact this

/-- the ints of a row -/
def ints (l : List Int) : List Value := l.map (Value.int .i64)

structure RowsO (w : World) (B : Nat) (v : Value) (vs : List Value) (ls : List (List Int)) : Prop where
  own : Own w B 44 v vs
  len : vs.length = ls.length
  each : ∀ (j : Nat) (u : Value) (l : List Int), vs[j]? = some u → ls[j]? = some l → Own w B 3 u (ints l)
  dis : ∀ (i j : Nat) (u u' : Value) (k : Nat), vs[i]? = some u → vs[j]? = some u' → u.ownBlock = some k → u'.ownBlock = some k → i = j
  ne : ∀ (j : Nat) (u : Value) (k : Nat), vs[j]? = some u → u.ownBlock = some k → v.ownBlock ≠ some k

/-- a block of theirs -/
def rowsK (v : Value) (vs : List Value) (k : Nat) : Prop := v.ownBlock = some k ∨ ∃ (j : Nat) (u : Value), vs[j]? = some u ∧ u.ownBlock = some k

theorem RowsO.keeps {w w' : World} {B : Nat} {v : Value} {vs : List Value} {ls : List (List Int)} (h : RowsO w B v vs ls) {S : Nat → Prop} (k : Keeps S w w') (hs : ∀ g, S g → ¬ rowsK v vs g) : RowsO w' B v vs ls :=
  ⟨h.own.keeps k (fun g hg hS => hs g hS (.inl hg)), h.len, fun j u l hu hl => (h.each j u l hu hl).keeps k (fun g hg hS => hs g hS (.inr ⟨j, u, hu, hg⟩)), h.dis, h.ne⟩

theorem rowsK_lt {w : World} {B : Nat} {v : Value} {vs : List Value} {ls : List (List Int)} (h : RowsO w B v vs ls) {k : Nat} (hk : rowsK v vs k) : B ≤ k ∧ k < w.heap.size := by
  rcases hk with hk | ⟨j, u, hu, hk⟩
  · exact h.own.lt hk
  · have hj := (List.getElem?_eq_some_iff.1 hu).1
    exact (h.each j u _ hu (List.getElem?_eq_getElem (by rw [← h.len]; exact hj))).lt hk

theorem RowsO.below {w w' : World} {B : Nat} {v : Value} {vs : List Value} {ls : List (List Int)} (h : RowsO w B v vs ls) (hb : Below w.heap.size w w') : RowsO w' B v vs ls :=
  h.keeps (S := fun k => w.heap.size ≤ k) (Keeps.of_below hb (fun _ _ h => h)) (fun g hg hr => by have := (rowsK_lt h hr).2; omega)

/-- a row's value at its place -/
theorem RowsO.at {w : World} {B : Nat} {vs : List Value} {ls : List (List Int)} {g n c : Nat} (h : RowsO w B (.slice (some ⟨g, 0, none⟩) n c) vs ls) {j : Nat} (hj : j < ls.length) :
    ∃ u, vs[j]? = some u ∧ w.cell? ⟨g, j, none⟩ = some u ∧ w.frozen? ⟨g, j, none⟩ = false ∧ Own w B 3 u (ints ls[j]) ∧ u.ownBlock ≠ some g := by
  have hjv : j < vs.length := by rw [h.len]; exact hj
  have e := List.getElem?_eq_getElem hjv
  rcases h.own.is with ⟨e', _⟩ | ⟨g', cap, e', _, hn, _, _, hc, hf⟩
  · cases e'
  · injection e' with e1 _ _; injection e1 with e1; injection e1 with e1 _ _
    subst e1
    exact ⟨vs[j], e, hc j _ e, hf j (by omega), h.each j _ _ e (List.getElem?_eq_getElem hj), fun hu => h.ne j _ g e hu rfl⟩

/-- one row grown or sorted, and laid back -/
theorem RowsO.put {w w' : World} {B : Nat} {vs : List Value} {ls : List (List Int)} {g n c : Nat} (h : RowsO w B (.slice (some ⟨g, 0, none⟩) n c) vs ls) {j : Nat} {u : Value} (hu : vs[j]? = some u) (hk : Keeps (fun k => u.ownBlock = some k) w w')
    {u' : Value} {l' : List Int} (ho : Own w' B 3 u' (ints l')) (hb : u'.ownBlock = u.ownBlock ∨ u'.ownBlock = none ∨ ∃ k, w.heap.size ≤ k ∧ u'.ownBlock = some k) :
    RowsO (w'.setCell ⟨g, j, none⟩ u') B (.slice (some ⟨g, 0, none⟩) n c) (vs.set j u') (ls.set j l') ∧ Keeps (fun k => rowsK (.slice (some ⟨g, 0, none⟩) n c) vs k) w (w'.setCell ⟨g, j, none⟩ u') := by
  have hj : j < vs.length := (List.getElem?_eq_some_iff.1 hu).1
  have hg : u.ownBlock ≠ some g := fun e => h.ne j u g hu e rfl
  have hglt : g < w.heap.size := (h.own.lt (k := g) rfl).2
  have hg' : u'.ownBlock ≠ some g := by
    rcases hb with e | e | ⟨k, hk, e⟩
    · rw [e]; exact hg
    · rw [e]; simp
    · rw [e]; intro e'; injection e' with e'; omega
  have own1 : Own w' B 44 (.slice (some ⟨g, 0, none⟩) n c) vs := h.own.keeps hk (fun k hk' e => by
    have : g = k := by simpa [Value.ownBlock] using hk'
    subst this; exact hg e)
  have kset : Keeps (fun k => k = g) w' (w'.setCell ⟨g, j, none⟩ u') := (Keeps.refl (fun k => k = g) w').setCell (p := ⟨g, j, none⟩) (.inr rfl) u'
  refine ⟨⟨own1.setAt u', by simp [h.len], fun i x l hx hl => ?_, fun i i' x x' k hx hx' hk1 hk2 => ?_, fun i x k hx hk1 hk2 => ?_⟩, ?_⟩
  · by_cases e : i = j
    · subst e
      have hjl : i < ls.length := by rw [← h.len]; exact hj
      rw [List.getElem?_set_self hj] at hx
      rw [List.getElem?_set_self hjl] at hl
      cases hx; cases hl
      exact ho.keeps kset (fun k hk' e => by subst e; exact hg' hk')
    · have hne : j ≠ i := fun h => e h.symm
      rw [List.getElem?_set_ne hne] at hx hl
      have := h.each i x l hx hl
      refine (this.keeps hk (fun k hk1 hk2 => e (h.dis i j x u k hx hu hk1 hk2))).keeps kset (fun k hk1 e' => ?_)
      subst e'
      exact h.ne i x k hx hk1 rfl
  · have key : ∀ i x, (vs.set j u')[i]? = some x → x.ownBlock = some k → i = j ∧ x = u' ∨ i ≠ j ∧ vs[i]? = some x := fun i x hx _ => by
      by_cases e : i = j
      · subst e; rw [List.getElem?_set_self hj] at hx; cases hx; exact .inl ⟨rfl, rfl⟩
      · have hne : j ≠ i := fun h => e h.symm
        rw [List.getElem?_set_ne hne] at hx; exact .inr ⟨e, hx⟩
    have clash : ∀ i x, i ≠ j → vs[i]? = some x → x.ownBlock = some k → u'.ownBlock = some k → False := fun i x hij hx h1 h2 => by
      rcases hb with e | e | ⟨k', hk', e⟩
      · rw [e] at h2; exact hij (h.dis i j x u k hx hu h1 h2)
      · rw [e] at h2; cases h2
      · rw [e] at h2; injection h2 with h2
        have := (rowsK_lt h (k := k) (.inr ⟨i, x, hx, h1⟩)).2; omega
    rcases key i x hx hk1 with ⟨e1, e2⟩ | ⟨e1, e2⟩ <;> rcases key i' x' hx' hk2 with ⟨f1, f2⟩ | ⟨f1, f2⟩
    · omega
    · subst e2; exact (clash i' x' f1 f2 hk2 hk1).elim
    · subst f2; exact (clash i x e1 e2 hk1 hk2).elim
    · exact h.dis i i' x x' k e2 f2 hk1 hk2
  · have hk2' : g = k := by simpa [Value.ownBlock] using hk2
    subst hk2'
    by_cases e : i = j
    · subst e; rw [List.getElem?_set_self hj] at hx; cases hx; exact hg' hk1
    · have hne : j ≠ i := fun h => e h.symm
      rw [List.getElem?_set_ne hne] at hx
      exact h.ne i x g hx hk1 rfl
  · exact (hk.mono (fun k _ e => .inr ⟨j, u, hu, e⟩)).setCell (p := ⟨g, j, none⟩) (.inr (.inl rfl)) u'

end Go.Proofs.Ytmgkoocpnakanaa.W

/-
  Rows of the call's own: sorted, without what is twice; made anew.
-/
namespace Go.Proofs.Ytmgkoocpnakanaa.W
open Go.RowKit
set_option linter.unusedVariables false

theorem Own.pre {w : World} {B : Nat} {e : TypeId} {g n c : Nat} {xs : List Value} (h : Own w B e (.slice (some ⟨g, 0, none⟩) n c) xs) {k : Nat} (hk : k ≤ xs.length) : Own w B e (.slice (some ⟨g, 0, none⟩) k c) (xs.take k) := by
  rcases h.is with ⟨e', _⟩ | ⟨g', cap, e', hB, hn, hm, hb, hc, hf⟩
  · cases e'
  · injection e' with e1 e2 e3; injection e1 with e1; injection e1 with e1 _ _
    subst e1 e3
    refine ⟨.inr ⟨g, c, by rw [List.length_take, Nat.min_eq_left hk], hB, by rw [List.length_take]; omega, hm, hb, fun j u hj => hc j u ?_, hf⟩⟩
    rw [List.getElem?_take] at hj
    split at hj
    · exact hj
    · cases hj

theorem Own.at {w : World} {B : Nat} {e : TypeId} {g n c : Nat} {xs : List Value} (h : Own w B e (.slice (some ⟨g, 0, none⟩) n c) xs) {j : Nat} {u : Value} (hj : xs[j]? = some u) : w.cell? ⟨g, j, none⟩ = some u ∧ w.frozen? ⟨g, j, none⟩ = false := by
  rcases h.is with ⟨e', rfl⟩ | ⟨g', cap, e', _, hn, _, _, hc, hf⟩
  · simp at hj
  · injection e' with e1 _ _; injection e1 with e1; injection e1 with e1 _ _
    subst e1
    exact ⟨hc j u hj, hf j (by have := (List.getElem?_eq_some_iff.1 hj).1; omega)⟩

theorem Own.slice' {w : World} {B : Nat} {e : TypeId} {v : Value} {xs : List Value} (h : Own w B e v xs) : ∃ p c, v = .slice p xs.length c := by
  rcases h.is with ⟨rfl, rfl⟩ | ⟨g, cap, rfl, _⟩
  · exact ⟨none, 0, rfl⟩
  · exact ⟨_, cap, rfl⟩

/-- one row written in place -/
theorem RowsO.inp {w w' : World} {B : Nat} {v : Value} {vs : List Value} {ls : List (List Int)} (h : RowsO w B v vs ls) {j : Nat} {u : Value} (hu : vs[j]? = some u) (hk : Keeps (fun k => u.ownBlock = some k) w w') {l' : List Int} (ho : Own w' B 3 u (ints l')) :
    RowsO w' B v vs (ls.set j l') := by
  have hj : j < vs.length := (List.getElem?_eq_some_iff.1 hu).1
  refine ⟨h.own.keeps hk (fun k h1 h2 => h.ne j u k hu h2 h1), by simp [h.len], fun i x l hx hl => ?_, h.dis, h.ne⟩
  by_cases e : i = j
  · subst e
    rw [List.getElem?_set_self (by rw [← h.len]; exact hj)] at hl
    rw [hu] at hx
    cases hx; cases hl
    exact ho
  · have hne : j ≠ i := fun h => e h.symm
    rw [List.getElem?_set_ne hne] at hl
    exact (h.each i x l hx hl).keeps hk (fun k h1 h2 => e (h.dis i j x u k hx hu h1 h2))

theorem compact_len (zs : List Int) : (Lib.compact zs).length ≤ zs.length := by
  unfold Lib.compact Lib.compactUpTo
  rw [List.length_map]
  exact Nat.le_trans (List.length_filter_le _ _) (by simp)

theorem int_bang (zs : List Int) (j : Nat) (h : j < zs.length) : zs.toArray[j]! = zs[j] := by simp [h]

theorem own_holds {w : World} {B g c : Nat} {zs : List Int} {n : Nat} (h : Own w B 3 (.slice (some ⟨g, 0, none⟩) n c) (zs.map (Value.int .i64))) : Go.Sort.Holds (Value.int .i64) w g 0 zs.toArray := by
  rcases h.is with ⟨e, _⟩ | ⟨g', cap, e, _, hn, _, _, hc, hf⟩
  · cases e
  · injection e with e1 _ _; injection e1 with e1; injection e1 with e1 _ _
    subst e1
    intro j hj
    have hj' : j < zs.length := by simpa using hj
    rw [Nat.zero_add]
    refine ⟨?_, hf j (by rw [List.length_map] at hn; omega)⟩
    rw [int_bang zs j hj']
    exact hc j _ (by rw [List.getElem?_map, List.getElem?_eq_getElem hj']; rfl)

theorem put_keeps {w : World} {g n : Nat} {d : Array Int} {os : Array Obj} : Keeps (· = g) w (Go.Sort.grow (Go.Sort.putRow (Value.int .i64) (Go.Sort.ahead w n) g 0 d) os) := by
  obtain ⟨h1, h2, h3, h4, h5⟩ := grownBy_sortedI (w := w) (g := g) (n := n) (os := os) d
  exact ⟨h1, h2, h3, h4, fun k hk hs => h5 k hk (fun e => hs (by cases e; rfl))⟩

theorem own_put {w : World} {B g c n m : Nat} {zs ts : List Int} {os : Array Obj} (h : Own w B 3 (.slice (some ⟨g, 0, none⟩) m c) (zs.map (Value.int .i64))) (hl : ts.length = zs.length) : Own (Go.Sort.grow (Go.Sort.putRow (Value.int .i64) (Go.Sort.ahead w n) g 0 ts.toArray) os) B 3 (.slice (some ⟨g, 0, none⟩) ts.length c) (ts.map (Value.int .i64)) := by
  have hlt := (h.lt (k := g) rfl).2
  have hH := own_holds h
  have hH' := Go.Sort.holds_putRow (Value.int .i64) (Go.Sort.ahead w n) g 0 zs.toArray ts.toArray hH (by simp [hl])
  have hG := Go.Sort.holds_grow (Value.int .i64) _ os g 0 ts.toArray (by simpa using hlt) hH'
  rcases h.is with ⟨e, _⟩ | ⟨g', cap, e, hB, hn, hm, ⟨cur, fz, hg, hc⟩, hcl, hf⟩
  · cases e
  · injection e with e1 e2 e3; injection e1 with e1; injection e1 with e1 _ _
    subst e1 e3
    refine ⟨.inr ⟨g, c, by rw [List.length_map], hB, by rw [List.length_map] at hn ⊢; omega, hm, ⟨_, fz, heap_sortedI _ hg, by simp [Go.Sort.putCells, hc]⟩, fun j u hj => ?_, fun j hj => ?_⟩⟩
    · rw [List.getElem?_map, Option.map_eq_some_iff] at hj
      obtain ⟨x, hx, rfl⟩ := hj
      obtain ⟨hjl, rfl⟩ := List.getElem?_eq_some_iff.1 hx
      have := (hG j (by simpa using hjl)).1
      rw [Nat.zero_add, int_bang ts j hjl] at this
      exact this
    · have := hf j hj
      simp only [World.frozen?] at this ⊢
      rw [heap_sortedI _ hg]
      rw [hg] at this
      exact this

theorem sort_own (w : World) (B : Nat) (v : Value) (zs : List Int) (hz : zs.length ≤ 1000000) (h : Own w B 3 v (zs.map (Value.int .i64))) :
    Calls Try.prog 50 #[v] w fun e w' => e = .returned (.tuple #[]) ∧ Own w' B 3 v ((zs.mergeSort fun x y => decide (x ≤ y)).map (Value.int .i64)) ∧ Keeps (fun g => v.ownBlock = some g) w w' := by
  have h0 := h
  rcases h.is with ⟨rfl, hx⟩ | ⟨g, cap, rfl, hB, hn, hm, hbk, hcl, hf⟩
  · have hz0 : zs = [] := by simpa using hx
    subst hz0
    exact (Try.slices_Sort_int_none none 0 w).mono fun e w' ⟨he, hw⟩ => ⟨he, by subst hw; rw [show (([] : List Int).mergeSort fun x y => decide (x ≤ y)) = [] from by simp]; exact Own.nil _ _ _, by subst hw; exact Keeps.refl _ _⟩
  · rw [List.length_map] at h0 ⊢
    refine (Try.slices_Sort_int g 0 cap zs w (own_holds h0) (h0.lt rfl).2 (by omega)).mono ?_
    rintro e w' ⟨rfl, n, os, rfl⟩
    have hl : (zs.mergeSort fun x y => decide (x ≤ y)).length = zs.length := List.length_mergeSort _
    have := own_put (n := n) (os := os) h0 hl
    rw [hl] at this
    exact ⟨rfl, this, put_keeps.mono (fun k _ e => by subst e; rfl)⟩

theorem compact_own2 (w : World) (B : Nat) (v : Value) (zs : List Int) (hz : zs.length ≤ 1000000) (h : Own w B 3 v (zs.map (Value.int .i64))) :
    Calls Try.prog 51 #[v] w fun e w' => ∃ v', e = .returned v' ∧ Own w' B 3 v' (ints (Lib.compact zs)) ∧ v'.ownBlock = v.ownBlock ∧ Keeps (fun g => v.ownBlock = some g) w w' := by
  have h0 := h
  rcases h.is with ⟨rfl, hx⟩ | ⟨g, cap, rfl, hB, hn, hm, hbk, hcl, hf⟩
  · have hz0 : zs = [] := by simpa using hx
    subst hz0
    exact (Try.slices_Compact_int_empty none 0 w).mono fun e w' ⟨he, hw⟩ => ⟨_, he, by subst hw; exact Own.nil _ _ _, rfl, by subst hw; exact Keeps.refl _ _⟩
  · rw [List.length_map] at h0 hn ⊢
    refine (Try.slices_Compact_int g 0 cap zs w (own_holds h0) (by omega) hn).mono ?_
    rintro e w' ⟨rfl, q, rfl⟩
    have hcl : (Lib.compact zs).length ≤ zs.length := compact_len zs
    have hl : (Lib.compact zs ++ List.replicate (zs.length - (Lib.compact zs).length) (0 : Int)).length = zs.length := by simp; omega
    have hown := own_put (n := q) (os := #[]) h0 hl
    have hk := put_keeps (w := w) (g := g) (n := q) (d := (Lib.compact zs ++ List.replicate (zs.length - (Lib.compact zs).length) (0 : Int)).toArray) (os := #[])
    rw [Go.Sort.grow_empty] at hown hk
    rw [hl] at hown
    have hT := hown.pre (k := (Lib.compact zs).length) (by rw [List.length_map, List.length_append]; omega)
    have e : ((Lib.compact zs ++ List.replicate (zs.length - (Lib.compact zs).length) (0 : Int)).map (Value.int .i64)).take (Lib.compact zs).length = ints (Lib.compact zs) := by
      rw [List.map_append]; exact List.take_left' (List.length_map _)
    exact ⟨_, rfl, e ▸ hT, rfl, hk.mono (fun k _ e => by subst e; rfl)⟩

theorem infoInt : (Try.prog.info? 3).map (fun i => (i.zero, i.size, i.bytes)) = some (some (.int .i64 0), 1, 8) := by kernel_rfl
theorem infoInts : (Try.prog.info? 44).map (fun i => (i.zero, i.size, i.bytes)) = some (some (.slice none 0 0), 1, 24) := by kernel_rfl
theorem made_one (v : Value) (n : Nat) (h : v.cells = #[v]) : madeCells v.cells n = (List.replicate n v).toArray := by
  rw [h]
  apply Array.ext'
  rw [toList_madeCells_one]
theorem make_ints (w : World) (n : Nat) (h : n ≤ 100000000) : (Instr.makeSlice 44 (.int .i64 n) (.int .i64 n)).run Try.prog w = .ok (.slice (some ⟨w.heap.size, 0, none⟩) n n) (w.alloc (.cells (List.replicate n (.int .i64 0)).toArray 3)) := by
  obtain ⟨i0, hi, hz0, hz1, hz2⟩ := info_parts infoInt
  have := run_make (P := Try.prog) w 44 3 i0 (.int .i64 0) Try.underlying44 hi hz0 .i64 .i64 (n : Int) (n : Int) (by omega) (by omega) (by rw [hz2]; omega) (by omega)
  rw [hz1] at this
  simp only [Int.toNat_natCast, Nat.mul_one] at this
  rw [this, made_one _ _ rfl]
theorem make_rows (w : World) (n : Nat) (h : n ≤ 100000000) : (Instr.makeSlice 51 (.int .i64 n) (.int .i64 n)).run Try.prog w = .ok (.slice (some ⟨w.heap.size, 0, none⟩) n n) (w.alloc (.cells (List.replicate n (.slice none 0 0)).toArray 44)) := by
  obtain ⟨i0, hi, hz0, hz1, hz2⟩ := info_parts infoInts
  have := run_make (P := Try.prog) w 51 44 i0 (.slice none 0 0) Try.underlying51 hi hz0 .i64 .i64 (n : Int) (n : Int) (by omega) (by omega) (by rw [hz2]; omega) (by omega)
  rw [hz1] at this
  simp only [Int.toNat_natCast, Nat.mul_one] at this
  rw [this, made_one _ _ rfl]

/-- a row just made -/
theorem Own.made {w : World} {B : Nat} {e : TypeId} (hB : B ≤ w.heap.size) (xs : List Value) (hl : xs.length ≤ maxLen) : Own (w.alloc (.cells xs.toArray e)) B e (.slice (some ⟨w.heap.size, 0, none⟩) xs.length xs.length) xs :=
  ⟨.inr ⟨w.heap.size, xs.length, rfl, hB, Nat.le_refl _, hl, ⟨xs.toArray, _, heap_alloc_new w _, by simp⟩, fun j u hj => (Blk.new w e xs).at hj, fun j hj => (Blk.new w e xs).free j⟩⟩
theorem RowsO.made {w : World} {B n : Nat} (hB : B ≤ w.heap.size) (hn : n ≤ 100000000) : RowsO (w.alloc (.cells (List.replicate n (Value.slice none 0 0)).toArray 44)) B (.slice (some ⟨w.heap.size, 0, none⟩) n n) (List.replicate n (.slice none 0 0)) (List.replicate n []) := by
  have h := Own.made (e := 44) hB (List.replicate n (Value.slice none 0 0)) (by rw [List.length_replicate]; unfold maxLen; omega)
  rw [List.length_replicate] at h
  refine ⟨h, by simp, fun j u l hu hl => ?_, fun i j u u' k hu _ hk _ => ?_, fun j u k hu hk => ?_⟩
  · have h1 : u = .slice none 0 0 := (List.mem_replicate.1 (List.mem_of_getElem? hu)).2
    have h2 : l = [] := (List.mem_replicate.1 (List.mem_of_getElem? hl)).2
    subst h1 h2
    exact Own.nil _ _ _
  · have h1 : u = .slice none 0 0 := (List.mem_replicate.1 (List.mem_of_getElem? hu)).2
    subst h1; cases hk
  · have h1 : u = .slice none 0 0 := (List.mem_replicate.1 (List.mem_of_getElem? hu)).2
    subst h1; cases hk

end Go.Proofs.Ytmgkoocpnakanaa.W
