/-
  A row of rows of ints, all made by the call. No program.
-/
import Derived.Test.YtlncfhkmjbempaaGb
namespace Go.Proofs.Ytlncfhkmjbempaa.W
open Go.RowKit
set_option linter.unusedVariables false

theorem Own.setAt {w : World} {B : Nat} {e : TypeId} {g n cap : Nat} {l : List Value} (h : Own w B e (.slice (some ⟨g, 0, none⟩) n cap) l) (u : Value) {j : Nat} : Own (w.setCell ⟨g, j, none⟩ u) B e (.slice (some ⟨g, 0, none⟩) n cap) (l.set j u) := by
  rcases h.is with ⟨h, _⟩ | ⟨g', cap', h, hB, hn, hm, ⟨cur, fz, hg0, hc⟩, hcell, hf⟩
  · cases h
  · have hg : g = g' ∧ n = l.length ∧ cap = cap' := by simp at h; exact h
    obtain ⟨rfl, rfl, rfl⟩ := hg
    have hheap : (w.setCell ⟨g, j, none⟩ u).heap[g]? = some (.cells (cur.setIfInBounds j u) e fz) := by simp [World.setCell, Array.getElem?_modify, hg0]
    refine ⟨.inr ⟨g, cap, by simp, hB, by simpa using hn, hm, ⟨_, fz, hheap, by simpa using hc⟩, fun i x hi => ?_, fun i hi => ?_⟩⟩
    · have h0 := fun (x : Value) (hi : l[i]? = some x) => hcell i x hi
      simp only [World.cell?, hheap]
      simp only [World.cell?, hg0] at h0
      rw [List.getElem?_set] at hi
      by_cases hij : j = i
      · subst hij
        by_cases hjl : j < l.length
        · rw [if_pos rfl, if_pos hjl] at hi
          cases hi
          have : j < cur.size := by omega
          simp [this]
        · rw [if_pos rfl, if_neg hjl] at hi; cases hi
      · rw [if_neg hij] at hi
        have := h0 x hi
        simpa [Array.getElem?_setIfInBounds, hij] using this
    · have := hf i hi
      simp only [World.frozen?, hg0] at this
      simp only [World.frozen?, hheap]
      exact this

/-- the ints of a row -/
def ints (l : List Int) : List Value := l.map (Value.int .i64)

structure RowsO (w : World) (B : Nat) (v : Value) (vs : List Value) (ls : List (List Int)) : Prop where
  own : Own w B 23 v vs
  len : vs.length = ls.length
  each : ∀ (j : Nat) (u : Value) (l : List Int), vs[j]? = some u → ls[j]? = some l → Own w B 3 u (ints l)
  dis : ∀ (i j : Nat) (u u' : Value) (k : Nat), vs[i]? = some u → vs[j]? = some u' → u.ownBlock = some k → u'.ownBlock = some k → i = j
  ne : ∀ (j : Nat) (u : Value) (k : Nat), vs[j]? = some u → u.ownBlock = some k → v.ownBlock ≠ some k

/-- a block of theirs -/
def rowsK (v : Value) (vs : List Value) (k : Nat) : Prop := v.ownBlock = some k ∨ ∃ (j : Nat) (u : Value), vs[j]? = some u ∧ u.ownBlock = some k

theorem RowsO.keeps {w w' : World} {B : Nat} {v : Value} {vs : List Value} {ls : List (List Int)} (h : RowsO w B v vs ls) {S : Nat → Prop} (k : Keeps S w w') (hs : ∀ g, S g → ¬ rowsK v vs g) : RowsO w' B v vs ls :=
  ⟨h.own.keeps k (fun g hg hS => hs g hS (.inl hg)), h.len, fun j u l hu hl => (h.each j u l hu hl).keeps k (fun g hg hS => hs g hS (.inr ⟨j, u, hu, hg⟩)), h.dis, h.ne⟩

theorem rowsK_lt {w : World} {B : Nat} {v : Value} {vs : List Value} {ls : List (List Int)} (h : RowsO w B v vs ls) {k : Nat} (hk : rowsK v vs k) : B ≤ k ∧ k < w.heap.size := by
  rcases hk with hk | ⟨j, u, hu, hk⟩
  · exact h.own.lt hk
  · have hj := (List.getElem?_eq_some_iff.1 hu).1
    exact (h.each j u _ hu (List.getElem?_eq_getElem (by rw [← h.len]; exact hj))).lt hk

theorem RowsO.below {w w' : World} {B : Nat} {v : Value} {vs : List Value} {ls : List (List Int)} (h : RowsO w B v vs ls) (hb : Below w.heap.size w w') : RowsO w' B v vs ls :=
  h.keeps (S := fun k => w.heap.size ≤ k) (Keeps.of_below hb (fun _ _ h => h)) (fun g hg hr => by have := (rowsK_lt h hr).2; omega)

/-- a row's value at its place -/
theorem RowsO.at {w : World} {B : Nat} {vs : List Value} {ls : List (List Int)} {g n c : Nat} (h : RowsO w B (.slice (some ⟨g, 0, none⟩) n c) vs ls) {j : Nat} (hj : j < ls.length) :
    ∃ u, vs[j]? = some u ∧ w.cell? ⟨g, j, none⟩ = some u ∧ w.frozen? ⟨g, j, none⟩ = false ∧ Own w B 3 u (ints ls[j]) ∧ u.ownBlock ≠ some g := by
  have hjv : j < vs.length := by rw [h.len]; exact hj
  have e := List.getElem?_eq_getElem hjv
  rcases h.own.is with ⟨e', _⟩ | ⟨g', cap, e', _, hn, _, _, hc, hf⟩
  · cases e'
  · injection e' with e1 _ _; injection e1 with e1; injection e1 with e1 _ _
    subst e1
    exact ⟨vs[j], e, hc j _ e, hf j (by omega), h.each j _ _ e (List.getElem?_eq_getElem hj), fun hu => h.ne j _ g e hu rfl⟩

/-- one row grown or sorted, and laid back -/
theorem RowsO.put {w w' : World} {B : Nat} {vs : List Value} {ls : List (List Int)} {g n c : Nat} (h : RowsO w B (.slice (some ⟨g, 0, none⟩) n c) vs ls) {j : Nat} {u : Value} (hu : vs[j]? = some u) (hk : Keeps (fun k => u.ownBlock = some k) w w')
    {u' : Value} {l' : List Int} (ho : Own w' B 3 u' (ints l')) (hb : u'.ownBlock = u.ownBlock ∨ u'.ownBlock = none ∨ ∃ k, w.heap.size ≤ k ∧ u'.ownBlock = some k) :
    RowsO (w'.setCell ⟨g, j, none⟩ u') B (.slice (some ⟨g, 0, none⟩) n c) (vs.set j u') (ls.set j l') ∧ Keeps (fun k => rowsK (.slice (some ⟨g, 0, none⟩) n c) vs k) w (w'.setCell ⟨g, j, none⟩ u') := by
  have hj : j < vs.length := (List.getElem?_eq_some_iff.1 hu).1
  have hg : u.ownBlock ≠ some g := fun e => h.ne j u g hu e rfl
  have hglt : g < w.heap.size := (h.own.lt (k := g) rfl).2
  have hg' : u'.ownBlock ≠ some g := by
    rcases hb with e | e | ⟨k, hk, e⟩
    · rw [e]; exact hg
    · rw [e]; simp
    · rw [e]; intro e'; injection e' with e'; omega
  have own1 : Own w' B 23 (.slice (some ⟨g, 0, none⟩) n c) vs := h.own.keeps hk (fun k hk' e => by
    have : g = k := by simpa [Value.ownBlock] using hk'
    subst this; exact hg e)
  have kset : Keeps (fun k => k = g) w' (w'.setCell ⟨g, j, none⟩ u') := (Keeps.refl (fun k => k = g) w').setCell (p := ⟨g, j, none⟩) (.inr rfl) u'
  refine ⟨⟨own1.setAt u', by simp [h.len], fun i x l hx hl => ?_, fun i i' x x' k hx hx' hk1 hk2 => ?_, fun i x k hx hk1 hk2 => ?_⟩, ?_⟩
  · by_cases e : i = j
    · subst e
      have hjl : i < ls.length := by rw [← h.len]; exact hj
      rw [List.getElem?_set_self hj] at hx
      rw [List.getElem?_set_self hjl] at hl
      cases hx; cases hl
      exact ho.keeps kset (fun k hk' e => by subst e; exact hg' hk')
    · have hne : j ≠ i := fun h => e h.symm
      rw [List.getElem?_set_ne hne] at hx hl
      have := h.each i x l hx hl
      refine (this.keeps hk (fun k hk1 hk2 => e (h.dis i j x u k hx hu hk1 hk2))).keeps kset (fun k hk1 e' => ?_)
      subst e'
      exact h.ne i x k hx hk1 rfl
  · have key : ∀ i x, (vs.set j u')[i]? = some x → x.ownBlock = some k → i = j ∧ x = u' ∨ i ≠ j ∧ vs[i]? = some x := fun i x hx _ => by
      by_cases e : i = j
      · subst e; rw [List.getElem?_set_self hj] at hx; cases hx; exact .inl ⟨rfl, rfl⟩
      · have hne : j ≠ i := fun h => e h.symm
        rw [List.getElem?_set_ne hne] at hx; exact .inr ⟨e, hx⟩
    have clash : ∀ i x, i ≠ j → vs[i]? = some x → x.ownBlock = some k → u'.ownBlock = some k → False := fun i x hij hx h1 h2 => by
      rcases hb with e | e | ⟨k', hk', e⟩
      · rw [e] at h2; exact hij (h.dis i j x u k hx hu h1 h2)
      · rw [e] at h2; cases h2
      · rw [e] at h2; injection h2 with h2
        have := (rowsK_lt h (k := k) (.inr ⟨i, x, hx, h1⟩)).2; omega
    rcases key i x hx hk1 with ⟨e1, e2⟩ | ⟨e1, e2⟩ <;> rcases key i' x' hx' hk2 with ⟨f1, f2⟩ | ⟨f1, f2⟩
    · omega
    · subst e2; exact (clash i' x' f1 f2 hk2 hk1).elim
    · subst f2; exact (clash i x e1 e2 hk1 hk2).elim
    · exact h.dis i i' x x' k e2 f2 hk1 hk2
  · have hk2' : g = k := by simpa [Value.ownBlock] using hk2
    subst hk2'
    by_cases e : i = j
    · subst e; rw [List.getElem?_set_self hj] at hx; cases hx; exact hg' hk1
    · have hne : j ≠ i := fun h => e h.symm
      rw [List.getElem?_set_ne hne] at hx
      exact h.ne i x g hx hk1 rfl
  · exact (hk.mono (fun k _ e => .inr ⟨j, u, hu, e⟩)).setCell (p := ⟨g, j, none⟩) (.inr (.inl rfl)) u'

end Go.Proofs.Ytlncfhkmjbempaa.W
