/-
  Facts of blocks that lie apart: a list of what the blocks hold, no block in two of them. No program.
-/
import Derived.Test.YtmgkoocpnakanaaGf
namespace Go.Proofs.Ytmgkoocpnakanaa.W
open Go.RowKit
set_option linter.unusedVariables false

/-- what a set of blocks holds -/
structure Asr where
  P : World → (Nat → Prop) → Prop
  loc : ∀ {w w' : World} {f f' S : Nat → Prop}, P w f → Keeps S w w' → (∀ k, k < w.heap.size → f k → ¬ S k) → (∀ k, k < w.heap.size → f k → f' k) → P w' f'

/-- a row of its own -/
def oI (B : Nat) (e : TypeId) (v : Value) (l : List Value) : Asr :=
  ⟨fun w f => Own w B e v l ∧ ∀ k, v.ownBlock = some k → f k, fun h k hs hf => ⟨h.1.keeps k (fun g hg => hs g (h.1.lt hg).2 (h.2 g hg)), fun g hg => hf g (h.1.lt hg).2 (h.2 g hg)⟩⟩
/-- a row of rows of ints -/
def oR (B : Nat) (v : Value) (vs : List Value) (ls : List (List Int)) : Asr :=
  ⟨fun w f => RowsO w B v vs ls ∧ ∀ k, rowsK v vs k → f k, fun h k hs hf => ⟨h.1.keeps k (fun g hS hg => hs g (rowsK_lt h.1 hg).2 (h.2 g hg) hS), fun g hg => hf g (rowsK_lt h.1 hg).2 (h.2 g hg)⟩⟩
/-- a row of structs -/
def oP (B : Nat) (e : TypeId) (m : Nat) (v : Value) (n : Nat) (l : List Value) : Asr :=
  ⟨fun w f => w.ownsRow B e m v n l ∧ ∀ k, v.ownBlock = some k → f k, fun h k hs hf => ⟨by
    have hl := h.1.lt
    refine ⟨h.1.1, h.1.2.imp_right ?_⟩
    rintro ⟨g, cap, cur, rfl, hb, hg, rest⟩
    exact ⟨g, cap, cur, rfl, hb, by rw [k.block g (hl g rfl).2 (hs g (hl g rfl).2 (h.2 g rfl))]; exact hg, rest⟩, fun g hg => hf g (h.1.lt g hg).2 (h.2 g hg)⟩⟩
/-- a block known whole -/
def oC (B g : Nat) (T : TypeId) (l : List Value) : Asr :=
  ⟨fun w f => (Blk w g T l ∧ B ≤ g) ∧ f g, fun h k hs hf => ⟨⟨k.blk h.1.1 (hs g h.1.1.lt h.2), h.1.2⟩, hf g h.1.1.lt h.2⟩⟩

structure Sep (w : World) (L : List Asr) : Prop where
  is : ∃ o : Nat → Nat, ∀ (t : Nat) A, L[t]? = some A → A.P w (fun k => o k = t)

theorem Sep.nil (w : World) : Sep w [] := ⟨fun _ => 0, fun t A h => by simp at h⟩

theorem Sep.get {w : World} {L : List Asr} (h : Sep w L) (t : Nat) {A : Asr} (ht : L[t]? = some A) : ∃ f, A.P w f := by
  obtain ⟨o, ho⟩ := h.is
  exact ⟨_, ho t A ht⟩

theorem Sep.own {w : World} {L : List Asr} (h : Sep w L) (t : Nat) {B : Nat} {e : TypeId} {v : Value} {l : List Value} (ht : L[t]? = some (oI B e v l)) : Own w B e v l := by
  obtain ⟨f, h, _⟩ := h.get t ht; exact h
theorem Sep.rows {w : World} {L : List Asr} (h : Sep w L) (t : Nat) {B : Nat} {v : Value} {vs : List Value} {ls : List (List Int)} (ht : L[t]? = some (oR B v vs ls)) : RowsO w B v vs ls := by
  obtain ⟨f, h, _⟩ := h.get t ht; exact h
theorem Sep.row {w : World} {L : List Asr} (h : Sep w L) (t : Nat) {B : Nat} {e : TypeId} {m : Nat} {v : Value} {n : Nat} {l : List Value} (ht : L[t]? = some (oP B e m v n l)) : w.ownsRow B e m v n l := by
  obtain ⟨f, h, _⟩ := h.get t ht; exact h
theorem Sep.blk {w : World} {L : List Asr} (h : Sep w L) (t : Nat) {B g : Nat} {T : TypeId} {l : List Value} (ht : L[t]? = some (oC B g T l)) : Blk w g T l := by
  obtain ⟨f, h, _⟩ := h.get t ht; exact h.1
theorem Sep.blkB {w : World} {L : List Asr} (h : Sep w L) (t : Nat) {B g : Nat} {T : TypeId} {l : List Value} (ht : L[t]? = some (oC B g T l)) : B ≤ g := by
  obtain ⟨f, h, _⟩ := h.get t ht; exact h.2

/-- two blocks of two of them -/
theorem Sep.apart {w : World} {L : List Asr} (h : Sep w L) {s t : Nat} (hne : s ≠ t) {A C : Asr} (hs : L[s]? = some A) (ht : L[t]? = some C) {a c : Nat} (ha : ∀ f, A.P w f → f a) (hc : ∀ f, C.P w f → f c) : a ≠ c := by
  obtain ⟨o, ho⟩ := h.is
  have h1 := ha _ (ho s A hs)
  have h2 := hc _ (ho t C ht)
  intro e; subst e
  exact hne (h1.symm.trans h2)

/-- one of them changes -/
theorem Sep.put {w w' : World} {L : List Asr} (h : Sep w L) {t : Nat} {A A' : Asr} (ht : L[t]? = some A) {S : Nat → Prop} (k : Keeps S w w') (hS : ∀ f, A.P w f → ∀ g, g < w.heap.size → S g → f g) (hA : ∀ f, A.P w f → A'.P w' (fun g => (g < w.heap.size ∧ f g) ∨ w.heap.size ≤ g)) : Sep w' (L.set t A') := by
  obtain ⟨o, ho⟩ := h.is
  refine ⟨fun g => if g < w.heap.size then o g else t, fun s C hs => ?_⟩
  by_cases e : t = s
  · subst e
    have hlt := (List.getElem?_eq_some_iff.1 ht).1
    rw [List.getElem?_set_self hlt] at hs
    cases hs
    exact A'.loc (hA _ (ho t A ht)) (Keeps.refl (fun _ => False) w') (fun _ _ _ h => h) (fun g _ hg => by
      rcases hg with ⟨h1, h2⟩ | h1
      · show (if g < w.heap.size then o g else t) = t
        rw [if_pos h1]; exact h2
      · show (if g < w.heap.size then o g else t) = t
        rw [if_neg (by omega)])
  · rw [List.getElem?_set_ne e] at hs
    exact C.loc (ho s C hs) k (fun g hg hf hSg => e ((hS _ (ho t A ht) g hg hSg).symm.trans hf)) (fun g hg hf => by
      show (if g < w.heap.size then o g else t) = s
      rw [if_pos hg]; exact hf)

theorem Sep.put_own {w w' : World} {L : List Asr} (h : Sep w L) (t : Nat) {B : Nat} {e : TypeId} {v v' : Value} {l l' : List Value} (ht : L[t]? = some (oI B e v l)) (k : Keeps (fun g => v.ownBlock = some g) w w') (ho : Own w' B e v' l')
    (hb : v'.ownBlock = v.ownBlock ∨ v'.ownBlock = none ∨ ∃ g, w.heap.size ≤ g ∧ v'.ownBlock = some g) : Sep w' (L.set t (oI B e v' l')) :=
  h.put ht k (fun f hA g _ hS => hA.2 g hS) (fun f hA => ⟨ho, fun g hg => by
    rcases hb with e | e | ⟨g', hg', e⟩
    · rw [e] at hg; exact .inl ⟨(hA.1.lt hg).2, hA.2 g hg⟩
    · rw [e] at hg; cases hg
    · rw [e] at hg; cases hg; exact .inr hg'⟩)
theorem Sep.put_rows {w w' : World} {L : List Asr} (h : Sep w L) (t : Nat) {B : Nat} {v v' : Value} {vs vs' : List Value} {l l' : List (List Int)} (ht : L[t]? = some (oR B v vs l)) (k : Keeps (fun g => rowsK v vs g) w w') (ho : RowsO w' B v' vs' l')
    (hb : ∀ g, rowsK v' vs' g → rowsK v vs g ∨ w.heap.size ≤ g) : Sep w' (L.set t (oR B v' vs' l')) :=
  h.put ht k (fun f hA g _ hS => hA.2 g hS) (fun f hA => ⟨ho, fun g hg => by
    rcases hb g hg with e | e
    · exact .inl ⟨(rowsK_lt hA.1 e).2, hA.2 g e⟩
    · exact .inr e⟩)
theorem Sep.put_row {w w' : World} {L : List Asr} (h : Sep w L) (t : Nat) {B : Nat} {e : TypeId} {m : Nat} {v v' : Value} {n n' : Nat} {l l' : List Value} (ht : L[t]? = some (oP B e m v n l)) (k : Keeps (fun g => v.ownBlock = some g) w w') (ho : w'.ownsRow B e m v' n' l')
    (hb : v'.ownBlock = v.ownBlock ∨ v'.ownBlock = none ∨ ∃ g, w.heap.size ≤ g ∧ v'.ownBlock = some g) : Sep w' (L.set t (oP B e m v' n' l')) :=
  h.put ht k (fun f hA g _ hS => hA.2 g hS) (fun f hA => ⟨ho, fun g hg => by
    rcases hb with e | e | ⟨g', hg', e⟩
    · rw [e] at hg; exact .inl ⟨(hA.1.lt g hg).2, hA.2 g hg⟩
    · rw [e] at hg; cases hg
    · rw [e] at hg; cases hg; exact .inr hg'⟩)
theorem Sep.put_blk {w w' : World} {L : List Asr} (h : Sep w L) (t : Nat) {B g : Nat} {T : TypeId} {l l' : List Value} (ht : L[t]? = some (oC B g T l)) (k : Keeps (fun k => k = g) w w') (ho : Blk w' g T l') : Sep w' (L.set t (oC B g T l')) :=
  h.put ht k (fun f hA k _ hS => by have : k = g := hS; subst this; exact hA.2) (fun f hA => ⟨⟨ho, hA.1.2⟩, .inl ⟨hA.1.1.lt, hA.2⟩⟩)
theorem Sep.set_blk {w : World} {L : List Asr} (h : Sep w L) (t : Nat) {B g : Nat} {T : TypeId} {l : List Value} (ht : L[t]? = some (oC B g T l)) (j : Nat) (u : Value) : Sep (w.setCell ⟨g, j, none⟩ u) (L.set t (oC B g T (l.set j u))) :=
  h.put_blk t ht ((Keeps.refl (fun k => k = g) w).setCell (p := ⟨g, j, none⟩) (.inr rfl) u) ((h.blk t ht).set j u)
theorem Sep.set_own {w : World} {L : List Asr} (h : Sep w L) (t : Nat) {B : Nat} {e : TypeId} {g n c : Nat} {l : List Value} (ht : L[t]? = some (oI B e (.slice (some ⟨g, 0, none⟩) n c) l)) (j : Nat) (u : Value) : Sep (w.setCell ⟨g, j, none⟩ u) (L.set t (oI B e (.slice (some ⟨g, 0, none⟩) n c) (l.set j u))) :=
  h.put_own t ht ((Keeps.refl (fun k => (Value.slice (some ⟨g, 0, none⟩) n c).ownBlock = some k) w).setCell (p := ⟨g, j, none⟩) (.inr rfl) u) ((h.own t ht).setAt u) (.inl rfl)
theorem Sep.set_row {w : World} {L : List Asr} (h : Sep w L) (t : Nat) {B : Nat} {e : TypeId} {m g n c : Nat} {l : List Value} (ht : L[t]? = some (oP B e m (.slice (some ⟨g, 0, none⟩) n c) n l)) (j : Nat) (u : Value) : Sep (w.setCell ⟨g, j, none⟩ u) (L.set t (oP B e m (.slice (some ⟨g, 0, none⟩) n c) n (l.set j u))) :=
  h.put_row t ht ((Keeps.refl (fun k => (Value.slice (some ⟨g, 0, none⟩) n c).ownBlock = some k) w).setCell (p := ⟨g, j, none⟩) (.inr rfl) u) ((h.row t ht).stored j u).1 (.inl rfl)

/-- none of them changes -/
theorem Sep.keep {w w' : World} {L : List Asr} (h : Sep w L) (k : Keeps (fun _ => False) w w') : Sep w' L := by
  obtain ⟨o, ho⟩ := h.is
  exact ⟨o, fun t A ht => A.loc (ho t A ht) k (fun _ _ _ h => h) (fun _ _ h => h)⟩
theorem Sep.below {w w' : World} {L : List Asr} (h : Sep w L) (b : Below w.heap.size w w') : Sep w' L :=
  h.keep (Keeps.of_below b (fun k h1 h2 => by omega))
theorem Sep.drew {w : World} {L : List Asr} (h : Sep w L) : Sep w.drew L := h.keep (Keeps.refl _ w).drew
theorem Sep.drewN {w : World} {L : List Asr} (h : Sep w L) (n : Nat) : Sep (w.drewN n) L := h.keep ((Keeps.refl _ w).drewN n)
theorem Sep.alloc {w : World} {L : List Asr} (h : Sep w L) (o : Obj) : Sep (w.alloc o) L := h.keep ((Keeps.refl _ w).alloc o)

/-- a new one -/
theorem Sep.new {w w' : World} {L : List Asr} (h : Sep w L) (k : Keeps (fun _ => False) w w') {A : Asr} (hA : A.P w' (fun g => w.heap.size ≤ g)) : Sep w' (L ++ [A]) := by
  obtain ⟨o, ho⟩ := h.is
  refine ⟨fun g => if g < w.heap.size then o g else L.length, fun s C hs => ?_⟩
  rcases Nat.lt_or_ge s L.length with hl | hl
  · rw [List.getElem?_append_left hl] at hs
    exact C.loc (ho s C hs) k (fun _ _ _ h => h) (fun g hg hf => by
      show (if g < w.heap.size then o g else L.length) = s
      rw [if_pos hg]; exact hf)
  · rw [List.getElem?_append_right hl] at hs
    have hl1 := (List.getElem?_eq_some_iff.1 hs).1
    have e : s = L.length := by simp at hl1; omega
    subst e
    simp only [Nat.sub_self, List.getElem?_cons_zero, Option.some.injEq] at hs
    subst hs
    exact A.loc hA (Keeps.refl (fun _ => False) w') (fun _ _ _ h => h) (fun g _ hg => by
      show (if g < w.heap.size then o g else L.length) = L.length
      rw [if_neg (by omega)])
theorem Sep.new_own {w w' : World} {L : List Asr} (h : Sep w L) (k : Keeps (fun _ => False) w w') {B : Nat} {e : TypeId} {v : Value} {l : List Value} (ho : Own w' B e v l) (hb : ∀ g, v.ownBlock = some g → w.heap.size ≤ g) : Sep w' (L ++ [oI B e v l]) := h.new k ⟨ho, hb⟩
theorem Sep.new_rows {w w' : World} {L : List Asr} (h : Sep w L) (k : Keeps (fun _ => False) w w') {B : Nat} {v : Value} {vs : List Value} {l : List (List Int)} (ho : RowsO w' B v vs l) (hb : ∀ g, rowsK v vs g → w.heap.size ≤ g) : Sep w' (L ++ [oR B v vs l]) := h.new k ⟨ho, hb⟩
theorem Sep.new_row {w w' : World} {L : List Asr} (h : Sep w L) (k : Keeps (fun _ => False) w w') {B : Nat} {e : TypeId} {m : Nat} {v : Value} {n : Nat} {l : List Value} (ho : w'.ownsRow B e m v n l) (hb : ∀ g, v.ownBlock = some g → w.heap.size ≤ g) : Sep w' (L ++ [oP B e m v n l]) := h.new k ⟨ho, hb⟩
theorem Sep.new_blk {w : World} {L : List Asr} (h : Sep w L) {B : Nat} (hB : B ≤ w.heap.size) (T : TypeId) (l : List Value) : Sep (w.alloc (.cells l.toArray T)) (L ++ [oC B w.heap.size T l]) :=
  h.new ((Keeps.refl _ w).alloc _) ⟨⟨Blk.new w T l, hB⟩, Nat.le_refl _⟩

theorem Sep.left {w : World} {L M : List Asr} (h : Sep w (L ++ M)) : Sep w L := by
  obtain ⟨o, ho⟩ := h.is
  exact ⟨o, fun t A ht => ho t A (by rw [List.getElem?_append_left (List.getElem?_eq_some_iff.1 ht).1]; exact ht)⟩

theorem Sep.cast {w : World} {L M : List Asr} (h : Sep w L) (e : L = M) : Sep w M := e ▸ h

end Go.Proofs.Ytmgkoocpnakanaa.W
