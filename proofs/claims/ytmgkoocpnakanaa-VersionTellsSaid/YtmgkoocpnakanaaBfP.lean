/-
  Search by waves: the list of ways, in the order in which they are found. A way is written backwards: its node first. No program.
-/
import Derived.Test.YtmgkoocpnakanaaTjP
namespace Go.Proofs.Ytmgkoocpnakanaa.Tj
set_option linter.unusedVariables false

/-- of two lists of one length, written backwards: the first is less -/
def ltR : List Nat → List Nat → Prop
  | x :: p, y :: q => ltR p q ∨ (p = q ∧ x < y)
  | _, _ => False

/-- the way a is shorter than b, or as long and less -/
def sl (a b : List Nat) : Prop := a.length < b.length ∨ (a.length = b.length ∧ ltR a b)
def sle (a b : List Nat) : Prop := a = b ∨ sl a b

theorem ltR_irr : ∀ a, ¬ ltR a a
  | [], h => h
  | x :: p, h => by
    rcases h with h | ⟨_, h⟩
    · exact ltR_irr p h
    · omega

theorem ltR_trans : ∀ {a b c : List Nat}, ltR a b → ltR b c → ltR a c
  | [], _, _, h, _ => h.elim
  | _ :: _, [], _, h, _ => h.elim
  | _ :: _, _ :: _, [], _, h => h.elim
  | x :: p, y :: q, z :: r, h, k => by
    rcases h with h | ⟨rfl, h⟩ <;> rcases k with k | ⟨rfl, k⟩
    · exact .inl (ltR_trans h k)
    · exact .inl h
    · exact .inl k
    · exact .inr ⟨rfl, by omega⟩

theorem ltR_tri : ∀ {a b : List Nat}, a.length = b.length → ltR a b ∨ a = b ∨ ltR b a
  | [], [], _ => .inr (.inl rfl)
  | x :: p, y :: q, h => by
    rcases ltR_tri (a := p) (b := q) (by simpa using h) with h | rfl | h
    · exact .inl (.inl h)
    · rcases Nat.lt_trichotomy x y with h | rfl | h
      · exact .inl (.inr ⟨rfl, h⟩)
      · exact .inr (.inl rfl)
      · exact .inr (.inr (.inr ⟨rfl, h⟩))
    · exact .inr (.inr (.inl h))

theorem sl_irr (a : List Nat) : ¬ sl a a := fun h => by
  rcases h with h | ⟨_, h⟩
  · omega
  · exact ltR_irr a h

theorem sl_trans {a b c : List Nat} (h : sl a b) (k : sl b c) : sl a c := by
  rcases h with h | ⟨h, h'⟩ <;> rcases k with k | ⟨k, k'⟩
  · exact .inl (by omega)
  · exact .inl (by omega)
  · exact .inl (by omega)
  · exact .inr ⟨by omega, ltR_trans h' k'⟩

theorem sl_tri (a b : List Nat) : sl a b ∨ a = b ∨ sl b a := by
  rcases Nat.lt_trichotomy a.length b.length with h | h | h
  · exact .inl (.inl h)
  · rcases ltR_tri h with k | k | k
    · exact .inl (.inr ⟨h, k⟩)
    · exact .inr (.inl k)
    · exact .inr (.inr (.inr ⟨h.symm, k⟩))
  · exact .inr (.inr (.inl h))

theorem sle_trans {a b c : List Nat} (h : sle a b) (k : sle b c) : sle a c := by
  rcases h with rfl | h
  · exact k
  · rcases k with rfl | k
    · exact .inr h
    · exact .inr (sl_trans h k)

theorem sle_anti {a b : List Nat} (h : sle a b) (k : sle b a) : a = b := by
  rcases h with h | h
  · exact h
  · rcases k with k | k
    · exact k.symm
    · exact absurd (sl_trans h k) (sl_irr a)

theorem sl_cons {a b : List Nat} (x y : Nat) (h : sl a b) : sl (x :: a) (y :: b) := by
  rcases h with h | ⟨h, k⟩
  · exact .inl (by simpa using h)
  · exact .inr ⟨by simpa using h, .inl k⟩

theorem sle_cons {a b : List Nat} (x : Nat) (h : sle a b) : sle (x :: a) (x :: b) := by
  rcases h with rfl | h
  · exact .inl rfl
  · exact .inr (sl_cons x x h)

theorem sl_last (a : List Nat) {x y : Nat} (h : x < y) : sl (x :: a) (y :: a) := .inr ⟨rfl, .inr ⟨rfl, h⟩⟩

/-- a way, written backwards, from a root -/
inductive Wy (nx : Nat → List Nat) (rts : List Nat) : Nat → List Nat → Prop where
  | root {x : Nat} : x ∈ rts → Wy nx rts x [x]
  | tail {y x : Nat} {l : List Nat} : Wy nx rts y l → x ∈ nx y → Wy nx rts x (x :: l)

def headN : List Nat → Nat
  | [] => 0
  | x :: _ => x

/-- the nodes that have been found -/
def heads (ws : List (List Nat)) : List Nat := ws.map headN

/-- the ways that one node's arcs add -/
def addTo (l : List Nat) : List (List Nat) → List Nat → List (List Nat)
  | ws, [] => ws
  | ws, w :: r => addTo l (if (heads ws).contains w then ws else ws ++ [w :: l]) r

def bfs (nx : Nat → List Nat) : Nat → Nat → List (List Nat) → List (List Nat)
  | 0, _, ws => ws
  | k + 1, i, ws => match ws[i]? with
    | none => ws
    | some l => bfs nx k (i + 1) (addTo l ws (nx (headN l)))

/-- the ways, as far as the wave's first i nodes and the i-th node's first successors have been looked at -/
structure Wv (n : Nat) (nx : Nat → List Nat) (rts : List Nat) (ws : List (List Nat)) (i : Nat) (seen : List Nat) : Prop where
  way : ∀ l, l ∈ ws → Wy nx rts (headN l) l
  lt : ∀ l, l ∈ ws → headN l < n
  srt : ws.Pairwise sl
  nod : (heads ws).Nodup
  roots : ∀ x, x ∈ rts → [x] ∈ ws
  par : ∀ x l, (x :: l) ∈ ws → l = [] ∨ ∃ k, k ≤ i ∧ ws[k]? = some l ∧ (k = i → x ∈ seen)
  arc : ∀ k l, k < i → ws[k]? = some l → ∀ x, x ∈ nx (headN l) → ∃ l', l' ∈ ws ∧ headN l' = x ∧ sle l' (x :: l)
  arcI : ∀ l, ws[i]? = some l → ∀ x, x ∈ seen → ∃ l', l' ∈ ws ∧ headN l' = x ∧ sle l' (x :: l)

theorem mem_heads {ws : List (List Nat)} {x : Nat} : x ∈ heads ws ↔ ∃ l, l ∈ ws ∧ headN l = x := by
  simp [heads]

theorem pw_le {ws : List (List Nat)} (h : ws.Pairwise sl) {i j : Nat} {a b : List Nat} (ha : ws[i]? = some a) (hb : ws[j]? = some b) (hij : i ≤ j) : sle a b := by
  rcases Nat.lt_or_eq_of_le hij with hlt | rfl
  · obtain ⟨h1, rfl⟩ := List.getElem?_eq_some_iff.1 ha
    obtain ⟨h2, rfl⟩ := List.getElem?_eq_some_iff.1 hb
    exact .inr (List.pairwise_iff_getElem.1 h i j h1 h2 hlt)
  · rw [ha] at hb; cases hb; exact .inl rfl

theorem Wy.ne {nx : Nat → List Nat} {rts : List Nat} {x : Nat} {l : List Nat} (h : Wy nx rts x l) : ∃ r, l = x :: r := by
  cases h with
  | root _ => exact ⟨[], rfl⟩
  | tail _ _ => exact ⟨_, rfl⟩

/-- the arcs of the node at i, one by one -/
theorem Wv.add {n : Nat} {nx : Nat → List Nat} {rts : List Nat} {ws : List (List Nat)} {i : Nat} {seen : List Nat} (h : Wv n nx rts ws i seen) {l : List Nat} (hl : ws[i]? = some l) {w : Nat} (hw : w ∈ nx (headN l)) (hwn : w < n)
    (hlt : ∀ x, x ∈ seen → x < w) : Wv n nx rts (if (heads ws).contains w then ws else ws ++ [w :: l]) i (seen ++ [w]) ∧ (if (heads ws).contains w then ws else ws ++ [w :: l])[i]? = some l := by
  have hi := (List.getElem?_eq_some_iff.1 hl).1
  by_cases hc : (heads ws).contains w = true
  · rw [if_pos hc]
    refine ⟨⟨h.way, h.lt, h.srt, h.nod, h.roots, fun x m hm => ?_, h.arc, fun l' hl' x hx => ?_⟩, hl⟩
    · rcases h.par x m hm with e | ⟨k, h1, h2, h3⟩
      · exact .inl e
      · exact .inr ⟨k, h1, h2, fun e => List.mem_append_left _ (h3 e)⟩
    · rw [hl] at hl'; cases hl'
      rcases List.mem_append.1 hx with hx | hx
      · exact h.arcI l hl x hx
      · have : x = w := by simpa using hx
        subst this
        obtain ⟨m, hm, hmx⟩ := mem_heads.1 (List.contains_iff_mem.1 hc)
        refine ⟨m, hm, hmx, ?_⟩
        obtain ⟨r, hr⟩ := (h.way m hm).ne
        rw [hmx] at hr
        subst hr
        rcases h.par x r hm with rfl | ⟨k, h1, h2, _⟩
        · refine .inr (.inl ?_)
          obtain ⟨r, hr⟩ := (h.way l (List.mem_of_getElem? hl)).ne
          rw [hr]; simp
        · exact sle_cons x (pw_le h.srt h2 hl h1)
  · rw [if_neg hc]
    have hget : ∀ k m, ws[k]? = some m → (ws ++ [w :: l])[k]? = some m := fun k m hk => by
      rw [List.getElem?_append_left (List.getElem?_eq_some_iff.1 hk).1]; exact hk
    have hwl := h.way l (List.mem_of_getElem? hl)
    refine ⟨⟨fun m hm => ?_, fun m hm => ?_, ?_, ?_, fun x hx => List.mem_append_left _ (h.roots x hx), fun x m hm => ?_, fun k m hk hm x hx => ?_, fun l' hl' x hx => ?_⟩, hget i l hl⟩
    · rcases List.mem_append.1 hm with hm | hm
      · exact h.way m hm
      · have : m = w :: l := by simpa using hm
        subst this
        exact .tail hwl hw
    · rcases List.mem_append.1 hm with hm | hm
      · exact h.lt m hm
      · have : m = w :: l := by simpa using hm
        subst this; exact hwn
    · refine List.pairwise_append.2 ⟨h.srt, List.pairwise_singleton _ _, fun m hm b hb => ?_⟩
      have : b = w :: l := by simpa using hb
      subst this
      obtain ⟨r, hr⟩ := (h.way m hm).ne
      generalize headN m = x at hr
      subst hr
      rcases h.par x r hm with rfl | ⟨k, h1, h2, h3⟩
      · refine .inl ?_
        obtain ⟨r, hr⟩ := hwl.ne
        rw [hr]; simp
      · rcases pw_le h.srt h2 hl h1 with e | e
        · -- the same parent: the successors ascend
          subst e
          have hki : k = i := by
            rcases Nat.lt_or_eq_of_le h1 with hlt' | e
            · have hk := (List.getElem?_eq_some_iff.1 h2).1
              have := List.pairwise_iff_getElem.1 h.srt k i hk hi hlt'
              rw [(List.getElem?_eq_some_iff.1 h2).2, (List.getElem?_eq_some_iff.1 hl).2] at this
              exact absurd this (sl_irr _)
            · exact e
          exact sl_last r (hlt x (h3 hki))
        · exact sl_cons x w e
    · have : heads (ws ++ [w :: l]) = heads ws ++ [w] := by simp [heads, headN]
      rw [this]
      refine List.nodup_append.2 ⟨h.nod, by simp, fun a ha b hb e => ?_⟩
      have : b = w := by simpa using hb
      subst this; subst e
      exact hc (List.contains_iff_mem.2 ha)
    · rcases List.mem_append.1 hm with hm | hm
      · rcases h.par x m hm with e | ⟨k, h1, h2, h3⟩
        · exact .inl e
        · exact .inr ⟨k, h1, hget k m h2, fun e => List.mem_append_left _ (h3 e)⟩
      · have : x = w ∧ m = l := by simpa using hm
        obtain ⟨rfl, rfl⟩ := this
        exact .inr ⟨i, Nat.le_refl _, hget i m hl, fun _ => by simp⟩
    · have hk' : ws[k]? = some m := by rwa [List.getElem?_append_left (by omega)] at hm
      obtain ⟨l', h1, h2⟩ := h.arc k m hk hk' x hx
      exact ⟨l', List.mem_append_left _ h1, h2⟩
    · rw [hget i l hl] at hl'; cases hl'
      rcases List.mem_append.1 hx with hx | hx
      · obtain ⟨l', h1, h2⟩ := h.arcI l hl x hx
        exact ⟨l', List.mem_append_left _ h1, h2⟩
      · have : x = w := by simpa using hx
        subst this
        exact ⟨x :: l, by simp, rfl, .inl rfl⟩

theorem Wv.adds {n : Nat} {nx : Nat → List Nat} {rts : List Nat} {i : Nat} {l : List Nat} : ∀ {r : List Nat} {ws : List (List Nat)} {seen : List Nat}, Wv n nx rts ws i seen → ws[i]? = some l → (∀ x, x ∈ r → x ∈ nx (headN l) ∧ x < n) →
    (seen ++ r).Pairwise (· < ·) → Wv n nx rts (addTo l ws r) i (seen ++ r) ∧ (addTo l ws r)[i]? = some l
  | [], ws, seen, h, hl, _, _ => by rw [List.append_nil]; exact ⟨h, hl⟩
  | w :: r, ws, seen, h, hl, hr, hp => by
    obtain ⟨h1, h2⟩ := h.add hl (hr w List.mem_cons_self).1 (hr w List.mem_cons_self).2 (fun x hx => (List.pairwise_append.1 hp).2.2 x hx w List.mem_cons_self)
    have := Wv.adds (r := r) h1 h2 (fun x hx => hr x (List.mem_cons_of_mem _ hx)) (by rwa [List.append_assoc])
    rw [List.append_assoc] at this
    exact this

theorem Wv.next {n : Nat} {nx : Nat → List Nat} {rts : List Nat} {ws : List (List Nat)} {i : Nat} {l : List Nat} (h : Wv n nx rts ws i (nx (headN l))) (hl : ws[i]? = some l) : Wv n nx rts ws (i + 1) [] := by
  refine ⟨h.way, h.lt, h.srt, h.nod, h.roots, fun x m hm => ?_, fun k m hk hm x hx => ?_, fun _ _ x hx => by cases hx⟩
  · rcases h.par x m hm with e | ⟨k, h1, h2, _⟩
    · exact .inl e
    · exact .inr ⟨k, by omega, h2, fun e => by omega⟩
  · rcases Nat.lt_or_eq_of_le (Nat.le_of_lt_succ hk) with hk | rfl
    · exact h.arc k m hk hm x hx
    · rw [hl] at hm; cases hm
      exact h.arcI l hl x hx

theorem Wv.start {n : Nat} {nx : Nat → List Nat} {rts : List Nat} (hr : ∀ x, x ∈ rts → x < n) (hp : rts.Pairwise (· < ·)) : Wv n nx rts (rts.map ([·])) 0 [] := by
  refine ⟨fun l hl => ?_, fun l hl => ?_, ?_, ?_, fun x hx => List.mem_map.2 ⟨x, hx, rfl⟩, fun x m hm => ?_, fun k m hk => absurd hk (Nat.not_lt_zero _), fun _ _ x hx => by cases hx⟩
  · obtain ⟨x, hx, rfl⟩ := List.mem_map.1 hl
    exact .root hx
  · obtain ⟨x, hx, rfl⟩ := List.mem_map.1 hl
    exact hr x hx
  · exact List.pairwise_map.2 (hp.imp (fun h => sl_last [] h))
  · have : heads (rts.map ([·])) = rts := by simp [heads, headN, Function.comp_def]
    rw [this]
    exact hp.imp (fun h => Nat.ne_of_lt h)
  · obtain ⟨y, _, e⟩ := List.mem_map.1 hm
    exact .inl (by simpa using (List.cons.inj e).2.symm)

theorem nodup_le : ∀ {n : Nat} {l : List Nat}, l.Nodup → (∀ x, x ∈ l → x < n) → l.length ≤ n
  | 0, [], _, _ => Nat.le_refl _
  | 0, x :: _, _, h => absurd (h x List.mem_cons_self) (Nat.not_lt_zero _)
  | n + 1, l, hd, h => by
    have h1 : (l.filter (· != n)).length ≤ n := nodup_le (hd.filter _) (fun x hx => by
      obtain ⟨h1, h2⟩ := List.mem_filter.1 hx
      have := h x h1
      have : x ≠ n := by simpa using h2
      omega)
    have h2 : l.length ≤ (l.filter (· != n)).length + 1 := by
      clear h h1
      induction l with
      | nil => simp
      | cons a r ih =>
        obtain ⟨h1, h2⟩ := List.nodup_cons.1 hd
        by_cases e : a = n
        · subst e
          have : r.filter (· != a) = r := List.filter_eq_self.2 (fun x hx => by
            have : x ≠ a := fun e => h1 (e ▸ hx)
            simpa using this)
          simp [this]
        · have := ih h2
          simp only [List.filter_cons, bne_iff_ne, ne_eq, e, not_false_eq_true, if_true, List.length_cons]
          omega
    omega

theorem Wv.len {n : Nat} {nx : Nat → List Nat} {rts : List Nat} {ws : List (List Nat)} {i : Nat} {seen : List Nat} (h : Wv n nx rts ws i seen) : ws.length ≤ n := by
  have := nodup_le h.nod (n := n) (fun x hx => by obtain ⟨l, h1, rfl⟩ := mem_heads.1 hx; exact h.lt l h1)
  simpa [heads] using this

/-- all has been looked at -/
structure Ways (n : Nat) (nx : Nat → List Nat) (rts : List Nat) (ws : List (List Nat)) : Prop where
  all : ∃ i, ws.length ≤ i ∧ Wv n nx rts ws i []

theorem bfs_ways {n : Nat} {nx : Nat → List Nat} {rts : List Nat} (hnx : ∀ u, u < n → (nx u).Pairwise (· < ·) ∧ ∀ x, x ∈ nx u → x < n) : ∀ (k i : Nat) (ws : List (List Nat)), Wv n nx rts ws i [] → n ≤ i + k → Ways n nx rts (bfs nx k i ws)
  | 0, i, ws, h, hk => ⟨i, by show ws.length ≤ i; have := h.len; omega, h⟩
  | k + 1, i, ws, h, hk => by
    unfold bfs
    rcases hl : ws[i]? with _ | l
    · exact ⟨i, List.getElem?_eq_none_iff.1 hl, h⟩
    · have hln := h.lt l (List.mem_of_getElem? hl)
      obtain ⟨h1, h2⟩ := h.adds (r := nx (headN l)) hl (fun x hx => ⟨hx, (hnx _ hln).2 x hx⟩) (by simpa using (hnx _ hln).1)
      rw [List.nil_append] at h1
      exact bfs_ways hnx k (i + 1) _ (h1.next h2) (by omega)

/-- the ways to the nodes that are reached, in the order in which they are found -/
def waysOf (n : Nat) (nx : Nat → List Nat) (rts : List Nat) : List (List Nat) := bfs nx n 0 (rts.map ([·]))

theorem ways_of {n : Nat} {nx : Nat → List Nat} {rts : List Nat} (hnx : ∀ u, u < n → (nx u).Pairwise (· < ·) ∧ ∀ x, x ∈ nx u → x < n) (hr : ∀ x, x ∈ rts → x < n) (hp : rts.Pairwise (· < ·)) : Ways n nx rts (waysOf n nx rts) :=
  bfs_ways hnx n 0 _ (.start hr hp) (by omega)

/-- the way that is kept is the least -/
theorem Ways.least {n : Nat} {nx : Nat → List Nat} {rts : List Nat} {ws : List (List Nat)} (h : Ways n nx rts ws) {x : Nat} {l : List Nat} (hl : Wy nx rts x l) : ∃ l', l' ∈ ws ∧ headN l' = x ∧ sle l' l := by
  obtain ⟨i, hi, h⟩ := h
  induction hl with
  | root hx => exact ⟨_, h.roots _ hx, rfl, .inl rfl⟩
  | tail hy hx ih =>
    obtain ⟨m, hm, hmy, hle⟩ := ih
    obtain ⟨k, hk⟩ := List.mem_iff_getElem?.1 hm
    obtain ⟨l', h1, h2, h3⟩ := h.arc k m (by have := (List.getElem?_eq_some_iff.1 hk).1; omega) hk _ (by rw [hmy]; exact hx)
    exact ⟨l', h1, h2, sle_trans h3 (sle_cons _ hle)⟩

theorem Ways.way {n : Nat} {nx : Nat → List Nat} {rts : List Nat} {ws : List (List Nat)} (h : Ways n nx rts ws) {l : List Nat} (hl : l ∈ ws) : Wy nx rts (headN l) l := by
  obtain ⟨i, _, h⟩ := h; exact h.way l hl

theorem head_inj {ws : List (List Nat)} (h : (heads ws).Nodup) {a b : List Nat} (ha : a ∈ ws) (hb : b ∈ ws) (e : headN a = headN b) : a = b := by
  induction ws with
  | nil => cases ha
  | cons c r ih =>
    have hn : (headN c :: heads r).Nodup := h
    obtain ⟨h1, h2⟩ := List.nodup_cons.1 hn
    rcases List.mem_cons.1 ha with e1 | ha <;> rcases List.mem_cons.1 hb with e2 | hb
    · rw [e1, e2]
    · exact absurd (mem_heads.2 ⟨b, hb, by rw [← e, e1]⟩) h1
    · exact absurd (mem_heads.2 ⟨a, ha, by rw [e, e2]⟩) h1
    · exact ih h2 ha hb

/-- the way to a node, forward; nil if there is none -/
def wayL (ws : List (List Nat)) (x : Nat) : List Nat := ((ws.find? fun l => headN l == x).getD []).reverse

theorem Ways.find {n : Nat} {nx : Nat → List Nat} {rts : List Nat} {ws : List (List Nat)} (h : Ways n nx rts ws) {l : List Nat} (hl : l ∈ ws) : wayL ws (headN l) = l.reverse := by
  unfold wayL
  rcases hf : ws.find? (fun m => headN m == headN l) with _ | m
  · have := List.find?_eq_none.1 hf l hl; simp at this
  · have h1 := List.mem_of_find?_eq_some hf
    have h2 := List.find?_some hf
    obtain ⟨i, _, h⟩ := h
    rw [head_inj h.nod h1 hl (by simpa using h2)]; rfl

theorem wayL_none {ws : List (List Nat)} {x : Nat} (h : x ∉ heads ws) : wayL ws x = [] := by
  unfold wayL
  rw [List.find?_eq_none.2 (fun l hl e => h (mem_heads.2 ⟨l, hl, by simpa using e⟩))]; rfl

/-- which nodes are reached -/
theorem Ways.reach {n : Nat} {nx : Nat → List Nat} {rts : List Nat} {ws : List (List Nat)} (h : Ways n nx rts ws) {x : Nat} : x ∈ heads ws ↔ ∃ r, r ∈ rts ∧ Rch nx r x := by
  constructor
  · intro hx
    obtain ⟨l, hl, rfl⟩ := mem_heads.1 hx
    have hw := h.way hl
    generalize headN l = x at hw
    clear hx hl
    induction hw with
    | root hx => exact ⟨_, hx, .refl _⟩
    | tail _ hx ih => obtain ⟨r, h1, h2⟩ := ih; exact ⟨r, h1, h2.tail hx⟩
  · rintro ⟨r, hr, hx⟩
    have : ∃ l, Wy nx rts x l := by
      induction hx with
      | refl => exact ⟨_, .root hr⟩
      | tail _ hx ih => obtain ⟨l, hl⟩ := ih; exact ⟨_, hl.tail hx⟩
    obtain ⟨l, hl⟩ := this
    obtain ⟨l', h1, h2, _⟩ := h.least hl
    exact mem_heads.2 ⟨l', h1, h2⟩

end Go.Proofs.Ytmgkoocpnakanaa.Tj
