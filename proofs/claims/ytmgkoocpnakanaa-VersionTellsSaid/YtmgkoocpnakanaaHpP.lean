/-
  A heap in a list: up, down, the least lies first. No program.
-/
import Derived.Test.YtmgkoocpnakanaaKaP
namespace Go.Proofs.Ytmgkoocpnakanaa.Tj
set_option linter.unusedVariables false

def swapL (h : List Nat) (i j : Nat) : List Nat := (h.set i (h.getD j 0)).set j (h.getD i 0)

theorem swapL_len (h : List Nat) (i j : Nat) : (swapL h i j).length = h.length := by simp [swapL]

theorem swapL_get {h : List Nat} {i j : Nat} (hi : i < h.length) (hj : j < h.length) (k : Nat) : (swapL h i j).getD k 0 = if k = j then h.getD i 0 else if k = i then h.getD j 0 else h.getD k 0 := by
  simp only [swapL, List.getD_eq_getElem?_getD, List.getElem?_set, List.length_set]
  by_cases e : j = k
  · subst e; simp [hj, hi]
  · by_cases e2 : i = k
    · subst e2
      have : i ≠ j := fun h => e h.symm
      simp [e, hi, hj, this]
    · have h1 : k ≠ j := fun h => e h.symm
      have h2 : k ≠ i := fun h => e2 h.symm
      simp [e, e2, h1, h2]

theorem swapL_perm {h : List Nat} {i j : Nat} (hi : i < h.length) (hj : j < h.length) : (swapL h i j).Perm h := by
  refine List.perm_iff_count.2 (fun a => ?_)
  unfold swapL
  generalize hy : h.getD j 0 = y
  have hj' : j < (h.set i y).length := by simpa using hj
  rw [List.count_set hj', List.count_set hi]
  have g1 : h.getD i 0 = h[i] := by simp [List.getD_eq_getElem?_getD, hi]
  have g2 : h.getD j 0 = h[j] := by simp [List.getD_eq_getElem?_getD, hj]
  have hc1 : h[i] = a → 0 < h.count a := fun e => List.count_pos_iff.2 (e ▸ List.getElem_mem hi)
  have hc2 : h[j] = a → 0 < h.count a := fun e => List.count_pos_iff.2 (e ▸ List.getElem_mem hj)
  rw [g2] at hy
  subst hy
  rw [g1, List.getElem_set]
  by_cases e : i = j
  · subst e
    simp only [beq_iff_eq, if_true]
    by_cases e1 : h[i] = a
    · have := hc1 e1; simp only [e1, if_true]; omega
    · simp only [e1, if_false]; omega
  · simp only [beq_iff_eq, e, if_false]
    by_cases e1 : h[i] = a <;> by_cases e2 : h[j] = a
    · have := hc1 e1; simp only [e1, e2, if_true]; omega
    · have := hc1 e1; simp only [e1, e2, if_true, if_false]; omega
    · have := hc2 e2; simp only [e1, e2, if_true, if_false]; omega
    · simp only [e1, e2, if_false]; omega

section heap
variable (key : Nat → Nat)

def kx (h : List Nat) (i : Nat) : Nat := key (h.getD i 0)

/-- the first m are a heap -/
def HeapO (h : List Nat) (m : Nat) : Prop := ∀ i, 0 < i → i < m → kx key h ((i - 1) / 2) ≤ kx key h i

/-- a heap but for what j and its parent tell -/
structure UpO (h : List Nat) (m j : Nat) : Prop where
  at' : j < m
  oth : ∀ i, 0 < i → i < m → i ≠ j → kx key h ((i - 1) / 2) ≤ kx key h i
  kid : ∀ c, 0 < j → 0 < c → c < m → (c - 1) / 2 = j → kx key h ((j - 1) / 2) ≤ kx key h c

/-- a heap but for what i and its children tell -/
structure DnO (h : List Nat) (m i : Nat) : Prop where
  oth : ∀ c, 0 < c → c < m → (c - 1) / 2 ≠ i → kx key h ((c - 1) / 2) ≤ kx key h c
  kid : ∀ c, 0 < i → 0 < c → c < m → (c - 1) / 2 = i → kx key h ((i - 1) / 2) ≤ kx key h c

variable {key}

theorem kx_swap {h : List Nat} {i j : Nat} (hi : i < h.length) (hj : j < h.length) (k : Nat) : kx key (swapL h i j) k = if k = j then kx key h i else if k = i then kx key h j else kx key h k := by
  unfold kx; rw [swapL_get hi hj]; split
  · rfl
  · split <;> rfl

theorem UpO.start {h : List Nat} {x : Nat} (ho : HeapO key h h.length) : UpO key (h ++ [x]) (h.length + 1) h.length := by
  have hg : ∀ k, k < h.length → kx key (h ++ [x]) k = kx key h k := fun k hk => by
    unfold kx; simp only [List.getD_eq_getElem?_getD]; rw [List.getElem?_append_left hk]
  refine ⟨by omega, fun i h0 h1 h2 => ?_, fun c _ h1 h2 h3 => by omega⟩
  rw [hg i (by omega), hg _ (by omega)]
  exact ho i h0 (by omega)

theorem UpO.stop {h : List Nat} {m j : Nat} (u : UpO key h m j) (hs : j = 0 ∨ kx key h ((j - 1) / 2) ≤ kx key h j) : HeapO key h m := fun i h0 h1 => by
  by_cases e : i = j
  · subst e
    rcases hs with hs | hs
    · omega
    · exact hs
  · exact u.oth i h0 h1 e

theorem UpO.step {h : List Nat} {m j : Nat} (u : UpO key h m j) (hm : m ≤ h.length) (h0 : 0 < j) (hl : kx key h j < kx key h ((j - 1) / 2)) : UpO key (swapL h ((j - 1) / 2) j) m ((j - 1) / 2) := by
  have hj := u.at'
  obtain ⟨p, hp⟩ : ∃ p, (j - 1) / 2 = p := ⟨_, rfl⟩
  rw [hp] at hl ⊢
  have hpj : p < j := by omega
  have hk := kx_swap (key := key) (h := h) (i := p) (j := j) (by omega) (by omega)
  have hu := u.oth
  have hkid := u.kid
  refine ⟨by omega, fun i h1 h2 h3 => ?_, fun c h1 h2 h3 h4 => ?_⟩
  · rw [hk i, hk ((i - 1) / 2)]
    by_cases e1 : i = j
    · subst e1
      rw [if_pos rfl, hp, if_neg (by omega), if_pos rfl]
      omega
    · rw [if_neg e1, if_neg h3]
      by_cases e2 : (i - 1) / 2 = j
      · rw [if_pos e2]
        have := hkid i h0 h1 h2 e2
        rwa [hp] at this
      · rw [if_neg e2]
        by_cases e3 : (i - 1) / 2 = p
        · rw [if_pos e3]
          have := hu i h1 h2 e1
          rw [e3] at this; omega
        · rw [if_neg e3]; exact hu i h1 h2 e1
  · -- children of p: j itself and its other child
    rw [hk c, hk ((p - 1) / 2), if_neg (show ¬ (p - 1) / 2 = j by omega), if_neg (show ¬ (p - 1) / 2 = p by omega)]
    have hpp := hu p h1 (by omega) (by omega)
    by_cases e1 : c = j
    · rw [if_pos e1]; exact hpp
    · rw [if_neg e1, if_neg (by omega)]
      have := hu c h2 h3 e1
      rw [h4] at this; omega

theorem DnO.start {h : List Nat} (ho : HeapO key h h.length) (h0 : 0 < h.length) : DnO key (swapL h 0 (h.length - 1)) (h.length - 1) 0 := by
  have hk := kx_swap (key := key) (h := h) (i := 0) (j := h.length - 1) h0 (by omega)
  refine ⟨fun c h1 h2 h3 => ?_, fun c h1 => absurd h1 (by omega)⟩
  rw [hk c, hk ((c - 1) / 2), if_neg (by omega), if_neg h3, if_neg (by omega), if_neg (by omega)]
  exact ho c h1 (by omega)

theorem DnO.stop {h : List Nat} {m i : Nat} (d : DnO key h m i) (hs : ∀ c, 0 < c → c < m → (c - 1) / 2 = i → kx key h i ≤ kx key h c) : HeapO key h m := fun c h0 h1 => by
  by_cases e : (c - 1) / 2 = i
  · rw [e]; exact hs c h0 h1 e
  · exact d.oth c h0 h1 e

theorem DnO.step {h : List Nat} {m i j : Nat} (d : DnO key h m i) (hm : m ≤ h.length) (hj0 : 0 < j) (hj : j < m) (hji : (j - 1) / 2 = i) (hl : kx key h j < kx key h i) (hmin : ∀ c, 0 < c → c < m → (c - 1) / 2 = i → kx key h j ≤ kx key h c) :
    DnO key (swapL h i j) m j := by
  have hk := kx_swap (key := key) (h := h) (i := i) (j := j) (by omega) (by omega)
  refine ⟨fun c h1 h2 h3 => ?_, fun c h1 h2 h3 h4 => ?_⟩
  · rw [hk c, hk ((c - 1) / 2), if_neg h3]
    by_cases e1 : c = j
    · subst e1
      rw [if_pos rfl, if_pos hji]; omega
    · rw [if_neg e1]
      by_cases e2 : (c - 1) / 2 = i
      · rw [if_pos e2]
        have : c ≠ i := by omega
        rw [if_neg this]; exact hmin c h1 h2 e2
      · rw [if_neg e2]
        by_cases e3 : c = i
        · rw [if_pos e3]; subst e3
          exact d.kid j h1 hj0 hj hji
        · rw [if_neg e3]; exact d.oth c h1 h2 e2
  · rw [hk c, hk ((j - 1) / 2), if_neg (by omega), if_pos hji, if_neg (by omega), if_neg (by omega)]
    have := d.oth c h2 h3 (by omega)
    rwa [h4] at this

/-- the least lies first -/
theorem HeapO.least {h : List Nat} {m : Nat} (ho : HeapO key h m) : ∀ i, i < m → kx key h 0 ≤ kx key h i
  | 0, _ => Nat.le_refl _
  | i + 1, hi => Nat.le_trans (HeapO.least ho (i / 2) (by omega)) (by have := ho (i + 1) (by omega) hi; simpa using this)
termination_by i => i
decreasing_by omega

theorem HeapO.take {h : List Nat} {m : Nat} (ho : HeapO key h m) : HeapO key (h.take m) m := fun i h0 h1 => by
  have hg : ∀ k, k < m → kx key (h.take m) k = kx key h k := fun k hk => by
    unfold kx; simp only [List.getD_eq_getElem?_getD]; rw [List.getElem?_take_of_lt hk]
  rw [hg i h1, hg _ (by omega)]; exact ho i h0 h1

end heap

end Go.Proofs.Ytmgkoocpnakanaa.Tj
