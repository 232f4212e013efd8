/-
  Plain laws of Uses: the lists ascend; an exchange of two registers.
-/
import Derived.Test.YtlohhlbbkliehaaGreatDoorUses
import Derived.Test.YtlohhlbbkliehaaGreatDoorRop9
namespace Go.Proofs.YtlohhlbbkliehaaGreatDoor.W
open Go.RowKit
set_option linter.unusedVariables false

theorem comp_inv (d : Array Int) (hs : ∀ i j, i < j → j < d.size → d[i]! ≤ d[j]!) : ∀ m, m ≤ d.size →
    (Lib.compactUpTo d m).Pairwise (· < ·) ∧ (∀ x ∈ Lib.compactUpTo d m, 0 < m ∧ x ≤ d[m - 1]!) ∧ (∀ j, j < m → d[j]! ∈ Lib.compactUpTo d m) ∧ (∀ x ∈ Lib.compactUpTo d m, ∃ j, j < m ∧ d[j]! = x)
  | 0, _ => by
    have : Lib.compactUpTo d 0 = [] := rfl
    rw [this]
    exact ⟨List.Pairwise.nil, by simp, by simp, by simp⟩
  | m + 1, hm => by
    obtain ⟨h1, h2, h3, h4⟩ := comp_inv d hs m (by omega)
    rw [Lib.compactUpTo_succ]
    by_cases hk : Lib.keeps d m = true
    · rw [if_pos hk]
      have hlt : ∀ x ∈ Lib.compactUpTo d m, x < d[m]! := fun x hx => by
        obtain ⟨h0, hle⟩ := h2 x hx
        have hmono := hs (m - 1) m (by omega) (by omega)
        unfold Lib.keeps at hk
        rw [decide_eq_true_eq] at hk
        rcases hk with hk | hk
        · omega
        · have : d[m - 1]! ≠ d[m]! := fun e => hk e.symm
          omega
      refine ⟨?_, ?_, ?_, ?_⟩
      · rw [List.pairwise_append]
        exact ⟨h1, by simp, fun x hx y hy => by simp at hy; subst hy; exact hlt x hx⟩
      · intro x hx
        rw [Nat.add_sub_cancel]
        rcases List.mem_append.1 hx with hx | hx
        · exact ⟨by omega, Int.le_of_lt (hlt x hx)⟩
        · simp at hx; subst hx; exact ⟨by omega, Int.le_refl _⟩
      · intro j hj
        by_cases e : j = m
        · subst e; exact List.mem_append_right _ (by simp)
        · exact List.mem_append_left _ (h3 j (by omega))
      · intro x hx
        rcases List.mem_append.1 hx with hx | hx
        · obtain ⟨j, hj, e⟩ := h4 x hx; exact ⟨j, by omega, e⟩
        · simp at hx; subst hx; exact ⟨m, by omega, rfl⟩
    · rw [if_neg hk, List.append_nil]
      unfold Lib.keeps at hk
      rw [decide_eq_true_eq] at hk
      have hm0 : m ≠ 0 := fun e => hk (.inl e)
      have he : d[m]! = d[m - 1]! := Decidable.byContradiction fun e => hk (.inr e)
      refine ⟨h1, ?_, ?_, ?_⟩
      · intro x hx
        rw [Nat.add_sub_cancel, he]
        exact ⟨by omega, (h2 x hx).2⟩
      · intro j hj
        by_cases e : j = m
        · subst e; rw [he]; exact h3 _ (by omega)
        · exact h3 j (by omega)
      · intro x hx
        obtain ⟨j, hj, e⟩ := h4 x hx; exact ⟨j, by omega, e⟩
theorem arr_bang (l : List Int) (j : Nat) (h : j < l.length) : l.toArray[j]! = l[j] := by simp [h]
theorem compact_sorted {l : List Int} (h : l.Pairwise (· ≤ ·)) : (Lib.compact l).Pairwise (· < ·) ∧ ∀ x, x ∈ Lib.compact l ↔ x ∈ l := by
  have hs : ∀ i j, i < j → j < l.toArray.size → l.toArray[i]! ≤ l.toArray[j]! := fun i j hij hj => by
    have hj' : j < l.length := by simpa using hj
    rw [arr_bang l i (by omega), arr_bang l j hj']
    exact List.pairwise_iff_getElem.1 h i j (by omega) hj' hij
  obtain ⟨h1, h2, h3, h4⟩ := comp_inv l.toArray hs l.length (by simp)
  refine ⟨h1, fun x => ⟨fun hx => ?_, fun hx => ?_⟩⟩
  · obtain ⟨j, hj, e⟩ := h4 x hx
    rw [arr_bang l j hj] at e
    exact e ▸ List.getElem_mem hj
  · obtain ⟨j, hj, e⟩ := List.getElem_of_mem hx
    have := h3 j hj
    rw [arr_bang l j hj, e] at this
    exact this
theorem merge_le (l : List Int) : (l.mergeSort fun x y => decide (x ≤ y)).Pairwise (· ≤ ·) := by
  have := List.pairwise_mergeSort (le := fun x y : Int => decide (x ≤ y)) (fun a b c h1 h2 => by simp only [decide_eq_true_eq] at *; omega) (fun a b => by simp only [Bool.or_eq_true, decide_eq_true_eq]; omega) l
  exact this.imp (fun h => by simpa using h)
theorem regs_sorted (a b c m : Int) (l : List UInt8) : (regsL a b c m l).Pairwise (· < ·) ∧ ∀ x, x ∈ regsL a b c m l ↔ ∃ ch ∈ l, regN a b c m ch = x := by
  unfold regsL
  obtain ⟨h1, h2⟩ := compact_sorted (merge_le (l.map (regN a b c m)))
  refine ⟨h1, fun x => ?_⟩
  rw [h2, List.mem_mergeSort, List.mem_map]
theorem regs_len (a b c m : Int) (l : List UInt8) : (regsL a b c m l).length ≤ l.length := by
  unfold regsL
  refine Nat.le_trans (compact_len _) ?_
  rw [List.length_mergeSort, List.length_map]
  exact Nat.le_refl _
theorem sorted_ext : ∀ (l m : List Int), l.Pairwise (· < ·) → m.Pairwise (· < ·) → (∀ x, x ∈ l ↔ x ∈ m) → l = m
  | [], [], _, _, _ => rfl
  | [], y :: m, _, _, h => absurd ((h y).2 (by simp)) (by simp)
  | x :: l, [], _, _, h => absurd ((h x).1 (by simp)) (by simp)
  | x :: l, y :: m, h1, h2, h => by
    rw [List.pairwise_cons] at h1 h2
    have e : x = y := by
      rcases List.mem_cons.1 ((h x).1 (by simp)) with e | hx
      · exact e
      · rcases List.mem_cons.1 ((h y).2 (by simp)) with e | hy
        · exact e.symm
        · have := h1.1 y hy; have := h2.1 x hx; omega
    subst e
    rw [sorted_ext l m h1.2 h2.2 (fun z => ?_)]
    constructor
    · intro hz
      rcases List.mem_cons.1 ((h z).1 (by simp [hz])) with e | hz'
      · subst e; have := h1.1 z hz; omega
      · exact hz'
    · intro hz
      rcases List.mem_cons.1 ((h z).2 (by simp [hz])) with e | hz'
      · subst e; have := h2.1 z hz; omega
      · exact hz'

/-! The exchange of two registers. -/

def mapI (x y r : Int) : Int := if r = x then y else if r = y then x else r
def swapL (x y : Int) (l : List Int) : List Int := (List.range 16).flatMap fun (r : Nat) => (l.filter fun k => decide (mapI x y k = (r : Int))).map fun _ => (r : Int)
theorem mapI_inj {x y r s : Int} (h : mapI x y r = mapI x y s) : r = s := by
  unfold mapI at h
  (repeat' split at h) <;> omega
theorem mapI_range {x y r : Int} (hx : 0 ≤ x ∧ x ≤ 14) (hy : 0 ≤ y ∧ y ≤ 14) (h : 0 ≤ r ∧ r ≤ 15) : 0 ≤ mapI x y r ∧ mapI x y r ≤ 15 := by
  unfold mapI; split
  · omega
  · split <;> omega
theorem mapI_15 {x y : Int} (hx : 0 ≤ x ∧ x ≤ 14) (hy : 0 ≤ y ∧ y ≤ 14) : mapI x y 15 = 15 := by
  unfold mapI; rw [if_neg (by omega), if_neg (by omega)]
theorem swap_sorted {x y : Int} {l : List Int} (h : l.Pairwise (· < ·)) (hr : ∀ k ∈ l, 0 ≤ mapI x y k ∧ mapI x y k ≤ 15) : (swapL x y l).Pairwise (· < ·) ∧ ∀ z, z ∈ swapL x y l ↔ ∃ k ∈ l, mapI x y k = z := by
  unfold swapL
  constructor
  · rw [List.pairwise_flatMap]
    constructor
    · intro r _
      rw [List.pairwise_map]
      have := (List.Pairwise.filter (fun k => decide (mapI x y k = (r : Int))) h)
      refine List.Pairwise.imp_of_mem (fun {a b} ha hb hab => ?_) this
      have h1 := (List.mem_filter.1 ha).2
      have h2 := (List.mem_filter.1 hb).2
      rw [decide_eq_true_eq] at h1 h2
      have := mapI_inj (h1.trans h2.symm)
      omega
    · have := List.pairwise_lt_range (n := 16)
      refine List.Pairwise.imp ?_ this
      intro a b hab z1 hz1 z2 hz2
      obtain ⟨_, _, rfl⟩ := List.mem_map.1 hz1
      obtain ⟨_, _, rfl⟩ := List.mem_map.1 hz2
      omega
  · intro z
    rw [List.mem_flatMap]
    constructor
    · rintro ⟨r, hr', hz⟩
      obtain ⟨k, hk, rfl⟩ := List.mem_map.1 hz
      obtain ⟨hk1, hk2⟩ := List.mem_filter.1 hk
      exact ⟨k, hk1, by simpa using hk2⟩
    · rintro ⟨k, hk, rfl⟩
      have := hr k hk
      refine ⟨(mapI x y k).toNat, List.mem_range.2 (by omega), List.mem_map.2 ⟨k, List.mem_filter.2 ⟨hk, ?_⟩, ?_⟩⟩
      · rw [decide_eq_true_eq]; omega
      · show ((mapI x y k).toNat : Int) = mapI x y k; omega
/-- the operands behind the exchange -/
def swA (x y : Int) (n : Nat) (a : Int) : Int := if (1 : Int) ∈ ropsL n then mapI x y a else a
def swB (x y : Int) (n : Nat) (b : Int) : Int := if (2 : Int) ∈ ropsL n then mapI x y b else b
def swC (x y : Int) (n : Nat) (c : Int) : Int := if (3 : Int) ∈ ropsL n then mapI x y c else c
theorem right_swap {n : Nat} {a b c m x y : Int} (hx : 0 ≤ x ∧ x ≤ 14) (hy : 0 ≤ y ∧ y ≤ 14) (h : rightB n a b c m = true) : rightB n (swA x y n a) (swB x y n b) (swC x y n c) m = true := by
  have hp := right_parts h
  have hop : 1 ≤ (n : Int) ∧ (n : Int) ≤ 30 := hp.op
  have key : ∀ (ch : UInt8) (k : Int) (v : Int), ch ≠ 73 → decide (0 ≤ usedI n ch) = decide (k ∈ ropsL n) → okF n ch v = true → okF n ch (if k ∈ ropsL n then mapI x y v else v) = true := fun ch k v hc hu hv => by
    have hr := okF_range hc hv
    by_cases hk : k ∈ ropsL n
    · rw [if_pos hk]
      rw [decide_eq_true hk] at hu
      have := mapI_range hx hy hr
      unfold okF
      rw [hu]
      simp [this.1, this.2]
    · rw [if_neg hk]; exact hv
  have hu := used_iff hop
  rw [Int.toNat_natCast] at hu
  unfold rightB at h ⊢
  rw [Int.toNat_natCast] at h ⊢
  simp only [Bool.and_eq_true] at h ⊢
  obtain ⟨h1, h2, h3, h4, h5, h6⟩ := h
  exact ⟨h1, h2, key 65 1 a (by decide) hu.1 h3, key 66 2 b (by decide) hu.2.1 h4, key 67 3 c (by decide) hu.2.2.1 h5, h6⟩
theorem letters_used : ((List.range 31).all fun n => (readsL n ++ writesL n).all fun ch => decide (ch = 83) || (decide (ch = 65) && decide ((1 : Int) ∈ ropsL n)) || (decide (ch = 66) && decide ((2 : Int) ∈ ropsL n)) || (decide (ch = 67) && decide ((3 : Int) ∈ ropsL n))) = true := by decide +kernel
theorem regN_swap {n : Nat} (hn : n < 31) {a b c m x y : Int} (hx : 0 ≤ x ∧ x ≤ 14) (hy : 0 ≤ y ∧ y ≤ 14) {ch : UInt8} (hc : ch ∈ readsL n ++ writesL n) :
    regN (swA x y n a) (swB x y n b) (swC x y n c) m ch = mapI x y (regN a b c m ch) := by
  have := List.all_eq_true.1 (List.all_eq_true.1 letters_used n (List.mem_range.2 hn)) ch hc
  simp only [Bool.or_eq_true, Bool.and_eq_true, decide_eq_true_eq] at this
  rcases this with ((rfl | ⟨rfl, h⟩) | ⟨rfl, h⟩) | ⟨rfl, h⟩
  · show (15 : Int) = mapI x y 15
    rw [mapI_15 hx hy]
  · show swA x y n a = mapI x y a
    unfold swA; rw [if_pos h]
  · show swB x y n b = mapI x y b
    unfold swB; rw [if_pos h]
  · show swC x y n c = mapI x y c
    unfold swC; rw [if_pos h]
theorem regN_range {n : Nat} (hn : n < 31) {a b c m : Int} (hp : RightP n a b c m) {ch : UInt8} (hc : ch ∈ readsL n ++ writesL n) : 0 ≤ regN a b c m ch ∧ regN a b c m ch ≤ 15 := by
  have := List.all_eq_true.1 (List.all_eq_true.1 letters_used n (List.mem_range.2 hn)) ch hc
  simp only [Bool.or_eq_true, Bool.and_eq_true, decide_eq_true_eq] at this
  rcases this with ((rfl | ⟨rfl, h⟩) | ⟨rfl, h⟩) | ⟨rfl, h⟩
  · exact ⟨(by decide : (0 : Int) ≤ 15), (by decide : (15 : Int) ≤ 15)⟩
  · exact hp.a
  · exact hp.b
  · exact hp.c
theorem regs_swap {n : Nat} (hn : n < 31) {a b c m x y : Int} (hp : RightP n a b c m) (hx : 0 ≤ x ∧ x ≤ 14) (hy : 0 ≤ y ∧ y ≤ 14) {l : List UInt8} (hl : ∀ ch ∈ l, ch ∈ readsL n ++ writesL n) :
    regsL (swA x y n a) (swB x y n b) (swC x y n c) m l = swapL x y (regsL a b c m l) := by
  obtain ⟨h1, h2⟩ := regs_sorted (swA x y n a) (swB x y n b) (swC x y n c) m l
  obtain ⟨g1, g2⟩ := regs_sorted a b c m l
  have hr : ∀ k ∈ regsL a b c m l, 0 ≤ mapI x y k ∧ mapI x y k ≤ 15 := fun k hk => by
    obtain ⟨ch, hc, e⟩ := (g2 k).1 hk
    exact e ▸ mapI_range hx hy (regN_range hn hp (hl ch hc))
  obtain ⟨s1, s2⟩ := swap_sorted g1 hr
  refine sorted_ext _ _ h1 s1 (fun z => ?_)
  rw [h2, s2]
  constructor
  · rintro ⟨ch, hc, rfl⟩
    exact ⟨regN a b c m ch, (g2 _).2 ⟨ch, hc, rfl⟩, (regN_swap hn hx hy (hl ch hc)).symm⟩
  · rintro ⟨k, hk, rfl⟩
    obtain ⟨ch, hc, rfl⟩ := (g2 k).1 hk
    exact ⟨ch, hc, regN_swap hn hx hy (hl ch hc)⟩

/-- what Uses tells of a right instruction -/
theorem uses_parts {n : Nat} {a b c m : Int} (h : rightB n a b c m = true) :
    ((usesR n a b c m).Pairwise (· < ·) ∧ (usesR n a b c m).length ≤ 3 ∧ ∀ k ∈ usesR n a b c m, 0 ≤ k ∧ k ≤ 15) ∧ ((usesW n a b c m).Pairwise (· < ·) ∧ (usesW n a b c m).length ≤ 2 ∧ ∀ k ∈ usesW n a b c m, 0 ≤ k ∧ k ≤ 15) := by
  have hp := right_parts h
  have hn : n < 31 := by have := hp.op; omega
  unfold usesR usesW
  rw [if_pos h, if_pos h, Int.toNat_natCast]
  by_cases h30 : (n : Int) = 30
  · rw [if_pos h30, if_pos h30]
    constructor
    · refine ⟨List.Pairwise.take (by decide), by rw [List.length_take]; exact Nat.min_le_right _ _, fun k hk => ?_⟩
      have := List.mem_of_mem_take hk
      simp at this; omega
    · refine ⟨List.Pairwise.take (by decide), by rw [List.length_take]; exact Nat.le_trans (Nat.min_le_right _ _) (by decide), fun k hk => ?_⟩
      have := List.mem_of_mem_take hk
      simp at this; omega
  · rw [if_neg h30, if_neg h30]
    have key : ((List.range 31).all fun n => decide ((readsL n).length ≤ 3) && decide ((writesL n).length ≤ 2)) = true := by decide +kernel
    have hk := List.all_eq_true.1 key n (List.mem_range.2 hn)
    simp only [Bool.and_eq_true, decide_eq_true_eq] at hk
    refine ⟨⟨(regs_sorted a b c m _).1, Nat.le_trans (regs_len _ _ _ _ _) hk.1, fun k hkk => ?_⟩, ⟨(regs_sorted a b c m _).1, Nat.le_trans (regs_len _ _ _ _ _) hk.2, fun k hkk => ?_⟩⟩
    · obtain ⟨ch, hc, rfl⟩ := ((regs_sorted a b c m _).2 k).1 hkk
      exact regN_range hn hp (List.mem_append_left _ hc)
    · obtain ⟨ch, hc, rfl⟩ := ((regs_sorted a b c m _).2 k).1 hkk
      exact regN_range hn hp (List.mem_append_right _ hc)
theorem uses_swap {n : Nat} {a b c m x y : Int} (h : rightB n a b c m = true) (h30 : n ≠ 30) (hx : 0 ≤ x ∧ x ≤ 14) (hy : 0 ≤ y ∧ y ≤ 14) :
    usesR n (swA x y n a) (swB x y n b) (swC x y n c) m = swapL x y (usesR n a b c m) ∧ usesW n (swA x y n a) (swB x y n b) (swC x y n c) m = swapL x y (usesW n a b c m) := by
  have hp := right_parts h
  have hn : n < 31 := by have := hp.op; omega
  have hr := right_swap hx hy h
  have hne : ¬ (n : Int) = 30 := by omega
  unfold usesR usesW
  rw [if_pos h, if_pos h, if_pos hr, if_pos hr, if_neg hne, if_neg hne, if_neg hne, if_neg hne, Int.toNat_natCast]
  exact ⟨regs_swap hn hp hx hy (fun ch hc => List.mem_append_left _ hc), regs_swap hn hp hx hy (fun ch hc => List.mem_append_right _ hc)⟩

end Go.Proofs.YtlohhlbbkliehaaGreatDoor.W
