/-
  What the order of the parts is like: all nodes, each in one part; from a part one comes to earlier ones alone. No program.
-/
import Derived.Test.YtmgkoocpnakanaaKaP
namespace Go.Proofs.Ytmgkoocpnakanaa.Tj
set_option linter.unusedVariables false

section
variable {n : Nat} {R : Nat → Nat → Bool} {d : Nat → Bool}

theorem readyB_iff {v : Nat} : readyB n R d v = true ↔ d v = false ∧ ∀ w, w < n → R v w = true → R w v = true ∨ d w = true := by
  unfold readyB
  simp only [Bool.and_eq_true, Bool.not_eq_true', List.all_eq_true, List.mem_range, Bool.or_eq_true]
  constructor
  · rintro ⟨h1, h2⟩
    refine ⟨h1, fun w hw hr => ?_⟩
    rcases h2 w hw with (e | e) | e
    · rw [hr] at e; cases e
    · exact .inl e
    · exact .inr e
  · rintro ⟨h1, h2⟩
    refine ⟨h1, fun w hw => ?_⟩
    rcases hr : R v w with _ | _
    · exact .inl (.inl rfl)
    · rcases h2 w hw hr with e | e
      · exact .inl (.inr e)
      · exact .inr e

/-- a node from which fewest others are reached is ready -/
theorem ready_ex (hrefl : ∀ v, v < n → R v v = true) (htr : ∀ u v w, u < n → v < n → w < n → R u v = true → R v w = true → R u w = true) : ∀ (m v : Nat), v < n → d v = false → ((List.range n).filter fun w => R v w && !d w).length ≤ m → ∃ u, u < n ∧ readyB n R d u = true
  | 0, v, hv, hd, hm => by
    have : v ∈ (List.range n).filter fun w => R v w && !d w := List.mem_filter.2 ⟨List.mem_range.2 hv, by rw [hrefl v hv, hd]; rfl⟩
    rw [List.eq_nil_of_length_eq_zero (Nat.le_zero.1 hm)] at this
    cases this
  | m + 1, v, hv, hd, hm => by
    rcases hr : readyB n R d v with _ | _
    · have : ∃ w, w < n ∧ R v w = true ∧ R w v = false ∧ d w = false := Decidable.byContradiction fun hno => by
        have := (readyB_iff (n := n) (R := R) (d := d) (v := v)).2 ⟨hd, fun w hw hvw => by
          rcases h1 : R w v with _ | _
          · rcases h2 : d w with _ | _
            · exact absurd ⟨w, hw, hvw, h1, h2⟩ hno
            · exact .inr rfl
          · exact .inl rfl⟩
        rw [hr] at this; cases this
      obtain ⟨w, hw, h1, h2, h3⟩ := this
      refine ready_ex hrefl htr m w hw h3 ?_
      have hlt : ((List.range n).filter fun x => (R w x && !d x) && decide (x < n)).length < ((List.range n).filter fun x => (R v x && !d x) && decide (x < n)).length := filter_lt (fun x hx => by
        simp only [Bool.and_eq_true, decide_eq_true_eq] at hx ⊢
        exact ⟨⟨htr v w x hv hw hx.2 h1 hx.1.1, hx.1.2⟩, hx.2⟩) (List.mem_range.2 hv) (by simp [hrefl v hv, hd, hv]) (by simp [h2])
      have e : ∀ y, ((List.range n).filter fun x => (R y x && !d x) && decide (x < n)) = (List.range n).filter fun x => R y x && !d x := fun y => List.filter_congr (fun x hx => by simp [List.mem_range.1 hx])
      rw [e, e] at hlt
      omega
    · exact ⟨v, hv, hr⟩

theorem pick_ex (hrefl : ∀ v, v < n → R v v = true) (htr : ∀ u v w, u < n → v < n → w < n → R u v = true → R v w = true → R u w = true) (h : pickB n R d = none) : ∀ v, v < n → d v = true := fun v hv => by
  rcases hd : d v with _ | _
  · obtain ⟨u, hu, hr⟩ := ready_ex hrefl htr _ v hv hd (Nat.le_refl _)
    have := List.find?_eq_none.1 h u (List.mem_range.2 hu)
    exact absurd hr this
  · rfl

/-- the parts, in their order -/
structure Ps (n : Nat) (R : Nat → Nat → Bool) (d : Nat → Bool) (ps : List (List Nat)) : Prop where
  cls : ∀ p, p ∈ ps → ∃ v, v < n ∧ d v = false ∧ p = partB n R v
  all : ∀ v, v < n → d v = true ∨ ∃ p, p ∈ ps ∧ v ∈ p
  dis : ps.Pairwise fun p q => ∀ x, x ∈ p → x ∉ q
  ord : ∀ i u x (hi : i < ps.length), x < n → u ∈ ps[i] → R u x = true → d x = true ∨ ∃ j, ∃ (hj : j < ps.length), j ≤ i ∧ x ∈ ps[j]

theorem mem_partB {v w : Nat} : w ∈ partB n R v ↔ w < n ∧ R v w = true ∧ R w v = true := by simp [partB]

theorem greedy_ps (hrefl : ∀ v, v < n → R v v = true) (htr : ∀ u v w, u < n → v < n → w < n → R u v = true → R v w = true → R u w = true) : ∀ (k : Nat) (d : Nat → Bool), left n d ≤ k → (∀ v w, v < n → w < n → d v = true → R v w = true → R w v = true → d w = true) → Ps n R d (greedy n R k d)
  | k, d, hk, hc => by
    rcases hp : pickB n R d with _ | v
    · rw [greedy_end hp]
      refine ⟨fun p h => (by cases h), fun v hv => .inl (pick_ex hrefl htr hp v hv), List.Pairwise.nil, fun i u x hi => absurd hi (Nat.not_lt_zero _)⟩
    · have hv := List.mem_range.1 (List.mem_of_find?_eq_some hp)
      obtain ⟨hdv, hrd⟩ := readyB_iff.1 (List.find?_some hp)
      obtain ⟨he, hl⟩ := greedy_step hp (hrefl v hv) hk
      have hk0 : 0 < k := by
        rcases Nat.eq_zero_or_pos k with h | h
        · subst h
          have := pick_left (n := n) (R := R) (d := d) (Nat.le_zero.1 hk)
          rw [hp] at this; cases this
        · exact h
      have ih := greedy_ps hrefl htr (k - 1) (fun w => d w || (partB n R v).contains w) hl (fun a b ha hb h1 h2 h3 => by
        simp only [Bool.or_eq_true, List.contains_iff_mem, mem_partB] at h1 ⊢
        rcases h1 with h1 | ⟨_, h4, h5⟩
        · exact .inl (hc a b ha hb h1 h2 h3)
        · exact .inr ⟨hb, htr v a b hv ha hb h4 h2, htr b a v hb ha hv h3 h5⟩)
      rw [he]
      have hin : ∀ p, p ∈ greedy n R (k - 1) (fun w => d w || (partB n R v).contains w) → ∀ x, x ∈ p → (d x || (partB n R v).contains x) = false := fun p hp' x hx => by
        obtain ⟨u, hu, hud, rfl⟩ := ih.cls p hp'
        obtain ⟨hx1, hx2, hx3⟩ := mem_partB.1 hx
        rcases hd : (d x || (partB n R v).contains x) with _ | _
        · rfl
        · exfalso
          have : (d u || (partB n R v).contains u) = true := by
            simp only [Bool.or_eq_true, List.contains_iff_mem, mem_partB] at hd ⊢
            rcases hd with h1 | ⟨_, h4, h5⟩
            · exact .inl (hc x u hx1 hu h1 hx3 hx2)
            · exact .inr ⟨hu, htr v x u hv hx1 hu h4 hx3, htr u x v hu hx1 hv hx2 h5⟩
          rw [this] at hud; cases hud
      refine ⟨fun p hp' => ?_, fun x hx => ?_, ?_, fun i u x hi hx hu hr => ?_⟩
      · rcases List.mem_cons.1 hp' with rfl | hp'
        · exact ⟨v, hv, hdv, rfl⟩
        · obtain ⟨u, hu, hud, e⟩ := ih.cls p hp'
          exact ⟨u, hu, by simp only [Bool.or_eq_false_iff] at hud; exact hud.1, e⟩
      · rcases ih.all x hx with h | ⟨p, h1, h2⟩
        · simp only [Bool.or_eq_true, List.contains_iff_mem] at h
          rcases h with h | h
          · exact .inl h
          · exact .inr ⟨_, List.mem_cons_self, h⟩
        · exact .inr ⟨p, List.mem_cons_of_mem _ h1, h2⟩
      · refine List.pairwise_cons.2 ⟨fun q hq x hx hxq => ?_, ih.dis⟩
        have := hin q hq x hxq
        simp only [Bool.or_eq_false_iff] at this
        rw [List.contains_iff_mem.2 hx] at this
        cases this.2
      · cases i with
        | zero =>
          obtain ⟨hu1, hu2, hu3⟩ := mem_partB.1 hu
          have hvx := htr v u x hv hu1 hx hu2 hr
          rcases hrd x hx hvx with h | h
          · exact .inr ⟨0, by simp, Nat.le_refl _, mem_partB.2 ⟨hx, hvx, h⟩⟩
          · exact .inl h
        | succ i =>
          have hi' : i < (greedy n R (k - 1) (fun w => d w || (partB n R v).contains w)).length := by simpa using hi
          rcases ih.ord i u x hi' hx hu hr with h | ⟨j, hj, h1, h2⟩
          · simp only [Bool.or_eq_true, List.contains_iff_mem] at h
            rcases h with h | h
            · exact .inl h
            · exact .inr ⟨0, by simp, Nat.zero_le _, h⟩
          · exact .inr ⟨j + 1, by simpa using hj, by omega, h2⟩
termination_by k d => k
decreasing_by omega
end

end Go.Proofs.Ytmgkoocpnakanaa.Tj
