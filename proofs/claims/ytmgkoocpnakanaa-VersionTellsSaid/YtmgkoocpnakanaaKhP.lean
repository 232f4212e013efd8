/-
  The order of the parts: what is counted, what waits. No program.
-/
import Derived.Test.YtmgkoocpnakanaaHpP
namespace Go.Proofs.Ytmgkoocpnakanaa.Tj
set_option linter.unusedVariables false

def pairs (nx : Nat → List Nat) (n : Nat) : List (Nat × Nat) := (List.range n).flatMap fun v => (nx v).map fun w => (v, w)
theorem pairs_succ (nx : Nat → List Nat) (n : Nat) : pairs nx (n + 1) = pairs nx n ++ (nx n).map fun w => (n, w) := by simp [pairs, List.range_succ]
theorem mem_pairs {nx : Nat → List Nat} {n v w : Nat} : (v, w) ∈ pairs nx n ↔ v < n ∧ w ∈ nx v := by simp [pairs]

def wtL (P : Nat → Nat) (l : List (Nat × Nat)) (p : Nat) : Nat := l.countP fun e => P e.1 == p && P e.2 != p
def usL (P : Nat → Nat) (l : List (Nat × Nat)) (q : Nat) : List Nat := (l.filter fun e => P e.2 == q && P e.1 != q).map fun e => P e.1
def cntD (P : Nat → Nat) (l : List (Nat × Nat)) (done : List Nat) (p : Nat) : Nat := l.countP fun e => P e.1 == p && P e.2 != p && !done.contains (P e.2)

theorem wtL_same {P : Nat → Nat} {l : List (Nat × Nat)} {v w : Nat} (h : P v = P w) : wtL P (l ++ [(v, w)]) = wtL P l := by
  funext p
  simp only [wtL, List.countP_append, List.countP_singleton, h]
  by_cases e : P w = p <;> simp [e]
theorem wtL_step {P : Nat → Nat} {l : List (Nat × Nat)} {v w : Nat} (h : P v ≠ P w) : wtL P (l ++ [(v, w)]) = upd (wtL P l) (P v) (wtL P l (P v) + 1) := by
  funext p
  simp only [wtL, List.countP_append, List.countP_singleton, upd]
  by_cases e : p = P v
  · subst e
    have : P w ≠ P v := fun e => h e.symm
    simp [this]
  · have : ¬ P v = p := fun h => e h.symm
    simp [e, this]
theorem usL_same {P : Nat → Nat} {l : List (Nat × Nat)} {v w : Nat} (h : P v = P w) (q : Nat) : usL P (l ++ [(v, w)]) q = usL P l q := by
  simp only [usL, List.filter_append, List.map_append, List.filter_cons, List.filter_nil, h]
  by_cases e : P w = q <;> simp [e]
theorem usL_step {P : Nat → Nat} {l : List (Nat × Nat)} {v w : Nat} (h : P v ≠ P w) (q : Nat) : usL P (l ++ [(v, w)]) q = if q = P w then usL P l q ++ [P v] else usL P l q := by
  simp only [usL, List.filter_append, List.map_append, List.filter_cons, List.filter_nil]
  by_cases e : q = P w
  · subst e
    simp [h]
  · have : ¬ P w = q := fun h => e h.symm
    simp [e, this]

theorem cntD_nil (P : Nat → Nat) (l : List (Nat × Nat)) (p : Nat) : cntD P l [] p = wtL P l p := by simp [cntD, wtL]

/-- one more listed: its users wait for that much less -/
theorem cntD_cons (P : Nat → Nat) (done : List Nat) (q p : Nat) (hq : q ∉ done) : ∀ l : List (Nat × Nat), cntD P l done p = cntD P l (q :: done) p + (usL P l q).count p
  | [] => rfl
  | e :: l => by
    have ih := cntD_cons P done q p hq l
    have hus : (usL P (e :: l) q).count p = (usL P l q).count p + if P e.2 = q ∧ P e.1 ≠ q ∧ P e.1 = p then 1 else 0 := by
      have : usL P (e :: l) q = if P e.2 = q ∧ P e.1 ≠ q then P e.1 :: usL P l q else usL P l q := by
        simp only [usL, List.filter_cons]
        by_cases h1 : P e.2 = q <;> by_cases h2 : P e.1 = q <;> simp [h1, h2]
      rw [this]
      by_cases h1 : P e.2 = q ∧ P e.1 ≠ q
      · rw [if_pos h1, List.count_cons]
        by_cases h3 : P e.1 = p
        · have h4 : (P e.1 == p) = true := by simp [h3]
          rw [if_pos h4, if_pos (⟨h1.1, h1.2, h3⟩ : P e.2 = q ∧ P e.1 ≠ q ∧ P e.1 = p)]
        · have h4 : ¬ (P e.1 == p) = true := by simp [h3]
          rw [if_neg h4, if_neg (fun h : P e.2 = q ∧ P e.1 ≠ q ∧ P e.1 = p => h3 h.2.2)]
      · rw [if_neg h1, if_neg (fun h => h1 ⟨h.1, h.2.1⟩)]; rfl
    have hc : ∀ d, cntD P (e :: l) d p = cntD P l d p + if P e.1 = p ∧ P e.2 ≠ p ∧ P e.2 ∉ d then 1 else 0 := fun d => by
      simp only [cntD, List.countP_cons]
      congr 1
      by_cases h1 : P e.1 = p <;> by_cases h2 : P e.2 = p <;> by_cases h3 : P e.2 ∈ d <;> simp [h1, h2, h3]
    rw [hus, hc, hc, ih]
    have key : (if P e.1 = p ∧ P e.2 ≠ p ∧ P e.2 ∉ done then 1 else 0 : Nat) = (if P e.1 = p ∧ P e.2 ≠ p ∧ P e.2 ∉ q :: done then 1 else 0) + if P e.2 = q ∧ P e.1 ≠ q ∧ P e.1 = p then 1 else 0 := by
      by_cases h1 : P e.1 = p
      · by_cases h2 : P e.2 = p
        · have : ¬ (P e.2 = q ∧ P e.1 ≠ q ∧ P e.1 = p) := fun ⟨a, b, c⟩ => b (by rw [c, ← h2, a])
          simp [h2]
          intro a b; omega
        · by_cases h3 : P e.2 = q
          · have h4 : P e.1 ≠ q := fun e' => h2 (by rw [h3, ← e', h1])
            rw [if_pos ⟨h1, h2, by rw [h3]; exact hq⟩, if_neg (fun h => h.2.2 (by rw [h3]; exact List.mem_cons_self)), if_pos ⟨h3, h4, h1⟩]
          · rw [if_neg (show ¬ (P e.2 = q ∧ P e.1 ≠ q ∧ P e.1 = p) from fun h => h3 h.1)]
            by_cases h5 : P e.2 ∈ done
            · rw [if_neg (fun h => h.2.2 h5), if_neg (fun h => h.2.2 (List.mem_cons_of_mem _ h5))]
            · rw [if_pos ⟨h1, h2, h5⟩, if_pos ⟨h1, h2, fun h => by
                rcases List.mem_cons.1 h with h | h
                · exact h3 h
                · exact h5 h⟩]
      · simp [h1]
    omega

/-- the heap and the counts, between the parts -/
structure Kh (n : Nat) (nx : Nat → List Nat) (np : Nat) (P : Nat → Nat) (done U : List Nat) (wt : Nat → Nat) (hl : List Nat) : Prop where
  wts : ∀ p, wt p = cntD P (pairs nx n) done p + U.count p
  heap : ∀ k, k ∈ hl ↔ (k < np ∧ k + 1 ∉ done ∧ wt (k + 1) = 0)
  nd : hl.Nodup
  dn : done.Nodup
  rng : ∀ p, p ∈ done → 1 ≤ p ∧ p ≤ np
  clo : ∀ u x, u < n → P u ∈ done → x ∈ nx u → P x ∈ done
  us : ∀ p, p ∈ U → 1 ≤ p ∧ p ≤ np ∧ p ∉ done

section
variable {n : Nat} {nx : Nat → List Nat} {np : Nat} {P : Nat → Nat} {R : Nat → Nat → Bool} {done U : List Nat} {wt : Nat → Nat} {hl : List Nat}

theorem free_iff (hp : ∀ u, u < n → P u ≠ 0) {p : Nat} : Free n nx np P done p ↔ 1 ≤ p ∧ p ≤ np ∧ p ∉ done ∧ cntD P (pairs nx n) done p = 0 := by
  constructor
  · intro h
    refine ⟨h.pos, h.le, h.new, ?_⟩
    refine List.countP_eq_zero.2 (fun e he => ?_)
    obtain ⟨v, w⟩ := e
    obtain ⟨hv, hw⟩ := mem_pairs.1 he
    simp only [Bool.and_eq_true, beq_iff_eq, bne_iff_ne, Bool.not_eq_true', not_and]
    intro ⟨h1, h2⟩ h3
    rcases h.deps v w hv h1 hw with e | e
    · exact h2 e
    · rw [List.contains_iff_mem.2 e] at h3; cases h3
  · rintro ⟨h1, h2, h3, h4⟩
    refine ⟨h1, h2, h3, fun u x hu hpu hx => ?_⟩
    have := List.countP_eq_zero.1 h4 (u, x) (mem_pairs.2 ⟨hu, hx⟩)
    simp only [Bool.and_eq_true, beq_iff_eq, bne_iff_ne, Bool.not_eq_true', not_and] at this
    by_cases e : P x = p
    · exact .inl e
    · refine .inr (Decidable.byContradiction fun hm => this ⟨hpu, e⟩ ?_)
      rcases hc : done.contains (P x) with _ | _
      · rfl
      · exact absurd (List.contains_iff_mem.1 hc) hm

/-- before anything is listed -/
theorem Kh.start (h : ∀ k, k ∈ hl ↔ (k < np ∧ wtL P (pairs nx n) (k + 1) = 0)) (hn : hl.Nodup) : Kh n nx np P [] [] (wtL P (pairs nx n)) hl :=
  ⟨fun p => by rw [cntD_nil]; simp, fun k => by rw [h]; simp, hn, List.nodup_nil, (fun p h => by cases h), (fun u x _ h => by cases h), (fun p h => by cases h)⟩

/-- one of a part's users waits for one less -/
theorem Kh.one {p : Nat} (k : Kh n nx np P done (p :: U) wt hl) : 1 ≤ wt p ∧ Kh n nx np P done U (upd wt p (wt p - 1)) (if wt p - 1 = 0 then (p - 1) :: hl else hl) := by
  obtain ⟨h1, h2, h3⟩ := k.us p List.mem_cons_self
  have hw := k.wts p
  simp only [List.count_cons_self] at hw
  have hnh : p - 1 ∉ hl := fun hm => by
    have := ((k.heap (p - 1)).1 hm).2.2
    rw [show p - 1 + 1 = p by omega] at this
    omega
  have hu : ∀ x, upd wt p (wt p - 1) x = cntD P (pairs nx n) done x + U.count x := fun x => by
    simp only [upd]
    by_cases e : x = p
    · subst e; rw [if_pos rfl]; omega
    · rw [if_neg e, k.wts x, List.count_cons]
      have : ¬ p = x := fun h => e h.symm
      simp [this]
  refine ⟨by omega, hu, fun j => ?_, ?_, k.dn, k.rng, k.clo, fun x hx => k.us x (List.mem_cons_of_mem _ hx)⟩
  · by_cases e : j + 1 = p
    · have ej : j = p - 1 := by omega
      subst ej
      rw [e]
      simp only [upd, if_true]
      split
      · rename_i h0
        simp only [List.mem_cons, true_or, true_iff]
        exact ⟨by omega, h3, h0⟩
      · rename_i h0
        constructor
        · intro hm; exact absurd hm hnh
        · intro h; exact absurd h.2.2 h0
    · have e' : upd wt p (wt p - 1) (j + 1) = wt (j + 1) := by simp [upd, e]
      rw [e']
      split
      · rw [List.mem_cons, k.heap]
        constructor
        · rintro (h | h)
          · omega
          · exact h
        · exact .inr
      · exact k.heap j
  · split
    · exact List.nodup_cons.2 ⟨hnh, k.nd⟩
    · exact k.nd

/-- the part that the heap gives -/
theorem Kh.pick (hnx : ∀ u x, u < n → x ∈ nx u → x < n) (h : Scc n nx np P) (hR : ∀ u x, u < n → x < n → (R u x = true ↔ Rch nx u x)) (k : Kh n nx np P done [] wt hl) {j : Nat} {hl' : List Nat} (hp : (j :: hl').Perm hl)
    (hmin : ∀ i, i ∈ hl → headN (nodesOf n P (j + 1)) ≤ headN (nodesOf n P (i + 1))) :
    pickB n R (fun w => done.contains (P w)) = some (headN (nodesOf n P (j + 1))) ∧ partB n R (headN (nodesOf n P (j + 1))) = nodesOf n P (j + 1) ∧ j < np ∧ Kh n nx np P ((j + 1) :: done) (usL P (pairs nx n) (j + 1)) wt hl' := by
  have hj := (k.heap j).1 (hp.mem_iff.1 List.mem_cons_self)
  have hwt : ∀ p, wt p = cntD P (pairs nx n) done p := fun p => by rw [k.wts p]; simp
  have hf : Free n nx np P done (j + 1) := (free_iff h.pos).2 ⟨by omega, by omega, hj.2.1, by rw [← hwt]; exact hj.2.2⟩
  have hpk := kahn_pick hnx h hR k.clo hf (fun q hq => by
    obtain ⟨h1, h2, h3, h4⟩ := (free_iff h.pos).1 hq
    have := hmin (q - 1) ((k.heap (q - 1)).2 ⟨by omega, by rw [show q - 1 + 1 = q by omega]; exact h3, by rw [show q - 1 + 1 = q by omega, hwt]; exact h4⟩)
    rwa [show q - 1 + 1 = q by omega] at this)
  obtain ⟨f1, f2⟩ := first_is h hf.pos hf.le
  have hnd := hp.nodup_iff.2 k.nd
  have hclo : ∀ u x, u < n → P u ∈ (j + 1) :: done → x ∈ nx u → P x ∈ (j + 1) :: done := fun u x hu hm hx => by
    rcases List.mem_cons.1 hm with e | hm
    · rcases hf.deps u x hu e hx with e' | e'
      · exact List.mem_cons.2 (.inl e')
      · exact List.mem_cons_of_mem _ e'
    · exact List.mem_cons_of_mem _ (k.clo u x hu hm hx)
  refine ⟨hpk, ?_, hj.1, ⟨fun p => by rw [hwt]; exact cntD_cons P done (j + 1) p hj.2.1 _, fun i => ?_, (List.nodup_cons.1 hnd).2, List.nodup_cons.2 ⟨hj.2.1, k.dn⟩, fun p hp => ?_, hclo, fun p hp => ?_⟩⟩
  · rw [part_eq h hR f1, f2]
  · have hi := k.heap i
    rw [← hp.mem_iff, List.mem_cons] at hi
    constructor
    · intro hm
      have h1 := hi.1 (.inr hm)
      refine ⟨h1.1, fun hm' => ?_, h1.2.2⟩
      rcases List.mem_cons.1 hm' with e | hm'
      · have : i = j := by omega
        subst this
        exact (List.nodup_cons.1 hnd).1 hm
      · exact h1.2.1 hm'
    · rintro ⟨h1, h2, h3⟩
      rcases hi.2 ⟨h1, fun hm => h2 (List.mem_cons_of_mem _ hm), h3⟩ with e | hm
      · subst e; exact absurd List.mem_cons_self h2
      · exact hm
  · rcases List.mem_cons.1 hp with rfl | hp
    · exact ⟨by omega, by omega⟩
    · exact k.rng p hp
  · simp only [usL, List.mem_map, List.mem_filter] at hp
    obtain ⟨⟨v, w⟩, ⟨he, hc⟩, rfl⟩ := hp
    obtain ⟨hv, hw⟩ := mem_pairs.1 he
    simp only [Bool.and_eq_true, beq_iff_eq, bne_iff_ne] at hc
    refine ⟨by have := h.pos v hv; show 1 ≤ P v; omega, h.le v, fun hm => ?_⟩
    rcases List.mem_cons.1 hm with e | hm
    · exact hc.2 e
    · exact hj.2.1 (hc.1 ▸ k.clo v w hv hm hw)

theorem Kh.perm (k : Kh n nx np P done U wt hl) {hl' : List Nat} (hp : hl.Perm hl') : Kh n nx np P done U wt hl' :=
  ⟨k.wts, fun j => by rw [← hp.mem_iff]; exact k.heap j, hp.nodup_iff.1 k.nd, k.dn, k.rng, k.clo, k.us⟩
theorem done_lt (k : Kh n nx np P done U wt hl) : done.length ≤ np := by
  have h1 : (done.map (· - 1)).Nodup := List.pairwise_map.2 (List.Pairwise.imp_of_mem (fun {a b} ha hb hne e => hne (by have := k.rng a ha; have := k.rng b hb; omega)) k.dn)
  have := nodup_le (n := np) h1 (fun x hx => by
    obtain ⟨a, ha, rfl⟩ := List.mem_map.1 hx
    have := k.rng a ha; omega)
  simpa using this

/-- nothing left -/
theorem Kh.none (hnx : ∀ u x, u < n → x ∈ nx u → x < n) (h : Scc n nx np P) (hR : ∀ u x, u < n → x < n → (R u x = true ↔ Rch nx u x)) (k : Kh n nx np P done [] wt []) : pickB n R (fun w => done.contains (P w)) = none :=
  kahn_end hnx h hR (fun p hf => by
    obtain ⟨h1, h2, h3, h4⟩ := (free_iff h.pos).1 hf
    have := (k.heap (p - 1)).2 ⟨by omega, by rw [show p - 1 + 1 = p by omega]; exact h3, by rw [show p - 1 + 1 = p by omega, k.wts]; simp [h4]⟩
    cases this)

/-- what has been listed, and what is to come -/
structure Got (n : Nat) (R : Nat → Nat → Bool) (P : Nat → Nat) (done : List Nat) (out : List (List Nat)) (k : Nat) : Prop where
  eq : greedy n R n (fun _ => false) = out ++ greedy n R k (fun w => done.contains (P w))
  le : left n (fun w => done.contains (P w)) ≤ k

theorem Got.start : Got n R P [] [] n := ⟨by simp, by unfold left; exact Nat.le_trans (List.length_filter_le _ _) (by simp)⟩

theorem Got.next (h : Scc n nx np P) {out : List (List Nat)} {k j : Nat} (g : Got n R P done out k) (hpk : pickB n R (fun w => done.contains (P w)) = some (headN (nodesOf n P (j + 1)))) (hpt : partB n R (headN (nodesOf n P (j + 1))) = nodesOf n P (j + 1)) (hrefl : ∀ v, v < n → R v v = true) :
    ∃ k', Got n R P ((j + 1) :: done) (out ++ [nodesOf n P (j + 1)]) k' := by
  have hv := List.mem_range.1 (List.mem_of_find?_eq_some hpk)
  obtain ⟨h1, h2⟩ := greedy_step hpk (hrefl _ hv) g.le
  have e : (fun w => done.contains (P w) || (partB n R (headN (nodesOf n P (j + 1)))).contains w) = fun w => ((j + 1) :: done).contains (P w) := by
    funext w
    rw [hpt, List.contains_cons, Bool.or_comm]
    congr 1
    rw [Bool.eq_iff_iff, List.contains_iff_mem, mem_nodesOf, beq_iff_eq]
    constructor
    · exact fun h => h.2
    · intro hw
      refine ⟨?_, hw⟩
      rcases Nat.lt_or_ge w n with h3 | h3
      · exact h3
      · have := h.out w h3; omega
  rw [e, hpt] at h1
  rw [e] at h2
  exact ⟨k - 1, by rw [g.eq, h1]; simp, h2⟩

theorem Got.stop {out : List (List Nat)} {k : Nat} (g : Got n R P done out k) (hpk : pickB n R (fun w => done.contains (P w)) = none) : greedy n R n (fun _ => false) = out := by
  rw [g.eq, greedy_end hpk, List.append_nil]
end

end Go.Proofs.Ytmgkoocpnakanaa.Tj
