/-
  The order of the parts: each time the ready part with the least first node. No program.
-/
import Derived.Test.YtmgkoocpnakanaaBfP
namespace Go.Proofs.Ytmgkoocpnakanaa.Tj
set_option linter.unusedVariables false

def readyB (n : Nat) (R : Nat → Nat → Bool) (d : Nat → Bool) (v : Nat) : Bool := !d v && (List.range n).all fun w => !R v w || R w v || d w
def pickB (n : Nat) (R : Nat → Nat → Bool) (d : Nat → Bool) : Option Nat := (List.range n).find? (readyB n R d)
def partB (n : Nat) (R : Nat → Nat → Bool) (v : Nat) : List Nat := (List.range n).filter fun w => R v w && R w v
def greedy (n : Nat) (R : Nat → Nat → Bool) : Nat → (Nat → Bool) → List (List Nat)
  | 0, _ => []
  | k + 1, d => match pickB n R d with
    | none => []
    | some v => partB n R v :: greedy n R k (fun w => d w || (partB n R v).contains w)

/-- the nodes of a part, ascending -/
def nodesOf (n : Nat) (prt : Nat → Nat) (p : Nat) : List Nat := (List.range n).filter fun u => prt u == p

theorem mem_nodesOf {n : Nat} {prt : Nat → Nat} {p u : Nat} : u ∈ nodesOf n prt p ↔ u < n ∧ prt u = p := by simp [nodesOf]

theorem asc_range (n : Nat) (f : Nat → Bool) : ((List.range n).filter f).Pairwise (· < ·) := (List.pairwise_lt_range (n := n)).filter _

theorem headN_le {l : List Nat} (h : l.Pairwise (· < ·)) {x : Nat} (hx : x ∈ l) : headN l ≤ x := by
  cases l with
  | nil => cases hx
  | cons a r =>
    rcases List.mem_cons.1 hx with rfl | hx
    · exact Nat.le_refl _
    · exact Nat.le_of_lt ((List.pairwise_cons.1 h).1 x hx)

theorem headN_mem {l : List Nat} (h : l ≠ []) : headN l ∈ l := by
  cases l with
  | nil => exact absurd rfl h
  | cons a r => exact List.mem_cons_self

/-- a part that waits for nothing but what is listed -/
structure Free (n : Nat) (nx : Nat → List Nat) (np : Nat) (prt : Nat → Nat) (done : List Nat) (p : Nat) : Prop where
  pos : 1 ≤ p
  le : p ≤ np
  new : p ∉ done
  deps : ∀ u x, u < n → prt u = p → x ∈ nx u → prt x = p ∨ prt x ∈ done

section kahn
variable {n : Nat} {nx : Nat → List Nat} {np : Nat} {prt : Nat → Nat} {R : Nat → Nat → Bool} {done : List Nat}

theorem Scc.nodes (h : Scc n nx np prt) {p : Nat} (h1 : 1 ≤ p) (h2 : p ≤ np) : nodesOf n prt p ≠ [] := by
  obtain ⟨u, hu⟩ := h.full (p - 1) (by omega)
  have hn : u < n := by
    rcases Nat.lt_or_ge u n with h3 | h3
    · exact h3
    · have := h.out u h3; omega
  exact List.ne_nil_of_mem (mem_nodesOf.2 ⟨hn, by omega⟩)

theorem first_is (h : Scc n nx np prt) {p : Nat} (h1 : 1 ≤ p) (h2 : p ≤ np) : headN (nodesOf n prt p) < n ∧ prt (headN (nodesOf n prt p)) = p :=
  mem_nodesOf.1 (headN_mem (h.nodes h1 h2))

theorem rch_lt (hnx : ∀ u x, u < n → x ∈ nx u → x < n) {u x : Nat} (hr : Rch nx u x) (hu : u < n) : x < n := by
  induction hr with
  | refl => exact hu
  | tail _ hx ih => exact hnx _ _ ih hx

/-- from a free part one comes to itself and to what is listed -/
theorem free_reach (hnx : ∀ u x, u < n → x ∈ nx u → x < n) (hd : ∀ u x, u < n → prt u ∈ done → x ∈ nx u → prt x ∈ done) {p : Nat} (hf : Free n nx np prt done p) {u x : Nat} (hu : u < n) (hp : prt u = p) (hr : Rch nx u x) : prt x = p ∨ prt x ∈ done := by
  induction hr with
  | refl => exact .inl hp
  | tail hr hx ih =>
    have hy := rch_lt hnx hr hu
    rcases ih with ih | ih
    · exact hf.deps _ _ hy ih hx
    · exact .inr (hd _ _ hy ih hx)

theorem ready_of_free (hnx : ∀ u x, u < n → x ∈ nx u → x < n) (h : Scc n nx np prt) (hR : ∀ u x, u < n → x < n → (R u x = true ↔ Rch nx u x)) (hd : ∀ u x, u < n → prt u ∈ done → x ∈ nx u → prt x ∈ done) {p : Nat} (hf : Free n nx np prt done p)
    {u : Nat} (hu : u < n) (hp : prt u = p) : readyB n R (fun w => done.contains (prt w)) u = true := by
  unfold readyB
  simp only [Bool.and_eq_true, Bool.not_eq_true', List.all_eq_true, List.mem_range, Bool.or_eq_true]
  refine ⟨?_, fun w hw => ?_⟩
  · rw [hp]; rcases hc : done.contains p with _ | _
    · rfl
    · exact absurd (List.contains_iff_mem.1 hc) hf.new
  · rcases hc : R u w with _ | _
    · exact .inl (.inl rfl)
    · have hr := (hR u w hu hw).1 hc
      rcases free_reach hnx hd hf hu hp hr with e | e
      · exact .inl (.inr ((hR w u hw hu).2 ((h.same u w hu hw).1 (by omega)).2))
      · exact .inr (List.contains_iff_mem.2 e)

theorem free_of_ready (hnx : ∀ u x, u < n → x ∈ nx u → x < n) (h : Scc n nx np prt) (hR : ∀ u x, u < n → x < n → (R u x = true ↔ Rch nx u x)) {v : Nat} (hv : v < n)
    (hr : readyB n R (fun w => done.contains (prt w)) v = true) : Free n nx np prt done (prt v) := by
  unfold readyB at hr
  simp only [Bool.and_eq_true, Bool.not_eq_true', List.all_eq_true, List.mem_range, Bool.or_eq_true] at hr
  obtain ⟨h1, h2⟩ := hr
  refine ⟨by have := h.pos v hv; omega, h.le v, fun hm => ?_, fun u x hu hp hx => ?_⟩
  · rw [List.contains_iff_mem.2 hm] at h1; cases h1
  · have hxn := hnx u x hu hx
    obtain ⟨h3, h4⟩ := (h.same u v hu hv).1 hp
    have hvx := h4.tail hx
    rcases h2 x hxn with (e | e) | e
    · rw [(hR v x hv hxn).2 hvx] at e; cases e
    · exact .inl ((h.same x v hxn hv).2 ⟨(hR x v hxn hv).1 e, hvx⟩)
    · exact .inr (List.contains_iff_mem.1 e)

theorem part_eq (h : Scc n nx np prt) (hR : ∀ u x, u < n → x < n → (R u x = true ↔ Rch nx u x)) {v : Nat} (hv : v < n) : partB n R v = nodesOf n prt (prt v) := by
  unfold partB nodesOf
  refine List.filter_congr (fun w hw => ?_)
  have hw := List.mem_range.1 hw
  rw [Bool.eq_iff_iff, Bool.and_eq_true, hR v w hv hw, hR w v hw hv, beq_iff_eq]
  exact ⟨fun h' => ((h.same v w hv hw).2 h').symm, fun e => (h.same v w hv hw).1 e.symm⟩

/-- what the heap gives is what the order picks -/
theorem kahn_pick (hnx : ∀ u x, u < n → x ∈ nx u → x < n) (h : Scc n nx np prt) (hR : ∀ u x, u < n → x < n → (R u x = true ↔ Rch nx u x)) (hd : ∀ u x, u < n → prt u ∈ done → x ∈ nx u → prt x ∈ done) {p : Nat} (hf : Free n nx np prt done p)
    (hmin : ∀ q, Free n nx np prt done q → headN (nodesOf n prt p) ≤ headN (nodesOf n prt q)) : pickB n R (fun w => done.contains (prt w)) = some (headN (nodesOf n prt p)) := by
  obtain ⟨h1, h2⟩ := first_is h hf.pos hf.le
  unfold pickB
  rcases hc : (List.range n).find? (readyB n R fun w => done.contains (prt w)) with _ | v
  · have := List.find?_eq_none.1 hc _ (List.mem_range.2 h1)
    exact absurd (ready_of_free hnx h hR hd hf h1 h2) this
  · have hv := List.mem_range.1 (List.mem_of_find?_eq_some hc)
    have hvr := List.find?_some hc
    have hfv := free_of_ready hnx h hR hv hvr
    have hle1 := hmin _ hfv
    have hle2 : headN (nodesOf n prt (prt v)) ≤ v := headN_le (asc_range n _) (mem_nodesOf.2 ⟨hv, rfl⟩)
    have hge : ¬ headN (nodesOf n prt p) < v := fun hlt => by
      obtain ⟨_, as, bs, hab, hno⟩ := List.find?_eq_some_iff_append.1 hc
      have hmem : headN (nodesOf n prt p) ∈ as ++ v :: bs := by rw [← hab]; exact List.mem_range.2 h1
      have hpw : (as ++ v :: bs).Pairwise (· < ·) := by rw [← hab]; exact List.pairwise_lt_range
      rcases List.mem_append.1 hmem with hm | hm
      · have := hno _ hm
        rw [ready_of_free hnx h hR hd hf h1 h2] at this; cases this
      · have h4 := (List.pairwise_append.1 hpw).2.1
        rcases List.mem_cons.1 hm with e | hm
        · omega
        · have := (List.pairwise_cons.1 h4).1 _ hm; omega
    congr 1; omega

theorem kahn_end (hnx : ∀ u x, u < n → x ∈ nx u → x < n) (h : Scc n nx np prt) (hR : ∀ u x, u < n → x < n → (R u x = true ↔ Rch nx u x)) (hno : ∀ p, ¬ Free n nx np prt done p) : pickB n R (fun w => done.contains (prt w)) = none := by
  unfold pickB
  refine List.find?_eq_none.2 (fun v hv hr => hno _ (free_of_ready hnx h hR (List.mem_range.1 hv) hr))

end kahn

theorem greedy_end {n : Nat} {R : Nat → Nat → Bool} {d : Nat → Bool} (h : pickB n R d = none) (k : Nat) : greedy n R k d = [] := by
  cases k with
  | zero => rfl
  | succ k => unfold greedy; rw [h]

/-- how many nodes are not listed -/
def left (n : Nat) (d : Nat → Bool) : Nat := ((List.range n).filter fun v => !d v).length

theorem pick_left {n : Nat} {R : Nat → Nat → Bool} {d : Nat → Bool} (h : left n d = 0) : pickB n R d = none := by
  unfold pickB
  refine List.find?_eq_none.2 (fun v hv hr => ?_)
  have h1 : v ∉ (List.range n).filter fun v => !d v := by rw [List.eq_nil_of_length_eq_zero h]; simp
  unfold readyB at hr
  simp only [Bool.and_eq_true] at hr
  exact h1 (List.mem_filter.2 ⟨hv, hr.1⟩)

theorem filter_lt {l : List Nat} {f g : Nat → Bool} (h : ∀ x, g x = true → f x = true) {v : Nat} (hv : v ∈ l) (h1 : f v = true) (h2 : g v = false) : (l.filter g).length < (l.filter f).length := by
  induction l with
  | nil => cases hv
  | cons a r ih =>
    have hle : (r.filter g).length ≤ (r.filter f).length := by
      clear ih hv
      induction r with
      | nil => exact Nat.le_refl _
      | cons b r ih =>
        simp only [List.filter_cons]
        have := h b
        rcases hg : g b with _ | _ <;> rcases hf : f b with _ | _ <;> simp_all <;> omega
    simp only [List.filter_cons]
    rcases List.mem_cons.1 hv with rfl | hv
    · rw [h1, h2]; simp; omega
    · have := ih hv
      have hh := h a
      rcases hg : g a with _ | _ <;> rcases hf : f a with _ | _ <;> simp_all <;> omega

/-- enough steps are enough -/
theorem greedy_step {n : Nat} {R : Nat → Nat → Bool} {d : Nat → Bool} {v : Nat} (hp : pickB n R d = some v) (hrefl : R v v = true) {k : Nat} (hk : left n d ≤ k) : greedy n R k d = partB n R v :: greedy n R (k - 1) (fun w => d w || (partB n R v).contains w) ∧ left n (fun w => d w || (partB n R v).contains w) ≤ k - 1 := by
  have hv := List.mem_of_find?_eq_some hp
  have hr := List.find?_some hp
  have hnd : d v = false := by
    unfold readyB at hr
    simp only [Bool.and_eq_true, Bool.not_eq_true'] at hr
    exact hr.1
  have hlt : left n (fun w => d w || (partB n R v).contains w) < left n d := by
    refine filter_lt (fun x hx => ?_) hv (by simp [hnd]) ?_
    · simp only [Bool.not_eq_true', Bool.or_eq_false_iff] at hx ⊢; exact hx.1
    · have : v ∈ partB n R v := by simp [partB, hrefl, List.mem_range.1 hv]
      simp [this]
  cases k with
  | zero => omega
  | succ k =>
    refine ⟨?_, by omega⟩
    rw [greedy, hp]; rfl

end Go.Proofs.Ytmgkoocpnakanaa.Tj
