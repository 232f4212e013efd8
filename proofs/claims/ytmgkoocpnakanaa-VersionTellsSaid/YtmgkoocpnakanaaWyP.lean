/-
  Plain laws of a least way and of a least loop. No program.
-/
import Derived.Test.YtmgkoocpnakanaaPlP
namespace Go.Proofs.Ytmgkoocpnakanaa.W
open Go.RowKit
set_option linter.unusedVariables false

theorem wy_fw {nx : Nat → List Nat} {rts : List Nat} {x : Nat} {l : List Nat} (h : Tj.Wy nx rts x l) : (∀ i a b, l.reverse[i]? = some a → l.reverse[i + 1]? = some b → b ∈ nx a) ∧ (∃ r, r ∈ rts ∧ l.reverse[0]? = some r) ∧ (∃ q, l = x :: q) := by
  induction h with
  | root hx => exact ⟨fun i a b h1 h2 => by simp at h2, ⟨_, hx, rfl⟩, _, rfl⟩
  | @tail y x l hw hx ih =>
    obtain ⟨h1, ⟨r, h2, h3⟩, q, rfl⟩ := ih
    refine ⟨fun i a b ha hb => ?_, ⟨r, h2, ?_⟩, _, rfl⟩
    · rw [List.reverse_cons] at ha hb
      rcases Nat.lt_or_ge (i + 1) (y :: q).reverse.length with hi | hi
      · rw [List.getElem?_append_left (by omega)] at ha
        rw [List.getElem?_append_left hi] at hb
        exact h1 i a b ha hb
      · rw [List.getElem?_append_right hi] at hb
        have hb0 : i + 1 - (y :: q).reverse.length = 0 := by
          have := (List.getElem?_eq_some_iff.1 hb).1
          rw [List.length_singleton] at this
          omega
        rw [hb0] at hb
        simp only [List.getElem?_cons_zero, Option.some.injEq] at hb
        subst hb
        rw [List.length_reverse, List.length_cons] at hi hb0
        have hiq : i = q.length := by omega
        rw [List.getElem?_append_left (by rw [List.length_reverse, List.length_cons]; omega), List.reverse_cons, hiq, List.getElem?_append_right (by rw [List.length_reverse]; omega)] at ha
        simp at ha
        exact ha ▸ hx
    · rw [List.reverse_cons, List.getElem?_append_left (by simp)]
      exact h3
theorem less_irr (a : List Int) : lessI a a = false := by
  have := lessI_same a a
  rcases h : lessI a a with _ | _
  · rfl
  · rw [h] at this; simp at this
theorem less_asym : ∀ a b : List Int, lessI a b = true → lessI b a = false
  | [], [], h => by simp [lessI] at h
  | [], _ :: _, _ => rfl
  | _ :: _, [], h => by simp [lessI] at h
  | x :: a, y :: b, h => by
    unfold lessI at h ⊢
    by_cases e : x = y
    · subst e
      rw [if_pos rfl] at h ⊢
      exact less_asym a b h
    · rw [if_neg e] at h
      rw [if_neg (fun k => e k.symm)]
      have := of_decide_eq_true h
      exact decide_eq_false (by omega)
theorem arcI_iff {arcs : List Arc} {a b : Int} : arcI arcs a b = true ↔ ∃ c, c ∈ arcs ∧ c.f = a ∧ c.t = b := by
  unfold arcI
  rw [List.any_eq_true]
  simp only [Bool.and_eq_true, beq_iff_eq]

section
variable {n : Nat} {arcs : List Arc} {roots : List Int} {to : Int}
theorem arc_nx {a b : Nat} (hb : b < n) : arcI arcs (a : Int) (b : Int) = true ↔ b ∈ nx n arcs a := by
  rw [arcI_iff, mem_nx]
  exact ⟨fun ⟨c, h1, h2, h3⟩ => ⟨hb, c, h1, h2, h3⟩, fun ⟨_, c, h1, h2, h3⟩ => ⟨c, h1, h2, h3⟩⟩
theorem intL_at {l : List Nat} {i : Nat} {a : Int} (h : (intL l)[i]? = some a) : ∃ u, l[i]? = some u ∧ a = (u : Int) := by
  rw [intL, List.getElem?_map] at h
  cases hu : l[i]? with
  | none => rw [hu] at h; cases h
  | some u => rw [hu] at h; cases h; exact ⟨u, rfl, rfl⟩

theorem other_wy (hr : rightB (n : Int) arcs = true) {o : List Int} (h0 : ∀ a, o[0]? = some a → a ∈ roots ∧ 0 ≤ a ∧ a < (n : Int)) (hs : ∀ i a b, o[i]? = some a → o[i + 1]? = some b → arcI arcs a b = true) :
    ∀ k (hk : k < o.length), ∃ (u : Nat) (l : List Nat), o[k] = (u : Int) ∧ u < n ∧ Tj.Wy (nx n arcs) (rtsOf n (norm roots)) u l ∧ intL l.reverse = o.take (k + 1)
  | 0, hk => by
    obtain ⟨h1, h2, h3⟩ := h0 o[0] (List.getElem?_eq_getElem hk)
    obtain ⟨u, hu⟩ := nat_of h2
    refine ⟨u, [u], hu, by omega, .root (mem_rts.2 ⟨by omega, hu ▸ h1⟩), ?_⟩
    rw [List.take_add_one, List.getElem?_eq_getElem hk, hu]; rfl
  | k + 1, hk => by
    obtain ⟨u, l, h1, h2, h3, h4⟩ := other_wy hr h0 hs k (by omega)
    have ha := hs k o[k] o[k + 1] (List.getElem?_eq_getElem (by omega)) (List.getElem?_eq_getElem hk)
    obtain ⟨c, hc, e1, e2⟩ := arcI_iff.1 ha
    obtain ⟨_, t1, t2⟩ := (right_is hr).2.2 c hc
    obtain ⟨v, hv⟩ := nat_of t1
    have hov : o[k + 1] = (v : Int) := by rw [← e2, hv]
    refine ⟨v, v :: l, hov, by omega, h3.tail (mem_nx.2 ⟨by omega, c, hc, by rw [e1, h1], hv⟩), ?_⟩
    rw [List.reverse_cons, intL_app, h4, List.take_add_one (i := k + 1), List.getElem?_eq_getElem hk, hov]; rfl

structure WayOk (n : Nat) (arcs : List Arc) (roots : List Int) (to : Int) (L : List Int) : Prop where
  len : L.length ≤ n
  arc : ∀ i a b, L[i]? = some a → L[i + 1]? = some b → arcI arcs a b = true
  root : ∀ a, L[0]? = some a → a ∈ roots
  last : ∀ a, L[L.length - 1]? = some a → a = to
  least : ∀ o : List Int, (∀ a, o[0]? = some a → a ∈ roots ∧ 0 ≤ a ∧ a < (n : Int)) → o[o.length - 1]? = some to → (∀ i a b, o[i]? = some a → o[i + 1]? = some b → arcI arcs a b = true) →
    0 < L.length ∧ L.length ≤ o.length ∧ (L.length < o.length ∨ lessI o L = false)

theorem way_fwd {l : List Nat} (hl : l ∈ wavesOf n arcs roots) : (intL l.reverse).length ≤ n ∧ (∀ i a b, (intL l.reverse)[i]? = some a → (intL l.reverse)[i + 1]? = some b → arcI arcs a b = true) ∧ (∃ r : Nat, r < n ∧ (r : Int) ∈ roots ∧ (intL l.reverse)[0]? = some (r : Int)) ∧ (intL l.reverse)[(intL l.reverse).length - 1]? = some ((Tj.headN l : Nat) : Int) := by
  have hW := waves_ok n arcs roots
  obtain ⟨h1, ⟨r, h2, h3⟩, q, h4⟩ := wy_fw (hW.way hl)
  refine ⟨by rw [intL_len, List.length_reverse]; exact (WsOK.of hW).len l hl, fun i a b ha hb => ?_, ⟨r, (mem_rts.1 h2).1, (mem_rts.1 h2).2, ?_⟩, ?_⟩
  · obtain ⟨u, hu, rfl⟩ := intL_at ha
    obtain ⟨v, hv, rfl⟩ := intL_at hb
    have := h1 i u v hu hv
    exact (arc_nx (nx_lt this)).2 this
  · rw [intL, List.getElem?_map, h3]; rfl
  · rw [intL_len, List.length_reverse, intL, List.getElem?_map, h4]
    simp [Tj.headN]

theorem way_ok (hr : rightB (n : Int) arcs = true) : WayOk n arcs roots to (wayQ n arcs roots to) := by
  have hW := waves_ok n arcs roots
  have hne : ∀ o : List Int, (∀ a, o[0]? = some a → a ∈ roots ∧ 0 ≤ a ∧ a < (n : Int)) → o[o.length - 1]? = some to → (∀ i a b, o[i]? = some a → o[i + 1]? = some b → arcI arcs a b = true) →
      ∃ (u : Nat) (l : List Nat), to = (u : Int) ∧ u < n ∧ intL l.reverse = o ∧ ∃ l', l' ∈ wavesOf n arcs roots ∧ Tj.headN l' = u ∧ Tj.sle l' l := fun o h0 hl hs => by
    have hlt := (List.getElem?_eq_some_iff.1 hl).1
    have he := (List.getElem?_eq_some_iff.1 hl).2
    obtain ⟨u, l, h1, h2, h3, h4⟩ := other_wy hr h0 hs (o.length - 1) hlt
    obtain ⟨l', k1, k2, k3⟩ := hW.least h3
    refine ⟨u, l, by rw [← he, h1], h2, ?_, l', k1, k2, k3⟩
    rw [h4, List.take_of_length_le (by omega)]
  have hq : wayQ n arcs roots to = [] ∨ ∃ (u : Nat) (l : List Nat), to = (u : Int) ∧ l ∈ wavesOf n arcs roots ∧ Tj.headN l = u ∧ wayQ n arcs roots to = intL l.reverse := by
    unfold wayQ
    rcases hc : (rightB (n : Int) arcs && decide (0 ≤ to) && decide (to < (n : Int))) with _ | _
    · exact .inl rfl
    · simp only [Bool.and_eq_true, decide_eq_true_eq] at hc
      obtain ⟨u, rfl⟩ := nat_of hc.1.2
      by_cases hm : u ∈ Tj.heads (wavesOf n arcs roots)
      · obtain ⟨l, hl, hu⟩ := Tj.mem_heads.1 hm
        refine .inr ⟨u, l, rfl, hl, hu, ?_⟩
        show intL (Tj.wayL (wavesOf n arcs roots) u) = _
        rw [← hu, hW.find hl]
      · refine .inl ?_
        show intL (Tj.wayL (wavesOf n arcs roots) u) = _
        rw [Tj.wayL_none hm]; rfl
  have hin : ∀ o : List Int, (∀ a, o[0]? = some a → a ∈ roots ∧ 0 ≤ a ∧ a < (n : Int)) → o[o.length - 1]? = some to → (∀ i a b, o[i]? = some a → o[i + 1]? = some b → arcI arcs a b = true) → 0 < (wayQ n arcs roots to).length ∧ (wayQ n arcs roots to).length ≤ o.length ∧ ((wayQ n arcs roots to).length < o.length ∨ lessI o (wayQ n arcs roots to) = false) := fun o h0 hl hs => by
    obtain ⟨u, l, e1, hu, e2, l', k1, k2, k3⟩ := hne o h0 hl hs
    have hwq : wayQ n arcs roots to = intL l'.reverse := by
      unfold wayQ
      rw [hr, e1, decide_eq_true (show (0 : Int) ≤ (u : Int) by omega), decide_eq_true (show (u : Int) < (n : Int) by omega)]
      show intL (Tj.wayL (wavesOf n arcs roots) u) = _
      rw [← k2, hW.find k1]
    have hlen : o.length = l.length := by rw [← e2, intL_len, List.length_reverse]
    rw [hwq, intL_len, List.length_reverse, hlen]
    have hpos : 0 < l'.length := by
      obtain ⟨r, e⟩ := (hW.way k1).ne
      rw [e]; simp
    rcases k3 with rfl | h | ⟨h1, h2⟩
    · exact ⟨hpos, Nat.le_refl _, .inr (by rw [e2]; exact less_irr o)⟩
    · exact ⟨hpos, by omega, .inl h⟩
    · exact ⟨hpos, by omega, .inr (by rw [← e2]; exact less_asym _ _ ((ltR_less _ _ h1).1 h2))⟩
  rcases hq with h | ⟨u, l, e, hl, hu, h⟩
  · exact ⟨by rw [h]; simp, fun i a b h1 => by rw [h] at h1; simp at h1, fun a h1 => by rw [h] at h1; simp at h1, fun a h1 => by rw [h] at h1; simp at h1, hin⟩
  · obtain ⟨f1, f2, ⟨r, f3, f4, f5⟩, f6⟩ := way_fwd hl
    rw [← h] at f1 f2 f5 f6
    exact ⟨f1, f2, fun a h1 => by rw [f5] at h1; cases h1; exact f4, fun a h1 => by rw [f6] at h1; cases h1; rw [e, hu], hin⟩

-- loops
def Cond (arcs : List Arc) (p : List Nat) (v : Nat) : Prop := 1 < p.length ∨ arcI arcs (v : Int) (v : Int) = true
/-- the law's least node: parts before i and the first k of part i are done -/
def Lst (n : Nat) (arcs : List Arc) (P : List (List Nat)) (i k : Nat) (m : Int) : Prop :=
  ∀ x : Int, x ≤ m ↔ x ≤ (n : Int) ∧ ∀ j (hj : j < P.length), (j < i → ∀ v, v ∈ P[j] → Cond arcs P[j] v → x ≤ (v : Int)) ∧ (j = i → ∀ v, v ∈ P[j].take k → Cond arcs P[j] v → x ≤ (v : Int))
variable {P : List (List Nat)} {i k : Nat} {m : Int}
theorem Lst.start : Lst n arcs P 0 0 (n : Int) := fun x => ⟨fun h => ⟨h, fun j hj => ⟨fun h => absurd h (Nat.not_lt_zero _), fun _ v h => by simp at h⟩⟩, fun h => h.1⟩
theorem Lst.next (h : Lst n arcs P i k m) (hk : ∀ hi : i < P.length, P[i].length ≤ k) : Lst n arcs P (i + 1) 0 m := fun x => by
  rw [h x]
  refine and_congr_right (fun _ => ⟨fun h2 j hj => ⟨fun h3 v hv => ?_, fun _ v hv => by simp at hv⟩, fun h2 j hj => ⟨fun h3 v hv => (h2 j hj).1 (by omega) v hv, fun h3 v hv => (h2 j hj).1 (by omega) v (List.mem_of_mem_take hv)⟩⟩)
  rcases Nat.lt_or_ge j i with h4 | h4
  · exact (h2 j hj).1 h4 v hv
  · have : j = i := by omega
    subst this
    exact (h2 j hj).2 rfl v (by rw [List.take_of_length_le (hk hj)]; exact hv)
theorem Lst.step (h : Lst n arcs P i k m) (hi : i < P.length) (hk : k < P[i].length) {m' : Int} (hm : ∀ x : Int, x ≤ m' ↔ x ≤ m ∧ (Cond arcs P[i] P[i][k] → x ≤ (P[i][k] : Int))) : Lst n arcs P i (k + 1) m' := fun x => by
  have htk : P[i].take (k + 1) = P[i].take k ++ [P[i][k]] := by rw [List.take_add_one, List.getElem?_eq_getElem hk]; rfl
  rw [hm x, h x, and_assoc]
  refine and_congr_right (fun _ => ⟨fun ⟨h2, h3⟩ j hj => ⟨(h2 j hj).1, fun hji v hv hc => ?_⟩, fun h2 => ⟨fun j hj => ⟨(h2 j hj).1, fun hji v hv => (h2 j hj).2 hji v ?_⟩, fun hc => (h2 i hi).2 rfl _ (by rw [htk]; exact List.mem_append_right _ (List.mem_singleton.2 rfl)) hc⟩⟩)
  · subst hji
    rw [htk] at hv
    rcases List.mem_append.1 hv with hv | hv
    · exact (h2 j hj).2 rfl v hv hc
    · rw [List.mem_singleton] at hv; subst hv; exact h3 hc
  · subst hji
    rw [htk]; exact List.mem_append_left _ hv
theorem part_mem {p : List Nat} (hp : p ∈ partsG n arcs) {u v : Nat} (hu : u ∈ p) (hv : v ∈ p) : u < n ∧ v < n ∧ Tj.Rch (nx n arcs) u v := by
  obtain ⟨c, hc, _, rfl⟩ := (parts_ps (n := n) (arcs := arcs)).cls p hp
  obtain ⟨u1, u2, u3⟩ := Tj.mem_partB.1 hu
  obtain ⟨v1, v2, v3⟩ := Tj.mem_partB.1 hv
  exact ⟨u1, v1, ((reachR_iff u1).1 u3).trans ((reachR_iff hc).1 v2)⟩
theorem leastL_iff (hr : rightB (n : Int) arcs = true) (x : Int) : x ≤ leastL n arcs ↔ x ≤ (n : Int) ∧ ∀ p, p ∈ partsG n arcs → ∀ v, v ∈ p → Cond arcs p v → x ≤ (v : Int) := by
  have hP := pgd (n := n) (arcs := arcs)
  unfold leastL
  rw [lpB_iff, lpA_iff, and_assoc]
  refine and_congr_right (fun _ => ⟨fun ⟨h1, h2⟩ p hp v hv hc => ?_, fun h => ⟨fun q hq hl => ?_, fun a ha e => ?_⟩⟩)
  · rcases hc with hc | hc
    · have := h1 (intL p) (List.mem_map.2 ⟨p, hp, rfl⟩) (by rw [intL_len]; exact hc)
      obtain ⟨j, hj, rfl⟩ := List.getElem_of_mem hv
      have ha := hP.asc p hp
      cases p with
      | nil => simp at hj
      | cons y r =>
        have hy : (intL (y :: r)).headD 0 = (y : Int) := rfl
        rw [hy] at this
        cases j with
        | zero => exact this
        | succ j =>
          have := List.rel_of_pairwise_cons ha (List.getElem_mem (l := r) (n := j) (by simpa using hj))
          simp only [List.getElem_cons_succ]
          omega
    · obtain ⟨a, ha, e1, e2⟩ := arcI_iff.1 hc
      have := h2 a ha (by rw [e1, e2])
      omega
  · obtain ⟨p, hp, rfl⟩ := List.mem_map.1 hq
    rw [intL_len] at hl
    cases p with
    | nil => simp at hl
    | cons y r => exact h _ hp y List.mem_cons_self (.inl hl)
  · obtain ⟨⟨f1, f2⟩, t1, t2⟩ := (right_is hr).2.2 a ha
    obtain ⟨u, hu⟩ := nat_of f1
    obtain ⟨p, hp, hup⟩ := hP.all u (by omega)
    rw [hu]
    exact h p hp u hup (.inr (arcI_iff.2 ⟨a, ha, hu, by rw [← e, hu]⟩))
theorem Lst.done (hr : rightB (n : Int) arcs = true) (h : Lst n arcs (partsG n arcs) (partsG n arcs).length 0 m) : m = leastL n arcs := by
  have : ∀ x : Int, x ≤ m ↔ x ≤ leastL n arcs := fun x => by
    rw [h x, leastL_iff hr]
    refine and_congr_right (fun _ => ⟨fun h2 p hp => ?_, fun h2 j hj => ⟨fun _ => h2 _ (List.getElem_mem hj), fun e => absurd hj (by omega)⟩⟩)
    obtain ⟨j, hj, rfl⟩ := List.getElem_of_mem hp
    exact (h2 j hj).1 hj
  exact Int.le_antisymm ((this m).1 (Int.le_refl _)) ((this _).2 (Int.le_refl _))

structure LoopOk (n : Nat) (arcs : List Arc) (L : List Int) (m : Int) : Prop where
  len : L.length ≤ n
  nil : L = [] → m = (n : Int)
  arc : ∀ i a b, L[i]? = some a → L[(i + 1) % L.length]? = some b → arcI arcs a b = true
  nod : L.Nodup
  fst : ∀ a, L[0]? = some a → a = m

theorem least_cand (hr : rightB (n : Int) arcs = true) (hne : leastL n arcs ≠ (n : Int)) : ∃ u : Nat, leastL n arcs = (u : Int) ∧ u < n ∧ ∃ z, z < n ∧ Tj.Rch (nx n arcs) u z ∧ arcI arcs (z : Int) (u : Int) = true := by
  have hi := leastL_iff (n := n) (arcs := arcs) hr
  have hle := (hi (leastL n arcs)).1 (Int.le_refl _)
  have hex : ∃ p, p ∈ partsG n arcs ∧ ∃ v, v ∈ p ∧ Cond arcs p v ∧ (v : Int) = leastL n arcs := Classical.byContradiction fun hno => by
    have := (hi (leastL n arcs + 1)).2 ⟨by omega, fun p hp v hv hc => by
      have h1 := hle.2 p hp v hv hc
      have h2 : (v : Int) ≠ leastL n arcs := fun e => hno ⟨p, hp, v, hv, hc, e⟩
      omega⟩
    omega
  obtain ⟨p, hp, u, hu, hc, e⟩ := hex
  have hun := (part_mem hp hu hu).1
  refine ⟨u, e.symm, hun, ?_⟩
  rcases hc with hc | hc
  · have hex2 : ∃ y, y ∈ p ∧ y ≠ u := by
      have ha := (pgd (n := n) (arcs := arcs)).asc p hp
      match p, hc with
      | a :: b :: r, _ =>
        have hab := List.rel_of_pairwise_cons ha (List.mem_cons_self (a := b) (l := r))
        by_cases h : a = u
        · exact ⟨b, by simp, by omega⟩
        · exact ⟨a, by simp, h⟩
    obtain ⟨y, hy, hyu⟩ := hex2
    obtain ⟨_, _, r1⟩ := part_mem hp hu hy
    obtain ⟨hyn, _, r2⟩ := part_mem hp hy hu
    cases r2 with
    | refl => exact absurd rfl hyu
    | tail r3 hz => exact ⟨_, rch_lt hyn r3, r1.trans r3, (arc_nx hun).2 hz⟩
  · exact ⟨u, hun, .refl u, hc⟩

theorem loop_ok (hr : rightB (n : Int) arcs = true) : LoopOk n arcs (intL (loopL n arcs)) (leastL n arcs) := by
  by_cases hne : leastL n arcs = (n : Int)
  · have : loopL n arcs = [] := by unfold loopL; rw [if_pos hne]
    rw [this]
    exact ⟨by simp [intL], fun _ => hne, fun i a b h => by simp [intL] at h, by simp [intL], fun a h => by simp [intL] at h⟩
  · obtain ⟨u, eu, hun, z, hz, hrz, haz⟩ := least_cand hr hne
    have hW := waves_ok n arcs [leastL n arcs]
    have hOk := lpC_is (leastL n arcs).toNat (wavesOf n arcs [leastL n arcs]) arcs
    have hL : loopL n arcs = lpC (leastL n arcs).toNat (wavesOf n arcs [leastL n arcs]) arcs [] := by unfold loopL; rw [if_neg hne]
    rw [← hL] at hOk
    have hlt : ((leastL n arcs).toNat : Int) = leastL n arcs := by omega
    have hhd : z ∈ Tj.heads (wavesOf n arcs [leastL n arcs]) := hW.reach.2 ⟨u, mem_rts.2 ⟨hun, by rw [eu]; simp⟩, hrz⟩
    obtain ⟨c, hc, e1, e2⟩ := arcI_iff.1 haz
    obtain ⟨lz, hlz, hhz⟩ := Tj.mem_heads.1 hhd
    have hcand : Cnd (leastL n arcs).toNat (wavesOf n arcs [leastL n arcs]) arcs (Tj.wayL (wavesOf n arcs [leastL n arcs]) z) := by
      refine ⟨?_, c, hc, by rw [hlt, e2, eu], by rw [e1]; rfl⟩
      rw [← hhz, hW.find hlz]
      obtain ⟨r, e⟩ := (hW.way hlz).ne
      rw [e]; simp
    rcases hOk with ⟨_, h2⟩ | ⟨h1, h2, _⟩
    · exact absurd hcand (h2 _)
    · obtain ⟨_, a, ha, ea, eR⟩ := h2
      rw [hlt] at ea
      have hmem : a.f.toNat ∈ Tj.heads (wavesOf n arcs [leastL n arcs]) := Decidable.byContradiction fun hn => h1 (by rw [eR, Tj.wayL_none hn])
      obtain ⟨l, hl, hh⟩ := Tj.mem_heads.1 hmem
      rw [← hh, hW.find hl] at eR
      obtain ⟨f1, f2, ⟨r, f3, f4, f5⟩, f6⟩ := way_fwd hl
      obtain ⟨⟨g1, g2⟩, _⟩ := (right_is hr).2.2 a ha
      have hrl : (r : Int) = leastL n arcs := by simpa using f4
      rw [eR]
      have hpos : 0 < (intL l.reverse).length := by
        have := (List.getElem?_eq_some_iff.1 f5).1
        omega
      refine ⟨f1, fun e => by rw [e] at hpos; simp at hpos, fun i x y hx hy => ?_, ?_, fun x hx => by rw [f5] at hx; cases hx; exact hrl⟩
      · have hi := (List.getElem?_eq_some_iff.1 hx).1
        rcases Nat.lt_or_ge (i + 1) (intL l.reverse).length with h | h
        · rw [Nat.mod_eq_of_lt h] at hy
          exact f2 i x y hx hy
        · have hie : i = (intL l.reverse).length - 1 := by omega
          rw [show (i + 1) % (intL l.reverse).length = 0 by rw [show i + 1 = (intL l.reverse).length by omega, Nat.mod_self]] at hy
          rw [hie, f6] at hx
          rw [f5] at hy
          cases hx; cases hy
          refine arcI_iff.2 ⟨a, ha, ?_, by rw [ea, hrl]⟩
          rw [hh]; omega
      · have hnd := (ws_len (WsOK.of hW).suf (WsOK.of hW).nod (WsOK.of hW).lt l hl).1
        show (List.map Int.ofNat l.reverse).Pairwise (· ≠ ·)
        exact List.pairwise_map.2 (List.pairwise_reverse.2 (hnd.imp (fun {a b} h e => h (Int.ofNat.inj e).symm)))
end

end Go.Proofs.Ytmgkoocpnakanaa.W
