/-
  What the program's functions return, right graph or not; the parts' plain law; the laws' where.
-/
import Derived.Test.YtmgkoocpnakanaaSm
import Derived.Test.YtmgkoocpnakanaaGrP
namespace Go.Proofs.Ytmgkoocpnakanaa.W
open Go.RowKit
set_option linter.unusedVariables false

theorem right_is {n : Int} {arcs : List Arc} (h : rightB n arcs = true) : 0 ≤ n ∧ n ≤ 262144 ∧ ∀ a ∈ arcs, (0 ≤ a.f ∧ a.f < n) ∧ 0 ≤ a.t ∧ a.t < n := by
  simp only [rightB, Bool.and_eq_true, List.all_eq_true, nodeB, decide_eq_true_eq] at h
  exact ⟨h.1.1, h.1.2, h.2⟩
theorem nat_of {n : Int} (h : 0 ≤ n) : ∃ m : Nat, n = m := ⟨n.toNat, by omega⟩

def partsQ (n : Int) (arcs : List Arc) : List (List Int) := cond (rightB n arcs) ((partsG n.toNat arcs).map intL) []
def reachQ (n : Int) (arcs : List Arc) (roots : List Int) : List Int := cond (rightB n arcs) (intL (reachL n.toNat arcs roots)) []
def wayQ (n : Int) (arcs : List Arc) (roots : List Int) (to : Int) : List Int := cond (rightB n arcs && decide (0 ≤ to) && decide (to < n)) (intL (Tj.wayL (wavesOf n.toNat arcs roots) to.toNat)) []
def loopQ (n : Int) (arcs : List Arc) : List Int := cond (rightB n arcs) (intL (loopL n.toNat arcs)) []

theorem parts_q (w : World) (n : Int) (hn : n ≤ 14) (v : Value) (arcs : List Arc) (hR : Rw 2 Arc.E w v arcs) (hl : arcs.length ≤ 1000000) :
    Calls Try.prog 31 #[.int .i64 n, v] w fun e w' => ∃ v', e = .returned v' ∧ Rw 1 rowE w' v' (partsQ n arcs) ∧ Below w.heap.size w w' := by
  rcases h : rightB n arcs with _ | _
  · refine (parts_no w n v arcs hR (by unfold lenR; omega) h).mono ?_
    rintro e w' ⟨rfl, hb⟩
    exact ⟨_, rfl, by unfold partsQ; rw [h]; exact Rw.nil _, hb⟩
  · obtain ⟨m, rfl⟩ := nat_of (right_is h).1
    refine (parts_any w m (by omega) v arcs hR hl h).mono ?_
    rintro e w' ⟨v', vs, rfl, hro, hb⟩
    exact ⟨v', rfl, by unfold partsQ; rw [h]; exact RR.of hro, hb⟩

theorem loop_q (w : World) (n : Int) (hI : I64 n) (hn : n ≤ 14) (v : Value) (arcs : List Arc) (hR : Rw 2 Arc.E w v arcs) (hl : arcs.length ≤ 1000000) :
    Calls Try.prog 23 #[.int .i64 n, v] w fun e w' => ∃ v', e = .returned v' ∧ RI w' v' (loopQ n arcs) ∧ Below w.heap.size w w' := by
  rcases h : rightB n arcs with _ | _
  · refine (loop_no w n v arcs hR (by unfold lenR; omega) h hI).mono ?_
    rintro e w' ⟨rfl, hb⟩
    exact ⟨_, rfl, by unfold loopQ; rw [h]; exact Rw.nil _, hb⟩
  · obtain ⟨m, rfl⟩ := nat_of (right_is h).1
    refine (loop_any w m (by omega) v arcs hR hl h).mono ?_
    rintro e w' ⟨v', rfl, ho, hb⟩
    exact ⟨v', rfl, by unfold loopQ; rw [h]; exact RI.ofN ho, hb⟩

theorem RI.ever {w : World} {p : Option Addr} {n c : Nat} {xs : List Int} (h : RI w (.slice p n c) xs) (h0 : 0 < xs.length) : ∃ g o, p = some ⟨g, o, none⟩ ∧ ∀ k (hk : k < xs.length) w', Below w.heap.size w w' → w'.cell? ⟨g, o + k, none⟩ = some (.int .i64 xs[k]) := by
  obtain ⟨g, o, _, e, hg, _⟩ := Rw.at h rfl h0
  refine ⟨g, o, e, fun k hk w' hb => ?_⟩
  obtain ⟨g', o', e', c⟩ := RI.cell h rfl hk
  rw [e] at e'
  cases e'
  rw [hb.cell (p := ⟨g, o + k, none⟩) hg]
  exact c
theorem intL_len (l : List Nat) : (intL l).length = l.length := by simp [intL]
theorem intL_get {l : List Nat} {k : Nat} (hk : k < l.length) (h : k < (intL l).length) : (intL l)[k] = ((l[k] : Nat) : Int) := by simp [intL]

-- what is reached, in plain words
def reachR (n : Nat) (arcs : List Arc) (u x : Nat) : Bool := (Tj.heads (Tj.waysOf n (nx n arcs) [u])).contains x
theorem nx_ok (n : Nat) (arcs : List Arc) : ∀ u, u < n → (nx n arcs u).Pairwise (· < ·) ∧ ∀ x, x ∈ nx n arcs u → x < n := fun u _ => ⟨nx_asc n arcs u, fun x h => nx_lt h⟩
section
variable {n : Nat} {arcs : List Arc}
theorem reachR_iff {u x : Nat} (hu : u < n) : reachR n arcs u x = true ↔ Tj.Rch (nx n arcs) u x := by
  unfold reachR
  rw [List.contains_iff_mem, (Tj.ways_of (nx_ok n arcs) (fun x hx => by simp at hx; omega) (List.pairwise_singleton _ _)).reach]
  simp
theorem rch_lt {u x : Nat} (hu : u < n) (h : Tj.Rch (nx n arcs) u x) : x < n := by
  cases h with
  | refl => exact hu
  | tail _ h => exact nx_lt h
theorem parts_ps : Tj.Ps n (reachR n arcs) (fun _ => false) (partsG n arcs) :=
  Tj.greedy_ps (fun v hv => (reachR_iff hv).2 (.refl v)) (fun u v w hu hv _ h k => (reachR_iff hu).2 (((reachR_iff hu).1 h).trans ((reachR_iff hv).1 k))) n _ (Nat.le_trans (List.length_filter_le _ _) (by simp)) (fun v w _ _ h => by cases h)
theorem mem_rts {roots : List Int} {r : Nat} : r ∈ rtsOf n (norm roots) ↔ r < n ∧ (r : Int) ∈ roots := by rw [mem_rtsOf, (norm_sorted roots).2]
theorem mem_reachL {roots : List Int} {x : Nat} : x ∈ reachL n arcs roots ↔ x < n ∧ ∃ r, r < n ∧ (r : Int) ∈ roots ∧ Tj.Rch (nx n arcs) r x := by
  unfold reachL
  rw [List.mem_filter, List.mem_range, List.contains_iff_mem, (waves_ok n arcs roots).reach]
  constructor
  · rintro ⟨h, r, h1, h2⟩
    exact ⟨h, r, (mem_rts.1 h1).1, (mem_rts.1 h1).2, h2⟩
  · rintro ⟨h, r, h1, h2, h3⟩
    exact ⟨h, r, mem_rts.2 ⟨h1, h2⟩, h3⟩
theorem mem_intN {l : List Nat} {x : Nat} : (x : Int) ∈ intL l ↔ x ∈ l := by
  unfold intL
  rw [List.mem_map]
  constructor
  · rintro ⟨y, h, e⟩
    have : y = x := by
      have e' : (y : Int) = (x : Int) := e
      omega
    exact this ▸ h
  · intro h; exact ⟨x, h, rfl⟩

theorem mem_reach1 {v x : Nat} (hv : v < n) (hx : x < n) : (x : Int) ∈ intL (reachL n arcs [(v : Int)]) ↔ Tj.Rch (nx n arcs) v x := by
  rw [mem_intN, mem_reachL]
  constructor
  · rintro ⟨_, r, _, h, k⟩
    have : r = v := by
      have h' := List.mem_singleton.1 h
      omega
    exact this ▸ k
  · intro h
    exact ⟨hx, v, hv, by simp, h⟩
theorem greedy_len {R : Nat → Nat → Bool} : ∀ (k : Nat) (d : Nat → Bool), (Tj.greedy n R k d).length ≤ k
  | 0, d => by simp [Tj.greedy]
  | k + 1, d => by
    unfold Tj.greedy
    split
    · simp
    · simp only [List.length_cons]
      exact Nat.succ_le_succ (greedy_len k _)
theorem partsG_len : (partsG n arcs).length ≤ n := greedy_len _ _

/-- in which part a node is -/
def Whr (P : List (List Nat)) (n : Nat) (F : Nat → Int) : Prop := ∀ u, u < n → ∃ j, ∃ hj : j < P.length, u ∈ P[j] ∧ F u = (j : Int)
theorem Ps.uniq {R : Nat → Nat → Bool} {d : Nat → Bool} {ps : List (List Nat)} (h : Tj.Ps n R d ps) {i j u : Nat} {hi : i < ps.length} {hj : j < ps.length} (h1 : u ∈ ps[i]) (h2 : u ∈ ps[j]) : i = j := by
  have hd := List.pairwise_iff_getElem.1 h.dis
  rcases Nat.lt_trichotomy i j with h3 | h3 | h3
  · exact absurd h2 (hd i j hi hj h3 u h1)
  · exact h3
  · exact absurd h1 (hd j i hj hi h3 u h2)
theorem whr_arc {F : Nat → Int} (h : Whr (partsG n arcs) n F) {a : Arc} (ha : a ∈ arcs) {f t : Nat} (hf : f < n) (ht : t < n) (ef : a.f = (f : Int)) (et : a.t = (t : Int)) : F t ≤ F f := by
  have hP := parts_ps (n := n) (arcs := arcs)
  obtain ⟨i, hi, hi1, hi2⟩ := h f hf
  obtain ⟨j, hj, hj1, hj2⟩ := h t ht
  rcases hP.ord i f t hi ht hi1 ((reachR_iff hf).2 (.one (mem_nx.2 ⟨ht, a, ha, ef, et⟩))) with h1 | ⟨j', hj', h1, h2⟩
  · cases h1
  · have := Ps.uniq hP hj1 h2
    rw [hi2, hj2]; omega
theorem whr_same {F : Nat → Int} (h : Whr (partsG n arcs) n F) {u x : Nat} (hu : u < n) (hx : x < n) : F u = F x ↔ Tj.Rch (nx n arcs) u x ∧ Tj.Rch (nx n arcs) x u := by
  have hP := parts_ps (n := n) (arcs := arcs)
  obtain ⟨i, hi, hi1, hi2⟩ := h u hu
  obtain ⟨j, hj, hj1, hj2⟩ := h x hx
  rw [hi2, hj2]
  obtain ⟨c, hc, _, ep⟩ := hP.cls _ (List.getElem_mem hi)
  rw [ep] at hi1
  obtain ⟨_, r1, r2⟩ := Tj.mem_partB.1 hi1
  constructor
  · intro e
    have e' : i = j := by omega
    subst e'
    rw [ep] at hj1
    obtain ⟨_, r3, r4⟩ := Tj.mem_partB.1 hj1
    exact ⟨((reachR_iff hu).1 r2).trans ((reachR_iff hc).1 r3), ((reachR_iff hx).1 r4).trans ((reachR_iff hc).1 r1)⟩
  · rintro ⟨h1, h2⟩
    have : x ∈ (partsG n arcs)[i] := by
      rw [ep]
      exact Tj.mem_partB.2 ⟨hx, (reachR_iff hc).2 (((reachR_iff hc).1 r1).trans h1), (reachR_iff hx).2 (h2.trans ((reachR_iff hu).1 r2))⟩
    have := Ps.uniq hP this hj1
    omega

/-- where's work: parts before i and the first k of part i are done -/
structure Wst (P : List (List Nat)) (i k : Nat) (f : Nat → Int) : Prop where
  is : ∀ u, (f u = -1 ∧ ∀ j (hj : j < P.length), (j < i → u ∉ P[j]) ∧ (j = i → u ∉ P[j].take k)) ∨ ∃ j, ∃ hj : j < P.length, f u = (j : Int) ∧ ((j < i ∧ u ∈ P[j]) ∨ (j = i ∧ u ∈ P[j].take k))
structure Pgd (n : Nat) (P : List (List Nat)) : Prop where
  asc : ∀ p, p ∈ P → p.Pairwise (· < ·)
  lt : ∀ p, p ∈ P → ∀ x, x ∈ p → x < n
  all : ∀ v, v < n → ∃ p, p ∈ P ∧ v ∈ p
  uniq : ∀ i j u (hi : i < P.length) (hj : j < P.length), u ∈ P[i] → u ∈ P[j] → i = j
  len : ∀ p, p ∈ P → p.length ≤ n
theorem pgd : Pgd n (partsG n arcs) := by
  have hP := parts_ps (n := n) (arcs := arcs)
  refine ⟨fun p h => ?_, fun p h x hx => ?_, fun v hv => ?_, fun i j u hi hj h1 h2 => Ps.uniq hP h1 h2, fun p h => ?_⟩
  · obtain ⟨v, _, _, rfl⟩ := hP.cls p h
    exact (List.pairwise_lt_range (n := n)).filter _
  · obtain ⟨v, _, _, rfl⟩ := hP.cls p h
    exact (Tj.mem_partB.1 hx).1
  · rcases hP.all v hv with h | h
    · cases h
    · exact h
  · obtain ⟨v, _, _, rfl⟩ := hP.cls p h
    exact Nat.le_trans (List.length_filter_le _ _) (by simp)
variable {P : List (List Nat)} {f : Nat → Int} {i k : Nat}
theorem Wst.start : Wst P 0 0 (fun _ => -1) := ⟨fun u => .inl ⟨rfl, fun j hj => ⟨fun h => absurd h (Nat.not_lt_zero _), fun _ => by simp⟩⟩⟩
theorem Wst.next (h : Wst P i k f) (hk : ∀ hi : i < P.length, P[i].length ≤ k) : Wst P (i + 1) 0 f := ⟨fun u => by
  rcases h.is u with ⟨h1, h2⟩ | ⟨j, hj, h1, h2⟩
  · refine .inl ⟨h1, fun j hj => ⟨fun h3 => ?_, fun _ => by simp⟩⟩
    rcases Nat.lt_or_ge j i with h4 | h4
    · exact (h2 j hj).1 h4
    · have : j = i := by omega
      subst this
      have := (h2 j hj).2 rfl
      rwa [List.take_of_length_le (hk hj)] at this
  · refine .inr ⟨j, hj, h1, .inl ?_⟩
    rcases h2 with ⟨h2, h3⟩ | ⟨h2, h3⟩
    · exact ⟨by omega, h3⟩
    · exact ⟨by omega, List.mem_of_mem_take h3⟩⟩
theorem asc_at {l : List Nat} (h : l.Pairwise (· < ·)) {k : Nat} (hk : k < l.length) : l[k] ∉ l.take k := fun hm => by
  obtain ⟨j, hj, e⟩ := List.mem_take_iff_getElem.1 hm
  have := List.pairwise_iff_getElem.1 h j k (by omega) hk (by omega)
  omega
theorem Wst.set (h : Wst P i k f) (hP : Pgd n P) (hi : i < P.length) (hk : k < P[i].length) : f P[i][k] = -1 ∧ Wst P i (k + 1) (fun u => if u = P[i][k] then (i : Int) else f u) := by
  have hat := asc_at (hP.asc _ (List.getElem_mem hi)) hk
  have htk : P[i].take (k + 1) = P[i].take k ++ [P[i][k]] := by rw [List.take_add_one, List.getElem?_eq_getElem hk]; rfl
  refine ⟨?_, ⟨fun u => ?_⟩⟩
  · rcases h.is P[i][k] with ⟨h1, _⟩ | ⟨j, hj, h1, h2⟩
    · exact h1
    · rcases h2 with ⟨h2, h3⟩ | ⟨h2, h3⟩
      · have := hP.uniq i j _ hi hj (List.getElem_mem hk) h3
        omega
      · subst h2; exact absurd h3 hat
  · by_cases e : u = P[i][k]
    · refine .inr ⟨i, hi, by simp [e], .inr ⟨rfl, ?_⟩⟩
      rw [htk, e]
      exact List.mem_append_right _ (List.mem_singleton.2 rfl)
    · simp only [if_neg e]
      rcases h.is u with ⟨h1, h2⟩ | ⟨j, hj, h1, h2⟩
      · refine .inl ⟨h1, fun j hj => ⟨(h2 j hj).1, fun hji => ?_⟩⟩
        subst hji
        rw [htk, List.mem_append, List.mem_singleton]
        rintro (h3 | h3)
        · exact (h2 j hj).2 rfl h3
        · exact e h3
      · refine .inr ⟨j, hj, h1, h2.imp_right (fun ⟨h3, h4⟩ => ⟨h3, ?_⟩)⟩
        subst h3
        rw [htk]; exact List.mem_append_left _ h4
theorem Wst.done (h : Wst P P.length 0 f) (hP : Pgd n P) : Whr P n f := fun u hu => by
  rcases h.is u with ⟨h1, h2⟩ | ⟨j, hj, h1, h2⟩
  · obtain ⟨p, hp, hup⟩ := hP.all u hu
    obtain ⟨j, hj, rfl⟩ := List.getElem_of_mem hp
    exact absurd hup ((h2 j hj).1 hj)
  · rcases h2 with ⟨_, h3⟩ | ⟨h3, _⟩
    · exact ⟨j, hj, h3, h1⟩
    · omega
end

-- where's memory
def outC (n : Nat) (f : Nat → Int) : List Value := (List.range n).map fun u => .int .i64 (f u)
theorem outC_len (n : Nat) (f : Nat → Int) : (outC n f).length = n := by simp [outC]
theorem outC_at {n : Nat} {f : Nat → Int} {u : Nat} (hu : u < n) : (outC n f)[u]? = some (.int .i64 (f u)) := by simp [outC, hu]
theorem outC_congr {n : Nat} {f g : Nat → Int} (h : ∀ u, u < n → f u = g u) : outC n f = outC n g := List.map_congr_left (fun u hu => by rw [h u (List.mem_range.1 hu)])
theorem outC_zero (n : Nat) : List.replicate n (Value.int .i64 0) = outC n (fun _ => 0) := by
  apply List.ext_getElem <;> simp [outC]
theorem outC_set {n : Nat} {f : Nat → Int} {v : Nat} (x : Int) : (outC n f).set v (.int .i64 x) = outC n (fun u => if u = v then x else f u) := by
  apply List.ext_getElem
  · simp [outC]
  · intro j h1 h2
    rw [List.getElem_set]
    simp only [outC, List.getElem_map, List.getElem_range]
    by_cases e : v = j
    · subst e; simp
    · have : ¬ j = v := fun h => e h.symm
      rw [if_neg e, if_neg this]
theorem outC_row {w : World} {g n : Nat} {f : Nat → Int} {c : Nat} (h : Blk w g 3 (outC n f)) : RI w (.slice (some ⟨g, 0, none⟩) n c) ((List.range n).map f) := by
  have e : outC n f = ints ((List.range n).map f) := by unfold outC ints; rw [List.map_map]; rfl
  have := Rw.ints (ks := (List.range n).map f) (cap := c) (h.cast e)
  rwa [List.length_map, List.length_range] at this

end Go.Proofs.Ytmgkoocpnakanaa.W
