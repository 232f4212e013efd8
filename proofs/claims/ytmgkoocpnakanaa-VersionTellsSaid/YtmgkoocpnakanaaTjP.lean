/-
  Tarjan's algorithm without recursion as a machine over plain words, and what it keeps. No program.
-/
namespace Go.Proofs.Ytmgkoocpnakanaa.Tj
set_option linter.unusedVariables false

/-- u leads to x by arcs -/
inductive Rch (nx : Nat → List Nat) : Nat → Nat → Prop where
  | refl (u : Nat) : Rch nx u u
  | tail {u v x : Nat} : Rch nx u v → x ∈ nx v → Rch nx u x

theorem Rch.trans {nx : Nat → List Nat} {u v x : Nat} (h : Rch nx u v) (k : Rch nx v x) : Rch nx u x := by
  induction k with
  | refl => exact h
  | tail _ hm ih => exact ih.tail hm

theorem Rch.one {nx : Nat → List Nat} {u x : Nat} (h : x ∈ nx u) : Rch nx u x := (Rch.refl u).tail h

def upd (f : Nat → Nat) (v x : Nat) : Nat → Nat := fun u => if u = v then x else f u

@[grind =] theorem upd_eq (f : Nat → Nat) (v x u : Nat) : upd f v x u = if u = v then x else f u := rfl

structure Ts where
  cnt : Nat
  np : Nat
  idx : Nat → Nat
  low : Nat → Nat
  prt : Nat → Nat
  stk : List Nat
  calls : List (Nat × Nat)

def enter (s : Ts) (w : Nat) (c : List (Nat × Nat)) : Ts :=
  { s with cnt := s.cnt + 1, idx := upd s.idx w (s.cnt + 1), low := upd s.low w (s.cnt + 1), stk := w :: s.stk, calls := (w, 0) :: c }

/-- what lies above v, and v, goes to a new part -/
def above (s : Ts) (v : Nat) : List Nat := s.stk.takeWhile (· != v) ++ [v]
def below (s : Ts) (v : Nat) : List Nat := (s.stk.dropWhile (· != v)).tail
def close (s : Ts) (v : Nat) : Ts :=
  { s with np := s.np + 1, prt := fun u => if u ∈ above s v then s.np + 1 else s.prt u, stk := below s v }

def lowUp (s : Ts) (v : Nat) : List (Nat × Nat) → Nat → Nat
  | [] => s.low
  | (u, _) :: _ => upd s.low u (min (s.low u) (s.low v))

def step (nx : Nat → List Nat) (s : Ts) : Ts :=
  match s.calls with
  | [] => s
  | (v, i) :: rest =>
    match (nx v)[i]? with
    | some w =>
      if s.idx w = 0 then enter s w ((v, i + 1) :: rest)
      else if s.prt w = 0 then { s with low := upd s.low v (min (s.low v) (s.idx w)), calls := (v, i + 1) :: rest }
      else { s with calls := (v, i + 1) :: rest }
    | none =>
      let t : Ts := { s with calls := rest, low := lowUp s v rest }
      if t.low v = t.idx v then close t v else t

/-- an arc that has been looked at -/
def Ex (nx : Nat → List Nat) (s : Ts) (u x : Nat) : Prop := s.idx u ≠ 0 ∧ x ∈ nx u ∧ ∀ i, (u, i) ∈ s.calls → x ∈ (nx u).take i

structure Inv (n : Nat) (nx : Nat → List Nat) (s : Ts) : Prop where
  on : ∀ u, u ∈ s.stk ↔ (s.idx u ≠ 0 ∧ s.prt u = 0)
  lt : ∀ u, s.idx u ≠ 0 → u < n
  cl : ∀ u, s.prt u ≠ 0 → s.idx u ≠ 0
  np : ∀ u, s.prt u ≤ s.np
  full : ∀ k, k < s.np → ∃ u, s.prt u = k + 1
  cnt : ∀ u, s.idx u ≤ s.cnt
  dec : s.stk.Pairwise (fun a b => s.idx b < s.idx a)
  cdec : s.calls.Pairwise (fun a b => s.idx b.1 < s.idx a.1)
  con : ∀ v i, (v, i) ∈ s.calls → v ∈ s.stk ∧ i ≤ (nx v).length
  ex : ∀ u x, Ex nx s u x → s.idx x ≠ 0
  clo : ∀ u, s.prt u ≠ 0 → ∀ x, x ∈ nx u → s.prt x ≠ 0 ∧ s.prt x ≤ s.prt u
  par : ∀ u x, s.prt u ≠ 0 → s.prt u = s.prt x → Rch nx u x
  lowr : ∀ u, u ∈ s.stk → ∃ x, x ∈ s.stk ∧ s.idx x = s.low u ∧ s.low u ≤ s.idx u ∧ Rch nx u x
  fin : ∀ u, u ∈ s.stk → (∀ i, (u, i) ∉ s.calls) → s.low u < s.idx u
  arc : ∀ u x, u ∈ s.stk → Ex nx s u x → x ∈ s.stk → s.low u ≤ s.idx x
  own : ∀ v i, (v, i) ∈ s.calls → ∀ u, u ∈ s.stk → s.idx v ≤ s.idx u → (∀ d j, (d, j) ∈ s.calls → s.idx d ≤ s.idx u → s.idx d ≤ s.idx v) → s.low v ≤ s.low u
  desc : ∀ v i, (v, i) ∈ s.calls → ∀ u, u ∈ s.stk → s.idx v ≤ s.idx u → Rch nx v u
  bot : ∀ u, u ∈ s.stk → ∃ v i, (v, i) ∈ s.calls ∧ s.idx v ≤ s.idx u

theorem inj_of_dec {f : Nat → Nat} {l : List Nat} (h : l.Pairwise (fun a b => f b < f a)) {a b : Nat} (ha : a ∈ l) (hb : b ∈ l) (e : f a = f b) : a = b := by
  induction h with
  | nil => cases ha
  | cons hx _ ih =>
    rcases List.mem_cons.1 ha with rfl | ha' <;> rcases List.mem_cons.1 hb with rfl | hb'
    · rfl
    · have := hx _ hb'; omega
    · have := hx _ ha'; omega
    · exact ih ha' hb'

theorem Inv.inj {n : Nat} {nx : Nat → List Nat} {s : Ts} (h : Inv n nx s) {a b : Nat} (ha : a ∈ s.stk) (hb : b ∈ s.stk) (e : s.idx a = s.idx b) : a = b := inj_of_dec h.dec ha hb e

theorem calls_one {f : Nat → Nat} {l : List (Nat × Nat)} (h : l.Pairwise (fun a b => f b.1 < f a.1)) {v i j : Nat} (ha : (v, i) ∈ l) (hb : (v, j) ∈ l) : i = j := by
  induction h with
  | nil => cases ha
  | cons hx _ ih =>
    rcases List.mem_cons.1 ha with e | ha' <;> rcases List.mem_cons.1 hb with e' | hb'
    · cases e; cases e'; rfl
    · have := hx _ hb'; subst e; simp at this
    · have := hx _ ha'; subst e'; simp at this
    · exact ih ha' hb'

theorem init_inv (n : Nat) (nx : Nat → List Nat) : Inv n nx ⟨0, 0, fun _ => 0, fun _ => 0, fun _ => 0, [], []⟩ := by
  constructor <;> simp [Ex]

/-- entering a node that is new: from the call on top, or as a root -/
theorem enter_inv {n : Nat} {nx : Nat → List Nat} {s : Ts} (h : Inv n nx s) {w : Nat} (hw : w < n) (h0 : s.idx w = 0) {c : List (Nat × Nat)}
    (hc : (c = [] ∧ s.calls = []) ∨ ∃ v i rest, s.calls = (v, i) :: rest ∧ c = (v, i + 1) :: rest ∧ (nx v)[i]? = some w) : Inv n nx (enter s w c) := by
  have hns : w ∉ s.stk := fun hm => ((h.on w).1 hm).1 h0
  have hnp : s.prt w = 0 := by
    rcases Nat.eq_zero_or_pos (s.prt w) with e | e
    · exact e
    · exact absurd h0 (h.cl w (by omega))
  -- the calls of c are those of s but for the top's position
  have hcin : ∀ v i, (v, i) ∈ c → ∃ j, (v, j) ∈ s.calls := by
    rcases hc with ⟨rfl, _⟩ | ⟨v, i, rest, hs, rfl, _⟩
    · intro v i hm; cases hm
    · intro a j hm
      rcases List.mem_cons.1 hm with e | hm
      · cases e; exact ⟨i, by rw [hs]; exact List.mem_cons_self⟩
      · exact ⟨j, by rw [hs]; exact List.mem_cons_of_mem _ hm⟩
  have hcback : ∀ v i, (v, i) ∈ s.calls → ∃ j, (v, j) ∈ c := by
    rcases hc with ⟨rfl, e⟩ | ⟨v, i, rest, hs, rfl, _⟩
    · intro v i hm; rw [e] at hm; cases hm
    · intro a j hm
      rw [hs] at hm
      rcases List.mem_cons.1 hm with e | hm
      · cases e; exact ⟨_, List.mem_cons_self⟩
      · exact ⟨j, List.mem_cons_of_mem _ hm⟩
  have hcw : ∀ i, (w, i) ∉ c := fun i hm => by
    obtain ⟨j, hj⟩ := hcin _ _ hm
    exact hns (h.con _ _ hj).1
  have hidx : ∀ u, u ≠ w → (enter s w c).idx u = s.idx u := fun u hu => by simp [enter, upd, hu]
  have hidw : (enter s w c).idx w = s.cnt + 1 := by simp [enter, upd]
  have hlow : ∀ u, u ≠ w → (enter s w c).low u = s.low u := fun u hu => by simp [enter, upd, hu]
  have hlww : (enter s w c).low w = s.cnt + 1 := by simp [enter, upd]
  have hstk : ∀ u, u ∈ (enter s w c).stk ↔ u = w ∨ u ∈ s.stk := fun u => by simp [enter]
  have hcal : ∀ v i, (v, i) ∈ (enter s w c).calls ↔ (v = w ∧ i = 0) ∨ (v, i) ∈ c := fun v i => by simp [enter]
  have hprt : (enter s w c).prt = s.prt := rfl
  have hne : ∀ u, u ∈ s.stk → u ≠ w := fun u hu e => hns (e ▸ hu)
  have hcne : ∀ v i, (v, i) ∈ c → v ≠ w := fun v i hm e => hcw i (e ▸ hm)
  have hcnt := h.cnt
  -- looked at: as before, or the arc to w
  have hex : ∀ u x, Ex nx (enter s w c) u x → u ≠ w ∧ (Ex nx s u x ∨ (∃ i, (u, i) ∈ s.calls) ∧ x = w) := by
    intro u x ⟨h1, h2, h3⟩
    have huw : u ≠ w := fun e => by
      subst e
      have := h3 0 ((hcal _ _).2 (.inl ⟨rfl, rfl⟩))
      simp at this
    refine ⟨huw, ?_⟩
    rw [hidx u huw] at h1
    rcases hc with ⟨rfl, e⟩ | ⟨v, i, rest, hs, rfl, hi⟩
    · exact .inl ⟨h1, h2, fun j hj => by rw [e] at hj; cases hj⟩
    · by_cases huv : u = v
      · subst huv
        have hx := h3 (i + 1) ((hcal _ _).2 (.inr List.mem_cons_self))
        rw [List.take_add_one, hi] at hx
        rcases List.mem_append.1 hx with hx | hx
        · refine .inl ⟨h1, h2, fun j hj => ?_⟩
          have : j = i := calls_one h.cdec hj (by rw [hs]; exact List.mem_cons_self)
          exact this ▸ hx
        · exact .inr ⟨⟨i, by rw [hs]; exact List.mem_cons_self⟩, by simpa using hx⟩
      · refine .inl ⟨h1, h2, fun j hj => h3 j ((hcal _ _).2 (.inr ?_))⟩
        rw [hs] at hj
        rcases List.mem_cons.1 hj with e | hj
        · cases e; exact absurd rfl huv
        · exact List.mem_cons_of_mem _ hj
  constructor
  · intro u
    rw [hstk, hprt]
    by_cases e : u = w
    · subst e; simp [hidw, hnp]
    · rw [hidx u e, ← h.on u]; simp [e]
  · intro u hu
    by_cases e : u = w
    · exact e ▸ hw
    · rw [hidx u e] at hu; exact h.lt u hu
  · intro u hu
    by_cases e : u = w
    · subst e; omega
    · rw [hidx u e]; exact h.cl u hu
  · exact h.np
  · exact h.full
  · intro u
    have : (enter s w c).cnt = s.cnt + 1 := rfl
    by_cases e : u = w
    · subst e; omega
    · rw [hidx u e]; have := hcnt u; omega
  · refine List.pairwise_cons.2 ⟨fun u hu => ?_, h.dec.imp_of_mem (fun {a b} ha hb hab => ?_)⟩
    · rw [hidw, hidx u (hne u hu)]; have := hcnt u; omega
    · rw [hidx a (hne a ha), hidx b (hne b hb)]; exact hab
  · refine List.pairwise_cons.2 ⟨fun u hu => ?_, ?_⟩
    · have := hcnt u.1
      rw [hidx u.1 (hcne _ _ hu)]; show _ < (enter s w c).idx w; omega
    · have hp : c.Pairwise (fun a b => s.idx b.1 < s.idx a.1) := by
        rcases hc with ⟨rfl, e⟩ | ⟨v, i, rest, hs, rfl, hi⟩
        · exact List.Pairwise.nil
        · have := h.cdec
          rw [hs] at this
          obtain ⟨h1, h2⟩ := List.pairwise_cons.1 this
          exact List.pairwise_cons.2 ⟨h1, h2⟩
      exact hp.imp_of_mem (fun {a b} ha hb hab => by rw [hidx _ (hcne _ _ ha), hidx _ (hcne _ _ hb)]; exact hab)
  · intro v i hm
    rcases (hcal _ _).1 hm with ⟨rfl, rfl⟩ | hm
    · exact ⟨(hstk _).2 (.inl rfl), Nat.zero_le _⟩
    · refine ⟨(hstk _).2 (.inr ?_), ?_⟩
      · obtain ⟨j, hj⟩ := hcin _ _ hm; exact (h.con _ _ hj).1
      · rcases hc with ⟨rfl, e⟩ | ⟨a, j, rest, hs, rfl, hi⟩
        · cases hm
        · rcases List.mem_cons.1 hm with e | hm
          · cases e; have := (List.getElem?_eq_some_iff.1 hi).1; omega
          · exact (h.con v i (by rw [hs]; exact List.mem_cons_of_mem _ hm)).2
  · intro u x hx
    by_cases e : x = w
    · subst e; omega
    · rw [hidx x e]
      obtain ⟨_, h1 | ⟨_, h1⟩⟩ := hex u x hx
      · exact h.ex u x h1
      · exact absurd h1 e
  · exact h.clo
  · exact h.par
  · intro u hu
    rcases (hstk u).1 hu with rfl | hu
    · exact ⟨u, (hstk u).2 (.inl rfl), by rw [hidw, hlww], by rw [hidw, hlww]; exact Nat.le_refl _, .refl u⟩
    · obtain ⟨x, h1, h2, h3, h4⟩ := h.lowr u hu
      exact ⟨x, (hstk x).2 (.inr h1), by rw [hidx x (hne x h1), hlow u (hne u hu)]; exact h2, by rw [hidx u (hne u hu), hlow u (hne u hu)]; exact h3, h4⟩
  · intro u hu hn
    rcases (hstk u).1 hu with rfl | hu
    · exact absurd ((hcal u 0).2 (.inl ⟨rfl, rfl⟩)) (hn 0)
    · rw [hidx u (hne u hu), hlow u (hne u hu)]
      refine h.fin u hu (fun i hi => ?_)
      obtain ⟨j, hj⟩ := hcback _ _ hi
      exact hn j ((hcal _ _).2 (.inr hj))
  · intro u x hu he hx
    obtain ⟨huw, h1⟩ := hex u x he
    have hu' : u ∈ s.stk := by rcases (hstk u).1 hu with e | e; exact absurd e huw; exact e
    rw [hlow u huw]
    have hlu : s.low u ≤ s.idx u := by obtain ⟨_, _, _, h3, _⟩ := h.lowr u hu'; exact h3
    by_cases e : x = w
    · subst e; rw [hidw]; have := hcnt u; omega
    · rw [hidx x e]
      rcases h1 with h1 | ⟨_, h1⟩
      · exact h.arc u x hu' h1 (by rcases (hstk x).1 hx with e' | e'; exact absurd e' e; exact e')
      · exact absurd h1 e
  · intro v i hv u hu hle hmax
    rcases (hstk u).1 hu with rfl | hu
    · -- u is the new node: its owner is itself
      have := hmax u 0 ((hcal _ _).2 (.inl ⟨rfl, rfl⟩)) (Nat.le_refl _)
      have e : v = u := by
        rcases (hcal _ _).1 hv with ⟨e, _⟩ | hm
        · exact e
        · rw [hidw, hidx v (hcne _ _ hm)] at this
          have := hcnt v; omega
      subst e; exact Nat.le_refl _
    · rcases (hcal _ _).1 hv with ⟨e, _⟩ | hm
      · rw [e, hidw, hidx u (hne u hu)] at hle; have := hcnt u; omega
      · obtain ⟨j, hj⟩ := hcin _ _ hm
        have hvw := hcne _ _ hm
        rw [hidx v hvw, hidx u (hne u hu)] at hle
        rw [hlow v hvw, hlow u (hne u hu)]
        refine h.own v j hj u hu hle (fun d k hd hdu => ?_)
        obtain ⟨k', hk'⟩ := hcback _ _ hd
        have hdw := hcne _ _ hk'
        have := hmax d k' ((hcal _ _).2 (.inr hk')) (by rw [hidx d hdw, hidx u (hne u hu)]; exact hdu)
        rwa [hidx d hdw, hidx v hvw] at this
  · intro v i hv u hu hle
    rcases (hcal _ _).1 hv with ⟨rfl, rfl⟩ | hm
    · rcases (hstk u).1 hu with rfl | hu
      · exact .refl _
      · rw [hidw, hidx u (hne u hu)] at hle; have := hcnt u; omega
    · have hvw := hcne _ _ hm
      obtain ⟨j, hj⟩ := hcin _ _ hm
      rcases (hstk u).1 hu with rfl | hu
      · -- v leads to the call on top, which leads to the new node
        rcases hc with ⟨rfl, e⟩ | ⟨a, k, rest, hs, rfl, hi⟩
        · cases hm
        · have ha : (a, k) ∈ s.calls := by rw [hs]; exact List.mem_cons_self
          have hle' : s.idx v ≤ s.idx a := by
            have hp := h.cdec
            rw [hs] at hp hj
            rcases List.mem_cons.1 hj with e | hj'
            · cases e; exact Nat.le_refl _
            · exact Nat.le_of_lt ((List.pairwise_cons.1 hp).1 _ hj')
          exact (h.desc v j hj a (h.con _ _ ha).1 hle').tail (List.mem_of_getElem? hi)
      · rw [hidx v hvw, hidx u (hne u hu)] at hle
        exact h.desc v j hj u hu hle
  · intro u hu
    rcases (hstk u).1 hu with rfl | hu
    · exact ⟨u, 0, (hcal _ _).2 (.inl ⟨rfl, rfl⟩), Nat.le_refl _⟩
    · obtain ⟨v, i, hv, hle⟩ := h.bot u hu
      obtain ⟨j, hj⟩ := hcback _ _ hv
      exact ⟨v, j, (hcal _ _).2 (.inr hj), by rw [hidx v (hcne _ _ hj), hidx u (hne u hu)]; exact hle⟩

/-- the calls behind a step that stays: the top's position goes on -/
theorem stay_inv {n : Nat} {nx : Nat → List Nat} {s : Ts} (h : Inv n nx s) {v i : Nat} {rest : List (Nat × Nat)} (hs : s.calls = (v, i) :: rest) {w : Nat} (hi : (nx v)[i]? = some w) (hw : s.idx w ≠ 0)
    {m : Nat} (hm : m ≤ s.low v) (hmw : w ∈ s.stk → m ≤ s.idx w) (hx : ∃ x, x ∈ s.stk ∧ s.idx x = m ∧ Rch nx v x) :
    Inv n nx { s with low := upd s.low v m, calls := (v, i + 1) :: rest } := by
  have hvi : (v, i) ∈ s.calls := by rw [hs]; exact List.mem_cons_self
  have hcin : ∀ u j, (u, j) ∈ (v, i + 1) :: rest → ∃ k, (u, k) ∈ s.calls := by
    intro u j hm
    rcases List.mem_cons.1 hm with e | hm
    · cases e; exact ⟨i, hvi⟩
    · exact ⟨j, by rw [hs]; exact List.mem_cons_of_mem _ hm⟩
  have hcback : ∀ u j, (u, j) ∈ s.calls → ∃ k, (u, k) ∈ (v, i + 1) :: rest := by
    intro u j hm
    rw [hs] at hm
    rcases List.mem_cons.1 hm with e | hm
    · cases e; exact ⟨i + 1, List.mem_cons_self⟩
    · exact ⟨j, List.mem_cons_of_mem _ hm⟩
  have hlow : ∀ u, upd s.low v m u ≤ s.low u := fun u => by
    unfold upd; split
    · rename_i e; subst e; exact hm
    · exact Nat.le_refl _
  have hlv : upd s.low v m v = m := by simp [upd]
  have hln : ∀ u, u ≠ v → upd s.low v m u = s.low u := fun u hu => by simp [upd, hu]
  have hex : ∀ u x, Ex nx { s with low := upd s.low v m, calls := (v, i + 1) :: rest } u x → Ex nx s u x ∨ (u = v ∧ x = w) := by
    intro u x ⟨h1, h2, h3⟩
    by_cases huv : u = v
    · subst huv
      have hx := h3 (i + 1) List.mem_cons_self
      rw [List.take_add_one, hi] at hx
      rcases List.mem_append.1 hx with hx | hx
      · refine .inl ⟨h1, h2, fun j hj => ?_⟩
        have : j = i := calls_one h.cdec hj hvi
        exact this ▸ hx
      · exact .inr ⟨rfl, by simpa using hx⟩
    · refine .inl ⟨h1, h2, fun j hj => h3 j ?_⟩
      rw [hs] at hj
      rcases List.mem_cons.1 hj with e | hj
      · cases e; exact absurd rfl huv
      · exact List.mem_cons_of_mem _ hj
  refine ⟨h.on, h.lt, h.cl, h.np, h.full, h.cnt, h.dec, ?_, ?_, ?_, h.clo, h.par, ?_, ?_, ?_, ?_, ?_, ?_⟩
  · have hp := h.cdec
    rw [hs] at hp
    obtain ⟨h1, h2⟩ := List.pairwise_cons.1 hp
    exact List.pairwise_cons.2 ⟨h1, h2⟩
  · intro u j hm'
    rcases List.mem_cons.1 hm' with e | hm'
    · cases e
      exact ⟨(h.con _ _ hvi).1, by have := (List.getElem?_eq_some_iff.1 hi).1; omega⟩
    · exact h.con u j (by rw [hs]; exact List.mem_cons_of_mem _ hm')
  · intro u x he
    rcases hex u x he with he | ⟨_, rfl⟩
    · exact h.ex u x he
    · exact hw
  · intro u hu
    by_cases e : u = v
    · subst e
      obtain ⟨x, h1, h2, h3⟩ := hx
      obtain ⟨_, _, _, h4, _⟩ := h.lowr u hu
      exact ⟨x, h1, h2.trans hlv.symm, Nat.le_trans (Nat.le_of_eq hlv) (Nat.le_trans hm h4), h3⟩
    · obtain ⟨x, h1, h2, h3, h4⟩ := h.lowr u hu
      exact ⟨x, h1, h2.trans (hln u e).symm, Nat.le_trans (Nat.le_of_eq (hln u e)) h3, h4⟩
  · intro u hu hn
    refine Nat.lt_of_le_of_lt (hlow u) (h.fin u hu (fun j hj => ?_))
    obtain ⟨k, hk⟩ := hcback _ _ hj
    exact hn k hk
  · intro u x hu he hxs
    rcases hex u x he with he | ⟨rfl, rfl⟩
    · exact Nat.le_trans (hlow u) (h.arc u x hu he hxs)
    · show upd s.low u m u ≤ _
      rw [hlv]; exact hmw hxs
  · intro a j ha u hu hle hmax
    obtain ⟨k, hk⟩ := hcin _ _ ha
    by_cases e : u = v
    · subst e
      obtain ⟨k', hk'⟩ := hcback _ _ hvi
      have e2 : s.idx a = s.idx u := Nat.le_antisymm hle (hmax u k' hk' (Nat.le_refl _))
      rw [h.inj (h.con _ _ hk).1 hu e2]; exact Nat.le_refl _
    · have := h.own a k hk u hu hle (fun d l hd hdu => by obtain ⟨l', hl'⟩ := hcback _ _ hd; exact hmax d l' hl' hdu)
      show upd s.low v m a ≤ upd s.low v m u
      rw [hln u e]
      exact Nat.le_trans (hlow a) this
  · intro a j ha u hu hle
    obtain ⟨k, hk⟩ := hcin _ _ ha
    exact h.desc a k hk u hu hle
  · intro u hu
    obtain ⟨a, j, ha, hle⟩ := h.bot u hu
    obtain ⟨k, hk⟩ := hcback _ _ ha
    exact ⟨a, k, hk, hle⟩

/-- what the call on top leaves to the one below it -/
structure Top (nx : Nat → List Nat) (s : Ts) (v i : Nat) (rest : List (Nat × Nat)) : Prop where
  is : s.calls = (v, i) :: rest
  all : (nx v)[i]? = none

section ret
variable {n : Nat} {nx : Nat → List Nat} {s : Ts}

theorem low_le (h : Inv n nx s) {u : Nat} (hu : u ∈ s.stk) : s.low u ≤ s.idx u := by
  obtain ⟨_, _, _, h3, _⟩ := h.lowr u hu; exact h3

theorem top_gt (h : Inv n nx s) {v i : Nat} {rest : List (Nat × Nat)} (hs : s.calls = (v, i) :: rest) {u j : Nat} (hu : (u, j) ∈ rest) : s.idx u < s.idx v := by
  have hp := h.cdec
  rw [hs] at hp
  exact (List.pairwise_cons.1 hp).1 _ hu

/-- the owner of what lies above the call on top is that call -/
theorem own_top (h : Inv n nx s) {v i : Nat} {rest : List (Nat × Nat)} (hs : s.calls = (v, i) :: rest) {u : Nat} (hu : u ∈ s.stk) (hle : s.idx v ≤ s.idx u) : s.low v ≤ s.low u := by
  refine h.own v i (by rw [hs]; exact List.mem_cons_self) u hu hle (fun d j hd _ => ?_)
  rw [hs] at hd
  rcases List.mem_cons.1 hd with e | hd
  · cases e; exact Nat.le_refl _
  · exact Nat.le_of_lt (top_gt h hs hd)

/-- everything above the call on top leads to it, if its low is its own index -/
theorem up_reach (h : Inv n nx s) {v i : Nat} {rest : List (Nat × Nat)} (hs : s.calls = (v, i) :: rest) (hl : s.low v = s.idx v) : ∀ (k u : Nat), s.idx u ≤ k → u ∈ s.stk → s.idx v ≤ s.idx u → Rch nx u v
  | 0, u, hk, hu, hle => by
    have := ((h.on u).1 hu).1; omega
  | k + 1, u, hk, hu, hle => by
    by_cases e : u = v
    · exact e ▸ .refl _
    · have hv := (h.con v i (by rw [hs]; exact List.mem_cons_self)).1
      have hlt : s.idx v < s.idx u := by
        rcases Nat.lt_or_eq_of_le hle with h1 | h1
        · exact h1
        · exact absurd (h.inj hv hu h1).symm e
      have hf := h.fin u hu (fun j hj => by
        rw [hs] at hj
        rcases List.mem_cons.1 hj with e' | hj
        · cases e'; exact e rfl
        · have := top_gt h hs hj; omega)
      obtain ⟨x, h1, h2, _, h4⟩ := h.lowr u hu
      have := own_top h hs hu hle
      exact h4.trans (up_reach h hs hl k x (by omega) h1 (by omega))

theorem lowUp_le (v : Nat) (rest : List (Nat × Nat)) (u : Nat) : lowUp s v rest u ≤ s.low u := by
  cases rest with
  | nil => exact Nat.le_refl _
  | cons c r => simp only [lowUp, upd]; split <;> first | (subst_vars; exact Nat.min_le_left _ _) | exact Nat.le_refl _

theorem lowUp_ne {v : Nat} {rest : List (Nat × Nat)} {u : Nat} (hu : ∀ j, (u, j) ∉ rest) : lowUp s v rest u = s.low u := by
  cases rest with
  | nil => rfl
  | cons c r =>
    have : u ≠ c.1 := fun e => hu c.2 (by rw [e]; exact List.mem_cons_self)
    simp [lowUp, upd, this]

/-- looked at, behind the return: as before, or an arc of the node that returns -/
theorem ex_ret (h : Inv n nx s) {v i : Nat} {rest : List (Nat × Nat)} (t : Top nx s v i rest) {t' : Ts} {u x : Nat} (he : Ex nx t' u x) (hx : t'.idx = s.idx) (hc : t'.calls = rest) : Ex nx s u x := by
  obtain ⟨h1, h2, h3⟩ := he
  refine ⟨by rwa [hx] at h1, h2, fun j hj => ?_⟩
  rw [t.is] at hj
  rcases List.mem_cons.1 hj with e | hj
  · cases e
    have := List.getElem?_eq_none_iff.1 t.all
    rw [List.take_of_length_le this]; exact h2
  · exact h3 j (by rw [hc]; exact hj)

/-- the call on top returns and its node stays on the stack -/
theorem leave_inv (h : Inv n nx s) {v i : Nat} {rest : List (Nat × Nat)} (t : Top nx s v i rest) (hl : s.low v ≠ s.idx v) : Inv n nx { s with calls := rest, low := lowUp s v rest } := by
  have hvi : (v, i) ∈ s.calls := by rw [t.is]; exact List.mem_cons_self
  have hv := (h.con v i hvi).1
  have hsub : ∀ u j, (u, j) ∈ rest → (u, j) ∈ s.calls := fun u j hm => by rw [t.is]; exact List.mem_cons_of_mem _ hm
  have hvr : ∀ j, (v, j) ∉ rest := fun j hj => by have := top_gt h t.is hj; omega
  have hlv : s.low v < s.idx v := Nat.lt_of_le_of_ne (low_le h hv) hl
  -- something lies below: the rest is not empty
  obtain ⟨x, hx, hxi, _, hxr⟩ := h.lowr v hv
  obtain ⟨b, j, hb, hble⟩ := h.bot x hx
  have hbr : (b, j) ∈ rest := by
    rw [t.is] at hb
    rcases List.mem_cons.1 hb with e | hb
    · cases e; omega
    · exact hb
  obtain ⟨⟨u, k⟩, r, hr⟩ : ∃ c r, rest = c :: r := by
    cases rest with
    | nil => cases hbr
    | cons c r => exact ⟨c, r, rfl⟩
  have huk : (u, k) ∈ rest := by rw [hr]; exact List.mem_cons_self
  have hus := hsub _ _ huk
  have hu := (h.con u k hus).1
  have huv := top_gt h t.is huk
  have hlu : lowUp s v rest u = min (s.low u) (s.low v) := by rw [hr]; simp [lowUp, upd]
  have hln : ∀ a, a ≠ u → lowUp s v rest a = s.low a := fun a ha => by rw [hr]; simp [lowUp, upd, ha]
  have hle : ∀ a, lowUp s v rest a ≤ s.low a := lowUp_le v rest
  have hru := h.desc u k hus
  have hcd : ∀ a l, (a, l) ∈ rest → s.idx a ≤ s.idx u := fun a l ha => by
    have hp := h.cdec
    rw [t.is, hr] at hp
    rw [hr] at ha
    rcases List.mem_cons.1 ha with e | ha
    · cases e; exact Nat.le_refl _
    · exact Nat.le_of_lt ((List.pairwise_cons.1 (List.pairwise_cons.1 hp).2).1 _ ha)
  refine ⟨h.on, h.lt, h.cl, h.np, h.full, h.cnt, h.dec, ?_, fun a l ha => h.con a l (hsub _ _ ha), fun a x he => h.ex a x (ex_ret h t he rfl rfl), h.clo, h.par, ?_, ?_, ?_, ?_, fun a l ha => h.desc a l (hsub _ _ ha), ?_⟩
  · have hp := h.cdec
    rw [t.is] at hp
    exact (List.pairwise_cons.1 hp).2
  · intro a ha
    obtain ⟨y, h1, h2, h3, h4⟩ := h.lowr a ha
    by_cases e : a = u
    · subst e
      by_cases hmin : s.low a ≤ s.low v
      · exact ⟨y, h1, by show _ = lowUp s v rest a; rw [hlu, Nat.min_eq_left hmin]; exact h2, Nat.le_trans (hle a) h3, h4⟩
      · exact ⟨x, hx, by show _ = lowUp s v rest a; rw [hlu, Nat.min_eq_right (by omega)]; exact hxi, Nat.le_trans (hle a) h3, (hru v hv (by omega)).trans hxr⟩
    · exact ⟨y, h1, by show _ = lowUp s v rest a; rw [hln a e]; exact h2, Nat.le_trans (hle a) h3, h4⟩
  · intro a ha hn
    refine Nat.lt_of_le_of_lt (hle a) ?_
    by_cases e : a = v
    · exact e ▸ hlv
    · refine h.fin a ha (fun l hl => ?_)
      rw [t.is] at hl
      rcases List.mem_cons.1 hl with e' | hl
      · cases e'; exact e rfl
      · exact hn l hl
  · intro a y ha he hy
    exact Nat.le_trans (hle a) (h.arc a y ha (ex_ret h t he rfl rfl) hy)
  · intro a l ha z hz hza hmax
    show lowUp s v rest a ≤ lowUp s v rest z
    have has := hsub _ _ ha
    by_cases hzv : s.idx v ≤ s.idx z
    · -- z was v's: now it is u's
      have hau : a = u := h.inj (h.con _ _ has).1 hu (Nat.le_antisymm (hcd _ _ ha) (hmax u k huk (by show s.idx u ≤ s.idx z; omega)))
      subst hau
      have h1 := own_top h t.is hz hzv
      have : z ≠ a := fun e => by subst e; omega
      rw [hlu, hln z this]
      exact Nat.le_trans (Nat.min_le_right _ _) h1
    · have h1 := h.own a l has z hz hza (fun d m hd hdz => by
        rw [t.is] at hd
        rcases List.mem_cons.1 hd with e | hd
        · cases e; exact absurd hdz hzv
        · exact hmax d m hd hdz)
      by_cases e : z = u
      · subst e
        have : a = z := h.inj (h.con _ _ has).1 hz (Nat.le_antisymm hza (hmax z k huk (Nat.le_refl _)))
        rw [this]; exact Nat.le_refl _
      · rw [hln z e]; exact Nat.le_trans (hle a) h1
  · intro z hz
    obtain ⟨a, l, ha, hle'⟩ := h.bot z hz
    rw [t.is] at ha
    rcases List.mem_cons.1 ha with e | ha
    · cases e
      exact ⟨u, k, huk, by show s.idx u ≤ s.idx z; omega⟩
    · exact ⟨a, l, ha, hle'⟩

theorem mem_take_drop {P : Nat → Bool} {v : Nat} : ∀ {l : List Nat}, v ∈ l → l = (l.takeWhile (· != v) ++ [v]) ++ (l.dropWhile (· != v)).tail
  | [], h => by cases h
  | a :: r, h => by
    by_cases e : a = v
    · subst e; simp
    · have hv : v ∈ r := by rcases List.mem_cons.1 h with e' | h; exact absurd e'.symm e; exact h
      have := mem_take_drop (P := P) hv
      simp only [List.takeWhile_cons, List.dropWhile_cons, bne_iff_ne, ne_eq, e, not_false_eq_true, if_true, List.cons_append]
      exact congrArg (a :: ·) this

theorem split_stk {v : Nat} (hv : v ∈ s.stk) : s.stk = above s v ++ below s v := mem_take_drop (P := fun _ => true) hv

/-- above v lies what has no lesser index -/
theorem mem_above (h : Inv n nx s) {v : Nat} (hv : v ∈ s.stk) {u : Nat} : u ∈ above s v ↔ u ∈ s.stk ∧ s.idx v ≤ s.idx u := by
  have hs := split_stk (s := s) hv
  have hd := h.dec
  rw [hs] at hd
  obtain ⟨h1, h2, h3⟩ := List.pairwise_append.1 hd
  have hva : v ∈ above s v := by simp [above]
  constructor
  · intro hu
    refine ⟨by rw [hs]; exact List.mem_append_left _ hu, ?_⟩
    have h1' : (s.stk.takeWhile (· != v) ++ [v]).Pairwise (fun a b => s.idx b < s.idx a) := h1
    obtain ⟨_, _, h4⟩ := List.pairwise_append.1 h1'
    rcases List.mem_append.1 (show u ∈ s.stk.takeWhile (· != v) ++ [v] from hu) with hu | hu
    · exact Nat.le_of_lt (h4 u hu v (by simp))
    · have : u = v := by simpa using hu
      rw [this]; exact Nat.le_refl _
  · rintro ⟨hu, hle⟩
    rw [hs] at hu
    rcases List.mem_append.1 hu with hu | hu
    · exact hu
    · have := h3 v hva u hu; omega

theorem mem_below (h : Inv n nx s) {v : Nat} (hv : v ∈ s.stk) {u : Nat} : u ∈ below s v ↔ u ∈ s.stk ∧ s.idx u < s.idx v := by
  have hs := split_stk (s := s) hv
  have hd := h.dec
  rw [hs] at hd
  obtain ⟨_, _, h3⟩ := List.pairwise_append.1 hd
  have hva : v ∈ above s v := by simp [above]
  constructor
  · intro hu
    exact ⟨by rw [hs]; exact List.mem_append_right _ hu, h3 v hva u hu⟩
  · rintro ⟨hu, hlt⟩
    have hu' := hu
    rw [hs] at hu
    rcases List.mem_append.1 hu with hu | hu
    · have := ((mem_above h hv).1 hu).2; omega
    · exact hu

/-- the call on top returns and its node and all above it make a part -/
theorem shut_inv (h : Inv n nx s) {v i : Nat} {rest : List (Nat × Nat)} (t : Top nx s v i rest) (hl : s.low v = s.idx v) {lw : Nat → Nat} (hlw : ∀ u, u ∈ s.stk → s.idx u < s.idx v → lw u = s.low u) :
    Inv n nx (close { s with calls := rest, low := lw } v) := by
  have hvi : (v, i) ∈ s.calls := by rw [t.is]; exact List.mem_cons_self
  have hv := (h.con v i hvi).1
  have hsub : ∀ u j, (u, j) ∈ rest → (u, j) ∈ s.calls := fun u j hm => by rw [t.is]; exact List.mem_cons_of_mem _ hm
  have hvr : ∀ j, (v, j) ∉ rest := fun j hj => by have := top_gt h t.is hj; omega
  have hab : ∀ u, u ∈ above { s with calls := rest, low := lw } v ↔ u ∈ s.stk ∧ s.idx v ≤ s.idx u := fun u => mem_above h hv
  have hbe : ∀ u, u ∈ below { s with calls := rest, low := lw } v ↔ u ∈ s.stk ∧ s.idx u < s.idx v := fun u => mem_below h hv
  generalize ho : close { s with calls := rest, low := lw } v = o
  have e1 : o.idx = s.idx := by rw [← ho]; rfl
  have e2 : o.low = lw := by rw [← ho]; rfl
  have e3 : o.calls = rest := by rw [← ho]; rfl
  have e4 : o.np = s.np + 1 := by rw [← ho]; rfl
  have e5 : o.cnt = s.cnt := by rw [← ho]; rfl
  have hstk : ∀ u, u ∈ o.stk ↔ u ∈ s.stk ∧ s.idx u < s.idx v := fun u => by rw [← ho]; exact hbe u
  have hprt : ∀ u, o.prt u = if u ∈ s.stk ∧ s.idx v ≤ s.idx u then s.np + 1 else s.prt u := fun u => by
    rw [← ho]; show (if u ∈ above { s with calls := rest, low := lw } v then s.np + 1 else s.prt u) = _
    simp only [hab]
  have hdec : o.stk.Pairwise (fun a b => s.idx b < s.idx a) := by
    have hd := h.dec
    rw [split_stk (s := s) hv] at hd
    rw [← ho]; exact (List.pairwise_append.1 hd).2.1
  have h0 : ∀ u, u ∈ s.stk → s.prt u = 0 := fun u hu => ((h.on u).1 hu).2
  have hup := up_reach h t.is hl
  have hnp := h.np
  -- a member of the part: what it leads to
  have hsucc : ∀ u, u ∈ s.stk → s.idx v ≤ s.idx u → ∀ x, x ∈ nx u → s.idx x ≠ 0 ∧ (x ∈ s.stk → s.idx v ≤ s.idx x) := by
    intro u hu hle x hx
    have he : Ex nx s u x := by
      refine ⟨((h.on u).1 hu).1, hx, fun j hj => ?_⟩
      rw [t.is] at hj
      rcases List.mem_cons.1 hj with e | hj
      · cases e
        rw [List.take_of_length_le (List.getElem?_eq_none_iff.1 t.all)]; exact hx
      · have := top_gt h t.is hj; omega
    refine ⟨h.ex u x he, fun hxs => ?_⟩
    have h1 := h.arc u x hu he hxs
    have h2 := own_top h t.is hu hle
    omega
  refine ⟨?_, ?_, ?_, ?_, ?_, ?_, ?_, ?_, ?_, ?_, ?_, ?_, ?_, ?_, ?_, ?_, ?_, ?_⟩
  · intro u
    rw [hstk, hprt, e1]
    by_cases hc : u ∈ s.stk ∧ s.idx v ≤ s.idx u
    · rw [if_pos hc]; exact ⟨fun h => by omega, fun h => by omega⟩
    · rw [if_neg hc, ← h.on u]
      exact ⟨fun h => h.1, fun h => ⟨h, by rcases Nat.lt_or_ge (s.idx u) (s.idx v) with h2 | h2; exact h2; exact absurd ⟨h, h2⟩ hc⟩⟩
  · intro u hu; rw [e1] at hu; exact h.lt u hu
  · intro u hu
    rw [e1]; rw [hprt] at hu
    split at hu
    · rename_i hc; exact ((h.on u).1 hc.1).1
    · exact h.cl u hu
  · intro u
    rw [hprt, e4]; have := hnp u; split <;> omega
  · intro k hk
    rw [e4] at hk
    rcases Nat.lt_or_eq_of_le (Nat.le_of_lt_succ hk) with hk | hk
    · obtain ⟨u, hu⟩ := h.full k hk
      refine ⟨u, ?_⟩
      rw [hprt, if_neg (fun hc => by have := h0 u hc.1; omega)]; exact hu
    · exact ⟨v, by rw [hprt, if_pos ⟨hv, Nat.le_refl _⟩, hk]⟩
  · intro u; rw [e1, e5]; exact h.cnt u
  · rw [e1]; exact hdec
  · rw [e1, e3]
    have hp := h.cdec
    rw [t.is] at hp
    exact (List.pairwise_cons.1 hp).2
  · intro a l ha
    rw [e3] at ha
    exact ⟨(hstk a).2 ⟨(h.con a l (hsub _ _ ha)).1, top_gt h t.is ha⟩, (h.con a l (hsub _ _ ha)).2⟩
  · intro u x he
    rw [e1]; exact h.ex u x (ex_ret h t he e1 e3)
  · intro u hu x hx
    rw [hprt] at hu
    by_cases hc : u ∈ s.stk ∧ s.idx v ≤ s.idx u
    · obtain ⟨h1, h2⟩ := hsucc u hc.1 hc.2 x hx
      rw [hprt u, if_pos hc, hprt x]
      by_cases hxs : x ∈ s.stk
      · rw [if_pos ⟨hxs, h2 hxs⟩]; exact ⟨by omega, Nat.le_refl _⟩
      · rw [if_neg (fun hc => hxs hc.1)]
        have : s.prt x ≠ 0 := fun e => hxs ((h.on x).2 ⟨h1, e⟩)
        have := hnp x
        exact ⟨by assumption, by omega⟩
    · rw [if_neg hc] at hu
      obtain ⟨h1, h2⟩ := h.clo u hu x hx
      rw [hprt u, if_neg hc, hprt x, if_neg (fun hc => h1 (h0 x hc.1))]
      exact ⟨h1, h2⟩
  · intro u x hu he
    rw [hprt] at hu
    rw [hprt u, hprt x] at he
    by_cases hc : u ∈ s.stk ∧ s.idx v ≤ s.idx u
    · rw [if_pos hc] at he
      by_cases hcx : x ∈ s.stk ∧ s.idx v ≤ s.idx x
      · exact (hup _ u (Nat.le_refl _) hc.1 hc.2).trans (h.desc v i hvi x hcx.1 hcx.2)
      · rw [if_neg hcx] at he; have := hnp x; omega
    · rw [if_neg hc] at hu he
      by_cases hcx : x ∈ s.stk ∧ s.idx v ≤ s.idx x
      · rw [if_pos hcx] at he; have := hnp u; omega
      · rw [if_neg hcx] at he; exact h.par u x hu he
  · intro u hu
    obtain ⟨h1, h2⟩ := (hstk u).1 hu
    obtain ⟨x, h3, h4, h5, h6⟩ := h.lowr u h1
    rw [e1, e2, hlw u h1 h2]
    exact ⟨x, (hstk x).2 ⟨h3, by omega⟩, h4, h5, h6⟩
  · intro u hu hn
    obtain ⟨h1, h2⟩ := (hstk u).1 hu
    rw [e1, e2, hlw u h1 h2]
    refine h.fin u h1 (fun j hj => ?_)
    rw [t.is] at hj
    rcases List.mem_cons.1 hj with e | hj
    · cases e; omega
    · exact hn j (by rw [e3]; exact hj)
  · intro u x hu he hx
    obtain ⟨h1, h2⟩ := (hstk u).1 hu
    rw [e1, e2, hlw u h1 h2]
    exact h.arc u x h1 (ex_ret h t he e1 e3) ((hstk x).1 hx).1
  · intro a l ha u hu hle hmax
    rw [e3] at ha
    rw [e1] at hle
    obtain ⟨h1, h2⟩ := (hstk u).1 hu
    rw [e2, hlw u h1 h2, hlw a (h.con a l (hsub _ _ ha)).1 (top_gt h t.is ha)]
    refine h.own a l (hsub _ _ ha) u h1 hle (fun d m hd hdu => ?_)
    rw [t.is] at hd
    rcases List.mem_cons.1 hd with e | hd
    · cases e; omega
    · have := hmax d m (by rw [e3]; exact hd) (by rw [e1]; exact hdu)
      rwa [e1] at this
  · intro a l ha u hu hle
    rw [e3] at ha
    rw [e1] at hle
    exact h.desc a l (hsub _ _ ha) u ((hstk u).1 hu).1 hle
  · intro u hu
    obtain ⟨h1, h2⟩ := (hstk u).1 hu
    obtain ⟨a, l, ha, hle⟩ := h.bot u h1
    rw [t.is] at ha
    rcases List.mem_cons.1 ha with e | ha
    · cases e; omega
    · exact ⟨a, l, by rw [e3]; exact ha, by rw [e1]; exact hle⟩

theorem step_push {v i w : Nat} {rest : List (Nat × Nat)} (hs : s.calls = (v, i) :: rest) (hi : (nx v)[i]? = some w) (h0 : s.idx w = 0) : step nx s = enter s w ((v, i + 1) :: rest) := by
  unfold step; rw [hs]; simp only [hi]; rw [if_pos h0]
theorem step_low {v i w : Nat} {rest : List (Nat × Nat)} (hs : s.calls = (v, i) :: rest) (hi : (nx v)[i]? = some w) (h0 : s.idx w ≠ 0) (hp : s.prt w = 0) :
    step nx s = { s with low := upd s.low v (min (s.low v) (s.idx w)), calls := (v, i + 1) :: rest } := by
  unfold step; rw [hs]; simp only [hi]; rw [if_neg h0, if_pos hp]
theorem step_skip {v i w : Nat} {rest : List (Nat × Nat)} (hs : s.calls = (v, i) :: rest) (hi : (nx v)[i]? = some w) (h0 : s.idx w ≠ 0) (hp : s.prt w ≠ 0) :
    step nx s = { s with calls := (v, i + 1) :: rest } := by
  unfold step; rw [hs]; simp only [hi]; rw [if_neg h0, if_neg hp]
theorem step_shut {v i : Nat} {rest : List (Nat × Nat)} (hs : s.calls = (v, i) :: rest) (hi : (nx v)[i]? = none) (hl : lowUp s v rest v = s.idx v) :
    step nx s = close { s with calls := rest, low := lowUp s v rest } v := by
  unfold step; rw [hs]; simp only [hi]; rw [if_pos hl]
theorem step_leave {v i : Nat} {rest : List (Nat × Nat)} (hs : s.calls = (v, i) :: rest) (hi : (nx v)[i]? = none) (hl : lowUp s v rest v ≠ s.idx v) :
    step nx s = { s with calls := rest, low := lowUp s v rest } := by
  unfold step; rw [hs]; simp only [hi]; rw [if_neg hl]

/-- a step keeps the invariant -/
theorem step_inv (hnx : ∀ u x, x ∈ nx u → x < n) (h : Inv n nx s) : Inv n nx (step nx s) := by
  rcases hs : s.calls with _ | ⟨⟨v, i⟩, rest⟩
  · unfold step; rw [hs]; exact h
  · have hvi : (v, i) ∈ s.calls := by rw [hs]; exact List.mem_cons_self
    have hv := (h.con v i hvi).1
    rcases hi : (nx v)[i]? with _ | w
    · have t : Top nx s v i rest := ⟨hs, hi⟩
      have hvr : ∀ j, (v, j) ∉ rest := fun j hj => by have := top_gt h hs hj; omega
      have hlv : lowUp s v rest v = s.low v := lowUp_ne hvr
      by_cases hl : s.low v = s.idx v
      · rw [step_shut hs hi (by rw [hlv]; exact hl)]
        refine shut_inv h t hl (fun u hu hlt => ?_)
        cases rest with
        | nil => rfl
        | cons c r =>
          simp only [lowUp, upd]
          split
          · rename_i e; subst e
            have := low_le h hu
            have := low_le h hv
            exact Nat.min_eq_left (by omega)
          · rfl
      · rw [step_leave hs hi (by rw [hlv]; exact hl)]
        exact leave_inv h t hl
    · have hwn : w < n := hnx v w (List.mem_of_getElem? hi)
      by_cases h0 : s.idx w = 0
      · rw [step_push hs hi h0]
        exact enter_inv h hwn h0 (.inr ⟨v, i, rest, hs, rfl, hi⟩)
      · obtain ⟨x, hx1, hx2, hx3, hx4⟩ := h.lowr v hv
        by_cases hp : s.prt w = 0
        · rw [step_low hs hi h0 hp]
          have hw : w ∈ s.stk := (h.on w).2 ⟨h0, hp⟩
          refine stay_inv h hs hi h0 (Nat.min_le_left _ _) (fun _ => Nat.min_le_right _ _) ?_
          rcases Nat.le_total (s.low v) (s.idx w) with hm | hm
          · exact ⟨x, hx1, by rw [Nat.min_eq_left hm]; exact hx2, hx4⟩
          · exact ⟨w, hw, by rw [Nat.min_eq_right hm], .one (List.mem_of_getElem? hi)⟩
        · rw [step_skip hs hi h0 hp]
          have := stay_inv h hs hi h0 (m := s.low v) (Nat.le_refl _) (fun hw => absurd ((h.on w).1 hw).2 hp) ⟨x, hx1, hx2, hx4⟩
          have e : upd s.low v (s.low v) = s.low := by funext u; simp only [upd]; split <;> simp_all
          rw [e] at this
          exact this

end ret

/-- how many steps may still come -/
def unf (nx : Nat → List Nat) (f : Nat → Nat) : Nat → Nat
  | 0 => 0
  | n + 1 => unf nx f n + if f n = 0 then (nx n).length + 2 else 0
def due (nx : Nat → List Nat) : List (Nat × Nat) → Nat
  | [] => 0
  | (v, i) :: r => ((nx v).length - i + 1) + due nx r
def meas (n : Nat) (nx : Nat → List Nat) (s : Ts) : Nat := unf nx s.idx n + due nx s.calls

theorem unf_upd_out (nx : Nat → List Nat) (f : Nat → Nat) (w x : Nat) : ∀ n, n ≤ w → unf nx (upd f w x) n = unf nx f n
  | 0, _ => rfl
  | n + 1, h => by
    have : upd f w x n = f n := by simp [upd]; omega
    simp only [unf, unf_upd_out nx f w x n (by omega), this]

theorem unf_upd (nx : Nat → List Nat) (f : Nat → Nat) (w x : Nat) (h0 : f w = 0) (hx : x ≠ 0) : ∀ n, w < n → unf nx (upd f w x) n + ((nx w).length + 2) = unf nx f n
  | n + 1, h => by
    by_cases e : w = n
    · subst e
      have h1 : upd f w x w = x := by simp [upd]
      simp only [unf, unf_upd_out nx f w x w (Nat.le_refl _), h1, h0, hx, if_true, if_false]
      omega
    · have h1 : upd f w x n = f n := by
        have : n ≠ w := fun h => e h.symm
        simp [upd, this]
      have := unf_upd nx f w x h0 hx n (by omega)
      simp only [unf, h1]
      omega

section fin
variable {n : Nat} {nx : Nat → List Nat} {s : Ts}

theorem step_meas (hnx : ∀ u x, x ∈ nx u → x < n) (hc : s.calls ≠ []) : meas n nx (step nx s) < meas n nx s := by
  rcases hs : s.calls with _ | ⟨⟨v, i⟩, rest⟩
  · exact absurd hs hc
  · rcases hi : (nx v)[i]? with _ | w
    · by_cases hl : lowUp s v rest v = s.idx v
      · rw [step_shut hs hi hl]
        have e : meas n nx (close { s with calls := rest, low := lowUp s v rest } v) = unf nx s.idx n + due nx rest := rfl
        rw [e]; simp only [meas, hs, due]; omega
      · rw [step_leave hs hi hl]
        simp only [meas, hs, due]; omega
    · have hlt := (List.getElem?_eq_some_iff.1 hi).1
      by_cases h0 : s.idx w = 0
      · rw [step_push hs hi h0]
        have := unf_upd nx s.idx w (s.cnt + 1) h0 (by omega) n (hnx v w (List.mem_of_getElem? hi))
        simp only [meas, enter, hs, due]; omega
      · by_cases hp : s.prt w = 0
        · rw [step_low hs hi h0 hp]
          simp only [meas, hs, due]; omega
        · rw [step_skip hs hi h0 hp]
          simp only [meas, hs, due]; omega

/-- what has been found stays found -/
theorem step_found {u : Nat} (hu : s.idx u ≠ 0) : (step nx s).idx u ≠ 0 := by
  rcases hs : s.calls with _ | ⟨⟨v, i⟩, rest⟩
  · unfold step; rw [hs]; exact hu
  · rcases hi : (nx v)[i]? with _ | w
    · by_cases hl : lowUp s v rest v = s.idx v
      · rw [step_shut hs hi hl]; exact hu
      · rw [step_leave hs hi hl]; exact hu
    · by_cases h0 : s.idx w = 0
      · rw [step_push hs hi h0]
        show upd s.idx w (s.cnt + 1) u ≠ 0
        simp only [upd]; split <;> omega
      · by_cases hp : s.prt w = 0
        · rw [step_low hs hi h0 hp]; exact hu
        · rw [step_skip hs hi h0 hp]; exact hu

theorem clo_reach (h : Inv n nx s) {u x : Nat} (hr : Rch nx u x) (hu : s.prt u ≠ 0) : s.prt x ≠ 0 ∧ s.prt x ≤ s.prt u := by
  induction hr with
  | refl => exact ⟨hu, Nat.le_refl _⟩
  | tail _ hm ih =>
    obtain ⟨h1, h2⟩ := h.clo _ ih.1 _ hm
    exact ⟨h1, by omega⟩

/-- what the parts' numbers say -/
structure Scc (n : Nat) (nx : Nat → List Nat) (np : Nat) (prt : Nat → Nat) : Prop where
  pos : ∀ u, u < n → prt u ≠ 0
  out : ∀ u, n ≤ u → prt u = 0
  le : ∀ u, prt u ≤ np
  full : ∀ k, k < np → ∃ u, prt u = k + 1
  same : ∀ u x, u < n → x < n → (prt u = prt x ↔ Rch nx u x ∧ Rch nx x u)
  arc : ∀ u x, u < n → x ∈ nx u → prt x ≤ prt u

theorem Inv.scc (h : Inv n nx s) (hc : s.calls = []) (ha : ∀ u, u < n → s.idx u ≠ 0) : Scc n nx s.np s.prt := by
  have hst : ∀ u, u ∉ s.stk := fun u hu => by
    obtain ⟨v, i, hv, _⟩ := h.bot u hu
    rw [hc] at hv; cases hv
  have hp : ∀ u, u < n → s.prt u ≠ 0 := fun u hu e => hst u ((h.on u).2 ⟨ha u hu, e⟩)
  refine ⟨hp, fun u hu => ?_, h.np, h.full, fun u x hu hx => ⟨fun e => ⟨h.par u x (hp u hu) e, h.par x u (hp x hx) e.symm⟩, fun ⟨h1, h2⟩ => ?_⟩, fun u x hu hx => (h.clo u (hp u hu) x hx).2⟩
  · rcases Nat.eq_zero_or_pos (s.prt u) with e | e
    · exact e
    · have := h.lt u (h.cl u (by omega)); omega
  · exact Nat.le_antisymm (clo_reach h h2 (hp x hx)).2 (clo_reach h h1 (hp u hu)).2

end fin

end Go.Proofs.Ytmgkoocpnakanaa.Tj
