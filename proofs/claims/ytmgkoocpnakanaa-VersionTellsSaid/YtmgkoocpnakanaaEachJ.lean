/-
  As XEach, told by one fact J of all that has been done: for operations whose values must lie apart. No program.
-/
import Derived.Test.YtmgkoocpnakanaaEach
namespace Go.Proofs.Ytmgkoocpnakanaa.W
open Go.RowKit
set_option linter.unusedVariables false

section
variable {P : Program} {ops : Array Oper} {Q : Exit → Act → World → Prop} {S : World → Prop}

def setD (done : Nat → Bool) (i : Nat) : Nat → Bool := fun j => if j = i then true else done j

/-- one operation of the rest, by itself -/
def StepJ (P : Program) (ops : Array Oper) (Q : Exit → Act → World → Prop) (L : List (Nat × Option Tmp)) (J : (Nat → Bool) → (Nat → Value) → World → Prop) (a0 : Act) (p : Nat × Option Tmp) (o : Oper) : Prop :=
  ∀ done s w, J done s w → done p.1 = false → (∀ j, (o.after.any fun e => e.on == j && Region.binds .any e) = true → done j = true) →
    ∀ K' : Act → World → Prop, Hd (∀ v w', J (setD done p.1) (upd s p.1 v) w' → K' ((foldPut L s a0).put p.2 v) w') → if Region.wanted o (yielded ops (foldPut L s a0).tmps) = true then Oper.wp P o (foldPut L s a0) w K' Q else K' ((foldPut L s a0).put o.dst undef) w
def StepsJ (P : Program) (l : List Oper) (Q : Exit → Act → World → Prop) (L : List (Nat × Option Tmp)) (J : (Nat → Bool) → (Nat → Value) → World → Prop) (a0 : Act) (d : Oper) : List (Nat × Option Tmp) → Prop
  | [] => True
  | p :: r => StepJ P l.toArray Q L J a0 p (l.getD p.1 d) ∧ StepsJ P l Q L J a0 d r
theorem stepsJ_mem {l : List Oper} {L : List (Nat × Option Tmp)} {J : (Nat → Bool) → (Nat → Value) → World → Prop} {a0 : Act} {d : Oper} : ∀ (r : List (Nat × Option Tmp)), StepsJ P l Q L J a0 d r → ∀ p ∈ r, StepJ P l.toArray Q L J a0 p (l.getD p.1 d)
  | q :: r, h, p, hp => by
    rcases List.mem_cons.1 hp with rfl | hp
    · exact h.1
    · exact stepsJ_mem r h.2 p hp

theorem wpAnyH_eachJ {L : List (Nat × Option Tmp)} {J : (Nat → Bool) → (Nat → Value) → World → Prop} {a0 : Act} (apart : apartB L = true) (there : ∀ p ∈ L, p.1 < ops.size) (low : ∀ (j : Nat) (o : Oper), ops[j]? = some o → ∀ e ∈ o.after, e.on < j) (hS : ∀ d s w, J d s w → S w)
    (step : ∀ p ∈ L, ∀ o, ops[p.1]? = some o → StepJ P ops Q L J a0 p o) (fin : ∀ s w, J (fun _ => true) s w → Q .normal (foldPut L s a0) w) :
    ∀ (n : Nat) (listed : Array Bool) (s : Nat → Value) (w : World), listed.size = ops.size → (∀ j, listed.getD j true = false → ∃ d, (j, d) ∈ L) → J (fun j => listed.getD j true) s w → (rest listed L).length ≤ n →
      wpAnyH P .any ops Q S n listed (foldPut L s a0) w := by
  have nope : ∀ (listed : Array Bool), listed.size = ops.size → (∀ j, listed.getD j true = false → ∃ d, (j, d) ∈ L) → Region.ready .any ops listed = [] → ∀ j, listed.getD j true = true := by
    intro listed hsz hL hr
    have : ∀ n j, j ≤ n → listed.getD j true = true := by
      intro n
      induction n with
      | zero =>
        intro j hj
        rcases hg : listed.getD j true with _ | _
        · obtain ⟨d, hd⟩ := hL j hg
          have hlt := there _ hd
          have hm : j ∈ Region.ready .any ops listed := mem_ready.2 ⟨hg, ops[j], Array.getElem?_eq_getElem hlt, fun e he _ => by
            have := low j _ (Array.getElem?_eq_getElem hlt) e he
            omega⟩
          rw [hr] at hm; cases hm
        · rfl
      | succ n ih =>
        intro j hj
        rcases hg : listed.getD j true with _ | _
        · obtain ⟨d, hd⟩ := hL j hg
          have hlt := there _ hd
          have hm : j ∈ Region.ready .any ops listed := mem_ready.2 ⟨hg, ops[j], Array.getElem?_eq_getElem hlt, fun e he _ => by
            have hlo := low j _ (Array.getElem?_eq_getElem hlt) e he
            have h1 := ih e.on (by omega)
            have h2 : e.on < listed.size := by rw [hsz]; have : j < ops.size := hlt; omega
            simpa [Array.getD, h2] using h1⟩
          rw [hr] at hm; cases hm
        · rfl
    exact fun j => this j j (Nat.le_refl _)
  have all : ∀ (listed : Array Bool) s w, (∀ j, listed.getD j true = true) → J (fun j => listed.getD j true) s w → J (fun _ => true) s w := fun listed s w h hJ => by
    have : (fun j => listed.getD j true) = fun _ => true := funext h
    rwa [this] at hJ
  intro n
  induction n with
  | zero =>
    intro listed s w hsz hL hJ hn
    have hall : ∀ j, listed.getD j true = true := by
      intro j
      rcases hg : listed.getD j true with _ | _
      · obtain ⟨d, hd⟩ := hL j hg
        have : (j, d) ∈ rest listed L := List.mem_filter.2 ⟨hd, by rw [hg]; rfl⟩
        rw [List.length_eq_zero_iff.1 (Nat.le_zero.1 hn)] at this
        cases this
      · rfl
    refine ⟨?_, fin s w (all _ _ _ hall hJ)⟩
    apply List.eq_nil_iff_forall_not_mem.2
    intro j hj
    obtain ⟨hg, _⟩ := mem_ready.1 hj
    rw [hall j] at hg; cases hg
  | succ n ih =>
    intro listed s w hsz hL hJ hn
    refine ⟨fun hr => fin s w (all _ _ _ (nope listed hsz hL hr) hJ), fun i hi => ?_⟩
    obtain ⟨hg, o, ho, hdep⟩ := mem_ready.1 hi
    obtain ⟨d, hd⟩ := hL i hg
    have hset : ∀ j, (listed.setIfInBounds i true).getD j true = (if j = i then true else listed.getD j true) := by
      intro j
      simp only [Array.getD_eq_getD_getElem?, Array.getElem?_setIfInBounds]
      by_cases hji : i = j
      · subst hji
        simp
        split <;> rfl
      · rw [if_neg hji, if_neg (fun e => hji e.symm)]
    refine wpOp_step ho (fun K' hK' => step (i, d) hd o ho _ s w hJ hg (fun j hj => ?_) K' ⟨fun v w' h1 => hK' _ _ ⟨hS _ _ _ h1, ?_⟩⟩)
    · rw [← Array.any_toList, List.any_eq_true] at hj
      obtain ⟨e, he, h2⟩ := hj
      simp only [Bool.and_eq_true, beq_iff_eq] at h2
      have he := Array.mem_toList_iff.1 he
      have h1 := hdep e he h2.2
      rw [h2.1] at h1
      rcases Nat.lt_or_ge j listed.size with h' | h'
      · simpa [Array.getD, h'] using h1
      · simp [Array.getD, Nat.not_lt.2 h']
    · rw [← foldPut_upd s v L (i, d) a0 hd apart]
      refine ih _ _ w' (by simpa using hsz) (fun j hj => ?_) ?_ ?_
      · rw [hset] at hj
        split at hj
        · cases hj
        · exact hL j hj
      · have e : (fun j => (listed.setIfInBounds i true).getD j true) = setD (fun j => listed.getD j true) i := funext hset
        rw [e]; exact h1
      · have hlt : (rest (listed.setIfInBounds i true) L).length < (rest listed L).length := by
          have e1 : rest (listed.setIfInBounds i true) L = (rest listed L).filter fun p => !decide (p.1 = i) := by
            unfold rest
            rw [List.filter_filter]
            congr 1
            funext p
            rw [hset]
            by_cases h : p.1 = i <;> simp [h]
          rw [e1]
          rw [List.length_filter_lt_length_iff_exists]
          exact ⟨(i, d), List.mem_filter.2 ⟨hd, by rw [hg]; rfl⟩, by simp⟩
        omega

/-- THE LAW: r: the free operations in their order; L: the others, with their slots; s0: what stands in these slots at first -/
theorem wp_region_eachJ {id : Nat} {a : Act} {w : World} {l : List Oper} (d : Oper) (S : World → Prop) (J : (Nat → Bool) → (Nat → Value) → World → Prop) (r : List Nat) (L : List (Nat × Option Tmp)) (s0 : Nat → Value)
    (hm : P.follows .mixedOrders = true) (hsel : Region.noSelect l.toArray = true) (hn : r.length + L.length = l.length) (hlt : (r.all fun i => decide (i < l.length)) = true)
    (hB : freeB l.toArray L r (Array.replicate l.toArray.size false) = true) (hlow : lowB l.toArray L = true)
    (h0 : J (fun j => !(L.any fun p => p.1 == j)) s0 w.drew) (hSw : S w.drew) (hS : ∀ d s w, J d s w → S w)
    (h : wpFree P l.toArray S (fun a w' => foldPut L s0 a = a ∧ StepsJ P l (NoPanic Q) L J a d L ∧ (∀ s w', J (fun _ => true) s w' → NoPanic Q .normal (foldPut L s a) w')) (r.map fun i => l.getD i d) a w.drew) : (Code.region id l.toArray true).wp P Q a w := by
  simp only [lowB, Bool.and_eq_true, List.all_eq_true, decide_eq_true_eq, List.mem_range] at hlow
  have low : ∀ (j : Nat) (o : Oper), l.toArray[j]? = some o → ∀ e ∈ o.after, e.on < j := fun j o ho e he => by
    have hj : j < l.toArray.size := by
      rcases Nat.lt_or_ge j l.toArray.size with h' | h'
      · exact h'
      · rw [Array.getElem?_eq_none h'] at ho; cases ho
    have := hlow.1.1 j hj
    rw [ho] at this
    simp only [Option.all_some, Array.all_eq_true_iff_forall_mem, decide_eq_true_eq] at this
    exact this e he
  refine wp_region_noPanic (wp_region_held_drew (S := S) hm hSw (fun _ => ?_))
  have := wpAnyH_of_free (P := P) (Q := NoPanic Q) (S := S) (L := L) (l := l) hsel (fun c a w h => h) (d := d) (w := w.drew) hSw L.length (E := fun a w' => foldPut L s0 a = a ∧ StepsJ P l (NoPanic Q) L J a d L ∧ (∀ s w', J (fun _ => true) s w' → NoPanic Q .normal (foldPut L s a) w'))
    (fun listed a hsz hL hU hE => by
      have hd : (fun j => listed.getD j true) = fun j => !(L.any fun p => p.1 == j) := by
        funext j
        rcases hg : listed.getD j true with _ | _
        · obtain ⟨x, hx⟩ := hL j hg
          have : (L.any fun p => p.1 == j) = true := List.any_eq_true.2 ⟨_, hx, by simp⟩
          rw [this]; rfl
        · rcases hc : L.any fun p => p.1 == j with _ | _
          · rfl
          · obtain ⟨p, hp, e⟩ := List.any_eq_true.1 hc
            have e : p.1 = j := by simpa using e
            have := hU p hp
            rw [e, hg] at this; cases this
      have := wpAnyH_eachJ (P := P) (Q := NoPanic Q) (S := S) (ops := l.toArray) (L := L) (J := J) (a0 := a) hlow.2 hlow.1.2 low hS (fun p hp o ho => by
        have e : l.getD p.1 d = o := by
          have h2 : l[p.1]? = some o := by simpa using ho
          rw [List.getD_eq_getElem?_getD, h2]; rfl
        have := stepsJ_mem L hE.2.1 p hp
        rwa [e] at this) hE.2.2 L.length listed s0 w.drew (by simpa using hsz) hL (by rw [hd]; exact h0) (List.length_filter_le _ _)
      rwa [hE.1] at this) r _ a (by simp) hlt hB h
  rw [hn] at this
  simpa using this
end

end Go.Proofs.Ytmgkoocpnakanaa.W
