/-
  A region that draws its order and makes memory or calls at several places that are ready at once: first the free operations in an order that is told, then the rest, each by itself: what an operation's value means (R) must outlast what the others do (K).
-/
import Derived.Test.YtmgkoocpnakanaaOrd
namespace Go.Proofs.Ytmgkoocpnakanaa.W
open Go.RowKit
set_option linter.unusedVariables false

section
variable {P : Program} {ops : Array Oper} {Q : Exit → Act → World → Prop} {S : World → Prop}

def foldPut (L : List (Nat × Option Tmp)) (s : Nat → Value) (a : Act) : Act := L.foldl (fun a p => a.put p.2 (s p.1)) a
def upd (s : Nat → Value) (i : Nat) (v : Value) : Nat → Value := fun j => if j = i then v else s j
def apartB : List (Nat × Option Tmp) → Bool
  | [] => true
  | p :: L => L.all (fun q => decide (p.1 ≠ q.1) && (p.2.isNone || decide (p.2 ≠ q.2))) && apartB L

theorem put_put (a : Act) (d : Option Tmp) (x v : Value) : (a.put d x).put d v = a.put d v := by
  cases d with
  | none => rfl
  | some d => simp [Act.put]

theorem foldPut_put (d : Option Tmp) (v : Value) (s : Nat → Value) : ∀ (L : List (Nat × Option Tmp)) (a : Act), (∀ q ∈ L, d = none ∨ d ≠ q.2) → foldPut L s (a.put d v) = (foldPut L s a).put d v
  | [], a, _ => rfl
  | q :: L, a, h => by
    have hc : (a.put d v).put q.2 (s q.1) = (a.put q.2 (s q.1)).put d v := Act.put_comm a v _ (fun t ht hq => by
      rcases h q (by simp) with h | h
      · rw [h] at ht; cases ht
      · exact h (ht.trans hq.symm))
    show foldPut L s ((a.put d v).put q.2 (s q.1)) = (foldPut L s (a.put q.2 (s q.1))).put d v
    rw [hc]
    exact foldPut_put d v s L _ (fun q hq => h q (List.mem_cons_of_mem _ hq))

theorem foldPut_same {s t : Nat → Value} : ∀ (L : List (Nat × Option Tmp)) (a : Act), (∀ q ∈ L, s q.1 = t q.1) → foldPut L s a = foldPut L t a
  | [], a, _ => rfl
  | q :: L, a, h => by
    show foldPut L s (a.put q.2 (s q.1)) = foldPut L t (a.put q.2 (t q.1))
    rw [h q (by simp)]
    exact foldPut_same L _ (fun q hq => h q (List.mem_cons_of_mem _ hq))

theorem foldPut_upd (s : Nat → Value) (v : Value) : ∀ (L : List (Nat × Option Tmp)) (p : Nat × Option Tmp) (a : Act), p ∈ L → apartB L = true → foldPut L (upd s p.1 v) a = (foldPut L s a).put p.2 v
  | [], p, a, h, _ => by simp at h
  | q :: L, p, a, h, hB => by
    simp only [apartB, Bool.and_eq_true, List.all_eq_true, Bool.or_eq_true, decide_eq_true_eq, Option.isNone_iff_eq_none] at hB
    obtain ⟨hq, hL⟩ := hB
    show foldPut L (upd s p.1 v) (a.put q.2 (upd s p.1 v q.1)) = (foldPut L s (a.put q.2 (s q.1))).put p.2 v
    rcases List.mem_cons.1 h with rfl | hp
    · have e1 : upd s p.1 v p.1 = v := if_pos rfl
      rw [e1, ← foldPut_put p.2 v s L _ (fun q hq' => (hq q hq').2), put_put]
      exact foldPut_same L _ (fun q hq' => if_neg (fun e => (hq q hq').1 e.symm))
    · have hne : q.1 ≠ p.1 := (hq p hp).1
      have e1 : upd s p.1 v q.1 = s q.1 := if_neg hne
      rw [e1]
      exact foldPut_upd s v L p _ hp hL

def rest (listed : Array Bool) (L : List (Nat × Option Tmp)) : List (Nat × Option Tmp) := L.filter fun p => !listed.getD p.1 true

/-- the walk of the rest -/
structure Each (P : Program) (ops : Array Oper) (Q : Exit → Act → World → Prop) (L : List (Nat × Option Tmp)) (R : Nat → Value → World → Prop) (K : World → World → Prop) (a0 : Act) (w0 : World) : Prop where
  step : ∀ p ∈ L, ∀ o, ops[p.1]? = some o → ∀ s w, K w0 w → (∀ e ∈ o.after, Region.binds .any e = true → (L.any fun q => q.1 == e.on) = true → R e.on (s e.on) w) →
    ∀ K' : Act → World → Prop, (∀ v w', R p.1 v w' → K w w' → K' ((foldPut L s a0).put p.2 v) w') → if Region.wanted o (yielded ops (foldPut L s a0).tmps) = true then Oper.wp P o (foldPut L s a0) w K' Q else K' ((foldPut L s a0).put o.dst undef) w
  fin : ∀ s w, K w0 w → (∀ p ∈ L, R p.1 (s p.1) w) → Q .normal (foldPut L s a0) w

structure EachOk (ops : Array Oper) (L : List (Nat × Option Tmp)) (S : World → Prop) (R : Nat → Value → World → Prop) (K : World → World → Prop) (w0 : World) : Prop where
  apart : apartB L = true
  there : ∀ p ∈ L, p.1 < ops.size
  low : ∀ (j : Nat) (o : Oper), ops[j]? = some o → ∀ e ∈ o.after, e.on < j
  refl : ∀ w, K w w
  trans : ∀ a b c, K a b → K b c → K a c
  keep : ∀ i v w w', R i v w → K w w' → R i v w'
  s : ∀ w, K w0 w → S w

theorem wpAnyH_each {L : List (Nat × Option Tmp)} {R : Nat → Value → World → Prop} {K : World → World → Prop} {a0 : Act} {w0 : World} (ok : EachOk ops L S R K w0) (H : Each P ops Q L R K a0 w0) :
    ∀ (n : Nat) (listed : Array Bool) (s : Nat → Value) (w : World), listed.size = ops.size → (∀ j, listed.getD j true = false → ∃ d, (j, d) ∈ L) → (∀ p ∈ L, listed.getD p.1 true = true → R p.1 (s p.1) w) → K w0 w → (rest listed L).length ≤ n →
      wpAnyH P .any ops Q S n listed (foldPut L s a0) w := by
  have nope : ∀ (listed : Array Bool), listed.size = ops.size → (∀ j, listed.getD j true = false → ∃ d, (j, d) ∈ L) → Region.ready .any ops listed = [] → ∀ j, listed.getD j true = true := by
    intro listed hsz hL hr
    have : ∀ n j, j ≤ n → listed.getD j true = true := by
      intro n
      induction n with
      | zero =>
        intro j hj
        rcases hg : listed.getD j true with _ | _
        · obtain ⟨d, hd⟩ := hL j hg
          have hlt := ok.there _ hd
          have hm : j ∈ Region.ready .any ops listed := mem_ready.2 ⟨hg, ops[j], Array.getElem?_eq_getElem hlt, fun e he _ => by
            have := ok.low j _ (Array.getElem?_eq_getElem hlt) e he
            omega⟩
          rw [hr] at hm; cases hm
        · rfl
      | succ n ih =>
        intro j hj
        rcases hg : listed.getD j true with _ | _
        · obtain ⟨d, hd⟩ := hL j hg
          have hlt := ok.there _ hd
          have hm : j ∈ Region.ready .any ops listed := mem_ready.2 ⟨hg, ops[j], Array.getElem?_eq_getElem hlt, fun e he _ => by
            have hlo := ok.low j _ (Array.getElem?_eq_getElem hlt) e he
            have h1 := ih e.on (by omega)
            have h2 : e.on < listed.size := by rw [hsz]; have : j < ops.size := hlt; omega
            simpa [Array.getD, h2] using h1⟩
          rw [hr] at hm; cases hm
        · rfl
    exact fun j => this j j (Nat.le_refl _)
  intro n
  induction n with
  | zero =>
    intro listed s w hsz hL hR hK hn
    have hall : ∀ p ∈ L, listed.getD p.1 true = true := by
      intro p hp
      rcases hg : listed.getD p.1 true with _ | _
      · have : p ∈ rest listed L := List.mem_filter.2 ⟨hp, by rw [hg]; rfl⟩
        rw [List.length_eq_zero_iff.1 (Nat.le_zero.1 hn)] at this
        cases this
      · rfl
    refine ⟨?_, H.fin s w hK (fun p hp => hR p hp (hall p hp))⟩
    apply List.eq_nil_iff_forall_not_mem.2
    intro j hj
    obtain ⟨hg, _⟩ := mem_ready.1 hj
    obtain ⟨d, hd⟩ := hL j hg
    rw [hall _ hd] at hg; cases hg
  | succ n ih =>
    intro listed s w hsz hL hR hK hn
    refine ⟨fun hr => H.fin s w hK (fun p hp => hR p hp (nope listed hsz hL hr p.1)), fun i hi => ?_⟩
    obtain ⟨hg, o, ho, hdep⟩ := mem_ready.1 hi
    obtain ⟨d, hd⟩ := hL i hg
    refine wpOp_step ho (fun K' hK' => H.step (i, d) hd o ho s w hK (fun e he hb hq => ?_) K' (fun v w' h1 h2 => hK' _ _ ⟨ok.s w' (ok.trans _ _ _ hK h2), ?_⟩))
    · obtain ⟨q, hq1, hq2⟩ := List.any_eq_true.1 hq
      have e1 : q.1 = e.on := by simpa using hq2
      have hlo := ok.low i o ho e he
      have h1 := hdep e he hb
      have h2 : listed.getD e.on true = true := by
        rcases Nat.lt_or_ge e.on listed.size with h' | h'
        · simpa [Array.getD, h'] using h1
        · simp [Array.getD, Nat.not_lt.2 h']
      rw [← e1]
      exact hR q hq1 (by rw [e1]; exact h2)
    · rw [← foldPut_upd s v L (i, d) a0 hd ok.apart]
      have hset : ∀ j, (listed.setIfInBounds i true).getD j true = (if j = i then true else listed.getD j true) := by
        intro j
        simp only [Array.getD_eq_getD_getElem?, Array.getElem?_setIfInBounds]
        by_cases hji : i = j
        · subst hji
          simp
          split <;> rfl
        · rw [if_neg hji, if_neg (fun e => hji e.symm)]
      refine ih _ _ w' (by simpa using hsz) (fun j hj => ?_) (fun p hp hl => ?_) (ok.trans _ _ _ hK h2) ?_
      · rw [hset] at hj
        split at hj
        · cases hj
        · exact hL j hj
      · unfold upd
        split
        · rename_i e; rw [e]; exact h1
        · rename_i e
          rw [hset, if_neg e] at hl
          exact ok.keep _ _ _ _ (hR p hp hl) h2
      · have hlt : (rest (listed.setIfInBounds i true) L).length < (rest listed L).length := by
          have e1 : rest (listed.setIfInBounds i true) L = (rest listed L).filter fun p => !decide (p.1 = i) := by
            unfold rest
            rw [List.filter_filter]
            congr 1
            funext p
            rw [hset]
            by_cases h : p.1 = i <;> simp [h]
          rw [e1]
          rw [List.length_filter_lt_length_iff_exists]
          exact ⟨(i, d), List.mem_filter.2 ⟨hd, by rw [hg]; rfl⟩, by simp⟩
        omega

/-- free operations, then what is told -/
def wpFree (P : Program) (ops : Array Oper) (S : World → Prop) (E : Act → World → Prop) : List Oper → Act → World → Prop
  | [], a, w => E a w
  | o :: r, a, w => ∃ v, YieldsIf P ops S o v a ∧ wpFree P ops S E r (a.put o.dst v) w

theorem free_step {E : Act → World → Prop} {o : Oper} {v : Value} {r : List Oper} {a : Act} {w : World} (hw : Region.wanted o (yielded ops a.tmps) = true)
    (hy : ∀ w', S w' → (execOp a.eval o).run P w' = .ok (.value v) w') (h : wpFree P ops S E r (a.put o.dst v) w) : wpFree P ops S E (o :: r) a w :=
  ⟨v, .inl ⟨hw, hy⟩, h⟩

def freeB (ops : Array Oper) (L : List (Nat × Option Tmp)) : List Nat → Array Bool → Bool
  | [], listed => ((List.range ops.size).all fun j => listed.getD j true || L.any fun p => p.1 == j) && L.all fun p => !listed.getD p.1 true
  | i :: r, listed => (Region.ready .any ops listed).contains i && Region.free .any ops listed i && freeB ops L r (listed.setIfInBounds i true)
def lowB (ops : Array Oper) (L : List (Nat × Option Tmp)) : Bool :=
  (List.range ops.size).all (fun j => (ops[j]?).all fun o => o.after.all fun e => decide (e.on < j)) && L.all (fun p => decide (p.1 < ops.size)) && apartB L

theorem wpAnyH_of_free {L : List (Nat × Option Tmp)} {l : List Oper} (hsel : Region.noSelect l.toArray = true) (hQ : ∀ c a w, ¬ Q (.panic c) a w) {d : Oper} {E : Act → World → Prop} {w : World} (hS : S w) (m : Nat)
    (hE : ∀ (listed : Array Bool) (a : Act), listed.size = l.length → (∀ j, listed.getD j true = false → ∃ d, (j, d) ∈ L) → (∀ p ∈ L, listed.getD p.1 true = false) → E a w → wpAnyH P .any l.toArray Q S m listed a w) :
    ∀ (r : List Nat) (listed : Array Bool) (a : Act), listed.size = l.length → (r.all fun i => decide (i < l.length)) = true → freeB l.toArray L r listed = true → wpFree P l.toArray S E (r.map fun i => l.getD i d) a w → wpAnyH P .any l.toArray Q S (r.length + m) listed a w
  | [], listed, a, hsz, _, hB, h => by
    rw [show ([] : List Nat).length + m = m from Nat.zero_add _]
    simp only [freeB, Bool.and_eq_true, List.all_eq_true, List.mem_range, Bool.or_eq_true, List.any_eq_true, Bool.not_eq_true'] at hB
    refine hE listed a hsz (fun j hj => ?_) hB.2 h
    have hlt : j < l.toArray.size := by
      rcases Nat.lt_or_ge j l.length with h' | h'
      · simpa using h'
      · have : ¬ j < listed.size := by omega
        simp [Array.getD, this] at hj
    rcases hB.1 j hlt with h' | ⟨p, hp, hpj⟩
    · rw [hj] at h'; cases h'
    · have : p.1 = j := by simpa using hpj
      exact ⟨p.2, by rw [← this]; exact hp⟩
  | i :: r, listed, a, hsz, hlt, hB, h => by
    simp only [freeB, Bool.and_eq_true] at hB
    obtain ⟨⟨hr, hf⟩, hB'⟩ := hB
    obtain ⟨v, hy, h'⟩ := h
    simp only [List.all_cons, Bool.and_eq_true, decide_eq_true_eq] at hlt
    have e : l.getD i d = l[i]'hlt.1 := by simp [List.getD_eq_getElem?_getD, hlt.1]
    dsimp only at hy h'
    rw [e] at hy h'
    rw [show (i :: r).length + m = (r.length + m) + 1 by simp; omega]
    exact wpAnyH_take (oi := l[i]'hlt.1) (by simp [hlt.1]) hsel hf hr (fun c a w hq => absurd hq (hQ c _ w)) hy hS (wpAnyH_of_free hsel hQ hS m hE r _ _ (by simpa using hsz) hlt.2 hB' h')

/-- one operation of the rest, by itself -/
def StepAt (P : Program) (ops : Array Oper) (Q : Exit → Act → World → Prop) (L : List (Nat × Option Tmp)) (R : Nat → Value → World → Prop) (K : World → World → Prop) (a0 : Act) (w0 : World) (p : Nat × Option Tmp) (o : Oper) : Prop :=
  ∀ s w, K w0 w → (∀ j, (o.after.any fun e => e.on == j && Region.binds .any e) = true → (L.any fun q => q.1 == j) = true → R j (s j) w) →
    ∀ K' : Act → World → Prop, Hd (∀ v w', R p.1 v w' → K w w' → K' ((foldPut L s a0).put p.2 v) w') → if Region.wanted o (yielded ops (foldPut L s a0).tmps) = true then Oper.wp P o (foldPut L s a0) w K' Q else K' ((foldPut L s a0).put o.dst undef) w
def StepsAt (P : Program) (l : List Oper) (Q : Exit → Act → World → Prop) (L : List (Nat × Option Tmp)) (R : Nat → Value → World → Prop) (K : World → World → Prop) (a0 : Act) (w0 : World) (d : Oper) : List (Nat × Option Tmp) → Prop
  | [] => True
  | p :: r => StepAt P l.toArray Q L R K a0 w0 p (l.getD p.1 d) ∧ StepsAt P l Q L R K a0 w0 d r

theorem steps_mem {l : List Oper} {L : List (Nat × Option Tmp)} {R : Nat → Value → World → Prop} {K : World → World → Prop} {a0 : Act} {w0 : World} {d : Oper} : ∀ (r : List (Nat × Option Tmp)), StepsAt P l Q L R K a0 w0 d r → ∀ p ∈ r, StepAt P l.toArray Q L R K a0 w0 p (l.getD p.1 d)
  | q :: r, h, p, hp => by
    rcases List.mem_cons.1 hp with rfl | hp
    · exact h.1
    · exact steps_mem r h.2 p hp

/-- THE LAW: r: the free operations in their order; L: the others, with their slots; s0: what stands in these slots at first -/
theorem wp_region_each {id : Nat} {a : Act} {w : World} {l : List Oper} (d : Oper) (S : World → Prop) (R : Nat → Value → World → Prop) (K : World → World → Prop) (r : List Nat) (L : List (Nat × Option Tmp)) (s0 : Nat → Value)
    (hm : P.follows .mixedOrders = true) (hsel : Region.noSelect l.toArray = true) (hn : r.length + L.length = l.length) (hlt : (r.all fun i => decide (i < l.length)) = true)
    (hB : freeB l.toArray L r (Array.replicate l.toArray.size false) = true) (hlow : lowB l.toArray L = true)
    (refl : ∀ w, K w w) (trans : ∀ a b c, K a b → K b c → K a c) (keep : ∀ i v w w', R i v w → K w w' → R i v w') (hS : ∀ w', K w.drew w' → S w')
    (h : wpFree P l.toArray S (fun a w => foldPut L s0 a = a ∧ StepsAt P l (NoPanic Q) L R K a w d L ∧ (∀ s w', K w w' → (∀ p ∈ L, R p.1 (s p.1) w') → NoPanic Q .normal (foldPut L s a) w')) (r.map fun i => l.getD i d) a w.drew) : (Code.region id l.toArray true).wp P Q a w := by
  simp only [lowB, Bool.and_eq_true, List.all_eq_true, decide_eq_true_eq, List.mem_range] at hlow
  have hok : EachOk l.toArray L S R K w.drew := ⟨hlow.2, hlow.1.2, fun j o ho e he => by
    have hj : j < l.toArray.size := by
      rcases Nat.lt_or_ge j l.toArray.size with h' | h'
      · exact h'
      · rw [Array.getElem?_eq_none h'] at ho; cases ho
    have := hlow.1.1 j hj
    rw [ho] at this
    simp only [Option.all_some, Array.all_eq_true_iff_forall_mem, decide_eq_true_eq] at this
    exact this e he, refl, trans, keep, hS⟩
  refine wp_region_noPanic (wp_region_held_drew (S := S) hm (hS _ (refl _)) (fun _ => ?_))
  have := wpAnyH_of_free (P := P) (Q := NoPanic Q) (S := S) (L := L) (l := l) hsel (fun c a w h => h) (d := d) (w := w.drew) (hS _ (refl _)) L.length (E := fun a w => foldPut L s0 a = a ∧ StepsAt P l (NoPanic Q) L R K a w d L ∧ (∀ s w', K w w' → (∀ p ∈ L, R p.1 (s p.1) w') → NoPanic Q .normal (foldPut L s a) w'))
    (fun listed a hsz hL hU hE => by
      have hEach : Each P l.toArray (NoPanic Q) L R K a w.drew := ⟨fun p hp o ho s w hK hdep K' hK' => by
        have hlt := hok.there p hp
        have e : l.getD p.1 d = o := by
          have h2 : l[p.1]? = some o := by simpa using ho
          rw [List.getD_eq_getElem?_getD, h2]; rfl
        have hst := steps_mem L hE.2.1 p hp s w hK (fun j hj hq => by
          rw [e] at hj
          rw [← Array.any_toList, List.any_eq_true] at hj
          obtain ⟨x, hx, hx2⟩ := hj
          have hx := Array.mem_toList_iff.1 hx
          simp only [Bool.and_eq_true, beq_iff_eq] at hx2
          rw [← hx2.1] at hq ⊢
          exact hdep x hx hx2.2 hq) K' ⟨hK'⟩
        rw [e] at hst
        exact hst, hE.2.2⟩
      have := wpAnyH_each hok hEach L.length listed s0 w.drew (by simpa using hsz) hL (fun p hp hl => by rw [hU p hp] at hl; cases hl) (refl _) (List.length_filter_le _ _)
      rwa [hE.1] at this) r _ a (by simp) hlt hB h
  rw [hn] at this
  simpa using this
end

end Go.Proofs.Ytmgkoocpnakanaa.W
