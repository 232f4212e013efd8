/-
  As XOrd2, and with an operation that may come up anywhere among others (a load that an append waits for): every place is walked.
-/
import Derived.Test.YtmgkoocpnakanaaOrd2
namespace Go.Proofs.Ytmgkoocpnakanaa.W
open Go.RowKit
set_option linter.unusedVariables false

inductive St where
  | free (i : Nat)
  | one (i : Nat)
  | fl (f : Nat) (js : List Nat)
def St.len : St → Nat
  | .free _ => 1
  | .one _ => 1
  | .fl _ js => js.length + 1
def St.lens : List St → Nat
  | [] => 0
  | s :: r => s.len + St.lens r
def St.inB (n : Nat) : St → Bool
  | .free i => decide (i < n)
  | .one i => decide (i < n)
  | .fl f js => decide (f < n) && js.all fun j => decide (j < n)

section
variable {P : Program} {Q : Exit → Act → World → Prop} {S : World → Prop}

def wpSeq (P : Program) (l : List Oper) (Q : Exit → Act → World → Prop) (S : World → Prop) (d : Oper) : List Nat → (Act → World → Prop) → Act → World → Prop
  | [], E, a, w => E a w
  | j :: js, E, a, w => getB P l.toArray Q (l.getD j d) (fun a' w' => S w' ∧ wpSeq P l Q S d js E a' w') a w
def wpFl (P : Program) (l : List Oper) (Q : Exit → Act → World → Prop) (S : World → Prop) (d : Oper) (f : Nat) : List Nat → (Act → World → Prop) → Act → World → Prop
  | [], E, a, w => getB P l.toArray Q (l.getD f d) (fun a' w' => S w' ∧ E a' w') a w
  | j :: js, E, a, w =>
    getB P l.toArray Q (l.getD f d) (fun a' w' => S w' ∧ wpSeq P l Q S d (j :: js) E a' w') a w ∧
    getB P l.toArray Q (l.getD j d) (fun a' w' => S w' ∧ wpFl P l Q S d f js E a' w') a w
def wpLin3 (P : Program) (l : List Oper) (Q : Exit → Act → World → Prop) (S : World → Prop) (d : Oper) : List St → Act → World → Prop
  | [], a, w => Q .normal a w
  | .free i :: r, a, w => ∃ v, YieldsIf P l.toArray S (l.getD i d) v a ∧ wpLin3 P l Q S d r (a.put (l.getD i d).dst v) w
  | .one i :: r, a, w => getB P l.toArray Q (l.getD i d) (fun a' w' => S w' ∧ wpLin3 P l Q S d r a' w') a w
  | .fl f js :: r, a, w => wpFl P l Q S d f js (wpLin3 P l Q S d r) a w

def seqB (ops : Array Oper) : List Nat → (Array Bool → Bool) → Array Bool → Bool
  | [], E, listed => E listed
  | j :: js, E, listed => decide (Region.ready .any ops listed = [j]) && seqB ops js E (listed.setIfInBounds j true)
def flB (ops : Array Oper) (f : Nat) : List Nat → (Array Bool → Bool) → Array Bool → Bool
  | [], E, listed => decide (Region.ready .any ops listed = [f]) && E (listed.setIfInBounds f true)
  | j :: js, E, listed => decide (Region.ready .any ops listed = [f, j] ∨ Region.ready .any ops listed = [j, f]) && seqB ops (j :: js) E (listed.setIfInBounds f true) && flB ops f js E (listed.setIfInBounds j true)
def ordB3 (ops : Array Oper) : List St → Array Bool → Bool
  | [], listed => (Region.ready .any ops listed).isEmpty
  | .free i :: r, listed => (Region.ready .any ops listed).contains i && Region.free .any ops listed i && ordB3 ops r (listed.setIfInBounds i true)
  | .one i :: r, listed => decide (Region.ready .any ops listed = [i]) && ordB3 ops r (listed.setIfInBounds i true)
  | .fl f js :: r, listed => flB ops f js (ordB3 ops r) listed

theorem seq_sound {l : List Oper} {d : Oper} {n : Nat} {E : Act → World → Prop} {EB : Array Bool → Bool} (hE : ∀ listed a w, EB listed = true → S w → E a w → wpAnyH P .any l.toArray Q S n listed a w) :
    ∀ (js : List Nat) (listed : Array Bool) (a : Act) (w : World), (∀ j ∈ js, j < l.length) → seqB l.toArray js EB listed = true → S w → wpSeq P l Q S d js E a w → wpAnyH P .any l.toArray Q S (js.length + n) listed a w
  | [], listed, a, w, _, hB, hS, h => by rw [List.length_nil, Nat.zero_add]; exact hE listed a w hB hS h
  | j :: js, listed, a, w, hi, hB, hS, h => by
    simp only [seqB, Bool.and_eq_true, decide_eq_true_eq] at hB
    rw [List.length_cons, show js.length + 1 + n = (js.length + n) + 1 by omega]
    refine wpAnyH_all hB.1 (by simp) (fun x hx => ?_)
    have hxi : x = j := by simpa using hx
    subst hxi
    exact getB_op (hi x (by simp)) h (fun a' w' h' => ⟨h'.1, seq_sound hE js _ a' w' (fun y hy => hi y (List.mem_cons_of_mem _ hy)) hB.2 h'.1 h'.2⟩)
theorem fl_sound {l : List Oper} {d : Oper} {n f : Nat} (hf : f < l.length) {E : Act → World → Prop} {EB : Array Bool → Bool} (hE : ∀ listed a w, EB listed = true → S w → E a w → wpAnyH P .any l.toArray Q S n listed a w) :
    ∀ (js : List Nat) (listed : Array Bool) (a : Act) (w : World), (∀ j ∈ js, j < l.length) → flB l.toArray f js EB listed = true → S w → wpFl P l Q S d f js E a w → wpAnyH P .any l.toArray Q S (js.length + 1 + n) listed a w
  | [], listed, a, w, _, hB, hS, h => by
    simp only [flB, Bool.and_eq_true, decide_eq_true_eq] at hB
    rw [List.length_nil, show 0 + 1 + n = n + 1 by omega]
    refine wpAnyH_all hB.1 (by simp) (fun x hx => ?_)
    have hxi : x = f := by simpa using hx
    subst hxi
    exact getB_op hf h (fun a' w' h' => ⟨h'.1, hE _ a' w' hB.2 h'.1 h'.2⟩)
  | j :: js, listed, a, w, hi, hB, hS, h => by
    simp only [flB, Bool.and_eq_true, decide_eq_true_eq] at hB
    obtain ⟨⟨h1, h2⟩, h3⟩ := hB
    have key : ∀ x, x = f ∨ x = j → wpOp P l.toArray Q x (fun a' w' => S w' ∧ wpAnyH P .any l.toArray Q S (js.length + 1 + n) (listed.setIfInBounds x true) a' w') a w := fun x hx => by
      rcases hx with rfl | rfl
      · exact getB_op hf h.1 (fun a' w' h' => ⟨h'.1, seq_sound hE (j :: js) _ a' w' hi h2 h'.1 h'.2⟩)
      · exact getB_op (hi x (by simp)) h.2 (fun a' w' h' => ⟨h'.1, fl_sound hf hE js _ a' w' (fun y hy => hi y (List.mem_cons_of_mem _ hy)) h3 h'.1 h'.2⟩)
    rw [List.length_cons, show js.length + 1 + 1 + n = (js.length + 1 + n) + 1 by omega]
    rcases h1 with h1 | h1
    · refine wpAnyH_all h1 (by simp) (fun x hx => key x (by simpa using hx))
    · refine wpAnyH_all h1 (by simp) (fun x hx => key x (by have : x = j ∨ x = f := by simpa using hx
                                                            exact this.symm))

theorem wpAnyH_of_lin3 {l : List Oper} {d : Oper} (hsel : Region.noSelect l.toArray = true) (hQ : ∀ c a w, ¬ Q (.panic c) a w) : ∀ (r : List St) (listed : Array Bool) (a : Act) (w : World),
    (∀ x ∈ r, x.inB l.length = true) → ordB3 l.toArray r listed = true → S w → wpLin3 P l Q S d r a w → wpAnyH P .any l.toArray Q S (St.lens r) listed a w
  | [], listed, a, w, _, hB, hS, h => ⟨by simpa [ordB3] using hB, h⟩
  | .free i :: r, listed, a, w, hi, hB, hS, h => by
    simp only [ordB3, Bool.and_eq_true] at hB
    obtain ⟨⟨hr, hf⟩, hB'⟩ := hB
    obtain ⟨v, hy, h'⟩ := h
    have hl : i < l.length := by have := hi (.free i) (by simp); simpa [St.inB] using this
    have e : l.getD i d = l[i] := by simp [List.getD_eq_getElem?_getD, hl]
    rw [e] at hy h'
    have := wpAnyH_take (oi := l[i]) (by simp) hsel hf hr (fun c a w hq => absurd hq (hQ c _ w)) hy hS (wpAnyH_of_lin3 hsel hQ r _ _ w (fun x hx => hi x (List.mem_cons_of_mem _ hx)) hB' hS h')
    rw [St.lens, show (St.free i).len = 1 from rfl, Nat.add_comm]
    exact this
  | .one i :: r, listed, a, w, hi, hB, hS, h => by
    simp only [ordB3, Bool.and_eq_true, decide_eq_true_eq] at hB
    have hl : i < l.length := by have := hi (.one i) (by simp); simpa [St.inB] using this
    rw [St.lens, show (St.one i).len = 1 from rfl, Nat.add_comm]
    refine wpAnyH_all hB.1 (by simp) (fun x hx => ?_)
    have hxi : x = i := by simpa using hx
    subst hxi
    exact getB_op hl h (fun a' w' h' => ⟨h'.1, wpAnyH_of_lin3 hsel hQ r _ a' w' (fun y hy => hi y (List.mem_cons_of_mem _ hy)) hB.2 h'.1 h'.2⟩)
  | .fl f js :: r, listed, a, w, hi, hB, hS, h => by
    have hl := hi (.fl f js) (by simp)
    simp only [St.inB, Bool.and_eq_true, decide_eq_true_eq, List.all_eq_true] at hl
    exact fl_sound hl.1 (fun listed a w hB hS h => wpAnyH_of_lin3 hsel hQ r listed a w (fun y hy => hi y (List.mem_cons_of_mem _ hy)) hB hS h) js listed a w hl.2 hB hS h

theorem wp_region_lin3 {id : Nat} {a : Act} {w : World} {l : List Oper} (d : Oper) (S : World → Prop) (r : List St) (hm : P.follows .mixedOrders = true) (hsel : Region.noSelect l.toArray = true) (hn : St.lens r = l.length)
    (hB : ordB3 l.toArray r (Array.replicate l.toArray.size false) = true) (hi : (r.all fun x => x.inB l.length) = true) (hS : S w.drew) (h : wpLin3 P l (NoPanic Q) S d r a w.drew) : (Code.region id l.toArray true).wp P Q a w :=
  wp_region_noPanic (wp_region_held_drew (S := S) hm hS (fun _ => by
    have := wpAnyH_of_lin3 (S := S) (Q := NoPanic Q) hsel (fun c a w h => h) r _ a w.drew (fun x hx => List.all_eq_true.1 hi x hx) hB hS h
    rw [hn] at this
    simpa using this))
theorem lin3_free {l : List Oper} {d : Oper} {i : Nat} {r : List St} {a : Act} {w : World} {v : Value} (hw : Region.wanted (l.getD i d) (yielded l.toArray a.tmps) = true)
    (hy : ∀ w', S w' → (execOp a.eval (l.getD i d)).run P w' = .ok (.value v) w') (h : wpLin3 P l Q S d r (a.put (l.getD i d).dst v) w) : wpLin3 P l Q S d (.free i :: r) a w :=
  ⟨v, .inl ⟨hw, hy⟩, h⟩
theorem getB_intro {ops : Array Oper} {o : Oper} {E : Act → World → Prop} {a : Act} {w : World}
    (h : ∀ K' : Act → World → Prop, Hd (∀ a w, S w → E a w → K' a w) → if Region.wanted o (yielded ops a.tmps) = true then Oper.wp P o a w K' Q else K' (a.put o.dst undef) w) : getB P ops Q o (fun a' w' => S w' ∧ E a' w') a w :=
  h _ ⟨fun a w hS hE => ⟨hS, hE⟩⟩
theorem lin3_one {l : List Oper} {d : Oper} {i : Nat} {r : List St} {a : Act} {w : World}
    (h : ∀ K' : Act → World → Prop, Hd (∀ a w, S w → wpLin3 P l Q S d r a w → K' a w) → if Region.wanted (l.getD i d) (yielded l.toArray a.tmps) = true then Oper.wp P (l.getD i d) a w K' Q else K' (a.put (l.getD i d).dst undef) w) :
    wpLin3 P l Q S d (.one i :: r) a w := getB_intro h
/-- one, then the others in their order (told by their own worlds) -/
theorem lin3_fl {l : List Oper} {d : Oper} {f j : Nat} {js : List Nat} {r : List St} {a : Act} {w : World}
    (h1 : getB P l.toArray Q (l.getD f d) (fun a' w' => S w' ∧ wpSeq P l Q S d (j :: js) (wpLin3 P l Q S d r) a' w') a w)
    (h2 : getB P l.toArray Q (l.getD j d) (fun a' w' => S w' ∧ wpFl P l Q S d f js (wpLin3 P l Q S d r) a' w') a w) : wpLin3 P l Q S d (.fl f (j :: js) :: r) a w := ⟨h1, h2⟩
theorem fl_cons {l : List Oper} {d : Oper} {f j : Nat} {js : List Nat} {E : Act → World → Prop} {a : Act} {w : World}
    (h1 : getB P l.toArray Q (l.getD f d) (fun a' w' => S w' ∧ wpSeq P l Q S d (j :: js) E a' w') a w)
    (h2 : getB P l.toArray Q (l.getD j d) (fun a' w' => S w' ∧ wpFl P l Q S d f js E a' w') a w) : wpFl P l Q S d f (j :: js) E a w := ⟨h1, h2⟩
theorem fl_nil {l : List Oper} {d : Oper} {f : Nat} {E : Act → World → Prop} {a : Act} {w : World}
    (h : getB P l.toArray Q (l.getD f d) (fun a' w' => S w' ∧ E a' w') a w) : wpFl P l Q S d f [] E a w := h
theorem seq_cons {l : List Oper} {d : Oper} {j : Nat} {js : List Nat} {E : Act → World → Prop} {a : Act} {w : World}
    (h : getB P l.toArray Q (l.getD j d) (fun a' w' => S w' ∧ wpSeq P l Q S d js E a' w') a w) : wpSeq P l Q S d (j :: js) E a w := h
theorem seq_nil {l : List Oper} {d : Oper} {E : Act → World → Prop} {a : Act} {w : World} (h : E a w) : wpSeq P l Q S d [] E a w := h
end

end Go.Proofs.Ytmgkoocpnakanaa.W
