/-
  As XOrd, with a tree of orders: where two operations may both come up, each branch goes its own way.
-/
import Derived.Test.YtmgkoocpnakanaaOrd2
namespace Go.Proofs.Ytmgkoocpnakanaa.W
open Go.RowKit
set_option linter.unusedVariables false

/-- a tree of orders -/
inductive Tr where
  | done
  | free (i : Nat) (r : Tr)
  | one (i : Nat) (r : Tr)
  | two (i : Nat) (r : Tr) (j : Nat) (s : Tr)
  | three (i : Nat) (r : Tr) (j : Nat) (s : Tr) (k : Nat) (u : Tr)
def Tr.len : Tr → Nat
  | .done => 0
  | .free _ r => r.len + 1
  | .one _ r => r.len + 1
  | .two _ r _ _ => r.len + 1
  | .three _ r _ _ _ _ => r.len + 1
def Tr.bel (n : Nat) : Tr → Bool
  | .done => true
  | .free i r => decide (i < n) && r.bel n
  | .one i r => decide (i < n) && r.bel n
  | .two i r j s => decide (i < n) && decide (j < n) && r.bel n && s.bel n
  | .three i r j s k u => decide (i < n) && decide (j < n) && decide (k < n) && r.bel n && s.bel n && u.bel n

section
variable {P : Program} {Q : Exit → Act → World → Prop} {S : World → Prop}

def wpTr (P : Program) (l : List Oper) (Q : Exit → Act → World → Prop) (S : World → Prop) (d : Oper) : Tr → Act → World → Prop
  | .done, a, w => Q .normal a w
  | .free i r, a, w => ∃ v, YieldsIf P l.toArray S (l.getD i d) v a ∧ wpTr P l Q S d r (a.put (l.getD i d).dst v) w
  | .one i r, a, w => getB P l.toArray Q (l.getD i d) (fun a' w' => S w' ∧ wpTr P l Q S d r a' w') a w
  | .two i r j s, a, w => getB P l.toArray Q (l.getD i d) (fun a' w' => S w' ∧ wpTr P l Q S d r a' w') a w ∧ getB P l.toArray Q (l.getD j d) (fun a' w' => S w' ∧ wpTr P l Q S d s a' w') a w
  | .three i r j s k u, a, w => getB P l.toArray Q (l.getD i d) (fun a' w' => S w' ∧ wpTr P l Q S d r a' w') a w ∧ getB P l.toArray Q (l.getD j d) (fun a' w' => S w' ∧ wpTr P l Q S d s a' w') a w ∧ getB P l.toArray Q (l.getD k d) (fun a' w' => S w' ∧ wpTr P l Q S d u a' w') a w

def ordT (ops : Array Oper) : Tr → Array Bool → Bool
  | .done, listed => (Region.ready .any ops listed).isEmpty
  | .free i r, listed => (Region.ready .any ops listed).contains i && Region.free .any ops listed i && ordT ops r (listed.setIfInBounds i true)
  | .one i r, listed => decide (Region.ready .any ops listed = [i]) && ordT ops r (listed.setIfInBounds i true)
  | .two i r j s, listed => decide (Region.ready .any ops listed = [i, j]) && decide (r.len = s.len) && ordT ops r (listed.setIfInBounds i true) && ordT ops s (listed.setIfInBounds j true)
  | .three i r j s k u, listed => decide (Region.ready .any ops listed = [i, j, k]) && decide (r.len = s.len) && decide (r.len = u.len) && ordT ops r (listed.setIfInBounds i true) && ordT ops s (listed.setIfInBounds j true) && ordT ops u (listed.setIfInBounds k true)

theorem wpAnyH_of_tr {l : List Oper} {d : Oper} (hsel : Region.noSelect l.toArray = true) (hQ : ∀ c a w, ¬ Q (.panic c) a w) : ∀ (t : Tr) (listed : Array Bool) (a : Act) (w : World),
    t.bel l.length = true → ordT l.toArray t listed = true → S w → wpTr P l Q S d t a w → wpAnyH P .any l.toArray Q S t.len listed a w
  | .done, listed, a, w, _, hB, hS, h => ⟨by simpa [ordT] using hB, h⟩
  | .free i r, listed, a, w, hi, hB, hS, h => by
    simp only [ordT, Bool.and_eq_true] at hB
    simp only [Tr.bel, Bool.and_eq_true, decide_eq_true_eq] at hi
    obtain ⟨⟨hr, hf⟩, hB'⟩ := hB
    obtain ⟨v, hy, h'⟩ := h
    have hl := hi.1
    have e : l.getD i d = l[i] := by simp [List.getD_eq_getElem?_getD, hl]
    rw [e] at hy h'
    exact wpAnyH_take (oi := l[i]) (by simp) hsel hf hr (fun c a w hq => absurd hq (hQ c _ w)) hy hS (wpAnyH_of_tr hsel hQ r _ _ w hi.2 hB' hS h')
  | .one i r, listed, a, w, hi, hB, hS, h => by
    simp only [ordT, Bool.and_eq_true, decide_eq_true_eq] at hB
    simp only [Tr.bel, Bool.and_eq_true, decide_eq_true_eq] at hi
    refine wpAnyH_all hB.1 (by simp) (fun x hx => ?_)
    have hxi : x = i := by simpa using hx
    subst hxi
    exact getB_op hi.1 h (fun a' w' h' => ⟨h'.1, wpAnyH_of_tr hsel hQ r _ a' w' hi.2 hB.2 h'.1 h'.2⟩)
  | .two i r j s, listed, a, w, hi, hB, hS, h => by
    simp only [ordT, Bool.and_eq_true, decide_eq_true_eq] at hB
    simp only [Tr.bel, Bool.and_eq_true, decide_eq_true_eq] at hi
    obtain ⟨⟨⟨h1, h2⟩, h3⟩, h4⟩ := hB
    obtain ⟨⟨⟨i1, i2⟩, i3⟩, i4⟩ := hi
    refine wpAnyH_all h1 (by simp) (fun x hx => ?_)
    have hx' : x = i ∨ x = j := by simpa using hx
    rcases hx' with rfl | rfl
    · exact getB_op i1 h.1 (fun a' w' h' => ⟨h'.1, wpAnyH_of_tr hsel hQ r _ a' w' i3 h3 h'.1 h'.2⟩)
    · refine getB_op i2 h.2 (fun a' w' h' => ⟨h'.1, ?_⟩)
      rw [show r.len = s.len from h2]
      exact wpAnyH_of_tr hsel hQ s _ a' w' i4 h4 h'.1 h'.2
  | .three i r j s k u, listed, a, w, hi, hB, hS, h => by
    simp only [ordT, Bool.and_eq_true, decide_eq_true_eq] at hB
    simp only [Tr.bel, Bool.and_eq_true, decide_eq_true_eq] at hi
    obtain ⟨⟨⟨⟨⟨h1, h2⟩, h3⟩, h4⟩, h5⟩, h6⟩ := hB
    obtain ⟨⟨⟨⟨⟨i1, i2⟩, i3⟩, i4⟩, i5⟩, i6⟩ := hi
    refine wpAnyH_all h1 (by simp) (fun x hx => ?_)
    have hx' : x = i ∨ x = j ∨ x = k := by simpa using hx
    rcases hx' with rfl | rfl | rfl
    · exact getB_op i1 h.1 (fun a' w' h' => ⟨h'.1, wpAnyH_of_tr hsel hQ r _ a' w' i4 h4 h'.1 h'.2⟩)
    · refine getB_op i2 h.2.1 (fun a' w' h' => ⟨h'.1, ?_⟩)
      rw [show r.len = s.len from h2]
      exact wpAnyH_of_tr hsel hQ s _ a' w' i5 h5 h'.1 h'.2
    · refine getB_op i3 h.2.2 (fun a' w' h' => ⟨h'.1, ?_⟩)
      rw [show r.len = u.len from h3]
      exact wpAnyH_of_tr hsel hQ u _ a' w' i6 h6 h'.1 h'.2

theorem wp_region_tr {id : Nat} {a : Act} {w : World} {l : List Oper} (d : Oper) (S : World → Prop) (t : Tr) (hm : P.follows .mixedOrders = true) (hsel : Region.noSelect l.toArray = true) (hn : t.len = l.length)
    (hB : ordT l.toArray t (Array.replicate l.toArray.size false) = true) (hi : t.bel l.length = true) (hS : S w.drew) (h : wpTr P l (NoPanic Q) S d t a w.drew) : (Code.region id l.toArray true).wp P Q a w :=
  wp_region_noPanic (wp_region_held_drew (S := S) hm hS (fun _ => by
    have := wpAnyH_of_tr (S := S) (Q := NoPanic Q) hsel (fun c a w h => h) t _ a w.drew hi hB hS h
    rw [hn] at this
    simpa using this))
theorem tr_free {l : List Oper} {d : Oper} {i : Nat} {r : Tr} {a : Act} {w : World} {v : Value} (hw : Region.wanted (l.getD i d) (yielded l.toArray a.tmps) = true)
    (hy : ∀ w', S w' → (execOp a.eval (l.getD i d)).run P w' = .ok (.value v) w') (h : wpTr P l Q S d r (a.put (l.getD i d).dst v) w) : wpTr P l Q S d (.free i r) a w :=
  ⟨v, .inl ⟨hw, hy⟩, h⟩
theorem tr_one {l : List Oper} {d : Oper} {i : Nat} {r : Tr} {a : Act} {w : World}
    (h : ∀ K' : Act → World → Prop, Hd (∀ a w, S w → wpTr P l Q S d r a w → K' a w) → if Region.wanted (l.getD i d) (yielded l.toArray a.tmps) = true then Oper.wp P (l.getD i d) a w K' Q else K' (a.put (l.getD i d).dst undef) w) :
    wpTr P l Q S d (.one i r) a w := by
  have e : wpTr P l Q S d (.one i r) a w = getB P l.toArray Q (l.getD i d) (fun a' w' => S w' ∧ wpTr P l Q S d r a' w') a w := rfl
  rw [e]
  exact h _ ⟨fun a w hS hW => ⟨hS, hW⟩⟩
theorem tr_three {l : List Oper} {d : Oper} {i j k : Nat} {r s u : Tr} {a : Act} {w : World} (h1 : wpTr P l Q S d (.one i r) a w) (h2 : wpTr P l Q S d (.one j s) a w) (h3 : wpTr P l Q S d (.one k u) a w) : wpTr P l Q S d (.three i r j s k u) a w := ⟨h1, h2, h3⟩
theorem tr_two {l : List Oper} {d : Oper} {i j : Nat} {r s : Tr} {a : Act} {w : World} (h1 : wpTr P l Q S d (.one i r) a w) (h2 : wpTr P l Q S d (.one j s) a w) : wpTr P l Q S d (.two i r j s) a w := ⟨h1, h2⟩
end

end Go.Proofs.Ytmgkoocpnakanaa.W
