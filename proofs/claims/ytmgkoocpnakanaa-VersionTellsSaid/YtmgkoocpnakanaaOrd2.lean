/-
  As XOrd, and with pairs: two operations that may both come up (a load and a new block): both orders are walked. Kinds: 0 free, 1 one, 2 the first of a pair (the next is its partner).
-/
import Derived.Test.YtmgkoocpnakanaaOrd
namespace Go.Proofs.Ytmgkoocpnakanaa.W
open Go.RowKit
set_option linter.unusedVariables false

section
variable {P : Program} {Q : Exit → Act → World → Prop} {S : World → Prop}

def getB (P : Program) (ops : Array Oper) (Q : Exit → Act → World → Prop) (o : Oper) (K : Act → World → Prop) (a : Act) (w : World) : Prop :=
  if Region.wanted o (yielded ops a.tmps) = true then Oper.wp P o a w K Q else K (a.put o.dst undef) w

def wpLin2 (P : Program) (l : List Oper) (Q : Exit → Act → World → Prop) (S : World → Prop) (d : Oper) : List (Nat × Nat) → Act → World → Prop
  | [], a, w => Q .normal a w
  | (i, 0) :: r, a, w => ∃ v, YieldsIf P l.toArray S (l.getD i d) v a ∧ wpLin2 P l Q S d r (a.put (l.getD i d).dst v) w
  | (i, 2) :: (j, _) :: r, a, w =>
    getB P l.toArray Q (l.getD i d) (fun a' w' => S w' ∧ getB P l.toArray Q (l.getD j d) (fun a'' w'' => S w'' ∧ wpLin2 P l Q S d r a'' w'') a' w') a w ∧
    getB P l.toArray Q (l.getD j d) (fun a' w' => S w' ∧ getB P l.toArray Q (l.getD i d) (fun a'' w'' => S w'' ∧ wpLin2 P l Q S d r a'' w'') a' w') a w
  | (i, _) :: r, a, w => getB P l.toArray Q (l.getD i d) (fun a' w' => S w' ∧ wpLin2 P l Q S d r a' w') a w

def ordB2 (ops : Array Oper) : List (Nat × Nat) → Array Bool → Bool
  | [], listed => (Region.ready .any ops listed).isEmpty
  | (i, 0) :: r, listed => (Region.ready .any ops listed).contains i && Region.free .any ops listed i && ordB2 ops r (listed.setIfInBounds i true)
  | (i, 2) :: (j, _) :: r, listed => decide (Region.ready .any ops listed = [i, j]) && decide (Region.ready .any ops (listed.setIfInBounds i true) = [j]) && decide (Region.ready .any ops (listed.setIfInBounds j true) = [i]) && ordB2 ops r ((listed.setIfInBounds i true).setIfInBounds j true) && ordB2 ops r ((listed.setIfInBounds j true).setIfInBounds i true)
  | (i, _) :: r, listed => decide (Region.ready .any ops listed = [i]) && ordB2 ops r (listed.setIfInBounds i true)

theorem getB_op {l : List Oper} {d : Oper} {i : Nat} (hl : i < l.length) {K K' : Act → World → Prop} {a : Act} {w : World} (h : getB P l.toArray Q (l.getD i d) K a w) (hK : ∀ a w, K a w → K' a w) : wpOp P l.toArray Q i K' a w := by
  have e : l.getD i d = l[i] := by simp [List.getD_eq_getElem?_getD, hl]
  unfold getB at h
  rw [e] at h
  refine wpOp_step (o := l[i]) (by simp) (fun K'' hK'' => ?_)
  split
  · rename_i hw
    rw [if_pos hw] at h
    exact Oper.wp_mono (fun a' w' h' => hK'' a' w' (hK a' w' h')) h
  · rename_i hw
    rw [if_neg hw] at h
    exact hK'' _ _ (hK _ _ h)

theorem wpAnyH_of_lin2 {l : List Oper} {d : Oper} (hsel : Region.noSelect l.toArray = true) (hQ : ∀ c a w, ¬ Q (.panic c) a w) : ∀ (r : List (Nat × Nat)) (listed : Array Bool) (a : Act) (w : World),
    (∀ x ∈ r, x.1 < l.length) → ordB2 l.toArray r listed = true → S w → wpLin2 P l Q S d r a w → wpAnyH P .any l.toArray Q S r.length listed a w
  | [], listed, a, w, _, hB, hS, h => ⟨by simpa [ordB2] using hB, h⟩
  | (i, 0) :: r, listed, a, w, hi, hB, hS, h => by
    simp only [ordB2, Bool.and_eq_true] at hB
    obtain ⟨⟨hr, hf⟩, hB'⟩ := hB
    obtain ⟨v, hy, h'⟩ := h
    have hl := hi (i, 0) (by simp)
    have e : l.getD i d = l[i] := by simp [List.getD_eq_getElem?_getD, hl]
    rw [e] at hy h'
    exact wpAnyH_take (oi := l[i]) (by simp) hsel hf hr (fun c a w hq => absurd hq (hQ c _ w)) hy hS (wpAnyH_of_lin2 hsel hQ r _ _ w (fun x hx => hi x (List.mem_cons_of_mem _ hx)) hB' hS h')
  | (i, 2) :: (j, k) :: r, listed, a, w, hi, hB, hS, h => by
    simp only [ordB2, Bool.and_eq_true, decide_eq_true_eq] at hB
    obtain ⟨⟨⟨⟨h1, h2⟩, h3⟩, h4⟩, h5⟩ := hB
    have hli := hi (i, 2) (by simp)
    have hlj := hi (j, k) (by simp)
    have hr : ∀ x ∈ r, x.1 < l.length := fun x hx => hi x (List.mem_cons_of_mem _ (List.mem_cons_of_mem _ hx))
    refine wpAnyH_all h1 (by simp) (fun x hx => ?_)
    rcases List.mem_cons.1 hx with rfl | hx
    · refine getB_op hli h.1 (fun a' w' h' => ⟨h'.1, ?_⟩)
      refine wpAnyH_all h2 (by simp) (fun y hy => ?_)
      have hyj : y = j := by simpa using hy
      subst hyj
      exact getB_op hlj h'.2 (fun a'' w'' h'' => ⟨h''.1, wpAnyH_of_lin2 hsel hQ r _ a'' w'' hr h4 h''.1 h''.2⟩)
    · have hxj : x = j := by simpa using hx
      subst hxj
      refine getB_op hlj h.2 (fun a' w' h' => ⟨h'.1, ?_⟩)
      refine wpAnyH_all h3 (by simp) (fun y hy => ?_)
      have hyi : y = i := by simpa using hy
      subst hyi
      exact getB_op hli h'.2 (fun a'' w'' h'' => ⟨h''.1, wpAnyH_of_lin2 hsel hQ r _ a'' w'' hr h5 h''.1 h''.2⟩)
  | (i, 1) :: r, listed, a, w, hi, hB, hS, h => by
    simp only [ordB2, Bool.and_eq_true, decide_eq_true_eq] at hB
    refine wpAnyH_all hB.1 (by simp) (fun x hx => ?_)
    have hxi : x = i := by simpa using hx
    subst hxi
    exact getB_op (hi (x, 1) (by simp)) h (fun a' w' h' => ⟨h'.1, wpAnyH_of_lin2 hsel hQ r _ a' w' (fun y hy => hi y (List.mem_cons_of_mem _ hy)) hB.2 h'.1 h'.2⟩)
  | [(i, 2)], listed, a, w, hi, hB, hS, h => by
    simp only [ordB2, Bool.and_eq_true, decide_eq_true_eq] at hB
    refine wpAnyH_all hB.1 (by simp) (fun x hx => ?_)
    have hxi : x = i := by simpa using hx
    subst hxi
    exact getB_op (hi (x, 2) (by simp)) h (fun a' w' h' => ⟨h'.1, wpAnyH_of_lin2 hsel hQ [] _ a' w' (fun y hy => by simp at hy) hB.2 h'.1 h'.2⟩)
  | (i, n + 3) :: r, listed, a, w, hi, hB, hS, h => by
    simp only [ordB2, Bool.and_eq_true, decide_eq_true_eq] at hB
    refine wpAnyH_all hB.1 (by simp) (fun x hx => ?_)
    have hxi : x = i := by simpa using hx
    subst hxi
    exact getB_op (hi (x, n + 3) (by simp)) h (fun a' w' h' => ⟨h'.1, wpAnyH_of_lin2 hsel hQ r _ a' w' (fun y hy => hi y (List.mem_cons_of_mem _ hy)) hB.2 h'.1 h'.2⟩)

theorem wp_region_lin2 {id : Nat} {a : Act} {w : World} {l : List Oper} (d : Oper) (S : World → Prop) (r : List (Nat × Nat)) (hm : P.follows .mixedOrders = true) (hsel : Region.noSelect l.toArray = true) (hn : r.length = l.length)
    (hB : ordB2 l.toArray r (Array.replicate l.toArray.size false) = true) (hi : (r.all fun x => decide (x.1 < l.length)) = true) (hS : S w.drew) (h : wpLin2 P l (NoPanic Q) S d r a w.drew) : (Code.region id l.toArray true).wp P Q a w :=
  wp_region_noPanic (wp_region_held_drew (S := S) hm hS (fun _ => by
    have := wpAnyH_of_lin2 (S := S) (Q := NoPanic Q) hsel (fun c a w h => h) r _ a w.drew (fun x hx => by simpa using List.all_eq_true.1 hi x hx) hB hS h
    rw [hn] at this
    simpa using this))
theorem lin2_free {l : List Oper} {d : Oper} {i : Nat} {r : List (Nat × Nat)} {a : Act} {w : World} {v : Value} (hw : Region.wanted (l.getD i d) (yielded l.toArray a.tmps) = true)
    (hy : ∀ w', S w' → (execOp a.eval (l.getD i d)).run P w' = .ok (.value v) w') (h : wpLin2 P l Q S d r (a.put (l.getD i d).dst v) w) : wpLin2 P l Q S d ((i, 0) :: r) a w :=
  ⟨v, .inl ⟨hw, hy⟩, h⟩
theorem lin2_one {l : List Oper} {d : Oper} {i : Nat} {r : List (Nat × Nat)} {a : Act} {w : World}
    (h : ∀ K' : Act → World → Prop, Hd (∀ a w, S w → wpLin2 P l Q S d r a w → K' a w) → if Region.wanted (l.getD i d) (yielded l.toArray a.tmps) = true then Oper.wp P (l.getD i d) a w K' Q else K' (a.put (l.getD i d).dst undef) w) :
    wpLin2 P l Q S d ((i, 1) :: r) a w := by
  have e : wpLin2 P l Q S d ((i, 1) :: r) a w = getB P l.toArray Q (l.getD i d) (fun a' w' => S w' ∧ wpLin2 P l Q S d r a' w') a w := by
    cases r <;> rfl
  rw [e]
  exact h _ ⟨fun a w hS hW => ⟨hS, hW⟩⟩
theorem lin2_pair {l : List Oper} {d : Oper} {i j k : Nat} {r : List (Nat × Nat)} {a : Act} {w : World}
    (h1 : ∀ K1 : Act → World → Prop, Hd (∀ a w, S w → (∀ K' : Act → World → Prop, Hd (∀ a w, S w → wpLin2 P l Q S d r a w → K' a w) → if Region.wanted (l.getD j d) (yielded l.toArray a.tmps) = true then Oper.wp P (l.getD j d) a w K' Q else K' (a.put (l.getD j d).dst undef) w) → K1 a w) → if Region.wanted (l.getD i d) (yielded l.toArray a.tmps) = true then Oper.wp P (l.getD i d) a w K1 Q else K1 (a.put (l.getD i d).dst undef) w)
    (h2 : ∀ K1 : Act → World → Prop, Hd (∀ a w, S w → (∀ K' : Act → World → Prop, Hd (∀ a w, S w → wpLin2 P l Q S d r a w → K' a w) → if Region.wanted (l.getD i d) (yielded l.toArray a.tmps) = true then Oper.wp P (l.getD i d) a w K' Q else K' (a.put (l.getD i d).dst undef) w) → K1 a w) → if Region.wanted (l.getD j d) (yielded l.toArray a.tmps) = true then Oper.wp P (l.getD j d) a w K1 Q else K1 (a.put (l.getD j d).dst undef) w) :
    wpLin2 P l Q S d ((i, 2) :: (j, k) :: r) a w :=
  ⟨h1 _ ⟨fun a w hS h => ⟨hS, h _ ⟨fun a w hS hW => ⟨hS, hW⟩⟩⟩⟩, h2 _ ⟨fun a w hS h => ⟨hS, h _ ⟨fun a w hS hW => ⟨hS, hW⟩⟩⟩⟩⟩
end

end Go.Proofs.Ytmgkoocpnakanaa.W
