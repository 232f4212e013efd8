/-
  A region that draws its order, walked in one order that is told: free operations (they yield their value in every world that meets S, and leave the world) are taken as soon as they may come up; each other one is the only one that may come up then.
-/
import Derived.Test.YtmgkoocpnakanaaL
import Derived.OrdersHeld
import Derived.Deep.RegionHeld3
namespace Go.Proofs.Ytmgkoocpnakanaa.W
open Go.RowKit
set_option linter.unusedVariables false

section
variable {P : Program} {ops : Array Oper} {Q : Exit → Act → World → Prop} {S : World → Prop}

def wpOrd (P : Program) (ops : Array Oper) (Q : Exit → Act → World → Prop) (S : World → Prop) : List (Nat × Bool) → Act → World → Prop
  | [], a, w => Q .normal a w
  | (i, true) :: r, a, w => ∃ o v, ops[i]? = some o ∧ YieldsIf P ops S o v a ∧ wpOrd P ops Q S r (a.put o.dst v) w
  | (i, false) :: r, a, w => wpOp P ops Q i (fun a' w' => S w' ∧ wpOrd P ops Q S r a' w') a w

def ordB (ops : Array Oper) : List (Nat × Bool) → Array Bool → Bool
  | [], listed => (Region.ready .any ops listed).isEmpty
  | (i, true) :: r, listed => (Region.ready .any ops listed).contains i && Region.free .any ops listed i && ordB ops r (listed.setIfInBounds i true)
  | (i, false) :: r, listed => decide (Region.ready .any ops listed = [i]) && ordB ops r (listed.setIfInBounds i true)

theorem wpAnyH_of_ord (hsel : Region.noSelect ops = true) (hQ : ∀ c a w, ¬ Q (.panic c) a w) : ∀ (l : List (Nat × Bool)) (listed : Array Bool) (a : Act) (w : World),
    ordB ops l listed = true → S w → wpOrd P ops Q S l a w → wpAnyH P .any ops Q S l.length listed a w
  | [], listed, a, w, hB, hS, h => ⟨by simpa [ordB] using hB, h⟩
  | (i, true) :: r, listed, a, w, hB, hS, h => by
    simp only [ordB, Bool.and_eq_true] at hB
    obtain ⟨⟨hr, hf⟩, hB'⟩ := hB
    obtain ⟨o, v, ho, hy, h'⟩ := h
    exact wpAnyH_take ho hsel hf hr (fun c a w hq => absurd hq (hQ c _ w)) hy hS (wpAnyH_of_ord hsel hQ r _ _ w hB' hS h')
  | (i, false) :: r, listed, a, w, hB, hS, h => by
    simp only [ordB, Bool.and_eq_true, decide_eq_true_eq] at hB
    refine wpAnyH_all hB.1 (by simp) (fun j hj => ?_)
    have hji : j = i := by simpa using hj
    subst hji
    exact wpOp_mono (fun a' w' h' => ⟨h'.1, wpAnyH_of_ord hsel hQ r _ a' w' hB.2 h'.1 h'.2⟩) h

theorem wp_region_ord {id : Nat} {a : Act} {w : World} (S : World → Prop) (l : List (Nat × Bool)) (hm : P.follows .mixedOrders = true) (hsel : Region.noSelect ops = true) (hn : l.length = ops.size)
    (hB : ordB ops l (Array.replicate ops.size false) = true) (hS : S w.drew) (h : wpOrd P ops (NoPanic Q) S l a w.drew) : (Code.region id ops true).wp P Q a w :=
  wp_region_noPanic (wp_region_held_drew (S := S) hm hS (fun _ => by
    have := wpAnyH_of_ord (S := S) hsel (fun c a w h => h) l _ a w.drew hB hS h
    rwa [hn] at this))

/-- the operations written out, in the order told -/
def wpLin (P : Program) (ops : Array Oper) (Q : Exit → Act → World → Prop) (S : World → Prop) : List (Oper × Bool) → Act → World → Prop
  | [], a, w => Q .normal a w
  | (o, true) :: r, a, w => ∃ v, YieldsIf P ops S o v a ∧ wpLin P ops Q S r (a.put o.dst v) w
  | (o, false) :: r, a, w => (if Region.wanted o (yielded ops a.tmps) = true then Oper.wp P o a w (fun a' w' => S w' ∧ wpLin P ops Q S r a' w') Q else S w ∧ wpLin P ops Q S r (a.put o.dst undef) w)
def pick (d : Oper) (l : List Oper) : List (Nat × Bool) → List (Oper × Bool)
  | [] => []
  | (i, b) :: r => (l.getD i d, b) :: pick d l r

theorem ord_of_lin {d : Oper} {l : List Oper} : ∀ (r : List (Nat × Bool)) (a : Act) (w : World), (∀ x ∈ r, x.1 < l.length) → wpLin P l.toArray Q S (pick d l r) a w → wpOrd P l.toArray Q S r a w
  | [], a, w, _, h => h
  | (i, true) :: r, a, w, hi, h => by
    obtain ⟨v, hy, h'⟩ := h
    have hl := hi (i, true) (by simp)
    have e : l.getD i d = l[i] := by simp [List.getD_eq_getElem?_getD, hl]
    rw [e] at hy h'
    exact ⟨l[i], v, by simp, hy, ord_of_lin r _ w (fun x hx => hi x (List.mem_cons_of_mem _ hx)) h'⟩
  | (i, false) :: r, a, w, hi, h => by
    have hl := hi (i, false) (by simp)
    have e : l.getD i d = l[i] := by simp [List.getD_eq_getElem?_getD, hl]
    have h2 : if Region.wanted (l.getD i d) (yielded l.toArray a.tmps) = true then Oper.wp P (l.getD i d) a w (fun a' w' => S w' ∧ wpLin P l.toArray Q S (pick d l r) a' w') Q else S w ∧ wpLin P l.toArray Q S (pick d l r) (a.put (l.getD i d).dst undef) w := h
    rw [e] at h2
    refine wpOp_step (o := l[i]) (by simp) (fun K' hK => ?_)
    have hK2 : ∀ a' w', (S w' ∧ wpLin P l.toArray Q S (pick d l r) a' w') → K' a' w' := fun a' w' h' => hK a' w' ⟨h'.1, ord_of_lin r a' w' (fun x hx => hi x (List.mem_cons_of_mem _ hx)) h'.2⟩
    split
    · rename_i hw
      rw [if_pos hw] at h2
      exact Oper.wp_mono (fun a' w' h' => hK2 a' w' h') h2
    · rename_i hw
      rw [if_neg hw] at h2
      exact hK2 _ _ h2

theorem wp_region_lin {id : Nat} {a : Act} {w : World} {l : List Oper} (d : Oper) (S : World → Prop) (r : List (Nat × Bool)) (hm : P.follows .mixedOrders = true) (hsel : Region.noSelect l.toArray = true) (hn : r.length = l.length)
    (hB : ordB l.toArray r (Array.replicate l.toArray.size false) = true) (hi : (r.all fun x => decide (x.1 < l.length)) = true) (hS : S w.drew) (h : wpLin P l.toArray (NoPanic Q) S (pick d l r) a w.drew) : (Code.region id l.toArray true).wp P Q a w :=
  wp_region_ord S r hm hsel (by simpa using hn) hB hS (ord_of_lin r a w.drew (fun x hx => by simpa using List.all_eq_true.1 hi x hx) h)

/-- one free operation -/
theorem lin_free {o : Oper} {v : Value} {r : List (Oper × Bool)} {a : Act} {w : World} (hw : Region.wanted o (yielded ops a.tmps) = true)
    (hy : ∀ w', S w' → (execOp a.eval o).run P w' = .ok (.value v) w') (h : wpLin P ops Q S r (a.put o.dst v) w) : wpLin P ops Q S ((o, true) :: r) a w :=
  ⟨v, .inl ⟨hw, hy⟩, h⟩
theorem lin_skip {o : Oper} {r : List (Oper × Bool)} {a : Act} {w : World} (hw : Region.wanted o (yielded ops a.tmps) = false)
    (h : wpLin P ops Q S r (a.put o.dst undef) w) : wpLin P ops Q S ((o, true) :: r) a w :=
  ⟨undef, .inr ⟨hw, rfl⟩, h⟩
/-- one that makes or writes memory, or calls -/
theorem lin_bound {o : Oper} {r : List (Oper × Bool)} {a : Act} {w : World}
    (h : ∀ K' : Act → World → Prop, Hd (∀ a w, S w → wpLin P ops Q S r a w → K' a w) → if Region.wanted o (yielded ops a.tmps) = true then Oper.wp P o a w K' Q else K' (a.put o.dst undef) w) :
    wpLin P ops Q S ((o, false) :: r) a w :=
  h _ ⟨fun a w hS hW => ⟨hS, hW⟩⟩
end

end Go.Proofs.Ytmgkoocpnakanaa.W
