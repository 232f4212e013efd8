/-
  A map by strings that the call has made: its entries, whatever the elements are. No program but the strings' type.
-/
import Derived.Test.YtimbhnnidohmaaaDoorL
import Derived.Maps.OwnSet
import Derived.Maps.Views
import Derived.StringKeys
namespace Go.Proofs.YtimbhnnidohmaaaDoor.W
open Go.RowKit Go.Maps Go.WideMaps
set_option linter.unusedVariables false

def idR (v : Value) : Option (DataW Value × List MemPlace) := some (.held v, [])
def lookV {α : Type} (kv : List (ByteArray × α)) (s : ByteArray) : Option α := (kv.find? fun x => decide (x.1 = s)).map (·.2)
theorem lookV_snoc {α : Type} (kv : List (ByteArray × α)) (k s : ByteArray) (x : α) : lookV (kv ++ [(k, x)]) s = match lookV kv s with | some y => some y | none => if k = s then some x else none := by
  unfold lookV
  rw [List.find?_append]
  generalize List.find? (fun x => decide (x.1 = s)) kv = o
  cases o with
  | none => by_cases e : k = s <;> simp [e]
  | some y => rfl

def keyL (s : ByteArray) : Lit := .string s.data.toList
theorem keyL_ne {a b : ByteArray} (h : a ≠ b) : keyL a ≠ keyL b := fun e => h (by
  injection e with e
  exact ByteArray.ext (Array.toList_inj.1 e))

structure MapAt (w : World) (b : Nat) (kv : List (ByteArray × Value)) : Prop where
  is : ∃ D : DataW Value, w.ownsMap Tryd.prog 9 idR b kv.length D ∧ IsMap D ∧ (∀ s, has D (keyL s) = (lookV kv s).isSome) ∧ ∀ s x z, lookV kv s = some x → D.atKey (keyL s) z = .held x

theorem MapAt.made (w : World) : MapAt (w.alloc (.map #[] 0)) w.heap.size [] :=
  ⟨.map [], World.ownsMap_made _ _ _ _, isMap_empty, fun s => rfl, fun s x z h => by cases h⟩
theorem MapAt.lt {w : World} {b : Nat} {kv : List (ByteArray × Value)} (h : MapAt w b kv) : b < w.heap.size := by
  obtain ⟨D, h, _⟩ := h.is; exact h.lt
theorem MapAt.keeps {S : Nat → Prop} {w w' : World} {b : Nat} {kv : List (ByteArray × Value)} (h : MapAt w b kv) (k : Keeps S w w') (hs : ¬ S b) : MapAt w' b kv := by
  have hlt := h.lt
  obtain ⟨D, ⟨es, clock, hb, F, hn, hD⟩, h2, h3⟩ := h.is
  exact ⟨D, ⟨es, clock, (k.block b hlt hs).trans hb, F, hn, hD⟩, h2, h3⟩
theorem MapAt.not_cells {w : World} {b : Nat} {kv : List (ByteArray × Value)} (h : MapAt w b kv) {cs : Array Value} {T : TypeId} {f : Nat × Nat} (hc : w.heap[b]? = some (.cells cs T f)) : False := by
  obtain ⟨D, ⟨es, clock, hb, _⟩, _⟩ := h.is
  rw [hc] at hb; cases hb

set_option maxRecDepth 100000 in
/-- 'v, ok := m[s]' -/
theorem MapAt.look {w : World} {b : Nat} {kv : List (ByteArray × Value)} (h : MapAt w b kv) {t e : TypeId} (ht : Tryd.prog.underlying t = some (.map 9 e)) {z : Value} (hz : (zeroValue e).run Tryd.prog w = .ok z w) (s : ByteArray) (hs : s.size ≤ maxLen) :
    (Instr.lookup t (.map (some b)) (.string s) true).run Tryd.prog w = .ok (.tuple #[(lookV kv s).getD z, .bool (lookV kv s).isSome]) w := by
  obtain ⟨D, hown, _, hh, ha⟩ := h.is
  obtain ⟨v, ps, hrun, hv⟩ := hown.look_ok (string_keyed Tryd.underlying9) ht hz (zd := .held z) (zp := []) rfl (keyOf_string_mk Tryd.underlying9 hs)
  rw [hrun, show has D (.string s.data.toList) = (lookV kv s).isSome from hh s]
  rcases hl : lookV kv s with _ | x
  · have h0 : has D (keyL s) = false := by rw [hh, hl]; rfl
    have := atKey_of_not_has h0 (.held z)
    rw [show D.atKey (.string s.data.toList) (.held z) = .held z from this] at hv
    injection hv with hv; injection hv with hv _; injection hv with hv
    rw [hv]; rfl
  · have := ha s x (.held z) hl
    rw [show D.atKey (.string s.data.toList) (.held z) = .held x from this] at hv
    injection hv with hv; injection hv with hv _; injection hv with hv
    rw [hv]; rfl

set_option maxRecDepth 100000 in
/-- 'm[s] = v' at a new key -/
theorem MapAt.store {w : World} {b : Nat} {kv : List (ByteArray × Value)} (h : MapAt w b kv) {t e : TypeId} (ht : Tryd.prog.underlying t = some (.map 9 e)) (s : ByteArray) (hs : s.size ≤ maxLen) (x : Value) (hn : kv.length < maxLen) (hnew : lookV kv s = none) :
    ∃ w', (Instr.mapUpdate t (.map (some b)) (.string s) x).run Tryd.prog w = .ok () w' ∧ MapAt w' b (kv ++ [(s, x)]) ∧ Keeps (· = b) w w' := by
  obtain ⟨D, hown, hm, hh, ha⟩ := h.is
  obtain ⟨w', hrun, hown', hg⟩ := hown.update (string_keyed Tryd.underlying9) ht hn (val := x) (d := .held x) (ps := []) (keyOf_string_mk Tryd.underlying9 hs) rfl
  refine ⟨w', hrun, ⟨D.put (keyL s) (.held x), by rw [List.length_append]; exact hown', hm.put _ _, fun s' => ?_, fun s' y z hy => ?_⟩, ⟨hg.os, hg.tape, hg.output, hg.size, fun k hk hn => hg.block k hk (fun e => hn (Option.some.inj e))⟩⟩
  · rw [lookV_snoc]
    by_cases e : s = s'
    · subst e
      rw [has_put_same hm (by trivial), hnew]; simp
    · rw [has_put_other (keyL_ne (fun h => e h.symm)), hh]
      rcases lookV kv s' with _ | y
      · simp [e]
      · rfl
  · rw [lookV_snoc] at hy
    by_cases e : s = s'
    · subst e
      rw [hnew] at hy
      simp at hy
      subst hy
      exact atKey_put_same hm (by trivial) _ _
    · rw [atKey_put_other (keyL_ne (fun h => e h.symm))]
      rcases hl : lookV kv s' with _ | y'
      · rw [hl] at hy; simp [e] at hy
      · rw [hl] at hy
        simp at hy
        subst hy
        exact ha s' y' z hl

end Go.Proofs.YtimbhnnidohmaaaDoor.W
