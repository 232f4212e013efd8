/-
  The heap: up, down, Push, Pop.
-/
import Derived.Test.YtlncfhkmjbempaaFpl
import Derived.Test.YtlncfhkmjbempaaHpW
namespace Go.Proofs.Ytlncfhkmjbempaa.W
open Go.RowKit
set_option linter.unusedVariables false

/-- the heap's memory: the variable (at a), its row (at b), the parts (at q) -/
structure HpA (w : World) (L : List Asr) (a b q : Nat) (B hb : Nat) (hv pv : Value) (pvs : List Value) (ls : List (List Int)) (key : Nat → Nat) (hl : List Nat) : Prop where
  sep : Sep w ((L.set a (oC B hb 49 [hv])).set b (oI B 23 hv (hl.map fun k => pvs.getD k undef)))
  ab : a ≠ b
  qb : q ≠ b
  qa : q ≠ a
  al : a < L.length
  bl : b < L.length
  lq : L[q]? = some (oR B pv pvs ls)
  big : hl.length ≤ 262144
  keys : ∀ k, k ∈ hl → ∃ r, ls[k]? = some ((key k : Int) :: r)

/-- a part's slice and its first node -/
theorem part_key {w : World} {B : Nat} {pv : Value} {pvs : List Value} {ls : List (List Int)} {k x : Nat} {r : List Int} (h : RowsO w B pv pvs ls) (hk : ls[k]? = some ((x : Int) :: r)) :
    ∃ g c, pvs.getD k undef = .slice (some ⟨g, 0, none⟩) (r.length + 1) c ∧ w.cell? ⟨g, 0, none⟩ = some (.int .i64 (x : Int)) := by
  have hkl := (List.getElem?_eq_some_iff.1 hk).1
  have hkv : k < pvs.length := by rw [h.len]; exact hkl
  have e : pvs[k]? = some pvs[k] := List.getElem?_eq_getElem hkv
  have ho := h.each k _ _ e hk
  obtain ⟨g, c, hs⟩ := ho.slice (by simp [ints])
  refine ⟨g, c, ?_, ?_⟩
  · rw [List.getD_eq_getElem?_getD, e, Option.getD_some, hs]; simp [ints]
  · rw [hs] at ho; exact (ho.at (j := 0) rfl).1

section
variable {w w' : World} {L : List Asr} {a b q B hb : Nat} {hv hv' pv : Value} {pvs : List Value} {ls : List (List Int)} {key : Nat → Nat} {hl hl' : List Nat}

theorem HpA.own (h : HpA w L a b q B hb hv pv pvs ls key hl) : Own w B 23 hv (hl.map fun k => pvs.getD k undef) := h.sep.own b (List.getElem?_set_self (by simpa using h.bl))
theorem HpA.var (h : HpA w L a b q B hb hv pv pvs ls key hl) : Blk w hb 49 [hv] ∧ B ≤ hb := by
  have e : ((L.set a (oC B hb 49 [hv])).set b (oI B 23 hv (hl.map fun k => pvs.getD k undef)))[a]? = some (oC B hb 49 [hv]) := by
    rw [List.getElem?_set_ne (fun e => h.ab e.symm)]; exact List.getElem?_set_self h.al
  exact ⟨h.sep.blk a e, h.sep.blkB a e⟩
theorem HpA.parts (h : HpA w L a b q B hb hv pv pvs ls key hl) : RowsO w B pv pvs ls := by
  refine h.sep.rows q ?_
  rw [List.getElem?_set_ne (fun e => h.qb e.symm), List.getElem?_set_ne (fun e => h.qa e.symm)]; exact h.lq

/-- the row changes in place -/
theorem HpA.row (h : HpA w L a b q B hb hv pv pvs ls key hl) (ho : Own w' B 23 hv (hl'.map fun k => pvs.getD k undef)) (k : Keeps (fun g => hv.ownBlock = some g) w w') (hm : ∀ k, k ∈ hl' → k ∈ hl) (hlen : hl'.length ≤ hl.length) : HpA w' L a b q B hb hv pv pvs ls key hl' := by
  refine ⟨?_, h.ab, h.qb, h.qa, h.al, h.bl, h.lq, Nat.le_trans hlen h.big, fun k hk => h.keys k (hm k hk)⟩
  have := h.sep.put_own b (List.getElem?_set_self (by simpa using h.bl)) k ho (.inl rfl)
  rwa [List.set_set] at this

theorem HpA.swap {g m c : Nat} (h : HpA w L a b q B hb (.slice (some ⟨g, 0, none⟩) m c) pv pvs ls key hl) {i j : Nat} (hi : i < hl.length) (hj : j < hl.length)
    (ho : Own w' B 23 (.slice (some ⟨g, 0, none⟩) m c) (((hl.map fun k => pvs.getD k undef).set i (pvs.getD (hl.getD j 0) undef)).set j (pvs.getD (hl.getD i 0) undef))) (k : Keeps (fun k => k = g) w w') :
    HpA w' L a b q B hb (.slice (some ⟨g, 0, none⟩) m c) pv pvs ls key (Tj.swapL hl i j) := by
  have e : ((hl.map fun k => pvs.getD k undef).set i (pvs.getD (hl.getD j 0) undef)).set j (pvs.getD (hl.getD i 0) undef) = (Tj.swapL hl i j).map fun k => pvs.getD k undef := by
    simp only [Tj.swapL, List.map_set]
  rw [e] at ho
  exact h.row ho (k.mono (fun k _ e => by subst e; rfl)) (fun k hk => (Tj.swapL_perm hi hj).mem_iff.1 hk) (Nat.le_of_eq (Tj.swapL_len _ _ _))

theorem HpA.below (h : HpA w L a b q B hb hv pv pvs ls key hl) (hk : Below w.heap.size w w') : HpA w' L a b q B hb hv pv pvs ls key hl :=
  ⟨h.sep.below hk, h.ab, h.qb, h.qa, h.al, h.bl, h.lq, h.big, h.keys⟩

theorem getD_mem {l : List Nat} {i : Nat} (h : i < l.length) : l.getD i 0 ∈ l := by
  rw [List.getD_eq_getElem?_getD, List.getElem?_eq_getElem h]; exact List.getElem_mem h
theorem map_getD {l : List Nat} {i : Nat} (f : Nat → Value) (h : i < l.length) : (l.map f)[i]? = some (f (l.getD i 0)) := by
  rw [List.getElem?_map, List.getD_eq_getElem?_getD, List.getElem?_eq_getElem h]; rfl

/-- an element's slice -/
theorem HpA.elem (h : HpA w L a b q B hb hv pv pvs ls key hl) {i : Nat} (hi : i < hl.length) : ∃ gi mi ci, pvs.getD (hl.getD i 0) undef = .slice (some ⟨gi, 0, none⟩) (mi + 1) ci ∧ w.cell? ⟨gi, 0, none⟩ = some (.int .i64 (Tj.kx key hl i : Int)) := by
  obtain ⟨r, hr⟩ := h.keys _ (getD_mem hi)
  obtain ⟨gi, ci, e1, e2⟩ := part_key h.parts hr
  exact ⟨gi, r.length, ci, e1, e2⟩

/-- Less through the interface -/
theorem HpA.less {g m c : Nat} (h : HpA w L a b q B hb (.slice (some ⟨g, 0, none⟩) m c) pv pvs ls key hl) {i j : Nat} (hi : i < hl.length) (hj : j < hl.length) :
    Calls Try.prog 92 #[.slice (some ⟨g, 0, none⟩) m c, .int .i64 i, .int .i64 j] w fun e w' => e = .returned (.bool (decide (Tj.kx key hl i < Tj.kx key hl j))) ∧ Below w.heap.size w w' := by
  obtain ⟨gi, mi, ci, e1, e2⟩ := h.elem hi
  obtain ⟨gj, mj, cj, e3, e4⟩ := h.elem hj
  have hml : m = hl.length := by
    rcases h.own.is with ⟨e, _⟩ | ⟨g', cap, e, _⟩
    · cases e
    · injection e with _ e _; rw [e]; simp
  have c1 := (h.own.at (map_getD (fun k => pvs.getD k undef) hi)).1
  have c2 := (h.own.at (map_getD (fun k => pvs.getD k undef) hj)).1
  rw [e1] at c1
  rw [e3] at c2
  have hb := h.big
  refine (fless_any w g m c i j gi mi ci gj mj cj _ _ (by omega) (by omega) (by omega) c1 c2 e2 e4).mono ?_
  rintro e w' ⟨rfl, hk⟩
  refine ⟨?_, hk⟩
  congr 2
  simp

/-- Swap through the interface -/
theorem HpA.swapC {g m c : Nat} (h : HpA w L a b q B hb (.slice (some ⟨g, 0, none⟩) m c) pv pvs ls key hl) {i j : Nat} (hi : i < hl.length) (hj : j < hl.length) (hB : B ≤ w.heap.size) :
    Calls Try.prog 95 #[.slice (some ⟨g, 0, none⟩) m c, .int .i64 i, .int .i64 j] w fun e w' => e = .returned (.tuple #[]) ∧ HpA w' L a b q B hb (.slice (some ⟨g, 0, none⟩) m c) pv pvs ls key (Tj.swapL hl i j) ∧ Below B w w' := by
  obtain ⟨gi, mi, ci, e1, e2⟩ := h.elem hi
  obtain ⟨gj, mj, cj, e3, e4⟩ := h.elem hj
  have hml : m = hl.length := by
    rcases h.own.is with ⟨e, _⟩ | ⟨g', cap, e, _⟩
    · cases e
    · injection e with _ e _; rw [e]; simp
  have c1 := map_getD (fun k => pvs.getD k undef) hi
  have c2 := map_getD (fun k => pvs.getD k undef) hj
  have d1 := c1
  have d2 := c2
  rw [e1] at c1
  rw [e3] at c2
  have hbg := h.big
  have hgB := (h.own.lt (k := g) rfl).1
  refine (fswap_any w B g m c i j _ _ _ _ _ _ _ h.own (by omega) (by omega) (by omega) c1 c2).mono ?_
  rintro e w' ⟨rfl, ho, hk⟩
  rw [← e3, ← e1] at ho
  exact ⟨rfl, h.swap hi hj ho hk, hk.below hB (fun k h1 h2 => by have : k = g := h2; omega)⟩
end

end Go.Proofs.Ytlncfhkmjbempaa.W
