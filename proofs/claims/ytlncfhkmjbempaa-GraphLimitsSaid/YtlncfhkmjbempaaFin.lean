/-
  The finder's memory.
-/
import Derived.Test.YtlncfhkmjbempaaSep
import Derived.Test.YtlncfhkmjbempaaOrd3
import Derived.Deep.Cut
namespace Go.Proofs.Ytlncfhkmjbempaa.W
open Go.RowKit
set_option linter.unusedVariables false

def cellsF (n : Nat) (f : Nat → Nat) : List Value := (List.range n).map fun u => .int .i64 (f u : Int)
def intC (l : List Nat) : List Value := l.map fun (u : Nat) => .int .i64 (u : Int)
theorem ints_intL (l : List Nat) : ints (intL l) = intC l := by unfold ints intL intC; rw [List.map_map]; rfl
def partsI (n : Nat) (np : Nat) (prt : Nat → Nat) : List (List Int) := (List.range np).map fun k => intL (Tj.nodesOf n prt (k + 1))

/-- where the finder's things lie -/
structure Fp where
  B : Nat
  n : Nat
  F : Nat
  C : Nat
  gi : Nat
  gl : Nat
  gp : Nat
  nv : Value
  nvs : List Value
  nl : List (List Int)

def ptr (b : Nat) : Value := .pointer (some ⟨b, 0, none⟩)
def full (g n : Nat) : Value := .slice (some ⟨g, 0, none⟩) n n

def FinL (p : Fp) (sv pv : Value) (pvs : List Value) (pl : List (List Int)) (cnt : Nat) (idx low prt : Nat → Nat) (stk : List Nat) : List Asr :=
  [oC p.B p.F 45 [p.nv, full p.gi p.n, full p.gl p.n, sv, full p.gp p.n, pv], oC p.B p.C 3 [.int .i64 (cnt : Int)], oR p.B p.nv p.nvs p.nl,
   oI p.B 3 (full p.gi p.n) (cellsF p.n idx), oI p.B 3 (full p.gl p.n) (cellsF p.n low), oI p.B 3 (full p.gp p.n) (cellsF p.n prt),
   oI p.B 3 sv (intC stk.reverse), oR p.B pv pvs pl]
/-- at a state of the machine -/
abbrev FinT (p : Fp) (sv pv : Value) (pvs : List Value) (pl : List (List Int)) (s : Tj.Ts) : List Asr := FinL p sv pv pvs pl s.cnt s.idx s.low s.prt s.stk
/-- .. and find's own variables -/
def BoxL (p : Fp) (cb fb : Nat) (R : List Asr) : List Asr := oC p.B cb 47 [ptr p.C] :: oC p.B fb 64 [ptr p.F] :: R

theorem cellsF_set {n : Nat} {f : Nat → Nat} {v : Nat} (hv : v < n) (x : Nat) : (cellsF n f).set v (.int .i64 (x : Int)) = cellsF n (Tj.upd f v x) := by
  apply List.ext_getElem
  · simp [cellsF]
  · intro j h1 h2
    rw [List.getElem_set]
    simp only [cellsF, List.getElem_map, List.getElem_range, Tj.upd]
    by_cases e : v = j
    · subst e; simp
    · have : ¬ j = v := fun h => e h.symm
      rw [if_neg e, if_neg this]
theorem cellsF_at {n : Nat} {f : Nat → Nat} {v : Nat} (hv : v < n) : (cellsF n f)[v]? = some (.int .i64 (f v : Int)) := by simp [cellsF, hv]
theorem cellsF_len (n : Nat) (f : Nat → Nat) : (cellsF n f).length = n := by simp [cellsF]

section
variable {p : Fp} {sv pv : Value} {pvs : List Value} {pl : List (List Int)} {cnt : Nat} {idx low prt : Nat → Nat} {stk : List Nat} {X : List Asr} {w : World}

structure FinC (p : Fp) (sv pv : Value) (cnt : Nat) (w : World) : Prop where
  f0 : w.cell? ⟨p.F, 0, none⟩ = some p.nv
  f1 : w.cell? ⟨p.F, 1, none⟩ = some (.slice (some ⟨p.gi, 0, none⟩) p.n p.n)
  f2 : w.cell? ⟨p.F, 2, none⟩ = some (.slice (some ⟨p.gl, 0, none⟩) p.n p.n)
  f3 : w.cell? ⟨p.F, 3, none⟩ = some sv
  f4 : w.cell? ⟨p.F, 4, none⟩ = some (.slice (some ⟨p.gp, 0, none⟩) p.n p.n)
  f5 : w.cell? ⟨p.F, 5, none⟩ = some pv
  c0 : w.cell? ⟨p.C, 0, none⟩ = some (.int .i64 (cnt : Int))
  ff : ∀ j, w.frozen? ⟨p.F, j, none⟩ = false
  cf : w.frozen? ⟨p.C, 0, none⟩ = false

theorem Fin.cells (h : Sep w (FinL p sv pv pvs pl cnt idx low prt stk ++ X)) : FinC p sv pv cnt w := by
  have hF := h.blk 0 rfl
  have hC := h.blk 1 rfl
  exact ⟨hF.at rfl, hF.at rfl, hF.at rfl, hF.at rfl, hF.at rfl, hF.at rfl, hC.at rfl, fun j => hF.free j, hC.free 0⟩
theorem Fin.boxes {cb fb : Nat} {R : List Asr} (h : Sep w (FinL p sv pv pvs pl cnt idx low prt stk ++ BoxL p cb fb R)) : w.cell? ⟨cb, 0, none⟩ = some (.pointer (some ⟨p.C, 0, none⟩)) ∧ w.cell? ⟨fb, 0, none⟩ = some (.pointer (some ⟨p.F, 0, none⟩)) :=
  ⟨(h.blk 8 rfl).at rfl, (h.blk 9 rfl).at rfl⟩
theorem Fin.idxAt (h : Sep w (FinL p sv pv pvs pl cnt idx low prt stk ++ X)) {v : Nat} (hv : v < p.n) : w.cell? ⟨p.gi, v, none⟩ = some (.int .i64 (idx v : Int)) ∧ w.frozen? ⟨p.gi, v, none⟩ = false := (h.own 3 rfl).at (cellsF_at hv)
theorem Fin.lowAt (h : Sep w (FinL p sv pv pvs pl cnt idx low prt stk ++ X)) {v : Nat} (hv : v < p.n) : w.cell? ⟨p.gl, v, none⟩ = some (.int .i64 (low v : Int)) ∧ w.frozen? ⟨p.gl, v, none⟩ = false := (h.own 4 rfl).at (cellsF_at hv)
theorem Fin.prtAt (h : Sep w (FinL p sv pv pvs pl cnt idx low prt stk ++ X)) {v : Nat} (hv : v < p.n) : w.cell? ⟨p.gp, v, none⟩ = some (.int .i64 (prt v : Int)) ∧ w.frozen? ⟨p.gp, v, none⟩ = false := (h.own 5 rfl).at (cellsF_at hv)

theorem Fin.setC (h : Sep w (FinL p sv pv pvs pl cnt idx low prt stk ++ X)) (x : Nat) : Sep (w.setCell ⟨p.C, 0, none⟩ (.int .i64 (x : Int))) (FinL p sv pv pvs pl x idx low prt stk ++ X) :=
  h.set_blk 1 rfl 0 _
theorem Fin.setI (h : Sep w (FinL p sv pv pvs pl cnt idx low prt stk ++ X)) {v : Nat} (hv : v < p.n) (x : Nat) : Sep (w.setCell ⟨p.gi, v, none⟩ (.int .i64 (x : Int))) (FinL p sv pv pvs pl cnt (Tj.upd idx v x) low prt stk ++ X) := by
  have := h.set_own 3 rfl v (.int .i64 (x : Int))
  rw [cellsF_set hv] at this
  exact this
theorem Fin.setL (h : Sep w (FinL p sv pv pvs pl cnt idx low prt stk ++ X)) {v : Nat} (hv : v < p.n) (x : Nat) : Sep (w.setCell ⟨p.gl, v, none⟩ (.int .i64 (x : Int))) (FinL p sv pv pvs pl cnt idx (Tj.upd low v x) prt stk ++ X) := by
  have := h.set_own 4 rfl v (.int .i64 (x : Int))
  rw [cellsF_set hv] at this
  exact this
theorem Fin.setP (h : Sep w (FinL p sv pv pvs pl cnt idx low prt stk ++ X)) {v : Nat} (hv : v < p.n) (x : Nat) : Sep (w.setCell ⟨p.gp, v, none⟩ (.int .i64 (x : Int))) (FinL p sv pv pvs pl cnt idx low (Tj.upd prt v x) stk ++ X) := by
  have := h.set_own 5 rfl v (.int .i64 (x : Int))
  rw [cellsF_set hv] at this
  exact this
/-- the stack grows by one; its slice is laid back -/
theorem Fin.push (h : Sep w (FinL p sv pv pvs pl cnt idx low prt stk ++ X)) {w' : World} {sv' : Value} {v : Nat} (k : Keeps (fun g => sv.ownBlock = some g) w w') (ho : Own w' p.B 3 sv' (intC stk.reverse ++ [.int .i64 (v : Int)]))
    (hb : sv'.ownBlock = sv.ownBlock ∨ sv'.ownBlock = none ∨ ∃ g, w.heap.size ≤ g ∧ sv'.ownBlock = some g) : Sep (w'.setCell ⟨p.F, 3, none⟩ sv') (FinL p sv' pv pvs pl cnt idx low prt (v :: stk) ++ X) := by
  have e : intC stk.reverse ++ [.int .i64 (v : Int)] = intC (v :: stk).reverse := by simp [intC]
  rw [e] at ho
  have := h.put_own 6 rfl k ho hb
  exact this.set_blk 0 rfl 3 sv'
/-- blocks from B on are theirs -/
theorem Fin.bs (h : Sep w (FinL p sv pv pvs pl cnt idx low prt stk ++ X)) : p.B ≤ p.F ∧ p.B ≤ p.C ∧ p.B ≤ p.gi ∧ p.B ≤ p.gl ∧ p.B ≤ p.gp ∧ p.F < w.heap.size :=
  ⟨h.blkB 0 rfl, h.blkB 1 rfl, ((h.own 3 rfl).lt rfl).1, ((h.own 4 rfl).lt rfl).1, ((h.own 5 rfl).lt rfl).1, (h.blk 0 rfl).lt⟩
theorem Fin.top (h : Sep w (FinL p sv pv pvs pl cnt idx low prt stk ++ X)) {g : Nat} (hg : sv.ownBlock = some g) : p.B ≤ g := ((h.own 6 rfl).lt hg).1

end

end Go.Proofs.Ytlncfhkmjbempaa.W
