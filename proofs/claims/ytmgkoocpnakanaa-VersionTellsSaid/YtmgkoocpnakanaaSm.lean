import Derived.Test.YtmgkoocpnakanaaLo
/-
  The reference's Less, Same, SameLists.
-/
namespace Go.Proofs.Ytmgkoocpnakanaa.W
open Go.RowKit
set_option linter.unusedVariables false

def lessI : List Int → List Int → Bool
  | [], [] => false
  | [], _ :: _ => true
  | _ :: _, [] => false
  | x :: xs, y :: ys => if x = y then lessI xs ys else decide (x < y)
theorem lessI_same : ∀ (a b : List Int), (!lessI a b && !lessI b a) = decide (a = b)
  | [], [] => rfl
  | [], _ :: _ => rfl
  | _ :: _, [] => rfl
  | x :: xs, y :: ys => by
    simp only [lessI]
    by_cases h : x = y
    · subst h
      rw [if_pos rfl, if_pos rfl, lessI_same xs ys]
      simp
    · have h' : ¬ y = x := fun e => h e.symm
      rw [if_neg h, if_neg h']
      have : ¬ (x :: xs = y :: ys) := fun e => h (by injection e)
      rw [decide_eq_false this]
      by_cases h1 : x < y
      · simp [h1]
      · have : y < x := by omega
        simp [this]

/-- a row of ints in memory, read -/
abbrev RI (w : World) (v : Value) (xs : List Int) : Prop := Rw 1 intE w v xs
theorem RI.of {w : World} {B : Nat} {v : Value} {xs : List Int} (h : Own w B 3 v (ints xs)) : RI w v xs :=
  Rw.of_own h (by simp [ints]) (fun j x u hx hu => by rw [ints, List.getElem?_map, hx] at hu; cases hu; rfl)
theorem RI.ofN {w : World} {B : Nat} {v : Value} {xs : List Nat} (h : Own w B 3 v (intC xs)) : RI w v (intL xs) := RI.of (h.cast (ints_intL _).symm)
theorem RI.cell {w : World} {v : Value} {xs : List Int} (h : RI w v xs) {p : Option Addr} {n c : Nat} (hv : v = .slice p n c) {k : Nat} (hk : k < xs.length) : ∃ g o, p = some ⟨g, o, none⟩ ∧ w.cell? ⟨g, o + k, none⟩ = some (.int .i64 xs[k]) := by
  obtain ⟨g, o, cs, e1, _, _, e2, h3⟩ := Rw.at h hv hk
  have e2' : cs = [.int .i64 xs[k]] := e2
  subst e2'
  have := h3 0 _ rfl
  rw [Nat.mul_one, Nat.add_zero] at this
  exact ⟨g, o, e1, this⟩

theorem Bel (w : World) (q : Nat) : Below w.heap.size w (w.drewN q) := ((Keeps.refl (fun _ => False) w).drewN q).below (Nat.le_refl _) (fun _ _ h => h)

end Go.Proofs.Ytmgkoocpnakanaa.W

/-
  The reference's SameLists.
-/
namespace Go.Proofs.Ytmgkoocpnakanaa.W
open Go.RowKit
set_option linter.unusedVariables false

/-- a row of rows of ints -/
def rowE (w : World) (cs : List Value) (l : List Int) : Prop := ∃ v, cs = [v] ∧ Rw 1 intE w v l
theorem rowE_stays : Stays rowE := Stays.row intE_stays
theorem RR.of {w : World} {B : Nat} {v : Value} {vs : List Value} {ls : List (List Int)} (h : RowsO w B v vs ls) : Rw 1 rowE w v ls :=
  Rw.of_own h.own h.len (fun j l u hl hu => ⟨u, rfl, RI.of (h.each j u l hu hl)⟩)

end Go.Proofs.Ytmgkoocpnakanaa.W

/-
  The laws' few, small.
-/
namespace Go.Proofs.Ytmgkoocpnakanaa.W
open Go.RowKit
set_option linter.unusedVariables false

def fewB (n : Int) (a r : Nat) : Bool := decide (n ≤ 14) && decide (a ≤ 60) && decide (r ≤ 20)

def arcs1 : List Arc := [⟨0, 1⟩, ⟨1, 0⟩, ⟨1, 2⟩, ⟨3, 2⟩]
def arcs2 : List Arc := [⟨0, 1⟩, ⟨0, 2⟩, ⟨1, 3⟩, ⟨2, 3⟩]
def arcs3 : List Arc := [⟨2, 1⟩, ⟨1, 2⟩]

theorem up {w wk : World} (h : Below w.heap.size w wk) (o : Obj) : Below w.heap.size w (wk.alloc o) := h.alloc h.size o

theorem arcs_rw {w : World} {g : Nat} (arcs : List Arc) (hb : Blk w g 42 (arcs.flatMap Arc.cells)) {c : Nat} : Rw 2 Arc.E w (.slice (some ⟨g, 0, none⟩) arcs.length c) arcs :=
  Rw.of_blk (css := arcs.map Arc.cells) hb (by rw [List.flatMap]) (by simp) (fun cs h => by obtain ⟨a, _, rfl⟩ := List.mem_map.1 h; rfl) (fun j x cs hx hc => by rw [List.getElem?_map, hx] at hc; cases hc; rfl)

theorem lit_rows (w : World) : Rw 1 rowE ((((w.alloc (.cells #[.int .i64 2] 3)).alloc (.cells #[.int .i64 0, .int .i64 1] 3)).alloc (.cells #[.int .i64 3] 3)).alloc (.cells #[.slice (some ⟨w.heap.size, 0, none⟩) 1 1, .slice (some ⟨w.heap.size + 1, 0, none⟩) 2 2, .slice (some ⟨w.heap.size + 2, 0, none⟩) 1 1] 44))
    (.slice (some ⟨w.heap.size + 3, 0, none⟩) 3 3) [[2], [0, 1], [3]] := by
  have r1 : RI (w.alloc (.cells #[.int .i64 2] 3)) (.slice (some ⟨w.heap.size, 0, none⟩) 1 1) [2] := Rw.ints (ks := [2]) (Blk.new w 3 [.int .i64 2])
  have r2 : RI ((w.alloc (.cells #[.int .i64 2] 3)).alloc (.cells #[.int .i64 0, .int .i64 1] 3)) (.slice (some ⟨w.heap.size + 1, 0, none⟩) 2 2) [0, 1] := by
    have := Rw.ints (ks := [0, 1]) (cap := 2) (Blk.new (w.alloc (.cells #[.int .i64 2] 3)) 3 [.int .i64 0, .int .i64 1])
    rw [show (w.alloc (.cells #[.int .i64 2] 3)).heap.size = w.heap.size + 1 by simp] at this
    exact this
  have r3 : RI (((w.alloc (.cells #[.int .i64 2] 3)).alloc (.cells #[.int .i64 0, .int .i64 1] 3)).alloc (.cells #[.int .i64 3] 3)) (.slice (some ⟨w.heap.size + 2, 0, none⟩) 1 1) [3] := by
    have := Rw.ints (ks := [3]) (cap := 1) (Blk.new ((w.alloc (.cells #[.int .i64 2] 3)).alloc (.cells #[.int .i64 0, .int .i64 1] 3)) 3 [.int .i64 3])
    rw [show ((w.alloc (.cells #[.int .i64 2] 3)).alloc (.cells #[.int .i64 0, .int .i64 1] 3)).heap.size = w.heap.size + 2 by simp] at this
    exact this
  have hb := Blk.new (((w.alloc (.cells #[.int .i64 2] 3)).alloc (.cells #[.int .i64 0, .int .i64 1] 3)).alloc (.cells #[.int .i64 3] 3)) 44 [.slice (some ⟨w.heap.size, 0, none⟩) 1 1, .slice (some ⟨w.heap.size + 1, 0, none⟩) 2 2, .slice (some ⟨w.heap.size + 2, 0, none⟩) 1 1]
  rw [show (((w.alloc (.cells #[.int .i64 2] 3)).alloc (.cells #[.int .i64 0, .int .i64 1] 3)).alloc (.cells #[.int .i64 3] 3)).heap.size = w.heap.size + 3 by simp] at hb
  refine Rw.of_blk1 (xs := [[2], [0, 1], [3]]) hb rfl (fun j x u hx hu => ?_)
  rcases j with _ | _ | _ | j
  · cases hx; cases hu
    exact ⟨_, rfl, Rw.below (Rw.below (Rw.below r1 intE_stays (below_al _ _)) intE_stays (below_al _ _)) intE_stays (below_al _ _)⟩
  · cases hx; cases hu
    exact ⟨_, rfl, Rw.below (Rw.below r2 intE_stays (below_al _ _)) intE_stays (below_al _ _)⟩
  · cases hx; cases hu
    exact ⟨_, rfl, Rw.below r3 intE_stays (below_al _ _)⟩
  · simp at hx

theorem ex_parts : (Tj.greedy 4 (fun u x => (Tj.heads (Tj.waysOf 4 (nx 4 arcs1) [u])).contains x) 4 (fun _ => false)).map intL = [[2], [0, 1], [3]] := by decide +kernel
theorem ex_reach : intL (reachL 4 arcs1 [0]) = [0, 1, 2] := by decide +kernel
theorem ex_way : intL (Tj.wayL (wavesOf 4 arcs2 [0]) 3) = [0, 1, 3] := by decide +kernel
theorem ex_loop : intL (loopL 3 arcs3) = [1, 2] := by decide +kernel
theorem ex_noloop : loopL 4 arcs2 = [] := by decide +kernel
theorem ex_r1 : rightB 4 arcs1 = true := by decide +kernel
theorem ex_r2 : rightB 4 arcs2 = true := by decide +kernel
theorem ex_r3 : rightB 3 arcs3 = true := by decide +kernel
theorem ex_r4 : rightB 2 arcs1 = false := by decide +kernel

end Go.Proofs.Ytmgkoocpnakanaa.W

/-
  The laws' in, arc.
-/
namespace Go.Proofs.Ytmgkoocpnakanaa.W
open Go.RowKit
set_option linter.unusedVariables false

def arcI (arcs : List Arc) (v x : Int) : Bool := arcs.any fun a => a.f == v && a.t == x

end Go.Proofs.Ytmgkoocpnakanaa.W
