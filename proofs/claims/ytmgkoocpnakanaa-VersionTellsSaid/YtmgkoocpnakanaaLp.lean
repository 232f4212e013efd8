/-
  slices.Compare at ints; graph.Loop.
-/
import Derived.Test.YtmgkoocpnakanaaRe
namespace Go.Proofs.Ytmgkoocpnakanaa.W
open Go.RowKit
set_option linter.unusedVariables false

def cmpI : List Int → List Int → Int
  | [], [] => 0
  | [], _ :: _ => -1
  | _ :: _, [] => 1
  | x :: xs, y :: ys => if Lib.compareInt x y ≠ 0 then Lib.compareInt x y else cmpI xs ys

set_option maxHeartbeats 4000000 in
set_option maxRecDepth 100000 in
theorem compare_any (w : World) (B B' : Nat) (v u : Value) (xs ys : List Int) (hx : xs.length ≤ 1000000) (hy : ys.length ≤ 1000000) (h1 : Own w B 3 v (ints xs)) (h2 : Own w B' 3 u (ints ys)) :
    Calls Try.prog 35 #[v, u] w fun e w' => e = .returned (.int .i64 (cmpI xs ys)) ∧ w = w' := by
  obtain ⟨pv, cv, hv⟩ := h1.slice'
  obtain ⟨pu, cu, hu⟩ := h2.slice'
  obtain ⟨M, hM⟩ : ∃ M, xs.length = M := ⟨_, rfl⟩
  obtain ⟨K, hK⟩ : ∃ K, ys.length = K := ⟨_, rfl⟩
  rw [show (ints xs).length = M by simp [ints, hM]] at hv
  rw [show (ints ys).length = K by simp [ints, hK]] at hu
  subst hv hu
  have H1 := Hd.mk h1
  have H2 := Hd.mk h2
  have HC := Hd.mk (fun (x y : Int) => (Try.cmp_Compare_int x y w).mono (R' := fun e w' => e = .returned (.int .i64 (Lib.compareInt x y)) ∧ w = w') fun e w' ⟨a, b⟩ => ⟨a, b.symm⟩)
  have HN := Hd.mk (And.intro hM hK)
  have hMb : M ≤ 1000000 := by omega
  have hKb : K ≤ 1000000 := by omega
  obtain ⟨R, hR⟩ : ∃ R, cmpI xs ys = R := ⟨_, rfl⟩
  have HRr := Hd.mk hR
  rw [hR]
  clear h1 h2 hM hK hR
  go_enter Try.func35, Try.ntmps35
  go_wp2
  go_loopw [11] (fun iv wr => ∃ k : Nat, k ≤ M ∧ k ≤ K ∧ iv = .int .i64 (k : Int) ∧ Hd (cmpI (xs.drop k) (ys.drop k) = R) ∧ w = wr) (fun iv _ => M - (intOf iv).toNat)
  case atStart => exact ⟨0, Nat.zero_le _, Nat.zero_le _, rfl, ⟨by simpa using HRr.out⟩, rfl⟩
  case round =>
    obtain ⟨k, hk, hk2, rfl, HD, rfl⟩ := hrel
    by_cases hlt : k < M
    · have hd1 : decide ((k : Int) < (M : Int)) = true := by simp; omega
      have hmk : M - (intOf (.int .i64 ((k : Int) + 1))).toNat < M - (intOf (.int .i64 (k : Int))).toNat := by simp [intOf]; omega
      have hkx : k < xs.length := by rw [HN.out.1]; exact hlt
      obtain ⟨gv, hgv⟩ : ∃ gv, pv = some ⟨gv, 0, none⟩ := by
        obtain ⟨g, c, e⟩ := H1.out.slice (by simp [ints]; omega)
        injection e with e _ _
        exact ⟨g, e⟩
      subst hgv
      obtain ⟨x, hx'⟩ : ∃ x, xs[k] = x := ⟨_, rfl⟩
      have cx : w.cell? ⟨gv, k, none⟩ = some (.int .i64 x) := (H1.out.at (by rw [ints, List.getElem?_map, List.getElem?_eq_getElem hkx, hx']; rfl)).1
      have hdx : xs.drop k = x :: xs.drop (k + 1) := by rw [← hx']; exact List.drop_eq_getElem_cons hkx
      have hd := HD.out
      rw [hdx] at hd
      by_cases hlt2 : k < K
      · have hg : decide ((K : Int) ≤ (k : Int)) = false := by simp; omega
        have hky : k < ys.length := by rw [HN.out.2]; exact hlt2
        obtain ⟨gu, hgu⟩ : ∃ gu, pu = some ⟨gu, 0, none⟩ := by
          obtain ⟨g, c, e⟩ := H2.out.slice (by simp [ints]; omega)
          injection e with e _ _
          exact ⟨g, e⟩
        subst hgu
        obtain ⟨y, hy'⟩ : ∃ y, ys[k] = y := ⟨_, rfl⟩
        have cy : w.cell? ⟨gu, k, none⟩ = some (.int .i64 y) := (H2.out.at (by rw [ints, List.getElem?_map, List.getElem?_eq_getElem hky, hy']; rfl)).1
        have hdy : ys.drop k = y :: ys.drop (k + 1) := by rw [← hy']; exact List.drop_eq_getElem_cons hky
        rw [hdy, cmpI] at hd
        have HCx := Hd.mk (HC.out x y)
        obtain ⟨c, hc⟩ : ∃ c, Lib.compareInt x y = c := ⟨_, rfl⟩
        rw [hc] at hd HCx
        clear hx' hy' hdx hdy hc hkx hky
        by_cases h0 : c = 0
        · subst h0
          rw [if_neg (fun h => h rfl)] at hd
          have HDd := Hd.mk hd
          clear hd
          go_wp2_with fail
          refine HCx.out.mono ?_
          rintro e w2 ⟨rfl, rfl⟩
          go_wp2
          exact ⟨⟨k + 1, hlt, hlt2, by go_num, HDd, trivial⟩, hmk⟩
        · rw [if_pos h0] at hd
          have hc2 : (c != 0) = true := by simpa using h0
          have HDd := Hd.mk hd
          clear hd
          go_wp2_with fail
          refine HCx.out.mono ?_
          rintro e w2 ⟨rfl, rfl⟩
          go_wp2
          go_ret
          exact ⟨ret_i HDd.out, rfl⟩
      · have hg : decide ((K : Int) ≤ (k : Int)) = true := by simp; omega
        have hdy : ys.drop k = [] := List.drop_eq_nil_of_le (by rw [HN.out.2]; omega)
        rw [hdy, cmpI] at hd
        have HDd := Hd.mk hd
        clear hd hdy hdx hx' hkx
        go_wp2
        go_ret
        exact ⟨ret_i HDd.out, rfl⟩
    · have hd1 : decide ((k : Int) < (M : Int)) = false := by simp; omega
      have hdx : xs.drop k = [] := List.drop_eq_nil_of_le (by rw [HN.out.1]; omega)
      have hd := HD.out
      rw [hdx] at hd
      by_cases hlt2 : M < K
      · have hg : decide ((M : Int) < (K : Int)) = true := by simp; omega
        have hky : k < ys.length := by rw [HN.out.2]; omega
        rw [List.drop_eq_getElem_cons hky, cmpI] at hd
        have HDd := Hd.mk hd
        clear hd hdx hky
        go_wp2
        go_ret
        exact ⟨ret_i HDd.out, rfl⟩
      · have hg : decide ((M : Int) < (K : Int)) = false := by simp; omega
        have hdy : ys.drop k = [] := List.drop_eq_nil_of_le (by rw [HN.out.2]; omega)
        rw [hdy, cmpI] at hd
        have HDd := Hd.mk hd
        clear hd hdx hdy
        go_wp2
        go_ret
        exact ⟨ret_i HDd.out, rfl⟩

/-! Loop, in plain words -/
/-- the least first node of a part with two nodes -/
def lpA (parts : List (List Int)) (m : Int) : Int := parts.foldl (fun m p => if 1 < p.length then min m (p.headD 0) else m) m
/-- .. or of an arc to itself -/
def lpB (arcs : List Arc) (m : Int) : Int := arcs.foldl (fun m a => if a.f = a.t then min m a.f else m) m
def better (w b : List Nat) : Bool := b.isEmpty || decide (w.length < b.length) || (decide (w.length = b.length) && decide (cmpI (intL w) (intL b) < 0))
def lpC (least : Nat) (ws : List (List Nat)) (arcs : List Arc) (b : List Nat) : List Nat :=
  arcs.foldl (fun b a => if a.t = (least : Int) then (if !(Tj.wayL ws a.f.toNat).isEmpty && better (Tj.wayL ws a.f.toNat) b then Tj.wayL ws a.f.toNat else b) else b) b
def partsG (n : Nat) (arcs : List Arc) : List (List Nat) := Tj.greedy n (fun u x => (Tj.heads (Tj.waysOf n (nx n arcs) [u])).contains x) n (fun _ => false)
def leastL (n : Nat) (arcs : List Arc) : Int := lpB arcs (lpA ((partsG n arcs).map intL) n)
def loopL (n : Nat) (arcs : List Arc) : List Nat := if leastL n arcs = (n : Int) then [] else lpC (leastL n arcs).toNat (wavesOf n arcs [leastL n arcs]) arcs []

theorem lpA_step {parts : List (List Int)} {m : Int} {k : Nat} (hk : k < parts.length) : lpA (parts.take (k + 1)) m = if 1 < parts[k].length then min (lpA (parts.take k) m) (parts[k].headD 0) else lpA (parts.take k) m := by
  have e : parts.take (k + 1) = parts.take k ++ [parts[k]] := by rw [List.take_add_one, List.getElem?_eq_getElem hk]; rfl
  unfold lpA; rw [e, List.foldl_append]; rfl
theorem lpB_step {arcs : List Arc} {m : Int} {k : Nat} (hk : k < arcs.length) : lpB (arcs.take (k + 1)) m = if arcs[k].f = arcs[k].t then min (lpB (arcs.take k) m) arcs[k].f else lpB (arcs.take k) m := by
  have e : arcs.take (k + 1) = arcs.take k ++ [arcs[k]] := by rw [List.take_add_one, List.getElem?_eq_getElem hk]; rfl
  unfold lpB; rw [e, List.foldl_append]; rfl
theorem lpC_step {arcs : List Arc} {least : Nat} {ws : List (List Nat)} {b : List Nat} {k : Nat} (hk : k < arcs.length) : lpC least ws (arcs.take (k + 1)) b = if arcs[k].t = (least : Int) then (if !(Tj.wayL ws arcs[k].f.toNat).isEmpty && better (Tj.wayL ws arcs[k].f.toNat) (lpC least ws (arcs.take k) b) then Tj.wayL ws arcs[k].f.toNat else lpC least ws (arcs.take k) b) else lpC least ws (arcs.take k) b := by
  have e : arcs.take (k + 1) = arcs.take k ++ [arcs[k]] := by rw [List.take_add_one, List.getElem?_eq_getElem hk]; rfl
  unfold lpC; rw [e, List.foldl_append]; rfl

end Go.Proofs.Ytmgkoocpnakanaa.W
