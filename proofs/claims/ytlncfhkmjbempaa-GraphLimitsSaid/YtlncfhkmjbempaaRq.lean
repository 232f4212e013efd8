/-
  The reference's Less, Same, SameLists.
-/
import Derived.Test.YtlncfhkmjbempaaLo
namespace Go.Proofs.Ytlncfhkmjbempaa.W
open Go.RowKit
set_option linter.unusedVariables false

def lessI : List Int → List Int → Bool
  | [], [] => false
  | [], _ :: _ => true
  | _ :: _, [] => false
  | x :: xs, y :: ys => if x = y then lessI xs ys else decide (x < y)
theorem lessI_same : ∀ (a b : List Int), (!lessI a b && !lessI b a) = decide (a = b)
  | [], [] => rfl
  | [], _ :: _ => rfl
  | _ :: _, [] => rfl
  | x :: xs, y :: ys => by
    simp only [lessI]
    by_cases h : x = y
    · subst h
      rw [if_pos rfl, if_pos rfl, lessI_same xs ys]
      simp
    · have h' : ¬ y = x := fun e => h e.symm
      rw [if_neg h, if_neg h']
      have : ¬ (x :: xs = y :: ys) := fun e => h (by injection e)
      rw [decide_eq_false this]
      by_cases h1 : x < y
      · simp [h1]
      · have : y < x := by omega
        simp [this]

/-- a row of ints in memory, read -/
abbrev RI (w : World) (v : Value) (xs : List Int) : Prop := Rw 1 intE w v xs
theorem RI.of {w : World} {B : Nat} {v : Value} {xs : List Int} (h : Own w B 3 v (ints xs)) : RI w v xs :=
  Rw.of_own h (by simp [ints]) (fun j x u hx hu => by rw [ints, List.getElem?_map, hx] at hu; cases hu; rfl)
theorem RI.ofN {w : World} {B : Nat} {v : Value} {xs : List Nat} (h : Own w B 3 v (intC xs)) : RI w v (intL xs) := RI.of (h.cast (ints_intL _).symm)
theorem RI.cell {w : World} {v : Value} {xs : List Int} (h : RI w v xs) {p : Option Addr} {n c : Nat} (hv : v = .slice p n c) {k : Nat} (hk : k < xs.length) : ∃ g o, p = some ⟨g, o, none⟩ ∧ w.cell? ⟨g, o + k, none⟩ = some (.int .i64 xs[k]) := by
  obtain ⟨g, o, cs, e1, _, _, e2, h3⟩ := Rw.at h hv hk
  have e2' : cs = [.int .i64 xs[k]] := e2
  subst e2'
  have := h3 0 _ rfl
  rw [Nat.mul_one, Nat.add_zero] at this
  exact ⟨g, o, e1, this⟩

theorem Bel (w : World) (q : Nat) : Below w.heap.size w (w.drewN q) := ((Keeps.refl (fun _ => False) w).drewN q).below (Nat.le_refl _) (fun _ _ h => h)

set_option maxHeartbeats 4000000 in
set_option maxRecDepth 100000 in
theorem rless_any (w : World) (v u : Value) (xs ys : List Int) (hx : xs.length ≤ 1000000) (hy : ys.length ≤ 1000000) (h1 : RI w v xs) (h2 : RI w u ys) :
    Calls Try.prog 27 #[v, u] w fun e w' => e = .returned (.bool (lessI xs ys)) ∧ Below w.heap.size w w' := by
  obtain ⟨pv, cv, hv⟩ := Rw.slice h1
  obtain ⟨pu, cu, hu⟩ := Rw.slice h2
  obtain ⟨M, hM⟩ : ∃ M, xs.length = M := ⟨_, rfl⟩
  obtain ⟨K, hK⟩ : ∃ K, ys.length = K := ⟨_, rfl⟩
  rw [hM] at hv
  rw [hK] at hu
  subst hv hu
  have H1 := Hd.mk h1
  have H2 := Hd.mk h2
  have HN := Hd.mk (And.intro hM hK)
  have hMb : M ≤ 1000000 := by omega
  have hKb : K ≤ 1000000 := by omega
  obtain ⟨R, hR⟩ : ∃ R, lessI xs ys = R := ⟨_, rfl⟩
  have HRr := Hd.mk hR
  rw [hR]
  clear h1 h2 hM hK hR
  go_enter Try.func27, Try.ntmps27
  go_wp2
  go_loopw [5] (fun iv wr => ∃ k : Nat, k ≤ M ∧ k ≤ K ∧ iv = .int .i64 (k : Int) ∧ Hd (lessI (xs.drop k) (ys.drop k) = R) ∧ Hd (Below w.heap.size w wr)) (fun iv _ => M - (intOf iv).toNat)
  case atStart => exact ⟨0, Nat.zero_le _, Nat.zero_le _, rfl, ⟨by simpa using HRr.out⟩, ⟨Below.refl _ _⟩⟩
  case round =>
    obtain ⟨k, hk, hk2, rfl, HD, HK⟩ := hrel
    by_cases hlt : k < M
    · have hd1 : decide ((k : Int) < (M : Int)) = true := by simp; omega
      have hmk : M - (intOf (.int .i64 ((k : Int) + 1))).toNat < M - (intOf (.int .i64 (k : Int))).toNat := by simp [intOf]; omega
      by_cases hlt2 : k < K
      · have hg : decide ((k : Int) < (K : Int)) = true := by simp; omega
        have hkx : k < xs.length := by rw [HN.out.1]; exact hlt
        have hky : k < ys.length := by rw [HN.out.2]; exact hlt2
        obtain ⟨gv, ov, e1, cx⟩ := RI.cell (Rw.below H1.out intE_stays HK.out) rfl hkx
        obtain ⟨gu, ou, e2, cy⟩ := RI.cell (Rw.below H2.out intE_stays HK.out) rfl hky
        subst e1 e2
        have hd := HD.out
        rw [List.drop_eq_getElem_cons hkx, List.drop_eq_getElem_cons hky, lessI] at hd
        obtain ⟨x, hx'⟩ : ∃ x, xs[k] = x := ⟨_, rfl⟩
        obtain ⟨y, hy'⟩ : ∃ y, ys[k] = y := ⟨_, rfl⟩
        rw [hx'] at cx hd
        rw [hy'] at cy hd
        clear hx' hy' hkx hky
        by_cases hxy : x = y
        · subst hxy
          rw [if_pos rfl] at hd
          have HDd := Hd.mk hd
          clear hd
          go_upto_region 4 with (fail)
          go_quiet (fail)
          revert nq; intro q1
          have HK2 : Hd (Below w.heap.size w (wr.drewN q1)) := ⟨HK.out.trans ((Bel wr q1).mono HK.out.size)⟩
          go_wp2
          go_roundw
          case rel => exact ⟨k + 1, hlt, hlt2, by go_num, HDd, HK2⟩
          case measure => exact hmk
        · rw [if_neg hxy] at hd
          have hne : (x != y) = true := by simpa using hxy
          have HDd := Hd.mk hd
          clear hd
          go_upto_region 4 with (fail)
          go_quiet (fail)
          revert nq; intro q1
          go_upto_region 5 with (fail)
          go_quiet (fail)
          revert nq; intro q2
          have HK2 : Hd (Below w.heap.size w ((wr.drewN q1).drewN q2)) := ⟨(HK.out.trans ((Bel wr q1).mono HK.out.size)).trans ((Bel (wr.drewN q1) q2).mono HK.out.size)⟩
          go_wp2
          go_ret
          exact ⟨ret_b HDd.out, HK2.out⟩
      · have hg : decide ((k : Int) < (K : Int)) = false := by simp; omega
        have hkK : k = K := by omega
        have hd := HD.out
        have hkx : k < xs.length := by rw [HN.out.1]; exact hlt
        rw [List.drop_eq_getElem_cons hkx, show ys.drop k = [] from List.drop_eq_nil_of_le (by rw [HN.out.2]; omega), lessI] at hd
        have HDd := Hd.mk hd
        have hMK : decide ((M : Int) < (K : Int)) = false := by simp; omega
        have hMK2 : ¬ M < K := by omega
        clear hd hkx hkK
        go_wp2
        go_ret
        exact ⟨ret_b HDd.out, HK.out⟩
    · have hd1 : decide ((k : Int) < (M : Int)) = false := by simp; omega
      have hd := HD.out
      rw [show xs.drop k = [] from List.drop_eq_nil_of_le (by rw [HN.out.1]; omega)] at hd
      by_cases hlt2 : M < K
      · have hMK : decide ((M : Int) < (K : Int)) = true := by simp; omega
        have hky : k < ys.length := by rw [HN.out.2]; omega
        rw [List.drop_eq_getElem_cons hky, lessI] at hd
        have HDd := Hd.mk hd
        clear hd hky
        go_wp2
        go_ret
        exact ⟨ret_b HDd.out, HK.out⟩
      · have hMK : decide ((M : Int) < (K : Int)) = false := by simp; omega
        rw [show ys.drop k = [] from List.drop_eq_nil_of_le (by rw [HN.out.2]; omega), lessI] at hd
        have HDd := Hd.mk hd
        clear hd
        go_wp2
        go_ret
        exact ⟨ret_b HDd.out, HK.out⟩

set_option maxRecDepth 100000 in
theorem rsame_any (w : World) (v u : Value) (xs ys : List Int) (hx : xs.length ≤ 1000000) (hy : ys.length ≤ 1000000) (h1 : RI w v xs) (h2 : RI w u ys) :
    Calls Try.prog 17 #[v, u] w fun e w' => e = .returned (.bool (decide (xs = ys))) ∧ Below w.heap.size w w' := by
  have HA := Hd.mk (rless_any w v u xs ys hx hy h1 h2)
  have HB := Hd.mk (fun (w' : World) (hb : Below w.heap.size w w') => rless_any w' u v ys xs hy hx (Rw.below h2 intE_stays hb) (Rw.below h1 intE_stays hb))
  have HS := Hd.mk (lessI_same xs ys)
  clear h1 h2
  rcases ha : lessI xs ys with _ | _
  · rcases hb : lessI ys xs with _ | _
    · have HE := HS.out
      rw [ha, hb] at HE
      have HE2 := Hd.mk HE
      rw [ha] at HA
      rw [hb] at HB
      clear HE ha hb HS
      go_enter Try.func17, Try.ntmps17
      go_wp2_with fail
      refine HA.out.mono ?_
      rintro e w1 ⟨rfl, b1⟩
      have HB1 := Hd.mk b1
      clear b1
      go_wp2_with fail
      refine (HB.out w1 HB1.out).mono ?_
      rintro e w2 ⟨rfl, b2⟩
      have HB2 := Hd.mk (HB1.out.trans (b2.mono HB1.out.size))
      clear b2
      go_wp2
      go_ret
      exact ⟨ret_b HE2.out, HB2.out⟩
    · have HE := HS.out
      rw [ha, hb] at HE
      have HE2 := Hd.mk HE
      rw [ha] at HA
      rw [hb] at HB
      clear HE ha hb HS
      go_enter Try.func17, Try.ntmps17
      go_wp2_with fail
      refine HA.out.mono ?_
      rintro e w1 ⟨rfl, b1⟩
      have HB1 := Hd.mk b1
      clear b1
      go_wp2_with fail
      refine (HB.out w1 HB1.out).mono ?_
      rintro e w2 ⟨rfl, b2⟩
      have HB2 := Hd.mk (HB1.out.trans (b2.mono HB1.out.size))
      clear b2
      go_wp2
      go_ret
      exact ⟨ret_b HE2.out, HB2.out⟩
  · have HE := HS.out
    rw [ha] at HE
    have HE2 : Hd (false = decide (xs = ys)) := ⟨by rw [← HE]; rfl⟩
    rw [ha] at HA
    clear HE ha HS
    go_enter Try.func17, Try.ntmps17
    go_wp2_with fail
    refine HA.out.mono ?_
    rintro e w1 ⟨rfl, b1⟩
    have HB1 := Hd.mk b1
    clear b1
    go_wp2
    go_ret
    exact ⟨ret_b HE2.out, HB1.out⟩

end Go.Proofs.Ytlncfhkmjbempaa.W
