import Derived.Test.YtlncfhkmjbempaaLo
/-
  The reference's Less, Same, SameLists.
-/
namespace Go.Proofs.Ytlncfhkmjbempaa.W
open Go.RowKit
set_option linter.unusedVariables false

def lessI : List Int → List Int → Bool
  | [], [] => false
  | [], _ :: _ => true
  | _ :: _, [] => false
  | x :: xs, y :: ys => if x = y then lessI xs ys else decide (x < y)
theorem lessI_same : ∀ (a b : List Int), (!lessI a b && !lessI b a) = decide (a = b)
  | [], [] => rfl
  | [], _ :: _ => rfl
  | _ :: _, [] => rfl
  | x :: xs, y :: ys => by
    simp only [lessI]
    by_cases h : x = y
    · subst h
      rw [if_pos rfl, if_pos rfl, lessI_same xs ys]
      simp
    · have h' : ¬ y = x := fun e => h e.symm
      rw [if_neg h, if_neg h']
      have : ¬ (x :: xs = y :: ys) := fun e => h (by injection e)
      rw [decide_eq_false this]
      by_cases h1 : x < y
      · simp [h1]
      · have : y < x := by omega
        simp [this]

/-- a row of ints in memory, read -/
abbrev RI (w : World) (v : Value) (xs : List Int) : Prop := Rw 1 intE w v xs
theorem RI.of {w : World} {B : Nat} {v : Value} {xs : List Int} (h : Own w B 3 v (ints xs)) : RI w v xs :=
  Rw.of_own h (by simp [ints]) (fun j x u hx hu => by rw [ints, List.getElem?_map, hx] at hu; cases hu; rfl)
theorem RI.ofN {w : World} {B : Nat} {v : Value} {xs : List Nat} (h : Own w B 3 v (intC xs)) : RI w v (intL xs) := RI.of (h.cast (ints_intL _).symm)
theorem RI.cell {w : World} {v : Value} {xs : List Int} (h : RI w v xs) {p : Option Addr} {n c : Nat} (hv : v = .slice p n c) {k : Nat} (hk : k < xs.length) : ∃ g o, p = some ⟨g, o, none⟩ ∧ w.cell? ⟨g, o + k, none⟩ = some (.int .i64 xs[k]) := by
  obtain ⟨g, o, cs, e1, _, _, e2, h3⟩ := Rw.at h hv hk
  have e2' : cs = [.int .i64 xs[k]] := e2
  subst e2'
  have := h3 0 _ rfl
  rw [Nat.mul_one, Nat.add_zero] at this
  exact ⟨g, o, e1, this⟩

theorem Bel (w : World) (q : Nat) : Below w.heap.size w (w.drewN q) := ((Keeps.refl (fun _ => False) w).drewN q).below (Nat.le_refl _) (fun _ _ h => h)

set_option maxHeartbeats 4000000 in
set_option maxRecDepth 100000 in
theorem rless_any (w : World) (v u : Value) (xs ys : List Int) (hx : xs.length ≤ 1000000) (hy : ys.length ≤ 1000000) (h1 : RI w v xs) (h2 : RI w u ys) :
    Calls Try.prog 27 #[v, u] w fun e w' => e = .returned (.bool (lessI xs ys)) ∧ Below w.heap.size w w' := by
  obtain ⟨pv, cv, hv⟩ := Rw.slice h1
  obtain ⟨pu, cu, hu⟩ := Rw.slice h2
  obtain ⟨M, hM⟩ : ∃ M, xs.length = M := ⟨_, rfl⟩
  obtain ⟨K, hK⟩ : ∃ K, ys.length = K := ⟨_, rfl⟩
  rw [hM] at hv
  rw [hK] at hu
  subst hv hu
  have H1 := Hd.mk h1
  have H2 := Hd.mk h2
  have HN := Hd.mk (And.intro hM hK)
  have hMb : M ≤ 1000000 := by omega
  have hKb : K ≤ 1000000 := by omega
  obtain ⟨R, hR⟩ : ∃ R, lessI xs ys = R := ⟨_, rfl⟩
  have HRr := Hd.mk hR
  rw [hR]
  clear h1 h2 hM hK hR
  go_enter Try.func27, Try.ntmps27
  go_wp2
  go_loopw [5] (fun iv wr => ∃ k : Nat, k ≤ M ∧ k ≤ K ∧ iv = .int .i64 (k : Int) ∧ Hd (lessI (xs.drop k) (ys.drop k) = R) ∧ Hd (Below w.heap.size w wr)) (fun iv _ => M - (intOf iv).toNat)
  case atStart => exact ⟨0, Nat.zero_le _, Nat.zero_le _, rfl, ⟨by simpa using HRr.out⟩, ⟨Below.refl _ _⟩⟩
  case round =>
    obtain ⟨k, hk, hk2, rfl, HD, HK⟩ := hrel
    by_cases hlt : k < M
    · have hd1 : decide ((k : Int) < (M : Int)) = true := by simp; omega
      have hmk : M - (intOf (.int .i64 ((k : Int) + 1))).toNat < M - (intOf (.int .i64 (k : Int))).toNat := by simp [intOf]; omega
      by_cases hlt2 : k < K
      · have hg : decide ((k : Int) < (K : Int)) = true := by simp; omega
        have hkx : k < xs.length := by rw [HN.out.1]; exact hlt
        have hky : k < ys.length := by rw [HN.out.2]; exact hlt2
        obtain ⟨gv, ov, e1, cx⟩ := RI.cell (Rw.below H1.out intE_stays HK.out) rfl hkx
        obtain ⟨gu, ou, e2, cy⟩ := RI.cell (Rw.below H2.out intE_stays HK.out) rfl hky
        subst e1 e2
        have hd := HD.out
        rw [List.drop_eq_getElem_cons hkx, List.drop_eq_getElem_cons hky, lessI] at hd
        obtain ⟨x, hx'⟩ : ∃ x, xs[k] = x := ⟨_, rfl⟩
        obtain ⟨y, hy'⟩ : ∃ y, ys[k] = y := ⟨_, rfl⟩
        rw [hx'] at cx hd
        rw [hy'] at cy hd
        clear hx' hy' hkx hky
        by_cases hxy : x = y
        · subst hxy
          rw [if_pos rfl] at hd
          have HDd := Hd.mk hd
          clear hd
          go_upto_region 4 with (fail)
          go_quiet (fail)
          revert nq; intro q1
          have HK2 : Hd (Below w.heap.size w (wr.drewN q1)) := ⟨HK.out.trans ((Bel wr q1).mono HK.out.size)⟩
          go_wp2
          go_roundw
          case rel => exact ⟨k + 1, hlt, hlt2, by go_num, HDd, HK2⟩
          case measure => exact hmk
        · rw [if_neg hxy] at hd
          have hne : (x != y) = true := by simpa using hxy
          have HDd := Hd.mk hd
          clear hd
          go_upto_region 4 with (fail)
          go_quiet (fail)
          revert nq; intro q1
          go_upto_region 5 with (fail)
          go_quiet (fail)
          revert nq; intro q2
          have HK2 : Hd (Below w.heap.size w ((wr.drewN q1).drewN q2)) := ⟨(HK.out.trans ((Bel wr q1).mono HK.out.size)).trans ((Bel (wr.drewN q1) q2).mono HK.out.size)⟩
          go_wp2
          go_ret
          exact ⟨ret_b HDd.out, HK2.out⟩
      · have hg : decide ((k : Int) < (K : Int)) = false := by simp; omega
        have hkK : k = K := by omega
        have hd := HD.out
        have hkx : k < xs.length := by rw [HN.out.1]; exact hlt
        rw [List.drop_eq_getElem_cons hkx, show ys.drop k = [] from List.drop_eq_nil_of_le (by rw [HN.out.2]; omega), lessI] at hd
        have HDd := Hd.mk hd
        have hMK : decide ((M : Int) < (K : Int)) = false := by simp; omega
        have hMK2 : ¬ M < K := by omega
        clear hd hkx hkK
        go_wp2
        go_ret
        exact ⟨ret_b HDd.out, HK.out⟩
    · have hd1 : decide ((k : Int) < (M : Int)) = false := by simp; omega
      have hd := HD.out
      rw [show xs.drop k = [] from List.drop_eq_nil_of_le (by rw [HN.out.1]; omega)] at hd
      by_cases hlt2 : M < K
      · have hMK : decide ((M : Int) < (K : Int)) = true := by simp; omega
        have hky : k < ys.length := by rw [HN.out.2]; omega
        rw [List.drop_eq_getElem_cons hky, lessI] at hd
        have HDd := Hd.mk hd
        clear hd hky
        go_wp2
        go_ret
        exact ⟨ret_b HDd.out, HK.out⟩
      · have hMK : decide ((M : Int) < (K : Int)) = false := by simp; omega
        rw [show ys.drop k = [] from List.drop_eq_nil_of_le (by rw [HN.out.2]; omega), lessI] at hd
        have HDd := Hd.mk hd
        clear hd
        go_wp2
        go_ret
        exact ⟨ret_b HDd.out, HK.out⟩

set_option maxRecDepth 100000 in
theorem rsame_any (w : World) (v u : Value) (xs ys : List Int) (hx : xs.length ≤ 1000000) (hy : ys.length ≤ 1000000) (h1 : RI w v xs) (h2 : RI w u ys) :
    Calls Try.prog 17 #[v, u] w fun e w' => e = .returned (.bool (decide (xs = ys))) ∧ Below w.heap.size w w' := by
  have HA := Hd.mk (rless_any w v u xs ys hx hy h1 h2)
  have HB := Hd.mk (fun (w' : World) (hb : Below w.heap.size w w') => rless_any w' u v ys xs hy hx (Rw.below h2 intE_stays hb) (Rw.below h1 intE_stays hb))
  have HS := Hd.mk (lessI_same xs ys)
  clear h1 h2
  rcases ha : lessI xs ys with _ | _
  · rcases hb : lessI ys xs with _ | _
    · have HE := HS.out
      rw [ha, hb] at HE
      have HE2 := Hd.mk HE
      rw [ha] at HA
      rw [hb] at HB
      clear HE ha hb HS
      go_enter Try.func17, Try.ntmps17
      go_wp2_with fail
      refine HA.out.mono ?_
      rintro e w1 ⟨rfl, b1⟩
      have HB1 := Hd.mk b1
      clear b1
      go_wp2_with fail
      refine (HB.out w1 HB1.out).mono ?_
      rintro e w2 ⟨rfl, b2⟩
      have HB2 := Hd.mk (HB1.out.trans (b2.mono HB1.out.size))
      clear b2
      go_wp2
      go_ret
      exact ⟨ret_b HE2.out, HB2.out⟩
    · have HE := HS.out
      rw [ha, hb] at HE
      have HE2 := Hd.mk HE
      rw [ha] at HA
      rw [hb] at HB
      clear HE ha hb HS
      go_enter Try.func17, Try.ntmps17
      go_wp2_with fail
      refine HA.out.mono ?_
      rintro e w1 ⟨rfl, b1⟩
      have HB1 := Hd.mk b1
      clear b1
      go_wp2_with fail
      refine (HB.out w1 HB1.out).mono ?_
      rintro e w2 ⟨rfl, b2⟩
      have HB2 := Hd.mk (HB1.out.trans (b2.mono HB1.out.size))
      clear b2
      go_wp2
      go_ret
      exact ⟨ret_b HE2.out, HB2.out⟩
  · have HE := HS.out
    rw [ha] at HE
    have HE2 : Hd (false = decide (xs = ys)) := ⟨by rw [← HE]; rfl⟩
    rw [ha] at HA
    clear HE ha HS
    go_enter Try.func17, Try.ntmps17
    go_wp2_with fail
    refine HA.out.mono ?_
    rintro e w1 ⟨rfl, b1⟩
    have HB1 := Hd.mk b1
    clear b1
    go_wp2
    go_ret
    exact ⟨ret_b HE2.out, HB1.out⟩

end Go.Proofs.Ytlncfhkmjbempaa.W

/-
  The reference's SameLists.
-/
namespace Go.Proofs.Ytlncfhkmjbempaa.W
open Go.RowKit
set_option linter.unusedVariables false

/-- a row of rows of ints -/
def rowE (w : World) (cs : List Value) (l : List Int) : Prop := ∃ v, cs = [v] ∧ Rw 1 intE w v l
theorem rowE_stays : Stays rowE := Stays.row intE_stays
theorem RR.of {w : World} {B : Nat} {v : Value} {vs : List Value} {ls : List (List Int)} (h : RowsO w B v vs ls) : Rw 1 rowE w v ls :=
  Rw.of_own h.own h.len (fun j l u hl hu => ⟨u, rfl, RI.of (h.each j u l hu hl)⟩)

set_option maxHeartbeats 4000000 in
set_option maxRecDepth 100000 in
theorem rsameL_any (w : World) (v u : Value) (xs ys : List (List Int)) (hx : xs.length ≤ 1000000) (hxl : ∀ l ∈ xs, l.length ≤ 1000000) (hyl : ∀ l ∈ ys, l.length ≤ 1000000) (hy : ys.length ≤ 1000000) (h1 : Rw 1 rowE w v xs) (h2 : Rw 1 rowE w u ys) :
    Calls Try.prog 14 #[v, u] w fun e w' => e = .returned (.bool (decide (xs = ys))) ∧ Below w.heap.size w w' := by
  obtain ⟨pv, cv, hv⟩ := h1.slice
  obtain ⟨pu, cu, hu⟩ := h2.slice
  obtain ⟨M, hM⟩ : ∃ M, xs.length = M := ⟨_, rfl⟩
  obtain ⟨K, hK⟩ : ∃ K, ys.length = K := ⟨_, rfl⟩
  rw [hM] at hv
  rw [hK] at hu
  subst hv hu
  have H1 := Hd.mk h1
  have H2 := Hd.mk h2
  have HN := Hd.mk (And.intro hM (And.intro hK (And.intro hxl hyl)))
  have hMb : M ≤ 1000000 := by omega
  clear h1 h2 hM hK hxl hyl
  by_cases hMK : M = K
  · subst hMK
    go_enter Try.func14, Try.ntmps14
    go_wp2
    go_loopw [5] (fun iv wr => ∃ k : Nat, k ≤ M ∧ iv = .int .i64 (k : Int) ∧ Hd (decide (xs.drop k = ys.drop k) = decide (xs = ys)) ∧ Hd (Below w.heap.size w wr)) (fun iv _ => M - (intOf iv).toNat)
    case atStart => exact ⟨0, Nat.zero_le _, rfl, ⟨by simp⟩, ⟨Below.refl _ _⟩⟩
    case round =>
      obtain ⟨k, hk, rfl, HD, HK⟩ := hrel
      by_cases hlt : k < M
      · have hd1 : decide ((k : Int) < (M : Int)) = true := by simp; omega
        have hmk : M - (intOf (.int .i64 ((k : Int) + 1))).toNat < M - (intOf (.int .i64 (k : Int))).toNat := by simp [intOf]; omega
        have hkx : k < xs.length := by rw [HN.out.1]; exact hlt
        have hky : k < ys.length := by rw [HN.out.2.1]; exact hlt
        obtain ⟨gv, ov, cs, e1, _, _, ⟨a, rfl, hRa⟩, hca⟩ := (H1.out.below rowE_stays HK.out).at rfl hkx
        obtain ⟨gu, ou, ds, e2, _, _, ⟨b, rfl, hRb⟩, hcb⟩ := (H2.out.below rowE_stays HK.out).at rfl hky
        subst e1 e2
        have ca := hca 0 _ rfl
        have cb := hcb 0 _ rfl
        rw [Nat.mul_one, Nat.add_zero] at ca cb
        have hxk := HN.out.2.2.1 _ (List.getElem_mem hkx)
        have hyk := HN.out.2.2.2 _ (List.getElem_mem hky)
        have HS := Hd.mk (fun (w' : World) (hb : Below wr.heap.size wr w') => rsame_any w' a b _ _ hxk hyk (Rw.below hRa intE_stays hb) (Rw.below hRb intE_stays hb))
        have hd := HD.out
        rw [List.drop_eq_getElem_cons hkx, List.drop_eq_getElem_cons hky] at hd
        clear hca hcb hxk hyk
        rcases he : decide (xs[k] = ys[k]) with _ | _
        · have HF : Hd (decide (xs = ys) = false) := ⟨by
            rw [← hd]
            exact decide_eq_false (fun e => of_decide_eq_false he (by injection e))⟩
          rw [he] at HS
          have S1 : Hd (∀ w', Below wr.heap.size wr w' → w'.cell? ⟨gv, ov + k, none⟩ = some a ∧ w'.cell? ⟨gu, ou + k, none⟩ = some b) := ⟨fun w' hb => ⟨by rw [hb.cell (p := ⟨gv, ov + k, none⟩) (World.block_lt_of_cell? wr _ (by rw [ca])), ca], by rw [hb.cell (p := ⟨gu, ou + k, none⟩) (World.block_lt_of_cell? wr _ (by rw [cb])), cb]⟩⟩
          have HDr := Hd.mk (Bel wr 1)
          clear hd he hRa hRb ca cb
          go_upto_region 6 with (fail)
          refine wp_region_lin default (fun w' => w'.cell? ⟨gv, ov + k, none⟩ = some a ∧ w'.cell? ⟨gu, ou + k, none⟩ = some b) [(0, true), (1, true), (2, true), (3, true), (4, true), (5, true), (6, true), (7, true), (8, false), (9, true)] (by kernel_rfl) (by kernel_rfl) rfl (by kernel_rfl) (by kernel_rfl) (S1.out _ (((Keeps.refl (fun _ => False) wr).drew).below (Nat.le_refl _) (fun _ _ h => h))) ?_
          simp only [pick, List.getD_cons_zero, List.getD_cons_succ]
          repeat
            refine lin_free (v := ?_) (by rfl) ?_ ?_
            rotate_left
            · intro w' hSw
              obtain ⟨d0, d1⟩ := hSw
              go_simp
              first | done | with_reducible rfl
            simp only [Act.put, List.setIfInBounds_toArray, List.set_cons_zero, List.set_cons_succ]
          refine lin_bound (fun K hK => ?_)
          go_simp
          refine (HS.out wr.drew (((Keeps.refl (fun _ => False) wr).drew).below (Nat.le_refl _) (fun _ _ h => h))).mono ?_
          rintro e w2 ⟨rfl, hb2⟩
          have hb3 : Below wr.heap.size wr w2 := (((Keeps.refl (fun _ => False) wr).drew).below (Nat.le_refl _) (fun _ _ h => h)).trans hb2
          have HB3 := Hd.mk hb3
          clear hb2 hb3
          dsimp only
          refine hK.out _ _ (S1.out w2 HB3.out) ?_
          clear hK K
          repeat
            refine lin_free (v := ?_) (by rfl) ?_ ?_
            rotate_left
            · intro w' hSw
              go_simp
              first | done | with_reducible rfl
            try simp only [Act.put, List.setIfInBounds_toArray, List.set_cons_zero, List.set_cons_succ]
          refine NoPanic.normal ?_
          have HK2 : Hd (Below w.heap.size w w2) := ⟨HK.out.trans (HB3.out.mono HK.out.size)⟩
          go_wp2
          go_ret
          exact ⟨ret_b HF.out.symm, HK2.out⟩
        · have HD2 : Hd (decide (xs.drop (k + 1) = ys.drop (k + 1)) = decide (xs = ys)) := ⟨by
            rw [← hd]
            have e := of_decide_eq_true he
            rw [e]
            exact decide_eq_decide.2 ⟨fun h => by rw [h], fun h => by injection h⟩⟩
          rw [he] at HS
          have S1 : Hd (∀ w', Below wr.heap.size wr w' → w'.cell? ⟨gv, ov + k, none⟩ = some a ∧ w'.cell? ⟨gu, ou + k, none⟩ = some b) := ⟨fun w' hb => ⟨by rw [hb.cell (p := ⟨gv, ov + k, none⟩) (World.block_lt_of_cell? wr _ (by rw [ca])), ca], by rw [hb.cell (p := ⟨gu, ou + k, none⟩) (World.block_lt_of_cell? wr _ (by rw [cb])), cb]⟩⟩
          have HDr := Hd.mk (Bel wr 1)
          clear hd he hRa hRb ca cb
          go_upto_region 6 with (fail)
          refine wp_region_lin default (fun w' => w'.cell? ⟨gv, ov + k, none⟩ = some a ∧ w'.cell? ⟨gu, ou + k, none⟩ = some b) [(0, true), (1, true), (2, true), (3, true), (4, true), (5, true), (6, true), (7, true), (8, false), (9, true)] (by kernel_rfl) (by kernel_rfl) rfl (by kernel_rfl) (by kernel_rfl) (S1.out _ (((Keeps.refl (fun _ => False) wr).drew).below (Nat.le_refl _) (fun _ _ h => h))) ?_
          simp only [pick, List.getD_cons_zero, List.getD_cons_succ]
          repeat
            refine lin_free (v := ?_) (by rfl) ?_ ?_
            rotate_left
            · intro w' hSw
              obtain ⟨d0, d1⟩ := hSw
              go_simp
              first | done | with_reducible rfl
            simp only [Act.put, List.setIfInBounds_toArray, List.set_cons_zero, List.set_cons_succ]
          refine lin_bound (fun K hK => ?_)
          go_simp
          refine (HS.out wr.drew (((Keeps.refl (fun _ => False) wr).drew).below (Nat.le_refl _) (fun _ _ h => h))).mono ?_
          rintro e w2 ⟨rfl, hb2⟩
          have hb3 : Below wr.heap.size wr w2 := (((Keeps.refl (fun _ => False) wr).drew).below (Nat.le_refl _) (fun _ _ h => h)).trans hb2
          have HB3 := Hd.mk hb3
          clear hb2 hb3
          dsimp only
          refine hK.out _ _ (S1.out w2 HB3.out) ?_
          clear hK K
          repeat
            refine lin_free (v := ?_) (by rfl) ?_ ?_
            rotate_left
            · intro w' hSw
              go_simp
              first | done | with_reducible rfl
            try simp only [Act.put, List.setIfInBounds_toArray, List.set_cons_zero, List.set_cons_succ]
          refine NoPanic.normal ?_
          have HK2 : Hd (Below w.heap.size w w2) := ⟨HK.out.trans (HB3.out.mono HK.out.size)⟩
          go_wp2
          go_roundw
          case rel => exact ⟨k + 1, hlt, by go_num, HD2, HK2⟩
          case measure => exact hmk
      · have hd1 : decide ((k : Int) < (M : Int)) = false := by simp; omega
        have HT : Hd (decide (xs = ys) = true) := ⟨by
          rw [← HD.out, show xs.drop k = [] from List.drop_eq_nil_of_le (by rw [HN.out.1]; omega), show ys.drop k = [] from List.drop_eq_nil_of_le (by rw [HN.out.2.1]; omega)]; rfl⟩
        go_wp2
        go_ret
        exact ⟨ret_b HT.out.symm, HK.out⟩
  · have hne : ¬ (M : Int) = (K : Int) := by omega
    have hne2 : ((M : Int) != (K : Int)) = true := by simp; omega
    have HF : Hd (decide (xs = ys) = false) := ⟨decide_eq_false (fun e => hMK (by rw [← HN.out.1, ← HN.out.2.1, e]))⟩
    go_enter Try.func14, Try.ntmps14
    go_wp2
    go_ret
    exact ⟨ret_b HF.out.symm, Below.refl _ _⟩

end Go.Proofs.Ytlncfhkmjbempaa.W

/-
  The laws' few, small.
-/
namespace Go.Proofs.Ytlncfhkmjbempaa.W
open Go.RowKit
set_option linter.unusedVariables false

def fewB (n : Int) (a r : Nat) : Bool := decide (n ≤ 14) && decide (a ≤ 60) && decide (r ≤ 20)

set_option maxRecDepth 100000 in
theorem few_any (w : World) (n : Int) (p q : Option Addr) (a r c d : Nat) :
    Calls Try.prog 11 #[.int .i64 n, .slice p a c, .slice q r d] w fun e w' => e = .returned (.bool (fewB n a r)) ∧ w = w' := by
  go_enter Try.func11, Try.ntmps11
  by_cases h1 : n ≤ 14
  · have e1 : decide (n ≤ 14) = true := by simpa using h1
    by_cases h2 : a ≤ 60
    · have e2 : decide ((a : Int) ≤ 60) = true := by simp; omega
      go_wp2
      go_ret
      exact ⟨ret_b (by simp only [fewB]; rw [e1, decide_eq_true h2]; simp; omega), rfl⟩
    · have e2 : decide ((a : Int) ≤ 60) = false := by simp; omega
      go_wp2
      go_ret
      exact ⟨ret_b (by simp only [fewB]; rw [e1, decide_eq_false h2]; rfl), rfl⟩
  · have e1 : decide (n ≤ 14) = false := by simpa using h1
    go_wp2
    go_ret
    exact ⟨ret_b (by simp only [fewB]; rw [e1]; rfl), rfl⟩

def arcs1 : List Arc := [⟨0, 1⟩, ⟨1, 0⟩, ⟨1, 2⟩, ⟨3, 2⟩]
def arcs2 : List Arc := [⟨0, 1⟩, ⟨0, 2⟩, ⟨1, 3⟩, ⟨2, 3⟩]
def arcs3 : List Arc := [⟨2, 1⟩, ⟨1, 2⟩]

theorem up {w wk : World} (h : Below w.heap.size w wk) (o : Obj) : Below w.heap.size w (wk.alloc o) := h.alloc h.size o

theorem arcs_rw {w : World} {g : Nat} (arcs : List Arc) (hb : Blk w g 36 (arcs.flatMap Arc.cells)) {c : Nat} : Rw 2 Arc.E w (.slice (some ⟨g, 0, none⟩) arcs.length c) arcs :=
  Rw.of_blk (css := arcs.map Arc.cells) hb (by rw [List.flatMap]) (by simp) (fun cs h => by obtain ⟨a, _, rfl⟩ := List.mem_map.1 h; rfl) (fun j x cs hx hc => by rw [List.getElem?_map, hx] at hc; cases hc; rfl)

theorem lit_rows (w : World) : Rw 1 rowE ((((w.alloc (.cells #[.int .i64 2] 3)).alloc (.cells #[.int .i64 0, .int .i64 1] 3)).alloc (.cells #[.int .i64 3] 3)).alloc (.cells #[.slice (some ⟨w.heap.size, 0, none⟩) 1 1, .slice (some ⟨w.heap.size + 1, 0, none⟩) 2 2, .slice (some ⟨w.heap.size + 2, 0, none⟩) 1 1] 23))
    (.slice (some ⟨w.heap.size + 3, 0, none⟩) 3 3) [[2], [0, 1], [3]] := by
  have r1 : RI (w.alloc (.cells #[.int .i64 2] 3)) (.slice (some ⟨w.heap.size, 0, none⟩) 1 1) [2] := Rw.ints (ks := [2]) (Blk.new w 3 [.int .i64 2])
  have r2 : RI ((w.alloc (.cells #[.int .i64 2] 3)).alloc (.cells #[.int .i64 0, .int .i64 1] 3)) (.slice (some ⟨w.heap.size + 1, 0, none⟩) 2 2) [0, 1] := by
    have := Rw.ints (ks := [0, 1]) (cap := 2) (Blk.new (w.alloc (.cells #[.int .i64 2] 3)) 3 [.int .i64 0, .int .i64 1])
    rw [show (w.alloc (.cells #[.int .i64 2] 3)).heap.size = w.heap.size + 1 by simp] at this
    exact this
  have r3 : RI (((w.alloc (.cells #[.int .i64 2] 3)).alloc (.cells #[.int .i64 0, .int .i64 1] 3)).alloc (.cells #[.int .i64 3] 3)) (.slice (some ⟨w.heap.size + 2, 0, none⟩) 1 1) [3] := by
    have := Rw.ints (ks := [3]) (cap := 1) (Blk.new ((w.alloc (.cells #[.int .i64 2] 3)).alloc (.cells #[.int .i64 0, .int .i64 1] 3)) 3 [.int .i64 3])
    rw [show ((w.alloc (.cells #[.int .i64 2] 3)).alloc (.cells #[.int .i64 0, .int .i64 1] 3)).heap.size = w.heap.size + 2 by simp] at this
    exact this
  have hb := Blk.new (((w.alloc (.cells #[.int .i64 2] 3)).alloc (.cells #[.int .i64 0, .int .i64 1] 3)).alloc (.cells #[.int .i64 3] 3)) 23 [.slice (some ⟨w.heap.size, 0, none⟩) 1 1, .slice (some ⟨w.heap.size + 1, 0, none⟩) 2 2, .slice (some ⟨w.heap.size + 2, 0, none⟩) 1 1]
  rw [show (((w.alloc (.cells #[.int .i64 2] 3)).alloc (.cells #[.int .i64 0, .int .i64 1] 3)).alloc (.cells #[.int .i64 3] 3)).heap.size = w.heap.size + 3 by simp] at hb
  refine Rw.of_blk1 (xs := [[2], [0, 1], [3]]) hb rfl (fun j x u hx hu => ?_)
  rcases j with _ | _ | _ | j
  · cases hx; cases hu
    exact ⟨_, rfl, Rw.below (Rw.below (Rw.below r1 intE_stays (below_al _ _)) intE_stays (below_al _ _)) intE_stays (below_al _ _)⟩
  · cases hx; cases hu
    exact ⟨_, rfl, Rw.below (Rw.below r2 intE_stays (below_al _ _)) intE_stays (below_al _ _)⟩
  · cases hx; cases hu
    exact ⟨_, rfl, Rw.below r3 intE_stays (below_al _ _)⟩
  · simp at hx

theorem ex_parts : (Tj.greedy 4 (fun u x => (Tj.heads (Tj.waysOf 4 (nx 4 arcs1) [u])).contains x) 4 (fun _ => false)).map intL = [[2], [0, 1], [3]] := by decide +kernel
theorem ex_reach : intL (reachL 4 arcs1 [0]) = [0, 1, 2] := by decide +kernel
theorem ex_way : intL (Tj.wayL (wavesOf 4 arcs2 [0]) 3) = [0, 1, 3] := by decide +kernel
theorem ex_loop : intL (loopL 3 arcs3) = [1, 2] := by decide +kernel
theorem ex_noloop : loopL 4 arcs2 = [] := by decide +kernel
theorem ex_r1 : rightB 4 arcs1 = true := by decide +kernel
theorem ex_r2 : rightB 4 arcs2 = true := by decide +kernel
theorem ex_r3 : rightB 3 arcs3 = true := by decide +kernel
theorem ex_r4 : rightB 2 arcs1 = false := by decide +kernel

set_option maxHeartbeats 4000000 in
set_option maxRecDepth 100000 in
theorem small_any (w : World) : Calls Try.prog 10 #[] w fun e w' => e = .returned (.bool true) ∧ Below w.heap.size w w' := by
  have hb1 := Blk.new w 36 (arcs1.flatMap Arc.cells)
  have hb2 := Blk.new (w.alloc (.cells (arcs1.flatMap Arc.cells).toArray 36)) 36 (arcs2.flatMap Arc.cells)
  have R1 : ∀ w', Below ((w.alloc (.cells (arcs1.flatMap Arc.cells).toArray 36)).alloc (.cells (arcs2.flatMap Arc.cells).toArray 36)).heap.size ((w.alloc (.cells (arcs1.flatMap Arc.cells).toArray 36)).alloc (.cells (arcs2.flatMap Arc.cells).toArray 36)) w' → Rw 2 Arc.E w' (.slice (some ⟨w.heap.size, 0, none⟩) 4 4) arcs1 :=
    fun w' h => ((arcs_rw arcs1 hb1 (c := 4)).below Arc.stays (below_al _ _)).below Arc.stays h
  have R2 : ∀ w', Below ((w.alloc (.cells (arcs1.flatMap Arc.cells).toArray 36)).alloc (.cells (arcs2.flatMap Arc.cells).toArray 36)).heap.size ((w.alloc (.cells (arcs1.flatMap Arc.cells).toArray 36)).alloc (.cells (arcs2.flatMap Arc.cells).toArray 36)) w' → Rw 2 Arc.E w' (.slice (some ⟨w.heap.size + 1, 0, none⟩) 4 4) arcs2 :=
    fun w' h => (show Rw 2 Arc.E _ (.slice (some ⟨w.heap.size + 1, 0, none⟩) 4 4) arcs2 from by
      have := arcs_rw arcs2 hb2 (c := 4)
      rw [show (w.alloc (.cells (arcs1.flatMap Arc.cells).toArray 36)).heap.size = w.heap.size + 1 by simp] at this
      exact this).below Arc.stays h
  have HB0 : Hd (Below w.heap.size w ((w.alloc (.cells (arcs1.flatMap Arc.cells).toArray 36)).alloc (.cells (arcs2.flatMap Arc.cells).toArray 36))) := ⟨up (up (Below.refl _ _) _) _⟩
  obtain ⟨W, hW⟩ : ∃ W, (w.alloc (.cells #[.int .i64 0, .int .i64 1, .int .i64 1, .int .i64 0, .int .i64 1, .int .i64 2, .int .i64 3, .int .i64 2] 36)).alloc (.cells #[.int .i64 0, .int .i64 1, .int .i64 0, .int .i64 2, .int .i64 1, .int .i64 3, .int .i64 2, .int .i64 3] 36) = W := ⟨_, rfl⟩
  have HB0' : Hd (Below w.heap.size w W) := ⟨by rw [← hW]; exact HB0.out⟩
  have HR1 : Hd (∀ w', Below W.heap.size W w' → Rw 2 Arc.E w' (.slice (some ⟨w.heap.size, 0, none⟩) 4 4) arcs1) := ⟨by rw [← hW]; exact R1⟩
  have HR2 : Hd (∀ w', Below W.heap.size W w' → Rw 2 Arc.E w' (.slice (some ⟨w.heap.size + 1, 0, none⟩) 4 4) arcs2) := ⟨by rw [← hW]; exact R2⟩
  have HW := Hd.mk hW
  clear R1 R2 hb1 hb2 HB0 hW
  have HP1 : Hd (Calls Try.prog 15 #[.int .i64 4, .slice (some ⟨w.heap.size, 0, none⟩) 4 4] W fun e w' => ∃ v' vs, e = .returned v' ∧ RowsO w' W.heap.size v' vs [[2], [0, 1], [3]] ∧ Below W.heap.size W w') := ⟨by
    have := parts_any W 4 (by decide) (.slice (some ⟨w.heap.size, 0, none⟩) 4 4) arcs1 (HR1.out W (Below.refl _ _)) (by decide) ex_r1
    rw [ex_parts] at this
    exact this⟩
  go_enter Try.func10, Try.ntmps10
  go_wp2_with fail
  rw [HW.out]
  refine HP1.out.mono ?_
  rintro e w1 ⟨v1, vs1, rfl, hro1, b1⟩
  have HB1 := Hd.mk b1
  have HS1 := Hd.mk (fun (w' : World) (hb : Below w1.heap.size w1 w') (u : Value) (hu : Rw 1 rowE w' u [[2], [0, 1], [3]]) => rsameL_any w' v1 u [[2], [0, 1], [3]] [[2], [0, 1], [3]] (by decide) (by decide) (by decide) (by decide) ((RR.of hro1).below rowE_stays hb) hu |>.mono (R' := fun e w'' => e = .returned (.bool true) ∧ Below w'.heap.size w' w'') (fun e w'' ⟨a, b⟩ => ⟨by rw [a]; rfl, b⟩))
  have HL1 := Hd.mk (lit_rows w1)
  clear b1 hro1 HP1
  go_wp2_with fail
  refine (HS1.out _ (up (up (up (up (Below.refl _ _) _) _) _) _) _ HL1.out).mono ?_
  rintro e w2 ⟨rfl, b2⟩
  have HB2 : Hd (Below W.heap.size W w2) := ⟨(up (up (up (up HB1.out _) _) _) _).trans (b2.mono (up (up (up (up HB1.out _) _) _) _).size)⟩
  clear b2 HS1 HL1 HB1
  -- Reach
  have HRe := Hd.mk (fun (w' : World) (hb : Below W.heap.size W w') (rv : Value) (hr : RI w' rv [0]) => reach_any w' 4 (by decide) (.slice (some ⟨w.heap.size, 0, none⟩) 4 4) rv arcs1 [0] (HR1.out w' hb) (by decide) ex_r1 hr (by decide))
  have r0 : RI (w2.alloc (.cells #[.int .i64 0] 3)) (.slice (some ⟨w2.heap.size, 0, none⟩) 1 1) [0] := Rw.ints (ks := [0]) (Blk.new w2 3 [.int .i64 0])
  have HC1 := Hd.mk (HRe.out _ (up HB2.out _) _ r0)
  clear r0 HRe
  go_wp2_with fail
  refine HC1.out.mono ?_
  rintro e w3 ⟨v3, rfl, o3, b3⟩
  have HB3 : Hd (Below W.heap.size W w3) := ⟨(up HB2.out _).trans (b3.mono (up HB2.out _).size)⟩
  have r3 : RI w3 v3 [0, 1, 2] := by
    have := RI.ofN o3
    rw [ex_reach] at this
    exact this
  have HC2 := Hd.mk ((rsame_any (w3.alloc (.cells #[.int .i64 0, .int .i64 1, .int .i64 2] 3)) v3 (.slice (some ⟨w3.heap.size, 0, none⟩) 3 3) [0, 1, 2] [0, 1, 2] (by decide) (by decide) (Rw.below r3 intE_stays (below_al _ _)) (Rw.ints (ks := [0, 1, 2]) (Blk.new w3 3 [.int .i64 0, .int .i64 1, .int .i64 2]))).mono (R' := fun e w'' => e = .returned (.bool true) ∧ Below (w3.alloc (.cells #[.int .i64 0, .int .i64 1, .int .i64 2] 3)).heap.size (w3.alloc (.cells #[.int .i64 0, .int .i64 1, .int .i64 2] 3)) w'') (fun e w'' ⟨a, b⟩ => ⟨by rw [a]; rfl, b⟩))
  clear o3 b3 r3 HC1 HB2
  go_wp2_with fail
  refine HC2.out.mono ?_
  rintro e w4 ⟨rfl, b4⟩
  have HB4 : Hd (Below W.heap.size W w4) := ⟨(up HB3.out _).trans (b4.mono (up HB3.out _).size)⟩
  clear b4 HC2 HB3
  -- Way
  have r0 : RI (w4.alloc (.cells #[.int .i64 0] 3)) (.slice (some ⟨w4.heap.size, 0, none⟩) 1 1) [0] := Rw.ints (ks := [0]) (Blk.new w4 3 [.int .i64 0])
  have HC3 := Hd.mk (way_any _ 4 (by decide) (.slice (some ⟨w.heap.size + 1, 0, none⟩) 4 4) _ arcs2 [0] 3 (by decide) (HR2.out _ (up HB4.out _)) (by decide) ex_r2 r0 (by decide))
  clear r0
  go_wp2_with fail
  refine HC3.out.mono ?_
  rintro e w5 ⟨v5, rfl, o5, b5⟩
  have HB5 : Hd (Below W.heap.size W w5) := ⟨(up HB4.out _).trans (b5.mono (up HB4.out _).size)⟩
  have r5 : RI w5 v5 [0, 1, 3] := by
    have := RI.ofN o5
    rw [ex_way] at this
    exact this
  have HC4 := Hd.mk ((rsame_any (w5.alloc (.cells #[.int .i64 0, .int .i64 1, .int .i64 3] 3)) v5 (.slice (some ⟨w5.heap.size, 0, none⟩) 3 3) [0, 1, 3] [0, 1, 3] (by decide) (by decide) (Rw.below r5 intE_stays (below_al _ _)) (Rw.ints (ks := [0, 1, 3]) (Blk.new w5 3 [.int .i64 0, .int .i64 1, .int .i64 3]))).mono (R' := fun e w'' => e = .returned (.bool true) ∧ Below (w5.alloc (.cells #[.int .i64 0, .int .i64 1, .int .i64 3] 3)).heap.size (w5.alloc (.cells #[.int .i64 0, .int .i64 1, .int .i64 3] 3)) w'') (fun e w'' ⟨a, b⟩ => ⟨by rw [a]; rfl, b⟩))
  clear o5 b5 r5 HC3 HB4
  go_wp2_with fail
  refine HC4.out.mono ?_
  rintro e w6 ⟨rfl, b6⟩
  have HB6 : Hd (Below W.heap.size W w6) := ⟨(up HB5.out _).trans (b6.mono (up HB5.out _).size)⟩
  clear b6 HC4 HB5
  -- Loop
  have ra : Rw 2 Arc.E (w6.alloc (.cells #[.int .i64 2, .int .i64 1, .int .i64 1, .int .i64 2] 36)) (.slice (some ⟨w6.heap.size, 0, none⟩) 2 2) arcs3 := arcs_rw arcs3 (c := 2) (Blk.new w6 36 (arcs3.flatMap Arc.cells))
  have HC5 := Hd.mk (loop_any _ 3 (by decide) _ arcs3 ra (by decide) ex_r3)
  clear ra
  go_wp2_with fail
  refine HC5.out.mono ?_
  rintro e w7 ⟨v7, rfl, o7, b7⟩
  have HB7 : Hd (Below W.heap.size W w7) := ⟨(up HB6.out _).trans (b7.mono (up HB6.out _).size)⟩
  have r7 : RI w7 v7 [1, 2] := by
    have := RI.ofN o7
    rw [ex_loop] at this
    exact this
  have HC6 := Hd.mk ((rsame_any (w7.alloc (.cells #[.int .i64 1, .int .i64 2] 3)) v7 (.slice (some ⟨w7.heap.size, 0, none⟩) 2 2) [1, 2] [1, 2] (by decide) (by decide) (Rw.below r7 intE_stays (below_al _ _)) (Rw.ints (ks := [1, 2]) (Blk.new w7 3 [.int .i64 1, .int .i64 2]))).mono (R' := fun e w'' => e = .returned (.bool true) ∧ Below (w7.alloc (.cells #[.int .i64 1, .int .i64 2] 3)).heap.size (w7.alloc (.cells #[.int .i64 1, .int .i64 2] 3)) w'') (fun e w'' ⟨a, b⟩ => ⟨by rw [a]; rfl, b⟩))
  clear o7 b7 r7 HC5 HB6
  go_wp2_with fail
  refine HC6.out.mono ?_
  rintro e w8 ⟨rfl, b8⟩
  have HB8 : Hd (Below W.heap.size W w8) := ⟨(up HB7.out _).trans (b8.mono (up HB7.out _).size)⟩
  clear b8 HC6 HB7
  have HC7 := Hd.mk (loop_any w8 4 (by decide) (.slice (some ⟨w.heap.size + 1, 0, none⟩) 4 4) arcs2 (HR2.out _ HB8.out) (by decide) ex_r2)
  rw [ex_noloop] at HC7
  go_wp2_with fail
  refine HC7.out.mono ?_
  rintro e w9 ⟨v9, rfl, o9, b9⟩
  obtain ⟨p9, c9, hv9⟩ := o9.slice'
  have hv9' : v9 = .slice p9 0 c9 := hv9
  subst hv9'
  have HB9 : Hd (Below W.heap.size W w9) := ⟨HB8.out.trans (b9.mono HB8.out.size)⟩
  clear o9 b9 HC7 HB8 hv9
  have HC8 := Hd.mk (gright_any w9 4 (.slice (some ⟨w.heap.size, 0, none⟩) 4 4) arcs1 (HR1.out _ HB9.out) (by unfold lenR; decide))
  rw [ex_r1] at HC8
  go_wp2_with fail
  refine HC8.out.mono ?_
  rintro e w10 ⟨rfl, b10⟩
  have HB10 : Hd (Below W.heap.size W w10) := ⟨HB9.out.trans (b10.mono HB9.out.size)⟩
  have HC9 := Hd.mk (gright_any w10 2 (.slice (some ⟨w.heap.size, 0, none⟩) 4 4) arcs1 (HR1.out _ HB10.out) (by unfold lenR; decide))
  rw [ex_r4] at HC9
  clear b10 HC8 HB9
  go_wp2_with fail
  refine HC9.out.mono ?_
  rintro e w11 ⟨rfl, b11⟩
  have HB11 : Hd (Below W.heap.size W w11) := ⟨HB10.out.trans (b11.mono HB10.out.size)⟩
  have HC10 := Hd.mk (parts_no w11 2 (.slice (some ⟨w.heap.size, 0, none⟩) 4 4) arcs1 (HR1.out _ HB11.out) (by unfold lenR; decide) ex_r4)
  clear b11 HC9 HB10
  go_wp2_with fail
  refine HC10.out.mono ?_
  rintro e w12 ⟨rfl, b12⟩
  have HB12 : Hd (Below w.heap.size w w12) := ⟨HB0'.out.trans ((HB11.out.trans (b12.mono HB11.out.size)).mono HB0'.out.size)⟩
  clear b12 HC10 HB11
  go_wp2
  go_ret
  exact ⟨rfl, HB12.out⟩

end Go.Proofs.Ytlncfhkmjbempaa.W

/-
  The laws' in, arc.
-/
namespace Go.Proofs.Ytlncfhkmjbempaa.W
open Go.RowKit
set_option linter.unusedVariables false

set_option maxHeartbeats 4000000 in
set_option maxRecDepth 100000 in
theorem in_any (w : World) (v : Value) (xs : List Int) (n : Int) (h : RI w v xs) (hl : xs.length ≤ 1000000) :
    Calls Try.prog 25 #[v, .int .i64 n] w fun e w' => e = .returned (.bool (decide (n ∈ xs))) ∧ w = w' := by
  obtain ⟨p, c, hv⟩ := Rw.slice h
  obtain ⟨M, hM⟩ : ∃ M, xs.length = M := ⟨_, rfl⟩
  rw [hM] at hv
  subst hv
  have H := Hd.mk h
  have HN := Hd.mk hM
  have hMb : M ≤ 1000000 := by omega
  clear h hM
  go_enter Try.func25, Try.ntmps25
  go_wp2
  go_loopw [5] (fun iv wr => ∃ k : Nat, k ≤ M ∧ iv = .int .i64 (k : Int) ∧ Hd (n ∉ xs.take k) ∧ w = wr) (fun iv _ => M - (intOf iv).toNat)
  case atStart => exact ⟨0, Nat.zero_le _, rfl, ⟨by simp⟩, rfl⟩
  case round =>
    obtain ⟨k, hk, rfl, HT, rfl⟩ := hrel
    by_cases hlt : k < M
    · have hd1 : decide ((k : Int) < (M : Int)) = true := by simp; omega
      have hmk : M - (intOf (.int .i64 ((k : Int) + 1))).toNat < M - (intOf (.int .i64 (k : Int))).toNat := by simp [intOf]; omega
      have hkx : k < xs.length := by rw [HN.out]; exact hlt
      obtain ⟨g, o, e1, cx⟩ := RI.cell H.out rfl hkx
      subst e1
      obtain ⟨x, hx⟩ : ∃ x, xs[k] = x := ⟨_, rfl⟩
      rw [hx] at cx
      have htk : xs.take (k + 1) = xs.take k ++ [x] := by rw [List.take_add_one, List.getElem?_eq_getElem hkx, hx]; rfl
      have hmem : x ∈ xs := by rw [← hx]; exact List.getElem_mem hkx
      by_cases hxn : x = n
      · subst hxn
        have HE : Hd (true = decide (x ∈ xs)) := ⟨(decide_eq_true hmem).symm⟩
        clear htk hmem hx hkx
        go_wp2
        go_ret
        exact ⟨ret_b HE.out, rfl⟩
      · have HT2 : Hd (n ∉ xs.take (k + 1)) := ⟨by
          rw [htk, List.mem_append, List.mem_singleton]
          rintro (h | h)
          · exact HT.out h
          · exact hxn h.symm⟩
        have hne : ¬ x = n := hxn
        clear htk hmem hx hkx
        go_wp2
        exact ⟨⟨k + 1, hlt, by go_num, HT2, trivial⟩, hmk⟩
    · have hd1 : decide ((k : Int) < (M : Int)) = false := by simp; omega
      have HE : Hd (false = decide (n ∈ xs)) := ⟨by
        have h1 := HT.out
        rw [List.take_of_length_le (by rw [HN.out]; omega)] at h1
        exact (decide_eq_false h1).symm⟩
      go_wp2
      go_ret
      exact ⟨ret_b HE.out, rfl⟩

def arcI (arcs : List Arc) (v x : Int) : Bool := arcs.any fun a => a.f == v && a.t == x

set_option maxHeartbeats 4000000 in
set_option maxRecDepth 100000 in
theorem arc_any (w : World) (v : Value) (arcs : List Arc) (a b : Int) (h : Rw 2 Arc.E w v arcs) (hl : arcs.length ≤ 1000000) :
    Calls Try.prog 26 #[v, .int .i64 a, .int .i64 b] w fun e w' => e = .returned (.bool (arcI arcs a b)) ∧ w = w' := by
  obtain ⟨p, c, hv⟩ := h.slice
  obtain ⟨M, hM⟩ : ∃ M, arcs.length = M := ⟨_, rfl⟩
  rw [hM] at hv
  subst hv
  have H := Hd.mk h
  have HN := Hd.mk hM
  have hMb : M ≤ 1000000 := by omega
  clear h hM
  go_enter Try.func26, Try.ntmps26
  go_wp2
  go_loopw [7] (fun iv wr => ∃ k : Nat, k ≤ M ∧ iv = .int .i64 (k : Int) ∧ Hd (arcI (arcs.take k) a b = false) ∧ w = wr) (fun iv _ => M - (intOf iv).toNat)
  case atStart => exact ⟨0, Nat.zero_le _, rfl, ⟨rfl⟩, rfl⟩
  case round =>
    obtain ⟨k, hk, rfl, HT, rfl⟩ := hrel
    by_cases hlt : k < M
    · have hd1 : decide ((k : Int) < (M : Int)) = true := by simp; omega
      have hmk : M - (intOf (.int .i64 ((k : Int) + 1))).toNat < M - (intOf (.int .i64 (k : Int))).toNat := by simp [intOf]; omega
      have hkq : k < arcs.length := by rw [HN.out]; exact hlt
      obtain ⟨g, of, cs, hpe, hg, hcl, hE, hcc⟩ := H.out.at rfl (j := k) hkq
      subst hpe
      rw [show cs = arcs[k].cells from hE] at hcc
      obtain ⟨x, hx⟩ : ∃ x, arcs[k].f = x := ⟨_, rfl⟩
      obtain ⟨y, hy⟩ : ∃ y, arcs[k].t = y := ⟨_, rfl⟩
      have d0 : w.cell? ⟨g, of + k * 2, none⟩ = some (.int .i64 x) := by rw [← hx]; exact hcc 0 _ rfl
      have d1 : w.cell? ⟨g, of + k * 2 + 1, none⟩ = some (.int .i64 y) := by rw [← hy]; exact hcc 1 _ rfl
      have htk : arcI (arcs.take (k + 1)) a b = (x == a && y == b) := by
        have e : arcs.take (k + 1) = arcs.take k ++ [arcs[k]] := by rw [List.take_add_one, List.getElem?_eq_getElem hkq]; rfl
        have h1 := HT.out
        unfold arcI at h1 ⊢
        rw [e, List.any_append, h1, ← hx, ← hy]
        simp
      have hfull : (x == a && y == b) = true → arcI arcs a b = true := fun h => List.any_eq_true.2 ⟨arcs[k], List.getElem_mem hkq, by rw [hx, hy]; exact h⟩
      have HTk := Hd.mk (And.intro htk hfull)
      clear hcc hcl hE hg hx hy hkq cs htk hfull
      by_cases h1 : x = a
      · subst h1
        by_cases h2 : y = b
        · subst h2
          have HE : Hd (true = arcI arcs x y) := ⟨(HTk.out.2 (by simp)).symm⟩
          go_wp2
          go_ret
          exact ⟨ret_b HE.out, rfl⟩
        · have HT2 : Hd (arcI (arcs.take (k + 1)) x b = false) := ⟨by rw [HTk.out.1]; simp [h2]⟩
          go_wp2
          exact ⟨⟨k + 1, hlt, by go_num, HT2, trivial⟩, hmk⟩
      · have HT2 : Hd (arcI (arcs.take (k + 1)) a b = false) := ⟨by rw [HTk.out.1]; simp [h1]⟩
        go_wp2
        exact ⟨⟨k + 1, hlt, by go_num, HT2, trivial⟩, hmk⟩
    · have hd1 : decide ((k : Int) < (M : Int)) = false := by simp; omega
      have HE : Hd (false = arcI arcs a b) := ⟨by
        have h1 := HT.out
        rw [List.take_of_length_le (by rw [HN.out]; omega)] at h1
        exact h1.symm⟩
      go_wp2
      go_ret
      exact ⟨ret_b HE.out, rfl⟩

end Go.Proofs.Ytlncfhkmjbempaa.W
