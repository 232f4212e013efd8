/-
  GraphWays.
-/
import Derived.Test.YtlncfhkmjbempaaWyP
import Derived.Test.YtlncfhkmjbempaaArcA
namespace Go.Proofs.Ytlncfhkmjbempaa.W
open Go.RowKit
set_option linter.unusedVariables false

set_option maxHeartbeats 4000000 in
set_option maxRecDepth 100000 in
theorem wayslaw_any (w : World) (n : Int) (v : Value) (arcs : List Arc) (rv : Value) (roots : List Int) (to : Int) (ov : Value) (other : List Int) (hn : I64 n) (h1 : ArgArcs w v arcs) (h2 : ArgI w rv roots) (hto : I64 to) (h3 : ArgI w ov other) :
    Calls Try.prog 7 #[.int .i64 n, v, rv, .int .i64 to, ov] w fun e w' => e = .returned (.bool true) ∧ Below w.heap.size w w' := by
  obtain ⟨p, c, hv⟩ := h1.row.slice
  obtain ⟨M, hM⟩ : ∃ M, arcs.length = M := ⟨_, rfl⟩
  rw [hM] at hv
  subst hv
  obtain ⟨q, d, hrv⟩ := Rw.slice h2.row
  obtain ⟨K, hK⟩ : ∃ K, roots.length = K := ⟨_, rfl⟩
  rw [hK] at hrv
  subst hrv
  have HRr := Hd.mk h2.row
  have HLr := Hd.mk hK
  have HL := Hd.mk hM
  have HR := Hd.mk h1.row
  have HS := Hd.mk (small_any w)
  have HI := Hd.mk hn
  obtain ⟨s, f, hov⟩ := Rw.slice h3.row
  obtain ⟨J, hJe⟩ : ∃ J, other.length = J := ⟨_, rfl⟩
  rw [hJe] at hov
  subst hov
  have HRo := Hd.mk h3.row
  have HLo := Hd.mk hJe
  have hJr : J ≤ 140737488351232 := by rw [← hJe]; exact h3.len
  clear h1 h2 hK hM hn hto h3 hJe
  go_enter Try.func7, Try.ntmps7
  go_wp2_with fail
  refine HS.out.mono ?_
  rintro e w1 ⟨rfl, b1⟩
  have HB := Hd.mk b1
  have HF := Hd.mk (few_any w1 n p q M K c d)
  clear b1 HS
  rcases hf : fewB n M K with _ | _
  · rw [hf] at HF
    clear hf
    go_wp2_with fail
    refine HF.out.mono ?_
    rintro e w2 ⟨rfl, rfl⟩
    go_wp2
    go_ret
    exact ⟨rfl, HB.out⟩
  · have hfb : n ≤ 14 ∧ M ≤ 60 ∧ K ≤ 20 := by
      simp only [fewB, Bool.and_eq_true, decide_eq_true_eq] at hf
      omega
    rw [hf] at HF
    have HC := Hd.mk (gright_any w1 n (.slice p M c) arcs (HR.out.below Arc.stays HB.out) (by unfold lenR; rw [HL.out]; omega))
    clear hf
    go_wp2_with fail
    refine HF.out.mono ?_
    rintro e w2 ⟨rfl, rfl⟩
    rcases hrb : rightB n arcs with _ | _
    · rw [hrb] at HC
      clear hrb
      go_wp2_with fail
      refine HC.out.mono ?_
      rintro e w2 ⟨rfl, b2⟩
      have HB2 := Hd.mk (HB.out.trans (b2.mono HB.out.size))
      clear b2 HC
      go_wp2
      go_ret
      exact ⟨rfl, HB2.out⟩
    · rw [hrb] at HC
      have HRb := Hd.mk hrb
      obtain ⟨m, rfl⟩ := nat_of (right_is hrb).1
      clear hrb
      have hmm : m ≤ 14 := by omega
      have HLn := Hd.mk (fun (w' : World) (u : Value) (xs : List Int) (hx : RI w' u xs) => hx)
      by_cases hJ : 20 < J
      · have t1 : decide ((20 : Int) < (J : Int)) = true := decide_eq_true (by omega)
        go_wp2_with fail
        refine HC.out.mono ?_
        rintro e w2 ⟨rfl, b2⟩
        have HB2 := Hd.mk (HB.out.trans (b2.mono HB.out.size))
        clear b2 HC HB HF
        go_wp2
        go_ret
        exact ⟨rfl, HB2.out⟩
      have t1 : decide ((20 : Int) < (J : Int)) = false := decide_eq_false (by omega)
      go_wp2_with fail
      refine HC.out.mono ?_
      rintro e w2 ⟨rfl, b2⟩
      have HB2 := Hd.mk (HB.out.trans (b2.mono HB.out.size))
      clear b2 HC HB HF HLn
      have hWq := way_q w2 (m : Int) (by omega) (.slice p M c) (.slice q K d) arcs roots to (HR.out.below Arc.stays HB2.out) (by rw [HL.out]; omega) (Rw.below HRr.out intE_stays HB2.out) (by rw [HLr.out]; omega)
      have HWo := Hd.mk (way_ok (n := m) (roots := roots) (to := to) HRb.out)
      obtain ⟨L, hLe⟩ : ∃ L, wayQ (m : Int) arcs roots to = L := ⟨_, rfl⟩
      rw [hLe] at hWq HWo
      clear hLe
      obtain ⟨N, hN⟩ : ∃ N, L.length = N := ⟨_, rfl⟩
      have hNm : N ≤ m := by rw [← hN]; exact HWo.out.len
      have HN := Hd.mk hN
      have HWq := Hd.mk hWq
      clear hN hWq
      have HAr : Hd (∀ w', Below w.heap.size w w' → ∀ a b : Int, Calls Try.prog 26 #[.slice p M c, .int .i64 a, .int .i64 b] w' fun e w'' => e = .returned (.bool (arcI arcs a b)) ∧ w' = w'') := ⟨fun w' hb a b => arc_any w' (.slice p M c) arcs a b (HR.out.below Arc.stays hb) (by rw [HL.out]; omega)⟩
      have HIn : Hd (∀ w', Below w.heap.size w w' → ∀ x : Int, Calls Try.prog 25 #[.slice q K d, .int .i64 x] w' fun e w'' => e = .returned (.bool (decide (x ∈ roots))) ∧ w' = w'') := ⟨fun w' hb x => in_any w' (.slice q K d) roots x (Rw.below HRr.out intE_stays hb) (by rw [HLr.out]; omega)⟩
      go_upto_region 4 with (fail)
      go_cut [12] from 15 (fun s12 wx => ∃ pl cl, s12 = .slice pl N cl ∧ Hd (RI wx (.slice pl N cl) L) ∧ Hd (Below w.heap.size w wx))
      case first =>
        go_wp2_with fail
        refine HWq.out.mono ?_
        rintro e w3 ⟨v3, rfl, o3, b3⟩
        obtain ⟨pl, cl, hv3⟩ := Rw.slice o3
        rw [HN.out] at hv3
        subst hv3
        have HB3 := Hd.mk (HB2.out.trans (b3.mono HB2.out.size))
        have HRl := Hd.mk o3
        clear o3 b3 HWq HB2
        go_wp2
        go_meet
        exact ⟨_, _, rfl, HRl, HB3⟩
      case rest =>
      obtain ⟨pl, cl, rfl, HRl, HB3⟩ := hcut
      rename World => w3
      clear HWq HB2
      go_step
      go_step
      go_cut [] from 15 (fun wx => Hd (Below w3.heap.size w3 wx))
      case first =>
        go_wp2
        go_loopw [13] (fun iv wr => ∃ k : Nat, k ≤ N ∧ iv = .int .i64 (k : Int) ∧ Hd (Below w3.heap.size w3 wr)) (fun iv _ => N - (intOf iv).toNat)
        case atStart => exact ⟨0, Nat.zero_le _, rfl, ⟨Below.refl _ _⟩⟩
        case round =>
          obtain ⟨k, hk, rfl, HK⟩ := hrel
          by_cases hlt : k + 1 < N
          · have hd1 : decide ((k : Int) + 1 < (N : Int)) = true := decide_eq_true (by omega)
            have hd2 : decide (((k + 1 : Nat) : Int) < (N : Int)) = true := decide_eq_true (by omega)
            have hmk : N - (intOf (.int .i64 ((k : Int) + 1))).toNat < N - (intOf (.int .i64 (k : Int))).toNat := by simp [intOf]; omega
            have hk1 : k + 1 < L.length := by rw [HN.out]; exact hlt
            obtain ⟨g, o, e2, hE⟩ := RI.ever HRl.out (by omega)
            subst e2
            have S1 : Hd (∀ w', Below w3.heap.size w3 w' → w'.cell? ⟨g, o + k, none⟩ = some (.int .i64 (L[k]'(by omega))) ∧ w'.cell? ⟨g, o + (k + 1), none⟩ = some (.int .i64 L[k + 1])) := ⟨fun w' hb => ⟨hE k (by omega) w' hb, hE (k + 1) hk1 w' hb⟩⟩
            have ha := HWo.out.arc k _ _ (List.getElem?_eq_getElem (show k < L.length by omega)) (List.getElem?_eq_getElem hk1)
            obtain ⟨x, hx⟩ : ∃ x, L[k]'(by omega) = x := ⟨_, rfl⟩
            obtain ⟨y, hy⟩ : ∃ y, L[k + 1] = y := ⟨_, rfl⟩
            rw [hx, hy] at S1 ha
            have HA1 := Hd.mk (HAr.out wr.drew ((HB3.out.trans (HK.out.mono HB3.out.size)).trans ((Bel wr 1).mono (Nat.le_trans HB3.out.size HK.out.size))) x y)
            rw [ha] at HA1
            have HK2 : Hd (Below w3.heap.size w3 wr.drew) := ⟨HK.out.trans ((Bel wr 1).mono HK.out.size)⟩
            have b1 : (k : Int) < (N : Int) := by omega
            have b2 : (k : Int) + 1 < (N : Int) := by omega
            have b0 : (0 : Int) ≤ (k : Int) + 1 := by omega
            have hwk : IntKind.i64.wrap ((k : Int) + 1) = (k : Int) + 1 := IntWalk.i64_in _ (by omega)
            clear hE hx hy ha hk1 HK
            go_upto_region 8 with (fail)
            refine wp_region_lin default (fun w' => w'.cell? ⟨g, o + k, none⟩ = some (.int .i64 x) ∧ w'.cell? ⟨g, o + (k + 1), none⟩ = some (.int .i64 y)) [(0, true), (1, true), (2, true), (3, true), (4, true), (5, true), (6, true), (7, true), (8, true), (9, true), (10, false), (11, true)] (by kernel_rfl) (by kernel_rfl) rfl (by kernel_rfl) (by kernel_rfl) (S1.out _ HK2.out) ?_
            simp only [pick, List.getD_cons_zero, List.getD_cons_succ]
            repeat
              refine lin_free (v := ?_) (by rfl) ?_ ?_
              rotate_left
              · intro w' hSw
                obtain ⟨d0, d1⟩ := hSw
                go_simp
                first | done | with_reducible rfl
              simp only [Act.put, List.setIfInBounds_toArray, List.set_cons_zero, List.set_cons_succ]
            refine lin_bound (fun K hK => ?_)
            go_simp
            refine HA1.out.mono ?_
            rintro e w5 ⟨rfl, rfl⟩
            dsimp only
            refine hK.out _ _ (S1.out _ HK2.out) ?_
            clear hK K
            repeat
              refine lin_free (v := ?_) (by rfl) ?_ ?_
              rotate_left
              · intro w' hSw
                go_simp
                first | done | with_reducible rfl
              try simp only [Act.put, List.setIfInBounds_toArray, List.set_cons_zero, List.set_cons_succ]
            refine NoPanic.normal ?_
            go_wp2
            go_roundw
            case rel => exact ⟨k + 1, by omega, by go_num, HK2⟩
            case measure => exact hmk
          · have hd1 : decide ((k : Int) + 1 < (N : Int)) = false := decide_eq_false (by omega)
            go_wp2
            go_meet
            exact HK
      case rest =>
      go_step
      go_step
      -- the ends
      go_cut [] from 15 (fun wx => Hd (Below w3.heap.size w3 wx))
      case first =>
        have HK3 : Hd (Below w.heap.size w _) := ⟨HB3.out.trans (hcut.out.mono HB3.out.size)⟩
        rcases Nat.eq_zero_or_pos N with h0 | h0
        · subst h0
          go_wp2
          go_meet
          exact hcut
        · obtain ⟨j, rfl⟩ : ∃ j, N = j + 1 := ⟨N - 1, by omega⟩
          obtain ⟨g, o, e2, hE⟩ := RI.ever HRl.out (by rw [HN.out]; omega)
          subst e2
          have c0 := hE 0 (by rw [HN.out]; omega) _ hcut.out
          have c1 := hE j (by rw [HN.out]; omega) _ hcut.out
          have hrt := HWo.out.root _ (List.getElem?_eq_getElem (by rw [HN.out]; omega))
          have hlt := HWo.out.last _ (by rw [HN.out]; exact List.getElem?_eq_getElem (by rw [HN.out]; omega))
          rw [show L[j]'(by rw [HN.out]; omega) = to from hlt] at c1
          obtain ⟨x, hx⟩ : ∃ x, L[0]'(by rw [HN.out]; omega) = x := ⟨_, rfl⟩
          rw [hx] at c0 hrt
          rw [Nat.add_zero] at c0
          have HI1 := Hd.mk (HIn.out _ HK3.out x)
          rw [decide_eq_true hrt] at HI1
          have hp0 : decide ((0 : Int) < ((j + 1 : Nat) : Int)) = true := decide_eq_true (by omega)
          have hwj : IntKind.i64.wrap (j : Int) = (j : Int) := IntWalk.i64_in _ (by omega)
          have gt : (to != to) = false := by simp
          clear hE hx hrt hlt
          go_wp2_with fail
          refine HI1.out.mono ?_
          rintro e w4 ⟨rfl, rfl⟩
          go_wp2
          go_meet
          exact hcut
      case rest =>
      rename World => w4
      have HK4 : Hd (Below w.heap.size w w4) := ⟨HB3.out.trans (hcut.out.mono HB3.out.size)⟩
      have HK3 := hcut
      clear hcut
      rcases Nat.eq_zero_or_pos J with h0 | h0
      · subst h0
        go_wp2
        go_ret
        exact ⟨rfl, HK4.out⟩
      obtain ⟨j, rfl⟩ : ∃ j, J = j + 1 := ⟨J - 1, by omega⟩
      have hJ0 : (((j + 1 : Nat) : Int) == 0) = false := by simp; omega
      obtain ⟨g, o, e2, hE⟩ := RI.ever HRo.out (by rw [HLo.out]; omega)
      subst e2
      have c0 := hE 0 (by rw [HLo.out]; omega) w4 HK4.out
      have c1 := hE j (by rw [HLo.out]; omega) w4 HK4.out
      have HE := Hd.mk hE
      have hz0 : other[0]? = some (other[0]'(by rw [HLo.out]; omega)) := List.getElem?_eq_getElem _
      have hz1 : other[other.length - 1]? = some (other[j]'(by rw [HLo.out]; omega)) := (congrArg (fun i => other[i]?) (show other.length - 1 = j by rw [HLo.out]; rfl)).trans (List.getElem?_eq_getElem _)
      obtain ⟨x, hx⟩ : ∃ x, other[0]'(by rw [HLo.out]; omega) = x := ⟨_, rfl⟩
      obtain ⟨z, hz⟩ : ∃ z, other[j]'(by rw [HLo.out]; omega) = z := ⟨_, rfl⟩
      rw [hx] at c0 hz0
      rw [hz] at c1 hz1
      rw [Nat.add_zero] at c0
      have HI1 := Hd.mk (HIn.out w4 HK4.out x)
      have hwj : IntKind.i64.wrap (j : Int) = (j : Int) := IntWalk.i64_in _ (by omega)
      have HZ := Hd.mk (And.intro hz0 hz1)
      clear hE hx hz hz0 hz1
      by_cases hr0 : x ∈ roots
      · rw [decide_eq_true hr0] at HI1
        by_cases hx0 : x < 0
        · have g1 : decide (x < 0) = true := decide_eq_true hx0
          clear hr0
          go_wp2_with fail
          refine HI1.out.mono ?_
          rintro e w5 ⟨rfl, rfl⟩
          go_wp2
          go_ret
          exact ⟨rfl, HK4.out⟩
        · have g1 : decide (x < 0) = false := decide_eq_false hx0
          by_cases hxm : (m : Int) ≤ x
          · have g2 : decide ((m : Int) ≤ x) = true := decide_eq_true hxm
            clear hr0
            go_wp2_with fail
            refine HI1.out.mono ?_
            rintro e w5 ⟨rfl, rfl⟩
            go_wp2
            go_ret
            exact ⟨rfl, HK4.out⟩
          · have g2 : decide ((m : Int) ≤ x) = false := decide_eq_false hxm
            by_cases hzt : z = to
            · subst hzt
              have gt : (z != z) = false := by simp
              have HS : Hd (x ∈ roots ∧ 0 ≤ x ∧ x < (m : Int)) := ⟨hr0, by omega, by omega⟩
              clear hr0 hx0 hxm
              go_wp2_with fail
              refine HI1.out.mono ?_
              rintro e w5 ⟨rfl, rfl⟩
              go_wp2
              clear c0 c1 g1 g2 gt HI1 hJ0
              go_loopw [14] (fun iv wr => ∃ k : Nat, k ≤ j + 1 ∧ iv = .int .i64 (k : Int) ∧ Hd (∀ i a b, i < k → other[i]? = some a → other[i + 1]? = some b → arcI arcs a b = true) ∧ Hd (Below w4.heap.size w4 wr)) (fun iv _ => j + 1 - (intOf iv).toNat)
              case atStart => exact ⟨0, Nat.zero_le _, rfl, ⟨fun i a b h => absurd h (Nat.not_lt_zero _)⟩, ⟨Below.refl _ _⟩⟩
              case round =>
                obtain ⟨k, hk, rfl, HT, HK⟩ := hrel
                by_cases hlt : k + 1 < j + 1
                · have hd1 : decide ((k : Int) + 1 < (j : Int) + 1) = true := decide_eq_true (by omega)
                  have hd2 : decide ((k : Int) + 1 < ((j + 1 : Nat) : Int)) = true := decide_eq_true (by omega)
                  have hd3 : k < j := by omega
                  have hmk : j + 1 - (intOf (.int .i64 ((k : Int) + 1))).toNat < j + 1 - (intOf (.int .i64 (k : Int))).toNat := by simp [intOf]; omega
                  have hk1 : k + 1 < other.length := by rw [HLo.out]; exact hlt
                  have HK5 := Hd.mk (HK4.out.trans (HK.out.mono HK4.out.size))
                  have S1 : Hd (∀ w', Below w.heap.size w w' → w'.cell? ⟨g, o + k, none⟩ = some (.int .i64 (other[k]'(by omega))) ∧ w'.cell? ⟨g, o + (k + 1), none⟩ = some (.int .i64 other[k + 1])) := ⟨fun w' hb => ⟨HE.out k (by omega) w' hb, HE.out (k + 1) hk1 w' hb⟩⟩
                  have hT2 : arcI arcs (other[k]'(by omega)) other[k + 1] = true → ∀ i a b, i < k + 1 → other[i]? = some a → other[i + 1]? = some b → arcI arcs a b = true := fun h i a b hi h1 h2 => by
                    rcases Nat.lt_or_ge i k with h3 | h3
                    · exact HT.out i a b h3 h1 h2
                    · have : i = k := by omega
                      subst this
                      rw [List.getElem?_eq_getElem (by omega)] at h1
                      rw [List.getElem?_eq_getElem hk1] at h2
                      cases h1; cases h2; exact h
                  obtain ⟨x', hx⟩ : ∃ x, other[k]'(by omega) = x := ⟨_, rfl⟩
                  obtain ⟨y, hy⟩ : ∃ y, other[k + 1] = y := ⟨_, rfl⟩
                  rw [hx, hy] at S1 hT2
                  have HBd : Hd (Below w.heap.size w wr.drew) := ⟨HK5.out.trans ((Bel wr 1).mono HK5.out.size)⟩
                  have HA1 := Hd.mk (HAr.out wr.drew HBd.out x' y)
                  have HK2 : Hd (Below w4.heap.size w4 wr.drew) := ⟨HK.out.trans ((Bel wr 1).mono HK.out.size)⟩
                  have b1 : (k : Int) < (j : Int) + 1 := by omega
                  have b2 : (k : Int) + 1 < (j : Int) + 1 := by omega
                  have b0 : (0 : Int) ≤ (k : Int) + 1 := by omega
                  have hwk : IntKind.i64.wrap ((k : Int) + 1) = (k : Int) + 1 := IntWalk.i64_in _ (by omega)
                  have HT2 := Hd.mk hT2
                  clear hx hy hk1 HK HT hT2
                  rcases har : arcI arcs x' y with _ | _
                  · rw [har] at HA1
                    clear har
                    go_upto_region 17 with (fail)
                    refine wp_region_lin default (fun w' => w'.cell? ⟨g, o + k, none⟩ = some (.int .i64 x') ∧ w'.cell? ⟨g, o + (k + 1), none⟩ = some (.int .i64 y)) [(0, true), (1, true), (2, true), (3, true), (4, true), (5, true), (6, true), (7, true), (8, true), (9, true), (10, false), (11, true)] (by kernel_rfl) (by kernel_rfl) rfl (by kernel_rfl) (by kernel_rfl) (S1.out _ HBd.out) ?_
                    simp only [pick, List.getD_cons_zero, List.getD_cons_succ]
                    repeat
                      refine lin_free (v := ?_) (by rfl) ?_ ?_
                      rotate_left
                      · intro w' hSw
                        obtain ⟨d0, d1⟩ := hSw
                        go_simp
                        first | done | with_reducible rfl
                      simp only [Act.put, List.setIfInBounds_toArray, List.set_cons_zero, List.set_cons_succ]
                    refine lin_bound (fun K hK => ?_)
                    go_simp
                    refine HA1.out.mono ?_
                    rintro e w5 ⟨rfl, rfl⟩
                    dsimp only
                    refine hK.out _ _ (S1.out _ HBd.out) ?_
                    clear hK K
                    repeat
                      refine lin_free (v := ?_) (by rfl) ?_ ?_
                      rotate_left
                      · intro w' hSw
                        go_simp
                        first | done | with_reducible rfl
                      try simp only [Act.put, List.setIfInBounds_toArray, List.set_cons_zero, List.set_cons_succ]
                    refine NoPanic.normal ?_
                    go_wp2
                    go_ret
                    exact ⟨rfl, HBd.out⟩
                  · have HT3 := Hd.mk (HT2.out har)
                    rw [har] at HA1
                    clear har
                    go_upto_region 17 with (fail)
                    refine wp_region_lin default (fun w' => w'.cell? ⟨g, o + k, none⟩ = some (.int .i64 x') ∧ w'.cell? ⟨g, o + (k + 1), none⟩ = some (.int .i64 y)) [(0, true), (1, true), (2, true), (3, true), (4, true), (5, true), (6, true), (7, true), (8, true), (9, true), (10, false), (11, true)] (by kernel_rfl) (by kernel_rfl) rfl (by kernel_rfl) (by kernel_rfl) (S1.out _ HBd.out) ?_
                    simp only [pick, List.getD_cons_zero, List.getD_cons_succ]
                    repeat
                      refine lin_free (v := ?_) (by rfl) ?_ ?_
                      rotate_left
                      · intro w' hSw
                        obtain ⟨d0, d1⟩ := hSw
                        go_simp
                        first | done | with_reducible rfl
                      simp only [Act.put, List.setIfInBounds_toArray, List.set_cons_zero, List.set_cons_succ]
                    refine lin_bound (fun K hK => ?_)
                    go_simp
                    refine HA1.out.mono ?_
                    rintro e w5 ⟨rfl, rfl⟩
                    dsimp only
                    refine hK.out _ _ (S1.out _ HBd.out) ?_
                    clear hK K
                    repeat
                      refine lin_free (v := ?_) (by rfl) ?_ ?_
                      rotate_left
                      · intro w' hSw
                        go_simp
                        first | done | with_reducible rfl
                      try simp only [Act.put, List.setIfInBounds_toArray, List.set_cons_zero, List.set_cons_succ]
                    refine NoPanic.normal ?_
                    go_wp2
                    go_roundw
                    case rel => exact ⟨_, _, _, _, _, _, _, _, _, _, _, _, _, _, _, _, _, _, _, _, _, _, ⟨k + 1, by omega, by go_num, HT3, HK2⟩, rfl⟩
                    case measure => exact hmk
                · have hd1 : decide ((k : Int) + 1 < (j : Int) + 1) = false := decide_eq_false (by omega)
                  have hd3 : ¬ k < j := by omega
                  have HK5 := Hd.mk (HK4.out.trans (HK.out.mono HK4.out.size))
                  have HLe := Hd.mk (HWo.out.least other (fun a ha => by rw [HZ.out.1] at ha; cases ha; exact HS.out) HZ.out.2 (fun i a b h1 h2 => HT.out i a b (by
                    have := (List.getElem?_eq_some_iff.1 h2).1
                    rw [HLo.out] at this
                    omega) h1 h2))
                  have hle : 0 < N ∧ N ≤ j + 1 := by have := HLe.out; rw [HN.out, HLo.out] at this; exact ⟨this.1, this.2.1⟩
                  have HLs := Hd.mk (rless_any wr (.slice (some ⟨g, o, none⟩) (j + 1) f) (.slice pl N cl) other L (by rw [HLo.out]; omega) (by rw [HN.out]; omega) (Rw.below HRo.out intE_stays HK5.out) (Rw.below HRl.out intE_stays (HK3.out.trans (HK.out.mono HK3.out.size))))
                  obtain ⟨hle1, hle2⟩ := hle
                  have p1 : decide ((0 : Int) < (N : Int)) = true := decide_eq_true (by omega)
                  have p2 : decide ((N : Int) ≤ (j : Int) + 1) = true := decide_eq_true (by omega)
                  have p3 : N ≤ j + 1 := hle2
                  by_cases hnj : N < j + 1
                  · have p4 : decide ((N : Int) < (j : Int) + 1) = true := decide_eq_true (by omega)
                    clear HLs
                    go_wp2
                    go_ret
                    exact ⟨rfl, HK5.out⟩
                  · have p4 : decide ((N : Int) < (j : Int) + 1) = false := decide_eq_false (by omega)
                    have hls := HLe.out.2.2.resolve_left (by rw [HN.out, HLo.out]; exact hnj)
                    rw [hls] at HLs
                    clear hls
                    go_wp2_with fail
                    refine HLs.out.mono ?_
                    rintro e w6 ⟨rfl, b6⟩
                    have HK6 := Hd.mk (HK5.out.trans (b6.mono HK5.out.size))
                    clear b6
                    go_wp2
                    go_ret
                    exact ⟨rfl, HK6.out⟩
            · have gt : (z != to) = true := by simpa using hzt
              clear hr0
              go_wp2_with fail
              refine HI1.out.mono ?_
              rintro e w5 ⟨rfl, rfl⟩
              go_wp2
              go_ret
              exact ⟨rfl, HK4.out⟩
      · rw [decide_eq_false hr0] at HI1
        clear hr0
        go_wp2_with fail
        refine HI1.out.mono ?_
        rintro e w5 ⟨rfl, rfl⟩
        go_wp2
        go_ret
        exact ⟨rfl, HK4.out⟩

end Go.Proofs.Ytlncfhkmjbempaa.W
