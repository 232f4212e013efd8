/-
  GraphReach.
-/
import Derived.Test.YtlncfhkmjbempaaGl
import Derived.Test.YtlncfhkmjbempaaArcA
namespace Go.Proofs.Ytlncfhkmjbempaa.W
open Go.RowKit
set_option linter.unusedVariables false

section
variable {n : Nat} {arcs : List Arc} {roots : List Int}
theorem reachL_asc : (reachL n arcs roots).Pairwise (· < ·) := (List.pairwise_lt_range (n := n)).filter _
theorem reachL_lt {x : Nat} (h : x ∈ reachL n arcs roots) : x < n := (mem_reachL.1 h).1
theorem reachL_root {r : Int} (h : r ∈ roots) (h0 : 0 ≤ r) (h1 : r < (n : Int)) : r ∈ intL (reachL n arcs roots) := by
  obtain ⟨u, rfl⟩ := nat_of h0
  exact mem_intN.2 (mem_reachL.2 ⟨by omega, u, by omega, h, .refl u⟩)
theorem reachL_arc {a : Arc} (ha : a ∈ arcs) (hr : rightB (n : Int) arcs = true) (h : a.f ∈ intL (reachL n arcs roots)) : a.t ∈ intL (reachL n arcs roots) := by
  obtain ⟨⟨f1, f2⟩, t1, t2⟩ := (right_is hr).2.2 a ha
  obtain ⟨f, hf⟩ := nat_of f1
  obtain ⟨t, ht⟩ := nat_of t1
  rw [hf] at h
  rw [ht]
  obtain ⟨h1, r, h2, h3, h4⟩ := mem_reachL.1 (mem_intN.1 h)
  exact mem_intN.2 (mem_reachL.2 ⟨by omega, r, h2, h3, h4.tail (mem_nx.2 ⟨by omega, a, ha, hf, ht⟩)⟩)
theorem reach_way {x : Nat} (hx : x < n) : (x : Int) ∈ intL (reachL n arcs roots) ↔ 0 < (intL (Tj.wayL (wavesOf n arcs roots) x)).length := by
  have hW := waves_ok n arcs roots
  rw [mem_intN, intL_len]
  unfold reachL
  rw [List.mem_filter, List.mem_range, List.contains_iff_mem]
  constructor
  · rintro ⟨_, h⟩
    obtain ⟨l, hl, rfl⟩ := Tj.mem_heads.1 h
    rw [hW.find hl]
    obtain ⟨r, e⟩ := (hW.way hl).ne
    rw [e]; simp
  · intro h
    refine ⟨hx, Decidable.byContradiction fun hn => ?_⟩
    rw [Tj.wayL_none hn] at h
    exact absurd h (by simp)
end

set_option maxHeartbeats 4000000 in
set_option maxRecDepth 100000 in
theorem reachlaw_any (w : World) (n : Int) (v : Value) (arcs : List Arc) (rv : Value) (roots : List Int) (hn : I64 n) (h1 : ArgArcs w v arcs) (h2 : ArgI w rv roots) :
    Calls Try.prog 6 #[.int .i64 n, v, rv] w fun e w' => e = .returned (.bool true) ∧ Below w.heap.size w w' := by
  obtain ⟨p, c, hv⟩ := h1.row.slice
  obtain ⟨M, hM⟩ : ∃ M, arcs.length = M := ⟨_, rfl⟩
  rw [hM] at hv
  subst hv
  obtain ⟨q, d, hrv⟩ := Rw.slice h2.row
  obtain ⟨K, hK⟩ : ∃ K, roots.length = K := ⟨_, rfl⟩
  rw [hK] at hrv
  subst hrv
  have HRr := Hd.mk h2.row
  have HLr := Hd.mk hK
  have HL := Hd.mk hM
  have HR := Hd.mk h1.row
  have HS := Hd.mk (small_any w)
  have HI := Hd.mk hn
  clear h1 h2 hK hM hn 
  go_enter Try.func6, Try.ntmps6
  go_wp2_with fail
  refine HS.out.mono ?_
  rintro e w1 ⟨rfl, b1⟩
  have HB := Hd.mk b1
  have HF := Hd.mk (few_any w1 n p q M K c d)
  clear b1 HS
  rcases hf : fewB n M K with _ | _
  · rw [hf] at HF
    clear hf
    go_wp2_with fail
    refine HF.out.mono ?_
    rintro e w2 ⟨rfl, rfl⟩
    go_wp2
    go_ret
    exact ⟨rfl, HB.out⟩
  · have hfb : n ≤ 14 ∧ M ≤ 60 ∧ K ≤ 20 := by
      simp only [fewB, Bool.and_eq_true, decide_eq_true_eq] at hf
      omega
    rw [hf] at HF
    have HC := Hd.mk (gright_any w1 n (.slice p M c) arcs (HR.out.below Arc.stays HB.out) (by unfold lenR; rw [HL.out]; omega))
    clear hf
    go_wp2_with fail
    refine HF.out.mono ?_
    rintro e w2 ⟨rfl, rfl⟩
    rcases hrb : rightB n arcs with _ | _
    · rw [hrb] at HC
      clear hrb
      go_wp2_with fail
      refine HC.out.mono ?_
      rintro e w2 ⟨rfl, b2⟩
      have HB2 := Hd.mk (HB.out.trans (b2.mono HB.out.size))
      clear b2 HC
      go_wp2
      go_ret
      exact ⟨rfl, HB2.out⟩
    · rw [hrb] at HC
      have HRb := Hd.mk hrb
      obtain ⟨m, rfl⟩ := nat_of (right_is hrb).1
      clear hrb
      have hmm : m ≤ 14 := by omega
      have hg0 : decide ((m : Int) < 0) = false := decide_eq_false (by omega)
      go_wp2_with fail
      refine HC.out.mono ?_
      rintro e w2 ⟨rfl, b2⟩
      have HB2 := Hd.mk (HB.out.trans (b2.mono HB.out.size))
      clear b2 HC HB HF
      obtain ⟨L, hLe⟩ : ∃ L, reachL m arcs roots = L := ⟨_, rfl⟩
      have HRe := Hd.mk (reach_any w2 m (by omega) (.slice p M c) (.slice q K d) arcs roots (HR.out.below Arc.stays HB2.out) (by rw [HL.out]; omega) HRb.out (Rw.below HRr.out intE_stays HB2.out) (by rw [HLr.out]; omega))
      rw [hLe] at HRe
      have HW := Hd.mk (fun (w' : World) (hb : Below w.heap.size w w') (k : Nat) (hk : k < m) => way_any w' m (by omega) (.slice p M c) (.slice q K d) arcs roots k hk (HR.out.below Arc.stays hb) (by rw [HL.out]; omega) HRb.out (Rw.below HRr.out intE_stays hb) (by rw [HLr.out]; omega))
      have HP1 : Hd (L.Pairwise (· < ·) ∧ ∀ x, x ∈ L → x < m) := ⟨by rw [← hLe]; exact ⟨reachL_asc, fun x h => reachL_lt h⟩⟩
      have HP2 : Hd (∀ r ∈ roots, 0 ≤ r → r < (m : Int) → r ∈ intL L) := ⟨by rw [← hLe]; exact fun r h => reachL_root h⟩
      have HP3 : Hd (∀ a ∈ arcs, a.f ∈ intL L → a.t ∈ intL L) := ⟨by rw [← hLe]; exact fun a h => reachL_arc h HRb.out⟩
      have HP4 : Hd (∀ x : Nat, x < m → ((x : Int) ∈ intL L ↔ 0 < (intL (Tj.wayL (wavesOf m arcs roots) x)).length)) := ⟨by rw [← hLe]; exact fun x h => reach_way h⟩
      have hLn : L.length ≤ m := by rw [← hLe]; exact reachN_len m _ m
      clear hLe
      obtain ⟨N, hN⟩ : ∃ N, L.length = N := ⟨_, rfl⟩
      rw [hN] at hLn
      have HN := Hd.mk hN
      clear hN
      go_upto_region 4 with (fail)
      go_cut [8] from 13 (fun s8 wx => ∃ pl cl, s8 = .slice pl N cl ∧ Hd (RI wx (.slice pl N cl) (intL L)) ∧ Hd (Below w.heap.size w wx))
      case first =>
        go_wp2_with fail
        refine HRe.out.mono ?_
        rintro e w3 ⟨v3, rfl, o3, b3⟩
        obtain ⟨pl, cl, hv3⟩ := Rw.slice (RI.ofN o3)
        rw [intL_len, HN.out] at hv3
        subst hv3
        have HB3 := Hd.mk (HB2.out.trans (b3.mono HB2.out.size))
        have HRl := Hd.mk (RI.ofN o3)
        clear o3 b3 HRe HB2
        go_wp2
        go_meet
        exact ⟨_, _, rfl, HRl, HB3⟩
      case rest =>
      obtain ⟨pl, cl, rfl, HRl, HB3⟩ := hcut
      rename World => w3
      have HIn := Hd.mk (fun (w' : World) (hb : Below w3.heap.size w3 w') (x : Int) => in_any w' (.slice pl N cl) (intL L) x (Rw.below HRl.out intE_stays hb) (by rw [intL_len, HN.out]; omega))
      clear HRe HB2
      -- the nodes ascend
      go_step
      go_step
      go_cut [] from 13 (fun wx => Hd (Below w3.heap.size w3 wx))
      case first =>
        go_wp2
        go_loopw [9] (fun iv wr => ∃ k : Nat, k ≤ N ∧ iv = .int .i64 (k : Int) ∧ Hd (Below w3.heap.size w3 wr)) (fun iv _ => N - (intOf iv).toNat)
        case atStart => exact ⟨0, Nat.zero_le _, rfl, ⟨Below.refl _ _⟩⟩
        case round =>
          obtain ⟨k, hk, rfl, HK⟩ := hrel
          by_cases hlt : k < N
          · have hd1 : decide ((k : Int) < (N : Int)) = true := by simp; omega
            have hmk : N - (intOf (.int .i64 ((k : Int) + 1))).toNat < N - (intOf (.int .i64 (k : Int))).toNat := by simp [intOf]; omega
            have hkl : k < L.length := by rw [HN.out]; exact hlt
            obtain ⟨g, o, e2, hE⟩ := RI.ever HRl.out (by rw [intL_len]; omega)
            subst e2
            have HE : Hd (∀ j (hj : j < L.length), wr.cell? ⟨g, o + j, none⟩ = some (.int .i64 ((L[j] : Nat) : Int))) := ⟨fun j hj => by
              rw [hE j (by rw [intL_len]; exact hj) wr HK.out, intL_get hj]⟩
            have ck := HE.out k hkl
            have hxn := HP1.out.2 _ (List.getElem_mem hkl)
            have hasc : 0 < k → ∀ hj : k - 1 < L.length, L[k - 1] < L[k] := fun h0 hj => List.pairwise_iff_getElem.1 HP1.out.1 (k - 1) k hj hkl (by omega)
            obtain ⟨x, hx⟩ : ∃ x, L[k] = x := ⟨_, rfl⟩
            rw [hx] at hxn hasc ck
            have g1 : decide ((x : Int) < 0) = false := decide_eq_false (by omega)
            have g2 : decide ((m : Int) ≤ (x : Int)) = false := decide_eq_false (by omega)
            have n2 : ¬ m ≤ x := by omega
            rcases Nat.eq_zero_or_pos k with h0 | h0
            · subst h0
              have ck' := ck
              rw [Nat.add_zero] at ck'
              clear hE HE hasc hx hkl
              have HK2 : Hd (Below w3.heap.size w3 wr.drew) := ⟨HK.out.trans ((Bel wr 1).mono HK.out.size)⟩
              go_upto_region 8 with (fail)
              refine wp_region_lin default (fun w' => w'.cell? ⟨g, o, none⟩ = some (.int .i64 (x : Int))) [(0, true), (1, true), (2, true), (3, true), (4, true), (5, true), (6, true), (7, true), (8, true), (9, true), (10, true), (11, true), (12, true), (13, true), (14, true), (15, true), (16, true), (17, true), (18, true), (19, true), (20, true), (21, true), (22, true), (23, true), (24, true), (25, true), (26, true), (27, true), (28, true)] (by kernel_rfl) (by kernel_rfl) rfl (by kernel_rfl) (by kernel_rfl) ck' ?_
              simp only [pick, List.getD_cons_zero, List.getD_cons_succ]
              repeat
                first
                | (refine lin_free (v := ?_) (by rfl) ?_ ?_
                   rotate_left
                   · intro w' hSw
                     obtain d0 := hSw
                     go_simp
                     first | done | with_reducible rfl
                   simp only [Act.put, List.setIfInBounds_toArray, List.set_cons_zero, List.set_cons_succ])
                | (refine lin_skip (by rfl) ?_
                   simp only [Act.put, List.setIfInBounds_toArray, List.set_cons_zero, List.set_cons_succ])
              refine NoPanic.normal ?_
              go_wp2
              go_roundw
              case rel => exact ⟨1, hlt, by go_num, HK2⟩
              case measure => exact hmk
            · obtain ⟨j, rfl⟩ : ∃ j, k = j + 1 := ⟨k - 1, by omega⟩
              have hj : j < L.length := by omega
              have cj := HE.out j hj
              have hl0 := hasc h0 hj
              obtain ⟨y, hy⟩ : ∃ y, L[j] = y := ⟨_, rfl⟩
              have hlx : y < x := by rw [← hy]; exact hl0
              rw [hy] at cj
              have g3 : decide ((x : Int) ≤ (y : Int)) = false := decide_eq_false (by omega)
              have n3 : ¬ x ≤ y := by omega
              have b1 : ((j + 1 : Nat) : Int) < (N : Int) := by omega
              have b2 : (j : Int) + 1 < (N : Int) := by omega
              have b3 : (j : Int) < (N : Int) := by omega
              have b0 : (0 : Int) ≤ (j : Int) + 1 := by omega
              have hwj : IntKind.i64.wrap (j : Int) = (j : Int) := IntWalk.i64_in _ (by omega)
              clear hl0
              clear hE HE hasc hx hkl hy hj
              have HK2 : Hd (Below w3.heap.size w3 wr.drew) := ⟨HK.out.trans ((Bel wr 1).mono HK.out.size)⟩
              go_upto_region 8 with (fail)
              refine wp_region_lin default (fun w' => w'.cell? ⟨g, o + (j + 1), none⟩ = some (.int .i64 (x : Int)) ∧ w'.cell? ⟨g, o + j, none⟩ = some (.int .i64 (y : Int))) [(0, true), (1, true), (2, true), (3, true), (4, true), (5, true), (6, true), (7, true), (8, true), (9, true), (10, true), (11, true), (12, true), (13, true), (14, true), (15, true), (16, true), (17, true), (18, true), (19, true), (20, true), (21, true), (22, true), (23, true), (24, true), (25, true), (26, true), (27, true), (28, true)] (by kernel_rfl) (by kernel_rfl) rfl (by kernel_rfl) (by kernel_rfl) ⟨ck, cj⟩ ?_
              simp only [pick, List.getD_cons_zero, List.getD_cons_succ]
              repeat
                first
                | (refine lin_free (v := ?_) (by rfl) ?_ ?_
                   rotate_left
                   · intro w' hSw
                     obtain ⟨d0, d1⟩ := hSw
                     go_simp
                     first | done | with_reducible rfl
                   simp only [Act.put, List.setIfInBounds_toArray, List.set_cons_zero, List.set_cons_succ])
                | (refine lin_skip (by rfl) ?_
                   simp only [Act.put, List.setIfInBounds_toArray, List.set_cons_zero, List.set_cons_succ])
              refine NoPanic.normal ?_
              go_wp2
              go_roundw
              case rel => exact ⟨j + 2, hlt, by go_num, HK2⟩
              case measure => exact hmk
          · have hd1 : decide ((k : Int) < (N : Int)) = false := by simp; omega
            go_wp2
            go_meet
            exact HK
      case rest =>
        -- the roots
        go_step
        go_step
        go_cut [] from 13 (fun wx => Hd (Below w3.heap.size w3 wx))
        case first =>
          go_wp2
          go_loopw [10] (fun iv wr => ∃ k : Nat, k ≤ K ∧ iv = .int .i64 (k : Int) ∧ Hd (Below w3.heap.size w3 wr)) (fun iv _ => K - (intOf iv).toNat)
          case atStart => exact ⟨0, Nat.zero_le _, rfl, hcut⟩
          case round =>
            clear hcut
            obtain ⟨k, hk, rfl, HK⟩ := hrel
            by_cases hlt : k < K
            · have hd1 : decide ((k : Int) < (K : Int)) = true := by simp; omega
              have hmk : K - (intOf (.int .i64 ((k : Int) + 1))).toNat < K - (intOf (.int .i64 (k : Int))).toNat := by simp [intOf]; omega
              have hkl : k < roots.length := by rw [HLr.out]; exact hlt
              obtain ⟨g, o, e2, hE⟩ := RI.ever HRr.out (by omega)
              subst e2
              have ck := hE k hkl wr (HB3.out.trans (HK.out.mono HB3.out.size))
              have hmem := List.getElem_mem hkl
              obtain ⟨x, hx⟩ : ∃ x, roots[k] = x := ⟨_, rfl⟩
              rw [hx] at ck hmem
              clear hE hx hkl
              by_cases h1 : 0 ≤ x
              · have g1 : decide (0 ≤ x) = true := by simpa using h1
                by_cases h2 : x < (m : Int)
                · have g2 : decide (x < (m : Int)) = true := by simpa using h2
                  have HI1 := Hd.mk (HIn.out wr HK.out x)
                  rw [decide_eq_true (HP2.out x hmem h1 h2)] at HI1
                  clear hmem
                  go_wp2_with fail
                  refine HI1.out.mono ?_
                  rintro e w4 ⟨rfl, rfl⟩
                  go_wp2
                  go_roundw
                  case rel => exact ⟨k + 1, hlt, by go_num, HK⟩
                  case measure => exact hmk
                · have g2 : decide (x < (m : Int)) = false := by simpa using h2
                  clear hmem
                  go_wp2
                  exact ⟨⟨k + 1, hlt, by go_num, HK⟩, hmk⟩
              · have g1 : decide (0 ≤ x) = false := by simpa using h1
                clear hmem
                go_wp2
                exact ⟨⟨k + 1, hlt, by go_num, HK⟩, hmk⟩
            · have hd1 : decide ((k : Int) < (K : Int)) = false := by simp; omega
              go_wp2
              go_meet
              exact HK
        case rest =>
          -- the arcs
          go_step
          go_step
          go_cut [] from 13 (fun wx => Hd (Below w3.heap.size w3 wx))
          case first =>
            go_wp2
            go_loopw [11] (fun iv wr => ∃ k : Nat, k ≤ M ∧ iv = .int .i64 (k : Int) ∧ Hd (Below w3.heap.size w3 wr)) (fun iv _ => M - (intOf iv).toNat)
            case atStart => exact ⟨0, Nat.zero_le _, rfl, hcut⟩
            case round =>
              clear hcut
              obtain ⟨k, hk, rfl, HK⟩ := hrel
              by_cases hlt : k < M
              · have hd1 : decide ((k : Int) < (M : Int)) = true := by simp; omega
                have hmk : M - (intOf (.int .i64 ((k : Int) + 1))).toNat < M - (intOf (.int .i64 (k : Int))).toNat := by simp [intOf]; omega
                have hkq : k < arcs.length := by rw [HL.out]; exact hlt
                obtain ⟨g, of, cs, hpe, hg, hcl, hE, hcc⟩ := (HR.out.below Arc.stays (HB3.out.trans (HK.out.mono HB3.out.size))).at rfl (j := k) hkq
                subst hpe
                rw [show cs = arcs[k].cells from hE] at hcc
                have hp3 := HP3.out _ (List.getElem_mem hkq)
                obtain ⟨x, hx⟩ : ∃ x, arcs[k].f = x := ⟨_, rfl⟩
                obtain ⟨y, hy⟩ : ∃ y, arcs[k].t = y := ⟨_, rfl⟩
                rw [hx, hy] at hp3
                have d0 : wr.cell? ⟨g, of + k * 2, none⟩ = some (.int .i64 x) := by rw [← hx]; exact hcc 0 _ rfl
                have d1 : wr.cell? ⟨g, of + k * 2 + 1, none⟩ = some (.int .i64 y) := by rw [← hy]; exact hcc 1 _ rfl
                have HI1 := Hd.mk (HIn.out wr HK.out x)
                have HI2 := Hd.mk (HIn.out wr HK.out y)
                clear hcc hcl hE hg hx hy hkq cs
                by_cases hin : x ∈ intL L
                · rw [decide_eq_true hin] at HI1
                  rw [decide_eq_true (hp3 hin)] at HI2
                  clear hin hp3
                  go_wp2_with fail
                  refine HI1.out.mono ?_
                  rintro e w4 ⟨rfl, rfl⟩
                  go_wp2_with fail
                  refine HI2.out.mono ?_
                  rintro e w4 ⟨rfl, rfl⟩
                  go_wp2
                  go_roundw
                  case rel => exact ⟨k + 1, hlt, by go_num, HK⟩
                  case measure => exact hmk
                · rw [decide_eq_false hin] at HI1
                  clear hin hp3
                  go_wp2_with fail
                  refine HI1.out.mono ?_
                  rintro e w4 ⟨rfl, rfl⟩
                  go_wp2
                  go_roundw
                  case rel => exact ⟨k + 1, hlt, by go_num, HK⟩
                  case measure => exact hmk
              · have hd1 : decide ((k : Int) < (M : Int)) = false := by simp; omega
                go_wp2
                go_meet
                exact HK
          case rest =>
            -- the ways
            go_wp2
            go_loopw [12] (fun iv wr => ∃ k : Nat, k ≤ m ∧ iv = .int .i64 (k : Int) ∧ Hd (Below w3.heap.size w3 wr)) (fun iv _ => m - (intOf iv).toNat)
            case atStart => exact ⟨0, Nat.zero_le _, rfl, hcut⟩
            case round =>
              clear hcut
              obtain ⟨k, hk, rfl, HK⟩ := hrel
              by_cases hlt : k < m
              · have hd1 : decide ((k : Int) < (m : Int)) = true := by simp; omega
                have hmk : m - (intOf (.int .i64 ((k : Int) + 1))).toNat < m - (intOf (.int .i64 (k : Int))).toNat := by simp [intOf]; omega
                have HI1 := Hd.mk (HIn.out wr HK.out (k : Int))
                have HW1 := Hd.mk (HW.out wr (HB3.out.trans (HK.out.mono HB3.out.size)) k hlt)
                have hp4 := HP4.out k hlt
                obtain ⟨W, hW⟩ : ∃ W, Tj.wayL (wavesOf m arcs roots) k = W := ⟨_, rfl⟩
                rw [hW] at HW1 hp4
                clear hW
                obtain ⟨T, hT⟩ : ∃ T, (intL W).length = T := ⟨_, rfl⟩
                rw [hT] at hp4
                have HTt := Hd.mk hT
                clear hT
                by_cases hin : (k : Int) ∈ intL L
                · have hT0 := hp4.1 hin
                  have gT : decide ((0 : Int) < (T : Int)) = true := by simp; omega
                  rw [decide_eq_true hin] at HI1
                  clear hin hp4
                  go_wp2_with fail
                  refine HI1.out.mono ?_
                  rintro e w4 ⟨rfl, rfl⟩
                  go_wp2_with fail
                  refine HW1.out.mono ?_
                  rintro e w4 ⟨v4, rfl, o4, b4⟩
                  obtain ⟨pw, cw, hv4⟩ := Rw.slice (RI.ofN o4)
                  rw [HTt.out] at hv4
                  subst hv4
                  have HK2 := Hd.mk (HK.out.trans (b4.mono HK.out.size))
                  clear o4 b4 HW1
                  go_wp2
                  go_roundw
                  case rel => exact ⟨k + 1, hlt, by go_num, HK2⟩
                  case measure => exact hmk
                · have hT0 : ¬ 0 < T := fun h => hin (hp4.2 h)
                  have gT : decide ((0 : Int) < (T : Int)) = false := by simp; omega
                  rw [decide_eq_false hin] at HI1
                  clear hin hp4
                  go_wp2_with fail
                  refine HI1.out.mono ?_
                  rintro e w4 ⟨rfl, rfl⟩
                  go_wp2_with fail
                  refine HW1.out.mono ?_
                  rintro e w4 ⟨v4, rfl, o4, b4⟩
                  obtain ⟨pw, cw, hv4⟩ := Rw.slice (RI.ofN o4)
                  rw [HTt.out] at hv4
                  subst hv4
                  have HK2 := Hd.mk (HK.out.trans (b4.mono HK.out.size))
                  clear o4 b4 HW1
                  go_wp2
                  go_roundw
                  case rel => exact ⟨k + 1, hlt, by go_num, HK2⟩
                  case measure => exact hmk
              · have hd1 : decide ((k : Int) < (m : Int)) = false := by simp; omega
                have HK2 := Hd.mk (HB3.out.trans (HK.out.mono HB3.out.size))
                go_wp2
                go_ret
                exact ⟨rfl, HK2.out⟩

end Go.Proofs.Ytlncfhkmjbempaa.W
