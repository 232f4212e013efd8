/-
  GraphLoops.
-/
import Derived.Test.YtlncfhkmjbempaaWyP
import Derived.Test.YtlncfhkmjbempaaArcA
namespace Go.Proofs.Ytlncfhkmjbempaa.W
open Go.RowKit
set_option linter.unusedVariables false

set_option maxHeartbeats 4000000 in
set_option maxRecDepth 100000 in
theorem loopslaw_any (w : World) (n : Int) (v : Value) (arcs : List Arc) (hn : I64 n) (h1 : ArgArcs w v arcs) :
    Calls Try.prog 8 #[.int .i64 n, v] w fun e w' => e = .returned (.bool true) ∧ Below w.heap.size w w' := by
  obtain ⟨p, c, hv⟩ := h1.row.slice
  obtain ⟨M, hM⟩ : ∃ M, arcs.length = M := ⟨_, rfl⟩
  rw [hM] at hv
  subst hv
  have HL := Hd.mk hM
  have HR := Hd.mk h1.row
  have HS := Hd.mk (small_any w)
  have HI := Hd.mk hn
  clear h1  hM hn 
  go_enter Try.func8, Try.ntmps8
  go_wp2_with fail
  refine HS.out.mono ?_
  rintro e w1 ⟨rfl, b1⟩
  have HB := Hd.mk b1
  have HF := Hd.mk (few_any w1 n p none M 0 c 0)
  clear b1 HS
  rcases hf : fewB n M 0 with _ | _
  · rw [hf] at HF
    clear hf
    go_wp2_with fail
    refine HF.out.mono ?_
    rintro e w2 ⟨rfl, rfl⟩
    go_wp2
    go_ret
    exact ⟨rfl, HB.out⟩
  · have hfb : n ≤ 14 ∧ M ≤ 60 := by
      simp only [fewB, Bool.and_eq_true, decide_eq_true_eq] at hf
      omega
    rw [hf] at HF
    have HC := Hd.mk (gright_any w1 n (.slice p M c) arcs (HR.out.below Arc.stays HB.out) (by unfold lenR; rw [HL.out]; omega))
    clear hf
    go_wp2_with fail
    refine HF.out.mono ?_
    rintro e w2 ⟨rfl, rfl⟩
    rcases hrb : rightB n arcs with _ | _
    · rw [hrb] at HC
      clear hrb
      go_wp2_with fail
      refine HC.out.mono ?_
      rintro e w2 ⟨rfl, b2⟩
      have HB2 := Hd.mk (HB.out.trans (b2.mono HB.out.size))
      clear b2 HC
      go_wp2
      go_ret
      exact ⟨rfl, HB2.out⟩
    · rw [hrb] at HC
      have HRb := Hd.mk hrb
      obtain ⟨m, rfl⟩ := nat_of (right_is hrb).1
      clear hrb
      have hmm : m ≤ 14 := by omega
      have hg0 : decide ((m : Int) < 0) = false := decide_eq_false (by omega)
      go_wp2_with fail
      refine HC.out.mono ?_
      rintro e w2 ⟨rfl, b2⟩
      have HB2 := Hd.mk (HB.out.trans (b2.mono HB.out.size))
      clear b2 HC HB HF
      have HPa := Hd.mk (parts_any w2 m (by omega) (.slice p M c) arcs (HR.out.below Arc.stays HB2.out) (by rw [HL.out]; omega) HRb.out)
      have HLp := Hd.mk (fun (w' : World) (hb : Below w.heap.size w w') => loop_any w' m (by omega) (.slice p M c) arcs (HR.out.below Arc.stays hb) (by rw [HL.out]; omega) HRb.out)
      have HAr : Hd (∀ w', Below w.heap.size w w' → ∀ a b : Int, Calls Try.prog 26 #[.slice p M c, .int .i64 a, .int .i64 b] w' fun e w'' => e = .returned (.bool (arcI arcs a b)) ∧ w' = w'') := ⟨fun w' hb a b => arc_any w' (.slice p M c) arcs a b (HR.out.below Arc.stays hb) (by rw [HL.out]; omega)⟩
      have HOk := Hd.mk (loop_ok (n := m) HRb.out)
      have HPg := Hd.mk (And.intro (pgd (n := m) (arcs := arcs)) (partsG_len (n := m) (arcs := arcs)))
      obtain ⟨P, hP⟩ : ∃ P, partsG m arcs = P := ⟨_, rfl⟩
      have HDn : Hd (∀ x, Lst m arcs P P.length 0 x → x = leastL m arcs) := ⟨fun x h => by rw [← hP] at h; exact Lst.done HRb.out h⟩
      have HPa2 : Hd (Calls Try.prog 15 #[.int .i64 (m : Int), .slice p M c] w2 fun e w' => ∃ v' vs, e = .returned v' ∧ RowsO w' w2.heap.size v' vs (P.map intL) ∧ Below w2.heap.size w2 w') := ⟨by rw [← hP]; exact HPa.out⟩
      rw [hP] at HPg
      obtain ⟨lst, hlst⟩ : ∃ z, leastL m arcs = z := ⟨_, rfl⟩
      rw [hlst] at HOk HDn
      obtain ⟨L, hL⟩ : ∃ L, loopL m arcs = L := ⟨_, rfl⟩
      rw [hL] at HOk HLp
      obtain ⟨PL, hPL⟩ : ∃ PL, P.length = PL := ⟨_, rfl⟩
      have hPLm : PL ≤ m := by rw [← hPL]; exact HPg.out.2
      have HPL := Hd.mk hPL
      obtain ⟨N, hN⟩ : ∃ N, (intL L).length = N := ⟨_, rfl⟩
      have hNm : N ≤ m := by rw [← hN]; exact HOk.out.len
      have HN := Hd.mk hN
      clear hP hlst hL hPL hN HPa
      go_upto_region 4 with (fail)
      go_cut [6] from 13 (fun s6 wx => ∃ pp cp, s6 = .slice pp PL cp ∧ Hd (Rw 1 rowE wx (.slice pp PL cp) (P.map intL)) ∧ Hd (Below w.heap.size w wx))
      case first =>
        go_wp2_with fail
        refine HPa2.out.mono ?_
        rintro e w3 ⟨v3, vs3, rfl, o3, b3⟩
        have hr3 := RR.of o3
        obtain ⟨pp, cp, hv3⟩ := hr3.slice
        rw [List.length_map, HPL.out] at hv3
        subst hv3
        have HB3 := Hd.mk (HB2.out.trans (b3.mono HB2.out.size))
        have HR3 := Hd.mk hr3
        clear o3 b3 hr3 HPa2 HB2
        go_wp2
        go_meet
        exact ⟨_, _, rfl, HR3, HB3⟩
      case rest =>
      obtain ⟨pp, cp, rfl, HRp, HB3⟩ := hcut
      rename World => w3
      clear HPa2 HB2
      go_step
      go_step
      go_cut [7] from 13 (fun s7 wx => s7 = .int .i64 (m : Int) ∧ w3 = wx)
      case first =>
        go_wp2
        go_meet
        exact ⟨rfl, rfl⟩
      case rest =>
      obtain ⟨rfl, rfl⟩ := hcut
      go_step
      go_step
      go_cut [7] from 13 (fun s7 wx => s7 = .int .i64 lst ∧ Hd (Below w3.heap.size w3 wx))
      case first =>
        go_wp2
        go_loopw [8, 7] (fun iv lv wr => ∃ (i : Nat) (mm : Int), i ≤ PL ∧ iv = .int .i64 (i : Int) ∧ lv = .int .i64 mm ∧ Hd (Lst m arcs P i 0 mm) ∧ Hd (Below w3.heap.size w3 wr)) (fun iv _ _ => PL - (intOf iv).toNat)
        case atStart => exact ⟨0, (m : Int), Nat.zero_le _, rfl, rfl, ⟨Lst.start⟩, ⟨Below.refl _ _⟩⟩
        case round =>
          obtain ⟨i, mm, hi, rfl, rfl, HT, HK⟩ := hrel
          by_cases hlt : i < PL
          · have hd1 : decide ((i : Int) < (PL : Int)) = true := decide_eq_true (by omega)
            have hmi : PL - (intOf (.int .i64 ((i : Int) + 1))).toNat < PL - (intOf (.int .i64 (i : Int))).toNat := by simp [intOf]; omega
            have hiP : i < P.length := by rw [HPL.out]; exact hlt
            have HiP := Hd.mk hiP
            obtain ⟨S, hS⟩ : ∃ S, (P[i]'HiP.out).length = S := ⟨_, rfl⟩
            have hSm : S ≤ m := by rw [← hS]; exact HPg.out.1.len _ (List.getElem_mem HiP.out)
            obtain ⟨gv, ov, cs, e1, hgv, _, ⟨a, rfl, hRa⟩, hca⟩ := HRp.out.at rfl (j := i) (by rw [List.length_map]; exact hiP)
            subst e1
            obtain ⟨pa, ca, ha⟩ := Rw.slice hRa
            rw [List.getElem_map, intL_len, hS] at ha
            subst ha
            rw [List.getElem_map] at hRa
            have c1 := hca 0 _ rfl
            rw [Nat.mul_one, Nat.add_zero] at c1
            have HA := Hd.mk hRa
            have HS := Hd.mk hS
            have HC : Hd (∀ w', Below w3.heap.size w3 w' → w'.cell? ⟨gv, ov + i, none⟩ = some (.slice pa S ca)) := ⟨fun w' hb => by
              rw [hb.cell (p := ⟨gv, ov + i, none⟩) hgv]
              exact c1⟩
            clear hca hRa c1 hgv hS
            have c1 := HC.out wr HK.out
            go_wp2
            clear c1
            go_loopw [9, 7] (fun kv lv wq => ∃ (k : Nat) (mm : Int), k ≤ S ∧ kv = .int .i64 (k : Int) ∧ lv = .int .i64 mm ∧ Hd (Lst m arcs P i k mm) ∧ Hd (Below w3.heap.size w3 wq)) (fun kv _ _ => S - (intOf kv).toNat)
            case atStart => exact ⟨0, mm, Nat.zero_le _, rfl, rfl, HT, HK⟩
            case round =>
              clear HT HK
              obtain ⟨k, mm, hk, rfl, rfl, HT, HK⟩ := hrel
              have c1 := HC.out wr HK.out
              by_cases hlk : k < S
              · have hd2 : decide ((k : Int) < (S : Int)) = true := decide_eq_true (by omega)
                have hmk : S - (intOf (.int .i64 ((k : Int) + 1))).toNat < S - (intOf (.int .i64 (k : Int))).toNat := by simp [intOf]; omega
                have hkP : k < (P[i]'HiP.out).length := by rw [HS.out]; exact hlk
                obtain ⟨gu, ou, e2, hE⟩ := RI.ever HA.out (by rw [intL_len]; omega)
                subst e2
                have ck : wr.cell? ⟨gu, ou + k, none⟩ = some (.int .i64 (((P[i]'HiP.out)[k] : Nat) : Int)) := by
                  rw [hE k (by rw [intL_len]; exact hkP) wr HK.out, intL_get hkP]
                have hst := fun (m' : Int) => HT.out.step HiP.out hkP (m' := m')
                obtain ⟨x, hx⟩ : ∃ x, (P[i]'HiP.out)[k] = x := ⟨_, rfl⟩
                rw [hx] at ck hst
                have HSt := Hd.mk hst
                have HA1 := Hd.mk (HAr.out wr (HB3.out.trans (HK.out.mono HB3.out.size)) (x : Int) (x : Int))
                clear hE hst hx hkP HT
                by_cases hS1 : 1 < S
                · have t1 : decide ((1 : Int) < (S : Int)) = true := decide_eq_true (by omega)
                  have HCd : Hd (Cond arcs (P[i]'HiP.out) x) := ⟨.inl (by rw [HS.out]; exact hS1)⟩
                  by_cases hxm : (x : Int) < mm
                  · have t2 : decide ((x : Int) < mm) = true := decide_eq_true hxm
                    have HT2 := Hd.mk (HSt.out (x : Int) (fun z => ⟨fun h => ⟨by omega, fun _ => h⟩, fun h => h.2 HCd.out⟩))
                    clear HSt HA1
                    go_wp2
                    exact ⟨⟨k + 1, _, hlk, by go_num, rfl, HT2, HK⟩, hmk⟩
                  · have t2 : decide ((x : Int) < mm) = false := decide_eq_false hxm
                    have HT2 := Hd.mk (HSt.out mm (fun z => ⟨fun h => ⟨h, fun _ => by omega⟩, fun h => h.1⟩))
                    clear HSt HA1
                    go_wp2
                    exact ⟨⟨k + 1, _, hlk, by go_num, rfl, HT2, HK⟩, hmk⟩
                · have t1 : decide ((1 : Int) < (S : Int)) = false := decide_eq_false (by omega)
                  rcases har : arcI arcs (x : Int) (x : Int) with _ | _
                  · have HCd : Hd (¬ Cond arcs (P[i]'HiP.out) x) := ⟨fun h => by
                      rcases h with h | h
                      · rw [HS.out] at h; exact hS1 h
                      · rw [har] at h; cases h⟩
                    have HT2 := Hd.mk (HSt.out mm (fun z => ⟨fun h => ⟨h, fun hc => absurd hc HCd.out⟩, fun h => h.1⟩))
                    rw [har] at HA1
                    clear har HSt
                    go_wp2_with fail
                    refine HA1.out.mono ?_
                    rintro e w5 ⟨rfl, rfl⟩
                    go_wp2
                    exact ⟨⟨k + 1, _, hlk, by go_num, rfl, HT2, HK⟩, hmk⟩
                  · have HCd : Hd (Cond arcs (P[i]'HiP.out) x) := ⟨.inr har⟩
                    rw [har] at HA1
                    clear har
                    by_cases hxm : (x : Int) < mm
                    · have t2 : decide ((x : Int) < mm) = true := decide_eq_true hxm
                      have HT2 := Hd.mk (HSt.out (x : Int) (fun z => ⟨fun h => ⟨by omega, fun _ => h⟩, fun h => h.2 HCd.out⟩))
                      clear HSt
                      go_wp2_with fail
                      refine HA1.out.mono ?_
                      rintro e w5 ⟨rfl, rfl⟩
                      go_wp2
                      exact ⟨⟨k + 1, _, hlk, by go_num, rfl, HT2, HK⟩, hmk⟩
                    · have t2 : decide ((x : Int) < mm) = false := decide_eq_false hxm
                      have HT2 := Hd.mk (HSt.out mm (fun z => ⟨fun h => ⟨h, fun _ => by omega⟩, fun h => h.1⟩))
                      clear HSt
                      go_wp2_with fail
                      refine HA1.out.mono ?_
                      rintro e w5 ⟨rfl, rfl⟩
                      go_wp2
                      exact ⟨⟨k + 1, _, hlk, by go_num, rfl, HT2, HK⟩, hmk⟩
              · have hd2 : decide ((k : Int) < (S : Int)) = false := decide_eq_false (by omega)
                have HTn : Hd (Lst m arcs P (i + 1) 0 mm) := ⟨HT.out.next (fun hi' => by rw [HS.out]; omega)⟩
                clear HT
                go_wp2
                exact ⟨⟨i + 1, mm, hlt, by go_num, rfl, HTn, HK⟩, hmi⟩
          · have hd1 : decide ((i : Int) < (PL : Int)) = false := decide_eq_false (by omega)
            have HE : Hd (mm = lst) := ⟨HDn.out mm (by
              have e : P.length = i := by rw [HPL.out]; omega
              rw [e]; exact HT.out)⟩
            clear HT
            go_wp2
            go_meet
            exact ⟨by rw [HE.out], HK⟩
      case rest =>
      obtain ⟨rfl, HK⟩ := hcut
      have HB4 : Hd (Below w.heap.size w _) := ⟨HB3.out.trans (HK.out.mono HB3.out.size)⟩
      have HLp1 := Hd.mk (HLp.out _ HB4.out)
      clear HRp HDn HPg HPL HLp HK HB3
      go_step
      go_step
      go_cut [11] from 13 (fun s11 wx => ∃ pl cl, s11 = .slice pl N cl ∧ N ≤ cl ∧ cl ≤ maxLen ∧ Hd (RI wx (.slice pl N cl) (intL L)) ∧ Hd (Below w.heap.size w wx))
      case first =>
        go_wp2_with fail
        refine HLp1.out.mono ?_
        rintro e w5 ⟨v5, rfl, o5, b5⟩
        have hcap : ∃ pl cl, v5 = .slice pl N cl ∧ N ≤ cl ∧ cl ≤ maxLen := by
          have hl : (intC L).length = N := by rw [← HN.out]; simp [intC, intL]
          rcases o5.is with ⟨rfl, h⟩ | ⟨g, cap, rfl, _, h3, h4, _⟩
          · rw [h] at hl
            exact ⟨none, 0, by rw [← hl]; rfl, by rw [← hl]; simp, by simp [maxLen]⟩
          · exact ⟨_, cap, by rw [hl], by rw [← hl]; exact h3, h4⟩
        obtain ⟨pl, cl, rfl, hc1, hc2⟩ := hcap
        have HB5 := Hd.mk (HB4.out.trans (b5.mono HB4.out.size))
        have HRl := Hd.mk (RI.ofN o5)
        clear o5 b5 HLp1 HB4
        go_wp2
        go_meet
        exact ⟨_, _, rfl, hc1, hc2, HRl, HB5⟩
      case rest =>
      obtain ⟨pl, cl, rfl, hc1, hc2, HRl, HB5⟩ := hcut
      rename World => w5
      clear HLp1 HB4
      rcases Nat.eq_zero_or_pos N with h0 | h0
      · have hm : lst = (m : Int) := HOk.out.nil (List.eq_nil_of_length_eq_zero (by rw [HN.out, h0]))
        subst h0
        subst hm
        have gm : ((m : Int) == (m : Int)) = true := by simp
        go_wp2
        go_ret
        exact ⟨rfl, HB5.out⟩
      · have hN0 : ((N : Int) == 0) = false := by simp; omega
        have hN1 : ¬ N = 0 := by omega
        go_wp2
        go_loopw [12] (fun iv wr => ∃ k : Nat, k ≤ N ∧ iv = .int .i64 (k : Int) ∧ Hd (Below w5.heap.size w5 wr)) (fun iv _ => N - (intOf iv).toNat)
        case atStart => exact ⟨0, Nat.zero_le _, rfl, ⟨Below.refl _ _⟩⟩
        case round =>
          obtain ⟨k, hk, rfl, HK⟩ := hrel
          obtain ⟨g, o, e2, hE⟩ := RI.ever HRl.out (by rw [HN.out]; exact h0)
          subst e2
          by_cases hlt : k < N
          · have hd1 : decide ((k : Int) < (N : Int)) = true := decide_eq_true (by omega)
            have hmk : N - (intOf (.int .i64 ((k : Int) + 1))).toNat < N - (intOf (.int .i64 (k : Int))).toNat := by simp [intOf]; omega
            obtain ⟨q, hq⟩ : ∃ q, (k + 1) % N = q := ⟨_, rfl⟩
            have hqN : q < N := by rw [← hq]; exact Nat.mod_lt _ h0
            have hkl : k < (intL L).length := by rw [HN.out]; exact hlt
            have hql : q < (intL L).length := by rw [HN.out]; exact hqN
            have ha := HOk.out.arc k _ _ (List.getElem?_eq_getElem hkl) (by rw [HN.out, hq]; exact List.getElem?_eq_getElem hql)
            have hnm : (intL L)[k] ∉ (intL L).take k := fun h => by
              obtain ⟨j, hj, e⟩ := List.mem_take_iff_getElem.1 h
              exact List.pairwise_iff_getElem.1 HOk.out.nod j k (by omega) hkl (by omega) e
            have S1 : Hd (∀ w', Below w5.heap.size w5 w' → w'.cell? ⟨g, o + k, none⟩ = some (.int .i64 (intL L)[k]) ∧ w'.cell? ⟨g, o + q, none⟩ = some (.int .i64 (intL L)[q])) := ⟨fun w' hb => ⟨hE k hkl w' hb, hE q hql w' hb⟩⟩
            have HKd : Hd (Below w5.heap.size w5 wr.drew) := ⟨HK.out.trans ((Bel wr 1).mono HK.out.size)⟩
            have HBd : Hd (Below w.heap.size w wr.drew) := ⟨HB5.out.trans (HKd.out.mono HB5.out.size)⟩
            obtain ⟨x, hx⟩ : ∃ x, (intL L)[k] = x := ⟨_, rfl⟩
            obtain ⟨y, hy⟩ : ∃ y, (intL L)[q] = y := ⟨_, rfl⟩
            rw [hx, hy] at S1 ha
            rw [hx] at hnm
            have HA1 := Hd.mk (HAr.out wr.drew HBd.out x y)
            rw [ha] at HA1
            have HI1 := Hd.mk (in_any wr.drew (.slice (some ⟨g, o, none⟩) k cl) ((intL L).take k) x (Rw.below (Rw.take HRl.out rfl (by omega)) intE_stays HKd.out) (by rw [List.length_take]; omega))
            rw [decide_eq_false hnm] at HI1
            have hmod : ((k : Int) + 1).tmod (N : Int) = (q : Int) := by
              rw [← hq, Int.ofNat_tmod]; rfl
            have hwk : IntKind.i64.wrap ((k : Int) + 1) = (k : Int) + 1 := IntWalk.i64_in _ (by omega)
            have hwq : IntKind.i64.wrap (q : Int) = (q : Int) := IntWalk.i64_in _ (by omega)
            have b1 : (k : Int) < (N : Int) := by omega
            have b2 : (q : Int) < (N : Int) := by omega
            have b3 : k ≤ cl := by omega
            have b4 : (k : Int) ≤ (cl : Int) := by omega
            have hNi : ¬ (N : Int) = 0 := by omega
            clear hE hx hy ha hnm hkl hql hq HK
            go_upto_region 21 with (fail)
            refine wp_region_lin default (fun w' => w'.cell? ⟨g, o + k, none⟩ = some (.int .i64 x) ∧ w'.cell? ⟨g, o + q, none⟩ = some (.int .i64 y)) [(0, true), (1, true), (2, true), (3, true), (4, true), (5, true), (6, true), (7, true), (8, true), (9, true), (10, true), (11, true), (12, true), (13, false), (14, true), (15, true), (16, true), (17, true), (18, true), (19, true), (20, true), (21, true), (22, true), (23, false), (24, true)] (by kernel_rfl) (by kernel_rfl) rfl (by kernel_rfl) (by kernel_rfl) (S1.out _ HKd.out) ?_
            simp only [pick, List.getD_cons_zero, List.getD_cons_succ]
            repeat
              refine lin_free (v := ?_) (by rfl) ?_ ?_
              rotate_left
              · intro w' hSw
                obtain ⟨d0, d1⟩ := hSw
                go_simp
                first | done | with_reducible rfl
              simp only [Act.put, List.setIfInBounds_toArray, List.set_cons_zero, List.set_cons_succ]
            refine lin_bound (fun K hK => ?_)
            go_simp
            refine HA1.out.mono ?_
            rintro e w6 ⟨rfl, rfl⟩
            dsimp only
            refine hK.out _ _ (S1.out _ HKd.out) ?_
            clear hK K
            try simp only [Act.put, List.setIfInBounds_toArray, List.set_cons_zero, List.set_cons_succ]
            repeat
              refine lin_free (v := ?_) (by rfl) ?_ ?_
              rotate_left
              · intro w' hSw
                obtain ⟨d0, d1⟩ := hSw
                go_simp
                first | done | with_reducible rfl
              simp only [Act.put, List.setIfInBounds_toArray, List.set_cons_zero, List.set_cons_succ]
            refine lin_bound (fun K hK => ?_)
            go_simp
            refine HI1.out.mono ?_
            rintro e w6 ⟨rfl, rfl⟩
            dsimp only
            refine hK.out _ _ (S1.out _ HKd.out) ?_
            clear hK K
            try simp only [Act.put, List.setIfInBounds_toArray, List.set_cons_zero, List.set_cons_succ]
            repeat
              refine lin_free (v := ?_) (by rfl) ?_ ?_
              rotate_left
              · intro w' hSw
                go_simp
                first | done | with_reducible rfl
              try simp only [Act.put, List.setIfInBounds_toArray, List.set_cons_zero, List.set_cons_succ]
            refine NoPanic.normal ?_
            go_wp2
            go_roundw
            case rel => exact ⟨k + 1, hlt, by go_num, HKd⟩
            case measure => exact hmk
          · have hd1 : decide ((k : Int) < (N : Int)) = false := decide_eq_false (by omega)
            have c0 := hE 0 (by rw [HN.out]; exact h0) wr HK.out
            have hf := HOk.out.fst _ (List.getElem?_eq_getElem (by rw [HN.out]; exact h0))
            rw [hf, Nat.add_zero] at c0
            have gl : (lst == lst) = true := by simp
            have HB6 : Hd (Below w.heap.size w wr) := ⟨HB5.out.trans (HK.out.mono HB5.out.size)⟩
            clear hE hf
            go_wp2
            go_ret
            exact ⟨rfl, HB6.out⟩

end Go.Proofs.Ytlncfhkmjbempaa.W
