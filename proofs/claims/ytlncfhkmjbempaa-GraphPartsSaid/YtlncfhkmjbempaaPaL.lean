/-
  GraphParts.
-/
import Derived.Test.YtlncfhkmjbempaaWh
import Derived.Test.YtlncfhkmjbempaaArcA
namespace Go.Proofs.Ytlncfhkmjbempaa.W
open Go.RowKit
set_option linter.unusedVariables false

set_option maxHeartbeats 4000000 in
set_option maxRecDepth 100000 in
theorem partslaw_any (w : World) (n : Int) (v : Value) (arcs : List Arc) (hn : I64 n) (h1 : ArgArcs w v arcs) :
    Calls Try.prog 5 #[.int .i64 n, v] w fun e w' => e = .returned (.bool true) ∧ Below w.heap.size w w' := by
  obtain ⟨p, c, hv⟩ := h1.row.slice
  obtain ⟨M, hM⟩ : ∃ M, arcs.length = M := ⟨_, rfl⟩
  rw [hM] at hv
  subst hv
  have HL := Hd.mk hM
  have HR := Hd.mk h1.row
  have HS := Hd.mk (small_any w)
  have HI := Hd.mk hn
  clear h1  hM hn 
  go_enter Try.func5, Try.ntmps5
  go_wp2_with fail
  refine HS.out.mono ?_
  rintro e w1 ⟨rfl, b1⟩
  have HB := Hd.mk b1
  have HF := Hd.mk (few_any w1 n p none M 0 c 0)
  clear b1 HS
  rcases hf : fewB n M 0 with _ | _
  · rw [hf] at HF
    clear hf
    go_wp2_with fail
    refine HF.out.mono ?_
    rintro e w2 ⟨rfl, rfl⟩
    go_wp2
    go_ret
    exact ⟨rfl, HB.out⟩
  · have hfb : n ≤ 14 ∧ M ≤ 60 := by
      simp only [fewB, Bool.and_eq_true, decide_eq_true_eq] at hf
      omega
    rw [hf] at HF
    have HC := Hd.mk (gright_any w1 n (.slice p M c) arcs (HR.out.below Arc.stays HB.out) (by unfold lenR; rw [HL.out]; omega))
    clear hf
    go_wp2_with fail
    refine HF.out.mono ?_
    rintro e w2 ⟨rfl, rfl⟩
    rcases hrb : rightB n arcs with _ | _
    · rw [hrb] at HC
      clear hrb
      go_wp2_with fail
      refine HC.out.mono ?_
      rintro e w2 ⟨rfl, b2⟩
      have HB2 := Hd.mk (HB.out.trans (b2.mono HB.out.size))
      clear b2 HC
      go_wp2
      go_ret
      exact ⟨rfl, HB2.out⟩
    · rw [hrb] at HC
      have HRb := Hd.mk hrb
      obtain ⟨m, rfl⟩ := nat_of (right_is hrb).1
      clear hrb
      have hmm : m ≤ 14 := by omega
      have hg0 : decide ((m : Int) < 0) = false := decide_eq_false (by omega)
      go_wp2_with fail
      refine HC.out.mono ?_
      rintro e w2 ⟨rfl, b2⟩
      have HB2 := Hd.mk (HB.out.trans (b2.mono HB.out.size))
      clear b2 HC HB HF
      have HPa := Hd.mk (parts_any w2 m (by omega) (.slice p M c) arcs (HR.out.below Arc.stays HB2.out) (by rw [HL.out]; omega) HRb.out)
      have HRe := Hd.mk (fun (w' : World) (hb : Below w.heap.size w w') (rv : Value) (k : Nat) (hr : RI w' rv [(k : Int)]) => reach_any w' m (by omega) (.slice p M c) rv arcs [(k : Int)] (HR.out.below Arc.stays hb) (by rw [HL.out]; omega) HRb.out hr (by simp))
      go_wp2_with fail
      refine HPa.out.mono ?_
      rintro e w3 ⟨v3, vs3, rfl, o3, b3⟩
      have HB3 := Hd.mk (HB2.out.trans (b3.mono HB2.out.size))
      have HWh := Hd.mk (where_any w3 m (by omega) v3 (partsG m arcs) (RR.of o3) pgd (Nat.le_trans partsG_len (by omega)))
      clear o3 b3 HPa HB2
      go_upto_region 5 with (fail)
      go_cut [7] from 15 (fun s7 wx => ∃ F p4 c4, s7 = .slice p4 m c4 ∧ Hd (RI wx (.slice p4 m c4) ((List.range m).map F)) ∧ Hd (Whr (partsG m arcs) m F) ∧ Hd (Below w.heap.size w wx))
      case first =>
        go_wp2_with fail
        refine HWh.out.mono ?_
        rintro e w4 ⟨v4, F, rfl, ⟨p4, c4, rfl⟩, hr4, hw4, b4⟩
        have HB4 := Hd.mk (HB3.out.trans (b4.mono HB3.out.size))
        have HR4 := Hd.mk hr4
        have HW4 := Hd.mk hw4
        clear hr4 hw4 b4
        go_wp2
        go_meet
        exact ⟨F, _, _, rfl, HR4, HW4, HB4⟩
      case rest =>
      clear HWh HB3
      obtain ⟨F, p4, c4, rfl, HR4, HW4, HB4⟩ := hcut
      rename World => w4
      have HIn := Hd.mk (in_any w4 (.slice p4 m c4) _ (-1) HR4.out (by simp; omega))
      rw [decide_eq_false (fun h => by
        obtain ⟨u, hu, e⟩ := List.mem_map.1 h
        obtain ⟨j, _, _, hj⟩ := HW4.out u (List.mem_range.1 hu)
        omega)] at HIn
      have HAt : Hd (∀ u, u < m → ∃ g o, p4 = some ⟨g, o, none⟩ ∧ ∀ (j : Nat) w', j < m → Below w4.heap.size w4 w' → w'.cell? ⟨g, o + j, none⟩ = some (.int .i64 (F j))) := ⟨fun u hu => by
        obtain ⟨g, o, e, hE⟩ := RI.ever HR4.out (by simp; omega)
        refine ⟨g, o, e, fun j w' hj hb => ?_⟩
        rw [hE j (by simpa using hj) w' hb]
        simp⟩
      have gm : ((m : Int) != (m : Int)) = false := by simp
      go_step
      go_step
      go_cut [] from 15 (fun wx => w4 = wx)
      case first =>
        go_wp2_with fail
        refine HIn.out.mono ?_
        rintro e w5 ⟨rfl, rfl⟩
        clear HIn
        go_wp2
        go_meet
        exact rfl
      case rest =>
      obtain rfl := hcut
      clear HIn gm
      go_step
      go_step
      go_cut [] from 15 (fun wx => Hd (Below w4.heap.size w4 wx))
      case first =>
        go_wp2
        go_loopw [8] (fun iv wr => ∃ k : Nat, k ≤ M ∧ iv = .int .i64 (k : Int) ∧ Hd (Below w4.heap.size w4 wr)) (fun iv _ => M - (intOf iv).toNat)
        case atStart => exact ⟨0, Nat.zero_le _, rfl, ⟨Below.refl _ _⟩⟩
        case round =>
          obtain ⟨k, hk, rfl, HK⟩ := hrel
          by_cases hlt : k < M
          · have hd1 : decide ((k : Int) < (M : Int)) = true := by simp; omega
            have hmk : M - (intOf (.int .i64 ((k : Int) + 1))).toNat < M - (intOf (.int .i64 (k : Int))).toNat := by simp [intOf]; omega
            have hkq : k < arcs.length := by rw [HL.out]; exact hlt
            obtain ⟨g, of, cs, hpe, hg, hcl, hE, hcc⟩ := (HR.out.below Arc.stays (HB4.out.trans (HK.out.mono HB4.out.size))).at rfl (j := k) hkq
            subst hpe
            rw [show cs = arcs[k].cells from hE] at hcc
            obtain ⟨⟨f1, f2⟩, t1, t2⟩ := (right_is HRb.out).2.2 _ (List.getElem_mem hkq)
            obtain ⟨x, hx⟩ := nat_of f1
            obtain ⟨y, hy⟩ := nat_of t1
            have hxm : x < m := by omega
            have hym : y < m := by omega
            have hle := whr_arc HW4.out (List.getElem_mem hkq) hxm hym hx hy
            have d0 : wr.cell? ⟨g, of + k * 2, none⟩ = some (.int .i64 (x : Int)) := by rw [← hx]; exact hcc 0 _ rfl
            have d1 : wr.cell? ⟨g, of + k * 2 + 1, none⟩ = some (.int .i64 (y : Int)) := by rw [← hy]; exact hcc 1 _ rfl
            obtain ⟨g4, o4, e4, hE4⟩ := HAt.out x hxm
            subst e4
            have cx := hE4 x wr hxm HK.out
            have cy := hE4 y wr hym HK.out
            obtain ⟨fx, hfx⟩ : ∃ fx, F x = fx := ⟨_, rfl⟩
            obtain ⟨fy, hfy⟩ : ∃ fy, F y = fy := ⟨_, rfl⟩
            rw [hfx] at cx hle
            rw [hfy] at cy hle
            have g1 : decide ((x : Int) < 0) = false := decide_eq_false (by omega)
            have g2 : decide ((m : Int) ≤ (x : Int)) = false := decide_eq_false (by omega)
            have g3 : decide ((y : Int) < 0) = false := decide_eq_false (by omega)
            have g4' : decide ((m : Int) ≤ (y : Int)) = false := decide_eq_false (by omega)
            have g5 : decide (fx < fy) = false := decide_eq_false (by omega)
            clear hcc hcl hE hg hx hy hkq cs hE4 hfx hfy hle f1 f2 t1 t2
            go_upto_region 13 with (fail)
            go_quiet (fail)
            revert nq; intro q1
            have HK2 : Hd (Below w4.heap.size w4 (wr.drewN q1)) := ⟨HK.out.trans ((Bel wr q1).mono HK.out.size)⟩
            go_wp2
            go_roundw
            case rel => exact ⟨k + 1, hlt, by go_num, HK2⟩
            case measure => exact hmk
          · have hd1 : decide ((k : Int) < (M : Int)) = false := by simp; omega
            go_wp2
            go_meet
            exact HK
      case rest =>
        go_wp2
        go_loopw [11] (fun iv wr => ∃ k : Nat, k ≤ m ∧ iv = .int .i64 (k : Int) ∧ Hd (Below w4.heap.size w4 wr)) (fun iv _ => m - (intOf iv).toNat)
        case atStart => exact ⟨0, Nat.zero_le _, rfl, hcut⟩
        case round =>
          clear hcut
          obtain ⟨k, hk, rfl, HK⟩ := hrel
          by_cases hlt : k < m
          · have hd1 : decide ((k : Int) < (m : Int)) = true := by simp; omega
            have hmk : m - (intOf (.int .i64 ((k : Int) + 1))).toNat < m - (intOf (.int .i64 (k : Int))).toNat := by simp [intOf]; omega
            have r0 : RI (wr.alloc (.cells #[.int .i64 (k : Int)] 3)) (.slice (some ⟨wr.heap.size, 0, none⟩) 1 1) [(k : Int)] := Rw.ints (ks := [(k : Int)]) (Blk.new wr 3 [.int .i64 (k : Int)])
            have HBk := Hd.mk (HB4.out.trans (HK.out.mono HB4.out.size))
            have HC1 := Hd.mk (HRe.out _ (up HBk.out _) _ k r0)
            obtain ⟨A, hA⟩ : ∃ A, reachL m arcs [(k : Int)] = A := ⟨_, rfl⟩
            rw [hA] at HC1
            have HAm : Hd (∀ j : Nat, j < m → ((j : Int) ∈ intL A ↔ Tj.Rch (nx m arcs) k j)) := ⟨fun j hj => by rw [← hA]; exact mem_reach1 hlt hj⟩
            have hAl : A.length ≤ m := by rw [← hA]; exact reachN_len m _ m
            clear r0 hA
            go_wp2_with fail
            refine HC1.out.mono ?_
            rintro e w6 ⟨v6, rfl, o6, b6⟩
            have HK6 : Hd (Below w4.heap.size w4 w6) := ⟨(up HK.out _).trans (b6.mono (up HK.out _).size)⟩
            have HI6 := Hd.mk (fun (w' : World) (hb : Below w6.heap.size w6 w') (x : Int) => in_any w' v6 (intL A) x (Rw.below (RI.ofN o6) intE_stays hb) (by rw [intL_len]; omega))
            clear o6 b6 HC1 HK HBk
            go_wp2
            go_loopw [13] (fun jv wq => ∃ j : Nat, j ≤ m ∧ jv = .int .i64 (j : Int) ∧ Hd (Below w6.heap.size w6 wq)) (fun jv _ => m - (intOf jv).toNat)
            case atStart => exact ⟨0, Nat.zero_le _, rfl, ⟨Below.refl _ _⟩⟩
            case round =>
              obtain ⟨j, hj, rfl, HJ⟩ := hrel
              by_cases hlj : j < m
              · have hd2 : decide ((j : Int) < (m : Int)) = true := by simp; omega
                have hmj : m - (intOf (.int .i64 ((j : Int) + 1))).toNat < m - (intOf (.int .i64 (j : Int))).toNat := by simp [intOf]; omega
                have HI1 := Hd.mk (HI6.out wr HJ.out (j : Int))
                have HKj := Hd.mk (HK6.out.trans (HJ.out.mono HK6.out.size))
                obtain ⟨g4, o4, e4, hE4⟩ := HAt.out k hlt
                subst e4
                have hsame := whr_same HW4.out hlt hlj
                obtain ⟨fx, hfx⟩ : ∃ fx, F k = fx := ⟨_, rfl⟩
                obtain ⟨fy, hfy⟩ : ∃ fy, F j = fy := ⟨_, rfl⟩
                have HE4 : Hd (∀ w', Below w4.heap.size w4 w' → w'.cell? ⟨g4, o4 + k, none⟩ = some (.int .i64 fx) ∧ w'.cell? ⟨g4, o4 + j, none⟩ = some (.int .i64 fy)) := ⟨fun w' hb => ⟨by rw [← hfx]; exact hE4 k w' hlt hb, by rw [← hfy]; exact hE4 j w' hlj hb⟩⟩
                rw [hfx, hfy] at hsame
                have HSa := Hd.mk hsame
                clear hE4 hfx hfy hsame
                by_cases hin : (j : Int) ∈ intL A
                · rw [decide_eq_true hin] at HI1
                  have hkj := (HAm.out j hlj).1 hin
                  have r0 : RI (wr.alloc (.cells #[.int .i64 (j : Int)] 3)) (.slice (some ⟨wr.heap.size, 0, none⟩) 1 1) [(j : Int)] := Rw.ints (ks := [(j : Int)]) (Blk.new wr 3 [.int .i64 (j : Int)])
                  have HBk := Hd.mk (HB4.out.trans (HKj.out.mono HB4.out.size))
                  have HC1 := Hd.mk (HRe.out _ (up HBk.out _) _ j r0)
                  obtain ⟨D, hD⟩ : ∃ D, reachL m arcs [(j : Int)] = D := ⟨_, rfl⟩
                  rw [hD] at HC1
                  have hDm : (k : Int) ∈ intL D ↔ Tj.Rch (nx m arcs) j k := by rw [← hD]; exact mem_reach1 hlj hlt
                  have hDl : D.length ≤ m := by rw [← hD]; exact reachN_len m _ m
                  have HEq : Hd (fx = fy ↔ (k : Int) ∈ intL D) := ⟨by rw [hDm, HSa.out]; exact ⟨fun h => h.2, fun h => ⟨hkj, h⟩⟩⟩
                  clear r0 hD hin hkj hDm HSa
                  go_wp2_with fail
                  refine HI1.out.mono ?_
                  rintro e w7 ⟨rfl, rfl⟩
                  go_wp2_with fail
                  refine HC1.out.mono ?_
                  rintro e w7 ⟨v7, rfl, o7, b7⟩
                  have hb7 : Below wr.heap.size wr w7 := (up (Below.refl _ _) _).trans (b7.mono (up (Below.refl _ _) _).size)
                  have HJ7 : Hd (Below w6.heap.size w6 w7) := ⟨HJ.out.trans (hb7.mono HJ.out.size)⟩
                  have HI7 := Hd.mk (in_any w7 v7 (intL D) (k : Int) (RI.ofN o7) (by rw [intL_len]; omega))
                  obtain ⟨c1, c2⟩ := HE4.out w7 (HKj.out.trans (hb7.mono HKj.out.size))
                  clear o7 b7 hb7 HC1 HBk HJ HKj
                  by_cases hkD : (k : Int) ∈ intL D
                  · rw [decide_eq_true hkD] at HI7
                    have he : (fx == fy) = true := by simpa using HEq.out.2 hkD
                    clear hkD
                    go_wp2_with fail
                    refine HI7.out.mono ?_
                    rintro e w8 ⟨rfl, rfl⟩
                    go_upto_region 23 with (fail)
                    go_quiet (fail)
                    revert nq; intro q1
                    have HJ2 : Hd (Below w6.heap.size w6 (w7.drewN q1)) := ⟨HJ7.out.trans ((Bel w7 q1).mono HJ7.out.size)⟩
                    clear c1 c2
                    go_wp2
                    go_roundw
                    case rel => exact ⟨j + 1, hlj, by go_num, HJ2⟩
                    case measure => exact hmj
                  · rw [decide_eq_false hkD] at HI7
                    have he : (fx == fy) = false := by simpa using fun h => hkD (HEq.out.1 h)
                    clear hkD
                    go_wp2_with fail
                    refine HI7.out.mono ?_
                    rintro e w8 ⟨rfl, rfl⟩
                    go_upto_region 23 with (fail)
                    go_quiet (fail)
                    revert nq; intro q1
                    have HJ2 : Hd (Below w6.heap.size w6 (w7.drewN q1)) := ⟨HJ7.out.trans ((Bel w7 q1).mono HJ7.out.size)⟩
                    clear c1 c2
                    go_wp2
                    go_roundw
                    case rel => exact ⟨j + 1, hlj, by go_num, HJ2⟩
                    case measure => exact hmj
                · rw [decide_eq_false hin] at HI1
                  have he : (fx == fy) = false := by simpa using fun h => hin ((HAm.out j hlj).2 (HSa.out.1 h).1)
                  obtain ⟨c1, c2⟩ := HE4.out wr HKj.out
                  clear hin HSa
                  go_wp2_with fail
                  refine HI1.out.mono ?_
                  rintro e w7 ⟨rfl, rfl⟩
                  go_upto_region 23 with (fail)
                  go_quiet (fail)
                  revert nq; intro q1
                  have HJ2 : Hd (Below w6.heap.size w6 (wr.drewN q1)) := ⟨HJ.out.trans ((Bel wr q1).mono HJ.out.size)⟩
                  clear c1 c2
                  go_wp2
                  go_roundw
                  case rel => exact ⟨j + 1, hlj, by go_num, HJ2⟩
                  case measure => exact hmj
              · have hd2 : decide ((j : Int) < (m : Int)) = false := by simp; omega
                have HK2 := Hd.mk (HK6.out.trans (HJ.out.mono HK6.out.size))
                go_wp2
                exact ⟨⟨k + 1, hlt, by go_num, HK2⟩, hmk⟩
          · have hd1 : decide ((k : Int) < (m : Int)) = false := by simp; omega
            have HK2 := Hd.mk (HB4.out.trans (HK.out.mono HB4.out.size))
            go_wp2
            go_ret
            exact ⟨rfl, HK2.out⟩

end Go.Proofs.Ytlncfhkmjbempaa.W
