/-
  The laws' where.
-/
import Derived.Test.YtlncfhkmjbempaaGl
namespace Go.Proofs.Ytlncfhkmjbempaa.W
open Go.RowKit
set_option linter.unusedVariables false

set_option maxHeartbeats 4000000 in
set_option maxRecDepth 100000 in
theorem where_any (w : World) (n : Nat) (hn : n ≤ 1000) (v : Value) (P : List (List Nat)) (hR : Rw 1 rowE w v (P.map intL)) (hP : Pgd n P) (hPl : P.length ≤ 1000000) :
    Calls Try.prog 24 #[.int .i64 n, v] w fun e w' => ∃ v' F, e = .returned v' ∧ (∃ p c, v' = .slice p n c) ∧ RI w' v' ((List.range n).map F) ∧ Whr P n F ∧ Below w.heap.size w w' := by
  obtain ⟨p, c, hv⟩ := hR.slice
  obtain ⟨M, hM⟩ : ∃ M, P.length = M := ⟨_, rfl⟩
  rw [List.length_map, hM] at hv
  subst hv
  obtain ⟨g, hg⟩ : ∃ g, w.heap.size = g := ⟨_, rfl⟩
  have H := Hd.mk hR
  have HP := Hd.mk (And.intro hM hP)
  have HG := Hd.mk hg
  have hMb : M ≤ 1000000 := by omega
  have HB0 : Hd (Below g w (w.alloc (.cells (List.replicate n (.int .i64 0)).toArray 3))) := ⟨by rw [← hg]; exact below_al _ _⟩
  have HK0 : Hd (Blk (w.alloc (.cells (List.replicate n (.int .i64 0)).toArray 3)) g 3 (outC n fun u => if u < 0 then -1 else 0)) := ⟨by
    rw [← hg]
    refine (Blk.new w 3 (List.replicate n (.int .i64 0))).cast ?_
    rw [outC_zero]
    exact outC_congr (fun u _ => by simp)⟩
  have hHR : Hd (∀ w', Below g w w' → Rw 1 rowE w' (.slice p M c) (P.map intL)) := ⟨fun w' h => H.out.below rowE_stays (by rw [HG.out]; exact h)⟩
  have mz := make_ints w n (by omega)
  rw [hg] at mz
  have HMZ := Hd.mk mz
  clear hR hM hP hg mz
  go_enter Try.func24, Try.ntmps24
  go_upto_region 1 with (fail)
  go_cut [5] from 10 (fun s5 wx => s5 = .slice (some ⟨g, 0, none⟩) n n ∧ Hd (Blk wx g 3 (outC n fun u => if u < 0 then -1 else 0)) ∧ Hd (Below g w wx))
  case first =>
    have mz := HMZ.out
    go_wp2
    go_meet
    exact ⟨rfl, HK0, HB0⟩
  case rest =>
    obtain ⟨rfl, HK1, HB1⟩ := hcut
    clear HK0 HB0 HMZ
    go_step
    go_step
    go_cut [] from 10 (fun wx => Hd (Blk wx g 3 (outC n fun _ => -1)) ∧ Hd (Below g w wx))
    case first =>
      go_wp2
      go_loopw [6] (fun iv wr => ∃ k : Nat, k ≤ n ∧ iv = .int .i64 (k : Int) ∧ Hd (Blk wr g 3 (outC n fun u => if u < k then -1 else 0)) ∧ Hd (Below g w wr)) (fun iv _ => n - (intOf iv).toNat)
      case atStart => exact ⟨0, Nat.zero_le _, rfl, HK1, HB1⟩
      case round =>
        clear HK1 HB1
        obtain ⟨k, hk, rfl, HK, HB⟩ := hrel
        by_cases hlt : k < n
        · have hd1 : decide ((k : Int) < (n : Int)) = true := by simp; omega
          have hmk : n - (intOf (.int .i64 ((k : Int) + 1))).toNat < n - (intOf (.int .i64 (k : Int))).toNat := by simp [intOf]; omega
          have c0 := HK.out.at (outC_at (f := fun u => if u < k then -1 else 0) hlt)
          have z0 := HK.out.free k
          have HK2 : Hd (Blk (wr.setCell ⟨g, k, none⟩ (.int .i64 (-1))) g 3 (outC n fun u => if u < k + 1 then -1 else 0)) := ⟨by
            refine (HK.out.set k (.int .i64 (-1))).cast ?_
            rw [outC_set]
            refine outC_congr (fun u _ => ?_)
            by_cases h1 : u = k
            · subst h1; simp
            · by_cases h2 : u < k
              · simp [h1, h2, show u < k + 1 by omega]
              · simp [h1, h2, show ¬ u < k + 1 by omega]⟩
          have HB2 : Hd (Below g w (wr.setCell ⟨g, k, none⟩ (.int .i64 (-1)))) := ⟨HB.out.trans (((Keeps.refl (fun q => g ≤ q) wr).setCell (p := ⟨g, k, none⟩) (.inr (Nat.le_refl _)) _).below (by have := HB.out.size; have := HG.out; omega) (fun q h1 h2 => by omega))⟩
          simp only [Nat.lt_irrefl, if_false] at c0
          clear HK HB
          go_wp2
          exact ⟨⟨k + 1, hlt, by go_num, HK2, HB2⟩, hmk⟩
        · have hd1 : decide ((k : Int) < (n : Int)) = false := by simp; omega
          have HKe : Hd (Blk wr g 3 (outC n fun _ => -1)) := ⟨HK.out.cast (outC_congr (fun u hu => by simp [show u < k by omega]))⟩
          go_wp2
          go_meet
          exact ⟨HKe, HB⟩
    case rest =>
      obtain ⟨HK2, HB2⟩ := hcut
      clear HK1 HB1
      go_step
      go_step
      go_cut [] from 10 (fun wx => ∃ f, Hd (Blk wx g 3 (outC n f)) ∧ Hd (Whr P n f) ∧ Hd (Below g w wx))
      case first =>
        go_wp2
        go_loopw [7] (fun iv wr => ∃ (i : Nat) (f : Nat → Int), i ≤ M ∧ iv = .int .i64 (i : Int) ∧ Hd (Wst P i 0 f) ∧ Hd (Blk wr g 3 (outC n f)) ∧ Hd (Below g w wr)) (fun iv _ => M - (intOf iv).toNat)
        case atStart => exact ⟨0, fun _ => -1, Nat.zero_le _, rfl, ⟨Wst.start⟩, HK2, HB2⟩
        case round =>
          clear HK2 HB2
          obtain ⟨i, f, hi, rfl, HW, HK, HB⟩ := hrel
          by_cases hlt : i < M
          · have hd1 : decide ((i : Int) < (M : Int)) = true := by simp; omega
            have hmi : M - (intOf (.int .i64 ((i : Int) + 1))).toNat < M - (intOf (.int .i64 (i : Int))).toNat := by simp [intOf]; omega
            have hiP : i < P.length := by rw [HP.out.1]; exact hlt
            obtain ⟨L, hL⟩ : ∃ L, (P[i]).length = L := ⟨_, rfl⟩
            have hLn : L ≤ n := by rw [← hL]; exact HP.out.2.len _ (List.getElem_mem hiP)
            have HL := Hd.mk hL
            have HiP := Hd.mk hiP
            obtain ⟨gv, ov, cs, e1, hgv, _, ⟨a, rfl, hRa⟩, hca⟩ := H.out.at rfl (j := i) (by rw [List.length_map]; exact hiP)
            subst e1
            obtain ⟨pa, ca, ha⟩ := Rw.slice hRa
            rw [List.getElem_map, intL_len, hL] at ha
            subst ha
            rw [List.getElem_map] at hRa
            have c1 := hca 0 _ rfl
            rw [Nat.mul_one, Nat.add_zero] at c1
            have HA := Hd.mk hRa
            have HC : Hd (∀ w', Below g w w' → w'.cell? ⟨gv, ov + i, none⟩ = some (.slice pa L ca)) := ⟨fun w' hb => by
              rw [hb.cell (p := ⟨gv, ov + i, none⟩) (by rw [← HG.out]; exact hgv)]
              exact c1⟩
            clear hca hRa c1 hgv hL
            have c1 := HC.out wr HB.out
            go_wp2
            clear c1
            go_loopw [8] (fun kv wq => ∃ (k : Nat) (f : Nat → Int), k ≤ L ∧ kv = .int .i64 (k : Int) ∧ Hd (Wst P i k f) ∧ Hd (Blk wq g 3 (outC n f)) ∧ Hd (Below g w wq)) (fun kv _ => L - (intOf kv).toNat)
            case atStart => exact ⟨0, f, Nat.zero_le _, rfl, HW, HK, HB⟩
            case round =>
              clear HW HK HB
              obtain ⟨k, f, hk, rfl, HW, HK, HB⟩ := hrel
              have c1 := HC.out wr HB.out
              by_cases hlk : k < L
              · have hd2 : decide ((k : Int) < (L : Int)) = true := by simp; omega
                have hmk : L - (intOf (.int .i64 ((k : Int) + 1))).toNat < L - (intOf (.int .i64 (k : Int))).toNat := by simp [intOf]; omega
                have hkP : k < (P[i]'HiP.out).length := by rw [HL.out]; exact hlk
                obtain ⟨gu, ou, e2, hE⟩ := RI.ever HA.out (by rw [intL_len]; omega)
                subst e2
                have HE : Hd (∀ j (hj : j < (P[i]'HiP.out).length), wr.cell? ⟨gu, ou + j, none⟩ = some (.int .i64 (((P[i]'HiP.out)[j] : Nat) : Int))) := ⟨fun j hj => by
                  rw [hE j (by rw [intL_len]; exact hj) wr (by rw [HG.out]; exact HB.out), intL_get hj]⟩
                obtain ⟨hs1, hs2⟩ := HW.out.set HP.out.2 HiP.out hkP
                have hxn : (P[i]'HiP.out)[k] < n := HP.out.2.lt _ (List.getElem_mem HiP.out) _ (List.getElem_mem hkP)
                have hasc : 0 < k → ∀ hj : k - 1 < (P[i]'HiP.out).length, (P[i]'HiP.out)[k - 1] < (P[i]'HiP.out)[k] := fun h0 hj => List.pairwise_iff_getElem.1 (HP.out.2.asc _ (List.getElem_mem HiP.out)) (k - 1) k hj hkP (by omega)
                have ck := HE.out k hkP
                obtain ⟨x, hx⟩ : ∃ x, (P[i]'HiP.out)[k] = x := ⟨_, rfl⟩
                rw [hx] at hs1 hs2 hxn hasc ck
                have cx := HK.out.at (outC_at (f := f) hxn)
                rw [hs1] at cx
                have zx := HK.out.free x
                have HW2 := Hd.mk hs2
                have HK2 : Hd (Blk (wr.setCell ⟨g, x, none⟩ (.int .i64 (i : Int))) g 3 (outC n fun u => if u = x then (i : Int) else f u)) := ⟨by
                  refine (HK.out.set x (.int .i64 (i : Int))).cast ?_
                  rw [outC_set]⟩
                have HB2 : Hd (Below g w (wr.setCell ⟨g, x, none⟩ (.int .i64 (i : Int)))) := ⟨HB.out.trans (((Keeps.refl (fun q => g ≤ q) wr).setCell (p := ⟨g, x, none⟩) (.inr (Nat.le_refl _)) _).below (by have := HB.out.size; have := HG.out; omega) (fun q h1 h2 => by omega))⟩
                have g1 : decide ((x : Int) < 0) = false := decide_eq_false (by omega)
                have g2 : decide ((n : Int) ≤ (x : Int)) = false := decide_eq_false (by omega)
                have HC1 := Hd.mk c1
                rcases Nat.eq_zero_or_pos k with h0 | h0
                · subst h0
                  rw [Nat.add_zero] at ck
                  clear hE HE hs1 hs2 hasc hx hkP HK HB HC1
                  go_wp2
                  exact ⟨⟨1, _, hlk, by go_num, HW2, HK2, HB2⟩, hmk⟩
                · obtain ⟨m, rfl⟩ : ∃ m, k = m + 1 := ⟨k - 1, by omega⟩
                  have hm : m < (P[i]'HiP.out).length := by omega
                  have cm := HE.out m hm
                  have hl0 := hasc h0 hm
                  obtain ⟨y, hy⟩ : ∃ y, (P[i]'HiP.out)[m] = y := ⟨_, rfl⟩
                  have hlx : y < x := by rw [← hy]; exact hl0
                  rw [hy] at cm
                  have g3 : decide ((x : Int) ≤ (y : Int)) = false := decide_eq_false (by omega)
                  clear hl0
                  clear hE HE hs1 hs2 hasc hx hkP HK HB HC1 hy hm
                  go_wp2
                  exact ⟨⟨m + 2, _, hlk, by go_num, HW2, HK2, HB2⟩, hmk⟩
              · have hd2 : decide ((k : Int) < (L : Int)) = false := by simp; omega
                have HWn : Hd (Wst P (i + 1) 0 f) := ⟨HW.out.next (fun hi' => by rw [HL.out]; omega)⟩
                clear HW
                go_wp2
                exact ⟨⟨i + 1, f, hlt, by go_num, HWn, HK, HB⟩, hmi⟩
          · have hd1 : decide ((i : Int) < (M : Int)) = false := by simp; omega
            have HWe : Hd (Whr P n f) := ⟨Wst.done (by have e : i = P.length := by rw [HP.out.1]; omega
                                                       exact e ▸ HW.out) HP.out.2⟩
            go_wp2
            go_meet
            exact ⟨f, HK, HWe, HB⟩
      case rest =>
        obtain ⟨f, HK3, HW3, HB3⟩ := hcut
        have HRo : Hd (RI _ (.slice (some ⟨g, 0, none⟩) n n) ((List.range n).map f)) := ⟨outC_row HK3.out⟩
        have HBo : Hd (Below w.heap.size w _) := ⟨by rw [HG.out]; exact HB3.out⟩
        go_wp2
        go_ret
        exact ⟨_, f, rfl, ⟨_, _, rfl⟩, HRo.out, HW3.out, HBo.out⟩

end Go.Proofs.Ytlncfhkmjbempaa.W
