/-
  graph.Loop.
-/
import Derived.Test.YtmgkoocpnakanaaLp
namespace Go.Proofs.Ytmgkoocpnakanaa.W
open Go.RowKit
set_option linter.unusedVariables false

set_option maxRecDepth 100000 in
theorem loop_no (w : World) (n : Int) (v : Value) (arcs : List Arc) (hR : Rw 2 Arc.E w v arcs) (hl : lenR arcs.length) (hr : rightB n arcs = false) (hn : I64 n) :
    Calls Try.prog 23 #[.int .i64 n, v] w fun e w' => e = .returned (.slice none 0 0) ∧ Below w.heap.size w w' := by
  have HP := Hd.mk (parts_no w n v arcs hR hl hr)
  have HC := Hd.mk (fun (w' : World) (hb : Below w.heap.size w w') => gright_any w' n v arcs (hR.below Arc.stays hb) hl)
  rw [hr] at HC
  clear hR hl hr
  go_enter Try.func23, Try.ntmps23
  go_wp2_with fail
  refine HP.out.mono ?_
  rintro e w1 ⟨rfl, b1⟩
  have HB := Hd.mk b1
  clear b1 HP
  go_wp2
  go_loopw [20, 5] (fun iv lv wr => iv = .int .i64 0 ∧ lv = .int .i64 n ∧ wr = w1) (fun _ _ _ => 0)
  case atStart => exact ⟨rfl, rfl, rfl⟩
  case round =>
    obtain ⟨rfl, rfl, rfl⟩ := hrel
    by_cases h0 : n < 0
    · have h1 : decide (n < 0) = true := by simpa using h0
      go_wp2
      go_ret
      exact ⟨rfl, HB.out⟩
    · have h1 : decide (n < 0) = false := by simpa using h0
      go_wp2_with fail
      refine (HC.out wr HB.out).mono ?_
      rintro e w2 ⟨rfl, b2⟩
      have HB2 := Hd.mk (HB.out.trans (b2.mono HB.out.size))
      clear b2
      go_wp2
      go_ret
      exact ⟨rfl, HB2.out⟩

theorem lpA_ge {parts : List (List Nat)} {m : Int} (h : 0 ≤ m) : 0 ≤ lpA (parts.map intL) m ∧ lpA (parts.map intL) m ≤ m := by
  induction parts generalizing m with
  | nil => exact ⟨h, Int.le_refl _⟩
  | cons p r ih =>
    have hh : 0 ≤ (intL p).headD 0 := by cases p <;> simp [intL]
    show 0 ≤ lpA (r.map intL) (if 1 < (intL p).length then min m ((intL p).headD 0) else m) ∧ lpA (r.map intL) (if 1 < (intL p).length then min m ((intL p).headD 0) else m) ≤ m
    split
    · obtain ⟨h1, h2⟩ := ih (m := min m ((intL p).headD 0)) (by omega)
      exact ⟨h1, by omega⟩
    · exact ih h
theorem lpB_ge {arcs : List Arc} {m : Int} (hf : ∀ a ∈ arcs, 0 ≤ a.f) (h : 0 ≤ m) : 0 ≤ lpB arcs m ∧ lpB arcs m ≤ m := by
  induction arcs generalizing m with
  | nil => exact ⟨h, Int.le_refl _⟩
  | cons a r ih =>
    have hh := hf a List.mem_cons_self
    show 0 ≤ lpB r (if a.f = a.t then min m a.f else m) ∧ lpB r (if a.f = a.t then min m a.f else m) ≤ m
    have hr := fun b hb => hf b (List.mem_cons_of_mem _ hb)
    split
    · obtain ⟨h1, h2⟩ := ih (m := min m a.f) hr (by omega)
      exact ⟨h1, by omega⟩
    · exact ih hr h

set_option maxHeartbeats 4000000 in
set_option maxRecDepth 100000 in
theorem loop_any (w : World) (n : Nat) (hn : n ≤ 1000) (v : Value) (arcs : List Arc) (hR : Rw 2 Arc.E w v arcs) (hl : arcs.length ≤ 1000000) (hr : rightB (n : Int) arcs = true) :
    Calls Try.prog 23 #[.int .i64 n, v] w fun e w' => ∃ v', e = .returned v' ∧ Own w' w.heap.size 3 v' (intC (loopL n arcs)) ∧ Below w.heap.size w w' := by
  have hf : ∀ a ∈ arcs, 0 ≤ a.f ∧ a.f < (n : Int) := fun a ha => by
    have h := hr
    simp only [rightB, Bool.and_eq_true, List.all_eq_true, nodeB, decide_eq_true_eq] at h
    exact (h.2 a ha).1
  have HP := Hd.mk (parts_any w n hn v arcs hR hl hr)
  have HC := Hd.mk (fun (w' : World) (hb : Below w.heap.size w w') => gright_any w' n v arcs (hR.below Arc.stays hb) (by unfold lenR; omega))
  have HSr := Hd.mk (fun (w' : World) (hb : Below w.heap.size w w') (rv : Value) (roots : List Int) (hRr : Rw 1 intE w' rv roots) (hrl : roots.length ≤ 1000000) => search_any w' n hn v rv arcs roots (hR.below Arc.stays hb) hl hr hRr hrl)
  rw [hr] at HC
  have hHR := Hd.mk hR
  obtain ⟨p, c, hv⟩ := hR.slice
  subst hv
  obtain ⟨M, hM⟩ : ∃ M, arcs.length = M := ⟨_, rfl⟩
  obtain ⟨G, hG⟩ : ∃ G, partsG n arcs = G := ⟨_, rfl⟩
  obtain ⟨A, hA⟩ : ∃ A, lpA (G.map intL) n = A := ⟨_, rfl⟩
  have hA2 := lpA_ge (parts := G) (m := (n : Int)) (by omega)
  rw [hA] at hA2
  have HPl := Hd.mk (And.intro hf (And.intro hM (And.intro hG hA)))
  rw [hM]
  have hHR2 := hHR
  have hGeq : (Tj.greedy n (fun u x => (Tj.heads (Tj.waysOf n (nx n arcs) [u])).contains x) n (fun _ => false)) = G := hG
  rw [hGeq] at HP
  have hMl : M ≤ 1000000 := by omega
  clear hR hr hf hG hA hGeq hM hl
  go_enter Try.func23, Try.ntmps23
  rw [HPl.out.2.1] at HP HC HSr
  go_wp2_with fail
  refine HP.out.mono ?_
  rintro e w1 ⟨pv, pvs, rfl, hrows, b1⟩
  obtain ⟨pp, cp, hpv⟩ := hrows.own.slice'
  obtain ⟨K, hK⟩ : ∃ K, pvs.length = K := ⟨_, rfl⟩
  rw [hK] at hpv
  subst hpv
  have hKb : K ≤ 9223372036854775807 := by
    rcases hrows.own.is with ⟨_, h⟩ | ⟨g', cap, _, _, h1, h2, _⟩
    · rw [h] at hK; simp at hK; omega
    · simp only [maxLen] at h2; omega
  have HRo := Hd.mk hrows
  have HKl : Hd (G.length = K ∧ (G.map intL).length = K) := ⟨by have := hrows.len; rw [List.length_map] at this; omega, by rw [← hrows.len]; exact hK⟩
  have HB := Hd.mk b1
  clear hrows b1 HP hK
  go_wp2
  go_loopw [20, 5] (fun iv lv wr => ∃ (k : Nat) (a : Int), k ≤ K ∧ iv = .int .i64 (k : Int) ∧ lv = .int .i64 a ∧ Hd (lpA ((G.map intL).take k) n = a) ∧ w1 = wr) (fun iv _ _ => K - (intOf iv).toNat)
  case atStart => exact ⟨0, n, Nat.zero_le _, rfl, rfl, ⟨rfl⟩, rfl⟩
  case round =>
    obtain ⟨k, a, hk, rfl, rfl, HA, rfl⟩ := hrel
    by_cases hlt : k < K
    · have hd1 : decide ((k : Int) < (K : Int)) = true := by simp; omega
      have hmk : K - (intOf (.int .i64 ((k : Int) + 1))).toNat < K - (intOf (.int .i64 (k : Int))).toNat := by simp [intOf]; omega
      obtain ⟨gp, hgp⟩ : ∃ gp, pp = some ⟨gp, 0, none⟩ := by
        obtain ⟨g, c, e⟩ := HRo.out.own.slice (by rw [HRo.out.len, HKl.out.2]; omega)
        injection e with e _ _
        exact ⟨g, e⟩
      subst hgp
      have hkg : k < (G.map intL).length := by rw [HKl.out.2]; exact hlt
      obtain ⟨u, hu, cu, _, hOu, _⟩ := HRo.out.at (j := k) hkg
      have hst := lpA_step (m := (n : Int)) hkg
      rw [HA.out] at hst
      obtain ⟨q, hq⟩ : ∃ q, (G.map intL)[k] = q := ⟨_, rfl⟩
      rw [hq] at hst hOu
      obtain ⟨pu, cu2, hus⟩ := hOu.slice'
      obtain ⟨Q, hQ⟩ : ∃ Q, q.length = Q := ⟨_, rfl⟩
      rw [show (ints q).length = Q by simp [ints, hQ]] at hus
      subst hus
      rw [hQ] at hst
      by_cases h1 : 1 < Q
      · have ht : decide ((1 : Int) < (Q : Int)) = true := by simp; omega
        obtain ⟨gu, hgu⟩ : ∃ gu, pu = some ⟨gu, 0, none⟩ := by
          obtain ⟨g, c, e⟩ := hOu.slice (by simp [ints]; omega)
          injection e with e _ _
          exact ⟨g, e⟩
        subst hgu
        obtain ⟨x, hx⟩ : ∃ x, q.headD 0 = x := ⟨_, rfl⟩
        have hqc : (ints q)[0]? = some (.int .i64 x) := by
          cases q with
          | nil => simp at hQ; omega
          | cons y r => simp at hx; subst hx; rfl
        have cx := (hOu.at hqc).1
        rw [if_pos h1, hx] at hst
        obtain ⟨m, hm⟩ : ∃ m, min a x = m := ⟨_, rfl⟩
        rw [hm] at hst
        have HSt := Hd.mk hst
        have hQ1 : 0 < Q := by omega
        clear hst hq hQ hqc hu hOu hkg hx
        go_wp2
        exact ⟨⟨k + 1, m, hlt, by go_num, rfl, HSt, trivial⟩, hmk⟩
      · have ht : decide ((1 : Int) < (Q : Int)) = false := by simp; omega
        rw [if_neg h1] at hst
        have HSt := Hd.mk hst
        clear hst hq hQ hu hOu hkg
        go_wp2
        exact ⟨⟨k + 1, a, hlt, by go_num, rfl, HSt, trivial⟩, hmk⟩
    · have hd1 : decide ((k : Int) < (K : Int)) = false := by simp; omega
      have hkK : k = K := by omega
      have hAa : A = a := by
        have h1 := HA.out
        rw [List.take_of_length_le (by rw [HKl.out.2]; omega), HPl.out.2.2.2] at h1
        exact h1
      have hd2 : decide (a < 0) = false := by simp; omega
      subst hAa
      clear hkK HA
      go_wp2_with fail
      refine (HC.out w1 HB.out).mono ?_
      rintro e w2 ⟨rfl, b2⟩
      have HB2 := Hd.mk (HB.out.trans (b2.mono HB.out.size))
      clear b2 HC hk hlt hd1 HRo HKl
      go_wp2
      go_loopw [43, 5] (fun iv lv wr => ∃ (k : Nat) (a : Int), k ≤ M ∧ iv = .int .i64 (k : Int) ∧ lv = .int .i64 a ∧ Hd (lpB (arcs.take k) A = a) ∧ Hd (Below w.heap.size w wr)) (fun iv _ _ => M - (intOf iv).toNat)
      case atStart => exact ⟨0, A, Nat.zero_le _, rfl, rfl, ⟨rfl⟩, HB2⟩
      case round =>
        clear HB2
        obtain ⟨k, a, hk, rfl, rfl, HA, HK⟩ := hrel
        by_cases hlt : k < M
        · have hd1 : decide ((k : Int) < (M : Int)) = true := by simp; omega
          have hmk : M - (intOf (.int .i64 ((k : Int) + 1))).toNat < M - (intOf (.int .i64 (k : Int))).toNat := by simp [intOf]; omega
          have hkq : k < arcs.length := by rw [HPl.out.2.1]; exact hlt
          obtain ⟨g, of, cs, hpe, hg, hcl, hE, hcc⟩ := (hHR.out.below Arc.stays HK.out).at rfl (j := k) hkq
          subst hpe
          rw [show cs = arcs[k].cells from hE] at hcc
          obtain ⟨x, hx⟩ : ∃ x, arcs[k].f = x := ⟨_, rfl⟩
          obtain ⟨y, hy⟩ : ∃ y, arcs[k].t = y := ⟨_, rfl⟩
          have c0 : wr.cell? ⟨g, of + k * 2, none⟩ = some (.int .i64 x) := by rw [← hx]; exact hcc 0 _ rfl
          have c1 : wr.cell? ⟨g, of + k * 2 + 1, none⟩ = some (.int .i64 y) := by rw [← hy]; exact hcc 1 _ rfl
          have hst := lpB_step (m := A) hkq
          rw [HA.out, hx, hy] at hst
          have HK2 : Hd (Below w.heap.size w (wr.alloc (.cells #[.int .i64 x, .int .i64 y] 42))) := ⟨HK.out.trans ((below_al wr _).mono HK.out.size)⟩
          clear hcc hcl hE hg hx hy hkq cs
          by_cases hxy : x = y
          · subst hxy
            rw [if_pos rfl] at hst
            obtain ⟨m, hm⟩ : ∃ m, min a x = m := ⟨_, rfl⟩
            rw [hm] at hst
            have HSt := Hd.mk hst
            clear hst
            go_wp2
            exact ⟨⟨k + 1, m, hlt, by go_num, rfl, HSt, HK2⟩, hmk⟩
          · rw [if_neg hxy] at hst
            have HSt := Hd.mk hst
            clear hst
            go_wp2
            exact ⟨⟨k + 1, a, hlt, by go_num, rfl, HSt, HK2⟩, hmk⟩
        · have hd1 : decide ((k : Int) < (M : Int)) = false := by simp; omega
          have hL : leastL n arcs = a := by
            have h1 := HA.out
            rw [List.take_of_length_le (by rw [HPl.out.2.1]; omega)] at h1
            unfold leastL
            rw [HPl.out.2.2.1, HPl.out.2.2.2]; exact h1
          have hge := lpB_ge (arcs := arcs) (m := A) (fun b hb => (HPl.out.1 b hb).1) hA2.1
          rw [show lpB arcs A = a by rw [← hL]; unfold leastL; rw [HPl.out.2.2.1, HPl.out.2.2.2]] at hge
          have HLe := Hd.mk hL
          clear hL HA hk
          by_cases han : a = (n : Int)
          · have HLp : Hd (loopL n arcs = []) := ⟨by unfold loopL; rw [HLe.out, if_pos han]⟩
            subst han
            go_wp2
            go_ret
            exact ⟨_, rfl, by rw [HLp.out]; exact Own.nil _ _ _, HK.out⟩
          · obtain ⟨ls, hls⟩ : ∃ ls : Nat, (ls : Int) = a := ⟨a.toNat, by omega⟩
            subst hls
            have hlsn : ls < n := by omega
            have HLp : Hd (loopL n arcs = lpC ls (wavesOf n arcs [(ls : Int)]) arcs []) := ⟨by unfold loopL; rw [HLe.out, if_neg han]; simp⟩
            have hne : ((ls : Int) == (n : Int)) = false := by simp; omega
            have hne2 : ¬ (ls : Int) = (n : Int) := by omega
            have hRv : Rw 1 intE (wr.alloc (.cells #[.int .i64 (ls : Int)] 3)) (.slice (some ⟨wr.heap.size, 0, none⟩) 1 1) [(ls : Int)] := Rw.ints (ks := [(ls : Int)]) (Blk.new wr 3 [.int .i64 (ls : Int)])
            have HK1 : Hd (Below w.heap.size w (wr.alloc (.cells #[.int .i64 (ls : Int)] 3))) := ⟨HK.out.trans ((below_al wr _).mono HK.out.size)⟩
            have HSx := Hd.mk (HSr.out _ HK1.out _ _ hRv (by simp))
            have HWs := Hd.mk (WsOK.of (waves_ok n arcs [(ls : Int)]))
            obtain ⟨ws, hws⟩ : ∃ ws, wavesOf n arcs [(ls : Int)] = ws := ⟨_, rfl⟩
            rw [hws] at HSx HLp HWs
            clear hws hRv HSr
            go_wp2_with fail
            refine HSx.out.mono ?_
            rintro e w3 ⟨bv, rfl, hbo, hb3⟩
            have HBo := Hd.mk (hbo.down (Nat.le_trans HK1.out.size (Nat.le_refl _)))
            have HB3 := Hd.mk (HK1.out.trans (hb3.mono HK1.out.size))
            clear hbo hb3 HSx HK1 HK hd1 hlt
            go_wp2
            go_loopw [67, 11] (fun iv lv wr => ∃ (k : Nat) (best : List Nat), k ≤ M ∧ iv = .int .i64 (k : Int) ∧ Hd (lpC ls ws (arcs.take k) [] = best) ∧ Hd (Own wr w.heap.size 3 lv (intC best)) ∧ Hd (best = [] → lv = .slice none 0 0) ∧ Hd (best.length ≤ n) ∧ Hd (Own wr w.heap.size 3 bv (befC n ws)) ∧ Hd (Below w.heap.size w wr)) (fun iv _ _ => M - (intOf iv).toNat)
            case atStart => exact ⟨0, [], Nat.zero_le _, rfl, ⟨rfl⟩, ⟨Own.nil _ _ _⟩, ⟨fun _ => rfl⟩, ⟨Nat.zero_le _⟩, HBo, HB3⟩
            case round =>
              clear HBo HB3
              obtain ⟨k, best, hk, rfl, HBe, HOb, HNb, HLb, HBo, HK⟩ := hrel
              by_cases hlt : k < M
              · have hd1 : decide ((k : Int) < (M : Int)) = true := by simp; omega
                have hmk : M - (intOf (.int .i64 ((k : Int) + 1))).toNat < M - (intOf (.int .i64 (k : Int))).toNat := by simp [intOf]; omega
                have hkq : k < arcs.length := by rw [HPl.out.2.1]; exact hlt
                obtain ⟨g, of, cs, hpe, hg, hcl, hE, hcc⟩ := (hHR.out.below Arc.stays HK.out).at rfl (j := k) hkq
                subst hpe
                rw [show cs = arcs[k].cells from hE] at hcc
                have hxf := HPl.out.1 arcs[k] (List.getElem_mem hkq)
                obtain ⟨x, hx⟩ : ∃ x : Nat, (x : Int) = arcs[k].f := ⟨arcs[k].f.toNat, by omega⟩
                obtain ⟨y, hy⟩ : ∃ y, arcs[k].t = y := ⟨_, rfl⟩
                have hxn : x < n := by omega
                have c0 : wr.cell? ⟨g, of + k * 2, none⟩ = some (.int .i64 (x : Int)) := by rw [hx]; exact hcc 0 _ rfl
                have c1 : wr.cell? ⟨g, of + k * 2 + 1, none⟩ = some (.int .i64 y) := by rw [← hy]; exact hcc 1 _ rfl
                have hst := lpC_step (least := ls) (ws := ws) (b := []) hkq
                rw [HBe.out, hy, ← hx, show ((x : Nat) : Int).toNat = x by simp] at hst
                have hal := below_al wr (.cells #[.int .i64 (x : Int), .int .i64 y] 42)
                have HK2 := Hd.mk (HK.out.trans (hal.mono HK.out.size))
                have HOb2 := Hd.mk (HOb.out.below hal)
                have HBo2 := Hd.mk (HBo.out.below hal)
                clear hcc hcl hE hg hx hy hkq hxf cs hal
                by_cases hyl : y = (ls : Int)
                · subst hyl
                  rw [if_pos rfl] at hst
                  have HT := Hd.mk (track_any _ w.heap.size n x bv ws HBo2.out HWs.out hxn hn)
                  obtain ⟨wy, hwy⟩ : ∃ wy, Tj.wayL ws x = wy := ⟨_, rfl⟩
                  rw [hwy] at hst HT
                  have HSt := Hd.mk hst
                  have HWl : Hd (wy.length ≤ n) := ⟨by
                    rw [← hwy]
                    unfold Tj.wayL
                    rcases hf : ws.find? (fun l => Tj.headN l == x) with _ | l
                    · simp
                    · simp only [Option.getD_some, List.length_reverse]; exact HWs.out.len l (List.mem_of_find?_eq_some hf)⟩
                  clear hst hwy
                  go_wp2_with fail
                  refine HT.out.mono ?_
                  rintro e w5 ⟨tv, rfl, hto, htn, hb5⟩
                  have HTo := Hd.mk (hto.down HK2.out.size)
                  have HK5 := Hd.mk (HK2.out.trans (hb5.mono HK2.out.size))
                  have HOb5 := Hd.mk (HOb2.out.below hb5)
                  have HBo5 := Hd.mk (HBo2.out.below hb5)
                  have HTn := Hd.mk htn
                  clear hto htn hb5 HT HOb2 HBo2 HK2 HK HOb HBo c0 c1
                  cases wy with
                  | nil =>
                    have htv := HTn.out rfl
                    subst htv
                    have HSt2 : Hd (lpC ls ws (arcs.take (k + 1)) [] = best) := ⟨by rw [HSt.out]; rfl⟩
                    go_wp2
                    exact ⟨⟨k + 1, best, hlt, by go_num, HSt2, HOb5, HNb, HLb, HBo5, HK5⟩, hmk⟩
                  | cons a r =>
                    obtain ⟨gt, ct, htv⟩ := HTo.out.slice (by simp [intC])
                    obtain ⟨Q, hQ⟩ : ∃ Q, (a :: r).length = Q := ⟨_, rfl⟩
                    rw [show (intC (a :: r)).length = Q by simp [intC, ← hQ]] at htv
                    subst htv
                    have hne0 : (!(a :: r : List Nat).isEmpty) = true := rfl
                    cases hbest : best with
                    | nil =>
                      have hlv := HNb.out hbest
                      subst hlv
                      have HSt2 : Hd (lpC ls ws (arcs.take (k + 1)) [] = a :: r) := ⟨by rw [HSt.out, hbest]; rfl⟩
                      have HTn2 : Hd ((a :: r : List Nat) = [] → Value.slice (some ⟨gt, 0, none⟩) Q ct = .slice none 0 0) := ⟨fun h => by cases h⟩
                      have hen : ∀ w' : World, (binOp .eql 44 (.slice none 0 0) (.slice none 0 0)).run Try.prog w' = .ok (.bool true) w' := fun w' => by kernel_rfl
                      clear hbest
                      go_wp2
                      exact ⟨⟨k + 1, a :: r, hlt, by go_num, HSt2, HTo, HTn2, HWl, HBo5, HK5⟩, hmk⟩
                    | cons b s =>
                      have hOb5 := HOb5.out
                      rw [hbest] at hOb5
                      obtain ⟨gb, cb, hbv⟩ := hOb5.slice (by simp [intC])
                      obtain ⟨W, hW⟩ : ∃ W, (b :: s).length = W := ⟨_, rfl⟩
                      rw [show (intC (b :: s)).length = W by simp [intC, ← hW]] at hbv
                      subst hbv
                      have HQW := Hd.mk (And.intro hQ (And.intro hW hbest))
                      have HCm := Hd.mk (compare_any w5 _ _ _ _ (intL (a :: r)) (intL (b :: s)) (by have := HWl.out; simp [intL] at this ⊢; omega) (by have := HLb.out; rw [hbest] at this; simp [intL] at this ⊢; omega) (HTo.out.cast (ints_intL _).symm) (hOb5.cast (ints_intL _).symm))
                      obtain ⟨cc, hcc⟩ : ∃ cc, cmpI (intL (a :: r)) (intL (b :: s)) = cc := ⟨_, rfl⟩
                      rw [hcc] at HCm
                      have HBt : Hd (better (a :: r) best = (decide (Q < W) || (decide (Q = W) && decide (cc < 0)))) := ⟨by
                        unfold better
                        rw [hbest, hQ, hW, hcc]; rfl⟩
                      have HTk : Hd (better (a :: r) best = true → lpC ls ws (arcs.take (k + 1)) [] = a :: r) := ⟨fun h => by rw [HSt.out, h]; rfl⟩
                      have HNt : Hd (better (a :: r) best = false → lpC ls ws (arcs.take (k + 1)) [] = best) := ⟨fun h => by rw [HSt.out, h]; rfl⟩
                      have HTn2 : Hd ((a :: r : List Nat) = [] → Value.slice (some ⟨gt, 0, none⟩) Q ct = .slice none 0 0) := ⟨fun h => by cases h⟩
                      have hen : ∀ (W' : Nat) (w' : World), (binOp .eql 44 (.slice (some ⟨gb, 0, none⟩) W' cb) (.slice none 0 0)).run Try.prog w' = .ok (.bool false) w' := fun W' w' => by kernel_rfl
                      clear hcc hOb5 hQ hW hbest hne0
                      by_cases hlt1 : Q < W
                      · have t1 : decide ((Q : Int) < (W : Int)) = true := by simp; omega
                        have HSt2 := Hd.mk (HTk.out (by rw [HBt.out]; simp [hlt1]))
                        go_wp2
                        exact ⟨⟨k + 1, a :: r, hlt, by go_num, HSt2, HTo, HTn2, HWl, HBo5, HK5⟩, hmk⟩
                      · have t1 : decide ((Q : Int) < (W : Int)) = false := by simp; omega
                        by_cases heq : Q = W
                        · subst heq
                          rcases hcd : decide (cc < 0) with _ | _
                          · have HSt2 := Hd.mk (HNt.out (by rw [HBt.out, hcd]; simp))
                            go_wp2_with fail
                            refine HCm.out.mono ?_
                            rintro e w6 ⟨rfl, rfl⟩
                            go_wp2
                            exact ⟨⟨k + 1, best, hlt, by go_num, HSt2, HOb5, HNb, HLb, HBo5, HK5⟩, hmk⟩
                          · have HSt2 := Hd.mk (HTk.out (by rw [HBt.out, hcd]; simp))
                            go_wp2_with fail
                            refine HCm.out.mono ?_
                            rintro e w6 ⟨rfl, rfl⟩
                            go_wp2
                            exact ⟨⟨k + 1, a :: r, hlt, by go_num, HSt2, HTo, HTn2, HWl, HBo5, HK5⟩, hmk⟩
                        · have t2 : ¬ (Q : Int) = (W : Int) := by omega
                          have HSt2 := Hd.mk (HNt.out (by rw [HBt.out]; simp [hlt1, heq]))
                          go_wp2
                          exact ⟨⟨k + 1, best, hlt, by go_num, HSt2, HOb5, HNb, HLb, HBo5, HK5⟩, hmk⟩
                · rw [if_neg hyl] at hst
                  have HSt := Hd.mk hst
                  have hy2 : (y != (ls : Int)) = true := by simpa using hyl
                  clear hst
                  go_wp2
                  exact ⟨⟨k + 1, best, hlt, by go_num, HSt, HOb2, HNb, HLb, HBo2, HK2⟩, hmk⟩
              · have hd1 : decide ((k : Int) < (M : Int)) = false := by simp; omega
                have HFin : Hd (loopL n arcs = best) := ⟨by
                  have h1 := HBe.out
                  rw [List.take_of_length_le (by rw [HPl.out.2.1]; omega)] at h1
                  rw [HLp.out]; exact h1⟩
                go_wp2
                go_ret
                exact ⟨_, rfl, by rw [HFin.out]; exact HOb.out, HK.out⟩

end Go.Proofs.Ytmgkoocpnakanaa.W
