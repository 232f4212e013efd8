/-
  The reference's Loop.
-/
import Derived.Test.YtlncfhkmjbempaaRfx
namespace Go.Proofs.Ytlncfhkmjbempaa.W
open Go.RowKit
set_option linter.unusedVariables false

set_option maxHeartbeats 4000000 in
set_option maxRecDepth 100000 in
theorem rloop_any (w : World) (n : Int) (hn : n ≤ 1000) (v : Value) (arcs : List Arc) (hR : Rw 2 Arc.E w v arcs) (hl : arcs.length ≤ 1000000) :
    Calls Try.prog 23 #[.int .i64 n, v] w fun e w' => ∃ v', e = .returned v' ∧ RI w' v' (loopQ n arcs) ∧ Below w.heap.size w w' := by
  obtain ⟨p, c, hv⟩ := hR.slice
  obtain ⟨M, hM⟩ : ∃ M, arcs.length = M := ⟨_, rfl⟩
  rw [hM] at hv
  subst hv
  have HC := Hd.mk (rright_any w n (.slice p M c) arcs hR hl)
  have H := Hd.mk hR
  have HN := Hd.mk hM
  have hMb : M ≤ 1000000 := by omega
  clear hR hM
  rcases hrb : rightB n arcs with _ | _
  · rw [hrb] at HC
    have HNo := Hd.mk hrb
    clear hrb hl
    go_enter Try.func23, Try.ntmps23
    go_wp2_with fail
    refine HC.out.mono ?_
    rintro e w1 ⟨rfl, rfl⟩
    go_wp2
    go_ret
    exact ⟨_, rfl, by unfold loopQ; rw [HNo.out]; exact Rw.nil _, Below.refl _ _⟩
  rw [hrb] at HC
  obtain ⟨m, rfl⟩ := nat_of (right_is hrb).1
  have hm : m ≤ 1000 := by omega
  have HRb := Hd.mk hrb
  have HQ : Hd (loopQ (m : Int) arcs = intL (loopL m arcs)) := ⟨by unfold loopQ; rw [hrb]; rfl⟩
  have HHas : Hd (∀ w', Below w.heap.size w w' → ∀ a b : Int, Calls Try.prog 40 #[.slice p M c, .int .i64 a, .int .i64 b] w' fun e w'' => e = .returned (.bool (arcI arcs a b)) ∧ w' = w'') := ⟨fun w' hb a b => rhas_any w' (.slice p M c) arcs a b (H.out.below Arc.stays hb) hl⟩
  have HWy : Hd (∀ w', Below w.heap.size w w' → ∀ (rv : Value) (k u : Nat), u < m → RI w' rv [(k : Int)] → Calls Try.prog 21 #[.int .i64 (m : Int), .slice p M c, rv, .int .i64 (u : Int)] w' fun e w'' => ∃ v', e = .returned v' ∧ RI w'' v' (intL (Tj.wayL (wavesOf m arcs [(k : Int)]) u)) ∧ Below w'.heap.size w' w'') := ⟨fun w' hb rv k u hu hr => by
    have := rway_any w' (m : Int) hn (.slice p M c) rv arcs [(k : Int)] (u : Int) (H.out.below Arc.stays hb) hl hr (by simp)
    have hq : wayQ (m : Int) arcs [(k : Int)] (u : Int) = intL (Tj.wayL (wavesOf m arcs [(k : Int)]) u) := by
      unfold wayQ
      rw [hrb, decide_eq_true (show (0 : Int) ≤ (u : Int) by omega), decide_eq_true (show (u : Int) < (m : Int) by omega)]; rfl
    rw [hq] at this
    exact this⟩
  clear hrb hl
  go_enter Try.func23, Try.ntmps23
  go_wp2_with fail
  refine HC.out.mono ?_
  rintro e w1 ⟨rfl, rfl⟩
  clear HC
  go_wp2
  go_loopw [5] (fun kv wr => ∃ k : Nat, k ≤ m ∧ kv = .int .i64 (k : Int) ∧ Hd (∀ u, u < k → Clean m arcs u) ∧ Hd (Below w.heap.size w wr)) (fun kv _ => m - (intOf kv).toNat)
  case atStart => exact ⟨0, Nat.zero_le _, rfl, ⟨fun u h => absurd h (Nat.not_lt_zero _)⟩, ⟨Below.refl _ _⟩⟩
  case round =>
    obtain ⟨k, hk, rfl, HCl, HB⟩ := hrel
    by_cases hlt : k < m
    · have hd1 : decide ((k : Int) < (m : Int)) = true := decide_eq_true (by omega)
      have hmk : m - (intOf (.int .i64 ((k : Int) + 1))).toNat < m - (intOf (.int .i64 (k : Int))).toNat := by simp [intOf]; omega
      have HH1 := Hd.mk (HHas.out wr HB.out (k : Int) (k : Int))
      rcases hs : arcI arcs (k : Int) (k : Int) with _ | _
      · rw [hs] at HH1
        have HSe := Hd.mk hs
        obtain ⟨ws, hws⟩ : ∃ ws, wavesOf m arcs [(k : Int)] = ws := ⟨_, rfl⟩
        have HWs := Hd.mk hws
        have HWl : Hd (∀ u, (Tj.wayL ws u).length ≤ m) := ⟨fun u => by
          by_cases hm : u ∈ Tj.heads ws
          · obtain ⟨l, h1, rfl⟩ := Tj.mem_heads.1 hm
            have hW := waves_ok m arcs [(k : Int)]
            rw [hws] at hW
            rw [hW.find h1, List.length_reverse]
            exact (WsOK.of hW).len l h1
          · rw [Tj.wayL_none hm]; simp⟩
        have HR0 : Hd (RI (wr.alloc (.cells #[] 3)) (.slice (some ⟨wr.heap.size, 0, none⟩) 0 0) (intL [])) := ⟨⟨.inl ⟨rfl, .inr ⟨_, _, rfl⟩⟩⟩⟩
        have HBa : Hd (Below w.heap.size w (wr.alloc (.cells #[] 3))) := ⟨up HB.out _⟩
        clear hs hws HB
        go_wp2_with fail
        refine HH1.out.mono ?_
        rintro e w2 ⟨rfl, rfl⟩
        go_wp2
        go_loopw [7, 6] (fun uv bv wq => ∃ (u : Nat) (Y : List Nat) (py : Option Addr) (YL cy : Nat), u ≤ m ∧ uv = .int .i64 (u : Int) ∧ bv = .slice py YL cy ∧ YL ≤ m ∧ Hd (Y.length = YL) ∧ Hd (LpOk (LC arcs ws k u) Y) ∧ Hd (RI wq (.slice py YL cy) (intL Y)) ∧ Hd (Below w.heap.size w wq)) (fun uv _ _ => m - (intOf uv).toNat)
        case atStart => exact ⟨0, [], _, 0, 0, Nat.zero_le _, rfl, rfl, Nat.zero_le _, ⟨rfl⟩, ⟨.none (lc_zero ws k)⟩, HR0, HBa⟩
        case round =>
          clear HR0 HBa HH1
          obtain ⟨u, Y, py, YL, cy, hu, rfl, rfl, hYm, HYl, HOk, HRy, HB⟩ := hrel
          by_cases hltu : u < m
          · have hd2 : decide ((u : Int) < (m : Int)) = true := decide_eq_true (by omega)
            have hmu : m - (intOf (.int .i64 ((u : Int) + 1))).toNat < m - (intOf (.int .i64 (u : Int))).toNat := by simp [intOf]; omega
            by_cases huk : u = k
            · subst huk
              have HOk2 : Hd (LpOk (LC arcs ws u (u + 1)) Y) := ⟨HOk.out.congr (lc_skip (fun h => h.1 rfl))⟩
              have ge : ((u : Int) == (u : Int)) = true := by simp
              clear HOk
              go_wp2
              exact ⟨⟨u + 1, Y, py, YL, cy, hltu, by go_num, rfl, hYm, HYl, HOk2, HRy, HB⟩, hmu⟩
            · have ge : ((u : Int) == (k : Int)) = false := by simp; omega
              have HH2 := Hd.mk (HHas.out wr HB.out (u : Int) (k : Int))
              rcases ha : arcI arcs (u : Int) (k : Int) with _ | _
              · rw [ha] at HH2
                have HOk2 : Hd (LpOk (LC arcs ws k (u + 1)) Y) := ⟨HOk.out.congr (lc_skip (fun h => by rw [ha] at h; cases h.2.1))⟩
                clear HOk ha
                go_wp2_with fail
                refine HH2.out.mono ?_
                rintro e w3 ⟨rfl, rfl⟩
                go_wp2
                exact ⟨⟨u + 1, Y, py, YL, cy, hltu, by go_num, rfl, hYm, HYl, HOk2, HRy, HB⟩, hmu⟩
              · rw [ha] at HH2
                have HArc := Hd.mk ha
                have r0 : RI (wr.alloc (.cells #[.int .i64 (k : Int)] 3)) (.slice (some ⟨wr.heap.size, 0, none⟩) 1 1) [(k : Int)] := Rw.ints (ks := [(k : Int)]) (Blk.new wr 3 [.int .i64 (k : Int)])
                have HW1 := Hd.mk (HWy.out _ (up HB.out _) _ k u hltu r0)
                rw [HWs.out] at HW1
                obtain ⟨X, hX⟩ : ∃ X, Tj.wayL ws u = X := ⟨_, rfl⟩
                have hXm : X.length ≤ m := by rw [← hX]; exact HWl.out u
                have HXe := Hd.mk hX
                rw [hX] at HW1
                obtain ⟨XL, hXL⟩ : ∃ XL, X.length = XL := ⟨_, rfl⟩
                rw [hXL] at hXm
                have HXl := Hd.mk hXL
                clear r0 ha hX hXL
                go_wp2_with fail
                refine HH2.out.mono ?_
                rintro e w3 ⟨rfl, rfl⟩
                go_wp2_with fail
                refine HW1.out.mono ?_
                rintro e w4 ⟨v4, rfl, r4, b4⟩
                obtain ⟨px, cx, hv4⟩ := Rw.slice r4
                rw [intL_len, HXl.out] at hv4
                subst hv4
                have hb4 : Below wr.heap.size wr w4 := (below_al wr _).trans (b4.mono (by simp))
                have HR4 := Hd.mk r4
                have HB4 := Hd.mk (HB.out.trans (hb4.mono HB.out.size))
                have HRy4 : Hd (RI w4 (.slice py YL cy) (intL Y)) := ⟨Rw.below HRy.out intE_stays hb4⟩
                clear r4 b4 hb4 HW1 HH2 HB HRy
                rcases Nat.eq_zero_or_pos XL with hx0 | hx0
                · subst hx0
                  have HOk2 : Hd (LpOk (LC arcs ws k (u + 1)) Y) := ⟨HOk.out.congr (lc_skip (fun h => h.2.2 (by rw [HXe.out]; exact List.eq_nil_of_length_eq_zero HXl.out)))⟩
                  clear HOk
                  go_wp2
                  exact ⟨⟨u + 1, Y, py, YL, cy, hltu, by go_num, rfl, hYm, HYl, HOk2, HRy4, HB4⟩, hmu⟩
                · have gx : decide ((0 : Int) < (XL : Int)) = true := decide_eq_true (by omega)
                  have hXn : X ≠ [] := fun h => by have := HXl.out; rw [h] at this; simp at this; omega
                  have HOk2 : Hd (LpOk (LC arcs ws k (u + 1)) (if better X Y = true then X else Y)) := ⟨lpok_add HOk.out hXn (fun c => by
                    have := lc_take (arcs := arcs) (ws := ws) huk HArc.out (by rw [HXe.out]; exact hXn) c
                    rw [HXe.out] at this
                    exact this)⟩
                  rcases Nat.eq_zero_or_pos YL with hy0 | hy0
                  · have hYn : Y = [] := List.eq_nil_of_length_eq_zero (by rw [HYl.out]; exact hy0)
                    subst hy0
                    have HOk3 : Hd (LpOk (LC arcs ws k (u + 1)) X) := ⟨by
                      have := HOk2.out
                      rw [hYn, if_pos (by simp [better])] at this
                      exact this⟩
                    clear HOk HOk2 hYn hXn
                    go_wp2
                    exact ⟨⟨u + 1, X, px, XL, cx, hltu, by go_num, rfl, hXm, HXl, HOk3, HR4, HB4⟩, hmu⟩
                  · have hYn : Y ≠ [] := fun h => by have := HYl.out; rw [h] at this; simp at this; omega
                    have gy : ((YL : Int) == 0) = false := by simp; omega
                    have gy2 : ¬ YL = 0 := by omega
                    by_cases hxy : XL < YL
                    · have g1 : decide ((XL : Int) < (YL : Int)) = true := decide_eq_true (by omega)
                      have HOk3 : Hd (LpOk (LC arcs ws k (u + 1)) X) := ⟨by
                        have := HOk2.out
                        rw [if_pos (better_lt hYn (by rw [HXl.out, HYl.out]; exact hxy))] at this
                        exact this⟩
                      clear HOk HOk2 hYn hXn
                      go_wp2
                      exact ⟨⟨u + 1, X, px, XL, cx, hltu, by go_num, rfl, hXm, HXl, HOk3, HR4, HB4⟩, hmu⟩
                    · have g1 : decide ((XL : Int) < (YL : Int)) = false := decide_eq_false (by omega)
                      by_cases hxe : XL = YL
                      · subst hxe
                        have hbe := better_eq (x := X) hYn (by rw [HXl.out, HYl.out])
                        have HLs := Hd.mk (rless_any w4 (.slice px XL cx) (.slice py XL cy) (intL X) (intL Y) (by rw [intL_len, HXl.out]; omega) (by rw [intL_len, HYl.out]; omega) HR4.out HRy4.out)
                        rw [← hbe] at HLs
                        rcases hbt : better X Y with _ | _
                        · rw [hbt] at HLs
                          have HOk3 : Hd (LpOk (LC arcs ws k (u + 1)) Y) := ⟨by
                            have := HOk2.out
                            rw [if_neg (by rw [hbt]; simp)] at this
                            exact this⟩
                          clear HOk HOk2 hYn hXn hbe hbt
                          go_wp2_with fail
                          refine HLs.out.mono ?_
                          rintro e w5 ⟨rfl, b5⟩
                          have HRy5 : Hd (RI w5 (.slice py XL cy) (intL Y)) := ⟨Rw.below HRy4.out intE_stays b5⟩
                          have HB5 := Hd.mk (HB4.out.trans (b5.mono HB4.out.size))
                          clear b5 HRy4 HB4
                          go_wp2
                          exact ⟨⟨u + 1, Y, py, XL, cy, hltu, by go_num, rfl, hYm, HYl, HOk3, HRy5, HB5⟩, hmu⟩
                        · rw [hbt] at HLs
                          have HOk3 : Hd (LpOk (LC arcs ws k (u + 1)) X) := ⟨by
                            have := HOk2.out
                            rw [if_pos hbt] at this
                            exact this⟩
                          clear HOk HOk2 hYn hXn hbe hbt
                          go_wp2_with fail
                          refine HLs.out.mono ?_
                          rintro e w5 ⟨rfl, b5⟩
                          have HRx5 : Hd (RI w5 (.slice px XL cx) (intL X)) := ⟨Rw.below HR4.out intE_stays b5⟩
                          have HB5 := Hd.mk (HB4.out.trans (b5.mono HB4.out.size))
                          clear b5 HR4 HB4
                          go_wp2
                          exact ⟨⟨u + 1, X, px, XL, cx, hltu, by go_num, rfl, hXm, HXl, HOk3, HRx5, HB5⟩, hmu⟩
                      · have g2 : ((XL : Int) == (YL : Int)) = false := by simp; omega
                        have HOk3 : Hd (LpOk (LC arcs ws k (u + 1)) Y) := ⟨by
                          have := HOk2.out
                          rw [if_neg (by rw [better_gt hYn (by rw [HXl.out, HYl.out]; exact hxy) (by rw [HXl.out, HYl.out]; exact hxe)]; simp)] at this
                          exact this⟩
                        clear HOk HOk2 hYn hXn
                        go_wp2
                        exact ⟨⟨u + 1, Y, py, YL, cy, hltu, by go_num, rfl, hYm, HYl, HOk3, HRy4, HB4⟩, hmu⟩
          · have hd2 : decide ((u : Int) < (m : Int)) = false := decide_eq_false (by omega)
            have HOkm : Hd (LpOk (LC arcs ws k m) Y) := ⟨by rw [show m = u by omega]; exact HOk.out⟩
            rcases Nat.eq_zero_or_pos YL with hy0 | hy0
            · have HCl2 : Hd (∀ u, u < k + 1 → Clean m arcs u) := ⟨fun x hx => by
                rcases Nat.lt_or_ge x k with h | h
                · exact HCl.out x h
                · have : x = k := by omega
                  subst this
                  refine ⟨HSe.out, ?_⟩
                  rw [HWs.out]
                  rcases HOkm.out with ⟨_, h2⟩ | ⟨h1, _⟩
                  · exact h2
                  · exact absurd (List.eq_nil_of_length_eq_zero (by rw [HYl.out]; exact hy0)) h1⟩
              subst hy0
              clear HCl HOk HOkm
              go_wp2
              exact ⟨⟨k + 1, hlt, by go_num, HCl2, HB⟩, hmk⟩
            · have gy : decide ((0 : Int) < (YL : Int)) = true := decide_eq_true (by omega)
              have HRe : Hd (RI wr (.slice py YL cy) (loopQ (m : Int) arcs)) := ⟨by
                have hYn : Y ≠ [] := fun h => by have := HYl.out; rw [h] at this; simp at this; omega
                have h := HOkm.out
                rw [← HWs.out] at h
                rw [HQ.out, loop_best HRb.out hlt HSe.out HCl.out h hYn]
                exact HRy.out⟩
              clear HCl HOk HOkm HRy
              go_wp2
              go_ret
              exact ⟨_, rfl, HRe.out, HB.out⟩
      · rw [hs] at HH1
        have HRe : Hd (RI (wr.alloc (.cells #[.int .i64 (k : Int)] 3)) (.slice (some ⟨wr.heap.size, 0, none⟩) 1 1) (loopQ (m : Int) arcs)) := ⟨by
          rw [HQ.out, loop_self HRb.out hlt hs HCl.out]
          exact Rw.ints (ks := [(k : Int)]) (Blk.new wr 3 [.int .i64 (k : Int)])⟩
        have HBa : Hd (Below w.heap.size w (wr.alloc (.cells #[.int .i64 (k : Int)] 3))) := ⟨up HB.out _⟩
        clear hs HCl
        go_wp2_with fail
        refine HH1.out.mono ?_
        rintro e w2 ⟨rfl, rfl⟩
        go_wp2
        go_ret
        exact ⟨_, rfl, HRe.out, HBa.out⟩
    · have hd1 : decide ((k : Int) < (m : Int)) = false := decide_eq_false (by omega)
      have HE : Hd (loopQ (m : Int) arcs = []) := ⟨by rw [HQ.out, loop_clean HRb.out (fun u hu => HCl.out u (by omega))]; rfl⟩
      clear HCl
      go_wp2
      go_ret
      exact ⟨_, rfl, by rw [HE.out]; exact Rw.nil _, HB.out⟩

end Go.Proofs.Ytlncfhkmjbempaa.W
