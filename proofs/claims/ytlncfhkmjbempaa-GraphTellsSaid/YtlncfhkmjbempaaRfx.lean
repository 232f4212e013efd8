/-
  The reference's Way; the plain law of its Loop.
-/
import Derived.Test.YtlncfhkmjbempaaRfw
namespace Go.Proofs.Ytlncfhkmjbempaa.W
open Go.RowKit
set_option linter.unusedVariables false

set_option maxHeartbeats 4000000 in
set_option maxRecDepth 100000 in
theorem rway_any (w : World) (n : Int) (hn : n ≤ 1000) (v rv : Value) (arcs : List Arc) (roots : List Int) (to : Int) (hR : Rw 2 Arc.E w v arcs) (hl : arcs.length ≤ 1000000) (hRr : RI w rv roots) (hrl : roots.length ≤ 1000000) :
    Calls Try.prog 21 #[.int .i64 n, v, rv, .int .i64 to] w fun e w' => ∃ v', e = .returned v' ∧ RI w' v' (wayQ n arcs roots to) ∧ Below w.heap.size w w' := by
  obtain ⟨p, c, hv⟩ := hR.slice
  obtain ⟨q, d, hrv⟩ := Rw.slice hRr
  obtain ⟨M, hM⟩ : ∃ M, arcs.length = M := ⟨_, rfl⟩
  obtain ⟨K, hK⟩ : ∃ K, roots.length = K := ⟨_, rfl⟩
  rw [hM] at hv
  rw [hK] at hrv
  subst hv hrv
  have HC := Hd.mk (rright_any w n (.slice p M c) arcs hR hl)
  have H := Hd.mk hR
  have HRr := Hd.mk hRr
  have HN := Hd.mk (And.intro hM hK)
  have hMb : M ≤ 1000000 := by omega
  have hKb : K ≤ 1000000 := by omega
  have HQ : Hd ((rightB n arcs && decide (0 ≤ to) && decide (to < n)) = false → wayQ n arcs roots to = []) := ⟨fun h => by unfold wayQ; rw [h]; rfl⟩
  clear hR hRr hM hK
  rcases hrb : rightB n arcs with _ | _
  · rw [hrb] at HC HQ
    clear hrb hl hrl
    go_enter Try.func21, Try.ntmps21
    go_wp2_with fail
    refine HC.out.mono ?_
    rintro e w1 ⟨rfl, rfl⟩
    go_wp2
    go_ret
    exact ⟨_, rfl, by rw [HQ.out rfl]; exact Rw.nil _, Below.refl _ _⟩
  rw [hrb] at HC HQ
  by_cases h0 : to < 0
  · have g0 : decide (to < 0) = true := decide_eq_true h0
    have HQ2 := Hd.mk (HQ.out (by rw [decide_eq_false (show ¬ 0 ≤ to by omega)]; rfl))
    clear hrb hl hrl HQ
    go_enter Try.func21, Try.ntmps21
    go_wp2_with fail
    refine HC.out.mono ?_
    rintro e w1 ⟨rfl, rfl⟩
    go_wp2
    go_ret
    exact ⟨_, rfl, by rw [HQ2.out]; exact Rw.nil _, Below.refl _ _⟩
  have g0 : decide (to < 0) = false := decide_eq_false h0
  by_cases h1 : n ≤ to
  · have g1 : decide (n ≤ to) = true := decide_eq_true h1
    have HQ2 := Hd.mk (HQ.out (by rw [decide_eq_false (show ¬ to < n by omega), Bool.and_false]))
    clear hrb hl hrl HQ
    go_enter Try.func21, Try.ntmps21
    go_wp2_with fail
    refine HC.out.mono ?_
    rintro e w1 ⟨rfl, rfl⟩
    go_wp2
    go_ret
    exact ⟨_, rfl, by rw [HQ2.out]; exact Rw.nil _, Below.refl _ _⟩
  obtain ⟨m, rfl⟩ := nat_of (right_is hrb).1
  obtain ⟨t, rfl⟩ := nat_of (show 0 ≤ to by omega)
  have htm : t < m := by omega
  have g1 : decide ((m : Int) ≤ (t : Int)) = false := decide_eq_false h1
  have hm : m ≤ 1000 := by omega
  have HWy : Hd (wayQ (m : Int) arcs roots (t : Int) = intL (Tj.wayL (wavesOf m arcs roots) t)) := ⟨by unfold wayQ; rw [hrb, decide_eq_true (show (0 : Int) ≤ (t : Int) by omega), decide_eq_true (show (t : Int) < (m : Int) by omega)]; rfl⟩
  have HWs := Hd.mk (fun (w' : World) (hb : Below w.heap.size w w') (bv : Value) (hB : Rw 1 rowE w' bv ((rtsOf m roots).map fun (r : Nat) => [(r : Int)])) => rways_any w' m hm (.slice p M c) bv arcs (rtsOf m roots) (rtsOf m (norm roots)) (wavesOf m arcs roots) (H.out.below Arc.stays hb) hl hrb hB (by
    unfold rtsOf
    rw [List.length_map]
    exact Nat.le_trans (List.length_filter_le _ _) hrl) (waves_ok m arcs roots) (fun u => by rw [mem_rtsOf, mem_rtsOf, (norm_sorted roots).2]) (fun u h => (mem_rtsOf.1 h).1))
  clear hrb hl hrl HQ h0 h1
  go_enter Try.func21, Try.ntmps21
  go_wp2_with fail
  refine HC.out.mono ?_
  rintro e w1 ⟨rfl, rfl⟩
  clear HC
  go_upto_region 3 with (fail)
  go_cut [9] from 11 (fun s9 wx => s9 = .slice none 0 0 ∧ w = wx)
  case first =>
    go_wp2
    go_meet
    exact ⟨rfl, rfl⟩
  case rest =>
  obtain ⟨rfl, rfl⟩ := hcut
  go_step
  go_step
  go_cut [9] from 11 (fun s9 wx => Hd (Rw 1 rowE wx s9 ((rtsOf m roots).map fun (r : Nat) => [(r : Int)])) ∧ Hd (Below w.heap.size w wx))
  case first =>
    go_wp2
    go_loopw [10, 9] (fun iv bv wr => ∃ (i : Nat) (vs : List Value), i ≤ K ∧ iv = .int .i64 (i : Int) ∧ Hd (RowsO wr w.heap.size bv vs ((rtsOf m (roots.take i)).map fun (r : Nat) => [(r : Int)])) ∧ Hd (Below w.heap.size w wr)) (fun iv _ _ => K - (intOf iv).toNat)
    case atStart => exact ⟨0, [], Nat.zero_le _, rfl, ⟨RowsO.nil _ _⟩, ⟨Below.refl _ _⟩⟩
    case round =>
      obtain ⟨i, vs, hi, rfl, HO, HB⟩ := hrel
      by_cases hlt : i < K
      · have hd1 : decide ((i : Int) < (K : Int)) = true := decide_eq_true (by omega)
        have hmi : K - (intOf (.int .i64 ((i : Int) + 1))).toNat < K - (intOf (.int .i64 (i : Int))).toNat := by simp [intOf]; omega
        have hiq : i < roots.length := by rw [HN.out.2]; exact hlt
        obtain ⟨gr, o, e2, hE⟩ := RI.ever HRr.out (by omega)
        subst e2
        have ck := hE i hiq wr HB.out
        have hst := rtsOf_step (n := m) hiq
        obtain ⟨x, hx⟩ : ∃ x, roots[i] = x := ⟨_, rfl⟩
        rw [hx] at ck hst
        have HSt := Hd.mk hst
        clear hE hx hiq hst
        by_cases h0 : 0 ≤ x
        · have k1 : decide (0 ≤ x) = true := decide_eq_true h0
          by_cases h1 : x < (m : Int)
          · have k2 : decide (x < (m : Int)) = true := decide_eq_true h1
            obtain ⟨k, rfl⟩ := nat_of h0
            have HSt2 : Hd (rtsOf m (roots.take (i + 1)) = rtsOf m (roots.take i) ++ [k]) := ⟨by rw [HSt.out, if_pos ⟨h0, h1⟩, show ((k : Int)).toNat = k by omega]⟩
            have hsz : (wr.alloc (.cells #[.int .i64 (k : Int)] 3)).heap.size = wr.heap.size + 1 := by simp
            have hb2 : Below wr.heap.size wr ((wr.alloc (.cells #[.int .i64 (k : Int)] 3)).alloc (.cells #[.slice (some ⟨wr.heap.size, 0, none⟩) 1 1] 23)) := up (below_al wr _) _
            have hOa := HO.out.below hb2
            have hU : Own ((wr.alloc (.cells #[.int .i64 (k : Int)] 3)).alloc (.cells #[.slice (some ⟨wr.heap.size, 0, none⟩) 1 1] 23)) w.heap.size 3 (.slice (some ⟨wr.heap.size, 0, none⟩) 1 1) (ints [(k : Int)]) := (Own.made (e := 3) (w := wr) (B := w.heap.size) HB.out.size [.int .i64 (k : Int)] (by simp [maxLen])).alloc _
            have hbk := Blk.new (wr.alloc (.cells #[.int .i64 (k : Int)] 3)) 23 [.slice (some ⟨wr.heap.size, 0, none⟩) 1 1]
            rw [hsz] at hbk
            have HVl : Hd (vs.length ≤ 1000000) := ⟨by
              have h1 := HO.out.len
              rw [List.length_map] at h1
              rw [h1]
              unfold rtsOf
              rw [List.length_map]
              refine Nat.le_trans (List.length_filter_le _ _) ?_
              rw [List.length_take]
              omega⟩
            have hB2 := HB.out.trans (hb2.mono HB.out.size)
            obtain ⟨i0, hi0, hz0, hz1, hz2⟩ := info_parts infoInts
            obtain ⟨bv7, w7, hrun, h1, h2, h3⟩ := run_app (P := Try.prog) ((wr.alloc (.cells #[.int .i64 (k : Int)] 3)).alloc (.cells #[.slice (some ⟨wr.heap.size, 0, none⟩) 1 1] 23)) 28 28 23 Try.underlying28 hi0 hz0 hz1 hz2 rfl u9 vs [.slice (some ⟨wr.heap.size, 0, none⟩) 1 1] hOa.own (wr.heap.size + 1) 1 (fun j u hj => hbk.at hj) (fun u hu => by simp at hu; subst hu; rfl) (by have := HVl.out; simp only [List.length_singleton]; unfold maxLen; omega) (by have := HVl.out; simp only [List.length_singleton]; omega) hB2.size
            have hpu := hOa.push (w' := w7) (v' := bv7) hU (fun g hr hg => by
              have h4 := (rowsK_lt HO.out hr).2
              have : wr.heap.size = g := by simpa [Value.ownBlock] using hg
              omega) h1 h2 (h3.imp_right (fun h => ⟨_, Nat.le_refl _, h⟩))
            have HO7 : Hd (RowsO w7 w.heap.size bv7 (vs ++ [.slice (some ⟨wr.heap.size, 0, none⟩) 1 1]) ((rtsOf m (roots.take (i + 1))).map fun (r : Nat) => [(r : Int)])) := ⟨by
              rw [HSt2.out, List.map_append]
              exact hpu.1⟩
            have HB7 : Hd (Below w.heap.size w w7) := ⟨hB2.trans (h2.below hB2.size (fun g hg hr => by have := (hOa.own.lt hr).1; omega))⟩
            have HRun := Hd.mk hrun
            clear hi0 hz0 hz1 hz2 hOa hU HSt hsz hb2 hbk hB2 hrun h1 h2 h3 hpu HO HB
            go_wp2_with (at_builtin; refine wp_append_run (vs := u9) (vx := .slice (some ⟨wr.heap.size + 1, 0, none⟩) 1 1) (W := (wr.alloc (.cells #[.int .i64 (k : Int)] 3)).alloc (.cells #[.slice (some ⟨wr.heap.size, 0, none⟩) 1 1] 23)) rfl (Operand.tmp 43) (Operand.tmp 49) 28 rfl rfl rfl HRun.out ?_)
            exact ⟨⟨i + 1, _, hlt, by go_num, HO7, HB7⟩, hmi⟩
          · have k2 : decide (x < (m : Int)) = false := decide_eq_false h1
            have HO2 : Hd (RowsO wr w.heap.size u9 vs ((rtsOf m (roots.take (i + 1))).map fun (r : Nat) => [(r : Int)])) := ⟨by rw [HSt.out, if_neg (fun h => h1 h.2)]; exact HO.out⟩
            clear HO HSt
            go_wp2
            exact ⟨⟨i + 1, vs, hlt, by go_num, HO2, HB⟩, hmi⟩
        · have k1 : decide (0 ≤ x) = false := decide_eq_false h0
          have HO2 : Hd (RowsO wr w.heap.size u9 vs ((rtsOf m (roots.take (i + 1))).map fun (r : Nat) => [(r : Int)])) := ⟨by rw [HSt.out, if_neg (fun h => h0 h.1)]; exact HO.out⟩
          clear HO HSt
          go_wp2
          exact ⟨⟨i + 1, vs, hlt, by go_num, HO2, HB⟩, hmi⟩
      · have hd1 : decide ((i : Int) < (K : Int)) = false := decide_eq_false (by omega)
        have HRe : Hd (Rw 1 rowE wr u9 ((rtsOf m roots).map fun (r : Nat) => [(r : Int)])) := ⟨by
          have := HO.out
          rw [List.take_of_length_le (by rw [HN.out.2]; omega)] at this
          exact RR.of this⟩
        clear HO
        go_wp2
        go_meet
        exact ⟨HRe, HB⟩
  case rest =>
  obtain ⟨HRe, HB⟩ := hcut
  have HW1 := Hd.mk (HWs.out _ HB.out _ HRe.out)
  clear HWs HRe
  go_wp2_with fail
  refine HW1.out.mono ?_
  rintro e w5 ⟨g, rfl, hT, b5⟩
  obtain ⟨ev, ce, ze, hE⟩ := hT.at htm
  have HR5 : Hd (RI w5 ev (wayQ (m : Int) arcs roots (t : Int))) := ⟨by rw [HWy.out]; exact hE.ri⟩
  have HB5 := Hd.mk (HB.out.trans (b5.mono HB.out.size))
  clear hT b5 hE ze HW1
  have hti : (t : Int) < (m : Int) := by omega
  go_wp2
  go_ret
  exact ⟨_, rfl, HR5.out, HB5.out⟩

-- Loop, in plain words
section
variable {n : Nat} {arcs : List Arc}
/-- the ways back that are weighed at v, by the nodes before k -/
def LC (arcs : List Arc) (ws : List (List Nat)) (v k : Nat) (c : List Nat) : Prop := c ≠ [] ∧ ∃ u : Nat, u < k ∧ u ≠ v ∧ arcI arcs (u : Int) (v : Int) = true ∧ c = Tj.wayL ws u
def Clean (n : Nat) (arcs : List Arc) (v : Nat) : Prop := arcI arcs (v : Int) (v : Int) = false ∧ ∀ c, ¬ LC arcs (wavesOf n arcs [(v : Int)]) v n c
theorem way_ne {v u : Nat} (hv : v < n) : Tj.wayL (wavesOf n arcs [(v : Int)]) u ≠ [] ↔ Tj.Rch (nx n arcs) v u := by
  have hW := waves_ok n arcs [(v : Int)]
  constructor
  · intro h
    have hm : u ∈ Tj.heads (wavesOf n arcs [(v : Int)]) := Decidable.byContradiction fun hn => h (Tj.wayL_none hn)
    obtain ⟨r, h1, h2⟩ := hW.reach.1 hm
    have := (mem_rts.1 h1).2
    have e : r = v := by simp at this; omega
    exact e ▸ h2
  · intro h
    obtain ⟨l, h1, h2⟩ := Tj.mem_heads.1 (hW.reach.2 ⟨v, mem_rts.2 ⟨hv, by simp⟩, h⟩)
    rw [← h2, hW.find h1]
    obtain ⟨q, e⟩ := (hW.way h1).ne
    rw [e]; simp
theorem least_dirty (hr : rightB (n : Int) arcs = true) (hne : leastL n arcs ≠ (n : Int)) : ∃ u : Nat, leastL n arcs = (u : Int) ∧ u < n ∧ ¬ Clean n arcs u := by
  obtain ⟨u, h1, h2, z, h3, h4, h5⟩ := least_cand hr hne
  refine ⟨u, h1, h2, fun hc => ?_⟩
  by_cases e : z = u
  · subst e
    rw [hc.1] at h5; cases h5
  · exact hc.2 _ ⟨(way_ne h2).2 h4, z, h3, e, h5, rfl⟩
theorem two_mem {p : List Nat} {a b : Nat} (ha : a ∈ p) (hb : b ∈ p) (h : a ≠ b) : 1 < p.length := by
  match p, ha, hb with
  | [x], ha, hb => simp at ha hb; omega
  | x :: y :: r, _, _ => simp
theorem dirty_le (hr : rightB (n : Int) arcs = true) {v : Nat} (hv : v < n) (h : ¬ Clean n arcs v) : leastL n arcs ≤ (v : Int) := by
  obtain ⟨p, hp, hvp⟩ := (pgd (n := n) (arcs := arcs)).all v hv
  refine ((leastL_iff hr (leastL n arcs)).1 (Int.le_refl _)).2 p hp v hvp ?_
  rcases hs : arcI arcs (v : Int) (v : Int) with _ | _
  · left
    have hex : ∃ c, LC arcs (wavesOf n arcs [(v : Int)]) v n c := Classical.byContradiction fun hno => h ⟨hs, fun c hc => hno ⟨c, hc⟩⟩
    obtain ⟨c, hc, u, hu, huv, ha, e⟩ := hex
    have hvu := (way_ne hv).1 (by rw [← e]; exact hc)
    have huv' : Tj.Rch (nx n arcs) u v := .one ((arc_nx hv).1 ha)
    obtain ⟨c', hc', _, rfl⟩ := (parts_ps (n := n) (arcs := arcs)).cls p hp
    obtain ⟨_, r1, r2⟩ := Tj.mem_partB.1 hvp
    have hup : u ∈ Tj.partB n (reachR n arcs) c' := Tj.mem_partB.2 ⟨hu, (reachR_iff hc').2 (((reachR_iff hc').1 r1).trans hvu), (reachR_iff hu).2 (huv'.trans ((reachR_iff hv).1 r2))⟩
    exact two_mem hup hvp huv
  · exact .inr hs
theorem least_at (hr : rightB (n : Int) arcs = true) {v : Nat} (hv : v < n) (h : ¬ Clean n arcs v) (hc : ∀ u, u < v → Clean n arcs u) : leastL n arcs = (v : Int) := by
  have h1 := dirty_le hr hv h
  obtain ⟨u, h2, h3, h4⟩ := least_dirty hr (by omega)
  rcases Nat.lt_or_ge u v with h5 | h5
  · exact absurd (hc u h5) h4
  · omega
theorem loop_clean (hr : rightB (n : Int) arcs = true) (h : ∀ u, u < n → Clean n arcs u) : loopL n arcs = [] := by
  have : leastL n arcs = (n : Int) := Decidable.byContradiction fun hne => by
    obtain ⟨u, _, h2, h3⟩ := least_dirty hr hne
    exact h3 (h u h2)
  unfold loopL
  rw [if_pos this]
theorem loop_is (hr : rightB (n : Int) arcs = true) {v : Nat} (hv : v < n) (h : leastL n arcs = (v : Int)) {Y : List Nat} (hY : LpOk (Cnd v (wavesOf n arcs [(v : Int)]) arcs) Y) : loopL n arcs = Y := by
  unfold loopL
  rw [if_neg (by omega), h, show ((v : Int)).toNat = v by omega]
  exact (lpC_is _ _ _).uniq hY
theorem loop_self (hr : rightB (n : Int) arcs = true) {v : Nat} (hv : v < n) (hs : arcI arcs (v : Int) (v : Int) = true) (hc : ∀ u, u < v → Clean n arcs u) : loopL n arcs = [v] := by
  have hW := waves_ok n arcs [(v : Int)]
  refine loop_is hr hv (least_at hr hv (fun h => by rw [h.1] at hs; cases hs) hc) ?_
  obtain ⟨a, ha, e1, e2⟩ := arcI_iff.1 hs
  have hroot : [v] ∈ wavesOf n arcs [(v : Int)] := by
    obtain ⟨i, _, hw⟩ := hW.all
    exact hw.roots v (mem_rts.2 ⟨hv, by simp⟩)
  have hwv : Tj.wayL (wavesOf n arcs [(v : Int)]) v = [v] := hW.find hroot
  refine .inr ⟨by simp, ⟨by simp, a, ha, e2, ?_⟩, fun c hc2 hsl => ?_⟩
  · rw [e1, show ((v : Int)).toNat = v by omega, hwv]
  · obtain ⟨h1, b, _, _, e⟩ := hc2
    have hm : b.f.toNat ∈ Tj.heads (wavesOf n arcs [(v : Int)]) := Decidable.byContradiction fun hn => h1 (by rw [e, Tj.wayL_none hn])
    obtain ⟨l, k1, k2⟩ := Tj.mem_heads.1 hm
    have hwl := hW.find k1
    rw [k2] at hwl
    rw [e, hwl, List.reverse_reverse] at hsl
    obtain ⟨q, hq⟩ := (hW.way k1).ne
    rcases hsl with h2 | ⟨h2, h3⟩
    · rw [hq] at h2; simp at h2
    · rw [hq] at h2
      have hq0 : q = [] := by simpa using h2
      subst hq0
      have hwy := hW.way k1
      rw [hq, show Tj.headN [Tj.headN l] = Tj.headN l from rfl] at hwy
      have hv2 : Tj.headN l = v := by
        cases hwy with
        | root hx =>
          have := (mem_rts.1 hx).2
          simp at this; omega
        | tail hw _ => obtain ⟨_, e⟩ := hw.ne; cases e
      rw [hq, hv2] at h3
      exact Tj.ltR_irr _ h3
theorem loop_best (hr : rightB (n : Int) arcs = true) {v : Nat} (hv : v < n) (hs : arcI arcs (v : Int) (v : Int) = false) (hc : ∀ u, u < v → Clean n arcs u) {Y : List Nat} (hY : LpOk (LC arcs (wavesOf n arcs [(v : Int)]) v n) Y) (hne : Y ≠ []) : loopL n arcs = Y := by
  have hdirty : ¬ Clean n arcs v := fun h => by
    rcases hY with ⟨h1, _⟩ | ⟨_, h2, _⟩
    · exact hne h1
    · exact h.2 _ h2
  refine loop_is hr hv (least_at hr hv hdirty hc) (hY.congr (fun c => ?_))
  constructor
  · rintro ⟨h1, u, _, _, ha, e⟩
    obtain ⟨a, ha', e1, e2⟩ := arcI_iff.1 ha
    exact ⟨h1, a, ha', e2, by rw [e1, show ((u : Int)).toNat = u by omega]; exact e⟩
  · rintro ⟨h1, a, ha, e2, e⟩
    obtain ⟨⟨f1, f2⟩, _⟩ := (right_is hr).2.2 a ha
    obtain ⟨u, hu⟩ := nat_of f1
    rw [hu, show ((u : Int)).toNat = u by omega] at e
    have ha' : arcI arcs (u : Int) (v : Int) = true := arcI_iff.2 ⟨a, ha, hu, e2⟩
    have huv : u ≠ v := fun h => by
      rw [h, hs] at ha'
      cases ha'
    exact ⟨h1, u, by omega, huv, ha', e⟩
theorem lc_zero (ws : List (List Nat)) (v : Nat) (c : List Nat) : ¬ LC arcs ws v 0 c := fun h => by obtain ⟨_, u, h, _⟩ := h; exact absurd h (Nat.not_lt_zero _)
theorem lc_skip {ws : List (List Nat)} {v k : Nat} (h : ¬ (k ≠ v ∧ arcI arcs (k : Int) (v : Int) = true ∧ Tj.wayL ws k ≠ [])) (c : List Nat) : LC arcs ws v k c ↔ LC arcs ws v (k + 1) c := by
  constructor
  · rintro ⟨h1, u, h2, h3⟩
    exact ⟨h1, u, by omega, h3⟩
  · rintro ⟨h1, u, h2, h3, h4, h5⟩
    rcases Nat.lt_or_ge u k with h6 | h6
    · exact ⟨h1, u, h6, h3, h4, h5⟩
    · have : u = k := by omega
      subst this
      exact absurd ⟨h3, h4, h5 ▸ h1⟩ h
theorem lc_take {ws : List (List Nat)} {v k : Nat} (h1 : k ≠ v) (h2 : arcI arcs (k : Int) (v : Int) = true) (h3 : Tj.wayL ws k ≠ []) (c : List Nat) : LC arcs ws v (k + 1) c ↔ LC arcs ws v k c ∨ c = Tj.wayL ws k := by
  constructor
  · rintro ⟨k1, u, k2, k3, k4, k5⟩
    rcases Nat.lt_or_ge u k with h6 | h6
    · exact .inl ⟨k1, u, h6, k3, k4, k5⟩
    · have : u = k := by omega
      subst this
      exact .inr k5
  · rintro (⟨k1, u, k2, k3⟩ | rfl)
    · exact ⟨k1, u, by omega, k3⟩
    · exact ⟨h3, k, by omega, h1, h2, rfl⟩
end

end Go.Proofs.Ytlncfhkmjbempaa.W
