/-
  graph.Reach, Way.
-/
import Derived.Test.YtlncfhkmjbempaaTr
namespace Go.Proofs.Ytlncfhkmjbempaa.W
open Go.RowKit
set_option linter.unusedVariables false

def reachL (n : Nat) (arcs : List Arc) (roots : List Int) : List Nat := (List.range n).filter fun v => (Tj.heads (wavesOf n arcs roots)).contains v
def reachN (n : Nat) (ws : List (List Nat)) (k : Nat) : List Nat := (List.range k).filter fun v => (Tj.heads ws).contains v
theorem reachN_succ (n : Nat) (ws : List (List Nat)) (k : Nat) : reachN n ws (k + 1) = if (Tj.heads ws).contains k = true then reachN n ws k ++ [k] else reachN n ws k := by
  unfold reachN
  rw [List.range_succ, List.filter_append, List.filter_cons]
  split <;> simp
theorem reachN_len (n : Nat) (ws : List (List Nat)) (k : Nat) : (reachN n ws k).length ≤ k := Nat.le_trans (List.length_filter_le _ _) (by simp)
def wayI (n : Nat) (arcs : List Arc) (roots : List Int) (to : Int) : List Nat := if 0 ≤ to ∧ to < (n : Int) then Tj.wayL (wavesOf n arcs roots) to.toNat else []

set_option maxRecDepth 100000 in
theorem reach_no (w : World) (n : Int) (v rv : Value) (arcs : List Arc) (hR : Rw 2 Arc.E w v arcs) (hl : lenR arcs.length) (hr : rightB n arcs = false) :
    Calls Try.prog 18 #[.int .i64 n, v, rv] w fun e w' => e = .returned (.slice none 0 0) ∧ Below w.heap.size w w' := by
  have HC := Hd.mk (gright_any w n v arcs hR hl)
  have HR := Hd.mk hr
  clear hR hl hr
  go_enter Try.func18, Try.ntmps18
  go_wp2_with fail
  refine HC.out.mono ?_
  rintro e w1 ⟨rfl, b1⟩
  have HB := Hd.mk b1
  rw [HR.out]
  clear b1 HC
  go_wp2
  go_ret
  exact ⟨rfl, HB.out⟩

set_option maxHeartbeats 4000000 in
set_option maxRecDepth 100000 in
theorem reach_any (w : World) (n : Nat) (hn : n ≤ 1000) (v rv : Value) (arcs : List Arc) (roots : List Int) (hR : Rw 2 Arc.E w v arcs) (hl : arcs.length ≤ 1000000) (hr : rightB (n : Int) arcs = true) (hRr : Rw 1 intE w rv roots) (hrl : roots.length ≤ 1000000) :
    Calls Try.prog 18 #[.int .i64 n, v, rv] w fun e w' => ∃ v', e = .returned v' ∧ Own w' w.heap.size 3 v' (intC (reachL n arcs roots)) ∧ Below w.heap.size w w' := by
  have HC := Hd.mk (gright_any w n v arcs hR (by unfold lenR; omega))
  have HS := Hd.mk (fun (w' : World) (hb : Below w.heap.size w w') => search_any w' n hn v rv arcs roots (hR.below Arc.stays hb) hl hr (hRr.below intE_stays hb) hrl)
  have HR := Hd.mk hr
  obtain ⟨ws, hws⟩ : ∃ ws, wavesOf n arcs roots = ws := ⟨_, rfl⟩
  have hrs : reachL n arcs roots = reachN n ws n := by unfold reachL reachN; rw [hws]
  rw [hws] at HS
  rw [hrs]
  clear hR hl hr hRr hrl hws hrs
  go_enter Try.func18, Try.ntmps18
  go_wp2_with fail
  refine HC.out.mono ?_
  rintro e w1 ⟨rfl, b1⟩
  have HB := Hd.mk b1
  rw [HR.out]
  clear b1 HC
  go_wp2_with fail
  refine (HS.out w1 HB.out).mono ?_
  rintro e w2 ⟨bv, rfl, hbo, hb2⟩
  obtain ⟨pb, cb, hbv⟩ := hbo.slice'
  rw [befC_len] at hbv
  subst hbv
  have HBo := Hd.mk (hbo.down HB.out.size)
  have HB2 := Hd.mk (HB.out.trans (hb2.mono HB.out.size))
  have HSep : Hd (Sep w2 [oI w.heap.size 3 (.slice pb n cb) (befC n ws), oI w.heap.size 3 (.slice none 0 0) (intC (reachN n ws 0))]) := ⟨⟨fun _ => 0, fun t A ht => by
    rcases t with _ | _ | t
    · cases ht; exact ⟨hbo.down HB.out.size, fun _ _ => rfl⟩
    · cases ht; exact ⟨Own.nil _ _ _, fun g hg => by cases hg⟩
    · simp at ht⟩⟩
  clear hbo hb2 HS HBo
  go_wp2
  go_loopw [19, 7] (fun iv ov wr => ∃ k : Nat, k ≤ n ∧ iv = .int .i64 (k : Int) ∧ Hd (Below w.heap.size w wr) ∧ Hd (Sep wr [oI w.heap.size 3 (.slice pb n cb) (befC n ws), oI w.heap.size 3 ov (intC (reachN n ws k))])) (fun iv _ _ => n - (intOf iv).toNat)
  case atStart => exact ⟨0, Nat.zero_le _, rfl, HB2, HSep⟩
  case round =>
    clear HB2 HSep
    obtain ⟨k, hk, rfl, HK, HM⟩ := hrel
    by_cases hlt : k < n
    · have hd1 : decide ((k : Int) < (n : Int)) = true := by simp; omega
      have hmk : n - (intOf (.int .i64 ((k : Int) + 1))).toNat < n - (intOf (.int .i64 (k : Int))).toNat := by simp [intOf]; omega
      obtain ⟨gb, hgb⟩ : ∃ gb, pb = some ⟨gb, 0, none⟩ := by
        obtain ⟨g, c, e⟩ := (HM.out.own 0 rfl).slice (by rw [befC_len]; omega)
        injection e with e _ _
        exact ⟨g, e⟩
      subst hgb
      have cx := ((HM.out.own 0 rfl).at (befC_at (ws := ws) hlt)).1
      obtain ⟨c, hc⟩ : ∃ c, befI ws k = c := ⟨_, rfl⟩
      rw [hc] at cx
      have hneg := befI_neg (ws := ws) (u := k)
      rw [hc] at hneg
      have hsucc := reachN_succ n ws k
      clear hc
      by_cases h0 : 0 ≤ c
      · have ht : decide ((0 : Int) ≤ c) = true := by simpa using h0
        have hm : (Tj.heads ws).contains k = true := List.contains_iff_mem.2 (Decidable.byContradiction fun h => by have := hneg.2 h; omega)
        rw [if_pos hm] at hsucc
        have HSu := Hd.mk hsucc
        have HLn := Hd.mk (reachN_len n ws k)
        have HWo := Hd.mk (HM.out.own 1 rfl)
        obtain ⟨i0, hi0, hz0, hz1, hz2⟩ := info_parts infoInt
        have HI0 := Hd.mk (And.intro hi0 (And.intro hz0 (And.intro hz1 hz2)))
        clear hi0 hz0 hz1 hz2 hm hsucc hneg
        go_wp2_with (at_builtin; refine wp_app1 rfl _ _ 23 rfl 3 Try.underlying23 HI0.out.1 HI0.out.2.1 HI0.out.2.2.1 HI0.out.2.2.2 rfl u7 (intC (reachN n ws k)) _ wr rfl HWo.out rfl rfl (by have := HLn.out; simp only [intC, List.length_map]; unfold maxLen; omega) (by have := HLn.out; simp only [intC, List.length_map]; omega) HK.out.size ?_)
        intro ov7 w7 h1 h2 h3
        have hS7 := HM.out.put_own 1 rfl h2 h1 (h3.imp_right .inr)
        have HS7 : Hd (Sep w7 [oI w.heap.size 3 (.slice (some ⟨gb, 0, none⟩) n cb) (befC n ws), oI w.heap.size 3 ov7 (intC (reachN n ws (k + 1)))]) := ⟨by
          rw [HSu.out, show intC (reachN n ws k ++ [k]) = intC (reachN n ws k) ++ [.int .i64 (k : Int)] by simp [intC]]
          exact hS7⟩
        have HB7 : Hd (Below w.heap.size w w7) := ⟨HK.out.trans (h2.below HK.out.size (fun g hg hr => by have := (HWo.out.lt hr).1; omega))⟩
        clear h1 h2 h3 hS7
        go_wp2_with fail
        exact ⟨⟨k + 1, hlt, by go_num, HB7, HS7⟩, hmk⟩
      · have ht : decide ((0 : Int) ≤ c) = false := by simpa using h0
        have hm : ¬ (Tj.heads ws).contains k = true := fun h => hneg.1 (by omega) (List.contains_iff_mem.1 h)
        rw [if_neg hm] at hsucc
        rw [← hsucc] at HM
        clear hm hsucc hneg
        go_wp2
        exact ⟨⟨k + 1, hlt, by go_num, HK, HM⟩, hmk⟩
    · have hd1 : decide ((k : Int) < (n : Int)) = false := by simp; omega
      have hkn : k = n := by omega
      have HMo := HM.out.own 1 rfl
      rw [hkn] at HMo
      have HMo2 := Hd.mk HMo
      clear HMo hkn
      go_wp2
      go_ret
      exact ⟨_, rfl, HMo2.out, HK.out⟩

set_option maxRecDepth 100000 in
theorem way_no (w : World) (n : Int) (v rv : Value) (arcs : List Arc) (to : Int) (hR : Rw 2 Arc.E w v arcs) (hl : lenR arcs.length) (hr : (rightB n arcs && decide (0 ≤ to) && decide (to < n)) = false) :
    Calls Try.prog 20 #[.int .i64 n, v, rv, .int .i64 to] w fun e w' => e = .returned (.slice none 0 0) ∧ Below w.heap.size w w' := by
  have HC := Hd.mk (gright_any w n v arcs hR hl)
  clear hR hl
  rcases hb : rightB n arcs with _ | _
  · have HR := Hd.mk hb
    clear hb hr
    go_enter Try.func20, Try.ntmps20
    go_wp2_with fail
    refine HC.out.mono ?_
    rintro e w1 ⟨rfl, b1⟩
    have HB := Hd.mk b1
    rw [HR.out]
    clear b1 HC
    go_wp2
    go_ret
    exact ⟨rfl, HB.out⟩
  · have HR := Hd.mk hb
    rw [hb] at hr
    clear hb
    by_cases h0 : to < 0
    · have h1 : decide (to < 0) = true := by simpa using h0
      clear hr
      go_enter Try.func20, Try.ntmps20
      go_wp2_with fail
      refine HC.out.mono ?_
      rintro e w1 ⟨rfl, b1⟩
      have HB := Hd.mk b1
      rw [HR.out]
      clear b1 HC
      go_wp2
      go_ret
      exact ⟨rfl, HB.out⟩
    · have h1 : decide (to < 0) = false := by simpa using h0
      have h2 : n ≤ to := by
        rcases Int.lt_or_le to n with h | h
        · rw [show decide (0 ≤ to) = true by simp; omega, show decide (to < n) = true by simpa using h] at hr
          cases hr
        · exact h
      have h3 : decide (n ≤ to) = true := by simpa using h2
      clear hr
      go_enter Try.func20, Try.ntmps20
      go_wp2_with fail
      refine HC.out.mono ?_
      rintro e w1 ⟨rfl, b1⟩
      have HB := Hd.mk b1
      rw [HR.out]
      clear b1 HC
      go_wp2
      go_ret
      exact ⟨rfl, HB.out⟩

set_option maxHeartbeats 4000000 in
set_option maxRecDepth 100000 in
theorem way_any (w : World) (n : Nat) (hn : n ≤ 1000) (v rv : Value) (arcs : List Arc) (roots : List Int) (to : Nat) (hto : to < n) (hR : Rw 2 Arc.E w v arcs) (hl : arcs.length ≤ 1000000) (hr : rightB (n : Int) arcs = true) (hRr : Rw 1 intE w rv roots) (hrl : roots.length ≤ 1000000) :
    Calls Try.prog 20 #[.int .i64 n, v, rv, .int .i64 to] w fun e w' => ∃ v', e = .returned v' ∧ Own w' w.heap.size 3 v' (intC (Tj.wayL (wavesOf n arcs roots) to)) ∧ Below w.heap.size w w' := by
  have HC := Hd.mk (gright_any w n v arcs hR (by unfold lenR; omega))
  have HS := Hd.mk (fun (w' : World) (hb : Below w.heap.size w w') => search_any w' n hn v rv arcs roots (hR.below Arc.stays hb) hl hr (hRr.below intE_stays hb) hrl)
  have HT := Hd.mk (fun (w' : World) (B : Nat) (bv : Value) (hO : Own w' B 3 bv (befC n (wavesOf n arcs roots))) => track_any w' B n to bv (wavesOf n arcs roots) hO (WsOK.of (waves_ok n arcs roots)) hto hn)
  have HR := Hd.mk hr
  have h1 : decide ((to : Int) < 0) = false := by simp
  have h2 : decide ((n : Int) ≤ (to : Int)) = false := by simp; omega
  clear hR hl hr hRr hrl
  go_enter Try.func20, Try.ntmps20
  go_wp2_with fail
  refine HC.out.mono ?_
  rintro e w1 ⟨rfl, b1⟩
  have HB := Hd.mk b1
  rw [HR.out]
  clear b1 HC
  go_wp2_with fail
  refine (HS.out w1 HB.out).mono ?_
  rintro e w2 ⟨bv, rfl, hbo, hb2⟩
  have HB2 := Hd.mk (HB.out.trans (hb2.mono HB.out.size))
  have HT2 := Hd.mk (HT.out w2 w1.heap.size bv hbo)
  clear hbo hb2 HS HT
  go_wp2_with fail
  refine HT2.out.mono ?_
  rintro e w3 ⟨tv, rfl, hto3, _, hb3⟩
  have HO3 := Hd.mk (hto3.down HB2.out.size)
  have HB3 := Hd.mk (HB2.out.trans (hb3.mono HB2.out.size))
  clear hto3 hb3 HT2
  go_wp2
  go_ret
  exact ⟨_, rfl, HO3.out, HB3.out⟩

end Go.Proofs.Ytlncfhkmjbempaa.W
