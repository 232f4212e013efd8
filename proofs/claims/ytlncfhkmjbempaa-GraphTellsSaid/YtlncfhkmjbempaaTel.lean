/-
  GraphTells.
-/
import Derived.Test.YtlncfhkmjbempaaRfy
import Derived.Test.YtlncfhkmjbempaaRfc
import Derived.Test.YtlncfhkmjbempaaArcA
namespace Go.Proofs.Ytlncfhkmjbempaa.W
open Go.RowKit
set_option linter.unusedVariables false

theorem partsQ_len2 {n : Int} (hn : n ≤ 14) {arcs : List Arc} : (partsQ n arcs).length ≤ 1000000 ∧ ∀ l ∈ partsQ n arcs, l.length ≤ 1000000 := by
  unfold partsQ
  rcases h : rightB n arcs with _ | _
  · exact ⟨by simp, fun l h => by cases h⟩
  · obtain ⟨m, rfl⟩ := nat_of (right_is h).1
    show ((partsG m arcs).map intL).length ≤ _ ∧ ∀ l ∈ (partsG m arcs).map intL, _
    refine ⟨by rw [List.length_map]; exact Nat.le_trans partsG_len (by omega), fun l hl => ?_⟩
    obtain ⟨p, hp, rfl⟩ := List.mem_map.1 hl
    rw [intL_len]
    exact Nat.le_trans (pgd.len p hp) (by omega)
theorem wayQ_len2 {n : Int} (hn : n ≤ 14) {arcs : List Arc} {roots : List Int} {to : Int} : (wayQ n arcs roots to).length ≤ 1000000 := by
  rcases h : rightB n arcs with _ | _
  · unfold wayQ; rw [h]; simp
  · obtain ⟨m, rfl⟩ := nat_of (right_is h).1
    exact Nat.le_trans (way_ok h).len (by omega)
theorem loopQ_len2 {n : Int} (hn : n ≤ 14) {arcs : List Arc} : (loopQ n arcs).length ≤ 1000000 := by
  rcases h : rightB n arcs with _ | _
  · unfold loopQ; rw [h]; simp
  · obtain ⟨m, rfl⟩ := nat_of (right_is h).1
    unfold loopQ
    rw [h]
    exact Nat.le_trans (loop_ok h).len (by omega)
theorem reachQ_len2 {n : Int} (hn : n ≤ 14) {arcs : List Arc} {roots : List Int} : (reachQ n arcs roots).length ≤ 1000000 := by
  unfold reachQ
  rcases h : rightB n arcs with _ | _
  · simp
  · obtain ⟨m, rfl⟩ := nat_of (right_is h).1
    show (intL (reachL m arcs roots)).length ≤ _
    rw [intL_len]
    exact Nat.le_trans (reachN_len m _ m) (by omega)

set_option maxHeartbeats 4000000 in
set_option maxRecDepth 100000 in
theorem tellslaw_any (w : World) (n : Int) (v : Value) (arcs : List Arc) (rv : Value) (roots : List Int) (to : Int) (hn : I64 n) (h1 : ArgArcs w v arcs) (h2 : ArgI w rv roots) (hto : I64 to) :
    Calls Try.prog 3 #[.int .i64 n, v, rv, .int .i64 to] w fun e w' => e = .returned (.bool true) ∧ Below w.heap.size w w' := by
  obtain ⟨p, c, hv⟩ := h1.row.slice
  obtain ⟨M, hM⟩ : ∃ M, arcs.length = M := ⟨_, rfl⟩
  rw [hM] at hv
  subst hv
  obtain ⟨q, d, hrv⟩ := Rw.slice h2.row
  obtain ⟨K, hK⟩ : ∃ K, roots.length = K := ⟨_, rfl⟩
  rw [hK] at hrv
  subst hrv
  have HRr := Hd.mk h2.row
  have HLr := Hd.mk hK
  have HL := Hd.mk hM
  have HR := Hd.mk h1.row
  have HS := Hd.mk (small_any w)
  have HI := Hd.mk hn
  clear h1 h2 hK hM hn hto
  go_enter Try.func3, Try.ntmps3
  go_wp2_with fail
  refine HS.out.mono ?_
  rintro e w1 ⟨rfl, b1⟩
  have HB := Hd.mk b1
  have HF := Hd.mk (few_any w1 n p q M K c d)
  clear b1 HS
  rcases hf : fewB n M K with _ | _
  · rw [hf] at HF
    clear hf
    go_wp2_with fail
    refine HF.out.mono ?_
    rintro e w2 ⟨rfl, rfl⟩
    go_wp2
    go_ret
    exact ⟨rfl, HB.out⟩
  · have hfb : n ≤ 14 ∧ M ≤ 60 ∧ K ≤ 20 := by
      simp only [fewB, Bool.and_eq_true, decide_eq_true_eq] at hf
      omega
    rw [hf] at HF
    clear hf
    go_wp2_with fail
    refine HF.out.mono ?_
    rintro e w2 ⟨rfl, rfl⟩
    clear HF
    have hn14 : n ≤ 14 := hfb.1
    have hn1000 : n ≤ 1000 := by omega
    have HRa : Hd (∀ w', Below w.heap.size w w' → Rw 2 Arc.E w' (.slice p M c) arcs) := ⟨fun w' hb => HR.out.below Arc.stays hb⟩
    have HRo : Hd (∀ w', Below w.heap.size w w' → RI w' (.slice q K d) roots) := ⟨fun w' hb => Rw.below HRr.out intE_stays hb⟩
    have HLs : Hd (arcs.length ≤ 1000000 ∧ roots.length ≤ 1000000) := ⟨by rw [HL.out, HLr.out]; omega⟩
    have HC1 := HB
    clear hfb HR HRr HB
    -- Right
    have HP2 := Hd.mk (gright_any w1 n (.slice p M c) arcs (HRa.out w1 HC1.out) (by unfold lenR; have := HLs.out.1; omega))
    obtain ⟨rb, hrb⟩ : ∃ b, rightB n arcs = b := ⟨_, rfl⟩
    rw [hrb] at HP2
    go_wp2_with fail
    refine HP2.out.mono ?_
    rintro e w2 ⟨rfl, b2⟩
    have HC2 := Hd.mk (HC1.out.trans (b2.mono HC1.out.size))
    have HP3 := Hd.mk (rright_any w2 n (.slice p M c) arcs (HRa.out w2 HC2.out) HLs.out.1)
    rw [hrb] at HP3
    clear b2 HP2 HC1 hrb
    have gb : (rb != rb) = false := by simp
    go_wp2_with fail
    refine HP3.out.mono ?_
    rintro e w3 ⟨rfl, rfl⟩
    clear HP3
    have HC3 := HC2
    -- Parts
    have HP4 := Hd.mk (parts_q w2 n hn14 (.slice p M c) arcs (HRa.out w2 HC3.out) HLs.out.1)
    go_wp2_with fail
    refine HP4.out.mono ?_
    rintro e w4 ⟨v4, rfl, o4, b4⟩
    have HC4 := Hd.mk (HC3.out.trans (b4.mono HC3.out.size))
    have HO4 := Hd.mk o4
    have HP5 := Hd.mk (rparts_any w4 n hn1000 (.slice p M c) arcs (HRa.out w4 HC4.out) HLs.out.1)
    clear o4 b4 HP4 HC3 HC2 gb
    go_wp2_with fail
    refine HP5.out.mono ?_
    rintro e w5 ⟨v5, rfl, o5, b5⟩
    have HC5 := Hd.mk (HC4.out.trans (b5.mono HC4.out.size))
    have hs5 := rsameL_any w5 v4 v5 _ _ (partsQ_len2 hn14 (arcs := arcs)).1 (partsQ_len2 hn14).2 (partsQ_len2 hn14).2 (partsQ_len2 hn14).1 (HO4.out.below rowE_stays b5) o5
    rw [decide_eq_true rfl] at hs5
    have HS5 := Hd.mk hs5
    clear hs5 o5 b5 HP5 HO4 HC4
    go_wp2_with fail
    refine HS5.out.mono ?_
    rintro e w6 ⟨rfl, b6⟩
    have HC6 := Hd.mk (HC5.out.trans (b6.mono HC5.out.size))
    clear b6 HS5 HC5
    -- Reach
    have HP7 := Hd.mk (reach_q w6 n hn14 (.slice p M c) (.slice q K d) arcs roots (HRa.out w6 HC6.out) HLs.out.1 (HRo.out w6 HC6.out) HLs.out.2)
    go_wp2_with fail
    refine HP7.out.mono ?_
    rintro e w7 ⟨v7, rfl, o7, b7⟩
    have HC7 := Hd.mk (HC6.out.trans (b7.mono HC6.out.size))
    have HO7 := Hd.mk o7
    have HP8 := Hd.mk (rreach_any w7 n hn1000 (.slice p M c) (.slice q K d) arcs roots (HRa.out w7 HC7.out) HLs.out.1 (HRo.out w7 HC7.out) HLs.out.2)
    clear o7 b7 HP7
    go_wp2_with fail
    refine HP8.out.mono ?_
    rintro e w8 ⟨v8, rfl, o8, b8⟩
    have HC8 := Hd.mk (HC7.out.trans (b8.mono HC7.out.size))
    have hs8 := rsame_any w8 v7 v8 _ _ (reachQ_len2 hn14) (reachQ_len2 hn14) (Rw.below HO7.out intE_stays b8) o8
    rw [decide_eq_true rfl] at hs8
    have HS8 := Hd.mk hs8
    clear hs8 o8 b8 HP8 HO7 HC7
    go_wp2_with fail
    refine HS8.out.mono ?_
    rintro e w9 ⟨rfl, b9⟩
    have HC9 := Hd.mk (HC8.out.trans (b9.mono HC8.out.size))
    clear b9 HS8 HC8
    -- Way
    have HP10 := Hd.mk (way_q w9 n hn14 (.slice p M c) (.slice q K d) arcs roots to (HRa.out w9 HC9.out) HLs.out.1 (HRo.out w9 HC9.out) HLs.out.2)
    go_wp2_with fail
    refine HP10.out.mono ?_
    rintro e w10 ⟨v10, rfl, o10, b10⟩
    have HC10 := Hd.mk (HC9.out.trans (b10.mono HC9.out.size))
    have HO10 := Hd.mk o10
    have HP11 := Hd.mk (rway_any w10 n hn1000 (.slice p M c) (.slice q K d) arcs roots to (HRa.out w10 HC10.out) HLs.out.1 (HRo.out w10 HC10.out) HLs.out.2)
    clear o10 b10 HP10
    go_wp2_with fail
    refine HP11.out.mono ?_
    rintro e w11 ⟨v11, rfl, o11, b11⟩
    have HC11 := Hd.mk (HC10.out.trans (b11.mono HC10.out.size))
    have hs11 := rsame_any w11 v10 v11 _ _ (wayQ_len2 hn14) (wayQ_len2 hn14) (Rw.below HO10.out intE_stays b11) o11
    rw [decide_eq_true rfl] at hs11
    have HS11 := Hd.mk hs11
    clear hs11 o11 b11 HP11 HO10 HC10
    go_wp2_with fail
    refine HS11.out.mono ?_
    rintro e w12 ⟨rfl, b12⟩
    have HC12 := Hd.mk (HC11.out.trans (b12.mono HC11.out.size))
    clear b12 HS11 HC11
    -- Loop
    have HP13 := Hd.mk (loop_q w12 n HI.out hn14 (.slice p M c) arcs (HRa.out w12 HC12.out) HLs.out.1)
    go_wp2_with fail
    refine HP13.out.mono ?_
    rintro e w13 ⟨v13, rfl, o13, b13⟩
    have HC13 := Hd.mk (HC12.out.trans (b13.mono HC12.out.size))
    have HO13 := Hd.mk o13
    have HP14 := Hd.mk (rloop_any w13 n hn1000 (.slice p M c) arcs (HRa.out w13 HC13.out) HLs.out.1)
    clear o13 b13 HP13
    go_wp2_with fail
    refine HP14.out.mono ?_
    rintro e w14 ⟨v14, rfl, o14, b14⟩
    have HC14 := Hd.mk (HC13.out.trans (b14.mono HC13.out.size))
    have hs14 := rsame_any w14 v13 v14 _ _ (loopQ_len2 hn14) (loopQ_len2 hn14) (Rw.below HO13.out intE_stays b14) o14
    rw [decide_eq_true rfl] at hs14
    have HS14 := Hd.mk hs14
    clear hs14 o14 b14 HP14 HO13 HC13
    go_wp2_with fail
    refine HS14.out.mono ?_
    rintro e w15 ⟨rfl, b15⟩
    have HC15 := Hd.mk (HC14.out.trans (b15.mono HC14.out.size))
    clear b15 HS14 HC14
    go_wp2
    go_ret
    exact ⟨rfl, HC15.out⟩

end Go.Proofs.Ytlncfhkmjbempaa.W
