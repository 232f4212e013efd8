/-
  GraphLimits.
-/
import Derived.Test.YtlncfhkmjbempaaSm
import Derived.Test.YtlncfhkmjbempaaArcA
namespace Go.Proofs.Ytlncfhkmjbempaa.W
open Go.RowKit
set_option linter.unusedVariables false

def rightK (n : Int) (arcs : List Arc) (k : Nat) : Bool := decide (0 ≤ n) && decide (n ≤ 262144) && (arcs.take k).all fun a => nodeB n a.f && nodeB n a.t
theorem rightK_step {n : Int} {arcs : List Arc} {k : Nat} (hk : k < arcs.length) : rightK n arcs (k + 1) = (rightK n arcs k && (decide (0 ≤ arcs[k].f) && decide (arcs[k].f < n) && (decide (0 ≤ arcs[k].t) && decide (arcs[k].t < n)))) := by
  have e : arcs.take (k + 1) = arcs.take k ++ [arcs[k]] := by rw [List.take_add_one, List.getElem?_eq_getElem hk]; rfl
  unfold rightK
  rw [e, List.all_append]
  simp only [List.all_cons, List.all_nil, Bool.and_true, nodeB, Bool.and_assoc]

set_option maxHeartbeats 4000000 in
set_option maxRecDepth 100000 in
theorem limits_any (w : World) (n : Int) (v : Value) (arcs : List Arc) (rv : Value) (roots : List Int) (hn : I64 n) (h1 : ArgArcs w v arcs) (h2 : ArgI w rv roots) :
    Calls Try.prog 4 #[.int .i64 n, v, rv] w fun e w' => e = .returned (.bool true) ∧ Below w.heap.size w w' := by
  obtain ⟨p, c, hv⟩ := h1.row.slice
  obtain ⟨q, d, hrv⟩ := Rw.slice h2.row
  obtain ⟨M, hM⟩ : ∃ M, arcs.length = M := ⟨_, rfl⟩
  obtain ⟨K, hK⟩ : ∃ K, roots.length = K := ⟨_, rfl⟩
  rw [hM] at hv
  rw [hK] at hrv
  subst hv hrv
  have hMl : M ≤ 140737488351232 := by have := h1.len; unfold lenR at this; omega
  have HL := Hd.mk (And.intro hM hK)
  have HR := Hd.mk h1.row
  have HS := Hd.mk (small_any w)
  have hI := hn
  unfold I64 at hI
  clear h1 h2 hM hK hn
  go_enter Try.func4, Try.ntmps4
  go_wp2_with fail
  refine HS.out.mono ?_
  rintro e w1 ⟨rfl, b1⟩
  have HB := Hd.mk b1
  clear b1 HS
  by_cases hA : 60 < M
  · have t1 : decide ((60 : Int) < (M : Int)) = true := by simp; omega
    go_wp2
    go_ret
    exact ⟨rfl, HB.out⟩
  · have t1 : decide ((60 : Int) < (M : Int)) = false := by simp; omega
    by_cases hBq : 20 < K
    · have t2 : decide ((20 : Int) < (K : Int)) = true := by simp; omega
      go_wp2
      go_ret
      exact ⟨rfl, HB.out⟩
    · have t2 : decide ((20 : Int) < (K : Int)) = false := by simp; omega
      go_upto_region 4 with (fail)
      go_cut [8] from 10 (fun s8 wx => s8 = .bool (rightK n arcs 0) ∧ w1 = wx)
      case first =>
        by_cases g1 : 0 ≤ n
        · have e1 : decide (0 ≤ n) = true := by simpa using g1
          by_cases g2 : n ≤ 262144
          · have e2 : decide (n ≤ 262144) = true := by simpa using g2
            have HE : Hd (rightK n arcs 0 = true) := ⟨by simp only [rightK]; rw [e1, e2]; rfl⟩
            go_wp2
            go_meet
            exact ⟨by rw [HE.out], rfl⟩
          · have e2 : decide (n ≤ 262144) = false := by simpa using g2
            have HE : Hd (rightK n arcs 0 = false) := ⟨by simp only [rightK]; rw [e1, e2]; rfl⟩
            go_wp2
            go_meet
            exact ⟨by rw [HE.out], rfl⟩
        · have e1 : decide (0 ≤ n) = false := by simpa using g1
          have HE : Hd (rightK n arcs 0 = false) := ⟨by simp only [rightK]; rw [e1]; rfl⟩
          go_wp2
          go_meet
          exact ⟨by rw [HE.out], rfl⟩
      case rest =>
        obtain ⟨rfl, rfl⟩ := hcut
        go_step
        go_step
        go_cut [8] from 10 (fun s8 wx => s8 = .bool (rightB n arcs) ∧ w1 = wx)
        case first =>
          obtain ⟨r0, hr0⟩ : ∃ r0, rightK n arcs 0 = r0 := ⟨_, rfl⟩
          have HR0 := Hd.mk hr0
          rw [hr0]
          clear hr0
          go_wp2
          go_loopw [9, 8] (fun iv bv wr => ∃ (k : Nat) (b : Bool), k ≤ M ∧ iv = .int .i64 (k : Int) ∧ bv = .bool b ∧ Hd (rightK n arcs k = b) ∧ w1 = wr) (fun iv _ _ => M - (intOf iv).toNat)
          case atStart => exact ⟨0, r0, Nat.zero_le _, rfl, rfl, HR0, rfl⟩
          case round =>
            obtain ⟨k, b, hk, rfl, rfl, HBk, rfl⟩ := hrel
            by_cases hlt : k < M
            · have hd1 : decide ((k : Int) < (M : Int)) = true := by simp; omega
              have hmk : M - (intOf (.int .i64 ((k : Int) + 1))).toNat < M - (intOf (.int .i64 (k : Int))).toNat := by simp [intOf]; omega
              have hkq : k < arcs.length := by rw [HL.out.1]; exact hlt
              obtain ⟨g, of, cs, hpe, hg, hcl, hE, hcc⟩ := (HR.out.below Arc.stays HB.out).at rfl (j := k) hkq
              subst hpe
              rw [show cs = arcs[k].cells from hE] at hcc
              obtain ⟨x, hx⟩ : ∃ x, arcs[k].f = x := ⟨_, rfl⟩
              obtain ⟨y, hy⟩ : ∃ y, arcs[k].t = y := ⟨_, rfl⟩
              have d0 : w1.cell? ⟨g, of + k * 2, none⟩ = some (.int .i64 x) := by rw [← hx]; exact hcc 0 _ rfl
              have d1 : w1.cell? ⟨g, of + k * 2 + 1, none⟩ = some (.int .i64 y) := by rw [← hy]; exact hcc 1 _ rfl
              have hst := rightK_step (n := n) hkq
              rw [HBk.out, hx, hy] at hst
              have HSt := Hd.mk hst
              clear hcc hcl hE hg hx hy hkq cs hst
              rcases b with _ | _
              · have HE : Hd (rightK n arcs (k + 1) = false) := ⟨by rw [HSt.out]; rfl⟩
                go_wp2
                exact ⟨⟨k + 1, false, hlt, by go_num, rfl, HE, trivial⟩, hmk⟩
              · rcases c1 : decide (0 ≤ x) with _ | _
                · have HE : Hd (rightK n arcs (k + 1) = false) := ⟨by rw [HSt.out, c1]; rfl⟩
                  go_wp2
                  exact ⟨⟨k + 1, false, hlt, by go_num, rfl, HE, trivial⟩, hmk⟩
                · rcases c2 : decide (x < n) with _ | _
                  · have HE : Hd (rightK n arcs (k + 1) = false) := ⟨by rw [HSt.out, c1, c2]; rfl⟩
                    go_wp2
                    exact ⟨⟨k + 1, false, hlt, by go_num, rfl, HE, trivial⟩, hmk⟩
                  · rcases c3 : decide (0 ≤ y) with _ | _
                    · have HE : Hd (rightK n arcs (k + 1) = false) := ⟨by rw [HSt.out, c1, c2, c3]; rfl⟩
                      go_wp2
                      exact ⟨⟨k + 1, false, hlt, by go_num, rfl, HE, trivial⟩, hmk⟩
                    · rcases c4 : decide (y < n) with _ | _
                      · have HE : Hd (rightK n arcs (k + 1) = false) := ⟨by rw [HSt.out, c1, c2, c3, c4]; rfl⟩
                        go_wp2
                        exact ⟨⟨k + 1, false, hlt, by go_num, rfl, HE, trivial⟩, hmk⟩
                      · have HE : Hd (rightK n arcs (k + 1) = true) := ⟨by rw [HSt.out, c1, c2, c3, c4]; rfl⟩
                        go_wp2
                        exact ⟨⟨k + 1, true, hlt, by go_num, rfl, HE, trivial⟩, hmk⟩
            · have hd1 : decide ((k : Int) < (M : Int)) = false := by simp; omega
              have HF : Hd (b = rightB n arcs) := ⟨by
                rw [← HBk.out]
                unfold rightK rightB
                rw [List.take_of_length_le (by rw [HL.out.1]; omega)]⟩
              go_wp2
              go_meet
              exact ⟨by rw [HF.out], rfl⟩
        case rest =>
          obtain ⟨rfl, rfl⟩ := hcut
          have HC := Hd.mk (gright_any w1 n (.slice p M c) arcs (HR.out.below Arc.stays HB.out) (by unfold lenR; rw [HL.out.1]; omega))
          rcases hrb : rightB n arcs with _ | _
          · have HNo := Hd.mk hrb
            rw [hrb] at HC
            clear hrb
            have hlr : lenR arcs.length := by unfold lenR; rw [HL.out.1]; omega
            have HP := Hd.mk (fun (w' : World) (hb : Below w.heap.size w w') => parts_no w' n (.slice p M c) arcs (HR.out.below Arc.stays hb) hlr HNo.out)
            have HRe := Hd.mk (fun (w' : World) (hb : Below w.heap.size w w') => reach_no w' n (.slice p M c) (.slice q K d) arcs (HR.out.below Arc.stays hb) hlr HNo.out)
            have HWa := Hd.mk (fun (w' : World) (hb : Below w.heap.size w w') => way_no w' n (.slice p M c) (.slice q K d) arcs 0 (HR.out.below Arc.stays hb) hlr (by rw [HNo.out]; rfl))
            have HLo := Hd.mk (fun (w' : World) (hb : Below w.heap.size w w') => loop_no w' n (.slice p M c) arcs (HR.out.below Arc.stays hb) hlr HNo.out hI)
            clear hlr
            go_wp2_with fail
            refine HC.out.mono ?_
            rintro e w2 ⟨rfl, b2⟩
            have HB2 := Hd.mk (HB.out.trans (b2.mono HB.out.size))
            clear b2 HC
            go_wp2_with fail
            refine (HP.out w2 HB2.out).mono ?_
            rintro e w3 ⟨rfl, b3⟩
            have HB3 := Hd.mk (HB2.out.trans (b3.mono HB2.out.size))
            clear b3 HP
            go_wp2_with fail
            refine (HRe.out w3 HB3.out).mono ?_
            rintro e w4 ⟨rfl, b4⟩
            have HB4 := Hd.mk (HB3.out.trans (b4.mono HB3.out.size))
            clear b4 HRe
            go_wp2_with fail
            refine (HWa.out w4 HB4.out).mono ?_
            rintro e w5 ⟨rfl, b5⟩
            have HB5 := Hd.mk (HB4.out.trans (b5.mono HB4.out.size))
            clear b5 HWa
            go_wp2_with fail
            refine (HLo.out w5 HB5.out).mono ?_
            rintro e w6 ⟨rfl, b6⟩
            have HB6 := Hd.mk (HB5.out.trans (b6.mono HB5.out.size))
            clear b6 HLo
            go_wp2
            go_ret
            exact ⟨rfl, HB6.out⟩
          · rw [hrb] at HC
            clear hrb
            go_wp2_with fail
            refine HC.out.mono ?_
            rintro e w2 ⟨rfl, b2⟩
            have HB2 := Hd.mk (HB.out.trans (b2.mono HB.out.size))
            clear b2 HC
            go_wp2
            go_ret
            exact ⟨rfl, HB2.out⟩

end Go.Proofs.Ytlncfhkmjbempaa.W
