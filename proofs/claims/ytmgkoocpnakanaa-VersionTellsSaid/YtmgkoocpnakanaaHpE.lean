/-
  The heap: down (printed by tools/gen_hpdn.py).
-/
import Derived.Test.YtmgkoocpnakanaaHpD
namespace Go.Proofs.Ytmgkoocpnakanaa.W
open Go.RowKit
set_option linter.unusedVariables false

section
variable {L : List Asr} {a b q B hb : Nat} {pv : Value} {pvs : List Value} {ls : List (List Int)} {key : Nat → Nat}

set_option maxHeartbeats 4000000 in
set_option maxRecDepth 100000 in
theorem down_any (w : World) (g m c n : Nat) (hl : List Nat) (h : HpA w L a b q B hb (.slice (some ⟨g, 0, none⟩) m c) pv pvs ls key hl) (hB : B ≤ w.heap.size) (hn : hl.length = n + 1) (hu : Tj.DnO key hl n 0) :
    Calls Try.prog 68 #[.iface 67 (.pointer (some ⟨hb, 0, none⟩)), .int .i64 0, .int .i64 n] w fun e w' => (∃ bb, e = .returned (.bool bb)) ∧ ∃ hl', HpA w' L a b q B hb (.slice (some ⟨g, 0, none⟩) m c) pv pvs ls key hl' ∧ hl'.Perm hl ∧ Tj.HeapO key hl' n ∧ hl'.getD n 0 = hl.getD n 0 ∧ Below B w w' := by
  have HH := Hd.mk h
  have HU := Hd.mk hu
  have hbg := h.big
  have HNn := Hd.mk hn
  have hnb : n ≤ 262144 := by omega
  clear h hu hn
  go_enter Try.func68, Try.ntmps68
  go_wp2
  go_loopw [7] (fun iv wr => ∃ (i : Nat) (hl' : List Nat), iv = .int .i64 (i : Int) ∧ Hd (HpA wr L a b q B hb (.slice (some ⟨g, 0, none⟩) m c) pv pvs ls key hl') ∧ Hd (Tj.DnO key hl' n i) ∧ Hd (hl'.Perm hl) ∧ Hd (hl'.getD n 0 = hl.getD n 0) ∧ Hd (i ≤ n) ∧ Hd (Below B w wr)) (fun iv _ => hl.length - (intOf iv).toNat)
  case atStart => exact ⟨0, hl, rfl, HH, HU, ⟨.refl _⟩, ⟨rfl⟩, ⟨Nat.zero_le _⟩, ⟨Below.refl _ _⟩⟩
  case round =>
    clear HH HU
    obtain ⟨i, h1, rfl, HM, HU, HP, HE, HIn, HK⟩ := hrel
    have hlen := HP.out.length_eq
    have hin := HIn.out
    have HN : Hd (h1.length = n + 1 ∧ i ≤ n ∧ hl.length = n + 1) := ⟨by have := HNn.out; omega, hin, HNn.out⟩
    clear hlen HIn
    obtain ⟨j1, hj1⟩ : ∃ j1, 2 * i + 1 = j1 := ⟨_, rfl⟩
    have ha1 : IntKind.i64.wrap (2 * (i : Int)) = ((2 * i : Nat) : Int) := by rw [IntWalk.i64_in _ (by omega)]; omega
    have ha2 : IntKind.i64.wrap (2 * (i : Int) + 1) = (j1 : Int) := by rw [IntWalk.i64_in _ (by omega)]; omega
    have ha3 : (2 * (i : Int) + 1) = (j1 : Int) := by omega
    have HJ1 := Hd.mk hj1
    have hj1b : j1 ≤ 600000 := by omega
    clear hj1 hin
    by_cases hA : n ≤ j1
    · have hg1 : ((n : Int) ≤ (j1 : Int)) := by omega
      go_wp2
      go_ret
      exact ⟨⟨_, rfl⟩, h1, HM.out, HP.out, HU.out.stop (fun c h0 h1 h2 => by have := HJ1.out; omega), HE.out, HK.out⟩
    · have hg1 : ¬ ((n : Int) ≤ (j1 : Int)) := by omega
      have hg2 : ¬ ((j1 : Int) < 0) := by omega
      have ha4 : IntKind.i64.wrap ((j1 : Int) + 1) = ((j1 + 1 : Nat) : Int) := by rw [IntWalk.i64_in _ (by omega)]; omega
      have HJ2 : Hd ((j1 - 1) / 2 = i ∧ (j1 + 1 - 1) / 2 = i ∧ 0 < j1 ∧ ∀ c, 0 < c → c < n → (c - 1) / 2 = i → c = j1 ∨ c = j1 + 1) := ⟨by have := HJ1.out; refine ⟨by omega, by omega, by omega, fun c h1 h2 h3 => by omega⟩⟩
      have hij : i < j1 := by have := HJ1.out; omega
      clear ha1 ha2
      by_cases hB2 : j1 + 1 < n
      · have hg3 : ((j1 : Int) + 1 < (n : Int)) := by omega
        have cb := (HM.out.var.1).at (j := 0) rfl
        have ml := m_less hb m c (some ⟨g, 0, none⟩) wr cb
        have HLs := Hd.mk (HM.out.less (i := j1 + 1) (j := j1) (by have := HN.out; omega) (by have := HN.out; omega))
        rcases hd : decide (Tj.kx key h1 (j1 + 1) < Tj.kx key h1 j1) with _ | _
        · rw [hd] at HLs
          have HJ : Hd ((j1 - 1) / 2 = i ∧ ∀ c, 0 < c → c < n → (c - 1) / 2 = i → Tj.kx key h1 j1 ≤ Tj.kx key h1 c) := ⟨HJ2.out.1, fun c h1 h2 h3 => by
            have e := of_decide_eq_false hd
            rcases HJ2.out.2.2.2 c h1 h2 h3 with rfl | rfl <;> omega⟩
          clear hd HJ2
          go_wp2_with fail
          refine HLs.out.mono ?_
          rintro e w2 ⟨rfl, hb2⟩
          have HM2 := Hd.mk (HM.out.below hb2)
          have HB2 := Hd.mk (HK.out.trans (hb2.mono (Nat.le_trans hB HK.out.size)))
          clear hb2 HLs cb ml
          have cb5 := (HM2.out.var.1).at (j := 0) rfl
          have ml5 := m_less hb m c (some ⟨g, 0, none⟩) w2 cb5
          have HL5 := Hd.mk (HM2.out.less (i := j1) (j := i) (by have := HN.out; omega) (by have := HN.out; omega))
          rcases hd : decide (Tj.kx key h1 j1 < Tj.kx key h1 i) with _ | _
          · rw [hd] at HL5
            have HD := Hd.mk hd
            clear hd
            go_wp2_with fail
            refine HL5.out.mono ?_
            rintro e w5 ⟨rfl, hb5⟩
            have HM5 := Hd.mk (HM2.out.below hb5)
            have HB5 := Hd.mk (HB2.out.trans (hb5.mono (Nat.le_trans hB HB2.out.size)))
            clear hb5 HL5
            go_wp2
            go_ret
            refine ⟨⟨_, rfl⟩, h1, HM5.out, HP.out, HU.out.stop (fun c h0 h1 h2 => ?_), HE.out, HB5.out⟩
            have e1 := of_decide_eq_false HD.out
            have e2 := HJ.out.2 c h0 h1 h2
            omega
          · rw [hd] at HL5
            have HD := Hd.mk hd
            clear hd
            go_wp2_with fail
            refine HL5.out.mono ?_
            rintro e w5 ⟨rfl, hb5⟩
            have HM5 := Hd.mk (HM2.out.below hb5)
            have HB5 := Hd.mk (HB2.out.trans (hb5.mono (Nat.le_trans hB HB2.out.size)))
            have cb6 := (HM5.out.var.1).at (j := 0) rfl
            have ms6 := m_swap hb m c (some ⟨g, 0, none⟩) w5 cb6
            have HSw := Hd.mk (HM5.out.swapC (i := i) (j := j1) (by have := HN.out; omega) (by have := HN.out; omega) (Nat.le_trans hB HB5.out.size))
            clear hb5 HL5 cb5 ml5
            go_wp2_with fail
            refine HSw.out.mono ?_
            rintro e w6 ⟨rfl, h6, hb6⟩
            have HM6 := Hd.mk h6
            have HB6 := Hd.mk (HB5.out.trans hb6)
            clear h6 hb6 HSw cb6 ms6
            go_wp2
            refine ⟨⟨j1, _, rfl, HM6, ⟨?_⟩, ⟨?_⟩, ⟨?_⟩, ⟨by have := HN.out; omega⟩, HB6⟩, by simp [intOf]; have := HN.out; omega⟩
            · exact HU.out.step (by have := HN.out; omega) (by omega) (by have := HN.out; omega) HJ.out.1 (of_decide_eq_true HD.out) HJ.out.2
            · exact (Tj.swapL_perm (by have := HN.out; omega) (by have := HN.out; omega)).trans HP.out
            · rw [Tj.swapL_get (by have := HN.out; omega) (by have := HN.out; omega), if_neg (by have := HN.out; omega), if_neg (by have := HN.out; omega)]; exact HE.out
        · rw [hd] at HLs
          have HJ : Hd ((j1 + 1 - 1) / 2 = i ∧ ∀ c, 0 < c → c < n → (c - 1) / 2 = i → Tj.kx key h1 (j1 + 1) ≤ Tj.kx key h1 c) := ⟨HJ2.out.2.1, fun c h1 h2 h3 => by
            have e := of_decide_eq_true hd
            rcases HJ2.out.2.2.2 c h1 h2 h3 with rfl | rfl <;> omega⟩
          clear hd HJ2
          go_wp2_with fail
          refine HLs.out.mono ?_
          rintro e w2 ⟨rfl, hb2⟩
          have HM2 := Hd.mk (HM.out.below hb2)
          have HB2 := Hd.mk (HK.out.trans (hb2.mono (Nat.le_trans hB HK.out.size)))
          clear hb2 HLs cb ml
          have cb5 := (HM2.out.var.1).at (j := 0) rfl
          have ml5 := m_less hb m c (some ⟨g, 0, none⟩) w2 cb5
          have HL5 := Hd.mk (HM2.out.less (i := (j1 + 1)) (j := i) (by have := HN.out; omega) (by have := HN.out; omega))
          rcases hd : decide (Tj.kx key h1 (j1 + 1) < Tj.kx key h1 i) with _ | _
          · rw [hd] at HL5
            have HD := Hd.mk hd
            clear hd
            go_wp2_with fail
            refine HL5.out.mono ?_
            rintro e w5 ⟨rfl, hb5⟩
            have HM5 := Hd.mk (HM2.out.below hb5)
            have HB5 := Hd.mk (HB2.out.trans (hb5.mono (Nat.le_trans hB HB2.out.size)))
            clear hb5 HL5
            go_wp2
            go_ret
            refine ⟨⟨_, rfl⟩, h1, HM5.out, HP.out, HU.out.stop (fun c h0 h1 h2 => ?_), HE.out, HB5.out⟩
            have e1 := of_decide_eq_false HD.out
            have e2 := HJ.out.2 c h0 h1 h2
            omega
          · rw [hd] at HL5
            have HD := Hd.mk hd
            clear hd
            go_wp2_with fail
            refine HL5.out.mono ?_
            rintro e w5 ⟨rfl, hb5⟩
            have HM5 := Hd.mk (HM2.out.below hb5)
            have HB5 := Hd.mk (HB2.out.trans (hb5.mono (Nat.le_trans hB HB2.out.size)))
            have cb6 := (HM5.out.var.1).at (j := 0) rfl
            have ms6 := m_swap hb m c (some ⟨g, 0, none⟩) w5 cb6
            have HSw := Hd.mk (HM5.out.swapC (i := i) (j := (j1 + 1)) (by have := HN.out; omega) (by have := HN.out; omega) (Nat.le_trans hB HB5.out.size))
            clear hb5 HL5 cb5 ml5
            go_wp2_with fail
            refine HSw.out.mono ?_
            rintro e w6 ⟨rfl, h6, hb6⟩
            have HM6 := Hd.mk h6
            have HB6 := Hd.mk (HB5.out.trans hb6)
            clear h6 hb6 HSw cb6 ms6
            go_wp2
            refine ⟨⟨(j1 + 1), _, rfl, HM6, ⟨?_⟩, ⟨?_⟩, ⟨?_⟩, ⟨by have := HN.out; omega⟩, HB6⟩, by simp [intOf]; have := HN.out; omega⟩
            · exact HU.out.step (by have := HN.out; omega) (by omega) (by have := HN.out; omega) HJ.out.1 (of_decide_eq_true HD.out) HJ.out.2
            · exact (Tj.swapL_perm (by have := HN.out; omega) (by have := HN.out; omega)).trans HP.out
            · rw [Tj.swapL_get (by have := HN.out; omega) (by have := HN.out; omega), if_neg (by have := HN.out; omega), if_neg (by have := HN.out; omega)]; exact HE.out
      · have hg3 : ¬ ((j1 : Int) + 1 < (n : Int)) := by omega
        have HJ : Hd ((j1 - 1) / 2 = i ∧ ∀ c, 0 < c → c < n → (c - 1) / 2 = i → Tj.kx key h1 j1 ≤ Tj.kx key h1 c) := ⟨HJ2.out.1, fun c h1 h2 h3 => by
          rcases HJ2.out.2.2.2 c h1 h2 h3 with rfl | rfl
          · exact Nat.le_refl _
          · omega⟩
        clear HJ2
        have cb5 := (HM.out.var.1).at (j := 0) rfl
        have ml5 := m_less hb m c (some ⟨g, 0, none⟩) wr cb5
        have HL5 := Hd.mk (HM.out.less (i := j1) (j := i) (by have := HN.out; omega) (by have := HN.out; omega))
        rcases hd : decide (Tj.kx key h1 j1 < Tj.kx key h1 i) with _ | _
        · rw [hd] at HL5
          have HD := Hd.mk hd
          clear hd
          go_wp2_with fail
          refine HL5.out.mono ?_
          rintro e w5 ⟨rfl, hb5⟩
          have HM5 := Hd.mk (HM.out.below hb5)
          have HB5 := Hd.mk (HK.out.trans (hb5.mono (Nat.le_trans hB HK.out.size)))
          clear hb5 HL5
          go_wp2
          go_ret
          refine ⟨⟨_, rfl⟩, h1, HM5.out, HP.out, HU.out.stop (fun c h0 h1 h2 => ?_), HE.out, HB5.out⟩
          have e1 := of_decide_eq_false HD.out
          have e2 := HJ.out.2 c h0 h1 h2
          omega
        · rw [hd] at HL5
          have HD := Hd.mk hd
          clear hd
          go_wp2_with fail
          refine HL5.out.mono ?_
          rintro e w5 ⟨rfl, hb5⟩
          have HM5 := Hd.mk (HM.out.below hb5)
          have HB5 := Hd.mk (HK.out.trans (hb5.mono (Nat.le_trans hB HK.out.size)))
          have cb6 := (HM5.out.var.1).at (j := 0) rfl
          have ms6 := m_swap hb m c (some ⟨g, 0, none⟩) w5 cb6
          have HSw := Hd.mk (HM5.out.swapC (i := i) (j := j1) (by have := HN.out; omega) (by have := HN.out; omega) (Nat.le_trans hB HB5.out.size))
          clear hb5 HL5 cb5 ml5
          go_wp2_with fail
          refine HSw.out.mono ?_
          rintro e w6 ⟨rfl, h6, hb6⟩
          have HM6 := Hd.mk h6
          have HB6 := Hd.mk (HB5.out.trans hb6)
          clear h6 hb6 HSw cb6 ms6
          go_wp2
          refine ⟨⟨j1, _, rfl, HM6, ⟨?_⟩, ⟨?_⟩, ⟨?_⟩, ⟨by have := HN.out; omega⟩, HB6⟩, by simp [intOf]; have := HN.out; omega⟩
          · exact HU.out.step (by have := HN.out; omega) (by omega) (by have := HN.out; omega) HJ.out.1 (of_decide_eq_true HD.out) HJ.out.2
          · exact (Tj.swapL_perm (by have := HN.out; omega) (by have := HN.out; omega)).trans HP.out
          · rw [Tj.swapL_get (by have := HN.out; omega) (by have := HN.out; omega), if_neg (by have := HN.out; omega), if_neg (by have := HN.out; omega)]; exact HE.out
end

end Go.Proofs.Ytmgkoocpnakanaa.W
