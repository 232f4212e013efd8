/-
  The heap: up.
-/
import Derived.Test.YtlncfhkmjbempaaHpU
namespace Go.Proofs.Ytlncfhkmjbempaa.W
open Go.RowKit
set_option linter.unusedVariables false

section
variable {L : List Asr} {a b q B hb : Nat} {pv : Value} {pvs : List Value} {ls : List (List Int)} {key : Nat → Nat}

set_option maxHeartbeats 4000000 in
set_option maxRecDepth 100000 in
theorem up_any (w : World) (g m c j : Nat) (hl : List Nat) (h : HpA w L a b q B hb (.slice (some ⟨g, 0, none⟩) m c) pv pvs ls key hl) (hB : B ≤ w.heap.size) (hu : Tj.UpO key hl hl.length j) :
    Calls Try.prog 46 #[.iface 48 (.pointer (some ⟨hb, 0, none⟩)), .int .i64 j] w fun e w' => e = .returned (.tuple #[]) ∧ ∃ hl', HpA w' L a b q B hb (.slice (some ⟨g, 0, none⟩) m c) pv pvs ls key hl' ∧ hl'.Perm hl ∧ Tj.HeapO key hl' hl.length ∧ Below B w w' := by
  have HH := Hd.mk h
  have HU := Hd.mk hu
  have hbg := h.big
  clear h hu
  go_enter Try.func46, Try.ntmps46
  go_wp2
  go_loopw [1] (fun jv wr => ∃ (j : Nat) (hl' : List Nat), jv = .int .i64 (j : Int) ∧ Hd (HpA wr L a b q B hb (.slice (some ⟨g, 0, none⟩) m c) pv pvs ls key hl') ∧ Hd (Tj.UpO key hl' hl.length j) ∧ Hd (hl'.Perm hl) ∧ Hd (Below B w wr)) (fun jv _ => (intOf jv).toNat)
  case atStart => exact ⟨j, hl, rfl, HH, HU, ⟨.refl _⟩, ⟨Below.refl _ _⟩⟩
  case round =>
    clear HH HU
    obtain ⟨k, h1, rfl, HM, HU, HP, HK⟩ := hrel
    have hk := HU.out.at'
    have hlen := HP.out.length_eq
    obtain ⟨i, hi⟩ : ∃ i, (k - 1) / 2 = i := ⟨_, rfl⟩
    have hs1 : IntKind.i64.wrap ((k : Int) - 1) = (k : Int) - 1 := IntWalk.i64_in _ (by omega)
    have hq1 : ((k : Int) - 1).tdiv 2 = (i : Int) := by
      rcases k with _ | k
      · subst hi; rfl
      · rw [show ((k + 1 : Nat) : Int) - 1 = (k : Int) by omega, Int.tdiv_eq_ediv_of_nonneg (by omega)]; omega
    have hw2 : IntKind.i64.wrap (i : Int) = (i : Int) := IntWalk.i64_in _ (by omega)
    have HI := Hd.mk hi
    have HN := Hd.mk (And.intro hk hlen)
    have cb := (HM.out.var.1).at (j := 0) rfl
    have ml := m_less hb m c (some ⟨g, 0, none⟩) wr cb
    clear hi hlen hk
    by_cases h0 : k = 0
    · have hi0 : i = 0 := by have := HI.out; omega
      subst h0 hi0
      go_wp2
      go_end0
      exact ⟨rfl, h1, HM.out, HP.out, HU.out.stop (.inl rfl), HK.out⟩
    · have hne : ¬ (i : Int) = (k : Int) := by have := HI.out; omega
      have hne2 : ((i : Int) == (k : Int)) = false := by simp; have := HI.out; omega
      have HLs := Hd.mk (HM.out.less (i := k) (j := i) (by have := HN.out; omega) (by have := HN.out; have := HI.out; omega))
      rcases hd : decide (Tj.kx key h1 k < Tj.kx key h1 i) with _ | _
      · rw [hd] at HLs
        have HD := Hd.mk hd
        clear hd
        go_wp2_with fail
        refine HLs.out.mono ?_
        rintro e w2 ⟨rfl, hb2⟩
        have HB2 := Hd.mk hb2
        clear hb2 HLs
        go_wp2
        go_end0
        refine ⟨rfl, h1, HM.out.below HB2.out, HP.out, HU.out.stop (.inr ?_), HK.out.trans (HB2.out.mono (Nat.le_trans hB HK.out.size))⟩
        have h1 := of_decide_eq_false HD.out
        rw [HI.out]; omega
      · rw [hd] at HLs
        have HD := Hd.mk hd
        clear hd
        go_wp2_with fail
        refine HLs.out.mono ?_
        rintro e w2 ⟨rfl, hb2⟩
        have HM2 := Hd.mk (HM.out.below hb2)
        have HB2 := Hd.mk (HK.out.trans (hb2.mono (Nat.le_trans hB HK.out.size)))
        have cb2 := (HM2.out.var.1).at (j := 0) rfl
        have ms := m_swap hb m c (some ⟨g, 0, none⟩) w2 cb2
        have HSw := Hd.mk (HM2.out.swapC (i := i) (j := k) (by have := HN.out; have := HI.out; omega) (by have := HN.out; omega) (Nat.le_trans hB HB2.out.size))
        clear hb2 HLs cb ml
        go_wp2_with fail
        refine HSw.out.mono ?_
        rintro e w3 ⟨rfl, h3, hb3⟩
        have HM3 := Hd.mk h3
        have HB3 := Hd.mk (HB2.out.trans hb3)
        clear h3 hb3 HSw cb2 ms
        go_wp2
        refine ⟨⟨i, _, rfl, HM3, ⟨?_⟩, ⟨?_⟩, HB3⟩, by simp [intOf]; have := HI.out; omega⟩
        · have := HU.out.step (by rw [HN.out.2]; exact Nat.le_refl _) (by omega) (by rw [HI.out]; exact of_decide_eq_true HD.out)
          rw [HI.out] at this
          exact this
        · exact (Tj.swapL_perm (by have := HN.out; have := HI.out; omega) (by have := HN.out; omega)).trans HP.out
end

end Go.Proofs.Ytlncfhkmjbempaa.W
