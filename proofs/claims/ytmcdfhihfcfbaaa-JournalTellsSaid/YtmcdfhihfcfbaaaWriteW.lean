/-
  The walk of Write.
-/
import Derived.Test.YtmcdfhihfcfbaaaWrite
namespace Go.Proofs.Ytmcdfhihfcfbaaa.W
open Go.RowKit
set_option linter.unusedVariables false

theorem writeS_keep (σ : St) (f k : Int) (s : List UInt8) : (writeS σ f k s).keep = σ.keep := by
  unfold writeS; split <;> rfl
theorem pieces_len (f : Nat) : ∀ (n k : Nat) (s : List UInt8), (piecesF f n k s).length ≤ n
  | 0, _, _ => by simp [piecesF]
  | n + 1, k, s => by
    rw [piecesF]
    split
    · simp
    · simp only [List.length_cons]
      have := pieces_len f n (k + min s.length (32 - k % 32)) (s.drop (min s.length (32 - k % 32)))
      omega
theorem writeS_queue (σ : St) (f k : Int) (s : List UInt8) : (writeS σ f k s).queue.length ≤ σ.queue.length + s.length := by
  unfold writeS
  split
  · simp only [addS, List.length_append]
    have := pieces_len f.toNat s.length k.toNat s
    unfold pieces
    omega
  · omega
theorem endsS_queue (σ : St) : (endsS σ).queue = σ.queue := by
  unfold endsS; split <;> rfl

set_option maxHeartbeats 1000000 in
theorem Write_any (w : World) (D : Nat) (σ : St) (O : Option Nat) (f k : Int) (s : ByteArray) (hF : Fit σ) (hq : σ.queue.length + s.size ≤ 1000000000) (hk1 : k ≤ 9223372036854775807) (hs64 : s.size ≤ 9223372036854775807) (h : Rep w D σ O) :
    Calls Try.prog 18 #[.pointer (some ⟨D, 0, none⟩), .int .i64 f, .int .i64 k, .string s] w fun e w' => ∃ O', e = .returned (.int .i64 (WriteE σ f k s.data.toList)) ∧ Rep w' D (WriteS σ f k s.data.toList) O' ∧ (∀ g, O' = some g → O = some g ∨ w.heap.size ≤ g) ∧ Keeps (fun g => g = D ∨ O = some g) w w' := by
  have HE := Hd.mk (ends_any w D σ O hF.a h)
  have HF := Hd.mk hF
  have HQ := Hd.mk hq
  have HK1 := Hd.mk hk1
  have HS6 := Hd.mk hs64
  have rest : ∀ (b : Bool), endsB σ = b → Calls Try.prog 18 #[.pointer (some ⟨D, 0, none⟩), .int .i64 f, .int .i64 k, .string s] w fun e w' => ∃ O', e = .returned (.int .i64 (WriteE σ f k s.data.toList)) ∧ Rep w' D (WriteS σ f k s.data.toList) O' ∧ (∀ g, O' = some g → O = some g ∨ w.heap.size ≤ g) ∧ Keeps (fun g => g = D ∨ O = some g) w w' := by
    intro b hb
    rw [hb] at HE
    have HB := Hd.mk hb
    clear hb h hF hq hk1 hs64
    go_enter Try.func18, Try.ntmps18
    go_wp2_with fail
    refine HE.out.mono ?_
    rintro e w1 ⟨rfl, h1, k1⟩
    have HW := Hd.mk (write_any w1 D (endsS σ) O f k s (by rw [endsS_queue]; exact HQ.out) HK1.out HS6.out h1)
    have K1 := Hd.mk k1
    clear h1 k1
    go_wp2_with fail
    refine HW.out.mono ?_
    rintro e w2 ⟨O2, rfl, h2, hO2, k2⟩
    have HO2 : Hd (∀ g, O2 = some g → O = some g ∨ w.heap.size ≤ g) := ⟨fun g hg => (hO2 g hg).imp_right (Nat.le_trans K1.out.size)⟩
    have K2 : Hd (Keeps (fun g => g = D ∨ O = some g) w w2) := ⟨(K1.out.mono (fun _ _ e => .inl e)).trans k2⟩
    have H2 := Hd.mk h2
    clear h2 hO2 k2 HW K1
    rcases b with _ | _
    · have e1 : Hd (WriteE σ f k s.data.toList = writeE (endsS σ) f k s.data.toList ∧ WriteS σ f k s.data.toList = writeS (endsS σ) f k s.data.toList) := ⟨by unfold WriteE; rw [HB.out]; rfl, by unfold WriteS; rw [HB.out]; rfl⟩
      go_wp2
      go_ret
      refine ⟨O2, ret_i (by rw [e1.out.1]), ?_, HO2.out, K2.out⟩
      rw [e1.out.2]
      exact H2.out
    · have e1 : Hd (WriteE σ f k s.data.toList = 10 ∧ WriteS σ f k s.data.toList = crashS (writeS (endsS σ) f k s.data.toList) σ.keep) := ⟨by unfold WriteE; rw [HB.out]; rfl, by unfold WriteS; rw [HB.out]; rfl⟩
      obtain ⟨kv, hkc, hki⟩ := H2.out.keepRow
      rw [writeS_keep, endsS_keep] at hki
      have hql : (writeS (endsS σ) f k s.data.toList).queue.length ≤ 1000000000 := Nat.le_trans (writeS_queue _ _ _ _) (by rw [endsS_queue]; exact HQ.out)
      have HCR := Hd.mk (crash_any w2 D _ O2 kv σ.keep (Nat.le_trans HF.out.k (by decide)) hql (hki.ir (fun g cur fz hg e => H2.out.notInt g cur fz hg (.inl e))) H2.out)
      clear hki hql
      go_wp2_with fail
      refine HCR.out.mono ?_
      rintro e w3 ⟨rfl, O3, h3, hO3, k3⟩
      have H3 := Hd.mk h3
      have K3 := Hd.mk k3
      have HO3 := Hd.mk hO3
      clear h3 k3 hO3
      go_wp2
      go_ret
      refine ⟨O3, ret_i (by rw [e1.out.1]; rfl), ?_, fun g hg => ?_, K2.out.trans (K3.out.mono (fun _ _ e => .inl e))⟩
      · rw [e1.out.2]
        exact H3.out
      · rcases HO3.out with h | h
        · exact HO2.out g (h ▸ hg)
        · rw [h] at hg; cases hg
  exact rest _ rfl

end Go.Proofs.Ytmcdfhihfcfbaaa.W
