/-
  The walk of isa's Encode at a call, and of reloc's small example.
-/
import Derived.Test.YtmngicdgapkbmaaDoorWrt15
import Derived.Laws.IdiomStrings
namespace Go.Proofs.YtmngicdgapkbmaaDoor.W
open Go.RowKit
set_option linter.unusedVariables false

def callB : ByteArray := ⟨#[22, 0, 0, 0, 0, 0, 0, 0]⟩
theorem call_right : rightB 22 0 0 0 0 = true := by decide +kernel
theorem call_put : putS ⟨#[22, 0, 0, 0, 0, 0, 0, 0]⟩ 4 4 0 = ⟨#[22, 0, 0, 0, 0, 0, 0, 0]⟩ ∧ putOk ⟨#[22, 0, 0, 0, 0, 0, 0, 0]⟩ 4 4 0 = true := by decide +kernel
theorem s_w1 : write15 ⟨#[0, 0, 0, 0, 0, 0, 0, 0]⟩ 4 2 (-2) = (⟨#[0, 0, 0, 0, 254, 255, 255, 255]⟩, true) := by decide +kernel
theorem s_r1 : read15 ⟨#[0, 0, 0, 0, 254, 255, 255, 255]⟩ 4 2 = (-2, true) := by decide +kernel
theorem s_w2 : (write15 ⟨#[22, 0, 0, 0, 0, 0, 0, 0]⟩ 0 6 12).2 = false := by decide +kernel
theorem s_w3 : (write15 ⟨#[22, 0, 0, 0, 0, 0, 0, 0]⟩ 0 5 8).2 = false := by decide +kernel
theorem s_w4 : write15 ⟨#[22, 0, 0, 0, 0, 0, 0, 0]⟩ 0 6 16 = (⟨#[22, 0, 0, 0, 16, 0, 0, 0]⟩, true) := by decide +kernel
theorem s_d1 : decB ⟨#[22, 0, 0, 0, 16, 0, 0, 0]⟩ 0 = true ∧ immAt ⟨#[22, 0, 0, 0, 16, 0, 0, 0]⟩ 0 = 16 := by decide +kernel

structure TB (W w : World) : Prop where
  t : Tabs w
  b : Below W.heap.size W w
theorem TB.step {W w w' : World} (h : TB W w) (k : Below w.heap.size w w') : TB W w' := ⟨h.t.below k, Below.chain h.b k⟩
theorem TB.alloc {W w : World} (h : TB W w) (o : Obj) : TB W (w.alloc o) := h.step ((Below.refl _ _).alloc (Nat.le_refl _) _)
theorem TB.refl {W : World} (h : Tabs W) : TB W W := ⟨h, Below.refl _ _⟩

set_option maxHeartbeats 1000000 in
theorem encode_call (w : World) (hT : FormsAt w) : Calls Tryd.prog 26 #[.agg #[.int .i64 22, .int .i64 0, .int .i64 0, .int .i64 0, .int .i64 0]] w fun e w' => e = .returned (.tuple #[.string ⟨#[22, 0, 0, 0, 0, 0, 0, 0]⟩, .bool true]) ∧ Below w.heap.size w w' := by
  have hbl := Blk.new w 38 [.int .i64 22, .int .i64 0, .int .i64 0, .int .i64 0, .int .i64 0]
  have HB := Hd.mk hbl
  have HR := Hd.mk (right_any 22 0 0 0 0 (w.alloc (.cells #[.int .i64 22, .int .i64 0, .int .i64 0, .int .i64 0, .int .i64 0] 38)) (hT.below ((Below.refl _ _).alloc (Nat.le_refl _) _)) ⟨by decide, by decide⟩)
  rw [call_right] at HR
  clear hbl hT
  go_enter Tryd.func26, Tryd.ntmps26
  go_wp2_with fail
  refine HR.out.mono ?_
  rintro e w1 ⟨rfl, k1⟩
  have hb1 := HB.out.below k1 HB.out.lt
  have K1 : Hd (Below w.heap.size w w1) := ⟨Below.chain ((Below.refl _ _).alloc (Nat.le_refl _) _) k1⟩
  have b0 := hb1.at (j := 0) rfl
  have b1 := hb1.at (j := 1) rfl
  have b2 := hb1.at (j := 2) rfl
  have b3 := hb1.at (j := 3) rfl
  have b4 := hb1.at (j := 4) rfl
  clear k1 hb1
  have hcv : (convert 54 9 (.slice (some ⟨w1.heap.size, 0, none⟩) 8 8)).run Tryd.prog (w1.alloc (.cells #[.int .u8 22, .int .u8 0, .int .u8 0, .int .u8 0, .int .u8 0, .int .u8 0, .int .u8 0, .int .u8 0] 5)) = .ok (.string ⟨#[22, 0, 0, 0, 0, 0, 0, 0]⟩) (w1.alloc (.cells #[.int .u8 22, .int .u8 0, .int .u8 0, .int .u8 0, .int .u8 0, .int .u8 0, .int .u8 0, .int .u8 0] 5)) :=
    run_convert_bytes_back (P := Tryd.prog) _ 54 9 5 ⟨w1.heap.size, 0, none⟩ 8 [22, 0, 0, 0, 0, 0, 0, 0] Tryd.underlying54 Tryd.underlying5 Tryd.underlying9 (fun j hj => by
      have hb := Blk.new w1 5 [.int .u8 22, .int .u8 0, .int .u8 0, .int .u8 0, .int .u8 0, .int .u8 0, .int .u8 0, .int .u8 0]
      rw [show (⟨w1.heap.size, 0, none⟩ : Addr).add j = ⟨w1.heap.size, j, none⟩ from by unfold Addr.add; split <;> simp_all]
      refine hb.at ?_
      have hj' : j < 8 := hj
      rcases (by omega : j = 0 ∨ j = 1 ∨ j = 2 ∨ j = 3 ∨ j = 4 ∨ j = 5 ∨ j = 6 ∨ j = 7) with rfl | rfl | rfl | rfl | rfl | rfl | rfl | rfl <;> rfl)
  have b4' : (w1.alloc (.cells #[.int .u8 22, .int .u8 0, .int .u8 0, .int .u8 0, .int .u8 0, .int .u8 0, .int .u8 0, .int .u8 0] 5)).cell? ⟨w.heap.size, 4, none⟩ = some (.int .i64 0) := by
    rw [World.cell?_alloc_some _ _ _ (by rw [b4]; rfl)]; exact b4
  have HP := fun w => Hd.mk (put_any ⟨#[22, 0, 0, 0, 0, 0, 0, 0]⟩ 4 4 0 w (by decide) (by decide) (by decide))
  rw [call_put.1, call_put.2] at HP
  go_wp2_with fail
  refine (HP _).out.mono ?_
  rintro e w2 ⟨rfl, k2⟩
  have K2 : Hd (Below w.heap.size w w2) := ⟨Below.chain (K1.out.alloc K1.out.size _) k2⟩
  clear k2
  go_wp2
  go_ret2
  exact ⟨rfl, K2.out⟩

def inR (x : Int) : Bool := decide (-9223372036854775808 ≤ x) && decide (x ≤ 9223372036854775807)
def whOkB (x : Wh) : Bool := inR x.s && (inR x.a && (inR x.p && (inR x.i && (inR x.b && (inR x.z && inR x.l)))))
theorem whOk_of {x : Wh} (h : whOkB x = true) : WhOk x := by
  simp only [whOkB, inR, Bool.and_eq_true, decide_eq_true_eq] at h
  obtain ⟨h1, h2, h3, h4, h5, h6, h7⟩ := h
  exact ⟨h1, h2, h3, h4, h5, h6, h7⟩

set_option maxHeartbeats 4000000 in
set_option maxRecDepth 100000 in
theorem small15_any (W : World) (hT : Tabs W) : Calls Tryd.prog 8 #[] W fun e w' => e = .returned (.bool true) ∧ Below W.heap.size W w' := by
  have T0 := Hd.mk (TB.refl hT)
  clear hT
  go_enter Tryd.func8, Tryd.ntmps8
  have HC := Hd.mk (write15_any ⟨#[0, 0, 0, 0, 0, 0, 0, 0]⟩ 4 2 (-2) _ (by decide) ⟨by decide, by decide⟩ ⟨by decide, by decide⟩ T0.out.t)
  rw [s_w1] at HC
  go_wp2_with fail
  refine (HC.out).mono ?_
  rintro e w1 ⟨rfl, kk⟩
  have T1 := Hd.mk (T0.out.step kk); clear kk
  clear HC
  have HC := Hd.mk (read15_any ⟨#[0, 0, 0, 0, 254, 255, 255, 255]⟩ 4 2 _ (by decide) ⟨by decide, by decide⟩ T1.out.t)
  rw [s_r1] at HC
  go_wp2_with fail
  refine (HC.out).mono ?_
  rintro e w2 ⟨rfl, kk⟩
  have T2 := Hd.mk (T1.out.step kk); clear kk
  clear HC
  go_wp2_with fail
  refine (encode_call _ T2.out.t.f).mono ?_
  rintro e w3 ⟨rfl, kk⟩
  have T3 := Hd.mk (T2.out.step kk); clear kk
  have HC := Hd.mk (write15_any ⟨#[22, 0, 0, 0, 0, 0, 0, 0]⟩ 0 6 12 _ (by decide) ⟨by decide, by decide⟩ ⟨by decide, by decide⟩ T3.out.t)
  rw [s_w2] at HC
  obtain ⟨q6, hq⟩ : ∃ q, (write15 ⟨#[22, 0, 0, 0, 0, 0, 0, 0]⟩ 0 6 12).1 = q := ⟨_, rfl⟩
  rw [hq] at HC
  clear hq
  go_wp2_with fail
  refine (HC.out).mono ?_
  rintro e w4 ⟨rfl, kk⟩
  have T4 := Hd.mk (T3.out.step kk); clear kk
  clear HC
  have HC := Hd.mk (write15_any ⟨#[22, 0, 0, 0, 0, 0, 0, 0]⟩ 0 5 8 _ (by decide) ⟨by decide, by decide⟩ ⟨by decide, by decide⟩ T4.out.t)
  rw [s_w3] at HC
  obtain ⟨q5, hq⟩ : ∃ q, (write15 ⟨#[22, 0, 0, 0, 0, 0, 0, 0]⟩ 0 5 8).1 = q := ⟨_, rfl⟩
  rw [hq] at HC
  clear hq
  go_wp2_with fail
  refine (HC.out).mono ?_
  rintro e w5 ⟨rfl, kk⟩
  have T5 := Hd.mk (T4.out.step kk); clear kk
  clear HC
  have HC := Hd.mk (write15_any ⟨#[22, 0, 0, 0, 0, 0, 0, 0]⟩ 0 6 16 _ (by decide) ⟨by decide, by decide⟩ ⟨by decide, by decide⟩ T5.out.t)
  rw [s_w4] at HC
  go_wp2_with fail
  refine (HC.out).mono ?_
  rintro e w6 ⟨rfl, kk⟩
  have T6 := Hd.mk (T5.out.step kk); clear kk
  clear HC
  have HC := Hd.mk (decode_any ⟨#[22, 0, 0, 0, 16, 0, 0, 0]⟩ 0 _ (by decide) ⟨by decide, by decide⟩ T6.out.t.f)
  have hdv : decV ⟨#[22, 0, 0, 0, 16, 0, 0, 0]⟩ 0 = .agg #[.int .i64 22, .int .i64 0, .int .i64 0, .int .i64 0, .int .i64 16] := by kernel_rfl
  rw [hdv, s_d1.1] at HC
  clear hdv
  go_wp2_with fail
  refine (HC.out).mono ?_
  rintro e w7 ⟨rfl, kk⟩
  have T7 := Hd.mk (T6.out.step kk); clear kk
  clear HC
  have hbl := Blk.new w7 38 [.int .i64 22, .int .i64 0, .int .i64 0, .int .i64 0, .int .i64 16]
  have TA := Hd.mk (T7.out.alloc (.cells #[.int .i64 22, .int .i64 0, .int .i64 0, .int .i64 0, .int .i64 16] 38))
  have HBl := Hd.mk hbl; clear hbl
  obtain ⟨bx, hbx⟩ : ∃ bx, w7.heap.size = bx := ⟨_, rfl⟩
  have HBX := Hd.mk hbx
  have HW := Hd.mk (width_any 6 _ TA.out.t)
  rw [show offI 6 = 4 from rfl, show sizeI 6 = 4 from rfl] at HW
  go_wp2_with fail
  refine HW.out.mono ?_
  rintro e v1 ⟨rfl, kk⟩
  have V1 := Hd.mk (TA.out.step kk)
  have P1 := Hd.mk (HBl.out.below kk HBl.out.lt); clear kk HW
  have HC := Hd.mk (value_any 3 ⟨148, 12, 0, 0, 80, 0, 0⟩ v1 (whOk_of (by decide)))
  rw [show val15 3 ⟨148, 12, 0, 0, 80, 0, 0⟩ = 10 from by decide +kernel] at HC
  go_wp2_with fail
  refine HC.out.mono ?_
  rintro e v2 ⟨rfl, kk⟩
  have V2 := Hd.mk (V1.out.step kk)
  have P2 := Hd.mk (P1.out.below kk P1.out.lt); clear kk HC
  have HC := Hd.mk (value_any 3 ⟨148, 11, 0, 0, 80, 0, 0⟩ v2 (whOk_of (by decide)))
  rw [show val15 3 ⟨148, 11, 0, 0, 80, 0, 0⟩ = -1 from by decide +kernel] at HC
  go_wp2_with fail
  refine HC.out.mono ?_
  rintro e v3 ⟨rfl, kk⟩
  have V3 := Hd.mk (V2.out.step kk)
  have P3 := Hd.mk (P2.out.below kk P2.out.lt); clear kk HC
  have HC := Hd.mk (value_any 8 ⟨2147483648, 5, 0, 0, 0, 0, 0⟩ v3 (whOk_of (by decide)))
  rw [show val15 8 ⟨2147483648, 5, 0, 0, 0, 0, 0⟩ = -2147483643 from by decide +kernel] at HC
  go_wp2_with fail
  refine HC.out.mono ?_
  rintro e v4 ⟨rfl, kk⟩
  have V4 := Hd.mk (V3.out.step kk)
  have P4 := Hd.mk (P3.out.below kk P3.out.lt); clear kk HC
  have HC := Hd.mk (value_any 9 ⟨2147483648, 5, 0, 0, 0, 0, 0⟩ v4 (whOk_of (by decide)))
  rw [show val15 9 ⟨2147483648, 5, 0, 0, 0, 0, 0⟩ = 0 from by decide +kernel] at HC
  go_wp2_with fail
  refine HC.out.mono ?_
  rintro e v5 ⟨rfl, kk⟩
  have V5 := Hd.mk (V4.out.step kk)
  have P5 := Hd.mk (P4.out.below kk P4.out.lt); clear kk HC
  have b4 : v5.cell? ⟨bx, 4, none⟩ = some (.int .i64 16) := by rw [← HBX.out]; exact P5.out.at (j := 4) rfl
  have HC := Hd.mk (code_any 10 v5 V5.out.t)
  rw [show code15 10 = true from rfl] at HC
  go_wp2_with fail
  refine HC.out.mono ?_; rintro e v6 ⟨rfl, rfl⟩
  clear HC
  have HC := Hd.mk (code_any 0 v5 V5.out.t)
  rw [show code15 0 = false from rfl] at HC
  go_wp2_with fail
  refine HC.out.mono ?_; rintro e v6 ⟨rfl, rfl⟩
  clear HC
  have HC := Hd.mk (direct_any 1 0 v5)
  rw [show direct15 1 0 = true from rfl] at HC
  go_wp2_with fail
  refine HC.out.mono ?_; rintro e v6 ⟨rfl, rfl⟩
  clear HC
  have HC := Hd.mk (direct_any 0 0 v5)
  rw [show direct15 0 0 = false from rfl] at HC
  go_wp2_with fail
  refine HC.out.mono ?_; rintro e v6 ⟨rfl, rfl⟩
  clear HC
  go_wp2
  go_ret
  exact ⟨rfl, V5.out.b⟩

end Go.Proofs.YtmngicdgapkbmaaDoor.W
