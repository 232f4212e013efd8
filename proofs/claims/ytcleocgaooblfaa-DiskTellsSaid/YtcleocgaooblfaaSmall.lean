/-
  The walk of small: a small example on states that the kernel reckons.
-/
import Derived.Test.YtcleocgaooblfaaOne
namespace Go.Proofs.Ytcleocgaooblfaa.W
open Go.RowKit
set_option linter.unusedVariables false

def fitB (σ : St) : Bool := decide (σ.armed ≤ 9223372036854775807) && decide (σ.lost ≤ 9223372036854775807) && decide (σ.keep.length ≤ 1000000000) && decide (σ.queue.length ≤ 100000000)
theorem fit_of {σ : St} (h : fitB σ = true) : Fit σ := by
  simp only [fitB, Bool.and_eq_true, decide_eq_true_eq] at h
  exact ⟨h.1.1.1, h.1.1.2, h.1.2, Nat.le_trans h.2 (by decide)⟩
theorem fit_q {σ : St} (h : fitB σ = true) {n : Nat} (hn : n ≤ 100000000) : σ.queue.length + n ≤ 1000000000 := by
  simp only [fitB, Bool.and_eq_true, decide_eq_true_eq] at h
  omega

def bHello : ByteArray := ⟨#[104, 101, 108, 108, 111]⟩
def z1 : St := WriteS newS 1 0 [104, 101, 108, 108, 111]
def z2 : St := FlushS z1 1
def z3 : St := WriteS z2 1 5 [121]
def z4 : St := WriteS z3 1 8 [122]
def z5 : St := crashS z4 [1]
def z6 : St := startS z5
def z7 : St := loseS z6 1
def z8 : St := FlushS z7 1
def z9 : St := WriteS z8 2 0 [120]
def z10 : St := TurnS z9 1 2
def z11 : St := FlushS z10 2
def z12 : St := TurnS z11 1 2
def z13 : St := WriteS z12 3 30 [97, 98, 99, 100]
def z14 : St := crashS z13 [0, 1]
def z15 : St := startS z14
def z16 : St := WriteS z15 8 0 []
def z17 : St := WriteS z16 0 (-1) []
def z18 : St := CutS z17 1 2

theorem k1 : fitB newS = true := by kernel_rfl
theorem k2 : fitB z1 = true := by kernel_rfl
theorem k3 : fitB z2 = true := by kernel_rfl
theorem k4 : fitB z3 = true := by kernel_rfl
theorem k5 : fitB z4 = true := by kernel_rfl
theorem k8 : fitB z7 = true := by kernel_rfl
theorem k9 : fitB z8 = true := by kernel_rfl
theorem k10 : fitB z9 = true := by kernel_rfl
theorem k11 : fitB z10 = true := by kernel_rfl
theorem k12 : fitB z11 = true := by kernel_rfl
theorem k13 : fitB z12 = true := by kernel_rfl
theorem k14 : fitB z13 = true := by kernel_rfl
theorem k16 : fitB z15 = true := by kernel_rfl
theorem k17 : fitB z16 = true := by kernel_rfl
theorem k18 : fitB z17 = true := by kernel_rfl

set_option maxHeartbeats 2000000 in
set_option maxRecDepth 100000 in
theorem small_any (w : World) : Calls Try.prog 10 #[] w fun e w' => e = .returned (.bool true) ∧ Below w.heap.size w w' := by
  go_enter Try.func10, Try.ntmps10
  go_wp2_with fail
  refine (One.new w).mono ?_; rintro e w0 ⟨D, rfl, h0⟩
  go_wp2_with fail
  refine (h0.write 1 0 ⟨#[104, 101, 108, 108, 111]⟩ 0 z1 (fit_of k1) (fit_q k1 (by decide)) (by decide) (by decide) (by kernel_rfl) rfl).mono ?_; rintro e w1 ⟨rfl, h1⟩
  clear h0
  go_wp2_with fail
  refine (h1.flush 1 0 z2 (fit_of k2) (by kernel_rfl) rfl).mono ?_; rintro e w2 ⟨rfl, h2⟩
  clear h1
  go_wp2_with fail
  refine (h2.write 1 5 ⟨#[121]⟩ 0 z3 (fit_of k3) (fit_q k3 (by decide)) (by decide) (by decide) (by kernel_rfl) rfl).mono ?_; rintro e w3 ⟨rfl, h3⟩
  clear h2
  go_wp2_with fail
  refine (h3.write 1 8 ⟨#[122]⟩ 0 z4 (fit_of k4) (fit_q k4 (by decide)) (by decide) (by decide) (by kernel_rfl) rfl).mono ?_; rintro e w4 ⟨rfl, h4⟩
  clear h3
  go_wp2_with fail
  refine ((h4.alloc _).crash _ [1] z5 (by decide) (fit_of k5) (h4.row1 1) rfl).mono ?_; rintro e w5 ⟨rfl, h5⟩
  clear h4
  go_wp2_with fail
  refine (h5.read 1 ⟨#[]⟩ 10 (by kernel_rfl) (by kernel_rfl)).mono ?_; rintro e w5' ⟨rfl, h5'⟩
  clear h5
  go_wp2_with fail
  refine (h5'.down true (by kernel_rfl)).mono ?_; rintro e w6 ⟨rfl, rfl⟩
  go_wp2_with fail
  refine (h5'.start z6 rfl).mono ?_; rintro e w6 ⟨rfl, h6⟩
  clear h5'
  go_wp2_with fail
  refine (h6.read 1 ⟨#[104, 101, 108, 108, 111, 121]⟩ 0 (by kernel_rfl) (by kernel_rfl)).mono ?_; rintro e w6' ⟨rfl, h6'⟩
  clear h6
  go_wp2_with fail
  refine (h6'.lose 1 z7 (by decide) rfl).mono ?_; rintro e w7 ⟨rfl, h7⟩
  clear h6'
  go_wp2_with fail
  refine (h7.flush 1 12 z8 (fit_of k8) (by kernel_rfl) rfl).mono ?_; rintro e w8 ⟨rfl, h8⟩
  clear h7
  go_wp2_with fail
  refine (h8.write 2 0 ⟨#[120]⟩ 0 z9 (fit_of k9) (fit_q k9 (by decide)) (by decide) (by decide) (by kernel_rfl) rfl).mono ?_; rintro e w9 ⟨rfl, h9⟩
  clear h8
  go_wp2_with fail
  refine (h9.turn 1 2 11 z10 (fit_of k10) (by kernel_rfl) rfl).mono ?_; rintro e w10 ⟨rfl, h10⟩
  clear h9
  go_wp2_with fail
  refine (h10.flush 2 0 z11 (fit_of k11) (by kernel_rfl) rfl).mono ?_; rintro e w11 ⟨rfl, h11⟩
  clear h10
  go_wp2_with fail
  refine (h11.turn 1 2 0 z12 (fit_of k12) (by kernel_rfl) rfl).mono ?_; rintro e w12 ⟨rfl, h12⟩
  clear h11
  go_wp2_with fail
  refine (h12.read 1 ⟨#[120]⟩ 0 (by kernel_rfl) (by kernel_rfl)).mono ?_; rintro e w12' ⟨rfl, h12'⟩
  clear h12
  go_wp2_with fail
  refine (h12'.write 3 30 ⟨#[97, 98, 99, 100]⟩ 0 z13 (fit_of k13) (fit_q k13 (by decide)) (by decide) (by decide) (by kernel_rfl) rfl).mono ?_; rintro e w13 ⟨rfl, h13⟩
  clear h12'
  go_wp2_with fail
  refine ((h13.alloc _).crash _ [0, 1] z14 (by decide) (fit_of k14) (h13.row2 0 1) rfl).mono ?_; rintro e w14 ⟨rfl, h14⟩
  clear h13
  go_wp2_with fail
  refine (h14.start z15 rfl).mono ?_; rintro e w15 ⟨rfl, h15⟩
  clear h14
  go_wp2_with fail
  refine (h15.read 3 ⟨#[0, 0, 0, 0, 0, 0, 0, 0, 0, 0, 0, 0, 0, 0, 0, 0, 0, 0, 0, 0, 0, 0, 0, 0, 0, 0, 0, 0, 0, 0, 0, 0, 99, 100]⟩ 0 (by kernel_rfl) (by kernel_rfl)).mono ?_; rintro e w15' ⟨rfl, h15'⟩
  clear h15
  have hx : (((⟨#[0, 0, 0, 0, 0, 0, 0, 0, 0, 0, 0, 0, 0, 0, 0, 0, 0, 0, 0, 0, 0, 0, 0, 0, 0, 0, 0, 0, 0, 0, 0, 0, 99, 100]⟩ : ByteArray).extract 32 34).toList = [99, 100]) := by rw [_root_.Go.ByteArray.toList_eq]; kernel_rfl
  go_wp2_with fail
  refine (h15'.sizeOf 2 0 (by kernel_rfl)).mono ?_; rintro e w16 ⟨rfl, rfl⟩
  go_wp2_with fail
  refine (h15'.write 8 0 ⟨#[]⟩ 1 z16 (fit_of k16) (fit_q k16 (by decide)) (by decide) (by decide) (by kernel_rfl) rfl).mono ?_; rintro e w16 ⟨rfl, h16⟩
  clear h15'
  go_wp2_with fail
  refine (h16.write 0 (-1) ⟨#[]⟩ 1 z17 (fit_of k17) (fit_q k17 (by decide)) (by decide) (by decide) (by kernel_rfl) rfl).mono ?_; rintro e w17 ⟨rfl, h17⟩
  clear h16
  go_wp2_with fail
  refine (h17.cut 1 2 1 z18 (fit_of k18) (by kernel_rfl) rfl).mono ?_; rintro e w18 ⟨rfl, h18⟩
  clear h17
  go_wp2
  go_ret
  exact ⟨rfl, h18.below⟩

end Go.Proofs.Ytcleocgaooblfaa.W
