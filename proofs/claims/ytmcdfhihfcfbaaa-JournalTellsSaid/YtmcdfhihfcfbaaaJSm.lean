/-
  The walk of small.
-/
import Derived.Test.YtmcdfhihfcfbaaaJW
namespace Go.Proofs.Ytmcdfhihfcfbaaa.W
open Go.RowKit
set_option linter.unusedVariables false

abbrev sA : ByteArray := ⟨#[97]⟩
abbrev sB : ByteArray := ⟨#[98]⟩
abbrev sC : ByteArray := ⟨#[99]⟩
def j1 : St := appS newS ⟨2, [], 0⟩ sA
def j2 : St := (fluP j1 ⟨2, [sA], 0⟩).2
def j3 : St := appS j2 ⟨2, [sA], 1⟩ sB
def j4 : St := crashS j3 []
def j5 : St := startS j4
def j6 : St := (rewP j5 2 [sB, sC]).2
def j7 : St := crashS j6 []
def j8 : St := startS j7

def fitqB (σ : St) (b : Nat) : Bool := decide (σ.armed ≤ 9223372036854775807) && decide (σ.lost ≤ 9223372036854775807) && decide (σ.keep.length ≤ 100000) && decide (σ.queue.length ≤ b)
theorem fitq_of {σ : St} {b : Nat} (h : fitqB σ b = true) : FitQ σ b := by
  simp only [fitqB, Bool.and_eq_true, decide_eq_true_eq] at h
  exact ⟨h.1.1.1, h.1.1.2, h.1.2, h.2⟩

theorem i0 : openP newS 2 = (0, []) := by kernel_rfl
theorem i1 : (appE newS ⟨2, [], 0⟩ sA : Int) = 0 ∧ appL newS ⟨2, [], 0⟩ sA = ⟨2, [sA], 0⟩ := ⟨by kernel_rfl, by kernel_rfl⟩
theorem i2 : (((fluP j1 ⟨2, [sA], 0⟩).1 : Nat) : Int) = 0 ∧ fluL j1 ⟨2, [sA], 0⟩ = ⟨2, [sA], 1⟩ := ⟨by kernel_rfl, by kernel_rfl⟩
theorem i3 : (appE j2 ⟨2, [sA], 1⟩ sB : Int) = 0 ∧ appL j2 ⟨2, [sA], 1⟩ sB = ⟨2, [sA, sB], 1⟩ := ⟨by kernel_rfl, by kernel_rfl⟩
theorem i5 : openP j5 2 = (0, [sA]) := by kernel_rfl
theorem i6 : (((rewP j5 2 [sB, sC]).1 : Nat) : Int) = 0 ∧ rewL j5 ⟨2, [sA], 1⟩ [sB, sC] = ⟨2, [sB, sC], 2⟩ := ⟨by kernel_rfl, by kernel_rfl⟩
theorem i8 : openP j8 2 = (0, [sB, sC]) := by kernel_rfl

theorem q1 : fitqB newS 1000 = true := by kernel_rfl
theorem q2 : fitqB j1 1000 = true := by kernel_rfl
theorem q3 : fitqB j2 1000 = true := by kernel_rfl
theorem q4 : fitqB j3 1000 = true := by kernel_rfl
theorem q6 : fitqB j5 1000 = true := by kernel_rfl
theorem q7 : fitqB j6 1000 = true := by kernel_rfl

theorem rew_forms : (formsL [sB, sC]).length ≤ 100000000 := by decide +kernel

/-- a row of literals -/
theorem lit_strs {w' : World} {g : Nat} {ks : List ByteArray} {cap n : Nat} (hb : Blk w' g 9 (ks.map Value.string)) (hn : ks.length = n) : Rw 1 strE w' (.slice (some ⟨g, 0, none⟩) n cap) ks := by
  subst hn
  exact Rw.strs hb

theorem same_yes (w : World) (v u : Value) (xs : List ByteArray) (hl : xs.length ≤ 9223372036854775807) (h : Rw 1 strE w v xs) (k : Rw 1 strE w u xs) :
    Calls Try.prog 15 #[v, u] w fun e w' => e = .returned (.bool true) ∧ Below w.heap.size w w' :=
  (same_any w v u xs xs hl hl h k).mono fun e w' ⟨he, hb⟩ => ⟨by rw [he, decide_eq_true rfl], hb⟩

set_option maxHeartbeats 2000000 in
set_option maxRecDepth 100000 in
theorem small_any (w : World) : Calls Try.prog 8 #[] w fun e w' => e = .returned (.bool true) ∧ Below w.heap.size w w' := by
  go_enter Try.func8, Try.ntmps8
  go_wp2_with fail
  refine (One.new w).mono ?_; rintro e w0 ⟨D, rfl, h0⟩
  have H0 := Hd.mk h0; clear h0
  go_wp2_with fail
  refine (H0.out.openYes (X := fun _ => False) 2 [] i0 (fun _ h => h.elim)).mono ?_; rintro e w1 ⟨L, rfl, h1, _, _⟩
  have H1 : Hd (JW w w1 D L newS ⟨2, [], 0⟩ (fun _ => False)) := ⟨h1⟩
  clear h1 H0
  go_wp2_with fail
  refine (H1.out.run ((jAppend_op _ L D _ sA newS 1000 (fitq_of q1) (by decide) (by decide)).to (σ' := j1) rfl i1.2 (congrArg (Value.int .i64) i1.1))).mono ?_; rintro e w2 ⟨rfl, h2⟩
  have H2 : Hd (JW w w2 D L j1 ⟨2, [sA], 0⟩ (fun _ => False)) := ⟨h2.jw⟩
  clear h2 H1
  go_wp2_with fail
  refine (H2.out.run ((jFlush_op _ L D _ j1 1000 (fitq_of q2) (by decide)).to (σ' := j2) rfl i2.2 (congrArg (Value.int .i64) i2.1))).mono ?_; rintro e w3 ⟨rfl, h3⟩
  have H3 : Hd (JW w w3 D L j2 ⟨2, [sA], 1⟩ (fun _ => False)) := ⟨h3.jw⟩
  clear h3 H2
  go_wp2_with fail
  refine (H3.out.run ((jAppend_op _ L D _ sB j2 1000 (fitq_of q3) (by decide) (by decide)).to (σ' := j3) rfl i3.2 (congrArg (Value.int .i64) i3.1))).mono ?_; rintro e w4 ⟨rfl, h4⟩
  have H4 : Hd (JW w w4 D L j3 ⟨2, [sA, sB], 1⟩ (fun _ => False)) := ⟨h4.jw⟩
  clear h4 H3
  go_wp2_with fail
  refine (H4.out.sureOf).mono ?_; rintro e wx ⟨rfl, rfl⟩
  go_wp2_with fail
  refine (H4.out.run (OpC.lop (OpC.crash (.slice none 0 0) [] j4 (by decide) ((fitq_of q4).fit (by decide)) (IR.nil _ _) rfl))).mono ?_; rintro e w5 ⟨rfl, h5⟩
  have H5 := Hd.mk h5.jw; clear h5 H4
  go_wp2_with fail
  refine (H5.out.run (OpC.lop (OpC.start j5 rfl))).mono ?_; rintro e w6 ⟨rfl, h6⟩
  have H6 := Hd.mk h6.jw.one; clear h6 H5
  go_wp2_with fail
  refine (H6.out.openYes (X := fun _ => False) 2 [sA] i5 (fun _ h => h.elim)).mono ?_; rintro e w7 ⟨M, rfl, h7, _, _⟩
  have H7 : Hd (JW w w7 D M j5 ⟨2, [sA], 1⟩ (fun _ => False)) := ⟨h7⟩
  clear h7 H6
  go_wp2_with fail
  refine (H7.out.all).mono ?_; rintro e w8 ⟨v8, rfl, hO8, h8, hb8⟩
  have H8 := Hd.mk h8
  have HO8 := Hd.mk (Rw.of_str (xs := [sA]) hO8)
  clear h8 hO8 hb8 H7
  obtain ⟨p8, c8, hv8⟩ := HO8.out.slice
  have hv8 : v8 = .slice p8 1 c8 := hv8
  subst hv8
  go_wp2_with fail
  have hl8 : Rw 1 strE (w8.alloc (.cells #[.string sA] 9)) (.slice (some ⟨w8.heap.size, 0, none⟩) 1 1) [sA] := lit_strs (Blk.new w8 9 [.string sA]) rfl
  refine (same_yes _ (.slice p8 1 c8) _ [sA] (by decide) (HO8.out.keepsStr ((Keeps.refl (fun _ => False) w8).alloc _) (fun _ _ _ _ _ _ h => h)) hl8).mono ?_; rintro e w9 ⟨rfl, hb9⟩
  have H9 := Hd.mk ((H8.out.alloc _).of_below hb9)
  clear hb9 hl8 HO8 H8
  go_wp2_with fail
  have hl9 : Rw 1 strE (w9.alloc (.cells #[.string sB, .string sC] 9)) (.slice (some ⟨w9.heap.size, 0, none⟩) 2 2) [sB, sC] := lit_strs (Blk.new w9 9 [.string sB, .string sC]) rfl
  refine ((H9.out.alloc _).rewriteTo _ 2 2 [sB, sC] rfl 1000 (fitq_of q6) (by decide) rew_forms hl9 (fun a ha _ => .inr (by injection ha with ha; subst ha; exact ⟨_, _, (Blk.new w9 9 [.string sB, .string sC]).is⟩)) 0 i6.1 (σ' := j6) rfl i6.2).mono ?_
  rintro e w10 ⟨rfl, h10⟩
  have H10 : Hd (JW w w10 D M j6 ⟨2, [sB, sC], 2⟩ (fun _ => False)) := ⟨h10.jw⟩
  clear h10 H9 hl9
  go_wp2_with fail
  refine (H10.out.run (OpC.lop (OpC.crash (.slice none 0 0) [] j7 (by decide) ((fitq_of q7).fit (by decide)) (IR.nil _ _) rfl))).mono ?_; rintro e w11 ⟨rfl, h11⟩
  have H11 := Hd.mk h11.jw; clear h11 H10
  go_wp2_with fail
  refine (H11.out.run (OpC.lop (OpC.start j8 rfl))).mono ?_; rintro e w12 ⟨rfl, h12⟩
  have H12 := Hd.mk h12.jw.one; clear h12 H11
  go_wp2_with fail
  refine (H12.out.openYes (X := fun _ => False) 2 [sB, sC] i8 (fun _ h => h.elim)).mono ?_; rintro e w13 ⟨N, rfl, h13, _, _⟩
  have H13 : Hd (JW w w13 D N j8 ⟨2, [sB, sC], 2⟩ (fun _ => False)) := ⟨h13⟩
  clear h13 H12
  go_wp2_with fail
  refine (H13.out.all).mono ?_; rintro e w14 ⟨v14, rfl, hO14, h14, hb14⟩
  have H14 := Hd.mk h14
  have HO14 := Hd.mk (Rw.of_str (xs := [sB, sC]) hO14)
  clear h14 hO14 hb14 H13
  obtain ⟨p14, c14, hv14⟩ := HO14.out.slice
  have hv14 : v14 = .slice p14 2 c14 := hv14
  subst hv14
  go_wp2_with fail
  have hl14 : Rw 1 strE (w14.alloc (.cells #[.string sB, .string sC] 9)) (.slice (some ⟨w14.heap.size, 0, none⟩) 2 2) [sB, sC] := lit_strs (Blk.new w14 9 [.string sB, .string sC]) rfl
  refine (same_yes _ (.slice p14 2 c14) _ [sB, sC] (by decide) (HO14.out.keepsStr ((Keeps.refl (fun _ => False) w14).alloc _) (fun _ _ _ _ _ _ h => h)) hl14).mono ?_; rintro e w15 ⟨rfl, hb15⟩
  have H15 := Hd.mk ((H14.out.alloc _).of_below hb15)
  clear hb15 hl14 HO14 H14
  go_wp2_with fail
  refine (H15.out.sureOf).mono ?_; rintro e wx ⟨rfl, rfl⟩
  go_wp2
  go_ret
  exact ⟨rfl, H15.out.below⟩

end Go.Proofs.Ytmcdfhihfcfbaaa.W
