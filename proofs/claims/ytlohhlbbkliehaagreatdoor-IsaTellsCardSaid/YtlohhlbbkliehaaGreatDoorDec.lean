/-
  The walk of isa's Decode.
-/
import Derived.Test.YtlohhlbbkliehaaGreatDoorRight
import Derived.Test.YtlohhlbbkliehaaGreatDoorOrd
namespace Go.Proofs.YtlohhlbbkliehaaGreatDoor.W
open Go.RowKit
set_option linter.unusedVariables false

/-- the number in the last four bytes of an instruction -/
def immAt (s : ByteArray) (n : Nat) : Int := getI (le (cut s (n + 4) 4)) 4 true
def byteAt (s : ByteArray) (n : Nat) : Int := ((s.data.toList.getD n 0).toNat : Int)
theorem byteAt_eq (s : ByteArray) (n : Nat) (h : n < s.size) : byteAt s n = ((s[n]'h).toNat : Int) := by
  unfold byteAt
  rw [List.getD_eq_getElem?_getD, List.getElem?_eq_getElem (by rw [show s.data.toList.length = s.size from rfl]; exact h)]
  rfl
theorem byteAt_range (s : ByteArray) (n : Nat) : 0 ≤ byteAt s n ∧ byteAt s n < 256 := by
  unfold byteAt
  have := (s.data.toList.getD n 0).toNat_lt
  omega
def insAt (s : ByteArray) (n : Nat) : Bool := rightB (byteAt s n) (byteAt s (n + 1)) (byteAt s (n + 2)) (byteAt s (n + 3)) (immAt s n)
def decB (s : ByteArray) (x : Int) : Bool := decide (0 ≤ x ∧ x + 8 ≤ s.size) && insAt s x.toNat
def decV (s : ByteArray) (x : Int) : Value :=
  if decB s x then .agg #[.int .i64 (byteAt s x.toNat), .int .i64 (byteAt s (x.toNat + 1)), .int .i64 (byteAt s (x.toNat + 2)), .int .i64 (byteAt s (x.toNat + 3)), .int .i64 (immAt s x.toNat)]
  else .agg #[.int .i64 0, .int .i64 0, .int .i64 0, .int .i64 0, .int .i64 0]

theorem immAt_range (s : ByteArray) (n : Nat) (h : n + 8 ≤ s.size) : i64R (immAt s n) := by
  have hU := le_lt (cut s (n + 4) 4)
  rw [cut_length s (n + 4) 4 (by omega)] at hU
  unfold immAt getI i64R
  split <;> omega

set_option maxHeartbeats 2000000 in
set_option maxRecDepth 100000 in
theorem decode_any (s : ByteArray) (x : Int) (w : World) (hs : s.size ≤ 1000) (hx : i64R x) (hT : FormsAt w) :
    Calls Tryz.prog 11 #[.string s, .int .i64 x] w fun e w' => e = .returned (.tuple #[decV s x, .bool (decB s x)]) ∧ Below w.heap.size w w' := by
  by_cases hin : 0 ≤ x ∧ x + 8 ≤ s.size
  · obtain ⟨n, rfl⟩ : ∃ n : Nat, x = (n : Int) := ⟨x.toNat, by omega⟩
    have hn : n + 8 ≤ s.size := by omega
    have hB : Hd (decB s n = insAt s n) := ⟨by unfold decB; rw [decide_eq_true hin]; rfl⟩
    have hget := fun w => get_any s ((n : Int) + 4) 4 true w (by unfold maxLen; omega)
    have hgp : getP s ((n : Int) + 4) 4 true = (immAt s n, true) := by
      have hf : fieldB s.size ((n : Int) + 4) 4 = true := by
        simp only [fieldB]; simp; omega
      unfold getP
      rw [if_pos hf]
      have : ((n : Int) + 4).toNat = n + 4 := by omega
      rw [this]; rfl
    rw [hgp] at hget
    have HG := Hd.mk hget
    have h0 : n < s.size := by omega
    have h1 : n + 1 < s.size := by omega
    have h2 : n + 2 < s.size := by omega
    have h3 : n + 3 < s.size := by omega
    have e0 := byteAt_eq s n h0
    have e1 := byteAt_eq s (n + 1) h1
    have e2 := byteAt_eq s (n + 2) h2
    have e3 := byteAt_eq s (n + 3) h3
    have hm := immAt_range s n hn
    have t1 : ¬ (n : Int) < 0 := by omega
    have t2 : ¬ (s.size : Int) - 8 < (n : Int) := by omega
    have hsz : (s.size : Int) ≤ 1000 := by omega
    have hnz : (n : Int) ≤ 1000 := by omega
    have HE := Hd.mk (And.intro e0 (And.intro e1 (And.intro e2 e3)))
    have HM := Hd.mk hm
    have HT := Hd.mk hT
    have HN := Hd.mk hn
    have i0 : (0 : Int) ≤ (n : Int) := by omega
    have i1 : (n : Int) < (s.size : Int) := by omega
    have i2 : (0 : Int) ≤ (n : Int) + 1 := by omega
    have i3 : (n : Int) + 1 < (s.size : Int) := by omega
    have i4 : (0 : Int) ≤ (n : Int) + 2 := by omega
    have i5 : (n : Int) + 2 < (s.size : Int) := by omega
    have i6 : (0 : Int) ≤ (n : Int) + 3 := by omega
    have i7 : (n : Int) + 3 < (s.size : Int) := by omega
    have r1 : IntKind.i64.wrap ((n : Int) + 1) = (n : Int) + 1 := IntWalk.i64_in _ (by omega)
    have r2 : IntKind.i64.wrap ((n : Int) + 2) = (n : Int) + 2 := IntWalk.i64_in _ (by omega)
    have r3 : IntKind.i64.wrap ((n : Int) + 3) = (n : Int) + 3 := IntWalk.i64_in _ (by omega)
    have n1 : ((n : Int) + 1).toNat = n + 1 := by omega
    have n2 : ((n : Int) + 2).toNat = n + 2 := by omega
    have n3 : ((n : Int) + 3).toNat = n + 3 := by omega
    have wb : ∀ x : UInt8, wrap64 (x.toNat : Int) = (x.toNat : Int) := fun x => by have := x.toNat_lt; unfold wrap64; omega
    have q0 : wrap64 (((s[n]'h0).toNat : Nat) : Int) = byteAt s n := by rw [wb, e0]
    have q1 : wrap64 (((s[n + 1]'h1).toNat : Nat) : Int) = byteAt s (n + 1) := by rw [wb, e1]
    have q2 : wrap64 (((s[n + 2]'h2).toNat : Nat) : Int) = byteAt s (n + 2) := by rw [wb, e2]
    have q3 : wrap64 (((s[n + 3]'h3).toNat : Nat) : Int) = byteAt s (n + 3) := by rw [wb, e3]
    obtain ⟨x0, hx0⟩ : ∃ x, byteAt s n = x := ⟨_, rfl⟩
    obtain ⟨x1, hx1⟩ : ∃ x, byteAt s (n + 1) = x := ⟨_, rfl⟩
    obtain ⟨x2, hx2⟩ : ∃ x, byteAt s (n + 2) = x := ⟨_, rfl⟩
    obtain ⟨x3, hx3⟩ : ∃ x, byteAt s (n + 3) = x := ⟨_, rfl⟩
    obtain ⟨x4, hx4⟩ : ∃ x, immAt s n = x := ⟨_, rfl⟩
    rw [hx0] at q0; rw [hx1] at q1; rw [hx2] at q2; rw [hx3] at q3
    rw [hx4] at HM HG
    have HV : Hd (decV s n = if insAt s n then .agg #[.int .i64 x0, .int .i64 x1, .int .i64 x2, .int .i64 x3, .int .i64 x4] else .agg #[.int .i64 0, .int .i64 0, .int .i64 0, .int .i64 0, .int .i64 0]) := ⟨by
      unfold decV; rw [hB.out, Int.toNat_natCast, hx0, hx1, hx2, hx3, hx4]⟩
    have HIns : Hd (insAt s n = rightB x0 x1 x2 x3 x4) := ⟨by unfold insAt; rw [hx0, hx1, hx2, hx3, hx4]⟩
    clear hx0 hx1 hx2 hx3 hx4 wb
    clear hin hs hx hT hgp hget e0 e1 e2 e3 hm hn
    go_enter Tryz.func11, Tryz.ntmps11
    go_wp2_with fail
    refine (HG.out _).mono ?_; rintro e w1 ⟨rfl, rfl⟩
    go_wp2_with fail
    refine wp_region_lin default (fun _ => True) [(0, true), (1, true), (2, true), (3, true), (4, true), (5, true), (6, true), (7, true), (8, true), (9, true), (10, true), (11, true), (12, true), (13, true), (14, true), (15, true), (16, true), (17, true), (18, true), (19, true), (20, true), (21, false), (22, false)] (by kernel_rfl) (by kernel_rfl) rfl (by kernel_rfl) (by kernel_rfl) trivial ?_
    simp only [pick, List.getD_cons_zero, List.getD_cons_succ]
    repeat
      refine lin_free (v := ?_) (by rfl) ?_ ?_
      rotate_left
      · intro w' hSw
        go_simp
        first | done | with_reducible rfl
      simp only [Act.put, List.setIfInBounds_toArray, List.set_cons_zero, List.set_cons_succ]
    refine lin_bound (fun K hK => ?_)
    go_simp
    refine hK.out _ _ trivial ?_
    clear hK K
    refine lin_bound (fun K hK => ?_)
    go_simp
    refine hK.out _ _ trivial ?_
    clear hK K
    refine NoPanic.normal ?_
    go_wp2_with fail
    have hR : Blk ((w.alloc (.cells #[.int .i64 0, .int .i64 0, .int .i64 0, .int .i64 0, .int .i64 0] 23)).alloc (.cells #[.int .i64 x0, .int .i64 x1, .int .i64 x2, .int .i64 x3, .int .i64 x4] 23)).drew w.heap.size 23 [.int .i64 0, .int .i64 0, .int .i64 0, .int .i64 0, .int .i64 0] := ((Blk.new w 23 [.int .i64 0, .int .i64 0, .int .i64 0, .int .i64 0, .int .i64 0]).alloc _).drew
    have hI : Blk ((w.alloc (.cells #[.int .i64 0, .int .i64 0, .int .i64 0, .int .i64 0, .int .i64 0] 23)).alloc (.cells #[.int .i64 x0, .int .i64 x1, .int .i64 x2, .int .i64 x3, .int .i64 x4] 23)).drew (w.heap.size + 1) 23 [.int .i64 x0, .int .i64 x1, .int .i64 x2, .int .i64 x3, .int .i64 x4] := by
      have := (Blk.new (w.alloc (.cells #[.int .i64 0, .int .i64 0, .int .i64 0, .int .i64 0, .int .i64 0] 23)) 23 [.int .i64 x0, .int .i64 x1, .int .i64 x2, .int .i64 x3, .int .i64 x4]).drew
      rw [show (w.alloc (.cells #[.int .i64 0, .int .i64 0, .int .i64 0, .int .i64 0, .int .i64 0] 23)).heap.size = w.heap.size + 1 from by simp] at this
      exact this
    have kW : Below w.heap.size w ((w.alloc (.cells #[.int .i64 0, .int .i64 0, .int .i64 0, .int .i64 0, .int .i64 0] 23)).alloc (.cells #[.int .i64 x0, .int .i64 x1, .int .i64 x2, .int .i64 x3, .int .i64 x4] 23)).drew := by go_grown
    have HR := Hd.mk hR
    have HI := Hd.mk hI
    have HKW := Hd.mk kW
    clear hR hI kW
    refine (right_any x0 x1 x2 x3 x4 _ (HT.out.below (by go_grown)) HM.out).mono ?_
    rintro e w5 ⟨rfl, k5⟩
    have hR5 := HR.out.below k5 HR.out.lt
    have hI5 := HI.out.below k5 HI.out.lt
    have HK5 := Hd.mk (Below.chain HKW.out k5)
    have a0 := hR5.at (j := 0) rfl
    have a1 := hR5.at (j := 1) rfl
    have a2 := hR5.at (j := 2) rfl
    have a3 := hR5.at (j := 3) rfl
    have a4 := hR5.at (j := 4) rfl
    have z0 := hR5.free 0
    have z1 := hR5.free 1
    have z2 := hR5.free 2
    have z3 := hR5.free 3
    have z4 := hR5.free 4
    have c0 := hI5.at (j := 0) rfl
    have c1 := hI5.at (j := 1) rfl
    have c2 := hI5.at (j := 2) rfl
    have c3 := hI5.at (j := 3) rfl
    have c4 := hI5.at (j := 4) rfl
    clear k5 hR5 hI5
    obtain ⟨b, hb⟩ : ∃ b, rightB x0 x1 x2 x3 x4 = b := ⟨_, rfl⟩
    rw [hb]
    have HBB := Hd.mk hb
    clear hb
    rcases b with _ | _
    · have e1 : Hd (decB s n = false ∧ decV s n = .agg #[.int .i64 0, .int .i64 0, .int .i64 0, .int .i64 0, .int .i64 0]) := ⟨by rw [hB.out, HIns.out, HBB.out], by rw [HV.out, HIns.out, HBB.out]; rfl⟩
      go_wp2
      refine bodyPost_ret (v := .tuple #[.agg #[.int .i64 0, .int .i64 0, .int .i64 0, .int .i64 0, .int .i64 0], .bool false]) (by simp [results, Tryz.results11, go_sem, a0, a1, a2, a3, a4]) rfl ⟨by rw [e1.out.1, e1.out.2], ?_⟩
      exact (((((HK5.out.setCell (by simp) _).setCell (by simp) _).setCell (by simp) _).setCell (by simp) _).setCell (by simp) _)
    · have e1 : Hd (decB s n = true ∧ decV s n = .agg #[.int .i64 x0, .int .i64 x1, .int .i64 x2, .int .i64 x3, .int .i64 x4]) := ⟨by rw [hB.out, HIns.out, HBB.out], by rw [HV.out, HIns.out, HBB.out]; rfl⟩
      go_wp2
      refine bodyPost_ret (v := .tuple #[.agg #[.int .i64 x0, .int .i64 x1, .int .i64 x2, .int .i64 x3, .int .i64 x4], .bool true]) (by simp [results, Tryz.results11, go_sem, a0, a1, a2, a3, a4]) rfl ⟨by rw [e1.out.1, e1.out.2], ?_⟩
      exact (((((HK5.out.setCell (by simp) _).setCell (by simp) _).setCell (by simp) _).setCell (by simp) _).setCell (by simp) _)
  · have hB : Hd (decB s x = false) := ⟨by unfold decB; rw [decide_eq_false hin]; rfl⟩
    have hV : Hd (decV s x = .agg #[.int .i64 0, .int .i64 0, .int .i64 0, .int .i64 0, .int .i64 0]) := ⟨by unfold decV; rw [hB.out]; rfl⟩
    have hor : x < 0 ∨ (¬ x < 0 ∧ (s.size : Int) - 8 < x) := by omega
    have hsz : (s.size : Int) ≤ 1000 := by omega
    clear hin hs hx hT
    rcases hor with h | ⟨h, h'⟩
    all_goals
      go_enter Tryz.func11, Tryz.ntmps11
      go_wp2
      refine bodyPost_ret (v := .tuple #[.agg #[.int .i64 0, .int .i64 0, .int .i64 0, .int .i64 0, .int .i64 0], .bool false]) (by simp [results, Tryz.results11, go_sem]) rfl ⟨by rw [hB.out, hV.out], by go_grown⟩

end Go.Proofs.YtlohhlbbkliehaaGreatDoor.W
