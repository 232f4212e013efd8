/-
  The walks of the reference's in, Width, Code, section, num, Shape.
-/
import Derived.Test.YtimbhnnidohmaaaDoorForm3
import Derived.Test.YtimbhnnidohmaaaDoorRSum
import Derived.Laws.Rows
namespace Go.Proofs.YtimbhnnidohmaaaDoor.W
open Go.RowKit Go.Sort
set_option linter.unusedVariables false

theorem rin_any (n lo hi : Int) (w : World) : Calls Tryd.prog 48 #[.int .i64 n, .int .i64 lo, .int .i64 hi] w fun e w' => e = .returned (.bool (decide (lo ≤ n ∧ n ≤ hi))) ∧ w = w' := by
  by_cases h0 : lo ≤ n
  · by_cases h1 : n ≤ hi
    · go_enter Tryd.func48, Tryd.ntmps48
      go_wp2
      go_ret
      exact ⟨ret_b (by rw [Bool.eq_iff_iff]; simp; try omega), rfl⟩
    · go_enter Tryd.func48, Tryd.ntmps48
      go_wp2
      go_ret
      exact ⟨ret_b (by rw [Bool.eq_iff_iff]; simp; try omega), rfl⟩
  · go_enter Tryd.func48, Tryd.ntmps48
    go_wp2
    go_ret
    exact ⟨ret_b (by rw [Bool.eq_iff_iff]; simp; try omega), rfl⟩

theorem rwidth10_any (k : Int) (w : World) : Calls Tryd.prog 54 #[.int .i64 k] w fun e w' => e = .returned (.int .i64 (widthI k : Nat)) ∧ w = w' := by
  by_cases h2 : k = 2
  · subst h2
    go_enter Tryd.func54, Tryd.ntmps54
    go_wp2
    go_ret
    exact ⟨rfl, rfl⟩
  · by_cases h3 : k = 3
    · subst h3
      go_enter Tryd.func54, Tryd.ntmps54
      go_wp2
      go_ret
      exact ⟨rfl, rfl⟩
    · have e : ((widthI k : Nat) : Int) = 8 := by unfold widthI; rw [if_neg h2, if_neg h3]; rfl
      rw [e]
      have d2 : (k == 2) = false := by simpa using h2
      have d3 : (k == 3) = false := by simpa using h3
      go_enter Tryd.func54, Tryd.ntmps54
      go_wp2
      go_ret
      exact ⟨rfl, rfl⟩

theorem rcode10_any (k : Int) (w : World) : Calls Tryd.prog 55 #[.int .i64 k] w fun e w' => e = .returned (.bool (codeB k)) ∧ w = w' := by
  have H := Hd.mk (fun w => rin_any k 5 10 w)
  unfold codeB
  obtain ⟨b, hb⟩ : ∃ b, decide (5 ≤ k ∧ k ≤ 10) = b := ⟨_, rfl⟩
  rw [hb] at H ⊢
  clear hb
  go_enter Tryd.func55, Tryd.ntmps55
  go_wp2_with fail
  refine (H.out _).mono ?_; rintro e w1 ⟨rfl, rfl⟩
  go_wp2
  go_ret
  exact ⟨rfl, rfl⟩

/-- the section, or one without a kind -/
def noSec : Sec := ⟨⟨#[]⟩, -1, 0, 0, ⟨#[]⟩, false⟩
def secD (o : Ob) (i : Int) : Sec := match secAt o i with | some s => s | none => noSec

set_option maxHeartbeats 1000000 in
set_option maxRecDepth 100000 in
theorem rsection_any (w : World) (o : Ob) (x1 x2 x3 x4 x5 x6 x7 x8 x9 x10 : Value) (i : Int) (hA : o.At w x1 x2 x3 x4 x5 x6 x7 x8 x9 x10) (hl : lenR o.secs.length) :
    Calls Tryd.prog 42 #[.agg (o.cells x1 x2 x3 x4 x5 x6 x7 x8 x9 x10).toArray, .int .i64 i] w fun e w' => e = .returned (.agg (secD o i).cells.toArray) ∧ Below w.heap.size w w' := by
  have hcs : (o.cells x1 x2 x3 x4 x5 x6 x7 x8 x9 x10).toArray = #[.string o.name, x1, x2, x3, x4, x5, x6, x7, x8, x9, x10] := rfl
  rw [hcs]
  have hS := hA.secs
  obtain ⟨p, c, rfl⟩ := hS.slice
  obtain ⟨N, hN⟩ : ∃ N, o.secs.length = N := ⟨_, rfl⟩
  unfold lenR at hl
  rw [hN] at hl ⊢
  have hw1 : IntKind.i64.wrap ((N : Int) - 1) = (N : Int) - 1 := IntWalk.i64_in _ (by omega)
  have HW := Hd.mk (fun w => rin_any i 0 ((N : Int) - 1) w)
  by_cases hin : 0 ≤ i ∧ i < (N : Int)
  · obtain ⟨k, rfl⟩ := Int.eq_ofNat_of_zero_le hin.1
    have hk : k < N := by omega
    obtain ⟨g, of, cs, rfl, hg, hcl, hE, hc⟩ := hS.at rfl (j := k) (by omega)
    have hB : Hd ((secD o (k : Int)).cells.toArray = #[.string o.secs[k].name, .int .i64 o.secs[k].kind, .int .i64 o.secs[k].align, .int .i64 o.secs[k].size, .string o.secs[k].bytes, .bool o.secs[k].keep]) := ⟨by unfold secD; rw [secAt_in (by omega)]; rfl⟩
    rw [hB.out]
    obtain ⟨s, hs⟩ : ∃ s, o.secs[k] = s := ⟨_, rfl⟩
    rw [hs] at hE ⊢
    have hE' : cs = s.cells := hE
    subst hE'
    have hcell : ∀ i u, s.cells[i]? = some u → ∀ o1 o2, ((w.alloc o1).alloc o2).cell? ⟨g, of + k * 6 + i, none⟩ = some u := fun i u hu o1 o2 => by
      have h1 : (w.alloc o1).cell? ⟨g, of + k * 6 + i, none⟩ = some u := by rw [World.cell?_alloc_some _ _ _ (by rw [hc i _ hu]; rfl)]; exact hc i _ hu
      rw [World.cell?_alloc_some _ _ _ (by rw [h1]; rfl)]; exact h1
    have c0 := hcell 0 _ rfl
    have c1 := hcell 1 _ rfl
    have c2 := hcell 2 _ rfl
    have c3 := hcell 3 _ rfl
    have c4 := hcell 4 _ rfl
    have c5 := hcell 5 _ rfl
    simp only [Nat.add_zero] at c0
    rw [decide_eq_true (show 0 ≤ (k : Int) ∧ (k : Int) ≤ (N : Int) - 1 by omega)] at HW
    clear hc hE hA hS hcs hB hs hcell hN hin
    go_enter Tryd.func42, Tryd.ntmps42
    go_wp2_with fail
    refine (HW.out _).mono ?_; rintro e w1 ⟨rfl, rfl⟩
    go_wp2
    ((try simp only [Exit.inBlock, Exit.then]); refine bodyPost_ret (results_cell_row rfl _ _ (w.heap.size + 1) 52 _ (0, 0) _ rfl (heap_alloc2_new w _ _) Tryd.underlying52 rfl (by kernel_rfl)) rfl ?_)
    exact ⟨rfl, by go_grown⟩
  · have hB : Hd ((secD o i).cells.toArray = #[.string ⟨#[]⟩, .int .i64 (-1), .int .i64 0, .int .i64 0, .string ⟨#[]⟩, .bool false]) := ⟨by unfold secD; rw [secAt_out (by omega)]; rfl⟩
    rw [hB.out]
    rw [decide_eq_false (show ¬ (0 ≤ i ∧ i ≤ (N : Int) - 1) by omega)] at HW
    clear hA hS hcs hB hN hin
    go_enter Tryd.func42, Tryd.ntmps42
    go_wp2_with fail
    refine (HW.out _).mono ?_; rintro e w1 ⟨rfl, rfl⟩
    go_wp2
    ((try simp only [Exit.inBlock, Exit.then]); refine bodyPost_ret (results_cell_row rfl _ _ (w.heap.size + 1) 52 _ (0, 0) _ rfl (heap_alloc2_new w _ _) Tryd.underlying52 rfl (by kernel_rfl)) rfl ?_)
    exact ⟨rfl, by go_grown⟩

/-- a number, none if it is negative -/
def numI (x : Int) : List UInt8 := if x < 0 then [] else numL x.toNat
def numsL (ks : List Int) : List UInt8 := ks.flatMap numI
theorem numI_len (x : Int) : (numI x).length ≤ 10 := by unfold numI; split; simp; exact numL_len _
theorem numsL_len : ∀ ks : List Int, (numsL ks).length ≤ 10 * ks.length
  | [] => Nat.le_refl _
  | k :: ks => by
    have := numsL_len ks
    have h := numI_len k
    show (numI k ++ numsL ks).length ≤ _
    rw [List.length_append, List.length_cons]; omega
theorem numsL_take {ks : List Int} {j : Nat} (h : j < ks.length) : numsL (ks.take (j + 1)) = numsL (ks.take j) ++ numI ks[j] := by
  unfold numsL
  rw [List.take_succ_eq_append_getElem h, List.flatMap_append]; simp
theorem r2num_int (x : Int) (h : x ≤ 9223372036854775807) (w : World) : Calls Tryd.prog 60 #[.int .i64 x] w fun e w' => e = .returned (.string ⟨(numI x).toArray⟩) ∧ Below w.heap.size w w' := by
  unfold numI
  rcases Int.lt_or_le x 0 with h0 | h0
  · rw [if_pos h0]
    exact (r2num_neg x h0 w).mono fun e w' ⟨a, b⟩ => ⟨a, b ▸ Below.refl _ _⟩
  · rw [if_neg (by omega)]
    obtain ⟨n, rfl⟩ := Int.eq_ofNat_of_zero_le h0
    exact r2num_any n (by omega) w

set_option maxHeartbeats 1000000 in
set_option maxRecDepth 100000 in
theorem rnum_any (w : World) (v : Value) (ks : List Int) (hR : Rw 1 intE w v ks) (hl : ks.length ≤ 1000000) (hk : ∀ x ∈ ks, x ≤ 9223372036854775807) :
    Calls Tryd.prog 52 #[v] w fun e w' => e = .returned (.string ⟨(numsL ks).toArray⟩) ∧ Below w.heap.size w w' := by
  obtain ⟨p, c, rfl⟩ := hR.slice
  obtain ⟨fs, hfs⟩ : ∃ fs : ByteArray, (⟨(numsL ks).toArray⟩ : ByteArray) = fs := ⟨_, rfl⟩
  have HFs := Hd.mk hfs
  rw [hfs]
  have HR := Hd.mk hR
  have HKs := Hd.mk hk
  obtain ⟨N, hN⟩ : ∃ N, ks.length = N := ⟨_, rfl⟩
  rw [hN] at hl HR
  rw [hN]
  have HN := Hd.mk hN
  clear hR hfs hN hk
  go_enter Tryd.func52, Tryd.ntmps52
  go_wp2
  go_loopw [3, 4] (fun sv iv wr => ∃ (j : Nat) (s : ByteArray), j ≤ N ∧ iv = .int .i64 j ∧ sv = .string s ∧ Hd (s.data.toList = numsL (ks.take j)) ∧ Hd (Below w.heap.size w wr)) (fun _ iv _ => N - (intOf iv).toNat)
  case atStart => exact ⟨0, ⟨#[]⟩, Nat.zero_le _, rfl, rfl, ⟨rfl⟩, ⟨Below.refl _ _⟩⟩
  case round =>
    obtain ⟨j, s, hj, rfl, rfl, HS, HB⟩ := hrel
    by_cases hlt : j < N
    · have hjl : j < ks.length := by rw [HN.out]; exact hlt
      obtain ⟨g, of, cs, hpp, hg, _, hE, hc⟩ := (HR.out.below intE_stays HB.out).at rfl (j := j) hjl
      obtain rfl := hpp
      obtain rfl : cs = [.int .i64 ks[j]] := hE
      have c0 := hc 0 _ rfl
      rw [Nat.mul_one, Nat.add_zero] at c0
      have HQ := Hd.mk (fun w => r2num_int ks[j] (HKs.out _ (List.getElem_mem hjl)) w)
      obtain ⟨x, hx⟩ : ∃ x, ks[j] = x := ⟨_, rfl⟩
      obtain ⟨t, ht⟩ : ∃ t : ByteArray, (⟨(numI x).toArray⟩ : ByteArray) = t := ⟨_, rfl⟩
      have hnext : Hd ((s ++ t).data.toList = numsL (ks.take (j + 1))) := ⟨by rw [numsL_take hjl, hx, ← HS.out, ← ht]; simp [ByteArray.data_append]⟩
      have zs : s.size ≤ 10 * j := by
        have h1 : s.size = s.data.toList.length := by simp
        rw [h1, HS.out]
        have := numsL_len (ks.take j)
        rw [List.length_take] at this
        omega
      have zt : t.size ≤ 10 := by rw [← ht]; exact numI_len x
      rw [hx] at HQ c0
      rw [ht] at HQ
      have y1 : ¬ 9223372036854775807 < s.size + t.size := by omega
      have hms : N - (intOf (.int .i64 ((j : Int) + 1))).toNat < N - (intOf (.int .i64 (j : Int))).toNat := by simp [intOf]; omega
      clear hc hx ht zs zt hg hj
      go_wp2_with fail
      refine (HQ.out _).mono ?_
      rintro e w1 ⟨rfl, hb1⟩
      have HB1 : Hd (Below w.heap.size w w1) := ⟨HB.out.trans (hb1.mono HB.out.size)⟩
      clear hb1
      go_wp2
      go_roundw
      case rel => exact ⟨j + 1, _, hlt, by go_num, rfl, hnext, HB1⟩
      case measure => exact hms
    · have hjn : j = N := by omega
      subst hjn
      have hd : decide ((j : Int) < (j : Int)) = false := by simp
      have hfin : s = fs := by
        rw [← HFs.out]
        apply ByteArray.ext
        have := HS.out
        rw [← HN.out, List.take_length] at this
        rw [← this]
      rw [hfin]
      clear hfin
      go_wp2
      go_ret
      exact ⟨rfl, HB.out⟩

set_option maxHeartbeats 1000000 in
set_option maxRecDepth 100000 in
theorem rshape_any (w : World) (kn an zn : Nat) (b : ByteArray) (hk : kn ≤ 9223372036854775807) (ha : an ≤ 9223372036854775807) (hz : zn ≤ 9223372036854775807) (hb : b.size ≤ 800000) :
    Calls Tryd.prog 44 #[.int .i64 kn, .int .i64 an, .int .i64 zn, .string b] w fun e w' => e = .returned (.string ⟨(shapeL kn an zn b.data.toList).toArray⟩) ∧ Below w.heap.size w w' := by
  obtain ⟨n1, hn1⟩ : ∃ n1 : ByteArray, (⟨(numsL [(kn : Int), (an : Int), (zn : Int)]).toArray⟩ : ByteArray) = n1 := ⟨_, rfl⟩
  obtain ⟨tx, htx⟩ : ∃ tx : ByteArray, (⟨(textL b.data.toList).toArray⟩ : ByteArray) = tx := ⟨_, rfl⟩
  have hfin : (⟨(shapeL kn an zn b.data.toList).toArray⟩ : ByteArray) = n1 ++ tx := by
    rw [← hn1, ← htx]
    have e : ∀ n : Nat, numI (n : Int) = numL n := fun n => by unfold numI; rw [if_neg (by omega)]; rfl
    apply ByteArray.ext
    simp [ByteArray.data_append, shapeL, numsL, e]
  rw [hfin]
  have z1 : n1.size ≤ 30 := by rw [← hn1]; exact numsL_len [(kn : Int), (an : Int), (zn : Int)]
  have z2 : tx.size ≤ b.size + 10 := by rw [← htx]; exact textL_len b.data.toList
  have y1 : ¬ 9223372036854775807 < n1.size + tx.size := by omega
  have HQ1 := Hd.mk (fun (w : World) (v : Value) h => rnum_any w v [(kn : Int), (an : Int), (zn : Int)] h (by show 3 ≤ 1000000; decide) (by intro x hx; simp at hx; rcases hx with rfl | rfl | rfl <;> omega))
  have HQ2 := Hd.mk (fun w => r2text_any b (by omega) w)
  rw [hn1] at HQ1
  rw [htx] at HQ2
  have HRw : Hd (Rw 1 intE (w.alloc (.cells #[.int .i64 (kn : Int), .int .i64 (an : Int), .int .i64 (zn : Int)] 3)) (.slice (some ⟨w.heap.size, 0, none⟩) 3 3) [(kn : Int), (an : Int), (zn : Int)]) := ⟨Rw.ints (ks := [(kn : Int), (an : Int), (zn : Int)]) (Blk.new w 3 _)⟩
  clear hfin hn1 htx z1 z2 hk ha hz hb
  go_enter Tryd.func44, Tryd.ntmps44
  go_wp2_with fail
  refine (HQ1.out _ _ HRw.out).mono ?_
  rintro e w1 ⟨rfl, hb1⟩
  have HB1 : Hd (Below w.heap.size w w1) := ⟨Below.trans (by go_grown) (hb1.mono (by simp))⟩
  clear hb1
  go_wp2_with fail
  refine (HQ2.out _).mono ?_
  rintro e w2 ⟨rfl, hb2⟩
  have HB2 : Hd (Below w.heap.size w w2) := ⟨HB1.out.trans (hb2.mono HB1.out.size)⟩
  clear hb2
  go_wp2
  go_ret
  exact ⟨rfl, HB2.out⟩

end Go.Proofs.YtimbhnnidohmaaaDoor.W
