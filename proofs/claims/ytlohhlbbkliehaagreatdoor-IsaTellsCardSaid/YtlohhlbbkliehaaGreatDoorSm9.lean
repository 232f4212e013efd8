/-
  The law's few examples; lists of registers compared.
-/
import Derived.Test.YtlohhlbbkliehaaGreatDoorPar9
import Derived.Test.YtlohhlbbkliehaaGreatDoorUses
import Derived.Test.YtlohhlbbkliehaaGreatDoorEnc
namespace Go.Proofs.YtlohhlbbkliehaaGreatDoor.W
open Go.RowKit
set_option linter.unusedVariables false

/-! ### closed facts -/
theorem e_enc : encS 13 1 2 0 (-1) = ⟨#[13, 1, 2, 0, 255, 255, 255, 255]⟩ := by kernel_rfl
theorem e_right : rightB 13 1 2 0 (-1) = true := by kernel_rfl
theorem e_wrong : rightB 0 0 0 0 0 = false := by kernel_rfl
theorem e_dec : decV ⟨#[120, 120, 13, 1, 2, 0, 255, 255, 255, 255]⟩ 2 = .agg #[.int .i64 13, .int .i64 1, .int .i64 2, .int .i64 0, .int .i64 (-1)] := by kernel_rfl
theorem e_decb : decB ⟨#[120, 120, 13, 1, 2, 0, 255, 255, 255, 255]⟩ 2 = true := by kernel_rfl
theorem e_p1 : parseL [32, 108, 111, 97, 100, 32, 114, 51, 44, 114, 49, 53, 32, 44, 32, 48, 56] = (0, 15, ⟨3, 15, 0, 8⟩) := by kernel_rfl
theorem e_p2 : parseL [106, 117, 109, 112, 32, 52] = (6, 0, ⟨0, 0, 0, 0⟩) := by kernel_rfl
theorem e_p3 : parseL [106, 117, 109, 112] = (2, 0, ⟨0, 0, 0, 0⟩) := by kernel_rfl
theorem e_p4 : parseL [109, 111, 118, 101, 32, 114, 49, 44, 32, 114, 49, 54] = (6, 0, ⟨0, 0, 0, 0⟩) := by kernel_rfl
theorem e_u1 : usesR 28 4 0 0 0 = [15] := by kernel_rfl
theorem sorted_pair : ([4, 15] : List Int).mergeSort (fun x y => decide (x ≤ y)) = [4, 15] := List.mergeSort_of_pairwise (by decide)
theorem e_u2 : usesW 28 4 0 0 0 = [4, 15] := by
  have h1 : usesW 28 4 0 0 0 = regsL 4 0 0 0 [65, 83] := by kernel_rfl
  have h2 : ([65, 83] : List UInt8).map (regN 4 0 0 0) = [4, 15] := by kernel_rfl
  rw [h1]
  unfold regsL
  rw [h2, sorted_pair]
  show Lib.compact [4, 15] = [4, 15]
  decide
theorem e_t1 : textL 13 1 2 0 (-1) = [97, 100, 100, 105, 32, 114, 49, 44, 32, 114, 50, 44, 32, 45, 49] := by kernel_rfl
theorem e_t2 : textL 26 0 0 0 0 = [114, 101, 116, 117, 114, 110] := by kernel_rfl

/-! ### lists compared -/
set_option maxHeartbeats 1000000 in
set_option maxRecDepth 100000 in
theorem ints_any (v1 v2 : Value) (l1 l2 : List Int) (w : World) (h1 : Rw 1 intE w v1 l1) (h2 : Rw 1 intE w v2 l2) (hl : l1.length ≤ 1000000) (hl2 : l2.length ≤ 1000000) :
    Calls Tryz.prog 21 #[v1, v2] w fun e w' => e = .returned (.bool (decide (l1 = l2))) ∧ Below w.heap.size w w' := by
  obtain ⟨p1, c1, rfl⟩ := h1.slice
  obtain ⟨p2, c2, rfl⟩ := h2.slice
  have H1 := Hd.mk h1
  have H2 := Hd.mk h2
  clear h1 h2
  obtain ⟨n1, hn1⟩ : ∃ n, l1.length = n := ⟨_, rfl⟩
  obtain ⟨n2, hn2⟩ : ∃ n, l2.length = n := ⟨_, rfl⟩
  rw [hn1] at H1
  rw [hn2] at H2
  rw [hn1, hn2]
  by_cases hne : n1 = n2
  · subst hne
    have b0 : ((n1 : Int) != (n1 : Int)) = false := by simp
    have HN := Hd.mk (And.intro hn1 hn2)
    have hb : n1 ≤ 1000000 := by omega
    clear hl hl2 hn1 hn2
    go_enter Tryz.func21, Tryz.ntmps21
    go_wp2_with fail
    go_loopw [5] (fun i wr => ∃ k : Nat, k ≤ n1 ∧ i = .int .i64 k ∧ Hd (Below w.heap.size w wr) ∧ Hd (l1.take k = l2.take k)) (fun i _ => n1 - (intOf i).toNat)
    case atStart => exact ⟨0, Nat.zero_le _, rfl, ⟨Below.refl _ _⟩, ⟨by simp⟩⟩
    case round =>
      obtain ⟨k, hk, rfl, HB, HE⟩ := hrel
      by_cases hlt : k < n1
      · have hd1 : decide ((k : Int) < (n1 : Int)) = true := by simp; omega
        have hk1 : k < l1.length := by rw [HN.out.1]; exact hlt
        have hk2 : k < l2.length := by rw [HN.out.2]; exact hlt
        have hr1 := H1.out.below intE_stays HB.out
        have hr2 := H2.out.below intE_stays HB.out
        obtain ⟨g1, o1, cs1, e1, hg1, hl1, he1, hc1⟩ := hr1.at rfl hk1
        obtain ⟨g2, o2, cs2, e2, hg2, hl2, he2, hc2⟩ := hr2.at rfl hk2
        unfold intE at he1 he2
        subst e1 e2 he1 he2
        have c1 := hc1 0 _ rfl
        have c2 := hc2 0 _ rfl
        rw [Nat.mul_one, Nat.add_zero] at c1 c2
        have ht : Hd (l1.take (k + 1) = l2.take (k + 1) ↔ l1[k] = l2[k]) := ⟨by
          rw [List.take_succ_eq_append_getElem hk1, List.take_succ_eq_append_getElem hk2, HE.out]
          constructor
          · intro h
            have := List.append_cancel_left h
            simpa using this
          · intro h; rw [h]⟩
        have hno : Hd (l1 = l2 → l1[k] = l2[k]) := ⟨fun h => by subst h; rfl⟩
        obtain ⟨x1, hx1⟩ : ∃ x, l1[k] = x := ⟨_, rfl⟩
        obtain ⟨x2, hx2⟩ : ∃ x, l2[k] = x := ⟨_, rfl⟩
        rw [hx1] at c1 ht hno
        rw [hx2] at c2 ht hno
        clear hx1 hx2 hc1 hc2 hr1 hr2 hk1 hk2 hl1 hl2 hg1 hg2
        by_cases hx : x1 = x2
        · subst hx
          have bb : (x1 != x1) = false := by simp
          have HT : Hd (l1.take (k + 1) = l2.take (k + 1)) := ⟨ht.out.2 rfl⟩
          clear ht hno
          go_wp2_with fail
          go_quiet (fail)
          have HB2 : Hd (Below w.heap.size w (wr.drewN nq)) := ⟨Below.chain HB.out (keepsOfDrewN _ _)⟩
          go_wp2
          go_roundw
          case rel => exact ⟨k + 1, hlt, by go_num, HB2, HT⟩
          case measure => simp [intOf]; omega
        · have bb : (x1 != x2) = true := by simpa using hx
          have HF : Hd (decide (l1 = l2) = false) := ⟨decide_eq_false (fun h => hx (hno.out h))⟩
          clear ht hno hx
          go_wp2_with fail
          go_quiet (fail)
          go_wp2
          go_ret
          exact ⟨ret_b HF.out.symm, Below.chain HB.out (keepsOfDrewN _ _)⟩
      · have hd1 : decide ((k : Int) < (n1 : Int)) = false := by simp; omega
        have HT : Hd (decide (l1 = l2) = true) := ⟨decide_eq_true (by
          have h := HE.out
          rw [List.take_of_length_le (by rw [HN.out.1]; omega), List.take_of_length_le (by rw [HN.out.2]; omega)] at h
          exact h)⟩
        go_wp2
        go_ret
        exact ⟨ret_b HT.out.symm, HB.out⟩
  · have b0 : ((n1 : Int) != (n2 : Int)) = true := by simp only [bne_iff_ne, ne_eq]; omega
    have hf : decide (l1 = l2) = false := decide_eq_false (fun h => hne (by rw [← hn1, ← hn2, h]))
    rw [hf]
    clear hn1 hn2 hl hl2 hf
    go_enter Tryz.func21, Tryz.ntmps21
    go_wp2
    go_ret
    exact ⟨rfl, Below.refl _ _⟩

/-- the three structs that small keeps -/
structure S3 (w w' : World) (I J K : Nat) : Prop where
  bel : Below w.heap.size w w'
  i : Blk w' I 23 [.int .i64 13, .int .i64 1, .int .i64 2, .int .i64 0, .int .i64 (-1)]
  j : Blk w' J 23 [.int .i64 13, .int .i64 1, .int .i64 2, .int .i64 0, .int .i64 (-1)]
  k : Blk w' K 23 [.int .i64 15, .int .i64 3, .int .i64 15, .int .i64 0, .int .i64 8]
theorem S3.below {w w1 w2 : World} {I J K : Nat} (h : S3 w w1 I J K) (k : Below w1.heap.size w1 w2) : S3 w w2 I J K :=
  ⟨Below.chain h.bel k, h.i.below k h.i.lt, h.j.below k h.j.lt, h.k.below k h.k.lt⟩
theorem S3.alloc {w w1 : World} {I J K : Nat} (h : S3 w w1 I J K) (o : Obj) : S3 w (w1.alloc o) I J K := h.below ((Below.refl _ _).alloc (Nat.le_refl _) _)
theorem below_alloc {w w1 w2 : World} {o : Obj} (h : Below w.heap.size w w1) (k : Below (w1.alloc o).heap.size (w1.alloc o) w2) : Below w.heap.size w w2 :=
  Below.chain (h.alloc h.size o) k

set_option maxHeartbeats 4000000 in
set_option maxRecDepth 100000 in
theorem small_any (w : World) (hT : Tabs w) : Calls Tryz.prog 8 #[] w fun e w' => e = .returned (.bool true) ∧ Below w.heap.size w w' := by
  have HT := Hd.mk hT
  have hi : Hd (Blk (w.alloc (.cells #[.int .i64 13, .int .i64 1, .int .i64 2, .int .i64 0, .int .i64 (-1)] 23)) w.heap.size 23 [.int .i64 13, .int .i64 1, .int .i64 2, .int .i64 0, .int .i64 (-1)]) := ⟨Blk.new _ _ _⟩
  have hb1 : Hd (Below w.heap.size w (w.alloc (.cells #[.int .i64 13, .int .i64 1, .int .i64 2, .int .i64 0, .int .i64 (-1)] 23))) := ⟨(Below.refl _ _).alloc (Nat.le_refl _) _⟩
  have HE := Hd.mk (fun w h => encode_any 13 1 2 0 (-1) w h (by unfold i64R; omega))
  rw [e_enc, e_right] at HE
  have HD := Hd.mk (fun w => decode_any ⟨#[120, 120, 13, 1, 2, 0, 255, 255, 255, 255]⟩ 2 w (by decide) (by unfold i64R; omega))
  rw [e_dec, e_decb] at HD
  have HP1 := Hd.mk (fun w => parse_any ⟨#[32, 108, 111, 97, 100, 32, 114, 51, 44, 114, 49, 53, 32, 44, 32, 48, 56]⟩ w (by decide))
  have HP2 := Hd.mk (fun w => parse_any ⟨#[106, 117, 109, 112, 32, 52]⟩ w (by decide))
  have HP3 := Hd.mk (fun w => parse_any ⟨#[106, 117, 109, 112]⟩ w (by decide))
  have HP4 := Hd.mk (fun w => parse_any ⟨#[109, 111, 118, 101, 32, 114, 49, 44, 32, 114, 49, 54]⟩ w (by decide))
  rw [e_p1, show parseV (0, 15, ⟨3, 15, 0, 8⟩) = .tuple #[.agg #[.int .i64 15, .int .i64 3, .int .i64 15, .int .i64 0, .int .i64 8], .int .i64 0] from rfl] at HP1
  rw [e_p2, show parseV (6, 0, ⟨0, 0, 0, 0⟩) = .tuple #[.agg #[.int .i64 0, .int .i64 0, .int .i64 0, .int .i64 0, .int .i64 0], .int .i64 6] from rfl] at HP2
  rw [e_p3, show parseV (2, 0, ⟨0, 0, 0, 0⟩) = .tuple #[.agg #[.int .i64 0, .int .i64 0, .int .i64 0, .int .i64 0, .int .i64 0], .int .i64 2] from rfl] at HP3
  rw [e_p4, show parseV (6, 0, ⟨0, 0, 0, 0⟩) = .tuple #[.agg #[.int .i64 0, .int .i64 0, .int .i64 0, .int .i64 0, .int .i64 0], .int .i64 6] from rfl] at HP4
  have HU := Hd.mk (fun w h => uses_any 28 4 0 0 0 w h (by unfold i64R; omega))
  rw [e_u1, e_u2] at HU
  have HT1 := Hd.mk (fun w h => text_any 13 1 2 0 (-1) w h (by unfold i64R; omega))
  have HT2 := Hd.mk (fun w h => text_any 26 0 0 0 0 w h (by unfold i64R; omega))
  rw [e_t1] at HT1
  rw [e_t2] at HT2
  have HR1 := Hd.mk (fun w h => right_any 13 1 2 0 (-1) w h (by unfold i64R; omega))
  have HR2 := Hd.mk (fun w h => right_any 0 0 0 0 0 w h (by unfold i64R; omega))
  rw [e_right] at HR1
  rw [e_wrong] at HR2
  obtain ⟨I, hI⟩ : ∃ I, w.heap.size = I := ⟨_, rfl⟩
  have HIW := Hd.mk hI
  rw [hI] at hi
  clear hT
  go_enter Tryz.func8, Tryz.ntmps8
  go_wp2_with fail
  refine (HE.out _ (HT.out.below hb1.out).f).mono ?_
  rintro e w2 ⟨rfl, k2⟩
  have hi2 := Hd.mk (hi.out.below k2 hi.out.lt)
  have hb2 := Hd.mk (Below.chain hb1.out k2)
  clear k2 hi hb1 HE hI
  have cat : (⟨#[120, 120]⟩ : ByteArray) ++ ⟨#[13, 1, 2, 0, 255, 255, 255, 255]⟩ = ⟨#[120, 120, 13, 1, 2, 0, 255, 255, 255, 255]⟩ := by kernel_rfl
  go_wp2_with fail
  refine (HD.out _ (HT.out.below hb2.out).f).mono ?_
  rintro e w3 ⟨rfl, k3⟩
  have hi3 := Hd.mk (hi2.out.below k3 hi2.out.lt)
  have hb3 := Hd.mk (Below.chain hb2.out k3)
  clear k3 hi2 hb2 HD
  have hi3a := Hd.mk (hi3.out.alloc (.cells #[.int .i64 13, .int .i64 1, .int .i64 2, .int .i64 0, .int .i64 (-1)] 23))
  have hj3 : Hd (Blk (w3.alloc (.cells #[.int .i64 13, .int .i64 1, .int .i64 2, .int .i64 0, .int .i64 (-1)] 23)) w3.heap.size 23 [.int .i64 13, .int .i64 1, .int .i64 2, .int .i64 0, .int .i64 (-1)]) := ⟨Blk.new _ _ _⟩
  have hb3a := Hd.mk (hb3.out.alloc hb3.out.size (.cells #[.int .i64 13, .int .i64 1, .int .i64 2, .int .i64 0, .int .i64 (-1)] 23))
  obtain ⟨J, hJ⟩ : ∃ I, w3.heap.size = I := ⟨_, rfl⟩
  rw [hJ] at hj3
  clear hi3 hb3
  go_wp2_with fail
  refine (HP1.out _ (HT.out.below hb3a.out).f).mono ?_
  rintro e w4 ⟨rfl, k4⟩
  have hi4 := Hd.mk (hi3a.out.below k4 hi3a.out.lt)
  have hj4 := Hd.mk (hj3.out.below k4 hj3.out.lt)
  have hb4 := Hd.mk (Below.chain hb3a.out k4)
  clear k4 hi3a hj3 hb3a HP1 hJ
  have hs4 : Hd (S3 w (w4.alloc (.cells #[.int .i64 15, .int .i64 3, .int .i64 15, .int .i64 0, .int .i64 8] 23)) I J w4.heap.size) := ⟨⟨hb4.out.alloc hb4.out.size _, hi4.out.alloc _, hj4.out.alloc _, Blk.new _ _ _⟩⟩
  obtain ⟨K, hK⟩ : ∃ I, w4.heap.size = I := ⟨_, rfl⟩
  rw [hK] at hs4
  clear hi4 hj4 hb4
  go_wp2_with fail
  refine (HP2.out _ (HT.out.below hs4.out.bel).f).mono ?_
  rintro e w5 ⟨rfl, k5⟩
  have hs5 := Hd.mk ((hs4.out.below k5).alloc (.cells #[.int .i64 0, .int .i64 0, .int .i64 0, .int .i64 0, .int .i64 0] 23))
  clear k5 hs4 HP2 hK
  go_wp2_with fail
  refine (HP3.out _ (HT.out.below hs5.out.bel).f).mono ?_
  rintro e w6 ⟨rfl, k6⟩
  have hs6 := Hd.mk ((hs5.out.below k6).alloc (.cells #[.int .i64 0, .int .i64 0, .int .i64 0, .int .i64 0, .int .i64 0] 23))
  clear k6 hs5 HP3
  go_wp2_with fail
  refine (HP4.out _ (HT.out.below hs6.out.bel).f).mono ?_
  rintro e w7 ⟨rfl, k7⟩
  have hs7 := Hd.mk ((hs6.out.below k7).alloc (.cells #[.int .i64 0, .int .i64 0, .int .i64 0, .int .i64 0, .int .i64 0] 23))
  clear k7 hs6 HP4
  go_wp2_with fail
  refine (HU.out _ (HT.out.below hs7.out.bel)).mono ?_
  rintro e w8 ⟨v1, v2, rfl, r1, r2, k8⟩
  have hs8 := Hd.mk (hs7.out.below k8)
  have R1 := Hd.mk r1
  have R2 := Hd.mk r2
  clear k8 hs7 HU r1 r2
  have ci0 := hs8.out.i.at (j := 0) rfl
  have ci1 := hs8.out.i.at (j := 1) rfl
  have ci2 := hs8.out.i.at (j := 2) rfl
  have ci3 := hs8.out.i.at (j := 3) rfl
  have ci4 := hs8.out.i.at (j := 4) rfl
  have cj0 := hs8.out.j.at (j := 0) rfl
  have cj1 := hs8.out.j.at (j := 1) rfl
  have cj2 := hs8.out.j.at (j := 2) rfl
  have cj3 := hs8.out.j.at (j := 3) rfl
  have cj4 := hs8.out.j.at (j := 4) rfl
  go_wp2_with fail
  refine (HT1.out _ (HT.out.below hs8.out.bel)).mono ?_
  rintro e w9 ⟨rfl, k9⟩
  have hs9 := Hd.mk (hs8.out.below k9)
  have R1b := Hd.mk (R1.out.below intE_stays k9)
  have R2b := Hd.mk (R2.out.below intE_stays k9)
  clear k9 hs8 R1 R2 HT1 ci0 ci1 ci2 ci3 ci4 cj0 cj1 cj2 cj3 cj4
  go_wp2_with fail
  refine (HT2.out _ (HT.out.below hs9.out.bel)).mono ?_
  rintro e w10 ⟨rfl, k10⟩
  have hs10 := Hd.mk (hs9.out.below k10)
  have R1c := Hd.mk (R1b.out.below intE_stays k10)
  have R2c := Hd.mk (R2b.out.below intE_stays k10)
  clear k10 hs9 R1b R2b HT2
  have ck0 := hs10.out.k.at (j := 0) rfl
  have ck1 := hs10.out.k.at (j := 1) rfl
  have ck2 := hs10.out.k.at (j := 2) rfl
  have ck3 := hs10.out.k.at (j := 3) rfl
  have ck4 := hs10.out.k.at (j := 4) rfl
  have HL1 : Hd (Rw 1 intE (w10.alloc (.cells #[.int .i64 15] 3)) (.slice (some ⟨w10.heap.size, 0, none⟩) 1 1) [15]) := ⟨Rw.ints (ks := [15]) (Blk.new w10 3 [.int .i64 15])⟩
  have k0 : Below w10.heap.size w10 (w10.alloc (.cells #[.int .i64 15] 3)) := (Below.refl _ _).alloc (Nat.le_refl _) _
  have HI1 := Hd.mk (ints_any v1 (.slice (some ⟨w10.heap.size, 0, none⟩) 1 1) [15] [15] (w10.alloc (.cells #[.int .i64 15] 3)) (R1c.out.below intE_stays k0) HL1.out (by decide) (by decide))
  rw [decide_eq_true (p := ([15] : List Int) = [15]) rfl] at HI1
  have R2d := Hd.mk (R2c.out.below intE_stays k0)
  have hs10a := Hd.mk (hs10.out.alloc (.cells #[.int .i64 15] 3))
  clear k0 hs10 R1c R2c HL1
  go_wp2_with fail
  refine HI1.out.mono ?_
  rintro e w11 ⟨rfl, k11⟩
  have hs11 := Hd.mk (hs10a.out.below k11)
  have R2e := Hd.mk (R2d.out.below intE_stays k11)
  clear k11 hs10a R2d HI1 ck0 ck1 ck2 ck3 ck4
  have HL1 : Hd (Rw 1 intE (w11.alloc (.cells #[.int .i64 4, .int .i64 15] 3)) (.slice (some ⟨w11.heap.size, 0, none⟩) 2 2) [4, 15]) := ⟨Rw.ints (ks := [4, 15]) (Blk.new w11 3 [.int .i64 4, .int .i64 15])⟩
  have k0 : Below w11.heap.size w11 (w11.alloc (.cells #[.int .i64 4, .int .i64 15] 3)) := (Below.refl _ _).alloc (Nat.le_refl _) _
  have HI2 := Hd.mk (ints_any v2 (.slice (some ⟨w11.heap.size, 0, none⟩) 2 2) [4, 15] [4, 15] (w11.alloc (.cells #[.int .i64 4, .int .i64 15] 3)) (R2e.out.below intE_stays k0) HL1.out (by decide) (by decide))
  rw [decide_eq_true (p := ([4, 15] : List Int) = [4, 15]) rfl] at HI2
  have hs11a := Hd.mk (hs11.out.alloc (.cells #[.int .i64 4, .int .i64 15] 3))
  clear k0 hs11 R2e HL1
  go_wp2_with fail
  refine HI2.out.mono ?_
  rintro e w12 ⟨rfl, k12⟩
  have hs12 := Hd.mk (hs11a.out.below k12)
  clear k12 hs11a HI2
  have ci0 := hs12.out.i.at (j := 0) rfl
  have ci1 := hs12.out.i.at (j := 1) rfl
  have ci2 := hs12.out.i.at (j := 2) rfl
  have ci3 := hs12.out.i.at (j := 3) rfl
  have ci4 := hs12.out.i.at (j := 4) rfl
  go_wp2_with fail
  refine (HR1.out _ (HT.out.below hs12.out.bel).f).mono ?_
  rintro e w13 ⟨rfl, k13⟩
  have hs13 := Hd.mk (hs12.out.below k13)
  clear k13 hs12 HR1 ci0 ci1 ci2 ci3 ci4
  go_wp2_with fail
  refine (HR2.out _ (HT.out.below hs13.out.bel).f).mono ?_
  rintro e w14 ⟨rfl, k14⟩
  have hs14 := Hd.mk (hs13.out.below k14)
  clear k14 hs13 HR2
  go_wp2
  go_ret
  exact ⟨rfl, hs14.out.bel⟩

end Go.Proofs.YtlohhlbbkliehaaGreatDoor.W
