/-
  RelocBack: the walk where the kind is in code.
-/
import Derived.Test.YtmngicdgapkbmaaDoorBackY
namespace Go.Proofs.YtmngicdgapkbmaaDoor.W
open Go.RowKit Go.ChangeShapes Go.WideShapes
set_option linter.unusedVariables false

/-- what Write answers at a kind in code -/
structure CodeCase (s : ByteArray) (n : Nat) (k v : Int) (rb mem okw : Bool) (tw : ByteArray) : Prop where
  is : ((rb = false ∨ mem = false) ∧ okw = false ∧ tw = ⟨#[]⟩) ∨ (rb = true ∧ mem = true ∧ okw = true ∧ BackLaw s n k v tw)

theorem code_case {s : ByteArray} {n : Nat} {k v : Int} {rb mem okw : Bool} {tw : ByteArray} (hv : i64R v) (hk : isK k = true) (hp : wPre s n k v = true) (hr : offI k + sizeI k ≤ s.size - (n : Int)) (hc : code15 k = true)
    (h1 : rightB (byteAt s n) (byteAt s (n + 1)) (byteAt s (n + 2)) (byteAt s (n + 3)) v = rb) (h2 : decide (byteAt s n ∈ kOps k.toNat) = mem) (h3 : write15 s n k v = (tw, okw)) : CodeCase s n k v rb mem okw tw := by
  refine ⟨?_⟩
  have hcan : canB s n k v = (rb && mem) := by
    unfold canB; rw [hp, decide_eq_true hr, hc, Int.toNat_natCast, h1, h2]; rfl
  by_cases h : (rb && mem) = true
  · obtain ⟨t, L⟩ := back_yes hv hk (hcan.trans h)
    have e := L.w
    rw [h3] at e
    obtain ⟨rfl, rfl⟩ := Prod.mk.inj e
    simp only [Bool.and_eq_true] at h
    exact .inr ⟨h.1, h.2, rfl, L⟩
  · have e := back_no hv hk (hcan.trans (by simpa using h))
    rw [h3] at e
    obtain ⟨rfl, rfl⟩ := Prod.mk.inj e
    left
    refine ⟨?_, rfl, rfl⟩
    cases rb <;> cases mem <;> simp_all

set_option maxHeartbeats 4000000 in
set_option maxRecDepth 100000 in
theorem bk_code (W : World) (s : ByteArray) (n : Nat) (k v : Int) (hx : i64R (n : Int)) (hv : i64R v) (hT : Tabs W) (hl : s.size ≤ 300) (hp : wPre s n k v = true) (hr : offI k + sizeI k ≤ s.size - (n : Int)) (hc : code15 k = true) :
    Calls Tryd.prog 4 #[.string s, .int .i64 n, .int .i64 k, .int .i64 v] W fun e w' => e = .returned (.bool true) ∧ Below W.heap.size W w' := by
  obtain ⟨hf, hx0, hx1, hk⟩ := wPre_parts hp
  obtain ⟨o4, z4⟩ := code_size hc hk
  obtain ⟨rb, hrb⟩ : ∃ b, rightB (byteAt s n) (byteAt s (n + 1)) (byteAt s (n + 2)) (byteAt s (n + 3)) v = b := ⟨_, rfl⟩
  obtain ⟨mem, hmem⟩ : ∃ b, decide (byteAt s n ∈ kOps k.toNat) = b := ⟨_, rfl⟩
  obtain ⟨⟨tw, okw⟩, hw⟩ : ∃ p, write15 s n k v = p := ⟨_, rfl⟩
  have HCC := Hd.mk (code_case hv hk hp hr hc hrb hmem hw)
  have HS := Hd.mk (small15_any _ hT)
  have TB0 := Hd.mk (TB.refl hT)
  have d : decide ((300 : Int) < s.size) = false := by simp; omega
  have HW := fun w (h : Tabs w) => Hd.mk (width_any k w h)
  rw [o4, z4] at HW
  have HWR := fun w (h : Tabs w) => Hd.mk (write15_any s n k v w (by omega) hx hv h)
  simp only [hw] at HWR
  have HF := fun w (h : Tabs w) => Hd.mk (fits15_any k v w h hv)
  rw [hf] at HF
  have HC := fun w (h : Tabs w) => Hd.mk (code_any k w h)
  rw [hc] at HC
  have hn8 : n + 8 ≤ s.size := by omega
  have h0 : n < s.size := by omega
  have h1 : n + 1 < s.size := by omega
  have h2 : n + 2 < s.size := by omega
  have h3 : n + 3 < s.size := by omega
  have e0 := byteAt_eq s n h0
  have e1 := byteAt_eq s (n + 1) h1
  have e2 := byteAt_eq s (n + 2) h2
  have e3 := byteAt_eq s (n + 3) h3
  have wb : ∀ x : UInt8, wrap64 (x.toNat : Int) = (x.toNat : Int) := fun x => by have := x.toNat_lt; unfold wrap64; omega
  have q0 : wrap64 (((s[n]'h0).toNat : Nat) : Int) = byteAt s n := by rw [wb, e0]
  have q1 : wrap64 (((s[n + 1]'h1).toNat : Nat) : Int) = byteAt s (n + 1) := by rw [wb, e1]
  have q2 : wrap64 (((s[n + 2]'h2).toNat : Nat) : Int) = byteAt s (n + 2) := by rw [wb, e2]
  have q3 : wrap64 (((s[n + 3]'h3).toNat : Nat) : Int) = byteAt s (n + 3) := by rw [wb, e3]
  obtain ⟨x0, hx0'⟩ : ∃ x, byteAt s n = x := ⟨_, rfl⟩
  obtain ⟨x1, hx1'⟩ : ∃ x, byteAt s (n + 1) = x := ⟨_, rfl⟩
  obtain ⟨x2, hx2'⟩ : ∃ x, byteAt s (n + 2) = x := ⟨_, rfl⟩
  obtain ⟨x3, hx3'⟩ : ∃ x, byteAt s (n + 3) = x := ⟨_, rfl⟩
  rw [hx0'] at q0 hrb hmem; rw [hx1'] at q1 hrb; rw [hx2'] at q2 hrb; rw [hx3'] at q3 hrb
  have HRI := fun w (h : Tabs w) => Hd.mk (right_any x0 x1 x2 x3 v w h.f hv)
  rw [hrb] at HRI
  have HOp := fun w => Hd.mk (rop_any k x0 w)
  rw [show ropB k x0 = mem by unfold ropB; rw [hk, hmem]; rfl] at HOp
  have c2 : decide (0 ≤ (n : Int)) = true := by simp
  have c3 : decide ((n : Int) ≤ s.size) = true := by simp; omega
  have c4 : decide ((8 : Int) ≤ s.size - (n : Int)) = true := by simp; omega
  have r1 : IntKind.i64.wrap (s.size - (n : Int)) = s.size - (n : Int) := IntWalk.i64_in _ (by omega)
  have i0 : (0 : Int) ≤ (n : Int) := by omega
  have i1 : (n : Int) < (s.size : Int) := by omega
  have i2 : (0 : Int) ≤ (n : Int) + 1 := by omega
  have i3 : (n : Int) + 1 < (s.size : Int) := by omega
  have i4 : (0 : Int) ≤ (n : Int) + 2 := by omega
  have i5 : (n : Int) + 2 < (s.size : Int) := by omega
  have i6 : (0 : Int) ≤ (n : Int) + 3 := by omega
  have i7 : (n : Int) + 3 < (s.size : Int) := by omega
  have p1 : IntKind.i64.wrap ((n : Int) + 1) = (n : Int) + 1 := IntWalk.i64_in _ (by omega)
  have p2 : IntKind.i64.wrap ((n : Int) + 2) = (n : Int) + 2 := IntWalk.i64_in _ (by omega)
  have p3 : IntKind.i64.wrap ((n : Int) + 3) = (n : Int) + 3 := IntWalk.i64_in _ (by omega)
  have n1 : ((n : Int) + 1).toNat = n + 1 := by omega
  have n2 : ((n : Int) + 2).toNat = n + 2 := by omega
  have n3 : ((n : Int) + 3).toNat = n + 3 := by omega
  have r3 : IntKind.i64.wrap ((n : Int) + 4) = (n : Int) + 4 := IntWalk.i64_in _ (by omega)
  have r4 : IntKind.i64.wrap ((n : Int) + 4 + 4) = (n : Int) + 4 + 4 := IntWalk.i64_in _ (by omega)
  have hsz : (s.size : Int) ≤ 300 := by omega
  have HN8 := Hd.mk hn8
  have HX := Hd.mk hx
  have HO4 := Hd.mk (And.intro o4 z4)
  have HCK := Hd.mk hc
  clear hx0' hx1' hx2' hx3' e0 e1 e2 e3 wb hrb hmem hw hr hp hf hx0 hx1 hk hx hv hT hl hc hn8 o4 z4
  go_enter Tryd.func4, Tryd.ntmps4
  go_wp2_with fail
  refine HS.out.mono ?_
  rintro e w1 ⟨rfl, kk⟩
  have T1 := Hd.mk (TB0.out.step kk); clear kk
  go_wp2_with fail
  refine (HW _ T1.out.t).out.mono ?_
  rintro e w2 ⟨rfl, kk⟩
  have T2 := Hd.mk (T1.out.step kk); clear kk T1
  go_wp2_with fail
  refine (HWR _ T2.out.t).out.mono ?_
  rintro e w3 ⟨rfl, kk⟩
  have T3 := Hd.mk (T2.out.step kk); clear kk T2
  go_wp2_with fail
  refine (HF _ T3.out.t).out.mono ?_
  rintro e w4 ⟨rfl, rfl⟩
  go_wp2_with fail
  refine (HC _ T3.out.t).out.mono ?_
  rintro e w4 ⟨rfl, rfl⟩
  go_wp2_with fail
  refine wp_region_lin default (fun _ => True) [(0, true), (1, true), (2, true), (3, true), (4, true), (5, true), (6, true), (7, true), (8, true), (9, true), (10, true), (11, true), (12, true), (13, true), (14, true), (15, true), (16, true), (17, true), (18, true), (19, true), (20, true), (21, false), (22, false)] (by kernel_rfl) (by kernel_rfl) rfl (by kernel_rfl) (by kernel_rfl) trivial ?_
  simp only [pick, List.getD_cons_zero, List.getD_cons_succ]
  repeat
    refine lin_free (v := ?_) (by rfl) ?_ ?_
    rotate_left
    · intro w' hSw
      go_simp
      first | done | with_reducible rfl
    simp only [Act.put, List.setIfInBounds_toArray, List.set_cons_zero, List.set_cons_succ]
  refine lin_bound (fun K hK => ?_)
  go_simp
  refine hK.out _ _ trivial ?_
  clear hK K
  refine lin_bound (fun K hK => ?_)
  go_simp
  refine hK.out _ _ trivial ?_
  clear hK K
  refine NoPanic.normal ?_
  go_wp2_with fail
  have hI : Blk (w3.alloc (.cells #[.int .i64 x0, .int .i64 x1, .int .i64 x2, .int .i64 x3, .int .i64 v] 38)).drew w3.heap.size 38 [.int .i64 x0, .int .i64 x1, .int .i64 x2, .int .i64 x3, .int .i64 v] := (Blk.new w3 38 [.int .i64 x0, .int .i64 x1, .int .i64 x2, .int .i64 x3, .int .i64 v]).drew
  have TI : Hd (TB W (w3.alloc (.cells #[.int .i64 x0, .int .i64 x1, .int .i64 x2, .int .i64 x3, .int .i64 v] 38)).drew) := ⟨(T3.out.alloc _).step ((Below.refl _ _).drew)⟩
  have HI := Hd.mk hI; clear hI T3
  refine (HRI _ TI.out.t).out.mono ?_
  rintro e w5 ⟨rfl, k5⟩
  have HI5 := HI.out.below k5 HI.out.lt
  have T5 := Hd.mk (TI.out.step k5)
  have a0 := HI5.at (j := 0) rfl
  clear HI5 HI TI k5
  rcases rb with _ | _
  · obtain ⟨rfl, rfl⟩ : okw = false ∧ tw = ⟨#[]⟩ := by
      rcases HCC.out.is with ⟨_, h⟩ | ⟨h, _⟩
      · exact h
      · cases h
    go_wp2
    go_ret
    exact ⟨rfl, T5.out.b⟩
  · go_wp2_with fail
    refine (HOp _).out.mono ?_
    rintro e w6 ⟨rfl, rfl⟩
    rcases mem with _ | _
    · obtain ⟨rfl, rfl⟩ : okw = false ∧ tw = ⟨#[]⟩ := by
        rcases HCC.out.is with ⟨_, h⟩ | ⟨_, h, _⟩
        · exact h
        · cases h
      go_wp2
      go_ret
      exact ⟨rfl, T5.out.b⟩
    · obtain ⟨rfl, HL⟩ : okw = true ∧ Hd (BackLaw s n k v tw) := by
        rcases HCC.out.is with ⟨h | h, _⟩ | ⟨_, _, h, L⟩
        · cases h
        · cases h
        · exact ⟨h, ⟨L⟩⟩
      have htz : tw.size = s.size := HL.out.z
      have HRD := fun w (h : Tabs w) => Hd.mk (read15_any tw n k w (by rw [htz]; omega) HX.out h)
      rw [HL.out.r] at HRD
      have HO : Hd (∀ j : Nat, j < s.size → ((j : Int) < (n : Int) + 4 ∨ (n : Int) + 4 + 4 ≤ j) → tw.data.toList[j]? = s.data.toList[j]?) := ⟨by
        have := HL.out.o
        rwa [HO4.out.1, HO4.out.2] at this⟩
      clear a0 HRI HOp HF HW HWR HCC
      go_wp2_with fail
      refine (HRD _ T5.out.t).out.mono ?_
      rintro e w6 ⟨rfl, kk⟩
      have T6 := Hd.mk (T5.out.step kk); clear kk T5
      go_wp2
      go_loopw [18] (fun i wr => ∃ j : Nat, j ≤ s.size ∧ i = .int .i64 j ∧ Hd (TB W wr)) (fun i _ => s.size - (intOf i).toNat)
      case atStart => exact ⟨0, Nat.zero_le _, rfl, T6⟩
      case round =>
        obtain ⟨j, hj, rfl, TR⟩ := hrel
        clear T6
        by_cases hlt : j < s.size
        · have hlt2 : j < tw.size := by rw [htz]; exact hlt
          by_cases a : (j : Int) < (n : Int) + 4
          · have a1 : decide ((j : Int) < (n : Int) + 4) = true := by simp [a]
            have hb : s[j] = tw[j] := byte_same hlt hlt2 (HO.out j hlt (.inl a))
            clear a
            go_wp2
            go_quiet (fail)
            go_wp2
            go_round
            case rel => exact ⟨j + 1, hlt, by go_num, ⟨TR.out.drewN _⟩⟩
            case measure => simp [intOf]; omega
          · have a1 : decide ((j : Int) < (n : Int) + 4) = false := by simp; omega
            by_cases b : (n : Int) + 4 + 4 ≤ (j : Int)
            · have a2 : decide ((n : Int) + 4 + 4 ≤ (j : Int)) = true := by simp [b]
              have hb : s[j] = tw[j] := byte_same hlt hlt2 (HO.out j hlt (.inr b))
              clear a b
              go_wp2
              go_quiet (fail)
              go_wp2
              go_round
              case rel => exact ⟨j + 1, hlt, by go_num, ⟨TR.out.drewN _⟩⟩
              case measure => simp [intOf]; omega
            · have a2 : decide ((n : Int) + 4 + 4 ≤ (j : Int)) = false := by simp; omega
              clear a b
              go_wp2
              go_quiet (fail)
              go_wp2
              go_round
              case rel => exact ⟨j + 1, hlt, by go_num, ⟨TR.out.drewN _⟩⟩
              case measure => simp [intOf]; omega
        · obtain rfl : j = s.size := by omega
          have HD := fun w (h : Tabs w) => Hd.mk (decode_any tw n w (by rw [htz]; omega) HX.out h.f)
          obtain ⟨y0, y1, y2, y3, hdv⟩ : ∃ y0 y1 y2 y3, decV tw n = .agg #[.int .i64 y0, .int .i64 y1, .int .i64 y2, .int .i64 y3, .int .i64 v] ∧ decB tw n = true := by
            obtain ⟨d1, d2, _, _⟩ := HL.out.d HCK.out
            rw [Int.toNat_natCast] at d2
            exact ⟨byteAt tw n, byteAt tw (n + 1), byteAt tw (n + 2), byteAt tw (n + 3), by unfold decV; rw [if_pos d1, Int.toNat_natCast, d2], d1⟩
          rw [hdv.1, hdv.2] at HD
          clear hdv
          go_wp2_with fail
          refine (HC _ TR.out.t).out.mono ?_
          rintro e w7 ⟨rfl, rfl⟩
          go_wp2_with fail
          refine (HD _ TR.out.t).out.mono ?_
          rintro e w8 ⟨rfl, kk⟩
          have T8 := Hd.mk (TR.out.step kk); clear kk
          go_wp2
          go_ret
          exact ⟨rfl, (T8.out.alloc _).b⟩

end Go.Proofs.YtmngicdgapkbmaaDoor.W
