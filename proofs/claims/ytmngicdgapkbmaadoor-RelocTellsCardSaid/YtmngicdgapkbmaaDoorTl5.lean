/-
  The walk of the reference's Write.
-/
import Derived.Test.YtmngicdgapkbmaaDoorTl4
namespace Go.Proofs.YtmngicdgapkbmaaDoor.W
open Go.RowKit
set_option linter.unusedVariables false

set_option maxHeartbeats 2000000 in
/-- nothing is written -/
theorem rwrite_no (s : ByteArray) (x k v : Int) (w : World) (hs : s.size ≤ 1000) (hx : i64R x) (hv : i64R v) (h : wPre s x k v = false ∨ (wPre s x k v = true ∧ ¬ offI k + sizeI k ≤ s.size - x)) :
    Calls Tryd.prog 20 #[.string s, .int .i64 x, .int .i64 k, .int .i64 v] w fun e w' => e = .returned (.tuple #[.string ⟨#[]⟩, .bool false]) ∧ w = w' := by
  have HW := Hd.mk (rwidth_any k w)
  have HF := Hd.mk (rfits15_any k v w)
  have hz := size_zero k
  have ho := offI_le k
  have hcs : (sizeI k == 0) = true ∨ ((sizeI k == 0) = false ∧ fits15 k v = false) ∨ ((sizeI k == 0) = false ∧ fits15 k v = true ∧ decide (x < 0) = true) ∨ ((sizeI k == 0) = false ∧ fits15 k v = true ∧ decide (x < 0) = false ∧ decide ((s.size : Int) < x) = true) ∨
      ((sizeI k == 0) = false ∧ fits15 k v = true ∧ decide (x < 0) = false ∧ decide ((s.size : Int) < x) = false ∧ decide ((s.size : Int) - x < offI k + sizeI k) = true ∧ IntKind.i64.wrap ((s.size : Int) - x) = (s.size : Int) - x ∧ IntKind.i64.wrap (offI k + sizeI k) = offI k + sizeI k) := by
    rcases hk : isK k with _ | _
    · left; rw [hz, hk]; rfl
    · rw [hk] at hz
      right
      rcases hf : fits15 k v with _ | _
      · left; exact ⟨hz, rfl⟩
      · right
        by_cases a : x < 0
        · left; exact ⟨hz, rfl, by simp [a]⟩
        · right
          by_cases b : (s.size : Int) < x
          · left; exact ⟨hz, rfl, by simp; omega, by simp [b]⟩
          · right
            have hp : wPre s x k v = true := by unfold wPre; rw [hf, decide_eq_true (by omega)]; rfl
            rcases h with h | ⟨_, h⟩
            · rw [hp] at h; cases h
            · exact ⟨hz, rfl, by simp; omega, by simp; omega, by simp; omega, IntWalk.i64_in _ (by omega), IntWalk.i64_in _ (by omega)⟩
  have hsz : (s.size : Int) ≤ 1000 := by omega
  obtain ⟨o, hoo⟩ : ∃ o, offI k = o := ⟨_, rfl⟩
  obtain ⟨z, hzz⟩ : ∃ z, sizeI k = z := ⟨_, rfl⟩
  obtain ⟨f, hff⟩ : ∃ f, fits15 k v = f := ⟨_, rfl⟩
  rw [hoo, hzz] at HW
  rw [hff] at HF
  rw [hoo, hzz, hff] at hcs
  clear hoo hzz hff hz ho h hx hv hs
  rcases hcs with h1 | ⟨h1, rfl⟩ | ⟨h1, rfl, h2⟩ | ⟨h1, rfl, h2, h3⟩ | ⟨h1, rfl, h2, h3, h4, h5, h6⟩
  · clear HF
    go_enter Tryd.func20, Tryd.ntmps20
    go_wp2_with fail
    refine HW.out.mono ?_; rintro e w1 ⟨rfl, rfl⟩
    go_wp2
    go_ret2
    exact ⟨rfl, rfl⟩
  all_goals
    go_enter Tryd.func20, Tryd.ntmps20
    go_wp2_with fail
    refine HW.out.mono ?_; rintro e w1 ⟨rfl, rfl⟩
    go_wp2_with fail
    refine HF.out.mono ?_; rintro e w1 ⟨rfl, rfl⟩
    go_wp2
    go_ret2
    exact ⟨rfl, rfl⟩

/-- what the loop has done -/
structure WLoop (w : World) (s : ByteArray) (a : Nat) (v : Int) (j : Nat) (wr : World) : Prop where
  c : Cells wr w.heap.size s a j v
  b : Below w.heap.size w wr

theorem Cells.below {w w' : World} {B : Nat} {s : ByteArray} {a k : Nat} {n : Int} (h : Cells w B s a k n) (hb : Below w.heap.size w w') : Cells w' B s a k n := fun j hj => by
  obtain ⟨h1, h2⟩ := h j hj
  have hlt := lt_of_cell15 h1
  have e := hb.block B hlt
  exact ⟨by rw [hb.cell (p := ⟨B, j, none⟩) hlt]; exact h1, by simpa [World.frozen?, e] using h2⟩

set_option maxHeartbeats 4000000 in
set_option maxRecDepth 100000 in
theorem rwrite_yes (s : ByteArray) (n o z : Nat) (k v : Int) (w : World) (hs : s.size ≤ 1000) (hv : i64R v) (hf : fits15 k v = true) (ho : offI k = o) (hz : sizeI k = z) (hr : n + o + z ≤ s.size) (hz1 : 0 < z) (hz8 : z ≤ 8) :
    Calls Tryd.prog 20 #[.string s, .int .i64 n, .int .i64 k, .int .i64 v] w fun e w' => e = .returned (.tuple #[.string (write15 s n k v).1, .bool (write15 s n k v).2]) ∧ Below w.heap.size w w' := by
  have HL := Hd.mk ((rwrite_law hv hf (show n ≤ s.size by omega)).2 (by omega))
  have HW := Hd.mk (rwidth_any k w)
  have HF := Hd.mk (rfits15_any k v w)
  have hout : rwOut s n k v = ⟨(putL s (n + o) z v).toArray⟩ := by unfold rwOut; rw [ho, hz]; rfl
  rw [hf] at HF
  rw [ho, hz] at HW
  rw [hout, ho] at HL
  have HOp := fun (op : Int) (w : World) => Hd.mk (rop_any k op w)
  have hcv := run_bytes_of_string (P := Tryd.prog) w 9 54 5 s Tryd.underlying9 Tryd.underlying54 Tryd.underlying5
  generalize grownCap w s.size 0 5 = cap at hcv
  generalize hrow : bytesRow s cap = row at hcv
  have HR := Hd.mk hrow
  clear hrow
  have c1 : ((z : Int) == 0) = false := by simp; omega
  have c2 : decide ((n : Int) < 0) = false := by simp
  have c3 : decide (s.size < n) = false := by simp; omega
  have c4 : decide ((s.size : Int) - (n : Int) < (o : Int) + (z : Int)) = false := by simp; omega
  have r1 : IntKind.i64.wrap ((s.size : Int) - (n : Int)) = (s.size : Int) - (n : Int) := IntWalk.i64_in _ (by omega)
  have r2 : IntKind.i64.wrap ((o : Int) + (z : Int)) = (o : Int) + (z : Int) := IntWalk.i64_in _ (by omega)
  have r3 : IntKind.i64.wrap ((n : Int) + (o : Int)) = (n : Int) + (o : Int) := IntWalk.i64_in _ (by omega)
  have hsz : (s.size : Int) ≤ 1000 := by omega
  have HB := Hd.mk (And.intro hr (And.intro hz8 (And.intro hs hv)))
  clear hs hv hf ho hz hr hz1 hz8 hout
  go_enter Tryd.func20, Tryd.ntmps20
  go_wp2_with fail
  refine HW.out.mono ?_; rintro e w1 ⟨rfl, rfl⟩
  go_wp2_with fail
  refine HF.out.mono ?_; rintro e w1 ⟨rfl, rfl⟩
  go_wp2
  go_loopw [13, 14] (fun m i wr => ∃ j : Nat, j ≤ z ∧ i = .int .i64 j ∧ m = .int .i64 (v / 256 ^ j) ∧ WLoop w s (n + o) v j wr) (fun _ i _ => z - (intOf i).toNat)
  case atStart => exact ⟨0, Nat.zero_le _, rfl, by simp, start1 w.drew s (n + o) cap v row HR.out, by go_grown⟩
  case round =>
    obtain ⟨j, hj, rfl, rfl, HLo⟩ := hrel
    clear hcv HW HF c1 c2 c3 c4 r1 r2
    by_cases hlt : j < z
    · have hcj := HLo.c (n + o + j) (by have := HB.out.1; omega)
      obtain ⟨hc1, hc2⟩ := hcj
      have hji : decide ((j : Int) < (z : Int)) = true := by simp; omega
      have hb8 := byteOf_small v j (by have := HB.out.2.1; omega)
      have hbd := byteOf_bd v j
      have hst := shr_step v j
      have hrn := shr_range HB.out.2.2.2 j
      obtain ⟨c, hc⟩ : ∃ c, byteOf v j = c := ⟨_, rfl⟩
      have HC' : Hd (WLoop w s (n + o) v (j + 1) (wr.setCell ⟨w.heap.size, n + o + j, none⟩ (.int .u8 c))) := ⟨by rw [← hc]; exact cells_step1 HLo.c (by have := HB.out.1; omega), HLo.b.setCell (Nat.le_refl _) _⟩
      have HLo' := Hd.mk HLo.b
      obtain ⟨y, hy⟩ : ∃ y, v / 256 ^ j = y := ⟨_, rfl⟩
      obtain ⟨y', hy'⟩ : ∃ y, v / 256 ^ (j + 1) = y := ⟨_, rfl⟩
      rw [hy, hy'] at hst
      rw [hc, hy] at hb8
      rw [hc] at hbd
      rw [hy] at hrn ⊢
      have hand : bits .and .i64 y 255 = c := by rw [i64_and_255, hb8]
      have hcm : IntKind.u8.wrap c = c := by rw [IntKind.wrap_u8]; omega
      have hcm2 : c % 256 = c := by omega
      have r4 : IntKind.i64.wrap ((n : Int) + (o : Int) + (j : Int)) = (n : Int) + (o : Int) + (j : Int) := IntWalk.i64_in _ (by have := HB.out; omega)
      have i1 : (0 : Int) ≤ (n : Int) + (o : Int) + (j : Int) := by omega
      have i2 : (n : Int) + (o : Int) + (j : Int) < (s.size : Int) := by have := HB.out; omega
      have n1 : ((n : Int) + (o : Int) + (j : Int)).toNat = n + o + j := by omega
      have HY := Hd.mk hy'
      clear hc hy hb8 hrn hbd hy' HLo
      go_wp2
      go_roundw
      case rel => exact ⟨j + 1, hlt, by go_num, by rw [HY.out], HC'.out⟩
      case measure => simp [intOf]; omega
    · obtain rfl : j = z := by omega
      have hji : decide ((j : Int) < (j : Int)) = false := by simp
      have hbk := back wr w.heap.size cap s (n + o) j v HLo.c
      have HLo' := Hd.mk HLo.b
      obtain ⟨out, hout⟩ : ∃ t : ByteArray, (⟨(putL s (n + o) j v).toArray⟩ : ByteArray) = t := ⟨_, rfl⟩
      have HBack : Hd (∀ w2, Below wr.heap.size wr w2 → (convert 54 9 (.slice (some ⟨w.heap.size, 0, none⟩) s.size cap)).run Tryd.prog w2 = .ok (.string ⟨(putL s (n + o) j v).toArray⟩) w2) := ⟨fun w2 hb => back w2 w.heap.size cap s (n + o) j v (HLo.c.below hb)⟩
      rw [hout] at hbk HL HBack
      clear HLo hout
      by_cases o0 : o = 0
      · have e := Hd.mk (HL.out.2.1 (by omega))
        have o1 : ((o : Int) == 0) = true := by simp; omega
        clear o0 HL
        go_wp2
        go_ret2
        exact ⟨by rw [e.out]; rfl, HLo'.out⟩
      · have e := Hd.mk (HL.out.2.2 (by omega))
        have o1 : ((o : Int) == 0) = false := by simp; omega
        have HD := Hd.mk (rdecode_any out n wr (by rw [HL.out.1]; exact HB.out.2.2.1) (by unfold i64R; have := HB.out; omega))
        have ev : decB out n = true → ∃ y1 y2 y3 y4, decV out n = .agg #[.int .i64 (byteAt out n), .int .i64 y1, .int .i64 y2, .int .i64 y3, .int .i64 y4] := fun h => ⟨byteAt out (n + 1), byteAt out (n + 2), byteAt out (n + 3), immAt out n, by unfold decV; rw [if_pos h, Int.toNat_natCast]⟩
        have ev0 : decB out n = false → decV out n = .agg #[.int .i64 0, .int .i64 0, .int .i64 0, .int .i64 0, .int .i64 0] := fun h => by unfold decV; rw [h]; rfl
        have EV := Hd.mk ev
        have EV0 := Hd.mk ev0
        clear o0 HL ev ev0
        rcases hd : decB out n with _ | _
        · rw [EV0.out hd, hd] at HD
          have e2 : Hd (write15 s n k v = (⟨#[]⟩, false)) := ⟨by rw [e.out, hd]; rfl⟩
          clear hd EV EV0 e
          go_wp2_with fail
          refine HD.out.mono ?_
          rintro e w2 ⟨rfl, k2⟩
          have K2 := Hd.mk (HLo'.out.trans (k2.mono HLo'.out.size))
          clear k2
          go_wp2
          go_ret2
          exact ⟨by rw [e2.out]; rfl, K2.out.alloc K2.out.size _⟩
        · obtain ⟨y1, y2, y3, y4, hdv⟩ := EV.out hd
          rw [hdv, hd] at HD
          obtain ⟨y0, hy0⟩ : ∃ y, byteAt out n = y := ⟨_, rfl⟩
          rw [hy0] at HD
          have e2 : Hd (write15 s n k v = if ropB k y0 then (out, true) else (⟨#[]⟩, false)) := ⟨by rw [e.out, hd, hy0]; rfl⟩
          clear hd EV EV0 e hdv hy0
          have HO := fun w => Hd.mk (rop_any k y0 w)
          obtain ⟨q, hq⟩ : ∃ q, ropB k y0 = q := ⟨_, rfl⟩
          rw [hq] at HO e2
          clear hq
          rcases q with _ | _
          · have e3 : Hd (write15 s n k v = (⟨#[]⟩, false)) := ⟨e2.out⟩
            clear e2
            go_wp2_with fail
            refine HD.out.mono ?_
            rintro e w2 ⟨rfl, k2⟩
            have K2 := Hd.mk (HLo'.out.trans (k2.mono HLo'.out.size))
            clear k2
            go_wp2_with fail
            refine (HO _).out.mono ?_; rintro e w3 ⟨rfl, rfl⟩
            go_wp2
            go_ret2
            exact ⟨by rw [e3.out]; rfl, K2.out.alloc K2.out.size _⟩
          · have e3 : Hd (write15 s n k v = (out, true)) := ⟨e2.out⟩
            clear e2
            go_wp2_with fail
            refine HD.out.mono ?_
            rintro e w2 ⟨rfl, k2⟩
            have K2 := Hd.mk (HLo'.out.trans (k2.mono HLo'.out.size))
            have hbk2 := HBack.out (w2.alloc (.cells #[.int .i64 y0, .int .i64 y1, .int .i64 y2, .int .i64 y3, .int .i64 y4] 38)) (k2.alloc k2.size _)
            clear k2
            go_wp2_with fail
            refine (HO _).out.mono ?_; rintro e w3 ⟨rfl, rfl⟩
            go_wp2
            go_ret2
            exact ⟨by rw [e3.out]; rfl, K2.out.alloc K2.out.size _⟩

theorem rwrite_any (s : ByteArray) (x k v : Int) (w : World) (hs : s.size ≤ 1000) (hx : i64R x) (hv : i64R v) :
    Calls Tryd.prog 20 #[.string s, .int .i64 x, .int .i64 k, .int .i64 v] w fun e w' => e = .returned (.tuple #[.string (write15 s x k v).1, .bool (write15 s x k v).2]) ∧ Below w.heap.size w w' := by
  rcases hp : wPre s x k v with _ | _
  · have e : write15 s x k v = (⟨#[]⟩, false) := by unfold write15; rw [hp]; rfl
    rw [e]
    exact (rwrite_no s x k v w hs hx hv (.inl hp)).mono (fun e w' h => ⟨h.1, h.2 ▸ Below.refl _ _⟩)
  · have hp' := hp
    unfold wPre at hp'
    simp only [Bool.and_eq_true, decide_eq_true_eq] at hp'
    obtain ⟨hf, hx0, hx1⟩ := hp'
    obtain ⟨n, rfl⟩ := Int.eq_ofNat_of_zero_le hx0
    by_cases hr : offI k + sizeI k ≤ s.size - (n : Int)
    · have ho := offI_le k
      have hz' := (fit_law hv (fits_isK hf)).z
      obtain ⟨o, eo⟩ := Int.eq_ofNat_of_zero_le ho.1
      obtain ⟨z, ez⟩ := Int.eq_ofNat_of_zero_le ho.2.2.1
      exact rwrite_yes s n o z k v w hs hv hf eo ez (by omega) (by omega) (by omega)
    · rw [(rwrite_law hv hf (show n ≤ s.size by omega)).1 hr]
      exact (rwrite_no s n k v w hs hx hv (.inr ⟨hp, hr⟩)).mono (fun e w' h => ⟨h.1, h.2 ▸ Below.refl _ _⟩)

end Go.Proofs.YtmngicdgapkbmaaDoor.W
