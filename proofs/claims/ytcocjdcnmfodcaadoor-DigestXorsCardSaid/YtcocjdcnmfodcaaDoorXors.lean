/-
  DigestXors: the walk of the law.
-/
import Derived.Test.YtcocjdcnmfodcaaDoorSmall
import Derived.Test.YtcocjdcnmfodcaaDoorTab
import Derived.Test.YtcocjdcnmfodcaaDoorResP
import Derived.Test.YtcocjdcnmfodcaaDoorOwn
import Derived.Deep.RegionHeld3
import Derived.Deep.QuietTactic
import Derived.BigQuiet
namespace Go.Proofs.YtcocjdcnmfodcaaDoor.W
open Go.RowKit
set_option linter.unusedVariables false

theorem min3 (a b c : Nat) : ∃ n : Nat, (if (c : Int) < (if b < a then (b : Int) else (a : Int)) then (c : Int) else if b < a then (b : Int) else (a : Int)) = (n : Int) ∧ n ≤ a ∧ n ≤ b ∧ n ≤ c := by
  by_cases h : b < a
  · simp only [h, if_true]
    by_cases h2 : (c : Int) < (b : Int)
    · exact ⟨c, by simp [h2], by omega, by omega, by omega⟩
    · exact ⟨b, by simp [h2], by omega, by omega, by omega⟩
  · simp only [h, if_false]
    by_cases h2 : (c : Int) < (a : Int)
    · exact ⟨c, by simp [h2], by omega, by omega, by omega⟩
    · exact ⟨a, by simp [h2], by omega, by omega, by omega⟩

theorem xor3_len : ∀ (l m r : List UInt8), l.length = m.length → m.length = r.length → (xor3 l m r).length = l.length
  | [], [], [], _, _ => rfl
  | a :: l, b :: m, c :: r, h1, h2 => by simp [xor3, xor3_len l m r (by simpa using h1) (by simpa using h2)]
  | [], [], _ :: _, _, h2 => by simp at h2
  | [], _ :: _, _, h1, _ => by simp at h1
  | _ :: _, [], _, h1, _ => by simp at h1
  | _ :: _, _ :: _, [], _, h2 => by simp at h2

theorem xor3_snoc : ∀ (l m r : List UInt8) (a b c : UInt8), l.length = m.length → m.length = r.length → xor3 (l ++ [a]) (m ++ [b]) (r ++ [c]) = xor3 l m r ++ [a ^^^ b ^^^ c]
  | [], [], [], _, _, _, _, _ => rfl
  | x :: l, y :: m, z :: r, a, b, c, h1, h2 => by simp [xor3, xor3_snoc l m r a b c (by simpa using h1) (by simpa using h2)]
  | [], [], _ :: _, _, _, _, _, h2 => by simp at h2
  | [], _ :: _, _, _, _, _, h1, _ => by simp at h1
  | _ :: _, [], _, _, _, _, h1, _ => by simp at h1
  | _ :: _, _ :: _, [], _, _, _, _, h2 => by simp at h2

theorem crc_same (s : ByteArray) (w : World) (hs : s.size ≤ maxLen) :
    Calls Tryd.prog 13 #[.string s] w fun e w' => e = .returned (.int .i64 (crcL s.data.toList : Nat)) ∧ w' = w :=
  (crc_any s w hs).mono fun _ _ ⟨h, h'⟩ => ⟨h, h'.symm⟩

set_option maxHeartbeats 1000000 in
set_option maxRecDepth 100000 in
theorem xors_any (a b c : ByteArray) (ha : a.size ≤ maxLen) (hb : b.size ≤ maxLen) (hc : c.size ≤ maxLen) (w : World) (hT : Tabs w) :
    Calls Tryd.prog 6 #[.string a, .string b, .string c] w fun e w' => e = .returned (.bool true) ∧ Below w.heap.size w w' := by
  have HT := Hd.mk hT
  unfold maxLen at ha hb hc
  obtain ⟨n, hn, na, nb, nc⟩ := min3 a.size b.size c.size
  obtain ⟨i0, hi, hz0, hz1, hz2⟩ := info_parts infoU8
  have HI : Hd (_ ∧ _ ∧ _ ∧ _) := ⟨⟨hi, hz0, hz1, hz2⟩⟩
  clear hT hi hz0 hz1 hz2
  go_enter Tryd.func6, Tryd.ntmps6
  go_wp2_with fail
  refine (small_any _ HT.out).mono ?_
  rintro e w1 ⟨rfl, b1⟩
  have B1 := Hd.mk b1
  clear b1 HT
  by_cases hbig : n ≤ 2000
  · go_wp2_with fail
    go_loopw [9, 10] (fun v i wr => ∃ k : Nat, k ≤ n ∧ i = .int .i64 k ∧ Own wr w1.heap.size 5 v (Lib.byteCells (xor3 (a.data.toList.take k) (b.data.toList.take k) (c.data.toList.take k))) ∧ Below w1.heap.size w1 wr) (fun _ i _ => n - (intOf i).toNat)
    case atStart => exact ⟨0, Nat.zero_le _, rfl, Own.nil _ _ _, Below.refl _ _⟩
    case round =>
      obtain ⟨k, hk, rfl, hO, hB⟩ := hrel
      by_cases hlt : k < n
      · have ta := take_snoc a k (by omega)
        have tb := take_snoc b k (by omega)
        have tc := take_snoc c k (by omega)
        have la : (a.data.toList.take k).length = k := by rw [List.length_take]; simp; omega
        have lb : (b.data.toList.take k).length = k := by rw [List.length_take]; simp; omega
        have lc : (c.data.toList.take k).length = k := by rw [List.length_take]; simp; omega
        have hx := xor3_snoc (a.data.toList.take k) (b.data.toList.take k) (c.data.toList.take k) (a[k]'(by omega)) (b[k]'(by omega)) (c[k]'(by omega)) (by omega) (by omega)
        have hl := xor3_len (a.data.toList.take k) (b.data.toList.take k) (c.data.toList.take k) (by omega) (by omega)
        rw [← ta, ← tb, ← tc] at hx
        have HX := Hd.mk hx
        have HO := Hd.mk hO
        have HB := Hd.mk hB
        have hsz := hB.size
        have x1 := u8_xor (a[k]'(by omega)) (b[k]'(by omega))
        have x2 := u8_xor (a[k]'(by omega) ^^^ b[k]'(by omega)) (c[k]'(by omega))
        have hbl := bc_len (xor3 (a.data.toList.take k) (b.data.toList.take k) (c.data.toList.take k))
        have hd : decide ((k : Int) < (n : Int)) = true := by simp; omega
        have ka : k < a.size := by omega
        have kb : k < b.size := by omega
        have kc : k < c.size := by omega
        clear ta tb tc hx hO hB
        go_wp2_with fail
        go_region_held3 (fun _ => True) (trivial) ((refine step_app1 rfl _ _ 30 rfl 5 Tryd.underlying30 HI.out.1 HI.out.2.1 HI.out.2.2.1 HI.out.2.2.2 rfl u9 _ _ _ _ _ rfl (HO.out.keeps (((Keeps.refl (fun _ => False) wr).alloc _).drew) (fun _ _ h => h)) rfl ⟨_, _, heap_alloc_new wr _⟩ rfl (by unfold maxLen; omega) (by omega) (by simp; omega) ?_; intro v' w' hO' hK' _))
        all_goals
         have x3 : bits BinOp.xor IntKind.u8 ((a[k].toNat ^^^ b[k].toNat : Nat) : Int) (c[k].toNat : Int) = ((a[k] ^^^ b[k] ^^^ c[k]).toNat : Int) := by
           rw [← UInt8.toNat_xor]; exact u8_xor _ _
         rw [x3, bc_snoc, ← HX.out] at hO'
         have HO3 := Hd.mk hO'
         have HB3 : Hd (Below w1.heap.size w1 w') := ⟨HB.out.trans (((((Keeps.refl (fun k => u9.ownBlock = some k) wr).alloc _).drew).trans hK').below hsz (fun g hg h => by have := (HO.out.lt h).1; omega))⟩
         clear hO' hK' x1 x2 x3 hbl
         go_wp2
         go_roundw
         case rel => exact ⟨k + 1, by omega, by go_num, HO3.out, HB3.out⟩
         case measure => simp [intOf]; omega
      · have hkn : k = n := by omega
        have hd : decide ((k : Int) < (n : Int)) = false := by simp; omega
        rw [hkn] at hO
        have hcv := fun q => (hO.keeps ((Keeps.refl (fun _ => False) wr).drewN q) (fun _ _ h => h)).back
        have HB := Hd.mk hB
        have hsz := hB.size
        obtain ⟨x, hx⟩ : ∃ x : ByteArray, (⟨(xor3 (a.data.toList.take n) (b.data.toList.take n) (c.data.toList.take n)).toArray⟩ : ByteArray) = x := ⟨_, rfl⟩
        have la : (a.data.toList.take n).length = n := by rw [List.length_take]; simp; omega
        have lb : (b.data.toList.take n).length = n := by rw [List.length_take]; simp; omega
        have lc : (c.data.toList.take n).length = n := by rw [List.length_take]; simp; omega
        have hl := xor3_len (a.data.toList.take n) (b.data.toList.take n) (c.data.toList.take n) (by omega) (by omega)
        have hxs : x.size = n := by rw [← hx]; show Array.size _ = _; rw [List.size_toArray]; omega
        have hxl : Hd (crcL x.data.toList = crcL (a.data.toList.take n) ^^^ crcL (b.data.toList.take n) ^^^ crcL (c.data.toList.take n)) := ⟨by rw [← hx]; exact crc_xor3 _ _ _ (by omega) (by omega)⟩
        have sa : Hd ((a.extract 0 n).data.toList = a.data.toList.take n) := ⟨by rw [Lib.extract_data]; rfl⟩
        have sb : Hd ((b.extract 0 n).data.toList = b.data.toList.take n) := ⟨by rw [Lib.extract_data]; rfl⟩
        have sc : Hd ((c.extract 0 n).data.toList = c.data.toList.take n) := ⟨by rw [Lib.extract_data]; rfl⟩
        simp only [hx] at hcv
        clear hx hO hB la lb lc hl hkn
        go_wp2_with fail
        go_quiet ((go_at_call 13; exact Calls.quiet_of_same (crc_same _ _ (by unfold maxLen; simp; omega))))
        go_wp2
        go_ret
        have la := crcL_low (a.data.toList.take n)
        have lb := crcL_low (b.data.toList.take n)
        have lc := crcL_low (c.data.toList.take n)
        have lab : crcL (a.data.toList.take n) ^^^ crcL (b.data.toList.take n) < 4294967296 := Nat.xor_lt_two_pow (n := 32) la lb
        refine ⟨ret_b ?_, Go.below_drewN ((B1.out.trans (HB.out.mono B1.out.size))) nq⟩
        rw [i64_xor_nat _ _ (by omega) (by omega), i64_xor_nat _ _ (by omega) (by omega), hxl.out]
        simp
  · go_wp2_with fail
    go_ret
    exact ⟨rfl, B1.out⟩

end Go.Proofs.YtcocjdcnmfodcaaDoor.W
