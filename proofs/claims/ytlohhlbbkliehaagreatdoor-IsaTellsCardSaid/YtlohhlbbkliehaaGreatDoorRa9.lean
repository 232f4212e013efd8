/-
  The walks of the reference's Encode, Name, find, skip, number, operand, set.
-/
import Derived.Test.YtlohhlbbkliehaaGreatDoorTp9
import Derived.Test.YtlohhlbbkliehaaGreatDoorBk9
namespace Go.Proofs.YtlohhlbbkliehaaGreatDoor.W
open Go.RowKit
set_option linter.unusedVariables false

/-! ### Encode -/
theorem enc_nums (m : Int) (h0 : -2147483648 ≤ m) (h1 : m ≤ 2147483647) : ∃ (N e0 q1 e1 q2 e2 e3 : Int) (y0 y1 y2 y3 : UInt8), byteL m 4 = [y0, y1, y2, y3] ∧ ((m < 0 ∧ IntKind.i64.wrap (m + 4294967296) = N) ∨ (¬ m < 0 ∧ m = N)) ∧ N.tmod 256 = e0 ∧ IntKind.i64.wrap q1 = q1 ∧ N.tdiv 256 = q1 ∧ q1.tmod 256 = e1 ∧ IntKind.i64.wrap q2 = q2 ∧ N.tdiv 65536 = q2 ∧ q2.tmod 256 = e2 ∧ IntKind.i64.wrap e3 = e3 ∧ N.tdiv 16777216 = e3 ∧
    IntKind.u8.wrap e0 = (y0.toNat : Int) ∧ IntKind.u8.wrap e1 = (y1.toNat : Int) ∧ IntKind.u8.wrap e2 = (y2.toNat : Int) ∧ IntKind.u8.wrap e3 = (y3.toNat : Int) := by
  obtain ⟨N, hN⟩ : ∃ N, (if m < 0 then m + 4294967296 else m) = N := ⟨_, rfl⟩
  have hN0 : 0 ≤ N ∧ N < 4294967296 := by rw [← hN]; split <;> omega
  have d1 : N.tdiv 256 = N / 256 := Int.tdiv_eq_ediv_of_nonneg hN0.1
  have d2 : N.tdiv 65536 = N / 65536 := Int.tdiv_eq_ediv_of_nonneg hN0.1
  have d3 : N.tdiv 16777216 = N / 16777216 := Int.tdiv_eq_ediv_of_nonneg hN0.1
  have m0 : N.tmod 256 = N % 256 := Int.tmod_eq_emod_of_nonneg hN0.1
  have m1 : (N / 256).tmod 256 = N / 256 % 256 := Int.tmod_eq_emod_of_nonneg (by omega)
  have m2 : (N / 65536).tmod 256 = N / 65536 % 256 := Int.tmod_eq_emod_of_nonneg (by omega)
  have hu : IntKind.u64.wrap m = m % 18446744073709551616 := IntKind.wrap_u64 m
  have b0 : byteOf m 0 = N % 256 := by unfold byteOf; rw [hu, ← hN]; split <;> simp <;> omega
  have b1 : byteOf m 1 = N / 256 % 256 := by unfold byteOf; rw [hu, ← hN]; split <;> simp <;> omega
  have b2 : byteOf m 2 = N / 65536 % 256 := by unfold byteOf; rw [hu, ← hN]; split <;> simp <;> omega
  have b3 : byteOf m 3 = N / 16777216 := by unfold byteOf; rw [hu, ← hN]; split <;> simp <;> omega
  have hb : ∀ i, IntKind.u8.wrap (byteOf m i) = ((UInt8.ofNat (byteOf m i).toNat).toNat : Int) := fun i => by
    have := byteOf_bd m i
    exact byte_conv this.1 (by omega)
  refine ⟨N, _, _, _, _, _, _, UInt8.ofNat (byteOf m 0).toNat, UInt8.ofNat (byteOf m 1).toNat, UInt8.ofNat (byteOf m 2).toNat, UInt8.ofNat (byteOf m 3).toNat, rfl, ?_, m0.trans b0.symm, ?_, d1, m1.trans b1.symm, ?_, d2, m2.trans b2.symm, ?_, d3.trans b3.symm, hb 0, hb 1, hb 2, hb 3⟩
  · by_cases h : m < 0
    · exact .inl ⟨h, by rw [← hN, if_pos h]; exact IntWalk.i64_in _ (by omega)⟩
    · exact .inr ⟨h, by rw [← hN, if_neg h]⟩
  · exact IntWalk.i64_in _ (by omega)
  · exact IntWalk.i64_in _ (by omega)
  · rw [b3]; exact IntWalk.i64_in _ (by omega)

set_option maxHeartbeats 4000000 in
set_option maxRecDepth 100000 in
theorem rencode_any (op a b c m : Int) (w : World) : Calls Tryz.prog 10 #[.agg #[.int .i64 op, .int .i64 a, .int .i64 b, .int .i64 c, .int .i64 m]] w fun e w' => e = .returned (.tuple #[.string (encS op a b c m), .bool (rightB op a b c m)]) ∧ Below w.heap.size w w' := by
  have hbl := Blk.new w 23 [.int .i64 op, .int .i64 a, .int .i64 b, .int .i64 c, .int .i64 m]
  have HB := Hd.mk hbl
  have HR := Hd.mk (rright_any op a b c m (w.alloc (.cells #[.int .i64 op, .int .i64 a, .int .i64 b, .int .i64 c, .int .i64 m] 23)))
  have HRP : Hd (rightB op a b c m = true → RightP op a b c m) := ⟨right_parts⟩
  have HEn : Hd (encS op a b c m = if rightB op a b c m then ⟨(encL op a b c ++ byteL m 4).toArray⟩ else ⟨#[]⟩) := ⟨rfl⟩
  obtain ⟨r, hr⟩ : ∃ r, rightB op a b c m = r := ⟨_, rfl⟩
  rw [hr] at HR HRP HEn ⊢
  clear hbl hr
  rcases r with _ | _
  · rw [HEn.out]
    clear HRP HEn
    go_enter Tryz.func10, Tryz.ntmps10
    go_wp2_with fail
    refine HR.out.mono ?_
    rintro e w1 ⟨rfl, k1⟩
    have K1 : Hd (Below w.heap.size w w1) := ⟨Below.chain ((Below.refl _ _).alloc (Nat.le_refl _) _) k1⟩
    clear k1
    go_wp2
    go_ret2
    exact ⟨rfl, K1.out⟩
  · have hp := HRP.out rfl
    obtain ⟨N, e0, q1, e1, q2, e2, e3, y0, y1, y2, y3, hy, hN, f0, g1, g1', f1, g2, g2', f2, g3, g3', u0, u1, u2, u3⟩ := enc_nums m hp.m.1 hp.m.2
    rw [HEn.out, hy]
    have c0 := byte_conv (x := op) (by have := hp.op; omega) (by have := hp.op; omega)
    have c1 := byte_conv (x := a) (by have := hp.a; omega) (by have := hp.a; omega)
    have c2 := byte_conv (x := b) (by have := hp.b; omega) (by have := hp.b; omega)
    have c3 := byte_conv (x := c) (by have := hp.c; omega) (by have := hp.c; omega)
    have hel : encL op a b c = [UInt8.ofNat op.toNat, UInt8.ofNat a.toNat, UInt8.ofNat b.toNat, UInt8.ofNat c.toNat] := rfl
    obtain ⟨x0, hx0⟩ : ∃ x, UInt8.ofNat op.toNat = x := ⟨_, rfl⟩
    obtain ⟨x1, hx1⟩ : ∃ x, UInt8.ofNat a.toNat = x := ⟨_, rfl⟩
    obtain ⟨x2, hx2⟩ : ∃ x, UInt8.ofNat b.toNat = x := ⟨_, rfl⟩
    obtain ⟨x3, hx3⟩ : ∃ x, UInt8.ofNat c.toNat = x := ⟨_, rfl⟩
    rw [hx0] at c0; rw [hx1] at c1; rw [hx2] at c2; rw [hx3] at c3
    rw [hx0, hx1, hx2, hx3] at hel
    rw [hel]
    have HU := Hd.mk (And.intro c0 (And.intro c1 (And.intro c2 (And.intro c3 (And.intro u0 (And.intro u1 (And.intro u2 u3)))))))
    clear hp hel hx0 hx1 hx2 hx3 HEn HRP hy c0 c1 c2 c3 u0 u1 u2 u3
    have fin : ∀ w1, Below w.heap.size w w1 → (convert 43 9 (.slice (some ⟨w1.heap.size, 0, none⟩) 8 8)).run Tryz.prog (w1.alloc (.cells #[.int .u8 (x0.toNat : Int), .int .u8 (x1.toNat : Int), .int .u8 (x2.toNat : Int), .int .u8 (x3.toNat : Int), .int .u8 (y0.toNat : Int), .int .u8 (y1.toNat : Int), .int .u8 (y2.toNat : Int), .int .u8 (y3.toNat : Int)] 5)) = .ok (.string ⟨([x0, x1, x2, x3] ++ [y0, y1, y2, y3]).toArray⟩) (w1.alloc (.cells #[.int .u8 (x0.toNat : Int), .int .u8 (x1.toNat : Int), .int .u8 (x2.toNat : Int), .int .u8 (x3.toNat : Int), .int .u8 (y0.toNat : Int), .int .u8 (y1.toNat : Int), .int .u8 (y2.toNat : Int), .int .u8 (y3.toNat : Int)] 5)) := fun w1 _ =>
      run_convert_bytes_back (P := Tryz.prog) _ 43 9 5 ⟨w1.heap.size, 0, none⟩ 8 [x0, x1, x2, x3, y0, y1, y2, y3] Tryz.underlying43 Tryz.underlying5 Tryz.underlying9 (fun j hj => by
        have hb := Blk.new w1 5 [.int .u8 (x0.toNat : Int), .int .u8 (x1.toNat : Int), .int .u8 (x2.toNat : Int), .int .u8 (x3.toNat : Int), .int .u8 (y0.toNat : Int), .int .u8 (y1.toNat : Int), .int .u8 (y2.toNat : Int), .int .u8 (y3.toNat : Int)]
        rw [show (⟨w1.heap.size, 0, none⟩ : Addr).add j = ⟨w1.heap.size, j, none⟩ from by unfold Addr.add; split <;> simp_all]
        refine hb.at ?_
        have hj' : j < 8 := hj
        rcases (by omega : j = 0 ∨ j = 1 ∨ j = 2 ∨ j = 3 ∨ j = 4 ∨ j = 5 ∨ j = 6 ∨ j = 7) with rfl | rfl | rfl | rfl | rfl | rfl | rfl | rfl <;> rfl)
    have HF := Hd.mk fin
    clear fin
    rcases hN with ⟨hm, hN⟩ | ⟨hm, hN⟩
    · have hd : decide (m < 0) = true := decide_eq_true hm
      go_enter Tryz.func10, Tryz.ntmps10
      go_wp2_with fail
      refine HR.out.mono ?_
      rintro e w1 ⟨rfl, k1⟩
      have hb1 := HB.out.below k1 HB.out.lt
      have K1 : Hd (Below w.heap.size w w1) := ⟨Below.chain ((Below.refl _ _).alloc (Nat.le_refl _) _) k1⟩
      have b0 := hb1.at (j := 0) rfl
      have b1 := hb1.at (j := 1) rfl
      have b2 := hb1.at (j := 2) rfl
      have b3 := hb1.at (j := 3) rfl
      have b4 := hb1.at (j := 4) rfl
      have hcv := HF.out w1 K1.out
      obtain ⟨c0, c1, c2, c3, u0, u1, u2, u3⟩ := HU.out
      clear k1 hb1 hm
      go_wp2
      go_ret2
      exact ⟨rfl, K1.out.alloc K1.out.size _⟩
    · have hd : decide (m < 0) = false := decide_eq_false hm
      subst hN
      go_enter Tryz.func10, Tryz.ntmps10
      go_wp2_with fail
      refine HR.out.mono ?_
      rintro e w1 ⟨rfl, k1⟩
      have hb1 := HB.out.below k1 HB.out.lt
      have K1 : Hd (Below w.heap.size w w1) := ⟨Below.chain ((Below.refl _ _).alloc (Nat.le_refl _) _) k1⟩
      have b0 := hb1.at (j := 0) rfl
      have b1 := hb1.at (j := 1) rfl
      have b2 := hb1.at (j := 2) rfl
      have b3 := hb1.at (j := 3) rfl
      have b4 := hb1.at (j := 4) rfl
      have hcv := HF.out w1 K1.out
      obtain ⟨c0, c1, c2, c3, u0, u1, u2, u3⟩ := HU.out
      clear k1 hb1
      go_wp2
      go_ret2
      exact ⟨rfl, K1.out.alloc K1.out.size _⟩

/-! ### Name, find -/
def namesV : List Value := [.string ⟨#[]⟩, .string ⟨#[110, 111, 112]⟩, .string ⟨#[115, 97, 102, 101]⟩, .string ⟨#[115, 101, 116]⟩, .string ⟨#[104, 105, 103, 104]⟩, .string ⟨#[109, 111, 118, 101]⟩, .string ⟨#[97, 100, 100]⟩, .string ⟨#[115, 117, 98]⟩, .string ⟨#[109, 117, 108]⟩, .string ⟨#[97, 110, 100]⟩, .string ⟨#[111, 114]⟩, .string ⟨#[108, 101, 115, 115]⟩, .string ⟨#[115, 97, 109, 101]⟩, .string ⟨#[97, 100, 100, 105]⟩, .string ⟨#[97, 100, 100, 114]⟩, .string ⟨#[108, 111, 97, 100]⟩, .string ⟨#[98, 121, 116, 101]⟩, .string ⟨#[115, 116, 111, 114, 101]⟩, .string ⟨#[112, 117, 116]⟩, .string ⟨#[106, 117, 109, 112]⟩, .string ⟨#[122, 101, 114, 111]⟩, .string ⟨#[110, 111, 110, 122, 101, 114, 111]⟩, .string ⟨#[99, 97, 108, 108]⟩, .string ⟨#[99, 97, 108, 108, 114]⟩, .string ⟨#[99, 97, 108, 108, 115]⟩, .string ⟨#[106, 117, 109, 112, 115]⟩, .string ⟨#[114, 101, 116, 117, 114, 110]⟩, .string ⟨#[112, 117, 115, 104]⟩, .string ⟨#[112, 111, 112]⟩, .string ⟨#[116, 108, 115]⟩, .string ⟨#[115, 121, 115]⟩]
theorem names_at (k : Nat) (h : k < 31) : namesV[k]? = some (.string ⟨(nameL k).toArray⟩) := by
  have key : namesV = (List.range 31).map fun n => (.string ⟨(nameL n).toArray⟩ : Value) := by kernel_rfl
  rw [key, List.getElem?_map, List.getElem?_range h]
  rfl
set_option maxHeartbeats 4000000 in
set_option maxRecDepth 100000 in
theorem rname_any (op : Int) (w : World) (h : 1 ≤ op ∧ op ≤ 30) : Calls Tryz.prog 45 #[.int .i64 op] w fun e w' => e = .returned (.string ⟨(nameL op.toNat).toArray⟩) ∧ Below w.heap.size w w' := by
  obtain ⟨k, rfl⟩ : ∃ k : Nat, op = (k : Int) := ⟨op.toNat, by omega⟩
  have hk : k < 31 := by omega
  rw [Int.toNat_natCast]
  have hc := (Blk.new w 9 namesV).at (names_at k hk)
  obtain ⟨q, hq⟩ : ∃ q : ByteArray, (⟨(nameL k).toArray⟩ : ByteArray) = q := ⟨_, rfl⟩
  rw [hq] at hc ⊢
  unfold namesV at hc
  have d0 : decide ((k : Int) < 0) = false := by simp
  have d1 : decide ((31 : Int) ≤ (k : Int)) = false := by simp; omega
  have i0 : (0 : Int) ≤ (k : Int) := by omega
  have i1 : (k : Int) < 31 := by omega
  have i2 : ¬ 31 ≤ k := by omega
  clear hq h
  go_enter Tryz.func45, Tryz.ntmps45
  go_wp2
  go_ret
  exact ⟨rfl, (Below.refl _ _).alloc (Nat.le_refl _) _⟩
def rfindL (nm : List UInt8) : Int := if findL nm < 0 then 0 else findL nm
theorem name_ne {k : Nat} (h1 : 1 ≤ k) (h2 : k < 31) : nameL k ≠ [] := (name_parts (by omega) h2).2.1
theorem rfind_hit {nm : List UInt8} {k : Nat} (h1 : 1 ≤ k) (h2 : k < 31) (h : nameL k = nm) (hp : ∀ j, 1 ≤ j → j < k → nameL j ≠ nm) : rfindL nm = (k : Int) := by
  have hne : nm ≠ [] := h ▸ name_ne h1 h2
  have : findL nm = (k : Int) := findL_hit h2 (by unfold nameIs; rw [decide_eq_true h, decide_eq_true hne]; rfl) (fun j hj => by
    unfold nameIs
    by_cases h0 : j = 0
    · subst h0
      have e : nameL 0 = [] := by decide +kernel
      rw [e, decide_eq_false (fun h => hne h.symm)]; rfl
    · rw [decide_eq_false (hp j (by omega) hj)]; rfl)
  unfold rfindL
  rw [this, if_neg (by omega)]
theorem rfind_no {nm : List UInt8} (hp : ∀ j, 1 ≤ j → j < 31 → nameL j ≠ nm) : rfindL nm = 0 := by
  have : findL nm = -1 := findL_none (fun j hj => by
    unfold nameIs
    by_cases h0 : j = 0
    · subst h0
      have e : nameL 0 = [] := by decide +kernel
      rw [e]
      by_cases hn : nm = []
      · rw [decide_eq_false (p := nm ≠ []) (fun h => h hn), Bool.and_false]
      · rw [decide_eq_false (p := [] = nm) (fun h => hn h.symm)]; rfl
    · rw [decide_eq_false (hp j (by omega) hj)]; rfl)
  unfold rfindL
  rw [this]; rfl

set_option maxHeartbeats 4000000 in
set_option maxRecDepth 100000 in
theorem rfind_any (nm : ByteArray) (w : World) : Calls Tryz.prog 36 #[.string nm] w fun e w' => e = .returned (.int .i64 (rfindL nm.data.toList)) ∧ Below w.heap.size w w' := by
  go_enter Tryz.func36, Tryz.ntmps36
  go_wp2
  go_loopw [3] (fun i wr => ∃ k : Nat, 1 ≤ k ∧ k ≤ 31 ∧ i = .int .i64 k ∧ Hd (∀ j, 1 ≤ j → j < k → nameL j ≠ nm.data.toList) ∧ Hd (Below w.heap.size w wr)) (fun i _ => 31 - (intOf i).toNat)
  case atStart => exact ⟨1, Nat.le_refl _, by omega, rfl, ⟨fun j h1 h2 => by omega⟩, ⟨Below.refl _ _⟩⟩
  case round =>
    obtain ⟨k, hk1, hk, rfl, HN, HB⟩ := hrel
    by_cases hlt : k < 31
    · have hd1 : decide ((k : Int) < 31) = true := by simp; omega
      have HC := Hd.mk (fun w => rname_any (k : Int) w ⟨by omega, by omega⟩)
      rw [Int.toNat_natCast] at HC
      by_cases he : nameL k = nm.data.toList
      · have HE := Hd.mk (rfind_hit hk1 hlt he HN.out)
        have hnm : (⟨(nameL k).toArray⟩ : ByteArray) = nm := by rw [he]
        rw [hnm] at HC
        have hbeq : (nm.toList == nm.toList) = true := by simp
        clear hnm he HN
        go_wp2_with fail
        refine (HC.out _).mono ?_
        rintro e w1 ⟨rfl, k1⟩
        have K1 := Hd.mk (Below.chain HB.out k1)
        clear k1
        go_wp2
        go_ret
        exact ⟨ret_i HE.out.symm, K1.out⟩
      · obtain ⟨q, hq⟩ : ∃ q : ByteArray, (⟨(nameL k).toArray⟩ : ByteArray) = q := ⟨_, rfl⟩
        have hne : q ≠ nm := fun e => he (by rw [← e, ← hq])
        have hbeq := str_beq q nm
        rw [decide_eq_false hne] at hbeq
        rw [hq] at HC
        have HN2 : Hd (∀ j, 1 ≤ j → j < k + 1 → nameL j ≠ nm.data.toList) := ⟨fun j h1 h2 => by
          rcases Nat.lt_succ_iff_lt_or_eq.1 h2 with h | rfl
          · exact HN.out j h1 h
          · exact he⟩
        clear hq hne he HN
        go_wp2_with fail
        refine (HC.out _).mono ?_
        rintro e w1 ⟨rfl, k1⟩
        have K1 := Hd.mk (Below.chain HB.out k1)
        clear k1
        go_wp2
        go_roundw
        case rel => exact ⟨k + 1, by omega, hlt, by go_num, HN2, K1⟩
        case measure => simp [intOf]; omega
    · have hd1 : decide ((k : Int) < 31) = false := by simp; omega
      have HE : Hd (rfindL nm.data.toList = 0) := ⟨rfind_no (fun j h1 h2 => HN.out j h1 (by omega))⟩
      go_wp2
      go_ret
      exact ⟨ret_i HE.out.symm, HB.out⟩

/-! ### skip -/
def skipL (l : List UInt8) (k : Nat) : Nat := k + ((l.drop k).takeWhile bk).length
theorem skip_succ {l : List UInt8} {k : Nat} (h : k < l.length) (hb : bk l[k] = true) : skipL l k = skipL l (k + 1) := by
  unfold skipL
  rw [List.drop_eq_getElem_cons h, List.takeWhile_cons, if_pos hb, List.length_cons]; omega
theorem skip_stop {l : List UInt8} {k : Nat} (h : k < l.length) (hb : bk l[k] = false) : skipL l k = k := by
  unfold skipL
  rw [List.drop_eq_getElem_cons h, List.takeWhile_cons, if_neg (by rw [hb]; decide)]; rfl
theorem skip_end {l : List UInt8} {k : Nat} (h : l.length ≤ k) : skipL l k = k := by
  unfold skipL
  rw [List.drop_eq_nil_of_le h]; rfl
theorem skip_le (l : List UInt8) (k : Nat) (h : k ≤ l.length) : k ≤ skipL l k ∧ skipL l k ≤ l.length := by
  unfold skipL
  have := (List.takeWhile_sublist (l := l.drop k) bk).length_le
  rw [List.length_drop] at this
  omega
theorem skip_drop (l : List UInt8) (k : Nat) : l.drop (skipL l k) = (l.drop k).dropWhile bk := by
  unfold skipL
  rw [← List.drop_drop]
  conv => lhs; rw [← List.takeWhile_append_dropWhile (p := bk) (l := l.drop k)]
  rw [List.drop_left']
  rw [List.takeWhile_append_dropWhile]
theorem bk_32 : bk 32 = true := by decide
theorem bk_9 : bk 9 = true := by decide
theorem bk_no {c : UInt8} (h1 : c ≠ 32) (h2 : c ≠ 9) : bk c = false := by
  unfold bk blanks
  simp [h1, h2]
theorem u8_eq {c d : UInt8} {z : Int} (hz : (d.toNat : Int) = z) (h : c = d) : ((c.toNat : Int) == z) = true := by subst h; simp [hz]
theorem u8_ne {c d : UInt8} {z : Int} (hz : (d.toNat : Int) = z) (h : c ≠ d) : ((c.toNat : Int) == z) = false := by
  simp only [beq_eq_false_iff_ne, ne_eq]
  intro e
  exact h (UInt8.toNat_inj.1 (by omega))

set_option maxHeartbeats 4000000 in
set_option maxRecDepth 100000 in
theorem rskip_any (s : ByteArray) (k : Nat) (w : World) (hs : s.size ≤ 1000) (hk : k ≤ s.size) : Calls Tryz.prog 35 #[.string s, .int .i64 (k : Nat)] w fun e w' => e = .returned (.int .i64 (skipL s.data.toList k : Nat)) ∧ w = w' := by
  go_enter Tryz.func35, Tryz.ntmps35
  go_wp2
  go_loop [1] (fun i => ∃ j : Nat, j ≤ s.size ∧ i = .int .i64 j ∧ Hd (skipL s.data.toList j = skipL s.data.toList k)) (fun i => s.size - (intOf i).toNat)
  case atStart => exact ⟨k, hk, rfl, ⟨rfl⟩⟩
  case round =>
    obtain ⟨j, hj, rfl, HE⟩ := hrel
    by_cases hlt : j < s.size
    · have hd1 : decide ((j : Int) < (s.size : Int)) = true := by simp; omega
      have i0 : (0 : Int) ≤ (j : Int) := by omega
      have i1 : (j : Int) < (s.size : Int) := by omega
      obtain ⟨ch, hch⟩ : ∃ ch, s[j]'hlt = ch := ⟨_, rfl⟩
      have hch2 : s.data.toList[j]'hlt = ch := hch
      by_cases h32 : ch = 32
      · have b1 := u8_eq (z := 32) rfl h32
        have HN : Hd (skipL s.data.toList (j + 1) = skipL s.data.toList k) := ⟨by rw [← skip_succ hlt (by rw [hch2, h32]; exact bk_32)]; exact HE.out⟩
        clear hch2 h32 HE
        go_wp2
        go_round
        case rel => exact ⟨j + 1, hlt, by go_num, HN⟩
        case measure => simp [intOf]; omega
      · have b1 := u8_ne (z := 32) rfl h32
        by_cases h9 : ch = 9
        · have b2 := u8_eq (z := 9) rfl h9
          have HN : Hd (skipL s.data.toList (j + 1) = skipL s.data.toList k) := ⟨by rw [← skip_succ hlt (by rw [hch2, h9]; exact bk_9)]; exact HE.out⟩
          clear hch2 h32 h9 HE
          go_wp2
          go_round
          case rel => exact ⟨j + 1, hlt, by go_num, HN⟩
          case measure => simp [intOf]; omega
        · have b2 := u8_ne (z := 9) rfl h9
          have HN : Hd (skipL s.data.toList k = j) := ⟨by rw [← HE.out]; exact skip_stop hlt (by rw [hch2]; exact bk_no h32 h9)⟩
          clear hch2 h32 h9 HE
          go_wp2
          go_ret
          exact ⟨by rw [HN.out]; rfl, rfl⟩
    · have hd1 : decide ((j : Int) < (s.size : Int)) = false := by simp; omega
      have HN : Hd (skipL s.data.toList k = j) := ⟨by rw [← HE.out]; exact skip_end (by show s.size ≤ j; omega)⟩
      go_wp2
      go_ret
      exact ⟨by rw [HN.out]; rfl, rfl⟩

end Go.Proofs.YtlohhlbbkliehaaGreatDoor.W
