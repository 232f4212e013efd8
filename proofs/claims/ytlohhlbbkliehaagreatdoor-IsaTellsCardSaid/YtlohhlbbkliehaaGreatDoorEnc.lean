/-
  The walk of Encode; what a right instruction is.
-/
import Derived.Test.YtlohhlbbkliehaaGreatDoorDec
import Derived.Test.YtlohhlbbkliehaaGreatDoorE
import Derived.Test.YtlohhlbbkliehaaGreatDoorF
import Derived.Test.YtlohhlbbkliehaaGreatDoorP
namespace Go.Proofs.YtlohhlbbkliehaaGreatDoor.W
open Go.RowKit
set_option linter.unusedVariables false

/-- an instruction that is right -/
structure RightP (op a b c m : Int) : Prop where
  op : 1 ≤ op ∧ op ≤ 30
  a : 0 ≤ a ∧ a ≤ 15
  b : 0 ≤ b ∧ b ≤ 15
  c : 0 ≤ c ∧ c ≤ 15
  m : -2147483648 ≤ m ∧ m ≤ 2147483647
theorem okF_range {op : Nat} {ch : UInt8} {n : Int} (hc : ch ≠ 73) (h : okF op ch n = true) : 0 ≤ n ∧ n ≤ 15 := by
  unfold okF at h
  simp only [Bool.and_eq_true, Bool.or_eq_true, decide_eq_true_eq] at h
  rcases h.2 with h | h
  · exact absurd h hc
  · exact h
theorem fits32 {m : Int} (h : fitsB m 32 true = true) : -2147483648 ≤ m ∧ m ≤ 2147483647 := by
  have := (fits_out (n := m) (b := 32) (by decide)).2
  rw [this] at h
  simp only [Bool.and_eq_true, decide_eq_true_eq] at h
  have e : ((2 : Int) ^ ((32 : Int).toNat - 1)) = 2147483648 := by decide
  rw [e] at h
  omega
theorem right_parts {op a b c m : Int} (h : rightB op a b c m = true) : RightP op a b c m := by
  unfold rightB at h
  simp only [Bool.and_eq_true, decide_eq_true_eq] at h
  obtain ⟨h1, h2, h3, h4, h5, h6⟩ := h
  refine ⟨h1, okF_range (by decide) h3, okF_range (by decide) h4, okF_range (by decide) h5, ?_⟩
  unfold immB at h2
  split at h2
  · simp only [Bool.and_eq_true, decide_eq_true_eq] at h2; exact fits32 h2.2
  · split at h2
    · simp only [Bool.and_eq_true, decide_eq_true_eq] at h2; omega
    · split at h2
      · simp only [Bool.and_eq_true, decide_eq_true_eq] at h2; omega
      · exact fits32 h2

/-- the first bytes -/
def encL (op a b c : Int) : List UInt8 := [UInt8.ofNat op.toNat, UInt8.ofNat a.toNat, UInt8.ofNat b.toNat, UInt8.ofNat c.toNat]
def encS (op a b c m : Int) : ByteArray := if rightB op a b c m then ⟨(encL op a b c ++ byteL m 4).toArray⟩ else ⟨#[]⟩

theorem put_enc (op a b c m : Int) (h : RightP op a b c m) : putS ⟨(encL op a b c ++ [0, 0, 0, 0]).toArray⟩ 4 4 m = ⟨(encL op a b c ++ byteL m 4).toArray⟩ ∧ putOk ⟨(encL op a b c ++ [0, 0, 0, 0]).toArray⟩ 4 4 m = true := by
  have hsz : (⟨(encL op a b c ++ [0, 0, 0, 0]).toArray⟩ : ByteArray).size = 8 := rfl
  have hok : putOk ⟨(encL op a b c ++ [0, 0, 0, 0]).toArray⟩ 4 4 m = true := by
    unfold putOk
    rw [hsz]
    have h1 : fieldB (8 : Nat) 4 4 = true := by decide
    have h2 : fitsB m (8 * 4) true = true := by
      have := (fits_out (n := m) (b := 8 * 4) (by decide)).2
      rw [this]
      have e : ((2 : Int) ^ ((8 * 4 : Int).toNat - 1)) = 2147483648 := by decide
      simp only [Bool.and_eq_true, decide_eq_true_eq]
      rw [e]
      have := h.m
      omega
    rw [h1, h2]
    simp
  refine ⟨?_, hok⟩
  rw [putS, if_pos hok]
  have := putL_eq ⟨(encL op a b c ++ [0, 0, 0, 0]).toArray⟩ 4 4 m (by rw [hsz]; decide)
  rw [show ((4 : Int)).toNat = 4 from rfl, this]
  rfl

theorem byte_conv {x : Int} (h0 : 0 ≤ x) (h1 : x ≤ 255) : IntKind.u8.wrap x = ((UInt8.ofNat x.toNat).toNat : Int) := by
  have e : (UInt8.ofNat x.toNat).toNat = x.toNat := by
    simp; omega
  rw [e, IntWalk.u8_in _ (by omega)]
  omega

set_option maxHeartbeats 2000000 in
set_option maxRecDepth 100000 in
theorem encode_any (op a b c m : Int) (w : World) (hT : FormsAt w) (hm : i64R m) : Calls Tryz.prog 9 #[.agg #[.int .i64 op, .int .i64 a, .int .i64 b, .int .i64 c, .int .i64 m]] w fun e w' => e = .returned (.tuple #[.string (encS op a b c m), .bool (rightB op a b c m)]) ∧ Below w.heap.size w w' := by
  have hbl := Blk.new w 23 [.int .i64 op, .int .i64 a, .int .i64 b, .int .i64 c, .int .i64 m]
  have HB := Hd.mk hbl
  have HR := Hd.mk (right_any op a b c m (w.alloc (.cells #[.int .i64 op, .int .i64 a, .int .i64 b, .int .i64 c, .int .i64 m] 23)) (hT.below ((Below.refl _ _).alloc (Nat.le_refl _) _)) hm)
  have HRP : Hd (rightB op a b c m = true → RightP op a b c m) := ⟨right_parts⟩
  have HEn : Hd (encS op a b c m = if rightB op a b c m then ⟨(encL op a b c ++ byteL m 4).toArray⟩ else ⟨#[]⟩) := ⟨rfl⟩
  obtain ⟨r, hr⟩ : ∃ r, rightB op a b c m = r := ⟨_, rfl⟩
  rw [hr] at HR HRP HEn ⊢
  clear hbl hT hr
  rcases r with _ | _
  · rw [HEn.out]
    clear hm HRP HEn
    go_enter Tryz.func9, Tryz.ntmps9
    go_wp2_with fail
    refine HR.out.mono ?_
    rintro e w1 ⟨rfl, k1⟩
    have K1 : Hd (Below w.heap.size w w1) := ⟨Below.chain ((Below.refl _ _).alloc (Nat.le_refl _) _) k1⟩
    clear k1
    go_wp2
    go_ret2
    exact ⟨rfl, K1.out⟩
  · have hp := HRP.out rfl
    have hpe := put_enc op a b c m hp
    rw [HEn.out]
    have HP := fun w => Hd.mk (put_any ⟨(encL op a b c ++ [0, 0, 0, 0]).toArray⟩ 4 4 m w (by show 8 ≤ 1000; decide) hm.1 hm.2)
    rw [hpe.1, hpe.2] at HP
    have c0 := byte_conv (x := op) (by have := hp.op; omega) (by have := hp.op; omega)
    have c1 := byte_conv (x := a) (by have := hp.a; omega) (by have := hp.a; omega)
    have c2 := byte_conv (x := b) (by have := hp.b; omega) (by have := hp.b; omega)
    have c3 := byte_conv (x := c) (by have := hp.c; omega) (by have := hp.c; omega)
    have hel : encL op a b c = [UInt8.ofNat op.toNat, UInt8.ofNat a.toNat, UInt8.ofNat b.toNat, UInt8.ofNat c.toNat] := rfl
    obtain ⟨x0, hx0⟩ : ∃ x, UInt8.ofNat op.toNat = x := ⟨_, rfl⟩
    obtain ⟨x1, hx1⟩ : ∃ x, UInt8.ofNat a.toNat = x := ⟨_, rfl⟩
    obtain ⟨x2, hx2⟩ : ∃ x, UInt8.ofNat b.toNat = x := ⟨_, rfl⟩
    obtain ⟨x3, hx3⟩ : ∃ x, UInt8.ofNat c.toNat = x := ⟨_, rfl⟩
    rw [hx0] at c0; rw [hx1] at c1; rw [hx2] at c2; rw [hx3] at c3
    rw [hx0, hx1, hx2, hx3] at hel
    rw [hel] at HP ⊢
    obtain ⟨out, hout⟩ : ∃ o : ByteArray, (⟨([x0, x1, x2, x3] ++ byteL m 4).toArray⟩ : ByteArray) = o := ⟨_, rfl⟩
    rw [hout] at HP
    have HOut : Hd ((if true = true then (⟨([x0, x1, x2, x3] ++ byteL m 4).toArray⟩ : ByteArray) else ⟨#[]⟩) = out) := ⟨hout⟩
    rw [HOut.out]
    clear hp hpe hel hx0 hx1 hx2 hx3 HEn HRP hm hout
    go_enter Tryz.func9, Tryz.ntmps9
    go_wp2_with fail
    refine HR.out.mono ?_
    rintro e w1 ⟨rfl, k1⟩
    have hb1 := HB.out.below k1 HB.out.lt
    have K1 : Hd (Below w.heap.size w w1) := ⟨Below.chain ((Below.refl _ _).alloc (Nat.le_refl _) _) k1⟩
    have b0 := hb1.at (j := 0) rfl
    have b1 := hb1.at (j := 1) rfl
    have b2 := hb1.at (j := 2) rfl
    have b3 := hb1.at (j := 3) rfl
    have b4 := hb1.at (j := 4) rfl
    clear k1 hb1
    have hcv : (convert 43 9 (.slice (some ⟨w1.heap.size, 0, none⟩) 8 8)).run Tryz.prog (w1.alloc (.cells #[.int .u8 (x0.toNat : Int), .int .u8 (x1.toNat : Int), .int .u8 (x2.toNat : Int), .int .u8 (x3.toNat : Int), .int .u8 0, .int .u8 0, .int .u8 0, .int .u8 0] 5)) = .ok (.string ⟨([x0, x1, x2, x3] ++ [0, 0, 0, 0]).toArray⟩) (w1.alloc (.cells #[.int .u8 (x0.toNat : Int), .int .u8 (x1.toNat : Int), .int .u8 (x2.toNat : Int), .int .u8 (x3.toNat : Int), .int .u8 0, .int .u8 0, .int .u8 0, .int .u8 0] 5)) :=
      run_convert_bytes_back (P := Tryz.prog) _ 43 9 5 ⟨w1.heap.size, 0, none⟩ 8 [x0, x1, x2, x3, 0, 0, 0, 0] Tryz.underlying43 Tryz.underlying5 Tryz.underlying9 (fun j hj => by
        have hb := Blk.new w1 5 [.int .u8 (x0.toNat : Int), .int .u8 (x1.toNat : Int), .int .u8 (x2.toNat : Int), .int .u8 (x3.toNat : Int), .int .u8 0, .int .u8 0, .int .u8 0, .int .u8 0]
        rw [show (⟨w1.heap.size, 0, none⟩ : Addr).add j = ⟨w1.heap.size, j, none⟩ from by unfold Addr.add; split <;> simp_all]
        refine hb.at ?_
        have hj' : j < 8 := hj
        rcases (by omega : j = 0 ∨ j = 1 ∨ j = 2 ∨ j = 3 ∨ j = 4 ∨ j = 5 ∨ j = 6 ∨ j = 7) with rfl | rfl | rfl | rfl | rfl | rfl | rfl | rfl <;> rfl)
    have b4' : (w1.alloc (.cells #[.int .u8 (x0.toNat : Int), .int .u8 (x1.toNat : Int), .int .u8 (x2.toNat : Int), .int .u8 (x3.toNat : Int), .int .u8 0, .int .u8 0, .int .u8 0, .int .u8 0] 5)).cell? ⟨w.heap.size, 4, none⟩ = some (.int .i64 m) := by
      rw [World.cell?_alloc_some _ _ _ (by rw [b4]; rfl)]; exact b4
    go_wp2_with fail
    refine (HP _).out.mono ?_
    rintro e w2 ⟨rfl, k2⟩
    have K2 : Hd (Below w.heap.size w w2) := ⟨Below.chain (K1.out.alloc K1.out.size _) k2⟩
    clear k2
    go_wp2
    go_ret2
    exact ⟨rfl, K2.out⟩

end Go.Proofs.YtlohhlbbkliehaaGreatDoor.W
