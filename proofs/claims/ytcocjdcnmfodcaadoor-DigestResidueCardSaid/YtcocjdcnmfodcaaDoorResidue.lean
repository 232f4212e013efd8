/-
  DigestResidue: the walk of the law.
-/
import Derived.Test.YtcocjdcnmfodcaaDoorSmall
import Derived.Test.YtcocjdcnmfodcaaDoorTab
import Derived.Test.YtcocjdcnmfodcaaDoorResP
namespace Go.Proofs.YtcocjdcnmfodcaaDoor.W
open Go.RowKit
set_option linter.unusedVariables false

theorem byteCells4 {a b c d : Nat} (ha : a < 256) (hb : b < 256) (hc : c < 256) (hd : d < 256) :
    Lib.byteCells [UInt8.ofNat a, UInt8.ofNat b, UInt8.ofNat c, UInt8.ofNat d] = [.int .u8 (a : Int), .int .u8 (b : Int), .int .u8 (c : Int), .int .u8 (d : Int)] := by
  have e : ∀ x : Nat, x < 256 → (UInt8.ofNat x).toNat = x := fun x h => by simp; omega
  simp only [Lib.byteCells, List.map_cons, List.map_nil, e a ha, e b hb, e c hc, e d hd]

theorem back_rowN {W : World} {g cap : Nat} {l : List UInt8} (hb : Blk W g 5 (Lib.byteCells l)) :
    (convert 30 9 (.slice (some ⟨g, 0, none⟩) l.length cap)).run Tryd.prog W = .ok (.string ⟨l.toArray⟩) W :=
  run_convert_bytes_back (P := Tryd.prog) W 30 9 5 ⟨g, 0, none⟩ cap l Tryd.underlying30 Tryd.underlying5 Tryd.underlying9 (fun j hj => by
    have e : (⟨g, 0, none⟩ : Addr).add j = ⟨g, j, none⟩ := by unfold Addr.add; split <;> simp_all
    rw [e, hb.cell, byteCells_at hj]
    simp [List.getD_eq_getElem?_getD, List.getElem?_eq_getElem hj])

set_option maxHeartbeats 1000000 in
set_option maxRecDepth 100000 in
theorem residue_any (s : ByteArray) (hs : s.size ≤ maxLen) (w : World) (hT : Tabs w) :
    Calls Tryd.prog 5 #[.string s] w fun e w' => e = .returned (.bool true) ∧ Below w.heap.size w w' := by
  have HT := Hd.mk hT
  unfold maxLen at hs
  clear hT
  go_enter Tryd.func5, Tryd.ntmps5
  go_wp2_with fail
  refine (small_any _ HT.out).mono ?_
  rintro e w1 ⟨rfl, b1⟩
  have B1 := Hd.mk b1
  clear b1 HT
  by_cases hbig : s.size ≤ 2000
  · go_wp2_with fail
    refine (crc_any _ _ (by unfold maxLen; omega)).mono ?_
    rintro e w2 ⟨rfl, rfl⟩
    have hcl := crcL_low s.data.toList
    obtain ⟨n, hn⟩ : ∃ n, crcL s.data.toList = n := ⟨_, rfl⟩
    rw [hn] at hcl ⊢
    have HN := Hd.mk hn
    obtain ⟨a1, h1⟩ : ∃ a, n % 256 = a := ⟨_, rfl⟩
    obtain ⟨q2, g2⟩ : ∃ a, n / 256 = a := ⟨_, rfl⟩
    obtain ⟨a2, h2⟩ : ∃ a, q2 % 256 = a := ⟨_, rfl⟩
    obtain ⟨q3, g3⟩ : ∃ a, n / 65536 = a := ⟨_, rfl⟩
    obtain ⟨a3, h3⟩ : ∃ a, q3 % 256 = a := ⟨_, rfl⟩
    obtain ⟨a4, h4⟩ : ∃ a, n / 16777216 = a := ⟨_, rfl⟩
    have e1 : (n : Int) % 256 = (a1 : Int) := by omega
    have e2 : (n : Int) / 256 = (q2 : Int) := by omega
    have e3 : (q2 : Int) % 256 = (a2 : Int) := by omega
    have e4 : (n : Int) / 65536 = (q3 : Int) := by omega
    have e5 : (q3 : Int) % 256 = (a3 : Int) := by omega
    have e6 : (n : Int) / 16777216 = (a4 : Int) := by omega
    have l1 : a1 < 256 := by omega
    have l2 : a2 < 256 := by omega
    have l3 : a3 < 256 := by omega
    have l4 : a4 < 256 := by omega
    have l5 : q2 < 16777216 := by omega
    have l6 : q3 < 65536 := by omega
    have HL : Hd (le4 n = [UInt8.ofNat a1, UInt8.ofNat a2, UInt8.ofNat a3, UInt8.ofNat a4]) := ⟨by rw [le4, h1, g2, h2, g3, h3, h4]⟩
    clear h1 g2 h2 g3 h3 h4 hn
    have hbk := Blk.new w1 5 [.int .u8 (a1 : Int), .int .u8 (a2 : Int), .int .u8 (a3 : Int), .int .u8 (a4 : Int)]
    have hcv := back_rowN (cap := 4) (l := [UInt8.ofNat a1, UInt8.ofNat a2, UInt8.ofNat a3, UInt8.ofNat a4]) (hbk.cast (by rw [byteCells4 l1 l2 l3 l4]))
    have B2 : Hd (Below w.heap.size w (w1.alloc (.cells #[.int .u8 (a1 : Int), .int .u8 (a2 : Int), .int .u8 (a3 : Int), .int .u8 (a4 : Int)] 5))) := ⟨B1.out.alloc B1.out.size _⟩
    obtain ⟨t, ht⟩ : ∃ t : ByteArray, (⟨[UInt8.ofNat a1, UInt8.ofNat a2, UInt8.ofNat a3, UInt8.ofNat a4].toArray⟩ : ByteArray) = t := ⟨_, rfl⟩
    have hts : t.size = 4 := by rw [← ht]; rfl
    have htl : Hd (t.data.toList = le4 n) := ⟨by rw [← ht, HL.out]⟩
    rw [ht] at hcv
    have hcv2 : (convert 30 9 (.slice (some ⟨w1.heap.size, 0, none⟩) 4 4)).run Tryd.prog (w1.alloc (.cells #[.int .u8 (a1 : Int), .int .u8 (a2 : Int), .int .u8 (a3 : Int), .int .u8 (a4 : Int)] 5)) = .ok (.string t) (w1.alloc (.cells #[.int .u8 (a1 : Int), .int .u8 (a2 : Int), .int .u8 (a3 : Int), .int .u8 (a4 : Int)] 5)) := hcv
    clear hcv
    clear ht hbk HL
    go_wp2_with fail
    refine (crc_any _ _ (by unfold maxLen; simp; omega)).mono ?_
    rintro e w2 ⟨rfl, rfl⟩
    rw [show (s ++ t).data.toList = s.data.toList ++ t.data.toList by simp, htl.out, ← HN.out, crc_residue]
    clear htl HN
    go_wp2_with fail
    go_ret
    exact ⟨rfl, B2.out⟩
  · go_wp2_with fail
    go_ret
    exact ⟨rfl, B1.out⟩

end Go.Proofs.YtcocjdcnmfodcaaDoor.W
