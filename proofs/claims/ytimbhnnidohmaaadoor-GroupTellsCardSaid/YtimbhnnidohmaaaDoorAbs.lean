/-
  The walk of absorb, for a block of at most 136 bytes.
-/
import Derived.Test.YtimbhnnidohmaaaDoorPerm
namespace Go.Proofs.YtimbhnnidohmaaaDoor.W
open Go.RowKit
set_option linter.unusedVariables false

theorem abs_val (x b e : Nat) (hx : x < 18446744073709551616) (hb : b < 256) :
    bits BinOp.xor IntKind.u64 (x : Int) (IntKind.u64.wrap (IntKind.u64.wrap (b : Int) * 2 ^ e)) = ((x ^^^ (b * 2 ^ e % 18446744073709551616) : Nat) : Int) := by
  have e0 : IntKind.u64.wrap (b : Int) = (b : Int) := by rw [IntKind.wrap_u64]; omega
  have e1 : IntKind.u64.wrap ((b : Int) * 2 ^ e) = ((b * 2 ^ e % 18446744073709551616 : Nat) : Int) := by
    rw [IntKind.wrap_u64, Int.natCast_emod, Int.natCast_mul, Int.natCast_pow]; rfl
  rw [e0, e1, u64_xor_nat _ _ hx (Nat.mod_lt _ (by decide))]

theorem abs_step {w : World} {A T k d : Nat} {a : List Nat} {s : List UInt8} {v : Nat} (h : Blk w A T (lanes (absorbN a s k))) (hd : k / 8 = d)
    (hv : v = nth (absorbN a s k) d ^^^ ((s.getD k 0).toNat * 2 ^ (8 * (k % 8)) % 18446744073709551616)) :
    Blk (w.setCell ⟨A, d, none⟩ (.int .u64 (v : Int))) A T (lanes (absorbN a s (k + 1))) := by
  have := h.set d (.int .u64 (v : Int))
  rw [lanes_set] at this
  rw [absorbN, hd, ← hv]
  exact this

set_option maxHeartbeats 1000000 in
theorem absorb_any (A : Nat) (a : List Nat) (s : ByteArray) (w : World) (hT : Tabs w) (hA : Blk w A 85 (lanes a)) (hl : a.length = 25) (ha : Low a) (h2 : 1 < A) (hs : s.size ≤ 136) :
    Calls Tryd.prog 35 #[.pointer (some ⟨A, 0, none⟩), .string s] w fun e w' => e = .returned (.tuple #[]) ∧ Blk w' A 85 (lanes (absorbF a s.data.toList)) ∧ Keeps (· = A) w w' := by
  have HT := Hd.mk hT
  have HA := Hd.mk hA
  clear hT hA
  go_enter Tryd.func35, Tryd.ntmps35
  go_wp2
  go_loopw [7] (fun i wr => ∃ k : Nat, k ≤ s.size ∧ i = .int .i64 k ∧ Blk wr A 85 (lanes (absorbN a s.data.toList k)) ∧ Keeps (· = A) w wr) (fun i _ => s.size - (intOf i).toNat)
  case atStart => exact ⟨0, Nat.zero_le _, rfl, HA.out, Keeps.refl _ _⟩
  case round =>
    obtain ⟨k, hk, rfl, bA, hK⟩ := hrel
    by_cases hlt : k < s.size
    · have al := absorbN_low ha hl s.data.toList k
      obtain ⟨d, hd⟩ : ∃ d, k / 8 = d := ⟨_, rfl⟩
      obtain ⟨m, hm⟩ : ∃ m, k % 8 = m := ⟨_, rfl⟩
      have ed : (k : Int) / 8 = (d : Int) := by omega
      have em : (k : Int) % 8 = (m : Int) := by omega
      have bd : d < 17 := by omega
      have bm : m < 8 := by omega
      have cA := bA.at (lanes_at (l := absorbN a s.data.toList k) (j := d) (by omega))
      have fA := bA.free d
      have xl := al.1 d
      have HBA := Hd.mk bA
      have HK := Hd.mk hK
      have HMs := Hd.mk (And.intro hd hm)
      clear hd hm bA hK al
      repeat go_step
      go_region
      go_wp2
      obtain ⟨hd, hm⟩ := HMs.out
      have eb : (s.data.toList.getD k 0).toNat = s[k].toNat := by
        rw [List.getD_eq_getElem?_getD, List.getElem?_eq_getElem (by simpa using hlt)]
        simp; rfl
      go_roundw
      case rel =>
        refine ⟨k + 1, by omega, by go_num, ?_, (HK.out.setCell (p := ⟨A, d, none⟩) (.inr rfl) _).drew⟩
        rw [abs_val _ s[k].toNat (8 * m) xl s[k].toNat_lt]
        exact (abs_step HBA.out hd (by rw [eb, hm])).drew
      case measure => simp [intOf]; omega
    · have hks : k = s.size := by omega
      have hll : s.data.toList.length = s.size := by simp
      rw [hks] at bA
      have al := absorbN_low ha hl s.data.toList s.size
      have hT1 := HT.out.keeps hK (by omega) (by omega)
      have HBA := Hd.mk bA
      have HK := Hd.mk hK
      have HL := Hd.mk hll
      clear hks hll bA hK
      go_wp2_with (go_at_call 46; refine (permute_any A _ _ hT1 HBA.out al.2 al.1 h2).mono ?_; rintro e w' ⟨rfl, hb, hk2⟩)
      go_end0
      refine ⟨rfl, ?_, HK.out.trans hk2⟩
      unfold absorbF
      rw [HL.out]
      exact hb

end Go.Proofs.YtimbhnnidohmaaaDoor.W
