/-
  The walk of the program's Short.
-/
import Derived.Test.YtcocjdcnmfodcaaDoorSmall
namespace Go.Proofs.YtcocjdcnmfodcaaDoor.W
open Go.RowKit
set_option linter.unusedVariables false

/-- the number of bytes, the first the highest -/
def beN (l : List UInt8) : Nat := l.foldl (fun n c => n * 256 + c.toNat) 0
def shortL (l : List UInt8) : Nat := beN ((sumL l).take 8) / 16

theorem beN_snoc (l : List UInt8) (b : UInt8) : beN (l ++ [b]) = beN l * 256 + b.toNat := by simp [beN]

theorem beN_fold : ∀ (l : List UInt8) (n : Nat), l.foldl (fun n c => n * 256 + c.toNat) n < (n + 1) * 256 ^ l.length
  | [], n => by simp
  | b :: l, n => by
    have h := beN_fold l (n * 256 + b.toNat)
    have hb := b.toNat_lt
    rw [List.foldl_cons, List.length_cons, Nat.pow_succ, Nat.mul_comm (256 ^ l.length) 256, ← Nat.mul_assoc]
    exact Nat.lt_of_lt_of_le h (Nat.mul_le_mul_right _ (by omega))
theorem beN_low (l : List UInt8) : beN l < 256 ^ l.length := by
  have := beN_fold l 0
  simpa [beN] using this

/-- what a string's bytes read as in a row -/
theorem bytes_cell (w : World) (s : ByteArray) (cap : Nat) (e : TypeId) (j : Nat) (hj : j < s.size) :
    (w.drew.alloc (.cells (bytesRow s cap) e ((bytesRow s cap).size, (bytesRow s cap).size + 1))).cell? ⟨w.heap.size, j, none⟩ = some (.int .u8 (s[j].toNat : Int)) := by
  have h := bytesRow_at s cap j hj
  have hb : (w.drew.alloc (.cells (bytesRow s cap) e ((bytesRow s cap).size, (bytesRow s cap).size + 1))).heap[w.heap.size]? = some (.cells (bytesRow s cap) e ((bytesRow s cap).size, (bytesRow s cap).size + 1)) := by
    show (w.heap.push _)[w.heap.size]? = _
    simp
  simp only [World.cell?, hb]
  exact (by simpa using h : (bytesRow s cap)[j]? = some (.int .u8 (s.data[j].toNat : Int)))

theorem or_byte (n : Nat) (b : UInt8) (h : n * 256 < 18446744073709551616) : bits BinOp.or IntKind.u64 ((n : Int) * 256) (b.toNat : Int) = ((n * 256 + b.toNat : Nat) : Int) := by
  have hb := b.toNat_lt
  have := u64_or_nat (n * 256) b.toNat h (by omega)
  rw [← Nat.shiftLeft_eq n 8, ← Nat.shiftLeft_add_eq_or_of_lt (i := 8) hb n, Nat.shiftLeft_eq] at this
  exact this

set_option maxHeartbeats 1000000 in
set_option maxRecDepth 100000 in
theorem short_any (s : ByteArray) (w : World) (hT : Tabs w) (hs : s.size ≤ 1000000) :
    Calls Tryd.prog 17 #[.string s] w fun e w' => e = .returned (.int .i64 (shortL s.data.toList : Nat)) ∧ Below w.heap.size w w' := by
  have HT := Hd.mk hT
  clear hT
  go_enter Tryd.func17, Tryd.ntmps17
  go_wp2_with fail
  refine (sum_any _ _ HT.out hs).mono ?_
  rintro e w1 ⟨rfl, b1⟩
  obtain ⟨q, hq⟩ : ∃ q, sumL s.data.toList = q := ⟨_, rfl⟩
  have hql : q.length = 32 := by rw [← hq, sumL_len]
  have hqs : (⟨q.toArray⟩ : ByteArray).size = 32 := hql
  rw [hq]
  have HQ := Hd.mk hq
  have B1 := Hd.mk b1
  clear b1 hq
  obtain ⟨t, ht⟩ : ∃ t, (⟨q.toArray⟩ : ByteArray).extract 0 8 = t := ⟨_, rfl⟩
  have hts : t.size = 8 := by rw [← ht, ByteArray.size_extract]; omega
  have htl : t.data.toList = q.take 8 := by rw [← ht, Lib.extract_data]; rfl
  have hcv := run_bytes_of_string (P := Tryd.prog) w1 9 30 5 t Tryd.underlying9 Tryd.underlying30 Tryd.underlying5
  rw [hts] at hcv
  generalize grownCap w1 8 0 5 = cap at hcv
  have hce := Hd.mk (bytes_cell w1 t cap 5)
  have HTL := Hd.mk htl
  clear htl
  go_wp2_with fail
  obtain ⟨W, hW⟩ : ∃ W, (w1.alloc (.cells (bytesRow t cap) 5 ((bytesRow t cap).size, (bytesRow t cap).size + 1))).drew = W := ⟨_, rfl⟩
  have BW : Below w.heap.size w W := by rw [← hW]; exact Go.below_drewN (B1.out.alloc B1.out.size _) 1
  have hcw : Hd (∀ j (h : j < t.size), W.cell? ⟨w1.heap.size, j, none⟩ = some (.int .u8 (t[j].toNat : Int))) := by rw [← hW]; exact hce
  rw [hW]
  have HBW := Hd.mk BW
  clear hce hW BW B1 hcv HT
  have h8 : (t.data.toList.take 8) = t.data.toList := List.take_of_length_le (by simp; omega)
  have H8 := Hd.mk h8
  clear h8
  go_loop [3, 11] (fun n i => ∃ k : Nat, k ≤ 8 ∧ i = .int .i64 k ∧ n = .int .u64 ((beN (t.data.toList.take k) : Nat) : Int)) (fun _ i => 8 - (intOf i).toNat)
  case atStart => exact ⟨0, Nat.zero_le _, rfl, rfl⟩
  case round =>
    obtain ⟨k, hk, rfl, rfl⟩ := hrel
    have hlow := beN_low (t.data.toList.take k)
    by_cases hlt : k < 8
    · have hx := Hd.mk (take_snoc t k (by omega))
      have hcc := hcw.out k (by omega)
      have hd : decide ((k : Int) < 8) = true := by simp; omega
      have hlen : (t.data.toList.take k).length ≤ 7 := by rw [List.length_take]; omega
      have hp : 256 ^ (t.data.toList.take k).length ≤ 256 ^ 7 := Nat.pow_le_pow_right (by decide) hlen
      have hl7 : beN (t.data.toList.take k) < 72057594037927936 := Nat.lt_of_lt_of_le hlow hp
      obtain ⟨n, hn⟩ : ∃ n, beN (t.data.toList.take k) = n := ⟨_, rfl⟩
      rw [hn] at hl7 ⊢
      have HN := Hd.mk hn
      have hor := or_byte n t[k] (by omega)
      clear hlow hp hn hlen
      have hbl := t[k].toNat_lt
      have hwr : IntKind.u64.wrap (t[k].toNat : Int) = (t[k].toNat : Int) := by rw [IntKind.wrap_u64]; omega
      go_wp2
      go_round
      case rel => exact ⟨k + 1, by omega, by go_num, by rw [hx.out, beN_snoc, HN.out]; simp⟩
      case measure => simp [intOf]; omega
    · have hk8 : k = 8 := by omega
      have hd : decide ((k : Int) < 8) = false := by simp; omega
      have e8 : shortL s.data.toList = beN (t.data.toList.take k) / 16 := by rw [shortL, HQ.out, ← HTL.out, hk8, H8.out]
      have hlen : (t.data.toList.take k).length = 8 := by rw [List.length_take]; simp; omega
      rw [hlen] at hlow
      obtain ⟨n, hn⟩ : ∃ n, beN (t.data.toList.take k) = n := ⟨_, rfl⟩
      rw [hn] at hlow e8 ⊢
      have E8 := Hd.mk e8
      obtain ⟨y, hy⟩ : ∃ y, n / 16 = y := ⟨_, rfl⟩
      have xd : (n : Int) / 16 = (y : Int) := by omega
      have hyl : y < 1152921504606846976 := by omega
      have HY := Hd.mk hy
      clear hlen hn e8 hk8 hy
      go_wp2
      go_ret
      exact ⟨ret_i (by rw [E8.out, HY.out]), HBW.out⟩

end Go.Proofs.YtcocjdcnmfodcaaDoor.W
