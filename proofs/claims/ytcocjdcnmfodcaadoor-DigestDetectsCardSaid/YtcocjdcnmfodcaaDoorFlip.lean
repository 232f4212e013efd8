/-
  DigestDetects: the walks.
-/
import Derived.Test.YtcocjdcnmfodcaaDoorSmall
import Derived.Test.YtcocjdcnmfodcaaDoorTab
import Derived.Test.YtcocjdcnmfodcaaDoorDetP
import Derived.Test.YtcocjdcnmfodcaaDoorOwn
import Derived.Deep.QuietTactic
import Derived.BigQuiet
namespace Go.Proofs.YtcocjdcnmfodcaaDoor.W
open Go.RowKit
set_option linter.unusedVariables false

/-- a row of bytes that may be written -/
structure BRow (W : World) (g : Nat) (l : List UInt8) : Prop where
  ok : ∀ j, j < l.length → W.cell? ⟨g, j, none⟩ = some (.int .u8 ((l.getD j 0).toNat : Int)) ∧ W.frozen? ⟨g, j, none⟩ = false

theorem BRow.set {W : World} {g : Nat} {l : List UInt8} (h : BRow W g l) {i : Nat} (hi : i < l.length) (v : UInt8) : BRow (W.setCell ⟨g, i, none⟩ (.int .u8 (v.toNat : Int))) g (l.set i v) := by
  refine ⟨fun j hj => ?_⟩
  rw [List.length_set] at hj
  have hj' := h.ok j hj
  by_cases e : j = i
  · subst e
    rw [List.getD_eq_getElem?_getD, List.getElem?_set_self hj]
    exact ⟨World.cell?_setCell_same _ _ _ hj'.1, by simpa using hj'.2⟩
  · rw [List.getD_eq_getElem?_getD, List.getElem?_set_ne (fun c => e c.symm), ← List.getD_eq_getElem?_getD]
    exact ⟨by rw [World.cell?_setCell_other _ _ _ _ (fun e' => e (Addr.mk.inj e').2.1.symm), hj'.1], by simpa using hj'.2⟩

theorem BRow.drew {W : World} {g : Nat} {l : List UInt8} (h : BRow W g l) : BRow W.drew g l := ⟨h.ok⟩

theorem BRow.of_string (w : World) (s : ByteArray) (cap : Nat) (e : TypeId) : BRow (w.drew.alloc (.cells (bytesRow s cap) e ((bytesRow s cap).size, (bytesRow s cap).size + 1))) w.heap.size s.data.toList := by
  refine ⟨fun j hj => ?_⟩
  have hj' : j < s.size := by simpa using hj
  have h := bytesRow_at s cap j hj'
  have hsz : j < (bytesRow s cap).size := (Array.getElem?_eq_some_iff.1 h).1
  have hb : (w.drew.alloc (.cells (bytesRow s cap) e ((bytesRow s cap).size, (bytesRow s cap).size + 1))).heap[w.heap.size]? = some (.cells (bytesRow s cap) e ((bytesRow s cap).size, (bytesRow s cap).size + 1)) := by
    show (w.heap.push _)[w.heap.size]? = _
    simp
  constructor
  · simp only [World.cell?, hb]
    rw [show (s.data.toList.getD j 0) = s.data[j]'hj' by simp [List.getD_eq_getElem?_getD, hj']]
    simpa using h
  · simp only [World.frozen?, hb]; simp; omega

theorem BRow.back {W : World} {g cap : Nat} {l : List UInt8} (h : BRow W g l) : (convert 30 9 (.slice (some ⟨g, 0, none⟩) l.length cap)).run Tryd.prog W = .ok (.string ⟨l.toArray⟩) W :=
  run_convert_bytes_back (P := Tryd.prog) W 30 9 5 ⟨g, 0, none⟩ cap l Tryd.underlying30 Tryd.underlying5 Tryd.underlying9 (fun j hj => by
    have e : (⟨g, 0, none⟩ : Addr).add j = ⟨g, j, none⟩ := by unfold Addr.add; split <;> simp_all
    rw [e, (h.ok j hj).1]
    simp [List.getD_eq_getElem?_getD, List.getElem?_eq_getElem hj])

theorem i64_and_one (x : Int) : bits .and .i64 x 1 = x % 2 := by
  show IntKind.i64.wrap ((BitVec.ofInt 64 x &&& BitVec.ofInt 64 1).toNat : Int) = _
  have e : (BitVec.ofInt 64 x &&& BitVec.ofInt 64 1).toNat = (BitVec.ofInt 64 x).toNat % 2 := by
    rw [BitVec.toNat_and, show (BitVec.ofInt 64 1).toNat = 1 from rfl, nat_mask1]
  have e2 : ((BitVec.ofInt 64 x).toNat : Int) = x % 18446744073709551616 := by
    rw [BitVec.toNat_ofInt]; omega
  rw [e]
  have : ((((BitVec.ofInt 64 x).toNat % 2 : Nat)) : Int) = x % 2 := by omega
  rw [this]
  exact IntWalk.i64_in _ (by omega)

def patB (pat : Int) (k : Nat) : Bool := (pat / 2 ^ k) % 2 == 1

theorem flip_bit (q : UInt8) (r : Nat) (h : r < 8) : bits BinOp.xor IntKind.u8 (q.toNat : Int) (2 ^ r % 256) = ((q ^^^ UInt8.ofNat (2 ^ r)).toNat : Int) := by
  have h2 : 2 ^ r < 256 := Nat.pow_lt_pow_right (by decide) h (n := 8)
  have e : (UInt8.ofNat (2 ^ r)).toNat = 2 ^ r := by simp; omega
  rw [← u8_xor, e]
  congr 1
  have : ((2 ^ r : Nat) : Int) = (2 : Int) ^ r := by simp
  omega

set_option maxHeartbeats 1000000 in
set_option maxRecDepth 100000 in
theorem flipped_any (s : ByteArray) (bit : Nat) (pat : Int) (w : World) (hs : s.size ≤ 2000) (hb : bit < 8 * s.size) (hp1 : -9223372036854775808 ≤ pat) (hp2 : pat ≤ 9223372036854775807) :
    Calls Tryd.prog 12 #[.string s, .int .i64 bit, .int .i64 pat] w fun e w' => e = .returned (.string ⟨(flipN (patB pat) s.data.toList bit 32).toArray⟩) ∧ Below w.heap.size w w' := by
  have hcv := run_bytes_of_string (P := Tryd.prog) w 9 30 5 s Tryd.underlying9 Tryd.underlying30 Tryd.underlying5
  generalize grownCap w s.size 0 5 = cap at hcv
  go_enter Tryd.func12, Tryd.ntmps12
  go_wp2_with fail
  have hl : s.data.toList.length = s.size := by simp
  go_loopw [8] (fun i wr => ∃ k : Nat, k ≤ 32 ∧ i = .int .i64 k ∧ BRow wr w.heap.size (flipN (patB pat) s.data.toList bit k) ∧ Below w.heap.size w wr) (fun i _ => 32 - (intOf i).toNat)
  case atStart => exact ⟨0, by omega, rfl, BRow.of_string w s cap 5, ((Below.refl _ _).alloc (Nat.le_refl _) _).drew⟩
  case round =>
    obtain ⟨k, hk, rfl, hR, hB⟩ := hrel
    have hfl := flipN_len (patB pat) s.data.toList bit k
    by_cases hlt : k < 32
    · have hd : decide ((k : Int) < 32) = true := by simp; omega
      have s1 : IntKind.i64.wrap ((bit : Int) + (k : Int)) = (bit : Int) + (k : Int) := IntWalk.i64_in _ (by omega)
      have hd8 : (bit + k) / 8 < s.size ∨ ¬ bit + k < 8 * s.size := by omega
      have HR := Hd.mk hR
      have HB := Hd.mk hB
      have hsz := hB.size
      clear hR hB
      by_cases c : patB pat k = true ∧ bit + k < 8 * s.data.toList.length
      · have c1 := c.1
        have c2 := c.2
        rw [hl] at c2
        have hand : bits BinOp.and IntKind.i64 (pat / 2 ^ k) 1 = 1 := by
          rw [i64_and_one]; unfold patB at c1; simpa using c1
        have hdb : decide ((bit : Int) + (k : Int) < 8 * (s.size : Int)) = true := by simp; omega
        have hst : Hd (flipN (patB pat) s.data.toList bit (k + 1) = _) := ⟨by rw [flipN, if_pos c]⟩
        obtain ⟨j, hj⟩ : ∃ j, (bit + k) / 8 = j := ⟨_, rfl⟩
        obtain ⟨r, hr⟩ : ∃ r, (bit + k) % 8 = r := ⟨_, rfl⟩
        have ej : ((bit : Int) + (k : Int)) / 8 = (j : Int) := by omega
        have er : ((bit : Int) + (k : Int)) % 8 = (r : Int) := by omega
        have hjl : j < s.size := by omega
        have hr8 : r < 8 := by omega
        obtain ⟨cc, cf⟩ := HR.out.ok j (by omega)
        obtain ⟨q, hq⟩ : ∃ q, (flipN (patB pat) s.data.toList bit k).getD j 0 = q := ⟨_, rfl⟩
        rw [hq] at cc
        rw [hj, hr, hq] at hst
        clear hj hr hq c c1 c2
        go_wp2_with fail
        go_region
        rw [flip_bit q r hr8]
        have R2 := HR.out.set (i := j) (by omega) (q ^^^ UInt8.ofNat (2 ^ r))
        rw [← hst.out] at R2
        have HR2 := Hd.mk R2.drew
        have HB2 : Hd (Below w.heap.size w (wr.setCell ⟨w.heap.size, j, none⟩ (.int .u8 ((q ^^^ UInt8.ofNat (2 ^ r)).toNat : Int))).drew) := ⟨(HB.out.setCell (p := ⟨w.heap.size, j, none⟩) (Nat.le_refl _) _).drew⟩
        clear R2 cc cf
        go_wp2
        go_roundw
        case rel => exact ⟨k + 1, by omega, by go_num, HR2.out, HB2.out⟩
        case measure => simp [intOf]; omega
      · have hst : Hd (flipN (patB pat) s.data.toList bit (k + 1) = flipN (patB pat) s.data.toList bit k) := ⟨by rw [flipN, if_neg c]⟩
        by_cases c1 : patB pat k = true
        · have c2 : ¬ bit + k < 8 * s.size := by rw [← hl]; exact fun x => c ⟨c1, x⟩
          have hand : bits BinOp.and IntKind.i64 (pat / 2 ^ k) 1 = 1 := by
            rw [i64_and_one]; unfold patB at c1; simpa using c1
          have hdb : decide ((bit : Int) + (k : Int) < 8 * (s.size : Int)) = false := by simp; omega
          clear c c1 c2
          go_wp2
          go_roundw
          case rel => exact ⟨k + 1, by omega, by go_num, by rw [hst.out]; exact HR.out, HB.out⟩
          case measure => simp [intOf]; omega
        · have hand : bits BinOp.and IntKind.i64 (pat / 2 ^ k) 1 = 0 := by
            rw [i64_and_one]; unfold patB at c1; simp at c1; omega
          clear c c1
          go_wp2
          go_roundw
          case rel => exact ⟨k + 1, by omega, by go_num, by rw [hst.out]; exact HR.out, HB.out⟩
          case measure => simp [intOf]; omega
    · have hk32 : k = 32 := by omega
      have hd : decide ((k : Int) < 32) = false := by simp; omega
      rw [hk32] at hR hfl
      have hbk := hR.back (cap := cap)
      rw [hfl, hl] at hbk
      go_wp2
      go_ret
      exact ⟨rfl, hB⟩

theorem len8 (s : ByteArray) : s.data.toList.length = s.size := by simp

set_option maxHeartbeats 1000000 in
set_option maxRecDepth 100000 in
theorem detects_any (s : ByteArray) (bit pat : Int) (hs : s.size ≤ maxLen) (hb : -9223372036854775808 ≤ bit ∧ bit ≤ 9223372036854775807) (hp : -9223372036854775808 ≤ pat ∧ pat ≤ 9223372036854775807) (w : World) (hT : Tabs w) :
    Calls Tryd.prog 4 #[.string s, .int .i64 bit, .int .i64 pat] w fun e w' => e = .returned (.bool true) ∧ Below w.heap.size w w' := by
  have HT := Hd.mk hT
  unfold maxLen at hs
  clear hT
  go_enter Tryd.func4, Tryd.ntmps4
  go_wp2_with fail
  refine (small_any _ HT.out).mono ?_
  rintro e w1 ⟨rfl, b1⟩
  have B1 := Hd.mk b1
  clear b1 HT
  by_cases hok : s.size ≤ 2000 ∧ 0 ≤ bit ∧ bit < 8 * (s.size : Int)
  · obtain ⟨h1, h2, h3⟩ := hok
    obtain ⟨n, rfl⟩ : ∃ n : Nat, bit = (n : Int) := ⟨bit.toNat, by omega⟩
    have hn : n < 8 * s.size := by omega
    have d1 : decide ((2000 : Int) < (s.size : Int)) = false := by simp; omega
    have d2 : decide ((n : Int) < 0) = false := by simp
    have d3 : decide (8 * (s.size : Int) ≤ (n : Int)) = false := by simp; omega
    clear hb h2 h3
    go_wp2_with fail
    refine (flipped_any _ n _ _ (by omega) hn hp.1 hp.2).mono ?_
    rintro e w2 ⟨rfl, b2⟩
    have B2 := Hd.mk (Below.chain B1.out b2)
    have hdet := detects (patB pat) s.data.toList n (by rw [len8]; exact hn)
    have hfl := flipN_len (patB pat) s.data.toList n 32
    obtain ⟨t, ht⟩ : ∃ t : ByteArray, (⟨(flipN (patB pat) s.data.toList n 32).toArray⟩ : ByteArray) = t := ⟨_, rfl⟩
    have htl : t.data.toList = flipN (patB pat) s.data.toList n 32 := by rw [← ht]
    have hts : t.size ≤ 2000 := by rw [← len8, htl, hfl, len8]; omega
    rw [ht]
    rw [← htl] at hdet
    have HD : Hd (t = s ↔ crcL t.data.toList = crcL s.data.toList) := ⟨by
      rw [← hdet]
      exact ⟨fun h => by rw [h], fun h => by
        cases t; cases s
        simp only [ByteArray.mk.injEq]
        exact Array.toList_inj.1 h⟩⟩
    clear hdet hfl ht htl b2 B1
    go_wp2_with fail
    refine (crc_any _ _ (by unfold maxLen; omega)).mono ?_
    rintro e w4 ⟨rfl, rfl⟩
    obtain ⟨x, hx⟩ : ∃ x, crcL s.data.toList = x := ⟨_, rfl⟩
    go_wp2_with fail
    refine (crc_any _ _ (by unfold maxLen; omega)).mono ?_
    rintro e w4 ⟨rfl, rfl⟩
    obtain ⟨y, hy⟩ : ∃ y, crcL t.data.toList = y := ⟨_, rfl⟩
    have HD2 := HD.out
    rw [hx, hy] at HD2
    rw [hy]
    clear hx hy
    go_wp2_with fail
    go_ret
    refine ⟨ret_b ?_, B2.out⟩
    rw [str_beq]
    by_cases h : t = s
    · have h' := HD2.1 h
      simp [h, h']
    · have h' : ¬ y = x := fun c => h (HD2.2 c)
      have h2 : ¬ s = t := fun c => h c.symm
      have h3 : ¬ (x : Int) = (y : Int) := by omega
      simp [h2, h3]
  · have d : (decide ((2000 : Int) < (s.size : Int)) || decide (bit < 0) || decide (8 * (s.size : Int) ≤ bit)) = true := by simp; omega
    go_wp2_with fail
    all_goals
      go_ret
      exact ⟨rfl, B1.out⟩

end Go.Proofs.YtcocjdcnmfodcaaDoor.W
