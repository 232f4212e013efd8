/-
  The walk of the program's Put, for strings of at most 1000 bytes.
-/
import Derived.Test.YtlohhlbbkliehaaGreatDoorB
import Derived.Test.YtlohhlbbkliehaaGreatDoorC
import Derived.Handy
namespace Go.Proofs.YtlohhlbbkliehaaGreatDoor.W
open Go.RowKit
set_option linter.unusedVariables false

/-- byte i of a number, as Put writes it -/
def byteOf (n : Int) (i : Nat) : Int := IntKind.u64.wrap n / 2 ^ (8 * i) % 256

theorem byteOf_bd (n : Int) (i : Nat) : 0 ≤ byteOf n i ∧ byteOf n i < 256 := by unfold byteOf; omega

set_option maxHeartbeats 400000 in
theorem putl_any (i a len cap B : Nat) (n old : Int) (pn po pa : Addr) (w : World) (hn : w.cell? pn = some (.int .i64 n)) (ho : w.cell? po = some (.slice (some ⟨B, 0, none⟩) len cap)) (ha : w.cell? pa = some (.int .i64 a))
    (hc : w.cell? ⟨B, a + i, none⟩ = some (.int .u8 old)) (hf : w.frozen? ⟨B, a + i, none⟩ = false) (hl : a + i < len) (hm : len ≤ 1000) (hi : i < 8) :
    Calls Tryz.prog 52 #[.int .i64 i, .pointer (some pn), .pointer (some po), .pointer (some pa)] w fun e w' => e = .returned (.tuple #[]) ∧ (w.setCell ⟨B, a + i, none⟩ (.int .u8 (byteOf n i))).drew = w' := by
  go_enter Tryz.func52, Tryz.ntmps52
  go_region
  go_end0
  exact ⟨rfl, rfl⟩

/-- the byte at j after the first k were written from a on -/
def mixed (s : ByteArray) (a k : Nat) (n : Int) (j : Nat) : Int := if a ≤ j ∧ j < a + k then byteOf n (j - a) else if h : j < s.size then (s[j]'h).toNat else 0

/-- the new text -/
def putL (s : ByteArray) (a k : Nat) (n : Int) : List UInt8 := (List.range s.size).map fun j => UInt8.ofNat (mixed s a k n j).toNat

theorem putL_len (s : ByteArray) (a k : Nat) (n : Int) : (putL s a k n).length = s.size := by simp [putL]

theorem mixed_bd (s : ByteArray) (a k : Nat) (n : Int) (j : Nat) : 0 ≤ mixed s a k n j ∧ mixed s a k n j < 256 := by
  unfold mixed
  split
  · exact byteOf_bd _ _
  · split
    · rename_i h; have := (s[j]'h).toNat_lt; omega
    · omega

theorem putL_get (s : ByteArray) (a k : Nat) (n : Int) (j : Nat) (h : j < (putL s a k n).length) : (((putL s a k n)[j]'h).toNat : Int) = mixed s a k n j := by
  have := mixed_bd s a k n j
  simp [putL]
  omega

/-- what a round of Put writes keeps -/
def Cells (wr : World) (B : Nat) (s : ByteArray) (a k : Nat) (n : Int) : Prop := ∀ j, j < s.size → wr.cell? ⟨B, j, none⟩ = some (.int .u8 (mixed s a k n j)) ∧ wr.frozen? ⟨B, j, none⟩ = false

theorem cells_step {wr : World} {B : Nat} {s : ByteArray} {a k : Nat} {n : Int} (h : Cells wr B s a k n) (hk : a + k < s.size) :
    Cells (wr.setCell ⟨B, a + k, none⟩ (.int .u8 (byteOf n k))).drew B s a (k + 1) n := by
  intro j hj
  have hj' := h j hj
  by_cases e : j = a + k
  · subst e
    refine ⟨?_, by simpa using hj'.2⟩
    have : mixed s a (k + 1) n (a + k) = byteOf n k := by unfold mixed; rw [if_pos ⟨by omega, by omega⟩]; congr 1; omega
    rw [this]
    exact World.cell?_setCell_same _ _ _ hj'.1
  · have : mixed s a (k + 1) n j = mixed s a k n j := by
      unfold mixed
      by_cases e2 : a ≤ j ∧ j < a + k
      · rw [if_pos e2, if_pos ⟨e2.1, by omega⟩]
      · rw [if_neg e2, if_neg (by omega)]
    rw [this]
    exact ⟨by rw [show (wr.setCell ⟨B, a + k, none⟩ (.int .u8 (byteOf n k))).drew.cell? ⟨B, j, none⟩ = (wr.setCell ⟨B, a + k, none⟩ (.int .u8 (byteOf n k))).cell? ⟨B, j, none⟩ from rfl, World.cell?_setCell_other _ _ _ _ (fun e' => e (Addr.mk.inj e').2.1.symm), hj'.1], by simpa using hj'.2⟩

theorem start_cells (w : World) (o1 o2 o4 : Obj) (s : ByteArray) (a cap : Nat) (n : Int) (row : Array Value) (hrow : bytesRow s cap = row) :
    Cells ((((w.alloc o1).alloc o2).alloc (.cells row 5 (row.size, row.size + 1))).alloc o4).drew (w.heap.size + 1 + 1) s a 0 n := by
  subst hrow
  intro j hj
  have h := bytesRow_at s cap j (by simpa using hj)
  have hsz : j < (bytesRow s cap).size := (Array.getElem?_eq_some_iff.1 h).1
  have e : mixed s a 0 n j = (s.data[j]'(by simpa using hj)).toNat := by
    unfold mixed; rw [if_neg (by omega), dif_pos hj]; rfl
  rw [e]
  have hb : ((((w.alloc o1).alloc o2).alloc (.cells (bytesRow s cap) 5 ((bytesRow s cap).size, (bytesRow s cap).size + 1))).alloc o4).drew.heap[w.heap.size + 1 + 1]? = some (.cells (bytesRow s cap) 5 ((bytesRow s cap).size, (bytesRow s cap).size + 1)) := by
    show ((((w.heap.push _).push _).push _).push _)[w.heap.size + 1 + 1]? = _
    simp only [Array.getElem?_push, Array.size_push]
    rw [if_neg (by omega), if_pos trivial]
  constructor
  · simp only [World.cell?, hb]; simpa using h
  · simp only [World.frozen?, hb]; simp; omega

/-- what the bytes of the block read as -/
theorem back (w : World) (B cap : Nat) (s : ByteArray) (a k : Nat) (n : Int) (h : Cells w B s a k n) :
    (convert 43 9 (.slice (some ⟨B, 0, none⟩) s.size cap)).run Tryz.prog w = .ok (.string ⟨(putL s a k n).toArray⟩) w := by
  have := run_convert_bytes_back (P := Tryz.prog) w 43 9 5 ⟨B, 0, none⟩ cap (putL s a k n) Tryz.underlying43 Tryz.underlying5 Tryz.underlying9 (fun j hj => by
    rw [putL_get]
    rw [putL_len] at hj
    have e : (⟨B, 0, none⟩ : Addr).add j = ⟨B, j, none⟩ := by unfold Addr.add; split <;> simp_all
    rw [e]
    exact (h j hj).1)
  rwa [putL_len] at this

def putOk (s : ByteArray) (a k n : Int) : Bool := fieldB s.size a k && (fitsB n (8 * k) false || fitsB n (8 * k) true)

set_option maxHeartbeats 400000 in
theorem put_yes (s : ByteArray) (a k : Nat) (n : Int) (w : World) (hs : s.size ≤ 1000) (h1 : a + k ≤ s.size) (hk : k = 1 ∨ k = 2 ∨ k = 4 ∨ k = 8) (hf : fieldB s.size a k = true)
    (hn1 : -9223372036854775808 ≤ n) (hn2 : n ≤ 9223372036854775807) (hF : fitsB n (8 * k) false = true) :
    Calls Tryz.prog 27 #[.string s, .int .i64 a, .int .i64 k, .int .i64 n] w fun e w' => e = .returned (.tuple #[.string ⟨(putL s a k n).toArray⟩, .bool true]) ∧ Below w.heap.size w w' := by
  have h2 : k ≤ 8 := by omega
  have hcv := run_bytes_of_string (P := Tryz.prog) ((w.alloc (.cells #[.int .i64 a] 3)).alloc (.cells #[.int .i64 n] 3)) 9 43 5 s Tryz.underlying9 Tryz.underlying43 Tryz.underlying5
  generalize grownCap ((w.alloc (.cells #[.int .i64 a] 3)).alloc (.cells #[.int .i64 n] 3)) s.size 0 5 = cap at hcv
  generalize hrow : bytesRow s cap = row at hcv
  have HR := Lib.hid hrow
  clear hrow
  clear hk
  go_enter Tryz.func27, Tryz.ntmps27
  go_wp2_with (first | (go_at_call 50; refine (field_any _ _ _ _ (by unfold maxLen; omega)).mono ?_; rintro e w' ⟨rfl, rfl⟩; simp only [hf]) | (go_at_call 51; refine (fits_any _ _ _ _ (by omega) (by omega)).mono ?_; rintro e w' ⟨rfl, rfl⟩))
  go_loopw [36] (fun i wr => ∃ j : Nat, j ≤ k ∧ i = .int .i64 j ∧ Cells wr (w.heap.size + 1 + 1) s a j n ∧ wr.cell? ⟨w.heap.size, 0, none⟩ = some (.int .i64 a) ∧ wr.cell? ⟨w.heap.size + 1, 0, none⟩ = some (.int .i64 n) ∧ wr.cell? ⟨w.heap.size + 1 + 1 + 1, 0, none⟩ = some (.slice (some ⟨w.heap.size + 1 + 1, 0, none⟩) s.size cap) ∧ Below w.heap.size w wr) (fun i _ => k - (intOf i).toNat)
  case atStart => exact ⟨0, Nat.zero_le _, rfl, start_cells w _ _ _ s a cap n row HR.out, by simp [go_sem], by simp [go_sem], by simp [go_sem], by go_grown⟩
  case round =>
    obtain ⟨j, hj, rfl, HC, ca, cn, co, hb⟩ := hrel
    by_cases hlt : j < k
    · have hcj := HC (a + j) (by omega)
      go_wp2_with (go_at_call 52; refine (putl_any j a s.size cap (w.heap.size + 1 + 1) n _ _ _ _ _ cn co ca hcj.1 hcj.2 (by omega) (by omega) (by omega)).mono ?_; rintro e w' ⟨rfl, rfl⟩)
      go_roundw
      case rel => exact ⟨j + 1, by omega, by go_num, cells_step HC (by omega), by simp [go_sem, ca], by simp [go_sem, cn], by simp [go_sem, co], by go_grown⟩
      case measure => simp [intOf]; omega
    · obtain rfl : j = k := by omega
      have hbk := back wr (w.heap.size + 1 + 1) cap s a j n HC
      go_wp2
      go_ret2
      exact ⟨rfl, hb⟩

set_option maxHeartbeats 400000 in
theorem put_yes' (s : ByteArray) (a k : Nat) (n : Int) (w : World) (hs : s.size ≤ 1000) (h1 : a + k ≤ s.size) (hk : k = 1 ∨ k = 2 ∨ k = 4 ∨ k = 8) (hf : fieldB s.size a k = true)
    (hn1 : -9223372036854775808 ≤ n) (hn2 : n ≤ 9223372036854775807) (hF : fitsB n (8 * k) false = false) (hF' : fitsB n (8 * k) true = true) :
    Calls Tryz.prog 27 #[.string s, .int .i64 a, .int .i64 k, .int .i64 n] w fun e w' => e = .returned (.tuple #[.string ⟨(putL s a k n).toArray⟩, .bool true]) ∧ Below w.heap.size w w' := by
  have h2 : k ≤ 8 := by omega
  have hcv := run_bytes_of_string (P := Tryz.prog) ((w.alloc (.cells #[.int .i64 a] 3)).alloc (.cells #[.int .i64 n] 3)) 9 43 5 s Tryz.underlying9 Tryz.underlying43 Tryz.underlying5
  generalize grownCap ((w.alloc (.cells #[.int .i64 a] 3)).alloc (.cells #[.int .i64 n] 3)) s.size 0 5 = cap at hcv
  generalize hrow : bytesRow s cap = row at hcv
  have HR := Lib.hid hrow
  clear hrow
  clear hk
  go_enter Tryz.func27, Tryz.ntmps27
  go_wp2_with (first | (go_at_call 50; refine (field_any _ _ _ _ (by unfold maxLen; omega)).mono ?_; rintro e w' ⟨rfl, rfl⟩; simp only [hf]) | (go_at_call 51; refine (fits_any _ _ _ _ (by omega) (by omega)).mono ?_; rintro e w' ⟨rfl, rfl⟩))
  go_loopw [36] (fun i wr => ∃ j : Nat, j ≤ k ∧ i = .int .i64 j ∧ Cells wr (w.heap.size + 1 + 1) s a j n ∧ wr.cell? ⟨w.heap.size, 0, none⟩ = some (.int .i64 a) ∧ wr.cell? ⟨w.heap.size + 1, 0, none⟩ = some (.int .i64 n) ∧ wr.cell? ⟨w.heap.size + 1 + 1 + 1, 0, none⟩ = some (.slice (some ⟨w.heap.size + 1 + 1, 0, none⟩) s.size cap) ∧ Below w.heap.size w wr) (fun i _ => k - (intOf i).toNat)
  case atStart => exact ⟨0, Nat.zero_le _, rfl, start_cells w _ _ _ s a cap n row HR.out, by simp [go_sem], by simp [go_sem], by simp [go_sem], by go_grown⟩
  case round =>
    obtain ⟨j, hj, rfl, HC, ca, cn, co, hb⟩ := hrel
    by_cases hlt : j < k
    · have hcj := HC (a + j) (by omega)
      go_wp2_with (go_at_call 52; refine (putl_any j a s.size cap (w.heap.size + 1 + 1) n _ _ _ _ _ cn co ca hcj.1 hcj.2 (by omega) (by omega) (by omega)).mono ?_; rintro e w' ⟨rfl, rfl⟩)
      go_roundw
      case rel => exact ⟨j + 1, by omega, by go_num, cells_step HC (by omega), by simp [go_sem, ca], by simp [go_sem, cn], by simp [go_sem, co], by go_grown⟩
      case measure => simp [intOf]; omega
    · obtain rfl : j = k := by omega
      have hbk := back wr (w.heap.size + 1 + 1) cap s a j n HC
      go_wp2
      go_ret2
      exact ⟨rfl, hb⟩

theorem ret_snb : Ending.returned (.tuple #[.string ⟨#[]⟩, .bool false]) = .returned (.tuple #[.string ByteArray.empty, .bool false]) := rfl

set_option maxHeartbeats 400000 in
theorem put_no (s : ByteArray) (a k n : Int) (w : World) (hs : s.size ≤ 1000) (hn1 : -9223372036854775808 ≤ n) (hn2 : n ≤ 9223372036854775807) (hF : putOk s a k n = false) :
    Calls Tryz.prog 27 #[.string s, .int .i64 a, .int .i64 k, .int .i64 n] w fun e w' => e = .returned (.tuple #[.string ByteArray.empty, .bool false]) ∧ Below w.heap.size w w' := by
  by_cases hf : fieldB s.size a k = false
  · clear hF
    go_enter Tryz.func27, Tryz.ntmps27
    go_wp2_with (go_at_call 50; refine (field_any _ _ _ _ (by unfold maxLen; omega)).mono ?_; rintro e w' ⟨rfl, rfl⟩; simp only [hf])
    go_ret2
    exact ⟨rfl, by go_grown⟩
  · have hf' : fieldB s.size a k = true := by simpa using hf
    have hF0 : fitsB n (8 * k) false = false := by simp [putOk, hf'] at hF; exact hF.1
    have hF1 : fitsB n (8 * k) true = false := by simp [putOk, hf'] at hF; exact hF.2
    have hk := (fieldB_iff.1 hf').1
    have hk1 : 1 ≤ k := by omega
    have hk2 : k ≤ 8 := by omega
    clear hF hf hk
    go_enter Tryz.func27, Tryz.ntmps27
    go_wp2_with (first | (go_at_call 50; refine (field_any _ _ _ _ (by unfold maxLen; omega)).mono ?_; rintro e w' ⟨rfl, rfl⟩; simp only [hf']) | (go_at_call 51; refine (fits_any _ _ _ _ (by omega) (by omega)).mono ?_; rintro e w' ⟨rfl, rfl⟩))
    go_ret2
    exact ⟨rfl, by go_grown⟩

def putS (s : ByteArray) (a k n : Int) : ByteArray := if putOk s a k n = true then ⟨(putL s a.toNat k.toNat n).toArray⟩ else ByteArray.empty

theorem put_any (s : ByteArray) (a k n : Int) (w : World) (hs : s.size ≤ 1000) (hn1 : -9223372036854775808 ≤ n) (hn2 : n ≤ 9223372036854775807) :
    Calls Tryz.prog 27 #[.string s, .int .i64 a, .int .i64 k, .int .i64 n] w fun e w' => e = .returned (.tuple #[.string (putS s a k n), .bool (putOk s a k n)]) ∧ Below w.heap.size w w' := by
  by_cases h : putOk s a k n = true
  · rw [putS, if_pos h, h]
    have hf : fieldB s.size a k = true := by simp [putOk] at h; exact h.1
    obtain ⟨h1, h2, h3⟩ := fieldB_iff.1 hf
    obtain ⟨a, rfl⟩ := Int.eq_ofNat_of_zero_le h2
    obtain ⟨k, rfl⟩ := Int.eq_ofNat_of_zero_le (show 0 ≤ k by omega)
    by_cases h0 : fitsB n (8 * k) false = true
    · exact put_yes s a k n w hs (by omega) (by omega) hf hn1 hn2 h0
    · have h0' : fitsB n (8 * k) false = false := by simpa using h0
      have h1' : fitsB n (8 * k) true = true := by simp [putOk, hf, h0'] at h; exact h
      exact put_yes' s a k n w hs (by omega) (by omega) hf hn1 hn2 h0' h1'
  · have h' : putOk s a k n = false := by simpa using h
    rw [putS, if_neg h, h']
    exact put_no s a k n w hs hn1 hn2 h'

end Go.Proofs.YtlohhlbbkliehaaGreatDoor.W
