/-
  The walks of the disk's put and Read.
-/
import Derived.Test.YtmcdfhihfcfbaaaMay
import Derived.Lib.BufferWrite
import Derived.Laws.MakeOwn
import Derived.Laws.OwnMore
import Derived.Deep.RegionHeld
namespace Go.Proofs.Ytmcdfhihfcfbaaa.W
open Go.RowKit
set_option linter.unusedVariables false

theorem byteCells_at {l : List UInt8} {j : Nat} (h : j < l.length) : (Lib.byteCells l)[j]? = some (.int .u8 ((l.getD j 0).toNat : Int)) := by
  simp [Lib.byteCells, List.getElem?_eq_getElem h, List.getD_eq_getElem?_getD]
theorem byteCells_len (l : List UInt8) : (Lib.byteCells l).length = l.length := by simp [Lib.byteCells]

theorem keeps_setRow {W : World} {g : Nat} (cs : Array Value) : Keeps (· = g) W (W.setRow g cs) :=
  ⟨rfl, rfl, rfl, by simp [World.setRow], fun k hk hn => by
    have : g ≠ k := fun e => hn e.symm
    simp [World.setRow, Array.getElem?_modify, this]⟩

/-- a string copied into a row of bytes -/
theorem copy_at (W : World) (g o : Nat) (r : ByteArray) (l : List UInt8) (n c : Nat) (hb : Blk W g 5 (Lib.byteCells l)) (hr : o + r.size ≤ l.length) (hn : o + n = l.length) :
    ∃ W2, (Builtin.copy_ #[74, 9] 3 #[.slice (some ⟨g, o, none⟩) n c, .string r]).run Try.prog W = .ok (.int .i64 r.size) W2 ∧ Blk W2 g 5 (Lib.byteCells (l.take o ++ r.data.toList ++ l.drop (o + r.size))) ∧ Keeps (· = g) W W2 := by
  have h := Lib.run_copy_row_string (P := Try.prog) W 74 9 3 5 g o n c r _ 5 Try.underlying74 (by kernel_rfl) hb.is (by omega) (by simp [Lib.byteCells]; omega)
  refine ⟨_, h, ⟨?_⟩, keeps_setRow _⟩
  simp only [World.setRow, Array.getElem?_modify, hb.is]
  simp [Lib.byteCells, List.map_take, List.map_drop]

theorem back_row {W : World} {g cap n : Nat} {l : List UInt8} (hb : Blk W g 5 (Lib.byteCells l)) (hl : l.length = n) :
    (convert 74 9 (.slice (some ⟨g, 0, none⟩) n cap)).run Try.prog W = .ok (.string ⟨l.toArray⟩) W := by
  have := run_convert_bytes_back (P := Try.prog) W 74 9 5 ⟨g, 0, none⟩ cap l Try.underlying74 Try.underlying5 Try.underlying9 (fun j hj => by
    have e : (⟨g, 0, none⟩ : Addr).add j = ⟨g, j, none⟩ := by unfold Addr.add; split <;> simp_all
    rw [e, hb.cell, byteCells_at hj]
    simp [List.getD_eq_getElem?_getD, List.getElem?_eq_getElem hj])
  rwa [hl] at this

theorem made_zeros (n : Nat) : madeCells (#[.int .u8 0] : Array Value) n = (Lib.byteCells (List.replicate n 0)).toArray := by
  apply Array.ext'
  rw [toList_madeCells_one]
  simp [Lib.byteCells]

theorem make_bytes (w : World) (n : Nat) (h : n ≤ 100000000) : (Instr.makeSlice 74 (.int .i64 n) (.int .i64 n)).run Try.prog w = .ok (.slice (some ⟨w.heap.size, 0, none⟩) n n) (w.alloc (.cells (Lib.byteCells (List.replicate n 0)).toArray 5)) := by
  obtain ⟨i0, hi, hz0, hz1, hz2⟩ := info_parts infoU8
  have := run_make (P := Try.prog) w 74 5 i0 (.int .u8 0) Try.underlying74 hi hz0 .i64 .i64 (n : Int) (n : Int) (by omega) (by omega) (by rw [hz2]; omega) (by omega)
  rw [hz1] at this
  simp only [Int.toNat_natCast, Nat.mul_one] at this
  rw [this]
  have e : (Value.int .u8 0).cells = #[.int .u8 0] := rfl
  rw [e, made_zeros]

theorem putL_eq (s : List UInt8) (k : Nat) (t : List UInt8) (n : Nat) (hn : n = max s.length (k + t.length)) :
    (s ++ List.replicate (n - s.length) 0).take k ++ t ++ (s ++ List.replicate (n - s.length) 0).drop (k + t.length) = putL s k t := by
  obtain ⟨L, hL⟩ : ∃ L, s ++ List.replicate (n - s.length) 0 = L := ⟨_, rfl⟩
  have hl : L.length = n := by rw [← hL]; simp; omega
  have hg : ∀ j, L.getD j 0 = s.getD j 0 := fun j => by
    rw [← hL]
    simp only [List.getD_eq_getElem?_getD]
    by_cases h : j < s.length
    · rw [List.getElem?_append_left h]
    · rw [List.getElem?_append_right (by omega), List.getElem?_replicate, List.getElem?_eq_none (l := s) (by omega)]
      split <;> rfl
  rw [hL]
  have hlen : (L.take k ++ t ++ L.drop (k + t.length)).length = n := by simp [hl]; omega
  apply List.ext_getElem
  · rw [hlen, putL_len, ← hn]
  · intro j h1 h2
    rw [hlen] at h1
    have hr : (putL s k t)[j] = if k ≤ j ∧ j < k + t.length then t.getD (j - k) 0 else s.getD j 0 := by simp [putL]
    have ht : (L.take k).length = k := by simp [hl]; omega
    rw [hr]
    by_cases hk : j < k
    · rw [if_neg (by omega), ← hg j, List.getElem_append_left (by simp [hl]; omega), List.getElem_append_left (by omega), List.getElem_take]
      simp [List.getD_eq_getElem?_getD, List.getElem?_eq_getElem (show j < L.length by omega)]
    · by_cases hk2 : j < k + t.length
      · rw [if_pos ⟨by omega, hk2⟩, List.getElem_append_left (by simp [hl]; omega), List.getElem_append_right (by omega)]
        simp [ht, List.getD_eq_getElem?_getD, List.getElem?_eq_getElem (show j - k < t.length by omega)]
      · rw [if_neg (by omega), ← hg j, List.getElem_append_right (by simp [hl]; omega)]
        have e : k + t.length + (j - (L.take k ++ t).length) = j := by rw [List.length_append, ht]; omega
        simp only [List.getElem_drop, e]
        simp [List.getD_eq_getElem?_getD, List.getElem?_eq_getElem (show j < L.length by omega)]

set_option maxHeartbeats 1000000 in
theorem put_any (s : ByteArray) (k : Nat) (t : ByteArray) (hs : s.size ≤ 20000000) (hk : k + t.size ≤ 20000000) (h0 : 0 < t.size) (w : World) :
    Calls Try.prog 64 #[.string s, .int .i64 k, .string t] w fun e w' => e = .returned (strV (putL s.data.toList k t.data.toList)) ∧ Keeps (fun _ => False) w w' := by
  obtain ⟨n, hn⟩ : ∃ n, max s.size (k + t.size) = n := ⟨_, rfl⟩
  have hn1 : s.size ≤ n := by omega
  have hn2 : k + t.size ≤ n := by omega
  have hnl : n ≤ 20000000 := by omega
  have hmk := make_bytes w n (by omega)
  have hb0 := Blk.new w 5 (Lib.byteCells (List.replicate n 0))
  obtain ⟨W1, c1, b1, k1⟩ := copy_at (w.alloc (.cells (Lib.byteCells (List.replicate n 0)).toArray 5)) w.heap.size 0 s (List.replicate n 0) n n hb0 (by simp; omega) (by simp)
  have e1 : (List.replicate n (0 : UInt8)).take 0 ++ s.data.toList ++ (List.replicate n 0).drop (0 + s.size) = s.data.toList ++ List.replicate (n - s.data.toList.length) 0 := by simp
  rw [e1] at b1
  have hl1 : (s.data.toList ++ List.replicate (n - s.data.toList.length) (0 : UInt8)).length = n := by simp; omega
  obtain ⟨W2, c2, b2, k2⟩ := copy_at W1 w.heap.size k t _ (n - k) (n - k) b1 (by rw [hl1]; omega) (by rw [hl1]; omega)
  rw [show t.size = t.data.toList.length from rfl, putL_eq _ _ _ n (by rw [← hn]; rfl)] at b2
  have hcv := back_row (cap := n) (n := n) b2 (by rw [putL_len, ← hn]; rfl)
  have HK : Hd (Keeps (fun _ => False) w W2) := ⟨(k1.trans k2).fresh rfl⟩
  have hkn : (k : Int) ≤ (n : Int) := by omega
  have hkn2 : ¬ n = k := by omega
  clear b1 b2 k1 k2 hb0 e1 hl1
  rcases Nat.lt_or_ge s.size (k + t.size) with h | h
  · have e1 : (k : Int) + (t.size : Int) = (n : Int) := by omega
    have e2 : (s.size : Int) < (n : Int) := by omega
    clear hn hs hk h hn1 hn2 h0
    go_enter Try.func64, Try.ntmps64
    go_wp2
    go_ret
    exact ⟨rfl, HK.out⟩
  · have e0 : n = s.size := by omega
    subst e0
    obtain ⟨m, hm⟩ : ∃ m, k + t.size = m := ⟨_, rfl⟩
    have e1 : (k : Int) + (t.size : Int) = (m : Int) := by omega
    have e2 : (m : Int) ≤ (s.size : Int) := by omega
    clear hn hs hk h hn1 hn2 hm h0
    go_enter Try.func64, Try.ntmps64
    go_wp2
    go_ret
    exact ⟨rfl, HK.out⟩

theorem read_any (w : World) (D : Nat) (σ : St) (O : Option Nat) (f : Int) (h : Rep w D σ O) :
    Calls Try.prog 32 #[.pointer (some ⟨D, 0, none⟩), .int .i64 f] w fun e w' => e = .returned (.tuple #[strV (readL σ f), .int .i64 (mayS σ f : Nat)]) ∧ Keeps (fun _ => False) w w' := by
  have HA := Hd.mk (may_any (w.alloc (.cells #[.int .i64 f] 3)) D σ O _ [f] (by simp) (IRow.one w f) (h.alloc _))
  rw [mayL_one] at HA
  obtain ⟨qv, kv, hb, hQ, hK⟩ := h.is
  have hC := Hd.mk (Cells.of hb h.ok)
  have KA : Hd (Keeps (fun _ => False) w (w.alloc (.cells #[.int .i64 f] 3))) := ⟨(Keeps.refl (fun _ => False) w).alloc _⟩
  clear h hQ hK hb
  by_cases hm : mayS σ f = 0
  · rw [hm] at HA
    have hz := may_zero hm
    obtain ⟨k, rfl, hk⟩ : ∃ k : Nat, f = (k : Int) ∧ k < 8 := ⟨f.toNat, by omega, by omega⟩
    have e : Hd (readL σ (k : Int) = σ.files.getD k []) := ⟨by unfold readL; rw [hm]; rfl⟩
    have c := hC.out.file k hk
    have hi : (k : Int) < 8 := by omega
    rw [← e.out] at c
    obtain ⟨l, hl⟩ : ∃ l, readL σ (k : Int) = l := ⟨_, rfl⟩
    rw [hl] at c
    rw [hl, hm]
    have c2 : (w.alloc (.cells #[.int .i64 (k : Int)] 3)).cell? ⟨D, 8 + k, none⟩ = some (strV l) := by
      rw [World.cell?_alloc_some _ _ _ (by rw [c]; rfl)]; exact c
    clear hC hz e hl hm c
    go_enter Try.func32, Try.ntmps32
    go_wp2_with (go_at_call 66; refine HA.out.mono ?_; rintro e w1 ⟨rfl, rfl⟩)
    go_ret2
    exact ⟨rfl, KA.out⟩
  · have e : Hd (readL σ f = []) := ⟨by unfold readL; rw [if_neg hm]⟩
    obtain ⟨m, hmm⟩ : ∃ m, mayS σ f = m := ⟨_, rfl⟩
    rw [hmm] at hm HA
    rw [hmm, e.out]
    have hne : ((m : Int) == 0) = false := by simp; omega
    clear hmm hm
    go_enter Try.func32, Try.ntmps32
    go_wp2_with (go_at_call 66; refine HA.out.mono ?_; rintro e w1 ⟨rfl, rfl⟩)
    go_ret2
    exact ⟨rfl, KA.out⟩

end Go.Proofs.Ytmcdfhihfcfbaaa.W
