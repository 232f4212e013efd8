/-
  DiskTells: the reference's Put, fits.
-/
import Derived.Test.YtcleocgaooblfaaDo
namespace Go.Proofs.Ytcleocgaooblfaa.W
open Go.RowKit
set_option linter.unusedVariables false

/-- the row of Put while zeros are appended -/
def zerosTo (s : List UInt8) (n : Nat) : List UInt8 := s ++ List.replicate (n - s.length) 0
/-- .. and while bytes are written -/
def putTo (s : List UInt8) (k : Nat) (t : List UInt8) (j : Nat) : List UInt8 :=
  (List.range (max s.length (k + t.length))).map fun i => if k ≤ i ∧ i < k + j then t.getD (i - k) 0 else s.getD i 0

theorem putTo_len (s : List UInt8) (k : Nat) (t : List UInt8) (j : Nat) : (putTo s k t j).length = max s.length (k + t.length) := by simp [putTo]
theorem putTo_all (s : List UInt8) (k : Nat) (t : List UInt8) : putTo s k t t.length = putL s k t := rfl
theorem putTo_get (s : List UInt8) (k : Nat) (t : List UInt8) (j i : Nat) : (putTo s k t j)[i]? = if i < max s.length (k + t.length) then some (if k ≤ i ∧ i < k + j then t.getD (i - k) 0 else s.getD i 0) else none := by
  unfold putTo
  rw [List.getElem?_map]
  split
  · rename_i h; rw [List.getElem?_range h]; rfl
  · rename_i h; rw [List.getElem?_eq_none (by rw [List.length_range]; omega)]; rfl
theorem putTo_zero (s : List UInt8) (k : Nat) (t : List UInt8) : zerosTo s (max s.length (k + t.length)) = putTo s k t 0 := by
  apply List.ext_getElem?
  intro i
  rw [putTo_get, if_neg (show ¬ (k ≤ i ∧ i < k + 0) by omega)]
  unfold zerosTo
  by_cases h : i < s.length
  · rw [List.getElem?_append_left h, if_pos (by omega), List.getD_eq_getElem?_getD, List.getElem?_eq_getElem h]; rfl
  · rw [List.getElem?_append_right (by omega), List.getElem?_replicate]
    split
    · rename_i h2; rw [if_pos (by omega), List.getD_eq_getElem?_getD, List.getElem?_eq_none (by omega)]; rfl
    · rename_i h2; rw [if_neg (by omega)]
theorem putTo_step (s : List UInt8) (k : Nat) (t : List UInt8) (j : Nat) (hj : j < t.length) : (putTo s k t j).set (k + j) t[j] = putTo s k t (j + 1) := by
  apply List.ext_getElem?
  intro i
  rw [List.getElem?_set, putTo_get, putTo_get, putTo_len]
  by_cases e : k + j = i
  · subst e
    have h1 : k + j < max s.length (k + t.length) := by omega
    have h2 : t.getD (k + j - k) 0 = t[j] := by rw [show k + j - k = j by omega, List.getD_eq_getElem?_getD, List.getElem?_eq_getElem hj]; rfl
    rw [h2, if_pos h1, if_pos rfl, if_pos h1, if_pos (show k ≤ k + j ∧ k + j < k + (j + 1) by omega)]
  · rw [if_neg e]
    by_cases h : k ≤ i ∧ i < k + j
    · have h1 : k ≤ i ∧ i < k + (j + 1) := by omega
      simp only [h, h1, if_true, and_self]
    · have h1 : ¬ (k ≤ i ∧ i < k + (j + 1)) := by omega
      simp only [h, h1, if_false]

theorem Own.set {w : World} {B : Nat} {e : TypeId} {g n c : Nat} {xs : List Value} (h : Own w B e (.slice (some ⟨g, 0, none⟩) n c) xs) (j : Nat) (hj : j < xs.length) (u : Value) : Own (w.setCell ⟨g, j, none⟩ u) B e (.slice (some ⟨g, 0, none⟩) n c) (xs.set j u) := by
  rcases h.is with ⟨e', rfl⟩ | ⟨g', cap, e', hB, hn, hm, ⟨cur, fz, hg, hc⟩, hcell, hfr⟩
  · simp at hj
  · injection e' with e1 e2 e3
    injection e1 with e1; injection e1 with e1 _ _
    subst e1 e2 e3
    refine ⟨.inr ⟨g, c, by rw [List.length_set], hB, by rw [List.length_set]; exact hn, hm, ⟨cur.setIfInBounds j u, fz, by simp [World.setCell, Array.getElem?_modify, hg], by simpa using hc⟩, fun i y hi => ?_, fun i hi => by simpa using hfr i hi⟩⟩
    by_cases hij : j = i
    · subst hij
      rw [List.getElem?_set_self hj] at hi
      have hy : u = y := Option.some.inj hi
      rw [← hy]
      exact World.cell?_setCell_same _ _ _ (hcell j xs[j] (List.getElem?_eq_getElem hj))
    · rw [List.getElem?_set_ne hij] at hi
      rw [World.cell?_setCell_other _ _ _ _ (fun e' => hij (Addr.mk.inj e').2.1)]
      exact hcell i y hi
theorem Own.at {w : World} {B : Nat} {e : TypeId} {g n c : Nat} {xs : List Value} (h : Own w B e (.slice (some ⟨g, 0, none⟩) n c) xs) {j : Nat} {u : Value} (hj : xs[j]? = some u) : w.cell? ⟨g, j, none⟩ = some u ∧ w.frozen? ⟨g, j, none⟩ = false := by
  rcases h.is with ⟨e', rfl⟩ | ⟨g', cap, e', _, hn, _, _, hc, hf⟩
  · simp at hj
  · injection e' with e1 _ _; injection e1 with e1; injection e1 with e1 _ _
    subst e1
    exact ⟨hc j u hj, hf j (by have := (List.getElem?_eq_some_iff.1 hj).1; omega)⟩
theorem byteCells_set (l : List UInt8) (j : Nat) (b : UInt8) : Lib.byteCells (l.set j b) = (Lib.byteCells l).set j (.int .u8 (b.toNat : Int)) := by
  simp [Lib.byteCells, List.map_set]

def vlen : Value → Nat
  | .slice _ n _ => n
  | _ => 0
theorem zeros_same (s : ByteArray) : zerosTo s.data.toList s.size = s.data.toList := by
  unfold zerosTo; rw [show s.size - s.data.toList.length = 0 from Nat.sub_self _]; simp
theorem own_slice {w : World} {B : Nat} {e : TypeId} {v : Value} {xs : List Value} (h : Own w B e v xs) {n : Nat} (hn : xs.length = n) : ∃ p c, v = .slice p n c := by
  rcases h.is with ⟨rfl, rfl⟩ | ⟨g, cap, rfl, _⟩
  · exact ⟨none, 0, by rw [← hn]; rfl⟩
  · exact ⟨_, cap, by rw [hn]⟩
/-- a row of the call's own grows: nothing that lay there before changes -/
theorem keeps_own {w wr w' : World} {e : TypeId} {v : Value} {xs : List Value} (h : Keeps (fun _ => False) w wr) (k : Keeps (fun g => v.ownBlock = some g) wr w') (ho : Own wr w.heap.size e v xs) : Keeps (fun _ => False) w w' :=
  ⟨k.os.trans h.os, k.tape.trans h.tape, k.output.trans h.output, Nat.le_trans h.size k.size, fun j hj hn => by
    rw [k.block j (Nat.lt_of_lt_of_le hj h.size) (fun e => by have := (ho.lt e).1; omega)]
    exact h.block j hj hn⟩
theorem bc_snoc (l : List UInt8) (b : UInt8) : Lib.byteCells l ++ [.int .u8 (b.toNat : Int)] = Lib.byteCells (l ++ [b]) := by simp [Lib.byteCells]

theorem rfits_any (k : Int) (s : ByteArray) (w : World) (hs : s.size ≤ 9000000000000000000) : Calls Try.prog 60 #[.int .i64 k, .string s] w fun e w' => e = .returned (.bool (decide (0 ≤ k) && (decide (k ≤ 16777216) && decide (k + (s.size : Int) ≤ 16777216)))) ∧ w = w' := by
  by_cases a : 0 ≤ k
  · by_cases b : k ≤ 16777216
    · have r : IntKind.i64.wrap (k + (s.size : Int)) = k + (s.size : Int) := IntWalk.i64_in _ (by omega)
      have e : Hd ((decide (0 ≤ k) && (decide (k ≤ 16777216) && decide (k + (s.size : Int) ≤ 16777216))) = decide (k + (s.size : Int) ≤ 16777216)) := ⟨by simp [a, b]⟩
      rw [e.out]
      have a1 : decide (0 ≤ k) = true := by simp [a]
      have b1 : decide (k ≤ 16777216) = true := by simp [b]
      clear a b
      go_enter Try.func60, Try.ntmps60
      go_wp2
      go_ret
      exact ⟨rfl, rfl⟩
    · have e : Hd ((decide (0 ≤ k) && (decide (k ≤ 16777216) && decide (k + (s.size : Int) ≤ 16777216))) = false) := ⟨by simp [b]⟩
      rw [e.out]
      have a1 : decide (0 ≤ k) = true := by simp [a]
      have b1 : decide (k ≤ 16777216) = false := by simp; omega
      clear a b
      go_enter Try.func60, Try.ntmps60
      go_wp2
      go_ret
      exact ⟨rfl, rfl⟩
  · have e : Hd ((decide (0 ≤ k) && (decide (k ≤ 16777216) && decide (k + (s.size : Int) ≤ 16777216))) = false) := ⟨by simp [a]⟩
    rw [e.out]
    have a1 : decide (0 ≤ k) = false := by simp; omega
    clear a
    go_enter Try.func60, Try.ntmps60
    go_wp2
    go_ret
    exact ⟨rfl, rfl⟩

set_option maxHeartbeats 4000000 in
set_option maxRecDepth 100000 in
theorem rput_any (s : ByteArray) (k : Nat) (t : ByteArray) (w : World) (hs : s.size ≤ 16777216) (hk : k + t.size ≤ 16777216) :
    Calls Try.prog 64 #[.string s, .int .i64 k, .string t] w fun e w' => e = .returned (strV (putL s.data.toList k t.data.toList)) ∧ Keeps (fun _ => False) w w' := by
  obtain ⟨i0, hi, hz0, hz1, hz2⟩ := info_parts infoU8
  have HI : Hd (_ ∧ _ ∧ _ ∧ _) := ⟨⟨hi, hz0, hz1, hz2⟩⟩
  clear hi hz0 hz1 hz2
  have hcv := run_bytes_of_string (P := Try.prog) w 9 36 5 s Try.underlying9 Try.underlying36 Try.underlying5
  have hcap1 := grownCap_ge w s.size 0 5
  have hcap2 := grownCap_le_maxLen w s.size 0 5 (by unfold maxLen; omega)
  generalize grownCap w s.size 0 5 = cap at hcv hcap1 hcap2
  have HO0 := Hd.mk (Own.of_string w s cap hcap1 hcap2)
  have HK0 : Hd (Keeps (fun _ => False) w (w.drew.alloc (.cells (bytesRow s cap) 5 ((bytesRow s cap).size, (bytesRow s cap).size + 1)))) := ⟨((Keeps.refl _ w).drew).alloc _⟩
  obtain ⟨N, hN⟩ : ∃ N, k + t.size = N := ⟨_, rfl⟩
  have rN : IntKind.i64.wrap ((k : Int) + (t.size : Int)) = (N : Int) := by rw [IntWalk.i64_in _ (by omega)]; omega
  have HN := Hd.mk hN
  have hN2 : N ≤ 16777216 := by omega
  have HS : Hd (s.data.toList.length = s.size ∧ t.data.toList.length = t.size) := ⟨rfl, rfl⟩
  have HB := Hd.mk (And.intro hs hk)
  clear hs hk hcap1 hcap2 hN
  go_enter Try.func64, Try.ntmps64
  go_wp2
  go_loopw [7] (fun v wr => ∃ n : Nat, n ≤ max s.size N ∧ s.size ≤ n ∧ (∃ p c, v = .slice p n c) ∧ Hd (Own wr w.heap.size 5 v (Lib.byteCells (zerosTo s.data.toList n))) ∧ Hd (Keeps (fun _ => False) w wr)) (fun v _ => N - vlen v)
  case atStart => exact ⟨s.size, Nat.le_max_left _ _, Nat.le_refl _, ⟨_, _, rfl⟩, ⟨by rw [zeros_same]; exact HO0.out⟩, HK0⟩
  case round =>
    obtain ⟨n, hn1, hn2, ⟨p, c, rfl⟩, HO, HK⟩ := hrel
    clear HO0 HK0 hcv
    have HZl : Hd ((Lib.byteCells (zerosTo s.data.toList n)).length = n) := ⟨by rw [byteCells_len]; unfold zerosTo; rw [List.length_append, List.length_replicate, HS.out.1]; omega⟩
    by_cases hlt : n < N
    · have hd1 : decide ((n : Int) < (N : Int)) = true := by simp; omega
      have hB : w.heap.size ≤ wr.heap.size := HK.out.size
      have hl1 : (Lib.byteCells (zerosTo s.data.toList n)).length + 1 ≤ maxLen := by rw [HZl.out]; unfold maxLen; omega
      have hl2 : ((Lib.byteCells (zerosTo s.data.toList n)).length + 1) * 1 ≤ 140737488355328 := by rw [HZl.out]; omega
      have HZs : Hd (zerosTo s.data.toList (n + 1) = zerosTo s.data.toList n ++ [0]) := ⟨by
        unfold zerosTo
        rw [List.append_assoc, show n + 1 - s.data.toList.length = (n - s.data.toList.length) + 1 by rw [HS.out.1]; omega, List.replicate_succ']⟩
      have hn3 : n + 1 ≤ max s.size N := by omega
      clear hn1
      go_wp2_with (at_builtin; refine wp_app1 rfl (Operand.tmp 18) (Operand.tmp 19) 36 rfl 5 Try.underlying36 HI.out.1 HI.out.2.1 HI.out.2.2.1 HI.out.2.2.2 rfl _ _ _ wr rfl HO.out rfl rfl hl1 hl2 hB ?_)
      intro v' w' hO' hK' hv'
      have HO' : Hd (Own w' w.heap.size 5 v' (Lib.byteCells (zerosTo s.data.toList (n + 1)))) := ⟨by rw [HZs.out, ← bc_snoc]; exact hO'⟩
      have hvs := own_slice HO'.out (by rw [byteCells_len, HZs.out, List.length_append, ← byteCells_len, HZl.out])
      obtain ⟨p', c', hvv⟩ := hvs
      subst hvv
      have HK' : Hd (Keeps (fun _ => False) w w') := ⟨keeps_own HK.out hK' HO.out⟩
      clear hO' hK' hv'
      go_wp2
      go_roundw
      case rel => exact ⟨n + 1, hn3, by omega, ⟨_, _, rfl⟩, HO', HK'⟩
      case measure => simp [vlen]; omega
    · have hd1 : decide ((n : Int) < (N : Int)) = false := by simp; omega
      have hnm : n = max s.data.toList.length (k + t.data.toList.length) := by rw [HS.out.1, HS.out.2, HN.out]; omega
      have hPT : Hd (zerosTo s.data.toList n = putTo s.data.toList k t.data.toList 0) := ⟨by rw [hnm]; exact putTo_zero _ _ _⟩
      have HNM := Hd.mk hnm
      rw [hPT.out] at HO
      have hkn : k + t.size ≤ n := by rw [hnm, HS.out.2]; omega
      have HKN := Hd.mk hkn
      have hn4 : n ≤ 16777216 := by have := HB.out.1; omega
      clear hn1 hn2 hnm hkn
      go_wp2
      go_loopw [8] (fun i wr => ∃ j : Nat, j ≤ t.size ∧ i = .int .i64 j ∧ Hd (Own wr w.heap.size 5 (.slice p n c) (Lib.byteCells (putTo s.data.toList k t.data.toList j))) ∧ Hd (Keeps (fun _ => False) w wr)) (fun i _ => t.size - (intOf i).toNat)
      case atStart => exact ⟨0, Nat.zero_le _, rfl, HO, HK⟩
      case round =>
        clear HO HK HZl
        obtain ⟨j, hj, rfl, HO, HK⟩ := hrel
        have HPl : Hd ((Lib.byteCells (putTo s.data.toList k t.data.toList j)).length = n) := ⟨by rw [byteCells_len, putTo_len]; exact HNM.out.symm⟩
        by_cases hlt : j < t.size
        · have hkj : k + j < n := by have := HKN.out; omega
          obtain ⟨g, cap, hsl⟩ := HO.out.slice (by rw [HPl.out]; omega)
          obtain ⟨rfl, hcap⟩ : p = some ⟨g, 0, none⟩ ∧ True := by injection hsl with e1 _ _; exact ⟨e1, trivial⟩
          have hput : (Lib.byteCells (putTo s.data.toList k t.data.toList j))[k + j]? = some (.int .u8 (((putTo s.data.toList k t.data.toList j).getD (k + j) 0).toNat : Int)) := byteCells_at (by rw [← byteCells_len, HPl.out]; exact hkj)
          obtain ⟨hc1, hc2⟩ := HO.out.at hput
          have hst := putTo_step s.data.toList k t.data.toList j hlt
          have hO' : Hd (Own (wr.setCell ⟨g, k + j, none⟩ (.int .u8 (t[j].toNat : Int))) w.heap.size 5 (.slice (some ⟨g, 0, none⟩) n c) (Lib.byteCells (putTo s.data.toList k t.data.toList (j + 1)))) := ⟨by
            rw [← hst, byteCells_set]
            exact HO.out.set (k + j) (by rw [HPl.out]; exact hkj) _⟩
          have hK' : Hd (Keeps (fun _ => False) w (wr.setCell ⟨g, k + j, none⟩ (.int .u8 (t[j].toNat : Int)))) := ⟨HK.out.setCell (p := ⟨g, k + j, none⟩) (.inl (HO.out.lt rfl).1) _⟩
          have r4 : IntKind.i64.wrap ((k : Int) + (j : Int)) = (k : Int) + (j : Int) := IntWalk.i64_in _ (by omega)
          have i1 : (0 : Int) ≤ (k : Int) + (j : Int) := by omega
          have i2 : (k : Int) + (j : Int) < (n : Int) := by omega
          have n1 : ((k : Int) + (j : Int)).toNat = k + j := by omega
          clear hst hput hsl hj HO HK
          go_wp2
          go_roundw
          case rel => exact ⟨j + 1, hlt, by go_num, hO', hK'⟩
          case measure => simp [intOf]; omega
        · obtain rfl : j = t.size := by omega
          have hbk := HO.out.back
          have hall : putTo s.data.toList k t.data.toList t.size = putL s.data.toList k t.data.toList := putTo_all _ _ _
          rw [hall] at hbk
          obtain ⟨r, hr⟩ : ∃ r : ByteArray, (⟨(putL s.data.toList k t.data.toList).toArray⟩ : ByteArray) = r := ⟨_, rfl⟩
          have HRr : Hd (strV (putL s.data.toList k t.data.toList) = .string r) := ⟨by rw [strV_def, hr]⟩
          rw [hr] at hbk
          clear hr hall hj HO
          go_wp2
          go_ret
          exact ⟨by rw [HRr.out]; rfl, HK.out⟩

end Go.Proofs.Ytcleocgaooblfaa.W
