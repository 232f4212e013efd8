/-
  The walk of the program's Sum: the digest in plain words.
-/
import Derived.Test.YtimbhnnidohmaaaDoorAbs
import Derived.Test.YtimbhnnidohmaaaDoorBld
import Derived.Test.YtimbhnnidohmaaaDoorShelf
import Derived.Lib.BufferWrite
namespace Go.Proofs.YtimbhnnidohmaaaDoor.W
open Go.RowKit
set_option linter.unusedVariables false

theorem tail_list (s : ByteArray) (a : Nat) : (s.extract a s.size).data.toList = s.data.toList.drop a := by
  have hl : s.data.toList.length = s.size := by simp
  rw [Lib.extract_data, List.take_of_length_le (by rw [List.length_drop]; omega)]

theorem ex1 (s : ByteArray) (n : Nat) (h : 136 * n + 136 ≤ s.size) : (s.extract (136 * n) s.size).extract 136 (s.size - 136 * n) = s.extract (136 * (n + 1)) s.size := by
  have hl : s.data.toList.length = s.size := by simp
  apply ByteArray.ext
  apply Array.ext'
  rw [Lib.extract_data, tail_list, tail_list, List.drop_drop, List.take_of_length_le (by rw [List.length_drop]; omega), Nat.mul_succ]

/-- the bytes of a row, as values -/
def zb : List UInt8 := List.replicate 136 0
theorem make_last (w : World) : (Instr.makeSlice 68 (.int .i64 136) (.int .i64 136)).run Tryd.prog w = .ok (.slice (some ⟨w.heap.size, 0, none⟩) 136 136) (w.alloc (.cells (Lib.byteCells zb).toArray 5)) := by kernel_rfl

theorem ex2 (s : ByteArray) (n : Nat) : ((s.extract (136 * n) s.size).extract 0 136).data.toList = (s.data.toList.drop (136 * n)).take 136 := by
  have hl : s.data.toList.length = s.size := by simp
  rw [Lib.extract_data, Lib.extract_data, List.drop_zero, Nat.sub_zero, List.take_of_length_le (l := s.data.toList.drop (136 * n)) (by rw [List.length_drop]; omega)]

theorem byteCells_at {l : List UInt8} {j : Nat} (h : j < l.length) : (Lib.byteCells l)[j]? = some (.int .u8 ((l.getD j 0).toNat : Int)) := by
  simp [Lib.byteCells, List.getElem?_eq_getElem h, List.getD_eq_getElem?_getD]

theorem byteCells_len (l : List UInt8) : (Lib.byteCells l).length = l.length := by simp [Lib.byteCells]

theorem byteCells_set (l : List UInt8) (j : Nat) (v : UInt8) : (Lib.byteCells l).set j (.int .u8 (v.toNat : Int)) = Lib.byteCells (l.set j v) := by
  simp [Lib.byteCells, List.map_set]

theorem keeps_setRow {W : World} {g : Nat} (cs : Array Value) : Keeps (· = g) W (W.setRow g cs) :=
  ⟨rfl, rfl, rfl, by simp [World.setRow], fun k hk hn => by
    have : g ≠ k := fun e => hn e.symm
    simp [World.setRow, Array.getElem?_modify, this]⟩

theorem copy_last (W : World) (g : Nat) (r : ByteArray) (l : List UInt8) (hb : Blk W g 5 (Lib.byteCells l)) (hr : r.size ≤ l.length) (hl : l.length = 136 := by rfl) :
    ∃ W2, (Builtin.copy_ #[68, 9] 3 #[.slice (some ⟨g, 0, none⟩) 136 136, .string r]).run Tryd.prog W = .ok (.int .i64 r.size) W2 ∧ Blk W2 g 5 (Lib.byteCells (r.data.toList ++ l.drop r.size)) ∧ Keeps (· = g) W W2 := by
  have h := Lib.run_copy_row_string (P := Tryd.prog) W 68 9 3 5 g 0 136 136 r _ 5 Tryd.underlying68 (by kernel_rfl) hb.is (by omega) (by simp [Lib.byteCells]; omega)
  refine ⟨_, h, ⟨?_⟩, keeps_setRow _⟩
  rw [setRow_heap _ _ _ _ _ _ hb.is]
  simp [Lib.byteCells]

theorem back_row {W : World} {g cap : Nat} {l : List UInt8} (hb : Blk W g 5 (Lib.byteCells l)) (hl : l.length = 136) :
    (convert 68 9 (.slice (some ⟨g, 0, none⟩) 136 cap)).run Tryd.prog W = .ok (.string ⟨l.toArray⟩) W := by
  have := run_convert_bytes_back (P := Tryd.prog) W 68 9 5 ⟨g, 0, none⟩ cap l Tryd.underlying68 Tryd.underlying5 Tryd.underlying9 (fun j hj => by
    have e : (⟨g, 0, none⟩ : Addr).add j = ⟨g, j, none⟩ := by unfold Addr.add; split <;> simp_all
    rw [e, hb.cell, byteCells_at hj]
    simp [List.getD_eq_getElem?_getD, List.getElem?_eq_getElem hj])
  rwa [hl] at this

theorem pad_eq {r : ByteArray} (hr : r.size < 136) :
    ((r.data.toList ++ zb.drop r.size).set r.size 6).set 135 (((r.data.toList ++ zb.drop r.size).set r.size 6).getD 135 0 ||| 128) = padL r.data.toList := by
  have hl : r.data.toList.length = r.size := by simp
  have hz : zb.length = 136 := rfl
  have hlen : (r.data.toList ++ zb.drop r.size).length = 136 := by rw [List.length_append, List.length_drop, hl, hz]; omega
  have hzb : ∀ j (h : j < zb.length), zb[j] = 0 := fun j h => List.getElem_replicate ..
  have get : ∀ j (h : j < 136), ((r.data.toList ++ zb.drop r.size).set r.size 6)[j]'(by rw [List.length_set, hlen]; exact h) = if j < r.data.toList.length then r.data.toList.getD j 0 else (if j = r.data.toList.length then 6 else 0) := by
    intro j h
    rw [List.getElem_set]
    by_cases c1 : r.size = j
    · rw [if_pos c1, if_neg (by omega), if_pos (by omega)]
    · rw [if_neg c1, List.getElem_append]
      by_cases c2 : j < r.data.toList.length
      · rw [dif_pos c2, if_pos c2, List.getD_eq_getElem?_getD, List.getElem?_eq_getElem c2]
        rfl
      · rw [dif_neg c2, if_neg c2, if_neg (by omega), List.getElem_drop, hzb]
  apply List.ext_getElem
  · rw [List.length_set, List.length_set, hlen, padL_length]
  · intro j h1 h2
    have hj : j < 136 := by rwa [padL_length] at h2
    rw [List.getElem_set]
    simp only [padL, List.getElem_map, List.getElem_range]
    by_cases c : 135 = j
    · subst c
      rw [if_pos rfl, List.getD_eq_getElem?_getD, List.getElem?_eq_getElem (by rw [List.length_set, hlen]; decide), Option.getD_some, get 135 (by decide)]
      by_cases c2 : 135 < r.data.toList.length
      · rw [if_pos c2, if_pos c2, if_pos rfl]
      · rw [if_neg c2, if_neg c2, if_pos rfl]
    · rw [if_neg c, get j hj]
      have c' : ¬ j = 135 := fun e => c e.symm
      by_cases c2 : j < r.data.toList.length
      · rw [if_pos c2, if_pos c2, if_neg c']; simp
      · rw [if_neg c2, if_neg c2, if_neg c']; simp

theorem last_rows {W2 : World} {g : Nat} {r : ByteArray} (hr : r.size < 136) (b2 : Blk W2 g 5 (Lib.byteCells (r.data.toList ++ zb.drop r.size))) :
    ∃ x : Nat, Blk (W2.setCell ⟨g, r.size, none⟩ (.int .u8 6)) g 5 (Lib.byteCells ((r.data.toList ++ zb.drop r.size).set r.size 6)) ∧
      Blk ((W2.setCell ⟨g, r.size, none⟩ (.int .u8 6)).setCell ⟨g, 135, none⟩ (.int .u8 ((x ||| 128 : Nat) : Int))) g 5 (Lib.byteCells (padL r.data.toList)) ∧
      W2.frozen? ⟨g, r.size, none⟩ = false ∧ (W2.setCell ⟨g, r.size, none⟩ (.int .u8 6)).cell? ⟨g, 135, none⟩ = some (.int .u8 (x : Int)) ∧
      (W2.setCell ⟨g, r.size, none⟩ (.int .u8 6)).frozen? ⟨g, 135, none⟩ = false ∧ bits BinOp.or IntKind.u8 (x : Int) 128 = ((x ||| 128 : Nat) : Int) := by
  have hl : r.data.toList.length = r.size := by simp
  have b3 := b2.set r.size (.int .u8 ((6 : UInt8).toNat : Int))
  rw [byteCells_set] at b3
  have hlen : ((r.data.toList ++ zb.drop r.size).set r.size 6).length = 136 := by rw [List.length_set, List.length_append, List.length_drop, hl, show zb.length = 136 from rfl]; omega
  refine ⟨(((r.data.toList ++ zb.drop r.size).set r.size 6).getD 135 0).toNat, b3, ?_, b2.free _, b3.at (byteCells_at (by omega)), b3.free _, ?_⟩
  · have b4 := b3.set 135 (.int .u8 (((((r.data.toList ++ zb.drop r.size).set r.size 6).getD 135 0) ||| 128).toNat : Int))
    rw [byteCells_set] at b4
    refine (b4.cast ?_)
    exact congrArg _ (pad_eq hr)
  · exact u8_or_nat _ 128 (UInt8.toNat_lt _) (by decide)

/-- a byte that the output writes -/
theorem out_cell (q : List Nat) (k j : Nat) (hj : j < 8) (hq : nth q k < 18446744073709551616) :
    Lib.byteCells (outN q (8 * k + j)) ++ [.int .u8 (((nth q k : Nat) : Int) / 2 ^ (8 * j) % 256)] = Lib.byteCells (outN q (8 * k + (j + 1))) := by
  have e : outN q (8 * k + (j + 1)) = outN q (8 * k + j) ++ [outB q (8 * k + j)] := by
    rw [show 8 * k + (j + 1) = 8 * k + j + 1 by omega]
    simp [outN, List.range_succ]
  have v : ((nth q k : Nat) : Int) / 2 ^ (8 * j) % 256 = ((outB q (8 * k + j)).toNat : Int) := by
    unfold outB
    rw [show (8 * k + j) / 8 = k by omega, show (8 * k + j) % 8 = j by omega]
    have h := Nat.mod_lt (nth q k / 2 ^ (8 * j)) (show 0 < 256 by decide)
    rw [show (UInt8.ofNat (nth q k / 2 ^ (8 * j) % 256)).toNat = nth q k / 2 ^ (8 * j) % 256 from Nat.mod_eq_of_lt h, Int.natCast_emod, Int.natCast_ediv, Int.natCast_pow]
    rfl
  rw [e, v]
  simp [Lib.byteCells]

theorem end_eq {s r : ByteArray} {n : Nat} (hn : s.size / 136 = n) (hr : s.extract (136 * n) s.size = r) :
    (⟨(outN (absorbF (blocksN zeros s.data.toList n) (padL r.data.toList)) 32).toArray⟩ : ByteArray) = ⟨(sumL s.data.toList).toArray⟩ := by
  have hl : s.data.toList.length = s.size := by simp
  unfold sumL endState
  rw [hl, hn, ← hr, tail_list]

set_option maxHeartbeats 1000000 in
set_option maxRecDepth 100000 in
theorem sum_any (s : ByteArray) (w : World) (hT : Tabs w) (hs : s.size ≤ 1000000) :
    Calls Tryd.prog 26 #[.string s] w fun e w' => e = .returned (.string ⟨(sumL s.data.toList).toArray⟩) ∧ Below w.heap.size w w' := by
  have hA0 := Hd.mk (Blk.new w 85 (lanes zeros))
  have HT := Hd.mk hT
  have hwl := hT.lt
  clear hT
  go_enter Tryd.func26, Tryd.ntmps26
  go_wp2
  go_loopw [0] (fun v wr => ∃ n : Nat, 136 * n ≤ s.size ∧ v = .string (s.extract (136 * n) s.size) ∧ Blk wr w.heap.size 85 (lanes (blocksN zeros s.data.toList n)) ∧ Keeps (· = w.heap.size) (w.alloc (.cells (lanes zeros).toArray 85)) wr) (fun v _ => match v with | .string t => t.size | _ => 0)
  case atStart => exact ⟨0, Nat.zero_le _, by simp, hA0.out, Keeps.refl _ _⟩
  case round =>
    obtain ⟨n, hn, rfl, bA, hK⟩ := hrel
    by_cases hlt : 136 * n + 136 ≤ s.size
    · have bl := blocksN_low zeros_low.1 zeros_low.2 s.data.toList n
      have hTr := (HT.out.keeps ((Keeps.refl (· = w.heap.size) w).alloc _) (by omega) (by omega)).keeps hK (by omega) (by omega)
      have HTr := Hd.mk hTr
      have HBA := Hd.mk bA
      have HK := Hd.mk hK
      have HL := Hd.mk bl
      clear hTr bA hK bl
      go_wp2_with (go_at_call 35; refine (absorb_any w.heap.size _ _ _ HTr.out HBA.out HL.out.2 HL.out.1 (by omega) (by simp; omega)).mono ?_; rintro e w' ⟨rfl, hb, hk2⟩)
      rw [ex2 s n] at hb
      go_roundw
      case rel =>
        exact ⟨n + 1, by omega, by rw [ex1 s n hlt], hb, HK.out.trans hk2⟩
      case measure => simp [ByteArray.size_extract]; omega
    · have bl := blocksN_low zeros_low.1 zeros_low.2 s.data.toList n
      have hTr := (HT.out.keeps ((Keeps.refl (· = w.heap.size) w).alloc _) (by omega) (by omega)).keeps hK (by omega) (by omega)
      have hnd : s.size / 136 = n := by omega
      obtain ⟨r, hr⟩ : ∃ r, s.extract (136 * n) s.size = r := ⟨_, rfl⟩
      have hrs : r.size = s.size - 136 * n := by rw [← hr]; simp [ByteArray.size_extract]
      have hrl : r.size < 136 := by omega
      rw [hr]
      have HN := Hd.mk hnd
      have HR := Hd.mk hr
      have HTr := Hd.mk hTr
      have HBA := Hd.mk bA
      have HK := Hd.mk hK
      have HL := Hd.mk bl
      have hw1 : w.heap.size < wr.heap.size := bA.lt
      clear hTr bA hK bl hnd hr hrs
      have hmk := make_last
      have hd136 : decide ((136 : Int) ≤ (r.size : Int)) = false := by simp; omega
      have hB0 := Hd.mk (Blk.new wr 5 (Lib.byteCells zb))
      obtain ⟨W2, hcp, b2, k2⟩ := copy_last (wr.alloc (.cells (Lib.byteCells zb).toArray 5)) wr.heap.size r zb hB0.out (by simp [zb]; omega)
      obtain ⟨x, b3, b4, f2, c3, f3, xo⟩ := last_rows hrl b2
      have c2 := b2.at (v := .int .u8 (((r.data.toList ++ zb.drop r.size).getD r.size 0).toNat : Int)) (byteCells_at (by simp [zb]; omega))
      have hcv := back_row (cap := 136) b4 (by rw [padL_length])
      have KW : Keeps (fun _ => False) wr ((W2.setCell ⟨wr.heap.size, r.size, none⟩ (.int .u8 6)).setCell ⟨wr.heap.size, 135, none⟩ (.int .u8 ((x ||| 128 : Nat) : Int))) := ((k2.setCell (p := ⟨wr.heap.size, r.size, none⟩) (.inr rfl) _).setCell (p := ⟨wr.heap.size, 135, none⟩) (.inr rfl) _).fresh rfl
      have HT4 := Hd.mk (HTr.out.keeps KW (fun h => h) (fun h => h))
      have HA4 := Hd.mk (KW.blk HBA.out (fun h => h))
      have HKW := Hd.mk KW
      have hw2 : wr.heap.size < W2.heap.size := b2.lt
      have hpl : (⟨(padL r.data.toList).toArray⟩ : ByteArray).size ≤ 136 := by
        show (padL r.data.toList).toArray.size ≤ 136
        rw [List.size_toArray, padL_length]; exact Nat.le_refl _
      clear b2 b3 b4 k2 KW
      go_wp2_with (go_at_call 35; refine (absorb_any w.heap.size _ ⟨(padL r.data.toList).toArray⟩ _ HT4.out HA4.out HL.out.2 HL.out.1 (by omega) hpl).mono ?_; rintro e w5 ⟨rfl, hb5, hk5⟩)
      obtain ⟨q, hq⟩ : ∃ q, absorbF (blocksN zeros s.data.toList n) (padL r.data.toList) = q := ⟨_, rfl⟩
      have ql := absorbF_low HL.out.1 HL.out.2 (padL r.data.toList)
      have hb5' : Blk w5 w.heap.size 85 (lanes q) := by rw [← hq]; exact hb5
      rw [hq] at ql
      have HQ := Hd.mk hq
      have HB5 := Hd.mk (hb5'.alloc (.cells #[.pointer none, .slice none 0 0] 89))
      have HK5 := Hd.mk hk5
      have hw5 : W2.heap.size ≤ w5.heap.size := by have := hk5.size; simpa using this
      have HF := Hd.mk (Lib.fresh_isBuilder 89 5 w5)
      clear hq hb5 hb5' hk5
      go_loopw [35] (fun i wr => ∃ k : Nat, k ≤ 4 ∧ i = .int .i64 k ∧ Lib.IsBuilder 89 5 w5.heap.size w5.heap.size (Lib.byteCells (outN q (8 * k))) wr ∧ Below w5.heap.size (w5.alloc (.cells #[.pointer none, .slice none 0 0] 89)) wr) (fun i _ => 4 - (intOf i).toNat)
      case atStart => exact ⟨0, by omega, rfl, HF.out, Below.refl _ _⟩
      case round =>
        obtain ⟨k, hk, rfl, hI, hB⟩ := hrel
        by_cases hlk : k < 4
        · have cA := (HB5.out.below hB (by omega)).at (lanes_at (l := q) (j := k) (by omega))
          have hlow := ql.1 k
          have HI := Hd.mk hI
          have HBl := Hd.mk hB
          have hdk : decide ((k : Int) < 4) = true := by simp; omega
          obtain ⟨wo, hwo⟩ : ∃ wo : World, wo = wr := ⟨_, rfl⟩
          subst hwo
          clear hI hB
          go_wp2
          go_loopw [39] (fun i wr => ∃ j : Nat, j ≤ 8 ∧ i = .int .i64 j ∧ Lib.IsBuilder 89 5 w5.heap.size w5.heap.size (Lib.byteCells (outN q (8 * k + j))) wr ∧ Below w5.heap.size (w5.alloc (.cells #[.pointer none, .slice none 0 0] 89)) wr) (fun i _ => 8 - (intOf i).toNat)
          case atStart => exact ⟨0, by omega, rfl, HI.out, HBl.out⟩
          case round =>
            obtain ⟨j, hj, rfl, hI, hB⟩ := hrel
            by_cases hlj : j < 8
            · have HI2 := Hd.mk hI
              have HB2 := Hd.mk hB
              have hsz := hB.size
              have hln := byteCells_len (outN q (8 * k + j))
              have hln2 : (outN q (8 * k + j)).length ≤ 32 := by simp [outN]; omega
              clear hI hB
              go_wp2_with (go_at_call 36; refine (write_any w5.heap.size w5.heap.size _ _ _ HI2.out (by omega) (by simp at hsz; omega)).mono ?_; rintro e w6 ⟨rfl, hI6, hB6⟩)
              go_roundw
              case rel => exact ⟨j + 1, by omega, by go_num, by rw [out_cell q k j hlj hlow] at hI6; exact hI6, HB2.out.trans hB6⟩
              case measure => simp [intOf]; omega
            · have hj8 : j = 8 := by omega
              rw [hj8] at hI
              clear hj8
              have hdj : decide ((j : Int) < 8) = false := by simp; omega
              go_wp2
              go_roundw
              case rel => exact ⟨k + 1, by omega, by go_num, hI, hB⟩
              case measure => simp [intOf]; omega
        · have hk4 : k = 4 := by omega
          rw [hk4] at hI
          clear hk4
          have hdk : decide ((k : Int) < 4) = false := by simp; omega
          have HI := Hd.mk hI
          have HB := Hd.mk hB
          have hsz := hB.size
          clear hI hB
          go_wp2_with (go_at_call 37; refine (_root_.Go.Proofs.Tryd.Builder_String_any w5.heap.size w5.heap.size (outN q 32) _ HI.out (by simp at hsz; omega)).mono ?_; rintro e w6 ⟨rfl, hB6⟩)
          go_ret
          refine ⟨ret_s ?_, ?_⟩
          · rw [← HQ.out]
            exact end_eq HN.out HR.out
          · have k0 : Keeps (fun k => w.heap.size ≤ k) w w5 := ((HK.out.fresh (S := fun k => w.heap.size ≤ k) rfl).trans (HKW.out.mono (fun k _ h => h.elim))).trans (HK5.out.mono (fun k _ h => by show w.heap.size ≤ k; omega))
            have b0 : Below w.heap.size w w5 := k0.below (Nat.le_refl _) (fun k hk h => by have : w.heap.size ≤ k := h; omega)
            have hsz5 : w.heap.size ≤ w5.heap.size := b0.size
            exact ((b0.alloc hsz5 _).trans (HB.out.mono hsz5)).trans (hB6.mono hsz5)

end Go.Proofs.YtimbhnnidohmaaaDoor.W
