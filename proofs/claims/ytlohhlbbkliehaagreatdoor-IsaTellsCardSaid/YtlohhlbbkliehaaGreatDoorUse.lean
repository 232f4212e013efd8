/-
  The walks of field, registers, Uses.
-/
import Derived.Test.YtlohhlbbkliehaaGreatDoorEnc
import Derived.Test.YtlohhlbbkliehaaGreatDoorOwn
import Derived.Test.YtlohhlbbkliehaaGreatDoorRw
import Derived.Test.YtlohhlbbkliehaaGreatDoorOrd2
import Derived.Sort.OwnSortedInts
namespace Go.Proofs.YtlohhlbbkliehaaGreatDoor.W
open Go.RowKit
set_option linter.unusedVariables false

/-- the operand that a letter names -/
def opd (a b c m : Int) (ch : UInt8) : Int := if ch = 65 then a else if ch = 66 then b else if ch = 67 then c else m
def regN (a b c m : Int) (ch : UInt8) : Int := if ch = 83 then 15 else opd a b c m ch
def cellN (ch : UInt8) : Nat := if ch = 65 then 1 else if ch = 66 then 2 else if ch = 67 then 3 else 4
def regsL (a b c m : Int) (l : List UInt8) : List Int := Lib.compact ((l.map (regN a b c m)).mergeSort fun x y => decide (x ≤ y))

theorem field9_any (b : Nat) (ch : UInt8) (h : ch = 65 ∨ ch = 66 ∨ ch = 67 ∨ ch = 73) (w : World) : Calls Tryz.prog 34 #[.pointer (some ⟨b, 0, none⟩), .int .u8 (ch.toNat : Int)] w fun e w' => e = .returned (.pointer (some ⟨b, cellN ch, none⟩)) ∧ w = w' := by
  rcases h with rfl | rfl | rfl | rfl
  · exact field9_0 b w
  · exact field9_1 b w
  · exact field9_2 b w
  · exact field9_3 b w

/-! A row of the call's own, sorted, and without what is twice. -/

theorem compact_len (zs : List Int) : (Lib.compact zs).length ≤ zs.length := by
  unfold Lib.compact Lib.compactUpTo
  rw [List.length_map]
  exact Nat.le_trans (List.length_filter_le _ _) (by simp)

theorem int_bang (zs : List Int) (j : Nat) (h : j < zs.length) : zs.toArray[j]! = zs[j] := by simp [h]

theorem own_holds {w : World} {B g c : Nat} {zs : List Int} {n : Nat} (h : Own w B 3 (.slice (some ⟨g, 0, none⟩) n c) (zs.map (Value.int .i64))) : Go.Sort.Holds (Value.int .i64) w g 0 zs.toArray := by
  rcases h.is with ⟨e, _⟩ | ⟨g', cap, e, _, hn, _, _, hc, hf⟩
  · cases e
  · injection e with e1 _ _; injection e1 with e1; injection e1 with e1 _ _
    subst e1
    intro j hj
    have hj' : j < zs.length := by simpa using hj
    rw [Nat.zero_add]
    refine ⟨?_, hf j (by rw [List.length_map] at hn; omega)⟩
    rw [int_bang zs j hj']
    exact hc j _ (by rw [List.getElem?_map, List.getElem?_eq_getElem hj']; rfl)

theorem put_keeps {w : World} {g n : Nat} {d : Array Int} {os : Array Obj} : Keeps (· = g) w (Go.Sort.grow (Go.Sort.putRow (Value.int .i64) (Go.Sort.ahead w n) g 0 d) os) := by
  obtain ⟨h1, h2, h3, h4, h5⟩ := grownBy_sortedI (w := w) (g := g) (n := n) (os := os) d
  exact ⟨h1, h2, h3, h4, fun k hk hs => h5 k hk (fun e => hs (by cases e; rfl))⟩

theorem own_put {w : World} {B g c n m : Nat} {zs ts : List Int} {os : Array Obj} (h : Own w B 3 (.slice (some ⟨g, 0, none⟩) m c) (zs.map (Value.int .i64))) (hl : ts.length = zs.length) : Own (Go.Sort.grow (Go.Sort.putRow (Value.int .i64) (Go.Sort.ahead w n) g 0 ts.toArray) os) B 3 (.slice (some ⟨g, 0, none⟩) ts.length c) (ts.map (Value.int .i64)) := by
  have hlt := (h.lt (k := g) rfl).2
  have hH := own_holds h
  have hH' := Go.Sort.holds_putRow (Value.int .i64) (Go.Sort.ahead w n) g 0 zs.toArray ts.toArray hH (by simp [hl])
  have hG := Go.Sort.holds_grow (Value.int .i64) _ os g 0 ts.toArray (by simpa using hlt) hH'
  rcases h.is with ⟨e, _⟩ | ⟨g', cap, e, hB, hn, hm, ⟨cur, fz, hg, hc⟩, hcl, hf⟩
  · cases e
  · injection e with e1 e2 e3; injection e1 with e1; injection e1 with e1 _ _
    subst e1 e3
    refine ⟨.inr ⟨g, c, by rw [List.length_map], hB, by rw [List.length_map] at hn ⊢; omega, hm, ⟨_, fz, heap_sortedI _ hg, by simp [Go.Sort.putCells, hc]⟩, fun j u hj => ?_, fun j hj => ?_⟩⟩
    · rw [List.getElem?_map, Option.map_eq_some_iff] at hj
      obtain ⟨x, hx, rfl⟩ := hj
      obtain ⟨hjl, rfl⟩ := List.getElem?_eq_some_iff.1 hx
      have := (hG j (by simpa using hjl)).1
      rw [Nat.zero_add, int_bang ts j hjl] at this
      exact this
    · have := hf j hj
      simp only [World.frozen?] at this ⊢
      rw [heap_sortedI _ hg]
      rw [hg] at this
      exact this

theorem sort_own (w : World) (B : Nat) (v : Value) (zs : List Int) (hz : zs.length ≤ 1000000) (h : Own w B 3 v (zs.map (Value.int .i64))) :
    Calls Tryz.prog 77 #[v] w fun e w' => e = .returned (.tuple #[]) ∧ Own w' B 3 v ((zs.mergeSort fun x y => decide (x ≤ y)).map (Value.int .i64)) ∧ Keeps (fun g => v.ownBlock = some g) w w' := by
  have h0 := h
  rcases h.is with ⟨rfl, hx⟩ | ⟨g, cap, rfl, hB, hn, hm, hbk, hcl, hf⟩
  · have hz0 : zs = [] := by simpa using hx
    subst hz0
    exact (Tryz.slices_Sort_int_none none 0 w).mono fun e w' ⟨he, hw⟩ => ⟨he, by subst hw; rw [show (([] : List Int).mergeSort fun x y => decide (x ≤ y)) = [] from by simp]; exact Own.nil _ _ _, by subst hw; exact Keeps.refl _ _⟩
  · rw [List.length_map] at h0 ⊢
    refine (Tryz.slices_Sort_int g 0 cap zs w (own_holds h0) (h0.lt rfl).2 (by omega)).mono ?_
    rintro e w' ⟨rfl, n, os, rfl⟩
    have hl : (zs.mergeSort fun x y => decide (x ≤ y)).length = zs.length := List.length_mergeSort _
    have := own_put (n := n) (os := os) h0 hl
    rw [hl] at this
    exact ⟨rfl, this, put_keeps.mono (fun k _ e => by subst e; rfl)⟩

theorem compact_own (w : World) (B : Nat) (v : Value) (zs : List Int) (hz : zs.length ≤ 1000000) (h : Own w B 3 v (zs.map (Value.int .i64))) :
    Calls Tryz.prog 78 #[v] w fun e w' => ∃ v', e = .returned v' ∧ Rw 1 intE w' v' (Lib.compact zs) ∧ Keeps (fun g => v.ownBlock = some g) w w' := by
  have h0 := h
  rcases h.is with ⟨rfl, hx⟩ | ⟨g, cap, rfl, hB, hn, hm, hbk, hcl, hf⟩
  · have hz0 : zs = [] := by simpa using hx
    subst hz0
    exact (Tryz.slices_Compact_int_empty none 0 w).mono fun e w' ⟨he, hw⟩ => ⟨_, he, by subst hw; exact Rw.nil _, by subst hw; exact Keeps.refl _ _⟩
  · rw [List.length_map] at h0 hn ⊢
    refine (Tryz.slices_Compact_int g 0 cap zs w (own_holds h0) (by omega) hn).mono ?_
    rintro e w' ⟨rfl, q, rfl⟩
    have hcl : (Lib.compact zs).length ≤ zs.length := compact_len zs
    have hl : (Lib.compact zs ++ List.replicate (zs.length - (Lib.compact zs).length) (0 : Int)).length = zs.length := by simp; omega
    have hown := own_put (n := q) (os := #[]) h0 hl
    have hk := put_keeps (w := w) (g := g) (n := q) (d := (Lib.compact zs ++ List.replicate (zs.length - (Lib.compact zs).length) (0 : Int)).toArray) (os := #[])
    rw [Go.Sort.grow_empty] at hown hk
    rw [hl] at hown
    have hR : Rw 1 intE (Go.Sort.putRow (Value.int .i64) (Go.Sort.ahead w q) g 0 (Lib.compact zs ++ List.replicate (zs.length - (Lib.compact zs).length) (0 : Int)).toArray) (.slice (some ⟨g, 0, none⟩) zs.length cap) (Lib.compact zs ++ List.replicate (zs.length - (Lib.compact zs).length) (0 : Int)) :=
      Rw.of_own hown (by rw [List.length_map]) (fun j x u hx hu => by rw [List.getElem?_map, hx] at hu; cases hu; rfl)
    have hT := hR.take (n := (Lib.compact zs).length) rfl (by rw [List.length_append]; omega)
    rw [List.take_left] at hT
    exact ⟨_, rfl, hT, hk.mono (fun k _ e => by subst e; rfl)⟩

theorem own_base' {w : World} {B B' : Nat} {e : TypeId} {v : Value} {xs : List Value} (h : Own w B e v xs) (hB : B' ≤ B) : Own w B' e v xs := by
  rcases h.is with h0 | ⟨g, cap, e1, hg, r⟩
  · exact ⟨.inl h0⟩
  · exact ⟨.inr ⟨g, cap, e1, Nat.le_trans hB hg, r⟩⟩
theorem own_heap {w : World} {B : Nat} {e : TypeId} {v : Value} {xs : List Value} (h : Own w B e v xs) {g : Nat} (hg : v.ownBlock = some g) : ∃ cur fz, w.heap[g]? = some (.cells cur e fz) := by
  rcases h.is with ⟨rfl, _⟩ | ⟨g', cap, rfl, _, _, _, ⟨cur, fz, hg', _⟩, _⟩
  · cases hg
  · have : g' = g := by simpa [Value.ownBlock] using hg
    subst this
    exact ⟨_, _, hg'⟩
theorem Own.slice' {w : World} {B : Nat} {e : TypeId} {v : Value} {xs : List Value} (h : Own w B e v xs) : ∃ p c, v = .slice p xs.length c := by
  rcases h.is with ⟨rfl, rfl⟩ | ⟨g, cap, rfl, _⟩
  · exact ⟨none, 0, rfl⟩
  · exact ⟨_, cap, rfl⟩
theorem Own.at {w : World} {B : Nat} {e : TypeId} {g n c : Nat} {xs : List Value} (h : Own w B e (.slice (some ⟨g, 0, none⟩) n c) xs) {j : Nat} {u : Value} (hj : xs[j]? = some u) : w.cell? ⟨g, j, none⟩ = some u ∧ w.frozen? ⟨g, j, none⟩ = false := by
  rcases h.is with ⟨e', rfl⟩ | ⟨g', cap, e', _, hn, _, _, hc, hf⟩
  · simp at hj
  · injection e' with e1 _ _; injection e1 with e1; injection e1 with e1 _ _
    subst e1
    exact ⟨hc j u hj, hf j (by have := (List.getElem?_eq_some_iff.1 hj).1; omega)⟩
theorem infoInt9 : (Tryz.prog.info? 3).map (fun i => (i.zero, i.size, i.bytes)) = some (some (.int .i64 0), 1, 8) := by kernel_rfl
theorem bytes_at {s : List UInt8} {j : Nat} (h : j < s.length) : (Lib.byteCells s)[j]? = some (.int .u8 ((s[j]).toNat : Int)) := by
  unfold Lib.byteCells
  rw [List.getElem?_map, List.getElem?_eq_getElem h]; rfl

theorem opd_cell {w : World} {g : Nat} {op a b c m : Int} (h : Blk w g 23 [.int .i64 op, .int .i64 a, .int .i64 b, .int .i64 c, .int .i64 m]) (ch : UInt8) : w.cell? ⟨g, cellN ch, none⟩ = some (.int .i64 (opd a b c m ch)) := by
  unfold cellN opd
  split
  · exact h.at (j := 1) rfl
  · split
    · exact h.at (j := 2) rfl
    · split
      · exact h.at (j := 3) rfl
      · exact h.at (j := 4) rfl
theorem take_snoc (l : List UInt8) (k : Nat) (h : k < l.length) (f : UInt8 → Int) : ((l.take (k + 1)).map f).map (Value.int .i64) = ((l.take k).map f).map (Value.int .i64) ++ [.int .i64 (f l[k])] := by
  rw [List.take_succ_eq_append_getElem h, List.map_append, List.map_append]; rfl

set_option maxHeartbeats 4000000 in
set_option maxRecDepth 100000 in
theorem registers_any (op a b c m : Int) (s : ByteArray) (w : World) (hl : ∀ ch ∈ s.data.toList, ch = 65 ∨ ch = 66 ∨ ch = 67 ∨ ch = 73 ∨ ch = 83) (hs : s.size ≤ 1000) :
    Calls Tryz.prog 47 #[.agg #[.int .i64 op, .int .i64 a, .int .i64 b, .int .i64 c, .int .i64 m], .string s] w fun e w' => ∃ v', e = .returned v' ∧ Rw 1 intE w' v' (regsL a b c m s.data.toList) ∧ Below w.heap.size w w' := by
  obtain ⟨i0, hi, hz0, hz1, hz2⟩ := info_parts infoInt9
  have HI : Hd (_ ∧ _ ∧ _ ∧ _) := ⟨⟨hi, hz0, hz1, hz2⟩⟩
  clear hi hz0 hz1 hz2
  have hbl := Blk.new w 23 [.int .i64 op, .int .i64 a, .int .i64 b, .int .i64 c, .int .i64 m]
  have kbl : Keeps (fun _ => False) w (w.alloc (.cells #[.int .i64 op, .int .i64 a, .int .i64 b, .int .i64 c, .int .i64 m] 23)) := (Keeps.refl (fun _ => False) w).alloc _
  have hcv := run_bytes_of_string (P := Tryz.prog) (w.alloc (.cells #[.int .i64 op, .int .i64 a, .int .i64 b, .int .i64 c, .int .i64 m] 23)) 9 43 5 s Tryz.underlying9 Tryz.underlying43 Tryz.underlying5
  have hcap1 := grownCap_ge (w.alloc (.cells #[.int .i64 op, .int .i64 a, .int .i64 b, .int .i64 c, .int .i64 m] 23)) s.size 0 5
  have hcap2 := grownCap_le_maxLen (w.alloc (.cells #[.int .i64 op, .int .i64 a, .int .i64 b, .int .i64 c, .int .i64 m] 23)) s.size 0 5 (by unfold maxLen; omega)
  generalize grownCap (w.alloc (.cells #[.int .i64 op, .int .i64 a, .int .i64 b, .int .i64 c, .int .i64 m] 23)) s.size 0 5 = cap at hcv hcap1 hcap2
  have hO0 := Own.of_string (w.alloc (.cells #[.int .i64 op, .int .i64 a, .int .i64 b, .int .i64 c, .int .i64 m] 23)) s cap hcap1 hcap2
  have k0 : Keeps (fun _ => False) (w.alloc (.cells #[.int .i64 op, .int .i64 a, .int .i64 b, .int .i64 c, .int .i64 m] 23)) ((w.alloc (.cells #[.int .i64 op, .int .i64 a, .int .i64 b, .int .i64 c, .int .i64 m] 23)).drew.alloc (.cells (bytesRow s cap) 5 ((bytesRow s cap).size, (bytesRow s cap).size + 1))) := ((Keeps.refl _ _).drew).alloc _
  have HO0 := Hd.mk hO0
  have HB0 := Hd.mk (k0.blk hbl (fun h => h))
  have HK0 := Hd.mk (kbl.trans k0)
  have HL := Hd.mk hl
  have HS := Hd.mk hs
  obtain ⟨n, hn⟩ : ∃ n, s.size = n := ⟨_, rfl⟩
  have HN := Hd.mk hn
  have hn9 : n ≤ 1000 := by omega
  rw [hn] at hcv HO0
  clear hO0 hbl kbl k0 hcap1 hcap2 hl hs hn
  go_enter Tryz.func47, Tryz.ntmps47
  go_wp2
  have hrb : (w.alloc (.cells #[.int .i64 op, .int .i64 a, .int .i64 b, .int .i64 c, .int .i64 m] 23)).heap.size = w.heap.size + 1 := by simp
  have HO1 : Hd (Own ((w.alloc (.cells #[.int .i64 op, .int .i64 a, .int .i64 b, .int .i64 c, .int .i64 m] 23)).drew.alloc (.cells (bytesRow s cap) 5 ((bytesRow s cap).size, (bytesRow s cap).size + 1))) w.heap.size 5 (.slice (some ⟨w.heap.size + 1, 0, none⟩) n cap) (Lib.byteCells s.data.toList)) := ⟨by
    have := HO0.out
    rw [hrb] at this
    exact own_base' this (by omega)⟩
  clear hcv hrb HO0
  go_loopw [5, 11] (fun v i wr => ∃ k : Nat, k ≤ n ∧ i = .int .i64 k ∧ Hd (Own wr w.heap.size 3 v (((s.data.toList.take k).map (regN a b c m)).map (Value.int .i64))) ∧ Hd (Blk wr w.heap.size 23 [.int .i64 op, .int .i64 a, .int .i64 b, .int .i64 c, .int .i64 m]) ∧ Hd (Own wr w.heap.size 5 (.slice (some ⟨w.heap.size + 1, 0, none⟩) n cap) (Lib.byteCells s.data.toList)) ∧ Hd (Keeps (fun _ => False) w wr)) (fun _ i _ => n - (intOf i).toNat)
  case atStart => exact ⟨0, Nat.zero_le _, rfl, ⟨Own.nil _ _ _⟩, HB0, HO1, HK0⟩
  case round =>
    obtain ⟨k, hk, rfl, HOw, HBx, HRow, HK⟩ := hrel
    clear HO1 HB0 HK0
    by_cases hlt : k < n
    · have hd1 : decide ((k : Int) < (n : Int)) = true := by simp; omega
      have hkl : k < s.data.toList.length := by show k < s.size; rw [HN.out]; exact hlt
      have hsn := take_snoc s.data.toList k hkl (regN a b c m)
      have hll := HL.out _ (List.getElem_mem hkl)
      have hcc := (HRow.out.at (bytes_at hkl)).1
      obtain ⟨ch, hch⟩ : ∃ ch, s.data.toList[k] = ch := ⟨_, rfl⟩
      rw [hch] at hsn hll hcc
      obtain ⟨p5, c5, hv5⟩ := HOw.out.slice'
      obtain ⟨N5, hN5⟩ : ∃ N, (((s.data.toList.take k).map (regN a b c m)).map (Value.int .i64)).length = N := ⟨_, rfl⟩
      rw [hN5] at hv5
      have hN5' : N5 ≤ 1000 := by rw [← hN5, List.length_map, List.length_map, List.length_take]; have := HS.out; have : s.data.toList.length = s.size := rfl; omega
      have HN5 := Hd.mk hN5
      subst hv5
      have HSn := Hd.mk hsn
      have hl1 : (((s.data.toList.take k).map (regN a b c m)).map (Value.int .i64)).length + 1 ≤ maxLen := by rw [hN5]; unfold maxLen; omega
      have hl2 : ((((s.data.toList.take k).map (regN a b c m)).map (Value.int .i64)).length + 1) * 8 ≤ 140737488355328 := by rw [hN5]; omega
      have hsz : w.heap.size ≤ wr.heap.size := HK.out.size
      have hfin : ∀ {v' : Value} {w' : World}, Own w' w.heap.size 3 v' (((s.data.toList.take k).map (regN a b c m)).map (Value.int .i64) ++ [.int .i64 (regN a b c m ch)]) → Keeps (fun g => (Value.slice p5 N5 c5).ownBlock = some g) wr w' → Own w' w.heap.size 3 v' (((s.data.toList.take (k + 1)).map (regN a b c m)).map (Value.int .i64)) ∧ Blk w' w.heap.size 23 [.int .i64 op, .int .i64 a, .int .i64 b, .int .i64 c, .int .i64 m] ∧ Own w' w.heap.size 5 (.slice (some ⟨w.heap.size + 1, 0, none⟩) n cap) (Lib.byteCells s.data.toList) ∧ Keeps (fun _ => False) w w' := fun {v' w'} ho hk' => by
        have hty : ∀ g, (Value.slice p5 N5 c5).ownBlock = some g → ∃ cur fz, wr.heap[g]? = some (.cells cur 3 fz) := fun g hg => own_heap HOw.out hg
        refine ⟨by rw [HSn.out]; exact ho, hk'.blk HBx.out (fun e => ?_), HRow.out.keeps hk' (fun g hg e => ?_), ?_⟩
        · obtain ⟨cur, fz, h1⟩ := hty _ e
          rw [HBx.out.is] at h1; injection h1 with h1; injection h1 with _ h1 _; exact absurd h1 (by decide)
        · obtain ⟨cur, fz, h1⟩ := hty _ e
          obtain ⟨cur', fz', h2⟩ := own_heap HRow.out hg
          rw [h2] at h1; injection h1 with h1; injection h1 with _ h1 _; exact absurd h1 (by decide)
        · exact ⟨hk'.os.trans HK.out.os, hk'.tape.trans HK.out.tape, hk'.output.trans HK.out.output, Nat.le_trans HK.out.size hk'.size, fun i hi hn => by
            rw [hk'.block i (Nat.lt_of_lt_of_le hi HK.out.size) (fun e => by have := (HOw.out.lt e).1; omega)]
            exact HK.out.block i hi hn⟩
      have HFin := Hd.mk @hfin
      obtain ⟨us, hus⟩ : ∃ us, ((s.data.toList.take k).map (regN a b c m)).map (Value.int .i64) = us := ⟨_, rfl⟩
      rw [hus] at HOw HFin hl1 hl2
      have hbx : ∀ w', Below wr.heap.size wr w' → True := fun _ _ => trivial
      clear hsn hkl hch hN5 hfin hbx hus HN5 HSn
      by_cases h83 : ch = 83
      · have hb1 : ((ch.toNat : Int) == 83) = true := by subst h83; rfl
        have hr : Hd (regN a b c m ch = 15) := ⟨by unfold regN; rw [if_pos h83]⟩
        rw [hr.out] at HFin
        clear h83 hll
        go_wp2_with (at_builtin; refine wp_app1 rfl _ _ 34 rfl 3 Tryz.underlying34 HI.out.1 HI.out.2.1 HI.out.2.2.1 HI.out.2.2.2 rfl (.slice p5 N5 c5) _ _ wr rfl HOw.out rfl rfl hl1 hl2 hsz ?_)
        intro v' w' hO' hK' hv'
        obtain ⟨g1, g2, g3, g4⟩ := HFin.out hO' hK'
        have G1 := Hd.mk g1; have G2 := Hd.mk g2; have G3 := Hd.mk g3; have G4 := Hd.mk g4
        clear hO' hK' hv' g1 g2 g3 g4 hl1 hl2 HFin
        go_wp2
        go_roundw
        case rel => exact ⟨k + 1, hlt, by go_num, G1, G2, G3, G4⟩
        case measure => simp [intOf]; omega
      · have hb1 : ((ch.toNat : Int) == 83) = false := by
          simp only [beq_eq_false_iff_ne, ne_eq]
          intro e
          exact h83 (UInt8.toNat_inj.1 (by have : (83 : UInt8).toNat = 83 := rfl; omega))
        have hr : Hd (regN a b c m ch = opd a b c m ch) := ⟨by unfold regN; rw [if_neg h83]⟩
        rw [hr.out] at HFin
        have hll' : ch = 65 ∨ ch = 66 ∨ ch = 67 ∨ ch = 73 := by
          rcases hll with h | h | h | h | h
          · exact .inl h
          · exact .inr (.inl h)
          · exact .inr (.inr (.inl h))
          · exact .inr (.inr (.inr h))
          · exact absurd h h83
        have HF9 := Hd.mk (fun w' => field9_any w.heap.size ch hll' w')
        have hcel := opd_cell HBx.out ch
        obtain ⟨cn, hcn⟩ : ∃ cn, cellN ch = cn := ⟨_, rfl⟩
        obtain ⟨od, hod⟩ : ∃ od, opd a b c m ch = od := ⟨_, rfl⟩
        rw [hcn] at HF9 hcel
        rw [hod] at hcel HFin
        clear h83 hll hll' hcn hod
        go_wp2_with fail
        refine (HF9.out _).mono ?_
        rintro e wx ⟨rfl, rfl⟩
        go_wp2_with (at_builtin; refine wp_app1 rfl _ _ 34 rfl 3 Tryz.underlying34 HI.out.1 HI.out.2.1 HI.out.2.2.1 HI.out.2.2.2 rfl (.slice p5 N5 c5) _ _ wr rfl HOw.out rfl rfl hl1 hl2 hsz ?_)
        intro v' w' hO' hK' hv'
        obtain ⟨g1, g2, g3, g4⟩ := HFin.out hO' hK'
        have G1 := Hd.mk g1; have G2 := Hd.mk g2; have G3 := Hd.mk g3; have G4 := Hd.mk g4
        clear hO' hK' hv' g1 g2 g3 g4 hl1 hl2 HFin hcel
        go_wp2
        go_roundw
        case rel => exact ⟨k + 1, hlt, by go_num, G1, G2, G3, G4⟩
        case measure => simp [intOf]; omega
    · have hd1 : decide ((k : Int) < (n : Int)) = false := by simp; omega
      have hkn : k = s.data.toList.length := by show k = s.size; rw [HN.out]; omega
      have HOe : Hd (Own wr w.heap.size 3 u5 ((s.data.toList.map (regN a b c m)).map (Value.int .i64))) := ⟨by
        have := HOw.out
        rw [hkn, List.take_length] at this
        exact this⟩
      have hln : (s.data.toList.map (regN a b c m)).length ≤ 1000000 := by rw [List.length_map]; have := HS.out; show s.size ≤ _; omega
      have HLn := Hd.mk hln
      obtain ⟨p5, c5, hv5⟩ := HOe.out.slice'
      obtain ⟨N5, hN5⟩ : ∃ N, ((s.data.toList.map (regN a b c m)).map (Value.int .i64)).length = N := ⟨_, rfl⟩
      rw [hN5] at hv5
      subst hv5
      clear hkn HOw HBx HRow hln hN5
      go_wp2_with fail
      refine (sort_own wr w.heap.size _ _ HLn.out HOe.out).mono ?_
      rintro e w5 ⟨rfl, ho5, k5⟩
      have HO5 := Hd.mk ho5; have K5 := Hd.mk k5; clear ho5 k5
      go_wp2_with fail
      refine (compact_own w5 w.heap.size _ _ (by rw [List.length_mergeSort]; exact HLn.out) HO5.out).mono ?_
      rintro e w6 ⟨v6, rfl, hr6, k6⟩
      have HR6 := Hd.mk hr6; have K6 := Hd.mk k6; clear hr6 k6
      go_wp2
      go_ret
      refine ⟨_, rfl, HR6.out, ?_⟩
      have kk := (HK.out.mono (S' := fun g => w.heap.size ≤ g) (fun _ _ h => h.elim)).trans ((K5.out.mono (fun g _ e => (HOe.out.lt e).1)).trans (K6.out.mono (fun g _ e => (HO5.out.lt e).1)))
      exact kk.below (Nat.le_refl _) (fun g hg e => Nat.lt_irrefl _ (Nat.lt_of_lt_of_le hg e))

end Go.Proofs.YtlohhlbbkliehaaGreatDoor.W
