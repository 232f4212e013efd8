/-
  The walk of the reference's Form.
-/
import Derived.Test.YtimbhnnidohmaaaDoorFormR2
namespace Go.Proofs.YtimbhnnidohmaaaDoor.W
open Go.RowKit Go.Sort
set_option linter.unusedVariables false

theorem formL_bad {o : Ob} {i : Int} (h : secOk (secD o i) = false) : formL o i = [] := by
  unfold formL
  unfold secD at h
  rcases hs : secAt o i with _ | s
  · rfl
  · rw [hs] at h
    simp only at h ⊢
    rw [h]; rfl
theorem secD_good {o : Ob} {i : Int} (h : secOk (secD o i) = true) : ∃ k : Nat, i = (k : Int) ∧ ∃ hk : k < o.secs.length, secD o i = o.secs[k] ∧ formL o i = sumL (shapeL o.secs[k].kind.toNat o.secs[k].align.toNat o.secs[k].size.toNat (plainL (k : Int) o.rels o.secs[k].bytes.data.toList)) := by
  rcases hs : secAt o i with _ | s
  · unfold secD at h; rw [hs] at h; cases h
  · have hi0 : 0 ≤ i := by
      rcases Int.lt_or_le i 0 with h | h
      · rw [secAt_out (.inl h)] at hs; cases hs
      · exact h
    obtain ⟨k, rfl⟩ := Int.eq_ofNat_of_zero_le hi0
    have hk : k < o.secs.length := by
      rcases Nat.lt_or_ge k o.secs.length with h | h
      · exact h
      · rw [secAt_out (.inr (by omega))] at hs; cases hs
    refine ⟨k, rfl, hk, ?_, ?_⟩
    · unfold secD; rw [secAt_in hk]
    · unfold formL
      unfold secD at h
      rw [secAt_in hk] at h ⊢
      simp only at h ⊢
      rw [if_pos h]

set_option maxHeartbeats 4000000 in
set_option maxRecDepth 100000 in
theorem rform_any (w : World) (o : Ob) (x1 x2 x3 x4 x5 x6 x7 x8 x9 x10 : Value) (i : Int) (hA : o.At w x1 x2 x3 x4 x5 x6 x7 x8 x9 x10) (hl : lenR o.secs.length) (hlr : lenR o.rels.length) (hok : ∀ s ∈ o.secs, s.Ok) (hb : ∀ s, secAt o i = some s → s.bytes.size ≤ 800000) :
    Calls Tryd.prog 34 #[.agg (o.cells x1 x2 x3 x4 x5 x6 x7 x8 x9 x10).toArray, .int .i64 i] w fun e w' => e = .returned (.string ⟨(formL o i).toArray⟩) ∧ Below w.heap.size w w' := by
  have HSec := Hd.mk (fun (w' : World) (h : Below w.heap.size w w') => rsection_any w' o x1 x2 x3 x4 x5 x6 x7 x8 x9 x10 i (hA.below h) hl)
  have HPl := Hd.mk (fun (w' : World) (h : Below w.heap.size w w') (k : Nat) hk hbk => rplain_any w' o x1 x2 x3 x4 x5 x6 x7 x8 x9 x10 k (hA.below h) hk hl hlr hbk)
  have hcs : (o.cells x1 x2 x3 x4 x5 x6 x7 x8 x9 x10).toArray = #[.string o.name, x1, x2, x3, x4, x5, x6, x7, x8, x9, x10] := rfl
  rw [hcs] at HSec HPl ⊢
  obtain ⟨s, hs⟩ : ∃ s, secD o i = s := ⟨_, rfl⟩
  have hsc : s.cells.toArray = #[.string s.name, .int .i64 s.kind, .int .i64 s.align, .int .i64 s.size, .string s.bytes, .bool s.keep] := rfl
  rw [hs, hsc] at HSec
  obtain ⟨wb, hwb⟩ : ∃ wb, w.alloc (.cells #[.string o.name, x1, x2, x3, x4, x5, x6, x7, x8, x9, x10] 43) = wb := ⟨_, rfl⟩
  have HBx : Hd (Blk wb w.heap.size 43 [.string o.name, x1, x2, x3, x4, x5, x6, x7, x8, x9, x10]) := ⟨hwb ▸ Blk.new w 43 _⟩
  have HWb : Hd (Below w.heap.size w wb) := ⟨by rw [← hwb]; go_grown⟩
  obtain ⟨hx, hhx⟩ : ∃ hx, w.heap.size = hx := ⟨_, rfl⟩
  rw [hhx] at HBx
  have b0 := HBx.out.at (j := 0) rfl
  have b1 := HBx.out.at (j := 1) rfl
  have b2 := HBx.out.at (j := 2) rfl
  have b3 := HBx.out.at (j := 3) rfl
  have b4 := HBx.out.at (j := 4) rfl
  have b5 := HBx.out.at (j := 5) rfl
  have b6 := HBx.out.at (j := 6) rfl
  have b7 := HBx.out.at (j := 7) rfl
  have b8 := HBx.out.at (j := 8) rfl
  have b9 := HBx.out.at (j := 9) rfl
  have b10 := HBx.out.at (j := 10) rfl
  rcases hB : secOk s with _ | _
  · have hf : Hd (formL o i = []) := ⟨formL_bad (hs ▸ hB)⟩
    rw [hf.out]
    have hneg := of_decide_eq_false hB
    clear hA hcs hB hb hok hl hlr hs hsc HPl
    by_cases k1 : s.kind < 0
    · go_enter Tryd.func34, Tryd.ntmps34
      go_wp2_with fail
      refine (HSec.out _ HWb.out).mono ?_
      rintro e w1 ⟨rfl, hb1⟩
      have HB1 : Hd (Below w.heap.size w w1) := ⟨below_next HWb.out hb1⟩
      clear hb1 b0 b1 b2 b3 b4 b5 b6 b7 b8 b9 b10
      go_wp2
      go_ret
      exact ⟨rfl, below_next HB1.out (by go_grown)⟩
    · by_cases k2 : s.align < 0
      · go_enter Tryd.func34, Tryd.ntmps34
        go_wp2_with fail
        refine (HSec.out _ HWb.out).mono ?_
        rintro e w1 ⟨rfl, hb1⟩
        have HB1 : Hd (Below w.heap.size w w1) := ⟨below_next HWb.out hb1⟩
        clear hb1 b0 b1 b2 b3 b4 b5 b6 b7 b8 b9 b10
        go_wp2
        go_ret
        exact ⟨rfl, below_next HB1.out (by go_grown)⟩
      · have k3 : s.size < 0 := by omega
        clear hneg
        go_enter Tryd.func34, Tryd.ntmps34
        go_wp2_with fail
        refine (HSec.out _ HWb.out).mono ?_
        rintro e w1 ⟨rfl, hb1⟩
        have HB1 : Hd (Below w.heap.size w w1) := ⟨below_next HWb.out hb1⟩
        clear hb1 b0 b1 b2 b3 b4 b5 b6 b7 b8 b9 b10
        go_wp2
        go_ret
        exact ⟨rfl, below_next HB1.out (by go_grown)⟩
  · obtain ⟨k, rfl, hk, hsk, hf⟩ := secD_good (hs ▸ hB)
    rw [hs] at hsk
    subst hsk
    obtain ⟨s, hs2⟩ : ∃ s, o.secs[k] = s := ⟨_, rfl⟩
    have hso : s.Ok := hok s (hs2 ▸ List.getElem_mem hk)
    have hsz : s.bytes.size ≤ 800000 := hb s (by rw [secAt_in hk, hs2])
    have HPk := Hd.mk (fun w' h => HPl.out w' h k hk (by rw [hs2]; exact hsz))
    rw [hs2] at HPk HSec hB hf hsc
    have hpos := of_decide_eq_true hB
    obtain ⟨kn, hkn⟩ := Int.eq_ofNat_of_zero_le hpos.1
    obtain ⟨an, han⟩ := Int.eq_ofNat_of_zero_le hpos.2.1
    obtain ⟨zn, hzn⟩ := Int.eq_ofNat_of_zero_le hpos.2.2
    have bk := hso.kind; have ba := hso.align; have bz := hso.size
    unfold I64 at bk ba bz
    rw [hkn, han, hzn] at hf HSec
    simp only [Int.toNat_natCast] at hf
    rw [hkn] at bk; rw [han] at ba; rw [hzn] at bz
    obtain ⟨pb, hpb⟩ : ∃ pb : ByteArray, (⟨(plainL (k : Int) o.rels s.bytes.data.toList).toArray⟩ : ByteArray) = pb := ⟨_, rfl⟩
    obtain ⟨sh, hsh⟩ : ∃ sh : ByteArray, (⟨(shapeL kn an zn pb.data.toList).toArray⟩ : ByteArray) = sh := ⟨_, rfl⟩
    obtain ⟨fs, hfs⟩ : ∃ fs : ByteArray, (⟨(formL o (k : Int)).toArray⟩ : ByteArray) = fs := ⟨_, rfl⟩
    have hpl : pb.size = s.bytes.size := by rw [← hpb]; show (plainL _ _ _).length = _; rw [plainL_len]; simp
    have hsum : (⟨(sumL sh.data.toList).toArray⟩ : ByteArray) = fs := by rw [← hfs, hf, ← hsh, ← hpb]
    have hshl : sh.size ≤ 900000 := by
      rw [← hsh]
      show (shapeL kn an zn pb.data.toList).length ≤ _
      unfold shapeL
      rw [List.length_append, List.length_append, List.length_append]
      have h1 := numL_len kn; have h2 := numL_len an; have h3 := numL_len zn
      have h4 := textL_len pb.data.toList
      have h5 : pb.data.toList.length = pb.size := by simp
      omega
    have HSh := Hd.mk (fun w' => rshape_any w' kn an zn pb (by omega) (by omega) (by omega) (by rw [hpl]; exact hsz))
    have HSu := Hd.mk (fun w' => rsum_any sh hshl w')
    rw [hpb] at HPk; rw [hsh] at HSh; rw [hsum] at HSu
    rw [hfs]
    clear hA hcs hB hb hok hl hlr hs hsc HPl hf hso hsz hpos hkn han hzn bk ba bz hpb hsh hfs hpl hsum hshl
    go_enter Tryd.func34, Tryd.ntmps34
    go_wp2_with fail
    refine (HSec.out _ HWb.out).mono ?_
    rintro e w1 ⟨rfl, hb1⟩
    have HB1 : Hd (Below w.heap.size w w1) := ⟨below_next HWb.out hb1⟩
    have HBx1 : Hd (Blk w1 hx 43 [.string o.name, x1, x2, x3, x4, x5, x6, x7, x8, x9, x10]) := ⟨HBx.out.below hb1 HBx.out.lt⟩
    clear hb1 b0 b1 b2 b3 b4 b5 b6 b7 b8 b9 b10
    obtain ⟨w2, hw2⟩ : ∃ w2, w1.alloc (.cells #[.string s.name, .int .i64 (kn : Int), .int .i64 (an : Int), .int .i64 (zn : Int), .string s.bytes, .bool s.keep] 52) = w2 := ⟨_, rfl⟩
    have HSb : Hd (Blk w2 w1.heap.size 52 [.string s.name, .int .i64 (kn : Int), .int .i64 (an : Int), .int .i64 (zn : Int), .string s.bytes, .bool s.keep]) := ⟨hw2 ▸ Blk.new w1 52 _⟩
    have HW2 : Hd (Below w.heap.size w w2) := ⟨below_next HB1.out (by rw [← hw2]; go_grown)⟩
    have HBx2 : Hd (Blk w2 hx 43 [.string o.name, x1, x2, x3, x4, x5, x6, x7, x8, x9, x10]) := ⟨HBx1.out.below (by rw [← hw2]; go_grown) HBx1.out.lt⟩
    obtain ⟨sb, hsb⟩ : ∃ sb, w1.heap.size = sb := ⟨_, rfl⟩
    rw [hsb] at HSb
    have t1 := HSb.out.at (j := 1) rfl
    have t2 := HSb.out.at (j := 2) rfl
    have t3 := HSb.out.at (j := 3) rfl
    have Q1 := Hd.mk (fun (d : Nat) (os : Array Obj) => Calls.regrown_of (HPk.out (grow (redrawn w2 d) os) (below_next HW2.out (below_regrown w2 d os))))
    have Q2 := Hd.mk (fun (d : Nat) (os : Array Obj) => Calls.regrown_of (HSh.out (grow (redrawn w2 d) os)))
    have Q3 := Hd.mk (fun (d : Nat) (os : Array Obj) => Calls.regrown_of (HSu.out (grow (redrawn w2 d) os)))
    have kt1 := fun (d : Nat) (os : Array Obj) => cell_regrown t1 d os
    have kt2 := fun (d : Nat) (os : Array Obj) => cell_regrown t2 d os
    have kt3 := fun (d : Nat) (os : Array Obj) => cell_regrown t3 d os
    have k0 := fun (d : Nat) (os : Array Obj) => cell_regrown (HBx2.out.at (j := 0) rfl) d os
    have k1 := fun (d : Nat) (os : Array Obj) => cell_regrown (HBx2.out.at (j := 1) rfl) d os
    have k2 := fun (d : Nat) (os : Array Obj) => cell_regrown (HBx2.out.at (j := 2) rfl) d os
    have k3 := fun (d : Nat) (os : Array Obj) => cell_regrown (HBx2.out.at (j := 3) rfl) d os
    have k4 := fun (d : Nat) (os : Array Obj) => cell_regrown (HBx2.out.at (j := 4) rfl) d os
    have k5 := fun (d : Nat) (os : Array Obj) => cell_regrown (HBx2.out.at (j := 5) rfl) d os
    have k6 := fun (d : Nat) (os : Array Obj) => cell_regrown (HBx2.out.at (j := 6) rfl) d os
    have k7 := fun (d : Nat) (os : Array Obj) => cell_regrown (HBx2.out.at (j := 7) rfl) d os
    have k8 := fun (d : Nat) (os : Array Obj) => cell_regrown (HBx2.out.at (j := 8) rfl) d os
    have k9 := fun (d : Nat) (os : Array Obj) => cell_regrown (HBx2.out.at (j := 9) rfl) d os
    have k10 := fun (d : Nat) (os : Array Obj) => cell_regrown (HBx2.out.at (j := 10) rfl) d os
    have HEnd : Hd (∀ (d : Nat) (os : Array Obj), Below w.heap.size w (grow (redrawn w2 d) os)) := ⟨fun d os => below_next HW2.out (below_regrown w2 d os)⟩
    go_wp2_with fail
    refine wp_region_quiet_below (by kernel_rfl) (by kernel_rfl) ?_
    repeat (quiet_step (first | exact Q1.out _ _ | exact Q2.out _ _ | exact Q3.out _ _))
    refine wpQuiet_nil ?_
    intro _ hw'
    obtain ⟨⟨dq, osq⟩, hw''⟩ := hw'
    dsimp only at hw''
    have HE := Hd.mk (HEnd.out dq osq)
    rw [← hw''] at HE
    clear hw''
    go_wp2
    go_ret
    exact ⟨rfl, HE.out⟩

end Go.Proofs.YtimbhnnidohmaaaDoor.W
