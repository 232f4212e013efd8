/-
  The walk of DiskReorders.
-/
import Derived.Test.YtcleocgaooblfaaReordP
import Derived.Test.YtcleocgaooblfaaTurns
namespace Go.Proofs.Ytcleocgaooblfaa.W
open Go.RowKit
set_option linter.unusedVariables false

theorem part_any (s : ByteArray) (k : Int) (hs : s.size ≤ 32) : ∃ x : ByteArray, x.data.toList = partL s.data.toList k ∧ ∀ w : World, Calls Try.prog 19 #[.string s, .int .i64 k] w fun e w' => e = .returned (.string x) ∧ w = w' := by
  by_cases h1 : k = 1
  · refine ⟨s, by simp [partL, h1], fun w => ?_⟩
    subst h1
    go_enter Try.func19, Try.ntmps19
    go_wp2
    go_ret
    exact ⟨rfl, rfl⟩
  · have hz1 : (k == 1) = false := by simp [h1]
    by_cases h2 : k = 2
    · subst h2
      rcases Nat.lt_or_ge s.size 16 with hl | hl
      · refine ⟨s.extract 0 s.size, ?_, fun w => ?_⟩
        · rw [Lib.extract_data, partL, if_neg h1, if_pos rfl]
          simp only [Nat.sub_zero, List.drop_zero]
          rw [size_list]; congr 1; omega
        · have hl2 : (s.size : Int) < 16 := by omega
          have hl3 : ¬ (16 : Int) ≤ (s.size : Int) := by omega
          clear h1
          go_enter Try.func19, Try.ntmps19
          go_wp2
          go_ret
          exact ⟨ret_s (by first | rfl | simp), rfl⟩
      · refine ⟨s.extract 0 16, ?_, fun w => ?_⟩
        · rw [Lib.extract_data, partL, if_neg h1, if_pos rfl]
          simp only [Nat.sub_zero, List.drop_zero]
          rw [size_list]; congr 1; omega
        · have hl2 : (16 : Int) ≤ (s.size : Int) := by omega
          have hl3 : ¬ (s.size : Int) < 16 := by omega
          clear h1
          go_enter Try.func19, Try.ntmps19
          go_wp2
          go_ret
          exact ⟨rfl, rfl⟩
    · have hz2 : (k == 2) = false := by simp [h2]
      refine ⟨⟨#[]⟩, by simp [partL, h1, h2], fun w => ?_⟩
      clear h1 h2
      go_enter Try.func19, Try.ntmps19
      go_wp2
      go_ret
      exact ⟨rfl, rfl⟩

theorem append_list (a b : ByteArray) : (a ++ b).data.toList = a.data.toList ++ b.data.toList := by
  rw [ByteArray.data_append]; simp

theorem One.row3 {B w : World} {D : Nat} {σ : St} (h : One B w D σ) (x y z : Int) : IR (· = D) (w.alloc (.cells #[.int .i64 x, .int .i64 y, .int .i64 z] 3)) (.slice (some ⟨w.heap.size, 0, none⟩) 3 3) [x, y, z] :=
  ⟨.inr ⟨w.heap.size, 0, 3, rfl, fun e => Nat.lt_irrefl _ (e ▸ h.lt), fun j u hj => by
    have := (Blk.new w 3 [.int .i64 x, .int .i64 y, .int .i64 z]).cell j
    rw [Nat.zero_add, this]
    rcases j with _ | _ | _ | j
    · simp at hj; subst hj; rfl
    · simp at hj; subst hj; rfl
    · simp at hj; subst hj; rfl
    · simp at hj⟩⟩

theorem fit_rS (F : List (List UInt8)) (q : List Pn) (hq : q.length ≤ 100) : Fit (rS F q) := ⟨Nat.zero_le _, Nat.zero_le _, Nat.zero_le _, Nat.le_trans hq (by decide)⟩
theorem fit_uS (a b : List UInt8) (d : Bool) : Fit (uS a b d) := ⟨Nat.zero_le _, Nat.zero_le _, Nat.zero_le _, Nat.zero_le _⟩

def zs (n : Nat) : ByteArray := ⟨(List.replicate n 0).toArray⟩
theorem zs_size (n : Nat) : (zs n).size = n := by simp [zs, ByteArray.size]
def zCells (n : Nat) : Array Value := (Lib.byteCells (List.replicate n 0)).toArray
theorem make_zs (w : World) (n : Nat) (h : n ≤ 100000000) : (Instr.makeSlice 36 (.int .i64 n) (.int .i64 n)).run Try.prog w = .ok (.slice (some ⟨w.heap.size, 0, none⟩) n n) (w.alloc (.cells (zCells n) 5)) := make_bytes w n h
theorem conv_zs (w : World) (n : Nat) : (convert 36 9 (.slice (some ⟨w.heap.size, 0, none⟩) n n)).run Try.prog (w.alloc (.cells (zCells n) 5)) = .ok (.string (zs n)) (w.alloc (.cells (zCells n) 5)) :=
  back_row (Blk.new w 5 (Lib.byteCells (List.replicate n 0))) (by simp)

set_option maxHeartbeats 2000000 in
set_option maxRecDepth 100000 in
theorem reord_any (W : World) (a b c : ByteArray) (v : Value) (ks : List Int) (ha : a.size ≤ maxLen) (hb : b.size ≤ maxLen) (hc : c.size ≤ maxLen) (hv : ArgInts W v ks) :
    Calls Try.prog 4 #[.string a, .string b, .string c, v] W fun e w' => e = .returned (.bool true) ∧ Below W.heap.size W w' := by
  obtain ⟨pv, cv, rfl⟩ := hv.row.slice
  have HV := Hd.mk hv
  have la0 : a.size ≤ 9223372036854775807 := ha
  have lb0 : b.size ≤ 9223372036854775807 := hb
  have lc0 : c.size ≤ 9223372036854775807 := hc
  have lk0 := hv.len
  obtain ⟨n, hn⟩ : ∃ n, ks.length = n := ⟨_, rfl⟩
  rw [hn] at lk0 HV
  rw [hn]
  have HN := Hd.mk hn
  clear hv ha hb hc hn
  go_enter Try.func4, Try.ntmps4
  go_wp2_with fail
  refine (small_any W).mono ?_; rintro e wa ⟨rfl, hb0⟩
  have B0 := Hd.mk hb0; clear hb0
  go_wp2_with fail
  refine (One.new wa).mono ?_; rintro e w0 ⟨D, rfl, h0⟩
  have H0 := Hd.mk h0; clear h0
  have hend : ∀ {w' : World} {σ : St}, One wa w' D σ → Below W.heap.size W w' := fun h => Below.chain B0.out h.below
  have HEnd := Hd.mk @hend; clear hend
  by_cases ea : a.data.toList = []
  · have := empty_size ea
    subst this
    go_wp2
    go_ret
    exact ⟨rfl, HEnd.out H0.out⟩
  have na := nonempty_list ea
  have EA := Hd.mk ea; clear ea
  by_cases eb : b.data.toList = []
  · have := empty_size eb
    subst this
    go_wp2
    go_ret
    exact ⟨rfl, HEnd.out H0.out⟩
  have nb := nonempty_list eb
  have EB := Hd.mk eb; clear eb
  by_cases ec : c.data.toList = []
  · have := empty_size ec
    subst this
    go_wp2
    go_ret
    exact ⟨rfl, HEnd.out H0.out⟩
  have nc := nonempty_list ec
  have EC := Hd.mk ec; clear ec
  by_cases la : 32 < a.size
  · have la' : (32 : Int) < (a.size : Int) := by omega
    clear la
    go_wp2
    go_ret
    exact ⟨rfl, HEnd.out H0.out⟩
  have la' : ¬ (32 : Int) < (a.size : Int) := by omega
  have LA : Hd (a.size ≤ 32) := ⟨by omega⟩
  clear la la0
  by_cases lb : 32 < b.size
  · have lb' : (32 : Int) < (b.size : Int) := by omega
    clear lb
    go_wp2
    go_ret
    exact ⟨rfl, HEnd.out H0.out⟩
  have lb' : ¬ (32 : Int) < (b.size : Int) := by omega
  have LB : Hd (b.size ≤ 32) := ⟨by omega⟩
  clear lb lb0
  by_cases lc : 32 < c.size
  · have lc' : (32 : Int) < (c.size : Int) := by omega
    clear lc
    go_wp2
    go_ret
    exact ⟨rfl, HEnd.out H0.out⟩
  have lc' : ¬ (32 : Int) < (c.size : Int) := by omega
  have LC : Hd (c.size ≤ 32) := ⟨by omega⟩
  clear lc lc0
  by_cases l3 : ¬ n = 3
  · have l3' : ((n : Int) == 3) = false := by simp; omega
    have l3'' : ((n : Int) != 3) = true := by simp; omega
    clear l3
    go_wp2
    go_ret
    exact ⟨rfl, HEnd.out H0.out⟩
  obtain rfl : n = 3 := Decidable.not_not.1 l3
  clear l3
  obtain ⟨k0, k1, k2, hks⟩ : ∃ k0 k1 k2, ks = [k0, k1, k2] := by
    have := HN.out
    match ks, this with
    | [x, y, z], _ => exact ⟨x, y, z, rfl⟩
  subst hks
  obtain ⟨g, o, rfl, hcell⟩ : ∃ g o, pv = some ⟨g, o, none⟩ ∧ ∀ w' σ, One wa w' D σ → w'.cell? ⟨g, o, none⟩ = some (.int .i64 k0) ∧ w'.cell? ⟨g, o + 1, none⟩ = some (.int .i64 k1) ∧ w'.cell? ⟨g, o + 2, none⟩ = some (.int .i64 k2) := by
    rcases HV.out.row.is with ⟨h0, _⟩ | ⟨g, o, cap, e, hg, hc⟩
    · cases h0
    · injection e with e1 _ _
      refine ⟨g, o, e1, fun w' σ h => ?_⟩
      have hb := HEnd.out h
      have c0 := hc 0 k0 rfl
      have c1 := hc 1 k1 rfl
      have c2 := hc 2 k2 rfl
      have hlt := lt_of_cell c0
      rw [Nat.add_zero] at c0
      exact ⟨by rw [hb.cell (p := ⟨g, o, none⟩) hlt]; exact c0, by rw [hb.cell (p := ⟨g, o + 1, none⟩) hlt]; exact c1, by rw [hb.cell (p := ⟨g, o + 2, none⟩) hlt]; exact c2⟩
  have HC := Hd.mk hcell; clear hcell
  obtain ⟨x, hx, px⟩ := part_any a k0 LA.out
  obtain ⟨y, hy, py⟩ := part_any c k1 LC.out
  obtain ⟨z, hz, pz⟩ := part_any b k2 LB.out
  have HX := Hd.mk hx; have HY := Hd.mk hy; have HZ := Hd.mk hz; have PX := Hd.mk px; have PY := Hd.mk py; have PZ := Hd.mk pz
  have lx : x.size ≤ 32 := by
    have := partL_le a.data.toList k0
    rw [← hx, size_list, size_list] at this; have := LA.out; omega
  have LX := Hd.mk lx
  have LY : Hd (y.size ≤ 32) := ⟨by
    have := partL_le c.data.toList k1
    rw [← hy, size_list, size_list] at this; have := LC.out; omega⟩
  have LZ0 : Hd (z.size ≤ 32) := ⟨by
    have := partL_le b.data.toList k2
    rw [← hz, size_list, size_list] at this; have := LB.out; omega⟩
  clear hx hy hz px py pz lx
  obtain ⟨F1, hF1, e1, s1⟩ := reord_write (List.replicate 8 []) [] 5 0 a.data.toList rfl (by decide) EA.out LA.out rfl (by decide)
  obtain ⟨F2, hF2, e2, s2⟩ := reord_write F1 ([] ++ [⟨5, 0, a.data.toList⟩]) 6 64 c.data.toList hF1 (by decide) EC.out LC.out rfl (by decide)
  obtain ⟨F3, hF3, e3, s3⟩ := reord_write F2 ([] ++ [⟨5, 0, a.data.toList⟩] ++ [⟨6, 64, c.data.toList⟩]) 5 32 b.data.toList hF2 (by decide) EB.out LB.out rfl (by decide)
  have hcr := reord_crash F3 a.data.toList b.data.toList c.data.toList k0 k1 k2 EA.out EB.out EC.out LA.out
  have E1 := Hd.mk e1; have E2 := Hd.mk e2; have E3 := Hd.mk e3; have S1 := Hd.mk s1; have S2 := Hd.mk s2; have S3 := Hd.mk s3; have HCR := Hd.mk hcr
  clear hF1 hF2 hF3 e1 e2 e3 s1 s2 s3 hcr
  have fin : ∀ {w' : World} {σ : St}, One wa w' D σ → IR (· = D) w' _ _ := fun {w'} {σ} h => (HV.out.row.below (HEnd.out h)).mono (fun g e => by subst e; exact Nat.le_trans B0.out.size h.ge)
  have HFin := Hd.mk @fin; clear fin
  go_wp2_with fail
  refine (H0.out.write 5 0 a 0 _ (fit_rS _ _ (by simp)) (by have := LA.out; simp [newS]; omega) (by decide) (Nat.le_trans LA.out (by decide)) (by rw [show newS = rS (List.replicate 8 []) [] from rfl]; exact congrArg Nat.cast E1.out) S1.out).mono ?_; rintro e w1 ⟨rfl, h1⟩
  have H1 := Hd.mk h1; clear h1
  go_wp2_with fail
  refine (H1.out.write 6 64 c 0 _ (fit_rS _ _ (by simp)) (by have := LC.out; simp [rS]; omega) (by decide) (Nat.le_trans LC.out (by decide)) (congrArg Nat.cast E2.out) S2.out).mono ?_; rintro e w2 ⟨rfl, h2⟩
  have H2 := Hd.mk h2; clear h2
  go_wp2_with fail
  refine (H2.out.write 5 32 b 0 _ (fit_rS _ _ (by simp)) (by have := LB.out; simp [rS]; omega) (by decide) (Nat.le_trans LB.out (by decide)) (congrArg Nat.cast E3.out) S3.out).mono ?_; rintro e w3 ⟨rfl, h3⟩
  have H3 := Hd.mk h3; clear h3
  go_wp2_with fail
  refine (H3.out.crash _ [k0, k1, k2] _ HV.out.len (fit_rS _ _ (by simp)) (HFin.out H3.out) HCR.out).mono ?_; rintro e w4 ⟨rfl, h4⟩
  have H4 := Hd.mk h4; clear h4
  go_wp2_with fail
  refine ((H4.out.alloc _).crash _ [1, 1, 1] (uS (f5L a.data.toList b.data.toList k0 k2) (f6L c.data.toList k1) true) (by decide) (fit_uS _ _ _) (H4.out.row3 1 1 1) rfl).mono ?_; rintro e w5 ⟨rfl, h5⟩
  have H5 := Hd.mk h5; clear h5
  go_wp2_with fail
  refine (H5.out.start (uS (f5L a.data.toList b.data.toList k0 k2) (f6L c.data.toList k1) false) rfl).mono ?_; rintro e w6 ⟨rfl, h6⟩
  have H6 := Hd.mk h6; clear h6
  go_wp2_with fail
  refine ((H6.out.alloc _).crash _ [1, 1, 1] (uS (f5L a.data.toList b.data.toList k0 k2) (f6L c.data.toList k1) true) (by decide) (fit_uS _ _ _) (H6.out.row3 1 1 1) rfl).mono ?_; rintro e w7 ⟨rfl, h7⟩
  have H7 := Hd.mk h7; clear h7
  go_wp2_with fail
  refine (H7.out.start (uS (f5L a.data.toList b.data.toList k0 k2) (f6L c.data.toList k1) false) rfl).mono ?_; rintro e w8 ⟨rfl, h8⟩
  have H8 := Hd.mk h8; clear h8
  obtain ⟨s5, hs5, hs5'⟩ : ∃ s5 : ByteArray, s5.data.toList = f5L a.data.toList b.data.toList k0 k2 ∧ (if z.data.toList = [] then s5 = x else s5 = x ++ zs (32 - x.size) ++ z) := by
    unfold f5L
    rw [← HZ.out, ← HX.out]
    by_cases h : z.data.toList = []
    · exact ⟨x, by rw [if_pos h], by rw [if_pos h]⟩
    · exact ⟨x ++ zs (32 - x.size) ++ z, by rw [append_list, append_list, if_neg h]; rfl, by rw [if_neg h]⟩
  obtain ⟨s6, hs6, hs6'⟩ : ∃ s6 : ByteArray, s6.data.toList = f6L c.data.toList k1 ∧ (if y.data.toList = [] then s6 = ⟨#[]⟩ else s6 = zs 64 ++ y) := by
    unfold f6L
    rw [← HY.out]
    by_cases h : y.data.toList = []
    · exact ⟨⟨#[]⟩, by rw [if_pos h], by rw [if_pos h]⟩
    · exact ⟨zs 64 ++ y, by rw [append_list, if_neg h]; rfl, by rw [if_neg h]⟩
  have HS5 := Hd.mk hs5; have HS5' := Hd.mk hs5'; have HS6 := Hd.mk hs6; have HS6' := Hd.mk hs6'
  clear hs5 hs5' hs6 hs6'
  go_wp2_with fail
  refine (H8.out.read 5 s5 0 HS5.out.symm rfl).mono ?_; rintro e w9 ⟨rfl, h9⟩
  have H9 := Hd.mk h9; clear h9
  go_wp2_with fail
  refine (H9.out.read 6 s6 0 HS6.out.symm rfl).mono ?_; rintro e w10 ⟨rfl, h10⟩
  have H10 := Hd.mk h10; clear h10
  obtain ⟨c0, c1, c2⟩ := HC.out _ _ H10.out
  go_wp2_with fail
  refine (PX.out _).mono ?_; rintro e w11 ⟨rfl, rfl⟩
  go_wp2_with fail
  refine (PY.out _).mono ?_; rintro e w11 ⟨rfl, rfl⟩
  go_wp2_with fail
  refine (PZ.out _).mono ?_; rintro e w11 ⟨rfl, rfl⟩
  clear c0 c1 c2
  have LZ : (32 : Int) - (x.size : Int) = ((32 - x.size : Nat) : Int) := by have := LX.out; omega
  obtain ⟨nz, hnz⟩ : ∃ nz, 32 - x.size = nz := ⟨_, rfl⟩
  rw [hnz] at LZ
  have hs5 := HS5'.out
  rw [hnz] at hs5
  have hnzl : nz ≤ 32 := by omega
  have mz := fun w => make_zs w nz (Nat.le_trans hnzl (by decide))
  have cz := fun w => conv_zs w nz
  have mz6 : ∀ w : World, (Instr.makeSlice 36 (.int .i64 64) (.int .i64 64)).run Try.prog w = .ok (.slice (some ⟨w.heap.size, 0, none⟩) 64 64) (w.alloc (.cells (zCells 64) 5)) := fun w => make_zs w 64 (by decide)
  have cz6 : ∀ w : World, (convert 36 9 (.slice (some ⟨w.heap.size, 0, none⟩) 64 64)).run Try.prog (w.alloc (.cells (zCells 64) 5)) = .ok (.string (zs 64)) (w.alloc (.cells (zCells 64) 5)) := fun w => conv_zs w 64
  have hs6 := HS6'.out
  have g1 : ¬ 9223372036854775807 < x.size + (zs nz).size := by have := LX.out; rw [zs_size]; omega
  have g2 : ¬ 9223372036854775807 < x.size + (zs nz).size + z.size := by have := LX.out; have := LZ0.out; rw [zs_size]; omega
  have g3 : ¬ 9223372036854775807 < (zs 64).size + y.size := by have := LY.out; rw [zs_size]; omega
  clear hnz HS5' HS6'
  by_cases hy : y.data.toList = []
  · rw [if_pos hy] at hs6
    have := empty_size hy
    subst this hs6
    by_cases hz : z.data.toList = []
    · rw [if_pos hz] at hs5
      have := empty_size hz
      subst this hs5
      clear hy hz
      go_wp2
      go_ret
      exact ⟨rfl, HEnd.out H10.out⟩
    · rw [if_neg hz] at hs5
      have hzn := nonempty_list hz
      subst hs5
      clear hy hz
      go_wp2
      go_ret
      exact ⟨rfl, (HEnd.out H10.out).alloc (HEnd.out H10.out).size _⟩
  · rw [if_neg hy] at hs6
    have hyn := nonempty_list hy
    subst hs6
    by_cases hz : z.data.toList = []
    · rw [if_pos hz] at hs5
      have := empty_size hz
      subst this hs5
      clear hy hz
      go_wp2
      go_ret
      exact ⟨rfl, (HEnd.out H10.out).alloc (HEnd.out H10.out).size _⟩
    · rw [if_neg hz] at hs5
      have hzn := nonempty_list hz
      subst hs5
      clear hy hz
      have cz2 : (convert 36 9 (.slice (some ⟨w10.heap.size + 1, 0, none⟩) nz nz)).run Try.prog ((w10.alloc (.cells (zCells 64) 5)).alloc (.cells (zCells nz) 5)) = .ok (.string (zs nz)) ((w10.alloc (.cells (zCells 64) 5)).alloc (.cells (zCells nz) 5)) := by
        have := conv_zs (w10.alloc (.cells (zCells 64) 5)) nz
        rw [show (w10.alloc (.cells (zCells 64) 5)).heap.size = w10.heap.size + 1 from by simp] at this
        exact this
      go_wp2
      go_ret
      exact ⟨rfl, ((HEnd.out H10.out).alloc (HEnd.out H10.out).size _).alloc (by have := (HEnd.out H10.out).size; simp; omega) _⟩

end Go.Proofs.Ytcleocgaooblfaa.W
