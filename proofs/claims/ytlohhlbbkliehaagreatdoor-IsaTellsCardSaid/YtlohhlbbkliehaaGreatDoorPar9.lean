/-
  The walk of Parse.
-/
import Derived.Test.YtlohhlbbkliehaaGreatDoorFind9
import Derived.Test.YtlohhlbbkliehaaGreatDoorDec
import Derived.Test.YtlohhlbbkliehaaGreatDoorUse
import Derived.Test.YtlohhlbbkliehaaGreatDoorText
import Derived.Test.YtlohhlbbkliehaaGreatDoorOrd
import Derived.Test.YtlohhlbbkliehaaGreatDoorRw
import Derived.Deep.DeepCutAuto
namespace Go.Proofs.YtlohhlbbkliehaaGreatDoor.W
open Go.RowKit
set_option linter.unusedVariables false

def lineL (s : List UInt8) : List UInt8 := Lib.trimS s blanks
def atL (s : List UInt8) : Int := Lib.indexAny (lineL s) blanks
def nmL (s : List UInt8) : List UInt8 := if 0 ≤ atL s then (lineL s).take (atL s).toNat else lineL s
def restL (s : List UInt8) : List UInt8 := if 0 ≤ atL s then Lib.trimS ((lineL s).drop (atL s).toNat) blanks else []
def piecesL (s : List UInt8) : List (List UInt8) := if restL s = [] then [] else splitC (restL s)
/-- the operands of an instruction -/
structure Ops4 where
  a : Int
  b : Int
  c : Int
  m : Int
def Ops4.set (v : Ops4) (ch : UInt8) (n : Int) : Ops4 := if ch = 65 then { v with a := n } else if ch = 66 then { v with b := n } else if ch = 67 then { v with c := n } else { v with m := n }
def parseO : List UInt8 → List (List UInt8) → Ops4 → Option Ops4
  | [], _, v => some v
  | _ :: _, [], _ => none
  | ch :: cs, p :: ps, v => match opL (Lib.trimS p blanks) ch with | some n => parseO cs ps (v.set ch n) | none => none
def insV (op : Int) (v : Ops4) : List Value := [.int .i64 op, .int .i64 v.a, .int .i64 v.b, .int .i64 v.c, .int .i64 v.m]
/-- the error and the instruction -/
def parseL (s : List UInt8) : Int × Int × Ops4 :=
  if findL (nmL s) < 0 then (2, 0, ⟨0, 0, 0, 0⟩)
  else if (piecesL s).length ≠ (opersL (findL (nmL s)).toNat).length then (2, 0, ⟨0, 0, 0, 0⟩)
  else match parseO (opersL (findL (nmL s)).toNat) (piecesL s) ⟨0, 0, 0, 0⟩ with
    | none => (2, 0, ⟨0, 0, 0, 0⟩)
    | some v => if rightB (findL (nmL s)) v.a v.b v.c v.m then (0, findL (nmL s), v) else (6, 0, ⟨0, 0, 0, 0⟩)
def parseV (r : Int × Int × Ops4) : Value := .tuple #[.agg (insV r.2.1 r.2.2).toArray, .int .i64 r.1]

theorem trimS_len (l cs : List UInt8) : (Lib.trimS l cs).length ≤ l.length := by
  unfold Lib.trimS Lib.trimLeftS Lib.trimRightS
  have h1 := (List.dropWhile_sublist (l := ((l.reverse.dropWhile (cs.contains ·)).reverse)) (cs.contains ·)).length_le
  have h2 := (List.dropWhile_sublist (l := l.reverse) (cs.contains ·)).length_le
  rw [List.length_reverse] at h1 h2
  omega
theorem indexAny_lt : ∀ (l cs : List UInt8), Lib.indexAny l cs < l.length
  | [], cs => by simp [Lib.indexAny]
  | b :: l, cs => by
    have ih := indexAny_lt l cs
    have hg := Lib.indexAny_ge cs l
    unfold Lib.indexAny
    split
    · simp; try omega
    · split
      · simp; try omega
      · simp; try omega
theorem findL_range (nm : List UInt8) : -1 ≤ findL nm ∧ findL nm < 31 := by
  unfold findL
  split
  · rename_i n h
    have := List.mem_range.1 (List.mem_of_find?_eq_some h)
    omega
  · omega

theorem insV_set (f : Int) (v : Ops4) (ch : UInt8) (n : Int) : (insV f v).set (cellN ch) (.int .i64 n) = insV f (v.set ch n) := by
  unfold cellN Ops4.set insV
  split
  · rfl
  · split
    · rfl
    · split <;> rfl
/-- a new block of strings is a row -/
theorem own_block (w : World) (us : List Value) (hu : us.length ≤ maxLen) {B : Nat} (hB : B ≤ w.heap.size) : Own (w.alloc (.cells us.toArray 9)) B 9 (.slice (some ⟨w.heap.size, 0, none⟩) us.length us.length) us := by
  have hb := Blk.new w 9 us
  exact ⟨.inr ⟨w.heap.size, us.length, rfl, hB, Nat.le_refl _, hu, ⟨us.toArray, (0, 0), hb.is, by simp⟩, fun j u hj => hb.at hj, fun j _ => hb.free j⟩⟩
def parseE : Int × Int × Ops4 := (2, 0, ⟨0, 0, 0, 0⟩)

set_option maxHeartbeats 4000000 in
set_option maxRecDepth 100000 in
theorem parse_any (s : ByteArray) (w : World) (hs : s.size ≤ 10000) (hT : FormsAt w) :
    Calls Tryz.prog 13 #[.string s] w fun e w' => e = .returned (parseV (parseL s.data.toList)) ∧ Below w.heap.size w w' := by
  have hl1 := trimS_len s.data.toList blanks
  obtain ⟨ln, hln⟩ : ∃ x : ByteArray, (⟨(lineL s.data.toList).toArray⟩ : ByteArray) = x := ⟨_, rfl⟩
  have hlnd : ln.data.toList = lineL s.data.toList := by rw [← hln]
  have hlz : ln.size ≤ 10000 := by
    show ln.data.toList.length ≤ _
    rw [hlnd]
    have : s.data.toList.length ≤ 10000 := hs
    unfold lineL; omega
  have HT1 : Hd (∀ w, Calls Tryz.prog 28 #[.string s, .string ⟨#[32, 9]⟩] w fun e w' => e = .returned (.string ln) ∧ Below w.heap.size w w') := ⟨fun w => by rw [← hln]; exact trimB_any s w (by omega)⟩
  have HI1 : Hd (∀ w, Calls Tryz.prog 29 #[.string ln, .string ⟨#[32, 9]⟩] w fun e w' => e = .returned (.int .i64 (atL s.data.toList)) ∧ Below w.heap.size w w') := ⟨fun w => by unfold atL; rw [← hlnd]; exact idx_any ln w (by omega)⟩
  obtain ⟨k, hk⟩ : ∃ k, atL s.data.toList = k := ⟨_, rfl⟩
  rw [hk] at HI1
  have hkl : k < (ln.size : Int) := by
    have := indexAny_lt (lineL s.data.toList) blanks
    rw [← hk, Lib.size_eq, hlnd]; exact this
  obtain ⟨nm, hnm⟩ : ∃ x : ByteArray, (⟨(nmL s.data.toList).toArray⟩ : ByteArray) = x := ⟨_, rfl⟩
  obtain ⟨rs, hrs⟩ : ∃ x : ByteArray, (⟨(restL s.data.toList).toArray⟩ : ByteArray) = x := ⟨_, rfl⟩
  have HN : Hd (nm = if 0 ≤ k then ln.extract 0 k.toNat else ln) := ⟨by
    rw [← hnm]
    unfold nmL
    rw [hk]
    split
    · rw [← hlnd, ← Lib.mk_data (ln.extract 0 k.toNat), Lib.extract_from_zero]
    · exact hln⟩
  have HR : Hd (∀ w, 0 ≤ k → Calls Tryz.prog 28 #[.string (ln.extract k.toNat ln.size), .string ⟨#[32, 9]⟩] w fun e w' => e = .returned (.string rs) ∧ Below w.heap.size w w') := ⟨fun w h => by
    have h2 := trimB_any (ln.extract k.toNat ln.size) w (by rw [ByteArray.size_extract]; omega)
    rw [Lib.extract_to_end, hlnd] at h2
    rw [← hrs]
    unfold restL
    rw [hk, if_pos h]
    exact h2⟩
  have HR0 : Hd (¬ 0 ≤ k → rs = ⟨#[]⟩) := ⟨fun h => by rw [← hrs]; unfold restL; rw [hk, if_neg h]⟩
  have HNd : Hd (nm.data.toList = nmL s.data.toList) := ⟨by rw [← hnm]⟩
  have HRd : Hd (rs.data.toList = restL s.data.toList) := ⟨by rw [← hrs]⟩
  obtain ⟨f, hf⟩ : ∃ f, findL (nmL s.data.toList) = f := ⟨_, rfl⟩
  obtain ⟨pc, hpc⟩ : ∃ x, piecesL s.data.toList = x := ⟨_, rfl⟩
  have HU : Hd (parseL s.data.toList = if f < 0 then parseE else if pc.length ≠ (opersL f.toNat).length then parseE else match parseO (opersL f.toNat) pc ⟨0, 0, 0, 0⟩ with | none => parseE | some v => if rightB f v.a v.b v.c v.m then (0, f, v) else (6, 0, ⟨0, 0, 0, 0⟩)) := ⟨by rw [← hf, ← hpc]; rfl⟩
  have HF : Hd (findL nm.data.toList = f) := ⟨by rw [← hf, ← hnm]⟩
  have HFr : Hd (-1 ≤ f ∧ f < 31) := ⟨by rw [← hf]; exact findL_range _⟩
  have HPc : Hd (pc = if rs = ⟨#[]⟩ then [] else splitC rs.data.toList) := ⟨by
    rw [← hpc, ← hrs]
    unfold piecesL
    by_cases h : restL s.data.toList = []
    · rw [if_pos h, if_pos (by rw [h])]
    · rw [if_neg h, if_neg (fun e => h (by have := congrArg (fun x : ByteArray => x.data.toList) e; simpa using this))]⟩
  have hrz : rs.size ≤ 10000 := by
    rw [← hrs]
    show (restL s.data.toList).length ≤ 10000
    have hl0 : s.data.toList.length ≤ 10000 := hs
    have : (lineL s.data.toList).length ≤ 10000 := by unfold lineL; omega
    unfold restL
    split
    · have := trimS_len ((lineL s.data.toList).drop (atL s.data.toList).toNat) blanks
      rw [List.length_drop] at this; omega
    · simp
  have HTT := Hd.mk hT
  clear hf hpc hl1 hln hlnd hnm hrs hk hT
  obtain ⟨R, hR⟩ : ∃ R, w.heap.size = R := ⟨_, rfl⟩
  have HRR := Hd.mk hR
  have HB0 : Hd (Blk (w.alloc (.cells (insV 0 ⟨0, 0, 0, 0⟩).toArray 23)) R 23 (insV 0 ⟨0, 0, 0, 0⟩)) := ⟨hR ▸ Blk.new w 23 (insV 0 ⟨0, 0, 0, 0⟩)⟩
  go_enter Tryz.func13, Tryz.ntmps13
  go_wp2_with fail
  refine (HT1.out _).mono ?_
  rintro e w2 ⟨rfl, k2⟩
  have HB2 := Hd.mk (HB0.out.below k2 HB0.out.lt)
  have HK2 : Hd (Keeps (fun _ => False) w w2) := ⟨((Keeps.refl _ w).alloc _).trans (Keeps.of_below k2 (fun k h1 h2 => absurd h1 (Nat.not_lt.2 h2)))⟩
  obtain ⟨N1, hN1⟩ : ∃ R, w2.heap.size = R := ⟨_, rfl⟩
  have HN1 := Hd.mk hN1
  clear k2
  have HB3 : Hd (Blk (w2.alloc (.cells #[.string ln] 9)) R 23 (insV 0 ⟨0, 0, 0, 0⟩)) := ⟨HB2.out.alloc _⟩
  have HK3 : Hd (Keeps (fun _ => False) w (w2.alloc (.cells #[.string ln] 9))) := ⟨HK2.out.alloc _⟩
  have HNB3 : Hd (Blk (w2.alloc (.cells #[.string ln] 9)) N1 9 [.string ln]) := ⟨hN1 ▸ Blk.new w2 9 [.string ln]⟩
  have HRN : Hd (R < N1) := ⟨hN1 ▸ HB2.out.lt⟩
  clear HB2 HK2 HB0 HN1 HRR
  go_wp2_with fail
  refine (HI1.out _).mono ?_
  rintro e w4 ⟨rfl, k4⟩
  have HB4 := Hd.mk (HB3.out.below k4 HB3.out.lt)
  have HNB4 := Hd.mk (HNB3.out.below k4 HNB3.out.lt)
  have HK4 : Hd (Keeps (fun _ => False) w w4) := ⟨HK3.out.trans (Keeps.of_below k4 (fun k h1 h2 => absurd h1 (Nat.not_lt.2 h2)))⟩
  have HRg : Hd (w.heap.size ≤ R) := ⟨Nat.le_of_eq hR⟩
  clear k4 HB3 HNB3 HK3 hN1 hR HI1 HT1
  go_upto_if 19 with (fail)
  go_cut [5] from 19 to 26 (fun v5 wx => v5 = .string rs ∧ Hd (Blk wx N1 9 [.string nm]) ∧ Hd (Blk wx R 23 (insV 0 ⟨0, 0, 0, 0⟩)) ∧ Hd (Keeps (fun _ => False) w wx))
  case first =>
    by_cases h0 : 0 ≤ k
    · obtain ⟨k, rfl⟩ : ∃ n : Nat, k = (n : Int) := ⟨k.toNat, by omega⟩
      have hkl2 : k ≤ ln.size := by omega
      have hkl3 : (k : Int) ≤ (ln.size : Int) := by omega
      have hdc : decide ((0 : Int) ≤ (k : Int)) = true := by simp
      have hnm2 : nm = ln.extract 0 k := by rw [HN.out, if_pos h0]; rfl
      have HR2 := Hd.mk (fun w => HR.out w h0)
      rw [Int.toNat_natCast] at HR2
      clear HN HR HR0
      go_wp2_with fail
      refine wp_region_lin default (fun _ => True) [(0, true), (1, true), (2, true), (3, true), (4, true), (5, true), (6, false), (7, false), (8, true)] (by kernel_rfl) (by kernel_rfl) rfl (by kernel_rfl) (by kernel_rfl) trivial ?_
      simp only [pick, List.getD_cons_zero, List.getD_cons_succ]
      repeat
        refine lin_free (v := ?_) (by rfl) ?_ ?_
        rotate_left
        · intro w' hSw
          go_simp
          first | done | with_reducible rfl
        simp only [Act.put, List.setIfInBounds_toArray, List.set_cons_zero, List.set_cons_succ]
      refine lin_bound (fun K hK => ?_)
      go_simp
      refine (HR2.out _).mono ?_
      rintro e w5 ⟨rfl, k5⟩
      dsimp only
      have hnb := HNB4.out.drew.below k5 HNB4.out.lt
      have cn := hnb.at (j := 0) rfl
      have fn := hnb.free 0
      have HB5 := Hd.mk (HB4.out.drew.below k5 HB4.out.lt)
      have HNB5 := Hd.mk hnb
      have HK5 : Hd (Keeps (fun _ => False) w w5) := ⟨HK4.out.drew.trans (Keeps.of_below k5 (fun k h1 h2 => absurd h1 (Nat.not_lt.2 h2)))⟩
      clear k5 hnb
      refine hK.out _ _ trivial ?_
      clear hK K
      refine lin_bound (fun K hK => ?_)
      go_simp
      refine hK.out _ _ trivial ?_
      clear hK K
      repeat
        refine lin_free (v := ?_) (by rfl) ?_ ?_
        rotate_left
        · intro w' hSw
          go_simp
          first | done | with_reducible rfl
        simp only [Act.put, List.setIfInBounds_toArray, List.set_cons_zero, List.set_cons_succ]
      refine NoPanic.normal ?_
      go_wp2_with fail
      go_meet
      refine ⟨rfl, ⟨(HNB5.out.set 0 (.string (ln.extract 0 k))).cast (by rw [hnm2]; rfl)⟩, ⟨HB5.out.other (by show N1 ≠ R; have := HRN.out; omega) _⟩, ⟨HK5.out.setCell (.inl (by show w.heap.size ≤ N1; have := HRN.out; have := HRg.out; omega)) _⟩⟩
    · have hdc : decide ((0 : Int) ≤ k) = false := by simp; omega
      have h1 : rs = ⟨#[]⟩ := HR0.out (by omega)
      have h2 : nm = ln := by rw [HN.out, if_neg h0]
      subst h2
      go_wp2_with fail
      go_meet
      exact ⟨by rw [h1], HNB4, HB4, HK4⟩
  case rest =>
    obtain ⟨rfl, HNB5, HB5, HK5⟩ := hcut
    clear HNB4 HB4 HK4 HN HR HR0
    have HFt : Hd (FormsAt wc) := ⟨HTT.out.below (HK5.out.below (Nat.le_refl _) (fun _ _ h => h))⟩
    have HIF := Hd.mk (ifunc_any N1 nm wc (HNB5.out.at (j := 0) rfl) HNB5.out.lt HFt.out)
    rw [HF.out] at HIF
    go_wp2_with fail
    refine HIF.out.mono ?_
    rintro e w6 ⟨rfl, k6⟩
    have HB6 := Hd.mk (HB5.out.below k6 HB5.out.lt)
    have HK6 : Hd (Keeps (fun _ => False) w w6) := ⟨HK5.out.trans (Keeps.of_below k6 (fun k h1 h2 => absurd h1 (Nat.not_lt.2 h2)))⟩
    clear k6 HNB5 HB5 HK5 HFt HIF HF
    obtain ⟨I, hI⟩ : ∃ R, w6.heap.size = R := ⟨_, rfl⟩
    have HRI : Hd (R < I) := ⟨hI ▸ HB6.out.lt⟩
    have HI7 : Hd (Blk (w6.alloc (.cells #[.int .i64 f, .int .i64 0, .int .i64 0, .int .i64 0, .int .i64 0] 23)) I 23 (insV f ⟨0, 0, 0, 0⟩)) := ⟨hI ▸ Blk.new w6 23 (insV f ⟨0, 0, 0, 0⟩)⟩
    have HB7 : Hd (Blk (w6.alloc (.cells #[.int .i64 f, .int .i64 0, .int .i64 0, .int .i64 0, .int .i64 0] 23)) R 23 (insV 0 ⟨0, 0, 0, 0⟩)) := ⟨HB6.out.alloc _⟩
    have HK7 : Hd (Keeps (fun _ => False) w (w6.alloc (.cells #[.int .i64 f, .int .i64 0, .int .i64 0, .int .i64 0, .int .i64 0] 23))) := ⟨HK6.out.alloc _⟩
    have HIs : Hd (I < (w6.alloc (.cells #[.int .i64 f, .int .i64 0, .int .i64 0, .int .i64 0, .int .i64 0] 23)).heap.size) := ⟨HI7.out.lt⟩
    clear HB6 HK6
    go_upto_if 33 with (fail)
    obtain ⟨w7, hw7⟩ : ∃ x, w6.alloc (.cells #[.int .i64 f, .int .i64 0, .int .i64 0, .int .i64 0, .int .i64 0] 23) = x := ⟨_, rfl⟩
    rw [hw7] at HI7 HB7 HK7 HIs ⊢
    clear hw7 hI
    by_cases hf0 : f < 0
    · have hdf : decide (f < 0) = true := decide_eq_true hf0
      have HE : Hd (parseL s.data.toList = parseE) := ⟨by rw [HU.out, if_pos hf0]⟩
      have a0 := HB7.out.at (j := 0) rfl
      have a1 := HB7.out.at (j := 1) rfl
      have a2 := HB7.out.at (j := 2) rfl
      have a3 := HB7.out.at (j := 3) rfl
      have a4 := HB7.out.at (j := 4) rfl
      have z0 := HB7.out.free 0
      have z1 := HB7.out.free 1
      have z2 := HB7.out.free 2
      have z3 := HB7.out.free 3
      have z4 := HB7.out.free 4
      clear HU HPc
      go_wp2
      refine bodyPost_ret (v := .tuple #[.agg #[.int .i64 0, .int .i64 0, .int .i64 0, .int .i64 0, .int .i64 0], .int .i64 2]) (by simp [results, Tryz.results13, go_sem, a0, a1, a2, a3, a4]) rfl ⟨by rw [HE.out]; rfl, ?_⟩
      have := HK7.out.below (Nat.le_refl _) (fun _ _ h => h)
      exact (((((this.setCell (HRg.out) _).setCell (HRg.out) _).setCell (HRg.out) _).setCell (HRg.out) _).setCell (HRg.out) _)
    · have hdf : decide (f < 0) = false := decide_eq_false hf0
      obtain ⟨n, rfl⟩ : ∃ n : Nat, f = (n : Int) := ⟨f.toNat, by omega⟩
      have hn31 : n < 31 := by have := HFr.out; omega
      have HN31 := Hd.mk hn31
      have HU2 : Hd (parseL s.data.toList = if pc.length ≠ (opersL n).length then parseE else match parseO (opersL n) pc ⟨0, 0, 0, 0⟩ with | none => parseE | some v => if rightB n v.a v.b v.c v.m then (0, (n : Int), v) else (6, 0, ⟨0, 0, 0, 0⟩)) := ⟨by rw [HU.out, if_neg hf0]; rfl⟩
      rw [hdf]
      clear HU HFr hf0 hn31 hdf
      go_upto_if 36 with (fail)
      go_cut [8] from 36 to 38 (fun v8 wx => Hd (Own wx (I + 1) 9 v8 (pc.map fun p => .string ⟨p.toArray⟩)) ∧ Hd (Blk wx I 23 (insV n ⟨0, 0, 0, 0⟩)) ∧ Hd (Blk wx R 23 (insV 0 ⟨0, 0, 0, 0⟩)) ∧ Hd (Keeps (fun _ => False) w wx))
      case first =>
        obtain ⟨bb, hbb⟩ : ∃ bb, (!rs.toList.isEmpty) = bb := ⟨_, rfl⟩
        have hr0 : bb = !(decide (rs = ⟨#[]⟩)) := by
          rw [← hbb, Lib.toList_data]
          congr 1
          have := str_dec rs.data.toList []
          rw [Lib.mk_data] at this
          have h2 : decide (rs = (⟨#[]⟩ : ByteArray)) = decide (rs.data.toList = []) := this
          rw [h2]
          cases rs.data.toList <;> simp
        rw [hbb]
        clear hbb
        rcases bb with _ | _
        · have hpc : pc = [] := by rw [HPc.out, if_pos (by simpa using hr0)]
          subst hpc
          clear hr0
          go_wp2_with fail
          go_meet
          exact ⟨⟨Own.nil _ _ _⟩, HI7, HB7, HK7⟩
        · have hpc : pc = splitC rs.data.toList := by rw [HPc.out, if_neg (by simpa using hr0)]
          clear hr0
          have HSp := Hd.mk (fun w => split_any rs w (by omega))
          have hpl : (splitC rs.data.toList).length ≤ 10001 := by have := splitC_len rs.data.toList; rw [← Lib.size_eq] at this; omega
          have hob := own_block w7 (pieceV rs.data.toList) (by unfold pieceV maxLen; rw [List.length_map]; omega) (B := I + 1) HIs.out
          have hpv : pieceV rs.data.toList = pc.map fun p => .string ⟨p.toArray⟩ := by rw [hpc]; rfl
          have HOb : Hd (Own (w7.alloc (.cells (pieceV rs.data.toList).toArray 9)) (I + 1) 9 (.slice (some ⟨w7.heap.size, 0, none⟩) (splitC rs.data.toList).length (splitC rs.data.toList).length) (pc.map fun p => .string ⟨p.toArray⟩)) := ⟨by
            rw [hpv] at hob ⊢
            rw [← hpc]
            simpa using hob⟩
          have HI8 : Hd (Blk (w7.alloc (.cells (pieceV rs.data.toList).toArray 9)) I 23 (insV n ⟨0, 0, 0, 0⟩)) := ⟨HI7.out.alloc _⟩
          have HB8 : Hd (Blk (w7.alloc (.cells (pieceV rs.data.toList).toArray 9)) R 23 (insV 0 ⟨0, 0, 0, 0⟩)) := ⟨HB7.out.alloc _⟩
          have HK8 : Hd (Keeps (fun _ => False) w (w7.alloc (.cells (pieceV rs.data.toList).toArray 9))) := ⟨HK7.out.alloc _⟩
          clear hpc hpl hob hpv
          go_wp2_with fail
          refine (HSp.out _).mono ?_
          rintro e w8 ⟨rfl, hw8⟩
          subst hw8
          go_wp2_with fail
          go_meet
          exact ⟨HOb, HI8, HB8, HK8⟩
      case rest =>
        obtain ⟨HO8, HI8, HB8, HK8⟩ := hcut
        have HPZ : Hd (∀ pk : ByteArray, (∃ k : Nat, (pc.map fun p => (.string ⟨p.toArray⟩ : Value))[k]? = some (.string pk)) → pk.size ≤ 20000) := ⟨fun pk ⟨k, hk⟩ => by
          rw [List.getElem?_map, Option.map_eq_some_iff] at hk
          obtain ⟨p, hp, he⟩ := hk
          injection he with he
          subst he
          show p.length ≤ 20000
          have hm := List.mem_of_getElem? hp
          rw [HPc.out] at hm
          split at hm
          · simp at hm
          · have := splitC_sub _ p hm
            rw [← Lib.size_eq] at this
            omega⟩
        clear HI7 HB7 HK7 HIs HPc hrz
        obtain ⟨p8, c8, hv8⟩ := HO8.out.slice'
        rw [List.length_map] at hv8
        obtain ⟨L8, hL8⟩ : ∃ L, pc.length = L := ⟨_, rfl⟩
        rw [hL8] at hv8
        subst hv8
        have HL8 := Hd.mk hL8
        rw [hL8] at HU2
        have hT8 := HTT.out.below (HK8.out.below (Nat.le_refl _) (fun _ _ h => h))
        have t1 := hT8.oper n HN31.out
        have HT8 := Hd.mk hT8
        obtain ⟨q, hq⟩ : ∃ x : ByteArray, (⟨(opersL n).toArray⟩ : ByteArray) = x := ⟨_, rfl⟩
        have HQ := Hd.mk hq
        rw [hq] at t1
        have c0 := HI8.out.at (j := 0) rfl
        have i0 : (0 : Int) ≤ (n : Int) := by omega
        have i1 : (n : Int) < 31 := by have := HN31.out; omega
        have nn : ((n : Int)).toNat = n := by omega
        clear hL8 hq hT8
        go_upto_if 47 with (fail)
        obtain ⟨bb, hbb⟩ : ∃ bb, ((L8 : Int) != (q.size : Int)) = bb := ⟨_, rfl⟩
        rw [hbb]
        have hqz : q.size = (opersL n).length := by rw [← HQ.out]; rfl
        have hbl : bb = decide (L8 ≠ (opersL n).length) := by
          rw [← hbb, hqz, Bool.eq_iff_iff]
          simp only [bne_iff_ne, ne_eq, decide_eq_true_eq]
          omega
        clear hbb
        rcases bb with _ | _
        · have hl8 : L8 = (opersL n).length := by simpa using hbl
          have HU3 : Hd (parseL s.data.toList = match parseO (opersL n) pc ⟨0, 0, 0, 0⟩ with | none => parseE | some v => if rightB n v.a v.b v.c v.m then (0, (n : Int), v) else (6, 0, ⟨0, 0, 0, 0⟩)) := ⟨by rw [HU2.out, if_neg (by simpa using hl8)]⟩
          obtain ⟨l1, l2, l3, l4⟩ := words_ok n HN31.out
          have HL := Hd.mk l3
          have HHl := Hd.mk hl8
          have hqs : q.size ≤ 4 := by rw [hqz]; exact l4
          have HQD : Hd (q.data.toList = opersL n) := ⟨by rw [← HQ.out]⟩
          clear hbl HU2 l1 l2 l3 l4 hqz hl8
          have hcv := run_bytes_of_string (P := Tryz.prog) wc 9 43 5 q Tryz.underlying9 Tryz.underlying43 Tryz.underlying5
          have hcap1 := grownCap_ge wc q.size 0 5
          have hcap2 := grownCap_le_maxLen wc q.size 0 5 (by unfold maxLen; omega)
          generalize grownCap wc q.size 0 5 = cap at hcv hcap1 hcap2
          have hqo := (Own.of_string wc q cap hcap1 hcap2)
          have k0 : Keeps (fun _ => False) wc (wc.drew.alloc (.cells (bytesRow q cap) 5 ((bytesRow q cap).size, (bytesRow q cap).size + 1))) := ((Keeps.refl _ _).drew).alloc _
          have HO9 := Hd.mk (HO8.out.keeps k0 (fun _ _ h => h))
          have HI9 := Hd.mk (k0.blk HI8.out (fun h => h))
          have HB9 := Hd.mk (k0.blk HB8.out (fun h => h))
          have HK9 := Hd.mk (HK8.out.trans k0)
          have HIlt : Hd (I < wc.heap.size) := ⟨HI8.out.lt⟩
          obtain ⟨sz, hsz⟩ : ∃ x, q.size = x := ⟨_, rfl⟩
          have HSZ := Hd.mk hsz
          have hsz4 : sz ≤ 4 := by omega
          rw [hsz] at hcv hqo
          obtain ⟨RB, hRB⟩ : ∃ x, wc.heap.size = x := ⟨_, rfl⟩
          have HRB := Hd.mk hRB
          have hIRB : I < RB := hRB ▸ HIlt.out
          rw [hRB] at hqo
          have HQO := Hd.mk hqo
          clear hcap1 hcap2 k0 hsz hqs hqo
          go_wp2_with fail
          clear hcv t1 c0 hRB
          go_loopw [56] (fun i wr => ∃ (k : Nat) (v : Ops4), k ≤ sz ∧ i = .int .i64 k ∧ Hd (parseO (opersL n) pc ⟨0, 0, 0, 0⟩ = parseO ((opersL n).drop k) (pc.drop k) v) ∧ Hd (-10000000000 < v.m ∧ v.m < 10000000000) ∧ Hd (Own wr (I + 1) 9 (.slice p8 L8 c8) (pc.map fun p => .string ⟨p.toArray⟩)) ∧ Hd (Blk wr I 23 (insV n v)) ∧ Hd (Blk wr R 23 (insV 0 ⟨0, 0, 0, 0⟩)) ∧ Hd (Own wr RB 5 (.slice (some ⟨RB, 0, none⟩) sz cap) (Lib.byteCells q.data.toList)) ∧ Hd (Keeps (fun _ => False) w wr)) (fun i _ => sz - (intOf i).toNat)
          case atStart => exact ⟨0, ⟨0, 0, 0, 0⟩, Nat.zero_le _, rfl, ⟨rfl⟩, ⟨by decide⟩, HO9, HI9, HB9, HQO, HK9⟩
          case round =>
            obtain ⟨k, v, hk, rfl, HP, HM, HO, HI, HB, HRow, HK⟩ := hrel
            clear HO8 HI8 HB8 HK8 HO9 HI9 HB9 HK9 HQO HT8
            by_cases hlt : k < sz
            · have hd1 : decide ((k : Int) < (sz : Int)) = true := by simp; omega
              have hkl : k < (opersL n).length := by rw [← HQD.out]; show k < q.size; rw [HSZ.out]; exact hlt
              have hkl2 : k < q.data.toList.length := by rw [HQD.out]; exact hkl
              have hkp : k < pc.length := by rw [HL8.out, HHl.out]; exact hkl
              have hll := HL.out _ (List.getElem_mem hkl)
              have hcc := (HRow.out.at (bytes_at hkl2)).1
              have hce : q.data.toList[k] = (opersL n)[k] := by simp only [HQD.out]
              rw [hce] at hcc
              have hpo : Hd (parseO (opersL n) pc ⟨0, 0, 0, 0⟩ = match opL (Lib.trimS pc[k] blanks) (opersL n)[k] with | some x => parseO ((opersL n).drop (k + 1)) (pc.drop (k + 1)) (v.set (opersL n)[k] x) | none => none) := ⟨by
                rw [HP.out, List.drop_eq_getElem_cons hkl, List.drop_eq_getElem_cons hkp]; rfl⟩
              obtain ⟨ch, hch⟩ : ∃ ch, (opersL n)[k] = ch := ⟨_, rfl⟩
              obtain ⟨pk, hpk⟩ : ∃ x : ByteArray, (⟨(pc[k]).toArray⟩ : ByteArray) = x := ⟨_, rfl⟩
              have hpkd : pc[k] = pk.data.toList := by rw [← hpk]
              have hpv : (pc.map fun p => (.string ⟨p.toArray⟩ : Value))[k]? = some (.string pk) := by rw [List.getElem?_map, List.getElem?_eq_getElem hkp, ← hpk]; rfl
              obtain ⟨g8, c8', hg8⟩ := HO.out.slice (by rw [List.length_map]; omega)
              rw [List.length_map, HL8.out] at hg8
              injection hg8 with hp8 _ hc8
              have hpz : pk.size ≤ 20000 := HPZ.out pk ⟨k, hpv⟩
              rw [hch] at hll hcc hpo
              rw [hpkd] at hpo
              have HTr : Hd (∀ w, Calls Tryz.prog 28 #[.string pk, .string ⟨#[32, 9]⟩] w fun e w' => e = .returned (.string ⟨(Lib.trimS pk.data.toList blanks).toArray⟩) ∧ Below w.heap.size w w') := ⟨fun w => trimB_any pk w (by omega)⟩
              have htl := trimS_len pk.data.toList blanks
              obtain ⟨tp, htp⟩ : ∃ x : ByteArray, (⟨(Lib.trimS pk.data.toList blanks).toArray⟩ : ByteArray) = x := ⟨_, rfl⟩
              have htpd : tp.data.toList = Lib.trimS pk.data.toList blanks := by rw [← htp]
              rw [htp] at HTr
              rw [← htpd] at hpo
              have HOp := Hd.mk (fun w => operand_any tp ch w (by show tp.data.toList.length ≤ 100000; rw [htpd]; have : pk.data.toList.length ≤ 20000 := hpz; omega))
              subst hp8
              have hcp := (HO.out.at hpv).1
              obtain ⟨r, hr⟩ : ∃ r, opL tp.data.toList ch = r := ⟨_, rfl⟩
              have HRB2 : Hd (∀ x, r = some x → -10000000000 < x ∧ x < 10000000000) := ⟨fun x h => opL_bound (hr.trans h)⟩
              rw [hr] at HOp hpo
              have HPO := hpo
              have hkL : k < L8 := by rw [← HL8.out]; exact hkp
              clear hpo hr hkl hkl2 hkp hch hce hpk hpkd hpv hpz htl htp htpd hc8
              go_wp2_with fail
              refine (HTr.out _).mono ?_
              rintro e w1 ⟨rfl, k1⟩
              have K1 : Hd (Keeps (fun _ => False) wr w1) := ⟨Keeps.of_below k1 (fun k h1 h2 => absurd h1 (Nat.not_lt.2 h2))⟩
              clear k1 HTr hcc hcp
              have HCell := opd_cell HI.out ch
              obtain ⟨od, hod⟩ : ∃ od, opd v.a v.b v.c v.m ch = od := ⟨_, rfl⟩
              rw [hod] at HCell
              clear hod HCell
              rcases r with _ | x
              · have HOp' : Hd (∀ w, Calls Tryz.prog 33 #[.string tp, .int .u8 (ch.toNat : Int)] w fun e w' => e = .returned (.tuple #[.int .i64 0, .bool false]) ∧ Below w.heap.size w w') := ⟨HOp.out⟩
                have HE : Hd (parseL s.data.toList = parseE) := ⟨by rw [HU3.out, HPO.out]⟩
                clear HOp HPO HU3
                go_wp2_with fail
                refine (HOp'.out _).mono ?_
                rintro e w2 ⟨rfl, k2⟩
                have K2 : Hd (Keeps (fun _ => False) wr w2) := ⟨K1.out.trans (Keeps.of_below k2 (fun k h1 h2 => absurd h1 (Nat.not_lt.2 h2)))⟩
                have HB2 := Hd.mk (K2.out.blk HB.out (fun h => h))
                have HK2 := Hd.mk (HK.out.trans K2.out)
                clear k2
                have a0 := HB2.out.at (j := 0) rfl
                have a1 := HB2.out.at (j := 1) rfl
                have a2 := HB2.out.at (j := 2) rfl
                have a3 := HB2.out.at (j := 3) rfl
                have a4 := HB2.out.at (j := 4) rfl
                have z0 := HB2.out.free 0
                have z1 := HB2.out.free 1
                have z2 := HB2.out.free 2
                have z3 := HB2.out.free 3
                have z4 := HB2.out.free 4
                go_wp2
                (try simp only [Exit.inBlock, Exit.then])
                refine bodyPost_ret (v := .tuple #[.agg #[.int .i64 0, .int .i64 0, .int .i64 0, .int .i64 0, .int .i64 0], .int .i64 2]) (by simp [results, Tryz.results13, go_sem, a0, a1, a2, a3, a4]) rfl ⟨by rw [HE.out]; rfl, ?_⟩
                have := HK2.out.below (Nat.le_refl _) (fun _ _ h => h)
                exact (((((this.setCell (HRg.out) _).setCell (HRg.out) _).setCell (HRg.out) _).setCell (HRg.out) _).setCell (HRg.out) _)
              · have HOp' : Hd (∀ w, Calls Tryz.prog 33 #[.string tp, .int .u8 (ch.toNat : Int)] w fun e w' => e = .returned (.tuple #[.int .i64 x, .bool true]) ∧ Below w.heap.size w w') := ⟨HOp.out⟩
                have HP2 : Hd (parseO (opersL n) pc ⟨0, 0, 0, 0⟩ = parseO ((opersL n).drop (k + 1)) (pc.drop (k + 1)) (v.set ch x)) := ⟨HPO.out⟩
                have HM2 : Hd (-10000000000 < (v.set ch x).m ∧ (v.set ch x).m < 10000000000) := ⟨by
                  have h1 := HM.out
                  have h2 := HRB2.out x rfl
                  unfold Ops4.set
                  split
                  · exact h1
                  · split
                    · exact h1
                    · split
                      · exact h1
                      · exact h2⟩
                have HF9 := Hd.mk (fun w' => field9_any I ch hll w')
                clear HOp HPO HM HRB2 hll
                go_wp2_with fail
                refine (HOp'.out _).mono ?_
                rintro e w2 ⟨rfl, k2⟩
                have K2 : Hd (Keeps (fun _ => False) wr w2) := ⟨K1.out.trans (Keeps.of_below k2 (fun k h1 h2 => absurd h1 (Nat.not_lt.2 h2)))⟩
                have HI2 := Hd.mk (K2.out.blk HI.out (fun h => h))
                have HB2 := Hd.mk (K2.out.blk HB.out (fun h => h))
                have HO2 := Hd.mk (HO.out.keeps K2.out (fun _ _ h => h))
                have HRow2 := Hd.mk (HRow.out.keeps K2.out (fun _ _ h => h))
                have HK2 := Hd.mk (HK.out.trans K2.out)
                clear k2 K1 K2 HI HB HO HRow HK
                have hcel := opd_cell HI2.out ch
                have hfre := HI2.out.free (cellN ch)
                have kS : Keeps (· = I) w2 (w2.setCell ⟨I, cellN ch, none⟩ (.int .i64 x)) := (Keeps.refl (fun y => y = I) w2).setCell (p := ⟨I, cellN ch, none⟩) (.inr rfl) _
                have HB3 := Hd.mk (kS.blk HB2.out (by have := HRI.out; omega))
                have HO3 := Hd.mk (HO2.out.keeps kS (fun g hg e => by have := (HO2.out.lt hg).1; omega))
                have HRow3 := Hd.mk (HRow2.out.keeps kS (fun g hg e => by have := (HRow2.out.lt hg).1; omega))
                have HK3 : Hd (Keeps (fun _ => False) w (w2.setCell ⟨I, cellN ch, none⟩ (.int .i64 x))) := ⟨HK2.out.setCell (.inl (by show w.heap.size ≤ I; have := HRI.out; have := HRg.out; omega)) _⟩
                have HI3 : Hd (Blk (w2.setCell ⟨I, cellN ch, none⟩ (.int .i64 x)) I 23 (insV n (v.set ch x))) := ⟨(HI2.out.set (cellN ch) (.int .i64 x)).cast (insV_set n v ch x)⟩
                clear kS
                obtain ⟨cn, hcn⟩ : ∃ cn, cellN ch = cn := ⟨_, rfl⟩
                rw [hcn] at HF9 hcel hfre HB3 HO3 HRow3 HK3 HI3
                obtain ⟨od, hod⟩ : ∃ od, opd v.a v.b v.c v.m ch = od := ⟨_, rfl⟩
                rw [hod] at hcel
                clear hcn hod
                go_wp2_with fail
                refine (HF9.out _).mono ?_
                rintro e wx ⟨rfl, rfl⟩
                go_wp2
                go_roundw
                case rel => exact ⟨k + 1, v.set ch x, hlt, by go_num, HP2, HM2, HO3, HI3, HB3, HRow3, HK3⟩
                case measure => simp [intOf]; omega
            · have hd1 : decide ((k : Int) < (sz : Int)) = false := by simp; omega
              have hkn : k = (opersL n).length := by rw [← HQD.out]; show k = q.size; rw [HSZ.out]; omega
              have HE0 : Hd (parseL s.data.toList = if rightB n v.a v.b v.c v.m then (0, (n : Int), v) else (6, 0, ⟨0, 0, 0, 0⟩)) := ⟨by
                have h := HP.out
                rw [hkn, List.drop_length] at h
                have h2 : parseO [] (pc.drop (opersL n).length) v = some v := by unfold parseO; rfl
                rw [HU3.out, h, h2]⟩
              have hTr := HTT.out.below (HK.out.below (Nat.le_refl _) (fun _ _ h => h))
              have HRi := Hd.mk (right_any (n : Int) v.a v.b v.c v.m wr hTr (by have := HM.out; unfold i64R; omega))
              obtain ⟨va, vb, vc, vm⟩ := v
              dsimp only at HE0 HRi
              obtain ⟨b, hb⟩ : ∃ b, rightB n va vb vc vm = b := ⟨_, rfl⟩
              rw [hb] at HE0 HRi
              have c0 := HI.out.at (j := 0) rfl
              have c1 := HI.out.at (j := 1) rfl
              have c2 := HI.out.at (j := 2) rfl
              have c3 := HI.out.at (j := 3) rfl
              have c4 := HI.out.at (j := 4) rfl
              clear hkn hTr HP HU3 hb HO HRow
              go_wp2_with fail
              refine HRi.out.mono ?_
              rintro e w2 ⟨rfl, k2⟩
              have HB2 := Hd.mk (HB.out.below k2 HB.out.lt)
              have HI2 := Hd.mk (HI.out.below k2 HI.out.lt)
              have HK2 : Hd (Keeps (fun _ => False) w w2) := ⟨HK.out.trans (Keeps.of_below k2 (fun k h1 h2 => absurd h1 (Nat.not_lt.2 h2)))⟩
              clear k2 c0 c1 c2 c3 c4 HI HB HK HRi
              have a0 := HB2.out.at (j := 0) rfl
              have a1 := HB2.out.at (j := 1) rfl
              have a2 := HB2.out.at (j := 2) rfl
              have a3 := HB2.out.at (j := 3) rfl
              have a4 := HB2.out.at (j := 4) rfl
              have z0 := HB2.out.free 0
              have z1 := HB2.out.free 1
              have z2 := HB2.out.free 2
              have z3 := HB2.out.free 3
              have z4 := HB2.out.free 4
              have c0 := HI2.out.at (j := 0) rfl
              have c1 := HI2.out.at (j := 1) rfl
              have c2 := HI2.out.at (j := 2) rfl
              have c3 := HI2.out.at (j := 3) rfl
              have c4 := HI2.out.at (j := 4) rfl
              rcases b with _ | _
              · have HE : Hd (parseL s.data.toList = (6, 0, ⟨0, 0, 0, 0⟩)) := ⟨HE0.out⟩
                go_wp2
                (try simp only [Exit.inBlock, Exit.then])
                refine bodyPost_ret (v := .tuple #[.agg #[.int .i64 0, .int .i64 0, .int .i64 0, .int .i64 0, .int .i64 0], .int .i64 6]) (by simp [results, Tryz.results13, go_sem, a0, a1, a2, a3, a4]) rfl ⟨by rw [HE.out]; rfl, ?_⟩
                have := HK2.out.below (Nat.le_refl _) (fun _ _ h => h)
                exact (((((this.setCell (HRg.out) _).setCell (HRg.out) _).setCell (HRg.out) _).setCell (HRg.out) _).setCell (HRg.out) _)
              · have HE : Hd (parseL s.data.toList = (0, (n : Int), ⟨va, vb, vc, vm⟩)) := ⟨HE0.out⟩
                go_wp2
                (try simp only [Exit.inBlock, Exit.then])
                refine bodyPost_ret (v := .tuple #[.agg #[.int .i64 (n : Int), .int .i64 va, .int .i64 vb, .int .i64 vc, .int .i64 vm], .int .i64 0]) (by simp [results, Tryz.results13, go_sem, a0, a1, a2, a3, a4]) rfl ⟨by rw [HE.out]; rfl, ?_⟩
                have := HK2.out.below (Nat.le_refl _) (fun _ _ h => h)
                exact (((((this.setCell (HRg.out) _).setCell (HRg.out) _).setCell (HRg.out) _).setCell (HRg.out) _).setCell (HRg.out) _)
        · have hl8 : L8 ≠ (opersL n).length := by simpa using hbl
          have HE : Hd (parseL s.data.toList = parseE) := ⟨by rw [HU2.out, if_pos hl8]⟩
          have a0 := HB8.out.at (j := 0) rfl
          have a1 := HB8.out.at (j := 1) rfl
          have a2 := HB8.out.at (j := 2) rfl
          have a3 := HB8.out.at (j := 3) rfl
          have a4 := HB8.out.at (j := 4) rfl
          have z0 := HB8.out.free 0
          have z1 := HB8.out.free 1
          have z2 := HB8.out.free 2
          have z3 := HB8.out.free 3
          have z4 := HB8.out.free 4
          clear HU2 hbl hl8 hqz
          go_wp2
          refine bodyPost_ret (v := .tuple #[.agg #[.int .i64 0, .int .i64 0, .int .i64 0, .int .i64 0, .int .i64 0], .int .i64 2]) (by simp [results, Tryz.results13, go_sem, a0, a1, a2, a3, a4]) rfl ⟨by rw [HE.out]; rfl, ?_⟩
          have := HK8.out.below (Nat.le_refl _) (fun _ _ h => h)
          exact (((((this.setCell (HRg.out) _).setCell (HRg.out) _).setCell (HRg.out) _).setCell (HRg.out) _).setCell (HRg.out) _)

end Go.Proofs.YtlohhlbbkliehaaGreatDoor.W
