/-
  The walk of the reference's Plain.
-/
import Derived.Test.YtimbhnnidohmaaaDoorFormR
namespace Go.Proofs.YtimbhnnidohmaaaDoor.W
open Go.RowKit Go.Sort
set_option linter.unusedVariables false

theorem zeroAt_self (P : List UInt8) (a : Nat) : zeroAt P a a = P := by simp [zeroAt]
theorem zeroAt_step (P : List UInt8) (a m : Nat) (h : a ≤ m) (hm : m < P.length) : (zeroAt P a m).take m ++ [0] ++ (zeroAt P a m).drop (m + 1) = zeroAt P a (m + 1) := by
  have hl : (zeroAt P a m).length = P.length := zeroAt_len h (by omega)
  have l1 : (P.take a ++ List.replicate (m - a) (0 : UInt8)).length = m := by simp; omega
  have e1 : (zeroAt P a m).take m = P.take a ++ List.replicate (m - a) 0 := by
    unfold zeroAt
    rw [List.take_append_of_le_length (by omega), List.take_of_length_le (by omega)]
  have e2 : (zeroAt P a m).drop (m + 1) = P.drop (m + 1) := by
    unfold zeroAt
    rw [List.drop_append, List.drop_eq_nil_of_le (by omega), l1, List.drop_drop]
    simp
  rw [e1, e2]
  unfold zeroAt
  rw [show m + 1 - a = (m - a) + 1 by omega, List.replicate_succ', List.append_assoc (P.take a)]

theorem zero_string (s : ByteArray) (P : List UInt8) (a m : Nat) (h : a ≤ m) (hm : m < P.length) (hs : s.data.toList = zeroAt P a m) :
    (s.extract 0 m ++ ⟨#[0]⟩ ++ s.extract (m + 1) s.size).data.toList = zeroAt P a (m + 1) := by
  rw [← zeroAt_step P a m h hm, ← hs]
  have e1 : (s.extract 0 m).data.toList = s.data.toList.take m := by simp [ByteArray.data_extract]
  have e2 : (s.extract (m + 1) s.size).data.toList = s.data.toList.drop (m + 1) := by
    rw [ByteArray.data_extract]
    have : s.size = s.data.toList.length := by simp
    rw [Array.toList_extract, List.extract_eq_take_drop, this]
    exact List.take_of_length_le (by simp)
  rw [ByteArray.data_append, ByteArray.data_append, Array.toList_append, Array.toList_append, e1, e2]

set_option maxHeartbeats 4000000 in
set_option maxRecDepth 100000 in
theorem rplain_any (w : World) (o : Ob) (x1 x2 x3 x4 x5 x6 x7 x8 x9 x10 : Value) (k : Nat) (hA : o.At w x1 x2 x3 x4 x5 x6 x7 x8 x9 x10) (hk : k < o.secs.length) (hl : lenR o.secs.length) (hlr : lenR o.rels.length) (hb : o.secs[k].bytes.size ≤ 800000) :
    Calls Tryd.prog 45 #[.agg (o.cells x1 x2 x3 x4 x5 x6 x7 x8 x9 x10).toArray, .int .i64 k] w fun e w' => e = .returned (.string ⟨(plainL (k : Int) o.rels o.secs[k].bytes.data.toList).toArray⟩) ∧ Below w.heap.size w w' := by
  have hcs : (o.cells x1 x2 x3 x4 x5 x6 x7 x8 x9 x10).toArray = #[.string o.name, x1, x2, x3, x4, x5, x6, x7, x8, x9, x10] := rfl
  rw [hcs]
  obtain ⟨p1, c1, rfl⟩ := hA.secs.slice
  obtain ⟨p3, c3, rfl⟩ := hA.rels.slice
  have HA := Hd.mk hA
  obtain ⟨s, hsk⟩ : ∃ s, o.secs[k] = s := ⟨_, rfl⟩
  have HSk := Hd.mk hsk
  obtain ⟨N, hN⟩ : ∃ N, o.secs.length = N := ⟨_, rfl⟩
  obtain ⟨R, hR⟩ : ∃ R, o.rels.length = R := ⟨_, rfl⟩
  have HNR := Hd.mk (And.intro hN hR)
  unfold lenR at hl hlr
  rw [hsk] at hb ⊢
  obtain ⟨fs, hfs⟩ : ∃ fs : ByteArray, (⟨(plainL (k : Int) o.rels s.bytes.data.toList).toArray⟩ : ByteArray) = fs := ⟨_, rfl⟩
  have HFs := Hd.mk hfs
  rw [hfs]
  have HK := Hd.mk hk
  rw [hN] at HA hk hl; rw [hR] at HA hlr
  rw [hN, hR]
  obtain ⟨wb, hwb⟩ : ∃ wb, w.alloc (.cells #[.string o.name, .slice p1 N c1, x2, .slice p3 R c3, x4, x5, x6, x7, x8, x9, x10] 43) = wb := ⟨_, rfl⟩
  have HBx : Hd (Blk wb w.heap.size 43 [.string o.name, .slice p1 N c1, x2, .slice p3 R c3, x4, x5, x6, x7, x8, x9, x10]) := ⟨hwb ▸ Blk.new w 43 _⟩
  have HWb : Hd (Below w.heap.size w wb) := ⟨by rw [← hwb]; go_grown⟩
  obtain ⟨hx, hhx⟩ : ∃ hx, w.heap.size = hx := ⟨_, rfl⟩
  rw [hhx] at HBx
  have b1 := HBx.out.at (j := 1) rfl
  obtain ⟨g, of, cs, hpp, hg, hcl, hE, hc⟩ := (HA.out.below HWb.out).secs.at rfl (j := k) HK.out
  rw [HSk.out] at hE
  obtain rfl : cs = s.cells := hE
  obtain rfl := hpp
  have s4 := hc 4 _ rfl
  clear hc hg hcl hA hcs hsk hN hR hfs
  have hT0 : Hd (s.bytes.data.toList = plainL (k : Int) (o.rels.take 0) s.bytes.data.toList) := ⟨rfl⟩
  go_enter Tryd.func45, Tryd.ntmps45
  go_wp2
  go_loopw [5, 6] (fun sv iv wr => ∃ (j : Nat) (t : ByteArray), j ≤ R ∧ iv = .int .i64 j ∧ sv = .string t ∧ Hd (t.data.toList = plainL (k : Int) (o.rels.take j) s.bytes.data.toList) ∧ Hd (Below wb.heap.size wb wr)) (fun _ iv _ => R - (intOf iv).toNat)
  case atStart => exact ⟨0, s.bytes, Nat.zero_le _, rfl, rfl, hT0, ⟨Below.refl _ _⟩⟩
  case round =>
    clear b1 s4 hwb
    obtain ⟨j, t, hj, rfl, rfl, HTt, HB⟩ := hrel
    have b3 := (HBx.out.below HB.out HBx.out.lt).at (j := 3) rfl
    have HWr : Hd (Below w.heap.size w wr) := ⟨below_next HWb.out HB.out⟩
    obtain ⟨L, hL⟩ : ∃ L, s.bytes.size = L := ⟨_, rfl⟩
    have hLb : L ≤ 800000 := by rw [← hL]; exact hb
    obtain ⟨P, hP⟩ : ∃ P, plainL (k : Int) (o.rels.take j) s.bytes.data.toList = P := ⟨_, rfl⟩
    have hPl : P.length = L := by rw [← hP, plainL_len, ← hL]; simp
    have htl : t.size = L := by rw [← hPl, ← hP, ← HTt.out]; simp
    by_cases hlt : j < R
    · obtain ⟨g3, o3, cs, hp3, hg3, _, hE, hc⟩ := (HA.out.below HWr.out).rels.at rfl (j := j) (by rw [HNR.out.2]; exact hlt)
      obtain ⟨r, hr⟩ : ∃ r, o.rels[j]'(by rw [HNR.out.2]; exact hlt) = r := ⟨_, rfl⟩
      have HSt := Hd.mk (plainL_take (k : Int) o.rels s.bytes.data.toList j (by rw [HNR.out.2]; exact hlt))
      rw [hr] at hE HSt
      obtain rfl : cs = r.cells := hE
      obtain rfl := hp3
      have r0 := hc 0 _ rfl
      have r1 := hc 1 _ rfl
      have r2 := hc 2 _ rfl
      have r3 := hc 3 _ rfl
      have r4 := hc 4 _ rfl
      rw [Nat.add_zero] at r0
      obtain ⟨wr2, hwr2⟩ : ∃ wr2, wr.alloc (.cells #[.int .i64 r.sec, .int .i64 r.at_, .int .i64 r.kind, .int .i64 r.sym, .int .i64 r.add] 70) = wr2 := ⟨_, rfl⟩
      have HRb : Hd (Blk wr2 wr.heap.size 70 r.cells) := ⟨hwr2 ▸ Blk.new wr 70 _⟩
      have HB2 : Hd (Below wb.heap.size wb wr2) := ⟨below_next HB.out (by rw [← hwr2]; go_grown)⟩
      obtain ⟨rb, hrb⟩ : ∃ rb, wr.heap.size = rb := ⟨_, rfl⟩
      rw [hrb] at HRb
      have q0 := HRb.out.at (j := 0) rfl
      have q1 := HRb.out.at (j := 1) rfl
      have q2 := HRb.out.at (j := 2) rfl
      rw [hP] at HSt HTt
      have hwd := widthI_le r.kind
      obtain ⟨wd, hwd'⟩ : ∃ wd, widthI r.kind = wd := ⟨_, rfl⟩
      rw [hwd'] at hwd
      have hsub : IntKind.i64.wrap ((L : Int) - (wd : Int)) = (L : Int) - (wd : Int) := IntWalk.i64_in _ (by omega)
      have HWd := Hd.mk (fun w => rwidth10_any r.kind w)
      rw [hwd'] at HWd
      have HIn := Hd.mk (fun w => rin_any r.kind 0 12 w)
      have hms : R - (intOf (.int .i64 ((j : Int) + 1))).toNat < R - (intOf (.int .i64 (j : Int))).toNat := by simp [intOf]; omega
      have hw1 : IntKind.i64.wrap ((j : Int) + 1) = (j : Int) + 1 := IntWalk.i64_in _ (by omega)
      clear hc HB hP hr
      rcases hH : relHit r (k : Int) P.length with _ | _
      · have HSt2 : Hd (t.data.toList = plainL (k : Int) (o.rels.take (j + 1)) s.bytes.data.toList) := ⟨by rw [HSt.out, HTt.out]; unfold plainStep; rw [hH]; rfl⟩
        have hno := of_decide_eq_false hH
        clear HSt hH
        by_cases d1 : r.sec = (k : Int)
        · rw [d1] at r0 q0 hwr2
          have hd1 := Hd.mk d1
          clear d1
          by_cases d2 : 0 ≤ r.kind ∧ r.kind < 13
          · rw [decide_eq_true (show 0 ≤ r.kind ∧ r.kind ≤ 12 by omega)] at HIn
            by_cases d3 : r.at_ < 0
            · clear hno
              go_wp2_with fail
              refine (HWd.out _).mono ?_; rintro e w4 ⟨rfl, rfl⟩
              go_wp2_with fail
              refine (HIn.out _).mono ?_; rintro e w4 ⟨rfl, rfl⟩
              go_wp2
              go_roundw
              case rel => exact ⟨j + 1, t, hlt, by go_num, rfl, HSt2, HB2⟩
              case measure => exact hms
            · have d4 : (L : Int) - (wd : Int) < r.at_ := by
                rw [hPl, hwd'] at hno
                rcases Int.lt_or_le ((L : Int) - (wd : Int)) r.at_ with h | h
                · exact h
                · exact absurd ⟨hd1.out, d2, by omega, h⟩ hno
              clear hno
              go_wp2_with fail
              refine (HWd.out _).mono ?_; rintro e w4 ⟨rfl, rfl⟩
              go_wp2_with fail
              refine (HIn.out _).mono ?_; rintro e w4 ⟨rfl, rfl⟩
              go_wp2
              go_roundw
              case rel => exact ⟨j + 1, t, hlt, by go_num, rfl, HSt2, HB2⟩
              case measure => exact hms
          · rw [decide_eq_false (show ¬ (0 ≤ r.kind ∧ r.kind ≤ 12) by omega)] at HIn
            clear hno
            go_wp2_with fail
            refine (HWd.out _).mono ?_; rintro e w4 ⟨rfl, rfl⟩
            go_wp2_with fail
            refine (HIn.out _).mono ?_; rintro e w4 ⟨rfl, rfl⟩
            go_wp2
            go_roundw
            case rel => exact ⟨j + 1, t, hlt, by go_num, rfl, HSt2, HB2⟩
            case measure => exact hms
        · have d1' : (r.sec == (k : Int)) = false := by simpa using d1
          clear hno
          go_wp2_with fail
          refine (HWd.out _).mono ?_; rintro e w4 ⟨rfl, rfl⟩
          go_wp2
          go_roundw
          case rel => exact ⟨j + 1, t, hlt, by go_num, rfl, HSt2, HB2⟩
          case measure => exact hms
      · have hle := relHit_le hH
        have hyes := of_decide_eq_true hH
        have HSt2 : Hd (plainL (k : Int) (o.rels.take (j + 1)) s.bytes.data.toList = zeroAt P (relFrom r) (relTo r)) := ⟨by rw [HSt.out]; unfold plainStep; rw [hH]; rfl⟩
        obtain ⟨a, ha⟩ : ∃ a, r.at_.toNat = a := ⟨_, rfl⟩
        have hra : r.at_ = (a : Int) := by rw [hle.2.2.2, ha]
        have hto : relTo r = a + wd := by unfold relTo; rw [ha, hwd']
        rw [hyes.1] at r0 q0 hwr2
        rw [decide_eq_true (show 0 ≤ r.kind ∧ r.kind ≤ 12 by have := hyes.2.1; omega)] at HIn
        have d4 : ¬ (L : Int) - (wd : Int) < (a : Int) := by have := hyes.2.2.2; rw [hPl, hwd', hra] at this; omega
        have hto2 : a + wd ≤ L := by have := hle.2.1; rw [hto, hPl] at this; exact this
        obtain ⟨z, hz⟩ : ∃ z, a + wd = z := ⟨_, rfl⟩
        have e1 : IntKind.i64.wrap ((a : Int) + (wd : Int)) = (z : Int) := (IntWalk.i64_in _ (by omega)).trans (by omega)
        have e2 : (a : Int) + (wd : Int) = (z : Int) := by omega
        have e3 : IntKind.i64.wrap (z : Int) = (z : Int) := IntWalk.i64_in _ (by omega)
        rw [hz] at hto hto2
        rw [hra] at q1 r1 hwr2
        have HCo := Hd.mk (fun w => rcode10_any r.kind w)
        have hw4 : IntKind.i64.wrap ((a : Int) + 4) = (a : Int) + 4 := IntWalk.i64_in _ (by omega)
        obtain ⟨f, hf⟩ : ∃ f, relFrom r = f := ⟨_, rfl⟩
        have hfz : f ≤ z := by rw [← hf, ← hto]; exact hle.1
        have hfc : (codeB r.kind = false ∧ f = a) ∨ (codeB r.kind = true ∧ f = a + 4) := by
          unfold relFrom at hf
          rcases hc : codeB r.kind with _ | _
          · rw [hc, ha] at hf; exact .inl ⟨rfl, by rw [← hf]; rfl⟩
          · rw [hc, ha] at hf; exact .inr ⟨rfl, by rw [← hf]; rfl⟩
        rw [hf, hto] at HSt2
        have HT0 : Hd (t.data.toList = zeroAt P f f) := ⟨by rw [zeroAt_self]; exact HTt.out⟩
        have HQ1 := Hd.mk (And.intro q1 (HRb.out))
        clear hle hyes hH HSt hra ha hf hto
        rcases hfc with ⟨hcd, rfl⟩ | ⟨hcd, rfl⟩
        · rw [hcd] at HCo
          go_wp2_with fail
          refine (HWd.out _).mono ?_; rintro e w4 ⟨rfl, rfl⟩
          go_wp2_with fail
          refine (HIn.out _).mono ?_; rintro e w4 ⟨rfl, rfl⟩
          go_wp2_with fail
          refine (HCo.out _).mono ?_; rintro e w4 ⟨rfl, rfl⟩
          go_wp2
          go_loopw [5, 10] (fun sv kv wi => ∃ (m : Nat) (t' : ByteArray), f ≤ m ∧ m ≤ z ∧ kv = .int .i64 m ∧ sv = .string t' ∧ Hd (t'.data.toList = zeroAt P f m) ∧ Hd (Below wr2.heap.size wr2 wi)) (fun _ kv _ => z - (intOf kv).toNat)
          case atStart => exact ⟨f, t, Nat.le_refl _, hfz, by go_num, rfl, HT0, ⟨Below.refl _ _⟩⟩
          case round =>
            clear q0 q1 q2 r0 r1 r2 r3 r4 hwr2
            obtain ⟨m, t', hm, hmz, rfl, rfl, HT', HBi⟩ := hrel
            have q1' := (HRb.out.below HBi.out HRb.out.lt).at (j := 1) rfl
            have q1'' : wr.cell? ⟨rb, 1, none⟩ = some (.int .i64 (f : Int)) := by rw [q1', ← HQ1.out.1, HRb.out.at (j := 1) rfl]
            clear q1'
            have htl' : t'.size = L := by
              have h1 : t'.size = t'.data.toList.length := by simp
              rw [h1, HT'.out, zeroAt_len hm (by rw [hPl]; omega), hPl]
            by_cases hlt2 : m < z
            · have hstep := Hd.mk (zero_string t' P _ m hm (by rw [hPl]; omega) HT'.out)
              have hw2 : IntKind.i64.wrap ((m : Int) + 1) = (m : Int) + 1 := IntWalk.i64_in _ (by omega)
              have HL2 := Hd.mk hlt2
              have hms2 : z - (intOf (.int .i64 ((m : Int) + 1))).toNat < z - (intOf (.int .i64 (m : Int))).toNat := by simp [intOf]; omega
              have hml : m ≤ t'.size := by omega
              have hml2 : m + 1 ≤ t'.size := by omega
              have hml3 : (m : Int) + 1 ≤ (t'.size : Int) := by omega
              have hml9 : ¬ 9223372036854775807 < t'.size := by omega
              have hml7 : (0 : Int) ≤ (m : Int) + 1 := by omega
              have hml8 : ((m : Int) + 1).toNat = m + 1 := by omega
              have hml4 : min m t'.size = m := by omega
              have hml5 : ¬ 9223372036854775807 < m + 1 := by omega
              have hml6 : ¬ 9223372036854775807 < m + 1 + (t'.size - (m + 1)) := by omega
              clear hwd hsub hto2 d4 hT0 htl' hLb hPl htl hL
              go_wp2_with fail
              refine wp_region_quiet_below (by kernel_rfl) (by kernel_rfl) ?_
              repeat (quiet_step (fail))
              refine wpQuiet_nil ?_
              intro _ hw'
              obtain ⟨⟨dq, osq⟩, hw''⟩ := hw'
              dsimp only at hw''
              have HE : Hd (Below wr2.heap.size wr2 (grow (redrawn wr dq) osq)) := ⟨below_next HBi.out (below_regrown wr dq osq)⟩
              rw [← hw''] at HE
              clear hw''
              go_wp2
              go_roundw
              case rel => exact ⟨m + 1, _, by omega, HL2.out, by go_num, rfl, hstep, HE⟩
              case measure => exact hms2
            · have hmz' : m = z := by omega
              subst hmz'
              have HE2 : Hd (t'.data.toList = plainL (k : Int) (o.rels.take (j + 1)) s.bytes.data.toList) := ⟨by rw [HT'.out, HSt2.out]⟩
              have HB3 : Hd (Below wb.heap.size wb wr) := ⟨below_next HB2.out HBi.out⟩
              clear hwd hsub hto2 d4 hT0
              go_wp2
              go_roundw
              case rel => exact ⟨j + 1, t', hlt, by go_num, rfl, HE2, HB3⟩
              case measure => exact hms
        · rw [hcd] at HCo
          go_wp2_with fail
          refine (HWd.out _).mono ?_; rintro e w4 ⟨rfl, rfl⟩
          go_wp2_with fail
          refine (HIn.out _).mono ?_; rintro e w4 ⟨rfl, rfl⟩
          go_wp2_with fail
          refine (HCo.out _).mono ?_; rintro e w4 ⟨rfl, rfl⟩
          go_wp2
          go_loopw [5, 10] (fun sv kv wi => ∃ (m : Nat) (t' : ByteArray), a + 4 ≤ m ∧ m ≤ z ∧ kv = .int .i64 m ∧ sv = .string t' ∧ Hd (t'.data.toList = zeroAt P (a + 4) m) ∧ Hd (Below wr2.heap.size wr2 wi)) (fun _ kv _ => z - (intOf kv).toNat)
          case atStart => exact ⟨a + 4, t, Nat.le_refl _, hfz, by go_num, rfl, HT0, ⟨Below.refl _ _⟩⟩
          case round =>
            clear q0 q1 q2 r0 r1 r2 r3 r4 hwr2
            obtain ⟨m, t', hm, hmz, rfl, rfl, HT', HBi⟩ := hrel
            have q1' := (HRb.out.below HBi.out HRb.out.lt).at (j := 1) rfl
            have q1'' : wr.cell? ⟨rb, 1, none⟩ = some (.int .i64 (a : Int)) := by rw [q1', ← HQ1.out.1, HRb.out.at (j := 1) rfl]
            clear q1'
            have htl' : t'.size = L := by
              have h1 : t'.size = t'.data.toList.length := by simp
              rw [h1, HT'.out, zeroAt_len hm (by rw [hPl]; omega), hPl]
            by_cases hlt2 : m < z
            · have hstep := Hd.mk (zero_string t' P _ m hm (by rw [hPl]; omega) HT'.out)
              have hw2 : IntKind.i64.wrap ((m : Int) + 1) = (m : Int) + 1 := IntWalk.i64_in _ (by omega)
              have HL2 := Hd.mk hlt2
              have hms2 : z - (intOf (.int .i64 ((m : Int) + 1))).toNat < z - (intOf (.int .i64 (m : Int))).toNat := by simp [intOf]; omega
              have hml : m ≤ t'.size := by omega
              have hml2 : m + 1 ≤ t'.size := by omega
              have hml3 : (m : Int) + 1 ≤ (t'.size : Int) := by omega
              have hml9 : ¬ 9223372036854775807 < t'.size := by omega
              have hml7 : (0 : Int) ≤ (m : Int) + 1 := by omega
              have hml8 : ((m : Int) + 1).toNat = m + 1 := by omega
              have hml4 : min m t'.size = m := by omega
              have hml5 : ¬ 9223372036854775807 < m + 1 := by omega
              have hml6 : ¬ 9223372036854775807 < m + 1 + (t'.size - (m + 1)) := by omega
              clear hwd hsub hto2 d4 hT0 htl' hLb hPl htl hL
              go_wp2_with fail
              refine wp_region_quiet_below (by kernel_rfl) (by kernel_rfl) ?_
              repeat (quiet_step (fail))
              refine wpQuiet_nil ?_
              intro _ hw'
              obtain ⟨⟨dq, osq⟩, hw''⟩ := hw'
              dsimp only at hw''
              have HE : Hd (Below wr2.heap.size wr2 (grow (redrawn wr dq) osq)) := ⟨below_next HBi.out (below_regrown wr dq osq)⟩
              rw [← hw''] at HE
              clear hw''
              go_wp2
              go_roundw
              case rel => exact ⟨m + 1, _, by omega, HL2.out, by go_num, rfl, hstep, HE⟩
              case measure => exact hms2
            · have hmz' : m = z := by omega
              subst hmz'
              have HE2 : Hd (t'.data.toList = plainL (k : Int) (o.rels.take (j + 1)) s.bytes.data.toList) := ⟨by rw [HT'.out, HSt2.out]⟩
              have HB3 : Hd (Below wb.heap.size wb wr) := ⟨below_next HB2.out HBi.out⟩
              clear hwd hsub hto2 d4 hT0
              go_wp2
              go_roundw
              case rel => exact ⟨j + 1, t', hlt, by go_num, rfl, HE2, HB3⟩
              case measure => exact hms
    · have hjR : j = R := by omega
      subst hjR
      have hd : decide ((j : Int) < (j : Int)) = false := by simp
      have hfin : t = fs := by
        rw [← HFs.out]
        apply ByteArray.ext
        have := HTt.out
        rw [← HNR.out.2, List.take_length] at this
        rw [← this]
      rw [hfin]
      clear hfin
      go_wp2
      go_ret
      exact ⟨rfl, HWr.out⟩

end Go.Proofs.YtimbhnnidohmaaaDoor.W
