/-
  The walk of group.Keep.
-/
import Derived.Test.YtimbhnnidohmaaaDoorGrp5
namespace Go.Proofs.YtimbhnnidohmaaaDoor.W
open Go.RowKit
set_option linter.unusedVariables false

theorem Own.any {w : World} {B : Nat} {e : TypeId} {v : Value} {xs : List Value} (h : Own w B e v xs) : ∃ p c, v = .slice p xs.length c := by
  rcases h.is with ⟨rfl, rfl⟩ | ⟨g, cap, rfl, _⟩
  · exact ⟨none, 0, rfl⟩
  · exact ⟨_, cap, rfl⟩
theorem Blk.obj {w : World} {b : Nat} {o : Ob} {x1 x2 x3 x4 x5 x6 x7 x8 x9 x10 : Value} (h : Blk w b 43 (o.cells x1 x2 x3 x4 x5 x6 x7 x8 x9 x10)) : ObCells w b 0 o x1 x2 x3 x4 x5 x6 x7 x8 x9 x10 :=
  ⟨h.at (j := 0) rfl, h.at (j := 1) rfl, h.at (j := 2) rfl, h.at (j := 3) rfl, h.at (j := 4) rfl, h.at (j := 5) rfl, h.at (j := 6) rfl, h.at (j := 7) rfl, h.at (j := 8) rfl, h.at (j := 9) rfl, h.at (j := 10) rfl⟩

set_option maxHeartbeats 8000000 in
set_option maxRecDepth 100000 in
theorem gkeep_any (w : World) (hT : Tabs w) (v : Value) (l : List Ob) (hR : Rw 11 Ob.E w v l) (hO : KeepOk l) :
    Calls Tryd.prog 9 #[v] w fun e w' => ∃ kpv dv, e = .returned (.tuple #[kpv, dv]) ∧ OSt w w' w.heap.size kpv dv (keepR l) := by
  obtain ⟨p, c, rfl⟩ := hR.slice
  have HR := Hd.mk hR
  have HO := Hd.mk hO
  have HT := Hd.mk hT
  obtain ⟨M, hM⟩ : ∃ M, l.length = M := ⟨_, rfl⟩
  have HM := Hd.mk hM
  have hMl : M ≤ 1000 := by rw [← hM]; exact hO.len
  rw [hM] at HR
  rw [hM]
  have HS0 := Hd.mk (OSt.start w)
  have hmm := @run_makeMap Tryd.prog
  obtain ⟨Mb, hMb⟩ : ∃ Mb, w.heap.size = Mb := ⟨_, rfl⟩
  have HMb := Hd.mk hMb
  rw [hMb] at HS0
  clear hR hO hT hM
  go_enter Tryd.func9, Tryd.ntmps9
  go_wp2
  go_loopw [4, 5, 21] (fun kv dv iv wr => ∃ i : Nat, i ≤ M ∧ iv = .int .i64 i ∧ Hd (OSt w wr Mb kv dv (keepR (l.take i)))) (fun _ _ iv _ => M - (intOf iv).toNat)
  case atStart => exact ⟨0, Nat.zero_le _, rfl, HS0⟩
  case round =>
    clear HS0 hmm
    obtain ⟨i, hi, rfl, HS⟩ := hrel
    obtain ⟨kpv, hkpv⟩ : ∃ kpv, u4 = kpv := ⟨_, rfl⟩
    obtain ⟨dv0, hdv0⟩ : ∃ dv0, u5 = dv0 := ⟨_, rfl⟩
    rw [hkpv, hdv0] at HS
    have hK : Below w.heap.size w wr := HS.out.K
    by_cases hlt : i < M
    · have hil : i < l.length := by rw [HM.out]; exact hlt
      obtain ⟨g, of, x1, x2, x3, x4, x5, x6, x7, x8, x9, x10, rfl, hg, hA, hC0⟩ := HR.out.obj rfl hil
      have hC := hC0.below hK hg
      clear hC0
      have hmo := List.getElem_mem hil
      have hol := Hd.mk (And.intro (HO.out.ok _ hmo) (And.intro (HO.out.secs _ hmo) (And.intro (HO.out.groups _ hmo) (And.intro (HO.out.bytes _ hmo) (HO.out.gsecs _ hmo)))))
      have HEnd := Hd.mk (midSt_end hil)
      have HLen := Hd.mk (keepR_len HO.out i (Nat.le_of_lt hil))
      have HRead := Hd.mk (fun (w' : World) (h : Below w.heap.size w w') (sv : Value) (ks : List Int) (h1 : Rw 1 intE w' sv ks) h2 h3 => gread_any w' (HT.out.below h) _ l i sv ks hil (Nat.le_trans HO.out.len (by decide)) (HR.out.below Ob.stays h) h1 h2 h3 (HO.out.ok _ hmo) (HO.out.bytes _ hmo))
      obtain ⟨o, ho⟩ : ∃ o, l[i] = o := ⟨_, rfl⟩
      rw [ho] at hA hC hol HEnd HRead
      obtain ⟨p1, c1, rfl⟩ := hA.secs.slice
      obtain ⟨p4, c4, rfl⟩ := hA.groups.slice
      obtain ⟨x2, hx2, p2, c2, n2, rfl⟩ : ∃ y, x2 = y ∧ ∃ p c n, y = .slice p n c := ⟨_, rfl, by obtain ⟨p, c, h⟩ := hA.syms.slice; exact ⟨p, c, _, h⟩⟩
      obtain ⟨x3, hx3, p3, c3, n3, rfl⟩ : ∃ y, x3 = y ∧ ∃ p c n, y = .slice p n c := ⟨_, rfl, by obtain ⟨p, c, h⟩ := hA.rels.slice; exact ⟨p, c, _, h⟩⟩
      obtain ⟨x5, hx5, p5, c5, n5, rfl⟩ : ∃ y, x5 = y ∧ ∃ p c n, y = .slice p n c := ⟨_, rfl, by obtain ⟨p, c, h⟩ := hA.inits.slice; exact ⟨p, c, _, h⟩⟩
      obtain ⟨x6, hx6, p6, c6, n6, rfl⟩ : ∃ y, x6 = y ∧ ∃ p c n, y = .slice p n c := ⟨_, rfl, by obtain ⟨p, c, h⟩ := hA.lines.slice; exact ⟨p, c, _, h⟩⟩
      obtain ⟨x7, hx7, p7, c7, n7, rfl⟩ : ∃ y, x7 = y ∧ ∃ p c n, y = .slice p n c := ⟨_, rfl, by obtain ⟨p, c, h⟩ := hA.inlines.slice; exact ⟨p, c, _, h⟩⟩
      obtain ⟨x8, hx8, p8, c8, n8, rfl⟩ : ∃ y, x8 = y ∧ ∃ p c n, y = .slice p n c := ⟨_, rfl, by obtain ⟨p, c, h⟩ := hA.vars.slice; exact ⟨p, c, _, h⟩⟩
      obtain ⟨x9, hx9, p9, c9, n9, rfl⟩ : ∃ y, x9 = y ∧ ∃ p c n, y = .slice p n c := ⟨_, rfl, by obtain ⟨p, c, h⟩ := hA.depths.slice; exact ⟨p, c, _, h⟩⟩
      obtain ⟨x10, hx10, p10, c10, n10, rfl⟩ : ∃ y, x10 = y ∧ ∃ p c n, y = .slice p n c := ⟨_, rfl, by obtain ⟨p, c, h⟩ := hA.converts.slice; exact ⟨p, c, _, h⟩⟩
      subst hx2 hx3 hx5 hx6 hx7 hx8 hx9 hx10
      obtain ⟨N, hN⟩ : ∃ N, o.secs.length = N := ⟨_, rfl⟩
      obtain ⟨G, hG⟩ : ∃ G, o.groups.length = G := ⟨_, rfl⟩
      have HNG := Hd.mk (And.intro hN hG)
      rw [hN, hG] at hA hC
      have HA := Hd.mk hA
      have hNl : N ≤ 1000 := by rw [← hN]; exact hol.out.2.1
      have hGl : G ≤ 1000 := by rw [← hG]; exact hol.out.2.2.1
      have hms : M - (intOf (.int .i64 ((i : Int) + 1))).toNat < M - (intOf (.int .i64 (i : Int))).toNat := by simp [intOf]; omega
      obtain ⟨d0, d1, d2, d3, d4, d5, d6, d7, d8, d9, d10⟩ := hC
      have hiM : (i : Int) < (M : Int) := by omega
      clear hA ho hN hG hmo hg
      go_upto_region 7 with (fail)
      obtain ⟨w2, hw2⟩ : ∃ w2, wr.alloc (.cells #[.string o.name, .slice p1 N c1, .slice p2 n2 c2, .slice p3 n3 c3, .slice p4 G c4, .slice p5 n5 c5, .slice p6 n6 c6, .slice p7 n7 c7, .slice p8 n8 c8, .slice p9 n9 c9, .slice p10 n10 c10] 43) = w2 := ⟨_, rfl⟩
      have HOb : Hd (Blk w2 wr.heap.size 43 (o.cells (.slice p1 N c1) (.slice p2 n2 c2) (.slice p3 n3 c3) (.slice p4 G c4) (.slice p5 n5 c5) (.slice p6 n6 c6) (.slice p7 n7 c7) (.slice p8 n8 c8) (.slice p9 n9 c9) (.slice p10 n10 c10))) := ⟨hw2 ▸ Blk.new wr 43 (o.cells (.slice p1 N c1) (.slice p2 n2 c2) (.slice p3 n3 c3) (.slice p4 G c4) (.slice p5 n5 c5) (.slice p6 n6 c6) (.slice p7 n7 c7) (.slice p8 n8 c8) (.slice p9 n9 c9) (.slice p10 n10 c10))⟩
      have HK2 : Hd (Keeps (fun _ => False) wr w2) := ⟨hw2 ▸ (Keeps.refl (fun _ => False) wr).alloc _⟩
      obtain ⟨ob, hob⟩ : ∃ ob, wr.heap.size = ob := ⟨_, rfl⟩
      have HObs := Hd.mk hob
      rw [hob] at HOb
      rw [hob]
      obtain ⟨w3, hw3⟩ : ∃ w3, w2.alloc (.cells #[.bool true] 4) = w3 := ⟨_, rfl⟩
      have HK3 : Hd (Keeps (fun _ => False) wr w3) := ⟨hw3 ▸ HK2.out.alloc _⟩
      have hcT : w3.cell? ⟨w2.heap.size, 0, none⟩ = some (.bool true) := by rw [← hw3]; exact (Blk.new w2 4 [.bool true]).at (j := 0) rfl
      have HOb3 : Hd (Blk w3 ob 43 (o.cells (.slice p1 N c1) (.slice p2 n2 c2) (.slice p3 n3 c3) (.slice p4 G c4) (.slice p5 n5 c5) (.slice p6 n6 c6) (.slice p7 n7 c7) (.slice p8 n8 c8) (.slice p9 n9 c9) (.slice p10 n10 c10))) := ⟨hw3 ▸ HOb.out.alloc _⟩
      have HRep := Hd.mk (repeat_any w3 w2.heap.size N (by omega) hcT)
      obtain ⟨e0, e1, e2, e3, e4, e5, e6, e7, e8, e9, e10⟩ := HOb3.out.obj
      simp only [Nat.zero_add] at e1
      clear d0 d1 d2 d3 d4 d5 d6 d7 d8 d9 d10 hcT e0 e2 e3 e4 e5 e6 e7 e8 e9 e10
      go_wp2_with fail
      refine HRep.out.mono ?_
      rintro e w4 ⟨kpt, rfl, hOk, hb4⟩
      have HK4 : Hd (Keeps (fun _ => False) wr w4) := ⟨HK3.out.trans (below_keeps hb4)⟩
      have HM0 : Hd (MSt wr w4 Mb ob (o.cells (.slice p1 N c1) (.slice p2 n2 c2) (.slice p3 n3 c3) (.slice p4 G c4) (.slice p5 n5 c5) (.slice p6 n6 c6) (.slice p7 n7 c7) (.slice p8 n8 c8) (.slice p9 n9 c9) (.slice p10 n10 c10)) dv0 kpt dv0 (midSt l i o 0)) := ⟨by
        rw [midSt_zero, HNG.out.1]
        exact HS.out.begin HK4.out ((below_keeps hb4).blk HOb3.out (fun h => h)) (by rw [HObs.out]; exact Nat.le_refl _) (hOk.down HK3.out.size)⟩
      have q4 := HM0.out.o.obj.c4
      simp only [Nat.zero_add] at q4
      clear hOk hb4 HRep HOb HOb3 HK2 HK3 e1
      obtain ⟨wi, hwi⟩ : ∃ wi, wi = wr := ⟨_, rfl⟩
      subst hwi
      go_wp2
      go_loopw [5, 34] (fun dv jv wr => ∃ j : Nat, j ≤ G ∧ jv = .int .i64 j ∧ Hd (MSt wi wr Mb ob (o.cells (.slice p1 N c1) (.slice p2 n2 c2) (.slice p3 n3 c3) (.slice p4 G c4) (.slice p5 n5 c5) (.slice p6 n6 c6) (.slice p7 n7 c7) (.slice p8 n8 c8) (.slice p9 n9 c9) (.slice p10 n10 c10)) dv0 kpt dv (midSt l i o j))) (fun _ jv _ => G - (intOf jv).toNat)
      case atStart => exact ⟨0, Nat.zero_le _, rfl, hdv0 ▸ HM0⟩
      case round =>
        clear HM0 q4
        obtain ⟨j, hj, rfl, HMj⟩ := hrel
        have HBw : Hd (Below w.heap.size w wr) := ⟨HS.out.K.trans (HMj.out.K.below HS.out.K.size (fun x hx e => by
          rcases e with rfl | e
          · have := HS.out.hm; omega
          · have := HS.out.db x e; omega))⟩
        by_cases hlt2 : j < G
        · have hjl : j < o.groups.length := by rw [HNG.out.2]; exact hlt2
          obtain ⟨gg, og, cs, rfl, hgg, _, hE, hcg⟩ := HA.out.groups.at rfl (j := j) hjl
          have HStep := Hd.mk (midSt_step (l := l) (i := i) hjl)
          have hgl := hol.out.2.2.2.2 _ (List.getElem_mem hjl)
          have hgok := hol.out.1.groupsI _ (List.getElem_mem hjl)
          obtain ⟨gr, hgr⟩ : ∃ gr, o.groups[j] = gr := ⟨_, rfl⟩
          rw [hgr] at hE HStep hgl hgok
          obtain ⟨gv, rfl, hgA⟩ := hE
          have HGA := Hd.mk hgA
          obtain ⟨pg, cg, rfl⟩ := hgA.secs.slice
          have gc0 : wr.cell? ⟨gg, og + j * 2, none⟩ = some (.string gr.name) := by rw [HBw.out.cell (p := ⟨gg, og + j * 2, none⟩) hgg]; exact hcg 0 _ rfl
          have gc1 : wr.cell? ⟨gg, og + j * 2 + 1, none⟩ = some (.slice pg gr.secs.length cg) := by rw [HBw.out.cell (p := ⟨gg, og + j * 2 + 1, none⟩) hgg]; exact hcg 1 _ rfl
          have HGl := Hd.mk (And.intro hgl hgok)
          have hms2 : G - (intOf (.int .i64 ((j : Int) + 1))).toNat < G - (intOf (.int .i64 (j : Int))).toNat := by simp [intOf]; omega
          have hML := Hd.mk (midSt_len l i o j (by rw [HNG.out.2]; exact hj))
          have HML := Hd.mk (midSt_len l i o j (by rw [HNG.out.2]; exact hj))
          have hjG : (j : Int) < (G : Int) := by omega
          clear hcg hgg hgA hgr hgl hgok
          go_upto_region 11 with (fail)
          obtain ⟨LG, hLG⟩ : ∃ LG, gr.secs.length = LG := ⟨_, rfl⟩
          have HLG := Hd.mk hLG
          rw [hLG] at gc1 HGA
          rw [hLG]
          obtain ⟨w5, hw5⟩ : ∃ w5, wr.alloc (.cells #[.string gr.name, .slice pg LG cg] 47) = w5 := ⟨_, rfl⟩
          have HGb : Hd (Blk w5 wr.heap.size 47 [.string gr.name, .slice pg LG cg]) := ⟨hw5 ▸ Blk.new wr 47 _⟩
          have HK5 : Hd (Keeps (fun _ => False) wr w5) := ⟨hw5 ▸ (Keeps.refl (fun _ => False) wr).alloc _⟩
          have HB5 : Hd (Below w.heap.size w w5) := ⟨below_next HBw.out (keeps_below HK5.out)⟩
          obtain ⟨gb, hgb⟩ : ∃ gb, wr.heap.size = gb := ⟨_, rfl⟩
          rw [hgb] at HGb
          rw [hgb]
          have HM5 := Hd.mk (HMj.out.next HK5.out)
          obtain ⟨e0, e1, e2, e3, e4, e5, e6, e7, e8, e9, e10⟩ := HM5.out.o.obj
          simp only [Nat.zero_add] at e1 e2 e3 e4 e5 e6 e7 e8 e9 e10
          have gb0 := HGb.out.at (j := 0) rfl
          have gb1 := HGb.out.at (j := 1) rfl
          have HSec := Hd.mk (gsections_any w5 o _ _ _ _ _ _ _ _ _ _ gr (.slice pg LG cg) (HA.out.below HB5.out) (HGA.out.below HB5.out) (by have := HGl.out.1; omega))
          have hcs : (o.cells (.slice p1 N c1) (.slice p2 n2 c2) (.slice p3 n3 c3) (.slice (some ⟨gg, og, none⟩) G c4) (.slice p5 n5 c5) (.slice p6 n6 c6) (.slice p7 n7 c7) (.slice p8 n8 c8) (.slice p9 n9 c9) (.slice p10 n10 c10)).toArray = #[.string o.name, .slice p1 N c1, .slice p2 n2 c2, .slice p3 n3 c3, .slice (some ⟨gg, og, none⟩) G c4, .slice p5 n5 c5, .slice p6 n6 c6, .slice p7 n7 c7, .slice p8 n8 c8, .slice p9 n9 c9, .slice p10 n10 c10] := rfl
          have hgs : (gr.cells (.slice pg LG cg)).toArray = #[.string gr.name, .slice pg LG cg] := rfl
          rw [hcs, hgs] at HSec
          obtain ⟨ks, hks⟩ : ∃ ks, secsOf o gr = ks := ⟨_, rfl⟩
          have HKs := Hd.mk hks
          rw [hks] at HSec
          clear gc0 gc1 hcs hgs hLG hks
          go_wp2_with fail
          refine HSec.out.mono ?_
          rintro e w6 ⟨sv, rfl, hO6, hb6⟩
          have HB6 : Hd (Below w.heap.size w w6) := ⟨below_next HB5.out hb6⟩
          have HM6 := Hd.mk (HM5.out.next (below_keeps hb6))
          have HGb6 : Hd (Blk w6 gb 47 [.string gr.name, .slice pg LG cg]) := ⟨HGb.out.below hb6 HGb.out.lt⟩
          have HO6 := Hd.mk hO6
          have HRd := Hd.mk (HRead.out w6 HB6.out sv ks (Rw.of_own_ints hO6) (fun x hx => by rw [← HKs.out] at hx; exact secsOf_in hx) (by rw [← HKs.out]; exact Nat.le_trans (secsOf_len o gr) HGl.out.1))
          obtain ⟨psv, csv, rfl⟩ := (Rw.of_own_ints hO6).slice
          obtain ⟨LK, hLK⟩ : ∃ LK, ks.length = LK := ⟨_, rfl⟩
          rw [hLK] at HRd HO6
          rw [hLK]
          have HLK := Hd.mk hLK
          clear hb6 hO6 HSec HGb HM5 e0 e1 e2 e3 e4 e5 e6 e7 e8 e9 e10 gb0 gb1 hLK
          go_wp2_with fail
          refine HRd.out.mono ?_
          rintro e w7 ⟨u7, rfl, hC7, hb7⟩
          have HB7 : Hd (Below w.heap.size w w7) := ⟨below_next HB6.out hb7⟩
          have HM7 := Hd.mk (HM6.out.next (below_keeps hb7))
          have HGb7 : Hd (Blk w7 gb 47 [.string gr.name, .slice pg LG cg]) := ⟨HGb6.out.below hb7 HGb6.out.lt⟩
          have HO7 : Hd (Own w7 w5.heap.size 3 (.slice psv LK csv) (intsV ks)) := ⟨HO6.out.keeps (below_keeps hb7) (fun _ _ h => h)⟩
          have HC7 : Hd (CpAt w7 u7 (cpOf i o gr)) := ⟨by unfold cpOf; rw [HKs.out]; exact hC7⟩
          obtain ⟨nv, fv, rfl, hnv, hfv⟩ := hC7.is
          obtain ⟨pn, cn, rfl⟩ := (Rw.of_own_strs hnv).slice
          obtain ⟨pf, cf, rfl⟩ := (Rw.of_own_strs hfv).slice
          obtain ⟨ln, hln⟩ : ∃ ln, (ks.map (nameS o)).length = ln := ⟨_, rfl⟩
          obtain ⟨lf, hlf⟩ : ∃ lf, (ks.map (formS o)).length = lf := ⟨_, rfl⟩
          have hoi : (Cp.mk i (ks.map (nameS o)) (ks.map (formS o))).obj = i := rfl
          have hno : (Cp.mk i (ks.map (nameS o)) (ks.map (formS o))).names.length = ln := hln
          have hfo : (Cp.mk i (ks.map (nameS o)) (ks.map (formS o))).forms.length = lf := hlf
          rw [hoi, hno, hfo] at HC7
          rw [hoi, hno, hfo]
          clear hb7 hC7 hnv hfv hln hlf HRd HGb6 HM6 HO6 hoi hno hfo
          go_upto_region 13 with (fail)
          obtain ⟨w8, hw8⟩ : ∃ w8, w7.alloc (.cells #[.int .i64 (i : Int), .slice pn ln cn, .slice pf lf cf] 59) = w8 := ⟨_, rfl⟩
          have HK8 : Hd (Keeps (fun _ => False) w7 w8) := ⟨hw8 ▸ (Keeps.refl (fun _ => False) w7).alloc _⟩
          have HNb : Hd (Blk w8 w7.heap.size 59 [.int .i64 (i : Int), .slice pn ln cn, .slice pf lf cf]) := ⟨hw8 ▸ Blk.new w7 59 _⟩
          have HM8 := Hd.mk (HM7.out.next HK8.out)
          have HGb8 : Hd (Blk w8 gb 47 [.string gr.name, .slice pg LG cg]) := ⟨HK8.out.blk HGb7.out (fun h => h)⟩
          have HO8 : Hd (Own w8 w5.heap.size 3 (.slice psv LK csv) (intsV ks)) := ⟨HO7.out.keeps HK8.out (fun _ _ h => h)⟩
          have HC8 := Hd.mk (HC7.out.below (keeps_below HK8.out))
          obtain ⟨nb, hnb⟩ : ∃ nb, w7.heap.size = nb := ⟨_, rfl⟩
          rw [hnb] at HNb
          rw [hnb]
          obtain ⟨kv, hM8, hSeen⟩ := HM8.out.m
          have hnl : gr.name.size ≤ maxLen := by have := HGl.out.2.name; unfold lenR at this; unfold maxLen; omega
          have hlook := hM8.look Tryd.underlying54 (gcopied_zero w8) gr.name hnl
          have HNl := Hd.mk hnl
          have gb0 := HGb8.out.at (j := 0) rfl
          clear HM7 HGb7 HO7 HC7 HK8 hnl
          rcases hSeen.look gr.name with ⟨hcn, hvn⟩ | ⟨c0, v0, hcs, hvs, hcp⟩
          · have HCn := Hd.mk hcn
            rw [hvn] at hlook
            simp only [Option.getD_none, Option.isSome_none] at hlook
            clear hcn hvn hSeen hM8
            go_upto_region 15 with (fail)
            obtain ⟨w9, hw9⟩ : ∃ w9, w8.alloc (.cells #[.int .i64 0, .slice none 0 0, .slice none 0 0] 59) = w9 := ⟨_, rfl⟩
            have HK9 : Hd (Keeps (fun _ => False) w8 w9) := ⟨hw9 ▸ (Keeps.refl (fun _ => False) w8).alloc _⟩
            have HNb9 : Hd (Blk w9 nb 59 [.int .i64 (i : Int), .slice pn ln cn, .slice pf lf cf]) := ⟨HK9.out.blk HNb.out (fun h => h)⟩
            have gb9 := (HK9.out.blk HGb8.out (fun h => h)).at (j := 0) rfl
            have nb0 := HNb9.out.at (j := 0) rfl
            have nb1 := HNb9.out.at (j := 1) rfl
            have nb2 := HNb9.out.at (j := 2) rfl
            obtain ⟨w10, hmu, hM10⟩ := (HM8.out.next HK9.out).note (HC8.out.below (keeps_below HK9.out)) gr.name HNl.out (by have := HML.out.1; have := HLen.out.1; omega) HCn.out
            have HM10 : Hd (MSt wi w10 Mb ob (o.cells (.slice p1 N c1) (.slice p2 n2 c2) (.slice p3 n3 c3) (.slice (some ⟨gg, og, none⟩) G c4) (.slice p5 n5 c5) (.slice p6 n6 c6) (.slice p7 n7 c7) (.slice p8 n8 c8) (.slice p9 n9 c9) (.slice p10 n10 c10)) dv0 kpt u5 (midSt l i o (j + 1))) := ⟨by
              rw [HStep.out]
              unfold grpStep
              rw [HCn.out]
              exact hM10⟩
            clear gb0 hM10 hlook HM8
            go_wp2
            go_roundw
            case rel => exact ⟨j + 1, hlt2, by go_num, HM10⟩
            case measure => exact hms2
          · have HCs := Hd.mk hcs
            have HCp := Hd.mk hcp
            rw [hvs] at hlook
            simp only [Option.getD_some, Option.isSome_some] at hlook
            obtain ⟨nv0, fv0, rfl, hnv0, hfv0⟩ := hcp.is
            obtain ⟨pn0, cn0, rfl⟩ := (Rw.of_own_strs hnv0).slice
            obtain ⟨pf0, cf0, rfl⟩ := (Rw.of_own_strs hfv0).slice
            clear hcs hvs hSeen hM8 hcp hnv0 hfv0
            go_upto_region 16 with (fail)
            obtain ⟨ln0, hln0⟩ : ∃ ln0, c0.names.length = ln0 := ⟨_, rfl⟩
            obtain ⟨lf0, hlf0⟩ : ∃ lf0, c0.forms.length = lf0 := ⟨_, rfl⟩
            obtain ⟨q0, hq0⟩ : ∃ q0, c0.obj = q0 := ⟨_, rfl⟩
            have HQ0 := Hd.mk hq0
            rw [hln0, hlf0, hq0] at HCp
            rw [hln0, hlf0, hq0]
            obtain ⟨w9, hw9⟩ : ∃ w9, w8.alloc (.cells #[.int .i64 (q0 : Int), .slice pn0 ln0 cn0, .slice pf0 lf0 cf0] 59) = w9 := ⟨_, rfl⟩
            have HK9 : Hd (Keeps (fun _ => False) w8 w9) := ⟨hw9 ▸ (Keeps.refl (fun _ => False) w8).alloc _⟩
            have HNb9 : Hd (Blk w9 nb 59 [.int .i64 (i : Int), .slice pn ln cn, .slice pf lf cf]) := ⟨HK9.out.blk HNb.out (fun h => h)⟩
            have HGb9 : Hd (Blk w9 gb 47 [.string gr.name, .slice pg LG cg]) := ⟨HK9.out.blk HGb8.out (fun h => h)⟩
            have HOb9 : Hd (Blk w9 w8.heap.size 59 [.int .i64 (q0 : Int), .slice pn0 ln0 cn0, .slice pf0 lf0 cf0]) := ⟨hw9 ▸ Blk.new w8 59 _⟩
            have HC9 := Hd.mk (HC8.out.below (keeps_below HK9.out))
            have HCp9 := Hd.mk (HCp.out.below (keeps_below HK9.out))
            have HO9 : Hd (Own w9 w5.heap.size 3 (.slice psv LK csv) (intsV ks)) := ⟨HO8.out.keeps HK9.out (fun _ _ h => h)⟩
            have HM9 := Hd.mk (HM8.out.next HK9.out)
            have hLKb : LK ≤ 1000 := by rw [← HLK.out, ← HKs.out]; exact Nat.le_trans (secsOf_len o gr) HGl.out.1
            obtain ⟨ob9, hob9⟩ : ∃ ob9, w8.heap.size = ob9 := ⟨_, rfl⟩
            rw [hob9] at HOb9
            rw [hob9]
            obtain ⟨σ, hσ⟩ : ∃ σ, midSt l i o j = σ := ⟨_, rfl⟩
            have HKl := Hd.mk (midSt_kept_len l i o j (by rw [HNG.out.2]; exact hj))
            rw [hσ] at HM9 HStep HML HKl HCs HMj
            clear HM8 HC8 HCp HO8 HNb HGb8 hlook gb0 hln0 hlf0 hq0 hσ
            go_wp2
            go_loopw [60] (fun mv wr => ∃ m : Nat, m ≤ LK ∧ mv = .int .i64 m ∧ Hd (MSt wi wr Mb ob (o.cells (.slice p1 N c1) (.slice p2 n2 c2) (.slice p3 n3 c3) (.slice (some ⟨gg, og, none⟩) G c4) (.slice p5 n5 c5) (.slice p6 n6 c6) (.slice p7 n7 c7) (.slice p8 n8 c8) (.slice p9 n9 c9) (.slice p10 n10 c10)) dv0 kpt u5 { σ with kept := dropAll σ.kept (ks.take m) }) ∧ Hd (Keeps (fun x => kpt.ownBlock = some x) w9 wr)) (fun mv _ => LK - (intOf mv).toNat)
            case atStart => exact ⟨0, Nat.zero_le _, rfl, HM9, ⟨Keeps.refl _ _⟩⟩
            case round =>
              have HM9k := Hd.mk HM9.out.k
              clear HM9 hw9
              obtain ⟨m, hm, rfl, HMm, HKm⟩ := hrel
              by_cases hlt3 : m < LK
              · have hml : m < ks.length := by rw [HLK.out]; exact hlt3
                have hsin := secsOf_in (o := o) (g := gr) (s := ks[m]) (by rw [HKs.out]; exact List.getElem_mem hml)
                have hdr := dropAll_take ks σ.kept m hml
                obtain ⟨gi, ci, hci⟩ := HO9.out.slice (by rw [intsV_len]; omega)
                injection hci with hci1 hci2 hci3
                subst hci1; subst hci3
                obtain ⟨curi, fzi, hbi⟩ := HO9.out.typ (g := gi) rfl
                obtain ⟨s, hs⟩ : ∃ s, ks[m] = s := ⟨_, rfl⟩
                have hcs0 := HO9.out.cellAt (intsV_at hml)
                rw [hs] at hsin hdr hcs0
                obtain ⟨k, rfl⟩ := Int.eq_ofNat_of_zero_le hsin.1
                have hkN : k < N := by have h1 := hsin.2; have h2 := HNG.out.1; omega
                have hkl : (dropAll σ.kept (ks.take m)).length = N := by rw [dropAll_len, HKl.out, HNG.out.1]
                have hbl : (boolsV ({ σ with kept := dropAll σ.kept (ks.take m) } : KSt).kept).length = N := by rw [boolsV_len]; exact hkl
                obtain ⟨gk, capk, hkp⟩ := HMm.out.k.slice (by rw [hbl]; omega)
                rw [hbl] at hkp
                subst hkp
                obtain ⟨curk, fzk, hbk⟩ := HM9k.out.typ (g := gk) rfl
                have hgne : gi ≠ gk := typ_ne hbi hbk (by decide)
                obtain ⟨bk, ck⟩ : ∃ bk, wr.cell? ⟨gk, k, none⟩ = some (.bool bk) := ⟨_, HMm.out.k.cellAt (boolsV_at (l := dropAll σ.kept (ks.take m)) (j := k) (by rw [hkl]; exact hkN))⟩
                have fk := HMm.out.k.freeAt (j := k) (by rw [hbl]; exact hkN)
                have cs0 : wr.cell? ⟨gi, m, none⟩ = some (.int .i64 (k : Int)) := by
                  rw [World.cell?_of_block (a := ⟨gi, m, none⟩) (HKm.out.block gi (typ_lt hbi) (fun e => hgne (by injection e with e; exact e.symm)))]
                  exact hcs0
                have HM2 := Hd.mk (HMm.out.strike rfl k)
                have HM3 : Hd (MSt wi (wr.setCell ⟨gk, k, none⟩ (.bool false)) Mb ob (o.cells (.slice p1 N c1) (.slice p2 n2 c2) (.slice p3 n3 c3) (.slice (some ⟨gg, og, none⟩) G c4) (.slice p5 n5 c5) (.slice p6 n6 c6) (.slice p7 n7 c7) (.slice p8 n8 c8) (.slice p9 n9 c9) (.slice p10 n10 c10)) dv0 (.slice (some ⟨gk, 0, none⟩) N capk) u5 { σ with kept := dropAll σ.kept (ks.take (m + 1)) }) := ⟨by rw [hdr]; exact HM2.out⟩
                have HK3' : Hd (Keeps (fun x => (Value.slice (some ⟨gk, 0, none⟩) N capk).ownBlock = some x) w9 (wr.setCell ⟨gk, k, none⟩ (.bool false))) := ⟨HKm.out.setCell (p := ⟨gk, k, none⟩) (.inr rfl) _⟩
                have hms3 : LK - (intOf (.int .i64 ((m : Int) + 1))).toNat < LK - (intOf (.int .i64 (m : Int))).toNat := by simp [intOf]; omega
                have hkNi : (k : Int) < (N : Int) := by omega
                have hmLi : (m : Int) < (LK : Int) := by omega
                clear HM2 hdr hs hcs0 hbi hbk hgne hkl hbl hsin hml
                go_wp2
                go_roundw
                case rel => exact ⟨m + 1, hlt3, by go_num, HM3, HK3'⟩
                case measure => exact hms3
              · have hmL : m = LK := by omega
                subst hmL
                have hd : decide ((m : Int) < (m : Int)) = false := by simp
                have hfull : ks.take m = ks := by rw [← HLK.out, List.take_length]
                rw [hfull] at HMm
                have hty : ∀ g cur e fz, e ≠ 4 → w9.heap[g]? = some (.cells cur e fz) → ¬ kpt.ownBlock = some g := fun g cur e fz he hg hx => by
                  obtain ⟨c', f', hc'⟩ := HM9k.out.typ hx
                  exact typ_ne hg hc' he rfl
                have HNbm : Hd (Blk wr nb 59 [.int .i64 (i : Int), .slice pn ln cn, .slice pf lf cf]) := ⟨HKm.out.blk HNb9.out (hty _ _ _ _ (by decide) HNb9.out.is)⟩
                have HObm : Hd (Blk wr ob9 59 [.int .i64 (q0 : Int), .slice pn0 ln0 cn0, .slice pf0 lf0 cf0]) := ⟨HKm.out.blk HOb9.out (hty _ _ _ _ (by decide) HOb9.out.is)⟩
                have HGbm : Hd (Blk wr gb 47 [.string gr.name, .slice pg LG cg]) := ⟨HKm.out.blk HGb9.out (hty _ _ _ _ (by decide) HGb9.out.is)⟩
                have HCm := Hd.mk (HC9.out.keeps HKm.out (fun g c' f' hg => hty g c' _ f' (by decide) hg))
                have HCpm := Hd.mk (HCp9.out.keeps HKm.out (fun g c' f' hg => hty g c' _ f' (by decide) hg))
                have HAl := Hd.mk (galike_any wr _ _ c0 (cpOf i o gr) HCpm.out HCm.out)
                have n0 := HNbm.out.at (j := 0) rfl
                have n1 := HNbm.out.at (j := 1) rfl
                have n2' := HNbm.out.at (j := 2) rfl
                have o0 := HObm.out.at (j := 0) rfl
                have o1 := HObm.out.at (j := 1) rfl
                have o2 := HObm.out.at (j := 2) rfl
                have hnx : Hd (midSt l i o (j + 1) = { σ with kept := dropAll σ.kept ks, differ := if alikeB c0 (cpOf i o gr) then σ.differ else σ.differ ++ [⟨gr.name, q0, i⟩] }) := ⟨by
                  rw [HStep.out]
                  unfold grpStep
                  rw [HCs.out]
                  simp only
                  rw [HKs.out, HQ0.out]⟩
                clear hty hfull HM9k HC9 HCp9
                rcases hal : alikeB c0 (cpOf i o gr) with _ | _
                · rw [hal] at HAl hnx
                  clear hal
                  go_wp2_with fail
                  refine HAl.out.mono ?_
                  rintro e w11 ⟨rfl, hb11⟩
                  have HM11 := Hd.mk (HMm.out.next (below_keeps hb11))
                  have g0 := (HGbm.out.below hb11 HGbm.out.lt).at (j := 0) rfl
                  have o0' := (HObm.out.below hb11 HObm.out.lt).at (j := 0) rfl
                  obtain ⟨p5d, c5d, hu5⟩ := HM11.out.d.slice
                  obtain ⟨ld, hld⟩ : ∃ ld, ({ σ with kept := dropAll σ.kept ks } : KSt).differ.length = ld := ⟨_, rfl⟩
                  rw [hld] at hu5
                  subst hu5
                  obtain ⟨v12, w12, hr12, hM12⟩ := HM11.out.differ ⟨gr.name, q0, i⟩ (by have := HML.out.2; have := HLen.out.2.1; show σ.differ.length ≤ _; omega)
                  have HM12 : Hd (MSt wi w12 Mb ob (o.cells (.slice p1 N c1) (.slice p2 n2 c2) (.slice p3 n3 c3) (.slice (some ⟨gg, og, none⟩) G c4) (.slice p5 n5 c5) (.slice p6 n6 c6) (.slice p7 n7 c7) (.slice p8 n8 c8) (.slice p9 n9 c9) (.slice p10 n10 c10)) dv0 kpt v12 (midSt l i o (j + 1))) := ⟨by rw [hnx.out]; exact hM12⟩
                  clear hld hb11 hM12 n0 n1 n2' o0 o1 o2 HAl
                  go_wp2_with (at_builtin; refine wp_append_run rfl (Operand.tmp 72) (Operand.tmp 79) 26 rfl _ _ (w11.alloc (.cells #[.string gr.name, .int .i64 (q0 : Int), .int .i64 (i : Int)] 49)) rfl rfl hr12 ?_)
                  go_wp2
                  go_roundw
                  case rel => exact ⟨j + 1, hlt2, by go_num, HM12⟩
                  case measure => exact hms2
                · rw [hal] at HAl hnx
                  clear hal
                  go_wp2_with fail
                  refine HAl.out.mono ?_
                  rintro e w11 ⟨rfl, hb11⟩
                  have HM11 : Hd (MSt wi w11 Mb ob (o.cells (.slice p1 N c1) (.slice p2 n2 c2) (.slice p3 n3 c3) (.slice (some ⟨gg, og, none⟩) G c4) (.slice p5 n5 c5) (.slice p6 n6 c6) (.slice p7 n7 c7) (.slice p8 n8 c8) (.slice p9 n9 c9) (.slice p10 n10 c10)) dv0 kpt u5 (midSt l i o (j + 1))) := ⟨by rw [hnx.out]; exact HMm.out.next (below_keeps hb11)⟩
                  clear hb11 n0 n1 n2' o0 o1 o2 HAl
                  go_wp2
                  go_roundw
                  case rel => exact ⟨j + 1, hlt2, by go_num, HM11⟩
                  case measure => exact hms2
        · have hjG : j = G := by omega
          subst hjG
          have hd : decide ((j : Int) < (j : Int)) = false := by simp
          obtain ⟨pkt, ckt, hkt⟩ := HMj.out.k.any
          obtain ⟨lkt, hlkt⟩ : ∃ n, (boolsV (midSt l i o j).kept).length = n := ⟨_, rfl⟩
          rw [hlkt] at hkt
          subst hkt
          obtain ⟨vs, hvs, hvl, _⟩ := HS.out.p
          obtain ⟨pkp, ckp, hkp⟩ := hvs.any
          rw [hvl, HLen.out.2.2] at hkp
          subst hkp
          obtain ⟨v13, w13, hr13, hO13⟩ := HS.out.fin HMj.out (by have := HLen.out.2.2; omega)
          have HO13 : Hd (OSt w w13 Mb v13 u5 (keepR (l.take (i + 1)))) := ⟨by rw [HEnd.out, HNG.out.2]; exact hO13⟩
          clear hO13 hvs hvl hlkt
          go_wp2_with (at_builtin; refine wp_append_run rfl (Operand.tmp 82) (Operand.tmp 84) 25 rfl _ _ (wr.alloc (.cells #[.slice pkt lkt ckt] 31)) rfl rfl hr13 ?_)
          go_wp2
          go_roundw
          case rel => exact ⟨i + 1, hlt, by go_num, HO13⟩
          case measure => exact hms
    · have hin : i = M := by omega
      subst hin
      have hd : decide ((i : Int) < (i : Int)) = false := by simp
      have HF : Hd (OSt w wr w.heap.size u4 u5 (keepR l)) := ⟨by rw [HMb.out, hkpv, hdv0]; have := HS.out; rwa [← HM.out, List.take_length] at this⟩
      clear HS hkpv hdv0 hK
      go_wp2
      go_ret2
      exact ⟨_, _, rfl, HF.out⟩

end Go.Proofs.YtimbhnnidohmaaaDoor.W
