import Derived.Test.YtimbhnnidohmaaaDoorGrpP
import Derived.Test.YtimbhnnidohmaaaDoorGrpK
import Derived.Test.YtimbhnnidohmaaaDoorTab
import Derived.Test.YtimbhnnidohmaaaDoorObjA
import Derived.BigQuiet
/-
  Two objects with a group of one section each: where their copies differ. No program.
-/
namespace Go.Proofs.YtimbhnnidohmaaaDoor.W
set_option linter.unusedVariables false

theorem secsOf_one {o : Ob} {g : Grp} {a : Nat} (hs : g.secs = [(a : Int)]) (h : a < o.secs.length) : secsOf o g = [(a : Int)] := by
  unfold secsOf
  rw [hs]
  simp [inB, offB]
  omega
def wantB (o1 o2 : Ob) (g1 g2 : Grp) (a b : Nat) : Bool := decide (g1.name = g2.name) && !(decide (nameS o1 a = nameS o2 b) && decide (formS o1 a = formS o2 b))
theorem forms_law {o1 o2 : Ob} {g1 g2 : Grp} {a b : Nat} (h1 : o1.groups = [g1]) (h2 : o2.groups = [g2]) (s1 : g1.secs = [(a : Int)]) (s2 : g2.secs = [(b : Int)]) (ha : a < o1.secs.length) (hb : b < o2.secs.length) :
    (keepR [o1, o2]).differ.length = if wantB o1 o2 g1 g2 a b then 1 else 0 := by
  have e1 := secsOf_one s1 ha
  have e2 := secsOf_one s2 hb
  have k1 : objStep 0 ⟨[], [], []⟩ o1 = ⟨[(g1.name, cpOf 0 o1 g1)], [List.replicate o1.secs.length true], []⟩ := by
    simp [objStep, h1, grpStep, lookC, lookV]
  have k2 : (objStep 1 ⟨[(g1.name, cpOf 0 o1 g1)], [List.replicate o1.secs.length true], []⟩ o2).differ.length = if wantB o1 o2 g1 g2 a b then 1 else 0 := by
    unfold objStep wantB
    rw [h2]
    simp only [List.foldl_cons, List.foldl_nil]
    unfold grpStep
    by_cases e : g1.name = g2.name
    · have hl : lookC [(g1.name, cpOf 0 o1 g1)] g2.name = some (cpOf 0 o1 g1) := by simp [lookC, lookV, e]
      simp only [hl]
      have ha : alikeB (cpOf 0 o1 g1) (cpOf 1 o2 g2) = (decide (nameS o1 a = nameS o2 b) && decide (formS o1 a = formS o2 b)) := by
        simp [alikeB, cpOf, e1, e2]
      rw [ha, decide_eq_true e]
      cases (decide (nameS o1 a = nameS o2 b) && decide (formS o1 a = formS o2 b)) <;> simp
    · have hl : lookC [(g1.name, cpOf 0 o1 g1)] g2.name = none := by simp [lookC, lookV, e]
      simp only [hl]
      simp [e]
  show (keepF [o1, o2] 0 ⟨[], [], []⟩).differ.length = _
  rw [keepF, keepF, keepF, k1]
  exact k2
theorem forms_law2 {l : List Ob} (h : l.length = 2) {g1 g2 : Grp} {a b : Nat} (h1 : (l[0]'(by omega)).groups = [g1]) (h2 : (l[1]'(by omega)).groups = [g2]) (s1 : g1.secs = [(a : Int)]) (s2 : g2.secs = [(b : Int)]) (ha : a < (l[0]'(by omega)).secs.length) (hb : b < (l[1]'(by omega)).secs.length) :
    (keepR l).differ.length = if wantB (l[0]'(by omega)) (l[1]'(by omega)) g1 g2 a b then 1 else 0 := by
  match l, h with
  | [o1, o2], _ => exact forms_law h1 h2 s1 s2 ha hb
theorem wantB_le (b : Bool) : (if b then 1 else 0 : Nat) ≤ 1 := by cases b <;> decide

/-- a group of one existing section -/
def One1 (o : Ob) : Prop := ∃ (g : Grp) (a : Nat), o.groups = [g] ∧ g.secs = [(a : Int)] ∧ a < o.secs.length

end Go.Proofs.YtimbhnnidohmaaaDoor.W

/-
  GroupForms.
-/
namespace Go.Proofs.YtimbhnnidohmaaaDoor.W
open Go.RowKit
set_option linter.unusedVariables false

theorem below_drewN (w : World) (n : Nat) : Below w.heap.size w (w.drewN n) := by
  induction n with
  | zero => exact Below.refl _ _
  | succ n ih => exact ih.drew

theorem Rw.objAt {w : World} {l : List Ob} {g of n c : Nat} (h : Rw 11 Ob.E w (.slice (some ⟨g, of, none⟩) n c) l) {i : Nat} (hi : i < l.length) :
    ∃ x1 x2 x3 x4 x5 x6 x7 x8 x9 x10, l[i].At w x1 x2 x3 x4 x5 x6 x7 x8 x9 x10 ∧ ObCells w g (of + i * 11) l[i] x1 x2 x3 x4 x5 x6 x7 x8 x9 x10 := by
  obtain ⟨g', of', x1, x2, x3, x4, x5, x6, x7, x8, x9, x10, e, _, hA, hC⟩ := h.obj rfl hi
  injection e with e
  injection e with e1 e2
  subst e1; subst e2
  exact ⟨x1, x2, x3, x4, x5, x6, x7, x8, x9, x10, hA, hC⟩

/-- the cells of an object with a group of one section -/
structure OneC (w : World) (gs os gg og gk ok cK : Nat) (gn sn : ByteArray) (a : Nat) : Prop where
  n : w.cell? ⟨gg, og, none⟩ = some (.string gn)
  gv : w.cell? ⟨gg, og + 1, none⟩ = some (.slice (some ⟨gk, ok, none⟩) 1 cK)
  k : w.cell? ⟨gk, ok, none⟩ = some (.int .i64 (a : Int))
  sn : w.cell? ⟨gs, os + a * 6, none⟩ = some (.string sn)
theorem one_cells {w : World} {l : List Ob} {g of n c j b : Nat} (h : Rw 11 Ob.E w (.slice (some ⟨g, of, none⟩) n c) l) (hj : j < l.length) (hb : of + j * 11 = b) {gr : Grp} {a : Nat} (h1 : l[j].groups = [gr]) (h2 : gr.secs = [(a : Int)]) (h3 : a < l[j].secs.length) :
    ∃ x2 x3 x5 x6 x7 x8 x9 x10 gs os cN gg og cG gk ok cK, l[j].At w (.slice (some ⟨gs, os, none⟩) l[j].secs.length cN) x2 x3 (.slice (some ⟨gg, og, none⟩) 1 cG) x5 x6 x7 x8 x9 x10 ∧
      ∀ w', Below w.heap.size w w' → ObCells w' g b l[j] (.slice (some ⟨gs, os, none⟩) l[j].secs.length cN) x2 x3 (.slice (some ⟨gg, og, none⟩) 1 cG) x5 x6 x7 x8 x9 x10 ∧ OneC w' gs os gg og gk ok cK gr.name (nameS l[j] a) a := by
  obtain ⟨x1, x2, x3, x4, x5, x6, x7, x8, x9, x10, hA, hC⟩ := h.objAt hj
  obtain ⟨g', of', _, _, _, _, _, _, _, _, _, _, e, hg, _, _⟩ := h.obj rfl hj
  injection e with e
  injection e with e1 e2
  subst e1; subst e2
  rw [hb] at hC
  obtain ⟨p1, c1, rfl⟩ := hA.secs.slice
  obtain ⟨p4, c4, rfl⟩ := hA.groups.slice
  obtain ⟨gs, os, cs, rfl, hgs, _, hE, hc⟩ := hA.secs.at rfl (j := a) h3
  obtain rfl : cs = l[j].secs[a].cells := hE
  have q0 := hc 0 _ rfl
  rw [Nat.add_zero] at q0
  have hnm : l[j].secs[a].name = nameS l[j] (a : Int) := by unfold nameS secD; rw [secAt_in h3]
  have q0 : w.cell? ⟨gs, os + a * 6, none⟩ = some (.string l[j].secs[a].name) := q0
  rw [hnm] at q0
  have hG := hA.groups
  have hGl : l[j].groups.length = 1 := by rw [h1]; rfl
  rw [hGl] at hG hA hC
  rw [h1] at hG
  obtain ⟨gg, og, cs, rfl, hgg, _, hE, hcg⟩ := hG.at rfl (j := 0) (by simp)
  obtain ⟨gv, rfl, hgA⟩ := hE
  have hgA : Grp.At w gr gv := hgA
  have hK := hgA.secs
  rw [h2] at hK
  obtain ⟨pk, ck, rfl⟩ := hK.slice
  obtain ⟨gk, ok, cs, rfl, hgk, _, hE, hck⟩ := hK.at rfl (j := 0) (by simp)
  obtain rfl : cs = [.int .i64 (a : Int)] := hE
  have n0 := hcg 0 _ rfl
  have n1 := hcg 1 _ rfl
  have k0 := hck 0 _ rfl
  simp only [Nat.zero_mul, Nat.add_zero] at n0 n1 k0
  refine ⟨x2, x3, x5, x6, x7, x8, x9, x10, gs, os, c1, gg, og, c4, gk, ok, ck, hA, fun w' hb' => ⟨hC.below hb' hg, ?_⟩⟩
  exact ⟨(hb'.cell (p := ⟨gg, og, none⟩) hgg).trans n0, (hb'.cell (p := ⟨gg, og + 1, none⟩) hgg).trans n1, (hb'.cell (p := ⟨gk, ok, none⟩) hgk).trans k0, (hb'.cell (p := ⟨gs, os + a * 6, none⟩) hgs).trans q0⟩

set_option maxHeartbeats 8000000 in
set_option maxRecDepth 100000 in
theorem forms_any (w : World) (v : Value) (l : List Ob) (hv : ArgObs w v l) (hT : Tabs w) :
    Calls Tryd.prog 6 #[v] w fun e w' => e = .returned (.bool true) ∧ Below w.heap.size w w' := by
  have hR := hv.row
  obtain ⟨p, c, rfl⟩ := hR.slice
  have HSm := Hd.mk (gsmall_any w hT)
  have HFw := Hd.mk (fun w' (h : Below w.heap.size w w') => gfew_any w' _ l (hR.below Ob.stays h) hv.len hv.ok)
  have HR := Hd.mk hR
  have HV := Hd.mk hv
  have HT := Hd.mk hT
  obtain ⟨M, hM⟩ : ∃ M, l.length = M := ⟨_, rfl⟩
  have HM := Hd.mk hM
  rw [hM] at HR HFw
  rw [hM]
  clear hR hv hT hM
  by_cases hf : Few l
  · rw [decide_eq_true hf] at HFw
    have HKO := Hd.mk (hf.keep HV.out.ok)
    by_cases hM2 : M = 2
    · subst hM2
      have HKp := Hd.mk (fun w' (h : Below w.heap.size w w') => gkeep_any w' (HT.out.below h) _ l (HR.out.below Ob.stays h) HKO.out)
      clear hf
      go_enter Tryd.func6, Tryd.ntmps6
      go_wp2_with fail
      refine HSm.out.mono ?_
      rintro e w1 ⟨rfl, b1⟩
      have B1 := Hd.mk b1
      clear b1 HSm
      go_wp2_with fail
      refine (HFw.out w1 B1.out).mono ?_
      rintro e w2 ⟨rfl, b2⟩
      have B2 := Hd.mk (below_next B1.out b2)
      clear b2 B1 HFw
      go_wp2
      go_loopw [4] (fun iv wr => ∃ i : Nat, i ≤ 2 ∧ iv = .int .i64 i ∧ Hd (∀ j (hj : j < l.length), j < i → One1 l[j]) ∧ Hd (Below w2.heap.size w2 wr)) (fun iv _ => 2 - (intOf iv).toNat)
      case atStart => exact ⟨0, by decide, rfl, ⟨fun j _ h => absurd h (by omega)⟩, ⟨Below.refl _ _⟩⟩
      case round =>
        obtain ⟨i, hi, rfl, HO, HW⟩ := hrel
        by_cases hlt : i < 2
        · have hil : i < l.length := by rw [HM.out]; exact hlt
          have hi2 : decide ((i : Int) < 2) = true := decide_eq_true (by omega)
          have hms : 2 - (intOf (.int .i64 ((i : Int) + 1))).toNat < 2 - (intOf (.int .i64 (i : Int))).toNat := by simp [intOf]; omega
          have HW1 : Hd (Below w.heap.size w wr) := ⟨below_next B2.out HW.out⟩
          have HRd : Hd (Rw 11 Ob.E wr (.slice p 2 c) l) := ⟨HR.out.below Ob.stays HW1.out⟩
          obtain ⟨g, of, cs, rfl, hg, _, _, _⟩ := HR.out.at rfl (j := i) hil
          obtain ⟨x1, x2, x3, x4, x5, x6, x7, x8, x9, x10, hA, hC⟩ := HRd.out.objAt hil
          have HNx := Hd.mk (fun (h : One1 l[i]) => show ∀ j (hj : j < l.length), j < i + 1 → One1 l[j] from fun j hj hlt => by
            by_cases e : j = i
            · subst e; exact h
            · exact HO.out j hj (by omega))
          have HOk := Hd.mk (HV.out.ok _ (List.getElem_mem hil))
          obtain ⟨o, ho⟩ : ∃ o, l[i] = o := ⟨_, rfl⟩
          rw [ho] at hA hC HNx HOk
          obtain ⟨p1, c1, rfl⟩ := hA.secs.slice
          obtain ⟨p4, c4, rfl⟩ := hA.groups.slice
          obtain ⟨N, hN⟩ : ∃ N, o.secs.length = N := ⟨_, rfl⟩
          obtain ⟨G, hG⟩ : ∃ G, o.groups.length = G := ⟨_, rfl⟩
          rw [hN, hG] at hA hC
          have d1 := hC.c1
          have d4 := hC.c4
          have HA := Hd.mk hA
          have HNl : Hd (N ≤ 140737488351232) := ⟨by have := HOk.out.secs; rw [hN] at this; exact this⟩
          have HN := Hd.mk hN
          have HG := Hd.mk hG
          have hi2' : (i : Int) < 2 := by omega
          clear hA hC hg ho hN hG HRd
          by_cases hG1 : G = 1
          · subst hG1
            by_cases hN0 : N = 0
            · subst hN0
              have HB := HW1
              go_wp2
              go_ret
              exact ⟨rfl, HB.out⟩
            · have tN : decide ((N : Int) = 0) = false := decide_eq_false (by omega)
              obtain ⟨gg, og, cs, rfl, hgg, _, hE, hcg⟩ := HA.out.groups.at rfl (j := 0) (by rw [HG.out]; decide)
              obtain ⟨gr, hgr⟩ : ∃ gr, o.groups = [gr] := List.length_eq_one_iff.1 HG.out
              obtain ⟨gv, rfl, hgA⟩ := hE
              have e0 : o.groups[0]'(by rw [HG.out]; decide) = gr := by simp [hgr]
              rw [e0] at hgA hcg
              obtain ⟨pk, ck, rfl⟩ := hgA.secs.slice
              have n1 := hcg 1 _ rfl
              simp only [Nat.zero_mul, Nat.add_zero] at n1
              have HGr := Hd.mk hgr
              obtain ⟨K, hK⟩ : ∃ K, gr.secs.length = K := ⟨_, rfl⟩
              have HK := Hd.mk hK
              rw [hK] at n1 hgA
              have HS := Hd.mk hgA.secs
              have d1d : ∀ q, (wr.drewN q).cell? ⟨g, of + i * 11 + 1, none⟩ = some (.slice p1 N c1) := fun q => d1
              clear hgr hgA hcg hgg e0 hK
              by_cases hK1 : K = 1
              · subst hK1
                obtain ⟨gk, ok, cs, rfl, hgk, _, hE, hck⟩ := HS.out.at rfl (j := 0) (by rw [HK.out]; decide)
                obtain ⟨x, hx⟩ : ∃ x, gr.secs = [x] := List.length_eq_one_iff.1 HK.out
                have e0 : gr.secs[0]'(by rw [HK.out]; decide) = x := by simp [hx]
                rw [e0] at hE
                obtain rfl : cs = [.int .i64 x] := hE
                have k0 := hck 0 _ rfl
                simp only [Nat.zero_mul, Nat.add_zero] at k0
                have HX := Hd.mk hx
                have k0d : ∀ q, (wr.drewN q).cell? ⟨gk, ok, none⟩ = some (.int .i64 x) := fun q => k0
                clear hck hgk e0 hx
                by_cases hx0 : x < 0
                · have tx : decide (x < 0) = true := decide_eq_true hx0
                  have HBN : Hd (∀ n, Below w.heap.size w (wr.drewN n)) := ⟨fun n => below_next HW1.out (below_drewN wr n)⟩
                  go_wp2_with fail
                  go_quiet (fail)
                  go_wp2
                  go_ret
                  exact ⟨rfl, HBN.out nq⟩
                · have tx : decide (x < 0) = false := decide_eq_false hx0
                  by_cases hxN : (N : Int) ≤ x
                  · have ty : decide ((N : Int) ≤ x) = true := decide_eq_true hxN
                    have HBN : Hd (∀ n, Below w.heap.size w (wr.drewN n)) := ⟨fun n => below_next HW1.out (below_drewN wr n)⟩
                    go_wp2_with fail
                    go_quiet (fail)
                    go_wp2
                    go_ret
                    exact ⟨rfl, HBN.out nq⟩
                  · have ty : decide ((N : Int) ≤ x) = false := decide_eq_false hxN
                    have HD : Hd (∀ n, Below w2.heap.size w2 (wr.drewN n)) := ⟨fun n => below_next HW.out (below_drewN wr n)⟩
                    have HO2 := Hd.mk (HNx.out ⟨gr, x.toNat, HGr.out, by rw [HX.out, Int.toNat_of_nonneg (by omega)], by rw [HN.out]; omega⟩)
                    go_wp2_with fail
                    go_quiet (fail)
                    go_wp2
                    go_roundw
                    case rel => exact ⟨i + 1, hlt, by go_num, HO2, ⟨HD.out nq⟩⟩
                    case measure => exact hms
              · have tK : decide ((K : Int) = 1) = false := decide_eq_false (by omega)
                have tK2 : ((K : Int) != 1) = true := by simp; omega
                have HBN : Hd (∀ n, Below w.heap.size w (wr.drewN n)) := ⟨fun n => below_next HW1.out (below_drewN wr n)⟩
                go_wp2_with fail
                go_quiet (fail)
                go_wp2
                go_ret
                exact ⟨rfl, HBN.out nq⟩
          · have tG : decide ((G : Int) = 1) = false := decide_eq_false (by omega)
            have HB := HW1
            go_wp2
            go_ret
            exact ⟨rfl, HB.out⟩
        · have hi2 : i = 2 := by omega
          subst hi2
          have hil0 : 0 < l.length := by rw [HM.out]; decide
          have hil1 : 1 < l.length := by rw [HM.out]; decide
          obtain ⟨r1, a, hg1, hs1, ha1⟩ := HO.out 0 hil0 (by decide)
          obtain ⟨r2, b, hg2, hs2, hb2⟩ := HO.out 1 hil1 (by decide)
          obtain ⟨g, of, cs, rfl, hg, _, _, _⟩ := HR.out.at rfl (j := 0) hil0
          have HLaw := Hd.mk (forms_law2 HM.out hg1 hg2 hs1 hs2 ha1 hb2)
          obtain ⟨x2, x3, x5, x6, x7, x8, x9, x10, gs, os, cN, gg, og, cG, gk, ok, cK, hA1, hC1⟩ := one_cells HR.out hil0 (b := of) (by omega) hg1 hs1 ha1
          obtain ⟨y2, y3, y5, y6, y7, y8, y9, y10, gs2, os2, cN2, gg2, og2, cG2, gk2, ok2, cK2, hA2, hC2⟩ := one_cells HR.out hil1 (b := of + 11) (by omega) hg2 hs2 hb2
          have HO1 := Hd.mk (HV.out.ok _ (List.getElem_mem hil0))
          have HO2 := Hd.mk (HV.out.ok _ (List.getElem_mem hil1))
          have HB1 := Hd.mk (HKO.out.bytes _ (List.getElem_mem hil0))
          have HB2 := Hd.mk (HKO.out.bytes _ (List.getElem_mem hil1))
          obtain ⟨o1, ho1⟩ : ∃ o1, l[0] = o1 := ⟨_, rfl⟩
          obtain ⟨o2, ho2⟩ : ∃ o2, l[1] = o2 := ⟨_, rfl⟩
          rw [ho1] at HLaw hA1 hC1 HO1 HB1 ha1
          rw [ho2] at HLaw hA2 hC2 HO2 HB2 hb2
          have HF1 := Hd.mk (fun w' (h : Below w.heap.size w w') => form_any w' (HT.out.below h) o1 _ x2 x3 _ x5 x6 x7 x8 x9 x10 (a : Int) (hA1.below h) HO1.out.secs HO1.out.rels HO1.out.secsI (fun s hs => by
            rw [secAt_in ha1] at hs; exact HB1.out s (Option.some.inj hs ▸ List.getElem_mem _)))
          have HF2 := Hd.mk (fun w' (h : Below w.heap.size w w') => form_any w' (HT.out.below h) o2 _ y2 y3 _ y5 y6 y7 y8 y9 y10 (b : Int) (hA2.below h) HO2.out.secs HO2.out.rels HO2.out.secsI (fun s hs => by
            rw [secAt_in hb2] at hs; exact HB2.out s (Option.some.inj hs ▸ List.getElem_mem _)))
          have haN : (a : Int) < (o1.secs.length : Int) := by omega
          have hbN : (b : Int) < (o2.secs.length : Int) := by omega
          have HCC : Hd (∀ w', Below w.heap.size w w' → _) := Hd.mk (fun w' (h : Below w.heap.size w w') => And.intro (hC1 w' h) (hC2 w' h))
          obtain ⟨N1, hN1⟩ : ∃ N, o1.secs.length = N := ⟨_, rfl⟩
          obtain ⟨N2, hN2⟩ : ∃ N, o2.secs.length = N := ⟨_, rfl⟩
          have hcs1 : (o1.cells (.slice (some ⟨gs, os, none⟩) N1 cN) x2 x3 (.slice (some ⟨gg, og, none⟩) 1 cG) x5 x6 x7 x8 x9 x10).toArray = #[.string o1.name, .slice (some ⟨gs, os, none⟩) N1 cN, x2, x3, .slice (some ⟨gg, og, none⟩) 1 cG, x5, x6, x7, x8, x9, x10] := rfl
          have hcs2 : (o2.cells (.slice (some ⟨gs2, os2, none⟩) N2 cN2) y2 y3 (.slice (some ⟨gg2, og2, none⟩) 1 cG2) y5 y6 y7 y8 y9 y10).toArray = #[.string o2.name, .slice (some ⟨gs2, os2, none⟩) N2 cN2, y2, y3, .slice (some ⟨gg2, og2, none⟩) 1 cG2, y5, y6, y7, y8, y9, y10] := rfl
          rw [hN1] at HF1 HCC haN
          rw [hN2] at HF2 HCC hbN
          rw [hcs1] at HF1
          rw [hcs2] at HF2
          have hf1 : (⟨(formL o1 (a : Int)).toArray⟩ : ByteArray) = formS o1 (a : Int) := rfl
          have hf2 : (⟨(formL o2 (b : Int)).toArray⟩ : ByteArray) = formS o2 (b : Int) := rfl
          rw [hf1] at HF1
          rw [hf2] at HF2
          unfold wantB at HLaw
          obtain ⟨f1, ef1⟩ : ∃ f, formS o1 (a : Int) = f := ⟨_, rfl⟩
          obtain ⟨f2, ef2⟩ : ∃ f, formS o2 (b : Int) = f := ⟨_, rfl⟩
          obtain ⟨n1, en1⟩ : ∃ f, nameS o1 (a : Int) = f := ⟨_, rfl⟩
          obtain ⟨n2, en2⟩ : ∃ f, nameS o2 (b : Int) = f := ⟨_, rfl⟩
          obtain ⟨m1, em1⟩ : ∃ f, r1.name = f := ⟨_, rfl⟩
          obtain ⟨m2, em2⟩ : ∃ f, r2.name = f := ⟨_, rfl⟩
          rw [ef1] at HF1 HLaw
          rw [ef2] at HF2 HLaw
          rw [en1] at HCC HLaw
          rw [en2] at HCC HLaw
          rw [em1] at HCC HLaw
          rw [em2] at HCC HLaw
          have HW1 : Hd (Below w.heap.size w wr) := ⟨below_next B2.out HW.out⟩
          obtain ⟨D, hD⟩ : ∃ D, (keepR l).differ.length = D := ⟨_, rfl⟩
          rw [hD] at HLaw
          have hsm := str_beq m1 m2
          obtain ⟨qm, hqm⟩ : ∃ q, decide (m1 = m2) = q := ⟨_, rfl⟩
          rw [hqm] at hsm HLaw
          have hsn := str_beq n1 n2
          obtain ⟨qn, hqn⟩ : ∃ q, decide (n1 = n2) = q := ⟨_, rfl⟩
          rw [hqn] at hsn HLaw
          have hsf := str_beq f1 f2
          obtain ⟨qf, hqf⟩ : ∃ q, decide (f1 = f2) = q := ⟨_, rfl⟩
          rw [hqf] at hsf HLaw
          clear hA1 hC1 hA2 hC2 hg hg1 hs1 ha1 hg2 hs2 hb2 ho1 ho2 HO1 HO2 HB1 HB2 hcs1 hcs2 hN1 hN2 hf1 hf2 ef1 ef2 en1 en2 em1 em2 hqm hqn hqf HO
          go_wp2_with fail
          refine (HKp.out wr HW1.out).mono ?_
          rintro e w3 ⟨kpv, dv, rfl, hO⟩
          have HW3 := Hd.mk (below_next HW1.out hO.K)
          have hdr := hO.rows.2
          obtain ⟨pd, cd, rfl⟩ := hdr.slice
          rw [hD]
          clear hO hdr HKp hD HW HW1
          obtain ⟨⟨⟨d0, d1, d2, d3, d4, d5, d6, d7, d8, d9, d10⟩, ⟨k1, k2, k3, k4⟩⟩, ⟨⟨c0, c1, c2, c3, c4, c5, c6, c7, c8, c9, c10⟩, ⟨t1, t2, t3, t4⟩⟩⟩ := HCC.out w3 HW3.out
          have c1' : w3.cell? ⟨g, of + 12, none⟩ = some (.slice (some ⟨gs2, os2, none⟩) N2 cN2) := c1
          have c4' : w3.cell? ⟨g, of + 15, none⟩ = some (.slice (some ⟨gg2, og2, none⟩) 1 cG2) := c4
          have HCD : Hd (∀ w', Below w.heap.size w w' → (w'.cell? ⟨g, of + 12, none⟩ = some (.slice (some ⟨gs2, os2, none⟩) N2 cN2) ∧ w'.cell? ⟨g, of + 13, none⟩ = some y2 ∧ w'.cell? ⟨g, of + 14, none⟩ = some y3 ∧ w'.cell? ⟨g, of + 15, none⟩ = some (.slice (some ⟨gg2, og2, none⟩) 1 cG2) ∧ w'.cell? ⟨g, of + 16, none⟩ = some y5 ∧ w'.cell? ⟨g, of + 17, none⟩ = some y6 ∧ w'.cell? ⟨g, of + 18, none⟩ = some y7 ∧ w'.cell? ⟨g, of + 19, none⟩ = some y8 ∧ w'.cell? ⟨g, of + 20, none⟩ = some y9 ∧ w'.cell? ⟨g, of + 21, none⟩ = some y10)) := ⟨fun w' h => by
            obtain ⟨_, ⟨_, c1, c2, c3, c4, c5, c6, c7, c8, c9, c10⟩, _⟩ := HCC.out w' h
            exact ⟨c1, c2, c3, c4, c5, c6, c7, c8, c9, c10⟩⟩
          go_upto_region 15 with (fail)
          clear c0 c1 c2 c3 c4 c5 c6 c7 c8 c9 c10 d0 d1 d2 d3 d4 d5 d6 d7 d8 d9 d10 k1 k2 k3 k4 t1 t2 t3 t4 c1' c4'
          have hSd : Below w.heap.size w w3.drew := HW3.out.trans (Below.refl _ _).drew
          cases qn with
          | false =>
            have hD2 : D = if qm then 1 else 0 := by rw [HLaw.out]; simp
            have HD2 := Hd.mk hD2
            clear hD2 HLaw HF1 HF2 hsf
            have HQ : Hd (∀ q, Below w.heap.size w (w3.drewN q)) := ⟨fun q => below_next HW3.out (below_drewN w3 q)⟩
            have q1 : ∀ q, (w3.drewN q).cell? ⟨g, of + 1, none⟩ = some (.slice (some ⟨gs, os, none⟩) N1 cN) := fun q => (HCC.out _ (HQ.out q)).1.1.c1
            have q2 : ∀ q, (w3.drewN q).cell? ⟨gs, os + a * 6, none⟩ = some (.string n1) := fun q => (HCC.out _ (HQ.out q)).1.2.sn
            have q3 : ∀ q, (w3.drewN q).cell? ⟨g, of + 12, none⟩ = some (.slice (some ⟨gs2, os2, none⟩) N2 cN2) := fun q => (HCD.out _ (HQ.out q)).1
            have q4 : ∀ q, (w3.drewN q).cell? ⟨gs2, os2 + b * 6, none⟩ = some (.string n2) := fun q => (HCC.out _ (HQ.out q)).2.2.sn
            go_quiet (fail)
            clear q1 q2 q3 q4
            obtain ⟨w7, hw7⟩ : ∃ w7, w3.drewN nq = w7 := ⟨_, rfl⟩
            have H7 : Below w.heap.size w w7 := hw7 ▸ (HQ.out nq)
            rw [hw7]
            have HQ7 : Hd (∀ q, Below w.heap.size w (w7.drewN q)) := ⟨fun q => below_next H7 (below_drewN w7 q)⟩
            have r1 : ∀ q, (w7.drewN q).cell? ⟨g, of + 4, none⟩ = some (.slice (some ⟨gg, og, none⟩) 1 cG) := fun q => (HCC.out _ (HQ7.out q)).1.1.c4
            have r2 : ∀ q, (w7.drewN q).cell? ⟨gg, og, none⟩ = some (.string m1) := fun q => (HCC.out _ (HQ7.out q)).1.2.n
            have r3 : ∀ q, (w7.drewN q).cell? ⟨g, of + 15, none⟩ = some (.slice (some ⟨gg2, og2, none⟩) 1 cG2) := fun q => (HCD.out _ (HQ7.out q)).2.2.2.1
            have r4 : ∀ q, (w7.drewN q).cell? ⟨gg2, og2, none⟩ = some (.string m2) := fun q => (HCC.out _ (HQ7.out q)).2.2.n
            clear hw7 H7 hSd
            cases qm with
            | false =>
              obtain rfl : D = 0 := by rw [HD2.out]; rfl
              go_wp2_with fail
              go_quiet (fail)
              go_wp2
              go_ret
              exact ⟨rfl, HQ7.out _⟩
            | true =>
              obtain rfl : D = 1 := by rw [HD2.out]; rfl
              go_wp2_with fail
              go_quiet (fail)
              go_wp2
              go_ret
              exact ⟨rfl, HQ7.out _⟩
          | true =>
            have hD2 : D = if qm && !qf then 1 else 0 := by rw [HLaw.out]; simp
            have HD2 := Hd.mk hD2
            clear hD2 HLaw
            refine wp_region_lin default (fun w' => Below w.heap.size w w') [(0, true), (1, true), (2, true), (3, true), (4, true), (5, true), (6, true), (7, true), (8, true), (9, true), (10, true), (11, true), (12, true), (13, true), (14, true), (15, true), (16, true), (17, true), (18, true), (19, true), (20, true), (21, true), (23, true), (24, true), (25, true), (26, true), (22, false), (27, false), (28, true), (29, true), (30, true)] (by kernel_rfl) (by kernel_rfl) rfl (by kernel_rfl) (by kernel_rfl) hSd ?_
            simp only [pick, List.getD_cons_zero, List.getD_cons_succ]
            repeat
              refine lin_free (v := ?_) (by rfl) ?_ ?_
              rotate_left
              · intro w' hSw
                obtain ⟨⟨⟨d0, d1, d2, d3, d4, d5, d6, d7, d8, d9, d10⟩, ⟨k1, k2, k3, k4⟩⟩, ⟨⟨c0, _⟩, ⟨t1, t2, t3, t4⟩⟩⟩ := HCC.out w' hSw
                obtain ⟨c1, c2, c3, c4, c5, c6, c7, c8, c9, c10⟩ := HCD.out w' hSw
                go_simp
                first | done | with_reducible rfl
              simp only [Act.put, List.setIfInBounds_toArray, List.set_cons_zero, List.set_cons_succ]
            refine lin_bound (fun K hK => ?_)
            go_simp
            refine (HF1.out _ hSd).mono ?_
            rintro e w5 ⟨rfl, k5⟩
            dsimp only
            have hS5 : Below w.heap.size w w5 := below_next hSd k5
            refine hK.out _ _ hS5 ?_
            clear hK K k5
            refine lin_bound (fun K hK => ?_)
            go_simp
            refine (HF2.out _ hS5).mono ?_
            rintro e w6 ⟨rfl, k6⟩
            dsimp only
            have hS6 : Below w.heap.size w w6 := below_next hS5 k6
            refine hK.out _ _ hS6 ?_
            clear hK K k6
            repeat
              refine lin_free (v := ?_) (by rfl) ?_ ?_
              rotate_left
              · intro w' hSw
                go_simp
                first | done | with_reducible rfl
              simp only [Act.put, List.setIfInBounds_toArray, List.set_cons_zero, List.set_cons_succ]
            refine NoPanic.normal ?_
            clear hS5
            obtain ⟨w7, hw7⟩ : ∃ w7, w6 = w7 := ⟨_, rfl⟩
            have H7 : Below w.heap.size w w7 := hw7 ▸ hS6
            rw [hw7]
            have HQ7 : Hd (∀ q, Below w.heap.size w (w7.drewN q)) := ⟨fun q => below_next H7 (below_drewN w7 q)⟩
            have r1 : ∀ q, (w7.drewN q).cell? ⟨g, of + 4, none⟩ = some (.slice (some ⟨gg, og, none⟩) 1 cG) := fun q => (HCC.out _ (HQ7.out q)).1.1.c4
            have r2 : ∀ q, (w7.drewN q).cell? ⟨gg, og, none⟩ = some (.string m1) := fun q => (HCC.out _ (HQ7.out q)).1.2.n
            have r3 : ∀ q, (w7.drewN q).cell? ⟨g, of + 15, none⟩ = some (.slice (some ⟨gg2, og2, none⟩) 1 cG2) := fun q => (HCD.out _ (HQ7.out q)).2.2.2.1
            have r4 : ∀ q, (w7.drewN q).cell? ⟨gg2, og2, none⟩ = some (.string m2) := fun q => (HCC.out _ (HQ7.out q)).2.2.n
            clear hw7 H7 hSd hS6
            cases qm with
            | false =>
              obtain rfl : D = 0 := by rw [HD2.out]; rfl
              go_wp2_with fail
              go_quiet (fail)
              go_wp2
              go_ret
              exact ⟨rfl, HQ7.out _⟩
            | true =>
              cases qf with
              | false =>
                obtain rfl : D = 1 := by rw [HD2.out]; rfl
                go_wp2_with fail
                go_quiet (fail)
                go_wp2
                go_ret
                exact ⟨rfl, HQ7.out _⟩
              | true =>
                obtain rfl : D = 0 := by rw [HD2.out]; rfl
                go_wp2_with fail
                go_quiet (fail)
                go_wp2
                go_ret
                exact ⟨rfl, HQ7.out _⟩
    · have tM : decide ((M : Int) = 2) = false := decide_eq_false (by omega)
      clear hf
      go_enter Tryd.func6, Tryd.ntmps6
      go_wp2_with fail
      refine HSm.out.mono ?_
      rintro e w1 ⟨rfl, b1⟩
      have B1 := Hd.mk b1
      clear b1 HSm
      go_wp2_with fail
      refine (HFw.out w1 B1.out).mono ?_
      rintro e w2 ⟨rfl, b2⟩
      have B2 := Hd.mk (below_next B1.out b2)
      clear b2 B1 HFw
      go_wp2
      go_ret
      exact ⟨rfl, B2.out⟩
  · rw [decide_eq_false hf] at HFw
    clear hf
    go_enter Tryd.func6, Tryd.ntmps6
    go_wp2_with fail
    refine HSm.out.mono ?_
    rintro e w1 ⟨rfl, b1⟩
    have B1 := Hd.mk b1
    clear b1 HSm
    go_wp2_with fail
    refine (HFw.out w1 B1.out).mono ?_
    rintro e w2 ⟨rfl, b2⟩
    have B2 := Hd.mk (below_next B1.out b2)
    clear b2 B1 HFw
    go_wp2
    go_ret
    exact ⟨rfl, B2.out⟩

end Go.Proofs.YtimbhnnidohmaaaDoor.W
