import Derived.Test.YtimbhnnidohmaaaDoorGrp6
import Derived.Laws.StructEq
import Derived.Deep.MidRow
import Derived.Test.YtimbhnnidohmaaaDoorGrpP
/-
  The walks of Same, SameDiffers.
-/
namespace Go.Proofs.YtimbhnnidohmaaaDoor.W
open Go.RowKit
set_option linter.unusedVariables false

/-- a row of bools, a row of such rows, a row of differences, read -/
def boolsE (w : World) (cs : List Value) (l : List Bool) : Prop := ∃ v, cs = [v] ∧ Rw 1 boolE w v l
theorem boolsE_stays : Stays boolsE := boolE_stays.row
def dfE (w : World) (cs : List Value) (d : Df) : Prop := cs = d.cells
theorem dfE_stays : Stays dfE := fun _ _ _ _ _ h => h

theorem take_succ_eq {α : Type} {xs ys : List α} {k : Nat} (hl : xs.length = ys.length) (hk : k < xs.length) (ht : xs.take k = ys.take k) (h : xs[k] = ys[k]'(hl ▸ hk)) : xs.take (k + 1) = ys.take (k + 1) := by
  rw [List.take_succ_eq_append_getElem hk, List.take_succ_eq_append_getElem (hl ▸ hk), ht, h]
theorem ne_of_at {α : Type} {xs ys : List α} {k : Nat} (hl : xs.length = ys.length) (hk : k < xs.length) (h : ¬ xs[k] = ys[k]'(hl ▸ hk)) : ¬ xs = ys := fun e => h (by subst e; rfl)

set_option maxHeartbeats 2000000 in
set_option maxRecDepth 100000 in
theorem rsame_any (w : World) (v u : Value) (xs ys : List (List Bool)) (ha : Rw 1 boolsE w v xs) (hb : Rw 1 boolsE w u ys) (hla : xs.length ≤ 1000000) (hra : ∀ l ∈ xs, l.length ≤ 1000000) :
    Calls Tryd.prog 11 #[v, u] w fun e w' => e = .returned (.bool (decide (xs = ys))) ∧ Below w.heap.size w w' := by
  obtain ⟨pa, ca, rfl⟩ := ha.slice
  obtain ⟨pb, cb, rfl⟩ := hb.slice
  have HA := Hd.mk ha
  have HB := Hd.mk hb
  obtain ⟨res, hres⟩ : ∃ r, decide (xs = ys) = r := ⟨_, rfl⟩
  have HRes := Hd.mk hres
  rw [hres]
  obtain ⟨n, hn⟩ : ∃ n, xs.length = n := ⟨_, rfl⟩
  obtain ⟨m, hm⟩ : ∃ m, ys.length = m := ⟨_, rfl⟩
  have HN := Hd.mk (And.intro hn hm)
  have HRa := Hd.mk hra
  rw [hn] at HA hla; rw [hm] at HB
  rw [hn, hm]
  clear ha hb hres hn hm hra
  by_cases hnm : n = m
  · subst hnm
    have hl := HN.out.1.trans HN.out.2.symm
    have HL := Hd.mk hl
    clear hl
    go_enter Tryd.func11, Tryd.ntmps11
    go_wp2
    go_loopw [5] (fun iv wr => ∃ i : Nat, i ≤ n ∧ iv = .int .i64 i ∧ Hd (xs.take i = ys.take i) ∧ Hd (Below w.heap.size w wr)) (fun iv _ => n - (intOf iv).toNat)
    case atStart => exact ⟨0, Nat.zero_le _, rfl, ⟨rfl⟩, ⟨Below.refl _ _⟩⟩
    case round =>
      obtain ⟨i, hi, rfl, HT, HW⟩ := hrel
      by_cases hlt : i < n
      · have hia : i < xs.length := by rw [HN.out.1]; exact hlt
        have hib : i < ys.length := by rw [HN.out.2]; exact hlt
        obtain ⟨ga, oa, cs, hpa, hga, _, hE, hca⟩ := HA.out.at rfl (j := i) hia
        obtain rfl := hpa
        obtain ⟨va, rfl, hva⟩ := hE
        obtain ⟨gb, ob, cs, hpb, hgb, _, hE, hcb⟩ := HB.out.at rfl (j := i) hib
        obtain rfl := hpb
        obtain ⟨vb, rfl, hvb⟩ := hE
        have ea := hca 0 _ rfl
        rw [Nat.mul_one, Nat.add_zero] at ea
        have HCa : Hd (∀ w', Below w.heap.size w w' → w'.cell? ⟨ga, oa + i, none⟩ = some va) := ⟨fun w' h => (h.cell (p := ⟨ga, oa + i, none⟩) hga).trans ea⟩
        have eb := hcb 0 _ rfl
        rw [Nat.mul_one, Nat.add_zero] at eb
        have HCb : Hd (∀ w', Below w.heap.size w w' → w'.cell? ⟨gb, ob + i, none⟩ = some vb) := ⟨fun w' h => (h.cell (p := ⟨gb, ob + i, none⟩) hgb).trans eb⟩
        obtain ⟨qa, da, rfl⟩ := hva.slice
        obtain ⟨qb, db, rfl⟩ := hvb.slice
        have HVa := Hd.mk hva
        have HVb := Hd.mk hvb
        have hlx := HRa.out _ (List.getElem_mem hia)
        have HTs := Hd.mk (fun h => take_succ_eq HL.out hia HT.out h)
        have HNe := Hd.mk (fun h => ne_of_at HL.out hia h)
        obtain ⟨x, hx⟩ : ∃ x, xs[i] = x := ⟨_, rfl⟩
        obtain ⟨y, hy⟩ : ∃ y, ys[i] = y := ⟨_, rfl⟩
        rw [hx] at HVa HCa hlx HTs HNe
        rw [hy] at HVb HCb HTs HNe
        obtain ⟨nx, hnx⟩ : ∃ nx, x.length = nx := ⟨_, rfl⟩
        obtain ⟨ny, hny⟩ : ∃ ny, y.length = ny := ⟨_, rfl⟩
        rw [hnx] at HVa HCa hlx
        rw [hny] at HVb HCb
        have HXY := Hd.mk (And.intro hnx hny)
        have hms : n - (intOf (.int .i64 ((i : Int) + 1))).toNat < n - (intOf (.int .i64 (i : Int))).toNat := by simp [intOf]; omega
        have a1 := HCa.out _ HW.out
        have a2 := HCb.out _ HW.out
        have hin : (i : Int) < (n : Int) := by omega
        clear hca hcb ea eb hga hgb hva hvb hx hy hnx hny
        by_cases hxy : nx = ny
        · subst hxy
          have HW1 : Hd (Below w.heap.size w wr.drew) := ⟨HW.out.trans (Below.refl _ _).drew⟩
          go_wp2_with fail
          go_region
          go_wp2
          go_loopw [6] (fun kv wi => ∃ k : Nat, k ≤ nx ∧ kv = .int .i64 k ∧ Hd (x.take k = y.take k) ∧ Hd (Below w.heap.size w wi)) (fun kv _ => nx - (intOf kv).toNat)
          case atStart => exact ⟨0, Nat.zero_le _, rfl, ⟨rfl⟩, HW1⟩
          case round =>
            clear a1 a2 HW HW1
            obtain ⟨k, hk, rfl, HTk, HWk⟩ := hrel
            have a1 := HCa.out _ HWk.out
            have a2 := HCb.out _ HWk.out
            have hlxy : Hd (x.length = y.length) := ⟨HXY.out.1.trans HXY.out.2.symm⟩
            by_cases hlt2 : k < nx
            · have hkx : k < x.length := by rw [HXY.out.1]; exact hlt2
              have hky : k < y.length := by rw [HXY.out.2]; exact hlt2
              obtain ⟨g1, o1, cs, hp1, hg1, _, hE, hc1⟩ := (HVa.out.below boolE_stays HWk.out).at rfl (j := k) hkx
              obtain rfl := hp1
              obtain rfl : cs = [.bool x[k]] := hE
              obtain ⟨g2, o2, cs, hp2, hg2, _, hE, hc2⟩ := (HVb.out.below boolE_stays HWk.out).at rfl (j := k) hky
              obtain rfl := hp2
              obtain rfl : cs = [.bool y[k]] := hE
              have b1 := hc1 0 _ rfl
              have b2 := hc2 0 _ rfl
              rw [Nat.mul_one, Nat.add_zero] at b1 b2
              have HTs2 := Hd.mk (fun h => take_succ_eq hlxy.out hkx HTk.out h)
              have HNe2 := Hd.mk (fun h => ne_of_at hlxy.out hkx h)
              obtain ⟨bx, hbx⟩ : ∃ bx, x[k] = bx := ⟨_, rfl⟩
              obtain ⟨by_, hby⟩ : ∃ by_, y[k] = by_ := ⟨_, rfl⟩
              rw [hbx] at b1 HTs2 HNe2
              rw [hby] at b2 HTs2 HNe2
              have HW2 : Hd (Below w.heap.size w wr.drew) := ⟨HWk.out.trans (Below.refl _ _).drew⟩
              have hms2 : nx - (intOf (.int .i64 ((k : Int) + 1))).toNat < nx - (intOf (.int .i64 (k : Int))).toNat := by simp [intOf]; omega
              have hkn : (k : Int) < (nx : Int) := by omega
              clear hc1 hc2 hg1 hg2 hbx hby
              by_cases hb : bx = by_
              · subst hb
                have HT2 := Hd.mk (HTs2.out rfl)
                clear HTs2 HNe2
                go_wp2_with fail
                go_region
                go_wp2
                go_roundw
                case rel => exact ⟨k + 1, hlt2, by go_num, HT2, HW2⟩
                case measure => exact hms2
              · have hf : res = false := by rw [← HRes.out]; exact decide_eq_false (HNe.out (HNe2.out hb))
                have HF := Hd.mk hf
                have hbn : (bx == by_) = false := by simpa using hb
                clear HTs2 HNe2 hf
                go_wp2_with fail
                go_region
                go_wp2
                go_ret
                exact ⟨ret_b HF.out.symm, HW2.out⟩
            · have hkn : k = nx := by omega
              subst hkn
              have hd : decide ((k : Int) < (k : Int)) = false := by simp
              have hxe : x = y := by
                have := HTk.out
                rw [List.take_of_length_le (by rw [HXY.out.1]; exact Nat.le_refl _), List.take_of_length_le (by rw [HXY.out.2]; exact Nat.le_refl _)] at this
                exact this
              have HT2 := Hd.mk (HTs.out hxe)
              clear hxe HTs HNe
              go_wp2
              go_roundw
              case rel => exact ⟨i + 1, hlt, by go_num, HT2, HWk⟩
              case measure => exact hms
        · have hf : res = false := by rw [← HRes.out]; exact decide_eq_false (HNe.out (fun e => hxy (by rw [← HXY.out.1, ← HXY.out.2, e])))
          have HF := Hd.mk hf
          have HW2 : Hd (Below w.heap.size w wr.drew) := ⟨HW.out.trans (Below.refl _ _).drew⟩
          have hbn : ((nx : Int) == (ny : Int)) = false := by rw [beq_eq_false_iff_ne]; omega
          clear hf HTs HNe
          go_wp2_with fail
          go_region
          go_wp2
          go_ret
          exact ⟨ret_b HF.out.symm, HW2.out⟩
      · have hin : i = n := by omega
        subst hin
        have hd : decide ((i : Int) < (i : Int)) = false := by simp
        have ht : res = true := by
          rw [← HRes.out]
          have := HT.out
          rw [List.take_of_length_le (by rw [HN.out.1]; exact Nat.le_refl _), List.take_of_length_le (by rw [HN.out.2]; exact Nat.le_refl _)] at this
          exact decide_eq_true this
        have HF := Hd.mk ht
        clear ht
        go_wp2
        go_ret
        exact ⟨ret_b HF.out.symm, HW.out⟩
  · have hf : res = false := by rw [← HRes.out]; exact decide_eq_false (fun e => hnm (by rw [← HN.out.1, ← HN.out.2, e]))
    have HF := Hd.mk hf
    have hbn : ((n : Int) == (m : Int)) = false := by rw [beq_eq_false_iff_ne]; omega
    clear hf
    go_enter Tryd.func11, Tryd.ntmps11
    go_wp2
    go_ret
    exact ⟨ret_b HF.out.symm, Below.refl _ _⟩

end Go.Proofs.YtimbhnnidohmaaaDoor.W

/-
  The walk of SameDiffers.
-/
namespace Go.Proofs.YtimbhnnidohmaaaDoor.W
open Go.RowKit
set_option linter.unusedVariables false

theorem df_eq_iff (d e : Df) : (d.name.toList == e.name.toList && (((d.first : Int) == (e.first : Int)) && ((d.other : Int) == (e.other : Int)))) = decide (d = e) := by
  obtain ⟨a, b, c⟩ := d
  obtain ⟨a', b', c'⟩ := e
  simp only [Df.mk.injEq, str_beq]
  rw [Bool.eq_iff_iff]
  simp only [Bool.and_eq_true, beq_iff_eq, decide_eq_true_eq]
  constructor
  · rintro ⟨h1, h2, h3⟩; exact ⟨h1, Int.ofNat.inj h2, Int.ofNat.inj h3⟩
  · rintro ⟨rfl, rfl, rfl⟩; exact ⟨rfl, rfl, rfl⟩

theorem run_neq_df (w : World) (d e : Df) : (binOp .neq 49 (.agg #[.string d.name, .int .i64 d.first, .int .i64 d.other]) (.agg #[.string e.name, .int .i64 e.first, .int .i64 e.other])).run Tryd.prog w = .ok (.bool (!decide (d = e))) w := by
  have hf : Tryd.prog.underlying 49 = some (.struct (Tryd.prog.fieldsOf 49)) := by kernel_rfl
  have hl : (Tryd.prog.fieldsOf 49).toList.map (fun f => (f.name, f.type, f.offset)) = [("Name", 9, 0), ("First", 3, 1), ("Other", 3, 2)] := by kernel_rfl
  have hh : Tryd.prog.stoodInHeld 49 = false := by kernel_rfl
  rw [run_neq_struct, run_equalIn_struct _ _ _ _ _ hf hh, ← df_eq_iff]
  obtain ⟨f1, l1, e1, hf1, hl⟩ := List.map_eq_cons_iff.1 hl
  obtain ⟨f2, l2, e2, hf2, hl⟩ := List.map_eq_cons_iff.1 hl
  obtain ⟨f3, l3, e3, hf3, hl⟩ := List.map_eq_cons_iff.1 hl
  have e4 := List.map_eq_nil_iff.1 hl
  rw [e1, e2, e3, e4]
  simp only [Prod.mk.injEq] at hf1 hf2 hf3
  obtain ⟨a1, a2, a3⟩ := hf1
  obtain ⟨b1, b2, b3⟩ := hf2
  obtain ⟨c1, c2, c3⟩ := hf3
  have n1 : ("Name" : String) ≠ "_" := by decide
  have n2 : ("First" : String) ≠ "_" := by decide
  have n3 : ("Other" : String) ≠ "_" := by decide
  simp only [Op.eqFields, a1, a2, a3, b1, b2, b3, c1, c2, c3, ne_eq, n1, n2, n3, not_false_eq_true, if_true]
  rcases h1 : d.name.toList == e.name.toList <;> rcases h2 : (d.first : Int) == (e.first : Int) <;> rcases h3 : (d.other : Int) == (e.other : Int) <;> simp [go_sem, h1, h2, h3] <;> simp_all

set_option maxHeartbeats 2000000 in
set_option maxRecDepth 100000 in
theorem rsamed_any (w : World) (v u : Value) (xs ys : List Df) (ha : Rw 3 dfE w v xs) (hb : Rw 3 dfE w u ys) (hla : xs.length ≤ 1000000) :
    Calls Tryd.prog 12 #[v, u] w fun e w' => e = .returned (.bool (decide (xs = ys))) ∧ Below w.heap.size w w' := by
  obtain ⟨pa, ca, rfl⟩ := ha.slice
  obtain ⟨pb, cb, rfl⟩ := hb.slice
  have HA := Hd.mk ha
  have HB := Hd.mk hb
  obtain ⟨res, hres⟩ : ∃ r, decide (xs = ys) = r := ⟨_, rfl⟩
  have HRes := Hd.mk hres
  rw [hres]
  obtain ⟨n, hn⟩ : ∃ n, xs.length = n := ⟨_, rfl⟩
  obtain ⟨m, hm⟩ : ∃ m, ys.length = m := ⟨_, rfl⟩
  have HN := Hd.mk (And.intro hn hm)
  rw [hn] at HA hla; rw [hm] at HB
  rw [hn, hm]
  clear ha hb hres hn hm
  by_cases hnm : n = m
  · subst hnm
    have hl := HN.out.1.trans HN.out.2.symm
    have HL := Hd.mk hl
    clear hl
    go_enter Tryd.func12, Tryd.ntmps12
    go_wp2
    go_loopw [5] (fun iv wr => ∃ i : Nat, i ≤ n ∧ iv = .int .i64 i ∧ Hd (xs.take i = ys.take i) ∧ Hd (Below w.heap.size w wr)) (fun iv _ => n - (intOf iv).toNat)
    case atStart => exact ⟨0, Nat.zero_le _, rfl, ⟨rfl⟩, ⟨Below.refl _ _⟩⟩
    case round =>
      obtain ⟨i, hi, rfl, HT, HW⟩ := hrel
      by_cases hlt : i < n
      · have hia : i < xs.length := by rw [HN.out.1]; exact hlt
        have hib : i < ys.length := by rw [HN.out.2]; exact hlt
        obtain ⟨ga, oa, cs, hpa, hga, _, hE, hca⟩ := HA.out.at rfl (j := i) hia
        obtain rfl := hpa
        obtain rfl : cs = xs[i].cells := hE
        obtain ⟨gb, ob, cs, hpb, hgb, _, hE, hcb⟩ := HB.out.at rfl (j := i) hib
        obtain rfl := hpb
        obtain rfl : cs = ys[i].cells := hE
        have HTs := Hd.mk (fun h => take_succ_eq HL.out hia HT.out h)
        have HNe := Hd.mk (fun h => ne_of_at HL.out hia h)
        obtain ⟨x, hx⟩ : ∃ x, xs[i] = x := ⟨_, rfl⟩
        obtain ⟨y, hy⟩ : ∃ y, ys[i] = y := ⟨_, rfl⟩
        rw [hx] at hca HTs HNe
        rw [hy] at hcb HTs HNe
        clear hx hy
        have HXC : Hd (∀ w', Below w.heap.size w w' → w'.rangeAt ga (oa + i * 3) [.string x.name, .int .i64 x.first, .int .i64 x.other]) := ⟨fun w' h k u hu => (h.cell (p := ⟨ga, oa + i * 3 + k, none⟩) hga).trans (hca k u hu)⟩
        have HYC : Hd (∀ w', Below w.heap.size w w' → w'.rangeAt gb (ob + i * 3) [.string y.name, .int .i64 y.first, .int .i64 y.other]) := ⟨fun w' h k u hu => (h.cell (p := ⟨gb, ob + i * 3 + k, none⟩) hgb).trans (hcb k u hu)⟩
        have HW1 : Hd (Below w.heap.size w wr.drew) := ⟨HW.out.trans (Below.refl _ _).drew⟩
        have hms : n - (intOf (.int .i64 ((i : Int) + 1))).toNat < n - (intOf (.int .i64 (i : Int))).toNat := by simp [intOf]; omega
        have hin : (i : Int) < (n : Int) := by omega
        clear hca hcb hga hgb
        have a0 := HXC.out _ HW1.out 0 _ rfl
        have a1 := HXC.out _ HW1.out 1 _ rfl
        have a2 := HXC.out _ HW1.out 2 _ rfl
        have b0 := HYC.out _ HW1.out 0 _ rfl
        have b1 := HYC.out _ HW1.out 1 _ rfl
        have b2 := HYC.out _ HW1.out 2 _ rfl
        rw [Nat.add_zero] at a0 b0
        have hrun := fun w' => run_neq_df w' x y
        by_cases hxy : x = y
        · rw [decide_eq_true hxy, Bool.not_true] at hrun
          have HT2 := Hd.mk (HTs.out hxy)
          clear hxy HTs HNe
          go_wp2_with fail
          go_region
          go_wp2
          go_roundw
          case rel => exact ⟨i + 1, hlt, by go_num, HT2, HW1⟩
          case measure => exact hms
        · rw [decide_eq_false hxy, Bool.not_false] at hrun
          have hf : res = false := by rw [← HRes.out]; exact decide_eq_false (HNe.out hxy)
          have HF := Hd.mk hf
          clear hf hxy HTs HNe
          go_wp2_with fail
          go_region
          go_wp2
          go_ret
          exact ⟨ret_b HF.out.symm, HW1.out⟩
      · have hin : i = n := by omega
        subst hin
        have hd : decide ((i : Int) < (i : Int)) = false := by simp
        have ht : res = true := by
          rw [← HRes.out]
          have := HT.out
          rw [List.take_of_length_le (by rw [HN.out.1]; exact Nat.le_refl _), List.take_of_length_le (by rw [HN.out.2]; exact Nat.le_refl _)] at this
          exact decide_eq_true this
        have HF := Hd.mk ht
        clear ht
        go_wp2
        go_ret
        exact ⟨ret_b HF.out.symm, HW.out⟩
  · have hf : res = false := by rw [← HRes.out]; exact decide_eq_false (fun e => hnm (by rw [← HN.out.1, ← HN.out.2, e]))
    have HF := Hd.mk hf
    have hbn : ((n : Int) == (m : Int)) = false := by rw [beq_eq_false_iff_ne]; omega
    clear hf
    go_enter Tryd.func12, Tryd.ntmps12
    go_wp2
    go_ret
    exact ⟨ret_b HF.out.symm, Below.refl _ _⟩

end Go.Proofs.YtimbhnnidohmaaaDoor.W

/-
  The walk of the law's bounds.
-/
namespace Go.Proofs.YtimbhnnidohmaaaDoor.W
open Go.RowKit
set_option linter.unusedVariables false

def FewS (s : Sec) : Prop := s.bytes.size ≤ 200 ∧ s.name.size ≤ 100
def FewG (g : Grp) : Prop := g.secs.length ≤ 10 ∧ g.name.size ≤ 100
def FewO (o : Ob) : Prop := (o.secs.length ≤ 20 ∧ o.groups.length ≤ 10) ∧ (∀ s ∈ o.secs, FewS s) ∧ ∀ g ∈ o.groups, FewG g
def Few (l : List Ob) : Prop := l.length ≤ 8 ∧ ∀ o ∈ l, FewO o
instance (s : Sec) : Decidable (FewS s) := by unfold FewS; infer_instance
instance (s : Grp) : Decidable (FewG s) := by unfold FewG; infer_instance
instance (o : Ob) : Decidable (FewO o) := by unfold FewO; infer_instance
instance (l : List Ob) : Decidable (Few l) := by unfold Few; infer_instance
theorem Few.keep {l : List Ob} (h : Few l) (hok : ∀ o ∈ l, o.Ok) : KeepOk l :=
  ⟨Nat.le_trans h.1 (by decide), hok, fun o ho => Nat.le_trans (h.2 o ho).1.1 (by decide), fun o ho => Nat.le_trans (h.2 o ho).1.2 (by decide), fun o ho s hs => Nat.le_trans ((h.2 o ho).2.1 s hs).1 (by decide), fun o ho g hg => Nat.le_trans ((h.2 o ho).2.2 g hg).1 (by decide)⟩

theorem all_take {α : Type} {P : α → Prop} {l : List α} {k : Nat} (hk : k < l.length) (h : ∀ x ∈ l.take k, P x) (h1 : P l[k]) : ∀ x ∈ l.take (k + 1), P x := by
  intro x hx
  rw [List.take_succ_eq_append_getElem hk] at hx
  rcases List.mem_append.1 hx with hx | hx
  · exact h x hx
  · have : x = l[k] := by simpa using hx
    exact this ▸ h1

set_option maxHeartbeats 4000000 in
set_option maxRecDepth 100000 in
theorem gfew_any (w : World) (v : Value) (l : List Ob) (hR : Rw 11 Ob.E w v l) (hl : l.length ≤ 140737488351232) (hok : ∀ o ∈ l, o.Ok) :
    Calls Tryd.prog 8 #[v] w fun e w' => e = .returned (.bool (decide (Few l))) ∧ Below w.heap.size w w' := by
  obtain ⟨p, c, rfl⟩ := hR.slice
  have HR := Hd.mk hR
  obtain ⟨res, hres⟩ : ∃ r, decide (Few l) = r := ⟨_, rfl⟩
  have HRes := Hd.mk hres
  rw [hres]
  obtain ⟨M, hM⟩ : ∃ M, l.length = M := ⟨_, rfl⟩
  have HM := Hd.mk hM
  have HOk := Hd.mk hok
  have HF := Hd.mk (fun (h : ¬ Few l) => show res = false by rw [← HRes.out]; exact decide_eq_false h)
  rw [hM] at HR hl
  rw [hM]
  clear hR hres hM hok
  by_cases h8 : M ≤ 8
  · have t8 : decide ((8 : Int) < (M : Int)) = false := decide_eq_false (by omega)
    go_enter Tryd.func8, Tryd.ntmps8
    go_wp2
    go_loopw [3] (fun iv wr => ∃ i : Nat, i ≤ M ∧ iv = .int .i64 i ∧ Hd (∀ o ∈ l.take i, FewO o) ∧ Hd (Below w.heap.size w wr)) (fun iv _ => M - (intOf iv).toNat)
    case atStart => exact ⟨0, Nat.zero_le _, rfl, ⟨by simp⟩, ⟨Below.refl _ _⟩⟩
    case round =>
      obtain ⟨i, hi, rfl, HT, HW⟩ := hrel
      by_cases hlt : i < M
      · have hil : i < l.length := by rw [HM.out]; exact hlt
        obtain ⟨g, of, x1, x2, x3, x4, x5, x6, x7, x8, x9, x10, rfl, hg, hA, hC0⟩ := HR.out.obj rfl hil
        have hC := hC0.below HW.out hg
        have hmo := List.getElem_mem hil
        have HN := Hd.mk (fun (h : ¬ FewO l[i]) => HF.out (fun f => h (f.2 _ hmo)))
        have HS := Hd.mk (fun h => all_take (P := FewO) hil HT.out h)
        have HO := Hd.mk (HOk.out _ hmo)
        obtain ⟨o, ho⟩ : ∃ o, l[i] = o := ⟨_, rfl⟩
        rw [ho] at hA hC HN HS HO
        obtain ⟨p1, c1, rfl⟩ := hA.secs.slice
        obtain ⟨p4, c4, rfl⟩ := hA.groups.slice
        obtain ⟨x2, hx2, p2, c2, n2, rfl⟩ : ∃ y, x2 = y ∧ ∃ p c n, y = .slice p n c := ⟨_, rfl, by obtain ⟨p, c, h⟩ := hA.syms.slice; exact ⟨p, c, _, h⟩⟩
        obtain ⟨x3, hx3, p3, c3, n3, rfl⟩ : ∃ y, x3 = y ∧ ∃ p c n, y = .slice p n c := ⟨_, rfl, by obtain ⟨p, c, h⟩ := hA.rels.slice; exact ⟨p, c, _, h⟩⟩
        obtain ⟨x5, hx5, p5, c5, n5, rfl⟩ : ∃ y, x5 = y ∧ ∃ p c n, y = .slice p n c := ⟨_, rfl, by obtain ⟨p, c, h⟩ := hA.inits.slice; exact ⟨p, c, _, h⟩⟩
        obtain ⟨x6, hx6, p6, c6, n6, rfl⟩ : ∃ y, x6 = y ∧ ∃ p c n, y = .slice p n c := ⟨_, rfl, by obtain ⟨p, c, h⟩ := hA.lines.slice; exact ⟨p, c, _, h⟩⟩
        obtain ⟨x7, hx7, p7, c7, n7, rfl⟩ : ∃ y, x7 = y ∧ ∃ p c n, y = .slice p n c := ⟨_, rfl, by obtain ⟨p, c, h⟩ := hA.inlines.slice; exact ⟨p, c, _, h⟩⟩
        obtain ⟨x8, hx8, p8, c8, n8, rfl⟩ : ∃ y, x8 = y ∧ ∃ p c n, y = .slice p n c := ⟨_, rfl, by obtain ⟨p, c, h⟩ := hA.vars.slice; exact ⟨p, c, _, h⟩⟩
        obtain ⟨x9, hx9, p9, c9, n9, rfl⟩ : ∃ y, x9 = y ∧ ∃ p c n, y = .slice p n c := ⟨_, rfl, by obtain ⟨p, c, h⟩ := hA.depths.slice; exact ⟨p, c, _, h⟩⟩
        obtain ⟨x10, hx10, p10, c10, n10, rfl⟩ : ∃ y, x10 = y ∧ ∃ p c n, y = .slice p n c := ⟨_, rfl, by obtain ⟨p, c, h⟩ := hA.converts.slice; exact ⟨p, c, _, h⟩⟩
        subst hx2 hx3 hx5 hx6 hx7 hx8 hx9 hx10
        obtain ⟨N, hN⟩ : ∃ N, o.secs.length = N := ⟨_, rfl⟩
        obtain ⟨G, hG⟩ : ∃ G, o.groups.length = G := ⟨_, rfl⟩
        have HNG := Hd.mk (And.intro hN hG)
        rw [hN, hG] at hA hC
        have HA := Hd.mk hA
        have hms : M - (intOf (.int .i64 ((i : Int) + 1))).toNat < M - (intOf (.int .i64 (i : Int))).toNat := by simp [intOf]; omega
        obtain ⟨d0, d1, d2, d3, d4, d5, d6, d7, d8, d9, d10⟩ := hC
        have hiM : (i : Int) < (M : Int) := by omega
        clear hA ho hN hG hmo hg hC0
        go_upto_region 7 with (fail)
        obtain ⟨w2, hw2⟩ : ∃ w2, wr.alloc (.cells #[.string o.name, .slice p1 N c1, .slice p2 n2 c2, .slice p3 n3 c3, .slice p4 G c4, .slice p5 n5 c5, .slice p6 n6 c6, .slice p7 n7 c7, .slice p8 n8 c8, .slice p9 n9 c9, .slice p10 n10 c10] 43) = w2 := ⟨_, rfl⟩
        have HOb : Hd (Blk w2 wr.heap.size 43 (o.cells (.slice p1 N c1) (.slice p2 n2 c2) (.slice p3 n3 c3) (.slice p4 G c4) (.slice p5 n5 c5) (.slice p6 n6 c6) (.slice p7 n7 c7) (.slice p8 n8 c8) (.slice p9 n9 c9) (.slice p10 n10 c10))) := ⟨hw2 ▸ Blk.new wr 43 (o.cells (.slice p1 N c1) (.slice p2 n2 c2) (.slice p3 n3 c3) (.slice p4 G c4) (.slice p5 n5 c5) (.slice p6 n6 c6) (.slice p7 n7 c7) (.slice p8 n8 c8) (.slice p9 n9 c9) (.slice p10 n10 c10))⟩
        have HW2 : Hd (Below w.heap.size w w2) := ⟨hw2 ▸ HW.out.alloc HW.out.size _⟩
        obtain ⟨ob, hob⟩ : ∃ ob, wr.heap.size = ob := ⟨_, rfl⟩
        rw [hob] at HOb
        rw [hob]
        have hC2 := HOb.out.obj
        have HC2 := Hd.mk hC2
        have e1 := hC2.c1
        have e4 := hC2.c4
        simp only [Nat.zero_add] at e1 e4
        clear d0 d1 d2 d3 d4 d5 d6 d7 d8 d9 d10 hC2
        by_cases hNs : N ≤ 20
        · have t1 : decide ((20 : Int) < (N : Int)) = false := decide_eq_false (by omega)
          by_cases hGs : G ≤ 10
          · have t2 : decide ((10 : Int) < (G : Int)) = false := decide_eq_false (by omega)
            go_wp2
            go_loopw [5] (fun kv wi => ∃ k : Nat, k ≤ N ∧ kv = .int .i64 k ∧ Hd (∀ s ∈ o.secs.take k, FewS s) ∧ w2 = wi) (fun kv _ => N - (intOf kv).toNat)
            case atStart => exact ⟨0, Nat.zero_le _, rfl, ⟨by simp⟩, by first | rfl | trivial⟩
            case round =>
              obtain ⟨k, hk, rfl, HK, rfl⟩ := hrel
              by_cases hlt2 : k < N
              · have hkl : k < o.secs.length := by rw [HNG.out.1]; exact hlt2
                obtain ⟨gg, og, cs, rfl, hgg, _, hE, hcg⟩ := HA.out.secs.at rfl (j := k) hkl
                obtain rfl : cs = o.secs[k].cells := hE
                have hms_ := List.getElem_mem hkl
                have HN2 := Hd.mk (fun (h : ¬ FewS o.secs[k]) => HN.out (fun f => h (f.2.1 _ hms_)))
                have HS2 := Hd.mk (fun h => all_take (P := FewS) hkl HK.out h)
                have gc0 := (HW2.out.cell (p := ⟨gg, og + k * 6 + 0, none⟩) hgg).trans (hcg 0 _ rfl)
                have gc4 := (HW2.out.cell (p := ⟨gg, og + k * 6 + 4, none⟩) hgg).trans (hcg 4 _ rfl)
                rw [Nat.add_zero] at gc0
                have hsz := HO.out.secsI _ hms_
                obtain ⟨sn, hsn⟩ : ∃ x, o.secs[k].name = x := ⟨_, rfl⟩
                obtain ⟨sb, hsb⟩ : ∃ x, o.secs[k].bytes = x := ⟨_, rfl⟩
                have hz1 := hsz.name
                have hz2 := hsz.bytes
                unfold lenR at hz1 hz2
                rw [hsn] at gc0 hz1; rw [hsb] at gc4 hz2
                have HSB := Hd.mk (And.intro hsn hsb)
                have hms2 : N - (intOf (.int .i64 ((k : Int) + 1))).toNat < N - (intOf (.int .i64 (k : Int))).toNat := by simp [intOf]; omega
                have hkN : (k : Int) < (N : Int) := by omega
                clear hcg hgg hsn hsb hms_ hsz
                by_cases hb : sb.size ≤ 200
                · have t3 : decide ((200 : Int) < (sb.size : Int)) = false := decide_eq_false (by omega)
                  by_cases hb2 : sn.size ≤ 100
                  · have t4 : decide ((100 : Int) < (sn.size : Int)) = false := decide_eq_false (by omega)
                    have HK2 := Hd.mk (HS2.out ⟨by rw [HSB.out.2]; exact hb, by rw [HSB.out.1]; exact hb2⟩)
                    clear HN2 HS2
                    go_wp2
                    go_roundw
                    case rel => exact ⟨k + 1, hlt2, by go_num, HK2, by first | rfl | trivial⟩
                    case measure => exact hms2
                  · have t4 : decide ((100 : Int) < (sn.size : Int)) = true := decide_eq_true (by omega)
                    have hf := HN2.out (fun f => hb2 (by rw [← HSB.out.1]; exact f.2))
                    have HFF := Hd.mk hf
                    clear HN2 HS2 hf
                    go_wp2
                    go_ret
                    exact ⟨ret_b HFF.out.symm, HW2.out⟩
                · have t3 : decide ((200 : Int) < (sb.size : Int)) = true := decide_eq_true (by omega)
                  have hf := HN2.out (fun f => hb (by rw [← HSB.out.2]; exact f.1))
                  have HFF := Hd.mk hf
                  clear HN2 HS2 hf
                  go_wp2
                  go_ret
                  exact ⟨ret_b HFF.out.symm, HW2.out⟩
              · have hkn : k = N := by omega
                subst hkn
                have hd : decide ((k : Int) < (k : Int)) = false := by simp
                have HSecs : Hd (∀ s ∈ o.secs, FewS s) := ⟨by have := HK.out; rw [List.take_of_length_le (by rw [HNG.out.1]; exact Nat.le_refl _)] at this; exact this⟩
                go_wp2
                go_loopw [6] (fun kv wi => ∃ j : Nat, j ≤ G ∧ kv = .int .i64 j ∧ Hd (∀ s ∈ o.groups.take j, FewG s) ∧ w2 = wi) (fun kv _ => G - (intOf kv).toNat)
                case atStart => exact ⟨0, Nat.zero_le _, rfl, ⟨by simp⟩, by first | rfl | trivial⟩
                case round =>
                  obtain ⟨j, hj, rfl, HJ, rfl⟩ := hrel
                  by_cases hlt3 : j < G
                  · have hjl : j < o.groups.length := by rw [HNG.out.2]; exact hlt3
                    obtain ⟨gg, og, cs, rfl, hgg, _, hE, hcg⟩ := HA.out.groups.at rfl (j := j) hjl
                    have hms_ := List.getElem_mem hjl
                    have HN2 := Hd.mk (fun (h : ¬ FewG o.groups[j]) => HN.out (fun f => h (f.2.2 _ hms_)))
                    have HS2 := Hd.mk (fun h => all_take (P := FewG) hjl HJ.out h)
                    have hsz := HO.out.groupsI _ hms_
                    obtain ⟨gr, hgr⟩ : ∃ gr, o.groups[j] = gr := ⟨_, rfl⟩
                    rw [hgr] at hE HN2 HS2 hsz
                    obtain ⟨gv, rfl, hgA⟩ := hE
                    obtain ⟨pg, cg, rfl⟩ := hgA.secs.slice
                    have gc0 := (HW2.out.cell (p := ⟨gg, og + j * 2 + 0, none⟩) hgg).trans (hcg 0 _ rfl)
                    have gc1 := (HW2.out.cell (p := ⟨gg, og + j * 2 + 1, none⟩) hgg).trans (hcg 1 _ rfl)
                    rw [Nat.add_zero] at gc0
                    obtain ⟨sn, hsn⟩ : ∃ x, gr.name = x := ⟨_, rfl⟩
                    obtain ⟨sb, hsb⟩ : ∃ x, gr.secs.length = x := ⟨_, rfl⟩
                    have hz1 := hsz.name
                    have hz2 := hsz.secs
                    unfold lenR at hz1 hz2
                    rw [hsn] at gc0 hz1; rw [hsb] at gc1 hz2
                    have HSB := Hd.mk (And.intro hsn hsb)
                    have hms2 : G - (intOf (.int .i64 ((j : Int) + 1))).toNat < G - (intOf (.int .i64 (j : Int))).toNat := by simp [intOf]; omega
                    have hkN : (j : Int) < (G : Int) := by omega
                    clear hcg hgg hsn hsb hms_ hsz hgA hgr
                    by_cases hb : sb ≤ 10
                    · have t3 : decide ((10 : Int) < (sb : Int)) = false := decide_eq_false (by omega)
                      by_cases hb2 : sn.size ≤ 100
                      · have t4 : decide ((100 : Int) < (sn.size : Int)) = false := decide_eq_false (by omega)
                        have HK2 := Hd.mk (HS2.out ⟨by rw [HSB.out.2]; exact hb, by rw [HSB.out.1]; exact hb2⟩)
                        clear HN2 HS2
                        go_wp2
                        go_roundw
                        case rel => exact ⟨j + 1, hlt3, by go_num, HK2, by first | rfl | trivial⟩
                        case measure => exact hms2
                      · have t4 : decide ((100 : Int) < (sn.size : Int)) = true := decide_eq_true (by omega)
                        have hf := HN2.out (fun f => hb2 (by rw [← HSB.out.1]; exact f.2))
                        have HFF := Hd.mk hf
                        clear HN2 HS2 hf
                        go_wp2
                        go_ret
                        exact ⟨ret_b HFF.out.symm, HW2.out⟩
                    · have t3 : decide ((10 : Int) < (sb : Int)) = true := decide_eq_true (by omega)
                      have hf := HN2.out (fun f => hb (by rw [← HSB.out.2]; exact f.1))
                      have HFF := Hd.mk hf
                      clear HN2 HS2 hf
                      go_wp2
                      go_ret
                      exact ⟨ret_b HFF.out.symm, HW2.out⟩
                  · have hjn : j = G := by omega
                    subst hjn
                    have hd2 : decide ((j : Int) < (j : Int)) = false := by simp
                    have hfo : FewO o := ⟨⟨by rw [HNG.out.1]; exact hNs, by rw [HNG.out.2]; exact hGs⟩, HSecs.out, by have := HJ.out; rw [List.take_of_length_le (by rw [HNG.out.2]; exact Nat.le_refl _)] at this; exact this⟩
                    have HT2 := Hd.mk (HS.out hfo)
                    clear hfo HS HN
                    go_wp2
                    go_roundw
                    case rel => exact ⟨i + 1, hlt, by go_num, HT2, HW2⟩
                    case measure => exact hms
          · have t2 : decide ((10 : Int) < (G : Int)) = true := decide_eq_true (by omega)
            have hf := HN.out (fun f => hGs (by rw [← HNG.out.2]; exact f.1.2))
            have HFF := Hd.mk hf
            clear HN HS hf
            go_wp2
            go_ret
            exact ⟨ret_b HFF.out.symm, HW2.out⟩
        · have t1 : decide ((20 : Int) < (N : Int)) = true := decide_eq_true (by omega)
          have hf := HN.out (fun f => hNs (by rw [← HNG.out.1]; exact f.1.1))
          have HFF := Hd.mk hf
          clear HN HS hf
          go_wp2
          go_ret
          exact ⟨ret_b HFF.out.symm, HW2.out⟩
      · have hin : i = M := by omega
        subst hin
        have hd : decide ((i : Int) < (i : Int)) = false := by simp
        have ht : res = true := by
          rw [← HRes.out]
          have := HT.out
          rw [List.take_of_length_le (by rw [HM.out]; exact Nat.le_refl _)] at this
          exact decide_eq_true ⟨by rw [HM.out]; exact h8, this⟩
        have HFF := Hd.mk ht
        clear ht
        go_wp2
        go_ret
        exact ⟨ret_b HFF.out.symm, HW.out⟩
  · have t8 : decide ((8 : Int) < (M : Int)) = true := decide_eq_true (by omega)
    have hf := HF.out (fun f => h8 (by rw [← HM.out]; exact f.1))
    have HFF := Hd.mk hf
    clear HF hf
    go_enter Tryd.func8, Tryd.ntmps8
    go_wp2
    go_ret
    exact ⟨ret_b HFF.out.symm, Below.refl _ _⟩

end Go.Proofs.YtimbhnnidohmaaaDoor.W

/-
  What Keep yields, as rows to be read.
-/
namespace Go.Proofs.YtimbhnnidohmaaaDoor.W
open Go.RowKit
set_option linter.unusedVariables false

theorem dCells_at : ∀ (l : List Df) (j i : Nat) (x : Df) (u : Value), l[j]? = some x → x.cells[i]? = some u → (dCells l)[j * 3 + i]? = some u
  | [], j, i, x, u, h, _ => by simp at h
  | d :: l, 0, i, x, u, h, hu => by
    have : d = x := by simpa using h
    subst this
    have hi : i < d.cells.length := (List.getElem?_eq_some_iff.1 hu).1
    show (d.cells ++ dCells l)[0 * 3 + i]? = _
    rw [Nat.zero_mul, Nat.zero_add, List.getElem?_append_left hi, hu]
  | d :: l, j + 1, i, x, u, h, hu => by
    have h3 : d.cells.length = 3 := rfl
    show (d.cells ++ dCells l)[(j + 1) * 3 + i]? = _
    rw [List.getElem?_append_right (by omega), h3, show (j + 1) * 3 + i - 3 = j * 3 + i by omega]
    exact dCells_at l j i x u (by simpa using h) hu
theorem DRow.row {w : World} {v : Value} {l : List Df} (h : DRow w v l) : Rw 3 dfE w v l := by
  rcases h.is.2 with ⟨rfl, h0⟩ | ⟨b, cap, cur, rfl, _, hb, _, _, _, ht⟩
  · exact ⟨.inl ⟨List.eq_nil_of_length_eq_zero h0, .inl rfl⟩⟩
  · refine ⟨.inr ⟨b, 0, cap, rfl, typ_lt hb, fun j x hx => ⟨x.cells, rfl, rfl, fun i u hu => ?_⟩⟩⟩
    have h1 := dCells_at l j i x u hx hu
    rw [← ht, List.getElem?_take] at h1
    split at h1
    · rw [Nat.zero_add]
      simp [World.cell?, hb]
      simpa using h1
    · cases h1
theorem Own.bools {w : World} {B : Nat} {v : Value} {l : List Bool} (h : Own w B 4 v (boolsV l)) : Rw 1 boolE w v l :=
  Rw.of_own h (boolsV_len l) (fun j x u hx hu => by rw [boolsV, List.getElem?_map, hx] at hu; cases hu; rfl)
theorem OSt.rows {w wr : World} {Mb : Nat} {kpv dv : Value} {κ : KAl} (h : OSt w wr Mb kpv dv κ) : Rw 1 boolsE wr kpv κ.keep ∧ Rw 3 dfE wr dv κ.differ := by
  obtain ⟨vs, h1, h2, h3⟩ := h.p
  refine ⟨Rw.of_own h1 h2 (fun j x u hx hu => ?_), h.d.row⟩
  obtain ⟨hj, rfl⟩ := List.getElem?_eq_some_iff.1 hx
  obtain ⟨hj', rfl⟩ := List.getElem?_eq_some_iff.1 hu
  exact ⟨_, rfl, (h3 j hj' hj).bools⟩

theorem Rw.differs {w : World} {g : Nat} {l : List Df} (hb : Blk w g 49 (dCells l)) {cap : Nat} : Rw 3 dfE w (.slice (some ⟨g, 0, none⟩) l.length cap) l := by
  refine ⟨.inr ⟨g, 0, cap, rfl, hb.lt, fun j x hx => ⟨x.cells, rfl, rfl, fun i u hu => ?_⟩⟩⟩
  rw [Nat.zero_add]
  exact hb.at (dCells_at l j i x u hx hu)

end Go.Proofs.YtimbhnnidohmaaaDoor.W

/-
  The law's own examples, in plain words, reckoned by the kernel.
-/
namespace Go.Proofs.YtimbhnnidohmaaaDoor.W
set_option linter.unusedVariables false

def exSec (b : ByteArray) : List Sec := [⟨⟨#[97]⟩, 0, 1, 0, ⟨#[]⟩, false⟩, ⟨⟨#[98]⟩, 1, 1, 1, b, false⟩]
def exOb (n b : ByteArray) : Ob := ⟨n, exSec b, [], [], [⟨⟨#[103]⟩, [1]⟩], [], [], [], [], [], []⟩
def exA : Ob := exOb ⟨#[120]⟩ ⟨#[49]⟩
def exB : Ob := exOb ⟨#[121]⟩ ⟨#[49]⟩
def exC : Ob := exOb ⟨#[120]⟩ ⟨#[50]⟩
theorem ex_keep : (keepR [exA, exB]).keep = [[true, true], [true, false]] := by decide +kernel
theorem ex_none : (keepR [exA, exB]).differ = [] := by decide +kernel
theorem ex_one : (keepR [exA, exC]).differ = [⟨⟨#[103]⟩, 0, 1⟩] := by decide +kernel

end Go.Proofs.YtimbhnnidohmaaaDoor.W

/-
  The walk of the law's own examples.
-/
namespace Go.Proofs.YtimbhnnidohmaaaDoor.W
open Go.RowKit
set_option linter.unusedVariables false

theorem ex_at {w : World} {hs hi hg : Nat} (n b : ByteArray) (h1 : Blk w hs 52 [.string ⟨#[97]⟩, .int .i64 0, .int .i64 1, .int .i64 0, .string ⟨#[]⟩, .bool false, .string ⟨#[98]⟩, .int .i64 1, .int .i64 1, .int .i64 1, .string b, .bool false])
    (h2 : Blk w hi 3 [.int .i64 1]) (h3 : Blk w hg 47 [.string ⟨#[103]⟩, .slice (some ⟨hi, 0, none⟩) 1 1]) :
    (exOb n b).At w (.slice (some ⟨hs, 0, none⟩) 2 2) (.slice none 0 0) (.slice none 0 0) (.slice (some ⟨hg, 0, none⟩) 1 1) (.slice none 0 0) (.slice none 0 0) (.slice none 0 0) (.slice none 0 0) (.slice none 0 0) (.slice none 0 0) := by
  refine ⟨?_, Rw.nil w, Rw.nil w, ?_, Rw.nil w, Rw.nil w, Rw.nil w, Rw.nil w, Rw.nil w, Rw.nil w⟩
  · refine Rw.of_blk (xs := exSec b) h1 (css := (exSec b).map Sec.cells) rfl rfl (fun cs hcs => ?_) (fun j x cs hx hc => ?_)
    · obtain ⟨s, _, rfl⟩ := List.mem_map.1 hcs; rfl
    · rw [List.getElem?_map, hx] at hc; cases hc; rfl
  · refine Rw.of_blk (xs := [(⟨⟨#[103]⟩, [1]⟩ : Grp)]) h3 (css := [[.string ⟨#[103]⟩, .slice (some ⟨hi, 0, none⟩) 1 1]]) rfl rfl (fun cs hcs => ?_) (fun j x cs hx hc => ?_)
    · have : cs = [.string ⟨#[103]⟩, .slice (some ⟨hi, 0, none⟩) 1 1] := by simpa using hcs
      subst this; rfl
    · cases j with
      | zero =>
        have e1 : (⟨⟨#[103]⟩, [1]⟩ : Grp) = x := by simpa using hx
        have e2 : [.string ⟨#[103]⟩, .slice (some ⟨hi, 0, none⟩) 1 1] = cs := by simpa using hc
        subst e1; subst e2
        exact ⟨_, rfl, ⟨Rw.ints (ks := [1]) h2⟩⟩
      | succ j => simp at hx

/-- an example's object's cells -/
def exCells (n : ByteArray) (hs hg : Nat) : List Value := [.string n, .slice (some ⟨hs, 0, none⟩) 2 2, .slice none 0 0, .slice none 0 0, .slice (some ⟨hg, 0, none⟩) 1 1, .slice none 0 0, .slice none 0 0, .slice none 0 0, .slice none 0 0, .slice none 0 0, .slice none 0 0]
theorem ex_row {w : World} {hs hg hs' hg' hr : Nat} {n b n' b' : ByteArray}
    (h : (exOb n b).At w (.slice (some ⟨hs, 0, none⟩) 2 2) (.slice none 0 0) (.slice none 0 0) (.slice (some ⟨hg, 0, none⟩) 1 1) (.slice none 0 0) (.slice none 0 0) (.slice none 0 0) (.slice none 0 0) (.slice none 0 0) (.slice none 0 0))
    (h' : (exOb n' b').At w (.slice (some ⟨hs', 0, none⟩) 2 2) (.slice none 0 0) (.slice none 0 0) (.slice (some ⟨hg', 0, none⟩) 1 1) (.slice none 0 0) (.slice none 0 0) (.slice none 0 0) (.slice none 0 0) (.slice none 0 0) (.slice none 0 0))
    (hr' : Blk w hr 43 (exCells n hs hg ++ exCells n' hs' hg')) : Rw 11 Ob.E w (.slice (some ⟨hr, 0, none⟩) 2 2) [exOb n b, exOb n' b'] := by
  refine Rw.of_blk (xs := [exOb n b, exOb n' b']) hr' (css := [exCells n hs hg, exCells n' hs' hg']) (by simp) rfl (fun cs hcs => ?_) (fun j x cs hx hc => ?_)
  · have : cs = exCells n hs hg ∨ cs = exCells n' hs' hg' := by simpa using hcs
    rcases this with rfl | rfl <;> rfl
  · match j with
    | 0 =>
      have e1 : exOb n b = x := by simpa using hx
      have e2 : exCells n hs hg = cs := by simpa using hc
      subst e1; subst e2
      exact ⟨_, _, _, _, _, _, _, _, _, _, rfl, h⟩
    | 1 =>
      have e1 : exOb n' b' = x := by simpa using hx
      have e2 : exCells n' hs' hg' = cs := by simpa using hc
      subst e1; subst e2
      exact ⟨_, _, _, _, _, _, _, _, _, _, rfl, h'⟩
    | j + 2 => simp at hx

def exSecV (b : ByteArray) : List Value := [.string ⟨#[97]⟩, .int .i64 0, .int .i64 1, .int .i64 0, .string ⟨#[]⟩, .bool false, .string ⟨#[98]⟩, .int .i64 1, .int .i64 1, .int .i64 1, .string b, .bool false]
/-- the world behind the examples -/
def exW (w : World) : World :=
  (((((((w.alloc (.cells (exSecV ⟨#[49]⟩).toArray 52)).alloc (.cells #[.int .i64 1] 3)).alloc (.cells #[.string ⟨#[103]⟩, .slice (some ⟨w.heap.size + 1, 0, none⟩) 1 1] 47)).alloc
    (.cells (exCells ⟨#[120]⟩ w.heap.size (w.heap.size + 1 + 1)).toArray 43)).alloc
    (.cells (exCells ⟨#[121]⟩ w.heap.size (w.heap.size + 1 + 1)).toArray 43)).alloc
    (.cells (exCells ⟨#[120]⟩ (w.heap.size + 1 + 1 + 1 + 1 + 1 + 1) (w.heap.size + 1 + 1)).toArray 43)).alloc
    (.cells (exSecV ⟨#[50]⟩).toArray 52)).alloc
    (.cells (exCells ⟨#[120]⟩ w.heap.size (w.heap.size + 1 + 1) ++ exCells ⟨#[121]⟩ w.heap.size (w.heap.size + 1 + 1)).toArray 43)

structure ExSt (w0 : World) (w : World) : Prop where
  s0 : Blk w w0.heap.size 52 (exSecV ⟨#[49]⟩)
  s1 : Blk w (w0.heap.size + 1) 3 [.int .i64 1]
  s2 : Blk w (w0.heap.size + 1 + 1) 47 [.string ⟨#[103]⟩, .slice (some ⟨w0.heap.size + 1, 0, none⟩) 1 1]
  s3 : Blk w (w0.heap.size + 1 + 1 + 1) 43 (exCells ⟨#[120]⟩ w0.heap.size (w0.heap.size + 1 + 1))
  s5 : Blk w (w0.heap.size + 1 + 1 + 1 + 1 + 1) 43 (exCells ⟨#[120]⟩ (w0.heap.size + 1 + 1 + 1 + 1 + 1 + 1) (w0.heap.size + 1 + 1))
  s6 : Blk w (w0.heap.size + 1 + 1 + 1 + 1 + 1 + 1) 52 (exSecV ⟨#[50]⟩)
  K : Below w0.heap.size w0 w
theorem ExSt.below {w0 w w' : World} (h : ExSt w0 w) (b : Below w.heap.size w w') : ExSt w0 w' :=
  ⟨h.s0.below b h.s0.lt, h.s1.below b h.s1.lt, h.s2.below b h.s2.lt, h.s3.below b h.s3.lt, h.s5.below b h.s5.lt, h.s6.below b h.s6.lt, below_next h.K b⟩
theorem Blk.new' {w : World} {T : TypeId} {vs : List Value} {b : Nat} (h : w.heap.size = b) : Blk (w.alloc (.cells vs.toArray T)) b T vs := h ▸ Blk.new w T vs
theorem exW_st (w : World) : ExSt w (exW w) := by
  have hz : ∀ (w : World) o, (w.alloc o).heap.size = w.heap.size + 1 := fun w o => (by show (w.heap.push _).size = _; exact Array.size_push _)
  unfold exW
  refine ⟨?_, ?_, ?_, ?_, ?_, ?_, ?_⟩
  · exact ((((((((Blk.new' rfl).alloc _).alloc _).alloc _).alloc _).alloc _).alloc _).alloc _)
  · exact (((((((Blk.new' (by simp only [hz])).alloc _).alloc _).alloc _).alloc _).alloc _).alloc _)
  · exact ((((((Blk.new' (by simp only [hz])).alloc _).alloc _).alloc _).alloc _).alloc _)
  · exact (((((Blk.new' (by simp only [hz])).alloc _).alloc _).alloc _).alloc _)
  · exact (((Blk.new' (by simp only [hz])).alloc _).alloc _)
  · exact ((Blk.new' (by simp only [hz])).alloc _)
  · go_grown
theorem exW_row (w : World) : Rw 11 Ob.E (exW w) (.slice (some ⟨w.heap.size + 1 + 1 + 1 + 1 + 1 + 1 + 1, 0, none⟩) 2 2) [exA, exB] := by
  have h := exW_st w
  have hz : ∀ (w : World) o, (w.alloc o).heap.size = w.heap.size + 1 := fun w o => (by show (w.heap.push _).size = _; exact Array.size_push _)
  refine ex_row (ex_at _ _ h.s0 h.s1 h.s2) (ex_at _ _ h.s0 h.s1 h.s2) ?_
  unfold exW
  exact Blk.new' (by simp only [hz])
theorem ExSt.row {w0 w : World} (h : ExSt w0 w) : Rw 11 Ob.E (w.alloc (.cells (exCells ⟨#[120]⟩ w0.heap.size (w0.heap.size + 1 + 1) ++ exCells ⟨#[120]⟩ (w0.heap.size + 1 + 1 + 1 + 1 + 1 + 1) (w0.heap.size + 1 + 1)).toArray 43)) (.slice (some ⟨w.heap.size, 0, none⟩) 2 2) [exA, exC] :=
  ex_row (ex_at _ _ (h.s0.alloc _) (h.s1.alloc _) (h.s2.alloc _)) (ex_at _ _ (h.s6.alloc _) (h.s1.alloc _) (h.s2.alloc _)) (Blk.new' rfl)

theorem i1 : I64 1 := by unfold I64; decide
theorem exSec_ok (b : ByteArray) (hb : b.size ≤ 1) : ∀ s ∈ exSec b, Sec.Ok s := by
  intro s hs
  have : s = ⟨⟨#[97]⟩, 0, 1, 0, ⟨#[]⟩, false⟩ ∨ s = ⟨⟨#[98]⟩, 1, 1, 1, b, false⟩ := by simpa [exSec] using hs
  rcases this with rfl | rfl
  · exact ⟨by show (1 : Nat) ≤ _; decide, by unfold I64; decide, by unfold I64; decide, by unfold I64; decide, by show (0 : Nat) ≤ _; decide⟩
  · exact ⟨by show (1 : Nat) ≤ _; decide, (i1 : I64 1), (i1 : I64 1), (i1 : I64 1), Nat.le_trans hb (by decide)⟩
theorem exOb_ok (n b : ByteArray) (hn : n.size ≤ 1) (hb : b.size ≤ 1) : (exOb n b).Ok := by
  have nn : ∀ {α : Type} {P : α → Prop}, ∀ y ∈ ([] : List α), P y := fun y hy => by simp at hy
  refine ⟨Nat.le_trans hn (by decide), by show (2 : Nat) ≤ _; decide, exSec_ok b hb, by show (0 : Nat) ≤ _; decide, nn, by show (0 : Nat) ≤ _; decide, nn, by show (1 : Nat) ≤ _; decide, ?_, by show (0 : Nat) ≤ _; decide, nn, by show (0 : Nat) ≤ _; decide, nn, by show (0 : Nat) ≤ _; decide, nn, by show (0 : Nat) ≤ _; decide, nn, by show (0 : Nat) ≤ _; decide, nn, by show (0 : Nat) ≤ _; decide, nn⟩
  intro g hg
  have : g = ⟨⟨#[103]⟩, [1]⟩ := by simpa [exOb] using hg
  subst this
  exact ⟨by show (1 : Nat) ≤ _; decide, by show (1 : Nat) ≤ _; decide, fun y hy => by
    have : y = 1 := by simpa using hy
    exact this ▸ i1⟩
theorem ex_keepOk (n b n' b' : ByteArray) (hn : n.size ≤ 1) (hb : b.size ≤ 1) (hn' : n'.size ≤ 1) (hb' : b'.size ≤ 1) : KeepOk [exOb n b, exOb n' b'] := by
  refine ⟨by show (2 : Nat) ≤ _; decide, fun o ho => ?_, fun o ho => ?_, fun o ho => ?_, fun o ho s hs => ?_, fun o ho g hg => ?_⟩ <;> (have ho : o = exOb n b ∨ o = exOb n' b' := by simpa using ho)
  · rcases ho with rfl | rfl
    · exact exOb_ok _ _ hn hb
    · exact exOb_ok _ _ hn' hb'
  · rcases ho with rfl | rfl <;> (show (2 : Nat) ≤ _; decide)
  · rcases ho with rfl | rfl <;> (show (1 : Nat) ≤ _; decide)
  · have key : ∀ b : ByteArray, b.size ≤ 1 → s ∈ exSec b → s.bytes.size ≤ 800000 := fun b hb hs => by
      have : s = ⟨⟨#[97]⟩, 0, 1, 0, ⟨#[]⟩, false⟩ ∨ s = ⟨⟨#[98]⟩, 1, 1, 1, b, false⟩ := by simpa [exSec] using hs
      rcases this with rfl | rfl
      · show (0 : Nat) ≤ _; decide
      · exact Nat.le_trans hb (by decide)
    rcases ho with rfl | rfl
    · exact key b hb hs
    · exact key b' hb' hs
  · have : g = ⟨⟨#[103]⟩, [1]⟩ := by rcases ho with rfl | rfl <;> simpa [exOb] using hg
    subst this
    show (1 : Nat) ≤ _; decide

end Go.Proofs.YtimbhnnidohmaaaDoor.W

/-
  The walk of the law's own examples: they hold.
-/
namespace Go.Proofs.YtimbhnnidohmaaaDoor.W
open Go.RowKit
set_option linter.unusedVariables false

theorem ex_bools {w : World} {b0 b1 b2 : Nat} (h0 : Blk w b0 4 [.bool true, .bool true]) (h1 : Blk w b1 4 [.bool true, .bool false]) (h2 : Blk w b2 31 [.slice (some ⟨b0, 0, none⟩) 2 2, .slice (some ⟨b1, 0, none⟩) 2 2]) :
    Rw 1 boolsE w (.slice (some ⟨b2, 0, none⟩) 2 2) [[true, true], [true, false]] := by
  refine Rw.of_blk1 (xs := [[true, true], [true, false]]) h2 rfl (fun j x u hx hu => ?_)
  match j with
  | 0 =>
    have e1 : [true, true] = x := by simpa using hx
    have e2 : Value.slice (some ⟨b0, 0, none⟩) 2 2 = u := by simpa using hu
    subst e1; subst e2
    exact ⟨_, rfl, Rw.bools (ks := [true, true]) h0⟩
  | 1 =>
    have e1 : [true, false] = x := by simpa using hx
    have e2 : Value.slice (some ⟨b1, 0, none⟩) 2 2 = u := by simpa using hu
    subst e1; subst e2
    exact ⟨_, rfl, Rw.bools (ks := [true, false]) h1⟩
  | j + 2 => simp at hx

/-- the world behind the three rows of bools -/
def exBw (w : World) : World := ((w.alloc (.cells #[.bool true, .bool true] 4)).alloc (.cells #[.bool true, .bool false] 4)).alloc (.cells #[.slice (some ⟨w.heap.size, 0, none⟩) 2 2, .slice (some ⟨w.heap.size + 1, 0, none⟩) 2 2] 31)
theorem exBw_row (w : World) : Rw 1 boolsE (exBw w) (.slice (some ⟨w.heap.size + 1 + 1, 0, none⟩) 2 2) [[true, true], [true, false]] ∧ Below w.heap.size w (exBw w) := by
  have hz : ∀ (w : World) o, (w.alloc o).heap.size = w.heap.size + 1 := fun w o => (by show (w.heap.push _).size = _; exact Array.size_push _)
  unfold exBw
  refine ⟨ex_bools (b0 := w.heap.size) (b1 := w.heap.size + 1) (((Blk.new' (vs := [.bool true, .bool true]) rfl).alloc _).alloc _) ((Blk.new' (vs := [.bool true, .bool false]) (by simp only [hz])).alloc _) (Blk.new' (vs := [.slice (some ⟨w.heap.size, 0, none⟩) 2 2, .slice (some ⟨w.heap.size + 1, 0, none⟩) 2 2]) (by simp only [hz])), by go_grown⟩
def exDw (w : World) : World := w.alloc (.cells #[.string ⟨#[103]⟩, .int .i64 0, .int .i64 1] 49)
theorem exDw_row (w : World) : Rw 3 dfE (exDw w) (.slice (some ⟨w.heap.size, 0, none⟩) 1 1) [⟨⟨#[103]⟩, 0, 1⟩] ∧ Below w.heap.size w (exDw w) := by
  unfold exDw
  exact ⟨Rw.differs (l := [⟨⟨#[103]⟩, 0, 1⟩]) (Blk.new' (vs := [.string ⟨#[103]⟩, .int .i64 0, .int .i64 1]) rfl), by go_grown⟩

set_option maxHeartbeats 4000000 in
set_option maxRecDepth 100000 in
theorem gsmall_any (w : World) (hT : Tabs w) :
    Calls Tryd.prog 7 #[] w fun e w' => e = .returned (.bool true) ∧ Below w.heap.size w w' := by
  have HS := Hd.mk (exW_st w)
  have HK1 := Hd.mk (gkeep_any (exW w) (hT.below HS.out.K) _ _ (exW_row w) (ex_keepOk _ _ _ _ (by decide) (by decide) (by decide) (by decide)))
  have HT := Hd.mk hT
  clear hT
  go_enter Tryd.func7, Tryd.ntmps7
  go_wp2_with fail
  show Calls _ _ _ (exW w) _
  refine HK1.out.mono ?_
  rintro e w2 ⟨kpv, dv, rfl, hO⟩
  have HS2 := Hd.mk (HS.out.below hO.K)
  have hR := hO.rows
  rw [ex_keep, ex_none] at hR
  have HRk := Hd.mk hR.1
  have HRd := Hd.mk hR.2
  obtain ⟨pk, ck, rfl⟩ := hR.1.slice
  obtain ⟨pd, cd, rfl⟩ := hR.2.slice
  rw [List.length_cons, List.length_cons, List.length_nil] at HRk
  rw [List.length_nil] at HRd
  rw [List.length_cons, List.length_cons, List.length_nil, List.length_nil]
  have HK2 := Hd.mk (gkeep_any _ ((HT.out.below HS2.out.K).below (by go_grown)) _ _ HS2.out.row (ex_keepOk _ _ _ _ (by decide) (by decide) (by decide) (by decide)))
  have a0 := HS2.out.s3.at (j := 0) rfl
  have a1 := HS2.out.s3.at (j := 1) rfl
  have a2 := HS2.out.s3.at (j := 2) rfl
  have a3 := HS2.out.s3.at (j := 3) rfl
  have a4 := HS2.out.s3.at (j := 4) rfl
  have a5 := HS2.out.s3.at (j := 5) rfl
  have a6 := HS2.out.s3.at (j := 6) rfl
  have a7 := HS2.out.s3.at (j := 7) rfl
  have a8 := HS2.out.s3.at (j := 8) rfl
  have a9 := HS2.out.s3.at (j := 9) rfl
  have a10 := HS2.out.s3.at (j := 10) rfl
  have b0 := HS2.out.s5.at (j := 0) rfl
  have b1 := HS2.out.s5.at (j := 1) rfl
  have b2 := HS2.out.s5.at (j := 2) rfl
  have b3 := HS2.out.s5.at (j := 3) rfl
  have b4 := HS2.out.s5.at (j := 4) rfl
  have b5 := HS2.out.s5.at (j := 5) rfl
  have b6 := HS2.out.s5.at (j := 6) rfl
  have b7 := HS2.out.s5.at (j := 7) rfl
  have b8 := HS2.out.s5.at (j := 8) rfl
  have b9 := HS2.out.s5.at (j := 9) rfl
  have b10 := HS2.out.s5.at (j := 10) rfl
  clear hO hR HK1 HS HT
  go_wp2_with fail
  refine HK2.out.mono ?_
  rintro e w4 ⟨kpv2, dv2, rfl, hO⟩
  have B24 : Hd (Below w2.heap.size w2 w4) := ⟨below_next (by go_grown) hO.K⟩
  have HW4 : Hd (Below w.heap.size w w4) := ⟨below_next HS2.out.K B24.out⟩
  have hR := hO.rows
  rw [ex_one] at hR
  have HRe := Hd.mk hR.2
  obtain ⟨pk2, ck2, rfl⟩ := hR.1.slice
  obtain ⟨pe, ce, rfl⟩ := hR.2.slice
  obtain ⟨n2, hn2⟩ : ∃ n, (keepR [exA, exC]).keep.length = n := ⟨_, rfl⟩
  rw [List.length_cons, List.length_nil] at HRe
  rw [List.length_cons, List.length_nil, hn2]
  have h5 := exBw_row w4
  have HW5 : Hd (Below w.heap.size w (exBw w4)) := ⟨below_next HW4.out h5.2⟩
  have HSame := Hd.mk (rsame_any (exBw w4) _ _ _ _ (HRk.out.below boolsE_stays (below_next B24.out h5.2)) h5.1 (by show (2 : Nat) ≤ _; decide) (fun l hl => by
    have : l = [true, true] ∨ l = [true, false] := by simpa using hl
    rcases this with rfl | rfl <;> (show (2 : Nat) ≤ _; decide)))
  rw [decide_eq_true rfl] at HSame
  have HRe5 := Hd.mk (HRe.out.below dfE_stays h5.2)
  clear hO hR HK2 HS2 h5 hn2 a0 a1 a2 a3 a4 a5 a6 a7 a8 a9 a10 b0 b1 b2 b3 b4 b5 b6 b7 b8 b9 b10
  go_wp2_with fail
  show Calls _ _ _ (exBw w4) _
  refine HSame.out.mono ?_
  rintro e w6 ⟨rfl, hb6⟩
  have h7 := exDw_row w6
  have HW6 : Hd (Below w.heap.size w (exDw w6)) := ⟨below_next (below_next HW5.out hb6) h7.2⟩
  have HSd := Hd.mk (rsamed_any (exDw w6) _ _ _ _ (HRe5.out.below dfE_stays (below_next hb6 h7.2)) h7.1 (by show (1 : Nat) ≤ _; decide))
  rw [decide_eq_true rfl] at HSd
  clear hb6 h7
  go_wp2_with fail
  show Calls _ _ _ (exDw w6) _
  refine HSd.out.mono ?_
  rintro e w8 ⟨rfl, hb8⟩
  have HW8 : Hd (Below w.heap.size w w8) := ⟨below_next HW6.out hb8⟩
  clear hb8
  go_wp2
  go_ret
  exact ⟨rfl, HW8.out⟩

end Go.Proofs.YtimbhnnidohmaaaDoor.W

/-
  What Keep drops, in plain words.
-/
namespace Go.Proofs.YtimbhnnidohmaaaDoor.W
set_option linter.unusedVariables false

def nameIn (gs : List Grp) (n : ByteArray) : Bool := gs.any fun g => decide (g.name = n)
/-- a name among the first objects' groups, or among these -/
def occB (l : List Ob) (i : Nat) (gs : List Grp) (n : ByteArray) : Bool := ((l.take i).any fun o => nameIn o.groups n) || nameIn gs n

theorem lookC_snoc (l : Seen) (m n : ByteArray) (c : Cp) : (lookC (l ++ [(m, c)]) n).isSome = ((lookC l n).isSome || decide (m = n)) := by
  unfold lookC lookV
  rw [List.find?_append]
  cases h : l.find? (fun x => decide (x.1 = n)) with
  | some x => simp
  | none => by_cases e : m = n <;> simp [e]
theorem grpStep_seen (i : Nat) (o : Ob) (σ : KSt) (g : Grp) (n : ByteArray) : (lookC (grpStep i o σ g).seen n).isSome = ((lookC σ.seen n).isSome || decide (g.name = n)) := by
  unfold grpStep
  split
  · exact lookC_snoc _ _ _ _
  · rename_i c h
    by_cases e : g.name = n
    · subst e; simp [h]
    · simp [e]
theorem nameIn_snoc (gs : List Grp) (g : Grp) (n : ByteArray) : nameIn (gs ++ [g]) n = (nameIn gs n || decide (g.name = n)) := by simp [nameIn]
theorem midSt_seen (l : List Ob) (i : Nat) (o : Ob) (n : ByteArray) : ∀ j, j ≤ o.groups.length → (lookC (midSt l i o j).seen n).isSome = ((lookC (keepR (l.take i)).seen n).isSome || nameIn (o.groups.take j) n)
  | 0, _ => by rw [midSt_zero]; simp [nameIn]
  | j + 1, h => by
    rw [midSt_step (by omega), grpStep_seen, midSt_seen l i o n j (by omega), List.take_succ_eq_append_getElem (by omega : j < o.groups.length), nameIn_snoc, Bool.or_assoc]
theorem keepR_seen (l : List Ob) (n : ByteArray) : ∀ i, i ≤ l.length → (lookC (keepR (l.take i)).seen n).isSome = (l.take i).any fun o => nameIn o.groups n
  | 0, _ => rfl
  | i + 1, h => by
    rw [midSt_end (by omega : i < l.length)]
    show (lookC (midSt l i l[i] l[i].groups.length).seen n).isSome = _
    rw [midSt_seen l i l[i] n _ (Nat.le_refl _), keepR_seen l n i (by omega), List.take_length, List.take_succ_eq_append_getElem (by omega : i < l.length), List.any_append]
    simp
theorem midSt_occ (l : List Ob) (i : Nat) (o : Ob) (n : ByteArray) (j : Nat) (hi : i ≤ l.length) (hj : j ≤ o.groups.length) : (lookC (midSt l i o j).seen n).isSome = occB l i (o.groups.take j) n := by
  rw [midSt_seen l i o n j hj, keepR_seen l n i hi]; rfl

theorem dropAll_at : ∀ (ks : List Int) (k : List Bool) (s : Nat), s < k.length → (∀ x ∈ ks, 0 ≤ x) → (dropAll k ks)[s]? = if (s : Int) ∈ ks then some false else k[s]?
  | [], k, s, hs, _ => by simp [dropAll]
  | x :: ks, k, s, hs, h => by
    show (dropAll (k.set x.toNat false) ks)[s]? = _
    rw [dropAll_at ks _ s (by simpa using hs) (fun y hy => h y (List.mem_cons_of_mem _ hy))]
    have hx := h x (by simp)
    by_cases hm : (s : Int) ∈ ks
    · rw [if_pos hm, if_pos (List.mem_cons_of_mem _ hm)]
    · rw [if_neg hm]
      by_cases e : (s : Int) = x
      · rw [if_pos (by rw [e]; simp), show x.toNat = s by omega, List.getElem?_set_self hs]
      · rw [if_neg (by simp [e, hm]), List.getElem?_set_ne (by omega)]
theorem mem_secsOf {o : Ob} {g : Grp} {s : Nat} (hs : s < o.secs.length) : (s : Int) ∈ secsOf o g ↔ (s : Int) ∈ g.secs := by
  unfold secsOf
  rw [List.mem_filter]
  constructor
  · exact fun h => h.1
  · refine fun h => ⟨h, ?_⟩
    simp [inB, offB]
    omega
theorem kept_step {l : List Ob} {i : Nat} {o : Ob} {j s : Nat} (hi : i ≤ l.length) (hj : j < o.groups.length) (hs : s < o.secs.length) :
    (midSt l i o (j + 1)).kept[s]? = if occB l i (o.groups.take j) o.groups[j].name = true ∧ (s : Int) ∈ o.groups[j].secs then some false else (midSt l i o j).kept[s]? := by
  rw [midSt_step hj]
  have ho := midSt_occ l i o o.groups[j].name j hi (Nat.le_of_lt hj)
  have hk := midSt_kept_len l i o j (Nat.le_of_lt hj)
  unfold grpStep
  split
  · rename_i h
    rw [h] at ho
    have ho : occB l i (o.groups.take j) o.groups[j].name = false := ho.symm
    rw [if_neg (by rw [ho]; simp)]
  · rename_i c h
    rw [h] at ho
    have ho : occB l i (o.groups.take j) o.groups[j].name = true := ho.symm
    show (dropAll (midSt l i o j).kept (secsOf o o.groups[j]))[s]? = _
    rw [dropAll_at _ _ _ (by rw [hk]; exact hs) (fun x hx => (secsOf_in hx).1), ho]
    simp only [mem_secsOf hs, true_and]
theorem kept_none {l : List Ob} {i : Nat} {o : Ob} {s : Nat} (hi : i ≤ l.length) (hs : s < o.secs.length) : ∀ j, j ≤ o.groups.length → (∀ g ∈ o.groups.take j, (s : Int) ∉ g.secs) → (midSt l i o j).kept[s]? = some true
  | 0, _, _ => by rw [midSt_zero]; simp [hs]
  | j + 1, h, hn => by
    have hg := hn o.groups[j] (by rw [List.take_succ_eq_append_getElem (by omega : j < o.groups.length)]; exact List.mem_append_right _ (List.mem_singleton.2 rfl))
    rw [kept_step hi (by omega) hs, if_neg (fun e => hg e.2)]
    exact kept_none hi hs j (by omega) (fun g h' => hn g (by rw [List.take_succ_eq_append_getElem (by omega : j < o.groups.length)]; exact List.mem_append_left _ h'))
theorem kept_one {l : List Ob} {i : Nat} {o : Ob} {s a : Nat} (hi : i ≤ l.length) (hs : s < o.secs.length) (ha : a < o.groups.length) (hin : (s : Int) ∈ o.groups[a].secs) : ∀ j, a < j → j ≤ o.groups.length → (∀ k (hk : k < j) (hk' : k < o.groups.length), k ≠ a → (s : Int) ∉ o.groups[k].secs) →
    (midSt l i o j).kept[s]? = some (!occB l i (o.groups.take a) o.groups[a].name)
  | 0, h, _, _ => absurd h (by omega)
  | j + 1, h, hj, hn => by
    rw [kept_step hi (by omega) hs]
    by_cases e : j = a
    · subst e
      rw [kept_none hi hs j (by omega) (fun g hg => by
        obtain ⟨k, hk, rfl⟩ := List.mem_iff_getElem.1 hg
        rw [List.getElem_take]
        have : k < j := by rw [List.length_take] at hk; omega
        exact hn k (by omega) (by omega) (by omega))]
      cases hb : occB l i (o.groups.take j) o.groups[j].name
      · simp
      · simp [hin]
    · rw [if_neg (fun x => hn j (by omega) (by omega) e x.2)]
      exact kept_one hi hs ha hin j (by omega) (by omega) (fun k hk hk' he => hn k (by omega) hk' he)

/-- what is kept of the first objects does not depend on the others -/
theorem keep_take {l : List Ob} (h : KeepOk l) : ∀ (i n : Nat), i ≤ n → n ≤ l.length → (keepR (l.take n)).keep.take i = (keepR (l.take i)).keep ∧ (keepR (l.take i)).differ <+: (keepR (l.take n)).differ
  | i, 0, h1, _ => by
    have : i = 0 := by omega
    subst this; exact ⟨rfl, List.prefix_refl _⟩
  | i, n + 1, h1, h2 => by
    by_cases e : i = n + 1
    · subst e
      refine ⟨List.take_of_length_le ?_, List.prefix_refl _⟩
      rw [(keepR_len h (n + 1) h2).2.2]; exact Nat.le_refl _
    · have ih := keep_take h i n (by omega) (by omega)
      rw [midSt_end (by omega : n < l.length)]
      refine ⟨?_, ih.2.trans ?_⟩
      · show ((keepR (l.take n)).keep ++ [_]).take i = _
        rw [List.take_append_of_le_length (by rw [(keepR_len h n (by omega)).2.2]; omega)]
        exact ih.1
      · have key : ∀ j, j ≤ l[n].groups.length → (keepR (l.take n)).differ <+: (midSt l n l[n] j).differ := by
          intro j
          induction j with
          | zero => intro _; exact List.prefix_refl _
          | succ j ihj =>
            intro hj
            refine (ihj (by omega)).trans ?_
            rw [midSt_step (by omega)]
            unfold grpStep
            split
            · exact List.prefix_refl _
            · simp only
              split
              · exact List.prefix_refl _
              · exact List.prefix_append _ _
        exact key _ (Nat.le_refl _)
theorem keep_at {l : List Ob} (h : KeepOk l) {i : Nat} (hi : i < l.length) : (keepR l).keep[i]? = some (midSt l i l[i] l[i].groups.length).kept := by
  have h1 := (keep_take h (i + 1) l.length (by omega) (Nat.le_refl _)).1
  rw [List.take_length, midSt_end hi] at h1
  have h2 : ((keepR l).keep.take (i + 1))[i]? = (keepR l).keep[i]? := by rw [List.getElem?_take, if_pos (by omega)]
  rw [← h2, h1]
  have h3 := (keepR_len h i (by omega)).2.2
  rw [List.getElem?_append_right (by omega), h3]
  simp
theorem keepR_keep_len {l : List Ob} (h : KeepOk l) : (keepR l).keep.length = l.length := by
  have := (keepR_len h l.length (Nat.le_refl _)).2.2
  rwa [List.take_length] at this

end Go.Proofs.YtimbhnnidohmaaaDoor.W

/-
  The walk of has.
-/
namespace Go.Proofs.YtimbhnnidohmaaaDoor.W
open Go.RowKit
set_option linter.unusedVariables false

theorem not_mem_take_succ {ks : List Int} {i : Nat} {n : Int} (hi : i < ks.length) (h : n ∉ ks.take i) (hne : ¬ ks[i] = n) : n ∉ ks.take (i + 1) := by
  rw [List.take_succ_eq_append_getElem hi]
  intro hm
  rcases List.mem_append.1 hm with hm | hm
  · exact h hm
  · exact hne (List.mem_singleton.1 hm).symm

set_option maxHeartbeats 2000000 in
set_option maxRecDepth 100000 in
theorem ghas_any (w : World) (v : Value) (ks : List Int) (n : Int) (hR : Rw 1 intE w v ks) (hl : ks.length ≤ 140737488351232) :
    Calls Tryd.prog 13 #[v, .int .i64 n] w fun e w' => e = .returned (.bool (decide (n ∈ ks))) ∧ w = w' := by
  obtain ⟨p, c, rfl⟩ := hR.slice
  have HR := Hd.mk hR
  obtain ⟨res, hres⟩ : ∃ r, decide (n ∈ ks) = r := ⟨_, rfl⟩
  have HRes := Hd.mk hres
  rw [hres]
  obtain ⟨M, hM⟩ : ∃ M, ks.length = M := ⟨_, rfl⟩
  have HM := Hd.mk hM
  rw [hM] at HR hl
  rw [hM]
  clear hR hres hM
  go_enter Tryd.func13, Tryd.ntmps13
  go_wp2
  go_loopw [5] (fun iv wr => ∃ i : Nat, i ≤ M ∧ iv = .int .i64 i ∧ Hd (n ∉ ks.take i) ∧ w = wr) (fun iv _ => M - (intOf iv).toNat)
  case atStart => exact ⟨0, Nat.zero_le _, rfl, ⟨by simp⟩, by first | rfl | trivial⟩
  case round =>
    obtain ⟨i, hi, rfl, HT, rfl⟩ := hrel
    by_cases hlt : i < M
    · have hil : i < ks.length := by rw [HM.out]; exact hlt
      obtain ⟨g, o, cs, rfl, hg, _, hE, hc⟩ := HR.out.at rfl (j := i) hil
      obtain rfl : cs = [.int .i64 ks[i]] := hE
      have a0 := hc 0 _ rfl
      rw [Nat.mul_one, Nat.add_zero] at a0
      have HS := Hd.mk (not_mem_take_succ hil HT.out)
      have HMm := Hd.mk (List.getElem_mem hil)
      obtain ⟨x, hx⟩ : ∃ x, ks[i] = x := ⟨_, rfl⟩
      rw [hx] at a0 HS HMm
      have hms : M - (intOf (.int .i64 ((i : Int) + 1))).toNat < M - (intOf (.int .i64 (i : Int))).toNat := by simp [intOf]; omega
      have hiM : (i : Int) < (M : Int) := by omega
      clear hc hg hx
      by_cases e : x = n
      · subst e
        have ht : res = true := by rw [← HRes.out]; exact decide_eq_true HMm.out
        have HF := Hd.mk ht
        clear ht
        go_wp2
        go_ret
        exact ⟨ret_b HF.out.symm, rfl⟩
      · have HT2 := Hd.mk (HS.out e)
        have hb : (x == n) = false := beq_eq_false_iff_ne.2 e
        clear HS
        go_wp2
        go_roundw
        case rel => exact ⟨i + 1, hlt, by go_num, HT2, by first | rfl | trivial⟩
        case measure => exact hms
    · have hin : i = M := by omega
      subst hin
      have hd : decide ((i : Int) < (i : Int)) = false := by simp
      have ht : res = false := by
        rw [← HRes.out]
        have := HT.out
        rw [List.take_of_length_le (by rw [HM.out]; exact Nat.le_refl _)] at this
        exact decide_eq_false this
      have HF := Hd.mk ht
      clear ht
      go_wp2
      go_ret
      exact ⟨ret_b HF.out.symm, rfl⟩

end Go.Proofs.YtimbhnnidohmaaaDoor.W
