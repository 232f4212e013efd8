/-
  GroupFirst.
-/
import Derived.Test.YtimbhnnidohmaaaDoorGrpK
import Derived.Test.YtimbhnnidohmaaaDoorTab
import Derived.Test.YtimbhnnidohmaaaDoorObjA
namespace Go.Proofs.YtimbhnnidohmaaaDoor.W
open Go.RowKit
set_option linter.unusedVariables false

theorem Rw.obj' {w : World} {l : List Ob} {g of n c : Nat} (h : Rw 11 Ob.E w (.slice (some ⟨g, of, none⟩) n c) l) {i : Nat} (hi : i < l.length) :
    ∃ x1 x2 x3 x4 x5 x6 x7 x8 x9 x10, l[i].At w x1 x2 x3 x4 x5 x6 x7 x8 x9 x10 ∧ ObCells w g (of + i * 11) l[i] x1 x2 x3 x4 x5 x6 x7 x8 x9 x10 := by
  obtain ⟨g', of', x1, x2, x3, x4, x5, x6, x7, x8, x9, x10, e, _, hA, hC⟩ := h.obj rfl hi
  injection e with e
  injection e with e1 e2
  subst e1; subst e2
  exact ⟨x1, x2, x3, x4, x5, x6, x7, x8, x9, x10, hA, hC⟩

/-- where a section was found among the first groups -/
inductive AtSt (o : Ob) (s k : Nat) : ByteArray → Int → Prop
  | none (h : ∀ g ∈ o.groups.take k, (s : Int) ∉ g.secs) : AtSt o s k ⟨#[]⟩ (-1)
  | one (a : Nat) (ha : a < k) (h : a < o.groups.length) (hin : (s : Int) ∈ o.groups[a].secs) (hn : ∀ k' (hk : k' < k) (hk' : k' < o.groups.length), k' ≠ a → (s : Int) ∉ o.groups[k'].secs) : AtSt o s k o.groups[a].name a
theorem AtSt.skip {o : Ob} {s k : Nat} {nm : ByteArray} {x : Int} (hk : k < o.groups.length) (h : AtSt o s k nm x) (hn : (s : Int) ∉ o.groups[k].secs) : AtSt o s (k + 1) nm x := by
  cases h with
  | none h =>
    refine .none (fun g hg => ?_)
    rw [List.take_succ_eq_append_getElem hk] at hg
    rcases List.mem_append.1 hg with hg | hg
    · exact h g hg
    · rw [List.mem_singleton.1 hg]; exact hn
  | one a ha hl hin h =>
    refine .one a (by omega) hl hin (fun k' h1 h2 h3 => ?_)
    by_cases e : k' = k
    · subst e; exact hn
    · exact h k' (by omega) h2 h3
theorem AtSt.found {o : Ob} {s k : Nat} (hk : k < o.groups.length) (h : ∀ g ∈ o.groups.take k, (s : Int) ∉ g.secs) (hin : (s : Int) ∈ o.groups[k].secs) : AtSt o s (k + 1) o.groups[k].name k := by
  refine .one k (by omega) hk hin (fun k' h1 h2 h3 => h _ ?_)
  have : k' < (o.groups.take k).length := by rw [List.length_take]; omega
  have e : (o.groups.take k)[k'] = o.groups[k'] := List.getElem_take
  rw [← e]; exact List.getElem_mem this

theorem AtSt.split {o : Ob} {s k : Nat} {nm : ByteArray} {x : Int} (h : AtSt o s k nm x) : (nm = ⟨#[]⟩ ∧ x = -1 ∧ ∀ g ∈ o.groups.take k, (s : Int) ∉ g.secs) ∨
    ∃ (a : Nat) (ha : a < o.groups.length), a < k ∧ x = (a : Int) ∧ nm = o.groups[a].name ∧ (s : Int) ∈ o.groups[a].secs ∧ ∀ k' (hk : k' < k) (hk' : k' < o.groups.length), k' ≠ a → (s : Int) ∉ o.groups[k'].secs := by
  cases h with
  | none h => exact .inl ⟨rfl, rfl, h⟩
  | one a ha hl hin h => exact .inr ⟨a, hl, ha, rfl, rfl, hin, h⟩

def earB (l : List Ob) (n : ByteArray) (k : Nat) : Bool := (l.take k).any fun o => nameIn o.groups n
theorem earB_succ {l : List Ob} {n : ByteArray} {k : Nat} (h : k < l.length) : earB l n (k + 1) = (earB l n k || nameIn l[k].groups n) := by
  unfold earB
  rw [List.take_succ_eq_append_getElem h, List.any_append]
  simp
theorem nameIn_take {gs : List Grp} {n : ByteArray} {j : Nat} (h : j < gs.length) : nameIn (gs.take (j + 1)) n = (nameIn (gs.take j) n || decide (gs[j].name = n)) := by
  rw [List.take_succ_eq_append_getElem h, nameIn_snoc]
def ear4 (l : List Ob) (i : Nat) (gs : List Grp) (n : ByteArray) (k : Nat) : Bool := if k ≤ i then earB l n k else occB l i gs n
theorem ear4_le {l : List Ob} {i k : Nat} {gs : List Grp} {n : ByteArray} (h : k ≤ i) : ear4 l i gs n k = earB l n k := if_pos h
theorem ear4_end (l : List Ob) (i : Nat) (gs : List Grp) (n : ByteArray) : ear4 l i gs n (i + 1) = occB l i gs n := if_neg (by omega)
theorem occB_eq (l : List Ob) (i : Nat) (gs : List Grp) (n : ByteArray) : occB l i gs n = (earB l n i || nameIn gs n) := rfl


set_option maxHeartbeats 8000000 in
set_option maxRecDepth 100000 in
theorem first_any (w : World) (v : Value) (l : List Ob) (hv : ArgObs w v l) (hT : Tabs w) :
    Calls Tryd.prog 4 #[v] w fun e w' => e = .returned (.bool true) ∧ Below w.heap.size w w' := by
  have hR := hv.row
  obtain ⟨p, c, rfl⟩ := hR.slice
  have HSm := Hd.mk (gsmall_any w hT)
  have HFw := Hd.mk (fun w' (h : Below w.heap.size w w') => gfew_any w' _ l (hR.below Ob.stays h) hv.len hv.ok)
  have HR := Hd.mk hR
  have HV := Hd.mk hv
  have HT := Hd.mk hT
  obtain ⟨M, hM⟩ : ∃ M, l.length = M := ⟨_, rfl⟩
  have HM := Hd.mk hM
  rw [hM] at HR HFw
  rw [hM]
  clear hR hv hT hM
  by_cases hf : Few l
  · rw [decide_eq_true hf] at HFw
    have HKO := Hd.mk (hf.keep HV.out.ok)
    have hM8 : M ≤ 8 := by rw [← HM.out]; exact hf.1
    have HKp := Hd.mk (fun w' (h : Below w.heap.size w w') => gkeep_any w' (HT.out.below h) _ l (HR.out.below Ob.stays h) HKO.out)
    clear hf
    go_enter Tryd.func4, Tryd.ntmps4
    go_wp2_with fail
    refine HSm.out.mono ?_
    rintro e w1 ⟨rfl, b1⟩
    have B1 := Hd.mk b1
    clear b1 HSm
    go_wp2_with fail
    refine (HFw.out w1 B1.out).mono ?_
    rintro e w2 ⟨rfl, b2⟩
    have B2 := Hd.mk (below_next B1.out b2)
    clear b2 B1 HFw
    go_wp2_with fail
    refine (HKp.out w2 B2.out).mono ?_
    rintro e w3 ⟨kpv, dv, rfl, hO⟩
    have B3 := Hd.mk (below_next B2.out hO.K)
    have hk := hO.rows.1
    obtain ⟨pk, ck, rfl⟩ := hk.slice
    have hkl := keepR_keep_len HKO.out
    rw [HM.out] at hkl
    rw [hkl] at hk
    rw [hkl]
    obtain ⟨keep, hkeep⟩ : ∃ keep, (keepR l).keep = keep := ⟨_, rfl⟩
    have HKe := Hd.mk hkeep
    rw [hkeep] at hk hkl
    have HK := Hd.mk hk
    have HKl := Hd.mk hkl
    clear hO hk HKp hkeep hkl B2
    go_wp2
    go_loopw [6] (fun iv wr => ∃ i : Nat, i ≤ M ∧ iv = .int .i64 i ∧ Hd (Below w3.heap.size w3 wr)) (fun iv _ => M - (intOf iv).toNat)
    case atStart => exact ⟨0, Nat.zero_le _, rfl, ⟨Below.refl _ _⟩⟩
    case round =>
      obtain ⟨i, hi, rfl, HW⟩ := hrel
      by_cases hlt : i < M
      · have hil : i < l.length := by rw [HM.out]; exact hlt
        have hik : i < keep.length := by rw [HKl.out]; exact hlt
        have HD : Hd (Below w3.heap.size w3 wr.drew) := ⟨HW.out.trans (Below.refl _ _).drew⟩
        obtain ⟨g, of, cs, rfl, hg, _, _, _⟩ := HR.out.at rfl (j := i) hil
        have HRd : Hd (Rw 11 Ob.E wr.drew (.slice (some ⟨g, of, none⟩) M c) l) := ⟨HR.out.below Ob.stays (below_next B3.out HD.out)⟩
        obtain ⟨x1, x2, x3, x4, x5, x6, x7, x8, x9, x10, hA, hC⟩ := HRd.out.obj' hil
        have hmo := List.getElem_mem hil
        have HOk := Hd.mk (HV.out.ok _ hmo)
        have hki := keep_at HKO.out hil
        rw [HKe.out, List.getElem?_eq_getElem hik] at hki
        have hki := Option.some.inj hki
        have HKd := Hd.mk (HK.out.below boolsE_stays HD.out)
        obtain ⟨gk, ok, cs, rfl, hgk, _, hE, hck⟩ := HKd.out.at rfl (j := i) hik
        obtain ⟨vi, rfl, hvi⟩ := hE
        obtain ⟨pi, ci, rfl⟩ := hvi.slice
        have k0 := hck 0 _ rfl
        rw [Nat.mul_one, Nat.add_zero] at k0
        obtain ⟨o, ho⟩ : ∃ o, l[i] = o := ⟨_, rfl⟩
        have HOi := Hd.mk ho
        rw [ho] at hA hC HOk hki
        obtain ⟨p1, c1, rfl⟩ := hA.secs.slice
        obtain ⟨p4, c4, rfl⟩ := hA.groups.slice
        obtain ⟨kp, hkp⟩ : ∃ kp, keep[i] = kp := ⟨_, rfl⟩
        rw [hkp] at k0 hvi hki
        have hkpl : kp.length = o.secs.length := by rw [hki]; exact midSt_kept_len l i o _ (Nat.le_refl _)
        obtain ⟨N, hN⟩ : ∃ N, o.secs.length = N := ⟨_, rfl⟩
        obtain ⟨G, hG⟩ : ∃ G, o.groups.length = G := ⟨_, rfl⟩
        have HNG := Hd.mk (And.intro hN hG)
        rw [hN, hG] at hA hC
        rw [hN] at hkpl
        rw [hkpl] at k0 hvi
        have HKi := Hd.mk hki
        have HA := Hd.mk hA
        have HVi := Hd.mk hvi
        have HKpl := Hd.mk hkpl
        have d1 := hC.c1
        have d4 := hC.c4
        have hms : M - (intOf (.int .i64 ((i : Int) + 1))).toNat < M - (intOf (.int .i64 (i : Int))).toNat := by simp [intOf]; omega
        have hiM : (i : Int) < (M : Int) := by omega
        have hNl : N ≤ 140737488351232 := by have := HOk.out.secs; rw [hN] at this; exact this
        have hGl : G ≤ 140737488351232 := by have := HOk.out.groups; rw [hG] at this; exact this
        clear hA hC hmo hki hgk hck hvi ho hkp hkpl hN hG hg
        go_wp2_with fail
        go_region
        obtain ⟨w5, hw5⟩ : ∃ w5, wr.drew = w5 := ⟨_, rfl⟩
        rw [hw5] at HD HRd d1 d4 k0 HA HVi HKd
        rw [hw5]
        clear hw5 HW
        go_wp2
        go_loopw [7] (fun sv wi => ∃ s : Nat, s ≤ N ∧ sv = .int .i64 s ∧ w5 = wi) (fun sv _ => N - (intOf sv).toNat)
        case atStart => exact ⟨0, Nat.zero_le _, rfl, by first | rfl | trivial⟩
        case round =>
          obtain ⟨s, hs, rfl, rfl⟩ := hrel
          by_cases hlt2 : s < N
          · have hms2 : N - (intOf (.int .i64 ((s : Int) + 1))).toNat < N - (intOf (.int .i64 (s : Int))).toNat := by simp [intOf]; omega
            have hsN : (s : Int) < (N : Int) := by omega
            have hso : s < o.secs.length := by rw [HNG.out.1]; exact hlt2
            have hskp : s < kp.length := by rw [HKpl.out]; exact hlt2
            have HNone := Hd.mk (fun h => kept_none (l := l) (i := i) (o := o) (Nat.le_of_lt hil) hso o.groups.length (Nat.le_refl _) h)
            have HOne := Hd.mk (fun a ha h1 h2 => kept_one (l := l) (i := i) (o := o) (a := a) (Nat.le_of_lt hil) hso ha h1 o.groups.length ha (Nat.le_refl _) h2)
            rw [← HKi.out, List.getElem?_eq_getElem hskp] at HNone
            have HOne : Hd (∀ (a : Nat) (ha : a < o.groups.length), (s : Int) ∈ o.groups[a].secs → (∀ k (hk : k < o.groups.length) (hk' : k < o.groups.length), k ≠ a → (s : Int) ∉ o.groups[k].secs) → kp[s] = !occB l i (o.groups.take a) o.groups[a].name) := ⟨fun a ha h1 h2 => by
              have := HOne.out a ha h1 h2
              rw [← HKi.out, List.getElem?_eq_getElem hskp] at this
              exact Option.some.inj this⟩
            obtain ⟨gi, oi, cs, rfl, hgi, _, hE, hci⟩ := HVi.out.at rfl (j := s) hskp
            obtain rfl : cs = [.bool kp[s]] := hE
            have k1 := hci 0 _ rfl
            rw [Nat.mul_one, Nat.add_zero] at k1
            obtain ⟨ks, hks⟩ : ∃ ks, kp[s] = ks := ⟨_, rfl⟩
            rw [hks] at HNone HOne k1
            clear hci hgi hks
            go_wp2
            go_loopw [8, 9, 10] (fun nv av gv wi => ∃ (k : Nat) (nm : ByteArray) (x : Int), k ≤ G ∧ nv = .string nm ∧ av = .int .i64 x ∧ gv = .int .i64 k ∧ Hd (AtSt o s k nm x) ∧ w5 = wi) (fun _ _ gv _ => G - (intOf gv).toNat)
            case atStart => exact ⟨0, ⟨#[]⟩, -1, Nat.zero_le _, rfl, rfl, rfl, ⟨.none (by simp)⟩, by first | rfl | trivial⟩
            case round =>
              obtain ⟨k, nm, x, hk, rfl, rfl, rfl, HAt, rfl⟩ := hrel
              by_cases hlt3 : k < G
              · have hkl : k < o.groups.length := by rw [HNG.out.2]; exact hlt3
                obtain ⟨gg, og, cs, rfl, hgg, _, hE, hcg⟩ := HA.out.groups.at rfl (j := k) hkl
                have HSk := Hd.mk (fun h => HAt.out.skip hkl h)
                have HFd := Hd.mk (fun h1 h2 => AtSt.found (s := s) hkl h1 h2)
                have hgok := HOk.out.groupsI _ (List.getElem_mem hkl)
                obtain ⟨gr, hgr⟩ : ∃ gr, o.groups[k] = gr := ⟨_, rfl⟩
                rw [hgr] at hE HSk HFd hgok
                obtain ⟨gv, rfl, hgA⟩ := hE
                obtain ⟨pg, cg, rfl⟩ := hgA.secs.slice
                have gc0 := hcg 0 _ rfl
                have gc1 := hcg 1 _ rfl
                rw [Nat.add_zero] at gc0
                have HHas := Hd.mk (ghas_any w5 _ gr.secs (s : Int) hgA.secs hgok.secs)
                obtain ⟨LG, hLG⟩ : ∃ LG, gr.secs.length = LG := ⟨_, rfl⟩
                rw [hLG] at HHas gc1
                have hms3 : G - (intOf (.int .i64 ((k : Int) + 1))).toNat < G - (intOf (.int .i64 (k : Int))).toNat := by simp [intOf]; omega
                have hkG : (k : Int) < (G : Int) := by omega
                clear hcg hgg hgr hgA hLG hgok
                by_cases hm : (s : Int) ∈ gr.secs
                · rw [decide_eq_true hm] at HHas
                  have HM2 := Hd.mk hm
                  clear hm HSk
                  rcases HAt.out.split with ⟨rfl, rfl, hn⟩ | ⟨a, hal, hak, rfl, hnm, hin, hno⟩
                  · have HA2 := Hd.mk (HFd.out hn HM2.out)
                    obtain ⟨gn, hgn⟩ : ∃ gn, gr.name = gn := ⟨_, rfl⟩
                    rw [hgn] at HA2 gc0
                    clear hn HFd HM2 hgn
                    go_wp2_with fail
                    refine HHas.out.mono ?_
                    rintro e w' ⟨rfl, rfl⟩
                    go_wp2
                    go_roundw
                    case rel => exact ⟨k + 1, gn, (k : Int), hlt3, rfl, rfl, by go_num, HA2, by first | rfl | trivial⟩
                    case measure => exact hms3
                  · have h0 : decide ((0 : Int) ≤ (a : Int)) = true := decide_eq_true (by omega)
                    have HB := Hd.mk (below_next B3.out HD.out)
                    clear hnm hin hno HFd HM2
                    go_wp2_with fail
                    refine HHas.out.mono ?_
                    rintro e w' ⟨rfl, rfl⟩
                    go_wp2
                    go_ret
                    exact ⟨rfl, HB.out⟩
                · rw [decide_eq_false hm] at HHas
                  have HA2 := Hd.mk (HSk.out hm)
                  clear hm HSk HFd
                  go_wp2_with fail
                  refine HHas.out.mono ?_
                  rintro e w' ⟨rfl, rfl⟩
                  go_wp2
                  go_roundw
                  case rel => exact ⟨k + 1, nm, x, hlt3, rfl, rfl, by go_num, HA2, by first | rfl | trivial⟩
                  case measure => exact hms3
              · have hkn : k = G := by omega
                subst hkn
                have hd : decide ((k : Int) < (k : Int)) = false := by simp
                have hge : k = o.groups.length := HNG.out.2.symm
                rcases HAt.out.split with ⟨rfl, rfl, hn⟩ | ⟨a, hal, hak, rfl, hnm, hin, hno⟩
                · have ht := HNone.out (by rw [← hge]; exact hn)
                  obtain rfl : ks = true := Option.some.inj ht
                  clear ht hn HNone HOne hge HAt
                  go_wp2
                  go_roundw
                  case rel => exact ⟨s + 1, hlt2, by go_num, by first | rfl | trivial⟩
                  case measure => exact hms2
                · have ht := HOne.out a hal hin (fun k' h1 h2 h3 => hno k' (by omega) h2 h3)
                  have h0 : decide ((a : Int) < (0 : Int)) = false := decide_eq_false (by omega)
                  rw [← hnm] at ht
                  have HKs := Hd.mk ht
                  have HAl := Hd.mk (And.intro hal hge)
                  clear ht hno hin hnm HNone HOne hge HAt hal
                  obtain ⟨G0, hG0⟩ : ∃ G0, G0 = k := ⟨_, rfl⟩
                  subst hG0
                  clear hd hlt3
                  go_wp2
                  go_loopw [11, 12] (fun ev kv wi => ∃ (k : Nat) (b4 : Bool), k ≤ i + 1 ∧ ev = .bool b4 ∧ kv = .int .i64 k ∧ Hd (ear4 l i (o.groups.take a) nm k = b4) ∧ w5 = wi) (fun _ kv _ => i + 1 - (intOf kv).toNat)
                  case atStart => exact ⟨0, false, Nat.zero_le _, rfl, rfl, ⟨by rw [ear4_le (Nat.zero_le _)]; rfl⟩, by first | rfl | trivial⟩
                  case round =>
                    obtain ⟨k, b4, hk5, rfl, rfl, HE4, rfl⟩ := hrel
                    by_cases hk4 : k ≤ i
                    · have tk : decide ((k : Int) ≤ (i : Int)) = true := decide_eq_true (by omega)
                      have hms4 : i + 1 - (intOf (.int .i64 ((k : Int) + 1))).toNat < i + 1 - (intOf (.int .i64 (k : Int))).toNat := by simp [intOf]; omega
                      have hkM : (k : Int) < (M : Int) := by omega
                      by_cases hki : k < i
                      · obtain ⟨y1, y2, y3, y4, y5, y6, y7, y8, y9, y10, hA2, hC2⟩ := HRd.out.obj' (i := k) (by rw [HM.out]; omega)
                        have HEs := Hd.mk (earB_succ (n := nm) (show k < l.length by rw [HM.out]; omega))
                        have HOk2 := Hd.mk (HV.out.ok _ (List.getElem_mem (show k < l.length by rw [HM.out]; omega)))
                        obtain ⟨o2, ho2⟩ : ∃ o2, l[k]'(show k < l.length by rw [HM.out]; omega) = o2 := ⟨_, rfl⟩
                        rw [ho2] at hA2 hC2 HEs HOk2
                        obtain ⟨q4, e4, rfl⟩ := hA2.groups.slice
                        obtain ⟨Gk, hGk⟩ : ∃ Gk, o2.groups.length = Gk := ⟨_, rfl⟩
                        have HGk := Hd.mk hGk
                        have hGkl : Gk ≤ 140737488351232 := by have := HOk2.out.groups; rw [hGk] at this; exact this
                        rw [hGk] at hA2 hC2
                        have HG2 := Hd.mk hA2.groups
                        have d5 := hC2.c4
                        have hki2 : (k : Int) < (i : Int) := by omega
                        clear hA2 hC2 ho2 hGk
                        go_wp2
                        go_loopw [11, 13] (fun ev gv wi => ∃ (j : Nat) (b : Bool), j ≤ Gk ∧ ev = .bool b ∧ gv = .int .i64 j ∧ Hd ((earB l nm k || nameIn (o2.groups.take j) nm) = b) ∧ w5 = wi) (fun _ gv _ => Gk - (intOf gv).toNat)
                        case atStart => exact ⟨0, b4, Nat.zero_le _, rfl, rfl, ⟨by rw [List.take_zero, ← HE4.out, ear4_le hk4]; simp [nameIn]⟩, by first | rfl | trivial⟩
                        case round =>
                          obtain ⟨j, b, hj, rfl, rfl, HE5, rfl⟩ := hrel
                          by_cases hlt5 : j < Gk
                          · have hjl : j < o2.groups.length := by rw [HGk.out]; exact hlt5
                            obtain ⟨gg, og, cs, rfl, hgg, _, hE, hcg⟩ := HG2.out.at rfl (j := j) hjl
                            have HNm := Hd.mk (nameIn_take (n := nm) hjl)
                            obtain ⟨gr, hgr⟩ : ∃ gr, o2.groups[j] = gr := ⟨_, rfl⟩
                            rw [hgr] at hE HNm
                            obtain ⟨gv, rfl, hgA⟩ := hE
                            have gc0 := hcg 0 _ rfl
                            rw [Nat.add_zero] at gc0
                            have hstr := str_beq gr.name nm
                            obtain ⟨q, hq⟩ : ∃ q, decide (gr.name = nm) = q := ⟨_, rfl⟩
                            rw [hq] at hstr HNm
                            obtain ⟨gn, hgn⟩ : ∃ gn, gr.name = gn := ⟨_, rfl⟩
                            rw [hgn] at hstr gc0
                            have hms5 : Gk - (intOf (.int .i64 ((j : Int) + 1))).toNat < Gk - (intOf (.int .i64 (j : Int))).toNat := by simp [intOf]; omega
                            have hjB : (j : Int) < (Gk : Int) := by omega
                            clear hcg hgg hgr hgA hq hgn
                            cases b with
                            | true =>
                              have HE6 : Hd ((earB l nm k || nameIn (o2.groups.take (j + 1)) nm) = true) := ⟨by rw [HNm.out, ← Bool.or_assoc, HE5.out, Bool.true_or]⟩
                              clear HE5 HNm hstr
                              go_wp2
                              go_roundw
                              case rel => exact ⟨j + 1, true, hlt5, rfl, by go_num, HE6, by first | rfl | trivial⟩
                              case measure => exact hms5
                            | false =>
                              have HE6 : Hd ((earB l nm k || nameIn (o2.groups.take (j + 1)) nm) = q) := ⟨by rw [HNm.out, ← Bool.or_assoc, HE5.out, Bool.false_or]⟩
                              clear HE5 HNm
                              go_wp2
                              go_roundw
                              case rel => exact ⟨j + 1, q, hlt5, rfl, by go_num, HE6, by first | rfl | trivial⟩
                              case measure => exact hms5
                          · have hjn : j = Gk := by omega
                            subst hjn
                            have hdj : decide ((j : Int) < (j : Int)) = false := by simp
                            have HE6 : Hd (ear4 l i (o.groups.take a) nm (k + 1) = b) := ⟨by
                              rw [ear4_le (by omega), HEs.out, ← HE5.out, List.take_of_length_le (by rw [HGk.out]; exact Nat.le_refl _)]⟩
                            clear HE5 HEs
                            go_wp2
                            go_roundw
                            case rel => exact ⟨k + 1, b, by omega, rfl, by go_num, HE6, by first | rfl | trivial⟩
                            case measure => exact hms4
                      · obtain rfl : k = i := by omega
                        have haG : (a : Int) < (G0 : Int) := by have := HAl.out.1; have := HAl.out.2; omega
                        have hdi : decide ((k : Int) < (k : Int)) = false := by simp
                        go_wp2
                        go_loopw [11, 13] (fun ev gv wi => ∃ (j : Nat) (b : Bool), j ≤ a ∧ ev = .bool b ∧ gv = .int .i64 j ∧ Hd ((earB l nm k || nameIn (o.groups.take j) nm) = b) ∧ w5 = wi) (fun _ gv _ => a - (intOf gv).toNat)
                        case atStart => exact ⟨0, b4, Nat.zero_le _, rfl, rfl, ⟨by rw [List.take_zero, ← HE4.out, ear4_le hk4]; simp [nameIn]⟩, by first | rfl | trivial⟩
                        case round =>
                          obtain ⟨j, b, hj, rfl, rfl, HE5, rfl⟩ := hrel
                          by_cases hlt5 : j < a
                          · have hjl : j < o.groups.length := Nat.lt_trans hlt5 HAl.out.1
                            obtain ⟨gg, og, cs, rfl, hgg, _, hE, hcg⟩ := HA.out.groups.at rfl (j := j) hjl
                            have HNm := Hd.mk (nameIn_take (n := nm) hjl)
                            obtain ⟨gr, hgr⟩ : ∃ gr, o.groups[j] = gr := ⟨_, rfl⟩
                            rw [hgr] at hE HNm
                            obtain ⟨gv, rfl, hgA⟩ := hE
                            have gc0 := hcg 0 _ rfl
                            rw [Nat.add_zero] at gc0
                            have hstr := str_beq gr.name nm
                            obtain ⟨q, hq⟩ : ∃ q, decide (gr.name = nm) = q := ⟨_, rfl⟩
                            rw [hq] at hstr HNm
                            obtain ⟨gn, hgn⟩ : ∃ gn, gr.name = gn := ⟨_, rfl⟩
                            rw [hgn] at hstr gc0
                            have hms5 : a - (intOf (.int .i64 ((j : Int) + 1))).toNat < a - (intOf (.int .i64 (j : Int))).toNat := by simp [intOf]; omega
                            have hjB : (j : Int) < (a : Int) := by omega
                            have hjG : (j : Int) < (G0 : Int) := by omega
                            clear hcg hgg hgr hgA hq hgn
                            cases b with
                            | true =>
                              have HE6 : Hd ((earB l nm k || nameIn (o.groups.take (j + 1)) nm) = true) := ⟨by rw [HNm.out, ← Bool.or_assoc, HE5.out, Bool.true_or]⟩
                              clear HE5 HNm hstr
                              go_wp2
                              go_roundw
                              case rel => exact ⟨j + 1, true, hlt5, rfl, by go_num, HE6, by first | rfl | trivial⟩
                              case measure => exact hms5
                            | false =>
                              have HE6 : Hd ((earB l nm k || nameIn (o.groups.take (j + 1)) nm) = q) := ⟨by rw [HNm.out, ← Bool.or_assoc, HE5.out, Bool.false_or]⟩
                              clear HE5 HNm
                              go_wp2
                              go_roundw
                              case rel => exact ⟨j + 1, q, hlt5, rfl, by go_num, HE6, by first | rfl | trivial⟩
                              case measure => exact hms5
                          · have hjn : j = a := by omega
                            subst hjn
                            have hdj : decide ((j : Int) < (j : Int)) = false := by simp
                            have HE6 : Hd (ear4 l k (o.groups.take j) nm (k + 1) = b) := ⟨by rw [ear4_end, occB_eq, HE5.out]⟩
                            clear HE5
                            go_wp2
                            go_roundw
                            case rel => exact ⟨k + 1, b, by omega, rfl, by go_num, HE6, by first | rfl | trivial⟩
                            case measure => exact hms4
                    · have tk : decide ((k : Int) ≤ (i : Int)) = false := decide_eq_false (by omega)
                      have he : b4 = occB l i (o.groups.take a) nm := by
                        rw [← HE4.out, show k = i + 1 by omega, ear4_end]
                      have hks : ks = !b4 := by rw [HKs.out, he]
                      subst hks
                      clear he HE4 HKs
                      cases b4 <;>
                      · go_wp2
                        go_roundw
                        case rel => exact ⟨s + 1, hlt2, by go_num, by first | rfl | trivial⟩
                        case measure => exact hms2
          · have hsn : s = N := by omega
            subst hsn
            have hd : decide ((s : Int) < (s : Int)) = false := by simp
            go_wp2
            go_roundw
            case rel => exact ⟨i + 1, hlt, by go_num, HD⟩
            case measure => exact hms
      · have hin : i = M := by omega
        subst hin
        have hd : decide ((i : Int) < (i : Int)) = false := by simp
        have HB := Hd.mk (below_next B3.out HW.out)
        go_wp2
        go_ret
        exact ⟨rfl, HB.out⟩
  · rw [decide_eq_false hf] at HFw
    clear hf
    go_enter Tryd.func4, Tryd.ntmps4
    go_wp2_with fail
    refine HSm.out.mono ?_
    rintro e w1 ⟨rfl, b1⟩
    have B1 := Hd.mk b1
    clear b1 HSm
    go_wp2_with fail
    refine (HFw.out w1 B1.out).mono ?_
    rintro e w2 ⟨rfl, b2⟩
    have B2 := Hd.mk (below_next B1.out b2)
    clear b2 B1 HFw
    go_wp2
    go_ret
    exact ⟨rfl, B2.out⟩

end Go.Proofs.YtimbhnnidohmaaaDoor.W
