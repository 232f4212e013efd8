/-
  The reference's ways.
-/
import Derived.Test.YtlncfhkmjbempaaRfp
namespace Go.Proofs.Ytlncfhkmjbempaa.W
open Go.RowKit
set_option linter.unusedVariables false

theorem eqI_nil (w : World) : (binOp .eql 23 (.slice none 0 0) (.slice none 0 0)).run Try.prog w = .ok (.bool true) w := by kernel_rfl
theorem eqI_some (a : Addr) (n c : Nat) (w : World) : (binOp .eql 23 (.slice (some a) n c) (.slice none 0 0)).run Try.prog w = .ok (.bool false) w := by kernel_rfl
theorem neI_nil (w : World) : (binOp .neq 23 (.slice none 0 0) (.slice none 0 0)).run Try.prog w = .ok (.bool false) w := by kernel_rfl
theorem neI_some (a : Addr) (n c : Nat) (w : World) : (binOp .neq 23 (.slice (some a) n c) (.slice none 0 0)).run Try.prog w = .ok (.bool true) w := by kernel_rfl
theorem take_con {l : List Nat} {i : Nat} (hi : i < l.length) (u : Nat) : (l.take (i + 1)).contains u = ((l.take i).contains u || decide (u = l[i])) := by
  have e : l.take (i + 1) = l.take i ++ [l[i]] := by rw [List.take_add_one, List.getElem?_eq_getElem hi]; rfl
  rw [Bool.eq_iff_iff, Bool.or_eq_true, List.contains_iff_mem, List.contains_iff_mem, decide_eq_true_iff, e, List.mem_append, List.mem_singleton]

theorem better_lt {x Y : List Nat} (hY : Y ≠ []) (h : x.length < Y.length) : better x Y = true := by
  unfold better
  rw [decide_eq_true h]
  simp
theorem better_gt {x Y : List Nat} (hY : Y ≠ []) (h : ¬ x.length < Y.length) (h2 : ¬ x.length = Y.length) : better x Y = false := by
  have he : Y.isEmpty = false := by cases Y with
    | nil => exact absurd rfl hY
    | cons a r => rfl
  unfold better
  rw [decide_eq_false h, decide_eq_false h2, he]; rfl
theorem better_eq {x Y : List Nat} (hY : Y ≠ []) (h2 : x.length = Y.length) : better x Y = lessI (intL x) (intL Y) := by
  have he : Y.isEmpty = false := by cases Y with
    | nil => exact absurd rfl hY
    | cons a r => rfl
  unfold better
  rw [decide_eq_false (show ¬ x.length < Y.length by omega), decide_eq_true h2, he]
  simp only [Bool.false_or, Bool.true_and]
  rw [Bool.eq_iff_iff, decide_eq_true_iff]
  exact less_cmp _ _

set_option maxHeartbeats 4000000 in
set_option maxRecDepth 100000 in
theorem rways_any (w : World) (n : Nat) (hn : n ≤ 1000) (v bv : Value) (arcs : List Arc) (rs rts : List Nat) (ws : List (List Nat)) (hR : Rw 2 Arc.E w v arcs) (hl : arcs.length ≤ 1000000) (hr : rightB (n : Int) arcs = true)
    (hBv : Rw 1 rowE w bv (rs.map fun (r : Nat) => [(r : Int)])) (hrl : rs.length ≤ 1000000) (hW : Tj.Ways n (nx n arcs) rts ws) (hrs : ∀ u, u ∈ rs ↔ u ∈ rts) (hlt : ∀ u, u ∈ rs → u < n) :
    Calls Try.prog 38 #[.int .i64 n, v, bv] w fun e w' => ∃ g, e = .returned (.slice (some ⟨g, 0, none⟩) n n) ∧ Tb w' (fun q => q = g) g n (fun u => Tj.wayL ws u) ∧ Below w.heap.size w w' := by
  obtain ⟨p, c, hv⟩ := hR.slice
  obtain ⟨q, d, hbv⟩ := hBv.slice
  obtain ⟨M, hM⟩ : ∃ M, arcs.length = M := ⟨_, rfl⟩
  obtain ⟨K, hK⟩ : ∃ K, rs.length = K := ⟨_, rfl⟩
  rw [hM] at hv
  rw [List.length_map, hK] at hbv
  subst hv hbv
  obtain ⟨go, hgo⟩ : ∃ g, w.heap.size = g := ⟨_, rfl⟩
  have HG := Hd.mk hgo
  have H := Hd.mk hR
  have HBv := Hd.mk hBv
  have HN := Hd.mk (And.intro hM hK)
  have HRt := Hd.mk (right_is hr).2.2
  have HRb := Hd.mk hr
  have HWs := Hd.mk (And.intro hW (And.intro hrs hlt))
  have hMb : M ≤ 1000000 := by omega
  have hKb : K ≤ 1000000 := by omega
  have hen := eqI_nil
  have hes := eqI_some
  have hnn := neI_nil
  have hns := neI_some
  have mz := make_rows w n (by omega)
  rw [hgo] at mz
  have HMZ := Hd.mk mz
  have HB0 : Hd (Below w.heap.size w (w.alloc (.cells (List.replicate n (.slice none 0 0)).toArray 23))) := ⟨below_al _ _⟩
  have HT0 : Hd (Tb (w.alloc (.cells (List.replicate n (.slice none 0 0)).toArray 23)) (fun q => q = go) go n (fun u => if (rs.take 0).contains u = true then [u] else [])) := ⟨by
    rw [← hgo]
    exact (Tb.made w _ n).congr (fun u _ => by simp)⟩
  clear hR hBv hM hK hgo mz hr hl hrl hW hrs hlt
  go_enter Try.func38, Try.ntmps38
  go_upto_region 1 with (fail)
  go_cut [7] from 17 (fun s7 wx => s7 = .slice (some ⟨go, 0, none⟩) n n ∧ Hd (Tb wx (fun q => q = go) go n (fun u => if (rs.take 0).contains u = true then [u] else [])) ∧ Hd (Below w.heap.size w wx))
  case first =>
    have mz := HMZ.out
    go_wp2
    go_meet
    exact ⟨rfl, HT0, HB0⟩
  case rest =>
  obtain ⟨rfl, HT1, HB1⟩ := hcut
  clear HT0 HB0 HMZ
  go_step
  go_step
  go_cut [] from 17 (fun wx => Hd (Tb wx (fun q => q = go) go n (LV ws 0)) ∧ Hd (Below w.heap.size w wx))
  case first =>
    go_wp2
    go_loopw [8] (fun iv wr => ∃ i : Nat, i ≤ K ∧ iv = .int .i64 (i : Int) ∧ Hd (Tb wr (fun q => q = go) go n (fun u => if (rs.take i).contains u = true then [u] else [])) ∧ Hd (Below w.heap.size w wr)) (fun iv _ => K - (intOf iv).toNat)
    case atStart => exact ⟨0, Nat.zero_le _, rfl, HT1, HB1⟩
    case round =>
      clear HT1 HB1
      obtain ⟨i, hi, rfl, HT, HB⟩ := hrel
      by_cases hlt : i < K
      · have hd1 : decide ((i : Int) < (K : Int)) = true := decide_eq_true (by omega)
        have hmi : K - (intOf (.int .i64 ((i : Int) + 1))).toNat < K - (intOf (.int .i64 (i : Int))).toNat := by simp [intOf]; omega
        have hiq : i < rs.length := by rw [HN.out.2]; exact hlt
        obtain ⟨gb, ob, cs, e1, hgb, _, ⟨a, rfl, hRa⟩, hca⟩ := HBv.out.at rfl (j := i) (by rw [List.length_map]; exact hiq)
        subst e1
        rw [List.getElem_map] at hRa
        have c1 := hca 0 _ rfl
        rw [Nat.mul_one, Nat.add_zero] at c1
        have htk := fun u => take_con hiq u
        have hxn := HWs.out.2.2 _ (List.getElem_mem hiq)
        obtain ⟨x, hx⟩ : ∃ x, rs[i] = x := ⟨_, rfl⟩
        rw [hx] at hRa hxn
        simp only [hx] at htk
        obtain ⟨pa, ca, ha⟩ := Rw.slice hRa
        have ha' : a = .slice pa 1 ca := ha
        subst ha'
        obtain ⟨ga, oa, e2, hE⟩ := RI.ever hRa (by simp)
        subst e2
        have SB : Hd (∀ w', Below w.heap.size w w' → w'.cell? ⟨gb, ob + i, none⟩ = some (.slice (some ⟨ga, oa, none⟩) 1 ca) ∧ w'.cell? ⟨ga, oa, none⟩ = some (.int .i64 (x : Int))) := ⟨fun w' hb => ⟨by
          rw [hb.cell (p := ⟨gb, ob + i, none⟩) hgb]; exact c1, by
          have := hE 0 (by simp) w' hb
          rw [Nat.add_zero] at this
          exact this⟩⟩
        have HRa : Hd (∀ w', Below w.heap.size w w' → RI w' (.slice (some ⟨ga, oa, none⟩) 1 ca) (intL [x])) := ⟨fun w' hb => Rw.below hRa intE_stays hb⟩
        have HBd : Hd (Below w.heap.size w wr.drew) := ⟨HB.out.trans ((Bel wr 1).mono HB.out.size)⟩
        have HTd : Hd (Tb wr.drew (fun q => q = go) go n (fun u => if (rs.take i).contains u = true then [u] else [])) := ⟨HT.out.keeps (S := fun _ => False) ((Keeps.refl (fun _ => False) wr).drew) (fun _ _ h => h.elim) (fun h => h)⟩
        have hw0 : IntKind.i64.wrap 0 = 0 := IntWalk.i64_in _ (by omega)
        have Htk := Hd.mk htk
        clear hca hRa c1 hgb hE hx hiq htk HT HB
        go_upto_region 5 with (fail)
        refine wp_region_lin default (fun w' => w'.cell? ⟨gb, ob + i, none⟩ = some (.slice (some ⟨ga, oa, none⟩) 1 ca) ∧ w'.cell? ⟨ga, oa, none⟩ = some (.int .i64 (x : Int))) [(0, true), (1, true), (2, true), (3, true), (4, true), (5, true), (6, true), (7, true), (8, true), (9, true), (10, true), (11, true), (12, true)] (by kernel_rfl) (by kernel_rfl) rfl (by kernel_rfl) (by kernel_rfl) (SB.out _ HBd.out) ?_
        simp only [pick, List.getD_cons_zero, List.getD_cons_succ]
        repeat
          first
          | (refine lin_free (v := ?_) (by rfl) ?_ ?_
             rotate_left
             · intro w' hSw
               obtain ⟨d0, d1⟩ := hSw
               go_simp
               first | done | with_reducible rfl
             simp only [Act.put, List.setIfInBounds_toArray, List.set_cons_zero, List.set_cons_succ])
          | (refine lin_skip (by rfl) ?_
             simp only [Act.put, List.setIfInBounds_toArray, List.set_cons_zero, List.set_cons_succ])
        refine NoPanic.normal ?_
        generalize wr.drew = wd at HBd HTd ⊢
        clear hw0
        obtain ⟨ev, cx, zx, hEv⟩ := HTd.out.at hxn
        rcases hcn : (rs.take i).contains x with _ | _
        · rw [hcn, if_neg (by simp)] at hEv
          have hev : ev = .slice none 0 0 := by
            rcases hEv.is with ⟨h, _⟩ | ⟨_, _, _, _, h, _⟩
            · exact h
            · exact absurd rfl h
          subst hev
          have cx2 : wd.drew.cell? ⟨go, x, none⟩ = some (.slice none 0 0) := cx
          have zx2 : wd.drew.frozen? ⟨go, x, none⟩ = false := zx
          have HB2 : Hd (Below w.heap.size w wd.drew) := ⟨HBd.out.trans ((Bel wd 1).mono HBd.out.size)⟩
          obtain ⟨d0, d1⟩ := SB.out wd.drew HB2.out
          have HT2 : Hd (Tb wd.drew (fun q => q = go) go n (fun u => if (rs.take i).contains u = true then [u] else [])) := ⟨HTd.out.keeps (S := fun _ => False) ((Keeps.refl (fun _ => False) wd).drew) (fun _ _ h => h.elim) (fun h => h)⟩
          have HT3 : Hd (Tb (wd.drew.setCell ⟨go, x, none⟩ (.slice (some ⟨ga, oa, none⟩) 1 ca)) (fun q => q = go) go n (fun u => if (rs.take (i + 1)).contains u = true then [u] else [])) := ⟨by
            have hEn : Ent wd.drew (fun q => q = go) (.slice (some ⟨ga, oa, none⟩) 1 ca) [x] := (Ent.of_ri (HRa.out w (Below.refl _ _)) (by simp) (fun g hg e => by have := HG.out; omega)).keeps (S := fun g => w.heap.size ≤ g) (Keeps.of_below HB2.out (fun _ _ h => h)) (fun g h1 h2 => by omega)
            refine (HT2.out.set hxn rfl hEn).congr (fun u _ => ?_)
            rw [Htk.out u]
            by_cases e : u = x
            · subst e; simp
            · simp [e]⟩
          have HB3 : Hd (Below w.heap.size w (wd.drew.setCell ⟨go, x, none⟩ (.slice (some ⟨ga, oa, none⟩) 1 ca))) := ⟨set_below (by rw [HG.out]; exact Nat.le_refl _) HB2.out⟩
          clear cx zx hEv hcn HT2 HB2 HTd HBd
          go_upto_region 6 with (fail)
          refine wp_region_lin default (fun w' => w'.cell? ⟨go, x, none⟩ = some (.slice none 0 0)) [(0, true), (1, true), (2, true), (3, true), (4, true), (5, true), (6, true), (7, true), (8, true), (9, true), (10, true), (11, true), (12, true), (13, true), (14, false), (15, true)] (by kernel_rfl) (by kernel_rfl) rfl (by kernel_rfl) (by kernel_rfl) (cx2) ?_
          simp only [pick, List.getD_cons_zero, List.getD_cons_succ]
          repeat
            first
            | (refine lin_free (v := ?_) (by rfl) ?_ ?_
               rotate_left
               · intro w' hSw
                 have d0 := hSw; clear hSw
                 go_simp
                 first | done | with_reducible rfl
               simp only [Act.put, List.setIfInBounds_toArray, List.set_cons_zero, List.set_cons_succ])
            | (refine lin_skip (by rfl) ?_
               simp only [Act.put, List.setIfInBounds_toArray, List.set_cons_zero, List.set_cons_succ])
          refine lin_bound (fun K hK => ?_)
          go_simp
          refine hK.out _ _ cx2 ?_
          clear hK K
          try simp only [Act.put, List.setIfInBounds_toArray, List.set_cons_zero, List.set_cons_succ]
          repeat
            first
            | (refine lin_free (v := ?_) (by rfl) ?_ ?_
               rotate_left
               · intro w' hSw
                 have d0 := hSw; clear hSw
                 go_simp
                 first | done | with_reducible rfl
               simp only [Act.put, List.setIfInBounds_toArray, List.set_cons_zero, List.set_cons_succ])
            | (refine lin_skip (by rfl) ?_
               simp only [Act.put, List.setIfInBounds_toArray, List.set_cons_zero, List.set_cons_succ])
          refine NoPanic.normal ?_
          generalize wd.drew = we at cx2 zx2 d0 d1 HT3 HB3 ⊢
          go_wp2
          go_roundw
          case rel => exact ⟨i + 1, hlt, by go_num, HT3, HB3⟩
          case measure => exact hmi
        · rw [hcn, if_pos rfl] at hEv
          have hev : ∃ ge oe ce, ev = .slice (some ⟨ge, oe, none⟩) 1 ce := by
            rcases hEv.is with ⟨_, h⟩ | ⟨g, o, c, h, _⟩
            · cases h
            · exact ⟨g, o, c, h⟩
          obtain ⟨ge, oe, ce, rfl⟩ := hev
          have HB2 : Hd (Below w.heap.size w wd.drew) := ⟨HBd.out.trans ((Bel wd 1).mono HBd.out.size)⟩
          have hri := hEv.ri
          have HLs := Hd.mk (rless_any wd.drew (.slice (some ⟨ga, oa, none⟩) 1 ca) (.slice (some ⟨ge, oe, none⟩) 1 ce) (intL [x]) (intL [x]) (by simp [intL]) (by simp [intL]) (HRa.out _ HB2.out) (Rw.below hri intE_stays (Bel wd 1)))
          rw [less_irr] at HLs
          have S6 : Hd (∀ w', Below wd.drew.heap.size wd.drew w' → w'.cell? ⟨go, x, none⟩ = some (.slice (some ⟨ge, oe, none⟩) 1 ce) ∧ w'.cell? ⟨gb, ob + i, none⟩ = some (.slice (some ⟨ga, oa, none⟩) 1 ca)) := ⟨fun w' hb => ⟨by
            rw [hb.cell (p := ⟨go, x, none⟩) HTd.out.lt]; exact cx, (SB.out w' (HB2.out.trans (hb.mono HB2.out.size))).1⟩⟩
          have HTn : Hd (∀ w', Below wd.drew.heap.size wd.drew w' → Tb w' (fun q => q = go) go n (fun u => if (rs.take (i + 1)).contains u = true then [u] else [])) := ⟨fun w' hb => by
            have h1 := HTd.out.keeps (S := fun _ => False) ((Keeps.refl (fun _ => False) wd).drew) (fun _ _ h => h.elim) (fun h => h)
            have h2 := h1.keeps (S := fun g => wd.drew.heap.size ≤ g) (Keeps.of_below hb (fun _ _ h => h)) (fun g h3 h4 => by omega) (by have := h1.lt; omega)
            refine h2.congr (fun u _ => ?_)
            rw [Htk.out u]
            by_cases e : u = x
            · rw [e, hcn]; simp
            · simp [e]⟩
          clear cx zx hEv hri
          go_upto_region 6 with (fail)
          refine wp_region_lin default (fun w' => w'.cell? ⟨go, x, none⟩ = some (.slice (some ⟨ge, oe, none⟩) 1 ce) ∧ w'.cell? ⟨gb, ob + i, none⟩ = some (.slice (some ⟨ga, oa, none⟩) 1 ca)) [(0, true), (1, true), (2, true), (3, true), (4, true), (5, true), (6, true), (7, true), (8, true), (9, true), (10, true), (11, true), (12, true), (13, true), (14, false), (15, true)] (by kernel_rfl) (by kernel_rfl) rfl (by kernel_rfl) (by kernel_rfl) (S6.out _ (Below.refl _ _)) ?_
          simp only [pick, List.getD_cons_zero, List.getD_cons_succ]
          repeat
            first
            | (refine lin_free (v := ?_) (by rfl) ?_ ?_
               rotate_left
               · intro w' hSw
                 obtain ⟨d0, d1⟩ := hSw
                 go_simp
                 first | done | with_reducible rfl
               simp only [Act.put, List.setIfInBounds_toArray, List.set_cons_zero, List.set_cons_succ])
            | (refine lin_skip (by rfl) ?_
               simp only [Act.put, List.setIfInBounds_toArray, List.set_cons_zero, List.set_cons_succ])
          refine lin_bound (fun K hK => ?_)
          go_simp
          refine HLs.out.mono ?_
          rintro e w8 ⟨rfl, b8⟩
          have Hb8 := Hd.mk b8
          clear b8
          dsimp only
          refine hK.out _ _ (S6.out _ Hb8.out) ?_
          clear hK K
          try simp only [Act.put, List.setIfInBounds_toArray, List.set_cons_zero, List.set_cons_succ]
          repeat
            first
            | (refine lin_free (v := ?_) (by rfl) ?_ ?_
               rotate_left
               · intro w' hSw
                 obtain ⟨d0, d1⟩ := hSw
                 go_simp
                 first | done | with_reducible rfl
               simp only [Act.put, List.setIfInBounds_toArray, List.set_cons_zero, List.set_cons_succ])
            | (refine lin_skip (by rfl) ?_
               simp only [Act.put, List.setIfInBounds_toArray, List.set_cons_zero, List.set_cons_succ])
          refine NoPanic.normal ?_
          have HB3 : Hd (Below w.heap.size w w8) := ⟨HB2.out.trans (Hb8.out.mono HB2.out.size)⟩
          have HT3 := Hd.mk (HTn.out _ Hb8.out)
          clear HTn Hb8 S6 HLs hcn
          go_wp2
          go_roundw
          case rel => exact ⟨i + 1, hlt, by go_num, HT3, HB3⟩
          case measure => exact hmi
      · have hd1 : decide ((i : Int) < (K : Int)) = false := decide_eq_false (by omega)
        have HTe : Hd (Tb wr (fun q => q = go) go n (LV ws 0)) := ⟨HT.out.congr (fun u _ => by
          have hc : rs.contains u = rts.contains u := by rw [Bool.eq_iff_iff, List.contains_iff_mem, List.contains_iff_mem, HWs.out.2.1]
          rw [List.take_of_length_le (by rw [HN.out.2]; omega), wv_zero HWs.out.1, hc])⟩
        clear HT
        go_wp2
        go_meet
        exact ⟨HTe, HB⟩
  case rest =>
  obtain ⟨HT2, HB2⟩ := hcut
  clear HT1 HB1
  have hen := eqI_nil
  have hes := eqI_some
  have hnn := neI_nil
  have hns := neI_some
  go_wp2
  go_loopw [10] (fun rv wr => ∃ r : Nat, r ≤ n ∧ rv = .int .i64 (r : Int) ∧ Hd (Tb wr (fun q => q = go) go n (LV ws r)) ∧ Hd (Below w.heap.size w wr)) (fun rv _ => n - (intOf rv).toNat)
  case atStart => exact ⟨0, Nat.zero_le _, rfl, HT2, HB2⟩
  case round =>
    clear HT2 HB2
    obtain ⟨r, hr, rfl, HT, HB⟩ := hrel
    rename World => wk
    by_cases hlt : r < n
    · have hd1 : decide ((r : Int) < (n : Int)) = true := decide_eq_true (by omega)
      have hmr : n - (intOf (.int .i64 ((r : Int) + 1))).toNat < n - (intOf (.int .i64 (r : Int))).toNat := by simp [intOf]; omega
      obtain ⟨gn, hgn⟩ : ∃ g, wk.heap.size = g := ⟨_, rfl⟩
      have hgo := HT.out.lt
      have hne : go ≠ gn := by omega
      have HGn : Hd (w.heap.size ≤ gn) := ⟨by rw [← hgn]; exact HB.out.size⟩
      have mz := make_rows wk n (by omega)
      rw [hgn] at mz
      have HTo : Hd (Tb (wk.alloc (.cells (List.replicate n (.slice none 0 0)).toArray 23)) (fun q => q = go ∨ q = gn) go n (LV ws r)) := ⟨(HT.out.weak (W' := fun q => q = go ∨ q = gn) (fun g h1 h2 => by
        rcases h2 with h2 | h2
        · exact h2
        · omega)).keeps (S := fun _ => False) ((Keeps.refl (fun _ => False) wk).alloc _) (fun _ _ h => h.elim) (fun h => h)⟩
      have HTn : Hd (Tb (wk.alloc (.cells (List.replicate n (.slice none 0 0)).toArray 23)) (fun q => q = go ∨ q = gn) gn n (fun _ => [])) := ⟨by
        have := Tb.made wk (fun q => q = go ∨ q = gn) n
        rw [hgn] at this
        exact this⟩
      have HBa : Hd (Below w.heap.size w (wk.alloc (.cells (List.replicate n (.slice none 0 0)).toArray 23))) := ⟨up HB.out _⟩
      have HBn : Hd (gn < (wk.alloc (.cells (List.replicate n (.slice none 0 0)).toArray 23)).heap.size) := ⟨by simp; omega⟩
      have HX0 : Hd (∀ u, u < n → LpOk (Cw ws r (arcs.take 0) u) []) := ⟨fun u _ => .none (fun c h => by obtain ⟨a, ha, _⟩ := h; simp at ha)⟩
      clear hgn hgo HT HB
      go_wp2
      clear mz
      go_loopw [12] (fun iv wq => ∃ (i : Nat) (X : Nat → List Nat), i ≤ M ∧ iv = .int .i64 (i : Int) ∧ Hd (Tb wq (fun q => q = go ∨ q = gn) go n (LV ws r)) ∧ Hd (Tb wq (fun q => q = go ∨ q = gn) gn n X) ∧ Hd (∀ u, u < n → LpOk (Cw ws r (arcs.take i) u) (X u)) ∧ Hd (Below w.heap.size w wq)) (fun iv _ => M - (intOf iv).toNat)
      case atStart => exact ⟨0, fun _ => [], Nat.zero_le _, rfl, HTo, HTn, HX0, HBa⟩
      case round =>
        clear HTo HTn HX0 HBa HBn
        obtain ⟨i, X, hi, rfl, HTo, HTn, HX, HB⟩ := hrel
        by_cases hlti : i < M
        · have hd2 : decide ((i : Int) < (M : Int)) = true := decide_eq_true (by omega)
          have hmi : M - (intOf (.int .i64 ((i : Int) + 1))).toNat < M - (intOf (.int .i64 (i : Int))).toNat := by simp [intOf]; omega
          have hiq : i < arcs.length := by rw [HN.out.1]; exact hlti
          obtain ⟨ga, of, cs, hpe, hga, hcl, hE, hcc⟩ := (H.out.below Arc.stays HB.out).at rfl (j := i) hiq
          subst hpe
          rw [show cs = arcs[i].cells from hE] at hcc
          obtain ⟨⟨f1, f2⟩, t1, t2⟩ := HRt.out _ (List.getElem_mem hiq)
          have hskip := fun (u : Nat) h => cw_skip (ws := ws) (r := r) (u := u) hiq h
          have htake := fun (u : Nat) => cw_take (ws := ws) (r := r) (u := u) hiq
          obtain ⟨f, hf⟩ := nat_of f1
          obtain ⟨t, ht⟩ := nat_of t1
          rw [hf, ht] at hskip htake
          rw [show ((f : Int)).toNat = f by omega] at hskip htake
          have hfn : f < n := by omega
          have htn : t < n := by omega
          have d0 : wr.cell? ⟨ga, of + i * 2, none⟩ = some (.int .i64 (f : Int)) := by rw [← hf]; exact hcc 0 _ rfl
          have d1 : wr.cell? ⟨ga, of + i * 2 + 1, none⟩ = some (.int .i64 (t : Int)) := by rw [← ht]; exact hcc 1 _ rfl
          have HSk := Hd.mk hskip
          have HTk := Hd.mk htake
          clear hcc hcl hE hga hf ht hiq cs hskip htake f1 f2 t1 t2
          obtain ⟨ef, cf, zf, hEf⟩ := HTo.out.at hfn
          by_cases hLf : LV ws r f = []
          · have hev : ef = .slice none 0 0 := by
              rcases hEf.is with ⟨h, _⟩ | ⟨_, _, _, _, h, _⟩
              · exact h
              · exact absurd hLf h
            subst hev
            have HX2 : Hd (∀ u, u < n → LpOk (Cw ws r (arcs.take (i + 1)) u) (X u)) := ⟨fun u hu => (HX.out u hu).congr (HSk.out u (fun h => h.2.1 hLf))⟩
            clear hEf zf hLf HSk HTk HX
            go_wp2
            exact ⟨⟨i + 1, X, hlti, by go_num, HTo, HTn, HX2, HB⟩, hmi⟩
          · obtain ⟨gf, o_f, c_f, hev⟩ : ∃ g o c, ef = .slice (some ⟨g, o, none⟩) (LV ws r f).length c := by
              rcases hEf.is with ⟨_, h⟩ | ⟨g, o, c, h, _⟩
              · exact absurd h hLf
              · exact ⟨g, o, c, h⟩
            obtain ⟨et, ct, zt, hEt⟩ := HTo.out.at htn
            by_cases hLt : LV ws r t = []
            · have hev2 : et = .slice none 0 0 := by
                rcases hEt.is with ⟨h, _⟩ | ⟨_, _, _, _, h, _⟩
                · exact h
                · exact absurd hLt h
              subst hev2
              have hfl : (LV ws r f).length ≤ n := lv_len HWs.out.1
              obtain ⟨Lf, hLfe⟩ : ∃ l, LV ws r f = l := ⟨_, rfl⟩
              have HLfe := Hd.mk hLfe
              rw [hLfe] at hEf hev hfl hLf
              obtain ⟨FL, hFL⟩ : ∃ k, Lf.length = k := ⟨_, rfl⟩
              rw [hFL] at hev hfl
              subst hev
              have hEfa := hEf.keeps (S := fun _ => False) ((Keeps.refl (fun _ => False) wr).alloc (.cells #[] 3)) (fun _ _ h => h.elim)
              obtain ⟨i0, hi0, hz0, hz1, hz2⟩ := info_parts infoInt
              have hcells : ∀ j u, (intC Lf)[j]? = some u → (wr.alloc (.cells #[] 3)).cell? ((⟨gf, o_f, none⟩ : Addr).add j) = some u := fun j u hj => by
                rw [show ((⟨gf, o_f, none⟩ : Addr).add j) = ⟨gf, o_f + j, none⟩ by unfold Addr.add; split <;> simp_all]
                rcases hEfa.is with ⟨h, _⟩ | ⟨g, o, c, h, _, _, _, hc⟩
                · cases h
                · cases h
                  rw [intC, List.getElem?_map] at hj
                  cases hx : Lf[j]? with
                  | none => rw [hx] at hj; cases hj
                  | some x => rw [hx] at hj; cases hj; exact hc j x hx
              obtain ⟨x1, w1, hrun, hown, hk1⟩ := app_fresh (P := Try.prog) (wr.alloc (.cells #[] 3)) 23 23 3 Try.underlying23 hi0 hz0 hz1 hz2 rfl (by decide) wr.heap.size (by simp) (some ⟨wr.heap.size, 0, none⟩)
                (by refine ⟨rfl, .inr ⟨wr.heap.size, 0, #[], rfl, Nat.le_refl _, heap_alloc_new wr _, Nat.le_refl _, by decide, rfl, rfl⟩⟩) (some ⟨gf, o_f, none⟩) FL c_f (intC Lf) (.inr ⟨_, rfl, hcells⟩) (by simp [intC, hFL]) (fun u hu => by obtain ⟨x, _, rfl⟩ := List.mem_map.1 hu; rfl) (by unfold maxLen; omega) (by omega)
              have HO1 : Hd (Own w1 wr.heap.size 3 x1 (intC Lf)) := ⟨Own.of_row hown⟩
              have cf2 : (wr.alloc (.cells #[] 3)).cell? ⟨go, f, none⟩ = some (.slice (some ⟨gf, o_f, none⟩) FL c_f) := by
                rw [(below_al wr (.cells #[] 3)).cell (p := ⟨go, f, none⟩) HTo.out.lt]
                exact cf
              have HRun := Hd.mk hrun
              have HFL := Hd.mk hFL
              have Hb1 : Hd (Below wr.heap.size wr w1) := ⟨(below_al wr _).trans (hk1.below (by simp) (fun _ _ h => h.elim))⟩
              have HI0 := Hd.mk (And.intro hi0 (And.intro hz0 (And.intro hz1 hz2)))
              clear hi0 hz0 hz1 hz2 hrun hown hk1 hcells hEfa hFL hLfe hEf hEt zf zt
              have hbk1 := Blk.new w1 3 [.int .i64 (t : Int)]
              obtain ⟨x2, w2, hrun2, h1, h2, h3⟩ := run_app (P := Try.prog) (w1.alloc (.cells #[.int .i64 (t : Int)] 3)) 23 23 3 Try.underlying23 HI0.out.1 HI0.out.2.1 HI0.out.2.2.1 HI0.out.2.2.2 rfl x1 (intC Lf) [.int .i64 (t : Int)] (HO1.out.alloc _) w1.heap.size 1 (fun j u hj => hbk1.at hj) (fun u hu => by simp at hu; subst hu; rfl) (by have := HFL.out; simp only [intC, List.length_map, List.length_singleton]; unfold maxLen; omega) (by have := HFL.out; simp only [intC, List.length_map, List.length_singleton]; omega) (by have := Hb1.out.size; simp; omega)
              clear hbk1
              have hO2 : Own w2 wr.heap.size 3 x2 (intC (Lf ++ [t])) := by
                rw [show intC (Lf ++ [t]) = intC Lf ++ [.int .i64 (t : Int)] by simp [intC]]
                exact h1
              have hb2 : Below wr.heap.size wr w2 := Hb1.out.trans ((((Keeps.refl (fun k => x1.ownBlock = some k) w1).alloc _).trans h2).below Hb1.out.size (fun g hg hr => by have := (HO1.out.lt hr).1; omega))
              have htk2 := HTk.out t rfl
              rw [HLfe.out] at htk2
              have hxne : Lf ++ [t] ≠ [] := by simp
              obtain ⟨x, hx⟩ : ∃ x, Lf ++ [t] = x := ⟨_, rfl⟩
              have hXL : x.length = FL + 1 := by rw [← hx, List.length_append, HFL.out]; rfl
              rw [hx] at hO2 htk2 hxne
              obtain ⟨px, cx, hx2⟩ := hO2.slice'
              obtain ⟨XL, hXLe⟩ : ∃ k, FL + 1 = k := ⟨_, rfl⟩
              rw [hXLe] at hXL
              rw [show (intC x).length = XL by rw [← hXL]; simp [intC]] at hx2
              subst hx2
              have HRun2 := Hd.mk hrun2
              have HTo2 : Hd (∀ w', Below w2.heap.size w2 w' → Tb w' (fun q => q = go ∨ q = gn) go n (LV ws r)) := ⟨fun w' hb => HTo.out.keeps (S := fun g => wr.heap.size ≤ g) (Keeps.of_below (hb2.trans (hb.mono hb2.size)) (fun _ _ h => h)) (fun g h3 h4 => by omega) (by have := HTo.out.lt; omega)⟩
              have HTn2 : Hd (∀ w', Below w2.heap.size w2 w' → Tb w' (fun q => q = go ∨ q = gn) gn n X) := ⟨fun w' hb => HTn.out.keeps (S := fun g => wr.heap.size ≤ g) (Keeps.of_below (hb2.trans (hb.mono hb2.size)) (fun _ _ h => h)) (fun g h3 h4 => by omega) (by have := HTn.out.lt; omega)⟩
              have HEx : Hd (∀ w', Below w2.heap.size w2 w' → Ent w' (fun q => q = go ∨ q = gn) (.slice px XL cx) x) := ⟨fun w' hb => (Ent.of_own hO2 hxne (fun g hg hW => by
                have h5 := HTo.out.lt
                have h6 := HTn.out.lt
                rcases hW with h | h <;> omega)).keeps (S := fun g => w2.heap.size ≤ g) (Keeps.of_below hb (fun _ _ h => h)) (fun g h3 h4 => by omega)⟩
              have HB2 := Hd.mk (HB.out.trans (hb2.mono HB.out.size))
              have HRx : Hd (RI w2 (.slice px XL cx) (intL x)) := ⟨RI.ofN hO2⟩
              have HXn : Hd (∀ u, u < n → LpOk (Cw ws r (arcs.take (i + 1)) u) (if u = t then (if better x (X t) = true then x else X t) else X u)) := ⟨fun u hu => by
                by_cases e : u = t
                · subst e
                  rw [if_pos rfl]
                  exact lpok_add (HX.out u hu) hxne (htk2 (by rw [← hx] at hxne; exact hLf) hLt)
                · rw [if_neg e]
                  exact (HX.out u hu).congr (HSk.out u (fun h => e (by have := h.1; omega)))⟩
              have hXb : True := trivial
              have hXt : (X t).length ≤ n + 1 := by
                rcases HX.out t htn with ⟨h, _⟩ | ⟨_, ⟨a, _, _, _, _, e⟩, _⟩
                · rw [h]; simp
                · rw [e, List.length_append]
                  have := lv_len (r := r) (u := a.f.toNat) HWs.out.1
                  simp; omega
              have HXL := Hd.mk hXL
              have hXLn : XL ≤ n + 1 := by omega
              clear h1 h2 h3 hO2 hb2 htk2 hx HO1 Hb1 HSk HTk HX HTo HTn HB hXL hXLe hLf hLt hrun2 hXb HI0 hxne
              obtain ⟨en, c_n, zn, hEn⟩ := (HTn2.out w2 (Below.refl _ _)).at htn
              obtain ⟨Y, hY⟩ : ∃ Y, X t = Y := ⟨_, rfl⟩
              rw [hY] at hEn HXn hXt
              have HTs : Hd (∀ w', Below w2.heap.size w2 w' → better x Y = true → Tb (w'.setCell ⟨gn, t, none⟩ (.slice px XL cx)) (fun q => q = go ∨ q = gn) gn n (fun u => if u = t then (if better x Y = true then x else Y) else X u) ∧ Tb (w'.setCell ⟨gn, t, none⟩ (.slice px XL cx)) (fun q => q = go ∨ q = gn) go n (LV ws r) ∧ Below w.heap.size w (w'.setCell ⟨gn, t, none⟩ (.slice px XL cx))) := ⟨fun w' hb h => ⟨by
                refine ((HTn2.out w' hb).set htn (.inr rfl) (HEx.out w' hb)).congr (fun u _ => ?_)
                rw [if_pos h], (HTo2.out w' hb).other (fun e => hne e.symm) (.inr rfl), set_below HGn.out (HB2.out.trans (hb.mono HB2.out.size))⟩⟩
              have HTk : Hd (∀ w', Below w2.heap.size w2 w' → better x Y = false → Tb w' (fun q => q = go ∨ q = gn) gn n (fun u => if u = t then (if better x Y = true then x else Y) else X u)) := ⟨fun w' hb h => (HTn2.out w' hb).congr (fun u _ => by
                rw [h]
                by_cases e : u = t
                · rw [e, hY]; simp
                · simp [e])⟩
              have HXL2 := HXL
              clear hY HEx
              by_cases hYn : Y = []
              · have hev3 : en = .slice none 0 0 := by
                  rcases hEn.is with ⟨h, _⟩ | ⟨_, _, _, _, h, _⟩
                  · exact h
                  · exact absurd hYn h
                subst hev3
                obtain ⟨k1, k2, k3⟩ := HTs.out w2 (Below.refl _ _) (by rw [hYn]; simp [better])
                have HK1 := Hd.mk k1
                have HK2 := Hd.mk k2
                have HK3 := Hd.mk k3
                clear k1 k2 k3 hEn hYn HTs HTk HTo2 HTn2 HB2
                go_wp2_with (first | (at_builtin; refine wp_append_run (vs := .slice (some ⟨wr.heap.size, 0, none⟩) 0 0) (vx := .slice (some ⟨gf, o_f, none⟩) FL c_f) (W := wr.alloc (.cells #[] 3)) rfl (Operand.tmp 95) (Operand.tmp 99) 23 rfl rfl rfl HRun.out ?_) | (at_builtin; refine wp_append_run (vs := x1) (vx := .slice (some ⟨w1.heap.size, 0, none⟩) 1 1) (W := w1.alloc (.cells #[.int .i64 (t : Int)] 3)) rfl (Operand.tmp 100) (Operand.tmp 102) 23 rfl rfl rfl HRun2.out ?_))
                exact ⟨⟨i + 1, _, hlti, by go_num, HK2, HK1, HXn, HK3⟩, hmi⟩
              · obtain ⟨ge, oe, ce, hev3⟩ : ∃ g o c, en = .slice (some ⟨g, o, none⟩) Y.length c := by
                  rcases hEn.is with ⟨_, h⟩ | ⟨g, o, c, h, _⟩
                  · exact absurd h hYn
                  · exact ⟨g, o, c, h⟩
                obtain ⟨YL, hYL⟩ : ∃ k, Y.length = k := ⟨_, rfl⟩
                rw [hYL] at hev3
                subst hev3
                have hEr := hEn.ri
                have hEx2 := HTs
                by_cases hxy : XL < YL
                · have g1 : decide ((XL : Int) < (YL : Int)) = true := decide_eq_true (by omega)
                  obtain ⟨k1, k2, k3⟩ := HTs.out w2 (Below.refl _ _) (better_lt hYn (by rw [HXL.out, hYL]; exact hxy))
                  have HK1 := Hd.mk k1
                  have HK2 := Hd.mk k2
                  have HK3 := Hd.mk k3
                  clear k1 k2 k3 hEn hYn HTs HTk HTo2 HTn2 HB2 hEr hEx2 hYL
                  go_wp2_with (first | (at_builtin; refine wp_append_run (vs := .slice (some ⟨wr.heap.size, 0, none⟩) 0 0) (vx := .slice (some ⟨gf, o_f, none⟩) FL c_f) (W := wr.alloc (.cells #[] 3)) rfl (Operand.tmp 95) (Operand.tmp 99) 23 rfl rfl rfl HRun.out ?_) | (at_builtin; refine wp_append_run (vs := x1) (vx := .slice (some ⟨w1.heap.size, 0, none⟩) 1 1) (W := w1.alloc (.cells #[.int .i64 (t : Int)] 3)) rfl (Operand.tmp 100) (Operand.tmp 102) 23 rfl rfl rfl HRun2.out ?_))
                  exact ⟨⟨i + 1, _, hlti, by go_num, HK2, HK1, HXn, HK3⟩, hmi⟩
                · have g1 : decide ((XL : Int) < (YL : Int)) = false := decide_eq_false (by omega)
                  by_cases hxe : XL = YL
                  · subst hxe
                    have hbe := better_eq (x := x) hYn (by rw [HXL.out, hYL])
                    have HLs := Hd.mk (rless_any w2 (.slice px XL cx) (.slice (some ⟨ge, oe, none⟩) XL ce) (intL x) (intL Y) (by rw [intL_len, HXL.out]; omega) (by rw [intL_len, hYL]; omega) HRx.out hEr)
                    rw [← hbe] at HLs
                    rcases hbt : better x Y with _ | _
                    · rw [hbt] at HLs
                      have HK1 : Hd (∀ w', Below w2.heap.size w2 w' → Tb w' (fun q => q = go ∨ q = gn) gn n (fun u => if u = t then (if better x Y = true then x else Y) else X u)) := ⟨fun w' hb => HTk.out w' hb hbt⟩
                      clear hEn hYn HTs HTk HTn2 hEr hEx2 hYL hbe hbt zn
                      go_wp2_with (first | (at_builtin; refine wp_append_run (vs := .slice (some ⟨wr.heap.size, 0, none⟩) 0 0) (vx := .slice (some ⟨gf, o_f, none⟩) FL c_f) (W := wr.alloc (.cells #[] 3)) rfl (Operand.tmp 95) (Operand.tmp 99) 23 rfl rfl rfl HRun.out ?_) | (at_builtin; refine wp_append_run (vs := x1) (vx := .slice (some ⟨w1.heap.size, 0, none⟩) 1 1) (W := w1.alloc (.cells #[.int .i64 (t : Int)] 3)) rfl (Operand.tmp 100) (Operand.tmp 102) 23 rfl rfl rfl HRun2.out ?_))
                      refine HLs.out.mono ?_
                      rintro e w3 ⟨rfl, b3⟩
                      have HL1 := Hd.mk (HK1.out w3 b3)
                      have HL2 := Hd.mk (HTo2.out w3 b3)
                      have HL3 := Hd.mk (HB2.out.trans (b3.mono HB2.out.size))
                      clear b3 HK1 HTo2 HB2
                      go_wp2
                      exact ⟨⟨i + 1, _, hlti, by go_num, HL2, HL1, HXn, HL3⟩, hmi⟩
                    · rw [hbt] at HLs
                      have HK1 : Hd (∀ w', Below w2.heap.size w2 w' → _) := ⟨fun w' hb => HTs.out w' hb hbt⟩
                      have HCn : Hd (∀ w', Below w2.heap.size w2 w' → w'.cell? ⟨gn, t, none⟩ = some (.slice (some ⟨ge, oe, none⟩) XL ce) ∧ w'.frozen? ⟨gn, t, none⟩ = false) := ⟨fun w' hb => by
                        have h := HTn2.out w2 (Below.refl _ _)
                        exact ⟨by rw [hb.cell (p := ⟨gn, t, none⟩) h.lt]; exact c_n, by rw [World.frozen?_of_block (a := ⟨gn, t, none⟩) (hb.block gn h.lt)]; exact zn⟩⟩
                      clear hEn hYn HTs HTk HTn2 hEr hEx2 hYL hbe hbt zn
                      go_wp2_with (first | (at_builtin; refine wp_append_run (vs := .slice (some ⟨wr.heap.size, 0, none⟩) 0 0) (vx := .slice (some ⟨gf, o_f, none⟩) FL c_f) (W := wr.alloc (.cells #[] 3)) rfl (Operand.tmp 95) (Operand.tmp 99) 23 rfl rfl rfl HRun.out ?_) | (at_builtin; refine wp_append_run (vs := x1) (vx := .slice (some ⟨w1.heap.size, 0, none⟩) 1 1) (W := w1.alloc (.cells #[.int .i64 (t : Int)] 3)) rfl (Operand.tmp 100) (Operand.tmp 102) 23 rfl rfl rfl HRun2.out ?_))
                      refine HLs.out.mono ?_
                      rintro e w3 ⟨rfl, b3⟩
                      obtain ⟨k1, k2, k3⟩ := HK1.out w3 b3
                      obtain ⟨c3, z3⟩ := HCn.out w3 b3
                      have HL1 := Hd.mk k1
                      have HL2 := Hd.mk k2
                      have HL3 := Hd.mk k3
                      clear b3 HK1 HTo2 HB2 k1 k2 k3
                      go_wp2
                      exact ⟨⟨i + 1, _, hlti, by go_num, HL2, HL1, HXn, HL3⟩, hmi⟩
                  · have g2 : ((XL : Int) == (YL : Int)) = false := by simp; omega
                    have HK1 := Hd.mk (HTk.out w2 (Below.refl _ _) (better_gt hYn (by rw [HXL.out, hYL]; exact hxy) (by rw [HXL.out, hYL]; exact hxe)))
                    have HK2 := Hd.mk (HTo2.out w2 (Below.refl _ _))
                    clear hEn hYn HTs HTk HTo2 HTn2 hEr hEx2 hYL zn
                    go_wp2_with (first | (at_builtin; refine wp_append_run (vs := .slice (some ⟨wr.heap.size, 0, none⟩) 0 0) (vx := .slice (some ⟨gf, o_f, none⟩) FL c_f) (W := wr.alloc (.cells #[] 3)) rfl (Operand.tmp 95) (Operand.tmp 99) 23 rfl rfl rfl HRun.out ?_) | (at_builtin; refine wp_append_run (vs := x1) (vx := .slice (some ⟨w1.heap.size, 0, none⟩) 1 1) (W := w1.alloc (.cells #[.int .i64 (t : Int)] 3)) rfl (Operand.tmp 100) (Operand.tmp 102) 23 rfl rfl rfl HRun2.out ?_))
                    exact ⟨⟨i + 1, _, hlti, by go_num, HK2, HK1, HXn, HB2⟩, hmi⟩
            · obtain ⟨g_t, o_t, c_t, hev2⟩ : ∃ g o c, et = .slice (some ⟨g, o, none⟩) (LV ws r t).length c := by
                rcases hEt.is with ⟨_, h⟩ | ⟨g, o, c, h, _⟩
                · exact absurd h hLt
                · exact ⟨g, o, c, h⟩
              have HX2 : Hd (∀ u, u < n → LpOk (Cw ws r (arcs.take (i + 1)) u) (X u)) := ⟨fun u hu => (HX.out u hu).congr (HSk.out u (fun h => by
                have e : t = u := by have := h.1; omega
                subst e
                exact hLt h.2.2))⟩
              subst hev hev2
              clear hEf hEt zf zt hLf hLt HSk HTk HX
              go_wp2
              exact ⟨⟨i + 1, X, hlti, by go_num, HTo, HTn, HX2, HB⟩, hmi⟩
        · have hd2 : decide ((i : Int) < (M : Int)) = false := decide_eq_false (by omega)
          have HXe : Hd (∀ u, u < n → (if X u = [] then LV ws r u else X u) = LV ws (r + 1) u) := ⟨fun u hu => wv_end HWs.out.1 HRb.out hu (by
            have := HX.out u hu
            rw [List.take_of_length_le (by rw [HN.out.1]; omega)] at this
            exact this)⟩
          have HTo4 : Hd (Tb wr (fun q => q = go ∨ q = gn) go n (fun u => if u < 0 then LV ws (r + 1) u else LV ws r u)) := ⟨HTo.out.congr (fun u _ => by simp)⟩
          clear HX HTo
          go_wp2
          clear hd2
          go_loopw [16] (fun kv wq => ∃ k : Nat, k ≤ n ∧ kv = .int .i64 (k : Int) ∧ Hd (Tb wq (fun q => q = go ∨ q = gn) go n (fun u => if u < k then LV ws (r + 1) u else LV ws r u)) ∧ Hd (Tb wq (fun q => q = go ∨ q = gn) gn n X) ∧ Hd (Below w.heap.size w wq)) (fun kv _ => n - (intOf kv).toNat)
          case atStart => exact ⟨0, Nat.zero_le _, rfl, HTo4, HTn, HB⟩
          case round =>
            clear HTo4 HTn HB
            obtain ⟨k, hk, rfl, HTo, HTn, HB⟩ := hrel
            by_cases hltk : k < n
            · have hd3 : decide ((k : Int) < (n : Int)) = true := decide_eq_true (by omega)
              have hmk : n - (intOf (.int .i64 ((k : Int) + 1))).toNat < n - (intOf (.int .i64 (k : Int))).toNat := by simp [intOf]; omega
              obtain ⟨en, c_n, zn, hEn⟩ := HTn.out.at hltk
              have hxe := HXe.out k hltk
              have hcg : ∀ u, u ≠ k → (if u < k then LV ws (r + 1) u else LV ws r u) = (if u < k + 1 then LV ws (r + 1) u else LV ws r u) := fun u hu => by
                by_cases h1 : u < k
                · rw [if_pos h1, if_pos (by omega)]
                · rw [if_neg h1, if_neg (by omega)]
              by_cases hXk : X k = []
              · have hev3 : en = .slice none 0 0 := by
                  rcases hEn.is with ⟨h, _⟩ | ⟨_, _, _, _, h, _⟩
                  · exact h
                  · exact absurd hXk h
                subst hev3
                rw [if_pos hXk] at hxe
                have HT5 : Hd (Tb wr (fun q => q = go ∨ q = gn) go n (fun u => if u < k + 1 then LV ws (r + 1) u else LV ws r u)) := ⟨HTo.out.congr (fun u _ => by
                  by_cases e : u = k
                  · subst e; simp [hxe]
                  · exact hcg u e)⟩
                clear hEn hxe hcg hXk HTo zn
                go_wp2
                exact ⟨⟨k + 1, hltk, by go_num, HT5, HTn, HB⟩, hmk⟩
              · rw [if_neg hXk] at hxe
                obtain ⟨ge, oe, ce, hev3⟩ : ∃ g o c, en = .slice (some ⟨g, o, none⟩) (X k).length c := by
                  rcases hEn.is with ⟨_, h⟩ | ⟨g, o, c, h, _⟩
                  · exact absurd h hXk
                  · exact ⟨g, o, c, h⟩
                obtain ⟨eo, c_o, zo, hEo⟩ := HTo.out.at hltk
                obtain ⟨YL, hYL⟩ : ∃ q, (X k).length = q := ⟨_, rfl⟩
                rw [hYL] at hev3
                subst hev3
                have HT5 : Hd (Tb (wr.setCell ⟨go, k, none⟩ (.slice (some ⟨ge, oe, none⟩) YL ce)) (fun q => q = go ∨ q = gn) go n (fun u => if u < k + 1 then LV ws (r + 1) u else LV ws r u)) := ⟨(HTo.out.set hltk (.inl rfl) hEn).congr (fun u _ => by
                  by_cases e : u = k
                  · subst e; simp [hxe]
                  · rw [if_neg e]; exact hcg u e)⟩
                have HTn5 : Hd (Tb (wr.setCell ⟨go, k, none⟩ (.slice (some ⟨ge, oe, none⟩) YL ce)) (fun q => q = go ∨ q = gn) gn n X) := ⟨HTn.out.other hne (.inl rfl)⟩
                have HB5 : Hd (Below w.heap.size w (wr.setCell ⟨go, k, none⟩ (.slice (some ⟨ge, oe, none⟩) YL ce))) := ⟨set_below (by rw [HG.out]; exact Nat.le_refl _) HB.out⟩
                clear hEn hEo hxe hcg hXk HTo HTn HB hYL zn
                go_wp2
                exact ⟨⟨k + 1, hltk, by go_num, HT5, HTn5, HB5⟩, hmk⟩
            · have hd3 : decide ((k : Int) < (n : Int)) = false := decide_eq_false (by omega)
              have HT5 : Hd (Tb wr (fun q => q = go) go n (LV ws (r + 1))) := ⟨(HTo.out.weak (W' := fun q => q = go) (fun g _ h => .inl h)).congr (fun u hu => if_pos (by omega))⟩
              clear HTo HTn
              go_wp2
              exact ⟨⟨r + 1, hlt, by go_num, HT5, HB⟩, hmr⟩
    · have hd1 : decide ((r : Int) < (n : Int)) = false := decide_eq_false (by omega)
      have HTe : Hd (Tb wk (fun q => q = go) go n (fun u => Tj.wayL ws u)) := ⟨HT.out.congr (fun u _ => by rw [show r = n by omega, wv_full HWs.out.1])⟩
      clear HT
      go_wp2
      go_ret
      exact ⟨go, rfl, HTe.out, HB.out⟩

end Go.Proofs.Ytlncfhkmjbempaa.W
