/-
  graph.Parts.
-/
import Derived.Test.YtmgkoocpnakanaaPj
import Derived.Test.YtmgkoocpnakanaaKhP
import Derived.Test.YtmgkoocpnakanaaHpF
import Derived.Test.YtmgkoocpnakanaaOrdT
namespace Go.Proofs.Ytmgkoocpnakanaa.W
open Go.RowKit
set_option linter.unusedVariables false

set_option maxRecDepth 100000 in
theorem parts_no (w : World) (n : Int) (v : Value) (arcs : List Arc) (hR : Rw 2 Arc.E w v arcs) (hl : lenR arcs.length) (hr : rightB n arcs = false) :
    Calls Try.prog 31 #[.int .i64 n, v] w fun e w' => e = .returned (.slice none 0 0) ∧ Below w.heap.size w w' := by
  have HC := Hd.mk (gright_any w n v arcs hR hl)
  have HR := Hd.mk hr
  clear hR hl hr
  go_enter Try.func31, Try.ntmps31
  go_wp2_with fail
  refine HC.out.mono ?_
  rintro e w1 ⟨rfl, b1⟩
  have HB := Hd.mk b1
  rw [HR.out]
  clear b1 HC
  go_wp2
  go_ret
  exact ⟨rfl, HB.out⟩

theorem cellsF_zero (n : Nat) : cellsF n (fun _ => 0) = List.replicate n (.int .i64 0) := by
  apply List.ext_getElem <;> simp [cellsF]

theorem RowsO.nil (w : World) (B : Nat) : RowsO w B (.slice none 0 0) [] [] :=
  ⟨Own.nil _ _ _, rfl, fun j u l h => by simp at h, fun i j u u' k h => by simp at h, fun j u k h => by simp at h⟩
theorem RowsO.down {w : World} {B B' : Nat} {v : Value} {vs : List Value} {ls : List (List Int)} (h : RowsO w B v vs ls) (hb : B' ≤ B) : RowsO w B' v vs ls :=
  ⟨h.own.down hb, h.len, fun j u l h1 h2 => (h.each j u l h1 h2).down hb, h.dis, h.ne⟩

theorem rowsK_set {v u u' : Value} {vs : List Value} {j N : Nat} (hu : vs[j]? = some u) (hb : u'.ownBlock = u.ownBlock ∨ u'.ownBlock = none ∨ ∃ k, N ≤ k ∧ u'.ownBlock = some k) : ∀ g, rowsK v (vs.set j u') g → rowsK v vs g ∨ N ≤ g := fun g hg => by
  have hj := (List.getElem?_eq_some_iff.1 hu).1
  rcases hg with hg | ⟨i, x, hx, hg⟩
  · exact .inl (.inl hg)
  · by_cases e : j = i
    · subst e
      rw [List.getElem?_set_self hj] at hx
      cases hx
      rcases hb with e | e | ⟨k, hk, e⟩
      · exact .inl (.inr ⟨j, u, hu, by rw [← e]; exact hg⟩)
      · rw [e] at hg; cases hg
      · rw [e] at hg; cases hg; exact .inr hk
    · rw [List.getElem?_set_ne e] at hx
      exact .inl (.inr ⟨i, x, hx, hg⟩)

/-- the users, row by row -/
def usR (P : Nat → Nat) (m : Nat) (l : List (Nat × Nat)) : List (List Int) := (List.range m).map fun q => intL (Tj.usL P l q)
theorem usR_nil (P : Nat → Nat) (m : Nat) : usR P m [] = List.replicate m [] := by
  apply List.ext_getElem <;> simp [usR, Tj.usL, intL]
theorem usR_at {P : Nat → Nat} {m : Nat} {l : List (Nat × Nat)} {q : Nat} (hq : q < m) : (usR P m l)[q]? = some (intL (Tj.usL P l q)) := by simp [usR, hq]
theorem usR_same {P : Nat → Nat} {m : Nat} {l : List (Nat × Nat)} {v w : Nat} (h : P v = P w) : usR P m (l ++ [(v, w)]) = usR P m l := by
  unfold usR
  exact List.map_congr_left (fun q _ => by rw [Tj.usL_same h])
theorem usR_step {P : Nat → Nat} {m : Nat} {l : List (Nat × Nat)} {v w : Nat} (h : P v ≠ P w) (hw : P w < m) : (usR P m l).set (P w) (intL (Tj.usL P l (P w)) ++ [(P v : Int)]) = usR P m (l ++ [(v, w)]) := by
  apply List.ext_getElem
  · simp [usR]
  · intro j h1 h2
    rw [List.getElem_set]
    simp only [usR, List.getElem_map, List.getElem_range]
    rw [Tj.usL_step h]
    by_cases e : P w = j
    · subst e; simp [intL]
    · have : ¬ j = P w := fun h => e h.symm
      rw [if_neg e, if_neg this]
theorem usL_len (P : Nat → Nat) (l : List (Nat × Nat)) (q : Nat) : (Tj.usL P l q).length ≤ l.length := by
  unfold Tj.usL; rw [List.length_map]; exact List.length_filter_le _ _
theorem pairs_len {nx : Nat → List Nat} (h : ∀ u, (nx u).length ≤ 262144) : ∀ k, (Tj.pairs nx k).length ≤ k * 262144
  | 0 => by simp [Tj.pairs]
  | k + 1 => by
    have := pairs_len h k
    have h2 := h k
    rw [Tj.pairs_succ, List.length_append, List.length_map, Nat.succ_mul]; omega
theorem wtL_zero (P : Nat → Nat) : Tj.wtL P [] = fun _ => 0 := by funext p; simp [Tj.wtL]
theorem wtL_len (P : Nat → Nat) (l : List (Nat × Nat)) (p : Nat) : Tj.wtL P l p ≤ l.length := List.countP_le_length

/-- a row of some of the parts -/
theorem out_rows {w : World} {B : Nat} {pv ov : Value} {pvs : List Value} {ls : List (List Int)} {qs : List Nat} (hp : RowsO w B pv pvs ls) (ho : Own w B 44 ov (qs.map fun q => pvs.getD (q - 1) undef)) (hap : ∀ k, rowsK pv pvs k → ov.ownBlock ≠ some k)
    (hq : ∀ q, q ∈ qs → 1 ≤ q ∧ q ≤ pvs.length) (hnd : qs.Nodup) : RowsO w B ov (qs.map fun q => pvs.getD (q - 1) undef) (qs.map fun q => ls.getD (q - 1) []) := by
  have key : ∀ {j : Nat} {u : Value}, (qs.map fun q => pvs.getD (q - 1) undef)[j]? = some u → ∃ q, qs[j]? = some q ∧ pvs[q - 1]? = some u ∧ 1 ≤ q := fun {j u} h => by
    rw [List.getElem?_map, Option.map_eq_some_iff] at h
    obtain ⟨q, h1, h2⟩ := h
    obtain ⟨h3, h4⟩ := hq q (List.mem_of_getElem? h1)
    refine ⟨q, h1, ?_, h3⟩
    rw [List.getD_eq_getElem?_getD] at h2
    have : q - 1 < pvs.length := by omega
    rw [List.getElem?_eq_getElem this] at h2 ⊢
    rw [← h2]; rfl
  refine ⟨ho, by simp, fun j u l hu hl => ?_, fun i j u u' k hu hu' h1 h2 => ?_, fun j u k hu h1 h2 => ?_⟩
  · obtain ⟨q, h1, h2, h3⟩ := key hu
    rw [List.getElem?_map, h1] at hl
    simp only [Option.map_some, Option.some.injEq] at hl
    have hlt : q - 1 < ls.length := by rw [← hp.len]; exact (List.getElem?_eq_some_iff.1 h2).1
    rw [List.getD_eq_getElem?_getD, List.getElem?_eq_getElem hlt, Option.getD_some] at hl
    exact hp.each _ u l h2 (by rw [List.getElem?_eq_getElem hlt, hl])
  · obtain ⟨q, a1, a2, a3⟩ := key hu
    obtain ⟨q', b1, b2, b3⟩ := key hu'
    have := hp.dis _ _ u u' k a2 b2 h1 h2
    have e : q = q' := by omega
    subst e
    obtain ⟨x1, x2⟩ := List.getElem?_eq_some_iff.1 a1
    obtain ⟨y1, y2⟩ := List.getElem?_eq_some_iff.1 b1
    refine Decidable.byContradiction fun hne => ?_
    rcases Nat.lt_or_gt_of_ne hne with h | h
    · exact List.pairwise_iff_getElem.1 hnd i j x1 y1 h (x2.trans y2.symm)
    · exact List.pairwise_iff_getElem.1 hnd j i y1 x1 h (y2.trans x2.symm)
  · obtain ⟨q, a1, a2, a3⟩ := key hu
    exact hap k (.inr ⟨_, u, a2, h1⟩) h2
theorem Sep.rows_apart {w : World} {L : List Asr} (h : Sep w L) (s t : Nat) {B B' : Nat} {pv ov : Value} {pvs : List Value} {ls : List (List Int)} {e : TypeId} {l : List Value} (hs : L[s]? = some (oR B pv pvs ls)) (ht : L[t]? = some (oI B' e ov l)) (hne : s ≠ t) : ∀ k, rowsK pv pvs k → ov.ownBlock ≠ some k := fun k hk he => by
  obtain ⟨o, ho⟩ := h.is
  exact hne (((ho s _ hs).2 k hk).symm.trans ((ho t _ ht).2 k he))

theorem parts_out (n np : Nat) (P : Nat → Nat) (qs : List Nat) (h : ∀ q, q ∈ qs → 1 ≤ q ∧ q ≤ np) : (qs.map fun q => (partsI n np P).getD (q - 1) []) = (qs.map fun q => Tj.nodesOf n P q).map intL := by
  rw [List.map_map]
  refine List.map_congr_left (fun q hq => ?_)
  have := h q hq
  have hq1 : q - 1 < np := by omega
  rw [List.getD_eq_getElem?_getD]
  simp [partsI, hq1, show q - 1 + 1 = q by omega]

theorem nextI_rows {n : Nat} {arcs : List Arc} (hr : rightB (n : Int) arcs = true) : nextI n arcs = (List.range n).map fun v => intL (nx n arcs v) := by
  refine nextI_eq (fun a ha => ?_)
  simp only [rightB, Bool.and_eq_true, List.all_eq_true, nodeB, decide_eq_true_eq] at hr
  exact (hr.2 a ha).2

set_option maxHeartbeats 4000000 in
set_option maxRecDepth 100000 in
theorem parts_any (w : World) (n : Nat) (hn : n ≤ 1000) (v : Value) (arcs : List Arc) (hR : Rw 2 Arc.E w v arcs) (hl : arcs.length ≤ 1000000) (hr : rightB (n : Int) arcs = true) :
    Calls Try.prog 31 #[.int .i64 n, v] w fun e w' => ∃ v' vs, e = .returned v' ∧ RowsO w' w.heap.size v' vs ((Tj.greedy n (fun u x => (Tj.heads (Tj.waysOf n (nx n arcs) [u])).contains x) n (fun _ => false)).map intL) ∧ Below w.heap.size w w' := by
  have HC := Hd.mk (gright_any w n v arcs hR (by unfold lenR; omega))
  have hf : ∀ a ∈ arcs, 0 ≤ a.f ∧ a.f < (n : Int) := fun a ha => by
    have h := hr
    simp only [rightB, Bool.and_eq_true, List.all_eq_true, nodeB, decide_eq_true_eq] at h
    exact (h.2 a ha).1
  have hnl := nextI_rows hr
  have HG := Hd.mk (fun (w' : World) (hb : Below w.heap.size w w') => gnext_any w' n (by omega) v arcs (hR.below Arc.stays hb) hl hf)
  have HR := Hd.mk hr
  clear hR hr hf
  obtain ⟨N, hN⟩ : ∃ N, nextI n arcs = N := ⟨_, rfl⟩
  rw [hN] at HG hnl
  have HN := Hd.mk hnl
  have HNN := Hd.mk hN
  clear hnl hN
  go_enter Try.func31, Try.ntmps31
  go_wp2_with fail
  refine HC.out.mono ?_
  rintro e w1 ⟨rfl, b1⟩
  have HB := Hd.mk b1
  rw [HR.out]
  have HBD : Hd (Below w.heap.size w w1.drew) := ⟨b1.trans (((Keeps.refl (fun _ => False) w1).drew).below b1.size (fun _ _ h => h))⟩
  clear b1 HC
  go_upto_region 3 with (fail)
  go_cut [5] from 23 (fun s5 wx => ∃ F gi gl gp s2 vs, s5 = ptr F ∧ Hd (Below w.heap.size w wx) ∧ Hd (Sep wx [oC w1.heap.size F 64 [s2, full gi n, full gl n, .slice none 0 0, full gp n, .slice none 0 0], oR w1.heap.size s2 vs N, oI w1.heap.size 3 (full gi n) (cellsF n fun _ => 0), oI w1.heap.size 3 (full gl n) (cellsF n fun _ => 0), oI w1.heap.size 3 (full gp n) (cellsF n fun _ => 0)]))
  case first =>
    refine wp_region_eachJ default (fun _ => True) (PJ w1.heap.size n N w1.drew) [0, 1, 3, 5, 7] [(2, some 29), (4, some 31), (6, some 33), (8, some 35), (9, some 36), (10, some 5), (11, none)] (fun _ => undef) (by kernel_rfl) (by kernel_rfl) rfl (by kernel_rfl) (by kernel_rfl) (by kernel_rfl) ?_ trivial (fun _ _ _ _ => trivial) ?_
    · refine ⟨Below.refl _ _, fun _ => ⟨fun _ => 0, fun i hi hd => ?_⟩, fun h => ?_, fun h => ?_, fun h => ?_⟩
      · rcases hi with h | h | h | h | h <;> subst h <;> exact absurd hd (by decide)
      · exact absurd h (by decide)
      · exact absurd h (by decide)
      · exact absurd h (by decide)
    simp only [List.map_cons, List.map_nil, List.getD_cons_zero, List.getD_cons_succ]
    repeat
      refine free_step (v := ?_) (by rfl) ?_ ?_
      rotate_left
      · intro w' hSw
        clear hSw
        go_simp
        first | done | with_reducible rfl
      simp only [Act.put, List.setIfInBounds_toArray, List.set_cons_zero, List.set_cons_succ]
    refine ⟨by kernel_rfl, ?_, ?_⟩
    · simp only [StepsJ, List.getD_cons_zero, List.getD_cons_succ]
      refine ⟨?_, ?_, ?_, ?_, ?_, ?_, ?_, trivial⟩
      all_goals
        intro done s w2 hJ hd0 hdep K' hK'
        simp only [foldPut, List.foldl_cons, List.foldl_nil, Act.put, List.setIfInBounds_toArray, List.set_cons_zero, List.set_cons_succ] at hK' ⊢
        have HJ := Hd.mk hJ
        have HD0 := Hd.mk hd0
        have HDep := Hd.mk hdep
        clear hJ hd0 hdep
      · go_simp
        refine (HG.out w2 (HBD.out.trans (HJ.out.bel.mono HB.out.size))).mono ?_
        rintro e w3 ⟨v', vs, rfl, hrows, hb⟩
        exact hK'.out _ _ (HJ.out.new (i := 2) (by simp [inP]) HD0.out hb (v := v') (by
          show (aRow _ _ _).P _ _
          exact ⟨vs, hrows.down HJ.out.bel.size, fun k hk => (rowsK_lt hrows hk).1⟩))
      · have mz := make_ints w2 n (by omega)
        go_simp
        exact hK'.out _ _ (HJ.out.new (i := 4) (by simp [inP]) HD0.out (below_al _ _) (v := full w2.heap.size n) (by
          show (aFull _ _ _).P _ _
          refine ⟨w2.heap.size, rfl, ?_, fun k hk => ?_⟩
          · have := Own.made (e := 3) (w := w2) (B := w1.heap.size) HJ.out.bel.size (List.replicate n (.int .i64 0)) (by rw [List.length_replicate]; unfold maxLen; omega)
            rw [List.length_replicate] at this
            rw [cellsF_zero]; exact this
          · have : w2.heap.size = k := by simpa [Value.ownBlock, full] using hk
            omega))
      · have mz := make_ints w2 n (by omega)
        go_simp
        exact hK'.out _ _ (HJ.out.new (i := 6) (by simp [inP]) HD0.out (below_al _ _) (v := full w2.heap.size n) (by
          show (aFull _ _ _).P _ _
          refine ⟨w2.heap.size, rfl, ?_, fun k hk => ?_⟩
          · have := Own.made (e := 3) (w := w2) (B := w1.heap.size) HJ.out.bel.size (List.replicate n (.int .i64 0)) (by rw [List.length_replicate]; unfold maxLen; omega)
            rw [List.length_replicate] at this
            rw [cellsF_zero]; exact this
          · have : w2.heap.size = k := by simpa [Value.ownBlock, full] using hk
            omega))
      · have mz := make_ints w2 n (by omega)
        go_simp
        exact hK'.out _ _ (HJ.out.new (i := 8) (by simp [inP]) HD0.out (below_al _ _) (v := full w2.heap.size n) (by
          show (aFull _ _ _).P _ _
          refine ⟨w2.heap.size, rfl, ?_, fun k hk => ?_⟩
          · have := Own.made (e := 3) (w := w2) (B := w1.heap.size) HJ.out.bel.size (List.replicate n (.int .i64 0)) (by rw [List.length_replicate]; unfold maxLen; omega)
            rw [List.length_replicate] at this
            rw [cellsF_zero]; exact this
          · have : w2.heap.size = k := by simpa [Value.ownBlock, full] using hk
            omega))
      · have d2 := HDep.out 2 (by kernel_rfl)
        have d4 := HDep.out 4 (by kernel_rfl)
        have d6 := HDep.out 6 (by kernel_rfl)
        have d8 := HDep.out 8 (by kernel_rfl)
        have h11 : done 11 = false := by
          rcases e : done 11 with _ | _
          · rfl
          · have := HJ.out.last e 9 (.inr rfl); rw [HD0.out] at this; cases this
        have HBd := Hd.mk (HJ.out.build HD0.out d2 d4 d6 d8)
        obtain ⟨o, ho⟩ := HJ.out.own h11
        obtain ⟨vs, a2, _⟩ := ho 2 (by simp [inP]) d2
        obtain ⟨gi, e4, _⟩ := ho 4 (by simp [inP]) d4
        obtain ⟨gl, e6, _⟩ := ho 6 (by simp [inP]) d6
        obtain ⟨gp, e8, _⟩ := ho 8 (by simp [inP]) d8
        obtain ⟨p2, c2, e2⟩ := a2.own.slice'
        have HE := Hd.mk (And.intro e2 (And.intro e4 (And.intro e6 e8)))
        rw [e2, e4, e6, e8]
        unfold full
        clear ho a2 h11 d2 d4 d6 d8 e2 e4 e6 e8
        go_simp
        have hF := hK'.out _ _ HBd.out
        obtain ⟨e2, e4, e6, e8⟩ := HE.out
        rw [e2, e4, e6, e8] at hF
        exact hF
      · go_simp
        exact hK'.out _ _ (HJ.out.new (i := 10) (by simp [inP]) HD0.out (below_al _ _) (v := ptr w2.heap.size) (by
          show (aVar _ _).P _ _
          exact ⟨w2.heap.size, rfl, ⟨Blk.new w2 64 (List.replicate 6 (.slice none 0 0)), HJ.out.bel.size⟩, Nat.le_refl _⟩))
      · have d9 := HDep.out 9 (by kernel_rfl)
        have d10 := HDep.out 10 (by kernel_rfl)
        obtain ⟨e9, _⟩ := HJ.out.agg d9
        obtain ⟨F, gi, gl, gp, vs, e10, e4, e6, e8, hs⟩ := HJ.out.sep HD0.out d9 d10
        obtain ⟨p2, c2, e2⟩ := (hs.rows 1 rfl).own.slice'
        have hb := hs.blk 0 rfl
        have k0 := hb.at (j := 0) rfl
        have k1 := hb.at (j := 1) rfl
        have k2 := hb.at (j := 2) rfl
        have k3 := hb.at (j := 3) rfl
        have k4 := hb.at (j := 4) rfl
        have k5 := hb.at (j := 5) rfl
        have z0 := hb.free 0
        have z1 := hb.free 1
        have z2 := hb.free 2
        have z3 := hb.free 3
        have z4 := hb.free 4
        have z5 := hb.free 5
        have hs6 := (((((hs.set_blk 0 rfl 0 (s 2)).set_blk 0 rfl 1 (full gi n)).set_blk 0 rfl 2 (full gl n)).set_blk 0 rfl 3 (.slice none 0 0)).set_blk 0 rfl 4 (full gp n)).set_blk 0 rfl 5 (.slice none 0 0)
        have hFB := hs.blkB 0 rfl
        have hkp : Below w1.drew.heap.size w1.drew ((((((w2.setCell ⟨F, 0, none⟩ (s 2)).setCell ⟨F, 1, none⟩ (full gi n)).setCell ⟨F, 2, none⟩ (full gl n)).setCell ⟨F, 3, none⟩ (.slice none 0 0)).setCell ⟨F, 4, none⟩ (full gp n)).setCell ⟨F, 5, none⟩ (.slice none 0 0)) := by
          exact HJ.out.bel.trans (((((((Keeps.refl (fun g => w1.heap.size ≤ g) w2).setCell (p := ⟨F, 0, none⟩) (.inr hFB) _).setCell (p := ⟨F, 1, none⟩) (.inr hFB) _).setCell (p := ⟨F, 2, none⟩) (.inr hFB) _).setCell (p := ⟨F, 3, none⟩) (.inr hFB) _).setCell (p := ⟨F, 4, none⟩) (.inr hFB) _).setCell (p := ⟨F, 5, none⟩) (.inr hFB) _ |>.below HJ.out.bel.size (fun k h1 h2 => Nat.lt_irrefl _ (Nat.lt_of_lt_of_le h1 h2)))
        have HEnd := Hd.mk (HJ.out.store HD0.out d9 d10 (v := undef) e10 hkp hs6)
        have HE := Hd.mk e2
        rw [e9, e10, e4, e6, e8, e2] at hK' ⊢
        rw [e2] at HEnd
        unfold full ptr at hK' ⊢
        unfold full at HEnd
        clear e9 e4 e6 e8 e2 hs hb hs6 hFB hkp e10
        go_simp
        exact hK'.out _ _ HEnd.out
    · intro s w2 hJ
      obtain ⟨F, gi, gl, gp, vs, e10, hs⟩ := hJ.fin rfl
      have HS := Hd.mk hs
      have HBl := Hd.mk (HBD.out.trans (hJ.bel.mono HB.out.size))
      clear hJ hs
      refine NoPanic.normal ?_
      simp only [foldPut, List.foldl_cons, List.foldl_nil, Act.put, List.setIfInBounds_toArray, List.set_cons_zero, List.set_cons_succ]
      rw [e10]
      have HE10 := Hd.mk e10
      clear e10
      go_wp2
      go_meet
      exact ⟨F, gi, gl, gp, s 2, vs, rfl, HBl, HS⟩
  case rest =>
    obtain ⟨F, gi, gl, gp, s2, vs, rfl, HB1, HS⟩ := hcut
    go_step
    go_step
    go_cut [6] from 23 (fun s6 wx => ∃ C, s6 = ptr C ∧ Hd (Below w.heap.size w wx) ∧ Hd (Sep wx (FinT ⟨w1.heap.size, n, F, C, gi, gl, gp, s2, vs, N⟩ (.slice none 0 0) (.slice none 0 0) [] (partsI n 0 fun _ => 0) ⟨0, 0, fun _ => 0, fun _ => 0, fun _ => 0, [], []⟩ ++ [])))
    case first =>
      have HK : Hd (Below w.heap.size w (wc.alloc (.cells #[.int .i64 0] 3))) := ⟨HB1.out.trans ((below_al wc _).mono HB1.out.size)⟩
      have HSe : Hd (Sep (wc.alloc (.cells #[.int .i64 0] 3)) (FinT ⟨w1.heap.size, n, F, wc.heap.size, gi, gl, gp, s2, vs, N⟩ (.slice none 0 0) (.slice none 0 0) [] (partsI n 0 fun _ => 0) ⟨0, 0, fun _ => 0, fun _ => 0, fun _ => 0, [], []⟩ ++ [])) := ⟨by
        have hbs : w1.heap.size ≤ wc.heap.size := by have := (HS.out.blk 0 rfl).lt; have := HS.out.blkB 0 rfl; omega
        have h1 := HS.out.new_blk (B := w1.heap.size) hbs 3 [.int .i64 0]
        have h2 := Sep.insert (L1 := [oC w1.heap.size F 64 [s2, full gi n, full gl n, .slice none 0 0, full gp n, .slice none 0 0]]) (L2 := [oR w1.heap.size s2 vs N, oI w1.heap.size 3 (full gi n) (cellsF n fun _ => 0), oI w1.heap.size 3 (full gl n) (cellsF n fun _ => 0), oI w1.heap.size 3 (full gp n) (cellsF n fun _ => 0)]) h1
        have h3 := h2.new_own (Keeps.refl _ _) (Own.nil (wc.alloc (.cells #[.int .i64 0] 3)) w1.heap.size 3) (fun g hg => by cases hg)
        have h4 := h3.new_rows (Keeps.refl _ _) (RowsO.nil (wc.alloc (.cells #[.int .i64 0] 3)) w1.heap.size) (fun g hg => by rcases hg with hg | ⟨j, u, hu, _⟩ <;> first | cases hg | simp at hu)
        exact h4⟩
      go_wp2
      go_meet
      exact ⟨wc.heap.size, rfl, HK, HSe⟩
    case rest =>
      clear HB1 HS
      obtain ⟨C, rfl, HB1, HS⟩ := hcut
      obtain ⟨p, hp⟩ : ∃ p : Fp, (⟨w1.heap.size, n, F, C, gi, gl, gp, s2, vs, N⟩ : Fp) = p := ⟨_, rfl⟩
      have hpn : p.n = n := by rw [← hp]
      have hpF : p.F = F := by rw [← hp]
      have hpC : p.C = C := by rw [← hp]
      have hpB : p.B = w1.heap.size := by rw [← hp]
      have hpN : p.nl = N := by rw [← hp]
      have hpv : p.nv = s2 := by rw [← hp]
      rw [hp] at HS
      have HPp := Hd.mk (And.intro hpn (And.intro hpF (And.intro hpC (And.intro hpB (And.intro hpN hpv)))))
      rw [← hpn, ← hpF, ← hpC]
      have HQ : Hd ((∀ u, nx n arcs u = nx p.n arcs u) ∧ (∀ u x, x ∈ nx p.n arcs u → x < p.n) ∧ (∀ u, (nx p.n arcs u).length ≤ 262144) ∧ p.nl = (List.range p.n).map (fun v => intL (nx p.n arcs v))) := ⟨⟨fun u => by rw [hpn], fun u x h => nx_lt h, fun u => by
        have := List.length_filter_le (arcB arcs u) (List.range p.n)
        have h2 : (nx p.n arcs u).length ≤ (List.range p.n).length := this
        rw [List.length_range, hpn] at h2; rw [hpn]; omega, by rw [hpN, HN.out, hpn]⟩⟩
      have hn2 : p.n ≤ 1000 := by rw [hpn]; exact hn
      rw [← hpB] at HPp
      have hB0 : p.B ≤ wc.heap.size := by rw [hpB]; have h1 := (HS.out.blk 0 rfl).lt; have h2 := HS.out.blkB 0 rfl; rw [hpB] at h2; omega
      have hBB : p.B = w1.heap.size := hpB
      have HBB := Hd.mk hBB
      obtain ⟨nxs, hnxs⟩ : ∃ nxs, nx p.n arcs = nxs := ⟨_, rfl⟩
      rw [hnxs] at HQ
      have HNX := Hd.mk hnxs
      have HReach : Hd (∀ u x, u < p.n → x < p.n → ((fun u x => (Tj.heads (Tj.waysOf p.n nxs [u])).contains x) u x = true ↔ Tj.Rch nxs u x)) := ⟨fun u x hu hx => by
        have hW := Tj.ways_of (n := p.n) (nx := nxs) (rts := [u]) (fun y _ => ⟨by rw [← hnxs]; exact nx_asc _ _ _, fun z hz => by rw [← hnxs] at hz; exact nx_lt hz⟩) (fun y hy => by simp at hy; omega) (by simp)
        show (Tj.heads (Tj.waysOf p.n nxs [u])).contains x = true ↔ _
        rw [List.contains_iff_mem, hW.reach]
        simp⟩
      have HRefl : Hd (∀ v, v < p.n → (fun u x => (Tj.heads (Tj.waysOf p.n nxs [u])).contains x) v v = true) := ⟨fun v hv => (HReach.out v v hv hv).2 (.refl v)⟩
      clear hp hpn hpF hpC hpB hpN hpv hBB hnxs
      go_step
      go_step
      go_cut [] from 23 (fun wx => ∃ s sv pv pvs, Hd (Sep wx (FinT p sv pv pvs (partsI p.n s.np s.prt) s ++ [])) ∧ Hd (Tj.Scc p.n nxs s.np s.prt) ∧ Hd (s.np ≤ p.n) ∧ Hd (Below w.heap.size w wx) ∧ Hd (p.B ≤ wx.heap.size))
      case first =>
        go_wp2
        go_loopw [38] (fun iv wr => ∃ (k : Nat) (s : Tj.Ts) (sv pv : Value) (pvs : List Value), k ≤ p.n ∧ iv = .int .i64 (k : Int) ∧ Hd (Sep wr (FinT p sv pv pvs (partsI p.n s.np s.prt) s ++ [])) ∧ Hd (Tj.Inv p.n nxs s) ∧ Hd (Bd p.n s) ∧ Hd (s.calls = []) ∧ Hd (∀ u, u < k → s.idx u ≠ 0) ∧ Hd (Below w.heap.size w wr) ∧ Hd (p.B ≤ wr.heap.size)) (fun iv _ => p.n - (intOf iv).toNat)
        case atStart => exact ⟨0, _, _, _, _, Nat.zero_le _, rfl, HS, ⟨Tj.init_inv _ _⟩, ⟨⟨by show 0 + unfd p.n _ ≤ p.n; unfold unfd; rw [Nat.zero_add]; exact Nat.le_trans (List.length_filter_le _ _) (by simp), by show 0 + unfd p.n _ ≤ p.n; unfold unfd; rw [Nat.zero_add]; exact Nat.le_trans (List.length_filter_le _ _) (by simp)⟩⟩, ⟨rfl⟩, ⟨fun u hu => absurd hu (Nat.not_lt_zero _)⟩, HB1, ⟨hB0⟩⟩
        case round =>
          clear HS HB1
          obtain ⟨k, s, sv, pv, pvs, hk, rfl, HM, HI, HBd, HC0, HA, HK, HBs⟩ := hrel
          by_cases hlt : k < p.n
          · have hd1 : decide ((k : Int) < (p.n : Int)) = true := by simp; omega
            have hms : p.n - (intOf (.int .i64 ((k : Int) + 1))).toNat < p.n - (intOf (.int .i64 (k : Int))).toNat := by simp [intOf]; omega
            have hF := Fin.cells (X := []) HM.out
            have f1 := hF.f1
            obtain ⟨x, hx⟩ : ∃ x, s.idx k = x := ⟨_, rfl⟩
            have ci := (Fin.idxAt (X := []) HM.out hlt).1
            rw [hx] at ci
            clear hF
            by_cases h0 : x = 0
            · subst h0
              have ci0 : wr.cell? ⟨p.gi, k, none⟩ = some (.int .i64 0) := ci
              have HF := Hd.mk (find_any p nxs HQ.out.2.2.2 HQ.out.2.1 HQ.out.2.2.1 (by omega) sv pv pvs s [] wr k hlt hx HC0.out HI.out HBd.out HBs.out HM.out)
              clear ci hx
              unfold ptr
              go_wp2_with fail
              refine HF.out.mono ?_
              rintro e w2 ⟨rfl, sv2, pv2, pvs2, s2', hS2, hI2, hc2, hb2⟩
              have HM2 := Hd.mk hS2
              have HI2 := Hd.mk hI2
              have HC2 := Hd.mk hc2
              have HB2 : Hd (Below w.heap.size w w2) := ⟨HK.out.trans (hb2.mono (by rw [HBB.out]; exact HB.out.size))⟩
              have HBs2 : Hd (p.B ≤ w2.heap.size) := ⟨Nat.le_trans HBs.out hb2.size⟩
              clear hS2 hI2 hc2 hb2 HF f1 ci0
              go_wp2
              refine ⟨⟨k + 1, s2', sv2, pv2, pvs2, hlt, by go_num, HM2, ⟨HI2.out.inv⟩, ⟨HI2.out.bd⟩, HC2, ⟨fun u hu => ?_⟩, HB2, HBs2⟩, hms⟩
              rcases Nat.lt_succ_iff_lt_or_eq.1 hu with h | rfl
              · exact HI2.out.old u (HA.out u h)
              · exact HI2.out.root
            · have hx3 : ¬ (x : Int) = 0 := by omega
              have HX : Hd (s.idx k ≠ 0) := ⟨by rw [hx]; exact h0⟩
              clear hx
              unfold ptr
              go_wp2
              refine ⟨⟨k + 1, s, sv, pv, pvs, hlt, by go_num, HM, HI, HBd, HC0, ⟨fun u hu => ?_⟩, HK, HBs⟩, hms⟩
              rcases Nat.lt_succ_iff_lt_or_eq.1 hu with h | rfl
              · exact HA.out u h
              · exact HX.out
          · have hd1 : decide ((k : Int) < (p.n : Int)) = false := by simp; omega
            go_wp2
            go_meet
            have hkn : k = p.n := by omega
            exact ⟨s, sv, pv, pvs, HM, ⟨HI.out.scc HC0.out (fun u hu => HA.out u (by omega))⟩, ⟨by have := HBd.out.p; omega⟩, HK, HBs⟩
      case rest =>
        clear HS HB1 hB0
        obtain ⟨s, sv, pv, pvs, HS, HScc, HNp, HB1, HBs⟩ := hcut
        have hO7 := HS.out.rows 7 rfl
        obtain ⟨pp, cpp, hpv⟩ := hO7.own.slice'
        have hpl : pvs.length = s.np := by rw [hO7.len]; simp [partsI]
        rw [hpl] at hpv
        subst hpv
        obtain ⟨np, hnp⟩ : ∃ np, s.np = np := ⟨_, rfl⟩
        obtain ⟨P, hP⟩ : ∃ P, s.prt = P := ⟨_, rfl⟩
        obtain ⟨cnt, hcnt⟩ : ∃ cnt, s.cnt = cnt := ⟨_, rfl⟩
        obtain ⟨idx, hidx⟩ : ∃ idx, s.idx = idx := ⟨_, rfl⟩
        obtain ⟨low, hlow⟩ : ∃ low, s.low = low := ⟨_, rfl⟩
        obtain ⟨stk, hstk⟩ : ∃ stk, s.stk = stk := ⟨_, rfl⟩
        unfold FinT at HS
        rw [hnp, hP, hcnt, hidx, hlow, hstk] at HS
        rw [hnp, hP] at HScc
        rw [hnp] at HNp hpl
        have hnpn := HNp.out
        have HPl := Hd.mk hpl
        clear hO7 hpl hnp hP hcnt hidx hlow hstk s HNp
        obtain ⟨m, hm⟩ : ∃ m, np + 1 = m := ⟨_, rfl⟩
        have HMm := Hd.mk hm
        go_step
        go_step
        go_cut [8, 9] from 23 (fun s8 s9 wx => ∃ gw gu, s8 = full gw m ∧ s9 = full gu m ∧ Hd (Below w.heap.size w wx) ∧ Hd (p.B ≤ wx.heap.size) ∧ Hd (Sep wx (FinL p sv (.slice pp np cpp) pvs (partsI p.n np P) cnt idx low P stk ++ [oI p.B 3 (full gw m) (cellsF m fun _ => 0), oR p.B (full gu m) (List.replicate m (.slice none 0 0)) (List.replicate m [])])))
        case first =>
          have hs1 : IntKind.i64.wrap (m : Int) = (m : Int) := by rw [IntWalk.i64_in _ (by omega)]
          have hs2 : (np : Int) + 1 = (m : Int) := by omega
          have mzi := fun w' : World => make_ints w' m (by omega)
          have mzr := fun w' : World => make_rows w' m (by omega)
          have f5 : ∀ {w' : World}, Below wc.heap.size wc w' → w'.cell? ⟨p.F, 5, none⟩ = some (.slice pp np cpp) := fun hb => (Fin.cells (X := []) (HS.out.below hb)).f5
          obtain ⟨ci, hci⟩ : ∃ ci, (List.replicate m (Value.int .i64 0)).toArray = ci := ⟨_, rfl⟩
          obtain ⟨cr, hcr⟩ : ∃ cr, (List.replicate m (Value.slice none 0 0)).toArray = cr := ⟨_, rfl⟩
          rw [hci] at mzi
          rw [hcr] at mzr
          have S0 := Hd.mk (f5 (((Keeps.refl (fun _ => False) wc).drew).below (Nat.le_refl _) (fun _ _ h => h)))
          have S1 := Hd.mk (f5 ((((Keeps.refl (fun _ => False) wc).drew).alloc (.cells ci 3)).below (Nat.le_refl _) (fun _ _ h => h)))
          have S2 := Hd.mk (f5 ((((Keeps.refl (fun _ => False) wc).drew).alloc (.cells cr 44)).below (Nat.le_refl _) (fun _ _ h => h)))
          have S3 := Hd.mk (f5 (((((Keeps.refl (fun _ => False) wc).drew).alloc (.cells ci 3)).alloc (.cells cr 44)).below (Nat.le_refl _) (fun _ _ h => h)))
          have S4 := Hd.mk (f5 (((((Keeps.refl (fun _ => False) wc).drew).alloc (.cells cr 44)).alloc (.cells ci 3)).below (Nat.le_refl _) (fun _ _ h => h)))
          have hoi : ∀ w' : World, p.B ≤ w'.heap.size → Own (w'.alloc (.cells ci 3)) p.B 3 (full w'.heap.size m) (cellsF m fun _ => 0) := fun w' hb => by
            have := Own.made (e := 3) (w := w') (B := p.B) hb (List.replicate m (.int .i64 0)) (by rw [List.length_replicate]; unfold maxLen; omega)
            rw [List.length_replicate, hci] at this
            rw [cellsF_zero]; exact this
          have hor : ∀ w' : World, p.B ≤ w'.heap.size → RowsO (w'.alloc (.cells cr 44)) p.B (full w'.heap.size m) (List.replicate m (.slice none 0 0)) (List.replicate m []) := fun w' hb => by
            have := RowsO.made (w := w') (B := p.B) (n := m) hb (by omega)
            rw [hcr] at this
            exact this
          have HA : Hd (Sep ((wc.drew.alloc (.cells ci 3)).alloc (.cells cr 44)) (FinL p sv (.slice pp np cpp) pvs (partsI p.n np P) cnt idx low P stk ++ [oI p.B 3 (full wc.heap.size m) (cellsF m fun _ => 0), oR p.B (full (wc.heap.size + 1) m) (List.replicate m (.slice none 0 0)) (List.replicate m [])])) := ⟨by
            have h1 := HS.out.drew.new_own ((Keeps.refl _ _).alloc _) (hoi _ HBs.out) (fun g hg => by
              have : wc.heap.size = g := by simpa [Value.ownBlock, full] using hg
              show wc.heap.size ≤ g; omega)
            have h2 := h1.new_rows ((Keeps.refl _ _).alloc _) (hor (wc.drew.alloc (.cells ci 3)) (Nat.le_trans HBs.out (by simp))) (fun g hg => by
              rcases hg with hg | ⟨j, u, hu, hg⟩
              · have : (wc.drew.alloc (.cells ci 3)).heap.size = g := by simpa [Value.ownBlock, full] using hg
                omega
              · have := (List.mem_replicate.1 (List.mem_of_getElem? hu)).2; subst this; cases hg)
            rw [show (wc.drew.alloc (.cells ci 3)).heap.size = wc.heap.size + 1 by simp] at h2
            exact h2⟩
          have HC : Hd (Sep ((wc.drew.alloc (.cells cr 44)).alloc (.cells ci 3)) (FinL p sv (.slice pp np cpp) pvs (partsI p.n np P) cnt idx low P stk ++ [oI p.B 3 (full (wc.heap.size + 1) m) (cellsF m fun _ => 0), oR p.B (full wc.heap.size m) (List.replicate m (.slice none 0 0)) (List.replicate m [])])) := ⟨by
            have h1 := HS.out.drew.new_rows ((Keeps.refl _ _).alloc _) (hor _ HBs.out) (fun g hg => by
              rcases hg with hg | ⟨j, u, hu, hg⟩
              · have : wc.heap.size = g := by simpa [Value.ownBlock, full] using hg
                show wc.heap.size ≤ g; omega
              · have := (List.mem_replicate.1 (List.mem_of_getElem? hu)).2; subst this; cases hg)
            have h2 := h1.new_own ((Keeps.refl _ _).alloc _) (hoi (wc.drew.alloc (.cells cr 44)) (Nat.le_trans HBs.out (by simp))) (fun g hg => by
              have : (wc.drew.alloc (.cells cr 44)).heap.size = g := by simpa [Value.ownBlock, full] using hg
              omega)
            rw [show (wc.drew.alloc (.cells cr 44)).heap.size = wc.heap.size + 1 by simp] at h2
            exact Sep.insert (L1 := FinL p sv (.slice pp np cpp) pvs (partsI p.n np P) cnt idx low P stk) h2⟩
          have HBA : Hd (Below w.heap.size w ((wc.drew.alloc (.cells ci 3)).alloc (.cells cr 44))) := ⟨HB1.out.trans (((((Keeps.refl (fun _ => False) wc).drew).alloc (.cells ci 3)).alloc (.cells cr 44)).below HB1.out.size (fun _ _ h => h))⟩
          have HBC : Hd (Below w.heap.size w ((wc.drew.alloc (.cells cr 44)).alloc (.cells ci 3))) := ⟨HB1.out.trans (((((Keeps.refl (fun _ => False) wc).drew).alloc (.cells cr 44)).alloc (.cells ci 3)).below HB1.out.size (fun _ _ h => h))⟩
          have HBz : Hd (p.B ≤ wc.heap.size + 1 + 1) := ⟨by have := HBs.out; omega⟩
          clear f5 hoi hor hci hcr hm
          unfold ptr
          go_upto_region 11 with (fail)
          refine wp_region_tr default (fun w' => w'.cell? ⟨p.F, 5, none⟩ = some (.slice pp np cpp)) (.free 0 <| .free 1 <| .free 2 <| .free 3 <| .free 5 <| .free 6 <| .free 7 <| .free 8 <| .two 4 (.free 10 <| .one 9 <| .free 11 .done) 9 (.one 4 <| .free 10 <| .free 11 .done)) (by kernel_rfl) (by kernel_rfl) rfl (by kernel_rfl) (by kernel_rfl) S0.out ?_
          repeat
            refine tr_free (v := ?_) (by rfl) ?_ ?_
            rotate_left
            · intro w' hSw
              simp only [List.getD_cons_zero, List.getD_cons_succ]
              go_simp
              first | done | with_reducible rfl
            simp only [Act.put, List.getD_cons_zero, List.getD_cons_succ, List.setIfInBounds_toArray, List.set_cons_zero, List.set_cons_succ]
          refine tr_two ?_ ?_
          · refine tr_one (fun K hK => ?_)
            simp only [List.getD_cons_zero, List.getD_cons_succ]
            go_simp
            refine hK.out _ _ S1.out ?_
            clear hK K
            try simp only [Act.put, List.getD_cons_zero, List.getD_cons_succ, List.setIfInBounds_toArray, List.set_cons_zero, List.set_cons_succ]
            repeat
              refine tr_free (v := ?_) (by rfl) ?_ ?_
              rotate_left
              · intro w' hSw
                simp only [List.getD_cons_zero, List.getD_cons_succ]
                go_simp
                first | done | with_reducible rfl
              simp only [Act.put, List.getD_cons_zero, List.getD_cons_succ, List.setIfInBounds_toArray, List.set_cons_zero, List.set_cons_succ]
            refine tr_one (fun K hK => ?_)
            simp only [List.getD_cons_zero, List.getD_cons_succ]
            go_simp
            refine hK.out _ _ S3.out ?_
            clear hK K
            try simp only [Act.put, List.getD_cons_zero, List.getD_cons_succ, List.setIfInBounds_toArray, List.set_cons_zero, List.set_cons_succ]
            repeat
              refine tr_free (v := ?_) (by rfl) ?_ ?_
              rotate_left
              · intro w' hSw
                simp only [List.getD_cons_zero, List.getD_cons_succ]
                go_simp
                first | done | with_reducible rfl
              simp only [Act.put, List.getD_cons_zero, List.getD_cons_succ, List.setIfInBounds_toArray, List.set_cons_zero, List.set_cons_succ]
            refine NoPanic.normal ?_
            go_wp2
            go_meet
            exact ⟨wc.heap.size, wc.heap.size + 1, rfl, rfl, HBA, ⟨by have := HBz.out; simpa using this⟩, HA⟩
          · refine tr_one (fun K hK => ?_)
            simp only [List.getD_cons_zero, List.getD_cons_succ]
            go_simp
            refine hK.out _ _ S2.out ?_
            clear hK K
            try simp only [Act.put, List.getD_cons_zero, List.getD_cons_succ, List.setIfInBounds_toArray, List.set_cons_zero, List.set_cons_succ]
            refine tr_one (fun K hK => ?_)
            simp only [List.getD_cons_zero, List.getD_cons_succ]
            go_simp
            refine hK.out _ _ S4.out ?_
            clear hK K
            try simp only [Act.put, List.getD_cons_zero, List.getD_cons_succ, List.setIfInBounds_toArray, List.set_cons_zero, List.set_cons_succ]
            repeat
              refine tr_free (v := ?_) (by rfl) ?_ ?_
              rotate_left
              · intro w' hSw
                simp only [List.getD_cons_zero, List.getD_cons_succ]
                go_simp
                first | done | with_reducible rfl
              simp only [Act.put, List.getD_cons_zero, List.getD_cons_succ, List.setIfInBounds_toArray, List.set_cons_zero, List.set_cons_succ]
            refine NoPanic.normal ?_
            go_wp2
            go_meet
            exact ⟨wc.heap.size + 1, wc.heap.size, rfl, rfl, HBC, ⟨by have := HBz.out; simpa using this⟩, HC⟩
        case rest =>
          clear HS HB1 HBs
          obtain ⟨gw, gu, rfl, rfl, HB1, HBs, HS⟩ := hcut
          unfold full ptr
          obtain ⟨pn, cn, hnv⟩ := (HS.out.rows 2 rfl).own.slice'
          rw [show p.nvs.length = p.n by rw [(HS.out.rows 2 rfl).len, HQ.out.2.2.2]; simp] at hnv
          have HNv := Hd.mk hnv
          have f0 : ∀ {w' : World} {X : List Asr}, Sep w' (FinL p sv (.slice pp np cpp) pvs (partsI p.n np P) cnt idx low P stk ++ X) → w'.cell? ⟨p.F, 0, none⟩ = some (.slice pn p.n cn) := fun h => HNv.out ▸ (Fin.cells h).f0
          have F0 := Hd.mk (f0 HS.out)
          clear hnv f0
          go_step
          go_step
          go_cut [] from 23 (fun wx => ∃ us, Hd (Below w.heap.size w wx) ∧ Hd (p.B ≤ wx.heap.size) ∧ Hd (Sep wx (FinL p sv (.slice pp np cpp) pvs (partsI p.n np P) cnt idx low P stk ++ [oI p.B 3 (full gw m) (cellsF m (Tj.wtL P (Tj.pairs nxs p.n))), oR p.B (full gu m) us (usR P m (Tj.pairs nxs p.n))])))
          case first =>
            have f0' := F0.out
            go_wp2
            clear f0'
            go_loopw [63] (fun iv wr => ∃ (k : Nat) (us : List Value), k ≤ p.n ∧ iv = .int .i64 (k : Int) ∧ Hd (Below w.heap.size w wr) ∧ Hd (p.B ≤ wr.heap.size) ∧ Hd (Sep wr (FinL p sv (.slice pp np cpp) pvs (partsI p.n np P) cnt idx low P stk ++ [oI p.B 3 (full gw m) (cellsF m (Tj.wtL P (Tj.pairs nxs k))), oR p.B (full gu m) us (usR P m (Tj.pairs nxs k))]))) (fun iv _ => p.n - (intOf iv).toNat)
            case atStart => exact ⟨0, _, Nat.zero_le _, rfl, HB1, HBs, ⟨by
              have := HS.out
              rw [show Tj.pairs nxs 0 = [] from rfl, usR_nil, wtL_zero]; exact this⟩⟩
            case round =>
              clear HS HB1 HBs F0
              obtain ⟨k, us, hk, rfl, HK, HBs, HM⟩ := hrel
              by_cases hlt : k < p.n
              · have hd1 : decide ((k : Int) < (p.n : Int)) = true := by simp; omega
                have hms : p.n - (intOf (.int .i64 ((k : Int) + 1))).toNat < p.n - (intOf (.int .i64 (k : Int))).toNat := by simp [intOf]; omega
                have hkl : k < p.nl.length := by rw [HQ.out.2.2.2]; simpa using hlt
                obtain ⟨gn, hgn⟩ : ∃ gn, pn = some ⟨gn, 0, none⟩ := by
                  obtain ⟨g, c, e⟩ := (HM.out.rows 2 rfl).own.slice (by rw [(HM.out.rows 2 rfl).len]; omega)
                  rw [HNv.out] at e
                  injection e with e _ _
                  exact ⟨g, e⟩
                subst hgn
                obtain ⟨u, hu, hcu, _, hOu, _⟩ := (show RowsO wr p.B (.slice (some ⟨gn, 0, none⟩) p.n cn) p.nvs p.nl from HNv.out ▸ HM.out.rows 2 rfl).at (j := k) hkl
                have hnk : p.nl[k] = intL (nxs k) := by simp only [HQ.out.2.2.2]; simp
                rw [hnk, ints_intL] at hOu
                obtain ⟨pvv, cvv, hsu⟩ := hOu.slice'
                rw [show (intC (nxs k)).length = (nxs k).length by simp [intC]] at hsu
                subst hsu
                have hxl := HQ.out.2.2.1 k
                obtain ⟨M, hMl⟩ : ∃ M, (nxs k).length = M := ⟨_, rfl⟩
                rw [hMl] at hcu hxl
                have hnk2 : p.nl[k]? = some (intL (nxs k)) := by rw [List.getElem?_eq_getElem hkl, hnk]
                have HU := Hd.mk (And.intro hu (And.intro hnk2 hMl))
                clear hOu hu hnk hnk2 hMl hkl
                go_wp2
                go_loopw [70] (fun jv wx => ∃ (j : Nat) (us : List Value), j ≤ M ∧ jv = .int .i64 (j : Int) ∧ Hd (Below w.heap.size w wx) ∧ Hd (p.B ≤ wx.heap.size) ∧ Hd (Sep wx (FinL p sv (.slice pp np cpp) pvs (partsI p.n np P) cnt idx low P stk ++ [oI p.B 3 (full gw m) (cellsF m (Tj.wtL P (Tj.pairs nxs k ++ ((nxs k).take j).map fun x => (k, x)))), oR p.B (full gu m) us (usR P m (Tj.pairs nxs k ++ ((nxs k).take j).map fun x => (k, x)))]))) (fun jv _ => M - (intOf jv).toNat)
                case atStart => exact ⟨0, us, Nat.zero_le _, rfl, HK, HBs, ⟨by simpa using HM.out⟩⟩
                case round =>
                  clear HK HBs HM hcu
                  obtain ⟨j, us, hj, rfl, HK, HBs, HM⟩ := hrel
                  by_cases hltj : j < M
                  · have hd2 : decide ((j : Int) < (M : Int)) = true := by simp; omega
                    have hmj : M - (intOf (.int .i64 ((j : Int) + 1))).toNat < M - (intOf (.int .i64 (j : Int))).toNat := by simp [intOf]; omega
                    have hjl : j < (nxs k).length := by rw [HU.out.2.2]; exact hltj
                    obtain ⟨x, hx⟩ : ∃ x, (nxs k)[j] = x := ⟨_, rfl⟩
                    have hxm : x ∈ nxs k := by rw [← hx]; exact List.getElem_mem hjl
                    have hxn : x < p.n := HQ.out.2.1 k x hxm
                    have hOu := (HM.out.rows 2 rfl).each k _ (intL (nxs k)) HU.out.1 HU.out.2.1
                    rw [ints_intL] at hOu
                    obtain ⟨gv, hgv⟩ : ∃ gv, pvv = some ⟨gv, 0, none⟩ := by
                      obtain ⟨g, c', e⟩ := hOu.slice (by simp [intC]; omega)
                      injection e with e1 _ _
                      exact ⟨g, e1⟩
                    subst hgv
                    have cx := (hOu.at (intC_at hjl)).1
                    rw [hx] at cx
                    obtain ⟨l, hl'⟩ : ∃ l, Tj.pairs nxs k ++ ((nxs k).take j).map (fun x => (k, x)) = l := ⟨_, rfl⟩
                    have hlen : l.length ≤ 600000000 := by
                      have h1 := pairs_len HQ.out.2.2.1 k
                      have h2 : ((nxs k).take j).length ≤ (nxs k).length := by simp; omega
                      have h3 := HU.out.2.2
                      have h4 : k * 262144 ≤ 1000 * 262144 := Nat.mul_le_mul_right _ (by omega)
                      rw [← hl', List.length_append, List.length_map]; omega
                    have hnext : Tj.pairs nxs k ++ ((nxs k).take (j + 1)).map (fun x => (k, x)) = l ++ [(k, x)] := by
                      rw [← hl', List.take_add_one, List.getElem?_eq_getElem hjl, hx, List.map_append]
                      simp
                    rw [hl'] at HM
                    have HNext := Hd.mk hnext
                    obtain ⟨pk, hpk⟩ : ∃ pk, P k = pk := ⟨_, rfl⟩
                    obtain ⟨px, hpx⟩ : ∃ px, P x = px := ⟨_, rfl⟩
                    have p0 := (Fin.prtAt HM.out hlt).1
                    have p1 := (Fin.prtAt HM.out hxn).1
                    have f4 := (Fin.cells HM.out).f4
                    rw [hpk] at p0
                    rw [hpx] at p1
                    have hpkm : pk < m := by have := HScc.out.le k; have := HMm.out; omega
                    have hpxm : px < m := by have := HScc.out.le x; have := HMm.out; omega
                    clear hx hl' hnext hOu hjl
                    by_cases hsame : pk = px
                    · subst hsame
                      have HSm : Hd (P k = P x) := ⟨by rw [hpk, hpx]⟩
                      clear hpk hpx
                      go_upto_region 18 with (fail)
                      go_quiet (fail)
                      revert nq; intro q1
                      have HM2 := Hd.mk (HM.out.drewN q1)
                      have HK2 : Hd (Below w.heap.size w (wr.drewN q1)) := ⟨HK.out.trans (((Keeps.refl (fun _ => False) wr).drewN q1).below HK.out.size (fun _ _ h => h))⟩
                      go_wp2
                      go_roundw
                      case rel => exact ⟨j + 1, us, hltj, by go_num, HK2, ⟨HBs.out⟩, ⟨by rw [HNext.out, Tj.wtL_same HSm.out, usR_same HSm.out]; exact HM2.out⟩⟩
                      case measure => exact hmj
                    · have hne : ¬ (pk : Int) = (px : Int) := by omega
                      have hne2 : ((pk : Int) != (px : Int)) = true := by simp; omega
                      have HDf : Hd (P k ≠ P x ∧ P k = pk ∧ P x = px) := ⟨by rw [hpk, hpx]; exact ⟨hsame, rfl, rfl⟩⟩
                      clear hpk hpx
                      go_upto_region 18 with (fail)
                      go_quiet (fail)
                      revert nq; intro q1
                      obtain ⟨c, hc⟩ : ∃ c, Tj.wtL P l pk = c := ⟨_, rfl⟩
                      have hcl : c ≤ l.length := by rw [← hc]; exact wtL_len P l pk
                      have hcw : IntKind.i64.wrap ((c : Int) + 1) = (c : Int) + 1 := IntWalk.i64_in _ (by omega)
                      obtain ⟨cw0, cw1⟩ := (HM.out.own 8 rfl).at (cellsF_at (f := Tj.wtL P l) hpkm)
                      rw [hc] at cw0
                      have hset : Sep ((wr.drewN q1).setCell ⟨gw, pk, none⟩ (.int .i64 ((c : Int) + 1))) (FinL p sv (.slice pp np cpp) pvs (partsI p.n np P) cnt idx low P stk ++ [oI p.B 3 (full gw m) (cellsF m (Tj.wtL P (l ++ [(k, x)]))), oR p.B (full gu m) us (usR P m l)]) := by
                        have hh := (HM.out.drewN q1).set_own 8 rfl pk (.int .i64 ((c + 1 : Nat) : Int))
                        rw [cellsF_set hpkm, ← hc, ← HDf.out.2.1, ← Tj.wtL_step HDf.out.1, HDf.out.2.1, hc] at hh
                        exact hh
                      have hbel : Below w.heap.size w ((wr.drewN q1).setCell ⟨gw, pk, none⟩ (.int .i64 ((c : Int) + 1))) := HK.out.trans ((((Keeps.refl (fun g => p.B ≤ g) wr).drewN q1).setCell (p := ⟨gw, pk, none⟩) (.inr ((HM.out.own 8 rfl).lt rfl).1) _).below HK.out.size (fun k h1 h2 => by have h3 := HBB.out; have h4 := HB.out.size; omega))
                      have HM2 := Hd.mk hset
                      have HK2 := Hd.mk hbel
                      clear hc hset hbel hcl p0 p1 f4 cx
                      go_upto_region 21 with (fail)
                      generalize (wr.drewN q1).setCell ⟨gw, pk, none⟩ (.int .i64 ((c : Int) + 1)) = w2 at HM2 HK2 ⊢
                      clear cw0 cw1 hcw HM HK
                      have hbs2 : p.B ≤ w2.heap.size := Nat.le_trans ((HM2.out.own 8 rfl).lt (k := gw) rfl).1 (Nat.le_of_lt ((HM2.out.own 8 rfl).lt (k := gw) rfl).2)
                      obtain ⟨u2, hu2, cu2, _, hOu2, hug2⟩ := (show RowsO w2 p.B (.slice (some ⟨gu, 0, none⟩) m m) us (usR P m l) from HM2.out.rows 9 rfl).at (j := px) (by simpa [usR] using hpxm)
                      have hus : (usR P m l)[px]'(by simpa [usR] using hpxm) = intL (Tj.usL P l px) := by simp [usR]
                      rw [hus] at hOu2
                      obtain ⟨i0, hi0, hz0, hz1, hz2⟩ := info_parts infoInt
                      have HI0 := Hd.mk (And.intro hi0 (And.intro hz0 (And.intro hz1 hz2)))
                      have HOu2 := Hd.mk hOu2
                      have hul : (ints (intL (Tj.usL P l px))).length ≤ 600000000 := by
                        have := usL_len P l px
                        simp only [ints, intL, List.length_map]; omega
                      have HUl := Hd.mk hul
                      have HU2 := Hd.mk (And.intro hu2 hug2)
                      have HBs2 := Hd.mk hbs2
                      clear hi0 hz0 hz1 hz2 hOu2 hus hul hu2 hug2 hbs2
                      have cu3 : (w2.alloc (.cells #[.int .i64 (pk : Int)] 3)).cell? ⟨gu, px, none⟩ = some u2 := by
                        obtain ⟨u3, hu3, cu3, _, _, _⟩ := (show RowsO (w2.alloc (.cells #[.int .i64 (pk : Int)] 3)) p.B (.slice (some ⟨gu, 0, none⟩) m m) us (usR P m l) from (HM2.out.alloc _).rows 9 rfl).at (j := px) (by simpa [usR] using hpxm)
                        rw [HU2.out.1] at hu3; cases hu3; exact cu3
                      go_wp2_with (at_builtin; refine wp_app1 rfl _ _ 44 rfl 3 Try.underlying44 HI0.out.1 HI0.out.2.1 HI0.out.2.2.1 HI0.out.2.2.2 rfl u2 (ints (intL (Tj.usL P l px))) _ w2 rfl HOu2.out rfl rfl (by have := HUl.out; unfold maxLen; omega) (by have := HUl.out; omega) HBs2.out ?_)
                      intro v' w4 h1 h2 h3
                      obtain ⟨q4, c4, hv4⟩ := h1.slice'
                      obtain ⟨n4, hn4⟩ : ∃ n4, (ints (intL (Tj.usL P l px)) ++ [Value.int .i64 (pk : Int)]).length = n4 := ⟨_, rfl⟩
                      rw [hn4] at hv4
                      subst hv4
                      have hrw := (show RowsO w2 p.B (.slice (some ⟨gu, 0, none⟩) m m) us (usR P m l) from HM2.out.rows 9 rfl)
                      have h3' : (Value.slice q4 n4 c4).ownBlock = u2.ownBlock ∨ (Value.slice q4 n4 c4).ownBlock = none ∨ ∃ k, w2.heap.size ≤ k ∧ (Value.slice q4 n4 c4).ownBlock = some k := h3.imp_right .inr
                      obtain ⟨r1, r2⟩ := hrw.put HU2.out.1 h2 (u' := .slice q4 n4 c4) (l' := intL (Tj.usL P l px) ++ [(pk : Int)]) (by simpa [ints] using h1) h3'
                      have hS4 := HM2.out.put_rows 9 rfl r2 r1 (rowsK_set HU2.out.1 h3')
                      have own4 := hrw.own.keeps h2 (fun g hg he => hrw.ne px u2 g HU2.out.1 he hg)
                      obtain ⟨o4, o5⟩ := own4.at HU2.out.1
                      have HM4 : Hd (Sep (w4.setCell ⟨gu, px, none⟩ (.slice q4 n4 c4)) (FinL p sv (.slice pp np cpp) pvs (partsI p.n np P) cnt idx low P stk ++ [oI p.B 3 (full gw m) (cellsF m (Tj.wtL P (l ++ [(k, x)]))), oR p.B (full gu m) (us.set px (.slice q4 n4 c4)) (usR P m (l ++ [(k, x)]))])) := ⟨by
                        have e : (usR P m l).set px (intL (Tj.usL P l px) ++ [(pk : Int)]) = usR P m (l ++ [(k, x)]) := by
                          have := usR_step (m := m) (l := l) HDf.out.1 (by rw [HDf.out.2.2]; exact hpxm)
                          rw [HDf.out.2.1, HDf.out.2.2] at this
                          exact this
                        rw [e] at hS4
                        exact hS4⟩
                      have HK4 : Hd (Below w.heap.size w (w4.setCell ⟨gu, px, none⟩ (.slice q4 n4 c4))) := ⟨HK2.out.trans (r2.below HK2.out.size (fun g hg hr => by have h1 := (rowsK_lt hrw hr).1; have h3 := HBB.out; have h4 := HB.out.size; omega))⟩
                      have HBs4 : Hd (p.B ≤ (w4.setCell ⟨gu, px, none⟩ (.slice q4 n4 c4)).heap.size) := ⟨Nat.le_trans HBs2.out r2.size⟩
                      clear h1 h2 h3 h3' hrw r1 r2 hS4 own4 hn4 cu2 cu3
                      rw [← HNext.out] at HM4
                      go_wp2_with fail
                      generalize w4.setCell ⟨gu, px, none⟩ (.slice q4 n4 c4) = w5 at HM4 HK4 HBs4 ⊢
                      go_roundw
                      case rel => exact ⟨j + 1, us.set px (.slice q4 n4 c4), hltj, by go_num, HK4, HBs4, HM4⟩
                      case measure => exact hmj
                  · have hd2 : decide ((j : Int) < (M : Int)) = false := by simp; omega
                    go_wp2
                    refine ⟨⟨k + 1, us, hlt, by go_num, HK, HBs, ⟨?_⟩⟩, hms⟩
                    have hMo := HM.out
                    rw [List.take_of_length_le (by rw [HU.out.2.2]; omega), ← Tj.pairs_succ] at hMo
                    exact hMo
              · have hd1 : decide ((k : Int) < (p.n : Int)) = false := by simp; omega
                have hkn : k = p.n := by omega
                subst hkn
                go_wp2
                go_meet
                exact ⟨us, HK, HBs, HM⟩
          case rest =>
            clear HS HB1 HBs F0
            obtain ⟨us, HB1, HBs, HS⟩ := hcut
            obtain ⟨key, hkey⟩ : ∃ key : Nat → Nat, (fun k => Tj.headN (Tj.nodesOf p.n P (k + 1))) = key := ⟨_, rfl⟩
            have HKey : Hd ((∀ k, key k = Tj.headN (Tj.nodesOf p.n P (k + 1))) ∧ ∀ k, k < np → ∃ r, (partsI p.n np P)[k]? = some ((key k : Int) :: r)) := ⟨by
              refine ⟨fun k => by rw [← hkey], fun k hk => ?_⟩
              have hne := HScc.out.nodes (p := k + 1) (by omega) (by omega)
              have e : (partsI p.n np P)[k]? = some (intL (Tj.nodesOf p.n P (k + 1))) := by simp [partsI, hk]
              rw [e, ← hkey]
              cases h : Tj.nodesOf p.n P (k + 1) with
              | nil => exact absurd h hne
              | cons a r => exact ⟨intL r, by simp [intL, Tj.headN, h]⟩⟩
            clear hkey
            go_step
            go_step
            go_cut [16] from 23 (fun s16 wx => ∃ hb hv, s16 = .iface 67 (.pointer (some ⟨hb, 0, none⟩)) ∧ Hd (Below w.heap.size w wx) ∧ Hd (p.B ≤ wx.heap.size) ∧ Hd (HpA wx (FinL p sv (.slice pp np cpp) pvs (partsI p.n np P) cnt idx low P stk ++ [oI p.B 3 (full gw m) (cellsF m (Tj.wtL P (Tj.pairs nxs p.n))), oR p.B (full gu m) us (usR P m (Tj.pairs nxs p.n)), oI p.B 3 (.slice none 0 0) [], oI p.B 3 (.slice none 0 0) [], oI p.B 44 (.slice none 0 0) []]) 10 11 7 p.B hb hv (.slice pp np cpp) pvs (partsI p.n np P) key []))
            case first =>
              have HW : Hd (Below w.heap.size w ((wc.alloc (.cells #[] 44)).alloc (.cells #[.slice (some ⟨wc.heap.size, 0, none⟩) 0 0] 68))) := ⟨HB1.out.trans ((((Keeps.refl (fun _ => False) wc).alloc _).alloc _).below HB1.out.size (fun _ _ h => h))⟩
              have HBz : Hd (p.B ≤ ((wc.alloc (.cells #[] 44)).alloc (.cells #[.slice (some ⟨wc.heap.size, 0, none⟩) 0 0] 68)).heap.size) := ⟨by have := HBs.out; simp; omega⟩
              have HH : Hd (HpA ((wc.alloc (.cells #[] 44)).alloc (.cells #[.slice (some ⟨wc.heap.size, 0, none⟩) 0 0] 68)) (FinL p sv (.slice pp np cpp) pvs (partsI p.n np P) cnt idx low P stk ++ [oI p.B 3 (full gw m) (cellsF m (Tj.wtL P (Tj.pairs nxs p.n))), oR p.B (full gu m) us (usR P m (Tj.pairs nxs p.n)), oI p.B 3 (.slice none 0 0) [], oI p.B 3 (.slice none 0 0) [], oI p.B 44 (.slice none 0 0) []]) 10 11 7 p.B (wc.heap.size + 1) (.slice (some ⟨wc.heap.size, 0, none⟩) 0 0) (.slice pp np cpp) pvs (partsI p.n np P) key []) := ⟨by
                have h1 := HS.out.new_own ((Keeps.refl _ _).alloc (.cells #[] 44)) (Own.made (e := 44) (w := wc) (B := p.B) HBs.out [] (by decide)) (fun g hg => by
                  have : wc.heap.size = g := by simpa [Value.ownBlock] using hg
                  omega)
                have h2 := h1.new_blk (B := p.B) (Nat.le_trans HBs.out (by simp)) 68 [.slice (some ⟨wc.heap.size, 0, none⟩) 0 0]
                rw [show (wc.alloc (.cells #[] 44)).heap.size = wc.heap.size + 1 by simp] at h2
                have h3 := Sep.insert (L1 := FinL p sv (.slice pp np cpp) pvs (partsI p.n np P) cnt idx low P stk ++ [oI p.B 3 (full gw m) (cellsF m (Tj.wtL P (Tj.pairs nxs p.n))), oR p.B (full gu m) us (usR P m (Tj.pairs nxs p.n))]) (L2 := [oI p.B 44 (.slice (some ⟨wc.heap.size, 0, none⟩) 0 0) []]) h2
                have h4 := h3.new_own (Keeps.refl _ _) (Own.nil _ p.B 44) (fun g hg => by cases hg)
                exact ⟨h4, by decide, by decide, by decide, by simp [FinL], by simp [FinL], rfl, by simp, fun k hk => by cases hk⟩⟩
              go_wp2
              go_meet
              exact ⟨wc.heap.size + 1, .slice (some ⟨wc.heap.size, 0, none⟩) 0 0, rfl, HW, HBz, HH⟩
            case rest =>
              clear HS HB1 HBs
              obtain ⟨hb, hv, rfl, HB1, HBs, HH⟩ := hcut
              go_step
              go_step
              go_cut [] from 23 (fun wx => ∃ hv hl, Hd (Below w.heap.size w wx) ∧ Hd (p.B ≤ wx.heap.size) ∧ Hd (HpA wx (FinL p sv (.slice pp np cpp) pvs (partsI p.n np P) cnt idx low P stk ++ [oI p.B 3 (full gw m) (cellsF m (Tj.wtL P (Tj.pairs nxs p.n))), oR p.B (full gu m) us (usR P m (Tj.pairs nxs p.n)), oI p.B 3 (.slice none 0 0) [], oI p.B 3 (.slice none 0 0) [], oI p.B 44 (.slice none 0 0) []]) 10 11 7 p.B hb hv (.slice pp np cpp) pvs (partsI p.n np P) key hl) ∧ Hd ((∀ i, i ∈ hl ↔ i < np ∧ Tj.wtL P (Tj.pairs nxs p.n) (i + 1) = 0) ∧ hl.Nodup ∧ Tj.HeapO key hl hl.length))
              case first =>
                have f5 := (Fin.cells (X := _) HH.out.sep).f5
                go_wp2
                clear f5
                go_loopw [111] (fun iv wr => ∃ (k : Nat) (hv : Value) (hl : List Nat), k ≤ np ∧ iv = .int .i64 (k : Int) ∧ Hd (Below w.heap.size w wr) ∧ Hd (p.B ≤ wr.heap.size) ∧ Hd (HpA wr (FinL p sv (.slice pp np cpp) pvs (partsI p.n np P) cnt idx low P stk ++ [oI p.B 3 (full gw m) (cellsF m (Tj.wtL P (Tj.pairs nxs p.n))), oR p.B (full gu m) us (usR P m (Tj.pairs nxs p.n)), oI p.B 3 (.slice none 0 0) [], oI p.B 3 (.slice none 0 0) [], oI p.B 44 (.slice none 0 0) []]) 10 11 7 p.B hb hv (.slice pp np cpp) pvs (partsI p.n np P) key hl) ∧ Hd ((∀ i, i ∈ hl ↔ i < k ∧ Tj.wtL P (Tj.pairs nxs p.n) (i + 1) = 0) ∧ hl.Nodup ∧ Tj.HeapO key hl hl.length)) (fun iv _ => np - (intOf iv).toNat)
                case atStart => exact ⟨0, hv, [], Nat.zero_le _, rfl, HB1, HBs, HH, ⟨⟨fun i => by simp, List.nodup_nil, fun i _ h => absurd h (Nat.not_lt_zero _)⟩⟩⟩
                case round =>
                  clear HB1 HBs HH hv
                  obtain ⟨k, hv, hl, hk, rfl, HK, HBs, HM, HQ2⟩ := hrel
                  by_cases hlt : k < np
                  · have hd1 : decide ((k : Int) < (np : Int)) = true := by simp; omega
                    have hmk : np - (intOf (.int .i64 ((k : Int) + 1))).toNat < np - (intOf (.int .i64 (k : Int))).toNat := by simp [intOf]; omega
                    obtain ⟨gq, hgq⟩ : ∃ gq, pp = some ⟨gq, 0, none⟩ := by
                      obtain ⟨g, c, e⟩ := HM.out.parts.own.slice (by rw [HPl.out]; omega)
                      injection e with e _ _
                      exact ⟨g, e⟩
                    subst hgq
                    obtain ⟨u, hu, cu, _, _, _⟩ := HM.out.parts.at (j := k) (by simpa [partsI] using hlt)
                    obtain ⟨r, hr⟩ := HKey.out.2 k hlt
                    obtain ⟨gi, ci, e1, _⟩ := part_key HM.out.parts hr
                    have hue : u = .slice (some ⟨gi, 0, none⟩) (r.length + 1) ci := by
                      rw [List.getD_eq_getElem?_getD, hu, Option.getD_some] at e1; exact e1
                    obtain ⟨q, hq⟩ : ∃ q, r.length + 1 = q := ⟨_, rfl⟩
                    rw [hq] at e1 hue
                    rw [hue] at cu
                    obtain ⟨c, hc⟩ : ∃ c, Tj.wtL P (Tj.pairs nxs p.n) (k + 1) = c := ⟨_, rfl⟩
                    have cw := ((HM.out.sep.own 8 rfl).at (cellsF_at (f := Tj.wtL P (Tj.pairs nxs p.n)) (show k + 1 < m by have := HMm.out; omega))).1
                    rw [hc] at cw
                    have hk1 : IntKind.i64.wrap ((k : Int) + 1) = ((k + 1 : Nat) : Int) := by rw [IntWalk.i64_in _ (by omega)]; omega
                    have hk2 : ((k + 1 : Nat) : Int) = (k : Int) + 1 := by omega
                    have hkm : k + 1 < m := by have := HMm.out; omega
                    have HC := Hd.mk hc
                    have HR1 : Hd (∃ r, (partsI p.n np P)[k]? = some ((key k : Int) :: r)) := ⟨⟨r, hr⟩⟩
                    clear hu hr hue hq hc
                    by_cases hc0 : c = 0
                    · subst hc0
                      have cw0 : wr.cell? ⟨gw, k + 1, none⟩ = some (.int .i64 0) := cw
                      have hlb : hl.length + 1 ≤ 262144 := by
                        have := Tj.nodup_le (n := np) HQ2.out.2.1 (fun i hi => by have := ((HQ2.out.1 i).1 hi).1; omega)
                        omega
                      have HPu := Hd.mk (hpush_any wr hv hl k HM.out HQ2.out.2.2 HBs.out HR1.out hlb)
                      rw [e1] at HPu
                      clear cw e1
                      go_wp2_with fail
                      refine HPu.out.mono ?_
                      rintro e w2 ⟨rfl, hv2, hl2, h2, hp2, ho2, hb2⟩
                      have HM2 := Hd.mk h2
                      have HK2 : Hd (Below w.heap.size w w2) := ⟨HK.out.trans (hb2.mono (by rw [HBB.out]; exact HB.out.size))⟩
                      have HBs2 : Hd (p.B ≤ w2.heap.size) := ⟨Nat.le_trans HBs.out hb2.size⟩
                      have HQ5 : Hd ((∀ i, i ∈ hl2 ↔ i < k + 1 ∧ Tj.wtL P (Tj.pairs nxs p.n) (i + 1) = 0) ∧ hl2.Nodup ∧ Tj.HeapO key hl2 hl2.length) := ⟨by
                        refine ⟨fun i => ?_, ?_, ho2⟩
                        · rw [hp2.mem_iff, List.mem_cons, HQ2.out.1]
                          constructor
                          · rintro (rfl | h)
                            · exact ⟨by omega, HC.out⟩
                            · exact ⟨by omega, h.2⟩
                          · rintro ⟨h1, h2⟩
                            by_cases e : i = k
                            · exact .inl e
                            · exact .inr ⟨by omega, h2⟩
                        · refine hp2.nodup_iff.2 (List.nodup_cons.2 ⟨fun hm => ?_, HQ2.out.2.1⟩)
                          have := ((HQ2.out.1 k).1 hm).1; omega⟩
                      clear h2 hp2 ho2 hb2 HPu cw0 cu
                      go_wp2
                      exact ⟨⟨k + 1, hv2, hl2, hlt, by go_num, HK2, HBs2, HM2, HQ5⟩, hmk⟩
                    · have hc3 : ¬ (c : Int) = 0 := by omega
                      have HQ5 : Hd ((∀ i, i ∈ hl ↔ i < k + 1 ∧ Tj.wtL P (Tj.pairs nxs p.n) (i + 1) = 0) ∧ hl.Nodup ∧ Tj.HeapO key hl hl.length) := ⟨by
                        refine ⟨fun i => ?_, HQ2.out.2⟩
                        rw [HQ2.out.1]
                        constructor
                        · exact fun h => ⟨by omega, h.2⟩
                        · rintro ⟨h1, h2⟩
                          refine ⟨?_, h2⟩
                          have : i ≠ k := fun e => hc0 (by rw [← HC.out, ← e]; exact h2)
                          omega⟩
                      clear e1
                      go_wp2
                      exact ⟨⟨k + 1, hv, hl, hlt, by go_num, HK, HBs, HM, HQ5⟩, hmk⟩
                  · have hd1 : decide ((k : Int) < (np : Int)) = false := by simp; omega
                    have hkn : k = np := by omega
                    have HQ3 := HQ2.out
                    rw [hkn] at HQ3
                    have HQ4 := Hd.mk HQ3
                    clear HQ3 hkn
                    go_wp2
                    go_meet
                    exact ⟨hv, hl, HK, HBs, HM, HQ4⟩
              case rest =>
                clear HB1 HBs HH hv
                obtain ⟨hv, hl, HB1, HBs, HH, HQ2⟩ := hcut
                have HKh : Hd (Tj.Kh p.n nxs np P [] [] (Tj.wtL P (Tj.pairs nxs p.n)) hl) := ⟨Tj.Kh.start HQ2.out.1 HQ2.out.2.1⟩
                have HGot : Hd (Tj.Got p.n (fun u x => (Tj.heads (Tj.waysOf p.n nxs [u])).contains x) P [] [] p.n) := ⟨Tj.Got.start⟩
                have HO := Hd.mk HQ2.out.2.2
                clear HQ2
                go_wp2
                go_loopg [19] np (fun g ov wr => ∃ (done : List Nat) (outL : List (List Nat)) (kk : Nat) (wt : Nat → Nat) (hv : Value) (hl : List Nat), g + done.length = np ∧ Hd (outL = done.reverse.map fun q => Tj.nodesOf p.n P q) ∧ Hd (Below w.heap.size w wr) ∧ Hd (p.B ≤ wr.heap.size) ∧ Hd (HpA wr (FinL p sv (.slice pp np cpp) pvs (partsI p.n np P) cnt idx low P stk ++ [oI p.B 3 (full gw m) (cellsF m wt), oR p.B (full gu m) us (usR P m (Tj.pairs nxs p.n)), oI p.B 3 (.slice none 0 0) [], oI p.B 3 (.slice none 0 0) [], oI p.B 44 ov (done.reverse.map fun q => pvs.getD (q - 1) undef)]) 10 11 7 p.B hb hv (.slice pp np cpp) pvs (partsI p.n np P) key hl) ∧ Hd (Tj.Kh p.n nxs np P done [] wt hl) ∧ Hd (Tj.HeapO key hl hl.length) ∧ Hd (Tj.Got p.n (fun u x => (Tj.heads (Tj.waysOf p.n nxs [u])).contains x) P done outL kk))
                case atStart => exact ⟨[], [], p.n, _, hv, hl, by simp, ⟨rfl⟩, HB1, HBs, HH, HKh, HO, HGot⟩
                case round =>
                  clear HB1 HBs HH HKh HO HGot hv hl
                  obtain ⟨done, outL, kk, wt, hv, hl, hg, HOut, HK, HBs, HM, HKh, HO, HGot⟩ := hrel
                  have HGk := Hd.mk hg
                  clear hg
                  obtain ⟨ol, hol⟩ : ∃ ol, (done.reverse.map fun q => pvs.getD (q - 1) undef) = ol := ⟨_, rfl⟩
                  rw [hol] at HM
                  have HOl := Hd.mk hol
                  clear hol
                  obtain ⟨hva, hvc, hhv⟩ := HM.out.own.slice'
                  rw [List.length_map] at hhv
                  subst hhv
                  have c0 := HM.out.var.1.at (j := 0) rfl
                  have ml := m_len hb hl.length hvc hva wr c0
                  have HL := Hd.mk (flen_any wr hva hl.length hvc)
                  rcases hcs : hl with _ | ⟨h0, hr⟩
                  · subst hcs
                    go_wp2_with fail
                    refine HL.out.mono ?_
                    rintro e w2 ⟨rfl, rfl⟩
                    go_wp2
                    go_ret
                    have hnone := HKh.out.none (R := fun u x => (Tj.heads (Tj.waysOf p.n nxs [u])).contains x) (fun u x _ h => HQ.out.2.1 u x h) HScc.out HReach.out
                    have hstop := HGot.out.stop hnone
                    have h12 := HM.out.sep.own 12 rfl
                    have hap := HM.out.sep.rows_apart 7 12 rfl rfl (by decide)
                    rw [← HOl.out] at h12
                    have hrows := out_rows (qs := done.reverse) HM.out.parts h12 hap (fun q hq => by
                      have := HKh.out.rng q (List.mem_reverse.1 hq)
                      rw [HPl.out]; exact this) ((List.reverse_perm _).nodup_iff.2 HKh.out.dn)
                    have hst : Tj.greedy n (fun u x => (Tj.heads (Tj.waysOf n (nx n arcs) [u])).contains x) n (fun _ => false) = done.reverse.map fun q => Tj.nodesOf p.n P q := by
                      rw [← HOut.out, ← hstop, ← HNX.out, HPp.out.1]
                    have hpo := parts_out p.n np P done.reverse (fun q hq => HKh.out.rng q (List.mem_reverse.1 hq))
                    have hfin := hrows.down (B' := w.heap.size) (by rw [HBB.out]; exact HB.out.size)
                    rw [hpo, ← hst] at hfin
                    exact ⟨_, _, rfl, hfin, HK.out⟩
                  · have hpos : hl.length = hr.length + 1 := by rw [hcs]; rfl
                    obtain ⟨n', hn'⟩ : ∃ n', hr.length = n' := ⟨_, rfl⟩
                    rw [hn'] at hpos
                    have hgt : decide ((0 : Int) < (hl.length : Int)) = true := by simp; omega
                    have hgt2 : (0 : Int) < (hl.length : Int) := by omega
                    obtain ⟨j, hj⟩ : ∃ j, hl.getD 0 0 = j := ⟨_, rfl⟩
                    have hjm : j ∈ hl := by rw [← hj]; exact getD_mem (by omega)
                    have hjn : j < np := ((HKh.out.heap j).1 hjm).1
                    have HPo := Hd.mk (hpop_any wr _ hl n' HM.out HO.out HBs.out hpos)
                    rw [hj] at HPo
                    have HMin : Hd (∀ i, i ∈ hl → Tj.headN (Tj.nodesOf p.n P (j + 1)) ≤ Tj.headN (Tj.nodesOf p.n P (i + 1))) := ⟨fun i hi => by
                      obtain ⟨x, hx, e⟩ := List.getElem_of_mem hi
                      have h1 := HO.out.least x hx
                      unfold Tj.kx at h1
                      rw [hj, List.getD_eq_getElem?_getD, List.getElem?_eq_getElem hx, Option.getD_some, e] at h1
                      rw [← HKey.out.1, ← HKey.out.1]; exact h1⟩
                    have HJn := Hd.mk (And.intro hjn hjm)
                    obtain ⟨r, hr2⟩ := HKey.out.2 j hjn
                    obtain ⟨gj, cj, e1, _⟩ := part_key HM.out.parts hr2
                    obtain ⟨mj, hmj⟩ : ∃ mj, r.length + 1 = mj := ⟨_, rfl⟩
                    rw [hmj] at e1
                    have hta : ∀ w' : World, (Instr.typeAssert (.iface 44 (.slice (some ⟨gj, 0, none⟩) mj cj)) 20 44 false).run Try.prog w' = .ok (.slice (some ⟨gj, 0, none⟩) mj cj) w' := fun w' => by simp [Instr.typeAssert, run_underlying Try.underlying44, go_sem, Result.andThen]
                    rw [e1] at HPo
                    have HE1 := Hd.mk (And.intro e1 (And.intro hr2 hmj))
                    have hmj0 : 0 < mj := by omega
                    clear hn' hj hjm hjn e1 hr2 hmj hpos hcs
                    go_wp2_with fail
                    refine HL.out.mono ?_
                    rintro e w2 ⟨rfl, rfl⟩
                    go_wp2_with fail
                    refine HPo.out.mono ?_
                    rintro e w2 ⟨rfl, hv2, hl2, h2, hp2, ho2, hb2⟩
                    obtain ⟨hpk, hpt, _, hkh2⟩ := HKh.out.pick (R := fun u x => (Tj.heads (Tj.waysOf p.n nxs [u])).contains x) (fun u x _ h => HQ.out.2.1 u x h) HScc.out HReach.out hp2 HMin.out
                    obtain ⟨kk2, hgot2⟩ := HGot.out.next HScc.out hpk hpt HRefl.out
                    have HKh2 := Hd.mk hkh2
                    have HGot2 := Hd.mk hgot2
                    have HO2 := Hd.mk ho2
                    have HK2 : Hd (Below w.heap.size w w2) := ⟨HK.out.trans (hb2.mono (by rw [HBB.out]; exact HB.out.size))⟩
                    have HBs2 : Hd (p.B ≤ w2.heap.size) := ⟨Nat.le_trans HBs.out hb2.size⟩
                    have HOw := Hd.mk (h2.sep.own 12 rfl)
                    have HM2 := Hd.mk h2
                    have HOll : Hd (ol.length ≤ 262144) := ⟨by have := HGk.out; rw [← HOl.out, List.length_map, List.length_reverse]; omega⟩
                    obtain ⟨i0, hi0, hz0, hz1, hz2⟩ := info_parts infoInts
                    have HI0 := Hd.mk (And.intro hi0 (And.intro hz0 (And.intro hz1 hz2)))
                    clear hkh2 hgot2 ho2 hb2 h2 hp2 hpk hpt HPo HL c0 ml hi0 hz0 hz1 hz2 HM HK HBs HO HKh HGot HMin
                    go_wp2_with (at_builtin; refine wp_app1 rfl _ _ 51 rfl 44 Try.underlying51 HI0.out.1 HI0.out.2.1 HI0.out.2.2.1 HI0.out.2.2.2 rfl u19 ol _ w2 rfl HOw.out rfl rfl (by have := HOll.out; unfold maxLen; omega) (by have := HOll.out; omega) HBs2.out ?_)
                    intro ov4 w4 h1 h2 h3
                    obtain ⟨p4, d4, hov⟩ := h1.slice'
                    have hDone : ol ++ [.slice (some ⟨gj, 0, none⟩) mj cj] = ((j + 1) :: done).reverse.map fun q => pvs.getD (q - 1) undef := by
                      rw [List.reverse_cons, List.map_append, HOl.out]
                      simp only [List.map_cons, List.map_nil, Nat.add_sub_cancel]
                      rw [HE1.out.1]
                    rw [hDone] at h1
                    have hS4 := HM2.out.sep.put_own 12 rfl h2 h1 (h3.imp_right .inr)
                    have HM4 : Hd (HpA w4 (FinL p sv (.slice pp np cpp) pvs (partsI p.n np P) cnt idx low P stk ++ [oI p.B 3 (full gw m) (cellsF m wt), oR p.B (full gu m) us (usR P m (Tj.pairs nxs p.n)), oI p.B 3 (.slice none 0 0) [], oI p.B 3 (.slice none 0 0) [], oI p.B 44 ov4 (((j + 1) :: done).reverse.map fun q => pvs.getD (q - 1) undef)]) 10 11 7 p.B hb hv2 (.slice pp np cpp) pvs (partsI p.n np P) key hl2) := ⟨⟨hS4, by decide, by decide, by decide, by simp [FinL], by simp [FinL], rfl, HM2.out.big, HM2.out.keys⟩⟩
                    have HK4 : Hd (Below w.heap.size w w4) := ⟨HK2.out.trans (h2.below HK2.out.size (fun g hg hr => by have h5 := (HOw.out.lt hr).1; have h6 := HBB.out; have h7 := HB.out.size; omega))⟩
                    have HBs4 : Hd (p.B ≤ w4.heap.size) := ⟨Nat.le_trans HBs2.out h2.size⟩
                    clear h1 h2 h3 hS4 hDone hov HM2 HK2 HBs2 HOw
                    -- the users of the part
                    obtain ⟨f1, f2⟩ := Tj.first_is HScc.out (p := j + 1) (by omega) (by have := HJn.out.1; omega)
                    rw [← HKey.out.1] at f1 f2
                    have hj1 : j + 1 < m := by have := HMm.out; have := HJn.out.1; omega
                    have f4 := (Fin.cells (X := _) HM4.out.sep).f4
                    have cp := (Fin.prtAt (X := _) HM4.out.sep f1).1
                    rw [f2] at cp
                    obtain ⟨gj', cj', e1', ck⟩ := part_key HM4.out.parts HE1.out.2.1
                    have hgj : gj' = gj := by
                      rw [HE1.out.1] at e1'
                      injection e1' with e1' _ _
                      injection e1' with e1'
                      injection e1' with e1' _ _
                      exact e1'.symm
                    rw [hgj] at ck
                    obtain ⟨uu, huu, cuu, _, hOuu, _⟩ := (show RowsO w4 p.B (.slice (some ⟨gu, 0, none⟩) m m) us (usR P m (Tj.pairs nxs p.n)) from HM4.out.sep.rows 9 rfl).at (j := j + 1) (by simpa [usR] using hj1)
                    have hus : (usR P m (Tj.pairs nxs p.n))[j + 1]'(by simpa [usR] using hj1) = intL (Tj.usL P (Tj.pairs nxs p.n) (j + 1)) := by simp [usR]
                    rw [hus, ints_intL] at hOuu
                    obtain ⟨U, hU⟩ : ∃ U, Tj.usL P (Tj.pairs nxs p.n) (j + 1) = U := ⟨_, rfl⟩
                    rw [hU] at hOuu HKh2
                    obtain ⟨pU, cU, huu2⟩ := hOuu.slice'
                    rw [show (intC U).length = U.length by simp [intC]] at huu2
                    subst huu2
                    obtain ⟨M, hM⟩ : ∃ M, U.length = M := ⟨_, rfl⟩
                    rw [hM] at cuu huu
                    have HUU := Hd.mk (And.intro huu (And.intro hU hM))
                    have hMl : M ≤ 600000000 := by
                      have h1 := usL_len P (Tj.pairs nxs p.n) (j + 1)
                      have h2 := pairs_len HQ.out.2.2.1 p.n
                      have h4 : p.n * 262144 ≤ 1000 * 262144 := Nat.mul_le_mul_right _ hn2
                      rw [hU, hM] at h1; omega
                    clear e1' hgj huu hus hOuu hU hM f2
                    have hjc : ((j + 1 : Nat) : Int) = (j : Int) + 1 := by omega
                    go_upto_region 35 with (fail)
                    go_quiet (fail)
                    revert nq; intro q1
                    have hDN : Below w4.heap.size w4 (w4.drewN q1) := ((Keeps.refl (fun _ => False) w4).drewN q1).below (Nat.le_refl _) (fun _ _ h => h)
                    have HM5 := Hd.mk (HM4.out.below hDN)
                    have HK5 : Hd (Below w.heap.size w (w4.drewN q1)) := ⟨HK4.out.trans (hDN.mono HK4.out.size)⟩
                    have HBs5 : Hd (p.B ≤ (w4.drewN q1).heap.size) := ⟨HBs4.out⟩
                    clear hDN HM4 HK4 HBs4 f4 cp ck cuu
                    generalize w4.drewN q1 = w5 at HM5 HK5 HBs5 ⊢
                    go_wp2
                    go_loopw [148] (fun iv wx => ∃ (i : Nat) (wt : Nat → Nat) (hv : Value) (hl : List Nat), i ≤ M ∧ iv = .int .i64 (i : Int) ∧ Hd (Below w.heap.size w wx) ∧ Hd (p.B ≤ wx.heap.size) ∧ Hd (HpA wx (FinL p sv (.slice pp np cpp) pvs (partsI p.n np P) cnt idx low P stk ++ [oI p.B 3 (full gw m) (cellsF m wt), oR p.B (full gu m) us (usR P m (Tj.pairs nxs p.n)), oI p.B 3 (.slice none 0 0) [], oI p.B 3 (.slice none 0 0) [], oI p.B 44 ov4 (((j + 1) :: done).reverse.map fun q => pvs.getD (q - 1) undef)]) 10 11 7 p.B hb hv (.slice pp np cpp) pvs (partsI p.n np P) key hl) ∧ Hd (Tj.Kh p.n nxs np P ((j + 1) :: done) (U.drop i) wt hl) ∧ Hd (Tj.HeapO key hl hl.length)) (fun iv _ => M - (intOf iv).toNat)
                    case atStart => exact ⟨0, wt, hv2, hl2, Nat.zero_le _, rfl, HK5, HBs5, HM5, HKh2, HO2⟩
                    case round =>
                      clear HK5 HBs5 HM5 HKh2 HO2
                      obtain ⟨i, wt, hv, hl, hi, rfl, HK, HBs, HM, HKh, HO⟩ := hrel
                      by_cases hlti : i < M
                      · have hd3 : decide ((i : Int) < (M : Int)) = true := by simp; omega
                        have hmi : M - (intOf (.int .i64 ((i : Int) + 1))).toNat < M - (intOf (.int .i64 (i : Int))).toNat := by simp [intOf]; omega
                        have hil : i < U.length := by rw [HUU.out.2.2]; exact hlti
                        obtain ⟨x, hx⟩ : ∃ x, U[i] = x := ⟨_, rfl⟩
                        have hdrop : U.drop i = x :: U.drop (i + 1) := by rw [← hx]; exact List.drop_eq_getElem_cons hil
                        have hkh := HKh.out
                        rw [hdrop] at hkh
                        obtain ⟨hx1, hx2, hx3⟩ := hkh.us x List.mem_cons_self
                        obtain ⟨hw1, hkh2⟩ := hkh.one
                        have hOu := (HM.out.sep.rows 9 rfl).each (j + 1) _ _ HUU.out.1 (usR_at (show j + 1 < m from hj1))
                        rw [HUU.out.2.1, ints_intL] at hOu
                        obtain ⟨gU, hgU⟩ : ∃ gU, pU = some ⟨gU, 0, none⟩ := by
                          obtain ⟨g, c', e⟩ := hOu.slice (by simp [intC]; omega)
                          injection e with e1 _ _
                          exact ⟨g, e1⟩
                        subst hgU
                        have cx := (hOu.at (intC_at hil)).1
                        rw [hx] at cx
                        have hxm : x < m := by have := HMm.out; omega
                        obtain ⟨c, hc⟩ : ∃ c, wt x = c := ⟨_, rfl⟩
                        obtain ⟨cw0, cw1⟩ := (HM.out.sep.own 8 rfl).at (cellsF_at (f := wt) hxm)
                        rw [hc] at cw0 hw1 hkh2
                        obtain ⟨d, hd⟩ : ∃ d, c - 1 = d := ⟨_, rfl⟩
                        rw [hd] at hkh2
                        have hcd : (c : Int) - 1 = (d : Int) := by omega
                        have hcb : c ≤ 600000000 + 600000000 := by
                          have h1 := HKh.out.wts x
                          have h2 : Tj.cntD P (Tj.pairs nxs p.n) ((j + 1) :: done) x ≤ (Tj.pairs nxs p.n).length := List.countP_le_length
                          have h3 : (U.drop i).count x ≤ (U.drop i).length := List.count_le_length
                          have h4 := pairs_len HQ.out.2.2.1 p.n
                          have h5 : p.n * 262144 ≤ 1000 * 262144 := Nat.mul_le_mul_right _ hn2
                          have h6 := HUU.out.2.2
                          simp only [List.length_drop] at h3
                          omega
                        have hcw : IntKind.i64.wrap (d : Int) = (d : Int) := IntWalk.i64_in _ (by omega)
                        have hset0 := HM.out.sep.set_own 8 rfl x (.int .i64 (d : Int))
                        rw [cellsF_set hxm] at hset0
                        have HM2 : Hd (HpA (wr.setCell ⟨gw, x, none⟩ (.int .i64 (d : Int))) (FinL p sv (.slice pp np cpp) pvs (partsI p.n np P) cnt idx low P stk ++ [oI p.B 3 (full gw m) (cellsF m (Tj.upd wt x d)), oR p.B (full gu m) us (usR P m (Tj.pairs nxs p.n)), oI p.B 3 (.slice none 0 0) [], oI p.B 3 (.slice none 0 0) [], oI p.B 44 ov4 (((j + 1) :: done).reverse.map fun q => pvs.getD (q - 1) undef)]) 10 11 7 p.B hb hv (.slice pp np cpp) pvs (partsI p.n np P) key hl) := ⟨⟨hset0, by decide, by decide, by decide, by simp [FinL], by simp [FinL], rfl, HM.out.big, HM.out.keys⟩⟩
                        have HK2 : Hd (Below w.heap.size w (wr.setCell ⟨gw, x, none⟩ (.int .i64 (d : Int)))) := ⟨HK.out.trans (((Keeps.refl (fun g => p.B ≤ g) wr).setCell (p := ⟨gw, x, none⟩) (.inr ((HM.out.sep.own 8 rfl).lt rfl).1) _).below HK.out.size (fun k h1 h2 => by have h3 := HBB.out; have h4 := HB.out.size; omega))⟩
                        have HBs2 : Hd (p.B ≤ (wr.setCell ⟨gw, x, none⟩ (.int .i64 (d : Int))).heap.size) := ⟨by simpa using HBs.out⟩
                        have HKh3 := Hd.mk hkh2
                        have HX := Hd.mk (And.intro hx1 (And.intro hx2 hx3))
                        have hxp : 0 < x := by omega
                        have hxn : x ≤ np := hx2
                        clear hkh hkh2 hx1 hx2 hx3 hdrop hx hOu hil hc hd hw1 hset0 hcb
                        go_upto_region 39 with (fail)
                        generalize wr.setCell ⟨gw, x, none⟩ (.int .i64 (d : Int)) = w6 at HM2 HK2 HBs2 ⊢
                        clear HM HK HBs HKh cw0 cw1 cx
                        have cw2 := ((HM2.out.sep.own 8 rfl).at (cellsF_at (f := Tj.upd wt x d) hxm)).1
                        rw [show Tj.upd wt x d x = d by simp [Tj.upd]] at cw2
                        by_cases hd0 : d = 0
                        · subst hd0
                          have cw3 : w6.cell? ⟨gw, x, none⟩ = some (.int .i64 0) := cw2
                          clear cw2
                          obtain ⟨gq, hgq⟩ : ∃ gq, pp = some ⟨gq, 0, none⟩ := by
                            obtain ⟨g, c, e⟩ := HM2.out.parts.own.slice (by rw [HPl.out]; omega)
                            injection e with e _ _
                            exact ⟨g, e⟩
                          subst hgq
                          have hx1n : x - 1 < np := by omega
                          obtain ⟨u, hu, cu, _, _, _⟩ := HM2.out.parts.at (j := x - 1) (by simpa [partsI] using hx1n)
                          obtain ⟨r, hr⟩ := HKey.out.2 (x - 1) hx1n
                          obtain ⟨gi, ci, e1, _⟩ := part_key HM2.out.parts hr
                          have hue : u = .slice (some ⟨gi, 0, none⟩) (r.length + 1) ci := by
                            rw [List.getD_eq_getElem?_getD, hu, Option.getD_some] at e1; exact e1
                          obtain ⟨y, hy⟩ : ∃ y, r.length + 1 = y := ⟨_, rfl⟩
                          rw [hy] at e1 hue
                          rw [hue] at cu
                          have f5 := (Fin.cells (X := _) HM2.out.sep).f5
                          have hk1 : IntKind.i64.wrap ((x : Int) - 1) = ((x - 1 : Nat) : Int) := by rw [IntWalk.i64_in _ (by omega)]; omega
                          have hk2 : (x : Int) - 1 = ((x - 1 : Nat) : Int) := by omega
                          have hk3 : IntKind.i64.wrap ((x - 1 : Nat) : Int) = ((x - 1 : Nat) : Int) := by rw [IntWalk.i64_in _ (by omega)]
                          have hnh : x - 1 ∉ hl := fun hm => by
                            have h1 := HKh3.out.nd
                            simp only [if_true] at h1
                            exact (List.nodup_cons.1 h1).1 hm
                          have hlb : hl.length + 1 ≤ 262144 := by
                            have h1 := HKh3.out.nd
                            simp only [if_true] at h1
                            have h2 := HKh3.out.heap
                            simp only [if_true] at h2
                            have := Tj.nodup_le (n := np) h1 (fun i hi => ((h2 i).1 hi).1)
                            simp at this
                            omega
                          have HPu := Hd.mk (hpush_any w6 hv hl (x - 1) HM2.out HO.out HBs2.out ⟨r, hr⟩ hlb)
                          rw [e1] at HPu
                          obtain ⟨x1, hx1e⟩ : ∃ x1, x - 1 = x1 := ⟨_, rfl⟩
                          rw [hx1e] at hk1 hk2 hk3 cu hx1n HPu
                          have HX1 := Hd.mk hx1e
                          clear hu hr hue hy e1 hnh hx1e
                          go_wp2_with fail
                          refine HPu.out.mono ?_
                          rintro e w7 ⟨rfl, hv7, hl7, h7, hp7, ho7, hb7⟩
                          have HM7 := Hd.mk h7
                          have HK7 : Hd (Below w.heap.size w w7) := ⟨HK2.out.trans (hb7.mono (by rw [HBB.out]; exact HB.out.size))⟩
                          have HBs7 : Hd (p.B ≤ w7.heap.size) := ⟨Nat.le_trans HBs2.out hb7.size⟩
                          have HO7 := Hd.mk ho7
                          have HKh7 : Hd (Tj.Kh p.n nxs np P ((j + 1) :: done) (U.drop (i + 1)) (Tj.upd wt x 0) hl7) := ⟨by
                            have h1 := HKh3.out
                            simp only [if_true] at h1
                            rw [HX1.out] at h1
                            exact h1.perm hp7.symm⟩
                          clear h7 hp7 ho7 hb7 HPu cw3 cu f5
                          go_wp2
                          exact ⟨⟨i + 1, _, hv7, hl7, hlti, by go_num, HK7, HBs7, HM7, HKh7, HO7⟩, hmi⟩
                        · have hd4 : ¬ (d : Int) = 0 := by omega
                          have HKh7 : Hd (Tj.Kh p.n nxs np P ((j + 1) :: done) (U.drop (i + 1)) (Tj.upd wt x d) hl) := ⟨by
                            have h1 := HKh3.out
                            rw [if_neg hd0] at h1
                            exact h1⟩
                          go_wp2
                          exact ⟨⟨i + 1, _, hv, hl, hlti, by go_num, HK2, HBs2, HM2, HKh7, HO⟩, hmi⟩
                      · have hd3 : decide ((i : Int) < (M : Int)) = false := by simp; omega
                        have hiM : U.drop i = [] := List.drop_eq_nil_of_le (by rw [HUU.out.2.2]; omega)
                        have HKh8 := HKh.out
                        rw [hiM] at HKh8
                        have HKh9 := Hd.mk HKh8
                        clear HKh8 hiM
                        go_wp2
                        have HDl : Hd (done.length + 1 ≤ np) := ⟨by have := Tj.done_lt HKh9.out; simpa using this⟩
                        go_roundg (np - (done.length + 1))
                        case measure => have := HGk.out; have h2 := HDl.out; omega
                        case rel =>
                          refine ⟨(j + 1) :: done, outL ++ [Tj.nodesOf p.n P (j + 1)], kk2, wt, hv, hl, ?_, ⟨by rw [HOut.out]; simp⟩, HK, HBs, HM, HKh9, HO, HGot2⟩
                          have := HGk.out
                          have h2 := HDl.out
                          simp only [List.length_cons]; omega

end Go.Proofs.Ytmgkoocpnakanaa.W
