import Derived.Test.YtmgkoocpnakanaaFen
import Derived.Test.YtmgkoocpnakanaaRep
import Derived.Test.YtmgkoocpnakanaaPt
/-
  graph.search: what stands before each node. No program.
-/
namespace Go.Proofs.Ytmgkoocpnakanaa.W
open Go.RowKit
set_option linter.unusedVariables false

/-- the node before u on the way that is kept (u itself where the way begins), or -1 -/
def befI (ws : List (List Nat)) (u : Nat) : Int := match ws.find? (fun l => Tj.headN l == u) with
  | none => -1
  | some l => ((l.getD 1 u : Nat) : Int)
def befC (n : Nat) (ws : List (List Nat)) : List Value := (List.range n).map fun u => .int .i64 (befI ws u)

theorem befC_len (n : Nat) (ws : List (List Nat)) : (befC n ws).length = n := by simp [befC]
theorem befC_at {n : Nat} {ws : List (List Nat)} {u : Nat} (hu : u < n) : (befC n ws)[u]? = some (.int .i64 (befI ws u)) := by simp [befC, hu]
theorem befC_nil (n : Nat) : befC n [] = List.replicate n (.int .i64 (-1)) := by
  apply List.ext_getElem <;> simp [befC, befI]

theorem find_head {ws : List (List Nat)} {u : Nat} (h : u ∉ Tj.heads ws) : ws.find? (fun l => Tj.headN l == u) = none :=
  List.find?_eq_none.2 (fun l hl e => h (Tj.mem_heads.2 ⟨l, hl, by simpa using e⟩))
theorem find_some {ws : List (List Nat)} {u : Nat} (h : u ∈ Tj.heads ws) : ∃ l, ws.find? (fun l => Tj.headN l == u) = some l ∧ l ∈ ws ∧ Tj.headN l = u := by
  rcases hf : ws.find? (fun l => Tj.headN l == u) with _ | l
  · obtain ⟨l, hl, e⟩ := Tj.mem_heads.1 h
    have := List.find?_eq_none.1 hf l hl
    simp [e] at this
  · exact ⟨l, rfl, List.mem_of_find?_eq_some hf, by have := List.find?_some hf; simpa using this⟩
theorem befI_neg {ws : List (List Nat)} {u : Nat} : befI ws u < 0 ↔ u ∉ Tj.heads ws := by
  unfold befI
  constructor
  · intro h hm
    obtain ⟨l, e, _, _⟩ := find_some hm
    rw [e] at h
    simp only [] at h
    omega
  · intro h
    rw [find_head h]
    show (-1 : Int) < 0
    omega

/-- one more found -/
theorem befI_add {ws : List (List Nat)} {w : Nat} {l : List Nat} (h : w ∉ Tj.heads ws) (u : Nat) : befI (ws ++ [w :: l]) u = if u = w then ((l.getD 0 w : Nat) : Int) else befI ws u := by
  unfold befI
  rw [List.find?_append]
  by_cases e : u = w
  · subst e
    rw [if_pos rfl, find_head h]
    simp [Tj.headN]
  · rw [if_neg e]
    rcases ws.find? (fun l => Tj.headN l == u) with _ | m
    · have : ¬ w = u := fun h => e h.symm
      simp [Tj.headN, this]
    · simp
theorem befC_set {n : Nat} {ws : List (List Nat)} {w : Nat} {l : List Nat} (h : w ∉ Tj.heads ws) (hw : w < n) : (befC n ws).set w (.int .i64 ((l.getD 0 w : Nat) : Int)) = befC n (ws ++ [w :: l]) := by
  apply List.ext_getElem
  · simp [befC]
  · intro j h1 h2
    rw [List.getElem_set]
    simp only [befC, List.getElem_map, List.getElem_range, befI_add h]
    by_cases e : w = j
    · subst e; simp
    · have : ¬ j = w := fun h => e h.symm
      rw [if_neg e, if_neg this]

/-- the roots that are nodes, ascending, each once -/
def rtsOf (n : Nat) (L : List Int) : List Nat := (L.filter fun x => decide (0 ≤ x) && decide (x < (n : Int))).map Int.toNat
theorem rtsOf_step {n : Nat} {L : List Int} {k : Nat} (hk : k < L.length) : rtsOf n (L.take (k + 1)) = if 0 ≤ L[k] ∧ L[k] < (n : Int) then rtsOf n (L.take k) ++ [L[k].toNat] else rtsOf n (L.take k) := by
  have e : L.take (k + 1) = L.take k ++ [L[k]] := by rw [List.take_add_one, List.getElem?_eq_getElem hk]; rfl
  unfold rtsOf
  rw [e, List.filter_append, List.map_append, List.filter_cons]
  by_cases h : 0 ≤ L[k] ∧ L[k] < (n : Int)
  · rw [if_pos h, if_pos (by simp [h.1, h.2])]; rfl
  · rw [if_neg h, if_neg (by simp; omega)]; simp
theorem mem_rtsOf {n : Nat} {L : List Int} {u : Nat} : u ∈ rtsOf n L ↔ u < n ∧ (u : Int) ∈ L := by
  simp only [rtsOf, List.mem_map, List.mem_filter, Bool.and_eq_true, decide_eq_true_eq]
  constructor
  · rintro ⟨x, ⟨h1, h2, h3⟩, rfl⟩
    exact ⟨by omega, by rw [Int.toNat_of_nonneg h2]; exact h1⟩
  · rintro ⟨h1, h2⟩
    exact ⟨(u : Int), ⟨h2, by omega, by omega⟩, by simp⟩
theorem rtsOf_asc {n : Nat} {L : List Int} (h : L.Pairwise (· < ·)) : (rtsOf n L).Pairwise (· < ·) := by
  unfold rtsOf
  rw [List.pairwise_map]
  refine List.Pairwise.imp_of_mem (fun {a b} ha hb hab => ?_) (h.filter _)
  have h1 := (List.mem_filter.1 ha).2
  have h2 := (List.mem_filter.1 hb).2
  simp only [Bool.and_eq_true, decide_eq_true_eq] at h1 h2
  omega
theorem heads_one (l : List Nat) : Tj.heads (l.map ([·])) = l := by simp [Tj.heads, Tj.headN, Function.comp_def]
theorem heads_app (a b : List (List Nat)) : Tj.heads (a ++ b) = Tj.heads a ++ Tj.heads b := by simp [Tj.heads]
theorem bfs_end (nx : Nat → List Nat) (k i : Nat) (ws : List (List Nat)) (h : ws.length ≤ i) : Tj.bfs nx k i ws = ws := by
  cases k with
  | zero => rfl
  | succ k => unfold Tj.bfs; rw [List.getElem?_eq_none h]

end Go.Proofs.Ytmgkoocpnakanaa.W

/-
  graph.search.
-/
namespace Go.Proofs.Ytmgkoocpnakanaa.W
open Go.RowKit
set_option linter.unusedVariables false

/-- a copy of a row of ints -/
theorem clone_any (w : World) (v : Value) (ks : List Int) (hl : ks.length ≤ 1000000) (hR : Rw 1 intE w v ks) :
    Calls Try.prog 49 #[v] w fun e w' => ∃ v', e = .returned v' ∧ Own w' w.heap.size 3 v' (ints ks) ∧ Below w.heap.size w w' := by
  rcases hR.is with ⟨rfl, rfl | ⟨a, c, rfl⟩⟩ | ⟨g, o, cap, rfl, hg, hc⟩
  · exact (Try.slices_Clone_int_nil 0 0 w).mono fun e w' ⟨he, hw⟩ => ⟨_, he, Own.nil _ _ _, hw ▸ Below.refl _ _⟩
  · exact (Try.slices_Clone_int_zero a c w).mono fun e w' ⟨v', he, hO, _, hb⟩ => ⟨_, he, Own.of_row hO, hb⟩
  · refine (Try.slices_Clone_int g o ks.length cap ks w (Nat.le_refl _) (by omega) (fun j hj => ?_)).mono fun e w' ⟨v', he, hO, _, hb⟩ => ⟨_, he, ?_, hb⟩
    · obtain ⟨cs, _, rfl, h3⟩ := hc j _ (List.getElem?_eq_getElem hj)
      have := h3 0 _ rfl
      rw [Nat.mul_one, Nat.add_zero] at this
      rw [this]
      simp [List.getD_eq_getElem?_getD, hj]
    · rw [List.take_length] at hO
      exact Own.of_row hO

def wavesOf (n : Nat) (arcs : List Arc) (roots : List Int) : List (List Nat) := Tj.waysOf n (nx n arcs) (rtsOf n (norm roots))

set_option maxHeartbeats 4000000 in
set_option maxRecDepth 100000 in
theorem search_any (w : World) (n : Nat) (hn : n ≤ 1000) (v rv : Value) (arcs : List Arc) (roots : List Int) (hR : Rw 2 Arc.E w v arcs) (hl : arcs.length ≤ 1000000) (hr : rightB (n : Int) arcs = true) (hRr : Rw 1 intE w rv roots) (hrl : roots.length ≤ 1000000) :
    Calls Try.prog 33 #[.int .i64 n, v, rv] w fun e w' => ∃ v', e = .returned v' ∧ Own w' w.heap.size 3 v' (befC n (wavesOf n arcs roots)) ∧ Below w.heap.size w w' := by
  have hf : ∀ a ∈ arcs, 0 ≤ a.f ∧ a.f < (n : Int) := fun a ha => by
    have h := hr
    simp only [rightB, Bool.and_eq_true, List.all_eq_true, nodeB, decide_eq_true_eq] at h
    exact (h.2 a ha).1
  have hnl := nextI_rows hr
  have HG := Hd.mk (fun (w' : World) (hb : Below w.heap.size w w') => gnext_any w' n (by omega) v arcs (hR.below Arc.stays hb) hl hf)
  have HCl := Hd.mk (fun (w' : World) (hb : Below w.heap.size w w') => clone_any w' rv roots hrl (hRr.below intE_stays hb))
  obtain ⟨N, hN⟩ : ∃ N, nextI n arcs = N := ⟨_, rfl⟩
  rw [hN] at HG hnl
  have HN := Hd.mk hnl
  have HRp := Hd.mk (repeat_any (w.alloc (.cells #[.int .i64 (-1)] 3)) w.heap.size n (by omega) (by simp [go_sem]))
  have HB0 := Hd.mk (below_al w (.cells #[.int .i64 (-1)] 3))
  clear hR hr hRr hf hnl hN
  go_enter Try.func33, Try.ntmps33
  go_wp2_with fail
  refine HRp.out.mono ?_
  rintro e w1 ⟨bv, rfl, hbo, hb1⟩
  have HBo := Hd.mk (hbo.down (B' := w.heap.size) (by simp))
  have HB1 := Hd.mk (HB0.out.trans (hb1.mono (by simp)))
  clear hbo hb1 HRp HB0
  go_wp2_with fail
  have HBlt : Hd (∀ g, bv.ownBlock = some g → w.heap.size ≤ g ∧ g < w1.heap.size) := ⟨fun g hg => HBo.out.lt hg⟩
  refine (HCl.out w1 HB1.out).mono ?_
  rintro e w2 ⟨lv, rfl, hlo, hb2⟩
  have HLo := Hd.mk hlo
  have HB2 := Hd.mk (HB1.out.trans (hb2.mono HB1.out.size))
  have HBo2 := Hd.mk (HBo.out.below hb2)
  have HSz2 : Hd (w.heap.size ≤ w1.heap.size ∧ w1.heap.size ≤ w2.heap.size) := ⟨⟨HB1.out.size, hb2.size⟩⟩
  clear hlo hb2 HB1 HBo HCl
  have HSo := Hd.mk (sort_own w2 w1.heap.size lv roots hrl HLo.out)
  go_wp2_with fail
  refine HSo.out.mono ?_
  rintro e w3 ⟨rfl, hO3, hk3⟩
  have HBo3 := Hd.mk (HBo2.out.keeps hk3 (fun g hg hs => by have h1 := (HLo.out.lt hs).1; have h2 := (HBlt.out g hg).2; omega))
  have HB3 : Hd (Below w.heap.size w w3) := ⟨HB2.out.trans (hk3.below HB2.out.size (fun k h1 h2 => by have h3 := (HLo.out.lt h2).1; have h4 := HSz2.out.1; omega))⟩
  have HCo := Hd.mk (compact_own2 w3 w1.heap.size lv _ (by rw [List.length_mergeSort]; exact hrl) hO3)
  clear hO3 hk3 HSo HBo2 HB2
  go_wp2_with fail
  refine HCo.out.mono ?_
  rintro e w4 ⟨cv, rfl, hO4, hcb, hk4⟩
  have HBo4 := Hd.mk (HBo3.out.keeps hk4 (fun g hg hs => by have h1 := (HLo.out.lt hs).1; have h2 := (HBlt.out g hg).2; omega))
  have HB4 : Hd (Below w.heap.size w w4) := ⟨HB3.out.trans (hk4.below HB3.out.size (fun k h1 h2 => by have h3 := (HLo.out.lt h2).1; have h4 := HSz2.out.1; omega))⟩
  obtain ⟨L, hL⟩ : ∃ L, norm roots = L := ⟨_, rfl⟩
  have hLs := norm_sorted roots
  rw [hL] at hLs
  have hO4' : Own w4 w1.heap.size 3 cv (ints L) := by rw [← hL]; exact hO4
  have hLl : L.length ≤ 1000000 := by
    rw [← hL]; exact Nat.le_trans (compact_len _) (by rw [List.length_mergeSort]; exact hrl)
  obtain ⟨pc, cc, hcv⟩ := hO4'.slice'
  obtain ⟨pb, cb, hbv⟩ := HBo4.out.slice'
  obtain ⟨M, hM⟩ : ∃ M, L.length = M := ⟨_, rfl⟩
  rw [show (ints L).length = M by simp [ints, hM]] at hcv
  rw [show (minV (List.replicate n (-1))).length = n by simp [minV]] at hbv
  subst hcv hbv
  have HSep : Hd (Sep w4 [oI w.heap.size 3 (.slice pb n cb) (befC n ((rtsOf n (L.take 0)).map ([·]))), oI w.heap.size 3 (.slice none 0 0) (intC (rtsOf n (L.take 0))), oI w.heap.size 3 (.slice pc M cc) (ints L)]) := ⟨by
    refine ⟨fun g => if g < w1.heap.size then 0 else 2, fun t A ht => ?_⟩
    rcases t with _ | _ | _ | t
    · cases ht
      refine ⟨?_, fun g hg => ?_⟩
      · rw [show (rtsOf n (L.take 0)).map ([·]) = [] by simp [rtsOf], befC_nil]
        have := HBo4.out
        rw [show minV (List.replicate n (-1)) = List.replicate n (Value.int .i64 (-1)) by simp [minV]] at this
        exact this
      · show (if g < w1.heap.size then 0 else 2) = 0
        rw [if_pos (HBlt.out g hg).2]
    · cases ht
      refine ⟨?_, fun g hg => by cases hg⟩
      rw [show intC (rtsOf n (L.take 0)) = [] by simp [rtsOf, intC]]
      exact Own.nil _ _ _
    · cases ht
      refine ⟨hO4'.down HSz2.out.1, fun g hg => ?_⟩
      show (if g < w1.heap.size then 0 else 2) = 2
      rw [if_neg (by have := (hO4'.lt hg).1; omega)]
    · simp at ht⟩
  have HLx := Hd.mk (And.intro hL (And.intro hLs hM))
  have hMl : M ≤ 1000000 := by omega
  have HBs4 : Hd (w.heap.size ≤ w4.heap.size) := ⟨HB4.out.size⟩
  clear hO4 hcb hk4 hL hLs hO4' hLl hM HCo HBo3 HBo4 HB3
  go_wp2
  go_loopw [26, 9] (fun iv wv wr => ∃ (k : Nat), k ≤ M ∧ iv = .int .i64 (k : Int) ∧ Hd (Below w.heap.size w wr) ∧ Hd (Sep wr [oI w.heap.size 3 (.slice pb n cb) (befC n ((rtsOf n (L.take k)).map ([·]))), oI w.heap.size 3 wv (intC (rtsOf n (L.take k))), oI w.heap.size 3 (.slice pc M cc) (ints L)])) (fun iv _ _ => M - (intOf iv).toNat)
  case atStart => exact ⟨0, Nat.zero_le _, rfl, HB4, HSep⟩
  case round =>
    clear HB4 HSep HBs4
    obtain ⟨k, hk, rfl, HK, HM⟩ := hrel
    by_cases hlt : k < M
    · have hd1 : decide ((k : Int) < (M : Int)) = true := by simp; omega
      have hmk : M - (intOf (.int .i64 ((k : Int) + 1))).toNat < M - (intOf (.int .i64 (k : Int))).toNat := by simp [intOf]; omega
      have hkL : k < L.length := by rw [HLx.out.2.2]; exact hlt
      obtain ⟨x, hx⟩ : ∃ x, L[k] = x := ⟨_, rfl⟩
      obtain ⟨gc, hgc⟩ : ∃ gc, pc = some ⟨gc, 0, none⟩ := by
        obtain ⟨g, c, e⟩ := (HM.out.own 2 rfl).slice (by simp [ints]; omega)
        injection e with e _ _
        exact ⟨g, e⟩
      subst hgc
      have cx : wr.cell? ⟨gc, k, none⟩ = some (.int .i64 x) := ((HM.out.own 2 rfl).at (by rw [ints, List.getElem?_map, List.getElem?_eq_getElem hkL, hx]; rfl)).1
      have hst := rtsOf_step (n := n) hkL
      rw [hx] at hst
      have HSt := Hd.mk hst
      have hnot : (0 ≤ x → x.toNat ∉ rtsOf n (L.take k)) := fun h0 hm => by
        have h1 := (mem_rtsOf.1 hm).2
        rw [Int.toNat_of_nonneg h0] at h1
        obtain ⟨j, hj, e⟩ := List.getElem_of_mem h1
        rw [List.getElem_take] at e
        have hjk : j < k := by simp at hj; omega
        have := List.pairwise_iff_getElem.1 HLx.out.2.1.1 j k (by omega) hkL hjk
        rw [e, hx] at this; omega
      have hrk : (rtsOf n (L.take k)).length ≤ 1000000 := by
        unfold rtsOf
        rw [List.length_map]
        exact Nat.le_trans (List.length_filter_le _ _) (by rw [List.length_take]; omega)
      have HX := Hd.mk (And.intro hnot hrk)
      clear hst hkL hx hnot hrk
      by_cases hin : 0 ≤ x ∧ x < (n : Int)
      · obtain ⟨y, hy⟩ : ∃ y : Nat, (y : Int) = x := ⟨x.toNat, by omega⟩
        subst hy
        have hyn : y < n := by omega
        have ht1 : decide ((0 : Int) ≤ (y : Int)) = true := by simp
        have ht2 : decide ((y : Int) < (n : Int)) = true := by simp; omega
        obtain ⟨gb, hgb⟩ : ∃ gb, pb = some ⟨gb, 0, none⟩ := by
          obtain ⟨g, c, e⟩ := (HM.out.own 0 rfl).slice (by rw [befC_len]; omega)
          injection e with e _ _
          exact ⟨g, e⟩
        subst hgb
        have hyx := HX.out.1 (by omega)
        rw [show ((y : Nat) : Int).toNat = y by simp] at hyx
        obtain ⟨cb0, cb1⟩ := (HM.out.own 0 rfl).at (befC_at (ws := (rtsOf n (L.take k)).map ([·])) hyn)
        have hset := HM.out.set_own 0 rfl y (.int .i64 (y : Int))
        have hbs := befC_set (n := n) (ws := (rtsOf n (L.take k)).map ([·])) (w := y) (l := []) (by rw [heads_one]; exact hyx) hyn
        rw [show ((([] : List Nat).getD 0 y : Nat) : Int) = (y : Int) from rfl] at hbs
        rw [hbs] at hset
        have HSet := Hd.mk hset
        have HSb : Hd (Below w.heap.size w (wr.setCell ⟨gb, y, none⟩ (.int .i64 (y : Int)))) := ⟨HK.out.trans (((Keeps.refl (fun g => w.heap.size ≤ g) wr).setCell (p := ⟨gb, y, none⟩) (.inr ((HM.out.own 0 rfl).lt rfl).1) _).below HK.out.size (fun k h1 h2 => by omega))⟩
        have HRn : Hd (rtsOf n (L.take (k + 1)) = rtsOf n (L.take k) ++ [y]) := ⟨by rw [HSt.out, if_pos hin]; simp⟩
        clear hset hbs hyx
        go_upto_region 10 with (fail)
        clear cb0 cb1 cx
        generalize wr.setCell ⟨gb, y, none⟩ (.int .i64 (y : Int)) = w5 at HSet HSb ⊢
        clear HM HK
        have HWo := Hd.mk (HSet.out.own 1 rfl)
        obtain ⟨i0, hi0, hz0, hz1, hz2⟩ := info_parts infoInt
        have HI0 := Hd.mk (And.intro hi0 (And.intro hz0 (And.intro hz1 hz2)))
        clear hi0 hz0 hz1 hz2
        go_wp2_with (at_builtin; refine wp_app1 rfl _ _ 44 rfl 3 Try.underlying44 HI0.out.1 HI0.out.2.1 HI0.out.2.2.1 HI0.out.2.2.2 rfl u9 (intC (rtsOf n (L.take k))) _ w5 rfl HWo.out rfl rfl (by have := HX.out.2; simp only [intC, List.length_map]; unfold maxLen; omega) (by have := HX.out.2; simp only [intC, List.length_map]; omega) HSb.out.size ?_)
        intro wv6 w6 h1 h2 h3
        have hS6 := HSet.out.put_own 1 rfl h2 h1 (h3.imp_right .inr)
        have HS6 : Hd (Sep w6 [oI w.heap.size 3 (.slice (some ⟨gb, 0, none⟩) n cb) (befC n ((rtsOf n (L.take (k + 1))).map ([·]))), oI w.heap.size 3 wv6 (intC (rtsOf n (L.take (k + 1)))), oI w.heap.size 3 (.slice (some ⟨gc, 0, none⟩) M cc) (ints L)]) := ⟨by
          rw [HRn.out, List.map_append, show intC (rtsOf n (L.take k) ++ [y]) = intC (rtsOf n (L.take k)) ++ [.int .i64 (y : Int)] by simp [intC]]
          exact hS6⟩
        have HB6 : Hd (Below w.heap.size w w6) := ⟨HSb.out.trans (h2.below HSb.out.size (fun g hg hr => by have := (HWo.out.lt hr).1; omega))⟩
        clear h1 h2 h3 hS6
        go_wp2_with fail
        exact ⟨⟨k + 1, hlt, by go_num, HB6, HS6⟩, hmk⟩
      · have HOut : Hd (rtsOf n (L.take (k + 1)) = rtsOf n (L.take k)) := ⟨by rw [HSt.out, if_neg hin]⟩
        rw [← HOut.out] at HM
        by_cases h0 : 0 ≤ x
        · have ht1 : decide ((0 : Int) ≤ x) = true := by simpa using h0
          have ht2 : ¬ x < (n : Int) := fun h => hin ⟨h0, h⟩
          have ht3 : decide (x < (n : Int)) = false := by simpa using ht2
          go_wp2
          exact ⟨⟨k + 1, hlt, by go_num, HK, HM⟩, hmk⟩
        · have ht1 : decide ((0 : Int) ≤ x) = false := by simpa using h0
          go_wp2
          exact ⟨⟨k + 1, hlt, by go_num, HK, HM⟩, hmk⟩
    · have hd1 : decide ((k : Int) < (M : Int)) = false := by simp; omega
      have hkM : k = M := by omega
      have htk : L.take k = L := by rw [hkM, ← HLx.out.2.2]; exact List.take_length
      rw [htk] at HM
      have HNx := HG.out wr HK.out
      have HNx2 := Hd.mk HNx
      obtain ⟨rts, hrts⟩ : ∃ rts, rtsOf n L = rts := ⟨_, rfl⟩
      rw [hrts] at HM
      have HRt : Hd (rts.Pairwise (· < ·) ∧ (∀ x, x ∈ rts → x < n) ∧ wavesOf n arcs roots = Tj.waysOf n (nx n arcs) rts) := ⟨by rw [← hrts]; exact rtsOf_asc HLx.out.2.1.1, fun x hx => by rw [← hrts] at hx; exact (mem_rtsOf.1 hx).1, by unfold wavesOf; rw [HLx.out.1, hrts]⟩
      clear HNx hkM htk hrts
      go_wp2_with fail
      refine HNx2.out.mono ?_
      rintro e w5 ⟨nv, nvs, rfl, hrows, hb5⟩
      have hS5 := (HM.out.below hb5).left (L := [oI w.heap.size 3 (.slice pb n cb) (befC n (rts.map ([·]))), oI w.heap.size 3 u9 (intC rts)]) (M := [oI w.heap.size 3 (.slice pc M cc) (ints L)])
      have hS6 := ((HM.out.left (L := [oI w.heap.size 3 (.slice pb n cb) (befC n (rts.map ([·]))), oI w.heap.size 3 u9 (intC rts)]) (M := [oI w.heap.size 3 (.slice pc M cc) (ints L)])).new_rows (Keeps.of_below hb5 (fun k h1 h2 => by omega)) (hrows.down HK.out.size) (fun g hg => (rowsK_lt hrows hg).1))
      have HB5 : Hd (Below w.heap.size w w5) := ⟨HK.out.trans (hb5.mono HK.out.size)⟩
      obtain ⟨pn, cn, hnv⟩ := hrows.own.slice'
      rw [show nvs.length = n by rw [hrows.len, HN.out]; simp] at hnv
      subst hnv
      have hhd : intC rts = intC (Tj.heads (rts.map ([·]))) := by rw [heads_one]
      rw [hhd] at hS6
      have HS5 : Hd (Sep w5 [oI w.heap.size 3 (.slice pb n cb) (befC n (rts.map ([·]))), oI w.heap.size 3 u9 (intC (Tj.heads (rts.map ([·])))), oR w.heap.size (.slice pn n cn) nvs N]) := ⟨hS6⟩
      have hnxs : ∀ u, u < n → (nx n arcs u).Pairwise (· < ·) ∧ ∀ x, x ∈ nx n arcs u → x < n := fun u _ => ⟨nx_asc _ _ _, fun x hx => nx_lt hx⟩
      have HWv := Hd.mk (Tj.Wv.start (nx := nx n arcs) HRt.out.2.1 HRt.out.1)
      have HNs := Hd.mk hnxs
      clear hS5 hS6 hrows hb5 hhd hnxs HNx2 HM HK
      go_wp2
      obtain ⟨nxa, hnxa⟩ : ∃ nxa, nx n arcs = nxa := ⟨_, rfl⟩
      rw [hnxa] at HRt HWv HNs
      have HNN : Hd (N = (List.range n).map fun v => intL (nxa v)) := ⟨by rw [HN.out, hnxa]⟩
      have HNl : Hd (∀ u, (nxa u).length ≤ 1000) := ⟨fun u => by
        rw [← hnxa]
        exact Nat.le_trans (List.length_filter_le _ _) (by simp; omega)⟩
      clear hnxa
      have HBf : Hd (Tj.bfs nxa (n - 0) 0 (rts.map ([·])) = wavesOf n arcs roots) := ⟨by rw [HRt.out.2.2]; rfl⟩
      go_loopw [13, 9] (fun iv wv wr => ∃ (i : Nat) (ws : List (List Nat)), i ≤ n ∧ iv = .int .i64 (i : Int) ∧ Hd (Below w.heap.size w wr) ∧ Hd (Sep wr [oI w.heap.size 3 (.slice pb n cb) (befC n ws), oI w.heap.size 3 wv (intC (Tj.heads ws)), oR w.heap.size (.slice pn n cn) nvs N]) ∧ Hd (Tj.Wv n nxa rts ws i []) ∧ Hd (Tj.bfs nxa (n - i) i ws = wavesOf n arcs roots)) (fun iv _ _ => n - (intOf iv).toNat)
      case atStart => exact ⟨0, _, Nat.zero_le _, rfl, HB5, HS5, HWv, HBf⟩
      case round =>
        clear HB5 HS5 HWv HBf
        obtain ⟨i, ws, hin, rfl, HK, HM, HWv, HBf⟩ := hrel
        obtain ⟨pw, cw, hwv⟩ := (HM.out.own 1 rfl).slice'
        rw [show (intC (Tj.heads ws)).length = ws.length by simp [intC, Tj.heads]] at hwv
        subst hwv
        have hwl := HWv.out.len
        obtain ⟨W, hW⟩ : ∃ W, ws.length = W := ⟨_, rfl⟩
        rw [hW] at HM hwl ⊢
        by_cases hlt : i < W
        · have hd1 : decide ((i : Int) < (W : Int)) = true := by simp; omega
          have hmi : n - (intOf (.int .i64 ((i : Int) + 1))).toNat < n - (intOf (.int .i64 (i : Int))).toNat := by simp [intOf]; omega
          have hiw : i < ws.length := by omega
          obtain ⟨l, hl'⟩ : ∃ l, ws[i]? = some l := ⟨_, List.getElem?_eq_getElem hiw⟩
          have hlm := List.mem_of_getElem? hl'
          obtain ⟨u, hu⟩ : ∃ u, Tj.headN l = u := ⟨_, rfl⟩
          have hun : u < n := by rw [← hu]; exact HWv.out.lt l hlm
          obtain ⟨l', hll⟩ := (HWv.out.way l hlm).ne
          rw [hu] at hll
          obtain ⟨gw, hgw⟩ : ∃ gw, pw = some ⟨gw, 0, none⟩ := by
            obtain ⟨g, c, e⟩ := (HM.out.own 1 rfl).slice (by simp [intC, Tj.heads]; omega)
            injection e with e _ _
            exact ⟨g, e⟩
          subst hgw
          have hhi : (Tj.heads ws)[i]? = some u := by rw [Tj.heads, List.getElem?_map, hl', ← hu]; rfl
          have cwi : wr.cell? ⟨gw, i, none⟩ = some (.int .i64 (u : Int)) := ((HM.out.own 1 rfl).at (by rw [intC, List.getElem?_map, hhi]; rfl)).1
          obtain ⟨gn, hgn⟩ : ∃ gn, pn = some ⟨gn, 0, none⟩ := by
            obtain ⟨g, c, e⟩ := (HM.out.rows 2 rfl).own.slice (by rw [(HM.out.rows 2 rfl).len, HNN.out]; simp; omega)
            injection e with e _ _
            exact ⟨g, e⟩
          subst hgn
          have hNl : N.length = n := by rw [HNN.out]; simp
          obtain ⟨uv, huv, cuv, _, hOu, _⟩ := (HM.out.rows 2 rfl).at (j := u) (by rw [hNl]; exact hun)
          have hNu : N[u]? = some (intL (nxa u)) := by rw [HNN.out]; simp [hun]
          have hNu2 : N[u]'(by rw [hNl]; exact hun) = intL (nxa u) := by
            have := List.getElem?_eq_getElem (l := N) (i := u) (by rw [hNl]; exact hun)
            rw [hNu] at this; injection this with this; exact this.symm
          rw [hNu2, ints_intL] at hOu
          obtain ⟨pv3, cv3, hsu⟩ := hOu.slice'
          rw [show (intC (nxa u)).length = (nxa u).length by simp [intC]] at hsu
          subst hsu
          obtain ⟨M3, hM3⟩ : ∃ M3, (nxa u).length = M3 := ⟨_, rfl⟩
          have hM3l : M3 ≤ 1000 := by rw [← hM3]; exact HNl.out u
          rw [hM3] at cuv huv
          have HUU := Hd.mk (And.intro huv (And.intro hNu (And.intro hM3 (And.intro hl' (And.intro hu hll)))))
          have HWW := Hd.mk hW
          clear huv hNu hNu2 hM3 hl' hu hll hOu hhi hNl hlm hiw hW
          go_wp2
          go_loopw [63, 9] (fun jv wv wx => ∃ (j : Nat) (ws' : List (List Nat)), j ≤ M3 ∧ jv = .int .i64 (j : Int) ∧ Hd (Below w.heap.size w wx) ∧ Hd (Sep wx [oI w.heap.size 3 (.slice pb n cb) (befC n ws'), oI w.heap.size 3 wv (intC (Tj.heads ws')), oR w.heap.size (.slice (some ⟨gn, 0, none⟩) n cn) nvs N]) ∧ Hd (Tj.Wv n nxa rts ws' i ((nxa u).take j)) ∧ Hd (ws'[i]? = some l) ∧ Hd (Tj.addTo l ws' ((nxa u).drop j) = Tj.addTo l ws (nxa u))) (fun jv _ _ => M3 - (intOf jv).toNat)
          case atStart => exact ⟨0, ws, Nat.zero_le _, rfl, HK, HM, by simpa using HWv, ⟨HUU.out.2.2.2.1⟩, ⟨by simp⟩⟩
          case round =>
            clear HK HM HWv cwi cuv
            obtain ⟨j, ws', hj, rfl, HK, HM, HWv, HL, HAd⟩ := hrel
            by_cases hltj : j < M3
            · have hd2 : decide ((j : Int) < (M3 : Int)) = true := by simp; omega
              have hmj : M3 - (intOf (.int .i64 ((j : Int) + 1))).toNat < M3 - (intOf (.int .i64 (j : Int))).toNat := by simp [intOf]; omega
              have hjl : j < (nxa u).length := by rw [HUU.out.2.2.1]; exact hltj
              obtain ⟨x, hx⟩ : ∃ x, (nxa u)[j] = x := ⟨_, rfl⟩
              have hxm : x ∈ nxa u := by rw [← hx]; exact List.getElem_mem hjl
              have hxn : x < n := (HNs.out u hun).2 x hxm
              have hOu := (HM.out.rows 2 rfl).each u _ _ HUU.out.1 HUU.out.2.1
              rw [ints_intL] at hOu
              obtain ⟨gv, hgv⟩ : ∃ gv, pv3 = some ⟨gv, 0, none⟩ := by
                obtain ⟨g, c', e⟩ := hOu.slice (by simp [intC]; omega)
                injection e with e1 _ _
                exact ⟨g, e1⟩
              subst hgv
              have cx := (hOu.at (intC_at hjl)).1
              rw [hx] at cx
              obtain ⟨gb, hgb⟩ : ∃ gb, pb = some ⟨gb, 0, none⟩ := by
                obtain ⟨g, c, e⟩ := (HM.out.own 0 rfl).slice (by rw [befC_len]; omega)
                injection e with e _ _
                exact ⟨g, e⟩
              subst hgb
              obtain ⟨cb0, cb1⟩ := (HM.out.own 0 rfl).at (befC_at (ws := ws') hxn)
              have hdrop : (nxa u).drop j = x :: (nxa u).drop (j + 1) := by rw [← hx]; exact List.drop_eq_getElem_cons hjl
              have htake : (nxa u).take (j + 1) = (nxa u).take j ++ [x] := by rw [List.take_add_one, List.getElem?_eq_getElem hjl, hx]; rfl
              obtain ⟨hw1, hw2⟩ := HWv.out.add HL.out (w := x) (by rw [HUU.out.2.2.2.2.1]; exact hxm) hxn (fun y hy => by
                obtain ⟨q, hq, e⟩ := List.getElem_of_mem hy
                rw [List.getElem_take] at e
                have hqj : q < j := by simp at hq; omega
                have := List.pairwise_iff_getElem.1 (HNs.out u hun).1 q j (by omega) hjl hqj
                rw [e, hx] at this; exact this)
              rw [← htake] at hw1
              have had := HAd.out
              rw [hdrop, Tj.addTo] at had
              obtain ⟨c, hc⟩ : ∃ c, befI ws' x = c := ⟨_, rfl⟩
              rw [hc] at cb0
              have hneg := befI_neg (ws := ws') (u := x)
              rw [hc] at hneg
              by_cases hc0 : c < 0
              · have hnm : x ∉ Tj.heads ws' := hneg.1 hc0
                have hcon : ¬ (Tj.heads ws').contains x = true := fun h => hnm (List.contains_iff_mem.1 h)
                rw [if_neg hcon] at hw1 hw2 had
                have ht3 : decide (c < 0) = true := by simpa using hc0
                have HWv2 := Hd.mk hw1
                have HL2 := Hd.mk hw2
                have HAd2 := Hd.mk had
                have hset := HM.out.set_own 0 rfl x (.int .i64 (u : Int))
                have hbs := befC_set (n := n) (ws := ws') (w := x) (l := l) hnm hxn
                rw [show ((l.getD 0 x : Nat) : Int) = (u : Int) by rw [HUU.out.2.2.2.2.2]; simp] at hbs
                rw [hbs] at hset
                obtain ⟨pw2, cw2, hwv2⟩ := (HM.out.own 1 rfl).slice'
                rw [show (intC (Tj.heads ws')).length = ws'.length by simp [intC, Tj.heads]] at hwv2
                have hil : i < ws'.length := (List.getElem?_eq_some_iff.1 HL.out).1
                obtain ⟨gw2, hgw2⟩ : ∃ gw2, pw2 = some ⟨gw2, 0, none⟩ := by
                  have h1 := HM.out.own 1 rfl
                  rw [hwv2] at h1
                  obtain ⟨g, c, e⟩ := h1.slice (by simp [intC, Tj.heads]; omega)
                  injection e with e _ _
                  exact ⟨g, e⟩
                rw [hgw2] at hwv2
                subst hwv2
                have hhi : (Tj.heads ws')[i]? = some u := by rw [Tj.heads, List.getElem?_map, HL.out, ← HUU.out.2.2.2.2.1]; rfl
                have cwi : wr.cell? ⟨gw2, i, none⟩ = some (.int .i64 (u : Int)) := ((HM.out.own 1 rfl).at (by rw [intC, List.getElem?_map, hhi]; rfl)).1
                have hwl2 := HWv.out.len
                obtain ⟨W2, hW2⟩ : ∃ W2, ws'.length = W2 := ⟨_, rfl⟩
                rw [hW2] at hset hil hwl2 HM ⊢
                have HSet := Hd.mk hset
                have HSb : Hd (Below w.heap.size w (wr.setCell ⟨gb, x, none⟩ (.int .i64 (u : Int)))) := ⟨HK.out.trans (((Keeps.refl (fun g => w.heap.size ≤ g) wr).setCell (p := ⟨gb, x, none⟩) (.inr ((HM.out.own 0 rfl).lt rfl).1) _).below HK.out.size (fun k h1 h2 => by omega))⟩
                have HW2 := Hd.mk hW2
                clear hset hbs hnm hcon hw1 hw2 had hdrop htake hneg hhi hOu hx hjl hc hgw2 HWv HL HAd hW2
                go_upto_region 21 with (fail)
                generalize wr.setCell ⟨gb, x, none⟩ (.int .i64 (u : Int)) = w6 at HSet HSb ⊢
                clear cb0 cb1 cx cwi HM HK
                have HWo := Hd.mk (HSet.out.own 1 rfl)
                obtain ⟨i0, hi0, hz0, hz1, hz2⟩ := info_parts infoInt
                have HI0 := Hd.mk (And.intro hi0 (And.intro hz0 (And.intro hz1 hz2)))
                have HWl : Hd ((intC (Tj.heads ws')).length ≤ 1000) := ⟨by have := HW2.out; simp only [intC, Tj.heads, List.length_map]; omega⟩
                clear hi0 hz0 hz1 hz2
                go_wp2_with (at_builtin; refine wp_app1 rfl _ _ 44 rfl 3 Try.underlying44 HI0.out.1 HI0.out.2.1 HI0.out.2.2.1 HI0.out.2.2.2 rfl (.slice (some ⟨gw2, 0, none⟩) W2 cw2) (intC (Tj.heads ws')) _ w6 rfl HWo.out rfl rfl (by have := HWl.out; unfold maxLen; omega) (by have := HWl.out; omega) HSb.out.size ?_)
                intro wv7 w7 h1 h2 h3
                have hS7 := HSet.out.put_own 1 rfl h2 h1 (h3.imp_right .inr)
                have HS7 : Hd (Sep w7 [oI w.heap.size 3 (.slice (some ⟨gb, 0, none⟩) n cb) (befC n (ws' ++ [x :: l])), oI w.heap.size 3 wv7 (intC (Tj.heads (ws' ++ [x :: l]))), oR w.heap.size (.slice (some ⟨gn, 0, none⟩) n cn) nvs N]) := ⟨by
                  rw [show intC (Tj.heads (ws' ++ [x :: l])) = intC (Tj.heads ws') ++ [.int .i64 (x : Int)] by rw [heads_app]; simp [intC, Tj.heads, Tj.headN]]
                  exact hS7⟩
                have HB7 : Hd (Below w.heap.size w w7) := ⟨HSb.out.trans (h2.below HSb.out.size (fun g hg hr => by have := (HWo.out.lt hr).1; omega))⟩
                clear h1 h2 h3 hS7
                go_wp2_with fail
                exact ⟨⟨j + 1, _, hltj, by go_num, HB7, HS7, HWv2, HL2, HAd2⟩, hmj⟩
              · have hm : x ∈ Tj.heads ws' := Decidable.byContradiction fun h => hc0 (hneg.2 h)
                have hcon : (Tj.heads ws').contains x = true := List.contains_iff_mem.2 hm
                rw [if_pos hcon] at hw1 hw2 had
                have ht3 : decide (c < 0) = false := by simpa using hc0
                have HWv2 := Hd.mk hw1
                have HL2 := Hd.mk hw2
                have HAd2 := Hd.mk had
                clear hm hcon hw1 hw2 had hdrop htake hneg hOu hx hjl hc HWv HL HAd
                go_wp2
                exact ⟨⟨j + 1, ws', hltj, by go_num, HK, HM, HWv2, HL2, HAd2⟩, hmj⟩
            · have hd2 : decide ((j : Int) < (M3 : Int)) = false := by simp; omega
              have hjM : (nxa u).drop j = [] := List.drop_eq_nil_of_le (by rw [HUU.out.2.2.1]; omega)
              have htk : (nxa u).take j = nxa u := List.take_of_length_le (by rw [HUU.out.2.2.1]; omega)
              have had := HAd.out
              rw [hjM, Tj.addTo] at had
              have hwv := HWv.out
              rw [htk, ← HUU.out.2.2.2.2.1] at hwv
              have HWv2 := Hd.mk (hwv.next HL.out)
              have HBf2 : Hd (Tj.bfs nxa (n - (i + 1)) (i + 1) ws' = wavesOf n arcs roots) := ⟨by
                have h1 := HBf.out
                rw [show n - i = (n - (i + 1)) + 1 by omega, Tj.bfs, HUU.out.2.2.2.1] at h1
                simp only [HUU.out.2.2.2.2.1] at h1
                rw [← had] at h1
                exact h1⟩
              have hi1 : i + 1 ≤ n := by omega
              clear hjM htk had hwv
              go_wp2
              exact ⟨⟨i + 1, ws', hi1, by go_num, HK, HM, HWv2, HBf2⟩, hmi⟩
        · have hd1 : decide ((i : Int) < (W : Int)) = false := by simp; omega
          have he := HBf.out
          rw [bfs_end _ _ _ _ (by omega)] at he
          have HE := Hd.mk he
          clear he
          go_wp2
          go_ret
          have := HM.out.own 0 rfl
          rw [HE.out] at this
          exact ⟨_, rfl, this, HK.out⟩

end Go.Proofs.Ytmgkoocpnakanaa.W
