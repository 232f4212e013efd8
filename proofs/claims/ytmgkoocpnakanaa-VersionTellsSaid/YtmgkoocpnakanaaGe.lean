/-
  graph.next.
-/
import Derived.Test.YtmgkoocpnakanaaGd
import Derived.Test.YtmgkoocpnakanaaOrd3
import Derived.Deep.Cut
namespace Go.Proofs.Ytmgkoocpnakanaa.W
open Go.RowKit
set_option linter.unusedVariables false

/-- where the arcs from v lead, in the order of the arcs -/
def rowF (arcs : List Arc) (v : Nat) : List Int := (arcs.filter fun a => a.f == (v : Int)).map (·.t)
def rowsOf (n : Nat) (arcs : List Arc) : List (List Int) := (List.range n).map (rowF arcs)
def norm (zs : List Int) : List Int := Lib.compact (zs.mergeSort fun x y => decide (x ≤ y))
/-- the first k rows put in order -/
def rowsN (n : Nat) (arcs : List Arc) (k : Nat) : List (List Int) := (List.range n).map fun v => if v < k then norm (rowF arcs v) else rowF arcs v
def nextI (n : Nat) (arcs : List Arc) : List (List Int) := (List.range n).map fun v => norm (rowF arcs v)

theorem rows_len (n : Nat) (arcs : List Arc) : (rowsOf n arcs).length = n := by simp [rowsOf]
theorem rowsN_len (n : Nat) (arcs : List Arc) (k : Nat) : (rowsN n arcs k).length = n := by simp [rowsN]
theorem rows_nil (n : Nat) : rowsOf n [] = List.replicate n [] := by
  apply List.ext_getElem <;> simp [rowsOf, rowF]
theorem rows_next {n : Nat} {arcs : List Arc} {k i : Nat} (hk : k < arcs.length) (hi : arcs[k].f = (i : Int)) (hin : i < n) : rowsOf n (arcs.take (k + 1)) = (rowsOf n (arcs.take k)).set i ((rowsOf n (arcs.take k))[i]'(by rw [rows_len]; exact hin) ++ [arcs[k].t]) := by
  apply List.ext_getElem
  · simp [rowsOf]
  · intro j h1 h2
    have e : arcs.take (k + 1) = arcs.take k ++ [arcs[k]] := by rw [List.take_add_one, List.getElem?_eq_getElem hk]; rfl
    rw [List.getElem_set]
    simp only [rowsOf, List.getElem_map, List.getElem_range, rowF, e, List.filter_append, List.map_append]
    by_cases hij : i = j
    · subst hij
      simp [hi]
    · have : ((i : Int) == (j : Int)) = false := by
        rw [beq_eq_false_iff_ne]; omega
      simp [hi, this, hij]
theorem rowsN_zero (n : Nat) (arcs : List Arc) : rowsN n arcs 0 = rowsOf n arcs := by simp [rowsN, rowsOf]
theorem rowsN_end (n : Nat) (arcs : List Arc) : rowsN n arcs n = nextI n arcs := by
  unfold rowsN nextI
  refine List.map_congr_left (fun v hv => ?_)
  rw [if_pos (List.mem_range.1 hv)]
theorem rowsN_at {n : Nat} {arcs : List Arc} {k : Nat} (hk : k < n) : (rowsN n arcs k)[k]'(by rw [rowsN_len]; exact hk) = rowF arcs k := by simp [rowsN]
theorem rowsN_next {n : Nat} {arcs : List Arc} {k : Nat} (hk : k < n) : (rowsN n arcs k).set k (norm (rowF arcs k)) = rowsN n arcs (k + 1) := by
  apply List.ext_getElem
  · simp [rowsN]
  · intro j h1 h2
    rw [List.getElem_set]
    simp only [rowsN, List.getElem_map, List.getElem_range]
    by_cases e : k = j
    · subst e; simp
    · rw [if_neg e]
      have : (j < k + 1) ↔ (j < k) := by omega
      simp only [this]
theorem rowF_len (arcs : List Arc) (v : Nat) : (rowF arcs v).length ≤ arcs.length := by
  unfold rowF; rw [List.length_map]; exact List.length_filter_le _ _

set_option maxHeartbeats 4000000 in
set_option maxRecDepth 100000 in
theorem gnext_any (w : World) (n : Nat) (hn : n ≤ 262144) (v : Value) (arcs : List Arc) (hR : Rw 2 Arc.E w v arcs) (hl : arcs.length ≤ 1000000) (hr : ∀ a ∈ arcs, 0 ≤ a.f ∧ a.f < (n : Int)) :
    Calls Try.prog 41 #[.int .i64 n, v] w fun e w' => ∃ v' vs, e = .returned v' ∧ RowsO w' w.heap.size v' vs (nextI n arcs) ∧ Below w.heap.size w w' := by
  obtain ⟨pv, cv, rfl⟩ := hR.slice
  have HR := Hd.mk hR
  have HL := Hd.mk hl
  have HI := Hd.mk hr
  have mz := make_rows w n (by omega)
  have m0 : RowsO (w.alloc (.cells (List.replicate n (Value.slice none 0 0)).toArray 44)) w.heap.size (.slice (some ⟨w.heap.size, 0, none⟩) n n) (List.replicate n (.slice none 0 0)) (rowsOf n (arcs.take 0)) := by
    rw [List.take_zero, rows_nil]; exact RowsO.made (Nat.le_refl _) (by omega)
  obtain ⟨cz, hcz⟩ : ∃ cz, (List.replicate n (Value.slice none 0 0)).toArray = cz := ⟨_, rfl⟩
  rw [hcz] at mz m0
  have M0 := Hd.mk m0
  have B0 := Hd.mk (below_al w (.cells cz 44))
  clear hR hl hr hcz m0
  obtain ⟨N, hN⟩ : ∃ N, arcs.length = N := ⟨_, rfl⟩
  rw [hN] at HL ⊢
  have HN := Hd.mk hN
  clear hN
  go_enter Try.func41, Try.ntmps41
  go_wp2
  clear mz
  generalize w.alloc (.cells cz 44) = W1 at M0 B0 ⊢
  go_loopw [13] (fun i wr => ∃ (k : Nat) (vs : List Value), k ≤ N ∧ i = .int .i64 k ∧ Hd (RowsO wr w.heap.size (.slice (some ⟨w.heap.size, 0, none⟩) n n) vs (rowsOf n (arcs.take k))) ∧ Hd (Below w.heap.size w wr)) (fun i _ => N - (intOf i).toNat)
  case atStart => exact ⟨0, _, Nat.zero_le _, rfl, M0, B0⟩
  case round =>
    obtain ⟨k, vs, hk, rfl, HM, HK⟩ := hrel
    by_cases hlt : k < N
    · have hd1 : decide ((k : Int) < (N : Int)) = true := by simp; omega
      have hms : N - (intOf (.int .i64 ((k : Int) + 1))).toNat < N - (intOf (.int .i64 (k : Int))).toNat := by simp [intOf]; omega
      have hNl := HL.out
      have hkq : k < arcs.length := HN.out ▸ hlt
      obtain ⟨g0, of, cs, hpv, hg, hcl, hEc, hcc⟩ := (HR.out.below Arc.stays HK.out).at rfl (j := k) hkq
      subst hpv
      have hE : cs = arcs[k].cells := hEc
      obtain ⟨i, hi⟩ : ∃ i : Nat, arcs[k].f = i := ⟨arcs[k].f.toNat, by have := HI.out _ (List.getElem_mem hkq); omega⟩
      have hin : i < n := by have := HI.out _ (List.getElem_mem hkq); omega
      have hst := rows_next hkq hi hin
      obtain ⟨x, hx⟩ : ∃ x, arcs[k].t = x := ⟨_, rfl⟩
      have hE2 : cs = [.int .i64 (i : Int), .int .i64 x] := by rw [hE, ← hi, ← hx]; rfl
      subst hE2
      rw [hx] at hst
      have c0 : wr.cell? ⟨g0, of + k * 2, none⟩ = some (.int .i64 (i : Int)) := hcc 0 _ rfl
      have c1 : wr.cell? ⟨g0, of + k * 2 + 1, none⟩ = some (.int .i64 x) := hcc 1 _ rfl
      have hrl := rowF_len (arcs.take k) i
      have hri : (rowsOf n (arcs.take k))[i]'(by rw [rows_len]; exact hin) = rowF (arcs.take k) i := by simp [rowsOf]
      rw [hri] at hst
      obtain ⟨L, hL⟩ : ∃ L, rowF (arcs.take k) i = L := ⟨_, rfl⟩
      rw [hL] at hst hrl
      have hLl : L.length ≤ 1000000 := by have := HL.out; rw [List.length_take] at hrl; omega
      -- the worlds of the step
      have Hb : Below wr.heap.size wr (wr.alloc (.cells #[.int .i64 (i : Int), .int .i64 x] 42)).drew := (below_al wr _).drew
      have hM2 := HM.out.below Hb
      have Hb3 : Below wr.heap.size wr ((wr.alloc (.cells #[.int .i64 (i : Int), .int .i64 x] 42)).drew.alloc (.cells #[.int .i64 x] 3)) := Hb.trans ((below_al _ _).mono Hb.size)
      have hM3 := HM.out.below Hb3
      obtain ⟨u, hu, hcu2, _, _, _⟩ := hM2.at (j := i) (by rw [rows_len]; exact hin)
      obtain ⟨u3, hu3, hcu3, hfu3, hOu3, hug3⟩ := hM3.at (j := i) (by rw [rows_len]; exact hin)
      have : u3 = u := by rw [hu] at hu3; cases hu3; rfl
      subst this
      rw [hri, hL] at hOu3
      have hws := hM3.own.lt (k := w.heap.size) rfl
      have hcu2' : (wr.alloc (.cells #[.int .i64 (i : Int), .int .i64 x] 42)).cell? ⟨w.heap.size, i, none⟩ = some u3 := hcu2
      have hcu3' : ((wr.alloc (.cells #[.int .i64 (i : Int), .int .i64 x] 42)).alloc (.cells #[.int .i64 x] 3)).cell? ⟨w.heap.size, i, none⟩ = some u3 := hcu3
      have HO3 := Hd.mk hOu3
      have HM3 := Hd.mk hM3
      have HB3 : Hd (Below w.heap.size w ((wr.alloc (.cells #[.int .i64 (i : Int), .int .i64 x] 42)).drew.alloc (.cells #[.int .i64 x] 3))) := ⟨HK.out.trans (Hb3.mono HK.out.size)⟩
      have hSd : (wr.alloc (.cells #[.int .i64 (i : Int), .int .i64 x] 42)).drew.cell? ⟨wr.heap.size, 0, none⟩ = some (.int .i64 (i : Int)) ∧ (wr.alloc (.cells #[.int .i64 (i : Int), .int .i64 x] 42)).drew.cell? ⟨wr.heap.size, 1, none⟩ = some (.int .i64 x) := ⟨by simp [go_sem], by simp [go_sem]⟩
      have hS3 : ((wr.alloc (.cells #[.int .i64 (i : Int), .int .i64 x] 42)).drew.alloc (.cells #[.int .i64 x] 3)).cell? ⟨wr.heap.size, 0, none⟩ = some (.int .i64 (i : Int)) ∧ ((wr.alloc (.cells #[.int .i64 (i : Int), .int .i64 x] 42)).drew.alloc (.cells #[.int .i64 x] 3)).cell? ⟨wr.heap.size, 1, none⟩ = some (.int .i64 x) := ⟨by simp [go_sem], by simp [go_sem]⟩
      have hsz : (wr.alloc (.cells #[.int .i64 (i : Int), .int .i64 x] 42)).drew.heap.size = wr.heap.size + 1 := by simp [go_sem]
      have HX : Hd (∃ T f, ((wr.alloc (.cells #[.int .i64 (i : Int), .int .i64 x] 42)).drew.alloc (.cells #[.int .i64 x] 3)).heap[wr.heap.size + 1]? = some (.cells #[.int .i64 x] T f)) := ⟨⟨_, _, by
        have := heap_alloc_new (wr.alloc (.cells #[.int .i64 (i : Int), .int .i64 x] 42)).drew (.cells #[.int .i64 x] 3)
        rwa [hsz] at this⟩⟩
      clear hsz
      have HEnd : Hd (∀ (v' : Value) (w4 : World), Own w4 w.heap.size 3 v' (ints L ++ [.int .i64 x]) → Keeps (fun k => u3.ownBlock = some k) ((wr.alloc (.cells #[.int .i64 (i : Int), .int .i64 x] 42)).drew.alloc (.cells #[.int .i64 x] 3)) w4 →
          (v'.ownBlock = u3.ownBlock ∨ ∃ k, ((wr.alloc (.cells #[.int .i64 (i : Int), .int .i64 x] 42)).drew.alloc (.cells #[.int .i64 x] 3)).heap.size ≤ k ∧ v'.ownBlock = some k) →
          ∃ p m c, v' = .slice p m c ∧ (w4.cell? ⟨wr.heap.size, 0, none⟩ = some (.int .i64 (i : Int)) ∧ w4.cell? ⟨wr.heap.size, 1, none⟩ = some (.int .i64 x)) ∧ w4.cell? ⟨w.heap.size, i, none⟩ = some u3 ∧ w4.frozen? ⟨w.heap.size, i, none⟩ = false ∧
            ((w4.setCell ⟨w.heap.size, i, none⟩ v').cell? ⟨wr.heap.size, 0, none⟩ = some (.int .i64 (i : Int)) ∧ (w4.setCell ⟨w.heap.size, i, none⟩ v').cell? ⟨wr.heap.size, 1, none⟩ = some (.int .i64 x)) ∧
            RowsO (w4.setCell ⟨w.heap.size, i, none⟩ v') w.heap.size (.slice (some ⟨w.heap.size, 0, none⟩) n n) (vs.set i v') (rowsOf n (arcs.take (k + 1))) ∧ Below w.heap.size w (w4.setCell ⟨w.heap.size, i, none⟩ v')) := ⟨fun v' w4 h1 h2 h3 => by
        obtain ⟨p, c, e⟩ := h1.slice'
        have hub : ∀ k, u3.ownBlock = some k → k < wr.heap.size := fun k hk => (rowsK_lt HM.out (.inr ⟨i, u3, hu, hk⟩)).2
        have hwr : w.heap.size < wr.heap.size := (HM.out.own.lt (k := w.heap.size) rfl).2
        obtain ⟨hp1, hp2⟩ := hM3.put hu h2 (l' := L ++ [x]) (by simpa [ints] using h1) (by rcases h3 with h3 | h3; exact .inl h3; exact .inr (.inr h3))
        rw [← hst] at hp1
        have hb : w4.heap[wr.heap.size]? = ((wr.alloc (.cells #[.int .i64 (i : Int), .int .i64 x] 42)).drew.alloc (.cells #[.int .i64 x] 3)).heap[wr.heap.size]? := h2.block _ (by simp [go_sem]) (fun hk => by have := hub _ hk; omega)
        have s0 : w4.cell? ⟨wr.heap.size, 0, none⟩ = some (.int .i64 (i : Int)) := by rw [World.cell?_of_block (a := ⟨wr.heap.size, 0, none⟩) hb]; exact hS3.1
        have s1 : w4.cell? ⟨wr.heap.size, 1, none⟩ = some (.int .i64 x) := by rw [World.cell?_of_block (a := ⟨wr.heap.size, 1, none⟩) hb]; exact hS3.2
        have hne : wr.heap.size ≠ w.heap.size := by omega
        have hb2 : (w4.setCell ⟨w.heap.size, i, none⟩ v').heap[wr.heap.size]? = w4.heap[wr.heap.size]? := heap_setCell_other w4 ⟨w.heap.size, i, none⟩ wr.heap.size v' hne
        have own4 : Own w4 w.heap.size 44 (.slice (some ⟨w.heap.size, 0, none⟩) n n) vs := hM3.own.keeps h2 (fun k hk e => by
          have : w.heap.size = k := by simpa [Value.ownBlock] using hk
          subst this; exact hug3 e)
        have o4 := own4.at hu
        refine ⟨p, _, c, e, ⟨s0, s1⟩, o4.1, o4.2, ⟨by rw [World.cell?_of_block (a := ⟨wr.heap.size, 0, none⟩) hb2]; exact s0, by rw [World.cell?_of_block (a := ⟨wr.heap.size, 1, none⟩) hb2]; exact s1⟩, hp1, ?_⟩
        exact HB3.out.trans (hp2.below HB3.out.size (fun k hk hr => by have := (rowsK_lt hM3 hr).1; omega))⟩
      obtain ⟨i0, hi0, hz0, hz1, hz2⟩ := info_parts infoInt
      have HI0 := Hd.mk (And.intro hi0 (And.intro hz0 (And.intro hz1 hz2)))
      have HH := Hd.mk (And.intro hLl hws)
      clear hcc hcl hEc hg hE hx hi hrl hri hM2 hM3 Hb Hb3 hu3 hOu3 hi0 hz0 hz1 hz2 hst hu hug3 hLl hws hL
      go_upto_region 5 with (fail)
      refine wp_region_lin3 default (fun w' => w'.cell? ⟨wr.heap.size, 0, none⟩ = some (.int .i64 (i : Int)) ∧ w'.cell? ⟨wr.heap.size, 1, none⟩ = some (.int .i64 x)) [.free 0, .free 1, .free 2, .free 3, .free 4, .free 5, .free 6, .free 8, .free 9, .fl 7 [10], .one 11, .free 12, .one 13] (by kernel_rfl) (by kernel_rfl) rfl (by kernel_rfl) (by kernel_rfl) hSd ?_
      repeat
        refine lin3_free (v := ?_) (by rfl) ?_ ?_
        rotate_left
        · intro w' hSw
          obtain ⟨d0, d1⟩ := hSw
          simp only [List.getD_cons_zero, List.getD_cons_succ]
          go_simp
          first | done | with_reducible rfl
        simp only [Act.put, List.getD_cons_zero, List.getD_cons_succ, List.setIfInBounds_toArray, List.set_cons_zero, List.set_cons_succ]
      refine lin3_fl (getB_intro (fun K hK => ?_)) (getB_intro (fun K hK => ?_))
      all_goals simp only [List.getD_cons_zero, List.getD_cons_succ]
      all_goals go_simp
      all_goals first | refine hK.out _ _ hSd ?_ | refine hK.out _ _ hS3 ?_
      all_goals clear hK K
      all_goals first | refine seq_cons (getB_intro (fun K hK => ?_)) | refine fl_nil (getB_intro (fun K hK => ?_))
      all_goals simp only [List.getD_cons_zero, List.getD_cons_succ]
      all_goals go_simp
      all_goals refine hK.out _ _ hS3 ?_
      all_goals clear hK K
      all_goals try refine seq_nil ?_
      all_goals refine lin3_one (fun K hK => ?_)
      all_goals refine step_app1 (by rfl) (Operand.tmp 24) (Operand.tmp 27) 44 (by rfl) 3 Try.underlying44 HI0.out.1 HI0.out.2.1 HI0.out.2.2.1 HI0.out.2.2.2 rfl u3 (ints L) (.int .i64 x) ((wr.alloc (.cells #[.int .i64 (i : Int), .int .i64 x] 42)).drew.alloc (.cells #[.int .i64 x] 3)) (wr.heap.size + 1) 1 (by rfl) HO3.out (by rfl) ?_ rfl ?_ ?_ ?_ ?_
      all_goals first | exact HX.out | skip
      all_goals first | (show (ints L).length + 1 ≤ maxLen; have := HH.out.1; rw [ints, List.length_map]; unfold maxLen; omega) | skip
      all_goals first | (show ((ints L).length + 1) * 8 ≤ 140737488355328; have := HH.out.1; rw [ints, List.length_map]; omega) | skip
      all_goals first | exact HB3.out.size | skip
      all_goals
        intro v' w4 h1 h2 h3
        obtain ⟨p, m, c, rfl, hS4, hc4, hf4, hS5, hM5, hB5⟩ := HEnd.out v' w4 h1 h2 h3
        clear h1 h2 h3
        have HM5 := Hd.mk hM5
        have HB5 := Hd.mk hB5
        have HS5 := Hd.mk hS5
        clear hM5 hB5 hS5
        refine hK.out _ _ hS4 ?_
        clear hK K
        simp only [Act.put, List.getD_cons_zero, List.getD_cons_succ, List.setIfInBounds_toArray, List.set_cons_zero, List.set_cons_succ]
        refine lin3_free (v := .pointer (some ⟨w.heap.size, i, none⟩)) (by rfl) ?_ ?_
        · intro w' hSw; simp only [List.getD_cons_zero, List.getD_cons_succ]; go_simp; done
        simp only [Act.put, List.getD_cons_zero, List.getD_cons_succ, List.setIfInBounds_toArray, List.set_cons_zero, List.set_cons_succ]
        refine lin3_one (fun K hK => ?_)
        simp only [List.getD_cons_zero, List.getD_cons_succ]
        go_simp
        refine hK.out _ _ HS5.out ?_
        clear hK K
        refine NoPanic.normal ?_
        generalize w4.setCell ⟨w.heap.size, i, none⟩ (.slice p m c) = w5 at HM5 HB5 HS5 ⊢
        clear hS4 hc4 hf4
        go_wp2
        go_roundw
        case rel => exact ⟨k + 1, _, hlt, by go_num, HM5, HB5⟩
        case measure => exact hms
    · have hd1 : decide ((k : Int) < (N : Int)) = false := by simp; omega
      have HM' : Hd (RowsO wr w.heap.size (.slice (some ⟨w.heap.size, 0, none⟩) n n) vs (rowsN n arcs 0)) := ⟨by
        have := HM.out
        rw [List.take_of_length_le (by rw [HN.out]; omega)] at this
        rw [rowsN_zero]; exact this⟩
      clear HM
      go_wp2
      go_loopw [33] (fun i wr => ∃ (k : Nat) (vs : List Value), k ≤ n ∧ i = .int .i64 k ∧ Hd (RowsO wr w.heap.size (.slice (some ⟨w.heap.size, 0, none⟩) n n) vs (rowsN n arcs k)) ∧ Hd (Below w.heap.size w wr)) (fun i _ => n - (intOf i).toNat)
      case atStart => exact ⟨0, vs, Nat.zero_le _, rfl, HM', HK⟩
      case round =>
        clear HM' HK hd1
        obtain ⟨j, vs, hj, rfl, HM, HK⟩ := hrel
        by_cases hlt2 : j < n
        · have hd2 : decide ((j : Int) < (n : Int)) = true := by simp; omega
          obtain ⟨u, hu, hcu, _, hOu, hug⟩ := HM.out.at (j := j) (by rw [rowsN_len]; exact hlt2)
          rw [rowsN_at hlt2] at hOu
          have hzl : (rowF arcs j).length ≤ 1000000 := by have := rowF_len arcs j; have := HL.out; have := HN.out; omega
          have HS := Hd.mk (sort_own wr w.heap.size u (rowF arcs j) hzl hOu)
          have HU := Hd.mk hu
          have HZ := Hd.mk hzl
          have hms2 : n - (intOf (.int .i64 ((j : Int) + 1))).toNat < n - (intOf (.int .i64 (j : Int))).toNat := by simp [intOf]; omega
          clear hOu hug hzl hu
          go_wp2_with fail
          refine HS.out.mono ?_
          rintro e w2 ⟨rfl, hO2, hk2⟩
          have hM2 := HM.out.inp HU.out hk2 hO2
          have hb2 : Below w.heap.size w w2 := HK.out.trans (hk2.below HK.out.size (fun g hg he => by have := (rowsK_lt HM.out (.inr ⟨j, u, HU.out, he⟩)).1; omega))
          have hc2 : w2.cell? ⟨w.heap.size, j, none⟩ = some u := (hM2.own.at HU.out).1
          have HC := Hd.mk (compact_own2 w2 w.heap.size u _ (by rw [List.length_mergeSort]; exact HZ.out) hO2)
          have HM2 := Hd.mk hM2
          have HB2 := Hd.mk hb2
          clear hO2 hk2 hM2 hb2 HS hcu
          go_wp2_with fail
          refine HC.out.mono ?_
          rintro e w3 ⟨v', rfl, hO3, hob, hk3⟩
          obtain ⟨p, c, rfl⟩ := hO3.slice'
          obtain ⟨hp1, hp2⟩ := HM2.out.put HU.out hk3 (l' := norm (rowF arcs j)) hO3 (.inl hob)
          have hb3 : Below w.heap.size w (w3.setCell ⟨w.heap.size, j, none⟩ (.slice p (ints (Lib.compact ((rowF arcs j).mergeSort fun x y => decide (x ≤ y)))).length c)) := HB2.out.trans (hp2.below HB2.out.size (fun g hg hr => by have := (rowsK_lt HM2.out hr).1; omega))
          have own3 := HM2.out.own.keeps hk3 (fun g hg he => HM2.out.ne j u g HU.out he hg)
          obtain ⟨hc3, hf3⟩ := own3.at HU.out
          obtain ⟨m, hm⟩ : ∃ m, (ints (Lib.compact ((rowF arcs j).mergeSort fun x y => decide (x ≤ y)))).length = m := ⟨_, rfl⟩
          rw [hm] at hp1 hb3 ⊢
          rw [List.set_set, rowsN_next hlt2] at hp1
          have HP := Hd.mk hp1
          have HB3 := Hd.mk hb3
          clear hp1 hp2 hb3 own3 hO3 hob hk3 HC hm hc2
          go_wp2
          generalize w3.setCell ⟨w.heap.size, j, none⟩ (.slice p m c) = w4 at HP HB3 ⊢
          exact ⟨⟨j + 1, _, hlt2, by go_num, HP, HB3⟩, hms2⟩
        · have hd2 : decide ((j : Int) < (n : Int)) = false := by simp; omega
          have hjn : j = n := by omega
          go_wp2
          go_ret
          refine ⟨_, vs, rfl, ?_, HK.out⟩
          have := HM.out
          rw [hjn, rowsN_end] at this
          exact this

end Go.Proofs.Ytmgkoocpnakanaa.W
