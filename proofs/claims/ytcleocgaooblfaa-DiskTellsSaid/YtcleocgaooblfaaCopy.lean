/-
  The walks of slices.Clone at the queue, and Copy.
-/
import Derived.Test.YtcleocgaooblfaaClone
import Derived.Deep.Cut
namespace Go.Proofs.Ytcleocgaooblfaa.W
open Go.RowKit
set_option linter.unusedVariables false

theorem qCells_one (q : List Pn) : ∀ u ∈ qCells q, u.oneCell' = true := by
  intro u hu
  simp only [qCells, List.mem_flatMap] at hu
  obtain ⟨p, _, hp⟩ := hu
  simp only [pCells, List.mem_cons, List.not_mem_nil, or_false] at hp
  rcases hp with rfl | rfl | rfl <;> rfl

/-- a queue's row from an owned row -/
theorem QRow.of_row {w : World} {v : Value} {q : List Pn} (h : w.ownsRow 0 63 3 v q.length (qCells q)) : QRow w v q v.ownBlock := by
  rcases ho : v.ownBlock with _ | g
  · rcases h.2 with ⟨rfl, h0⟩ | ⟨g, cap, cur, rfl, _⟩
    · exact ⟨.inl ⟨rfl, List.length_eq_zero_iff.1 h0, none, rfl⟩⟩
    · cases ho
  · exact ⟨.inr ⟨g, rfl, ho, h⟩⟩

theorem add0 (g j : Nat) : (⟨g, 0, none⟩ : Addr).add j = ⟨g, j, none⟩ := by unfold Addr.add; split <;> simp_all

set_option maxHeartbeats 1000000 in
theorem cloneP_any (w : World) (v : Value) (q : List Pn) (O : Option Nat) (hk : q.length ≤ 1000000000) (h : QRow w v q O) :
    Calls Try.prog 46 #[v] w fun e w' => ∃ v' O', e = .returned v' ∧ QRow w' v' q O' ∧ (∀ k, O' = some k → w.heap.size ≤ k) ∧ Keeps (fun _ => False) w w' := by
  obtain ⟨i0, hi, hz0, hz1, hz2⟩ := info_parts infoPend
  have go : ∀ a c, v = .slice (some a) q.length c → (∀ j u, (qCells q)[j]? = some u → w.cell? (a.add j) = some u) → Calls Try.prog 46 #[v] w fun e w' => ∃ v' O', e = .returned v' ∧ QRow w' v' q O' ∧ (∀ k, O' = some k → w.heap.size ≤ k) ∧ Keeps (fun _ => False) w w' := by
    intro a c hv hc
    subst hv
    have hc2 : ∀ j u, (qCells q)[j]? = some u → (w.alloc (.cells #[] 63)).cell? (a.add j) = some u := fun j u hj => by
      rw [World.cell?_alloc_some _ _ _ (by rw [hc j u hj]; rfl)]; exact hc j u hj
    obtain ⟨v', w', hr, h2, h3, h5⟩ := run_row (P := Try.prog) (w.alloc (.cells #[] 63)) 56 56 63 Try.underlying56 hi hz0 hz1 hz2 rfl (by decide) _ 0 [] (empty_row w 63 3) a q.length c (qCells q) (qCells_len q) hc2 (qCells_one q) (by unfold maxLen; omega) (by omega)
    have HR := Hd.mk hr
    have HI : Hd (QRow w' v' q v'.ownBlock) := ⟨QRow.of_row (by simpa using h2)⟩
    have HK : Hd (Keeps (fun _ => False) w w') := ⟨Keeps.fresh (n := w.heap.size) (o := .cells #[] 63) (h3.mono (fun k _ e => (Option.some.inj e).symm)) rfl⟩
    have HF : Hd (∀ k, v'.ownBlock = some k → w.heap.size ≤ k) := ⟨fun k hk => by
      rcases h5 with h5 | h5
      · rw [hk] at h5
        have := Option.some.inj h5
        exact this ▸ Nat.le_refl _
      · rw [hk] at h5
        have := Option.some.inj h5
        rw [this]; simp⟩
    obtain ⟨n, hn⟩ : ∃ n, q.length = n := ⟨_, rfl⟩
    rw [hn] at HR
    rw [hn]
    clear hr h2 h3 h5 hc hc2 h
    have hn2 := eqP_some a n c w
    go_enter Try.func46, Try.ntmps46
    go_wp2_with (at_builtin; refine wp_append_run rfl (Operand.tmp 5) (Operand.tmp 6) 56 rfl _ _ (w.alloc (.cells #[] 63)) rfl rfl HR.out ?_)
    go_wp2
    go_ret
    exact ⟨_, _, rfl, HI.out, HF.out, HK.out⟩
  rcases h.is with ⟨rfl, rfl, p, rfl⟩ | ⟨g, rfl, hv, hrow⟩
  · rcases p with _ | a
    · have hn2 := eqP_nil w
      go_enter Try.func46, Try.ntmps46
      go_wp2
      go_ret
      exact ⟨_, none, rfl, h, fun k hk => by (cases hk), Keeps.refl _ _⟩
    · exact go a 0 rfl (fun j u hj => by simp [qCells] at hj)
  · rcases hrow.2 with ⟨rfl, h0⟩ | ⟨b, cap, cur, rfl, _⟩
    · cases hv
    · exact go _ cap rfl (fun j u hj => hrow.cells (g := b) rfl j u hj)

theorem Blk.setCells {b : Nat} {T : TypeId} : ∀ (us : List Value) (o : Nat) (w : World) (vs : List Value), Blk w b T vs → o + us.length ≤ vs.length → Blk (w.setCells b o us) b T (vs.take o ++ us ++ vs.drop (o + us.length))
  | [], o, w, vs, h, _ => h.cast (by simp)
  | u :: r, o, w, vs, h, hl => by
    simp only [List.length_cons] at hl
    have h1 := Blk.setCells r (o + 1) (w.setCell ⟨b, o, none⟩ u) (vs.set o u) (h.set o u) (by simp; omega)
    refine h1.cast ?_
    have e1 : (vs.set o u).take (o + 1) = vs.take o ++ [u] := by
      rw [List.take_succ_eq_append_getElem (by simp; omega), List.take_set_of_le (by omega)]
      simp
    have e2 : (vs.set o u).drop (o + 1 + r.length) = vs.drop (o + (u :: r).length) := by
      rw [List.drop_set_of_lt (by omega)]
      congr 1; simp; omega
    rw [e1, e2]
    simp

theorem cellsD_len {σ : St} (h : Ok σ) (qv kv : Value) : (cellsD σ qv kv).length = 21 := by simp [cellsD, h.l8, h.f8]

theorem cellsD_one {w : World} {σ : St} {qv kv : Value} {O : Option Nat} (hq : QRow w qv σ.queue O) (hk : IRow w kv σ.keep) : ∀ u ∈ cellsD σ qv kv, u.oneCell' = true := by
  obtain ⟨p, c, rfl⟩ := hq.slice
  obtain ⟨p2, c2, rfl⟩ := hk.slice
  intro u hu
  simp only [cellsD, List.mem_append, List.mem_map, List.mem_cons, List.not_mem_nil, or_false] at hu
  rcases hu with ⟨x, _, rfl⟩ | ⟨x, _, rfl⟩ | rfl | rfl | rfl | rfl | rfl <;> rfl

theorem keeps_setCells' {g : Nat} : ∀ (us : List Value) (o : Nat) (w : World), Keeps (· = g) w (w.setCells g o us)
  | [], _, w => Keeps.refl _ w
  | u :: r, o, w => by
    have h1 : Keeps (· = g) w (w.setCell ⟨g, o, none⟩ u) := (Keeps.refl (· = g) w).setCell (p := ⟨g, o, none⟩) (.inr rfl) u
    exact h1.trans (keeps_setCells' r (o + 1) _)

set_option maxHeartbeats 1000000 in
theorem copy_any (w : World) (D : Nat) (σ : St) (O : Option Nat) (hk : σ.queue.length ≤ 1000000000) (h : Rep w D σ O) :
    Calls Try.prog 28 #[.pointer (some ⟨D, 0, none⟩)] w fun e w' => ∃ O', e = .returned (.pointer (some ⟨w.heap.size, 0, none⟩)) ∧ Rep w' w.heap.size σ O' ∧ (∀ k, O' = some k → w.heap.size < k) ∧ Keeps (fun _ => False) w w' := by
  obtain ⟨qv, kv, hb, hQ, hK⟩ := h.is
  have hn := h.notInt
  have hlen := cellsD_len h.ok qv kv
  have hr : w.rangeAt D 0 (cellsD σ qv kv) := fun j v hj => by rw [Nat.zero_add]; exact hb.at hj
  have H := Hd.mk h
  have HQ := Hd.mk hQ
  have HK := Hd.mk hK
  have c16 := (Cells.of hb h.ok).q
  have HR := Hd.mk hr
  clear h hb hQ hK hn hr
  go_enter Try.func28, Try.ntmps28
  go_upto_region 1 with (fail)
  refine wp_region_lit ?_
  refine wpList_val rfl (by rfl) ?_
  refine wpList_val rfl (by rfl) ?_
  refine wpList_load_mid rfl 58 _ rfl D 0 rfl (cellsD σ qv kv) _ HR.out Try.underlying58 rfl (by rw [hlen]; kernel_rfl) ?_
  refine wpList_val rfl (v := .pointer (some ⟨w.heap.size, 0, none⟩)) (w' := w.alloc (.cells (cellsD newS (.slice none 0 0) (.slice none 0 0)).toArray 58)) (by kernel_rfl) ?_
  have hb0 := Blk.new w 58 (cellsD newS (.slice none 0 0) (.slice none 0 0))
  have hlen0 := cellsD_len Ok.new (.slice none 0 0) (.slice none 0 0)
  have hth : (w.alloc (.cells (cellsD newS (.slice none 0 0) (.slice none 0 0)).toArray 58)).there w.heap.size 0 (cellsD σ qv kv).toArray.size := fun j hj => by
    rw [Nat.zero_add]
    rw [List.size_toArray, hlen] at hj
    exact ⟨by rw [hb0.cell, List.getElem?_eq_getElem (by omega)]; rfl, hb0.free j⟩
  have hone : (cellsD σ qv kv).toArray.all (·.oneCell') = true := all_oneCell_toArray (cellsD_one HQ.out HK.out)
  refine wpList_store_mid rfl 58 _ _ rfl w.heap.size 0 (cellsD σ qv kv).toArray rfl rfl hth (by rw [List.size_toArray, hlen]; kernel_rfl) hone ?_
  show wpList _ _ _ [] _ _
  have hb1 := Blk.setCells (cellsD σ qv kv) 0 _ _ hb0 (by rw [hlen, hlen0]; omega)
  rw [List.take_zero, List.nil_append, List.drop_eq_nil_of_le (by rw [hlen, hlen0]; omega), List.append_nil] at hb1
  have hk1 : Keeps (fun _ => False) w ((w.alloc (.cells (cellsD newS (.slice none 0 0) (.slice none 0 0)).toArray 58)).setCells w.heap.size 0 (cellsD σ qv kv)) := (keeps_setCells' (cellsD σ qv kv) 0 (w.alloc (.cells (cellsD newS (.slice none 0 0) (.slice none 0 0)).toArray 58))).fresh rfl
  obtain ⟨W1, hW1⟩ : ∃ W1, (w.alloc (.cells (cellsD newS (.slice none 0 0) (.slice none 0 0)).toArray 58)).setCells w.heap.size 0 (cellsD σ qv kv) = W1 := ⟨_, rfl⟩
  rw [hW1] at hb1 hk1
  rw [show (cellsD σ qv kv).toArray.toList = cellsD σ qv kv from rfl, hW1]
  have hQ1 := HQ.out.keeps hk1 (fun _ _ h => h)
  have hK1 := HK.out.keeps hk1 (fun _ _ _ _ h => h)
  have c16' : W1.cell? ⟨D, 16, none⟩ = some qv := by
    have hbD := hk1.block D H.out.lt (fun h => h)
    rw [World.cell?_of_block (a := ⟨D, 16, none⟩) hbD]; exact c16
  have HC := Hd.mk (cloneP_any W1 qv σ.queue O hk hQ1)
  have hlt : w.heap.size < W1.heap.size := hb1.lt
  have HB1 := Hd.mk hb1
  have HK1 := Hd.mk hk1
  have HI1 := Hd.mk hK1
  have HLT := Hd.mk hlt
  clear hb0 hlen0 hth hone hb1 hk1 hQ1 hK1 hlt hW1 c16 HR hlen
  go_wp2_with fail
  refine HC.out.mono ?_
  rintro e w2 ⟨v', O', rfl, hq2, hf2, hk2⟩
  obtain ⟨p2, cv2, rfl⟩ := hq2.slice
  have hb2 := hk2.blk HB1.out (fun h => h)
  have hc2 := Cells.of hb2 H.out.ok
  have c2 := hc2.q
  have f2 := hc2.free 16
  have hI2 := HI1.out.keeps hk2 (fun _ _ _ _ h => h)
  have KS : Keeps (· = w.heap.size) w2 (w2.setCell ⟨w.heap.size, 16, none⟩ (.slice p2 σ.queue.length cv2)) := (Keeps.refl (· = w.heap.size) w2).setCell (p := ⟨w.heap.size, 16, none⟩) (.inr rfl) _
  have HF : Hd (∀ k, O' = some k → w.heap.size < k) := ⟨fun k hk => Nat.lt_of_lt_of_le HLT.out (hf2 k hk)⟩
  have HREP : Hd (Rep (w2.setCell ⟨w.heap.size, 16, none⟩ (.slice p2 σ.queue.length cv2)) w.heap.size σ O') := ⟨⟨⟨_, kv, (hb2.set 16 _).cast (set_queue H.out.ok qv kv _ σ.queue), hq2.keeps KS (fun g hg e => Nat.lt_irrefl _ (e ▸ HF.out g hg)), hI2.keeps KS (fun g cur fz hg e => by
    subst e
    rw [hb2.is] at hg
    injection hg with hg; injection hg with _ hg _; exact absurd hg (by decide))⟩, H.out.ok⟩⟩
  have HKK : Hd (Keeps (fun _ => False) w (w2.setCell ⟨w.heap.size, 16, none⟩ (.slice p2 σ.queue.length cv2))) := ⟨(HK1.out.trans hk2).setCell (p := ⟨w.heap.size, 16, none⟩) (.inl (Nat.le_refl _)) _⟩
  clear hb2 hc2 hI2 KS hq2 hf2 hk2
  go_wp2
  go_ret
  exact ⟨O', rfl, HREP.out, HF.out, HKK.out⟩

end Go.Proofs.Ytcleocgaooblfaa.W
