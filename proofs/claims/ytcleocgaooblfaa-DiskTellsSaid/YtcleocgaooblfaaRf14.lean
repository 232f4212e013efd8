/-
  DiskTells: the walks of the reference's New, Copy.
-/
import Derived.Test.YtcleocgaooblfaaRf13
namespace Go.Proofs.Ytcleocgaooblfaa.W
open Go.RowKit
set_option linter.unusedVariables false

theorem strs8_own {w : World} {B g : Nat} (hB : B ≤ g) (hb : Blk w g 9 [.string ⟨#[]⟩, .string ⟨#[]⟩, .string ⟨#[]⟩, .string ⟨#[]⟩, .string ⟨#[]⟩, .string ⟨#[]⟩, .string ⟨#[]⟩, .string ⟨#[]⟩]) : Own w B 9 (.slice (some ⟨g, 0, none⟩) 8 8) (newS.lasts.map strV) :=
  ⟨.inr ⟨g, 8, rfl, hB, Nat.le_refl _, by unfold maxLen; omega, ⟨_, _, hb.is, rfl⟩, fun j u hj => hb.at hj, fun j _ => hb.free j⟩⟩
theorem rmake_8 (w : World) : (Instr.makeSlice 40 (.int .i64 8) (.int .i64 8)).run Try.prog w = .ok (.slice (some ⟨w.heap.size, 0, none⟩) 8 8) (w.alloc (.cells #[.string ⟨#[]⟩, .string ⟨#[]⟩, .string ⟨#[]⟩, .string ⟨#[]⟩, .string ⟨#[]⟩, .string ⟨#[]⟩, .string ⟨#[]⟩, .string ⟨#[]⟩] 9)) := by kernel_rfl

theorem new_end (w : World) (B : Nat) (hB : B ≤ w.heap.size) : RRep ((w.alloc (.cells #[.string ⟨#[]⟩, .string ⟨#[]⟩, .string ⟨#[]⟩, .string ⟨#[]⟩, .string ⟨#[]⟩, .string ⟨#[]⟩, .string ⟨#[]⟩, .string ⟨#[]⟩] 9)).alloc (.cells #[.slice (some ⟨w.heap.size, 0, none⟩) 8 8, .slice none 0 0, .int .i64 0, .bool false, .int .i64 0, .slice none 0 0] 71)) B (w.heap.size + 1) newS ∧
    Keeps (fun _ => False) w ((w.alloc (.cells #[.string ⟨#[]⟩, .string ⟨#[]⟩, .string ⟨#[]⟩, .string ⟨#[]⟩, .string ⟨#[]⟩, .string ⟨#[]⟩, .string ⟨#[]⟩, .string ⟨#[]⟩] 9)).alloc (.cells #[.slice (some ⟨w.heap.size, 0, none⟩) 8 8, .slice none 0 0, .int .i64 0, .bool false, .int .i64 0, .slice none 0 0] 71)) := by
  have h1 := Blk.new w 9 [.string ⟨#[]⟩, .string ⟨#[]⟩, .string ⟨#[]⟩, .string ⟨#[]⟩, .string ⟨#[]⟩, .string ⟨#[]⟩, .string ⟨#[]⟩, .string ⟨#[]⟩]
  obtain ⟨w1, hw1⟩ : ∃ w1, w.alloc (.cells #[.string ⟨#[]⟩, .string ⟨#[]⟩, .string ⟨#[]⟩, .string ⟨#[]⟩, .string ⟨#[]⟩, .string ⟨#[]⟩, .string ⟨#[]⟩, .string ⟨#[]⟩] 9) = w1 := ⟨_, rfl⟩
  have h1 : Blk w1 w.heap.size 9 [.string ⟨#[]⟩, .string ⟨#[]⟩, .string ⟨#[]⟩, .string ⟨#[]⟩, .string ⟨#[]⟩, .string ⟨#[]⟩, .string ⟨#[]⟩, .string ⟨#[]⟩] := hw1 ▸ h1
  have k1 : Keeps (fun _ => False) w w1 := hw1 ▸ (Keeps.refl (fun _ => False) w).alloc _
  have hsz : w1.heap.size = w.heap.size + 1 := by rw [← hw1]; simp
  rw [hw1]
  have h2 := Blk.new w1 71 [.slice (some ⟨w.heap.size, 0, none⟩) 8 8, .slice none 0 0, .int .i64 0, .bool false, .int .i64 0, .slice none 0 0]
  have k2 : Keeps (fun _ => False) w1 (w1.alloc (.cells #[.slice (some ⟨w.heap.size, 0, none⟩) 8 8, .slice none 0 0, .int .i64 0, .bool false, .int .i64 0, .slice none 0 0] 71)) := (Keeps.refl (fun _ => False) w1).alloc _
  refine ⟨RMem.rep ⟨⟨_, _, _, ⟨by rw [← hsz]; exact h2, strs8_own hB (k2.blk h1 (fun h => h)), ⟨.inl ⟨rfl, none, rfl⟩⟩, ⟨.inl ⟨rfl, .inl rfl⟩⟩⟩⟩, by omega⟩ Ok.new Rd.new, k1.trans k2⟩

set_option maxHeartbeats 4000000 in
set_option maxRecDepth 100000 in
theorem rnew_any (w : World) (B : Nat) (hB : B ≤ w.heap.size) :
    Calls Try.prog 29 #[] w fun e w' => ∃ E, e = .returned (.pointer (some ⟨E, 0, none⟩)) ∧ RRep w' B E newS ∧ Keeps (fun _ => False) w w' := by
  have hm := rmake_8
  have HE := Hd.mk (new_end w B hB)
  clear hB
  go_enter Try.func29, Try.ntmps29
  go_wp2
  go_ret
  exact ⟨_, rfl, HE.out⟩

/-- what each operation of Copy yields -/
def CopyR (σ : St) (B : Nat) : Nat → Value → World → Prop
  | 0, v, w => B ≤ w.heap.size ∧ ∃ p, v = .slice p 0 0 ∧ w.ownsRow B 9 1 v 0 []
  | 5, v, w => ∃ p c, v = .slice p 8 c ∧ Own w B 9 v (σ.lasts.map strV)
  | 6, v, w => B ≤ w.heap.size ∧ ∃ p, v = .slice p 0 0 ∧ w.ownsRow B 80 3 v 0 []
  | 11, v, w => ∃ p c, v = .slice p σ.queue.length c ∧ PRow w B v σ.queue
  | 24, v, w => ∃ p, v = .slice p 0 0 ∧ w.ownsRow 0 3 1 v 0 []
  | 29, v, w => ∃ p c, v = .slice p σ.keep.length c ∧ IRow w v σ.keep
  | 30, v, w => B ≤ w.heap.size ∧ ∃ v5 v11 v29, v = .agg #[v5, v11, .int .i64 σ.lost, .bool σ.down, .int .i64 σ.armed, v29] ∧ Own w B 9 v5 (σ.lasts.map strV) ∧ PRow w B v11 σ.queue ∧ IRow w v29 σ.keep
  | 31, v, w => ∃ E, v = .pointer (some ⟨E, 0, none⟩) ∧ RRep w B E σ
  | 32, v, w => ∃ E, v = .pointer (some ⟨E, 0, none⟩) ∧ RRep w B E σ
  | _, _, _ => True
theorem CopyR.keep {σ : St} {B : Nat} : ∀ i v w w', CopyR σ B i v w → Keeps (fun _ => False) w w' → CopyR σ B i v w' := by
  intro i v w w' h k
  have s := k.size
  unfold CopyR at h ⊢
  split at h
  · obtain ⟨h0, p, e, h⟩ := h; exact ⟨by omega, p, e, row_keeps h k⟩
  · obtain ⟨p, c, e, h⟩ := h; exact ⟨p, c, e, h.keeps k (fun _ _ h => h)⟩
  · obtain ⟨h0, p, e, h⟩ := h; exact ⟨by omega, p, e, row_keeps h k⟩
  · obtain ⟨p, c, e, h⟩ := h; exact ⟨p, c, e, h.keeps k (fun _ _ _ _ h => h)⟩
  · obtain ⟨p, e, h⟩ := h; exact ⟨p, e, row_keeps h k⟩
  · obtain ⟨p, c, e, h⟩ := h; exact ⟨p, c, e, h.keeps k (fun _ _ _ _ h => h)⟩
  · obtain ⟨h0, a, b, c, e, h1, h2, h3⟩ := h; exact ⟨by omega, a, b, c, e, h1.keeps k (fun _ _ h => h), h2.keeps k (fun _ _ _ _ h => h), h3.keeps k (fun _ _ _ _ h => h)⟩
  · obtain ⟨E, e, h⟩ := h; exact ⟨E, e, h.next k⟩
  · obtain ⟨E, e, h⟩ := h; exact ⟨E, e, h.next k⟩
  · trivial

set_option maxHeartbeats 4000000 in
set_option maxRecDepth 100000 in
theorem rcopy_any (w : World) (B E : Nat) (σ : St) (hB : B ≤ w.heap.size) (hlen : σ.queue.length ≤ 1000000000) (hkk : σ.keep.length ≤ 1000000000) (h : RRep w B E σ) :
    Calls Try.prog 30 #[.pointer (some ⟨E, 0, none⟩)] w fun e w' => ∃ E', e = .returned (.pointer (some ⟨E', 0, none⟩)) ∧ RRep w' B E' σ ∧ Keeps (fun _ => False) w w' := by
  obtain ⟨lv, qv, kv, hc⟩ := h.cells
  have HC := Hd.mk hc
  have HR := Hd.mk h
  have HB := Hd.mk hB
  have HQ := Hd.mk (And.intro hlen hkk)
  clear h hc hB hlen hkk
  go_enter Try.func30, Try.ntmps30
  go_wp2_with fail
  refine wp_region_each default (fun w' => w'.cell? ⟨E, 0, none⟩ = some lv ∧ w'.cell? ⟨E, 1, none⟩ = some qv ∧ w'.cell? ⟨E, 2, none⟩ = some (.int .i64 σ.lost) ∧ w'.cell? ⟨E, 3, none⟩ = some (.bool σ.down) ∧ w'.cell? ⟨E, 4, none⟩ = some (.int .i64 σ.armed) ∧ w'.cell? ⟨E, 5, none⟩ = some kv)
    (CopyR σ B) (Keeps (fun _ => False)) [1, 2, 3, 4, 7, 8, 9, 10, 12, 13, 14, 15, 16, 17, 18, 19, 20, 21, 22, 23, 25, 26, 27, 28] [(0, some 3), (5, some 8), (6, some 9), (11, some 14), (24, some 27), (29, some 32), (30, some 33), (31, some 34), (32, some 2)] (fun j => if j = 32 then .pointer none else undef)
    (by kernel_rfl) (by kernel_rfl) rfl (by kernel_rfl) (by kernel_rfl) (by kernel_rfl) (Keeps.refl _) (fun _ _ _ h k => h.trans k) CopyR.keep ?_ ?_
  · intro w' k
    have hc' := HC.out.keeps ((Keeps.refl _ w).drew.trans k) (fun h => h) (fun _ _ h => h) (fun _ _ _ _ h => h) (fun _ _ _ _ h => h)
    exact ⟨hc'.b.at (j := 0) rfl, hc'.b.at (j := 1) rfl, hc'.b.at (j := 2) rfl, hc'.b.at (j := 3) rfl, hc'.b.at (j := 4) rfl, hc'.b.at (j := 5) rfl⟩
  simp only [List.map_cons, List.map_nil, List.getD_cons_zero, List.getD_cons_succ]
  repeat
    refine free_step (v := ?_) (by rfl) ?_ ?_
    rotate_left
    · intro w' hSw
      obtain ⟨d0, d1, d2, d3, d4, d5⟩ := hSw
      go_simp
      first | done | with_reducible rfl
    simp only [Act.put, List.setIfInBounds_toArray, List.set_cons_zero, List.set_cons_succ]
  refine ⟨by kernel_rfl, ?_, ?_⟩
  · simp only [StepsAt, List.getD_cons_zero, List.getD_cons_succ]
    refine ⟨?_, ?_, ?_, ?_, ?_, ?_, ?_, ?_, ?_, trivial⟩
    all_goals
      intro s w1 k hd K' hK'
      simp only [foldPut, List.foldl_cons, List.foldl_nil, Act.put, List.setIfInBounds_toArray, List.set_cons_zero, List.set_cons_succ] at hK' ⊢
    · clear hd
      go_simp
      refine hK'.out _ _ ⟨?_, _, rfl, empty_row2 _ _ ?_ _ _⟩ ((Keeps.refl _ _).alloc _)
      · have := HB.out; have := k.size; simp at this ⊢; omega
      · have := HB.out; have := k.size; simp at this; omega
    · obtain ⟨hb, p, e0, hrow⟩ := hd 0 (by kernel_rfl) (by kernel_rfl)
      rw [e0] at hrow hK' ⊢
      clear hd
      have hc' := HC.out.keeps ((Keeps.refl _ w).drew.trans k) (fun h => h) (fun _ _ h => h) (fun _ _ _ _ h => h) (fun _ _ _ _ h => h)
      obtain ⟨v', w2, p', c', h1, h2, h3, h4⟩ := app_strs w1 B hb lv σ.lasts HR.out.ok.l8 hc'.l p hrow
      rw [if_pos (by rfl)]
      refine oper_append (Operand.tmp 3) (Operand.tmp 7) 40 rfl _ _ rfl rfl h1 ?_
      simp only [Act.put, List.setIfInBounds_toArray, List.set_cons_zero, List.set_cons_succ]
      exact hK'.out _ _ ⟨p', c', h4, h2⟩ h3
    · clear hd
      go_simp
      refine hK'.out _ _ ⟨?_, _, rfl, empty_row2 _ _ ?_ _ _⟩ ((Keeps.refl _ _).alloc _)
      · have := HB.out; have := k.size; simp at this ⊢; omega
      · have := HB.out; have := k.size; simp at this; omega
    · obtain ⟨hb, p, e0, hrow⟩ := hd 6 (by kernel_rfl) (by kernel_rfl)
      rw [e0] at hrow hK' ⊢
      clear hd
      have hc' := HC.out.keeps ((Keeps.refl _ w).drew.trans k) (fun h => h) (fun _ _ h => h) (fun _ _ _ _ h => h) (fun _ _ _ _ h => h)
      obtain ⟨v', w2, p', c', h1, h2, h3, h4⟩ := app_pieces w1 B hb qv σ.queue HQ.out.1 hc'.q p hrow
      rw [if_pos (by rfl)]
      refine oper_append (Operand.tmp 9) (Operand.tmp 13) 69 rfl _ _ rfl rfl h1 ?_
      simp only [Act.put, List.setIfInBounds_toArray, List.set_cons_zero, List.set_cons_succ]
      exact hK'.out _ _ ⟨p', c', h4, h2⟩ h3
    · clear hd
      go_simp
      refine hK'.out _ _ ⟨_, rfl, empty_row2 _ _ (Nat.zero_le _) _ _⟩ ((Keeps.refl _ _).alloc _)
    · obtain ⟨p, e0, hrow⟩ := hd 24 (by kernel_rfl) (by kernel_rfl)
      rw [e0] at hrow hK' ⊢
      clear hd
      have hc' := HC.out.keeps ((Keeps.refl _ w).drew.trans k) (fun h => h) (fun _ _ h => h) (fun _ _ _ _ h => h) (fun _ _ _ _ h => h)
      obtain ⟨v', w2, p', c', h1, h2, h3, h4⟩ := app_ints w1 kv σ.keep HQ.out.2 (hc'.k.ir (fun _ _ _ _ h => h)) p hrow
      rw [if_pos (by rfl)]
      refine oper_append (Operand.tmp 27) (Operand.tmp 31) 22 rfl _ _ rfl rfl h1 ?_
      simp only [Act.put, List.setIfInBounds_toArray, List.set_cons_zero, List.set_cons_succ]
      exact hK'.out _ _ ⟨p', c', h4, h2⟩ h3
    · obtain ⟨p1, c1, e1, h1⟩ := hd 5 (by kernel_rfl) (by kernel_rfl)
      obtain ⟨p2, c2, e2, h2⟩ := hd 11 (by kernel_rfl) (by kernel_rfl)
      obtain ⟨p3, c3, e3, h3⟩ := hd 29 (by kernel_rfl) (by kernel_rfl)
      rw [e1] at h1; rw [e2] at h2; rw [e3] at h3
      rw [e1, e2, e3] at hK' ⊢
      clear hd
      have HH := Hd.mk (And.intro h1 (And.intro h2 h3))
      clear h1 h2 h3
      go_simp
      refine hK'.out _ _ ⟨?_, _, _, _, rfl, HH.out.1, HH.out.2.1, HH.out.2.2⟩ (Keeps.refl _ _)
      have := HB.out; have := k.size; simp at this; omega
    · obtain ⟨hb, v5, v11, v29, e0, h1, h2, h3⟩ := hd 30 (by kernel_rfl) (by kernel_rfl)
      rw [e0] at hK' ⊢
      obtain ⟨p1, c1, rfl⟩ := own_slice h1 (n := 8) (by rw [List.length_map]; exact HR.out.ok.l8)
      obtain ⟨p2, c2, rfl⟩ := h2.slice
      obtain ⟨p3, c3, rfl⟩ := h3.slice
      have HH := Hd.mk (And.intro h1 (And.intro h2 h3))
      clear hd h1 h2 h3
      go_simp
      have kk : Keeps (fun _ => False) w1 (w1.alloc (.cells #[.slice p1 8 c1, .slice p2 σ.queue.length c2, .int .i64 σ.lost, .bool σ.down, .int .i64 σ.armed, .slice p3 σ.keep.length c3] 71)) := (Keeps.refl _ _).alloc _
      exact hK'.out _ _ ⟨_, rfl, RMem.rep ⟨⟨_, _, _, ⟨Blk.new w1 71 _, HH.out.1.keeps kk (fun _ _ h => h), HH.out.2.1.keeps kk (fun _ _ _ _ h => h), HH.out.2.2.keeps kk (fun _ _ _ _ h => h)⟩⟩, hb⟩ HR.out.ok HR.out.rd⟩ kk
    · obtain ⟨E', e0, h1⟩ := hd 31 (by kernel_rfl) (by kernel_rfl)
      rw [e0] at hK' ⊢
      have HH := Hd.mk h1
      clear hd h1
      go_simp
      exact hK'.out _ _ ⟨_, rfl, HH.out⟩ (Keeps.refl _ _)
  · intro s w1 k hd
    obtain ⟨E', e0, h1⟩ := hd (32, some 2) (by simp)
    simp only [foldPut, List.foldl_cons, List.foldl_nil, Act.put, List.setIfInBounds_toArray, List.set_cons_zero, List.set_cons_succ]
    have e0' : s 32 = .pointer (some ⟨E', 0, none⟩) := e0
    rw [e0']
    have HH := Hd.mk (And.intro h1 k)
    clear hd h1 k e0 e0'
    refine NoPanic.normal ?_
    go_wp2
    go_ret
    exact ⟨E', rfl, HH.out.1, (Keeps.refl _ w).drew.trans HH.out.2⟩

end Go.Proofs.Ytcleocgaooblfaa.W
