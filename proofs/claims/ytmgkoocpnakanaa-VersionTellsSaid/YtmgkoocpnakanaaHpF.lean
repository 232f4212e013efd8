/-
  The heap: Push, Pop.
-/
import Derived.Test.YtmgkoocpnakanaaHpE
namespace Go.Proofs.Ytmgkoocpnakanaa.W
open Go.RowKit
set_option linter.unusedVariables false

section
variable {L : List Asr} {a b q B hb : Nat} {pv : Value} {pvs : List Value} {ls : List (List Int)} {key : Nat → Nat}

theorem HpA.size {w : World} {g m c : Nat} {hl : List Nat} (h : HpA w L a b q B hb (.slice (some ⟨g, 0, none⟩) m c) pv pvs ls key hl) : m = hl.length ∧ m ≤ c := by
  rcases h.own.is with ⟨e, _⟩ | ⟨g', cap, e, _, h1, _⟩
  · cases e
  · injection e with _ e1 e2; subst e2; rw [e1]; simp at h1 ⊢; exact h1

/-- the row's slice changes, and is laid back -/
theorem HpA.renew {w w' : World} {hv hv' : Value} {hl hl' : List Nat} (h : HpA w L a b q B hb hv pv pvs ls key hl) (ho : Own w' B 44 hv' (hl'.map fun k => pvs.getD k undef)) (k : Keeps (fun g => hv.ownBlock = some g) w w')
    (hb' : hv'.ownBlock = hv.ownBlock ∨ hv'.ownBlock = none ∨ ∃ g, w.heap.size ≤ g ∧ hv'.ownBlock = some g) (hbig : hl'.length ≤ 262144) (hkeys : ∀ k, k ∈ hl' → ∃ r, ls[k]? = some ((key k : Int) :: r)) :
    HpA (w'.setCell ⟨hb, 0, none⟩ hv') L a b q B hb hv' pv pvs ls key hl' ∧ w'.cell? ⟨hb, 0, none⟩ = some hv ∧ w'.frozen? ⟨hb, 0, none⟩ = false := by
  have h1 := h.sep.put_own b (List.getElem?_set_self (by simpa using h.bl)) k ho hb'
  rw [List.set_set] at h1
  have e : ((L.set a (oC B hb 68 [hv])).set b (oI B 44 hv' (hl'.map fun k => pvs.getD k undef)))[a]? = some (oC B hb 68 [hv]) := by
    rw [List.getElem?_set_ne (fun e => h.ab e.symm)]; exact List.getElem?_set_self h.al
  have h2 := h1.set_blk a e 0 hv'
  rw [List.set_comm _ _ (fun e => h.ab e.symm), List.set_set] at h2
  exact ⟨⟨h2, h.ab, h.qb, h.qa, h.al, h.bl, h.lq, hbig, hkeys⟩, (h1.blk a e).at rfl, (h1.blk a e).free 0⟩

set_option maxHeartbeats 4000000 in
set_option maxRecDepth 100000 in
theorem fpop_any (w : World) (g m c n : Nat) (hl : List Nat) (h : HpA w L a b q B hb (.slice (some ⟨g, 0, none⟩) m c) pv pvs ls key hl) (hB : B ≤ w.heap.size) (hn : hl.length = n + 1) :
    Calls Try.prog 112 #[.pointer (some ⟨hb, 0, none⟩)] w fun e w' => e = .returned (.iface 44 (pvs.getD (hl.getD n 0) undef)) ∧ HpA w' L a b q B hb (.slice (some ⟨g, 0, none⟩) n c) pv pvs ls key (hl.take n) ∧ Below B w w' := by
  obtain ⟨hm, hmc⟩ := h.size
  have hbg := h.big
  have hv := h.var
  have c0 := hv.1.at (j := 0) rfl
  have c1 := (h.own.at (map_getD (fun k => pvs.getD k undef) (i := n) (by omega))).1
  obtain ⟨gi, mi, ci, e1, e2⟩ := h.elem (i := n) (by omega)
  rw [e1] at c1 ⊢
  have ho := (h.own.pre (k := n) (by simp; omega))
  rw [← List.map_take] at ho
  obtain ⟨h1, _, z0⟩ := h.renew ho (Keeps.refl _ w) (.inl rfl) (by simp; omega) (fun k hk => h.keys k (List.mem_of_mem_take hk))
  have HH := Hd.mk h1
  have HB2 : Hd (Below B w (w.setCell ⟨hb, 0, none⟩ (.slice (some ⟨g, 0, none⟩) n c))) := ⟨((Keeps.refl (fun g => B ≤ g) w).setCell (p := ⟨hb, 0, none⟩) (.inr hv.2) _).below hB (fun k h1 h2 => by omega)⟩
  have hm' : m = n + 1 := by omega
  subst hm'
  have hs : IntKind.i64.wrap (n : Int) = (n : Int) := by rw [IntWalk.i64_in _ (by omega)]
  have hnc : n ≤ c := by omega
  clear h hv h1 ho hm e1 e2 hn hbg
  go_enter Try.func112, Try.ntmps112
  go_wp2
  go_ret
  exact ⟨rfl, HH.out, HB2.out⟩

set_option maxHeartbeats 4000000 in
set_option maxRecDepth 100000 in
theorem fpush_any (w : World) (hv : Value) (hl : List Nat) (k : Nat) (h : HpA w L a b q B hb hv pv pvs ls key hl) (hB : B ≤ w.heap.size) (hk : ∃ r, ls[k]? = some ((key k : Int) :: r)) (hbig : hl.length + 1 ≤ 262144) :
    Calls Try.prog 113 #[.pointer (some ⟨hb, 0, none⟩), .iface 44 (pvs.getD k undef)] w fun e w' => e = .returned (.tuple #[]) ∧ ∃ g m c, HpA w' L a b q B hb (.slice (some ⟨g, 0, none⟩) m c) pv pvs ls key (hl ++ [k]) ∧ Below B w w' := by
  obtain ⟨r, hr⟩ := hk
  obtain ⟨gi, ci, e1, _⟩ := part_key h.parts hr
  obtain ⟨n, hn⟩ : ∃ n, r.length + 1 = n := ⟨_, rfl⟩
  have HK : Hd (∃ r, ls[k]? = some ((key k : Int) :: r)) := ⟨r, hr⟩
  rw [hn] at e1
  have HE1 := Hd.mk e1
  rw [e1]
  have HO := Hd.mk h.own
  have HH := Hd.mk h
  have c0 := h.var.1.at (j := 0) rfl
  have ca : (w.alloc (.cells #[.slice (some ⟨gi, 0, none⟩) n ci] 44)).cell? ⟨hb, 0, none⟩ = some hv := ((Sep.alloc h.sep _).blk a (by rw [List.getElem?_set_ne (fun e => h.ab e.symm)]; exact List.getElem?_set_self h.al)).at rfl
  obtain ⟨i0, hi0, hz0, hz1, hz2⟩ := info_parts infoInts
  have HI0 := Hd.mk (And.intro hi0 (And.intro hz0 (And.intro hz1 hz2)))
  have HW : Hd (Keeps (fun _ => False) w (w.drew.alloc (.cells #[.slice (some ⟨gi, 0, none⟩) n ci] 44))) := ⟨((Keeps.refl (fun _ => False) w).drew).alloc _⟩
  have hta : ∀ w' : World, (Instr.typeAssert (.iface 44 (.slice (some ⟨gi, 0, none⟩) n ci)) 20 44 false).run Try.prog w' = .ok (.slice (some ⟨gi, 0, none⟩) n ci) w' := fun w' => by simp [Instr.typeAssert, run_underlying Try.underlying44, go_sem, Result.andThen]
  clear hi0 hz0 hz1 hz2 e1 h hr hn
  go_enter Try.func113, Try.ntmps113
  go_upto_region 0 with (fail)
  refine wp_region_lin3 default (fun w' => True) [.free 0, .free 1, .free 2, .free 4, .free 5, .fl 3 [6], .one 7, .free 8, .one 9] (by kernel_rfl) (by kernel_rfl) rfl (by kernel_rfl) (by kernel_rfl) trivial ?_
  repeat
    refine lin3_free (v := ?_) (by rfl) ?_ ?_
    rotate_left
    · intro w' hSw
      simp only [List.getD_cons_zero, List.getD_cons_succ]
      go_simp
      first | done | with_reducible rfl
    simp only [Act.put, List.getD_cons_zero, List.getD_cons_succ, List.setIfInBounds_toArray, List.set_cons_zero, List.set_cons_succ]
  refine lin3_fl (getB_intro (fun K hK => ?_)) (getB_intro (fun K hK => ?_))
  all_goals simp only [List.getD_cons_zero, List.getD_cons_succ]
  all_goals go_simp
  all_goals refine hK.out _ _ trivial ?_
  all_goals clear hK K
  all_goals first | refine seq_cons (getB_intro (fun K hK => ?_)) | refine fl_nil (getB_intro (fun K hK => ?_))
  all_goals simp only [List.getD_cons_zero, List.getD_cons_succ]
  all_goals go_simp
  all_goals refine hK.out _ _ trivial ?_
  all_goals clear hK K
  all_goals try refine seq_nil ?_
  all_goals refine lin3_one (fun K hK => ?_)
  all_goals refine step_app1 (by rfl) (Operand.tmp 7) (Operand.tmp 10) 68 (by rfl) 44 Try.underlying68 HI0.out.1 HI0.out.2.1 HI0.out.2.2.1 HI0.out.2.2.2 rfl hv (hl.map fun k => pvs.getD k undef) (.slice (some ⟨gi, 0, none⟩) n ci) (w.drew.alloc (.cells #[.slice (some ⟨gi, 0, none⟩) n ci] 44)) w.heap.size 1 (by rfl) (HO.out.keeps HW.out (fun _ _ h => h)) (by rfl) ⟨_, _, heap_alloc_new _ _⟩ rfl (by rw [List.length_map]; unfold maxLen; omega) (by rw [List.length_map]; omega) (Nat.le_trans hB HW.out.size) ?_
  all_goals
    intro v' w4 h1 h2 h3
    have k2 : Keeps (fun g => hv.ownBlock = some g) w w4 := (HW.out.mono (fun _ _ h => h.elim)).trans h2
    have ho2 : Own w4 B 44 v' ((hl ++ [k]).map fun k => pvs.getD k undef) := by rw [List.map_append]; simp only [List.map_cons, List.map_nil]; rw [HE1.out]; exact h1
    obtain ⟨g4, c4, hv4⟩ := ho2.slice (by simp)
    obtain ⟨m4, hm4⟩ : ∃ m4, ((hl ++ [k]).map fun k => pvs.getD k undef).length = m4 := ⟨_, rfl⟩
    rw [hm4] at hv4
    subst hv4
    obtain ⟨p1, p2, p3⟩ := HH.out.renew ho2 k2 (h3.imp_right (fun ⟨g, h4, h5⟩ => .inr ⟨g, Nat.le_trans HW.out.size h4, h5⟩)) (by simp; omega) (fun j hj => by
      rcases List.mem_append.1 hj with hj | hj
      · exact HH.out.keys j hj
      · simp at hj; subst hj; exact HK.out)
    have P1 := Hd.mk p1
    have PB : Hd (Below B w (w4.setCell ⟨hb, 0, none⟩ (.slice (some ⟨g4, 0, none⟩) m4 c4))) := ⟨((k2.mono (S' := fun g => B ≤ g) (fun g _ hg => (HO.out.lt hg).1)).setCell (p := ⟨hb, 0, none⟩) (.inr HH.out.var.2) _).below hB (fun k h1 h2 => by omega)⟩
    clear p1 h1 h2 h3 k2 ho2 hm4
    refine hK.out _ _ trivial ?_
    clear hK K
    simp only [Act.put, List.getD_cons_zero, List.getD_cons_succ, List.setIfInBounds_toArray, List.set_cons_zero, List.set_cons_succ]
    refine lin3_free (v := ?_) (by rfl) ?_ ?_
    rotate_left
    · intro w' hSw
      simp only [List.getD_cons_zero, List.getD_cons_succ]
      go_simp
      first | done | with_reducible rfl
    simp only [Act.put, List.getD_cons_zero, List.getD_cons_succ, List.setIfInBounds_toArray, List.set_cons_zero, List.set_cons_succ]
    refine lin3_one (fun K hK => ?_)
    simp only [List.getD_cons_zero, List.getD_cons_succ]
    go_simp
    refine hK.out _ _ trivial ?_
    clear hK K
    refine NoPanic.normal ?_
    clear p2 p3
    go_wp2
    go_end0
    exact ⟨rfl, g4, m4, c4, P1.out, PB.out⟩

theorem m_len0 (h : Nat) (hv : Value) (w : World) (hc : w.cell? ⟨h, 0, none⟩ = some hv) (hs : ∃ p m c, hv = .slice p m c) : (method 243 67 (.pointer (some ⟨h, 0, none⟩)) "Len").run Try.prog w = .ok (110, hv) w := by
  obtain ⟨p, m, c, rfl⟩ := hs
  exact m_len h m c p w hc

set_option maxHeartbeats 4000000 in
set_option maxRecDepth 100000 in
theorem hpush_any (w : World) (hv : Value) (hl : List Nat) (k : Nat) (h : HpA w L a b q B hb hv pv pvs ls key hl) (ho : Tj.HeapO key hl hl.length) (hB : B ≤ w.heap.size) (hk : ∃ r, ls[k]? = some ((key k : Int) :: r)) (hbig : hl.length + 1 ≤ 262144) :
    Calls Try.prog 43 #[.iface 67 (.pointer (some ⟨hb, 0, none⟩)), .iface 44 (pvs.getD k undef)] w fun e w' => e = .returned (.tuple #[]) ∧ ∃ hv' hl', HpA w' L a b q B hb hv' pv pvs ls key hl' ∧ hl'.Perm (k :: hl) ∧ Tj.HeapO key hl' hl'.length ∧ Below B w w' := by
  have HP := Hd.mk (fpush_any w hv hl k h hB hk hbig)
  have HO := Hd.mk ho
  have mp := m_push hb w
  clear h ho hk
  go_enter Try.func43, Try.ntmps43
  go_wp2_with fail
  refine HP.out.mono ?_
  rintro e w1 ⟨rfl, g, m, c, h1, hb1⟩
  obtain ⟨hm, _⟩ := h1.size
  have hm1 : m = hl.length + 1 := by rw [hm]; simp
  subst hm1
  have c0 := h1.var.1.at (j := 0) rfl
  have ml := m_len hb (hl.length + 1) c (some ⟨g, 0, none⟩) w1 c0
  have HL := Hd.mk (flen_any w1 (some ⟨g, 0, none⟩) (hl.length + 1) c)
  have HU := Hd.mk (up_any w1 g (hl.length + 1) c hl.length (hl ++ [k]) h1 (Nat.le_trans hB hb1.size) (by rw [List.length_append]; exact Tj.UpO.start HO.out))
  have HB1 := Hd.mk hb1
  have hs : IntKind.i64.wrap (hl.length : Int) = (hl.length : Int) := by rw [IntWalk.i64_in _ (by omega)]
  clear hb1 h1 hm HP mp
  go_wp2_with fail
  refine HL.out.mono ?_
  rintro e w2 ⟨rfl, rfl⟩
  go_wp2_with fail
  refine HU.out.mono ?_
  rintro e w3 ⟨rfl, h3, hh, hp, ho3, hb3⟩
  have HH := Hd.mk hh
  have HB3 := Hd.mk (HB1.out.trans hb3)
  have HP3 := Hd.mk (And.intro hp ho3)
  clear hh hb3 hp ho3 HU HL ml c0
  go_wp2
  go_end0
  refine ⟨rfl, _, h3, HH.out, HP3.out.1.trans (List.perm_append_singleton _ _), ?_, HB3.out⟩
  rw [HP3.out.1.length_eq]
  exact HP3.out.2

set_option maxHeartbeats 4000000 in
set_option maxRecDepth 100000 in
theorem hpop_any (w : World) (hv : Value) (hl : List Nat) (n : Nat) (h : HpA w L a b q B hb hv pv pvs ls key hl) (ho : Tj.HeapO key hl hl.length) (hB : B ≤ w.heap.size) (hn : hl.length = n + 1) :
    Calls Try.prog 44 #[.iface 67 (.pointer (some ⟨hb, 0, none⟩))] w fun e w' => e = .returned (.iface 44 (pvs.getD (hl.getD 0 0) undef)) ∧ ∃ hv' hl', HpA w' L a b q B hb hv' pv pvs ls key hl' ∧ (hl.getD 0 0 :: hl').Perm hl ∧ Tj.HeapO key hl' hl'.length ∧ Below B w w' := by
  obtain ⟨g, c, hvs⟩ := h.own.slice (by simp; omega)
  rw [show (hl.map fun k => pvs.getD k undef).length = n + 1 by simp [hn]] at hvs
  subst hvs
  have hbg := h.big
  have c0 := h.var.1.at (j := 0) rfl
  have ml := m_len hb (n + 1) c (some ⟨g, 0, none⟩) w c0
  have ms := m_swap hb (n + 1) c (some ⟨g, 0, none⟩) w c0
  have HL := Hd.mk (flen_any w (some ⟨g, 0, none⟩) (n + 1) c)
  have HSw := Hd.mk (h.swapC (i := 0) (j := n) (by omega) (by omega) hB)
  have hs : IntKind.i64.wrap (n : Int) = (n : Int) := by rw [IntWalk.i64_in _ (by omega)]
  have HN := Hd.mk hn
  have HD := Hd.mk (Tj.DnO.start ho (by omega))
  clear h ho hn hbg
  go_enter Try.func44, Try.ntmps44
  go_wp2_with fail
  refine HL.out.mono ?_
  rintro e w2 ⟨rfl, rfl⟩
  go_wp2_with fail
  refine HSw.out.mono ?_
  rintro e w2 ⟨rfl, h2, hb2⟩
  have HDn := Hd.mk (down_any w2 g (n + 1) c n (Tj.swapL hl 0 n) h2 (Nat.le_trans hB hb2.size) (by rw [Tj.swapL_len]; exact HN.out) (by have := HD.out; rw [HN.out] at this; exact this))
  have HB2 := Hd.mk hb2
  clear hb2 h2 HSw HL ml ms c0
  go_wp2_with fail
  refine HDn.out.mono ?_
  rintro e w3 ⟨⟨bb, rfl⟩, h3, hh, hp, ho3, he, hb3⟩
  have mp := m_pop hb w3
  have hl3 : h3.length = n + 1 := by rw [hp.length_eq, Tj.swapL_len]; exact HN.out
  have HPp := Hd.mk (fpop_any w3 g (n + 1) c n h3 hh (Nat.le_trans hB (Nat.le_trans HB2.out.size hb3.size)) hl3)
  have hg0 : h3.getD n 0 = hl.getD 0 0 := by
    rw [he, Tj.swapL_get (by have := HN.out; omega) (by have := HN.out; omega), if_pos rfl]
  rw [hg0] at HPp
  have HB3 := Hd.mk (HB2.out.trans hb3)
  have HQ : Hd ((hl.getD 0 0 :: h3.take n).Perm hl ∧ Tj.HeapO key (h3.take n) (h3.take n).length) := ⟨by
    refine ⟨?_, ?_⟩
    · have e1 : h3 = h3.take n ++ [h3.getD n 0] := by
        rw [List.getD_eq_getElem?_getD, List.getElem?_eq_getElem (by omega), Option.getD_some]
        conv => lhs; rw [← List.take_append_drop n h3]
        congr 1
        rw [List.drop_eq_getElem_cons (by omega), List.drop_of_length_le (by omega)]
      rw [hg0] at e1
      have e2 : (h3.take n ++ [hl.getD 0 0]).Perm hl := by
        rw [← e1]
        exact hp.trans (Tj.swapL_perm (by have := HN.out; omega) (by have := HN.out; omega))
      exact (List.perm_append_singleton _ _).symm.trans e2
    · rw [List.length_take, Nat.min_eq_left (by omega)]
      exact ho3.take⟩
  clear hh hp ho3 he hb3 hl3 hg0 HDn
  go_wp2_with fail
  refine HPp.out.mono ?_
  rintro e w4 ⟨rfl, h4, hb4⟩
  have H4 := Hd.mk h4
  have HB4 := Hd.mk (HB3.out.trans hb4)
  clear h4 hb4 HPp mp
  go_wp2
  go_ret
  exact ⟨rfl, _, _, H4.out, HQ.out.1, HQ.out.2, HB4.out⟩

end

end Go.Proofs.Ytmgkoocpnakanaa.W
