/-
  The walks of slices.Clone, Arm, Copy.
-/
import Derived.Test.YtmcdfhihfcfbaaaEasy
import Derived.Test.YtmcdfhihfcfbaaaApp
import Derived.Deep.RegionHeld
namespace Go.Proofs.Ytmcdfhihfcfbaaa.W
open Go.RowKit
set_option linter.unusedVariables false

theorem eqI_nil (w : World) : (binOp .eql 32 (.slice none 0 0) (.slice none 0 0)).run Try.prog w = .ok (.bool true) w := by kernel_rfl
theorem eqI_some (a : Addr) (n c : Nat) (w : World) : (binOp .eql 32 (.slice (some a) n c) (.slice none 0 0)).run Try.prog w = .ok (.bool false) w := by kernel_rfl
theorem eqP_nil (w : World) : (binOp .eql 68 (.slice none 0 0) (.slice none 0 0)).run Try.prog w = .ok (.bool true) w := by kernel_rfl
theorem eqP_some (a : Addr) (n c : Nat) (w : World) : (binOp .eql 68 (.slice (some a) n c) (.slice none 0 0)).run Try.prog w = .ok (.bool false) w := by kernel_rfl

theorem infoInt : (Try.prog.info? 3).map (fun i => (i.zero, i.size, i.bytes)) = some (some (.int .i64 0), 1, 8) := by kernel_rfl
theorem infoPend : (Try.prog.info? 91).map (fun i => (i.zero, i.size, i.bytes)) = some (some (.agg #[.int .i64 0, .int .i64 0, .string ⟨#[]⟩]), 3, 32) := by kernel_rfl

def intsV (ks : List Int) : List Value := ks.map fun k => .int .i64 k

theorem IRow.of_row {w : World} {v : Value} {ks : List Int} (h : w.ownsRow 0 3 1 v ks.length (intsV ks)) : IRow w v ks := by
  have hO := Own.of_row h
  rcases hO.is with ⟨rfl, h0⟩ | ⟨g, cap, rfl, _, _, _, ⟨cur, fz, hg, _⟩, hc, _⟩
  · have : ks = [] := by simpa [intsV] using h0
    exact ⟨.inl ⟨this, .inl rfl⟩⟩
  · refine ⟨.inr ⟨g, 0, cap, by simp [intsV], ⟨cur, fz, hg⟩, fun j x hj => ?_⟩⟩
    rw [Nat.zero_add]
    exact hc j _ (by simp [intsV, hj])

theorem empty_row (w : World) (e : TypeId) (size : Nat) : (w.alloc (.cells #[] e)).ownsRow 0 e size (.slice (some ⟨w.heap.size, 0, none⟩) 0 0) 0 [] :=
  ⟨by simp, .inr ⟨w.heap.size, 0, #[], rfl, Nat.zero_le _, (Blk.new w e []).is, Nat.le_refl _, by unfold maxLen; omega, by simp, by simp⟩⟩

set_option maxHeartbeats 1000000 in
theorem cloneI_any (w : World) (v : Value) (ks : List Int) (hk : ks.length ≤ 1000000000) (h : IR (fun _ => False) w v ks) :
    Calls Try.prog 69 #[v] w fun e w' => ∃ v', e = .returned v' ∧ IRow w' v' ks ∧ Keeps (fun _ => False) w w' := by
  obtain ⟨i0, hi, hz0, hz1, hz2⟩ := info_parts infoInt
  have go : ∀ a c, v = .slice (some a) ks.length c → (∀ j u, (intsV ks)[j]? = some u → w.cell? (a.add j) = some u) → Calls Try.prog 69 #[v] w fun e w' => ∃ v', e = .returned v' ∧ IRow w' v' ks ∧ Keeps (fun _ => False) w w' := by
    intro a c hv hc
    subst hv
    have hc2 : ∀ j u, (intsV ks)[j]? = some u → (w.alloc (.cells #[] 3)).cell? (a.add j) = some u := fun j u hj => by
      rw [World.cell?_alloc_some _ _ _ (by rw [hc j u hj]; rfl)]; exact hc j u hj
    obtain ⟨v', w', hr, h2, h3, h5⟩ := run_row (P := Try.prog) (w.alloc (.cells #[] 3)) 32 32 3 Try.underlying32 hi hz0 hz1 hz2 rfl (by decide) _ 0 [] (empty_row w 3 1) a ks.length c (intsV ks) (by simp [intsV]) hc2 (fun u hu => by simp [intsV] at hu; obtain ⟨x, _, rfl⟩ := hu; rfl) (by unfold maxLen; omega) (by omega)
    have HR := Hd.mk hr
    have HI : Hd (IRow w' v' ks) := ⟨IRow.of_row (by simpa using h2)⟩
    have HK : Hd (Keeps (fun _ => False) w w') := ⟨Keeps.fresh (n := w.heap.size) (o := .cells #[] 3) (h3.mono (fun k _ e => (Option.some.inj e).symm)) rfl⟩
    obtain ⟨n, hn⟩ : ∃ n, ks.length = n := ⟨_, rfl⟩
    rw [hn] at HR
    rw [hn]
    clear hr h2 h3 h5 hc hc2 h
    have hn2 := eqI_some a n c w
    go_enter Try.func69, Try.ntmps69
    go_wp2_with (at_builtin; refine wp_append_run rfl (Operand.tmp 5) (Operand.tmp 6) 32 rfl _ _ (w.alloc (.cells #[] 3)) rfl rfl HR.out ?_)
    go_wp2
    go_ret
    exact ⟨_, rfl, HI.out, HK.out⟩
  rcases h.is with ⟨rfl, rfl | ⟨a, c, rfl⟩⟩ | ⟨g, o, cap, rfl, _, hc⟩
  · have hn2 := eqI_nil w
    go_enter Try.func69, Try.ntmps69
    go_wp2
    go_ret
    exact ⟨_, rfl, ⟨.inl ⟨rfl, .inl rfl⟩⟩, Keeps.refl _ _⟩
  · exact go a c rfl (fun j u hj => by simp [intsV] at hj)
  · refine go ⟨g, o, none⟩ cap rfl (fun j u hj => ?_)
    have e : (⟨g, o, none⟩ : Addr).add j = ⟨g, o + j, none⟩ := by unfold Addr.add; split <;> simp_all
    rw [e]
    simp [intsV] at hj
    obtain ⟨x, hx, rfl⟩ := hj
    exact hc j x hx

theorem Rep.set2 {w w' : World} {D : Nat} {σ σ' : St} {O : Option Nat} (h : Rep w D σ O) {kv' : Value} (hk : Keeps (fun _ => False) w w') (hI : IRow w' kv' σ'.keep) (ok : Ok σ') (hq : σ'.queue = σ.queue) {n : Nat}
    (hs : ∀ qv kv, ((cellsD σ qv kv).set 19 (.int .i64 n)).set 20 kv' = cellsD σ' qv kv') : Rep ((w'.setCell ⟨D, 19, none⟩ (.int .i64 n)).setCell ⟨D, 20, none⟩ kv') D σ' O := by
  have hn := h.notInt
  have hne := h.ne
  obtain ⟨qv, kv, hb, hQ, hK⟩ := h.is
  have hb' := hk.blk hb (fun h => h)
  have K : Keeps (· = D) w' ((w'.setCell ⟨D, 19, none⟩ (.int .i64 n)).setCell ⟨D, 20, none⟩ kv') := ((Keeps.refl (· = D) w').setCell (p := ⟨D, 19, none⟩) (.inr rfl) _).setCell (p := ⟨D, 20, none⟩) (.inr rfl) _
  have hQ' := hQ.keeps hk (fun _ _ h => h)
  refine ⟨⟨qv, kv', ((hb'.set 19 _).set 20 _).cast (hs qv kv), ?_, ?_⟩, ok⟩
  · rw [hq]; exact hQ'.keeps K (fun g hg e => hne (hg.trans (congrArg some e)))
  · refine hI.keeps K (fun g cur fz hg e => ?_)
    subst e
    rw [hb'.is] at hg
    injection hg with hg; injection hg with _ hg _; exact absurd hg (by decide)

set_option maxHeartbeats 1000000 in
theorem arm_any (w : World) (D : Nat) (σ : St) (O : Option Nat) (n : Int) (v : Value) (ks : List Int) (hk : ks.length ≤ 1000000000) (hI : IR (fun _ => False) w v ks) (h : Rep w D σ O) :
    Calls Try.prog 34 #[.pointer (some ⟨D, 0, none⟩), .int .i64 n, v] w fun e w' => e = .returned (.tuple #[]) ∧ Rep w' D (armS σ n ks) O ∧ Keeps (· = D) w w' := by
  have HC := Hd.mk (cloneI_any w v ks hk hI)
  have H := Hd.mk h
  have hC := Hd.mk (show ∃ qv kv, Blk w D 70 (cellsD σ qv kv) from by obtain ⟨qv, kv, hb, _⟩ := h.is; exact ⟨qv, kv, hb⟩)
  clear h hI
  have hm : ∀ m : Nat, (armS σ n ks).armed = m → ∀ kv' qv kv, ((cellsD σ qv kv).set 19 (.int .i64 m)).set 20 kv' = cellsD (armS σ n ks) qv kv' := by
    intro m hm kv' qv kv
    rw [set_armed H.out.ok qv kv m, set_keep (σ := { σ with armed := m }) ⟨H.out.ok.l8, H.out.ok.f8, H.out.ok.ll, H.out.ok.fl, H.out.ok.q⟩ qv kv kv' ks]
    rw [← hm]; rfl
  have HM := Hd.mk hm
  clear hm
  go_enter Try.func34, Try.ntmps34
  by_cases h : n < 0
  · have e : Hd ((armS σ n ks).armed = 0) := ⟨by simp [armS]; omega⟩
    go_wp2_with fail
    refine HC.out.mono ?_
    rintro e w1 ⟨v', rfl, hI1, hK1⟩
    obtain ⟨pv, cv, rfl⟩ := hI1.slice
    obtain ⟨qv, kv, hb⟩ := hC.out
    have hb1 := hK1.blk hb (fun h => h)
    have hc1 := Cells.of hb1 H.out.ok
    have ca := hc1.armed
    have ck := hc1.keep
    have fa := hc1.free 19
    have fk := hc1.free 20
    have HR := Hd.mk (H.out.set2 hK1 hI1 (Ok.arm H.out.ok n ks) rfl (HM.out 0 e.out (.slice pv ks.length cv)))
    have HK : Hd (Keeps (· = D) w ((w1.setCell ⟨D, 19, none⟩ (.int .i64 ((0 : Nat) : Int))).setCell ⟨D, 20, none⟩ (.slice pv ks.length cv))) := ⟨((hK1.mono (S' := (· = D)) (fun _ _ h => h.elim)).setCell (p := ⟨D, 19, none⟩) (.inr rfl) _).setCell (p := ⟨D, 20, none⟩) (.inr rfl) _⟩
    clear hb hb1 hc1 hI1 hK1
    go_wp2
    go_end0
    exact ⟨rfl, HR.out, HK.out⟩
  · obtain ⟨m, rfl⟩ : ∃ m : Nat, n = (m : Int) := ⟨n.toNat, by omega⟩
    have e : Hd ((armS σ m ks).armed = m) := ⟨by simp [armS]⟩
    go_wp2_with fail
    refine HC.out.mono ?_
    rintro e w1 ⟨v', rfl, hI1, hK1⟩
    obtain ⟨pv, cv, rfl⟩ := hI1.slice
    obtain ⟨qv, kv, hb⟩ := hC.out
    have hb1 := hK1.blk hb (fun h => h)
    have hc1 := Cells.of hb1 H.out.ok
    have ca := hc1.armed
    have ck := hc1.keep
    have fa := hc1.free 19
    have fk := hc1.free 20
    have HR := Hd.mk (H.out.set2 hK1 hI1 (Ok.arm H.out.ok m ks) rfl (HM.out m e.out (.slice pv ks.length cv)))
    have HK : Hd (Keeps (· = D) w ((w1.setCell ⟨D, 19, none⟩ (.int .i64 (m : Int))).setCell ⟨D, 20, none⟩ (.slice pv ks.length cv))) := ⟨((hK1.mono (S' := (· = D)) (fun _ _ h => h.elim)).setCell (p := ⟨D, 19, none⟩) (.inr rfl) _).setCell (p := ⟨D, 20, none⟩) (.inr rfl) _⟩
    clear hb hb1 hc1 hI1 hK1
    go_wp2
    go_end0
    exact ⟨rfl, HR.out, HK.out⟩

end Go.Proofs.Ytmcdfhihfcfbaaa.W
