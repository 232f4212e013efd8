/-
  DiskTells: the walk of the reference's add.
-/
import Derived.Test.YtcleocgaooblfaaRf5
namespace Go.Proofs.Ytcleocgaooblfaa.W
open Go.RowKit
set_option linter.unusedVariables false

theorem RMem.next {w w' : World} {B E : Nat} {σ : St} (h : RMem w B E σ) (k : Keeps (fun _ => False) w w') : RMem w' B E σ := by
  obtain ⟨lv, qv, kv, hc⟩ := h.is
  exact ⟨⟨lv, qv, kv, hc.keeps k (fun h => h) (fun _ _ h => h) (fun _ _ _ _ h => h) (fun _ _ _ _ h => h)⟩, h.ge⟩

/-- one pending write more -/
theorem RMem.push {wr : World} {B E : Nat} {σ : St} (h : RMem wr B E σ) (p : Pn) (ps : ByteArray) (hps : p.s = ps.data.toList) (hlen : σ.queue.length ≤ 1000000000) (hB : B ≤ wr.heap.size) :
    ∃ qv v' w', (∃ p n c, v' = .slice p n c) ∧ wr.cell? ⟨E, 1, none⟩ = some qv ∧ (Builtin.append_ #[69, 69] 69 #[qv, .slice (some ⟨wr.heap.size, 0, none⟩) 1 1]).run Try.prog (wr.alloc (.cells #[.int .i64 p.f, .int .i64 p.at_, .string ps] 80)) = .ok v' w' ∧
      w'.cell? ⟨E, 1, none⟩ = some qv ∧ w'.frozen? ⟨E, 1, none⟩ = false ∧ RMem (w'.setCell ⟨E, 1, none⟩ v') B E { σ with queue := σ.queue ++ [p] } ∧ RK B wr (w'.setCell ⟨E, 1, none⟩ v') := by
  obtain ⟨lv, qv, kv, hc⟩ := h.is
  have ka : Keeps (fun _ => False) wr (wr.alloc (.cells #[.int .i64 p.f, .int .i64 p.at_, .string ps] 80)) := (Keeps.refl _ _).alloc _
  have hca := hc.keeps ka (fun h => h) (fun _ _ h => h) (fun _ _ _ _ h => h) (fun _ _ _ _ h => h)
  have hbk := Blk.new wr 80 [.int .i64 p.f, .int .i64 p.at_, .string ps]
  have hpc : pCells p = [.int .i64 p.f, .int .i64 p.at_, .string ps] := by unfold pCells; rw [hps, strV_of]
  obtain ⟨v', w', hr, h2, h3⟩ := run_piece _ B qv σ.queue p wr.heap.size (Nat.le_trans hB ka.size) hca.q hlen (fun j u hj => hbk.at (by rw [← hpc]; exact hj))
  obtain ⟨hb', hl', hk'⟩ := hca.grow h3
  have kE : Keeps (· = E) w' (w'.setCell ⟨E, 1, none⟩ v') := (Keeps.refl (· = E) w').setCell (p := ⟨E, 1, none⟩) (.inr rfl) v'
  refine ⟨qv, v', w', by obtain ⟨p', c', e⟩ := h2.slice; exact ⟨p', _, c', e⟩, hc.b.at (j := 1) rfl, hr, hb'.at (j := 1) rfl, hb'.free 1, ⟨⟨lv, v', kv, (hb'.set 1 v').cast rfl, own_keeps_type hb' (by decide) hl' rfl, h2.keeps kE (fun g cur fz hg => blk_ne hb' hg (by decide)), hk'.keeps kE (fun g cur fz hg => blk_ne hb' hg (by decide))⟩, h.ge⟩, ?_⟩
  exact ((RK.of ka).trans ⟨h3.mono (fun g _ e => ⟨e.1, by obtain ⟨cur, fz, hg⟩ := e.2; exact ⟨cur, fz, _, hg, .inr (.inr rfl)⟩⟩)⟩).trans (RK.set hb' h.ge (.inl rfl) 1 v')

theorem piece_grow {s x : ByteArray} {fr j : Nat} (hx : x.data.toList = (s.data.toList.drop fr).take (j - fr)) (hfr : fr ≤ j) (hj : j < s.size) : (x ++ s.extract j (j + 1)).data.toList = (s.data.toList.drop fr).take (j + 1 - fr) := by
  rw [ByteArray.data_append, Array.toList_append, hx, Lib.extract_data, show j + 1 - fr = (j - fr) + 1 by omega, show j + 1 - j = 1 by omega]
  have e1 : (s.data.toList.drop j).take 1 = s.data.toList[j]?.toList := by
    rw [List.drop_eq_getElem_cons (show j < s.data.toList.length from hj), List.getElem?_eq_getElem (show j < s.data.toList.length from hj)]; rfl
  have e2 := List.take_add_one (l := s.data.toList.drop fr) (i := j - fr)
  rw [List.getElem?_drop, show fr + (j - fr) = j by omega] at e2
  rw [e1, e2]

set_option maxHeartbeats 4000000 in
set_option maxRecDepth 100000 in
theorem radd_any (w : World) (B E : Nat) (σ : St) (f k : Nat) (s : ByteArray) (hf : f < 8) (hk : k + s.size ≤ 16777216) (hB : B ≤ w.heap.size) (hlen : σ.queue.length + s.size ≤ 1000000000) (h : RRep w B E σ) :
    Calls Try.prog 61 #[.pointer (some ⟨E, 0, none⟩), .int .i64 f, .int .i64 k, .string s] w fun e w' => e = .returned (.tuple #[]) ∧ RRep w' B E (if s.data.toList = [] then σ else addS σ f k s.data.toList) ∧ RK B w w' := by
  have hfin : ∀ w', RMem w' B E { σ with queue := σ.queue ++ pieces f k s.data.toList } → RRep w' B E (if s.data.toList = [] then σ else addS σ f k s.data.toList) := fun w' hm => by
    split
    · rename_i e
      have : pieces f k s.data.toList = [] := by rw [e]; rfl
      rw [this, List.append_nil] at hm
      exact hm.rep h.ok h.rd
    · rename_i e
      obtain ⟨lv, qv, kv, hc⟩ := hm.is
      exact RMem.rep (σ := addS σ f k s.data.toList) ⟨⟨lv, qv, kv, ⟨hc.b, hc.l, hc.q, hc.k⟩⟩, hm.ge⟩ (h.ok.add hf hk) (h.rd.add h.ok hf k e)
  obtain ⟨τ, hτ⟩ : ∃ τ, (if s.data.toList = [] then σ else addS σ f k s.data.toList) = τ := ⟨_, rfl⟩
  rw [hτ] at hfin ⊢
  have HFin := Hd.mk hfin
  have HM0 := Hd.mk h.mem
  have HB := Hd.mk hB
  have HLen := Hd.mk hlen
  have hsz : (s.size : Int) ≤ 16777216 := by omega
  have hkz : (k : Int) ≤ 16777216 := by omega
  have HSl : Hd (s.data.toList.length = s.size) := ⟨rfl⟩
  have HKS := Hd.mk hk
  clear h hfin hB hlen hf hk hτ
  go_enter Try.func61, Try.ntmps61
  go_wp2
  go_loopw [8, 9, 10] (fun p fr i wr => ∃ (j fr' : Nat) (x : ByteArray) (done : List Pn), j ≤ s.size ∧ i = .int .i64 j ∧ fr = .int .i64 ((k : Int) + (fr' : Int)) ∧ p = .string x ∧ Hd (x.data.toList = (s.data.toList.drop fr').take (j - fr')) ∧ Hd (Laid f k s.data.toList j fr' done) ∧ Hd (RMem wr B E { σ with queue := σ.queue ++ done }) ∧ Hd (RK B w wr) ∧ Hd (done.length ≤ j)) (fun _ _ i _ => s.size - (intOf i).toNat)
  case atStart => exact ⟨0, 0, ⟨#[]⟩, [], Nat.zero_le _, rfl, by simp, rfl, ⟨by simp⟩, ⟨Laid.start _ _ _⟩, ⟨by rw [List.append_nil]; exact HM0.out⟩, ⟨RK.of (Keeps.refl _ _)⟩, ⟨Nat.le_refl _⟩⟩
  case round =>
    obtain ⟨j, fr, x, done, hj, rfl, rfl, rfl, HX, HL, HM, HK, HD⟩ := hrel
    clear HM0
    by_cases hlt : j < s.size
    · have hgr := piece_grow HX.out HL.out.le hlt
      have hxs : x.size ≤ 16777216 := by
        show x.data.toList.length ≤ _
        rw [HX.out, List.length_take]; omega
      obtain ⟨y, hy⟩ : ∃ y, x ++ s.extract j (j + 1) = y := ⟨_, rfl⟩
      rw [hy] at hgr
      have HY := Hd.mk hgr
      have HHy := Hd.mk hy
      have i0 : (0 : Int) ≤ (j : Int) := by omega
      have i1 : (j : Int) + 1 ≤ (s.size : Int) := by omega
      have i2 : (j : Int) ≤ (j : Int) + 1 := by omega
      have i3 : (0 : Int) ≤ (j : Int) + 1 := by omega
      have n1 : ((j : Int) + 1).toNat = j + 1 := by omega
      have r0 : IntKind.i64.wrap ((j : Int) + 1) = (j : Int) + 1 := IntWalk.i64_in _ (by omega)
      have r1 : IntKind.i64.wrap ((k : Int) + (j : Int)) = (k : Int) + (j : Int) := IntWalk.i64_in _ (by omega)
      have r2 : IntKind.i64.wrap ((k : Int) + (j : Int) + 1) = (k : Int) + (j : Int) + 1 := IntWalk.i64_in _ (by omega)
      have r3 : IntKind.i64.wrap ((s.size : Int) - 1) = (s.size : Int) - 1 := IntWalk.i64_in _ (by omega)
      have tm : ((k : Int) + (j : Int) + 1).tmod 32 = ((k : Int) + (j : Int) + 1) % 32 := Int.tmod_eq_emod_of_nonneg (by omega)
      have hxz : ¬ 9223372036854775807 < x.size + (s.extract j (j + 1)).size := by
        rw [ByteArray.size_extract]; omega
      clear hgr hxs hj
      have hsj : s.data.toList.length = s.size := rfl
      have hcs : (((k : Int) + (j : Int) + 1) % 32 = 0 ∧ ((k + j + 1) % 32 = 0 ∨ j = s.data.toList.length - 1)) ∨ (¬ ((k : Int) + (j : Int) + 1) % 32 = 0 ∧ (j : Int) = (s.size : Int) - 1 ∧ ((k + j + 1) % 32 = 0 ∨ j = s.data.toList.length - 1)) ∨ (¬ ((k : Int) + (j : Int) + 1) % 32 = 0 ∧ ¬ (j : Int) = (s.size : Int) - 1 ∧ ¬ ((k + j + 1) % 32 = 0 ∨ j = s.data.toList.length - 1)) := by
        rw [hsj]; omega
      obtain ⟨md, hmd⟩ : ∃ md, ((k : Int) + (j : Int) + 1) % 32 = md := ⟨_, rfl⟩
      rw [hmd] at tm hcs
      have hB1 : B ≤ wr.heap.size := Nat.le_trans HB.out HK.out.k.size
      have hfrj := HL.out.le
      have HC := Hd.mk (show ((k + fr : Nat) : Int) = (k : Int) + (fr : Int) by omega)
      have HC2 := Hd.mk (show ((k + (j + 1) : Nat) : Int) = (k : Int) + (j : Int) + 1 by omega)
      clear hmd hsj
      rcases hcs with ⟨m0, hb⟩ | ⟨m0, mj, hb⟩ | ⟨m0, mj, hb⟩
      · have HL2 := Hd.mk (HL.out.cut (by rw [HSl.out]; exact hlt) hb)
        obtain ⟨qv, v', w', ⟨pv, nv, cv, rfl⟩, b1, hr, b2, b3, hm, hrk⟩ := HM.out.push ⟨f, k + fr, (s.data.toList.drop fr).take (j + 1 - fr)⟩ y HY.out.symm (by show (σ.queue ++ done).length ≤ _; rw [List.length_append]; have := HLen.out; have := HD.out; omega) hB1
        dsimp only at hr
        rw [HC.out] at hr
        have HR := Hd.mk hr
        have HM2 : Hd (RMem (w'.setCell ⟨E, 1, none⟩ (.slice pv nv cv)) B E { σ with queue := σ.queue ++ (done ++ [⟨f, k + fr, (s.data.toList.drop fr).take (j + 1 - fr)⟩]) }) := ⟨by rw [← List.append_assoc]; exact hm⟩
        have HK2 := Hd.mk (HK.out.trans hrk)
        have HD2 : Hd ((done ++ [(⟨f, k + fr, (s.data.toList.drop fr).take (j + 1 - fr)⟩ : Pn)]).length ≤ j + 1) := ⟨by rw [List.length_append]; have := HD.out; simp; omega⟩
        have mb : (md == 0) = true := by simp [m0]
        clear hr hm hrk hb m0
        go_wp2_with (at_builtin; refine wp_append_run rfl (Operand.tmp 42) (Operand.tmp 47) 69 rfl _ _ _ rfl rfl HR.out ?_)
        go_roundw
        case rel => exact ⟨j + 1, j + 1, ⟨#[]⟩, _, hlt, by go_num, by rw [← HC2.out]; push_cast; rfl, rfl, ⟨by simp⟩, HL2, HM2, HK2, HD2⟩
        case measure => simp [intOf]; omega
      · have HL2 := Hd.mk (HL.out.cut (by rw [HSl.out]; exact hlt) hb)
        obtain ⟨qv, v', w', ⟨pv, nv, cv, rfl⟩, b1, hr, b2, b3, hm, hrk⟩ := HM.out.push ⟨f, k + fr, (s.data.toList.drop fr).take (j + 1 - fr)⟩ y HY.out.symm (by show (σ.queue ++ done).length ≤ _; rw [List.length_append]; have := HLen.out; have := HD.out; omega) hB1
        dsimp only at hr
        rw [HC.out] at hr
        have HR := Hd.mk hr
        have HM2 : Hd (RMem (w'.setCell ⟨E, 1, none⟩ (.slice pv nv cv)) B E { σ with queue := σ.queue ++ (done ++ [⟨f, k + fr, (s.data.toList.drop fr).take (j + 1 - fr)⟩]) }) := ⟨by rw [← List.append_assoc]; exact hm⟩
        have HK2 := Hd.mk (HK.out.trans hrk)
        have HD2 : Hd ((done ++ [(⟨f, k + fr, (s.data.toList.drop fr).take (j + 1 - fr)⟩ : Pn)]).length ≤ j + 1) := ⟨by rw [List.length_append]; have := HD.out; simp; omega⟩
        have mb : (md == 0) = false := by simp [m0]
        have mj' : ((j : Int) == (s.size : Int) - 1) = true := by simp [mj]
        clear hr hm hrk hb m0 mj
        go_wp2_with (at_builtin; refine wp_append_run rfl (Operand.tmp 42) (Operand.tmp 47) 69 rfl _ _ _ rfl rfl HR.out ?_)
        go_roundw
        case rel => exact ⟨j + 1, j + 1, ⟨#[]⟩, _, hlt, by go_num, by rw [← HC2.out]; push_cast; rfl, rfl, ⟨by simp⟩, HL2, HM2, HK2, HD2⟩
        case measure => simp [intOf]; omega
      · have mb : (md == 0) = false := by simp [m0]
        have mj' : ((j : Int) == (s.size : Int) - 1) = false := by simp; omega
        have HL2 := Hd.mk (HL.out.on (by rw [HSl.out]; exact hlt) hb)
        clear hb m0
        go_wp2
        go_roundw
        case rel => exact ⟨j + 1, fr, y, done, hlt, by go_num, rfl, rfl, HY, HL2, HM, HK, ⟨Nat.le_succ_of_le HD.out⟩⟩
        case measure => simp [intOf]; omega
    · obtain rfl : j = s.size := by omega
      have HDn : Hd (done = pieces f k s.data.toList) := ⟨HL.out.end HSl.out.symm⟩
      have HR : Hd (RRep wr B E τ) := ⟨HFin.out wr (by rw [← HDn.out]; exact HM.out)⟩
      clear hj
      go_wp2
      go_end0
      exact ⟨rfl, HR.out, HK.out⟩

end Go.Proofs.Ytcleocgaooblfaa.W
