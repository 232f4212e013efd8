/-
  slices.Repeat at one int.
-/
import Derived.Test.YtmgkoocpnakanaaGd
import Derived.Test.YtmgkoocpnakanaaAppF
import Derived.Test.YtmgkoocpnakanaaOrd
import Derived.Deep.OwnRows
import Derived.Laws.IdiomCopy
import Derived.Deep.Cut
namespace Go.Proofs.Ytmgkoocpnakanaa.W
open Go.RowKit
set_option linter.unusedVariables false

theorem Own.cellAt {w : World} {B : Nat} {e : TypeId} {g n cap : Nat} {l : List Value} (h : Own w B e (.slice (some ⟨g, 0, none⟩) n cap) l) {j : Nat} {u : Value} (hj : l[j]? = some u) : w.cell? ⟨g, j, none⟩ = some u := by
  rcases h.is with ⟨h, _⟩ | ⟨g', cap', h, _, _, _, _, hcell, _⟩
  · cases h
  · have hg : g = g' := by simp at h; exact h.1
    subst hg
    exact hcell j _ hj

theorem Own.freeAt {w : World} {B : Nat} {e : TypeId} {g n cap : Nat} {l : List Value} (h : Own w B e (.slice (some ⟨g, 0, none⟩) n cap) l) {j : Nat} (hj : j < l.length) : w.frozen? ⟨g, j, none⟩ = false := by
  rcases h.is with ⟨h, _⟩ | ⟨g', cap', h, _, hc, _, _, _, hf⟩
  · cases h
  · have hg : g = g' := by simp at h; exact h.1
    subst hg
    exact hf j (by omega)

def setMany {α : Type} : List α → Nat → List α → List α
  | l, _, [] => l
  | l, o, u :: us => setMany (l.set o u) (o + 1) us
theorem setMany_len {α : Type} : ∀ (us l : List α) (o : Nat), (setMany l o us).length = l.length
  | [], _, _ => rfl
  | u :: us, l, o => by rw [setMany, setMany_len us]; simp
theorem setMany_at {α : Type} : ∀ (us l : List α) (o j : Nat), o + us.length ≤ l.length → (setMany l o us)[j]? = if o ≤ j ∧ j < o + us.length then us[j - o]? else l[j]?
  | [], l, o, j, _ => by rw [setMany, if_neg (by simp)]
  | u :: us, l, o, j, h => by
    simp only [List.length_cons] at h
    rw [setMany, setMany_at us (l.set o u) (o + 1) j (by simp; omega)]
    by_cases h1 : o + 1 ≤ j ∧ j < o + 1 + us.length
    · rw [if_pos h1, if_pos ⟨by omega, by simp only [List.length_cons]; omega⟩, show j - o = (j - (o + 1)) + 1 by omega]; rfl
    · rw [if_neg h1, List.getElem?_set]
      by_cases h2 : o = j
      · subst h2
        rw [if_pos rfl, if_pos (by omega), if_pos ⟨Nat.le_refl _, by simp⟩, Nat.sub_self]; rfl
      · rw [if_neg h2, if_neg (by simp only [List.length_cons]; omega)]
theorem Own.setMany {B : Nat} {e : TypeId} {g n cap : Nat} : ∀ (us : List Value) (l : List Value) (w : World) (o : Nat), Own w B e (.slice (some ⟨g, 0, none⟩) n cap) l → Own (w.setCells g o us) B e (.slice (some ⟨g, 0, none⟩) n cap) (setMany l o us)
  | [], _, _, _, h => h
  | u :: us, l, w, o, h => Own.setMany us _ _ _ (h.setAt u (j := o))

theorem oper_copy {P : Program} {o : Oper} {a : Act} {K : Act → World → Prop} {Q : Exit → Act → World → Prop} {W : World} (s x : Operand) (t1 t2 : TypeId)
    (ho : o.op = .call { callee := .builtin .copy, args := #[s, x], argTypes := #[t1, t2] }) (vs vx : Value) (hs : a.eval s = vs) (hx : a.eval x = vx) {v' : Value} {w' : World}
    (hr : (Builtin.copy_ #[t1, t2] o.type #[vs, vx]).run P W = .ok v' w') (h : K (a.put o.dst v') w') : Oper.wp P o a W K Q := by
  unfold Oper.wp execOp
  simp only [ho, resolve, invoke, builtin, Sem.run_bind, Sem.run_pure, Result.andThen_ok, List.map_toArray, List.map_cons, List.map_nil, hs, hx, hr]
  exact h

def minV (l : List Int) : List Value := l.map fun b => .int .i64 b
theorem minV_len (l : List Int) : (minV l).length = l.length := by simp [minV]
theorem minV_at {l : List Int} {j : Nat} (h : j < l.length) : (minV l)[j]? = some (.int .i64 l[j]) := by simp [minV, h]
theorem minV_set (l : List Int) (j : Nat) (x : Int) : (minV l).set j (.int .i64 x) = minV (l.set j x) := by simp [minV, List.map_set]
theorem infoM : (Try.prog.info? 3).map (fun i => (i.zero, i.size, i.bytes)) = some (some (.int .i64 0), 1, 8) := by kernel_rfl

/-- the first m are true -/
def mins (m n : Nat) : List Int := List.replicate m (-1) ++ List.replicate (n - m) 0
theorem mins_len {m n : Nat} (h : m ≤ n) : (mins m n).length = n := by simp [mins]; omega
theorem mins_all (n : Nat) : mins n n = List.replicate n (-1) := by simp [mins]
theorem mins_at {m n j : Nat} (h : m ≤ n) (hj : j < n) : (mins m n)[j]'(by rw [mins_len h]; exact hj) = (if j < m then -1 else 0) := by
  unfold mins
  by_cases hjm : j < m
  · rw [List.getElem_append_left (by simpa using hjm)]; simp [hjm]
  · rw [List.getElem_append_right (by simp; omega)]; simp [hjm]
theorem mins_many {m n k : Nat} (h : m + k ≤ n) : setMany (minV (mins m n)) m (minV (List.replicate k (-1))) = minV (mins (m + k) n) := by
  apply List.ext_getElem?
  intro j
  rw [setMany_at _ _ _ _ (by rw [minV_len, minV_len, mins_len (by omega)]; simp; exact h)]
  by_cases hj : j < n
  · rw [minV_at (l := mins (m + k) n) (by rw [mins_len h]; exact hj), mins_at h hj, minV_at (l := mins m n) (by rw [mins_len (by omega)]; exact hj), mins_at (by omega) hj]
    split
    · rename_i hc
      rw [minV_len, List.length_replicate] at hc
      rw [minV_at (by simp; omega)]
      simp; omega
    · rename_i hc
      rw [minV_len, List.length_replicate] at hc
      congr 2
      by_cases h1 : j < m
      · rw [if_pos h1, if_pos (by omega)]
      · rw [if_neg h1, if_neg (by omega)]
  · rw [if_neg (by rw [minV_len, List.length_replicate]; omega), List.getElem?_eq_none (by rw [minV_len, mins_len (by omega)]; omega), List.getElem?_eq_none (by rw [minV_len, mins_len h]; omega)]

theorem madeM (n : Nat) : (madeCells #[Value.int .i64 0] n).toList = minV (mins 0 n) := by
  apply List.ext_getElem?
  intro j
  by_cases hj : j < n
  · rw [minV_at (by rw [mins_len (by omega)]; exact hj), mins_at (by omega) hj]
    simp [madeCells, hj, Nat.mod_one]
  · rw [List.getElem?_eq_none (by simp [madeCells]; omega), List.getElem?_eq_none (by rw [minV_len, mins_len (by omega)]; omega)]

theorem own_madeM (w : World) (n : Nat) (hn : n ≤ 1000000) : Own (w.alloc (.cells (madeCells #[Value.int .i64 0] n) 3)) w.heap.size 3 (.slice (some ⟨w.heap.size, 0, none⟩) n n) (minV (mins 0 n)) := by
  have hb := Blk.new w 3 (minV (mins 0 n))
  have e : (minV (mins 0 n)).toArray = madeCells #[Value.int .i64 0] n := by rw [← madeM]
  rw [e] at hb
  have hl : (minV (mins 0 n)).length = n := by rw [minV_len, mins_len (by omega)]
  exact ⟨.inr ⟨w.heap.size, n, by rw [hl], Nat.le_refl _, by rw [hl]; exact Nat.le_refl _, by unfold maxLen; omega, ⟨_, _, hb.is, by simp [hl]⟩, fun j u hj => hb.at hj, fun j _ => hb.free j⟩⟩

set_option maxHeartbeats 2000000 in
set_option maxRecDepth 100000 in
theorem repeat_any (w : World) (H n : Nat) (hn : n ≤ 1000000) (hc : w.cell? ⟨H, 0, none⟩ = some (.int .i64 (-1))) :
    Calls Try.prog 48 #[.slice (some ⟨H, 0, none⟩) 1 1, .int .i64 n] w fun e w' => ∃ v, e = .returned v ∧ Own w' w.heap.size 3 v (minV (List.replicate n (-1))) ∧ Below w.heap.size w w' := by
  have hd : decide ((n : Int) < 0) = false := by simp
  have hu : IntKind.u64.wrap (n : Int) = (n : Int) := by rw [IntKind.wrap_u64]; omega
  have hi : IntKind.i64.wrap (n : Int) = (n : Int) := IntWalk.i64_in _ (by omega)
  have HM := Hd.mk (fun w => (_root_.Go.Proofs.Try.bits_Mul 1 n (by decide) (by omega) w).mono (R' := fun e w' => e = .returned (.tuple #[.int .u64 ((1 * n / 18446744073709551616 : Nat) : Int), .int .u64 ((1 * n % 18446744073709551616 : Nat) : Int)]) ∧ w = w') fun e w' ⟨a, b⟩ => ⟨a, b.symm⟩)
  rw [show 1 * n / 18446744073709551616 = 0 by omega, show 1 * n % 18446744073709551616 = n by omega] at HM
  have hg : ¬ (9223372036854775807 : Int) < (n : Int) := by omega
  have hmk := fun w => run_make_row' (P := Try.prog) 44 3 (.int .i64 0) 8 Try.underlying44 infoM rfl .i64 .i64 n (by omega) (by omega) w
  have HO := Hd.mk (own_madeM w n hn)
  obtain ⟨w1, hw1⟩ : ∃ w1, w.alloc (.cells (madeCells #[Value.int .i64 0] n) 3) = w1 := ⟨_, rfl⟩
  have hmk1 := hmk w
  rw [hw1] at HO hmk1
  have HB1 : Hd (Below w.heap.size w w1) := ⟨by rw [← hw1]; go_grown⟩
  have hHl : H < w.heap.size := World.block_lt_of_cell? w _ (by rw [hc])
  have hc1 : w1.cell? ⟨H, 0, none⟩ = some (.int .i64 (-1)) := by rw [HB1.out.cell hHl]; exact hc
  obtain ⟨g, hgg⟩ : ∃ g, w.heap.size = g := ⟨_, rfl⟩
  have hsz1 : (Try.prog.info? 3).map (·.size) = some 1 := by kernel_rfl
  clear hw1 hmk
  rcases Nat.eq_zero_or_pos n with h0 | h0
  · subst h0
    have hcp := run_copy_none (P := Try.prog) w1 44 44 3 3 (some ⟨g, 0, none⟩) (some ⟨H, 0, none⟩) 0 0 1 1 Try.underlying44 hsz1 rfl
    rw [hgg] at hmk1 HO
    rw [show ((0 : Nat) : Int) = 0 from rfl] at hmk1 HM
    clear hc hc1 hu hi hd hg
    go_enter Try.func48, Try.ntmps48
    go_wp2_with fail
    refine (HM.out _).mono ?_
    rintro e w2 ⟨rfl, rfl⟩
    go_wp2_with (rw [hcp])
    go_loopw [8] (fun v wr => v = .int .i64 0 ∧ wr = w1) (fun _ _ => 0)
    case atStart => exact ⟨rfl, rfl⟩
    case round =>
      obtain ⟨rfl, rfl⟩ := hrel
      go_wp2
      go_ret
      exact ⟨_, rfl, hgg ▸ HO.out, HB1.out⟩
  · have h1 : (min 1 n) = 1 := by omega
    have hcp := run_copy_cells (P := Try.prog) w1 44 44 3 3 g 0 n n ⟨H, 0, none⟩ 1 1 [.int .i64 (-1)] Try.underlying44 hsz1 (by show 1 = min 1 n; omega)
      (fun j v hj => by
        match j, hj with
        | 0, hj => simp at hj; subst hj; exact hc1)
      (fun j hj => by
        have hj0 : j = 0 := by simpa using hj
        subst hj0
        rw [hgg] at HO
        rw [HO.out.cellAt (minV_at (by rw [mins_len (by omega)]; omega))]; rfl)
      (fun j hj => by
        have hj0 : j = 0 := by simpa using hj
        subst hj0
        rw [hgg] at HO
        exact HO.out.freeAt (by rw [minV_len, mins_len (by omega)]; omega))
      (fun v hv => by simp at hv; subst hv; rfl)
    rw [hgg] at hmk1 HO
    have hO2 := Own.setMany [.int .i64 (-1)] _ w1 0 HO.out
    rw [show setMany (minV (mins 0 n)) 0 [.int .i64 (-1)] = minV (mins 1 n) from mins_many (m := 0) (k := 1) (by omega)] at hO2
    have HK2 : Hd (Below w.heap.size w (w1.setCells g 0 [.int .i64 (-1)])) := ⟨HB1.out.trans ((keeps_setCells [.int .i64 (-1)] 0 w1).below HB1.out.size (fun k hk e => by injection e with e; omega))⟩
    obtain ⟨w2, hw2⟩ : ∃ w2, w1.setCells g 0 [.int .i64 (-1)] = w2 := ⟨_, rfl⟩
    rw [hw2] at hcp hO2 HK2
    have HO2 := Hd.mk hO2
    clear hO2 hc hc1 hi hw2 h1
    have hi : IntKind.i64.wrap (n : Int) = (n : Int) := IntWalk.i64_in _ (by omega)
    go_enter Try.func48, Try.ntmps48
    go_wp2_with fail
    refine (HM.out _).mono ?_
    rintro e w3 ⟨rfl, rfl⟩
    go_wp2_with (rw [hcp])
    go_loopw [8] (fun v wr => ∃ m : Nat, 1 ≤ m ∧ m ≤ n ∧ v = .int .i64 m ∧ Hd (Own wr g 3 (.slice (some ⟨g, 0, none⟩) n n) (minV (mins m n))) ∧ Hd (Below w.heap.size w wr)) (fun v _ => n - (intOf v).toNat)
    case atStart => exact ⟨1, Nat.le_refl _, h0, rfl, HO2, HK2⟩
    case round =>
      clear HO2 HK2 hcp HO hmk1 HB1
      obtain ⟨m, hm1, hmn, rfl, HO, HB⟩ := hrel
      by_cases hlt : m < n
      · obtain ⟨k, hk⟩ : ∃ k, min m (n - m) = k := ⟨_, rfl⟩
        have hk1 : 1 ≤ k ∧ m + k ≤ n ∧ k ≤ m := by omega
        have hmi : (Nat.min m (n - m)) = k := hk
        have hcp2 := run_copy_cells (P := Try.prog) wr.drew 44 44 3 3 g m (n - m) (n - m) ⟨g, 0, none⟩ m n (minV (List.replicate k (-1))) Try.underlying44 hsz1 (by rw [hmi, minV_len]; simp)
          (fun j v hj => by
            have hjk : j < k := by have := (List.getElem?_eq_some_iff.1 hj).1; rw [minV_len] at this; simpa using this
            rw [minV_at (by simp; exact hjk)] at hj
            have := HO.out.cellAt (minV_at (j := j) (l := mins m n) (by rw [mins_len hmn]; omega))
            rw [mins_at hmn (by omega), if_pos (by omega)] at this
            simp at hj
            rw [← hj, add_none, Nat.zero_add]
            exact this)
          (fun j hj => by
            have hjk : j < k := by rw [minV_len] at hj; simpa using hj
            have := HO.out.cellAt (minV_at (j := m + j) (l := mins m n) (by rw [mins_len hmn]; omega))
            have e : wr.drew.cell? ⟨g, m + j, none⟩ = wr.cell? ⟨g, m + j, none⟩ := rfl
            rw [e, this]; rfl)
          (fun j hj => by
            have hjk : j < k := by rw [minV_len] at hj; simpa using hj
            exact HO.out.freeAt (by rw [minV_len, mins_len hmn]; omega))
          (fun v hv => by simp [minV] at hv; rw [hv.2]; rfl)
        rw [minV_len, List.length_replicate] at hcp2
        have hO3 := Own.setMany (minV (List.replicate k (-1))) _ wr.drew m (HO.out.keeps (Keeps.refl (fun _ => False) wr).drew (fun _ _ h => h))
        rw [mins_many hk1.2.1] at hO3
        have HB3 : Hd (Below w.heap.size w (wr.drew.setCells g m (minV (List.replicate k (-1))))) := ⟨HB.out.trans ((((Keeps.refl (fun k => some g = some k) wr).drew).trans (keeps_setCells (minV (List.replicate k (-1))) m wr.drew)).below HB.out.size (fun k hk e => by injection e with e; omega))⟩
        obtain ⟨w4, hw4⟩ : ∃ w4, wr.drew.setCells g m (minV (List.replicate k (-1))) = w4 := ⟨_, rfl⟩
        rw [hw4] at hcp2 hO3 HB3
        have HO3 := Hd.mk hO3
        have HCp := Hd.mk hcp2
        have hsum : IntKind.i64.wrap ((m : Int) + (k : Int)) = ((m + k : Nat) : Int) := (IntWalk.i64_in _ (by omega)).trans (by omega)
        have hms : n - (intOf (.int .i64 ((m + k : Nat) : Int))).toNat < n - (intOf (.int .i64 (m : Int))).toNat := by simp [intOf]; omega
        have HKk := Hd.mk hk1
        have hne : ¬ n = m := by omega
        clear hO3 hcp2 hw4 hk hk1 hmi
        go_wp2_with fail
        refine wp_region_lin default (fun _ => True) [(0, true), (1, true), (2, true), (3, true), (4, true), (5, true), (6, true), (7, false), (8, true), (9, true)] (by kernel_rfl) (by kernel_rfl) rfl (by kernel_rfl) (by kernel_rfl) trivial ?_
        simp only [pick, List.getD_cons_zero, List.getD_cons_succ]
        repeat
          refine lin_free (v := ?_) (by rfl) ?_ ?_
          rotate_left
          · intro w' hSw
            go_simp
            first | done | with_reducible rfl
          simp only [Act.put, List.setIfInBounds_toArray, List.set_cons_zero, List.set_cons_succ]
        refine lin_bound (fun K hK => ?_)
        rw [if_pos (by rfl)]
        refine oper_copy (Operand.tmp 41) (Operand.tmp 44) 44 44 rfl _ _ rfl rfl HCp.out ?_
        simp only [Act.put, List.setIfInBounds_toArray, List.set_cons_zero, List.set_cons_succ]
        refine hK.out _ _ trivial ?_
        clear hK K
        repeat
          refine lin_free (v := ?_) (by rfl) ?_ ?_
          rotate_left
          · intro w' hSw
            go_simp
            first | done | with_reducible rfl
          simp only [Act.put, List.setIfInBounds_toArray, List.set_cons_zero, List.set_cons_succ]
        refine NoPanic.normal ?_
        go_wp2
        go_roundw
        case rel => exact ⟨m + k, by omega, HKk.out.2.1, by go_num, HO3, HB3⟩
        case measure => exact hms
      · have hmn' : m = n := by omega
        subst hmn'
        have hd2 : decide ((m : Int) < (m : Int)) = false := by simp
        have HO4 := HO.out
        rw [mins_all] at HO4
        have HO5 := Hd.mk HO4
        clear HO4
        go_wp2
        go_ret
        exact ⟨_, rfl, hgg ▸ HO5.out, HB.out⟩

end Go.Proofs.Ytmgkoocpnakanaa.W
