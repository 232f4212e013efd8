/-
  The walk of slices.DeleteFunc at the queue, and settle.
-/
import Derived.Test.YtmcdfhihfcfbaaaIdx
namespace Go.Proofs.Ytmcdfhihfcfbaaa.W
open Go.RowKit
set_option linter.unusedVariables false

/-- the queue's block, with what lies behind the queue -/
structure QBlk (w : World) (g : Nat) (r : List Pn) (rest : List Value) : Prop where
  is : Blk w g 91 (qCells r ++ rest)

theorem QRow.open {w : World} {v : Value} {q : List Pn} {g : Nat} (h : QRow w v q (some g)) : ∃ cap rest, v = .slice (some ⟨g, 0, none⟩) q.length cap ∧ QBlk w g q rest ∧ rest.length + q.length * 3 = cap * 3 ∧ q.length ≤ cap ∧ cap ≤ maxLen := by
  rcases h.is with ⟨h0, _⟩ | ⟨g', hO, hv, hrow⟩
  · cases h0
  · cases hO
    rcases hrow.2 with ⟨rfl, _⟩ | ⟨b, cap, cur, rfl, hB, hg, hn, hm, hc, ht⟩
    · cases hv
    · have hbg : b = g := by simpa [Value.ownBlock] using hv
      subst hbg
      refine ⟨cap, cur.toList.drop (q.length * 3), rfl, ⟨⟨?_⟩⟩, ?_, hn, hm⟩
      · rw [hg, ← ht, List.take_append_drop]
      · rw [List.length_drop, Array.length_toList, hc]; omega

theorem QRow.shut {w : World} {q : List Pn} {g cap : Nat} {rest : List Value} (h : QBlk w g q rest) (hl : rest.length + q.length * 3 = cap * 3) (hm : cap ≤ maxLen) : QRow w (.slice (some ⟨g, 0, none⟩) q.length cap) q (some g) := by
  refine ⟨.inr ⟨g, rfl, rfl, qCells_len q, .inr ⟨g, cap, _, rfl, Nat.zero_le _, h.is.is, by omega, hm, ?_, ?_⟩⟩⟩
  · simp [qCells_len]; omega
  · rw [List.take_left' (qCells_len q)]

theorem qCells_set : ∀ (r : List Pn) (i : Nat) (p : Pn), i < r.length → (((qCells r).set (i * 3) (.int .i64 p.f)).set (i * 3 + 1) (.int .i64 p.at_)).set (i * 3 + 2) (strV p.s) = qCells (r.set i p)
  | x :: r, 0, p, _ => rfl
  | x :: r, i + 1, p, h => by
    have ih := qCells_set r i p (by simpa using h)
    have e : ∀ (l : List Pn), qCells (x :: l) = pCells x ++ qCells l := fun _ => rfl
    have hl : (pCells x).length = 3 := rfl
    rw [List.set_cons_succ, e, e, ← ih, List.set_append_right _ _ (by omega), List.set_append_right _ _ (by omega), List.set_append_right _ _ (by omega), hl, show (i + 1) * 3 - 3 = i * 3 by omega, show (i + 1) * 3 + 1 - 3 = i * 3 + 1 by omega, show (i + 1) * 3 + 2 - 3 = i * 3 + 2 by omega]

theorem QBlk.set {w : World} {g : Nat} {r : List Pn} {rest : List Value} (h : QBlk w g r rest) {i : Nat} (hi : i < r.length) (p : Pn) :
    QBlk (((w.setCell ⟨g, i * 3, none⟩ (.int .i64 p.f)).setCell ⟨g, i * 3 + 1, none⟩ (.int .i64 p.at_)).setCell ⟨g, i * 3 + 2, none⟩ (strV p.s)) g (r.set i p) rest := by
  have hl := qCells_len r
  refine ⟨(((h.is.set _ _).set _ _).set _ _).cast ?_⟩
  rw [List.set_append_left _ _ (by omega), List.set_append_left _ _ (by simp; omega), List.set_append_left _ _ (by simp; omega), qCells_set r i p hi]

theorem QBlk.cells {w : World} {g : Nat} {r : List Pn} {rest : List Value} (h : QBlk w g r rest) {k : Nat} (hk : k < r.length) :
    w.cell? ⟨g, k * 3, none⟩ = some (.int .i64 r[k].f) ∧ w.cell? ⟨g, k * 3 + 1, none⟩ = some (.int .i64 r[k].at_) ∧ w.cell? ⟨g, k * 3 + 2, none⟩ = some (strV r[k].s) := by
  have hl := qCells_len r
  have := qCells_get r k hk
  refine ⟨h.is.at ?_, h.is.at ?_, h.is.at ?_⟩
  · rw [List.getElem?_append_left (by omega)]; exact this.1
  · rw [List.getElem?_append_left (by omega)]; exact this.2.1
  · rw [List.getElem?_append_left (by omega)]; exact this.2.2

theorem QBlk.keeps {S : Nat → Prop} {w w' : World} {g : Nat} {r : List Pn} {rest : List Value} (h : QBlk w g r rest) (k : Keeps S w w') (hs : ¬ S g) : QBlk w' g r rest := ⟨k.blk h.is hs⟩

theorem QBlk.set' {w : World} {g : Nat} {r : List Pn} {rest : List Value} (h : QBlk w g r rest) {i : Nat} (hi : i < r.length) (p : Pn) {x1 x2 : Int} {x3 : ByteArray} (hp : pCells p = [.int .i64 x2, .int .i64 x1, .string x3]) :
    QBlk (((w.setCell ⟨g, i * 3, none⟩ (.int .i64 x2)).setCell ⟨g, i * 3 + 1, none⟩ (.int .i64 x1)).setCell ⟨g, i * 3 + 2, none⟩ (.string x3)) g (r.set i p) rest := by
  have hq := h.set hi p
  simp only [pCells, List.cons.injEq, and_true] at hp
  rw [hp.1, hp.2.1, hp.2.2] at hq
  exact hq

theorem qCells_take : ∀ (r : List Pn) (i : Nat), (qCells r).take (i * 3) = qCells (r.take i)
  | [], i => by simp [qCells]
  | p :: r, 0 => by simp [qCells]
  | p :: r, i + 1 => by
    have e : ∀ (l : List Pn), qCells (p :: l) = pCells p ++ qCells l := fun _ => rfl
    rw [List.take_succ_cons, e, e, ← qCells_take r i, show (i + 1) * 3 = (pCells p).length + i * 3 by show _ = 3 + _; omega, List.take_length_add_append]

theorem run_clear_pend (w : World) (ty : TypeId) (b o n c : Nat) (hn : 0 < n) (vs : List Value) (hb : Blk w b 91 vs) (hl : o + 3 * n ≤ vs.length) :
    ∃ Z : List Value, Z.length = 3 * n ∧ (Builtin.clear_ #[68] ty #[.slice (some ⟨b, o, none⟩) n c]).run Try.prog w = .ok (.tuple #[]) (w.setCells b o Z) := by
  have hzv : ∀ w, (zeroValue 91).run Try.prog w = .ok (.agg #[.int .i64 0, .int .i64 0, .string ⟨#[]⟩]) w := Try.zeroValue91
  refine ⟨(Builtin.zeroCells (Value.agg #[.int .i64 0, .int .i64 0, .string ⟨#[]⟩]).cells n).toList, ?_, ?_⟩
  · simp [size_zeroCells, Value.cells]; omega
  · have hlen : (Builtin.zeroCells (Value.agg #[.int .i64 0, .int .i64 0, .string ⟨#[]⟩]).cells n).toList.length = 3 * n := by simp [size_zeroCells, Value.cells]; omega
    have hone : ∀ v ∈ (Builtin.zeroCells (Value.agg #[.int .i64 0, .int .i64 0, .string ⟨#[]⟩]).cells n).toList, v.oneCell' = true := by
      intro v hv
      simp only [Builtin.zeroCells, Array.toList_map, List.mem_map] at hv
      obtain ⟨j, _, rfl⟩ := hv
      have h3 : j % 3 < 3 := Nat.mod_lt _ (by decide)
      show ((#[Value.int .i64 0, .int .i64 0, .string ⟨#[]⟩] : Array Value)[j % 3]!).oneCell' = true
      generalize j % 3 = m at h3
      match m, h3 with
      | 0, _ => rfl
      | 1, _ => rfl
      | 2, _ => rfl
    have hst := run_storeCells_cells (P := Try.prog) b o _ 0 w (fun j hj => by
      rw [hlen] at hj
      rw [Nat.add_zero, hb.cell, List.getElem?_eq_getElem (by omega)]; rfl) (fun j hj => hb.free _) hone
    simp only [Nat.add_zero] at hst
    obtain ⟨m, rfl⟩ : ∃ m, n = m + 1 := ⟨n - 1, by omega⟩
    simp only [Builtin.clear_]
    simp [run_underlying Try.underlying68, hzv, hst]

def keepP (f : Nat) (p : Pn) : Bool := !decide (p.f = f)

theorem start_facts {f i0 : Nat} {q : List Pn} (h : idxL f q = i0) (hi : i0 < q.length) : q.take i0 = (q.take (i0 + 1)).filter (keepP f) ∧ q[i0].f = f := by
  unfold idxL at h
  have := (List.findIdx_eq hi).1 h
  have hf : q[i0].f = f := by simpa using this.1
  refine ⟨?_, hf⟩
  rw [List.take_succ_eq_append_getElem hi, List.filter_append]
  have h1 : (q.take i0).filter (keepP f) = q.take i0 := by
    rw [List.filter_eq_self]
    intro p hp
    obtain ⟨j, hj, rfl⟩ := List.getElem_of_mem hp
    have hj' : j < i0 := by simp at hj; omega
    have := this.2 j hj'
    simp only [List.getElem_take]
    simpa [keepP] using this
  rw [h1]
  simp [keepP, hf]

theorem del_at {q r : List Pn} {j : Nat} {p : Pn} (hj : j < q.length) (hr : j < r.length) (hp : r[j] = p) (hd : r.drop j = q.drop j) : q[j] = p ∧ r.drop (j + 1) = q.drop (j + 1) := by
  rw [List.drop_eq_getElem_cons hj, List.drop_eq_getElem_cons hr] at hd
  injection hd with h1 h2
  exact ⟨by rw [← h1]; exact hp, h2⟩

theorem del_skip {f : Nat} {q r : List Pn} {i j : Nat} {p : Pn} (hj : j < q.length) (hr : j < r.length) (hp : r[j] = p) (he : p.f = f) (ht : r.take i = (q.take j).filter (keepP f)) (hd : r.drop j = q.drop j) :
    r.take i = (q.take (j + 1)).filter (keepP f) ∧ r.drop (j + 1) = q.drop (j + 1) := by
  have h := del_at hj hr hp hd
  refine ⟨?_, h.2⟩
  rw [List.take_succ_eq_append_getElem hj, List.filter_append, h.1, ← ht]
  simp [keepP, he]

theorem del_keep {f : Nat} {q r : List Pn} {i j : Nat} {p : Pn} (hj : j < q.length) (hr : j < r.length) (hij : i < j) (hp : r[j] = p) (he : ¬ p.f = f) (ht : r.take i = (q.take j).filter (keepP f)) (hd : r.drop j = q.drop j) :
    (r.set i p).take (i + 1) = (q.take (j + 1)).filter (keepP f) ∧ (r.set i p).drop (j + 1) = q.drop (j + 1) := by
  have h := del_at hj hr hp hd
  refine ⟨?_, by rw [List.drop_set_of_lt (by omega)]; exact h.2⟩
  rw [List.take_succ_eq_append_getElem hj, List.filter_append, h.1, ← ht, List.take_succ_eq_append_getElem (by simp; omega), List.take_set_of_le (by omega)]
  simp [keepP, he]

set_option maxHeartbeats 1000000 in
theorem delete_any (w : World) (v : Value) (q : List Pn) (O : Option Nat) (b f : Nat) (hlen : q.length ≤ 1000000000) (hq : QRow w v q O) (hc : w.cell? ⟨b, 0, none⟩ = some (.int .i64 f)) (hb : O ≠ some b) :
    Calls Try.prog 88 #[v, .func (.func 89) #[] #[.pointer (some ⟨b, 0, none⟩)]] w fun e w' => ∃ v', e = .returned v' ∧ QRow w' v' (q.filter (keepP f)) O ∧ Keeps (fun k => O = some k) w w' := by
  have HI := Hd.mk (settle1_idx w v q O b f hlen hq hc)
  by_cases hi : idxL f q < q.length
  · obtain ⟨i0, hi0⟩ : ∃ i, idxL f q = i := ⟨_, rfl⟩
    rw [hi0] at hi
    have hiv : idxV f q = (i0 : Int) := by unfold idxV; rw [hi0, if_pos hi]
    rw [hiv] at HI
    obtain ⟨g, rfl⟩ : ∃ g, O = some g := by
      rcases hq.is with ⟨_, rfl, _⟩ | ⟨g, rfl, _⟩
      · simp at hi
      · exact ⟨g, rfl⟩
    obtain ⟨cap, rest, rfl, hB, hcl, hnc, hcm⟩ := hq.open
    have HB := Hd.mk hB
    have hgb : ¬ b = g := fun e => hb (by rw [e])
    have HC := Hd.mk hc
    clear hq hB hc hb hiv
    obtain ⟨n, hn⟩ : ∃ n, q.length = n := ⟨_, rfl⟩
    rw [hn] at hi hlen HI hcl hnc
    rw [hn]
    have hm1 : ((i0 : Int) == -1) = false := by simp
    go_enter Try.func88, Try.ntmps88
    go_wp2_with (go_at_call 90; refine HI.out.mono ?_; rintro e w1 ⟨rfl, hk1⟩)
    have hK1 := Hd.mk (hk1.mono (S' := fun k => some g = some k) (fun _ _ h => h.elim))
    have HB1 := Hd.mk (HB.out.keeps hk1 (fun h => h))
    have hst := Hd.mk (start_facts hi0 (hn ▸ hi))
    clear hk1 HI
    go_wp2
    go_loopw [5, 6] (fun iv jv wr => ∃ i j : Nat, ∃ r : List Pn, i < j ∧ j ≤ n ∧ iv = .int .i64 i ∧ jv = .int .i64 j ∧ r.length = n ∧ r.take i = (q.take j).filter (keepP f) ∧ r.drop j = q.drop j ∧ QBlk wr g r rest ∧ Keeps (fun k => some g = some k) w wr) (fun _ jv _ => n - (intOf jv).toNat)
    case atStart => exact ⟨i0, i0 + 1, q, by omega, by omega, rfl, by go_num, hn, hst.out.1, rfl, HB1.out, hK1.out⟩
    case round =>
      clear HB HB1 hK1 hst
      obtain ⟨i, j, r, hij, hj, rfl, rfl, hrl, htk, hdr, hB, hK⟩ := hrel
      have HB := Hd.mk hB
      have HK := Hd.mk hK
      have HT := Hd.mk htk
      have HD := Hd.mk hdr
      have hf := HC.out
      clear hB hK htk hdr
      by_cases hlt : j < n
      · have hd1 : decide ((j : Int) < (n : Int)) = true := by simp; omega
        have hjr : j < r.length := by omega
        have hcs := HB.out.cells hjr
        obtain ⟨c1, c2, c3⟩ := hcs
        obtain ⟨p, hp⟩ : ∃ p, r[j] = p := ⟨_, rfl⟩
        rw [hp] at c1 c2 c3
        have HP := Hd.mk hp
        clear hp hf
        obtain ⟨x1, hx1⟩ : ∃ x : Int, (p.at_ : Int) = x := ⟨_, rfl⟩
        obtain ⟨x2, hx2⟩ : ∃ x : Int, (p.f : Int) = x := ⟨_, rfl⟩
        obtain ⟨x3, hx3⟩ : ∃ x : ByteArray, (⟨p.s.toArray⟩ : ByteArray) = x := ⟨_, rfl⟩
        have hpc : pCells p = [.int .i64 x2, .int .i64 x1, .string x3] := by rw [← hx1, ← hx2, ← hx3]; rfl
        rw [hx1] at c2
        rw [hx2] at c1
        rw [strV_def, hx3] at c3
        have KA : Keeps (fun _ => False) wr (wr.alloc (.cells #[.int .i64 x2, .int .i64 x1, .string x3] 91)) := (Keeps.refl (fun _ => False) wr).alloc _
        have hcb : (wr.alloc (.cells #[.int .i64 x2, .int .i64 x1, .string x3] 91)).cell? ⟨b, 0, none⟩ = some (.int .i64 f) := by
          have hlt := World.block_lt_of_cell? w _ HC.out
          have hkb := (HK.out.trans (KA.mono (S' := fun k => some g = some k) (fun _ _ h => h.elim))).block b hlt (fun e => hgb (Option.some.inj e).symm)
          rw [World.cell?_of_block (a := ⟨b, 0, none⟩) hkb]; exact HC.out
        have HCL := Hd.mk (settle1_any p b f _ hcb)
        rw [hpc] at HCL
        have hbn := Blk.new wr 91 [.int .i64 x2, .int .i64 x1, .string x3]
        have HBN := Hd.mk hbn
        have HKA := Hd.mk KA
        have HPC := Hd.mk hpc
        clear hx1 hx2 hx3 hpc KA hcb hbn
        by_cases he : p.f = f
        · rw [decide_eq_true he] at HCL
          have HE := Hd.mk he
          clear he
          go_wp2_with fail
          refine HCL.out.mono ?_
          rintro e w2 ⟨rfl, hK2⟩
          have HKK := Hd.mk (HK.out.trans ((HKA.out.trans hK2).mono (S' := fun k => some g = some k) (fun _ _ h => h.elim)))
          have HB2 := Hd.mk (HB.out.keeps (HKA.out.trans hK2) (fun h => h))
          clear hK2
          have hskip := Hd.mk (del_skip (hn ▸ hlt) hjr HP.out HE.out HT.out HD.out)
          go_wp2
          refine ⟨⟨i, j + 1, r, by omega, hlt, rfl, by go_num, hrl, hskip.out.1, hskip.out.2, HB2.out, HKK.out⟩, by simp [intOf]; omega⟩
        · rw [decide_eq_false he] at HCL
          have HE := Hd.mk he
          clear he
          go_wp2_with fail
          refine HCL.out.mono ?_
          rintro e w2 ⟨rfl, hK2⟩
          have HKK := Hd.mk (HK.out.trans ((HKA.out.trans hK2).mono (S' := fun k => some g = some k) (fun _ _ h => h.elim)))
          have HB2 := Hd.mk (HB.out.keeps (HKA.out.trans hK2) (fun h => h))
          have hb2 := hK2.blk HBN.out (fun h => h)
          have d1 := hb2.at (j := 0) rfl
          have d2 := hb2.at (j := 1) rfl
          have d3 := hb2.at (j := 2) rfl
          have hir : i < r.length := by omega
          obtain ⟨e1, e2, e3⟩ := HB2.out.cells hir
          rw [strV_def] at e3
          have f1 := HB2.out.is.free (i * 3)
          have f2 := HB2.out.is.free (i * 3 + 1)
          have f3 := HB2.out.is.free (i * 3 + 2)
          have hin : (i : Int) < (n : Int) := by omega
          have hHg : Hd (¬ wr.heap.size = g) := ⟨fun e => Nat.lt_irrefl g (e ▸ HB.out.is.lt)⟩
          clear hK2 hb2
          have hkeep := Hd.mk (del_keep (hn ▸ hlt) hjr hij HP.out HE.out HT.out HD.out)
          have HB3 := Hd.mk (HB2.out.set' hir p HPC.out)
          have HK3 := Hd.mk (((HKK.out.setCell (p := ⟨g, i * 3, none⟩) (.inr rfl) (.int .i64 x2)).setCell (p := ⟨g, i * 3 + 1, none⟩) (.inr rfl) (.int .i64 x1)).setCell (p := ⟨g, i * 3 + 2, none⟩) (.inr rfl) (.string x3))
          go_wp2
          exact ⟨⟨i + 1, j + 1, r.set i p, by omega, hlt, by go_num, by go_num, by simpa using hrl, hkeep.out.1, hkeep.out.2, HB3.out, HK3.out⟩, by simp [intOf]; omega⟩
      · have hd1 : decide ((j : Int) < (n : Int)) = false := by simp; omega
        have hjn : j = n := by omega
        have hfin : Hd (r.take i = q.filter (keepP f)) := ⟨by rw [HT.out, hjn, List.take_of_length_le (by omega)]⟩
        have hin : i < n := by omega
        have hl := qCells_len r
        have hbl : i * 3 + 3 * (n - i) ≤ (qCells r ++ rest).length := by rw [List.length_append, hl, hrl]; omega
        obtain ⟨Z, hZl, hcr⟩ := run_clear_pend wr 0 g (i * 3) (n - i) (cap - i) (by omega) (qCells r ++ rest) HB.out.is hbl
        have hb3 := Blk.setCells Z (i * 3) wr _ HB.out.is (by rw [hZl]; exact hbl)
        have hB3 : QBlk (wr.setCells g (i * 3) Z) g (r.take i) (Z ++ (qCells r ++ rest).drop (i * 3 + Z.length)) := ⟨hb3.cast (by rw [List.append_assoc, List.take_append_of_le_length (by omega), qCells_take])⟩
        rw [hfin.out] at hB3
        have hfl : (q.filter (keepP f)).length = i := by rw [← hfin.out, List.length_take]; omega
        have HR := Hd.mk (QRow.shut (cap := cap) hB3 (by rw [hfl]; simp [hZl, hl, hrl]; omega) hcm)
        rw [hfl] at HR
        have HK3 : Hd (Keeps (fun k => some g = some k) w (wr.setCells g (i * 3) Z)) := ⟨HK.out.trans ((keeps_setCells' Z (i * 3) wr).mono (fun _ _ e => by rw [e]))⟩
        clear hb3 hB3 hfl hl hbl hf hjn
        go_wp2
        go_ret
        exact ⟨_, rfl, HR.out, HK3.out⟩
  · have hiv : idxV f q = -1 := by unfold idxV; rw [if_neg hi]
    rw [hiv] at HI
    have hall : q.filter (keepP f) = q := by
      rw [List.filter_eq_self]
      intro p hp
      have : ¬ ∃ x ∈ q, decide (x.f = f) = true := fun hx => hi (List.findIdx_lt_length.2 hx)
      have hpf : ¬ p.f = f := fun e => this ⟨p, hp, by simpa using e⟩
      simp [keepP, hpf]
    rw [hall]
    have HQ := Hd.mk hq
    clear hq hc hb hiv hall hi
    obtain ⟨pv, cv, rfl⟩ := HQ.out.slice
    go_enter Try.func88, Try.ntmps88
    go_wp2_with (go_at_call 90; refine HI.out.mono ?_; rintro e w1 ⟨rfl, hk1⟩)
    go_ret
    exact ⟨_, rfl, HQ.out.keeps hk1 (fun _ _ h => h), hk1.mono (fun _ _ h => h.elim)⟩

end Go.Proofs.Ytmcdfhihfcfbaaa.W
