/-
  DiskLasts: the operations that were written since, as a row; the walks of without and here.
-/
import Derived.Test.YtcleocgaooblfaaLastP
namespace Go.Proofs.Ytcleocgaooblfaa.W
open Go.RowKit
set_option linter.unusedVariables false

def avCells (a : AV) : List Value := acCells a.1 a.2
/-- a row of operations that the law has made itself -/
structure SRow (w : World) (v : Value) (ps : List AV) : Prop where
  row : w.ownsRow 0 42 6 v ps.length (ps.flatMap avCells)
  one : ∀ a ∈ ps, a.2.oneCell' = true

theorem infoAct : (Try.prog.info? 42).map (fun i => (i.zero, i.size, i.bytes)) = some (some (.agg #[.int .i64 0, .int .i64 0, .int .i64 0, .int .i64 0, .string ⟨#[]⟩, .slice none 0 0]), 6, 72) := by kernel_rfl

theorem SRow.nil (w : World) : SRow w (.slice none 0 0) [] := ⟨⟨rfl, .inl ⟨rfl, rfl⟩⟩, fun _ h => by cases h⟩
theorem SRow.slice {w : World} {v : Value} {ps : List AV} (h : SRow w v ps) : ∃ p c, v = .slice p ps.length c := by
  rcases h.row.2 with ⟨rfl, h0⟩ | ⟨g, cap, cur, rfl, _⟩
  · exact ⟨none, 0, by rw [h0]⟩
  · exact ⟨_, cap, rfl⟩
theorem SRow.typ {w : World} {v : Value} {ps : List AV} (h : SRow w v ps) {g : Nat} (hg : v.ownBlock = some g) : ∃ cur, w.heap[g]? = some (.cells cur 42 (0, 0)) := by
  rcases h.row.2 with ⟨rfl, _⟩ | ⟨b, cap, cur, rfl, _, hb, _⟩
  · cases hg
  · have : b = g := by simpa [Value.ownBlock] using hg
    subst this
    exact ⟨cur, hb⟩
theorem SRow.lt {w : World} {v : Value} {ps : List AV} (h : SRow w v ps) {g : Nat} (hg : v.ownBlock = some g) : g < w.heap.size := by
  obtain ⟨cur, hb⟩ := h.typ hg
  rcases Nat.lt_or_ge g w.heap.size with h' | h'
  · exact h'
  · rw [Array.getElem?_eq_none h'] at hb; cases hb
theorem SRow.keeps {S : Nat → Prop} {w w' : World} {v : Value} {ps : List AV} (h : SRow w v ps) (k : Keeps S w w') (hs : ∀ g, v.ownBlock = some g → ¬ S g) : SRow w' v ps := by
  refine ⟨⟨h.row.1, ?_⟩, h.one⟩
  have hlt := fun {g} => h.lt (g := g)
  rcases h.row.2 with h0 | ⟨b, cap, cur, rfl, hB, hb, r⟩
  · exact .inl h0
  · exact .inr ⟨b, cap, cur, rfl, hB, by rw [k.block b (hlt rfl) (hs b rfl), hb], r⟩

theorem flat_at : ∀ (ps : List AV) (j i : Nat) (h : j < ps.length), i < 6 → (ps.flatMap avCells)[j * 6 + i]? = (avCells ps[j])[i]?
  | [], j, i, h, _ => by simp at h
  | a :: ps, 0, i, h, hi => by
    rw [List.flatMap_cons, Nat.zero_mul, Nat.zero_add, List.getElem?_append_left (by show i < 6; exact hi)]; rfl
  | a :: ps, j + 1, i, h, hi => by
    rw [List.flatMap_cons, List.getElem?_append_right (by show 6 ≤ _; omega)]
    have : (j + 1) * 6 + i - (avCells a).length = j * 6 + i := by show (j + 1) * 6 + i - 6 = _; omega
    rw [this, flat_at ps j i (by simpa using h) hi]; rfl

theorem SRow.at {w : World} {v : Value} {ps : List AV} (h : SRow w v ps) {p : Option Addr} {c n : Nat} (hv : v = .slice p n c) {j : Nat} (hj : j < ps.length) :
    ∃ g, p = some ⟨g, 0, none⟩ ∧ ∀ i u, (avCells ps[j])[i]? = some u → w.cell? ⟨g, 0 + j * 6 + i, none⟩ = some u := by
  have hrow := h.row
  rcases h.row.2 with ⟨rfl, h0⟩ | ⟨b, cap, cur, rfl, hB, hb, r⟩
  · omega
  · injection hv with e1 _ _
    refine ⟨b, e1.symm, fun i u hu => ?_⟩
    have hi : i < 6 := (List.getElem?_eq_some_iff.1 hu).1
    have := hrow.cells (g := b) rfl (j * 6 + i) u (by rw [flat_at ps j i hj hi]; exact hu)
    rw [Nat.zero_add]
    have ea : (⟨b, 0, none⟩ : Addr).add (j * 6 + i) = ⟨b, j * 6 + i, none⟩ := by unfold Addr.add; split <;> simp_all
    rwa [ea] at this

theorem av_one {a : AV} (h : a.2.oneCell' = true) : ∀ u ∈ avCells a, u.oneCell' = true := fun u hu => by
  simp only [avCells, acCells, List.mem_cons, List.not_mem_nil, or_false] at hu
  rcases hu with rfl | rfl | rfl | rfl | rfl | rfl
  · rfl
  · rfl
  · rfl
  · rfl
  · rfl
  · exact h

/-- one operation appended -/
theorem run_since (W : World) (v : Value) (ps : List AV) (a : AV) (H : Nat) (hq : SRow W v ps) (hlen : ps.length ≤ 1000000) (ha : a.2.oneCell' = true) (hH : ∀ j u, (avCells a)[j]? = some u → W.cell? ⟨H, j, none⟩ = some u) :
    ∃ v' w', (Builtin.append_ #[38, 38] 38 #[v, .slice (some ⟨H, 0, none⟩) 1 1]).run Try.prog W = .ok v' w' ∧ SRow w' v' (ps ++ [a]) ∧ Keeps (fun g => v.ownBlock = some g) W w' ∧ (v'.ownBlock = v.ownBlock ∨ v'.ownBlock = some W.heap.size) := by
  obtain ⟨i0, hi, hz0, hz1, hz2⟩ := info_parts infoAct
  obtain ⟨v', w', hr, h2, h3, h5⟩ := run_row (P := Try.prog) W 38 38 42 Try.underlying38 hi hz0 hz1 hz2 rfl (by decide) v ps.length (ps.flatMap avCells) hq.row ⟨H, 0, none⟩ 1 1 (avCells a) rfl (fun j u hj => by rw [add0]; exact hH j u hj) (av_one ha) (by unfold maxLen; omega) (by omega)
  refine ⟨v', w', hr, ⟨?_, fun x hx => ?_⟩, h3, h5⟩
  · rw [List.length_append, List.flatMap_append, List.flatMap_singleton]; exact h2
  · rcases List.mem_append.1 hx with hx | hx
    · exact hq.one x hx
    · rw [List.mem_singleton.1 hx]; exact ha

theorem other_snoc {ps : List AV} {k : Nat} (h : k < ps.length) (f : Int) : other (ps.take (k + 1)) f = if ps[k].1.f = f then other (ps.take k) f else other (ps.take k) f ++ [ps[k]] := by
  unfold other
  rw [List.take_succ_eq_append_getElem h, List.filter_append]
  split
  · rename_i e; simp [e]
  · rename_i e; simp [e]
theorem other_len (ps : List AV) (f : Int) : (other ps f).length ≤ ps.length := List.length_filter_le _ _

set_option maxHeartbeats 2000000 in
theorem without_any (w : World) (v : Value) (ps : List AV) (f : Int) (hl : ps.length ≤ 1000) (h : SRow w v ps) :
    Calls Try.prog 24 #[v, .int .i64 f] w fun e w' => ∃ v', e = .returned v' ∧ SRow w' v' (other ps f) ∧ Keeps (fun _ => False) w w' ∧ (∀ g, v'.ownBlock = some g → w.heap.size ≤ g) := by
  obtain ⟨pv, cv, rfl⟩ := h.slice
  have HR := Hd.mk h
  obtain ⟨N, hN⟩ : ∃ N, ps.length = N := ⟨_, rfl⟩
  rw [hN] at HR hl
  rw [hN]
  have HN := Hd.mk hN
  clear h hN
  go_enter Try.func24, Try.ntmps24
  go_wp2_with fail
  go_loopw [5, 6] (fun o i wr => ∃ k : Nat, k ≤ N ∧ i = .int .i64 k ∧ Hd (SRow wr o (other (ps.take k) f)) ∧ Hd (Keeps (fun _ => False) w wr) ∧ Hd (∀ g, o.ownBlock = some g → w.heap.size ≤ g)) (fun _ i _ => N - (intOf i).toNat)
  case atStart => exact ⟨0, Nat.zero_le _, rfl, ⟨SRow.nil w⟩, ⟨Keeps.refl _ _⟩, ⟨fun g h => by cases h⟩⟩
  case round =>
    obtain ⟨k, hk, rfl, HS, HK, HO⟩ := hrel
    by_cases hlt : k < N
    · have hd1 : decide ((k : Int) < (N : Int)) = true := by simp; omega
      have hkl : k < ps.length := HN.out ▸ hlt
      obtain ⟨g, rfl, hc⟩ := (HR.out.keeps HK.out (fun _ _ h => h)).at rfl hkl
      have hsn := other_snoc hkl f
      have hone := HR.out.one _ (List.getElem_mem hkl)
      obtain ⟨x, hx⟩ : ∃ x, ps[k] = x := ⟨_, rfl⟩
      rw [hx] at hc hsn hone
      obtain ⟨x, kv⟩ := x
      have c0 : wr.cell? ⟨g, 0 + k * 6, none⟩ = some (.int .i64 x.d) := hc 0 _ rfl
      have c1 : wr.cell? ⟨g, 0 + k * 6 + 1, none⟩ = some (.int .i64 x.f) := hc 1 _ rfl
      have c2 : wr.cell? ⟨g, 0 + k * 6 + 2, none⟩ = some (.int .i64 x.g) := hc 2 _ rfl
      have c3 : wr.cell? ⟨g, 0 + k * 6 + 3, none⟩ = some (.int .i64 x.n) := hc 3 _ rfl
      have c4 : wr.cell? ⟨g, 0 + k * 6 + 4, none⟩ = some (.string x.s) := hc 4 _ rfl
      have c5 : wr.cell? ⟨g, 0 + k * 6 + 5, none⟩ = some kv := hc 5 _ rfl
      simp only [Nat.zero_add] at c0 c1 c2 c3 c4 c5
      have HSN := Hd.mk hsn
      clear hc hsn hx
      by_cases he : x.f = f
      · have e1 : (x.f != f) = false := by simp [he]
        have HE : Hd (other (ps.take (k + 1)) f = other (ps.take k) f) := ⟨by rw [HSN.out]; exact if_pos he⟩
        clear he
        go_wp2
        go_roundw
        case rel => exact ⟨k + 1, hlt, by go_num, ⟨by rw [HE.out]; exact HS.out⟩, HK, HO⟩
        case measure => simp [intOf]; omega
      · have e1 : (x.f != f) = true := by simp [he]
        have HE : Hd (other (ps.take (k + 1)) f = other (ps.take k) f ++ [(x, kv)]) := ⟨by rw [HSN.out]; exact if_neg he⟩
        have hbk := Blk.new wr 42 [.int .i64 x.d, .int .i64 x.f, .int .i64 x.g, .int .i64 x.n, .string x.s, kv]
        have HRun := Hd.mk (run_since (wr.alloc (.cells #[.int .i64 x.d, .int .i64 x.f, .int .i64 x.g, .int .i64 x.n, .string x.s, kv] 42)) u5 _ (x, kv) wr.heap.size (HS.out.keeps ((Keeps.refl (fun _ => False) wr).alloc _) (fun _ _ h => h)) (Nat.le_trans (other_len _ _) (by rw [List.length_take]; omega)) hone (fun j u hj => hbk.at hj))
        have HKW : Hd (Keeps (fun _ => False) wr (wr.alloc (.cells #[.int .i64 x.d, .int .i64 x.f, .int .i64 x.g, .int .i64 x.n, .string x.s, kv] 42))) := ⟨(Keeps.refl _ _).alloc _⟩
        clear he hbk hone
        obtain ⟨v', w', hr, h2, h3, h5⟩ := HRun.out
        have HR2 := Hd.mk hr
        have H2 := Hd.mk h2
        have H3 := Hd.mk h3
        have H5 := Hd.mk h5
        clear hr h2 h3 h5 HRun
        go_wp2_with (at_builtin; refine wp_append_run rfl (Operand.tmp 20) (Operand.tmp 25) 38 rfl _ _ _ rfl rfl HR2.out ?_)
        go_roundw
        case rel =>
          refine ⟨k + 1, hlt, by go_num, ⟨by rw [HE.out]; exact H2.out⟩, ⟨?_⟩, ⟨fun g hg => ?_⟩⟩
          · have hw := HK.out.size
            have := (HK.out.trans HKW.out)
            refine ⟨H3.out.os.trans this.os, H3.out.tape.trans this.tape, H3.out.output.trans this.output, Nat.le_trans this.size H3.out.size, fun j hj hn => ?_⟩
            rw [H3.out.block j (Nat.lt_of_lt_of_le hj this.size) (fun e => by have := HO.out j e; omega)]
            exact this.block j hj hn
          · rcases H5.out with h | h
            · exact HO.out g (by rw [← h]; exact hg)
            · rw [h] at hg
              have := HK.out.size
              have := HKW.out.size
              have := Option.some.inj hg
              omega
        case measure => simp [intOf]; omega
    · have hd1 : decide ((k : Int) < (N : Int)) = false := by simp; omega
      obtain rfl : N = k := by omega
      have HE : Hd (ps.take N = ps) := ⟨by rw [← HN.out]; exact List.take_length⟩
      rw [HE.out] at HS
      clear hk hlt
      go_wp2
      go_ret
      exact ⟨_, rfl, HS.out, HK.out, HO.out⟩

end Go.Proofs.Ytcleocgaooblfaa.W
