/-
  DiskTells: the walks of the reference's without, after.
-/
import Derived.Test.YtcleocgaooblfaaRf3
namespace Go.Proofs.Ytcleocgaooblfaa.W
open Go.RowKit
set_option linter.unusedVariables false

theorem infoPiece : (Try.prog.info? 80).map (fun i => (i.zero, i.size, i.bytes)) = some (some (.agg #[.int .i64 0, .int .i64 0, .string ⟨#[]⟩]), 3, 32) := by kernel_rfl

/-- one piece appended -/
theorem run_piece (W : World) (B : Nat) (v : Value) (q : List Pn) (p : Pn) (H : Nat) (hB : B ≤ W.heap.size) (hq : PRow W B v q) (hlen : q.length ≤ 1000000000) (hH : ∀ j u, (pCells p)[j]? = some u → W.cell? ⟨H, j, none⟩ = some u) :
    ∃ v' w', (Builtin.append_ #[69, 69] 69 #[v, .slice (some ⟨H, 0, none⟩) 1 1]).run Try.prog W = .ok v' w' ∧ PRow w' B v' (q ++ [p]) ∧ Keeps (fun g => B ≤ g ∧ ∃ cur fz, W.heap[g]? = some (.cells cur 80 fz)) W w' := by
  obtain ⟨i0, hi, hz0, hz1, hz2⟩ := info_parts infoPiece
  have hcs : qCells (q ++ [p]) = qCells q ++ pCells p := by rw [qCells_append]; simp [qCells]
  have h1 : ∀ u ∈ pCells p, u.oneCell' = true := fun u hu => by
    simp only [pCells, List.mem_cons, List.not_mem_nil, or_false] at hu
    rcases hu with rfl | rfl | rfl <;> rfl
  have go : W.ownsRow B 80 3 v q.length (qCells q) → ∃ v' w', (Builtin.append_ #[69, 69] 69 #[v, .slice (some ⟨H, 0, none⟩) 1 1]).run Try.prog W = .ok v' w' ∧ PRow w' B v' (q ++ [p]) ∧ Keeps (fun g => B ≤ g ∧ ∃ cur fz, W.heap[g]? = some (.cells cur 80 fz)) W w' := by
    intro hrow
    obtain ⟨v', w', hr, h2, h3, _, h5⟩ := run_append_own_at (P := Try.prog) W B 69 69 80 i0 _ 3 32 Try.underlying69 hi hz0 hz1 hz2 rfl (by decide) v q.length (qCells q) hrow ⟨H, 0, none⟩ 1 1 (pCells p) rfl (fun j u hj => by rw [add0]; exact hH j u hj) h1 (by unfold maxLen; omega) (by omega) hB
    refine ⟨v', w', hr, ⟨.inr (by rw [List.length_append, hcs]; exact h2)⟩, ⟨h3.os, h3.tape, h3.output, h3.size, fun k hk hn => h3.block k hk (fun c => hn ?_)⟩⟩
    rcases hrow.2 with ⟨rfl, _⟩ | ⟨b, cap, cur, rfl, hBb, hg, _⟩
    · cases c
    · have : k = b := by simpa [Value.ownBlock] using c
      subst this
      exact ⟨hBb, cur, _, hg⟩
  rcases hq.is with ⟨rfl, a, rfl⟩ | hrow
  · rcases a with _ | a
    · exact go ⟨by simp [qCells], .inl ⟨rfl, rfl⟩⟩
    · have hr := run_append_grow (P := Try.prog) W 69 69 80 i0 _ Try.underlying69 hi hz0 a 0 0 [] (by simp) (fun j u hj => by simp at hj) ⟨H, 0, none⟩ 1 1 (pCells p) (by rw [hz1]; rfl) (fun j u hj => by rw [add0]; exact hH j u hj) (by omega) (by omega) (growslice_fits (by omega) (by rw [hz2]; omega))
      refine ⟨_, _, hr, ⟨.inr ⟨by simp [qCells, pCells], .inr ⟨W.heap.size, _, _, rfl, hB, heap_alloc_new W.drew _, grownCap_ge W _ 0 80, grownCap_le_maxLen W _ 0 80 (by unfold maxLen; omega), ?_, ?_⟩⟩⟩, (((Keeps.refl _ W).drew).alloc _)⟩
      · have hge := grownCap_ge W (0 + 1) 0 80
        simp only [Array.size_append, List.size_toArray, size_zeroCells]
        show 0 + 3 + (grownCap W (0 + 1) 0 80 - (0 + 1)) * 3 = grownCap W (0 + 1) 0 80 * 3
        omega
      · simp [qCells, pCells]
  · exact go hrow

theorem PRow.base {w : World} {B B' : Nat} {v : Value} {q : List Pn} (h : PRow w B v q) (hB : B' ≤ B) : PRow w B' v q := by
  refine ⟨?_⟩
  rcases h.is with h0 | hrow
  · exact .inl h0
  · refine .inr ⟨hrow.1, ?_⟩
    rcases hrow.2 with h1 | ⟨b, cap, cur, e, hb, r⟩
    · exact .inl h1
    · exact .inr ⟨b, cap, cur, e, Nat.le_trans hB hb, r⟩

def otherQ (q : List Pn) (f : Nat) : List Pn := q.filter fun p => !decide (p.f = f)
theorem otherQ_take {q : List Pn} {k : Nat} (h : k < q.length) (f : Nat) : otherQ (q.take (k + 1)) f = if q[k].f = f then otherQ (q.take k) f else otherQ (q.take k) f ++ [q[k]] := by
  unfold otherQ
  rw [List.take_succ_eq_append_getElem h, List.filter_append]
  split
  · rename_i e; simp [e]
  · rename_i e; simp [e]

set_option maxHeartbeats 4000000 in
set_option maxRecDepth 100000 in
theorem rwithout_any (w : World) (B E : Nat) (σ : St) (f : Nat) (hlen : σ.queue.length ≤ 1000000000) {lv qv kv : Value} (hc : RCells w B E σ lv qv kv) : Calls Try.prog 62 #[.pointer (some ⟨E, 0, none⟩), .int .i64 f] w fun e w' => ∃ v', e = .returned v' ∧ PRow w' w.heap.size v' (otherQ σ.queue f) ∧ Keeps (fun _ => False) w w' := by
  obtain ⟨pq, cq, rfl⟩ := hc.q.slice
  have b1 := hc.b.at (j := 1) rfl
  obtain ⟨N, hN⟩ : ∃ N, σ.queue.length = N := ⟨_, rfl⟩
  have HC := Hd.mk hc
  rw [hN] at b1 hlen
  have HN := Hd.mk hN
  have HP : Hd (PRow w B (.slice pq N cq) σ.queue) := ⟨by have := hc.q; rwa [hN] at this⟩
  clear hc hN
  go_enter Try.func62, Try.ntmps62
  go_wp2
  go_loopw [5, 6] (fun o i wr => ∃ k : Nat, k ≤ N ∧ i = .int .i64 k ∧ Hd (PRow wr w.heap.size o (otherQ (σ.queue.take k) f)) ∧ Hd (Keeps (fun _ => False) w wr)) (fun _ i _ => N - (intOf i).toNat)
  case atStart => exact ⟨0, Nat.zero_le _, rfl, ⟨⟨.inl ⟨rfl, _, rfl⟩⟩⟩, ⟨Keeps.refl _ _⟩⟩
  case round =>
    obtain ⟨k, hk, rfl, HO, HK⟩ := hrel
    clear b1
    have hbE := HK.out.blk HC.out.b (fun h => h)
    have b1 : wr.cell? ⟨E, 1, none⟩ = some (.slice pq N cq) := by have := hbE.at (j := 1) rfl; rwa [HN.out] at this
    have hq' := HP.out.keeps HK.out (fun _ _ _ _ h => h)
    by_cases hlt : k < N
    · have hd1 : decide ((k : Int) < (N : Int)) = true := by simp; omega
      have hkl : k < σ.queue.length := HN.out ▸ hlt
      obtain ⟨g, rfl, c0, c1, c2⟩ := hq'.at rfl hkl
      have hot := otherQ_take hkl f
      obtain ⟨p, hp⟩ : ∃ p, σ.queue[k] = p := ⟨_, rfl⟩
      rw [hp] at c0 c1 c2 hot
      obtain ⟨ps, hps⟩ := bytesOf p.s
      rw [hps, strV_of] at c2
      have HOt := Hd.mk hot
      have hpc : pCells p = [.int .i64 p.f, .int .i64 p.at_, .string ps] := by unfold pCells; rw [hps, strV_of]
      clear hot hps hp hq'
      by_cases he : p.f = f
      · have e1 : ((p.f : Int) != (f : Int)) = false := by simp [he]
        have HE : Hd (PRow wr w.heap.size u5 (otherQ (σ.queue.take (k + 1)) f)) := ⟨by rw [HOt.out, if_pos he]; exact HO.out⟩
        clear he hpc
        go_wp2
        go_roundw
        case rel => exact ⟨k + 1, hlt, by go_num, HE, HK⟩
        case measure => simp [intOf]; omega
      · have e1 : ((p.f : Int) != (f : Int)) = true := by simp; omega
        have hbk := Blk.new wr 80 [.int .i64 p.f, .int .i64 p.at_, .string ps]
        have HKW : Hd (Keeps (fun _ => False) wr (wr.alloc (.cells #[.int .i64 p.f, .int .i64 p.at_, .string ps] 80))) := ⟨(Keeps.refl _ _).alloc _⟩
        obtain ⟨v', w', hr, h2, h3⟩ := run_piece (wr.alloc (.cells #[.int .i64 p.f, .int .i64 p.at_, .string ps] 80)) w.heap.size u5 (otherQ (σ.queue.take k) f) p wr.heap.size (Nat.le_trans HK.out.size HKW.out.size) (HO.out.keeps HKW.out (fun _ _ _ _ h => h)) (Nat.le_trans (List.length_filter_le _ _) (by rw [List.length_take]; omega)) (fun j u hj => hbk.at (by rw [← hpc]; exact hj))
        have HE : Hd (PRow w' w.heap.size v' (otherQ (σ.queue.take (k + 1)) f)) := ⟨by rw [HOt.out, if_neg he]; exact h2⟩
        have HR := Hd.mk hr
        have HK2 : Hd (Keeps (fun _ => False) w w') := ⟨by
          have h0 := HK.out.trans HKW.out
          exact ⟨h3.os.trans h0.os, h3.tape.trans h0.tape, h3.output.trans h0.output, Nat.le_trans h0.size h3.size, fun j hj hn => by
            rw [h3.block j (Nat.lt_of_lt_of_le hj h0.size) (fun e => by have := e.1; omega)]
            exact h0.block j hj hn⟩⟩
        clear he hpc hbk hr h2 h3
        go_wp2_with (at_builtin; refine wp_append_run rfl (Operand.tmp 26) (Operand.tmp 34) 69 rfl _ _ _ rfl rfl HR.out ?_)
        go_roundw
        case rel => exact ⟨k + 1, hlt, by go_num, HE, HK2⟩
        case measure => simp [intOf]; omega
    · have hd1 : decide ((k : Int) < (N : Int)) = false := by simp; omega
      obtain rfl : k = N := by omega
      have HE : Hd (PRow wr w.heap.size u5 (otherQ σ.queue f)) := ⟨by
        have : σ.queue.take k = σ.queue := by rw [← HN.out]; exact List.take_length
        rw [← this]; exact HO.out⟩
      clear hk hlt
      go_wp2
      go_ret
      exact ⟨_, rfl, HE.out, HK.out⟩

theorem aftL_step (f : Nat) : ∀ (q : List Pn) (ks : List Int) (k : Nat) (s : List UInt8) (h : k < q.length) (hk : k < ks.length), aftL f (q.take (k + 1)) ks s = if q[k].f = f then (if ks[k] = 1 then putL (aftL f (q.take k) ks s) q[k].at_ q[k].s else if ks[k] = 2 then putL (aftL f (q.take k) ks s) q[k].at_ (q[k].s.take (min q[k].s.length 16)) else aftL f (q.take k) ks s) else aftL f (q.take k) ks s
  | [], ks, k, s, h, _ => by simp at h
  | p :: q, [], k, s, _, hk => by simp at hk
  | p :: q, x :: ks, 0, s, _, _ => by
    cases q <;> cases ks <;> rfl
  | p :: q, x :: ks, k + 1, s, h, hk => by
    have := aftL_step f q ks k (if p.f = f then (if x = 1 then putL s p.at_ p.s else if x = 2 then putL s p.at_ (p.s.take (min p.s.length 16)) else s) else s) (by simpa using h) (by simpa using hk)
    simpa [aftL] using this
theorem aftL_out (f : Nat) : ∀ (q : List Pn) (ks : List Int) (k : Nat) (s : List UInt8), ks.length ≤ k → aftL f (q.take k) ks s = aftL f q ks s
  | [], ks, k, s, _ => by simp
  | p :: q, [], k, s, _ => by cases k <;> rfl
  | p :: q, x :: ks, 0, s, h => by simp at h
  | p :: q, x :: ks, k + 1, s, h => by
    rw [List.take_succ_cons, aftL, aftL]
    exact aftL_out f q ks k _ (by simpa using h)
theorem aftL_le {f b : Nat} : ∀ (q : List Pn) (ks : List Int) (s : List UInt8), s.length ≤ b → (∀ p ∈ q, p.at_ + p.s.length ≤ b) → (aftL f q ks s).length ≤ b
  | [], ks, s, h, _ => by cases ks <;> exact h
  | p :: q, [], s, h, _ => h
  | p :: q, k :: ks, s, h, hq => by
    have hp := hq p (by simp)
    rw [aftL]
    refine aftL_le q ks _ ?_ (fun p hp => hq p (by simp [hp]))
    split
    · split
      · rw [putL_len]; omega
      · split
        · rw [putL_len, List.length_take]; omega
        · exact h
    · exact h

set_option maxHeartbeats 4000000 in
set_option maxRecDepth 100000 in
theorem rafter_any (w : World) (B E : Nat) (σ : St) (f : Nat) (v : Value) (ks : List Int) (hf : f < 8) (hlen : σ.queue.length ≤ 1000000000) (hkl : ks.length ≤ 9223372036854775807) (hv : IR (fun _ => False) w v ks) (h : RRep w B E σ) : Calls Try.prog 63 #[.pointer (some ⟨E, 0, none⟩), .int .i64 f, v] w fun e w' => e = .returned (strV (aftL f σ.queue ks (σ.lasts.getD f []))) ∧ Keeps (fun _ => False) w w' := by
  have hok := h.ok
  obtain ⟨pk, ck, rfl⟩ := hv.slice
  obtain ⟨lv, qv, kv, hc⟩ := h.cells
  obtain ⟨gl, cl, rfl, hl1, hl2⟩ := last_cell hc.l h.ok hf
  obtain ⟨pq, cq, rfl⟩ := hc.q.slice
  have b0 := hc.b.at (j := 0) rfl
  have b1 := hc.b.at (j := 1) rfl
  obtain ⟨s0, hs0⟩ := bytesOf (σ.lasts.getD f [])
  rw [hs0] at hl1
  rw [strV_of] at hl1
  obtain ⟨N, hN⟩ : ∃ N, σ.queue.length = N := ⟨_, rfl⟩
  obtain ⟨M, hM⟩ : ∃ M, ks.length = M := ⟨_, rfl⟩
  have HC := Hd.mk hc
  have HV := Hd.mk hv
  rw [hM] at HV hkl ⊢
  rw [hN] at b1 hlen
  have HN := Hd.mk hN
  have HM := Hd.mk hM
  have HOK := Hd.mk hok
  have HL0 := Hd.mk hs0
  have f0 : (0 : Int) ≤ (f : Int) := by omega
  have f8 : (f : Int) < 8 := by omega
  have HP : Hd (PRow w B (.slice pq N cq) σ.queue) := ⟨by have := hc.q; rwa [hN] at this⟩
  clear h hc hN hM hs0 hok hv
  go_enter Try.func63, Try.ntmps63
  go_wp2
  go_loopw [7, 8] (fun v i wr => ∃ (k : Nat) (x : ByteArray), k ≤ N ∧ k ≤ M ∧ i = .int .i64 k ∧ v = .string x ∧ Hd (x.data.toList = aftL f (σ.queue.take k) ks (σ.lasts.getD f [])) ∧ Hd (Keeps (fun _ => False) w wr)) (fun _ i _ => N - (intOf i).toNat)
  case atStart => exact ⟨0, s0, Nat.zero_le _, Nat.zero_le _, rfl, rfl, ⟨by rw [HL0.out]; cases ks <;> rfl⟩, ⟨Keeps.refl _ _⟩⟩
  case round =>
    obtain ⟨k, x, hk, hkm, rfl, rfl, HX, HK⟩ := hrel
    clear b0 b1 hl1 hl2
    have hbE := HK.out.blk HC.out.b (fun h => h)
    have b1 : wr.cell? ⟨E, 1, none⟩ = some (.slice pq N cq) := by have := hbE.at (j := 1) rfl; rwa [HN.out] at this
    have hq' := HP.out.keeps HK.out (fun _ _ _ _ h => h)
    have HRet : Hd (k = N ∨ k = M → strV (aftL f σ.queue ks (σ.lasts.getD f [])) = .string x) := ⟨fun h => by
      rcases h with h | h
      · have : σ.queue.take k = σ.queue := by rw [h, ← HN.out]; exact List.take_length
        rw [← strV_of, HX.out, this]
      · rw [← strV_of, HX.out, aftL_out f σ.queue ks k _ (by rw [HM.out]; omega)]⟩
    by_cases hlt : k < N
    · have hd1 : decide ((k : Int) < (N : Int)) = true := by simp; omega
      by_cases hlm : k < M
      · have hd2 : decide ((k : Int) < (M : Int)) = true := by simp; omega
        have hkl2 : k < σ.queue.length := HN.out ▸ hlt
        have hkm2 : k < ks.length := HM.out ▸ hlm
        obtain ⟨g, rfl, c0, c1, c2⟩ := hq'.at rfl hkl2
        have hpo := HOK.out.q _ (List.getElem_mem hkl2)
        have htk := aftL_step f σ.queue ks k (σ.lasts.getD f []) hkl2 hkm2
        have hxl : x.size ≤ 16777216 := by
          show x.data.toList.length ≤ _
          rw [HX.out]
          exact aftL_le _ _ _ (getD_le HOK.out.ll f) (fun p hp => (HOK.out.q p (List.mem_of_mem_take hp)).2.1)
        have hkc : ∃ gk ok, pk = some ⟨gk, ok, none⟩ ∧ wr.cell? ⟨gk, ok + k, none⟩ = some (.int .i64 ks[k]) := by
          rcases (HV.out.keeps HK.out).is with ⟨h0, _⟩ | ⟨g', o', cap', e, _, hc'⟩
          · rw [h0] at hkm2; simp at hkm2
          · injection e with e1 _ _
            exact ⟨g', o', e1, hc' k _ (List.getElem?_eq_getElem hkm2)⟩
        obtain ⟨gk, okk, rfl, ck1⟩ := hkc
        obtain ⟨y, hy⟩ : ∃ y, ks[k] = y := ⟨_, rfl⟩
        obtain ⟨p, hp⟩ : ∃ p, σ.queue[k] = p := ⟨_, rfl⟩
        rw [hy] at ck1 htk
        rw [hp] at c0 c1 c2 hpo htk
        obtain ⟨ps, hps⟩ := bytesOf p.s
        rw [hps, strV_of] at c2
        rw [hps, ← HX.out] at htk
        have HT := Hd.mk htk
        have hpsz : p.at_ + ps.size ≤ 16777216 := by show p.at_ + ps.data.toList.length ≤ _; rw [← hps]; exact hpo.2.1
        have HKb : Hd (Keeps (fun _ => False) w (wr.alloc (.cells #[.int .i64 p.f, .int .i64 p.at_, .string ps] 80))) := ⟨HK.out.alloc _⟩
        have ck2 : (wr.alloc (.cells #[.int .i64 p.f, .int .i64 p.at_, .string ps] 80)).cell? ⟨gk, okk + k, none⟩ = some (.int .i64 y) := by
          rw [World.cell?_alloc_some _ _ _ (by rw [ck1]; rfl)]; exact ck1
        clear hq' hpo htk hp hy hps
        by_cases he : p.f = f
        · have e1 : ((p.f : Int) != (f : Int)) = false := by simp [he]
          by_cases y1 : y = 1
          · have t1 : (y == 1) = true := by simp [y1]
            have t2 : (y == 2) = false := by simp [y1]
            have HPut := fun w => Hd.mk (rput_any x p.at_ ps w hxl hpsz)
            obtain ⟨r, hr⟩ := bytesOf (putL x.data.toList p.at_ ps.data.toList)
            rw [hr, strV_of] at HPut
            have HX2 : Hd (r.data.toList = aftL f (σ.queue.take (k + 1)) ks (σ.lasts.getD f [])) := ⟨by rw [HT.out, if_pos he, if_pos y1]; exact hr.symm⟩
            have HKP : Hd (∀ w5, Keeps (fun _ => False) (wr.alloc (.cells #[.int .i64 p.f, .int .i64 p.at_, .string ps] 80)) w5 → Keeps (fun _ => False) w w5 ∧ w5.cell? ⟨gk, okk + k, none⟩ = some (.int .i64 y)) := ⟨fun w5 k5 => by
              have h1 := HKb.out.trans k5
              refine ⟨h1, ?_⟩
              rw [World.cell?_of_block (((((Keeps.refl (fun _ => False) wr).alloc _).trans k5)).block gk (lt_of_cell ck1) (fun h => h))]; exact ck1⟩
            clear he y1 hr hxl hpsz
            go_wp2_with fail
            refine (HPut _).out.mono ?_
            rintro e w5 ⟨rfl, k5⟩
            obtain ⟨hk5, hc5⟩ := HKP.out w5 k5
            have HK5 := Hd.mk hk5
            clear k5 hk5
            go_wp2
            go_roundw
            case rel => exact ⟨k + 1, r, hlt, hlm, by go_num, rfl, HX2, HK5⟩
            case measure => simp [intOf]; omega
          · have t1 : (y == 1) = false := by simp [y1]
            by_cases y2 : y = 2
            · have t2 : (y == 2) = true := by simp [y2]
              have hcut : ∃ (m : Nat) (t3 : ByteArray), ((ps.size < 16 ∧ (ps.size : Int) < 16 ∧ m = ps.size) ∨ (¬ ps.size < 16 ∧ ((ps.size : Int) < 16) = False ∧ (16 : Int) ≤ (ps.size : Int) ∧ m = 16)) ∧ m ≤ ps.size ∧ (m : Int) ≤ (ps.size : Int) ∧ ps.extract 0 m = t3 ∧ t3.data.toList = ps.data.toList.take (min ps.data.toList.length 16) := by
                have hl : ps.data.toList.length = ps.size := rfl
                by_cases h16 : ps.size < 16
                · exact ⟨ps.size, _, .inl ⟨h16, by omega, rfl⟩, Nat.le_refl _, by omega, rfl, by rw [Lib.extract_data, List.drop_zero, Nat.sub_zero, hl, show min ps.size 16 = ps.size by omega]⟩
                · exact ⟨16, _, .inr ⟨h16, eq_false (by omega), by omega, rfl⟩, by omega, by omega, rfl, by rw [Lib.extract_data, List.drop_zero, Nat.sub_zero, hl, show min ps.size 16 = 16 by omega]⟩
              obtain ⟨m, t3, hmn, hm2, hm3, ht3, hts⟩ := hcut
              have htl : t3.data.toList.length ≤ ps.size := by rw [hts, List.length_take]; show min _ ps.size ≤ _; omega
              have HPut := fun w => Hd.mk (rput_any x p.at_ t3 w hxl (by show p.at_ + t3.data.toList.length ≤ _; omega))
              obtain ⟨r, hr⟩ := bytesOf (putL x.data.toList p.at_ t3.data.toList)
              rw [hr, strV_of] at HPut
              have HX2 : Hd (r.data.toList = aftL f (σ.queue.take (k + 1)) ks (σ.lasts.getD f [])) := ⟨by rw [HT.out, if_pos he, if_neg y1, if_pos y2, ← hr, hts]⟩
              have HBx := Hd.mk (Blk.new wr 80 [.int .i64 p.f, .int .i64 p.at_, .string ps])
              clear he y1 hr hxl hpsz hts htl
              rcases hmn with ⟨q1, q2, rfl⟩ | ⟨q1, q2, q3, rfl⟩
              all_goals
                go_wp2_with fail
                refine wp_region_lin default (fun w' => w'.cell? ⟨wr.heap.size, 1, none⟩ = some (.int .i64 p.at_) ∧ w'.cell? ⟨wr.heap.size, 2, none⟩ = some (.string ps)) [(0, true), (1, true), (2, true), (3, true), (4, true), (5, true), (6, true), (7, true), (8, true), (9, true), (10, false), (11, true)] (by kernel_rfl) (by kernel_rfl) rfl (by kernel_rfl) (by kernel_rfl) ⟨HBx.out.drew.at (j := 1) rfl, HBx.out.drew.at (j := 2) rfl⟩ ?_
                simp only [pick, List.getD_cons_zero, List.getD_cons_succ]
                repeat
                  refine lin_free (v := ?_) (by rfl) ?_ ?_
                  rotate_left
                  · intro w' hSw
                    obtain ⟨d1, d2⟩ := hSw
                    go_simp
                    first | done | with_reducible rfl
                  simp only [Act.put, List.setIfInBounds_toArray, List.set_cons_zero, List.set_cons_succ]
                refine lin_bound (fun K hK => ?_)
                go_simp
                refine (HPut _).out.mono ?_
                rintro e w5 ⟨rfl, k5⟩
                dsimp only
                have k5' := ((Keeps.refl (fun _ => False) (wr.alloc (.cells #[.int .i64 p.f, .int .i64 p.at_, .string ps] 80))).drew).trans k5
                have HBx5 := Hd.mk (k5'.blk HBx.out (fun h => h))
                have HK5 := Hd.mk (HKb.out.trans k5')
                refine hK.out _ _ ⟨HBx5.out.at (j := 1) rfl, HBx5.out.at (j := 2) rfl⟩ ?_
                clear hK K k5 k5' HBx5
                refine lin_free (v := ?_) (by rfl) ?_ ?_
                rotate_left
                · intro w' hSw
                  go_simp
                  first | done | with_reducible rfl
                simp only [Act.put, List.setIfInBounds_toArray, List.set_cons_zero, List.set_cons_succ]
                refine NoPanic.normal ?_
                go_wp2
                go_roundw
                case rel => exact ⟨k + 1, r, hlt, hlm, by go_num, rfl, HX2, HK5⟩
                case measure => simp [intOf]; omega
            · have t2 : (y == 2) = false := by simp [y2]
              have HX2 : Hd (x.data.toList = aftL f (σ.queue.take (k + 1)) ks (σ.lasts.getD f [])) := ⟨by rw [HT.out, if_pos he, if_neg y1, if_neg y2]⟩
              clear he y1 y2
              go_wp2
              go_roundw
              case rel => exact ⟨k + 1, x, hlt, hlm, by go_num, rfl, HX2, HKb⟩
              case measure => simp [intOf]; omega
        · have e1 : ((p.f : Int) != (f : Int)) = true := by simp; omega
          have HX2 : Hd (x.data.toList = aftL f (σ.queue.take (k + 1)) ks (σ.lasts.getD f [])) := ⟨by rw [HT.out, if_neg he]⟩
          clear he
          go_wp2
          go_roundw
          case rel => exact ⟨k + 1, x, hlt, hlm, by go_num, rfl, HX2, HKb⟩
          case measure => simp [intOf]; omega
      · have hd2 : decide ((k : Int) < (M : Int)) = false := by simp; omega
        have HR2 := Hd.mk (HRet.out (.inr (by omega)))
        clear hk
        go_wp2
        go_ret
        exact ⟨by rw [HR2.out]; rfl, HK.out⟩
    · have hd1 : decide ((k : Int) < (N : Int)) = false := by simp; omega
      have HR2 := Hd.mk (HRet.out (.inl (by omega)))
      clear hk
      go_wp2
      go_ret
      exact ⟨by rw [HR2.out]; rfl, HK.out⟩

end Go.Proofs.Ytcleocgaooblfaa.W
