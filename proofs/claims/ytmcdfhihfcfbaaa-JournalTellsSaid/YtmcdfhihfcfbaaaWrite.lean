/-
  The walks of write and Write.
-/
import Derived.Test.YtmcdfhihfcfbaaaFlush
import Derived.Test.YtmcdfhihfcfbaaaOrd2
namespace Go.Proofs.Ytmcdfhihfcfbaaa.W
open Go.RowKit
set_option linter.unusedVariables false

/-- one piece appended to the queue -/
theorem run_q (W : World) (v : Value) (q : List Pn) (O : Option Nat) (p : Pn) (H : Nat) (hq : QRow W v q O) (hlen : q.length ≤ 1000000000) (hH : ∀ j u, (pCells p)[j]? = some u → W.cell? ⟨H, j, none⟩ = some u) :
    ∃ v' w' O', (Builtin.append_ #[68, 68] 68 #[v, .slice (some ⟨H, 0, none⟩) 1 1]).run Try.prog W = .ok v' w' ∧ QRow w' v' (q ++ [p]) O' ∧ (∀ g, O' = some g → O = some g ∨ W.heap.size ≤ g) ∧ Keeps (fun g => O = some g) W w' := by
  obtain ⟨i0, hi, hz0, hz1, hz2⟩ := info_parts infoPend
  have hcs : qCells (q ++ [p]) = qCells q ++ pCells p := by rw [qCells_append]; simp [qCells]
  have h1 : ∀ u ∈ pCells p, u.oneCell' = true := fun u hu => by
    simp only [pCells, List.mem_cons, List.not_mem_nil, or_false] at hu
    rcases hu with rfl | rfl | rfl <;> rfl
  have go : W.ownsRow 0 91 3 v q.length (qCells q) → v.ownBlock = O → ∃ v' w' O', (Builtin.append_ #[68, 68] 68 #[v, .slice (some ⟨H, 0, none⟩) 1 1]).run Try.prog W = .ok v' w' ∧ QRow w' v' (q ++ [p]) O' ∧ (∀ g, O' = some g → O = some g ∨ W.heap.size ≤ g) ∧ Keeps (fun g => O = some g) W w' := by
    intro hrow hO
    obtain ⟨v', w', hr, h2, h3, h5⟩ := run_row (P := Try.prog) W 68 68 91 Try.underlying68 hi hz0 hz1 hz2 rfl (by decide) v q.length (qCells q) hrow ⟨H, 0, none⟩ 1 1 (pCells p) rfl (fun j u hj => by rw [add0]; exact hH j u hj) h1 (by unfold maxLen; omega) (by omega)
    refine ⟨v', w', v'.ownBlock, hr, QRow.of_row (by rw [List.length_append, hcs]; exact h2), fun g hg => ?_, hO ▸ h3⟩
    rcases h5 with h5 | h5
    · rw [hg, hO] at h5; exact .inl h5.symm
    · rw [hg] at h5; exact .inr (by rw [Option.some.inj h5]; exact Nat.le_refl _)
  rcases hq.is with ⟨rfl, rfl, a, rfl⟩ | ⟨g, rfl, hv, hrow⟩
  · rcases a with _ | a
    · exact go ⟨by simp [qCells], .inl ⟨rfl, rfl⟩⟩ rfl
    · have hr := run_append_grow (P := Try.prog) W 68 68 91 i0 _ Try.underlying68 hi hz0 a 0 0 [] (by simp) (fun j u hj => by simp at hj) ⟨H, 0, none⟩ 1 1 (pCells p) (by rw [hz1]; rfl) (fun j u hj => by rw [add0]; exact hH j u hj) (by omega) (by omega) (growslice_fits (by omega) (by rw [hz2]; omega))
      refine ⟨_, _, some W.heap.size, hr, ⟨.inr ⟨W.heap.size, rfl, rfl, by simp [qCells, pCells], .inr ⟨W.heap.size, _, _, rfl, Nat.zero_le _, heap_alloc_new W.drew _, grownCap_ge W _ 0 91, grownCap_le_maxLen W _ 0 91 (by unfold maxLen; omega), ?_, ?_⟩⟩⟩, fun g hg => .inr (by rw [← Option.some.inj hg]; exact Nat.le_refl _), (((Keeps.refl _ W).drew).alloc _)⟩
      · have hge := grownCap_ge W (0 + 1) 0 91
        simp only [Array.size_append, List.size_toArray, size_zeroCells]
        show 0 + 3 + (grownCap W (0 + 1) 0 91 - (0 + 1)) * 3 = grownCap W (0 + 1) 0 91 * 3
        omega
      · simp [qCells, pCells]
  · exact go hrow hv

theorem empty_size {s : ByteArray} (h : s.data.toList = []) : s = ⟨#[]⟩ := by
  cases s with
  | mk d => cases d with
    | mk l => simp at h; subst h; rfl

theorem nonempty_list {s : ByteArray} (h : ¬ s.data.toList = []) : s.toList.isEmpty = false := by
  rw [_root_.Go.ByteArray.toList_eq]
  rcases hs : s.data.toList with _ | _
  · exact absurd hs h
  · rfl

theorem cut32 (k : Nat) (s : ByteArray) (h : 0 < s.size) : ∃ (r cn nn : Nat) (t u : ByteArray), (k : Int) % 32 = (r : Int) ∧ (32 : Int) - (r : Int) = (cn : Int) ∧
    (((cn : Int) < (s.size : Int) ∧ (cn : Int) ≤ (s.size : Int) ∧ nn = cn) ∨ (((cn : Int) < (s.size : Int)) = False ∧ (s.size : Int) ≤ (cn : Int) ∧ nn = s.size)) ∧ s.extract 0 nn = t ∧ s.extract nn s.size = u ∧
    t.data.toList = s.data.toList.take nn ∧ u.data.toList = s.data.toList.drop nn ∧ u.size = s.size - nn ∧ (0 < nn ∧ nn ≤ s.size) ∧ min s.data.toList.length (32 - k % 32) = nn ∧ nn ≤ 32 := by
  have hl : s.data.toList.length = s.size := rfl
  have hr := Nat.mod_lt k (show 0 < 32 by decide)
  refine ⟨k % 32, 32 - k % 32, min s.size (32 - k % 32), _, _, by omega, by omega, ?_, rfl, rfl, ?_, ?_, ?_, by omega, by rw [hl], by omega⟩
  · by_cases hc : 32 - k % 32 < s.size
    · exact .inl ⟨by omega, by omega, by omega⟩
    · exact .inr ⟨eq_false (by omega), by omega, by omega⟩
  · rw [Lib.extract_data]; rfl
  · rw [Lib.extract_data, List.take_of_length_le (by rw [List.length_drop, hl]; omega)]
  · rw [ByteArray.size_extract]; omega

def strLen : Value → Nat
  | .string s => s.size
  | _ => 0

/-- while the pieces are laid -/
def midW (σ : St) (n k : Nat) (s : List UInt8) (done : List Pn) : St := { σ with files := σ.files.set n (putL (σ.files.getD n []) k s), queue := σ.queue ++ done }

theorem midW_snoc (σ : St) (n k : Nat) (s : List UInt8) (done : List Pn) (p : Pn) : { midW σ n k s done with queue := (midW σ n k s done).queue ++ [p] } = midW σ n k s (done ++ [p]) := by
  simp [midW]

theorem ok_midW {σ : St} {n k : Nat} {s : List UInt8} (h : Ok (addS σ n k s)) {done rest : List Pn} (hp : pieces n k s = done ++ rest) : Ok (midW σ n k s done) :=
  ⟨h.l8, h.f8, h.ll, h.fl, fun p hq => h.q p (by
    rcases List.mem_append.1 hq with hq | hq
    · exact List.mem_append.2 (.inl hq)
    · exact List.mem_append.2 (.inr (by rw [hp]; exact List.mem_append.2 (.inl hq))))⟩

set_option maxHeartbeats 2000000 in
set_option maxRecDepth 100000 in
theorem write_any (w : World) (D : Nat) (σ : St) (O : Option Nat) (f k : Int) (s : ByteArray) (hF : σ.queue.length + s.size ≤ 1000000000) (hk1 : k ≤ 9223372036854775807) (hs64 : s.size ≤ 9223372036854775807) (h : Rep w D σ O) :
    Calls Try.prog 55 #[.pointer (some ⟨D, 0, none⟩), .int .i64 f, .int .i64 k, .string s] w fun e w' => ∃ O', e = .returned (.int .i64 (writeE σ f k s.data.toList)) ∧ Rep w' D (writeS σ f k s.data.toList) O' ∧ (∀ g, O' = some g → O = some g ∨ w.heap.size ≤ g) ∧ Keeps (fun g => g = D ∨ O = some g) w w' := by
  have HA := Hd.mk (may_any (w.alloc (.cells #[.int .i64 f] 3)) D σ O _ [f] (by simp) (IRow.one w f) (h.alloc _))
  rw [mayL_one] at HA
  have K0 : Hd (Keeps (fun _ => False) w (w.alloc (.cells #[.int .i64 f] 3))) := ⟨(Keeps.refl (fun _ => False) w).alloc _⟩
  have H := Hd.mk (h.alloc (.cells #[.int .i64 f] 3))
  have hsz : w.heap.size ≤ (w.alloc (.cells #[.int .i64 f] 3)).heap.size := K0.out.size
  obtain ⟨W, hW⟩ : ∃ W, w.alloc (.cells #[.int .i64 f] 3) = W := ⟨_, rfl⟩
  rw [hW] at HA K0 H hsz
  have HSZ := Hd.mk hsz
  clear h hsz
  have err : ∀ (c : Nat), writeE σ f k s.data.toList = c → c ≠ 0 → Hd (writeS σ f k s.data.toList = σ) := fun c hc h0 => ⟨by unfold writeS; rw [if_neg (fun h => h0 (hc ▸ h.1))]⟩
  by_cases hm : mayS σ f = 0
  · have HM := Hd.mk hm
    rw [hm] at HA
    by_cases hk0 : k < 0
    · have e1 : Hd (writeE σ f k s.data.toList = 1) := ⟨by unfold writeE; rw [hm]; simp [hk0]⟩
      have e2 := err 1 e1.out (by decide)
      clear hm err
      go_enter Try.func55, Try.ntmps55
      go_wp2_with fail
      refine HA.out.mono ?_
      rintro e w5 ⟨rfl, rfl⟩
      go_wp2
      go_ret
      refine ⟨O, ret_i (by rw [e1.out]; rfl), ?_, fun g hg => .inl hg, K0.out.mono (fun _ _ h => h.elim)⟩
      rw [e2.out]
      exact H.out
    · obtain ⟨at_, rfl⟩ : ∃ m : Nat, k = (m : Int) := ⟨k.toNat, by omega⟩
      by_cases hbig : at_ ≤ 16777216 ∧ at_ + s.size ≤ 16777216
      · obtain ⟨n, rfl, hn⟩ : ∃ n : Nat, f = (n : Int) ∧ n < 8 := by
          have hz := may_zero hm
          exact ⟨f.toNat, by omega, by omega⟩
        have e1 : Hd (writeE σ (n : Int) (at_ : Int) s.data.toList = 0) := ⟨by
          have : s.data.toList.length = s.size := rfl
          unfold writeE; rw [hm, this, if_neg (by decide), if_neg hk0, if_neg (by omega)]⟩
        have hb1 : ¬ (16777216 : Int) < (at_ : Int) := by omega
        have hb2 : ¬ (16777216 : Int) - (at_ : Int) < (s.size : Int) := by omega
        have hb3 : ¬ (at_ : Int) < 0 := by omega
        by_cases hs0 : s.data.toList = []
        · have hse := empty_size hs0
          subst hse
          have e2 : Hd (writeS σ (n : Int) (at_ : Int) (⟨#[]⟩ : ByteArray).data.toList = σ) := ⟨by unfold writeS; rw [if_neg (fun h => h.2 rfl)]⟩
          clear hm err hbig hk0
          go_enter Try.func55, Try.ntmps55
          go_wp2_with fail
          refine HA.out.mono ?_
          rintro e w5 ⟨rfl, rfl⟩
          go_wp2
          go_ret
          refine ⟨O, ret_i (by rw [e1.out]; rfl), ?_, fun g hg => .inl hg, K0.out.mono (fun _ _ h => h.elim)⟩
          rw [e2.out]
          exact H.out
        · have e2 : Hd (writeS σ (n : Int) (at_ : Int) s.data.toList = addS σ n at_ s.data.toList) := ⟨by unfold writeS; rw [if_pos ⟨e1.out, hs0⟩]; rfl⟩
          have hie : s.toList.isEmpty = false := nonempty_list hs0
          have hs1 : 0 < s.size := List.length_pos_iff.2 hs0
          obtain ⟨qv, kv, hbW, hQW, hKW⟩ := H.out.is
          have hcW := Cells.of hbW H.out.ok
          have cf := hcW.file n hn
          rw [strV_def] at cf
          obtain ⟨y, hy⟩ : ∃ y : ByteArray, (⟨(σ.files.getD n []).toArray⟩ : ByteArray) = y := ⟨_, rfl⟩
          rw [hy] at cf
          have hys : y.size ≤ 20000000 := by
            rw [← hy]; exact Nat.le_trans (getD_le H.out.ok.fl n) (by decide)
          have HPUT := Hd.mk (put_any y at_ s hys (by omega) hs1 W.drew)
          have HY := Hd.mk hy
          have hni : (n : Int) < 8 := by omega
          have HBW := Hd.mk hbW
          have HQW := Hd.mk hQW
          have HKW := Hd.mk hKW
          have KD : Hd (Keeps (fun _ => False) W W.drew) := ⟨(Keeps.refl (fun _ => False) W).drew⟩
          obtain ⟨z, hz⟩ : ∃ z : ByteArray, (⟨(putL y.data.toList at_ s.data.toList).toArray⟩ : ByteArray) = z := ⟨_, rfl⟩
          have hzv : Hd (Value.string z = strV (putL (σ.files.getD n []) at_ s.data.toList)) := ⟨by rw [← hz, ← hy]; rfl⟩
          rw [strV_def, hz] at HPUT
          have hokA := H.out.ok.add (f := n) (k := at_) (s := s.data.toList) hn (by have : s.data.toList.length = s.size := rfl; omega)
          have HOKA := Hd.mk hokA
          have hs0' := Hd.mk hs0
          have hbig' := Hd.mk hbig
          clear hm err hk0 hy hz hcW hbW hQW hKW hokA hs0 hbig hys
          go_enter Try.func55, Try.ntmps55
          go_wp2_with fail
          refine HA.out.mono ?_
          rintro e w5 ⟨rfl, rfl⟩
          go_wp2_with fail
          go_region_with (go_at_call 64; refine HPUT.out.mono ?_; rintro e w6 ⟨rfl, hk6⟩; have hb6 := Hd.mk ((KD.out.trans hk6).blk HBW.out (fun h => h)); have cf6 : w6.cell? ⟨D, 8 + n, none⟩ = some (.string y) := (by rw [← HY.out]; exact (Cells.of hb6.out H.out.ok).file n hn); have ff6 := hb6.out.free (8 + n))
          have KA : Keeps (· = D) w (w6.setCell ⟨D, 8 + n, none⟩ (.string z)) := (((K0.out.trans KD.out).trans hk6).mono (S' := (· = D)) (fun _ _ h => h.elim)).setCell (p := ⟨D, 8 + n, none⟩) (.inr rfl) _
          have K6 : Keeps (· = D) W (w6.setCell ⟨D, 8 + n, none⟩ (.string z)) := ((KD.out.trans hk6).mono (S' := (· = D)) (fun _ _ h => h.elim)).setCell (p := ⟨D, 8 + n, none⟩) (.inr rfl) _
          have hb7 : Blk (w6.setCell ⟨D, 8 + n, none⟩ (.string z)) D 70 (cellsD (midW σ n at_ s.data.toList []) qv kv) := (hb6.out.set (8 + n) (.string z)).cast (by rw [hzv.out, set_file H.out.ok qv kv hn]; simp [midW])
          have HR0 : Hd (Rep (w6.setCell ⟨D, 8 + n, none⟩ (.string z)) D (midW σ n at_ s.data.toList []) O) := ⟨⟨⟨qv, kv, hb7, by
            have := HQW.out.keeps K6 (fun g hg e => H.out.ne (hg.trans (congrArg some e)))
            simpa [midW] using this, HKW.out.keeps K6 (fun g cur fz hg e => H.out.notInt g cur fz hg (.inl e))⟩, ok_midW HOKA.out (done := []) (rest := pieces n at_ s.data.toList) rfl⟩⟩
          have HK0 := Hd.mk (KA.mono (S' := fun g => g = D ∨ O = some g) (fun _ _ e => Or.inl e))
          clear KA K6 hb7 cf6 ff6 hk6 hb6 cf
          go_wp2
          go_loopw [2, 3] (fun kx sx wr => ∃ (k' : Nat) (s' : ByteArray) (done : List Pn) (m : Nat) (O' : Option Nat), kx = .int .i64 k' ∧ sx = .string s' ∧ pieces n at_ s.data.toList = done ++ piecesF n m k' s'.data.toList ∧ s'.size ≤ m ∧ k' + s'.size = at_ + s.size ∧ done.length + s'.size ≤ s.size ∧ Rep wr D (midW σ n at_ s.data.toList done) O' ∧ (∀ g, O' = some g → O = some g ∨ w.heap.size ≤ g) ∧ Keeps (fun g => g = D ∨ O = some g) w wr) (fun _ sx _ => strLen sx)
          case atStart => exact ⟨at_, s, [], s.size, O, rfl, rfl, rfl, Nat.le_refl _, rfl, by simp, HR0.out, fun g hg => .inl hg, HK0.out⟩
          case round =>
            clear HR0 HK0
            obtain ⟨k', s', done, m, O', rfl, rfl, hpc, hsm, hks, hds, hR, hO', hK⟩ := hrel
            have HPC := Hd.mk hpc
            have HR := Hd.mk hR
            have HO' := Hd.mk hO'
            have HK := Hd.mk hK
            clear hpc hR hO' hK
            by_cases hse : s'.data.toList = []
            · have hs'e := empty_size hse
              subst hs'e
              have hdone : pieces n at_ s.data.toList = done := by rw [HPC.out]; cases m <;> simp [piecesF]
              have HR2 : Hd (Rep wr D (writeS σ (n : Int) (at_ : Int) s.data.toList) O') := ⟨by rw [e2.out, addS, hdone]; exact HR.out⟩
              go_wp2
              go_ret
              first
                | exact ⟨O', ret_i (by rw [e1.out]; rfl), HR2.out, HO'.out, HK.out⟩
                | exact ⟨ret_i (by rw [e1.out]; rfl), O', HR2.out, HO'.out, HK.out⟩
            · have hie' : s'.toList.isEmpty = false := nonempty_list hse
              have hs1' : 0 < s'.size := List.length_pos_iff.2 hse
              obtain ⟨r, cn, nn, t, u, r1, r2, hdis, ht, hu, htl, hul, hus, hnn, hnm, hn32⟩ := cut32 k' s' hs1'
              obtain ⟨m', rfl⟩ : ∃ m', m = m' + 1 := ⟨m - 1, by omega⟩
              obtain ⟨pn, hpn⟩ : ∃ pn : Pn, (⟨n, k', t.data.toList⟩ : Pn) = pn := ⟨_, rfl⟩
              have hpcn : pCells pn = [.int .i64 (n : Int), .int .i64 (k' : Int), .string t] := by rw [← hpn]; rfl
              have hstep : pieces n at_ s.data.toList = (done ++ [pn]) ++ piecesF n m' (k' + nn) u.data.toList := by
                rw [HPC.out, piecesF, if_neg hse, hnm, ← hpn, htl, hul]
                simp
              have HST := Hd.mk hstep
              obtain ⟨qv1, kv1, hb1', hq1, hk1'⟩ := HR.out.is
              obtain ⟨p1, c1, rfl⟩ := hq1.slice
              have hc1 := Cells.of hb1' HR.out.ok
              have cq1 := hc1.q
              have fq1 := hc1.free 16
              have KB : Keeps (fun _ => False) wr (wr.alloc (.cells #[.int .i64 (n : Int), .int .i64 (k' : Int), .string t] 91)).drew := ((Keeps.refl (fun _ => False) wr).alloc _).drew
              have cq1b := (Cells.of (KB.blk hb1' (fun h => h)) HR.out.ok).q
              have cq1c : (wr.alloc (.cells #[.int .i64 (n : Int), .int .i64 (k' : Int), .string t] 91)).cell? ⟨D, 16, none⟩ = some (.slice p1 (midW σ n at_ s.data.toList done).queue.length c1) := cq1b
              have hq2 := hq1.keeps KB (fun _ _ h => h)
              have hlq : (midW σ n at_ s.data.toList done).queue.length ≤ 1000000000 := by simp only [midW, List.length_append]; omega
              have hnew := (Blk.new wr 91 [.int .i64 (n : Int), .int .i64 (k' : Int), .string t]).drew
              obtain ⟨v', w9, O9, hrun, hq9, hO9, hk9⟩ := run_q _ _ _ O' pn wr.heap.size hq2 hlq (fun j x hj => hnew.at (by rw [← hpcn]; exact hj))
              obtain ⟨pv9, cv9, rfl⟩ := hq9.slice
              have hb9 := hk9.blk (KB.blk hb1' (fun h => h)) HR.out.ne
              have hc9 := Cells.of hb9 HR.out.ok
              have cq9 := hc9.q
              have fq9 := hc9.free 16
              have HRUN := Hd.mk hrun
              have hne9 : O9 ≠ some D := fun e => by
                rcases hO9 D e with h | h
                · exact HR.out.ne h
                · have := hb1'.lt
                  exact absurd (Nat.lt_of_lt_of_le this KB.size) (Nat.not_lt.2 h)
              have K9 : Keeps (· = D) w9 (w9.setCell ⟨D, 16, none⟩ (.slice pv9 ((midW σ n at_ s.data.toList done).queue ++ [pn]).length cv9)) := (Keeps.refl (· = D) w9).setCell (p := ⟨D, 16, none⟩) (.inr rfl) _
              have hki9 := (hk1'.keeps KB (fun _ _ _ _ h => h)).keeps hk9 (fun g cur fz hg e => (HR.out.next KB).notInt g cur fz hg (.inr e))
              have HR9 : Hd (Rep (w9.setCell ⟨D, 16, none⟩ (.slice pv9 ((midW σ n at_ s.data.toList done).queue ++ [pn]).length cv9)) D (midW σ n at_ s.data.toList (done ++ [pn])) O9) := ⟨⟨⟨_, kv1, (hb9.set 16 _).cast (by
                rw [set_queue HR.out.ok _ kv1 _ ((midW σ n at_ s.data.toList done).queue ++ [pn]), midW_snoc]), by
                have := hq9.keeps K9 (fun g hg e => hne9 (hg.trans (congrArg some e)))
                rw [← midW_snoc]; exact this, hki9.keeps K9 (fun g cur fz hg e => by
                  subst e
                  rw [hb9.is] at hg
                  injection hg with hg; injection hg with _ hg _; exact absurd hg (by decide))⟩, ok_midW HOKA.out HST.out⟩⟩
              have HO9 : Hd (∀ g, O9 = some g → O = some g ∨ w.heap.size ≤ g) := ⟨fun g hg => by
                rcases hO9 g hg with h | h
                · exact HO'.out g h
                · exact .inr (Nat.le_trans (Nat.le_trans HK.out.size KB.size) h)⟩
              have HK9 : Hd (Keeps (fun g => g = D ∨ O = some g) w (w9.setCell ⟨D, 16, none⟩ (.slice pv9 ((midW σ n at_ s.data.toList done).queue ++ [pn]).length cv9))) := ⟨by
                have hkk : Keeps (fun g => (g = D ∨ O = some g) ∨ w.heap.size ≤ g) w _ := (HK.out.mono (fun _ _ e => .inl e)).trans ((KB.mono (fun _ _ h => h.elim)).trans ((hk9.mono (S' := fun g => (g = D ∨ O = some g) ∨ w.heap.size ≤ g) (fun g _ e => by
                  rcases HO'.out g e with h | h
                  · exact .inl (.inr h)
                  · exact .inr h)).trans (K9.mono (fun _ _ e => .inl (.inl e)))))
                exact hkk.mono (fun g hg h => h.elim (fun h => h) (fun h => absurd hg (Nat.not_lt.2 h)))⟩
              obtain ⟨ql, hql⟩ : ∃ ql, ((midW σ n at_ s.data.toList done).queue ++ [pn]).length = ql := ⟨_, rfl⟩
              rw [hql] at HR9 HK9 HRUN
              obtain ⟨ql0, hql0⟩ : ∃ ql, (midW σ n at_ s.data.toList done).queue.length = ql := ⟨_, rfl⟩
              rw [hql0] at cq1 cq1b cq1c cq9 HRUN
              have hks2 := Hd.mk (show (k' + nn) + u.size = at_ + s.size by omega)
              have hds2 := Hd.mk (show (done ++ [pn]).length + u.size ≤ s.size by simp only [List.length_append, List.length_cons, List.length_nil]; omega)
              have hum := Hd.mk (show u.size ≤ m' by omega)
              have hul' := Hd.mk (show u.size < s'.size by omega)
              have hkn : (k' : Int) + (nn : Int) = ((k' + nn : Nat) : Int) := by omega
              have HKN := Hd.mk hkn
              have HUE : Hd (nn = s'.size → ByteArray.empty = u) := ⟨fun h => (empty_size (by rw [hul, h]; exact List.drop_of_length_le (Nat.le_refl _))).symm⟩
              clear hpn hpcn hstep hb1' hq1 hk1' hc1 KB hq2 hlq hnew hrun hq9 hO9 hk9 hb9 hc9 hne9 K9 hki9 hkn htl hul hus hnm hse hql hql0
              rcases hdis with ⟨d1, d2, d3⟩ | ⟨d1, d2, d3⟩
              all_goals
                subst d3
                go_wp2_with fail
                refine wp_region_lin2 default (fun _ => True) [(0, 0), (1, 0), (2, 0), (3, 0), (5, 0), (6, 0), (7, 0), (8, 0), (9, 0), (10, 0), (4, 2), (11, 3), (12, 1), (13, 0), (14, 0), (15, 1)] (by kernel_rfl) (by kernel_rfl) rfl (by kernel_rfl) (by kernel_rfl) trivial ?_
                repeat
                  refine lin2_free (v := ?_) (by rfl) ?_ ?_
                  rotate_left
                  · intro w' hSw
                    simp only [List.getD_cons_zero, List.getD_cons_succ]
                    go_simp
                    first | done | with_reducible rfl
                  simp only [Act.put, List.getD_cons_zero, List.getD_cons_succ, List.setIfInBounds_toArray, List.set_cons_zero, List.set_cons_succ]
                refine lin2_pair (fun K1 hK1 => ?_) (fun K1 hK1 => ?_)
                all_goals simp only [List.getD_cons_zero, List.getD_cons_succ]
                all_goals go_simp
                all_goals refine hK1.out _ _ trivial (fun K hK => ?_)
                all_goals simp only [List.getD_cons_zero, List.getD_cons_succ]
                all_goals go_simp
                all_goals refine hK.out _ _ trivial ?_
                all_goals clear hK K hK1 K1
                all_goals refine lin2_one (fun K hK => ?_)
                all_goals refine step_append_run (by rfl) (Operand.tmp 60) (Operand.tmp 67) 68 (by rfl) (.slice p1 ql0 c1) (.slice (some ⟨wr.heap.size, 0, none⟩) 1 1) _ (by rfl) (by rfl) HRUN.out ?_
                all_goals refine hK.out _ _ trivial ?_
                all_goals clear hK K
                all_goals simp only [Act.put, List.getD_cons_zero, List.getD_cons_succ, List.setIfInBounds_toArray, List.set_cons_zero, List.set_cons_succ]
                all_goals
                  repeat
                    refine lin2_free (v := ?_) (by rfl) ?_ ?_
                    rotate_left
                    · intro w' hSw
                      simp only [List.getD_cons_zero, List.getD_cons_succ]
                      go_simp
                      first | done | with_reducible rfl
                    simp only [Act.put, List.getD_cons_zero, List.getD_cons_succ, List.setIfInBounds_toArray, List.set_cons_zero, List.set_cons_succ]
                  refine lin2_one (fun K hK => ?_)
                  simp only [List.getD_cons_zero, List.getD_cons_succ]
                  go_simp
                  refine hK.out _ _ trivial ?_
                  clear hK K
                  refine NoPanic.normal ?_
                  go_wp2_with fail
                  go_region
                  go_wp2
                  first | (have hu0 := HUE.out trivial; subst hu0) | (have hu0 := HUE.out rfl; subst hu0) | skip
                  exact ⟨⟨_, _, done ++ [pn], m', O9, HKN.out ▸ rfl, rfl, HST.out, hum.out, hks2.out, hds2.out, HR9.out.next ((Keeps.refl (fun _ => False) _).drew), HO9.out, HK9.out.drew⟩, hul'.out⟩
      · have e1 : Hd (writeE σ f (at_ : Int) s.data.toList = 7) := ⟨by
          have : s.data.toList.length = s.size := rfl
          unfold writeE; rw [hm, this, if_neg (by decide), if_neg hk0, if_pos (by omega)]⟩
        have e2 := err 7 e1.out (by decide)
        clear hm err
        by_cases hb : at_ ≤ 16777216
        · have hb1 : ¬ (16777216 : Int) < (at_ : Int) := by omega
          have hb2 : (16777216 : Int) - (at_ : Int) < (s.size : Int) := by omega
          clear hbig
          go_enter Try.func55, Try.ntmps55
          go_wp2_with fail
          refine HA.out.mono ?_
          rintro e w5 ⟨rfl, rfl⟩
          go_wp2
          go_ret
          refine ⟨O, ret_i (by rw [e1.out]; rfl), ?_, fun g hg => .inl hg, K0.out.mono (fun _ _ h => h.elim)⟩
          rw [e2.out]
          exact H.out
        · have hb1 : (16777216 : Int) < (at_ : Int) := by omega
          clear hbig
          go_enter Try.func55, Try.ntmps55
          go_wp2_with fail
          refine HA.out.mono ?_
          rintro e w5 ⟨rfl, rfl⟩
          go_wp2
          go_ret
          refine ⟨O, ret_i (by rw [e1.out]; rfl), ?_, fun g hg => .inl hg, K0.out.mono (fun _ _ h => h.elim)⟩
          rw [e2.out]
          exact H.out
  · have e1 : Hd (writeE σ f k s.data.toList = mayS σ f) := ⟨by unfold writeE; rw [if_pos hm]⟩
    have e2 := err _ e1.out hm
    obtain ⟨m, hmm⟩ : ∃ m, mayS σ f = m := ⟨_, rfl⟩
    rw [hmm] at hm HA e1
    have hne : ((m : Int) == 0) = false := by simp; omega
    clear hmm hm err
    go_enter Try.func55, Try.ntmps55
    go_wp2_with fail
    refine HA.out.mono ?_
    rintro e w5 ⟨rfl, rfl⟩
    go_wp2
    go_ret
    refine ⟨O, ret_i (by rw [e1.out]), ?_, fun g hg => .inl hg, K0.out.mono (fun _ _ h => h.elim)⟩
    rw [e2.out]
    exact H.out

end Go.Proofs.Ytmcdfhihfcfbaaa.W
