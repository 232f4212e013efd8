/-
  The walk of Crash.
-/
import Derived.Test.YtmcdfhihfcfbaaaSettle
import Derived.Test.YtmcdfhihfcfbaaaPut
import Derived.Test.YtmcdfhihfcfbaaaOrd
import Derived.Deep.Cut
namespace Go.Proofs.Ytmcdfhihfcfbaaa.W
open Go.RowKit
set_option linter.unusedVariables false

def stepS (ls : List (List UInt8)) (p : Pn) (k : Int) : List (List UInt8) :=
  if k = 1 then ls.set p.f (putL (ls.getD p.f []) p.at_ p.s) else if k = 2 then ls.set p.f (putL (ls.getD p.f []) p.at_ (p.s.take (min p.s.length 16))) else ls

theorem stays_in : ∀ (q : List Pn) (ks : List Int) (ls : List (List UInt8)) (j : Nat) (h : j < q.length) (hk : j < ks.length), stays ls (q.take (j + 1)) ks = stepS (stays ls (q.take j) ks) q[j] ks[j]
  | p :: q, k :: ks, ls, 0, _, _ => by simp [stays, stepS]
  | p :: q, k :: ks, ls, j + 1, h, hk => by
    have ih := stays_in q ks (stepS ls p k) j (by simpa using h) (by simpa using hk)
    exact ih
theorem stays_out : ∀ (q : List Pn) (ks : List Int) (ls : List (List UInt8)) (j : Nat), ks.length ≤ j → stays ls (q.take (j + 1)) ks = stays ls (q.take j) ks
  | [], ks, ls, j, _ => by simp
  | p :: q, [], ls, j, _ => by cases j <;> simp [stays]
  | p :: q, k :: ks, ls, 0, h => by simp at h
  | p :: q, k :: ks, ls, j + 1, h => stays_out q ks (stepS ls p k) j (by simpa using h)

/-- the disk while it crashes -/
def midS (σ : St) (ls : List (List UInt8)) : St := { σ with lasts := ls, down := true, armed := 0 }

theorem Ok.mid {σ : St} (h : Ok σ) (ks : List Int) (j : Nat) : Ok (midS σ (stays σ.lasts (σ.queue.take j) ks)) := by
  have := stays_ok (σ.queue.take j) ks σ.lasts h.l8 h.ll (fun p hp => ⟨(h.q p (List.mem_of_mem_take hp)).1, (h.q p (List.mem_of_mem_take hp)).2.1⟩)
  exact ⟨this.1, h.f8, this.2, h.fl, h.q⟩

theorem cut_facts (p : Pn) (x3 : ByteArray) (h : (⟨p.s.toArray⟩ : ByteArray) = x3) (h1 : p.at_ + p.s.length ≤ 16777216) (h2 : 0 < p.s.length) :
    ∃ (mn : Nat) (t3 : ByteArray), ((¬ (16 : Int) < (x3.size : Int) ∧ ¬ 16 < x3.size ∧ ((16 : Int) < (x3.size : Int)) = False ∧ mn = x3.size) ∨ ((16 : Int) < (x3.size : Int) ∧ 16 < x3.size ∧ (16 : Int) ≤ (x3.size : Int) ∧ mn = 16)) ∧ mn ≤ x3.size ∧ (mn : Int) ≤ (x3.size : Int) ∧ x3.extract 0 mn = t3 ∧ t3.data.toList = p.s.take (min p.s.length 16) ∧ (p.at_ + t3.size ≤ 20000000 ∧ 0 < t3.size) := by
  have hx : x3.size = p.s.length := by rw [← h]; rfl
  have hxl : x3.data.toList = p.s := by rw [← h]
  have hd : (x3.extract 0 (min p.s.length 16)).data.toList = p.s.take (min p.s.length 16) := by
    rw [Lib.extract_data, hxl]; rfl
  have hsz : (x3.extract 0 (min p.s.length 16)).size = min p.s.length 16 := by
    rw [ByteArray.size_extract]; omega
  have hdis : (¬ (16 : Int) < (x3.size : Int) ∧ ¬ 16 < x3.size ∧ ((16 : Int) < (x3.size : Int)) = False ∧ min p.s.length 16 = x3.size) ∨ ((16 : Int) < (x3.size : Int) ∧ 16 < x3.size ∧ (16 : Int) ≤ (x3.size : Int) ∧ min p.s.length 16 = 16) := by
    by_cases h : 16 < x3.size
    · exact .inr ⟨by omega, h, by omega, by omega⟩
    · exact .inl ⟨by omega, h, eq_false (by omega), by omega⟩
  refine ⟨min p.s.length 16, _, hdis, by omega, by omega, rfl, hd, ?_, ?_⟩
  · rw [hsz]; omega
  · rw [hsz]; omega

set_option maxHeartbeats 2000000 in
set_option maxRecDepth 100000 in
theorem crash_any (w : World) (D : Nat) (σ : St) (O : Option Nat) (v : Value) (ks : List Int) (hkl : ks.length ≤ 9223372036854775807) (hlen : σ.queue.length ≤ 1000000000) (hv : IR (· = D) w v ks) (h : Rep w D σ O) :
    Calls Try.prog 24 #[.pointer (some ⟨D, 0, none⟩), v] w fun e w' => e = .returned (.tuple #[]) ∧ ∃ O', Rep w' D (crashS σ ks) O' ∧ (O' = O ∨ O' = none) ∧ Keeps (· = D) w w' := by
  have hn := h.notInt
  have hne := h.ne
  obtain ⟨qv, kv, hb, hQ, hK⟩ := h.is
  have hC := Cells.of hb h.ok
  have cd := hC.down
  rcases hd : σ.down with _ | _
  · have hs : Hd (crashS σ ks = { σ with lasts := stays σ.lasts σ.queue ks, files := stays σ.lasts σ.queue ks, queue := [], down := true, armed := 0 }) := ⟨by simp [crashS, hd]⟩
    rw [hd] at cd
    have ca := hC.armed
    have f1 := hC.free 18
    have f2 := hC.free 19
    have cq := hC.q
    have hok := h.ok
    have hb1 : Blk ((w.setCell ⟨D, 18, none⟩ (.bool true)).setCell ⟨D, 19, none⟩ (.int .i64 ((0 : Nat) : Int))) D 70 (cellsD (midS σ (stays σ.lasts (σ.queue.take 0) ks)) qv kv) := ((hb.set 18 (.bool true)).set 19 (.int .i64 ((0 : Nat) : Int))).cast (by
      rw [set_down hok qv kv true, set_armed (σ := { σ with down := true }) ⟨hok.l8, hok.f8, hok.ll, hok.fl, hok.q⟩ qv kv 0]
      simp [midS, stays])
    have KW : Keeps (· = D) w ((w.setCell ⟨D, 18, none⟩ (.bool true)).setCell ⟨D, 19, none⟩ (.int .i64 ((0 : Nat) : Int))) := ((Keeps.refl (· = D) w).setCell (p := ⟨D, 18, none⟩) (.inr rfl) _).setCell (p := ⟨D, 19, none⟩) (.inr rfl) _
    obtain ⟨pq, cq0, rfl⟩ := hQ.slice
    obtain ⟨pv, cv, rfl⟩ := hv.slice
    have H := Hd.mk h
    have HQ := Hd.mk hQ
    have HK := Hd.mk hK
    have HV := Hd.mk hv
    have HB1 := Hd.mk hb1
    have HKW := Hd.mk KW
    have HNI := Hd.mk hn
    have HNE := Hd.mk hne
    clear h hb hQ hK hv hb1 KW hn hne hd hC hok
    go_enter Try.func24, Try.ntmps24
    obtain ⟨n, hnn⟩ : ∃ n, σ.queue.length = n := ⟨_, rfl⟩
    obtain ⟨m, hmm⟩ : ∃ m, ks.length = m := ⟨_, rfl⟩
    rw [hnn] at cq
    rw [hnn] at hlen
    rw [hmm] at hkl
    rw [hmm]
    go_wp2_with fail
    go_loopw [22] (fun i wr => ∃ k : Nat, k ≤ n ∧ i = .int .i64 k ∧ Blk wr D 70 (cellsD (midS σ (stays σ.lasts (σ.queue.take k) ks)) (.slice pq σ.queue.length cq0) kv) ∧ Keeps (· = D) w wr) (fun i _ => n - (intOf i).toNat)
    case atStart => exact ⟨0, Nat.zero_le _, rfl, HB1.out, HKW.out⟩
    case round =>
      clear HB1 HKW cd ca cq f1 f2
      obtain ⟨k, hk, rfl, hB, hKW⟩ := hrel
      have HB := Hd.mk hB
      have HKW := Hd.mk hKW
      clear hB hKW
      by_cases hlt : k < n
      · have hd1 : decide ((k : Int) < (n : Int)) = true := by simp; omega
        have hkq : k < σ.queue.length := hnn ▸ hlt
        obtain ⟨g, rfl, hO, hQC⟩ : ∃ g, pq = some ⟨g, 0, none⟩ ∧ O = some g ∧ QCells wr g σ.queue := by
          have hq := HQ.out.keeps HKW.out (fun g hg e => HNE.out (hg.trans (congrArg some e)))
          rcases hq.is with ⟨_, h0, _⟩ | ⟨g, hO, hv, hrow⟩
          · rw [h0] at hkq; simp at hkq
          · rcases hrow.2 with ⟨h1, _⟩ | ⟨b, cap, cur, h1, _⟩
            · rw [h1] at hv; cases hv
            · have hb2 : pq = some ⟨b, 0, none⟩ ∧ σ.queue.length = σ.queue.length ∧ cq0 = cap := by simpa using h1
              obtain ⟨rfl, _, rfl⟩ := hb2
              have hbg : b = g := by simpa [Value.ownBlock] using hv
              subst hbg
              exact ⟨b, rfl, hO, QCells.of hrow⟩
        have c1 := hQC.a k hkq
        have c2 := hQC.b k hkq
        have c3 := hQC.c k hkq
        obtain ⟨p, hp⟩ : ∃ p, σ.queue[k] = p := ⟨_, rfl⟩
        rw [hp] at c1 c2 c3
        have HP := Hd.mk hp
        have hpq := H.out.ok.q p (hp ▸ List.getElem_mem hkq)
        obtain ⟨x3, hx3⟩ : ∃ x : ByteArray, (⟨p.s.toArray⟩ : ByteArray) = x := ⟨_, rfl⟩
        rw [strV_def, hx3] at c3
        have HX3 := Hd.mk hx3
        have HPQ := Hd.mk hpq
        have HO := Hd.mk hO
        clear hp hQC hx3 hpq hO
        have hall := (Keeps.refl (fun _ => False) wr).alloc (.cells #[.int .i64 (p.f : Int), .int .i64 (p.at_ : Int), .string x3] 91)
        have HBA := Hd.mk (hall.blk HB.out (fun h => h))
        have HKA : Hd (Keeps (· = D) w (wr.alloc (.cells #[.int .i64 (p.f : Int), .int .i64 (p.at_ : Int), .string x3] 91))) := ⟨HKW.out.alloc _⟩
        clear hall
        by_cases hkm : k < m
        · have hd2 : decide ((m : Int) ≤ (k : Int)) = false := by simp; omega
          have hd2n : decide (m ≤ k) = false := by simp; omega
          have hkk : k < ks.length := hmm ▸ hkm
          obtain ⟨x, hx⟩ : ∃ x, ks[k] = x := ⟨_, rfl⟩
          obtain ⟨gk, ok, hpv, hck⟩ : ∃ gk ok, pv = some ⟨gk, ok, none⟩ ∧ (wr.alloc (.cells #[.int .i64 (p.f : Int), .int .i64 (p.at_ : Int), .string x3] 91)).cell? ⟨gk, ok + k, none⟩ = some (.int .i64 x) := by
            have hi := HV.out.keeps HKA.out
            rcases hi.is with ⟨h0, _⟩ | ⟨gk, ok, cap, h1, _, hc⟩
            · rw [h0] at hkk; simp at hkk
            · have h2 : pv = some ⟨gk, ok, none⟩ := by simp at h1; exact h1.1
              exact ⟨gk, ok, h2, hc k x (by rw [List.getElem?_eq_getElem hkk, hx])⟩
          subst hpv
          have HSX : Hd (stays σ.lasts (σ.queue.take (k + 1)) ks = stepS (stays σ.lasts (σ.queue.take k) ks) p x) := ⟨by rw [stays_in _ _ _ _ hkq hkk, HP.out, hx]⟩
          clear hx
          by_cases hx1 : x = 1
          · have he1 : (x == 1) = true := by simp [hx1]
            have HB1 := Hd.mk (Blk.new wr 91 [.int .i64 (p.f : Int), .int .i64 (p.at_ : Int), .string x3])
            obtain ⟨Lk, hLk⟩ : ∃ L, stays σ.lasts (σ.queue.take k) ks = L := ⟨_, rfl⟩
            have hokm : Ok (midS σ Lk) := hLk ▸ H.out.ok.mid ks k
            rw [hLk] at HSX HBA
            have HSY : Hd (stays σ.lasts (σ.queue.take (k + 1)) ks = Lk.set p.f (putL (Lk.getD p.f []) p.at_ p.s)) := ⟨by rw [HSX.out, stepS, if_pos hx1]⟩
            obtain ⟨Wa, hWa⟩ : ∃ W, wr.alloc (.cells #[.int .i64 (p.f : Int), .int .i64 (p.at_ : Int), .string x3] 91) = W := ⟨_, rfl⟩
            have hHD : Hd (¬ D = wr.heap.size) := ⟨fun e => Nat.lt_irrefl _ (e ▸ HB.out.lt)⟩
            obtain ⟨Hx, hHx⟩ : ∃ Hx, wr.heap.size = Hx := ⟨_, rfl⟩
            rw [hHx] at HB1 hHD
            have HCA := Cells.of HBA.out hokm
            have cl := HCA.last p.f HPQ.out.1
            have fl := HCA.free p.f
            rw [strV_def] at cl
            obtain ⟨y, hy⟩ : ∃ y : ByteArray, (⟨(Lk.getD p.f []).toArray⟩ : ByteArray) = y := ⟨_, rfl⟩
            have cl' : (wr.alloc (.cells #[.int .i64 (p.f : Int), .int .i64 (p.at_ : Int), .string x3] 91)).cell? ⟨D, p.f, none⟩ = some (.string y) := by rw [← hy]; exact cl
            have hys : y.size ≤ 20000000 := by
              rw [← hy]
              have := getD_le hokm.ll p.f
              exact Nat.le_trans this (by decide)
            have hxs : p.at_ + x3.size ≤ 20000000 ∧ 0 < x3.size := by
              rw [← HX3.out]
              exact ⟨Nat.le_trans HPQ.out.2.1 (by decide), HPQ.out.2.2⟩
            have b1 := HB1.out.at (j := 0) rfl
            have b2 := HB1.out.at (j := 1) rfl
            have b3 := HB1.out.at (j := 2) rfl
            rw [hWa] at HBA HKA hck fl cl' b1 b2 b3 HB1
            have HOKM := Hd.mk hokm
            have HYY := Hd.mk hy
            have hpf8 : (p.f : Int) < 8 := by have := HPQ.out.1; omega
            clear HCA cl hLk hokm hy
            go_wp2_with fail
            refine wp_region_lin default (fun w' => w'.cell? ⟨Hx, 0, none⟩ = some (.int .i64 (p.f : Int)) ∧ w'.cell? ⟨Hx, 1, none⟩ = some (.int .i64 (p.at_ : Int)) ∧ w'.cell? ⟨Hx, 2, none⟩ = some (.string x3))
              [(0, true), (1, true), (2, true), (3, true), (4, true), (5, true), (6, true), (7, true), (8, true), (10, true), (11, true), (12, true), (13, true), (15, true), (16, true), (9, false), (14, false), (17, true), (18, false)] (by kernel_rfl) (by kernel_rfl) rfl (by kernel_rfl) (by kernel_rfl) ⟨b1, b2, b3⟩ ?_
            simp only [pick, List.getD_cons_zero, List.getD_cons_succ]
            repeat
              refine lin_free (v := ?_) (by rfl) ?_ ?_
              rotate_left
              · intro w' hSw
                obtain ⟨d0, d1, d2⟩ := hSw
                go_simp
                first | done | with_reducible rfl
              simp only [Act.put, List.setIfInBounds_toArray, List.set_cons_zero, List.set_cons_succ]
            refine lin_bound (fun K hK => ?_)
            go_simp
            refine hK.out _ _ ⟨b1, b2, b3⟩ ?_
            clear hK K
            refine lin_bound (fun K hK => ?_)
            go_simp
            refine (put_any y p.at_ x3 hys hxs.1 hxs.2 Wa.drew).mono ?_
            rintro e w5 ⟨rfl, hK5⟩
            dsimp only
            have KD : Keeps (fun _ => False) Wa Wa.drew := (Keeps.refl (fun _ => False) Wa).drew
            have HB5 := Hd.mk ((KD.trans hK5).blk HBA.out (fun h => h))
            have hb5 := (KD.trans hK5).blk HB1.out (fun h => h)
            have e1 := hb5.at (j := 0) rfl
            have e2 := hb5.at (j := 1) rfl
            have e3 := hb5.at (j := 2) rfl
            have HCA := Cells.of HB5.out HOKM.out
            have ecl : w5.cell? ⟨D, p.f, none⟩ = some (.string y) := by
              rw [← HYY.out]; exact HCA.last p.f HPQ.out.1
            have efl := HCA.free p.f
            have HKA5 := Hd.mk (HKA.out.trans ((KD.trans hK5).mono (S' := (· = D)) (fun _ _ h => h.elim)))
            rw [strV_def]
            obtain ⟨z, hz⟩ : ∃ z : ByteArray, (⟨(putL y.data.toList p.at_ x3.data.toList).toArray⟩ : ByteArray) = z := ⟨_, rfl⟩
            rw [hz]
            have HZ : Hd (Value.string z = strV (putL (Lk.getD p.f []) p.at_ p.s)) := ⟨by rw [← hz, ← HYY.out, ← HX3.out]; rfl⟩
            refine hK.out _ _ ⟨e1, e2, e3⟩ ?_
            clear hK K hK5 KD hb5 HCA hz
            repeat
              refine lin_free (v := ?_) (by rfl) ?_ ?_
              rotate_left
              · intro w' hSw
                obtain ⟨d0, d1, d2⟩ := hSw
                go_simp
                first | done | with_reducible rfl
              simp only [Act.put, List.setIfInBounds_toArray, List.set_cons_zero, List.set_cons_succ]
            refine lin_bound (fun K hK => ?_)
            go_simp
            have HB6 := Hd.mk ((HB5.out.set p.f (.string z)).cast (by rw [HZ.out, set_last HOKM.out _ _ HPQ.out.1]))
            have HK6 := Hd.mk (HKA5.out.setCell (p := ⟨D, p.f, none⟩) (.inr rfl) (.string z))
            refine hK.out _ _ ⟨by rw [World.cell?_setCell_far _ _ _ _ hHD.out]; exact e1, by rw [World.cell?_setCell_far _ _ _ _ hHD.out]; exact e2, by rw [World.cell?_setCell_far _ _ _ _ hHD.out]; exact e3⟩ ?_
            clear hK K
            refine NoPanic.normal ?_
            go_wp2
            exact ⟨⟨k + 1, hlt, by go_num, HB6.out.cast (by rw [HSY.out]; rfl), HK6.out⟩, by simp [intOf]; omega⟩
          · have he1 : (x == 1) = false := by simp [hx1]
            by_cases hx2 : x = 2
            · have he2 : (x == 2) = true := by simp [hx2]
              have HB1 := Hd.mk (Blk.new wr 91 [.int .i64 (p.f : Int), .int .i64 (p.at_ : Int), .string x3])
              obtain ⟨Lk, hLk⟩ : ∃ L, stays σ.lasts (σ.queue.take k) ks = L := ⟨_, rfl⟩
              have hokm : Ok (midS σ Lk) := hLk ▸ H.out.ok.mid ks k
              rw [hLk] at HSX HBA
              have HSY : Hd (stays σ.lasts (σ.queue.take (k + 1)) ks = Lk.set p.f (putL (Lk.getD p.f []) p.at_ (p.s.take (min p.s.length 16)))) := ⟨by rw [HSX.out, stepS, if_neg hx1, if_pos hx2]⟩
              obtain ⟨Wa, hWa⟩ : ∃ W, wr.alloc (.cells #[.int .i64 (p.f : Int), .int .i64 (p.at_ : Int), .string x3] 91) = W := ⟨_, rfl⟩
              have hHD : Hd (¬ D = wr.heap.size) := ⟨fun e => Nat.lt_irrefl _ (e ▸ HB.out.lt)⟩
              obtain ⟨Hx, hHx⟩ : ∃ Hx, wr.heap.size = Hx := ⟨_, rfl⟩
              rw [hHx] at HB1 hHD
              have HCA := Cells.of HBA.out hokm
              have cl := HCA.last p.f HPQ.out.1
              have fl := HCA.free p.f
              rw [strV_def] at cl
              obtain ⟨y, hy⟩ : ∃ y : ByteArray, (⟨(Lk.getD p.f []).toArray⟩ : ByteArray) = y := ⟨_, rfl⟩
              have cl' : (wr.alloc (.cells #[.int .i64 (p.f : Int), .int .i64 (p.at_ : Int), .string x3] 91)).cell? ⟨D, p.f, none⟩ = some (.string y) := by rw [← hy]; exact cl
              have hys : y.size ≤ 20000000 := by
                rw [← hy]
                have := getD_le hokm.ll p.f
                exact Nat.le_trans this (by decide)
              obtain ⟨mn, t3, hmn, hmn2, hmn3, ht3, hts, hxs⟩ := cut_facts p x3 HX3.out HPQ.out.2.1 HPQ.out.2.2
              rcases hmn with ⟨m1, m2, m3, m4⟩ | ⟨m1, m2, m3, m4⟩
              all_goals
                subst m4
                have b1 := HB1.out.at (j := 0) rfl
                have b2 := HB1.out.at (j := 1) rfl
                have b3 := HB1.out.at (j := 2) rfl
                rw [hWa] at HBA HKA hck fl cl' b1 b2 b3 HB1
                have HOKM := Hd.mk hokm
                have HYY := Hd.mk hy
                have hpf8 : (p.f : Int) < 8 := by have := HPQ.out.1; omega
                clear HCA cl hLk hokm hy
                go_wp2_with fail
                refine wp_region_lin default (fun w' => w'.cell? ⟨Hx, 0, none⟩ = some (.int .i64 (p.f : Int)) ∧ w'.cell? ⟨Hx, 1, none⟩ = some (.int .i64 (p.at_ : Int)) ∧ w'.cell? ⟨Hx, 2, none⟩ = some (.string x3))
                  [(0, true), (1, true), (2, true), (3, true), (4, true), (5, true), (6, true), (7, true), (8, true), (10, true), (11, true), (12, true), (13, true), (14, true), (18, true), (19, true), (15, true), (16, true), (9, false), (17, false), (20, true), (21, false)] (by kernel_rfl) (by kernel_rfl) rfl (by kernel_rfl) (by kernel_rfl) ⟨b1, b2, b3⟩ ?_
                simp only [pick, List.getD_cons_zero, List.getD_cons_succ]
                repeat
                  refine lin_free (v := ?_) (by rfl) ?_ ?_
                  rotate_left
                  · intro w' hSw
                    obtain ⟨d0, d1, d2⟩ := hSw
                    go_simp
                    first | done | with_reducible rfl
                  simp only [Act.put, List.setIfInBounds_toArray, List.set_cons_zero, List.set_cons_succ]
                refine lin_bound (fun K hK => ?_)
                go_simp
                refine hK.out _ _ ⟨b1, b2, b3⟩ ?_
                clear hK K
                refine lin_bound (fun K hK => ?_)
                go_simp
                refine (put_any y p.at_ t3 hys hxs.1 hxs.2 Wa.drew).mono ?_
                rintro e w5 ⟨rfl, hK5⟩
                dsimp only
                have KD : Keeps (fun _ => False) Wa Wa.drew := (Keeps.refl (fun _ => False) Wa).drew
                have HB5 := Hd.mk ((KD.trans hK5).blk HBA.out (fun h => h))
                have hb5 := (KD.trans hK5).blk HB1.out (fun h => h)
                have e1 := hb5.at (j := 0) rfl
                have e2 := hb5.at (j := 1) rfl
                have e3 := hb5.at (j := 2) rfl
                have HCA := Cells.of HB5.out HOKM.out
                have ecl : w5.cell? ⟨D, p.f, none⟩ = some (.string y) := by
                  rw [← HYY.out]; exact HCA.last p.f HPQ.out.1
                have efl := HCA.free p.f
                have HKA5 := Hd.mk (HKA.out.trans ((KD.trans hK5).mono (S' := (· = D)) (fun _ _ h => h.elim)))
                rw [strV_def]
                obtain ⟨z, hz⟩ : ∃ z : ByteArray, (⟨(putL y.data.toList p.at_ t3.data.toList).toArray⟩ : ByteArray) = z := ⟨_, rfl⟩
                rw [hz]
                have HZ : Hd (Value.string z = strV (putL (Lk.getD p.f []) p.at_ (p.s.take (min p.s.length 16)))) := ⟨by rw [← hz, ← HYY.out, hts]; rfl⟩
                refine hK.out _ _ ⟨e1, e2, e3⟩ ?_
                clear hK K hK5 KD hb5 HCA hz
                repeat
                  refine lin_free (v := ?_) (by rfl) ?_ ?_
                  rotate_left
                  · intro w' hSw
                    obtain ⟨d0, d1, d2⟩ := hSw
                    go_simp
                    first | done | with_reducible rfl
                  simp only [Act.put, List.setIfInBounds_toArray, List.set_cons_zero, List.set_cons_succ]
                refine lin_bound (fun K hK => ?_)
                go_simp
                have HB6 := Hd.mk ((HB5.out.set p.f (.string z)).cast (by rw [HZ.out, set_last HOKM.out _ _ HPQ.out.1]))
                have HK6 := Hd.mk (HKA5.out.setCell (p := ⟨D, p.f, none⟩) (.inr rfl) (.string z))
                refine hK.out _ _ ⟨by rw [World.cell?_setCell_far _ _ _ _ hHD.out]; exact e1, by rw [World.cell?_setCell_far _ _ _ _ hHD.out]; exact e2, by rw [World.cell?_setCell_far _ _ _ _ hHD.out]; exact e3⟩ ?_
                clear hK K m1 m2 m3 hmn2 hmn3 ht3 hts hxs
                refine NoPanic.normal ?_
                go_wp2
                exact ⟨⟨k + 1, hlt, by go_num, HB6.out.cast (by rw [HSY.out]; rfl), HK6.out⟩, by simp [intOf]; omega⟩
            · have he2 : (x == 2) = false := by simp [hx2]
              have HSN : Hd (stays σ.lasts (σ.queue.take (k + 1)) ks = stays σ.lasts (σ.queue.take k) ks) := ⟨by rw [HSX.out, stepS, if_neg hx1, if_neg hx2]⟩
              clear hx1 hx2
              go_wp2
              exact ⟨⟨k + 1, hlt, by go_num, HBA.out.cast (by rw [HSN.out]), HKA.out⟩, by simp [intOf]; omega⟩
        · have hd2 : decide ((m : Int) ≤ (k : Int)) = true := by simp; omega
          have hd2n : decide (m ≤ k) = true := by simp; omega
          have HSN : Hd (stays σ.lasts (σ.queue.take (k + 1)) ks = stays σ.lasts (σ.queue.take k) ks) := ⟨stays_out _ _ _ _ (by omega)⟩
          go_wp2
          exact ⟨⟨k + 1, hlt, by go_num, HBA.out.cast (by rw [HSN.out]), HKA.out⟩, by simp [intOf]; omega⟩
      · have hd1 : decide ((k : Int) < (n : Int)) = false := by simp; omega
        have hkn : k = n := by omega
        have htk : stays σ.lasts (σ.queue.take k) ks = stays σ.lasts σ.queue ks := by rw [List.take_of_length_le (by omega)]
        rw [htk] at HB
        have okm : Ok (midS σ (stays σ.lasts σ.queue ks)) := by
          have := H.out.ok.mid ks k
          rwa [htk] at this
        have okc := H.out.ok.crash ks
        rw [hs.out] at okc
        have HOK := Hd.mk okm
        have HOC := Hd.mk okc
        obtain ⟨L, hL⟩ : ∃ L, stays σ.lasts σ.queue ks = L := ⟨_, rfl⟩
        rw [hL] at HB HOK HOC hs
        clear hkn htk okm okc
        have hl8 : (L.map strV).length = 8 := by rw [List.length_map]; exact HOK.out.l8
        have hr : Hd (wr.rangeAt D 0 (L.map strV)) := ⟨fun j v hj => by
          rw [Nat.zero_add]
          refine HB.out.at ?_
          rw [cellsD, List.getElem?_append_left (by have := (List.getElem?_eq_some_iff.1 hj).1; rw [List.length_map] at this; simpa [midS] using this)]
          exact hj⟩
        have hth : Hd (wr.there D 8 (L.map strV).toArray.size) := ⟨fun j hj => by
          rw [List.size_toArray, hl8] at hj
          have hlen2 := cellsD_len HOK.out (.slice pq σ.queue.length cq0) kv
          exact ⟨by rw [HB.out.cell, List.getElem?_eq_getElem (by omega)]; rfl, HB.out.free _⟩⟩
        go_upto_region 12 with (fail)
        refine wp_region_lit ?_
        refine wpList_val rfl (v := .pointer (some ⟨D, 0, none⟩)) (w' := wr) (by kernel_rfl) ?_
        refine wpList_val rfl (v := .pointer (some ⟨D, 0, none⟩)) (w' := wr) (by kernel_rfl) ?_
        refine wpList_val rfl (v := .pointer (some ⟨D, 0, none⟩)) (w' := wr) (by kernel_rfl) ?_
        refine wpList_val rfl (v := .pointer (some ⟨D, 0, none⟩)) (w' := wr) (by kernel_rfl) ?_
        refine wpList_val rfl (v := .pointer (some ⟨D, 0, none⟩)) (w' := wr) (by kernel_rfl) ?_
        refine wpList_load_mid rfl 67 _ rfl D 0 (by kernel_rfl) (L.map strV) _ hr.out Try.underlying67 rfl (by rw [hl8]; kernel_rfl) ?_
        refine wpList_val rfl (v := .pointer (some ⟨D, 0, none⟩)) (w' := wr) (by kernel_rfl) ?_
        refine wpList_val rfl (v := .pointer (some ⟨D, 8, none⟩)) (w' := wr) (by kernel_rfl) ?_
        refine wpList_store_mid rfl 67 _ _ rfl D 8 (L.map strV).toArray (by kernel_rfl) (by kernel_rfl) hth.out (by rw [List.size_toArray, hl8]; kernel_rfl) (all_oneCell_toArray (fun v hv => by simp only [List.mem_map] at hv; obtain ⟨y, _, rfl⟩ := hv; rfl)) ?_
        have hlen2 := cellsD_len HOK.out (.slice pq σ.queue.length cq0) kv
        have okf : Ok { midS σ L with files := L } := ⟨HOK.out.l8, HOK.out.l8, HOK.out.ll, HOK.out.ll, HOK.out.q⟩
        have hb3 : Blk (wr.setCells D 8 (L.map strV)) D 70 (cellsD { midS σ L with files := L } (.slice pq σ.queue.length cq0) kv) := (Blk.setCells (L.map strV) 8 wr _ HB.out (by rw [hl8, hlen2]; decide)).cast (by
          have e0 : cellsD (midS σ L) (.slice pq σ.queue.length cq0) kv = L.map strV ++ (σ.files.map strV ++ [.slice pq σ.queue.length cq0, .int .i64 (σ.lost : Int), .bool true, .int .i64 ((0 : Nat) : Int), kv]) := rfl
          have f8 : (σ.files.map strV).length = 8 := by rw [List.length_map]; exact H.out.ok.f8
          rw [e0, hl8, List.take_left' hl8, show 8 + 8 = (L.map strV).length + (σ.files.map strV).length by rw [hl8, f8], ← List.drop_drop, List.drop_left, List.drop_left, List.append_assoc]
          rfl)
        have hk3 : Keeps (· = D) w (wr.setCells D 8 (L.map strV)) := HKW.out.trans (keeps_setCells' (L.map strV) 8 wr)
        obtain ⟨W1, hW1⟩ : ∃ W1, wr.setCells D 8 (L.map strV) = W1 := ⟨_, rfl⟩
        rw [show (L.map strV).toArray.toList = L.map strV from rfl, hW1]
        rw [hW1] at hb3 hk3
        have hC3 := Cells.of hb3 okf
        have c16 := hC3.q
        have f16 := hC3.free 16
        have hb4 := (hb3.set 16 (.slice none 0 0)).cast (set_queue okf (.slice pq σ.queue.length cq0) kv (.slice none 0 0) [])
        have hk4 := hk3.setCell (p := ⟨D, 16, none⟩) (.inr rfl) (.slice none 0 0)
        have HI4 := Hd.mk (HK.out.keeps hk4 (fun g cur fz hg e => HNI.out g cur fz hg (.inl e)))
        have HB4 := Hd.mk hb4
        have HK4 := Hd.mk hk4
        clear hb3 hk3 hC3 hb4 hk4 hlen2 okf hW1 hl8
        refine wpList_val rfl (v := .pointer (some ⟨D, 0, none⟩)) (w' := W1) (by kernel_rfl) ?_
        refine wpList_val rfl (v := .pointer (some ⟨D, 16, none⟩)) (w' := W1) (by kernel_rfl) ?_
        refine wpList_plain rfl (fun K hK => ?_)
        go_simp
        refine hK _ _ ?_
        go_wp2
        go_end0
        refine ⟨rfl, none, ?_, .inr rfl, HK4.out⟩
        rw [hs.out]
        exact ⟨⟨.slice none 0 0, kv, HB4.out, ⟨.inl ⟨rfl, rfl, none, rfl⟩⟩, HI4.out⟩, HOC.out⟩
  · have hs : Hd (crashS σ ks = σ) := ⟨by simp [crashS, hd]⟩
    rw [hd] at cd
    have H := Hd.mk h
    clear h hb hQ hK hv hn hne hd hC
    go_enter Try.func24, Try.ntmps24
    go_wp2
    first | go_end0 | refine bodyPost_ret (results_none rfl _ _ _) rfl ?_
    rw [hs.out]
    exact ⟨rfl, O, H.out, .inl rfl, Keeps.refl _ _⟩

end Go.Proofs.Ytmcdfhihfcfbaaa.W
