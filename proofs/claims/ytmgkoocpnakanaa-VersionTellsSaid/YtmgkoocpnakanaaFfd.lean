/-
  find.
-/
import Derived.Test.YtmgkoocpnakanaaFpl
import Derived.Laws.EntriesVeiled
import Derived.Deep.LoopGhost
import Derived.Deep.QuietTactic
import Derived.BigQuiet
namespace Go.Proofs.Ytmgkoocpnakanaa.W
open Go.RowKit
set_option linter.unusedVariables false

def FindL (p : Fp) (cb fb : Nat) (X : List Asr) (sv pv : Value) (pvs : List Value) (cv : Value) (pl : List (List Int)) (cnt : Nat) (idx low prt : Nat → Nat) (stk : List Nat) (calls : List (Nat × Nat)) : List Asr :=
  FinL p sv pv pvs pl cnt idx low prt stk ++ BoxL p cb fb (oP p.B 93 2 cv calls.length (callC calls) :: X)

structure FindI (n : Nat) (nx : Nat → List Nat) (s0 : Tj.Ts) (root : Nat) (s : Tj.Ts) : Prop where
  inv : Tj.Inv n nx s
  bd : Bd n s
  old : ∀ u, s0.idx u ≠ 0 → s.idx u ≠ 0
  root : s.idx root ≠ 0

theorem row_slice0 {w : World} {B : Nat} {e : TypeId} {m : Nat} {cv : Value} {n : Nat} {l : List Value} (h : w.ownsRow B e m cv n l) : ∃ a c, cv = .slice a n c := by
  rcases h.2 with ⟨h1, h0⟩ | ⟨g, cap, cur, e1, _⟩
  · subst h0; exact ⟨_, _, h1⟩
  · exact ⟨_, _, e1⟩
/-- what close leaves is the machine's state behind the return -/
theorem shut_state {p : Fp} {nx : Nat → List Nat} {s : Tj.Ts} {rest : List (Nat × Nat)} {sv pv : Value} {pvs : List Value} {low : Nat → Nat} {v : Nat} {X : List Asr} {w : World} (hi : Tj.Inv p.n nx s) (hv : v ∈ s.stk)
    (h : Sep w (FinL p sv pv pvs (partsI p.n s.np s.prt ++ [sortN (v :: (s.stk.takeWhile (· != v)).reverse)]) s.cnt s.idx low (fun u => if u ∈ v :: s.stk.takeWhile (· != v) then (partsI p.n s.np s.prt).length + 1 else s.prt u) ((s.stk.dropWhile (· != v)).tail) ++ X)) :
    Sep w (FinL p sv pv pvs (partsI p.n (Tj.close { s with calls := rest, low := low } v).np (Tj.close { s with calls := rest, low := low } v).prt) (Tj.close { s with calls := rest, low := low } v).cnt (Tj.close { s with calls := rest, low := low } v).idx (Tj.close { s with calls := rest, low := low } v).low (Tj.close { s with calls := rest, low := low } v).prt (Tj.close { s with calls := rest, low := low } v).stk ++ X) := by
  have h1 := parts_close (n := p.n) (nx := nx) (s := s) hi.np (nodup_dec hi.dec) (fun u hu => ⟨((hi.on u).1 hu).2, hi.lt u ((hi.on u).1 hu).1⟩) hv
  rw [← h1] at h
  have h2 : (fun u => if u ∈ v :: s.stk.takeWhile (· != v) then (partsI p.n s.np s.prt).length + 1 else s.prt u) = (Tj.close s v).prt := by
    funext u
    have : u ∈ v :: s.stk.takeWhile (· != v) ↔ u ∈ Tj.above s v := by simp [Tj.above, or_comm]
    simp only [Tj.close, this, partsI, List.length_map, List.length_range]
  rw [h2] at h
  exact h
theorem infoCall : (Try.prog.info? 93).map (fun i => (i.zero, i.size, i.bytes)) = some (some (.agg #[.int .i64 0, .int .i64 0]), 2, 16) := by kernel_rfl

theorem FindI.next {n : Nat} {nx : Nat → List Nat} {s0 : Tj.Ts} {root : Nat} {s : Tj.Ts} (h : FindI n nx s0 root s) (hnx : ∀ u x, x ∈ nx u → x < n) (hc : s.calls ≠ []) : FindI n nx s0 root (Tj.step nx s) := by
  refine ⟨Tj.step_inv hnx h.inv, ?_, fun u hu => Tj.step_found (h.old u hu), Tj.step_found h.root⟩
  rcases hs : s.calls with _ | ⟨⟨v, i⟩, rest⟩
  · exact absurd hs hc
  · rcases hi : (nx v)[i]? with _ | x
    · have hvs := (h.inv.con v i (by rw [hs]; exact List.mem_cons_self)).1
      by_cases hl : Tj.lowUp s v rest v = s.idx v
      · rw [Tj.step_shut hs hi hl]
        have hb : Bd n { s with calls := rest, low := Tj.lowUp s v rest } := ⟨h.bd.c, h.bd.p⟩
        exact hb.shut (h.inv.lt v ((h.inv.on v).1 hvs).1) ((h.inv.on v).1 hvs).2 (fun u hu => ((h.inv.on u).1 ((Tj.mem_above h.inv hvs).1 hu).1).2)
      · rw [Tj.step_leave hs hi hl]; exact ⟨h.bd.c, h.bd.p⟩
    · by_cases h0 : s.idx x = 0
      · rw [Tj.step_push hs hi h0]; exact h.bd.enter (hnx v x (List.mem_of_getElem? hi)) h0 _
      · by_cases hp : s.prt x = 0
        · rw [Tj.step_low hs hi h0 hp]; exact ⟨h.bd.c, h.bd.p⟩
        · rw [Tj.step_skip hs hi h0 hp]; exact ⟨h.bd.c, h.bd.p⟩

theorem FindI.stk {n : Nat} {nx : Nat → List Nat} {s0 : Tj.Ts} {root : Nat} {s : Tj.Ts} (h : FindI n nx s0 root s) : s.stk.length ≤ n :=
  Tj.nodup_le (nodup_dec h.inv.dec) (fun x hx => h.inv.lt x ((h.inv.on x).1 hx).1)
theorem FindI.call {n : Nat} {nx : Nat → List Nat} {s0 : Tj.Ts} {root : Nat} {s : Tj.Ts} (h : FindI n nx s0 root s) : s.calls.length ≤ n := by
  have h1 : (s.calls.map (·.1)).Pairwise (fun a b => s.idx b < s.idx a) := List.pairwise_map.2 h.inv.cdec
  have := Tj.nodup_le (n := n) (nodup_dec h1) (fun x hx => by
    obtain ⟨⟨a, b⟩, hc, rfl⟩ := List.mem_map.1 hx
    exact h.inv.lt _ ((h.inv.on _).1 (h.inv.con a b hc).1).1)
  simpa using this

set_option maxHeartbeats 4000000 in
set_option maxRecDepth 100000 in
theorem find_any (p : Fp) (nx : Nat → List Nat) (hnl : p.nl = (List.range p.n).map fun v => intL (nx v)) (hnx : ∀ u x, x ∈ nx u → x < p.n) (hnxl : ∀ u, (nx u).length ≤ 262144) (hn : p.n ≤ 262144) (sv pv : Value) (pvs : List Value) (s : Tj.Ts) (X : List Asr) (w : World) (root : Nat) (hroot : root < p.n) (h0 : s.idx root = 0) (hc0 : s.calls = []) (hinv : Tj.Inv p.n nx s) (hbd : Bd p.n s) (hB : p.B ≤ w.heap.size)
    (h : Sep w (FinT p sv pv pvs (partsI p.n s.np s.prt) s ++ X)) :
    Calls Try.prog 42 #[.pointer (some ⟨p.F, 0, none⟩), .int .i64 root, .pointer (some ⟨p.C, 0, none⟩)] w fun e w' => e = .returned (.tuple #[]) ∧ ∃ sv' pv' pvs' s', Sep w' (FinT p sv' pv' pvs' (partsI p.n s'.np s'.prt) s' ++ X) ∧ FindI p.n nx s root s' ∧ s'.calls = [] ∧ Below p.B w w' := by
  -- its variables
  have hb1 := h.new_blk hB 91 [ptr p.F]
  have hb2 := (Sep.insert (L1 := FinT p sv pv pvs (partsI p.n s.np s.prt) s) (L2 := X) hb1).new_blk (B := p.B) (by simp; omega) 66 [ptr p.C]
  have hb3 : Sep ((w.alloc (.cells #[ptr p.F] 91)).alloc (.cells #[ptr p.C] 66)) (FinT p sv pv pvs (partsI p.n s.np s.prt) s ++ BoxL p (w.alloc (.cells #[ptr p.F] 91)).heap.size w.heap.size X) := Sep.insert (L1 := FinT p sv pv pvs (partsI p.n s.np s.prt) s) hb2
  rw [show (w.alloc (.cells #[ptr p.F] 91)).heap.size = w.heap.size + 1 by simp] at hb3
  have hBel : Below p.B w ((w.alloc (.cells #[ptr p.F] 91)).alloc (.cells #[ptr p.C] 66)) := (((Keeps.refl (fun _ => False) w).alloc _).alloc _).below hB (fun _ _ h => h)
  have hI1 : FindI p.n nx s root (Tj.enter s root []) := ⟨Tj.enter_inv hinv hroot h0 (.inl ⟨rfl, hc0⟩), hbd.enter hroot h0 [], fun u hu => by
    show Tj.upd s.idx root (s.cnt + 1) u ≠ 0
    simp only [Tj.upd]; split <;> omega, by show Tj.upd s.idx root (s.cnt + 1) root ≠ 0; simp [Tj.upd]⟩
  have hst : s.stk.length ≤ p.n := Tj.nodup_le (nodup_dec hinv.dec) (fun x hx => hinv.lt x ((hinv.on x).1 hx).1)
  obtain ⟨gn, cn, hnv⟩ := (h.rows 2 rfl).own.slice (by rw [(h.rows 2 rfl).len]; show 0 < p.nl.length; rw [hnl]; simp; omega)
  have hnvl : p.nvs.length = p.n := by have := (h.rows 2 rfl).len; rw [this]; show p.nl.length = p.n; rw [hnl]; simp
  rw [hnvl] at hnv
  have HNv := Hd.mk hnv
  clear hnv hnvl
  have HE := Hd.mk (enter_any p sv pv pvs (partsI p.n s.np s.prt) s.cnt s.idx s.low s.prt s.stk (w.heap.size + 1) w.heap.size X _ root hroot hn (by omega) (by have := hbd.c; omega) (by simp; omega) hb3)
  have HI1 := Hd.mk hI1
  have HB := Hd.mk hBel
  have HP := Hd.mk (And.intro hnl (And.intro hnx hnxl))
  clear h hb1 hb2 hb3 hBel hI1 hinv hbd hst hnl hnx hnxl
  go_enter Try.func42, Try.ntmps42
  go_wp2_with fail
  refine HE.out.mono ?_
  rintro e w1 ⟨rfl, sv1, hS1, hB1⟩
  have hcl : callC [(root, 0)] = [.int .i64 (root : Int), .int .i64 0] := rfl
  have hrow : (w1.alloc (.cells #[.int .i64 (root : Int), .int .i64 0] 93)).ownsRow p.B 93 2 (.slice (some ⟨w1.heap.size, 0, none⟩) 1 1) 1 (callC [(root, 0)]) := World.ownsRow_lit w1 #[.int .i64 (root : Int), .int .i64 0] 1 (Nat.le_trans (by simp; omega) hB1.size) (by decide) rfl
  have hS2 := hS1.new_row ((Keeps.refl _ w1).alloc _) hrow (fun g hg => by
    have : w1.heap.size = g := by simpa [Value.ownBlock] using hg
    omega)
  have hS3 : Sep (w1.alloc (.cells #[.int .i64 (root : Int), .int .i64 0] 93)) (FindL p (w.heap.size + 1) w.heap.size X sv1 pv pvs (.slice (some ⟨w1.heap.size, 0, none⟩) 1 1) (partsI p.n s.np s.prt) (s.cnt + 1) (Tj.upd s.idx root (s.cnt + 1)) (Tj.upd s.low root (s.cnt + 1)) s.prt (root :: s.stk) [(root, 0)]) :=
    Sep.insert (L1 := FinL p sv1 pv pvs (partsI p.n s.np s.prt) (s.cnt + 1) (Tj.upd s.idx root (s.cnt + 1)) (Tj.upd s.low root (s.cnt + 1)) s.prt (root :: s.stk) ++ [oC p.B (w.heap.size + 1) 66 [ptr p.C], oC p.B w.heap.size 91 [ptr p.F]]) (L2 := X) hS2
  have HS3 := Hd.mk hS3
  have HB3 : Hd (Below p.B w (w1.alloc (.cells #[.int .i64 (root : Int), .int .i64 0] 93))) := ⟨(HB.out.trans hB1).trans (((Keeps.refl (fun _ => False) w1).alloc _).below (Nat.le_trans (by simp; omega) hB1.size) (fun _ _ h => h))⟩
  clear hcl hrow hS1 hS2 hS3 hB1 HE HB
  go_wp2_with fail
  generalize w1.alloc (.cells #[.int .i64 (root : Int), .int .i64 0] 93) = w2 at HS3 HB3 ⊢
  obtain ⟨fb, hfb⟩ : ∃ fb, w.heap.size = fb := ⟨_, rfl⟩
  rw [hfb] at HS3 ⊢
  obtain ⟨cb, hcb⟩ : ∃ cb, fb + 1 = cb := ⟨_, rfl⟩
  rw [hcb] at HS3 ⊢
  go_loopg [7] (Tj.meas p.n nx (Tj.enter s root [])) (fun k cv wr => ∃ s' sv' pv' pvs', Tj.meas p.n nx s' = k ∧ Hd (Sep wr (FindL p cb fb X sv' pv' pvs' cv (partsI p.n s'.np s'.prt) s'.cnt s'.idx s'.low s'.prt s'.stk s'.calls)) ∧ Hd (FindI p.n nx s root s') ∧ Hd (Below p.B w wr))
  case atStart => exact ⟨_, sv1, pv, pvs, rfl, HS3, HI1, HB3⟩
  case round =>
    clear HS3 HI1 HB3 hfb hcb w2
    obtain ⟨s', sv', pv', pvs', hms, HM, HI, HK⟩ := hrel
    have HMs := Hd.mk hms
    clear hms
    obtain ⟨calls, hcs⟩ : ∃ calls, s'.calls = calls := ⟨_, rfl⟩
    rw [hcs] at HM
    have HC := Hd.mk hcs
    clear hcs
    rcases calls with _ | ⟨⟨v, i⟩, rest⟩
    · obtain ⟨a, c, hcv⟩ := row_slice0 (HM.out.row 10 rfl)
      subst hcv
      go_wp2
      go_end0
      have h2 := Sep.erase (L1 := FinL p sv' pv' pvs' (partsI p.n s'.np s'.prt) s'.cnt s'.idx s'.low s'.prt s'.stk) (L2 := X) (Sep.erase (L1 := FinL p sv' pv' pvs' (partsI p.n s'.np s'.prt) s'.cnt s'.idx s'.low s'.prt s'.stk) (Sep.erase (L1 := FinL p sv' pv' pvs' (partsI p.n s'.np s'.prt) s'.cnt s'.idx s'.low s'.prt s'.stk) HM.out))
      exact ⟨rfl, sv', pv', pvs', s', h2, HI.out, HC.out, HK.out⟩
    · have hrow := HM.out.row 10 rfl
      obtain ⟨gc, cap, hcv, hcap⟩ := row_slice (n := rest.length) hrow
      subst hcv
      have hT := row_top hrow
      have hcl : rest.length + 1 ≤ p.n := by have := HI.out.call; rw [HC.out] at this; simpa using this
      obtain ⟨K, hK⟩ : ∃ K, rest.length = K := ⟨_, rfl⟩
      obtain ⟨hvs, hil⟩ := HI.out.inv.con v i (by rw [HC.out]; exact List.mem_cons_self)
      have hvn : v < p.n := HI.out.inv.lt v ((HI.out.inv.on v).1 hvs).1
      obtain ⟨u, hu, hcu, _, hOu, _⟩ := (show RowsO wr p.B (.slice (some ⟨gn, 0, none⟩) p.n cn) p.nvs p.nl from HNv.out ▸ HM.out.rows 2 rfl).at (j := v) (by rw [HP.out.1]; simpa using hvn)
      have hnv : p.nl[v]'(by rw [HP.out.1]; simpa using hvn) = intL (nx v) := by simp only [HP.out.1]; simp
      rw [hnv, ints_intL] at hOu
      obtain ⟨pvv, cvv, hsu⟩ := hOu.slice'
      rw [show (intC (nx v)).length = (nx v).length by simp [intC]] at hsu
      subst hsu
      obtain ⟨t0, t1, tf⟩ := hT
      rw [hK] at t0 t1 tf hcl
      have hF := Fin.cells (X := BoxL p cb fb _) HM.out
      have f0 := hF.f0
      rw [HNv.out] at f0
      have b1 := (Fin.boxes HM.out).2
      have hkk : IntKind.i64.wrap ((K : Int) + 1 - 1) = (K : Int) := by rw [IntWalk.i64_in _ (by omega)]; omega
      have HOu := Hd.mk hOu
      have HKs := Hd.mk (And.intro hK (And.intro hcap (And.intro hvs hil)))
      have HLn := HP.out.2.2 v
      obtain ⟨M, hMl⟩ : ∃ M, (nx v).length = M := ⟨_, rfl⟩
      rw [hMl] at HLn hcu
      have hkl : rest.length + 1 = K + 1 := by rw [hK]
      rw [hkl]
      have HMl := Hd.mk hMl
      clear hrow hcap hK hvs hil hu hnv hOu hF hkl hMl
      by_cases hi : i < M
      · have hd1 : decide ((i : Int) < (M : Int)) = true := by simp; omega
        obtain ⟨gv, hgv⟩ : ∃ gv, pvv = some ⟨gv, 0, none⟩ := by
          obtain ⟨g, c', e⟩ := HOu.out.slice (by have := HMl.out; simp [intC]; omega)
          injection e with e1 _ _
          exact ⟨g, e1⟩
        subst hgv
        obtain ⟨x, hx⟩ : ∃ x, (nx v)[i]? = some x := ⟨_, List.getElem?_eq_getElem (by have := HMl.out; omega)⟩
        have cx : wr.cell? ⟨gv, i, none⟩ = some (.int .i64 (x : Int)) := (HOu.out.at (by rw [intC, List.getElem?_map, hx]; rfl)).1
        have hii : IntKind.i64.wrap ((i : Int) + 1) = ((i + 1 : Nat) : Int) := by rw [IntWalk.i64_in _ (by omega)]; omega
        have HX := Hd.mk hx
        clear hx
        go_upto_region 5 with (fail)
        go_quiet (fail)
        revert nq; intro q1
        go_upto_region 6 with (fail)
        go_quiet (fail)
        revert nq; intro q2
        go_upto_region 8 with (fail)
        have hset : Sep ((wr.drewN (q1 + q2)).setCell ⟨gc, K * 2 + 1, none⟩ (.int .i64 ((i : Int) + 1))) (FindL p cb fb X sv' pv' pvs' (.slice (some ⟨gc, 0, none⟩) (K + 1) cap) (partsI p.n s'.np s'.prt) s'.cnt s'.idx s'.low s'.prt s'.stk ((v, i + 1) :: rest)) := by
          have hh := (HM.out.drewN (q1 + q2)).set_row 10 (g := gc) (c := cap) rfl (rest.length * 2 + 1) (.int .i64 ((i + 1 : Nat) : Int))
          rw [call_set] at hh
          rw [HKs.out.1] at hh
          unfold FindL
          rw [← HKs.out.1] at hh ⊢
          exact hh
        have hBel : Below p.B w ((wr.drewN (q1 + q2)).setCell ⟨gc, K * 2 + 1, none⟩ (.int .i64 ((i : Int) + 1))) := by
          refine HK.out.trans ((((Keeps.refl (fun g => p.B ≤ g) wr).drewN (q1 + q2)).setCell (p := ⟨gc, K * 2 + 1, none⟩) (.inr ?_) _).below (Nat.le_trans hB HK.out.size) (fun k h1 h2 => by omega))
          exact ((HM.out.row 10 (v := .slice (some ⟨gc, 0, none⟩) (rest.length + 1) cap) (by rw [HKs.out.1]; rfl)).lt gc rfl).1
        have HM3 := Hd.mk hset
        have HB3 := Hd.mk hBel
        clear hset hBel HM HK
        generalize (wr.drewN (q1 + q2)).setCell ⟨gc, K * 2 + 1, none⟩ (.int .i64 ((i : Int) + 1)) = w3 at HM3 HB3 ⊢
        clear t0 t1 tf f0 b1 cx hcu HOu hii
        have hmem : x ∈ nx v := List.mem_of_getElem? HX.out
        have hxn : x < p.n := HP.out.2.1 v x hmem
        have HI' := Hd.mk (HI.out.next HP.out.2.1 (by rw [HC.out]; simp))
        have HM' := Hd.mk (Tj.step_meas (n := p.n) (nx := nx) (s := s') HP.out.2.1 (by rw [HC.out]; simp))
        have HF3 := Fin.cells (X := BoxL p cb fb _) HM3.out
        obtain ⟨b0, b1⟩ := Fin.boxes HM3.out
        have f1 := HF3.f1
        have f4 := HF3.f4
        obtain ⟨y, hy⟩ : ∃ y, s'.idx x = y := ⟨_, rfl⟩
        have ci := (Fin.idxAt (X := BoxL p cb fb _) HM3.out hxn).1
        rw [hy] at ci
        clear HF3 hmem
        by_cases hy0 : y = 0
        · subst hy0
          have hst := Tj.step_push HC.out HX.out hy
          have HE := Hd.mk (enter_any p sv' pv' pvs' (partsI p.n s'.np s'.prt) s'.cnt s'.idx s'.low s'.prt s'.stk cb fb _ w3 x hxn hn (by have := HI.out.stk; omega) (by have := HI.out.bd.c; omega) (Nat.le_trans hB HB3.out.size) HM3.out)
          have HSt := Hd.mk hst
          have HY := Hd.mk hy
          clear hst hy
          have ci0 : w3.cell? ⟨p.gi, x, none⟩ = some (.int .i64 0) := ci
          clear ci
          go_wp2_with fail
          refine HE.out.mono ?_
          rintro e w4 ⟨rfl, sv4, hS4, hB4⟩
          obtain ⟨i0, hi0, hz0, hz1, hz2⟩ := info_parts infoCall
          obtain ⟨v', w5, hRun, hrow5, hk5, hb5⟩ := row_push (P := Try.prog) (t := 95) (ty := 95) (v := x) (r := (v, i + 1) :: rest) Try.underlying95 hi0 hz0 hz1 hz2 rfl (hS4.row 10 rfl) rfl (by have := HKs.out.1; simp; omega) (by decide) (Nat.le_trans hB (Nat.le_trans HB3.out.size hB4.size))
          have hB5 : Below p.B w w5 := (HB3.out.trans hB4).trans (hk5.below (Nat.le_trans hB (Nat.le_trans HB3.out.size hB4.size)) (fun k h1 h2 => by have := ((hS4.row 10 rfl).lt k h2).1; omega))
          have hS5 := hS4.put_row 10 rfl hk5 hrow5 (hb5.imp_right .inr)
          have HRun := Hd.mk hRun
          have HS5 : Hd (Sep w5 (FindL p cb fb X sv4 pv' pvs' v' (partsI p.n s'.np s'.prt) (s'.cnt + 1) (Tj.upd s'.idx x (s'.cnt + 1)) (Tj.upd s'.low x (s'.cnt + 1)) s'.prt (x :: s'.stk) ((x, 0) :: (v, i + 1) :: rest))) := ⟨hS5⟩
          have HB5 := Hd.mk hB5
          clear hi0 hz0 hz1 hz2 hRun hrow5 hk5 hb5 hB5 hS5 hS4 hB4 HE
          go_wp2_with ((at_builtin; refine wp_append_run (vs := .slice (some ⟨gc, 0, none⟩) (K + 1) cap) (vx := .slice (some ⟨w4.heap.size, 0, none⟩) 1 1) (W := w4.alloc (.cells #[.int .i64 (x : Int), .int .i64 0] 93)) rfl (Operand.tmp 72) (Operand.tmp 76) 95 rfl rfl rfl HRun.out ?_))
          go_wp2_with fail
          go_roundg (Tj.meas p.n nx (Tj.step nx s'))
          case measure => exact HMs.out ▸ HM'.out
          case rel =>
            rw [HSt.out] at HI' ⊢
            exact ⟨_, sv4, pv', pvs', rfl, HS5, HI', HB5⟩
        · have hy3 : ¬ (y : Int) = 0 := by omega
          have hy1 : ((y : Int) == 0) = false := by simp; omega
          have hyi : s'.idx x ≠ 0 := by rw [hy]; exact hy0
          obtain ⟨z, hz⟩ : ∃ z, s'.prt x = z := ⟨_, rfl⟩
          have cp := (Fin.prtAt (X := BoxL p cb fb _) HM3.out hxn).1
          rw [hz] at cp
          by_cases hz0 : z = 0
          · subst hz0
            have HSt := Hd.mk (Tj.step_low HC.out HX.out hyi hz)
            have cp0 : w3.cell? ⟨p.gp, x, none⟩ = some (.int .i64 0) := cp
            obtain ⟨a, ha⟩ : ∃ a, s'.low v = a := ⟨_, rfl⟩
            obtain ⟨m, hm⟩ : ∃ m, min a y = m := ⟨_, rfl⟩
            have hmi : min (a : Int) (y : Int) = (m : Int) := by omega
            have hvn2 := HKs.out.2.2.1
            have hvn : v < p.n := HI.out.inv.lt v ((HI.out.inv.on v).1 hvn2).1
            obtain ⟨l0, l1⟩ := Fin.lowAt (X := BoxL p cb fb _) HM3.out hvn
            rw [ha] at l0
            have hset := Fin.setL (X := BoxL p cb fb _) HM3.out hvn m
            have HMs2 : Hd (Tj.upd s'.low v (min (s'.low v) (s'.idx x)) = Tj.upd s'.low v m) := ⟨by rw [ha, hy, hm]⟩
            have HY := Hd.mk hy
            clear hy hz hyi cp hy0 ha hm hvn2
            have hS : ∀ {w' : World} {low : Nat → Nat}, Sep w' (FinL p sv' pv' pvs' (partsI p.n s'.np s'.prt) s'.cnt s'.idx low s'.prt s'.stk ++ BoxL p cb fb (oP p.B 93 2 (.slice (some ⟨gc, 0, none⟩) (K + 1) cap) ((v, i + 1) :: rest).length (callC ((v, i + 1) :: rest)) :: X)) →
                w'.cell? ⟨fb, 0, none⟩ = some (.pointer (some ⟨p.F, 0, none⟩)) ∧ w'.cell? ⟨p.F, 1, none⟩ = some (.slice (some ⟨p.gi, 0, none⟩) p.n p.n) ∧ w'.cell? ⟨p.F, 2, none⟩ = some (.slice (some ⟨p.gl, 0, none⟩) p.n p.n) ∧ w'.cell? ⟨gc, K * 2, none⟩ = some (.int .i64 (v : Int)) ∧ w'.cell? ⟨p.gi, x, none⟩ = some (.int .i64 (y : Int)) := fun h => by
              have hf := Fin.cells h
              have hr := h.row 10 rfl
              rw [← HKs.out.1] at hr
              have ht := row_top (r := rest) (v := v) (i := i + 1) hr
              have hx := (Fin.idxAt h hxn).1
              rw [HY.out] at hx
              exact ⟨(Fin.boxes h).2, hf.f1, hf.f2, HKs.out.1 ▸ ht.c0, hx⟩
            have S1 := Hd.mk (hS HM3.out)
            have S2 := Hd.mk (hS hset)
            have HSet := Hd.mk hset
            have HBe : Hd (Below p.B w (w3.setCell ⟨p.gl, v, none⟩ (.int .i64 (m : Int)))) := ⟨HB3.out.trans (((Keeps.refl (fun g => p.B ≤ g) w3).setCell (p := ⟨p.gl, v, none⟩) (.inr (Fin.bs (X := BoxL p cb fb _) HM3.out).2.2.2.1) _).below (Nat.le_trans hB HB3.out.size) (fun k h1 h2 => by omega))⟩
            clear hS hset
            go_upto_region 11 with (fail)
            clear b0 b1 f1 f4 ci cp0
            refine wp_region_lin3 default (fun w' => w'.cell? ⟨fb, 0, none⟩ = some (.pointer (some ⟨p.F, 0, none⟩)) ∧ w'.cell? ⟨p.F, 1, none⟩ = some (.slice (some ⟨p.gi, 0, none⟩) p.n p.n) ∧ w'.cell? ⟨p.F, 2, none⟩ = some (.slice (some ⟨p.gl, 0, none⟩) p.n p.n) ∧ w'.cell? ⟨gc, K * 2, none⟩ = some (.int .i64 (v : Int)) ∧ w'.cell? ⟨p.gi, x, none⟩ = some (.int .i64 (y : Int)))
              [.free 0, .free 1, .free 2, .free 3, .free 4, .free 5, .free 6, .free 7, .free 8, .free 9, .free 10, .free 11, .free 12, .free 13, .free 14, .free 15, .free 16, .free 18, .free 19, .free 20, .free 21, .free 22, .free 23, .free 24, .one 17, .free 25, .free 26, .one 27] (by kernel_rfl) (by kernel_rfl) rfl (by kernel_rfl) (by kernel_rfl) S1.out ?_
            repeat
              refine lin3_free (v := ?_) (by rfl) ?_ ?_
              rotate_left
              · intro w' hSw
                obtain ⟨d0, d1, d2, d3, d4⟩ := hSw
                simp only [List.getD_cons_zero, List.getD_cons_succ]
                go_simp
                first | done | with_reducible rfl
              simp only [Act.put, List.getD_cons_zero, List.getD_cons_succ, List.setIfInBounds_toArray, List.set_cons_zero, List.set_cons_succ]
            refine lin3_one (fun K hK => ?_)
            simp only [List.getD_cons_zero, List.getD_cons_succ]
            go_simp
            refine hK.out _ _ S1.out ?_
            clear hK K
            refine lin3_free (v := .int .i64 (m : Int)) (by rfl) ?_ ?_
            · intro w' hSw
              simp only [List.getD_cons_zero, List.getD_cons_succ]
              go_simp
            simp only [Act.put, List.getD_cons_zero, List.getD_cons_succ, List.setIfInBounds_toArray, List.set_cons_zero, List.set_cons_succ]
            refine lin3_free (v := ?_) (by rfl) ?_ ?_
            rotate_left
            · intro w' hSw
              obtain ⟨d0, d1, d2, d3, d4⟩ := hSw
              simp only [List.getD_cons_zero, List.getD_cons_succ]
              go_simp
              first | done | with_reducible rfl
            simp only [Act.put, List.getD_cons_zero, List.getD_cons_succ, List.setIfInBounds_toArray, List.set_cons_zero, List.set_cons_succ]
            refine lin3_one (fun K hK => ?_)
            simp only [List.getD_cons_zero, List.getD_cons_succ]
            go_simp
            refine hK.out _ _ S2.out ?_
            clear hK K
            refine NoPanic.normal ?_
            have HX2 : Hd (Sep (w3.setCell ⟨p.gl, v, none⟩ (.int .i64 (m : Int))).drew (FindL p cb fb X sv' pv' pvs' (.slice (some ⟨gc, 0, none⟩) (K + 1) cap) (partsI p.n s'.np s'.prt) s'.cnt s'.idx (Tj.upd s'.low v m) s'.prt s'.stk ((v, i + 1) :: rest))) := Hd.mk HSet.out.drew
            have HBy2 : Hd (Below p.B w (w3.setCell ⟨p.gl, v, none⟩ (.int .i64 (m : Int))).drew) := ⟨HBe.out.trans (((Keeps.refl (fun _ => False) _).drew).below (Nat.le_trans hB HBe.out.size) (fun _ _ h => h))⟩
            clear S1 S2 HSet HBe l0 l1 HM3 HB3 hmi
            generalize (w3.setCell ⟨p.gl, v, none⟩ (.int .i64 (m : Int))).drew = w6 at HX2 HBy2 ⊢
            go_wp2
            go_roundg (Tj.meas p.n nx (Tj.step nx s'))
            case measure => exact HMs.out ▸ HM'.out
            case rel =>
              rw [HSt.out] at HI' ⊢
              exact ⟨_, sv', pv', pvs', rfl, HMs2.out.symm ▸ HX2, HI', HBy2⟩
          · have HSt := Hd.mk (Tj.step_skip HC.out HX.out hyi (by rw [hz]; exact hz0))
            have hz3 : ¬ (z : Int) = 0 := by omega
            have hz1 : ((z : Int) == 0) = false := by simp; omega
            clear hy hz hyi
            go_wp2_with fail
            go_roundg (Tj.meas p.n nx (Tj.step nx s'))
            case measure => exact HMs.out ▸ HM'.out
            case rel =>
              rw [HSt.out] at HI' ⊢
              exact ⟨_, sv', pv', pvs', rfl, HM3, HI', HB3⟩
      · have hd1 : decide ((i : Int) < (M : Int)) = false := by simp; omega
        have HX : Hd ((nx v)[i]? = none) := ⟨List.getElem?_eq_none_iff.2 (by have := HMl.out; omega)⟩
        have hkc : K ≤ cap := by have := HKs.out.1; have := HKs.out.2.1; omega
        have hkk2 : IntKind.i64.wrap ((K : Int) - 1) = ((K - 1 : Nat) : Int) ∨ K = 0 := by
          rcases Nat.eq_zero_or_pos K with e | e
          · exact .inr e
          · exact .inl (by rw [IntWalk.i64_in _ (by omega)]; omega)
        go_upto_region 5 with (fail)
        go_quiet (fail)
        revert nq; intro q1
        go_upto_region 14 with (fail)
        have hM5 : Sep (wr.drewN q1) (FindL p cb fb X sv' pv' pvs' (.slice (some ⟨gc, 0, none⟩) K cap) (partsI p.n s'.np s'.prt) s'.cnt s'.idx s'.low s'.prt s'.stk rest) := by
          have h1 := HM.out.drewN q1
          have hr := h1.row 10 rfl
          have hp := row_pre (r := rest) (c := (v, i)) hr
          have := h1.put_row 10 rfl (Keeps.refl _ _) hp (.inl rfl)
          rw [HKs.out.1] at this
          unfold FindL
          rw [HKs.out.1]
          exact this
        have HM5 := Hd.mk hM5
        have HB5 : Hd (Below p.B w (wr.drewN q1)) := ⟨HK.out.trans (((Keeps.refl (fun _ => False) wr).drewN q1).below (Nat.le_trans hB HK.out.size) (fun _ _ h => h))⟩
        clear hM5 HM HK t0 t1 tf f0 b1 hcu HOu
        generalize wr.drewN q1 = w3 at HM5 HB5 ⊢
        rcases rest with _ | ⟨⟨up, j⟩, r⟩
        · have hK0 : K = 0 := HKs.out.1.symm
          subst hK0
          have HLow : Hd (Tj.lowUp s' v [] = s'.low) := ⟨rfl⟩
          have HF5 := Fin.cells (X := BoxL p cb fb _) HM5.out
          have b1 := (Fin.boxes HM5.out).2
          have f1 := HF5.f1
          have f2 := HF5.f2
          have ci := (Fin.idxAt (X := BoxL p cb fb _) HM5.out hvn).1
          have cl := (Fin.lowAt (X := BoxL p cb fb _) HM5.out hvn).1
          have HI' := Hd.mk (HI.out.next HP.out.2.1 (by rw [HC.out]; simp))
          have HM' := Hd.mk (Tj.step_meas (n := p.n) (nx := nx) (s := s') HP.out.2.1 (by rw [HC.out]; simp))
          obtain ⟨a, ha⟩ : ∃ a, s'.low v = a := ⟨_, rfl⟩
          obtain ⟨b, hb⟩ : ∃ b, s'.idx v = b := ⟨_, rfl⟩
          rw [ha] at cl
          rw [hb] at ci
          clear HF5
          by_cases hab : a = b
          · subst hab
            have HSt := Hd.mk (Tj.step_shut HC.out HX.out (by rw [HLow.out, ha, hb]))
            clear ha hb
            have hvs := HKs.out.2.2.1
            have hstk := split_at hvs
            have hmst : ∀ u, u ∈ v :: s'.stk.takeWhile (· != v) → u ∈ s'.stk := fun u hu => by
              rw [hstk]
              rcases List.mem_cons.1 hu with e | hu
              · subst e; simp
              · exact List.mem_append_left _ hu
            have hcl := close_any p sv' pv' pvs' (partsI p.n s'.np s'.prt) s'.cnt s'.idx (s'.low) s'.prt (s'.stk.takeWhile (· != v)) ((s'.stk.dropWhile (· != v)).tail) v (BoxL p cb fb (oP p.B 93 2 (.slice (some ⟨gc, 0, none⟩) 0 cap) ([] : List (Nat × Nat)).length (callC []) :: X)) 
            go_upto_region 17 with (fail)
            go_quiet (fail)
            revert nq; intro q2
            have HC5 := Hd.mk (hcl (w3.drewN q2) not_in_take (fun u hu => HI.out.inv.lt u ((HI.out.inv.on u).1 (hmst u hu)).1) hn (by
                have h1 := HI.out.stk
                have h2 := congrArg List.length hstk
                simp only [List.length_append, List.length_cons] at h2
                omega) (by have := HI.out.bd.p; simp only [partsI, List.length_map, List.length_range]; omega) (Nat.le_trans hB HB5.out.size) (by
                have := HM5.out.drewN q2
                unfold FindL at this
                rw [← hstk]
                exact this))
            clear hcl hmst hstk hvs
            go_wp2_with fail
            refine HC5.out.mono ?_
            rintro e w6 ⟨rfl, sv6, pv6, pvs6, hS6, hB6⟩
            have HS6 := Hd.mk (shut_state (s := s') (rest := []) HI.out.inv HKs.out.2.2.1 hS6)
            have HB6 : Hd (Below p.B w w6) := ⟨HB5.out.trans (((Keeps.refl (fun _ => False) w3).drewN q2).below (Nat.le_trans hB HB5.out.size) (fun _ _ h => h) |>.trans hB6)⟩
            clear hS6 hB6 HC5
            go_wp2
            go_roundg (Tj.meas p.n nx (Tj.step nx s'))
            case measure => exact HMs.out ▸ HM'.out
            case rel =>
              rw [HSt.out] at HI' ⊢
              rw [HLow.out] at HI' ⊢
              exact ⟨_, sv6, pv6, pvs6, rfl, HS6, HI', HB6⟩
          · have hab1 : ¬ (a : Int) = (b : Int) := by omega
            have hab2 : ((a : Int) == (b : Int)) = false := by simp; omega
            have HSt := Hd.mk (Tj.step_leave HC.out HX.out (by rw [HLow.out, ha, hb]; exact hab))
            clear ha hb
            go_upto_region 17 with (fail)
            go_quiet (fail)
            revert nq; intro q2
            have HM6 := Hd.mk (HM5.out.drewN q2)
            have HB6 : Hd (Below p.B w (w3.drewN q2)) := ⟨HB5.out.trans (((Keeps.refl (fun _ => False) w3).drewN q2).below (Nat.le_trans hB HB5.out.size) (fun _ _ h => h))⟩
            go_wp2
            go_roundg (Tj.meas p.n nx (Tj.step nx s'))
            case measure => exact HMs.out ▸ HM'.out
            case rel =>
              rw [HSt.out] at HI' ⊢
              rw [HLow.out] at HI' ⊢
              exact ⟨_, sv', pv', pvs', rfl, HM6, HI', HB6⟩
        · have hK0 : 0 < K := by have := HKs.out.1; simp at this; omega
          have hK1 : ¬ (K : Int) ≤ 0 := by omega
          have hK2 : decide ((0 : Int) < (K : Int)) = true := by simp; omega
          have hkk3 : IntKind.i64.wrap ((K : Int) - 1) = ((K - 1 : Nat) : Int) := hkk2.resolve_right (by omega)
          clear hkk2
          have hupc := HI.out.inv.con up j (by rw [HC.out]; simp)
          have hupn : up < p.n := HI.out.inv.lt up ((HI.out.inv.on up).1 hupc.1).1
          have hupv : up ≠ v := by
            have := Tj.top_gt HI.out.inv HC.out (u := up) (j := j) (by simp)
            intro e; subst e; omega
          have hr5 := HM5.out.row 10 rfl
          have hKr : K = r.length + 1 := by have := HKs.out.1; simp at this; omega
          have t5 : w3.cell? ⟨gc, (K - 1) * 2, none⟩ = some (.int .i64 (up : Int)) := by
            rw [hKr] at hr5 ⊢
            exact (row_top (r := r) (v := up) (i := j) hr5).c0
          obtain ⟨a, ha⟩ : ∃ a, s'.low up = a := ⟨_, rfl⟩
          obtain ⟨b, hb⟩ : ∃ b, s'.low v = b := ⟨_, rfl⟩
          obtain ⟨m, hm⟩ : ∃ m, min a b = m := ⟨_, rfl⟩
          have hmi : min (a : Int) (b : Int) = (m : Int) := by omega
          obtain ⟨l0, l1⟩ := Fin.lowAt (X := BoxL p cb fb _) HM5.out hupn
          rw [ha] at l0
          have hset := Fin.setL (X := BoxL p cb fb _) HM5.out hupn m
          have HLow : Hd (Tj.lowUp s' v ((up, j) :: r) = Tj.upd s'.low up m) := ⟨by simp only [Tj.lowUp, ha, hb, hm]⟩
          have hS : ∀ {w' : World} {low : Nat → Nat}, low v = b → Sep w' (FinL p sv' pv' pvs' (partsI p.n s'.np s'.prt) s'.cnt s'.idx low s'.prt s'.stk ++ BoxL p cb fb (oP p.B 93 2 (.slice (some ⟨gc, 0, none⟩) K cap) ((up, j) :: r).length (callC ((up, j) :: r)) :: X)) →
              w'.cell? ⟨fb, 0, none⟩ = some (.pointer (some ⟨p.F, 0, none⟩)) ∧ w'.cell? ⟨p.F, 2, none⟩ = some (.slice (some ⟨p.gl, 0, none⟩) p.n p.n) ∧ w'.cell? ⟨p.gl, v, none⟩ = some (.int .i64 (b : Int)) := fun e h => by
            have hf := Fin.cells h
            have hx := (Fin.lowAt h hvn).1
            rw [e] at hx
            exact ⟨(Fin.boxes h).2, hf.f2, hx⟩
          have S1 := Hd.mk (hS hb HM5.out)
          have S2 := Hd.mk (hS (by simp only [Tj.upd]; rw [if_neg (fun e => hupv e.symm)]; exact hb) hset)
          have HSet := Hd.mk hset
          have HBe : Hd (Below p.B w (w3.setCell ⟨p.gl, up, none⟩ (.int .i64 (m : Int)))) := ⟨HB5.out.trans (((Keeps.refl (fun g => p.B ≤ g) w3).setCell (p := ⟨p.gl, up, none⟩) (.inr (Fin.bs (X := BoxL p cb fb _) HM5.out).2.2.2.1) _).below (Nat.le_trans hB HB5.out.size) (fun k h1 h2 => by omega))⟩
          clear hS hset hr5 hupc hKr ha hb hm hupv
          go_upto_region 16 with (fail)
          clear t5
          refine wp_region_lin3 default (fun w' => w'.cell? ⟨fb, 0, none⟩ = some (.pointer (some ⟨p.F, 0, none⟩)) ∧ w'.cell? ⟨p.F, 2, none⟩ = some (.slice (some ⟨p.gl, 0, none⟩) p.n p.n) ∧ w'.cell? ⟨p.gl, v, none⟩ = some (.int .i64 (b : Int)))
            [.free 0, .free 1, .free 2, .free 3, .free 4, .free 5, .free 6, .free 7, .free 8, .free 9, .free 10, .free 12, .free 13, .free 14, .free 15, .free 16, .free 17, .free 18, .one 11, .free 19, .free 20, .one 21] (by kernel_rfl) (by kernel_rfl) rfl (by kernel_rfl) (by kernel_rfl) S1.out ?_
          repeat
            refine lin3_free (v := ?_) (by rfl) ?_ ?_
            rotate_left
            · intro w' hSw
              obtain ⟨d0, d1, d2⟩ := hSw
              simp only [List.getD_cons_zero, List.getD_cons_succ]
              go_simp
              first | done | with_reducible rfl
            simp only [Act.put, List.getD_cons_zero, List.getD_cons_succ, List.setIfInBounds_toArray, List.set_cons_zero, List.set_cons_succ]
          refine lin3_one (fun K hK => ?_)
          simp only [List.getD_cons_zero, List.getD_cons_succ]
          go_simp
          refine hK.out _ _ S1.out ?_
          clear hK K
          refine lin3_free (v := .int .i64 (m : Int)) (by rfl) ?_ ?_
          · intro w' hSw
            simp only [List.getD_cons_zero, List.getD_cons_succ]
            go_simp
          simp only [Act.put, List.getD_cons_zero, List.getD_cons_succ, List.setIfInBounds_toArray, List.set_cons_zero, List.set_cons_succ]
          refine lin3_free (v := ?_) (by rfl) ?_ ?_
          rotate_left
          · intro w' hSw
            obtain ⟨d0, d1, d2⟩ := hSw
            simp only [List.getD_cons_zero, List.getD_cons_succ]
            go_simp
            first | done | with_reducible rfl
          simp only [Act.put, List.getD_cons_zero, List.getD_cons_succ, List.setIfInBounds_toArray, List.set_cons_zero, List.set_cons_succ]
          refine lin3_one (fun K hK => ?_)
          simp only [List.getD_cons_zero, List.getD_cons_succ]
          go_simp
          refine hK.out _ _ S2.out ?_
          clear hK K
          refine NoPanic.normal ?_
          have HX2 : Hd (Sep (w3.setCell ⟨p.gl, up, none⟩ (.int .i64 (m : Int))).drew (FindL p cb fb X sv' pv' pvs' (.slice (some ⟨gc, 0, none⟩) K cap) (partsI p.n s'.np s'.prt) s'.cnt s'.idx (Tj.upd s'.low up m) s'.prt s'.stk ((up, j) :: r))) := Hd.mk HSet.out.drew
          have HBy2 : Hd (Below p.B w (w3.setCell ⟨p.gl, up, none⟩ (.int .i64 (m : Int))).drew) := ⟨HBe.out.trans (((Keeps.refl (fun _ => False) _).drew).below (Nat.le_trans hB HBe.out.size) (fun _ _ h => h))⟩
          clear S1 S2 HSet HBe l0 l1 HM5 HB5 hmi
          generalize (w3.setCell ⟨p.gl, up, none⟩ (.int .i64 (m : Int))).drew = w5 at HX2 HBy2 ⊢
          have HM5 := HX2
          have HB5 := HBy2
          clear HX2 HBy2
          have HF5 := Fin.cells (X := BoxL p cb fb _) HM5.out
          have b1 := (Fin.boxes HM5.out).2
          have f1 := HF5.f1
          have f2 := HF5.f2
          have ci := (Fin.idxAt (X := BoxL p cb fb _) HM5.out hvn).1
          have cl := (Fin.lowAt (X := BoxL p cb fb _) HM5.out hvn).1
          have HI' := Hd.mk (HI.out.next HP.out.2.1 (by rw [HC.out]; simp))
          have HM' := Hd.mk (Tj.step_meas (n := p.n) (nx := nx) (s := s') HP.out.2.1 (by rw [HC.out]; simp))
          obtain ⟨a, ha⟩ : ∃ a, (Tj.upd s'.low up m) v = a := ⟨_, rfl⟩
          obtain ⟨b, hb⟩ : ∃ b, s'.idx v = b := ⟨_, rfl⟩
          rw [ha] at cl
          rw [hb] at ci
          clear HF5
          by_cases hab : a = b
          · subst hab
            have HSt := Hd.mk (Tj.step_shut HC.out HX.out (by rw [HLow.out, ha, hb]))
            clear ha hb
            have hvs := HKs.out.2.2.1
            have hstk := split_at hvs
            have hmst : ∀ u, u ∈ v :: s'.stk.takeWhile (· != v) → u ∈ s'.stk := fun u hu => by
              rw [hstk]
              rcases List.mem_cons.1 hu with e | hu
              · subst e; simp
              · exact List.mem_append_left _ hu
            have hcl := close_any p sv' pv' pvs' (partsI p.n s'.np s'.prt) s'.cnt s'.idx ((Tj.upd s'.low up m)) s'.prt (s'.stk.takeWhile (· != v)) ((s'.stk.dropWhile (· != v)).tail) v (BoxL p cb fb (oP p.B 93 2 (.slice (some ⟨gc, 0, none⟩) K cap) (((up, j) :: r) : List (Nat × Nat)).length (callC ((up, j) :: r)) :: X)) 
            go_upto_region 17 with (fail)
            go_quiet (fail)
            revert nq; intro q2
            have HC5 := Hd.mk (hcl (w5.drewN q2) not_in_take (fun u hu => HI.out.inv.lt u ((HI.out.inv.on u).1 (hmst u hu)).1) hn (by
                have h1 := HI.out.stk
                have h2 := congrArg List.length hstk
                simp only [List.length_append, List.length_cons] at h2
                omega) (by have := HI.out.bd.p; simp only [partsI, List.length_map, List.length_range]; omega) (Nat.le_trans hB HB5.out.size) (by
                have := HM5.out.drewN q2
                unfold FindL at this
                rw [← hstk]
                exact this))
            clear hcl hmst hstk hvs
            go_wp2_with fail
            refine HC5.out.mono ?_
            rintro e w6 ⟨rfl, sv6, pv6, pvs6, hS6, hB6⟩
            have HS6 := Hd.mk (shut_state (s := s') (rest := ((up, j) :: r)) HI.out.inv HKs.out.2.2.1 hS6)
            have HB6 : Hd (Below p.B w w6) := ⟨HB5.out.trans (((Keeps.refl (fun _ => False) w5).drewN q2).below (Nat.le_trans hB HB5.out.size) (fun _ _ h => h) |>.trans hB6)⟩
            clear hS6 hB6 HC5
            go_wp2
            go_roundg (Tj.meas p.n nx (Tj.step nx s'))
            case measure => exact HMs.out ▸ HM'.out
            case rel =>
              rw [HSt.out] at HI' ⊢
              rw [HLow.out] at HI' ⊢
              exact ⟨_, sv6, pv6, pvs6, rfl, HS6, HI', HB6⟩
          · have hab1 : ¬ (a : Int) = (b : Int) := by omega
            have hab2 : ((a : Int) == (b : Int)) = false := by simp; omega
            have HSt := Hd.mk (Tj.step_leave HC.out HX.out (by rw [HLow.out, ha, hb]; exact hab))
            clear ha hb
            go_upto_region 17 with (fail)
            go_quiet (fail)
            revert nq; intro q2
            have HM6 := Hd.mk (HM5.out.drewN q2)
            have HB6 : Hd (Below p.B w (w5.drewN q2)) := ⟨HB5.out.trans (((Keeps.refl (fun _ => False) w5).drewN q2).below (Nat.le_trans hB HB5.out.size) (fun _ _ h => h))⟩
            go_wp2
            go_roundg (Tj.meas p.n nx (Tj.step nx s'))
            case measure => exact HMs.out ▸ HM'.out
            case rel =>
              rw [HSt.out] at HI' ⊢
              rw [HLow.out] at HI' ⊢
              exact ⟨_, sv', pv', pvs', rfl, HM6, HI', HB6⟩

end Go.Proofs.Ytmgkoocpnakanaa.W
