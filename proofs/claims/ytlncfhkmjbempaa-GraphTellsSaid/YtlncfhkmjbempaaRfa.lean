/-
  The reference's Right, has, From.
-/
import Derived.Test.YtlncfhkmjbempaaGl
namespace Go.Proofs.Ytlncfhkmjbempaa.W
open Go.RowKit
set_option linter.unusedVariables false

set_option maxHeartbeats 4000000 in
set_option maxRecDepth 100000 in
theorem rhas_any (w : World) (v : Value) (arcs : List Arc) (a b : Int) (h : Rw 2 Arc.E w v arcs) (hl : arcs.length ≤ 1000000) :
    Calls Try.prog 40 #[v, .int .i64 a, .int .i64 b] w fun e w' => e = .returned (.bool (arcI arcs a b)) ∧ w = w' := by
  obtain ⟨p, c, hv⟩ := h.slice
  obtain ⟨M, hM⟩ : ∃ M, arcs.length = M := ⟨_, rfl⟩
  rw [hM] at hv
  subst hv
  have H := Hd.mk h
  have HN := Hd.mk hM
  have hMb : M ≤ 1000000 := by omega
  clear h hM
  go_enter Try.func40, Try.ntmps40
  go_wp2
  go_loopw [7] (fun iv wr => ∃ k : Nat, k ≤ M ∧ iv = .int .i64 (k : Int) ∧ Hd (arcI (arcs.take k) a b = false) ∧ w = wr) (fun iv _ => M - (intOf iv).toNat)
  case atStart => exact ⟨0, Nat.zero_le _, rfl, ⟨rfl⟩, rfl⟩
  case round =>
    obtain ⟨k, hk, rfl, HT, rfl⟩ := hrel
    by_cases hlt : k < M
    · have hd1 : decide ((k : Int) < (M : Int)) = true := by simp; omega
      have hmk : M - (intOf (.int .i64 ((k : Int) + 1))).toNat < M - (intOf (.int .i64 (k : Int))).toNat := by simp [intOf]; omega
      have hkq : k < arcs.length := by rw [HN.out]; exact hlt
      obtain ⟨g, of, cs, hpe, hg, hcl, hE, hcc⟩ := H.out.at rfl (j := k) hkq
      subst hpe
      rw [show cs = arcs[k].cells from hE] at hcc
      obtain ⟨x, hx⟩ : ∃ x, arcs[k].f = x := ⟨_, rfl⟩
      obtain ⟨y, hy⟩ : ∃ y, arcs[k].t = y := ⟨_, rfl⟩
      have d0 : w.cell? ⟨g, of + k * 2, none⟩ = some (.int .i64 x) := by rw [← hx]; exact hcc 0 _ rfl
      have d1 : w.cell? ⟨g, of + k * 2 + 1, none⟩ = some (.int .i64 y) := by rw [← hy]; exact hcc 1 _ rfl
      have htk : arcI (arcs.take (k + 1)) a b = (x == a && y == b) := by
        have e : arcs.take (k + 1) = arcs.take k ++ [arcs[k]] := by rw [List.take_add_one, List.getElem?_eq_getElem hkq]; rfl
        have h1 := HT.out
        unfold arcI at h1 ⊢
        rw [e, List.any_append, h1, ← hx, ← hy]
        simp
      have hfull : (x == a && y == b) = true → arcI arcs a b = true := fun h => List.any_eq_true.2 ⟨arcs[k], List.getElem_mem hkq, by rw [hx, hy]; exact h⟩
      have HTk := Hd.mk (And.intro htk hfull)
      clear hcc hcl hE hg hx hy hkq cs htk hfull
      by_cases h1 : x = a
      · subst h1
        by_cases h2 : y = b
        · subst h2
          have HE : Hd (true = arcI arcs x y) := ⟨(HTk.out.2 (by simp)).symm⟩
          go_wp2
          go_ret
          exact ⟨ret_b HE.out, rfl⟩
        · have HT2 : Hd (arcI (arcs.take (k + 1)) x b = false) := ⟨by rw [HTk.out.1]; simp [h2]⟩
          go_wp2
          exact ⟨⟨k + 1, hlt, by go_num, HT2, trivial⟩, hmk⟩
      · have HT2 : Hd (arcI (arcs.take (k + 1)) a b = false) := ⟨by rw [HTk.out.1]; simp [h1]⟩
        go_wp2
        exact ⟨⟨k + 1, hlt, by go_num, HT2, trivial⟩, hmk⟩
    · have hd1 : decide ((k : Int) < (M : Int)) = false := by simp; omega
      have HE : Hd (false = arcI arcs a b) := ⟨by
        have h1 := HT.out
        rw [List.take_of_length_le (by rw [HN.out]; omega)] at h1
        exact h1.symm⟩
      go_wp2
      go_ret
      exact ⟨ret_b HE.out, rfl⟩

set_option maxHeartbeats 4000000 in
set_option maxRecDepth 100000 in
theorem rright_any (w : World) (n : Int) (v : Value) (arcs : List Arc) (h : Rw 2 Arc.E w v arcs) (hl : arcs.length ≤ 1000000) :
    Calls Try.prog 13 #[.int .i64 n, v] w fun e w' => e = .returned (.bool (rightB n arcs)) ∧ w = w' := by
  obtain ⟨p, c, hv⟩ := h.slice
  obtain ⟨M, hM⟩ : ∃ M, arcs.length = M := ⟨_, rfl⟩
  rw [hM] at hv
  subst hv
  have H := Hd.mk h
  have HN := Hd.mk hM
  have hMb : M ≤ 1000000 := by omega
  obtain ⟨R, hR⟩ : ∃ R, rightB n arcs = R := ⟨_, rfl⟩
  have HRR := Hd.mk hR
  rw [hR]
  have HU : Hd (rightB n arcs = (decide (0 ≤ n) && decide (n ≤ 262144) && arcs.all fun a => nodeB n a.f && nodeB n a.t)) := ⟨rfl⟩
  clear h hM hR
  go_enter Try.func13, Try.ntmps13
  by_cases h0 : n < 0
  · have g0 : decide (n < 0) = true := decide_eq_true h0
    have HE : Hd (false = R) := ⟨by rw [← HRR.out, HU.out, decide_eq_false (show ¬ 0 ≤ n by omega)]; rfl⟩
    go_wp2
    go_ret
    exact ⟨ret_b HE.out, rfl⟩
  have g0 : decide (n < 0) = false := decide_eq_false h0
  by_cases h1 : 262144 < n
  · have g1 : decide (262144 < n) = true := decide_eq_true h1
    have HE : Hd (false = R) := ⟨by rw [← HRR.out, HU.out, decide_eq_false (show ¬ n ≤ 262144 by omega), Bool.and_false]; rfl⟩
    go_wp2
    go_ret
    exact ⟨ret_b HE.out, rfl⟩
  have g1 : decide (262144 < n) = false := decide_eq_false h1
  have HF : Hd (R = arcs.all fun a => nodeB n a.f && nodeB n a.t) := ⟨by rw [← HRR.out, HU.out, decide_eq_true (show 0 ≤ n by omega), decide_eq_true (show n ≤ 262144 by omega)]; rfl⟩
  go_wp2
  go_loopw [5] (fun iv wr => ∃ k : Nat, k ≤ M ∧ iv = .int .i64 (k : Int) ∧ Hd ((arcs.take k).all (fun a => nodeB n a.f && nodeB n a.t) = true) ∧ w = wr) (fun iv _ => M - (intOf iv).toNat)
  case atStart => exact ⟨0, Nat.zero_le _, rfl, ⟨rfl⟩, rfl⟩
  case round =>
    obtain ⟨k, hk, rfl, HT, rfl⟩ := hrel
    by_cases hlt : k < M
    · have hd1 : decide ((k : Int) < (M : Int)) = true := by simp; omega
      have hmk : M - (intOf (.int .i64 ((k : Int) + 1))).toNat < M - (intOf (.int .i64 (k : Int))).toNat := by simp [intOf]; omega
      have hkq : k < arcs.length := by rw [HN.out]; exact hlt
      obtain ⟨g, of, cs, hpe, hg, hcl, hE, hcc⟩ := H.out.at rfl (j := k) hkq
      subst hpe
      rw [show cs = arcs[k].cells from hE] at hcc
      obtain ⟨x, hx⟩ : ∃ x, arcs[k].f = x := ⟨_, rfl⟩
      obtain ⟨y, hy⟩ : ∃ y, arcs[k].t = y := ⟨_, rfl⟩
      have d0 : w.cell? ⟨g, of + k * 2, none⟩ = some (.int .i64 x) := by rw [← hx]; exact hcc 0 _ rfl
      have d1 : w.cell? ⟨g, of + k * 2 + 1, none⟩ = some (.int .i64 y) := by rw [← hy]; exact hcc 1 _ rfl
      have htk : (arcs.take (k + 1)).all (fun a => nodeB n a.f && nodeB n a.t) = (nodeB n x && nodeB n y) := by
        have e : arcs.take (k + 1) = arcs.take k ++ [arcs[k]] := by rw [List.take_add_one, List.getElem?_eq_getElem hkq]; rfl
        rw [e, List.all_append, HT.out, ← hx, ← hy]
        simp
      have hno : (nodeB n x && nodeB n y) = false → false = R := fun h => by
        rw [HF.out]
        rcases h2 : arcs.all (fun a => nodeB n a.f && nodeB n a.t) with _ | _
        · rfl
        · have := List.all_eq_true.1 h2 _ (List.getElem_mem hkq)
          rw [hx, hy, h] at this; cases this
      have HTk := Hd.mk (And.intro htk hno)
      clear hcc hcl hE hg hx hy hkq cs htk hno
      by_cases a1 : x < 0
      · have e1 : decide (x < 0) = true := decide_eq_true a1
        have HE := Hd.mk (HTk.out.2 (by simp only [nodeB]; rw [decide_eq_false (show ¬ 0 ≤ x by omega)]; rfl))
        go_wp2
        go_ret
        exact ⟨ret_b HE.out, rfl⟩
      have e1 : decide (x < 0) = false := decide_eq_false a1
      by_cases a2 : n ≤ x
      · have e2 : decide (n ≤ x) = true := decide_eq_true a2
        have HE := Hd.mk (HTk.out.2 (by simp only [nodeB]; rw [decide_eq_false (show ¬ x < n by omega), Bool.and_false]; rfl))
        go_wp2
        go_ret
        exact ⟨ret_b HE.out, rfl⟩
      have e2 : decide (n ≤ x) = false := decide_eq_false a2
      by_cases a3 : y < 0
      · have e3 : decide (y < 0) = true := decide_eq_true a3
        have HE := Hd.mk (HTk.out.2 (by simp only [nodeB]; rw [decide_eq_false (show ¬ 0 ≤ y by omega), Bool.false_and, Bool.and_false]))
        go_wp2
        go_ret
        exact ⟨ret_b HE.out, rfl⟩
      have e3 : decide (y < 0) = false := decide_eq_false a3
      by_cases a4 : n ≤ y
      · have e4 : decide (n ≤ y) = true := decide_eq_true a4
        have HE := Hd.mk (HTk.out.2 (by simp only [nodeB]; rw [decide_eq_false (show ¬ y < n by omega), Bool.and_false, Bool.and_false]))
        go_wp2
        go_ret
        exact ⟨ret_b HE.out, rfl⟩
      have e4 : decide (n ≤ y) = false := decide_eq_false a4
      have HT2 : Hd ((arcs.take (k + 1)).all (fun a => nodeB n a.f && nodeB n a.t) = true) := ⟨by
        rw [HTk.out.1]
        simp only [nodeB]
        rw [decide_eq_true (show 0 ≤ x by omega), decide_eq_true (show x < n by omega), decide_eq_true (show 0 ≤ y by omega), decide_eq_true (show y < n by omega)]; rfl⟩
      go_wp2
      exact ⟨⟨k + 1, hlt, by go_num, HT2, trivial⟩, hmk⟩
    · have hd1 : decide ((k : Int) < (M : Int)) = false := by simp; omega
      have HE : Hd (true = R) := ⟨by
        have h1 := HT.out
        rw [List.take_of_length_le (by rw [HN.out]; omega)] at h1
        rw [HF.out, h1]⟩
      go_wp2
      go_ret
      exact ⟨ret_b HE.out, rfl⟩

-- truths of nodes
def bitC (n : Nat) (S : Nat → Bool) : List Value := (List.range n).map fun u => .bool (S u)
theorem bitC_at {n : Nat} {S : Nat → Bool} {u : Nat} (hu : u < n) : (bitC n S)[u]? = some (.bool (S u)) := by simp [bitC, hu]
theorem bitC_congr {n : Nat} {S T : Nat → Bool} (h : ∀ u, u < n → S u = T u) : bitC n S = bitC n T := List.map_congr_left (fun u hu => by rw [h u (List.mem_range.1 hu)])
theorem bitC_zero (n : Nat) : List.replicate n (Value.bool false) = bitC n (fun _ => false) := by
  apply List.ext_getElem <;> simp [bitC]
theorem bitC_set {n : Nat} {S : Nat → Bool} {v : Nat} (x : Bool) : (bitC n S).set v (.bool x) = bitC n (fun u => if u = v then x else S u) := by
  apply List.ext_getElem
  · simp [bitC]
  · intro j h1 h2
    rw [List.getElem_set]
    simp only [bitC, List.getElem_map, List.getElem_range]
    by_cases e : v = j
    · subst e; simp
    · have : ¬ j = v := fun h => e h.symm
      rw [if_neg e, if_neg this]
theorem infoBool : (Try.prog.info? 4).map (fun i => (i.zero, i.size, i.bytes)) = some (some (.bool false), 1, 1) := by kernel_rfl
theorem make_bools (w : World) (n : Nat) (h : n ≤ 100000000) : (Instr.makeSlice 56 (.int .i64 n) (.int .i64 n)).run Try.prog w = .ok (.slice (some ⟨w.heap.size, 0, none⟩) n n) (w.alloc (.cells (List.replicate n (.bool false)).toArray 4)) := by
  obtain ⟨i0, hi, hz0, hz1, hz2⟩ := info_parts infoBool
  have := run_make (P := Try.prog) w 56 4 i0 (.bool false) Try.underlying56 hi hz0 .i64 .i64 (n : Int) (n : Int) (by omega) (by omega) (by rw [hz2]; omega) (by omega)
  rw [hz1] at this
  simp only [Int.toNat_natCast, Nat.mul_one] at this
  rw [this, made_one _ _ rfl]
theorem set_below {w wr : World} {g : Nat} {j : Nat} {x : Value} (hg : w.heap.size ≤ g) (h : Below w.heap.size w wr) : Below w.heap.size w (wr.setCell ⟨g, j, none⟩ x) :=
  h.trans (((Keeps.refl (fun q => w.heap.size ≤ q) wr).setCell (p := ⟨g, j, none⟩) (.inr hg) _).below h.size (fun q h1 h2 => by omega))

theorem left_set {n : Nat} {S : Nat → Bool} {t : Nat} (ht : t < n) (h : S t = false) : Tj.left n (fun u => if u = t then true else S u) < Tj.left n S :=
  Tj.filter_lt (fun x hx => by
    by_cases e : x = t
    · subst e; simp [h]
    · simpa [e] using hx) (List.mem_range.2 ht) (by simp [h]) (by simp)

theorem from_all {n : Nat} {arcs : List Arc} {k : Nat} {S : Nat → Bool} (hk : k < n) (h0 : S k = true) (hs : ∀ u, u < n → S u = true → Tj.Rch (nx n arcs) k u) (hc : ∀ j (hj : j < arcs.length), S arcs[j].f.toNat = true → S arcs[j].t.toNat = true) :
    ∀ u, u < n → S u = reachR n arcs k u := by
  have key : ∀ u, Tj.Rch (nx n arcs) k u → S u = true := fun u hr => by
    induction hr with
    | refl => exact h0
    | tail _ hx ih =>
      obtain ⟨_, a, ha, e1, e2⟩ := mem_nx.1 hx
      obtain ⟨j, hj, rfl⟩ := List.getElem_of_mem ha
      have := hc j hj
      rw [e1, e2] at this
      exact this ih
  intro u hu
  rw [Bool.eq_iff_iff, reachR_iff hk]
  exact ⟨hs u hu, key u⟩

set_option maxHeartbeats 4000000 in
set_option maxRecDepth 100000 in
theorem rfrom_any (w : World) (n : Nat) (hn : n ≤ 1000) (v : Value) (arcs : List Arc) (k : Nat) (hk : k < n) (hR : Rw 2 Arc.E w v arcs) (hl : arcs.length ≤ 1000000) (hr : rightB (n : Int) arcs = true) :
    Calls Try.prog 35 #[.int .i64 n, v, .int .i64 k] w fun e w' => ∃ g, e = .returned (.slice (some ⟨g, 0, none⟩) n n) ∧ w.heap.size ≤ g ∧ Blk w' g 4 (bitC n (reachR n arcs k)) ∧ Below w.heap.size w w' := by
  obtain ⟨p, c, hv⟩ := hR.slice
  obtain ⟨M, hM⟩ : ∃ M, arcs.length = M := ⟨_, rfl⟩
  rw [hM] at hv
  subst hv
  obtain ⟨g, hg⟩ : ∃ g, w.heap.size = g := ⟨_, rfl⟩
  have H := Hd.mk hR
  have HN := Hd.mk hM
  have HG := Hd.mk hg
  have HRr := Hd.mk (right_is hr).2.2
  have hMb : M ≤ 1000000 := by omega
  have mz := make_bools w n (by omega)
  rw [hg] at mz
  have HMZ := Hd.mk mz
  have HB0 : Hd (Below w.heap.size w (w.alloc (.cells (List.replicate n (.bool false)).toArray 4))) := ⟨below_al _ _⟩
  have HK0 : Hd (Blk (w.alloc (.cells (List.replicate n (.bool false)).toArray 4)) g 4 (bitC n fun _ => false)) := ⟨by
    rw [← hg]
    exact (Blk.new w 4 (List.replicate n (.bool false))).cast (bitC_zero n)⟩
  clear hR hM hg mz hr hl
  go_enter Try.func35, Try.ntmps35
  go_upto_region 1 with (fail)
  go_cut [7] from 10 (fun s7 wx => s7 = .slice (some ⟨g, 0, none⟩) n n ∧ Hd (Blk wx g 4 (bitC n fun _ => false)) ∧ Hd (Below w.heap.size w wx))
  case first =>
    have mz := HMZ.out
    go_wp2
    go_meet
    exact ⟨rfl, HK0, HB0⟩
  case rest =>
  obtain ⟨rfl, HK1, HB1⟩ := hcut
  clear HK0 HB0 HMZ
  go_step
  go_step
  go_cut [] from 10 (fun wx => Hd (Blk wx g 4 (bitC n fun u => decide (u = k))) ∧ Hd (Below w.heap.size w wx))
  case first =>
    have c0 := HK1.out.at (bitC_at (S := fun _ => false) hk)
    have z0 := HK1.out.free k
    have hki : (k : Int) < (n : Int) := by omega
    have HK2 : Hd (Blk ((_ : World).setCell ⟨g, k, none⟩ (.bool true)) g 4 (bitC n fun u => decide (u = k))) := ⟨by
      refine (HK1.out.set k (.bool true)).cast ?_
      rw [bitC_set]
      refine bitC_congr (fun u _ => ?_)
      by_cases e : u = k <;> simp [e]⟩
    have HB2 : Hd (Below w.heap.size w ((_ : World).setCell ⟨g, k, none⟩ (.bool true))) := ⟨set_below (by rw [HG.out]; exact Nat.le_refl _) HB1.out⟩
    clear HK1 HB1
    go_wp2
    go_meet
    exact ⟨HK2, HB2⟩
  case rest =>
  obtain ⟨HK2, HB2⟩ := hcut
  clear HK1 HB1
  go_wp2
  go_loopg [8] (Tj.left n (fun u => decide (u = k)) + 1) (fun gh av wr => ∃ (b : Bool) (S : Nat → Bool), gh = Tj.left n S + (if b then 1 else 0) ∧ av = .bool b ∧ Hd (S k = true) ∧ Hd (∀ u, u < n → S u = true → Tj.Rch (nx n arcs) k u) ∧ Hd (b = false → ∀ j (hj : j < arcs.length), S arcs[j].f.toNat = true → S arcs[j].t.toNat = true) ∧ Hd (Blk wr g 4 (bitC n S)) ∧ Hd (Below w.heap.size w wr))
  case atStart =>
    have HSs : Hd (∀ u, u < n → decide (u = k) = true → Tj.Rch (nx n arcs) k u) := ⟨fun u _ h => by
      have := of_decide_eq_true h
      subst this
      exact .refl u⟩
    exact ⟨true, _, rfl, rfl, ⟨by simp⟩, HSs, ⟨fun h => by cases h⟩, HK2, HB2⟩
  case round =>
    clear HK2 HB2
    obtain ⟨b, S, rfl, rfl, HS0, HSs, HSc, HK, HB⟩ := hrel
    cases b with
    | false =>
      have HKe : Hd (Blk wr g 4 (bitC n (reachR n arcs k))) := ⟨HK.out.cast (bitC_congr (from_all hk HS0.out HSs.out (HSc.out rfl)))⟩
      clear HSc HSs HS0 HK
      go_wp2
      go_ret
      exact ⟨g, rfl, by rw [HG.out]; exact Nat.le_refl _, HKe.out, HB.out⟩
    | true =>
      clear HSc
      go_wp2
      go_loopw [9, 8] (fun iv bv wq => ∃ (i : Nat) (b : Bool) (T : Nat → Bool), i ≤ M ∧ iv = .int .i64 (i : Int) ∧ bv = .bool b ∧ Hd (T k = true) ∧ Hd (∀ u, u < n → T u = true → Tj.Rch (nx n arcs) k u) ∧ Hd (b = false → ∀ j (hj : j < arcs.length), j < i → T arcs[j].f.toNat = true → T arcs[j].t.toNat = true) ∧ Hd (Tj.left n T + (if b then 1 else 0) ≤ Tj.left n S) ∧ Hd (Blk wq g 4 (bitC n T)) ∧ Hd (Below w.heap.size w wq)) (fun iv _ _ => M - (intOf iv).toNat)
      case atStart => exact ⟨0, false, S, Nat.zero_le _, rfl, rfl, HS0, HSs, ⟨fun _ j _ h => absurd h (Nat.not_lt_zero _)⟩, ⟨Nat.le_refl _⟩, HK, HB⟩
      case round =>
        clear HS0 HSs HK HB
        obtain ⟨i, b, T, hi, rfl, rfl, HT0, HTs, HTc, HTl, HK, HB⟩ := hrel
        by_cases hlt : i < M
        · have hd1 : decide ((i : Int) < (M : Int)) = true := decide_eq_true (by omega)
          have hmi : M - (intOf (.int .i64 ((i : Int) + 1))).toNat < M - (intOf (.int .i64 (i : Int))).toNat := by simp [intOf]; omega
          have hiq : i < arcs.length := by rw [HN.out]; exact hlt
          obtain ⟨ga, of, cs, hpe, hga, hcl, hE, hcc⟩ := (H.out.below Arc.stays HB.out).at rfl (j := i) hiq
          subst hpe
          rw [show cs = arcs[i].cells from hE] at hcc
          obtain ⟨⟨f1, f2⟩, t1, t2⟩ := HRr.out _ (List.getElem_mem hiq)
          have hT := HTc.out
          have hnx : ∀ f t : Nat, arcs[i].f = (f : Int) → arcs[i].t = (t : Int) → t < n → Tj.Rch (nx n arcs) k f → Tj.Rch (nx n arcs) k t := fun f t e1 e2 ht hr => hr.tail (mem_nx.2 ⟨ht, _, List.getElem_mem hiq, e1, e2⟩)
          have hext : ∀ f t : Nat, arcs[i].f = (f : Int) → arcs[i].t = (t : Int) → (T f = true → T t = true) → (b = false → ∀ j (hj : j < arcs.length), j < i + 1 → T arcs[j].f.toNat = true → T arcs[j].t.toNat = true) := fun f t e1 e2 h hb j hj hji => by
            rcases Nat.lt_or_ge j i with h3 | h3
            · exact hT hb j hj h3
            · have : j = i := by omega
              subst this
              rw [e1, e2]; exact h
          obtain ⟨f, hf⟩ := nat_of f1
          obtain ⟨t, ht⟩ := nat_of t1
          have hfn : f < n := by omega
          have htn : t < n := by omega
          have d0 : wr.cell? ⟨ga, of + i * 2, none⟩ = some (.int .i64 (f : Int)) := by rw [← hf]; exact hcc 0 _ rfl
          have d1 : wr.cell? ⟨ga, of + i * 2 + 1, none⟩ = some (.int .i64 (t : Int)) := by rw [← ht]; exact hcc 1 _ rfl
          have cf := HK.out.at (bitC_at (S := T) hfn)
          have ct := HK.out.at (bitC_at (S := T) htn)
          have zt := HK.out.free t
          have HX := Hd.mk (And.intro (hnx f t hf ht htn) (hext f t hf ht))
          clear hcc hcl hE hga hf ht hiq cs hT hnx hext f1 f2 t1 t2
          rcases hTf : T f with _ | _
          · rw [hTf] at cf
            have HTc2 := Hd.mk (HX.out.2 (fun h => by rw [hTf] at h; cases h))
            clear hTf HTc HX ct zt
            go_wp2
            exact ⟨⟨i + 1, b, T, hlt, by go_num, rfl, HT0, HTs, HTc2, HTl, HK, HB⟩, hmi⟩
          · rw [hTf] at cf
            rcases hTt : T t with _ | _
            · rw [hTt] at ct
              have HL2 : Hd (Tj.left n (fun u => if u = t then true else T u) + 1 ≤ Tj.left n S) := ⟨by
                have h1 := left_set htn hTt
                have h2 := HTl.out
                split at h2 <;> omega⟩
              have HT02 : Hd ((fun u => if u = t then true else T u) k = true) := ⟨by
                show (if k = t then true else T k) = true
                rw [HT0.out]; simp⟩
              have HTs2 : Hd (∀ u, u < n → (fun u => if u = t then true else T u) u = true → Tj.Rch (nx n arcs) k u) := ⟨fun u hu h => by
                by_cases e : u = t
                · subst e; exact HX.out.1 (HTs.out f hfn hTf)
                · exact HTs.out u hu (by simpa [e] using h)⟩
              have HK2 : Hd (Blk (wr.setCell ⟨g, t, none⟩ (.bool true)) g 4 (bitC n fun u => if u = t then true else T u)) := ⟨(HK.out.set t (.bool true)).cast (bitC_set true)⟩
              have HB2 : Hd (Below w.heap.size w (wr.setCell ⟨g, t, none⟩ (.bool true))) := ⟨set_below (by rw [HG.out]; exact Nat.le_refl _) HB.out⟩
              clear hTf hTt HTc HX HTl HTs HT0 HK HB
              go_wp2
              exact ⟨⟨i + 1, true, _, hlt, by go_num, rfl, HT02, HTs2, ⟨fun h => by cases h⟩, HL2, HK2, HB2⟩, hmi⟩
            · rw [hTt] at ct
              have HTc2 := Hd.mk (HX.out.2 (fun _ => hTt))
              clear hTf hTt HTc HX zt
              go_wp2
              exact ⟨⟨i + 1, b, T, hlt, by go_num, rfl, HT0, HTs, HTc2, HTl, HK, HB⟩, hmi⟩
        · have hd1 : decide ((i : Int) < (M : Int)) = false := decide_eq_false (by omega)
          have HTc2 : Hd (b = false → ∀ j (hj : j < arcs.length), T arcs[j].f.toNat = true → T arcs[j].t.toNat = true) := ⟨fun hb j hj => HTc.out hb j hj (by have := HN.out; omega)⟩
          clear HTc
          go_wp2
          go_roundg (Tj.left n T + (if b then 1 else 0))
          case measure =>
            have := HTl.out
            show _ < Tj.left n S + 1
            omega
          case rel => exact ⟨b, T, rfl, rfl, HT0, HTs, HTc2, HK, HB⟩

end Go.Proofs.Ytlncfhkmjbempaa.W
