/-
  The walks of the closures, slices.IndexFunc, slices.ContainsFunc.
-/
import Derived.Test.YtmcdfhihfcfbaaaCopy
namespace Go.Proofs.Ytmcdfhihfcfbaaa.W
open Go.RowKit
set_option linter.unusedVariables false

theorem nat_beq (a b : Nat) : ((a : Int) == (b : Int)) = decide (a = b) := by
  rw [Bool.eq_iff_iff]; simp; omega

theorem settle1_any (p : Pn) (b f : Nat) (w : World) (hc : w.cell? ⟨b, 0, none⟩ = some (.int .i64 f)) :
    Calls Try.prog 89 #[.agg (pCells p).toArray, .pointer (some ⟨b, 0, none⟩)] w fun e w' => e = .returned (.bool (decide (p.f = f))) ∧ Keeps (fun _ => False) w w' := by
  have hp : (pCells p).toArray = #[.int .i64 p.f, .int .i64 p.at_, .string ⟨p.s.toArray⟩] := rfl
  rw [hp]
  have hk : Keeps (fun _ => False) w (w.alloc (.cells #[.int .i64 p.f, .int .i64 p.at_, .string ⟨p.s.toArray⟩] 91)) := (Keeps.refl (fun _ => False) w).alloc _
  have HK := Hd.mk hk
  have hc2 : (w.alloc (.cells #[.int .i64 p.f, .int .i64 p.at_, .string ⟨p.s.toArray⟩] 91)).cell? ⟨b, 0, none⟩ = some (.int .i64 f) := by
    rw [World.cell?_alloc_some _ _ _ (by rw [hc]; rfl)]; exact hc
  clear hp hk
  go_enter Try.func89, Try.ntmps89
  go_wp2
  go_ret
  exact ⟨ret_b (nat_beq _ _), HK.out⟩

theorem Turn1_any (p : Pn) (b f : Nat) (w : World) (hc : w.cell? ⟨b, 0, none⟩ = some (.int .i64 f)) :
    Calls Try.prog 76 #[.agg (pCells p).toArray, .pointer (some ⟨b, 0, none⟩)] w fun e w' => e = .returned (.bool (decide (p.f = f))) ∧ Keeps (fun _ => False) w w' := by
  have hp : (pCells p).toArray = #[.int .i64 p.f, .int .i64 p.at_, .string ⟨p.s.toArray⟩] := rfl
  rw [hp]
  have hk : Keeps (fun _ => False) w (w.alloc (.cells #[.int .i64 p.f, .int .i64 p.at_, .string ⟨p.s.toArray⟩] 91)) := (Keeps.refl (fun _ => False) w).alloc _
  have HK := Hd.mk hk
  have hc2 : (w.alloc (.cells #[.int .i64 p.f, .int .i64 p.at_, .string ⟨p.s.toArray⟩] 91)).cell? ⟨b, 0, none⟩ = some (.int .i64 f) := by
    rw [World.cell?_alloc_some _ _ _ (by rw [hc]; rfl)]; exact hc
  clear hp hk
  go_enter Try.func76, Try.ntmps76
  go_wp2
  go_ret
  exact ⟨ret_b (nat_beq _ _), HK.out⟩

/-- the first place of a file's pending write -/
def idxL (f : Nat) (q : List Pn) : Nat := q.findIdx fun p => decide (p.f = f)
def idxV (f : Nat) (q : List Pn) : Int := if idxL f q < q.length then (idxL f q : Int) else -1

structure QCells (w : World) (g : Nat) (q : List Pn) : Prop where
  a : ∀ k (h : k < q.length), w.cell? ⟨g, k * 3, none⟩ = some (.int .i64 q[k].f)
  b : ∀ k (h : k < q.length), w.cell? ⟨g, k * 3 + 1, none⟩ = some (.int .i64 q[k].at_)
  c : ∀ k (h : k < q.length), w.cell? ⟨g, k * 3 + 2, none⟩ = some (strV q[k].s)

theorem qCells_get : ∀ (q : List Pn) (k : Nat) (h : k < q.length), (qCells q)[k * 3]? = some (.int .i64 q[k].f) ∧ (qCells q)[k * 3 + 1]? = some (.int .i64 q[k].at_) ∧ (qCells q)[k * 3 + 2]? = some (strV q[k].s)
  | p :: q, 0, _ => ⟨rfl, rfl, rfl⟩
  | p :: q, k + 1, h => by
    have ih := qCells_get q k (by simpa using h)
    have e : qCells (p :: q) = pCells p ++ qCells q := rfl
    have hl : (pCells p).length = 3 := rfl
    rw [e, List.getElem?_append_right (by omega), List.getElem?_append_right (by omega), List.getElem?_append_right (by omega), hl, show (k + 1) * 3 - 3 = k * 3 by omega, show (k + 1) * 3 + 1 - 3 = k * 3 + 1 by omega, show (k + 1) * 3 + 2 - 3 = k * 3 + 2 by omega]
    exact ih

theorem QCells.of {w : World} {q : List Pn} {g n cap : Nat} (h : w.ownsRow 0 91 3 (.slice (some ⟨g, 0, none⟩) n cap) n (qCells q)) : QCells w g q :=
  ⟨fun k hk => by have := h.cells (g := g) rfl _ _ (qCells_get q k hk).1; rwa [add0] at this,
   fun k hk => by have := h.cells (g := g) rfl _ _ (qCells_get q k hk).2.1; rwa [add0] at this,
   fun k hk => by have := h.cells (g := g) rfl _ _ (qCells_get q k hk).2.2; rwa [add0] at this⟩

theorem idx_hit {f : Nat} {q : List Pn} {k : Nat} (h : k < q.length) (he : q[k].f = f) (hall : ∀ j (h : j < q.length), j < k → ¬ q[j].f = f) : idxV f q = (k : Int) := by
  have : idxL f q = k := by
    unfold idxL
    rw [List.findIdx_eq h]
    exact ⟨by simpa using he, fun j hj => by simpa using hall j (by omega) hj⟩
  unfold idxV
  rw [this, if_pos h]
theorem idx_miss {f : Nat} {q : List Pn} (hall : ∀ j (h : j < q.length), ¬ q[j].f = f) : idxV f q = -1 := by
  have : idxL f q = q.length := by
    unfold idxL
    rw [List.findIdx_eq_length]
    intro x hx
    obtain ⟨j, hj, rfl⟩ := List.getElem_of_mem hx
    simpa using hall j hj
  unfold idxV
  rw [this, if_neg (Nat.lt_irrefl _)]

theorem settle1_idx (w : World) (v : Value) (q : List Pn) (O : Option Nat) (b f : Nat) (hlen : q.length ≤ 1000000000) (hq : QRow w v q O) (hc : w.cell? ⟨b, 0, none⟩ = some (.int .i64 f)) :
    Calls Try.prog 90 #[v, .func (.func 89) #[] #[.pointer (some ⟨b, 0, none⟩)]] w fun e w' => e = .returned (.int .i64 (idxV f q)) ∧ Keeps (fun _ => False) w w' := by
  obtain ⟨pv, cv, hv⟩ := hq.slice
  have hcells : Hd (∀ wr, Keeps (fun _ => False) w wr → 0 < q.length → ∃ g, pv = some ⟨g, 0, none⟩ ∧ QCells wr g q) := ⟨fun wr hk h0 => by
    rcases (hq.keeps hk (fun _ _ h => h)).is with ⟨_, rfl, _⟩ | ⟨g, _, hvo, hrow⟩
    · simp at h0
    · rcases hrow.2 with ⟨rfl, h⟩ | ⟨b', cap, cur, hv', _⟩
      · cases hvo
      · rw [hv'] at hv hrow
        simp at hv
        exact ⟨b', hv.1.symm, QCells.of hrow⟩⟩
  have hcap : Hd (∀ wr, Keeps (fun _ => False) w wr → wr.cell? ⟨b, 0, none⟩ = some (.int .i64 f)) := ⟨fun wr hk => by
    have hlt := World.block_lt_of_cell? w _ hc
    rw [World.cell?_of_block (a := ⟨b, 0, none⟩) (hk.block b hlt (fun h => h))]; exact hc⟩
  subst hv
  clear hq hc
  obtain ⟨n, hn⟩ : ∃ n, q.length = n := ⟨_, rfl⟩
  rw [hn] at hlen hcells
  rw [hn]
  go_enter Try.func90, Try.ntmps90
  go_wp2
  go_loopw [8] (fun i wr => ∃ k : Nat, k ≤ n ∧ i = .int .i64 k ∧ (∀ j (h : j < q.length), j < k → ¬ q[j].f = f) ∧ Keeps (fun _ => False) w wr) (fun i _ => n - (intOf i).toNat)
  case atStart => exact ⟨0, Nat.zero_le _, rfl, fun j _ hj => absurd hj (Nat.not_lt_zero _), Keeps.refl _ _⟩
  case round =>
    obtain ⟨k, hk, rfl, hall, hK⟩ := hrel
    have HA := Hd.mk hall
    have HK := Hd.mk hK
    clear hall hK
    by_cases hlt : k < n
    · have hd1 : decide ((k : Int) < (n : Int)) = true := by simp; omega
      obtain ⟨g, rfl, hQ⟩ := hcells.out wr HK.out (Nat.lt_of_le_of_lt (Nat.zero_le _) hlt)
      have hkq : k < q.length := hn ▸ hlt
      have c1 := hQ.a k hkq
      have c2 := hQ.b k hkq
      have c3 := hQ.c k hkq
      have hf := hcap.out wr HK.out
      have HC := Hd.mk (settle1_any q[k] b f wr hf)
      have hpc : (pCells q[k]).toArray = #[.int .i64 q[k].f, .int .i64 q[k].at_, strV q[k].s] := rfl
      rw [hpc] at HC
      obtain ⟨x1, hx1⟩ : ∃ x, (q[k].at_ : Int) = x := ⟨_, rfl⟩
      obtain ⟨x2, hx2⟩ : ∃ x, (q[k].f : Int) = x := ⟨_, rfl⟩
      obtain ⟨x3, hx3⟩ : ∃ x, strV q[k].s = x := ⟨_, rfl⟩
      rw [hx1] at c2 HC
      rw [hx2] at c1 HC
      rw [hx3] at c3 HC
      clear hQ hx1 hx2 hx3 hpc hf
      by_cases he : q[k].f = f
      · have HE := Hd.mk he
        rw [decide_eq_true he] at HC
        clear he
        go_wp2_with fail
        refine HC.out.mono ?_
        rintro e w2 ⟨rfl, hK2⟩
        have HK2 := Hd.mk (HK.out.trans hK2)
        clear hK2
        go_wp2
        go_ret
        exact ⟨ret_i (idx_hit hkq HE.out HA.out).symm, HK2.out⟩
      · have HE := Hd.mk he
        rw [decide_eq_false he] at HC
        clear he
        go_wp2_with fail
        refine HC.out.mono ?_
        rintro e w2 ⟨rfl, hK2⟩
        have HK2 := Hd.mk (HK.out.trans hK2)
        clear hK2
        go_wp2
        refine ⟨⟨k + 1, hlt, by go_num, fun j h hj => ?_, HK2.out⟩, by simp [intOf]; omega⟩
        rcases Nat.lt_succ_iff_lt_or_eq.1 hj with h' | rfl
        · exact HA.out j h h'
        · exact HE.out
    · have hd1 : decide ((k : Int) < (n : Int)) = false := by simp; omega
      go_wp2
      go_ret
      exact ⟨ret_i (idx_miss (fun j h => HA.out j h (by omega))).symm, HK.out⟩

theorem Turn1_idx (w : World) (v : Value) (q : List Pn) (O : Option Nat) (b f : Nat) (hlen : q.length ≤ 1000000000) (hq : QRow w v q O) (hc : w.cell? ⟨b, 0, none⟩ = some (.int .i64 f)) :
    Calls Try.prog 90 #[v, .func (.func 76) #[] #[.pointer (some ⟨b, 0, none⟩)]] w fun e w' => e = .returned (.int .i64 (idxV f q)) ∧ Keeps (fun _ => False) w w' := by
  obtain ⟨pv, cv, hv⟩ := hq.slice
  have hcells : Hd (∀ wr, Keeps (fun _ => False) w wr → 0 < q.length → ∃ g, pv = some ⟨g, 0, none⟩ ∧ QCells wr g q) := ⟨fun wr hk h0 => by
    rcases (hq.keeps hk (fun _ _ h => h)).is with ⟨_, rfl, _⟩ | ⟨g, _, hvo, hrow⟩
    · simp at h0
    · rcases hrow.2 with ⟨rfl, h⟩ | ⟨b', cap, cur, hv', _⟩
      · cases hvo
      · rw [hv'] at hv hrow
        simp at hv
        exact ⟨b', hv.1.symm, QCells.of hrow⟩⟩
  have hcap : Hd (∀ wr, Keeps (fun _ => False) w wr → wr.cell? ⟨b, 0, none⟩ = some (.int .i64 f)) := ⟨fun wr hk => by
    have hlt := World.block_lt_of_cell? w _ hc
    rw [World.cell?_of_block (a := ⟨b, 0, none⟩) (hk.block b hlt (fun h => h))]; exact hc⟩
  subst hv
  clear hq hc
  obtain ⟨n, hn⟩ : ∃ n, q.length = n := ⟨_, rfl⟩
  rw [hn] at hlen hcells
  rw [hn]
  go_enter Try.func90, Try.ntmps90
  go_wp2
  go_loopw [8] (fun i wr => ∃ k : Nat, k ≤ n ∧ i = .int .i64 k ∧ (∀ j (h : j < q.length), j < k → ¬ q[j].f = f) ∧ Keeps (fun _ => False) w wr) (fun i _ => n - (intOf i).toNat)
  case atStart => exact ⟨0, Nat.zero_le _, rfl, fun j _ hj => absurd hj (Nat.not_lt_zero _), Keeps.refl _ _⟩
  case round =>
    obtain ⟨k, hk, rfl, hall, hK⟩ := hrel
    have HA := Hd.mk hall
    have HK := Hd.mk hK
    clear hall hK
    by_cases hlt : k < n
    · have hd1 : decide ((k : Int) < (n : Int)) = true := by simp; omega
      obtain ⟨g, rfl, hQ⟩ := hcells.out wr HK.out (Nat.lt_of_le_of_lt (Nat.zero_le _) hlt)
      have hkq : k < q.length := hn ▸ hlt
      have c1 := hQ.a k hkq
      have c2 := hQ.b k hkq
      have c3 := hQ.c k hkq
      have hf := hcap.out wr HK.out
      have HC := Hd.mk (Turn1_any q[k] b f wr hf)
      have hpc : (pCells q[k]).toArray = #[.int .i64 q[k].f, .int .i64 q[k].at_, strV q[k].s] := rfl
      rw [hpc] at HC
      obtain ⟨x1, hx1⟩ : ∃ x, (q[k].at_ : Int) = x := ⟨_, rfl⟩
      obtain ⟨x2, hx2⟩ : ∃ x, (q[k].f : Int) = x := ⟨_, rfl⟩
      obtain ⟨x3, hx3⟩ : ∃ x, strV q[k].s = x := ⟨_, rfl⟩
      rw [hx1] at c2 HC
      rw [hx2] at c1 HC
      rw [hx3] at c3 HC
      clear hQ hx1 hx2 hx3 hpc hf
      by_cases he : q[k].f = f
      · have HE := Hd.mk he
        rw [decide_eq_true he] at HC
        clear he
        go_wp2_with fail
        refine HC.out.mono ?_
        rintro e w2 ⟨rfl, hK2⟩
        have HK2 := Hd.mk (HK.out.trans hK2)
        clear hK2
        go_wp2
        go_ret
        exact ⟨ret_i (idx_hit hkq HE.out HA.out).symm, HK2.out⟩
      · have HE := Hd.mk he
        rw [decide_eq_false he] at HC
        clear he
        go_wp2_with fail
        refine HC.out.mono ?_
        rintro e w2 ⟨rfl, hK2⟩
        have HK2 := Hd.mk (HK.out.trans hK2)
        clear hK2
        go_wp2
        refine ⟨⟨k + 1, hlt, by go_num, fun j h hj => ?_, HK2.out⟩, by simp [intOf]; omega⟩
        rcases Nat.lt_succ_iff_lt_or_eq.1 hj with h' | rfl
        · exact HA.out j h h'
        · exact HE.out
    · have hd1 : decide ((k : Int) < (n : Int)) = false := by simp; omega
      go_wp2
      go_ret
      exact ⟨ret_i (idx_miss (fun j h => HA.out j h (by omega))).symm, HK.out⟩

theorem contains_any (w : World) (v : Value) (q : List Pn) (O : Option Nat) (b f : Nat) (hlen : q.length ≤ 1000000000) (hq : QRow w v q O) (hc : w.cell? ⟨b, 0, none⟩ = some (.int .i64 f)) :
    Calls Try.prog 75 #[v, .func (.func 76) #[] #[.pointer (some ⟨b, 0, none⟩)]] w fun e w' => e = .returned (.bool (q.any fun p => decide (p.f = f))) ∧ Keeps (fun _ => False) w w' := by
  have HI := Hd.mk (Turn1_idx w v q O b f hlen hq hc)
  have hr : decide (0 ≤ idxV f q) = q.any fun p => decide (p.f = f) := by
    unfold idxV
    rw [Bool.eq_iff_iff]
    by_cases h : idxL f q < q.length
    · rw [if_pos h]
      have := List.findIdx_lt_length.1 h
      simp only [List.any_eq_true]
      exact ⟨fun _ => this, fun _ => by simp⟩
    · rw [if_neg h]
      have : ¬ ∃ x ∈ q, decide (x.f = f) = true := fun hx => h (List.findIdx_lt_length.2 hx)
      simp only [List.any_eq_true]
      exact ⟨fun h => absurd h (by decide), fun h => absurd h this⟩
  have HR := Hd.mk hr
  clear hr hq hc
  obtain ⟨x, hx⟩ : ∃ x, idxV f q = x := ⟨_, rfl⟩
  rw [hx] at HI HR
  clear hx
  go_enter Try.func75, Try.ntmps75
  go_wp2_with (go_at_call 90; refine HI.out.mono ?_; rintro e w1 ⟨rfl, hk⟩)
  go_ret
  exact ⟨ret_b HR.out, hk⟩

end Go.Proofs.Ytmcdfhihfcfbaaa.W
