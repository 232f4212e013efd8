/-
  find: its plain part; rows of calls. No program.
-/
import Derived.Test.YtmgkoocpnakanaaFcl
import Derived.Test.YtmgkoocpnakanaaApp
namespace Go.Proofs.Ytmgkoocpnakanaa.W
open Go.RowKit
set_option linter.unusedVariables false

/-- the same facts in another order, or fewer -/
theorem Sep.pick {w : World} {L L' : List Asr} (h : Sep w L) (ρ σ : Nat → Nat) (hσ : ∀ (t : Nat) A, L'[t]? = some A → L[σ t]? = some A ∧ ρ (σ t) = t) : Sep w L' := by
  obtain ⟨o, ho⟩ := h.is
  refine ⟨fun g => ρ (o g), fun t A ht => ?_⟩
  obtain ⟨h1, h2⟩ := hσ t A ht
  exact A.loc (ho _ A h1) (Keeps.refl (fun _ => False) w) (fun _ _ _ h => h) (fun g _ hg => by
    show ρ (o g) = t
    rw [show o g = σ t from hg]; exact h2)
theorem Sep.insert {w : World} {L1 L2 : List Asr} {A : Asr} (h : Sep w ((L1 ++ L2) ++ [A])) : Sep w (L1 ++ A :: L2) := by
  refine h.pick (fun s => if s < L1.length then s else if s = L1.length + L2.length then L1.length else s + 1) (fun t => if t < L1.length then t else if t = L1.length then L1.length + L2.length else t - 1) (fun t C ht => ?_)
  by_cases h1 : t < L1.length
  · rw [if_pos h1]
    rw [List.getElem?_append_left h1] at ht
    refine ⟨?_, by rw [if_pos h1]⟩
    rw [List.getElem?_append_left (by simp; omega), List.getElem?_append_left h1]; exact ht
  · rw [if_neg h1]
    by_cases h2 : t = L1.length
    · subst h2
      rw [if_pos rfl, if_neg (by omega), if_pos rfl]
      refine ⟨?_, rfl⟩
      rw [List.getElem?_append_right (by simp)]
      simpa using ht
    · rw [if_neg h2]
      rw [List.getElem?_append_right (by omega)] at ht
      obtain ⟨q, hq⟩ : ∃ q, t - L1.length = q + 1 := ⟨t - L1.length - 1, by omega⟩
      rw [hq, List.getElem?_cons_succ] at ht
      have hl := (List.getElem?_eq_some_iff.1 ht).1
      refine ⟨?_, ?_⟩
      · rw [List.getElem?_append_left (by simp; omega), List.getElem?_append_right (by omega), show t - 1 - L1.length = q by omega]; exact ht
      · rw [if_neg (by omega), if_neg (by omega)]; omega
theorem Sep.erase {w : World} {L1 L2 : List Asr} {A : Asr} (h : Sep w (L1 ++ A :: L2)) : Sep w (L1 ++ L2) := by
  refine h.pick (fun s => if s < L1.length then s else s - 1) (fun t => if t < L1.length then t else t + 1) (fun t C ht => ?_)
  by_cases h1 : t < L1.length
  · rw [if_pos h1, if_pos h1]
    rw [List.getElem?_append_left h1] at ht ⊢
    exact ⟨ht, rfl⟩
  · rw [if_neg h1, if_neg (by omega)]
    rw [List.getElem?_append_right (by omega)] at ht ⊢
    rw [show t + 1 - L1.length = (t - L1.length) + 1 by omega, List.getElem?_cons_succ]
    exact ⟨ht, by omega⟩

/-! the row of calls -/
def callC (l : List (Nat × Nat)) : List Value := l.reverse.flatMap fun c => [.int .i64 (c.1 : Int), .int .i64 (c.2 : Int)]
theorem callC_cons (c : Nat × Nat) (l : List (Nat × Nat)) : callC (c :: l) = callC l ++ [.int .i64 (c.1 : Int), .int .i64 (c.2 : Int)] := by simp [callC]
theorem callC_len : ∀ l : List (Nat × Nat), (callC l).length = l.length * 2
  | [] => rfl
  | c :: l => by rw [callC_cons, List.length_append, callC_len l]; simp; omega

structure CallTop (w : World) (gc : Nat) (k : Nat) (v i : Nat) : Prop where
  c0 : w.cell? ⟨gc, k * 2, none⟩ = some (.int .i64 (v : Int))
  c1 : w.cell? ⟨gc, k * 2 + 1, none⟩ = some (.int .i64 (i : Int))
  f1 : w.frozen? ⟨gc, k * 2 + 1, none⟩ = false

theorem row_slice {w : World} {B : Nat} {e : TypeId} {m : Nat} {cv : Value} {n : Nat} {l : List Value} (h : w.ownsRow B e m cv (n + 1) l) : ∃ gc cap, cv = .slice (some ⟨gc, 0, none⟩) (n + 1) cap ∧ n + 1 ≤ cap := by
  rcases h.2 with ⟨_, h0⟩ | ⟨g, cap, cur, e1, _, _, h1, _⟩
  · omega
  · exact ⟨g, cap, e1, h1⟩
theorem row_top {w : World} {B : Nat} {e : TypeId} {gc cap v i : Nat} {r : List (Nat × Nat)} (h : w.ownsRow B e 2 (.slice (some ⟨gc, 0, none⟩) (r.length + 1) cap) (r.length + 1) (callC ((v, i) :: r))) : CallTop w gc r.length v i := by
  have hl := callC_len r
  rw [callC_cons] at h
  refine ⟨?_, ?_, h.frozenAt _⟩
  · rw [h.cellAt _ (by omega), List.getElem?_append_right (by omega), show r.length * 2 - (callC r).length = 0 by omega]; rfl
  · rw [h.cellAt _ (by omega), List.getElem?_append_right (by omega), show r.length * 2 + 1 - (callC r).length = 1 by omega]; rfl
theorem call_set (v i j : Nat) (r : List (Nat × Nat)) : (callC ((v, i) :: r)).set (r.length * 2 + 1) (.int .i64 (j : Int)) = callC ((v, j) :: r) := by
  have hl := callC_len r
  rw [callC_cons, callC_cons, List.set_append_right _ _ (by omega), show r.length * 2 + 1 - (callC r).length = 1 by omega]; rfl
theorem row_pre {w : World} {B : Nat} {e : TypeId} {gc cap : Nat} {c : Nat × Nat} {r : List (Nat × Nat)} (h : w.ownsRow B e 2 (.slice (some ⟨gc, 0, none⟩) (r.length + 1) cap) (r.length + 1) (callC (c :: r))) : w.ownsRow B e 2 (.slice (some ⟨gc, 0, none⟩) r.length cap) r.length (callC r) := by
  have hl := callC_len r
  rcases h.2 with ⟨h', _⟩ | ⟨g, cap', cur, h', hb, hg, h1, h2, h3, h4⟩
  · cases h'
  · injection h' with e1 _ e3; injection e1 with e1; injection e1 with e1 _ _
    subst e1 e3
    refine ⟨hl, .inr ⟨gc, cap, cur, rfl, hb, hg, by omega, h2, h3, ?_⟩⟩
    have := congrArg (List.take (r.length * 2)) h4
    rw [List.take_take, Nat.min_eq_left (by omega), callC_cons, List.take_left' hl] at this
    exact this
theorem row_push {P : Program} {t ty e : TypeId} {i : TypeInfo} {z : Value} {bytes : Nat} {w W : World} {B : Nat} {cv : Value} {r : List (Nat × Nat)} {v : Nat} (ht : P.underlying t = some (.slice e)) (hi : P.info? e = some i) (hz : i.zero = some z) (hsize : i.size = 2) (hby : i.bytes = bytes) (hzs : z.cells.size = 2)
    (h : w.ownsRow B e 2 cv r.length (callC r)) (hW : W = w.alloc (.cells #[.int .i64 (v : Int), .int .i64 0] e)) (hr : r.length + 1 ≤ 262145) (hb : bytes ≤ 100) (hB : B ≤ w.heap.size) :
    ∃ v' w', (Builtin.append_ #[t, t] ty #[cv, .slice (some ⟨w.heap.size, 0, none⟩) 1 1]).run P W = .ok v' w' ∧ w'.ownsRow B e 2 v' (r.length + 1) (callC ((v, 0) :: r)) ∧ Keeps (fun g => cv.ownBlock = some g) w w' ∧ (v'.ownBlock = cv.ownBlock ∨ ∃ g, w.heap.size ≤ g ∧ v'.ownBlock = some g) := by
  subst hW
  have hbk := Blk.new w e [.int .i64 (v : Int), .int .i64 0]
  have hbs : (r.length + 1) * bytes ≤ 262145 * 100 := Nat.mul_le_mul hr hb
  obtain ⟨v', w', h1, h2, h3, _, h5⟩ := run_append_own_at (P := P) (w := w.alloc (.cells #[.int .i64 (v : Int), .int .i64 0] e)) B t ty e i z 2 bytes ht hi hz hsize hby hzs (by decide) cv r.length (callC r) (h.alloc _) ⟨w.heap.size, 0, none⟩ 1 1 [.int .i64 (v : Int), .int .i64 0] rfl (fun j u hj => by
    have ea : (⟨w.heap.size, 0, none⟩ : Addr).add j = ⟨w.heap.size, j, none⟩ := by unfold Addr.add; split <;> simp_all
    rw [ea]; exact hbk.at hj) (fun u hu => by simp at hu; rcases hu with rfl | rfl <;> rfl) (by unfold maxLen; omega) (by omega) (by simp; omega)
  refine ⟨v', w', h1, by rw [callC_cons]; exact h2, ?_, ?_⟩
  · exact ((Keeps.refl _ w).alloc _).trans ⟨h3.os, h3.tape, h3.output, h3.size, fun k hk hn => h3.block k hk (fun c => hn c.symm)⟩
  · rcases h5 with h5 | h5
    · exact .inl h5
    · exact .inr ⟨w.heap.size + 1, by omega, by simpa using h5⟩

/-! counts -/
def unfd (n : Nat) (f : Nat → Nat) : Nat := ((List.range n).filter fun u => f u == 0).length
theorem unfd_lt {n : Nat} {f g : Nat → Nat} (h : ∀ u, g u = 0 → f u = 0) {v : Nat} (hv : v < n) (h1 : f v = 0) (h2 : g v ≠ 0) : unfd n g < unfd n f :=
  Tj.filter_lt (fun x hx => by simp only [beq_iff_eq] at hx ⊢; exact h x hx) (List.mem_range.2 hv) (by simp [h1]) (by simp [h2])
structure Bd (n : Nat) (s : Tj.Ts) : Prop where
  c : s.cnt + unfd n s.idx ≤ n
  p : s.np + unfd n s.prt ≤ n

theorem Bd.enter {n : Nat} {s : Tj.Ts} (b : Bd n s) {v : Nat} (hv : v < n) (h0 : s.idx v = 0) (c : List (Nat × Nat)) : Bd n (Tj.enter s v c) := by
  refine ⟨?_, b.p⟩
  have := unfd_lt (n := n) (f := s.idx) (g := Tj.upd s.idx v (s.cnt + 1)) (fun u hu => by
    simp only [Tj.upd] at hu
    split at hu
    · omega
    · exact hu) hv h0 (by simp [Tj.upd])
  have := b.c
  show s.cnt + 1 + unfd n (Tj.upd s.idx v (s.cnt + 1)) ≤ n
  omega

theorem Bd.shut {n : Nat} {s : Tj.Ts} (b : Bd n s) {v : Nat} (hv : v < n) (h0 : s.prt v = 0) (hal : ∀ u, u ∈ Tj.above s v → s.prt u = 0) : Bd n (Tj.close s v) := by
  refine ⟨b.c, ?_⟩
  have := unfd_lt (n := n) (f := s.prt) (g := (Tj.close s v).prt) (fun u hu => by
    simp only [Tj.close] at hu
    split at hu
    · omega
    · exact hu) hv h0 (by simp [Tj.close, Tj.above])
  have := b.p
  show s.np + 1 + unfd n (Tj.close s v).prt ≤ n
  omega

theorem split_at {v : Nat} : ∀ {l : List Nat}, v ∈ l → l = l.takeWhile (· != v) ++ v :: (l.dropWhile (· != v)).tail
  | [], h => by cases h
  | a :: r, h => by
    by_cases e : a = v
    · subst e; simp
    · have hv : v ∈ r := by rcases List.mem_cons.1 h with e' | h; exact absurd e'.symm e; exact h
      have := split_at hv
      simp only [List.takeWhile_cons, List.dropWhile_cons, bne_iff_ne, ne_eq, e, not_false_eq_true, if_true, List.cons_append]
      exact congrArg (a :: ·) this
theorem not_in_take {v : Nat} : ∀ {l : List Nat}, v ∉ l.takeWhile (· != v)
  | [], h => by cases h
  | a :: r, h => by
    by_cases e : a = v
    · subst e; simp at h
    · simp only [List.takeWhile_cons, bne_iff_ne, ne_eq, e, not_false_eq_true, if_true] at h
      rcases List.mem_cons.1 h with e' | h
      · exact e e'.symm
      · exact not_in_take h

theorem nodup_dec {f : Nat → Nat} {l : List Nat} (h : l.Pairwise (fun a b => f b < f a)) : l.Nodup := h.imp (fun {a b} h e => by subst e; omega)

theorem sortN_asc {l : List Nat} (h : l.Nodup) : (sortN l).Pairwise (· < ·) := by
  have h1 : (sortN l).Pairwise (· ≤ ·) := merge_le (intL l)
  have h2 : (sortN l).Nodup := (List.mergeSort_perm (intL l) _).nodup_iff.2 (by
    unfold intL
    exact List.pairwise_map.2 (h.imp (fun {a b} hne e => hne (by injection e))))
  exact (List.pairwise_and_iff.2 ⟨h1, h2⟩).imp (fun {a b} h => by have := h.1; have : a ≠ b := h.2; omega)
theorem intL_asc {l : List Nat} (h : l.Pairwise (· < ·)) : (intL l).Pairwise (· < ·) := List.pairwise_map.2 (h.imp (fun {a b} h => by show (a : Int) < (b : Int); omega))
theorem mem_intL {l : List Nat} {x : Int} : x ∈ intL l ↔ ∃ u, u ∈ l ∧ (u : Int) = x := by simp [intL]
theorem mem_sortN {l : List Nat} {x : Int} : x ∈ sortN l ↔ ∃ u, u ∈ l ∧ (u : Int) = x := by simp [sortN, intL]

/-- a part is closed: one more in the row -/
theorem parts_close {n : Nat} {nx : Nat → List Nat} {s : Tj.Ts} (hp : ∀ u, s.prt u ≤ s.np) (hnd : s.stk.Nodup) (hon : ∀ u, u ∈ s.stk → s.prt u = 0 ∧ u < n) {v : Nat} (hv : v ∈ s.stk) :
    partsI n (s.np + 1) (Tj.close s v).prt = partsI n s.np s.prt ++ [sortN (v :: (s.stk.takeWhile (· != v)).reverse)] := by
  have hst := split_at hv
  have hab : ∀ u, u ∈ Tj.above s v ↔ u ∈ v :: (s.stk.takeWhile (· != v)).reverse := fun u => by simp [Tj.above, or_comm]
  have hin : ∀ u, u ∈ Tj.above s v → u ∈ s.stk := fun u hu => by
    rw [hab] at hu
    rw [hst]
    simp at hu ⊢
    rcases hu with h | h
    · exact .inr (.inl h)
    · exact .inl h
  unfold partsI
  rw [List.range_succ, List.map_append]
  congr 1
  · refine List.map_congr_left (fun k hk => ?_)
    have hk := List.mem_range.1 hk
    congr 1
    unfold Tj.nodesOf
    refine List.filter_congr (fun u hu => ?_)
    simp only [Tj.close]
    by_cases hu : u ∈ Tj.above s v
    · rw [if_pos hu, (hon u (hin u hu)).1]
      simp
      omega
    · rw [if_neg hu]
  · simp only [List.map_cons, List.map_nil, List.cons.injEq, and_true]
    have hnd2 : (v :: (s.stk.takeWhile (· != v)).reverse).Nodup := by
      rw [List.nodup_cons]
      refine ⟨by simpa using not_in_take, ?_⟩
      rw [hst] at hnd
      exact (List.reverse_perm _).nodup_iff.2 (List.nodup_append.1 hnd).1
    refine sorted_ext _ _ (intL_asc (Tj.asc_range n _)) (sortN_asc hnd2) (fun x => ?_)
    rw [mem_intL, mem_sortN]
    constructor
    · rintro ⟨u, hu, rfl⟩
      obtain ⟨h1, h2⟩ := Tj.mem_nodesOf.1 hu
      refine ⟨u, ?_, rfl⟩
      rw [← hab]
      refine Decidable.byContradiction fun hne => ?_
      simp only [Tj.close, if_neg hne] at h2
      have := hp u; omega
    · rintro ⟨u, hu, rfl⟩
      rw [← hab] at hu
      exact ⟨u, Tj.mem_nodesOf.2 ⟨(hon u (hin u hu)).2, by simp [Tj.close, hu]⟩, rfl⟩

end Go.Proofs.Ytmgkoocpnakanaa.W
