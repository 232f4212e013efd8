/-
  The finder's close.
-/
import Derived.Test.YtmgkoocpnakanaaFen
namespace Go.Proofs.Ytmgkoocpnakanaa.W
open Go.RowKit
set_option linter.unusedVariables false

theorem Own.down {w : World} {B B' : Nat} {e : TypeId} {v : Value} {xs : List Value} (h : Own w B e v xs) (hb : B' ≤ B) : Own w B' e v xs := by
  rcases h.is with h0 | ⟨g, cap, e1, hB, rest⟩
  · exact ⟨.inl h0⟩
  · exact ⟨.inr ⟨g, cap, e1, Nat.le_trans hb hB, rest⟩⟩

/-- two of them as one -/
def oJ (C A : Asr) : Asr :=
  ⟨fun w f => ∃ f1 f2, C.P w f1 ∧ A.P w f2 ∧ (∀ k, f1 k → ¬ f2 k) ∧ ∀ k, k < w.heap.size → f1 k ∨ f2 k → f k, fun {w w' f f' S} h k hs hf => by
    obtain ⟨f1, f2, h1, h2, h3, h4⟩ := h
    refine ⟨fun k => f1 k ∧ k < w.heap.size, fun k => f2 k ∧ k < w.heap.size, C.loc h1 k (fun g hg h => hs g hg (h4 g hg (.inl h))) (fun g hg h => ⟨h, hg⟩), A.loc h2 k (fun g hg h => hs g hg (h4 g hg (.inr h))) (fun g hg h => ⟨h, hg⟩), fun g h h' => h3 g h.1 h'.1, fun g _ h => ?_⟩
    rcases h with ⟨h, hg⟩ | ⟨h, hg⟩
    · exact hf g hg (h4 g hg (.inl h))
    · exact hf g hg (h4 g hg (.inr h))⟩

theorem Sep.join {w : World} {L : List Asr} {A C : Asr} (h : Sep w (L ++ [A])) {t : Nat} (ht : L[t]? = some C) : Sep w (L.set t (oJ C A)) := by
  obtain ⟨o, ho⟩ := h.is
  have hlt := (List.getElem?_eq_some_iff.1 ht).1
  refine ⟨fun g => if o g = L.length then t else o g, fun s D hs => ?_⟩
  have hA := ho L.length A (by simp)
  have hC := ho t C (by rw [List.getElem?_append_left hlt]; exact ht)
  by_cases e : t = s
  · subst e
    rw [List.getElem?_set_self hlt] at hs
    cases hs
    refine ⟨_, _, hC, hA, fun k h1 h2 => by omega, fun k _ hk => ?_⟩
    show (if o k = L.length then t else o k) = t
    rcases hk with hk | hk
    · rw [if_neg (by omega)]; exact hk
    · rw [if_pos hk]
  · rw [List.getElem?_set_ne e] at hs
    have hsl := (List.getElem?_eq_some_iff.1 hs).1
    have hD := ho s D (by rw [List.getElem?_append_left hsl]; exact hs)
    refine D.loc hD (Keeps.refl (fun _ => False) w) (fun _ _ _ h => h) (fun g _ hg => ?_)
    show (if o g = L.length then t else o g) = s
    have : o g = s := hg
    rw [if_neg (by omega)]; exact hg

/-- a row of rows gets one more, that is own -/
theorem RowsO.push {w w' : World} {B : Nat} {v v' : Value} {vs : List Value} {ls : List (List Int)} (h : RowsO w B v vs ls) {u : Value} {l : List Int} (hu : Own w B 3 u (ints l)) (hne : ∀ k, rowsK v vs k → u.ownBlock ≠ some k)
    (ho : Own w' B 44 v' (vs ++ [u])) (k : Keeps (fun g => v.ownBlock = some g) w w') (hb : v'.ownBlock = v.ownBlock ∨ ∃ g, w.heap.size ≤ g ∧ v'.ownBlock = some g) :
    RowsO w' B v' (vs ++ [u]) (ls ++ [l]) ∧ ∀ g, rowsK v' (vs ++ [u]) g → rowsK v vs g ∨ u.ownBlock = some g ∨ w.heap.size ≤ g := by
  have hat : ∀ {i : Nat} {x : Value}, (vs ++ [u])[i]? = some x → (i < vs.length ∧ vs[i]? = some x) ∨ (i = vs.length ∧ x = u) := fun {i x} hx => by
    rcases Nat.lt_or_ge i vs.length with hi | hi
    · rw [List.getElem?_append_left hi] at hx; exact .inl ⟨hi, hx⟩
    · rw [List.getElem?_append_right hi] at hx
      have hl := (List.getElem?_eq_some_iff.1 hx).1
      have e : i = vs.length := by simp at hl; omega
      subst e
      simp at hx; exact .inr ⟨rfl, hx.symm⟩
  have hold : ∀ {g : Nat}, v'.ownBlock = some g → v.ownBlock = some g ∨ w.heap.size ≤ g := fun {g} hg => by
    rcases hb with e | ⟨g', hg', e⟩
    · rw [e] at hg; exact .inl hg
    · rw [e] at hg; cases hg; exact .inr hg'
  refine ⟨⟨ho, by simp [h.len], fun i x y hx hy => ?_, fun i j x y g hx hy h1 h2 => ?_, fun i x g hx h1 h2 => ?_⟩, fun g hg => ?_⟩
  · rcases hat hx with ⟨hi, hx⟩ | ⟨rfl, rfl⟩
    · rw [List.getElem?_append_left (by rw [← h.len]; exact hi)] at hy
      exact (h.each i x y hx hy).keeps k (fun g h1 h2 => h.ne i x g hx h1 h2)
    · rw [List.getElem?_append_right (by rw [h.len]; exact Nat.le_refl _)] at hy
      rw [h.len] at hy; simp at hy; subst hy
      exact hu.keeps k (fun g h1 h2 => hne g (.inl h2) h1)
  · rcases hat hx with ⟨_, hx'⟩ | ⟨e1, e2⟩ <;> rcases hat hy with ⟨_, hy'⟩ | ⟨e3, e4⟩
    · exact h.dis i j x y g hx' hy' h1 h2
    · subst e4; exact (hne g (.inr ⟨i, x, hx', h1⟩) h2).elim
    · subst e2; exact (hne g (.inr ⟨j, y, hy', h2⟩) h1).elim
    · exact e1.trans e3.symm
  · have hlt : g < w.heap.size := by
      rcases hat hx with ⟨_, hx'⟩ | ⟨_, rfl⟩
      · exact (rowsK_lt h (.inr ⟨i, x, hx', h1⟩)).2
      · exact (hu.lt h1).2
    rcases hold h2 with h2 | h2
    · rcases hat hx with ⟨_, hx'⟩ | ⟨_, rfl⟩
      · exact h.ne i x g hx' h1 h2
      · exact hne g (.inl h2) h1
    · omega
  · rcases hg with hg | ⟨i, x, hx, hg⟩
    · rcases hold hg with hg | hg
      · exact .inl (.inl hg)
      · exact .inr (.inr hg)
    · rcases hat hx with ⟨_, hx'⟩ | ⟨_, rfl⟩
      · exact .inl (.inr ⟨i, x, hx', hg⟩)
      · exact .inr (.inl hg)

theorem RowsO.last {w : World} {B : Nat} {v : Value} {vs : List Value} {ls : List (List Int)} {u : Value} {l : List Int} (h : RowsO w B v (vs ++ [u]) (ls ++ [l])) (hl : vs.length = ls.length) : Own w B 3 u (ints l) :=
  h.each vs.length u l (by simp) (by rw [hl]; simp)

/-- the same among the others -/
theorem Sep.push_rows {w w' : World} {L : List Asr} {t B : Nat} {v v' u : Value} {vs : List Value} {ls : List (List Int)} {l : List Int} (h : Sep w (L ++ [oI B 3 u (ints l)])) (ht : L[t]? = some (oR B v vs ls))
    (ho : Own w' B 44 v' (vs ++ [u])) (k : Keeps (fun g => v.ownBlock = some g) w w') (hb : v'.ownBlock = v.ownBlock ∨ ∃ g, w.heap.size ≤ g ∧ v'.ownBlock = some g) : Sep w' (L.set t (oR B v' (vs ++ [u]) (ls ++ [l]))) := by
  have hj := h.join ht
  have hlt := (List.getElem?_eq_some_iff.1 ht).1
  have := hj.put (w' := w') (t := t) (A := oJ (oR B v vs ls) (oI B 3 u (ints l))) (A' := oR B v' (vs ++ [u]) (ls ++ [l])) (List.getElem?_set_self hlt) k (fun f hA g hg hS => by
      obtain ⟨f1, f2, h1, h2, h3, h4⟩ := hA
      exact h4 g hg (.inl (h1.2 g (.inl hS)))) (fun f hA => by
      obtain ⟨f1, f2, h1, h2, h3, h4⟩ := hA
      obtain ⟨r1, r2⟩ := h1.1.push h2.1 (fun g hg hu => h3 g (h1.2 g hg) (h2.2 g hu)) ho k hb
      refine ⟨r1, fun g hg => ?_⟩
      rcases r2 g hg with e | e | e
      · have := (rowsK_lt h1.1 e).2; exact .inl ⟨this, h4 g this (.inl (h1.2 g e))⟩
      · have := (h2.1.lt e).2; exact .inl ⟨this, h4 g this (.inr (h2.2 g e))⟩
      · exact .inr e)
  rwa [List.set_set] at this

def sortN (l : List Nat) : List Int := (intL l).mergeSort fun x y => decide (x ≤ y)

theorem intC_at {l : List Nat} {k : Nat} (h : k < l.length) : (intC l)[k]? = some (.int .i64 (l[k] : Int)) := by simp [intC, h]

theorem Own.below {w w' : World} {B : Nat} {e : TypeId} {v : Value} {xs : List Value} (h : Own w B e v xs) (hb : Below w.heap.size w w') : Own w' B e v xs :=
  h.keeps (Keeps.of_below (S := fun k => w.heap.size ≤ k) hb (fun _ _ h => h)) (fun g hg hs => by have := (h.lt hg).2; omega)

def setS (S : List Nat) (x : Nat) (f : Nat → Nat) : Nat → Nat := fun u => if u ∈ S then x else f u
theorem setS_next (S : List Nat) (x : Nat) (f : Nat → Nat) {j : Nat} (h : j < S.length) : Tj.upd (setS (S.take j) x f) S[j] x = setS (S.take (j + 1)) x f := by
  funext u
  have e : S.take (j + 1) = S.take j ++ [S[j]] := by rw [List.take_add_one, List.getElem?_eq_getElem h]; rfl
  simp only [Tj.upd, setS, e, List.mem_append, List.mem_singleton]
  by_cases h1 : u = S[j]
  · simp [h1]
  · simp [h1]

theorem sortN_nat (l : List Nat) : ∃ S : List Nat, sortN l = intL S ∧ S.length = l.length ∧ ∀ u, u ∈ S ↔ u ∈ l := by
  have hm : ∀ x, x ∈ sortN l ↔ ∃ u, u ∈ l ∧ Int.ofNat u = x := fun x => by simp [sortN, intL]
  refine ⟨(sortN l).map Int.toNat, ?_, by simp [sortN, intL], fun u => ?_⟩
  · unfold intL
    rw [List.map_map]
    conv => lhs; rw [← List.map_id (sortN l)]
    refine List.map_congr_left (fun x hx => ?_)
    obtain ⟨u, _, rfl⟩ := (hm x).1 hx
    rfl
  · constructor
    · intro hu
      obtain ⟨x, hx, rfl⟩ := List.mem_map.1 hu
      obtain ⟨u', hu', rfl⟩ := (hm x).1 hx
      exact hu'
    · intro hu
      exact List.mem_map.2 ⟨Int.ofNat u, (hm _).2 ⟨u, hu, rfl⟩, rfl⟩

theorem Sep.put_last {w w' : World} {L : List Asr} {B : Nat} {e : TypeId} {v v' : Value} {l l' : List Value} (h : Sep w (L ++ [oI B e v l])) (k : Keeps (fun g => v.ownBlock = some g) w w') (ho : Own w' B e v' l')
    (hb : v'.ownBlock = v.ownBlock ∨ v'.ownBlock = none ∨ ∃ g, w.heap.size ≤ g ∧ v'.ownBlock = some g) : Sep w' (L ++ [oI B e v' l']) := by
  have := h.put_own L.length (last_get _ _) k ho hb
  rwa [List.set_append_right _ _ (Nat.le_refl _), Nat.sub_self] at this

/-- a piece of a row, cloned -/
theorem clone_own (w : World) (g o n c : Nat) (zs : List Nat) (hz : zs.length ≤ 262144) (hn : zs.length = n) (hc : ∀ j (h : j < zs.length), w.cell? ⟨g, o + j, none⟩ = some (.int .i64 (zs[j] : Int))) :
    Calls Try.prog 49 #[.slice (some ⟨g, o, none⟩) n c] w fun e w' => ∃ v', e = .returned v' ∧ Own w' w.heap.size 3 v' (intC zs) ∧ Below w.heap.size w w' := by
  subst hn
  have e : zs.length = (intL zs).length := by simp [intL]
  refine (Try.slices_Clone_int g o zs.length c (intL zs) w (by omega) (by omega) (fun j hj => ?_)).mono ?_
  · rw [hc j (by omega)]
    simp [intL, List.getD_eq_getElem?_getD, show j < zs.length by omega]
  · rintro e' w' ⟨v', rfl, ho, _, hb⟩
    refine ⟨v', rfl, ?_, hb⟩
    have := Own.of_row ho
    rw [e, List.take_length] at this
    rw [← ints_intL]
    exact this

set_option maxHeartbeats 4000000 in
set_option maxRecDepth 100000 in
theorem close_any (p : Fp) (sv pv : Value) (pvs : List Value) (pl : List (List Int)) (cnt : Nat) (idx low prt : Nat → Nat) (t b : List Nat) (v : Nat) (X : List Asr) (w : World) (hvt : v ∉ t) (hlt : ∀ u ∈ v :: t, u < p.n) (hn : p.n ≤ 262144) (hsl : t.length + 1 + b.length ≤ 262144) (hpl : pl.length ≤ 262144) (hB : p.B ≤ w.heap.size)
    (h : Sep w (FinL p sv pv pvs pl cnt idx low prt (t ++ v :: b) ++ X)) :
    Calls Try.prog 66 #[.pointer (some ⟨p.F, 0, none⟩), .int .i64 v] w fun e w' => e = .returned (.tuple #[]) ∧ ∃ sv' pv' pvs', Sep w' (FinL p sv' pv' pvs' (pl ++ [sortN (v :: t.reverse)]) cnt idx low (fun u => if u ∈ v :: t then pl.length + 1 else prt u) b ++ X) ∧ Below p.B w w' := by
  obtain ⟨zs, hzs⟩ : ∃ zs, (t ++ v :: b).reverse = zs := ⟨_, rfl⟩
  have hz2 : zs = b.reverse ++ v :: t.reverse := by rw [← hzs]; simp
  obtain ⟨m, hm⟩ : ∃ m, zs.length = m := ⟨_, rfl⟩
  have hmk : m = b.length + 1 + t.length := by rw [← hm, hz2]; simp; omega
  have hO := h.own 6 (rfl : (FinL p sv pv pvs pl cnt idx low prt (t ++ v :: b) ++ X)[6]? = some (oI p.B 3 sv (intC (t ++ v :: b).reverse)))
  rw [hzs] at hO
  obtain ⟨g, c, hsv⟩ := hO.slice (by simp [intC]; omega)
  rw [show (intC zs).length = m by simp [intC, hm]] at hsv
  subst hsv
  have HAt : Hd (∀ k, b.length ≤ k → k < m → ∃ x : Nat, w.cell? ⟨g, k, none⟩ = some (.int .i64 (x : Int)) ∧ (x = v ↔ k = b.length)) := ⟨fun k h1 h2 => by
    have hk : k < zs.length := by omega
    refine ⟨zs[k], (hO.at (intC_at hk)).1, ?_⟩
    subst hz2
    constructor
    · intro e
      refine Decidable.byContradiction fun hne => hvt ?_
      rw [List.getElem_append_right (by simp; omega)] at e
      obtain ⟨q, hq⟩ : ∃ q, k - b.reverse.length = q + 1 := ⟨k - b.reverse.length - 1, by simp; omega⟩
      simp only [hq, List.getElem_cons_succ] at e
      have := List.getElem_mem (l := t.reverse) (n := q) (by simp at hk ⊢; simp at hq; omega)
      rw [e] at this
      exact List.mem_reverse.1 this
    · intro e
      subst e
      rw [List.getElem_append_right (by simp)]
      simp⟩
  have hFs := Fin.cells h
  have f3 := hFs.f3
  have H := Hd.mk h
  have HO := Hd.mk hO
  have hm1 : IntKind.i64.wrap ((m : Int) - 1) = ((m - 1 : Nat) : Int) := by rw [IntWalk.i64_in _ (by omega)]; omega
  obtain ⟨kb, hkb⟩ : ∃ kb, b.length = kb := ⟨_, rfl⟩
  rw [hkb] at HAt hmk hsl
  have HN := Hd.mk (And.intro hmk (And.intro hm (And.intro hkb (And.intro hz2 hzs))))
  clear h hO hFs hmk hm hkb hz2 hzs
  go_enter Try.func66, Try.ntmps66
  go_wp2
  go_loopw [4] (fun i wr => (∃ k : Nat, kb ≤ k ∧ k < m ∧ i = .int .i64 (k : Int)) ∧ w = wr) (fun i _ => (intOf i).toNat)
  case atStart => exact ⟨⟨m - 1, by have := HN.out.1; omega, by have := HN.out.1; omega, rfl⟩, rfl⟩
  case round =>
    obtain ⟨⟨k, hk1, hk2, rfl⟩, rfl⟩ := hrel
    obtain ⟨x, hc, hx⟩ := HAt.out k hk1 hk2
    by_cases e : k = kb
    · have ex := hx.2 e
      subst e ex
      clear hx
      have hmc : m ≤ c := by
        rcases HO.out.is with ⟨e', _⟩ | ⟨g', cap, e', _, h1, _⟩
        · cases e'
        · have e2 := HN.out.2.1
          injection e' with _ _ e'; subst e'
          simp only [intC, List.length_map] at h1; omega
      have hkc : ¬ c = k := by omega
      have hkc2 : ¬ k = c := by omega
      have H1 := Hd.mk (clone_own w g k (m - k) (c - k) (x :: t.reverse) (by have := HN.out.1; simp; omega) (by have := HN.out.1; simp; omega) (fun j hj => by
        have e2 := HN.out.2.2.2.1
        have hkl : k + j < zs.length := by have := HN.out.1; have := HN.out.2.1; simp at hj; omega
        rw [(HO.out.at (intC_at hkl)).1]
        subst e2
        rw [List.getElem_append_right (by have := HN.out.2.2.1; simp; omega)]
        simp only [List.length_reverse, HN.out.2.2.1, Nat.add_sub_cancel_left]))
      go_wp2_with fail
      refine H1.out.mono ?_
      rintro e w1 ⟨v1, rfl, hO1, hB1⟩
      obtain ⟨g1, c1, hv1⟩ := hO1.slice (by simp [intC])
      rw [show (intC (x :: t.reverse)).length = t.length + 1 by simp [intC]] at hv1
      subst hv1
      have hS1 := H.out.new_own (Keeps.of_below hB1 (fun k h1 h2 => by omega)) (hO1.down hB) (fun g hg => (hO1.lt hg).1)
      have hF1 := Fin.cells (X := X ++ [_]) hS1
      have f3' := hF1.f3
      have z3' := hF1.ff 3
      have h2 : Sep (w1.setCell ⟨p.F, 3, none⟩ (.slice (some ⟨g, 0, none⟩) k c)) ((FinL p (.slice (some ⟨g, 0, none⟩) k c) pv pvs pl cnt idx low prt b ++ X) ++ [oI p.B 3 (.slice (some ⟨g1, 0, none⟩) (t.length + 1) c1) (intC (x :: t.reverse))]) := by
        have hp := (HO.out.below hB1).pre (k := k) (by have := HN.out.1; have := HN.out.2.1; simp [intC]; omega)
        have e : (intC zs).take k = intC b.reverse := by
          rw [HN.out.2.2.2.1, ← HN.out.2.2.1]
          simp [intC]
        rw [e] at hp
        have hh := (hS1.put_own 6 rfl (Keeps.refl _ w1) hp (.inl rfl)).set_blk 0 rfl 3 (.slice (some ⟨g, 0, none⟩) k c)
        exact hh
      have HB2 : Hd (Below p.B w (w1.setCell ⟨p.F, 3, none⟩ (.slice (some ⟨g, 0, none⟩) k c))) := ⟨(Keeps.of_below (S := fun k => p.B ≤ k) (hB1) (fun k h1 h2 => by omega)).setCell (p := ⟨p.F, 3, none⟩) (.inr (Fin.bs H.out).1) _ |>.below hB (fun k h1 h2 => by omega)⟩
      have H2 := Hd.mk h2
      clear H1 hO1 hF1 hB1 hS1 h2
      go_wp2_with fail
      clear f3' z3' HO f3 hc
      generalize w1.setCell ⟨p.F, 3, none⟩ (.slice (some ⟨g, 0, none⟩) k c) = w2 at H2 HB2 ⊢
      clear w1
      obtain ⟨S, hS1, hS2, hS3⟩ := sortN_nat (x :: t.reverse)
      have hso := sort_own w2 p.B (.slice (some ⟨g1, 0, none⟩) (t.length + 1) c1) (intL (x :: t.reverse)) (by have := HN.out.1; simp [intL]; omega) (H2.out.own _ (last_get _ _) |>.cast (ints_intL _).symm)
      have HSo := Hd.mk hso
      clear hso
      refine HSo.out.mono ?_
      rintro e w3 ⟨rfl, hO3, hK3⟩
      have h3 := H2.out.put_last hK3 (l' := ints (intL S)) (hO3.cast (by rw [← hS1]; rfl)) (.inl rfl)
      have HB3 : Hd (Below p.B w w3) := ⟨HB2.out.trans (hK3.below (Nat.le_trans hB HB2.out.size) (fun k h1 h2 => by have := ((H2.out.own _ (last_get _ _)).lt h2).1; omega))⟩
      have HS := Hd.mk (And.intro hS1 (And.intro hS2 hS3))
      have H3 := Hd.mk h3
      clear HSo hO3 hK3 h3 hS1 hS2 hS3 H2 HB2
      clear w2
      obtain ⟨f0, f1, f2, f3, f4, f5, c0, ff, cf⟩ := Fin.cells (X := X ++ [_]) H3.out
      have f5a := (Fin.cells (X := X ++ [_]) (H3.out.alloc (.cells #[.slice (some ⟨g1, 0, none⟩) (t.length + 1) c1] 44))).f5
      obtain ⟨i0, hi0, hz0, hz1, hz2⟩ := info_parts infoInts
      have HI0 := Hd.mk (And.intro hi0 (And.intro hz0 (And.intro hz1 hz2)))
      have HP := Hd.mk (H3.out.rows 7 rfl).own
      have HPl := Hd.mk (H3.out.rows 7 rfl).len
      have ff5 := ff 5
      clear f0 f1 f2 f3 f4 c0 ff cf hi0 hz0 hz1 hz2
      go_wp2_with (at_builtin; refine wp_app1 rfl _ _ 51 rfl 44 Try.underlying51 HI0.out.1 HI0.out.2.1 HI0.out.2.2.1 HI0.out.2.2.2 rfl pv pvs _ w3 rfl HP.out rfl rfl (by have := HPl.out; unfold maxLen; omega) (by have := HPl.out; omega) (Nat.le_trans hB HB3.out.size) ?_)
      intro v' w4 h1 h2 h3
      obtain ⟨q4, c4, hv4⟩ := h1.slice'
      obtain ⟨n4, hn4⟩ : ∃ n4, (pvs ++ [Value.slice (some ⟨g1, 0, none⟩) (t.length + 1) c1]).length = n4 := ⟨_, rfl⟩
      rw [hn4] at hv4
      subst hv4
      have hp := H3.out.push_rows (t := 7) rfl h1 h2 h3
      have hp2 := hp.set_blk 0 rfl 5 (.slice q4 n4 c4)
      have hb4 := hp.blk 0 rfl
      have f5b := hb4.at (j := 5) rfl
      have ff5b := hb4.free 5
      have hB5 : Below p.B w (w4.setCell ⟨p.F, 5, none⟩ (.slice q4 n4 c4)) := HB3.out.trans (((h2.mono (S' := fun g => p.B ≤ g) (fun g _ hg => (HP.out.lt hg).1)).setCell (p := ⟨p.F, 5, none⟩) (.inr (Fin.bs (X := X ++ [_]) H3.out).1) _).below (Nat.le_trans hB HB3.out.size) (fun k h1 h2 => by omega))
      have H5 : Hd (Sep (w4.setCell ⟨p.F, 5, none⟩ (.slice q4 n4 c4)) (FinL p (.slice (some ⟨g, 0, none⟩) k c) (.slice q4 n4 c4) (pvs ++ [.slice (some ⟨g1, 0, none⟩) (t.length + 1) c1]) (pl ++ [intL S]) cnt idx low prt b ++ X)) := ⟨hp2⟩
      have HB5 := Hd.mk hB5
      have HN4 := Hd.mk hn4
      clear h1 h2 h3 hp hp2 hb4 hB5 hn4 f5 f5a ff5
      go_wp2_with fail
      generalize w4.setCell ⟨p.F, 5, none⟩ (.slice q4 n4 c4) = w5 at H5 HB5 ⊢
      clear f5b ff5b H3 HB3 HP
      clear w4
      go_loopw [55] (fun i wr => ∃ j : Nat, j ≤ t.length + 1 ∧ i = .int .i64 (j : Int) ∧ Hd (Sep wr (FinL p (.slice (some ⟨g, 0, none⟩) k c) (.slice q4 n4 c4) (pvs ++ [.slice (some ⟨g1, 0, none⟩) (t.length + 1) c1]) (pl ++ [intL S]) cnt idx low (setS (S.take j) n4 prt) b ++ X)) ∧ Hd (Below p.B w wr)) (fun i _ => t.length + 1 - (intOf i).toNat)
      case atStart => exact ⟨0, Nat.zero_le _, rfl, H5, HB5⟩
      case round =>
        clear H5 HB5 w5
        obtain ⟨j, hj, rfl, HM, HK⟩ := hrel
        by_cases hlt2 : j < t.length + 1
        · have hd1 : decide ((j : Int) < ((t.length : Int) + 1)) = true := by simp; omega
          have hjS : j < S.length := by have := HS.out.2.1; simp at this; omega
          have hcell := ((HM.out.rows 7 rfl).last HPl.out).at (j := j) (u := .int .i64 (S[j] : Int)) (by rw [ints_intL]; exact intC_at hjS)
          have hSn : S[j] < p.n := hlt _ (by have := (HS.out.2.2 S[j]).1 (List.getElem_mem hjS); simpa using this)
          obtain ⟨y, hy⟩ : ∃ y, S[j] = y := ⟨_, rfl⟩
          have HSet := Hd.mk (setS_next S n4 prt hjS)
          rw [hy] at hcell hSn HSet
          have c1' := hcell.1
          have hset := Fin.setP HM.out hSn n4
          rw [HSet.out] at hset
          have HSet2 := Hd.mk hset
          obtain ⟨p0, p1⟩ := Fin.prtAt HM.out hSn
          have hc4 : ∀ {w' : World} {prt' : Nat → Nat}, Sep w' (FinL p (.slice (some ⟨g, 0, none⟩) k c) (.slice q4 n4 c4) (pvs ++ [.slice (some ⟨g1, 0, none⟩) (t.length + 1) c1]) (pl ++ [intL S]) cnt idx low prt' b ++ X) → w'.cell? ⟨p.F, 4, none⟩ = some (.slice (some ⟨p.gp, 0, none⟩) p.n p.n) ∧ w'.cell? ⟨p.F, 5, none⟩ = some (.slice q4 n4 c4) := fun h => ⟨(Fin.cells h).f4, (Fin.cells h).f5⟩
          have S1 := Hd.mk (hc4 HM.out.drew)
          have S2 := Hd.mk (hc4 HSet2.out)
          have HBy : Hd (Below p.B w (wr.setCell ⟨p.gp, y, none⟩ (.int .i64 (n4 : Int)))) := ⟨HK.out.trans (((Keeps.refl (fun g => p.B ≤ g) wr).setCell (p := ⟨p.gp, y, none⟩) (.inr (Fin.bs HM.out).2.2.2.2.1) _).below (Nat.le_trans hB HK.out.size) (fun k h1 h2 => by omega))⟩
          clear hcell hset HSet hc4 hy
          have hms : t.length + 1 - (intOf (.int .i64 ((j : Int) + 1))).toNat < t.length + 1 - (intOf (.int .i64 (j : Int))).toNat := by simp [intOf]; omega
          go_upto_region 10 with (fail)
          refine wp_region_lin default (fun w' => w'.cell? ⟨p.F, 4, none⟩ = some (.slice (some ⟨p.gp, 0, none⟩) p.n p.n) ∧ w'.cell? ⟨p.F, 5, none⟩ = some (.slice q4 n4 c4)) [(0, true), (1, true), (2, true), (3, true), (4, true), (5, true), (6, true), (7, true), (8, true), (9, true), (10, true), (11, false)] (by kernel_rfl) (by kernel_rfl) rfl (by kernel_rfl) (by kernel_rfl) S1.out ?_
          simp only [pick, List.getD_cons_zero, List.getD_cons_succ]
          repeat
            refine lin_free (v := ?_) (by rfl) ?_ ?_
            rotate_left
            · intro w' hSw
              obtain ⟨d0, d1⟩ := hSw
              go_simp
              first | done | with_reducible rfl
            simp only [Act.put, List.setIfInBounds_toArray, List.set_cons_zero, List.set_cons_succ]
          refine lin_bound (fun K hK => ?_)
          go_simp
          refine hK.out _ _ S2.out ?_
          clear hK K
          refine NoPanic.normal ?_
          have HX2 : Hd (Sep (wr.setCell ⟨p.gp, y, none⟩ (.int .i64 (n4 : Int))).drew _) := Hd.mk HSet2.out.drew
          have HBy2 : Hd (Below p.B w (wr.setCell ⟨p.gp, y, none⟩ (.int .i64 (n4 : Int))).drew) := ⟨HBy.out.trans (((Keeps.refl (fun _ => False) _).drew).below (Nat.le_trans hB HBy.out.size) (fun _ _ h => h))⟩
          clear S1 S2 HSet2 HBy p0 p1 c1' HM HK
          generalize (wr.setCell ⟨p.gp, y, none⟩ (.int .i64 (n4 : Int))).drew = w6 at HX2 HBy2 ⊢
          go_wp2
          go_roundw
          case rel => exact ⟨j + 1, hlt2, by go_num, HX2, HBy2⟩
          case measure => exact hms
        · have hd1 : decide ((j : Int) < ((t.length : Int) + 1)) = false := by simp; omega
          go_wp2
          go_end0
          have hj1 : j = S.length := by have := HS.out.2.1; simp at this; omega
          have hn4 : n4 = pl.length + 1 := by rw [← HN4.out, ← HPl.out]; simp
          have hMo := HM.out
          rw [hj1, List.take_length, ← HS.out.1] at hMo
          have e : setS S n4 prt = fun u => if u ∈ x :: t then pl.length + 1 else prt u := by
            funext u
            have : u ∈ S ↔ u ∈ x :: t := by rw [HS.out.2.2]; simp
            simp only [setS, this, hn4]
          rw [e] at hMo
          exact ⟨rfl, _, _, _, hMo, HK.out⟩
    · have ex : ¬ x = v := fun h => e (hx.1 h)
      have ex2 : ((x : Int) != (v : Int)) = true := by simp; omega
      have hk3 : IntKind.i64.wrap ((k : Int) - 1) = ((k - 1 : Nat) : Int) := by have := HN.out.1; rw [IntWalk.i64_in _ (by omega)]; omega
      clear hx
      go_wp2
      exact ⟨⟨⟨k - 1, by omega, by omega, rfl⟩, trivial⟩, by simp [intOf]; omega⟩

end Go.Proofs.Ytmgkoocpnakanaa.W
