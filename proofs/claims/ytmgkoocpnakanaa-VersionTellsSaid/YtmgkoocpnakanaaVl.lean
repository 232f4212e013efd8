import Derived.Test.YtmgkoocpnakanaaWyP
import Derived.Test.YtmgkoocpnakanaaVs
import Derived.Sort.OwnSorted
import Derived.Sort.KeysCollected
import Derived.Maps.RangeWalk
import Derived.Sort.Walk0
/-
  A row of arcs of the call's own. (As in Graph's law of the same name.)
-/
namespace Go.Proofs.Ytmgkoocpnakanaa.W
open Go.RowKit
set_option linter.unusedVariables false

theorem infoArc : (Try.prog.info? 42).map (fun i => (i.zero, i.size, i.bytes)) = some (some (.agg #[.int .i64 0, .int .i64 0]), 2, 16) := by kernel_rfl
theorem flat_at : ∀ (xs : List Arc) (j i : Nat) (x : Arc) (u : Value), xs[j]? = some x → x.cells[i]? = some u → (xs.flatMap Arc.cells)[j * 2 + i]? = some u
  | [], j, i, x, u, h1, h2 => by simp at h1
  | a :: r, 0, i, x, u, h1, h2 => by
    have hi : i < 2 := (List.getElem?_eq_some_iff.1 h2).1
    simp only [List.getElem?_cons_zero, Option.some.injEq] at h1
    subst h1
    rw [List.flatMap_cons, Nat.zero_mul, Nat.zero_add, List.getElem?_append_left hi]
    exact h2
  | a :: r, j + 1, i, x, u, h1, h2 => by
    rw [List.flatMap_cons, List.getElem?_append_right (by show 2 ≤ _; omega), show (j + 1) * 2 + i - a.cells.length = j * 2 + i by show (j + 1) * 2 + i - 2 = _; omega]
    exact flat_at r j i x u (by simpa using h1) h2
theorem flat_len (xs : List Arc) : (xs.flatMap Arc.cells).length = xs.length * 2 := by
  induction xs with
  | nil => rfl
  | cons a r ih => rw [List.flatMap_cons, List.length_append, ih, List.length_cons]; show 2 + _ = _; omega
theorem flat_one {xs : List Arc} {u : Value} (h : u ∈ xs.flatMap Arc.cells) : u.oneCell' = true := by
  obtain ⟨a, _, hu⟩ := List.mem_flatMap.1 h
  simp only [Arc.cells, List.mem_cons, List.not_mem_nil, or_false] at hu
  rcases hu with rfl | rfl <;> rfl
theorem addr_add0 (g o j : Nat) : (⟨g, o, none⟩ : Addr).add j = ⟨g, o + j, none⟩ := by unfold Addr.add; split <;> simp_all

theorem row_rw {w : World} {B : Nat} {v : Value} {n : Nat} {xs : List Arc} (h : w.ownsRow B 42 2 v n (xs.flatMap Arc.cells)) : Rw 2 Arc.E w v xs := by
  have hn : n = xs.length := by have := h.1; rw [flat_len] at this; omega
  have hl := h.lt
  rcases h.2 with ⟨rfl, h0⟩ | ⟨g, cap, cur, rfl, _⟩
  · exact ⟨.inl ⟨List.eq_nil_of_length_eq_zero (by omega), .inl rfl⟩⟩
  · refine ⟨.inr ⟨g, 0, cap, by rw [hn], (hl g rfl).2, fun j x hx => ⟨x.cells, rfl, rfl, fun i u hu => ?_⟩⟩⟩
    have := h.cells (g := g) rfl (j * 2 + i) u (flat_at xs j i x u hx hu)
    rw [addr_add0] at this
    rw [Nat.zero_add] at this ⊢
    exact this

theorem arc_push {w : World} {B : Nat} {cv : Value} {n : Nat} {r : List Arc} (f t : Int) (h : w.ownsRow B 42 2 cv n (r.flatMap Arc.cells)) (hn : n + 1 ≤ 1000000) (hB : B ≤ w.heap.size) :
    ∃ v' w', (Builtin.append_ #[38, 38] 38 #[cv, .slice (some ⟨w.heap.size, 0, none⟩) 1 1]).run Try.prog (w.alloc (.cells #[.int .i64 f, .int .i64 t] 42)) = .ok v' w' ∧ w'.ownsRow B 42 2 v' (n + 1) ((r ++ [(⟨f, t⟩ : Arc)]).flatMap Arc.cells) ∧ Below B w w' ∧ Keeps (fun g => cv.ownBlock = some g) w w' ∧ (v'.ownBlock = cv.ownBlock ∨ ∃ g, v'.ownBlock = some g ∧ w.heap.size ≤ g) := by
  obtain ⟨i0, hi, hz, hz1, hz2⟩ := info_parts infoArc
  have hbk := Blk.new w 42 [.int .i64 f, .int .i64 t]
  obtain ⟨v', w', h1, h2, h3, _, h5⟩ := run_append_own_at (P := Try.prog) (w := w.alloc (.cells #[.int .i64 f, .int .i64 t] 42)) B 38 38 42 i0 _ 2 16 Try.underlying38 hi hz hz1 hz2 rfl (by decide) cv n (r.flatMap Arc.cells) (h.alloc _) ⟨w.heap.size, 0, none⟩ 1 1 [.int .i64 f, .int .i64 t] rfl (fun j u hj => by
    rw [addr_add0, Nat.zero_add]; exact hbk.at hj) (fun u hu => by simp at hu; rcases hu with rfl | rfl <;> rfl) (by unfold maxLen; omega) (by omega) (by simp; omega)
  have hlt := h.lt
  have hk : Keeps (fun g => cv.ownBlock = some g) w w' := ((Keeps.refl _ w).alloc _).trans ⟨h3.os, h3.tape, h3.output, h3.size, fun k hk hn => h3.block k hk (fun c => hn c.symm)⟩
  refine ⟨v', w', h1, by rw [List.flatMap_append]; exact h2, hk.below hB (fun g h1 h2 => by have := (hlt g h2).1; omega), hk, ?_⟩
  rcases h5 with h5 | h5
  · exact .inl h5
  · exact .inr ⟨_, h5, by simp⟩

theorem arcs_app {w : World} {B : Nat} {cv v : Value} {n : Nat} {r arcs : List Arc} (h : w.ownsRow B 42 2 cv n (r.flatMap Arc.cells)) (hA : Rw 2 Arc.E w v arcs) (hn : n + arcs.length ≤ 1000000) (hB : B ≤ w.heap.size) :
    ∃ v' w', (Builtin.append_ #[38, 38] 38 #[cv, v]).run Try.prog w = .ok v' w' ∧ w'.ownsRow B 42 2 v' (n + arcs.length) ((r ++ arcs).flatMap Arc.cells) ∧ Below B w w' := by
  obtain ⟨i0, hi, hz, hz1, hz2⟩ := info_parts infoArc
  have hlt := h.lt
  have key : ∀ (a : Addr) (c : Nat), v = .slice (some a) arcs.length c → (∀ j u, (arcs.flatMap Arc.cells)[j]? = some u → w.cell? (a.add j) = some u) → ∃ v' w', (Builtin.append_ #[38, 38] 38 #[cv, v]).run Try.prog w = .ok v' w' ∧ w'.ownsRow B 42 2 v' (n + arcs.length) ((r ++ arcs).flatMap Arc.cells) ∧ Below B w w' := fun a c hv hc => by
    subst hv
    obtain ⟨v', w', h1, h2, h3, _, h5⟩ := run_append_own_at (P := Try.prog) (w := w) B 38 38 42 i0 _ 2 16 Try.underlying38 hi hz hz1 hz2 rfl (by decide) cv n (r.flatMap Arc.cells) h a arcs.length c (arcs.flatMap Arc.cells) (flat_len arcs) hc (fun u hu => flat_one hu) (by unfold maxLen; omega) (by omega) hB
    refine ⟨v', w', h1, by rw [List.flatMap_append]; exact h2, ?_⟩
    have hk : Keeps (fun g => cv.ownBlock = some g) w w' := ⟨h3.os, h3.tape, h3.output, h3.size, fun k hk hn => h3.block k hk (fun c => hn c.symm)⟩
    exact hk.below hB (fun g h1 h2 => by have := (hlt g h2).1; omega)
  rcases hA.is with ⟨rfl, rfl | ⟨a, c, rfl⟩⟩ | ⟨g, o, cap, rfl, hg, hc⟩
  · have hcv : ∃ p c, cv = .slice p n c ∧ n ≤ c := by
      rcases h.2 with ⟨rfl, rfl⟩ | ⟨g, cap, cur, rfl, _, _, h4, _⟩
      · exact ⟨none, 0, rfl, Nat.le_refl _⟩
      · exact ⟨_, cap, rfl, h4⟩
    obtain ⟨p, c, rfl, hle⟩ := hcv
    refine ⟨_, _, run_append_nothing (P := Try.prog) w 38 38 38 42 i0 Try.underlying38 hi p n c hle (.slice none 0 0) (Src.ofNil w Try.underlying38 0), ?_, Below.refl _ _⟩
    rw [List.append_nil]; exact h
  · exact key a c rfl (fun j u hj => by simp at hj)
  · refine key ⟨g, o, none⟩ cap rfl (fun j u hj => ?_)
    rw [addr_add0]
    have hj2 : j < arcs.length * 2 := by rw [← flat_len]; exact (List.getElem?_eq_some_iff.1 hj).1
    obtain ⟨x, hx⟩ : ∃ x, arcs[j / 2]? = some x := ⟨_, List.getElem?_eq_getElem (by omega)⟩
    obtain ⟨cs, h1, h2, h3⟩ := hc (j / 2) _ hx
    have h2' : cs = x.cells := h2
    subst h2'
    have hjj : j / 2 * 2 + j % 2 = j := by omega
    have hm : j % 2 < 2 := by omega
    obtain ⟨u', hu'⟩ : ∃ u', x.cells[j % 2]? = some u' := ⟨_, List.getElem?_eq_getElem (show j % 2 < 2 from hm)⟩
    have h5 := h3 (j % 2) u' hu'
    have h6 := flat_at arcs (j / 2) (j % 2) _ u' hx hu'
    rw [hjj] at h6
    rw [h6] at hj
    cases hj
    rw [show o + j / 2 * 2 + j % 2 = o + j by omega] at h5
    exact h5


end Go.Proofs.Ytmgkoocpnakanaa.W

/-
  version's Right.
-/
namespace Go.Proofs.Ytmgkoocpnakanaa.W
open Go.RowKit Go.Maps Go.WideMaps
set_option linter.unusedVariables false

theorem MapAt.below {w w' : World} {b B : Nat} {kv : List (ByteArray × Value)} (h : MapAt w b kv) (k : Below B w w') (hb : b < B) : MapAt w' b kv := by
  obtain ⟨D, ⟨es, clock, hk, F, hn, hD⟩, h2, h3⟩ := h.is
  exact ⟨D, ⟨es, clock, (k.block b hb).trans hk, F, hn, hD⟩, h2, h3⟩
theorem len_sub {α : Type} : ∀ (L M : List α), L.Nodup → (∀ x ∈ L, x ∈ M) → L.length ≤ M.length
  | [], _, _, _ => Nat.zero_le _
  | a :: r, M, hn, hs => by
    obtain ⟨s, t, rfl⟩ := List.append_of_mem (hs a List.mem_cons_self)
    rw [List.nodup_cons] at hn
    have := len_sub r (s ++ t) hn.2 (fun x hx => by
      have := hs x (List.mem_cons_of_mem _ hx)
      simp only [List.mem_append, List.mem_cons] at this ⊢
      rcases this with h | h | h
      · exact .inl h
      · exact absurd (h ▸ hx) hn.1
      · exact .inr h)
    simp at this ⊢
    omega
theorem has_size {D : DataW Value} (h : IsMap D) (L : List Lit) (hn : L.Nodup) (hh : ∀ x ∈ L, has D x = true) : L.length ≤ size D := by
  obtain ⟨es, rfl⟩ := h
  have := len_sub L (es.map (·.1)) hn (fun x hx => by
    have := hh x hx
    rw [has_eq, List.any_eq_true] at this
    obtain ⟨p, hp, e⟩ := this
    exact List.mem_map.2 ⟨p, hp, WideAt.sameKey_eq e⟩)
  rw [List.length_map] at this
  exact this
theorem keyL_inj {a b : ByteArray} (h : keyL a = keyL b) : a = b := Classical.byContradiction fun hn => keyL_ne hn h
theorem nodup_keyL {L : List ByteArray} (h : L.Nodup) : (L.map keyL).Nodup := by
  unfold List.Nodup at h ⊢
  rw [List.pairwise_map]
  exact h.imp fun h e => h (keyL_inj e)
/-- 'len(m)' of the index tells whether the names are different -/
theorem idx_len {l : List Vdf} {kv : List (ByteArray × Value)} {w : World} {b : Nat} (h : MapAt w b kv) (hI : Idx l l.length kv) {t e : TypeId} (ht : Try.prog.underlying t = some (.map 9 e)) (ty : TypeId) :
    ∃ n : Nat, (Builtin.len_ #[t] ty #[.map (some b)]).run Try.prog w = .ok (.int .i64 (n : Int)) w ∧ (n = l.length ↔ (l.map (·.name)).Nodup) := by
  obtain ⟨D, hown, hm, hh, _⟩ := h.is
  refine ⟨size D, hown.len ht ty, fun hs => ?_, fun hn => ?_⟩
  · have h1 := hown.size_le
    have h2 := hI.len
    have := hI.nod.1 (by omega)
    rw [List.take_of_length_le (Nat.le_refl _)] at this
    exact this
  · have h1 := hown.size_le
    have h2 := hI.len
    have h3 := has_size hm _ (nodup_keyL hn) (fun x hx => by
      obtain ⟨s, hs, rfl⟩ := List.mem_map.1 hx
      rw [hh, hI.look]
      rcases hf : firstI (l.take l.length) s with _ | i
      · rw [List.take_of_length_le (Nat.le_refl _), firstI_none] at hf; exact absurd hs hf
      · rfl)
    simp at h3
    omega

def parI (l : List Vdf) (i : Nat) : List ByteArray := (l[i]?.map (·.parents)).getD []
def rowA (l : List Vdf) (i : Nat) (ps : List ByteArray) : List Arc := ps.map fun p => ⟨(i : Int), (((firstI l p).getD 0 : Nat) : Int)⟩
def arcsU (l : List Vdf) (k : Nat) : List Arc := (List.range k).flatMap fun i => rowA l i (parI l i)
theorem arcsU_succ (l : List Vdf) (k : Nat) : arcsU l (k + 1) = arcsU l k ++ rowA l k (parI l k) := by
  unfold arcsU; rw [List.range_succ, List.flatMap_append]; simp
theorem rowA_snoc {l : List Vdf} {i j : Nat} {P : List ByteArray} (h : j < P.length) : rowA l i (P.take (j + 1)) = rowA l i (P.take j) ++ [⟨(i : Int), (((firstI l P[j]).getD 0 : Nat) : Int)⟩] := by
  unfold rowA; rw [List.take_add_one, List.getElem?_eq_getElem h, List.map_append]; rfl
/-- the declaration is right by itself -/
structure DOk (l : List Vdf) (d : Vdf) : Prop where
  name : nmB d.name = true
  nod : d.parents.Nodup
  par : ∀ p ∈ d.parents, firstI l p ≠ none
structure VRight (l : List Vdf) : Prop where
  nod : (l.map (·.name)).Nodup
  ok : ∀ d ∈ l, DOk l d
  loop : loopQ (l.length : Int) (arcsU l l.length) = []
noncomputable def rightV (l : List Vdf) : Bool := @decide (VRight l) (Classical.propDecidable _)
theorem rightV_iff {l : List Vdf} : rightV l = true ↔ VRight l := by
  unfold rightV
  exact @decide_eq_true_iff _ (Classical.propDecidable _)
theorem rightV_no {l : List Vdf} (h : ¬ VRight l) : rightV l = false := by
  rcases hr : rightV l with _ | _
  · rfl
  · exact absurd (rightV_iff.1 hr) h

/-- the blocks that a row of arcs has -/
theorem ownsRow_kp {S : Nat → Prop} {w w' : World} {B m n : Nat} {e : TypeId} {v : Value} {us : List Value} (h : w.ownsRow B e m v n us) (k : Keeps S w w') (hs : ∀ g, v.ownBlock = some g → ¬ S g) : w'.ownsRow B e m v n us := by
  have hl := h.lt
  refine ⟨h.1, h.2.imp_right ?_⟩
  rintro ⟨g, cap, cur, rfl, hb, hg, rest⟩
  exact ⟨g, cap, cur, rfl, hb, by rw [k.block g (hl g rfl).2 (hs g rfl)]; exact hg, rest⟩
theorem nodup_at {α : Type} {P : List α} (h : P.Nodup) {j : Nat} (hj : j < P.length) : P[j] ∉ P.take j := fun hm => by
  obtain ⟨i, hi, e⟩ := List.mem_take_iff_getElem.1 hm
  rw [Nat.lt_min] at hi
  unfold List.Nodup at h
  have := List.pairwise_iff_getElem.1 h i j hi.2 hj hi.1
  exact this e
def Apart (v : Value) (d : Nat) : Prop := ∀ g, v.ownBlock = some g → g < d ∨ d + 1 < g

set_option maxHeartbeats 4000000 in
set_option maxRecDepth 100000 in
theorem right_any (w : World) (v : Value) (l : List Vdf) (h : Rw 2 Vdf.E w v l) (hOk : VOk l) :
    Calls Try.prog 11 #[v] w fun e w' => e = .returned (.bool (rightV l)) ∧ Below w.heap.size w w' := by
  obtain ⟨p, c, hv⟩ := h.slice
  obtain ⟨M, hM⟩ : ∃ M, l.length = M := ⟨_, rfl⟩
  rw [hM] at hv
  subst hv
  have HO := Hd.mk hOk
  have HIx := Hd.mk (index_any w (.slice p M c) l h (by have := hOk.len; omega) (fun d hd => by have := hOk.name d hd; unfold maxLen; omega))
  have H := Hd.mk h
  have HM := Hd.mk hM
  have hM12 : M ≤ 12 := by have := hOk.len; omega
  obtain ⟨R, hR⟩ : ∃ R, rightV l = R := ⟨_, rfl⟩
  have HR := Hd.mk hR
  have hmm := @run_makeMap Try.prog
  have gM : decide ((4096 : Int) < (M : Int)) = false := decide_eq_false (by omega)
  rw [hR]
  clear h hM hOk hR
  go_enter Try.func11, Try.ntmps11
  go_wp2_with fail
  refine HIx.out.mono ?_
  rintro e w1 ⟨mb, es, rfl, hab, hMA, hI, b1⟩
  obtain ⟨n, hlen, hn⟩ := idx_len hMA hI Try.underlying36 3
  have HMA := Hd.mk hMA
  have HI := Hd.mk hI
  have HB1 := Hd.mk b1
  have HMb := Hd.mk hMA.lt
  have hnM : n ≤ 12 ∨ True := .inr trivial
  rw [HM.out] at hn
  have HN := Hd.mk hn
  clear hab hMA hI b1 HIx hn hnM
  by_cases hnq : ¬ n = M
  · have g1 : decide ((n : Int) = (M : Int)) = false := decide_eq_false (by omega)
    have HE : Hd (false = R) := ⟨by rw [← HR.out]; exact (rightV_no fun h => hnq (HN.out.2 h.nod)).symm⟩
    go_wp2
    go_ret
    exact ⟨ret_b HE.out, HB1.out⟩
  replace hnq : n = M := Classical.byContradiction hnq
  subst hnq
  have HND := Hd.mk (HN.out.1 rfl)
  have HA0 : Hd (w1.ownsRow w1.heap.size 42 2 (.slice none 0 0) 0 ((arcsU l 0).flatMap Arc.cells)) := ⟨World.ownsRow_nil w1 _ _ _⟩
  have HA1 : Hd ((arcsU l 0).length = 0) := ⟨rfl⟩
  clear HN
  go_wp2
  clear hlen
  go_loopw [24, 4] (fun kv av wr => ∃ (k nA : Nat), k ≤ n ∧ kv = .int .i64 (k : Int) ∧ Hd (wr.ownsRow w1.heap.size 42 2 av nA ((arcsU l k).flatMap Arc.cells)) ∧ Hd (nA ≤ k * 6) ∧ Hd (∀ d ∈ l.take k, DOk l d) ∧ Hd (Below w1.heap.size w1 wr)) (fun kv _ _ => n - (intOf kv).toNat)
  case atStart => exact ⟨0, 0, Nat.zero_le _, rfl, HA0, ⟨Nat.le_refl _⟩, ⟨fun d hd => by simp at hd⟩, ⟨Below.refl _ _⟩⟩
  case round =>
    clear HA0 HA1
    obtain ⟨k, nA, hk, rfl, HA, HAn, HD, HB⟩ := hrel
    by_cases hlt : k < n
    · have hd1 : decide ((k : Int) < (n : Int)) = true := decide_eq_true (by omega)
      have hmk : n - (intOf (.int .i64 ((k : Int) + 1))).toNat < n - (intOf (.int .i64 (k : Int))).toNat := by simp [intOf]; omega
      have hkq : k < l.length := by rw [HM.out]; exact hlt
      have hW : Below w.heap.size w wr := HB1.out.trans (HB.out.mono HB1.out.size)
      obtain ⟨g, of, cs, hpe, hg, hcl, ⟨pv, rfl, hAt⟩, hcc⟩ := H.out.at rfl (j := k) hkq
      subst hpe
      obtain ⟨P, hP⟩ : ∃ P, l[k].parents = P := ⟨_, rfl⟩
      have hAp := hAt.parents
      rw [hP] at hAp
      obtain ⟨pp, pc, hpv⟩ := hAp.slice
      obtain ⟨PN, hPN⟩ : ∃ PN, P.length = PN := ⟨_, rfl⟩
      rw [hPN] at hpv
      subst hpv
      have hPb := (HO.out.par _ (List.getElem_mem hkq))
      have hXb := (HO.out.name _ (List.getElem_mem hkq))
      rw [hP, hPN] at hPb
      have hno : ∀ h : VRight l, DOk l l[k] := fun h => h.ok _ (List.getElem_mem hkq)
      have hpar : parI l k = P := by unfold parI; rw [List.getElem?_eq_getElem hkq]; exact hP
      have hDn : DOk l l[k] → ∀ d ∈ l.take (k + 1), DOk l d := fun h d hd => by
        rw [List.take_add_one, List.getElem?_eq_getElem hkq] at hd
        rcases List.mem_append.1 hd with hd | hd
        · exact HD.out d hd
        · simp at hd; subst hd; exact h
      have hDe : DOk l l[k] ↔ nmB l[k].name = true ∧ P.Nodup ∧ ∀ p ∈ P, firstI l p ≠ none := by
        rw [← hP]; exact ⟨fun h => ⟨h.name, h.nod, h.par⟩, fun h => ⟨h.1, h.2.1, h.2.2⟩⟩
      obtain ⟨X, hx⟩ : ∃ X, l[k].name = X := ⟨_, rfl⟩
      rw [hx] at hXb hDe
      have d0 : wr.cell? ⟨g, of + k * 2, none⟩ = some (.string X) := by rw [hW.cell (p := ⟨g, of + k * 2, none⟩) hg, ← hx]; exact hcc 0 _ rfl
      have d1 : wr.cell? ⟨g, of + k * 2 + 1, none⟩ = some (.slice pp PN pc) := by rw [hW.cell (p := ⟨g, of + k * 2 + 1, none⟩) hg]; exact hcc 1 _ rfl
      have HAp := Hd.mk hAp
      have HPN := Hd.mk (And.intro hPN hPb)
      have HNo := Hd.mk hno
      have HPar := Hd.mk hpar
      have HDn := Hd.mk hDn
      have HDe := Hd.mk hDe
      have HXb := Hd.mk hXb
      have hPN6 := hPb.1
      obtain ⟨dk, hdk⟩ : ∃ dk, l[k] = dk := ⟨_, rfl⟩
      rw [hdk] at HNo HDn HDe
      have HWs : Hd (w1.heap.size ≤ wr.heap.size) := ⟨HB.out.size⟩
      clear hcc hcl hg hAt hx hP hPN hPb hXb hno hpar hDn hDe hAp hdk hkq hW
      have K : Hd (Keyed Try.prog 9) := ⟨string_keyed Try.underlying9⟩
      obtain ⟨q6, hq6⟩ : ∃ q6, wr.heap.size = q6 := ⟨_, rfl⟩
      have HQ := Hd.mk hq6
      have HI0 : Hd (((wr.alloc (.cells #[.string X, .slice pp PN pc] 32)).alloc (.map #[] 0)).ownsRow w1.heap.size 42 2 u4 nA ((arcsU l k ++ rowA l k (P.take 0)).flatMap Arc.cells) ∧ Apart u4 q6 ∧ SetAt ((wr.alloc (.cells #[.string X, .slice pp PN pc] 32)).alloc (.map #[] 0)) 9 (q6 + 1) ((P.take 0).map keyL) ∧ ((wr.alloc (.cells #[.string X, .slice pp PN pc] 32)).alloc (.map #[] 0)).cell? ⟨q6, 0, none⟩ = some (.string X) ∧ Below w1.heap.size w1 ((wr.alloc (.cells #[.string X, .slice pp PN pc] 32)).alloc (.map #[] 0))) := ⟨by
        subst hq6
        refine ⟨?_, fun g hg => .inl (HA.out.lt g hg).2, ?_, ?_, upv (upv HB.out _) _⟩
        · have e : arcsU l k ++ rowA l k (P.take 0) = arcsU l k := by simp [rowA]
          rw [e]; exact (HA.out.alloc _).alloc _
        · have := SetAt.made (wr.alloc (.cells #[.string X, .slice pp PN pc] 32)) 9
          rw [show (wr.alloc (.cells #[.string X, .slice pp PN pc] 32)).heap.size = wr.heap.size + 1 by simp] at this
          exact this
        · exact ((Blk.new wr 32 [.string X, .slice pp PN pc]).alloc (.map #[] 0)).at (j := 0) rfl⟩
      clear HA
      go_wp2
      clear hmm d0 d1
      go_loopw [33, 4] (fun jv av wq => ∃ (j n2 : Nat), j ≤ PN ∧ jv = .int .i64 (j : Int) ∧ Hd (wq.ownsRow w1.heap.size 42 2 av n2 ((arcsU l k ++ rowA l k (P.take j)).flatMap Arc.cells)) ∧ Hd (n2 ≤ k * 6 + j) ∧ Hd (Apart av q6) ∧ Hd (SetAt wq 9 (q6 + 1) ((P.take j).map keyL)) ∧ Hd ((P.take j).Nodup ∧ ∀ p ∈ P.take j, firstI l p ≠ none) ∧ Hd (wq.cell? ⟨q6, 0, none⟩ = some (.string X)) ∧ Hd (Below w1.heap.size w1 wq ∧ q6 + 1 < wq.heap.size)) (fun jv _ _ => PN - (intOf jv).toNat)
      case atStart => exact ⟨0, nA, Nat.zero_le _, rfl, ⟨HI0.out.1⟩, ⟨by have := HAn.out; omega⟩, ⟨HI0.out.2.1⟩, ⟨HI0.out.2.2.1⟩, ⟨by simp⟩, ⟨HI0.out.2.2.2.1⟩, ⟨HI0.out.2.2.2.2, by have := HI0.out.2.2.1.lt; exact this⟩⟩
      case round =>
        clear HI0
        obtain ⟨j, n2, hj, rfl, HA, HA2, HAp2, HS, HPj, HC, HBq⟩ := hrel
        by_cases hjt : j < PN
        · have hd2 : decide ((j : Int) < (PN : Int)) = true := decide_eq_true (by omega)
          have hmj : PN - (intOf (.int .i64 ((j : Int) + 1))).toNat < PN - (intOf (.int .i64 (j : Int))).toNat := by simp [intOf]; omega
          have hjq : j < P.length := by rw [HPN.out.1]; exact hjt
          obtain ⟨gp, op, e2, hEv⟩ := RS.ever HAp.out (by omega)
          subst e2
          have cj := hEv j hjq wr (HB1.out.trans (HBq.out.1.mono HB1.out.size))
          have hxb := HPN.out.2.2 _ (List.getElem_mem hjq)
          have hxm : P[j] ∈ P := List.getElem_mem hjq
          have hrow := rowA_snoc (l := l) (i := k) hjq
          have htk : P.take (j + 1) = P.take j ++ [P[j]] := by rw [List.take_add_one, List.getElem?_eq_getElem hjq]; rfl
          have hnd := fun h : P.Nodup => nodup_at h hjq
          obtain ⟨x, hx⟩ : ∃ x, P[j] = x := ⟨_, rfl⟩
          rw [hx] at cj hxb hxm hrow htk hnd
          have hz : (zeroValue 3).run Try.prog wr = .ok (.int .i64 0) wr := by kernel_rfl
          have hlook := (HMA.out.below HBq.out.1 HMb.out).look Try.underlying36 hz x (by unfold maxLen; omega)
          have hlk0 := HI.out.look x
          rw [List.take_of_length_le (Nat.le_refl _)] at hlk0
          rw [hlk0] at hlook
          have HXm := Hd.mk hxm
          have HRow := Hd.mk hrow
          have HTk := Hd.mk htk
          have HNd := Hd.mk hnd
          have HXb2 := Hd.mk hxb
          clear hEv hx hjq hz hlk0 hxm hrow htk hnd hxb
          rcases hf : firstI l x with _ | i
          · rw [hf] at hlook
            simp only [Option.map_none, Option.getD_none, Option.isSome_none] at hlook
            have HE : Hd (false = R) := ⟨by rw [← HR.out]; exact (rightV_no fun h => (HDe.out.1 (HNo.out h)).2.2 x HXm.out hf).symm⟩
            have HBe := Hd.mk (HB1.out.trans (HBq.out.1.mono HB1.out.size))
            clear hf HA HA2 HAp2 HS HPj HC HBq
            go_wp2
            go_ret
            exact ⟨ret_b HE.out, HBe.out⟩
          · rw [hf] at hlook
            simp only [Option.map_some, Option.getD_some, Option.isSome_some] at hlook
            have HF := Hd.mk hf
            have HXk : Hd (x.size ≤ 100) := HXb2
            have HKy : Hd (keyOf Try.prog 9 (.string x) = some (keyL x)) := ⟨keyOf_string_mk Try.underlying9 (by have := HXk.out; unfold maxLen; omega)⟩
            have hz2 : (zeroValue 4).run Try.prog wr = .ok (.bool false) wr := by kernel_rfl
            clear hf
            by_cases hin : x ∈ P.take j
            · have hlk := HS.out.look_in K.out Try.underlying39 hz2 HKy.out (List.mem_map.2 ⟨x, hin, rfl⟩)
              have HE : Hd (false = R) := ⟨by rw [← HR.out]; exact (rightV_no fun h => HNd.out (HDe.out.1 (HNo.out h)).2.1 hin).symm⟩
              have HBe := Hd.mk (HB1.out.trans (HBq.out.1.mono HB1.out.size))
              clear hin HA HA2 HAp2 HS HPj HC HBq hz2
              go_wp2
              go_ret
              exact ⟨ret_b HE.out, HBe.out⟩
            · have hlk := HS.out.look_out K.out Try.underlying39 hz2 HKy.out (fun h => by
                obtain ⟨y, hy, e⟩ := List.mem_map.1 h
                exact hin (keyL_inj e ▸ hy))
              obtain ⟨w4, hup, hS4, hK4⟩ := HS.out.store K.out Try.underlying39 (by rw [List.length_map, List.length_take]; unfold maxLen; omega) HKy.out
              have hA4 := ownsRow_kp HA.out hK4 (fun g hg e => by have := HAp2.out g hg; omega)
              have hw1 : w1.heap.size ≤ q6 := by rw [← HQ.out]; exact HWs.out
              have hB4 : Below w1.heap.size w1 w4 := HBq.out.1.trans (hK4.below HBq.out.1.size (fun g hg e => by omega))
              obtain ⟨v', w', hrun, hA5, hb5, hk5, hown5⟩ := arc_push (k : Int) (i : Int) hA4 (by have := HA2.out; omega) hB4.size
              have e1 : ((firstI l x).getD 0 : Nat) = i := by rw [HF.out]; rfl
              have hrow := HRow.out
              rw [e1] at hrow
              have HRun := Hd.mk hrun
              have HA6 : Hd (w'.ownsRow w1.heap.size 42 2 v' (n2 + 1) ((arcsU l k ++ rowA l k (P.take (j + 1))).flatMap Arc.cells)) := ⟨by rw [hrow, ← List.append_assoc]; exact hA5⟩
              have HA62 : Hd (n2 + 1 ≤ k * 6 + (j + 1)) := ⟨by have := HA2.out; omega⟩
              have h46 : wr.heap.size ≤ w4.heap.size := hK4.size
              have HAp6 : Hd (Apart v' q6) := ⟨fun g hg => by
                rcases hown5 with e | ⟨g', e, hg'⟩
                · exact HAp2.out g (e ▸ hg)
                · rw [hg] at e; cases e
                  have := HBq.out.2; omega⟩
              have HS6 : Hd (SetAt w' 9 (q6 + 1) ((P.take (j + 1)).map keyL)) := ⟨by
                rw [HTk.out, List.map_append]
                exact hS4.keeps hk5 (fun e => by have := HAp2.out _ e; omega)⟩
              have HP6 : Hd ((P.take (j + 1)).Nodup ∧ ∀ p ∈ P.take (j + 1), firstI l p ≠ none) := ⟨by
                rw [HTk.out]
                refine ⟨List.nodup_append.2 ⟨HPj.out.1, by simp, fun a ha b hb => ?_⟩, fun p hp => ?_⟩
                · simp at hb; subst hb; intro e; exact hin (e ▸ ha)
                · rcases List.mem_append.1 hp with hp | hp
                  · exact HPj.out.2 p hp
                  · simp at hp; subst hp; rw [HF.out]; simp⟩
              have HC6 : Hd (w'.cell? ⟨q6, 0, none⟩ = some (.string X)) := ⟨by
                rw [World.cell?_of_block (hk5.block q6 (by have := HBq.out.2; omega) (fun e => by have := HAp2.out _ e; omega)), World.cell?_of_block (hK4.block q6 (by have := HBq.out.2; omega) (fun e => by omega))]
                exact HC.out⟩
              have HB6 : Hd (Below w1.heap.size w1 w' ∧ q6 + 1 < w'.heap.size) := ⟨hB4.trans hb5, by have := HBq.out.2; have := hk5.size; omega⟩
              clear hin HA HA2 HAp2 HS HPj HC HBq hz2 hS4 hK4 hA4 hw1 hB4 hrun hA5 hb5 hk5 hown5 e1 hrow h46
              go_wp2_with ((at_builtin; refine wp_append_run (vs := u4) (vx := .slice (some ⟨w4.heap.size, 0, none⟩) 1 1) (W := w4.alloc (.cells #[.int .i64 k, .int .i64 i] 42)) rfl (Operand.tmp 52) (Operand.tmp 56) 38 rfl rfl rfl HRun.out ?_))
              go_wp2_with fail
              exact ⟨⟨j + 1, n2 + 1, hjt, by go_num, HA6, HA62, HAp6, HS6, HP6, HC6, HB6⟩, hmj⟩
        · have hd2 : decide ((j : Int) < (PN : Int)) = false := decide_eq_false (by omega)
          have hPt : P.take j = P := List.take_of_length_le (by rw [HPN.out.1]; omega)
          have HA7 : Hd (wr.ownsRow w1.heap.size 42 2 u4 n2 ((arcsU l (k + 1)).flatMap Arc.cells)) := ⟨by
            have := HA.out
            rw [hPt] at this
            rw [arcsU_succ, HPar.out]; exact this⟩
          have HA72 : Hd (n2 ≤ (k + 1) * 6) := ⟨by have := HA2.out; omega⟩
          have HP7 := HPj.out
          rw [hPt] at HP7
          have HP8 := Hd.mk HP7
          have c6 := HC.out
          have HB7 := Hd.mk HBq.out.1
          have HNm := Hd.mk (name_any wr X (by have := HXb.out; omega))
          obtain ⟨nb, hnb⟩ : ∃ nb, nmB X = nb := ⟨_, rfl⟩
          have HNb := Hd.mk hnb
          rw [hnb] at HNm
          clear hPt HA HA2 HAp2 HS HPj HC HBq HP7 hnb
          go_wp2_with fail
          refine HNm.out.mono ?_
          rintro e w5 ⟨rfl, b5⟩
          have HB8 : Hd (Below w1.heap.size w1 w5) := ⟨HB7.out.trans (b5.mono HB7.out.size)⟩
          have HA8 : Hd (w5.ownsRow w1.heap.size 42 2 u4 n2 ((arcsU l (k + 1)).flatMap Arc.cells)) := ⟨ownsRow_kp HA7.out (⟨b5.os, b5.tape, b5.output, b5.size, fun k hk _ => b5.block k hk⟩ : Keeps (fun _ => False) wr w5) (fun _ _ h => h)⟩
          clear b5 HNm
          cases nb with
          | false =>
            have HE : Hd (false = R) := ⟨by rw [← HR.out]; exact (rightV_no fun h => by have := (HDe.out.1 (HNo.out h)).1; rw [HNb.out] at this; cases this).symm⟩
            have HBe := Hd.mk (HB1.out.trans (HB8.out.mono HB1.out.size))
            go_wp2
            go_ret
            exact ⟨ret_b HE.out, HBe.out⟩
          | true =>
            have HD9 := Hd.mk (HDn.out (HDe.out.2 ⟨HNb.out, HP8.out⟩))
            go_wp2
            exact ⟨⟨k + 1, n2, hlt, by go_num, HA8, HA72, HD9, HB8⟩, hmk⟩
    · have hd1 : decide ((k : Int) < (n : Int)) = false := decide_eq_false (by omega)
      have hkn : k = n := by omega
      subst hkn
      have hrw := row_rw HA.out
      have hal : (arcsU l k).length = nA := by have := HA.out.1; rw [flat_len] at this; omega
      have HLp := Hd.mk (loop_q wr (k : Int) (by unfold I64; omega) (by omega) u4 (arcsU l k) hrw (by have := HAn.out; omega))
      obtain ⟨p4, c4, e4⟩ := hrw.slice
      have HB9 := Hd.mk (HB1.out.trans (HB.out.mono HB1.out.size))
      have hOkA : ∀ d ∈ l, DOk l d := fun d hd => HD.out d (by rw [← HM.out, List.take_of_length_le (Nat.le_refl _)]; exact hd)
      obtain ⟨xs, hxs⟩ : ∃ xs, loopQ (k : Int) (arcsU l k) = xs := ⟨_, rfl⟩
      rw [hxs] at HLp
      have HFin : Hd ((xs.length = 0) ↔ rightV l = true) := ⟨by
        rw [rightV_iff]
        constructor
        · intro h0
          refine ⟨HND.out, hOkA, ?_⟩
          rw [HM.out, hxs]; exact List.eq_nil_of_length_eq_zero h0
        · intro h
          have := h.loop
          rw [HM.out, hxs] at this
          rw [this]; rfl⟩
      rw [hal] at e4
      subst e4
      clear hrw hal hOkA hxs HA HAn HD HB
      go_wp2_with fail
      refine HLp.out.mono ?_
      rintro e w5 ⟨v', rfl, hri, b5⟩
      obtain ⟨p5, c5, e5⟩ := Rw.slice hri
      have HBe := Hd.mk (HB9.out.trans (b5.mono HB9.out.size))
      obtain ⟨Q, hQ⟩ : ∃ Q, xs.length = Q := ⟨_, rfl⟩
      rw [hQ] at e5 HFin
      subst e5
      clear hri b5 HLp hQ
      by_cases h0 : Q = 0
      · have g0 : decide ((Q : Int) = 0) = true := decide_eq_true (by omega)
        have HE : Hd (true = R) := ⟨by rw [← HR.out]; exact (HFin.out.1 h0).symm⟩
        go_wp2
        go_ret
        exact ⟨ret_b HE.out, HBe.out⟩
      · have g0 : decide ((Q : Int) = 0) = false := decide_eq_false (by omega)
        have HE : Hd (((Q : Int) == 0) = R) := ⟨by
          rw [beq_eq_false_iff_ne.2 (show (Q : Int) ≠ 0 by omega)]
          rw [← HR.out]
          rcases hr : rightV l with _ | _
          · rfl
          · exact absurd (HFin.out.2 hr) h0⟩
        go_wp2
        go_ret
        exact ⟨ret_b HE.out, HBe.out⟩

end Go.Proofs.Ytmgkoocpnakanaa.W

/-
  The order of strings; rows of strings; their sort.
-/
namespace Go.Proofs.Ytmgkoocpnakanaa.W
open Go.RowKit Go.Maps Go.WideMaps
set_option linter.unusedVariables false

def ltS (a b : ByteArray) : Bool := decide (a.data.toList < b.data.toList)
theorem ba_ext {a b : ByteArray} (h : a.data.toList = b.data.toList) : a = b := by
  cases a; cases b; simp only [ByteArray.mk.injEq]; exact Array.toList_inj.1 h
theorem str_lt (a b : ByteArray) : Op.bytesLess a.toList b.toList = ltS a b := by
  rw [_root_.Go.ByteArray.toList_eq, _root_.Go.ByteArray.toList_eq, bytesLess_eq]; rfl
theorem ltS_irrefl (a : ByteArray) : ltS a a = false := decide_eq_false (List.lt_irrefl _)
theorem ltS_trans {a b c : ByteArray} (h : ltS a b = true) (k : ltS b c = true) : ltS a c = true :=
  decide_eq_true (List.lt_trans (of_decide_eq_true h) (of_decide_eq_true k))
theorem ltS_tri {a b : ByteArray} (h : ltS a b = false) (k : ltS b a = false) : a = b :=
  ba_ext (List.le_antisymm (List.not_lt.1 (of_decide_eq_false k)) (List.not_lt.1 (of_decide_eq_false h)))
theorem ltS_asymm {a b : ByteArray} (h : ltS a b = true) : ltS b a = false := by
  rcases hk : ltS b a with _ | _
  · rfl
  · have := ltS_trans h hk; rw [ltS_irrefl] at this; cases this
def AscS (l : List ByteArray) : Prop := l.Pairwise fun a b => ltS a b = true
theorem AscS.nodup {l : List ByteArray} (h : AscS l) : l.Nodup := by
  unfold AscS at h
  unfold List.Nodup
  exact h.imp fun {a b} h e => by subst e; rw [ltS_irrefl] at h; cases h
theorem AscS.ext : ∀ {a b : List ByteArray}, AscS a → AscS b → (∀ x, x ∈ a ↔ x ∈ b) → a = b := by
  intro a b ha hb h
  refine List.Perm.eq_of_pairwise (le := fun a b => ltS a b = true) (fun a b _ _ h1 h2 => ?_) ha hb ((List.perm_ext_iff_of_nodup ha.nodup hb.nodup).2 h)
  rw [ltS_asymm h1] at h2; cases h2
def sortS (l : List ByteArray) : List ByteArray := ((l.map fun s => s.data.toList).mergeSort leB).map fun b => ⟨b.toArray⟩
theorem sortS_perm (l : List ByteArray) : (sortS l).Perm l := by
  have h := (List.mergeSort_perm (l.map fun s => s.data.toList) leB).map fun b => (⟨b.toArray⟩ : ByteArray)
  rw [List.map_map] at h
  have e : (l.map ((fun b : List UInt8 => (⟨b.toArray⟩ : ByteArray)) ∘ fun s => s.data.toList)) = l := by
    refine (List.map_congr_left fun s _ => ?_).trans (List.map_id l)
    exact ba_ext rfl
  rw [e] at h
  exact h
theorem sortS_asc {l : List ByteArray} (h : l.Nodup) : AscS (sortS l) := by
  have tr : ∀ a b c : List UInt8, leB a b = true → leB b c = true → leB a c = true := fun a b c h1 h2 => by simp only [leB, decide_eq_true_eq] at *; exact List.le_trans h1 h2
  have to : ∀ a b : List UInt8, (leB a b || leB b a) = true := fun a b => by simp only [leB, Bool.or_eq_true, decide_eq_true_eq]; exact List.le_total a b
  have hn : (sortS l).Nodup := (sortS_perm l).nodup_iff.2 h
  have hp := List.pairwise_mergeSort tr to (l.map fun s => s.data.toList)
  unfold sortS at hn ⊢
  unfold AscS
  unfold List.Nodup at hn
  rw [List.pairwise_map] at hn ⊢
  refine (hp.and hn).imp fun {a b} h => ?_
  simp only [leB, decide_eq_true_eq] at h
  refine decide_eq_true ?_
  rcases List.le_iff_lt_or_eq.1 h.1 with h1 | h1
  · exact h1
  · exact absurd (by rw [h1]) h.2

def strs (xs : List ByteArray) : List Value := xs.map Value.string
theorem strs_enc (xs : List ByteArray) : strs xs = (xs.map fun s => s.data.toList).map encStr := by
  unfold strs; rw [List.map_map]; rfl
theorem strs_sort (xs : List ByteArray) : strs (sortS xs) = ((xs.map fun s => s.data.toList).mergeSort leB).map encStr := by
  unfold strs sortS; rw [List.map_map]; rfl
theorem strs_len (xs : List ByteArray) : (strs xs).length = xs.length := List.length_map _

theorem sort_str (w : World) (B : Nat) (v : Value) (n : Nat) (xs : List ByteArray) (hz : n ≤ 1000000) (h : w.ownsRow B 9 1 v n (strs xs)) :
    Calls Try.prog 29 #[v] w fun e w' => e = .returned (.tuple #[]) ∧ w'.ownsRow B 9 1 v n (strs (sortS xs)) ∧ Keeps (fun g => v.ownBlock = some g) w w' := by
  have hn : xs.length = n := by have := h.1; rw [strs_len] at this; omega
  rcases h.2 with ⟨rfl, h0⟩ | ⟨g, cap, cur, rfl, hB, hg, h1, h2, h3, h4⟩
  · have e : xs = [] := List.eq_nil_of_length_eq_zero (by omega)
    subst e
    subst h0
    exact (Try.slices_Sort_string_none none 0 w).mono fun e w' ⟨he, hw⟩ => ⟨he, by subst hw; rw [show sortS [] = [] by simp [sortS]]; exact World.ownsRow_nil _ _ _ _, by subst hw; exact Keeps.refl _ _⟩
  · have hl : (xs.map fun s => s.data.toList).length = n := by rw [List.length_map]; exact hn
    have hH : Sort.Holds encStr w g 0 (xs.map fun s => s.data.toList).toArray := holds_of_block hg (by
      rw [hl, ← strs_enc]
      rw [Nat.mul_one] at h4; exact h4)
    have := Try.slices_Sort_string g 0 cap (xs.map fun s => s.data.toList) w hH (Array.getElem?_eq_some_iff.1 hg).1 (by omega)
    rw [hl] at this
    refine this.mono ?_
    rintro e w' ⟨rfl, q, os, rfl⟩
    have hr := ownsRow_sorted (os := os) (n := q) (ss := xs.map fun s => s.data.toList) (ts := (xs.map fun s => s.data.toList).mergeSort leB) (List.length_mergeSort _) hB hg (by omega) h2 (by omega)
    rw [hl] at hr
    have hgb := grownBy_sorted (w := w) (g := g) (n := q) (os := os) ((xs.map fun s => s.data.toList).mergeSort leB).toArray
    refine ⟨rfl, by rw [strs_sort]; exact hr, ⟨hgb.os, hgb.tape, hgb.output, hgb.size, fun k hk hn => hgb.block k hk (fun e => hn (by cases e; rfl))⟩⟩

theorem infoStr : (Try.prog.info? 9).map (fun i => (i.zero, i.size, i.bytes)) = some (some (.string ⟨#[]⟩), 1, 16) := by kernel_rfl

theorem rw_strs {w : World} {B : Nat} {v : Value} {n : Nat} {xs : List ByteArray} (h : w.ownsRow B 9 1 v n (strs xs)) : Rw 1 strE w v xs := by
  have hn : n = xs.length := by have := h.1; rw [strs_len] at this; omega
  have hl := h.lt
  rcases h.2 with ⟨rfl, h0⟩ | ⟨g, cap, cur, rfl, _⟩
  · exact ⟨.inl ⟨List.eq_nil_of_length_eq_zero (by omega), .inl rfl⟩⟩
  · refine ⟨.inr ⟨g, 0, cap, by rw [hn], (hl g rfl).2, fun j x hx => ⟨[.string x], rfl, rfl, fun i u hu => ?_⟩⟩⟩
    have hi : i = 0 := by have := (List.getElem?_eq_some_iff.1 hu).1; simp at this; exact this
    subst hi
    have := h.cells (g := g) rfl j (.string x) (by unfold strs; rw [List.getElem?_map, hx]; rfl)
    rw [addr_add0] at this
    simp at hu
    subst hu
    rw [Nat.mul_one, Nat.add_zero]
    exact this

/-- append of a row of strings -/
theorem str_app {w : World} {B : Nat} {cv v : Value} {n : Nat} {r ss : List ByteArray} (h : w.ownsRow B 9 1 cv n (strs r)) (hA : Rw 1 strE w v ss) (hn : n + ss.length ≤ 1000000) (hB : B ≤ w.heap.size) :
    ∃ v' w', (Builtin.append_ #[27, 27] 27 #[cv, v]).run Try.prog w = .ok v' w' ∧ w'.ownsRow B 9 1 v' (n + ss.length) (strs (r ++ ss)) ∧ Below B w w' ∧ Keeps (fun g => cv.ownBlock = some g) w w' ∧ (v'.ownBlock = cv.ownBlock ∨ v'.ownBlock = some w.heap.size) := by
  obtain ⟨i0, hi, hz, hz1, hz2⟩ := info_parts infoStr
  have hlt := h.lt
  have key : ∀ (a : Addr) (c : Nat), v = .slice (some a) ss.length c → (∀ j u, (strs ss)[j]? = some u → w.cell? (a.add j) = some u) → ∃ v' w', (Builtin.append_ #[27, 27] 27 #[cv, v]).run Try.prog w = .ok v' w' ∧ w'.ownsRow B 9 1 v' (n + ss.length) (strs (r ++ ss)) ∧ Below B w w' ∧ Keeps (fun g => cv.ownBlock = some g) w w' ∧ (v'.ownBlock = cv.ownBlock ∨ v'.ownBlock = some w.heap.size) := fun a c hv hc => by
    subst hv
    obtain ⟨v', w', h1, h2, h3, _, h5⟩ := run_append_own_at (P := Try.prog) (w := w) B 27 27 9 i0 _ 1 16 Try.underlying27 hi hz hz1 hz2 rfl (by decide) cv n (strs r) h a ss.length c (strs ss) (by rw [strs_len]; omega) hc (fun u hu => by obtain ⟨s, _, rfl⟩ := List.mem_map.1 hu; rfl) (by unfold maxLen; omega) (by omega) hB
    have hk : Keeps (fun g => cv.ownBlock = some g) w w' := ⟨h3.os, h3.tape, h3.output, h3.size, fun k hk hn => h3.block k hk (fun c => hn c.symm)⟩
    refine ⟨v', w', h1, by unfold strs; rw [List.map_append]; exact h2, hk.below hB (fun g h1 h2 => by have := (hlt g h2).1; omega), hk, h5⟩
  rcases hA.is with ⟨rfl, rfl | ⟨a, c, rfl⟩⟩ | ⟨g, o, cap, rfl, hg, hc⟩
  · have hcv : ∃ p c, cv = .slice p n c ∧ n ≤ c := by
      rcases h.2 with ⟨rfl, rfl⟩ | ⟨g, cap, cur, rfl, _, _, h4, _⟩
      · exact ⟨none, 0, rfl, Nat.le_refl _⟩
      · exact ⟨_, cap, rfl, h4⟩
    obtain ⟨p, c, rfl, hle⟩ := hcv
    refine ⟨_, _, run_append_nothing (P := Try.prog) w 27 27 27 9 i0 Try.underlying27 hi p n c hle (.slice none 0 0) (Src.ofNil w Try.underlying27 0), ?_, Below.refl _ _, Keeps.refl _ _, .inl rfl⟩
    rw [List.append_nil]; exact h
  · exact key a c rfl (fun j u hj => by simp [strs] at hj)
  · refine key ⟨g, o, none⟩ cap rfl (fun j u hj => ?_)
    rw [addr_add0]
    unfold strs at hj
    rw [List.getElem?_map, Option.map_eq_some_iff] at hj
    obtain ⟨x, hx, rfl⟩ := hj
    obtain ⟨cs, h1, h2, h3⟩ := hc j _ hx
    have h2' : cs = [.string x] := h2
    subst h2'
    have := h3 0 _ rfl
    rw [Nat.mul_one, Nat.add_zero] at this
    exact this
/-- append of one string -/
theorem str_push {w : World} {B : Nat} {cv : Value} {n : Nat} {r : List ByteArray} (s : ByteArray) (h : w.ownsRow B 9 1 cv n (strs r)) (hn : n + 1 ≤ 1000000) (hB : B ≤ w.heap.size) :
    ∃ v' w', (Builtin.append_ #[27, 27] 27 #[cv, .slice (some ⟨w.heap.size, 0, none⟩) 1 1]).run Try.prog (w.alloc (.cells #[.string s] 9)) = .ok v' w' ∧ w'.ownsRow B 9 1 v' (n + 1) (strs (r ++ [s])) ∧ Below B w w' ∧ Keeps (fun g => cv.ownBlock = some g) w w' ∧ (v'.ownBlock = cv.ownBlock ∨ ∃ g, v'.ownBlock = some g ∧ w.heap.size ≤ g) := by
  obtain ⟨v', w', h1, h2, h3, h4, h5⟩ := str_app (h.alloc (.cells #[.string s] 9)) (Rw.strs (ks := [s]) (Blk.new w 9 [.string s]) (cap := 1)) hn (by simp; omega)
  refine ⟨v', w', h1, h2, ((below_alloc w _).mono hB).trans h3, ((Keeps.refl _ w).alloc _).trans h4, ?_⟩
  rcases h5 with h5 | h5
  · exact .inl h5
  · exact .inr ⟨_, h5, by simp⟩

end Go.Proofs.Ytmgkoocpnakanaa.W

/-
  version's Line.
-/
namespace Go.Proofs.Ytmgkoocpnakanaa.W
open Go.RowKit Go.Maps Go.WideMaps
set_option linter.unusedVariables false

theorem Maps.keyOf_string_inv' {P : Program} {k : TypeId} (hk : P.underlying k = some .string) {key : Value} {kl : Lit} (h : keyOf P k key = some kl) : ∃ s, key = .string s := by
  obtain ⟨x, hx, _⟩ := _root_.Go.Maps.keyOf_str hk h
  exact ⟨_, hx⟩

def bas (ss : List (List UInt8)) : List ByteArray := ss.map fun b => ⟨b.toArray⟩
def outOf (s : ByteArray) (ss : List (List UInt8)) : List ByteArray := (bas ss).filter fun y => !decide (y = s)
theorem mem_bas {ss : List (List UInt8)} {y : ByteArray} : y ∈ bas ss ↔ y.data.toList ∈ ss := by
  unfold bas
  rw [List.mem_map]
  constructor
  · rintro ⟨b, hb, rfl⟩; exact hb
  · intro h; exact ⟨_, h, ba_ext rfl⟩
theorem mem_outOf {s : ByteArray} {ss : List (List UInt8)} {y : ByteArray} : y ∈ outOf s ss ↔ y.data.toList ∈ ss ∧ y ≠ s := by
  unfold outOf
  rw [List.mem_filter, mem_bas]
  simp
theorem outOf_nodup {s : ByteArray} {ss : List (List UInt8)} (h : ss.Nodup) : (outOf s ss).Nodup := by
  unfold outOf bas
  refine List.Pairwise.filter _ ?_
  unfold List.Nodup at h
  rw [List.pairwise_map]
  exact h.imp fun {a b} h e => h (by injection e with e; exact congrArg Array.toList e)
theorem outOf_snoc (s : ByteArray) (ss : List (List UInt8)) (X : ByteArray) : outOf s (ss ++ [X.data.toList]) = outOf s ss ++ (if X = s then [] else [X]) := by
  unfold outOf bas
  rw [List.map_append, List.filter_append]
  congr 1
  show List.filter _ [X] = _
  rw [List.filter_cons]
  by_cases h : X = s
  · rw [if_pos h, if_neg (by simp [h])]; rfl
  · rw [if_neg h, if_pos (by simp [h])]; rfl

/-- the line of a string -/
structure IsLine (l : List Vdf) (s : ByteArray) (xs : List ByteArray) : Prop where
  is : ∃ r, xs = s :: r ∧ AscS r ∧ ∀ x, x ∈ r ↔ (Srv l s x ∧ x ≠ s)
theorem IsLine.eq {l : List Vdf} {s : ByteArray} {xs ys : List ByteArray} (h : IsLine l s xs) (k : IsLine l s ys) : xs = ys := by
  obtain ⟨r, rfl, h1, h2⟩ := h.is
  obtain ⟨q, rfl, k1, k2⟩ := k.is
  rw [h1.ext k1 (fun x => by rw [h2, k2])]

theorem row_ne_map {H : Type} {P : Program} {k : TypeId} {R : Value → Option (DataW H × List MemPlace)} {w : World} {b n : Nat} {D : DataW H} {base : Nat} {e : TypeId} {size : Nat} {v : Value} {m : Nat} {xs : List Value}
    (h : w.ownsRow base e size v m xs) (hr : w.ownsMap P k R b n D) : some b ≠ v.ownBlock := by
  obtain ⟨es, clock, hb, _⟩ := hr
  rcases h.2 with ⟨rfl, _⟩ | ⟨g, cap, cur, rfl, hB, hg, _⟩
  · intro e; cases e
  · intro e
    have : b = g := by injection e
    subst this
    rw [hb] at hg; cases hg
theorem Keeps.grown {v : Value} {w w' : World} (k : Keeps (fun g => v.ownBlock = some g) w w') : w.grownBy w' v.ownBlock :=
  ⟨k.os, k.tape, k.output, k.size, fun j hj hn => k.block j hj (fun e => hn e.symm)⟩

set_option maxHeartbeats 4000000 in
set_option maxRecDepth 100000 in
theorem line_any (w : World) (v : Value) (l : List Vdf) (s : ByteArray) (h : Rw 2 Vdf.E w v l) (hOk : VOk l) (hs : s.size ≤ 100) :
    Calls Try.prog 16 #[v, .string s] w fun e w' => ∃ (v' : Value) (n : Nat) (xs : List ByteArray), e = .returned v' ∧ w'.ownsRow w.heap.size 9 1 v' n (strs xs) ∧ n ≤ 101 ∧ IsLine l s xs ∧ Below w.heap.size w w' := by
  have HS := Hd.mk (served_any (w.alloc (.cells #[] 9)) v l s (h.below Vdf.stays (below_alloc w _)) hOk hs)
  obtain ⟨p, c, hv⟩ := h.slice
  subst hv
  have K : Hd (Keyed Try.prog 9) := ⟨string_keyed Try.underlying9⟩
  have HR0 : Hd ((w.alloc (.cells #[] 9)).ownsRow w.heap.size 9 1 (.slice (some ⟨w.heap.size, 0, none⟩) 0 0) 0 (strs [])) := ⟨World.ownsRow_lit w #[] 0 (Nat.le_refl _) (Nat.zero_le _) rfl⟩
  clear h hOk
  go_enter Try.func16, Try.ntmps16
  go_wp2_with fail
  refine HS.out.mono ?_
  rintro e w1 ⟨b, T, rfl, hg, hSt, hT, hT1, b1⟩
  obtain ⟨D, hown, _, hhas, _⟩ := hSt.is
  rw [List.length_map] at hown
  have HR1 := Hd.mk (ownsRow_kp HR0.out (⟨b1.os, b1.tape, b1.output, b1.size, fun k hk _ => b1.block k hk⟩ : Keeps (fun _ => False) _ w1) (fun _ _ h => h))
  have HB1 : Hd (Below w.heap.size w w1) := ⟨(below_alloc w _).trans (b1.mono (by simp))⟩
  have HT := Hd.mk hT
  have HD := Hd.mk hhas
  have HT1 := Hd.mk hT1
  have hsz := hown.size_le
  have HO := Hd.mk hown
  clear hg hSt hT hhas b1 HR0 HS hT1 hown
  go_wp2_with (at_range; refine wpList_range_own _ rfl _ 39 rfl 9 4 K.out Try.underlying39 _ b _ _ rfl HO.out ?_; intro w0 hrg0 hg0 hs0)
  go_frame
  have HRg := Hd.mk hrg0
  have HR2 := Hd.mk (HR1.out.kept hg0 (.inr (by simp [Value.ownBlock])))
  have HB2 : Hd (Below w.heap.size w w0) := ⟨HB1.out.grown hg0 HB1.out.size (fun j hj => by cases hj)⟩
  obtain ⟨rr, hrr⟩ : ∃ rr, w1.heap.size = rr := ⟨_, rfl⟩
  have HRr : Hd (w.heap.size ≤ rr) := ⟨by rw [← hrr]; exact HB1.out.size⟩
  rw [hrr] at HRg ⊢
  clear hrg0 hg0 hs0 HR1 HB1 hrr
  go_loopw [5] (fun ov wr => ∃ (left : Lit → Bool) (cnt : Nat) (ss : List (List UInt8)) (n : Nat), Hd (wr.ranges Try.prog 9 heldR b rr T.length D left cnt) ∧ Hd (ss.length + cnt ≤ Maps.size D) ∧ Hd (Collected D left ss) ∧ Hd (wr.ownsRow w.heap.size 9 1 ov n (strs (outOf s ss))) ∧ Hd (n ≤ ss.length) ∧ Hd (Below w.heap.size w wr)) (fun _ wr => wr.rangeLeft b rr)
  case atStart => exact ⟨_, _, [], 0, HRg, ⟨by simp⟩, ⟨Collected.start D⟩, HR2, ⟨Nat.le_refl _⟩, HB2⟩
  case round =>
    clear HRg HR2 HB2
    obtain ⟨left, cnt, ss, n, HRg, HCn, HC, HR, HN, HB⟩ := hrel
    go_wp2_with (at_next; refine wpList_next_ranges _ rfl _ rfl 9 K.out heldR Value.string (fun v : Value => v) (fun key kl hk => Maps.keyOf_string_inv' Try.underlying9 hk) (fun v y hv => ⟨v, rfl⟩) b rr T.length _ _ _ rfl HRg.out ?_ ?_)
    · intro hc0 hl0
      have hlen : (outOf s ss).length = n := by have := HR.out.1; rw [strs_len] at this; omega
      have hmem : ∀ y, y ∈ outOf s ss ↔ (Srv l s y ∧ y ≠ s) := fun y => by
        rw [mem_outOf, HC.out.2, hl0, ← HT.out y]
        have := HD.out (keyL y)
        unfold keyL at this
        rw [this]
        constructor
        · rintro ⟨⟨h1, _⟩, h2⟩
          obtain ⟨z, hz, e⟩ := List.mem_map.1 h1
          exact ⟨keyL_inj e ▸ hz, h2⟩
        · rintro ⟨h1, h2⟩
          exact ⟨⟨List.mem_map.2 ⟨y, h1, rfl⟩, rfl⟩, h2⟩
      have HL : Hd (IsLine l s (s :: sortS (outOf s ss))) := ⟨⟨_, rfl, sortS_asc (outOf_nodup HC.out.1), fun x => by rw [(sortS_perm _).mem_iff]; exact hmem x⟩⟩
      have hn100 : n ≤ 100 := by have := HN.out; have := HCn.out; have := HT1.out; omega
      obtain ⟨O, hO⟩ : ∃ O, outOf s ss = O := ⟨_, rfl⟩
      rw [hO] at HR HL hlen
      have HLen := Hd.mk hlen
      have HSo := Hd.mk (sort_str wr w.heap.size u5 n O (by omega) HR.out)
      have HWs := Hd.mk HB.out.size
      have HLt := Hd.mk HR.out.lt
      clear hlen hmem HCn HN HC HRg HR hO hc0 hl0
      go_wp2_with fail
      refine HSo.out.mono ?_
      rintro e w5 ⟨rfl, hr5, hk5⟩
      have hw5 : w.heap.size ≤ w5.heap.size := Nat.le_trans HWs.out hk5.size
      have hb5 : Below w.heap.size w w5 := HB.out.trans (hk5.below HWs.out (fun g hg e => by have := (HLt.out g e).1; omega))
      have hlit : (w5.alloc (.cells #[.string s] 9)).ownsRow w.heap.size 9 1 (.slice (some ⟨w5.heap.size, 0, none⟩) 1 1) 1 (strs [s]) := World.ownsRow_lit w5 #[.string s] 1 hw5 (by unfold maxLen; omega) rfl
      have hrw := (rw_strs hr5).below strE_stays (below_alloc w5 (.cells #[.string s] 9))
      have hls : (sortS O).length = n := by rw [(sortS_perm O).length_eq]; exact HLen.out
      obtain ⟨v', w6, hrun, hown, hbel, _⟩ := str_app hlit hrw (by rw [hls]; omega) (by simp; omega)
      rw [hls] at hown
      have HRun := Hd.mk hrun
      have HO6 := Hd.mk hown
      have HB6 : Hd (Below w.heap.size w w6) := ⟨(hb5.trans ((below_alloc w5 (.cells #[.string s] 9)).mono hw5)).trans hbel⟩
      clear hw5 hb5 hlit hrw hls hrun hown hbel hr5 hk5 HSo
      go_wp2_with (at_builtin; refine wp_append_run (vs := .slice (some ⟨w5.heap.size, 0, none⟩) 1 1) (vx := u5) (W := w5.alloc (.cells #[.string s] 9)) rfl (Operand.tmp 26) (Operand.tmp 27) 27 rfl rfl rfl HRun.out ?_)
      go_wp2_with fail
      go_ret
      exact ⟨v', 1 + n, _, rfl, HO6.out, by omega, HL.out, HB6.out⟩
    · intro X c kl yd yp w2 cnt2 hkey hlk hv hat hrg2 hlt hg2 hs2 hen
      obtain ⟨x', ex, rfl, hx'⟩ := _root_.Go.Maps.keyOf_str Try.underlying9 hkey
      have hxX : x' = X.data.toList := by injection ex with ex; rw [ex]
      subst hxX
      have HMe : Hd (cnt2 < cnt) := ⟨hlt⟩
      have HC2 := Hd.mk (HC.out.step hlk hat)
      have hR2 := HR.out.kept hg2 (.inr (row_ne_iter HR.out HRg.out).symm)
      have HCn2 : Hd ((ss ++ [X.data.toList]).length + cnt2 ≤ Maps.size D) := ⟨by have := HCn.out; simp; omega⟩
      have hB2 : Below w.heap.size w w2 := HB.out.grown hg2 HB.out.size (fun j hj => by cases hj; exact HRr.out)
      have hw2 : w.heap.size ≤ w2.heap.size := hB2.size
      have hsn := outOf_snoc s ss X
      have HLeft := Hd.mk (HRg.out.left_eq)
      have g0 : (X.toList == s.toList) = decide (X = s) := str_beq X s
      have HN2 : Hd (n ≤ (ss ++ [X.data.toList]).length) := ⟨by have := HN.out; simp; omega⟩
      have HN3 : Hd (n + 1 ≤ (ss ++ [X.data.toList]).length) := ⟨by have := HN.out; simp; omega⟩
      have hnb : n + 1 ≤ 1000000 := by have := HN.out; have := HCn.out; have := HT1.out; omega
      by_cases hX : X = s
      · rw [if_pos hX, List.append_nil] at hsn
        rw [decide_eq_true hX] at g0
        have HR3 := Hd.mk hR2
        rw [← hsn] at HR3
        have HRg2 := Hd.mk hrg2
        have HB2 := Hd.mk hB2
        clear hsn hX hR2 hrg2 hB2 hw2 hs2 hg2 hlk hat hv hkey ex hx' HRg HCn HC HR HN HB hlt hnb
        go_wp2
        go_roundw
        case rel => exact ⟨_, cnt2, _, n, HRg2, HCn2, HC2, HR3, HN2, HB2⟩
        case measure => rw [HRg2.out.left_eq, HLeft.out]; exact HMe.out
      · rw [if_neg hX] at hsn
        rw [decide_eq_false hX] at g0
        obtain ⟨v', w3, hrun, hown, hbel, hk3, _⟩ := str_push X hR2 hnb hw2
        have hrg3 := hrg2.kept (Keeps.grown hk3) (row_ne_map hR2 hrg2.owns) (row_ne_iter hR2 hrg2)
        have HRun := Hd.mk hrun
        have HR3 := Hd.mk hown
        rw [← hsn] at HR3
        have HRg3 := Hd.mk hrg3
        have HB3 := Hd.mk (hB2.trans hbel)
        clear hsn hX hR2 hrg2 hB2 hw2 hs2 hg2 hlk hat hv hkey ex hx' HRg HCn HC HR HN HB hlt hnb hrun hown hbel hk3 hrg3
        go_wp2_with (at_builtin; refine wp_append_run (vs := u5) (vx := .slice (some ⟨w2.heap.size, 0, none⟩) 1 1) (W := w2.alloc (.cells #[.string X] 9)) rfl (Operand.tmp 19) (Operand.tmp 21) 27 rfl rfl rfl HRun.out ?_)
        go_wp2_with fail
        go_roundw
        case rel => exact ⟨_, cnt2, _, n + 1, HRg3, HCn2, HC2, HR3, HN3, HB3⟩
        case measure => rw [HRg3.out.left_eq, HLeft.out]; exact HMe.out

end Go.Proofs.Ytmgkoocpnakanaa.W

/-
  slices.BinarySearch at strings: where the string is.
-/
namespace Go.Proofs.Ytmgkoocpnakanaa.W
open Go.RowKit
set_option linter.unusedVariables false

set_option maxHeartbeats 4000000 in
set_option maxRecDepth 100000 in
theorem cnan_any (w : World) (s : ByteArray) : Calls Try.prog 64 #[.string s] w fun e w' => e = .returned (.bool false) ∧ w' = w := by
  have g0 : (s.toList == s.toList) = true := by simp
  go_enter Try.func64, Try.ntmps64
  go_wp2
  go_ret
  exact ⟨rfl, rfl⟩
set_option maxHeartbeats 4000000 in
set_option maxRecDepth 100000 in
theorem snan_any (w : World) (s : ByteArray) : Calls Try.prog 40 #[.string s] w fun e w' => e = .returned (.bool false) ∧ w' = w := by
  have g0 : (s.toList == s.toList) = true := by simp
  go_enter Try.func40, Try.ntmps40
  go_wp2
  go_ret
  exact ⟨rfl, rfl⟩
set_option maxHeartbeats 4000000 in
set_option maxRecDepth 100000 in
theorem cless_any (w : World) (a b : ByteArray) : Calls Try.prog 39 #[.string a, .string b] w fun e w' => e = .returned (.bool (ltS a b)) ∧ w' = w := by
  have HA := Hd.mk (cnan_any w a)
  have HB := Hd.mk (cnan_any w b)
  have g0 := str_lt a b
  go_enter Try.func39, Try.ntmps39
  go_wp2_with fail
  refine HA.out.mono ?_
  rintro e w1 ⟨rfl, rfl⟩
  go_wp2_with fail
  go_ret
  exact ⟨rfl, rfl⟩

theorem AscS.at {xs : List ByteArray} (h : AscS xs) {i j : Nat} (hi : i < xs.length) (hj : j < xs.length) : ltS xs[i] xs[j] = true ↔ i < j := by
  have key : ∀ a b (ha : a < xs.length) (hb : b < xs.length), a < b → ltS xs[a] xs[b] = true := fun a b ha hb hab => List.pairwise_iff_getElem.1 h a b ha hb hab
  constructor
  · intro hl
    rcases Nat.lt_trichotomy i j with h1 | h1 | h1
    · exact h1
    · subst h1; rw [ltS_irrefl] at hl; cases hl
    · have := key j i hj hi h1
      rw [ltS_asymm this] at hl; cases hl
  · exact key i j hi hj

set_option maxHeartbeats 4000000 in
set_option maxRecDepth 100000 in
theorem bsrch_any (w : World) (v : Value) (xs : List ByteArray) (q : Nat) (t : ByteArray) (h : Rw 1 strE w v xs) (hl : xs.length ≤ 1000000) (hA : AscS xs) (hq : q < xs.length) (ht : xs[q] = t) :
    Calls Try.prog 30 #[v, .string t] w fun e w' => e = .returned (.tuple #[.int .i64 (q : Int), .bool true]) ∧ w' = w := by
  obtain ⟨p, c, hv⟩ := h.slice
  subst hv
  obtain ⟨g, o, e, hEv⟩ := RS.ever h (by omega)
  subst e
  have HC : Hd (∀ k (hk : k < xs.length), w.cell? ⟨g, o + k, none⟩ = some (.string xs[k])) := ⟨fun k hk => hEv k hk w (Below.refl _ _)⟩
  have HL : Hd (∀ k (hk : k < xs.length), ltS xs[k] t = decide (k < q)) := ⟨fun k hk => by
    rw [← ht]
    by_cases hkq : k < q
    · rw [decide_eq_true hkq, (hA.at hk hq).2 hkq]
    · rw [decide_eq_false hkq]
      rcases hx : ltS xs[k] xs[q] with _ | _
      · rfl
      · exact absurd ((hA.at hk hq).1 hx) hkq⟩
  obtain ⟨N, hN⟩ : ∃ N, xs.length = N := ⟨_, rfl⟩
  have hqN : q < N := by omega
  have HN := Hd.mk hN
  have HLs := Hd.mk (fun a => cless_any w a t)
  have cq := HC.out q hq
  rw [ht] at cq
  have g0 : (t.toList == t.toList) = true := by simp
  have hNb : N ≤ 1000000 := by omega
  have gq : decide ((q : Int) < (N : Int)) = true := decide_eq_true (by omega)
  rw [hN]
  clear h hEv hN hA hq ht hl
  go_enter Try.func30, Try.ntmps30
  go_wp2
  go_loopw [7, 8] (fun iv jv wr => ∃ (i j : Nat), i ≤ q ∧ q ≤ j ∧ j ≤ N ∧ iv = .int .i64 (i : Int) ∧ jv = .int .i64 (j : Int) ∧ w = wr) (fun iv jv _ => (intOf jv - intOf iv).toNat)
  case atStart => exact ⟨0, N, Nat.zero_le _, by omega, Nat.le_refl _, rfl, rfl, rfl⟩
  case round =>
    obtain ⟨i, j, hi, hj, hjN, rfl, rfl, rfl⟩ := hrel
    by_cases hlt : i < j
    · have hd1 : decide ((i : Int) < (j : Int)) = true := decide_eq_true (by omega)
      obtain ⟨m, hm⟩ : ∃ m, (i + j) / 2 = m := ⟨_, rfl⟩
      have hmN : m < xs.length := by rw [HN.out]; omega
      have cm := HC.out m hmN
      have hlm := HL.out m hmN
      obtain ⟨x, hx⟩ : ∃ x, xs[m] = x := ⟨_, rfl⟩
      rw [hx] at cm hlm
      have HCl := Hd.mk (HLs.out x)
      rw [hlm] at HCl
      clear hlm hx hmN
      go_wp2_with fail
      refine HCl.out.mono ?_
      rintro e w1 ⟨rfl, rfl⟩
      clear HCl cm
      by_cases hmq : m < q
      · rw [decide_eq_true hmq]
        go_wp2
        exact ⟨⟨m + 1, j, by omega, hj, hjN, by go_num, rfl, trivial⟩, by simp [intOf]; omega⟩
      · rw [decide_eq_false hmq]
        go_wp2
        exact ⟨⟨i, m, hi, by omega, by omega, rfl, congrArg (Value.int .i64) (by omega), trivial⟩, by simp [intOf]; omega⟩
    · have hij : i = q ∧ j = q := by omega
      have hd1 : decide ((i : Int) < (j : Int)) = false := decide_eq_false (by omega)
      have ci : w.cell? ⟨g, o + i, none⟩ = some (.string t) := by rw [hij.1]; exact cq
      have gi : decide ((i : Int) < (N : Int)) = true := decide_eq_true (by omega)
      have HE : Hd ((i : Int) = (q : Int)) := ⟨by omega⟩
      have hiN : i < N := by omega
      clear cq gq hij
      go_wp2
      go_ret2
      exact ⟨by show Ending.returned (.tuple #[.int .i64 (i : Int), .bool true]) = _; rw [HE.out], rfl⟩

end Go.Proofs.Ytmgkoocpnakanaa.W
