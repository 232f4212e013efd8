/-
  GraphSame.
-/
import Derived.Test.YtlncfhkmjbempaaWyP
import Derived.Test.YtlncfhkmjbempaaArcA
namespace Go.Proofs.Ytlncfhkmjbempaa.W
open Go.RowKit
set_option linter.unusedVariables false

theorem infoArc : (Try.prog.info? 36).map (fun i => (i.zero, i.size, i.bytes)) = some (some (.agg #[.int .i64 0, .int .i64 0]), 2, 16) := by kernel_rfl
theorem flat_at : ∀ (xs : List Arc) (j i : Nat) (x : Arc) (u : Value), xs[j]? = some x → x.cells[i]? = some u → (xs.flatMap Arc.cells)[j * 2 + i]? = some u
  | [], j, i, x, u, h1, h2 => by simp at h1
  | a :: r, 0, i, x, u, h1, h2 => by
    have hi : i < 2 := (List.getElem?_eq_some_iff.1 h2).1
    simp only [List.getElem?_cons_zero, Option.some.injEq] at h1
    subst h1
    rw [List.flatMap_cons, Nat.zero_mul, Nat.zero_add, List.getElem?_append_left hi]
    exact h2
  | a :: r, j + 1, i, x, u, h1, h2 => by
    rw [List.flatMap_cons, List.getElem?_append_right (by show 2 ≤ _; omega), show (j + 1) * 2 + i - a.cells.length = j * 2 + i by show (j + 1) * 2 + i - 2 = _; omega]
    exact flat_at r j i x u (by simpa using h1) h2
theorem flat_len (xs : List Arc) : (xs.flatMap Arc.cells).length = xs.length * 2 := by
  induction xs with
  | nil => rfl
  | cons a r ih => rw [List.flatMap_cons, List.length_append, ih, List.length_cons]; show 2 + _ = _; omega
theorem flat_one {xs : List Arc} {u : Value} (h : u ∈ xs.flatMap Arc.cells) : u.oneCell' = true := by
  obtain ⟨a, _, hu⟩ := List.mem_flatMap.1 h
  simp only [Arc.cells, List.mem_cons, List.not_mem_nil, or_false] at hu
  rcases hu with rfl | rfl <;> rfl
theorem addr_add0 (g o j : Nat) : (⟨g, o, none⟩ : Addr).add j = ⟨g, o + j, none⟩ := by unfold Addr.add; split <;> simp_all

theorem row_rw {w : World} {B : Nat} {v : Value} {n : Nat} {xs : List Arc} (h : w.ownsRow B 36 2 v n (xs.flatMap Arc.cells)) : Rw 2 Arc.E w v xs := by
  have hn : n = xs.length := by have := h.1; rw [flat_len] at this; omega
  have hl := h.lt
  rcases h.2 with ⟨rfl, h0⟩ | ⟨g, cap, cur, rfl, _⟩
  · exact ⟨.inl ⟨List.eq_nil_of_length_eq_zero (by omega), .inl rfl⟩⟩
  · refine ⟨.inr ⟨g, 0, cap, by rw [hn], (hl g rfl).2, fun j x hx => ⟨x.cells, rfl, rfl, fun i u hu => ?_⟩⟩⟩
    have := h.cells (g := g) rfl (j * 2 + i) u (flat_at xs j i x u hx hu)
    rw [addr_add0] at this
    rw [Nat.zero_add] at this ⊢
    exact this

theorem arc_push {w : World} {B : Nat} {cv : Value} {n : Nat} {r : List Arc} (f t : Int) (h : w.ownsRow B 36 2 cv n (r.flatMap Arc.cells)) (hn : n + 1 ≤ 1000000) (hB : B ≤ w.heap.size) :
    ∃ v' w', (Builtin.append_ #[22, 22] 22 #[cv, .slice (some ⟨w.heap.size, 0, none⟩) 1 1]).run Try.prog (w.alloc (.cells #[.int .i64 f, .int .i64 t] 36)) = .ok v' w' ∧ w'.ownsRow B 36 2 v' (n + 1) ((r ++ [(⟨f, t⟩ : Arc)]).flatMap Arc.cells) ∧ Below B w w' := by
  obtain ⟨i0, hi, hz, hz1, hz2⟩ := info_parts infoArc
  have hbk := Blk.new w 36 [.int .i64 f, .int .i64 t]
  obtain ⟨v', w', h1, h2, h3, _, h5⟩ := run_append_own_at (P := Try.prog) (w := w.alloc (.cells #[.int .i64 f, .int .i64 t] 36)) B 22 22 36 i0 _ 2 16 Try.underlying22 hi hz hz1 hz2 rfl (by decide) cv n (r.flatMap Arc.cells) (h.alloc _) ⟨w.heap.size, 0, none⟩ 1 1 [.int .i64 f, .int .i64 t] rfl (fun j u hj => by
    rw [addr_add0, Nat.zero_add]; exact hbk.at hj) (fun u hu => by simp at hu; rcases hu with rfl | rfl <;> rfl) (by unfold maxLen; omega) (by omega) (by simp; omega)
  have hlt := h.lt
  refine ⟨v', w', h1, by rw [List.flatMap_append]; exact h2, ?_⟩
  have hk : Keeps (fun g => cv.ownBlock = some g) w w' := ((Keeps.refl _ w).alloc _).trans ⟨h3.os, h3.tape, h3.output, h3.size, fun k hk hn => h3.block k hk (fun c => hn c.symm)⟩
  exact hk.below hB (fun g h1 h2 => by have := (hlt g h2).1; omega)

theorem arcs_app {w : World} {B : Nat} {cv v : Value} {n : Nat} {r arcs : List Arc} (h : w.ownsRow B 36 2 cv n (r.flatMap Arc.cells)) (hA : Rw 2 Arc.E w v arcs) (hn : n + arcs.length ≤ 1000000) (hB : B ≤ w.heap.size) :
    ∃ v' w', (Builtin.append_ #[22, 22] 22 #[cv, v]).run Try.prog w = .ok v' w' ∧ w'.ownsRow B 36 2 v' (n + arcs.length) ((r ++ arcs).flatMap Arc.cells) ∧ Below B w w' := by
  obtain ⟨i0, hi, hz, hz1, hz2⟩ := info_parts infoArc
  have hlt := h.lt
  have key : ∀ (a : Addr) (c : Nat), v = .slice (some a) arcs.length c → (∀ j u, (arcs.flatMap Arc.cells)[j]? = some u → w.cell? (a.add j) = some u) → ∃ v' w', (Builtin.append_ #[22, 22] 22 #[cv, v]).run Try.prog w = .ok v' w' ∧ w'.ownsRow B 36 2 v' (n + arcs.length) ((r ++ arcs).flatMap Arc.cells) ∧ Below B w w' := fun a c hv hc => by
    subst hv
    obtain ⟨v', w', h1, h2, h3, _, h5⟩ := run_append_own_at (P := Try.prog) (w := w) B 22 22 36 i0 _ 2 16 Try.underlying22 hi hz hz1 hz2 rfl (by decide) cv n (r.flatMap Arc.cells) h a arcs.length c (arcs.flatMap Arc.cells) (flat_len arcs) hc (fun u hu => flat_one hu) (by unfold maxLen; omega) (by omega) hB
    refine ⟨v', w', h1, by rw [List.flatMap_append]; exact h2, ?_⟩
    have hk : Keeps (fun g => cv.ownBlock = some g) w w' := ⟨h3.os, h3.tape, h3.output, h3.size, fun k hk hn => h3.block k hk (fun c => hn c.symm)⟩
    exact hk.below hB (fun g h1 h2 => by have := (hlt g h2).1; omega)
  rcases hA.is with ⟨rfl, rfl | ⟨a, c, rfl⟩⟩ | ⟨g, o, cap, rfl, hg, hc⟩
  · have hcv : ∃ p c, cv = .slice p n c ∧ n ≤ c := by
      rcases h.2 with ⟨rfl, rfl⟩ | ⟨g, cap, cur, rfl, _, _, h4, _⟩
      · exact ⟨none, 0, rfl, Nat.le_refl _⟩
      · exact ⟨_, cap, rfl, h4⟩
    obtain ⟨p, c, rfl, hle⟩ := hcv
    refine ⟨_, _, run_append_nothing (P := Try.prog) w 22 22 22 36 i0 Try.underlying22 hi p n c hle (.slice none 0 0) (Src.ofNil w Try.underlying22 0), ?_, Below.refl _ _⟩
    rw [List.append_nil]; exact h
  · exact key a c rfl (fun j u hj => by simp at hj)
  · refine key ⟨g, o, none⟩ cap rfl (fun j u hj => ?_)
    rw [addr_add0]
    have hj2 : j < arcs.length * 2 := by rw [← flat_len]; exact (List.getElem?_eq_some_iff.1 hj).1
    obtain ⟨x, hx⟩ : ∃ x, arcs[j / 2]? = some x := ⟨_, List.getElem?_eq_getElem (by omega)⟩
    obtain ⟨cs, h1, h2, h3⟩ := hc (j / 2) _ hx
    have h2' : cs = x.cells := h2
    subst h2'
    have hjj : j / 2 * 2 + j % 2 = j := by omega
    have hm : j % 2 < 2 := by omega
    obtain ⟨u', hu'⟩ : ∃ u', x.cells[j % 2]? = some u' := ⟨_, List.getElem?_eq_getElem (show j % 2 < 2 from hm)⟩
    have h5 := h3 (j % 2) u' hu'
    have h6 := flat_at arcs (j / 2) (j % 2) _ u' hx hu'
    rw [hjj] at h6
    rw [h6] at hj
    cases hj
    rw [show o + j / 2 * 2 + j % 2 = o + j by omega] at h5
    exact h5

theorem drop_rev {α : Type} (l : List α) {s : Nat} (h : s < l.length) : (l.drop s).reverse = (l.drop (s + 1)).reverse ++ [l[s]] := by
  rw [List.drop_eq_getElem_cons h, List.reverse_cons]
/-- the roots, turned: each twice -/
def dbl (l : List Int) : List Int := l.flatMap fun r => [r, r]
theorem mem_dbl {l : List Int} {x : Int} : x ∈ dbl l ↔ x ∈ l := by
  unfold dbl
  rw [List.mem_flatMap]
  exact ⟨fun ⟨r, h, k⟩ => by simp at k; exact k ▸ h, fun h => ⟨x, h, by simp⟩⟩
theorem dbl_len (l : List Int) : (dbl l).length = l.length * 2 := by
  unfold dbl
  induction l with
  | nil => rfl
  | cons a r ih => rw [List.flatMap_cons, List.length_append, ih]; simp; omega
theorem dbl_snoc (l : List Int) (x : Int) : dbl (l ++ [x]) = dbl l ++ [x, x] := by unfold dbl; rw [List.flatMap_append]; rfl

theorem partsQ_len {n : Int} (hn : n ≤ 14) {arcs : List Arc} : (partsQ n arcs).length ≤ 1000000 ∧ ∀ l ∈ partsQ n arcs, l.length ≤ 1000000 := by
  unfold partsQ
  rcases h : rightB n arcs with _ | _
  · exact ⟨by simp, fun l h => by cases h⟩
  · obtain ⟨m, rfl⟩ := nat_of (right_is h).1
    show ((partsG m arcs).map intL).length ≤ _ ∧ ∀ l ∈ (partsG m arcs).map intL, _
    refine ⟨by rw [List.length_map]; exact Nat.le_trans partsG_len (by omega), fun l hl => ?_⟩
    obtain ⟨p, hp, rfl⟩ := List.mem_map.1 hl
    rw [intL_len]
    exact Nat.le_trans (pgd.len p hp) (by omega)
theorem wayQ_len {n : Int} (hn : n ≤ 14) {arcs : List Arc} {roots : List Int} {to : Int} : (wayQ n arcs roots to).length ≤ 1000000 := by
  rcases h : rightB n arcs with _ | _
  · unfold wayQ; rw [h]; simp
  · obtain ⟨m, rfl⟩ := nat_of (right_is h).1
    exact Nat.le_trans (way_ok h).len (by omega)
theorem loopQ_len {n : Int} (hn : n ≤ 14) {arcs : List Arc} : (loopQ n arcs).length ≤ 1000000 := by
  rcases h : rightB n arcs with _ | _
  · unfold loopQ; rw [h]; simp
  · obtain ⟨m, rfl⟩ := nat_of (right_is h).1
    unfold loopQ
    rw [h]
    exact Nat.le_trans (loop_ok h).len (by omega)
theorem reachQ_len {n : Int} (hn : n ≤ 14) {arcs : List Arc} {roots : List Int} : (reachQ n arcs roots).length ≤ 1000000 := by
  unfold reachQ
  rcases h : rightB n arcs with _ | _
  · simp
  · obtain ⟨m, rfl⟩ := nat_of (right_is h).1
    show (intL (reachL m arcs roots)).length ≤ _
    rw [intL_len]
    exact Nat.le_trans (reachN_len m _ m) (by omega)

set_option maxHeartbeats 4000000 in
set_option maxRecDepth 100000 in
theorem samelaw_any (w : World) (n : Int) (v : Value) (arcs : List Arc) (rv : Value) (roots : List Int) (to : Int) (hn : I64 n) (h1 : ArgArcs w v arcs) (h2 : ArgI w rv roots) (hto : I64 to) :
    Calls Try.prog 9 #[.int .i64 n, v, rv, .int .i64 to] w fun e w' => e = .returned (.bool true) ∧ Below w.heap.size w w' := by
  obtain ⟨p, c, hv⟩ := h1.row.slice
  obtain ⟨M, hM⟩ : ∃ M, arcs.length = M := ⟨_, rfl⟩
  rw [hM] at hv
  subst hv
  obtain ⟨q, d, hrv⟩ := Rw.slice h2.row
  obtain ⟨K, hK⟩ : ∃ K, roots.length = K := ⟨_, rfl⟩
  rw [hK] at hrv
  subst hrv
  have HRr := Hd.mk h2.row
  have HLr := Hd.mk hK
  have HL := Hd.mk hM
  have HR := Hd.mk h1.row
  have HS := Hd.mk (small_any w)
  have HI := Hd.mk hn
  clear h1 h2 hK hM hn hto
  go_enter Try.func9, Try.ntmps9
  go_wp2_with fail
  refine HS.out.mono ?_
  rintro e w1 ⟨rfl, b1⟩
  have HB := Hd.mk b1
  have HF := Hd.mk (few_any w1 n p q M K c d)
  clear b1 HS
  rcases hf : fewB n M K with _ | _
  · rw [hf] at HF
    clear hf
    go_wp2_with fail
    refine HF.out.mono ?_
    rintro e w2 ⟨rfl, rfl⟩
    go_wp2
    go_ret
    exact ⟨rfl, HB.out⟩
  have hfb : n ≤ 14 ∧ M ≤ 60 ∧ K ≤ 20 := by
    simp only [fewB, Bool.and_eq_true, decide_eq_true_eq] at hf
    omega
  rw [hf] at HF
  clear hf
  go_wp2_with fail
  refine HF.out.mono ?_
  rintro e w2 ⟨rfl, rfl⟩
  clear HF
  go_upto_region 4 with (fail)
  go_cut [10] from 14 (fun s10 wx => s10 = .slice none 0 0 ∧ w1 = wx)
  case first =>
    go_wp2
    go_meet
    exact ⟨rfl, rfl⟩
  case rest =>
  obtain ⟨rfl, rfl⟩ := hcut
  go_step
  go_step
  -- the arcs, turned
  go_cut [10] from 14 (fun s10 wx => Hd (wx.ownsRow w.heap.size 36 2 s10 M (arcs.reverse.flatMap Arc.cells)) ∧ Hd (Below w.heap.size w wx))
  case first =>
    have hw0 : IntKind.i64.wrap ((M : Int) - 1) = (M : Int) - 1 := IntWalk.i64_in _ (by omega)
    go_wp2
    clear hw0
    go_loopw [11, 10] (fun iv bv wr => ∃ r : Nat, r ≤ M ∧ iv = .int .i64 ((r : Int) - 1) ∧ Hd (wr.ownsRow w.heap.size 36 2 bv (M - r) ((arcs.drop r).reverse.flatMap Arc.cells)) ∧ Hd (Below w.heap.size w wr)) (fun iv _ _ => (intOf iv + 1).toNat)
    case atStart => exact ⟨M, Nat.le_refl _, rfl, ⟨by
      rw [List.drop_of_length_le (by rw [HL.out]; exact Nat.le_refl _), Nat.sub_self]
      exact World.ownsRow_nil _ _ _ _⟩, HB⟩
    case round =>
      obtain ⟨r, hr, hiv, HO, HK⟩ := hrel
      rcases Nat.eq_zero_or_pos r with h0 | h0
      · subst h0
        have hiv' : u11 = .int .i64 (-1) := hiv
        subst hiv'
        have HO2 : Hd (wr.ownsRow w.heap.size 36 2 u10 M (arcs.reverse.flatMap Arc.cells)) := HO
        clear HO
        go_wp2
        go_meet
        exact ⟨HO2, HK⟩
      · obtain ⟨s, rfl⟩ : ∃ s, r = s + 1 := ⟨r - 1, by omega⟩
        have hiv' : u11 = .int .i64 (s : Int) := by rw [hiv]; congr 1; omega
        subst hiv'
        have hsl : s < arcs.length := by rw [HL.out]; omega
        have hd1 : decide ((0 : Int) ≤ (s : Int)) = true := decide_eq_true (by omega)
        have hms : (intOf (.int .i64 ((s : Int) - 1)) + 1).toNat < (intOf (.int .i64 (s : Int)) + 1).toNat := by simp only [intOf]; omega
        obtain ⟨g, of, cs, hpe, hg, hcl, hE, hcc⟩ := (HR.out.below Arc.stays HK.out).at rfl (j := s) hsl
        subst hpe
        rw [show cs = arcs[s].cells from hE] at hcc
        have hdr := drop_rev arcs hsl
        obtain ⟨a, ha⟩ : ∃ a, arcs[s] = a := ⟨_, rfl⟩
        rw [ha] at hcc hdr
        obtain ⟨x, y⟩ := a
        have d0 : wr.cell? ⟨g, of + s * 2, none⟩ = some (.int .i64 x) := hcc 0 _ rfl
        have d1 : wr.cell? ⟨g, of + s * 2 + 1, none⟩ = some (.int .i64 y) := hcc 1 _ rfl
        obtain ⟨v', w', hrun, hown, hbel⟩ := arc_push x y HO.out (by omega) HK.out.size
        rw [← hdr, show M - (s + 1) + 1 = M - s by omega] at hown
        have HRun := Hd.mk hrun
        have HO2 := Hd.mk hown
        have HK2 := Hd.mk (HK.out.trans hbel)
        have b1 : (s : Int) < (M : Int) := by omega
        clear hcc hcl hE hg ha hsl cs hdr hrun hown hbel HO hiv
        go_wp2_with ((at_builtin; refine wp_append_run (vs := u10) (vx := .slice (some ⟨wr.heap.size, 0, none⟩) 1 1) (W := wr.alloc (.cells #[.int .i64 x, .int .i64 y] 36)) rfl (Operand.tmp 28) (Operand.tmp 33) 22 rfl rfl rfl HRun.out ?_))
        go_wp2_with fail
        go_roundw
        case rel => exact ⟨s, by omega, rfl, HO2, HK2⟩
        case measure => exact hms
  case rest =>
  obtain ⟨HO, HK⟩ := hcut
  rename World => w3
  obtain ⟨v4, w4, hrun, hown, hbel⟩ := arcs_app HO.out (HR.out.below Arc.stays HK.out) (by rw [HL.out]; omega) HK.out.size
  have hrw := row_rw hown
  obtain ⟨back, hback⟩ : ∃ b, arcs.reverse ++ arcs = b := ⟨_, rfl⟩
  obtain ⟨NB, hNB⟩ : ∃ NB, back.length = NB := ⟨_, rfl⟩
  have hNBl : NB ≤ 1000 := by rw [← hNB, ← hback, List.length_append, List.length_reverse, HL.out]; omega
  have HMb : Hd (∀ a, a ∈ back ↔ a ∈ arcs) := ⟨fun a => by rw [← hback]; simp⟩
  rw [hback] at hrw
  obtain ⟨pb, cb, hbv⟩ := hrw.slice
  rw [hNB] at hbv
  subst hbv
  have HLb := Hd.mk hNB
  have HRun := Hd.mk hrun
  have HBk := Hd.mk hrw
  clear hrw hback hNB
  have HB4 := Hd.mk (HK.out.trans hbel)
  clear hrun hown hbel HO HK HB
  go_step
  go_step
  go_cut [10] from 14 (fun s10 wx => s10 = .slice pb NB cb ∧ w4 = wx)
  case first =>
    go_wp2_with ((at_builtin; refine wp_append_run rfl _ _ _ rfl _ _ _ rfl rfl HRun.out ?_))
    go_wp2_with fail
    go_meet
    exact ⟨rfl, rfl⟩
  case rest =>
  obtain ⟨rfl, rfl⟩ := hcut
  clear HRun
  go_step
  go_step
  go_cut [12] from 14 (fun s12 wx => s12 = .slice none 0 0 ∧ w4 = wx)
  case first =>
    go_wp2
    go_meet
    exact ⟨rfl, rfl⟩
  case rest =>
  obtain ⟨rfl, rfl⟩ := hcut
  go_step
  go_step
  -- the roots, turned
  obtain ⟨turned, hturned⟩ : ∃ b, dbl roots.reverse = b := ⟨_, rfl⟩
  obtain ⟨NT, hNT⟩ : ∃ NT, turned.length = NT := ⟨_, rfl⟩
  have hNTl : NT ≤ 1000 := by rw [← hNT, ← hturned, dbl_len, List.length_reverse, HLr.out]; omega
  have HMr : Hd (∀ r, r ∈ turned ↔ r ∈ roots) := ⟨fun r => by rw [← hturned, mem_dbl]; simp⟩
  have HLt := Hd.mk hNT
  have HTn := Hd.mk hturned
  clear hNT hturned
  go_cut [12] from 14 (fun s12 wx => ∃ pt ct, s12 = .slice pt NT ct ∧ Hd (RI wx (.slice pt NT ct) turned) ∧ Hd (Below w4.heap.size w4 wx))
  case first =>
    have hw0 : IntKind.i64.wrap ((K : Int) - 1) = (K : Int) - 1 := IntWalk.i64_in _ (by omega)
    go_wp2
    clear hw0
    go_loopw [13, 12] (fun iv tv wr => ∃ r : Nat, r ≤ K ∧ iv = .int .i64 ((r : Int) - 1) ∧ Hd (Own wr w4.heap.size 3 tv (ints (dbl (roots.drop r).reverse))) ∧ Hd (Below w4.heap.size w4 wr)) (fun iv _ _ => (intOf iv + 1).toNat)
    case atStart => exact ⟨K, Nat.le_refl _, rfl, ⟨by
      rw [List.drop_of_length_le (by rw [HLr.out]; exact Nat.le_refl _)]
      exact Own.nil _ _ _⟩, ⟨Below.refl _ _⟩⟩
    case round =>
      obtain ⟨r, hr, hiv, HO, HK⟩ := hrel
      rcases Nat.eq_zero_or_pos r with h0 | h0
      · subst h0
        have hiv' : u13 = .int .i64 (-1) := hiv
        subst hiv'
        have hO2 : Own wr w4.heap.size 3 u12 (ints turned) := by rw [← HTn.out]; exact HO.out
        have hR2 := RI.of hO2
        obtain ⟨pt, ct, htv⟩ := Rw.slice hR2
        rw [HLt.out] at htv
        subst htv
        have HR2 := Hd.mk hR2
        clear hO2 hR2 HO
        go_wp2
        go_meet
        exact ⟨_, _, rfl, HR2, HK⟩
      · obtain ⟨s, rfl⟩ : ∃ s, r = s + 1 := ⟨r - 1, by omega⟩
        have hiv' : u13 = .int .i64 (s : Int) := by rw [hiv]; congr 1; omega
        subst hiv'
        have hsl : s < roots.length := by rw [HLr.out]; omega
        have hd1 : decide ((0 : Int) ≤ (s : Int)) = true := decide_eq_true (by omega)
        have hms : (intOf (.int .i64 ((s : Int) - 1)) + 1).toNat < (intOf (.int .i64 (s : Int)) + 1).toNat := by simp only [intOf]; omega
        obtain ⟨g, o, e2, hE⟩ := RI.ever HRr.out (by omega)
        subst e2
        have S1 : Hd (∀ w', Below w.heap.size w w' → w'.cell? ⟨g, o + s, none⟩ = some (.int .i64 roots[s])) := ⟨fun w' hb => hE s hsl w' hb⟩
        have hdr := drop_rev roots hsl
        obtain ⟨x, hx⟩ : ∃ x, roots[s] = x := ⟨_, rfl⟩
        rw [hx] at S1 hdr
        have HDr : Hd (dbl (roots.drop s).reverse = dbl (roots.drop (s + 1)).reverse ++ [x, x]) := ⟨by rw [hdr, dbl_snoc]⟩
        have HDl : Hd ((ints (dbl (roots.drop (s + 1)).reverse)).length ≤ 100) := ⟨by simp only [ints, List.length_map, dbl_len, List.length_reverse, List.length_drop]; rw [HLr.out]; omega⟩
        obtain ⟨i0, hi0, hz0, hz1, hz2⟩ := info_parts infoInt
        have HI0 := Hd.mk (And.intro hi0 (And.intro hz0 (And.intro hz1 hz2)))
        have HKd : Hd (Below w4.heap.size w4 wr.drew) := ⟨HK.out.trans ((Bel wr 1).mono HK.out.size)⟩
        have HKa : Hd (Below w4.heap.size w4 (wr.drew.alloc (.cells #[.int .i64 x, .int .i64 x] 3))) := ⟨up HKd.out _⟩
        have HOa : Hd (Own (wr.drew.alloc (.cells #[.int .i64 x, .int .i64 x] 3)) w4.heap.size 3 u12 (ints (dbl (roots.drop (s + 1)).reverse))) := ⟨(HO.out.keeps ((Keeps.refl (fun _ => False) wr).drew) (fun _ _ h => h)).alloc _⟩
        have HBw : Hd (∀ w', Below w4.heap.size w4 w' → Below w.heap.size w w') := ⟨fun w' hb => HB4.out.trans (hb.mono HB4.out.size)⟩
        have b1 : (s : Int) < (K : Int) := by omega
        clear hE hx hsl hdr hi0 hz0 hz1 hz2 HO hiv
        go_upto_region 14 with (fail)
        refine wp_region_lin default (fun w' => w'.cell? ⟨g, o + s, none⟩ = some (.int .i64 x)) [(0, true), (1, true), (2, true), (3, true), (4, true), (5, true), (6, true), (7, true), (8, true), (9, false), (10, false), (11, true)] (by kernel_rfl) (by kernel_rfl) rfl (by kernel_rfl) (by kernel_rfl) (S1.out _ (HBw.out _ HKd.out)) ?_
        simp only [pick, List.getD_cons_zero, List.getD_cons_succ]
        repeat
          refine lin_free (v := ?_) (by rfl) ?_ ?_
          rotate_left
          · intro w' hSw
            have d0 := hSw
            clear hSw
            go_simp
            first | done | with_reducible rfl
          simp only [Act.put, List.setIfInBounds_toArray, List.set_cons_zero, List.set_cons_succ]
        refine lin_bound (fun K' hK => ?_)
        go_simp
        refine hK.out _ _ (S1.out _ (HBw.out _ HKa.out)) ?_
        clear hK K'
        refine lin_bound (fun K' hK => ?_)
        refine step_app (by rfl) (Operand.tmp 45) (Operand.tmp 54) 23 (by rfl) 3 Try.underlying23 HI0.out.1 HI0.out.2.1 HI0.out.2.2.1 HI0.out.2.2.2 rfl u12 (ints (dbl (roots.drop (s + 1)).reverse)) [.int .i64 x, .int .i64 x] (wr.drew.alloc (.cells #[.int .i64 x, .int .i64 x] 3)) wr.heap.size 2 (by rfl) HOa.out (by rfl) ⟨_, _, heap_alloc_new wr.drew _⟩ (fun u hu => by simp at hu; subst hu; rfl) ?_ ?_ HKa.out.size ?_
        · have := HDl.out; show _ + 2 ≤ _; unfold maxLen; omega
        · have := HDl.out; show (_ + 2) * 8 ≤ _; omega
        intro v' w7 k1 k2 k3
        have HO7 : Hd (Own w7 w4.heap.size 3 v' (ints (dbl (roots.drop s).reverse))) := ⟨by
          rw [HDr.out, show ints (dbl (roots.drop (s + 1)).reverse ++ [x, x]) = ints (dbl (roots.drop (s + 1)).reverse) ++ [.int .i64 x, .int .i64 x] by simp [ints]]
          exact k1⟩
        have HK7 : Hd (Below w4.heap.size w4 w7) := ⟨HKa.out.trans (k2.below HKa.out.size (fun g hg hr => by have := (HOa.out.lt hr).1; omega))⟩
        clear k1 k2 k3
        refine hK.out _ _ (S1.out _ (HBw.out _ HK7.out)) ?_
        clear hK K'
        simp only [Act.put, List.setIfInBounds_toArray, List.set_cons_zero, List.set_cons_succ]
        repeat
          refine lin_free (v := ?_) (by rfl) ?_ ?_
          rotate_left
          · intro w' hSw
            go_simp
            first | done | with_reducible rfl
          try simp only [Act.put, List.setIfInBounds_toArray, List.set_cons_zero, List.set_cons_succ]
        refine NoPanic.normal ?_
        go_wp2
        go_roundw
        case rel => exact ⟨s, by omega, rfl, HO7, HK7⟩
        case measure => exact hms
  case rest =>
  obtain ⟨pt, ct, rfl, HTr, HK5⟩ := hcut
  rename World => w5
  have hB5 : Below w.heap.size w w5 := HB4.out.trans (HK5.out.mono HB4.out.size)
  have HB5 := Hd.mk hB5
  have HRa : Hd (∀ w', Below w5.heap.size w5 w' → Rw 2 Arc.E w' (.slice p M c) arcs) := ⟨fun w' hb => HR.out.below Arc.stays (HB5.out.trans (hb.mono HB5.out.size))⟩
  have HRb : Hd (∀ w', Below w5.heap.size w5 w' → Rw 2 Arc.E w' (.slice pb NB cb) back) := ⟨fun w' hb => HBk.out.below Arc.stays (HK5.out.trans (hb.mono HK5.out.size))⟩
  have HRo : Hd (∀ w', Below w5.heap.size w5 w' → RI w' (.slice q K d) roots) := ⟨fun w' hb => Rw.below HRr.out intE_stays (HB5.out.trans (hb.mono HB5.out.size))⟩
  have HRt : Hd (∀ w', Below w5.heap.size w5 w' → RI w' (.slice pt NT ct) turned) := ⟨fun w' hb => Rw.below HTr.out intE_stays hb⟩
  have HBe : Hd (∀ w', Below w5.heap.size w5 w' → Below w.heap.size w w') := ⟨fun w' hb => HB5.out.trans (hb.mono HB5.out.size)⟩
  have hn14 : n ≤ 14 := hfb.1
  have HLs : Hd (arcs.length ≤ 1000000 ∧ back.length ≤ 1000000 ∧ roots.length ≤ 1000000 ∧ turned.length ≤ 1000000) := ⟨by rw [HL.out, HLb.out, HLr.out, HLt.out]; omega⟩
  have HC0 := Hd.mk (Below.refl w5.heap.size w5)
  clear hB5 hfb HR HBk HRr HTr HK5 HB4 HB5 HTn
  -- Parts
  have HP1 := Hd.mk (parts_q w5 n hn14 (.slice p M c) arcs (HRa.out w5 HC0.out) HLs.out.1)
  go_wp2_with fail
  refine HP1.out.mono ?_
  rintro e w6 ⟨v6, rfl, o6, b6⟩
  have HC6 := Hd.mk (HC0.out.trans b6)
  have HO6 := Hd.mk o6
  have hp2 := parts_q w6 n hn14 (.slice pb NB cb) back (HRb.out w6 HC6.out) HLs.out.2.1
  rw [partsQ_back HMb.out] at hp2
  have HP2 := Hd.mk hp2
  clear hp2 o6 b6 HP1
  go_wp2_with fail
  refine HP2.out.mono ?_
  rintro e w7 ⟨v7, rfl, o7, b7⟩
  have HC7 := Hd.mk (HC6.out.trans (b7.mono HC6.out.size))
  have hs7 := rsameL_any w7 v6 v7 _ _ (partsQ_len hn14 (arcs := arcs)).1 (partsQ_len hn14).2 (partsQ_len hn14).2 (partsQ_len hn14).1 (HO6.out.below rowE_stays b7) o7
  rw [decide_eq_true rfl] at hs7
  have HS7 := Hd.mk hs7
  clear hs7 o7 b7 HP2 HO6 HC6
  go_wp2_with fail
  refine HS7.out.mono ?_
  rintro e w8 ⟨rfl, b8⟩
  have HC8 := Hd.mk (HC7.out.trans (b8.mono HC7.out.size))
  clear b8 HS7 HC7
  -- Loop
  have HP9 := Hd.mk (loop_q w8 n HI.out hn14 (.slice p M c) arcs (HRa.out w8 HC8.out) HLs.out.1)
  go_wp2_with fail
  refine HP9.out.mono ?_
  rintro e w9 ⟨v9, rfl, o9, b9⟩
  have HC9 := Hd.mk (HC8.out.trans (b9.mono HC8.out.size))
  have HO9 := Hd.mk o9
  have hp10 := loop_q w9 n HI.out hn14 (.slice pb NB cb) back (HRb.out w9 HC9.out) HLs.out.2.1
  rw [loopQ_back HMb.out] at hp10
  have HP10 := Hd.mk hp10
  clear hp10 o9 b9 HP9
  go_wp2_with fail
  refine HP10.out.mono ?_
  rintro e w10 ⟨v10, rfl, o10, b10⟩
  have HC10 := Hd.mk (HC9.out.trans (b10.mono HC9.out.size))
  have hs10 := rsame_any w10 v9 v10 _ _ (loopQ_len hn14) (loopQ_len hn14) (Rw.below HO9.out intE_stays b10) o10
  rw [decide_eq_true rfl] at hs10
  have HS10 := Hd.mk hs10
  clear hs10 o10 b10 HP10 HO9 HC9
  go_wp2_with fail
  refine HS10.out.mono ?_
  rintro e w11 ⟨rfl, b11⟩
  have HC11 := Hd.mk (HC10.out.trans (b11.mono HC10.out.size))
  clear b11 HS10 HC10
  -- Reach
  have HP12 := Hd.mk (reach_q w11 n hn14 (.slice p M c) (.slice q K d) arcs roots (HRa.out w11 HC11.out) HLs.out.1 (HRo.out w11 HC11.out) HLs.out.2.2.1)
  go_wp2_with fail
  refine HP12.out.mono ?_
  rintro e w12 ⟨v12, rfl, o12, b12⟩
  have HC12 := Hd.mk (HC11.out.trans (b12.mono HC11.out.size))
  have HO12 := Hd.mk o12
  have hp13 := reach_q w12 n hn14 (.slice pb NB cb) (.slice pt NT ct) back turned (HRb.out w12 HC12.out) HLs.out.2.1 (HRt.out w12 HC12.out) HLs.out.2.2.2
  rw [reachQ_back HMb.out HMr.out] at hp13
  have HP13 := Hd.mk hp13
  clear hp13 o12 b12 HP12
  go_wp2_with fail
  refine HP13.out.mono ?_
  rintro e w13 ⟨v13, rfl, o13, b13⟩
  have HC13 := Hd.mk (HC12.out.trans (b13.mono HC12.out.size))
  have hs13 := rsame_any w13 v12 v13 _ _ (reachQ_len hn14) (reachQ_len hn14) (Rw.below HO12.out intE_stays b13) o13
  rw [decide_eq_true rfl] at hs13
  have HS13 := Hd.mk hs13
  clear hs13 o13 b13 HP13 HO12 HC12
  go_wp2_with fail
  refine HS13.out.mono ?_
  rintro e w14 ⟨rfl, b14⟩
  have HC14 := Hd.mk (HC13.out.trans (b14.mono HC13.out.size))
  clear b14 HS13 HC13
  -- Way
  have HP15 := Hd.mk (way_q w14 n hn14 (.slice p M c) (.slice q K d) arcs roots to (HRa.out w14 HC14.out) HLs.out.1 (HRo.out w14 HC14.out) HLs.out.2.2.1)
  go_wp2_with fail
  refine HP15.out.mono ?_
  rintro e w15 ⟨v15, rfl, o15, b15⟩
  have HC15 := Hd.mk (HC14.out.trans (b15.mono HC14.out.size))
  have HO15 := Hd.mk o15
  have hp16 := way_q w15 n hn14 (.slice pb NB cb) (.slice pt NT ct) back turned to (HRb.out w15 HC15.out) HLs.out.2.1 (HRt.out w15 HC15.out) HLs.out.2.2.2
  rw [wayQ_back HMb.out HMr.out] at hp16
  have HP16 := Hd.mk hp16
  clear hp16 o15 b15 HP15
  go_wp2_with fail
  refine HP16.out.mono ?_
  rintro e w16 ⟨v16, rfl, o16, b16⟩
  have HC16 := Hd.mk (HC15.out.trans (b16.mono HC15.out.size))
  have hs16 := rsame_any w16 v15 v16 _ _ (wayQ_len hn14) (wayQ_len hn14) (Rw.below HO15.out intE_stays b16) o16
  rw [decide_eq_true rfl] at hs16
  have HS16 := Hd.mk hs16
  clear hs16 o16 b16 HP16 HO15 HC15
  go_wp2_with fail
  refine HS16.out.mono ?_
  rintro e w17 ⟨rfl, b17⟩
  have HC17 := Hd.mk (HC16.out.trans (b17.mono HC16.out.size))
  clear b17 HS16 HC16
  have HBf := Hd.mk (HBe.out w17 HC17.out)
  go_wp2
  go_ret
  exact ⟨rfl, HBf.out⟩

end Go.Proofs.Ytlncfhkmjbempaa.W

