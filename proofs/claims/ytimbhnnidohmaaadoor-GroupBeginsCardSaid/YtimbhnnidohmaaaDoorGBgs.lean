import Derived.Test.YtimbhnnidohmaaaDoorGrpK
import Derived.Test.YtimbhnnidohmaaaDoorAppF
import Derived.Test.YtimbhnnidohmaaaDoorObjA
import Derived.Test.YtimbhnnidohmaaaDoorTab
import Derived.BigQuiet
/-
  GroupBegins: what is kept of the first objects does not depend on the others; an object without groups changes nothing. No program.
-/
namespace Go.Proofs.YtimbhnnidohmaaaDoor.W
set_option linter.unusedVariables false

/-- what a step notes differs from n on -/
theorem grpStep_new (i : Nat) (o : Ob) (σ : KSt) (g : Grp) : ∃ r, (grpStep i o σ g).differ = σ.differ ++ r ∧ ∀ d ∈ r, d.other = i := by
  unfold grpStep
  split
  · exact ⟨[], by simp, by simp⟩
  · simp only
    split
    · exact ⟨[], by simp, by simp⟩
    · exact ⟨_, rfl, by simp⟩
theorem midSt_new (l : List Ob) (i : Nat) (o : Ob) : ∀ j, j ≤ o.groups.length → ∃ r, (midSt l i o j).differ = (keepR (l.take i)).differ ++ r ∧ ∀ d ∈ r, d.other = i
  | 0, _ => ⟨[], by rw [midSt_zero]; simp, by simp⟩
  | j + 1, h => by
    obtain ⟨r, h1, h2⟩ := midSt_new l i o j (by omega)
    obtain ⟨r', h3, h4⟩ := grpStep_new i o (midSt l i o j) o.groups[j]
    refine ⟨r ++ r', by rw [midSt_step (by omega), h3, h1, List.append_assoc], fun d hd => ?_⟩
    rcases List.mem_append.1 hd with h | h
    · exact h2 d h
    · exact h4 d h
theorem keepR_new (l : List Ob) (n : Nat) : ∀ k, n + k ≤ l.length → ∃ r, (keepR (l.take (n + k))).differ = (keepR (l.take n)).differ ++ r ∧ ∀ d ∈ r, n ≤ d.other
  | 0, _ => ⟨[], by simp, by simp⟩
  | k + 1, h => by
    obtain ⟨r, h1, h2⟩ := keepR_new l n k (by omega)
    obtain ⟨r', h3, h4⟩ := midSt_new l (n + k) (l[n + k]'(by omega)) _ (Nat.le_refl _)
    refine ⟨r ++ r', ?_, fun d hd => ?_⟩
    · rw [← Nat.add_assoc, midSt_end (by omega : n + k < l.length)]
      show (midSt l (n + k) _ _).differ = _
      rw [h3, h1, List.append_assoc]
    · rcases List.mem_append.1 hd with h | h
      · exact h2 d h
      · have := h4 d h; omega
theorem begins_new {l : List Ob} {n : Nat} (h : n ≤ l.length) : ∃ r, (keepR l).differ = (keepR (l.take n)).differ ++ r ∧ ∀ d ∈ r, n ≤ d.other := by
  have := keepR_new l n (l.length - n) (by omega)
  rwa [show n + (l.length - n) = l.length by omega, List.take_length] at this
theorem begins_keep {l : List Ob} (hk : KeepOk l) {n : Nat} (h : n ≤ l.length) : (keepR l).keep.take n = (keepR (l.take n)).keep := by
  have := (keep_take hk n l.length h (Nat.le_refl _)).1
  rwa [List.take_length] at this

/-- an object without groups -/
def bare (o : Ob) : Ob := { o with groups := [] }
theorem begins_bare (l : List Ob) (o : Ob) : keepR (l ++ [bare o]) = ⟨(keepR l).seen, (keepR l).keep ++ [List.replicate o.secs.length true], (keepR l).differ⟩ := by
  unfold keepR
  rw [keepF_app]
  rfl
theorem KeepOk.take {l : List Ob} (h : KeepOk l) (n : Nat) : KeepOk (l.take n) :=
  have m : ∀ {o}, o ∈ l.take n → o ∈ l := fun h => List.mem_of_mem_take h
  ⟨by have := h.len; rw [List.length_take]; omega, fun o ho => h.ok o (m ho), fun o ho => h.secs o (m ho), fun o ho => h.groups o (m ho), fun o ho => h.bytes o (m ho), fun o ho => h.gsecs o (m ho)⟩
theorem Few.more {l : List Ob} {o : Ob} (h : Few l) (hl : l.length ≤ 7) (h1 : Few [o]) : Few (l ++ [bare o]) := by
  refine ⟨by simp; omega, fun x hx => ?_⟩
  rcases List.mem_append.1 hx with hx | hx
  · exact h.2 x hx
  · rw [List.mem_singleton.1 hx]
    have := h1.2 o (by simp)
    exact ⟨⟨this.1.1, Nat.zero_le _⟩, this.2.1, by intro g hg; exact absurd hg (by simp [bare])⟩
theorem bare_ok {o : Ob} (h : o.Ok) : (bare o).Ok := { h with groups := Nat.zero_le _, groupsI := fun g hg => absurd hg (by simp [bare]) }

theorem keepR_rows {l : List Ob} (h : KeepOk l) : ∀ ks ∈ (keepR l).keep, ks.length ≤ 1000 := fun ks hk => by
  obtain ⟨i, hi, rfl⟩ := List.mem_iff_getElem.1 hk
  have hi' : i < l.length := by rw [← keepR_keep_len h]; exact hi
  have h1 := keep_at h hi'
  rw [List.getElem?_eq_getElem hi] at h1
  rw [Option.some.inj h1, midSt_kept_len l i l[i] _ (Nat.le_refl _)]
  exact h.secs _ (List.getElem_mem _)
theorem keepR_diffs {l : List Ob} (h : KeepOk l) : (keepR l).differ.length ≤ 1000000 := by
  have h1 := (keepR_len h l.length (Nat.le_refl _)).2.1
  rw [List.take_length] at h1
  have := h.len
  omega

end Go.Proofs.YtimbhnnidohmaaaDoor.W

/-
  GroupBegins: rows of objects put together.
-/
namespace Go.Proofs.YtimbhnnidohmaaaDoor.W
open Go.RowKit
set_option linter.unusedVariables false

theorem pick_cells {α : Type} : ∀ (xs : List α) (Q : Nat → List Value → α → Prop), (∀ j x, xs[j]? = some x → ∃ cs, Q j cs x) → ∃ css : List (List Value), css.length = xs.length ∧ ∀ j x cs, xs[j]? = some x → css[j]? = some cs → Q j cs x
  | [], Q, _ => ⟨[], rfl, fun j x cs h => by simp at h⟩
  | x :: xs, Q, h => by
    obtain ⟨c0, h0⟩ := h 0 x rfl
    obtain ⟨css, hl, hq⟩ := pick_cells xs (fun j => Q (j + 1)) (fun j y hy => h (j + 1) y (by simpa using hy))
    refine ⟨c0 :: css, by simp [hl], fun j y cs hy hc => ?_⟩
    cases j with
    | zero =>
      simp at hy hc
      subst hy; subst hc; exact h0
    | succ j => exact hq j y cs (by simpa using hy) (by simpa using hc)
theorem flat_at {m : Nat} : ∀ {css : List (List Value)}, (∀ cs ∈ css, cs.length = m) → ∀ k u, css.flatten[k]? = some u → ∃ j i cs, k = j * m + i ∧ css[j]? = some cs ∧ cs[i]? = some u
  | [], _, k, u, h => by simp at h
  | c :: css, hm, k, u, h => by
    have hc := hm c (by simp)
    rw [List.flatten_cons] at h
    rcases Nat.lt_or_ge k c.length with hk | hk
    · rw [List.getElem?_append_left hk] at h
      exact ⟨0, k, c, by omega, rfl, h⟩
    · rw [List.getElem?_append_right hk] at h
      obtain ⟨j, i, cs, e, h1, h2⟩ := flat_at (fun cs h => hm cs (List.mem_cons_of_mem _ h)) _ _ h
      exact ⟨j + 1, i, cs, by rw [Nat.add_mul]; omega, by simpa using h1, h2⟩
theorem flat_get {m : Nat} : ∀ {css : List (List Value)}, (∀ cs ∈ css, cs.length = m) → ∀ j i cs u, css[j]? = some cs → cs[i]? = some u → css.flatten[j * m + i]? = some u
  | [], _, j, i, cs, u, h, _ => by simp at h
  | c :: css, hm, 0, i, cs, u, h, hu => by
    have : c = cs := by simpa using h
    subst this
    rw [List.flatten_cons, Nat.zero_mul, Nat.zero_add, List.getElem?_append_left (List.getElem?_eq_some_iff.1 hu).1, hu]
  | c :: css, hm, j + 1, i, cs, u, h, hu => by
    have hc := hm c (by simp)
    rw [List.flatten_cons, List.getElem?_append_right (by rw [hc, Nat.add_mul]; omega), hc, show (j + 1) * m + i - m = j * m + i by rw [Nat.add_mul]; omega]
    exact flat_get (fun cs h => hm cs (List.mem_cons_of_mem _ h)) j i cs u (by simpa using h) hu
theorem flat_len {m : Nat} : ∀ {css : List (List Value)}, (∀ cs ∈ css, cs.length = m) → css.flatten.length = css.length * m
  | [], _ => by simp
  | c :: css, hm => by
    rw [List.flatten_cons, List.length_append, hm c (by simp), flat_len (fun cs h => hm cs (List.mem_cons_of_mem _ h)), List.length_cons, Nat.add_mul]; omega

/-- a row that the call owns, to be read -/
theorem rw_of_owns {α : Type} {m B n : Nat} {E : World → List Value → α → Prop} {w : World} {e : TypeId} {v : Value} {css : List (List Value)} {xs : List α} (h : w.ownsRow B e m v n css.flatten) (hn : n = xs.length) (hl : css.length = xs.length) (hm : ∀ cs ∈ css, cs.length = m)
    (hE : ∀ (j : Nat) (x : α) (cs : List Value), xs[j]? = some x → css[j]? = some cs → E w cs x) : Rw m E w v xs := by
  subst hn
  rcases h.2 with ⟨rfl, h0⟩ | ⟨b, cap, cur, rfl, _, hb, _, _, _, ht⟩
  · exact ⟨.inl ⟨List.eq_nil_of_length_eq_zero h0, .inl rfl⟩⟩
  · refine ⟨.inr ⟨b, 0, cap, rfl, typ_lt hb, fun j x hx => ?_⟩⟩
    have hj : j < css.length := by rw [hl]; exact (List.getElem?_eq_some_iff.1 hx).1
    refine ⟨css[j], hm _ (List.getElem_mem hj), hE j x _ hx (List.getElem?_eq_getElem hj), fun i u hu => ?_⟩
    have h1 := flat_get hm j i _ u (List.getElem?_eq_getElem hj) hu
    rw [← ht, List.getElem?_take] at h1
    split at h1
    · rw [Nat.zero_add]
      simp [World.cell?, hb]
      simpa using h1
    · cases h1

theorem infoOb : (Tryd.prog.info? 43).map (fun i => (i.zero, i.size, i.bytes)) = some (some (.agg #[.string ⟨#[]⟩, .slice none 0 0, .slice none 0 0, .slice none 0 0, .slice none 0 0, .slice none 0 0, .slice none 0 0, .slice none 0 0, .slice none 0 0, .slice none 0 0, .slice none 0 0]), 11, 256) := by kernel_rfl
theorem Rw.isSlice {α : Type} {m : Nat} {E : World → List Value → α → Prop} {w : World} {v : Value} {xs : List α} (h : Rw m E w v xs) : v.oneCell' = true := by
  obtain ⟨p, c, rfl⟩ := h.slice
  rfl
theorem Ob.E.one {w : World} {cs : List Value} {o : Ob} (h : Ob.E w cs o) : ∀ u ∈ cs, u.oneCell' = true := by
  obtain ⟨x1, x2, x3, x4, x5, x6, x7, x8, x9, x10, rfl, h⟩ := h
  intro u hu
  simp only [Ob.cells, List.mem_cons, List.not_mem_nil, or_false] at hu
  rcases hu with rfl | rfl | rfl | rfl | rfl | rfl | rfl | rfl | rfl | rfl | rfl
  · rfl
  · exact h.secs.isSlice
  · exact h.syms.isSlice
  · exact h.rels.isSlice
  · exact h.groups.isSlice
  · exact h.inits.isSlice
  · exact h.lines.isSlice
  · exact h.inlines.isSlice
  · exact h.vars.isSlice
  · exact h.depths.isSlice
  · exact h.converts.isSlice

theorem empty_row2 (w : World) (B : Nat) (hB : B ≤ w.heap.size) (e : TypeId) (size : Nat) : (w.alloc (.cells #[] e)).ownsRow B e size (.slice (some ⟨w.heap.size, 0, none⟩) 0 0) 0 [] :=
  ⟨by simp, .inr ⟨w.heap.size, 0, #[], rfl, hB, (Blk.new w e []).is, Nat.le_refl _, by unfold maxLen; omega, by simp, by simp⟩⟩

/-- append([]Object{}, objs...) -/
theorem objs_app (w0 w : World) (hb0 : Below w0.heap.size w0 w) (v : Value) (l : List Ob) (hl : l.length ≤ 1000) (hR : Rw 11 Ob.E w0 v l) (B : Nat) (hB : B ≤ w.heap.size) (p : Option Addr) (hown : w.ownsRow B 43 11 (.slice p 0 0) 0 []) :
    ∃ (v' : Value) (w' : World) (css : List (List Value)), (Builtin.append_ #[22, 22] 22 #[.slice p 0 0, v]).run Tryd.prog w = .ok v' w' ∧ w'.ownsRow B 43 11 v' l.length css.flatten ∧ css.length = l.length ∧ (∀ cs ∈ css, cs.length = 11) ∧
      (∀ (j : Nat) (x : Ob) (cs : List Value), l[j]? = some x → css[j]? = some cs → Ob.E w0 cs x) ∧ Keeps (fun _ => False) w w' := by
  obtain ⟨i0, hi, hz0, hz1, hz2⟩ := info_parts infoOb
  have fin : ∀ (q : Option Addr) (c : Nat) (css : List (List Value)), v = .slice q l.length c → css.length = l.length → (∀ cs ∈ css, cs.length = 11) → (∀ (j : Nat) (x : Ob) (cs : List Value), l[j]? = some x → css[j]? = some cs → Ob.E w0 cs x) → ((q = none ∧ l.length = 0) ∨ ∃ a, q = some a ∧ ∀ (j : Nat) (u : Value), css.flatten[j]? = some u → w.cell? (a.add j) = some u) →
      ∃ (v' : Value) (w' : World) (css : List (List Value)), (Builtin.append_ #[22, 22] 22 #[.slice p 0 0, v]).run Tryd.prog w = .ok v' w' ∧ w'.ownsRow B 43 11 v' l.length css.flatten ∧ css.length = l.length ∧ (∀ cs ∈ css, cs.length = 11) ∧
      (∀ (j : Nat) (x : Ob) (cs : List Value), l[j]? = some x → css[j]? = some cs → Ob.E w0 cs x) ∧ Keeps (fun _ => False) w w' := fun q c css hv hcl hm hE hx => by
    obtain ⟨v', w', h1, h2, h3⟩ := app_fresh (P := Tryd.prog) w 22 22 43 Tryd.underlying22 hi hz0 hz1 hz2 rfl (by decide) B hB p hown q l.length c css.flatten hx (by rw [flat_len hm, hcl]) (fun u hu => by
      obtain ⟨cs, hcs, hu⟩ := List.mem_flatten.1 hu
      obtain ⟨j, hj, rfl⟩ := List.mem_iff_getElem.1 hcs
      exact (hE j _ _ (List.getElem?_eq_getElem (by omega)) (List.getElem?_eq_getElem hj)).one u hu) (by unfold maxLen; omega) (by omega)
    exact ⟨v', w', css, by rw [hv]; exact h1, h2, hcl, hm, hE, h3⟩
  rcases hR.is with ⟨rfl, rfl | ⟨a, c, rfl⟩⟩ | ⟨g, o, cap, rfl, hg, hc⟩
  · exact fin none 0 [] rfl rfl (by simp) (by simp) (.inl ⟨rfl, rfl⟩)
  · exact fin (some a) c [] rfl rfl (by simp) (by simp) (.inr ⟨a, rfl, fun j u hj => by simp at hj⟩)
  · obtain ⟨css, hcl, hq⟩ := pick_cells l (fun j cs x => cs.length = 11 ∧ Ob.E w0 cs x ∧ ∀ i u, cs[i]? = some u → w0.cell? ⟨g, o + j * 11 + i, none⟩ = some u) hc
    have hm : ∀ cs ∈ css, cs.length = 11 := fun cs hcs => by
      obtain ⟨j, hj, rfl⟩ := List.mem_iff_getElem.1 hcs
      exact (hq j _ _ (List.getElem?_eq_getElem (by omega)) (List.getElem?_eq_getElem hj)).1
    refine fin _ cap css rfl hcl hm (fun j x cs hx hcs => (hq j x cs hx hcs).2.1) (.inr ⟨_, rfl, fun k u hk => ?_⟩)
    obtain ⟨j, i, cs, e, h1, h2⟩ := flat_at hm k u hk
    rw [add_none]
    have hj : j < l.length := by rw [← hcl]; exact (List.getElem?_eq_some_iff.1 h1).1
    have := (hq j _ cs (List.getElem?_eq_getElem hj) h1).2.2 i u h2
    rw [e, ← Nat.add_assoc, hb0.cell (p := ⟨g, o + j * 11 + i, none⟩) hg]; exact this
/-- append(row, o) -/
theorem objs_put (w0 w : World) (hb0 : Below w0.heap.size w0 w) (l : List Ob) (o : Ob) (hl : l.length ≤ 1000) (v : Value) (css : List (List Value)) (h : w.ownsRow w0.heap.size 43 11 v l.length css.flatten) (hcl : css.length = l.length) (hm : ∀ cs ∈ css, cs.length = 11)
    (hE : ∀ (j : Nat) (x : Ob) (cs : List Value), l[j]? = some x → css[j]? = some cs → Ob.E w0 cs x) (b : Nat) (cs : List Value) (hb : Blk w b 43 cs) (hc : Ob.E w0 cs o) :
    ∃ p c w', (Builtin.append_ #[22, 22] 22 #[v, .slice (some ⟨b, 0, none⟩) 1 1]).run Tryd.prog w = .ok (.slice p (l.length + 1) c) w' ∧ Rw 11 Ob.E w' (.slice p (l.length + 1) c) (l ++ [o]) ∧ Below w0.heap.size w0 w' := by
  obtain ⟨i0, hi, hz0, hz1, hz2⟩ := info_parts infoOb
  have hc11 : cs.length = 11 := by obtain ⟨x1, x2, x3, x4, x5, x6, x7, x8, x9, x10, rfl, _⟩ := hc; rfl
  obtain ⟨v', w', hr, hO, hk, _⟩ := run_row (P := Tryd.prog) w 22 22 43 Tryd.underlying22 hi hz0 hz1 hz2 rfl (by decide) v l.length css.flatten (h.mono (Nat.zero_le _)) ⟨b, 0, none⟩ 1 1 cs (by rw [hc11])
    (fun j u hj => by rw [add_none, Nat.zero_add]; exact hb.at hj) hc.one (by unfold maxLen; omega) (by omega)
  have hB : Below w0.heap.size w0 w' := hb0.trans (hk.below hb0.size (fun x hx e => by have := (h.lt x e).1; omega))
  have hR : Rw 11 Ob.E w' v' (l ++ [o]) := rw_of_owns (css := css ++ [cs]) (by rw [List.flatten_append]; simpa using hO) (by simp) (by simp [hcl]) (fun c hcm => by
    rcases List.mem_append.1 hcm with h | h
    · exact hm c h
    · rw [List.mem_singleton.1 h]; exact hc11) (fun j x c hx hcs => by
    rcases Nat.lt_or_ge j l.length with hj | hj
    · rw [List.getElem?_append_left hj] at hx
      rw [List.getElem?_append_left (by rw [hcl]; exact hj)] at hcs
      exact Ob.stays _ _ _ _ hB (hE j x c hx hcs)
    · rw [List.getElem?_append_right hj] at hx
      rw [List.getElem?_append_right (by rw [hcl]; exact hj), hcl] at hcs
      have h0 : j - l.length = 0 := by
        have := (List.getElem?_eq_some_iff.1 hx).1
        simpa using this
      rw [h0] at hx hcs
      simp at hx hcs
      subst hx; subst hcs
      exact Ob.stays _ _ _ _ hB hc)
  obtain ⟨p, c, e⟩ := hR.slice
  have e2 : (l ++ [o]).length = l.length + 1 := by simp
  rw [e2] at e
  subst e
  exact ⟨p, c, w', hr, hR, hB⟩

/-- what Keep yielded stands while what it found stands not -/
theorem OSt.rowsK {w wr w' : World} {Mb : Nat} {kpv dv : Value} {κ : KAl} (h : OSt w wr Mb kpv dv κ) {S : Nat → Prop} (k : Keeps S wr w') (hs : ∀ g, S g → g < w.heap.size) : Rw 1 boolsE w' kpv κ.keep ∧ Rw 3 dfE w' dv κ.differ := by
  obtain ⟨vs, h1, h2, h3⟩ := h.p
  have hn : ∀ {e : TypeId} {v : Value} {xs : List Value}, Own wr w.heap.size e v xs → Own w' w.heap.size e v xs := fun hO => hO.keeps k (fun g hg hS => by
    have := (hO.lt hg).1
    have := hs g hS
    omega)
  refine ⟨Rw.of_own (hn h1) h2 (fun j x u hx hu => ?_), (h.d.keeps k (fun g hg hS => by have := h.db g hg; have := hs g hS; omega)).row⟩
  obtain ⟨hj, rfl⟩ := List.getElem?_eq_some_iff.1 hx
  obtain ⟨hj', rfl⟩ := List.getElem?_eq_some_iff.1 hu
  exact ⟨_, rfl, (hn (h3 j hj' hj)).bools⟩

theorem OSt.caps {w wr : World} {Mb : Nat} {kpv dv : Value} {κ : KAl} (h : OSt w wr Mb kpv dv κ) :
    ∃ p c q d, kpv = .slice p κ.keep.length c ∧ κ.keep.length ≤ c ∧ dv = .slice q κ.differ.length d ∧ κ.differ.length ≤ d := by
  obtain ⟨vs, h1, h2, _⟩ := h.p
  have a1 : ∃ p c, kpv = .slice p κ.keep.length c ∧ κ.keep.length ≤ c := by
    rw [← h2]
    rcases h1.is with ⟨rfl, rfl⟩ | ⟨g, cap, rfl, _, hc, _⟩
    · exact ⟨none, 0, rfl, Nat.le_refl _⟩
    · exact ⟨_, cap, rfl, hc⟩
  have a2 : ∃ p c, dv = .slice p κ.differ.length c ∧ κ.differ.length ≤ c := by
    rcases h.d.is.2 with ⟨rfl, h0⟩ | ⟨b, cap, cur, rfl, _, _, hc, _⟩
    · exact ⟨none, 0, by rw [h0], by omega⟩
    · exact ⟨_, cap, rfl, hc⟩
  obtain ⟨p, c, e1, e2⟩ := a1
  obtain ⟨q, d, e3, e4⟩ := a2
  exact ⟨p, c, q, d, e1, e2, e3, e4⟩

/-- objects, and room for as many -/
structure ArgObsC (W : World) (v : Value) (l : List Ob) : Prop where
  is : ArgObs W v l
  cap : ∃ p c, v = .slice p l.length c ∧ l.length ≤ c
section
set_option maxRecDepth 100000
open Go.ChangeShapes Go.WideShapes Go.ChangeAt
variable {H : Type} {enc : TypeId × Value → H}
theorem args_ObsC {base : Nat} {W : World} {v : Value} {d : DataW H} {p : List MemPlace} (hval : Value.okWide Tryd.prog W .any base 22 v) (h : DataW.Trod enc Tryd.prog W 0 (fun _ => true) true 22 v d p)
    (hz : ∀ n ∈ d.weights Tryd.prog 22, n ≤ reachBytes) : ∃ l : List Ob, ArgObsC W v l := by
  obtain ⟨l, hl⟩ := args_Obs hval h hz
  refine ⟨l, hl, ?_⟩
  obtain ⟨q, c, hv⟩ := hl.row.slice
  refine ⟨q, c, hv, ?_⟩
  subst hv
  simp only [Value.okWide, Tryd.underlying22, Cell.okWide] at hval
  cases q with
  | some a => exact hval.1
  | none =>
    obtain ⟨n, hn⟩ : ∃ n, l.length = n := ⟨_, rfl⟩
    rw [hn] at hval ⊢
    unfold Cell.ok at hval
    rw [Tryd.underlying22] at hval
    split at hval <;> simp_all
end

end Go.Proofs.YtimbhnnidohmaaaDoor.W

/-
  GroupBegins.
-/
namespace Go.Proofs.YtimbhnnidohmaaaDoor.W
open Go.RowKit
set_option linter.unusedVariables false

theorem below_drewN (w : World) (n : Nat) : Below w.heap.size w (w.drewN n) := by
  induction n with
  | zero => exact Below.refl _ _
  | succ n ih => exact ih.drew

theorem few_one {w : World} {b : Nat} {cs : List Value} {o : Ob} (hb : Blk w b 43 cs) (hE : Ob.E w cs o) : Rw 11 Ob.E w (.slice (some ⟨b, 0, none⟩) 1 1) [o] := by
  have hc : cs.length = 11 := by obtain ⟨x1, x2, x3, x4, x5, x6, x7, x8, x9, x10, rfl, _⟩ := hE; rfl
  exact Rw.of_blk (xs := [o]) (E := Ob.E) (css := [cs]) hb (by simp) rfl (by simpa using hc) (fun j x cs' hx hc' => by
    cases j with
    | zero => simp at hx hc'; subst hx; subst hc'; exact hE
    | succ j => simp at hx)

set_option maxHeartbeats 8000000 in
set_option maxRecDepth 100000 in
theorem begins_any (w : World) (v : Value) (l : List Ob) (n : Int) (u : Value) (o : Ob) (hv : ArgObsC w v l) (hn : I64 n) (hu : ArgOb w u o) (hT : Tabs w) :
    Calls Tryd.prog 5 #[v, .int .i64 n, u] w fun e w' => e = .returned (.bool true) ∧ Below w.heap.size w w' := by
  obtain ⟨⟨cs, rfl, x1, x2, x3, x4, x5, x6, x7, x8, x9, x10, rfl, hA⟩, hok⟩ := hu
  have hcs : (o.cells x1 x2 x3 x4 x5 x6 x7 x8 x9 x10) = [.string o.name, x1, x2, x3, x4, x5, x6, x7, x8, x9, x10] := rfl
  rw [hcs]
  obtain ⟨hv, p, c, rfl, hcap⟩ := hv
  have hR := hv.row
  obtain ⟨wb, hwb⟩ : ∃ wb, w.alloc (.cells #[.string o.name, x1, x2, x3, x4, x5, x6, x7, x8, x9, x10] 43) = wb := ⟨_, rfl⟩
  have HBx : Hd (Blk wb w.heap.size 43 [.string o.name, x1, x2, x3, x4, x5, x6, x7, x8, x9, x10]) := ⟨hwb ▸ Blk.new w 43 _⟩
  have HWb : Hd (Below w.heap.size w wb) := ⟨by rw [← hwb]; go_grown⟩
  have HSm := Hd.mk (gsmall_any wb (hT.below HWb.out))
  have HFw := Hd.mk (fun w' (h : Below w.heap.size w w') => gfew_any w' _ l (hR.below Ob.stays h) hv.len hv.ok)
  have HA := Hd.mk hA
  have HOk := Hd.mk hok
  have HR := Hd.mk hR
  have HV := Hd.mk hv
  have HT := Hd.mk hT
  have HI := Hd.mk hn
  obtain ⟨M, hM⟩ : ∃ M, l.length = M := ⟨_, rfl⟩
  have HM := Hd.mk hM
  rw [hM] at HR HFw hcap
  rw [hM]
  obtain ⟨b, hb⟩ : ∃ b, w.heap.size = b := ⟨_, rfl⟩
  have HB := Hd.mk hb
  rw [hb] at HBx
  clear hR hv hT hM hA hok hcs hn
  by_cases hf : Few l
  · rw [decide_eq_true hf] at HFw
    have HKO := Hd.mk (hf.keep HV.out.ok)
    have HF := Hd.mk hf
    have hM8 : M ≤ 8 := by rw [← HM.out]; exact hf.1
    clear hf
    by_cases hn0 : n < 0
    · have tn : decide (n < 0) = true := decide_eq_true hn0
      go_enter Tryd.func5, Tryd.ntmps5
      go_upto_region 1 with (fail)
      go_wp2_with fail
      refine HSm.out.mono ?_
      rintro e w1 ⟨rfl, b1⟩
      have B1 : Hd (Below w.heap.size w w1) := ⟨below_next HWb.out b1⟩
      have HB1 : Hd (Blk w1 b 43 [.string o.name, x1, x2, x3, x4, x5, x6, x7, x8, x9, x10]) := ⟨HBx.out.below b1 HBx.out.lt⟩
      clear b1 HSm
      go_wp2_with fail
      refine (HFw.out w1 B1.out).mono ?_
      rintro e w2 ⟨rfl, b2⟩
      have B2 := Hd.mk (below_next B1.out b2)
      have HB2 : Hd (Blk w2 b 43 [.string o.name, x1, x2, x3, x4, x5, x6, x7, x8, x9, x10]) := ⟨HB1.out.below b2 HB1.out.lt⟩
      clear b2 B1 HFw HB1 hwb
      go_wp2
      go_ret
      exact ⟨rfl, B2.out⟩
    · have tn : decide (n < 0) = false := decide_eq_false hn0
      by_cases hnM : (M : Int) < n
      · have tm : decide ((M : Int) < n) = true := decide_eq_true hnM
        go_enter Tryd.func5, Tryd.ntmps5
        go_upto_region 1 with (fail)
        go_wp2_with fail
        refine HSm.out.mono ?_
        rintro e w1 ⟨rfl, b1⟩
        have B1 : Hd (Below w.heap.size w w1) := ⟨below_next HWb.out b1⟩
        have HB1 : Hd (Blk w1 b 43 [.string o.name, x1, x2, x3, x4, x5, x6, x7, x8, x9, x10]) := ⟨HBx.out.below b1 HBx.out.lt⟩
        clear b1 HSm
        go_wp2_with fail
        refine (HFw.out w1 B1.out).mono ?_
        rintro e w2 ⟨rfl, b2⟩
        have B2 := Hd.mk (below_next B1.out b2)
        have HB2 : Hd (Blk w2 b 43 [.string o.name, x1, x2, x3, x4, x5, x6, x7, x8, x9, x10]) := ⟨HB1.out.below b2 HB1.out.lt⟩
        clear b2 B1 HFw HB1 hwb
        go_wp2
        go_ret
        exact ⟨rfl, B2.out⟩
      · have tm : decide ((M : Int) < n) = false := decide_eq_false hnM
        by_cases hM7 : 7 < M
        · have t7 : decide ((7 : Int) < (M : Int)) = true := decide_eq_true (by omega)
          go_enter Tryd.func5, Tryd.ntmps5
          go_upto_region 1 with (fail)
          go_wp2_with fail
          refine HSm.out.mono ?_
          rintro e w1 ⟨rfl, b1⟩
          have B1 : Hd (Below w.heap.size w w1) := ⟨below_next HWb.out b1⟩
          have HB1 : Hd (Blk w1 b 43 [.string o.name, x1, x2, x3, x4, x5, x6, x7, x8, x9, x10]) := ⟨HBx.out.below b1 HBx.out.lt⟩
          clear b1 HSm
          go_wp2_with fail
          refine (HFw.out w1 B1.out).mono ?_
          rintro e w2 ⟨rfl, b2⟩
          have B2 := Hd.mk (below_next B1.out b2)
          have HB2 : Hd (Blk w2 b 43 [.string o.name, x1, x2, x3, x4, x5, x6, x7, x8, x9, x10]) := ⟨HB1.out.below b2 HB1.out.lt⟩
          clear b2 B1 HFw HB1 hwb
          go_wp2
          go_ret
          exact ⟨rfl, B2.out⟩
        · have t7 : decide ((7 : Int) < (M : Int)) = false := decide_eq_false (by omega)
          obtain ⟨k, rfl⟩ := Int.eq_ofNat_of_zero_le (show 0 ≤ n by omega)
          have hkM : k ≤ M := by omega
          obtain ⟨p1, c1', rfl⟩ := HA.out.secs.slice
          have HF1 := Hd.mk (fun w' b' (h : Below w.heap.size w w') (hbk : Blk w' b' 43 [.string o.name, .slice p1 o.secs.length c1', x2, x3, x4, x5, x6, x7, x8, x9, x10]) => gfew_any w' (.slice (some ⟨b', 0, none⟩) 1 1) [o] (few_one hbk ⟨_, x2, x3, x4, x5, x6, x7, x8, x9, x10, rfl, HA.out.below h⟩) (by simp) (by simpa using HOk.out))
          obtain ⟨qo, hqo⟩ : ∃ q, decide (Few [o]) = q := ⟨_, rfl⟩
          have HQo := Hd.mk hqo
          rw [hqo] at HF1
          obtain ⟨N, hN⟩ : ∃ N, o.secs.length = N := ⟨_, rfl⟩
          have HN := Hd.mk hN
          rw [hN] at HF1 HA HBx hwb
          rw [hN]
          clear hqo hN
          go_enter Tryd.func5, Tryd.ntmps5
          go_upto_region 1 with (fail)
          go_wp2_with fail
          refine HSm.out.mono ?_
          rintro e w1 ⟨rfl, b1⟩
          have B1 : Hd (Below w.heap.size w w1) := ⟨below_next HWb.out b1⟩
          have HB1 : Hd (Blk w1 b 43 [.string o.name, .slice p1 N c1', x2, x3, x4, x5, x6, x7, x8, x9, x10]) := ⟨HBx.out.below b1 HBx.out.lt⟩
          clear b1 HSm
          go_wp2_with fail
          refine (HFw.out w1 B1.out).mono ?_
          rintro e w2 ⟨rfl, b2⟩
          have B2 := Hd.mk (below_next B1.out b2)
          have HB2 : Hd (Blk w2 b 43 [.string o.name, .slice p1 N c1', x2, x3, x4, x5, x6, x7, x8, x9, x10]) := ⟨HB1.out.below b2 HB1.out.lt⟩
          clear b2 B1 HFw HB1 hwb
          have c0 := HB2.out.at (j := 0) rfl
          have c1 := HB2.out.at (j := 1) rfl
          have c2 := HB2.out.at (j := 2) rfl
          have c3 := HB2.out.at (j := 3) rfl
          have c4 := HB2.out.at (j := 4) rfl
          have c5 := HB2.out.at (j := 5) rfl
          have c6 := HB2.out.at (j := 6) rfl
          have c7 := HB2.out.at (j := 7) rfl
          have c8 := HB2.out.at (j := 8) rfl
          have c9 := HB2.out.at (j := 9) rfl
          have c10 := HB2.out.at (j := 10) rfl
          go_wp2_with fail
          refine (HF1.out _ _ (B2.out.trans ((Below.refl _ _).alloc B2.out.size _)) (Blk.new w2 43 _)).mono ?_
          rintro e w3 ⟨rfl, b3⟩
          have B3 : Hd (Below w.heap.size w w3) := ⟨below_next (B2.out.trans ((Below.refl _ _).alloc B2.out.size _)) b3⟩
          have HB3 : Hd (Blk w3 b 43 [.string o.name, .slice p1 N c1', x2, x3, x4, x5, x6, x7, x8, x9, x10]) := ⟨(HB2.out.alloc _).below b3 (HB2.out.alloc _).lt⟩
          clear b3 c0 c1 c2 c3 c4 c5 c6 c7 c8 c9 c10 B2 HB2 HF1 HBx HWb
          cases qo with
          | false =>
            go_wp2
            go_ret
            exact ⟨rfl, B3.out⟩
          | true =>
            have HMo : Hd (KeepOk (l ++ [bare o])) := ⟨(HF.out.more (by rw [HM.out]; omega) (of_decide_eq_true HQo.out)).keep (fun x hx => by
              rcases List.mem_append.1 hx with hx | hx
              · exact HV.out.ok x hx
              · rw [List.mem_singleton.1 hx]; exact bare_ok HOk.out)⟩
            have HKp := Hd.mk (fun w' (h : Below w.heap.size w w') => gkeep_any w' (HT.out.below h) _ l (HR.out.below Ob.stays h) HKO.out)
            have HKt := Hd.mk (fun w' (h : Below w.heap.size w w') => gkeep_any w' (HT.out.below h) (.slice p k c) (l.take k) ((HR.out.below Ob.stays h).take rfl (by rw [HM.out]; exact hkM)) (HKO.out.take k))
            have hL1 := keepR_keep_len HKO.out
            rw [HM.out] at hL1
            have hL2 := keepR_keep_len (HKO.out.take k)
            rw [List.length_take, HM.out, Nat.min_eq_left hkM] at hL2
            have hE1 := begins_keep HKO.out (n := k) (by rw [HM.out]; exact hkM)
            obtain ⟨rest, hE2, hE3⟩ := begins_new (l := l) (n := k) (by rw [HM.out]; exact hkM)
            have hE4 := begins_bare l o
            have hE5 := keepR_rows HKO.out
            have hE6 := keepR_diffs HKO.out
            obtain ⟨κ, hκ⟩ : ∃ κ, keepR l = κ := ⟨_, rfl⟩
            obtain ⟨κ2, hκ2⟩ : ∃ κ, keepR (l.take k) = κ := ⟨_, rfl⟩
            rw [hκ] at HKp hL1 hE1 hE2 hE4 hE5 hE6
            rw [hκ2] at HKt hL2 hE1 hE2
            have HE1 := Hd.mk hE1
            have HE2 := Hd.mk hE2
            have HE3 := Hd.mk hE3
            have HE4 := Hd.mk hE4
            have HE5 := Hd.mk hE5
            have HE6 := Hd.mk hE6
            have HL1 := Hd.mk hL1
            have HL2 := Hd.mk hL2
            clear hE1 hE2 hE3 hE4 hE5 hE6 hL1 hL2 hκ hκ2
            go_wp2_with fail
            refine (HKp.out w3 B3.out).mono ?_
            rintro e w4 ⟨kpv, dv, rfl, hO⟩
            have B4 := Hd.mk (below_next B3.out hO.K)
            have HB4 : Hd (Blk w4 b 43 [.string o.name, .slice p1 N c1', x2, x3, x4, x5, x6, x7, x8, x9, x10]) := ⟨HB3.out.below hO.K HB3.out.lt⟩
            obtain ⟨pk, ck, pd, cd, rfl, hck, rfl, hcd⟩ := hO.caps
            rw [HL1.out] at hO hck ⊢
            obtain ⟨D, hD⟩ : ∃ D, κ.differ.length = D := ⟨_, rfl⟩
            rw [hD] at hO hcd ⊢
            have HD := Hd.mk hD
            have HRowsA := Hd.mk (fun w' (k : Keeps (fun g => g = b) w4 w') => hO.rowsK k (fun g hg => by subst hg; exact HB3.out.lt))
            clear hO hD HKp HB3
            go_wp2_with fail
            refine (HKt.out w4 B4.out).mono ?_
            rintro e w5 ⟨kpv2, dv2, rfl, hO⟩
            have B5 := Hd.mk (below_next B4.out hO.K)
            have HB5 : Hd (Blk w5 b 43 [.string o.name, .slice p1 N c1', x2, x3, x4, x5, x6, x7, x8, x9, x10]) := ⟨HB4.out.below hO.K HB4.out.lt⟩
            obtain ⟨pk2, ck2, pd2, cd2, rfl, hck2, rfl, hcd2⟩ := hO.caps
            rw [HL2.out] at hO hck2 ⊢
            obtain ⟨D2, hD2⟩ : ∃ D, κ2.differ.length = D := ⟨_, rfl⟩
            rw [hD2] at hO hcd2 ⊢
            have HD2 := Hd.mk hD2
            have HR5 := Hd.mk (HRowsA.out w5 ((below_keeps hO.K).mono (fun _ _ h => h.elim)))
            have HK5 : Hd (Keeps (fun g => g = b) w4 w5) := ⟨(below_keeps hO.K).mono (fun _ _ h => h.elim)⟩
            have hro := hO.rows
            have hDD : D2 ≤ D := by rw [← HD.out, HE2.out, List.length_append, hD2]; omega
            have HS1 := Hd.mk (rsame_any w5 (.slice pk k ck) _ (κ.keep.take k) κ2.keep (HR5.out.1.take rfl (by rw [HL1.out]; exact hkM)) hro.1 (by rw [List.length_take, HL1.out]; omega) (fun ks hk => Nat.le_trans (HE5.out ks (List.mem_of_mem_take hk)) (by decide)))
            have HS2 := Hd.mk (fun w' (h : Below w5.heap.size w5 w') => rsamed_any w' (.slice pd D2 cd) _ (κ.differ.take D2) κ2.differ ((HR5.out.2.below dfE_stays h).take rfl (by rw [HD.out]; exact hDD)) (hro.2.below dfE_stays h) (by rw [List.length_take]; have := HE6.out; omega))
            have e1 : decide (κ.keep.take k = κ2.keep) = true := decide_eq_true HE1.out
            have e2 : decide (κ.differ.take D2 = κ2.differ) = true := decide_eq_true (by rw [HE2.out, ← hD2, List.take_left])
            rw [e1] at HS1
            rw [e2] at HS2
            have tD : decide ((D : Int) < (D2 : Int)) = false := decide_eq_false (by omega)
            have hDm : D ≤ 1000000 := by have := HE6.out; rw [HD.out] at this; exact this
            clear hO hD2 HKt HB4 B4 hro e1 e2
            go_wp2_with fail
            refine HS1.out.mono ?_
            rintro e w6 ⟨rfl, b6⟩
            have B6 := Hd.mk (below_next B5.out b6)
            have HB6 : Hd (Blk w6 b 43 [.string o.name, .slice p1 N c1', x2, x3, x4, x5, x6, x7, x8, x9, x10]) := ⟨HB5.out.below b6 HB5.out.lt⟩
            have HK6 : Hd (Keeps (fun g => g = b) w4 w6) := ⟨HK5.out.trans ((below_keeps b6).mono (fun _ _ h => h.elim))⟩
            have HS2' := Hd.mk (HS2.out w6 b6)
            clear b6 HS1 HS2 HB5 HK5 HR5 B5
            go_wp2_with fail
            refine HS2'.out.mono ?_
            rintro e w7 ⟨rfl, b7⟩
            have B7 := Hd.mk (below_next B6.out b7)
            have HB7 : Hd (Blk w7 b 43 [.string o.name, .slice p1 N c1', x2, x3, x4, x5, x6, x7, x8, x9, x10]) := ⟨HB6.out.below b7 HB6.out.lt⟩
            have HK7 : Hd (Keeps (fun g => g = b) w4 w7) := ⟨HK6.out.trans ((below_keeps b7).mono (fun _ _ h => h.elim))⟩
            have HR7 := Hd.mk (HRowsA.out w7 HK7.out)
            clear b7 HS2' HB6 HK6 B6
            go_wp2
            go_loopw [12] (fun iv wi => ∃ i : Nat, D2 ≤ i ∧ i ≤ D ∧ iv = .int .i64 i ∧ w7 = wi) (fun iv _ => D - (intOf iv).toNat)
            case atStart => exact ⟨D2, Nat.le_refl _, hDD, rfl, by first | rfl | trivial⟩
            case round =>
              obtain ⟨i, hi2, hi, rfl, rfl⟩ := hrel
              by_cases hlt : i < D
              · have hil : i < κ.differ.length := by rw [HD.out]; exact hlt
                obtain ⟨gd, od, cs, rfl, hgd, _, hE, hcg⟩ := HR7.out.2.at rfl (j := i) hil
                obtain rfl : cs = κ.differ[i].cells := hE
                have q2 := hcg 2 _ rfl
                have hoth : k ≤ κ.differ[i].other := HE3.out _ (by
                  have e : κ.differ[i] = (κ2.differ ++ rest)[i]'(by rw [← HE2.out]; exact hil) := by simp only [HE2.out]
                  rw [e, List.getElem_append_right (by rw [HD2.out]; exact hi2)]
                  exact List.getElem_mem _)
                obtain ⟨oth, hot⟩ : ∃ oth, κ.differ[i].other = oth := ⟨_, rfl⟩
                rw [hot] at q2 hoth
                have tO : decide ((oth : Int) < (k : Int)) = false := decide_eq_false (by omega)
                have hms : D - (intOf (.int .i64 ((i : Int) + 1))).toNat < D - (intOf (.int .i64 (i : Int))).toNat := by simp [intOf]; omega
                have hiD : (i : Int) < (D : Int) := by omega
                clear hcg hgd hot
                go_wp2
                go_roundw
                case rel => exact ⟨i + 1, by omega, hlt, by go_num, by first | rfl | trivial⟩
                case measure => exact hms
              · have hin : i = D := by omega
                subst hin
                have hd : decide ((i : Int) < (i : Int)) = false := by simp
                have c4 := HB7.out.at (j := 4) rfl
                have f4 := HB7.out.free 4
                go_upto_region 14 with (fail)
                clear c4 f4
                obtain ⟨w8, hw8⟩ : ∃ w8, w7.setCell ⟨b, 4, none⟩ (.slice none 0 0) = w8 := ⟨_, rfl⟩
                have B8 : Hd (Below w.heap.size w w8) := ⟨hw8 ▸ B7.out.setCell (p := ⟨b, 4, none⟩) (by rw [HB.out]; exact Nat.le_refl _) _⟩
                have HB8 : Hd (Blk w8 b 43 [.string o.name, .slice p1 N c1', x2, x3, .slice none 0 0, x5, x6, x7, x8, x9, x10]) := ⟨hw8 ▸ HB7.out.set 4 _⟩
                have HK8 : Hd (Keeps (fun g => g = b) w4 w8) := ⟨hw8 ▸ HK7.out.setCell (p := ⟨b, 4, none⟩) (.inr rfl) _⟩
                rw [hw8]
                clear hw8 HB7 HK7 HR7 B7
                have hS8 : Below w.heap.size w w8.drew ∧ Blk w8.drew b 43 [.string o.name, .slice p1 N c1', x2, x3, .slice none 0 0, x5, x6, x7, x8, x9, x10] := ⟨B8.out.trans (Below.refl _ _).drew, HB8.out.drew⟩
                have HEo : Hd (Ob.E w8.drew [.string o.name, .slice p1 N c1', x2, x3, .slice none 0 0, x5, x6, x7, x8, x9, x10] (bare o)) := ⟨_, x2, x3, _, x5, x6, x7, x8, x9, x10, rfl, by
                  have h := HA.out.below hS8.1
                  rw [← HN.out] at h ⊢
                  exact { h with groups := Rw.nil _ }⟩
                have HR8 : Hd (Rw 11 Ob.E w8.drew (.slice p M c) l) := ⟨HR.out.below Ob.stays hS8.1⟩
                refine wp_region_lin3 default (fun w' => Below w.heap.size w w' ∧ Blk w' b 43 [.string o.name, .slice p1 N c1', x2, x3, .slice none 0 0, x5, x6, x7, x8, x9, x10]) [.free 1, .free 3, .fl 4 [0, 2], .one 5, .one 6, .free 7, .free 8, .free 9, .free 10, .free 11] (by kernel_rfl) (by kernel_rfl) rfl (by kernel_rfl) (by kernel_rfl) hS8 ?_
                repeat
                  refine lin3_free (v := ?_) (by rfl) ?_ ?_
                  rotate_left
                  · intro w' hSw
                    have c0 := hSw.2.at (j := 0) rfl
                    have c1 := hSw.2.at (j := 1) rfl
                    have c2 := hSw.2.at (j := 2) rfl
                    have c3 := hSw.2.at (j := 3) rfl
                    have c4 := hSw.2.at (j := 4) rfl
                    have c5 := hSw.2.at (j := 5) rfl
                    have c6 := hSw.2.at (j := 6) rfl
                    have c7 := hSw.2.at (j := 7) rfl
                    have c8 := hSw.2.at (j := 8) rfl
                    have c9 := hSw.2.at (j := 9) rfl
                    have c10 := hSw.2.at (j := 10) rfl
                    simp only [List.getD_cons_zero, List.getD_cons_succ]
                    go_simp
                    first | done | with_reducible rfl
                  simp only [Act.put, List.getD_cons_zero, List.getD_cons_succ, List.setIfInBounds_toArray, List.set_cons_zero, List.set_cons_succ]
                obtain ⟨wd, hwd⟩ : ∃ wd, w8.drew = wd := ⟨_, rfl⟩
                have HK9 : Hd (Keeps (fun g => g = b) w4 wd) := ⟨hwd ▸ HK8.out.drew⟩
                rw [hwd] at HR8 HEo hS8
                rw [hwd]
                have HS : Hd (∀ w', Below wd.heap.size wd w' → Below w.heap.size w w' ∧ Blk w' b 43 [.string o.name, .slice p1 N c1', x2, x3, .slice none 0 0, x5, x6, x7, x8, x9, x10]) := ⟨fun w' h => ⟨below_next hS8.1 h, hS8.2.below h hS8.2.lt⟩⟩
                have hl1 : Hd (l.length ≤ 1000) := ⟨by rw [HM.out]; omega⟩
                clear hwd hS8 HK8 HB8 B8
                refine lin3_fl (getB_intro (fun K hK => ?_)) (getB_intro (fun K hK => ?_))
                · simp only [List.getD_cons_zero, List.getD_cons_succ]
                  go_simp
                  have b1 : Below wd.heap.size wd (wd.alloc (.cells #[.string o.name, .slice p1 N c1', x2, x3, .slice none 0 0, x5, x6, x7, x8, x9, x10] 43)) := (Below.refl _ _).alloc (Nat.le_refl _) _
                  refine hK.out _ _ (HS.out _ b1) ?_
                  clear hK K
                  refine seq_cons (getB_intro (fun K hK => ?_))
                  simp only [List.getD_cons_zero, List.getD_cons_succ]
                  go_simp
                  have b2 : Below wd.heap.size wd ((wd.alloc (.cells #[.string o.name, .slice p1 N c1', x2, x3, .slice none 0 0, x5, x6, x7, x8, x9, x10] 43)).alloc (.cells #[] 43)) := b1.alloc b1.size _
                  refine hK.out _ _ (HS.out _ b2) ?_
                  clear hK K
                  refine seq_cons (getB_intro (fun K hK => ?_))
                  obtain ⟨v9, w9, css, hr, hO, hcl, hm, hE, hk⟩ := objs_app wd ((wd.alloc (.cells #[.string o.name, .slice p1 N c1', x2, x3, .slice none 0 0, x5, x6, x7, x8, x9, x10] 43)).alloc (.cells #[] 43)) b2 (.slice p M c) l hl1.out HR8.out wd.heap.size b2.size (some ⟨wd.heap.size + 1, 0, none⟩) (by have h := empty_row2 (wd.alloc (.cells #[.string o.name, .slice p1 N c1', x2, x3, .slice none 0 0, x5, x6, x7, x8, x9, x10] 43)) wd.heap.size b1.size 43 11; simpa using h)
                  have HX := Hd.mk (And.intro hO (And.intro hcl (And.intro hm (And.intro hE hk))))
                  clear hO hcl hm hE hk
                  have hS9 := HS.out w9 (b2.trans (keeps_below HX.out.2.2.2.2 |>.mono b2.size))
                  refine step_append_run (by rfl) (Operand.tmp 100) (Operand.tmp 101) 22 (by rfl) (.slice (some ⟨wd.heap.size + 1, 0, none⟩) 0 0) (.slice p M c) _ (by rfl) (by rfl) hr ?_
                  refine hK.out _ _ hS9 ?_
                  clear hK K hr hS9
                  refine seq_nil ?_
                  obtain ⟨p10, c10, w10, hr2, hR10, hB10⟩ := objs_put wd w9 (b2.trans (keeps_below HX.out.2.2.2.2 |>.mono b2.size)) l (bare o) hl1.out v9 css HX.out.1 HX.out.2.1 HX.out.2.2.1 HX.out.2.2.2.1 wd.heap.size [.string o.name, .slice p1 N c1', x2, x3, .slice none 0 0, x5, x6, x7, x8, x9, x10] (HX.out.2.2.2.2.blk ((Blk.new wd 43 [.string o.name, .slice p1 N c1', x2, x3, .slice none 0 0, x5, x6, x7, x8, x9, x10]).alloc _) (fun h => h)) HEo.out
                  rw [HM.out] at hr2 hR10
                  clear b1 b2 HX
                  refine lin3_one (fun K hK => ?_)
                  refine step_append_run (by rfl) (Operand.tmp 102) (Operand.tmp 104) 22 (by rfl) v9 (.slice (some ⟨wd.heap.size, 0, none⟩) 1 1) _ (by rfl) (by rfl) hr2 ?_
                  refine hK.out _ _ (HS.out _ hB10) ?_
                  clear hK K hr2
                  have HB10 := Hd.mk hB10
                  have HR10 := Hd.mk hR10
                  have HKe := Hd.mk (gkeep_any w10 (HT.out.below (HS.out _ hB10).1) _ (l ++ [bare o]) hR10 HMo.out)
                  clear hB10 hR10
                  refine lin3_one (fun K hK => ?_)
                  simp only [List.getD_cons_zero, List.getD_cons_succ]
                  go_simp
                  refine HKe.out.mono ?_
                  rintro e w12 ⟨kpv3, dv3, rfl, hO3⟩
                  dsimp only
                  have hB12 : Below wd.heap.size wd w12 := below_next HB10.out hO3.K
                  have HB12 := Hd.mk hB12
                  refine hK.out _ _ (HS.out _ hB12) ?_
                  clear hK K
                  rw [HE4.out] at hO3
                  obtain ⟨p3, c3, q3, d3, rfl, hc3, rfl, hd3⟩ := hO3.caps
                  have hRw3 := hO3.rows
                  simp only [List.length_append, List.length_cons, List.length_nil, Nat.zero_add, HL1.out, HD.out] at hc3 hd3 hRw3 ⊢
                  have HK12 : Hd (Keeps (fun g => g = b) w4 w12) := ⟨HK9.out.trans ((below_keeps hB12).mono (fun _ _ h => h.elim))⟩
                  have hR12 := HRowsA.out w12 HK12.out
                  have HB12' : Hd (Below w.heap.size w w12 ∧ Blk w12 b 43 [.string o.name, .slice p1 N c1', x2, x3, .slice none 0 0, x5, x6, x7, x8, x9, x10]) := ⟨HS.out _ hB12⟩
                  have e1 : decide ((κ.keep ++ [List.replicate o.secs.length true]).take M = κ.keep) = true := decide_eq_true (by rw [← HL1.out, List.take_left])
                  have HS3 := Hd.mk (rsame_any w12 (.slice p3 M c3) _ ((κ.keep ++ [List.replicate o.secs.length true]).take M) κ.keep (hRw3.1.take rfl (by rw [List.length_append, HL1.out]; omega)) hR12.1 (by rw [List.length_take]; omega) (fun ks hk => by
                    rw [← HL1.out, List.take_left] at hk
                    exact Nat.le_trans (HE5.out ks hk) (by decide)))
                  rw [e1] at HS3
                  have HS4 := Hd.mk (fun w' (h : Below w12.heap.size w12 w') => rsamed_any w' _ _ κ.differ κ.differ (hRw3.2.below dfE_stays h) (hR12.2.below dfE_stays h) HE6.out)
                  have e2 : decide (κ.differ = κ.differ) = true := decide_eq_true rfl
                  rw [e2] at HS4
                  have HR3 := Hd.mk hRw3.1
                  clear hR12 hRw3 e1 e2 hO3 hB12
                  repeat
                    refine lin3_free (v := ?_) (by rfl) ?_ ?_
                    rotate_left
                    · intro w' hSw
                      simp only [List.getD_cons_zero, List.getD_cons_succ]
                      go_simp
                      first | done | with_reducible rfl
                    simp only [Act.put, List.getD_cons_zero, List.getD_cons_succ, List.setIfInBounds_toArray, List.set_cons_zero, List.set_cons_succ]
                  refine NoPanic.normal ?_
                  go_wp2_with fail
                  refine HS3.out.mono ?_
                  rintro e w13 ⟨rfl, b13⟩
                  have HS4' := Hd.mk (HS4.out w13 b13)
                  have HB13 : Hd (Below w12.heap.size w12 w13) := ⟨b13⟩
                  clear b13 HS4 HS3
                  go_wp2_with fail
                  refine HS4'.out.mono ?_
                  rintro e w14 ⟨rfl, b14⟩
                  have hB14 := below_next HB13.out b14
                  have hR14 := HR3.out.below boolsE_stays hB14
                  have HBw14 : Hd (Below w.heap.size w w14) := ⟨below_next HB12'.out.1 hB14⟩
                  have HBk14 : Hd (Blk w14 b 43 [.string o.name, .slice p1 N c1', x2, x3, .slice none 0 0, x5, x6, x7, x8, x9, x10]) := ⟨HB12'.out.2.below hB14 HB12'.out.2.lt⟩
                  clear b14 HS4' hB14 HB13 HB12'
                  obtain ⟨gm, om, cs, rfl, hgm, _, hE, hcm⟩ := hR14.at rfl (j := M) (by rw [List.length_append, HL1.out]; simp)
                  have eM : (κ.keep ++ [List.replicate o.secs.length true])[M]'(by rw [List.length_append, HL1.out]; simp) = List.replicate N true := by
                    rw [List.getElem_append_right (by rw [HL1.out]; exact Nat.le_refl _), HN.out]; simp [HL1.out]
                  rw [eM] at hE
                  obtain ⟨vm, rfl, hvm⟩ := hE
                  have m0 := hcm 0 _ rfl
                  rw [Nat.mul_one, Nat.add_zero] at m0
                  obtain ⟨pm, cm, rfl⟩ := hvm.slice
                  rw [List.length_replicate] at m0 hvm
                  have HVm := Hd.mk hvm
                  have hMM : (M : Int) < (M : Int) + 1 := by omega
                  have hNl : N ≤ 140737488351232 := by have := HOk.out.secs; rw [HN.out] at this; exact this
                  clear hcm hgm hvm hR14 eM
                  go_wp2
                  go_loopw [15] (fun sv wi => ∃ s : Nat, s ≤ N ∧ sv = .int .i64 s ∧ w14 = wi) (fun sv _ => N - (intOf sv).toNat)
                  case atStart => exact ⟨0, Nat.zero_le _, rfl, by first | rfl | trivial⟩
                  case round =>
                    obtain ⟨s, hs, rfl, rfl⟩ := hrel
                    by_cases hlt : s < N
                    · obtain ⟨gi, oi, cs, rfl, hgi, _, hE, hci⟩ := HVm.out.at rfl (j := s) (by rw [List.length_replicate]; exact hlt)
                      rw [List.getElem_replicate] at hE
                      obtain rfl : cs = [.bool true] := hE
                      have k1 := hci 0 _ rfl
                      rw [Nat.mul_one, Nat.add_zero] at k1
                      have hms : N - (intOf (.int .i64 ((s : Int) + 1))).toNat < N - (intOf (.int .i64 (s : Int))).toNat := by simp [intOf]; omega
                      have hsN : (s : Int) < (N : Int) := by omega
                      clear hci hgi
                      go_wp2
                      go_roundw
                      case rel => exact ⟨s + 1, hlt, by go_num, by first | rfl | trivial⟩
                      case measure => exact hms
                    · have hsn : s = N := by omega
                      have m0d : ∀ q, (w14.drewN q).cell? ⟨gm, om + M, none⟩ = some (.slice pm N cm) := fun q => m0
                      have b1d : ∀ q, (w14.drewN q).cell? ⟨b, 1, none⟩ = some (.slice p1 N c1') := fun q => HBk14.out.at (j := 1) rfl
                      have HBQ : Hd (∀ q, Below w.heap.size w (w14.drewN q)) := ⟨fun q => below_next HBw14.out (below_drewN w14 q)⟩
                      subst hsn
                      have hd : decide ((s : Int) < (s : Int)) = false := by simp
                      go_wp2
                      go_quiet (fail)
                      go_wp2
                      go_ret
                      exact ⟨rfl, HBQ.out _⟩
                · simp only [List.getD_cons_zero, List.getD_cons_succ]
                  go_simp
                  have b1 : Below wd.heap.size wd (wd.alloc (.cells #[] 43)) := (Below.refl _ _).alloc (Nat.le_refl _) _
                  refine hK.out _ _ (HS.out _ b1) ?_
                  clear hK K
                  refine fl_cons (getB_intro (fun K hK => ?_)) (getB_intro (fun K hK => ?_))
                  · simp only [List.getD_cons_zero, List.getD_cons_succ]
                    go_simp
                    have b2 : Below wd.heap.size wd ((wd.alloc (.cells #[] 43)).alloc (.cells #[.string o.name, .slice p1 N c1', x2, x3, .slice none 0 0, x5, x6, x7, x8, x9, x10] 43)) := b1.alloc b1.size _
                    refine hK.out _ _ (HS.out _ b2) ?_
                    clear hK K
                    refine seq_cons (getB_intro (fun K hK => ?_))
                    obtain ⟨v9, w9, css, hr, hO, hcl, hm, hE, hk⟩ := objs_app wd ((wd.alloc (.cells #[] 43)).alloc (.cells #[.string o.name, .slice p1 N c1', x2, x3, .slice none 0 0, x5, x6, x7, x8, x9, x10] 43)) b2 (.slice p M c) l hl1.out HR8.out wd.heap.size b2.size (some ⟨wd.heap.size, 0, none⟩) ((empty_row2 wd wd.heap.size (Nat.le_refl _) 43 11).alloc _)
                    have HX := Hd.mk (And.intro hO (And.intro hcl (And.intro hm (And.intro hE hk))))
                    clear hO hcl hm hE hk
                    have hS9 := HS.out w9 (b2.trans (keeps_below HX.out.2.2.2.2 |>.mono b2.size))
                    refine step_append_run (by rfl) (Operand.tmp 100) (Operand.tmp 101) 22 (by rfl) (.slice (some ⟨wd.heap.size, 0, none⟩) 0 0) (.slice p M c) _ (by rfl) (by rfl) hr ?_
                    refine hK.out _ _ hS9 ?_
                    clear hK K hr hS9
                    refine seq_nil ?_
                    obtain ⟨p10, c10, w10, hr2, hR10, hB10⟩ := objs_put wd w9 (b2.trans (keeps_below HX.out.2.2.2.2 |>.mono b2.size)) l (bare o) hl1.out v9 css HX.out.1 HX.out.2.1 HX.out.2.2.1 HX.out.2.2.2.1 (wd.heap.size + 1) [.string o.name, .slice p1 N c1', x2, x3, .slice none 0 0, x5, x6, x7, x8, x9, x10] (HX.out.2.2.2.2.blk (by have h := Blk.new (wd.alloc (.cells #[] 43)) 43 [.string o.name, .slice p1 N c1', x2, x3, .slice none 0 0, x5, x6, x7, x8, x9, x10]; simpa using h) (fun h => h)) HEo.out
                    rw [HM.out] at hr2 hR10
                    clear b1 b2 HX
                    refine lin3_one (fun K hK => ?_)
                    refine step_append_run (by rfl) (Operand.tmp 102) (Operand.tmp 104) 22 (by rfl) v9 (.slice (some ⟨wd.heap.size + 1, 0, none⟩) 1 1) _ (by rfl) (by rfl) hr2 ?_
                    refine hK.out _ _ (HS.out _ hB10) ?_
                    clear hK K hr2
                    have HB10 := Hd.mk hB10
                    have HR10 := Hd.mk hR10
                    have HKe := Hd.mk (gkeep_any w10 (HT.out.below (HS.out _ hB10).1) _ (l ++ [bare o]) hR10 HMo.out)
                    clear hB10 hR10
                    refine lin3_one (fun K hK => ?_)
                    simp only [List.getD_cons_zero, List.getD_cons_succ]
                    go_simp
                    refine HKe.out.mono ?_
                    rintro e w12 ⟨kpv3, dv3, rfl, hO3⟩
                    dsimp only
                    have hB12 : Below wd.heap.size wd w12 := below_next HB10.out hO3.K
                    have HB12 := Hd.mk hB12
                    refine hK.out _ _ (HS.out _ hB12) ?_
                    clear hK K
                    rw [HE4.out] at hO3
                    obtain ⟨p3, c3, q3, d3, rfl, hc3, rfl, hd3⟩ := hO3.caps
                    have hRw3 := hO3.rows
                    simp only [List.length_append, List.length_cons, List.length_nil, Nat.zero_add, HL1.out, HD.out] at hc3 hd3 hRw3 ⊢
                    have HK12 : Hd (Keeps (fun g => g = b) w4 w12) := ⟨HK9.out.trans ((below_keeps hB12).mono (fun _ _ h => h.elim))⟩
                    have hR12 := HRowsA.out w12 HK12.out
                    have HB12' : Hd (Below w.heap.size w w12 ∧ Blk w12 b 43 [.string o.name, .slice p1 N c1', x2, x3, .slice none 0 0, x5, x6, x7, x8, x9, x10]) := ⟨HS.out _ hB12⟩
                    have e1 : decide ((κ.keep ++ [List.replicate o.secs.length true]).take M = κ.keep) = true := decide_eq_true (by rw [← HL1.out, List.take_left])
                    have HS3 := Hd.mk (rsame_any w12 (.slice p3 M c3) _ ((κ.keep ++ [List.replicate o.secs.length true]).take M) κ.keep (hRw3.1.take rfl (by rw [List.length_append, HL1.out]; omega)) hR12.1 (by rw [List.length_take]; omega) (fun ks hk => by
                      rw [← HL1.out, List.take_left] at hk
                      exact Nat.le_trans (HE5.out ks hk) (by decide)))
                    rw [e1] at HS3
                    have HS4 := Hd.mk (fun w' (h : Below w12.heap.size w12 w') => rsamed_any w' _ _ κ.differ κ.differ (hRw3.2.below dfE_stays h) (hR12.2.below dfE_stays h) HE6.out)
                    have e2 : decide (κ.differ = κ.differ) = true := decide_eq_true rfl
                    rw [e2] at HS4
                    have HR3 := Hd.mk hRw3.1
                    clear hR12 hRw3 e1 e2 hO3 hB12
                    repeat
                      refine lin3_free (v := ?_) (by rfl) ?_ ?_
                      rotate_left
                      · intro w' hSw
                        simp only [List.getD_cons_zero, List.getD_cons_succ]
                        go_simp
                        first | done | with_reducible rfl
                      simp only [Act.put, List.getD_cons_zero, List.getD_cons_succ, List.setIfInBounds_toArray, List.set_cons_zero, List.set_cons_succ]
                    refine NoPanic.normal ?_
                    go_wp2_with fail
                    refine HS3.out.mono ?_
                    rintro e w13 ⟨rfl, b13⟩
                    have HS4' := Hd.mk (HS4.out w13 b13)
                    have HB13 : Hd (Below w12.heap.size w12 w13) := ⟨b13⟩
                    clear b13 HS4 HS3
                    go_wp2_with fail
                    refine HS4'.out.mono ?_
                    rintro e w14 ⟨rfl, b14⟩
                    have hB14 := below_next HB13.out b14
                    have hR14 := HR3.out.below boolsE_stays hB14
                    have HBw14 : Hd (Below w.heap.size w w14) := ⟨below_next HB12'.out.1 hB14⟩
                    have HBk14 : Hd (Blk w14 b 43 [.string o.name, .slice p1 N c1', x2, x3, .slice none 0 0, x5, x6, x7, x8, x9, x10]) := ⟨HB12'.out.2.below hB14 HB12'.out.2.lt⟩
                    clear b14 HS4' hB14 HB13 HB12'
                    obtain ⟨gm, om, cs, rfl, hgm, _, hE, hcm⟩ := hR14.at rfl (j := M) (by rw [List.length_append, HL1.out]; simp)
                    have eM : (κ.keep ++ [List.replicate o.secs.length true])[M]'(by rw [List.length_append, HL1.out]; simp) = List.replicate N true := by
                      rw [List.getElem_append_right (by rw [HL1.out]; exact Nat.le_refl _), HN.out]; simp [HL1.out]
                    rw [eM] at hE
                    obtain ⟨vm, rfl, hvm⟩ := hE
                    have m0 := hcm 0 _ rfl
                    rw [Nat.mul_one, Nat.add_zero] at m0
                    obtain ⟨pm, cm, rfl⟩ := hvm.slice
                    rw [List.length_replicate] at m0 hvm
                    have HVm := Hd.mk hvm
                    have hMM : (M : Int) < (M : Int) + 1 := by omega
                    have hNl : N ≤ 140737488351232 := by have := HOk.out.secs; rw [HN.out] at this; exact this
                    clear hcm hgm hvm hR14 eM
                    go_wp2
                    go_loopw [15] (fun sv wi => ∃ s : Nat, s ≤ N ∧ sv = .int .i64 s ∧ w14 = wi) (fun sv _ => N - (intOf sv).toNat)
                    case atStart => exact ⟨0, Nat.zero_le _, rfl, by first | rfl | trivial⟩
                    case round =>
                      obtain ⟨s, hs, rfl, rfl⟩ := hrel
                      by_cases hlt : s < N
                      · obtain ⟨gi, oi, cs, rfl, hgi, _, hE, hci⟩ := HVm.out.at rfl (j := s) (by rw [List.length_replicate]; exact hlt)
                        rw [List.getElem_replicate] at hE
                        obtain rfl : cs = [.bool true] := hE
                        have k1 := hci 0 _ rfl
                        rw [Nat.mul_one, Nat.add_zero] at k1
                        have hms : N - (intOf (.int .i64 ((s : Int) + 1))).toNat < N - (intOf (.int .i64 (s : Int))).toNat := by simp [intOf]; omega
                        have hsN : (s : Int) < (N : Int) := by omega
                        clear hci hgi
                        go_wp2
                        go_roundw
                        case rel => exact ⟨s + 1, hlt, by go_num, by first | rfl | trivial⟩
                        case measure => exact hms
                      · have hsn : s = N := by omega
                        have m0d : ∀ q, (w14.drewN q).cell? ⟨gm, om + M, none⟩ = some (.slice pm N cm) := fun q => m0
                        have b1d : ∀ q, (w14.drewN q).cell? ⟨b, 1, none⟩ = some (.slice p1 N c1') := fun q => HBk14.out.at (j := 1) rfl
                        have HBQ : Hd (∀ q, Below w.heap.size w (w14.drewN q)) := ⟨fun q => below_next HBw14.out (below_drewN w14 q)⟩
                        subst hsn
                        have hd : decide ((s : Int) < (s : Int)) = false := by simp
                        go_wp2
                        go_quiet (fail)
                        go_wp2
                        go_ret
                        exact ⟨rfl, HBQ.out _⟩
                  · obtain ⟨v9, w9, css, hr, hO, hcl, hm, hE, hk⟩ := objs_app wd (wd.alloc (.cells #[] 43)) b1 (.slice p M c) l hl1.out HR8.out wd.heap.size b1.size (some ⟨wd.heap.size, 0, none⟩) (empty_row2 wd wd.heap.size (Nat.le_refl _) 43 11)
                    have HX := Hd.mk (And.intro hO (And.intro hcl (And.intro hm (And.intro hE hk))))
                    clear hO hcl hm hE hk
                    have hS9 := HS.out w9 (b1.trans (keeps_below HX.out.2.2.2.2 |>.mono b1.size))
                    refine step_append_run (by rfl) (Operand.tmp 100) (Operand.tmp 101) 22 (by rfl) (.slice (some ⟨wd.heap.size, 0, none⟩) 0 0) (.slice p M c) _ (by rfl) (by rfl) hr ?_
                    refine hK.out _ _ hS9 ?_
                    clear hK K hr hS9
                    refine fl_nil (getB_intro (fun K hK => ?_))
                    simp only [List.getD_cons_zero, List.getD_cons_succ]
                    go_simp
                    have b9 : Below wd.heap.size wd w9 := b1.trans (keeps_below HX.out.2.2.2.2 |>.mono b1.size)
                    have b2 : Below wd.heap.size wd (w9.alloc (.cells #[.string o.name, .slice p1 N c1', x2, x3, .slice none 0 0, x5, x6, x7, x8, x9, x10] 43)) := b9.alloc b9.size _
                    refine hK.out _ _ (HS.out _ b2) ?_
                    clear hK K
                    obtain ⟨p10, c10, w10, hr2, hR10, hB10⟩ := objs_put wd (w9.alloc (.cells #[.string o.name, .slice p1 N c1', x2, x3, .slice none 0 0, x5, x6, x7, x8, x9, x10] 43)) b2 l (bare o) hl1.out v9 css (HX.out.1.alloc _) HX.out.2.1 HX.out.2.2.1 HX.out.2.2.2.1 w9.heap.size [.string o.name, .slice p1 N c1', x2, x3, .slice none 0 0, x5, x6, x7, x8, x9, x10] (Blk.new w9 43 _) HEo.out
                    rw [HM.out] at hr2 hR10
                    clear b1 b2 b9 HX
                    refine lin3_one (fun K hK => ?_)
                    refine step_append_run (by rfl) (Operand.tmp 102) (Operand.tmp 104) 22 (by rfl) v9 (.slice (some ⟨w9.heap.size, 0, none⟩) 1 1) _ (by rfl) (by rfl) hr2 ?_
                    refine hK.out _ _ (HS.out _ hB10) ?_
                    clear hK K hr2
                    have HB10 := Hd.mk hB10
                    have HR10 := Hd.mk hR10
                    have HKe := Hd.mk (gkeep_any w10 (HT.out.below (HS.out _ hB10).1) _ (l ++ [bare o]) hR10 HMo.out)
                    clear hB10 hR10
                    refine lin3_one (fun K hK => ?_)
                    simp only [List.getD_cons_zero, List.getD_cons_succ]
                    go_simp
                    refine HKe.out.mono ?_
                    rintro e w12 ⟨kpv3, dv3, rfl, hO3⟩
                    dsimp only
                    have hB12 : Below wd.heap.size wd w12 := below_next HB10.out hO3.K
                    have HB12 := Hd.mk hB12
                    refine hK.out _ _ (HS.out _ hB12) ?_
                    clear hK K
                    rw [HE4.out] at hO3
                    obtain ⟨p3, c3, q3, d3, rfl, hc3, rfl, hd3⟩ := hO3.caps
                    have hRw3 := hO3.rows
                    simp only [List.length_append, List.length_cons, List.length_nil, Nat.zero_add, HL1.out, HD.out] at hc3 hd3 hRw3 ⊢
                    have HK12 : Hd (Keeps (fun g => g = b) w4 w12) := ⟨HK9.out.trans ((below_keeps hB12).mono (fun _ _ h => h.elim))⟩
                    have hR12 := HRowsA.out w12 HK12.out
                    have HB12' : Hd (Below w.heap.size w w12 ∧ Blk w12 b 43 [.string o.name, .slice p1 N c1', x2, x3, .slice none 0 0, x5, x6, x7, x8, x9, x10]) := ⟨HS.out _ hB12⟩
                    have e1 : decide ((κ.keep ++ [List.replicate o.secs.length true]).take M = κ.keep) = true := decide_eq_true (by rw [← HL1.out, List.take_left])
                    have HS3 := Hd.mk (rsame_any w12 (.slice p3 M c3) _ ((κ.keep ++ [List.replicate o.secs.length true]).take M) κ.keep (hRw3.1.take rfl (by rw [List.length_append, HL1.out]; omega)) hR12.1 (by rw [List.length_take]; omega) (fun ks hk => by
                      rw [← HL1.out, List.take_left] at hk
                      exact Nat.le_trans (HE5.out ks hk) (by decide)))
                    rw [e1] at HS3
                    have HS4 := Hd.mk (fun w' (h : Below w12.heap.size w12 w') => rsamed_any w' _ _ κ.differ κ.differ (hRw3.2.below dfE_stays h) (hR12.2.below dfE_stays h) HE6.out)
                    have e2 : decide (κ.differ = κ.differ) = true := decide_eq_true rfl
                    rw [e2] at HS4
                    have HR3 := Hd.mk hRw3.1
                    clear hR12 hRw3 e1 e2 hO3 hB12
                    repeat
                      refine lin3_free (v := ?_) (by rfl) ?_ ?_
                      rotate_left
                      · intro w' hSw
                        simp only [List.getD_cons_zero, List.getD_cons_succ]
                        go_simp
                        first | done | with_reducible rfl
                      simp only [Act.put, List.getD_cons_zero, List.getD_cons_succ, List.setIfInBounds_toArray, List.set_cons_zero, List.set_cons_succ]
                    refine NoPanic.normal ?_
                    go_wp2_with fail
                    refine HS3.out.mono ?_
                    rintro e w13 ⟨rfl, b13⟩
                    have HS4' := Hd.mk (HS4.out w13 b13)
                    have HB13 : Hd (Below w12.heap.size w12 w13) := ⟨b13⟩
                    clear b13 HS4 HS3
                    go_wp2_with fail
                    refine HS4'.out.mono ?_
                    rintro e w14 ⟨rfl, b14⟩
                    have hB14 := below_next HB13.out b14
                    have hR14 := HR3.out.below boolsE_stays hB14
                    have HBw14 : Hd (Below w.heap.size w w14) := ⟨below_next HB12'.out.1 hB14⟩
                    have HBk14 : Hd (Blk w14 b 43 [.string o.name, .slice p1 N c1', x2, x3, .slice none 0 0, x5, x6, x7, x8, x9, x10]) := ⟨HB12'.out.2.below hB14 HB12'.out.2.lt⟩
                    clear b14 HS4' hB14 HB13 HB12'
                    obtain ⟨gm, om, cs, rfl, hgm, _, hE, hcm⟩ := hR14.at rfl (j := M) (by rw [List.length_append, HL1.out]; simp)
                    have eM : (κ.keep ++ [List.replicate o.secs.length true])[M]'(by rw [List.length_append, HL1.out]; simp) = List.replicate N true := by
                      rw [List.getElem_append_right (by rw [HL1.out]; exact Nat.le_refl _), HN.out]; simp [HL1.out]
                    rw [eM] at hE
                    obtain ⟨vm, rfl, hvm⟩ := hE
                    have m0 := hcm 0 _ rfl
                    rw [Nat.mul_one, Nat.add_zero] at m0
                    obtain ⟨pm, cm, rfl⟩ := hvm.slice
                    rw [List.length_replicate] at m0 hvm
                    have HVm := Hd.mk hvm
                    have hMM : (M : Int) < (M : Int) + 1 := by omega
                    have hNl : N ≤ 140737488351232 := by have := HOk.out.secs; rw [HN.out] at this; exact this
                    clear hcm hgm hvm hR14 eM
                    go_wp2
                    go_loopw [15] (fun sv wi => ∃ s : Nat, s ≤ N ∧ sv = .int .i64 s ∧ w14 = wi) (fun sv _ => N - (intOf sv).toNat)
                    case atStart => exact ⟨0, Nat.zero_le _, rfl, by first | rfl | trivial⟩
                    case round =>
                      obtain ⟨s, hs, rfl, rfl⟩ := hrel
                      by_cases hlt : s < N
                      · obtain ⟨gi, oi, cs, rfl, hgi, _, hE, hci⟩ := HVm.out.at rfl (j := s) (by rw [List.length_replicate]; exact hlt)
                        rw [List.getElem_replicate] at hE
                        obtain rfl : cs = [.bool true] := hE
                        have k1 := hci 0 _ rfl
                        rw [Nat.mul_one, Nat.add_zero] at k1
                        have hms : N - (intOf (.int .i64 ((s : Int) + 1))).toNat < N - (intOf (.int .i64 (s : Int))).toNat := by simp [intOf]; omega
                        have hsN : (s : Int) < (N : Int) := by omega
                        clear hci hgi
                        go_wp2
                        go_roundw
                        case rel => exact ⟨s + 1, hlt, by go_num, by first | rfl | trivial⟩
                        case measure => exact hms
                      · have hsn : s = N := by omega
                        have m0d : ∀ q, (w14.drewN q).cell? ⟨gm, om + M, none⟩ = some (.slice pm N cm) := fun q => m0
                        have b1d : ∀ q, (w14.drewN q).cell? ⟨b, 1, none⟩ = some (.slice p1 N c1') := fun q => HBk14.out.at (j := 1) rfl
                        have HBQ : Hd (∀ q, Below w.heap.size w (w14.drewN q)) := ⟨fun q => below_next HBw14.out (below_drewN w14 q)⟩
                        subst hsn
                        have hd : decide ((s : Int) < (s : Int)) = false := by simp
                        go_wp2
                        go_quiet (fail)
                        go_wp2
                        go_ret
                        exact ⟨rfl, HBQ.out _⟩
  · rw [decide_eq_false hf] at HFw
    clear hf
    go_enter Tryd.func5, Tryd.ntmps5
    go_upto_region 1 with (fail)
    go_wp2_with fail
    refine HSm.out.mono ?_
    rintro e w1 ⟨rfl, b1⟩
    have B1 : Hd (Below w.heap.size w w1) := ⟨below_next HWb.out b1⟩
    have HB1 : Hd (Blk w1 b 43 [.string o.name, x1, x2, x3, x4, x5, x6, x7, x8, x9, x10]) := ⟨HBx.out.below b1 HBx.out.lt⟩
    clear b1 HSm
    go_wp2_with fail
    refine (HFw.out w1 B1.out).mono ?_
    rintro e w2 ⟨rfl, b2⟩
    have B2 := Hd.mk (below_next B1.out b2)
    have HB2 : Hd (Blk w2 b 43 [.string o.name, x1, x2, x3, x4, x5, x6, x7, x8, x9, x10]) := ⟨HB1.out.below b2 HB1.out.lt⟩
    clear b2 B1 HFw HB1 hwb
    go_wp2
    go_ret
    exact ⟨rfl, B2.out⟩

end Go.Proofs.YtimbhnnidohmaaaDoor.W
