/-
  The reference's ways: plain law, and its tables in memory.
-/
import Derived.Test.YtlncfhkmjbempaaRfb
import Derived.Test.YtlncfhkmjbempaaWyP
import Derived.Test.YtlncfhkmjbempaaAppF
namespace Go.Proofs.Ytlncfhkmjbempaa.W
open Go.RowKit
set_option linter.unusedVariables false

theorem lpok_add {C C' : List Nat → Prop} {X x : List Nat} (h : LpOk C X) (hx : x ≠ []) (hC : ∀ c, C' c ↔ C c ∨ c = x) : LpOk C' (if better x X = true then x else X) := by
  rcases h with ⟨h1, h2⟩ | ⟨h1, h2, h3⟩
  · rw [if_pos (by rw [h1]; simp [better])]
    refine .inr ⟨hx, (hC x).2 (.inr rfl), fun c hc hs => ?_⟩
    rcases (hC c).1 hc with h | h
    · exact h2 c h
    · subst h; exact Tj.sl_irr _ hs
  · by_cases hb : better x X = true
    · rw [if_pos hb]
      have hb' := (better_iff h1).1 hb
      refine .inr ⟨hx, (hC x).2 (.inr rfl), fun c hc hs => ?_⟩
      rcases (hC c).1 hc with h | h
      · exact h3 c h (Tj.sl_trans hs hb')
      · subst h; exact Tj.sl_irr _ hs
    · rw [if_neg hb]
      refine .inr ⟨h1, (hC X).2 (.inl h2), fun c hc hs => ?_⟩
      rcases (hC c).1 hc with h | h
      · exact h3 c h hs
      · subst h; exact hb ((better_iff h1).2 hs)

/-- the ways of at most r + 1 nodes -/
def LV (ws : List (List Nat)) (r u : Nat) : List Nat := if (Tj.wayL ws u).length ≤ r + 1 then Tj.wayL ws u else []
def Cw (ws : List (List Nat)) (r : Nat) (arcs : List Arc) (u : Nat) (c : List Nat) : Prop := ∃ a, a ∈ arcs ∧ a.t = (u : Int) ∧ LV ws r a.f.toNat ≠ [] ∧ LV ws r u = [] ∧ c = LV ws r a.f.toNat ++ [u]
theorem LpOk.none {C : List Nat → Prop} (h : ∀ c, ¬ C c) : LpOk C [] := .inl ⟨rfl, h⟩
section
variable {n : Nat} {arcs : List Arc} {rts : List Nat} {ws : List (List Nat)} {r u : Nat}
theorem cw_skip {i : Nat} (hi : i < arcs.length) (h : ¬ (arcs[i].t = (u : Int) ∧ LV ws r arcs[i].f.toNat ≠ [] ∧ LV ws r u = [])) (c : List Nat) : Cw ws r (arcs.take i) u c ↔ Cw ws r (arcs.take (i + 1)) u c := by
  have htk : arcs.take (i + 1) = arcs.take i ++ [arcs[i]] := by rw [List.take_add_one, List.getElem?_eq_getElem hi]; rfl
  unfold Cw
  rw [htk]
  constructor
  · rintro ⟨a, ha, k⟩
    exact ⟨a, List.mem_append_left _ ha, k⟩
  · rintro ⟨a, ha, k1, k2, k3, k4⟩
    rcases List.mem_append.1 ha with ha | ha
    · exact ⟨a, ha, k1, k2, k3, k4⟩
    · rw [List.mem_singleton] at ha; subst ha; exact absurd ⟨k1, k2, k3⟩ h
theorem cw_take {i : Nat} (hi : i < arcs.length) (h1 : arcs[i].t = (u : Int)) (h2 : LV ws r arcs[i].f.toNat ≠ []) (h3 : LV ws r u = []) (c : List Nat) : Cw ws r (arcs.take (i + 1)) u c ↔ Cw ws r (arcs.take i) u c ∨ c = LV ws r arcs[i].f.toNat ++ [u] := by
  have htk : arcs.take (i + 1) = arcs.take i ++ [arcs[i]] := by rw [List.take_add_one, List.getElem?_eq_getElem hi]; rfl
  unfold Cw
  rw [htk]
  constructor
  · rintro ⟨a, ha, k1, k2, k3, k4⟩
    rcases List.mem_append.1 ha with ha | ha
    · exact .inl ⟨a, ha, k1, k2, k3, k4⟩
    · rw [List.mem_singleton] at ha; subst ha; exact .inr k4
  · rintro (⟨a, ha, k⟩ | rfl)
    · exact ⟨a, List.mem_append_left _ ha, k⟩
    · exact ⟨_, List.mem_append_right _ (List.mem_singleton.2 rfl), h1, h2, h3, rfl⟩
theorem lv_some (hW : Tj.Ways n (nx n arcs) rts ws) (h : LV ws r u ≠ []) : ∃ l, l ∈ ws ∧ Tj.headN l = u ∧ LV ws r u = l.reverse ∧ l.length ≤ r + 1 := by
  unfold LV at h ⊢
  by_cases hl : (Tj.wayL ws u).length ≤ r + 1
  · rw [if_pos hl] at h ⊢
    have hm : u ∈ Tj.heads ws := Decidable.byContradiction fun hn => h (Tj.wayL_none hn)
    obtain ⟨l, h1, h2⟩ := Tj.mem_heads.1 hm
    have h3 : Tj.wayL ws u = l.reverse := by rw [← h2, hW.find h1]
    exact ⟨l, h1, h2, h3, by rw [h3, List.length_reverse] at hl; exact hl⟩
  · rw [if_neg hl] at h; exact absurd rfl h
theorem lv_of (hW : Tj.Ways n (nx n arcs) rts ws) {l : List Nat} (h : l ∈ ws) (hl : l.length ≤ r + 1) : LV ws r (Tj.headN l) = l.reverse ∧ LV ws r (Tj.headN l) ≠ [] := by
  have h1 := hW.find h
  have h2 : LV ws r (Tj.headN l) = l.reverse := by
    unfold LV
    rw [h1, if_pos (by rw [List.length_reverse]; exact hl)]
  refine ⟨h2, ?_⟩
  obtain ⟨q, e⟩ := (hW.way h).ne
  rw [h2, e]; simp
theorem cw_way (hW : Tj.Ways n (nx n arcs) rts ws) (hr : rightB (n : Int) arcs = true) (hu : u < n) {c : List Nat} (h : Cw ws r arcs u c) : ∃ lf lu, c = (u :: lf).reverse ∧ lf.length ≤ r + 1 ∧ lu ∈ ws ∧ Tj.headN lu = u ∧ Tj.sle lu (u :: lf) := by
  obtain ⟨a, ha, e, h1, _, rfl⟩ := h
  obtain ⟨lf, k1, k2, k3, k4⟩ := lv_some hW h1
  obtain ⟨⟨f1, f2⟩, _⟩ := (right_is hr).2.2 a ha
  have hwy : Tj.Wy (nx n arcs) rts u (u :: lf) := (hW.way k1).tail (mem_nx.2 ⟨hu, a, ha, by rw [k2]; omega, e⟩)
  obtain ⟨lu, m1, m2, m3⟩ := hW.least hwy
  exact ⟨lf, lu, by rw [k3, List.reverse_cons], k4, m1, m2, m3⟩
theorem wv_end (hW : Tj.Ways n (nx n arcs) rts ws) (hr : rightB (n : Int) arcs = true) (hu : u < n) {X : List Nat} (h : LpOk (Cw ws r arcs u) X) : (if X = [] then LV ws r u else X) = LV ws (r + 1) u := by
  by_cases h0 : LV ws r u = []
  · have hOk : LpOk (Cw ws r arcs u) (LV ws (r + 1) u) := by
      by_cases h1 : LV ws (r + 1) u = []
      · rw [h1]
        refine .none (fun c hc => ?_)
        obtain ⟨lf, lu, _, k2, k3, k4, k5⟩ := cw_way hW hr hu hc
        have hl : lu.length ≤ r + 1 + 1 := by
          rcases k5 with e | e | ⟨e, _⟩
          · rw [e]; simp; omega
          · simp at e; omega
          · simp at e; omega
        have := (lv_of (r := r + 1) hW k3 hl).2
        rw [k4] at this
        exact this h1
      · obtain ⟨lu, k1, k2, k3, k4⟩ := lv_some hW h1
        have hl : lu.length = r + 2 := by
          have : ¬ lu.length ≤ r + 1 := fun h => (by
            have := (lv_of (r := r) hW k1 h).2
            rw [k2] at this
            exact this h0)
          omega
        match lu, hl, k1, k2, k3, k4 with
        | x :: y :: q, hl, k1, k2, k3, k4 =>
          have hx : x = u := k2
          subst hx
          have hy := (WsOK.of hW).suf _ _ _ k1
          have hwy := hW.way k1
          have hnx : x ∈ nx n arcs y := by
            cases hwy with
            | tail hw hx =>
              obtain ⟨r', e⟩ := hw.ne
              have : y = _ := (List.cons.inj e).1
              subst this
              exact hx
          obtain ⟨_, a, ha, e1, e2⟩ := mem_nx.1 hnx
          have hlv := lv_of (r := r) hW hy (by simp at hl ⊢; omega)
          rw [show Tj.headN (y :: q) = y from rfl] at hlv
          refine .inr ⟨h1, ⟨a, ha, e2, by rw [e1]; exact hlv.2, h0, ?_⟩, fun c hc hs => ?_⟩
          · rw [e1, k3, List.reverse_cons]
            show _ = LV ws r y ++ [x]
            rw [hlv.1]
          · obtain ⟨lf, lu, m1, _, m3, m4, m5⟩ := cw_way hW hr hu hc
            have : lu = x :: y :: q := Tj.head_inj (WsOK.of hW).nod m3 k1 m4
            subst this
            rw [k3, m1, List.reverse_reverse, List.reverse_reverse] at hs
            rcases m5 with e | e
            · rw [← e] at hs; exact Tj.sl_irr _ hs
            · exact sl_asym e hs
    rw [h.uniq hOk, h0]
    split
    · rename_i e; exact e.symm
    · rfl
  · have hX : X = [] := by
      rcases h with ⟨h1, _⟩ | ⟨_, ⟨_, _, _, _, h2, _⟩, _⟩
      · exact h1
      · exact absurd h2 h0
    rw [if_pos hX]
    unfold LV at h0 ⊢
    by_cases hl : (Tj.wayL ws u).length ≤ r + 1
    · rw [if_pos hl, if_pos (by omega)]
    · rw [if_neg hl] at h0; exact absurd rfl h0
theorem wv_zero (hW : Tj.Ways n (nx n arcs) rts ws) : LV ws 0 u = if rts.contains u = true then [u] else [] := by
  by_cases h : u ∈ rts
  · rw [if_pos (List.contains_iff_mem.2 h)]
    obtain ⟨i, _, hw⟩ := hW.all
    exact (lv_of (r := 0) hW (hw.roots u h) (by simp)).1
  · rw [if_neg (fun e => h (List.contains_iff_mem.1 e))]
    refine Decidable.byContradiction fun hn => ?_
    obtain ⟨l, k1, k2, _, k4⟩ := lv_some hW hn
    have hwy := hW.way k1
    obtain ⟨q, e⟩ := hwy.ne
    have hq : q = [] := by rw [e] at k4; simp at k4; exact k4
    subst hq
    rw [e, show Tj.headN [Tj.headN l] = Tj.headN l from rfl] at hwy
    cases hwy with
    | root hx => rw [k2] at hx; exact h hx
    | tail hw _ => obtain ⟨_, e⟩ := hw.ne; cases e
theorem wv_full (hW : Tj.Ways n (nx n arcs) rts ws) (u : Nat) : LV ws n u = Tj.wayL ws u := by
  unfold LV
  refine if_pos ?_
  by_cases hm : u ∈ Tj.heads ws
  · obtain ⟨l, hl, rfl⟩ := Tj.mem_heads.1 hm
    rw [hW.find hl, List.length_reverse]
    exact Nat.le_trans ((WsOK.of hW).len l hl) (by omega)
  · rw [Tj.wayL_none hm]; simp
theorem lv_len (hW : Tj.Ways n (nx n arcs) rts ws) : (LV ws r u).length ≤ n := by
  by_cases h : LV ws r u = []
  · rw [h]; simp
  · obtain ⟨l, h1, _, h2, _⟩ := lv_some hW h
    rw [h2, List.length_reverse]
    exact (WsOK.of hW).len l h1
end

-- lists of nodes in memory, shared; W: the blocks that may be written
structure Ent (w : World) (W : Nat → Prop) (v : Value) (l : List Nat) : Prop where
  is : (v = .slice none 0 0 ∧ l = []) ∨ ∃ g o c, v = .slice (some ⟨g, o, none⟩) l.length c ∧ l ≠ [] ∧ g < w.heap.size ∧ ¬ W g ∧ ∀ (k : Nat) (x : Nat), l[k]? = some x → w.cell? ⟨g, o + k, none⟩ = some (.int .i64 (x : Int))
section
variable {w w' : World} {W W' S : Nat → Prop} {v : Value} {l : List Nat} {g n u : Nat} {L : Nat → List Nat}
theorem Ent.nil (w : World) (W : Nat → Prop) : Ent w W (.slice none 0 0) [] := ⟨.inl ⟨rfl, rfl⟩⟩
theorem Ent.keeps (h : Ent w W v l) (k : Keeps S w w') (hs : ∀ g, g < w.heap.size → S g → W g) : Ent w' W v l := by
  refine ⟨h.is.imp_right ?_⟩
  rintro ⟨g, o, c, e, h1, h2, h3, h4⟩
  exact ⟨g, o, c, e, h1, Nat.lt_of_lt_of_le h2 k.size, h3, fun i x hx => by rw [World.cell?_of_block (k.block g h2 (fun hS => h3 (hs g h2 hS)))]; exact h4 i x hx⟩
theorem Ent.weak (h : Ent w W v l) (hw : ∀ g, g < w.heap.size → W' g → W g) : Ent w W' v l := by
  refine ⟨h.is.imp_right ?_⟩
  rintro ⟨g, o, c, e, h1, h2, h3, h4⟩
  exact ⟨g, o, c, e, h1, h2, fun h => h3 (hw g h2 h), h4⟩
theorem Ent.ri (h : Ent w W v l) : RI w v (intL l) := by
  rcases h.is with ⟨rfl, rfl⟩ | ⟨g, o, c, rfl, h1, h2, h3, h4⟩
  · exact Rw.nil _
  · refine ⟨.inr ⟨g, o, c, by rw [intL_len], h2, fun j x hx => ?_⟩⟩
    obtain ⟨y, hy, rfl⟩ := intL_at hx
    refine ⟨[.int .i64 (y : Int)], rfl, rfl, fun i u hu => ?_⟩
    have hi := (List.getElem?_eq_some_iff.1 hu).1
    have hi0 : i = 0 := by simp at hi; omega
    subst hi0
    simp at hu; subst hu
    rw [Nat.mul_one, Nat.add_zero]
    exact h4 j y hy
theorem Ent.of_ri (h : RI w v (intL l)) (h0 : l ≠ []) (hw : ∀ g, g < w.heap.size → ¬ W g) : Ent w W v l := by
  obtain ⟨p, c, rfl⟩ := Rw.slice h
  rw [intL_len] at h ⊢
  have hpos : 0 < (intL l).length := by rw [intL_len]; exact List.length_pos_iff.2 h0
  obtain ⟨g, o, _, e, hg, _⟩ := Rw.at h rfl hpos
  subst e
  refine ⟨.inr ⟨g, o, c, rfl, h0, hg, hw g hg, fun k x hx => ?_⟩⟩
  have hk := (List.getElem?_eq_some_iff.1 hx).1
  obtain ⟨g', o', e', hc⟩ := RI.cell h rfl (k := k) (by rw [intL_len]; exact hk)
  cases e'
  rw [hc, intL_get hk]
  rw [(List.getElem?_eq_some_iff.1 hx).2]
theorem Ent.of_own {B : Nat} (h : Own w B 3 v (intC l)) (h0 : l ≠ []) (hw : ∀ g, B ≤ g → ¬ W g) : Ent w W v l := by
  have hl : (intC l).length = l.length := by simp [intC]
  rcases h.is with ⟨_, h1⟩ | ⟨g, cap, rfl, hB, _, _, _, hc, _⟩
  · exact absurd (by simpa [intC] using h1) h0
  · refine ⟨.inr ⟨g, 0, cap, by rw [hl], h0, (h.lt rfl).2, hw g hB, fun k x hx => ?_⟩⟩
    rw [Nat.zero_add]
    exact hc k _ (by simp [intC, hx])
/-- a table of lists -/
structure Tb (w : World) (W : Nat → Prop) (g n : Nat) (L : Nat → List Nat) : Prop where
  is : ∃ vs : List Value, vs.length = n ∧ Blk w g 23 vs ∧ ∀ u, u < n → ∃ v, vs[u]? = some v ∧ Ent w W v (L u)
theorem Tb.at (h : Tb w W g n L) (hu : u < n) : ∃ v, w.cell? ⟨g, u, none⟩ = some v ∧ w.frozen? ⟨g, u, none⟩ = false ∧ Ent w W v (L u) := by
  obtain ⟨vs, _, h2, h3⟩ := h.is
  obtain ⟨v, h4, h5⟩ := h3 u hu
  exact ⟨v, h2.at h4, h2.free u, h5⟩
theorem Tb.lt (h : Tb w W g n L) : g < w.heap.size := by obtain ⟨vs, _, h2, _⟩ := h.is; exact h2.lt
theorem Tb.keeps (h : Tb w W g n L) (k : Keeps S w w') (hs : ∀ g, g < w.heap.size → S g → W g) (hg : ¬ S g) : Tb w' W g n L := by
  obtain ⟨vs, h1, h2, h3⟩ := h.is
  refine ⟨vs, h1, k.blk h2 hg, fun u hu => ?_⟩
  obtain ⟨v, h4, h5⟩ := h3 u hu
  exact ⟨v, h4, h5.keeps k hs⟩
theorem Tb.weak (h : Tb w W g n L) (hw : ∀ g, g < w.heap.size → W' g → W g) : Tb w W' g n L := by
  obtain ⟨vs, h1, h2, h3⟩ := h.is
  refine ⟨vs, h1, h2, fun u hu => ?_⟩
  obtain ⟨v, h4, h5⟩ := h3 u hu
  exact ⟨v, h4, h5.weak hw⟩
theorem Tb.congr {L' : Nat → List Nat} (h : Tb w W g n L) (hl : ∀ u, u < n → L u = L' u) : Tb w W g n L' := by
  obtain ⟨vs, h1, h2, h3⟩ := h.is
  refine ⟨vs, h1, h2, fun u hu => ?_⟩
  obtain ⟨v, h4, h5⟩ := h3 u hu
  exact ⟨v, h4, hl u hu ▸ h5⟩
theorem Tb.set (h : Tb w W g n L) (hu : u < n) (hg : W g) (hE : Ent w W v l) : Tb (w.setCell ⟨g, u, none⟩ v) W g n (fun x => if x = u then l else L x) := by
  obtain ⟨vs, h1, h2, h3⟩ := h.is
  have hk : Keeps (fun q => q = g) w (w.setCell ⟨g, u, none⟩ v) := (Keeps.refl (fun q => q = g) w).setCell (p := ⟨g, u, none⟩) (.inr rfl) _
  refine ⟨vs.set u v, by simp [h1], h2.set u v, fun x hx => ?_⟩
  by_cases e : x = u
  · subst e
    exact ⟨v, by rw [List.getElem?_set_self (by omega)], by rw [if_pos rfl]; exact hE.keeps hk (fun q _ hq => by subst hq; exact hg)⟩
  · obtain ⟨v', h4, h5⟩ := h3 x hx
    exact ⟨v', by rw [List.getElem?_set_ne (fun h => e h.symm)]; exact h4, by rw [if_neg e]; exact h5.keeps hk (fun q _ hq => by subst hq; exact hg)⟩
theorem Tb.other {g' j : Nat} {x : Value} (h : Tb w W g n L) (hne : g' ≠ g) (hg : W g') : Tb (w.setCell ⟨g', j, none⟩ x) W g n L :=
  h.keeps (S := fun q => q = g') ((Keeps.refl (fun q => q = g') w).setCell (p := ⟨g', j, none⟩) (.inr rfl) _) (fun q _ hq => by subst hq; exact hg) (fun e => hne e.symm)
theorem Tb.made (w : World) (W : Nat → Prop) (n : Nat) : Tb (w.alloc (.cells (List.replicate n (.slice none 0 0)).toArray 23)) W w.heap.size n (fun _ => []) :=
  ⟨_, by simp, Blk.new w 23 (List.replicate n (.slice none 0 0)), fun u hu => ⟨.slice none 0 0, by rw [List.getElem?_replicate, if_pos hu], Ent.nil _ _⟩⟩
end

end Go.Proofs.Ytlncfhkmjbempaa.W
