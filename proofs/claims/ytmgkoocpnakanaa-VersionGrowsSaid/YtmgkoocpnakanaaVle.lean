/-
  The law VersionGrows: a further declaration of a new name changes nothing for the others; the new name serves itself and what its parents serve.
-/
import Derived.Test.YtmgkoocpnakanaaVk
import Derived.Test.YtmgkoocpnakanaaVd
import Derived.Test.YtmgkoocpnakanaaAppF
import Derived.Test.YtmgkoocpnakanaaEachJ
import Derived.Laws.Cover1
namespace Go.Proofs.Ytmgkoocpnakanaa.W
open Go.RowKit Go.ChangeShapes Go.WideShapes
set_option linter.unusedVariables false

/-! ### what a further declaration does -/
section
variable {l : List Vdf} {d : Vdf}
def Fresh (l : List Vdf) (n : ByteArray) : Prop := ∀ e, e ∈ l → e.name ≠ n ∧ ∀ p, p ∈ e.parents → p ≠ n
theorem par_more {s : ByteArray} (hs : s ≠ d.name) : par (l ++ [d]) s = par l s := by
  unfold par firstI
  rw [List.findIdx?_append]
  rcases hf : List.findIdx? (fun x : Vdf => decide (x.name = s)) l with _ | i
  · have h1 : List.findIdx? (fun x : Vdf => decide (x.name = s)) [d] = none := by
      rw [List.findIdx?_eq_none_iff]
      intro x hx
      rw [List.mem_singleton] at hx
      subst hx
      simpa using fun e => hs e.symm
    rw [h1]; rfl
  · have hi := (List.findIdx?_eq_some_iff_getElem.1 hf).1
    show ((l ++ [d])[i]?.map (·.parents)).getD [] = (l[i]?.map (·.parents)).getD []
    rw [List.getElem?_append_left hi]
theorem par_new (hF : Fresh l d.name) : par (l ++ [d]) d.name = d.parents := by
  unfold par firstI
  rw [List.findIdx?_append]
  have h0 : List.findIdx? (fun x : Vdf => decide (x.name = d.name)) l = none := by
    rw [List.findIdx?_eq_none_iff]
    intro x hx
    simpa using (hF x hx).1
  have h1 : List.findIdx? (fun x : Vdf => decide (x.name = d.name)) [d] = some 0 := by simp [List.findIdx?_cons]
  rw [h0, h1]
  show ((l ++ [d])[0 + l.length]?.map (·.parents)).getD [] = _
  rw [Nat.zero_add, List.getElem?_append_right (Nat.le_refl _), Nat.sub_self]; rfl
theorem par_ne (hF : Fresh l d.name) {s p : ByteArray} (h : p ∈ par l s) : p ≠ d.name := by
  obtain ⟨_, e, he, _, hp⟩ := par_mem h
  exact (hF e he).2 p hp
theorem srv_down (hF : Fresh l d.name) {a c : ByteArray} (h : Srv (l ++ [d]) a c) : a ≠ d.name → Srv l a c := by
  induction h with
  | refl => exact fun _ => .refl _
  | head hp _ ih =>
    intro ha
    rw [par_more ha] at hp
    exact .head hp (ih (par_ne hF hp))
theorem srv_up (hF : Fresh l d.name) {a c : ByteArray} (h : Srv l a c) : a ≠ d.name → Srv (l ++ [d]) a c := by
  induction h with
  | refl => exact fun _ => .refl _
  | head hp _ ih => exact fun ha => .head (by rw [par_more ha]; exact hp) (ih (par_ne hF hp))
theorem srv_more (hF : Fresh l d.name) {a c : ByteArray} (ha : a ≠ d.name) : srvB (l ++ [d]) a c = srvB l a c := by
  rw [Bool.eq_iff_iff, srvB_iff, srvB_iff]
  exact ⟨fun h => srv_down hF h ha, fun h => srv_up hF h ha⟩
theorem srv_new (hF : Fresh l d.name) {c : ByteArray} (hc : c ≠ d.name) : Srv (l ++ [d]) d.name c ↔ ∃ p, p ∈ d.parents ∧ p ≠ d.name ∧ Srv l p c := by
  constructor
  · intro h
    have key : ∀ {s t : ByteArray}, Srv (l ++ [d]) s t → s = d.name → t ≠ d.name → ∃ p, p ∈ d.parents ∧ p ≠ d.name ∧ Srv l p t := by
      intro s t h
      induction h with
      | refl => exact fun h1 h2 => absurd h1 h2
      | @head s p t hp hs ih =>
        intro h1 h2
        subst h1
        rw [par_new hF] at hp
        by_cases e : p = d.name
        · exact ih e h2
        · exact ⟨p, hp, e, srv_down hF hs e⟩
    exact key h rfl hc
  · rintro ⟨p, h1, h2, h3⟩
    exact .head (by rw [par_new hF]; exact h1) (srv_up hF h3 h2)
end

/-! ### rows of declarations, cell by cell -/
theorem infoVdf : (Try.prog.info? 32).map (fun i => (i.zero, i.size, i.bytes)) = some (some (.agg #[.string ⟨#[]⟩, .slice none 0 0]), 2, 40) := by kernel_rfl
abbrev VV := Vdf × Value
def VV.cells (z : VV) : List Value := z.1.cells z.2
structure VV.Ok (w : World) (z : VV) : Prop where
  at_ : z.1.At w z.2
theorem VV.Ok.below {w w' : World} {z : VV} (h : VV.Ok w z) (hb : Below w.heap.size w w') : VV.Ok w' z := ⟨h.at_.below hb⟩
def flatV (zs : List VV) : List Value := zs.flatMap VV.cells
theorem flatV_at : ∀ (xs : List VV) (j i : Nat) (x : VV) (u : Value), xs[j]? = some x → x.cells[i]? = some u → (flatV xs)[j * 2 + i]? = some u
  | [], j, i, x, u, h1, h2 => by simp at h1
  | a :: r, 0, i, x, u, h1, h2 => by
    have hi : i < 2 := (List.getElem?_eq_some_iff.1 h2).1
    simp only [List.getElem?_cons_zero, Option.some.injEq] at h1
    subst h1
    unfold flatV
    rw [List.flatMap_cons, Nat.zero_mul, Nat.zero_add, List.getElem?_append_left hi]
    exact h2
  | a :: r, j + 1, i, x, u, h1, h2 => by
    have := flatV_at r j i x u (by simpa using h1) h2
    unfold flatV at this ⊢
    rw [List.flatMap_cons, List.getElem?_append_right (by show 2 ≤ _; omega), show (j + 1) * 2 + i - a.cells.length = j * 2 + i by show (j + 1) * 2 + i - 2 = _; omega]
    exact this
theorem flatV_len (xs : List VV) : (flatV xs).length = xs.length * 2 := by
  induction xs with
  | nil => rfl
  | cons a r ih =>
    unfold flatV at ih ⊢
    rw [List.flatMap_cons, List.length_append, ih, List.length_cons]; show 2 + _ = _; omega
theorem flatV_one {w : World} {xs : List VV} (hx : ∀ z ∈ xs, VV.Ok w z) {u : Value} (h : u ∈ flatV xs) : u.oneCell' = true := by
  obtain ⟨a, ha, hu⟩ := List.mem_flatMap.1 h
  obtain ⟨p, c, e⟩ := (hx a ha).at_.parents.slice
  simp only [VV.cells, Vdf.cells, List.mem_cons, List.not_mem_nil, or_false] at hu
  rcases hu with rfl | rfl
  · rfl
  · rw [e]; rfl
theorem row_rwV {w : World} {B : Nat} {v : Value} {n : Nat} {xs : List VV} (h : w.ownsRow B 32 2 v n (flatV xs)) (hx : ∀ z ∈ xs, VV.Ok w z) : Rw 2 Vdf.E w v (xs.map (·.1)) := by
  have hn : n = xs.length := by have := h.1; rw [flatV_len] at this; omega
  have hl := h.lt
  rcases h.2 with ⟨rfl, h0⟩ | ⟨g, cap, cur, rfl, _⟩
  · exact ⟨.inl ⟨by rw [List.eq_nil_of_length_eq_zero (show xs.length = 0 by omega)]; rfl, .inl rfl⟩⟩
  · refine ⟨.inr ⟨g, 0, cap, by rw [hn, List.length_map], (hl g rfl).2, fun j x hj => ?_⟩⟩
    rw [List.getElem?_map] at hj
    rcases hz : xs[j]? with _ | z
    · rw [hz] at hj; cases hj
    · rw [hz] at hj
      injection hj with hj
      subst hj
      refine ⟨z.cells, rfl, ⟨z.2, rfl, (hx z (List.mem_of_getElem? hz)).at_⟩, fun i u hu => ?_⟩
      have := h.cells (g := g) rfl (j * 2 + i) u (flatV_at xs j i z u hz hu)
      rw [addr_add0] at this
      rw [Nat.zero_add] at this ⊢
      exact this
def SrcV (w : World) (zs : List VV) (v : Value) : Prop := (zs = [] ∧ (v = .slice none 0 0 ∨ ∃ a c, v = .slice (some a) 0 c)) ∨ ∃ g o cap, v = .slice (some ⟨g, o, none⟩) zs.length cap ∧ g < w.heap.size ∧ ∀ j u, (flatV zs)[j]? = some u → w.cell? ⟨g, o + j, none⟩ = some u
theorem SrcV.below {w w' : World} {zs : List VV} {v : Value} (h : SrcV w zs v) (hb : Below w.heap.size w w') : SrcV w' zs v := by
  rcases h with h | ⟨g, o, cap, e, hg, hc⟩
  · exact .inl h
  · exact .inr ⟨g, o, cap, e, Nat.lt_of_lt_of_le hg hb.size, fun j u hj => by rw [hb.cell (p := ⟨g, o + j, none⟩) hg]; exact hc j u hj⟩
/-- a row's declarations with the values of their parents -/
theorem row_vv {w : World} {v : Value} {l : List Vdf} (h : Rw 2 Vdf.E w v l) : ∃ zs : List VV, zs.map (·.1) = l ∧ (∀ z ∈ zs, VV.Ok w z) ∧ SrcV w zs v := by
  rcases h.is with ⟨rfl, h0⟩ | ⟨g, o, cap, rfl, hg, hc⟩
  · exact ⟨[], rfl, (fun z hz => by cases hz), .inl ⟨rfl, h0⟩⟩
  · have hpv : ∀ i : Fin l.length, ∃ pv : Value, l[i].At w pv ∧ ∀ k u, (l[i].cells pv)[k]? = some u → w.cell? ⟨g, o + i * 2 + k, none⟩ = some u := fun i => by
      obtain ⟨cs, _, ⟨pv, rfl, hA⟩, h3⟩ := hc i l[i] (List.getElem?_eq_getElem i.2)
      exact ⟨pv, hA, h3⟩
    let f : Fin l.length → Value := fun i => Classical.choose (hpv i)
    have hf : ∀ i : Fin l.length, l[i].At w (f i) ∧ ∀ k u, (l[i].cells (f i))[k]? = some u → w.cell? ⟨g, o + i * 2 + k, none⟩ = some u := fun i => Classical.choose_spec (hpv i)
    refine ⟨List.ofFn fun i : Fin l.length => ((l[i], f i) : VV), ?_, fun z hz => ?_, .inr ⟨g, o, cap, by rw [List.length_ofFn], hg, fun j u hj => ?_⟩⟩
    · rw [List.map_ofFn]
      exact List.ofFn_getElem
    · obtain ⟨i, rfl⟩ := List.mem_ofFn.1 hz
      exact ⟨(hf i).1⟩
    · have hlen : (flatV (List.ofFn fun i : Fin l.length => ((l[i], f i) : VV))).length = l.length * 2 := by rw [flatV_len, List.length_ofFn]
      have hj2 : j < l.length * 2 := by rw [← hlen]; exact (List.getElem?_eq_some_iff.1 hj).1
      have hi : j / 2 < l.length := by omega
      have hx : (List.ofFn fun i : Fin l.length => ((l[i], f i) : VV))[j / 2]? = some (l[j / 2], f ⟨j / 2, hi⟩) := by
        rw [List.getElem?_ofFn, dif_pos hi]; rfl
      obtain ⟨u', hu'⟩ : ∃ u', (VV.cells (l[j / 2], f ⟨j / 2, hi⟩))[j % 2]? = some u' := ⟨_, List.getElem?_eq_getElem (show j % 2 < 2 by omega)⟩
      have h6 := flatV_at _ (j / 2) (j % 2) _ u' hx hu'
      rw [show j / 2 * 2 + j % 2 = j by omega, hj] at h6
      cases h6
      have := (hf ⟨j / 2, hi⟩).2 (j % 2) u hu'
      rw [show o + ((⟨j / 2, hi⟩ : Fin l.length) : Nat) * 2 + j % 2 = o + j by show o + j / 2 * 2 + j % 2 = _; omega] at this
      exact this

theorem vdf_app {w : World} {B : Nat} {cv v : Value} {n : Nat} {r zs : List VV} (h : w.ownsRow B 32 2 cv n (flatV r)) (hz : ∀ z ∈ zs, VV.Ok w z)
    (hA : SrcV w zs v) (hn : (n + zs.length) * 40 ≤ 140737488355328) (hB : B ≤ w.heap.size) :
    ∃ v' w', (Builtin.append_ #[22, 22] 22 #[cv, v]).run Try.prog w = .ok v' w' ∧ w'.ownsRow B 32 2 v' (n + zs.length) (flatV (r ++ zs)) ∧ Below B w w' ∧ Keeps (fun g => cv.ownBlock = some g) w w' ∧ (v'.ownBlock = cv.ownBlock ∨ v'.ownBlock = some w.heap.size) := by
  obtain ⟨i0, hi, hz0, hz1, hz2⟩ := info_parts infoVdf
  have hlt := h.lt
  have key : ∀ (a : Addr) (c : Nat), v = .slice (some a) zs.length c → (∀ j u, (flatV zs)[j]? = some u → w.cell? (a.add j) = some u) → ∃ v' w', (Builtin.append_ #[22, 22] 22 #[cv, v]).run Try.prog w = .ok v' w' ∧ w'.ownsRow B 32 2 v' (n + zs.length) (flatV (r ++ zs)) ∧ Below B w w' ∧ Keeps (fun g => cv.ownBlock = some g) w w' ∧ (v'.ownBlock = cv.ownBlock ∨ v'.ownBlock = some w.heap.size) := fun a c hv hc => by
    subst hv
    obtain ⟨v', w', h1, h2, h3, _, h5⟩ := run_append_own_at (P := Try.prog) (w := w) B 22 22 32 i0 _ 2 40 Try.underlying22 hi hz0 hz1 hz2 rfl (by decide) cv n (flatV r) h a zs.length c (flatV zs) (flatV_len zs) hc (fun u hu => flatV_one hz hu) (by unfold maxLen; omega) (by omega) hB
    have hk : Keeps (fun g => cv.ownBlock = some g) w w' := ⟨h3.os, h3.tape, h3.output, h3.size, fun k hk hn => h3.block k hk (fun c => hn c.symm)⟩
    refine ⟨v', w', h1, by unfold flatV at h2 ⊢; rw [List.flatMap_append]; exact h2, hk.below hB (fun g h1 h2 => by have := (hlt g h2).1; omega), hk, h5⟩
  rcases hA with ⟨rfl, rfl | ⟨a, c, rfl⟩⟩ | ⟨g, o, cap, rfl, _, hc⟩
  · have hcv : ∃ p c, cv = .slice p n c ∧ n ≤ c := by
      rcases h.2 with ⟨rfl, rfl⟩ | ⟨g, cap, cur, rfl, _, _, h4, _⟩
      · exact ⟨none, 0, rfl, Nat.le_refl _⟩
      · exact ⟨_, cap, rfl, h4⟩
    obtain ⟨p, c, rfl, hle⟩ := hcv
    refine ⟨_, _, run_append_nothing (P := Try.prog) w 22 22 22 32 i0 Try.underlying22 hi p n c hle (.slice none 0 0) (Src.ofNil w Try.underlying22 0), ?_, Below.refl _ _, Keeps.refl _ _, .inl rfl⟩
    rw [List.append_nil]; exact h
  · exact key a c rfl (fun j u hj => by simp [flatV] at hj)
  · refine key ⟨g, o, none⟩ cap rfl (fun j u hj => ?_)
    rw [addr_add0]
    exact hc j u hj

/-! ### the copy with a further declaration, made in any order -/
structure GJ (B : Nat) (zs : List VV) (zd : VV) (w0 : World) (done : Nat → Bool) (s : Nat → Value) (w : World) : Prop where
  bel : Below B w0 w
  o2 : done 2 = true → done 0 = true
  o5 : done 5 = true → done 2 = true ∧ done 4 = true
  o6 : done 6 = true → done 5 = true
  a : done 0 = true → done 2 = false → w.ownsRow B 32 2 (s 0) 0 (flatV [])
  b : done 2 = true → done 5 = false → w.ownsRow B 32 2 (s 2) zs.length (flatV zs)
  c : done 4 = true → done 5 = false → ∃ k, s 4 = .slice (some ⟨k, 0, none⟩) 1 1 ∧ B ≤ k ∧ Blk w k 32 zd.cells ∧ (done 0 = true → done 2 = false → (s 0).ownBlock ≠ some k) ∧ (done 2 = true → (s 2).ownBlock ≠ some k)
  e : done 5 = true → done 6 = false → w.ownsRow B 32 2 (s 5) (zs.length + 1) (flatV (zs ++ [zd]))
  f : done 6 = true → w.ownsRow B 32 2 (s 6) (zs.length + 1) (flatV (zs ++ [zd]))

section
variable {B : Nat} {zs : List VV} {zd : VV} {w0 w w' : World} {done : Nat → Bool} {s : Nat → Value} {v : Value}
theorem GJ.step0 (h : GJ B zs zd w0 done s w) (hd : done 0 = false) (hB : B ≤ w0.heap.size) : GJ B zs zd w0 (setD done 0) (upd s 0 (.slice (some ⟨w.heap.size, 0, none⟩) 0 0)) (w.alloc (.cells #[] 32)) := by
  have hw : B ≤ w.heap.size := Nat.le_trans hB h.bel.size
  have n2 : done 2 = false := by
    rcases e : done 2 with _ | _
    · rfl
    · rw [h.o2 e] at hd; cases hd
  have n5 : done 5 = false := by
    rcases e : done 5 with _ | _
    · rfl
    · rw [(h.o5 e).1] at n2; cases n2
  have n6 : done 6 = false := by
    rcases e : done 6 with _ | _
    · rfl
    · rw [h.o6 e] at n5; cases n5
  refine ⟨h.bel.trans ((below_alloc w _).mono hw), ?_, ?_, ?_, ?_, ?_, ?_, ?_, ?_⟩ <;> simp only [setD, upd, n2, n5, n6, reduceIte, Nat.reduceEqDiff, ↓reduceIte]
  · intro h; cases h
  · intro h; cases h
  · intro h; cases h
  · intro _ _; exact World.ownsRow_lit w #[] 0 hw (Nat.zero_le _) rfl
  · intro h; cases h
  · intro h4 _
    obtain ⟨k, e1, e2, e3, e4, e5⟩ := h.c h4 n5
    refine ⟨k, e1, e2, e3.alloc _, fun _ _ e => ?_, fun h => by cases h⟩
    have hk := e3.lt
    have : w.heap.size = k := by simpa [Value.ownBlock] using e
    omega
  · intro h; cases h
  · intro h; cases h
theorem GJ.step4 (h : GJ B zs zd w0 done s w) (hd : done 4 = false) (hB : B ≤ w0.heap.size) : GJ B zs zd w0 (setD done 4) (upd s 4 (.slice (some ⟨w.heap.size, 0, none⟩) 1 1)) (w.alloc (.cells zd.cells.toArray 32)) := by
  have hw : B ≤ w.heap.size := Nat.le_trans hB h.bel.size
  have n5 : done 5 = false := by
    rcases e : done 5 with _ | _
    · rfl
    · rw [(h.o5 e).2] at hd; cases hd
  have n6 : done 6 = false := by
    rcases e : done 6 with _ | _
    · rfl
    · rw [h.o6 e] at n5; cases n5
  refine ⟨h.bel.trans ((below_alloc w _).mono hw), ?_, ?_, ?_, ?_, ?_, ?_, ?_, ?_⟩ <;> simp only [setD, upd, n5, n6, reduceIte, Nat.reduceEqDiff, ↓reduceIte]
  · exact h.o2
  · intro h; cases h
  · intro h; cases h
  · intro h0 h2; exact (h.a h0 h2).alloc _
  · intro h2 _; exact (h.b h2 n5).alloc _
  · intro _ _
    refine ⟨w.heap.size, rfl, hw, Blk.new w 32 zd.cells, fun h0 h2 e => ?_, fun h2 e => ?_⟩
    · have := ((h.a h0 h2).lt _ e).2; omega
    · have := ((h.b h2 n5).lt _ e).2; omega
  · intro h; cases h
  · intro h; cases h
theorem GJ.step2 (h : GJ B zs zd w0 done s w) (hd : done 2 = false) (h0 : done 0 = true) (hB : B ≤ w0.heap.size) {v : Value} (hz : ∀ z ∈ zs, VV.Ok w z)
    (hA : SrcV w zs v) (hn : zs.length * 40 ≤ 140737488355328) :
    ∃ v' w', (Builtin.append_ #[22, 22] 22 #[s 0, v]).run Try.prog w = .ok v' w' ∧ GJ B zs zd w0 (setD done 2) (upd s 2 v') w' := by
  have hw : B ≤ w.heap.size := Nat.le_trans hB h.bel.size
  have n5 : done 5 = false := by
    rcases e : done 5 with _ | _
    · rfl
    · rw [(h.o5 e).1] at hd; cases hd
  have n6 : done 6 = false := by
    rcases e : done 6 with _ | _
    · rfl
    · rw [h.o6 e] at n5; cases n5
  obtain ⟨v', w', h1, h2, h3, h4, h5⟩ := vdf_app (h.a h0 hd) hz hA (by omega) hw
  rw [Nat.zero_add] at h2
  refine ⟨v', w', h1, h.bel.trans h3, ?_, ?_, ?_, ?_, ?_, ?_, ?_, ?_⟩ <;> simp only [setD, upd, n5, n6, reduceIte, Nat.reduceEqDiff, ↓reduceIte]
  · intro _; exact h0
  · intro h; cases h
  · intro h; cases h
  · intro _ h; cases h
  · intro _ _; exact h2
  · intro h4' _
    obtain ⟨k, e1, e2, e3, e4, e5⟩ := h.c h4' n5
    have hne := e4 h0 hd
    refine ⟨k, e1, e2, h4.blk e3 hne, (fun _ h => by cases h), fun _ e => ?_⟩
    rcases h5 with h5 | h5
    · rw [h5] at e; exact hne e
    · rw [h5] at e
      have := e3.lt
      injection e with e
      omega
  · intro h; cases h
  · intro h; cases h
theorem GJ.step5 (h : GJ B zs zd w0 done s w) (hd : done 5 = false) (h2 : done 2 = true) (h4 : done 4 = true) (hB : B ≤ w0.heap.size) (hz : VV.Ok w zd) (hn : (zs.length + 1) * 40 ≤ 140737488355328) :
    ∃ v' w', (Builtin.append_ #[22, 22] 22 #[s 2, s 4]).run Try.prog w = .ok v' w' ∧ GJ B zs zd w0 (setD done 5) (upd s 5 v') w' := by
  have hw : B ≤ w.heap.size := Nat.le_trans hB h.bel.size
  have n6 : done 6 = false := by
    rcases e : done 6 with _ | _
    · rfl
    · rw [h.o6 e] at hd; cases hd
  obtain ⟨k, e1, e2, e3, e4, e5⟩ := h.c h4 hd
  obtain ⟨v', w', r1, r2, r3, _, _⟩ := vdf_app (zs := [zd]) (v := s 4) (h.b h2 hd) (fun z hz' => by rw [List.mem_singleton] at hz'; subst hz'; exact hz) (.inr ⟨k, 0, 1, e1, e3.lt, fun j u hj => by
    rw [Nat.zero_add]
    refine e3.at ?_
    simpa [flatV] using hj⟩) hn hw
  refine ⟨v', w', r1, h.bel.trans r3, ?_, ?_, ?_, ?_, ?_, ?_, ?_, ?_⟩ <;> simp only [setD, upd, n6, reduceIte, Nat.reduceEqDiff, ↓reduceIte]
  · exact h.o2
  · intro _; exact ⟨h2, h4⟩
  · intro h; cases h
  · intro h0 hn2; rw [h2] at hn2; cases hn2
  · intro _ h; cases h
  · intro _ h; cases h
  · intro _ _; exact r2
  · intro h; cases h
theorem GJ.step6 (h : GJ B zs zd w0 done s w) (hd : done 6 = false) (h5 : done 5 = true) : GJ B zs zd w0 (setD done 6) (upd s 6 (s 5)) w := by
  have he := h.e h5 hd
  refine ⟨h.bel, ?_, ?_, ?_, ?_, ?_, ?_, ?_, ?_⟩ <;> simp only [setD, upd, h5, reduceIte, Nat.reduceEqDiff, ↓reduceIte]
  · exact h.o2
  · intro _; exact h.o5 h5
  · intro _; trivial
  · exact h.a
  · intro _ h; cases h
  · intro _ h; cases h
  · intro _ h; cases h
  · intro _; exact he
end

/-! ### the openers -/
structure ArgVdfsB (W : World) (v : Value) (l : List Vdf) : Prop where
  arg : ArgVdfs W v l
  b40 : l.length * 40 ≤ 140737488351232
set_option maxRecDepth 100000 in
theorem args_VdfsB {H : Type} {enc : TypeId × Value → H} {base : Nat} {W : World} {v : Value} {d : DataW H} {p : List MemPlace} (hval : Value.okWide Try.prog W .any base 22 v) (h : DataW.Trod enc Try.prog W 0 (fun _ => true) true 22 v d p)
    (hz : ∀ n ∈ d.weights Try.prog 22, n ≤ reachBytes) : ∃ l : List Vdf, ArgVdfsB W v l := by
  obtain ⟨a0, len, cap, rfl⟩ := okWide_slice Try.underlying22 hval
  obtain ⟨fuel, hf⟩ := h
  obtain ⟨v, xs, hv, h1, h2⟩ := arg_slice_cells (P := Try.prog) (m := 2) (fun cs (x : Vdf) => Vdf.E W cs x ∧ Vdf.Ok x) Try.underlying22 cellsVdf (by decide) elem_Vdf hf hz
  rw [show Try.prog.bytesOf 32 = 40 from by kernel_rfl] at h2
  have hr : reachBytes = 140737488351232 := by decide
  obtain ⟨h3, h4⟩ := rw_of_slice h1
  have e : Value.slice a0 len cap = v := by have : [Value.slice a0 len cap] = [v] := hv; exact List.head_eq_of_cons_eq this
  exact ⟨xs, ⟨e ▸ h3, by unfold lenR; omega, h4⟩, by omega⟩
theorem VOk.left {l : List Vdf} {d : Vdf} (h : VOk (l ++ [d])) : VOk l :=
  ⟨by have := h.len; rw [List.length_append] at this; omega, fun e he => h.name e (List.mem_append_left _ he), fun e he => h.par e (List.mem_append_left _ he)⟩
theorem take_memD {l : List Vdf} {k : Nat} (hk : k < l.length) {d : Vdf} : d ∈ l.take (k + 1) ↔ d ∈ l.take k ∨ d = l[k] := by
  rw [List.take_add_one, List.getElem?_eq_getElem hk]
  show d ∈ l.take k ++ [l[k]] ↔ _
  rw [List.mem_append, List.mem_singleton]
theorem take_memS {l : List ByteArray} {k : Nat} (hk : k < l.length) {d : ByteArray} : d ∈ l.take (k + 1) ↔ d ∈ l.take k ∨ d = l[k] := by
  rw [List.take_add_one, List.getElem?_eq_getElem hk]
  show d ∈ l.take k ++ [l[k]] ↔ _
  rw [List.mem_append, List.mem_singleton]


set_option maxHeartbeats 4000000 in
set_option maxRecDepth 100000 in
theorem grows_any (w : World) (v : Value) (l : List Vdf) (vd : Value) (d : Vdf) (a c : ByteArray) (h : ArgVdfsB w v l) (hd : ArgVdf w vd d) (ha : a.size ≤ 140737488351232) (hc : c.size ≤ 140737488351232) :
    Calls Try.prog 8 #[v, vd, .string a, .string c] w fun e w' => e = .returned (.bool true) ∧ Below w.heap.size w w' := by
  obtain ⟨cs, rfl, pvd, rfl, hAt⟩ := hd.is
  obtain ⟨zs, hzs, hzk, hsrc⟩ := row_vv h.arg.row
  have hb40 := h.b40
  have hPr := hAt.parents
  obtain ⟨pp, pc, hpv⟩ := hPr.slice
  obtain ⟨PN, hPN⟩ : ∃ PN, d.parents.length = PN := ⟨_, rfl⟩
  rw [hPN] at hpv
  subst hpv
  obtain ⟨p, q, hv⟩ := h.arg.row.slice
  obtain ⟨M, hM⟩ : ∃ M, l.length = M := ⟨_, rfl⟩
  rw [hM] at hv
  subst hv
  have HRow0 := Hd.mk h.arg.row
  have HM := Hd.mk hM
  have HPN := Hd.mk hPN
  have HZs := Hd.mk hzs
  have HZk := Hd.mk hzk
  have HZd : Hd (VV.Ok w ((d, .slice pp PN pc) : VV)) := ⟨⟨hAt⟩⟩
  have HSrc := Hd.mk hsrc
  have HPr0 := Hd.mk hPr
  have hzl : (zs.length + 1) * 40 ≤ 140737488355328 := by
    have : zs.length = l.length := by rw [← hzs, List.length_map]
    omega
  have HZl := Hd.mk hzl
  obtain ⟨D, hD⟩ : ∃ D, d.name = D := ⟨_, rfl⟩
  have HD := Hd.mk hD
  have hcells : (Vdf.cells d (.slice pp PN pc)).toArray = #[.string D, .slice pp PN pc] := by rw [← hD]; rfl
  rw [hcells]
  have HCe := Hd.mk hcells
  have HSm := Hd.mk (small_any (w.alloc (.cells #[.string D, .slice pp PN pc] 32)))
  clear h hd hzs hzk hsrc hb40 hPr hPN hM hAt hzl hD hcells
  go_enter Try.func8, Try.ntmps8
  go_wp2_with fail
  refine HSm.out.mono ?_
  rintro e w1 ⟨rfl, b1⟩
  have hw1 : Below w.heap.size w w1 := (below_alloc w _).trans (b1.mono (by simp))
  have HW1 := Hd.mk hw1
  have HRow : Hd (Rw 2 Vdf.E w1 (.slice p M q) l) := ⟨HRow0.out.below Vdf.stays hw1⟩
  have HPr : Hd (Rw 1 strE w1 (.slice pp PN pc) d.parents) := ⟨HPr0.out.below strE_stays hw1⟩
  have HBk : Hd (Blk w1 w.heap.size 32 [.string D, .slice pp PN pc]) := ⟨(Blk.new w 32 [.string D, .slice pp PN pc]).below b1 (by simp)⟩
  have HZk1 : Hd (∀ z ∈ zs, VV.Ok w1 z) := ⟨fun z hz => (HZk.out z hz).below hw1⟩
  have HZd1 : Hd (VV.Ok w1 ((d, .slice pp PN pc) : VV)) := ⟨HZd.out.below hw1⟩
  have HSrc1 : Hd (SrcV w1 zs (.slice p M q)) := ⟨HSrc.out.below hw1⟩
  obtain ⟨b5, hb5⟩ : ∃ b5, w.heap.size = b5 := ⟨_, rfl⟩
  have HCd : Hd (∀ w', Below w1.heap.size w1 w' → w'.cell? ⟨b5, 0, none⟩ = some (.string D) ∧ w'.cell? ⟨b5, 1, none⟩ = some (.slice pp PN pc)) := ⟨fun w' hb => by
    have hk := HBk.out.below hb HBk.out.lt
    rw [hb5] at hk
    exact ⟨hk.at (j := 0) rfl, hk.at (j := 1) rfl⟩⟩
  have HB5 := Hd.mk hb5
  rw [hb5]
  clear b1 hw1 HSm HRow0 HPr0 HZk HZd HSrc HBk hb5
  go_upto_region 2 with (fail)
  refine wp_region_eachJ default (fun w' => w'.cell? ⟨b5, 0, none⟩ = some (.string D) ∧ w'.cell? ⟨b5, 1, none⟩ = some (.slice pp PN pc)) (GJ w1.heap.size zs (d, .slice pp PN pc) w1.drew) [1, 3] [(0, some 16), (2, some 18), (4, some 20), (5, some 21), (6, some 10)] (fun _ => undef) (by kernel_rfl) (by kernel_rfl) rfl (by kernel_rfl) (by kernel_rfl) (by kernel_rfl) ?_ (HCd.out _ (Bel w1 1)) (fun _ _ w' hJ => HCd.out w' ((Bel w1 1).trans hJ.bel)) ?_
  · exact ⟨Below.refl _ _, fun h => absurd h (by decide), fun h => absurd h (by decide), fun h => absurd h (by decide), fun h => absurd h (by decide), fun h => absurd h (by decide), fun h => absurd h (by decide), fun h => absurd h (by decide), fun h => absurd h (by decide)⟩
  simp only [List.map_cons, List.map_nil, List.getD_cons_zero, List.getD_cons_succ]
  repeat
    refine free_step (v := ?_) (by rfl) ?_ ?_
    rotate_left
    · intro w' hSw
      obtain ⟨d0, d1⟩ := hSw
      go_simp
      first | done | with_reducible rfl
    simp only [Act.put, List.setIfInBounds_toArray, List.set_cons_zero, List.set_cons_succ]
  refine ⟨by kernel_rfl, ?_, ?_⟩
  · simp only [StepsJ, List.getD_cons_zero, List.getD_cons_succ]
    refine ⟨?_, ?_, ?_, ?_, ?_, trivial⟩
    all_goals
      intro done s w2 hJ hd0 hdep K' hK'
      simp only [foldPut, List.foldl_cons, List.foldl_nil, Act.put, List.setIfInBounds_toArray, List.set_cons_zero, List.set_cons_succ] at hK' ⊢
      have HJ := Hd.mk hJ
      have HD0 := Hd.mk hd0
      have HDep := Hd.mk hdep
      clear hJ hd0 hdep
    · go_simp
      exact hK'.out _ _ (HJ.out.step0 HD0.out (Nat.le_refl _))
    · have hb2 : Below w1.heap.size w1 w2 := (Bel w1 1).trans HJ.out.bel
      obtain ⟨v', w', h1, h2⟩ := HJ.out.step2 HD0.out (HDep.out 0 (by kernel_rfl)) (Nat.le_refl _) (fun z hz => (HZk1.out z hz).below hb2) (HSrc1.out.below hb2) (by have := HZl.out; omega)
      rw [if_pos (by rfl)]
      refine oper_append (Operand.tmp 16) (Operand.tmp 17) 22 rfl _ _ rfl rfl h1 ?_
      simp only [Act.put, List.setIfInBounds_toArray, List.set_cons_zero, List.set_cons_succ]
      exact hK'.out _ _ h2
    · have h4 := HJ.out.step4 HD0.out (Nat.le_refl _)
      rw [show (VV.cells (d, .slice pp PN pc)).toArray = #[.string D, .slice pp PN pc] from HCe.out] at h4
      have H4 := Hd.mk h4
      clear h4
      go_simp
      exact hK'.out _ _ H4.out
    · have hb2 : Below w1.heap.size w1 w2 := (Bel w1 1).trans HJ.out.bel
      obtain ⟨v', w', h1, h2⟩ := HJ.out.step5 HD0.out (HDep.out 2 (by kernel_rfl)) (HDep.out 4 (by kernel_rfl)) (Nat.le_refl _) (HZd1.out.below hb2) HZl.out
      rw [if_pos (by rfl)]
      refine oper_append (Operand.tmp 18) (Operand.tmp 20) 22 rfl _ _ rfl rfl h1 ?_
      simp only [Act.put, List.setIfInBounds_toArray, List.set_cons_zero, List.set_cons_succ]
      exact hK'.out _ _ h2
    · have h4 := Hd.mk (HJ.out.step6 HD0.out (HDep.out 5 (by kernel_rfl)))
      go_simp
      exact hK'.out _ _ h4.out
  intro s w2 hJ
  simp only [foldPut, List.foldl_cons, List.foldl_nil, Act.put, List.setIfInBounds_toArray, List.set_cons_zero, List.set_cons_succ]
  refine NoPanic.normal ?_
  have hb2 : Below w1.heap.size w1 w2 := (Bel w1 1).trans hJ.bel
  have hmo : Rw 2 Vdf.E w2 (s 6) (l ++ [d]) := by
    have := row_rwV (hJ.f rfl) (fun z hz => by
      rcases List.mem_append.1 hz with hz | hz
      · exact (HZk1.out z hz).below hb2
      · rw [List.mem_singleton] at hz; subst hz; exact HZd1.out.below hb2)
    rw [List.map_append, HZs.out] at this
    exact this
  have HB2 : Hd (Below w.heap.size w w2) := ⟨HW1.out.trans (hb2.mono HW1.out.size)⟩
  have HRow2 : Hd (Rw 2 Vdf.E w2 (.slice p M q) l) := ⟨HRow.out.below Vdf.stays hb2⟩
  have HPr2 : Hd (Rw 1 strE w2 (.slice pp PN pc) d.parents) := ⟨HPr.out.below strE_stays hb2⟩
  have HCd2 : Hd (∀ w', Below w2.heap.size w2 w' → w'.cell? ⟨b5, 0, none⟩ = some (.string D) ∧ w'.cell? ⟨b5, 1, none⟩ = some (.slice pp PN pc)) := ⟨fun w' hb => HCd.out w' (hb2.trans (hb.mono hb2.size))⟩
  generalize s 6 = vm at hmo ⊢
  generalize s 5 = s5
  generalize s 4 = s4
  generalize s 2 = s2
  generalize s 0 = s0
  have HMo := Hd.mk hmo
  have HFw := Hd.mk (few_any w2 vm (l ++ [d]) hmo)
  obtain ⟨f, hf⟩ : ∃ f, fewV (l ++ [d]) = f := ⟨_, rfl⟩
  have HF := Hd.mk hf
  rw [hf] at HFw
  clear hJ hb2 hmo hf HRow HPr HCd HZk1 HZd1 HSrc1 HW1 HZs HZl HCe
  go_wp2_with fail
  refine HFw.out.mono ?_
  rintro e w3 ⟨rfl, rfl⟩
  clear HFw
  cases f with
  | false =>
    go_wp2
    go_ret
    exact ⟨rfl, HB2.out⟩
  | true =>
    have HOk := Hd.mk (fewV_iff.1 HF.out)
    have HOl := Hd.mk HOk.out.left
    obtain ⟨c0, c1⟩ := HCd2.out w2 (Below.refl _ _)
    by_cases h1 : 100 < a.size
    · have g1 : decide ((100 : Int) < (a.size : Int)) = true := decide_eq_true (by omega)
      go_wp2
      go_ret
      exact ⟨rfl, HB2.out⟩
    have g1 : decide ((100 : Int) < (a.size : Int)) = false := decide_eq_false (by omega)
    by_cases h3 : 100 < c.size
    · have g3 : decide ((100 : Int) < (c.size : Int)) = true := decide_eq_true (by omega)
      go_wp2
      go_ret
      exact ⟨rfl, HB2.out⟩
    have g3 : decide ((100 : Int) < (c.size : Int)) = false := decide_eq_false (by omega)
    have g4 := str_beq a D
    by_cases hae : a = D
    · rw [decide_eq_true hae] at g4
      clear hae
      go_wp2
      go_ret
      exact ⟨rfl, HB2.out⟩
    rw [decide_eq_false hae] at g4
    have g5 := str_beq c D
    by_cases hce : c = D
    · rw [decide_eq_true hce] at g5
      clear hce
      go_wp2
      go_ret
      exact ⟨rfl, HB2.out⟩
    rw [decide_eq_false hce] at g5
    have hM12 : M ≤ 12 := by have := HOl.out.len; rw [HM.out] at this; exact this
    have hP6 := HOk.out.par d (List.mem_append_right _ (List.mem_singleton_self _))
    have hDz := HOk.out.name d (List.mem_append_right _ (List.mem_singleton_self _))
    rw [HD.out] at hDz
    rw [HPN.out] at hP6
    have hPN6 := hP6.1
    have HPz := Hd.mk hP6.2
    have HAe := Hd.mk hae
    have HCe := Hd.mk hce
    have HSl : Hd (∀ (w' : World) (x : ByteArray), Below w2.heap.size w2 w' → x.size ≤ 100 → Calls Try.prog 13 #[.slice p M q, .string x, .string c] w' fun e w'' => e = .returned (.bool (srvB l x c)) ∧ Below w'.heap.size w' w'') := ⟨fun w' x hb hx => serves_any w' (.slice p M q) l x c (HRow2.out.below Vdf.stays hb) HOl.out hx (by omega)⟩
    have HSm : Hd (∀ (w' : World) (x y : ByteArray), Below w2.heap.size w2 w' → x.size ≤ 100 → y.size ≤ 100 → Calls Try.prog 13 #[vm, .string x, .string y] w' fun e w'' => e = .returned (.bool (srvB (l ++ [d]) x y)) ∧ Below w'.heap.size w' w'') := ⟨fun w' x y hb hx hy => serves_any w' vm (l ++ [d]) x y (HMo.out.below Vdf.stays hb) HOk.out hx hy⟩
    have HF0 : Hd (∀ e, e ∈ l.take 0 → e.name ≠ D ∧ ∀ x, x ∈ e.parents → x ≠ D) := ⟨fun e he => by simp at he⟩
    clear hae hce hP6 HF HMo
    go_wp2
    clear g4 g5 c0 c1
    go_loopw [11] (fun iv wr => ∃ i : Nat, i ≤ M ∧ iv = .int .i64 (i : Int) ∧ Hd (∀ e, e ∈ l.take i → e.name ≠ D ∧ ∀ x, x ∈ e.parents → x ≠ D) ∧ Hd (Below w2.heap.size w2 wr)) (fun iv _ => M - (intOf iv).toNat)
    case atStart => exact ⟨0, Nat.zero_le _, rfl, HF0, ⟨Below.refl _ _⟩⟩
    case round =>
      clear HF0
      obtain ⟨i, hi, rfl, HW, HB⟩ := hrel
      by_cases hlt : i < M
      · have hd1 : decide ((i : Int) < (M : Int)) = true := decide_eq_true (by omega)
        have hmi : M - (intOf (.int .i64 ((i : Int) + 1))).toNat < M - (intOf (.int .i64 (i : Int))).toNat := by simp [intOf]; omega
        have hiq : i < l.length := by rw [HM.out]; exact hlt
        obtain ⟨gl, of, cs, hpe, hg, hcl, ⟨pv, rfl, hAt⟩, hcc⟩ := HRow2.out.at rfl (j := i) hiq
        subst hpe
        have hpb := HOl.out.par _ (List.getElem_mem hiq)
        have hAp := hAt.parents
        have htm := fun e => take_memD hiq (d := e)
        obtain ⟨dd, hdd⟩ : ∃ dd, l[i] = dd := ⟨_, rfl⟩
        rw [hdd] at hpb hAp hcc htm
        obtain ⟨P, hP⟩ : ∃ P, dd.parents = P := ⟨_, rfl⟩
        rw [hP] at hAp hpb
        obtain ⟨p2, q2, hpv⟩ := hAp.slice
        obtain ⟨N2, hN2⟩ : ∃ N2, P.length = N2 := ⟨_, rfl⟩
        rw [hN2] at hpv
        subst hpv
        obtain ⟨X, hX⟩ : ∃ X, dd.name = X := ⟨_, rfl⟩
        have HK2 : Hd (Below w2.heap.size w2 wr.drew) := ⟨HB.out.trans ((Bel wr 1).mono HB.out.size)⟩
        have HCl : Hd (∀ w', Below w2.heap.size w2 w' → w'.cell? ⟨gl, of + i * 2, none⟩ = some (.string X) ∧ w'.cell? ⟨gl, of + i * 2 + 1, none⟩ = some (.slice p2 N2 q2)) := ⟨fun w' hb => ⟨by rw [hb.cell (p := ⟨gl, of + i * 2, none⟩) hg, ← hX]; exact hcc 0 _ rfl, by rw [hb.cell (p := ⟨gl, of + i * 2 + 1, none⟩) hg]; exact hcc 1 _ rfl⟩⟩
        have c0 := (HCl.out _ HK2.out).1
        have c1 := (HCd2.out _ HK2.out).1
        have HAp := Hd.mk hAp
        have HTm := Hd.mk htm
        have HN2 := Hd.mk hN2
        have HP := Hd.mk hP
        have HX := Hd.mk hX
        have hN6 : N2 ≤ 6 := by rw [← hN2]; exact hpb.1
        clear hiq hg hcl hAt hcc hpb hAp htm hdd hP hN2 hX HB
        have g0 := str_beq X D
        by_cases hXD : X = D
        · rw [decide_eq_true hXD] at g0
          have HBe : Hd (Below w.heap.size w wr.drew) := ⟨HB2.out.trans (HK2.out.mono HB2.out.size)⟩
          clear hXD HK2
          go_upto_region 8 with (fail)
          refine wp_region_lin default (fun w' => w'.cell? ⟨gl, of + i * 2, none⟩ = some (.string X) ∧ w'.cell? ⟨b5, 0, none⟩ = some (.string D)) [(0, true), (1, true), (2, true), (3, true), (4, true), (5, true), (6, true), (7, true)] (by kernel_rfl) (by kernel_rfl) rfl (by kernel_rfl) (by kernel_rfl) ⟨c0, c1⟩ ?_
          simp only [pick, List.getD_cons_zero, List.getD_cons_succ]
          repeat
            first
            | (refine lin_free (v := ?_) (by rfl) ?_ ?_
               rotate_left
               · intro w' hSw
                 obtain ⟨d0, d1⟩ := hSw
                 go_simp
                 first | done | with_reducible rfl
               try simp only [Act.put, List.setIfInBounds_toArray, List.set_cons_zero, List.set_cons_succ])
            | (refine lin_skip (by rfl) ?_
               try simp only [Act.put, List.setIfInBounds_toArray, List.set_cons_zero, List.set_cons_succ])
          refine NoPanic.normal ?_
          go_wp2
          go_ret
          exact ⟨ret_b (by simp), HBe.out⟩
        · rw [decide_eq_false hXD] at g0
          have HXD := Hd.mk hXD
          have HV0 : Hd (∀ x, x ∈ P.take 0 → x ≠ D) := ⟨fun x hx => by simp at hx⟩
          clear hXD
          go_upto_region 8 with (fail)
          refine wp_region_lin default (fun w' => w'.cell? ⟨gl, of + i * 2, none⟩ = some (.string X) ∧ w'.cell? ⟨b5, 0, none⟩ = some (.string D)) [(0, true), (1, true), (2, true), (3, true), (4, true), (5, true), (6, true), (7, true)] (by kernel_rfl) (by kernel_rfl) rfl (by kernel_rfl) (by kernel_rfl) ⟨c0, c1⟩ ?_
          simp only [pick, List.getD_cons_zero, List.getD_cons_succ]
          repeat
            first
            | (refine lin_free (v := ?_) (by rfl) ?_ ?_
               rotate_left
               · intro w' hSw
                 obtain ⟨d0, d1⟩ := hSw
                 go_simp
                 first | done | with_reducible rfl
               try simp only [Act.put, List.setIfInBounds_toArray, List.set_cons_zero, List.set_cons_succ])
            | (refine lin_skip (by rfl) ?_
               try simp only [Act.put, List.setIfInBounds_toArray, List.set_cons_zero, List.set_cons_succ])
          refine NoPanic.normal ?_
          go_wp2
          clear g0 c0 c1
          go_loopw [12] (fun kv wr => ∃ k : Nat, k ≤ N2 ∧ kv = .int .i64 (k : Int) ∧ Hd (∀ x, x ∈ P.take k → x ≠ D) ∧ Hd (Below w2.heap.size w2 wr)) (fun kv _ => N2 - (intOf kv).toNat)
          case atStart => exact ⟨0, Nat.zero_le _, rfl, HV0, HK2⟩
          case round =>
            clear HV0 HK2
            obtain ⟨k, hk, rfl, HV, HB⟩ := hrel
            obtain ⟨c0, c1⟩ := HCl.out wr HB.out
            by_cases hkt : k < N2
            · have hd2 : decide ((k : Int) < (N2 : Int)) = true := decide_eq_true (by omega)
              have hmk : N2 - (intOf (.int .i64 ((k : Int) + 1))).toNat < N2 - (intOf (.int .i64 (k : Int))).toNat := by simp [intOf]; omega
              have hkq : k < P.length := by rw [HN2.out]; exact hkt
              obtain ⟨gp, op, e2, hEv⟩ := RS.ever HAp.out (by omega)
              subst e2
              have HK2 : Hd (Below w2.heap.size w2 wr.drew) := ⟨HB.out.trans ((Bel wr 1).mono HB.out.size)⟩
              have c2 := (HCl.out _ HK2.out).2
              have c3 := hEv k hkq _ HK2.out
              have c4 := (HCd2.out _ HK2.out).1
              have htm := fun x => take_memS hkq (d := x)
              obtain ⟨Y, hY⟩ : ∃ Y, P[k] = Y := ⟨_, rfl⟩
              rw [hY] at c3 htm
              have HTk := Hd.mk htm
              clear hkq hEv htm hY
              have g0 := str_beq Y D
              by_cases hYD : Y = D
              · rw [decide_eq_true hYD] at g0
                have HBe : Hd (Below w.heap.size w wr.drew) := ⟨HB2.out.trans (HK2.out.mono HB2.out.size)⟩
                clear hYD HK2 HB
                go_upto_region 13 with (fail)
                refine wp_region_lin default (fun w' => w'.cell? ⟨gl, of + i * 2 + 1, none⟩ = some (.slice (some ⟨gp, op, none⟩) N2 q2) ∧ w'.cell? ⟨gp, op + k, none⟩ = some (.string Y) ∧ w'.cell? ⟨b5, 0, none⟩ = some (.string D)) [(0, true), (1, true), (2, true), (3, true), (4, true), (5, true), (6, true), (7, true), (8, true), (9, true), (10, true)] (by kernel_rfl) (by kernel_rfl) rfl (by kernel_rfl) (by kernel_rfl) ⟨c2, c3, c4⟩ ?_
                simp only [pick, List.getD_cons_zero, List.getD_cons_succ]
                repeat
                  first
                  | (refine lin_free (v := ?_) (by rfl) ?_ ?_
                     rotate_left
                     · intro w' hSw
                       obtain ⟨d0, d1, d2⟩ := hSw
                       go_simp
                       first | done | with_reducible rfl
                     try simp only [Act.put, List.setIfInBounds_toArray, List.set_cons_zero, List.set_cons_succ])
                  | (refine lin_skip (by rfl) ?_
                     try simp only [Act.put, List.setIfInBounds_toArray, List.set_cons_zero, List.set_cons_succ])
                refine NoPanic.normal ?_
                go_wp2
                go_ret
                exact ⟨ret_b (by simp), HBe.out⟩
              · rw [decide_eq_false hYD] at g0
                have HV2 : Hd (∀ x, x ∈ P.take (k + 1) → x ≠ D) := ⟨fun x hx => by
                  rcases (HTk.out x).1 hx with hx | rfl
                  · exact HV.out x hx
                  · exact hYD⟩
                clear hYD HV HB
                go_upto_region 13 with (fail)
                refine wp_region_lin default (fun w' => w'.cell? ⟨gl, of + i * 2 + 1, none⟩ = some (.slice (some ⟨gp, op, none⟩) N2 q2) ∧ w'.cell? ⟨gp, op + k, none⟩ = some (.string Y) ∧ w'.cell? ⟨b5, 0, none⟩ = some (.string D)) [(0, true), (1, true), (2, true), (3, true), (4, true), (5, true), (6, true), (7, true), (8, true), (9, true), (10, true)] (by kernel_rfl) (by kernel_rfl) rfl (by kernel_rfl) (by kernel_rfl) ⟨c2, c3, c4⟩ ?_
                simp only [pick, List.getD_cons_zero, List.getD_cons_succ]
                repeat
                  first
                  | (refine lin_free (v := ?_) (by rfl) ?_ ?_
                     rotate_left
                     · intro w' hSw
                       obtain ⟨d0, d1, d2⟩ := hSw
                       go_simp
                       first | done | with_reducible rfl
                     try simp only [Act.put, List.setIfInBounds_toArray, List.set_cons_zero, List.set_cons_succ])
                  | (refine lin_skip (by rfl) ?_
                     try simp only [Act.put, List.setIfInBounds_toArray, List.set_cons_zero, List.set_cons_succ])
                refine NoPanic.normal ?_
                clear c0 c1 c2 c3 c4
                go_wp2
                exact ⟨⟨k + 1, hkt, by go_num, HV2, HK2⟩, hmk⟩
            · have hd2 : decide ((k : Int) < (N2 : Int)) = false := decide_eq_false (by omega)
              have HW2 : Hd (∀ e, e ∈ l.take (i + 1) → e.name ≠ D ∧ ∀ x, x ∈ e.parents → x ≠ D) := ⟨fun e he => by
                rcases (HTm.out e).1 he with he | rfl
                · exact HW.out e he
                · refine ⟨by rw [HX.out]; exact HXD.out, fun x hx => ?_⟩
                  have hPt : P.take k = P := List.take_of_length_le (by rw [HN2.out]; omega)
                  have := HV.out x
                  rw [hPt, ← HP.out] at this
                  exact this hx⟩
              clear HV HW
              go_wp2
              exact ⟨⟨i + 1, hlt, by go_num, HW2, HB⟩, hmi⟩
      · have hd1 : decide ((i : Int) < (M : Int)) = false := decide_eq_false (by omega)
        have HFr : Hd (Fresh l d.name) := ⟨fun e he => by
          have hlt : l.take i = l := List.take_of_length_le (by rw [HM.out]; omega)
          have := HW.out e
          rw [hlt] at this
          rw [HD.out]
          exact this he⟩
        have HC1 := Hd.mk (HSl.out wr a HB.out (by omega))
        have hmr : srvB (l ++ [d]) a c = srvB l a c := srv_more HFr.out (by rw [HD.out]; exact HAe.out)
        obtain ⟨r, hr⟩ : ∃ r, srvB l a c = r := ⟨_, rfl⟩
        rw [hr] at HC1 hmr
        have HMr := Hd.mk hmr
        clear hr hmr HW
        go_wp2_with fail
        refine HC1.out.mono ?_
        rintro e w4 ⟨rfl, b4⟩
        have HB4 := Hd.mk (HB.out.trans (b4.mono HB.out.size))
        have HC2 := Hd.mk (HSm.out w4 a c HB4.out (by omega) (by omega))
        rw [HMr.out] at HC2
        clear b4 HC1 HB
        go_wp2_with fail
        refine HC2.out.mono ?_
        rintro e w5 ⟨rfl, b5'⟩
        have HB5' := Hd.mk (HB4.out.trans (b5'.mono HB4.out.size))
        clear b5' HC2 HB4
        have gb : (r != r) = false := by simp
        have HV0 : Hd (false = true ↔ ∃ x, x ∈ d.parents.take 0 ∧ x ≠ D ∧ Srv l x c) := ⟨by simp⟩
        go_wp2
        go_loopw [14, 13] (fun kv bv wr => ∃ (k : Nat) (b : Bool), k ≤ PN ∧ kv = .int .i64 (k : Int) ∧ bv = .bool b ∧ Hd (b = true ↔ ∃ x, x ∈ d.parents.take k ∧ x ≠ D ∧ Srv l x c) ∧ Hd (Below w2.heap.size w2 wr)) (fun kv _ _ => PN - (intOf kv).toNat)
        case atStart => exact ⟨0, false, Nat.zero_le _, rfl, rfl, HV0, HB5'⟩
        case round =>
          clear HV0 HB5' gb
          obtain ⟨k, b, hk, rfl, rfl, HV, HB⟩ := hrel
          obtain ⟨c0, c1⟩ := HCd2.out wr HB.out
          by_cases hkt : k < PN
          · have hd2 : decide ((k : Int) < (PN : Int)) = true := decide_eq_true (by omega)
            have hmk : PN - (intOf (.int .i64 ((k : Int) + 1))).toNat < PN - (intOf (.int .i64 (k : Int))).toNat := by simp [intOf]; omega
            have hkq : k < d.parents.length := by rw [HPN.out]; exact hkt
            obtain ⟨gp, op, e2, hEv⟩ := RS.ever HPr2.out (by omega)
            subst e2
            have HK2 : Hd (Below w2.heap.size w2 wr.drew) := ⟨HB.out.trans ((Bel wr 1).mono HB.out.size)⟩
            have hYz := HPz.out _ (List.getElem_mem hkq)
            have htm := fun x => take_memS hkq (d := x)
            have hS0 : ∀ w', Below w2.heap.size w2 w' → w'.cell? ⟨b5, 0, none⟩ = some (.string D) ∧ w'.cell? ⟨b5, 1, none⟩ = some (.slice (some ⟨gp, op, none⟩) PN pc) ∧ w'.cell? ⟨gp, op + k, none⟩ = some (.string d.parents[k]) := fun w' hb => ⟨(HCd2.out w' hb).1, (HCd2.out w' hb).2, hEv k hkq w' hb⟩
            obtain ⟨Y, hY⟩ : ∃ Y, d.parents[k] = Y := ⟨_, rfl⟩
            rw [hY] at hYz htm hS0
            have S0 := Hd.mk hS0
            have HTk := Hd.mk htm
            have HC1 := Hd.mk (HSl.out wr.drew Y HK2.out hYz)
            obtain ⟨r2, hr2⟩ : ∃ r, srvB l Y c = r := ⟨_, rfl⟩
            rw [hr2] at HC1
            have HR2 : Hd (r2 = true ↔ Srv l Y c) := ⟨by rw [← hr2]; exact srvB_iff⟩
            clear hkq hEv hYz htm hS0 hY hr2 HB
            cases b with
            | true =>
              have HV2 : Hd (true = true ↔ ∃ x, x ∈ d.parents.take (k + 1) ∧ x ≠ D ∧ Srv l x c) := ⟨by
                refine ⟨fun _ => ?_, fun _ => rfl⟩
                obtain ⟨x, h1, h2⟩ := HV.out.1 rfl
                exact ⟨x, (HTk.out x).2 (.inl h1), h2⟩⟩
              clear HV HTk HC1 HR2
              go_upto_region 21 with (fail)
              refine wp_region_lin default (fun w' => w'.cell? ⟨b5, 0, none⟩ = some (.string D) ∧ w'.cell? ⟨b5, 1, none⟩ = some (.slice (some ⟨gp, op, none⟩) PN pc) ∧ w'.cell? ⟨gp, op + k, none⟩ = some (.string Y)) [(0, true), (1, true), (2, true), (3, true), (4, true), (5, true), (6, true), (7, true), (8, true), (9, true), (10, true), (11, true), (12, true), (13, true), (14, true), (15, true), (16, true), (17, true), (18, false), (19, true), (20, true), (21, true)] (by kernel_rfl) (by kernel_rfl) rfl (by kernel_rfl) (by kernel_rfl) (S0.out _ HK2.out) ?_
              simp only [pick, List.getD_cons_zero, List.getD_cons_succ]
              repeat
                first
                | (refine lin_free (v := ?_) (by rfl) ?_ ?_
                   rotate_left
                   · intro w' hSw
                     obtain ⟨d0, d1, d2⟩ := hSw
                     go_simp
                     first | done | with_reducible rfl
                   try simp only [Act.put, List.setIfInBounds_toArray, List.set_cons_zero, List.set_cons_succ])
                | (refine lin_skip (by rfl) ?_
                   try simp only [Act.put, List.setIfInBounds_toArray, List.set_cons_zero, List.set_cons_succ])
              refine lin_bound (fun K hK => ?_)
              go_simp
              refine hK.out _ _ (S0.out _ HK2.out) ?_
              clear hK K
              try simp only [Act.put, List.setIfInBounds_toArray, List.set_cons_zero, List.set_cons_succ]
              repeat
                first
                | (refine lin_free (v := ?_) (by rfl) ?_ ?_
                   rotate_left
                   · intro w' hSw
                     obtain ⟨d0, d1, d2⟩ := hSw
                     go_simp
                     first | done | with_reducible rfl
                   try simp only [Act.put, List.setIfInBounds_toArray, List.set_cons_zero, List.set_cons_succ])
                | (refine lin_skip (by rfl) ?_
                   try simp only [Act.put, List.setIfInBounds_toArray, List.set_cons_zero, List.set_cons_succ])
              refine NoPanic.normal ?_
              clear c0 c1
              go_wp2
              exact ⟨⟨k + 1, true, hkt, by go_num, rfl, HV2, HK2⟩, hmk⟩
            | false =>
              have g0 := str_beq Y D
              by_cases hYD : Y = D
              · rw [decide_eq_true hYD] at g0
                have HV2 : Hd (false = true ↔ ∃ x, x ∈ d.parents.take (k + 1) ∧ x ≠ D ∧ Srv l x c) := ⟨by
                  refine ⟨fun h => (Bool.noConfusion h), fun ⟨x, h1, h2, h3⟩ => ?_⟩
                  rcases (HTk.out x).1 h1 with h1 | rfl
                  · exact absurd (HV.out.2 ⟨x, h1, h2, h3⟩) (by decide)
                  · exact absurd hYD h2⟩
                have gn : (Y.toList != D.toList) = false := by rw [bne, g0]; rfl
                clear HV HTk HC1 HR2 hYD
                go_upto_region 21 with (fail)
                refine wp_region_lin default (fun w' => w'.cell? ⟨b5, 0, none⟩ = some (.string D) ∧ w'.cell? ⟨b5, 1, none⟩ = some (.slice (some ⟨gp, op, none⟩) PN pc) ∧ w'.cell? ⟨gp, op + k, none⟩ = some (.string Y)) [(0, true), (1, true), (2, true), (3, true), (4, true), (5, true), (6, true), (7, true), (8, true), (9, true), (10, true), (11, true), (12, true), (13, true), (14, true), (15, true), (16, true), (17, true), (18, false), (19, true), (20, true), (21, true)] (by kernel_rfl) (by kernel_rfl) rfl (by kernel_rfl) (by kernel_rfl) (S0.out _ HK2.out) ?_
                simp only [pick, List.getD_cons_zero, List.getD_cons_succ]
                repeat
                  first
                  | (refine lin_free (v := ?_) (by rfl) ?_ ?_
                     rotate_left
                     · intro w' hSw
                       obtain ⟨d0, d1, d2⟩ := hSw
                       go_simp
                       first | done | with_reducible rfl
                     try simp only [Act.put, List.setIfInBounds_toArray, List.set_cons_zero, List.set_cons_succ])
                  | (refine lin_skip (by rfl) ?_
                     try simp only [Act.put, List.setIfInBounds_toArray, List.set_cons_zero, List.set_cons_succ])
                refine lin_bound (fun K hK => ?_)
                go_simp
                refine hK.out _ _ (S0.out _ HK2.out) ?_
                clear hK K
                try simp only [Act.put, List.setIfInBounds_toArray, List.set_cons_zero, List.set_cons_succ]
                repeat
                  first
                  | (refine lin_free (v := ?_) (by rfl) ?_ ?_
                     rotate_left
                     · intro w' hSw
                       obtain ⟨d0, d1, d2⟩ := hSw
                       go_simp
                       first | done | with_reducible rfl
                     try simp only [Act.put, List.setIfInBounds_toArray, List.set_cons_zero, List.set_cons_succ])
                  | (refine lin_skip (by rfl) ?_
                     try simp only [Act.put, List.setIfInBounds_toArray, List.set_cons_zero, List.set_cons_succ])
                refine NoPanic.normal ?_
                clear c0 c1
                go_wp2
                exact ⟨⟨k + 1, false, hkt, by go_num, rfl, HV2, HK2⟩, hmk⟩
              · rw [decide_eq_false hYD] at g0
                have HV2 : Hd (r2 = true ↔ ∃ x, x ∈ d.parents.take (k + 1) ∧ x ≠ D ∧ Srv l x c) := ⟨by
                  rw [HR2.out]
                  refine ⟨fun h => ⟨Y, (HTk.out Y).2 (.inr rfl), hYD, h⟩, fun ⟨x, h1, h2, h3⟩ => ?_⟩
                  rcases (HTk.out x).1 h1 with h1 | rfl
                  · exact absurd (HV.out.2 ⟨x, h1, h2, h3⟩) (by decide)
                  · exact h3⟩
                have gn : (Y.toList != D.toList) = true := by rw [bne, g0]; rfl
                clear HV HTk HR2 hYD
                go_upto_region 21 with (fail)
                refine wp_region_lin default (fun w' => w'.cell? ⟨b5, 0, none⟩ = some (.string D) ∧ w'.cell? ⟨b5, 1, none⟩ = some (.slice (some ⟨gp, op, none⟩) PN pc) ∧ w'.cell? ⟨gp, op + k, none⟩ = some (.string Y)) [(0, true), (1, true), (2, true), (3, true), (4, true), (5, true), (6, true), (7, true), (8, true), (9, true), (10, true), (11, true), (12, true), (13, true), (14, true), (15, true), (16, true), (17, true), (18, false), (19, true), (20, true), (21, true)] (by kernel_rfl) (by kernel_rfl) rfl (by kernel_rfl) (by kernel_rfl) (S0.out _ HK2.out) ?_
                simp only [pick, List.getD_cons_zero, List.getD_cons_succ]
                repeat
                  first
                  | (refine lin_free (v := ?_) (by rfl) ?_ ?_
                     rotate_left
                     · intro w' hSw
                       obtain ⟨d0, d1, d2⟩ := hSw
                       go_simp
                       first | done | with_reducible rfl
                     try simp only [Act.put, List.setIfInBounds_toArray, List.set_cons_zero, List.set_cons_succ])
                  | (refine lin_skip (by rfl) ?_
                     try simp only [Act.put, List.setIfInBounds_toArray, List.set_cons_zero, List.set_cons_succ])
                refine lin_bound (fun K hK => ?_)
                go_simp
                refine HC1.out.mono ?_
                rintro e w6 ⟨rfl, b6⟩
                dsimp only
                have HK6 : Hd (Below w2.heap.size w2 w6) := ⟨HK2.out.trans (b6.mono HK2.out.size)⟩
                clear b6 HC1
                refine hK.out _ _ (S0.out _ HK6.out) ?_
                clear hK K HK2
                repeat
                  first
                  | (refine lin_free (v := ?_) (by rfl) ?_ ?_
                     rotate_left
                     · intro w' hSw
                       obtain ⟨d0, d1, d2⟩ := hSw
                       go_simp
                       first | done | with_reducible rfl
                     try simp only [Act.put, List.setIfInBounds_toArray, List.set_cons_zero, List.set_cons_succ])
                  | (refine lin_skip (by rfl) ?_
                     try simp only [Act.put, List.setIfInBounds_toArray, List.set_cons_zero, List.set_cons_succ])
                refine NoPanic.normal ?_
                clear c0 c1
                go_wp2
                exact ⟨⟨k + 1, r2, hkt, by go_num, rfl, HV2, HK6⟩, hmk⟩
          · have hd2 : decide ((k : Int) < (PN : Int)) = false := decide_eq_false (by omega)
            have hwn : srvB (l ++ [d]) D c = b := by
              have hPt : d.parents.take k = d.parents := List.take_of_length_le (by rw [HPN.out]; omega)
              have h1 := HV.out
              rw [hPt] at h1
              have h2 := srv_new HFr.out (c := c) (by rw [HD.out]; exact HCe.out)
              rw [HD.out] at h2
              rw [Bool.eq_iff_iff, srvB_iff, h2, h1]
            have hDD : srvB (l ++ [d]) D D = true := srvB_iff.2 (.refl _)
            have hs1 := HSm.out wr D c HB.out hDz (by omega)
            rw [hwn] at hs1
            have HS1 := Hd.mk hs1
            have HDD := Hd.mk hDD
            clear hwn hDD hs1 HV
            go_wp2_with fail
            refine HS1.out.mono ?_
            rintro e w7 ⟨rfl, b7⟩
            have HB7 := Hd.mk (HB.out.trans (b7.mono HB.out.size))
            have HS2 := Hd.mk (HSm.out w7 D D HB7.out hDz hDz)
            rw [HDD.out] at HS2
            obtain ⟨e0, e1⟩ := HCd2.out w7 HB7.out
            clear b7 HS1 HB c0 c1
            have gb : (b == b) = true := by simp
            go_wp2_with fail
            refine HS2.out.mono ?_
            rintro e w8 ⟨rfl, b8⟩
            have HB8 : Hd (Below w.heap.size w w8) := ⟨HB2.out.trans ((HB7.out.trans (b8.mono HB7.out.size)).mono HB2.out.size)⟩
            clear b8 HS2 e0 e1
            go_wp2
            go_ret
            exact ⟨ret_b (by simp), HB8.out⟩

end Go.Proofs.Ytmgkoocpnakanaa.W
