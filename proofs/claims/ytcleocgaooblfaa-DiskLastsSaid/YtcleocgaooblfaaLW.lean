/-
  DiskLasts: the law's memory: a disk, the row of what is safe, the row of what was written since.
-/
import Derived.Test.YtcleocgaooblfaaHereW
import Derived.Test.YtcleocgaooblfaaTwo
namespace Go.Proofs.Ytcleocgaooblfaa.W
open Go.RowKit
set_option linter.unusedVariables false

theorem IRow.nil_any {w w' : World} {v : Value} (h : IRow w v []) : IRow w' v [] := by
  rcases h.is with h0 | ⟨g, o, cap, e, _⟩
  · exact ⟨.inl h0⟩
  · exact ⟨.inl ⟨rfl, .inr ⟨_, _, e⟩⟩⟩
/-- a disk that holds no Keep of its own -/
theorem Rep.keeps0 {S : Nat → Prop} {w w' : World} {D : Nat} {σ : St} {O : Option Nat} (h : Rep w D σ O) (hk0 : σ.keep = []) (k : Keeps S w w') (hD : ¬ S D) (hO : ∀ g, O = some g → ¬ S g) : Rep w' D σ O := by
  obtain ⟨qv, kv, hb, hq, hk⟩ := h.is
  exact ⟨⟨qv, kv, k.blk hb hD, hq.keeps k hO, by rw [hk0] at hk ⊢; exact hk.nil_any⟩, h.ok⟩
theorem Rep.typ {w : World} {D : Nat} {σ : St} {O : Option Nat} (h : Rep w D σ O) {g : Nat} (hg : g = D ∨ O = some g) : ∃ cur fz T, w.heap[g]? = some (.cells cur T fz) ∧ (T = 58 ∨ T = 63) := by
  obtain ⟨qv, kv, hb, hq, hk⟩ := h.is
  rcases hg with rfl | hO
  · exact ⟨_, _, _, hb.is, .inl rfl⟩
  · rcases hq.is with ⟨h0, _⟩ | ⟨g', hO', hv, hrow⟩
    · rw [h0] at hO; cases hO
    · rw [hO'] at hO
      cases hO
      rcases hrow.2 with ⟨rfl, _⟩ | ⟨b, cap, cur', rfl, hB, hg', r⟩
      · cases hv
      · have hbg : b = g := by simpa [Value.ownBlock] using hv
        subst hbg
        exact ⟨_, _, _, hg', .inr rfl⟩
theorem Rep.not_typ {w : World} {D : Nat} {σ : St} {O : Option Nat} (h : Rep w D σ O) {g : Nat} {cur : Array Value} {T : TypeId} {fz : Nat × Nat} (hb : w.heap[g]? = some (.cells cur T fz)) (h1 : T ≠ 58) (h2 : T ≠ 63) : ¬ (g = D ∨ O = some g) := fun hg => by
  obtain ⟨cur', fz', T', h3, h4⟩ := h.typ hg
  rw [hb] at h3
  injection h3 with h3; injection h3 with _ h5 _
  rcases h4 with h4 | h4
  · exact h1 (h5.trans h4)
  · exact h2 (h5.trans h4)

structure LW (B w : World) (D R : Nat) (v : Value) (σ : St) (safe : List (List UInt8)) (ps : List AV) : Prop where
  is : ∃ O, Rep w D σ O ∧ (∀ g, O = some g → B.heap.size ≤ g)
  below : Below B.heap.size B w
  ge : B.heap.size ≤ D
  rge : B.heap.size ≤ R
  vge : ∀ g, v.ownBlock = some g → B.heap.size ≤ g
  safe : Blk w R 9 (safe.map strV)
  since : SRow w v ps

section
variable {B w : World} {D R : Nat} {v : Value} {σ : St} {safe : List (List UInt8)} {ps : List AV}
theorem LW.one (h : LW B w D R v σ safe ps) : One B w D σ := ⟨h.is, h.below, h.ge⟩
theorem LW.size (h : LW B w D R v σ safe ps) : B.heap.size ≤ w.heap.size := h.below.size
theorem LW.ok (h : LW B w D R v σ safe ps) : Ok σ := h.one.ok
theorem blk_heap {w : World} {b : Nat} {T : TypeId} {vs : List Value} (h : Blk w b T vs) : w.heap[b]? = some (.cells vs.toArray T (0, 0)) := h.is

/-- a world that keeps all blocks but some; the disk's, the rows' and the ints' are none of these -/
theorem LW.keeps {S : Nat → Prop} {w' : World} (h : LW B w D R v σ safe ps) (k : Keeps S w w') (hS : ∀ g, g < B.heap.size → ¬ S g) (hD : ∀ O g, Rep w D σ O → (g = D ∨ O = some g) → ¬ S g) (hR : ¬ S R) (hv : ∀ g, v.ownBlock = some g → ¬ S g) (hI : σ.keep = [] ∨ ∀ g cur fz, w.heap[g]? = some (.cells cur 3 fz) → ¬ S g) : LW B w' D R v σ safe ps := by
  obtain ⟨O, hr, hO⟩ := h.is
  refine ⟨⟨O, ?_, hO⟩, h.below.trans (k.below h.size hS), h.ge, h.rge, h.vge, k.blk h.safe hR, h.since.keeps k hv⟩
  rcases hI with hI | hI
  · exact hr.keeps0 hI k (hD O D hr (.inl rfl)) (fun g hg => hD O g hr (.inr hg))
  · exact hr.keeps k (hD O D hr (.inl rfl)) (fun g hg => hD O g hr (.inr hg)) hI
theorem LW.next {w' : World} (h : LW B w D R v σ safe ps) (k : Keeps (fun _ => False) w w') : LW B w' D R v σ safe ps :=
  h.keeps k (fun _ _ h => h) (fun _ _ _ _ h => h) (fun h => h) (fun _ _ h => h) (.inr fun _ _ _ _ h => h)
theorem LW.alloc (h : LW B w D R v σ safe ps) (o : Obj) : LW B (w.alloc o) D R v σ safe ps := h.next ((Keeps.refl (fun _ => False) w).alloc o)
theorem LW.drew (h : LW B w D R v σ safe ps) : LW B w.drew D R v σ safe ps := h.next (Keeps.refl (fun _ => False) w).drew
theorem LW.drewN (h : LW B w D R v σ safe ps) (n : Nat) : LW B (w.drewN n) D R v σ safe ps := h.next ((Keeps.refl (fun _ => False) w).drewN n)

/-- what an operation on the disk leaves -/
structure After (B w w' : World) (D R : Nat) (v : Value) (σ' : St) (safe : List (List UInt8)) (ps : List AV) : Prop where
  lw : LW B w' D R v σ' safe ps
  box : ∀ b vs, Blk w b 42 vs → Blk w' b 42 vs
  ints : ∀ C u xs, Own w C 3 u xs → Own w' C 3 u xs

theorem LW.run {σ' : St} {f : FuncId} {args : Array Value} {val : Value} (h : LW B w D R v σ safe ps) (hc : OpC w f args D σ σ' val) : Calls Try.prog f args w fun e w' => e = .returned val ∧ After B w w' D R v σ' safe ps := by
  obtain ⟨O, hr, hO⟩ := h.is
  refine (hc.run O hr).mono fun e w' ⟨he, O', hr', hO', k⟩ => ⟨he, ?_⟩
  have h1 := One.op h.below h.ge hO hr' hO' k
  have hn := fun {g : Nat} {cur : Array Value} {T : TypeId} {fz : Nat × Nat} => hr.not_typ (g := g) (cur := cur) (T := T) (fz := fz)
  refine ⟨⟨h1.is, h1.below, h.ge, h.rge, h.vge, k.blk h.safe (hn h.safe.is (by decide) (by decide)), h.since.keeps k (fun g hg => ?_)⟩, fun b vs hb => k.blk hb (hn hb.is (by decide) (by decide)), fun C u xs ho => ho.keeps k (fun g hg => ?_)⟩
  · obtain ⟨cur, hc⟩ := h.since.typ hg
    exact hn hc (by decide) (by decide)
  · rcases ho.is with ⟨rfl, _⟩ | ⟨g', cap, rfl, _, _, _, ⟨cur, fz, hg', _⟩, _⟩
    · cases hg
    · have : g' = g := by simpa [Value.ownBlock] using hg
      subst this
      exact hn hg' (by decide) (by decide)

theorem LW.vne (h : LW B w D R v σ safe ps) {g : Nat} (hg : v.ownBlock = some g) {cur : Array Value} {T : TypeId} {fz : Nat × Nat} (hb : w.heap[g]? = some (.cells cur T fz)) : T = 42 := by
  obtain ⟨c, hc⟩ := h.since.typ hg
  rw [hb] at hc
  injection hc with hc; injection hc

/-- what is safe, written -/
theorem LW.setSafe (h : LW B w D R v σ safe ps) (f : Nat) (s : List UInt8) : LW B (w.setCell ⟨R, f, none⟩ (strV s)) D R v σ (safe.set f s) ps := by
  obtain ⟨O, hr, hO⟩ := h.is
  have k : Keeps (· = R) w (w.setCell ⟨R, f, none⟩ (strV s)) := (Keeps.refl (· = R) w).setCell (p := ⟨R, f, none⟩) (.inr rfl) _
  have hR := h.safe.is
  have hn : ¬ (R = D ∨ O = some R) := hr.not_typ hR (by decide) (by decide)
  refine ⟨⟨O, hr.keeps k (fun e => hn (.inl e.symm)) (fun g hg e => hn (.inr (e ▸ hg))) (fun g cur fz hg e => ?_), hO⟩, h.below.trans (k.below h.size (fun g hg e => by have := h.rge; omega)), h.ge, h.rge, h.vge, (h.safe.set f (strV s)).cast (by rw [List.map_set]), h.since.keeps k (fun g hg e => ?_)⟩
  · subst e
    rw [hR] at hg
    injection hg with hg; injection hg with _ hg _; exact absurd hg (by decide)
  · subst e
    exact absurd (h.vne hg hR) (by decide)

theorem LW.boxSet (h : LW B w D R v σ safe ps) (f : Nat) (u : Value) {b : Nat} {vs : List Value} (hb : Blk w b 42 vs) : Blk (w.setCell ⟨R, f, none⟩ u) b 42 vs :=
  hb.other (fun e => by
    have h1 := hb.is
    have e' : R = b := e
    rw [← e', h.safe.is] at h1
    injection h1 with h1; injection h1 with _ h1 _; exact absurd h1 (by decide)) u

/-- another row of what was written since: grown in place, or new -/
theorem LW.grow {w' : World} {v' : Value} {ps' : List AV} (h : LW B w D R v σ safe ps) (hs : SRow w' v' ps') (k : Keeps (fun g => v.ownBlock = some g) w w') (hv : v'.ownBlock = v.ownBlock ∨ v'.ownBlock = some w.heap.size) : LW B w' D R v' σ safe ps' := by
  obtain ⟨O, hr, hO⟩ := h.is
  refine ⟨⟨O, hr.keeps k (fun e => ?_) (fun g hg e => ?_) (fun g cur fz hg e => ?_), hO⟩, h.below.trans (k.below h.size (fun g hg e => by have := h.vge g e; omega)), h.ge, h.rge, fun g hg => ?_, k.blk h.safe (fun e => ?_), hs⟩
  · obtain ⟨c, hc⟩ := h.since.typ e
    exact hr.not_typ hc (by decide) (by decide) (.inl rfl)
  · obtain ⟨c, hc⟩ := h.since.typ e
    exact hr.not_typ hc (by decide) (by decide) (.inr hg)
  · exact absurd (h.vne e hg) (by decide)
  · rcases hv with hv | hv
    · exact h.vge g (hv ▸ hg)
    · rw [hv] at hg
      have := Option.some.inj hg
      have := h.size
      omega
  · exact absurd (h.vne e h.safe.is) (by decide)
theorem LW.other {w' : World} {v' : Value} {ps' : List AV} (h : LW B w D R v σ safe ps) (hs : SRow w' v' ps') (k : Keeps (fun _ => False) w w') (hv : ∀ g, v'.ownBlock = some g → w.heap.size ≤ g) : LW B w' D R v' σ safe ps' := by
  have h' := h.next k
  exact ⟨h'.is, h'.below, h.ge, h.rge, fun g hg => Nat.le_trans h.size (hv g hg), h'.safe, hs⟩
theorem LW.clear (h : LW B w D R v σ safe ps) : LW B w D R (.slice none 0 0) σ safe [] := ⟨h.is, h.below, h.ge, h.rge, (fun g hg => by cases hg), h.safe, SRow.nil w⟩

/-- a row of ints of the law's own is written, where the disk holds no Keep -/
theorem LW.int {S : Nat → Prop} {w' : World} (h : LW B w D R v σ safe ps) (hk : σ.keep = []) (k : Keeps S w w') (hS : ∀ g, S g → B.heap.size ≤ g ∧ ∃ cur fz, w.heap[g]? = some (.cells cur 3 fz)) : LW B w' D R v σ safe ps :=
  h.keeps k (fun g hg e => by have := (hS g e).1; omega) (fun O g hr hg e => by
    obtain ⟨_, cur, fz, hc⟩ := hS g e
    exact hr.not_typ hc (by decide) (by decide) hg) (fun e => by
    obtain ⟨_, cur, fz, hc⟩ := hS R e
    rw [h.safe.is] at hc
    injection hc with hc; injection hc with _ hc _; exact absurd hc (by decide)) (fun g hg e => by
    obtain ⟨_, cur, fz, hc⟩ := hS g e
    exact absurd (h.vne hg hc) (by decide)) (.inl hk)
end

/-- a disk and a new row of eight empty strings -/
theorem LW.first {B w : World} {D : Nat} {σ : St} (h : One B w D σ) : LW B (w.alloc (.cells #[.string ⟨#[]⟩, .string ⟨#[]⟩, .string ⟨#[]⟩, .string ⟨#[]⟩, .string ⟨#[]⟩, .string ⟨#[]⟩, .string ⟨#[]⟩, .string ⟨#[]⟩] 9)) D w.heap.size (.slice none 0 0) σ (List.replicate 8 []) [] := by
  have h' := h.alloc (.cells #[.string ⟨#[]⟩, .string ⟨#[]⟩, .string ⟨#[]⟩, .string ⟨#[]⟩, .string ⟨#[]⟩, .string ⟨#[]⟩, .string ⟨#[]⟩, .string ⟨#[]⟩] 9)
  exact ⟨h'.is, h'.below, h.ge, h.size, (fun g hg => by cases hg), Blk.new w 9 [.string ⟨#[]⟩, .string ⟨#[]⟩, .string ⟨#[]⟩, .string ⟨#[]⟩, .string ⟨#[]⟩, .string ⟨#[]⟩, .string ⟨#[]⟩, .string ⟨#[]⟩], SRow.nil _⟩

/-- the first k files are read -/
def mix (F L : List (List UInt8)) (k : Nat) : List (List UInt8) := F.take k ++ L.drop k
theorem mix_zero (F L : List (List UInt8)) : mix F L 0 = L := by simp [mix]
theorem mix_all {F L : List (List UInt8)} (hF : F.length = 8) (hL : L.length = 8) : mix F L 8 = F := by
  unfold mix; rw [List.take_of_length_le (by omega), List.drop_of_length_le (by omega), List.append_nil]
theorem mix_len {F L : List (List UInt8)} (hF : F.length = 8) (hL : L.length = 8) {k : Nat} (hk : k ≤ 8) : (mix F L k).length = 8 := by
  unfold mix; rw [List.length_append, List.length_take, List.length_drop]; omega
theorem mix_at {F L : List (List UInt8)} (hF : F.length = 8) {k : Nat} (hk : k < 8) : (mix F L k).getD k [] = L.getD k [] := by
  unfold mix
  rw [List.getD_eq_getElem?_getD, List.getD_eq_getElem?_getD, List.getElem?_append_right (by rw [List.length_take]; omega), List.length_take, List.getElem?_drop]
  congr 2; omega
theorem mix_set {F L : List (List UInt8)} (hF : F.length = 8) (hL : L.length = 8) {k : Nat} (hk : k < 8) : (mix F L k).set k (F.getD k []) = mix F L (k + 1) := by
  apply List.ext_getElem?
  intro i
  rw [List.getElem?_set]
  have hl := mix_len hF hL (Nat.le_of_lt hk)
  have e1 : ∀ j i, j ≤ 8 → (mix F L j)[i]? = if i < j then F[i]? else L[i]? := fun j i hj => by
    unfold mix
    split
    · rename_i h; rw [List.getElem?_append_left (by rw [List.length_take]; omega), List.getElem?_take, if_pos h]
    · rename_i h; rw [List.getElem?_append_right (by rw [List.length_take]; omega), List.length_take, List.getElem?_drop]; congr 1; omega
  rw [e1 k i (by omega), e1 (k + 1) i (by omega)]
  by_cases h : k = i
  · subst h
    rw [if_pos rfl, if_pos (by omega), if_pos (by omega), List.getD_eq_getElem?_getD, List.getElem?_eq_getElem (by omega)]; rfl
  · rw [if_neg h]
    by_cases h2 : i < k
    · rw [if_pos h2, if_pos (by omega)]
    · rw [if_neg h2, if_neg (by omega)]

theorem safe_cell {w : World} {R : Nat} {safe : List (List UInt8)} (h : Blk w R 9 (safe.map strV)) {f : Nat} (hf : f < safe.length) : w.cell? ⟨R, f, none⟩ = some (strV (safe.getD f [])) := by
  refine h.at ?_
  rw [List.getElem?_map, List.getElem?_eq_getElem hf, List.getD_eq_getElem?_getD, List.getElem?_eq_getElem hf]; rfl

end Go.Proofs.Ytcleocgaooblfaa.W
