/-
  A package's variable of structs and arrays, cell by cell, out of what a row lists. No program.
-/
import Derived.Test.YtlohhlbbkliehaaGreatDoorArgS
namespace Go.Proofs.YtlohhlbbkliehaaGreatDoor.W
open Go.RowKit Go.ChangeShapes Go.WideShapes
set_option linter.unusedVariables false

section
variable {H : Type} {enc : TypeId × Value → H} {P : Program} {held : Bool}

def pieceB (rec : TypeId → DataW H → Option (List (TypeId × DataW H))) (P : Program) (tot : Nat) : Nat → List (TypeId × Nat × DataW H) → Option (List (TypeId × DataW H))
  | _, [] => some []
  | off, (t, o, d) :: r => if o = off ∧ o + P.cellsOf t ≤ tot then (rec t d).bind fun l => if l.length = P.cellsOf t then (pieceB rec P tot (off + P.cellsOf t) r).map (l ++ ·) else none else none

def structB (fs : List Field) (parts : List (DataW H)) : List (TypeId × Nat × DataW H) := (fs.zip parts).map fun x => (x.1.type, x.1.offset, x.2)
def arrayB (e : TypeId) (k : Nat) (parts : List (DataW H)) : List (TypeId × Nat × DataW H) := parts.zipIdx.map fun x => (e, x.2 * k, x.1)

/-- the cells' types and data -/
def leavesB (P : Program) : Nat → TypeId → DataW H → Option (List (TypeId × DataW H))
  | 0, _, _ => none
  | n + 1, t, d =>
    match P.underlying t, d with
    | some (.struct fs), .agg parts => if fs.size = parts.length then pieceB (leavesB P n) P (P.cellsOf t) 0 (structB fs.toList parts) else none
    | some (.array m e), .agg parts => if m = parts.length then pieceB (leavesB P n) P (P.cellsOf t) 0 (arrayB e (P.cellsOf e) parts) else none
    | some (.struct _), _ | some (.array _ _), _ => none
    | _, d => if P.cellsOf t = 1 then some [(t, d)] else none

/-- a cell reads as its leaf -/
def Leaf (enc : TypeId × Value → H) (P : Program) (held : Bool) (w : World) (c : Value) (x : TypeId × DataW H) : Prop := ∃ fuel ps, DataW.trod enc P w 0 (fun _ => true) held fuel x.1 [c] = some (x.2, ps)

theorem piece_ok {w : World} {rec : TypeId → DataW H → Option (List (TypeId × DataW H))}
    (hrec : ∀ t d l cs, (∃ fuel ps, DataW.trod enc P w 0 (fun _ => true) held fuel t cs = some (d, ps)) → rec t d = some l → cs.length = P.cellsOf t → ∀ (i : Nat) x, l[i]? = some x → ∃ c, cs[i]? = some c ∧ Leaf enc P held w c x) (cs : List Value) :
    ∀ (L : List (TypeId × Nat × DataW H)) (off : Nat) (ls : List (TypeId × DataW H)), pieceB rec P cs.length off L = some ls →
      (∀ y ∈ L, ∃ fuel ps, DataW.trod enc P w 0 (fun _ => true) held fuel y.1 ((cs.drop y.2.1).take (P.cellsOf y.1)) = some (y.2.2, ps)) →
      ∀ (i : Nat) x, ls[i]? = some x → ∃ c, cs[off + i]? = some c ∧ Leaf enc P held w c x
  | [], off, ls, h, _, i, x, hx => by
    simp only [pieceB, Option.some.injEq] at h
    subst h
    simp at hx
  | (t, o, d) :: r, off, ls, h, hL, i, x, hx => by
    simp only [pieceB] at h
    split at h
    · rename_i ho
      obtain ⟨rfl, hb⟩ := ho
      obtain ⟨l, hl, h⟩ := Option.bind_eq_some_iff.1 h
      split at h
      · rename_i hlen
        obtain ⟨ls', hls, rfl⟩ := Option.map_eq_some_iff.1 h
        have h2 := hL (t, o, d) (by simp)
        by_cases hi : i < l.length
        · rw [List.getElem?_append_left hi] at hx
          obtain ⟨c, hc, hf⟩ := hrec t d l _ h2 hl (by simp; omega) i x hx
          refine ⟨c, ?_, hf⟩
          simp only [List.getElem?_take, List.getElem?_drop] at hc
          rw [if_pos (by omega)] at hc
          exact hc
        · rw [List.getElem?_append_right (by omega)] at hx
          obtain ⟨c, hc, hf⟩ := piece_ok hrec cs r _ ls' hls (fun y hy => hL y (by simp [hy])) (i - l.length) x hx
          refine ⟨c, ?_, hf⟩
          rw [← hc]; congr 1; omega
      · cases h
    · cases h

theorem leaves_ok {w : World} : ∀ (n : Nat) (t : TypeId) (d : DataW H) (l : List (TypeId × DataW H)) (cs : List Value), (∃ fuel ps, DataW.trod enc P w 0 (fun _ => true) held fuel t cs = some (d, ps)) → leavesB P n t d = some l → cs.length = P.cellsOf t →
    ∀ (i : Nat) x, l[i]? = some x → ∃ c, cs[i]? = some c ∧ Leaf enc P held w c x
  | 0, t, d, l, cs, _, h, _, i, x, hx => by simp [leavesB] at h
  | n + 1, t, d, l, cs, ht, h, hlen, i, x, hx => by
    obtain ⟨fuel, ps, ht⟩ := ht
    unfold leavesB at h
    split at h
    · rename_i fs parts hu
      split at h
      · rename_i hfs
        obtain ⟨xs, m, _, hx', hl, hxl, hall⟩ := DataW.trod_struct hu ht
        injection hx' with hd _
        injection hd with hd
        rw [← hlen] at h
        obtain ⟨c, hc, hf⟩ := piece_ok (leaves_ok n) cs _ 0 l h (fun y hy => by
          unfold structB at hy
          obtain ⟨⟨f, q⟩, hz, rfl⟩ := List.mem_map.1 hy
          obtain ⟨j, hj, hj2⟩ := List.getElem_of_mem hz
          have h1 : fs.toList[j]? = some f := by
            have := List.getElem?_eq_getElem hj
            rw [hj2, List.getElem?_zip_eq_some] at this
            exact this.1
          have h2 : parts[j]? = some q := by
            have := List.getElem?_eq_getElem hj
            rw [hj2, List.getElem?_zip_eq_some] at this
            exact this.2
          have h3 := hall j f (by simpa using h1)
          rw [hd, List.getElem?_map] at h2
          obtain ⟨y, hy, hq⟩ := Option.map_eq_some_iff.1 h2
          rw [hy] at h3
          exact ⟨m, y.2, by rw [h3, ← hq]⟩) i x hx
        rw [Nat.zero_add] at hc
        exact ⟨c, hc, hf⟩
      · cases h
    · rename_i m e parts hu
      split at h
      · rename_i hfs
        obtain ⟨xs, k, _, hx', hl, hxl, hall⟩ := DataW.trod_array hu ht
        injection hx' with hd _
        injection hd with hd
        rw [← hlen] at h
        obtain ⟨c, hc, hf⟩ := piece_ok (leaves_ok n) cs _ 0 l h (fun y hy => by
          unfold arrayB at hy
          obtain ⟨⟨q, j⟩, hz, rfl⟩ := List.mem_map.1 hy
          have h2 : parts[j]? = some q := by
            have := List.mem_zipIdx_iff_getElem?.1 hz
            simpa using this
          have hj : j < m := by
            have := (List.getElem?_eq_some_iff.1 h2).1
            omega
          have h3 := hall j hj
          rw [hd, List.getElem?_map] at h2
          obtain ⟨y, hy, hq⟩ := Option.map_eq_some_iff.1 h2
          rw [hy] at h3
          exact ⟨k, y.2, by rw [h3, ← hq]⟩) i x hx
        rw [Nat.zero_add] at hc
        exact ⟨c, hc, hf⟩
      · cases h
    · cases h
    · cases h
    · split at h
      · rename_i h1
        injection h with h
        subst h
        rw [h1] at hlen
        rcases i with _ | i
        · simp at hx
          subst hx
          match cs, hlen with
          | [c], _ => exact ⟨c, rfl, fuel, ps, ht⟩
        · simp at hx
      · cases h
end

/-- a variable that stands first on the list: its block, cell by cell -/
theorem laid_leaves {P : Program} {W : World} {name : String} {d : DataW Unit} {rest : List (String × DataW Unit)} {g : Nat} {t : TypeId} {n m : Nat} {e : TypeId} {ls : List (TypeId × DataW Unit)}
    (hg : P.globalNamed name = some g) (hty : (P.globals[g]?).map (·.type) = some t) (ha : P.underlying t = some (.array m e)) (hl : leavesB P n t d = some ls) (h : laidMet P ((name, d) :: rest) W) :
    ∃ cs t' fz, W.heap[g]? = some (.cells cs t' fz) ∧ ∀ (i : Nat) x, ls[i]? = some x → ∃ c, cs[i]? = some c ∧ Leaf (fun _ => ()) P false W c x := by
  obtain ⟨ps, ⟨g', t', cs, fuel, p, q, hg', ht', hvar, hd, _, _⟩, _⟩ := h
  obtain rfl := Option.some.inj (hg.symm.trans hg')
  obtain rfl := Option.some.inj (hty.symm.trans ht')
  have hb : ∃ t f, W.heap[g]? = some (.cells cs t f) := by
    simp only [World.var?, hg, Option.bind_some] at hvar
    split at hvar
    · rename_i h'
      simp at hvar; subst hvar
      exact ⟨_, _, h'⟩
    · cases hvar
  obtain ⟨t2, fz, hb⟩ := hb
  refine ⟨cs, t2, fz, hb, fun i x hx => ?_⟩
  obtain ⟨_, _, _, _, hcl, _⟩ := DataW.trod_array ha hd
  obtain ⟨c, hc, hf⟩ := leaves_ok n t d ls cs.toList ⟨fuel, p, hd⟩ hl hcl i x hx
  exact ⟨c, by simpa using hc, hf⟩

/-- leaves: a string, an integer, nil, a row of integers -/
theorem leaf_string {H : Type} {enc : TypeId × Value → H} {P : Program} {held : Bool} {w : World} {c : Value} {t : TypeId} {b : List UInt8} (ht : P.underlying t = some .string) (h : Leaf enc P held w c (t, .lit (.string b))) : c = .string ⟨b.toArray⟩ := by
  obtain ⟨fuel, ps, h⟩ := h
  obtain ⟨s, h1, h2, _⟩ := DataW.trod_string ht h
  injection h2 with h2 _
  injection h2 with h2
  injection h2 with h2
  simp only [List.cons.injEq, and_true] at h1
  rw [h1, h2]
theorem leaf_int {H : Type} {enc : TypeId × Value → H} {P : Program} {held : Bool} {w : World} {c : Value} {t : TypeId} {k k' : IntKind} {z : Int} (ht : P.underlying t = some (.int k)) (h : Leaf enc P held w c (t, .lit (.int k' z))) : c = .int k z := by
  obtain ⟨fuel, ps, h⟩ := h
  obtain ⟨n, h1, h2, _⟩ := DataW.trod_int ht h
  injection h2 with h2 _
  injection h2 with h2
  injection h2 with _ h2
  simp only [List.cons.injEq, and_true] at h1
  rw [h1, h2]
theorem leaf_nil {H : Type} {enc : TypeId × Value → H} {P : Program} {held : Bool} {w : World} {c : Value} {t e : TypeId} (ht : P.underlying t = some (.slice e)) (h : Leaf enc P held w c (t, .nil)) : c = .slice none 0 0 := by
  obtain ⟨fuel, ps, h⟩ := h
  rcases DataW.trod_slice ht h with ⟨h1, _⟩ | ⟨a, len, cap, elems, rest, n, _, h1, h2, _⟩
  · simpa using h1
  · injection h2 with h2 _; cases h2
theorem leaf_ints {H : Type} {enc : TypeId × Value → H} {P : Program} {held : Bool} {w : World} {c : Value} {t e : TypeId} {k : IntKind} {ks : List Int} (ht : P.underlying t = some (.slice e)) (he : P.underlying e = some (.int k)) (hc : P.cellsOf e = 1)
    (h : Leaf enc P held w c (t, .slice (ks.map fun z => .lit (.int k z)) [])) (h0 : 0 < ks.length) :
    ∃ g o cap, c = .slice (some ⟨g, o, none⟩) ks.length cap ∧ g < w.heap.size ∧ ∀ j z, ks[j]? = some z → w.cell? ⟨g, o + j, none⟩ = some (.int k z) := by
  obtain ⟨fuel, ps, h⟩ := h
  rcases open_ints ht he hc h with ⟨_, hx⟩ | ⟨a, len, cap, zs, hcs, _, hl, hm, hz, hx, hcell, hwz⟩
  · injection hx with hx _; cases hx
  · injection hx with hx _
    injection hx with hx1 hx2
    have hlen : zs.drop len = [] := by
      have := congrArg List.length hx2
      simp [lits] at this
      exact List.drop_of_length_le (by omega)
    have htake : zs.take len = zs := by
      have := List.take_append_drop len zs
      rw [hlen, List.append_nil] at this
      exact this
    have hks : ks = zs := by
      rw [htake] at hx1
      unfold lits at hx1
      have hinj : ∀ (l1 l2 : List Int), (l1.map fun z => (DataW.lit (.int k z) : DataW H)) = l2.map (fun n => .lit (.int k n)) → l1 = l2 := by
        intro l1
        induction l1 with
        | nil => intro l2 h; cases l2 with
          | nil => rfl
          | cons _ _ => simp at h
        | cons x l1 ih => intro l2 h; cases l2 with
          | nil => simp at h
          | cons y l2 =>
            simp only [List.map_cons, List.cons.injEq] at h
            obtain ⟨hxy, hr⟩ := h
            injection hxy with hxy
            injection hxy with _ hxy
            rw [hxy, ih l2 hr]
      exact hinj ks zs hx1
    subst hks
    have hlk : len = ks.length := by
      have := congrArg List.length htake
      rw [List.length_take] at this
      simp only [if_true] at hz
      have := congrArg List.length hlen
      rw [List.length_drop] at this
      simp at this
      omega
    simp only [List.cons.injEq, and_true] at hcs
    have c0 := hcell 0 h0
    have e0 : a.add 0 = a := by simp [Addr.add]
    rw [e0] at c0
    have ha := addr_none (spot_none c0)
    refine ⟨a.block, a.off, cap, by rw [hcs, hlk, ← ha], World.block_lt_of_cell? w a (by rw [c0]), fun j z hj => ?_⟩
    have hjl := (List.getElem?_eq_some_iff.1 hj).1
    have := hcell j hjl
    rw [ha, add_none] at this
    rw [this]
    simp [List.getD_eq_getElem?_getD, hj]

end Go.Proofs.YtlohhlbbkliehaaGreatDoor.W
