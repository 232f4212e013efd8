import Derived.Test.YtimbhnnidohmaaaDoorGrpK
import Derived.Test.YtimbhnnidohmaaaDoorGrp6
import Derived.Test.YtimbhnnidohmaaaDoorFormR3
import Derived.BigQuiet
import Derived.Test.YtimbhnnidohmaaaDoorTab
import Derived.Test.YtimbhnnidohmaaaDoorObjA
/-
  GroupTells: the first copy of a name, in plain words. No program.
-/
namespace Go.Proofs.YtimbhnnidohmaaaDoor.W
set_option linter.unusedVariables false

theorem nameIn_no {gs : List Grp} {n : ByteArray} : nameIn gs n = false ↔ ∀ g ∈ gs, g.name ≠ n := by
  unfold nameIn
  rw [List.any_eq_false]
  simp
structure IsFirst (l : List Ob) (n : ByteArray) (i g : Nat) : Prop where
  hi : i < l.length
  hg : g < (l[i]'hi).groups.length
  at_ : ((l[i]'hi).groups[g]'hg).name = n
  before : ∀ i' (h : i' < i), nameIn (l[i']'(Nat.lt_trans h hi)).groups n = false
  here : nameIn ((l[i]'hi).groups.take g) n = false

theorem least (P : Nat → Prop) : ∀ k, P k → ∃ m, m ≤ k ∧ P m ∧ ∀ m', m' < m → ¬ P m' := by
  intro k
  induction k using Nat.strongRecOn with
  | _ k ih =>
    intro hk
    by_cases h : ∃ m', m' < k ∧ P m'
    · obtain ⟨m', h1, h2⟩ := h
      obtain ⟨m, h3, h4, h5⟩ := ih m' h1 h2
      exact ⟨m, by omega, h4, h5⟩
    · exact ⟨k, Nat.le_refl _, hk, fun m' h1 h2 => h ⟨m', h1, h2⟩⟩
theorem first_exists {l : List Ob} {i j : Nat} (hi : i < l.length) (hj : j < l[i].groups.length) : ∃ i0 g0, IsFirst l l[i].groups[j].name i0 g0 ∧ (i0 < i ∨ (i0 = i ∧ g0 ≤ j)) := by
  obtain ⟨n, hn⟩ : ∃ n, l[i].groups[j].name = n := ⟨_, rfl⟩
  rw [hn]
  obtain ⟨i0, h1, ⟨h2, h3⟩, h4⟩ := least (fun i' => ∃ h : i' < l.length, nameIn l[i'].groups n = true) i ⟨hi, by
    unfold nameIn
    rw [List.any_eq_true]
    exact ⟨l[i].groups[j], List.getElem_mem _, by simp [hn]⟩⟩
  have h3' : ∃ g, ∃ h : g < l[i0].groups.length, l[i0].groups[g].name = n := by
    unfold nameIn at h3
    rw [List.any_eq_true] at h3
    obtain ⟨g, hg, e⟩ := h3
    obtain ⟨k, hk, rfl⟩ := List.mem_iff_getElem.1 hg
    exact ⟨k, hk, by simpa using e⟩
  obtain ⟨g, hg⟩ := h3'
  obtain ⟨g0, h5, ⟨h6, h7⟩, h8⟩ := least (fun g => ∃ h : g < l[i0].groups.length, l[i0].groups[g].name = n) g hg
  refine ⟨i0, g0, ⟨h2, h6, h7, fun i' h => ?_, ?_⟩, ?_⟩
  · have := h4 i' h
    cases hb : nameIn (l[i']'(Nat.lt_trans h h2)).groups n with
    | false => rfl
    | true => exact absurd ⟨Nat.lt_trans h h2, hb⟩ this
  · rw [nameIn_no]
    intro x hx e
    obtain ⟨k, hk, rfl⟩ := List.mem_iff_getElem.1 hx
    rw [List.length_take] at hk
    rw [List.getElem_take] at e
    exact h8 k (by omega) ⟨by omega, e⟩
  · rcases Nat.lt_or_ge i0 i with h | h
    · exact .inl h
    · have : i0 = i := by omega
      subst this
      refine .inr ⟨rfl, ?_⟩
      rcases Nat.lt_or_ge j g0 with h' | h'
      · exact absurd ⟨hj, hn⟩ (h8 j h')
      · exact h'
theorem IsFirst.le {l : List Ob} {n : ByteArray} {i0 g0 i j : Nat} (h : IsFirst l n i0 g0) (hi : i < l.length) (hj : j < l[i].groups.length) (e : l[i].groups[j].name = n) : i0 < i ∨ (i0 = i ∧ g0 ≤ j) := by
  rcases Nat.lt_trichotomy i0 i with h1 | h1 | h1
  · exact .inl h1
  · subst h1
    refine .inr ⟨rfl, ?_⟩
    rcases Nat.lt_or_ge j g0 with h2 | h2
    · exfalso
      have := nameIn_no.1 h.here (l[i0].groups[j]) (by
        have h3 : j < (l[i0].groups.take g0).length := by rw [List.length_take]; omega
        have h4 : (l[i0].groups.take g0)[j] = l[i0].groups[j] := List.getElem_take
        rw [← h4]; exact List.getElem_mem h3)
      exact this e
    · exact h2
  · exact absurd e (nameIn_no.1 (h.before i h1) _ (List.getElem_mem hj))

theorem lookC_app (s : Seen) (m n : ByteArray) (c : Cp) : lookC (s ++ [(m, c)]) n = match lookC s n with | some x => some x | none => if m = n then some c else none := by
  unfold lookC lookV
  rw [List.find?_append]
  cases h : s.find? (fun x => decide (x.1 = n)) with
  | some x => simp
  | none => by_cases e : m = n <;> simp [e]

def SInv (l : List Ob) (i j : Nat) (seen : Seen) : Prop := ∀ n i0 g0 (h : IsFirst l n i0 g0), lookC seen n = if i0 < i ∨ (i0 = i ∧ g0 < j) then some (cpOf i0 (l[i0]'h.hi) ((l[i0]'h.hi).groups[g0]'h.hg)) else none
theorem sinv_mid {l : List Ob} {i : Nat} (hi : i < l.length) (h0 : SInv l i 0 (keepR (l.take i)).seen) : ∀ j, j ≤ l[i].groups.length → SInv l i j (midSt l i l[i] j).seen
  | 0, _ => h0
  | j + 1, hj => by
    have ih := sinv_mid hi h0 j (by omega)
    intro n i0 g0 hF
    have ih := ih n i0 g0 hF
    rw [midSt_step (by omega : j < l[i].groups.length)]
    by_cases e : (l[i].groups[j]'(by omega)).name = n
    · have hle := hF.le hi (by omega : j < l[i].groups.length) e
      by_cases hlt : i0 < i ∨ (i0 = i ∧ g0 < j)
      · rw [if_pos hlt] at ih
        rw [if_pos (by omega)]
        unfold grpStep
        rw [e, ih]
        exact ih
      · have h1 : i0 = i ∧ g0 = j := by omega
        obtain ⟨rfl, rfl⟩ := h1
        rw [if_neg hlt] at ih
        rw [if_pos (by omega)]
        unfold grpStep
        rw [e, ih]
        simp only
        rw [lookC_app, ih]
        simp
    · have hne : ¬ (i0 = i ∧ g0 = j) := by
        rintro ⟨rfl, rfl⟩
        exact e hF.at_
      have hc : (i0 < i ∨ (i0 = i ∧ g0 < j + 1)) ↔ (i0 < i ∨ (i0 = i ∧ g0 < j)) := by omega
      simp only [hc]
      rw [← ih]
      unfold grpStep
      split
      · simp only
        rw [lookC_app, if_neg e]
        split <;> simp_all
      · rfl
theorem sinv_all (l : List Ob) : ∀ i, i ≤ l.length → SInv l i 0 (keepR (l.take i)).seen
  | 0, _ => fun n i0 g0 h => by rw [if_neg (by omega)]; rfl
  | i + 1, hi => by
    have h := sinv_mid (by omega : i < l.length) (sinv_all l i (by omega)) _ (Nat.le_refl _)
    intro n i0 g0 hF
    rw [midSt_end (by omega : i < l.length)]
    show lookC (midSt l i l[i] l[i].groups.length).seen n = _
    rw [h n i0 g0 hF]
    have hc : (i0 < i ∨ (i0 = i ∧ g0 < (l[i]'(by omega)).groups.length)) ↔ (i0 < i + 1 ∨ (i0 = i + 1 ∧ g0 < 0)) := by
      constructor
      · omega
      · intro h
        rcases Nat.lt_or_ge i0 i with h1 | h1
        · exact .inl h1
        · have h2 : i0 = i := by omega
          have := hF.hg
          subst h2
          exact .inr ⟨rfl, this⟩
    simp only [hc]

/-- the reference's round over a group: its first copy is itself -/
theorem rstep_same {l : List Ob} {i j : Nat} (hi : i < l.length) (hj : j < l[i].groups.length) (hF : IsFirst l l[i].groups[j].name i j) :
    (midSt l i l[i] (j + 1)).kept = (midSt l i l[i] j).kept ∧ (midSt l i l[i] (j + 1)).differ = (midSt l i l[i] j).differ := by
  have h := sinv_mid hi (sinv_all l i (Nat.le_of_lt hi)) j (Nat.le_of_lt hj) _ i j hF
  rw [if_neg (by omega)] at h
  rw [midSt_step hj]
  unfold grpStep
  rw [h]
  exact ⟨rfl, rfl⟩
/-- .. is another one -/
theorem rstep_other {l : List Ob} {i j i0 g0 : Nat} (hi : i < l.length) (hj : j < l[i].groups.length) (hF : IsFirst l l[i].groups[j].name i0 g0) (hlt : i0 < i ∨ (i0 = i ∧ g0 < j)) :
    (midSt l i l[i] (j + 1)).kept = dropAll (midSt l i l[i] j).kept (secsOf l[i] l[i].groups[j]) ∧
    (midSt l i l[i] (j + 1)).differ = if alikeB (cpOf i0 (l[i0]'hF.hi) ((l[i0]'hF.hi).groups[g0]'hF.hg)) (cpOf i l[i] l[i].groups[j]) then (midSt l i l[i] j).differ else (midSt l i l[i] j).differ ++ [⟨l[i].groups[j].name, i0, i⟩] := by
  have h := sinv_mid hi (sinv_all l i (Nat.le_of_lt hi)) j (Nat.le_of_lt hj) _ i0 g0 hF
  rw [if_pos hlt] at h
  rw [midSt_step hj]
  unfold grpStep
  rw [h]
  exact ⟨rfl, rfl⟩

theorem rstep_same' {l : List Ob} {i j : Nat} {nm : ByteArray} (hi : i < l.length) (hj : j < l[i].groups.length) (e : l[i].groups[j].name = nm) (hF : IsFirst l nm i j) :
    (midSt l i l[i] (j + 1)).kept = (midSt l i l[i] j).kept ∧ (midSt l i l[i] (j + 1)).differ = (midSt l i l[i] j).differ := by
  subst e; exact rstep_same hi hj hF
theorem rstep_other' {l : List Ob} {i j i0 g0 : Nat} {nm : ByteArray} (hi : i < l.length) (hj : j < l[i].groups.length) (e : l[i].groups[j].name = nm) (hF : IsFirst l nm i0 g0) (hlt : i0 < i ∨ (i0 = i ∧ g0 < j)) :
    (midSt l i l[i] (j + 1)).kept = dropAll (midSt l i l[i] j).kept (secsOf l[i] l[i].groups[j]) ∧
    (midSt l i l[i] (j + 1)).differ = if alikeB (cpOf i0 (l[i0]'hF.hi) ((l[i0]'hF.hi).groups[g0]'hF.hg)) (cpOf i l[i] l[i].groups[j]) then (midSt l i l[i] j).differ else (midSt l i l[i] j).differ ++ [⟨nm, i0, i⟩] := by
  subst e; exact rstep_other hi hj hF hlt

/-- what is alike among the first sections -/
def AlkTo (o1 o2 : Ob) (k1 k2 : List Int) (i : Nat) : Prop := (k1.take i).map (nameS o1) = (k2.take i).map (nameS o2) ∧ (k1.take i).map (formS o1) = (k2.take i).map (formS o2)
theorem AlkTo.zero (o1 o2 : Ob) (k1 k2 : List Int) : AlkTo o1 o2 k1 k2 0 := by
  unfold AlkTo
  rw [List.take_zero, List.take_zero, List.map_nil, List.map_nil, List.map_nil, List.map_nil]
  exact ⟨rfl, rfl⟩
theorem AlkTo.succ {o1 o2 : Ob} {k1 k2 : List Int} {i : Nat} (h : AlkTo o1 o2 k1 k2 i) (h1 : i < k1.length) (h2 : i < k2.length) (hn : nameS o1 k1[i] = nameS o2 k2[i]) (hf : formS o1 k1[i] = formS o2 k2[i]) : AlkTo o1 o2 k1 k2 (i + 1) := by
  unfold AlkTo
  rw [List.take_succ_eq_append_getElem h1, List.take_succ_eq_append_getElem h2, List.map_append, List.map_append, List.map_append, List.map_append, h.1, h.2]
  exact ⟨by simp [hn], by simp [hf]⟩
theorem alike_len {i0 i : Nat} {o1 o2 : Ob} {g1 g2 : Grp} (h : (secsOf o1 g1).length ≠ (secsOf o2 g2).length) : alikeB (cpOf i0 o1 g1) (cpOf i o2 g2) = false := by
  unfold alikeB cpOf
  simp only
  rw [decide_eq_false (fun e => h (by have := congrArg List.length e; simpa using this))]
  rfl
theorem alike_end {i0 i : Nat} {o1 o2 : Ob} {g1 g2 : Grp} (hl : (secsOf o1 g1).length = (secsOf o2 g2).length) (h : AlkTo o1 o2 (secsOf o1 g1) (secsOf o2 g2) (secsOf o1 g1).length) : alikeB (cpOf i0 o1 g1) (cpOf i o2 g2) = true := by
  unfold AlkTo at h
  rw [List.take_length, hl, List.take_length] at h
  unfold alikeB cpOf
  simp only
  rw [decide_eq_true h.1, decide_eq_true h.2]
  rfl
theorem map_at {α : Type} {f g : Int → α} {k1 k2 : List Int} {i : Nat} (h1 : i < k1.length) (h2 : i < k2.length) (e : k1.map f = k2.map g) : f k1[i] = g k2[i] := by
  have := congrArg (fun l => l[i]?) e
  simp only [List.getElem?_map] at this
  rw [List.getElem?_eq_getElem h1, List.getElem?_eq_getElem h2] at this
  simpa using this
theorem alike_no {i0 i : Nat} {o1 o2 : Ob} {g1 g2 : Grp} {j : Nat} (h1 : j < (secsOf o1 g1).length) (h2 : j < (secsOf o2 g2).length)
    (h : ¬ (nameS o1 (secsOf o1 g1)[j] = nameS o2 (secsOf o2 g2)[j] ∧ formS o1 (secsOf o1 g1)[j] = formS o2 (secsOf o2 g2)[j])) : alikeB (cpOf i0 o1 g1) (cpOf i o2 g2) = false := by
  cases hb : alikeB (cpOf i0 o1 g1) (cpOf i o2 g2) with
  | false => rfl
  | true =>
    exfalso
    unfold alikeB cpOf at hb
    simp only [Bool.and_eq_true, decide_eq_true_eq] at hb
    exact h ⟨map_at h1 h2 hb.1, map_at h1 h2 hb.2⟩
theorem alike_no2 {i0 i : Nat} {o1 o2 : Ob} {g1 g2 : Grp} {k1 k2 : List Int} (e1 : secsOf o1 g1 = k1) (e2 : secsOf o2 g2 = k2) {j : Nat} (h1 : j < k1.length) (h2 : j < k2.length)
    (h : ¬ (nameS o1 k1[j] = nameS o2 k2[j] ∧ formS o1 k1[j] = formS o2 k2[j])) : alikeB (cpOf i0 o1 g1) (cpOf i o2 g2) = false := by
  subst e1; subst e2
  exact alike_no h1 h2 h
theorem keepR_rows {l : List Ob} (h : KeepOk l) : ∀ ks ∈ (keepR l).keep, ks.length ≤ 1000 := fun ks hk => by
  obtain ⟨i, hi, rfl⟩ := List.mem_iff_getElem.1 hk
  have hi' : i < l.length := by rw [← keepR_keep_len h]; exact hi
  have h1 := keep_at h hi'
  rw [List.getElem?_eq_getElem hi] at h1
  rw [Option.some.inj h1, midSt_kept_len l i l[i] _ (Nat.le_refl _)]
  exact h.secs _ (List.getElem_mem _)
theorem keepR_diffs {l : List Ob} (h : KeepOk l) : (keepR l).differ.length ≤ 1000000 := by
  have h1 := (keepR_len h l.length (Nat.le_refl _)).2.1
  rw [List.take_length] at h1
  have := h.len
  omega

end Go.Proofs.YtimbhnnidohmaaaDoor.W

/-
  The reference's Keep: its memory while it runs.
-/
namespace Go.Proofs.YtimbhnnidohmaaaDoor.W
open Go.RowKit
set_option linter.unusedVariables false

/-- while it goes over an object's groups (wi: the world when the object was begun) -/
structure RMt (wi wr : World) (dv0 kpt dv : Value) (kept : List Bool) (differ : List Df) : Prop where
  k : Own wr wi.heap.size 4 kpt (boolsV kept)
  d : DRow wr dv differ
  K : Keeps (fun g => dv0.ownBlock = some g) wi wr
  dd : ∀ g, dv.ownBlock = some g → dv0.ownBlock = some g ∨ wi.heap.size ≤ g

section
variable {wi wr w' : World} {dv0 kpt dv : Value} {kept : List Bool} {differ : List Df}
theorem RMt.next (h : RMt wi wr dv0 kpt dv kept differ) (k : Keeps (fun _ => False) wr w') : RMt wi w' dv0 kpt dv kept differ :=
  ⟨h.k.keeps k (fun _ _ h => h), h.d.keeps k (fun _ _ h => h), h.K.trans (k.mono (fun _ _ h => h.elim)), h.dd⟩
/-- a change of blocks that were not there -/
theorem RMt.kk (h : RMt wi wr dv0 kpt dv kept differ) {S : Nat → Prop} (k : Keeps S wr w') (hs : ∀ g, S g → dv0.ownBlock = some g ∨ wi.heap.size ≤ g) : Keeps (fun g => dv0.ownBlock = some g) wi w' :=
  ⟨k.os.trans h.K.os, k.tape.trans h.K.tape, k.output.trans h.K.output, Nat.le_trans h.K.size k.size, fun x hx hn => (k.block x (Nat.lt_of_lt_of_le hx h.K.size) (fun e => by
    rcases hs x e with h' | h'
    · exact hn h'
    · omega)).trans (h.K.block x hx hn)⟩
theorem RMt.strike (h : RMt wi wr dv0 kpt dv kept differ) {g n cap : Nat} (hk : kpt = .slice (some ⟨g, 0, none⟩) n cap) (j : Nat) :
    RMt wi (wr.setCell ⟨g, j, none⟩ (.bool false)) dv0 kpt dv (kept.set j false) differ := by
  have hg := h.k.lt (k := g) (by rw [hk]; rfl)
  obtain ⟨cur, fz, hb⟩ := h.k.typ (g := g) (by rw [hk]; rfl)
  have k : Keeps (· = g) wr (wr.setCell ⟨g, j, none⟩ (.bool false)) := (Keeps.refl (· = g) wr).setCell (p := ⟨g, j, none⟩) (.inr rfl) _
  have hk' := h.k
  rw [hk] at hk'
  refine ⟨by rw [hk, ← boolsV_set]; exact hk'.setAt (.bool false), h.d.keeps k (fun x hx e => by obtain ⟨c, f, hc⟩ := h.d.typ hx; exact typ_ne hb hc (by decide) e.symm), h.kk k (fun x e => .inr (by have : x = g := e; omega)), h.dd⟩
theorem RMt.push (h : RMt wi wr dv0 kpt dv kept differ) (hl : kept.length ≤ 1000000) :
    ∃ v' w', (Builtin.append_ #[31, 31] 31 #[kpt, .slice (some ⟨wr.heap.size, 0, none⟩) 1 1]).run Tryd.prog (wr.alloc (.cells #[.bool true] 4)) = .ok v' w' ∧ RMt wi w' dv0 v' dv (kept ++ [true]) differ := by
  obtain ⟨i0, hi, hz0, hz1, hz2⟩ := info_parts (show (Tryd.prog.info? 4).map (fun i => (i.zero, i.size, i.bytes)) = some (some (.bool false), 1, 1) by kernel_rfl)
  have ka : Keeps (fun _ => False) wr (wr.alloc (.cells #[.bool true] 4)) := (Keeps.refl _ wr).alloc _
  have hbl : (boolsV kept).length = kept.length := boolsV_len kept
  obtain ⟨v', w', hr, hO, hk, hd⟩ := run_app (P := Tryd.prog) (wr.alloc (.cells #[.bool true] 4)) 31 31 4 Tryd.underlying31 hi hz0 hz1 hz2 rfl kpt (boolsV kept) [.bool true] (h.k.keeps ka (fun _ _ h => h)) wr.heap.size 1
    (fun j u hj => (Blk.new wr 4 [.bool true]).at hj) (fun u hu => by simp at hu; subst hu; rfl) (by rw [hbl]; show kept.length + 1 ≤ maxLen; unfold maxLen; omega) (by rw [hbl]; show (kept.length + 1) * 1 ≤ _; omega) (by have := h.K.size; simp; omega)
  have k2 : Keeps (fun k => kpt.ownBlock = some k) wr w' := (ka.mono (fun _ _ h => h.elim)).trans hk
  have e : boolsV kept ++ [.bool true] = boolsV (kept ++ [true]) := by simp [boolsV]
  rw [e] at hO
  refine ⟨v', w', hr, hO, h.d.keeps k2 (fun g hg hx => by
    obtain ⟨c, f, hc⟩ := h.d.typ hg
    obtain ⟨c', f', hc'⟩ := h.k.typ hx
    exact typ_ne hc hc' (by decide) rfl), h.kk k2 (fun x hx => .inr (h.k.lt hx).1), h.dd⟩
theorem RMt.addD (h : RMt wi wr dv0 kpt dv kept differ) (d : Df) (hl : differ.length ≤ 1000000) :
    ∃ v' w', (Builtin.append_ #[26, 26] 26 #[dv, .slice (some ⟨wr.heap.size, 0, none⟩) 1 1]).run Tryd.prog (wr.alloc (.cells #[.string d.name, .int .i64 d.first, .int .i64 d.other] 49)) = .ok v' w' ∧ RMt wi w' dv0 kpt v' kept (differ ++ [d]) := by
  obtain ⟨v', w', hr, hd, k, hb⟩ := h.d.app d hl
  refine ⟨v', w', hr, h.k.keeps k (fun g hg hx => by
    obtain ⟨c, f, hc⟩ := h.d.typ hx
    obtain ⟨c', f', hc'⟩ := h.k.typ hg
    exact typ_ne hc hc' (by decide) rfl), hd, h.kk k (fun x hx => h.dd x hx), fun g hg => ?_⟩
  rcases hb g hg with h' | h'
  · exact h.dd g h'
  · exact .inr (Nat.le_trans h.K.size h')
end

/-- between two objects -/
structure ROSt (w wr : World) (kpv dv : Value) (keep : List (List Bool)) (differ : List Df) : Prop where
  p : ∃ vs : List Value, Own wr w.heap.size 31 kpv vs ∧ vs.length = keep.length ∧ ∀ j (h : j < vs.length) (h' : j < keep.length), Own wr w.heap.size 4 vs[j] (boolsV keep[j])
  d : DRow wr dv differ
  db : ∀ g, dv.ownBlock = some g → w.heap.size ≤ g
  K : Below w.heap.size w wr
theorem ROSt.start (w : World) : ROSt w w (.slice none 0 0) (.slice none 0 0) [] [] :=
  ⟨⟨[], Own.nil _ _ _, rfl, fun j h => by simp at h⟩, DRow.nil _, (fun g hg => by cases hg), Below.refl _ _⟩
theorem ROSt.begin {w wi : World} {kpv dv : Value} {keep : List (List Bool)} {differ : List Df} (h : ROSt w wi kpv dv keep differ) : RMt wi wi dv (.slice none 0 0) dv [] differ :=
  ⟨Own.nil _ _ _, h.d, Keeps.refl _ _, fun g hg => .inl hg⟩
theorem ROSt.fin {w wi wr : World} {kpv dv0 kpt dv : Value} {keep : List (List Bool)} {kept : List Bool} {differ0 differ : List Df} (h : ROSt w wi kpv dv0 keep differ0) (hm : RMt wi wr dv0 kpt dv kept differ) (hl : keep.length ≤ 1000000) :
    ∃ v' w', (Builtin.append_ #[25, 25] 25 #[kpv, .slice (some ⟨wr.heap.size, 0, none⟩) 1 1]).run Tryd.prog (wr.alloc (.cells #[kpt] 31)) = .ok v' w' ∧ ROSt w w' v' dv (keep ++ [kept]) differ := by
  obtain ⟨i0, hi, hz0, hz1, hz2⟩ := info_parts (show (Tryd.prog.info? 31).map (fun i => (i.zero, i.size, i.bytes)) = some (some (.slice none 0 0), 1, 24) by kernel_rfl)
  obtain ⟨vs, hv, hvl, hva⟩ := h.p
  have hsw := h.K.size
  have hno : ∀ g cur e fz, e ≠ 49 → wi.heap[g]? = some (.cells cur e fz) → ¬ (dv0.ownBlock = some g) := fun g cur e fz he hg hx => by
    obtain ⟨c, f, hc⟩ := h.d.typ hx
    exact typ_ne hg hc he rfl
  have hv1 : Own wr w.heap.size 31 kpv vs := hv.keeps hm.K (fun g hg => by obtain ⟨c, f, hb⟩ := hv.typ hg; exact hno g c _ f (by decide) hb)
  have hva1 : ∀ j (h : j < vs.length) (h' : j < keep.length), Own wr w.heap.size 4 vs[j] (boolsV keep[j]) := fun j hj hj' => (hva j hj hj').keeps hm.K (fun g hg => by obtain ⟨c, f, hb⟩ := (hva j hj hj').typ hg; exact hno g c _ f (by decide) hb)
  have ka : Keeps (fun _ => False) wr (wr.alloc (.cells #[kpt] 31)) := (Keeps.refl _ wr).alloc _
  have hone : kpt.oneCell' = true := by
    rcases hm.k.is with ⟨rfl, _⟩ | ⟨g, cap, rfl, _⟩ <;> rfl
  obtain ⟨v', w', hr, hO, hk, hd⟩ := run_app (P := Tryd.prog) (wr.alloc (.cells #[kpt] 31)) 25 25 31 Tryd.underlying25 hi hz0 hz1 hz2 rfl kpv vs [kpt] (hv1.keeps ka (fun _ _ h => h)) wr.heap.size 1
    (fun j u hj => (Blk.new wr 31 [kpt]).at hj) (fun u hu => by simp at hu; subst hu; exact hone) (by rw [hvl]; show keep.length + 1 ≤ maxLen; unfold maxLen; omega) (by rw [hvl]; show (keep.length + 1) * 24 ≤ _; omega) (by have := hm.K.size; simp; omega)
  have k2 : Keeps (fun k => kpv.ownBlock = some k) wr w' := (ka.mono (fun _ _ h => h.elim)).trans hk
  have ht : ∀ g cur e fz, e ≠ 31 → wr.heap[g]? = some (.cells cur e fz) → ¬ kpv.ownBlock = some g := fun g cur e fz he hg hx => by
    obtain ⟨c, f, hc⟩ := hv1.typ hx
    exact typ_ne hg hc he rfl
  have hwr : Below w.heap.size w wr := h.K.trans (hm.K.below hsw (fun x hx e => by have := h.db x e; omega))
  refine ⟨v', w', hr, ⟨⟨vs ++ [kpt], hO, by simp [hvl], fun j h1 h2 => ?_⟩, hm.d.keeps k2 (fun g hg => by obtain ⟨c, f, hc⟩ := hm.d.typ hg; exact ht g c _ f (by decide) hc), fun g hg => ?_, hwr.trans (k2.below hwr.size (fun x hx e => by have := (hv1.lt e).1; omega))⟩⟩
  · by_cases hj : j < vs.length
    · have hj2 : j < keep.length := hvl ▸ hj
      rw [List.getElem_append_left hj]
      rw [List.getElem_append_left hj2]
      exact (hva1 j hj hj2).keeps k2 (fun g hg => by obtain ⟨c, f, hc⟩ := (hva1 j hj hj2).typ hg; exact ht g c _ f (by decide) hc)
    · have hj2 : ¬ j < keep.length := hvl ▸ hj
      rw [List.getElem_append_right (by omega)]
      rw [List.getElem_append_right (by omega)]
      simp only [List.getElem_singleton]
      exact (hm.k.keeps k2 (fun g hg => by obtain ⟨c, f, hc⟩ := hm.k.typ hg; exact ht g c _ f (by decide) hc)).down hsw
  · rcases hm.dd g hg with h' | h'
    · exact h.db g h'
    · omega
theorem ROSt.rows {w wr : World} {kpv dv : Value} {keep : List (List Bool)} {differ : List Df} (h : ROSt w wr kpv dv keep differ) : Rw 1 boolsE wr kpv keep ∧ Rw 3 dfE wr dv differ := by
  obtain ⟨vs, h1, h2, h3⟩ := h.p
  refine ⟨Rw.of_own h1 h2 (fun j x u hx hu => ?_), h.d.row⟩
  obtain ⟨hj, rfl⟩ := List.getElem?_eq_some_iff.1 hx
  obtain ⟨hj', rfl⟩ := List.getElem?_eq_some_iff.1 hu
  exact ⟨_, rfl, (h3 j hj' hj).bools⟩

end Go.Proofs.YtimbhnnidohmaaaDoor.W

/-
  The reference's Secs, First, Alike.
-/
namespace Go.Proofs.YtimbhnnidohmaaaDoor.W
open Go.RowKit
set_option linter.unusedVariables false

theorem below_drewN (w : World) (n : Nat) : Below w.heap.size w (w.drewN n) := by
  induction n with
  | zero => exact Below.refl _ _
  | succ n ih => exact ih.drew

theorem Rw.objAt {w : World} {l : List Ob} {g of n c : Nat} (h : Rw 11 Ob.E w (.slice (some ⟨g, of, none⟩) n c) l) {i : Nat} (hi : i < l.length) :
    ∃ x1 x2 x3 x4 x5 x6 x7 x8 x9 x10, l[i].At w x1 x2 x3 x4 x5 x6 x7 x8 x9 x10 ∧ ObCells w g (of + i * 11) l[i] x1 x2 x3 x4 x5 x6 x7 x8 x9 x10 := by
  obtain ⟨g', of', x1, x2, x3, x4, x5, x6, x7, x8, x9, x10, e, _, hA, hC⟩ := h.obj rfl hi
  injection e with e
  injection e with e1 e2
  subst e1; subst e2
  exact ⟨x1, x2, x3, x4, x5, x6, x7, x8, x9, x10, hA, hC⟩

set_option maxHeartbeats 4000000 in
set_option maxRecDepth 100000 in
theorem rfirst_any (w : World) (v : Value) (l : List Ob) (n : ByteArray) (i0 g0 : Nat) (hR : Rw 11 Ob.E w v l) (hll : l.length ≤ 1000000) (hgl : ∀ o ∈ l, o.groups.length ≤ 1000) (hF : IsFirst l n i0 g0) :
    Calls Tryd.prog 19 #[v, .string n] w fun e w' => e = .returned (.tuple #[.int .i64 i0, .int .i64 g0]) ∧ w = w' := by
  obtain ⟨p, c, rfl⟩ := hR.slice
  obtain ⟨g, of, cs, rfl, hg, hcl, hcE, hcc⟩ := hR.at rfl (j := i0) hF.hi
  clear hg hcl hcE hcc
  have HR := Hd.mk hR
  have HF := Hd.mk hF
  have HG := Hd.mk hgl
  obtain ⟨M, hM⟩ : ∃ M, l.length = M := ⟨_, rfl⟩
  have HM := Hd.mk hM
  rw [hM] at HR hll
  rw [hM]
  clear hR hF hM hgl
  go_enter Tryd.func19, Tryd.ntmps19
  go_wp2
  go_loopw [6] (fun iv wr => ∃ i : Nat, i ≤ i0 ∧ iv = .int .i64 i ∧ w = wr) (fun iv _ => i0 + 1 - (intOf iv).toNat)
  case atStart => exact ⟨0, Nat.zero_le _, rfl, by first | rfl | trivial⟩
  case round =>
    obtain ⟨i, hi, rfl, rfl⟩ := hrel
    have hiM : (i : Int) < (M : Int) := by have := HF.out.hi; have := HM.out; omega
    have hil : i < l.length := Nat.lt_of_le_of_lt hi HF.out.hi
    obtain ⟨x1, x2, x3, x4, x5, x6, x7, x8, x9, x10, hA, hC⟩ := HR.out.objAt hil
    have hGl := HG.out _ (List.getElem_mem hil)
    obtain ⟨p4, c4, rfl⟩ := hA.groups.slice
    have d4 := hC.c4
    have HA := Hd.mk hA.groups
    obtain ⟨G, hG⟩ : ∃ G, l[i].groups.length = G := ⟨_, rfl⟩
    have HGG := Hd.mk hG
    rw [hG] at HA d4 hGl
    clear hA hC hG
    by_cases hlt : i < i0
    · have hms : i0 + 1 - (intOf (.int .i64 ((i : Int) + 1))).toNat < i0 + 1 - (intOf (.int .i64 (i : Int))).toNat := by simp [intOf]; omega
      have HB := Hd.mk (nameIn_no.1 (HF.out.before i hlt))
      go_wp2
      go_loopw [7] (fun jv wr => ∃ j : Nat, j ≤ G ∧ jv = .int .i64 j ∧ w = wr) (fun jv _ => G - (intOf jv).toNat)
      case atStart => exact ⟨0, Nat.zero_le _, rfl, by first | rfl | trivial⟩
      case round =>
        obtain ⟨j, hj, rfl, rfl⟩ := hrel
        by_cases hlt2 : j < G
        · have hjl : j < l[i].groups.length := by rw [HGG.out]; exact hlt2
          obtain ⟨gg, og, cs, rfl, hgg, _, hE, hcg⟩ := HA.out.at rfl (j := j) hjl
          obtain ⟨gv, rfl, hgA⟩ := hE
          have gc0 := hcg 0 _ rfl
          rw [Nat.add_zero] at gc0
          have hstr := str_beq l[i].groups[j].name n
          rw [decide_eq_false (HB.out _ (List.getElem_mem hjl))] at hstr
          obtain ⟨gn, hgn⟩ : ∃ gn, l[i].groups[j].name = gn := ⟨_, rfl⟩
          rw [hgn] at hstr gc0
          have hms2 : G - (intOf (.int .i64 ((j : Int) + 1))).toNat < G - (intOf (.int .i64 (j : Int))).toNat := by simp [intOf]; omega
          have hjG : (j : Int) < (G : Int) := by omega
          clear hcg hgg hgA hgn
          go_wp2
          go_roundw
          case rel => exact ⟨j + 1, hlt2, by go_num, by first | rfl | trivial⟩
          case measure => exact hms2
        · have hjG : j = G := by omega
          subst hjG
          have hd : decide ((j : Int) < (j : Int)) = false := by simp
          go_wp2
          go_roundw
          case rel => exact ⟨i + 1, hlt, by go_num, by first | rfl | trivial⟩
          case measure => exact hms
    · obtain rfl : i = i0 := by omega
      have HB := Hd.mk (nameIn_no.1 HF.out.here)
      have HH : Hd (∀ j (hj : j < l[i].groups.length), j < g0 → l[i].groups[j].name ≠ n) := ⟨fun j hj h => by
        have h3 : j < (l[i].groups.take g0).length := by rw [List.length_take]; omega
        have h4 : (l[i].groups.take g0)[j] = l[i].groups[j] := List.getElem_take
        rw [← h4]; exact HB.out _ (List.getElem_mem h3)⟩
      have hg0 : g0 < G := by rw [← HGG.out]; exact HF.out.hg
      clear HB
      go_wp2
      go_loopw [7] (fun jv wr => ∃ j : Nat, j ≤ g0 ∧ jv = .int .i64 j ∧ w = wr) (fun jv _ => g0 + 1 - (intOf jv).toNat)
      case atStart => exact ⟨0, Nat.zero_le _, rfl, by first | rfl | trivial⟩
      case round =>
        obtain ⟨j, hj, rfl, rfl⟩ := hrel
        have hjl : j < l[i].groups.length := by rw [HGG.out]; omega
        obtain ⟨gg, og, cs, rfl, hgg, _, hE, hcg⟩ := HA.out.at rfl (j := j) hjl
        obtain ⟨gv, rfl, hgA⟩ := hE
        have gc0 := hcg 0 _ rfl
        rw [Nat.add_zero] at gc0
        have hstr := str_beq l[i].groups[j].name n
        have hjG : (j : Int) < (G : Int) := by omega
        by_cases hlt2 : j < g0
        · rw [decide_eq_false (HH.out j hjl hlt2)] at hstr
          obtain ⟨gn, hgn⟩ : ∃ gn, l[i].groups[j].name = gn := ⟨_, rfl⟩
          rw [hgn] at hstr gc0
          have hms2 : g0 + 1 - (intOf (.int .i64 ((j : Int) + 1))).toNat < g0 + 1 - (intOf (.int .i64 (j : Int))).toNat := by simp [intOf]; omega
          clear hcg hgg hgA hgn
          go_wp2
          go_roundw
          case rel => exact ⟨j + 1, hlt2, by go_num, by first | rfl | trivial⟩
          case measure => exact hms2
        · obtain rfl : j = g0 := by omega
          have hat := HF.out.at_
          rw [decide_eq_true hat] at hstr
          rw [hat] at hstr gc0
          clear hcg hgg hgA hat
          go_wp2
          go_ret2
          exact ⟨rfl, rfl⟩

theorem secs_take {o : Ob} {gr : Grp} {j : Nat} (h : j < gr.secs.length) : (gr.secs.take (j + 1)).filter (inB o.secs.length) = (gr.secs.take j).filter (inB o.secs.length) ++ if inB o.secs.length gr.secs[j] then [gr.secs[j]] else [] := by
  rw [List.take_succ_eq_append_getElem h, List.filter_append]
  congr 1
  by_cases e : inB o.secs.length gr.secs[j] <;> simp [e]
theorem intsV_app (a b : List Int) : intsV (a ++ b) = intsV a ++ intsV b := by simp [intsV]

set_option maxHeartbeats 4000000 in
set_option maxRecDepth 100000 in
theorem rsecs_any (w : World) (o : Ob) (x1 x2 x3 x4 x5 x6 x7 x8 x9 x10 : Value) (g : Nat) (hA : o.At w x1 x2 x3 x4 x5 x6 x7 x8 x9 x10) (hg : g < o.groups.length) (hl : o.secs.length ≤ 1000) (hgl : o.groups.length ≤ 1000) (hk : o.groups[g].secs.length ≤ 1000) (hok : ∀ s ∈ o.groups[g].secs, I64 s) :
    Calls Tryd.prog 20 #[.agg (o.cells x1 x2 x3 x4 x5 x6 x7 x8 x9 x10).toArray, .int .i64 g] w fun e w' => ∃ u, e = .returned u ∧ Own w' w.heap.size 3 u (intsV (secsOf o o.groups[g])) ∧ Below w.heap.size w w' := by
  obtain ⟨p1, c1, rfl⟩ := hA.secs.slice
  obtain ⟨p4, c4, rfl⟩ := hA.groups.slice
  obtain ⟨gg, og, cs, rfl, hgg, _, hE, hcg⟩ := hA.groups.at rfl (j := g) hg
  obtain ⟨gv, rfl, hgA⟩ := hE
  obtain ⟨pk, ck, rfl⟩ := hgA.secs.slice
  have gc1 := hcg 1 _ rfl
  have hKR := hgA.secs
  obtain ⟨gr, hgr⟩ : ∃ gr, o.groups[g] = gr := ⟨_, rfl⟩
  rw [hgr] at gc1 hKR hk hok ⊢
  have hcs : (o.cells (.slice p1 o.secs.length c1) x2 x3 (.slice (some ⟨gg, og, none⟩) o.groups.length c4) x5 x6 x7 x8 x9 x10).toArray = #[.string o.name, .slice p1 o.secs.length c1, x2, x3, .slice (some ⟨gg, og, none⟩) o.groups.length c4, x5, x6, x7, x8, x9, x10] := rfl
  rw [hcs]
  obtain ⟨N, hN⟩ : ∃ N, o.secs.length = N := ⟨_, rfl⟩
  obtain ⟨G, hG⟩ : ∃ G, o.groups.length = G := ⟨_, rfl⟩
  obtain ⟨K, hK⟩ : ∃ K, gr.secs.length = K := ⟨_, rfl⟩
  have HST := Hd.mk (fun j (h : j < gr.secs.length) => secs_take (o := o) h)
  have HSO : Hd (secsOf o gr = gr.secs.filter (inB o.secs.length)) := ⟨rfl⟩
  rw [hN] at HST HSO
  rw [hN, hG]
  rw [hK] at gc1 hKR hk
  rw [hN] at hl
  rw [hG] at hg hgl
  have HK := Hd.mk hK
  have HKR := Hd.mk hKR
  have HOk := Hd.mk hok
  obtain ⟨i0, hI⟩ := info_parts (show (Tryd.prog.info? 3).map (fun i => (i.zero, i.size, i.bytes)) = some (some (.int .i64 0), 1, 8) by kernel_rfl)
  have HI := Hd.mk hI
  clear hI
  obtain ⟨wb, hwb⟩ : ∃ wb, w.alloc (.cells #[.string o.name, .slice p1 N c1, x2, x3, .slice (some ⟨gg, og, none⟩) G c4, x5, x6, x7, x8, x9, x10] 43) = wb := ⟨_, rfl⟩
  have HB0 : Hd (Blk wb w.heap.size 43 [.string o.name, .slice p1 N c1, x2, x3, .slice (some ⟨gg, og, none⟩) G c4, x5, x6, x7, x8, x9, x10]) := ⟨hwb ▸ Blk.new w 43 _⟩
  have HW0 : Hd (Below w.heap.size w wb) := ⟨by rw [← hwb]; go_grown⟩
  have HGc := Hd.mk (And.intro gc1 hgg)
  obtain ⟨hx, hhx⟩ : ∃ hx, w.heap.size = hx := ⟨_, rfl⟩
  have HX := Hd.mk hhx
  rw [hhx] at HB0
  have hgG : (g : Int) < (G : Int) := by omega
  clear hA hcs hgA hcg hgg hgr hN hG hK hKR hok gc1
  go_enter Tryd.func20, Tryd.ntmps20
  go_upto_region 2 with (fail)
  clear hwb
  go_wp2
  go_loopw [5, 6] (fun ov iv wr => ∃ j : Nat, j ≤ K ∧ iv = .int .i64 j ∧ Hd (Own wr w.heap.size 3 ov (intsV ((gr.secs.take j).filter (inB N)))) ∧ Hd (Blk wr hx 43 [.string o.name, .slice p1 N c1, x2, x3, .slice (some ⟨gg, og, none⟩) G c4, x5, x6, x7, x8, x9, x10]) ∧ Hd (Below w.heap.size w wr)) (fun _ iv _ => K - (intOf iv).toNat)
  case atStart => exact ⟨0, Nat.zero_le _, rfl, ⟨Own.nil _ _ _⟩, HB0, HW0⟩
  case round =>
    obtain ⟨j, hj, rfl, HO, HBx, HW⟩ := hrel
    clear HB0 HW0
    have b1 := HBx.out.at (j := 1) rfl
    have b4 := HBx.out.at (j := 4) rfl
    have gc : wr.cell? ⟨gg, og + g * 2 + 1, none⟩ = some (.slice pk K ck) := by rw [HW.out.cell (p := ⟨gg, og + g * 2 + 1, none⟩) HGc.out.2]; exact HGc.out.1
    obtain ⟨fl, hfl⟩ : ∃ fl, (gr.secs.take j).filter (inB N) = fl := ⟨_, rfl⟩
    have hfll : fl.length ≤ 1000 := by
      rw [← hfl]
      refine Nat.le_trans (List.length_filter_le _ _) ?_
      rw [List.length_take, HK.out]; omega
    by_cases hlt : j < K
    · have hjl : j < gr.secs.length := by rw [HK.out]; exact hlt
      obtain ⟨gk, ok, cs, rfl, hgk, _, hE, hck⟩ := (HKR.out.below intE_stays HW.out).at rfl (j := j) hjl
      obtain rfl : cs = [.int .i64 gr.secs[j]] := hE
      have k0 := hck 0 _ rfl
      rw [Nat.mul_one, Nat.add_zero] at k0
      have hst := HST.out j hjl
      have hsI := HOk.out _ (List.getElem_mem hjl)
      obtain ⟨s, hs⟩ : ∃ s, gr.secs[j] = s := ⟨_, rfl⟩
      rw [hs] at k0 hst hsI
      rw [hfl] at hst HO
      have hms : K - (intOf (.int .i64 ((j : Int) + 1))).toNat < K - (intOf (.int .i64 (j : Int))).toNat := by simp [intOf]; omega
      have hjK : (j : Int) < (K : Int) := by omega
      have HSI := Hd.mk hsI
      clear hck hgk hs hfl hsI
      by_cases h0 : 0 ≤ s
      · have t0 : decide (0 ≤ s) = true := decide_eq_true h0
        by_cases hN : s < (N : Int)
        · have t1 : decide (s < (N : Int)) = true := decide_eq_true hN
          have hin : inB N s = true := by simp [inB, offB]; omega
          rw [hin, if_pos rfl] at hst
          have hl1 : (intsV fl).length + 1 ≤ maxLen := by rw [intsV_len]; unfold maxLen; omega
          have hl2 : ((intsV fl).length + 1) * 8 ≤ 140737488355328 := by rw [intsV_len]; omega
          have HST2 := Hd.mk hst
          have hB := HW.out.size
          clear hin hst
          go_wp2_with (at_builtin; refine wp_app1 rfl (Operand.tmp 37) (Operand.tmp 39) 45 rfl 3 Tryd.underlying45 HI.out.1 HI.out.2.1 HI.out.2.2.1 HI.out.2.2.2 rfl _ _ _ wr rfl HO.out rfl rfl hl1 hl2 hB ?_)
          intro v' w' hO' hK' _
          have HO' : Hd (Own w' w.heap.size 3 v' (intsV ((gr.secs.take (j + 1)).filter (inB N)))) := ⟨by rw [HST2.out, intsV_app, HX.out]; exact hO'⟩
          have HB' : Hd (Blk w' hx 43 [.string o.name, .slice p1 N c1, x2, x3, .slice (some ⟨gg, og, none⟩) G c4, x5, x6, x7, x8, x9, x10]) := ⟨hK'.blk HBx.out (fun e => by
            obtain ⟨c, f, hc⟩ := HO.out.typ e
            exact typ_ne hc HBx.out.is (by decide) rfl)⟩
          have HW' : Hd (Below w.heap.size w w') := ⟨HW.out.trans (hK'.below HW.out.size (fun x hx e => by have := (HO.out.lt e).1; omega))⟩
          clear hO' hK' hl1 hl2 hB
          go_wp2
          go_roundw
          case rel => exact ⟨j + 1, hlt, by go_num, HO', HB', HW'⟩
          case measure => exact hms
        · have t1 : decide (s < (N : Int)) = false := decide_eq_false hN
          have hin : inB N s = false := by simp [inB, offB]; omega
          rw [hin, if_neg (by simp), List.append_nil] at hst
          rw [← hst] at HO
          clear hin hst
          go_wp2
          go_roundw
          case rel => exact ⟨j + 1, hlt, by go_num, HO, HBx, HW⟩
          case measure => exact hms
      · have t0 : decide (0 ≤ s) = false := decide_eq_false h0
        have hin : inB N s = false := by simp [inB, offB]; omega
        rw [hin, if_neg (by simp), List.append_nil] at hst
        rw [← hst] at HO
        clear hin hst
        go_wp2
        go_roundw
        case rel => exact ⟨j + 1, hlt, by go_num, HO, HBx, HW⟩
        case measure => exact hms
    · have hjn : j = K := by omega
      subst hjn
      have hd : decide ((j : Int) < (j : Int)) = false := by simp
      have HO' : Hd (Own wr w.heap.size 3 u5 (intsV (secsOf o gr))) := ⟨by
        rw [HSO.out]
        have h := HO.out
        rwa [List.take_of_length_le (by rw [HK.out]; exact Nat.le_refl _)] at h⟩
      clear HO hfl
      go_wp2
      go_ret
      exact ⟨_, rfl, HO'.out, HW.out⟩

/-- bounds of one object -/
structure ObOk (o : Ob) : Prop where
  ok : o.Ok
  secs : o.secs.length ≤ 1000
  groups : o.groups.length ≤ 1000
  bytes : ∀ s ∈ o.secs, s.bytes.size ≤ 800000
  gsecs : ∀ g ∈ o.groups, g.secs.length ≤ 1000

/-- what Alike reads in a round -/
structure AlkC (w : World) (b1 b2 g1 g2 gs1 os1 gs2 os2 j a b : Nat) (cs1 cs2 : List Value) (n1 n2 : ByteArray) : Prop where
  b1 : Blk w b1 43 cs1
  b2 : Blk w b2 43 cs2
  k1 : w.cell? ⟨g1, j, none⟩ = some (.int .i64 (a : Int))
  k2 : w.cell? ⟨g2, j, none⟩ = some (.int .i64 (b : Int))
  n1 : w.cell? ⟨gs1, os1 + a * 6, none⟩ = some (.string n1)
  n2 : w.cell? ⟨gs2, os2 + b * 6, none⟩ = some (.string n2)
theorem AlkC.below {w w' : World} {b1 b2 g1 g2 gs1 os1 gs2 os2 j a b : Nat} {cs1 cs2 : List Value} {n1 n2 : ByteArray} (h : AlkC w b1 b2 g1 g2 gs1 os1 gs2 os2 j a b cs1 cs2 n1 n2) (hb : Below w.heap.size w w')
    (l1 : g1 < w.heap.size) (l2 : g2 < w.heap.size) (l3 : gs1 < w.heap.size) (l4 : gs2 < w.heap.size) : AlkC w' b1 b2 g1 g2 gs1 os1 gs2 os2 j a b cs1 cs2 n1 n2 :=
  ⟨h.b1.below hb h.b1.lt, h.b2.below hb h.b2.lt, (hb.cell (p := ⟨g1, j, none⟩) l1).trans h.k1, (hb.cell (p := ⟨g2, j, none⟩) l2).trans h.k2, (hb.cell (p := ⟨gs1, os1 + a * 6, none⟩) l3).trans h.n1, (hb.cell (p := ⟨gs2, os2 + b * 6, none⟩) l4).trans h.n2⟩

set_option maxHeartbeats 8000000 in
set_option maxRecDepth 100000 in
theorem ralike_any (w : World) (o1 o2 : Ob) (x1 x2 x3 x4 x5 x6 x7 x8 x9 x10 y1 y2 y3 y4 y5 y6 y7 y8 y9 y10 : Value) (i0 i g h : Nat) (hA1 : o1.At w x1 x2 x3 x4 x5 x6 x7 x8 x9 x10) (hA2 : o2.At w y1 y2 y3 y4 y5 y6 y7 y8 y9 y10) (hO1 : ObOk o1) (hO2 : ObOk o2) (hg : g < o1.groups.length) (hh : h < o2.groups.length) :
    Calls Tryd.prog 21 #[.agg (o1.cells x1 x2 x3 x4 x5 x6 x7 x8 x9 x10).toArray, .int .i64 g, .agg (o2.cells y1 y2 y3 y4 y5 y6 y7 y8 y9 y10).toArray, .int .i64 h] w fun e w' => e = .returned (.bool (alikeB (cpOf i0 o1 o1.groups[g]) (cpOf i o2 o2.groups[h]))) ∧ Below w.heap.size w w' := by
  obtain ⟨p1, c1, rfl⟩ := hA1.secs.slice
  obtain ⟨p2, c2, rfl⟩ := hA2.secs.slice
  have HS1 := Hd.mk (fun w' (hb : Below w.heap.size w w') => rsecs_any w' o1 _ x2 x3 x4 x5 x6 x7 x8 x9 x10 g (hA1.below hb) hg hO1.secs hO1.groups (hO1.gsecs _ (List.getElem_mem hg)) (hO1.ok.groupsI _ (List.getElem_mem hg)).secsI)
  have HS2 := Hd.mk (fun w' (hb : Below w.heap.size w w') => rsecs_any w' o2 _ y2 y3 y4 y5 y6 y7 y8 y9 y10 h (hA2.below hb) hh hO2.secs hO2.groups (hO2.gsecs _ (List.getElem_mem hh)) (hO2.ok.groupsI _ (List.getElem_mem hh)).secsI)
  have HF1 := Hd.mk (fun w' (hb : Below w.heap.size w w') (a : Nat) (ha : a < o1.secs.length) => rform_any w' o1 _ x2 x3 x4 x5 x6 x7 x8 x9 x10 (a : Int) (hA1.below hb) hO1.ok.secs hO1.ok.rels hO1.ok.secsI (fun s hs => by
    rw [secAt_in ha] at hs; exact hO1.bytes s (Option.some.inj hs ▸ List.getElem_mem _)))
  have HF2 := Hd.mk (fun w' (hb : Below w.heap.size w w') (a : Nat) (ha : a < o2.secs.length) => rform_any w' o2 _ y2 y3 y4 y5 y6 y7 y8 y9 y10 (a : Int) (hA2.below hb) hO2.ok.secs hO2.ok.rels hO2.ok.secsI (fun s hs => by
    rw [secAt_in ha] at hs; exact hO2.bytes s (Option.some.inj hs ▸ List.getElem_mem _)))
  have HA1 := Hd.mk hA1.secs
  have HA2 := Hd.mk hA2.secs
  have HLe := Hd.mk (alike_len (i0 := i0) (i := i) (o1 := o1) (o2 := o2) (g1 := o1.groups[g]) (g2 := o2.groups[h]))
  have HEn := Hd.mk (alike_end (i0 := i0) (i := i) (o1 := o1) (o2 := o2) (g1 := o1.groups[g]) (g2 := o2.groups[h]))
  have HIn1 := Hd.mk (fun s (hs : s ∈ secsOf o1 o1.groups[g]) => secsOf_in hs)
  have HIn2 := Hd.mk (fun s (hs : s ∈ secsOf o2 o2.groups[h]) => secsOf_in hs)
  have hn1 : (secsOf o1 o1.groups[g]).length ≤ 1000 := Nat.le_trans (secsOf_len _ _) (hO1.gsecs _ (List.getElem_mem hg))
  have hn2 : (secsOf o2 o2.groups[h]).length ≤ 1000 := Nat.le_trans (secsOf_len _ _) (hO2.gsecs _ (List.getElem_mem hh))
  obtain ⟨res, hres⟩ : ∃ r, alikeB (cpOf i0 o1 o1.groups[g]) (cpOf i o2 o2.groups[h]) = r := ⟨_, rfl⟩
  rw [hres] at HLe HEn
  rw [hres]
  obtain ⟨ks1, hk1⟩ : ∃ ks, secsOf o1 o1.groups[g] = ks := ⟨_, rfl⟩
  obtain ⟨ks2, hk2⟩ : ∃ ks, secsOf o2 o2.groups[h] = ks := ⟨_, rfl⟩
  rw [hk1] at HLe HEn HIn1 hn1 HS1
  rw [hk2] at HLe HEn HIn2 hn2 HS2
  have HNo := Hd.mk (fun j (h1 : j < ks1.length) (h2 : j < ks2.length) hh => hres ▸ alike_no2 (i0 := i0) (i := i) hk1 hk2 h1 h2 hh)
  have hcs1 : (o1.cells (.slice p1 o1.secs.length c1) x2 x3 x4 x5 x6 x7 x8 x9 x10).toArray = #[.string o1.name, .slice p1 o1.secs.length c1, x2, x3, x4, x5, x6, x7, x8, x9, x10] := rfl
  have hcs2 : (o2.cells (.slice p2 o2.secs.length c2) y2 y3 y4 y5 y6 y7 y8 y9 y10).toArray = #[.string o2.name, .slice p2 o2.secs.length c2, y2, y3, y4, y5, y6, y7, y8, y9, y10] := rfl
  rw [hcs1] at HS1 HF1
  rw [hcs2] at HS2 HF2
  rw [hcs1, hcs2]
  obtain ⟨N1, hN1⟩ : ∃ N, o1.secs.length = N := ⟨_, rfl⟩
  obtain ⟨N2, hN2⟩ : ∃ N, o2.secs.length = N := ⟨_, rfl⟩
  have HN := Hd.mk (And.intro hN1 hN2)
  rw [hN1] at HS1 HF1 HA1 HIn1
  rw [hN2] at HS2 HF2 HA2 HIn2
  rw [hN1, hN2]
  obtain ⟨n1, hl1⟩ : ∃ n, ks1.length = n := ⟨_, rfl⟩
  obtain ⟨n2, hl2⟩ : ∃ n, ks2.length = n := ⟨_, rfl⟩
  have HL := Hd.mk (And.intro hl1 hl2)
  rw [hl1] at HLe HEn hn1
  rw [hl2] at HLe HEn hn2
  obtain ⟨w1, hw1⟩ : ∃ w1, w.alloc (.cells #[.string o1.name, .slice p1 N1 c1, x2, x3, x4, x5, x6, x7, x8, x9, x10] 43) = w1 := ⟨_, rfl⟩
  have HW1 : Hd (Below w.heap.size w w1) := ⟨by rw [← hw1]; go_grown⟩
  have HB1 : Hd (Blk w1 w.heap.size 43 [.string o1.name, .slice p1 N1 c1, x2, x3, x4, x5, x6, x7, x8, x9, x10]) := ⟨hw1 ▸ Blk.new w 43 _⟩
  obtain ⟨w2, hw2⟩ : ∃ w2, w1.alloc (.cells #[.string o2.name, .slice p2 N2 c2, y2, y3, y4, y5, y6, y7, y8, y9, y10] 43) = w2 := ⟨_, rfl⟩
  have HW2 : Hd (Below w.heap.size w w2) := ⟨by rw [← hw2]; exact HW1.out.alloc HW1.out.size _⟩
  have HB2 : Hd (Blk w2 w1.heap.size 43 [.string o2.name, .slice p2 N2 c2, y2, y3, y4, y5, y6, y7, y8, y9, y10]) := ⟨hw2 ▸ Blk.new w1 43 _⟩
  have HB1' : Hd (Blk w2 w.heap.size 43 [.string o1.name, .slice p1 N1 c1, x2, x3, x4, x5, x6, x7, x8, x9, x10]) := ⟨hw2 ▸ HB1.out.alloc _⟩
  obtain ⟨b1, hb1⟩ : ∃ b, w.heap.size = b := ⟨_, rfl⟩
  obtain ⟨b2, hb2⟩ : ∃ b, w1.heap.size = b := ⟨_, rfl⟩
  rw [hb1] at HB1'
  rw [hb2] at HB2
  clear hA1 hA2 hO1 hO2 hres hk1 hk2 hcs1 hcs2 hN1 hN2 hl1 hl2 HB1 hg hh
  go_enter Tryd.func21, Tryd.ntmps21
  go_upto_region 1 with (fail)
  clear hw1 hw2
  have cc0 := HB1'.out.at (j := 0) rfl
  have cc1 := HB1'.out.at (j := 1) rfl
  have cc2 := HB1'.out.at (j := 2) rfl
  have cc3 := HB1'.out.at (j := 3) rfl
  have cc4 := HB1'.out.at (j := 4) rfl
  have cc5 := HB1'.out.at (j := 5) rfl
  have cc6 := HB1'.out.at (j := 6) rfl
  have cc7 := HB1'.out.at (j := 7) rfl
  have cc8 := HB1'.out.at (j := 8) rfl
  have cc9 := HB1'.out.at (j := 9) rfl
  have cc10 := HB1'.out.at (j := 10) rfl
  go_wp2_with fail
  refine (HS1.out w2 HW2.out).mono ?_
  rintro e w3 ⟨u1, rfl, hO1, hb3⟩
  have HW3 := Hd.mk (below_next HW2.out hb3)
  have HO1 := Hd.mk hO1
  have HB1b : Hd (Blk w3 b1 43 [.string o1.name, .slice p1 N1 c1, x2, x3, x4, x5, x6, x7, x8, x9, x10]) := ⟨HB1'.out.below hb3 HB1'.out.lt⟩
  have HB2b : Hd (Blk w3 b2 43 [.string o2.name, .slice p2 N2 c2, y2, y3, y4, y5, y6, y7, y8, y9, y10]) := ⟨HB2.out.below hb3 HB2.out.lt⟩
  clear cc0 cc1 cc2 cc3 cc4 cc5 cc6 cc7 cc8 cc9 cc10 hO1 hb3 HB1' HB2 HS1
  have cc0 := HB2b.out.at (j := 0) rfl
  have cc1 := HB2b.out.at (j := 1) rfl
  have cc2 := HB2b.out.at (j := 2) rfl
  have cc3 := HB2b.out.at (j := 3) rfl
  have cc4 := HB2b.out.at (j := 4) rfl
  have cc5 := HB2b.out.at (j := 5) rfl
  have cc6 := HB2b.out.at (j := 6) rfl
  have cc7 := HB2b.out.at (j := 7) rfl
  have cc8 := HB2b.out.at (j := 8) rfl
  have cc9 := HB2b.out.at (j := 9) rfl
  have cc10 := HB2b.out.at (j := 10) rfl
  go_wp2_with fail
  refine (HS2.out w3 HW3.out).mono ?_
  rintro e w4 ⟨u2, rfl, hO2, hb4⟩
  have HW4 := Hd.mk (below_next HW3.out hb4)
  have HO2 := Hd.mk hO2
  have HO1' : Hd (Own w4 w2.heap.size 3 u1 (intsV ks1)) := ⟨HO1.out.keeps (below_keeps hb4) (fun _ _ h => h)⟩
  have HB1c : Hd (Blk w4 b1 43 [.string o1.name, .slice p1 N1 c1, x2, x3, x4, x5, x6, x7, x8, x9, x10]) := ⟨HB1b.out.below hb4 HB1b.out.lt⟩
  have HB2c : Hd (Blk w4 b2 43 [.string o2.name, .slice p2 N2 c2, y2, y3, y4, y5, y6, y7, y8, y9, y10]) := ⟨HB2b.out.below hb4 HB2b.out.lt⟩
  clear cc0 cc1 cc2 cc3 cc4 cc5 cc6 cc7 cc8 cc9 cc10 hO2 hb4 HB1b HB2b HS2 HO1
  obtain ⟨q1, e1, hq1⟩ := HO1'.out.any
  obtain ⟨q2, e2, hq2⟩ := HO2.out.any
  rw [intsV_len, HL.out.1] at hq1
  rw [intsV_len, HL.out.2] at hq2
  subst hq1; subst hq2
  by_cases hne : n1 = n2
  · subst hne
    clear HLe
    go_wp2
    go_loopw [11] (fun iv wr => ∃ j : Nat, j ≤ n1 ∧ iv = .int .i64 j ∧ Hd (AlkTo o1 o2 ks1 ks2 j) ∧ Hd (Below w4.heap.size w4 wr)) (fun iv _ => n1 - (intOf iv).toNat)
    case atStart => exact ⟨0, Nat.zero_le _, rfl, ⟨AlkTo.zero _ _ _ _⟩, ⟨Below.refl _ _⟩⟩
    case round =>
      obtain ⟨j, hj, rfl, HAk, HWr⟩ := hrel
      by_cases hlt : j < n1
      · have hm1 : j < ks1.length := by rw [HL.out.1]; exact hlt
        have hm2 : j < ks2.length := by rw [HL.out.2]; exact hlt
        obtain ⟨gi1, ci1, hci⟩ := HO1'.out.slice (by rw [intsV_len]; omega)
        injection hci with hci1 hci2 hci3
        subst hci1; subst hci3; clear hci2
        obtain ⟨gi2, ci2, hci⟩ := HO2.out.slice (by rw [intsV_len]; omega)
        injection hci with hci1 hci2 hci3
        subst hci1; subst hci3; clear hci2
        have k1 := HO1'.out.cellAt (intsV_at hm1)
        have k2 := HO2.out.cellAt (intsV_at hm2)
        obtain ⟨ct1, ft1, ht1⟩ := HO1'.out.typ (g := gi1) rfl
        obtain ⟨ct2, ft2, ht2⟩ := HO2.out.typ (g := gi2) rfl
        have hi1 := HIn1.out _ (List.getElem_mem hm1)
        have hi2 := HIn2.out _ (List.getElem_mem hm2)
        have HSu := Hd.mk (fun hn hf => HAk.out.succ hm1 hm2 hn hf)
        have HNj := Hd.mk (HNo.out j hm1 hm2)
        obtain ⟨s1, hs1⟩ : ∃ s, ks1[j] = s := ⟨_, rfl⟩
        obtain ⟨s2, hs2⟩ : ∃ s, ks2[j] = s := ⟨_, rfl⟩
        rw [hs1] at k1 hi1 HSu HNj
        rw [hs2] at k2 hi2 HSu HNj
        obtain ⟨a, rfl⟩ := Int.eq_ofNat_of_zero_le hi1.1
        obtain ⟨b, rfl⟩ := Int.eq_ofNat_of_zero_le hi2.1
        have ha : a < N1 := by have := hi1.2; omega
        have hb : b < N2 := by have := hi2.2; omega
        obtain ⟨gs1, os1, cs, hp, hgs1, hcl1, hE, hcc⟩ := HA1.out.at rfl (j := a) (by rw [HN.out.1]; exact ha)
        obtain rfl := hp
        obtain rfl : cs = (o1.secs[a]'(by rw [HN.out.1]; exact ha)).cells := hE
        have q0 := hcc 0 _ rfl
        rw [Nat.add_zero] at q0
        have hnm : (o1.secs[a]'(by rw [HN.out.1]; exact ha)).name = nameS o1 (a : Int) := by unfold nameS secD; rw [secAt_in (by rw [HN.out.1]; exact ha)]
        replace q0 : w.cell? ⟨gs1, os1 + a * 6, none⟩ = some (.string (o1.secs[a]'(by rw [HN.out.1]; exact ha)).name) := q0
        rw [hnm] at q0
        obtain ⟨gs2, os2, cs, hp, hgs2, hcl2, hE, hcc2⟩ := HA2.out.at rfl (j := b) (by rw [HN.out.2]; exact hb)
        obtain rfl := hp
        obtain rfl : cs = (o2.secs[b]'(by rw [HN.out.2]; exact hb)).cells := hE
        have r0 := hcc2 0 _ rfl
        rw [Nat.add_zero] at r0
        have hnm2 : (o2.secs[b]'(by rw [HN.out.2]; exact hb)).name = nameS o2 (b : Int) := by unfold nameS secD; rw [secAt_in (by rw [HN.out.2]; exact hb)]
        replace r0 : w.cell? ⟨gs2, os2 + b * 6, none⟩ = some (.string (o2.secs[b]'(by rw [HN.out.2]; exact hb)).name) := r0
        rw [hnm2] at r0
        have HC4 : Hd (AlkC w4 b1 b2 gi1 gi2 gs1 os1 gs2 os2 j a b _ _ (nameS o1 (a : Int)) (nameS o2 (b : Int))) := ⟨HB1c.out, HB2c.out, k1, k2, (HW4.out.cell (p := ⟨gs1, os1 + a * 6, none⟩) hgs1).trans q0, (HW4.out.cell (p := ⟨gs2, os2 + b * 6, none⟩) hgs2).trans r0⟩
        have hlts := HW4.out.size
        have HCC := Hd.mk (fun w' (h : Below w4.heap.size w4 w') => HC4.out.below h (typ_lt ht1) (typ_lt ht2) (Nat.lt_of_lt_of_le hgs1 hlts) (Nat.lt_of_lt_of_le hgs2 hlts))
        have HFa := Hd.mk (fun w' (h : Below w4.heap.size w4 w') => HF1.out w' (below_next HW4.out h) a ha)
        have HFb := Hd.mk (fun w' (h : Below w4.heap.size w4 w') => HF2.out w' (below_next HW4.out h) b hb)
        have hf1 : (⟨(formL o1 (a : Int)).toArray⟩ : ByteArray) = formS o1 (a : Int) := rfl
        have hf2 : (⟨(formL o2 (b : Int)).toArray⟩ : ByteArray) = formS o2 (b : Int) := rfl
        rw [hf1] at HFa
        rw [hf2] at HFb
        obtain ⟨f1, ef1⟩ : ∃ f, formS o1 (a : Int) = f := ⟨_, rfl⟩
        obtain ⟨f2, ef2⟩ : ∃ f, formS o2 (b : Int) = f := ⟨_, rfl⟩
        obtain ⟨m1, em1⟩ : ∃ f, nameS o1 (a : Int) = f := ⟨_, rfl⟩
        obtain ⟨m2, em2⟩ : ∃ f, nameS o2 (b : Int) = f := ⟨_, rfl⟩
        rw [ef1] at HFa
        rw [ef2] at HFb
        rw [em1, em2] at HCC
        have HSu' : Hd (m1 = m2 → f1 = f2 → AlkTo o1 o2 ks1 ks2 (j + 1)) := ⟨fun h1 h2 => HSu.out (em1.trans (h1.trans em2.symm)) (ef1.trans (h2.trans ef2.symm))⟩
        have HNj' : Hd (¬ (m1 = m2 ∧ f1 = f2) → res = false) := ⟨fun hh => HNj.out (fun x => hh ⟨em1.symm.trans (x.1.trans em2), ef1.symm.trans (x.2.trans ef2)⟩)⟩
        have haN : (a : Int) < (N1 : Int) := by omega
        have hbN : (b : Int) < (N2 : Int) := by omega
        have hjn : (j : Int) < (n1 : Int) := by omega
        have hms : n1 - (intOf (.int .i64 ((j : Int) + 1))).toNat < n1 - (intOf (.int .i64 (j : Int))).toNat := by simp [intOf]; omega
        clear hcl1 hcl2 hm1 hm2 k1 k2 ht1 ht2 hi1 hi2 HSu HNj hs1 hs2 ha hb hgs1 hcc q0 hnm hgs2 hcc2 r0 hnm2 HC4 hlts hf1 hf2 ef1 ef2 em1 em2 HAk
        have hSd : Below w4.heap.size w4 wr.drew := HWr.out.trans (Below.refl _ _).drew
        by_cases hnn : m1 = m2
        · have hsn := str_beq m1 m2
          rw [decide_eq_true hnn] at hsn
          have HNN := Hd.mk hnn
          clear hnn
          go_wp2_with fail
          refine wp_region_lin default (fun w' => Below w4.heap.size w4 w') [(0, true), (1, true), (2, true), (3, true), (4, true), (5, true), (6, true), (7, true), (8, true), (9, true), (10, true), (11, true), (12, true), (13, true), (14, true), (15, true), (16, true), (17, true), (18, true), (19, true), (20, true), (21, true), (22, true), (23, true), (24, true), (26, true), (27, true), (28, true), (29, true), (30, true), (25, false), (31, false), (32, true), (33, true)] (by kernel_rfl) (by kernel_rfl) rfl (by kernel_rfl) (by kernel_rfl) hSd ?_
          simp only [pick, List.getD_cons_zero, List.getD_cons_succ]
          repeat
            refine lin_free (v := ?_) (by rfl) ?_ ?_
            rotate_left
            · intro w' hSw
              obtain ⟨hb1', hb2', k1, k2, n1', n2'⟩ := HCC.out w' hSw
              have c0 := hb1'.at (j := 0) rfl
              have d0 := hb2'.at (j := 0) rfl
              have c1 := hb1'.at (j := 1) rfl
              have d1 := hb2'.at (j := 1) rfl
              have c2 := hb1'.at (j := 2) rfl
              have d2 := hb2'.at (j := 2) rfl
              have c3 := hb1'.at (j := 3) rfl
              have d3 := hb2'.at (j := 3) rfl
              have c4 := hb1'.at (j := 4) rfl
              have d4 := hb2'.at (j := 4) rfl
              have c5 := hb1'.at (j := 5) rfl
              have d5 := hb2'.at (j := 5) rfl
              have c6 := hb1'.at (j := 6) rfl
              have d6 := hb2'.at (j := 6) rfl
              have c7 := hb1'.at (j := 7) rfl
              have d7 := hb2'.at (j := 7) rfl
              have c8 := hb1'.at (j := 8) rfl
              have d8 := hb2'.at (j := 8) rfl
              have c9 := hb1'.at (j := 9) rfl
              have d9 := hb2'.at (j := 9) rfl
              have c10 := hb1'.at (j := 10) rfl
              have d10 := hb2'.at (j := 10) rfl
              go_simp
              first | done | with_reducible rfl
            simp only [Act.put, List.setIfInBounds_toArray, List.set_cons_zero, List.set_cons_succ]
          refine lin_bound (fun K hK => ?_)
          go_simp
          refine (HFa.out _ hSd).mono ?_
          rintro e w5 ⟨rfl, k5⟩
          dsimp only
          have hS5 : Below w4.heap.size w4 w5 := below_next hSd k5
          refine hK.out _ _ hS5 ?_
          clear hK K k5
          refine lin_bound (fun K hK => ?_)
          go_simp
          refine (HFb.out _ hS5).mono ?_
          rintro e w6 ⟨rfl, k6⟩
          dsimp only
          have hS6 : Below w4.heap.size w4 w6 := below_next hS5 k6
          refine hK.out _ _ hS6 ?_
          clear hK K k6
          have hsf := str_beq f1 f2
          by_cases hff : f1 = f2
          · rw [decide_eq_true hff] at hsf
            have HAk2 := Hd.mk (HSu'.out HNN.out hff)
            have HS6 := Hd.mk hS6
            clear hff hSd hS5 hS6
            repeat
              refine lin_free (v := ?_) (by rfl) ?_ ?_
              rotate_left
              · intro w' hSw
                go_simp
                first | done | with_reducible rfl
              simp only [Act.put, List.setIfInBounds_toArray, List.set_cons_zero, List.set_cons_succ]
            refine NoPanic.normal ?_
            go_wp2
            go_roundw
            case rel => exact ⟨j + 1, hlt, by go_num, HAk2, HS6⟩
            case measure => exact hms
          · rw [decide_eq_false hff] at hsf
            obtain rfl := HNj'.out (fun x => hff x.2)
            have HS6 := Hd.mk (below_next HW4.out hS6)
            clear hff hSd hS5 hS6
            repeat
              refine lin_free (v := ?_) (by rfl) ?_ ?_
              rotate_left
              · intro w' hSw
                go_simp
                first | done | with_reducible rfl
              simp only [Act.put, List.setIfInBounds_toArray, List.set_cons_zero, List.set_cons_succ]
            refine NoPanic.normal ?_
            go_wp2
            go_ret
            exact ⟨rfl, by first | exact HS6.out | (rw [← hb1]; exact HS6.out)⟩
        · obtain rfl := HNj'.out (fun x => hnn x.1)
          have hsn := str_beq m1 m2
          rw [decide_eq_false hnn] at hsn
          have HQ : Hd (∀ q, Below w4.heap.size w4 (wr.drewN q)) := ⟨fun q => below_next HWr.out (below_drewN wr q)⟩
          have r1 : ∀ q, (wr.drewN q).cell? ⟨b1, 1, none⟩ = some (.slice (some ⟨gs1, os1, none⟩) N1 c1) := fun q => (HCC.out _ (HQ.out q)).b1.at (j := 1) rfl
          have r2 : ∀ q, (wr.drewN q).cell? ⟨b2, 1, none⟩ = some (.slice (some ⟨gs2, os2, none⟩) N2 c2) := fun q => (HCC.out _ (HQ.out q)).b2.at (j := 1) rfl
          have r3 : ∀ q, (wr.drewN q).cell? ⟨gi1, j, none⟩ = some (.int .i64 (a : Int)) := fun q => (HCC.out _ (HQ.out q)).k1
          have r4 : ∀ q, (wr.drewN q).cell? ⟨gi2, j, none⟩ = some (.int .i64 (b : Int)) := fun q => (HCC.out _ (HQ.out q)).k2
          have r5 : ∀ q, (wr.drewN q).cell? ⟨gs1, os1 + a * 6, none⟩ = some (.string m1) := fun q => (HCC.out _ (HQ.out q)).n1
          have r6 : ∀ q, (wr.drewN q).cell? ⟨gs2, os2 + b * 6, none⟩ = some (.string m2) := fun q => (HCC.out _ (HQ.out q)).n2
          clear hnn hSd
          go_wp2_with fail
          go_quiet (fail)
          go_wp2
          go_ret
          exact ⟨rfl, by first | exact below_next HW4.out (HQ.out _) | (rw [← hb1]; exact below_next HW4.out (HQ.out _))⟩
      · have hjn : j = n1 := by omega
        subst hjn
        obtain rfl := HEn.out (by trivial) HAk.out
        have hd : decide ((j : Int) < (j : Int)) = false := by simp
        have HB := Hd.mk (below_next HW4.out HWr.out)
        go_wp2
        go_ret
        exact ⟨rfl, by first | exact HB.out | (rw [← hb1]; exact HB.out)⟩
  · obtain rfl := HLe.out hne
    have tne : ((n1 : Int) != (n2 : Int)) = true := by simp; omega
    go_wp2
    go_ret
    exact ⟨rfl, by first | exact HW4.out | (rw [← hb1]; exact HW4.out)⟩

end Go.Proofs.YtimbhnnidohmaaaDoor.W

/-
  The reference's Keep; GroupTells.
-/
namespace Go.Proofs.YtimbhnnidohmaaaDoor.W
open Go.RowKit
set_option linter.unusedVariables false

theorem ROSt.mid {w wi wr : World} {kpv dv0 kpt dv : Value} {keep : List (List Bool)} {differ0 : List Df} {kept : List Bool} {differ : List Df} (h : ROSt w wi kpv dv0 keep differ0) (hm : RMt wi wr dv0 kpt dv kept differ) : Below w.heap.size w wr :=
  h.K.trans (hm.K.below h.K.size (fun x hx e => by have := h.db x e; omega))
theorem KeepOk.ob {l : List Ob} (h : KeepOk l) {o : Ob} (ho : o ∈ l) : ObOk o := ⟨h.ok o ho, h.secs o ho, h.groups o ho, h.bytes o ho, h.gsecs o ho⟩

set_option maxHeartbeats 8000000 in
set_option maxRecDepth 100000 in
theorem rkeep_any (w : World) (v : Value) (l : List Ob) (hR : Rw 11 Ob.E w v l) (hO : KeepOk l) :
    Calls Tryd.prog 10 #[v] w fun e w' => ∃ kpv dv, e = .returned (.tuple #[kpv, dv]) ∧ ROSt w w' kpv dv (keepR l).keep (keepR l).differ := by
  obtain ⟨p, c, rfl⟩ := hR.slice
  have HR := Hd.mk hR
  have HO := Hd.mk hO
  obtain ⟨M, hM⟩ : ∃ M, l.length = M := ⟨_, rfl⟩
  have HM := Hd.mk hM
  have hMl : M ≤ 1000 := by rw [← hM]; exact hO.len
  rw [hM] at HR
  rw [hM]
  have HS0 := Hd.mk (ROSt.start w)
  clear hR hO hM
  go_enter Tryd.func10, Tryd.ntmps10
  go_wp2
  go_loopw [4, 5, 6] (fun kv dv iv wr => ∃ i : Nat, i ≤ M ∧ iv = .int .i64 i ∧ Hd (ROSt w wr kv dv (keepR (l.take i)).keep (keepR (l.take i)).differ)) (fun _ _ iv _ => M - (intOf iv).toNat)
  case atStart => exact ⟨0, Nat.zero_le _, rfl, HS0⟩
  case round =>
    clear HS0
    obtain ⟨i, hi, rfl, HS⟩ := hrel
    obtain ⟨kpv, hkpv⟩ : ∃ k, k = u4 := ⟨_, rfl⟩
    subst hkpv
    obtain ⟨dv0, hdv0⟩ : ∃ k, k = u5 := ⟨_, rfl⟩
    subst hdv0
    by_cases hlt : i < M
    · have hil : i < l.length := by rw [HM.out]; exact hlt
      obtain ⟨g, of, cs, rfl, hg, hcl, hcE, hcc⟩ := HR.out.at rfl (j := i) hil
      clear hcl hcE hcc
      obtain ⟨x1, x2, x3, x4, x5, x6, x7, x8, x9, x10, hA, hC0⟩ := HR.out.objAt hil
      have hmo := List.getElem_mem hil
      have HOb := Hd.mk (HO.out.ob hmo)
      have HEnd := Hd.mk (midSt_end hil)
      have HLen := Hd.mk (keepR_len HO.out i (Nat.le_of_lt hil))
      have HG := Hd.mk hg
      have hms : M - (intOf (.int .i64 ((i : Int) + 1))).toNat < M - (intOf (.int .i64 (i : Int))).toNat := by simp [intOf]; omega
      have hiM : (i : Int) < (M : Int) := by omega
      obtain ⟨p1, c1, rfl⟩ := hA.secs.slice
      obtain ⟨p4, c4, rfl⟩ := hA.groups.slice
      have HA := Hd.mk hA
      have HC := Hd.mk hC0
      have hNl : l[i].secs.length ≤ 1000 := HOb.out.secs
      have hGl : l[i].groups.length ≤ 1000 := HOb.out.groups
      obtain ⟨N, hN⟩ : ∃ N, l[i].secs.length = N := ⟨_, rfl⟩
      obtain ⟨G, hG⟩ : ∃ G, l[i].groups.length = G := ⟨_, rfl⟩
      have HNG := Hd.mk (And.intro hN hG)
      rw [hN, hG] at HA HC
      rw [hN] at hNl
      rw [hG] at hGl
      have HCC := Hd.mk (fun w' (h : Below w.heap.size w w') => HC.out.below h HG.out)
      clear hA hC0 hmo hN hG hg
      obtain ⟨wi, hwi⟩ : ∃ wi, wi = wr := ⟨_, rfl⟩
      subst hwi
      have HM0 := Hd.mk HS.out.begin
      go_wp2
      go_loopw [7, 8] (fun kt sv wr => ∃ s : Nat, s ≤ N ∧ sv = .int .i64 s ∧ Hd (RMt wi wr dv0 kt dv0 (List.replicate s true) (keepR (l.take i)).differ)) (fun _ sv _ => N - (intOf sv).toNat)
      case atStart => exact ⟨0, Nat.zero_le _, rfl, HM0⟩
      case round =>
        clear HM0
        obtain ⟨s, hs, rfl, HMs⟩ := hrel
        have hbl := HS.out.mid HMs.out
        obtain ⟨d0, d1, d2, d3, d4, d5, d6, d7, d8, d9, d10⟩ := HCC.out wr hbl
        by_cases hlt2 : s < N
        · obtain ⟨v7, w7, hr7, hM7⟩ := HMs.out.push (by rw [List.length_replicate]; omega)
          have HM7 : Hd (RMt wi w7 dv0 v7 dv0 (List.replicate (s + 1) true) (keepR (l.take i)).differ) := ⟨by rw [List.replicate_succ']; exact hM7⟩
          have hms2 : N - (intOf (.int .i64 ((s : Int) + 1))).toNat < N - (intOf (.int .i64 (s : Int))).toNat := by simp [intOf]; omega
          have hsN : (s : Int) < (N : Int) := by omega
          clear hM7 hbl d0 d2 d3 d4 d5 d6 d7 d8 d9 d10
          go_wp2_with (at_builtin; refine wp_append_run rfl (Operand.tmp 31) (Operand.tmp 32) 31 rfl _ _ (wr.alloc (.cells #[.bool true] 4)) rfl rfl hr7 ?_)
          go_wp2
          go_roundw
          case rel => exact ⟨s + 1, hlt2, by go_num, HM7⟩
          case measure => exact hms2
        · have hsn : s = N := by omega
          have hd : decide ((s : Int) < (N : Int)) = false := decide_eq_false (by omega)
          have HMa : Hd (RMt wi wr dv0 u7 dv0 (midSt l i l[i] 0).kept (midSt l i l[i] 0).differ) := ⟨by rw [midSt_zero, HNG.out.1, ← hsn]; exact HMs.out⟩
          clear hsn HMs hbl d0 d2 d3 d5 d6 d7 d8 d9 d10
          go_wp2
          obtain ⟨kpt, hkpt⟩ : ∃ k, k = u7 := ⟨_, rfl⟩
          subst hkpt
          go_loopw [5, 9] (fun dv gv wr => ∃ j : Nat, j ≤ G ∧ gv = .int .i64 j ∧ Hd (RMt wi wr dv0 kpt dv (midSt l i l[i] j).kept (midSt l i l[i] j).differ)) (fun _ gv _ => G - (intOf gv).toNat)
          case atStart => exact ⟨0, Nat.zero_le _, rfl, HMa⟩
          case round =>
            clear HMa
            obtain ⟨j, hj, rfl, HMj⟩ := hrel
            obtain ⟨dv, hdv⟩ : ∃ k, k = u5 := ⟨_, rfl⟩
            subst hdv
            have hbl := HS.out.mid HMj.out
            by_cases hlt3 : j < G
            · have hjl : j < l[i].groups.length := by rw [HNG.out.2]; exact hlt3
              obtain ⟨i0, g0, hF, hle⟩ := first_exists hil hjl
              obtain ⟨gg, og, cs, rfl, hgg, hcl, hE, hcg⟩ := HA.out.groups.at rfl (j := j) hjl
              obtain ⟨gv, rfl, hgA⟩ := hE
              have n0 := hcg 0 _ rfl
              rw [Nat.add_zero] at n0
              have q0 : wr.cell? ⟨gg, og + j * 2, none⟩ = some (.string l[i].groups[j].name) := (hbl.cell (p := ⟨gg, og + j * 2, none⟩) hgg).trans n0
              obtain ⟨d0, d1, d2, d3, d4, d5, d6, d7, d8, d9, d10⟩ := HCC.out wr hbl
              have HFi := Hd.mk (rfirst_any wr _ l _ i0 g0 (HR.out.below Ob.stays hbl) (Nat.le_trans HO.out.len (by decide)) (fun o ho => HO.out.groups o ho) hF)
              have hi0 : i0 < M := by have := hF.hi; rw [HM.out] at this; exact this
              obtain ⟨nm, hnm⟩ : ∃ nm, l[i].groups[j].name = nm := ⟨_, rfl⟩
              rw [hnm] at q0 HFi hF
              have HF := Hd.mk hF
              have HNm := Hd.mk hnm
              have hms3 : G - (intOf (.int .i64 ((j : Int) + 1))).toNat < G - (intOf (.int .i64 (j : Int))).toNat := by simp [intOf]; omega
              have hjG : (j : Int) < (G : Int) := by omega
              have HBl := Hd.mk hbl
              clear hcl hcg hgg hgA n0 hnm hbl hF
              by_cases hsame : i0 = i ∧ g0 = j
              · obtain ⟨rfl, rfl⟩ := hsame
                have hst := rstep_same' hil hjl HNm.out HF.out
                have HMj2 : Hd (RMt wi wr dv0 kpt dv (midSt l i0 l[i0] (g0 + 1)).kept (midSt l i0 l[i0] (g0 + 1)).differ) := ⟨by rw [hst.1, hst.2]; exact HMj.out⟩
                clear hst HMj
                go_wp2_with fail
                refine HFi.out.mono ?_
                rintro e w' ⟨rfl, rfl⟩
                go_wp2
                go_roundw
                case rel => exact ⟨g0 + 1, hlt3, by go_num, HMj2⟩
                case measure => exact hms3
              · have hlt0 : i0 < i ∨ (i0 = i ∧ g0 < j) := by omega
                have hst := rstep_other' hil hjl HNm.out HF.out hlt0
                have hi0l : i0 < l.length := HF.out.hi
                have hg0l : g0 < l[i0].groups.length := HF.out.hg
                obtain ⟨y1, y2, y3, y4, y5, y6, y7, y8, y9, y10, hB, hCB⟩ := HR.out.objAt hi0l
                have HCB := Hd.mk (fun w' (h : Below w.heap.size w w') => hCB.below h HG.out)
                have HSec := Hd.mk (fun w' (h : Below w.heap.size w w') => rsecs_any w' l[i] (.slice p1 N c1) x2 x3 (.slice (some ⟨gg, og, none⟩) G c4) x5 x6 x7 x8 x9 x10 j (HA.out.below h) hjl HOb.out.secs HOb.out.groups (HOb.out.gsecs _ (List.getElem_mem hjl)) (HOb.out.ok.groupsI _ (List.getElem_mem hjl)).secsI)
                have HAlk := Hd.mk (fun w' (h : Below w.heap.size w w') => ralike_any w' l[i0] l[i] y1 y2 y3 y4 y5 y6 y7 y8 y9 y10 (.slice p1 N c1) x2 x3 (.slice (some ⟨gg, og, none⟩) G c4) x5 x6 x7 x8 x9 x10 i0 i g0 j (hB.below h) (HA.out.below h) (HO.out.ob (List.getElem_mem hi0l)) HOb.out hg0l hjl)
                have hcs1 : (l[i].cells (.slice p1 N c1) x2 x3 (.slice (some ⟨gg, og, none⟩) G c4) x5 x6 x7 x8 x9 x10).toArray = #[.string l[i].name, .slice p1 N c1, x2, x3, .slice (some ⟨gg, og, none⟩) G c4, x5, x6, x7, x8, x9, x10] := rfl
                have hcs2 : (l[i0].cells y1 y2 y3 y4 y5 y6 y7 y8 y9 y10).toArray = #[.string l[i0].name, y1, y2, y3, y4, y5, y6, y7, y8, y9, y10] := rfl
                rw [hcs1] at HSec HAlk
                rw [hcs2] at HAlk
                have hLKl : (secsOf l[i] l[i].groups[j]).length ≤ 1000 := Nat.le_trans (secsOf_len _ _) (HOb.out.gsecs _ (List.getElem_mem hjl))
                have HIn := Hd.mk (fun s (hs : s ∈ secsOf l[i] l[i].groups[j]) => secsOf_in hs)
                have HKl := Hd.mk (midSt_kept_len l i l[i] j (Nat.le_of_lt hjl))
                have HDl := Hd.mk (midSt_len l i l[i] j (Nat.le_of_lt hjl)).2
                obtain ⟨r, hr⟩ : ∃ r, alikeB (cpOf i0 l[i0] l[i0].groups[g0]) (cpOf i l[i] l[i].groups[j]) = r := ⟨_, rfl⟩
                rw [hr] at HAlk hst
                obtain ⟨ks, hks⟩ : ∃ ks, secsOf l[i] l[i].groups[j] = ks := ⟨_, rfl⟩
                rw [hks] at HSec hst hLKl HIn
                obtain ⟨κk, hκk⟩ : ∃ k, (midSt l i l[i] j).kept = k := ⟨_, rfl⟩
                obtain ⟨δ, hδ⟩ : ∃ k, (midSt l i l[i] j).differ = k := ⟨_, rfl⟩
                rw [hκk, hδ] at hst HMj
                rw [hκk] at HKl
                rw [hδ] at HDl
                rw [HNG.out.1] at HIn HKl
                obtain ⟨LK, hLK⟩ : ∃ n, ks.length = n := ⟨_, rfl⟩
                have HLK := Hd.mk hLK
                rw [hLK] at hLKl
                have HSt := Hd.mk hst
                have hδl : δ.length ≤ 1000000 := by have h1 := HLen.out.2.1; have h2 := HDl.out; omega
                clear hst hB hCB hcs1 hcs2 hr hks hκk hδ hLK
                have hi0M : (i0 : Int) < (M : Int) := by omega
                by_cases hi0i : i0 = i
                · have g0j : ¬ g0 = j := fun e => hsame ⟨hi0i, e⟩
                  have tA : ((i0 : Int) == (i : Int)) = true := by simp [hi0i]
                  have tA2 : (i0 == i) = true := by simp [hi0i]
                  have tA3 : decide (i0 = i) = true := decide_eq_true hi0i
                  have tA4 : decide ((i0 : Int) = (i : Int)) = true := by simp [hi0i]
                  have tB : ((g0 : Int) == (j : Int)) = false := by simp; omega
                  have tB2 : (g0 == j) = false := by simp [g0j]
                  clear hi0i hsame hlt0
                  go_wp2_with fail
                  refine HFi.out.mono ?_
                  rintro e w' ⟨rfl, rfl⟩
                  go_wp2_with fail
                  refine (HSec.out wr HBl.out).mono ?_
                  rintro e w5 ⟨u, rfl, hOw, hb5⟩
                  have HM5 := Hd.mk (HMj.out.next (below_keeps hb5))
                  have HO5 := Hd.mk hOw
                  obtain ⟨psv, csv, hu⟩ := hOw.any
                  rw [intsV_len, HLK.out] at hu
                  subst hu
                  clear hOw hb5 HSec HMj HFi HBl d0 d1 d2 d3 d4 d5 d6 d7 d8 d9 d10 q0
                  go_wp2
                  go_loopw [14] (fun mv wr => ∃ m : Nat, m ≤ LK ∧ mv = .int .i64 m ∧ Hd (RMt wi wr dv0 kpt dv (dropAll κk (ks.take m)) δ) ∧ Hd (Keeps (fun x => kpt.ownBlock = some x) w5 wr)) (fun mv _ => LK - (intOf mv).toNat)
                  case atStart => exact ⟨0, Nat.zero_le _, rfl, HM5, ⟨Keeps.refl _ _⟩⟩
                  case round =>
                    have HM5k := Hd.mk HM5.out.k
                    clear HM5
                    obtain ⟨m, hm, rfl, HMm, HKm⟩ := hrel
                    by_cases hlt4 : m < LK
                    · have hml : m < ks.length := by rw [HLK.out]; exact hlt4
                      have hsin := HIn.out _ (List.getElem_mem hml)
                      have hdr := dropAll_take ks κk m hml
                      obtain ⟨gi, ci, hci⟩ := HO5.out.slice (by rw [intsV_len]; omega)
                      injection hci with hci1 hci2 hci3
                      subst hci1; subst hci3; clear hci2
                      obtain ⟨curi, fzi, hbi⟩ := HO5.out.typ (g := gi) rfl
                      have hcs0 := HO5.out.cellAt (intsV_at hml)
                      obtain ⟨s, hs⟩ : ∃ s, ks[m] = s := ⟨_, rfl⟩
                      rw [hs] at hsin hdr hcs0
                      obtain ⟨k, rfl⟩ := Int.eq_ofNat_of_zero_le hsin.1
                      have hkN : k < N := by have h1 := hsin.2; omega
                      have hkl : (dropAll κk (ks.take m)).length = N := by rw [dropAll_len, HKl.out]
                      have hbl : (boolsV (dropAll κk (ks.take m))).length = N := by rw [boolsV_len]; exact hkl
                      obtain ⟨gk, capk, hkp⟩ := HMm.out.k.slice (by rw [hbl]; omega)
                      rw [hbl] at hkp
                      subst hkp
                      obtain ⟨curk, fzk, hbk⟩ := HM5k.out.typ (g := gk) rfl
                      have hgne : gi ≠ gk := typ_ne hbi hbk (by decide)
                      obtain ⟨bk, ck⟩ : ∃ bk, wr.cell? ⟨gk, k, none⟩ = some (.bool bk) := ⟨_, HMm.out.k.cellAt (boolsV_at (l := dropAll κk (ks.take m)) (j := k) (by rw [hkl]; exact hkN))⟩
                      have fk := HMm.out.k.freeAt (j := k) (by rw [hbl]; exact hkN)
                      have cs0 : wr.cell? ⟨gi, m, none⟩ = some (.int .i64 (k : Int)) := by
                        rw [World.cell?_of_block (a := ⟨gi, m, none⟩) (HKm.out.block gi (typ_lt hbi) (fun e => hgne (by injection e with e; exact e.symm)))]
                        exact hcs0
                      have HM2 := Hd.mk (HMm.out.strike rfl k)
                      have HM3 : Hd (RMt wi (wr.setCell ⟨gk, k, none⟩ (.bool false)) dv0 (.slice (some ⟨gk, 0, none⟩) N capk) dv (dropAll κk (ks.take (m + 1))) δ) := ⟨by rw [hdr]; exact HM2.out⟩
                      have HK3' : Hd (Keeps (fun x => (Value.slice (some ⟨gk, 0, none⟩) N capk).ownBlock = some x) w5 (wr.setCell ⟨gk, k, none⟩ (.bool false))) := ⟨HKm.out.setCell (p := ⟨gk, k, none⟩) (.inr rfl) _⟩
                      have hms4 : LK - (intOf (.int .i64 ((m : Int) + 1))).toNat < LK - (intOf (.int .i64 (m : Int))).toNat := by simp [intOf]; omega
                      have hkNi : (k : Int) < (N : Int) := by omega
                      have hmLi : (m : Int) < (LK : Int) := by omega
                      clear HM2 hdr hs hcs0 hbi hbk hgne hkl hbl hsin hml
                      go_wp2
                      go_roundw
                      case rel => exact ⟨m + 1, hlt4, by go_num, HM3, HK3'⟩
                      case measure => exact hms4
                    · have hmL : m = LK := by omega
                      subst hmL
                      have hd : decide ((m : Int) < (m : Int)) = false := by simp
                      have hfull : ks.take m = ks := by rw [← HLK.out, List.take_length]
                      rw [hfull] at HMm
                      have hBk := HS.out.mid HMm.out
                      have HMd := Hd.mk (HMm.out.next ((Keeps.refl (fun _ => False) wr).drew))
                      have hSd : Below w.heap.size w wr.drew := hBk.trans (Below.refl _ _).drew
                      clear hfull HM5k HKm HMm HO5 hBk
                      go_wp2_with fail
                      refine wp_region_lin default (fun w' => Below w.heap.size w w') [(0, true), (1, true), (2, true), (3, true), (4, true), (5, true), (6, true), (7, true), (8, true), (9, true), (10, false), (11, true)] (by kernel_rfl) (by kernel_rfl) rfl (by kernel_rfl) (by kernel_rfl) hSd ?_
                      simp only [pick, List.getD_cons_zero, List.getD_cons_succ]
                      repeat
                        refine lin_free (v := ?_) (by rfl) ?_ ?_
                        rotate_left
                        · intro w' hSw
                          obtain ⟨c0, c1', c2, c3, c4', c5, c6, c7, c8, c9, c10⟩ := HCC.out w' hSw
                          obtain ⟨e0, e1, e2, e3, e4, e5, e6, e7, e8, e9, e10⟩ := HCB.out w' hSw
                          go_simp
                          first | done | with_reducible rfl
                        simp only [Act.put, List.setIfInBounds_toArray, List.set_cons_zero, List.set_cons_succ]
                      refine lin_bound (fun K hK => ?_)
                      go_simp
                      refine (HAlk.out _ hSd).mono ?_
                      rintro e w6 ⟨rfl, k6⟩
                      dsimp only
                      have hS6 : Below w.heap.size w w6 := below_next hSd k6
                      have HM6 := Hd.mk (HMd.out.next (below_keeps k6))
                      refine hK.out _ _ hS6 ?_
                      clear hK K k6 HMd hSd
                      repeat
                        refine lin_free (v := ?_) (by rfl) ?_ ?_
                        rotate_left
                        · intro w' hSw
                          go_simp
                          first | done | with_reducible rfl
                        simp only [Act.put, List.setIfInBounds_toArray, List.set_cons_zero, List.set_cons_succ]
                      refine NoPanic.normal ?_
                      clear hS6
                      cases r with
                      | true =>
                        have HM7 : Hd (RMt wi w6 dv0 kpt dv (midSt l i l[i] (j + 1)).kept (midSt l i l[i] (j + 1)).differ) := ⟨by rw [HSt.out.1, HSt.out.2]; exact HM6.out⟩
                        clear HM6
                        go_wp2
                        go_roundw
                        case rel => exact ⟨j + 1, hlt3, by go_num, HM7⟩
                        case measure => exact hms3
                      | false =>
                        obtain ⟨v12, w12, hr12, hM12⟩ := HM6.out.addD ⟨nm, i0, i⟩ hδl
                        have HM12 : Hd (RMt wi w12 dv0 kpt v12 (midSt l i l[i] (j + 1)).kept (midSt l i l[i] (j + 1)).differ) := ⟨by rw [HSt.out.1, HSt.out.2]; exact hM12⟩
                        clear hM12 HM6
                        go_wp2_with (at_builtin; refine wp_append_run rfl (Operand.tmp 97) (Operand.tmp 102) 26 rfl _ _ (w6.alloc (.cells #[.string nm, .int .i64 (i0 : Int), .int .i64 (i : Int)] 49)) rfl rfl hr12 ?_)
                        go_wp2
                        go_roundw
                        case rel => exact ⟨j + 1, hlt3, by go_num, HM12⟩
                        case measure => exact hms3
                · have tA : ((i0 : Int) == (i : Int)) = false := by simp; omega
                  have tA2 : (i0 == i) = false := by simp [hi0i]
                  clear hsame hlt0
                  go_wp2_with fail
                  refine HFi.out.mono ?_
                  rintro e w' ⟨rfl, rfl⟩
                  go_wp2_with fail
                  refine (HSec.out wr HBl.out).mono ?_
                  rintro e w5 ⟨u, rfl, hOw, hb5⟩
                  have HM5 := Hd.mk (HMj.out.next (below_keeps hb5))
                  have HO5 := Hd.mk hOw
                  obtain ⟨psv, csv, hu⟩ := hOw.any
                  rw [intsV_len, HLK.out] at hu
                  subst hu
                  clear hOw hb5 HSec HMj HFi HBl d0 d1 d2 d3 d4 d5 d6 d7 d8 d9 d10 q0
                  go_wp2
                  go_loopw [14] (fun mv wr => ∃ m : Nat, m ≤ LK ∧ mv = .int .i64 m ∧ Hd (RMt wi wr dv0 kpt dv (dropAll κk (ks.take m)) δ) ∧ Hd (Keeps (fun x => kpt.ownBlock = some x) w5 wr)) (fun mv _ => LK - (intOf mv).toNat)
                  case atStart => exact ⟨0, Nat.zero_le _, rfl, HM5, ⟨Keeps.refl _ _⟩⟩
                  case round =>
                    have HM5k := Hd.mk HM5.out.k
                    clear HM5
                    obtain ⟨m, hm, rfl, HMm, HKm⟩ := hrel
                    by_cases hlt4 : m < LK
                    · have hml : m < ks.length := by rw [HLK.out]; exact hlt4
                      have hsin := HIn.out _ (List.getElem_mem hml)
                      have hdr := dropAll_take ks κk m hml
                      obtain ⟨gi, ci, hci⟩ := HO5.out.slice (by rw [intsV_len]; omega)
                      injection hci with hci1 hci2 hci3
                      subst hci1; subst hci3; clear hci2
                      obtain ⟨curi, fzi, hbi⟩ := HO5.out.typ (g := gi) rfl
                      have hcs0 := HO5.out.cellAt (intsV_at hml)
                      obtain ⟨s, hs⟩ : ∃ s, ks[m] = s := ⟨_, rfl⟩
                      rw [hs] at hsin hdr hcs0
                      obtain ⟨k, rfl⟩ := Int.eq_ofNat_of_zero_le hsin.1
                      have hkN : k < N := by have h1 := hsin.2; omega
                      have hkl : (dropAll κk (ks.take m)).length = N := by rw [dropAll_len, HKl.out]
                      have hbl : (boolsV (dropAll κk (ks.take m))).length = N := by rw [boolsV_len]; exact hkl
                      obtain ⟨gk, capk, hkp⟩ := HMm.out.k.slice (by rw [hbl]; omega)
                      rw [hbl] at hkp
                      subst hkp
                      obtain ⟨curk, fzk, hbk⟩ := HM5k.out.typ (g := gk) rfl
                      have hgne : gi ≠ gk := typ_ne hbi hbk (by decide)
                      obtain ⟨bk, ck⟩ : ∃ bk, wr.cell? ⟨gk, k, none⟩ = some (.bool bk) := ⟨_, HMm.out.k.cellAt (boolsV_at (l := dropAll κk (ks.take m)) (j := k) (by rw [hkl]; exact hkN))⟩
                      have fk := HMm.out.k.freeAt (j := k) (by rw [hbl]; exact hkN)
                      have cs0 : wr.cell? ⟨gi, m, none⟩ = some (.int .i64 (k : Int)) := by
                        rw [World.cell?_of_block (a := ⟨gi, m, none⟩) (HKm.out.block gi (typ_lt hbi) (fun e => hgne (by injection e with e; exact e.symm)))]
                        exact hcs0
                      have HM2 := Hd.mk (HMm.out.strike rfl k)
                      have HM3 : Hd (RMt wi (wr.setCell ⟨gk, k, none⟩ (.bool false)) dv0 (.slice (some ⟨gk, 0, none⟩) N capk) dv (dropAll κk (ks.take (m + 1))) δ) := ⟨by rw [hdr]; exact HM2.out⟩
                      have HK3' : Hd (Keeps (fun x => (Value.slice (some ⟨gk, 0, none⟩) N capk).ownBlock = some x) w5 (wr.setCell ⟨gk, k, none⟩ (.bool false))) := ⟨HKm.out.setCell (p := ⟨gk, k, none⟩) (.inr rfl) _⟩
                      have hms4 : LK - (intOf (.int .i64 ((m : Int) + 1))).toNat < LK - (intOf (.int .i64 (m : Int))).toNat := by simp [intOf]; omega
                      have hkNi : (k : Int) < (N : Int) := by omega
                      have hmLi : (m : Int) < (LK : Int) := by omega
                      clear HM2 hdr hs hcs0 hbi hbk hgne hkl hbl hsin hml
                      go_wp2
                      go_roundw
                      case rel => exact ⟨m + 1, hlt4, by go_num, HM3, HK3'⟩
                      case measure => exact hms4
                    · have hmL : m = LK := by omega
                      subst hmL
                      have hd : decide ((m : Int) < (m : Int)) = false := by simp
                      have hfull : ks.take m = ks := by rw [← HLK.out, List.take_length]
                      rw [hfull] at HMm
                      have hBk := HS.out.mid HMm.out
                      have HMd := Hd.mk (HMm.out.next ((Keeps.refl (fun _ => False) wr).drew))
                      have hSd : Below w.heap.size w wr.drew := hBk.trans (Below.refl _ _).drew
                      clear hfull HM5k HKm HMm HO5 hBk
                      go_wp2_with fail
                      refine wp_region_lin default (fun w' => Below w.heap.size w w') [(0, true), (1, true), (2, true), (3, true), (4, true), (5, true), (6, true), (7, true), (8, true), (9, true), (10, false), (11, true)] (by kernel_rfl) (by kernel_rfl) rfl (by kernel_rfl) (by kernel_rfl) hSd ?_
                      simp only [pick, List.getD_cons_zero, List.getD_cons_succ]
                      repeat
                        refine lin_free (v := ?_) (by rfl) ?_ ?_
                        rotate_left
                        · intro w' hSw
                          obtain ⟨c0, c1', c2, c3, c4', c5, c6, c7, c8, c9, c10⟩ := HCC.out w' hSw
                          obtain ⟨e0, e1, e2, e3, e4, e5, e6, e7, e8, e9, e10⟩ := HCB.out w' hSw
                          go_simp
                          first | done | with_reducible rfl
                        simp only [Act.put, List.setIfInBounds_toArray, List.set_cons_zero, List.set_cons_succ]
                      refine lin_bound (fun K hK => ?_)
                      go_simp
                      refine (HAlk.out _ hSd).mono ?_
                      rintro e w6 ⟨rfl, k6⟩
                      dsimp only
                      have hS6 : Below w.heap.size w w6 := below_next hSd k6
                      have HM6 := Hd.mk (HMd.out.next (below_keeps k6))
                      refine hK.out _ _ hS6 ?_
                      clear hK K k6 HMd hSd
                      repeat
                        refine lin_free (v := ?_) (by rfl) ?_ ?_
                        rotate_left
                        · intro w' hSw
                          go_simp
                          first | done | with_reducible rfl
                        simp only [Act.put, List.setIfInBounds_toArray, List.set_cons_zero, List.set_cons_succ]
                      refine NoPanic.normal ?_
                      clear hS6
                      cases r with
                      | true =>
                        have HM7 : Hd (RMt wi w6 dv0 kpt dv (midSt l i l[i] (j + 1)).kept (midSt l i l[i] (j + 1)).differ) := ⟨by rw [HSt.out.1, HSt.out.2]; exact HM6.out⟩
                        clear HM6
                        go_wp2
                        go_roundw
                        case rel => exact ⟨j + 1, hlt3, by go_num, HM7⟩
                        case measure => exact hms3
                      | false =>
                        obtain ⟨v12, w12, hr12, hM12⟩ := HM6.out.addD ⟨nm, i0, i⟩ hδl
                        have HM12 : Hd (RMt wi w12 dv0 kpt v12 (midSt l i l[i] (j + 1)).kept (midSt l i l[i] (j + 1)).differ) := ⟨by rw [HSt.out.1, HSt.out.2]; exact hM12⟩
                        clear hM12 HM6
                        go_wp2_with (at_builtin; refine wp_append_run rfl (Operand.tmp 97) (Operand.tmp 102) 26 rfl _ _ (w6.alloc (.cells #[.string nm, .int .i64 (i0 : Int), .int .i64 (i : Int)] 49)) rfl rfl hr12 ?_)
                        go_wp2
                        go_roundw
                        case rel => exact ⟨j + 1, hlt3, by go_num, HM12⟩
                        case measure => exact hms3
            · have hjn : j = G := by omega
              subst hjn
              have hd : decide ((j : Int) < (j : Int)) = false := by simp
              obtain ⟨d0, d1, d2, d3, d4, d5, d6, d7, d8, d9, d10⟩ := HCC.out wr hbl
              obtain ⟨pkt, ckt, hkt⟩ := HMj.out.k.any
              obtain ⟨lkt, hlkt⟩ : ∃ n, (boolsV (midSt l i l[i] j).kept).length = n := ⟨_, rfl⟩
              rw [hlkt] at hkt
              subst hkt
              obtain ⟨v13, w13, hr13, hO13⟩ := HS.out.fin HMj.out (by have := HLen.out.2.2; omega)
              have HO13 : Hd (ROSt w w13 v13 dv (keepR (l.take (i + 1))).keep (keepR (l.take (i + 1))).differ) := ⟨by rw [HEnd.out, HNG.out.2]; exact hO13⟩
              clear hO13 hlkt hbl d0 d1 d2 d3 d5 d6 d7 d8 d9 d10
              go_wp2_with (at_builtin; refine wp_append_run rfl (Operand.tmp 104) (Operand.tmp 106) 25 rfl _ _ (wr.alloc (.cells #[.slice pkt lkt ckt] 31)) rfl rfl hr13 ?_)
              go_wp2
              go_roundw
              case rel => exact ⟨i + 1, hlt, by go_num, HO13⟩
              case measure => exact hms
    · have hin : i = M := by omega
      subst hin
      have hd : decide ((i : Int) < (i : Int)) = false := by simp
      have HF : Hd (ROSt w wr kpv dv0 (keepR l).keep (keepR l).differ) := ⟨by have := HS.out; rwa [← HM.out, List.take_length] at this⟩
      clear HS
      go_wp2
      go_ret2
      exact ⟨_, _, rfl, HF.out⟩

set_option maxHeartbeats 4000000 in
set_option maxRecDepth 100000 in
theorem tells_any (w : World) (v : Value) (l : List Ob) (hv : ArgObs w v l) (hT : Tabs w) :
    Calls Tryd.prog 3 #[v] w fun e w' => e = .returned (.bool true) ∧ Below w.heap.size w w' := by
  have hR := hv.row
  obtain ⟨p, c, rfl⟩ := hR.slice
  have HSm := Hd.mk (gsmall_any w hT)
  have HFw := Hd.mk (fun w' (h : Below w.heap.size w w') => gfew_any w' _ l (hR.below Ob.stays h) hv.len hv.ok)
  have HR := Hd.mk hR
  have HV := Hd.mk hv
  have HT := Hd.mk hT
  obtain ⟨M, hM⟩ : ∃ M, l.length = M := ⟨_, rfl⟩
  have HM := Hd.mk hM
  rw [hM] at HR HFw
  rw [hM]
  clear hR hv hT hM
  by_cases hf : Few l
  · rw [decide_eq_true hf] at HFw
    have HKO := Hd.mk (hf.keep HV.out.ok)
    have HKp := Hd.mk (fun w' (h : Below w.heap.size w w') => gkeep_any w' (HT.out.below h) _ l (HR.out.below Ob.stays h) HKO.out)
    have HRp := Hd.mk (fun w' (h : Below w.heap.size w w') => rkeep_any w' _ l (HR.out.below Ob.stays h) HKO.out)
    have HE5 := Hd.mk (keepR_rows HKO.out)
    have HE6 := Hd.mk (keepR_diffs HKO.out)
    have HE7 := Hd.mk (keepR_keep_len HKO.out)
    have hM8 : M ≤ 8 := by rw [← HM.out]; exact hf.1
    clear hf
    go_enter Tryd.func3, Tryd.ntmps3
    go_wp2_with fail
    refine HSm.out.mono ?_
    rintro e w1 ⟨rfl, b1⟩
    have B1 := Hd.mk b1
    clear b1 HSm
    go_wp2_with fail
    refine (HFw.out w1 B1.out).mono ?_
    rintro e w2 ⟨rfl, b2⟩
    have B2 := Hd.mk (below_next B1.out b2)
    clear b2 B1 HFw
    go_wp2_with fail
    refine (HKp.out w2 B2.out).mono ?_
    rintro e w3 ⟨kpv, dv, rfl, hO⟩
    have B3 := Hd.mk (below_next B2.out hO.K)
    have HR1 := Hd.mk hO.rows
    clear hO HKp B2
    go_wp2_with fail
    refine (HRp.out w3 B3.out).mono ?_
    rintro e w4 ⟨kpv2, dv2, rfl, hO⟩
    have B4 := Hd.mk (below_next B3.out hO.K)
    have hR2 := hO.rows
    have HS1 := Hd.mk (rsame_any w4 kpv kpv2 (keepR l).keep (keepR l).keep (HR1.out.1.below boolsE_stays hO.K) hR2.1 (by rw [HE7.out, HM.out]; omega) (fun ks hk => Nat.le_trans (HE5.out ks hk) (by decide)))
    have HS2 := Hd.mk (fun w' (h : Below w4.heap.size w4 w') => rsamed_any w' dv dv2 (keepR l).differ (keepR l).differ ((HR1.out.2.below dfE_stays hO.K).below dfE_stays h) (hR2.2.below dfE_stays h) HE6.out)
    rw [decide_eq_true rfl] at HS1
    have e2 : decide ((keepR l).differ = (keepR l).differ) = true := decide_eq_true rfl
    rw [e2] at HS2
    clear e2 hR2 HR1 hO HRp B3
    go_wp2_with fail
    refine HS1.out.mono ?_
    rintro e w5 ⟨rfl, b5⟩
    have B5 := Hd.mk (below_next B4.out b5)
    have HS2' := Hd.mk (HS2.out w5 b5)
    clear b5 HS1 HS2
    go_wp2_with fail
    refine HS2'.out.mono ?_
    rintro e w6 ⟨rfl, b6⟩
    have B6 := Hd.mk (below_next B5.out b6)
    clear b6 HS2'
    go_wp2
    go_ret
    exact ⟨rfl, B6.out⟩
  · rw [decide_eq_false hf] at HFw
    clear hf
    go_enter Tryd.func3, Tryd.ntmps3
    go_wp2_with fail
    refine HSm.out.mono ?_
    rintro e w1 ⟨rfl, b1⟩
    have B1 := Hd.mk b1
    clear b1 HSm
    go_wp2_with fail
    refine (HFw.out w1 B1.out).mono ?_
    rintro e w2 ⟨rfl, b2⟩
    have B2 := Hd.mk (below_next B1.out b2)
    clear b2 B1 HFw
    go_wp2
    go_ret
    exact ⟨rfl, B2.out⟩

end Go.Proofs.YtimbhnnidohmaaaDoor.W
