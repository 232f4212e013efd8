/-
  Keep's memory while it runs.
-/
import Derived.Test.YtimbhnnidohmaaaDoorGrp4
import Derived.Test.YtimbhnnidohmaaaDoorApp
namespace Go.Proofs.YtimbhnnidohmaaaDoor.W
open Go.RowKit
set_option linter.unusedVariables false

def dCells (l : List Df) : List Value := l.flatMap Df.cells
theorem dCells_len : ∀ l : List Df, (dCells l).length = l.length * 3
  | [] => rfl
  | d :: l => by
    show (d.cells ++ dCells l).length = _
    rw [List.length_append, dCells_len l, List.length_cons]; show 3 + _ = _; omega
theorem dCells_snoc (l : List Df) (d : Df) : dCells (l ++ [d]) = dCells l ++ d.cells := by simp [dCells]
theorem infoDiff : (Tryd.prog.info? 49).map (fun i => (i.zero, i.size, i.bytes)) = some (some (.agg #[.string ⟨#[]⟩, .int .i64 0, .int .i64 0]), 3, 32) := by kernel_rfl

/-- a row of differences of the call's own -/
structure DRow (w : World) (v : Value) (l : List Df) : Prop where
  is : w.ownsRow 0 49 3 v l.length (dCells l)
theorem DRow.nil (w : World) : DRow w (.slice none 0 0) [] := ⟨World.ownsRow_nil w 0 49 3⟩
theorem DRow.typ {w : World} {v : Value} {l : List Df} (h : DRow w v l) {g : Nat} (hg : v.ownBlock = some g) : ∃ cur fz, w.heap[g]? = some (.cells cur 49 fz) := by
  rcases h.is.2 with ⟨rfl, _⟩ | ⟨b, cap, cur, rfl, _, hb, _⟩
  · cases hg
  · have : b = g := by simpa [Value.ownBlock] using hg
    subst this; exact ⟨_, _, hb⟩
theorem typ_lt {w : World} {g : Nat} {c : Array Value} {e : TypeId} {f : Nat × Nat} (h : w.heap[g]? = some (.cells c e f)) : g < w.heap.size := by
  rcases Nat.lt_or_ge g w.heap.size with h' | h'
  · exact h'
  · rw [Array.getElem?_eq_none h'] at h; cases h
theorem DRow.keeps {S : Nat → Prop} {w w' : World} {v : Value} {l : List Df} (h : DRow w v l) (k : Keeps S w w') (hs : ∀ g, v.ownBlock = some g → ¬ S g) : DRow w' v l := by
  refine ⟨h.is.1, ?_⟩
  rcases h.is.2 with h1 | ⟨b, cap, cur, e, hB, hb, r⟩
  · exact .inl h1
  · refine .inr ⟨b, cap, cur, e, hB, ?_, r⟩
    rw [k.block b (typ_lt hb) (hs b (by rw [e]; rfl)), hb]
theorem DRow.slice {w : World} {v : Value} {l : List Df} (h : DRow w v l) : ∃ p c, v = .slice p l.length c := by
  rcases h.is.2 with ⟨rfl, h0⟩ | ⟨b, cap, cur, rfl, _⟩
  · exact ⟨none, 0, by rw [h0]⟩
  · exact ⟨_, cap, rfl⟩
/-- a difference put behind -/
theorem DRow.app {w : World} {v : Value} {l : List Df} (h : DRow w v l) (d : Df) (hl : l.length ≤ 1000000) : ∃ v' w', (Builtin.append_ #[26, 26] 26 #[v, .slice (some ⟨w.heap.size, 0, none⟩) 1 1]).run Tryd.prog (w.alloc (.cells #[.string d.name, .int .i64 d.first, .int .i64 d.other] 49)) = .ok v' w' ∧
    DRow w' v' (l ++ [d]) ∧ Keeps (fun k => v.ownBlock = some k) w w' ∧ (∀ g, v'.ownBlock = some g → v.ownBlock = some g ∨ w.heap.size ≤ g) := by
  obtain ⟨i0, hi, hz0, hz1, hz2⟩ := info_parts infoDiff
  have ka : Keeps (fun k => v.ownBlock = some k) w (w.alloc (.cells #[.string d.name, .int .i64 d.first, .int .i64 d.other] 49)) := (Keeps.refl _ w).alloc _
  have h1 : DRow (w.alloc (.cells #[.string d.name, .int .i64 d.first, .int .i64 d.other] 49)) v l := h.keeps ((Keeps.refl (fun _ => False) w).alloc _) (fun _ _ h => h)
  have hb := Blk.new w 49 d.cells
  obtain ⟨v', w', hr, hO, hk, hd⟩ := run_row (P := Tryd.prog) (w.alloc (.cells #[.string d.name, .int .i64 d.first, .int .i64 d.other] 49)) 26 26 49 Tryd.underlying26 hi hz0 hz1 hz2 rfl (by decide) v l.length (dCells l) h1.is ⟨w.heap.size, 0, none⟩ 1 1 d.cells rfl
    (fun j u hj => by rw [add_none, Nat.zero_add]; exact hb.at hj) (fun u hu => by simp [Df.cells] at hu; rcases hu with rfl | rfl | rfl <;> rfl) (by unfold maxLen; omega) (by omega)
  refine ⟨v', w', hr, ⟨by rw [List.length_append, dCells_snoc]; exact hO⟩, ka.trans hk, fun g hg => ?_⟩
  rcases hd with hd | hd
  · exact .inl (hd ▸ hg)
  · rw [hd] at hg
    injection hg with hg
    simp at hg
    exact .inr (by omega)

/-- what the map holds of the first copies -/
structure SeenAt (w : World) (kv : List (ByteArray × Value)) (seen : Seen) : Prop where
  len : kv.length = seen.length
  at_ : ∀ j (h : j < kv.length) (h' : j < seen.length), kv[j].1 = seen[j].1 ∧ CpAt w kv[j].2 seen[j].2
theorem SeenAt.keeps {S : Nat → Prop} {w w' : World} {kv : List (ByteArray × Value)} {seen : Seen} (h : SeenAt w kv seen) (k : Keeps S w w') (hs : ∀ g cur fz, w.heap[g]? = some (.cells cur 9 fz) → ¬ S g) : SeenAt w' kv seen :=
  ⟨h.len, fun j h1 h2 => ⟨(h.at_ j h1 h2).1, (h.at_ j h1 h2).2.keeps k hs⟩⟩
theorem SeenAt.snoc {w : World} {kv : List (ByteArray × Value)} {seen : Seen} (h : SeenAt w kv seen) (n : ByteArray) {v : Value} {c : Cp} (hc : CpAt w v c) : SeenAt w (kv ++ [(n, v)]) (seen ++ [(n, c)]) := by
  refine ⟨by simp [h.len], fun j h1 h2 => ?_⟩
  by_cases hj : j < kv.length
  · have hj2 : j < seen.length := h.len ▸ hj
    rw [List.getElem_append_left hj, List.getElem_append_left hj2]
    exact h.at_ j hj hj2
  · have hj2 : ¬ j < seen.length := h.len ▸ hj
    rw [List.getElem_append_right (by omega), List.getElem_append_right (by omega)]
    simp only [List.getElem_singleton]
    exact ⟨trivial, hc⟩
theorem SeenAt.nil (w : World) : SeenAt w [] [] := ⟨rfl, fun j h => by simp at h⟩
/-- a look at it -/
theorem SeenAt.look : ∀ {w : World} {kv : List (ByteArray × Value)} {seen : Seen} (h : SeenAt w kv seen) (n : ByteArray),
    (lookC seen n = none ∧ lookV kv n = none) ∨ (∃ c v, lookC seen n = some c ∧ lookV kv n = some v ∧ CpAt w v c)
  | w, [], [], h, n => .inl ⟨rfl, rfl⟩
  | w, [], s :: seen, h, n => absurd h.len (by simp)
  | w, x :: kv, [], h, n => absurd h.len (by simp)
  | w, x :: kv, s :: seen, h, n => by
    have h0 := h.at_ 0 (by simp) (by simp)
    simp only [List.getElem_cons_zero] at h0
    have hr : SeenAt w kv seen := ⟨by simpa using h.len, fun j h1 h2 => by
      have := h.at_ (j + 1) (by simpa using h1) (by simpa using h2)
      simpa using this⟩
    unfold lookC lookV
    simp only [List.find?_cons]
    by_cases e : s.1 = n
    · rw [show decide (s.1 = n) = true from decide_eq_true e, show decide (x.1 = n) = true from decide_eq_true (h0.1.trans e)]
      exact .inr ⟨s.2, x.2, rfl, rfl, h0.2⟩
    · rw [show decide (s.1 = n) = false from decide_eq_false e, show decide (x.1 = n) = false from decide_eq_false (fun h => e (h0.1.symm.trans h))]
      exact hr.look n

/-- Keep's memory while it goes over an object's groups (wi: the world when the object was begun) -/
structure MSt (wi wr : World) (Mb ob : Nat) (ocs : List Value) (dv0 kpt dv : Value) (σ : KSt) : Prop where
  m : ∃ kv, MapAt wr Mb kv ∧ SeenAt wr kv σ.seen
  k : Own wr wi.heap.size 4 kpt (boolsV σ.kept)
  d : DRow wr dv σ.differ
  o : Blk wr ob 43 ocs
  ho : wi.heap.size ≤ ob
  K : Keeps (fun g => g = Mb ∨ dv0.ownBlock = some g) wi wr
  dd : ∀ g, dv.ownBlock = some g → dv0.ownBlock = some g ∨ wi.heap.size ≤ g

section
variable {wi wr w' : World} {Mb ob : Nat} {ocs : List Value} {dv0 kpt dv : Value} {σ : KSt}
theorem MSt.next (h : MSt wi wr Mb ob ocs dv0 kpt dv σ) (k : Keeps (fun _ => False) wr w') : MSt wi w' Mb ob ocs dv0 kpt dv σ := by
  obtain ⟨kv, h1, h2⟩ := h.m
  exact ⟨⟨kv, h1.keeps k (fun h => h), h2.keeps k (fun _ _ _ _ h => h)⟩, h.k.keeps k (fun _ _ h => h), h.d.keeps k (fun _ _ h => h), k.blk h.o (fun h => h), h.ho, h.K.trans (k.mono (fun _ _ h => h.elim)), h.dd⟩

/-- a section struck out -/
theorem MSt.strike (h : MSt wi wr Mb ob ocs dv0 kpt dv σ) {g n cap : Nat} (hk : kpt = .slice (some ⟨g, 0, none⟩) n cap) (j : Nat) :
    MSt wi (wr.setCell ⟨g, j, none⟩ (.bool false)) Mb ob ocs dv0 kpt dv { σ with kept := σ.kept.set j false } := by
  obtain ⟨kv, h1, h2⟩ := h.m
  have hg := h.k.lt (k := g) (by rw [hk]; rfl)
  obtain ⟨cur, fz, hb⟩ := h.k.typ (g := g) (by rw [hk]; rfl)
  have k : Keeps (· = g) wr (wr.setCell ⟨g, j, none⟩ (.bool false)) := (Keeps.refl (· = g) wr).setCell (p := ⟨g, j, none⟩) (.inr rfl) _
  have hk' := h.k
  rw [hk] at hk'
  refine ⟨⟨kv, h1.keeps k (fun e => h1.not_cells (e ▸ hb)), h2.keeps k (fun x c f hx e => typ_ne hb hx (by decide) e.symm)⟩, by rw [hk, ← boolsV_set]; exact hk'.setAt (.bool false), h.d.keeps k (fun x hx e => by obtain ⟨c, f, hc⟩ := h.d.typ hx; exact typ_ne hb hc (by decide) e.symm), k.blk h.o (fun e => typ_ne hb h.o.is (by decide) e.symm), h.ho, ?_, h.dd⟩
  exact ⟨k.os.trans h.K.os, k.tape.trans h.K.tape, k.output.trans h.K.output, Nat.le_trans h.K.size k.size, fun x hx hn => (k.block x (Nat.lt_of_lt_of_le hx h.K.size) (by omega)).trans (h.K.block x hx hn)⟩

/-- a first copy noted -/
theorem MSt.note (h : MSt wi wr Mb ob ocs dv0 kpt dv σ) {v : Value} {c : Cp} (hc : CpAt wr v c) (n : ByteArray) (hn : n.size ≤ maxLen) (hs : σ.seen.length ≤ 1000000) (hnew : lookC σ.seen n = none) :
    ∃ w', (Instr.mapUpdate 54 (.map (some Mb)) (.string n) v).run Tryd.prog wr = .ok () w' ∧ MSt wi w' Mb ob ocs dv0 kpt dv { σ with seen := σ.seen ++ [(n, c)] } := by
  obtain ⟨kv, h1, h2⟩ := h.m
  have hl : lookV kv n = none := by
    rcases h2.look n with ⟨_, h⟩ | ⟨c', v', h', _⟩
    · exact h
    · rw [hnew] at h'; cases h'
  obtain ⟨w', hr, hm, k⟩ := h1.store Tryd.underlying54 n hn v (by rw [h2.len]; unfold maxLen; omega) hl
  have hne : ∀ g cur e fz, wr.heap[g]? = some (.cells cur e fz) → ¬ g = Mb := fun g cur e fz hb hg => h1.not_cells (hg ▸ hb)
  refine ⟨w', hr, ⟨⟨_, hm, (h2.keeps k (fun g c f hb => hne g c _ f hb)).snoc n (hc.keeps k (fun g c f hb => hne g c _ f hb))⟩, h.k.keeps k (fun g hg => by obtain ⟨c, f, hb⟩ := h.k.typ hg; exact hne g c _ f hb), h.d.keeps k (fun g hg => by obtain ⟨c, f, hb⟩ := h.d.typ hg; exact hne g c _ f hb), k.blk h.o (hne _ _ _ _ h.o.is), h.ho, h.K.trans (k.mono (fun g _ e => .inl e)), h.dd⟩⟩

/-- a difference noted -/
theorem MSt.differ (h : MSt wi wr Mb ob ocs dv0 kpt dv σ) (d : Df) (hl : σ.differ.length ≤ 1000000) :
    ∃ v' w', (Builtin.append_ #[26, 26] 26 #[dv, .slice (some ⟨wr.heap.size, 0, none⟩) 1 1]).run Tryd.prog (wr.alloc (.cells #[.string d.name, .int .i64 d.first, .int .i64 d.other] 49)) = .ok v' w' ∧ MSt wi w' Mb ob ocs dv0 kpt v' { σ with differ := σ.differ ++ [d] } := by
  obtain ⟨kv, h1, h2⟩ := h.m
  obtain ⟨v', w', hr, hd, k, hb⟩ := h.d.app d hl
  have ht : ∀ g cur e fz, e ≠ 49 → wr.heap[g]? = some (.cells cur e fz) → ¬ dv.ownBlock = some g := fun g cur e fz he hg hx => by
    obtain ⟨c, f, hc⟩ := h.d.typ hx
    exact typ_ne hg hc he rfl
  refine ⟨v', w', hr, ⟨⟨kv, h1.keeps k (fun e => by obtain ⟨c, f, hc⟩ := h.d.typ e; exact h1.not_cells hc), h2.keeps k (fun g c f hg => ht g c _ f (by decide) hg)⟩, h.k.keeps k (fun g hg => by obtain ⟨c, f, hc⟩ := h.k.typ hg; exact ht g c _ f (by decide) hc), hd, k.blk h.o (ht _ _ _ _ (by decide) h.o.is), h.ho, ?_, fun g hg => ?_⟩⟩
  · refine ⟨k.os.trans h.K.os, k.tape.trans h.K.tape, k.output.trans h.K.output, Nat.le_trans h.K.size k.size, fun x hx hn => ?_⟩
    refine (k.block x (Nat.lt_of_lt_of_le hx h.K.size) (fun e => ?_)).trans (h.K.block x hx hn)
    rcases h.dd x e with h' | h'
    · exact hn (.inr h')
    · omega
  · rcases hb g hg with h' | h'
    · exact h.dd g h'
    · exact .inr (Nat.le_trans h.K.size h')
end

/-- Keep's memory between two objects -/
structure OSt (w wr : World) (Mb : Nat) (kpv dv : Value) (κ : KAl) : Prop where
  m : ∃ kv, MapAt wr Mb kv ∧ SeenAt wr kv κ.seen
  p : ∃ vs : List Value, Own wr w.heap.size 31 kpv vs ∧ vs.length = κ.keep.length ∧ ∀ j (h : j < vs.length) (h' : j < κ.keep.length), Own wr w.heap.size 4 vs[j] (boolsV κ.keep[j])
  d : DRow wr dv κ.differ
  db : ∀ g, dv.ownBlock = some g → w.heap.size ≤ g
  hm : w.heap.size ≤ Mb
  K : Below w.heap.size w wr

theorem OSt.start (w : World) : OSt w (w.alloc (.map #[] 0)) w.heap.size (.slice none 0 0) (.slice none 0 0) ⟨[], [], []⟩ :=
  ⟨⟨[], MapAt.made w, SeenAt.nil _⟩, ⟨[], Own.nil _ _ _, rfl, fun j h => by simp at h⟩, DRow.nil _, (fun g hg => by cases hg), Nat.le_refl _, (Below.refl _ _).alloc (Nat.le_refl _) _⟩

theorem OSt.begin {w wi wr : World} {Mb ob : Nat} {ocs : List Value} {kpv dv kpt : Value} {κ : KAl} (h : OSt w wi Mb kpv dv κ) (k : Keeps (fun _ => False) wi wr) (ho : Blk wr ob 43 ocs) (hob : wi.heap.size ≤ ob) {l : List Bool} (hk : Own wr wi.heap.size 4 kpt (boolsV l)) :
    MSt wi wr Mb ob ocs dv kpt dv ⟨κ.seen, l, κ.differ⟩ := by
  obtain ⟨kv, h1, h2⟩ := h.m
  exact ⟨⟨kv, h1.keeps k (fun h => h), h2.keeps k (fun _ _ _ _ h => h)⟩, hk, h.d.keeps k (fun _ _ h => h), ho, hob, k.mono (fun _ _ h => h.elim), fun g hg => .inl hg⟩

theorem OSt.fin {w wi wr : World} {Mb ob : Nat} {ocs : List Value} {kpv dv0 kpt dv : Value} {κ : KAl} {σ : KSt} (h : OSt w wi Mb kpv dv0 κ) (hm : MSt wi wr Mb ob ocs dv0 kpt dv σ) (hl : κ.keep.length ≤ 1000000) :
    ∃ v' w', (Builtin.append_ #[25, 25] 25 #[kpv, .slice (some ⟨wr.heap.size, 0, none⟩) 1 1]).run Tryd.prog (wr.alloc (.cells #[kpt] 31)) = .ok v' w' ∧ OSt w w' Mb v' dv ⟨σ.seen, κ.keep ++ [σ.kept], σ.differ⟩ := by
  obtain ⟨i0, hi, hz0, hz1, hz2⟩ := info_parts (show (Tryd.prog.info? 31).map (fun i => (i.zero, i.size, i.bytes)) = some (some (.slice none 0 0), 1, 24) by kernel_rfl)
  obtain ⟨vs, hv, hvl, hva⟩ := h.p
  obtain ⟨kv0, hM0, _⟩ := h.m
  obtain ⟨kv, h1, h2⟩ := hm.m
  have hsw := h.K.size
  -- what stood when the object was begun stands still
  have hno : ∀ g cur e fz, e ≠ 49 → wi.heap[g]? = some (.cells cur e fz) → ¬ (g = Mb ∨ dv0.ownBlock = some g) := fun g cur e fz he hg hx => by
    rcases hx with rfl | hx
    · exact hM0.not_cells hg
    · obtain ⟨c, f, hc⟩ := h.d.typ hx
      exact typ_ne hg hc he rfl
  have hv1 : Own wr w.heap.size 31 kpv vs := hv.keeps hm.K (fun g hg => by obtain ⟨c, f, hb⟩ := hv.typ hg; exact hno g c _ f (by decide) hb)
  have hva1 : ∀ j (h : j < vs.length) (h' : j < κ.keep.length), Own wr w.heap.size 4 vs[j] (boolsV κ.keep[j]) := fun j hj hj' => (hva j hj hj').keeps hm.K (fun g hg => by obtain ⟨c, f, hb⟩ := (hva j hj hj').typ hg; exact hno g c _ f (by decide) hb)
  have ka : Keeps (fun _ => False) wr (wr.alloc (.cells #[kpt] 31)) := (Keeps.refl _ wr).alloc _
  have hone : kpt.oneCell' = true := by
    rcases hm.k.is with ⟨rfl, _⟩ | ⟨g, cap, rfl, _⟩ <;> rfl
  obtain ⟨v', w', hr, hO, hk, hd⟩ := run_app (P := Tryd.prog) (wr.alloc (.cells #[kpt] 31)) 25 25 31 Tryd.underlying25 hi hz0 hz1 hz2 rfl kpv vs [kpt] (hv1.keeps ka (fun _ _ h => h)) wr.heap.size 1
    (fun j u hj => (Blk.new wr 31 [kpt]).at hj) (fun u hu => by simp at hu; subst hu; exact hone) (by rw [hvl]; show κ.keep.length + 1 ≤ maxLen; unfold maxLen; omega) (by rw [hvl]; show (κ.keep.length + 1) * 24 ≤ _; omega) (by have := hm.K.size; simp; omega)
  have k2 : Keeps (fun k => kpv.ownBlock = some k) wr w' := (ka.mono (fun _ _ h => h.elim)).trans hk
  have ht : ∀ g cur e fz, e ≠ 31 → wr.heap[g]? = some (.cells cur e fz) → ¬ kpv.ownBlock = some g := fun g cur e fz he hg hx => by
    obtain ⟨c, f, hc⟩ := hv1.typ hx
    exact typ_ne hg hc he rfl
  have hwr : Below w.heap.size w wr := h.K.trans (hm.K.below hsw (fun x hx e => by
    rcases e with rfl | e
    · have := h.hm; omega
    · have := h.db x e; omega))
  refine ⟨v', w', hr, ⟨⟨kv, h1.keeps k2 (fun e => by obtain ⟨c, f, hc⟩ := hv1.typ e; exact h1.not_cells hc), h2.keeps k2 (fun g c f hg => ht g c _ f (by decide) hg)⟩, ⟨vs ++ [kpt], hO, by simp [hvl], fun j h1 h2 => ?_⟩, hm.d.keeps k2 (fun g hg => by obtain ⟨c, f, hc⟩ := hm.d.typ hg; exact ht g c _ f (by decide) hc), fun g hg => ?_, h.hm, hwr.trans (k2.below hwr.size (fun x hx e => by have := (hv1.lt e).1; omega))⟩⟩
  · by_cases hj : j < vs.length
    · have hj2 : j < κ.keep.length := hvl ▸ hj
      rw [List.getElem_append_left hj]
      simp only
      rw [List.getElem_append_left hj2]
      exact (hva1 j hj hj2).keeps k2 (fun g hg => by obtain ⟨c, f, hc⟩ := (hva1 j hj hj2).typ hg; exact ht g c _ f (by decide) hc)
    · have hj2 : ¬ j < κ.keep.length := hvl ▸ hj
      rw [List.getElem_append_right (by omega)]
      simp only
      rw [List.getElem_append_right (by omega)]
      simp only [List.getElem_singleton]
      exact (hm.k.keeps k2 (fun g hg => by obtain ⟨c, f, hc⟩ := hm.k.typ hg; exact ht g c _ f (by decide) hc)).down hsw
  · rcases hm.dd g hg with h' | h'
    · exact h.db g h'
    · omega

end Go.Proofs.YtimbhnnidohmaaaDoor.W
