/-
  How a log lies in memory; the walks of the functions that Flush and Rewrite hand on.
-/
import Derived.Test.YtmcdfhihfcfbaaaJN
import Derived.Test.YtmcdfhihfcfbaaaJAll
import Derived.Test.YtmcdfhihfcfbaaaTwo
namespace Go.Proofs.Ytmcdfhihfcfbaaa.W
open Go.RowKit
set_option linter.unusedVariables false

theorem Rep.typ {w : World} {D : Nat} {σ : St} {O : Option Nat} (h : Rep w D σ O) {g : Nat} (hg : g = D ∨ O = some g) : ∃ cur fz T, w.heap[g]? = some (.cells cur T fz) ∧ (T = 70 ∨ T = 91) := by
  obtain ⟨qv, kv, hb, hq, hk⟩ := h.is
  rcases hg with rfl | hO
  · exact ⟨_, _, _, hb.is, .inl rfl⟩
  · rcases hq.is with ⟨h0, _⟩ | ⟨g', hO', hv, hrow⟩
    · rw [h0] at hO; cases hO
    · rw [hO'] at hO
      cases hO
      rcases hrow.2 with ⟨rfl, _⟩ | ⟨b, cap, cur', rfl, hB, hg', r⟩
      · cases hv
      · have hbg : b = g := by simpa [Value.ownBlock] using hv
        subst hbg
        exact ⟨_, _, _, hg', .inr rfl⟩
theorem Rep.not_typ {w : World} {D : Nat} {σ : St} {O : Option Nat} (h : Rep w D σ O) {g : Nat} {cur : Array Value} {T : TypeId} {fz : Nat × Nat} (hb : w.heap[g]? = some (.cells cur T fz)) (h1 : T ≠ 70) (h2 : T ≠ 91) : ¬ (g = D ∨ O = some g) := fun hg => by
  obtain ⟨cur', fz', T', h3, h4⟩ := h.typ hg
  rw [hb] at h3
  injection h3 with h3; injection h3 with _ h5 _
  rcases h4 with h4 | h4
  · exact h1 (h5.trans h4)
  · exact h2 (h5.trans h4)
/-- blocks of other types are written -/
theorem Rep.others {S : Nat → Prop} {w w' : World} {D : Nat} {σ : St} {O : Option Nat} (h : Rep w D σ O) (k : Keeps S w w') (hS : ∀ g, S g → ∃ cur T fz, w.heap[g]? = some (.cells cur T fz) ∧ T ≠ 70 ∧ T ≠ 91 ∧ T ≠ 3) : Rep w' D σ O :=
  h.keeps k (fun e => by obtain ⟨cur, T, fz, hg, h1, h2, _⟩ := hS D e; exact h.not_typ hg h1 h2 (.inl rfl))
    (fun g hg e => by obtain ⟨cur, T, fz, hg', h1, h2, _⟩ := hS g e; exact h.not_typ hg' h1 h2 (.inr hg))
    (fun g cur fz hg e => by
      obtain ⟨cur', T, fz', hg', _, _, h3⟩ := hS g e
      rw [hg] at hg'
      injection hg' with hg'; injection hg' with _ hg' _; exact h3 hg'.symm)

def lgCells (D : Nat) (f : Int) (v : Value) (s e : Int) : List Value := [.pointer (some ⟨D, 0, none⟩), .int .i64 f, v, .int .i64 s, .int .i64 e]

structure LgOk (l : Lg) : Prop where
  f : l.f ≤ 6
  e : endL l.rows ≤ 16777216
  s : l.sure ≤ l.rows.length

/-- a log; R: its rows' block -/
structure LRep (w : World) (L D : Nat) (l : Lg) (R : Option Nat) : Prop where
  is : ∃ v, Blk w L 64 (lgCells D l.f v l.sure (endL l.rows : Nat)) ∧ Own w 0 9 v (l.rows.map Value.string) ∧ v.ownBlock = R
  ok : LgOk l

section
variable {w w' : World} {L D : Nat} {l : Lg} {R : Option Nat}
theorem LRep.lt (h : LRep w L D l R) : L < w.heap.size := by obtain ⟨v, hb, _⟩ := h.is; exact hb.lt
theorem LRep.heap (h : LRep w L D l R) : ∃ cur fz, w.heap[L]? = some (.cells cur 64 fz) := by obtain ⟨v, hb, _⟩ := h.is; exact ⟨_, _, hb.is⟩
theorem LRep.rowHeap (h : LRep w L D l R) {g : Nat} (hg : R = some g) : ∃ cur fz, w.heap[g]? = some (.cells cur 9 fz) := by
  obtain ⟨v, hb, hO, hR⟩ := h.is
  subst hR
  rcases hO.is with ⟨rfl, _⟩ | ⟨g', cap, rfl, _, _, _, ⟨cur, fz, hg', _⟩, _⟩
  · cases hg
  · have : g' = g := by simpa [Value.ownBlock] using hg
    subst this
    exact ⟨_, _, hg'⟩
theorem lt_of_heap {w : World} {g : Nat} {o : Obj} (h : w.heap[g]? = some o) : g < w.heap.size := by
  rcases Nat.lt_or_ge g w.heap.size with h' | h'
  · exact h'
  · rw [Array.getElem?_eq_none h'] at h; cases h
theorem LRep.rowLt (h : LRep w L D l R) {g : Nat} (hg : R = some g) : g < w.heap.size := by
  obtain ⟨_, _, h'⟩ := h.rowHeap hg; exact lt_of_heap h'
theorem LRep.ne (h : LRep w L D l R) : R ≠ some L := fun e => by
  obtain ⟨_, _, h1⟩ := h.heap
  obtain ⟨_, _, h2⟩ := h.rowHeap e
  rw [h1] at h2
  injection h2 with h2; injection h2 with _ h2 _; exact absurd h2 (by decide)
theorem LRep.keeps {S : Nat → Prop} (h : LRep w L D l R) (k : Keeps S w w') (hL : ¬ S L) (hR : ∀ g, R = some g → ¬ S g) : LRep w' L D l R := by
  obtain ⟨v, hb, hO, rfl⟩ := h.is
  exact ⟨⟨v, k.blk hb hL, hO.keeps k hR, rfl⟩, h.ok⟩
theorem LRep.next (h : LRep w L D l R) (k : Keeps (fun _ => False) w w') : LRep w' L D l R := h.keeps k (fun h => h) (fun _ _ h => h)
/-- the disk's blocks are none of the log's -/
theorem LRep.disk {σ : St} {O : Option Nat} (h : LRep w L D l R) (hr : Rep w D σ O) : ¬ (L = D ∨ O = some L) ∧ ∀ g, R = some g → ¬ (g = D ∨ O = some g) := by
  obtain ⟨_, _, h1⟩ := h.heap
  refine ⟨hr.not_typ h1 (by decide) (by decide), fun g hg => ?_⟩
  obtain ⟨_, _, h2⟩ := h.rowHeap hg
  exact hr.not_typ h2 (by decide) (by decide)
theorem LRep.op {σ : St} {O : Option Nat} (h : LRep w L D l R) (hr : Rep w D σ O) (k : Keeps (fun g => g = D ∨ O = some g) w w') : LRep w' L D l R :=
  h.keeps k (h.disk hr).1 (h.disk hr).2
end

theorem Own.slice' {w : World} {B : Nat} {e : TypeId} {v : Value} {xs : List Value} (h : Own w B e v xs) : ∃ p c, v = .slice p xs.length c := by
  rcases h.is with ⟨rfl, rfl⟩ | ⟨g, cap, rfl, _⟩
  · exact ⟨none, 0, rfl⟩
  · exact ⟨_, cap, rfl⟩

set_option maxRecDepth 100000 in
set_option maxHeartbeats 1000000 in
/-- l.flush -/
theorem jflush_any (w : World) (L D : Nat) (f : Int) (v : Value) (s e : Int) (σ : St) (O : Option Nat) (hF : Fit σ) (hr : Rep w D σ O) (hb : Blk w L 64 (lgCells D f v s e)) :
    Calls Try.prog 39 #[.pointer (some ⟨L, 0, none⟩)] w fun e w' => ∃ O', e = .returned (.int .i64 (FlushE σ f)) ∧ Rep w' D (FlushS σ f) O' ∧ (O' = O ∨ O' = none) ∧ Keeps (fun g => g = D ∨ O = some g) w w' := by
  have HD := Hd.mk (hr.not_typ hb.is (by decide) (by decide))
  have HFl := Hd.mk (flush_any w.drew D σ O f hF (hr.next (Keeps.refl _ _).drew))
  have hSd : Blk w.drew L 64 (lgCells D f v s e) := hb.drew
  have HS := Hd.mk hSd
  clear hF hr hb
  obtain ⟨E, hE⟩ : ∃ E, (FlushE σ f : Int) = E := ⟨_, rfl⟩
  obtain ⟨T, hT⟩ : ∃ T, FlushS σ f = T := ⟨_, rfl⟩
  rw [hE, hT] at HFl
  rw [hE, hT]
  clear hE hT
  go_enter Try.func39, Try.ntmps39
  go_wp2_with fail
  refine wp_region_lin default (fun w' => Blk w' L 64 (lgCells D f v s e)) [(0, true), (1, true), (2, true), (3, true), (4, true), (5, true), (6, true), (7, true), (8, false), (9, true)] (by kernel_rfl) (by kernel_rfl) rfl (by kernel_rfl) (by kernel_rfl) hSd ?_
  simp only [pick, List.getD_cons_zero, List.getD_cons_succ]
  clear hSd
  repeat
    refine lin_free (v := ?_) (by rfl) ?_ ?_
    rotate_left
    · intro w' hSw
      have c0 := hSw.at (j := 0) rfl
      have c1 := hSw.at (j := 1) rfl
      go_simp
      first | done | with_reducible rfl
    simp only [Act.put, List.setIfInBounds_toArray, List.set_cons_zero, List.set_cons_succ]
  refine lin_bound (fun K hK => ?_)
  go_simp
  refine HFl.out.mono ?_
  rintro e w5 ⟨O', rfl, hr', hO', k⟩
  dsimp only
  have HR := Hd.mk hr'
  have HK := Hd.mk k
  have HO := Hd.mk hO'
  refine hK.out _ _ (k.blk HS.out HD.out) ?_
  clear hK K hr' k hO' HFl
  repeat
    refine lin_free (v := ?_) (by rfl) ?_ ?_
    rotate_left
    · intro w' hSw
      go_simp
      first | done | with_reducible rfl
    simp only [Act.put, List.setIfInBounds_toArray, List.set_cons_zero, List.set_cons_succ]
  refine NoPanic.normal ?_
  go_wp2
  go_ret
  exact ⟨O', rfl, HR.out, HO.out, (Keeps.refl _ w).drew.trans HK.out⟩

end Go.Proofs.Ytmcdfhihfcfbaaa.W
