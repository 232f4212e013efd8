/-
  DiskLasts: the plain law. No program.
-/
import Derived.Test.YtcleocgaooblfaaDo
namespace Go.Proofs.Ytcleocgaooblfaa.W
set_option linter.unusedVariables false

abbrev AV := Ac × Value

/-- a piece comes from one of the operations -/
def Comes (ps : List AV) (p : Pn) : Prop := ∃ a ∈ ps, a.1.f = (p.f : Int) ∧ 0 ≤ a.1.n ∧ a.1.n ≤ (p.at_ : Int) ∧ ∀ j, j < p.s.length → a.1.s.data.toList[p.at_ - a.1.n.toNat + j]? = some (p.s.getD j 0)
def GoodAt (safe : List UInt8) (ps : List AV) (f i : Nat) (b : UInt8) : Prop := b = safe.getD i 0 ∨ ∃ a ∈ ps, a.1.f = (f : Int) ∧ 0 ≤ a.1.n ∧ a.1.n ≤ (i : Int) ∧ a.1.s.data.toList[i - a.1.n.toNat]? = some b
structure Good (safe : List UInt8) (ps : List AV) (f : Nat) (s : List UInt8) : Prop where
  len : safe.length ≤ s.length
  all : ∀ i, i < s.length → GoodAt safe ps f i (s.getD i 0)

theorem Good.refl (x : List UInt8) (ps : List AV) (f : Nat) : Good x ps f x := ⟨Nat.le_refl _, fun i _ => .inl rfl⟩

theorem putL_getD (s : List UInt8) (k : Nat) (t : List UInt8) (i : Nat) (h : i < (putL s k t).length) : (putL s k t).getD i 0 = if k ≤ i ∧ i < k + t.length then t.getD (i - k) 0 else s.getD i 0 := by
  rw [List.getD_eq_getElem?_getD, List.getElem?_eq_getElem h]
  simp [putL]

theorem Good.put {safe s : List UInt8} {ps : List AV} {f : Nat} (h : Good safe ps f s) {p : Pn} (hf : p.f = f) (hc : Comes ps p) (m : Nat) (hm : m ≤ p.s.length) : Good safe ps f (putL s p.at_ (p.s.take m)) := by
  refine ⟨by have := h.len; rw [putL_len]; omega, fun i hi => ?_⟩
  rw [putL_getD _ _ _ _ hi]
  have ht : (p.s.take m).length = m := by rw [List.length_take]; omega
  rw [ht]
  split
  · rename_i hr
    right
    obtain ⟨a, ha, h1, h2, h3, h4⟩ := hc
    refine ⟨a, ha, by rw [h1, hf], h2, by omega, ?_⟩
    have := h4 (i - p.at_) (by omega)
    rw [show p.at_ - a.1.n.toNat + (i - p.at_) = i - a.1.n.toNat by omega] at this
    rw [this, List.getD_eq_getElem?_getD, List.getD_eq_getElem?_getD, List.getElem?_take, if_pos (by omega)]
  · rename_i hr
    by_cases hl : i < s.length
    · exact h.all i hl
    · left
      rw [List.getD_eq_getElem?_getD, List.getD_eq_getElem?_getD, List.getElem?_eq_none (by omega), List.getElem?_eq_none (by have := h.len; omega)]

theorem getD_set {α : Type} (l : List α) (i j : Nat) (a d : α) (hi : i < l.length) : (l.set i a).getD j d = if i = j then a else l.getD j d := by
  rw [List.getD_eq_getElem?_getD, List.getD_eq_getElem?_getD, List.getElem?_set]
  split
  · rename_i h; subst h; simp
  · rfl

theorem good_stays {L : List (List UInt8)} {ps : List AV} : ∀ (q : List Pn) (ks : List Int) (ls : List (List UInt8)), ls.length = 8 → (∀ p ∈ q, p.f < 8 ∧ Comes ps p) → (∀ f, f < 8 → Good (L.getD f []) ps f (ls.getD f [])) → ∀ f, f < 8 → Good (L.getD f []) ps f ((stays ls q ks).getD f [])
  | [], ks, ls, hl, hq, h => by cases ks <;> exact h
  | p :: q, [], ls, hl, hq, h => h
  | p :: q, k :: ks, ls, hl, hq, h => by
    obtain ⟨hp8, hpc⟩ := hq p (by simp)
    rw [stays]
    have step : ∀ m, m ≤ p.s.length → ∀ f, f < 8 → Good (L.getD f []) ps f ((ls.set p.f (putL (ls.getD p.f []) p.at_ (p.s.take m))).getD f []) := fun m hm f hf => by
      rw [getD_set _ _ _ _ _ (by omega)]
      split
      · rename_i e
        subst e
        exact (h p.f hp8).put rfl hpc m hm
      · exact h f hf
    apply good_stays q ks
    · split
      · simpa using hl
      · split
        · simpa using hl
        · exact hl
    · exact fun p hp => hq p (by simp [hp])
    · split
      · have := step p.s.length (Nat.le_refl _)
        rwa [List.take_length] at this
      · split
        · exact step _ (Nat.min_le_left _ _)
        · exact h

theorem len_stays {L : Nat → Nat} : ∀ (q : List Pn) (ks : List Int) (ls : List (List UInt8)), ls.length = 8 → (∀ p ∈ q, p.f < 8 ∧ p.at_ + p.s.length ≤ L p.f) → (∀ f, f < 8 → (ls.getD f []).length ≤ L f) → ∀ f, f < 8 → ((stays ls q ks).getD f []).length ≤ L f
  | [], ks, ls, hl, hq, h => by cases ks <;> exact h
  | p :: q, [], ls, hl, hq, h => h
  | p :: q, k :: ks, ls, hl, hq, h => by
    obtain ⟨hp8, hpc⟩ := hq p (by simp)
    rw [stays]
    have step : ∀ t : List UInt8, t.length ≤ p.s.length → ∀ f, f < 8 → ((ls.set p.f (putL (ls.getD p.f []) p.at_ t)).getD f []).length ≤ L f := fun t ht f hf => by
      rw [getD_set _ _ _ _ _ (by omega)]
      split
      · rename_i e
        subst e
        rw [putL_len]
        have := h p.f hp8
        omega
      · exact h f hf
    apply len_stays q ks
    · split
      · simpa using hl
      · split
        · simpa using hl
        · exact hl
    · exact fun p hp => hq p (by simp [hp])
    · split
      · exact step _ (Nat.le_refl _)
      · split
        · exact step _ (by rw [List.length_take]; omega)
        · exact h

/-- what holds between the operations; since: ps -/
structure Inv (σ : St) (ps : List AV) : Prop where
  ok : Ok σ
  q : ∀ p ∈ σ.queue, Comes ps p
  len : ∀ f, f < 8 → (σ.lasts.getD f []).length ≤ (σ.files.getD f []).length
  pl : ∀ p ∈ σ.queue, p.at_ + p.s.length ≤ (σ.files.getD p.f []).length
  ps : ∀ a ∈ ps, 0 ≤ a.1.n ∧ a.1.n < 4000 ∧ AcOk a.1

theorem Inv.new : Inv newS [] := ⟨Ok.new, by simp [newS], by intro f hf; simp [newS], by simp [newS], by simp⟩

theorem Inv.ends {σ : St} {ps : List AV} (h : Inv σ ps) : Inv (endsS σ) ps ∧ (endsS σ).lasts = σ.lasts ∧ (endsS σ).down = σ.down := by
  refine ⟨?_, ?_, ?_⟩
  · have := h.ok.ends
    unfold endsS at *
    split
    · exact h
    · rename_i hc
      rw [if_neg hc] at this
      exact ⟨this, h.q, h.len, h.pl, h.ps⟩
  · unfold endsS; split <;> rfl
  · unfold endsS; split <;> rfl

/-- what a crash leaves -/
structure Fell (σ : St) : Prop where
  ok : Ok σ
  q : σ.queue = []
  e : σ.lasts = σ.files
  d : σ.down = true

theorem Inv.crash {σ : St} {ps : List AV} (h : Inv σ ps) (hu : σ.down = false) (ks : List Int) : Fell (crashS σ ks) ∧ ∀ f, f < 8 → Good (σ.lasts.getD f []) ps f ((crashS σ ks).files.getD f []) ∧ ((crashS σ ks).files.getD f []).length ≤ (σ.files.getD f []).length := by
  have e : crashS σ ks = { σ with lasts := stays σ.lasts σ.queue ks, files := stays σ.lasts σ.queue ks, queue := [], down := true, armed := 0 } := by unfold crashS; rw [hu]; rfl
  refine ⟨⟨h.ok.crash ks, by rw [e], by rw [e], by rw [e]⟩, fun f hf => ?_⟩
  rw [e]
  exact ⟨good_stays σ.queue ks σ.lasts h.ok.l8 (fun p hp => ⟨(h.ok.q p hp).1, h.q p hp⟩) (fun f hf => Good.refl _ _ _) f hf, len_stays (L := fun f => (σ.files.getD f []).length) σ.queue ks σ.lasts h.ok.l8 (fun p hp => ⟨(h.ok.q p hp).1, h.pl p hp⟩) h.len f hf⟩

theorem Comes.mono {ps ps' : List AV} {p : Pn} (h : Comes ps p) (hs : ∀ a ∈ ps, a ∈ ps') : Comes ps' p := by
  obtain ⟨a, ha, r⟩ := h
  exact ⟨a, hs a ha, r⟩

theorem pieces_come (f : Nat) : ∀ (n k : Nat) (s : List UInt8), ∀ p ∈ piecesF f n k s, p.f = f ∧ k ≤ p.at_ ∧ p.at_ + p.s.length ≤ k + s.length ∧ ∀ j, j < p.s.length → s[p.at_ - k + j]? = some (p.s.getD j 0)
  | 0, k, s, p, h => by simp [piecesF] at h
  | n + 1, k, s, p, h => by
    rw [piecesF] at h
    split at h
    · simp at h
    · rename_i hs
      have h0 : 0 < s.length := List.length_pos_iff.2 hs
      rcases List.mem_cons.1 h with rfl | h
      · refine ⟨rfl, Nat.le_refl _, ?_, fun j hj => ?_⟩
        · simp only [List.length_take]; omega
        · simp only [List.length_take] at hj
          rw [Nat.sub_self, Nat.zero_add, List.getD_eq_getElem?_getD, List.getElem?_take, if_pos (by omega), List.getElem?_eq_getElem (by omega)]
          rfl
      · obtain ⟨c, hc⟩ : ∃ c, min s.length (32 - k % 32) = c := ⟨_, rfl⟩
        rw [hc] at h
        have hcl : c ≤ s.length := by omega
        obtain ⟨h1, h2, h3, h4⟩ := pieces_come f n (k + c) (s.drop c) p h
        rw [List.length_drop] at h3
        refine ⟨h1, by omega, by omega, fun j hj => ?_⟩
        have := h4 j hj
        rw [List.getElem?_drop] at this
        rw [show p.at_ - k + j = c + (p.at_ - (k + c) + j) by omega]
        exact this

theorem Inv.since {σ : St} {ps ps' : List AV} (h : Inv σ ps) (hs : ∀ a ∈ ps, a ∈ ps') (hp : ∀ a ∈ ps', 0 ≤ a.1.n ∧ a.1.n < 4000 ∧ AcOk a.1) : Inv σ ps' :=
  ⟨h.ok, fun p hq => (h.q p hq).mono hs, h.len, h.pl, hp⟩

theorem Inv.add {σ : St} {ps : List AV} (h : Inv σ ps) {a : AV} (ha : a ∈ ps) {f k : Nat} (hf : a.1.f = f) (hk : a.1.n = k) (hf8 : f < 8) (hkl : k + a.1.s.data.toList.length ≤ 16777216) : Inv (addS σ f k a.1.s.data.toList) ps := by
  have hfl : ∀ g, g < 8 → (σ.files.getD g []).length ≤ ((addS σ f k a.1.s.data.toList).files.getD g []).length ∧ (g = f → k + a.1.s.data.toList.length ≤ ((addS σ f k a.1.s.data.toList).files.getD g []).length) := fun g hg => by
    show (σ.files.getD g []).length ≤ ((σ.files.set f _).getD g []).length ∧ (g = f → _ ≤ ((σ.files.set f _).getD g []).length)
    rw [getD_set _ _ _ _ _ (by rw [h.ok.f8]; exact hf8)]
    split
    · rename_i e
      subst e
      rw [putL_len]; omega
    · rename_i e; exact ⟨Nat.le_refl _, fun e' => absurd e'.symm e⟩
  refine ⟨h.ok.add hf8 hkl, fun p hp => ?_, fun g hg => Nat.le_trans (h.len g hg) (hfl g hg).1, fun p hp => ?_, h.ps⟩
  · rcases List.mem_append.1 hp with hp | hp
    · exact h.q p hp
    · obtain ⟨h1, h2, h3, h4⟩ := pieces_come f _ _ _ p hp
      exact ⟨a, ha, by rw [hf, h1], by omega, by omega, fun j hj => by rw [hk, Int.toNat_natCast]; exact h4 j hj⟩
  · rcases List.mem_append.1 hp with hp | hp
    · exact Nat.le_trans (h.pl p hp) (hfl p.f (h.ok.q p hp).1).1
    · obtain ⟨h1, h2, h3, h4⟩ := pieces_come f _ _ _ p hp
      exact Nat.le_trans h3 ((hfl p.f (by omega)).2 h1)

/-- the operations on other files -/
def other (ps : List AV) (f : Int) : List AV := ps.filter fun x => !decide (x.1.f = f)

theorem Inv.settle {σ : St} {ps : List AV} (h : Inv σ ps) {f : Nat} (hf : f < 8) {s : List UInt8} (hs : s.length ≤ 16777216) : Inv (settleS σ f s) (other ps f) := by
  refine ⟨h.ok.settle f hs, fun p hp => ?_, fun g hg => ?_, fun p hp => ?_, fun a ha => h.ps a (List.mem_filter.1 ha).1⟩
  · have hp' := List.mem_filter.1 hp
    obtain ⟨a, ha, h1, r⟩ := h.q p hp'.1
    have hne : p.f ≠ f := by simpa using hp'.2
    exact ⟨a, List.mem_filter.2 ⟨ha, by rw [h1]; simp; omega⟩, h1, r⟩
  · show ((σ.lasts.set f s).getD g []).length ≤ ((σ.files.set f s).getD g []).length
    rw [getD_set _ _ _ _ _ (by rw [h.ok.l8]; exact hf), getD_set _ _ _ _ _ (by rw [h.ok.f8]; exact hf)]
    split
    · exact Nat.le_refl _
    · exact h.len g hg
  · have hp' := List.mem_filter.1 hp
    have hne : p.f ≠ f := by simpa using hp'.2
    show p.at_ + p.s.length ≤ ((σ.files.set f s).getD p.f []).length
    rw [getD_set _ _ _ _ _ (by rw [h.ok.f8]; exact hf), if_neg (fun e => hne e.symm)]
    exact h.pl p hp'.1

/-- the operations written since -/
def sinceS (σ : St) (ps : List AV) (a : AV) : List AV := if pickI a.1.d ≤ 1 ∧ σ.down = false ∧ 0 ≤ a.1.n ∧ a.1.n < 4000 then ps ++ [a] else ps

theorem Inv.sinceS {σ : St} {ps : List AV} (h : Inv σ ps) (a : AV) (ha : AcOk a.1) : Inv σ (sinceS σ ps a) := by
  unfold W.sinceS
  split
  · rename_i hc
    refine h.since (fun x hx => List.mem_append_left _ hx) (fun x hx => ?_)
    rcases List.mem_append.1 hx with hx | hx
    · exact h.ps x hx
    · rw [List.mem_singleton.1 hx]; exact ⟨hc.2.2.1, hc.2.2.2, ha⟩
  · exact h

theorem Inv.write {σ : St} {ps : List AV} (h : Inv σ ps) (a : AV) (ha : AcOk a.1) (hb : badN a.1 = false) (hk : pickI a.1.d ≤ 1) : Inv (writeS σ a.1.f a.1.n a.1.s.data.toList) (W.sinceS σ ps a) ∧ (writeS σ a.1.f a.1.n a.1.s.data.toList).lasts = σ.lasts ∧ (writeS σ a.1.f a.1.n a.1.s.data.toList).down = σ.down := by
  have h' := h.sinceS a ha
  unfold writeS
  split
  · rename_i hc
    refine ⟨?_, rfl, rfl⟩
    have hE := hc.1
    unfold writeE at hE
    have hm : mayS σ a.1.f = 0 := by
      rcases Nat.eq_zero_or_pos (mayS σ a.1.f) with h0 | h0
      · exact h0
      · rw [if_pos (by omega)] at hE; omega
    rw [if_neg (by rw [hm]; decide)] at hE
    obtain ⟨hd, hf0, hf8⟩ := may_zero hm
    by_cases hn0 : a.1.n < 0
    · rw [if_pos hn0] at hE; cases hE
    · rw [if_neg hn0] at hE
      by_cases hn1 : a.1.n > 16777216 ∨ ((a.1.s.data.toList).length : Int) > 16777216 - a.1.n
      · rw [if_pos hn1] at hE; cases hE
      · have hn4 : a.1.n < 4000 := by
          unfold badN at hb
          simp only [Bool.and_eq_false_iff, decide_eq_false_iff_not] at hb
          omega
        have hmem : a ∈ W.sinceS σ ps a := by
          unfold W.sinceS
          rw [if_pos ⟨hk, hd, by omega, hn4⟩]
          exact List.mem_append_right _ (List.mem_singleton.2 rfl)
        exact h'.add hmem (by omega) (by omega) (by omega) (by omega)
  · exact ⟨h', rfl, rfl⟩

/-- what one operation does -/
inductive Step (σ : St) (ps : List AV) (a : AV) : Prop where
  | settle (F : Nat) (hp : pickI a.1.d = 2 ∨ pickI a.1.d = 3) (e : doE σ a.1 = 0) (hF : a.1.f = F) (h8 : F < 8) (d : (doS σ a.1).down = false) (i : Inv (doS σ a.1) (other ps a.1.f)) (l : (doS σ a.1).lasts = σ.lasts.set F (readL (doS σ a.1) a.1.f))
  | turn (F G : Nat) (hp : pickI a.1.d = 4) (e : doE σ a.1 = 0) (hF : a.1.f = F) (h8 : F < 8) (hG : a.1.g = G) (g8 : G < 8) (d : (doS σ a.1).down = false) (i : Inv (doS σ a.1) (other (other ps a.1.f) a.1.g)) (l : (doS σ a.1).lasts = (σ.lasts.set F (σ.lasts.getD G [])).set G [])
  | fell (hp : ¬ ((pickI a.1.d = 2 ∨ pickI a.1.d = 3) ∧ doE σ a.1 = 0)) (hq : ¬ (pickI a.1.d = 4 ∧ doE σ a.1 = 0)) (u : σ.down = false) (x : Fell (doS σ a.1)) (g : ∀ f, f < 8 → Good (σ.lasts.getD f []) (sinceS σ ps a) f ((doS σ a.1).files.getD f []))
  | calm (hp : ¬ ((pickI a.1.d = 2 ∨ pickI a.1.d = 3) ∧ doE σ a.1 = 0)) (hq : ¬ (pickI a.1.d = 4 ∧ doE σ a.1 = 0)) (d : σ.down = true ∨ (doS σ a.1).down = false) (i : Inv (doS σ a.1) (sinceS σ ps a)) (l : (doS σ a.1).lasts = σ.lasts)

theorem since_not {σ : St} {ps : List AV} {a : AV} (h : 1 < pickI a.1.d) : sinceS σ ps a = ps := by unfold sinceS; rw [if_neg (by omega)]

/-- the head of a call: the scheduled crash, or one step nearer -/
theorem head_cases {σ : St} {ps : List AV} (h : Inv σ ps) : (σ.down = false ∧ Fell (headS σ) ∧ ∀ f, f < 8 → Good (σ.lasts.getD f []) ps f ((headS σ).files.getD f [])) ∨ (Inv (headS σ) ps ∧ (headS σ).lasts = σ.lasts ∧ (headS σ).down = σ.down) := by
  obtain ⟨h1, h2, h3⟩ := h.ends
  unfold headS
  rcases he : endsB σ with _ | _
  · right; exact ⟨h1, h2, h3⟩
  · left
    have hd : σ.down = false := by unfold endsB at he; simp at he; exact he.1
    obtain ⟨c1, c2⟩ := h1.crash (by rw [h3, hd]) σ.keep
    exact ⟨hd, c1, fun f hf => by rw [← h2]; exact (c2 f hf).1⟩

theorem fell_may {σ : St} (h : Fell σ) (f : Int) : mayS σ f = 10 := by unfold mayS; rw [h.d]; rfl

theorem step_law {σ : St} {ps : List AV} (h : Inv σ ps) (a : AV) (ha : AcOk a.1) (hb : badN a.1 = false) : Step σ ps a := by
  rcases (by have := pickI_range a.1.d; omega : pickI a.1.d ≤ 1 ∨ pickI a.1.d = 2 ∨ pickI a.1.d = 3 ∨ pickI a.1.d = 4 ∨ pickI a.1.d = 5 ∨ pickI a.1.d = 6 ∨ pickI a.1.d = 7 ∨ pickI a.1.d = 8 ∨ pickI a.1.d = 9 ∨ pickI a.1.d = 10) with k | k | k | k | k | k | k | k | k | k
  · have e1 : doS σ a.1 = WriteS σ a.1.f a.1.n a.1.s.data.toList := by unfold doS; rw [if_pos k]
    obtain ⟨h1, h2, h3⟩ := h.ends
    obtain ⟨w1, w2, w3⟩ := h1.write a ha hb k
    have hs : sinceS (endsS σ) ps a = sinceS σ ps a := by unfold sinceS; rw [h3]
    rw [hs] at w1
    unfold WriteS at e1
    rcases he : endsB σ with _ | _
    · rw [he] at e1
      have e1' : doS σ a.1 = writeS (endsS σ) a.1.f a.1.n a.1.s.data.toList := e1
      refine .calm (by omega) (by omega) ?_ (by rw [e1']; exact w1) (by rw [e1', w2, h2])
      rw [e1', w3, h3]
      cases σ.down <;> simp
    · have hd : σ.down = false := by unfold endsB at he; simp at he; exact he.1
      rw [he] at e1
      have e1' : doS σ a.1 = crashS (writeS (endsS σ) a.1.f a.1.n a.1.s.data.toList) σ.keep := e1
      obtain ⟨c1, c2⟩ := w1.crash (by rw [w3, h3, hd]) σ.keep
      refine .fell (by omega) (by omega) hd (by rw [e1']; exact c1) (fun f hf => ?_)
      rw [e1', ← h2, ← w2]
      exact (c2 f hf).1
  · have e1 : doS σ a.1 = flushS (headS σ) a.1.f := by unfold doS; rw [if_neg (by omega), if_pos k]; rfl
    have e2 : doE σ a.1 = flushE (headS σ) a.1.f := by unfold doE; rw [if_neg (by omega), if_pos k]; rfl
    have hs : sinceS σ ps a = ps := since_not (by omega)
    rcases head_cases h with ⟨hd, hx, hg⟩ | ⟨hi, hl, hd⟩
    · have m := fell_may hx a.1.f
      have e1' : doS σ a.1 = headS σ := by rw [e1]; unfold flushS; rw [m]; rfl
      have e2' : doE σ a.1 = 10 := by rw [e2]; unfold flushE; rw [m]; rfl
      exact .fell (by omega) (by omega) hd (by rw [e1']; exact hx) (by rw [e1', hs]; exact hg)
    · unfold flushS at e1
      unfold flushE at e2
      by_cases m : mayS (headS σ) a.1.f ≠ 0
      · rw [if_pos m] at e1 e2
        refine .calm (by omega) (by omega) ?_ (by rw [e1, hs]; exact hi) (by rw [e1, hl])
        rw [e1, hd]; cases σ.down <;> simp
      · rw [if_neg m] at e1 e2
        by_cases hlost : (headS σ).lost > 0
        · rw [if_pos hlost] at e1 e2
          refine .calm (by omega) (by omega) ?_ (by rw [e1, hs]; exact ⟨⟨hi.ok.l8, hi.ok.f8, hi.ok.ll, hi.ok.fl, hi.ok.q⟩, hi.q, hi.len, hi.pl, hi.ps⟩) (by rw [e1]; exact hl)
          rw [e1]
          show σ.down = true ∨ (headS σ).down = false
          rw [hd]; cases σ.down <;> simp
        · rw [if_neg hlost] at e1 e2
          obtain ⟨md, m0, m8⟩ := may_zero (by omega : mayS (headS σ) a.1.f = 0)
          obtain ⟨F, hF⟩ := Int.eq_ofNat_of_zero_le m0
          have h8 : F < 8 := by omega
          rw [hF, Int.toNat_natCast] at e1
          have hfl := getD_le hi.ok.fl F
          have hrd : readL (settleS (headS σ) F ((headS σ).files.getD F [])) (F : Int) = (headS σ).files.getD F [] := by
            unfold readL
            have : mayS (settleS (headS σ) F ((headS σ).files.getD F [])) (F : Int) = 0 := by
              unfold mayS; rw [show (settleS (headS σ) F ((headS σ).files.getD F [])).down = false from md, show isF (F : Int) = true by unfold isF; exact decide_eq_true (by omega)]; rfl
            rw [if_pos this, Int.toNat_natCast]
            show ((headS σ).files.set F _).getD F [] = _
            rw [getD_set _ _ _ _ _ (by rw [hi.ok.f8]; exact h8), if_pos rfl]
          refine .settle F (.inl k) e2 hF h8 (by rw [e1]; exact md) ?_ ?_
          · rw [e1, hF]; exact hi.settle h8 hfl
          · rw [e1, hF, hrd]
            show (headS σ).lasts.set F _ = _
            rw [hl]
  · have e1 : doS σ a.1 = cutS (headS σ) a.1.f a.1.n := by unfold doS; rw [if_neg (by omega), if_neg (by omega), if_pos k]; rfl
    have e2 : doE σ a.1 = cutE (headS σ) a.1.f a.1.n := by unfold doE; rw [if_neg (by omega), if_neg (by omega), if_pos k]; rfl
    have hs : sinceS σ ps a = ps := since_not (by omega)
    rcases head_cases h with ⟨hd, hx, hg⟩ | ⟨hi, hl, hd⟩
    · have m := fell_may hx a.1.f
      have e2' : cutE (headS σ) a.1.f a.1.n = 10 := by unfold cutE; rw [m]; rfl
      have e1' : doS σ a.1 = headS σ := by rw [e1]; unfold cutS; rw [e2']; rfl
      exact .fell (by omega) (by omega) hd (by rw [e1']; exact hx) (by rw [e1', hs]; exact hg)
    · unfold cutS at e1
      by_cases m : cutE (headS σ) a.1.f a.1.n = 0
      · rw [if_pos m] at e1
        rw [m] at e2
        have m' : mayS (headS σ) a.1.f = 0 := by
          unfold cutE at m
          rcases Nat.eq_zero_or_pos (mayS (headS σ) a.1.f) with h0 | h0
          · exact h0
          · rw [if_pos (by omega)] at m; omega
        obtain ⟨md, m0, m8⟩ := may_zero m'
        obtain ⟨F, hF⟩ := Int.eq_ofNat_of_zero_le m0
        have h8 : F < 8 := by omega
        rw [hF, Int.toNat_natCast] at e1
        have hfl := getD_le hi.ok.fl F
        obtain ⟨t, ht⟩ : ∃ t, ((headS σ).files.getD F []).take a.1.n.toNat = t := ⟨_, rfl⟩
        have htl : t.length ≤ 16777216 := by rw [← ht, List.length_take]; omega
        rw [ht] at e1
        have hrd : readL (settleS (headS σ) F t) (F : Int) = t := by
          unfold readL
          have : mayS (settleS (headS σ) F t) (F : Int) = 0 := by
            unfold mayS; rw [show (settleS (headS σ) F t).down = false from md, show isF (F : Int) = true by unfold isF; exact decide_eq_true (by omega)]; rfl
          rw [if_pos this, Int.toNat_natCast]
          show ((headS σ).files.set F _).getD F [] = _
          rw [getD_set _ _ _ _ _ (by rw [hi.ok.f8]; exact h8), if_pos rfl]
        refine .settle F (.inr k) e2 hF h8 (by rw [e1]; exact md) ?_ ?_
        · rw [e1, hF]; exact hi.settle h8 htl
        · rw [e1, hF, hrd]
          show (headS σ).lasts.set F _ = _
          rw [hl]
      · rw [if_neg m] at e1
        refine .calm (by omega) (by omega) ?_ (by rw [e1, hs]; exact hi) (by rw [e1, hl])
        rw [e1, hd]; cases σ.down <;> simp
  · have e1 : doS σ a.1 = turnS (headS σ) a.1.f a.1.g := by unfold doS; rw [if_neg (by omega), if_neg (by omega), if_neg (by omega), if_pos k]; rfl
    have e2 : doE σ a.1 = turnE (headS σ) a.1.f a.1.g := by unfold doE; rw [if_neg (by omega), if_neg (by omega), if_neg (by omega), if_pos k]; rfl
    have hs : sinceS σ ps a = ps := since_not (by omega)
    rcases head_cases h with ⟨hd, hx, hg⟩ | ⟨hi, hl, hd⟩
    · have m := fell_may hx a.1.f
      have e2' : turnE (headS σ) a.1.f a.1.g = 10 := by unfold turnE may2; rw [m]; rfl
      have e1' : doS σ a.1 = headS σ := by rw [e1]; unfold turnS; rw [e2']; rfl
      exact .fell (by omega) (by omega) hd (by rw [e1']; exact hx) (by rw [e1', hs]; exact hg)
    · unfold turnS at e1
      by_cases m : turnE (headS σ) a.1.f a.1.g = 0
      · rw [if_pos m] at e1
        rw [m] at e2
        have m2 : may2 (headS σ) a.1.f a.1.g = 0 ∧ a.1.f ≠ a.1.g := by
          unfold turnE at m
          rcases Nat.eq_zero_or_pos (may2 (headS σ) a.1.f a.1.g) with h0 | h0
          · rw [if_neg (by omega)] at m
            refine ⟨h0, fun e => ?_⟩
            rw [if_pos e] at m; cases m
          · rw [if_pos (by omega)] at m; omega
        have m1 : mayS (headS σ) a.1.f = 0 ∧ mayS (headS σ) a.1.g = 0 := by
          have := m2.1
          unfold may2 at this
          rcases Nat.eq_zero_or_pos (mayS (headS σ) a.1.f) with h0 | h0
          · rw [if_neg (by omega)] at this; exact ⟨h0, this⟩
          · rw [if_pos (by omega)] at this; omega
        obtain ⟨md, m0, m8⟩ := may_zero m1.1
        obtain ⟨_, n0, n8⟩ := may_zero m1.2
        obtain ⟨F, hF⟩ := Int.eq_ofNat_of_zero_le m0
        obtain ⟨G, hG⟩ := Int.eq_ofNat_of_zero_le n0
        have h8 : F < 8 := by omega
        have g8 : G < 8 := by omega
        rw [hF, hG, Int.toNat_natCast, Int.toNat_natCast] at e1
        have hll := getD_le hi.ok.ll G
        refine .turn F G k e2 hF h8 hG g8 (by rw [e1]; exact md) ?_ ?_
        · rw [e1, hF, hG]
          exact (hi.settle h8 hll).settle g8 (by simp)
        · rw [e1]
          show ((headS σ).lasts.set F ((headS σ).lasts.getD G [])).set G [] = _
          rw [hl]
      · rw [if_neg m] at e1
        refine .calm (by omega) (by omega) ?_ (by rw [e1, hs]; exact hi) (by rw [e1, hl])
        rw [e1, hd]; cases σ.down <;> simp
  · have e1 : doS σ a.1 = crashS σ a.1.k := by unfold doS; rw [if_neg (by omega), if_neg (by omega), if_neg (by omega), if_neg (by omega), if_pos k]
    have hs : sinceS σ ps a = ps := since_not (by omega)
    rcases hd : σ.down with _ | _
    · obtain ⟨c1, c2⟩ := h.crash hd a.1.k
      exact .fell (by omega) (by omega) hd (by rw [e1]; exact c1) (fun f hf => by rw [e1, hs]; exact (c2 f hf).1)
    · have e1' : doS σ a.1 = σ := by rw [e1]; unfold crashS; rw [if_pos hd]
      exact .calm (by omega) (by omega) (.inl hd) (by rw [e1', hs]; exact h) (by rw [e1'])
  all_goals have hs : sinceS σ ps a = ps := since_not (by omega)
  · have e1 : doS σ a.1 = loseS σ a.1.n := by unfold doS; rw [if_neg (by omega), if_neg (by omega), if_neg (by omega), if_neg (by omega), if_neg (by omega), if_pos k]
    refine .calm (by omega) (by omega) ?_ (by rw [e1, hs]; exact ⟨h.ok.lose _, h.q, h.len, h.pl, h.ps⟩) (by rw [e1]; rfl)
    rw [e1]; show σ.down = true ∨ σ.down = false; cases σ.down <;> simp
  · have e1 : doS σ a.1 = startS σ := by unfold doS; rw [if_neg (by omega), if_neg (by omega), if_neg (by omega), if_neg (by omega), if_neg (by omega), if_neg (by omega), if_pos k]
    exact .calm (by omega) (by omega) (.inr (by rw [e1]; rfl)) (by rw [e1, hs]; exact ⟨h.ok.start, h.q, h.len, h.pl, h.ps⟩) (by rw [e1]; rfl)
  · have e1 : doS σ a.1 = σ := by unfold doS; rw [if_neg (by omega), if_neg (by omega), if_neg (by omega), if_neg (by omega), if_neg (by omega), if_neg (by omega), if_neg (by omega), if_neg (by omega)]
    exact .calm (by omega) (by omega) (by rw [e1]; cases σ.down <;> simp) (by rw [e1, hs]; exact h) (by rw [e1])
  · have e1 : doS σ a.1 = σ := by unfold doS; rw [if_neg (by omega), if_neg (by omega), if_neg (by omega), if_neg (by omega), if_neg (by omega), if_neg (by omega), if_neg (by omega), if_neg (by omega)]
    exact .calm (by omega) (by omega) (by rw [e1]; cases σ.down <;> simp) (by rw [e1, hs]; exact h) (by rw [e1])
  · have e1 : doS σ a.1 = armS σ a.1.n a.1.k := by unfold doS; rw [if_neg (by omega), if_neg (by omega), if_neg (by omega), if_neg (by omega), if_neg (by omega), if_neg (by omega), if_neg (by omega), if_pos k]
    refine .calm (by omega) (by omega) ?_ (by rw [e1, hs]; exact ⟨h.ok.arm _ _, h.q, h.len, h.pl, h.ps⟩) (by rw [e1]; rfl)
    rw [e1]; show σ.down = true ∨ σ.down = false; cases σ.down <;> simp

/-- behind a crash: started, read, and down again -/
theorem Fell.again {σ : St} (h : Fell σ) : Inv (crashS (startS σ) []) [] ∧ (crashS (startS σ) []).lasts = σ.files := by
  have e : crashS (startS σ) [] = { startS σ with lasts := stays σ.lasts σ.queue [], files := stays σ.lasts σ.queue [], queue := [], down := true, armed := 0 } := by unfold crashS; rfl
  have es : stays σ.lasts σ.queue [] = σ.files := by rw [h.q, h.e]; rfl
  refine ⟨⟨h.ok.start.crash [], ?_, ?_, ?_, by simp⟩, ?_⟩
  · rw [e]; intro p hp; cases hp
  · rw [e]; intro f hf; exact Nat.le_refl _
  · rw [e]; intro p hp; cases hp
  · rw [e]; exact es
end Go.Proofs.Ytcleocgaooblfaa.W
