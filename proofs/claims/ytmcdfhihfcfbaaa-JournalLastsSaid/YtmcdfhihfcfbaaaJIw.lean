/-
  The plain invariant under each call on a log. No program.
-/
import Derived.Test.YtmcdfhihfcfbaaaJIv
namespace Go.Proofs.Ytmcdfhihfcfbaaa.W
set_option linter.unusedVariables false

section
variable {σ : St} {l : Lg} {D : List ByteArray} {H : Option (List ByteArray)}

theorem up_may (h : σ.down = false) {f : Int} (hf : isF f = true) : mayS σ f = 0 := by unfold mayS; rw [h, hf]; rfl
theorem down_may (h : σ.down = true) (f : Int) : mayS σ f = 10 := by unfold mayS; rw [h]; rfl
theorem up_write (h : σ.down = false) {f k : Nat} {s : List UInt8} (hf : f < 8) (hs : k + s.length ≤ 16777216) : writeE σ (f : Int) (k : Int) s = 0 := by
  unfold writeE
  rw [up_may h (isF_of (by omega) (by omega)), if_neg (by decide), if_neg (by omega), if_neg (by omega)]
theorem up_writeS (h : σ.down = false) {f k : Nat} {s : List UInt8} (hf : f < 8) (hs : k + s.length ≤ 16777216) (hne : s ≠ []) : writeS σ (f : Int) (k : Int) s = addS σ f k s := by
  unfold writeS
  rw [if_pos ⟨up_write h hf hs, hne⟩]; rfl
theorem crash_lost (σ : St) (ks : List Int) : (crashS σ ks).lost = σ.lost := by unfold crashS; split <;> rfl

/-- a write: as it is, or with a crash behind it -/
theorem write_two (σ : St) (f k : Int) (s : List UInt8) : (endsB σ = false ∧ WriteE σ f k s = writeE (endsS σ) f k s ∧ WriteS σ f k s = writeS (endsS σ) f k s) ∨ (endsB σ = true ∧ WriteE σ f k s = 10 ∧ WriteS σ f k s = crashS (writeS (endsS σ) f k s) σ.keep) := by
  unfold WriteE WriteS
  rcases h : endsB σ with _ | _
  · exact .inl ⟨rfl, rfl, rfl⟩
  · exact .inr ⟨rfl, rfl, rfl⟩

theorem flush_lost {f : Int} (hm : mayS σ f = 0) (h0 : σ.lost > 0) : flushE σ f = 12 ∧ flushS σ f = { σ with lost := σ.lost - 1 } := by
  constructor
  · unfold flushE; rw [if_neg (by rw [hm]; decide), if_pos h0]
  · unfold flushS; rw [if_neg (by rw [hm]; decide), if_pos h0]
theorem flush_ok {f : Int} (hm : mayS σ f = 0) (h0 : ¬ σ.lost > 0) : flushE σ f = 0 ∧ flushS σ f = settleS σ f.toNat (σ.files.getD f.toNat []) := by
  constructor
  · unfold flushE; rw [if_neg (by rw [hm]; decide), if_neg h0]
  · unfold flushS; rw [if_neg (by rw [hm]; decide), if_neg h0]

theorem Inv.bodyWrite (h : Inv σ l D H) (r : ByteArray) (hs : endL l.rows + (8 + r.size) ≤ 16777216) : Inv (addS σ l.f (endL l.rows) (formL r)) { l with rows := l.rows ++ [r] } D H := by
  have hfl := formL_len r
  have h6 := h.f6
  have h8 := h.ok.f8
  have hBe := endL_prefix h.pB
  refine ⟨h.ok.add (by omega) (by omega), h.up, h.f6, ?_, fun p hp hpf => ?_, h.pD, h.pB.trans (List.prefix_append _ _), h.sure, h.hs, by show endL (l.rows ++ [r]) ≤ _; rw [endL_append]; omega⟩
  · obtain ⟨hD, a, b, hF, c, d, e⟩ := h.last
    refine ⟨hD, a, b, hF, c, d, ?_⟩
    show Hold ((σ.files.set l.f (putL (σ.files.getD l.f []) (endL l.rows) (formL r))).getD l.f []) hF (formsL (l.rows ++ [r]))
    rw [formsL_append, formsL_one, List.getD_eq_getElem?_getD, List.getElem?_set_self (by omega)]
    exact e.extend (formL r)
  · rcases List.mem_append.1 hp with hp | hp
    · exact h.q p hp hpf
    · have := (pieces_at l.f _ _ _ p hp).2
      unfold endL at this hBe
      exact .inl (by omega)

theorem form_ne (r : ByteArray) : formL r ≠ [] := by
  intro e
  have := formL_len r
  rw [e] at this; simp at this; omega

theorem Inv.append (h : Inv σ l D H) (r : ByteArray) (hs : endL l.rows + (8 + r.size) ≤ 16777216) : (appE σ l r = 0 ∧ Inv (appS σ l r) (appL σ l r) D H) ∨ (appE σ l r = 10 ∧ ∃ x, May D H x ∧ Crashed (appS σ l r) l.f x) := by
  have he := h.ends
  have hfl := formL_len r
  have h6 := h.f6
  have hw := up_write he.up (f := l.f) (k := endL l.rows) (s := formL r) (by omega) (by omega)
  have hS := up_writeS he.up (f := l.f) (k := endL l.rows) (s := formL r) (by omega) (by omega) (form_ne r)
  have hb := he.bodyWrite r hs
  rcases write_two σ (l.f : Int) (endL l.rows : Nat) (formL r) with ⟨_, e1, e2⟩ | ⟨_, e1, e2⟩
  · rw [hw] at e1
    rw [hS] at e2
    refine .inl ⟨e1, ?_⟩
    have e3 : appL σ l r = { l with rows := l.rows ++ [r] } := by unfold appL; rw [show appE σ l r = 0 from e1]; rfl
    rw [e3]
    show Inv (WriteS _ _ _ _) _ _ _
    rw [e2]
    exact hb
  · rw [hS] at e2
    obtain ⟨x, hx, hc⟩ := hb.crash σ.keep
    refine .inr ⟨e1, x, hx, ?_⟩
    show Crashed (WriteS _ _ _ _) _ _
    rw [e2]
    exact hc

/-- the scheduled crash ahead of a call -/
theorem Inv.head (h : Inv σ l D H) : (headS σ = endsS σ ∧ Inv (endsS σ) l D H) ∨ ∃ x, May D H x ∧ Crashed (headS σ) l.f x := by
  unfold headS
  rcases endsB σ with _ | _
  · exact .inl ⟨rfl, h.ends⟩
  · exact .inr (h.ends.crash σ.keep)

structure Settled (σ : St) (l : Lg) (B : List ByteArray) : Prop where
  inv : Inv σ l B none
  body : ∃ hD, HdrFor hD B ∧ Hold (σ.lasts.getD l.f []) hD (formsL l.rows)
  q : ∀ p ∈ σ.queue, p.f ≠ l.f

theorem settle_getD {σ : St} {f : Nat} (hl : f < σ.lasts.length) (hf : f < σ.files.length) (s : List UInt8) : (settleS σ f s).lasts.getD f [] = s ∧ (settleS σ f s).files.getD f [] = s := by
  constructor
  · show (σ.lasts.set f s).getD f [] = s
    rw [List.getD_eq_getElem?_getD, List.getElem?_set_self hl]; rfl
  · show (σ.files.set f s).getD f [] = s
    rw [List.getD_eq_getElem?_getD, List.getElem?_set_self hf]; rfl
theorem settle_q (σ : St) (f : Nat) (s : List UInt8) : ∀ p ∈ (settleS σ f s).queue, p.f ≠ f := by
  intro p hp
  have := (List.mem_filter.1 hp).2
  simpa using this

theorem Inv.settle (h : Inv σ l D H) : Settled (settleS σ l.f (σ.files.getD l.f [])) l (H.getD D) := by
  have h6 := h.f6
  have h8 := h.ok.f8
  have hl8 := h.ok.l8
  obtain ⟨hD, a, b, hF, c, d, e⟩ := h.last
  obtain ⟨g1, g2⟩ := settle_getD (σ := σ) (f := l.f) (by omega) (by omega) (σ.files.getD l.f [])
  have hh : HdrFor hF (H.getD D) := by
    cases H with
    | none => rw [c rfl]; exact a
    | some H' => rw [d H' rfl]; exact .inr rfl
  refine ⟨⟨h.ok.settle _ (getD_le h.ok.fl _), h.up, h.f6, ⟨hF, hh, by rw [g1]; exact e.prefix h.pB, hF, fun _ => rfl, fun _ e => (by cases e), by rw [g2]; exact e⟩, fun p hp hpf => absurd hpf (settle_q _ _ _ p hp), List.prefix_rfl, h.pB, Nat.le_trans h.sure h.pD.length_le, fun _ e => (by cases e), h.e⟩, ⟨hF, hh, by rw [g1]; exact e⟩, settle_q _ _ _⟩

theorem Inv.flush (h : Inv σ l D H) : (FlushE σ l.f = 0 ∧ Settled (FlushS σ l.f) l (H.getD D)) ∨ (FlushE σ l.f = 12 ∧ 0 < σ.lost ∧ Inv (FlushS σ l.f) l D H) ∨ (FlushE σ l.f = 10 ∧ ∃ x, May D H x ∧ Crashed (FlushS σ l.f) l.f x) := by
  have h6 := h.f6
  unfold FlushE FlushS
  rcases h.head with ⟨e, hi⟩ | ⟨x, hx, hc⟩
  · rw [e]
    have hm := up_may hi.up (f := (l.f : Int)) (isF_of (by omega) (by omega))
    have hlost := (endsS_parts σ).2.2.2.2.1
    by_cases h0 : (endsS σ).lost > 0
    · rw [(flush_lost hm h0).1, (flush_lost hm h0).2]
      exact .inr (.inl ⟨rfl, by omega, hi.flags rfl rfl rfl hi.up⟩)
    · rw [(flush_ok hm h0).1, (flush_ok hm h0).2]
      exact .inl ⟨rfl, hi.settle⟩
  · have hm := down_may hc.down (l.f : Int)
    refine .inr (.inr ⟨?_, x, hx, ?_⟩)
    · unfold flushE; rw [hm]; rfl
    · unfold flushS; rw [hm]; exact hc

theorem Settled.header {B : List ByteArray} (h : Settled σ l B) (hne : l.sure < l.rows.length) : (WriteE σ l.f 0 (headR l) = 0 ∧ Inv (WriteS σ l.f 0 (headR l)) l B (some l.rows)) ∨ (WriteE σ l.f 0 (headR l) = 10 ∧ ∃ x, (x = B ∨ x = l.rows) ∧ Crashed (WriteS σ l.f 0 (headR l)) l.f x) := by
  have hI := h.inv
  have h6 := hI.f6
  have hlen : (headR l).length = 16 := headL_len _ _
  have hnl : headR l ≠ [] := by intro e; rw [e] at hlen; cases hlen
  have pe := endsS_parts σ
  have he := hI.ends
  have hw := up_write he.up (f := l.f) (k := 0) (s := headR l) (by omega) (by omega)
  have hS := up_writeS he.up (f := l.f) (k := 0) (s := headR l) (by omega) (by omega) hnl
  rw [show ((0 : Nat) : Int) = 0 from rfl] at hw hS
  have hadd : Inv (addS (endsS σ) l.f 0 (headR l)) l B (some l.rows) := by
    obtain ⟨hD, a, b⟩ := h.body
    obtain ⟨_, _, _, hF, _, _, e⟩ := he.last
    have h8 := he.ok.f8
    refine ⟨he.ok.add (by omega) (by omega), he.up, he.f6, ⟨hD, a, ?_, headR l, fun e => (by cases e), fun H' e => (by cases e; rfl), ?_⟩, fun p hp hpf => ?_, he.pB, List.prefix_rfl, he.sure, fun H' e => (by cases e; exact hne), he.e⟩
    · show Hold ((endsS σ).lasts.getD l.f []) hD (formsL l.rows)
      rw [pe.1]; exact b
    · show Hold (((endsS σ).files.set l.f (putL ((endsS σ).files.getD l.f []) 0 (headR l))).getD l.f []) (headR l) (formsL l.rows)
      rw [List.getD_eq_getElem?_getD, List.getElem?_set_self (by omega)]
      exact e.putHead _ hlen
    · rcases List.mem_append.1 hp with hp | hp
      · rw [pe.2.2.1] at hp
        exact absurd hpf (h.q p hp)
      · rw [pieces_head l.f (headR l) hlen] at hp
        simp only [List.mem_singleton] at hp
        exact .inr ⟨l.rows, rfl, hp⟩
  rcases write_two σ (l.f : Int) 0 (headR l) with ⟨_, e1, e2⟩ | ⟨_, e1, e2⟩
  · rw [hw] at e1
    rw [hS] at e2
    exact .inl ⟨e1, by rw [e2]; exact hadd⟩
  · rw [hS] at e2
    obtain ⟨x, hx, hc⟩ := hadd.crash σ.keep
    refine .inr ⟨e1, x, ?_, by rw [e2]; exact hc⟩
    rcases hx with rfl | hx
    · exact .inl rfl
    · injection hx with hx; exact .inr hx.symm

/-- Flush -/
theorem Inv.flu (h : Inv σ l D H) : ((fluP σ l).1 = 0 ∧ Inv (fluP σ l).2 (fluL σ l) l.rows none) ∨
    ((fluP σ l).1 = 12 ∧ 0 < σ.lost ∧ fluL σ l = l ∧ ∃ D' H', Inv (fluP σ l).2 l D' H' ∧ May D H D' ∧ ∀ x, H' = some x → H = some x ∨ x = l.rows) ∨
    ((fluP σ l).1 = 10 ∧ ∃ x, (May D H x ∨ x = l.rows) ∧ Crashed (fluP σ l).2 l.f x) := by
  have mayB : May D H (H.getD D) := by
    cases H with
    | none => exact .inl rfl
    | some x => exact .inr rfl
  by_cases hs : l.sure = l.rows.length
  · have hD1 := h.pD.length_le
    have hB1 := h.pB.length_le
    have hS1 := h.sure
    have hn : H = none := by
      cases H with
      | none => rfl
      | some x =>
        have h1 := h.hs x rfl
        have h2 : x.length ≤ l.rows.length := hB1
        omega
    subst hn
    have hDl : D = l.rows := h.pB.eq_of_length (by
      have h2 : D.length ≤ l.rows.length := hB1
      show D.length = _; omega)
    have e := fluL_same σ l hs
    rw [e.1, e.2, h.up]
    refine .inl ⟨rfl, ?_⟩
    rw [← hDl]; exact h
  · have hne : l.sure < l.rows.length := by have h1 := h.sure; have h2 := h.pD.length_le; have h3 := h.pB.length_le; omega
    have lostF : (FlushS σ l.f).lost ≤ σ.lost := by
      have hh : (headS σ).lost = σ.lost := by
        unfold headS
        split
        · rw [crash_lost]; exact (endsS_parts σ).2.2.2.2.1
        · exact (endsS_parts σ).2.2.2.2.1
      unfold FlushS flushS
      split
      · omega
      · split
        · show (headS σ).lost - 1 ≤ _; omega
        · show (headS σ).lost ≤ _; omega
    unfold fluL fluP
    rw [if_neg hs]
    rcases h.flush with ⟨e, hS⟩ | ⟨e, hl, hI⟩ | ⟨e, x, hx, hc⟩
    · rw [if_neg (by rw [e]; decide)]
      have lostW : (WriteS (FlushS σ l.f) l.f 0 (headR l)).lost = (FlushS σ l.f).lost := by
        rcases write_two (FlushS σ l.f) (l.f : Int) 0 (headR l) with ⟨_, _, e2⟩ | ⟨_, _, e2⟩
        · rw [e2, (writeS_flags _ _ _ _).2.2]; exact (endsS_parts _).2.2.2.2.1
        · rw [e2, crash_lost, (writeS_flags _ _ _ _).2.2]; exact (endsS_parts _).2.2.2.2.1
      rcases hS.header hne with ⟨e2, hI2⟩ | ⟨e2, x, hx, hc⟩
      · rw [if_neg (by rw [e2]; decide)]
        rcases hI2.flush with ⟨e3, hS3⟩ | ⟨e3, hl, hI3⟩ | ⟨e3, x, hx, hc⟩
        · have h3 := hS3.inv
          refine .inl ⟨e3, ?_⟩
          simp only [e3, if_true]
          have h3' : Inv _ l l.rows none := h3
          exact ⟨h3'.ok, h3'.up, h3'.f6, h3'.last, h3'.q, h3'.pD, h3'.pB, Nat.le_refl _, fun _ e => (by cases e), h3'.e⟩
        · exact .inr (.inl ⟨e3, by rw [lostW] at hl; omega, by simp [e3], _, _, hI3, mayB, fun x hx => by injection hx with hx; exact .inr hx.symm⟩)
        · refine .inr (.inr ⟨e3, x, ?_, hc⟩)
          rcases hx with rfl | hx
          · exact .inl mayB
          · injection hx with hx; exact .inr hx.symm
      · rw [if_pos (by rw [e2]; decide)]
        refine .inr (.inr ⟨e2, x, ?_, hc⟩)
        rcases hx with rfl | rfl
        · exact .inl mayB
        · exact .inr rfl
    · rw [if_pos (by rw [e]; decide)]
      exact .inr (.inl ⟨e, hl, by simp [e], D, H, hI, .inl rfl, fun x hx => .inl hx⟩)
    · rw [if_pos (by rw [e]; decide)]
      exact .inr (.inr ⟨e, x, .inl hx, hc⟩)

/-- Rewrite's steps on the other file -/
theorem Inv.cutOther (h : Inv σ l D H) : (CutE σ ((l.f : Int) + 1) 0 = 0 ∧ Inv (CutS σ ((l.f : Int) + 1) 0) l D H ∧ (CutS σ ((l.f : Int) + 1) 0).files.getD (l.f + 1) [] = [] ∧ (CutS σ ((l.f : Int) + 1) 0).lost = σ.lost) ∨ (CutE σ ((l.f : Int) + 1) 0 = 10 ∧ ∃ x, May D H x ∧ Crashed (CutS σ ((l.f : Int) + 1) 0) l.f x) := by
  have h6 := h.f6
  unfold CutE CutS
  rcases h.head with ⟨e, hi⟩ | ⟨x, hx, hc⟩
  · rw [e]
    have hm := up_may hi.up (f := (l.f : Int) + 1) (isF_of (by omega) (by omega))
    have hE : cutE (endsS σ) ((l.f : Int) + 1) 0 = 0 := by unfold cutE; rw [hm, if_neg (by decide), if_neg (by omega)]
    have h8 := hi.ok.f8
    have hl8 := hi.ok.l8
    rw [hE]
    have hS : cutS (endsS σ) ((l.f : Int) + 1) 0 = settleS (endsS σ) (l.f + 1) [] := by
      unfold cutS; rw [hE, if_pos rfl, show ((l.f : Int) + 1).toNat = l.f + 1 by omega]; simp
    rw [hS]
    exact .inl ⟨rfl, hi.otherSettle (by omega) [] (by simp), (settle_getD (by omega) (by omega) []).2, (endsS_parts σ).2.2.2.2.1⟩
  · have hm := down_may hc.down ((l.f : Int) + 1)
    have hE : cutE (headS σ) ((l.f : Int) + 1) 0 = 10 := by unfold cutE; rw [hm]; rfl
    refine .inr ⟨hE, x, hx, ?_⟩
    unfold cutS; rw [hE]; exact hc

theorem file_ne (rs : List ByteArray) : fileL rs ≠ [] := by
  intro e
  have := fileL_len rs
  rw [e] at this; unfold endL at this; simp at this; omega

theorem Inv.writeOther (h : Inv σ l D H) (rs : List ByteArray) (hs : endL rs ≤ 16777216) (h0 : σ.files.getD (l.f + 1) [] = []) : (WriteE σ ((l.f : Int) + 1) 0 (fileL rs) = 0 ∧ Inv (WriteS σ ((l.f : Int) + 1) 0 (fileL rs)) l D H ∧ (WriteS σ ((l.f : Int) + 1) 0 (fileL rs)).files.getD (l.f + 1) [] = fileL rs ∧ (WriteS σ ((l.f : Int) + 1) 0 (fileL rs)).lost = σ.lost) ∨
    (WriteE σ ((l.f : Int) + 1) 0 (fileL rs) = 10 ∧ ∃ x, May D H x ∧ Crashed (WriteS σ ((l.f : Int) + 1) 0 (fileL rs)) l.f x) := by
  have h6 := h.f6
  have he := h.ends
  have pe := endsS_parts σ
  have hlen := fileL_len rs
  have hw := up_write he.up (f := l.f + 1) (k := 0) (s := fileL rs) (by omega) (by omega)
  have hS := up_writeS he.up (f := l.f + 1) (k := 0) (s := fileL rs) (by omega) (by omega) (file_ne rs)
  rw [show ((0 : Nat) : Int) = 0 from rfl, show ((l.f + 1 : Nat) : Int) = (l.f : Int) + 1 by omega] at hw hS
  have hb : Inv (addS (endsS σ) (l.f + 1) 0 (fileL rs)) l D H := he.otherWrite (by omega) (by omega) _ (by omega)
  rcases write_two σ ((l.f : Int) + 1) 0 (fileL rs) with ⟨_, e1, e2⟩ | ⟨_, e1, e2⟩
  · rw [hw] at e1
    rw [hS] at e2
    refine .inl ⟨e1, by rw [e2]; exact hb, ?_, ?_⟩
    · rw [e2]
      have h8 := he.ok.f8
      show ((endsS σ).files.set (l.f + 1) (putL ((endsS σ).files.getD (l.f + 1) []) 0 (fileL rs))).getD (l.f + 1) [] = _
      rw [List.getD_eq_getElem?_getD, List.getElem?_set_self (by omega), pe.2.1, h0]
      exact putL_end [] (fileL rs)
    · rw [e2]; exact pe.2.2.2.2.1
  · rw [hS] at e2
    obtain ⟨x, hx, hc⟩ := hb.crash σ.keep
    exact .inr ⟨e1, x, hx, by rw [e2]; exact hc⟩

theorem Inv.flushOther (h : Inv σ l D H) (c : List UInt8) (h0 : σ.files.getD (l.f + 1) [] = c) : (FlushE σ ((l.f : Int) + 1) = 0 ∧ Inv (FlushS σ ((l.f : Int) + 1)) l D H ∧ (FlushS σ ((l.f : Int) + 1)).lasts.getD (l.f + 1) [] = c ∧ ∀ p ∈ (FlushS σ ((l.f : Int) + 1)).queue, p.f ≠ l.f + 1) ∨
    (FlushE σ ((l.f : Int) + 1) = 12 ∧ 0 < σ.lost ∧ Inv (FlushS σ ((l.f : Int) + 1)) l D H) ∨ (FlushE σ ((l.f : Int) + 1) = 10 ∧ ∃ x, May D H x ∧ Crashed (FlushS σ ((l.f : Int) + 1)) l.f x) := by
  have h6 := h.f6
  unfold FlushE FlushS
  rcases h.head with ⟨e, hi⟩ | ⟨x, hx, hc⟩
  · rw [e]
    have hm := up_may hi.up (f := (l.f : Int) + 1) (isF_of (by omega) (by omega))
    have hlost := (endsS_parts σ).2.2.2.2.1
    have h8 := hi.ok.f8
    have hl8 := hi.ok.l8
    by_cases hl : (endsS σ).lost > 0
    · rw [(flush_lost hm hl).1, (flush_lost hm hl).2]
      exact .inr (.inl ⟨rfl, by omega, hi.flags rfl rfl rfl hi.up⟩)
    · rw [(flush_ok hm hl).1, (flush_ok hm hl).2, show ((l.f : Int) + 1).toNat = l.f + 1 by omega, (endsS_parts σ).2.1, h0]
      exact .inl ⟨rfl, hi.otherSettle (by omega) _ (by rw [← h0]; exact getD_le h.ok.fl _), (settle_getD (by omega) (by omega) _).1, settle_q _ _ _⟩
  · have hm := down_may hc.down ((l.f : Int) + 1)
    refine .inr (.inr ⟨?_, x, hx, ?_⟩)
    · unfold flushE; rw [hm]; rfl
    · unfold flushS; rw [hm]; exact hc

theorem Inv.turnIn (h : Inv σ l D H) (rs : List ByteArray) (hs : endL rs ≤ 16777216) (h0 : σ.lasts.getD (l.f + 1) [] = fileL rs) (hq : ∀ p ∈ σ.queue, p.f ≠ l.f + 1) : (TurnE σ l.f ((l.f : Int) + 1) = 0 ∧ Inv (TurnS σ l.f ((l.f : Int) + 1)) { l with rows := rs, sure := rs.length } rs none) ∨
    (TurnE σ l.f ((l.f : Int) + 1) = 10 ∧ ∃ x, May D H x ∧ Crashed (TurnS σ l.f ((l.f : Int) + 1)) l.f x) := by
  have h6 := h.f6
  unfold TurnE TurnS
  rcases h.head with ⟨e, hi⟩ | ⟨x, hx, hc⟩
  · rw [e]
    have pe := endsS_parts σ
    have hm := up_may hi.up (f := (l.f : Int)) (isF_of (by omega) (by omega))
    have hm2 := up_may hi.up (f := (l.f : Int) + 1) (isF_of (by omega) (by omega))
    have hmm : may2 (endsS σ) (l.f : Int) ((l.f : Int) + 1) = 0 := by unfold may2; rw [hm, if_neg (by decide), hm2]
    have hE : turnE (endsS σ) (l.f : Int) ((l.f : Int) + 1) = 0 := by
      unfold turnE
      rw [hmm, if_neg (by decide), if_neg (by omega), if_neg]
      simp only [List.any_eq_true, decide_eq_true_eq, not_exists, not_and]
      intro p hp
      rw [pe.2.2.1] at hp
      rw [show ((l.f : Int) + 1).toNat = l.f + 1 by omega]
      exact hq p hp
    have hS : turnS (endsS σ) (l.f : Int) ((l.f : Int) + 1) = settleS (settleS (endsS σ) l.f (fileL rs)) (l.f + 1) [] := by
      unfold turnS
      rw [hE, if_pos rfl, show ((l.f : Int) + 1).toNat = l.f + 1 by omega, Int.toNat_natCast, pe.1, h0]
    rw [hE, hS]
    have h8 := hi.ok.f8
    have hl8 := hi.ok.l8
    have hlen := fileL_len rs
    have ok1 := hi.ok.settle l.f (s := fileL rs) (by omega)
    have hH : Hold (fileL rs) (hdOf rs) (formsL rs) := by
      have hh := hdOf_len rs
      refine ⟨fun j hj => ?_, fun j hj => ?_, .inr (by rw [hlen]; unfold endL; omega)⟩
      · show (hdOf rs ++ formsL rs).getD j 0 = _
        rw [List.getD_eq_getElem?_getD, List.getD_eq_getElem?_getD, List.getElem?_append_left (by omega)]
      · show (hdOf rs ++ formsL rs).getD (16 + j) 0 = _
        rw [List.getD_eq_getElem?_getD, List.getD_eq_getElem?_getD, List.getElem?_append_right (by omega)]
        congr 2; omega
    have g := settle_getD (σ := endsS σ) (f := l.f) (by omega) (by omega) (fileL rs)
    have getO : ∀ (ls : List (List UInt8)), (ls.set (l.f + 1) []).getD l.f [] = ls.getD l.f [] := fun ls => by
      rw [List.getD_eq_getElem?_getD, List.getD_eq_getElem?_getD, List.getElem?_set_ne (by omega)]
    refine .inl ⟨rfl, ⟨ok1.settle _ (by simp), hi.up, hi.f6, ⟨hdOf rs, .inr rfl, ?_, hdOf rs, fun _ => rfl, fun _ e => (by cases e), ?_⟩, fun p hp hpf => ?_, List.prefix_rfl, List.prefix_rfl, Nat.le_refl _, fun _ e => (by cases e), hs⟩⟩
    · show Hold (((settleS (endsS σ) l.f (fileL rs)).lasts.set (l.f + 1) []).getD l.f []) (hdOf rs) (formsL rs)
      rw [getO, g.1]; exact hH
    · show Hold (((settleS (endsS σ) l.f (fileL rs)).files.set (l.f + 1) []).getD l.f []) (hdOf rs) (formsL rs)
      rw [getO, g.2]; exact hH
    · have hp2 := (List.mem_filter.1 hp).1
      exact absurd hpf (settle_q _ _ _ p hp2)
  · have hm := down_may hc.down (l.f : Int)
    have hE : turnE (headS σ) (l.f : Int) ((l.f : Int) + 1) = 10 := by
      have hmm : may2 (headS σ) (l.f : Int) ((l.f : Int) + 1) = 10 := by unfold may2; rw [hm]; rfl
      unfold turnE; rw [hmm]; rfl
    refine .inr ⟨hE, x, hx, ?_⟩
    unfold turnS; rw [hE]; exact hc

/-- Rewrite -/
theorem Inv.rew (h : Inv σ l D H) (rs : List ByteArray) (hs : endL rs ≤ 16777216) : ((rewP σ l.f rs).1 = 0 ∧ Inv (rewP σ l.f rs).2 (rewL σ l rs) rs none) ∨
    ((rewP σ l.f rs).1 = 12 ∧ 0 < σ.lost ∧ rewL σ l rs = l ∧ Inv (rewP σ l.f rs).2 l D H) ∨
    ((rewP σ l.f rs).1 = 10 ∧ ∃ x, May D H x ∧ Crashed (rewP σ l.f rs).2 l.f x) := by
  have h6 := h.f6
  rcases h.cutOther with ⟨e0, h1, c1, lost1⟩ | ⟨e0, x, hx, hc⟩
  · rcases h1.writeOther rs hs c1 with ⟨e1, h2, c2, lost2⟩ | ⟨e1, x, hx, hc⟩
    · rcases h2.flushOther (fileL rs) c2 with ⟨e2, h3, c3, hq⟩ | ⟨e2, hl, h3⟩ | ⟨e2, x, hx, hc⟩
      · have hP := rewP_3 σ l.f rs e0 e1 e2
        rcases h3.turnIn rs hs c3 hq with ⟨e3, h4⟩ | ⟨e3, x, hx, hc⟩
        · have hL : rewL σ l rs = { l with rows := rs, sure := rs.length } := by unfold rewL; rw [hP]; exact if_pos e3
          rw [hL, hP]
          exact .inl ⟨e3, h4⟩
        · rw [hP]; exact .inr (.inr ⟨e3, x, hx, hc⟩)
      · have hP := rewP_2 σ l.f rs e0 e1 (by rw [show rwErr σ l.f rs 2 = 12 from e2]; decide)
        have hL : rewL σ l rs = l := by unfold rewL; rw [hP]; exact if_neg (fun e => by rw [show rwErr σ l.f rs 2 = 12 from e2] at e; cases e)
        rw [hL, hP]
        exact .inr (.inl ⟨e2, by omega, rfl, h3⟩)
      · have hP := rewP_2 σ l.f rs e0 e1 (by rw [show rwErr σ l.f rs 2 = 10 from e2]; decide)
        rw [hP]; exact .inr (.inr ⟨e2, x, hx, hc⟩)
    · have hP := rewP_1 σ l.f rs e0 (by rw [show rwErr σ l.f rs 1 = 10 from e1]; decide)
      rw [hP]; exact .inr (.inr ⟨e1, x, hx, hc⟩)
  · have hP := rewP_0 σ l.f rs (by rw [show rwErr σ l.f rs 0 = 10 from e0]; decide)
    rw [hP]; exact .inr (.inr ⟨e0, x, hx, hc⟩)
end

theorem Inv.new (f : Nat) (hf : f ≤ 6) : Inv newS ⟨f, [], 0⟩ [] none := by
  have hz : newS.lasts.getD f [] = [] := by
    show (List.replicate 8 ([] : List UInt8)).getD f [] = []
    rw [List.getD_eq_getElem?_getD, List.getElem?_replicate, if_pos (by omega)]; rfl
  have hz2 : newS.files.getD f [] = [] := hz
  have hh : Hold [] (List.replicate 16 (0 : UInt8)) (formsL []) := by
    refine ⟨fun j hj => ?_, fun j hj => (by simp [formsL] at hj), .inl rfl⟩
    rw [List.getD_eq_getElem?_getD, List.getD_eq_getElem?_getD, List.getElem?_replicate, if_pos hj]; rfl
  exact ⟨Ok.new, rfl, hf, ⟨List.replicate 16 0, .inl ⟨rfl, rfl⟩, by rw [hz]; exact hh, List.replicate 16 0, fun _ => rfl, fun _ e => (by cases e), by rw [hz2]; exact hh⟩, fun p hp => by simp [newS] at hp, List.prefix_rfl, List.prefix_rfl, Nat.le_refl _, fun _ e => (by cases e), by show endL [] ≤ 16777216; decide⟩

end Go.Proofs.Ytmcdfhihfcfbaaa.W
