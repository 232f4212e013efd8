/-
  A law's memory: a disk and a log on it that the call has made, and blocks of the law's own that stay.
-/
import Derived.Test.YtmcdfhihfcfbaaaJRw
import Derived.Test.YtmcdfhihfcfbaaaJOpn
namespace Go.Proofs.Ytmcdfhihfcfbaaa.W
open Go.RowKit
set_option linter.unusedVariables false

theorem FitQ.flu {σ : St} {q : Nat} (h : FitQ σ q) (l : Lg) : FitQ (fluP σ l).2 (q + 16) := by
  have hw := (h.flush l.f).write (l.f : Int) 0 (headR l)
  rw [show (headR l).length = 16 from headL_len _ _] at hw
  unfold fluP
  split
  · exact h.mono (by omega)
  · split
    · exact (h.flush _).mono (by omega)
    · split
      · exact hw
      · exact hw.flush _
theorem FitQ.app {σ : St} {q : Nat} (h : FitQ σ q) (l : Lg) (r : ByteArray) : FitQ (appS σ l r) (q + (8 + r.size)) := by
  have := h.write (l.f : Int) (endL l.rows : Nat) (formL r)
  rwa [formL_len] at this
theorem FitQ.rew {σ : St} {q : Nat} (h : FitQ σ q) (f : Nat) (rs : List ByteArray) : FitQ (rewP σ f rs).2 (q + endL rs) := by
  have h1 : FitQ (CutS σ ((f : Int) + 1) 0) q := h.cut _ _
  have h2 := h1.write ((f : Int) + 1) 0 (fileL rs)
  rw [fileL_len] at h2
  have h3 := h2.flush ((f : Int) + 1)
  have h4 := h3.turn (f : Int) ((f : Int) + 1)
  by_cases e0 : rwErr σ f rs 0 = 0
  · by_cases e1 : rwErr σ f rs 1 = 0
    · by_cases e2 : rwErr σ f rs 2 = 0
      · rw [rewP_3 σ f rs e0 e1 e2]; exact h4
      · rw [rewP_2 σ f rs e0 e1 e2]; exact h3
    · rw [rewP_1 σ f rs e0 e1]; exact h2
  · rw [rewP_0 σ f rs e0]; exact h1.mono (by omega)

structure JW (B w : World) (D L : Nat) (σ : St) (l : Lg) (X : Nat → Prop) : Prop where
  is : ∃ O R, Rep w D σ O ∧ LRep w L D l R ∧ (∀ g, O = some g → B.heap.size ≤ g) ∧ (∀ g, R = some g → B.heap.size ≤ g ∧ ¬ X g)
  below : Below B.heap.size B w
  ge : B.heap.size ≤ D
  lge : B.heap.size ≤ L
  xs : ∀ g, X g → ∃ cur T fz, w.heap[g]? = some (.cells cur T fz) ∧ T ≠ 70 ∧ T ≠ 91 ∧ T ≠ 64

section
variable {B w w' : World} {D L : Nat} {σ σ' : St} {l l' : Lg} {X : Nat → Prop}

theorem JW.size (h : JW B w D L σ l X) : B.heap.size ≤ w.heap.size := h.below.size
theorem JW.one (h : JW B w D L σ l X) : One B w D σ := by
  obtain ⟨O, R, h1, h2, h3, h4⟩ := h.is
  exact ⟨⟨O, h1, h3⟩, h.below, h.ge⟩
theorem JW.ok (h : JW B w D L σ l X) : Ok σ := h.one.ok
theorem JW.lok (h : JW B w D L σ l X) : LgOk l := by
  obtain ⟨O, R, h1, h2, h3, h4⟩ := h.is
  exact h2.ok
theorem JW.xlt (h : JW B w D L σ l X) {g : Nat} (hg : X g) : g < w.heap.size := by
  obtain ⟨cur, T, fz, h1, _⟩ := h.xs g hg
  exact lt_of_heap h1

/-- nothing old is written -/
theorem JW.next (h : JW B w D L σ l X) (k : Keeps (fun _ => False) w w') : JW B w' D L σ l X := by
  obtain ⟨O, R, h1, h2, h3, h4⟩ := h.is
  refine ⟨⟨O, R, h1.next k, h2.next k, h3, h4⟩, h.below.trans (k.below h.size (fun _ _ h => h)), h.ge, h.lge, fun g hg => ?_⟩
  obtain ⟨cur, T, fz, e, r⟩ := h.xs g hg
  exact ⟨cur, T, fz, by rw [k.block g (lt_of_heap e) (fun h => h)]; exact e, r⟩
theorem JW.of_below (h : JW B w D L σ l X) (hb : Below w.heap.size w w') : JW B w' D L σ l X :=
  h.next (Keeps.of_below hb (fun k h1 h2 => absurd h1 (Nat.not_lt.2 h2)))
theorem JW.alloc (h : JW B w D L σ l X) (o : Obj) : JW B (w.alloc o) D L σ l X := h.next ((Keeps.refl (fun _ => False) w).alloc o)
theorem JW.drew (h : JW B w D L σ l X) : JW B w.drew D L σ l X := h.next (Keeps.refl (fun _ => False) w).drew
theorem JW.drewN (h : JW B w D L σ l X) (n : Nat) : JW B (w.drewN n) D L σ l X := h.next ((Keeps.refl (fun _ => False) w).drewN n)
theorem JW.cast (h : JW B w D L σ l X) (e : σ = σ') (e' : l = l') : JW B w D L σ' l' X := e ▸ e' ▸ h

/-- other blocks of the law's own; what is new in X lies behind the log -/
theorem JW.setX {X' : Nat → Prop} (h : JW B w D L σ l X) (hx : ∀ g, X' g → X g ∨ ∃ cur T fz, w.heap[g]? = some (.cells cur T fz) ∧ T ≠ 70 ∧ T ≠ 91 ∧ T ≠ 64 ∧ T ≠ 9) : JW B w D L σ l X' := by
  obtain ⟨O, R, h1, h2, h3, h4⟩ := h.is
  refine ⟨⟨O, R, h1, h2, h3, fun g hg => ⟨(h4 g hg).1, fun hX => ?_⟩⟩, h.below, h.ge, h.lge, fun g hg => ?_⟩
  · rcases hx g hX with h' | ⟨cur, T, fz, e, _, _, _, t⟩
    · exact (h4 g hg).2 h'
    · obtain ⟨cur', fz', e'⟩ := h2.rowHeap hg
      rw [e] at e'
      injection e' with e'; injection e' with _ e' _; exact t e'
  · rcases hx g hg with h' | ⟨cur, T, fz, e, a, b, c, _⟩
    · exact h.xs g h'
    · exact ⟨cur, T, fz, e, a, b, c⟩

/-- a block of the law's own is written -/
theorem JW.write (h : JW B w D L σ l X) {S : Nat → Prop} (k : Keeps S w w') (hS : ∀ g, S g → X g ∧ B.heap.size ≤ g) (hI : ∀ g, S g → ∃ cur T fz, w.heap[g]? = some (.cells cur T fz) ∧ T ≠ 3) (hX : ∀ g, X g → ∃ cur T fz, w'.heap[g]? = some (.cells cur T fz) ∧ T ≠ 70 ∧ T ≠ 91 ∧ T ≠ 64) : JW B w' D L σ l X := by
  obtain ⟨O, R, h1, h2, h3, h4⟩ := h.is
  refine ⟨⟨O, R, h1.others k (fun g hg => ?_), h2.keeps k (fun e => ?_) (fun g hg e => (h4 g hg).2 (hS g e).1), h3, h4⟩, h.below.trans (k.below h.size (fun g hg e => by have := (hS g e).2; omega)), h.ge, h.lge, hX⟩
  · obtain ⟨cur, T, fz, e, a, b, c⟩ := h.xs g (hS g hg).1
    obtain ⟨cur', T', fz', e', t⟩ := hI g hg
    rw [e] at e'
    injection e' with e'; injection e' with _ e' _
    exact ⟨cur, T, fz, e, a, b, e' ▸ t⟩
  · obtain ⟨cur, T, fz, e1, a, b, c⟩ := h.xs L (hS L e).1
    obtain ⟨cur', fz', e'⟩ := h2.heap
    rw [e1] at e'
    injection e' with e'; injection e' with _ e' _; exact c e'

/-- a block of the law's own is written, or comes anew -/
theorem JW.grow {X' : Nat → Prop} (h : JW B w D L σ l X) {S : Nat → Prop} (k : Keeps S w w') (hS : ∀ g, S g → X g ∧ B.heap.size ≤ g) (hI : ∀ g, S g → ∃ cur T fz, w.heap[g]? = some (.cells cur T fz) ∧ T ≠ 3)
    (hX : ∀ g, X' g → (X g ∨ w.heap.size ≤ g) ∧ ∃ cur T fz, w'.heap[g]? = some (.cells cur T fz) ∧ T ≠ 70 ∧ T ≠ 91 ∧ T ≠ 64) : JW B w' D L σ l X' := by
  obtain ⟨O, R, h1, h2, h3, h4⟩ := h.is
  refine ⟨⟨O, R, h1.others k (fun g hg => ?_), h2.keeps k (fun e => ?_) (fun g hg e => (h4 g hg).2 (hS g e).1), h3, fun g hg => ⟨(h4 g hg).1, fun hx => ?_⟩⟩, h.below.trans (k.below h.size (fun g hg e => by have := (hS g e).2; omega)), h.ge, h.lge, fun g hg => (hX g hg).2⟩
  · obtain ⟨cur, T, fz, e, a, b, c⟩ := h.xs g (hS g hg).1
    obtain ⟨cur', T', fz', e', t⟩ := hI g hg
    rw [e] at e'
    injection e' with e'; injection e' with _ e' _
    exact ⟨cur, T, fz, e, a, b, e' ▸ t⟩
  · obtain ⟨cur, T, fz, e1, a, b, c⟩ := h.xs L (hS L e).1
    obtain ⟨cur', fz', e'⟩ := h2.heap
    rw [e1] at e'
    injection e' with e'; injection e' with _ e' _; exact c e'
  · rcases (hX g hx).1 with hx | hx
    · exact (h4 g hg).2 hx
    · exact Nat.lt_irrefl _ (Nat.lt_of_lt_of_le (h2.rowLt hg) hx)

/-- what an operation leaves -/
structure JAfter (B w w' : World) (D L : Nat) (σ' : St) (l' : Lg) (X : Nat → Prop) : Prop where
  jw : JW B w' D L σ' l' X
  keeps : Keeps (fun g => B.heap.size ≤ g ∧ ¬ X g) w w'

theorem JW.run {f : FuncId} {args : Array Value} {val : Value} (h : JW B w D L σ l X) (hc : LOp w f args L D σ σ' l l' val) : Calls Try.prog f args w fun e w' => e = .returned val ∧ JAfter B w w' D L σ' l' X := by
  obtain ⟨O, R, h1, h2, h3, h4⟩ := h.is
  refine (hc.run O R h1 h2).mono fun e w' ⟨he, O', R', hr', hl', hO', hR', k⟩ => ⟨he, ?_⟩
  have hS : ∀ g, ((g = D ∨ O = some g) ∨ (g = L ∨ R = some g)) → B.heap.size ≤ g ∧ ¬ X g := by
    intro g hg
    have ty : ∀ {cur T fz}, w.heap[g]? = some (Obj.cells cur T fz) → (T = 70 ∨ T = 91 ∨ T = 64) → ¬ X g := fun {cur T fz} e t hX => by
      obtain ⟨cur', T', fz', e', a, b, c⟩ := h.xs g hX
      rw [e] at e'
      injection e' with e'; injection e' with _ e' _
      rcases t with t | t | t
      · exact a (e' ▸ t)
      · exact b (e' ▸ t)
      · exact c (e' ▸ t)
    rcases hg with hg | hg | hg
    · obtain ⟨cur, fz, T, e, t⟩ := h1.typ hg
      refine ⟨?_, ty e (t.elim .inl (fun t => .inr (.inl t)))⟩
      rcases hg with rfl | hg
      · exact h.ge
      · exact h3 g hg
    · subst hg
      obtain ⟨cur, fz, e⟩ := h2.heap
      exact ⟨h.lge, ty e (.inr (.inr rfl))⟩
    · exact h4 g hg
  have k' : Keeps (fun g => B.heap.size ≤ g ∧ ¬ X g) w w' := k.mono (fun g _ hg => hS g hg)
  refine ⟨⟨⟨O', R', hr', hl', fun g hg => (hO' g hg).elim (h3 g) (Nat.le_trans h.size), fun g hg => (hR' g hg).elim (h4 g) (fun hge => ⟨Nat.le_trans h.size hge, fun hX => Nat.lt_irrefl _ (Nat.lt_of_lt_of_le (h.xlt hX) hge)⟩)⟩, h.below.trans (k'.below h.size (fun g hg e => by have := e.1; omega)), h.ge, h.lge, fun g hg => ?_⟩, k'⟩
  obtain ⟨cur, T, fz, e, r⟩ := h.xs g hg
  exact ⟨cur, T, fz, by rw [k'.block g (lt_of_heap e) (fun e => e.2 hg)]; exact e, r⟩

theorem OpC.lop {f : FuncId} {args : Array Value} {val : Value} (hc : OpC w f args D σ σ' val) : LOp w f args L D σ σ' l l val :=
  ⟨fun O R h1 h2 => (hc.run O h1).mono fun e w' ⟨he, O', hr', hO', k⟩ => ⟨he, O', R, hr', h2.op h1 k, hO', fun g h => .inl h, k.mono (fun _ _ h => .inl h)⟩⟩

/-- Rewrite with a row of which no block is the disk's -/
theorem JW.rewrite (h : JW B w D L σ l X) (p : Option Addr) (c n : Nat) (rs : List ByteArray) (hn : rs.length = n) (q : Nat) (hF : FitQ σ q) (hq : q ≤ 800000000) (hrs : (formsL rs).length ≤ 100000000)
    (hv : Rw 1 strE w (.slice p n c) rs) (hne : ∀ a, p = some a → rs ≠ [] → a.block < B.heap.size ∨ ∃ cur fz, w.heap[a.block]? = some (.cells cur 9 fz)) :
    Calls Try.prog 13 #[.pointer (some ⟨L, 0, none⟩), .slice p n c] w fun e w' => e = .returned (.int .i64 (rewP σ l.f rs).1) ∧ JAfter B w w' D L (rewP σ l.f rs).2 (rewL σ l rs) X := by
  subst hn
  obtain ⟨O, R, h1, h2, h3, h4⟩ := h.is
  have hno : ∀ O, Rep w D σ O → (∀ g, O = some g → B.heap.size ≤ g) → ∀ a, p = some a → rs ≠ [] → ¬ (a.block = D ∨ O = some a.block) := fun O h1 h3 a ha h0 e => by
    rcases hne a ha h0 with hlt | ⟨cur, fz, hb⟩
    · rcases e with e | e
      · have := h.ge; omega
      · have := h3 _ e; omega
    · exact h1.not_typ hb (by decide) (by decide) e
  -- as JW.run, with this O
  have key := jRewrite_any w L D p c rs l R σ O q hF hq hrs h1 h2 hv (hno O h1 h3)
  have hS : ∀ g, ((g = D ∨ O = some g) ∨ (g = L ∨ R = some g)) → B.heap.size ≤ g ∧ ¬ X g := by
    intro g hg
    have ty : ∀ {cur T fz}, w.heap[g]? = some (Obj.cells cur T fz) → (T = 70 ∨ T = 91 ∨ T = 64) → ¬ X g := fun {cur T fz} e t hX => by
      obtain ⟨cur', T', fz', e', a, b, c⟩ := h.xs g hX
      rw [e] at e'
      injection e' with e'; injection e' with _ e' _
      rcases t with t | t | t
      · exact a (e' ▸ t)
      · exact b (e' ▸ t)
      · exact c (e' ▸ t)
    rcases hg with hg | hg | hg
    · obtain ⟨cur, fz, T, e, t⟩ := h1.typ hg
      refine ⟨?_, ty e (t.elim .inl (fun t => .inr (.inl t)))⟩
      rcases hg with rfl | hg
      · exact h.ge
      · exact h3 g hg
    · subst hg
      obtain ⟨cur, fz, e⟩ := h2.heap
      exact ⟨h.lge, ty e (.inr (.inr rfl))⟩
    · exact h4 g hg
  refine key.mono fun e w' ⟨he, O', R', hr', hl', hO', hR', k⟩ => ⟨he, ?_⟩
  have k' : Keeps (fun g => B.heap.size ≤ g ∧ ¬ X g) w w' := k.mono (fun g _ hg => hS g hg)
  refine ⟨⟨⟨O', R', hr', hl', fun g hg => (hO' g hg).elim (h3 g) (Nat.le_trans h.size), fun g hg => (hR' g hg).elim (h4 g) (fun hge => ⟨Nat.le_trans h.size hge, fun hX => Nat.lt_irrefl _ (Nat.lt_of_lt_of_le (h.xlt hX) hge)⟩)⟩, h.below.trans (k'.below h.size (fun g hg e => by have := e.1; omega)), h.ge, h.lge, fun g hg => ?_⟩, k'⟩
  obtain ⟨cur, T, fz, e, r⟩ := h.xs g hg
  exact ⟨cur, T, fz, by rw [k'.block g (lt_of_heap e) (fun e => e.2 hg)]; exact e, r⟩

theorem LOp.to {f : FuncId} {args : Array Value} {val val' : Value} {σ1 : St} {l1 : Lg} (hc : LOp w f args L D σ σ1 l l1 val) (hS : σ1 = σ') (hL : l1 = l') (hv : val = val') : LOp w f args L D σ σ' l l' val' := hS ▸ hL ▸ hv ▸ hc
theorem JW.rewriteTo (h : JW B w D L σ l X) (p : Option Addr) (c n : Nat) (rs : List ByteArray) (hn : rs.length = n) (q : Nat) (hF : FitQ σ q) (hq : q ≤ 800000000) (hrs : (formsL rs).length ≤ 100000000)
    (hv : Rw 1 strE w (.slice p n c) rs) (hne : ∀ a, p = some a → rs ≠ [] → a.block < B.heap.size ∨ ∃ cur fz, w.heap[a.block]? = some (.cells cur 9 fz)) (E : Int) (hE : (((rewP σ l.f rs).1 : Nat) : Int) = E) (hS : (rewP σ l.f rs).2 = σ') (hL : rewL σ l rs = l') :
    Calls Try.prog 13 #[.pointer (some ⟨L, 0, none⟩), .slice p n c] w fun e w' => e = .returned (.int .i64 E) ∧ JAfter B w w' D L σ' l' X :=
  (h.rewrite p c n rs hn q hF hq hrs hv hne).mono fun e w' ⟨he, h'⟩ => ⟨hE ▸ he, hS ▸ hL ▸ h'⟩

theorem JW.all (h : JW B w D L σ l X) : Calls Try.prog 16 #[.pointer (some ⟨L, 0, none⟩)] w fun e w' => ∃ v', e = .returned v' ∧ Own w' w.heap.size 9 v' (l.rows.map Value.string) ∧ JW B w' D L σ l X ∧ Below w.heap.size w w' := by
  obtain ⟨O, R, h1, h2, h3, h4⟩ := h.is
  exact (jAll_any w L D l R h2).mono fun e w' ⟨v', he, hO, hb⟩ => ⟨v', he, hO, h.of_below hb, hb⟩
theorem JW.sureOf (h : JW B w D L σ l X) : Calls Try.prog 17 #[.pointer (some ⟨L, 0, none⟩)] w fun e w' => e = .returned (.int .i64 (l.sure : Nat)) ∧ w = w' := by
  obtain ⟨O, R, h1, h2, h3, h4⟩ := h.is
  exact jSure_any w L D l R h2

/-- a log is opened on the disk: the law goes on with it -/
theorem One.openYes (h : One B w D σ) (f : Int) (rs : List ByteArray) (hp : openP σ f = (0, rs)) (hX : ∀ g, X g → ∃ cur T fz, w.heap[g]? = some (.cells cur T fz) ∧ T ≠ 70 ∧ T ≠ 91 ∧ T ≠ 64) :
    Calls Try.prog 10 #[.pointer (some ⟨D, 0, none⟩), .int .i64 f] w fun e w' => ∃ L, e = .returned (.tuple #[.pointer (some ⟨L, 0, none⟩), .int .i64 0]) ∧ JW B w' D L σ ⟨f.toNat, rs, rs.length⟩ X ∧ Keeps (fun _ => False) w w' ∧ w.heap.size ≤ L := by
  obtain ⟨O, hr, hO⟩ := h.is
  refine (jOpen_any w D σ O f hr).mono fun e w' ho => ?_
  have k := ho.keeps
  rcases ho.is with ⟨hn, _⟩ | ⟨_, L, R, he, hl, hL, hR⟩
  · rw [hp] at hn; exact absurd rfl hn
  · rw [hp] at hl
    refine ⟨L, he, ⟨⟨O, R, hr.next k, hl, hO, fun g hg => ⟨Nat.le_trans h.size (hR g hg), fun hx => ?_⟩⟩, h.below.trans (k.below h.size (fun _ _ h => h)), h.ge, Nat.le_trans h.size hL, fun g hg => ?_⟩, k, hL⟩
    · obtain ⟨cur, T, fz, e, _⟩ := hX g hx
      exact Nat.lt_irrefl _ (Nat.lt_of_lt_of_le (lt_of_heap e) (hR g hg))
    · obtain ⟨cur, T, fz, e, r⟩ := hX g hg
      exact ⟨cur, T, fz, by rw [k.block g (lt_of_heap e) (fun h => h)]; exact e, r⟩
theorem One.openNo (h : One B w D σ) (f : Int) (E : Nat) (rs : List ByteArray) (hp : openP σ f = (E, rs)) (hE : E ≠ 0) :
    Calls Try.prog 10 #[.pointer (some ⟨D, 0, none⟩), .int .i64 f] w fun e w' => e = .returned (.tuple #[.pointer none, .int .i64 (E : Nat)]) ∧ One B w' D σ ∧ Keeps (fun _ => False) w w' := by
  obtain ⟨O, hr, hO⟩ := h.is
  refine (jOpen_any w D σ O f hr).mono fun e w' ho => ?_
  rcases ho.is with ⟨_, he⟩ | ⟨h0, _⟩
  · rw [hp] at he
    exact ⟨he, h.next ho.keeps, ho.keeps⟩
  · rw [hp] at h0; exact absurd h0 hE
end

end Go.Proofs.Ytmcdfhihfcfbaaa.W
