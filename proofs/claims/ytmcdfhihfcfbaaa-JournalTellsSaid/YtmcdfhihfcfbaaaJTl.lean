import Derived.Test.YtmcdfhihfcfbaaaJRe
import Derived.Test.YtmcdfhihfcfbaaaJFw
import Derived.Test.YtmcdfhihfcfbaaaJW
import Derived.Lib.QuietBelow
/-
  JournalTells: both disks and both logs in memory; the walk of the law.
-/
namespace Go.Proofs.Ytmcdfhihfcfbaaa.W
open Go.RowKit Go.Sort
set_option linter.unusedVariables false

/-- both disks, the program's in the state σ, the reference's in τ -/
structure DT (A w : World) (D E : Nat) (σ τ : St) : Prop where
  is : ∃ O Z, Rep w D σ O ∧ @RRep ⟨Z⟩ w A.heap.size E τ ∧ (∀ g, O = some g → A.heap.size ≤ g)
  below : Below A.heap.size A w
  ge : A.heap.size ≤ D

/-- .. and the program's log -/
structure HT (A w : World) (D L E : Nat) (σ : St) (l : Lg) (τ : St) : Prop where
  is : ∃ O R, Rep w D σ O ∧ LRep w L D l R ∧ @RRep ⟨fun g => R = some g⟩ w A.heap.size E τ ∧ (∀ g, O = some g → A.heap.size ≤ g) ∧ (∀ g, R = some g → A.heap.size ≤ g)
  below : Below A.heap.size A w
  ge : A.heap.size ≤ D
  lge : A.heap.size ≤ L

/-- both disks and both logs -/
structure JT (A w : World) (D L E M : Nat) (σ : St) (l : Lg) (τ : St) (m : Lg) : Prop where
  is : ∃ O R P, Rep w D σ O ∧ LRep w L D l R ∧ @RRep (oth (fun g => R = some g) P) w A.heap.size E τ ∧ RLog w M E m P ∧ (∀ g, O = some g → A.heap.size ≤ g) ∧ (∀ g, R = some g → A.heap.size ≤ g ∧ P ≠ some g) ∧ (∀ g, P = some g → A.heap.size ≤ g)
  below : Below A.heap.size A w
  ge : A.heap.size ≤ D
  lge : A.heap.size ≤ L
  mge : A.heap.size ≤ M

/-- .. behind an operation: a law's own struct stands -/
structure JTA (A w w' : World) (D L E M : Nat) (σ : St) (l : Lg) (τ : St) (m : Lg) : Prop where
  jt : JT A w' D L E M σ l τ m
  box : ∀ b vs, Blk w b 34 vs → Blk w' b 34 vs

theorem rrep_lt {O : Others} {w : World} {B E : Nat} {σ : St} (h : @RRep O w B E σ) (g : Nat) (hg : O.X g) : g < w.heap.size := by
  obtain ⟨_, _, _, _, hl, _⟩ := @RRep.is O _ _ _ _ h
  exact @LRow.lt O _ _ _ _ hl g hg

section
variable {A w w' : World} {D L E M : Nat} {σ σ' τ τ' : St} {l l' m m' : Lg}

theorem JT.dt (h : JT A w D L E M σ l τ m) : DT A w D E σ τ := by
  obtain ⟨O, R, P, h1, h2, h3, h4, h5, h6, h7⟩ := h.is
  exact ⟨⟨O, _, h1, h3, h5⟩, h.below, h.ge⟩
theorem JT.size (h : JT A w D L E M σ l τ m) : A.heap.size ≤ w.heap.size := h.below.size
theorem blk_typ {b : Nat} {T : TypeId} {vs : List Value} (hb : Blk w b T vs) {cur : Array Value} {T' : TypeId} {fz : Nat × Nat} (h : w.heap[b]? = some (.cells cur T' fz)) : T = T' := by
  rw [hb.is] at h
  injection h with h; injection h with _ h _

theorem JT.next (h : JT A w D L E M σ l τ m) (k : Keeps (fun _ => False) w w') : JT A w' D L E M σ l τ m := by
  obtain ⟨O, R, P, h1, h2, h3, h4, h5, h6, h7⟩ := h.is
  exact ⟨⟨O, R, P, h1.next k, h2.next k, @RRep.next (oth _ P) _ _ _ _ _ h3 k, h4.next k, h5, h6, h7⟩, h.below.trans (k.below h.below.size (fun _ _ h => h)), h.ge, h.lge, h.mge⟩
theorem keeps_of_below {a b : World} (h : Below a.heap.size a b) : Keeps (fun _ => False) a b := Keeps.of_below h (fun k h1 h2 => absurd h1 (Nat.not_lt.2 h2))
theorem JT.of_below (h : JT A w D L E M σ l τ m) (hb : Below w.heap.size w w') : JT A w' D L E M σ l τ m := h.next (keeps_of_below hb)
theorem DT.next (h : DT A w D E σ τ) (k : Keeps (fun _ => False) w w') : DT A w' D E σ τ := by
  obtain ⟨O, Z, h1, h2, h3⟩ := h.is
  exact ⟨⟨O, Z, h1.next k, @RRep.next ⟨Z⟩ _ _ _ _ _ h2 k, h3⟩, h.below.trans (k.below h.below.size (fun _ _ h => h)), h.ge⟩
theorem HT.dt (h : HT A w D L E σ l τ) : DT A w D E σ τ := by
  obtain ⟨O, R, h1, h2, h3, h4, h5⟩ := h.is
  exact ⟨⟨O, _, h1, h3, h4⟩, h.below, h.ge⟩

/-- an operation of the program's -/
theorem JT.after {O R O' R' P : Option Nat} (h : JT A w D L E M σ l τ m) (h1 : Rep w D σ O) (h2 : LRep w L D l R) (h3 : @RRep (oth (fun g => R = some g) P) w A.heap.size E τ) (h4 : RLog w M E m P) (h5 : ∀ g, O = some g → A.heap.size ≤ g) (h6 : ∀ g, R = some g → A.heap.size ≤ g ∧ P ≠ some g) (h7 : ∀ g, P = some g → A.heap.size ≤ g)
    (hr' : Rep w' D σ' O') (hl' : LRep w' L D l' R') (hO' : ∀ g, O' = some g → O = some g ∨ w.heap.size ≤ g) (hR' : ∀ g, R' = some g → R = some g ∨ w.heap.size ≤ g) (k : Keeps (fun g => (g = D ∨ O = some g) ∨ (g = L ∨ R = some g)) w w') : JTA A w w' D L E M σ' l' τ m := by
  obtain ⟨cL, fL, hL⟩ := h2.heap
  obtain ⟨cM, fM, hM⟩ := h4.heap
  have sz := h.below.size
  have noM : ¬ ((M = D ∨ O = some M) ∨ (M = L ∨ R = some M)) := by
    rintro (e | e | e)
    · exact h1.not_typ hM (by decide) (by decide) e
    · subst e; rw [hL] at hM; injection hM with hM; injection hM with _ e _; exact absurd e (by decide)
    · obtain ⟨c, f, hR⟩ := h2.rowHeap e
      rw [hR] at hM; injection hM with hM; injection hM with _ e _; exact absurd e (by decide)
  have noP : ∀ g, P = some g → ¬ ((g = D ∨ O = some g) ∨ (g = L ∨ R = some g)) := by
    intro g hg
    obtain ⟨c, f, hP⟩ := h4.rowHeap hg
    rintro (e | e | e)
    · exact h1.not_typ hP (by decide) (by decide) e
    · subst e; rw [hL] at hP; injection hP with hP; injection hP with _ e _; exact absurd e (by decide)
    · exact (h6 g e).2 hg
  have hl4 := h4.keeps k noM noP
  refine ⟨⟨⟨O', R', P, hr', hl', ?_, hl4, fun g hg => (hO' g hg).elim (h5 g) (Nat.le_trans sz), fun g hg => ?_, h7⟩, h.below.trans (k.below sz ?_), h.ge, h.lge, h.mge⟩, fun b vs hb => k.blk hb ?_⟩
  · refine RRep.shift (O := oth (fun g => R = some g) P) (O' := oth (fun g => R' = some g) P) h3 k ?_ ?_ ?_
    · intro g hg
      rcases hg with hg | rfl | hg
      · obtain ⟨c, f, T, hT, hT2⟩ := h1.typ hg
        rcases hT2 with rfl | rfl <;> exact .inr ⟨c, _, f, hT, by decide, by decide, by decide, by decide⟩
      · exact .inr ⟨_, _, _, hL, by decide, by decide, by decide, by decide⟩
      · exact .inl ⟨.inl hg, h2.rowHeap hg⟩
    · rintro g (hg | hg)
      · exact (hR' g hg).imp_left .inl
      · exact .inl (.inr hg)
    · rintro g (hg | hg)
      · exact hl'.rowLt hg
      · exact hl4.rowLt hg
  · rcases hR' g hg with e | e
    · exact h6 g e
    · exact ⟨Nat.le_trans sz e, fun e' => Nat.lt_irrefl _ (Nat.lt_of_lt_of_le (h4.rowLt e') e)⟩
  · rintro g hg (hs | rfl | hs)
    · rcases hs with rfl | hs
      · have := h.ge; omega
      · have := h5 g hs; omega
    · have := h.lge; omega
    · have := (h6 g hs).1; omega
  · rintro (e | rfl | e)
    · exact h1.not_typ hb.is (by decide) (by decide) e
    · exact absurd (blk_typ hb hL) (by decide)
    · obtain ⟨c, f, hR⟩ := h2.rowHeap e
      exact absurd (blk_typ hb hR) (by decide)

theorem JT.prog {f : FuncId} {args : Array Value} {val : Value} (h : JT A w D L E M σ l τ m) (hc : LOp w f args L D σ σ' l l' val) : Calls Try.prog f args w fun e w' => e = .returned val ∧ JTA A w w' D L E M σ' l' τ m := by
  obtain ⟨O, R, P, h1, h2, h3, h4, h5, h6, h7⟩ := h.is
  exact (hc.run O R h1 h2).mono fun e w' ⟨he, O', R', hr', hl', hO', hR', k⟩ => ⟨he, h.after h1 h2 h3 h4 h5 h6 h7 hr' hl' hO' hR' k⟩

theorem JT.rewrite (h : JT A w D L E M σ l τ m) (p : Option Addr) (c n : Nat) (rs : List ByteArray) (hn : rs.length = n) (q : Nat) (hF : FitQ σ q) (hq : q ≤ 800000000) (hrs : (formsL rs).length ≤ 100000000)
    (hv : Rw 1 strE w (.slice p n c) rs) (hne : ∀ a, p = some a → rs ≠ [] → a.block < A.heap.size) {X : Int} (hX : (((rewP σ l.f rs).1 : Nat) : Int) = X) (hS : (rewP σ l.f rs).2 = σ') (hL : rewL σ l rs = l') :
    Calls Try.prog 13 #[.pointer (some ⟨L, 0, none⟩), .slice p n c] w fun e w' => e = .returned (.int .i64 X) ∧ JTA A w w' D L E M σ' l' τ m := by
  subst hn hX hS hL
  obtain ⟨O, R, P, h1, h2, h3, h4, h5, h6, h7⟩ := h.is
  refine (jRewrite_any w L D p c rs l R σ O q hF hq hrs h1 h2 hv (fun a ha h0 e => ?_)).mono fun e w' ⟨he, O', R', hr', hl', hO', hR', k⟩ => ⟨he, h.after h1 h2 h3 h4 h5 h6 h7 hr' hl' hO' hR' k⟩
  have := hne a ha h0
  rcases e with e | e
  · have := h.ge; omega
  · have := h5 _ e; omega

/-- an operation of the reference's -/
theorem JT.ref {f : FuncId} {args : Array Value} {val : Value} (h : JT A w D L E M σ l τ m)
    (hc : ∀ (Z : Nat → Prop) P, @RRep (oth Z P) w A.heap.size E τ → RLog w M E m P → Calls Try.prog f args w fun e w' => e = .returned val ∧ RLAfter Z A.heap.size M E τ' m' P w w') : Calls Try.prog f args w fun e w' => e = .returned val ∧ JTA A w w' D L E M σ l τ' m' := by
  obtain ⟨O, R, P, h1, h2, h3, h4, h5, h6, h7⟩ := h.is
  refine (hc _ P h3 h4).mono fun e w' ⟨he, P', hr', hl', hP', k⟩ => ⟨he, ?_⟩
  have sz := h.below.size
  obtain ⟨cL, fL, hL⟩ := h2.heap
  obtain ⟨cM, fM, hM⟩ := h4.heap
  have no : ∀ {g cur T fz}, w.heap[g]? = some (Obj.cells cur T fz) → T ≠ 88 → T ≠ 9 → T ≠ 109 → T ≠ 56 → ¬ RLS (fun g => R = some g) P A.heap.size M w g := by
    intro g cur T fz hg t1 t2 t3 t4 hs
    rcases hs with hs | rfl | hs
    · exact @RS.not_typ (oth _ P) _ _ _ _ _ _ hg t1 t2 t3 hs
    · rw [hM] at hg; injection hg with hg; injection hg with _ e _; exact t4 e.symm
    · obtain ⟨c, f, hP⟩ := h4.rowHeap hs
      rw [hP] at hg; injection hg with hg; injection hg with _ e _; exact t2 e.symm
  have noD : ∀ g, (g = D ∨ O = some g) → ¬ RLS (fun g => R = some g) P A.heap.size M w g := fun g hg => by
    obtain ⟨c, f, T, hT, hT2⟩ := h1.typ hg
    rcases hT2 with rfl | rfl <;> exact no hT (by decide) (by decide) (by decide) (by decide)
  have noR : ∀ g, R = some g → ¬ RLS (fun g => R = some g) P A.heap.size M w g := fun g hg hs => by
    obtain ⟨c, f, hR⟩ := h2.rowHeap hg
    rcases hs with hs | rfl | hs
    · exact @RS.not_x (oth (fun g => R = some g) P) _ _ _ _ _ hR (.inl hg) hs
    · rw [hM] at hR; injection hR with hR; injection hR with _ e _; exact absurd e (by decide)
    · exact (h6 g hg).2 hs
  refine ⟨⟨⟨O, R, P', h1.keeps k (noD D (.inl rfl)) (fun g hg => noD g (.inr hg)) (fun g cur fz hg => no hg (by decide) (by decide) (by decide) (by decide)), h2.keeps k (no hL (by decide) (by decide) (by decide) (by decide)) noR, hr', hl', h5, fun g hg => ⟨(h6 g hg).1, fun e => ?_⟩, fun g hg => (hP' g hg).elim (h7 g) (Nat.le_trans sz)⟩, h.below.trans (k.below sz ?_), h.ge, h.lge, h.mge⟩, fun b vs hb => k.blk hb (no hb.is (by decide) (by decide) (by decide) (by decide))⟩
  · rcases hP' g e with e | e
    · exact (h6 g hg).2 e
    · exact Nat.lt_irrefl _ (Nat.lt_of_lt_of_le (h2.rowLt hg) e)
  · rintro g hg (hs | rfl | hs)
    · have := hs.1; omega
    · have := h.mge; omega
    · have := h7 g hs; omega

/-- an operation of the reference's disk -/
theorem JT.rdisk {f : FuncId} {args : Array Value} {val : Value} (h : JT A w D L E M σ l τ m)
    (hc : ∀ O, @RRep O w A.heap.size E τ → Calls Try.prog f args w fun e w' => e = .returned val ∧ @RRep O w' A.heap.size E τ' ∧ @RK O A.heap.size w w') : Calls Try.prog f args w fun e w' => e = .returned val ∧ JTA A w w' D L E M σ l τ' m :=
  h.ref (fun Z P hr hl => (hc (oth Z P) hr).mono fun e w' ⟨he, hr', k⟩ => ⟨he, RLAfter.of hr' (hl.rk k) k⟩)

/-- the program's log is opened -/
theorem DT.openYes (h : DT A w D E σ τ) (f : Int) (rs : List ByteArray) (hp : openP σ f = (0, rs)) : Calls Try.prog 10 #[.pointer (some ⟨D, 0, none⟩), .int .i64 f] w fun e w' => ∃ L, e = .returned (.tuple #[.pointer (some ⟨L, 0, none⟩), .int .i64 0]) ∧ HT A w' D L E σ ⟨f.toNat, rs, rs.length⟩ τ := by
  obtain ⟨O, Z, h1, h2, h3⟩ := h.is
  refine (jOpen_any w D σ O f h1).mono fun e w' ho => ?_
  have k := ho.keeps
  rcases ho.is with ⟨hn, _⟩ | ⟨_, L, R, he, hl, hL, hR⟩
  · rw [hp] at hn; exact absurd rfl hn
  · rw [hp] at hl
    refine ⟨L, he, ⟨O, R, h1.next k, hl, ?_, h3, fun g hg => Nat.le_trans h.below.size (hR g hg)⟩, h.below.trans (k.below h.below.size (fun _ _ h => h)), h.ge, Nat.le_trans h.below.size hL⟩
    exact RRep.shift (O := ⟨Z⟩) (O' := ⟨fun g => R = some g⟩) h2 k (fun g h => h.elim) (fun g hg => .inr (hR g hg)) (fun g hg => hl.rowLt hg)
theorem DT.openNo (h : DT A w D E σ τ) (f : Int) (X : Nat) (rs : List ByteArray) (hp : openP σ f = (X, rs)) (hX : X ≠ 0) : Calls Try.prog 10 #[.pointer (some ⟨D, 0, none⟩), .int .i64 f] w fun e w' => e = .returned (.tuple #[.pointer none, .int .i64 (X : Nat)]) ∧ DT A w' D E σ τ := by
  obtain ⟨O, Z, h1, h2, h3⟩ := h.is
  refine (jOpen_any w D σ O f h1).mono fun e w' ho => ?_
  rcases ho.is with ⟨_, he⟩ | ⟨h0, _⟩
  · rw [hp] at he
    exact ⟨he, h.next ho.keeps⟩
  · rw [hp] at h0; exact absurd h0 hX
/-- the reference's log is opened -/
theorem HT.ropenYes (h : HT A w D L E σ l τ) (hq : τ.queue.length ≤ 1000000000) (f : Int) (rs : List ByteArray) (hp : openP τ f = (0, rs)) : Calls Try.prog 21 #[.pointer (some ⟨E, 0, none⟩), .int .i64 f] w fun e w' => ∃ M, e = .returned (.tuple #[.pointer (some ⟨M, 0, none⟩), .int .i64 0]) ∧ JT A w' D L E M σ l τ ⟨f.toNat, rs, rs.length⟩ := by
  obtain ⟨O, R, h1, h2, h3, h4, h5⟩ := h.is
  refine (@ropen_any ⟨fun g => R = some g⟩ w A.heap.size E τ f hq h3).mono fun e w' ho => ?_
  have k := ho.keeps
  rcases ho.is with ⟨hn, _⟩ | ⟨_, M, P, he, hl, hM, hP⟩
  · rw [hp] at hn; exact absurd rfl hn
  · rw [hp] at hl
    refine ⟨M, he, ⟨O, R, P, h1.next k, h2.next k, ?_, hl, h4, fun g hg => ⟨h5 g hg, fun e => ?_⟩, fun g hg => Nat.le_trans h.below.size (hP g hg)⟩, h.below.trans (k.below h.below.size (fun _ _ h => h)), h.ge, h.lge, Nat.le_trans h.below.size hM⟩
    · refine RRep.shift (O := ⟨fun g => R = some g⟩) (O' := oth (fun g => R = some g) P) h3 k (fun g h => h.elim) ?_ ?_
      · rintro g (hg | hg)
        · exact .inl hg
        · exact .inr (hP g hg)
      · rintro g (hg | hg)
        · exact Nat.lt_of_lt_of_le (h2.rowLt hg) k.size
        · exact hl.rowLt hg
    · exact Nat.lt_irrefl _ (Nat.lt_of_lt_of_le (h2.rowLt hg) (hP g e))
theorem DT.ropenNo (h : DT A w D E σ τ) (hq : τ.queue.length ≤ 1000000000) (f : Int) (X : Nat) (rs : List ByteArray) (hp : openP τ f = (X, rs)) (hX : X ≠ 0) : Calls Try.prog 21 #[.pointer (some ⟨E, 0, none⟩), .int .i64 f] w fun e w' => e = .returned (.tuple #[.pointer none, .int .i64 (X : Nat)]) ∧ DT A w' D E σ τ := by
  obtain ⟨O, Z, h1, h2, h3⟩ := h.is
  refine (@ropen_any ⟨Z⟩ w A.heap.size E τ f hq h2).mono fun e w' ho => ?_
  rcases ho.is with ⟨_, he⟩ | ⟨h0, _⟩
  · rw [hp] at he
    exact ⟨he, h.next ho.keeps⟩
  · rw [hp] at h0; exact absurd h0 hX

/-- the two disks are new -/
theorem One.dt (h : One A w D σ) : Calls Try.prog 20 #[] w fun e w' => ∃ E, e = .returned (.pointer (some ⟨E, 0, none⟩)) ∧ DT A w' D E σ newS := by
  obtain ⟨O, h1, h2⟩ := h.is
  exact (@rnew_any ⟨fun _ => False⟩ w A.heap.size (fun g h => h.elim) h.below.size).mono fun e w' ⟨E, he, hr, k⟩ => ⟨E, he, ⟨O, _, h1.next k, hr, h2⟩, h.below.trans (k.below h.below.size (fun _ _ h => h)), h.ge⟩

theorem JT.all (h : JT A w D L E M σ l τ m) : Calls Try.prog 16 #[.pointer (some ⟨L, 0, none⟩)] w fun e w' => ∃ v', e = .returned v' ∧ Rw 1 strE w' v' l.rows ∧ Below w.heap.size w w' := by
  obtain ⟨O, R, P, h1, h2, h3, h4, h5, h6, h7⟩ := h.is
  exact (jAll_any w L D l R h2).mono fun e w' ⟨v', he, hO, hb⟩ => ⟨v', he, rows_rw hO.base0, hb⟩
theorem JT.sure (h : JT A w D L E M σ l τ m) : Calls Try.prog 17 #[.pointer (some ⟨L, 0, none⟩)] w fun e w' => e = .returned (.int .i64 (l.sure : Nat)) ∧ w = w' := by
  obtain ⟨O, R, P, h1, h2, h3, h4, h5, h6, h7⟩ := h.is
  exact jSure_any w L D l R h2
/-- the reference's rows -/
theorem JT.rcells (h : JT A w D L E M σ l τ m) : ∃ v, Blk w M 56 (rlCells E m.f v m.sure) ∧ Rw 1 strE w v m.rows := by
  obtain ⟨O, R, P, h1, h2, h3, h4, h5, h6, h7⟩ := h.is
  obtain ⟨v, hb, hO, _⟩ := h4.is
  exact ⟨v, hb, rows_rw hO⟩
theorem JT.read (h : JT A w D L E M σ l τ m) (f : Int) (s : ByteArray) (c : Int) (hL : readL σ f = s.data.toList) (hE : ((mayS σ f : Nat) : Int) = c) : Calls Try.prog 32 #[.pointer (some ⟨D, 0, none⟩), .int .i64 f] w fun e w' => e = .returned (.tuple #[.string s, .int .i64 c]) ∧ JT A w' D L E M σ l τ m := by
  obtain ⟨O, R, P, h1, _⟩ := h.is
  exact (read_any w D σ O f h1).mono fun e w' ⟨he, k⟩ => ⟨by rw [he, hL, hE, strV_of], h.next k⟩
theorem JT.rread (h : JT A w D L E M σ l τ m) (hq : τ.queue.length ≤ 1000000000) (f : Int) (s : ByteArray) (c : Int) (hL : readL τ f = s.data.toList) (hE : ((mayS τ f : Nat) : Int) = c) : Calls Try.prog 33 #[.pointer (some ⟨E, 0, none⟩), .int .i64 f] w fun e w' => e = .returned (.tuple #[.string s, .int .i64 c]) ∧ JT A w' D L E M σ l τ m := by
  obtain ⟨O, R, P, h1, h2, h3, _⟩ := h.is
  exact (@rread_any (oth _ P) w A.heap.size E τ f hq h3).mono fun e w' ⟨he, k⟩ => ⟨by rw [he, hL, hE, strV_of], h.next k⟩
end

end Go.Proofs.Ytmcdfhihfcfbaaa.W

/-
  JournalTells: the walk of the law.
-/
namespace Go.Proofs.Ytmcdfhihfcfbaaa.W
open Go.RowKit Go.Sort
set_option linter.unusedVariables false

theorem open_new (f : Int) : (0 ≤ f ∧ f ≤ 6 ∧ openP newS f = (0, [])) ∨ openP newS f = (1, []) := by
  by_cases h : f < 0 ∨ 6 < f
  · exact .inr (by unfold openP; rw [if_pos h])
  · refine .inl ⟨by omega, by omega, ?_⟩
    obtain ⟨F, rfl⟩ : ∃ F : Nat, f = (F : Int) := ⟨f.toNat, by omega⟩
    have hF : F = 0 ∨ F = 1 ∨ F = 2 ∨ F = 3 ∨ F = 4 ∨ F = 5 ∨ F = 6 := by omega
    rcases hF with rfl | rfl | rfl | rfl | rfl | rfl | rfl
    · exact (by kernel_rfl : openP newS 0 = (0, []))
    · exact (by kernel_rfl : openP newS 1 = (0, []))
    · exact (by kernel_rfl : openP newS 2 = (0, []))
    · exact (by kernel_rfl : openP newS 3 = (0, []))
    · exact (by kernel_rfl : openP newS 4 = (0, []))
    · exact (by kernel_rfl : openP newS 5 = (0, []))
    · exact (by kernel_rfl : openP newS 6 = (0, []))
theorem forms_len (rs : List ByteArray) (k : Nat) (h : ∀ r ∈ rs, r.size ≤ k) : (formsL rs).length ≤ rs.length * (8 + k) := by
  induction rs with
  | nil => simp [formsL]
  | cons r rs ih =>
    rw [formsL_cons, List.length_append, formL_len, List.length_cons, Nat.add_mul]
    have := ih (fun x hx => h x (List.mem_cons_of_mem _ hx))
    have := h r (List.mem_cons_self ..)
    omega
theorem crash_op {A w : World} {D L E M : Nat} {σ τ : St} {l m : Lg} (W : World) (h : JT A w D L E M σ l τ m) (hW : Below W.heap.size W A) {v : Value} {ks : List Int} (hv : Rw 1 intE W v ks) (hk : ks.length ≤ 60) (hF : Fit σ) : Calls Try.prog 24 #[.pointer (some ⟨D, 0, none⟩), v] w fun e w' => e = .returned (.tuple #[]) ∧ JTA A w w' D L E M (crashS σ ks) l τ m :=
  h.prog (OpC.lop (OpC.crash v ks _ (by omega) hF ((hv.ir (Below.chain hW h.below)).mono (fun g e => by subst e; have := h.ge; have := hW.size; omega)) rfl))
theorem rcrash_op {A w : World} {D L E M : Nat} {σ τ : St} {l m : Lg} (W : World) (h : JT A w D L E M σ l τ m) (hW : Below W.heap.size W A) {v : Value} {ks : List Int} (hv : Rw 1 intE W v ks) (hk : ks.length ≤ 60) (hF : Fit τ) : Calls Try.prog 25 #[.pointer (some ⟨E, 0, none⟩), v] w fun e w' => e = .returned (.tuple #[]) ∧ JTA A w w' D L E M σ l (crashS τ ks) m :=
  h.rdisk (fun O hr => @rcrash_any O w A.heap.size E τ v ks h.below.size hF.q (by omega) ((hv.ir (Below.chain hW h.below)).mono (fun g e => Nat.le_trans hW.size e.1)) hr)
theorem start_op {A w : World} {D L E M : Nat} {σ τ : St} {l m : Lg} (h : JT A w D L E M σ l τ m) : Calls Try.prog 26 #[.pointer (some ⟨D, 0, none⟩)] w fun e w' => e = .returned (.tuple #[]) ∧ JTA A w w' D L E M (startS σ) l τ m := h.prog (OpC.lop (OpC.start _ rfl))
theorem rstart_op {A w : World} {D L E M : Nat} {σ τ : St} {l m : Lg} (h : JT A w D L E M σ l τ m) : Calls Try.prog 27 #[.pointer (some ⟨E, 0, none⟩)] w fun e w' => e = .returned (.tuple #[]) ∧ JTA A w w' D L E M σ l (startS τ) m := h.rdisk (fun O hr => @rstart_any O w A.heap.size E τ hr)
theorem lose_op {A w : World} {D L E M : Nat} {σ τ : St} {l m : Lg} (h : JT A w D L E M σ l τ m) (n : Int) (hn : n ≤ 9223372036854775807) : Calls Try.prog 28 #[.pointer (some ⟨D, 0, none⟩), .int .i64 n] w fun e w' => e = .returned (.tuple #[]) ∧ JTA A w w' D L E M (loseS σ n) l τ m := h.prog (OpC.lop (OpC.lose n _ hn rfl))
theorem rlose_op {A w : World} {D L E M : Nat} {σ τ : St} {l m : Lg} (h : JT A w D L E M σ l τ m) (n : Int) : Calls Try.prog 30 #[.pointer (some ⟨E, 0, none⟩), .int .i64 n] w fun e w' => e = .returned (.tuple #[]) ∧ JTA A w w' D L E M σ l (loseS τ n) m := h.rdisk (fun O hr => @rlose_any O w A.heap.size E τ n hr)
theorem flu_op {A w : World} {D L E M : Nat} {σ τ : St} {l m : Lg} (h : JT A w D L E M σ l τ m) (q : Nat) (hF : FitQ σ q) (hq : q ≤ 900000000) : Calls Try.prog 12 #[.pointer (some ⟨L, 0, none⟩)] w fun e w' => e = .returned (.int .i64 (fluP σ l).1) ∧ JTA A w w' D L E M (fluP σ l).2 (fluL σ l) τ m := h.prog (jFlush_op w L D l σ q hF hq)
theorem rflu_op {A w : World} {D L E M : Nat} {σ τ : St} {l m : Lg} (h : JT A w D L E M σ l τ m) (q : Nat) (hF : FitQ τ q) (hq : q ≤ 900000000) : Calls Try.prog 22 #[.pointer (some ⟨M, 0, none⟩)] w fun e w' => e = .returned (.int .i64 (fluP τ m).1) ∧ JTA A w w' D L E M σ l (fluP τ m).2 (fluL τ m) := h.ref (fun Z P hr hl => rlFlush_any Z w A.heap.size E M m τ q P h.below.size hF hq hr hl)
theorem app_op {A w : World} {D L E M : Nat} {σ τ : St} {l m : Lg} (h : JT A w D L E M σ l τ m) (q : Nat) (r : ByteArray) (hF : FitQ σ q) (hq : q ≤ 900000000) (hr8 : r.size ≤ 200) : Calls Try.prog 14 #[.pointer (some ⟨L, 0, none⟩), .string r] w fun e w' => e = .returned (.int .i64 (appE σ l r)) ∧ JTA A w w' D L E M (appS σ l r) (appL σ l r) τ m := h.prog (jAppend_op w L D l r σ q hF hq (by omega))
theorem rapp_op {A w : World} {D L E M : Nat} {σ τ : St} {l m : Lg} (h : JT A w D L E M σ l τ m) (q : Nat) (r : ByteArray) (hF : FitQ τ q) (hq : q ≤ 900000000) (hr8 : r.size ≤ 200) : Calls Try.prog 31 #[.pointer (some ⟨M, 0, none⟩), .string r] w fun e w' => e = .returned (.int .i64 (appE τ m r)) ∧ JTA A w w' D L E M σ l (appS τ m r) (appL τ m r) := h.ref (fun Z P hr hl => rlAppend_any Z w A.heap.size E M m r τ q P h.below.size hF hq (by omega) hr hl)
theorem rrew_op {A w : World} {D L E M : Nat} {σ τ : St} {l m : Lg} (h : JT A w D L E M σ l τ m) (q : Nat) (p : Option Addr) (c n : Nat) (rs : List ByteArray) (hF : FitQ τ q) (hq : q ≤ 800000000) (hrs : (formsL rs).length ≤ 100000000)
    (hv : Rw 1 strE w (.slice p n c) rs) (hne : ∀ a, p = some a → rs ≠ [] → a.block < A.heap.size) : Calls Try.prog 23 #[.pointer (some ⟨M, 0, none⟩), .slice p n c] w fun e w' => e = .returned (.int .i64 (rewP τ m.f rs).1) ∧ JTA A w w' D L E M σ l (rewP τ m.f rs).2 (rewL τ m rs) :=
  h.ref (fun Z P hr hl => rlRewrite_any Z w A.heap.size E M m τ q P _ rs h.below.size hF hq hrs hv (fun a n' c' e h0 => hne a (by injection e) h0) hr hl)
/-- the law's own struct -/
theorem JT.box {A w : World} {D L E M : Nat} {σ τ : St} {l m : Lg} (h : JT A w D L E M σ l τ m) (vs : List Value) : JT A (w.alloc (.cells vs.toArray 34)) D L E M σ l τ m := h.next ((Keeps.refl (fun _ => False) w).alloc _)

set_option maxRecDepth 100000 in
set_option maxHeartbeats 8000000 in
theorem tells_any (W : World) (f : Int) (vd : Value) (ds : List Dd) (hf : i64R f) (hv : ArgDeeds W vd ds) :
    Calls Try.prog 5 #[.int .i64 f, vd] W fun e w' => e = .returned (.bool true) ∧ Below W.heap.size W w' := by
  obtain ⟨pv, cv, rfl⟩ := hv.row.slice
  obtain ⟨n, hn⟩ : ∃ n, ds.length = n := ⟨_, rfl⟩
  have HV : Hd (Rw 5 ddE W (.slice pv n cv) ds) := ⟨hn ▸ hv.row⟩
  have HFw := Hd.mk (fun w (hb : Below W.heap.size W w) => few_any w (.slice pv n cv) ds hv.len hv.ok (HV.out.below ddE_stays hb))
  have HOK := Hd.mk hv.ok
  have HN := Hd.mk hn
  rw [hn]
  clear hv hn
  go_enter Try.func5, Try.ntmps5
  go_wp2_with fail
  refine (small_any W).mono ?_; rintro e wa ⟨rfl, hb0⟩
  have B0 := Hd.mk hb0; clear hb0
  go_wp2_with fail
  refine (HFw.out wa B0.out).mono ?_; rintro e wx ⟨rfl, rfl⟩
  rcases hF : fewB ds with _ | _
  · clear hF
    go_wp2
    go_ret
    exact ⟨rfl, B0.out⟩
  have HFP := Hd.mk (few_parts hF)
  clear hF
  have hn30 : n ≤ 30 := by have := HFP.out.len; have := HN.out; omega
  go_wp2_with fail
  refine (One.new wa).mono ?_; rintro e w0 ⟨D, rfl, h0⟩
  have H0 := Hd.mk h0; clear h0
  go_wp2_with fail
  refine (H0.out.dt).mono ?_; rintro e w1 ⟨E, rfl, h1⟩
  have H1 := Hd.mk h1; clear h1 H0
  rcases open_new f with ⟨f0, f6, hop⟩ | hop
  rotate_left
  · have HOp := Hd.mk hop
    clear hop hf
    go_wp2_with fail
    refine (H1.out.openNo f 1 [] HOp.out (by decide)).mono ?_; rintro e w2 ⟨rfl, h2⟩
    have H2 := Hd.mk h2; clear h2 H1
    go_wp2_with fail
    refine (H2.out.ropenNo (by decide) f 1 [] HOp.out (by decide)).mono ?_; rintro e w3 ⟨rfl, h3⟩
    have H3 := Hd.mk h3; clear h3 H2
    go_wp2_with fail
    go_loopw [9, 10, 11, 12, 13] (fun a _ b _ i wr => a = .pointer none ∧ b = .pointer none ∧ i = .int .i64 0 ∧ wr = w3) (fun _ _ _ _ _ _ => 0)
    case atStart => exact ⟨rfl, rfl, rfl, rfl⟩
    case round =>
      obtain ⟨rfl, rfl, rfl, rfl⟩ := hrel
      by_cases hn0 : 0 < n
      · have hd1 : decide ((0 : Int) < (n : Int)) = true := by simp; omega
        go_wp2
        go_ret
        exact ⟨rfl, Below.chain B0.out H3.out.below⟩
      · have hd1 : decide ((0 : Int) < (n : Int)) = false := by simp; omega
        go_wp2
        go_ret
        exact ⟨rfl, Below.chain B0.out H3.out.below⟩
  have HOp := Hd.mk hop
  clear hop hf
  have r1 : IntKind.i64.wrap (f + 1) = f + 1 := IntWalk.i64_in _ (by omega)
  go_wp2_with fail
  refine (H1.out.openYes f [] HOp.out).mono ?_; rintro e w2 ⟨L0, rfl, h2⟩
  have H2 := Hd.mk h2; clear h2 H1
  go_wp2_with fail
  refine (H2.out.ropenYes (by decide) f [] HOp.out).mono ?_; rintro e w3 ⟨M0, rfl, h3⟩
  have H3 := Hd.mk h3; clear h3 H2 HOp
  go_wp2_with fail
  go_loopw [9, 10, 11, 12, 13] (fun a _ b _ i wr => ∃ k L M σ l, k ≤ n ∧ a = .pointer (some ⟨L, 0, none⟩) ∧ b = .pointer (some ⟨M, 0, none⟩) ∧ i = .int .i64 (k : Nat) ∧ Hd (JT wa wr D L E M σ l σ l ∧ FitQ σ (k * 2000))) (fun _ _ _ _ i _ => n - (intOf i).toNat)
  case atStart => exact ⟨0, L0, M0, newS, _, Nat.zero_le _, rfl, rfl, rfl, ⟨H3.out, FitQ.new⟩⟩
  case round =>
    obtain ⟨k, L, M, σ, l, hk, rfl, rfl, rfl, HL⟩ := hrel
    clear H3
    by_cases hlt : k < n
    rotate_left
    · have hd1 : decide ((k : Int) < (n : Int)) = false := by simp; omega
      go_wp2
      go_ret
      exact ⟨rfl, Below.chain B0.out HL.out.1.below⟩
    have hd1 : decide ((k : Int) < (n : Int)) = true := by simp; omega
    have hkl : k < ds.length := HN.out ▸ hlt
    have hbW : Below W.heap.size W wr := Below.chain B0.out HL.out.1.below
    obtain ⟨g, o, cs, rfl, hg, hcl, he, hc⟩ := HV.out.at rfl hkl
    clear hcl
    obtain ⟨rv, kv, rfl, hrv, hkv⟩ := he
    have hmem : ds[k] ∈ ds := List.getElem_mem hkl
    have f1 := HFP.out.row _ hmem
    have f2 := HFP.out.rows _ hmem
    have f3 := HFP.out.each _ hmem
    have f4 := HFP.out.keep _ hmem
    have f5 := (HOK.out _ hmem).n
    obtain ⟨x, hx⟩ : ∃ x, ds[k] = x := ⟨_, rfl⟩
    rw [hx] at hrv hkv hc f1 f2 f3 f4 f5
    obtain ⟨pr, cr, rfl⟩ := hrv.slice
    obtain ⟨pk, ck, rfl⟩ := hkv.slice
    have hc' : ∀ i u, (ddCells x (.slice pr x.rows.length cr) (.slice pk x.keep.length ck))[i]? = some u → wr.cell? ⟨g, o + k * 5 + i, none⟩ = some u := fun i u h => by
      rw [hbW.cell (p := ⟨g, o + k * 5 + i, none⟩) hg]; exact hc i u h
    have c0 : wr.cell? ⟨g, o + k * 5, none⟩ = some (.int .i64 x.d) := hc' 0 _ rfl
    have c1 : wr.cell? ⟨g, o + k * 5 + 1, none⟩ = some (.string x.row) := hc' 1 _ rfl
    have c2 : wr.cell? ⟨g, o + k * 5 + 2, none⟩ = some (.slice pr x.rows.length cr) := hc' 2 _ rfl
    have c3 : wr.cell? ⟨g, o + k * 5 + 3, none⟩ = some (.slice pk x.keep.length ck) := hc' 3 _ rfl
    have c4 : wr.cell? ⟨g, o + k * 5 + 4, none⟩ = some (.int .i64 x.n) := hc' 4 _ rfl
    have hand := i64_and_7 x.d
    obtain ⟨t, ht⟩ : ∃ t, x.d % 8 = t := ⟨_, rfl⟩
    have ht8 : 0 ≤ t ∧ t < 8 := by omega
    rw [ht] at hand
    have hfm := forms_len x.rows 200 f3
    have HNe : Hd (∀ a, pr = some a → x.rows ≠ [] → a.block < wa.heap.size) := ⟨fun a ha h0 => Nat.lt_of_lt_of_le (hrv.blkLt (by rw [ha]) h0) B0.out.size⟩
    have HRv : Hd (∀ w', Below W.heap.size W w' → Rw 1 strE w' (.slice pr x.rows.length cr) x.rows) := ⟨fun w' hb => hrv.below strE_stays hb⟩
    have HKv := Hd.mk hkv
    obtain ⟨nr, hnr⟩ : ∃ nr, x.rows.length = nr := ⟨_, rfl⟩
    obtain ⟨nk, hnk⟩ : ∃ nk, x.keep.length = nk := ⟨_, rfl⟩
    have HNR := Hd.mk hnr
    have HNK := Hd.mk hnk
    have HF4 := Hd.mk f4
    have HF5 := Hd.mk f5
    rw [hnr] at c2 HRv f2 hfm
    rw [hnk] at c3 HKv
    have HFm : Hd ((formsL x.rows).length ≤ 1248) := ⟨Nat.le_trans hfm (by omega)⟩
    have HRow := Hd.mk f1
    -- the box
    obtain ⟨w2, hw2⟩ : ∃ w2, wr.alloc (.cells #[.int .i64 x.d, .string x.row, .slice pr nr cr, .slice pk nk ck, .int .i64 x.n] 34) = w2 := ⟨_, rfl⟩
    obtain ⟨b, hb⟩ : ∃ b, wr.heap.size = b := ⟨_, rfl⟩
    have hbb : Blk w2 b 34 [.int .i64 x.d, .string x.row, .slice pr nr cr, .slice pk nk ck, .int .i64 x.n] := by
      rw [← hb, ← hw2]; exact Blk.new wr 34 _
    have HJ : Hd (JT wa w2 D L E M σ l σ l) := ⟨hw2 ▸ HL.out.1.box [.int .i64 x.d, .string x.row, .slice pr nr cr, .slice pk nk ck, .int .i64 x.n]⟩
    have HBB := Hd.mk hbb
    have b0 : w2.cell? ⟨b, 0, none⟩ = some (.int .i64 x.d) := hbb.at (j := 0) rfl
    have b1 : w2.cell? ⟨b, 1, none⟩ = some (.string x.row) := hbb.at (j := 1) rfl
    have b2 : w2.cell? ⟨b, 2, none⟩ = some (.slice pr nr cr) := hbb.at (j := 2) rfl
    have b3 : w2.cell? ⟨b, 3, none⟩ = some (.slice pk nk ck) := hbb.at (j := 3) rfl
    have b4 : w2.cell? ⟨b, 4, none⟩ = some (.int .i64 x.n) := hbb.at (j := 4) rfl
    have HFt := Hd.mk HL.out.2
    clear hbW hrv hkv hc hc' hmem f1 f2 f3 f4 f5 ht hfm hbb hnr hnk hx hkl HL
    rcases (by omega : t = 3 ∨ t = 4 ∨ t = 5 ∨ t = 6 ∨ t = 7 ∨ t = 0 ∨ t = 1 ∨ t = 2) with rfl | rfl | rfl | rfl | rfl | rfl | rfl | rfl
    · have HA := Hd.mk (flu_op HJ.out _ HFt.out (by omega))
      have HB := Hd.mk (fun (w' : World) (h : JT wa w' D L E M (fluP σ l).2 (fluL σ l) σ l) => rflu_op h _ HFt.out (by omega))
      obtain ⟨X, hX⟩ : ∃ x : Int, (((fluP σ l).1 : Nat) : Int) = x := ⟨_, rfl⟩
      rw [hX] at HA HB
      clear hX
      go_wp2_with fail
      refine HA.out.mono ?_; rintro e w5 ⟨rfl, h5⟩
      have H5 := Hd.mk h5; clear h5 HA HJ
      go_wp2_with fail
      refine (HB.out _ H5.out.jt).mono ?_; rintro e w7 ⟨rfl, h7⟩
      have HJL := Hd.mk h7.jt; clear h7 HB H5 b0 b1 b2 b3 b4 HBB
      obtain ⟨sg, hsg⟩ : ∃ xq, (fluP σ l).2 = xq := ⟨_, rfl⟩
      obtain ⟨lg, hlg⟩ : ∃ xq : Lg, fluL σ l = xq := ⟨_, rfl⟩
      have HJ7 : Hd (JT wa w7 D L E M sg lg sg lg) := ⟨hlg ▸ hsg ▸ HJL.out⟩
      have HF7 : Hd (FitQ sg ((k + 1) * 2000)) := ⟨hsg ▸ (HFt.out.flu l).mono (by omega)⟩
      clear hsg hlg HJL
      obtain ⟨y1, hy1⟩ := bytesOf (readL sg f)
      obtain ⟨y2, hy2⟩ := bytesOf (readL sg (f + 1))
      obtain ⟨z1, hz1⟩ : ∃ z : Int, ((mayS sg f : Nat) : Int) = z := ⟨_, rfl⟩
      obtain ⟨z2, hz2⟩ : ∃ z : Int, ((mayS sg (f + 1) : Nat) : Int) = z := ⟨_, rfl⟩
      have hqq : sg.queue.length ≤ 1000000000 := by have := HF7.out.q; omega
      have R1 := Hd.mk (fun (w' : World) (h : JT wa w' D L E M sg lg sg lg) => h.read f y1 z1 hy1 hz1)
      have R2 := Hd.mk (fun (w' : World) (h : JT wa w' D L E M sg lg sg lg) => h.rread hqq f y1 z1 hy1 hz1)
      have R3 := Hd.mk (fun (w' : World) (h : JT wa w' D L E M sg lg sg lg) => h.read (f + 1) y2 z2 hy2 hz2)
      have R4 := Hd.mk (fun (w' : World) (h : JT wa w' D L E M sg lg sg lg) => h.rread hqq (f + 1) y2 z2 hy2 hz2)
      clear hy1 hy2 hz1 hz2 hqq
      go_wp2_with fail
      refine (R1.out _ HJ7.out).mono ?_; rintro e w8 ⟨rfl, h8⟩
      have H8 := Hd.mk h8; clear h8 HJ7 R1
      go_wp2_with fail
      refine (R2.out _ H8.out).mono ?_; rintro e w9 ⟨rfl, h9⟩
      have H9 := Hd.mk h9; clear h9 H8 R2
      go_wp2_with fail
      refine (R3.out _ H9.out).mono ?_; rintro e w10 ⟨rfl, h10⟩
      have H10 := Hd.mk h10; clear h10 H9 R3
      go_wp2_with fail
      refine (R4.out _ H10.out).mono ?_; rintro e w11 ⟨rfl, h11⟩
      have H11 := Hd.mk h11; clear h11 H10 R4
      obtain ⟨v11, hb11, hr11⟩ := H11.out.rcells
      obtain ⟨p11, c11, rfl⟩ := hr11.slice
      obtain ⟨N11, hN11⟩ : ∃ N, lg.rows.length = N := ⟨_, rfl⟩
      rw [hN11] at hb11 hr11
      have HN11 : Hd (N11 ≤ 9223372036854775807) := ⟨by
        obtain ⟨O, R, P, h1, h2, _⟩ := H11.out.is
        have e1 := h2.ok.e
        have e2 := len_le_forms lg.rows
        unfold endL at e1
        omega⟩
      have HNN := Hd.mk hN11
      have HB11 := Hd.mk hb11
      have HR11 := Hd.mk hr11
      clear hN11 hr11
      go_wp2_with fail
      refine wp_region_lin default (fun w' => Blk w' M 56 (rlCells E lg.f (.slice p11 N11 c11) lg.sure)) [(0, true), (2, true), (3, true), (4, true), (5, true), (1, false), (6, false), (7, true)] (by kernel_rfl) (by kernel_rfl) rfl (by kernel_rfl) (by kernel_rfl) hb11.drew ?_
      simp only [pick, List.getD_cons_zero, List.getD_cons_succ]
      clear hb11
      repeat
        refine lin_free (v := ?_) (by rfl) ?_ ?_
        rotate_left
        · intro w' hSw
          have c2 := hSw.at (j := 2) rfl
          go_simp
          first | done | with_reducible rfl
        simp only [Act.put, List.setIfInBounds_toArray, List.set_cons_zero, List.set_cons_succ]
      refine lin_bound (fun K hK => ?_)
      go_simp
      have hj11 := H11.out.next (Keeps.refl _ _).drew
      refine hj11.all.mono ?_
      rintro e w12 ⟨v12, rfl, hr12, b12⟩
      dsimp only
      have K12 : Hd (Keeps (fun _ => False) w11 w12) := ⟨((Keeps.refl _ _).drew).trans (keeps_of_below b12)⟩
      refine hK.out _ _ (K12.out.blk HB11.out (fun h => h)) ?_
      have HR12 := Hd.mk hr12
      clear hK K hr12 b12 hj11
      refine lin_bound (fun K hK => ?_)
      go_simp
      have hr13 : Rw 1 strE w12 (.slice p11 N11 c11) lg.rows := HR11.out.keepsStr K12.out (fun _ _ _ _ _ _ h => h)
      refine (same_yes w12 _ _ lg.rows (by rw [HNN.out]; exact HN11.out) HR12.out hr13).mono ?_
      rintro e w13 ⟨rfl, b13⟩
      dsimp only
      have K13 : Hd (Keeps (fun _ => False) w11 w13) := ⟨K12.out.trans (keeps_of_below b13)⟩
      refine hK.out _ _ (K13.out.blk HB11.out (fun h => h)) ?_
      clear hK K hr13 b13
      repeat
        refine lin_free (v := ?_) (by rfl) ?_ ?_
        rotate_left
        · intro w' hSw
          go_simp
          first | done | with_reducible rfl
        simp only [Act.put, List.setIfInBounds_toArray, List.set_cons_zero, List.set_cons_succ]
      refine NoPanic.normal ?_
      have H13 := Hd.mk (H11.out.next K13.out)
      have c3' : w13.cell? ⟨M, 3, none⟩ = some (.int .i64 (lg.sure : Nat)) := (K13.out.blk HB11.out (fun h => h)).at (j := 3) rfl
      have HSu := Hd.mk (fun (w' : World) (h : JT wa w' D L E M sg lg sg lg) => (h.sure).mono (fun e w'' (h : _ ∧ _) => And.intro h.1 h.2.symm))
      clear H11 HB11 HR11 HR12 K12 K13 HNN
      go_wp2_with fail
      go_quiet ((go_at_call 17; exact Calls.quiet_of_same (HSu.out _ (H13.out.next ((Keeps.refl _ w13).drewN _)))))
      go_wp2
      go_roundw
      case rel => exact ⟨k + 1, L, M, sg, lg, hlt, rfl, rfl, by go_num, ⟨H13.out.next ((Keeps.refl _ w13).drewN _), HF7.out.mono (by omega)⟩⟩
      case measure => simp [intOf]; omega
    · have HA := Hd.mk (flu_op HJ.out _ HFt.out (by omega))
      have HB := Hd.mk (fun (w' : World) (h : JT wa w' D L E M (fluP σ l).2 (fluL σ l) σ l) => rflu_op h _ HFt.out (by omega))
      obtain ⟨X, hX⟩ : ∃ x : Int, (((fluP σ l).1 : Nat) : Int) = x := ⟨_, rfl⟩
      rw [hX] at HA HB
      clear hX
      go_wp2_with fail
      refine HA.out.mono ?_; rintro e w5 ⟨rfl, h5⟩
      have H5 := Hd.mk h5; clear h5 HA HJ
      go_wp2_with fail
      refine (HB.out _ H5.out.jt).mono ?_; rintro e w7 ⟨rfl, h7⟩
      have HJL := Hd.mk h7.jt; clear h7 HB H5 b0 b1 b2 b3 b4 HBB
      obtain ⟨sg, hsg⟩ : ∃ xq, (fluP σ l).2 = xq := ⟨_, rfl⟩
      obtain ⟨lg, hlg⟩ : ∃ xq : Lg, fluL σ l = xq := ⟨_, rfl⟩
      have HJ7 : Hd (JT wa w7 D L E M sg lg sg lg) := ⟨hlg ▸ hsg ▸ HJL.out⟩
      have HF7 : Hd (FitQ sg ((k + 1) * 2000)) := ⟨hsg ▸ (HFt.out.flu l).mono (by omega)⟩
      clear hsg hlg HJL
      obtain ⟨y1, hy1⟩ := bytesOf (readL sg f)
      obtain ⟨y2, hy2⟩ := bytesOf (readL sg (f + 1))
      obtain ⟨z1, hz1⟩ : ∃ z : Int, ((mayS sg f : Nat) : Int) = z := ⟨_, rfl⟩
      obtain ⟨z2, hz2⟩ : ∃ z : Int, ((mayS sg (f + 1) : Nat) : Int) = z := ⟨_, rfl⟩
      have hqq : sg.queue.length ≤ 1000000000 := by have := HF7.out.q; omega
      have R1 := Hd.mk (fun (w' : World) (h : JT wa w' D L E M sg lg sg lg) => h.read f y1 z1 hy1 hz1)
      have R2 := Hd.mk (fun (w' : World) (h : JT wa w' D L E M sg lg sg lg) => h.rread hqq f y1 z1 hy1 hz1)
      have R3 := Hd.mk (fun (w' : World) (h : JT wa w' D L E M sg lg sg lg) => h.read (f + 1) y2 z2 hy2 hz2)
      have R4 := Hd.mk (fun (w' : World) (h : JT wa w' D L E M sg lg sg lg) => h.rread hqq (f + 1) y2 z2 hy2 hz2)
      clear hy1 hy2 hz1 hz2 hqq
      go_wp2_with fail
      refine (R1.out _ HJ7.out).mono ?_; rintro e w8 ⟨rfl, h8⟩
      have H8 := Hd.mk h8; clear h8 HJ7 R1
      go_wp2_with fail
      refine (R2.out _ H8.out).mono ?_; rintro e w9 ⟨rfl, h9⟩
      have H9 := Hd.mk h9; clear h9 H8 R2
      go_wp2_with fail
      refine (R3.out _ H9.out).mono ?_; rintro e w10 ⟨rfl, h10⟩
      have H10 := Hd.mk h10; clear h10 H9 R3
      go_wp2_with fail
      refine (R4.out _ H10.out).mono ?_; rintro e w11 ⟨rfl, h11⟩
      have H11 := Hd.mk h11; clear h11 H10 R4
      obtain ⟨v11, hb11, hr11⟩ := H11.out.rcells
      obtain ⟨p11, c11, rfl⟩ := hr11.slice
      obtain ⟨N11, hN11⟩ : ∃ N, lg.rows.length = N := ⟨_, rfl⟩
      rw [hN11] at hb11 hr11
      have HN11 : Hd (N11 ≤ 9223372036854775807) := ⟨by
        obtain ⟨O, R, P, h1, h2, _⟩ := H11.out.is
        have e1 := h2.ok.e
        have e2 := len_le_forms lg.rows
        unfold endL at e1
        omega⟩
      have HNN := Hd.mk hN11
      have HB11 := Hd.mk hb11
      have HR11 := Hd.mk hr11
      clear hN11 hr11
      go_wp2_with fail
      refine wp_region_lin default (fun w' => Blk w' M 56 (rlCells E lg.f (.slice p11 N11 c11) lg.sure)) [(0, true), (2, true), (3, true), (4, true), (5, true), (1, false), (6, false), (7, true)] (by kernel_rfl) (by kernel_rfl) rfl (by kernel_rfl) (by kernel_rfl) hb11.drew ?_
      simp only [pick, List.getD_cons_zero, List.getD_cons_succ]
      clear hb11
      repeat
        refine lin_free (v := ?_) (by rfl) ?_ ?_
        rotate_left
        · intro w' hSw
          have c2 := hSw.at (j := 2) rfl
          go_simp
          first | done | with_reducible rfl
        simp only [Act.put, List.setIfInBounds_toArray, List.set_cons_zero, List.set_cons_succ]
      refine lin_bound (fun K hK => ?_)
      go_simp
      have hj11 := H11.out.next (Keeps.refl _ _).drew
      refine hj11.all.mono ?_
      rintro e w12 ⟨v12, rfl, hr12, b12⟩
      dsimp only
      have K12 : Hd (Keeps (fun _ => False) w11 w12) := ⟨((Keeps.refl _ _).drew).trans (keeps_of_below b12)⟩
      refine hK.out _ _ (K12.out.blk HB11.out (fun h => h)) ?_
      have HR12 := Hd.mk hr12
      clear hK K hr12 b12 hj11
      refine lin_bound (fun K hK => ?_)
      go_simp
      have hr13 : Rw 1 strE w12 (.slice p11 N11 c11) lg.rows := HR11.out.keepsStr K12.out (fun _ _ _ _ _ _ h => h)
      refine (same_yes w12 _ _ lg.rows (by rw [HNN.out]; exact HN11.out) HR12.out hr13).mono ?_
      rintro e w13 ⟨rfl, b13⟩
      dsimp only
      have K13 : Hd (Keeps (fun _ => False) w11 w13) := ⟨K12.out.trans (keeps_of_below b13)⟩
      refine hK.out _ _ (K13.out.blk HB11.out (fun h => h)) ?_
      clear hK K hr13 b13
      repeat
        refine lin_free (v := ?_) (by rfl) ?_ ?_
        rotate_left
        · intro w' hSw
          go_simp
          first | done | with_reducible rfl
        simp only [Act.put, List.setIfInBounds_toArray, List.set_cons_zero, List.set_cons_succ]
      refine NoPanic.normal ?_
      have H13 := Hd.mk (H11.out.next K13.out)
      have c3' : w13.cell? ⟨M, 3, none⟩ = some (.int .i64 (lg.sure : Nat)) := (K13.out.blk HB11.out (fun h => h)).at (j := 3) rfl
      have HSu := Hd.mk (fun (w' : World) (h : JT wa w' D L E M sg lg sg lg) => (h.sure).mono (fun e w'' (h : _ ∧ _) => And.intro h.1 h.2.symm))
      clear H11 HB11 HR11 HR12 K12 K13 HNN
      go_wp2_with fail
      go_quiet ((go_at_call 17; exact Calls.quiet_of_same (HSu.out _ (H13.out.next ((Keeps.refl _ w13).drewN _)))))
      go_wp2
      go_roundw
      case rel => exact ⟨k + 1, L, M, sg, lg, hlt, rfl, rfl, by go_num, ⟨H13.out.next ((Keeps.refl _ w13).drewN _), HF7.out.mono (by omega)⟩⟩
      case measure => simp [intOf]; omega
    · have HA := Hd.mk (fun X (hX : (((rewP σ l.f x.rows).1 : Nat) : Int) = X) => HJ.out.rewrite pr cr nr x.rows HNR.out _ HFt.out (by omega) (Nat.le_trans HFm.out (by decide)) (HRv.out w2 (Below.chain B0.out HJ.out.below)) HNe.out hX rfl rfl)
      have HB := Hd.mk (fun (w' : World) (h : JT wa w' D L E M (rewP σ l.f x.rows).2 (rewL σ l x.rows) σ l) => rrew_op h _ pr cr nr x.rows HFt.out (by omega) (Nat.le_trans HFm.out (by decide)) (HRv.out w' (Below.chain B0.out h.below)) HNe.out)
      obtain ⟨X, hX⟩ : ∃ x' : Int, (((rewP σ l.f x.rows).1 : Nat) : Int) = x' := ⟨_, rfl⟩
      rw [hX] at HB
      have HA := Hd.mk (HA.out X hX)
      clear hX
      go_wp2_with fail
      refine HA.out.mono ?_; rintro e w5 ⟨rfl, h5⟩
      have d2 := (h5.box _ _ HBB.out).at (j := 2) rfl
      have H5 := Hd.mk h5; clear h5 HA HJ
      go_wp2_with fail
      refine (HB.out _ H5.out.jt).mono ?_; rintro e w7 ⟨rfl, h7⟩
      have HJL := Hd.mk h7.jt; clear h7 HB H5 b0 b1 b2 b3 b4 d2 HBB
      obtain ⟨sg, hsg⟩ : ∃ xq, (rewP σ l.f x.rows).2 = xq := ⟨_, rfl⟩
      obtain ⟨lg, hlg⟩ : ∃ xq : Lg, rewL σ l x.rows = xq := ⟨_, rfl⟩
      have HJ7 : Hd (JT wa w7 D L E M sg lg sg lg) := ⟨hlg ▸ hsg ▸ HJL.out⟩
      have HF7 : Hd (FitQ sg ((k + 1) * 2000)) := ⟨hsg ▸ (HFt.out.rew l.f x.rows).mono (by unfold endL; have := HFm.out; omega)⟩
      clear hsg hlg HJL
      obtain ⟨y1, hy1⟩ := bytesOf (readL sg f)
      obtain ⟨y2, hy2⟩ := bytesOf (readL sg (f + 1))
      obtain ⟨z1, hz1⟩ : ∃ z : Int, ((mayS sg f : Nat) : Int) = z := ⟨_, rfl⟩
      obtain ⟨z2, hz2⟩ : ∃ z : Int, ((mayS sg (f + 1) : Nat) : Int) = z := ⟨_, rfl⟩
      have hqq : sg.queue.length ≤ 1000000000 := by have := HF7.out.q; omega
      have R1 := Hd.mk (fun (w' : World) (h : JT wa w' D L E M sg lg sg lg) => h.read f y1 z1 hy1 hz1)
      have R2 := Hd.mk (fun (w' : World) (h : JT wa w' D L E M sg lg sg lg) => h.rread hqq f y1 z1 hy1 hz1)
      have R3 := Hd.mk (fun (w' : World) (h : JT wa w' D L E M sg lg sg lg) => h.read (f + 1) y2 z2 hy2 hz2)
      have R4 := Hd.mk (fun (w' : World) (h : JT wa w' D L E M sg lg sg lg) => h.rread hqq (f + 1) y2 z2 hy2 hz2)
      clear hy1 hy2 hz1 hz2 hqq
      go_wp2_with fail
      refine (R1.out _ HJ7.out).mono ?_; rintro e w8 ⟨rfl, h8⟩
      have H8 := Hd.mk h8; clear h8 HJ7 R1
      go_wp2_with fail
      refine (R2.out _ H8.out).mono ?_; rintro e w9 ⟨rfl, h9⟩
      have H9 := Hd.mk h9; clear h9 H8 R2
      go_wp2_with fail
      refine (R3.out _ H9.out).mono ?_; rintro e w10 ⟨rfl, h10⟩
      have H10 := Hd.mk h10; clear h10 H9 R3
      go_wp2_with fail
      refine (R4.out _ H10.out).mono ?_; rintro e w11 ⟨rfl, h11⟩
      have H11 := Hd.mk h11; clear h11 H10 R4
      obtain ⟨v11, hb11, hr11⟩ := H11.out.rcells
      obtain ⟨p11, c11, rfl⟩ := hr11.slice
      obtain ⟨N11, hN11⟩ : ∃ N, lg.rows.length = N := ⟨_, rfl⟩
      rw [hN11] at hb11 hr11
      have HN11 : Hd (N11 ≤ 9223372036854775807) := ⟨by
        obtain ⟨O, R, P, h1, h2, _⟩ := H11.out.is
        have e1 := h2.ok.e
        have e2 := len_le_forms lg.rows
        unfold endL at e1
        omega⟩
      have HNN := Hd.mk hN11
      have HB11 := Hd.mk hb11
      have HR11 := Hd.mk hr11
      clear hN11 hr11
      go_wp2_with fail
      refine wp_region_lin default (fun w' => Blk w' M 56 (rlCells E lg.f (.slice p11 N11 c11) lg.sure)) [(0, true), (2, true), (3, true), (4, true), (5, true), (1, false), (6, false), (7, true)] (by kernel_rfl) (by kernel_rfl) rfl (by kernel_rfl) (by kernel_rfl) hb11.drew ?_
      simp only [pick, List.getD_cons_zero, List.getD_cons_succ]
      clear hb11
      repeat
        refine lin_free (v := ?_) (by rfl) ?_ ?_
        rotate_left
        · intro w' hSw
          have c2 := hSw.at (j := 2) rfl
          go_simp
          first | done | with_reducible rfl
        simp only [Act.put, List.setIfInBounds_toArray, List.set_cons_zero, List.set_cons_succ]
      refine lin_bound (fun K hK => ?_)
      go_simp
      have hj11 := H11.out.next (Keeps.refl _ _).drew
      refine hj11.all.mono ?_
      rintro e w12 ⟨v12, rfl, hr12, b12⟩
      dsimp only
      have K12 : Hd (Keeps (fun _ => False) w11 w12) := ⟨((Keeps.refl _ _).drew).trans (keeps_of_below b12)⟩
      refine hK.out _ _ (K12.out.blk HB11.out (fun h => h)) ?_
      have HR12 := Hd.mk hr12
      clear hK K hr12 b12 hj11
      refine lin_bound (fun K hK => ?_)
      go_simp
      have hr13 : Rw 1 strE w12 (.slice p11 N11 c11) lg.rows := HR11.out.keepsStr K12.out (fun _ _ _ _ _ _ h => h)
      refine (same_yes w12 _ _ lg.rows (by rw [HNN.out]; exact HN11.out) HR12.out hr13).mono ?_
      rintro e w13 ⟨rfl, b13⟩
      dsimp only
      have K13 : Hd (Keeps (fun _ => False) w11 w13) := ⟨K12.out.trans (keeps_of_below b13)⟩
      refine hK.out _ _ (K13.out.blk HB11.out (fun h => h)) ?_
      clear hK K hr13 b13
      repeat
        refine lin_free (v := ?_) (by rfl) ?_ ?_
        rotate_left
        · intro w' hSw
          go_simp
          first | done | with_reducible rfl
        simp only [Act.put, List.setIfInBounds_toArray, List.set_cons_zero, List.set_cons_succ]
      refine NoPanic.normal ?_
      have H13 := Hd.mk (H11.out.next K13.out)
      have c3' : w13.cell? ⟨M, 3, none⟩ = some (.int .i64 (lg.sure : Nat)) := (K13.out.blk HB11.out (fun h => h)).at (j := 3) rfl
      have HSu := Hd.mk (fun (w' : World) (h : JT wa w' D L E M sg lg sg lg) => (h.sure).mono (fun e w'' (h : _ ∧ _) => And.intro h.1 h.2.symm))
      clear H11 HB11 HR11 HR12 K12 K13 HNN
      go_wp2_with fail
      go_quiet ((go_at_call 17; exact Calls.quiet_of_same (HSu.out _ (H13.out.next ((Keeps.refl _ w13).drewN _)))))
      go_wp2
      go_roundw
      case rel => exact ⟨k + 1, L, M, sg, lg, hlt, rfl, rfl, by go_num, ⟨H13.out.next ((Keeps.refl _ w13).drewN _), HF7.out.mono (by omega)⟩⟩
      case measure => simp [intOf]; omega
    · have hkb : x.keep.length ≤ 60 := HF4.out
      have HKB := Hd.mk hkb
      clear hkb
      go_wp2_with fail
      refine (crash_op W HJ.out B0.out HKv.out HKB.out (HFt.out.fit (by omega))).mono ?_; rintro e w4 ⟨rfl, h4⟩
      have d3 := (h4.box _ _ HBB.out).at (j := 3) rfl
      have H4 := Hd.mk h4; clear h4 HJ b0 b1 b2 b3 b4
      go_wp2_with fail
      refine (rcrash_op W H4.out.jt B0.out HKv.out HKB.out (HFt.out.fit (by omega))).mono ?_; rintro e w5 ⟨rfl, h5⟩
      have H5 := Hd.mk h5; clear h5 H4 d3 HBB
      go_wp2_with fail
      refine (start_op H5.out.jt).mono ?_; rintro e w6 ⟨rfl, h6⟩
      have H6 := Hd.mk h6; clear h6 H5
      go_wp2_with fail
      refine (rstart_op H6.out.jt).mono ?_; rintro e w7' ⟨rfl, h7⟩
      have H7 := Hd.mk h7.jt.dt; clear h7 H6
      have HF8 := Hd.mk ((HFt.out.crash x.keep).start)
      obtain ⟨st, hst⟩ : ∃ s, startS (crashS σ x.keep) = s := ⟨_, rfl⟩
      rw [hst] at H7 HF8
      have hqq : st.queue.length ≤ 1000000000 := by have := HF8.out.q; omega
      have HQ := Hd.mk hqq
      clear hst hqq
      rcases hop : openP st f with ⟨X, rs⟩
      have HOp := Hd.mk hop
      clear hop
      by_cases hX : X = 0
      rotate_left
      · have HX := Hd.mk hX
        clear hX
        go_wp2_with fail
        refine (H7.out.openNo f X rs HOp.out HX.out).mono ?_; rintro e w8 ⟨rfl, h8⟩
        have H8 := Hd.mk h8; clear h8 H7
        go_wp2_with fail
        refine (H8.out.ropenNo HQ.out f X rs HOp.out HX.out).mono ?_; rintro e w9 ⟨rfl, h9⟩
        have H9 := Hd.mk h9; clear h9 H8
        go_wp2
        go_ret
        exact ⟨rfl, Below.chain B0.out H9.out.below⟩
      subst hX
      go_wp2_with fail
      refine (H7.out.openYes f rs HOp.out).mono ?_; rintro e w8' ⟨LX, rfl, h8⟩
      have H8 := Hd.mk h8; clear h8 H7
      go_wp2_with fail
      refine (H8.out.ropenYes HQ.out f rs HOp.out).mono ?_; rintro e w7 ⟨MX, rfl, h9⟩
      have HJL := Hd.mk h9; clear h9 H8 HQ HOp
      obtain ⟨sg, hsg⟩ : ∃ xq, st = xq := ⟨_, rfl⟩
      obtain ⟨lg, hlg⟩ : ∃ xq : Lg, ⟨f.toNat, rs, rs.length⟩ = xq := ⟨_, rfl⟩
      have HJ7 : Hd (JT wa w7 D LX E MX sg lg sg lg) := ⟨hlg ▸ hsg ▸ HJL.out⟩
      have HF7 : Hd (FitQ sg ((k + 1) * 2000)) := ⟨hsg ▸ HF8.out.mono (by omega)⟩
      clear hsg hlg HJL
      obtain ⟨y1, hy1⟩ := bytesOf (readL sg f)
      obtain ⟨y2, hy2⟩ := bytesOf (readL sg (f + 1))
      obtain ⟨z1, hz1⟩ : ∃ z : Int, ((mayS sg f : Nat) : Int) = z := ⟨_, rfl⟩
      obtain ⟨z2, hz2⟩ : ∃ z : Int, ((mayS sg (f + 1) : Nat) : Int) = z := ⟨_, rfl⟩
      have hqq : sg.queue.length ≤ 1000000000 := by have := HF7.out.q; omega
      have R1 := Hd.mk (fun (w' : World) (h : JT wa w' D LX E MX sg lg sg lg) => h.read f y1 z1 hy1 hz1)
      have R2 := Hd.mk (fun (w' : World) (h : JT wa w' D LX E MX sg lg sg lg) => h.rread hqq f y1 z1 hy1 hz1)
      have R3 := Hd.mk (fun (w' : World) (h : JT wa w' D LX E MX sg lg sg lg) => h.read (f + 1) y2 z2 hy2 hz2)
      have R4 := Hd.mk (fun (w' : World) (h : JT wa w' D LX E MX sg lg sg lg) => h.rread hqq (f + 1) y2 z2 hy2 hz2)
      clear hy1 hy2 hz1 hz2 hqq
      go_wp2_with fail
      refine (R1.out _ HJ7.out).mono ?_; rintro e w8 ⟨rfl, h8⟩
      have H8 := Hd.mk h8; clear h8 HJ7 R1
      go_wp2_with fail
      refine (R2.out _ H8.out).mono ?_; rintro e w9 ⟨rfl, h9⟩
      have H9 := Hd.mk h9; clear h9 H8 R2
      go_wp2_with fail
      refine (R3.out _ H9.out).mono ?_; rintro e w10 ⟨rfl, h10⟩
      have H10 := Hd.mk h10; clear h10 H9 R3
      go_wp2_with fail
      refine (R4.out _ H10.out).mono ?_; rintro e w11 ⟨rfl, h11⟩
      have H11 := Hd.mk h11; clear h11 H10 R4
      obtain ⟨v11, hb11, hr11⟩ := H11.out.rcells
      obtain ⟨p11, c11, rfl⟩ := hr11.slice
      obtain ⟨N11, hN11⟩ : ∃ N, lg.rows.length = N := ⟨_, rfl⟩
      rw [hN11] at hb11 hr11
      have HN11 : Hd (N11 ≤ 9223372036854775807) := ⟨by
        obtain ⟨O, R, P, h1, h2, _⟩ := H11.out.is
        have e1 := h2.ok.e
        have e2 := len_le_forms lg.rows
        unfold endL at e1
        omega⟩
      have HNN := Hd.mk hN11
      have HB11 := Hd.mk hb11
      have HR11 := Hd.mk hr11
      clear hN11 hr11
      go_wp2_with fail
      refine wp_region_lin default (fun w' => Blk w' MX 56 (rlCells E lg.f (.slice p11 N11 c11) lg.sure)) [(0, true), (2, true), (3, true), (4, true), (5, true), (1, false), (6, false), (7, true)] (by kernel_rfl) (by kernel_rfl) rfl (by kernel_rfl) (by kernel_rfl) hb11.drew ?_
      simp only [pick, List.getD_cons_zero, List.getD_cons_succ]
      clear hb11
      repeat
        refine lin_free (v := ?_) (by rfl) ?_ ?_
        rotate_left
        · intro w' hSw
          have c2 := hSw.at (j := 2) rfl
          go_simp
          first | done | with_reducible rfl
        simp only [Act.put, List.setIfInBounds_toArray, List.set_cons_zero, List.set_cons_succ]
      refine lin_bound (fun K hK => ?_)
      go_simp
      have hj11 := H11.out.next (Keeps.refl _ _).drew
      refine hj11.all.mono ?_
      rintro e w12 ⟨v12, rfl, hr12, b12⟩
      dsimp only
      have K12 : Hd (Keeps (fun _ => False) w11 w12) := ⟨((Keeps.refl _ _).drew).trans (keeps_of_below b12)⟩
      refine hK.out _ _ (K12.out.blk HB11.out (fun h => h)) ?_
      have HR12 := Hd.mk hr12
      clear hK K hr12 b12 hj11
      refine lin_bound (fun K hK => ?_)
      go_simp
      have hr13 : Rw 1 strE w12 (.slice p11 N11 c11) lg.rows := HR11.out.keepsStr K12.out (fun _ _ _ _ _ _ h => h)
      refine (same_yes w12 _ _ lg.rows (by rw [HNN.out]; exact HN11.out) HR12.out hr13).mono ?_
      rintro e w13 ⟨rfl, b13⟩
      dsimp only
      have K13 : Hd (Keeps (fun _ => False) w11 w13) := ⟨K12.out.trans (keeps_of_below b13)⟩
      refine hK.out _ _ (K13.out.blk HB11.out (fun h => h)) ?_
      clear hK K hr13 b13
      repeat
        refine lin_free (v := ?_) (by rfl) ?_ ?_
        rotate_left
        · intro w' hSw
          go_simp
          first | done | with_reducible rfl
        simp only [Act.put, List.setIfInBounds_toArray, List.set_cons_zero, List.set_cons_succ]
      refine NoPanic.normal ?_
      have H13 := Hd.mk (H11.out.next K13.out)
      have c3' : w13.cell? ⟨MX, 3, none⟩ = some (.int .i64 (lg.sure : Nat)) := (K13.out.blk HB11.out (fun h => h)).at (j := 3) rfl
      have HSu := Hd.mk (fun (w' : World) (h : JT wa w' D LX E MX sg lg sg lg) => (h.sure).mono (fun e w'' (h : _ ∧ _) => And.intro h.1 h.2.symm))
      clear H11 HB11 HR11 HR12 K12 K13 HNN
      go_wp2_with fail
      go_quiet ((go_at_call 17; exact Calls.quiet_of_same (HSu.out _ (H13.out.next ((Keeps.refl _ w13).drewN _)))))
      go_wp2
      go_roundw
      case rel => exact ⟨k + 1, LX, MX, sg, lg, hlt, rfl, rfl, by go_num, ⟨H13.out.next ((Keeps.refl _ w13).drewN _), HF7.out.mono (by omega)⟩⟩
      case measure => simp [intOf]; omega
    · have hp := pick_any x.n 3
      have HP3 := Hd.mk (fun w' => pick_any x.n 3 w' HF5.out (by decide))
      obtain ⟨pn, hpn⟩ : ∃ p, pickI x.n 3 = p := ⟨_, rfl⟩
      have hpb : pn ≤ 3 := by rw [← hpn]; unfold pickI; omega
      rw [hpn] at HP3
      have HPB := Hd.mk hpb
      clear hpn hp hpb
      go_wp2_with fail
      refine (HP3.out _).mono ?_; rintro e wp ⟨rfl, rfl⟩
      go_wp2_with fail
      refine (lose_op HJ.out pn (by have := HPB.out; omega)).mono ?_; rintro e w5 ⟨rfl, h5⟩
      have d4 := (h5.box _ _ HBB.out).at (j := 4) rfl
      have H5 := Hd.mk h5; clear h5 HJ b0 b1 b2 b3 b4
      go_wp2_with fail
      refine (HP3.out _).mono ?_; rintro e wp ⟨rfl, rfl⟩
      go_wp2_with fail
      refine (rlose_op H5.out.jt pn).mono ?_; rintro e w7 ⟨rfl, h7⟩
      have HJL := Hd.mk h7.jt; clear h7 H5 d4 HBB HP3
      obtain ⟨sg, hsg⟩ : ∃ xq, loseS σ pn = xq := ⟨_, rfl⟩
      obtain ⟨lg, hlg⟩ : ∃ xq : Lg, l = xq := ⟨_, rfl⟩
      have HJ7 : Hd (JT wa w7 D L E M sg lg sg lg) := ⟨hlg ▸ hsg ▸ HJL.out⟩
      have HF7 : Hd (FitQ sg ((k + 1) * 2000)) := ⟨hsg ▸ (HFt.out.lose pn (by have := HPB.out; omega)).mono (by omega)⟩
      clear hsg hlg HJL
      obtain ⟨y1, hy1⟩ := bytesOf (readL sg f)
      obtain ⟨y2, hy2⟩ := bytesOf (readL sg (f + 1))
      obtain ⟨z1, hz1⟩ : ∃ z : Int, ((mayS sg f : Nat) : Int) = z := ⟨_, rfl⟩
      obtain ⟨z2, hz2⟩ : ∃ z : Int, ((mayS sg (f + 1) : Nat) : Int) = z := ⟨_, rfl⟩
      have hqq : sg.queue.length ≤ 1000000000 := by have := HF7.out.q; omega
      have R1 := Hd.mk (fun (w' : World) (h : JT wa w' D L E M sg lg sg lg) => h.read f y1 z1 hy1 hz1)
      have R2 := Hd.mk (fun (w' : World) (h : JT wa w' D L E M sg lg sg lg) => h.rread hqq f y1 z1 hy1 hz1)
      have R3 := Hd.mk (fun (w' : World) (h : JT wa w' D L E M sg lg sg lg) => h.read (f + 1) y2 z2 hy2 hz2)
      have R4 := Hd.mk (fun (w' : World) (h : JT wa w' D L E M sg lg sg lg) => h.rread hqq (f + 1) y2 z2 hy2 hz2)
      clear hy1 hy2 hz1 hz2 hqq
      go_wp2_with fail
      refine (R1.out _ HJ7.out).mono ?_; rintro e w8 ⟨rfl, h8⟩
      have H8 := Hd.mk h8; clear h8 HJ7 R1
      go_wp2_with fail
      refine (R2.out _ H8.out).mono ?_; rintro e w9 ⟨rfl, h9⟩
      have H9 := Hd.mk h9; clear h9 H8 R2
      go_wp2_with fail
      refine (R3.out _ H9.out).mono ?_; rintro e w10 ⟨rfl, h10⟩
      have H10 := Hd.mk h10; clear h10 H9 R3
      go_wp2_with fail
      refine (R4.out _ H10.out).mono ?_; rintro e w11 ⟨rfl, h11⟩
      have H11 := Hd.mk h11; clear h11 H10 R4
      obtain ⟨v11, hb11, hr11⟩ := H11.out.rcells
      obtain ⟨p11, c11, rfl⟩ := hr11.slice
      obtain ⟨N11, hN11⟩ : ∃ N, lg.rows.length = N := ⟨_, rfl⟩
      rw [hN11] at hb11 hr11
      have HN11 : Hd (N11 ≤ 9223372036854775807) := ⟨by
        obtain ⟨O, R, P, h1, h2, _⟩ := H11.out.is
        have e1 := h2.ok.e
        have e2 := len_le_forms lg.rows
        unfold endL at e1
        omega⟩
      have HNN := Hd.mk hN11
      have HB11 := Hd.mk hb11
      have HR11 := Hd.mk hr11
      clear hN11 hr11
      go_wp2_with fail
      refine wp_region_lin default (fun w' => Blk w' M 56 (rlCells E lg.f (.slice p11 N11 c11) lg.sure)) [(0, true), (2, true), (3, true), (4, true), (5, true), (1, false), (6, false), (7, true)] (by kernel_rfl) (by kernel_rfl) rfl (by kernel_rfl) (by kernel_rfl) hb11.drew ?_
      simp only [pick, List.getD_cons_zero, List.getD_cons_succ]
      clear hb11
      repeat
        refine lin_free (v := ?_) (by rfl) ?_ ?_
        rotate_left
        · intro w' hSw
          have c2 := hSw.at (j := 2) rfl
          go_simp
          first | done | with_reducible rfl
        simp only [Act.put, List.setIfInBounds_toArray, List.set_cons_zero, List.set_cons_succ]
      refine lin_bound (fun K hK => ?_)
      go_simp
      have hj11 := H11.out.next (Keeps.refl _ _).drew
      refine hj11.all.mono ?_
      rintro e w12 ⟨v12, rfl, hr12, b12⟩
      dsimp only
      have K12 : Hd (Keeps (fun _ => False) w11 w12) := ⟨((Keeps.refl _ _).drew).trans (keeps_of_below b12)⟩
      refine hK.out _ _ (K12.out.blk HB11.out (fun h => h)) ?_
      have HR12 := Hd.mk hr12
      clear hK K hr12 b12 hj11
      refine lin_bound (fun K hK => ?_)
      go_simp
      have hr13 : Rw 1 strE w12 (.slice p11 N11 c11) lg.rows := HR11.out.keepsStr K12.out (fun _ _ _ _ _ _ h => h)
      refine (same_yes w12 _ _ lg.rows (by rw [HNN.out]; exact HN11.out) HR12.out hr13).mono ?_
      rintro e w13 ⟨rfl, b13⟩
      dsimp only
      have K13 : Hd (Keeps (fun _ => False) w11 w13) := ⟨K12.out.trans (keeps_of_below b13)⟩
      refine hK.out _ _ (K13.out.blk HB11.out (fun h => h)) ?_
      clear hK K hr13 b13
      repeat
        refine lin_free (v := ?_) (by rfl) ?_ ?_
        rotate_left
        · intro w' hSw
          go_simp
          first | done | with_reducible rfl
        simp only [Act.put, List.setIfInBounds_toArray, List.set_cons_zero, List.set_cons_succ]
      refine NoPanic.normal ?_
      have H13 := Hd.mk (H11.out.next K13.out)
      have c3' : w13.cell? ⟨M, 3, none⟩ = some (.int .i64 (lg.sure : Nat)) := (K13.out.blk HB11.out (fun h => h)).at (j := 3) rfl
      have HSu := Hd.mk (fun (w' : World) (h : JT wa w' D L E M sg lg sg lg) => (h.sure).mono (fun e w'' (h : _ ∧ _) => And.intro h.1 h.2.symm))
      clear H11 HB11 HR11 HR12 K12 K13 HNN
      go_wp2_with fail
      go_quiet ((go_at_call 17; exact Calls.quiet_of_same (HSu.out _ (H13.out.next ((Keeps.refl _ w13).drewN _)))))
      go_wp2
      go_roundw
      case rel => exact ⟨k + 1, L, M, sg, lg, hlt, rfl, rfl, by go_num, ⟨H13.out.next ((Keeps.refl _ w13).drewN _), HF7.out.mono (by omega)⟩⟩
      case measure => simp [intOf]; omega
    · have HA := Hd.mk (app_op HJ.out _ x.row HFt.out (by omega) HRow.out)
      have HB := Hd.mk (fun (w' : World) (h : JT wa w' D L E M (appS σ l x.row) (appL σ l x.row) σ l) => rapp_op h _ x.row HFt.out (by omega) HRow.out)
      obtain ⟨X, hX⟩ : ∃ x' : Int, ((appE σ l x.row : Nat) : Int) = x' := ⟨_, rfl⟩
      rw [hX] at HA HB
      clear hX
      go_wp2_with fail
      refine HA.out.mono ?_; rintro e w5 ⟨rfl, h5⟩
      have d1 := (h5.box _ _ HBB.out).at (j := 1) rfl
      have H5 := Hd.mk h5; clear h5 HA HJ
      go_wp2_with fail
      refine (HB.out _ H5.out.jt).mono ?_; rintro e w7 ⟨rfl, h7⟩
      have HJL := Hd.mk h7.jt; clear h7 HB H5 b0 b1 b2 b3 b4 d1 HBB
      obtain ⟨sg, hsg⟩ : ∃ xq, appS σ l x.row = xq := ⟨_, rfl⟩
      obtain ⟨lg, hlg⟩ : ∃ xq : Lg, appL σ l x.row = xq := ⟨_, rfl⟩
      have HJ7 : Hd (JT wa w7 D L E M sg lg sg lg) := ⟨hlg ▸ hsg ▸ HJL.out⟩
      have HF7 : Hd (FitQ sg ((k + 1) * 2000)) := ⟨hsg ▸ (HFt.out.app l x.row).mono (by have := HRow.out; omega)⟩
      clear hsg hlg HJL
      obtain ⟨y1, hy1⟩ := bytesOf (readL sg f)
      obtain ⟨y2, hy2⟩ := bytesOf (readL sg (f + 1))
      obtain ⟨z1, hz1⟩ : ∃ z : Int, ((mayS sg f : Nat) : Int) = z := ⟨_, rfl⟩
      obtain ⟨z2, hz2⟩ : ∃ z : Int, ((mayS sg (f + 1) : Nat) : Int) = z := ⟨_, rfl⟩
      have hqq : sg.queue.length ≤ 1000000000 := by have := HF7.out.q; omega
      have R1 := Hd.mk (fun (w' : World) (h : JT wa w' D L E M sg lg sg lg) => h.read f y1 z1 hy1 hz1)
      have R2 := Hd.mk (fun (w' : World) (h : JT wa w' D L E M sg lg sg lg) => h.rread hqq f y1 z1 hy1 hz1)
      have R3 := Hd.mk (fun (w' : World) (h : JT wa w' D L E M sg lg sg lg) => h.read (f + 1) y2 z2 hy2 hz2)
      have R4 := Hd.mk (fun (w' : World) (h : JT wa w' D L E M sg lg sg lg) => h.rread hqq (f + 1) y2 z2 hy2 hz2)
      clear hy1 hy2 hz1 hz2 hqq
      go_wp2_with fail
      refine (R1.out _ HJ7.out).mono ?_; rintro e w8 ⟨rfl, h8⟩
      have H8 := Hd.mk h8; clear h8 HJ7 R1
      go_wp2_with fail
      refine (R2.out _ H8.out).mono ?_; rintro e w9 ⟨rfl, h9⟩
      have H9 := Hd.mk h9; clear h9 H8 R2
      go_wp2_with fail
      refine (R3.out _ H9.out).mono ?_; rintro e w10 ⟨rfl, h10⟩
      have H10 := Hd.mk h10; clear h10 H9 R3
      go_wp2_with fail
      refine (R4.out _ H10.out).mono ?_; rintro e w11 ⟨rfl, h11⟩
      have H11 := Hd.mk h11; clear h11 H10 R4
      obtain ⟨v11, hb11, hr11⟩ := H11.out.rcells
      obtain ⟨p11, c11, rfl⟩ := hr11.slice
      obtain ⟨N11, hN11⟩ : ∃ N, lg.rows.length = N := ⟨_, rfl⟩
      rw [hN11] at hb11 hr11
      have HN11 : Hd (N11 ≤ 9223372036854775807) := ⟨by
        obtain ⟨O, R, P, h1, h2, _⟩ := H11.out.is
        have e1 := h2.ok.e
        have e2 := len_le_forms lg.rows
        unfold endL at e1
        omega⟩
      have HNN := Hd.mk hN11
      have HB11 := Hd.mk hb11
      have HR11 := Hd.mk hr11
      clear hN11 hr11
      go_wp2_with fail
      refine wp_region_lin default (fun w' => Blk w' M 56 (rlCells E lg.f (.slice p11 N11 c11) lg.sure)) [(0, true), (2, true), (3, true), (4, true), (5, true), (1, false), (6, false), (7, true)] (by kernel_rfl) (by kernel_rfl) rfl (by kernel_rfl) (by kernel_rfl) hb11.drew ?_
      simp only [pick, List.getD_cons_zero, List.getD_cons_succ]
      clear hb11
      repeat
        refine lin_free (v := ?_) (by rfl) ?_ ?_
        rotate_left
        · intro w' hSw
          have c2 := hSw.at (j := 2) rfl
          go_simp
          first | done | with_reducible rfl
        simp only [Act.put, List.setIfInBounds_toArray, List.set_cons_zero, List.set_cons_succ]
      refine lin_bound (fun K hK => ?_)
      go_simp
      have hj11 := H11.out.next (Keeps.refl _ _).drew
      refine hj11.all.mono ?_
      rintro e w12 ⟨v12, rfl, hr12, b12⟩
      dsimp only
      have K12 : Hd (Keeps (fun _ => False) w11 w12) := ⟨((Keeps.refl _ _).drew).trans (keeps_of_below b12)⟩
      refine hK.out _ _ (K12.out.blk HB11.out (fun h => h)) ?_
      have HR12 := Hd.mk hr12
      clear hK K hr12 b12 hj11
      refine lin_bound (fun K hK => ?_)
      go_simp
      have hr13 : Rw 1 strE w12 (.slice p11 N11 c11) lg.rows := HR11.out.keepsStr K12.out (fun _ _ _ _ _ _ h => h)
      refine (same_yes w12 _ _ lg.rows (by rw [HNN.out]; exact HN11.out) HR12.out hr13).mono ?_
      rintro e w13 ⟨rfl, b13⟩
      dsimp only
      have K13 : Hd (Keeps (fun _ => False) w11 w13) := ⟨K12.out.trans (keeps_of_below b13)⟩
      refine hK.out _ _ (K13.out.blk HB11.out (fun h => h)) ?_
      clear hK K hr13 b13
      repeat
        refine lin_free (v := ?_) (by rfl) ?_ ?_
        rotate_left
        · intro w' hSw
          go_simp
          first | done | with_reducible rfl
        simp only [Act.put, List.setIfInBounds_toArray, List.set_cons_zero, List.set_cons_succ]
      refine NoPanic.normal ?_
      have H13 := Hd.mk (H11.out.next K13.out)
      have c3' : w13.cell? ⟨M, 3, none⟩ = some (.int .i64 (lg.sure : Nat)) := (K13.out.blk HB11.out (fun h => h)).at (j := 3) rfl
      have HSu := Hd.mk (fun (w' : World) (h : JT wa w' D L E M sg lg sg lg) => (h.sure).mono (fun e w'' (h : _ ∧ _) => And.intro h.1 h.2.symm))
      clear H11 HB11 HR11 HR12 K12 K13 HNN
      go_wp2_with fail
      go_quiet ((go_at_call 17; exact Calls.quiet_of_same (HSu.out _ (H13.out.next ((Keeps.refl _ w13).drewN _)))))
      go_wp2
      go_roundw
      case rel => exact ⟨k + 1, L, M, sg, lg, hlt, rfl, rfl, by go_num, ⟨H13.out.next ((Keeps.refl _ w13).drewN _), HF7.out.mono (by omega)⟩⟩
      case measure => simp [intOf]; omega
    · have HA := Hd.mk (app_op HJ.out _ x.row HFt.out (by omega) HRow.out)
      have HB := Hd.mk (fun (w' : World) (h : JT wa w' D L E M (appS σ l x.row) (appL σ l x.row) σ l) => rapp_op h _ x.row HFt.out (by omega) HRow.out)
      obtain ⟨X, hX⟩ : ∃ x' : Int, ((appE σ l x.row : Nat) : Int) = x' := ⟨_, rfl⟩
      rw [hX] at HA HB
      clear hX
      go_wp2_with fail
      refine HA.out.mono ?_; rintro e w5 ⟨rfl, h5⟩
      have d1 := (h5.box _ _ HBB.out).at (j := 1) rfl
      have H5 := Hd.mk h5; clear h5 HA HJ
      go_wp2_with fail
      refine (HB.out _ H5.out.jt).mono ?_; rintro e w7 ⟨rfl, h7⟩
      have HJL := Hd.mk h7.jt; clear h7 HB H5 b0 b1 b2 b3 b4 d1 HBB
      obtain ⟨sg, hsg⟩ : ∃ xq, appS σ l x.row = xq := ⟨_, rfl⟩
      obtain ⟨lg, hlg⟩ : ∃ xq : Lg, appL σ l x.row = xq := ⟨_, rfl⟩
      have HJ7 : Hd (JT wa w7 D L E M sg lg sg lg) := ⟨hlg ▸ hsg ▸ HJL.out⟩
      have HF7 : Hd (FitQ sg ((k + 1) * 2000)) := ⟨hsg ▸ (HFt.out.app l x.row).mono (by have := HRow.out; omega)⟩
      clear hsg hlg HJL
      obtain ⟨y1, hy1⟩ := bytesOf (readL sg f)
      obtain ⟨y2, hy2⟩ := bytesOf (readL sg (f + 1))
      obtain ⟨z1, hz1⟩ : ∃ z : Int, ((mayS sg f : Nat) : Int) = z := ⟨_, rfl⟩
      obtain ⟨z2, hz2⟩ : ∃ z : Int, ((mayS sg (f + 1) : Nat) : Int) = z := ⟨_, rfl⟩
      have hqq : sg.queue.length ≤ 1000000000 := by have := HF7.out.q; omega
      have R1 := Hd.mk (fun (w' : World) (h : JT wa w' D L E M sg lg sg lg) => h.read f y1 z1 hy1 hz1)
      have R2 := Hd.mk (fun (w' : World) (h : JT wa w' D L E M sg lg sg lg) => h.rread hqq f y1 z1 hy1 hz1)
      have R3 := Hd.mk (fun (w' : World) (h : JT wa w' D L E M sg lg sg lg) => h.read (f + 1) y2 z2 hy2 hz2)
      have R4 := Hd.mk (fun (w' : World) (h : JT wa w' D L E M sg lg sg lg) => h.rread hqq (f + 1) y2 z2 hy2 hz2)
      clear hy1 hy2 hz1 hz2 hqq
      go_wp2_with fail
      refine (R1.out _ HJ7.out).mono ?_; rintro e w8 ⟨rfl, h8⟩
      have H8 := Hd.mk h8; clear h8 HJ7 R1
      go_wp2_with fail
      refine (R2.out _ H8.out).mono ?_; rintro e w9 ⟨rfl, h9⟩
      have H9 := Hd.mk h9; clear h9 H8 R2
      go_wp2_with fail
      refine (R3.out _ H9.out).mono ?_; rintro e w10 ⟨rfl, h10⟩
      have H10 := Hd.mk h10; clear h10 H9 R3
      go_wp2_with fail
      refine (R4.out _ H10.out).mono ?_; rintro e w11 ⟨rfl, h11⟩
      have H11 := Hd.mk h11; clear h11 H10 R4
      obtain ⟨v11, hb11, hr11⟩ := H11.out.rcells
      obtain ⟨p11, c11, rfl⟩ := hr11.slice
      obtain ⟨N11, hN11⟩ : ∃ N, lg.rows.length = N := ⟨_, rfl⟩
      rw [hN11] at hb11 hr11
      have HN11 : Hd (N11 ≤ 9223372036854775807) := ⟨by
        obtain ⟨O, R, P, h1, h2, _⟩ := H11.out.is
        have e1 := h2.ok.e
        have e2 := len_le_forms lg.rows
        unfold endL at e1
        omega⟩
      have HNN := Hd.mk hN11
      have HB11 := Hd.mk hb11
      have HR11 := Hd.mk hr11
      clear hN11 hr11
      go_wp2_with fail
      refine wp_region_lin default (fun w' => Blk w' M 56 (rlCells E lg.f (.slice p11 N11 c11) lg.sure)) [(0, true), (2, true), (3, true), (4, true), (5, true), (1, false), (6, false), (7, true)] (by kernel_rfl) (by kernel_rfl) rfl (by kernel_rfl) (by kernel_rfl) hb11.drew ?_
      simp only [pick, List.getD_cons_zero, List.getD_cons_succ]
      clear hb11
      repeat
        refine lin_free (v := ?_) (by rfl) ?_ ?_
        rotate_left
        · intro w' hSw
          have c2 := hSw.at (j := 2) rfl
          go_simp
          first | done | with_reducible rfl
        simp only [Act.put, List.setIfInBounds_toArray, List.set_cons_zero, List.set_cons_succ]
      refine lin_bound (fun K hK => ?_)
      go_simp
      have hj11 := H11.out.next (Keeps.refl _ _).drew
      refine hj11.all.mono ?_
      rintro e w12 ⟨v12, rfl, hr12, b12⟩
      dsimp only
      have K12 : Hd (Keeps (fun _ => False) w11 w12) := ⟨((Keeps.refl _ _).drew).trans (keeps_of_below b12)⟩
      refine hK.out _ _ (K12.out.blk HB11.out (fun h => h)) ?_
      have HR12 := Hd.mk hr12
      clear hK K hr12 b12 hj11
      refine lin_bound (fun K hK => ?_)
      go_simp
      have hr13 : Rw 1 strE w12 (.slice p11 N11 c11) lg.rows := HR11.out.keepsStr K12.out (fun _ _ _ _ _ _ h => h)
      refine (same_yes w12 _ _ lg.rows (by rw [HNN.out]; exact HN11.out) HR12.out hr13).mono ?_
      rintro e w13 ⟨rfl, b13⟩
      dsimp only
      have K13 : Hd (Keeps (fun _ => False) w11 w13) := ⟨K12.out.trans (keeps_of_below b13)⟩
      refine hK.out _ _ (K13.out.blk HB11.out (fun h => h)) ?_
      clear hK K hr13 b13
      repeat
        refine lin_free (v := ?_) (by rfl) ?_ ?_
        rotate_left
        · intro w' hSw
          go_simp
          first | done | with_reducible rfl
        simp only [Act.put, List.setIfInBounds_toArray, List.set_cons_zero, List.set_cons_succ]
      refine NoPanic.normal ?_
      have H13 := Hd.mk (H11.out.next K13.out)
      have c3' : w13.cell? ⟨M, 3, none⟩ = some (.int .i64 (lg.sure : Nat)) := (K13.out.blk HB11.out (fun h => h)).at (j := 3) rfl
      have HSu := Hd.mk (fun (w' : World) (h : JT wa w' D L E M sg lg sg lg) => (h.sure).mono (fun e w'' (h : _ ∧ _) => And.intro h.1 h.2.symm))
      clear H11 HB11 HR11 HR12 K12 K13 HNN
      go_wp2_with fail
      go_quiet ((go_at_call 17; exact Calls.quiet_of_same (HSu.out _ (H13.out.next ((Keeps.refl _ w13).drewN _)))))
      go_wp2
      go_roundw
      case rel => exact ⟨k + 1, L, M, sg, lg, hlt, rfl, rfl, by go_num, ⟨H13.out.next ((Keeps.refl _ w13).drewN _), HF7.out.mono (by omega)⟩⟩
      case measure => simp [intOf]; omega
    · have HA := Hd.mk (app_op HJ.out _ x.row HFt.out (by omega) HRow.out)
      have HB := Hd.mk (fun (w' : World) (h : JT wa w' D L E M (appS σ l x.row) (appL σ l x.row) σ l) => rapp_op h _ x.row HFt.out (by omega) HRow.out)
      obtain ⟨X, hX⟩ : ∃ x' : Int, ((appE σ l x.row : Nat) : Int) = x' := ⟨_, rfl⟩
      rw [hX] at HA HB
      clear hX
      go_wp2_with fail
      refine HA.out.mono ?_; rintro e w5 ⟨rfl, h5⟩
      have d1 := (h5.box _ _ HBB.out).at (j := 1) rfl
      have H5 := Hd.mk h5; clear h5 HA HJ
      go_wp2_with fail
      refine (HB.out _ H5.out.jt).mono ?_; rintro e w7 ⟨rfl, h7⟩
      have HJL := Hd.mk h7.jt; clear h7 HB H5 b0 b1 b2 b3 b4 d1 HBB
      obtain ⟨sg, hsg⟩ : ∃ xq, appS σ l x.row = xq := ⟨_, rfl⟩
      obtain ⟨lg, hlg⟩ : ∃ xq : Lg, appL σ l x.row = xq := ⟨_, rfl⟩
      have HJ7 : Hd (JT wa w7 D L E M sg lg sg lg) := ⟨hlg ▸ hsg ▸ HJL.out⟩
      have HF7 : Hd (FitQ sg ((k + 1) * 2000)) := ⟨hsg ▸ (HFt.out.app l x.row).mono (by have := HRow.out; omega)⟩
      clear hsg hlg HJL
      obtain ⟨y1, hy1⟩ := bytesOf (readL sg f)
      obtain ⟨y2, hy2⟩ := bytesOf (readL sg (f + 1))
      obtain ⟨z1, hz1⟩ : ∃ z : Int, ((mayS sg f : Nat) : Int) = z := ⟨_, rfl⟩
      obtain ⟨z2, hz2⟩ : ∃ z : Int, ((mayS sg (f + 1) : Nat) : Int) = z := ⟨_, rfl⟩
      have hqq : sg.queue.length ≤ 1000000000 := by have := HF7.out.q; omega
      have R1 := Hd.mk (fun (w' : World) (h : JT wa w' D L E M sg lg sg lg) => h.read f y1 z1 hy1 hz1)
      have R2 := Hd.mk (fun (w' : World) (h : JT wa w' D L E M sg lg sg lg) => h.rread hqq f y1 z1 hy1 hz1)
      have R3 := Hd.mk (fun (w' : World) (h : JT wa w' D L E M sg lg sg lg) => h.read (f + 1) y2 z2 hy2 hz2)
      have R4 := Hd.mk (fun (w' : World) (h : JT wa w' D L E M sg lg sg lg) => h.rread hqq (f + 1) y2 z2 hy2 hz2)
      clear hy1 hy2 hz1 hz2 hqq
      go_wp2_with fail
      refine (R1.out _ HJ7.out).mono ?_; rintro e w8 ⟨rfl, h8⟩
      have H8 := Hd.mk h8; clear h8 HJ7 R1
      go_wp2_with fail
      refine (R2.out _ H8.out).mono ?_; rintro e w9 ⟨rfl, h9⟩
      have H9 := Hd.mk h9; clear h9 H8 R2
      go_wp2_with fail
      refine (R3.out _ H9.out).mono ?_; rintro e w10 ⟨rfl, h10⟩
      have H10 := Hd.mk h10; clear h10 H9 R3
      go_wp2_with fail
      refine (R4.out _ H10.out).mono ?_; rintro e w11 ⟨rfl, h11⟩
      have H11 := Hd.mk h11; clear h11 H10 R4
      obtain ⟨v11, hb11, hr11⟩ := H11.out.rcells
      obtain ⟨p11, c11, rfl⟩ := hr11.slice
      obtain ⟨N11, hN11⟩ : ∃ N, lg.rows.length = N := ⟨_, rfl⟩
      rw [hN11] at hb11 hr11
      have HN11 : Hd (N11 ≤ 9223372036854775807) := ⟨by
        obtain ⟨O, R, P, h1, h2, _⟩ := H11.out.is
        have e1 := h2.ok.e
        have e2 := len_le_forms lg.rows
        unfold endL at e1
        omega⟩
      have HNN := Hd.mk hN11
      have HB11 := Hd.mk hb11
      have HR11 := Hd.mk hr11
      clear hN11 hr11
      go_wp2_with fail
      refine wp_region_lin default (fun w' => Blk w' M 56 (rlCells E lg.f (.slice p11 N11 c11) lg.sure)) [(0, true), (2, true), (3, true), (4, true), (5, true), (1, false), (6, false), (7, true)] (by kernel_rfl) (by kernel_rfl) rfl (by kernel_rfl) (by kernel_rfl) hb11.drew ?_
      simp only [pick, List.getD_cons_zero, List.getD_cons_succ]
      clear hb11
      repeat
        refine lin_free (v := ?_) (by rfl) ?_ ?_
        rotate_left
        · intro w' hSw
          have c2 := hSw.at (j := 2) rfl
          go_simp
          first | done | with_reducible rfl
        simp only [Act.put, List.setIfInBounds_toArray, List.set_cons_zero, List.set_cons_succ]
      refine lin_bound (fun K hK => ?_)
      go_simp
      have hj11 := H11.out.next (Keeps.refl _ _).drew
      refine hj11.all.mono ?_
      rintro e w12 ⟨v12, rfl, hr12, b12⟩
      dsimp only
      have K12 : Hd (Keeps (fun _ => False) w11 w12) := ⟨((Keeps.refl _ _).drew).trans (keeps_of_below b12)⟩
      refine hK.out _ _ (K12.out.blk HB11.out (fun h => h)) ?_
      have HR12 := Hd.mk hr12
      clear hK K hr12 b12 hj11
      refine lin_bound (fun K hK => ?_)
      go_simp
      have hr13 : Rw 1 strE w12 (.slice p11 N11 c11) lg.rows := HR11.out.keepsStr K12.out (fun _ _ _ _ _ _ h => h)
      refine (same_yes w12 _ _ lg.rows (by rw [HNN.out]; exact HN11.out) HR12.out hr13).mono ?_
      rintro e w13 ⟨rfl, b13⟩
      dsimp only
      have K13 : Hd (Keeps (fun _ => False) w11 w13) := ⟨K12.out.trans (keeps_of_below b13)⟩
      refine hK.out _ _ (K13.out.blk HB11.out (fun h => h)) ?_
      clear hK K hr13 b13
      repeat
        refine lin_free (v := ?_) (by rfl) ?_ ?_
        rotate_left
        · intro w' hSw
          go_simp
          first | done | with_reducible rfl
        simp only [Act.put, List.setIfInBounds_toArray, List.set_cons_zero, List.set_cons_succ]
      refine NoPanic.normal ?_
      have H13 := Hd.mk (H11.out.next K13.out)
      have c3' : w13.cell? ⟨M, 3, none⟩ = some (.int .i64 (lg.sure : Nat)) := (K13.out.blk HB11.out (fun h => h)).at (j := 3) rfl
      have HSu := Hd.mk (fun (w' : World) (h : JT wa w' D L E M sg lg sg lg) => (h.sure).mono (fun e w'' (h : _ ∧ _) => And.intro h.1 h.2.symm))
      clear H11 HB11 HR11 HR12 K12 K13 HNN
      go_wp2_with fail
      go_quiet ((go_at_call 17; exact Calls.quiet_of_same (HSu.out _ (H13.out.next ((Keeps.refl _ w13).drewN _)))))
      go_wp2
      go_roundw
      case rel => exact ⟨k + 1, L, M, sg, lg, hlt, rfl, rfl, by go_num, ⟨H13.out.next ((Keeps.refl _ w13).drewN _), HF7.out.mono (by omega)⟩⟩
      case measure => simp [intOf]; omega

end Go.Proofs.Ytmcdfhihfcfbaaa.W
