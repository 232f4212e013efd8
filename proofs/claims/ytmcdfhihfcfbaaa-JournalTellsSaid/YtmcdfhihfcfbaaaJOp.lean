/-
  A log's operations in plain words; the walk of Flush.
-/
import Derived.Test.YtmcdfhihfcfbaaaJCm
import Derived.Test.YtmcdfhihfcfbaaaFq
namespace Go.Proofs.Ytmcdfhihfcfbaaa.W
open Go.RowKit
set_option linter.unusedVariables false

def headR (l : Lg) : List UInt8 := headL (endL l.rows) l.rows.length

/-- Flush -/
def fluP (σ : St) (l : Lg) : Nat × St :=
  if l.sure = l.rows.length then (if σ.down then 10 else 0, σ) else
  if FlushE σ l.f ≠ 0 then (FlushE σ l.f, FlushS σ l.f) else
  if WriteE (FlushS σ l.f) l.f 0 (headR l) ≠ 0 then (WriteE (FlushS σ l.f) l.f 0 (headR l), WriteS (FlushS σ l.f) l.f 0 (headR l)) else
  (FlushE (WriteS (FlushS σ l.f) l.f 0 (headR l)) l.f, FlushS (WriteS (FlushS σ l.f) l.f 0 (headR l)) l.f)
def fluL (σ : St) (l : Lg) : Lg := if (fluP σ l).1 = 0 then { l with sure := l.rows.length } else l
/-- Append -/
def appE (σ : St) (l : Lg) (r : ByteArray) : Nat := WriteE σ l.f (endL l.rows : Nat) (formL r)
def appS (σ : St) (l : Lg) (r : ByteArray) : St := WriteS σ l.f (endL l.rows : Nat) (formL r)
def appL (σ : St) (l : Lg) (r : ByteArray) : Lg := if appE σ l r = 0 then { l with rows := l.rows ++ [r] } else l
/-- Rewrite -/
def rewP (σ : St) (f : Nat) (rs : List ByteArray) : Nat × St :=
  if CutE σ ((f : Int) + 1) 0 ≠ 0 then (CutE σ ((f : Int) + 1) 0, CutS σ ((f : Int) + 1) 0) else
  let a := CutS σ ((f : Int) + 1) 0
  if WriteE a ((f : Int) + 1) 0 (fileL rs) ≠ 0 then (WriteE a ((f : Int) + 1) 0 (fileL rs), WriteS a ((f : Int) + 1) 0 (fileL rs)) else
  let b := WriteS a ((f : Int) + 1) 0 (fileL rs)
  if FlushE b ((f : Int) + 1) ≠ 0 then (FlushE b ((f : Int) + 1), FlushS b ((f : Int) + 1)) else
  let c := FlushS b ((f : Int) + 1)
  (TurnE c f ((f : Int) + 1), TurnS c f ((f : Int) + 1))
def rewL (σ : St) (l : Lg) (rs : List ByteArray) : Lg := if (rewP σ l.f rs).1 = 0 then { l with rows := rs, sure := rs.length } else l

/-- what an operation on the log at L does -/
structure LOp (w : World) (f : FuncId) (args : Array Value) (L D : Nat) (σ σ' : St) (l l' : Lg) (val : Value) : Prop where
  run : ∀ O R, Rep w D σ O → LRep w L D l R → Calls Try.prog f args w fun e w' => e = .returned val ∧ ∃ O' R', Rep w' D σ' O' ∧ LRep w' L D l' R' ∧ (∀ g, O' = some g → O = some g ∨ w.heap.size ≤ g) ∧ (∀ g, R' = some g → R = some g ∨ w.heap.size ≤ g) ∧
    Keeps (fun g => (g = D ∨ O = some g) ∨ (g = L ∨ R = some g)) w w'

/-- the state before step k of Flush -/
def flStep (σ : St) (l : Lg) : Nat → St
  | 0 => σ
  | 1 => FlushS σ l.f
  | 2 => WriteS (FlushS σ l.f) l.f 0 (headR l)
  | _ => FlushS (WriteS (FlushS σ l.f) l.f 0 (headR l)) l.f
def flErr (σ : St) (l : Lg) : Nat → Nat
  | 0 => FlushE σ l.f
  | 1 => WriteE (FlushS σ l.f) l.f 0 (headR l)
  | _ => FlushE (WriteS (FlushS σ l.f) l.f 0 (headR l)) l.f

theorem enters_flush : Enters Try.prog 39 := enters_of Try.func39 (by kernel_rfl) rfl
theorem enters_flush1 : Enters Try.prog 40 := enters_of Try.func40 (by kernel_rfl) rfl

/-- the steps of Flush, one behind the other -/
theorem flSteps_any (w : World) (b g L D : Nat) (l : Lg) (R : Option Nat) (σ : St) (O : Option Nat) (q : Nat) (hF : FitQ σ q) (hq : q ≤ 900000000) (hr : Rep w D σ O) (hl : LRep w L D l R) (hbx : Blk w b 25 [.pointer (some ⟨L, 0, none⟩)])
    (hfs : Blk w g 35 [.func (.func 39) #[.pointer (some ⟨L, 0, none⟩)] #[], .func (.func 40) #[] #[.pointer (some ⟨b, 0, none⟩)], .func (.func 39) #[.pointer (some ⟨L, 0, none⟩)] #[]]) (hne : l.sure ≠ l.rows.length) :
    Calls Try.prog 38 #[.slice (some ⟨g, 0, none⟩) 3 3] w fun e w' => e = .returned (.int .i64 (fluP σ l).1) ∧ ∃ O', Rep w' D (fluP σ l).2 O' ∧ (∀ g, O' = some g → O = some g ∨ w.heap.size ≤ g) ∧ Keeps (fun g => g = D ∨ O = some g) w w' := by
  have hd := hl.disk hr
  obtain ⟨v, hlb, hlO, hlR⟩ := hl.is
  have hdb := hr.not_typ hbx.is (by decide) (by decide)
  have hdg := hr.not_typ hfs.is (by decide) (by decide)
  obtain ⟨p, c, rfl⟩ := hlO.slice'
  rw [List.length_map] at hlb
  have hok := hl.ok
  have hlen := len_le_forms l.rows
  have hend := hok.e
  have hel : (formsL l.rows).length ≤ endL l.rows := by unfold endL; omega
  have hI : ∀ k (wr : World), k = 0 ∨ k = 1 ∨ k = 2 ∨ k = 3 → True := fun _ _ _ => trivial
  let I : Nat → World → Prop := fun k wr => ∃ O', Rep wr D (flStep σ l k) O' ∧ (∀ g, O' = some g → O = some g ∨ w.heap.size ≤ g) ∧ Keeps (fun g => g = D ∨ O = some g) w wr
  have hstep : ∀ {wr w' : World} {O1 O2 : Option Nat} , (∀ g, O1 = some g → O = some g ∨ w.heap.size ≤ g) → Keeps (fun g => g = D ∨ O = some g) w wr → (∀ g, O2 = some g → O1 = some g ∨ wr.heap.size ≤ g) → Keeps (fun g => g = D ∨ O1 = some g) wr w' →
      (∀ g, O2 = some g → O = some g ∨ w.heap.size ≤ g) ∧ Keeps (fun g => g = D ∨ O = some g) w w' := fun {wr w' O1 O2} h1 k1 h2 k2 =>
    ⟨fun g hg => (h2 g hg).elim (h1 g) (fun h => .inr (Nat.le_trans k1.size h)), ⟨k2.os.trans k1.os, k2.tape.trans k1.tape, k2.output.trans k1.output, Nat.le_trans k1.size k2.size, fun k hk hn => (k2.block k (Nat.lt_of_lt_of_le hk k1.size) (fun e => e.elim (fun e => hn (.inl e)) (fun e => (h1 k e).elim (fun e => hn (.inr e)) (fun e => Nat.lt_irrefl _ (Nat.lt_of_lt_of_le hk e))))).trans (k1.block k hk hn)⟩⟩
  have hF1 : FitQ (FlushS σ l.f) q := hF.flush _
  have hF2 : FitQ (WriteS (FlushS σ l.f) l.f 0 (headR l)) (q + 16) := by
    have := hF1.write (l.f : Int) 0 (headR l)
    rwa [headR, headL_len] at this
  refine (jall_any w g [⟨39, #[.pointer (some ⟨L, 0, none⟩)], #[]⟩, ⟨40, #[], #[.pointer (some ⟨b, 0, none⟩)]⟩, ⟨39, #[.pointer (some ⟨L, 0, none⟩)], #[]⟩] I (flErr σ l) (by simp) ?en ?cells ?steps ⟨O, hr, fun g h => .inl h, Keeps.refl _ _⟩).mono ?_
  case en =>
    intro x hx
    simp only [List.mem_cons, List.not_mem_nil, or_false] at hx
    rcases hx with rfl | rfl | rfl
    · exact enters_flush
    · exact enters_flush1
    · exact enters_flush
  case cells =>
    rintro j wr x ⟨O', _, _, k⟩ hx
    have hb' := k.blk hfs hdg
    match j, hx with
    | 0, hx => cases hx; exact hb'.at (j := 0) rfl
    | 1, hx => cases hx; exact hb'.at (j := 1) rfl
    | 2, hx => cases hx; exact hb'.at (j := 2) rfl
  case steps =>
    rintro j wr x ⟨O1, h1, hO1, k1⟩ hx
    have hlb' := k1.blk hlb hd.1
    have hbx' := k1.blk hbx hdb
    match j, hx with
    | 0, hx =>
      cases hx
      refine (jflush_any wr L D l.f _ _ _ σ O1 (hF.fit (by omega)) h1 hlb').mono ?_
      rintro e w' ⟨O2, rfl, h2, hO2, k2⟩
      have := hstep hO1 k1 (same_or_none hO2) k2
      exact ⟨rfl, O2, h2, this.1, this.2⟩
    | 1, hx =>
      cases hx
      refine (jflush1_any wr b L D l.f p l.rows.length c l.sure (endL l.rows) (FlushS σ l.f) O1 (by omega) (by omega) (hF1.fit (by omega)) (by have := hF1.q; omega) h1 hbx' hlb').mono ?_
      rintro e w' ⟨O2, rfl, h2, hO2, k2⟩
      have := hstep hO1 k1 hO2 k2
      exact ⟨rfl, O2, h2, this.1, this.2⟩
    | 2, hx =>
      cases hx
      refine (jflush_any wr L D l.f _ _ _ _ O1 (hF2.fit (by omega)) h1 hlb').mono ?_
      rintro e w' ⟨O2, rfl, h2, hO2, k2⟩
      have := hstep hO1 k1 (same_or_none hO2) k2
      exact ⟨rfl, O2, h2, this.1, this.2⟩
  · rintro e w' h
    have hP : fluP σ l = (if flErr σ l 0 ≠ 0 then (flErr σ l 0, flStep σ l 1) else if flErr σ l 1 ≠ 0 then (flErr σ l 1, flStep σ l 2) else (flErr σ l 2, flStep σ l 3)) := by
      unfold fluP; rw [if_neg hne]; rfl
    rw [hP]
    rcases h with ⟨k, hk, hz, hn, he, O', h1, h2, h3⟩ | ⟨hz, he, O', h1, h2, h3⟩
    · match k, hk with
      | 0, _ => rw [if_pos hn]; exact ⟨he, O', h1, h2, h3⟩
      | 1, _ => rw [if_neg (by rw [hz 0 (by omega)]; decide), if_pos hn]; exact ⟨he, O', h1, h2, h3⟩
      | 2, _ => rw [if_neg (by rw [hz 0 (by omega)]; decide), if_neg (by rw [hz 1 (by omega)]; decide)]; exact ⟨he, O', h1, h2, h3⟩
    · have hz' : ∀ j, j < 3 → flErr σ l j = 0 := hz
      rw [if_neg (by rw [hz' 0 (by omega)]; decide), if_neg (by rw [hz' 1 (by omega)]; decide)]
      exact ⟨by rw [he, hz' 2 (by omega)]; rfl, O', h1, h2, h3⟩

end Go.Proofs.Ytmcdfhihfcfbaaa.W
