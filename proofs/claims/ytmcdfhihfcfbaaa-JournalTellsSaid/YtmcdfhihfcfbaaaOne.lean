/-
  A law's one disk: what a call of each operation leaves.
-/
import Derived.Test.YtmcdfhihfcfbaaaWriteW
import Derived.Test.YtmcdfhihfcfbaaaCut
import Derived.Test.YtmcdfhihfcfbaaaTurn
import Derived.Test.YtmcdfhihfcfbaaaClone
namespace Go.Proofs.Ytmcdfhihfcfbaaa.W
open Go.RowKit
set_option linter.unusedVariables false

/-- a disk that the call itself has made (B: the world at its beginning) -/
structure One (B w : World) (D : Nat) (σ : St) : Prop where
  is : ∃ O, Rep w D σ O ∧ (∀ g, O = some g → B.heap.size ≤ g)
  below : Below B.heap.size B w
  ge : B.heap.size ≤ D

theorem One.size {B w : World} {D : Nat} {σ : St} (h : One B w D σ) : B.heap.size ≤ w.heap.size := h.below.size
theorem One.lt {B w : World} {D : Nat} {σ : St} (h : One B w D σ) : D < w.heap.size := by
  obtain ⟨O, h, _⟩ := h.is; exact h.lt
theorem One.ok {B w : World} {D : Nat} {σ : St} (h : One B w D σ) : Ok σ := by
  obtain ⟨O, h, _⟩ := h.is; exact h.ok

theorem One.next {B w w' : World} {D : Nat} {σ : St} (h : One B w D σ) (k : Keeps (fun _ => False) w w') : One B w' D σ := by
  obtain ⟨O, hr, hO⟩ := h.is
  exact ⟨⟨O, hr.next k, hO⟩, h.below.trans (k.below h.size (fun _ _ h => h)), h.ge⟩
theorem One.alloc {B w : World} {D : Nat} {σ : St} (h : One B w D σ) (o : Obj) : One B (w.alloc o) D σ := h.next ((Keeps.refl (fun _ => False) w).alloc o)
theorem One.drew {B w : World} {D : Nat} {σ : St} (h : One B w D σ) : One B w.drew D σ := h.next (Keeps.refl (fun _ => False) w).drew
theorem One.drewN {B w : World} {D : Nat} {σ : St} (h : One B w D σ) (n : Nat) : One B (w.drewN n) D σ := h.next ((Keeps.refl (fun _ => False) w).drewN n)

/-- an operation's end -/
theorem One.op {B w w' : World} {D : Nat} {σ' : St} {O O' : Option Nat} (hb : Below B.heap.size B w) (hg : B.heap.size ≤ D) (hO : ∀ g, O = some g → B.heap.size ≤ g) (hr : Rep w' D σ' O') (hO' : ∀ g, O' = some g → O = some g ∨ w.heap.size ≤ g) (k : Keeps (fun g => g = D ∨ O = some g) w w') : One B w' D σ' :=
  ⟨⟨O', hr, fun g h => (hO' g h).elim (hO g) (Nat.le_trans hb.size)⟩, hb.trans (k.below hb.size (fun j hj h => by
    rcases h with rfl | h
    · exact absurd hg (Nat.not_le.2 hj)
    · exact absurd (hO j h) (Nat.not_le.2 hj))), hg⟩

theorem same_or_none {O O' : Option Nat} {n : Nat} (h : O' = O ∨ O' = none) : ∀ g, O' = some g → O = some g ∨ n ≤ g := by
  intro g hg
  rcases h with h | h
  · exact .inl (h ▸ hg)
  · rw [h] at hg; cases hg

theorem One.new (B : World) : Calls Try.prog 11 #[] B fun e w' => ∃ D, e = .returned (.pointer (some ⟨D, 0, none⟩)) ∧ One B w' D newS :=
  (new_any B).mono fun e w' ⟨he, hr, hb⟩ => ⟨_, he, ⟨none, hr, fun _ h => by cases h⟩, hb, Nat.le_refl _⟩

theorem One.write {B w : World} {D : Nat} {σ : St} (h : One B w D σ) (f k : Int) (s : ByteArray) (c : Int) (σ' : St) (hF : Fit σ) (hq : σ.queue.length + s.size ≤ 1000000000) (hk1 : k ≤ 9223372036854775807) (hs64 : s.size ≤ 9223372036854775807)
    (hE : (WriteE σ f k s.data.toList : Int) = c) (hS : WriteS σ f k s.data.toList = σ') :
    Calls Try.prog 18 #[.pointer (some ⟨D, 0, none⟩), .int .i64 f, .int .i64 k, .string s] w fun e w' => e = .returned (.int .i64 c) ∧ One B w' D σ' := by
  obtain ⟨O, hr, hO⟩ := h.is
  exact (Write_any w D σ O f k s hF hq hk1 hs64 hr).mono fun e w' ⟨O', he, hr', hO', k⟩ => ⟨hE ▸ he, One.op h.below h.ge hO (hS ▸ hr') hO' k⟩

theorem One.flush {B w : World} {D : Nat} {σ : St} (h : One B w D σ) (f : Int) (c : Int) (σ' : St) (hF : Fit σ) (hE : (FlushE σ f : Int) = c) (hS : FlushS σ f = σ') :
    Calls Try.prog 50 #[.pointer (some ⟨D, 0, none⟩), .int .i64 f] w fun e w' => e = .returned (.int .i64 c) ∧ One B w' D σ' := by
  obtain ⟨O, hr, hO⟩ := h.is
  exact (flush_any w D σ O f hF hr).mono fun e w' ⟨O', he, hr', hO', k⟩ => ⟨hE ▸ he, One.op h.below h.ge hO (hS ▸ hr') (same_or_none hO') k⟩

theorem One.cut {B w : World} {D : Nat} {σ : St} (h : One B w D σ) (f n : Int) (c : Int) (σ' : St) (hF : Fit σ) (hE : (CutE σ f n : Int) = c) (hS : CutS σ f n = σ') :
    Calls Try.prog 46 #[.pointer (some ⟨D, 0, none⟩), .int .i64 f, .int .i64 n] w fun e w' => e = .returned (.int .i64 c) ∧ One B w' D σ' := by
  obtain ⟨O, hr, hO⟩ := h.is
  exact (cut_any w D σ O f n hF hr).mono fun e w' ⟨O', he, hr', hO', k⟩ => ⟨hE ▸ he, One.op h.below h.ge hO (hS ▸ hr') (same_or_none hO') k⟩

theorem One.turn {B w : World} {D : Nat} {σ : St} (h : One B w D σ) (f g : Int) (c : Int) (σ' : St) (hF : Fit σ) (hE : (TurnE σ f g : Int) = c) (hS : TurnS σ f g = σ') :
    Calls Try.prog 52 #[.pointer (some ⟨D, 0, none⟩), .int .i64 f, .int .i64 g] w fun e w' => e = .returned (.int .i64 c) ∧ One B w' D σ' := by
  obtain ⟨O, hr, hO⟩ := h.is
  exact (turn_any w D σ O f g hF hr).mono fun e w' ⟨O', he, hr', hO', k⟩ => ⟨hE ▸ he, One.op h.below h.ge hO (hS ▸ hr') (same_or_none hO') k⟩

theorem One.crash {B w : World} {D : Nat} {σ : St} (h : One B w D σ) (v : Value) (ks : List Int) (σ' : St) (hkl : ks.length ≤ 9223372036854775807) (hF : Fit σ) (hv : IR (· = D) w v ks) (hS : crashS σ ks = σ') :
    Calls Try.prog 24 #[.pointer (some ⟨D, 0, none⟩), v] w fun e w' => e = .returned (.tuple #[]) ∧ One B w' D σ' := by
  obtain ⟨O, hr, hO⟩ := h.is
  exact (crash_any w D σ O v ks hkl hF.q hv hr).mono fun e w' ⟨he, O', hr', hO', k⟩ => ⟨he, One.op h.below h.ge hO (hS ▸ hr') (same_or_none hO') (k.mono (fun _ _ e => .inl e))⟩

theorem One.arm {B w : World} {D : Nat} {σ : St} (h : One B w D σ) (n : Int) (v : Value) (ks : List Int) (σ' : St) (hk : ks.length ≤ 1000000000) (hv : IR (fun _ => False) w v ks) (hS : armS σ n ks = σ') :
    Calls Try.prog 34 #[.pointer (some ⟨D, 0, none⟩), .int .i64 n, v] w fun e w' => e = .returned (.tuple #[]) ∧ One B w' D σ' := by
  obtain ⟨O, hr, hO⟩ := h.is
  exact (arm_any w D σ O n v ks hk hv hr).mono fun e w' ⟨he, hr', k⟩ => ⟨he, One.op h.below h.ge hO (hS ▸ hr') (fun g h => .inl h) (k.mono (fun _ _ e => .inl e))⟩

theorem One.lose {B w : World} {D : Nat} {σ : St} (h : One B w D σ) (n : Int) (σ' : St) (hn : n ≤ 9223372036854775807) (hS : loseS σ n = σ') :
    Calls Try.prog 28 #[.pointer (some ⟨D, 0, none⟩), .int .i64 n] w fun e w' => e = .returned (.tuple #[]) ∧ One B w' D σ' := by
  obtain ⟨O, hr, hO⟩ := h.is
  exact (lose_any w D σ O n hn hr).mono fun e w' ⟨he, hr', k⟩ => ⟨he, One.op h.below h.ge hO (hS ▸ hr') (fun g h => .inl h) (k.mono (fun _ _ e => .inl e))⟩

theorem One.start {B w : World} {D : Nat} {σ : St} (h : One B w D σ) (σ' : St) (hS : startS σ = σ') :
    Calls Try.prog 26 #[.pointer (some ⟨D, 0, none⟩)] w fun e w' => e = .returned (.tuple #[]) ∧ One B w' D σ' := by
  obtain ⟨O, hr, hO⟩ := h.is
  exact (start_any w D σ O hr).mono fun e w' ⟨he, hr', k⟩ => ⟨he, One.op h.below h.ge hO (hS ▸ hr') (fun g h => .inl h) (k.mono (fun _ _ e => .inl e))⟩

theorem One.down {B w : World} {D : Nat} {σ : St} (h : One B w D σ) (b : Bool) (hS : σ.down = b) :
    Calls Try.prog 37 #[.pointer (some ⟨D, 0, none⟩)] w fun e w' => e = .returned (.bool b) ∧ w = w' := by
  obtain ⟨O, hr, hO⟩ := h.is
  exact hS ▸ down_any w D σ O hr

theorem One.sizeOf {B w : World} {D : Nat} {σ : St} (h : One B w D σ) (f : Int) (c : Int) (hS : (sizeS σ f : Int) = c) :
    Calls Try.prog 73 #[.pointer (some ⟨D, 0, none⟩), .int .i64 f] w fun e w' => e = .returned (.int .i64 c) ∧ w = w' := by
  obtain ⟨O, hr, hO⟩ := h.is
  exact hS ▸ size_any w D σ O f hr

theorem One.read {B w : World} {D : Nat} {σ : St} (h : One B w D σ) (f : Int) (s : ByteArray) (c : Int) (hL : readL σ f = s.data.toList) (hE : (mayS σ f : Int) = c) :
    Calls Try.prog 32 #[.pointer (some ⟨D, 0, none⟩), .int .i64 f] w fun e w' => e = .returned (.tuple #[.string s, .int .i64 c]) ∧ One B w' D σ := by
  obtain ⟨O, hr, hO⟩ := h.is
  refine (read_any w D σ O f hr).mono fun e w' ⟨he, k⟩ => ⟨?_, h.next k⟩
  rw [he, hL, hE, strV_of]

/-- a row built in place, for a disk -/
theorem One.row1 {B w : World} {D : Nat} {σ : St} (h : One B w D σ) (x : Int) : IR (· = D) (w.alloc (.cells #[.int .i64 x] 3)) (.slice (some ⟨w.heap.size, 0, none⟩) 1 1) [x] :=
  ⟨.inr ⟨w.heap.size, 0, 1, rfl, fun e => Nat.lt_irrefl _ (e ▸ h.lt), fun j y hj => by
    rcases (IRow.one w x).is with ⟨h0, _⟩ | ⟨g, o, cap, e, _, hc⟩
    · cases h0
    · injection e with e1 _ _; injection e1 with e1; injection e1 with e1 e2 _; subst e1; subst e2; exact hc j y hj⟩⟩
theorem One.row2 {B w : World} {D : Nat} {σ : St} (h : One B w D σ) (x y : Int) : IR (· = D) (w.alloc (.cells #[.int .i64 x, .int .i64 y] 3)) (.slice (some ⟨w.heap.size, 0, none⟩) 2 2) [x, y] :=
  ⟨.inr ⟨w.heap.size, 0, 2, rfl, fun e => Nat.lt_irrefl _ (e ▸ h.lt), fun j z hj => by
    rcases (IRow.two w x y).is with ⟨h0, _⟩ | ⟨g, o, cap, e, _, hc⟩
    · cases h0
    · injection e with e1 _ _; injection e1 with e1; injection e1 with e1 e2 _; subst e1; subst e2; exact hc j z hj⟩⟩
end Go.Proofs.Ytmcdfhihfcfbaaa.W
