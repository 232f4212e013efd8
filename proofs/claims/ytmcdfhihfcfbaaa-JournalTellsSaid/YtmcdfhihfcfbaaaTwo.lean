/-
  A law's two disks: what a call on one of them leaves of both.
-/
import Derived.Test.YtmcdfhihfcfbaaaOne
import Derived.Test.YtmcdfhihfcfbaaaCopy
namespace Go.Proofs.Ytmcdfhihfcfbaaa.W
open Go.RowKit
set_option linter.unusedVariables false

/-- what an operation on the disk at D does -/
structure OpC (w : World) (f : FuncId) (args : Array Value) (D : Nat) (σ σ' : St) (val : Value) : Prop where
  run : ∀ O, Rep w D σ O → Calls Try.prog f args w fun e w' => e = .returned val ∧ ∃ O', Rep w' D σ' O' ∧ (∀ g, O' = some g → O = some g ∨ w.heap.size ≤ g) ∧ Keeps (fun g => g = D ∨ O = some g) w w'

section
variable {w : World} {D : Nat} {σ : St}
theorem OpC.write (f k : Int) (s : ByteArray) (c : Int) (σ' : St) (hF : Fit σ) (hq : σ.queue.length + s.size ≤ 1000000000) (hk1 : k ≤ 9223372036854775807) (hs64 : s.size ≤ 9223372036854775807)
    (hE : (WriteE σ f k s.data.toList : Int) = c) (hS : WriteS σ f k s.data.toList = σ') : OpC w 18 #[.pointer (some ⟨D, 0, none⟩), .int .i64 f, .int .i64 k, .string s] D σ σ' (.int .i64 c) :=
  ⟨fun O hr => (Write_any w D σ O f k s hF hq hk1 hs64 hr).mono fun e w' ⟨O', he, hr', hO', k⟩ => ⟨hE ▸ he, O', hS ▸ hr', hO', k⟩⟩
theorem OpC.flush (f : Int) (c : Int) (σ' : St) (hF : Fit σ) (hE : (FlushE σ f : Int) = c) (hS : FlushS σ f = σ') : OpC w 50 #[.pointer (some ⟨D, 0, none⟩), .int .i64 f] D σ σ' (.int .i64 c) :=
  ⟨fun O hr => (flush_any w D σ O f hF hr).mono fun e w' ⟨O', he, hr', hO', k⟩ => ⟨hE ▸ he, O', hS ▸ hr', same_or_none hO', k⟩⟩
theorem OpC.cut (f n : Int) (c : Int) (σ' : St) (hF : Fit σ) (hE : (CutE σ f n : Int) = c) (hS : CutS σ f n = σ') : OpC w 46 #[.pointer (some ⟨D, 0, none⟩), .int .i64 f, .int .i64 n] D σ σ' (.int .i64 c) :=
  ⟨fun O hr => (cut_any w D σ O f n hF hr).mono fun e w' ⟨O', he, hr', hO', k⟩ => ⟨hE ▸ he, O', hS ▸ hr', same_or_none hO', k⟩⟩
theorem OpC.turn (f g : Int) (c : Int) (σ' : St) (hF : Fit σ) (hE : (TurnE σ f g : Int) = c) (hS : TurnS σ f g = σ') : OpC w 52 #[.pointer (some ⟨D, 0, none⟩), .int .i64 f, .int .i64 g] D σ σ' (.int .i64 c) :=
  ⟨fun O hr => (turn_any w D σ O f g hF hr).mono fun e w' ⟨O', he, hr', hO', k⟩ => ⟨hE ▸ he, O', hS ▸ hr', same_or_none hO', k⟩⟩
theorem OpC.crash (v : Value) (ks : List Int) (σ' : St) (hkl : ks.length ≤ 9223372036854775807) (hF : Fit σ) (hv : IR (· = D) w v ks) (hS : crashS σ ks = σ') : OpC w 24 #[.pointer (some ⟨D, 0, none⟩), v] D σ σ' (.tuple #[]) :=
  ⟨fun O hr => (crash_any w D σ O v ks hkl hF.q hv hr).mono fun e w' ⟨he, O', hr', hO', k⟩ => ⟨he, O', hS ▸ hr', same_or_none hO', k.mono (fun _ _ e => .inl e)⟩⟩
theorem OpC.arm (n : Int) (v : Value) (ks : List Int) (σ' : St) (hk : ks.length ≤ 1000000000) (hv : IR (fun _ => False) w v ks) (hS : armS σ n ks = σ') : OpC w 34 #[.pointer (some ⟨D, 0, none⟩), .int .i64 n, v] D σ σ' (.tuple #[]) :=
  ⟨fun O hr => (arm_any w D σ O n v ks hk hv hr).mono fun e w' ⟨he, hr', k⟩ => ⟨he, O, hS ▸ hr', fun g h => .inl h, k.mono (fun _ _ e => .inl e)⟩⟩
theorem OpC.lose (n : Int) (σ' : St) (hn : n ≤ 9223372036854775807) (hS : loseS σ n = σ') : OpC w 28 #[.pointer (some ⟨D, 0, none⟩), .int .i64 n] D σ σ' (.tuple #[]) :=
  ⟨fun O hr => (lose_any w D σ O n hn hr).mono fun e w' ⟨he, hr', k⟩ => ⟨he, O, hS ▸ hr', fun g h => .inl h, k.mono (fun _ _ e => .inl e)⟩⟩
theorem OpC.start (σ' : St) (hS : startS σ = σ') : OpC w 26 #[.pointer (some ⟨D, 0, none⟩)] D σ σ' (.tuple #[]) :=
  ⟨fun O hr => (start_any w D σ O hr).mono fun e w' ⟨he, hr', k⟩ => ⟨he, O, hS ▸ hr', fun g h => .inl h, k.mono (fun _ _ e => .inl e)⟩⟩
theorem OpC.read (f : Int) (s : ByteArray) (c : Int) (hL : readL σ f = s.data.toList) (hE : (mayS σ f : Int) = c) : OpC w 32 #[.pointer (some ⟨D, 0, none⟩), .int .i64 f] D σ σ (.tuple #[.string s, .int .i64 c]) :=
  ⟨fun O hr => (read_any w D σ O f hr).mono fun e w' ⟨he, k⟩ => ⟨by rw [he, hL, hE, strV_of], O, hr.next k, fun g h => .inl h, k.mono (fun _ _ h => h.elim)⟩⟩
theorem OpC.down (b : Bool) (hS : σ.down = b) : OpC w 37 #[.pointer (some ⟨D, 0, none⟩)] D σ σ (.bool b) :=
  ⟨fun O hr => (down_any w D σ O hr).mono fun e w' ⟨he, hw⟩ => ⟨hS ▸ he, O, hw ▸ hr, fun g h => .inl h, hw ▸ Keeps.refl _ _⟩⟩
theorem OpC.sizeOf (f : Int) (c : Int) (hS : (sizeS σ f : Int) = c) : OpC w 73 #[.pointer (some ⟨D, 0, none⟩), .int .i64 f] D σ σ (.int .i64 c) :=
  ⟨fun O hr => (size_any w D σ O f hr).mono fun e w' ⟨he, hw⟩ => ⟨hS ▸ he, O, hw ▸ hr, fun g h => .inl h, hw ▸ Keeps.refl _ _⟩⟩
end

theorem One.run {B w : World} {D : Nat} {σ σ' : St} {f : FuncId} {args : Array Value} {val : Value} (h : One B w D σ) (hc : OpC w f args D σ σ' val) : Calls Try.prog f args w fun e w' => e = .returned val ∧ One B w' D σ' := by
  obtain ⟨O, hr, hO⟩ := h.is
  exact (hc.run O hr).mono fun e w' ⟨he, O', hr', hO', k⟩ => ⟨he, One.op h.below h.ge hO hr' hO' k⟩

theorem Rep.ltO {w : World} {D : Nat} {σ : St} {O : Option Nat} (h : Rep w D σ O) {g : Nat} (hg : O = some g) : g < w.heap.size := by
  obtain ⟨qv, kv, hb, hq, hk⟩ := h.is
  rcases hq.is with ⟨h0, _⟩ | ⟨g', hO', hv, hrow⟩
  · rw [h0] at hg; cases hg
  · rw [hO'] at hg
    cases hg
    rcases hrow.2 with ⟨rfl, _⟩ | ⟨b, cap, cur', rfl, hB, hg', r⟩
    · cases hv
    · have hbg : b = g := by simpa [Value.ownBlock] using hv
      subst hbg
      rcases Nat.lt_or_ge b w.heap.size with h' | h'
      · exact h'
      · rw [Array.getElem?_eq_none h'] at hg'; cases hg'

/-- two disks that the call itself has made -/
structure Two (B w : World) (D E : Nat) (σ τ : St) : Prop where
  is : ∃ O P, Rep w D σ O ∧ Rep w E τ P ∧ (∀ g, O = some g → B.heap.size ≤ g) ∧ (∀ g, P = some g → B.heap.size ≤ g) ∧ O ≠ some E ∧ P ≠ some D ∧ (∀ g, O = some g → P = some g → False)
  ne : D ≠ E
  below : Below B.heap.size B w
  ge : B.heap.size ≤ D
  ge' : B.heap.size ≤ E

theorem Two.swap {B w : World} {D E : Nat} {σ τ : St} (h : Two B w D E σ τ) : Two B w E D τ σ := by
  obtain ⟨O, P, h1, h2, h3, h4, h5, h6, h7⟩ := h.is
  exact ⟨⟨P, O, h2, h1, h4, h3, h6, h5, fun g a b => h7 g b a⟩, fun e => h.ne e.symm, h.below, h.ge', h.ge⟩
theorem Two.left {B w : World} {D E : Nat} {σ τ : St} (h : Two B w D E σ τ) : One B w D σ := by
  obtain ⟨O, P, h1, h2, h3, h4, h5, h6, h7⟩ := h.is
  exact ⟨⟨O, h1, h3⟩, h.below, h.ge⟩
theorem Two.right {B w : World} {D E : Nat} {σ τ : St} (h : Two B w D E σ τ) : One B w E τ := h.swap.left

theorem Two.run {B w : World} {D E : Nat} {σ σ' τ : St} {f : FuncId} {args : Array Value} {val : Value} (h : Two B w D E σ τ) (hc : OpC w f args D σ σ' val) : Calls Try.prog f args w fun e w' => e = .returned val ∧ Two B w' D E σ' τ := by
  obtain ⟨O, P, h1, h2, h3, h4, h5, h6, h7⟩ := h.is
  have hl := h1.lt
  have hb := h.below
  refine (hc.run O h1).mono fun e w' ⟨he, O', hr', hO', k⟩ => ⟨he, ?_⟩
  have h1' := One.op h.below h.ge h3 hr' hO' k
  have hlE := h2.lt
  have h2' : Rep w' E τ P := h2.keeps k (fun e => e.elim (fun e => h.ne e.symm) h5) (fun g hg e => e.elim (fun e => h6 (e ▸ hg)) (fun e => h7 g e hg)) (fun g cur fz hg e => h1.notInt g cur fz hg e)
  refine ⟨⟨O', P, hr', h2', fun g hg => (hO' g hg).elim (h3 g) (Nat.le_trans hb.size), h4, fun e => ?_, h6, fun g a b => ?_⟩, h.ne, h1'.below, h.ge, h.ge'⟩
  · rcases hO' E e with e | e
    · exact h5 e
    · exact Nat.lt_irrefl _ (Nat.lt_of_lt_of_le hlE e)
  · rcases hO' g a with e | e
    · exact h7 g e b
    · exact Nat.lt_irrefl _ (Nat.lt_of_lt_of_le (h2.ltO b) e)

theorem Two.run2 {B w : World} {D E : Nat} {σ τ τ' : St} {f : FuncId} {args : Array Value} {val : Value} (h : Two B w D E σ τ) (hc : OpC w f args E τ τ' val) : Calls Try.prog f args w fun e w' => e = .returned val ∧ Two B w' D E σ τ' :=
  (h.swap.run hc).mono fun e w' ⟨a, b⟩ => ⟨a, b.swap⟩

theorem Two.next {B w w' : World} {D E : Nat} {σ τ : St} (h : Two B w D E σ τ) (k : Keeps (fun _ => False) w w') : Two B w' D E σ τ := by
  obtain ⟨O, P, h1, h2, h3, h4, h5, h6, h7⟩ := h.is
  exact ⟨⟨O, P, h1.next k, h2.next k, h3, h4, h5, h6, h7⟩, h.ne, (h.left.next k).below, h.ge, h.ge'⟩
theorem Two.alloc {B w : World} {D E : Nat} {σ τ : St} (h : Two B w D E σ τ) (o : Obj) : Two B (w.alloc o) D E σ τ := h.next ((Keeps.refl (fun _ => False) w).alloc o)

end Go.Proofs.Ytmcdfhihfcfbaaa.W
