/-
  Rewrite's four steps, one behind the other.
-/
import Derived.Test.YtmcdfhihfcfbaaaJAp
namespace Go.Proofs.Ytmcdfhihfcfbaaa.W
open Go.RowKit
set_option linter.unusedVariables false

def rwStep (σ : St) (f : Nat) (rs : List ByteArray) : Nat → St
  | 0 => σ
  | 1 => CutS σ ((f : Int) + 1) 0
  | 2 => WriteS (CutS σ ((f : Int) + 1) 0) ((f : Int) + 1) 0 (fileL rs)
  | 3 => FlushS (WriteS (CutS σ ((f : Int) + 1) 0) ((f : Int) + 1) 0 (fileL rs)) ((f : Int) + 1)
  | _ => TurnS (FlushS (WriteS (CutS σ ((f : Int) + 1) 0) ((f : Int) + 1) 0 (fileL rs)) ((f : Int) + 1)) f ((f : Int) + 1)
def rwErr (σ : St) (f : Nat) (rs : List ByteArray) : Nat → Nat
  | 0 => CutE σ ((f : Int) + 1) 0
  | 1 => WriteE (CutS σ ((f : Int) + 1) 0) ((f : Int) + 1) 0 (fileL rs)
  | 2 => FlushE (WriteS (CutS σ ((f : Int) + 1) 0) ((f : Int) + 1) 0 (fileL rs)) ((f : Int) + 1)
  | _ => TurnE (FlushS (WriteS (CutS σ ((f : Int) + 1) 0) ((f : Int) + 1) 0 (fileL rs)) ((f : Int) + 1)) f ((f : Int) + 1)

theorem enters_rew1 : Enters Try.prog 45 := enters_of Try.func45 (by kernel_rfl) rfl
theorem enters_rew2 : Enters Try.prog 47 := enters_of Try.func47 (by kernel_rfl) rfl
theorem enters_rew3 : Enters Try.prog 49 := enters_of Try.func49 (by kernel_rfl) rfl
theorem enters_rew4 : Enters Try.prog 51 := enters_of Try.func51 (by kernel_rfl) rfl

theorem fileL_len (rs : List ByteArray) : (fileL rs).length = endL rs := by
  rw [fileL, List.length_append, headL_len]; rfl

/-- one step more -/
theorem next_step {w wr w' : World} {D B : Nat} {O O1 O2 : Option Nat} {S : Nat → Prop} (h1 : ∀ g, O1 = some g → O = some g ∨ w.heap.size ≤ g) (k1 : Keeps (fun g => (g = D ∨ O = some g) ∨ (B ≤ g ∧ ∃ cur fz, w.heap[g]? = some (.cells cur 5 fz))) w wr)
    (h2 : ∀ g, O2 = some g → O1 = some g ∨ wr.heap.size ≤ g) (hS : ∀ g, g < w.heap.size → S g → (g = D ∨ O1 = some g) ∨ ((g = D ∨ O = some g) ∨ (B ≤ g ∧ ∃ cur fz, w.heap[g]? = some (.cells cur 5 fz)))) (k2 : Keeps S wr w') :
    (∀ g, O2 = some g → O = some g ∨ w.heap.size ≤ g) ∧ Keeps (fun g => (g = D ∨ O = some g) ∨ (B ≤ g ∧ ∃ cur fz, w.heap[g]? = some (.cells cur 5 fz))) w w' :=
  ⟨fun g hg => (h2 g hg).elim (h1 g) (fun h => .inr (Nat.le_trans k1.size h)), ⟨k2.os.trans k1.os, k2.tape.trans k1.tape, k2.output.trans k1.output, Nat.le_trans k1.size k2.size, fun k hk hn => (k2.block k (Nat.lt_of_lt_of_le hk k1.size) (fun e => (hS k hk e).elim (fun e => e.elim (fun e => hn (.inl (.inl e))) (fun e => (h1 k e).elim (fun e => hn (.inl (.inr e))) (fun e => Nat.lt_irrefl _ (Nat.lt_of_lt_of_le hk e)))) hn)).trans (k1.block k hk hn)⟩⟩

theorem rewP_0 (σ : St) (f : Nat) (rs : List ByteArray) (h0 : rwErr σ f rs 0 ≠ 0) : rewP σ f rs = (rwErr σ f rs 0, rwStep σ f rs 1) := if_pos h0
theorem rewP_1 (σ : St) (f : Nat) (rs : List ByteArray) (h0 : rwErr σ f rs 0 = 0) (h1 : rwErr σ f rs 1 ≠ 0) : rewP σ f rs = (rwErr σ f rs 1, rwStep σ f rs 2) := (if_neg (fun h => h h0)).trans (if_pos h1)
theorem rewP_2 (σ : St) (f : Nat) (rs : List ByteArray) (h0 : rwErr σ f rs 0 = 0) (h1 : rwErr σ f rs 1 = 0) (h2 : rwErr σ f rs 2 ≠ 0) : rewP σ f rs = (rwErr σ f rs 2, rwStep σ f rs 3) := (if_neg (fun h => h h0)).trans ((if_neg (fun h => h h1)).trans (if_pos h2))
theorem rewP_3 (σ : St) (f : Nat) (rs : List ByteArray) (h0 : rwErr σ f rs 0 = 0) (h1 : rwErr σ f rs 1 = 0) (h2 : rwErr σ f rs 2 = 0) : rewP σ f rs = (rwErr σ f rs 3, rwStep σ f rs 4) := (if_neg (fun h => h h0)).trans ((if_neg (fun h => h h1)).trans (if_neg (fun h => h h2)))

set_option maxHeartbeats 1000000 in
theorem rwSteps_any (w : World) (b1 b2 b3 b4 g L D : Nat) (p : Option Addr) (c : Nat) (rs : List ByteArray) (l : Lg) (R : Option Nat) (σ : St) (O : Option Nat) (q : Nat) (hF : FitQ σ q) (hq : q ≤ 800000000) (hrs : (formsL rs).length ≤ 100000000) (hr : Rep w D σ O) (hl : LRep w L D l R) (hbx : Blk w b1 25 [.pointer (some ⟨L, 0, none⟩)])
    (h2 : Blk w b2 31 [.slice p rs.length c]) (h4 : Blk w b4 3 [.int .i64 (endL rs : Nat)]) (hB : Lib.IsBuilder 76 5 b3 b3 (Lib.byteCells (formsL rs)) w)
    (hfs : Blk w g 35 [.func (.func 45) #[] #[.pointer (some ⟨b1, 0, none⟩)], .func (.func 47) #[] #[.pointer (some ⟨b1, 0, none⟩), .pointer (some ⟨b4, 0, none⟩), .pointer (some ⟨b2, 0, none⟩), .pointer (some ⟨b3, 0, none⟩)], .func (.func 49) #[] #[.pointer (some ⟨b1, 0, none⟩)], .func (.func 51) #[] #[.pointer (some ⟨b1, 0, none⟩)]]) :
    Calls Try.prog 38 #[.slice (some ⟨g, 0, none⟩) 4 4] w fun e w' => e = .returned (.int .i64 (rewP σ l.f rs).1) ∧ ∃ O', Rep w' D (rewP σ l.f rs).2 O' ∧ (∀ g, O' = some g → O = some g ∨ w.heap.size ≤ g) ∧ Keeps (fun g => (g = D ∨ O = some g) ∨ (b3 ≤ g ∧ ∃ cur fz, w.heap[g]? = some (.cells cur 5 fz))) w w' := by
  have hd := hl.disk hr
  obtain ⟨v, hlb, hlO, hlR⟩ := hl.is
  have hok := hl.ok
  have hlen := len_le_forms rs
  have hel : (formsL rs).length ≤ endL rs := by unfold endL; omega
  have hee : endL rs = 16 + (formsL rs).length := rfl
  have keep : ∀ {wr : World} {b : Nat} {T : TypeId} {vs : List Value}, Keeps (fun g => (g = D ∨ O = some g) ∨ (b3 ≤ g ∧ ∃ cur fz, w.heap[g]? = some (.cells cur 5 fz))) w wr → Blk w b T vs → T ≠ 70 → T ≠ 91 → T ≠ 5 → Blk wr b T vs := fun {wr b T vs} k hb t1 t2 t3 =>
    k.blk hb (fun e => e.elim (hr.not_typ hb.is t1 t2) (fun ⟨_, cur, fz, e⟩ => by rw [hb.is] at e; injection e with e; injection e with _ e _; exact t3 e))
  let I : Nat → World → Prop := fun k wr => ∃ O', Rep wr D (rwStep σ l.f rs k) O' ∧ (∀ g, O' = some g → O = some g ∨ w.heap.size ≤ g) ∧ (k ≤ 1 → Keeps (fun g => g = D ∨ O = some g) w wr) ∧ Keeps (fun g => (g = D ∨ O = some g) ∨ (b3 ≤ g ∧ ∃ cur fz, w.heap[g]? = some (.cells cur 5 fz))) w wr
  have hF1 : FitQ (CutS σ ((l.f : Int) + 1) 0) q := hF.cut _ _
  have hF2 : FitQ (WriteS (CutS σ ((l.f : Int) + 1) 0) ((l.f : Int) + 1) 0 (fileL rs)) (q + endL rs) := by
    have := hF1.write ((l.f : Int) + 1) 0 (fileL rs)
    rwa [fileL_len] at this
  have hF3 := hF2.flush ((l.f : Int) + 1)
  refine (jall_any w g [⟨45, #[], #[.pointer (some ⟨b1, 0, none⟩)]⟩, ⟨47, #[], #[.pointer (some ⟨b1, 0, none⟩), .pointer (some ⟨b4, 0, none⟩), .pointer (some ⟨b2, 0, none⟩), .pointer (some ⟨b3, 0, none⟩)]⟩, ⟨49, #[], #[.pointer (some ⟨b1, 0, none⟩)]⟩, ⟨51, #[], #[.pointer (some ⟨b1, 0, none⟩)]⟩] I (rwErr σ l.f rs) (by simp) ?en ?cells ?steps ⟨O, hr, fun g h => .inl h, fun _ => Keeps.refl _ _, Keeps.refl _ _⟩).mono ?_
  case en =>
    intro x hx
    simp only [List.mem_cons, List.not_mem_nil, or_false] at hx
    rcases hx with rfl | rfl | rfl | rfl
    · exact enters_rew1
    · exact enters_rew2
    · exact enters_rew3
    · exact enters_rew4
  case cells =>
    rintro j wr x ⟨O', _, _, _, k⟩ hx
    have hb' := keep k hfs (by decide) (by decide) (by decide)
    match j, hx with
    | 0, hx => cases hx; exact hb'.at (j := 0) rfl
    | 1, hx => cases hx; exact hb'.at (j := 1) rfl
    | 2, hx => cases hx; exact hb'.at (j := 2) rfl
    | 3, hx => cases hx; exact hb'.at (j := 3) rfl
  case steps =>
    rintro j wr x ⟨O1, h1, hO1, hk1, k1⟩ hx
    have hlb' := keep k1 hlb (by decide) (by decide) (by decide)
    have hbx' := keep k1 hbx (by decide) (by decide) (by decide)
    have h2' := keep k1 h2 (by decide) (by decide) (by decide)
    have h4' := keep k1 h4 (by decide) (by decide) (by decide)
    match j, hx with
    | 0, hx =>
      cases hx
      refine (jrew1_any wr b1 L D l.f _ _ _ σ O1 hok.f (hF.fit (by omega)) h1 hbx' hlb').mono ?_
      rintro e w' ⟨O2, rfl, h2, hO2, k2⟩
      have := next_step hO1 k1 (same_or_none hO2) (fun g _ h => .inl h) k2
      refine ⟨rfl, O2, h2, this.1, fun _ => ?_, this.2⟩
      have hk0 := hk1 (by decide)
      exact ⟨k2.os.trans hk0.os, k2.tape.trans hk0.tape, k2.output.trans hk0.output, Nat.le_trans hk0.size k2.size, fun k hk hn => (k2.block k (Nat.lt_of_lt_of_le hk hk0.size) (fun e => e.elim (fun e => hn (.inl e)) (fun e => (hO1 k e).elim (fun e => hn (.inr e)) (fun e => Nat.lt_irrefl _ (Nat.lt_of_lt_of_le hk e))))).trans (hk0.block k hk hn)⟩
    | 1, hx =>
      cases hx
      have hBu := keeps_builder (hk1 (by decide)) hB (fun g cur T fz hg hT => hr.not_typ hg (by rcases hT with rfl | rfl <;> decide) (by rcases hT with rfl | rfl <;> decide))
      refine (jrew2_any wr b1 b2 b3 b4 L D b3 l.f _ _ _ p rs.length c (endL rs) (formsL rs) (CutS σ ((l.f : Int) + 1) 0) O1 hok.f (by omega) (by omega) (hF1.fit (by omega)) hrs (by have := hF1.q; omega) h1 hbx' hlb' h2' h4' hBu).mono ?_
      rintro e w' ⟨O2, rfl, h2, hO2, S, hS, k2⟩
      have := next_step hO1 k1 hO2 (fun g hg h => (hS g h).imp_right (fun e => by
        obtain ⟨e1, cur, fz, e2⟩ := e
        by_cases hD : g = D ∨ O = some g
        · exact .inl hD
        · rw [(hk1 (by decide)).block g hg hD] at e2
          exact .inr ⟨e1, cur, fz, e2⟩)) k2
      exact ⟨rfl, O2, h2, this.1, fun h => absurd h (by decide), this.2⟩
    | 2, hx =>
      cases hx
      refine (jrew3_any wr b1 L D l.f _ _ _ _ O1 hok.f (hF2.fit (by omega)) h1 hbx' hlb').mono ?_
      rintro e w' ⟨O2, rfl, h2, hO2, k2⟩
      have := next_step hO1 k1 (same_or_none hO2) (fun g _ h => .inl h) k2
      exact ⟨rfl, O2, h2, this.1, fun h => absurd h (by decide), this.2⟩
    | 3, hx =>
      cases hx
      refine (jrew4_any wr b1 L D l.f _ _ _ _ O1 hok.f (hF3.fit (by omega)) h1 hbx' hlb').mono ?_
      rintro e w' ⟨O2, rfl, h2, hO2, k2⟩
      have := next_step hO1 k1 (same_or_none hO2) (fun g _ h => .inl h) k2
      exact ⟨rfl, O2, h2, this.1, fun h => absurd h (by decide), this.2⟩
  · rintro e w' h
    rcases h with ⟨k, hk, hz, hn, he, O', h1, h2, _, h3⟩ | ⟨hz, he, O', h1, h2, _, h3⟩
    · have hk4 : k < 4 := hk
      rcases (by omega : k = 0 ∨ k = 1 ∨ k = 2 ∨ k = 3) with rfl | rfl | rfl | rfl
      · rw [rewP_0 σ l.f rs hn]; exact ⟨he, O', h1, h2, h3⟩
      · rw [rewP_1 σ l.f rs (hz 0 (by decide)) hn]; exact ⟨he, O', h1, h2, h3⟩
      · rw [rewP_2 σ l.f rs (hz 0 (by decide)) (hz 1 (by decide)) hn]; exact ⟨he, O', h1, h2, h3⟩
      · rw [rewP_3 σ l.f rs (hz 0 (by decide)) (hz 1 (by decide)) (hz 2 (by decide))]; exact ⟨he, O', h1, h2, h3⟩
    · have hz' : ∀ j, j < 4 → rwErr σ l.f rs j = 0 := hz
      rw [rewP_3 σ l.f rs (hz' 0 (by decide)) (hz' 1 (by decide)) (hz' 2 (by decide))]
      exact ⟨by rw [he, hz' 3 (by decide)]; rfl, O', h1, h2, h3⟩

end Go.Proofs.Ytmcdfhihfcfbaaa.W
