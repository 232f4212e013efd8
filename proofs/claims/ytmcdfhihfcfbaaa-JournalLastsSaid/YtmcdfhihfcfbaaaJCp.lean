/-
  A calm disk: every call on a log succeeds. No program.
-/
import Derived.Test.YtmcdfhihfcfbaaaJW
namespace Go.Proofs.Ytmcdfhihfcfbaaa.W
set_option linter.unusedVariables false

structure Calm (σ : St) : Prop where
  down : σ.down = false
  armed : σ.armed = 0
  lost : σ.lost = 0

theorem Calm.new : Calm newS := ⟨rfl, rfl, rfl⟩
section
variable {σ : St}
theorem Calm.endsB (h : Calm σ) : endsB σ = false := by simp [W.endsB, h.armed]
theorem Calm.endsS (h : Calm σ) : endsS σ = σ := by simp [W.endsS, h.armed]
theorem Calm.head (h : Calm σ) : headS σ = σ := by
  unfold headS; rw [h.endsB]; simp [h.endsS]
theorem Calm.may (h : Calm σ) {f : Int} (hf : isF f = true) : mayS σ f = 0 := by
  unfold mayS; rw [h.down, hf]; rfl
theorem isF_of {f : Int} (h0 : 0 ≤ f) (h8 : f < 8) : isF f = true := by unfold isF; simp; omega

theorem Calm.writeE (h : Calm σ) {f k : Int} {s : List UInt8} (hf : isF f = true) (hk : 0 ≤ k) (hs : k + (s.length : Int) ≤ 16777216) : WriteE σ f k s = 0 := by
  unfold WriteE
  rw [h.endsB, h.endsS]
  unfold W.writeE
  rw [h.may hf, if_neg (by decide), if_neg (by omega), if_neg (by omega)]
  simp only [if_neg (show ¬ (k > 16777216 ∨ (s.length : Int) > 16777216 - k) by omega)]
theorem writeS_flags (σ : St) (f k : Int) (s : List UInt8) : (writeS σ f k s).down = σ.down ∧ (writeS σ f k s).armed = σ.armed ∧ (writeS σ f k s).lost = σ.lost := by
  unfold writeS; split <;> exact ⟨rfl, rfl, rfl⟩
theorem Calm.writeEq (h : Calm σ) (f k : Int) (s : List UInt8) : WriteS σ f k s = writeS σ f k s := by
  unfold WriteS; rw [h.endsB, h.endsS]; rfl
theorem Calm.write (h : Calm σ) (f k : Int) (s : List UInt8) : Calm (WriteS σ f k s) := by
  rw [h.writeEq]
  have := writeS_flags σ f k s
  exact ⟨this.1.trans h.down, this.2.1.trans h.armed, this.2.2.trans h.lost⟩
theorem Calm.flushE (h : Calm σ) {f : Int} (hf : isF f = true) : FlushE σ f = 0 := by
  unfold FlushE W.flushE
  rw [h.head, h.may hf, if_neg (by decide), h.lost]; rfl
theorem Calm.flushEq (h : Calm σ) {f : Int} (hf : isF f = true) : FlushS σ f = settleS σ f.toNat (σ.files.getD f.toNat []) := by
  unfold FlushS flushS
  rw [h.head, h.may hf, if_neg (by decide), h.lost]; rfl
theorem Calm.settle (h : Calm σ) (f : Nat) (s : List UInt8) : Calm (settleS σ f s) := ⟨h.down, h.armed, h.lost⟩
theorem Calm.flush (h : Calm σ) {f : Int} (hf : isF f = true) : Calm (FlushS σ f) := by rw [h.flushEq hf]; exact h.settle _ _
theorem Calm.cutE (h : Calm σ) {f : Int} (hf : isF f = true) : CutE σ f 0 = 0 := by
  unfold CutE W.cutE
  rw [h.head, h.may hf, if_neg (by decide), if_neg (by omega)]
theorem Calm.cutEq (h : Calm σ) {f : Int} (hf : isF f = true) : CutS σ f 0 = settleS σ f.toNat [] := by
  have hc : W.cutE σ f 0 = 0 := by have := h.cutE hf; unfold CutE at this; rwa [h.head] at this
  unfold CutS cutS
  rw [h.head, hc]
  simp
theorem Calm.cut (h : Calm σ) {f : Int} (hf : isF f = true) : Calm (CutS σ f 0) := by rw [h.cutEq hf]; exact h.settle _ _
theorem Calm.turnE (h : Calm σ) {f g : Int} (hf : isF f = true) (hg : isF g = true) (hne : f ≠ g) (hq : ∀ p ∈ σ.queue, p.f ≠ g.toNat) : TurnE σ f g = 0 := by
  have hm : may2 σ f g = 0 := by unfold may2; rw [h.may hf, if_neg (by decide), h.may hg]
  unfold TurnE W.turnE
  rw [h.head, hm, if_neg (by decide), if_neg hne, if_neg]
  simp only [List.any_eq_true, decide_eq_true_eq, not_exists, not_and]
  exact hq
theorem Calm.turnEq (h : Calm σ) {f g : Int} (hf : isF f = true) (hg : isF g = true) (hne : f ≠ g) (hq : ∀ p ∈ σ.queue, p.f ≠ g.toNat) : TurnS σ f g = settleS (settleS σ f.toNat (σ.lasts.getD g.toNat [])) g.toNat [] := by
  have hc : W.turnE σ f g = 0 := by have := h.turnE hf hg hne hq; unfold TurnE at this; rwa [h.head] at this
  unfold TurnS turnS
  rw [h.head, hc]
  simp
theorem Calm.turn (h : Calm σ) {f g : Int} (hf : isF f = true) (hg : isF g = true) (hne : f ≠ g) (hq : ∀ p ∈ σ.queue, p.f ≠ g.toNat) : Calm (TurnS σ f g) := by
  rw [h.turnEq hf hg hne hq]; exact (h.settle _ _).settle _ _
end

theorem calm_flu {σ : St} (h : Calm σ) (l : Lg) (hf : l.f ≤ 6) : (fluP σ l).1 = 0 ∧ Calm (fluP σ l).2 := by
  have hF : isF (l.f : Int) = true := isF_of (by omega) (by omega)
  have c1 := h.flush hF
  have hlen : (headR l).length = 16 := headL_len _ _
  have c2 := c1.write (l.f : Int) 0 (headR l)
  unfold fluP
  split
  · rw [h.down]; exact ⟨rfl, h⟩
  · rw [if_neg (by rw [h.flushE hF]; decide), if_neg (by rw [c1.writeE hF (by omega) (by rw [hlen]; omega)]; decide)]
    exact ⟨c2.flushE hF, c2.flush hF⟩
theorem calm_app {σ : St} (h : Calm σ) (l : Lg) (r : ByteArray) (hf : l.f ≤ 6) (he : endL l.rows + (8 + r.size) ≤ 16777216) : appE σ l r = 0 ∧ Calm (appS σ l r) := by
  have hfl := formL_len r
  exact ⟨h.writeE (isF_of (by omega) (by omega)) (by omega) (by omega), h.write _ _ _⟩
theorem flushed_queue {σ : St} (h : Calm σ) {f : Int} (hf : isF f = true) : ∀ p ∈ (FlushS σ f).queue, p.f ≠ f.toNat := by
  intro p hp
  rw [h.flushEq hf] at hp
  have := (List.mem_filter.1 hp).2
  simpa using this
theorem calm_rew {σ : St} (h : Calm σ) (f : Nat) (rs : List ByteArray) (hf : f ≤ 6) (he : endL rs ≤ 16777216) : (rewP σ f rs).1 = 0 ∧ Calm (rewP σ f rs).2 := by
  have hF : isF (f : Int) = true := isF_of (by omega) (by omega)
  have hG : isF ((f : Int) + 1) = true := isF_of (by omega) (by omega)
  have hlen := fileL_len rs
  have c1 := h.cut hG
  have c2 := c1.write ((f : Int) + 1) 0 (fileL rs)
  have c3 := c2.flush hG
  have hq := flushed_queue c2 hG
  have e0 : rwErr σ f rs 0 = 0 := h.cutE hG
  have e1 : rwErr σ f rs 1 = 0 := c1.writeE hG (by omega) (by omega)
  have e2 : rwErr σ f rs 2 = 0 := c2.flushE hG
  rw [rewP_3 σ f rs e0 e1 e2]
  exact ⟨c3.turnE hF hG (by omega) hq, c3.turn hF hG (by omega) hq⟩

/-- how great rows of few make a file -/
theorem forms_le (rs : List ByteArray) (m : Nat) (h : ∀ r ∈ rs, r.size ≤ m) : (formsL rs).length ≤ rs.length * (8 + m) := by
  induction rs with
  | nil => simp [formsL]
  | cons r rs ih =>
    rw [formsL_cons, List.length_append, formL_len, List.length_cons, Nat.succ_mul]
    have := h r (by simp)
    have := ih (fun x hx => h x (by simp [hx]))
    omega

end Go.Proofs.Ytmcdfhihfcfbaaa.W
