/-
  The disk's numbers fit: what each operation leaves of that. (Where XDo does not lie.) No program.
-/
import Derived.Test.YtmcdfhihfcfbaaaWriteW
namespace Go.Proofs.Ytmcdfhihfcfbaaa.W
set_option linter.unusedVariables false

/-- the disk's numbers fit, and at most b pieces are pending -/
structure FitQ (σ : St) (b : Nat) : Prop where
  a : σ.armed ≤ 9223372036854775807
  l : σ.lost ≤ 9223372036854775807
  k : σ.keep.length ≤ 100000
  q : σ.queue.length ≤ b

theorem FitQ.fit {σ : St} {b : Nat} (h : FitQ σ b) (hb : b ≤ 1000000000) : Fit σ := ⟨h.a, h.l, Nat.le_trans h.k (by decide), Nat.le_trans h.q hb⟩
theorem FitQ.mono {σ : St} {b c : Nat} (h : FitQ σ b) (hb : b ≤ c) : FitQ σ c := ⟨h.a, h.l, h.k, Nat.le_trans h.q hb⟩
theorem FitQ.ends {σ : St} {b : Nat} (h : FitQ σ b) : FitQ (endsS σ) b := by
  unfold endsS
  split
  · exact h
  · exact ⟨by have := h.a; show σ.armed - 1 ≤ _; omega, h.l, h.k, h.q⟩
theorem FitQ.crash {σ : St} {b : Nat} (h : FitQ σ b) (ks : List Int) : FitQ (crashS σ ks) b := by
  unfold crashS
  split
  · exact h
  · exact ⟨Nat.zero_le _, h.l, h.k, Nat.zero_le _⟩
theorem FitQ.head {σ : St} {b : Nat} (h : FitQ σ b) : FitQ (headS σ) b := by
  unfold headS
  split
  · exact h.ends.crash _
  · exact h.ends
theorem FitQ.settle {σ : St} {b : Nat} (h : FitQ σ b) (f : Nat) (s : List UInt8) : FitQ (settleS σ f s) b := ⟨h.a, h.l, h.k, Nat.le_trans (List.length_filter_le _ _) h.q⟩
theorem FitQ.flush {σ : St} {b : Nat} (h : FitQ σ b) (f : Int) : FitQ (FlushS σ f) b := by
  unfold FlushS flushS
  have h' := h.head
  split
  · exact h'
  · split
    · exact ⟨h'.a, by have := h'.l; show (headS σ).lost - 1 ≤ _; omega, h'.k, h'.q⟩
    · exact h'.settle _ _
theorem FitQ.cut {σ : St} {b : Nat} (h : FitQ σ b) (f n : Int) : FitQ (CutS σ f n) b := by
  unfold CutS cutS
  split
  · exact h.head.settle _ _
  · exact h.head
theorem FitQ.turn {σ : St} {b : Nat} (h : FitQ σ b) (f g : Int) : FitQ (TurnS σ f g) b := by
  unfold TurnS turnS
  split
  · exact (h.head.settle _ _).settle _ _
  · exact h.head
theorem writeS_armed (σ : St) (f k : Int) (s : List UInt8) : (writeS σ f k s).armed = σ.armed ∧ (writeS σ f k s).lost = σ.lost := by
  unfold writeS; split <;> exact ⟨rfl, rfl⟩
theorem FitQ.write {σ : St} {b : Nat} (h : FitQ σ b) (f k : Int) (s : List UInt8) : FitQ (WriteS σ f k s) (b + s.length) := by
  have h' : FitQ (writeS (endsS σ) f k s) (b + s.length) := by
    have e := h.ends
    exact ⟨by rw [(writeS_armed _ _ _ _).1]; exact e.a, by rw [(writeS_armed _ _ _ _).2]; exact e.l, by rw [writeS_keep]; exact e.k, Nat.le_trans (writeS_queue _ _ _ _) (Nat.add_le_add_right e.q _)⟩
  unfold WriteS
  split
  · exact h'.crash _
  · exact h'
theorem FitQ.start {σ : St} {b : Nat} (h : FitQ σ b) : FitQ (startS σ) b := ⟨h.a, h.l, h.k, h.q⟩
theorem FitQ.lose {σ : St} {b : Nat} (h : FitQ σ b) (n : Int) (hn : n ≤ 9223372036854775807) : FitQ (loseS σ n) b := ⟨h.a, by show (max n 0).toNat ≤ _; omega, h.k, h.q⟩
theorem FitQ.arm {σ : St} {b : Nat} (h : FitQ σ b) (n : Int) (ks : List Int) (hn : n ≤ 9223372036854775807) (hk : ks.length ≤ 100000) : FitQ (armS σ n ks) b := ⟨by show (max n 0).toNat ≤ _; omega, h.l, hk, h.q⟩
theorem FitQ.new : FitQ newS 0 := ⟨by decide, by decide, by decide, Nat.le_refl _⟩
/-- a crash empties the queue (a machine that is down has none pending) -/
theorem FitQ.crash0 {σ : St} {b : Nat} (h : FitQ σ b) (ks : List Int) (hd : σ.down = false) : FitQ (crashS σ ks) 0 := by
  unfold crashS
  rw [hd]
  exact ⟨Nat.zero_le _, h.l, h.k, Nat.zero_le _⟩

end Go.Proofs.Ytmcdfhihfcfbaaa.W
