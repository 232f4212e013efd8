/-
  graph.Parts: the finder made (calls and rows in any order). No program.
-/
import Derived.Test.YtmgkoocpnakanaaFfd
import Derived.Test.YtmgkoocpnakanaaEachJ
namespace Go.Proofs.Ytmgkoocpnakanaa.W
open Go.RowKit
set_option linter.unusedVariables false

def aRow (B : Nat) (nl : List (List Int)) (v : Value) : Asr :=
  ⟨fun w f => ∃ vs, (oR B v vs nl).P w f, fun h k hs hf => by obtain ⟨vs, h⟩ := h; exact ⟨vs, (oR B v vs nl).loc h k hs hf⟩⟩
def aFull (B n : Nat) (v : Value) : Asr :=
  ⟨fun w f => ∃ g, v = full g n ∧ (oI B 3 v (cellsF n fun _ => 0)).P w f, fun h k hs hf => by obtain ⟨g, e, h⟩ := h; exact ⟨g, e, (oI B 3 v (cellsF n fun _ => 0)).loc h k hs hf⟩⟩
def aVar (B : Nat) (v : Value) : Asr :=
  ⟨fun w f => ∃ g, v = ptr g ∧ (oC B g 64 (List.replicate 6 (.slice none 0 0))).P w f, fun h k hs hf => by obtain ⟨g, e, h⟩ := h; exact ⟨g, e, (oC B g 64 (List.replicate 6 (.slice none 0 0))).loc h k hs hf⟩⟩
def asrP (B n : Nat) (nl : List (List Int)) (i : Nat) (v : Value) : Asr := if i = 2 then aRow B nl v else if i = 10 then aVar B v else aFull B n v

def inP (i : Nat) : Prop := i = 2 ∨ i = 4 ∨ i = 6 ∨ i = 8 ∨ i = 10

structure PJ (B n : Nat) (nl : List (List Int)) (w0 : World) (done : Nat → Bool) (s : Nat → Value) (w : World) : Prop where
  bel : Below w0.heap.size w0 w
  own : done 11 = false → ∃ o : Nat → Nat, ∀ i, inP i → done i = true → (asrP B n nl i (s i)).P w (fun k => o k = i)
  agg : done 9 = true → s 9 = .agg #[s 2, s 4, s 6, .slice none 0 0, s 8, .slice none 0 0] ∧ done 2 = true ∧ done 4 = true ∧ done 6 = true ∧ done 8 = true
  last : done 11 = true → ∀ i, inP i ∨ i = 9 → done i = true
  fin : done 11 = true → ∃ F gi gl gp vs, s 10 = ptr F ∧ Sep w [oC B F 64 [s 2, full gi n, full gl n, .slice none 0 0, full gp n, .slice none 0 0], oR B (s 2) vs nl, oI B 3 (full gi n) (cellsF n fun _ => 0), oI B 3 (full gl n) (cellsF n fun _ => 0), oI B 3 (full gp n) (cellsF n fun _ => 0)]

section
variable {B n : Nat} {nl : List (List Int)} {w0 w w' : World} {done : Nat → Bool} {s : Nat → Value}

theorem PJ.new (h : PJ B n nl w0 done s w) {i : Nat} (hi : inP i) (hd : done i = false) (k : Below w.heap.size w w') {v : Value} (hA : (asrP B n nl i v).P w' (fun k => w.heap.size ≤ k)) : PJ B n nl w0 (setD done i) (upd s i v) w' := by
  have h11 : done 11 = false := by
    rcases e : done 11 with _ | _
    · rfl
    · rw [h.last e i (.inl hi)] at hd; cases hd
  have hi11 : ¬ (11 = i) := by rcases hi with h | h | h | h | h <;> omega
  have hi9 : ¬ (9 = i) := by rcases hi with h | h | h | h | h <;> omega
  have s11 : setD done i 11 = done 11 := by simp [setD, hi11]
  have s9 : setD done i 9 = done 9 := by simp [setD, hi9]
  refine ⟨h.bel.trans (k.mono h.bel.size), fun _ => ?_, fun h9 => ?_, (fun hc => by rw [s11, h11] at hc; cases hc), (fun hc => by rw [s11, h11] at hc; cases hc)⟩
  · obtain ⟨o, ho⟩ := h.own h11
    refine ⟨fun g => if g < w.heap.size then o g else i, fun j hj hdj => ?_⟩
    by_cases e : j = i
    · subst e
      simp only [upd, if_true]
      exact (asrP B n nl j v).loc hA (Keeps.refl (fun _ => False) w') (fun _ _ _ h => h) (fun g _ hg => by
        show (if g < w.heap.size then o g else j) = j
        rw [if_neg (by omega)])
    · simp only [upd, if_neg e]
      simp only [setD, if_neg e] at hdj
      exact (asrP B n nl j (s j)).loc (ho j hj hdj) (Keeps.of_below (S := fun k => w.heap.size ≤ k) k (fun _ _ h => h)) (fun g hg _ hs => by omega) (fun g hg hf => by
        show (if g < w.heap.size then o g else i) = j
        rw [if_pos hg]; exact hf)
  · rw [s9] at h9
    obtain ⟨e, d2, d4, d6, d8⟩ := h.agg h9
    have hne : ∀ j, done j = true → ¬ j = i := fun j hj e => by subst e; rw [hj] at hd; cases hd
    have hu : ∀ j, done j = true → upd s i v j = s j := fun j hj => by simp [upd, hne j hj]
    have hs : ∀ j, done j = true → setD done i j = true := fun j hj => by simp [setD, hj]
    rw [hu 9 h9, hu 2 d2, hu 4 d4, hu 6 d6, hu 8 d8]
    exact ⟨e, hs _ d2, hs _ d4, hs _ d6, hs _ d8⟩

theorem PJ.build (h : PJ B n nl w0 done s w) (hd : done 9 = false) (h2 : done 2 = true) (h4 : done 4 = true) (h6 : done 6 = true) (h8 : done 8 = true) : PJ B n nl w0 (setD done 9) (upd s 9 (.agg #[s 2, s 4, s 6, .slice none 0 0, s 8, .slice none 0 0])) w := by
  have h11 : done 11 = false := by
    rcases e : done 11 with _ | _
    · rfl
    · rw [h.last e 9 (.inr rfl)] at hd; cases hd
  have hs : ∀ j, done j = true → setD done 9 j = true := fun j hj => by simp [setD, hj]
  refine ⟨h.bel, fun _ => ?_, fun _ => ⟨by simp [upd], hs 2 h2, hs 4 h4, hs 6 h6, hs 8 h8⟩, fun hc => by simp [setD, h11] at hc, fun hc => by simp [setD, h11] at hc⟩
  obtain ⟨o, ho⟩ := h.own h11
  refine ⟨o, fun i hi hdi => ?_⟩
  have e : ¬ i = 9 := by rcases hi with h | h | h | h | h <;> omega
  simp only [upd, if_neg e]
  simp only [setD, if_neg e] at hdi
  exact ho i hi hdi

/-- all but the last store is done -/
theorem PJ.sep (h : PJ B n nl w0 done s w) (hd : done 11 = false) (h9 : done 9 = true) (h10 : done 10 = true) : ∃ F gi gl gp vs, s 10 = ptr F ∧ s 4 = full gi n ∧ s 6 = full gl n ∧ s 8 = full gp n ∧
    Sep w [oC B F 64 (List.replicate 6 (.slice none 0 0)), oR B (s 2) vs nl, oI B 3 (full gi n) (cellsF n fun _ => 0), oI B 3 (full gl n) (cellsF n fun _ => 0), oI B 3 (full gp n) (cellsF n fun _ => 0)] := by
  obtain ⟨_, d2, d4, d6, d8⟩ := h.agg h9
  obtain ⟨o, ho⟩ := h.own hd
  obtain ⟨F, e10, a10⟩ := ho 10 (by simp [inP]) h10
  obtain ⟨vs, a2⟩ := ho 2 (by simp [inP]) d2
  obtain ⟨gi, e4, a4⟩ := ho 4 (by simp [inP]) d4
  obtain ⟨gl, e6, a6⟩ := ho 6 (by simp [inP]) d6
  obtain ⟨gp, e8, a8⟩ := ho 8 (by simp [inP]) d8
  refine ⟨F, gi, gl, gp, vs, e10, e4, e6, e8, ⟨fun g => if o g = 10 then 0 else if o g = 2 then 1 else if o g = 4 then 2 else if o g = 6 then 3 else if o g = 8 then 4 else 5, fun t A ht => ?_⟩⟩
  rw [e4] at a4
  rw [e6] at a6
  rw [e8] at a8
  have key : ∀ {A : Asr} {i t : Nat}, A.P w (fun k => o k = i) → (∀ g, o g = i → (if o g = 10 then 0 else if o g = 2 then 1 else if o g = 4 then 2 else if o g = 6 then 3 else if o g = 8 then 4 else 5) = t) → A.P w (fun k => (if o k = 10 then 0 else if o k = 2 then 1 else if o k = 4 then 2 else if o k = 6 then 3 else if o k = 8 then 4 else 5) = t) := fun {A i t} h he =>
    A.loc h (Keeps.refl (fun _ => False) w) (fun _ _ _ h => h) (fun g _ hg => he g hg)
  rcases t with _ | _ | _ | _ | _ | t
  · cases ht; exact key a10 (fun g hg => by rw [hg]; rfl)
  · cases ht; exact key a2 (fun g hg => by rw [hg]; rfl)
  · cases ht; exact key a4 (fun g hg => by rw [hg]; rfl)
  · cases ht; exact key a6 (fun g hg => by rw [hg]; rfl)
  · cases ht; exact key a8 (fun g hg => by rw [hg]; rfl)
  · simp at ht

theorem PJ.store (h : PJ B n nl w0 done s w) (hd : done 11 = false) (h9 : done 9 = true) (h10 : done 10 = true) {F gi gl gp : Nat} {vs : List Value} {v : Value}
    (e10 : s 10 = ptr F) (hb : Below w0.heap.size w0 w') (hs : Sep w' [oC B F 64 [s 2, full gi n, full gl n, .slice none 0 0, full gp n, .slice none 0 0], oR B (s 2) vs nl, oI B 3 (full gi n) (cellsF n fun _ => 0), oI B 3 (full gl n) (cellsF n fun _ => 0), oI B 3 (full gp n) (cellsF n fun _ => 0)]) :
    PJ B n nl w0 (setD done 11) (upd s 11 v) w' := by
  obtain ⟨ha, d2, d4, d6, d8⟩ := h.agg h9
  have hs' : ∀ j, done j = true → setD done 11 j = true := fun j hj => by simp [setD, hj]
  refine ⟨hb, fun hc => by simp [setD] at hc, fun _ => ⟨by simpa [upd] using ha, hs' 2 d2, hs' 4 d4, hs' 6 d6, hs' 8 d8⟩, fun _ i hi => ?_, fun _ => ⟨F, gi, gl, gp, vs, by simpa [upd] using e10, by simpa [upd] using hs⟩⟩
  rcases hi with (h | h | h | h | h) | h <;> subst h <;> apply hs' <;> assumption
end

end Go.Proofs.Ytmgkoocpnakanaa.W
