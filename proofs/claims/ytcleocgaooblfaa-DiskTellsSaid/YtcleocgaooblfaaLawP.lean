/-
  The disk's operations on a disk of which two files are in use. No program.
-/
import Derived.Test.YtcleocgaooblfaaWriteW
namespace Go.Proofs.Ytcleocgaooblfaa.W
set_option linter.unusedVariables false

def row8 (a b : List UInt8) : List (List UInt8) := [[], [], [], a, b, [], [], []]
def tS (la lb fa fb : List UInt8) (q : List Pn) (down : Bool) : St := ⟨row8 la lb, row8 fa fb, q, 0, down, 0, []⟩

theorem putL_zero (t : List UInt8) : putL [] 0 t = t := by
  apply List.ext_getElem
  · rw [putL_len]; simp
  · intro j h1 h2
    have : j < t.length := h2
    simp [putL, this]

theorem pieces_mem (f : Nat) : ∀ (n k : Nat) (s : List UInt8), ∀ p ∈ piecesF f n k s, p.f = f ∧ k ≤ p.at_ ∧ p.at_ + p.s.length ≤ k + s.length
  | 0, _, _, p, h => by simp [piecesF] at h
  | n + 1, k, s, p, h => by
    rw [piecesF] at h
    split at h
    · simp at h
    · rename_i hne
      have h0 : 0 < s.length := List.length_pos_iff.2 hne
      rcases List.mem_cons.1 h with rfl | h
      · refine ⟨rfl, Nat.le_refl _, ?_⟩
        simp only [List.length_take]; omega
      · have := pieces_mem f n _ _ p h
        rw [List.length_drop] at this
        exact ⟨this.1, by omega, by omega⟩

theorem pieces_nil (f k : Nat) : pieces f k [] = [] := rfl
theorem pieces_ne (f k : Nat) {s : List UInt8} (h : s ≠ []) : pieces f k s ≠ [] := by
  unfold pieces
  have h0 : 0 < s.length := List.length_pos_iff.2 h
  obtain ⟨n, hn⟩ : ∃ n, s.length = n + 1 := ⟨s.length - 1, by omega⟩
  rw [hn, piecesF, if_neg h]
  simp

/-- the disk is up, and no crash is scheduled -/
structure Calm (σ : St) : Prop where
  d : σ.down = false
  a : σ.armed = 0

theorem Calm.ends {σ : St} (h : Calm σ) : endsB σ = false ∧ endsS σ = σ := by
  refine ⟨by simp [endsB, h.a], by simp [endsS, h.a]⟩
theorem Calm.head {σ : St} (h : Calm σ) : headS σ = σ := by
  unfold headS; rw [h.ends.1, h.ends.2]; rfl
theorem Calm.Write {σ : St} (h : Calm σ) (f k : Int) (s : List UInt8) : WriteE σ f k s = writeE σ f k s ∧ WriteS σ f k s = writeS σ f k s := by
  unfold WriteE WriteS; rw [h.ends.1, h.ends.2]; exact ⟨rfl, rfl⟩
theorem Calm.may {σ : St} (h : Calm σ) {f : Int} (hf : 0 ≤ f ∧ f < 8) : mayS σ f = 0 := by
  unfold mayS isF; rw [h.d]; simp [hf]
theorem Calm.writeE {σ : St} (h : Calm σ) {f k : Int} {s : List UInt8} (hf : 0 ≤ f ∧ f < 8) (hk : 0 ≤ k) (hs : k + (s.length : Int) ≤ 16777216) : writeE σ f k s = 0 := by
  unfold W.writeE
  rw [h.may hf, if_neg (by decide), if_neg (by omega), if_neg (by omega)]
theorem Calm.add {σ : St} (h : Calm σ) {f k : Nat} {s : List UInt8} (hf : f < 8) (hs : k + s.length ≤ 16777216) (he : s = [] → putL (σ.files.getD f []) k [] = σ.files.getD f []) (hl : σ.files.length = 8) :
    WriteE σ f k s = 0 ∧ WriteS σ f k s = addS σ f k s := by
  have e := h.writeE (f := (f : Int)) (k := (k : Int)) (s := s) (by omega) (by omega) (by omega)
  rw [(h.Write _ _ _).1, (h.Write _ _ _).2]
  refine ⟨e, ?_⟩
  unfold writeS
  by_cases hs : s = []
  · rw [if_neg (fun h => h.2 hs)]
    subst hs
    unfold addS
    rw [he rfl, pieces_nil, List.append_nil]
    have : σ.files.set f (σ.files.getD f []) = σ.files := by
      rw [List.getD_eq_getElem?_getD, List.getElem?_eq_getElem (by omega)]
      simp
    rw [this]
  · rw [if_pos ⟨e, hs⟩]; rfl
theorem Calm.Flush {σ : St} (h : Calm σ) {f : Nat} (hf : f < 8) (hl : σ.lost = 0) : FlushE σ f = 0 ∧ FlushS σ f = settleS σ f (σ.files.getD f []) := by
  unfold FlushE FlushS flushE flushS
  rw [h.head, h.may (by omega), hl]
  exact ⟨rfl, rfl⟩

theorem calm_tS (la lb fa fb : List UInt8) (q : List Pn) : Calm (tS la lb fa fb q false) := ⟨rfl, rfl⟩

theorem fit_tS (la lb fa fb : List UInt8) (q : List Pn) (d : Bool) (hq : q.length ≤ 100000000) : Fit (tS la lb fa fb q d) := ⟨Nat.zero_le _, Nat.zero_le _, Nat.zero_le _, Nat.le_trans hq (by decide)⟩

theorem newS_tS : newS = tS [] [] [] [] [] false := rfl

theorem turn_w1 (a : List UInt8) (h : a.length ≤ 50000) : WriteE (tS [] [] [] [] [] false) 3 0 a = 0 ∧ WriteS (tS [] [] [] [] [] false) 3 0 a = tS [] [] a [] (pieces 3 0 a) false := by
  have := (calm_tS [] [] [] [] []).add (f := 3) (k := 0) (s := a) (by decide) (by omega) (fun _ => rfl) rfl
  refine ⟨this.1, this.2.trans ?_⟩
  simp [addS, tS, row8, putL_zero]
theorem filter_pieces (f k : Nat) (s : List UInt8) : (pieces f k s).filter (fun p => !decide (p.f = f)) = [] := by
  rw [List.filter_eq_nil_iff]
  intro p hp
  simp [(pieces_mem f _ _ _ p hp).1]
theorem turn_f1 (a : List UInt8) : FlushE (tS [] [] a [] (pieces 3 0 a) false) 3 = 0 ∧ FlushS (tS [] [] a [] (pieces 3 0 a) false) 3 = tS a [] a [] [] false := by
  have := (calm_tS [] [] a [] (pieces 3 0 a)).Flush (f := 3) (by decide) rfl
  refine ⟨this.1, this.2.trans ?_⟩
  simp only [settleS, tS, row8, filter_pieces]
  rfl
theorem turn_w2 (a b : List UInt8) (h : b.length ≤ 50000) : WriteE (tS a [] a [] [] false) 4 0 b = 0 ∧ WriteS (tS a [] a [] [] false) 4 0 b = tS a [] a b (pieces 4 0 b) false := by
  have := (calm_tS a [] a [] []).add (f := 4) (k := 0) (s := b) (by decide) (by omega) (fun _ => rfl) rfl
  refine ⟨this.1, this.2.trans ?_⟩
  simp [addS, tS, row8, putL_zero]
theorem turn_f2 (a b : List UInt8) : FlushE (tS a [] a b (pieces 4 0 b) false) 4 = 0 ∧ FlushS (tS a [] a b (pieces 4 0 b) false) 4 = tS a b a b [] false := by
  have := (calm_tS a [] a b (pieces 4 0 b)).Flush (f := 4) (by decide) rfl
  refine ⟨this.1, this.2.trans ?_⟩
  simp only [settleS, tS, row8, filter_pieces]
  rfl
theorem turn_ok (a b fa fb : List UInt8) : TurnE (tS a b fa fb [] false) 3 4 = 0 ∧ TurnS (tS a b fa fb [] false) 3 4 = tS b [] b [] [] false := by
  unfold TurnE TurnS turnS
  rw [(calm_tS a b fa fb []).head]
  exact ⟨rfl, rfl⟩
theorem turn_no (a b : List UInt8) (h : b ≠ []) : TurnE (tS a [] a b (pieces 4 0 b) false) 3 4 = 11 ∧ TurnS (tS a [] a b (pieces 4 0 b) false) 3 4 = tS a [] a b (pieces 4 0 b) false := by
  have e : turnE (tS a [] a b (pieces 4 0 b) false) 3 4 = 11 := by
    have hm : may2 (tS a [] a b (pieces 4 0 b) false) 3 4 = 0 := rfl
    unfold turnE
    rw [hm, if_neg (by decide), if_neg (by decide), if_pos]
    rw [List.any_eq_true]
    rcases hp : pieces 4 0 b with _ | ⟨p, l⟩
    · exact absurd hp (pieces_ne 4 0 h)
    · refine ⟨p, by simp [tS], ?_⟩
      have := (pieces_mem 4 _ _ _ p (show p ∈ pieces 4 0 b by rw [hp]; simp)).1
      simp [this]
  unfold TurnE TurnS turnS
  rw [(calm_tS a [] a b (pieces 4 0 b)).head, e]
  exact ⟨rfl, rfl⟩

theorem getD_set_ne {α : Type} (l : List α) (i j : Nat) (x d : α) (h : i ≠ j) : (l.set i x).getD j d = l.getD j d := by
  simp [List.getD_eq_getElem?_getD, List.getElem?_set_ne h]
theorem getD_set_eq {α : Type} (l : List α) (i : Nat) (x d : α) (h : i < l.length) : (l.set i x).getD i d = x := by
  simp [List.getD_eq_getElem?_getD, h]

theorem stays_other (f : Nat) : ∀ (q : List Pn) (ks : List Int) (ls : List (List UInt8)), (∀ p ∈ q, p.f ≠ f) → (stays ls q ks).getD f [] = ls.getD f []
  | [], ks, ls, _ => by cases ks <;> rfl
  | p :: q, [], ls, _ => rfl
  | p :: q, k :: ks, ls, h => by
    rw [stays, stays_other f q ks _ (fun p hp => h p (by simp [hp]))]
    have hp := h p (by simp)
    split
    · exact getD_set_ne _ _ _ _ _ hp
    · split
      · exact getD_set_ne _ _ _ _ _ hp
      · rfl
theorem stays_bound (f n : Nat) : ∀ (q : List Pn) (ks : List Int) (ls : List (List UInt8)), (∀ p ∈ q, p.f = f → p.at_ + p.s.length ≤ n) → (ls.getD f []).length ≤ n → ((stays ls q ks).getD f []).length ≤ n
  | [], ks, ls, _, hl => by cases ks <;> exact hl
  | p :: q, [], ls, _, hl => hl
  | p :: q, k :: ks, ls, h, hl => by
    rw [stays]
    apply stays_bound f n q ks _ (fun p hp => h p (by simp [hp]))
    have hp := h p (by simp)
    have key : ∀ t : List UInt8, t.length ≤ p.s.length → ((ls.set p.f (putL (ls.getD p.f []) p.at_ t)).getD f []).length ≤ n := by
      intro t ht
      by_cases hf : p.f = f
      · have := hp hf
        subst hf
        by_cases hlt : p.f < ls.length
        · rw [getD_set_eq _ _ _ _ hlt, putL_len]; omega
        · rw [List.set_eq_of_length_le (by omega)]; exact hl
      · rw [getD_set_ne _ _ _ _ _ hf]; exact hl
    split
    · exact key _ (Nat.le_refl _)
    · split
      · exact key _ (by rw [List.length_take]; omega)
      · exact hl
theorem stays_len : ∀ (q : List Pn) (ks : List Int) (ls : List (List UInt8)), (stays ls q ks).length = ls.length
  | [], ks, ls => by cases ks <;> rfl
  | p :: q, [], ls => rfl
  | p :: q, k :: ks, ls => by
    rw [stays, stays_len q ks]
    split
    · simp
    · split <;> simp

theorem list8 {α : Type} (l : List α) (d : α) (h : l.length = 8) : l = [l.getD 0 d, l.getD 1 d, l.getD 2 d, l.getD 3 d, l.getD 4 d, l.getD 5 d, l.getD 6 d, l.getD 7 d] := by
  match l, h with
  | [a, b, c, e, f, g, i, j], _ => rfl

theorem turn_crash (a b fa fb : List UInt8) (ks : List Int) : startS (crashS (tS a b fa fb [] false) ks) = tS a b a b [] false := by
  cases ks <;> rfl
theorem turn_crash2 (a b : List UInt8) (ks : List Int) : ∃ c, c.length ≤ b.length ∧ crashS (tS a [] a b (pieces 4 0 b) false) ks = tS a c a c [] true := by
  have h4 : ∀ p ∈ pieces 4 0 b, p.f = 4 := fun p hp => (pieces_mem 4 _ _ _ p hp).1
  obtain ⟨L, hL⟩ : ∃ L, stays (row8 a []) (pieces 4 0 b) ks = L := ⟨_, rfl⟩
  have ho : ∀ f, f ≠ 4 → L.getD f [] = (row8 a []).getD f [] := fun f hf => by
    rw [← hL]; exact stays_other f _ _ _ (fun p hp => by rw [h4 p hp]; exact fun e => hf e.symm)
  have hb : (L.getD 4 []).length ≤ b.length := by
    rw [← hL]
    exact stays_bound 4 b.length _ _ _ (fun p hp _ => by have := (pieces_mem 4 _ _ _ p hp).2.2; omega) (by simp [row8])
  have hlen : L.length = 8 := by rw [← hL, stays_len]; rfl
  refine ⟨L.getD 4 [], hb, ?_⟩
  have e : L = row8 a (L.getD 4 []) := by
    have h8 := list8 L [] hlen
    rw [ho 0 (by decide), ho 1 (by decide), ho 2 (by decide), ho 3 (by decide), ho 5 (by decide), ho 6 (by decide), ho 7 (by decide)] at h8
    exact h8
  have : crashS (tS a [] a b (pieces 4 0 b) false) ks = ⟨stays (row8 a []) (pieces 4 0 b) ks, stays (row8 a []) (pieces 4 0 b) ks, [], 0, true, 0, []⟩ := rfl
  rw [this, hL]
  rw [show tS a (L.getD 4 []) a (L.getD 4 []) [] true = ⟨row8 a (L.getD 4 []), row8 a (L.getD 4 []), [], 0, true, 0, []⟩ from rfl, ← e]

theorem turn_read (la lb fa fb : List UInt8) (q : List Pn) : readL (tS la lb fa fb q false) 3 = fa ∧ mayS (tS la lb fa fb q false) 3 = 0 ∧ sizeS (tS la lb fa fb q false) 4 = fb.length := ⟨rfl, rfl, rfl⟩

end Go.Proofs.Ytcleocgaooblfaa.W
