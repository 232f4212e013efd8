/-
  Writes one behind the other, flushes, and the scheduled crash. No program.
-/
import Derived.Test.YtcleocgaooblfaaReordP
namespace Go.Proofs.Ytcleocgaooblfaa.W
set_option linter.unusedVariables false

def row0 (a : List UInt8) : List (List UInt8) := [a, [], [], [], [], [], [], []]
def aU (keep : List Int) (safe rest : List UInt8) (q : List Pn) (m : Nat) : St := ⟨row0 safe, row0 (safe ++ rest), q, 0, false, m, keep⟩
def aD (keep : List Int) (c : List UInt8) (d : Bool) : St := ⟨row0 c, row0 c, [], 0, d, 0, keep⟩

structure QB (q : List Pn) (lo hi : Nat) : Prop where
  p : ∀ p ∈ q, p.f = 0 ∧ lo ≤ p.at_ ∧ p.at_ + p.s.length ≤ hi
  n : q.length ≤ hi - lo
structure CB (keep : List Int) (safe : List UInt8) (hi : Nat) (c : List UInt8) : Prop where
  lo : safe.length ≤ c.length
  hi : c.length ≤ hi
  pre : c.take safe.length = safe
  none : keep = [] → c = safe

theorem putL_take (s : List UInt8) (k : Nat) (t : List UInt8) (n : Nat) (h1 : n ≤ k) (h2 : n ≤ s.length) : (putL s k t).take n = s.take n := by
  apply List.ext_getElem
  · rw [List.length_take, List.length_take, putL_len]; omega
  · intro j h3 h4
    rw [List.length_take] at h3
    rw [List.getElem_take, List.getElem_take]
    have hj : j < s.length := by omega
    have : ¬ (k ≤ j ∧ j < k + t.length) := by omega
    simp only [putL, List.getElem_map, List.getElem_range]
    rw [if_neg this, List.getD_eq_getElem?_getD, List.getElem?_eq_getElem hj]; rfl

theorem stays_cb (keep : List Int) (safe : List UInt8) (hi : Nat) : ∀ (q : List Pn) (ks : List Int) (c : List UInt8), (∀ p ∈ q, p.f = 0 ∧ safe.length ≤ p.at_ ∧ p.at_ + p.s.length ≤ hi) → safe.length ≤ c.length → c.length ≤ hi → c.take safe.length = safe →
    ∃ c', stays (row0 c) q ks = row0 c' ∧ safe.length ≤ c'.length ∧ c'.length ≤ hi ∧ c'.take safe.length = safe
  | [], ks, c, _, h1, h2, h3 => ⟨c, by cases ks <;> rfl, h1, h2, h3⟩
  | p :: q, [], c, _, h1, h2, h3 => ⟨c, rfl, h1, h2, h3⟩
  | p :: q, k :: ks, c, hq, h1, h2, h3 => by
    obtain ⟨hf, hlo, hhi⟩ := hq p (by simp)
    have key : ∀ t : List UInt8, t.length ≤ p.s.length → ∃ c', stays ((row0 c).set p.f (putL ((row0 c).getD p.f []) p.at_ t)) q ks = row0 c' ∧ safe.length ≤ c'.length ∧ c'.length ≤ hi ∧ c'.take safe.length = safe := by
      intro t ht
      rw [hf]
      refine stays_cb keep safe hi q ks (putL c p.at_ t) (fun p hp => hq p (by simp [hp])) ?_ ?_ ?_
      · rw [putL_len]; omega
      · rw [putL_len]; omega
      · rw [putL_take _ _ _ _ hlo h1]; exact h3
    rw [stays]
    split
    · exact key _ (Nat.le_refl _)
    · split
      · exact key _ (by rw [List.length_take]; omega)
      · exact stays_cb keep safe hi q ks c (fun p hp => hq p (by simp [hp])) h1 h2 h3

theorem arms_crash (keep : List Int) (safe : List UInt8) (F : List (List UInt8)) (q : List Pn) (hi : Nat) (hq : ∀ p ∈ q, p.f = 0 ∧ safe.length ≤ p.at_ ∧ p.at_ + p.s.length ≤ hi) (h : safe.length ≤ hi) :
    ∃ c, CB keep safe hi c ∧ crashS ⟨row0 safe, F, q, 0, false, 0, keep⟩ keep = aD keep c true := by
  obtain ⟨c, h1, h2, h3, h4⟩ := stays_cb keep safe hi q keep safe hq (Nat.le_refl _) h (List.take_of_length_le (Nat.le_refl _))
  refine ⟨c, ⟨h2, h3, h4, fun hk => ?_⟩, ?_⟩
  · subst hk
    have : stays (row0 safe) q [] = row0 safe := by cases q <;> rfl
    rw [this] at h1
    injection h1 with h1 _
    exact h1.symm
  · show (⟨stays (row0 safe) q keep, stays (row0 safe) q keep, [], 0, true, 0, keep⟩ : St) = _
    rw [h1]; rfl

theorem arms_new (n : Int) (keep : List Int) (h : 0 ≤ n) : armS newS n keep = aU keep [] [] [] n.toNat := by
  unfold armS newS aU
  have : max n 0 = n := by omega
  rw [this]; rfl

theorem pieces_qb (k : Nat) (s : List UInt8) : QB (pieces 0 k s) k (k + s.length) :=
  ⟨fun p hp => pieces_mem 0 _ _ _ p hp, by have := pieces_len 0 s.length k s; unfold pieces; omega⟩

theorem QB.append {q r : List Pn} {lo mid hi : Nat} (h : QB q lo mid) (g : QB r mid hi) (h1 : lo ≤ mid) (h2 : mid ≤ hi) : QB (q ++ r) lo hi := by
  refine ⟨fun p hp => ?_, ?_⟩
  · rcases List.mem_append.1 hp with hp | hp
    · have := h.p p hp; exact ⟨this.1, this.2.1, by omega⟩
    · have := g.p p hp; exact ⟨this.1, by omega, this.2.2⟩
  · rw [List.length_append]; have := h.n; have := g.n; omega

/-- the write itself, whatever is scheduled -/
theorem arms_wr (keep : List Int) (safe rest l : List UInt8) (q : List Pn) (m : Nat) (hq : QB q safe.length (safe.length + rest.length)) (hl : safe.length + rest.length + l.length ≤ 16777216) :
    writeE (aU keep safe rest q m) 0 ((safe.length + rest.length : Nat) : Int) l = 0 ∧ ∃ q', QB q' safe.length (safe.length + (rest ++ l).length) ∧ writeS (aU keep safe rest q m) 0 ((safe.length + rest.length : Nat) : Int) l = aU keep safe (rest ++ l) q' m := by
  have hm : mayS (aU keep safe rest q m) 0 = 0 := rfl
  have e : writeE (aU keep safe rest q m) 0 ((safe.length + rest.length : Nat) : Int) l = 0 := by
    unfold writeE
    rw [hm, if_neg (by decide), if_neg (by omega), if_neg (by omega)]
  refine ⟨e, ?_⟩
  unfold writeS
  by_cases hs : l = []
  · subst hs
    rw [if_neg (fun h => h.2 rfl)]
    exact ⟨q, by simpa using hq, by simp [aU]⟩
  · rw [if_pos ⟨e, hs⟩]
    refine ⟨q ++ pieces 0 (safe.length + rest.length) l, ?_, ?_⟩
    · have := hq.append (pieces_qb (safe.length + rest.length) l) (by omega) (by omega)
      rw [List.length_append]; rwa [← Nat.add_assoc]
    · show addS _ 0 (safe.length + rest.length) l = _
      have hp : putL (safe ++ rest) (safe.length + rest.length) l = safe ++ (rest ++ l) := by
        rw [putL_gap _ _ _ (by simp), List.length_append, Nat.sub_self]; simp
      unfold addS aU
      show (⟨row0 safe, (row0 (safe ++ rest)).set 0 (putL ((row0 (safe ++ rest)).getD 0 []) _ l), _, 0, false, m, keep⟩ : St) = _
      have : (row0 (safe ++ rest)).getD 0 [] = safe ++ rest := rfl
      rw [this, hp]; rfl

theorem arms_write (keep : List Int) (safe rest l : List UInt8) (q : List Pn) (m : Nat) (hm : 1 ≤ m) (hq : QB q safe.length (safe.length + rest.length)) (hl : safe.length + rest.length + l.length ≤ 16777216) :
    WriteE (aU keep safe rest q (m + 1)) 0 ((safe.length + rest.length : Nat) : Int) l = 0 ∧ ∃ q', QB q' safe.length (safe.length + (rest ++ l).length) ∧ WriteS (aU keep safe rest q (m + 1)) 0 ((safe.length + rest.length : Nat) : Int) l = aU keep safe (rest ++ l) q' m := by
  have h1 : endsB (aU keep safe rest q (m + 1)) = false := by simp [endsB, aU]; omega
  have h2 : endsS (aU keep safe rest q (m + 1)) = aU keep safe rest q m := by simp [endsS, aU]
  unfold WriteE WriteS
  rw [h1, h2]
  exact arms_wr keep safe rest l q m hq hl

theorem arms_writeC (keep : List Int) (safe rest l : List UInt8) (q : List Pn) (hq : QB q safe.length (safe.length + rest.length)) (hl : safe.length + rest.length + l.length ≤ 16777216) :
    WriteE (aU keep safe rest q 1) 0 ((safe.length + rest.length : Nat) : Int) l = 10 ∧ ∃ c, CB keep safe (safe.length + (rest ++ l).length) c ∧ WriteS (aU keep safe rest q 1) 0 ((safe.length + rest.length : Nat) : Int) l = aD keep c true := by
  have h1 : endsB (aU keep safe rest q 1) = true := rfl
  have h2 : endsS (aU keep safe rest q 1) = aU keep safe rest q 0 := rfl
  obtain ⟨_, q', hq', hw⟩ := arms_wr keep safe rest l q 0 hq hl
  unfold WriteE WriteS
  rw [h1, h2, if_pos rfl, if_pos rfl, hw]
  refine ⟨rfl, ?_⟩
  exact arms_crash keep safe _ q' _ hq'.p (by omega)

theorem filter_qb {q : List Pn} {lo hi : Nat} (h : QB q lo hi) : q.filter (fun p => !decide (p.f = 0)) = [] := by
  rw [List.filter_eq_nil_iff]
  intro p hp
  simp [(h.p p hp).1]

theorem arms_flush (keep : List Int) (safe rest : List UInt8) (q : List Pn) (m : Nat) (hm : 1 ≤ m) (hq : QB q safe.length (safe.length + rest.length)) :
    FlushE (aU keep safe rest q (m + 1)) 0 = 0 ∧ FlushS (aU keep safe rest q (m + 1)) 0 = aU keep (safe ++ rest) [] [] m := by
  have h1 : endsB (aU keep safe rest q (m + 1)) = false := by simp [endsB, aU]; omega
  have h2 : endsS (aU keep safe rest q (m + 1)) = aU keep safe rest q m := by simp [endsS, aU]
  have h3 : headS (aU keep safe rest q (m + 1)) = aU keep safe rest q m := by unfold headS; rw [h1, h2]; rfl
  unfold FlushE FlushS
  rw [h3]
  refine ⟨rfl, ?_⟩
  show settleS _ 0 ((row0 (safe ++ rest)).getD 0 []) = _
  have : (row0 (safe ++ rest)).getD 0 [] = safe ++ rest := rfl
  rw [this]
  unfold settleS aU
  simp only [filter_qb hq, List.append_nil]
  rfl

theorem arms_flushC (keep : List Int) (safe rest : List UInt8) (q : List Pn) (hq : QB q safe.length (safe.length + rest.length)) :
    FlushE (aU keep safe rest q 1) 0 = 10 ∧ ∃ c, CB keep safe (safe.length + rest.length) c ∧ FlushS (aU keep safe rest q 1) 0 = aD keep c true := by
  have h1 : endsB (aU keep safe rest q 1) = true := rfl
  obtain ⟨c, hc, he⟩ := arms_crash keep safe (row0 (safe ++ rest)) q (safe.length + rest.length) hq.p (by omega)
  have h3 : headS (aU keep safe rest q 1) = aD keep c true := by unfold headS; rw [h1, if_pos rfl]; exact he
  unfold FlushE FlushS
  rw [h3]
  exact ⟨rfl, c, hc, rfl⟩

end Go.Proofs.Ytcleocgaooblfaa.W
