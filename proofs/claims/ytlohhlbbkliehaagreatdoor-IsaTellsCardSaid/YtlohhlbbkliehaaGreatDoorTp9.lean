/-
  Plain laws: the reference's Parse reads what Parse reads.
-/
import Derived.Test.YtlohhlbbkliehaaGreatDoorPt9
import Derived.Test.YtlohhlbbkliehaaGreatDoorRop9
namespace Go.Proofs.YtlohhlbbkliehaaGreatDoor.W
open Go.RowKit
set_option linter.unusedVariables false

def dgt (c : UInt8) : Bool := decide (48 ≤ c.toNat) && decide (c.toNat ≤ 57)
/-- digits from the head on: their value, how many -/
def numR : List UInt8 → Nat → Nat × Nat
  | [], n => (n, 0)
  | c :: t, n => if dgt c && decide (n < 100000000000) then ((numR t (10 * n + (c.toNat - 48))).1, (numR t (10 * n + (c.toNat - 48))).2 + 1) else (n, 0)
theorem numR_take : ∀ (l : List UInt8) (n : Nat), (numR l n).2 ≤ l.length ∧ (∀ x ∈ l.take (numR l n).2, dgt x = true) ∧ (numR l n).1 = (l.take (numR l n).2).foldl (fun n b => n * 10 + (b.toNat - 48)) n
  | [], n => by simp [numR]
  | c :: t, n => by
    unfold numR
    by_cases h : (dgt c && decide (n < 100000000000)) = true
    · rw [if_pos h]
      obtain ⟨h1, h2, h3⟩ := numR_take t (10 * n + (c.toNat - 48))
      rw [Bool.and_eq_true] at h
      refine ⟨by simp only [List.length_cons]; omega, fun x hx => ?_, ?_⟩
      · rw [List.take_succ_cons] at hx
        rcases List.mem_cons.1 hx with rfl | hx
        · exact h.1
        · exact h2 x hx
      · rw [List.take_succ_cons, List.foldl_cons, h3, Nat.mul_comm 10 n]
    · rw [if_neg h]
      exact ⟨Nat.zero_le _, by simp, by simp⟩
theorem numR_all : ∀ (d t : List UInt8) (n k : Nat), (∀ x ∈ d, dgt x = true) → (∀ x, t.head? = some x → dgt x = false) → n < 10 ^ k → k + d.length ≤ 11 → numR (d ++ t) n = (d.foldl (fun n b => n * 10 + (b.toNat - 48)) n, d.length)
  | [], t, n, k, _, h2, _, _ => by
    cases t with
    | nil => simp [numR]
    | cons c t =>
      have := h2 c rfl
      simp [numR, this]
  | c :: d, t, n, k, h1, h2, h3, h4 => by
    have hc := h1 c (by simp)
    have hn : n < 100000000000 := by
      have h5 : (10 : Nat) ^ k ≤ 10 ^ 10 := Nat.pow_le_pow_right (by decide) (by rw [List.length_cons] at h4; omega)
      omega
    have hd : c.toNat - 48 ≤ 9 := by
      have := hc
      unfold dgt at this
      simp only [Bool.and_eq_true, decide_eq_true_eq] at this
      omega
    have ih := numR_all d t (10 * n + (c.toNat - 48)) (k + 1) (fun x hx => h1 x (by simp [hx])) h2 (by rw [Nat.pow_succ]; omega) (by rw [List.length_cons] at h4; omega)
    rw [List.cons_append, numR, hc, decide_eq_true hn, if_pos (by decide), ih, List.foldl_cons, List.length_cons, Nat.mul_comm 10 n]
/-- an operand of a kind at the head: its number, how many bytes -/
def operR (l : List UInt8) (kind : Nat) : Option (Int × Nat) :=
  if kind = 4 then
    (if headB l 45 then
      (if (numR l.tail 0).2 = 0 ∨ 10 < (numR l.tail 0).2 then none else some (-((numR l.tail 0).1 : Int), (numR l.tail 0).2 + 1))
    else (if (numR l 0).2 = 0 ∨ 10 < (numR l 0).2 then none else some (((numR l 0).1 : Int), (numR l 0).2)))
  else
    (if headB l 114 then
      (if ((numR l.tail 0).2 = 0 ∨ 2 < (numR l.tail 0).2) ∨ ((numR l.tail 0).2 = 2 ∧ headB l.tail 48 = true) then none else some (((numR l.tail 0).1 : Int), (numR l.tail 0).2 + 1))
    else none)
def kindC (k : Nat) : UInt8 := if k = 1 then 65 else if k = 2 then 66 else if k = 3 then 67 else 73
theorem dig_good {x : UInt8} (h : dgt x = true) : opC x := opC_all x (.inl (by unfold dgt at h; simpa using h))
theorem digB_of {l : List UInt8} {k : Nat} (h0 : l ≠ []) (h1 : l.length ≤ k) (h2 : ∀ x ∈ l, dgt x = true) : digB l k = true := by
  unfold digB
  simp only [Bool.and_eq_true, decide_eq_true_eq, List.all_eq_true]
  refine ⟨h0, h1, fun x hx => ?_⟩
  have := h2 x hx
  unfold dgt at this
  simpa using this
theorem headB_cons (c d : UInt8) (l : List UInt8) : headB (c :: l) d = decide (c = d) := by unfold headB; simp
theorem headB_nil (d : UInt8) : headB [] d = false := by unfold headB; simp
theorem headB_take {l : List UInt8} {k : Nat} (h : 0 < k) (d : UInt8) : headB (l.take k) d = headB l d := by
  cases l with
  | nil => simp
  | cons c l => cases k with
    | zero => omega
    | succ k => rw [List.take_succ_cons, headB_cons, headB_cons]
theorem take_ne {l : List UInt8} {k : Nat} (h0 : k ≠ 0) (h : k ≤ l.length) : l.take k ≠ [] := fun e => by
  rcases List.take_eq_nil_iff.1 e with h' | h'
  · exact h0 h'
  · subst h'
    simp at h
    exact h0 h
/-- what the reference reads as an operand is one -/
theorem operR_some {l : List UInt8} {k : Nat} (hk : 1 ≤ k ∧ k ≤ 4) {n : Int} {c : Nat} (h : operR l k = some (n, c)) : opL (l.take c) (kindC k) = some n ∧ c ≤ l.length ∧ c ≠ 0 ∧ ∀ x ∈ l.take c, opC x := by
  unfold operR at h
  by_cases hk4 : k = 4
  · subst hk4
    rw [if_pos rfl] at h
    have hkc : kindC 4 = 73 := by decide
    rw [hkc]
    unfold opL
    rw [if_pos rfl]
    by_cases hm : headB l 45 = true
    · rw [if_pos hm] at h
      obtain ⟨y, t, rfl⟩ : ∃ y t, l = y :: t := by
        cases l with
        | nil => rw [headB_nil] at hm; cases hm
        | cons y t => exact ⟨y, t, rfl⟩
      rw [headB_cons, decide_eq_true_eq] at hm
      subst hm
      rw [List.tail_cons] at h
      obtain ⟨h1, h2, h3⟩ := numR_take t 0
      split at h
      · cases h
      · rename_i hc
        injection h with h; injection h with e1 e2
        subst e1 e2
        have hne := take_ne (l := t) (k := (numR t 0).2) (by omega) h1
        have hdb := digB_of (k := 10) hne (by rw [List.length_take]; omega) h2
        rw [List.take_succ_cons]
        refine ⟨?_, by rw [List.length_cons]; omega, by omega, fun x hx => ?_⟩
        · unfold immL
          rw [headB_cons, decide_eq_true rfl, if_pos rfl, List.tail_cons, hdb, if_pos rfl]
          unfold numL
          rw [← h3]
        · rcases List.mem_cons.1 hx with rfl | hx
          · exact opC_all _ (.inr (.inl rfl))
          · exact dig_good (h2 x hx)
    · rw [if_neg hm] at h
      obtain ⟨h1, h2, h3⟩ := numR_take l 0
      split at h
      · cases h
      · rename_i hc
        injection h with h; injection h with e1 e2
        subst e1 e2
        have hne := take_ne (l := l) (k := (numR l 0).2) (by omega) h1
        have hdb := digB_of (k := 10) hne (by rw [List.length_take]; omega) h2
        refine ⟨?_, h1, by omega, fun x hx => dig_good (h2 x hx)⟩
        unfold immL
        rw [headB_take (by omega), if_neg hm, hdb, if_pos rfl]
        unfold numL
        rw [← h3]
  · rw [if_neg hk4] at h
    have hkc : kindC k ≠ 73 := by
      rcases (by omega : k = 1 ∨ k = 2 ∨ k = 3) with rfl | rfl | rfl <;> decide
    unfold opL
    rw [if_neg hkc]
    by_cases hm : headB l 114 = true
    · rw [if_pos hm] at h
      obtain ⟨y, t, rfl⟩ : ∃ y t, l = y :: t := by
        cases l with
        | nil => rw [headB_nil] at hm; cases hm
        | cons y t => exact ⟨y, t, rfl⟩
      rw [headB_cons, decide_eq_true_eq] at hm
      subst hm
      rw [List.tail_cons] at h
      obtain ⟨h1, h2, h3⟩ := numR_take t 0
      split at h
      · cases h
      · rename_i hc
        injection h with h; injection h with e1 e2
        subst e1 e2
        have hne := take_ne (l := t) (k := (numR t 0).2) (by omega) h1
        have hdb := digB_of (k := 2) hne (by rw [List.length_take]; omega) h2
        rw [List.take_succ_cons]
        refine ⟨?_, by rw [List.length_cons]; omega, by omega, fun x hx => ?_⟩
        · unfold regL
          rw [headB_cons, decide_eq_true rfl, List.tail_cons, hdb, headB_take (by omega)]
          have : (decide ((t.take (numR t 0).2).length = 2) && headB t 48) = false := by
            rw [List.length_take, Nat.min_eq_left h1]
            by_cases h22 : (numR t 0).2 = 2
            · have : headB t 48 = false := by
                cases e : headB t 48 with
                | false => rfl
                | true => exact absurd (.inr ⟨h22, e⟩) hc
              rw [this]; simp
            · rw [decide_eq_false h22]; rfl
          rw [this]
          unfold numL
          rw [← h3]
          rfl
        · rcases List.mem_cons.1 hx with rfl | hx
          · exact opC_all _ (.inr (.inr rfl))
          · exact dig_good (h2 x hx)
    · rw [if_neg hm] at h; cases h
theorem digB_dgt {l : List UInt8} {k : Nat} (h : digB l k = true) : ∀ x ∈ l, dgt x = true := fun x hx => by
  have := List.all_eq_true.1 (digB_parts h).2.2 x hx
  unfold dgt
  simpa using this
/-- and an operand is read by the reference, if no digit stands behind it -/
theorem operR_of {t z : List UInt8} {k : Nat} (hk : 1 ≤ k ∧ k ≤ 4) {n : Int} (h : opL t (kindC k) = some n) (hz : ∀ x, z.head? = some x → dgt x = false) : operR (t ++ z) k = some (n, t.length) := by
  unfold operR
  unfold opL at h
  have num : ∀ {d : List UInt8} {j : Nat}, digB d j = true → j ≤ 10 → numR (d ++ z) 0 = (numL d, d.length) ∧ d.length ≠ 0 ∧ d.length ≤ j := fun {d j} hd hj => by
    obtain ⟨p1, p2, p3⟩ := digB_parts hd
    refine ⟨numR_all d z 0 0 (digB_dgt hd) hz (by decide) (by omega), fun e => p1 (List.eq_nil_of_length_eq_zero e), p2⟩
  by_cases hk4 : k = 4
  · subst hk4
    rw [if_pos rfl]
    have hkc : kindC 4 = 73 := by decide
    rw [hkc, if_pos rfl] at h
    unfold immL at h
    by_cases hm : headB t 45 = true
    · rw [if_pos hm] at h
      split at h
      · rename_i hd
        injection h with h; subst h
        obtain ⟨y, t', rfl⟩ : ∃ y t', t = y :: t' := by
          cases t with
          | nil => rw [headB_nil] at hm; cases hm
          | cons y t => exact ⟨y, t, rfl⟩
        rw [headB_cons] at hm
        obtain ⟨e, h0, hl⟩ := num hd (by decide)
        rw [List.tail_cons] at e h0 hl
        rw [List.cons_append, headB_cons, hm, if_pos rfl, List.tail_cons, e]
        show (if t'.length = 0 ∨ 10 < t'.length then none else some (-((numL t' : Nat) : Int), t'.length + 1)) = _
        rw [if_neg (by omega)]
        rfl
      · cases h
    · rw [if_neg hm] at h
      split at h
      · rename_i hd
        injection h with h; subst h
        obtain ⟨e, h0, hl⟩ := num hd (by decide)
        have hm2 : headB (t ++ z) 45 = false := by
          cases t with
          | nil => simp at h0
          | cons y t => rw [List.cons_append, headB_cons]; rw [headB_cons] at hm; simpa using hm
        rw [hm2, if_neg (by decide), e]
        show (if t.length = 0 ∨ 10 < t.length then none else some (((numL t : Nat) : Int), t.length)) = _
        rw [if_neg (by omega)]
      · cases h
  · rw [if_neg hk4]
    have hkc : kindC k ≠ 73 := by
      rcases (by omega : k = 1 ∨ k = 2 ∨ k = 3) with rfl | rfl | rfl <;> decide
    rw [if_neg hkc] at h
    unfold regL at h
    split at h
    · rename_i hh
      injection h with h; subst h
      simp only [Bool.and_eq_true] at hh
      obtain ⟨hm, hd, hn⟩ := hh
      obtain ⟨y, t', rfl⟩ : ∃ y t', t = y :: t' := by
        cases t with
        | nil => rw [headB_nil] at hm; cases hm
        | cons y t => exact ⟨y, t, rfl⟩
      rw [headB_cons] at hm
      rw [List.tail_cons] at hd hn
      obtain ⟨e, h0, hl⟩ := num hd (by decide)
      have hn2 : ¬ (t'.length = 2 ∧ headB (t' ++ z) 48 = true) := fun ⟨a1, a2⟩ => by
        have : headB t' 48 = true := by
          cases t' with
          | nil => simp at h0
          | cons u t' => rw [List.cons_append, headB_cons] at a2; rw [headB_cons]; exact a2
        rw [this, decide_eq_true a1] at hn
        simp at hn
      rw [List.cons_append, headB_cons, hm, if_pos rfl, List.tail_cons, e]
      show (if (t'.length = 0 ∨ 2 < t'.length) ∨ (t'.length = 2 ∧ headB (t' ++ z) 48 = true) then none else some (((numL t' : Nat) : Int), t'.length + 1)) = _
      rw [if_neg (by rintro ((h | h) | h) <;> first | exact h0 h | exact hn2 h | omega)]
      rfl
    · cases h

/-- the reference's operands, from a byte on that is no blank -/
def refO : List Nat → List UInt8 → Ops4 → Option Ops4
  | [], r, v => if r = [] then some v else none
  | k :: ks, r, v => match operR r k with
    | none => none
    | some (n, c) => if ks = [] then (if (r.drop c).dropWhile bk = [] then some (v.set (kindC k) n) else none)
      else (if headB ((r.drop c).dropWhile bk) 44 then refO ks (((r.drop c).dropWhile bk).tail.dropWhile bk) (v.set (kindC k) n) else none)
theorem splitC_cases (l : List UInt8) : (∃ p, splitC l = [p] ∧ l = p ∧ ∀ x ∈ p, x ≠ 44) ∨ (∃ p r, splitC l = p :: splitC r ∧ l = p ++ 44 :: r ∧ ∀ x ∈ p, x ≠ 44) := by
  induction l with
  | nil => exact .inl ⟨[], rfl, rfl, by simp⟩
  | cons c l ih =>
    by_cases hc : c = 44
    · subst hc
      exact .inr ⟨[], l, by rw [splitC_cons, if_pos rfl], rfl, by simp⟩
    · rcases ih with ⟨p, h1, h2, h3⟩ | ⟨p, r, h1, h2, h3⟩
      · refine .inl ⟨c :: p, by rw [splitC_cons, if_neg hc, h1]; rfl, by rw [h2], fun x hx => ?_⟩
        rcases List.mem_cons.1 hx with rfl | hx
        · exact hc
        · exact h3 x hx
      · refine .inr ⟨c :: p, r, by rw [splitC_cons, if_neg hc, h1]; rfl, by rw [h2]; rfl, fun x hx => ?_⟩
        rcases List.mem_cons.1 hx with rfl | hx
        · exact hc
        · exact h3 x hx
theorem bk_not_dgt : ∀ x : UInt8, bk x = true → dgt x = false := by
  have key : ∀ n : Fin 256, bk (UInt8.ofNat n.val) = true → dgt (UInt8.ofNat n.val) = false := by decide +kernel
  intro x hx
  have := key ⟨x.toNat, x.toNat_lt⟩ (by simpa using hx)
  simpa using this
/-- one operand: of a piece without a comma, and what is empty or begins with one -/
theorem one_oper {k : Nat} (hk : 1 ≤ k ∧ k ≤ 4) (p rest : List UInt8) (hp : ∀ x ∈ p, x ≠ 44) (hr : ∀ x, rest.head? = some x → x = 44) :
    (∀ n, opL (T p) (kindC k) = some n → ∃ c, operR ((p ++ rest).dropWhile bk) k = some (n, c) ∧ (((p ++ rest).dropWhile bk).drop c).dropWhile bk = rest) ∧
    (opL (T p) (kindC k) = none → ∀ n c, operR ((p ++ rest).dropWhile bk) k = some (n, c) → ∃ y ys, (((p ++ rest).dropWhile bk).drop c).dropWhile bk = y :: ys ∧ y ≠ 44) := by
  have hrest : rest.dropWhile bk = rest := dropW_id (fun x hx => by rw [hr x hx]; decide)
  obtain ⟨pre, post, h1, h2, e⟩ := T_split p
  constructor
  · intro n hn
    have hTne : T p ≠ [] := fun e0 => by
      rw [e0] at hn
      have : opL [] (kindC k) = none := by
        rcases (by omega : k = 1 ∨ k = 2 ∨ k = 3 ∨ k = 4) with rfl | rfl | rfl | rfl <;> decide
      rw [this] at hn; cases hn
    have hhead : ∀ x, (T p).head? = some x → bk x = false := fun x hx => dropW_hd _ x (by rw [← T_is]; exact hx)
    have hd : (p ++ rest).dropWhile bk = T p ++ (post ++ rest) := by
      conv => lhs; rw [e]
      rw [List.append_assoc, List.append_assoc, dropW_app h1]
      refine dropW_id (fun x hx => ?_)
      cases hT : T p with
      | nil => exact absurd hT hTne
      | cons y ys => rw [hT] at hx hhead; injection hx with hx; subst hx; exact hhead _ rfl
    have hz : ∀ x, (post ++ rest).head? = some x → dgt x = false := fun x hx => by
      cases post with
      | nil => rw [List.nil_append] at hx; rw [hr x hx]; decide
      | cons y ys => injection hx with hx; subst hx; exact bk_not_dgt _ (h2 _ (by simp))
    refine ⟨(T p).length, by rw [hd]; exact operR_of hk hn hz, ?_⟩
    rw [hd, List.drop_left, dropW_app h2, hrest]
  · intro hn n c hc
    obtain ⟨q, hq⟩ : ∃ q, p.dropWhile bk = q := ⟨_, rfl⟩
    have hTq : T p = T q := by
      have : p = p.takeWhile bk ++ q := by rw [← hq, List.takeWhile_append_dropWhile]
      conv => lhs; rw [this]
      exact T_front (fun x hx => takeW_all _ x hx) q
    have hqp : ∀ x ∈ q, x ≠ 44 := fun x hx => hp x (by rw [← hq] at hx; exact (List.dropWhile_sublist bk).subset hx)
    have hd : (p ++ rest).dropWhile bk = q ++ rest := by
      rw [dropW_two]
      split
      · rename_i h0
        rw [hq] at h0
        rw [hrest, h0]; rfl
      · rw [hq]
    rw [hd] at hc ⊢
    obtain ⟨g1, g2, g3, g4⟩ := operR_some hk hc
    have hcq : c ≤ q.length := by
      rcases Nat.lt_or_ge q.length c with h | h
      · exfalso
        cases rest with
        | nil => rw [List.append_nil] at g2; omega
        | cons y ys =>
          have hy := hr y rfl
          subst hy
          have : (44 : UInt8) ∈ (q ++ 44 :: ys).take c := by
            rw [List.take_append]
            refine List.mem_append_right _ ?_
            obtain ⟨j, hj⟩ : ∃ j, c - q.length = j + 1 := ⟨c - q.length - 1, by omega⟩
            rw [hj, List.take_succ_cons]; simp
          exact (g4 _ this).2.1 rfl
      · exact h
    have htake : (q ++ rest).take c = q.take c := List.take_append_of_le_length hcq
    have hdrop : (q ++ rest).drop c = q.drop c ++ rest := List.drop_append_of_le_length hcq
    rw [htake] at g1 g4
    rw [hdrop]
    cases hb : (q.drop c).dropWhile bk with
    | nil =>
      exfalso
      have hall : ∀ x ∈ q.drop c, bk x = true := by
        have := (dropW_nil bk _).1 hb
        exact List.all_eq_true.1 this
      have : T q = q.take c := by
        conv => lhs; rw [← List.take_append_drop c q]
        rw [T_back hall]
        exact T_word g4
      rw [hTq, this, g1] at hn
      cases hn
    | cons y ys =>
      refine ⟨y, ys ++ rest, by rw [dropW_two, hb, if_neg (by simp)]; rfl, hqp y ?_⟩
      have : y ∈ (q.drop c).dropWhile bk := by rw [hb]; simp
      exact List.mem_of_mem_drop ((List.dropWhile_sublist bk).subset this)
theorem ref_opers : ∀ (ks : List Nat) (R : List UInt8) (v : Ops4), ks ≠ [] → (∀ k ∈ ks, 1 ≤ k ∧ k ≤ 4) →
    refO ks (R.dropWhile bk) v = if (splitC R).length = ks.length then parseO (ks.map kindC) (splitC R) v else none
  | [], _, _, h, _ => absurd rfl h
  | k :: ks, R, v, _, hk => by
    have hk1 := hk k (by simp)
    rcases splitC_cases R with ⟨p, h1, h2, h3⟩ | ⟨p, r, h1, h2, h3⟩
    · have ho := one_oper hk1 p [] h3 (by simp)
      rw [List.append_nil] at ho
      rw [h1, h2, refO]
      cases hn : opL (T p) (kindC k) with
      | some n =>
        obtain ⟨c, e1, e2⟩ := ho.1 n hn
        rw [e1]
        dsimp only
        rw [e2]
        cases ks with
        | nil =>
          rw [if_pos rfl, if_pos rfl, if_pos (show ([p] : List (List UInt8)).length = ([k] : List Nat).length from rfl), List.map_cons, List.map_nil, parseO]
          have hn' : opL (Lib.trimS p blanks) (kindC k) = some n := hn
          rw [hn']
          dsimp only
          rw [parseO]
        | cons k2 ks => rw [if_neg (by simp), headB_nil, if_neg (by decide), if_neg (by simp)]
      | none =>
        have hpn : (if ([p] : List (List UInt8)).length = (k :: ks).length then parseO ((k :: ks).map kindC) [p] v else none) = none := by
          split
          · have hn' : opL (Lib.trimS p blanks) (kindC k) = none := hn
            rw [List.map_cons, parseO, hn']
          · rfl
        rw [hpn]
        cases he : operR (p.dropWhile bk) k with
        | none => rfl
        | some nc =>
          obtain ⟨n, c⟩ := nc
          obtain ⟨y, ys, e1, e2⟩ := ho.2 hn n c he
          dsimp only
          rw [e1]
          cases ks with
          | nil => rw [if_pos rfl, if_neg (by simp)]
          | cons k2 ks => rw [if_neg (by simp), headB_cons, decide_eq_false e2, if_neg (by decide)]
    · have ho := one_oper hk1 p (44 :: r) h3 (fun x hx => by injection hx with hx; exact hx.symm)
      rw [h1, h2, refO]
      have hlen : 0 < (splitC r).length := by
        cases e : splitC r with
        | nil => exact absurd e (splitC_ne r)
        | cons _ _ => simp
      cases hn : opL (T p) (kindC k) with
      | some n =>
        obtain ⟨c, e1, e2⟩ := ho.1 n hn
        rw [e1]
        dsimp only
        rw [e2]
        have hn' : opL (Lib.trimS p blanks) (kindC k) = some n := hn
        cases ks with
        | nil =>
          rw [if_pos rfl, if_neg (by simp)]
          rw [if_neg (by simp only [List.length_cons, List.length_nil]; omega)]
        | cons k2 ks =>
          rw [if_neg (by simp), headB_cons, decide_eq_true rfl, if_pos rfl, List.tail_cons, ref_opers (k2 :: ks) r _ (by simp) (fun j hj => hk j (by simp only [List.mem_cons] at hj ⊢; exact .inr hj))]
          have hpp : parseO ((k :: k2 :: ks).map kindC) (p :: splitC r) v = parseO ((k2 :: ks).map kindC) (splitC r) (v.set (kindC k) n) := by rw [List.map_cons, parseO, hn']
          rw [hpp]
          simp only [List.length_cons, Nat.add_right_cancel_iff]
      | none =>
        have hpn : (if (p :: splitC r).length = (k :: ks).length then parseO ((k :: ks).map kindC) (p :: splitC r) v else none) = none := by
          split
          · have hn' : opL (Lib.trimS p blanks) (kindC k) = none := hn
            rw [List.map_cons, parseO, hn']
          · rfl
        rw [hpn]
        cases he : operR ((p ++ 44 :: r).dropWhile bk) k with
        | none => rfl
        | some nc =>
          obtain ⟨n, c⟩ := nc
          obtain ⟨y, ys, e1, e2⟩ := ho.2 hn n c he
          dsimp only
          rw [e1]
          cases ks with
          | nil => rw [if_pos rfl, if_neg (by simp)]
          | cons k2 ks => rw [if_neg (by simp), headB_cons, decide_eq_false e2, if_neg (by decide)]
/-- the whole line, by the reference's way -/
def parseR (s : List UInt8) : Int × Int × Ops4 :=
  if findL (fstW s) < 0 then parseE
  else match refO ((ropsL (findL (fstW s)).toNat).map Int.toNat) ((rstW s).dropWhile bk) ⟨0, 0, 0, 0⟩ with
    | none => parseE
    | some v => if rightB (findL (fstW s)) v.a v.b v.c v.m then (0, findL (fstW s), v) else (6, 0, ⟨0, 0, 0, 0⟩)
theorem ropsL_kinds : ((List.range 31).all fun n => decide (((ropsL n).map Int.toNat).map kindC = opersL n) && ((ropsL n).all fun k => decide (1 ≤ k.toNat ∧ k.toNat ≤ 4))) = true := by decide +kernel
theorem parseR_is (s : List UInt8) : parseR s = parseL s := by
  rw [parse_line s]
  unfold parseR parseP
  have hr := findL_range (fstW s)
  by_cases hf : findL (fstW s) < 0
  · rw [if_pos hf, if_pos hf]
  · rw [if_neg hf, if_neg hf]
    obtain ⟨n, hn⟩ : ∃ n, (findL (fstW s)).toNat = n := ⟨_, rfl⟩
    have hk := List.all_eq_true.1 ropsL_kinds n (List.mem_range.2 (by omega))
    simp only [Bool.and_eq_true, decide_eq_true_eq, List.all_eq_true] at hk
    rw [hn, ← hk.1]
    obtain ⟨ks, hks⟩ : ∃ ks, (ropsL n).map Int.toNat = ks := ⟨_, rfl⟩
    have hkk : ∀ k ∈ ks, 1 ≤ k ∧ k ≤ 4 := fun k hk' => by
      rw [← hks] at hk'
      obtain ⟨z, hz, rfl⟩ := List.mem_map.1 hk'
      exact hk.2 z hz
    rw [hks, List.length_map]
    have he : refO ks ((rstW s).dropWhile bk) ⟨0, 0, 0, 0⟩ = if (pcsW (rstW s)).length = ks.length then parseO (ks.map kindC) (pcsW (rstW s)) ⟨0, 0, 0, 0⟩ else none := by
      by_cases hall : (rstW s).all bk = true
      · have e0 : (rstW s).dropWhile bk = [] := (dropW_nil bk _).2 hall
        have ep : pcsW (rstW s) = [] := by unfold pcsW; rw [if_pos hall]
        rw [e0, ep]
        cases ks with
        | nil => rw [refO, if_pos rfl, if_pos (show ([] : List (List UInt8)).length = ([] : List Nat).length from rfl), List.map_nil, parseO]
        | cons k ks =>
          rw [refO, if_neg (by simp)]
          have : operR [] k = none := by
            unfold operR
            rw [headB_nil, headB_nil]
            simp [numR]
          rw [this]
      · have ep : pcsW (rstW s) = splitC (rstW s) := by unfold pcsW; rw [if_neg hall]
        rw [ep]
        cases ks with
        | nil =>
          have hlen : (splitC (rstW s)).length ≠ 0 := fun e => splitC_ne _ (List.eq_nil_of_length_eq_zero e)
          rw [refO, if_neg (fun e => hall ((dropW_nil bk _).1 e)), if_neg (by simpa using hlen)]
        | cons k ks => exact ref_opers (k :: ks) (rstW s) _ (by simp) hkk
    rw [he]
    by_cases hl : (pcsW (rstW s)).length = ks.length
    · rw [if_pos hl, if_neg (by simp [hl])]
      cases parseO (ks.map kindC) (pcsW (rstW s)) ⟨0, 0, 0, 0⟩ <;> rfl
    · rw [if_neg hl, if_pos hl]

end Go.Proofs.YtlohhlbbkliehaaGreatDoor.W
