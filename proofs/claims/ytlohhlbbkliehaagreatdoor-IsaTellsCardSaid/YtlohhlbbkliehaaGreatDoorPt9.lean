/-
  Plain law: what Text writes Parse reads.
-/
import Derived.Test.YtlohhlbbkliehaaGreatDoorPl9
namespace Go.Proofs.YtlohhlbbkliehaaGreatDoor.W
open Go.RowKit
set_option linter.unusedVariables false

theorem dec_dig : ∀ (u : Nat), ∀ x ∈ Lib.decDigits u, 48 ≤ x.toNat ∧ x.toNat ≤ 57
  | u, x, hx => by
    rw [Lib.decDigits] at hx
    split at hx
    · rename_i h
      simp at hx; subst hx
      simp; omega
    · rename_i h
      rcases List.mem_append.1 hx with hx | hx
      · exact dec_dig (u / 10) x hx
      · simp at hx; subst hx
        simp; omega
termination_by u => u
decreasing_by omega
theorem dec_num : ∀ (u : Nat), numL (Lib.decDigits u) = u
  | u => by
    rw [Lib.decDigits]
    split
    · rename_i h
      unfold numL
      simp
      omega
    · rename_i h
      have ih := dec_num (u / 10)
      unfold numL at ih ⊢
      rw [List.foldl_append, ih]
      simp
      omega
termination_by u => u
decreasing_by omega
theorem nD_le {u k : Nat} (hk : 1 ≤ k) (h : u < 10 ^ k) : Lib.nDigits u ≤ k := by
  induction k generalizing u with
  | zero => omega
  | succ k ih =>
    by_cases h1 : u < 10
    · rw [Lib.nDigits_small h1]; omega
    · rw [Lib.nDigits_big h1]
      have h2 : u / 10 < 10 ^ k := by rw [Nat.pow_succ] at h; omega
      rcases k with _ | k
      · simp at h2; omega
      · have := ih (by omega) h2; omega
theorem dec_digB {u k : Nat} (hk : 1 ≤ k) (h : u < 10 ^ k) : digB (Lib.decDigits u) k = true := by
  have hl := Lib.decDigits_length u
  have h1 := Lib.nDigits_pos u
  have h2 := nD_le hk h
  unfold digB
  simp only [Bool.and_eq_true, decide_eq_true_eq, List.all_eq_true]
  refine ⟨fun e => ?_, by omega, fun x hx => dec_dig u x hx⟩
  rw [e] at hl; simp at hl; omega
theorem dec_head {u : Nat} {c : UInt8} (hc : c.toNat < 48 ∨ 57 < c.toNat) : headB (Lib.decDigits u) c = false := by
  unfold headB
  rw [decide_eq_false]
  intro h
  have := dec_dig u c (List.mem_of_mem_head? h)
  omega
theorem imm_itoa {n : Int} (h1 : -10000000000 < n) (h2 : n < 10000000000) : immL (Lib.itoa n) = some n := by
  unfold immL Lib.itoa
  by_cases h : n < 0
  · rw [if_pos h]
    rw [show headB (45 :: Lib.decDigits n.natAbs) 45 = true from by unfold headB; simp, if_pos rfl]
    rw [List.tail_cons, dec_digB (by decide) (by show n.natAbs < 10 ^ 10; omega), if_pos rfl, dec_num]
    congr 1; omega
  · rw [if_neg h, dec_head (by decide), if_neg (by decide), dec_digB (by decide) (by show n.toNat < 10 ^ 10; omega), if_pos rfl, dec_num]
    congr 1; omega
theorem reg_itoa {n : Int} (h1 : 0 ≤ n) (h2 : n ≤ 15) : regL (114 :: Lib.itoa n) = some n := by
  obtain ⟨u, rfl⟩ := Int.eq_ofNat_of_zero_le h1
  have hi : Lib.itoa (u : Int) = Lib.decDigits u := by unfold Lib.itoa; rw [if_neg (by omega), Int.toNat_natCast]
  unfold regL
  rw [hi, List.tail_cons, dec_digB (by decide) (by show u < 10 ^ 2; omega), dec_num]
  rw [show headB (114 :: Lib.decDigits u) 114 = true from by unfold headB; simp]
  have h3 : (decide ((Lib.decDigits u).length = 2) && headB (Lib.decDigits u) 48) = false := by
    by_cases hu : u < 10
    · rw [Lib.decDigits_one hu]; simp
    · rw [Lib.decDigits_two hu (by omega)]
      have : u / 10 = 1 := by omega
      rw [this]
      unfold headB
      simp
  rw [h3]
  rfl
theorem opL_opT {ch : UInt8} {n : Int} (h1 : -10000000000 < n) (h2 : n < 10000000000) (h : ch ≠ 73 → 0 ≤ n ∧ n ≤ 15) : opL (opT ch n) ch = some n := by
  unfold opL opT
  by_cases hc : ch = 73
  · rw [if_pos hc, if_pos hc]; exact imm_itoa h1 h2
  · rw [if_neg hc, if_neg hc]; exact reg_itoa (h hc).1 (h hc).2

/-- a byte of an operand -/
def opC (x : UInt8) : Prop := bk x = false ∧ x ≠ 44 ∧ Lib.isSp x = false
theorem opC_all : ∀ x : UInt8, (48 ≤ x.toNat ∧ x.toNat ≤ 57) ∨ x = 45 ∨ x = 114 → opC x := by
  have key : ∀ n : Fin 256, ((48 ≤ n.val ∧ n.val ≤ 57) ∨ n.val = 45 ∨ n.val = 114) → bk (UInt8.ofNat n.val) = false ∧ UInt8.ofNat n.val ≠ 44 ∧ Lib.isSp (UInt8.ofNat n.val) = false := by decide +kernel
  intro x hx
  have := key ⟨x.toNat, x.toNat_lt⟩ (by
    rcases hx with h | rfl | rfl
    · exact .inl h
    · exact .inr (.inl rfl)
    · exact .inr (.inr rfl))
  simpa [opC] using this
theorem itoa_chars (n : Int) : ∀ x ∈ Lib.itoa n, opC x := by
  unfold Lib.itoa
  split
  · intro x hx
    rcases List.mem_cons.1 hx with rfl | hx
    · exact opC_all _ (.inr (.inl rfl))
    · exact opC_all _ (.inl (dec_dig _ x hx))
  · intro x hx
    exact opC_all _ (.inl (dec_dig _ x hx))
theorem opT_chars (ch : UInt8) (n : Int) : ∀ x ∈ opT ch n, opC x := by
  unfold opT
  split
  · exact itoa_chars n
  · intro x hx
    rcases List.mem_cons.1 hx with rfl | hx
    · exact opC_all _ (.inr (.inr rfl))
    · exact itoa_chars n x hx
theorem dec_ne (u : Nat) : Lib.decDigits u ≠ [] := fun e => by
  have := Lib.decDigits_length u
  have h1 := Lib.nDigits_pos u
  rw [e] at this; simp at this; omega
theorem opT_ne (ch : UInt8) (n : Int) : opT ch n ≠ [] := by
  unfold opT Lib.itoa
  split
  · split
    · simp
    · exact dec_ne _
  · simp

theorem splitC_word {x : List UInt8} (h : ∀ y ∈ x, y ≠ 44) : splitC x = [x] := by
  induction x with
  | nil => rfl
  | cons c x ih => rw [splitC_cons, if_neg (h c (by simp)), ih (fun y hy => h y (by simp [hy]))]; rfl
theorem splitC_word2 {x : List UInt8} (h : ∀ y ∈ x, y ≠ 44) (Y : List UInt8) : splitC (x ++ 44 :: Y) = x :: splitC Y := by
  induction x with
  | nil => rw [List.nil_append, splitC_cons, if_pos rfl]
  | cons c x ih => rw [List.cons_append, splitC_cons, if_neg (h c (by simp)), ih (fun y hy => h y (by simp [hy]))]; rfl
theorem T_word {x : List UInt8} (h : ∀ y ∈ x, opC y) : T x = x := T_core (fun y hy => (h y (List.mem_of_mem_head? hy)).1) (fun y hy => (h y (List.mem_of_getLast? hy)).1)
theorem join_pieces : ∀ (r : List (List UInt8)) (x : List UInt8), (∀ y ∈ x :: r, ∀ z ∈ y, opC z) → (splitC (x ++ Lib.joinTail [44, 32] r)).map T = x :: r
  | [], x, h => by
    have hx := h x (by simp)
    rw [show Lib.joinTail [44, 32] [] = [] from rfl, List.append_nil, splitC_word (fun y hy => (hx y hy).2.1)]
    rw [List.map_cons, List.map_nil, T_word hx]
  | y :: r, x, h => by
    have hx := h x (by simp)
    have ih := join_pieces r y (fun z hz => h z (by simp only [List.mem_cons] at hz ⊢; exact .inr hz))
    have e : Lib.joinTail [44, 32] (y :: r) = 44 :: ([32] ++ (y ++ Lib.joinTail [44, 32] r)) := by
      unfold Lib.joinTail; simp
    rw [e, splitC_word2 (fun y hy => (hx y hy).2.1), List.map_cons, T_word hx, splitC_front (by intro z hz; simp at hz; subst hz; decide), ih]
theorem join_last : ∀ (r : List (List UInt8)) (x : List UInt8), (∀ y ∈ x :: r, y ≠ [] ∧ ∀ z ∈ y, opC z) → ∃ z, (x ++ Lib.joinTail [44, 32] r).getLast? = some z ∧ opC z
  | [], x, h => by
    obtain ⟨h1, h2⟩ := h x (by simp)
    rw [show Lib.joinTail [44, 32] [] = [] from rfl, List.append_nil]
    refine ⟨x.getLast h1, List.getLast?_eq_some_getLast h1, h2 _ (List.getLast_mem h1)⟩
  | y :: r, x, h => by
    obtain ⟨z, hz, hc⟩ := join_last r y (fun z hz => h z (by simp only [List.mem_cons] at hz ⊢; exact .inr hz))
    have e : Lib.joinTail [44, 32] (y :: r) = [44, 32] ++ (y ++ Lib.joinTail [44, 32] r) := by
      unfold Lib.joinTail; simp
    refine ⟨z, ?_, hc⟩
    rw [e, ← List.append_assoc, List.getLast?_append, hz]
    rfl
theorem shapes : ((List.range 31).all fun n => decide (opersL n = [] ∨ opersL n = [65, 73] ∨ opersL n = [65, 66] ∨ opersL n = [65, 66, 67] ∨ opersL n = [65, 66, 73] ∨ opersL n = [73] ∨ opersL n = [65])) = true := by decide +kernel
theorem names_ok : ((List.range 31).all fun n => (decide (n = 0) || (decide (findL (nameL n) = (n : Int)) && (decide (nameL n ≠ []) && ((nameL n).all fun x => decide (bk x = false) && decide (Lib.isSp x = false)))))) = true := by decide +kernel
theorem okF_zero {n : Nat} {ch : UInt8} {x : Int} (h : okF n ch x = true) (hu : usedI n ch < 0) : x = 0 := by
  unfold okF at h
  simp only [Bool.and_eq_true, Bool.or_eq_true, decide_eq_true_eq] at h
  rcases h.1 with h | h
  · omega
  · exact h
theorem trimSp_id {l : List UInt8} (h1 : ∀ x, l.head? = some x → Lib.isSp x = false) (h2 : ∀ x, l.getLast? = some x → Lib.isSp x = false) : Lib.trimSpace l = l := by
  unfold Lib.trimSpace
  rw [dropW_id h1, dropW_id (fun x hx => h2 x (by rw [List.head?_reverse] at hx; exact hx)), List.reverse_reverse]

theorem name_parts {n : Nat} (h0 : n ≠ 0) (h : n < 31) : findL (nameL n) = (n : Int) ∧ nameL n ≠ [] ∧ (∀ x ∈ nameL n, bk x = false ∧ Lib.isSp x = false) := by
  have := List.all_eq_true.1 names_ok n (List.mem_range.2 h)
  simp only [Bool.or_eq_true, Bool.and_eq_true, decide_eq_true_eq, List.all_eq_true] at this
  rcases this with h1 | ⟨h1, h2, h3⟩
  · exact absurd h1 h0
  · exact ⟨h1, h2, h3⟩
/-- a name and operands, written and trimmed -/
theorem text_ops {n : Nat} (h0 : n ≠ 0) (h : n < 31) (x : List UInt8) (r : List (List UInt8)) (hx : ∀ y ∈ x :: r, y ≠ [] ∧ ∀ z ∈ y, opC z) :
    parseL (Lib.trimSpace (nameL n ++ [32] ++ Lib.join (x :: r) [44, 32])) = parseP (nameL n) (x :: r) ∧ Lib.trimSpace (nameL n ++ [32] ++ Lib.join (x :: r) [44, 32]) ≠ [] := by
  obtain ⟨h1, h2, h3⟩ := name_parts h0 h
  rw [Lib.join_cons]
  obtain ⟨z, hz, hc⟩ := join_last r x hx
  have e : Lib.trimSpace (nameL n ++ [32] ++ (x ++ Lib.joinTail [44, 32] r)) = nameL n ++ [32] ++ (x ++ Lib.joinTail [44, 32] r) := by
    refine trimSp_id (fun y hy => ?_) (fun y hy => ?_)
    · cases hn : nameL n with
      | nil => exact absurd hn h2
      | cons q qs =>
        rw [hn] at hy
        injection hy with hy; subst hy
        exact (h3 q (by rw [hn]; simp)).2
    · rw [List.getLast?_append, hz] at hy
      injection hy with hy; subst hy
      exact hc.2.2
  rw [e]
  refine ⟨?_, fun e => ?_⟩
  · have := parse_parts (pre := []) (nm := nameL n) (rest := [32] ++ (x ++ Lib.joinTail [44, 32] r)) (by simp) (fun y hy => (h3 y hy).1) (fun y hy => by injection hy with hy; subst hy; decide) (fun e => absurd e h2)
    rw [List.nil_append, ← List.append_assoc] at this
    rw [this]
    unfold pcsW
    have hall : ([32] ++ (x ++ Lib.joinTail [44, 32] r)).all bk = false := by
      rw [List.all_eq_false]
      refine ⟨z, ?_, by rw [hc.1]; decide⟩
      exact List.mem_append_right _ (List.mem_of_getLast? hz)
    rw [hall, if_neg (by decide)]
    refine parseP_congr ?_
    rw [splitC_front (by intro z hz; simp at hz; subst hz; decide), join_pieces r x (fun y hy => (hx y hy).2)]
    symm
    have : (x :: r).map T = (x :: r).map id := List.map_congr_left (fun y hy => T_word (hx y hy).2)
    rw [this, List.map_id]
  · simp at e
theorem text_none {n : Nat} (h0 : n ≠ 0) (h : n < 31) : parseL (Lib.trimSpace (nameL n ++ [32] ++ Lib.join [] [44, 32])) = parseP (nameL n) [] ∧ Lib.trimSpace (nameL n ++ [32] ++ Lib.join [] [44, 32]) ≠ [] := by
  have key : ((List.range 31).all fun n => decide (n = 0) || (decide (Lib.trimSpace (nameL n ++ [32] ++ Lib.join [] [44, 32]) = nameL n))) = true := by decide +kernel
  have := List.all_eq_true.1 key n (List.mem_range.2 h)
  simp only [Bool.or_eq_true, decide_eq_true_eq] at this
  rcases this with h1 | h1
  · exact absurd h1 h0
  · obtain ⟨h1', h2, h3⟩ := name_parts h0 h
    rw [h1]
    refine ⟨?_, h2⟩
    have := parse_parts (pre := []) (nm := nameL n) (rest := []) (by simp) (fun y hy => (h3 y hy).1) (by simp) (fun e => rfl)
    rw [List.nil_append, List.append_nil] at this
    exact this

theorem parse_text {op a b c m : Int} (h : rightB op a b c m = true) : parseL (textL op a b c m) = (0, op, ⟨a, b, c, m⟩) ∧ textL op a b c m ≠ [] := by
  have hp := right_parts h
  unfold textL
  rw [if_pos h]
  obtain ⟨n, rfl⟩ : ∃ n : Nat, op = (n : Int) := ⟨op.toNat, by have := hp.op; omega⟩
  have hn0 : n ≠ 0 := by have := hp.op; omega
  have hn : n < 31 := by have := hp.op; omega
  rw [Int.toNat_natCast]
  have h' := h
  unfold rightB at h'
  rw [Int.toNat_natCast] at h'
  simp only [Bool.and_eq_true, decide_eq_true_eq] at h'
  obtain ⟨_, _, ka, kb, kc, km⟩ := h'
  have hs := List.all_eq_true.1 shapes n (List.mem_range.2 hn)
  rw [decide_eq_true_eq] at hs
  obtain ⟨hf, hne, hch⟩ := name_parts hn0 hn
  have oa : opL (opT 65 a) 65 = some a := opL_opT (by have := hp.a; omega) (by have := hp.a; omega) (fun _ => hp.a)
  have ob : opL (opT 66 b) 66 = some b := opL_opT (by have := hp.b; omega) (by have := hp.b; omega) (fun _ => hp.b)
  have oc : opL (opT 67 c) 67 = some c := opL_opT (by have := hp.c; omega) (by have := hp.c; omega) (fun _ => hp.c)
  have om : opL (opT 73 m) 73 = some m := opL_opT (by have := hp.m; omega) (by have := hp.m; omega) (fun h => absurd rfl h)
  have fin : ∀ (xs : List (List UInt8)), xs.length = (opersL n).length → parseO (opersL n) xs ⟨0, 0, 0, 0⟩ = some ⟨a, b, c, m⟩ → parseP (nameL n) xs = (0, (n : Int), ⟨a, b, c, m⟩) := fun xs hl he => by
    unfold parseP
    rw [hf, if_neg (by omega), Int.toNat_natCast, if_neg (by rw [hl]; simp), he]
    show (if rightB (n : Int) a b c m = true then _ else _) = _
    rw [if_pos h]
  have wd : ∀ (ch : UInt8) (x : Int), Lib.trimS (opT ch x) blanks = opT ch x := fun ch x => T_word (opT_chars ch x)
  have good : ∀ (ch : UInt8) (x : Int), opT ch x ≠ [] ∧ ∀ z ∈ opT ch x, opC z := fun ch x => ⟨opT_ne ch x, opT_chars ch x⟩
  rcases hs with hs | hs | hs | hs | hs | hs | hs
  · have za := okF_zero ka (by unfold usedI; rw [hs]; decide)
    have zb := okF_zero kb (by unfold usedI; rw [hs]; decide)
    have zc := okF_zero kc (by unfold usedI; rw [hs]; decide)
    have zm := okF_zero km (by unfold usedI; rw [hs]; decide)
    subst za zb zc zm
    rw [hs, show opsT 0 0 0 0 [] = [] from rfl]
    refine ⟨(text_none hn0 hn).1.trans (fin [] (by rw [hs]; rfl) (by rw [hs]; rfl)), (text_none hn0 hn).2⟩
  · have zb := okF_zero kb (by unfold usedI; rw [hs]; decide)
    have zc := okF_zero kc (by unfold usedI; rw [hs]; decide)
    subst zb zc
    rw [hs, show opsT a 0 0 m [65, 73] = [opT 65 a, opT 73 m] from rfl]
    have ht := text_ops hn0 hn (opT 65 a) [opT 73 m] (by intro y hy; simp only [List.mem_cons, List.not_mem_nil, or_false] at hy; rcases hy with rfl | rfl <;> exact good _ _)
    refine ⟨ht.1.trans (fin _ (by rw [hs]; rfl) ?_), ht.2⟩
    rw [hs]
    simp only [parseO, wd, oa, om]
    rfl
  · have zc := okF_zero kc (by unfold usedI; rw [hs]; decide)
    have zm := okF_zero km (by unfold usedI; rw [hs]; decide)
    subst zc zm
    rw [hs, show opsT a b 0 0 [65, 66] = [opT 65 a, opT 66 b] from rfl]
    have ht := text_ops hn0 hn (opT 65 a) [opT 66 b] (by intro y hy; simp only [List.mem_cons, List.not_mem_nil, or_false] at hy; rcases hy with rfl | rfl <;> exact good _ _)
    refine ⟨ht.1.trans (fin _ (by rw [hs]; rfl) ?_), ht.2⟩
    rw [hs]
    simp only [parseO, wd, oa, ob]
    rfl
  · have zm := okF_zero km (by unfold usedI; rw [hs]; decide)
    subst zm
    rw [hs, show opsT a b c 0 [65, 66, 67] = [opT 65 a, opT 66 b, opT 67 c] from rfl]
    have ht := text_ops hn0 hn (opT 65 a) [opT 66 b, opT 67 c] (by intro y hy; simp only [List.mem_cons, List.not_mem_nil, or_false] at hy; rcases hy with rfl | rfl | rfl <;> exact good _ _)
    refine ⟨ht.1.trans (fin _ (by rw [hs]; rfl) ?_), ht.2⟩
    rw [hs]
    simp only [parseO, wd, oa, ob, oc]
    rfl
  · have zc := okF_zero kc (by unfold usedI; rw [hs]; decide)
    subst zc
    rw [hs, show opsT a b 0 m [65, 66, 73] = [opT 65 a, opT 66 b, opT 73 m] from rfl]
    have ht := text_ops hn0 hn (opT 65 a) [opT 66 b, opT 73 m] (by intro y hy; simp only [List.mem_cons, List.not_mem_nil, or_false] at hy; rcases hy with rfl | rfl | rfl <;> exact good _ _)
    refine ⟨ht.1.trans (fin _ (by rw [hs]; rfl) ?_), ht.2⟩
    rw [hs]
    simp only [parseO, wd, oa, ob, om]
    rfl
  · have za := okF_zero ka (by unfold usedI; rw [hs]; decide)
    have zb := okF_zero kb (by unfold usedI; rw [hs]; decide)
    have zc := okF_zero kc (by unfold usedI; rw [hs]; decide)
    subst za zb zc
    rw [hs, show opsT 0 0 0 m [73] = [opT 73 m] from rfl]
    have ht := text_ops hn0 hn (opT 73 m) [] (by intro y hy; simp only [List.mem_cons, List.not_mem_nil, or_false] at hy; subst hy; exact good _ _)
    refine ⟨ht.1.trans (fin _ (by rw [hs]; rfl) ?_), ht.2⟩
    rw [hs]
    simp only [parseO, wd, om]
    rfl
  · have zb := okF_zero kb (by unfold usedI; rw [hs]; decide)
    have zc := okF_zero kc (by unfold usedI; rw [hs]; decide)
    have zm := okF_zero km (by unfold usedI; rw [hs]; decide)
    subst zb zc zm
    rw [hs, show opsT a 0 0 0 [65] = [opT 65 a] from rfl]
    have ht := text_ops hn0 hn (opT 65 a) [] (by intro y hy; simp only [List.mem_cons, List.not_mem_nil, or_false] at hy; subst hy; exact good _ _)
    refine ⟨ht.1.trans (fin _ (by rw [hs]; rfl) ?_), ht.2⟩
    rw [hs]
    simp only [parseO, wd, oa]
    rfl

end Go.Proofs.YtlohhlbbkliehaaGreatDoor.W
