/-
  The calls of Go's library that Parse makes, at the strings that it gives them.
-/
import Derived.Test.YtlohhlbbkliehaaGreatDoorIdx2
import Derived.Shelf.Strings.SplitCore
import Derived.Lib.SplitLaws
import Derived.Lib.IndexBytes
namespace Go.Proofs.YtlohhlbbkliehaaGreatDoor.W
open Go.RowKit
set_option linter.unusedVariables false

def dec10 : List UInt8 := [48, 49, 50, 51, 52, 53, 54, 55, 56, 57]

theorem info86 : (Tryz.prog.info? (Tryz.lays160_ren.t 116)).map (fun i => (i.zero, i.size)) = some (some (.agg (Array.replicate 256 (.bool false))), 256) := by kernel_rfl
theorem trim_any (s c : ByteArray) (w : World) (hs : s.size ≤ 1000000) (hc : c.size ≤ 1000) (ha : c.data.toList.all (fun b => decide (b.toNat < 128)) = true) :
    Calls Tryz.prog 28 #[.string s, .string c] w fun e w' => e = .returned (.string ⟨(Lib.trimS s.data.toList c.data.toList).toArray⟩) ∧ Below w.heap.size w w' :=
  Any.strings_Trim_laid Tryz.lays160 info86 s c w (by omega) (by omega) (ascii_of_all ha)
theorem trimB_any (s : ByteArray) (w : World) (hs : s.size ≤ 1000000) :
    Calls Tryz.prog 28 #[.string s, .string ⟨#[32, 9]⟩] w fun e w' => e = .returned (.string ⟨(Lib.trimS s.data.toList blanks).toArray⟩) ∧ Below w.heap.size w w' :=
  trim_any s ⟨#[32, 9]⟩ w hs (by decide) (by decide)
theorem trimD_any (s : ByteArray) (w : World) (hs : s.size ≤ 1000000) :
    Calls Tryz.prog 28 #[.string s, .string ⟨#[48, 49, 50, 51, 52, 53, 54, 55, 56, 57]⟩] w fun e w' => e = .returned (.string ⟨(Lib.trimS s.data.toList dec10).toArray⟩) ∧ Below w.heap.size w w' :=
  trim_any s ⟨#[48, 49, 50, 51, 52, 53, 54, 55, 56, 57]⟩ w hs (by decide) (by decide)

theorem zero86 : ∀ w, (zeroValue 86).run Tryz.prog w = .ok (.agg (Array.replicate 256 (.bool false))) w := (zero_of_info (P := Tryz.prog) (t := 86) info86).1
theorem idx_any (s : ByteArray) (w : World) (hs : s.size ≤ 1000000) :
    Calls Tryz.prog 29 #[.string s, .string ⟨#[32, 9]⟩] w fun e w' => e = .returned (.int .i64 (Lib.indexAny s.data.toList blanks)) ∧ Below w.heap.size w w' := by
  by_cases h : s.size ≤ 8
  · exact indexAny_short s w h
  · refine (Tryz.strings_IndexAny_long zero86 s ⟨#[32, 9]⟩ w (by decide) (by omega) (by omega) (by decide) (ascii_of_all (by decide))).mono fun e w' ⟨h1, h2⟩ => ⟨h1, ?_⟩
    subst h2
    exact ((Below.refl _ _).alloc (Nat.le_refl _) _).alloc (by simp) _

/-- a string cut at its commas -/
def consH (b : UInt8) : List (List UInt8) → List (List UInt8)
  | [] => [[b]]
  | p :: ps => (b :: p) :: ps
def splitC : List UInt8 → List (List UInt8)
  | [] => [[]]
  | b :: l => if b = 44 then [] :: splitC l else consH b (splitC l)
theorem splitC_ne : ∀ l, splitC l ≠ []
  | [] => by simp [splitC]
  | b :: l => by
    unfold splitC
    split
    · simp
    · cases splitC l <;> simp [consH]
theorem splitC_is : ∀ s : List UInt8, Lib.splitK [44] 0 (Lib.count s [44]) s = splitC s
  | [] => by rw [Lib.count_one]; rfl
  | b :: l => by
    have ih := splitC_is l
    by_cases h : b = 44
    · subst h
      have hix : Lib.index (44 :: l) [44] = 0 := by rw [Lib.index]; simp [List.isPrefixOf]
      rw [Lib.count_cons_eq, Nat.add_comm, Lib.splitK, hix]
      simp only [splitC, if_pos]
      rw [if_neg (by decide)]
      simp only [Int.toNat_zero, Nat.zero_add, Nat.add_zero, List.take_zero]
      rw [← ih]
      rfl
    · have hc := Lib.count_cons_ne b 44 l h
      rw [hc]
      have hp : ([44] : List UInt8).isPrefixOf (b :: l) = false := by simp [List.isPrefixOf, Ne.symm h]
      have hix : Lib.index (b :: l) [44] = if Lib.index l [44] == -1 then -1 else Lib.index l [44] + 1 := by rw [Lib.index, hp]; simp
      simp only [splitC, if_neg h]
      generalize Lib.count l [44] = k at ih ⊢
      have hge := Lib.index_ge l [44]
      cases k with
      | zero => rw [Lib.splitK] at ih ⊢; rw [← ih]; rfl
      | succ k =>
        rw [Lib.splitK] at ih ⊢
        rw [hix]
        by_cases hm : (Lib.index l [44] == -1) = true
        · rw [if_pos hm] at ih ⊢
          rw [if_pos (by decide), ← ih]; rfl
        · rw [if_neg hm] at ih ⊢
          have hm' : Lib.index l [44] ≠ -1 := fun e => hm (beq_iff_eq.2 e)
          rw [if_neg (by rw [beq_iff_eq]; omega), ← ih]
          have e : (Lib.index l [44] + 1).toNat = (Lib.index l [44]).toNat + 1 := by omega
          rw [e]
          simp only [consH, Nat.add_zero, List.take_succ_cons, List.length_cons, List.length_nil]
          rw [show (Lib.index l [44]).toNat + 1 + (0 + 1) = ((Lib.index l [44]).toNat + (0 + 1)) + 1 by omega, List.drop_succ_cons]
theorem splitC_len (l : List UInt8) : (splitC l).length ≤ l.length + 1 := by
  induction l with
  | nil => simp [splitC]
  | cons b l ih =>
    unfold splitC
    split
    · simp; omega
    · cases hs : splitC l with
      | nil => simp [consH]
      | cons p ps => rw [hs] at ih; simp [consH] at ih ⊢; omega
theorem splitC_sub (l : List UInt8) : ∀ p ∈ splitC l, p.length ≤ l.length := by
  induction l with
  | nil => intro p hp; simp [splitC] at hp; subst hp; simp
  | cons b l ih =>
    intro p hp
    unfold splitC at hp
    split at hp
    · rcases List.mem_cons.1 hp with rfl | hp
      · simp
      · have := ih p hp; simp; omega
    · cases hs : splitC l with
      | nil => rw [hs] at hp; simp [consH] at hp; subst hp; simp
      | cons q qs =>
        rw [hs] at hp
        simp only [consH] at hp
        rcases List.mem_cons.1 hp with rfl | hp
        · have := ih q (by rw [hs]; exact List.mem_cons_self); simp; omega
        · have := ih p (by rw [hs]; exact List.mem_cons_of_mem _ hp); simp; omega

theorem infoStr9s : (Tryz.prog.info? (Tryz.lays221_ren.t 9)).map (fun i => (i.zero, i.size, i.bytes)) = some (some (.string ByteArray.empty), 1, 16) := by kernel_rfl
theorem count_call (s : ByteArray) (w : World) : Calls Tryz.prog 86 #[.string s, .string ⟨#[44]⟩] w fun e w' => e = .returned (.int .i64 (Lib.countB s ⟨#[44]⟩ : Nat)) ∧ w' = w :=
  (Tryz.strings_Count_one s 44 w).mono fun e w' ⟨he, hw⟩ => ⟨by
    rw [he]
    show _ = Ending.returned (Value.int .i64 ((Lib.count s.data.toList [44] : Nat) : Int))
    rw [Lib.count_one]; rfl, hw⟩
theorem index_call (s : ByteArray) (w : World) : Calls Tryz.prog 87 #[.string s, .string ⟨#[44]⟩] w fun e w' => e = .returned (.int .i64 (Lib.indexB s ⟨#[44]⟩)) ∧ w' = w :=
  (Tryz.strings_Index_one s 44 w).mono fun e w' ⟨he, hw⟩ => ⟨by
    rw [he]
    show _ = Ending.returned (Value.int .i64 (Lib.index s.data.toList [44]))
    rw [Lib.index_one], hw⟩

def pieceV (l : List UInt8) : List Value := (splitC l).map fun p => .string ⟨p.toArray⟩
theorem pieces_eq (s : ByteArray) : (Lib.splitB ⟨#[44]⟩ 0 (Lib.countB s ⟨#[44]⟩) s).map Value.string = pieceV s.data.toList := by
  have h := Lib.splitB_data ⟨#[44]⟩ 0 (Lib.countB s ⟨#[44]⟩) s
  have h2 : (Lib.splitB ⟨#[44]⟩ 0 (Lib.countB s ⟨#[44]⟩) s).map (·.data.toList) = splitC s.data.toList := by rw [h]; exact splitC_is s.data.toList
  unfold pieceV
  rw [← h2, List.map_map]
  rfl

set_option maxHeartbeats 1000000 in
set_option maxRecDepth 100000 in
theorem split_any (s : ByteArray) (w : World) (hs : s.size ≤ 1000000) :
    Calls Tryz.prog 32 #[.string s, .string ⟨#[44]⟩] w fun e w' => e = .returned (.slice (some ⟨w.heap.size, 0, none⟩) (splitC s.data.toList).length (splitC s.data.toList).length) ∧ w' = w.alloc (.cells (pieceV s.data.toList).toArray 9) := by
  have hle := Lib.countB_le ⟨#[44]⟩ (by decide) s.size s (Nat.le_refl _)
  have hlen := Lib.splitB_all ⟨#[44]⟩ (by decide) 0 _ s rfl
  have c := Any.strings_genSplit_core Tryz.lays221 infoStr9s s ⟨#[44]⟩ 0 (-1) (Lib.countB s ⟨#[44]⟩ + 1) w (by omega) (by decide) (Nat.zero_le _) (fun x c _ => index_call x _) (count_call s w) (by decide) (by decide) (by rw [if_pos (by decide)]; omega)
  rw [Nat.add_sub_cancel, hlen] at c
  have e2 : Lib.cellsOf (Lib.splitB ⟨#[44]⟩ 0 (Lib.countB s ⟨#[44]⟩) s) (Lib.countB s ⟨#[44]⟩ + 1) = (pieceV s.data.toList).toArray := by rw [← hlen, Lib.cellsOf_full, pieces_eq]
  rw [e2] at c
  have e3 : Lib.countB s ⟨#[44]⟩ + 1 = (splitC s.data.toList).length := by
    rw [← hlen]
    have := congrArg List.length (pieces_eq s)
    simpa [pieceV] using this
  rw [e3] at c
  have HC := Hd.mk c
  clear c e2 e3 hlen hle
  go_enter Tryz.func32, Tryz.ntmps32
  go_wp2_with fail
  refine HC.out.mono ?_
  rintro e w1 ⟨rfl, hw⟩
  subst hw
  go_wp2
  go_ret
  exact ⟨rfl, rfl⟩

/-- a string of at least one digit and at most so many -/
def digB (l : List UInt8) (most : Nat) : Bool := decide (l ≠ []) && (decide (l.length ≤ most) && l.all fun b => decide (48 ≤ b.toNat ∧ b.toNat ≤ 57))
theorem dropW_nil (p : UInt8 → Bool) : ∀ l : List UInt8, l.dropWhile p = [] ↔ l.all p = true
  | [] => by simp
  | b :: l => by
    by_cases h : p b = true
    · rw [List.dropWhile_cons_of_pos h, dropW_nil p l]; simp [h]
    · rw [List.dropWhile_cons_of_neg h]; simp [h]
theorem dropW_head (p : UInt8 → Bool) : ∀ (l : List UInt8) (x : UInt8) (xs : List UInt8), l.dropWhile p = x :: xs → p x = false
  | [], x, xs, h => by simp at h
  | b :: l, x, xs, h => by
    by_cases hb : p b = true
    · rw [List.dropWhile_cons_of_pos hb] at h; exact dropW_head p l x xs h
    · rw [List.dropWhile_cons_of_neg hb] at h
      injection h with h1 _
      subst h1; simpa using hb
theorem trimS_nil (l cs : List UInt8) : Lib.trimS l cs = [] ↔ l.all (cs.contains ·) = true := by
  unfold Lib.trimS Lib.trimLeftS Lib.trimRightS
  rw [dropW_nil]
  constructor
  · intro h
    have h2 : (l.reverse.dropWhile (cs.contains ·)) = [] := by
      cases hd : l.reverse.dropWhile (cs.contains ·) with
      | nil => rfl
      | cons x xs =>
        exfalso
        rw [hd, List.all_reverse] at h
        have hx : cs.contains x = true := by simp only [List.all_cons, Bool.and_eq_true] at h; exact h.1
        have := dropW_head (cs.contains ·) _ x xs hd
        rw [hx] at this; cases this
    have := (dropW_nil _ _).1 h2
    rwa [List.all_reverse] at this
  · intro h
    have : l.reverse.dropWhile (cs.contains ·) = [] := (dropW_nil _ _).2 (by rw [List.all_reverse]; exact h)
    rw [this]; rfl
theorem dec10_has : ∀ b : UInt8, dec10.contains b = decide (48 ≤ b.toNat ∧ b.toNat ≤ 57) := by
  intro b
  have key : ∀ n : Nat, n < 256 → dec10.contains (UInt8.ofNat n) = decide (48 ≤ n ∧ n ≤ 57) := by decide +kernel
  have := key b.toNat b.toNat_lt
  rwa [UInt8.ofNat_toNat] at this
theorem trimD_nil (l : List UInt8) : Lib.trimS l dec10 = [] ↔ l.all (fun b => decide (48 ≤ b.toNat ∧ b.toNat ≤ 57)) = true := by
  rw [trimS_nil]
  have : (fun b => dec10.contains b) = fun b : UInt8 => decide (48 ≤ b.toNat ∧ b.toNat ≤ 57) := funext dec10_has
  rw [this]

set_option maxHeartbeats 1000000 in
set_option maxRecDepth 100000 in
theorem digits_any (s : ByteArray) (k : Nat) (w : World) (hs : s.size ≤ 1000000) (hk : k ≤ 100) :
    Calls Tryz.prog 65 #[.string s, .int .i64 (k : Int)] w fun e w' => e = .returned (.bool (digB s.data.toList k)) ∧ Below w.heap.size w w' := by
  by_cases h0 : s = ⟨#[]⟩
  · subst h0
    go_enter Tryz.func65, Tryz.ntmps65
    go_wp2
    go_ret
    exact ⟨rfl, Below.refl _ _⟩
  · have hne : s.data.toList ≠ [] := fun e => h0 (by rw [← Lib.mk_data s, e])
    have b0 : (s.toList == (⟨#[]⟩ : ByteArray).toList) = false := by rw [str_beq]; exact decide_eq_false h0
    have be : s.toList.isEmpty = false := by
      rw [Lib.toList_data]
      cases h : s.data.toList with
      | nil => exact absurd h hne
      | cons _ _ => rfl
    by_cases h1 : s.size ≤ k
    · have b1 : (decide ((s.size : Int) ≤ (k : Int))) = true := by simp; omega
      have HT := Hd.mk (fun w => trimD_any s w hs)
      have hb : digB s.data.toList k = (⟨(Lib.trimS s.data.toList dec10).toArray⟩ : ByteArray).toList.isEmpty := by
        rw [Lib.toList_data]
        have e1 : digB s.data.toList k = s.data.toList.all (fun b => decide (48 ≤ b.toNat ∧ b.toNat ≤ 57)) := by
          unfold digB
          rw [decide_eq_true hne, decide_eq_true (by show s.size ≤ k; exact h1)]; simp
        rw [e1, Bool.eq_iff_iff, ← trimD_nil, List.isEmpty_iff]
      rw [hb]
      obtain ⟨t, ht⟩ : ∃ x : ByteArray, (⟨(Lib.trimS s.data.toList dec10).toArray⟩ : ByteArray) = x := ⟨_, rfl⟩
      rw [ht] at HT ⊢
      clear hb ht hne h0
      go_enter Tryz.func65, Tryz.ntmps65
      go_wp2_with fail
      refine (HT.out _).mono ?_
      rintro e w1 ⟨rfl, k1⟩
      go_wp2
      go_ret
      exact ⟨rfl, k1⟩
    · have b1 : (decide ((s.size : Int) ≤ (k : Int))) = false := by simp; omega
      have hb : digB s.data.toList k = false := by
        unfold digB
        rw [decide_eq_false (p := s.data.toList.length ≤ k) (by show ¬ s.size ≤ k; exact h1)]; simp
      rw [hb]
      go_enter Tryz.func65, Tryz.ntmps65
      go_wp2
      go_ret
      exact ⟨rfl, Below.refl _ _⟩

/-- the number of a row of digits -/
def numL (l : List UInt8) : Nat := l.foldl (fun n b => n * 10 + (b.toNat - 48)) 0
theorem decFrom_is : ∀ (l : List UInt8) (acc : Nat), l.all (fun b => decide (48 ≤ b.toNat ∧ b.toNat ≤ 57)) = true → Lib.decFrom acc l = some (l.foldl (fun n b => n * 10 + (b.toNat - 48)) acc)
  | [], _, _ => rfl
  | b :: l, acc, h => by
    simp only [List.all_cons, Bool.and_eq_true, decide_eq_true_eq] at h
    rw [Lib.decFrom, Lib.digitVal, if_pos h.1]
    exact decFrom_is l _ h.2
theorem digB_parts {l : List UInt8} {k : Nat} (h : digB l k = true) : l ≠ [] ∧ l.length ≤ k ∧ l.all (fun b => decide (48 ≤ b.toNat ∧ b.toNat ≤ 57)) = true := by
  unfold digB at h
  simp only [Bool.and_eq_true] at h
  exact ⟨of_decide_eq_true h.1, of_decide_eq_true h.2.1, h.2.2⟩
theorem decNat_is {l : List UInt8} {k : Nat} (h : digB l k = true) : Lib.decNat l = some (numL l) := by
  obtain ⟨h1, _, h3⟩ := digB_parts h
  unfold Lib.decNat
  rw [if_neg (by simpa using h1)]
  exact decFrom_is l 0 h3
theorem atoi_minus {l : List UInt8} {k : Nat} (h : digB l k = true) : Lib.atoi (45 :: l) = some (-(numL l : Int)) := by
  unfold Lib.atoi
  dsimp only
  rw [if_pos (by decide), decNat_is h]; rfl
theorem atoi_plain {l : List UInt8} {k : Nat} (h : digB l k = true) : Lib.atoi l = some (numL l : Int) := by
  have hd := decNat_is h
  obtain ⟨h1, _, h3⟩ := digB_parts h
  cases l with
  | nil => exact absurd rfl h1
  | cons b l =>
    simp only [List.all_cons, Bool.and_eq_true, decide_eq_true_eq] at h3
    have n1 : (b == 45) = false := by rw [beq_eq_false_iff_ne]; intro e; subst e; exact absurd h3.1.1 (by decide)
    have n2 : (b == 43) = false := by rw [beq_eq_false_iff_ne]; intro e; subst e; exact absurd h3.1.1 (by decide)
    unfold Lib.atoi
    dsimp only
    rw [n1, n2, hd]; rfl
theorem numL_lt (l : List UInt8) (acc : Nat) (h : l.all (fun b => decide (48 ≤ b.toNat ∧ b.toNat ≤ 57)) = true) : l.foldl (fun n b => n * 10 + (b.toNat - 48)) acc < (acc + 1) * 10 ^ l.length := by
  induction l generalizing acc with
  | nil => simp
  | cons b l ih =>
    simp only [List.all_cons, Bool.and_eq_true, decide_eq_true_eq] at h
    have := ih (acc * 10 + (b.toNat - 48)) h.2
    rw [List.foldl_cons, List.length_cons, Nat.pow_succ]
    have h2 : (acc * 10 + (b.toNat - 48) + 1) * 10 ^ l.length ≤ ((acc + 1) * 10) * 10 ^ l.length := Nat.mul_le_mul_right _ (by omega)
    have h3 : (acc + 1) * 10 * 10 ^ l.length = (acc + 1) * (10 ^ l.length * 10) := by rw [Nat.mul_assoc, Nat.mul_comm 10]
    omega
theorem numL_bound {l : List UInt8} {k : Nat} (h : digB l k = true) (hk : k ≤ 10) : (numL l : Int) < 10000000000 := by
  obtain ⟨_, h2, h3⟩ := digB_parts h
  have := numL_lt l 0 h3
  have h4 : 10 ^ l.length ≤ 10 ^ 10 := Nat.pow_le_pow_right (by decide) (by omega)
  unfold numL
  have h5 : (0 + 1) * 10 ^ l.length = 10 ^ l.length := by omega
  have h6 : (10 : Nat) ^ 10 = 10000000000 := by decide
  omega

theorem atoi_call (s : ByteArray) (n : Int) (hl : s.size ≤ 18) (h : Lib.atoi s.data.toList = some n) (w : World) : Calls Tryz.prog 67 #[.string s] w fun e w' => e = .returned (.tuple #[.int .i64 n, .nilIface]) ∧ Below w.heap.size w w' := by
  refine (Tryz.strconv_Atoi s n hl h w).mono ?_
  rintro e w' ⟨rfl, t, rfl⟩
  exact ⟨rfl, Lib.bytesWorld_below w _ t⟩

end Go.Proofs.YtlohhlbbkliehaaGreatDoor.W
