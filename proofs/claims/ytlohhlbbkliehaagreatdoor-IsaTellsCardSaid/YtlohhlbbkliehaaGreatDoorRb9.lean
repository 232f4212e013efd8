/-
  The walks of the reference's number, operand, set.
-/
import Derived.Test.YtlohhlbbkliehaaGreatDoorRa9
namespace Go.Proofs.YtlohhlbbkliehaaGreatDoor.W
open Go.RowKit
set_option linter.unusedVariables false

theorem numR_step {c : UInt8} {t : List UInt8} {n : Nat} (h1 : dgt c = true) (h2 : n < 100000000000) : numR (c :: t) n = ((numR t (10 * n + (c.toNat - 48))).1, (numR t (10 * n + (c.toNat - 48))).2 + 1) := by
  rw [numR, h1, decide_eq_true h2, if_pos (by decide)]
theorem numR_stop {c : UInt8} {t : List UInt8} {n : Nat} (h : dgt c = false ∨ ¬ n < 100000000000) : numR (c :: t) n = (n, 0) := by
  rw [numR]
  rcases h with h | h
  · rw [h]; rfl
  · rw [decide_eq_false h, Bool.and_false]; rfl
/-- where the number of digits from k on stands when j has been reached -/
def NumAt (l : List UInt8) (k j n : Nat) : Prop := numR (l.drop k) 0 = ((numR (l.drop j) n).1, (numR (l.drop j) n).2 + (j - k))
theorem num_next {l : List UInt8} {k j n : Nat} (h : NumAt l k j n) (hk : k ≤ j) (hj : j < l.length) (h1 : dgt l[j] = true) (h2 : n < 100000000000) : NumAt l k (j + 1) (10 * n + (l[j].toNat - 48)) := by
  unfold NumAt at h ⊢
  rw [h, List.drop_eq_getElem_cons hj, numR_step h1 h2]
  ext <;> simp <;> omega
theorem num_last {l : List UInt8} {k j n : Nat} (h : NumAt l k j n) (hj : j < l.length) (h1 : dgt l[j] = false ∨ ¬ n < 100000000000) : numR (l.drop k) 0 = (n, j - k) := by
  unfold NumAt at h
  rw [h, List.drop_eq_getElem_cons hj, numR_stop h1]
  simp
theorem num_end {l : List UInt8} {k j n : Nat} (h : NumAt l k j n) (hj : l.length ≤ j) : numR (l.drop k) 0 = (n, j - k) := by
  unfold NumAt at h
  rw [h, List.drop_eq_nil_of_le hj]
  simp [numR]
theorem num_ret {X : Nat × Nat} {m j k : Nat} (h1 : X = (m, j - k)) (h2 : k + (j - k) = j) : Ending.returned (.tuple #[.int .i64 (m : Nat), .int .i64 (j : Nat)]) = .returned (.tuple #[.int .i64 (X.1 : Nat), .int .i64 ((k + X.2 : Nat) : Int)]) := by
  subst h1
  show _ = Ending.returned (.tuple #[.int .i64 (m : Nat), .int .i64 ((k + (j - k) : Nat) : Int)])
  rw [h2]
theorem num_vals {c : UInt8} {n : Nat} (h1 : dgt c = true) (h2 : n < 100000000000) : IntKind.u8.wrap ((c.toNat : Int) - 48) = ((c.toNat - 48 : Nat) : Int) ∧ IntKind.i64.wrap ((c.toNat - 48 : Nat) : Int) = ((c.toNat - 48 : Nat) : Int) ∧ IntKind.i64.wrap (10 * (n : Int)) = ((10 * n : Nat) : Int) ∧ IntKind.i64.wrap (((10 * n : Nat) : Int) + ((c.toNat - 48 : Nat) : Int)) = ((10 * n + (c.toNat - 48) : Nat) : Int) ∧ 10 * n + (c.toNat - 48) < 1000000000010 := by
  unfold dgt at h1
  simp only [Bool.and_eq_true, decide_eq_true_eq] at h1
  refine ⟨by rw [IntWalk.u8_in _ (by omega)]; omega, IntWalk.i64_in _ (by omega), by rw [IntWalk.i64_in _ (by omega)]; omega, by rw [IntWalk.i64_in _ (by omega)]; omega, by omega⟩

set_option maxHeartbeats 4000000 in
set_option maxRecDepth 100000 in
theorem rnumber_any (s : ByteArray) (k : Nat) (w : World) (hs : s.size ≤ 1000) (hk : k ≤ s.size) :
    Calls Tryz.prog 68 #[.string s, .int .i64 (k : Nat)] w fun e w' => e = .returned (.tuple #[.int .i64 ((numR (s.data.toList.drop k) 0).1 : Nat), .int .i64 ((k + (numR (s.data.toList.drop k) 0).2 : Nat) : Int)]) ∧ w = w' := by
  go_enter Tryz.func68, Tryz.ntmps68
  go_wp2
  go_loop [1, 6] (fun i n => ∃ j m : Nat, j ≤ s.size ∧ m < 1000000000010 ∧ i = .int .i64 j ∧ n = .int .i64 m ∧ Hd (NumAt s.data.toList k j m ∧ k ≤ j)) (fun i _ => s.size - (intOf i).toNat)
  case atStart => exact ⟨k, 0, hk, by decide, rfl, rfl, ⟨by unfold NumAt; simp, Nat.le_refl _⟩⟩
  case round =>
    obtain ⟨j, m, hj, hm, rfl, rfl, HE⟩ := hrel
    by_cases hlt : j < s.size
    · have hd1 : decide ((j : Int) < (s.size : Int)) = true := by simp; omega
      have i0 : (0 : Int) ≤ (j : Int) := by omega
      have i1 : (j : Int) < (s.size : Int) := by omega
      obtain ⟨ch, hch⟩ : ∃ ch, s[j]'hlt = ch := ⟨_, rfl⟩
      have hch2 : s.data.toList[j]'hlt = ch := hch
      by_cases h48 : 48 ≤ ch.toNat
      · have b1 : decide ((48 : Int) ≤ (ch.toNat : Int)) = true := by simp; omega
        have b1' : ¬ ch.toNat < 48 := by omega
        by_cases h57 : ch.toNat ≤ 57
        · have b2 : decide ((ch.toNat : Int) ≤ 57) = true := by simp; omega
          have b2' : ¬ 57 < ch.toNat := by omega
          have hdg : dgt ch = true := by unfold dgt; rw [decide_eq_true h48, decide_eq_true h57]; rfl
          by_cases h11 : m < 100000000000
          · have b3 : decide ((m : Int) < 100000000000) = true := by simp; omega
            obtain ⟨v1, v2, v3, v4, v5⟩ := num_vals hdg h11
            have HN : Hd (NumAt s.data.toList k (j + 1) (10 * m + (ch.toNat - 48)) ∧ k ≤ j + 1) := ⟨by
              have := num_next HE.out.1 HE.out.2 hlt (by rw [hch2]; exact hdg) h11
              rw [hch2] at this
              exact this, by have := HE.out.2; omega⟩
            obtain ⟨d, hd⟩ : ∃ d : Nat, ch.toNat - 48 = d := ⟨_, rfl⟩
            obtain ⟨p, hp⟩ : ∃ p : Nat, 10 * m = p := ⟨_, rfl⟩
            obtain ⟨q, hq⟩ : ∃ q : Nat, p + d = q := ⟨_, rfl⟩
            rw [hd] at v1 v2 v4 v5 HN
            rw [hp] at v3 v4 v5 HN
            rw [hq] at v4 v5 HN
            clear hch2 hdg HE hd hp hq
            go_wp2
            go_round
            case rel => exact ⟨j + 1, q, hlt, v5, by go_num, rfl, HN⟩
            case measure => simp [intOf]; omega
          · have b3 : decide ((m : Int) < 100000000000) = false := by simp; omega
            have HN : Hd (numR (s.data.toList.drop k) 0 = (m, j - k) ∧ k + (j - k) = j) := ⟨num_last HE.out.1 hlt (.inr h11), by have := HE.out.2; omega⟩
            clear hch2 hdg HE
            go_wp2
            go_ret2
            exact ⟨num_ret HN.out.1 HN.out.2, rfl⟩
        · have b2 : decide ((ch.toNat : Int) ≤ 57) = false := by simp; omega
          have b2' : 57 < ch.toNat := by omega
          have HN : Hd (numR (s.data.toList.drop k) 0 = (m, j - k) ∧ k + (j - k) = j) := ⟨num_last HE.out.1 hlt (.inl (by rw [hch2]; unfold dgt; rw [decide_eq_false h57, Bool.and_false])), by have := HE.out.2; omega⟩
          clear hch2 HE
          go_wp2
          go_ret2
          exact ⟨num_ret HN.out.1 HN.out.2, rfl⟩
      · have b1 : decide ((48 : Int) ≤ (ch.toNat : Int)) = false := by simp; omega
        have b1' : ch.toNat < 48 := by omega
        have HN : Hd (numR (s.data.toList.drop k) 0 = (m, j - k) ∧ k + (j - k) = j) := ⟨num_last HE.out.1 hlt (.inl (by rw [hch2]; unfold dgt; rw [decide_eq_false h48, Bool.false_and])), by have := HE.out.2; omega⟩
        clear hch2 HE
        go_wp2
        go_ret2
        exact ⟨num_ret HN.out.1 HN.out.2, rfl⟩
    · have hd1 : decide ((j : Int) < (s.size : Int)) = false := by simp; omega
      have HN : Hd (numR (s.data.toList.drop k) 0 = (m, j - k) ∧ k + (j - k) = j) := ⟨num_end HE.out.1 (by show s.size ≤ j; omega), by have := HE.out.2; omega⟩
      go_wp2
      go_ret2
      exact ⟨num_ret HN.out.1 HN.out.2, rfl⟩

/-! ### set -/
set_option maxHeartbeats 4000000 in
set_option maxRecDepth 100000 in
theorem rset_any (op : Int) (v : Ops4) (k : Nat) (n : Int) (w : World) (hk : 1 ≤ k ∧ k ≤ 4) :
    Calls Tryz.prog 38 #[.agg #[.int .i64 op, .int .i64 v.a, .int .i64 v.b, .int .i64 v.c, .int .i64 v.m], .int .i64 (k : Nat), .int .i64 n] w fun e w' => e = .returned (.agg (insV op (v.set (kindC k) n)).toArray) ∧ Below w.heap.size w w' := by
  obtain ⟨a, b, c, m⟩ := v
  dsimp only
  rcases (by omega : k = 1 ∨ k = 2 ∨ k = 3 ∨ k = 4) with rfl | rfl | rfl | rfl
  · go_enter Tryz.func38, Tryz.ntmps38
    go_wp2
    refine bodyPost_ret (v := .agg #[.int .i64 op, .int .i64 n, .int .i64 b, .int .i64 c, .int .i64 m]) (by simp [results, Tryz.results38, go_sem]) rfl ⟨rfl, by go_grown⟩
  · go_enter Tryz.func38, Tryz.ntmps38
    go_wp2
    refine bodyPost_ret (v := .agg #[.int .i64 op, .int .i64 a, .int .i64 n, .int .i64 c, .int .i64 m]) (by simp [results, Tryz.results38, go_sem]) rfl ⟨rfl, by go_grown⟩
  · go_enter Tryz.func38, Tryz.ntmps38
    go_wp2
    refine bodyPost_ret (v := .agg #[.int .i64 op, .int .i64 a, .int .i64 b, .int .i64 n, .int .i64 m]) (by simp [results, Tryz.results38, go_sem]) rfl ⟨rfl, by go_grown⟩
  · go_enter Tryz.func38, Tryz.ntmps38
    go_wp2
    refine bodyPost_ret (v := .agg #[.int .i64 op, .int .i64 a, .int .i64 b, .int .i64 c, .int .i64 n]) (by simp [results, Tryz.results38, go_sem]) rfl ⟨rfl, by go_grown⟩

/-! ### operand -/
def operV (o : Option (Int × Nat)) (k : Nat) : Value := match o with
  | some (n, c) => .tuple #[.int .i64 n, .int .i64 ((k + c : Nat) : Int)]
  | none => .tuple #[.int .i64 0, .int .i64 (-1)]
theorem drop_head {l : List UInt8} {k : Nat} (h : k < l.length) (d : UInt8) : headB (l.drop k) d = decide (l[k] = d) := by
  rw [List.drop_eq_getElem_cons h, headB_cons]
theorem drop_tail (l : List UInt8) (k : Nat) : (l.drop k).tail = l.drop (k + 1) := by rw [List.tail_drop]
theorem num_small (l : List UInt8) (n : Nat) (h : n < 1000000000010) : (numR l n).1 < 1000000000010 ∧ (numR l n).2 ≤ l.length := by
  refine ⟨?_, (numR_take l n).1⟩
  induction l generalizing n with
  | nil => simpa [numR] using h
  | cons c t ih =>
    unfold numR
    split
    · rename_i hc
      rw [Bool.and_eq_true, decide_eq_true_eq] at hc
      exact ih _ (num_vals hc.1 hc.2).2.2.2.2
    · exact h

set_option maxHeartbeats 4000000 in
set_option maxRecDepth 100000 in
theorem roper_any (s : ByteArray) (k j : Nat) (w : World) (hs : s.size ≤ 1000) (hk : k ≤ s.size) (hj : 1 ≤ j ∧ j ≤ 4) :
    Calls Tryz.prog 37 #[.string s, .int .i64 (k : Nat), .int .i64 (j : Nat)] w fun e w' => e = .returned (operV (operR (s.data.toList.drop k) j) k) ∧ w = w' := by
  obtain ⟨l, hl⟩ : ∃ l, s.data.toList = l := ⟨_, rfl⟩
  rw [hl]
  have hll : l.length = s.size := by rw [← hl]; rfl
  have tail : ∀ (q : Nat), q ≤ s.size → ∃ N C : Nat, numR (l.drop q) 0 = (N, C) ∧ N < 1000000000010 ∧ q + C ≤ s.size ∧ Hd (∀ w, Calls Tryz.prog 68 #[.string s, .int .i64 (q : Nat)] w fun e w' => e = .returned (.tuple #[.int .i64 (N : Nat), .int .i64 ((q + C : Nat) : Int)]) ∧ w = w') := fun q hq => by
    obtain ⟨h1, h2⟩ := num_small (l.drop q) 0 (by decide)
    rw [List.length_drop] at h2
    refine ⟨_, _, rfl, h1, by omega, ⟨fun w => ?_⟩⟩
    have := rnumber_any s q w hs hq
    rw [hl] at this
    exact this
  by_cases h4 : j = 4
  · subst h4
    by_cases hm : k < s.size ∧ headB (l.drop k) 45 = true
    · obtain ⟨hlt, hm⟩ := hm
      obtain ⟨N, C, hN, hNb, hC, HC⟩ := tail (k + 1) (by omega)
      have hd1 : decide ((k : Int) < (s.size : Int)) = true := by simp; omega
      have i0 : (0 : Int) ≤ (k : Int) := by omega
      have i1 : (k : Int) < (s.size : Int) := by omega
      have hch : s[k]'hlt = 45 := by
        have := drop_head (l := l) (k := k) (by omega) 45
        rw [hm] at this
        have := of_decide_eq_true this.symm
        subst hl
        exact this
      have hR : operR (l.drop k) 4 = if C = 0 ∨ 10 < C then none else some (-(N : Int), C + 1) := by
        unfold operR
        rw [if_pos rfl, hm, if_pos rfl, drop_tail, hN]
      have w1 : IntKind.i64.wrap ((k : Int) + 1) = ((k + 1 : Nat) : Int) := by rw [IntWalk.i64_in _ (by omega)]; omega
      have w2 : IntKind.i64.wrap (((k + 1 + C : Nat) : Int) - ((k + 1 : Nat) : Int)) = (C : Int) := by rw [IntWalk.i64_in _ (by omega)]; omega
      have w3 : IntKind.i64.wrap (-(N : Int)) = -(N : Int) := IntWalk.i64_in _ (by omega)
      have HR := Hd.mk hR
      obtain ⟨q, hq⟩ : ∃ q, k + 1 = q := ⟨_, rfl⟩
      obtain ⟨e, he⟩ : ∃ e, q + C = e := ⟨_, rfl⟩
      rw [hq] at HC w1 w2
      rw [he] at HC w2
      have HQ := Hd.mk (And.intro hq he)
      by_cases c0 : C = 0
      · have b1 : ((e : Int) == (q : Int)) = true := by simp; omega
        have HX : Hd (operR (l.drop k) 4 = none) := ⟨by rw [HR.out, if_pos (.inl c0)]⟩
        clear tail hm hN hR HR hq he c0 w2
        go_enter Tryz.func37, Tryz.ntmps37
        go_wp2_with fail
        refine (HC.out _).mono ?_
        rintro e' w' ⟨rfl, rfl⟩
        go_wp2
        go_ret2
        exact ⟨by rw [HX.out]; rfl, rfl⟩
      · have b1 : ((e : Int) == (q : Int)) = false := by simp; omega
        by_cases c10 : 10 < C
        · have b2 : decide ((10 : Int) < (C : Int)) = true := by simp; omega
          have HX : Hd (operR (l.drop k) 4 = none) := ⟨by rw [HR.out, if_pos (.inr c10)]⟩
          clear tail hm hN hR HR hq he
          go_enter Tryz.func37, Tryz.ntmps37
          go_wp2_with fail
          refine (HC.out _).mono ?_
          rintro e' w' ⟨rfl, rfl⟩
          go_wp2
          go_ret2
          exact ⟨by rw [HX.out]; rfl, rfl⟩
        · have b2 : decide ((10 : Int) < (C : Int)) = false := by simp; omega
          have HX : Hd (operR (l.drop k) 4 = some (-(N : Int), C + 1)) := ⟨by rw [HR.out, if_neg (by omega)]⟩
          clear tail hm hN hR HR hq he
          go_enter Tryz.func37, Tryz.ntmps37
          go_wp2_with fail
          refine (HC.out _).mono ?_
          rintro e' w' ⟨rfl, rfl⟩
          go_wp2
          go_ret2
          refine ⟨?_, rfl⟩
          rw [HX.out]
          have := HQ.out
          show _ = Ending.returned (.tuple #[.int .i64 (-(N : Int)), .int .i64 ((k + (C + 1) : Nat) : Int)])
          rw [show k + (C + 1) = e by omega]
          rfl
    · obtain ⟨N, C, hN, hNb, hC, HC⟩ := tail k hk
      have hm2 : headB (l.drop k) 45 = false := by
        by_cases hlt : k < s.size
        · cases e : headB (l.drop k) 45 with
          | false => rfl
          | true => exact absurd ⟨hlt, e⟩ hm
        · rw [List.drop_eq_nil_of_le (by omega), headB_nil]
      have hR : operR (l.drop k) 4 = if C = 0 ∨ 10 < C then none else some ((N : Int), C) := by
        unfold operR
        rw [if_pos rfl, hm2, if_neg (by decide), hN]
      have w2 : IntKind.i64.wrap (((k + C : Nat) : Int) - (k : Int)) = (C : Int) := by rw [IntWalk.i64_in _ (by omega)]; omega
      have HR := Hd.mk hR
      have hcs : ¬ k < s.size ∨ ∃ (hlt : k < s.size) (ch : UInt8), s[k]'hlt = ch ∧ ((ch.toNat : Int) == 45) = false := by
        by_cases hlt : k < s.size
        · refine .inr ⟨hlt, _, rfl, u8_ne (d := 45) rfl (fun e => ?_)⟩
          have := drop_head (l := l) (k := k) (by omega) 45
          rw [hm2] at this
          subst hl
          exact of_decide_eq_false this.symm e
        · exact .inl hlt
      obtain ⟨e, he⟩ : ∃ e, k + C = e := ⟨_, rfl⟩
      rw [he] at HC w2
      have HQ := Hd.mk he
      have HCS := Hd.mk hcs
      have hout : (((e : Int) == (k : Int)) = true ∧ operR (l.drop k) 4 = none) ∨ ((((e : Int) == (k : Int)) = false ∧ decide ((10 : Int) < (C : Int)) = true) ∧ operR (l.drop k) 4 = none) ∨ ((((e : Int) == (k : Int)) = false ∧ decide ((10 : Int) < (C : Int)) = false) ∧ operR (l.drop k) 4 = some ((N : Int), C)) := by
        by_cases c0 : C = 0
        · exact .inl ⟨by simp; omega, by rw [hR, if_pos (.inl c0)]⟩
        · by_cases c10 : 10 < C
          · exact .inr (.inl ⟨⟨by simp; omega, by simp; omega⟩, by rw [hR, if_pos (.inr c10)]⟩)
          · exact .inr (.inr ⟨⟨by simp; omega, by simp; omega⟩, by rw [hR, if_neg (by omega)]⟩)
      clear tail hm hN hR HR he hcs hm2
      rcases HCS.out with hlt | ⟨hlt, ch, hch, bch⟩
      · have hd1 : decide ((k : Int) < (s.size : Int)) = false := by simp; omega
        clear HCS
        rcases hout with ⟨b1, hx⟩ | ⟨⟨b1, b2⟩, hx⟩ | ⟨⟨b1, b2⟩, hx⟩
        all_goals
          have HX := Hd.mk hx
          clear hx
          go_enter Tryz.func37, Tryz.ntmps37
          go_wp2_with fail
          refine (HC.out _).mono ?_
          rintro e' w' ⟨rfl, rfl⟩
          go_wp2
          go_ret2
          refine ⟨?_, rfl⟩
          rw [HX.out]
          first
          | rfl
          | (show _ = Ending.returned (.tuple #[.int .i64 (N : Int), .int .i64 ((k + C : Nat) : Int)])
             rw [HQ.out]
             rfl)
      · have hd1 : decide ((k : Int) < (s.size : Int)) = true := by simp; omega
        have i0 : (0 : Int) ≤ (k : Int) := by omega
        have i1 : (k : Int) < (s.size : Int) := by omega
        clear HCS
        rcases hout with ⟨b1, hx⟩ | ⟨⟨b1, b2⟩, hx⟩ | ⟨⟨b1, b2⟩, hx⟩
        all_goals
          have HX := Hd.mk hx
          clear hx
          go_enter Tryz.func37, Tryz.ntmps37
          go_wp2_with fail
          refine (HC.out _).mono ?_
          rintro e' w' ⟨rfl, rfl⟩
          go_wp2
          go_ret2
          refine ⟨?_, rfl⟩
          rw [HX.out]
          first
          | rfl
          | (show _ = Ending.returned (.tuple #[.int .i64 (N : Int), .int .i64 ((k + C : Nat) : Int)])
             rw [HQ.out]
             rfl)
  · have j4 : ((j : Int) == 4) = false := by simp; omega
    have jl : decide ((j : Int) < 4) = true := by simp; omega
    have jlt : j < 4 := by omega
    by_cases hm : k < s.size ∧ headB (l.drop k) 114 = true
    · obtain ⟨hlt, hm⟩ := hm
      obtain ⟨N, C, hN, hNb, hC, HC⟩ := tail (k + 1) (by omega)
      have hd1 : decide ((k : Int) < (s.size : Int)) = true := by simp; omega
      have hd2 : decide ((s.size : Int) ≤ (k : Int)) = false := by simp; omega
      have i0 : (0 : Int) ≤ (k : Int) := by omega
      have i1 : (k : Int) < (s.size : Int) := by omega
      have hch : s[k]'hlt = 114 := by
        have := drop_head (l := l) (k := k) (by omega) 114
        rw [hm] at this
        have := of_decide_eq_true this.symm
        subst hl
        exact this
      have hR : operR (l.drop k) j = if (C = 0 ∨ 2 < C) ∨ (C = 2 ∧ headB (l.drop (k + 1)) 48 = true) then none else some ((N : Int), C + 1) := by
        unfold operR
        rw [if_neg h4, hm, if_pos rfl, drop_tail, hN]
      have hc48 : C = 2 → ∃ (h : k + 1 < s.size) (ch : UInt8), s[k + 1]'h = ch ∧ ((((ch.toNat : Int) == 48) = true ∧ headB (l.drop (k + 1)) 48 = true) ∨ (((ch.toNat : Int) == 48) = false ∧ headB (l.drop (k + 1)) 48 = false)) := fun hc => by
        have h : k + 1 < s.size := by omega
        have hh := drop_head (l := l) (k := k + 1) (by omega) 48
        refine ⟨h, _, rfl, ?_⟩
        subst hl
        by_cases e : s[k + 1]'h = 48
        · exact .inl ⟨u8_eq (d := 48) rfl e, by rw [hh]; exact decide_eq_true e⟩
        · exact .inr ⟨u8_ne (d := 48) rfl e, by rw [hh]; exact decide_eq_false e⟩
      have w1 : IntKind.i64.wrap ((k : Int) + 1) = ((k + 1 : Nat) : Int) := by rw [IntWalk.i64_in _ (by omega)]; omega
      have w2 : IntKind.i64.wrap (((k + 1 + C : Nat) : Int) - ((k + 1 : Nat) : Int)) = (C : Int) := by rw [IntWalk.i64_in _ (by omega)]; omega
      have HR := Hd.mk hR
      have H48 := Hd.mk hc48
      clear hR hc48 hN hm
      obtain ⟨q, hq⟩ : ∃ q, k + 1 = q := ⟨_, rfl⟩
      obtain ⟨e, he⟩ : ∃ e, q + C = e := ⟨_, rfl⟩
      rw [hq] at HC w1 w2 H48 HR
      rw [he] at HC w2
      have HQ := Hd.mk (And.intro hq he)
      by_cases c0 : C = 0
      · have b1 : ((e : Int) == (q : Int)) = true := by simp; omega
        have HX : Hd (operR (l.drop k) j = none) := ⟨by rw [HR.out, if_pos (.inl (.inl c0))]⟩
        clear tail HR hq he c0 w2 h4 H48
        go_enter Tryz.func37, Tryz.ntmps37
        go_wp2_with fail
        refine (HC.out _).mono ?_
        rintro e' w' ⟨rfl, rfl⟩
        go_wp2
        go_ret2
        exact ⟨by rw [HX.out]; rfl, rfl⟩
      · have b1 : ((e : Int) == (q : Int)) = false := by simp; omega
        by_cases c2 : 2 < C
        · have b2 : decide ((2 : Int) < (C : Int)) = true := by simp; omega
          have HX : Hd (operR (l.drop k) j = none) := ⟨by rw [HR.out, if_pos (.inl (.inr c2))]⟩
          clear tail HR hq he h4 H48
          go_enter Tryz.func37, Tryz.ntmps37
          go_wp2_with fail
          refine (HC.out _).mono ?_
          rintro e' w' ⟨rfl, rfl⟩
          go_wp2
          go_ret2
          exact ⟨by rw [HX.out]; rfl, rfl⟩
        · have b2 : decide ((2 : Int) < (C : Int)) = false := by simp; omega
          by_cases c22 : C = 2
          · obtain ⟨hq1, ch, hch1, hcase⟩ := H48.out c22
            have b3 : ((C : Int) == 2) = true := by simp; omega
            have k0 : (0 : Int) ≤ (q : Int) := by omega
            have k1 : (q : Int) < (s.size : Int) := by omega
            rcases hcase with ⟨b4, h48⟩ | ⟨b4, h48⟩
            · have HX : Hd (operR (l.drop k) j = none) := ⟨by rw [HR.out, if_pos (.inr ⟨c22, h48⟩)]⟩
              clear tail HR hq he h4 H48 h48 c22
              go_enter Tryz.func37, Tryz.ntmps37
              go_wp2_with fail
              refine (HC.out _).mono ?_
              rintro e' w' ⟨rfl, rfl⟩
              go_wp2
              go_ret2
              exact ⟨by rw [HX.out]; rfl, rfl⟩
            · have HX : Hd (operR (l.drop k) j = some ((N : Int), C + 1)) := ⟨by
                rw [HR.out, if_neg]
                rintro (h | h)
                · omega
                · rw [h48] at h; exact absurd h.2 (by decide)⟩
              clear tail HR hq he h4 H48 h48 c22
              go_enter Tryz.func37, Tryz.ntmps37
              go_wp2_with fail
              refine (HC.out _).mono ?_
              rintro e' w' ⟨rfl, rfl⟩
              go_wp2
              go_ret2
              refine ⟨?_, rfl⟩
              rw [HX.out]
              have := HQ.out
              show _ = Ending.returned (.tuple #[.int .i64 (N : Int), .int .i64 ((k + (C + 1) : Nat) : Int)])
              rw [show k + (C + 1) = e by omega]
              rfl
          · have b3 : ((C : Int) == 2) = false := by simp; omega
            have HX : Hd (operR (l.drop k) j = some ((N : Int), C + 1)) := ⟨by
                rw [HR.out, if_neg]
                rintro (h | h)
                · omega
                · exact c22 h.1⟩
            clear tail HR hq he h4 H48
            go_enter Tryz.func37, Tryz.ntmps37
            go_wp2_with fail
            refine (HC.out _).mono ?_
            rintro e' w' ⟨rfl, rfl⟩
            go_wp2
            go_ret2
            refine ⟨?_, rfl⟩
            rw [HX.out]
            have := HQ.out
            show _ = Ending.returned (.tuple #[.int .i64 (N : Int), .int .i64 ((k + (C + 1) : Nat) : Int)])
            rw [show k + (C + 1) = e by omega]
            rfl
    · have hm2 : headB (l.drop k) 114 = false := by
        by_cases hlt : k < s.size
        · cases e : headB (l.drop k) 114 with
          | false => rfl
          | true => exact absurd ⟨hlt, e⟩ hm
        · rw [List.drop_eq_nil_of_le (by omega), headB_nil]
      have HX : Hd (operR (l.drop k) j = none) := ⟨by
        unfold operR
        rw [if_neg h4, hm2, if_neg (by decide)]⟩
      have hcs : ¬ k < s.size ∨ ∃ (hlt : k < s.size) (ch : UInt8), s[k]'hlt = ch ∧ ((ch.toNat : Int) != 114) = true := by
        by_cases hlt : k < s.size
        · refine .inr ⟨hlt, _, rfl, ?_⟩
          have h1 : ((s[k]'hlt).toNat : Int) ≠ 114 := fun e => by
            have := drop_head (l := l) (k := k) (by omega) 114
            rw [hm2] at this
            subst hl
            exact of_decide_eq_false this.symm (UInt8.toNat_inj.1 (by have : (114 : UInt8).toNat = 114 := rfl; show (s[k]'hlt).toNat = _; omega))
          simpa using h1
        · exact .inl hlt
      clear tail hm hm2 h4
      rcases hcs with hlt | ⟨hlt, ch, hch, bch⟩
      · have hd1 : decide ((s.size : Int) ≤ (k : Int)) = true := by simp; omega
        go_enter Tryz.func37, Tryz.ntmps37
        go_wp2
        go_ret2
        exact ⟨by rw [HX.out]; rfl, rfl⟩
      · have hd1 : decide ((s.size : Int) ≤ (k : Int)) = false := by simp; omega
        have i0 : (0 : Int) ≤ (k : Int) := by omega
        have i1 : (k : Int) < (s.size : Int) := by omega
        go_enter Tryz.func37, Tryz.ntmps37
        go_wp2
        go_ret2
        exact ⟨by rw [HX.out]; rfl, rfl⟩

end Go.Proofs.YtlohhlbbkliehaaGreatDoor.W
