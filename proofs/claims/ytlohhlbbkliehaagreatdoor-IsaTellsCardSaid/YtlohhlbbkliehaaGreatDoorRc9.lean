/-
  The walk of the reference's Parse.
-/
import Derived.Test.YtlohhlbbkliehaaGreatDoorRb9
import Derived.Deep.DeepCutAuto
import Derived.Deep.Cut
namespace Go.Proofs.YtlohhlbbkliehaaGreatDoor.W
open Go.RowKit
set_option linter.unusedVariables false

def wordE (l : List UInt8) (k : Nat) : Nat := k + ((l.drop k).takeWhile fun c => !bk c).length
theorem word_succ {l : List UInt8} {k : Nat} (h : k < l.length) (hb : bk l[k] = false) : wordE l k = wordE l (k + 1) := by
  unfold wordE
  rw [List.drop_eq_getElem_cons h, List.takeWhile_cons, if_pos (by rw [hb]; rfl), List.length_cons]; omega
theorem word_stop {l : List UInt8} {k : Nat} (h : k < l.length) (hb : bk l[k] = true) : wordE l k = k := by
  unfold wordE
  rw [List.drop_eq_getElem_cons h, List.takeWhile_cons, if_neg (by rw [hb]; decide)]; rfl
theorem word_end {l : List UInt8} {k : Nat} (h : l.length ≤ k) : wordE l k = k := by
  unfold wordE
  rw [List.drop_eq_nil_of_le h]; rfl
theorem word_le (l : List UInt8) (k : Nat) (h : k ≤ l.length) : k ≤ wordE l k ∧ wordE l k ≤ l.length := by
  unfold wordE
  have := (List.takeWhile_sublist (l := l.drop k) fun c => !bk c).length_le
  rw [List.length_drop] at this
  omega
theorem word_drop (l : List UInt8) (k : Nat) : l.drop (wordE l k) = (l.drop k).dropWhile (fun c => !bk c) ∧ (l.take (wordE l k)).drop k = (l.drop k).takeWhile (fun c => !bk c) := by
  unfold wordE
  constructor
  · rw [← List.drop_drop]
    conv => lhs; rw [← List.takeWhile_append_dropWhile (p := fun c => !bk c) (l := l.drop k)]
    rw [List.drop_left']
    rw [List.takeWhile_append_dropWhile]
  · rw [List.drop_take, Nat.add_sub_cancel_left]
    conv => lhs; rw [← List.takeWhile_append_dropWhile (p := fun c => !bk c) (l := l.drop k)]
    rw [List.take_left']
    rw [List.takeWhile_append_dropWhile]
theorem parse_word (l : List UInt8) : (l.take (wordE l (skipL l 0))).drop (skipL l 0) = fstW l ∧ l.drop (skipL l (wordE l (skipL l 0))) = (rstW l).dropWhile bk := by
  have h0 := skip_drop l 0
  rw [List.drop_zero] at h0
  obtain ⟨h1, h2⟩ := word_drop l (skipL l 0)
  rw [h0] at h1 h2
  exact ⟨h2, by rw [skip_drop, h1]; rfl⟩
/-- what stands of the reference's operands when j of them have been read -/
theorem refO_step {ks : List Nat} {r : List UInt8} {v : Ops4} {j : Nat} (hj : j < ks.length) :
    refO (ks.drop j) r v = match operR r ks[j] with
    | none => none
    | some (n, c) => if j + 1 = ks.length then refO [] ((r.drop c).dropWhile bk) (v.set (kindC ks[j]) n)
      else (if headB ((r.drop c).dropWhile bk) 44 then refO (ks.drop (j + 1)) (((r.drop c).dropWhile bk).tail.dropWhile bk) (v.set (kindC ks[j]) n) else none) := by
  rw [List.drop_eq_getElem_cons hj, refO]
  cases operR r ks[j] with
  | none => rfl
  | some nc =>
    obtain ⟨n, c⟩ := nc
    dsimp only
    by_cases h : j + 1 = ks.length
    · rw [if_pos (List.drop_eq_nil_of_le (by omega)), if_pos h, refO]
    · rw [if_neg (fun e => by have := congrArg List.length e; rw [List.length_drop] at this; simp at this; omega), if_neg h]

/-- a row of ints that the call has made, or nil -/
structure OpsN (B : Nat) (W : World) (v : Value) (l : List Int) : Prop where
  is : (l = [] ∧ v = .slice none 0 0) ∨ (0 < l.length ∧ ∃ g cap, v = .slice (some ⟨g, 0, none⟩) l.length cap ∧ B ≤ g ∧ g < W.heap.size ∧ ∀ j z, l[j]? = some z → W.cell? ⟨g, j, none⟩ = some (.int .i64 z))
theorem OpsN.below {B : Nat} {W w : World} {v : Value} {l : List Int} (h : OpsN B W v l) (hb : Below W.heap.size W w) : OpsN B w v l := by
  rcases h.is with h0 | ⟨h0, g, cap, e, hB, hg, hc⟩
  · exact ⟨.inl h0⟩
  · exact ⟨.inr ⟨h0, g, cap, e, hB, Nat.lt_of_lt_of_le hg hb.size, fun j z hj => by rw [hb.cell (p := ⟨g, j, none⟩) hg]; exact hc j z hj⟩⟩
theorem OpsN.set {B : Nat} {W : World} {v : Value} {l : List Int} (h : OpsN B W v l) {p : Addr} (hp : p.block < B) (x : Value) : OpsN B (W.setCell p x) v l := by
  have hk : Keeps (fun k => k = p.block) W (W.setCell p x) := (Keeps.refl (fun k => k = p.block) W).setCell (p := p) (.inr rfl) x
  rcases h.is with h0 | ⟨h0, g, cap, e, hB, hg, hc⟩
  · exact ⟨.inl h0⟩
  · exact ⟨.inr ⟨h0, g, cap, e, hB, Nat.lt_of_lt_of_le hg hk.size, fun j z hj => by
      rw [World.cell?_of_block (hk.block g hg (by intro e; omega))]; exact hc j z hj⟩⟩
theorem ops_newN (w : World) (T : TypeId) (l : List Int) (h : 0 < l.length) (cap : Nat) : OpsN w.heap.size (w.alloc (.cells (l.map fun z => Value.int .i64 z).toArray T)) (.slice (some ⟨w.heap.size, 0, none⟩) l.length cap) l :=
  ⟨.inr ⟨h, _, cap, rfl, Nat.le_refl _, by simp, fun j z hj => (Blk.new w T _).at (by rw [List.getElem?_map, hj]; rfl)⟩⟩
set_option maxHeartbeats 4000000 in
theorem roperandsN_any (op : Int) (w : World) (h : 1 ≤ op ∧ op ≤ 30) : Calls Tryz.prog 23 #[.int .i64 op] w fun e w' => (∃ v, e = .returned v ∧ OpsN w.heap.size w' v (ropsL op.toNat)) ∧ Below w.heap.size w w' := by
  rcases op30 h with rfl | rfl | rfl | rfl | rfl | rfl | rfl | rfl | rfl | rfl | rfl | rfl | rfl | rfl | rfl | rfl | rfl | rfl | rfl | rfl | rfl | rfl | rfl | rfl | rfl | rfl | rfl | rfl | rfl | rfl
  all_goals (
    clear h
    go_enter Tryz.func23, Tryz.ntmps23
    go_wp2
    go_ret
    refine ⟨⟨_, rfl, ?_⟩, by go_grown⟩
    first
    | exact ⟨.inl ⟨rfl, rfl⟩⟩
    | exact ops_newN w _ [1, 4] (by decide) _
    | exact ops_newN w _ [1, 2] (by decide) _
    | exact ops_newN w _ [1, 2, 3] (by decide) _
    | exact ops_newN w _ [1, 2, 4] (by decide) _
    | exact ops_newN w _ [4] (by decide) _
    | exact ops_newN w _ [1] (by decide) _)

theorem rop_ks {n : Nat} (h1 : 1 ≤ n) (h2 : n < 31) : ∀ (j : Nat) (h : j < (ropsL n).length), ∃ k : Nat, (ropsL n)[j] = (k : Int) ∧ 1 ≤ k ∧ k ≤ 4 ∧ ((ropsL n).map Int.toNat)[j]? = some k := fun j h => by
  have key : ((List.range 31).all fun n => (ropsL n).all fun z => decide (0 ≤ z ∧ 1 ≤ z.toNat ∧ z.toNat ≤ 4)) = true := by decide +kernel
  have := List.all_eq_true.1 (List.all_eq_true.1 key n (List.mem_range.2 h2)) _ (List.getElem_mem h)
  rw [decide_eq_true_eq] at this
  exact ⟨(ropsL n)[j].toNat, by omega, this.2.1, this.2.2, by rw [List.getElem?_map, List.getElem?_eq_getElem h]; rfl⟩

set_option maxHeartbeats 8000000 in
set_option maxRecDepth 100000 in
theorem rparse_any (s : ByteArray) (w : World) (hs : s.size ≤ 1000) : Calls Tryz.prog 14 #[.string s] w fun e w' => e = .returned (parseV (parseL s.data.toList)) ∧ Below w.heap.size w w' := by
  obtain ⟨l, hl⟩ : ∃ l, s.data.toList = l := ⟨_, rfl⟩
  have hll : l.length = s.size := by rw [← hl]; rfl
  have hpw := parse_word l
  have hsk : ∀ k, k ≤ s.size → Hd (∀ w, Calls Tryz.prog 35 #[.string s, .int .i64 (k : Nat)] w fun e w' => e = .returned (.int .i64 (skipL l k : Nat)) ∧ w = w') := fun k hk => ⟨fun w => by rw [← hl]; exact rskip_any s k w hs hk⟩
  have HSK := Hd.mk hsk
  have HSL := Hd.mk (skip_le l)
  have HS0 : Hd (∀ w, Calls Tryz.prog 35 #[.string s, .int .i64 0] w fun e w' => e = .returned (.int .i64 (skipL l 0 : Nat)) ∧ w = w') := ⟨(hsk 0 (Nat.zero_le _)).out⟩
  have hOPs : ∀ k j, k ≤ s.size → 1 ≤ j ∧ j ≤ 4 → Hd (∀ w, Calls Tryz.prog 37 #[.string s, .int .i64 (k : Nat), .int .i64 (j : Nat)] w fun e w' => e = .returned (operV (operR (l.drop k) j) k) ∧ w = w') := fun k j h1 h2 => ⟨fun w => by rw [← hl]; exact roper_any s k j w hs h1 h2⟩
  have HOPs := Hd.mk hOPs
  obtain ⟨g1, g2⟩ := skip_le l 0 (Nat.zero_le _)
  obtain ⟨g3, g4⟩ := word_le l (skipL l 0) g2
  obtain ⟨p0, hp0⟩ : ∃ p, skipL l 0 = p := ⟨_, rfl⟩
  rw [hp0] at hpw g1 g2 g3 g4 HS0
  obtain ⟨e0, he0⟩ : ∃ e, wordE l p0 = e := ⟨_, rfl⟩
  rw [he0] at hpw g3 g4
  have HE0 := Hd.mk he0
  have hex : (s.extract p0 e0).data.toList = fstW l := by
    rw [Lib.extract_data, hl, ← hpw.1, List.drop_take]
  have HF := Hd.mk (fun w => rfind_any (s.extract p0 e0) w)
  rw [hex] at HF
  have HPL : Hd (parseL s.data.toList = if findL (fstW l) < 0 then parseE else match refO ((ropsL (findL (fstW l)).toNat).map Int.toNat) (l.drop (skipL l e0)) ⟨0, 0, 0, 0⟩ with
    | none => parseE
    | some v => if rightB (findL (fstW l)) v.a v.b v.c v.m then (0, findL (fstW l), v) else (6, 0, ⟨0, 0, 0, 0⟩)) := ⟨by rw [hl, ← parseR_is, hpw.2]; rfl⟩
  have HFR := Hd.mk (findL_range (fstW l))
  have HF0 : Hd (findL (fstW l) ≠ 0) := ⟨by
    intro e
    unfold findL at e
    split at e
    · rename_i n hn
      have h1 := List.find?_some hn
      have h2 : n = 0 := by omega
      subst h2
      unfold nameIs at h1
      simp only [Bool.and_eq_true, decide_eq_true_eq] at h1
      have e0 : nameL 0 = [] := by decide +kernel
      exact h1.2 (h1.1.symm.trans e0)
    · omega⟩
  obtain ⟨f, hf⟩ : ∃ f, findL (fstW l) = f := ⟨_, rfl⟩
  have hrf : rfindL (fstW l) = if f < 0 then 0 else f := by unfold rfindL; rw [hf]
  rw [hrf] at HF
  rw [hf] at HPL HFR HF0
  have HB0 := Hd.mk (Blk.new w 23 [.int .i64 0, .int .i64 0, .int .i64 0, .int .i64 0, .int .i64 0])
  have K0 : Hd (Below w.heap.size w (w.alloc (.cells #[.int .i64 0, .int .i64 0, .int .i64 0, .int .i64 0, .int .i64 0] 23))) := ⟨(Below.refl _ _).alloc (Nat.le_refl _) _⟩
  obtain ⟨R, hR⟩ : ∃ R, w.heap.size = R := ⟨_, rfl⟩
  have HRg : Hd (w.heap.size ≤ R) := ⟨Nat.le_of_eq hR⟩
  obtain ⟨w0, hw0⟩ : ∃ X, w.alloc (.cells #[.int .i64 0, .int .i64 0, .int .i64 0, .int .i64 0, .int .i64 0] 23) = X := ⟨_, rfl⟩
  have hw0' : w.alloc (.cells [.int .i64 0, .int .i64 0, .int .i64 0, .int .i64 0, .int .i64 0].toArray 23) = w0 := hw0
  rw [hw0', hR] at HB0
  rw [hw0] at K0
  have HG := Hd.mk (And.intro g1 (And.intro g2 (And.intro g3 g4)))
  have hlz := hll
  clear hpw hsk hOPs hex hrf hf hp0 he0 g1 g2 g3 g4 hw0'
  have HLL := Hd.mk hll
  have HL := Hd.mk hl
  clear hll hl hlz
  have hg := HG.out
  rw [HLL.out] at hg
  obtain ⟨g1, g2, g3, g4⟩ := hg
  go_enter Tryz.func14, Tryz.ntmps14
  go_wp2_with fail
  refine (HS0.out _).mono ?_
  rintro e wx ⟨rfl, rfl⟩
  go_wp2
  clear hw0 hR
  go_loop [5] (fun i => ∃ j : Nat, p0 ≤ j ∧ j ≤ s.size ∧ i = .int .i64 j ∧ Hd (wordE l j = e0)) (fun i => s.size - (intOf i).toNat)
  case atStart => exact ⟨p0, Nat.le_refl _, g2, rfl, HE0⟩
  case round =>
    obtain ⟨j, hj0, hj, rfl, HE⟩ := hrel
    by_cases hgo : ∃ (hlt : j < s.size) (ch : UInt8), s[j]'hlt = ch ∧ bk ch = false
    · obtain ⟨hlt, ch, hch, hb⟩ := hgo
      have hd1 : decide ((j : Int) < (s.size : Int)) = true := by simp; omega
      have i0 : (0 : Int) ≤ (j : Int) := by omega
      have i1 : (j : Int) < (s.size : Int) := by omega
      have b1 : ((ch.toNat : Int) != 32) = true := by
        have : ch ≠ 32 := by rintro rfl; rw [bk_32] at hb; cases hb
        have := u8_ne (z := 32) (d := 32) rfl this
        simp only [bne, this]; rfl
      have b2 : ((ch.toNat : Int) != 9) = true := by
        have : ch ≠ 9 := by rintro rfl; rw [bk_9] at hb; cases hb
        have := u8_ne (z := 9) (d := 9) rfl this
        simp only [bne, this]; rfl
      have HN : Hd (wordE l (j + 1) = e0) := ⟨by
        have h1 : j < l.length := by rw [HLL.out]; exact hlt
        rw [← word_succ h1 (by
          have : l[j] = ch := by have := HL.out; subst this; exact hch
          rw [this]; exact hb)]
        exact HE.out⟩
      clear HE hb
      go_wp2
      go_round
      case rel => exact ⟨j + 1, by omega, hlt, by go_num, HN⟩
      case measure => simp [intOf]; omega
    · have hje : j = e0 := by
        rw [← HE.out]
        by_cases hlt : j < s.size
        · have h1 : j < l.length := by rw [HLL.out]; exact hlt
          refine (word_stop h1 ?_).symm
          cases hb : bk l[j] with
          | true => rfl
          | false => exact absurd ⟨hlt, l[j], by have := HL.out; subst this; rfl, hb⟩ hgo
        · exact (word_end (by rw [HLL.out]; omega)).symm
      have hstop : ¬ j < s.size ∨ ∃ (hlt : j < s.size) (ch : UInt8), s[j]'hlt = ch ∧ (((ch.toNat : Int) != 32) = false ∨ (((ch.toNat : Int) != 32) = true ∧ ((ch.toNat : Int) != 9) = false)) := by
        by_cases hlt : j < s.size
        · refine .inr ⟨hlt, _, rfl, ?_⟩
          by_cases h32 : s[j]'hlt = 32
          · have := u8_eq (z := 32) (d := 32) rfl h32
            exact .inl (by simp only [bne, this]; rfl)
          · have h1 := u8_ne (z := 32) (d := 32) rfl h32
            by_cases h9 : s[j]'hlt = 9
            · have := u8_eq (z := 9) (d := 9) rfl h9
              exact .inr ⟨by simp only [bne, h1]; rfl, by simp only [bne, this]; rfl⟩
            · exact absurd ⟨hlt, _, rfl, bk_no h32 h9⟩ hgo
        · exact .inl hlt
      clear hgo
      subst hje
      have i0 : (0 : Int) ≤ (p0 : Int) := by omega
      have i1 : (p0 : Int) ≤ (j : Int) := by omega
      have i2 : (j : Int) ≤ (s.size : Int) := by omega
      have ST : Hd (¬ j < s.size ∨ ∃ (hlt : j < s.size) (ch : UInt8), s[j]'hlt = ch ∧ (((ch.toNat : Int) != 32) = false ∨ (((ch.toNat : Int) != 32) = true ∧ ((ch.toNat : Int) != 9) = false))) := ⟨hstop⟩
      clear hstop HE
      go_upto_region 3 with (fail)
      go_cut [29] from 14 to 29 (fun tb wx => tb = .bool false ∧ w0 = wx)
      case first =>
        rcases ST.out with hlt | ⟨hlt, ch, hch, hb⟩
        · have hd1 : decide ((j : Int) < (s.size : Int)) = false := by simp; omega
          go_wp2_with fail
          go_meet
          exact ⟨rfl, rfl⟩
        · have hd1 : decide ((j : Int) < (s.size : Int)) = true := by simp; omega
          have j0 : (0 : Int) ≤ (j : Int) := by omega
          have j1 : (j : Int) < (s.size : Int) := by omega
          rcases hb with b1 | ⟨b1, b2⟩
          · go_wp2_with fail
            go_meet
            exact ⟨rfl, rfl⟩
          · go_wp2_with fail
            go_meet
            exact ⟨rfl, rfl⟩
      case rest =>
      obtain ⟨rfl, rfl⟩ := hcut
      clear ST
      go_wp2_with fail
      refine (HF.out _).mono ?_
      rintro e w1 ⟨rfl, k1⟩
      have HB1 := Hd.mk (HB0.out.below k1 HB0.out.lt)
      have K1 := Hd.mk (Below.chain K0.out k1)
      clear k1 HB0 K0 HF
      by_cases hf : f < 0
      · have HX : Hd (parseL s.data.toList = parseE) := ⟨by rw [HPL.out, if_pos hf]⟩
        rw [if_pos hf]
        have HI1 := Hd.mk (Blk.new w1 23 [.int .i64 0, .int .i64 0, .int .i64 0, .int .i64 0, .int .i64 0])
        have HB2 := Hd.mk (HB1.out.alloc (.cells #[.int .i64 0, .int .i64 0, .int .i64 0, .int .i64 0, .int .i64 0] 23))
        have K2 := Hd.mk (K1.out.alloc K1.out.size (.cells #[.int .i64 0, .int .i64 0, .int .i64 0, .int .i64 0, .int .i64 0] 23))
        have a0 := HB2.out.at (j := 0) rfl
        have a1 := HB2.out.at (j := 1) rfl
        have a2 := HB2.out.at (j := 2) rfl
        have a3 := HB2.out.at (j := 3) rfl
        have a4 := HB2.out.at (j := 4) rfl
        have z0 := HB2.out.free 0
        have z1 := HB2.out.free 1
        have z2 := HB2.out.free 2
        have z3 := HB2.out.free 3
        have z4 := HB2.out.free 4
        clear HPL hf
        go_wp2
        (try simp only [Exit.inBlock, Exit.then])
        refine bodyPost_ret (v := .tuple #[.agg #[.int .i64 0, .int .i64 0, .int .i64 0, .int .i64 0, .int .i64 0], .int .i64 2]) ?_ ?_ ⟨?_, ?_⟩
        · simp [results, Tryz.results14, go_sem, a0, a1, a2, a3, a4]
        · rfl
        · rw [HX.out]; rfl
        · exact (((((K2.out.setCell (HRg.out) _).setCell (HRg.out) _).setCell (HRg.out) _).setCell (HRg.out) _).setCell (HRg.out) _)
      · rw [if_neg hf]
        rw [if_neg hf] at HPL
        obtain ⟨n, rfl⟩ : ∃ n : Nat, f = (n : Int) := ⟨f.toNat, by omega⟩
        rw [Int.toNat_natCast] at HPL
        have hn1 : 1 ≤ n := by have := HF0.out; omega
        have hn31 : n < 31 := by have := HFR.out; omega
        have hne : ((n : Int) == 0) = false := by simp; omega
        have HOP := Hd.mk (fun w => roperandsN_any (n : Int) w ⟨by omega, by omega⟩)
        rw [Int.toNat_natCast] at HOP
        have HKS := Hd.mk (rop_ks hn1 hn31)
        have HRL := Hd.mk (ropsL_len (n : Int) ⟨by omega, by omega⟩)
        rw [Int.toNat_natCast] at HRL
        have HIn := Hd.mk (Blk.new w1 23 [.int .i64 n, .int .i64 0, .int .i64 0, .int .i64 0, .int .i64 0])
        have HB2 := Hd.mk (HB1.out.alloc (.cells #[.int .i64 n, .int .i64 0, .int .i64 0, .int .i64 0, .int .i64 0] 23))
        have K2 := Hd.mk (K1.out.alloc K1.out.size (.cells #[.int .i64 n, .int .i64 0, .int .i64 0, .int .i64 0, .int .i64 0] 23))
        have hIg : w.heap.size ≤ w1.heap.size ∧ R < w1.heap.size := ⟨K1.out.size, HB1.out.lt⟩
        have NF := Hd.mk (And.intro hn1 hn31)
        have HIG := Hd.mk hIg
        clear hf HB1 K1 hn1 hn31 hIg
        go_upto_if 40 with (fail)
        obtain ⟨I, hI⟩ : ∃ I, w1.heap.size = I := ⟨_, rfl⟩
        obtain ⟨w2, hw2⟩ : ∃ X, w1.alloc (.cells #[.int .i64 n, .int .i64 0, .int .i64 0, .int .i64 0, .int .i64 0] 23) = X := ⟨_, rfl⟩
        have hw2' : w1.alloc (.cells [.int .i64 n, .int .i64 0, .int .i64 0, .int .i64 0, .int .i64 0].toArray 23) = w2 := hw2
        rw [hw2', hI] at HIn
        rw [hw2] at HB2 K2 ⊢
        rw [hI] at HIG ⊢
        have HIg := HIG
        clear hw2' HIG hw2 hI
        have c0 := HIn.out.at (j := 0) rfl
        go_wp2_with fail
        refine (HOP.out _).mono ?_
        rintro e w3 ⟨⟨vO, rfl, hO⟩, k3⟩
        have HO3 := Hd.mk hO
        have HI2s : Hd (I < w2.heap.size) := ⟨HIn.out.lt⟩
        obtain ⟨B2, hB2⟩ : ∃ B, w2.heap.size = B := ⟨_, rfl⟩
        rw [hB2] at HO3 HI2s
        have HI3 := Hd.mk (HIn.out.below k3 HIn.out.lt)
        have HB3 := Hd.mk (HB2.out.below k3 HB2.out.lt)
        have K3 := Hd.mk (Below.chain K2.out k3)
        have HOw : Hd (Below w3.heap.size w3 w3) := ⟨Below.refl _ _⟩
        have hsl : ∃ p d, vO = .slice p (ropsL n).length d := by
          rcases HO3.out.is with ⟨e0, rfl⟩ | ⟨_, g, cap, rfl, _⟩
          · rw [e0]; exact ⟨none, 0, rfl⟩
          · exact ⟨_, cap, rfl⟩
        obtain ⟨pO, dO, rfl⟩ := hsl
        obtain ⟨LO, hLO⟩ : ∃ L, (ropsL n).length = L := ⟨_, rfl⟩
        rw [hLO] at HO3 HRL
        rw [hLO]
        have HLO := Hd.mk hLO
        have HSj := HSK.out j g4
        obtain ⟨s1, s2⟩ := HSL.out j (by rw [HLL.out]; exact g4)
        rw [HLL.out] at s2
        obtain ⟨ks, hks⟩ : ∃ ks, (ropsL n).map Int.toNat = ks := ⟨_, rfl⟩
        rw [hks] at HPL HKS
        have HKL : Hd (ks.length = LO) := ⟨by rw [← hks, List.length_map, hLO]⟩
        obtain ⟨p1, hp1⟩ : ∃ p, skipL l j = p := ⟨_, rfl⟩
        rw [hp1] at HPL HSj s1 s2
        have HP0 : Hd (refO (ks.drop 0) (l.drop p1) ⟨0, 0, 0, 0⟩ = refO ks (l.drop p1) ⟨0, 0, 0, 0⟩) := ⟨by rw [List.drop_zero]⟩
        have HRl : Hd (LO ≤ 1000) := ⟨HRL.out⟩
        clear k3 hO hB2 HIn HB2 K2 c0 hne hLO hks hp1 HOP HRL
        go_wp2_with fail
        refine (HSj.out _).mono ?_
        rintro e wx ⟨rfl, rfl⟩
        go_wp2
        clear HSj
        have hLO1000 := HRl.out
        go_loopw [4, 8] (fun at8 i wr => ∃ (q k : Nat) (v : Ops4), q ≤ s.size ∧ k ≤ LO ∧ at8 = .int .i64 q ∧ i = .int .i64 k ∧ Hd (refO ks (l.drop p1) ⟨0, 0, 0, 0⟩ = refO (ks.drop k) (l.drop q) v) ∧ Hd (Blk wr I 23 [.int .i64 n, .int .i64 v.a, .int .i64 v.b, .int .i64 v.c, .int .i64 v.m]) ∧ Hd (Blk wr R 23 [.int .i64 0, .int .i64 0, .int .i64 0, .int .i64 0, .int .i64 0]) ∧ Hd (Below w.heap.size w wr ∧ OpsN B2 wr (.slice pO LO dO) (ropsL n))) (fun _ i _ => LO - (intOf i).toNat)
        case atStart => exact ⟨p1, 0, ⟨0, 0, 0, 0⟩, s2, Nat.zero_le _, rfl, rfl, ⟨HP0.out.symm⟩, HI3, HB3, ⟨K3.out, HO3.out⟩⟩
        case round =>
          obtain ⟨q, k, v, hq, hk, rfl, rfl, HP, HI, HB, HK⟩ := hrel
          obtain ⟨va, vb, vc, vm⟩ := v
          dsimp only at HI
          clear HI3 HB3 HO3 K3 HP0 HOw
          by_cases hlt : k < LO
          · have hd1 : decide ((k : Int) < (LO : Int)) = true := by simp; omega
            have hkl : k < (ropsL n).length := by rw [HLO.out]; exact hlt
            have hkk : k < ks.length := by rw [HKL.out]; exact hlt
            obtain ⟨kd, hkd, kd1, kd4, hkd2⟩ := HKS.out k hkl
            have hkd3 : ks[k] = kd := by rw [List.getElem?_eq_getElem hkk] at hkd2; injection hkd2
            obtain ⟨g, e1, hgB, hgs, hc⟩ : ∃ g, pO = some ⟨g, 0, none⟩ ∧ B2 ≤ g ∧ g < wr.heap.size ∧ wr.cell? ⟨g, k, none⟩ = some (.int .i64 (kd : Nat)) := by
              rcases HK.out.2.is with ⟨e0, _⟩ | ⟨_, g, cap, e, hB, hg, hc⟩
              · rw [e0] at hkl; simp at hkl
              · injection e with e1 _ _
                exact ⟨g, e1, hB, hg, by rw [hc k _ (List.getElem?_eq_getElem hkl), hkd]⟩
            subst e1
            have HOc := HOPs.out q kd hq ⟨kd1, kd4⟩
            have hst := refO_step (ks := ks) (r := l.drop q) (v := ⟨va, vb, vc, vm⟩) hkk
            rw [hkd3] at hst
            have HST : Hd (refO ks (l.drop p1) ⟨0, 0, 0, 0⟩ = match operR (l.drop q) kd with
              | none => none
              | some (n, c) => if k + 1 = LO then refO [] (((l.drop q).drop c).dropWhile bk) (Ops4.set ⟨va, vb, vc, vm⟩ (kindC kd) n)
                else (if headB (((l.drop q).drop c).dropWhile bk) 44 then refO (ks.drop (k + 1)) ((((l.drop q).drop c).dropWhile bk).tail.dropWhile bk) (Ops4.set ⟨va, vb, vc, vm⟩ (kindC kd) n) else none)) := ⟨by rw [HP.out, hst, HKL.out]⟩
            have HKD := Hd.mk (And.intro kd1 kd4)
            have i0 : (0 : Int) ≤ (k : Int) := by omega
            have i1 : (k : Int) < (LO : Int) := by omega
            have HCk := Hd.mk hc
            have HGI : Hd (g ≠ I ∧ g < wr.heap.size) := ⟨by have := HI2s.out; omega, hgs⟩
            clear hst HP hkd hkd2 hkd3 hkl hkk kd1 kd4 hgB hgs
            cases hop : operR (l.drop q) kd with
            | none =>
              rw [hop] at HOc HST
              have HX : Hd (parseL s.data.toList = parseE) := ⟨by rw [HPL.out, HST.out]⟩
              have HOc' : Hd (∀ w, Calls Tryz.prog 37 #[.string s, .int .i64 (q : Nat), .int .i64 (kd : Nat)] w fun e w' => e = .returned (.tuple #[.int .i64 0, .int .i64 (-1)]) ∧ w = w') := ⟨HOc.out⟩
              clear HOc HST hop HCk
              go_wp2_with fail
              refine (HOc'.out _).mono ?_
              rintro e wy ⟨rfl, rfl⟩
              have a0 := HB.out.at (j := 0) rfl
              have a1 := HB.out.at (j := 1) rfl
              have a2 := HB.out.at (j := 2) rfl
              have a3 := HB.out.at (j := 3) rfl
              have a4 := HB.out.at (j := 4) rfl
              have z0 := HB.out.free 0
              have z1 := HB.out.free 1
              have z2 := HB.out.free 2
              have z3 := HB.out.free 3
              have z4 := HB.out.free 4
              clear hc
              go_wp2
              (try simp only [Exit.inBlock, Exit.then])
              refine bodyPost_ret (v := .tuple #[.agg #[.int .i64 0, .int .i64 0, .int .i64 0, .int .i64 0, .int .i64 0], .int .i64 2]) ?_ ?_ ⟨?_, ?_⟩
              · simp [results, Tryz.results14, go_sem, a0, a1, a2, a3, a4]
              · rfl
              · rw [HX.out]; rfl
              · exact (((((HK.out.1.setCell (HRg.out) _).setCell (HRg.out) _).setCell (HRg.out) _).setCell (HRg.out) _).setCell (HRg.out) _)
            | some nc =>
              obtain ⟨z, c⟩ := nc
              rw [hop] at HOc HST
              obtain ⟨_, oc2, oc3, _⟩ := operR_some HKD.out hop
              rw [List.length_drop, HLL.out] at oc2
              have hqc : q + c ≤ s.size := by omega
              have HOc' : Hd (∀ w, Calls Tryz.prog 37 #[.string s, .int .i64 (q : Nat), .int .i64 (kd : Nat)] w fun e w' => e = .returned (.tuple #[.int .i64 z, .int .i64 ((q + c : Nat) : Int)]) ∧ w = w') := ⟨HOc.out⟩
              have HSq := HSK.out (q + c) hqc
              obtain ⟨t1, t2⟩ := HSL.out (q + c) (by rw [HLL.out]; exact hqc)
              rw [HLL.out] at t2
              have hdr : ((l.drop q).drop c).dropWhile bk = l.drop (skipL l (q + c)) := by rw [skip_drop, List.drop_drop]
              have HST2 : Hd (refO ks (l.drop p1) ⟨0, 0, 0, 0⟩ = if k + 1 = LO then refO [] (l.drop (skipL l (q + c))) (Ops4.set ⟨va, vb, vc, vm⟩ (kindC kd) z)
                else (if headB (l.drop (skipL l (q + c))) 44 then refO (ks.drop (k + 1)) ((l.drop (skipL l (q + c) + 1)).dropWhile bk) (Ops4.set ⟨va, vb, vc, vm⟩ (kindC kd) z) else none)) := ⟨by
                  rw [HST.out]
                  dsimp only
                  rw [hdr, drop_tail]⟩
              have HSet := Hd.mk (fun w => rset_any (n : Int) ⟨va, vb, vc, vm⟩ kd z w HKD.out)
              dsimp only at HSet
              obtain ⟨y, hy⟩ : ∃ y, Ops4.set ⟨va, vb, vc, vm⟩ (kindC kd) z = y := ⟨_, rfl⟩
              rw [hy] at HST2 HSet
              obtain ⟨ya, yb, yc, ym⟩ := y
              have hval : (Value.agg (insV (n : Int) ⟨ya, yb, yc, ym⟩).toArray) = .agg #[.int .i64 n, .int .i64 ya, .int .i64 yb, .int .i64 yc, .int .i64 ym] := rfl
              rw [hval] at HSet
              obtain ⟨q2, hq2⟩ : ∃ q2, skipL l (q + c) = q2 := ⟨_, rfl⟩
              rw [hq2] at HST2 HSq t1 t2
              have hx0 : decide (((q + c : Nat) : Int) < 0) = false := by simp; omega
              obtain ⟨qc, hqce⟩ : ∃ x, q + c = x := ⟨_, rfl⟩
              rw [hqce] at HOc' HSq hx0
              clear HOc HST hop hdr hy hval hq2 hqce oc2 oc3 hqc
              go_wp2_with fail
              refine (HOc'.out _).mono ?_
              rintro e wy ⟨rfl, rfl⟩
              clear hc HOc'
              go_wp2_with fail
              refine wp_region_lin default (fun w' => w'.cell? ⟨g, k, none⟩ = some (.int .i64 (kd : Nat))) [(1, true), (2, true), (3, true), (4, true), (5, true), (0, false), (6, false), (7, false)] (by kernel_rfl) (by kernel_rfl) rfl (by kernel_rfl) (by kernel_rfl) HCk.out ?_
              simp only [pick, List.getD_cons_zero, List.getD_cons_succ]
              repeat
                refine lin_free (v := ?_) (by rfl) ?_ ?_
                rotate_left
                · intro w' hSw
                  go_simp
                  first | done | with_reducible rfl
                simp only [Act.put, List.setIfInBounds_toArray, List.set_cons_zero, List.set_cons_succ]
              have HI1 := Hd.mk HI.out.drew
              have c0 := HI1.out.at (j := 0) rfl
              have c1 := HI1.out.at (j := 1) rfl
              have c2 := HI1.out.at (j := 2) rfl
              have c3 := HI1.out.at (j := 3) rfl
              have c4 := HI1.out.at (j := 4) rfl
              refine lin_bound (fun K hK => ?_)
              go_simp
              refine hK.out _ _ HCk.out ?_
              clear hK K c0 c1 c2 c3 c4
              refine lin_bound (fun K hK => ?_)
              go_simp
              refine (HSet.out _).mono ?_
              rintro e w5 ⟨rfl, k5⟩
              dsimp only
              have hS5 : w5.cell? ⟨g, k, none⟩ = some (.int .i64 (kd : Nat)) := by rw [k5.cell (p := ⟨g, k, none⟩) HGI.out.2]; exact HCk.out
              have HS5 := Hd.mk hS5
              have HI5 := Hd.mk (HI1.out.below k5 HI1.out.lt)
              have HB5 := Hd.mk (HB.out.drew.below k5 HB.out.lt)
              have HK5 : Hd (Below w.heap.size w w5 ∧ OpsN B2 w5 (.slice (some ⟨g, 0, none⟩) LO dO) (ropsL n)) := ⟨Below.chain HK.out.1.drew k5, (HK.out.2.below (Below.refl _ _).drew).below k5⟩
              refine hK.out _ _ hS5 ?_
              clear hK K k5 hS5 HI1 HI HB HK HCk
              have c0 := HI5.out.at (j := 0) rfl
              have c1 := HI5.out.at (j := 1) rfl
              have c2 := HI5.out.at (j := 2) rfl
              have c3 := HI5.out.at (j := 3) rfl
              have c4 := HI5.out.at (j := 4) rfl
              have f0 := HI5.out.free 0
              have f1 := HI5.out.free 1
              have f2 := HI5.out.free 2
              have f3 := HI5.out.free 3
              have f4 := HI5.out.free 4
              have hIB := HI2s.out
              have HI6 : Hd (Blk (((((w5.setCell ⟨I, 0, none⟩ (.int .i64 n)).setCell ⟨I, 1, none⟩ (.int .i64 ya)).setCell ⟨I, 2, none⟩ (.int .i64 yb)).setCell ⟨I, 3, none⟩ (.int .i64 yc)).setCell ⟨I, 4, none⟩ (.int .i64 ym)) I 23 [.int .i64 n, .int .i64 ya, .int .i64 yb, .int .i64 yc, .int .i64 ym]) := ⟨((((HI5.out.set 0 _).set 1 _).set 2 _).set 3 _).set 4 _⟩
              have HB6 : Hd (Blk (((((w5.setCell ⟨I, 0, none⟩ (.int .i64 n)).setCell ⟨I, 1, none⟩ (.int .i64 ya)).setCell ⟨I, 2, none⟩ (.int .i64 yb)).setCell ⟨I, 3, none⟩ (.int .i64 yc)).setCell ⟨I, 4, none⟩ (.int .i64 ym)) R 23 [.int .i64 0, .int .i64 0, .int .i64 0, .int .i64 0, .int .i64 0]) := ⟨((((HB5.out.other (by show I ≠ R; have := HIg.out.2; omega) _).other (by show I ≠ R; have := HIg.out.2; omega) _).other (by show I ≠ R; have := HIg.out.2; omega) _).other (by show I ≠ R; have := HIg.out.2; omega) _).other (by show I ≠ R; have := HIg.out.2; omega) _⟩
              have HK6 : Hd (Below w.heap.size w (((((w5.setCell ⟨I, 0, none⟩ (.int .i64 n)).setCell ⟨I, 1, none⟩ (.int .i64 ya)).setCell ⟨I, 2, none⟩ (.int .i64 yb)).setCell ⟨I, 3, none⟩ (.int .i64 yc)).setCell ⟨I, 4, none⟩ (.int .i64 ym)) ∧ OpsN B2 (((((w5.setCell ⟨I, 0, none⟩ (.int .i64 n)).setCell ⟨I, 1, none⟩ (.int .i64 ya)).setCell ⟨I, 2, none⟩ (.int .i64 yb)).setCell ⟨I, 3, none⟩ (.int .i64 yc)).setCell ⟨I, 4, none⟩ (.int .i64 ym)) (.slice (some ⟨g, 0, none⟩) LO dO) (ropsL n)) :=
                ⟨(((((HK5.out.1.setCell HIg.out.1 _).setCell HIg.out.1 _).setCell HIg.out.1 _).setCell HIg.out.1 _).setCell HIg.out.1 _), ((((HK5.out.2.set hIB _).set hIB _).set hIB _).set hIB _).set hIB _⟩
              obtain ⟨w6, hw6⟩ : ∃ X, ((((w5.setCell ⟨I, 0, none⟩ (.int .i64 n)).setCell ⟨I, 1, none⟩ (.int .i64 ya)).setCell ⟨I, 2, none⟩ (.int .i64 yb)).setCell ⟨I, 3, none⟩ (.int .i64 yc)).setCell ⟨I, 4, none⟩ (.int .i64 ym) = X := ⟨_, rfl⟩
              rw [hw6] at HI6 HB6 HK6
              have hS6 : w6.cell? ⟨g, k, none⟩ = some (.int .i64 (kd : Nat)) := by
                rw [← hw6]
                have hgI := HGI.out.1
                have := HS5.out
                simp [go_sem, this]
              refine lin_bound (fun K hK => ?_)
              go_simp
              refine hK.out _ _ hS6 ?_
              clear hK K hS6 c0 c1 c2 c3 c4 f0 f1 f2 f3 f4 hw6 HI5 HB5 HK5 HS5 hIB
              refine NoPanic.normal ?_
              go_wp2_with fail
              refine (HSq.out _).mono ?_
              rintro e wz ⟨rfl, rfl⟩
              by_cases hlast : k + 1 = LO
              · have hd2 : decide ((k : Int) < (LO : Int) - 1) = false := by simp; omega
                have wl : IntKind.i64.wrap ((LO : Int) - 1) = (LO : Int) - 1 := IntWalk.i64_in _ (by omega)
                have HP2 : Hd (refO ks (l.drop p1) ⟨0, 0, 0, 0⟩ = refO (ks.drop (k + 1)) (l.drop q2) ⟨ya, yb, yc, ym⟩) := ⟨by
                  have e9 : ks.drop (k + 1) = [] := List.drop_eq_nil_of_le (by rw [HKL.out]; omega)
                  rw [HST2.out, if_pos hlast, e9]⟩
                clear HST2 hlast
                go_wp2
                go_roundw
                case rel => exact ⟨q2, k + 1, ⟨ya, yb, yc, ym⟩, t2, by omega, rfl, by go_num, HP2, HI6, HB6, HK6⟩
                case measure => simp [intOf]; omega
              · have hd2 : decide ((k : Int) < (LO : Int) - 1) = true := by simp; omega
                have wl : IntKind.i64.wrap ((LO : Int) - 1) = (LO : Int) - 1 := IntWalk.i64_in _ (by omega)
                have hstop : (¬ q2 < s.size ∧ headB (l.drop q2) 44 = false) ∨ ∃ (hlt2 : q2 < s.size) (ch : UInt8), s[q2]'hlt2 = ch ∧ ((((ch.toNat : Int) != 44) = true ∧ headB (l.drop q2) 44 = false) ∨ (((ch.toNat : Int) != 44) = false ∧ headB (l.drop q2) 44 = true)) := by
                  by_cases hq2 : q2 < s.size
                  · refine .inr ⟨hq2, _, rfl, ?_⟩
                    have hh := drop_head (l := l) (k := q2) (by rw [HLL.out]; exact hq2) 44
                    have hsl : s[q2]'hq2 = l[q2]'(by rw [HLL.out]; exact hq2) := by have := HL.out; subst this; rfl
                    rw [hsl]
                    by_cases e : l[q2]'(by rw [HLL.out]; exact hq2) = 44
                    · have := u8_eq (z := 44) (d := 44) rfl e
                      exact .inr ⟨by simp only [bne, this]; rfl, by rw [hh]; exact decide_eq_true e⟩
                    · have := u8_ne (z := 44) (d := 44) rfl e
                      exact .inl ⟨by simp only [bne, this]; rfl, by rw [hh]; exact decide_eq_false e⟩
                  · exact .inl ⟨hq2, by rw [List.drop_eq_nil_of_le (by rw [HLL.out]; omega), headB_nil]⟩
                rw [if_neg hlast] at HST2
                have HSP := Hd.mk hstop
                clear hstop hlast
                rcases HSP.out with ⟨hq2, hh⟩ | ⟨hq2, ch2, hch2, ⟨b1, hh⟩ | ⟨b1, hh⟩⟩
                · have hd3 : decide ((s.size : Int) ≤ (q2 : Int)) = true := by simp; omega
                  have HX : Hd (parseL s.data.toList = parseE) := ⟨by rw [HPL.out, HST2.out, hh, if_neg (by decide)]⟩
                  have a0 := HB6.out.at (j := 0) rfl
                  have a1 := HB6.out.at (j := 1) rfl
                  have a2 := HB6.out.at (j := 2) rfl
                  have a3 := HB6.out.at (j := 3) rfl
                  have a4 := HB6.out.at (j := 4) rfl
                  have z0 := HB6.out.free 0
                  have z1 := HB6.out.free 1
                  have z2 := HB6.out.free 2
                  have z3 := HB6.out.free 3
                  have z4 := HB6.out.free 4
                  clear HSP HST2 hh
                  go_wp2
                  (try simp only [Exit.inBlock, Exit.then])
                  refine bodyPost_ret (v := .tuple #[.agg #[.int .i64 0, .int .i64 0, .int .i64 0, .int .i64 0, .int .i64 0], .int .i64 2]) ?_ ?_ ⟨?_, ?_⟩
                  · simp [results, Tryz.results14, go_sem, a0, a1, a2, a3, a4]
                  · rfl
                  · rw [HX.out]; rfl
                  · exact (((((HK6.out.1.setCell (HRg.out) _).setCell (HRg.out) _).setCell (HRg.out) _).setCell (HRg.out) _).setCell (HRg.out) _)
                · have hd3 : decide ((s.size : Int) ≤ (q2 : Int)) = false := by simp; omega
                  have j0 : (0 : Int) ≤ (q2 : Int) := by omega
                  have j1 : (q2 : Int) < (s.size : Int) := by omega
                  have HX : Hd (parseL s.data.toList = parseE) := ⟨by rw [HPL.out, HST2.out, hh, if_neg (by decide)]⟩
                  have a0 := HB6.out.at (j := 0) rfl
                  have a1 := HB6.out.at (j := 1) rfl
                  have a2 := HB6.out.at (j := 2) rfl
                  have a3 := HB6.out.at (j := 3) rfl
                  have a4 := HB6.out.at (j := 4) rfl
                  have z0 := HB6.out.free 0
                  have z1 := HB6.out.free 1
                  have z2 := HB6.out.free 2
                  have z3 := HB6.out.free 3
                  have z4 := HB6.out.free 4
                  clear HSP HST2 hh
                  go_wp2
                  (try simp only [Exit.inBlock, Exit.then])
                  refine bodyPost_ret (v := .tuple #[.agg #[.int .i64 0, .int .i64 0, .int .i64 0, .int .i64 0, .int .i64 0], .int .i64 2]) ?_ ?_ ⟨?_, ?_⟩
                  · simp [results, Tryz.results14, go_sem, a0, a1, a2, a3, a4]
                  · rfl
                  · rw [HX.out]; rfl
                  · exact (((((HK6.out.1.setCell (HRg.out) _).setCell (HRg.out) _).setCell (HRg.out) _).setCell (HRg.out) _).setCell (HRg.out) _)
                · have hd3 : decide ((s.size : Int) ≤ (q2 : Int)) = false := by simp; omega
                  have j0 : (0 : Int) ≤ (q2 : Int) := by omega
                  have j1 : (q2 : Int) < (s.size : Int) := by omega
                  have HSq2 := HSK.out (q2 + 1) (by omega)
                  obtain ⟨_, t4⟩ := HSL.out (q2 + 1) (by rw [HLL.out]; omega)
                  rw [HLL.out] at t4
                  have wq : IntKind.i64.wrap ((q2 : Int) + 1) = ((q2 + 1 : Nat) : Int) := by rw [IntWalk.i64_in _ (by omega)]; omega
                  have HP2 : Hd (refO ks (l.drop p1) ⟨0, 0, 0, 0⟩ = refO (ks.drop (k + 1)) (l.drop (skipL l (q2 + 1))) ⟨ya, yb, yc, ym⟩) := ⟨by
                    rw [HST2.out, hh, if_pos rfl, skip_drop]⟩
                  obtain ⟨q3, hq3⟩ : ∃ q3, skipL l (q2 + 1) = q3 := ⟨_, rfl⟩
                  rw [hq3] at HP2 HSq2 t4
                  obtain ⟨q21, hq21⟩ : ∃ x, q2 + 1 = x := ⟨_, rfl⟩
                  rw [hq21] at wq HSq2
                  clear HSP HST2 hh hq3 hq21
                  go_wp2_with fail
                  refine (HSq2.out _).mono ?_
                  rintro e wv ⟨rfl, rfl⟩
                  go_wp2
                  go_roundw
                  case rel => exact ⟨q3, k + 1, ⟨ya, yb, yc, ym⟩, t4, by omega, rfl, by go_num, HP2, HI6, HB6, HK6⟩
                  case measure => simp [intOf]; omega
          · have hd1 : decide ((k : Int) < (LO : Int)) = false := by simp; omega
            have HE : Hd (refO ks (l.drop p1) ⟨0, 0, 0, 0⟩ = if l.drop q = [] then some ⟨va, vb, vc, vm⟩ else none) := ⟨by
              rw [HP.out, List.drop_eq_nil_of_le (by rw [HKL.out]; omega), refO]⟩
            have a0 := HB.out.at (j := 0) rfl
            have a1 := HB.out.at (j := 1) rfl
            have a2 := HB.out.at (j := 2) rfl
            have a3 := HB.out.at (j := 3) rfl
            have a4 := HB.out.at (j := 4) rfl
            have z0 := HB.out.free 0
            have z1 := HB.out.free 1
            have z2 := HB.out.free 2
            have z3 := HB.out.free 3
            have z4 := HB.out.free 4
            by_cases hqe : q = s.size
            · have hne : ((q : Int) != (s.size : Int)) = false := by simp; omega
              have HE2 : Hd (parseL s.data.toList = if rightB n va vb vc vm then (0, (n : Int), ⟨va, vb, vc, vm⟩) else (6, 0, ⟨0, 0, 0, 0⟩)) := ⟨by
                rw [HPL.out, HE.out, if_pos (List.drop_eq_nil_of_le (by rw [HLL.out]; omega))]⟩
              have HRi := Hd.mk (rright_any (n : Int) va vb vc vm wr)
              obtain ⟨b, hb⟩ : ∃ b, rightB n va vb vc vm = b := ⟨_, rfl⟩
              rw [hb] at HE2 HRi
              have c0 := HI.out.at (j := 0) rfl
              have c1 := HI.out.at (j := 1) rfl
              have c2 := HI.out.at (j := 2) rfl
              have c3 := HI.out.at (j := 3) rfl
              have c4 := HI.out.at (j := 4) rfl
              clear HP HE hb hqe
              go_wp2_with fail
              refine HRi.out.mono ?_
              rintro e w7 ⟨rfl, k7⟩
              have HI7 := Hd.mk (HI.out.below k7 HI.out.lt)
              have HB7 := Hd.mk (HB.out.below k7 HB.out.lt)
              have K7 := Hd.mk (Below.chain HK.out.1 k7)
              clear k7 c0 c1 c2 c3 c4 HI HB HRi a0 a1 a2 a3 a4 z0 z1 z2 z3 z4
              have c0 := HI7.out.at (j := 0) rfl
              have c1 := HI7.out.at (j := 1) rfl
              have c2 := HI7.out.at (j := 2) rfl
              have c3 := HI7.out.at (j := 3) rfl
              have c4 := HI7.out.at (j := 4) rfl
              have a0 := HB7.out.at (j := 0) rfl
              have a1 := HB7.out.at (j := 1) rfl
              have a2 := HB7.out.at (j := 2) rfl
              have a3 := HB7.out.at (j := 3) rfl
              have a4 := HB7.out.at (j := 4) rfl
              have z0 := HB7.out.free 0
              have z1 := HB7.out.free 1
              have z2 := HB7.out.free 2
              have z3 := HB7.out.free 3
              have z4 := HB7.out.free 4
              rcases b with _ | _
              · have HX : Hd (parseL s.data.toList = (6, 0, ⟨0, 0, 0, 0⟩)) := ⟨HE2.out⟩
                clear HE2
                go_wp2
                (try simp only [Exit.inBlock, Exit.then])
                refine bodyPost_ret (v := .tuple #[.agg #[.int .i64 0, .int .i64 0, .int .i64 0, .int .i64 0, .int .i64 0], .int .i64 6]) ?_ ?_ ⟨?_, ?_⟩
                · simp [results, Tryz.results14, go_sem, a0, a1, a2, a3, a4]
                · rfl
                · rw [HX.out]; rfl
                · exact (((((K7.out.setCell (HRg.out) _).setCell (HRg.out) _).setCell (HRg.out) _).setCell (HRg.out) _).setCell (HRg.out) _)
              · have HX : Hd (parseL s.data.toList = (0, (n : Int), ⟨va, vb, vc, vm⟩)) := ⟨HE2.out⟩
                clear HE2
                go_wp2
                (try simp only [Exit.inBlock, Exit.then])
                refine bodyPost_ret (v := .tuple #[.agg #[.int .i64 (n : Int), .int .i64 va, .int .i64 vb, .int .i64 vc, .int .i64 vm], .int .i64 0]) ?_ ?_ ⟨?_, ?_⟩
                · simp [results, Tryz.results14, go_sem, a0, a1, a2, a3, a4]
                · rfl
                · rw [HX.out]; rfl
                · exact (((((K7.out.setCell (HRg.out) _).setCell (HRg.out) _).setCell (HRg.out) _).setCell (HRg.out) _).setCell (HRg.out) _)
            · have hne : ((q : Int) != (s.size : Int)) = true := by simp only [bne_iff_ne, ne_eq]; omega
              have HX : Hd (parseL s.data.toList = parseE) := ⟨by
                rw [HPL.out, HE.out, if_neg]
                intro e
                have := congrArg List.length e
                rw [List.length_drop, HLL.out] at this
                simp at this
                omega⟩
              clear HP HE hqe
              go_wp2
              (try simp only [Exit.inBlock, Exit.then])
              refine bodyPost_ret (v := .tuple #[.agg #[.int .i64 0, .int .i64 0, .int .i64 0, .int .i64 0, .int .i64 0], .int .i64 2]) ?_ ?_ ⟨?_, ?_⟩
              · simp [results, Tryz.results14, go_sem, a0, a1, a2, a3, a4]
              · rfl
              · rw [HX.out]; rfl
              · exact (((((HK.out.1.setCell (HRg.out) _).setCell (HRg.out) _).setCell (HRg.out) _).setCell (HRg.out) _).setCell (HRg.out) _)

end Go.Proofs.YtlohhlbbkliehaaGreatDoor.W
