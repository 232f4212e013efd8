/-
  The walks of the reference's Operands, Has, Get, Right (isa).
-/
import Derived.Test.YtlohhlbbkliehaaGreatDoorRight
import Derived.BigQuiet
import Derived.Deep.QuietTactic
import Derived.Outline
namespace Go.Proofs.YtlohhlbbkliehaaGreatDoor.W
open Go.RowKit
set_option linter.unusedVariables false

/-- a row of ints in memory, or nil -/
structure OpsAt (W : World) (v : Value) (l : List Int) : Prop where
  is : (l = [] ∧ v = .slice none 0 0) ∨ (0 < l.length ∧ ∃ g o cap, v = .slice (some ⟨g, o, none⟩) l.length cap ∧ g < W.heap.size ∧ ∀ j z, l[j]? = some z → W.cell? ⟨g, o + j, none⟩ = some (.int .i64 z))
theorem OpsAt.below {W w : World} {v : Value} {l : List Int} (h : OpsAt W v l) (hb : Below W.heap.size W w) : OpsAt w v l := by
  rcases h.is with h0 | ⟨h0, g, o, cap, e, hg, hc⟩
  · exact ⟨.inl h0⟩
  · exact ⟨.inr ⟨h0, g, o, cap, e, Nat.lt_of_lt_of_le hg hb.size, fun j z hj => by rw [hb.cell (p := ⟨g, o + j, none⟩) hg]; exact hc j z hj⟩⟩

def ropT : List (List Int) := [[], [], [], [1, 4], [1, 4], [1, 2], [1, 2, 3], [1, 2, 3], [1, 2, 3], [1, 2, 3], [1, 2, 3], [1, 2, 3], [1, 2, 3], [1, 2, 4], [1, 4], [1, 2, 4], [1, 2, 4], [1, 2, 4], [1, 2, 4], [4], [1, 4], [1, 4], [4], [1], [4], [4], [], [1], [1], [1, 2], [4]]
def ropsL (op : Nat) : List Int := ropT.getD op []

theorem ops_new (w : World) (T : TypeId) (l : List Int) (h : 0 < l.length) (cap : Nat) : OpsAt (w.alloc (.cells (l.map fun z => Value.int .i64 z).toArray T)) (.slice (some ⟨w.heap.size, 0, none⟩) l.length cap) l :=
  ⟨.inr ⟨h, _, 0, cap, rfl, by simp, fun j z hj => by rw [Nat.zero_add]; exact (Blk.new w T _).at (by rw [List.getElem?_map, hj]; rfl)⟩⟩

theorem op30 {op : Int} (h : 1 ≤ op ∧ op ≤ 30) : op = 1 ∨ op = 2 ∨ op = 3 ∨ op = 4 ∨ op = 5 ∨ op = 6 ∨ op = 7 ∨ op = 8 ∨ op = 9 ∨ op = 10 ∨ op = 11 ∨ op = 12 ∨ op = 13 ∨ op = 14 ∨ op = 15 ∨ op = 16 ∨ op = 17 ∨ op = 18 ∨ op = 19 ∨ op = 20 ∨ op = 21 ∨ op = 22 ∨ op = 23 ∨ op = 24 ∨ op = 25 ∨ op = 26 ∨ op = 27 ∨ op = 28 ∨ op = 29 ∨ op = 30 := by omega

set_option maxHeartbeats 4000000 in
theorem roperands_any (op : Int) (w : World) (h : 1 ≤ op ∧ op ≤ 30) : Calls Tryz.prog 23 #[.int .i64 op] w fun e w' => (∃ v, e = .returned v ∧ OpsAt w' v (ropsL op.toNat)) ∧ Below w.heap.size w w' := by
  rcases op30 h with rfl | rfl | rfl | rfl | rfl | rfl | rfl | rfl | rfl | rfl | rfl | rfl | rfl | rfl | rfl | rfl | rfl | rfl | rfl | rfl | rfl | rfl | rfl | rfl | rfl | rfl | rfl | rfl | rfl | rfl
  all_goals (
    clear h
    go_enter Tryz.func23, Tryz.ntmps23
    go_wp2
    go_ret
    refine ⟨⟨_, rfl, ?_⟩, by go_grown⟩
    first
    | exact ⟨.inl ⟨rfl, rfl⟩⟩
    | exact ops_new w _ [1, 4] (by decide) _
    | exact ops_new w _ [1, 2] (by decide) _
    | exact ops_new w _ [1, 2, 3] (by decide) _
    | exact ops_new w _ [1, 2, 4] (by decide) _
    | exact ops_new w _ [4] (by decide) _
    | exact ops_new w _ [1] (by decide) _)

theorem rhas_any (w : World) (v : Value) (l : List Int) (x : Int) (hl : l.length ≤ 1000) (h : OpsAt w v l) : Calls Tryz.prog 24 #[v, .int .i64 x] w fun e w' => e = .returned (.bool (decide (x ∈ l))) ∧ w = w' := by
  obtain ⟨p, c, rfl⟩ : ∃ p c, v = .slice p l.length c := by
    rcases h.is with ⟨rfl, rfl⟩ | ⟨_, g, o, cap, rfl, _⟩
    · exact ⟨none, 0, rfl⟩
    · exact ⟨_, cap, rfl⟩
  have H := Hd.mk h
  clear h
  obtain ⟨n, hn⟩ : ∃ n, l.length = n := ⟨_, rfl⟩
  rw [hn] at H hl
  rw [hn]
  have HN := Hd.mk hn
  clear hn
  go_enter Tryz.func24, Tryz.ntmps24
  go_wp2
  go_loop [5] (fun i => ∃ k : Nat, k ≤ n ∧ i = .int .i64 k ∧ ∀ j z, j < k → l[j]? = some z → z ≠ x) (fun i => n - (intOf i).toNat)
  case atStart => exact ⟨0, Nat.zero_le _, rfl, fun j _ hj => absurd hj (Nat.not_lt_zero _)⟩
  case round =>
    obtain ⟨k, hk, rfl, hall⟩ := hrel
    have HA := Hd.mk hall
    clear hall
    by_cases hlt : k < n
    · have hd1 : decide ((k : Int) < (n : Int)) = true := by simp; omega
      obtain ⟨z, hz⟩ : ∃ z, l[k]? = some z := ⟨l[k]'(HN.out ▸ hlt), List.getElem?_eq_getElem (HN.out ▸ hlt)⟩
      have hcell : ∃ g o, p = some ⟨g, o, none⟩ ∧ w.cell? ⟨g, o + k, none⟩ = some (.int .i64 z) := by
        rcases H.out.is with ⟨h0, _⟩ | ⟨_, g, o, cap, e, _, hc⟩
        · rw [h0] at hz; simp at hz
        · injection e with e1 _ _
          exact ⟨g, o, e1, hc k z hz⟩
      obtain ⟨g, o, rfl, hc⟩ := hcell
      have HZ := Hd.mk hz
      clear hz
      by_cases hx : z = x
      · have he : (z == x) = true := by simp [hx]
        have HX := Hd.mk hx
        clear hx
        have e : Hd (decide (x ∈ l) = true) := ⟨by simp; exact HX.out ▸ List.mem_of_getElem? HZ.out⟩
        go_wp2
        go_ret
        exact ⟨ret_b e.out.symm, rfl⟩
      · have he : (z == x) = false := by simp [hx]
        have HX := Hd.mk hx
        clear hx
        go_wp2
        go_round
        case rel => exact ⟨k + 1, hlt, by go_num, fun j y hj hy => by
          rcases Nat.lt_succ_iff_lt_or_eq.1 hj with h | rfl
          · exact HA.out j y h hy
          · rw [HZ.out] at hy; cases hy; exact HX.out⟩
        case measure => simp [intOf]; omega
    · have hd1 : decide ((k : Int) < (n : Int)) = false := by simp; omega
      obtain rfl : n = k := by omega
      clear hk
      have e : Hd (decide (x ∈ l) = false) := ⟨by
        simp only [decide_eq_false_iff_not]
        intro hm
        obtain ⟨j, hj, e⟩ := List.getElem_of_mem hm
        exact HA.out j _ (HN.out ▸ hj) (List.getElem?_eq_getElem hj) e⟩
      go_wp2
      go_ret
      exact ⟨ret_b e.out.symm, rfl⟩

/-- an operand -/
def opnd (a b c m : Int) (k : Nat) : Int := if k = 1 then a else if k = 2 then b else if k = 3 then c else m

theorem rget9_any (op a b c m : Int) (k : Nat) (w : World) (h : 1 ≤ k ∧ k ≤ 4) : Calls Tryz.prog 41 #[.agg #[.int .i64 op, .int .i64 a, .int .i64 b, .int .i64 c, .int .i64 m], .int .i64 k] w fun e w' => e = .returned (.int .i64 (opnd a b c m k)) ∧ Below w.heap.size w w' := by
  have hb := Blk.new w 23 [.int .i64 op, .int .i64 a, .int .i64 b, .int .i64 c, .int .i64 m]
  have b1 := hb.at (j := 1) rfl
  have b2 := hb.at (j := 2) rfl
  have b3 := hb.at (j := 3) rfl
  have b4 := hb.at (j := 4) rfl
  have HB := Hd.mk hb
  clear hb b1 b2 b3 b4
  rcases (by omega : k = 1 ∨ k = 2 ∨ k = 3 ∨ k = 4) with rfl | rfl | rfl | rfl
  all_goals (
    go_enter Tryz.func41, Tryz.ntmps41
    go_wp2
    go_ret
    exact ⟨rfl, by go_grown⟩)

def rokK (l : List Int) (a b c m : Int) (k : Nat) : Bool := (decide ((k : Int) ∈ l) || decide (opnd a b c m k = 0)) && (decide (4 ≤ k) || (decide (0 ≤ opnd a b c m k) && decide (opnd a b c m k ≤ 15)))

theorem f32 (m : Int) : fitsB m 32 true = (decide (-2147483648 ≤ m) && decide (m ≤ 2147483647)) := by
  rw [Bool.eq_iff_iff]; simp [fitsB]; omega

theorem used_iff {op : Int} (h : 1 ≤ op ∧ op ≤ 30) : (decide (0 ≤ usedI op.toNat 65) = decide ((1 : Int) ∈ ropsL op.toNat)) ∧ (decide (0 ≤ usedI op.toNat 66) = decide ((2 : Int) ∈ ropsL op.toNat)) ∧ (decide (0 ≤ usedI op.toNat 67) = decide ((3 : Int) ∈ ropsL op.toNat)) ∧ (decide (0 ≤ usedI op.toNat 73) = decide ((4 : Int) ∈ ropsL op.toNat)) := by
  rcases op30 h with rfl | rfl | rfl | rfl | rfl | rfl | rfl | rfl | rfl | rfl | rfl | rfl | rfl | rfl | rfl | rfl | rfl | rfl | rfl | rfl | rfl | rfl | rfl | rfl | rfl | rfl | rfl | rfl | rfl | rfl <;> decide +kernel

theorem right_rok {op a b c m : Int} (h : 1 ≤ op ∧ op ≤ 30) : rightB op a b c m = (immB op m && (rokK (ropsL op.toNat) a b c m 1 && (rokK (ropsL op.toNat) a b c m 2 && (rokK (ropsL op.toNat) a b c m 3 && rokK (ropsL op.toNat) a b c m 4)))) := by
  obtain ⟨u1, u2, u3, u4⟩ := used_iff h
  unfold rightB okF rokK
  rw [decide_eq_true h, u1, u2, u3, u4]
  simp [opnd]

theorem rok_all {op a b c m : Int} (h : 1 ≤ op ∧ op ≤ 30) (hk : ∀ j, 1 ≤ j → j < 5 → rokK (ropsL op.toNat) a b c m j = true) : rightB op a b c m = immB op m := by
  rw [right_rok h, hk 1 (by decide) (by decide), hk 2 (by decide) (by decide), hk 3 (by decide) (by decide), hk 4 (by decide) (by decide)]; simp
theorem rok_no {op a b c m : Int} (h : 1 ≤ op ∧ op ≤ 30) {k : Nat} (h1 : 1 ≤ k) (h2 : k < 5) (hk : rokK (ropsL op.toNat) a b c m k = false) : rightB op a b c m = false := by
  rw [right_rok h]
  rcases (by omega : k = 1 ∨ k = 2 ∨ k = 3 ∨ k = 4) with rfl | rfl | rfl | rfl <;> rw [hk] <;> simp

theorem ropsL_len (op : Int) (h : 1 ≤ op ∧ op ≤ 30) : (ropsL op.toNat).length ≤ 1000 := by
  rcases op30 h with rfl | rfl | rfl | rfl | rfl | rfl | rfl | rfl | rfl | rfl | rfl | rfl | rfl | rfl | rfl | rfl | rfl | rfl | rfl | rfl | rfl | rfl | rfl | rfl | rfl | rfl | rfl | rfl | rfl | rfl <;> decide

theorem rright_out (op a b c m : Int) (w : World) (h : op < 1 ∨ 30 < op) : Calls Tryz.prog 16 #[.agg #[.int .i64 op, .int .i64 a, .int .i64 b, .int .i64 c, .int .i64 m]] w fun e w' => e = .returned (.bool (rightB op a b c m)) ∧ Below w.heap.size w w' := by
  have e : Hd (rightB op a b c m = false) := ⟨by unfold rightB; rw [decide_eq_false (by omega)]; rfl⟩
  rw [e.out]
  rcases h with h | h
  · go_enter Tryz.func16, Tryz.ntmps16
    go_wp2
    go_ret
    exact ⟨rfl, by go_grown⟩
  · have h' : ¬ op < 1 := by omega
    go_enter Tryz.func16, Tryz.ntmps16
    go_wp2
    go_ret
    exact ⟨rfl, by go_grown⟩

set_option maxHeartbeats 4000000 in
set_option maxRecDepth 100000 in
theorem rright_in (op a b c m : Int) (w : World) (h : 1 ≤ op ∧ op ≤ 30) : Calls Tryz.prog 16 #[.agg #[.int .i64 op, .int .i64 a, .int .i64 b, .int .i64 c, .int .i64 m]] w fun e w' => e = .returned (.bool (rightB op a b c m)) ∧ Below w.heap.size w w' := by
  have o1 : ¬ op < 1 := by omega
  have o2 : ¬ 30 < op := by omega
  have hbl := Blk.new w 23 [.int .i64 op, .int .i64 a, .int .i64 b, .int .i64 c, .int .i64 m]
  have HB := Hd.mk hbl
  have HBB : Hd (Below w.heap.size w (w.alloc (.cells #[.int .i64 op, .int .i64 a, .int .i64 b, .int .i64 c, .int .i64 m] 23))) := ⟨(Below.refl _ _).alloc (Nat.le_refl _) _⟩
  have HOP := fun w => Hd.mk (roperands_any op w h)
  have HL := Hd.mk (ropsL_len op h)
  have HRN := fun (k : Nat) (h1 : 1 ≤ k) (h2 : k < 5) (hk : rokK (ropsL op.toNat) a b c m k = false) => rok_no h h1 h2 hk
  have HRA := Hd.mk (fun hk => @rok_all op a b c m h hk)
  have HRN := Hd.mk HRN
  obtain ⟨l, hl⟩ : ∃ l, ropsL op.toNat = l := ⟨_, rfl⟩
  rw [hl] at HOP HL HRA HRN
  obtain ⟨R, hR⟩ : ∃ R, rightB op a b c m = R := ⟨_, rfl⟩
  rw [hR] at HRA HRN ⊢
  clear hl hR hbl h
  go_enter Tryz.func16, Tryz.ntmps16
  go_wp2_with fail
  refine (HOP _).out.mono ?_
  rintro e w1 ⟨⟨v, rfl, hO⟩, k1⟩
  obtain ⟨p, cp, rfl⟩ : ∃ p c, v = .slice p l.length c := by
    rcases hO.is with ⟨rfl, rfl⟩ | ⟨_, g, o, cap, rfl, _⟩
    · exact ⟨none, 0, rfl⟩
    · exact ⟨_, cap, rfl⟩
  have HB1 := Hd.mk (HB.out.below k1 HB.out.lt)
  have HBB1 := Hd.mk (Below.chain HBB.out k1)
  have HO1 := Hd.mk hO
  clear k1 hO HB HBB HOP
  go_wp2
  go_loopw [4] (fun i wr => ∃ k : Nat, 1 ≤ k ∧ k ≤ 5 ∧ i = .int .i64 k ∧ Hd (Below w.heap.size w wr) ∧ Hd (Blk wr w.heap.size 23 [.int .i64 op, .int .i64 a, .int .i64 b, .int .i64 c, .int .i64 m]) ∧ Hd (OpsAt wr (.slice p l.length cp) l) ∧ Hd (∀ j, 1 ≤ j → j < k → rokK l a b c m j = true)) (fun i _ => 5 - (intOf i).toNat)
  case atStart => exact ⟨1, by decide, by decide, rfl, HBB1, HB1, HO1, ⟨fun j h1 h2 => by omega⟩⟩
  case round =>
    obtain ⟨k, hk1, hk5, rfl, HK, HBk, HOk, HP⟩ := hrel
    clear HBB1 HB1 HO1
    have b0 := HBk.out.at (j := 0) rfl
    have b4 := HBk.out.at (j := 4) rfl
    by_cases hlt : k < 5
    · have hd1 : decide ((k : Int) ≤ 4) = true := by simp; omega
      have b1 := HBk.out.at (j := 1) rfl
      have b2 := HBk.out.at (j := 2) rfl
      have b3 := HBk.out.at (j := 3) rfl
      have HG := Hd.mk (rget9_any op a b c m k wr (by omega))
      have HH := fun w (h : OpsAt w (.slice p l.length cp) l) => Hd.mk (rhas_any w _ l (k : Int) HL.out h)
      have HRN1 := Hd.mk (HRN.out k hk1 hlt)
      have HRk : Hd (rokK l a b c m k = ((decide ((k : Int) ∈ l) || decide (opnd a b c m k = 0)) && (decide (4 ≤ k) || (decide (0 ≤ opnd a b c m k) && decide (opnd a b c m k ≤ 15))))) := ⟨rfl⟩
      obtain ⟨y, hy⟩ : ∃ y, opnd a b c m k = y := ⟨_, rfl⟩
      obtain ⟨q, hq⟩ : ∃ q, decide ((k : Int) ∈ l) = q := ⟨_, rfl⟩
      rw [hy] at HG HRk
      rw [hq] at HH HRk
      clear hy hq
      go_wp2_with fail
      refine HG.out.mono ?_
      rintro e w2 ⟨rfl, k2⟩
      have HK2 := Hd.mk (Below.chain HK.out k2)
      have HB2 := Hd.mk (HBk.out.below k2 HBk.out.lt)
      have HO2 := Hd.mk (HOk.out.below k2)
      clear k2 HK HBk HOk b0 b1 b2 b3 b4
      go_wp2_with fail
      refine (HH _ HO2.out).out.mono ?_
      rintro e w3 ⟨rfl, rfl⟩
      have HNext : Hd (rokK l a b c m k = true → ∀ j, 1 ≤ j → j < k + 1 → rokK l a b c m j = true) := ⟨fun h j h1 h2 => by
        rcases Nat.lt_succ_iff_lt_or_eq.1 h2 with h' | rfl
        · exact HP.out j h1 h'
        · exact h⟩
      by_cases h4 : k < 4
      · have d4 : decide ((k : Int) < 4) = true := by simp; omega
        have d4' : Hd (decide (4 ≤ k) = false) := ⟨by simp; omega⟩
        by_cases z0 : y = 0
        · subst z0
          have e : Hd (rokK l a b c m k = true) := ⟨by rw [HRk.out, d4'.out]; simp⟩
          rcases q with _ | _
          all_goals (
            go_wp2
            go_roundw
            case rel => exact ⟨k + 1, by omega, by omega, by go_num, HK2, HB2, HO2, ⟨HNext.out e.out⟩⟩
            case measure => simp [intOf]; omega)
        · have z1 : (y != 0) = true := by simp [z0]
          rcases q with _ | _
          · have e : Hd (R = false) := ⟨HRN1.out (by rw [HRk.out]; simp [z0])⟩
            clear z0
            go_wp2
            go_ret
            exact ⟨ret_b e.out.symm, HK2.out⟩
          · by_cases y1 : y < 0
            · have e : Hd (R = false) := ⟨HRN1.out (by rw [HRk.out, d4'.out]; simp; omega)⟩
              clear z0
              go_wp2
              go_ret
              exact ⟨ret_b e.out.symm, HK2.out⟩
            · by_cases y2 : 15 < y
              · have e : Hd (R = false) := ⟨HRN1.out (by rw [HRk.out, d4'.out]; simp; omega)⟩
                clear z0
                go_wp2
                go_ret
                exact ⟨ret_b e.out.symm, HK2.out⟩
              · have e : Hd (rokK l a b c m k = true) := ⟨by rw [HRk.out, d4'.out]; simp; omega⟩
                clear z0
                go_wp2
                go_roundw
                case rel => exact ⟨k + 1, by omega, by omega, by go_num, HK2, HB2, HO2, ⟨HNext.out e.out⟩⟩
                case measure => simp [intOf]; omega
      · obtain rfl : k = 4 := by omega
        by_cases z0 : y = 0
        · subst z0
          have e : Hd (rokK l a b c m 4 = true) := ⟨by rw [HRk.out]; simp⟩
          rcases q with _ | _
          all_goals (
            go_wp2
            go_roundw
            case rel => exact ⟨5, by omega, by omega, rfl, HK2, HB2, HO2, ⟨HNext.out e.out⟩⟩
            case measure => simp [intOf])
        · have z1 : (y != 0) = true := by simp [z0]
          rcases q with _ | _
          · have e : Hd (R = false) := ⟨HRN1.out (by rw [HRk.out]; simp [z0])⟩
            clear z0
            go_wp2
            go_ret
            exact ⟨ret_b e.out.symm, HK2.out⟩
          · have e : Hd (rokK l a b c m 4 = true) := ⟨by rw [HRk.out]; simp⟩
            clear z0
            go_wp2
            go_roundw
            case rel => exact ⟨5, by omega, by omega, rfl, HK2, HB2, HO2, ⟨HNext.out e.out⟩⟩
            case measure => simp [intOf]
    · obtain rfl : k = 5 := by omega
      have HR := Hd.mk (HRA.out HP.out)
      clear HRA HRN HP HOk HL hlt hk1 hk5
      have hF := f32 m
      rcases (by omega : (op = 19 ∨ op = 20 ∨ op = 21 ∨ op = 24 ∨ op = 25) ∨ op = 22 ∨ op = 30 ∨ (op ≠ 19 ∧ op ≠ 20 ∧ op ≠ 21 ∧ op ≠ 24 ∧ op ≠ 25 ∧ op ≠ 22 ∧ op ≠ 30)) with h | h | h | h
      · have e : Hd (R = (decide (m % 8 = 0) && (decide (-2147483648 ≤ m) && decide (m ≤ 2147483647)))) := ⟨by rw [HR.out]; unfold immB; rw [if_pos h, hF]⟩
        clear HR hF
        rcases h with rfl | rfl | rfl | rfl | rfl
        all_goals (
          by_cases m8 : m % 8 = 0
          · have a' : (m.tmod 8 != 0) = false := by simp [tmod8, m8]
            by_cases lo : -2147483648 ≤ m
            · have lo' : decide (-2147483648 ≤ m) = true := by simp [lo]
              have eL : Hd (R = decide (m ≤ 2147483647)) := ⟨by rw [e.out, lo', decide_eq_true m8]; rfl⟩
              clear lo m8 e
              go_wp2
              go_ret
              exact ⟨ret_b (by rw [eL.out]), HK.out⟩
            · have lo' : decide (-2147483648 ≤ m) = false := by simp; omega
              have eL : Hd (R = false) := ⟨by rw [e.out, lo', decide_eq_true m8]; rfl⟩
              clear lo m8 e
              go_wp2
              go_ret
              exact ⟨ret_b (by rw [eL.out]), HK.out⟩
          · have a' : (m.tmod 8 != 0) = true := by simp [tmod8, m8]
            have eL : Hd (R = false) := ⟨by rw [e.out, decide_eq_false m8]; rfl⟩
            clear m8 e
            go_wp2
            go_ret
            exact ⟨ret_b (by rw [eL.out]), HK.out⟩)
      · subst h
        clear hF
        have e : Hd (R = (decide (m % 8 = 0) && (decide (-512 ≤ m) && decide (m ≤ 504)))) := ⟨by rw [HR.out]; rfl⟩
        clear HR
        by_cases m8 : m % 8 = 0
        · have a' : (m.tmod 8 != 0) = false := by simp [tmod8, m8]
          by_cases lo : m < -512
          · have eL : Hd (R = false) := ⟨by rw [e.out, decide_eq_false (show ¬ -512 ≤ m by omega), decide_eq_true m8]; rfl⟩
            clear m8 e
            go_wp2
            go_ret
            exact ⟨ret_b (by rw [eL.out]), HK.out⟩
          · by_cases hi : 504 < m
            · have eL : Hd (R = false) := ⟨by rw [e.out, decide_eq_false (show ¬ m ≤ 504 by omega), Bool.and_false, Bool.and_false]⟩
              have l3 : decide (m < -512) = false := by simp; omega
              have l4 : decide (504 < m) = true := by simp; omega
              clear m8 e lo hi
              go_wp2
              go_ret
              exact ⟨ret_b (by rw [eL.out]), HK.out⟩
            · have eL : Hd (R = true) := ⟨by rw [e.out, decide_eq_true (show -512 ≤ m by omega), decide_eq_true (show m ≤ 504 by omega), decide_eq_true m8]; rfl⟩
              have l1 : decide (-2147483648 ≤ m) = true := by simp; omega
              have l2 : decide (m ≤ 2147483647) = true := by simp; omega
              have l3 : decide (m < -512) = false := by simp; omega
              have l4 : decide (504 < m) = false := by simp; omega
              clear m8 e lo hi
              go_wp2
              go_ret
              exact ⟨ret_b (by rw [eL.out]; first | done | rfl | (simp; omega)), HK.out⟩
        · have a' : (m.tmod 8 != 0) = true := by simp [tmod8, m8]
          have eL : Hd (R = false) := ⟨by rw [e.out, decide_eq_false m8]; rfl⟩
          clear m8 e
          go_wp2
          go_ret
          exact ⟨ret_b (by rw [eL.out]), HK.out⟩
      · subst h
        clear hF
        have e : Hd (R = (decide (0 ≤ m) && decide (m ≤ 7))) := ⟨by
          rw [HR.out]
          show (decide (0 ≤ m) && decide (m < 8)) = _
          rw [Bool.eq_iff_iff]; simp; omega⟩
        clear HR
        by_cases lo : 0 ≤ m
        · have lo' : decide (0 ≤ m) = true := by simp [lo]
          have eL : Hd (R = decide (m ≤ 7)) := ⟨by rw [e.out, lo']; rfl⟩
          clear lo e
          go_wp2
          go_ret
          exact ⟨ret_b (by rw [eL.out]), HK.out⟩
        · have lo' : decide (0 ≤ m) = false := by simp; omega
          have eL : Hd (R = false) := ⟨by rw [e.out, lo']; rfl⟩
          clear lo e
          go_wp2
          go_ret
          exact ⟨ret_b (by rw [eL.out]), HK.out⟩
      · have e : Hd (R = (decide (-2147483648 ≤ m) && decide (m ≤ 2147483647))) := ⟨by rw [HR.out]; unfold immB; rw [if_neg (by omega), if_neg (by omega), if_neg (by omega), hF]⟩
        clear HR hF
        obtain ⟨g1, g2, g3, g4, g5, g6, g7⟩ := h
        have y1 : (op == 19) = false := by simp [g1]
        have y2 : (op == 20) = false := by simp [g2]
        have y3 : (op == 21) = false := by simp [g3]
        have y4 : (op == 24) = false := by simp [g4]
        have y5 : (op == 25) = false := by simp [g5]
        have y6 : (op == 22) = false := by simp [g6]
        have y7 : (op == 30) = false := by simp [g7]
        clear g1 g2 g3 g4 g5 g6 g7
        by_cases lo : -2147483648 ≤ m
        · have lo' : decide (-2147483648 ≤ m) = true := by simp [lo]
          have eL : Hd (R = decide (m ≤ 2147483647)) := ⟨by rw [e.out, lo']; rfl⟩
          clear lo e
          go_wp2
          go_ret
          exact ⟨ret_b (by rw [eL.out]), HK.out⟩
        · have lo' : decide (-2147483648 ≤ m) = false := by simp; omega
          have eL : Hd (R = false) := ⟨by rw [e.out, lo']; rfl⟩
          clear lo e
          go_wp2
          go_ret
          exact ⟨ret_b (by rw [eL.out]), HK.out⟩

theorem rright_any (op a b c m : Int) (w : World) : Calls Tryz.prog 16 #[.agg #[.int .i64 op, .int .i64 a, .int .i64 b, .int .i64 c, .int .i64 m]] w fun e w' => e = .returned (.bool (rightB op a b c m)) ∧ Below w.heap.size w w' := by
  by_cases h : 1 ≤ op ∧ op ≤ 30
  · exact rright_in op a b c m w h
  · exact rright_out op a b c m w (by omega)

end Go.Proofs.YtlohhlbbkliehaaGreatDoor.W
