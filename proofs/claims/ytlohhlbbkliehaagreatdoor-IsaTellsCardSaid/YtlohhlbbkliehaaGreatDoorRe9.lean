/-
  The walk of the reference's Text.
-/
import Derived.Test.YtlohhlbbkliehaaGreatDoorRd9
namespace Go.Proofs.YtlohhlbbkliehaaGreatDoor.W
open Go.RowKit
set_option linter.unusedVariables false

def sepL (i : Nat) : List UInt8 := if i = 0 then [32] else [44, 32]
def oneT (a b c m : Int) (ks : List Int) (i : Nat) : List UInt8 := sepL i ++ opT (kindC (ks.getD i 0).toNat) (opnd a b c m (ks.getD i 0).toNat)
def partT (a b c m : Int) (ks : List Int) (i : Nat) : List UInt8 := (List.range i).flatMap (oneT a b c m ks)
theorem partT_succ (a b c m : Int) (ks : List Int) (i : Nat) : partT a b c m ks (i + 1) = partT a b c m ks i ++ oneT a b c m ks i := by
  unfold partT
  rw [List.range_succ, List.flatMap_append]
  simp
theorem text_same {n : Nat} (h0 : n ≠ 0) (h : n < 31) (x : List UInt8) (r : List (List UInt8)) (hx : ∀ y ∈ x :: r, y ≠ [] ∧ ∀ z ∈ y, opC z) :
    Lib.trimSpace (nameL n ++ [32] ++ Lib.join (x :: r) [44, 32]) = nameL n ++ [32] ++ (x ++ Lib.joinTail [44, 32] r) := by
  obtain ⟨h1, h2, h3⟩ := name_parts h0 h
  rw [Lib.join_cons]
  obtain ⟨z, hz, hc⟩ := join_last r x hx
  refine trimSp_id (fun y hy => ?_) (fun y hy => ?_)
  · cases hn : nameL n with
    | nil => exact absurd hn h2
    | cons q qs =>
      rw [hn] at hy
      injection hy with hy; subst hy
      exact (h3 q (by rw [hn]; simp)).2
  · rw [List.getLast?_append, hz] at hy
    injection hy with hy; subst hy
    exact hc.2.2
theorem text_nil {n : Nat} (h0 : n ≠ 0) (h : n < 31) : Lib.trimSpace (nameL n ++ [32] ++ Lib.join [] [44, 32]) = nameL n := by
  have key : ((List.range 31).all fun n => decide (n = 0) || (decide (Lib.trimSpace (nameL n ++ [32] ++ Lib.join [] [44, 32]) = nameL n))) = true := by decide +kernel
  have := List.all_eq_true.1 key n (List.mem_range.2 h)
  simp only [Bool.or_eq_true, decide_eq_true_eq] at this
  rcases this with h1 | h1
  · exact absurd h1 h0
  · exact h1
theorem rshapes : ((List.range 31).all fun n => decide ((opersL n = [] ∧ ropsL n = []) ∨ (opersL n = [65, 73] ∧ ropsL n = [1, 4]) ∨ (opersL n = [65, 66] ∧ ropsL n = [1, 2]) ∨ (opersL n = [65, 66, 67] ∧ ropsL n = [1, 2, 3]) ∨ (opersL n = [65, 66, 73] ∧ ropsL n = [1, 2, 4]) ∨ (opersL n = [73] ∧ ropsL n = [4]) ∨ (opersL n = [65] ∧ ropsL n = [1]))) = true := by decide +kernel
theorem text_parts {n : Nat} (h0 : n ≠ 0) (h : n < 31) (a b c m : Int) (hr : rightB n a b c m = true) : textL n a b c m = nameL n ++ partT a b c m (ropsL n) (ropsL n).length := by
  unfold textL
  rw [if_pos hr, Int.toNat_natCast]
  have hs := List.all_eq_true.1 rshapes n (List.mem_range.2 h)
  rw [decide_eq_true_eq] at hs
  have good : ∀ (ch : UInt8) (x : Int), opT ch x ≠ [] ∧ ∀ z ∈ opT ch x, opC z := fun ch x => ⟨opT_ne ch x, opT_chars ch x⟩
  rcases hs with ⟨h1, h2⟩ | ⟨h1, h2⟩ | ⟨h1, h2⟩ | ⟨h1, h2⟩ | ⟨h1, h2⟩ | ⟨h1, h2⟩ | ⟨h1, h2⟩
  · rw [h1, h2, show opsT a b c m [] = [] from rfl, text_nil h0 h]
    simp [partT]
  · rw [h1, h2, show opsT a b c m [65, 73] = [opT 65 a, opT 73 m] from rfl, text_same h0 h _ _ (by intro y hy; simp only [List.mem_cons, List.not_mem_nil, or_false] at hy; rcases hy with rfl | rfl <;> exact good _ _)]
    simp [partT, oneT, sepL, Lib.joinTail, opnd, kindC, List.range, List.range.loop]
  · rw [h1, h2, show opsT a b c m [65, 66] = [opT 65 a, opT 66 b] from rfl, text_same h0 h _ _ (by intro y hy; simp only [List.mem_cons, List.not_mem_nil, or_false] at hy; rcases hy with rfl | rfl <;> exact good _ _)]
    simp [partT, oneT, sepL, Lib.joinTail, opnd, kindC, List.range, List.range.loop]
  · rw [h1, h2, show opsT a b c m [65, 66, 67] = [opT 65 a, opT 66 b, opT 67 c] from rfl, text_same h0 h _ _ (by intro y hy; simp only [List.mem_cons, List.not_mem_nil, or_false] at hy; rcases hy with rfl | rfl | rfl <;> exact good _ _)]
    simp [partT, oneT, sepL, Lib.joinTail, opnd, kindC, List.range, List.range.loop]
  · rw [h1, h2, show opsT a b c m [65, 66, 73] = [opT 65 a, opT 66 b, opT 73 m] from rfl, text_same h0 h _ _ (by intro y hy; simp only [List.mem_cons, List.not_mem_nil, or_false] at hy; rcases hy with rfl | rfl | rfl <;> exact good _ _)]
    simp [partT, oneT, sepL, Lib.joinTail, opnd, kindC, List.range, List.range.loop]
  · rw [h1, h2, show opsT a b c m [73] = [opT 73 m] from rfl, text_same h0 h _ _ (by intro y hy; simp only [List.mem_cons, List.not_mem_nil, or_false] at hy; subst hy; exact good _ _)]
    simp [partT, oneT, sepL, Lib.joinTail, opnd, kindC, List.range, List.range.loop]
  · rw [h1, h2, show opsT a b c m [65] = [opT 65 a] from rfl, text_same h0 h _ _ (by intro y hy; simp only [List.mem_cons, List.not_mem_nil, or_false] at hy; subst hy; exact good _ _)]
    simp [partT, oneT, sepL, Lib.joinTail, opnd, kindC, List.range, List.range.loop]
theorem opT_len9 (ch : UInt8) (n : Int) (h : -1000000000000 < n ∧ n < 1000000000000) : (opT ch n).length ≤ 22 := opT_len ch n (by omega)
theorem opnd_small {op a b c m : Int} (h : RightP op a b c m) (k : Nat) : -1000000000000 < opnd a b c m k ∧ opnd a b c m k < 1000000000000 := by
  have h1 := h.a; have h2 := h.b; have h3 := h.c; have h4 := h.m
  unfold opnd
  split
  · omega
  · split
    · omega
    · split <;> omega
theorem partT_len {op a b c m : Int} (h : RightP op a b c m) (ks : List Int) : ∀ i : Nat, (partT a b c m ks i).length ≤ 24 * i
  | 0 => Nat.le_refl _
  | i + 1 => by
    have ih := partT_len h ks i
    have h1 := opT_len9 (kindC (ks.getD i 0).toNat) _ (opnd_small h (ks.getD i 0).toNat)
    have h2 : (sepL i).length ≤ 2 := by unfold sepL; split <;> decide
    rw [partT_succ, List.length_append]
    unfold oneT
    rw [List.length_append]
    omega
theorem cat_l (l m : List UInt8) : (⟨l.toArray⟩ : ByteArray) ++ ⟨m.toArray⟩ = ⟨(l ++ m).toArray⟩ := by
  apply ByteArray.ext
  apply Array.toList_inj.1
  simp

set_option maxHeartbeats 8000000 in
set_option maxRecDepth 100000 in
theorem rtext_any (op a b c m : Int) (w : World) : Calls Tryz.prog 18 #[.agg #[.int .i64 op, .int .i64 a, .int .i64 b, .int .i64 c, .int .i64 m]] w fun e w' => e = .returned (.string ⟨(textL op a b c m).toArray⟩) ∧ Below w.heap.size w w' := by
  have hbl := Blk.new w 23 [.int .i64 op, .int .i64 a, .int .i64 b, .int .i64 c, .int .i64 m]
  have HB := Hd.mk hbl
  have HR := Hd.mk (rright_any op a b c m (w.alloc (.cells #[.int .i64 op, .int .i64 a, .int .i64 b, .int .i64 c, .int .i64 m] 23)))
  obtain ⟨r, hr⟩ : ∃ r, rightB op a b c m = r := ⟨_, rfl⟩
  rw [hr] at HR
  clear hbl
  rcases r with _ | _
  · have HX : Hd (textL op a b c m = []) := ⟨by unfold textL; rw [hr]; rfl⟩
    clear hr
    go_enter Tryz.func18, Tryz.ntmps18
    go_wp2_with fail
    refine HR.out.mono ?_
    rintro e w1 ⟨rfl, k1⟩
    have K1 : Hd (Below w.heap.size w w1) := ⟨Below.chain ((Below.refl _ _).alloc (Nat.le_refl _) _) k1⟩
    clear k1
    go_wp2
    go_ret
    exact ⟨by rw [HX.out]; rfl, K1.out⟩
  · have hp := right_parts hr
    obtain ⟨n, rfl⟩ : ∃ n : Nat, op = (n : Int) := ⟨op.toNat, by have := hp.op; omega⟩
    have hn1 : 1 ≤ n := by have := hp.op; omega
    have hn31 : n < 31 := by have := hp.op; omega
    have HTX := Hd.mk (text_parts (by omega) hn31 a b c m hr)
    have HNM := Hd.mk (fun w => rname_any (n : Int) w ⟨by omega, by omega⟩)
    have HOP := Hd.mk (fun w => roperands_any (n : Int) w ⟨by omega, by omega⟩)
    rw [Int.toNat_natCast] at HNM HOP
    have hnl : (nameL n).length ≤ 100 := (words_ok n hn31).2.1
    obtain ⟨ks, hks⟩ : ∃ ks, ropsL n = ks := ⟨_, rfl⟩
    have hkl : ks.length ≤ 4 ∧ ∀ j (h : j < ks.length), ∃ k : Nat, ks[j] = (k : Int) ∧ 1 ≤ k ∧ k ≤ 4 := by
      have key : ((List.range 31).all fun n => decide ((ropsL n).length ≤ 4) && (ropsL n).all fun z => decide (0 ≤ z ∧ 1 ≤ z.toNat ∧ z.toNat ≤ 4)) = true := by decide +kernel
      have := List.all_eq_true.1 key n (List.mem_range.2 hn31)
      rw [Bool.and_eq_true, decide_eq_true_eq, hks] at this
      refine ⟨this.1, fun j h => ?_⟩
      have h2 := List.all_eq_true.1 this.2 _ (List.getElem_mem h)
      rw [decide_eq_true_eq] at h2
      exact ⟨ks[j].toNat, by omega, h2.2⟩
    rw [hks] at HTX HOP
    have HPL := Hd.mk (partT_len hp ks)
    have HSM := Hd.mk (opnd_small hp)
    have HKL := Hd.mk hkl
    obtain ⟨nm, hnm⟩ : ∃ l, nameL n = l := ⟨_, rfl⟩
    rw [hnm] at HTX HNM hnl
    have HNL := Hd.mk hnl
    obtain ⟨LO, hLO⟩ : ∃ L, ks.length = L := ⟨_, rfl⟩
    have HLO := Hd.mk hLO
    rw [hLO] at HTX
    have hLO4 : LO ≤ 4 := by rw [← hLO]; exact hkl.1
    clear hr hp hn1 hn31 hks hkl hnm hnl hLO
    go_enter Tryz.func18, Tryz.ntmps18
    go_wp2_with fail
    refine HR.out.mono ?_
    rintro e w1 ⟨rfl, k1⟩
    have HI1 := Hd.mk (HB.out.below k1 HB.out.lt)
    have K1 : Hd (Below w.heap.size w w1) := ⟨Below.chain ((Below.refl _ _).alloc (Nat.le_refl _) _) k1⟩
    have c0 := HI1.out.at (j := 0) rfl
    clear k1 HB HR
    go_wp2_with fail
    refine (HNM.out _).mono ?_
    rintro e w2 ⟨rfl, k2⟩
    have HI2 := Hd.mk (HI1.out.below k2 HI1.out.lt)
    have K2 := Hd.mk (Below.chain K1.out k2)
    clear k2 HI1 K1 c0 HNM
    have c0 := HI2.out.at (j := 0) rfl
    go_wp2_with fail
    refine (HOP.out _).mono ?_
    rintro e w3 ⟨⟨vO, rfl, hO⟩, k3⟩
    have HI3 := Hd.mk (HI2.out.below k3 HI2.out.lt)
    have K3 := Hd.mk (Below.chain K2.out k3)
    have HO3 := Hd.mk hO
    have hsl : ∃ p d, vO = .slice p LO d := by
      rcases HO3.out.is with ⟨e0, rfl⟩ | ⟨_, g, o, cap, rfl, _⟩
      · have : LO = 0 := by rw [← HLO.out, e0]; rfl
        rw [this]; exact ⟨none, 0, rfl⟩
      · exact ⟨_, cap, by rw [HLO.out]⟩
    obtain ⟨pO, dO, rfl⟩ := hsl
    clear k3 hO HI2 K2 c0 HOP
    obtain ⟨I, hI⟩ : ∃ I, w.heap.size = I := ⟨_, rfl⟩
    rw [hI] at HI3
    have HIW := Hd.mk hI
    go_wp2
    (try rw [hI])
    clear hI
    have HP0 : Hd ((⟨nm.toArray⟩ : ByteArray) = ⟨(nm ++ partT a b c m ks 0).toArray⟩) := ⟨by simp [partT]⟩
    go_loopw [3, 5] (fun sv i wr => ∃ (k : Nat) (q : ByteArray), k ≤ LO ∧ i = .int .i64 k ∧ sv = .string q ∧ Hd (q = ⟨(nm ++ partT a b c m ks k).toArray⟩) ∧ Hd (Blk wr I 23 [.int .i64 n, .int .i64 a, .int .i64 b, .int .i64 c, .int .i64 m]) ∧ Hd (Below w.heap.size w wr ∧ OpsAt wr (.slice pO LO dO) ks)) (fun _ i _ => LO - (intOf i).toNat)
    case atStart => exact ⟨0, _, Nat.zero_le _, rfl, rfl, HP0, HI3, ⟨K3.out, HO3.out⟩⟩
    case round =>
      obtain ⟨k, q, hk, rfl, rfl, HQ, HI, HK⟩ := hrel
      clear HI3 K3 HO3 HP0
      by_cases hlt : k < LO
      · have hd1 : decide ((k : Int) < (LO : Int)) = true := by simp; omega
        have hkl : k < ks.length := by rw [HLO.out]; exact hlt
        obtain ⟨kd, hkd, kd1, kd4⟩ := HKL.out.2 k hkl
        obtain ⟨g, o, e1, hgs, hc⟩ : ∃ g o, pO = some ⟨g, o, none⟩ ∧ g < wr.heap.size ∧ wr.cell? ⟨g, o + k, none⟩ = some (.int .i64 (kd : Nat)) := by
          rcases HK.out.2.is with ⟨e0, _⟩ | ⟨_, g, o, cap, e, hg, hc⟩
          · rw [e0] at hkl; simp at hkl
          · injection e with e1 _ _
            exact ⟨g, o, e1, hg, by rw [hc k _ (List.getElem?_eq_getElem hkl), hkd]⟩
        subst e1
        have hgd : (ks.getD k 0).toNat = kd := by rw [List.getD_eq_getElem?_getD, List.getElem?_eq_getElem hkl, hkd]; rfl
        have hone : oneT a b c m ks k = sepL k ++ opT (kindC kd) (opnd a b c m kd) := by unfold oneT; rw [hgd]
        have hqs : q.size ≤ 200 := by
          rw [HQ.out]
          show (nm ++ partT a b c m ks k).length ≤ 200
          rw [List.length_append]
          have h1 := HNL.out
          have h2 := HPL.out k
          omega
        have HGt := Hd.mk (fun w => rget9_any (n : Int) a b c m kd w ⟨kd1, kd4⟩)
        have hsm := HSM.out kd
        obtain ⟨z, hz⟩ : ∃ z, opnd a b c m kd = z := ⟨_, rfl⟩
        rw [hz] at HGt hsm hone
        have HDg := Hd.mk (fun w => rdigits_any z w hsm.1 hsm.2)
        have hil : (Lib.itoa z).length ≤ 21 := Lib.itoa_length_le z (by omega) (by omega)
        have hdsz : (⟨(Lib.itoa z).toArray⟩ : ByteArray).size ≤ 21 := hil
        obtain ⟨ds, hds⟩ : ∃ x : ByteArray, (⟨(Lib.itoa z).toArray⟩ : ByteArray) = x := ⟨_, rfl⟩
        rw [hds] at HDg hdsz
        -- the string behind the round
        have hnew : ∀ (sep rr : ByteArray), sep = ⟨(sepL k).toArray⟩ → (rr = if kd < 4 then ⟨#[114]⟩ else ⟨#[]⟩) → q ++ sep ++ rr ++ ds = ⟨(nm ++ partT a b c m ks (k + 1)).toArray⟩ := fun sep rr h1 h2 => by
          have hop : opT (kindC kd) z = (if kd < 4 then [114] else []) ++ Lib.itoa z := by
            unfold opT
            rcases (by omega : kd = 1 ∨ kd = 2 ∨ kd = 3 ∨ kd = 4) with rfl | rfl | rfl | rfl <;> rfl
          have hrr : rr = ⟨((if kd < 4 then [114] else []) : List UInt8).toArray⟩ := by rw [h2]; split <;> rfl
          rw [HQ.out, h1, hrr, ← hds, cat_l, cat_l, cat_l, partT_succ, hone, hop]
          congr 2
          simp
        have HNew := Hd.mk hnew
        have i0 : (0 : Int) ≤ (k : Int) := by omega
        have i1 : (k : Int) < (LO : Int) := by omega
        have HSz := Hd.mk (And.intro hqs hdsz)
        have HCk := Hd.mk (And.intro hgs hc)
        clear hkl hkd hgd hone hsm hz hil hds hnew hgs hdsz HQ
        have HKD := Hd.mk (And.intro kd1 kd4)
        clear kd1 kd4
        have main : ∀ (sep : ByteArray), sep = ⟨(sepL k).toArray⟩ → True := fun _ _ => trivial
        clear main
        by_cases hk0 : k = 0
        · have b0 : ((k : Int) == 0) = true := by simp; omega
          have hsp : (⟨#[32]⟩ : ByteArray) = ⟨(sepL k).toArray⟩ := by unfold sepL; rw [if_pos hk0]
          have HSp := Hd.mk hsp
          clear hsp
          by_cases h4 : kd < 4
          · have b4 : decide ((kd : Int) < 4) = true := by simp; omega
            have HF := Hd.mk (HNew.out ⟨#[32]⟩ ⟨#[114]⟩ HSp.out (by rw [if_pos h4]))
            clear h4 hk0
            have q1 : ¬ 9223372036854775807 < q.size + 1 := by have := HSz.out; omega
            have q2 : ¬ 9223372036854775807 < q.size + 2 := by have := HSz.out; omega
            have q3 : ¬ 9223372036854775807 < q.size + 1 + 1 := by have := HSz.out; omega
            have q4 : ¬ 9223372036854775807 < q.size + 2 + 1 := by have := HSz.out; omega
            have q5 : ¬ 9223372036854775807 < q.size + 1 + 1 + ds.size := by have := HSz.out; omega
            have q6 : ¬ 9223372036854775807 < q.size + 2 + 1 + ds.size := by have := HSz.out; omega
            have q7 : ¬ 9223372036854775807 < q.size + 1 + ds.size := by have := HSz.out; omega
            have q8 : ¬ 9223372036854775807 < q.size + 2 + ds.size := by have := HSz.out; omega
            go_wp2_with fail
            have S0 := Hd.mk (And.intro HI.out.drew HCk.out.2)
            refine wp_region_lin default (fun w' => Blk w' I 23 [.int .i64 n, .int .i64 a, .int .i64 b, .int .i64 c, .int .i64 m] ∧ w'.cell? ⟨g, o + k, none⟩ = some (.int .i64 (kd : Nat))) [(0, true), (1, true), (2, true), (3, true), (4, true), (5, true), (6, false), (7, false), (8, true), (9, true)] (by kernel_rfl) (by kernel_rfl) rfl (by kernel_rfl) (by kernel_rfl) S0.out ?_
            simp only [pick, List.getD_cons_zero, List.getD_cons_succ]
            repeat
              refine lin_free (v := ?_) (by rfl) ?_ ?_
              rotate_left
              · intro w' hSw
                obtain ⟨hB, hSw⟩ := hSw
                have c0 := hB.at (j := 0) rfl
                have c1 := hB.at (j := 1) rfl
                have c2 := hB.at (j := 2) rfl
                have c3 := hB.at (j := 3) rfl
                have c4 := hB.at (j := 4) rfl
                clear hB
                go_simp
                first | done | with_reducible rfl
              simp only [Act.put, List.setIfInBounds_toArray, List.set_cons_zero, List.set_cons_succ]
            refine lin_bound (fun K hK => ?_)
            go_simp
            refine (HGt.out _).mono ?_
            rintro e w4 ⟨rfl, k4⟩
            dsimp only
            have S4 : Hd (Blk w4 I 23 [.int .i64 n, .int .i64 a, .int .i64 b, .int .i64 c, .int .i64 m] ∧ w4.cell? ⟨g, o + k, none⟩ = some (.int .i64 (kd : Nat))) := ⟨S0.out.1.below k4 S0.out.1.lt, by rw [k4.cell (p := ⟨g, o + k, none⟩) HCk.out.1]; exact HCk.out.2⟩
            have K4 : Hd (Below w.heap.size w w4 ∧ OpsAt w4 (.slice (some ⟨g, o, none⟩) LO dO) ks ∧ g < w4.heap.size) := ⟨Below.chain HK.out.1.drew k4, (HK.out.2.below (Below.refl _ _).drew).below k4, Nat.lt_of_lt_of_le HCk.out.1 k4.size⟩
            refine hK.out _ _ S4.out ?_
            clear hK K k4
            refine lin_bound (fun K hK => ?_)
            go_simp
            refine (HDg.out _).mono ?_
            rintro e w5 ⟨rfl, k5⟩
            dsimp only
            have S5 : Hd (Blk w5 I 23 [.int .i64 n, .int .i64 a, .int .i64 b, .int .i64 c, .int .i64 m] ∧ w5.cell? ⟨g, o + k, none⟩ = some (.int .i64 (kd : Nat))) := ⟨S4.out.1.below k5 S4.out.1.lt, by rw [k5.cell (p := ⟨g, o + k, none⟩) K4.out.2.2]; exact S4.out.2⟩
            have K5 : Hd (Below w.heap.size w w5 ∧ OpsAt w5 (.slice (some ⟨g, o, none⟩) LO dO) ks) := ⟨Below.chain K4.out.1 k5, K4.out.2.1.below k5⟩
            refine hK.out _ _ S5.out ?_
            clear hK K k5
            repeat
              refine lin_free (v := ?_) (by rfl) ?_ ?_
              rotate_left
              · intro w' hSw
                clear hSw
                go_simp
                first | done | with_reducible rfl
              simp only [Act.put, List.setIfInBounds_toArray, List.set_cons_zero, List.set_cons_succ]
            refine NoPanic.normal ?_
            have HI5 := Hd.mk S5.out.1
            clear S0 S4 K4 S5 q1 q2 q3 q4 q5 q6 q7 q8 hc
            go_wp2
            go_roundw
            case rel => exact ⟨k + 1, _, hlt, by go_num, rfl, HF, HI5, K5⟩
            case measure => simp [intOf]; omega
          · have b4 : decide ((kd : Int) < 4) = false := by simp; omega
            have HF : Hd (q ++ ⟨#[32]⟩ ++ ds = ⟨(nm ++ partT a b c m ks (k + 1)).toArray⟩) := ⟨by
              have := HNew.out ⟨#[32]⟩ ⟨#[]⟩ HSp.out (by rw [if_neg h4])
              rw [← this]
              congr 1
              apply ByteArray.ext
              simp⟩
            clear h4 hk0
            have q1 : ¬ 9223372036854775807 < q.size + 1 := by have := HSz.out; omega
            have q2 : ¬ 9223372036854775807 < q.size + 2 := by have := HSz.out; omega
            have q3 : ¬ 9223372036854775807 < q.size + 1 + 1 := by have := HSz.out; omega
            have q4 : ¬ 9223372036854775807 < q.size + 2 + 1 := by have := HSz.out; omega
            have q5 : ¬ 9223372036854775807 < q.size + 1 + 1 + ds.size := by have := HSz.out; omega
            have q6 : ¬ 9223372036854775807 < q.size + 2 + 1 + ds.size := by have := HSz.out; omega
            have q7 : ¬ 9223372036854775807 < q.size + 1 + ds.size := by have := HSz.out; omega
            have q8 : ¬ 9223372036854775807 < q.size + 2 + ds.size := by have := HSz.out; omega
            go_wp2_with fail
            have S0 := Hd.mk (And.intro HI.out.drew HCk.out.2)
            refine wp_region_lin default (fun w' => Blk w' I 23 [.int .i64 n, .int .i64 a, .int .i64 b, .int .i64 c, .int .i64 m] ∧ w'.cell? ⟨g, o + k, none⟩ = some (.int .i64 (kd : Nat))) [(0, true), (1, true), (2, true), (3, true), (4, true), (5, true), (6, false), (7, false), (8, true), (9, true)] (by kernel_rfl) (by kernel_rfl) rfl (by kernel_rfl) (by kernel_rfl) S0.out ?_
            simp only [pick, List.getD_cons_zero, List.getD_cons_succ]
            repeat
              refine lin_free (v := ?_) (by rfl) ?_ ?_
              rotate_left
              · intro w' hSw
                obtain ⟨hB, hSw⟩ := hSw
                have c0 := hB.at (j := 0) rfl
                have c1 := hB.at (j := 1) rfl
                have c2 := hB.at (j := 2) rfl
                have c3 := hB.at (j := 3) rfl
                have c4 := hB.at (j := 4) rfl
                clear hB
                go_simp
                first | done | with_reducible rfl
              simp only [Act.put, List.setIfInBounds_toArray, List.set_cons_zero, List.set_cons_succ]
            refine lin_bound (fun K hK => ?_)
            go_simp
            refine (HGt.out _).mono ?_
            rintro e w4 ⟨rfl, k4⟩
            dsimp only
            have S4 : Hd (Blk w4 I 23 [.int .i64 n, .int .i64 a, .int .i64 b, .int .i64 c, .int .i64 m] ∧ w4.cell? ⟨g, o + k, none⟩ = some (.int .i64 (kd : Nat))) := ⟨S0.out.1.below k4 S0.out.1.lt, by rw [k4.cell (p := ⟨g, o + k, none⟩) HCk.out.1]; exact HCk.out.2⟩
            have K4 : Hd (Below w.heap.size w w4 ∧ OpsAt w4 (.slice (some ⟨g, o, none⟩) LO dO) ks ∧ g < w4.heap.size) := ⟨Below.chain HK.out.1.drew k4, (HK.out.2.below (Below.refl _ _).drew).below k4, Nat.lt_of_lt_of_le HCk.out.1 k4.size⟩
            refine hK.out _ _ S4.out ?_
            clear hK K k4
            refine lin_bound (fun K hK => ?_)
            go_simp
            refine (HDg.out _).mono ?_
            rintro e w5 ⟨rfl, k5⟩
            dsimp only
            have S5 : Hd (Blk w5 I 23 [.int .i64 n, .int .i64 a, .int .i64 b, .int .i64 c, .int .i64 m] ∧ w5.cell? ⟨g, o + k, none⟩ = some (.int .i64 (kd : Nat))) := ⟨S4.out.1.below k5 S4.out.1.lt, by rw [k5.cell (p := ⟨g, o + k, none⟩) K4.out.2.2]; exact S4.out.2⟩
            have K5 : Hd (Below w.heap.size w w5 ∧ OpsAt w5 (.slice (some ⟨g, o, none⟩) LO dO) ks) := ⟨Below.chain K4.out.1 k5, K4.out.2.1.below k5⟩
            refine hK.out _ _ S5.out ?_
            clear hK K k5
            repeat
              refine lin_free (v := ?_) (by rfl) ?_ ?_
              rotate_left
              · intro w' hSw
                clear hSw
                go_simp
                first | done | with_reducible rfl
              simp only [Act.put, List.setIfInBounds_toArray, List.set_cons_zero, List.set_cons_succ]
            refine NoPanic.normal ?_
            have HI5 := Hd.mk S5.out.1
            clear S0 S4 K4 S5 q1 q2 q3 q4 q5 q6 q7 q8 hc
            go_wp2
            go_roundw
            case rel => exact ⟨k + 1, _, hlt, by go_num, rfl, HF, HI5, K5⟩
            case measure => simp [intOf]; omega
        · have b0 : ((k : Int) == 0) = false := by simp; omega
          have hsp : (⟨#[44, 32]⟩ : ByteArray) = ⟨(sepL k).toArray⟩ := by unfold sepL; rw [if_neg hk0]
          have HSp := Hd.mk hsp
          clear hsp
          by_cases h4 : kd < 4
          · have b4 : decide ((kd : Int) < 4) = true := by simp; omega
            have HF := Hd.mk (HNew.out ⟨#[44, 32]⟩ ⟨#[114]⟩ HSp.out (by rw [if_pos h4]))
            clear h4 hk0
            have q1 : ¬ 9223372036854775807 < q.size + 1 := by have := HSz.out; omega
            have q2 : ¬ 9223372036854775807 < q.size + 2 := by have := HSz.out; omega
            have q3 : ¬ 9223372036854775807 < q.size + 1 + 1 := by have := HSz.out; omega
            have q4 : ¬ 9223372036854775807 < q.size + 2 + 1 := by have := HSz.out; omega
            have q5 : ¬ 9223372036854775807 < q.size + 1 + 1 + ds.size := by have := HSz.out; omega
            have q6 : ¬ 9223372036854775807 < q.size + 2 + 1 + ds.size := by have := HSz.out; omega
            have q7 : ¬ 9223372036854775807 < q.size + 1 + ds.size := by have := HSz.out; omega
            have q8 : ¬ 9223372036854775807 < q.size + 2 + ds.size := by have := HSz.out; omega
            go_wp2_with fail
            have S0 := Hd.mk (And.intro HI.out.drew HCk.out.2)
            refine wp_region_lin default (fun w' => Blk w' I 23 [.int .i64 n, .int .i64 a, .int .i64 b, .int .i64 c, .int .i64 m] ∧ w'.cell? ⟨g, o + k, none⟩ = some (.int .i64 (kd : Nat))) [(0, true), (1, true), (2, true), (3, true), (4, true), (5, true), (6, false), (7, false), (8, true), (9, true)] (by kernel_rfl) (by kernel_rfl) rfl (by kernel_rfl) (by kernel_rfl) S0.out ?_
            simp only [pick, List.getD_cons_zero, List.getD_cons_succ]
            repeat
              refine lin_free (v := ?_) (by rfl) ?_ ?_
              rotate_left
              · intro w' hSw
                obtain ⟨hB, hSw⟩ := hSw
                have c0 := hB.at (j := 0) rfl
                have c1 := hB.at (j := 1) rfl
                have c2 := hB.at (j := 2) rfl
                have c3 := hB.at (j := 3) rfl
                have c4 := hB.at (j := 4) rfl
                clear hB
                go_simp
                first | done | with_reducible rfl
              simp only [Act.put, List.setIfInBounds_toArray, List.set_cons_zero, List.set_cons_succ]
            refine lin_bound (fun K hK => ?_)
            go_simp
            refine (HGt.out _).mono ?_
            rintro e w4 ⟨rfl, k4⟩
            dsimp only
            have S4 : Hd (Blk w4 I 23 [.int .i64 n, .int .i64 a, .int .i64 b, .int .i64 c, .int .i64 m] ∧ w4.cell? ⟨g, o + k, none⟩ = some (.int .i64 (kd : Nat))) := ⟨S0.out.1.below k4 S0.out.1.lt, by rw [k4.cell (p := ⟨g, o + k, none⟩) HCk.out.1]; exact HCk.out.2⟩
            have K4 : Hd (Below w.heap.size w w4 ∧ OpsAt w4 (.slice (some ⟨g, o, none⟩) LO dO) ks ∧ g < w4.heap.size) := ⟨Below.chain HK.out.1.drew k4, (HK.out.2.below (Below.refl _ _).drew).below k4, Nat.lt_of_lt_of_le HCk.out.1 k4.size⟩
            refine hK.out _ _ S4.out ?_
            clear hK K k4
            refine lin_bound (fun K hK => ?_)
            go_simp
            refine (HDg.out _).mono ?_
            rintro e w5 ⟨rfl, k5⟩
            dsimp only
            have S5 : Hd (Blk w5 I 23 [.int .i64 n, .int .i64 a, .int .i64 b, .int .i64 c, .int .i64 m] ∧ w5.cell? ⟨g, o + k, none⟩ = some (.int .i64 (kd : Nat))) := ⟨S4.out.1.below k5 S4.out.1.lt, by rw [k5.cell (p := ⟨g, o + k, none⟩) K4.out.2.2]; exact S4.out.2⟩
            have K5 : Hd (Below w.heap.size w w5 ∧ OpsAt w5 (.slice (some ⟨g, o, none⟩) LO dO) ks) := ⟨Below.chain K4.out.1 k5, K4.out.2.1.below k5⟩
            refine hK.out _ _ S5.out ?_
            clear hK K k5
            repeat
              refine lin_free (v := ?_) (by rfl) ?_ ?_
              rotate_left
              · intro w' hSw
                clear hSw
                go_simp
                first | done | with_reducible rfl
              simp only [Act.put, List.setIfInBounds_toArray, List.set_cons_zero, List.set_cons_succ]
            refine NoPanic.normal ?_
            have HI5 := Hd.mk S5.out.1
            clear S0 S4 K4 S5 q1 q2 q3 q4 q5 q6 q7 q8 hc
            go_wp2
            go_roundw
            case rel => exact ⟨k + 1, _, hlt, by go_num, rfl, HF, HI5, K5⟩
            case measure => simp [intOf]; omega
          · have b4 : decide ((kd : Int) < 4) = false := by simp; omega
            have HF : Hd (q ++ ⟨#[44, 32]⟩ ++ ds = ⟨(nm ++ partT a b c m ks (k + 1)).toArray⟩) := ⟨by
              have := HNew.out ⟨#[44, 32]⟩ ⟨#[]⟩ HSp.out (by rw [if_neg h4])
              rw [← this]
              congr 1
              apply ByteArray.ext
              simp⟩
            clear h4 hk0
            have q1 : ¬ 9223372036854775807 < q.size + 1 := by have := HSz.out; omega
            have q2 : ¬ 9223372036854775807 < q.size + 2 := by have := HSz.out; omega
            have q3 : ¬ 9223372036854775807 < q.size + 1 + 1 := by have := HSz.out; omega
            have q4 : ¬ 9223372036854775807 < q.size + 2 + 1 := by have := HSz.out; omega
            have q5 : ¬ 9223372036854775807 < q.size + 1 + 1 + ds.size := by have := HSz.out; omega
            have q6 : ¬ 9223372036854775807 < q.size + 2 + 1 + ds.size := by have := HSz.out; omega
            have q7 : ¬ 9223372036854775807 < q.size + 1 + ds.size := by have := HSz.out; omega
            have q8 : ¬ 9223372036854775807 < q.size + 2 + ds.size := by have := HSz.out; omega
            go_wp2_with fail
            have S0 := Hd.mk (And.intro HI.out.drew HCk.out.2)
            refine wp_region_lin default (fun w' => Blk w' I 23 [.int .i64 n, .int .i64 a, .int .i64 b, .int .i64 c, .int .i64 m] ∧ w'.cell? ⟨g, o + k, none⟩ = some (.int .i64 (kd : Nat))) [(0, true), (1, true), (2, true), (3, true), (4, true), (5, true), (6, false), (7, false), (8, true), (9, true)] (by kernel_rfl) (by kernel_rfl) rfl (by kernel_rfl) (by kernel_rfl) S0.out ?_
            simp only [pick, List.getD_cons_zero, List.getD_cons_succ]
            repeat
              refine lin_free (v := ?_) (by rfl) ?_ ?_
              rotate_left
              · intro w' hSw
                obtain ⟨hB, hSw⟩ := hSw
                have c0 := hB.at (j := 0) rfl
                have c1 := hB.at (j := 1) rfl
                have c2 := hB.at (j := 2) rfl
                have c3 := hB.at (j := 3) rfl
                have c4 := hB.at (j := 4) rfl
                clear hB
                go_simp
                first | done | with_reducible rfl
              simp only [Act.put, List.setIfInBounds_toArray, List.set_cons_zero, List.set_cons_succ]
            refine lin_bound (fun K hK => ?_)
            go_simp
            refine (HGt.out _).mono ?_
            rintro e w4 ⟨rfl, k4⟩
            dsimp only
            have S4 : Hd (Blk w4 I 23 [.int .i64 n, .int .i64 a, .int .i64 b, .int .i64 c, .int .i64 m] ∧ w4.cell? ⟨g, o + k, none⟩ = some (.int .i64 (kd : Nat))) := ⟨S0.out.1.below k4 S0.out.1.lt, by rw [k4.cell (p := ⟨g, o + k, none⟩) HCk.out.1]; exact HCk.out.2⟩
            have K4 : Hd (Below w.heap.size w w4 ∧ OpsAt w4 (.slice (some ⟨g, o, none⟩) LO dO) ks ∧ g < w4.heap.size) := ⟨Below.chain HK.out.1.drew k4, (HK.out.2.below (Below.refl _ _).drew).below k4, Nat.lt_of_lt_of_le HCk.out.1 k4.size⟩
            refine hK.out _ _ S4.out ?_
            clear hK K k4
            refine lin_bound (fun K hK => ?_)
            go_simp
            refine (HDg.out _).mono ?_
            rintro e w5 ⟨rfl, k5⟩
            dsimp only
            have S5 : Hd (Blk w5 I 23 [.int .i64 n, .int .i64 a, .int .i64 b, .int .i64 c, .int .i64 m] ∧ w5.cell? ⟨g, o + k, none⟩ = some (.int .i64 (kd : Nat))) := ⟨S4.out.1.below k5 S4.out.1.lt, by rw [k5.cell (p := ⟨g, o + k, none⟩) K4.out.2.2]; exact S4.out.2⟩
            have K5 : Hd (Below w.heap.size w w5 ∧ OpsAt w5 (.slice (some ⟨g, o, none⟩) LO dO) ks) := ⟨Below.chain K4.out.1 k5, K4.out.2.1.below k5⟩
            refine hK.out _ _ S5.out ?_
            clear hK K k5
            repeat
              refine lin_free (v := ?_) (by rfl) ?_ ?_
              rotate_left
              · intro w' hSw
                clear hSw
                go_simp
                first | done | with_reducible rfl
              simp only [Act.put, List.setIfInBounds_toArray, List.set_cons_zero, List.set_cons_succ]
            refine NoPanic.normal ?_
            have HI5 := Hd.mk S5.out.1
            clear S0 S4 K4 S5 q1 q2 q3 q4 q5 q6 q7 q8 hc
            go_wp2
            go_roundw
            case rel => exact ⟨k + 1, _, hlt, by go_num, rfl, HF, HI5, K5⟩
            case measure => simp [intOf]; omega
      · have hd1 : decide ((k : Int) < (LO : Int)) = false := by simp; omega
        have HX : Hd (q = ⟨(textL n a b c m).toArray⟩) := ⟨by rw [HQ.out, HTX.out, show k = LO by omega]⟩
        clear HQ HTX
        go_wp2
        go_ret
        exact ⟨by rw [← HX.out]; rfl, HK.out.1⟩

end Go.Proofs.YtlohhlbbkliehaaGreatDoor.W
