/-
  The walks of the law's mapped, swapped.
-/
import Derived.Test.YtlohhlbbkliehaaGreatDoorPu9
import Derived.Test.YtlohhlbbkliehaaGreatDoorAppR
namespace Go.Proofs.YtlohhlbbkliehaaGreatDoor.W
open Go.RowKit
set_option linter.unusedVariables false

theorem mapped_any (r x y : Int) (w : World) : Calls Tryz.prog 25 #[.int .i64 r, .int .i64 x, .int .i64 y] w fun e w' => e = .returned (.int .i64 (mapI x y r)) ∧ w = w' := by
  by_cases h1 : r = x
  · subst h1
    have e : Hd (mapI r y r = y) := ⟨by unfold mapI; rw [if_pos rfl]⟩
    rw [e.out]
    have b1 : (r == r) = true := by simp
    go_enter Tryz.func25, Tryz.ntmps25
    go_wp2
    go_ret
    exact ⟨rfl, rfl⟩
  · have b1 : (r == x) = false := by simp [h1]
    by_cases h2 : r = y
    · subst h2
      have e : Hd (mapI x r r = x) := ⟨by unfold mapI; rw [if_neg h1, if_pos rfl]⟩
      rw [e.out]
      have b2 : (r == r) = true := by simp
      clear h1
      go_enter Tryz.func25, Tryz.ntmps25
      go_wp2
      go_ret
      exact ⟨rfl, rfl⟩
    · have e : Hd (mapI x y r = r) := ⟨by unfold mapI; rw [if_neg h1, if_neg h2]⟩
      rw [e.out]
      have b2 : (r == y) = false := by simp [h2]
      clear h1 h2
      go_enter Tryz.func25, Tryz.ntmps25
      go_wp2
      go_ret
      exact ⟨rfl, rfl⟩

/-- the rows of the first registers -/
def swapU (x y : Int) (l : List Int) (n : Nat) : List Int := (List.range n).flatMap fun (r : Nat) => (l.filter fun k => decide (mapI x y k = (r : Int))).map fun _ => (r : Int)
def swapP (x y : Int) (l : List Int) (n k : Nat) : List Int := ((l.take k).filter fun j => decide (mapI x y j = (n : Int))).map fun _ => (n : Int)
theorem swapU_succ (x y : Int) (l : List Int) (n : Nat) : swapU x y l (n + 1) = swapU x y l n ++ swapP x y l n l.length := by
  unfold swapU swapP
  rw [List.range_succ, List.flatMap_append, List.take_length]
  simp
theorem swapP_succ (x y : Int) (l : List Int) (n k : Nat) (h : k < l.length) : swapP x y l n (k + 1) = swapP x y l n k ++ (if mapI x y l[k] = (n : Int) then [(n : Int)] else []) := by
  unfold swapP
  rw [List.take_succ_eq_append_getElem h, List.filter_append, List.map_append]
  congr 1
  by_cases hc : mapI x y l[k] = (n : Int)
  · rw [if_pos hc]; simp [hc]
  · rw [if_neg hc]; simp [hc]
theorem swapP_len (x y : Int) (l : List Int) (n k : Nat) : (swapP x y l n k).length ≤ l.length := by
  unfold swapP
  rw [List.length_map]
  refine Nat.le_trans (List.length_filter_le _ _) ?_
  rw [List.length_take]; exact Nat.min_le_right _ _
theorem swapU_len (x y : Int) (l : List Int) : ∀ n : Nat, (swapU x y l n).length ≤ n * l.length
  | 0 => by simp [swapU]
  | n + 1 => by
    have := swapU_len x y l n
    have := swapP_len x y l n l.length
    rw [swapU_succ, List.length_append, Nat.succ_mul]; omega

set_option maxHeartbeats 4000000 in
set_option maxRecDepth 100000 in
theorem swapped_any (w : World) (v : Value) (l : List Int) (x y : Int) (hl : l.length ≤ 100) (h : Rw 1 intE w v l) :
    Calls Tryz.prog 26 #[v, .int .i64 x, .int .i64 y] w fun e w' => ∃ v', e = .returned v' ∧ Rw 1 intE w' v' (swapL x y l) ∧ Below w.heap.size w w' := by
  obtain ⟨i0, hi, hz0, hz1, hz2⟩ := info_parts infoIntR
  have HI : Hd (_ ∧ _ ∧ _ ∧ _) := ⟨⟨hi, hz0, hz1, hz2⟩⟩
  clear hi hz0 hz1 hz2
  obtain ⟨p, c, rfl⟩ := h.slice
  have HL := Hd.mk h
  have HLN := Hd.mk hl
  clear h hl
  obtain ⟨n, hn⟩ : ∃ n, l.length = n := ⟨_, rfl⟩
  rw [hn]
  rw [hn] at HL
  have HN := Hd.mk hn
  have hn100 : n ≤ 100 := by have := HLN.out; omega
  clear hn
  go_enter Tryz.func26, Tryz.ntmps26
  go_wp2
  go_loopw [7, 8] (fun v i wr => ∃ r : Nat, r ≤ 16 ∧ i = .int .i64 r ∧ Hd (Own wr w.heap.size 3 v ((swapU x y l r).map (Value.int .i64)) ∧ Keeps (fun _ => False) w wr)) (fun _ i _ => 16 - (intOf i).toNat)
  case atStart => exact ⟨0, Nat.zero_le _, rfl, ⟨Own.nil _ _ _, Keeps.refl _ _⟩⟩
  case round =>
    obtain ⟨r, hr, rfl, HO⟩ := hrel
    by_cases hlt : r < 16
    · have hd1 : decide ((r : Int) < 16) = true := by simp; omega
      go_wp2
      go_loopw [7, 9] (fun v i wq => ∃ k : Nat, k ≤ n ∧ i = .int .i64 k ∧ Hd (Own wq w.heap.size 3 v ((swapU x y l r ++ swapP x y l r k).map (Value.int .i64)) ∧ Keeps (fun _ => False) w wq)) (fun _ i _ => n - (intOf i).toNat)
      case atStart => exact ⟨0, Nat.zero_le _, rfl, ⟨by rw [show swapP x y l r 0 = [] from rfl, List.append_nil]; exact HO.out.1, HO.out.2⟩⟩
      case round =>
        clear HO
        obtain ⟨k, hk, rfl, HP⟩ := hrel
        by_cases hkn : k < n
        · have hd2 : decide ((k : Int) < (n : Int)) = true := by simp; omega
          have hkl : k < l.length := by rw [HN.out]; exact hkn
          have hb : Below w.heap.size w wr := HP.out.2.below (Nat.le_refl _) (fun _ _ h => h)
          obtain ⟨g1, o1, cs1, e1, hg1, hl1, he1, hc1⟩ := (HL.out.below intE_stays hb).at rfl hkl
          unfold intE at he1
          subst e1 he1
          have c1 := hc1 0 _ rfl
          rw [Nat.mul_one, Nat.add_zero] at c1
          have hsp := swapP_succ x y l r k hkl
          have hlen : (swapU x y l r ++ swapP x y l r k).length + 1 ≤ 5000 := by
            have h1 := swapU_len x y l r
            have h2 := swapP_len x y l r k
            have h3 := HLN.out
            have h4 : r * l.length ≤ 16 * 100 := Nat.mul_le_mul (by omega) h3
            rw [List.length_append]; omega
          obtain ⟨z, hz⟩ : ∃ z, l[k] = z := ⟨_, rfl⟩
          rw [hz] at c1 hsp
          have HM := Hd.mk (fun w' => mapped_any z x y w')
          obtain ⟨us, hus⟩ : ∃ us, swapU x y l r ++ swapP x y l r k = us := ⟨_, rfl⟩
          have hus2 : swapU x y l r ++ swapP x y l r (k + 1) = us ++ (if mapI x y z = (r : Int) then [(r : Int)] else []) := by rw [hsp, ← List.append_assoc, hus]
          rw [hus] at HP hlen
          clear hc1 hz hsp hus hb hg1 hl1 hkl
          obtain ⟨mz, hmz⟩ : ∃ mz, mapI x y z = mz := ⟨_, rfl⟩
          rw [hmz] at HM hus2
          clear hmz
          by_cases hm : mz = (r : Int)
          · have HU : Hd ((swapU x y l r ++ swapP x y l r (k + 1)).map (Value.int .i64) = us.map (Value.int .i64) ++ [.int .i64 (r : Int)]) := ⟨by rw [hus2, if_pos hm, List.map_append]; rfl⟩
            subst hm
            have b1 : ((r : Int) == (r : Int)) = true := by simp
            have hl1 : (us.map (Value.int .i64)).length + 1 ≤ maxLen := by rw [List.length_map]; unfold maxLen; omega
            have hl2 : ((us.map (Value.int .i64)).length + 1) * 8 ≤ 140737488355328 := by rw [List.length_map]; omega
            obtain ⟨p7, c7, hv7⟩ := HP.out.1.slice'
            obtain ⟨N7, hN7⟩ : ∃ N, (us.map (Value.int .i64)).length = N := ⟨_, rfl⟩
            have HL1 := Hd.mk hl1
            have HL2 := Hd.mk hl2
            rw [hN7] at hv7
            subst hv7
            clear hus2 hlen hl1 hl2 hN7
            go_wp2_with fail
            refine (HM.out _).mono ?_
            rintro e wx ⟨rfl, rfl⟩
            go_wp2_with (at_builtin; refine wp_app1 rfl _ _ 34 rfl 3 Tryz.underlying34 HI.out.1 HI.out.2.1 HI.out.2.2.1 HI.out.2.2.2 rfl (.slice p7 N7 c7) _ _ wr rfl HP.out.1 rfl rfl HL1.out HL2.out HP.out.2.size ?_)
            intro v' w' h1 h2 h3
            have HQ : Hd (Own w' w.heap.size 3 v' ((swapU x y l r ++ swapP x y l r (k + 1)).map (Value.int .i64)) ∧ Keeps (fun _ => False) w w') := ⟨by rw [HU.out]; exact h1, ⟨h2.os.trans HP.out.2.os, h2.tape.trans HP.out.2.tape, h2.output.trans HP.out.2.output, Nat.le_trans HP.out.2.size h2.size, fun i hi hn => by
              rw [h2.block i (Nat.lt_of_lt_of_le hi HP.out.2.size) (fun e => by have := (HP.out.1.lt e).1; omega)]
              exact HP.out.2.block i hi hn⟩⟩
            clear h1 h2 h3 HM c1 HP
            go_wp2
            go_roundw
            case rel => exact ⟨k + 1, hkn, by go_num, HQ⟩
            case measure => simp [intOf]; omega
          · have b1 : (mz == (r : Int)) = false := by simp [hm]
            have HQ : Hd (Own wr w.heap.size 3 u7 ((swapU x y l r ++ swapP x y l r (k + 1)).map (Value.int .i64)) ∧ Keeps (fun _ => False) w wr) := ⟨by rw [hus2, if_neg hm, List.append_nil]; exact HP.out.1, HP.out.2⟩
            clear hus2 hlen HP hm
            go_wp2_with fail
            refine (HM.out _).mono ?_
            rintro e wx ⟨rfl, rfl⟩
            go_wp2
            go_roundw
            case rel => exact ⟨k + 1, hkn, by go_num, HQ⟩
            case measure => simp [intOf]; omega
        · have hd2 : decide ((k : Int) < (n : Int)) = false := by simp; omega
          have HQ : Hd (Own wr w.heap.size 3 u7 ((swapU x y l (r + 1)).map (Value.int .i64)) ∧ Keeps (fun _ => False) w wr) := ⟨by
            rw [swapU_succ, HN.out, show n = k by omega]; exact HP.out.1, HP.out.2⟩
          clear HP
          go_wp2
          go_roundw
          case rel => exact ⟨r + 1, hlt, by go_num, HQ⟩
          case measure => simp [intOf]; omega
    · have hd1 : decide ((r : Int) < 16) = false := by simp; omega
      obtain rfl : r = 16 := by omega
      have HR : Hd (Rw 1 intE wr u7 (swapL x y l)) := ⟨Rw.of_own HO.out.1 (by rw [List.length_map]; rfl) (fun j z u hz hu => by
        rw [List.getElem?_map] at hu
        rw [show (swapU x y l 16)[j]? = some z from hz] at hu
        cases hu; rfl)⟩
      have HB : Hd (Below w.heap.size w wr) := ⟨HO.out.2.below (Nat.le_refl _) (fun _ _ h => h)⟩
      clear HO
      obtain ⟨p7, c7, hv7⟩ := HR.out.slice
      obtain ⟨N7, hN7⟩ : ∃ N, (swapL x y l).length = N := ⟨_, rfl⟩
      rw [hN7] at hv7
      subst hv7
      clear hN7
      go_wp2
      go_ret
      exact ⟨_, rfl, HR.out, HB.out⟩

end Go.Proofs.YtlohhlbbkliehaaGreatDoor.W
