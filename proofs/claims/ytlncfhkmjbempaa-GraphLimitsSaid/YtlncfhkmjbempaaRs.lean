/-
  The reference's SameLists.
-/
import Derived.Test.YtlncfhkmjbempaaRq
namespace Go.Proofs.Ytlncfhkmjbempaa.W
open Go.RowKit
set_option linter.unusedVariables false

/-- a row of rows of ints -/
def rowE (w : World) (cs : List Value) (l : List Int) : Prop := ∃ v, cs = [v] ∧ Rw 1 intE w v l
theorem rowE_stays : Stays rowE := Stays.row intE_stays
theorem RR.of {w : World} {B : Nat} {v : Value} {vs : List Value} {ls : List (List Int)} (h : RowsO w B v vs ls) : Rw 1 rowE w v ls :=
  Rw.of_own h.own h.len (fun j l u hl hu => ⟨u, rfl, RI.of (h.each j u l hu hl)⟩)

set_option maxHeartbeats 4000000 in
set_option maxRecDepth 100000 in
theorem rsameL_any (w : World) (v u : Value) (xs ys : List (List Int)) (hx : xs.length ≤ 1000000) (hxl : ∀ l ∈ xs, l.length ≤ 1000000) (hyl : ∀ l ∈ ys, l.length ≤ 1000000) (hy : ys.length ≤ 1000000) (h1 : Rw 1 rowE w v xs) (h2 : Rw 1 rowE w u ys) :
    Calls Try.prog 14 #[v, u] w fun e w' => e = .returned (.bool (decide (xs = ys))) ∧ Below w.heap.size w w' := by
  obtain ⟨pv, cv, hv⟩ := h1.slice
  obtain ⟨pu, cu, hu⟩ := h2.slice
  obtain ⟨M, hM⟩ : ∃ M, xs.length = M := ⟨_, rfl⟩
  obtain ⟨K, hK⟩ : ∃ K, ys.length = K := ⟨_, rfl⟩
  rw [hM] at hv
  rw [hK] at hu
  subst hv hu
  have H1 := Hd.mk h1
  have H2 := Hd.mk h2
  have HN := Hd.mk (And.intro hM (And.intro hK (And.intro hxl hyl)))
  have hMb : M ≤ 1000000 := by omega
  clear h1 h2 hM hK hxl hyl
  by_cases hMK : M = K
  · subst hMK
    go_enter Try.func14, Try.ntmps14
    go_wp2
    go_loopw [5] (fun iv wr => ∃ k : Nat, k ≤ M ∧ iv = .int .i64 (k : Int) ∧ Hd (decide (xs.drop k = ys.drop k) = decide (xs = ys)) ∧ Hd (Below w.heap.size w wr)) (fun iv _ => M - (intOf iv).toNat)
    case atStart => exact ⟨0, Nat.zero_le _, rfl, ⟨by simp⟩, ⟨Below.refl _ _⟩⟩
    case round =>
      obtain ⟨k, hk, rfl, HD, HK⟩ := hrel
      by_cases hlt : k < M
      · have hd1 : decide ((k : Int) < (M : Int)) = true := by simp; omega
        have hmk : M - (intOf (.int .i64 ((k : Int) + 1))).toNat < M - (intOf (.int .i64 (k : Int))).toNat := by simp [intOf]; omega
        have hkx : k < xs.length := by rw [HN.out.1]; exact hlt
        have hky : k < ys.length := by rw [HN.out.2.1]; exact hlt
        obtain ⟨gv, ov, cs, e1, _, _, ⟨a, rfl, hRa⟩, hca⟩ := (H1.out.below rowE_stays HK.out).at rfl hkx
        obtain ⟨gu, ou, ds, e2, _, _, ⟨b, rfl, hRb⟩, hcb⟩ := (H2.out.below rowE_stays HK.out).at rfl hky
        subst e1 e2
        have ca := hca 0 _ rfl
        have cb := hcb 0 _ rfl
        rw [Nat.mul_one, Nat.add_zero] at ca cb
        have hxk := HN.out.2.2.1 _ (List.getElem_mem hkx)
        have hyk := HN.out.2.2.2 _ (List.getElem_mem hky)
        have HS := Hd.mk (fun (w' : World) (hb : Below wr.heap.size wr w') => rsame_any w' a b _ _ hxk hyk (Rw.below hRa intE_stays hb) (Rw.below hRb intE_stays hb))
        have hd := HD.out
        rw [List.drop_eq_getElem_cons hkx, List.drop_eq_getElem_cons hky] at hd
        clear hca hcb hxk hyk
        rcases he : decide (xs[k] = ys[k]) with _ | _
        · have HF : Hd (decide (xs = ys) = false) := ⟨by
            rw [← hd]
            exact decide_eq_false (fun e => of_decide_eq_false he (by injection e))⟩
          rw [he] at HS
          have S1 : Hd (∀ w', Below wr.heap.size wr w' → w'.cell? ⟨gv, ov + k, none⟩ = some a ∧ w'.cell? ⟨gu, ou + k, none⟩ = some b) := ⟨fun w' hb => ⟨by rw [hb.cell (p := ⟨gv, ov + k, none⟩) (World.block_lt_of_cell? wr _ (by rw [ca])), ca], by rw [hb.cell (p := ⟨gu, ou + k, none⟩) (World.block_lt_of_cell? wr _ (by rw [cb])), cb]⟩⟩
          have HDr := Hd.mk (Bel wr 1)
          clear hd he hRa hRb ca cb
          go_upto_region 6 with (fail)
          refine wp_region_lin default (fun w' => w'.cell? ⟨gv, ov + k, none⟩ = some a ∧ w'.cell? ⟨gu, ou + k, none⟩ = some b) [(0, true), (1, true), (2, true), (3, true), (4, true), (5, true), (6, true), (7, true), (8, false), (9, true)] (by kernel_rfl) (by kernel_rfl) rfl (by kernel_rfl) (by kernel_rfl) (S1.out _ (((Keeps.refl (fun _ => False) wr).drew).below (Nat.le_refl _) (fun _ _ h => h))) ?_
          simp only [pick, List.getD_cons_zero, List.getD_cons_succ]
          repeat
            refine lin_free (v := ?_) (by rfl) ?_ ?_
            rotate_left
            · intro w' hSw
              obtain ⟨d0, d1⟩ := hSw
              go_simp
              first | done | with_reducible rfl
            simp only [Act.put, List.setIfInBounds_toArray, List.set_cons_zero, List.set_cons_succ]
          refine lin_bound (fun K hK => ?_)
          go_simp
          refine (HS.out wr.drew (((Keeps.refl (fun _ => False) wr).drew).below (Nat.le_refl _) (fun _ _ h => h))).mono ?_
          rintro e w2 ⟨rfl, hb2⟩
          have hb3 : Below wr.heap.size wr w2 := (((Keeps.refl (fun _ => False) wr).drew).below (Nat.le_refl _) (fun _ _ h => h)).trans hb2
          have HB3 := Hd.mk hb3
          clear hb2 hb3
          dsimp only
          refine hK.out _ _ (S1.out w2 HB3.out) ?_
          clear hK K
          repeat
            refine lin_free (v := ?_) (by rfl) ?_ ?_
            rotate_left
            · intro w' hSw
              go_simp
              first | done | with_reducible rfl
            try simp only [Act.put, List.setIfInBounds_toArray, List.set_cons_zero, List.set_cons_succ]
          refine NoPanic.normal ?_
          have HK2 : Hd (Below w.heap.size w w2) := ⟨HK.out.trans (HB3.out.mono HK.out.size)⟩
          go_wp2
          go_ret
          exact ⟨ret_b HF.out.symm, HK2.out⟩
        · have HD2 : Hd (decide (xs.drop (k + 1) = ys.drop (k + 1)) = decide (xs = ys)) := ⟨by
            rw [← hd]
            have e := of_decide_eq_true he
            rw [e]
            exact decide_eq_decide.2 ⟨fun h => by rw [h], fun h => by injection h⟩⟩
          rw [he] at HS
          have S1 : Hd (∀ w', Below wr.heap.size wr w' → w'.cell? ⟨gv, ov + k, none⟩ = some a ∧ w'.cell? ⟨gu, ou + k, none⟩ = some b) := ⟨fun w' hb => ⟨by rw [hb.cell (p := ⟨gv, ov + k, none⟩) (World.block_lt_of_cell? wr _ (by rw [ca])), ca], by rw [hb.cell (p := ⟨gu, ou + k, none⟩) (World.block_lt_of_cell? wr _ (by rw [cb])), cb]⟩⟩
          have HDr := Hd.mk (Bel wr 1)
          clear hd he hRa hRb ca cb
          go_upto_region 6 with (fail)
          refine wp_region_lin default (fun w' => w'.cell? ⟨gv, ov + k, none⟩ = some a ∧ w'.cell? ⟨gu, ou + k, none⟩ = some b) [(0, true), (1, true), (2, true), (3, true), (4, true), (5, true), (6, true), (7, true), (8, false), (9, true)] (by kernel_rfl) (by kernel_rfl) rfl (by kernel_rfl) (by kernel_rfl) (S1.out _ (((Keeps.refl (fun _ => False) wr).drew).below (Nat.le_refl _) (fun _ _ h => h))) ?_
          simp only [pick, List.getD_cons_zero, List.getD_cons_succ]
          repeat
            refine lin_free (v := ?_) (by rfl) ?_ ?_
            rotate_left
            · intro w' hSw
              obtain ⟨d0, d1⟩ := hSw
              go_simp
              first | done | with_reducible rfl
            simp only [Act.put, List.setIfInBounds_toArray, List.set_cons_zero, List.set_cons_succ]
          refine lin_bound (fun K hK => ?_)
          go_simp
          refine (HS.out wr.drew (((Keeps.refl (fun _ => False) wr).drew).below (Nat.le_refl _) (fun _ _ h => h))).mono ?_
          rintro e w2 ⟨rfl, hb2⟩
          have hb3 : Below wr.heap.size wr w2 := (((Keeps.refl (fun _ => False) wr).drew).below (Nat.le_refl _) (fun _ _ h => h)).trans hb2
          have HB3 := Hd.mk hb3
          clear hb2 hb3
          dsimp only
          refine hK.out _ _ (S1.out w2 HB3.out) ?_
          clear hK K
          repeat
            refine lin_free (v := ?_) (by rfl) ?_ ?_
            rotate_left
            · intro w' hSw
              go_simp
              first | done | with_reducible rfl
            try simp only [Act.put, List.setIfInBounds_toArray, List.set_cons_zero, List.set_cons_succ]
          refine NoPanic.normal ?_
          have HK2 : Hd (Below w.heap.size w w2) := ⟨HK.out.trans (HB3.out.mono HK.out.size)⟩
          go_wp2
          go_roundw
          case rel => exact ⟨k + 1, hlt, by go_num, HD2, HK2⟩
          case measure => exact hmk
      · have hd1 : decide ((k : Int) < (M : Int)) = false := by simp; omega
        have HT : Hd (decide (xs = ys) = true) := ⟨by
          rw [← HD.out, show xs.drop k = [] from List.drop_eq_nil_of_le (by rw [HN.out.1]; omega), show ys.drop k = [] from List.drop_eq_nil_of_le (by rw [HN.out.2.1]; omega)]; rfl⟩
        go_wp2
        go_ret
        exact ⟨ret_b HT.out.symm, HK.out⟩
  · have hne : ¬ (M : Int) = (K : Int) := by omega
    have hne2 : ((M : Int) != (K : Int)) = true := by simp; omega
    have HF : Hd (decide (xs = ys) = false) := ⟨decide_eq_false (fun e => hMK (by rw [← HN.out.1, ← HN.out.2.1, e]))⟩
    go_enter Try.func14, Try.ntmps14
    go_wp2
    go_ret
    exact ⟨ret_b HF.out.symm, Below.refl _ _⟩

end Go.Proofs.Ytlncfhkmjbempaa.W
