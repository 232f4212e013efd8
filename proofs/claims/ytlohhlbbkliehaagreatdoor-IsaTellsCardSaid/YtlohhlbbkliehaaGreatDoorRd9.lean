/-
  The walk of the reference's Digits.
-/
import Derived.Test.YtlohhlbbkliehaaGreatDoorRa9
import Derived.Test.YtlohhlbbkliehaaGreatDoorOrdT
namespace Go.Proofs.YtlohhlbbkliehaaGreatDoor.W
open Go.RowKit
set_option linter.unusedVariables false

theorem conv1 {W : World} {g : Nat} {c : UInt8} (hb : Blk W g 5 [.int .u8 (c.toNat : Int)]) (cap : Nat) : (convert 43 9 (.slice (some ⟨g, 0, none⟩) 1 cap)).run Tryz.prog W = .ok (.string ⟨#[c]⟩) W :=
  run_convert_bytes_back (P := Tryz.prog) _ 43 9 5 ⟨g, 0, none⟩ cap [c] Tryz.underlying43 Tryz.underlying5 Tryz.underlying9 (fun j hj => by
    rw [show (⟨g, 0, none⟩ : Addr).add j = ⟨g, j, none⟩ from by unfold Addr.add; split <;> simp_all]
    refine hb.at ?_
    have hj' : j < 1 := hj
    rcases (by omega : j = 0) with rfl
    rfl)
theorem dig_vals {r : Nat} (h : r < 10) : IntKind.i64.wrap (48 + (r : Int)) = ((48 + r : Nat) : Int) ∧ IntKind.u8.wrap ((48 + r : Nat) : Int) = ((UInt8.ofNat (48 + r)).toNat : Int) := by
  refine ⟨by rw [IntWalk.i64_in _ (by omega)]; omega, ?_⟩
  have : (UInt8.ofNat (48 + r)).toNat = 48 + r := by simp; omega
  rw [this, IntWalk.u8_in _ (by omega)]
theorem ba_snoc (l : List UInt8) (c : UInt8) : (⟨l.toArray⟩ : ByteArray) ++ ⟨#[c]⟩ = ⟨(l ++ [c]).toArray⟩ := by
  apply ByteArray.ext
  apply Array.toList_inj.1
  simp

set_option maxHeartbeats 4000000 in
set_option maxRecDepth 100000 in
theorem rdig_nat (u : Nat) : u < 1000000000000 → ∀ w : World, Calls Tryz.prog 46 #[.int .i64 (u : Nat)] w fun e w' => e = .returned (.string ⟨(Lib.decDigits u).toArray⟩) ∧ Below w.heap.size w w' := by
  induction u using Nat.strongRecOn with
  | ind u ih =>
    intro hu w
    have d0 : decide ((u : Int) < 0) = false := by simp
    by_cases h10 : u < 10
    · have d1 : decide ((u : Int) < 10) = true := by simp; omega
      obtain ⟨v1, v2⟩ := dig_vals h10
      rw [Lib.decDigits_one h10]
      have hcv := conv1 (Blk.new w 5 [.int .u8 ((UInt8.ofNat (48 + u)).toNat : Int)]) 1
      obtain ⟨ch, hch⟩ : ∃ c, UInt8.ofNat (48 + u) = c := ⟨_, rfl⟩
      rw [hch] at v2 hcv ⊢
      obtain ⟨z, hz⟩ : ∃ z : Nat, 48 + u = z := ⟨_, rfl⟩
      rw [hz] at v1 v2
      clear ih hch hz
      go_enter Tryz.func46, Tryz.ntmps46
      go_wp2
      go_ret
      exact ⟨rfl, (Below.refl _ _).alloc (Nat.le_refl _) _⟩
    · have d1 : decide ((u : Int) < 10) = false := by simp; omega
      obtain ⟨q, hq⟩ : ∃ q, u / 10 = q := ⟨_, rfl⟩
      obtain ⟨r, hr⟩ : ∃ r, u % 10 = r := ⟨_, rfl⟩
      have hqd : (u : Int).tdiv 10 = (q : Int) := by rw [Int.tdiv_eq_ediv_of_nonneg (by omega)]; omega
      have hrm : (u : Int).tmod 10 = (r : Int) := by rw [Int.tmod_eq_emod_of_nonneg (by omega)]; omega
      have wq : IntKind.i64.wrap (q : Int) = (q : Int) := IntWalk.i64_in _ (by omega)
      have wr : IntKind.i64.wrap (r : Int) = (r : Int) := IntWalk.i64_in _ (by omega)
      obtain ⟨v1, v2⟩ := dig_vals (r := r) (by omega)
      have HIH := Hd.mk (ih q (by omega) (by omega))
      have hdd : Lib.decDigits u = Lib.decDigits q ++ [UInt8.ofNat (48 + r)] := by rw [Lib.decDigits, dif_neg h10, hq, hr]
      have hlen : (Lib.decDigits q).length ≤ 20 := by rw [Lib.decDigits_length]; exact Lib.nDigits_le20 q (by omega)
      rw [hdd, ← ba_snoc]
      obtain ⟨ch, hch⟩ : ∃ c, UInt8.ofNat (48 + r) = c := ⟨_, rfl⟩
      rw [hch] at v2 ⊢
      obtain ⟨z, hz⟩ : ∃ z : Nat, 48 + r = z := ⟨_, rfl⟩
      rw [hz] at v1 v2
      have hsz : (⟨(Lib.decDigits q).toArray⟩ : ByteArray).size ≤ 20 := hlen
      obtain ⟨ds, hds⟩ : ∃ ds : ByteArray, (⟨(Lib.decDigits q).toArray⟩ : ByteArray) = ds := ⟨_, rfl⟩
      rw [hds] at HIH hsz ⊢
      have hg : ¬ 9223372036854775807 < ds.size + 1 := by omega
      have hs1 : (⟨#[ch]⟩ : ByteArray).size = 1 := rfl
      have hg2 : ¬ 9223372036854775807 < ds.size + (⟨#[ch]⟩ : ByteArray).size := by rw [hs1]; exact hg
      clear ih hch hz hds hdd hlen hq hr h10 hu hs1
      go_enter Tryz.func46, Tryz.ntmps46
      go_wp2_with fail
      refine wp_region_tr default (fun _ => True) (.free 0 <| .free 1 <| .free 3 <| .free 4 <| .free 5 <| .free 6 <| .two 2 (.one 7 <| .one 8 <| .free 9 <| .free 10 .done) 7 (.two 2 (.one 8 <| .free 9 <| .free 10 .done) 8 (.one 2 <| .free 9 <| .free 10 .done))) (by kernel_rfl) (by kernel_rfl) rfl (by kernel_rfl) (by kernel_rfl) trivial ?_
      have KD : Hd (Below w.heap.size w w.drew) := ⟨(Below.refl _ _).drew⟩
      obtain ⟨wd, hwd⟩ : ∃ x, w.drew = x := ⟨_, rfl⟩
      rw [hwd] at KD ⊢
      clear hwd
      repeat
        refine tr_free (v := ?_) (by rfl) ?_ ?_
        rotate_left
        · intro w' hSw
          go_simp
          first | done | with_reducible rfl
        simp only [Act.put, List.setIfInBounds_toArray, List.set_cons_zero, List.set_cons_succ, List.getD_cons_zero, List.getD_cons_succ]
      refine tr_two ?_ ?_
      · refine tr_one (fun K hK => ?_)
        go_simp
        refine (HIH.out _).mono ?_
        rintro e w1 ⟨rfl, k1⟩
        dsimp only
        have K1 : Hd (Below w.heap.size w w1) := ⟨Below.chain KD.out k1⟩
        refine hK.out _ _ trivial ?_
        clear hK K k1
        refine tr_one (fun K hK => ?_)
        go_simp
        have K2 : Hd (Below w.heap.size w (w1.alloc (.cells #[.int .u8 (ch.toNat : Int)] 5))) := ⟨K1.out.alloc K1.out.size _⟩
        have hcv := conv1 (Blk.new w1 5 [.int .u8 (ch.toNat : Int)]) 1
        refine hK.out _ _ trivial ?_
        clear hK K
        refine tr_one (fun K hK => ?_)
        go_simp
        refine hK.out _ _ trivial ?_
        clear hK K hcv
        repeat
          refine tr_free (v := ?_) (by rfl) ?_ ?_
          rotate_left
          · intro w' hSw
            go_simp
            first | done | with_reducible rfl
          simp only [Act.put, List.setIfInBounds_toArray, List.set_cons_zero, List.set_cons_succ, List.getD_cons_zero, List.getD_cons_succ]
        refine NoPanic.normal ?_
        go_wp2
        go_ret
        exact ⟨rfl, K2.out⟩
      · refine tr_one (fun K hK => ?_)
        go_simp
        have K2 : Hd (Below w.heap.size w (wd.alloc (.cells #[.int .u8 (ch.toNat : Int)] 5))) := ⟨KD.out.alloc KD.out.size _⟩
        have hb := Blk.new wd 5 [.int .u8 (ch.toNat : Int)]
        obtain ⟨w2, hw2⟩ : ∃ X, wd.alloc (.cells #[.int .u8 (ch.toNat : Int)] 5) = X := ⟨_, rfl⟩
        have hw2' : wd.alloc (.cells [.int .u8 (ch.toNat : Int)].toArray 5) = w2 := hw2
        rw [hw2'] at hb
        rw [hw2] at K2 ⊢
        obtain ⟨g, hgg⟩ : ∃ g, wd.heap.size = g := ⟨_, rfl⟩
        rw [hgg] at hb ⊢
        have HB := Hd.mk hb
        refine hK.out _ _ trivial ?_
        clear hK K hw2 hw2' hb hgg
        refine tr_two ?_ ?_
        · refine tr_one (fun K hK => ?_)
          go_simp
          refine (HIH.out _).mono ?_
          rintro e w3 ⟨rfl, k3⟩
          dsimp only
          have K3 := Hd.mk (Below.chain K2.out k3)
          have hcv := conv1 (HB.out.below k3 HB.out.lt) 1
          refine hK.out _ _ trivial ?_
          clear hK K k3
          refine tr_one (fun K hK => ?_)
          go_simp
          refine hK.out _ _ trivial ?_
          clear hK K hcv
          repeat
            refine tr_free (v := ?_) (by rfl) ?_ ?_
            rotate_left
            · intro w' hSw
              go_simp
              first | done | with_reducible rfl
            simp only [Act.put, List.setIfInBounds_toArray, List.set_cons_zero, List.set_cons_succ, List.getD_cons_zero, List.getD_cons_succ]
          refine NoPanic.normal ?_
          go_wp2
          go_ret
          exact ⟨rfl, K3.out⟩
        · refine tr_one (fun K hK => ?_)
          have hcv := conv1 HB.out 1
          go_simp
          refine hK.out _ _ trivial ?_
          clear hK K hcv
          refine tr_one (fun K hK => ?_)
          go_simp
          refine (HIH.out _).mono ?_
          rintro e w3 ⟨rfl, k3⟩
          dsimp only
          have K3 := Hd.mk (Below.chain K2.out k3)
          refine hK.out _ _ trivial ?_
          clear hK K k3
          repeat
            refine tr_free (v := ?_) (by rfl) ?_ ?_
            rotate_left
            · intro w' hSw
              go_simp
              first | done | with_reducible rfl
            simp only [Act.put, List.setIfInBounds_toArray, List.set_cons_zero, List.set_cons_succ, List.getD_cons_zero, List.getD_cons_succ]
          refine NoPanic.normal ?_
          go_wp2
          go_ret
          exact ⟨rfl, K3.out⟩

set_option maxHeartbeats 4000000 in
set_option maxRecDepth 100000 in
theorem rdigits_any (n : Int) (w : World) (h0 : -1000000000000 < n) (h1 : n < 1000000000000) : Calls Tryz.prog 46 #[.int .i64 n] w fun e w' => e = .returned (.string ⟨(Lib.itoa n).toArray⟩) ∧ Below w.heap.size w w' := by
  by_cases hn : n < 0
  · have d0 : decide (n < 0) = true := decide_eq_true hn
    have wn : IntKind.i64.wrap (-n) = ((n.natAbs : Nat) : Int) := by rw [IntWalk.i64_in _ (by omega)]; omega
    have HD := Hd.mk (rdig_nat n.natAbs (by omega))
    have hi : Lib.itoa n = 45 :: Lib.decDigits n.natAbs := by unfold Lib.itoa; rw [if_pos hn]
    have hlen : (Lib.decDigits n.natAbs).length ≤ 20 := by rw [Lib.decDigits_length]; exact Lib.nDigits_le20 _ (by omega)
    rw [hi, ← cat_one]
    have hsz : (⟨(Lib.decDigits n.natAbs).toArray⟩ : ByteArray).size ≤ 20 := hlen
    obtain ⟨ds, hds⟩ : ∃ ds : ByteArray, (⟨(Lib.decDigits n.natAbs).toArray⟩ : ByteArray) = ds := ⟨_, rfl⟩
    rw [hds] at HD hsz ⊢
    obtain ⟨u, hu⟩ : ∃ u, n.natAbs = u := ⟨_, rfl⟩
    rw [hu] at HD wn
    have hg : ¬ 9223372036854775807 < 1 + ds.size := by omega
    have hg2 : ¬ 9223372036854775807 < (⟨#[45]⟩ : ByteArray).size + ds.size := by rw [show (⟨#[45]⟩ : ByteArray).size = 1 from rfl]; exact hg
    clear hi hlen hds hu hn
    go_enter Tryz.func46, Tryz.ntmps46
    go_wp2_with fail
    refine (HD.out _).mono ?_
    rintro e w1 ⟨rfl, k1⟩
    have K1 := Hd.mk k1
    clear k1
    go_wp2
    go_ret
    exact ⟨rfl, K1.out⟩
  · obtain ⟨u, rfl⟩ := Int.eq_ofNat_of_zero_le (by omega : 0 ≤ n)
    have hi : Lib.itoa (u : Int) = Lib.decDigits u := by unfold Lib.itoa; rw [if_neg hn, Int.toNat_natCast]
    rw [hi]
    exact rdig_nat u (by omega) w

end Go.Proofs.YtlohhlbbkliehaaGreatDoor.W
