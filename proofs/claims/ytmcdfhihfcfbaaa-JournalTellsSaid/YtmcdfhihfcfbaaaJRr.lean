/-
  The walk of the reference's Rows: what Open reads.
-/
import Derived.Test.YtmcdfhihfcfbaaaJOpn
namespace Go.Proofs.Ytmcdfhihfcfbaaa.W
open Go.RowKit
set_option linter.unusedVariables false

structure RowsOut (w w' : World) (s : ByteArray) (e : Ending) : Prop where
  below : Below w.heap.size w w'
  is : ∃ v, e = .returned (.tuple #[v, .bool (openL s.data.toList).isSome]) ∧ ∀ rs, openL s.data.toList = some rs → Own w' w.heap.size 9 v (rs.map Value.string)

theorem ret_vb {a : Value} {x y : Bool} (h : x = y) : Ending.returned (.tuple #[a, .bool x]) = .returned (.tuple #[a, .bool y]) := by rw [h]

theorem numOf_take (s : List UInt8) (N k : Nat) (h : k + 8 ≤ N) : numOf ((s.take N).drop k) = numOf (s.drop k) := by
  unfold numOf
  rw [List.drop_take, List.take_take, Nat.min_eq_left (by omega)]

set_option maxRecDepth 100000 in
set_option maxHeartbeats 4000000 in
theorem rrows_any (w : World) (s : ByteArray) (hs : s.size ≤ 16777216) : Calls Try.prog 19 #[.string s] w fun e w' => RowsOut w w' s e := by
  have getP_lo : ∀ k : Nat, k + 8 ≤ s.size → Wd.getP s k 8 true = (numOf (s.data.toList.drop k), true) := fun k h => getP_num s k h
  have G1 := Hd.mk (fun w => Wd.rget_any s 0 8 true w (by unfold maxLen; omega))
  have G2 := Hd.mk (fun w => Wd.rget_any s 8 8 true w (by unfold maxLen; omega))
  have nil_out : ∀ b, (openL s.data.toList).isSome = b → (b = true → openL s.data.toList = some []) → ∀ w', Below w.heap.size w w' → RowsOut w w' s (.returned (.tuple #[.slice none 0 0, .bool b])) := fun b h1 h2 w' hb =>
    ⟨hb, _, by rw [h1], fun rs hr => by
      have := h2 (by rw [← h1, hr]; rfl)
      rw [this] at hr
      cases hr
      exact Own.nil _ _ _⟩
  have HNil := Hd.mk nil_out
  by_cases h8 : s.size < 8
  · have g1 := getP_no s 0 (by omega)
    have g2 := getP_no s 8 (by omega)
    rw [show ((0 : Nat) : Int) = 0 from rfl] at g1
    rw [show ((8 : Nat) : Int) = 8 from rfl] at g2
    rw [g1] at G1
    rw [g2] at G2
    have HE := Hd.mk (openL_empty s.data.toList (by show s.size < 16; omega))
    clear g1 g2 h8 getP_lo nil_out
    go_enter Try.func19, Try.ntmps19
    go_wp2_with fail
    refine (G1.out _).mono ?_
    rintro e wx ⟨rfl, rfl⟩
    go_wp2_with fail
    refine (G2.out _).mono ?_
    rintro e wx ⟨rfl, rfl⟩
    go_wp2
    go_ret2
    exact HNil.out true (by rw [HE.out]; rfl) (fun _ => HE.out) _ (Below.refl _ _)
  · have g1 := getP_lo 0 (by omega)
    rw [List.drop_zero, show ((0 : Nat) : Int) = 0 from rfl] at g1
    rw [g1] at G1
    by_cases h16 : s.size < 16
    · have g2 := getP_no s 8 (by omega)
      rw [show ((8 : Nat) : Int) = 8 from rfl] at g2
      rw [g2] at G2
      have HE := Hd.mk (openL_empty s.data.toList h16)
      obtain ⟨en, hen⟩ : ∃ en, numOf s.data.toList = en := ⟨_, rfl⟩
      rw [hen] at G1
      clear g1 g2 h8 getP_lo nil_out hen h16
      go_enter Try.func19, Try.ntmps19
      go_wp2_with fail
      refine (G1.out _).mono ?_
      rintro e wx ⟨rfl, rfl⟩
      go_wp2_with fail
      refine (G2.out _).mono ?_
      rintro e wx ⟨rfl, rfl⟩
      go_wp2
      go_ret2
      exact HNil.out true (by rw [HE.out]; rfl) (fun _ => HE.out) _ (Below.refl _ _)
    · have g2 := getP_lo 8 (by omega)
      rw [show ((8 : Nat) : Int) = 8 from rfl] at g2
      rw [g2] at G2
      have HC := Hd.mk (openL_cases s.data.toList h16)
      obtain ⟨en, hen⟩ : ∃ en, numOf s.data.toList = en := ⟨_, rfl⟩
      obtain ⟨mn, hmn⟩ : ∃ mn, numOf (s.data.toList.drop 8) = mn := ⟨_, rfl⟩
      rw [hen] at G1 HC
      rw [hmn] at G2 HC
      have hsl : s.data.toList.length = s.size := rfl
      rw [hsl] at HC
      clear g1 g2 hen hmn hsl h8 nil_out
      go_enter Try.func19, Try.ntmps19
      go_wp2_with fail
      refine (G1.out _).mono ?_
      rintro e wx ⟨rfl, rfl⟩
      go_wp2_with fail
      refine (G2.out _).mono ?_
      rintro e wx ⟨rfl, rfl⟩
      by_cases hz : en = 0
      · subst hz
        have HE : Hd (openL s.data.toList = some []) := ⟨by rw [HC.out, if_pos rfl]⟩
        clear HC getP_lo h16
        go_wp2
        go_ret2
        exact HNil.out true (by rw [HE.out]; rfl) (fun _ => HE.out) _ (Below.refl _ _)
      · have hz1 : (en == 0) = false := by simp [hz]
        by_cases hlo : en < 16
        · have HE : Hd (openL s.data.toList = none) := ⟨by rw [HC.out, if_neg hz, if_pos (.inl hlo)]⟩
          have z1 : decide (en < 16) = true := by simpa using hlo
          clear HC hz getP_lo h16 hlo
          go_wp2
          go_ret2
          exact HNil.out false (by rw [HE.out]; rfl) (fun h => by cases h) _ (Below.refl _ _)
        · have z1 : decide (en < 16) = false := by simpa using hlo
          by_cases hhi : (s.size : Int) < en
          · have HE : Hd (openL s.data.toList = none) := ⟨by rw [HC.out, if_neg hz, if_pos (.inr hhi)]⟩
            have z2 : decide ((s.size : Int) < en) = true := by simpa using hhi
            clear HC hz getP_lo h16 hlo hhi
            go_wp2
            go_ret2
            exact HNil.out false (by rw [HE.out]; rfl) (fun h => by cases h) _ (Below.refl _ _)
          · obtain ⟨N, rfl⟩ : ∃ N : Nat, en = (N : Int) := ⟨en.toNat, by omega⟩
            have HN : Hd (16 ≤ N ∧ N ≤ s.size) := ⟨by omega, by omega⟩
            have HE : Hd (openL s.data.toList = (parse ((s.data.toList.take N).drop 16)).bind fun rs => if (rs.length : Int) = mn then some rs else none) := ⟨by rw [HC.out, if_neg hz, if_neg (by rintro (h | h); exact hlo h; exact hhi h)]; rfl⟩
            have z2 : decide ((s.size : Int) < (N : Int)) = false := by simpa using hhi
            have z5 : decide (s.size < N) = false := by simp; omega
            have z6 : decide (N < 16) = false := by simp; omega
            have HGet := Hd.mk (fun (k : Nat) w => Wd.rget_any s k 8 true w (by unfold maxLen; omega))
            have HLo := Hd.mk getP_lo
            clear HC hz hlo hhi h16 getP_lo
            obtain ⟨i0, hi, hz0, hz1', hz2⟩ := info_parts infoStr
            have HI : Hd (_ ∧ _ ∧ _ ∧ _) := ⟨⟨hi, hz0, hz1', hz2⟩⟩
            clear hi hz0 hz1' hz2
            go_wp2_with fail
            go_loopw [8, 9, 10, 11] (fun v a _ _ wr => ∃ (acc : List ByteArray), a = .int .i64 (endL acc : Nat) ∧ Own wr w.heap.size 9 v (acc.map Value.string) ∧ Below w.heap.size w wr ∧ endL acc ≤ N ∧ parse ((s.data.toList.take N).drop 16) = (parse ((s.data.toList.take N).drop (endL acc))).map (acc ++ ·)) (fun _ a _ _ _ => N - (intOf a).toNat)
            case atStart =>
              refine ⟨[], rfl, Own.nil _ _ _, Below.refl _ _, HN.out.1, ?_⟩
              show _ = (parse ((s.data.toList.take N).drop 16)).map ([] ++ ·)
              cases parse ((s.data.toList.take N).drop 16) <;> rfl
            case round =>
              obtain ⟨acc, rfl, hO, hB, hle, hp⟩ := hrel
              obtain ⟨pv, cv, hv⟩ := hO.slice'
              rw [List.length_map] at hv
              subst hv
              have HO := Hd.mk hO
              have HB := Hd.mk hB
              have HPA := Hd.mk hp
              obtain ⟨k, hk⟩ : ∃ k, endL acc = k := ⟨_, rfl⟩
              have HKE := Hd.mk hk
              rw [hk] at hle
              have HLE := Hd.mk hle
              have hacc := len_le_forms acc
              have HAcc : Hd (acc.length ≤ 16777216) := ⟨by have := HN.out.2; unfold endL at hk; omega⟩
              rw [hk]
              clear hO hB hp hk hle hacc
              by_cases hlt : k < N
              · have hd1 : decide ((k : Int) < (N : Int)) = true := by simp; omega
                have hd1' : decide (k < N) = true := by simp; omega
                obtain ⟨t, ht⟩ : ∃ t, (s.data.toList.take N).drop k = t := ⟨_, rfl⟩
                have htl : t.length = N - k := by rw [← ht, List.length_drop, List.length_take]; have := HN.out.2; show min N s.size - k = _; omega
                have htn : t ≠ [] := by intro e; rw [e] at htl; simp at htl; omega
                have HPT : Hd (parse ((s.data.toList.take N).drop 16) = (parse t).map (acc ++ ·)) := ⟨by rw [HPA.out, HKE.out, ht]⟩
                have HBad2 : Hd (parse t = none → openL s.data.toList = none) := ⟨fun h => by rw [HE.out, HPT.out, h]; rfl⟩
                have HST := Hd.mk (parse_step t htn)
                have HG := Hd.mk (HGet.out k)
                by_cases hs8 : k + 8 ≤ s.size
                · have hg := HLo.out k hs8
                  rw [hg] at HG
                  dsimp only at HG
                  obtain ⟨n, hn⟩ : ∃ n, numOf (s.data.toList.drop k) = n := ⟨_, rfl⟩
                  rw [hn] at HG
                  have hrng := numOf_lt (s.data.toList.drop k)
                  rw [hn] at hrng
                  have HT := Hd.mk (And.intro ht htl)
                  have HNN := Hd.mk hn
                  have HRng := Hd.mk hrng
                  clear hg hn htn ht htl hrng
                  go_wp2_with fail
                  refine (HG.out _).mono ?_
                  rintro e wx ⟨rfl, rfl⟩
                  by_cases hneg : n < 0
                  · have hd2 : decide (n < 0) = true := by simpa using hneg
                    have HB2 : Hd (openL s.data.toList = none) := ⟨HBad2.out (by
                      rw [HST.out]
                      split
                      · rfl
                      · rename_i h8'
                        have e : numOf t = n := by rw [← HNN.out, ← HT.out.1]; exact numOf_take _ _ _ (by have := HT.out.2; omega)
                        rw [e, if_pos (.inl hneg)])⟩
                    clear HST HBad2 hneg
                    go_wp2
                    go_ret2
                    exact HNil.out false (by rw [HB2.out]; rfl) (fun h => by cases h) _ HB.out
                  · have hd2 : decide (n < 0) = false := by simpa using hneg
                    by_cases hbig : (N : Int) < n
                    · have hd3 : decide ((N : Int) < n) = true := by simpa using hbig
                      have HB2 : Hd (openL s.data.toList = none) := ⟨HBad2.out (by
                        rw [HST.out]
                        split
                        · rfl
                        · rename_i h8'
                          have e : numOf t = n := by rw [← HNN.out, ← HT.out.1]; exact numOf_take _ _ _ (by have := HT.out.2; omega)
                          rw [e, if_pos (.inr (by rw [HT.out.2]; omega))])⟩
                      clear HST HBad2 hneg hbig
                      go_wp2
                      go_ret2
                      exact HNil.out false (by rw [HB2.out]; rfl) (fun h => by cases h) _ HB.out
                    · have hd3 : decide ((N : Int) < n) = false := by simpa using hbig
                      obtain ⟨m, rfl⟩ : ∃ m : Nat, n = (m : Int) := ⟨n.toNat, by omega⟩
                      have hd3' : decide (N < m) = false := by simp; omega
                      have hNs := HN.out.2
                      have e8 : wrap64 ((k : Int) + 8) = (k : Int) + 8 := by unfold wrap64; omega
                      have e9 : wrap64 ((k : Int) + 8 + (m : Int)) = (k : Int) + 8 + (m : Int) := by unfold wrap64; omega
                      by_cases hend : N < k + 8 + m
                      · have hd4 : decide ((N : Int) < (k : Int) + 8 + (m : Int)) = true := by simp; omega
                        have hd4' : decide (N < k + 8 + m) = true := by simp; omega
                        have HB2 : Hd (openL s.data.toList = none) := ⟨HBad2.out (by
                          rw [HST.out]
                          split
                          · rfl
                          · rename_i h8'
                            have e : numOf t = (m : Int) := by rw [← HNN.out, ← HT.out.1]; exact numOf_take _ _ _ (by have := HT.out.2; omega)
                            rw [e, if_pos (.inr (by rw [HT.out.2]; omega))])⟩
                        clear HST HBad2 hneg hbig hend
                        go_wp2
                        go_ret2
                        exact HNil.out false (by rw [HB2.out]; rfl) (fun h => by cases h) _ HB.out
                      · have hd4 : decide ((N : Int) < (k : Int) + 8 + (m : Int)) = false := by simp; omega
                        have hd4' : decide (N < k + 8 + m) = false := by simp; omega
                        have hnt : numOf t = (m : Int) := by rw [← HNN.out, ← HT.out.1]; exact numOf_take _ _ _ (by omega)
                        have HST2 : Hd (parse t = (parse (t.drop (8 + m))).map (⟨((t.drop 8).take m).toArray⟩ :: ·)) := ⟨by rw [HST.out, hnt, if_neg (by rw [HT.out.2]; omega), if_neg (by rw [HT.out.2]; omega)]; rfl⟩
                        obtain ⟨a, b, hab, hbs, hbN, hkb, wka, wab, hPP, hEND⟩ := open_round s N k m acc t hNs HT.out.1 (by omega) hlt hs HKE.out HPT.out HST2.out
                        have wb : IntKind.i64.wrap (b : Int) = (b : Int) := IntWalk.i64_in _ (by omega)
                        have hd5 : decide ((N : Int) < (b : Int)) = false := by simp; omega
                        have hd5' : decide (N < b) = false := by simp; omega
                        clear hd4 hd4' e8 e9
                        have HPP := Hd.mk hPP
                        have HEND := Hd.mk hEND
                        have HBN := Hd.mk hbN
                        have HKB := Hd.mk hkb
                        have hl1 : (acc.map Value.string).length + 1 ≤ maxLen := by rw [List.length_map]; have := HAcc.out; unfold maxLen; omega
                        have hl2 : ((acc.map Value.string).length + 1) * 16 ≤ 140737488355328 := by rw [List.length_map]; have := HAcc.out; omega
                        have hB1 : w.heap.size ≤ wr.heap.size := HB.out.size
                        have HNs := Hd.mk hNs
                        have z9 : b ≤ s.size := hbs
                        clear HST HBad2 HST2 HPT hneg hbig hend hnt hPP hEND hbN hkb hNs hbs
                        go_wp2_with (at_builtin; refine wp_app1 rfl _ _ 31 rfl 9 Try.underlying31 HI.out.1 HI.out.2.1 HI.out.2.2.1 HI.out.2.2.2 rfl (.slice pv acc.length cv) _ _ wr rfl HO.out rfl rfl hl1 hl2 hB1 ?_)
                        intro v' w' hO' hK' _
                        have HX : Hd (Own w' w.heap.size 9 v' ((acc ++ [s.extract a b]).map Value.string) ∧ Below w.heap.size w w') := ⟨hO'.cast (by simp), HB.out.trans (hK'.below hB1 (fun g hg h => by have := (HO.out.lt h).1; omega))⟩
                        clear hO' hK' hl1 hl2
                        go_wp2
                        go_roundw
                        case rel => exact ⟨acc ++ [s.extract a b], by rw [HEND.out], HX.out.1, HX.out.2, by rw [HEND.out]; exact HBN.out, by rw [HEND.out]; exact HPP.out⟩
                        case measure => have := HKB.out; have := HBN.out; simp [intOf]; omega
                · have hg := getP_no s k (by omega)
                  rw [hg] at HG
                  have HB2 : Hd (openL s.data.toList = none) := ⟨HBad2.out (by rw [HST.out, if_pos (by have := HN.out.2; omega)])⟩
                  clear HST HBad2 hg htn ht htl hs8
                  dsimp only at HG
                  go_wp2_with fail
                  refine (HG.out _).mono ?_
                  rintro e wx ⟨rfl, rfl⟩
                  go_wp2
                  go_ret2
                  exact HNil.out false (by rw [HB2.out]; rfl) (fun h => by cases h) _ HB.out
              · have hd1 : decide ((k : Int) < (N : Int)) = false := by simp; omega
                have hd1' : decide (k < N) = false := by simp; omega
                have hkN : k = N := by have := HLE.out; omega
                have hT : (s.data.toList.take N).drop k = [] := List.drop_eq_nil_of_le (by rw [hkN]; exact List.length_take_le _ _)
                have HOL : Hd (openL s.data.toList = if (acc.length : Int) = mn then some acc else none) := ⟨by rw [HE.out, HPA.out, HKE.out, hT, parse_nil]; simp⟩
                clear hT hkN
                by_cases hmn : (acc.length : Int) = mn
                · have hm1 : ((acc.length : Int) == mn) = true := by simpa using hmn
                  rw [if_pos hmn] at HOL
                  clear hmn
                  go_wp2
                  go_ret2
                  exact ⟨HB.out, _, by rw [HOL.out]; rfl, fun rs hr => by rw [HOL.out] at hr; cases hr; exact HO.out⟩
                · have hm1 : ((acc.length : Int) == mn) = false := by simpa using hmn
                  rw [if_neg hmn] at HOL
                  clear hmn
                  go_wp2
                  go_ret2
                  exact ⟨HB.out, _, by rw [HOL.out]; rfl, fun rs hr => by rw [HOL.out] at hr; cases hr⟩

end Go.Proofs.Ytmcdfhihfcfbaaa.W
