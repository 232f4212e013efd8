/-
  The walk of Open.
-/
import Derived.Test.YtmcdfhihfcfbaaaJO
namespace Go.Proofs.Ytmcdfhihfcfbaaa.W
open Go.RowKit
set_option linter.unusedVariables false

theorem Own.base {w : World} {B B' : Nat} {e : TypeId} {v : Value} {xs : List Value} (h : Own w B e v xs) (hb : B' ≤ B) : Own w B' e v xs := by
  rcases h.is with h0 | ⟨g, cap, hv, hB, r⟩
  · exact ⟨.inl h0⟩
  · exact ⟨.inr ⟨g, cap, hv, Nat.le_trans hb hB, r⟩⟩

theorem open_round (s : ByteArray) (N k m : Nat) (acc : List ByteArray) (t : List UInt8) (hNs : N ≤ s.size) (ht : (s.data.toList.take N).drop k = t) (hm : m + 8 ≤ N - k) (hkN : k < N) (hs : s.size ≤ 16777216) (hE : endL acc = k)
    (hPT : parse ((s.data.toList.take N).drop 16) = (parse t).map (acc ++ ·)) (hST2 : parse t = (parse (t.drop (8 + m))).map (⟨((t.drop 8).take m).toArray⟩ :: ·)) :
    ∃ a b, a ≤ b ∧ b ≤ s.size ∧ b ≤ N ∧ k < b ∧ ((k : Int) + 8) = (a : Int) ∧ ((a : Int) + (m : Int)) = (b : Int) ∧ parse ((s.data.toList.take N).drop 16) = (parse ((s.data.toList.take N).drop b)).map ((acc ++ [s.extract a b]) ++ ·) ∧ endL (acc ++ [s.extract a b]) = b := by
  have hel : (⟨((t.drop 8).take m).toArray⟩ : ByteArray) = s.extract (k + 8) (k + 8 + m) := by
    rw [← ht, List.drop_drop]
    apply ByteArray.ext
    apply Array.toList_inj.1
    simp only [ByteArray.data_extract, Array.toList_extract, List.extract_eq_take_drop]
    rw [Nat.add_sub_cancel_left, List.drop_take, List.take_take, Nat.min_eq_left (by omega)]
  have hex : (s.extract (k + 8) (k + 8 + m)).size = m := by simp; omega
  have hdr : t.drop (8 + m) = (s.data.toList.take N).drop (k + 8 + m) := by rw [← ht, List.drop_drop]; congr 1; omega
  refine ⟨k + 8, k + 8 + m, by omega, by omega, by omega, by omega, by omega, by omega, ?_, by rw [endL_append, hE, hex]; omega⟩
  rw [hPT, hST2, hel, hdr]
  cases parse ((s.data.toList.take N).drop (k + 8 + m)) <;> simp

structure OpenOut (w w' : World) (D : Nat) (σ : St) (f : Int) (e : Ending) : Prop where
  keeps : Keeps (fun _ => False) w w'
  is : ((openP σ f).1 ≠ 0 ∧ e = .returned (.tuple #[.pointer none, .int .i64 ((openP σ f).1 : Nat)])) ∨ ((openP σ f).1 = 0 ∧ ∃ L R, e = .returned (.tuple #[.pointer (some ⟨L, 0, none⟩), .int .i64 0]) ∧ LRep w' L D ⟨f.toNat, (openP σ f).2, (openP σ f).2.length⟩ R ∧ w.heap.size ≤ L ∧ ∀ g, R = some g → w.heap.size ≤ g)

theorem ret_pi {a b : Value} {x y : Int} (h : a = b) (h' : x = y) : Ending.returned (.tuple #[a, .int .i64 x]) = .returned (.tuple #[b, .int .i64 y]) := by rw [h, h']

def endOf (L : Nat) (w : World) : Nat := match w.cell? ⟨L, 4, none⟩ with | some v => (intOf v).toNat | none => 0

set_option maxRecDepth 100000 in
set_option maxHeartbeats 4000000 in
theorem jOpen_any (w : World) (D : Nat) (σ : St) (O : Option Nat) (f : Int) (hr : Rep w D σ O) :
    Calls Try.prog 10 #[.pointer (some ⟨D, 0, none⟩), .int .i64 f] w fun e w' => OpenOut w w' D σ f e := by
  by_cases h0 : f < 0
  · have e : Hd (openP σ f = (1, [])) := ⟨by unfold openP; rw [if_pos (.inl h0)]⟩
    go_enter Try.func10, Try.ntmps10
    go_wp2
    go_ret2
    exact ⟨Keeps.refl _ _, .inl ⟨by rw [e.out]; decide, by rw [e.out]; rfl⟩⟩
  by_cases h6 : 6 < f
  · have e : Hd (openP σ f = (1, [])) := ⟨by unfold openP; rw [if_pos (.inr h6)]⟩
    go_enter Try.func10, Try.ntmps10
    go_wp2
    go_ret2
    exact ⟨Keeps.refl _ _, .inl ⟨by rw [e.out]; decide, by rw [e.out]; rfl⟩⟩
  obtain ⟨F, rfl⟩ : ∃ F : Nat, f = (F : Int) := ⟨f.toNat, by omega⟩
  have hF6 : F ≤ 6 := by omega
  have hP : openP σ (F : Int) = if mayS σ (F : Int) ≠ 0 then (mayS σ (F : Int), []) else match openL (σ.files.getD F []) with | none => (2, []) | some rs => (0, rs) := by
    unfold openP; rw [if_neg (by omega)]; rfl
  have HRd := Hd.mk (read_any w D σ O F hr)
  have hsz := getD_le hr.ok.fl F
  obtain ⟨M, hM⟩ : ∃ M, mayS σ (F : Int) = M := ⟨_, rfl⟩
  obtain ⟨file, hfile⟩ : ∃ file, σ.files.getD F [] = file := ⟨_, rfl⟩
  rw [hM, hfile] at hP
  rw [hfile] at hsz
  have hRL : readL σ (F : Int) = if M = 0 then file else [] := by unfold readL; rw [hM, ← hfile]; rfl
  rw [hRL, hM] at HRd
  have HP := Hd.mk hP
  clear hP hRL hM hfile hr
  by_cases hM0 : M = 0
  · subst hM0
    rw [if_pos rfl] at HRd
    obtain ⟨s, hs⟩ : ∃ s : ByteArray, (⟨file.toArray⟩ : ByteArray) = s := ⟨_, rfl⟩
    have hsl : s.data.toList = file := by rw [← hs]
    rw [strV_def, hs] at HRd
    have hss : s.size = file.length := by rw [← hs]; rfl
    subst hsl
    clear hs
    have HP2 : Hd (openP σ (F : Int) = match openL s.data.toList with | none => (2, []) | some rs => (0, rs)) := ⟨by rw [HP.out, if_neg (by decide)]⟩
    have hsz' : s.size ≤ 16777216 := by rw [hss]; exact hsz
    clear HP hss hsz
    go_enter Try.func10, Try.ntmps10
    go_wp2_with fail
    refine HRd.out.mono ?_
    rintro e w1 ⟨rfl, k1⟩
    have K1 := Hd.mk k1
    clear k1 HRd
    obtain ⟨w2, hw2⟩ : ∃ w2, w1.alloc (.cells #[.pointer (some ⟨D, 0, none⟩), .int .i64 F, .slice none 0 0, .int .i64 0, .int .i64 16] 64) = w2 := ⟨_, rfl⟩
    have hb2 : Blk w2 w1.heap.size 64 (lgCells D (F : Nat) (.slice none 0 0) (0 : Nat) (endL [] : Nat)) := hw2 ▸ Blk.new w1 64 _
    have K2 : Hd (Keeps (fun _ => False) w w2) := ⟨hw2 ▸ K1.out.alloc _⟩
    have hLge : w.heap.size ≤ w1.heap.size := K1.out.size
    obtain ⟨L, hL⟩ : ∃ L, w1.heap.size = L := ⟨_, rfl⟩
    rw [hL] at hb2 hLge
    have HLge := Hd.mk hLge
    have HL2 : Hd (LRep w2 L D ⟨F, [], 0⟩ none) := ⟨⟨⟨_, hb2, Own.nil _ _ _, rfl⟩, ⟨hF6, by show endL [] ≤ 16777216; decide, Nat.le_refl _⟩⟩⟩
    clear hLge hb2
    have done0 : openL s.data.toList = some [] → OpenOut w w2 D σ (F : Int) (.returned (.tuple #[.pointer (some ⟨L, 0, none⟩), .int .i64 0])) := fun h => by
      have e : openP σ (F : Int) = (0, []) := by rw [HP2.out, h]
      exact ⟨K2.out, .inr ⟨by rw [e], L, none, rfl, by rw [e]; exact HL2.out, HLge.out, fun g hg => by cases hg⟩⟩
    have HDone0 := Hd.mk done0
    have bad : ∀ {w' : World}, openL s.data.toList = none → Keeps (fun _ => False) w w' → OpenOut w w' D σ (F : Int) (.returned (.tuple #[.pointer none, .int .i64 2])) := fun {w'} h k => by
      have e : openP σ (F : Int) = (2, []) := by rw [HP2.out, h]
      exact ⟨k, .inl ⟨by rw [e]; decide, by rw [e]; rfl⟩⟩
    have HBad := Hd.mk @bad
    clear done0 bad
    by_cases h16 : s.size < 16
    · have hd : decide ((s.size : Int) < 16) = true := by simp; omega
      have HE := Hd.mk (openL_empty s.data.toList h16)
      clear h16
      go_wp2
      go_ret2
      exact HDone0.out HE.out
    · have hd : decide ((s.size : Int) < 16) = false := by simp; omega
      have hsl : ∀ n, (s.data.toList.take n).length = min n s.size := fun n => by rw [List.length_take]; rfl
      have HC := Hd.mk (openL_cases s.data.toList h16)
      have g1 := getP_num s 0 (by omega)
      have g2 := getP_num s 8 (by omega)
      rw [List.drop_zero] at g1
      have HG1 := Hd.mk (fun w => Wd.get_any s 0 8 true w (by unfold maxLen; omega))
      have HG2 := Hd.mk (fun w => Wd.get_any s 8 8 true w (by unfold maxLen; omega))
      rw [show ((0 : Nat) : Int) = 0 from rfl] at g1
      rw [show ((8 : Nat) : Int) = 8 from rfl] at g2
      rw [g1] at HG1
      rw [g2] at HG2
      clear g1 g2
      obtain ⟨en, hen⟩ : ∃ en, numOf s.data.toList = en := ⟨_, rfl⟩
      obtain ⟨mn, hmn⟩ : ∃ mn, numOf (s.data.toList.drop 8) = mn := ⟨_, rfl⟩
      rw [hen] at HG1 HC
      rw [hmn] at HG2 HC
      clear hen hmn
      go_wp2_with fail
      refine (HG1.out _).mono ?_
      rintro e wx ⟨rfl, rfl⟩
      go_wp2_with fail
      refine (HG2.out _).mono ?_
      rintro e wx ⟨rfl, rfl⟩
      clear HG1 HG2
      by_cases hz : en = 0
      · subst hz
        have HE : Hd (openL s.data.toList = some []) := ⟨by rw [HC.out, if_pos rfl]⟩
        clear HC
        go_wp2
        go_ret2
        exact HDone0.out HE.out
      · have hz1 : (en == 0) = false := by simp [hz]
        by_cases hlo : en < 16
        · have HE : Hd (openL s.data.toList = none) := ⟨by rw [HC.out, if_neg hz, if_pos (.inl hlo)]⟩
          clear HC hz
          go_wp2
          go_ret2
          exact HBad.out HE.out K2.out
        · by_cases hhi : (s.size : Int) < en
          · have HE : Hd (openL s.data.toList = none) := ⟨by rw [HC.out, if_neg hz, if_pos (.inr hhi)]⟩
            clear HC hz
            go_wp2
            go_ret2
            exact HBad.out HE.out K2.out
          · obtain ⟨N, rfl⟩ : ∃ N : Nat, en = (N : Int) := ⟨en.toNat, by omega⟩
            have HN : Hd (16 ≤ N ∧ N ≤ s.size) := ⟨by omega, by omega⟩
            have HE : Hd (openL s.data.toList = (parse ((s.data.toList.take N).drop 16)).bind fun rs => if (rs.length : Int) = mn then some rs else none) := ⟨by rw [HC.out, if_neg hz, if_neg (by rintro (h | h); exact hlo h; exact hhi h)]; rfl⟩
            clear HC hz hlo hhi hz1
            have z0 : ((N : Int) == 0) = false := by have := HN.out.1; simp; omega
            have z1 : decide ((N : Int) < 16) = false := by have := HN.out.1; simp; omega
            have z2 : decide ((s.size : Int) < (N : Int)) = false := by have := HN.out.2; simp; omega
            have z3 : N ≤ s.size := HN.out.2
            have z5 : decide (s.size < N) = false := by simp; omega
            have z6 : decide (N < 16) = false := by have := HN.out.1; simp; omega
            have z4 : ¬ N < 16 := by have := HN.out.1; omega
            go_wp2_with fail
            go_loopw [13, 14] (fun _ _ wr => ∃ (acc : List ByteArray) (R : Option Nat), LRep wr L D ⟨F, acc, 0⟩ R ∧ (∀ g, R = some g → w.heap.size ≤ g) ∧ Keeps (fun _ => False) w wr ∧ endL acc ≤ N ∧ parse ((s.data.toList.take N).drop 16) = (parse ((s.data.toList.take N).drop (endL acc))).map (acc ++ ·)) (fun _ _ wr => N - endOf L wr)
            case atStart =>
              refine ⟨[], none, HL2.out, (fun g hg => by cases hg), K2.out, HN.out.1, ?_⟩
              show _ = (parse ((s.data.toList.take N).drop 16)).map ([] ++ ·)
              cases parse ((s.data.toList.take N).drop 16) <;> rfl
            case round =>
              obtain ⟨acc, R, hl, hR, hK, hle, hp⟩ := hrel
              obtain ⟨v, hlb, hlO, hlR⟩ := hl.is
              obtain ⟨pv, cv, rfl⟩ := hlO.slice'
              have HLB := Hd.mk hlb
              have HLO := Hd.mk hlO
              have HLR := Hd.mk hlR
              have HLL := Hd.mk hl
              have HRR := Hd.mk hR
              have HK := Hd.mk hK
              have HPA := Hd.mk hp
              obtain ⟨k, hk⟩ : ∃ k, endL acc = k := ⟨_, rfl⟩
              have HKE := Hd.mk hk
              rw [hk] at hle
              have HLE := Hd.mk hle
              have c2 : wr.cell? ⟨L, 2, none⟩ = some (.slice pv (acc.map Value.string).length cv) := hlb.at (j := 2) rfl
              have c4 : wr.cell? ⟨L, 4, none⟩ = some (.int .i64 (k : Nat)) := by have := hlb.at (j := 4) rfl; rw [this]; show some (Value.int .i64 (endL acc : Nat)) = _; rw [hk]
              rw [List.length_map] at c2
              clear hlb hlO hlR hl hR hK hp hk hle
              by_cases hlt : k < N
              · have hd1 : decide ((k : Int) < (N : Int)) = true := by simp; omega
                have hkn : k < N := hlt
                obtain ⟨t, ht⟩ : ∃ t, (s.data.toList.take N).drop k = t := ⟨_, rfl⟩
                have htl : t.length = N - k := by rw [← ht, List.length_drop, List.length_take]; have := HN.out.2; show min N s.size - k = _; omega
                have htn : t ≠ [] := by intro e; rw [e] at htl; simp at htl; omega
                have HPT : Hd (parse ((s.data.toList.take N).drop 16) = (parse t).map (acc ++ ·)) := ⟨by rw [HPA.out, HKE.out, ht]⟩
                have HBad2 : Hd (parse t = none → openL s.data.toList = none) := ⟨fun h => by rw [HE.out, HPT.out, h]; rfl⟩
                have HST := Hd.mk (parse_step t htn)
                have hx0 : (s.extract 0 N).data.toList = s.data.toList.take N := by simp
                have hx1 : (s.extract 0 N).size = N := by have := HN.out.2; simp; omega
                have HG := Hd.mk (fun w => Wd.get_any (s.extract 0 N) k 8 true w (by rw [hx1]; unfold maxLen; omega))
                have w8 : wrap64 ((k : Int) + 8) = ((k + 8 : Nat) : Int) := by unfold wrap64; omega
                obtain ⟨d, hd⟩ : ∃ d, N - k = d := ⟨_, rfl⟩
                have w9 : wrap64 ((N : Int) - (k : Int)) = (N : Int) - (k : Int) := by unfold wrap64; omega
                have w10 : wrap64 ((N : Int) - (k : Int) - 8) = (N : Int) - (k : Int) - 8 := by unfold wrap64; omega
                by_cases h8 : k + 8 ≤ N
                · have hg : Wd.getP (s.extract 0 N) k 8 true = (numOf t, true) := by rw [getP_num _ k (by rw [hx1]; exact h8), hx0, ht]
                  rw [hg] at HG
                  clear hg
                  rw [if_neg (by omega)] at HST
                  have HX := Hd.mk (And.intro hx0 hx1)
                  have HT := Hd.mk (And.intro ht htl)
                  have HD := Hd.mk hd
                  have H8 := Hd.mk h8
                  obtain ⟨n, hn⟩ : ∃ n, numOf t = n := ⟨_, rfl⟩
                  rw [hn] at HST
                  dsimp only at HG
                  rw [hn] at HG
                  clear hn htn hx0 hx1 ht htl hd h8
                  go_wp2_with fail
                  refine wp_region_lin default (fun w' => w'.cell? ⟨L, 4, none⟩ = some (.int .i64 (k : Nat)) ∧ w' = wr.drew) [(0, true), (1, true), (2, true), (3, true), (4, true), (5, true), (6, true), (7, false), (8, true), (9, true), (10, true), (11, true), (12, true)] (by kernel_rfl) (by kernel_rfl) rfl (by kernel_rfl) (by kernel_rfl) ⟨c4, rfl⟩ ?_
                  simp only [pick, List.getD_cons_zero, List.getD_cons_succ]
                  repeat
                    refine lin_free (v := ?_) (by rfl) ?_ ?_
                    rotate_left
                    · intro w' hSw
                      obtain ⟨a0, a1⟩ := hSw
                      go_simp
                      first | done | with_reducible rfl
                    simp only [Act.put, List.setIfInBounds_toArray, List.set_cons_zero, List.set_cons_succ]
                  refine lin_bound (fun K hK => ?_)
                  go_simp
                  refine (HG.out _).mono ?_
                  rintro e w3 ⟨rfl, rfl⟩
                  dsimp only
                  refine hK.out _ _ ⟨c4, rfl⟩ ?_
                  clear hK K
                  repeat
                    refine lin_free (v := ?_) (by rfl) ?_ ?_
                    rotate_left
                    · intro w' hSw
                      go_simp
                      first | done | with_reducible rfl
                    simp only [Act.put, List.setIfInBounds_toArray, List.set_cons_zero, List.set_cons_succ]
                  refine NoPanic.normal ?_
                  by_cases hneg : n < 0
                  · have HB := Hd.mk (HBad2.out (by rw [HST.out, if_pos (.inl hneg)]))
                    have hd2 : decide (n < 0) = true := by simpa using hneg
                    clear HST hneg
                    go_wp2
                    go_ret2
                    exact HBad.out HB.out HK.out.drew
                  · have hd2 : decide (n < 0) = false := by simpa using hneg
                    by_cases hbig : (N : Int) - (k : Int) - 8 < n
                    · have HB := Hd.mk (HBad2.out (by rw [HST.out, if_pos (.inr (by rw [HT.out.2]; omega))]))
                      have hd3 : decide ((N : Int) - (k : Int) - 8 < n) = true := by simpa using hbig
                      clear HST hneg hbig
                      go_wp2
                      go_ret2
                      exact HBad.out HB.out HK.out.drew
                    · have hd3 : decide ((N : Int) - (k : Int) - 8 < n) = false := by simpa using hbig
                      obtain ⟨m, rfl⟩ : ∃ m : Nat, n = (m : Int) := ⟨n.toNat, by omega⟩
                      have hm : m + 8 ≤ N - k := by omega
                      have HST2 : Hd (parse t = (parse (t.drop (8 + m))).map (⟨((t.drop 8).take m).toArray⟩ :: ·)) := ⟨by rw [HST.out, if_neg (by rw [HT.out.2]; omega)]; rfl⟩
                      have fr4 := HLB.out.free 4
                      obtain ⟨a, b, hab, hbs, hbN, hkb, wka, wab, hPP, hEND⟩ := open_round s N k m acc t HN.out.2 HT.out.1 hm hkn hsz' HKE.out HPT.out HST2.out
                      have wb : IntKind.i64.wrap (b : Int) = (b : Int) := IntWalk.i64_in _ (by clear HBad2 HST2 HST; omega)
                      have HPP := Hd.mk hPP
                      have HEND := Hd.mk hEND
                      have HBN := Hd.mk hbN
                      have HKB := Hd.mk hkb
                      clear HST hneg hbig w8 hPP hEND hbN hkb hm HST2 HPT HBad2
                      go_wp2_with fail
                      obtain ⟨w4, hw4⟩ : ∃ w4, wr.setCell ⟨L, 4, none⟩ (.int .i64 (a : Nat)) = w4 := ⟨_, rfl⟩
                      rw [hw4]
                      have hb4 : Blk w4 L 64 (lgCells D (F : Nat) (.slice pv (acc.map Value.string).length cv) (0 : Nat) (a : Nat)) := hw4 ▸ (HLB.out.set 4 _)
                      have K4 : Hd (Keeps (· = L) wr w4) := ⟨hw4 ▸ (Keeps.refl (· = L) wr).setCell (p := ⟨L, 4, none⟩) (.inr rfl) _⟩
                      have hRne : ∀ g, R = some g → g ≠ L := fun g hg e => by subst e; exact HLL.out.ne hg
                      have hO4 : Own w4 0 9 (.slice pv (acc.map Value.string).length cv) (acc.map Value.string) := HLO.out.keeps K4.out (fun g hg e => hRne g (HLR.out ▸ hg) e)
                      have a2 : w4.cell? ⟨L, 2, none⟩ = some (.slice pv acc.length cv) := by have := hb4.at (j := 2) rfl; rwa [List.length_map] at this
                      have a4 : w4.cell? ⟨L, 4, none⟩ = some (.int .i64 (a : Nat)) := hb4.at (j := 4) rfl
                      have a2x : ∀ o, (w4.alloc o).cell? ⟨L, 2, none⟩ = some (.slice pv acc.length cv) := fun o => by have := (hb4.alloc o).at (j := 2) rfl; rwa [List.length_map] at this
                      have a4x : ∀ o, (w4.alloc o).cell? ⟨L, 4, none⟩ = some (.int .i64 (a : Nat)) := fun o => (hb4.alloc o).at (j := 4) rfl
                      have h63 : (acc.map Value.string).length ≤ 16777216 := by have := len_le_forms acc; have := HKE.out; unfold endL at this; have := HN.out.2; rw [List.length_map]; omega
                      have hLt : L < w4.heap.size := hb4.lt
                      have hO5 : Own (w4.alloc (.cells #[.string (s.extract a b)] 9)).drew.drew 0 9 (.slice pv (acc.map Value.string).length cv) (acc.map Value.string) := (hO4.alloc _).keeps (Keeps.refl (fun _ => False) _).drew.drew (fun _ _ h => h)
                      obtain ⟨i0, hi, hz0, hz1, hz2⟩ := info_parts infoStr
                      obtain ⟨v', w5, hrun, hO', hK', hv'⟩ := run_app (P := Try.prog) (w4.alloc (.cells #[.string (s.extract a b)] 9)).drew.drew 31 31 9 Try.underlying31 hi hz0 hz1 hz2 rfl _ _ [.string (s.extract a b)] hO5 w4.heap.size 1 (fun j u hj => by
                        have hbb : Blk (w4.alloc (.cells #[.string (s.extract a b)] 9)).drew.drew w4.heap.size 9 [.string (s.extract a b)] := (Blk.new w4 9 _).drew.drew
                        exact hbb.at hj) (by simp [Value.oneCell']) (by unfold maxLen; simp only [List.length_cons, List.length_nil]; omega) (by simp only [List.length_cons, List.length_nil]; omega) (Nat.zero_le _)
                      rw [List.length_map] at hrun
                      have hb5 : Blk w5 L 64 (lgCells D (F : Nat) (.slice pv (acc.map Value.string).length cv) (0 : Nat) (a : Nat)) := hK'.blk ((hb4.alloc _).drew.drew) (fun e => hRne L (HLR.out ▸ e) rfl)
                      have hv5 : ∀ g, v'.ownBlock = some g → g ≠ L ∧ (R = some g ∨ w.heap.size ≤ g) := fun g hg => by
                        rcases hv' with h | h
                        · rw [h] at hg; exact ⟨hRne g (HLR.out ▸ hg), .inl (HLR.out ▸ hg)⟩
                        · rw [h] at hg; injection hg with hg
                          have h1 : w4.heap.size < g := by rw [← hg]; simp
                          exact ⟨fun e => by omega, .inr (by have := HK.out.size; have := K4.out.size; omega)⟩
                      obtain ⟨p5, c5, hvs⟩ := hO'.slice'
                      obtain ⟨n5, hn5⟩ : ∃ n5, (acc.map Value.string ++ [Value.string (s.extract a b)]).length = n5 := ⟨_, rfl⟩
                      rw [hn5] at hvs
                      subst hvs
                      have a2' : w5.cell? ⟨L, 2, none⟩ = some (.slice pv (acc.map Value.string).length cv) := hb5.at (j := 2) rfl
                      have a4' : w5.cell? ⟨L, 4, none⟩ = some (.int .i64 (a : Nat)) := hb5.at (j := 4) rfl
                      have fr2 := hb5.free 2
                      have fr4' := hb5.free 4
                      have HRUN := Hd.mk hrun
                      have HO' := Hd.mk hO'
                      have HK' := Hd.mk hK'
                      have HV5 := Hd.mk hv5
                      have HB5 := Hd.mk hb5
                      have HB4 := Hd.mk hb4
                      clear hb4 hRne hO4 h63 hLt hO5 hi hz0 hz1 hz2 hrun hO' hK' hv' hb5 hv5 hn5 hw4 fr4
                      refine wp_region_lin2 default (fun w' => w'.cell? ⟨L, 4, none⟩ = some (.int .i64 (a : Nat))) [(0, 0), (1, 0), (2, 0), (3, 0), (5, 0), (6, 0), (7, 0), (8, 0), (9, 0), (10, 0), (11, 0), (12, 0), (13, 0), (14, 0), (15, 0), (16, 0), (4, 2), (17, 3), (18, 1), (19, 0), (20, 0), (21, 1)] (by kernel_rfl) (by kernel_rfl) rfl (by kernel_rfl) (by kernel_rfl) a4 ?_
                      repeat
                        refine lin2_free (v := ?_) (by rfl) ?_ ?_
                        rotate_left
                        · intro w' hSw
                          simp only [List.getD_cons_zero, List.getD_cons_succ]
                          go_simp
                          first | done | with_reducible rfl
                        simp only [Act.put, List.getD_cons_zero, List.getD_cons_succ, List.setIfInBounds_toArray, List.set_cons_zero, List.set_cons_succ]
                      refine lin2_pair (fun K1 hK1 => ?_) (fun K1 hK1 => ?_)
                      all_goals simp only [List.getD_cons_zero, List.getD_cons_succ]
                      all_goals go_simp
                      all_goals refine hK1.out _ _ (by first | exact a4 | exact a4x _) (fun K hK => ?_)
                      all_goals simp only [List.getD_cons_zero, List.getD_cons_succ]
                      all_goals go_simp
                      all_goals refine hK.out _ _ (by first | exact a4 | exact a4x _) ?_
                      all_goals clear hK K hK1 K1
                      all_goals refine lin2_one (fun K hK => ?_)
                      all_goals refine step_append_run (by rfl) (Operand.tmp 104) (Operand.tmp 117) 31 (by rfl) (.slice pv acc.length cv) (.slice (some ⟨w4.heap.size, 0, none⟩) 1 1) _ (by rfl) (by rfl) HRUN.out ?_
                      all_goals refine hK.out _ _ a4' ?_
                      all_goals clear hK K
                      all_goals simp only [Act.put, List.getD_cons_zero, List.getD_cons_succ, List.setIfInBounds_toArray, List.set_cons_zero, List.set_cons_succ]
                      all_goals
                        repeat
                          refine lin2_free (v := ?_) (by rfl) ?_ ?_
                          rotate_left
                          · intro w' hSw
                            simp only [List.getD_cons_zero, List.getD_cons_succ]
                            go_simp
                            first | done | with_reducible rfl
                          simp only [Act.put, List.getD_cons_zero, List.getD_cons_succ, List.setIfInBounds_toArray, List.set_cons_zero, List.set_cons_succ]
                        refine lin2_one (fun K hK => ?_)
                        simp only [List.getD_cons_zero, List.getD_cons_succ]
                        go_simp
                        refine hK.out _ _ (by go_simp) ?_
                        clear hK K
                        refine NoPanic.normal ?_
                        go_wp2
                        go_roundw
                        case rel =>
                          have K6 : Keeps (· = L) w5 ((w5.setCell ⟨L, 2, none⟩ (.slice p5 n5 c5)).setCell ⟨L, 4, none⟩ (.int .i64 (b : Nat))) := ((Keeps.refl (· = L) w5).setCell (p := ⟨L, 2, none⟩) (.inr rfl) _).setCell (p := ⟨L, 4, none⟩) (.inr rfl) _
                          have hKw5 : Keeps (fun _ => False) w w5 := ⟨HK'.out.os.trans (K4.out.os.trans HK.out.os), HK'.out.tape.trans (K4.out.tape.trans HK.out.tape), HK'.out.output.trans (K4.out.output.trans HK.out.output), by have h1 := HK'.out.size; have h2 := K4.out.size; have h3 := HK.out.size; simp at h1; omega, fun g hg _ => by
                            have h2 := K4.out.size
                            have h3 := HK.out.size
                            have hg4 : g < w4.heap.size := Nat.lt_of_lt_of_le hg (Nat.le_trans h3 h2)
                            rw [HK'.out.block g (by simp; omega) (fun e => Nat.lt_irrefl _ (Nat.lt_of_lt_of_le hg (HRR.out g (HLR.out ▸ e))))]
                            show (w4.heap.push _)[g]? = _
                            rw [Array.getElem?_push, if_neg (by omega), K4.out.block g (Nat.lt_of_lt_of_le hg h3) (fun e => by have := HLge.out; omega), HK.out.block g hg (fun h => h)]⟩
                          refine ⟨acc ++ [s.extract a b], (Value.slice p5 n5 c5).ownBlock, ⟨⟨_, ?_, (HO'.out.keeps K6 (fun g hg e => (HV5.out g hg).1 e)).cast (by simp), rfl⟩, ?_⟩, fun g hg => (HV5.out g hg).2.elim (HRR.out g) id, ?_, by rw [HEND.out]; exact HBN.out, by rw [HEND.out]; exact HPP.out⟩
                          · show Blk _ L 64 (lgCells D (F : Nat) _ (0 : Nat) (endL (acc ++ [s.extract a b]) : Nat))
                            rw [HEND.out]
                            exact (HB5.out.set 2 _).set 4 _
                          · exact ⟨hF6, by show endL (acc ++ [s.extract a b]) ≤ _; rw [HEND.out]; have := HBN.out; have := HN.out.2; omega, Nat.zero_le _⟩
                          · exact (hKw5.setCell (p := ⟨L, 2, none⟩) (.inl (HLge.out)) _).setCell (p := ⟨L, 4, none⟩) (.inl (HLge.out)) _
                        case measure =>
                          have e1 : endOf L wr = k := by unfold endOf; rw [c4]; simp [intOf]
                          have e2 : endOf L ((w5.setCell ⟨L, 2, none⟩ (.slice p5 n5 c5)).setCell ⟨L, 4, none⟩ (.int .i64 (b : Nat))) = b := by
                            unfold endOf
                            rw [((HB5.out.set 2 _).set 4 _).at (j := 4) (v := .int .i64 (b : Nat)) rfl]
                            simp [intOf]
                          rw [e1, e2]
                          have := HKB.out
                          have := HBN.out
                          omega
                · have hg : Wd.getP (s.extract 0 N) k 8 true = (0, false) := getP_no _ k (by rw [hx1]; omega)
                  rw [hg] at HG
                  have HB := Hd.mk (HBad2.out (by rw [HST.out, if_pos (by omega)]))
                  clear HST hg htn hx0 hx1 ht htl hd h8
                  dsimp only at HG
                  go_wp2_with fail
                  refine wp_region_lin default (fun w' => w'.cell? ⟨L, 4, none⟩ = some (.int .i64 (k : Nat)) ∧ w' = wr.drew) [(0, true), (1, true), (2, true), (3, true), (4, true), (5, true), (6, true), (7, false), (8, true), (9, true), (10, true), (11, true), (12, true)] (by kernel_rfl) (by kernel_rfl) rfl (by kernel_rfl) (by kernel_rfl) ⟨c4, rfl⟩ ?_
                  simp only [pick, List.getD_cons_zero, List.getD_cons_succ]
                  repeat
                    refine lin_free (v := ?_) (by rfl) ?_ ?_
                    rotate_left
                    · intro w' hSw
                      obtain ⟨a0, a1⟩ := hSw
                      go_simp
                      first | done | with_reducible rfl
                    simp only [Act.put, List.setIfInBounds_toArray, List.set_cons_zero, List.set_cons_succ]
                  refine lin_bound (fun K hK => ?_)
                  go_simp
                  refine (HG.out _).mono ?_
                  rintro e w3 ⟨rfl, rfl⟩
                  dsimp only
                  refine hK.out _ _ ⟨c4, rfl⟩ ?_
                  clear hK K
                  repeat
                    refine lin_free (v := ?_) (by rfl) ?_ ?_
                    rotate_left
                    · intro w' hSw
                      go_simp
                      first | done | with_reducible rfl
                    simp only [Act.put, List.setIfInBounds_toArray, List.set_cons_zero, List.set_cons_succ]
                  refine NoPanic.normal ?_
                  go_wp2
                  go_ret2
                  exact HBad.out HB.out HK.out.drew
              · have hd1 : decide ((k : Int) < (N : Int)) = false := by simp; omega
                have hkN : k = N := by have := HLE.out; omega
                have hT : (s.data.toList.take N).drop k = [] := List.drop_eq_nil_of_le (by rw [hkN]; exact List.length_take_le _ _)
                have HOL : Hd (openL s.data.toList = if (acc.length : Int) = mn then some acc else none) := ⟨by rw [HE.out, HPA.out, HKE.out, hT, parse_nil]; simp⟩
                obtain ⟨n, hn⟩ : ∃ n, acc.length = n := ⟨_, rfl⟩
                have HN' := Hd.mk hn
                rw [hn] at c2 HOL
                have fr3 := HLB.out.free 3
                have c3 : wr.cell? ⟨L, 3, none⟩ = some (.int .i64 (0 : Nat)) := HLB.out.at (j := 3) rfl
                clear hT hkN hn
                by_cases hmn : (n : Int) = mn
                · subst hmn
                  rw [if_pos rfl] at HOL
                  have e0 : Hd (openP σ (F : Int) = (0, acc)) := ⟨by rw [HP2.out, HOL.out]⟩
                  go_wp2
                  go_ret2
                  refine ⟨HK.out.setCell (p := ⟨L, 3, none⟩) (.inl HLge.out) _, .inr ⟨by rw [e0.out], L, R, rfl, ?_, HLge.out, HRR.out⟩⟩
                  rw [e0.out, ← HN'.out]
                  exact HLL.out.setSure (n := acc.length) (Nat.le_refl _)
                · have hm1 : ((n : Int) == mn) = false := by simpa using hmn
                  have hm2 : ((n : Int) != mn) = true := by simpa using hmn
                  rw [if_neg hmn] at HOL
                  clear hmn
                  go_wp2
                  go_ret2
                  exact HBad.out HOL.out HK.out
  · have hM1 : ((M : Int) != 0) = true := by simp; omega
    have e : Hd (openP σ (F : Int) = (M, [])) := ⟨by rw [HP.out, if_pos hM0]⟩
    have hn := Hd.mk hM0
    rw [if_neg hM0, strV_def] at HRd
    clear hM0 HP
    go_enter Try.func10, Try.ntmps10
    go_wp2_with fail
    refine HRd.out.mono ?_
    rintro e1 w1 ⟨rfl, k1⟩
    have K1 := Hd.mk k1
    clear k1
    go_wp2
    go_ret2
    exact ⟨K1.out, .inl ⟨by rw [e.out]; exact hn.out, by rw [e.out]; rfl⟩⟩

end Go.Proofs.Ytmcdfhihfcfbaaa.W
