/-
  The reference's Reach.
-/
import Derived.Test.YtlncfhkmjbempaaRfa
namespace Go.Proofs.Ytlncfhkmjbempaa.W
open Go.RowKit
set_option linter.unusedVariables false

def allB (n : Nat) (arcs : List Arc) (l : List Int) (u : Nat) : Bool := l.any fun r => decide (0 ≤ r) && decide (r < (n : Int)) && reachR n arcs r.toNat u
theorem allB_step {n : Nat} {arcs : List Arc} {l : List Int} {i : Nat} (hi : i < l.length) (u : Nat) : allB n arcs (l.take (i + 1)) u = (allB n arcs (l.take i) u || (decide (0 ≤ l[i]) && decide (l[i] < (n : Int)) && reachR n arcs l[i].toNat u)) := by
  have e : l.take (i + 1) = l.take i ++ [l[i]] := by rw [List.take_add_one, List.getElem?_eq_getElem hi]; rfl
  unfold allB
  rw [e, List.any_append]
  simp
theorem allB_reach {n : Nat} {arcs : List Arc} {roots : List Int} : (List.range n).filter (allB n arcs roots) = reachL n arcs roots := by
  unfold reachL
  refine List.filter_congr (fun x hx => ?_)
  have hxn := List.mem_range.1 hx
  rw [Bool.eq_iff_iff, List.contains_iff_mem]
  have h1 : x ∈ Tj.heads (wavesOf n arcs roots) ↔ ∃ r, r < n ∧ (r : Int) ∈ roots ∧ Tj.Rch (nx n arcs) r x := by
    have := mem_reachL (n := n) (arcs := arcs) (roots := roots) (x := x)
    unfold reachL at this
    rw [List.mem_filter, List.contains_iff_mem] at this
    exact ⟨fun h => (this.1 ⟨hx, h⟩).2, fun h => (this.2 ⟨hxn, h⟩).2⟩
  rw [h1]
  unfold allB
  simp only [List.any_eq_true, Bool.and_eq_true, decide_eq_true_eq]
  constructor
  · rintro ⟨r, hr, ⟨h2, h3⟩, h4⟩
    obtain ⟨u, rfl⟩ := nat_of h2
    exact ⟨u, by omega, hr, (reachR_iff (by omega)).1 h4⟩
  · rintro ⟨r, h2, h3, h4⟩
    exact ⟨(r : Int), h3, ⟨by omega, by omega⟩, (reachR_iff h2).2 h4⟩
/-- the first k of those that S holds of -/
def fltN (S : Nat → Bool) (k : Nat) : List Nat := (List.range k).filter S
theorem fltN_succ (S : Nat → Bool) (k : Nat) : fltN S (k + 1) = if S k = true then fltN S k ++ [k] else fltN S k := by
  unfold fltN
  rw [List.range_succ, List.filter_append, List.filter_cons]
  split <;> simp
theorem fltN_len (S : Nat → Bool) (k : Nat) : (fltN S k).length ≤ k := Nat.le_trans (List.length_filter_le _ _) (by simp)

set_option maxHeartbeats 4000000 in
set_option maxRecDepth 100000 in
theorem rreach_any (w : World) (n : Int) (hn : n ≤ 1000) (v rv : Value) (arcs : List Arc) (roots : List Int) (hR : Rw 2 Arc.E w v arcs) (hl : arcs.length ≤ 1000000) (hRr : RI w rv roots) (hrl : roots.length ≤ 1000000) :
    Calls Try.prog 19 #[.int .i64 n, v, rv] w fun e w' => ∃ v', e = .returned v' ∧ RI w' v' (reachQ n arcs roots) ∧ Below w.heap.size w w' := by
  obtain ⟨p, c, hv⟩ := hR.slice
  obtain ⟨q, d, hrv⟩ := Rw.slice hRr
  obtain ⟨M, hM⟩ : ∃ M, arcs.length = M := ⟨_, rfl⟩
  obtain ⟨K, hK⟩ : ∃ K, roots.length = K := ⟨_, rfl⟩
  rw [hM] at hv
  rw [hK] at hrv
  subst hv hrv
  have HC := Hd.mk (rright_any w n (.slice p M c) arcs hR hl)
  have H := Hd.mk hR
  have HRr := Hd.mk hRr
  have HN := Hd.mk (And.intro hM hK)
  have hMb : M ≤ 1000000 := by omega
  have hKb : K ≤ 1000000 := by omega
  clear hR hRr hM hK
  rcases hrb : rightB n arcs with _ | _
  · rw [hrb] at HC
    have HNo := Hd.mk hrb
    clear hrb hl hrl
    go_enter Try.func19, Try.ntmps19
    go_wp2_with fail
    refine HC.out.mono ?_
    rintro e w1 ⟨rfl, rfl⟩
    go_wp2
    go_ret
    exact ⟨_, rfl, by unfold reachQ; rw [HNo.out]; exact Rw.nil _, Below.refl _ _⟩
  rw [hrb] at HC
  obtain ⟨m, rfl⟩ := nat_of (right_is hrb).1
  have HRb := Hd.mk hrb
  have hm : m ≤ 1000 := by omega
  obtain ⟨g, hg⟩ : ∃ g, w.heap.size = g := ⟨_, rfl⟩
  have HG := Hd.mk hg
  have mz := make_bools w m (by omega)
  rw [hg] at mz
  have HMZ := Hd.mk mz
  have HB0 : Hd (Below w.heap.size w (w.alloc (.cells (List.replicate m (.bool false)).toArray 4))) := ⟨below_al _ _⟩
  have HK0 : Hd (Blk (w.alloc (.cells (List.replicate m (.bool false)).toArray 4)) g 4 (bitC m fun _ => false)) := ⟨by
    rw [← hg]
    exact (Blk.new w 4 (List.replicate m (.bool false))).cast (bitC_zero m)⟩
  have HFr := Hd.mk (fun (w' : World) (hb : Below w.heap.size w w') (k : Nat) (hk : k < m) => rfrom_any w' m hm (.slice p M c) arcs k hk (H.out.below Arc.stays hb) hl HRb.out)
  clear hrb hg mz hl hrl
  go_enter Try.func19, Try.ntmps19
  go_wp2_with fail
  refine HC.out.mono ?_
  rintro e w1 ⟨rfl, rfl⟩
  clear HC
  go_upto_region 3 with (fail)
  go_cut [7] from 13 (fun s7 wx => s7 = .slice (some ⟨g, 0, none⟩) m m ∧ Hd (Blk wx g 4 (bitC m (allB m arcs (roots.take 0)))) ∧ Hd (Below w.heap.size w wx))
  case first =>
    have mz := HMZ.out
    go_wp2
    go_meet
    exact ⟨rfl, HK0, HB0⟩
  case rest =>
  obtain ⟨rfl, HK1, HB1⟩ := hcut
  clear HK0 HB0 HMZ
  go_step
  go_step
  go_cut [] from 13 (fun wx => Hd (Blk wx g 4 (bitC m (allB m arcs roots))) ∧ Hd (Below w.heap.size w wx))
  case first =>
    go_wp2
    go_loopw [8] (fun iv wr => ∃ i : Nat, i ≤ K ∧ iv = .int .i64 (i : Int) ∧ Hd (Blk wr g 4 (bitC m (allB m arcs (roots.take i)))) ∧ Hd (Below w.heap.size w wr)) (fun iv _ => K - (intOf iv).toNat)
    case atStart => exact ⟨0, Nat.zero_le _, rfl, HK1, HB1⟩
    case round =>
      clear HK1 HB1
      obtain ⟨i, hi, rfl, HK, HB⟩ := hrel
      by_cases hlt : i < K
      · have hd1 : decide ((i : Int) < (K : Int)) = true := decide_eq_true (by omega)
        have hmi : K - (intOf (.int .i64 ((i : Int) + 1))).toNat < K - (intOf (.int .i64 (i : Int))).toNat := by simp [intOf]; omega
        have hiq : i < roots.length := by rw [HN.out.2]; exact hlt
        obtain ⟨gr, o, e2, hE⟩ := RI.ever HRr.out (by omega)
        subst e2
        have ck := hE i hiq wr HB.out
        have hst := fun u => allB_step (n := m) (arcs := arcs) hiq u
        obtain ⟨x, hx⟩ : ∃ x, roots[i] = x := ⟨_, rfl⟩
        rw [hx] at ck
        simp only [hx] at hst
        have HSt := Hd.mk hst
        clear hE hx hiq hst
        by_cases h0 : 0 ≤ x
        · have g1 : decide (0 ≤ x) = true := decide_eq_true h0
          by_cases h1 : x < (m : Int)
          · have g2 : decide (x < (m : Int)) = true := decide_eq_true h1
            obtain ⟨k, rfl⟩ := nat_of h0
            have hkm : k < m := by omega
            have HF1 := Hd.mk (HFr.out wr HB.out k hkm)
            have HS2 : Hd (∀ u, allB m arcs (roots.take (i + 1)) u = (allB m arcs (roots.take i) u || reachR m arcs k u)) := ⟨fun u => by rw [HSt.out u, g1, g2]; rfl⟩
            obtain ⟨S, hS⟩ : ∃ S, allB m arcs (roots.take i) = S := ⟨_, rfl⟩
            rw [hS] at HS2 HK
            obtain ⟨R, hRr⟩ : ∃ R, reachR m arcs k = R := ⟨_, rfl⟩
            rw [hRr] at HS2 HF1
            clear hS hRr HSt
            go_wp2_with fail
            refine HF1.out.mono ?_
            rintro e w2 ⟨gl, rfl, hgl, hKl, b2⟩
            have hgw : g < wr.heap.size := HK.out.lt
            have HKa : Hd (Blk w2 g 4 (bitC m fun u => if u < 0 then S u || R u else S u)) := ⟨(HK.out.below b2 hgw).cast (bitC_congr (fun u _ => by simp))⟩
            have HKl := Hd.mk hKl
            have HB2 := Hd.mk (HB.out.trans (b2.mono HB.out.size))
            have hne : gl ≠ g := by omega
            clear hKl b2 HF1 hgl hgw HK HB
            go_wp2
            go_loopw [10] (fun jv wq => ∃ j : Nat, j ≤ m ∧ jv = .int .i64 (j : Int) ∧ Hd (Blk wq g 4 (bitC m fun u => if u < j then S u || R u else S u)) ∧ Hd (Blk wq gl 4 (bitC m R)) ∧ Hd (Below w.heap.size w wq)) (fun jv _ => m - (intOf jv).toNat)
            case atStart => exact ⟨0, Nat.zero_le _, rfl, HKa, HKl, HB2⟩
            case round =>
              clear HKa HKl HB2
              obtain ⟨j, hj, rfl, HKa, HKl, HB2⟩ := hrel
              by_cases hlj : j < m
              · have hd2 : decide ((j : Int) < (m : Int)) = true := decide_eq_true (by omega)
                have hmj : m - (intOf (.int .i64 ((j : Int) + 1))).toNat < m - (intOf (.int .i64 (j : Int))).toNat := by simp [intOf]; omega
                have ca := HKa.out.at (bitC_at (S := fun u => if u < j then S u || R u else S u) hlj)
                simp only [Nat.lt_irrefl, if_false] at ca
                have za := HKa.out.free j
                have cl := HKl.out.at (bitC_at (S := R) hlj)
                have HK3 : ∀ b : Bool, b = (S j || R j) → Hd (Blk (wr.setCell ⟨g, j, none⟩ (.bool b)) g 4 (bitC m fun u => if u < j + 1 then S u || R u else S u)) := fun b hb => ⟨by
                  refine (HKa.out.set j (.bool b)).cast ?_
                  rw [bitC_set]
                  refine bitC_congr (fun u _ => ?_)
                  by_cases e1 : u = j
                  · subst e1; simp [hb]
                  · by_cases e2 : u < j
                    · simp [e1, e2, show u < j + 1 by omega]
                    · simp [e1, e2, show ¬ u < j + 1 by omega]⟩
                have HKl3 : ∀ b : Bool, Hd (Blk (wr.setCell ⟨g, j, none⟩ (.bool b)) gl 4 (bitC m R)) := fun b => ⟨HKl.out.other (a := ⟨g, j, none⟩) (fun h => hne h.symm) _⟩
                have HB3 : ∀ b : Bool, Hd (Below w.heap.size w (wr.setCell ⟨g, j, none⟩ (.bool b))) := fun b => ⟨set_below (by rw [HG.out]; exact Nat.le_refl _) HB2.out⟩
                rcases hSj : S j with _ | _
                · rw [hSj] at ca HK3
                  rcases hRj : R j with _ | _
                  · rw [hRj] at cl HK3
                    have HK4 := HK3 false rfl
                    have HKl4 := HKl3 false
                    have HB4 := HB3 false
                    clear HK3 HKl3 HB3 hSj hRj HKa HKl HB2
                    go_wp2
                    exact ⟨⟨j + 1, hlj, by go_num, HK4, HKl4, HB4⟩, hmj⟩
                  · rw [hRj] at cl HK3
                    have HK4 := HK3 true rfl
                    have HKl4 := HKl3 true
                    have HB4 := HB3 true
                    clear HK3 HKl3 HB3 hSj hRj HKa HKl HB2
                    go_wp2
                    exact ⟨⟨j + 1, hlj, by go_num, HK4, HKl4, HB4⟩, hmj⟩
                · rw [hSj] at ca HK3
                  have HK4 := HK3 true rfl
                  have HKl4 := HKl3 true
                  have HB4 := HB3 true
                  clear HK3 HKl3 HB3 hSj HKa HKl HB2 cl
                  go_wp2
                  exact ⟨⟨j + 1, hlj, by go_num, HK4, HKl4, HB4⟩, hmj⟩
              · have hd2 : decide ((j : Int) < (m : Int)) = false := decide_eq_false (by omega)
                have HKe : Hd (Blk wr g 4 (bitC m (allB m arcs (roots.take (i + 1))))) := ⟨HKa.out.cast (bitC_congr (fun u hu => by rw [HS2.out u]; simp [show u < j by omega]))⟩
                clear HKa HKl
                go_wp2
                exact ⟨⟨i + 1, hlt, by go_num, HKe, HB2⟩, hmi⟩
          · have g2 : decide (x < (m : Int)) = false := decide_eq_false h1
            have HKe : Hd (Blk wr g 4 (bitC m (allB m arcs (roots.take (i + 1))))) := ⟨HK.out.cast (bitC_congr (fun u hu => by rw [HSt.out u, g1, g2]; simp))⟩
            clear HSt HK
            go_wp2
            exact ⟨⟨i + 1, hlt, by go_num, HKe, HB⟩, hmi⟩
        · have g1 : decide (0 ≤ x) = false := decide_eq_false h0
          have HKe : Hd (Blk wr g 4 (bitC m (allB m arcs (roots.take (i + 1))))) := ⟨HK.out.cast (bitC_congr (fun u hu => by rw [HSt.out u, g1]; simp))⟩
          clear HSt HK
          go_wp2
          exact ⟨⟨i + 1, hlt, by go_num, HKe, HB⟩, hmi⟩
      · have hd1 : decide ((i : Int) < (K : Int)) = false := decide_eq_false (by omega)
        have HKe : Hd (Blk wr g 4 (bitC m (allB m arcs roots))) := ⟨by
          have := HK.out
          rw [List.take_of_length_le (by rw [HN.out.2]; omega)] at this
          exact this⟩
        clear HK
        go_wp2
        go_meet
        exact ⟨HKe, HB⟩
  case rest =>
  obtain ⟨HK, HB⟩ := hcut
  rename World => w5
  clear HK1 HB1
  obtain ⟨S, hS⟩ : ∃ S, allB m arcs roots = S := ⟨_, rfl⟩
  have HE : Hd (intL (fltN S m) = reachQ (m : Int) arcs roots) := ⟨by
    unfold reachQ
    rw [HRb.out]
    show _ = intL (reachL m arcs roots)
    rw [← allB_reach, ← hS]; rfl⟩
  rw [hS] at HK
  have hgw : g < w5.heap.size := HK.out.lt
  clear hS
  go_wp2
  go_loopw [12, 11] (fun kv ov wr => ∃ k : Nat, k ≤ m ∧ kv = .int .i64 (k : Int) ∧ Hd (Own wr w5.heap.size 3 ov (intC (fltN S k))) ∧ Hd (Below w5.heap.size w5 wr)) (fun kv _ _ => m - (intOf kv).toNat)
  case atStart => exact ⟨0, Nat.zero_le _, rfl, ⟨Own.nil _ _ _⟩, ⟨Below.refl _ _⟩⟩
  case round =>
    obtain ⟨k, hk, rfl, HO, HK5⟩ := hrel
    by_cases hlt : k < m
    · have hd1 : decide ((k : Int) < (m : Int)) = true := decide_eq_true (by omega)
      have hmk : m - (intOf (.int .i64 ((k : Int) + 1))).toNat < m - (intOf (.int .i64 (k : Int))).toNat := by simp [intOf]; omega
      have cx := (HK.out.below HK5.out hgw).at (bitC_at (S := S) hlt)
      have hsucc := fltN_succ S k
      rcases hSk : S k with _ | _
      · rw [hSk] at cx hsucc
        rw [if_neg (by simp)] at hsucc
        have HO2 : Hd (Own wr w5.heap.size 3 u11 (intC (fltN S (k + 1)))) := ⟨by rw [hsucc]; exact HO.out⟩
        clear hSk hsucc HO
        go_wp2
        exact ⟨⟨k + 1, hlt, by go_num, HO2, HK5⟩, hmk⟩
      · rw [hSk] at cx hsucc
        rw [if_pos rfl] at hsucc
        have HSu := Hd.mk hsucc
        have HLn := Hd.mk (fltN_len S k)
        obtain ⟨i0, hi0, hz0, hz1, hz2⟩ := info_parts infoInt
        have HI0 := Hd.mk (And.intro hi0 (And.intro hz0 (And.intro hz1 hz2)))
        clear hi0 hz0 hz1 hz2 hSk hsucc
        go_wp2_with (at_builtin; refine wp_app1 rfl _ _ 23 rfl 3 Try.underlying23 HI0.out.1 HI0.out.2.1 HI0.out.2.2.1 HI0.out.2.2.2 rfl u11 (intC (fltN S k)) _ wr rfl HO.out rfl rfl (by have := HLn.out; simp only [intC, List.length_map]; unfold maxLen; omega) (by have := HLn.out; simp only [intC, List.length_map]; omega) HK5.out.size ?_)
        intro ov7 w7 h1 h2 h3
        have HO7 : Hd (Own w7 w5.heap.size 3 ov7 (intC (fltN S (k + 1)))) := ⟨by
          rw [HSu.out, show intC (fltN S k ++ [k]) = intC (fltN S k) ++ [.int .i64 (k : Int)] by simp [intC]]
          exact h1⟩
        have HB7 : Hd (Below w5.heap.size w5 w7) := ⟨HK5.out.trans (h2.below HK5.out.size (fun g hg hr => by have := (HO.out.lt hr).1; omega))⟩
        clear h1 h2 h3 HO HK5
        go_wp2_with fail
        exact ⟨⟨k + 1, hlt, by go_num, HO7, HB7⟩, hmk⟩
    · have hd1 : decide ((k : Int) < (m : Int)) = false := decide_eq_false (by omega)
      have HOe : Hd (RI wr u11 (reachQ (m : Int) arcs roots)) := ⟨by
        rw [← HE.out, show m = k by omega]
        exact RI.ofN HO.out⟩
      have HBe : Hd (Below w.heap.size w wr) := ⟨HB.out.trans (HK5.out.mono HB.out.size)⟩
      clear HO HK5
      go_wp2
      go_ret
      exact ⟨_, rfl, HOe.out, HBe.out⟩

end Go.Proofs.Ytlncfhkmjbempaa.W
