/-
  The walk of DiskArms.
-/
import Derived.Test.YtcleocgaooblfaaArmsP
import Derived.Test.YtcleocgaooblfaaReord
import Derived.Test.YtcleocgaooblfaaArgE
namespace Go.Proofs.Ytcleocgaooblfaa.W
open Go.RowKit
set_option linter.unusedVariables false

/-- the sum of the first k strings' lengths -/
def tot (ss : List ByteArray) (k : Nat) : Nat := ((ss.take k).map ByteArray.size).sum
theorem tot_zero (ss : List ByteArray) : tot ss 0 = 0 := rfl
theorem tot_succ (ss : List ByteArray) (k : Nat) (h : k < ss.length) : tot ss (k + 1) = tot ss k + ss[k].size := by
  unfold tot
  rw [List.take_succ_eq_append_getElem h, List.map_append, List.sum_append]
  simp
theorem tot_le (ss : List ByteArray) (M : Nat) (h : ∀ s ∈ ss, s.size ≤ M) : ∀ k, tot ss k ≤ k * M
  | 0 => by simp [tot]
  | k + 1 => by
    have ih := tot_le ss M h k
    by_cases hk : k < ss.length
    · rw [tot_succ ss k hk, Nat.succ_mul]
      have := h _ (List.getElem_mem hk)
      omega
    · have : tot ss (k + 1) = tot ss k := by unfold tot; rw [List.take_of_length_le (by omega), List.take_of_length_le (by omega)]
      rw [this, Nat.succ_mul]; omega
theorem tot_mono (ss : List ByteArray) (k n : Nat) (h : k ≤ n) : tot ss k ≤ tot ss n := by
  induction n with
  | zero => have : k = 0 := by omega
            subst this; exact Nat.le_refl _
  | succ n ih =>
    rcases Nat.lt_or_ge k (n + 1) with h' | h'
    · refine Nat.le_trans (ih (by omega)) ?_
      by_cases hn : n < ss.length
      · rw [tot_succ ss n hn]; omega
      · have : tot ss (n + 1) = tot ss n := by unfold tot; rw [List.take_of_length_le (by omega), List.take_of_length_le (by omega)]
        omega
    · have : k = n + 1 := by omega
      subst this; exact Nat.le_refl _

theorem fit_aU (ks : List Int) (a b : List UInt8) (q : List Pn) (m : Nat) (hk : ks.length ≤ 1000) (hm : m ≤ 1000) (hq : q.length ≤ 100000) : Fit (aU ks a b q m) :=
  ⟨Nat.le_trans hm (by decide), Nat.zero_le _, Nat.le_trans hk (by decide), Nat.le_trans hq (by decide)⟩
theorem fit_aD (ks : List Int) (c : List UInt8) (d : Bool) (hk : ks.length ≤ 1000) : Fit (aD ks c d) :=
  ⟨Nat.zero_le _, Nat.zero_le _, Nat.le_trans hk (by decide), Nat.zero_le _⟩

structure ArmI (ks : List Int) (n0 t : Nat) (sf rs : ByteArray) (c : Nat) (σ : St) : Prop where
  len : sf.size + rs.size = t
  st : (∃ q, QB q sf.data.toList.length (sf.data.toList.length + rs.data.toList.length) ∧ c < n0 ∧ σ = aU ks sf.data.toList rs.data.toList q (n0 - c)) ∨
    (∃ X : ByteArray, CB ks sf.data.toList t X.data.toList ∧ c = n0 ∧ σ = aD ks X.data.toList true)

theorem ext_bytes {a b : ByteArray} (h : a.data.toList = b.data.toList) : a = b := by
  cases a; cases b; simp at h; rw [h]

/-- the write of a round, that does not crash -/
theorem armi_write {ks : List Int} {n0 t c : Nat} {sf rs s : ByteArray} {q : List Pn} (hlen : sf.size + rs.size = t) (hT : t + s.size ≤ 20000) (hq : QB q sf.data.toList.length (sf.data.toList.length + rs.data.toList.length)) (hc : c + 1 < n0) :
    WriteE (aU ks sf.data.toList rs.data.toList q (n0 - c)) 0 ((sf.size : Int) + (rs.size : Int)) s.data.toList = 0 ∧ ∃ q', QB q' sf.data.toList.length (sf.data.toList.length + (rs ++ s).data.toList.length) ∧
      WriteS (aU ks sf.data.toList rs.data.toList q (n0 - c)) 0 ((sf.size : Int) + (rs.size : Int)) s.data.toList = aU ks sf.data.toList (rs ++ s).data.toList q' (n0 - (c + 1)) := by
  have := arms_write ks sf.data.toList rs.data.toList s.data.toList q (n0 - (c + 1)) (by omega) hq (by rw [size_list, size_list, size_list]; omega)
  rw [show n0 - (c + 1) + 1 = n0 - c by omega, size_list, size_list, Int.natCast_add] at this
  rw [append_list]
  simpa only [size_list] using this
theorem armi_writeC {ks : List Int} {n0 t c : Nat} {sf rs s : ByteArray} {q : List Pn} (hlen : sf.size + rs.size = t) (hT : t + s.size ≤ 20000) (hq : QB q sf.data.toList.length (sf.data.toList.length + rs.data.toList.length)) (hc : c + 1 = n0) :
    WriteE (aU ks sf.data.toList rs.data.toList q (n0 - c)) 0 ((sf.size : Int) + (rs.size : Int)) s.data.toList = 10 ∧ ∃ X : ByteArray, CB ks sf.data.toList (t + s.size) X.data.toList ∧
      WriteS (aU ks sf.data.toList rs.data.toList q (n0 - c)) 0 ((sf.size : Int) + (rs.size : Int)) s.data.toList = aD ks X.data.toList true := by
  obtain ⟨h1, x, h2, h3⟩ := arms_writeC ks sf.data.toList rs.data.toList s.data.toList q hq (by rw [size_list, size_list, size_list]; omega)
  rw [show n0 - c = 1 by omega]
  rw [size_list, size_list, Int.natCast_add] at h1 h3
  rw [List.length_append, size_list, size_list, size_list, show sf.size + (rs.size + s.size) = t + s.size by omega] at h2
  exact ⟨h1, ⟨x.toArray⟩, h2, h3⟩
theorem armi_flush {ks : List Int} {n0 c : Nat} {sf rs : ByteArray} {q : List Pn} (hq : QB q sf.data.toList.length (sf.data.toList.length + rs.data.toList.length)) (hc : c + 1 < n0) :
    FlushE (aU ks sf.data.toList rs.data.toList q (n0 - c)) 0 = 0 ∧ FlushS (aU ks sf.data.toList rs.data.toList q (n0 - c)) 0 = aU ks (sf ++ rs).data.toList (⟨#[]⟩ : ByteArray).data.toList [] (n0 - (c + 1)) := by
  have := arms_flush ks sf.data.toList rs.data.toList q (n0 - (c + 1)) (by omega) hq
  rw [show n0 - (c + 1) + 1 = n0 - c by omega] at this
  rw [append_list]
  exact this
theorem armi_flushC {ks : List Int} {n0 t c : Nat} {sf rs : ByteArray} {q : List Pn} (hlen : sf.size + rs.size = t) (hq : QB q sf.data.toList.length (sf.data.toList.length + rs.data.toList.length)) (hc : c + 1 = n0) :
    FlushE (aU ks sf.data.toList rs.data.toList q (n0 - c)) 0 = 10 ∧ ∃ X : ByteArray, CB ks sf.data.toList t X.data.toList ∧ FlushS (aU ks sf.data.toList rs.data.toList q (n0 - c)) 0 = aD ks X.data.toList true := by
  obtain ⟨h1, x, h2, h3⟩ := arms_flushC ks sf.data.toList rs.data.toList q hq
  rw [show n0 - c = 1 by omega]
  rw [size_list, size_list, hlen] at h2
  exact ⟨h1, ⟨x.toArray⟩, h2, h3⟩

set_option maxHeartbeats 2000000 in
set_option maxRecDepth 100000 in
theorem arms_any (W : World) (v : Value) (ss : List ByteArray) (n : Int) (vk : Value) (ks : List Int) (hv : ArgStrs W v ss) (hn : -9223372036854775808 ≤ n ∧ n ≤ 9223372036854775807) (hk : ArgInts W vk ks) :
    Calls Try.prog 6 #[v, .int .i64 n, vk] W fun e w' => e = .returned (.bool true) ∧ Below W.heap.size W w' := by
  obtain ⟨pv, cv, rfl⟩ := hv.row.slice
  obtain ⟨pk, ck, rfl⟩ := hk.row.slice
  have HV := Hd.mk hv
  have HK := Hd.mk hk
  have lN := hv.len
  have lK := hk.len
  obtain ⟨N, hN⟩ : ∃ N, ss.length = N := ⟨_, rfl⟩
  obtain ⟨K, hK⟩ : ∃ K, ks.length = K := ⟨_, rfl⟩
  rw [hN] at lN HV
  rw [hK] at lK HK
  rw [hN, hK]
  have HN := Hd.mk hN
  have HKL := Hd.mk hK
  clear hv hk hN hK
  have hcell : ∀ j, j < N → ∃ g o s, pv = some ⟨g, o, none⟩ ∧ ss[j]? = some s ∧ s.size ≤ 140737488351232 ∧ ∀ w, Below W.heap.size W w → w.cell? ⟨g, o + j, none⟩ = some (.string s) := fun j hj => by
    have hj' : j < ss.length := HN.out ▸ hj
    obtain ⟨g, o, h1, h2, h3⟩ := HV.out.at rfl hj'
    exact ⟨g, o, ss[j], h1, List.getElem?_eq_getElem hj', h2, h3⟩
  have HC := Hd.mk hcell; clear hcell
  go_enter Try.func6, Try.ntmps6
  go_wp2_with fail
  refine (small_any W).mono ?_; rintro e wa ⟨rfl, hb0⟩
  have B0 := Hd.mk hb0; clear hb0
  go_wp2_with fail
  refine (One.new wa).mono ?_; rintro e w0 ⟨D, rfl, h0⟩
  have H0 := Hd.mk h0; clear h0
  have hend : ∀ {w' : World} {σ : St}, One wa w' D σ → Below W.heap.size W w' := fun h => Below.chain B0.out h.below
  have HEnd := Hd.mk @hend; clear hend
  have HB := Hd.mk (HEnd.out H0.out)
  by_cases h50 : N ≤ 50
  · have d50 : decide ((50 : Int) < (N : Int)) = false := by simp; omega
    have H50 := Hd.mk h50
    go_wp2_with fail
    go_loop [9, 10] (fun s i => ∃ k : Nat, k ≤ N ∧ i = .int .i64 k ∧ s = .int .i64 (tot ss k : Nat)) (fun _ i => N - (intOf i).toNat)
    case atStart => exact ⟨0, Nat.zero_le _, rfl, rfl⟩
    case round =>
      obtain ⟨k, hk, rfl, rfl⟩ := hrel
      have hM := tot_le ss 140737488351232 (fun s hs => by
        obtain ⟨j, hj, rfl⟩ := List.getElem_of_mem hs
        obtain ⟨_, _, s, _, h2, h3, _⟩ := HC.out j (HN.out ▸ hj)
        rw [List.getElem?_eq_getElem hj] at h2
        exact Option.some.inj h2 ▸ h3) k
      by_cases hlt : k < N
      · have hd1 : decide ((k : Int) < (N : Int)) = true := by simp; omega
        obtain ⟨g, o, s, rfl, hs, hs2, hc⟩ := HC.out k hlt
        have c := hc w0 HB.out
        have ht : tot ss (k + 1) = tot ss k + s.size := by
          rw [tot_succ ss k (HN.out ▸ hlt)]
          have := List.getElem?_eq_getElem (HN.out ▸ hlt : k < ss.length)
          rw [hs] at this
          rw [Option.some.inj this]
        have HT := Hd.mk ht
        have hb : tot ss k ≤ 9223372036854775807 - 140737488351232 := by omega
        obtain ⟨T, hT⟩ : ∃ T, tot ss k = T := ⟨_, rfl⟩
        rw [hT] at hb HT
        rw [hT]
        clear ht hs hc hM hT
        go_wp2
        go_round
        case rel => exact ⟨k + 1, hlt, by go_num, by rw [HT.out]; go_num⟩
        case measure => simp [intOf]; omega
      · have hd1 : decide ((k : Int) < (N : Int)) = false := by simp; omega
        obtain rfl : N = k := by omega
        have hnn : ¬ N < N := Nat.lt_irrefl _
        have H20 : ¬ 20000 < tot ss N ∨ 20000 < tot ss N := by omega
        clear hM hk hlt
        by_cases hT : 20000 < tot ss N
        · have t1 : (20000 : Int) < ((tot ss N : Nat) : Int) := by omega
          clear H20
          obtain ⟨T, hTT⟩ : ∃ T, tot ss N = T := ⟨_, rfl⟩
          rw [hTT] at t1 hT ⊢
          clear hT hTT
          go_wp2
          go_ret
          exact ⟨rfl, HB.out⟩
        · have t1 : ¬ (20000 : Int) < ((tot ss N : Nat) : Int) := by omega
          have HT : Hd (tot ss N ≤ 20000) := ⟨by omega⟩
          clear H20
          obtain ⟨T, hTT⟩ : ∃ T, tot ss N = T := ⟨_, rfl⟩
          rw [hTT] at t1 hT ⊢
          clear hT
          have HTT := Hd.mk hTT
          clear hTT
          by_cases n1 : n < 1
          · go_wp2
            go_ret
            exact ⟨rfl, HB.out⟩
          by_cases n2 : 100 < n
          · go_wp2
            go_ret
            exact ⟨rfl, HB.out⟩
          by_cases k1 : 1000 < K
          · have k1' : (1000 : Int) < (K : Int) := by omega
            go_wp2
            go_ret
            exact ⟨rfl, HB.out⟩
          have k1' : ¬ (1000 : Int) < (K : Int) := by omega
          have HK1 : Hd (K ≤ 1000) := ⟨by omega⟩
          have HNB : Hd (1 ≤ n ∧ n ≤ 100) := ⟨by omega⟩
          clear k1
          have hnew : One wa w0 D newS := H0.out
          go_wp2_with fail
          refine (H0.out.arm n _ ks _ (by have := HK1.out; rw [HKL.out]; omega) ((HK.out.row.below HB.out).mono (fun g e => e.elim)) (arms_new n ks (by have := HNB.out; omega))).mono ?_; rintro e w1 ⟨rfl, h1⟩
          have H1 := Hd.mk h1; clear h1
          obtain ⟨n0, rfl⟩ : ∃ n0 : Nat, n = (n0 : Int) := ⟨n.toNat, by have := HNB.out; omega⟩
          obtain ⟨nv, hnv⟩ : ∃ nv : Int, (n0 : Int) = nv := ⟨_, rfl⟩
          rw [Int.toNat_natCast] at H1
          rw [hnv] at HNB n1 n2 ⊢
          have HNV := Hd.mk hnv
          have HKK : Hd (ks.length ≤ 1000) := ⟨by have := HK1.out; rw [HKL.out]; omega⟩
          have HN0 : Hd (n0 ≤ 100 ∧ 1 ≤ n0) := ⟨by have := HNB.out; omega⟩
          clear hnv n1 n2 k1'
          have I0 : ArmI ks n0 (tot ss 0) ⟨#[]⟩ ⟨#[]⟩ 0 (aU ks [] [] [] n0) := ⟨rfl, .inl ⟨[], ⟨by simp, by simp⟩, by have := HN0.out; omega, rfl⟩⟩
          have HI0 := Hd.mk I0
          clear I0 hnew
          go_wp2_with fail
          go_loopw [11, 12, 13, 14] (fun sv rv kv iv wr => ∃ (k c : Nat) (sf rs : ByteArray) (σ : St), k ≤ N ∧ iv = .int .i64 k ∧ kv = .int .i64 c ∧ sv = .string sf ∧ rv = .string rs ∧ One wa wr D σ ∧ ArmI ks n0 (tot ss k) sf rs c σ) (fun _ _ _ iv _ => N - (intOf iv).toNat)
          case atStart => exact ⟨0, 0, _, _, _, Nat.zero_le _, rfl, rfl, rfl, rfl, H1.out, HI0.out⟩
          case round =>
            clear H1 HI0
            obtain ⟨k, c, sf, rs, σ, hk, rfl, rfl, rfl, rfl, h1, hI⟩ := hrel
            have H1 := Hd.mk h1
            have HL := Hd.mk hI.len
            have HTk : Hd (tot ss k ≤ 20000) := ⟨Nat.le_trans (tot_mono ss k N hk) HT.out⟩
            rcases hI.st with ⟨q, hq, hcn, rfl⟩ | ⟨X, hX, hcn, rfl⟩
            · have HQ := Hd.mk hq
              have HCN := Hd.mk hcn
              clear hI h1 hq hcn
              by_cases hlt : k < N
              · have hd1 : decide ((k : Int) < (N : Int)) = true := by simp; omega
                obtain ⟨g, o, s, rfl, hs, hs2, hc⟩ := HC.out k hlt
                have cc := hc wr (HEnd.out H1.out)
                have ht : tot ss (k + 1) = tot ss k + s.size := by
                  rw [tot_succ ss k (HN.out ▸ hlt)]
                  have := List.getElem?_eq_getElem (HN.out ▸ hlt : k < ss.length)
                  rw [hs] at this
                  rw [Option.some.inj this]
                have HT1 : Hd (tot ss k + s.size ≤ 20000) := ⟨ht ▸ Nat.le_trans (tot_mono ss (k + 1) N hlt) HT.out⟩
                have HTS := Hd.mk ht
                have HS := Hd.mk hc
                have hsz : s.size ≤ 20000 := by have := HT1.out; omega
                have hrz : rs.size ≤ 20000 := by have := HTk.out; have := HL.out; omega
                have hfz : sf.size ≤ 20000 := by have := HTk.out; have := HL.out; omega
                have hcz : c ≤ 100 := by have := HCN.out; have := HN0.out; omega
                have g1 : ¬ 9223372036854775807 < rs.size + s.size := by omega
                have g2 : ¬ 9223372036854775807 < sf.size + (rs ++ s).size := by rw [← size_list (rs ++ s), append_list, List.length_append, size_list, size_list]; have := HT1.out; have := HL.out; omega
                clear ht hs hc hs2
                by_cases hcr : c + 1 = n0
                · obtain ⟨hE, X, hX, hS⟩ := armi_writeC (ks := ks) HL.out HT1.out HQ.out hcr
                  have HE := Hd.mk hE; have HX := Hd.mk hX; have HS2 := Hd.mk hS
                  have b1 : ((c : Int) + 1 == nv) = true := by rw [beq_iff_eq, ← HNV.out]; omega
                  have b2 : decide ((c : Int) + 1 < nv) = false := by rw [decide_eq_false_iff_not, ← HNV.out]; omega
                  have HCR := Hd.mk hcr
                  clear hE hX hS hcr
                  go_wp2_with fail
                  refine (H1.out.down false rfl).mono ?_; rintro e w' ⟨rfl, rfl⟩
                  go_wp2_with fail
                  refine (H1.out.write 0 ((sf.size : Int) + (rs.size : Int)) s 10 _ (fit_aU _ _ _ _ _ HKK.out (by have := HN0.out; omega) (by have := HQ.out.n; simp only [size_list] at this; omega)) (by have := HQ.out.n; simp only [size_list] at this; simp only [aU]; omega) (by omega) (by omega) (congrArg Nat.cast HE.out) HS2.out).mono ?_; rintro e w2 ⟨rfl, h2⟩
                  have H2 := Hd.mk h2
                  have cc2 := HS.out w2 (HEnd.out H2.out)
                  have I2 : ArmI ks n0 (tot ss (k + 1)) sf (rs ++ s) (c + 1) (aD ks X.data.toList true) := ⟨by rw [HTS.out, ← size_list (rs ++ s), append_list, List.length_append, size_list, size_list]; have := HL.out; omega, .inr ⟨X, by rw [HTS.out]; exact HX.out, HCR.out, rfl⟩⟩
                  have HI2 := Hd.mk I2
                  clear h2 I2
                  by_cases hr : k % 2 = 1
                  · have hr1 : (k : Int) % 2 = 1 := by omega
                    clear hr
                    go_wp2_with fail
                    refine (H2.out.down true rfl).mono ?_; rintro e w' ⟨rfl, rfl⟩
                    go_wp2
                    exact ⟨⟨k + 1, c + 1, sf, rs ++ s, _, hlt, by go_num, by go_num, rfl, rfl, H2.out, HI2.out⟩, by simp [intOf]; omega⟩
                  · have hr1 : (k : Int) % 2 = 0 := by omega
                    clear hr
                    go_wp2
                    exact ⟨⟨k + 1, c + 1, sf, rs ++ s, _, hlt, by go_num, by go_num, rfl, rfl, H2.out, HI2.out⟩, by simp [intOf]; omega⟩
                · have hcr2 : c + 1 < n0 := by have := HCN.out; omega
                  obtain ⟨hE, q2, hq2, hS⟩ := armi_write (ks := ks) HL.out HT1.out HQ.out hcr2
                  have HE := Hd.mk hE; have HQ2 := Hd.mk hq2; have HS2 := Hd.mk hS
                  have b1 : ((c : Int) + 1 == nv) = false := by rw [beq_eq_false_iff_ne, ← HNV.out]; omega
                  have b2 : decide ((c : Int) + 1 < nv) = true := by rw [decide_eq_true_eq, ← HNV.out]; omega
                  have HCR := Hd.mk hcr2
                  clear hE hq2 hS hcr hcr2
                  go_wp2_with fail
                  refine (H1.out.down false rfl).mono ?_; rintro e w' ⟨rfl, rfl⟩
                  go_wp2_with fail
                  refine (H1.out.write 0 ((sf.size : Int) + (rs.size : Int)) s 0 _ (fit_aU _ _ _ _ _ HKK.out (by have := HN0.out; omega) (by have := HQ.out.n; simp only [size_list] at this; omega)) (by have := HQ.out.n; simp only [size_list] at this; simp only [aU]; omega) (by omega) (by omega) (congrArg Nat.cast HE.out) HS2.out).mono ?_; rintro e w2 ⟨rfl, h2⟩
                  have H2 := Hd.mk h2
                  have cc2 := HS.out w2 (HEnd.out H2.out)
                  have hl2 : sf.size + (rs ++ s).size = tot ss (k + 1) := by rw [HTS.out, ← size_list (rs ++ s), append_list, List.length_append, size_list, size_list]; have := HL.out; omega
                  have HL2 := Hd.mk hl2
                  have hqn : Hd (q2.length ≤ 20000) := ⟨by have := HQ2.out.n; rw [size_list, size_list] at this; have := HT1.out; have := HTS.out; omega⟩
                  clear h2 hl2
                  by_cases hr : k % 2 = 1
                  · have hr1 : (k : Int) % 2 = 1 := by omega
                    clear hr
                    by_cases hcr : c + 2 = n0
                    · obtain ⟨hE, X, hX, hS⟩ := armi_flushC (ks := ks) HL2.out HQ2.out hcr
                      have HE2 := Hd.mk hE; have HX := Hd.mk hX; have HS3 := Hd.mk hS
                      have b3 : ((c : Int) + 1 + 1 == nv) = true := by rw [beq_iff_eq, ← HNV.out]; omega
                      have b4 : decide ((c : Int) + 1 + 1 < nv) = false := by rw [decide_eq_false_iff_not, ← HNV.out]; omega
                      have I2 : ArmI ks n0 (tot ss (k + 1)) sf (rs ++ s) (c + 1 + 1) (aD ks X.data.toList true) := ⟨HL2.out, .inr ⟨X, HX.out, hcr, rfl⟩⟩
                      have HI2 := Hd.mk I2
                      clear hE hX hS I2 hcr
                      go_wp2_with fail
                      refine (H2.out.down false rfl).mono ?_; rintro e w' ⟨rfl, rfl⟩
                      go_wp2_with fail
                      refine (H2.out.flush 0 10 _ (fit_aU _ _ _ _ _ HKK.out (by have := HN0.out; omega) (Nat.le_trans hqn.out (by decide))) (congrArg Nat.cast HE2.out) HS3.out).mono ?_; rintro e w3 ⟨rfl, h3⟩
                      have H3 := Hd.mk h3
                      clear h3
                      go_wp2
                      exact ⟨⟨k + 1, c + 1 + 1, sf, rs ++ s, _, hlt, by go_num, by go_num, rfl, rfl, H3.out, HI2.out⟩, by simp [intOf]; omega⟩
                    · have hcr2 : c + 1 + 1 < n0 := by have := HCR.out; omega
                      obtain ⟨hE, hS⟩ := armi_flush (ks := ks) (n0 := n0) HQ2.out hcr2
                      have HE2 := Hd.mk hE; have HS3 := Hd.mk hS
                      have b3 : ((c : Int) + 1 + 1 == nv) = false := by rw [beq_eq_false_iff_ne, ← HNV.out]; omega
                      have b4 : decide ((c : Int) + 1 + 1 < nv) = true := by rw [decide_eq_true_eq, ← HNV.out]; omega
                      have I2 : ArmI ks n0 (tot ss (k + 1)) (sf ++ (rs ++ s)) ⟨#[]⟩ (c + 1 + 1) (aU ks (sf ++ (rs ++ s)).data.toList (⟨#[]⟩ : ByteArray).data.toList [] (n0 - (c + 1 + 1))) := ⟨by rw [← HL2.out, ← size_list (sf ++ (rs ++ s)), append_list, List.length_append, size_list, size_list]; rfl, .inl ⟨[], ⟨by simp, by simp⟩, hcr2, rfl⟩⟩
                      have HI2 := Hd.mk I2
                      clear hE hS I2 hcr hcr2
                      go_wp2_with fail
                      refine (H2.out.down false rfl).mono ?_; rintro e w' ⟨rfl, rfl⟩
                      go_wp2_with fail
                      refine (H2.out.flush 0 0 _ (fit_aU _ _ _ _ _ HKK.out (by have := HN0.out; omega) (Nat.le_trans hqn.out (by decide))) (congrArg Nat.cast HE2.out) HS3.out).mono ?_; rintro e w3 ⟨rfl, h3⟩
                      have H3 := Hd.mk h3
                      clear h3
                      go_wp2
                      exact ⟨⟨k + 1, c + 1 + 1, _, _, _, hlt, by go_num, by go_num, rfl, rfl, H3.out, HI2.out⟩, by simp [intOf]; omega⟩
                  · have hr1 : (k : Int) % 2 = 0 := by omega
                    have I2 : ArmI ks n0 (tot ss (k + 1)) sf (rs ++ s) (c + 1) (aU ks sf.data.toList (rs ++ s).data.toList q2 (n0 - (c + 1))) := ⟨HL2.out, .inl ⟨q2, HQ2.out, HCR.out, rfl⟩⟩
                    have HI2 := Hd.mk I2
                    clear hr I2
                    go_wp2
                    exact ⟨⟨k + 1, c + 1, sf, rs ++ s, _, hlt, by go_num, by go_num, rfl, rfl, H2.out, HI2.out⟩, by simp [intOf]; omega⟩
              · have hd1 : decide ((k : Int) < (N : Int)) = false := by simp; omega
                obtain rfl : N = k := by omega
                have hlt' : ¬ N < N := Nat.lt_irrefl _
                have g1 : ¬ 9223372036854775807 < sf.size + rs.size := by have := HTk.out; have := HL.out; omega
                have b2 : decide ((c : Int) < nv) = true := by rw [decide_eq_true_eq, ← HNV.out]; have := HCN.out; omega
                clear hlt hk
                go_wp2_with fail
                refine (H1.out.down false rfl).mono ?_; rintro e w' ⟨rfl, rfl⟩
                go_wp2_with fail
                refine (H1.out.read 0 (sf ++ rs) 0 (by rw [append_list]; rfl) rfl).mono ?_; rintro e w2 ⟨rfl, h2⟩
                have H2 := Hd.mk h2
                clear h2
                go_wp2
                go_ret
                exact ⟨rfl, HEnd.out H2.out⟩
            · have HX := Hd.mk hX
              have HCN := Hd.mk hcn
              clear hI h1 hX hcn
              have l1 : (sf.size : Int) ≤ (X.size : Int) := by have := HX.out.lo; rw [size_list, size_list] at this; omega
              have l2 : (X.size : Int) ≤ (sf.size : Int) + (rs.size : Int) := by have := HX.out.hi; rw [size_list] at this; have := HL.out; omega
              have l3 : X.size ≤ 20000 := by have := HX.out.hi; rw [size_list] at this; have := HTk.out; omega
              have l4 : rs.size ≤ 20000 := by have := HTk.out; have := HL.out; omega
              have l5 : X.extract 0 sf.size = sf := ext_bytes (by
                rw [Lib.extract_data]
                have := HX.out.pre
                rw [size_list] at this
                simpa using this)
              have l6 : K = 0 → X = sf := fun h => ext_bytes (HX.out.none (List.eq_nil_of_length_eq_zero (HKL.out ▸ h)))
              have HL6 := Hd.mk l6
              clear l6
              by_cases hlt : k < N
              case pos =>
                have hd1 : decide ((k : Int) < (N : Int)) = true := by simp; omega
                go_wp2_with fail
                refine (H1.out.down true rfl).mono ?_; rintro e w' ⟨rfl, rfl⟩
                by_cases hK0 : K = 0
                · have hd2 : ¬ 0 < K := by omega
                  have := HL6.out hK0
                  subst this
                  clear hK0
                  go_wp2_with fail
                  refine (H1.out.down true rfl).mono ?_; rintro e w' ⟨rfl, rfl⟩
                  go_wp2_with fail
                  refine (H1.out.start (aD ks X.data.toList false) rfl).mono ?_; rintro e w2 ⟨rfl, h2⟩
                  have H2 := Hd.mk h2
                  clear h2
                  go_wp2_with fail
                  refine (H2.out.read 0 X 0 rfl rfl).mono ?_; rintro e w3 ⟨rfl, h3⟩
                  have H3 := Hd.mk h3
                  clear h3
                  go_wp2
                  go_ret
                  exact ⟨rfl, HEnd.out H3.out⟩
                · have hd2 : 0 < K := by omega
                  clear hK0
                  go_wp2_with fail
                  refine (H1.out.down true rfl).mono ?_; rintro e w' ⟨rfl, rfl⟩
                  go_wp2_with fail
                  refine (H1.out.start (aD ks X.data.toList false) rfl).mono ?_; rintro e w2 ⟨rfl, h2⟩
                  have H2 := Hd.mk h2
                  clear h2
                  go_wp2_with fail
                  refine (H2.out.read 0 X 0 rfl rfl).mono ?_; rintro e w3 ⟨rfl, h3⟩
                  have H3 := Hd.mk h3
                  clear h3
                  go_wp2
                  go_ret
                  exact ⟨rfl, HEnd.out H3.out⟩
              case neg =>
                have hd1 : decide ((k : Int) < (N : Int)) = false := by simp; omega
                by_cases hK0 : K = 0
                · have hd2 : ¬ 0 < K := by omega
                  have := HL6.out hK0
                  subst this
                  clear hK0
                  go_wp2_with fail
                  refine (H1.out.down true rfl).mono ?_; rintro e w' ⟨rfl, rfl⟩
                  go_wp2_with fail
                  refine (H1.out.start (aD ks X.data.toList false) rfl).mono ?_; rintro e w2 ⟨rfl, h2⟩
                  have H2 := Hd.mk h2
                  clear h2
                  go_wp2_with fail
                  refine (H2.out.read 0 X 0 rfl rfl).mono ?_; rintro e w3 ⟨rfl, h3⟩
                  have H3 := Hd.mk h3
                  clear h3
                  go_wp2
                  go_ret
                  exact ⟨rfl, HEnd.out H3.out⟩
                · have hd2 : 0 < K := by omega
                  clear hK0
                  go_wp2_with fail
                  refine (H1.out.down true rfl).mono ?_; rintro e w' ⟨rfl, rfl⟩
                  go_wp2_with fail
                  refine (H1.out.start (aD ks X.data.toList false) rfl).mono ?_; rintro e w2 ⟨rfl, h2⟩
                  have H2 := Hd.mk h2
                  clear h2
                  go_wp2_with fail
                  refine (H2.out.read 0 X 0 rfl rfl).mono ?_; rintro e w3 ⟨rfl, h3⟩
                  have H3 := Hd.mk h3
                  clear h3
                  go_wp2
                  go_ret
                  exact ⟨rfl, HEnd.out H3.out⟩
  · have d50 : decide ((50 : Int) < (N : Int)) = true := by simp; omega
    go_wp2_with fail
    go_loop [9, 10] (fun s i => ∃ (k : Nat) (z : Int), k ≤ N ∧ i = .int .i64 k ∧ s = .int .i64 z) (fun _ i => N - (intOf i).toNat)
    case atStart => exact ⟨0, 0, Nat.zero_le _, rfl, rfl⟩
    case round =>
      obtain ⟨k, z, hk, rfl, rfl⟩ := hrel
      by_cases hlt : k < N
      · have hd1 : decide ((k : Int) < (N : Int)) = true := by simp; omega
        obtain ⟨g, o, s, rfl, hs, hs2, hc⟩ := HC.out k hlt
        have c := hc w0 HB.out
        clear hs hc
        go_wp2
        go_round
        case rel => exact ⟨k + 1, _, hlt, by go_num, rfl⟩
        case measure => simp [intOf]; omega
      · have hd1 : decide ((k : Int) < (N : Int)) = false := by simp; omega
        clear hk
        go_wp2
        go_ret
        exact ⟨rfl, HB.out⟩

end Go.Proofs.Ytcleocgaooblfaa.W
