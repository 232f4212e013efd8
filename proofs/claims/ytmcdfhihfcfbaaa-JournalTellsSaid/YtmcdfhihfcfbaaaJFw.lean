/-
  The walk of few.
-/
import Derived.Test.YtmcdfhihfcfbaaaJAr
namespace Go.Proofs.Ytmcdfhihfcfbaaa.W
open Go.RowKit
set_option linter.unusedVariables false

def ddB (a : Dd) : Bool := decide (a.row.size ≤ 200) && decide (a.rows.length ≤ 6) && decide (a.keep.length ≤ 60) && a.rows.all (fun r => decide (r.size ≤ 200))
def fewB (l : List Dd) : Bool := decide (l.length ≤ 30) && l.all ddB

structure Few (l : List Dd) : Prop where
  len : l.length ≤ 30
  row : ∀ a ∈ l, a.row.size ≤ 200
  rows : ∀ a ∈ l, a.rows.length ≤ 6
  keep : ∀ a ∈ l, a.keep.length ≤ 60
  each : ∀ a ∈ l, ∀ r ∈ a.rows, r.size ≤ 200
theorem few_parts {l : List Dd} (h : fewB l = true) : Few l := by
  simp only [fewB, ddB, Bool.and_eq_true, List.all_eq_true, decide_eq_true_eq] at h
  exact ⟨h.1, fun a ha => (h.2 a ha).1.1.1, fun a ha => (h.2 a ha).1.1.2, fun a ha => (h.2 a ha).1.2, fun a ha r hr => (h.2 a ha).2 r hr⟩
theorem few_bad {l : List Dd} {k : Nat} (hk : k < l.length) (h : ddB l[k] = false) : fewB l = false := by
  rw [Bool.eq_false_iff]
  intro hf
  simp only [fewB, Bool.and_eq_true, List.all_eq_true] at hf
  rw [hf.2 _ (List.getElem_mem hk)] at h
  cases h
theorem few_good {l : List Dd} (h : l.length ≤ 30) (h2 : ∀ k (hk : k < l.length), ddB l[k] = true) : fewB l = true := by
  simp only [fewB, Bool.and_eq_true, List.all_eq_true, decide_eq_true_eq]
  exact ⟨h, fun a ha => by obtain ⟨k, hk, rfl⟩ := List.getElem_of_mem ha; exact h2 k hk⟩

set_option maxRecDepth 100000 in
set_option maxHeartbeats 2000000 in
theorem few_any (w : World) (v : Value) (l : List Dd) (hl : l.length ≤ 140737488351232) (hok : ∀ a ∈ l, DdOk a) (h : Rw 5 ddE w v l) :
    Calls Try.prog 9 #[v] w fun e w' => e = .returned (.bool (fewB l)) ∧ w = w' := by
  obtain ⟨pv, cv, hv⟩ := h.slice
  obtain ⟨n, hn⟩ : ∃ n, l.length = n := ⟨_, rfl⟩
  have HV := Hd.mk h
  have HN := Hd.mk hn
  have HOK := Hd.mk hok
  rw [hn] at hv hl
  subst hv
  clear h hn hok
  by_cases h30 : n ≤ 30
  · have hd30 : decide ((30 : Int) < (n : Int)) = false := by simp; omega
    have hd31 : decide (30 < n) = false := by simp; omega
    go_enter Try.func9, Try.ntmps9
    go_wp2
    go_loop [3, 4] (fun i _ => ∃ k : Nat, k ≤ n ∧ i = .int .i64 k ∧ (∀ j (h1 : j < l.length), j < k → ddB l[j] = true)) (fun i _ => n - (intOf i).toNat)
    case atStart => exact ⟨0, Nat.zero_le _, rfl, fun j _ hj => absurd hj (Nat.not_lt_zero _)⟩
    case round =>
      obtain ⟨k, hk, rfl, hall⟩ := hrel
      have HA := Hd.mk hall
      clear hall
      by_cases hlt : k < n
      · have hd1 : decide ((k : Int) < (n : Int)) = true := by simp; omega
        have hkl : k < l.length := HN.out ▸ hlt
        obtain ⟨g, o, cs, rfl, hg, hcl, he, hc⟩ := HV.out.at rfl hkl
        clear hcl
        obtain ⟨rv, kv, rfl, hrv, hkv⟩ := he
        have hok := HOK.out _ (List.getElem_mem hkl)
        obtain ⟨a, ha⟩ : ∃ a, l[k] = a := ⟨_, rfl⟩
        rw [ha] at hrv hkv hc hok
        have HBad := Hd.mk (few_bad (l := l) hkl)
        have HLast : Hd (ddB a = true → ∀ j (h1 : j < l.length), j < k + 1 → ddB l[j] = true) := ⟨fun h j h1 hj => by
          rcases Nat.lt_or_ge j k with h' | h'
          · exact HA.out j h1 h'
          · obtain rfl : j = k := by omega
            rw [ha]; exact h⟩
        rw [ha] at HBad
        obtain ⟨pr, cr, rfl⟩ := hrv.slice
        obtain ⟨pk, ck, rfl⟩ := hkv.slice
        have c1 : w.cell? ⟨g, o + k * 5 + 1, none⟩ = some (.string a.row) := hc 1 _ rfl
        have c2 : w.cell? ⟨g, o + k * 5 + 2, none⟩ = some (.slice pr a.rows.length cr) := hc 2 _ rfl
        have c3 : w.cell? ⟨g, o + k * 5 + 3, none⟩ = some (.slice pk a.keep.length ck) := hc 3 _ rfl
        have hrow := hok.row
        have hrows := hok.rows
        have hkeep := hok.keep
        have HEach := Hd.mk hok.each
        have HRV := Hd.mk hrv
        have HBd : Hd (ddB a = (decide (a.row.size ≤ 200) && decide (a.rows.length ≤ 6) && decide (a.keep.length ≤ 60) && a.rows.all (fun r => decide (r.size ≤ 200)))) := ⟨rfl⟩
        obtain ⟨x1, hx1⟩ : ∃ x, a.row.size = x := ⟨_, rfl⟩
        obtain ⟨x2, hx2⟩ : ∃ x, a.rows.length = x := ⟨_, rfl⟩
        obtain ⟨x3, hx3⟩ : ∃ x, a.keep.length = x := ⟨_, rfl⟩
        have HX2 := Hd.mk hx2
        rw [hx1] at hrow HBd
        rw [hx2] at hrows c2 HBd HRV
        rw [hx3] at hkeep c3 HBd
        clear hc hok hrv hkv hx2 hx3 hkl ha HA
        by_cases b1 : x1 ≤ 200
        · have t1 : decide ((200 : Int) < (x1 : Int)) = false := by simp; omega
          have t1' : decide (200 < x1) = false := by simp; omega
          by_cases b2 : x2 ≤ 6
          · have t2 : decide ((6 : Int) < (x2 : Int)) = false := by simp; omega
            have t2' : decide (6 < x2) = false := by simp; omega
            by_cases b3 : x3 ≤ 60
            · have t3 : decide ((60 : Int) < (x3 : Int)) = false := by simp; omega
              have t3' : decide (60 < x3) = false := by simp; omega
              rw [decide_eq_true b1, decide_eq_true b2, decide_eq_true b3] at HBd
              clear b1 b3
              go_wp2_with fail
              go_loop [4] (fun i => ∃ m : Nat, m ≤ x2 ∧ i = .int .i64 m ∧ (∀ j (h1 : j < a.rows.length), j < m → a.rows[j].size ≤ 200)) (fun i => x2 - (intOf i).toNat)
              case atStart => exact ⟨0, Nat.zero_le _, rfl, fun j _ hj => absurd hj (Nat.not_lt_zero _)⟩
              case round =>
                obtain ⟨m, hm, rfl, hall⟩ := hrel
                have HA := Hd.mk hall
                clear hall
                by_cases hmt : m < x2
                · have hd2 : decide ((m : Int) < (x2 : Int)) = true := by simp; omega
                  have hml : m < a.rows.length := HX2.out ▸ hmt
                  obtain ⟨g2, o2, cs2, rfl, hg2, hcl2, he2, hc2⟩ := HRV.out.at rfl hml
                  clear hcl2
                  have he2 : cs2 = [.string a.rows[m]] := he2
                  subst he2
                  have d1 := hc2 0 _ rfl
                  rw [Nat.mul_one, Nat.add_zero] at d1
                  have hsz := HEach.out _ (List.getElem_mem hml)
                  obtain ⟨r, hr⟩ : ∃ r, a.rows[m] = r := ⟨_, rfl⟩
                  rw [hr] at d1 hsz
                  have HR := Hd.mk hr
                  have hmem : r ∈ a.rows := hr ▸ List.getElem_mem hml
                  have HM := Hd.mk hmem
                  clear hc2 he2 hr hmem
                  by_cases b4 : r.size ≤ 200
                  · have t4 : decide ((200 : Int) < (r.size : Int)) = false := by simp; omega
                    have t4' : decide (200 < r.size) = false := by simp; omega
                    have HB4 := Hd.mk b4
                    clear b4
                    go_wp2
                    go_round
                    case rel => exact ⟨m + 1, hmt, by go_num, fun j h1 hj => by
                      rcases Nat.lt_or_ge j m with h' | h'
                      · exact HA.out j h1 h'
                      · obtain rfl : j = m := by omega
                        rw [HR.out]; exact HB4.out⟩
                    case measure => simp [intOf]; omega
                  · have t4 : decide ((200 : Int) < (r.size : Int)) = true := by simp; omega
                    have t4' : decide (200 < r.size) = true := by simp; omega
                    have HF : Hd (fewB l = false) := ⟨HBad.out (by
                      rw [HBd.out, Bool.eq_false_iff]
                      intro h
                      simp only [Bool.and_eq_true, List.all_eq_true, decide_eq_true_eq] at h
                      exact b4 (h.2 r HM.out))⟩
                    clear b4
                    go_wp2
                    go_ret
                    exact ⟨ret_b HF.out.symm, rfl⟩
                · have hd2 : decide ((m : Int) < (x2 : Int)) = false := by simp; omega
                  have HG : Hd (ddB a = true) := ⟨by
                    rw [HBd.out]
                    simp only [Bool.and_eq_true, List.all_eq_true, decide_eq_true_eq]
                    refine ⟨⟨⟨trivial, trivial⟩, trivial⟩, fun r hr => ?_⟩
                    obtain ⟨j, hj, rfl⟩ := List.getElem_of_mem hr
                    exact HA.out j hj (by have := HX2.out; omega)⟩
                  clear HA HBd
                  go_wp2
                  go_round
                  case rel => exact ⟨k + 1, hlt, by go_num, HLast.out HG.out⟩
                  case measure => simp [intOf]; omega
            · have t3 : decide ((60 : Int) < (x3 : Int)) = true := by simp; omega
              have t3' : decide (60 < x3) = true := by simp; omega
              have HF : Hd (fewB l = false) := ⟨HBad.out (by rw [HBd.out, decide_eq_false b3]; simp)⟩
              clear b3 HBd
              go_wp2
              go_ret
              exact ⟨ret_b HF.out.symm, rfl⟩
          · have t2 : decide ((6 : Int) < (x2 : Int)) = true := by simp; omega
            have t2' : decide (6 < x2) = true := by simp; omega
            have HF : Hd (fewB l = false) := ⟨HBad.out (by rw [HBd.out, decide_eq_false b2]; simp)⟩
            clear b2 HBd
            go_wp2
            go_ret
            exact ⟨ret_b HF.out.symm, rfl⟩
        · have t1 : decide ((200 : Int) < (x1 : Int)) = true := by simp; omega
          have t1' : decide (200 < x1) = true := by simp; omega
          have HF : Hd (fewB l = false) := ⟨HBad.out (by rw [HBd.out, decide_eq_false b1]; simp)⟩
          clear b1 HBd
          go_wp2
          go_ret
          exact ⟨ret_b HF.out.symm, rfl⟩
      · have hd1 : decide ((k : Int) < (n : Int)) = false := by simp; omega
        have HF : Hd (fewB l = true) := ⟨few_good (by rw [HN.out]; exact h30) (fun j hj => HA.out j hj (by have := HN.out; omega))⟩
        clear HA
        go_wp2
        go_ret
        exact ⟨ret_b HF.out.symm, rfl⟩
  · have hd30 : decide ((30 : Int) < (n : Int)) = true := by simp; omega
    have hd31 : decide (30 < n) = true := by simp; omega
    have HF : Hd (fewB l = false) := ⟨by simp [fewB, HN.out, h30]⟩
    clear h30
    go_enter Try.func9, Try.ntmps9
    go_wp2
    go_ret
    exact ⟨ret_b HF.out.symm, rfl⟩

end Go.Proofs.Ytmcdfhihfcfbaaa.W
