/-
  The walks of slices.Contains, reloc's Write and Read.
-/
import Derived.Test.YtmngicdgapkbmaaDoorVal15
import Derived.Test.YtmngicdgapkbmaaDoorDec
namespace Go.Proofs.YtmngicdgapkbmaaDoor.W
open Go.RowKit
set_option linter.unusedVariables false

def idxI (l : List Int) (x : Int) : Int := match l.findIdx? (· == x) with | some i => (i : Int) | none => -1

theorem sindex_any (w : World) (v : Value) (l : List Int) (x : Int) (hl : l.length ≤ 1000) (h : OpsAt w v l) : Calls Tryd.prog 40 #[v, .int .i64 x] w fun e w' => (∃ z : Int, e = .returned (.int .i64 z) ∧ (0 ≤ z ↔ x ∈ l)) ∧ w = w' := by
  obtain ⟨p, c, rfl⟩ : ∃ p c, v = .slice p l.length c := by
    rcases h.is with ⟨rfl, rfl⟩ | ⟨_, g, o, cap, rfl, _⟩
    · exact ⟨none, 0, rfl⟩
    · exact ⟨_, cap, rfl⟩
  have H := Hd.mk h
  clear h
  obtain ⟨n, hn⟩ : ∃ n, l.length = n := ⟨_, rfl⟩
  rw [hn] at H hl
  rw [hn]
  have HN := Hd.mk hn
  clear hn
  go_enter Tryd.func40, Tryd.ntmps40
  go_wp2
  go_loop [8] (fun i => ∃ k : Nat, k ≤ n ∧ i = .int .i64 k ∧ ∀ j z, j < k → l[j]? = some z → z ≠ x) (fun i => n - (intOf i).toNat)
  case atStart => exact ⟨0, Nat.zero_le _, rfl, fun j _ hj => absurd hj (Nat.not_lt_zero _)⟩
  case round =>
    obtain ⟨k, hk, rfl, hall⟩ := hrel
    have HA := Hd.mk hall
    clear hall
    by_cases hlt : k < n
    · have hd1 : decide ((k : Int) < (n : Int)) = true := by simp; omega
      obtain ⟨z, hz⟩ : ∃ z, l[k]? = some z := ⟨l[k]'(HN.out ▸ hlt), List.getElem?_eq_getElem (HN.out ▸ hlt)⟩
      have hcell : ∃ g o, p = some ⟨g, o, none⟩ ∧ w.cell? ⟨g, o + k, none⟩ = some (.int .i64 z) := by
        rcases H.out.is with ⟨h0, _⟩ | ⟨_, g, o, cap, e, _, hc⟩
        · rw [h0] at hz; simp at hz
        · injection e with e1 _ _
          exact ⟨g, o, e1, hc k z hz⟩
      obtain ⟨g, o, rfl, hc⟩ := hcell
      have HZ := Hd.mk hz
      clear hz
      by_cases hx : x = z
      · have he : (x == z) = true := by simp [hx]
        have HX := Hd.mk hx
        clear hx
        go_wp2
        go_ret
        refine ⟨⟨_, rfl, ?_⟩, rfl⟩
        have : x ∈ l := HX.out ▸ List.mem_of_getElem? HZ.out
        simp [this]
      · have he : (x == z) = false := by simp [hx]
        have HX := Hd.mk hx
        clear hx
        go_wp2
        go_round
        case rel => exact ⟨k + 1, hlt, by go_num, fun j y hj hy => by
          rcases Nat.lt_succ_iff_lt_or_eq.1 hj with h | rfl
          · exact HA.out j y h hy
          · rw [HZ.out] at hy; cases hy; exact fun e => HX.out e.symm⟩
        case measure => simp [intOf]; omega
    · have hd1 : decide ((k : Int) < (n : Int)) = false := by simp; omega
      obtain rfl : n = k := by omega
      clear hk
      go_wp2
      go_ret
      refine ⟨⟨_, rfl, ?_⟩, rfl⟩
      have : x ∉ l := fun hm => by
        obtain ⟨j, hj, e⟩ := List.getElem_of_mem hm
        exact HA.out j _ (HN.out ▸ hj) (List.getElem?_eq_getElem hj) e
      simp [this]

theorem scontains_any (w : World) (v : Value) (l : List Int) (x : Int) (hl : l.length ≤ 1000) (h : OpsAt w v l) : Calls Tryd.prog 31 #[v, .int .i64 x] w fun e w' => e = .returned (.bool (decide (x ∈ l))) ∧ w = w' := by
  obtain ⟨p, c, rfl⟩ : ∃ p c, v = .slice p l.length c := by
    rcases h.is with ⟨rfl, rfl⟩ | ⟨_, g, o, cap, rfl, _⟩
    · exact ⟨none, 0, rfl⟩
    · exact ⟨_, cap, rfl⟩
  have HI := Hd.mk (sindex_any w _ l x hl h)
  clear h
  go_enter Tryd.func31, Tryd.ntmps31
  go_wp2_with fail
  refine HI.out.mono ?_; rintro e w1 ⟨⟨z, rfl, hz⟩, rfl⟩
  by_cases h0 : 0 ≤ z
  · have e : Hd (decide (x ∈ l) = true) := ⟨by simp [← hz, h0]⟩
    clear hz
    go_wp2
    go_ret
    exact ⟨ret_b e.out.symm, rfl⟩
  · have e : Hd (decide (x ∈ l) = false) := ⟨by simp [← hz]; omega⟩
    clear hz
    go_wp2
    go_ret
    exact ⟨ret_b (by rw [e.out]; simp; omega), rfl⟩

/-- Read -/
def readOk (s : ByteArray) (x k : Int) : Bool := isK k && decide (0 ≤ x ∧ x ≤ s.size)
def read15 (s : ByteArray) (x k : Int) : Int × Bool := if readOk s x k then getP s (x + offI k) (sizeI k) (!decide (k = 3)) else (0, false)

theorem read15_any (s : ByteArray) (x k : Int) (w : World) (hs : s.size ≤ 1000) (hx : i64R x) (hT : Tabs w) :
    Calls Tryd.prog 21 #[.string s, .int .i64 x, .int .i64 k] w fun e w' => e = .returned (.tuple #[.int .i64 (read15 s x k).1, .bool (read15 s x k).2]) ∧ Below w.heap.size w w' := by
  have HI := Hd.mk (is15_any k w)
  rcases hk : isK k with _ | _
  · have e : Hd (read15 s x k = (0, false)) := ⟨by unfold read15 readOk; rw [hk]; rfl⟩
    rw [e.out]
    rw [hk] at HI
    clear hT hx hs hk
    go_enter Tryd.func21, Tryd.ntmps21
    go_wp2_with fail
    refine HI.out.mono ?_; rintro e w1 ⟨rfl, rfl⟩
    go_wp2
    go_ret2
    exact ⟨rfl, Below.refl _ _⟩
  · rw [hk] at HI
    by_cases hin : 0 ≤ x ∧ x ≤ s.size
    · obtain ⟨n, rfl, hn⟩ := isK_nat hk
      obtain ⟨c0, c1, _⟩ := hT.off n hn
      have i0 : (0 : Int) ≤ (n : Int) := by omega
      have i1 : (n : Int) < 13 := by omega
      have e : Hd (read15 s x n = getP s (x + kOff n) (kSize n) (!decide ((n : Int) = 3))) := ⟨by
        unfold read15 readOk offI sizeI; rw [hk, decide_eq_true hin]; rfl⟩
      rw [e.out]
      have hoff : 0 ≤ kOff n ∧ kOff n ≤ 8 := by
        rcases (by omega : n = 0 ∨ n = 1 ∨ n = 2 ∨ n = 3 ∨ n = 4 ∨ n = 5 ∨ n = 6 ∨ n = 7 ∨ n = 8 ∨ n = 9 ∨ n = 10 ∨ n = 11 ∨ n = 12) with rfl | rfl | rfl | rfl | rfl | rfl | rfl | rfl | rfl | rfl | rfl | rfl | rfl <;> decide
      obtain ⟨a, ha⟩ : ∃ a, kOff n = a := ⟨_, rfl⟩
      obtain ⟨b, hb⟩ : ∃ b, kSize n = b := ⟨_, rfl⟩
      rw [ha] at c0 hoff ⊢
      rw [hb] at c1 ⊢
      obtain ⟨f, hf⟩ : ∃ f, (!decide ((n : Int) = 3)) = f := ⟨_, rfl⟩
      have hf2 : ((n : Int) != 3) = f := by rw [← hf]; rfl
      rw [hf]
      have r1 : IntKind.i64.wrap (x + a) = x + a := IntWalk.i64_in _ (by omega)
      have HG : ∀ w, Hd (Calls Tryd.prog 33 #[.string s, .int .i64 (x + a), .int .i64 b, .bool f] w fun e w' => e = .returned (.tuple #[.int .i64 (getP s (x + a) b f).1, .bool (getP s (x + a) b f).2]) ∧ w' = w) := fun w => ⟨(get_any s (x + a) b f w (by unfold maxLen; omega)).mono fun e w' h => ⟨h.1, h.2.symm⟩⟩
      have t1 : ¬ x < 0 := by omega
      have t2 : ¬ (s.size : Int) < x := by omega
      have hsz : (s.size : Int) ≤ 1000 := by omega
      clear hT hx hs hk hin ha hb hf hoff
      go_enter Tryd.func21, Tryd.ntmps21
      go_wp2_with fail
      refine HI.out.mono ?_; rintro e w1 ⟨rfl, rfl⟩
      go_wp2
      go_quiet ((go_at_call 33; exact Calls.quiet_of_same ((HG _).out)))
      go_wp2
      go_ret2
      exact ⟨rfl, ⟨rfl, rfl, rfl, Nat.le_refl _, fun _ _ => rfl⟩⟩
    · have e : Hd (read15 s x k = (0, false)) := ⟨by unfold read15 readOk; rw [hk, decide_eq_false hin]; rfl⟩
      rw [e.out]
      have hor : x < 0 ∨ (¬ x < 0 ∧ (s.size : Int) < x) := by omega
      have hsz : (s.size : Int) ≤ 1000 := by omega
      clear hT hx hs hk hin
      rcases hor with h | ⟨h, h'⟩
      all_goals
        go_enter Tryd.func21, Tryd.ntmps21
        go_wp2_with fail
        refine HI.out.mono ?_; rintro e w1 ⟨rfl, rfl⟩
        go_wp2
        go_ret2
        exact ⟨rfl, Below.refl _ _⟩

end Go.Proofs.YtmngicdgapkbmaaDoor.W
