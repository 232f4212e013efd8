/-
  The search of a name in the table of forms.
-/
import Derived.Test.YtlohhlbbkliehaaGreatDoorOpr9
import Derived.Test.YtlohhlbbkliehaaGreatDoorTab9
namespace Go.Proofs.YtlohhlbbkliehaaGreatDoor.W
open Go.RowKit
set_option linter.unusedVariables false

/-- is this the name of the form? -/
def nameIs (nm : List UInt8) (n : Nat) : Bool := decide (nameL n = nm) && decide (nm ≠ [])
/-- the first form of a name, or -1 -/
def findL (nm : List UInt8) : Int := match (List.range 31).find? (nameIs nm) with | some n => (n : Int) | none => -1

theorem str_dec (a b : List UInt8) : decide ((⟨a.toArray⟩ : ByteArray) = ⟨b.toArray⟩) = decide (a = b) := by
  by_cases h : a = b
  · subst h; simp
  · rw [decide_eq_false h, decide_eq_false]
    intro e
    exact h (by have := congrArg (fun x : ByteArray => x.data.toList) e; simpa using this)

set_option maxHeartbeats 1000000 in
set_option maxRecDepth 100000 in
theorem clo_any (a b c d : ByteArray) (N : Nat) (nm : ByteArray) (w : World) (hN : w.cell? ⟨N, 0, none⟩ = some (.string nm)) (hlt : N < w.heap.size) :
    Calls Tryz.prog 31 #[.agg #[.string a, .string b, .string c, .string d], .pointer (some ⟨N, 0, none⟩)] w fun e w' => e = .returned (.bool (decide (a = nm) && decide (nm ≠ ⟨#[]⟩))) ∧ Below w.heap.size w w' := by
  have hN2 : (w.alloc (.cells #[.string a, .string b, .string c, .string d] 56)).cell? ⟨N, 0, none⟩ = some (.string nm) := by
    rw [World.cell?_alloc_old _ _ _ (by show N ≠ w.heap.size; omega)]; exact hN
  by_cases e1 : a = nm
  · subst e1
    by_cases e2 : a = ⟨#[]⟩
    · subst e2
      go_enter Tryz.func31, Tryz.ntmps31
      go_wp2
      go_ret
      exact ⟨rfl, (Below.refl _ _).alloc (Nat.le_refl _) _⟩
    · have hr : (decide (a = a) && decide (a ≠ ⟨#[]⟩)) = true := by simp [e2]
      rw [hr]
      have be : a.toList.isEmpty = false := by
        rw [Lib.toList_data]
        cases h : a.data.toList with
        | nil => exact absurd (by rw [← Lib.mk_data a, h]) e2
        | cons _ _ => rfl
      go_enter Tryz.func31, Tryz.ntmps31
      go_wp2
      go_ret
      exact ⟨rfl, (Below.refl _ _).alloc (Nat.le_refl _) _⟩
  · have h1 := str_beq a nm
    rw [decide_eq_false e1] at h1
    rw [decide_eq_false e1, Bool.false_and]
    go_enter Tryz.func31, Tryz.ntmps31
    go_wp2
    go_ret
    exact ⟨rfl, (Below.refl _ _).alloc (Nat.le_refl _) _⟩

theorem findL_hit {nm : List UInt8} {k : Nat} (hk : k < 31) (h : nameIs nm k = true) (hp : ∀ j, j < k → nameIs nm j = false) : findL nm = (k : Int) := by
  have : (List.range 31).find? (nameIs nm) = some k := by
    rw [List.find?_range_eq_some]
    exact ⟨h, List.mem_range.2 hk, fun j hj => by simp [hp j hj]⟩
  unfold findL
  rw [this]
theorem findL_none {nm : List UInt8} (hp : ∀ j, j < 31 → nameIs nm j = false) : findL nm = -1 := by
  have : (List.range 31).find? (nameIs nm) = none := by
    rw [List.find?_range_eq_none]
    intro j hj
    simp [hp j hj]
  unfold findL
  rw [this]

set_option maxHeartbeats 2000000 in
set_option maxRecDepth 100000 in
theorem ifunc_any (N : Nat) (nm : ByteArray) (w : World) (hN : w.cell? ⟨N, 0, none⟩ = some (.string nm)) (hlt : N < w.heap.size) (hT : FormsAt w) :
    Calls Tryz.prog 30 #[.slice (some ⟨0, 0, none⟩) 31 31, .func (.func 31) #[] #[.pointer (some ⟨N, 0, none⟩)]] w fun e w' => e = .returned (.int .i64 (findL nm.data.toList)) ∧ Below w.heap.size w w' := by
  have HN := Hd.mk (And.intro hN (And.intro hlt hT))
  clear hN hlt hT
  go_enter Tryz.func30, Tryz.ntmps30
  go_wp2
  go_loopw [5, 8] (fun _ i wr => ∃ k : Nat, k ≤ 31 ∧ i = .int .i64 k ∧ Hd (Below w.heap.size w wr) ∧ Hd (∀ j, j < k → nameIs nm.data.toList j = false)) (fun _ i _ => 31 - (intOf i).toNat)
  case atStart => exact ⟨0, Nat.zero_le _, rfl, ⟨Below.refl _ _⟩, ⟨fun j h => absurd h (Nat.not_lt_zero _)⟩⟩
  case round =>
    obtain ⟨k, hk, rfl, HB, HP⟩ := hrel
    by_cases hlt : k < 31
    · have hd1 : decide ((k : Int) < 31) = true := by simp; omega
      have hT := HN.out.2.2.below HB.out
      have c0 := hT.word k hlt 0 (by decide)
      have c1 := hT.word k hlt 1 (by decide)
      have c2 := hT.word k hlt 2 (by decide)
      have c3 := hT.word k hlt 3 (by decide)
      have HC := Hd.mk (clo_any ⟨(nameL k).toArray⟩ ⟨(opersL k).toArray⟩ ⟨(readsL k).toArray⟩ ⟨(writesL k).toArray⟩ N nm wr (by rw [HB.out.cell (p := ⟨N, 0, none⟩) HN.out.2.1]; exact HN.out.1) (Nat.lt_of_lt_of_le HN.out.2.1 HB.out.size))
      have hnm : (decide ((⟨(nameL k).toArray⟩ : ByteArray) = nm) && decide (nm ≠ ⟨#[]⟩)) = nameIs nm.data.toList k := by
        have e1 := str_dec (nameL k) nm.data.toList
        have e2 := str_dec nm.data.toList []
        rw [Lib.mk_data] at e1 e2
        rw [e1]
        unfold nameIs
        congr 1
        have e2' : decide (nm = (⟨#[]⟩ : ByteArray)) = decide (nm.data.toList = []) := e2
        simp only [ne_eq, decide_not, e2']
      rw [hnm] at HC
      obtain ⟨b, hb⟩ : ∃ b, nameIs nm.data.toList k = b := ⟨_, rfl⟩
      have HQ := Hd.mk hb
      rw [hb] at HC
      have e0 : (formT.flatten.getD (4 * k) []) = nameL k := rfl
      have e1 : (formT.flatten.getD (4 * k + 1) []) = opersL k := rfl
      have e2 : (formT.flatten.getD (4 * k + 2) []) = readsL k := rfl
      have e3 : (formT.flatten.getD (4 * k + 3) []) = writesL k := rfl
      rw [Nat.add_zero, Nat.add_zero, e0] at c0
      rw [e1] at c1
      rw [e2] at c2
      rw [e3] at c3
      clear hb hT hnm e0 e1 e2 e3
      go_wp2_with fail
      refine HC.out.mono ?_
      rintro e w1 ⟨rfl, k1⟩
      have HB1 := Hd.mk (Below.chain HB.out k1)
      clear k1 c0 c1 c2 c3
      rcases b with _ | _
      · go_wp2
        go_roundw
        case rel => exact ⟨k + 1, hlt, by go_num, HB1, ⟨fun j hj => by
          rcases Nat.lt_or_ge j k with h | h
          · exact HP.out j h
          · have : j = k := by omega
            subst this; exact HQ.out⟩⟩
        case measure => simp [intOf]; omega
      · go_wp2
        go_ret
        exact ⟨by rw [findL_hit hlt HQ.out HP.out]; rfl, HB1.out⟩
    · have hd1 : decide ((k : Int) < 31) = false := by simp; omega
      have hk31 : k = 31 := by omega
      have HF : Hd (findL nm.data.toList = -1) := ⟨findL_none (fun j hj => HP.out j (by omega))⟩
      clear hk31
      go_wp2
      go_ret
      exact ⟨by rw [HF.out]; rfl, HB.out⟩

end Go.Proofs.YtlohhlbbkliehaaGreatDoor.W
