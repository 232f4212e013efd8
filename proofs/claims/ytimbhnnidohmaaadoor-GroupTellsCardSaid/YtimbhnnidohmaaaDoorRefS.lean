/-
  The reference's lane, round, Sum: the walks.
-/
import Derived.Test.YtimbhnnidohmaaaDoorRefR
import Derived.Test.YtimbhnnidohmaaaDoorShort
import Derived.Test.YtimbhnnidohmaaaDoorOrd
namespace Go.Proofs.YtimbhnnidohmaaaDoor.W
open Go.RowKit
set_option linter.unusedVariables false

/-- what m bytes from at + 7 down give -/
def laneU (l : List UInt8) (at_ : Nat) : Nat → Nat
  | 0 => 0
  | m + 1 => laneU l at_ m * 256 + (l.getD (at_ + 7 - m) 0).toNat

theorem laneU_low (l : List UInt8) (k : Nat) : ∀ m, laneU l k m < 256 ^ m
  | 0 => Nat.one_pos
  | m + 1 => by
    have := laneU_low l k m
    have hb := (l.getD (k + 7 - m) 0).toNat_lt
    rw [laneU, Nat.pow_succ]
    omega

set_option maxHeartbeats 1000000 in
set_option maxRecDepth 100000 in
theorem lane_any (l : List UInt8) (v : Value) (B k : Nat) (w : World) (hO : Own w B 5 v (Lib.byteCells l)) (hk : k + 8 ≤ l.length) (hl : l.length ≤ 1000000) :
    Calls Tryd.prog 49 #[v, .int .i64 k] w fun e w' => e = .returned (.int .u64 (laneU l k 8 : Nat)) ∧ w = w' := by
  have hbl := byteCells_len l
  obtain ⟨g, cap, rfl⟩ := hO.slice (by omega)
  rw [hbl]
  have hc : Hd (∀ j, j < l.length → w.cell? ⟨g, j, none⟩ = some (.int .u8 ((l.getD j 0).toNat : Int))) := ⟨fun j hj => by
    rcases hO.is with ⟨h, _⟩ | ⟨g', cap', h, _, _, _, _, hcell, _⟩
    · cases h
    · have hg : g = g' := by simp at h; exact h.1
      subst hg
      exact hcell j _ (byteCells_at hj)⟩
  clear hO
  go_enter Tryd.func49, Tryd.ntmps49
  go_wp2
  go_loop [5, 6] (fun n i => ∃ m : Nat, m ≤ 8 ∧ i = .int .i64 (7 - (m : Int)) ∧ n = .int .u64 ((laneU l k m : Nat) : Int)) (fun _ i => (intOf i + 1).toNat)
  case atStart => exact ⟨0, by omega, rfl, rfl⟩
  case round =>
    obtain ⟨m, hm, rfl, rfl⟩ := hrel
    have hlow := laneU_low l k m
    by_cases hlt : m < 8
    · have hcc := hc.out (k + 7 - m) (by omega)
      have hstep : Hd (laneU l k (m + 1) = laneU l k m * 256 + (l.getD (k + 7 - m) 0).toNat) := ⟨rfl⟩
      have hp : 256 ^ m ≤ 256 ^ 7 := Nat.pow_le_pow_right (by decide) (by omega)
      have hl7 : laneU l k m < 72057594037927936 := Nat.lt_of_lt_of_le hlow hp
      obtain ⟨n, hn⟩ : ∃ n, laneU l k m = n := ⟨_, rfl⟩
      obtain ⟨b, hb⟩ : ∃ b, l.getD (k + 7 - m) 0 = b := ⟨_, rfl⟩
      obtain ⟨j, hj⟩ : ∃ j, k + 7 - m = j := ⟨_, rfl⟩
      obtain ⟨i, hi⟩ : ∃ i, 7 - m = i := ⟨_, rfl⟩
      have ei : 7 - (m : Int) = (i : Int) := by omega
      have ej : (k : Int) + (i : Int) = (j : Int) := by omega
      have hjl : j < l.length := by omega
      rw [hn, hb] at hstep
      rw [hb, hj] at hcc
      rw [hn] at hl7
      rw [hn, ei]
      have hor := or_byte n b (by omega)
      have hbl := b.toNat_lt
      have hwr : IntKind.u64.wrap (b.toNat : Int) = (b.toNat : Int) := by rw [IntKind.wrap_u64]; omega
      have EI := Hd.mk ei
      clear hlow hp hn hb hj hi ei hc
      go_wp2
      go_round
      case rel => exact ⟨m + 1, by omega, by have := EI.out; congr 1; omega, by rw [hstep.out]; simp⟩
      case measure => simp [intOf]
    · have hm8 : m = 8 := by omega
      rw [hm8]
      have hi : 7 - ((8 : Nat) : Int) = -1 := by omega
      rw [hi]
      clear hm8 hi hlow
      go_wp2
      go_ret
      exact ⟨rfl, rfl⟩

end Go.Proofs.YtimbhnnidohmaaaDoor.W
