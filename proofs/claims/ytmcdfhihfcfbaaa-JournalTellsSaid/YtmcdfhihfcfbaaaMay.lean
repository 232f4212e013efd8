/-
  The walks of the disk's may and Read.
-/
import Derived.Test.YtmcdfhihfcfbaaaEasy
namespace Go.Proofs.Ytmcdfhihfcfbaaa.W
open Go.RowKit
set_option linter.unusedVariables false

def mayL (σ : St) (fs : List Int) : Nat := if σ.down then 10 else if fs.all isF then 0 else 1
theorem mayL_one (σ : St) (f : Int) : mayL σ [f] = mayS σ f := by simp [mayL, mayS]
theorem mayL_two (σ : St) (f g : Int) : mayL σ [f, g] = may2 σ f g := by
  unfold mayL may2 mayS
  rcases σ.down with _ | _ <;> rcases h : isF f with _ | _ <;> simp [h]

theorem may_any (w : World) (D : Nat) (σ : St) (O : Option Nat) (v : Value) (fs : List Int) (hlen : fs.length ≤ 1000) (hv : IRow w v fs) (h : Rep w D σ O) :
    Calls Try.prog 66 #[.pointer (some ⟨D, 0, none⟩), v] w fun e w' => e = .returned (.int .i64 (mayL σ fs : Nat)) ∧ w = w' := by
  obtain ⟨qv, kv, hb, hQ, hK⟩ := h.is
  have hC := Cells.of hb h.ok
  have cd := hC.down
  clear hC h hQ hK hb
  rcases hd : σ.down with _ | _
  · rw [hd] at cd
    have HM : Hd (mayL σ fs = if fs.all isF then 0 else 1) := ⟨by simp [mayL, hd]⟩
    clear hd
    obtain ⟨p, cap, rfl⟩ : ∃ p cap, v = .slice p fs.length cap := by
      rcases hv.is with ⟨rfl, rfl | ⟨a, c, rfl⟩⟩ | ⟨g, o, cap, rfl, _⟩
      · exact ⟨none, 0, rfl⟩
      · exact ⟨some a, c, rfl⟩
      · exact ⟨_, cap, rfl⟩
    have HV := Hd.mk hv
    clear hv
    obtain ⟨n, hn⟩ : ∃ n, fs.length = n := ⟨_, rfl⟩
    rw [hn] at HV hlen
    rw [hn]
    go_enter Try.func66, Try.ntmps66
    go_wp2
    go_loop [13] (fun i => ∃ k : Nat, k ≤ n ∧ i = .int .i64 k ∧ ∀ j x, j < k → fs[j]? = some x → isF x = true) (fun i => n - (intOf i).toNat)
    case atStart => exact ⟨0, Nat.zero_le _, rfl, fun j x hj => absurd hj (Nat.not_lt_zero _)⟩
    case round =>
      obtain ⟨k, hk, rfl, hall⟩ := hrel
      have HA := Hd.mk hall
      clear hall
      by_cases hlt : k < n
      · have hd1 : decide ((k : Int) < (n : Int)) = true := by simp; omega
        obtain ⟨x, hx⟩ : ∃ x, fs[k]? = some x := ⟨fs[k], List.getElem?_eq_getElem (by omega)⟩
        have hcell : ∃ g o, p = some ⟨g, o, none⟩ ∧ w.cell? ⟨g, o + k, none⟩ = some (.int .i64 x) := by
          rcases HV.out.is with ⟨rfl, _⟩ | ⟨g, o, cap', he, _, hc⟩
          · simp at hx
          · simp at he
            exact ⟨g, o, he.1, hc k x hx⟩
        obtain ⟨g, o, rfl, hc⟩ := hcell
        have HX := Hd.mk hx
        clear hx HV
        rcases hi : isF x with _ | _
        · have HI := Hd.mk hi
          go_wp2_with (go_at_call 84; refine (is_any x _).mono ?_; rintro e w1 ⟨rfl, rfl⟩)
          go_ret
          have : fs.all isF = false := by
            rw [List.all_eq_false]
            exact ⟨x, List.mem_of_getElem? HX.out, by simp [hi]⟩
          rw [HM.out, this]
          exact ⟨rfl, rfl⟩
        · have HI := Hd.mk hi
          go_wp2_with (go_at_call 84; refine (is_any x _).mono ?_; rintro e w1 ⟨rfl, rfl⟩)
          go_round
          case rel => exact ⟨k + 1, hlt, by go_num, fun j y hj hy => by
            rcases Nat.lt_succ_iff_lt_or_eq.1 hj with h | rfl
            · exact HA.out j y h hy
            · have := HX.out; rw [hy] at this; cases this; exact HI.out⟩
          case measure => simp [intOf]; omega
      · have hd1 : decide ((k : Int) < (n : Int)) = false := by simp; omega
        have hall : fs.all isF = true := by
          rw [List.all_eq_true]
          intro x hx
          obtain ⟨j, hj, rfl⟩ := List.getElem_of_mem hx
          exact HA.out j _ (by omega) (List.getElem?_eq_getElem hj)
        rw [hall] at HM
        clear hall
        go_wp2
        go_ret
        rw [HM.out]
        exact ⟨rfl, rfl⟩
  · rw [hd] at cd
    have HM : Hd (mayL σ fs = 10) := ⟨by simp [mayL, hd]⟩
    clear hd
    go_enter Try.func66, Try.ntmps66
    go_wp2
    go_ret
    rw [HM.out]
    exact ⟨rfl, rfl⟩

/-- a row built in place -/
theorem IRow.one (w : World) (f : Int) : IRow (w.alloc (.cells #[.int .i64 f] 3)) (.slice (some ⟨w.heap.size, 0, none⟩) 1 1) [f] :=
  ⟨.inr ⟨w.heap.size, 0, 1, rfl, ⟨#[.int .i64 f], (0, 0), (Blk.new w 3 [.int .i64 f]).is⟩, fun j x hj => by
    have := (Blk.new w 3 [.int .i64 f]).cell j
    rw [Nat.zero_add, this]
    rcases j with _ | j
    · simp at hj; subst hj; rfl
    · simp at hj⟩⟩
theorem IRow.two (w : World) (f g : Int) : IRow (w.alloc (.cells #[.int .i64 f, .int .i64 g] 3)) (.slice (some ⟨w.heap.size, 0, none⟩) 2 2) [f, g] :=
  ⟨.inr ⟨w.heap.size, 0, 2, rfl, ⟨#[.int .i64 f, .int .i64 g], (0, 0), (Blk.new w 3 [.int .i64 f, .int .i64 g]).is⟩, fun j x hj => by
    have := (Blk.new w 3 [.int .i64 f, .int .i64 g]).cell j
    rw [Nat.zero_add, this]
    rcases j with _ | _ | j
    · simp at hj; subst hj; rfl
    · simp at hj; subst hj; rfl
    · simp at hj⟩⟩

theorem Rep.alloc {w : World} {D : Nat} {σ : St} {O : Option Nat} (h : Rep w D σ O) (o : Obj) : Rep (w.alloc o) D σ O :=
  h.keeps ((Keeps.refl (fun _ => False) w).alloc o) (fun h => h) (fun _ _ h => h) (fun _ _ _ _ h => h)

end Go.Proofs.Ytmcdfhihfcfbaaa.W
