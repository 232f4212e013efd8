/-
  The walk of journal's all: functions called one behind the other, up to the first error.
-/
import Derived.Test.YtmcdfhihfcfbaaaL
import Derived.Shelf.Abstract
namespace Go.Proofs.Ytmcdfhihfcfbaaa.W
open Go.RowKit
set_option linter.unusedVariables false

/-- a step: a function and what it holds -/
structure Cl where
  f : FuncId
  a : Array Value
  c : Array Value
def Cl.val (x : Cl) : Value := .func (.func x.f) x.a x.c

set_option maxRecDepth 100000 in
theorem jall_any (w : World) (g : Nat) (cs : List Cl) (I : Nat → World → Prop) (es : Nat → Nat) (hl : cs.length ≤ 1000)
    (hen : ∀ x ∈ cs, Enters Try.prog x.f)
    (hc : ∀ j wr x, I j wr → cs[j]? = some x → wr.cell? ⟨g, j, none⟩ = some x.val)
    (hs : ∀ j wr x, I j wr → cs[j]? = some x → Calls Try.prog x.f (x.a ++ x.c) wr fun e w' => e = .returned (.int .i64 (es j)) ∧ I (j + 1) w') (h0 : I 0 w) :
    Calls Try.prog 38 #[.slice (some ⟨g, 0, none⟩) cs.length cs.length] w fun e w' =>
      (∃ k, k < cs.length ∧ (∀ j, j < k → es j = 0) ∧ es k ≠ 0 ∧ e = .returned (.int .i64 (es k)) ∧ I (k + 1) w') ∨ ((∀ j, j < cs.length → es j = 0) ∧ e = .returned (.int .i64 0) ∧ I cs.length w') := by
  have HC := Hd.mk hc
  have HS := Hd.mk hs
  have HEN := Hd.mk hen
  have H0 := Hd.mk h0
  obtain ⟨n, hn⟩ : ∃ n, cs.length = n := ⟨_, rfl⟩
  have HN := Hd.mk hn
  rw [hn] at hl
  rw [hn]
  clear hc hs h0 hn hen
  go_enter Try.func38, Try.ntmps38
  go_wp2
  go_loopw [8] (fun i wr => ∃ k : Nat, k ≤ n ∧ i = .int .i64 k ∧ (∀ j, j < k → es j = 0) ∧ I k wr) (fun i _ => n - (intOf i).toNat)
  case atStart => exact ⟨0, Nat.zero_le _, rfl, fun j hj => absurd hj (Nat.not_lt_zero _), H0.out⟩
  case round =>
    obtain ⟨k, hk, rfl, hall, hI⟩ := hrel
    have HA := Hd.mk hall
    have HI := Hd.mk hI
    clear hall hI
    by_cases hlt : k < n
    · have hd1 : decide ((k : Int) < (n : Int)) = true := by simp; omega
      have hkl : k < cs.length := HN.out ▸ hlt
      obtain ⟨x, hx⟩ : ∃ x, cs[k]? = some x := ⟨_, List.getElem?_eq_getElem hkl⟩
      have c1 := HC.out k wr x HI.out hx
      have HX := Hd.mk (HS.out k wr x HI.out hx)
      have hen := HEN.out x (List.mem_of_getElem? hx)
      obtain ⟨f, a, c⟩ := x
      unfold Cl.val at c1
      dsimp only at c1 HX hen
      have hen2 : ∀ args w, (callFunc f args).run Try.prog w = .ok (.enter f args) w := hen
      clear hen
      clear hx hkl
      go_wp2_with (go_at_fn f; refine HX.out.mono ?_)
      rintro e w1 ⟨rfl, h1⟩
      have H1 := Hd.mk h1; clear h1
      obtain ⟨E, hE⟩ : ∃ E, es k = E := ⟨_, rfl⟩
      rw [hE]
      by_cases hz : E = 0
      · subst hz
        have HZ : Hd (∀ j, j < k + 1 → es j = 0) := ⟨fun j hj => by
          rcases Nat.lt_or_ge j k with h' | h'
          · exact HA.out j h'
          · obtain rfl : j = k := by omega
            exact hE⟩
        clear hE
        go_wp2
        go_roundw
        case rel => exact ⟨k + 1, hlt, by go_num, HZ.out, H1.out⟩
        case measure => simp [intOf]; omega
      · have h1 : ((E : Int) == 0) = false := by simp; omega
        have h2 : ((E : Int) != 0) = true := by simp; omega
        have HE := Hd.mk hE
        have HZ := Hd.mk hz
        clear hE hz
        go_wp2
        go_ret
        exact .inl ⟨k, hlt, HA.out, by rw [HE.out]; exact HZ.out, ret_i (by rw [HE.out]), H1.out⟩
    · have hd1 : decide ((k : Int) < (n : Int)) = false := by simp; omega
      obtain rfl : k = n := by omega
      go_wp2
      go_ret
      exact .inr ⟨HA.out, rfl, HI.out⟩

end Go.Proofs.Ytmcdfhihfcfbaaa.W
