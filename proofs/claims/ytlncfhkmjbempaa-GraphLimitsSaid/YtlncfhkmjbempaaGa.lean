/-
  slices.IndexFunc, slices.ContainsFunc, every, at several types (printed by tools/gen_pred.py).
-/
import Derived.Test.YtlncfhkmjbempaaPv
namespace Go.Proofs.Ytlncfhkmjbempaa.W
open Go.RowKit
set_option linter.unusedVariables false

theorem xfArc_any {α : Type} {E : World → List Value → α → Prop} {p : α → Bool} {xs : List α} (w : World) (v : Value) (g : Nat) (lb : Array Value) (hR : Rw 2 E w v xs) (hE : Stays E) (hl : lenR xs.length) (hp : FnV aggA E (fun x => .bool (p x)) xs w g lb) :
    Calls Try.prog 41 #[v, .func (.func g) #[] lb] w fun e w' => e = .returned (.int .i64 (idxP p xs)) ∧ Below w.heap.size w w' := by
  obtain ⟨pv, cv, rfl⟩ := hR.slice
  have HR := Hd.mk hR
  have HP := Hd.mk hp
  have eg : ∀ args w, (callFunc g args).run Try.prog w = .ok (.enter g args) w := hp.ent
  clear hR hp
  unfold lenR at hl
  obtain ⟨n, hn⟩ : ∃ n, xs.length = n := ⟨_, rfl⟩
  rw [hn] at hl ⊢
  go_enter Try.func41, Try.ntmps41
  go_wp2
  go_loopw [8] (fun i wr => ∃ k : Nat, k ≤ n ∧ i = .int .i64 k ∧ Hd (∀ j (h : j < xs.length), j < k → p xs[j] = false) ∧ Hd (Below w.heap.size w wr)) (fun i _ => n - (intOf i).toNat)
  case atStart => exact ⟨0, Nat.zero_le _, rfl, ⟨fun j _ hj => absurd hj (Nat.not_lt_zero _)⟩, ⟨Below.refl _ _⟩⟩
  case round =>
    obtain ⟨k, hk, rfl, HA, HK⟩ := hrel
    by_cases hlt : k < n
    · have hd1 : decide ((k : Int) < (n : Int)) = true := by simp; omega
      have hkq : k < xs.length := hn ▸ hlt
      obtain ⟨g0, of, cs, hpv, hg, hcl, hEc, hcc⟩ := (HR.out.below hE HK.out).at rfl (j := k) hkq
      subst hpv
      obtain ⟨u0, u1, rfl⟩ := len2 hcl
      have HC := Hd.mk (HP.out.at_ xs[k] (List.getElem_mem hkq) wr HK.out _ hEc)
      have hA : aggA [u0, u1] = .agg #[u0, u1] := rfl
      rw [hA] at HC
      have c0 : wr.cell? ⟨g0, of + k * 2, none⟩ = some u0 := hcc 0 _ rfl
      have c1 : wr.cell? ⟨g0, of + k * 2 + 1, none⟩ = some u1 := hcc 1 _ rfl
      clear hcc hcl hEc hg hA
      rcases he : p xs[k] with _ | _
      · have HE := Hd.mk he
        rw [he] at HC
        clear he
        go_wp2_with fail
        refine HC.out.mono ?_
        rintro e w2 ⟨rfl, hK2⟩
        have HK2 := Hd.mk (HK.out.trans (hK2.mono HK.out.size))
        clear hK2
        go_wp2
        refine ⟨⟨k + 1, hlt, by go_num, ⟨fun j h hj => ?_⟩, HK2⟩, by simp [intOf]; omega⟩
        rcases Nat.lt_succ_iff_lt_or_eq.1 hj with h' | rfl
        · exact HA.out j h h'
        · exact HE.out
      · have HE := Hd.mk he
        rw [he] at HC
        clear he
        go_wp2_with fail
        refine HC.out.mono ?_
        rintro e w2 ⟨rfl, hK2⟩
        have HK2 := Hd.mk (HK.out.trans (hK2.mono HK.out.size))
        clear hK2
        go_wp2
        go_ret
        exact ⟨ret_i (idxP_hit hkq HE.out HA.out).symm, HK2.out⟩
    · have hd1 : decide ((k : Int) < (n : Int)) = false := by simp; omega
      go_wp2
      go_ret
      exact ⟨ret_i (idxP_miss (fun j h => HA.out j h (by omega))).symm, HK.out⟩

theorem cfArc_any {α : Type} {E : World → List Value → α → Prop} {p : α → Bool} {xs : List α} (w : World) (v : Value) (g : Nat) (lb : Array Value) (hR : Rw 2 E w v xs) (hE : Stays E) (hl : lenR xs.length) (hp : FnV aggA E (fun x => .bool (p x)) xs w g lb) :
    Calls Try.prog 29 #[v, .func (.func g) #[] lb] w fun e w' => e = .returned (.bool (xs.any p)) ∧ Below w.heap.size w w' := by
  have HX := Hd.mk (xfArc_any w v g lb hR hE hl hp)
  have HI := Hd.mk (idxP_any p xs)
  clear hR hp
  generalize idxP p xs = r at HX HI
  go_enter Try.func29, Try.ntmps29
  go_wp2_with fail
  refine HX.out.mono ?_
  rintro e w2 ⟨rfl, hK2⟩
  have HK2 := Hd.mk hK2
  clear hK2
  go_wp2
  go_ret
  exact ⟨ret_b HI.out, HK2.out⟩

end Go.Proofs.Ytlncfhkmjbempaa.W
