import Derived.Test.YtmgkoocpnakanaaPv
import Derived.Laws.EntriesVeiled
/-
  slices.IndexFunc, slices.ContainsFunc, every, at several types (printed by tools/gen_pred.py).
-/
namespace Go.Proofs.Ytmgkoocpnakanaa.W
open Go.RowKit
set_option linter.unusedVariables false

theorem xfArc_any {α : Type} {E : World → List Value → α → Prop} {p : α → Bool} {xs : List α} (w : World) (v : Value) (g : Nat) (lb : Array Value) (hR : Rw 2 E w v xs) (hE : Stays E) (hl : lenR xs.length) (hp : FnV aggA E (fun x => .bool (p x)) xs w g lb) :
    Calls Try.prog 69 #[v, .func (.func g) #[] lb] w fun e w' => e = .returned (.int .i64 (idxP p xs)) ∧ Below w.heap.size w w' := by
  obtain ⟨pv, cv, rfl⟩ := hR.slice
  have HR := Hd.mk hR
  have HP := Hd.mk hp
  have eg : ∀ args w, (callFunc g args).run Try.prog w = .ok (.enter g args) w := hp.ent
  clear hR hp
  unfold lenR at hl
  obtain ⟨n, hn⟩ : ∃ n, xs.length = n := ⟨_, rfl⟩
  rw [hn] at hl ⊢
  go_enter Try.func69, Try.ntmps69
  go_wp2
  go_loopw [8] (fun i wr => ∃ k : Nat, k ≤ n ∧ i = .int .i64 k ∧ Hd (∀ j (h : j < xs.length), j < k → p xs[j] = false) ∧ Hd (Below w.heap.size w wr)) (fun i _ => n - (intOf i).toNat)
  case atStart => exact ⟨0, Nat.zero_le _, rfl, ⟨fun j _ hj => absurd hj (Nat.not_lt_zero _)⟩, ⟨Below.refl _ _⟩⟩
  case round =>
    obtain ⟨k, hk, rfl, HA, HK⟩ := hrel
    by_cases hlt : k < n
    · have hd1 : decide ((k : Int) < (n : Int)) = true := by simp; omega
      have hkq : k < xs.length := hn ▸ hlt
      obtain ⟨g0, of, cs, hpv, hg, hcl, hEc, hcc⟩ := (HR.out.below hE HK.out).at rfl (j := k) hkq
      subst hpv
      obtain ⟨u0, u1, rfl⟩ := len2 hcl
      have HC := Hd.mk (HP.out.at_ xs[k] (List.getElem_mem hkq) wr HK.out _ hEc)
      have hA : aggA [u0, u1] = .agg #[u0, u1] := rfl
      rw [hA] at HC
      have c0 : wr.cell? ⟨g0, of + k * 2, none⟩ = some u0 := hcc 0 _ rfl
      have c1 : wr.cell? ⟨g0, of + k * 2 + 1, none⟩ = some u1 := hcc 1 _ rfl
      clear hcc hcl hEc hg hA
      rcases he : p xs[k] with _ | _
      · have HE := Hd.mk he
        rw [he] at HC
        clear he
        go_wp2_with fail
        refine HC.out.mono ?_
        rintro e w2 ⟨rfl, hK2⟩
        have HK2 := Hd.mk (HK.out.trans (hK2.mono HK.out.size))
        clear hK2
        go_wp2
        refine ⟨⟨k + 1, hlt, by go_num, ⟨fun j h hj => ?_⟩, HK2⟩, by simp [intOf]; omega⟩
        rcases Nat.lt_succ_iff_lt_or_eq.1 hj with h' | rfl
        · exact HA.out j h h'
        · exact HE.out
      · have HE := Hd.mk he
        rw [he] at HC
        clear he
        go_wp2_with fail
        refine HC.out.mono ?_
        rintro e w2 ⟨rfl, hK2⟩
        have HK2 := Hd.mk (HK.out.trans (hK2.mono HK.out.size))
        clear hK2
        go_wp2
        go_ret
        exact ⟨ret_i (idxP_hit hkq HE.out HA.out).symm, HK2.out⟩
    · have hd1 : decide ((k : Int) < (n : Int)) = false := by simp; omega
      go_wp2
      go_ret
      exact ⟨ret_i (idxP_miss (fun j h => HA.out j h (by omega))).symm, HK.out⟩

theorem cfArc_any {α : Type} {E : World → List Value → α → Prop} {p : α → Bool} {xs : List α} (w : World) (v : Value) (g : Nat) (lb : Array Value) (hR : Rw 2 E w v xs) (hE : Stays E) (hl : lenR xs.length) (hp : FnV aggA E (fun x => .bool (p x)) xs w g lb) :
    Calls Try.prog 46 #[v, .func (.func g) #[] lb] w fun e w' => e = .returned (.bool (xs.any p)) ∧ Below w.heap.size w w' := by
  have HX := Hd.mk (xfArc_any w v g lb hR hE hl hp)
  have HI := Hd.mk (idxP_any p xs)
  clear hR hp
  generalize idxP p xs = r at HX HI
  go_enter Try.func46, Try.ntmps46
  go_wp2_with fail
  refine HX.out.mono ?_
  rintro e w2 ⟨rfl, hK2⟩
  have HK2 := Hd.mk hK2
  clear hK2
  go_wp2
  go_ret
  exact ⟨ret_b HI.out, HK2.out⟩

end Go.Proofs.Ytmgkoocpnakanaa.W

/-
  graph.Right.
-/
namespace Go.Proofs.Ytmgkoocpnakanaa.W
open Go.RowKit
set_option linter.unusedVariables false

def nodeB (n v : Int) : Bool := decide (0 ≤ v) && decide (v < n)
def rightB (n : Int) (arcs : List Arc) : Bool := decide (0 ≤ n) && decide (n ≤ 262144) && arcs.all fun a => nodeB n a.f && nodeB n a.t

theorem node_any (n v : Int) (b : Nat) (w : World) (hc : w.cell? ⟨b, 0, none⟩ = some (.int .i64 n)) :
    Calls Try.prog 45 #[.int .i64 v, .pointer (some ⟨b, 0, none⟩)] w fun e w' => e = .returned (.bool (nodeB n v)) ∧ w = w' := by
  go_enter Try.func45, Try.ntmps45
  by_cases h1 : 0 ≤ v
  · have e1 : decide (0 ≤ v) = true := by simpa using h1
    go_wp2
    go_ret
    exact ⟨ret_b (by simp [nodeB, h1]), rfl⟩
  · have e1 : decide (0 ≤ v) = false := by simpa using h1
    go_wp2
    go_ret
    exact ⟨ret_b (by simp only [nodeB]; rw [e1]; rfl), rfl⟩

theorem right2_any (n : Int) (a : Arc) (b f : Nat) (w : World) (hb : CellsAt b [.int .i64 n] w) (hf : CellsAt f [.func (.func 45) #[] #[.pointer (some ⟨b, 0, none⟩)]] w) :
    Calls Try.prog 47 #[.agg #[.int .i64 a.f, .int .i64 a.t], .pointer (some ⟨f, 0, none⟩)] w fun e w' => e = .returned (.bool (!nodeB n a.f || !nodeB n a.t)) ∧ Below w.heap.size w w' := by
  have hk := below_al w (.cells #[.int .i64 a.f, .int .i64 a.t] 42)
  have c1 := (hb.below hk).2 0 _ rfl
  have c2 := (hf.below hk).2 0 _ rfl
  have HK := Hd.mk hk
  have H1 := Hd.mk (node_any n a.f b _ c1)
  have H2 := Hd.mk (node_any n a.t b _ c1)
  clear hk hb hf
  go_enter Try.func47, Try.ntmps47
  go_wp2_with fail
  refine H1.out.mono ?_
  rintro e w2 ⟨rfl, rfl⟩
  rcases h1 : nodeB n a.f with _ | _
  · go_wp2
    go_ret
    exact ⟨ret_b (by rw [h1]; rfl), HK.out⟩
  · go_wp2_with fail
    refine H2.out.mono ?_
    rintro e w2 ⟨rfl, rfl⟩
    go_wp2
    go_ret
    exact ⟨ret_b (by rw [h1]; rfl), HK.out⟩

theorem right_fn (n : Int) (arcs : List Arc) (b f : Nat) (w : World) (hb : CellsAt b [.int .i64 n] w) (hf : CellsAt f [.func (.func 45) #[] #[.pointer (some ⟨b, 0, none⟩)]] w) :
    FnV aggA Arc.E (fun x => .bool (!nodeB n x.f || !nodeB n x.t)) arcs w 47 #[.pointer (some ⟨f, 0, none⟩)] :=
  ⟨enters_of Try.func47 rfl rfl, fun x hx w' hb' cs hE => by
    rw [show cs = x.cells from hE]
    exact right2_any n x b f w' (hb.below hb') (hf.below hb')⟩

theorem right_eq (n : Int) (arcs : List Arc) : (!(arcs.any fun x => !nodeB n x.f || !nodeB n x.t)) = arcs.all fun a => nodeB n a.f && nodeB n a.t := by
  rw [Bool.eq_iff_iff]
  simp

theorem gright_any (w : World) (n : Int) (v : Value) (arcs : List Arc) (hR : Rw 2 Arc.E w v arcs) (hl : lenR arcs.length) :
    Calls Try.prog 32 #[.int .i64 n, v] w fun e w' => e = .returned (.bool (rightB n arcs)) ∧ Below w.heap.size w w' := by
  have B0 := below_al w (.cells #[.int .i64 n] 3)
  have B1 := B0.trans ((below_al (w.alloc (.cells #[.int .i64 n] 3)) (.cells #[.func (.func 45) #[] #[.pointer (some ⟨w.heap.size, 0, none⟩)]] 74)).mono B0.size)
  have C0 : CellsAt w.heap.size [.int .i64 n] (w.alloc (.cells #[.int .i64 n] 3)) := CellsAt.new w [.int .i64 n] 3
  have C1 : CellsAt (w.heap.size + 1) [.func (.func 45) #[] #[.pointer (some ⟨w.heap.size, 0, none⟩)]] ((w.alloc (.cells #[.int .i64 n] 3)).alloc (.cells #[.func (.func 45) #[] #[.pointer (some ⟨w.heap.size, 0, none⟩)]] 74)) :=
    CellsAt.new' _ 74 (by simp)
  have HC := Hd.mk (cfArc_any _ v 47 #[.pointer (some ⟨w.heap.size + 1, 0, none⟩)] (hR.below Arc.stays B1) Arc.stays hl (right_fn n arcs w.heap.size (w.heap.size + 1) _ (C0.below (below_al _ _)) C1))
  have HB := Hd.mk B1
  have HQ := Hd.mk (right_eq n arcs)
  clear hR B0 B1 C0 C1
  go_enter Try.func32, Try.ntmps32
  by_cases h1 : 0 ≤ n
  · have e1 : decide (0 ≤ n) = true := by simpa using h1
    by_cases h2 : n ≤ 262144
    · have e2 : decide (n ≤ 262144) = true := by simpa using h2
      go_wp2_with fail
      refine HC.out.mono ?_
      rintro e w2 ⟨rfl, b2⟩
      have HB2 := Hd.mk (HB.out.trans (b2.mono HB.out.size))
      clear b2
      go_wp2
      go_ret
      exact ⟨ret_b (by simp only [rightB]; rw [e1, e2, HQ.out]; rfl), HB2.out⟩
    · have e2 : decide (n ≤ 262144) = false := by simpa using h2
      go_wp2
      go_ret
      exact ⟨ret_b (by simp only [rightB]; rw [e1, e2]; rfl), by go_grown⟩
  · have e1 : decide (0 ≤ n) = false := by simpa using h1
    go_wp2
    go_ret
    exact ⟨ret_b (by simp only [rightB]; rw [e1]; rfl), by go_grown⟩

end Go.Proofs.Ytmgkoocpnakanaa.W
