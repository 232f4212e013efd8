/-
  The walks of the disk's small functions: is, Start, Down, Lose, Size, ends, New.
-/
import Derived.Test.YtmcdfhihfcfbaaaRep
namespace Go.Proofs.Ytmcdfhihfcfbaaa.W
open Go.RowKit
set_option linter.unusedVariables false

structure Cells (w : World) (D : Nat) (σ : St) (qv kv : Value) : Prop where
  q : w.cell? ⟨D, 16, none⟩ = some qv
  lost : w.cell? ⟨D, 17, none⟩ = some (.int .i64 (σ.lost : Int))
  down : w.cell? ⟨D, 18, none⟩ = some (.bool σ.down)
  armed : w.cell? ⟨D, 19, none⟩ = some (.int .i64 (σ.armed : Int))
  keep : w.cell? ⟨D, 20, none⟩ = some kv
  last : ∀ f, f < 8 → w.cell? ⟨D, f, none⟩ = some (strV (σ.lasts.getD f []))
  file : ∀ f, f < 8 → w.cell? ⟨D, 8 + f, none⟩ = some (strV (σ.files.getD f []))
  free : ∀ j, w.frozen? ⟨D, j, none⟩ = false

theorem Cells.of {w : World} {D : Nat} {σ : St} {qv kv : Value} (h : Blk w D 70 (cellsD σ qv kv)) (ok : Ok σ) : Cells w D σ qv kv :=
  ⟨h.at (cellsD_rest ok qv kv 0), h.at (cellsD_rest ok qv kv 1), h.at (cellsD_rest ok qv kv 2), h.at (cellsD_rest ok qv kv 3), h.at (cellsD_rest ok qv kv 4), fun f hf => h.at (cellsD_last ok qv kv hf), fun f hf => h.at (cellsD_file ok qv kv hf), h.free⟩

theorem Rep.put {w : World} {D : Nat} {σ σ' : St} {O : Option Nat} (h : Rep w D σ O) (ok : Ok σ') {j : Nat} {v : Value} (hq : σ'.queue = σ.queue) (hk : σ'.keep = σ.keep) (hv : ∀ qv kv, (cellsD σ qv kv).set j v = cellsD σ' qv kv) : Rep (w.setCell ⟨D, j, none⟩ v) D σ' O := by
  have hn := h.notInt
  have hne := h.ne
  obtain ⟨qv, kv, hb, hQ, hK⟩ := h.is
  have K : Keeps (· = D) w (w.setCell ⟨D, j, none⟩ v) := (Keeps.refl (· = D) w).setCell (p := ⟨D, j, none⟩) (.inr rfl) v
  refine ⟨⟨qv, kv, (hb.set j v).cast (hv qv kv), ?_, ?_⟩, ok⟩
  · rw [hq]; exact hQ.keeps K (fun g hg e => hne (hg.trans (congrArg some e)))
  · rw [hk]; exact hK.keeps K (fun g cur fz hg e => hn g cur fz hg (.inl e))

theorem is_any (f : Int) (w : World) : Calls Try.prog 84 #[.int .i64 f] w fun e w' => e = .returned (.bool (isF f)) ∧ w = w' := by
  go_enter Try.func84, Try.ntmps84
  by_cases h0 : 0 ≤ f
  · by_cases h8 : f < 8
    · go_wp2
      go_ret
      exact ⟨ret_b (by unfold isF; simp; omega), rfl⟩
    · go_wp2
      go_ret
      exact ⟨ret_b (by unfold isF; simp; omega), rfl⟩
  · go_wp2
    go_ret
    exact ⟨ret_b (by unfold isF; simp; omega), rfl⟩

theorem start_any (w : World) (D : Nat) (σ : St) (O : Option Nat) (h : Rep w D σ O) :
    Calls Try.prog 26 #[.pointer (some ⟨D, 0, none⟩)] w fun e w' => e = .returned (.tuple #[]) ∧ Rep w' D (startS σ) O ∧ Keeps (· = D) w w' := by
  obtain ⟨qv, kv, hb, hQ, hK⟩ := h.is
  have hC := Cells.of hb h.ok
  have H := Hd.mk h
  have cd := hC.down
  have fr := hC.free 18
  clear hC h hQ hK hb
  go_enter Try.func26, Try.ntmps26
  go_wp2
  go_end0
  exact ⟨rfl, H.out.put (Ok.start H.out.ok) rfl rfl (fun qv kv => set_down H.out.ok qv kv false), (Keeps.refl (· = D) w).setCell (p := ⟨D, 18, none⟩) (.inr rfl) _⟩

theorem down_any (w : World) (D : Nat) (σ : St) (O : Option Nat) (h : Rep w D σ O) :
    Calls Try.prog 37 #[.pointer (some ⟨D, 0, none⟩)] w fun e w' => e = .returned (.bool σ.down) ∧ w = w' := by
  obtain ⟨qv, kv, hb, hQ, hK⟩ := h.is
  have hC := Cells.of hb h.ok
  have cd := hC.down
  clear hC h hQ hK hb
  go_enter Try.func37, Try.ntmps37
  go_wp2
  go_ret
  exact ⟨rfl, rfl⟩

theorem lose_any (w : World) (D : Nat) (σ : St) (O : Option Nat) (n : Int) (hn : n ≤ 9223372036854775807) (h : Rep w D σ O) :
    Calls Try.prog 28 #[.pointer (some ⟨D, 0, none⟩), .int .i64 n] w fun e w' => e = .returned (.tuple #[]) ∧ Rep w' D (loseS σ n) O ∧ Keeps (· = D) w w' := by
  obtain ⟨qv, kv, hb, hQ, hK⟩ := h.is
  have hC := Cells.of hb h.ok
  have H := Hd.mk h
  have cd := hC.lost
  have fr := hC.free 17
  clear hC h hQ hK hb
  go_enter Try.func28, Try.ntmps28
  by_cases h : n < 0
  · have e : Hd ((loseS σ n).lost = 0) := ⟨by simp [loseS]; omega⟩
    go_wp2
    go_end0
    have hp := H.out.put (Ok.lose H.out.ok n) (v := .int .i64 (((loseS σ n).lost : Nat) : Int)) rfl rfl (fun qv kv => set_lost H.out.ok qv kv _)
    rw [e.out] at hp
    exact ⟨rfl, hp, (Keeps.refl (· = D) w).setCell (p := ⟨D, 17, none⟩) (.inr rfl) _⟩
  · have e : Hd (((loseS σ n).lost : Int) = n) := ⟨by simp [loseS]; omega⟩
    go_wp2
    go_end0
    have hp := H.out.put (Ok.lose H.out.ok n) (v := .int .i64 (((loseS σ n).lost : Nat) : Int)) rfl rfl (fun qv kv => set_lost H.out.ok qv kv _)
    rw [e.out] at hp
    exact ⟨rfl, hp, (Keeps.refl (· = D) w).setCell (p := ⟨D, 17, none⟩) (.inr rfl) _⟩

theorem isF_nat {f : Int} (h : isF f = true) : ∃ k : Nat, f = (k : Int) ∧ k < 8 := by
  unfold isF at h
  simp at h
  exact ⟨f.toNat, by omega, by omega⟩

theorem size_any (w : World) (D : Nat) (σ : St) (O : Option Nat) (f : Int) (h : Rep w D σ O) :
    Calls Try.prog 73 #[.pointer (some ⟨D, 0, none⟩), .int .i64 f] w fun e w' => e = .returned (.int .i64 (sizeS σ f : Nat)) ∧ w = w' := by
  obtain ⟨qv, kv, hb, hQ, hK⟩ := h.is
  have hC := Hd.mk (Cells.of hb h.ok)
  clear h hQ hK hb
  rcases hf : isF f with _ | _
  · have e : Hd (sizeS σ f = 0) := ⟨by unfold sizeS; rw [hf]; rfl⟩
    go_enter Try.func73, Try.ntmps73
    go_wp2_with (go_at_call 84; refine (is_any f _).mono ?_; rintro e w1 ⟨rfl, rfl⟩)
    go_ret
    rw [e.out]
    exact ⟨rfl, rfl⟩
  · obtain ⟨k, rfl, hk⟩ := isF_nat hf
    have e : Hd (sizeS σ k = (σ.files.getD k []).length) := ⟨by unfold sizeS; rw [hf]; rfl⟩
    have c := hC.out.file k hk
    rw [strV_def] at c
    have hs : (⟨(σ.files.getD k []).toArray⟩ : ByteArray).size = (σ.files.getD k []).length := rfl
    have hi : (k : Int) < 8 := by omega
    obtain ⟨b, hb⟩ : ∃ b : ByteArray, (⟨(σ.files.getD k []).toArray⟩ : ByteArray) = b := ⟨_, rfl⟩
    rw [hb] at c hs
    rw [← hs] at e
    clear hs hb hC
    go_enter Try.func73, Try.ntmps73
    go_wp2_with (go_at_call 84; refine (is_any k _).mono ?_; rintro e w1 ⟨rfl, rfl⟩)
    go_ret
    rw [e.out]
    exact ⟨rfl, rfl⟩

theorem ends_any (w : World) (D : Nat) (σ : St) (O : Option Nat) (ha : σ.armed ≤ 9223372036854775807) (h : Rep w D σ O) :
    Calls Try.prog 54 #[.pointer (some ⟨D, 0, none⟩)] w fun e w' => e = .returned (.bool (endsB σ)) ∧ Rep w' D (endsS σ) O ∧ Keeps (· = D) w w' := by
  obtain ⟨qv, kv, hb, hQ, hK⟩ := h.is
  have hC := Cells.of hb h.ok
  have H := Hd.mk h
  have cd := hC.down
  have ca := hC.armed
  have fr := hC.free 19
  clear hC h hQ hK hb
  go_enter Try.func54, Try.ntmps54
  rcases hd : σ.down with _ | _
  · rcases Nat.eq_zero_or_pos σ.armed with h0 | h0
    · have e0 : Hd (endsB σ = false ∧ endsS σ = σ) := ⟨by simp [endsB, h0], by simp [endsS, h0]⟩
      rw [hd] at cd
      rw [h0] at ca
      clear hd h0
      go_wp2
      go_ret
      rw [e0.out.1, e0.out.2]
      exact ⟨rfl, H.out, Keeps.refl _ _⟩
    · obtain ⟨n, hn⟩ : ∃ n, σ.armed - 1 = n := ⟨_, rfl⟩
      have e1 : Hd (endsB σ = decide ((n : Int) = 0)) := ⟨by simp only [endsB, hd]; simp; omega⟩
      have e2 : Hd (endsS σ = { σ with armed := n }) := ⟨by simp only [endsS, hd, hn]; simp; omega⟩
      have e3 : (σ.armed : Int) - 1 = (n : Int) := by omega
      have e4 : ((σ.armed : Int) == 0) = false := by simp; omega
      rw [hd] at cd
      clear hd h0 hn
      go_wp2
      go_ret
      rw [e1.out, e2.out]
      exact ⟨ret_b rfl, H.out.put (σ' := { σ with armed := n }) ⟨H.out.ok.l8, H.out.ok.f8, H.out.ok.ll, H.out.ok.fl, H.out.ok.q⟩ rfl rfl (fun qv kv => set_armed H.out.ok qv kv n), (Keeps.refl (· = D) w).setCell (p := ⟨D, 19, none⟩) (.inr rfl) _⟩
  · have e0 : Hd (endsB σ = false ∧ endsS σ = σ) := ⟨by simp [endsB, hd], by simp [endsS, hd]⟩
    rw [hd] at cd
    clear hd
    go_wp2
    go_ret
    rw [e0.out.1, e0.out.2]
    exact ⟨rfl, H.out, Keeps.refl _ _⟩

theorem new_any (w : World) : Calls Try.prog 11 #[] w fun e w' => e = .returned (.pointer (some ⟨w.heap.size, 0, none⟩)) ∧ Rep w' w.heap.size newS none ∧ Below w.heap.size w w' := by
  go_enter Try.func11, Try.ntmps11
  go_wp2
  go_ret
  refine ⟨rfl, ⟨⟨.slice none 0 0, .slice none 0 0, ?_, ⟨.inl ⟨rfl, rfl, none, rfl⟩⟩, ⟨.inl ⟨rfl, .inl rfl⟩⟩⟩, Ok.new⟩, by go_grown⟩
  exact Blk.new w 70 (cellsD newS (.slice none 0 0) (.slice none 0 0))

end Go.Proofs.Ytmcdfhihfcfbaaa.W
