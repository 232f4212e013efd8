/-
  DiskTells: the walks of the reference's Arm, New, Copy.
-/
import Derived.Test.YtcleocgaooblfaaRf12
import Derived.Test.YtcleocgaooblfaaAppF
import Derived.Test.YtcleocgaooblfaaEach
namespace Go.Proofs.Ytcleocgaooblfaa.W
open Go.RowKit
set_option linter.unusedVariables false

theorem add0' (g j : Nat) : (⟨g, 0, none⟩ : Addr).add j = ⟨g, j, none⟩ := by unfold Addr.add; split <;> simp_all
theorem row_keeps {w w' : World} {B size n : Nat} {e : TypeId} {v : Value} {xs : List Value} (h : w.ownsRow B e size v n xs) (k : Keeps (fun _ => False) w w') : w'.ownsRow B e size v n xs := by
  refine ⟨h.1, ?_⟩
  rcases h.2 with h1 | ⟨b, cap, cur, e, hB, hg, r⟩
  · exact .inl h1
  · have hlt : b < w.heap.size := by
      rcases Nat.lt_or_ge b w.heap.size with h' | h'
      · exact h'
      · rw [Array.getElem?_eq_none h'] at hg; cases hg
    exact .inr ⟨b, cap, cur, e, hB, by rw [k.block b hlt (fun h => h), hg], r⟩
theorem empty_row2 (w : World) (B : Nat) (hB : B ≤ w.heap.size) (e : TypeId) (size : Nat) : (w.alloc (.cells #[] e)).ownsRow B e size (.slice (some ⟨w.heap.size, 0, none⟩) 0 0) 0 [] :=
  ⟨by simp, .inr ⟨w.heap.size, 0, #[], rfl, hB, (Blk.new w e []).is, Nat.le_refl _, by unfold maxLen; omega, by simp, by simp⟩⟩

theorem app_ints (w : World) (v : Value) (ks : List Int) (hk : ks.length ≤ 1000000000) (hI : IR (fun _ => False) w v ks) (p : Option Addr) (hown : w.ownsRow 0 3 1 (.slice p 0 0) 0 []) :
    ∃ v' w' p' c', (Builtin.append_ #[22, 22] 22 #[.slice p 0 0, v]).run Try.prog w = .ok v' w' ∧ IRow w' v' ks ∧ Keeps (fun _ => False) w w' ∧ v' = .slice p' ks.length c' := by
  obtain ⟨i0, hi, hz0, hz1, hz2⟩ := info_parts infoInt
  have fin : ∀ q c, v = .slice q ks.length c → ((q = none ∧ ks.length = 0) ∨ ∃ a, q = some a ∧ ∀ j u, (intsV ks)[j]? = some u → w.cell? (a.add j) = some u) → ∃ v' w' p' c', (Builtin.append_ #[22, 22] 22 #[.slice p 0 0, v]).run Try.prog w = .ok v' w' ∧ IRow w' v' ks ∧ Keeps (fun _ => False) w w' ∧ v' = .slice p' ks.length c' := fun q c hv hx => by
    obtain ⟨v', w', h1, h2, h3⟩ := app_fresh (P := Try.prog) w 22 22 3 Try.underlying22 hi hz0 hz1 hz2 rfl (by decide) 0 (Nat.zero_le _) p hown q ks.length c (intsV ks) hx (by simp [intsV]) (fun u hu => by simp [intsV] at hu; obtain ⟨x, _, rfl⟩ := hu; rfl) (by unfold maxLen; omega) (by omega)
    have hI' : IRow w' v' ks := IRow.of_row h2
    obtain ⟨p', c', e⟩ := hI'.slice
    exact ⟨v', w', p', c', by rw [hv]; exact h1, hI', h3, e⟩
  rcases hI.is with ⟨rfl, rfl | ⟨a, c, rfl⟩⟩ | ⟨g, o, cap, rfl, _, hc⟩
  · exact fin none 0 rfl (.inl ⟨rfl, rfl⟩)
  · exact fin (some a) c rfl (.inr ⟨a, rfl, fun j u hj => by simp [intsV] at hj⟩)
  · refine fin _ cap rfl (.inr ⟨_, rfl, fun j u hj => ?_⟩)
    have e : (⟨g, o, none⟩ : Addr).add j = ⟨g, o + j, none⟩ := by unfold Addr.add; split <;> simp_all
    rw [e]
    simp [intsV] at hj
    obtain ⟨x, hx, rfl⟩ := hj
    exact hc j x hx

theorem app_strs (w : World) (B : Nat) (hB : B ≤ w.heap.size) (v : Value) (ls : List (List UInt8)) (h8 : ls.length = 8) (hI : Own w B 9 v (ls.map strV)) (p : Option Addr) (hown : w.ownsRow B 9 1 (.slice p 0 0) 0 []) :
    ∃ v' w' p' c', (Builtin.append_ #[40, 40] 40 #[.slice p 0 0, v]).run Try.prog w = .ok v' w' ∧ Own w' B 9 v' (ls.map strV) ∧ Keeps (fun _ => False) w w' ∧ v' = .slice p' 8 c' := by
  obtain ⟨i0, hi, hz0, hz1, hz2⟩ := info_parts infoStr
  obtain ⟨g, cap, rfl⟩ := hI.slice (by rw [List.length_map, h8]; decide)
  have hl : (ls.map strV).length = 8 := by rw [List.length_map, h8]
  rw [hl] at hI ⊢
  obtain ⟨v', w', h1, h2, h3⟩ := app_fresh (P := Try.prog) w 40 40 9 Try.underlying40 hi hz0 hz1 hz2 rfl (by decide) B hB p hown (some ⟨g, 0, none⟩) 8 cap (ls.map strV) (.inr ⟨_, rfl, fun j u hj => by rw [add0']; exact (hI.at hj).1⟩) (by rw [hl]) (fun u hu => by
    obtain ⟨x, _, rfl⟩ := List.mem_map.1 hu
    rfl) (by unfold maxLen; omega) (by omega)
  have hO := Own.of_row h2
  obtain ⟨p', c', e⟩ := own_slice hO hl
  exact ⟨v', w', p', c', h1, hO, h3, e⟩

theorem app_pieces (w : World) (B : Nat) (hB : B ≤ w.heap.size) (v : Value) (q : List Pn) (hq : q.length ≤ 1000000000) (hI : PRow w B v q) (p : Option Addr) (hown : w.ownsRow B 80 3 (.slice p 0 0) 0 []) :
    ∃ v' w' p' c', (Builtin.append_ #[69, 69] 69 #[.slice p 0 0, v]).run Try.prog w = .ok v' w' ∧ PRow w' B v' q ∧ Keeps (fun _ => False) w w' ∧ v' = .slice p' q.length c' := by
  obtain ⟨i0, hi, hz0, hz1, hz2⟩ := info_parts infoPiece
  have fin : ∀ a c, v = .slice a q.length c → ((a = none ∧ q.length = 0) ∨ ∃ a', a = some a' ∧ ∀ j u, (qCells q)[j]? = some u → w.cell? (a'.add j) = some u) → ∃ v' w' p' c', (Builtin.append_ #[69, 69] 69 #[.slice p 0 0, v]).run Try.prog w = .ok v' w' ∧ PRow w' B v' q ∧ Keeps (fun _ => False) w w' ∧ v' = .slice p' q.length c' := fun a c hv hx => by
    obtain ⟨v', w', h1, h2, h3⟩ := app_fresh (P := Try.prog) w 69 69 80 Try.underlying69 hi hz0 hz1 hz2 rfl (by decide) B hB p hown a q.length c (qCells q) hx (qCells_len q) (qCells_one q) (by unfold maxLen; omega) (by omega)
    have hI' : PRow w' B v' q := ⟨.inr h2⟩
    obtain ⟨p', c', e⟩ := hI'.slice
    exact ⟨v', w', p', c', by rw [hv]; exact h1, hI', h3, e⟩
  rcases hI.is with ⟨rfl, a, rfl⟩ | hrow
  · rcases a with _ | a
    · exact fin none 0 rfl (.inl ⟨rfl, rfl⟩)
    · exact fin (some a) 0 rfl (.inr ⟨a, rfl, fun j u hj => by simp [qCells] at hj⟩)
  · have hr := hrow
    rcases hrow.2 with ⟨rfl, h0⟩ | ⟨b, cap, cur, rfl, _⟩
    · exact fin none 0 (by rw [h0]) (.inl ⟨rfl, h0⟩)
    · exact fin _ cap rfl (.inr ⟨_, rfl, fun j u hj => hr.cells (g := b) rfl j u hj⟩)

/-- Arm's end -/
theorem arm_end {w w2 : World} {B E : Nat} {σ : St} {n : Int} {m : Nat} {kv : Value} {ks : List Int} (hm : (max n 0).toNat = m) (hok : Ok σ) (hrd : Rd σ) (hE : B ≤ E) {lv qv kv0 : Value} (hc : RCells w B E σ lv qv kv0)
    (k : Keeps (fun _ => False) (w.setCell ⟨E, 4, none⟩ (.int .i64 (m : Int))) w2) (hI : IRow w2 kv ks) :
    RRep (w2.setCell ⟨E, 5, none⟩ kv) B E (armS σ n ks) ∧ RK B w (w2.setCell ⟨E, 5, none⟩ kv) ∧ (∃ u, w2.cell? ⟨E, 5, none⟩ = some u) ∧ w2.frozen? ⟨E, 5, none⟩ = false := by
  have h1 := hc.put (σ' := { σ with armed := m }) (lv' := lv) (qv' := qv) (j := 4) (u := .int .i64 (m : Int)) hc.l hc.q rfl rfl
  have h2 := h1.keeps k (fun h => h) (fun _ _ h => h) (fun _ _ _ _ h => h) (fun _ _ _ _ h => h)
  have k5 : Keeps (· = E) w2 (w2.setCell ⟨E, 5, none⟩ kv) := (Keeps.refl (· = E) w2).setCell (p := ⟨E, 5, none⟩) (.inr rfl) kv
  refine ⟨RMem.rep ⟨⟨lv, qv, kv, ⟨?_, ?_, ?_, ?_⟩⟩, hE⟩ (hok.arm n ks) ⟨hrd.eq⟩, ((RK.set hc.b hE (.inl rfl) 4 _).trans (RK.of k)).trans (RK.set h2.b hE (.inl rfl) 5 kv), ⟨_, h2.b.at (j := 5) rfl⟩, h2.b.free 5⟩
  · exact (h2.b.set 5 kv).cast (by show _ = [lv, qv, .int .i64 σ.lost, .bool σ.down, .int .i64 ((max n 0).toNat : Nat), kv]; rw [hm]; rfl)
  · exact own_keeps_type h2.b (by decide) h2.l rfl
  · exact h2.q.keeps k5 (fun g cur fz hg => blk_ne h2.b hg (by decide))
  · exact hI.keeps k5 (fun g cur fz hg => blk_ne h2.b hg (by decide))

set_option maxHeartbeats 4000000 in
set_option maxRecDepth 100000 in
theorem rarm_any (w : World) (B E : Nat) (σ : St) (n : Int) (v : Value) (ks : List Int) (hk : ks.length ≤ 1000000000) (hI : IR (RS w B) w v ks) (h : RRep w B E σ) :
    Calls Try.prog 53 #[.pointer (some ⟨E, 0, none⟩), .int .i64 n, v] w fun e w' => e = .returned (.tuple #[]) ∧ RRep w' B E (armS σ n ks) ∧ RK B w w' := by
  obtain ⟨m, hm⟩ : ∃ m, (max n 0).toNat = m := ⟨_, rfl⟩
  obtain ⟨lv, qv, kv, hc⟩ := h.cells
  obtain ⟨w1, hw1⟩ : ∃ w1, w.setCell ⟨E, 4, none⟩ (.int .i64 (m : Int)) = w1 := ⟨_, rfl⟩
  have hI1 : IR (RS w B) w1 v ks := by
    rw [← hw1]
    exact hI.keeps ((Keeps.refl (RS w B) w).setCell (p := ⟨E, 4, none⟩) (.inr ⟨h.ge, _, _, _, hc.b.is, .inl rfl⟩) _)
  have hI2 : IR (fun _ => False) (w1.alloc (.cells #[] 3)) v ks := (hI1.mono (fun _ h => h.elim)).keeps ((Keeps.refl (fun _ => False) w1).alloc _)
  obtain ⟨pv, cv, rfl⟩ := hI2.slice
  obtain ⟨v', w2, p', c', hr, hI3, k3, rfl⟩ := app_ints (w1.alloc (.cells #[] 3)) _ ks hk hI2 (some ⟨w1.heap.size, 0, none⟩) (empty_row2 w1 0 (Nat.zero_le _) 3 1)
  have hend := arm_end (w := w) (w2 := w2) (n := n) (m := m) hm h.ok h.rd h.ge hc (by rw [hw1]; exact ((Keeps.refl (fun _ => False) w1).alloc _).trans k3) hI3
  have HEnd := Hd.mk hend
  have HR := Hd.mk hr
  have c4 := hc.b.at (j := 4) rfl
  have f4 := hc.b.free 4
  obtain ⟨⟨u5, c5⟩, f5⟩ := hend.2.2
  have hsz : w1.heap.size = w.heap.size := by rw [← hw1]; simp
  rw [hsz, ← hw1] at HR
  obtain ⟨N, hN⟩ : ∃ N, ks.length = N := ⟨_, rfl⟩
  rw [hN] at HR HEnd ⊢
  by_cases hn : 0 ≤ n
  · obtain rfl : n = (m : Int) := by omega
    clear hm hw1 hI1 hI2 hI3 k3 hend hr hsz hN hn hc h hI hk
    go_enter Try.func53, Try.ntmps53
    go_wp2_with (at_builtin; refine wp_append_run rfl (Operand.tmp 12) (Operand.tmp 13) 22 rfl _ _ _ rfl rfl HR.out ?_)
    go_wp2
    go_end0
    exact ⟨rfl, HEnd.out.1, HEnd.out.2.1⟩
  · obtain rfl : m = 0 := by omega
    have hn' : ¬ 0 < n := by omega
    have hn2 : n < 0 := by omega
    clear hm hw1 hI1 hI2 hI3 k3 hend hr hsz hN hn hc h hI hk
    go_enter Try.func53, Try.ntmps53
    go_wp2_with (at_builtin; refine wp_append_run rfl (Operand.tmp 12) (Operand.tmp 13) 22 rfl _ _ _ rfl rfl HR.out ?_)
    go_wp2
    go_end0
    exact ⟨rfl, HEnd.out.1, HEnd.out.2.1⟩

end Go.Proofs.Ytcleocgaooblfaa.W
