/-
  The walk of settle.
-/
import Derived.Test.YtmcdfhihfcfbaaaDel
import Derived.Deep.RegionWith
namespace Go.Proofs.Ytmcdfhihfcfbaaa.W
open Go.RowKit
set_option linter.unusedVariables false

theorem QRow.lt {w : World} {v : Value} {q : List Pn} {O : Option Nat} (h : QRow w v q O) {g : Nat} (hg : O = some g) : g < w.heap.size := by
  subst hg
  obtain ⟨cap, rest, _, hB, _⟩ := h.open
  exact hB.is.lt

set_option maxHeartbeats 1000000 in
theorem settle_any (w : World) (D : Nat) (σ : St) (O : Option Nat) (k : Nat) (s : ByteArray) (hk : k < 8) (hs : s.size ≤ 16777216) (hlen : σ.queue.length ≤ 1000000000) (h : Rep w D σ O) :
    Calls Try.prog 74 #[.pointer (some ⟨D, 0, none⟩), .int .i64 k, .string s] w fun e w' => e = .returned (.tuple #[]) ∧ Rep w' D (settleS σ k s.data.toList) O ∧ Keeps (fun g => g = D ∨ O = some g) w w' := by
  have hn := h.notInt
  have hne := h.ne
  obtain ⟨qv, kv, hb, hQ, hK⟩ := h.is
  have K1 : Keeps (fun _ => False) w (w.alloc (.cells #[.int .i64 (k : Int)] 3)) := (Keeps.refl (fun _ => False) w).alloc _
  have hb1 := K1.blk hb (fun h => h)
  have hC := Cells.of hb1 h.ok
  have cl := hC.last k hk
  have cf := hC.file k hk
  have fl := hC.free k
  have ff := hC.free (8 + k)
  have cq := hC.q
  have hDH : ¬ D = w.heap.size := fun e => Nat.lt_irrefl _ (e ▸ hb.lt)
  have hki : (k : Int) < 8 := by omega
  rw [strV_def] at cl cf
  have H := Hd.mk h
  have HB1 := Hd.mk hb1
  have HQ := Hd.mk hQ
  have HK := Hd.mk hK
  clear h hb hQ hK hb1 hC K1 hn hne
  go_enter Try.func74, Try.ntmps74
  go_wp2_with fail
  go_region
  go_wp2_with fail
  obtain ⟨W2, hW2⟩ : ∃ W2, (((w.alloc (.cells #[.int .i64 (k : Int)] 3)).setCell ⟨D, k, none⟩ (.string s)).setCell ⟨D, 8 + k, none⟩ (.string s)).drew = W2 := ⟨_, rfl⟩
  have hok := H.out.ok
  have hll : (settleS σ k s.data.toList).lasts = σ.lasts.set k s.data.toList := rfl
  have okl : Ok { σ with lasts := σ.lasts.set k s.data.toList } := ⟨by simpa using hok.l8, hok.f8, (hok.settle k hs).ll, hok.fl, hok.q⟩
  have hb2 : Blk W2 D 70 (cellsD { { σ with lasts := σ.lasts.set k s.data.toList } with files := σ.files.set k s.data.toList } qv kv) := by
    have h2 := ((HB1.out.set k (.string s)).set (8 + k) (.string s)).drew
    rw [hW2] at h2
    refine h2.cast ?_
    rw [← strV_of s, set_last hok qv kv hk, set_file okl qv kv hk]
  have KW : Keeps (· = D) w W2 := by
    rw [← hW2]
    exact ((((Keeps.refl (· = D) w).alloc _).setCell (p := ⟨D, k, none⟩) (.inr rfl) _).setCell (p := ⟨D, 8 + k, none⟩) (.inr rfl) _).drew
  have hbox : W2.cell? ⟨w.heap.size, 0, none⟩ = some (.int .i64 k) := by
    rw [← hW2]
    have hbx := (((Blk.new w 3 [.int .i64 (k : Int)]).other (a := ⟨D, k, none⟩) hDH (.string s)).other (a := ⟨D, 8 + k, none⟩) hDH (.string s)).drew
    exact hbx.at (j := 0) rfl
  have hQ2 := HQ.out.keeps KW (fun g hg e => H.out.ne (hg.trans (congrArg some e)))
  have hK2 := HK.out.keeps KW (fun g cur fz hg e => H.out.notInt g cur fz hg (.inl e))
  have hOb : O ≠ some w.heap.size := fun e => Nat.lt_irrefl _ (HQ.out.lt e)
  rw [hW2]
  refine (delete_any W2 qv σ.queue O w.heap.size k hlen hQ2 hbox hOb).mono ?_
  rintro e w3 ⟨v', rfl, hq3, hk3⟩
  obtain ⟨pv, cv, rfl⟩ := hq3.slice
  have hb3 := hk3.blk hb2 H.out.ne
  have okl2 : Ok { { σ with lasts := σ.lasts.set k s.data.toList } with files := σ.files.set k s.data.toList } := ⟨okl.l8, by simpa using hok.f8, okl.ll, (hok.settle k hs).fl, hok.q⟩
  have hC3 := Cells.of hb3 okl2
  have c3 := hC3.q
  have f3 := hC3.free 16
  have K4 : Keeps (· = D) w3 (w3.setCell ⟨D, 16, none⟩ (.slice pv (σ.queue.filter (keepP k)).length cv)) := (Keeps.refl (· = D) w3).setCell (p := ⟨D, 16, none⟩) (.inr rfl) _
  have hne := H.out.ne
  have hint3 : ∀ g cur fz, W2.heap[g]? = some (.cells cur 3 fz) → ¬ O = some g := fun g cur fz hg e => (Rep.mk ⟨qv, kv, hb2, hQ2, hK2⟩ okl2).notInt g cur fz hg (.inr e)
  have hK3 := hK2.keeps hk3 hint3
  have HREP : Hd (Rep (w3.setCell ⟨D, 16, none⟩ (.slice pv (σ.queue.filter (keepP k)).length cv)) D (settleS σ k s.data.toList) O) := ⟨⟨⟨_, kv, (hb3.set 16 _).cast (set_queue okl2 qv kv _ (σ.queue.filter (keepP k))), hq3.keeps K4 (fun g hg e => hne (hg.trans (congrArg some e))), hK3.keeps K4 (fun g cur fz hg e => by
    subst e
    rw [hb3.is] at hg
    injection hg with hg; injection hg with _ hg _; exact absurd hg (by decide))⟩, hok.settle k hs⟩⟩
  have HKK : Hd (Keeps (fun g => g = D ∨ O = some g) w (w3.setCell ⟨D, 16, none⟩ (.slice pv (σ.queue.filter (keepP k)).length cv))) := ⟨((KW.mono (S' := fun g => g = D ∨ O = some g) (fun _ _ e => .inl e)).trans (hk3.mono (S' := fun g => g = D ∨ O = some g) (fun _ _ e => .inr e))).setCell (p := ⟨D, 16, none⟩) (.inr (.inl rfl)) _⟩
  clear hb2 KW hbox hQ2 hK2 hOb hq3 hk3 hb3 hC3 K4 hint3 hK3 okl okl2 hll hW2
  go_wp2
  go_end0
  exact ⟨rfl, HREP.out, HKK.out⟩

end Go.Proofs.Ytmcdfhihfcfbaaa.W
