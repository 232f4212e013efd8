/-
  The walk of Rewrite's second step: the whole file is written.
-/
import Derived.Test.YtmcdfhihfcfbaaaJCl
namespace Go.Proofs.Ytmcdfhihfcfbaaa.W
open Go.RowKit
set_option linter.unusedVariables false

/-- what turns neither a builder nor a row of bytes leaves a builder -/
theorem keeps_builder {S : Nat → Prop} {B b : Nat} {bs : List Value} {w w' : World} (k : Keeps S w w') (h : Lib.IsBuilder 76 5 B b bs w) (hS : ∀ g cur T fz, w.heap[g]? = some (.cells cur T fz) → (T = 76 ∨ T = 5) → ¬ S g) : Lib.IsBuilder 76 5 B b bs w' := by
  have key : ∀ p, Lib.BuilderAt 76 5 B b p bs w → Lib.BuilderAt 76 5 B b p bs w' := by
    rintro p ⟨hB, v, hb, hrow, hne⟩
    refine ⟨hB, v, by rw [k.block b (lt_of_heap hb) (hS _ _ _ _ hb (.inl rfl)), hb], ⟨hrow.1, ?_⟩, hne⟩
    rcases hrow.2 with h0 | ⟨g, cap, cur, rfl, hB', hg, r⟩
    · exact .inl h0
    · exact .inr ⟨g, cap, cur, rfl, hB', by rw [k.block g (lt_of_heap hg) (hS _ _ _ _ hg (.inr rfl)), hg], r⟩
  exact h.imp (key _) (key _)

theorem whole_str (e n : Nat) (l : List UInt8) : (⟨(headL e n).toArray⟩ : ByteArray) ++ ⟨l.toArray⟩ = ⟨(headL e n ++ l).toArray⟩ := by
  apply ByteArray.ext
  simp

set_option maxRecDepth 100000 in
set_option maxHeartbeats 2000000 in
theorem jrew2_any (w : World) (b b2 b3 b4 L D B : Nat) (f : Nat) (v : Value) (s e0 : Int) (p : Option Addr) (n c e : Nat) (l : List UInt8) (σ : St) (O : Option Nat) (hf6 : f ≤ 6) (hn : n ≤ 9223372036854775807) (he : e ≤ 9223372036854775807) (hF : Fit σ) (hl : l.length ≤ 100000000) (hq : σ.queue.length + (16 + l.length) ≤ 1000000000) (hr : Rep w D σ O)
    (hbx : Blk w b 25 [.pointer (some ⟨L, 0, none⟩)]) (hb : Blk w L 64 (lgCells D f v s e0)) (h2 : Blk w b2 31 [.slice p n c]) (h4 : Blk w b4 3 [.int .i64 (e : Nat)]) (hB : Lib.IsBuilder 76 5 B b3 (Lib.byteCells l) w) :
    Calls Try.prog 47 #[.pointer (some ⟨b, 0, none⟩), .pointer (some ⟨b4, 0, none⟩), .pointer (some ⟨b2, 0, none⟩), .pointer (some ⟨b3, 0, none⟩)] w fun e' w' => ∃ O', e' = .returned (.int .i64 (WriteE σ ((f : Int) + 1) 0 (headL e n ++ l))) ∧ Rep w' D (WriteS σ ((f : Int) + 1) 0 (headL e n ++ l)) O' ∧ (∀ g, O' = some g → O = some g ∨ w.heap.size ≤ g) ∧
      ∃ S : Nat → Prop, (∀ g, S g → (g = D ∨ O = some g) ∨ (B ≤ g ∧ ∃ cur fz, w.heap[g]? = some (.cells cur 5 fz))) ∧ Keeps S w w' := by
  have HD := Hd.mk (hr.not_typ hb.is (by decide) (by decide))
  have HDB := Hd.mk (hr.not_typ hbx.is (by decide) (by decide))
  have HD2 := Hd.mk (hr.not_typ h2.is (by decide) (by decide))
  have HD4 := Hd.mk (hr.not_typ h4.is (by decide) (by decide))
  have hsz : (⟨(headL e n ++ l).toArray⟩ : ByteArray).size = 16 + l.length := by
    show (headL e n ++ l).length = _
    rw [List.length_append, headL_len]
  have HFl : Hd (∀ w1, Rep w1 D σ O → Calls Try.prog 18 #[.pointer (some ⟨D, 0, none⟩), .int .i64 ((f : Int) + 1), .int .i64 0, .string ⟨(headL e n ++ l).toArray⟩] w1 fun e' w' => ∃ O', e' = .returned (.int .i64 (WriteE σ ((f : Int) + 1) 0 (headL e n ++ l))) ∧ Rep w' D (WriteS σ ((f : Int) + 1) 0 (headL e n ++ l)) O' ∧ (∀ g, O' = some g → O = some g ∨ w1.heap.size ≤ g) ∧ Keeps (fun g => g = D ∨ O = some g) w1 w') := ⟨fun w1 k =>
    Write_any w1 D σ O ((f : Int) + 1) 0 ⟨(headL e n ++ l).toArray⟩ hF (by rw [hsz]; exact hq) (by decide) (by rw [hsz]; omega) k⟩
  have HH := Hd.mk (fun w1 => header_any e n w1 he hn)
  have hcat : ¬ 9223372036854775807 < (⟨(headL e n).toArray⟩ : ByteArray).size + (⟨l.toArray⟩ : ByteArray).size := by
    rw [show (⟨(headL e n).toArray⟩ : ByteArray).size = 16 from headL_len e n, show (⟨l.toArray⟩ : ByteArray).size = l.length from rfl]; omega
  have HCat := Hd.mk (whole_str e n l)
  have hSd : w.drew.cell? ⟨b, 0, none⟩ = some (.pointer (some ⟨L, 0, none⟩)) ∧ Blk w.drew L 64 (lgCells D f v s e0) ∧ w.drew.cell? ⟨b2, 0, none⟩ = some (.slice p n c) ∧ w.drew.cell? ⟨b4, 0, none⟩ = some (.int .i64 (e : Nat)) := ⟨hbx.drew.at (j := 0) rfl, hb.drew, h2.drew.at (j := 0) rfl, h4.drew.at (j := 0) rfl⟩
  have HB := Hd.mk hb
  have HBX := Hd.mk hbx
  have H2 := Hd.mk h2
  have H4 := Hd.mk h4
  have HR0 := Hd.mk hr
  have HBu := Hd.mk hB
  have wf : wrap64 ((f : Int) + 1) = (f : Int) + 1 := by unfold wrap64; omega
  have wf2 : IntKind.i64.wrap ((f : Int) + 1) = (f : Int) + 1 := IntWalk.i64_in _ (by omega)
  clear hF hr hb hbx hn he hq h2 h4 hB hl hf6 hsz
  have HSt := Hd.mk (fun w1 (h : Lib.IsBuilder 76 5 B b3 (Lib.byteCells l) w1) => bstr_any B b3 l w1 h)
  obtain ⟨ms, hms⟩ : ∃ ms, (⟨(headL e n).toArray⟩ : ByteArray) = ms := ⟨_, rfl⟩
  obtain ⟨ls, hls⟩ : ∃ ls, (⟨l.toArray⟩ : ByteArray) = ls := ⟨_, rfl⟩
  obtain ⟨fs, hfs⟩ : ∃ fs, (⟨(headL e n ++ l).toArray⟩ : ByteArray) = fs := ⟨_, rfl⟩
  rw [hms] at HH hcat HCat
  rw [hls] at hcat HCat HSt
  rw [hfs] at HCat HFl
  obtain ⟨E, hE⟩ : ∃ E, (WriteE σ ((f : Int) + 1) 0 (headL e n ++ l) : Int) = E := ⟨_, rfl⟩
  obtain ⟨T, hT⟩ : ∃ T, WriteS σ ((f : Int) + 1) 0 (headL e n ++ l) = T := ⟨_, rfl⟩
  rw [hE, hT] at HFl
  rw [hE, hT]
  clear hE hT hms hls hfs
  go_enter Try.func47, Try.ntmps47
  go_wp2_with fail
  refine wp_region_lin default (fun w' => w'.cell? ⟨b, 0, none⟩ = some (.pointer (some ⟨L, 0, none⟩)) ∧ Blk w' L 64 (lgCells D f v s e0) ∧ w'.cell? ⟨b2, 0, none⟩ = some (.slice p n c) ∧ w'.cell? ⟨b4, 0, none⟩ = some (.int .i64 (e : Nat))) [(0, true), (1, true), (2, true), (3, true), (4, true), (5, true), (6, true), (7, true), (8, true), (9, true), (10, true), (11, true), (12, false), (13, false), (14, true), (15, false), (16, true)] (by kernel_rfl) (by kernel_rfl) rfl (by kernel_rfl) (by kernel_rfl) hSd ?_
  simp only [pick, List.getD_cons_zero, List.getD_cons_succ]
  clear hSd
  repeat
    refine lin_free (v := ?_) (by rfl) ?_ ?_
    rotate_left
    · intro w' hSw
      obtain ⟨d0, d1, d2, d3⟩ := hSw
      have c0 := d1.at (j := 0) rfl
      have c1 := d1.at (j := 1) rfl
      go_simp
      first | done | with_reducible rfl
    simp only [Act.put, List.setIfInBounds_toArray, List.set_cons_zero, List.set_cons_succ]
  refine lin_bound (fun K hK => ?_)
  go_simp
  refine (HH.out _).mono ?_
  rintro e' w4 ⟨rfl, hb4⟩
  dsimp only
  have K4 : Hd (Keeps (fun _ => False) w w4) := ⟨(Keeps.refl _ w).drew.trans (Keeps.of_below hb4 (fun k h1 h2 => absurd h1 (Nat.not_lt.2 h2)))⟩
  refine hK.out _ _ ⟨(K4.out.blk HBX.out (fun h => h)).at (j := 0) rfl, K4.out.blk HB.out (fun h => h), (K4.out.blk H2.out (fun h => h)).at (j := 0) rfl, (K4.out.blk H4.out (fun h => h)).at (j := 0) rfl⟩ ?_
  clear hK K hb4
  refine lin_bound (fun K hK => ?_)
  go_simp
  have hb4 : Lib.IsBuilder 76 5 B b3 (Lib.byteCells l) w4 := keeps_builder K4.out HBu.out (fun _ _ _ _ _ _ h => h)
  refine (HSt.out w4 hb4).mono ?_
  rintro e' w5 ⟨rfl, S, hk5, hS5⟩
  dsimp only
  have hno : ∀ {g : Nat} {cur : Array Value} {T : TypeId} {fz : Nat × Nat}, w4.heap[g]? = some (.cells cur T fz) → T ≠ 5 → ¬ S g := fun {g cur T fz} h1 h2 h3 => by
    obtain ⟨_, cur', fz', h4⟩ := hS5 g h3
    rw [h1] at h4
    injection h4 with h4; injection h4 with _ h4 _; exact h2 h4
  have HNo := Hd.mk @hno
  have HK5 := Hd.mk hk5
  have HS5 := Hd.mk hS5
  have hr5 : Rep w5 D σ O := (HR0.out.next K4.out).others hk5 (fun g hg => by
    obtain ⟨_, cur, fz, h4⟩ := hS5 g hg
    exact ⟨cur, _, fz, h4, by decide, by decide, by decide⟩)
  have HR5 := Hd.mk hr5
  refine hK.out _ _ ⟨(hk5.blk (K4.out.blk HBX.out (fun h => h)) (hno (K4.out.blk HBX.out (fun h => h)).is (by decide))).at (j := 0) rfl, hk5.blk (K4.out.blk HB.out (fun h => h)) (hno (K4.out.blk HB.out (fun h => h)).is (by decide)), (hk5.blk (K4.out.blk H2.out (fun h => h)) (hno (K4.out.blk H2.out (fun h => h)).is (by decide))).at (j := 0) rfl, (hk5.blk (K4.out.blk H4.out (fun h => h)) (hno (K4.out.blk H4.out (fun h => h)).is (by decide))).at (j := 0) rfl⟩ ?_
  clear hK K hk5 hS5 hno hb4 hr5
  repeat
    refine lin_free (v := ?_) (by rfl) ?_ ?_
    rotate_left
    · intro w' hSw
      go_simp
      first | done | with_reducible rfl
    simp only [Act.put, List.setIfInBounds_toArray, List.set_cons_zero, List.set_cons_succ]
  refine lin_bound (fun K hK => ?_)
  rw [HCat.out]
  go_simp
  refine (HFl.out w5 HR5.out).mono ?_
  rintro e' w6 ⟨O', rfl, hr', hO', k⟩
  dsimp only
  have HR := Hd.mk hr'
  have HO : Hd (∀ g, O' = some g → O = some g ∨ w.heap.size ≤ g) := ⟨fun g hg => (hO' g hg).imp_right (Nat.le_trans (Nat.le_trans K4.out.size HK5.out.size))⟩
  have HK6 : Hd (Keeps (fun g => (g = D ∨ O = some g) ∨ S g) w4 w6) := ⟨(HK5.out.mono (fun _ _ h => .inr h)).trans (k.mono (fun _ _ h => .inl h))⟩
  have fin : ∀ {g : Nat} {T : TypeId} {vs : List Value}, Blk w g T vs → T ≠ 5 → ¬ (g = D ∨ O = some g) → Blk w6 g T vs := fun {g T vs} h1 h2 h3 => HK6.out.blk (K4.out.blk h1 (fun h => h)) (fun h => h.elim h3 (HNo.out (K4.out.blk h1 (fun h => h)).is h2))
  refine hK.out _ _ ⟨(fin HBX.out (by decide) HDB.out).at (j := 0) rfl, fin HB.out (by decide) HD.out, (fin H2.out (by decide) HD2.out).at (j := 0) rfl, (fin H4.out (by decide) HD4.out).at (j := 0) rfl⟩ ?_
  clear hK K hr' k hO' HFl fin
  repeat
    refine lin_free (v := ?_) (by rfl) ?_ ?_
    rotate_left
    · intro w' hSw
      go_simp
      first | done | with_reducible rfl
    simp only [Act.put, List.setIfInBounds_toArray, List.set_cons_zero, List.set_cons_succ]
  refine NoPanic.normal ?_
  go_wp2
  go_ret
  refine ⟨O', rfl, HR.out, HO.out, fun g => (g = D ∨ O = some g) ∨ (S g ∧ g < w.heap.size), fun g hg => ?_, ?_⟩
  · rcases hg with hg | ⟨hg, hlt⟩
    · exact .inl hg
    · obtain ⟨h1, cur, fz, h4⟩ := HS5.out g hg
      rw [K4.out.block g hlt (fun h => h)] at h4
      exact .inr ⟨h1, cur, fz, h4⟩
  · exact ⟨HK6.out.os.trans K4.out.os, HK6.out.tape.trans K4.out.tape, HK6.out.output.trans K4.out.output, Nat.le_trans K4.out.size HK6.out.size, fun k hk hn => (HK6.out.block k (Nat.lt_of_lt_of_le hk K4.out.size) (fun e => hn (e.elim .inl (fun e => .inr ⟨e, hk⟩)))).trans (K4.out.block k hk (fun h => h))⟩

end Go.Proofs.Ytmcdfhihfcfbaaa.W
