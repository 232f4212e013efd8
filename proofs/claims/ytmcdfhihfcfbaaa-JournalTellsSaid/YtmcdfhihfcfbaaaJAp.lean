/-
  The walk of Append, All, Sure.
-/
import Derived.Test.YtmcdfhihfcfbaaaJFl
namespace Go.Proofs.Ytmcdfhihfcfbaaa.W
open Go.RowKit
set_option linter.unusedVariables false

theorem infoStr : (Try.prog.info? 9).map (fun i => (i.zero, i.size, i.bytes)) = some (some (.string ByteArray.empty), 1, 16) := by kernel_rfl

theorem write_zero {σ : St} {f k : Int} {s : List UInt8} (h : WriteE σ f k s = 0) : 0 ≤ k ∧ k + (s.length : Int) ≤ 16777216 := by
  unfold WriteE at h
  split at h
  · cases h
  · unfold writeE at h
    split at h
    · rename_i h'; exact absurd h h'
    · split at h
      · cases h
      · split at h
        · cases h
        · omega

theorem app_ok {σ : St} {l : Lg} {r : ByteArray} (h : appE σ l r = 0) (ok : LgOk l) : LgOk { l with rows := l.rows ++ [r] } := by
  have := write_zero h
  refine ⟨ok.f, ?_, ?_⟩
  · show endL (l.rows ++ [r]) ≤ _
    rw [endL_append]
    have := formL_len r
    omega
  · have := ok.s
    show l.sure ≤ (l.rows ++ [r]).length
    rw [List.length_append]; omega

set_option maxRecDepth 100000 in
set_option maxHeartbeats 2000000 in
theorem jAppend_op (w : World) (L D : Nat) (l : Lg) (r : ByteArray) (σ : St) (q : Nat) (hF : FitQ σ q) (hq : q ≤ 900000000) (hr8 : r.size ≤ 10000000) : LOp w 14 #[.pointer (some ⟨L, 0, none⟩), .string r] L D σ (appS σ l r) l (appL σ l r) (.int .i64 (appE σ l r)) := by
  refine ⟨fun O R hr hl => ?_⟩
  obtain ⟨i0, hi, hz0, hz1, hz2⟩ := info_parts infoStr
  have HI : Hd (_ ∧ _ ∧ _ ∧ _) := ⟨⟨hi, hz0, hz1, hz2⟩⟩
  clear hi hz0 hz1 hz2
  have hok := hl.ok
  have hfl := formL_len r
  have hsz : (⟨(formL r).toArray⟩ : ByteArray).size = 8 + r.size := hfl
  have hrl := len_le_forms l.rows
  have hrl2 : l.rows.length ≤ 2097152 := by have := hok.e; unfold endL at this; omega
  have hend := hok.e
  have HFm := Hd.mk (fun w => form_any r w (by omega))
  have HWr : Hd (∀ w1, Rep w1 D σ O → Calls Try.prog 18 #[.pointer (some ⟨D, 0, none⟩), .int .i64 (l.f : Nat), .int .i64 (endL l.rows : Nat), .string ⟨(formL r).toArray⟩] w1 fun e w' => ∃ O', e = .returned (.int .i64 (appE σ l r)) ∧ Rep w' D (appS σ l r) O' ∧ (∀ g, O' = some g → O = some g ∨ w1.heap.size ≤ g) ∧ Keeps (fun g => g = D ∨ O = some g) w1 w') := ⟨fun w1 h =>
    Write_any w1 D σ O (l.f : Nat) (endL l.rows : Nat) ⟨(formL r).toArray⟩ (hF.fit (by omega)) (by have := hF.q; rw [hsz]; omega) (by omega) (by rw [hsz]; omega) h⟩
  have hnew := endL_append l.rows r
  have HAL : Hd (appL σ l r = if appE σ l r = 0 then { l with rows := l.rows ++ [r] } else l) := ⟨rfl⟩
  have HAO := Hd.mk (fun h => app_ok (σ := σ) (l := l) (r := r) h hok)
  have HR := Hd.mk hr
  have HL := Hd.mk hl
  obtain ⟨en, hen⟩ : ∃ en, endL l.rows = en := ⟨_, rfl⟩
  obtain ⟨f, hf⟩ : ∃ f, l.f = f := ⟨_, rfl⟩
  obtain ⟨fs, hfs⟩ : ∃ fs, (⟨(formL r).toArray⟩ : ByteArray) = fs := ⟨_, rfl⟩
  obtain ⟨E, hE⟩ : ∃ E, appE σ l r = E := ⟨_, rfl⟩
  rw [hfs] at HFm HWr hsz
  rw [hen] at HWr hnew hend
  rw [hf] at HWr
  rw [hE] at HWr HAL HAO
  rw [hE]
  have HEN := Hd.mk hen
  have HFF := Hd.mk hf
  have HE := Hd.mk hE
  have HNew := Hd.mk hnew
  clear hr hl hok hfl hrl hF hen hf hfs hE hnew
  have ws : wrap64 ((en : Int) + (fs.size : Int)) = ((en + (8 + r.size) : Nat) : Int) := by rw [hsz]; unfold wrap64; omega
  have HSZ := Hd.mk hsz
  clear hsz
  obtain ⟨e5, he5⟩ : ∃ e5, en + (8 + r.size) = e5 := ⟨_, rfl⟩
  rw [he5] at ws HNew
  clear he5
  go_enter Try.func14, Try.ntmps14
  go_wp2_with fail
  refine (HFm.out w).mono ?_
  rintro e w1 ⟨rfl, b1⟩
  have K1 : Hd (Keeps (fun _ => False) w w1) := ⟨Keeps.of_below b1 (fun k h1 h2 => absurd h1 (Nat.not_lt.2 h2))⟩
  have hr1 := HR.out.next K1.out
  have hl1 := HL.out.next K1.out
  obtain ⟨v1, hlb1, hlO1, hlR1⟩ := hl1.is
  rw [HEN.out, HFF.out] at hlb1
  have hSd := hlb1.drew
  have HR1 := Hd.mk hr1
  have HL1 := Hd.mk hl1
  have HB1 := Hd.mk hlb1
  clear b1 hr1 hl1 hlb1 hlO1 hlR1
  go_wp2_with fail
  refine wp_region_lin default (fun w' => Blk w' L 64 (lgCells D (f : Nat) v1 (l.sure : Nat) (en : Nat))) [(0, true), (1, true), (2, true), (3, true), (4, true), (5, true), (6, true), (7, true), (8, true), (9, true), (10, true), (11, true), (12, true), (13, false), (14, true)] (by kernel_rfl) (by kernel_rfl) rfl (by kernel_rfl) (by kernel_rfl) hSd ?_
  simp only [pick, List.getD_cons_zero, List.getD_cons_succ]
  clear hSd
  repeat
    refine lin_free (v := ?_) (by rfl) ?_ ?_
    rotate_left
    · intro w' hSw
      have c0 := hSw.at (j := 0) rfl
      have c1 := hSw.at (j := 1) rfl
      have c4 := hSw.at (j := 4) rfl
      go_simp
      first | done | with_reducible rfl
    simp only [Act.put, List.setIfInBounds_toArray, List.set_cons_zero, List.set_cons_succ]
  refine lin_bound (fun K hK => ?_)
  go_simp
  refine (HWr.out w1.drew (HR1.out.next (Keeps.refl _ _).drew)).mono ?_
  rintro e w3 ⟨O3, rfl, h3, hO3, k3⟩
  dsimp only
  have hl3 : LRep w3 L D l R := (HL1.out.next (Keeps.refl _ _).drew).op (HR1.out.next (Keeps.refl _ _).drew) k3
  have HK3 : Hd (Keeps (fun g => g = D ∨ O = some g) w w3) := ⟨((K1.out.drew).mono (fun _ _ h => h.elim)).trans k3⟩
  have HO3 : Hd (∀ g, O3 = some g → O = some g ∨ w.heap.size ≤ g) := ⟨fun g hg => (hO3 g hg).imp_right (Nat.le_trans K1.out.size)⟩
  have HL3 := Hd.mk hl3
  have H3 := Hd.mk h3
  refine hK.out _ _ (k3.blk HB1.out.drew ((HL1.out.next (Keeps.refl _ _).drew).disk (HR1.out.next (Keeps.refl _ _).drew)).1) ?_
  clear hK K k3 hO3 h3 hl3 HWr
  repeat
    refine lin_free (v := ?_) (by rfl) ?_ ?_
    rotate_left
    · intro w' hSw
      go_simp
      first | done | with_reducible rfl
    simp only [Act.put, List.setIfInBounds_toArray, List.set_cons_zero, List.set_cons_succ]
  refine NoPanic.normal ?_
  by_cases hz : E = 0
  · subst hz
    obtain ⟨v3, hb3, hOw3, hR3⟩ := HL3.out.is
    rw [HEN.out, HFF.out] at hb3
    obtain ⟨p3, c3', hv3⟩ := hOw3.slice'
    rw [List.length_map] at hv3
    have HV3 := Hd.mk hv3
    have HOw3 := Hd.mk hOw3
    have HR3 := Hd.mk hR3
    have HB3 := Hd.mk hb3
    have e2 : w3.cell? ⟨L, 2, none⟩ = some v3 := hb3.at (j := 2) rfl
    have hl1' : (l.rows.map Value.string).length + 1 ≤ maxLen := by rw [List.length_map]; unfold maxLen; omega
    have hl2' : ((l.rows.map Value.string).length + 1) * 16 ≤ 140737488355328 := by rw [List.length_map]; omega
    clear hb3 hOw3 hR3 hv3
    go_wp2_with (at_builtin; refine wp_app1 rfl _ _ 31 rfl 9 Try.underlying31 HI.out.1 HI.out.2.1 HI.out.2.2.1 HI.out.2.2.2 rfl v3 _ _ w3 rfl HOw3.out rfl rfl hl1' hl2' (Nat.zero_le _) ?_)
    intro v' w4 hO4 hK4 hv4
    have hne : ∀ g, v3.ownBlock = some g → g ≠ L := fun g hg e => by subst e; exact HL3.out.ne (HR3.out ▸ hg)
    have hb4 := hK4.blk HB3.out (fun e => hne L e rfl)
    obtain ⟨p4, c4, hv4s⟩ := hO4.slice'
    obtain ⟨n1, hn1⟩ : ∃ n1, (l.rows.map Value.string ++ [Value.string r]).length = n1 := ⟨_, rfl⟩
    rw [hn1] at hv4s
    clear hn1
    have a4 : w4.cell? ⟨L, 4, none⟩ = some (.int .i64 (en : Nat)) := hb4.at (j := 4) rfl
    have a2 : w4.cell? ⟨L, 2, none⟩ = some v3 := hb4.at (j := 2) rfl
    have f2 := hb4.free 2
    have f4 := hb4.free 4
    have HO4 := Hd.mk hO4
    have HK4 := Hd.mk hK4
    have HV4 := Hd.mk hv4
    have HB4 := Hd.mk hb4
    subst hv4s
    clear hO4 hK4 hv4 hb4 e2 hl1' hl2' hne
    go_wp2
    go_ret
    have hLR : L < w3.heap.size := HL3.out.lt
    have hnl : (Value.slice p4 n1 c4).ownBlock ≠ some L := fun e => by
      rcases HV4.out with h | ⟨k, hk, h⟩
      · rw [h] at e; exact HL3.out.ne (HR3.out ▸ e)
      · rw [h] at e; injection e with e; omega
    have K5 : Keeps (· = L) w4 ((w4.setCell ⟨L, 2, none⟩ (.slice p4 n1 c4)).setCell ⟨L, 4, none⟩ (.int .i64 (e5 : Int))) :=
      ((Keeps.refl (· = L) w4).setCell (p := ⟨L, 2, none⟩) (.inr rfl) _).setCell (p := ⟨L, 4, none⟩) (.inr rfl) _
    have hb5 : Blk ((w4.setCell ⟨L, 2, none⟩ (.slice p4 n1 c4)).setCell ⟨L, 4, none⟩ (.int .i64 (e5 : Int))) L 64 (lgCells D (f : Nat) (.slice p4 n1 c4) (l.sure : Nat) (e5 : Int)) := (HB4.out.set 2 _).set 4 _
    have hrow : ∀ g, v3.ownBlock = some g → ∃ cur fz, w3.heap[g]? = some (.cells cur 9 fz) := fun g hg => HL3.out.rowHeap (HR3.out ▸ hg)
    refine ⟨rfl, O3, (Value.slice p4 n1 c4).ownBlock, ?_, ?_, HO3.out, ?_, ?_⟩
    · have h4 := H3.out.others HK4.out (fun g hg => by obtain ⟨cur, fz, hh⟩ := hrow g hg; exact ⟨cur, _, fz, hh, by decide, by decide, by decide⟩)
      exact h4.others K5 (fun g hg => by subst hg; exact ⟨_, _, _, HB4.out.is, by decide, by decide, by decide⟩)
    · rw [HAL.out, if_pos (by trivial)]
      refine ⟨⟨_, ?_, (HO4.out.keeps K5 (fun g hg e => hnl (e ▸ hg))).cast (by simp), rfl⟩, HAO.out (by trivial)⟩
      show Blk _ L 64 (lgCells D (l.f : Nat) _ (l.sure : Nat) (endL (l.rows ++ [r]) : Nat))
      rw [HNew.out, HFF.out]
      exact hb5
    · intro g hg
      rcases HV4.out with h | ⟨k, hk, h⟩
      · rw [h, HR3.out] at hg; exact .inl hg
      · rw [h] at hg; injection hg with hg; subst hg; exact .inr (Nat.le_trans HK3.out.size hk)
    · exact ((HK3.out.mono (fun _ _ h => .inl h)).trans (HK4.out.mono (fun _ _ h => .inr (.inr (HR3.out ▸ h))))).trans (K5.mono (fun _ _ h => .inr (.inl h)))
  · have h1 : ((E : Int) != 0) = true := by simp; omega
    have e1 : Hd (appL σ l r = l) := ⟨by rw [HAL.out, if_neg hz]⟩
    clear hz HAL
    go_wp2
    go_ret
    rw [e1.out]
    exact ⟨rfl, O3, R, H3.out, HL3.out, HO3.out, fun g h => .inl h, HK3.out.mono (fun _ _ h => .inl h)⟩

set_option maxRecDepth 100000 in
/-- All -/
theorem jAll_any (w : World) (L D : Nat) (l : Lg) (R : Option Nat) (hl : LRep w L D l R) :
    Calls Try.prog 16 #[.pointer (some ⟨L, 0, none⟩)] w fun e w' => ∃ v', e = .returned v' ∧ Own w' w.heap.size 9 v' (l.rows.map Value.string) ∧ Below w.heap.size w w' := by
  have hlen := len_le_forms l.rows
  have hok := hl.ok.e
  obtain ⟨v, hb, hO, _⟩ := hl.is
  have HC := Hd.mk (cloneS_any w v l.rows (by unfold endL at hok; omega) (Rw.of_str hO))
  have c2 : w.cell? ⟨L, 2, none⟩ = some v := hb.at (j := 2) rfl
  obtain ⟨p, c, rfl⟩ := hO.slice'
  rw [List.length_map] at HC c2
  clear hlen hok hb hO hl
  go_enter Try.func16, Try.ntmps16
  go_wp2_with fail
  refine HC.out.mono ?_
  rintro e w1 ⟨v', rfl, h1, h2⟩
  have H1 := Hd.mk h1
  have H2 := Hd.mk h2
  clear h1 h2
  go_wp2
  go_ret
  exact ⟨v', rfl, H1.out, H2.out⟩

set_option maxRecDepth 100000 in
theorem jSure_any (w : World) (L D : Nat) (l : Lg) (R : Option Nat) (hl : LRep w L D l R) :
    Calls Try.prog 17 #[.pointer (some ⟨L, 0, none⟩)] w fun e w' => e = .returned (.int .i64 (l.sure : Nat)) ∧ w = w' := by
  obtain ⟨v, hb, hO, _⟩ := hl.is
  have c3 : w.cell? ⟨L, 3, none⟩ = some (.int .i64 (l.sure : Nat)) := hb.at (j := 3) rfl
  clear hb hO hl
  go_enter Try.func17, Try.ntmps17
  go_wp2
  go_ret
  exact ⟨rfl, rfl⟩

end Go.Proofs.Ytmcdfhihfcfbaaa.W
