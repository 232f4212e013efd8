/-
  The walk of Rewrite.
-/
import Derived.Test.YtmcdfhihfcfbaaaJRs
namespace Go.Proofs.Ytmcdfhihfcfbaaa.W
open Go.RowKit
set_option linter.unusedVariables false

theorem Own.base0 {w : World} {B : Nat} {e : TypeId} {v : Value} {xs : List Value} (h : Own w B e v xs) : Own w 0 e v xs := by
  rcases h.is with h0 | ⟨g, cap, hv, hB, r⟩
  · exact ⟨.inl h0⟩
  · exact ⟨.inr ⟨g, cap, hv, Nat.zero_le _, r⟩⟩

theorem Rw.keepsStr {S : Nat → Prop} {w w' : World} {v : Value} {xs : List ByteArray} (h : Rw 1 strE w v xs) (k : Keeps S w w') (hS : ∀ a n c, v = .slice (some a) n c → a.block < w.heap.size → xs ≠ [] → ¬ S a.block) : Rw 1 strE w' v xs := by
  refine ⟨h.is.imp_right ?_⟩
  rintro ⟨g, o, cap, e, hg, hc⟩
  refine ⟨g, o, cap, e, Nat.lt_of_lt_of_le hg k.size, fun j x hx => ?_⟩
  obtain ⟨cs, h1, h2, h3⟩ := hc j x hx
  exact ⟨cs, h1, h2, fun i u hu => by rw [World.cell?_of_block (a := ⟨g, o + j * 1 + i, none⟩) (k.block g hg (hS _ _ _ e hg (by intro e; rw [e] at hx; simp at hx)))]; exact h3 i u hu⟩

theorem Rw.blkLt {α : Type} {m : Nat} {E : World → List Value → α → Prop} {w : World} {v : Value} {xs : List α} (h : Rw m E w v xs) {a : Addr} {n c : Nat} (hv : v = .slice (some a) n c) (hne : xs ≠ []) : a.block < w.heap.size := by
  rcases h.is with ⟨h0, _⟩ | ⟨g, o, cap, e, hg, _⟩
  · exact absurd h0 hne
  · rw [hv] at e; injection e with e _ _; injection e with e; subst e; exact hg

theorem LRep.setAll {w : World} {L D : Nat} {l : Lg} {R : Option Nat} (h : LRep w L D l R) (v' : Value) (rs : List ByteArray) (hO : Own w 0 9 v' (rs.map Value.string)) (hv : v'.ownBlock ≠ some L) (he : endL rs ≤ 16777216) :
    LRep (((w.setCell ⟨L, 2, none⟩ v').setCell ⟨L, 3, none⟩ (.int .i64 (rs.length : Nat))).setCell ⟨L, 4, none⟩ (.int .i64 (endL rs : Nat))) L D { l with rows := rs, sure := rs.length } v'.ownBlock := by
  obtain ⟨v, hb, _, _⟩ := h.is
  have k : Keeps (· = L) w (((w.setCell ⟨L, 2, none⟩ v').setCell ⟨L, 3, none⟩ (.int .i64 (rs.length : Nat))).setCell ⟨L, 4, none⟩ (.int .i64 (endL rs : Nat))) :=
    (((Keeps.refl (· = L) w).setCell (p := ⟨L, 2, none⟩) (.inr rfl) _).setCell (p := ⟨L, 3, none⟩) (.inr rfl) _).setCell (p := ⟨L, 4, none⟩) (.inr rfl) _
  exact ⟨⟨v', ((hb.set 2 v').set 3 _).set 4 _, hO.keeps k (fun g hg e => hv (e ▸ hg)), rfl⟩, ⟨h.ok.f, he, Nat.le_refl _⟩⟩

theorem rew_end {σ : St} {f : Nat} {rs : List ByteArray} (h : (rewP σ f rs).1 = 0) : endL rs ≤ 16777216 := by
  by_cases h0 : rwErr σ f rs 0 = 0
  · by_cases h1 : rwErr σ f rs 1 = 0
    · have := write_zero h1
      rw [fileL_len] at this
      omega
    · rw [rewP_1 σ f rs h0 h1] at h; exact absurd h h1
  · rw [rewP_0 σ f rs h0] at h; exact absurd h h0

theorem take_forms (rs : List ByteArray) (k : Nat) (h : k < rs.length) : formsL (rs.take (k + 1)) = formsL (rs.take k) ++ formL rs[k] := by
  rw [List.take_succ_eq_append_getElem h, formsL_append, formsL_one]
theorem forms_take_le (rs : List ByteArray) (k : Nat) : (formsL (rs.take k)).length ≤ (formsL rs).length := by
  have : formsL rs = formsL (rs.take k) ++ formsL (rs.drop k) := by rw [← formsL_append, List.take_append_drop]
  rw [this, List.length_append]; omega
theorem strCells_form (r : ByteArray) (l : List UInt8) : Lib.byteCells l ++ Lib.strCells ⟨(formL r).toArray⟩ = Lib.byteCells (l ++ formL r) := by
  simp [Lib.byteCells, Lib.strCells]

theorem rew_nums (m en : Nat) (h : en = 16 + m) (hm : m ≤ 100000000) : (16 : Int) + (m : Int) = (en : Int) ∧ wrap64 ((16 : Int) + (m : Int)) = (en : Int) ∧ wrap64 (en : Int) = (en : Int) := by
  refine ⟨by omega, ?_, ?_⟩ <;> (unfold wrap64; omega)

set_option maxRecDepth 100000 in
set_option maxHeartbeats 4000000 in
theorem jRewrite_any (w : World) (L D : Nat) (p : Option Addr) (c : Nat) (rs : List ByteArray) (l : Lg) (R : Option Nat) (σ : St) (O : Option Nat) (q : Nat) (hF : FitQ σ q) (hq : q ≤ 800000000) (hrs : (formsL rs).length ≤ 100000000) (hr : Rep w D σ O) (hl : LRep w L D l R)
    (hv : Rw 1 strE w (.slice p rs.length c) rs) (hne : ∀ a, p = some a → rs ≠ [] → ¬ (a.block = D ∨ O = some a.block)) :
    Calls Try.prog 13 #[.pointer (some ⟨L, 0, none⟩), .slice p rs.length c] w fun e w' => e = .returned (.int .i64 (rewP σ l.f rs).1) ∧ ∃ O' R', Rep w' D (rewP σ l.f rs).2 O' ∧ LRep w' L D (rewL σ l rs) R' ∧ (∀ g, O' = some g → O = some g ∨ w.heap.size ≤ g) ∧ (∀ g, R' = some g → R = some g ∨ w.heap.size ≤ g) ∧
    Keeps (fun g => (g = D ∨ O = some g) ∨ (g = L ∨ R = some g)) w w' := by
  obtain ⟨w1, hw1⟩ : ∃ w1, w.alloc (.cells #[.pointer (some ⟨L, 0, none⟩)] 25) = w1 := ⟨_, rfl⟩
  have K1 : Keeps (fun _ => False) w w1 := hw1 ▸ (Keeps.refl _ w).alloc _
  have hbx1 : Blk w1 w.heap.size 25 [.pointer (some ⟨L, 0, none⟩)] := hw1 ▸ Blk.new w 25 _
  obtain ⟨b1, hb1⟩ : ∃ b, w.heap.size = b := ⟨_, rfl⟩
  rw [hb1] at hbx1
  obtain ⟨n, hn⟩ : ∃ n, rs.length = n := ⟨_, rfl⟩
  rw [hn] at hv
  rw [hn]
  obtain ⟨w2, hw2⟩ : ∃ w2, w1.alloc (.cells #[.slice p n c] 31) = w2 := ⟨_, rfl⟩
  have K2 : Keeps (fun _ => False) w1 w2 := hw2 ▸ (Keeps.refl _ w1).alloc _
  have hbx2 : Blk w2 w1.heap.size 31 [.slice p n c] := hw2 ▸ Blk.new w1 31 _
  obtain ⟨b2, hb2⟩ : ∃ b, w1.heap.size = b := ⟨_, rfl⟩
  rw [hb2] at hbx2
  obtain ⟨w3, hw3⟩ : ∃ w3, w2.alloc (.cells #[.pointer none, .slice none 0 0] 76) = w3 := ⟨_, rfl⟩
  have K3 : Keeps (fun _ => False) w2 w3 := hw3 ▸ (Keeps.refl _ w2).alloc _
  obtain ⟨b3, hb3⟩ : ∃ b, w2.heap.size = b := ⟨_, rfl⟩
  have hbu : Lib.IsBuilder 76 5 b3 b3 [] w3 := by
    refine .inl ⟨Nat.le_refl _, _, ?_, World.ownsRow_nil w3 b3 5 1, by intro e; cases e⟩
    have := (Blk.new w2 76 [.pointer none, .slice none 0 0]).is
    rw [hb3] at this
    rw [← hw3]; exact this
  have hB23 : Below b3 w2 w3 := K3.below (by omega) (fun _ _ h => h)
  have a2 : w3.cell? ⟨b2, 0, none⟩ = some (.slice p n c) := (K3.blk hbx2 (fun h => h)).at (j := 0) rfl
  have H1 := Hd.mk hbx1
  have H2 := Hd.mk hbx2
  have HBU := Hd.mk hbu
  have HB23 := Hd.mk hB23
  have HK12 : Hd (Keeps (fun _ => False) w w2) := ⟨K1.trans K2⟩
  have HK1 := Hd.mk K1
  have HK2 := Hd.mk K2
  have HV2 : Hd (Rw 1 strE w2 (.slice p n c) rs) := ⟨hv.keepsStr (K1.trans K2) (fun _ _ _ _ _ _ h => h)⟩
  have HV0 := Hd.mk hv
  have HR := Hd.mk hr
  have HL := Hd.mk hl
  have HN := Hd.mk hn
  have HNE := Hd.mk hne
  have HRS := Hd.mk hrs
  have HFq := Hd.mk hF
  have hbz : b1 < b2 ∧ b2 < b3 ∧ w3.heap.size = b3 + 1 := by
    refine ⟨?_, ?_, ?_⟩
    · rw [← hb2, ← hw1]; simp; omega
    · rw [← hb3, ← hw2]; simp; omega
    · rw [← hw3, ← hb3]; simp
  have HBZ := Hd.mk hbz
  have hnm : n ≤ 100000000 := by have := len_le_forms rs; omega
  clear hbx1 hbx2 hbu hB23 K1 K2 K3 hr hl hn hne hrs hF hv hbz
  go_enter Try.func13, Try.ntmps13
  go_wp2_with fail
  go_loopw [7, 12] (fun _ i wr => ∃ k : Nat, k ≤ n ∧ i = .int .i64 k ∧ Lib.IsBuilder 76 5 b3 b3 (Lib.byteCells (formsL (rs.take k))) wr ∧ Below b3 w2 wr) (fun _ i _ => n - (intOf i).toNat)
  case atStart => exact ⟨0, Nat.zero_le _, rfl, HBU.out, HB23.out⟩
  case round =>
    obtain ⟨k, hk, rfl, hbu, hbl⟩ := hrel
    have HB := Hd.mk hbu
    have HW := Hd.mk hbl
    clear hbu hbl
    by_cases hlt : k < n
    · have hd1 : decide ((k : Int) < (n : Int)) = true := by simp; omega
      have hkl : k < rs.length := HN.out ▸ hlt
      have hlen1 := forms_take_le rs (k + 1)
      have htk := take_forms rs k hkl
      have hfl := formL_len rs[k]
      rw [htk, List.length_append, hfl] at hlen1
      have hr32 := HRS.out
      obtain ⟨g, o, cs, rfl, hg, _, he, hc⟩ := (HV2.out.below strE_stays (show Below w2.heap.size w2 wr by rw [hb3]; exact HW.out)).at rfl hkl
      have he : cs = [.string rs[k]] := he
      subst he
      have c1 := hc 0 _ rfl
      rw [Nat.mul_one, Nat.add_zero] at c1
      obtain ⟨r, hrk⟩ : ∃ r, rs[k] = r := ⟨_, rfl⟩
      rw [hrk] at c1 htk hfl hlen1
      have HT := Hd.mk htk
      have HFm := Hd.mk (form_any r wr (by omega))
      have hsz : (⟨(formL r).toArray⟩ : ByteArray).size = 8 + r.size := hfl
      have HW1 : Hd (b3 ≤ wr.heap.size) := ⟨by have := HW.out.size; rw [← hb3]; exact this⟩
      have HWS : Hd (∀ w4, Below wr.heap.size wr w4 → Calls Try.prog 42 #[.pointer (some ⟨b3, 0, none⟩), .string ⟨(formL r).toArray⟩] w4 fun e w' => ∃ x, e = .returned (.tuple #[x, .nilIface]) ∧ Lib.IsBuilder 76 5 b3 b3 (Lib.byteCells (formsL (rs.take (k + 1)))) w' ∧ Below b3 w4 w') := ⟨fun w4 hb4 => by
        have hbu4 := keeps_builder (Keeps.of_below hb4 (fun k h1 h2 => absurd h1 (Nat.not_lt.2 h2)) : Keeps (fun _ => False) wr w4) HB.out (fun _ _ _ _ _ _ h => h)
        refine (bws_any b3 b3 _ ⟨(formL r).toArray⟩ w4 hbu4 (by rw [hsz, Lib.byteCells_length]; omega) (Nat.le_trans HW1.out hb4.size)).mono ?_
        rintro e w' ⟨he, h1, h2⟩
        refine ⟨_, he, ?_, h2⟩
        rw [HT.out, ← strCells_form]
        exact h1⟩
      obtain ⟨fs, hfs⟩ : ∃ fs, (⟨(formL r).toArray⟩ : ByteArray) = fs := ⟨_, rfl⟩
      rw [hfs] at HFm HWS
      clear hc hrk htk hfl hlen1 hsz hfs hr32
      go_wp2_with fail
      refine HFm.out.mono ?_
      rintro e w4 ⟨rfl, hb4⟩
      have HB4 := Hd.mk hb4
      clear hb4
      go_wp2_with fail
      refine (HWS.out w4 HB4.out).mono ?_
      rintro e w5 ⟨x, rfl, hb5, hl5⟩
      have HB5 := Hd.mk hb5
      have HL5 : Hd (Below b3 w2 w5) := ⟨(HW.out.trans (HB4.out.mono HW1.out)).trans hl5⟩
      clear hb5 hl5
      go_wp2
      go_roundw
      case rel => exact ⟨k + 1, hlt, by go_num, HB5.out, HL5.out⟩
      case measure => simp [intOf]; omega
    · have hd1 : decide ((k : Int) < (n : Int)) = false := by simp; omega
      have hkn : k = n := by omega
      have HB0 : Hd (Lib.IsBuilder 76 5 b3 b3 (Lib.byteCells (formsL rs)) wr) := ⟨by have := HB.out; rwa [hkn, ← HN.out, List.take_of_length_le (Nat.le_refl _)] at this⟩
      clear HB
      have HLen := Hd.mk (Try.Builder_Len b3 b3 (Lib.byteCells (formsL rs)) wr HB0.out)
      rw [Lib.byteCells_length] at HLen
      have hen : endL rs = 16 + (formsL rs).length := rfl
      have hm32 := HRS.out
      obtain ⟨m, hm⟩ : ∃ m, (formsL rs).length = m := ⟨_, rfl⟩
      rw [hm] at HLen hen hm32
      obtain ⟨en, hen'⟩ : ∃ en, endL rs = en := ⟨_, rfl⟩
      have HEN := Hd.mk hen'
      rw [hen'] at hen
      obtain ⟨e16, e17, e18⟩ := rew_nums m en hen hm32
      have KW : Hd (Keeps (fun _ => False) w wr) := ⟨HK12.out.trans (Keeps.of_below HW.out (fun k h1 h2 => absurd h1 (by omega)))⟩
      obtain ⟨b4, hb4⟩ : ∃ b, wr.heap.size = b := ⟨_, rfl⟩
      obtain ⟨w5, hw5⟩ : ∃ w5, wr.alloc (.cells #[.int .i64 (en : Int)] 3) = w5 := ⟨_, rfl⟩
      have hg6 : w5.heap.size = b4 + 1 := by rw [← hw5, ← hb4]; simp
      obtain ⟨w6, hw6⟩ : ∃ w6, w5.alloc (.cells #[.func (.func 45) #[] #[.pointer (some ⟨b1, 0, none⟩)], .func (.func 47) #[] #[.pointer (some ⟨b1, 0, none⟩), .pointer (some ⟨b4, 0, none⟩), .pointer (some ⟨b2, 0, none⟩), .pointer (some ⟨b3, 0, none⟩)], .func (.func 49) #[] #[.pointer (some ⟨b1, 0, none⟩)], .func (.func 51) #[] #[.pointer (some ⟨b1, 0, none⟩)]] 35) = w6 := ⟨_, rfl⟩
      have k5 : Keeps (fun _ => False) wr w5 := hw5 ▸ (Keeps.refl _ wr).alloc _
      have k6 : Keeps (fun _ => False) w5 w6 := hw6 ▸ (Keeps.refl _ w5).alloc _
      have hb46 : Blk w6 b4 3 [.int .i64 (en : Int)] := by
        have := Blk.new wr 3 [.int .i64 (en : Int)]
        rw [hb4, hw5] at this
        exact k6.blk this (fun h => h)
      have hg : Blk w6 (b4 + 1) 35 [.func (.func 45) #[] #[.pointer (some ⟨b1, 0, none⟩)], .func (.func 47) #[] #[.pointer (some ⟨b1, 0, none⟩), .pointer (some ⟨b4, 0, none⟩), .pointer (some ⟨b2, 0, none⟩), .pointer (some ⟨b3, 0, none⟩)], .func (.func 49) #[] #[.pointer (some ⟨b1, 0, none⟩)], .func (.func 51) #[] #[.pointer (some ⟨b1, 0, none⟩)]] := by
        have := Blk.new w5 35 [.func (.func 45) #[] #[.pointer (some ⟨b1, 0, none⟩)], .func (.func 47) #[] #[.pointer (some ⟨b1, 0, none⟩), .pointer (some ⟨b4, 0, none⟩), .pointer (some ⟨b2, 0, none⟩), .pointer (some ⟨b3, 0, none⟩)], .func (.func 49) #[] #[.pointer (some ⟨b1, 0, none⟩)], .func (.func 51) #[] #[.pointer (some ⟨b1, 0, none⟩)]]
        rw [hg6] at this
        rw [← hw6]; exact this
      have KW6 : Hd (Keeps (fun _ => False) w w6) := ⟨(KW.out.trans k5).trans k6⟩
      have K26 : Hd (Keeps (fun _ => False) w2 w6) := ⟨((Keeps.of_below HW.out (fun k h1 h2 => absurd h1 (by omega))).trans k5).trans k6⟩
      have hx1 : Blk w6 b1 25 [.pointer (some ⟨L, 0, none⟩)] := (HK2.out.trans K26.out).blk H1.out (fun h => h)
      have hx2 : Blk w6 b2 31 [.slice p rs.length c] := by rw [HN.out]; exact K26.out.blk H2.out (fun h => h)
      have HALL := Hd.mk (rwSteps_any w6 b1 b2 b3 b4 (b4 + 1) L D p c rs l R σ O q HFq.out hq HRS.out (HR.out.next KW6.out) (HL.out.next KW6.out) hx1 hx2 (by rw [HEN.out]; exact hb46) (keeps_builder (k5.trans k6) HB0.out (fun _ _ _ _ _ _ h => h)) hg)
      have HX1 := Hd.mk hx1
      have HX2 := Hd.mk hx2
      have HX4 := Hd.mk hb46
      have HS6 : Hd (b3 ≤ w6.heap.size ∧ w.heap.size ≤ b3) := ⟨by have h1 := K26.out.size; rw [hb3] at h1; exact h1, by have := HBZ.out; rw [hb1]; omega⟩
      clear hx1 hx2 hb46 hg k5 k6 hen hm hen' hm32
      go_wp2_with fail
      refine (HLen.out).mono ?_
      rintro e wx ⟨rfl, rfl⟩
      go_wp2_with fail
      refine HALL.out.mono ?_
      rintro e w7 ⟨rfl, O7, h7, hO7, k7⟩
      have keep : ∀ {b : Nat} {T : TypeId} {vs : List Value}, Blk w6 b T vs → T ≠ 70 → T ≠ 91 → T ≠ 5 → Blk w7 b T vs := fun {b T vs} hb t1 t2 t3 =>
        k7.blk hb (fun e => e.elim ((HR.out.next KW6.out).not_typ hb.is t1 t2) (fun ⟨_, cur, fz, e⟩ => by rw [hb.is] at e; injection e with e; injection e with _ e _; exact t3 e))
      have hl7 : LRep w7 L D l R := (HL.out.next KW6.out).keeps k7 (fun e => e.elim ((HL.out.next KW6.out).disk (HR.out.next KW6.out)).1 (fun ⟨h, _⟩ => by have := HL.out.lt; have := HS6.out.2; omega)) (fun g hg e => e.elim (((HL.out.next KW6.out).disk (HR.out.next KW6.out)).2 g hg) (fun ⟨h, _⟩ => by have := HL.out.rowLt hg; have := HS6.out.2; omega))
      have H7 := Hd.mk h7
      have HL7 := Hd.mk hl7
      have HO7 : Hd (∀ g, O7 = some g → O = some g ∨ w.heap.size ≤ g) := ⟨fun g hg => (hO7 g hg).imp_right (Nat.le_trans KW6.out.size)⟩
      have K7 : Hd (Keeps (fun g => (g = D ∨ O = some g)) w w7) := ⟨⟨k7.os.trans KW6.out.os, k7.tape.trans KW6.out.tape, k7.output.trans KW6.out.output, Nat.le_trans KW6.out.size k7.size, fun k hk hn => (k7.block k (Nat.lt_of_lt_of_le hk KW6.out.size) (fun e => e.elim hn (fun ⟨h, _⟩ => by have := HS6.out.2; omega))).trans (KW6.out.block k hk (fun h => h))⟩⟩
      have hy1 := keep HX1.out (by decide) (by decide) (by decide)
      have hy2 := keep HX2.out (by decide) (by decide) (by decide)
      have hy4 := keep HX4.out (by decide) (by decide) (by decide)
      rw [HN.out] at hy2
      have hrow7 : Rw 1 strE w7 (.slice p n c) rs := HV0.out.keepsStr K7.out (fun a n' c' e hlt h0 h => by
        injection e with e _ _
        exact HNE.out a e h0 h)
      have HRW7 := Hd.mk hrow7
      have HY1 := Hd.mk hy1
      have HY2 := Hd.mk hy2
      have HY4 := Hd.mk hy4
      obtain ⟨E, hE⟩ : ∃ E, (rewP σ l.f rs).1 = E := ⟨_, rfl⟩
      have hLr : Hd (rewL σ l rs = if E = 0 then { l with rows := rs, sure := rs.length } else l) := ⟨by unfold rewL; rw [hE]⟩
      have HE := Hd.mk hE
      rw [hE]
      clear hE h7 hl7 hO7 k7 keep hy1 hy2 hy4 hrow7 HALL
      by_cases hz : E = 0
      · subst hz
        have HEE := Hd.mk (rew_end HE.out)
        have HCl := Hd.mk (cloneS_any w7.drew (.slice p n c) rs (by rw [HN.out]; omega) (HRW7.out.keepsStr (Keeps.refl (fun _ => False) _).drew (fun _ _ _ _ _ _ h => h)))
        have hSd : w7.drew.cell? ⟨b1, 0, none⟩ = some (.pointer (some ⟨L, 0, none⟩)) ∧ w7.drew.cell? ⟨b2, 0, none⟩ = some (.slice p n c) ∧ w7.drew.cell? ⟨b4, 0, none⟩ = some (.int .i64 (en : Int)) := ⟨HY1.out.drew.at (j := 0) rfl, HY2.out.drew.at (j := 0) rfl, HY4.out.drew.at (j := 0) rfl⟩
        have hLb : L ≠ b1 ∧ L ≠ b2 ∧ L ≠ b4 := by have := HL.out.lt; have := HBZ.out; have := KW.out.size; refine ⟨?_, ?_, ?_⟩ <;> omega
        obtain ⟨n1, n2, n4⟩ := hLb
        go_wp2_with fail
        refine wp_region_lin default (fun w' => w'.cell? ⟨b1, 0, none⟩ = some (.pointer (some ⟨L, 0, none⟩)) ∧ w'.cell? ⟨b2, 0, none⟩ = some (.slice p n c) ∧ w'.cell? ⟨b4, 0, none⟩ = some (.int .i64 (en : Int))) [(0, true), (1, true), (2, true), (3, true), (5, true), (6, true), (7, true), (4, false), (8, true), (9, true), (10, false), (11, true), (12, true), (13, false), (14, true), (15, true), (16, false)] (by kernel_rfl) (by kernel_rfl) rfl (by kernel_rfl) (by kernel_rfl) hSd ?_
        simp only [pick, List.getD_cons_zero, List.getD_cons_succ]
        clear hSd
        repeat
          refine lin_free (v := ?_) (by rfl) ?_ ?_
          rotate_left
          · intro w' hSw
            obtain ⟨d0, d1, d2⟩ := hSw
            go_simp
            first | done | with_reducible rfl
          simp only [Act.put, List.setIfInBounds_toArray, List.set_cons_zero, List.set_cons_succ]
        refine lin_bound (fun K hK => ?_)
        go_simp
        refine HCl.out.mono ?_
        rintro e w8 ⟨v8, rfl, hO8, hb8⟩
        dsimp only
        have k8 : Keeps (fun _ => False) w7 w8 := (Keeps.refl _ w7).drew.trans (Keeps.of_below hb8 (fun k h1 h2 => absurd h1 (Nat.not_lt.2 h2)))
        have z1 := k8.blk HY1.out (fun h => h)
        have z2 := k8.blk HY2.out (fun h => h)
        have z4 := k8.blk HY4.out (fun h => h)
        have x1 : w8.cell? ⟨b1, 0, none⟩ = some (.pointer (some ⟨L, 0, none⟩)) := z1.at (j := 0) rfl
        have x2 : w8.cell? ⟨b2, 0, none⟩ = some (.slice p n c) := z2.at (j := 0) rfl
        have x4 : w8.cell? ⟨b4, 0, none⟩ = some (.int .i64 (en : Int)) := z4.at (j := 0) rfl
        have hl8 := HL7.out.next k8
        have hr8 := H7.out.next k8
        have K8 := Hd.mk k8
        have HL8 := Hd.mk hl8
        have HR8 := Hd.mk hr8
        have HO8 := Hd.mk hO8
        have hown8 : ∀ g, v8.ownBlock = some g → w7.heap.size ≤ g := fun g hg => (hO8.lt hg).1
        have HOw8 := Hd.mk hown8
        obtain ⟨ll, hll⟩ := hl8.is
        have y2 : w8.cell? ⟨L, 2, none⟩ = some ll := hll.1.at (j := 2) rfl
        have y3 : w8.cell? ⟨L, 3, none⟩ = some (.int .i64 (l.sure : Nat)) := hll.1.at (j := 3) rfl
        have y4 : w8.cell? ⟨L, 4, none⟩ = some (.int .i64 (endL l.rows : Nat)) := hll.1.at (j := 4) rfl
        have f2 := hll.1.free 2
        have f3 := hll.1.free 3
        have f4 := hll.1.free 4
        obtain ⟨p8, c8, hv8⟩ := hO8.slice'
        obtain ⟨n8, hn8⟩ : ∃ n8, (rs.map Value.string).length = n8 := ⟨_, rfl⟩
        rw [hn8] at hv8
        subst hv8
        refine hK.out _ _ ⟨x1, x2, x4⟩ ?_
        clear hK K hO8 hb8 k8 z1 z2 z4 hl8 hr8 hown8 hll hn8
        repeat
          refine lin_free (v := ?_) (by rfl) ?_ ?_
          rotate_left
          · intro w' hSw
            go_simp
            first | done | with_reducible rfl
          simp only [Act.put, List.setIfInBounds_toArray, List.set_cons_zero, List.set_cons_succ]
        refine lin_bound (fun K hK => ?_)
        go_simp
        refine hK.out _ _ ⟨by go_simp, by go_simp, by go_simp⟩ ?_
        clear hK K
        repeat
          refine lin_free (v := ?_) (by rfl) ?_ ?_
          rotate_left
          · intro w' hSw
            go_simp
            first | done | with_reducible rfl
          simp only [Act.put, List.setIfInBounds_toArray, List.set_cons_zero, List.set_cons_succ]
        refine lin_bound (fun K hK => ?_)
        go_simp
        refine hK.out _ _ ⟨by go_simp, by go_simp, by go_simp⟩ ?_
        clear hK K
        repeat
          refine lin_free (v := ?_) (by rfl) ?_ ?_
          rotate_left
          · intro w' hSw
            go_simp
            first | done | with_reducible rfl
          simp only [Act.put, List.setIfInBounds_toArray, List.set_cons_zero, List.set_cons_succ]
        refine lin_bound (fun K hK => ?_)
        go_simp
        refine hK.out _ _ ⟨by go_simp, by go_simp, by go_simp⟩ ?_
        clear hK K
        refine NoPanic.normal ?_
        go_wp2
        go_ret
        have hnL : (Value.slice p8 n8 c8).ownBlock ≠ some L := fun e => by have h1 := HOw8.out L e; have h2 := HL7.out.lt; omega
        have hall := HL8.out.setAll (.slice p8 n8 c8) rs HO8.out.base0 hnL HEE.out
        rw [HN.out, HEN.out] at hall
        have kk : Keeps (· = L) w8 (((w8.setCell ⟨L, 2, none⟩ (.slice p8 n8 c8)).setCell ⟨L, 3, none⟩ (.int .i64 (n : Nat))).setCell ⟨L, 4, none⟩ (.int .i64 (en : Nat))) :=
          (((Keeps.refl (· = L) w8).setCell (p := ⟨L, 2, none⟩) (.inr rfl) _).setCell (p := ⟨L, 3, none⟩) (.inr rfl) _).setCell (p := ⟨L, 4, none⟩) (.inr rfl) _
        refine ⟨ret_i (by rw [HE.out]; rfl), O7, _, HR8.out.others kk (fun g hg => by subst hg; obtain ⟨cur, fz, hh⟩ := HL8.out.heap; exact ⟨cur, _, fz, hh, by decide, by decide, by decide⟩), ?_, HO7.out, fun g hg => .inr (Nat.le_trans K7.out.size (HOw8.out g hg)), ((K7.out.mono (fun _ _ h => .inl h)).trans (K8.out.mono (fun _ _ h => h.elim))).trans (kk.mono (fun _ _ h => .inr (.inl h)))⟩
        rw [hLr.out, if_pos (by trivial), HN.out]
        exact hall
      · have h1 : ((E : Int) == 0) = false := by simp; omega
        have e1 : Hd (rewL σ l rs = l) := ⟨by rw [hLr.out, if_neg hz]⟩
        clear hz hLr
        go_wp2
        go_ret
        rw [e1.out]
        exact ⟨ret_i (by rw [HE.out]), O7, R, H7.out, HL7.out, HO7.out, fun g h => .inl h, K7.out.mono (fun _ _ h => .inl h)⟩

end Go.Proofs.Ytmcdfhihfcfbaaa.W
