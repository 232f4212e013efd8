/-
  The walk of JournalForms.
-/
import Derived.Test.YtmcdfhihfcfbaaaJRr
import Derived.Test.YtmcdfhihfcfbaaaJSm
import Derived.Test.YtmcdfhihfcfbaaaJCp
namespace Go.Proofs.Ytmcdfhihfcfbaaa.W
open Go.RowKit
set_option linter.unusedVariables false

theorem putL_end (s t : List UInt8) : putL s s.length t = s ++ t := by
  apply List.ext_getElem
  · rw [putL_len, List.length_append]; omega
  · intro j h1 h2
    rw [List.length_append] at h2
    simp only [putL, List.getElem_map, List.getElem_range]
    by_cases hj : j < s.length
    · rw [if_neg (by omega), List.getElem_append_left hj, List.getD_eq_getElem?_getD, List.getElem?_eq_getElem hj]; rfl
    · rw [if_pos ⟨by omega, by omega⟩, List.getElem_append_right (by omega), List.getD_eq_getElem?_getD, List.getElem?_eq_getElem (by omega)]; rfl

theorem calm_file {σ : St} (hc : Calm σ) (hok : Ok σ) {f k : Nat} {s : List UInt8} (hf : f < 8) (hs : k + s.length ≤ 16777216) :
    (WriteS σ (f : Int) (k : Int) s).files.getD f [] = if s = [] then σ.files.getD f [] else putL (σ.files.getD f []) k s := by
  have he : writeE σ (f : Int) (k : Int) s = 0 := by
    have := hc.writeE (s := s) (isF_of (f := (f : Int)) (by omega) (by omega)) (by omega : (0 : Int) ≤ (k : Int)) (by omega)
    unfold WriteE at this
    rwa [hc.endsB, hc.endsS] at this
  rw [hc.writeEq, writeS]
  by_cases h0 : s = []
  · rw [if_pos h0, if_neg (fun h => h.2 h0)]
  · rw [if_neg h0, if_pos ⟨he, h0⟩]
    have h8 := hok.f8
    simp only [addS, Int.toNat_natCast]
    rw [List.getD_eq_getElem?_getD, List.getElem?_set_self (by omega)]
    rfl

theorem openP_of {σ : St} (hc : Calm σ) {f : Nat} {c : List UInt8} (hf : f ≤ 6) (h : σ.files.getD f [] = c) : openP σ (f : Int) = match openL c with | none => (2, []) | some rs => (0, rs) := by
  unfold openP
  rw [if_neg (by omega), hc.may (isF_of (by omega) (by omega)), if_neg (by decide), Int.toNat_natCast, h]
  cases openL c <;> rfl
theorem openP_some {σ : St} (hc : Calm σ) {f : Nat} {c : List UInt8} {rs : List ByteArray} (hf : f ≤ 6) (h : σ.files.getD f [] = c) (ho : openL c = some rs) : openP σ (f : Int) = (0, rs) := by rw [openP_of hc hf h, ho]
theorem openP_none {σ : St} (hc : Calm σ) {f : Nat} {c : List UInt8} (hf : f ≤ 6) (h : σ.files.getD f [] = c) (ho : openL c = none) : openP σ (f : Int) = (2, []) := by rw [openP_of hc hf h, ho]

/-- what stands behind the rows of a file does not matter -/
theorem openL_more {s more : List UInt8} {rs : List ByteArray} (h16 : ¬ s.length < 16) (h : openL s = some rs) : openL (s ++ more) = some rs := by
  have e1 : numOf (s ++ more) = numOf s := by unfold numOf; rw [List.take_append_of_le_length (by omega)]
  have e2 : numOf ((s ++ more).drop 8) = numOf (s.drop 8) := by unfold numOf; rw [List.drop_append_of_le_length (by omega), List.take_append_of_le_length (by rw [List.length_drop]; omega)]
  have hl : (s ++ more).length = s.length + more.length := List.length_append
  rw [openL_cases s h16] at h
  rw [openL_cases _ (by omega), e1, e2]
  split at h
  · rename_i h0; rw [if_pos h0]; exact h
  · rename_i h0
    rw [if_neg h0]
    split at h
    · cases h
    · rename_i h1
      rw [if_neg (by omega), List.take_append_of_le_length (by omega)]
      exact h

theorem own_heap0 {w : World} {B : Nat} {e : TypeId} {v : Value} {xs : List Value} (h : Own w B e v xs) {g : Nat} (hg : v.ownBlock = some g) : ∃ cur fz, w.heap[g]? = some (.cells cur e fz) := by
  rcases h.is with ⟨rfl, _⟩ | ⟨g', cap, rfl, _, _, _, ⟨cur, fz, hg', _⟩, _⟩
  · cases hg
  · have : g' = g := by simpa [Value.ownBlock] using hg
    subst this
    exact ⟨_, _, hg'⟩

theorem openL_len {s : List UInt8} {rs : List ByteArray} (h : openL s = some rs) : rs.length ≤ s.length := by
  by_cases h16 : s.length < 16
  · rw [openL_empty s h16] at h; cases h; simp
  · rw [openL_cases s h16] at h
    split at h
    · cases h; simp
    · split at h
      · cases h
      · rcases hp : parse ((s.take (numOf s).toNat).drop 16) with _ | r
        · rw [hp] at h; cases h
        · rw [hp] at h
          have h : (if (r.length : Int) = numOf (s.drop 8) then some r else none) = some rs := h
          split at h
          · cases h
            have := parseF_len _ _ _ hp
            have h2 := len_le_forms rs
            rw [this, List.length_drop, List.length_take] at h2
            omega
          · cases h

def fmX (v : Value) : Nat → Prop := fun g => v.ownBlock = some g

set_option maxRecDepth 100000 in
set_option maxHeartbeats 4000000 in
theorem forms_any (W : World) (s more : ByteArray) (hs : s.size ≤ 140737488351232) (hm : more.size ≤ 140737488351232) :
    Calls Try.prog 4 #[.string s, .string more] W fun e w' => e = .returned (.bool true) ∧ Below W.heap.size W w' := by
  by_cases s1 : s.size ≤ 1000
  · have s1' : decide ((1000 : Int) < (s.size : Int)) = false := by simp; omega
    have s1'' : decide (1000 < s.size) = false := by simp; omega
    by_cases m1 : more.size ≤ 1000
    · have m1' : decide ((1000 : Int) < (more.size : Int)) = false := by simp; omega
      have m1'' : decide (1000 < more.size) = false := by simp; omega
      have hsl : s.data.toList.length = s.size := rfl
      have hml : more.data.toList.length = more.size := rfl
      have c1 : Calm (WriteS newS 1 0 s.data.toList) := Calm.new.write _ _ _
      have ok1 : Ok (WriteS newS 1 0 s.data.toList) := Ok.new.Write _ _ _
      have fit1 : FitQ (WriteS newS 1 0 s.data.toList) 1000 := (FitQ.new.write 1 0 s.data.toList).mono (by omega)
      have f1 : (WriteS newS 1 0 s.data.toList).files.getD 1 [] = s.data.toList := by
        have := calm_file Calm.new Ok.new (f := 1) (k := 0) (s := s.data.toList) (by decide) (by omega)
        rw [show ((1 : Nat) : Int) = 1 from rfl, show ((0 : Nat) : Int) = 0 from rfl] at this
        rw [this]
        split
        · rename_i h0; rw [h0]; rfl
        · exact putL_end [] s.data.toList
      have e1 : WriteE newS 1 0 s.data.toList = 0 := Calm.new.writeE (isF_of (by decide) (by decide)) (by decide) (by omega)
      obtain ⟨z1, hz1⟩ : ∃ z1, WriteS newS 1 0 s.data.toList = z1 := ⟨_, rfl⟩
      rw [hz1] at c1 ok1 fit1 f1
      have c2 : Calm (WriteS z1 1 (s.size : Int) more.data.toList) := c1.write _ _ _
      have e2 : WriteE z1 1 (s.size : Int) more.data.toList = 0 := c1.writeE (isF_of (by decide) (by decide)) (by omega) (by omega)
      have f2 : (WriteS z1 1 (s.size : Int) more.data.toList).files.getD 1 [] = s.data.toList ++ more.data.toList := by
        have := calm_file c1 ok1 (f := 1) (k := s.size) (s := more.data.toList) (by decide) (by omega)
        rw [show ((1 : Nat) : Int) = 1 from rfl] at this
        rw [this, f1]
        split
        · rename_i h0; rw [h0]; simp
        · exact putL_end _ _
      obtain ⟨z2, hz2⟩ : ∃ z2, WriteS z1 1 (s.size : Int) more.data.toList = z2 := ⟨_, rfl⟩
      rw [hz2] at c2 f2
      have C1 := Hd.mk c1
      have C2 := Hd.mk c2
      have F1 := Hd.mk f1
      have F2 := Hd.mk f2
      have E1 := Hd.mk e1
      have E2 := Hd.mk e2
      have FIT := Hd.mk fit1
      have HZ1 := Hd.mk hz1
      have HZ2 := Hd.mk hz2
      have HRr := Hd.mk (fun w => rrows_any w s (by omega))
      have S1 := Hd.mk s1
      have M1 := Hd.mk m1
      clear s1 m1 hsl hml c1 ok1 fit1 f1 e1 c2 e2 f2 hz1 hz2
      go_enter Try.func4, Try.ntmps4
      go_wp2_with fail
      refine (small_any W).mono ?_; rintro e wa ⟨rfl, hb0⟩
      have B0 := Hd.mk hb0; clear hb0
      go_wp2_with fail
      refine (One.new wa).mono ?_; rintro e w0 ⟨D, rfl, h0⟩
      have H0 := Hd.mk h0; clear h0
      go_wp2_with fail
      refine (H0.out.write 1 0 s 0 z1 (FitQ.new.fit (by decide)) (by have := S1.out; simp [newS]; omega) (by decide) (by omega) (by rw [E1.out]; rfl) HZ1.out).mono ?_; rintro e w1 ⟨rfl, h1⟩
      have H1 := Hd.mk h1; clear h1 H0
      rcases ho : openL s.data.toList with _ | rs
      · have HOp := Hd.mk (H1.out.openNo 1 2 [] (openP_none C1.out (f := 1) (by decide) F1.out ho) (by decide))
        have HO := Hd.mk ho
        clear ho
        go_wp2_with fail
        refine HOp.out.mono ?_; rintro e w2 ⟨rfl, h2, k2⟩
        have H2 := Hd.mk h2; clear h2 k2 HOp H1
        go_wp2_with fail
        refine (HRr.out w2).mono ?_; rintro e w3 h3
        obtain ⟨hb3, v, rfl, _⟩ := h3
        rw [HO.out]
        have H3 := Hd.mk (H2.out.next (Keeps.of_below hb3 (fun k h1 h2 => absurd h1 (Nat.not_lt.2 h2))))
        clear hb3 H2
        simp only [Option.isSome]
        go_wp2
        go_ret
        exact ⟨rfl, Below.chain B0.out H3.out.below⟩
      · have HOp := Hd.mk (H1.out.openYes (X := fun _ => False) 1 rs (openP_some C1.out (f := 1) (by decide) F1.out ho) (fun _ h => h.elim))
        have hrsl : rs.length ≤ 16777216 := by
          have := (openL_len ho)
          have := S1.out
          show rs.length ≤ _
          have e : s.data.toList.length = s.size := rfl
          omega
        have HO := Hd.mk ho
        clear ho
        go_wp2_with fail
        refine HOp.out.mono ?_; rintro e w2 ⟨L, rfl, h2, k2, _⟩
        have H2 : Hd (JW wa w2 D L z1 ⟨1, rs, rs.length⟩ (fun _ => False)) := ⟨h2⟩
        clear h2 k2 HOp H1
        go_wp2_with fail
        refine (HRr.out w2).mono ?_; rintro e w3 h3
        obtain ⟨hb3, v, rfl, hv⟩ := h3
        have hown := hv rs HO.out
        rw [HO.out]
        have hj3 : JW wa w3 D L z1 ⟨1, rs, rs.length⟩ (fmX v) := H2.out.grow (Keeps.of_below hb3 (fun k h1 h2 => absurd h1 (Nat.not_lt.2 h2)) : Keeps (fun _ => False) w2 w3) (fun _ h => h.elim) (fun _ h => h.elim) (fun g hg => by
          obtain ⟨cur, fz, e⟩ := own_heap0 hown hg
          exact ⟨.inr (hown.lt hg).1, cur, _, fz, e, by decide, by decide, by decide⟩)
        have H3 := Hd.mk hj3
        obtain ⟨pv, cv, hpv⟩ := hown.slice'
        rw [List.length_map] at hpv
        subst hpv
        have HW := Hd.mk hown
        clear hb3 hj3 hown hv H2
        simp only [Option.isSome]
        go_wp2_with fail
        refine (H3.out.all).mono ?_; rintro e w4 ⟨v4, rfl, hO4, hj4, hb4⟩
        obtain ⟨p4, c4, hv4⟩ := hO4.slice'
        rw [List.length_map] at hv4
        subst hv4
        have HO4 := Hd.mk (Rw.of_str (xs := rs) hO4)
        have HW4 := Hd.mk (HW.out.keeps (Keeps.of_below hb4 (fun k h1 h2 => absurd h1 (Nat.not_lt.2 h2)) : Keeps (fun _ => False) w3 w4) (fun _ _ h => h))
        have HR4 := Hd.mk (Rw.of_str (xs := rs) HW4.out)
        have H4 := Hd.mk hj4
        clear hO4 hb4 hj4 HW H3
        go_wp2_with fail
        refine (same_yes w4 _ _ rs (by omega) HO4.out HR4.out).mono ?_; rintro e w5 ⟨rfl, hb5⟩
        have H5 := Hd.mk (H4.out.of_below hb5)
        have HW5 := Hd.mk (HW4.out.keeps (Keeps.of_below hb5 (fun k h1 h2 => absurd h1 (Nat.not_lt.2 h2)) : Keeps (fun _ => False) w4 w5) (fun _ _ h => h))
        clear hb5 H4 HW4 HO4 HR4
        by_cases h16 : s.size < 16
        · have hd : decide ((s.size : Int) < 16) = true := by simp; omega
          have hd' : decide (s.size < 16) = true := by simp; omega
          clear h16
          go_wp2
          go_ret
          exact ⟨rfl, Below.chain B0.out H5.out.below⟩
        · have hd : decide ((s.size : Int) < 16) = false := by simp; omega
          have hd' : decide (s.size < 16) = false := by simp; omega
          have HO2 := Hd.mk (openL_more (more := more.data.toList) (show ¬ s.data.toList.length < 16 from h16) HO.out)
          clear h16
          go_wp2_with fail
          refine (H5.out.run (OpC.lop (OpC.write 1 (s.size : Int) more 0 z2 (FIT.out.fit (by decide)) (by have h1 := FIT.out.q; have h2 := M1.out; omega) (by have := S1.out; omega) (by omega) (by rw [E2.out]; rfl) HZ2.out))).mono ?_; rintro e w6 ⟨rfl, h6⟩
          have H6 := Hd.mk h6.jw
          have HW6 := Hd.mk (HW5.out.keeps h6.keeps (fun g hg e => e.2 hg))
          clear h6 H5 HW5
          go_wp2_with fail
          refine (H6.out.one.openYes (X := fmX (.slice pv rs.length cv)) 1 rs (openP_some C2.out (f := 1) (by decide) F2.out HO2.out) H6.out.xs).mono ?_; rintro e w7 ⟨M, rfl, h7, k7, _⟩
          have H7 : Hd (JW wa w7 D M z2 ⟨1, rs, rs.length⟩ (fmX (.slice pv rs.length cv))) := ⟨h7⟩
          have HW7 := Hd.mk (HW6.out.keeps k7 (fun _ _ h => h))
          clear h7 k7 H6 HW6
          go_wp2_with fail
          refine (H7.out.all).mono ?_; rintro e w8 ⟨v8, rfl, hO8, hj8, hb8⟩
          obtain ⟨p8, c8, hv8⟩ := hO8.slice'
          rw [List.length_map] at hv8
          subst hv8
          have HO8 := Hd.mk (Rw.of_str (xs := rs) hO8)
          have HW8 := Hd.mk (HW7.out.keeps (Keeps.of_below hb8 (fun k h1 h2 => absurd h1 (Nat.not_lt.2 h2)) : Keeps (fun _ => False) w7 w8) (fun _ _ h => h))
          have HR8 := Hd.mk (Rw.of_str (xs := rs) HW8.out)
          have H8 := Hd.mk hj8
          clear hO8 hb8 hj8 HW7 H7
          go_wp2_with fail
          refine (same_yes w8 _ _ rs (by omega) HO8.out HR8.out).mono ?_; rintro e w9 ⟨rfl, hb9⟩
          have H9 := Hd.mk (H8.out.of_below hb9)
          clear hb9 H8 HW8 HO8 HR8
          go_wp2
          go_ret
          exact ⟨rfl, Below.chain B0.out H9.out.below⟩
    · have m1' : decide ((1000 : Int) < (more.size : Int)) = true := by simp; omega
      have m1'' : decide (1000 < more.size) = true := by simp; omega
      clear s1 m1
      go_enter Try.func4, Try.ntmps4
      go_wp2_with fail
      refine (small_any W).mono ?_; rintro e wa ⟨rfl, hb0⟩
      have B0 := Hd.mk hb0; clear hb0
      go_wp2
      go_ret
      exact ⟨rfl, B0.out⟩
  · have s1' : decide ((1000 : Int) < (s.size : Int)) = true := by simp; omega
    have s1'' : decide (1000 < s.size) = true := by simp; omega
    clear s1
    go_enter Try.func4, Try.ntmps4
    go_wp2_with fail
    refine (small_any W).mono ?_; rintro e wa ⟨rfl, hb0⟩
    have B0 := Hd.mk hb0; clear hb0
    go_wp2
    go_ret
    exact ⟨rfl, B0.out⟩

end Go.Proofs.Ytmcdfhihfcfbaaa.W
