/-
  The law VersionPartial: serving is a partial order.
-/
import Derived.Test.YtmgkoocpnakanaaVk
import Derived.Test.YtmgkoocpnakanaaVd
namespace Go.Proofs.Ytmgkoocpnakanaa.W
open Go.RowKit
set_option linter.unusedVariables false

theorem srvB_eq {l : List Vdf} {a b : ByteArray} {r : Bool} (h : srvB l a b = r) : (r = true ↔ Srv l a b) := by rw [← h]; exact srvB_iff

set_option maxHeartbeats 4000000 in
set_option maxRecDepth 100000 in
theorem partial_any (w : World) (v : Value) (l : List Vdf) (a b c : ByteArray) (h : ArgVdfs w v l) (ha : a.size ≤ 140737488351232) (hb : b.size ≤ 140737488351232) (hc : c.size ≤ 140737488351232) :
    Calls Try.prog 4 #[v, .string a, .string b, .string c] w fun e w' => e = .returned (.bool true) ∧ Below w.heap.size w w' := by
  have H := Hd.mk (fun (w' : World) (hb : Below w.heap.size w w') => Rw.below h.row Vdf.stays hb)
  have HSm := Hd.mk (small_any w)
  clear h
  go_enter Try.func4, Try.ntmps4
  go_wp2_with fail
  refine HSm.out.mono ?_
  rintro e w1 ⟨rfl, b1⟩
  have HB1 := Hd.mk b1
  have HFw := Hd.mk (few_any w1 v l (H.out w1 b1))
  obtain ⟨f, hf⟩ : ∃ f, fewV l = f := ⟨_, rfl⟩
  have HF := Hd.mk hf
  rw [hf] at HFw
  clear b1 HSm hf
  go_wp2_with fail
  refine HFw.out.mono ?_
  rintro e w2 ⟨rfl, rfl⟩
  clear HFw
  cases f with
  | false =>
    go_wp2
    go_ret
    exact ⟨rfl, HB1.out⟩
  | true =>
    have HOk := Hd.mk (fewV_iff.1 HF.out)
    by_cases h1 : 100 < a.size
    · have g1 : decide ((100 : Int) < (a.size : Int)) = true := decide_eq_true (by omega)
      go_wp2
      go_ret
      exact ⟨rfl, HB1.out⟩
    have g1 : decide ((100 : Int) < (a.size : Int)) = false := decide_eq_false (by omega)
    by_cases h2 : 100 < b.size
    · have g2 : decide ((100 : Int) < (b.size : Int)) = true := decide_eq_true (by omega)
      go_wp2
      go_ret
      exact ⟨rfl, HB1.out⟩
    have g2 : decide ((100 : Int) < (b.size : Int)) = false := decide_eq_false (by omega)
    by_cases h3 : 100 < c.size
    · have g3 : decide ((100 : Int) < (c.size : Int)) = true := decide_eq_true (by omega)
      go_wp2
      go_ret
      exact ⟨rfl, HB1.out⟩
    have g3 : decide ((100 : Int) < (c.size : Int)) = false := decide_eq_false (by omega)
    have HSv : Hd (∀ (w' : World) (x y : ByteArray), Below w.heap.size w w' → x.size ≤ 100 → y.size ≤ 100 → Calls Try.prog 13 #[v, .string x, .string y] w' fun e w'' => e = .returned (.bool (srvB l x y)) ∧ Below w'.heap.size w' w'') := ⟨fun w' x y hb hx hy => serves_any w' v l x y (H.out w' hb) HOk.out hx hy⟩
    obtain ⟨r1, hr1⟩ : ∃ r, srvB l a b = r := ⟨_, rfl⟩
    obtain ⟨r2, hr2⟩ : ∃ r, srvB l b c = r := ⟨_, rfl⟩
    obtain ⟨r3, hr3⟩ : ∃ r, srvB l a c = r := ⟨_, rfl⟩
    obtain ⟨r4, hr4⟩ : ∃ r, srvB l b a = r := ⟨_, rfl⟩
    have HR1 := Hd.mk (srvB_eq hr1)
    have HR2 := Hd.mk (srvB_eq hr2)
    have HR3 := Hd.mk (srvB_eq hr3)
    have HR4 := Hd.mk (srvB_eq hr4)
    have HS1 := Hd.mk (HSv.out w1 a b HB1.out (by omega) (by omega))
    rw [hr1] at HS1
    have h4 := Hd.mk (And.intro hr2 (And.intro hr3 hr4))
    clear hr1 hr2 hr3 hr4
    go_wp2_with fail
    refine HS1.out.mono ?_
    rintro e w2 ⟨rfl, b2⟩
    have HB2 := Hd.mk (HB1.out.trans (b2.mono HB1.out.size))
    have HS2 := Hd.mk (HSv.out w2 b c HB2.out (by omega) (by omega))
    rw [h4.out.1] at HS2
    clear b2 HS1
    go_wp2_with fail
    refine HS2.out.mono ?_
    rintro e w3 ⟨rfl, b3⟩
    have HB3 := Hd.mk (HB2.out.trans (b3.mono HB2.out.size))
    have HS3 := Hd.mk (HSv.out w3 a a HB3.out (by omega) (by omega))
    rw [srvB_iff.2 (Srv.refl a)] at HS3
    clear b3 HS2
    go_wp2_with fail
    refine HS3.out.mono ?_
    rintro e w4 ⟨rfl, b4⟩
    have HB4 := Hd.mk (HB3.out.trans (b4.mono HB3.out.size))
    clear b4 HS3 HB2 HB3
    have key : ∀ w5, Below w.heap.size w w5 → Calls Try.prog 11 #[v] w5 fun e w' => e = .returned (.bool (rightV l)) ∧ Below w5.heap.size w5 w' := fun w5 hb => right_any w5 v l (H.out w5 hb) HOk.out
    obtain ⟨rr, hrr⟩ : ∃ r, rightV l = r := ⟨_, rfl⟩
    rw [hrr] at key
    have HRr := Hd.mk hrr
    have HK := Hd.mk key
    clear key hrr
    rcases r1 with _ | _
    · have HB5 := Hd.mk HB4.out
      clear HB4
      have HRc := Hd.mk (HK.out w4 HB5.out)
      go_wp2_with fail
      refine HRc.out.mono ?_
      rintro e w6 ⟨rfl, b6⟩
      have HB6 := Hd.mk (HB5.out.trans (b6.mono HB5.out.size))
      clear b6 HRc HB5 HK
      cases rr with
      | false =>
        go_wp2
        go_ret
        exact ⟨rfl, HB6.out⟩
      | true =>
        have g0 := str_beq a b
        by_cases hab : a = b
        · rw [decide_eq_true hab] at g0
          go_wp2
          go_ret
          exact ⟨rfl, HB6.out⟩
        · rw [decide_eq_false hab] at g0
          clear hab
          go_wp2
          go_ret
          exact ⟨rfl, HB6.out⟩
    · have HAB : Hd (Srv l a b) := ⟨HR1.out.1 rfl⟩
      rcases r2 with _ | _
      · have HB5 := Hd.mk HB4.out
        clear HB4
        have HRc := Hd.mk (HK.out w4 HB5.out)
        go_wp2_with fail
        refine HRc.out.mono ?_
        rintro e w6 ⟨rfl, b6⟩
        have HB6 := Hd.mk (HB5.out.trans (b6.mono HB5.out.size))
        clear b6 HRc HB5 HK
        cases rr with
        | false =>
          go_wp2
          go_ret
          exact ⟨rfl, HB6.out⟩
        | true =>
          have g0 := str_beq a b
          by_cases hab : a = b
          · rw [decide_eq_true hab] at g0
            go_wp2
            go_ret
            exact ⟨rfl, HB6.out⟩
          · rw [decide_eq_false hab] at g0
            have HNl := Hd.mk (fun hs => hab ((rightV_iff.1 HRr.out).noLoop HOk.out.len |>.anti HAB.out (HR4.out.1 hs)))
            have hr4 : r4 = false := by
              cases r4 with
              | false => rfl
              | true => exact (HNl.out rfl).elim
            subst hr4
            have HS5 := Hd.mk (HSv.out w6 b a HB6.out (by omega) (by omega))
            rw [h4.out.2.2] at HS5
            clear hab
            go_wp2_with fail
            refine HS5.out.mono ?_
            rintro e w7 ⟨rfl, b7⟩
            have HB7 := Hd.mk (HB6.out.trans (b7.mono HB6.out.size))
            clear b7 HS5 HB6
            go_wp2
            go_ret
            exact ⟨rfl, HB7.out⟩
      · have ht : r3 = true := HR3.out.2 ((HR1.out.1 rfl).trans (HR2.out.1 rfl))
        subst ht
        have HS4 := Hd.mk (HSv.out w4 a c HB4.out (by omega) (by omega))
        rw [h4.out.2.1] at HS4
        go_wp2_with fail
        refine HS4.out.mono ?_
        rintro e w5 ⟨rfl, b5⟩
        have HB5 := Hd.mk (HB4.out.trans (b5.mono HB4.out.size))
        clear b5 HS4 HB4
        have HRc := Hd.mk (HK.out w5 HB5.out)
        go_wp2_with fail
        refine HRc.out.mono ?_
        rintro e w6 ⟨rfl, b6⟩
        have HB6 := Hd.mk (HB5.out.trans (b6.mono HB5.out.size))
        clear b6 HRc HB5 HK
        cases rr with
        | false =>
          go_wp2
          go_ret
          exact ⟨rfl, HB6.out⟩
        | true =>
          have g0 := str_beq a b
          by_cases hab : a = b
          · rw [decide_eq_true hab] at g0
            go_wp2
            go_ret
            exact ⟨rfl, HB6.out⟩
          · rw [decide_eq_false hab] at g0
            have HNl := Hd.mk (fun hs => hab ((rightV_iff.1 HRr.out).noLoop HOk.out.len |>.anti HAB.out (HR4.out.1 hs)))
            have hr4 : r4 = false := by
              cases r4 with
              | false => rfl
              | true => exact (HNl.out rfl).elim
            subst hr4
            have HS5 := Hd.mk (HSv.out w6 b a HB6.out (by omega) (by omega))
            rw [h4.out.2.2] at HS5
            clear hab
            go_wp2_with fail
            refine HS5.out.mono ?_
            rintro e w7 ⟨rfl, b7⟩
            have HB7 := Hd.mk (HB6.out.trans (b7.mono HB6.out.size))
            clear b7 HS5 HB6
            go_wp2
            go_ret
            exact ⟨rfl, HB7.out⟩

end Go.Proofs.Ytmgkoocpnakanaa.W
