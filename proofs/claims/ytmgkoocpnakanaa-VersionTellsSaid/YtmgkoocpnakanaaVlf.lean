/-
  The law VersionTells: all functions return what the reference returns.
-/
import Derived.Test.YtmgkoocpnakanaaVra
import Derived.Test.YtmgkoocpnakanaaVz
import Derived.Test.YtmgkoocpnakanaaVd
namespace Go.Proofs.Ytmgkoocpnakanaa.W
open Go.RowKit Go.ChangeShapes Go.WideShapes
set_option linter.unusedVariables false

section
variable {H : Type} {enc : TypeId × Value → H}
set_option maxRecDepth 100000 in
theorem elem_cap {W : World} (fuel : Nat) (cs : List Value) (d : DataW H) (p : List MemPlace) (h : DataW.trod enc Try.prog W 0 (fun _ => true) true fuel 32 cs = some (d, p)) : CapV cs := by
  obtain ⟨xs, n, rfl, hx, hl, hxl, hall⟩ := DataW.trod_struct Try.underlying32 h
  rw [cellsVdf] at hl
  match cs, hl with
  | [c0, c1], _ =>
    have hxl' : xs.length = 2 := hxl
    match xs, hxl' with
    | [x0, x1], _ =>
      have f1 : DataW.trod enc Try.prog W 0 (fun _ => true) true n 27 (List.take (Try.prog.cellsOf 27) (List.drop 1 [c0, c1])) = some x1 := hall 1 _ rfl
      have cellsLstring : Try.prog.cellsOf 27 = 1 := by kernel_rfl
      simp only [cellsLstring, List.drop_succ_cons, List.take_succ_cons, List.take_zero, List.drop_zero] at f1
      intro p' n' c' e
      have e1 : c1 = .slice p' n' c' := by simpa using e
      rcases Go.Deep.open_slice Try.underlying27 f1 with ⟨h0, _⟩ | ⟨a, len, cap, m, n2, D, Pl, h0, _, hle, _⟩
      · have : c1 = .slice none 0 0 := by simpa using h0
        rw [this] at e1
        injection e1 with _ e2 e3
        omega
      · have : c1 = .slice (some a) len cap := by simpa using h0
        rw [this] at e1
        injection e1 with _ e2 e3
        omega
structure ArgVdfsC (W : World) (v : Value) (l : List Vdf) : Prop where
  ec : Rw 2 Vdf.EC W v l
set_option maxRecDepth 100000 in
theorem args_VdfsC {base : Nat} {W : World} {v : Value} {d : DataW H} {p : List MemPlace} (hval : Value.okWide Try.prog W .any base 22 v) (h : DataW.Trod enc Try.prog W 0 (fun _ => true) true 22 v d p)
    (hz : ∀ n ∈ d.weights Try.prog 22, n ≤ reachBytes) : ∃ l : List Vdf, ArgVdfsC W v l := by
  obtain ⟨a0, len, cap, rfl⟩ := okWide_slice Try.underlying22 hval
  obtain ⟨fuel, hf⟩ := h
  obtain ⟨v, xs, hv, h1, h2⟩ := arg_slice_cells (P := Try.prog) (m := 2) (fun cs (x : Vdf) => Vdf.EC W cs x ∧ True) Try.underlying22 cellsVdf (by decide) (fun fuel cs d p h hz => by
    obtain ⟨a, h1, h2⟩ := elem_Vdf fuel cs d p h hz
    exact ⟨a, ⟨h1, elem_cap fuel cs d p h⟩, trivial⟩) hf hz
  obtain ⟨h3, h4⟩ := rw_of_slice (E := fun W cs x => Vdf.EC W cs x) (Q := fun _ => True) h1
  have e : Value.slice a0 len cap = v := by have : [Value.slice a0 len cap] = [v] := hv; exact List.head_eq_of_cons_eq this
  exact ⟨xs, ⟨e ▸ h3⟩⟩
end

theorem IsOrd.eq {l : List Vdf} {xs ys : List ByteArray} (h : IsOrd l xs) (k : IsOrd l ys) : xs = ys := by
  by_cases hv : VRight l
  · exact (h.yes hv).uniq (k.yes hv)
  · rw [h.no hv, k.no hv]

set_option maxHeartbeats 4000000 in
set_option maxRecDepth 100000 in
theorem vtells_any (w : World) (v : Value) (l : List Vdf) (a c : ByteArray) (h : ArgVdfsC w v l) (ha : a.size ≤ 140737488351232) (hc : c.size ≤ 140737488351232) :
    Calls Try.prog 3 #[v, .string a, .string c] w fun e w' => e = .returned (.bool true) ∧ Below w.heap.size w w' := by
  have HC := Hd.mk (fun (w' : World) (hb : Below w.heap.size w w') => Rw.below h.ec Vdf.EC_stays hb)
  have H := Hd.mk (fun (w' : World) (hb : Below w.heap.size w w') => rw_EC (Rw.below h.ec Vdf.EC_stays hb))
  have HSm := Hd.mk (small_any w)
  obtain ⟨V, hV⟩ : ∃ V, v = V := ⟨_, rfl⟩
  rw [hV] at HC H ⊢
  clear h hV
  go_enter Try.func3, Try.ntmps3
  go_wp2_with fail
  refine HSm.out.mono ?_
  rintro e w1 ⟨rfl, b1⟩
  have HB1 := Hd.mk b1
  have HFw := Hd.mk (few_any w1 V l (H.out w1 b1))
  obtain ⟨f, hf⟩ : ∃ f, fewV l = f := ⟨_, rfl⟩
  have HF := Hd.mk hf
  rw [hf] at HFw
  clear b1 HSm hf
  go_wp2_with fail
  refine HFw.out.mono ?_
  rintro e w2 ⟨rfl, rfl⟩
  clear HFw
  cases f with
  | false =>
    go_wp2
    go_ret
    exact ⟨rfl, HB1.out⟩
  | true =>
    have HOk := Hd.mk (fewV_iff.1 HF.out)
    by_cases h1 : 100 < a.size
    · have g1 : decide ((100 : Int) < (a.size : Int)) = true := decide_eq_true (by omega)
      go_wp2
      go_ret
      exact ⟨rfl, HB1.out⟩
    have g1 : decide ((100 : Int) < (a.size : Int)) = false := decide_eq_false (by omega)
    by_cases h3 : 100 < c.size
    · have g3 : decide ((100 : Int) < (c.size : Int)) = true := decide_eq_true (by omega)
      go_wp2
      go_ret
      exact ⟨rfl, HB1.out⟩
    have g3 : decide ((100 : Int) < (c.size : Int)) = false := decide_eq_false (by omega)
    have hR1 := right_any w1 V l (H.out w1 HB1.out) HOk.out
    have hR2 := fun w' (hb : Below w.heap.size w w') => rright_any w' V l (HC.out w' hb) HOk.out
    obtain ⟨R, hR⟩ : ∃ R, rightV l = R := ⟨_, rfl⟩
    rw [hR] at hR1
    rw [hR] at hR2
    have hS1 := fun w' (hb : Below w.heap.size w w') => serves_any w' V l a c (H.out w' hb) HOk.out (by omega) (by omega)
    have hS2 := fun w' (hb : Below w.heap.size w w') => rserves_any w' V l a c (H.out w' hb) HOk.out
    obtain ⟨S, hS⟩ : ∃ S, srvB l a c = S := ⟨_, rfl⟩
    rw [hS] at hS1
    rw [hS] at hS2
    have HR1 := Hd.mk hR1
    have HR2 := Hd.mk hR2
    have HS1 := Hd.mk hS1
    have HS2 := Hd.mk hS2
    have HL1 := Hd.mk (fun w' (hb : Below w.heap.size w w') => line_any w' V l a (H.out w' hb) HOk.out (by omega))
    have HL2 := Hd.mk (fun w' (hb : Below w.heap.size w w') => rline_any w' V l a (H.out w' hb) HOk.out)
    have HO1 := Hd.mk (fun w' (hb : Below w.heap.size w w') => order_any w' V l (H.out w' hb) HOk.out)
    have HO2 := Hd.mk (fun w' (hb : Below w.heap.size w w') => rorder_any w' V l (HC.out w' hb) HOk.out)
    clear hR hR1 hR2 hS hS1 hS2 HF H HC
    go_wp2_with fail
    refine HR1.out.mono ?_
    rintro e w2 ⟨rfl, b2⟩
    have HB2 := Hd.mk (HB1.out.trans (b2.mono HB1.out.size))
    have HR3 := Hd.mk (HR2.out w2 HB2.out)
    clear b2 HR1 HR2 HB1
    go_wp2_with fail
    refine HR3.out.mono ?_
    rintro e w3 ⟨rfl, b3⟩
    have HB3 := Hd.mk (HB2.out.trans (b3.mono HB2.out.size))
    have HS3 := Hd.mk (HS1.out w3 HB3.out)
    clear b3 HR3 HS1 HB2
    have gr : (R != R) = false := by simp
    go_wp2_with fail
    refine HS3.out.mono ?_
    rintro e w4 ⟨rfl, b4⟩
    have HB4 := Hd.mk (HB3.out.trans (b4.mono HB3.out.size))
    have HS4 := Hd.mk (HS2.out w4 HB4.out)
    clear b4 HS3 HS2 HB3
    go_wp2_with fail
    refine HS4.out.mono ?_
    rintro e w5 ⟨rfl, b5⟩
    have HB5 := Hd.mk (HB4.out.trans (b5.mono HB4.out.size))
    have HL3 := Hd.mk (HL1.out w5 HB5.out)
    have gs : (S != S) = false := by simp
    clear b5 HS4 HB4 gr
    go_wp2_with fail
    refine HL3.out.mono ?_
    rintro e w6 ⟨v6, n6, x6, rfl, o6, hn6, i6, b6⟩
    have HB6 := Hd.mk (HB5.out.trans (b6.mono HB5.out.size))
    have HRw6 := Hd.mk (rw_strs o6)
    have HI6 := Hd.mk i6
    have HN6 : Hd (x6.length ≤ 101) := ⟨by have := o6.1; rw [strs_len] at this; omega⟩
    have HL4 := Hd.mk (HL2.out w6 HB6.out)
    clear b6 o6 hn6 i6 HL3 HL1 HL2 HB5 gs
    go_wp2_with fail
    refine HL4.out.mono ?_
    rintro e w7 ⟨v7, n7, x7, rfl, o7, hn7, i7, b7⟩
    have HB7 := Hd.mk (HB6.out.trans (b7.mono HB6.out.size))
    have hz7 : x7.length ≤ 101 := by have := o7.1; rw [strs_len] at this; omega
    have hs7 := sames_any w7 v6 v7 x6 x7 (by have := HN6.out; omega) (by omega) (HRw6.out.below strE_stays b7) (rw_strs o7)
    rw [decide_eq_true (HI6.out.eq i7)] at hs7
    have HS7 := Hd.mk hs7
    clear b7 o7 hn7 i7 HL4 HRw6 HI6 HN6 hz7 hs7 HB6
    go_wp2_with fail
    refine HS7.out.mono ?_
    rintro e w8 ⟨rfl, b8⟩
    have HB8 := Hd.mk (HB7.out.trans (b8.mono HB7.out.size))
    have HO3 := Hd.mk (HO1.out w8 HB8.out)
    clear HS7 b8 HO1 HB7
    go_wp2_with fail
    refine HO3.out.mono ?_
    rintro e w9 ⟨v9, n9, x9, rfl, o9, hn9, i9, b9⟩
    have HB9 := Hd.mk (HB8.out.trans (b9.mono HB8.out.size))
    have HRw9 := Hd.mk (rw_strs o9)
    have HI9 := Hd.mk i9
    have HN9 : Hd (x9.length ≤ 101) := ⟨by have := o9.1; rw [strs_len] at this; omega⟩
    have HO4 := Hd.mk (HO2.out w9 HB9.out)
    clear b9 o9 hn9 i9 HO3 HO2 HB8
    go_wp2_with fail
    refine HO4.out.mono ?_
    rintro e w10 ⟨v10, n10, x10, rfl, o10, hn10, i10, b10⟩
    have HB10 := Hd.mk (HB9.out.trans (b10.mono HB9.out.size))
    have hz10 : x10.length ≤ 101 := by have := o10.1; rw [strs_len] at this; omega
    have hs10 := sames_any w10 v9 v10 x9 x10 (by have := HN9.out; omega) (by omega) (HRw9.out.below strE_stays b10) (rw_strs o10)
    rw [decide_eq_true (HI9.out.eq i10)] at hs10
    have HS10 := Hd.mk hs10
    clear b10 o10 hn10 i10 HO4 HRw9 HI9 HN9 hz10 hs10 HB9
    go_wp2_with fail
    refine HS10.out.mono ?_
    rintro e w11 ⟨rfl, b11⟩
    have HB11 := Hd.mk (HB10.out.trans (b11.mono HB10.out.size))
    clear HS10 b11 HB10
    go_wp2
    go_ret
    exact ⟨ret_b (by simp), HB11.out⟩

end Go.Proofs.Ytmgkoocpnakanaa.W

