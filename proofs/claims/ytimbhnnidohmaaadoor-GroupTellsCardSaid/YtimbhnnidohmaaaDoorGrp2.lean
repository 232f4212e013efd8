/-
  The walks of group.sections, group.alike.
-/
import Derived.Test.YtimbhnnidohmaaaDoorGrpP
namespace Go.Proofs.YtimbhnnidohmaaaDoor.W
open Go.RowKit
set_option linter.unusedVariables false

/-- a copy of a row of ints -/
theorem clone_any (w : World) (v : Value) (ks : List Int) (hl : ks.length ≤ 1000000) (hR : Rw 1 intE w v ks) :
    Calls Tryd.prog 31 #[v] w fun e w' => ∃ v', e = .returned v' ∧ Own w' w.heap.size 3 v' (intsV ks) ∧ Below w.heap.size w w' := by
  rcases hR.is with ⟨rfl, rfl | ⟨a, c, rfl⟩⟩ | ⟨g, o, cap, rfl, hg, hc⟩
  · exact (_root_.Go.Proofs.Tryd.slices_Clone_int_nil 0 0 w).mono fun e w' ⟨he, hw⟩ => ⟨_, he, Own.nil _ _ _, hw ▸ Below.refl _ _⟩
  · exact (_root_.Go.Proofs.Tryd.slices_Clone_int_zero a c w).mono fun e w' ⟨v', he, hO, _, hb⟩ => ⟨_, he, Own.of_row hO, hb⟩
  · refine (_root_.Go.Proofs.Tryd.slices_Clone_int g o ks.length cap ks w (Nat.le_refl _) (by omega) (fun j hj => ?_)).mono fun e w' ⟨v', he, hO, _, hb⟩ => ⟨_, he, ?_, hb⟩
    · obtain ⟨cs, _, rfl, h3⟩ := hc j _ (List.getElem?_eq_getElem hj)
      have := h3 0 _ rfl
      rw [Nat.mul_one, Nat.add_zero] at this
      rw [this]
      simp [List.getD_eq_getElem?_getD, hj]
    · rw [List.take_length] at hO
      exact Own.of_row hO

set_option maxHeartbeats 1000000 in
set_option maxRecDepth 100000 in
theorem gsections_any (w : World) (o : Ob) (x1 x2 x3 x4 x5 x6 x7 x8 x9 x10 : Value) (g : Grp) (gv : Value) (hA : o.At w x1 x2 x3 x4 x5 x6 x7 x8 x9 x10) (hG : g.At w gv) (hl : g.secs.length ≤ 1000000) :
    Calls Tryd.prog 16 #[.agg (o.cells x1 x2 x3 x4 x5 x6 x7 x8 x9 x10).toArray, .agg (g.cells gv).toArray] w fun e w' => ∃ v', e = .returned v' ∧ Own w' w.heap.size 3 v' (intsV (secsOf o g)) ∧ Below w.heap.size w w' := by
  have hcs : (o.cells x1 x2 x3 x4 x5 x6 x7 x8 x9 x10).toArray = #[.string o.name, x1, x2, x3, x4, x5, x6, x7, x8, x9, x10] := rfl
  have hgs : (g.cells gv).toArray = #[.string g.name, gv] := rfl
  rw [hcs, hgs]
  obtain ⟨p1, c1, rfl⟩ := hA.secs.slice
  obtain ⟨N, hN⟩ : ∃ N, o.secs.length = N := ⟨_, rfl⟩
  have HSec : Hd (secsOf o g = g.secs.filter (inB N)) := ⟨by rw [← hN]; rfl⟩
  rw [hN, HSec.out]
  obtain ⟨wb, hwb⟩ : ∃ wb, w.alloc (.cells #[.string o.name, .slice p1 N c1, x2, x3, x4, x5, x6, x7, x8, x9, x10] 43) = wb := ⟨_, rfl⟩
  have HBx : Hd (Blk wb w.heap.size 43 [.string o.name, .slice p1 N c1, x2, x3, x4, x5, x6, x7, x8, x9, x10]) := ⟨hwb ▸ Blk.new w 43 _⟩
  have hsz : wb.heap.size = w.heap.size + 1 := by rw [← hwb]; simp
  obtain ⟨wc, hwc⟩ : ∃ wc, wb.alloc (.cells #[.string g.name, gv] 47) = wc := ⟨_, rfl⟩
  have HBx2 : Hd (Blk wc w.heap.size 43 [.string o.name, .slice p1 N c1, x2, x3, x4, x5, x6, x7, x8, x9, x10]) := ⟨hwc ▸ HBx.out.alloc _⟩
  have HBg : Hd (Blk wc wb.heap.size 47 [.string g.name, gv]) := ⟨hwc ▸ Blk.new wb 47 _⟩
  have HWc : Hd (Below w.heap.size w wc) := ⟨by rw [← hwc, ← hwb]; go_grown⟩
  have hszc : wc.heap.size = w.heap.size + 2 := by rw [← hwc]; simp [hsz]
  have HCl := Hd.mk (clone_any wc gv g.secs hl (hG.secs.below intE_stays HWc.out))
  obtain ⟨hx, hhx⟩ : ∃ hx, w.heap.size = hx := ⟨_, rfl⟩
  have HSz := Hd.mk (And.intro hsz hszc)
  rw [hhx] at HBx2 HSz HWc
  rw [hhx]
  obtain ⟨gx, hgx⟩ : ∃ gx, wb.heap.size = gx := ⟨_, rfl⟩
  rw [hgx] at HBg HSz
  have g1 := HBg.out.at (j := 1) rfl
  have HL := Hd.mk hl
  clear hA hG hcs hgs hN hl HBx hsz hszc
  go_enter Tryd.func16, Tryd.ntmps16
  go_wp2_with fail
  refine HCl.out.mono ?_
  rintro e w1 ⟨v1, rfl, hO, hb1⟩
  have HB1 : Hd (Below hx w w1) := ⟨HWc.out.trans (hb1.mono (by rw [HSz.out.2]; omega))⟩
  have hbx := (HBx2.out.below hb1 HBx2.out.lt).at (j := 1) rfl
  have HD := Hd.mk (gdel_any w1 wc.heap.size v1 g.secs hx p1 N c1 (by have := HL.out; omega) hO hbx (fun e => by have := (hO.lt e).1; rw [HSz.out.2] at this; omega))
  have HO1 := Hd.mk hO
  clear hO hb1 g1 hbx
  go_wp2_with fail
  refine HD.out.mono ?_
  rintro e w2 ⟨v2, rfl, hO2, hk2⟩
  have HB2 : Hd (Below hx w w2) := ⟨HB1.out.trans (hk2.below (hhx ▸ HB1.out.size) (fun k hk h => by have := (HO1.out.lt h).1; rw [HSz.out.2] at this; omega))⟩
  have HO2 : Hd (Own w2 hx 3 v2 (intsV (g.secs.filter (inB N)))) := ⟨hO2.down (by rw [HSz.out.2]; omega)⟩
  clear hO2 hk2
  go_wp2
  go_ret
  exact ⟨_, rfl, HO2.out, HB2.out⟩

/-- rows of strings compared -/
theorem equalS_any (w : World) (v u : Value) (xs ys : List ByteArray) (hx : xs.length ≤ 1000000) (hy : ys.length ≤ 1000000) (hX : Rw 1 strE w v xs) (hY : Rw 1 strE w u ys) :
    Calls Tryd.prog 33 #[v, u] w fun e w' => e = .returned (.bool (decide (xs = ys))) ∧ Below w.heap.size w w' := by
  have hcell : ∀ {v : Value} {xs : List ByteArray} {g o cap : Nat}, (∀ (j : Nat) x, xs[j]? = some x → ∃ cs, cs.length = 1 ∧ strE w cs x ∧ ∀ (i : Nat) u, cs[i]? = some u → w.cell? ⟨g, o + j * 1 + i, none⟩ = some u) → ∀ j, j < xs.length → w.cell? ⟨g, o + j, none⟩ = some (.string (xs.getD j ByteArray.empty)) := by
    intro v xs g o cap hc j hj
    obtain ⟨cs, _, rfl, h3⟩ := hc j _ (List.getElem?_eq_getElem hj)
    have := h3 0 _ rfl
    rw [Nat.mul_one, Nat.add_zero] at this
    rw [this]
    simp [List.getD_eq_getElem?_getD, hj]
  by_cases hlen : xs.length = ys.length
  · rcases hX.is with ⟨rfl, h0⟩ | ⟨g, o, cap, rfl, hg, hc⟩
    · obtain ⟨p, c, rfl⟩ := hY.slice
      have hys : ys = [] := List.eq_nil_of_length_eq_zero hlen.symm
      subst hys
      rcases h0 with rfl | ⟨a, c', rfl⟩
      all_goals exact (_root_.Go.Proofs.Tryd.slices_Equal_string_empty _ p _ 0 c w (by decide)).mono fun e w' ⟨he, hw⟩ => ⟨by rw [he]; simp, hw ▸ Below.refl _ _⟩
    · rcases hY.is with ⟨rfl, h0⟩ | ⟨g2, o2, cap2, rfl, hg2, hc2⟩
      · have hxs : xs = [] := List.eq_nil_of_length_eq_zero hlen
        subst hxs
        rcases h0 with rfl | ⟨a, c', rfl⟩
        all_goals exact (_root_.Go.Proofs.Tryd.slices_Equal_string_empty _ _ _ 0 _ w (by decide)).mono fun e w' ⟨he, hw⟩ => ⟨by rw [he]; simp, hw ▸ Below.refl _ _⟩
      · refine (_root_.Go.Proofs.Tryd.slices_Equal_string g o xs.length cap g2 o2 ys.length cap2 xs ys w (Nat.le_refl _) (Nat.le_refl _) (by omega) (by omega) (hcell (v := .slice none 0 0) (cap := 0) hc) (hcell (v := .slice none 0 0) (cap := 0) hc2)).mono fun e w' ⟨he, q, hw⟩ => ⟨?_, ?_⟩
        · rw [he, List.take_length, List.take_length]
        · rw [hw]; exact ⟨rfl, rfl, rfl, Nat.le_refl _, fun _ _ => rfl⟩
  · obtain ⟨p, c, rfl⟩ := hX.slice
    obtain ⟨p2, c2, rfl⟩ := hY.slice
    have hne : decide (xs = ys) = false := decide_eq_false (fun e => hlen (by rw [e]))
    rw [hne]
    exact (_root_.Go.Proofs.Tryd.slices_Equal_string_lens p p2 xs.length c ys.length c2 w hlen).mono fun e w' ⟨he, hw⟩ => ⟨he, hw ▸ Below.refl _ _⟩

def strsV (l : List ByteArray) : List Value := l.map fun s => .string s
theorem strsV_len (l : List ByteArray) : (strsV l).length = l.length := by simp [strsV]
theorem strsV_snoc (l : List ByteArray) (s : ByteArray) : strsV l ++ [.string s] = strsV (l ++ [s]) := by simp [strsV]
theorem Rw.of_own_strs {w : World} {B : Nat} {v : Value} {l : List ByteArray} (h : Own w B 9 v (strsV l)) : Rw 1 strE w v l :=
  Rw.of_own h (strsV_len l) (fun j x u hx hu => by rw [strsV, List.getElem?_map, hx] at hu; cases hu; rfl)
theorem Own.typ {w : World} {B g : Nat} {e : TypeId} {v : Value} {xs : List Value} (h : Own w B e v xs) (hg : v.ownBlock = some g) : ∃ cur fz, w.heap[g]? = some (.cells cur e fz) := by
  rcases h.is with ⟨rfl, _⟩ | ⟨g', cap, rfl, _, _, _, ⟨cur, fz, hb, _⟩, _⟩
  · cases hg
  · have : g' = g := by simpa [Value.ownBlock] using hg
    subst this; exact ⟨cur, fz, hb⟩
theorem typ_ne {w : World} {g g' : Nat} {c c' : Array Value} {e e' : TypeId} {f f' : Nat × Nat} (h : w.heap[g]? = some (.cells c e f)) (h' : w.heap[g']? = some (.cells c' e' f')) (hne : e ≠ e') : g ≠ g' := fun x => by
  subst x; rw [h] at h'; injection h' with h'; injection h' with _ h' _; exact hne h'

/-- what a copy is in memory -/
structure CpAt (w : World) (v : Value) (c : Cp) : Prop where
  is : ∃ nv fv, v = .agg #[.int .i64 c.obj, nv, fv] ∧ Own w 0 9 nv (strsV c.names) ∧ Own w 0 9 fv (strsV c.forms)
  nl : c.names.length ≤ 1000000
  fl : c.forms.length ≤ 1000000
theorem CpAt.keeps {S : Nat → Prop} {w w' : World} {v : Value} {c : Cp} (h : CpAt w v c) (k : Keeps S w w') (hs : ∀ g cur fz, w.heap[g]? = some (.cells cur 9 fz) → ¬ S g) : CpAt w' v c := by
  obtain ⟨nv, fv, e, h1, h2⟩ := h.is
  exact ⟨⟨nv, fv, e, h1.keeps k (fun g hg => by obtain ⟨c, f, hb⟩ := h1.typ hg; exact hs g c f hb), h2.keeps k (fun g hg => by obtain ⟨c, f, hb⟩ := h2.typ hg; exact hs g c f hb)⟩, h.nl, h.fl⟩
theorem CpAt.below {w w' : World} {v : Value} {c : Cp} (h : CpAt w v c) (hb : Below w.heap.size w w') : CpAt w' v c := h.keeps (below_keeps hb) (fun _ _ _ _ h => h)

set_option maxHeartbeats 1000000 in
set_option maxRecDepth 100000 in
theorem galike_any (w : World) (v u : Value) (a b : Cp) (ha : CpAt w v a) (hb : CpAt w u b) :
    Calls Tryd.prog 18 #[v, u] w fun e w' => e = .returned (.bool (alikeB a b)) ∧ Below w.heap.size w w' := by
  obtain ⟨n1, f1, rfl, on1, of1⟩ := ha.is
  obtain ⟨n2, f2, rfl, on2, of2⟩ := hb.is
  have hn1 := Rw.of_own_strs on1
  have hf1 := Rw.of_own_strs of1
  have hn2 := Rw.of_own_strs on2
  have hf2 := Rw.of_own_strs of2
  clear on1 of1 on2 of2
  obtain ⟨w2, hw2⟩ : ∃ w2, (w.alloc (.cells #[.int .i64 a.obj, n1, f1] 59)).alloc (.cells #[.int .i64 b.obj, n2, f2] 59) = w2 := ⟨_, rfl⟩
  have HW2 : Hd (Below w.heap.size w w2) := ⟨by rw [← hw2]; go_grown⟩
  have B1 : Hd (Blk w2 w.heap.size 59 [.int .i64 a.obj, n1, f1]) := ⟨hw2 ▸ (Blk.new w 59 [.int .i64 a.obj, n1, f1]).alloc _⟩
  have B2 : Hd (Blk w2 (w.heap.size + 1) 59 [.int .i64 b.obj, n2, f2]) := ⟨by
    have := Blk.new (w.alloc (.cells #[.int .i64 a.obj, n1, f1] 59)) 59 [.int .i64 b.obj, n2, f2]
    rw [← hw2]
    simpa using this⟩
  obtain ⟨hx, hhx⟩ : ∃ hx, w.heap.size = hx := ⟨_, rfl⟩
  rw [hhx] at B1 B2
  have c1 := B1.out.at (j := 1) rfl
  have c3 := B2.out.at (j := 1) rfl
  have HE1 := Hd.mk (equalS_any w2 n1 n2 a.names b.names ha.nl hb.nl (hn1.below strE_stays HW2.out) (hn2.below strE_stays HW2.out))
  have HE2 := Hd.mk (fun w' (h : Below w.heap.size w w') => equalS_any w' f1 f2 a.forms b.forms ha.fl hb.fl (hf1.below strE_stays h) (hf2.below strE_stays h))
  clear ha hb hn1 hf1 hn2 hf2
  unfold alikeB
  rcases he : decide (a.names = b.names) with _ | _
  · rw [he] at HE1
    clear he HE2
    go_enter Tryd.func18, Tryd.ntmps18
    go_wp2_with fail
    refine HE1.out.mono ?_
    rintro e w3 ⟨rfl, hb3⟩
    have HB3 : Hd (Below w.heap.size w w3) := ⟨below_next HW2.out hb3⟩
    clear hb3 c1 c3
    go_wp2
    go_ret
    exact ⟨rfl, HB3.out⟩
  · rw [he] at HE1
    obtain ⟨r, hr⟩ : ∃ r, decide (a.forms = b.forms) = r := ⟨_, rfl⟩
    rw [hr] at HE2
    rw [hr]
    clear he hr
    go_enter Tryd.func18, Tryd.ntmps18
    go_wp2_with fail
    refine HE1.out.mono ?_
    rintro e w3 ⟨rfl, hb3⟩
    have HB3 : Hd (Below w.heap.size w w3) := ⟨below_next HW2.out hb3⟩
    have c2 := (B1.out.below hb3 B1.out.lt).at (j := 2) rfl
    have c4 := (B2.out.below hb3 B2.out.lt).at (j := 2) rfl
    clear hb3 c1 c3
    go_wp2_with fail
    refine (HE2.out _ HB3.out).mono ?_
    rintro e w4 ⟨rfl, hb4⟩
    have HB4 : Hd (Below w.heap.size w w4) := ⟨below_next HB3.out hb4⟩
    clear hb4 c2 c4
    go_wp2
    go_ret
    exact ⟨by simp, HB4.out⟩

end Go.Proofs.YtimbhnnidohmaaaDoor.W
