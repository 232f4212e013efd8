/-
  The walk of JournalLists.
-/
import Derived.Test.YtmcdfhihfcfbaaaJFw
import Derived.Test.YtmcdfhihfcfbaaaJSm
import Derived.Test.YtmcdfhihfcfbaaaJCp
import Derived.Test.YtmcdfhihfcfbaaaAppF
namespace Go.Proofs.Ytmcdfhihfcfbaaa.W
open Go.RowKit
set_option linter.unusedVariables false

/-- the law's own rows: its row, the box of the call -/
def lsX (v : Value) (b : Option Nat) : Nat → Prop := fun g => v.ownBlock = some g ∨ b = some g

/-- what holds at the loop's head -/
structure LsI (wa w : World) (D L : Nat) (σ : St) (l : Lg) (v : Value) (k : Nat) : Prop where
  jw : JW wa w D L σ l (lsX v none)
  own : Own w wa.heap.size 9 v (l.rows.map Value.string)
  calm : Calm σ
  fit : FitQ σ (k * 2000)
  f : l.f = 0
  e : endL l.rows ≤ 16 + (k + 1) * 1300

theorem own_heap {w : World} {B : Nat} {e : TypeId} {v : Value} {xs : List Value} (h : Own w B e v xs) {g : Nat} (hg : v.ownBlock = some g) : ∃ cur fz, w.heap[g]? = some (.cells cur e fz) := by
  rcases h.is with ⟨rfl, _⟩ | ⟨g', cap, rfl, _, _, _, ⟨cur, fz, hg', _⟩, _⟩
  · cases hg
  · have : g' = g := by simpa [Value.ownBlock] using hg
    subst this
    exact ⟨_, _, hg'⟩

/-- .. behind the call in a round -/
structure LsM (wa w : World) (D L : Nat) (σ : St) (l : Lg) (v : Value) (k : Nat) (b : Nat) : Prop where
  jw : JW wa w D L σ l (lsX v (some b))
  own : Own w wa.heap.size 9 v (l.rows.map Value.string)
  calm : Calm σ
  fit : FitQ σ ((k + 1) * 2000)
  f : l.f = 0
  e : endL l.rows ≤ 16 + (k + 2) * 1300

section
variable {wa w w' : World} {D L : Nat} {σ : St} {l : Lg} {v : Value} {k : Nat}

theorem LsI.box (h : LsI wa w D L σ l v k) (cs : List Value) : JW wa (w.alloc (.cells cs.toArray 34)) D L σ l (lsX v (some w.heap.size)) ∧ Own (w.alloc (.cells cs.toArray 34)) wa.heap.size 9 v (l.rows.map Value.string) := by
  refine ⟨(h.jw.alloc _).setX (fun g hg => ?_), h.own.alloc _⟩
  rcases hg with hg | hg
  · exact .inl (.inl hg)
  · injection hg with hg
    subst hg
    exact .inr ⟨_, _, _, (Blk.new w 34 cs).is, by decide, by decide, by decide, by decide⟩

/-- the law's own row and box stand behind an operation on the log -/
theorem ls_after {b : Nat} {σ' : St} {l' : Lg} {xs : List Value} (hO : Own w wa.heap.size 9 v xs) (h : JAfter wa w w' D L σ' l' (lsX v (some b))) : Own w' wa.heap.size 9 v xs :=
  hO.keeps h.keeps (fun g hg e => e.2 (.inl hg))
theorem ls_box {b : Nat} {σ' : St} {l' : Lg} {T : TypeId} {cs : List Value} (hb : Blk w b T cs) (h : JAfter wa w w' D L σ' l' (lsX v (some b))) : Blk w' b T cs :=
  h.keeps.blk hb (fun e => e.2 (.inr rfl))

theorem LsM.next {b : Nat} (h : LsM wa w D L σ l v k b) (hb : Below w.heap.size w w') : LsI wa w' D L σ l v (k + 1) :=
  ⟨(h.jw.of_below hb).setX (fun g hg => .inl (hg.imp_right (fun h => by cases h))), h.own.keeps (Keeps.of_below hb (fun k h1 h2 => absurd h1 (Nat.not_lt.2 h2)) : Keeps (fun _ => False) w w') (fun _ _ h => h), h.calm, h.fit, h.f, h.e⟩

theorem LsI.of_below (h : LsI wa w D L σ l v k) (hb : Below w.heap.size w w') : LsI wa w' D L σ l v k :=
  ⟨h.jw.of_below hb, h.own.keeps (Keeps.of_below hb (fun k h1 h2 => absurd h1 (Nat.not_lt.2 h2)) : Keeps (fun _ => False) w w') (fun _ _ h => h), h.calm, h.fit, h.f, h.e⟩
/-- a row of strings to be appended -/
theorem rows_src {w : World} {p : Option Addr} {m c : Nat} {xs : List ByteArray} (h : Rw 1 strE w (.slice p m c) xs) (hm : xs.length = m) : (p = none ∧ m = 0) ∨ ∃ a, p = some a ∧ ∀ j u, (xs.map Value.string)[j]? = some u → w.cell? (a.add j) = some u := by
  rcases h.is with ⟨rfl, h0 | ⟨a, c', h0⟩⟩ | ⟨g, o, cap, e, hg, hc⟩
  · injection h0 with e1 e2 _; exact .inl ⟨e1, e2⟩
  · injection h0 with e1 e2 _; exact .inr ⟨a, e1, fun j u hj => by simp at hj⟩
  · injection e with e1 e2 _
    refine .inr ⟨_, e1, fun j u hj => ?_⟩
    rw [List.getElem?_map, Option.map_eq_some_iff] at hj
    obtain ⟨x, hx, rfl⟩ := hj
    obtain ⟨cs, _, he, h3⟩ := hc j x hx
    have he : cs = [.string x] := he
    subst he
    have := h3 0 _ rfl
    rwa [Nat.mul_one, Nat.add_zero, ← add_none] at this
/-- .. comes anew -/
theorem ls_fresh {b : Nat} {σ : St} {l : Lg} {v' : Value} {xs ys : List Value} (h : JW wa w D L σ l (lsX v (some b))) (hO : Own w wa.heap.size 9 v xs) (hO' : Own w' w.heap.size 9 v' ys) (k : Keeps (fun _ => False) w w') (hb : ∃ cs, Blk w b 34 cs) : JW wa w' D L σ l (lsX v' (some b)) := by
  refine h.grow k (fun g hg => hg.elim) (fun g hg => hg.elim) (fun g hg => ?_)
  rcases hg with hg | hg
  · obtain ⟨cur, fz, h1⟩ := own_heap hO' hg
    exact ⟨.inr (hO'.lt hg).1, cur, _, fz, h1, by decide, by decide, by decide⟩
  · injection hg with hg
    subst hg
    obtain ⟨cs, hb⟩ := hb
    exact ⟨.inl (.inr rfl), _, _, _, (k.blk hb (fun e => e)).is, by decide, by decide, by decide⟩

/-- the law's own row grows, in place or anew -/
theorem ls_grow {b : Nat} {σ : St} {l : Lg} {v' : Value} {xs ys : List Value} (h : JW wa w D L σ l (lsX v (some b))) (hO : Own w wa.heap.size 9 v xs) (hO' : Own w' wa.heap.size 9 v' ys) (k : Keeps (fun g => v.ownBlock = some g) w w') (hv : v'.ownBlock = v.ownBlock ∨ ∃ g, w.heap.size ≤ g ∧ v'.ownBlock = some g) (hb : ∃ cs, Blk w b 34 cs) : JW wa w' D L σ l (lsX v' (some b)) := by
  have hbne : ∀ g, v.ownBlock = some g → g ≠ b := fun g hg e => by
    obtain ⟨cs, hb⟩ := hb
    obtain ⟨cur, fz, h1⟩ := own_heap hO hg
    rw [e, hb.is] at h1
    injection h1 with h1; injection h1 with _ h1 _; exact absurd h1 (by decide)
  refine h.grow k (fun g hg => ⟨.inl hg, (hO.lt hg).1⟩) (fun g hg => ?_) (fun g hg => ?_)
  · obtain ⟨cur, fz, h1⟩ := own_heap hO hg
    exact ⟨cur, _, fz, h1, by decide⟩
  · rcases hg with hg | hg
    · obtain ⟨cur, fz, h1⟩ := own_heap hO' hg
      refine ⟨?_, cur, _, fz, h1, by decide, by decide, by decide⟩
      rcases hv with h2 | ⟨g', h2, h3⟩
      · exact .inl (.inl (h2 ▸ hg))
      · rw [h3] at hg; injection hg with hg; exact .inr (hg ▸ h2)
    · injection hg with hg
      subst hg
      obtain ⟨cs, hb⟩ := hb
      exact ⟨.inl (.inr rfl), _, _, _, (k.blk hb (fun e => hbne _ e rfl)).is, by decide, by decide, by decide⟩
end

set_option maxRecDepth 100000 in
set_option maxHeartbeats 8000000 in
theorem lists_any (W : World) (vd : Value) (ds : List Dd) (hv : ArgDeeds W vd ds) :
    Calls Try.prog 3 #[vd] W fun e w' => e = .returned (.bool true) ∧ Below W.heap.size W w' := by
  obtain ⟨i0, hi, hz0, hz1, hz2⟩ := info_parts infoStr
  have HI : Hd (_ ∧ _ ∧ _ ∧ _) := ⟨⟨hi, hz0, hz1, hz2⟩⟩
  clear hi hz0 hz1 hz2
  obtain ⟨pv, cv, rfl⟩ := hv.row.slice
  obtain ⟨n, hn⟩ : ∃ n, ds.length = n := ⟨_, rfl⟩
  have HV : Hd (Rw 5 ddE W (.slice pv n cv) ds) := ⟨hn ▸ hv.row⟩
  have HFw := Hd.mk (fun w (hb : Below W.heap.size W w) => few_any w (.slice pv n cv) ds hv.len hv.ok (HV.out.below ddE_stays hb))
  have HOK := Hd.mk hv.ok
  have HN := Hd.mk hn
  rw [hn]
  clear hv hn
  go_enter Try.func3, Try.ntmps3
  go_wp2_with fail
  refine (small_any W).mono ?_; rintro e wa ⟨rfl, hb0⟩
  have B0 := Hd.mk hb0; clear hb0
  go_wp2_with fail
  refine (HFw.out wa B0.out).mono ?_; rintro e wx ⟨rfl, rfl⟩
  rcases hF : fewB ds with _ | _
  · clear hF
    go_wp2
    go_ret
    exact ⟨rfl, B0.out⟩
  · have HFP := Hd.mk (few_parts hF)
    clear hF
    have hn30 : n ≤ 30 := by have := HFP.out.len; have := HN.out; omega
    go_wp2_with fail
    refine (One.new wa).mono ?_; rintro e w0 ⟨D, rfl, h0⟩
    have H0 := Hd.mk h0; clear h0
    go_wp2_with fail
    refine (H0.out.openYes (X := lsX (.slice none 0 0) none) 0 [] (by kernel_rfl) (fun g h => by rcases h with h | h <;> cases h)).mono ?_; rintro e w1 ⟨L, rfl, h1, _, _⟩
    have HI1 : Hd (LsI wa w1 D L newS ⟨0, [], 0⟩ (.slice none 0 0) 0) := ⟨⟨h1, Own.nil _ _ _, Calm.new, FitQ.new, rfl, by decide⟩⟩
    clear h1 H0
    go_wp2_with fail
    go_loopw [6, 7, 8, 9] (fun _ v7 s i wr => ∃ k σ l, k ≤ n ∧ i = .int .i64 (k : Nat) ∧ s = .int .i64 (l.sure : Nat) ∧ LsI wa wr D L σ l v7 k) (fun _ _ _ i _ => n - (intOf i).toNat)
    case atStart => exact ⟨0, newS, ⟨0, [], 0⟩, Nat.zero_le _, rfl, rfl, HI1.out⟩
    case round =>
      obtain ⟨k, σ, l, hk, rfl, rfl, hI⟩ := hrel
      have HL := Hd.mk hI
      clear hI HI1
      by_cases hlt : k < n
      · have hd1 : decide ((k : Int) < (n : Int)) = true := by simp; omega
        have hkl : k < ds.length := HN.out ▸ hlt
        have hbW : Below W.heap.size W wr := Below.chain B0.out HL.out.jw.below
        obtain ⟨g, o, cs, rfl, hg, hcl, he, hc⟩ := HV.out.at rfl hkl
        clear hcl
        obtain ⟨rv, kv, rfl, hrv, hkv⟩ := he
        have hmem : ds[k] ∈ ds := List.getElem_mem hkl
        have f1 := HFP.out.row _ hmem
        have f2 := HFP.out.rows _ hmem
        have f3 := HFP.out.each _ hmem
        obtain ⟨x, hx⟩ : ∃ x, ds[k] = x := ⟨_, rfl⟩
        rw [hx] at hrv hkv hc f1 f2 f3
        obtain ⟨pr, cr, rfl⟩ := hrv.slice
        obtain ⟨pk, ck, rfl⟩ := hkv.slice
        have hc' : ∀ i u, (ddCells x (.slice pr x.rows.length cr) (.slice pk x.keep.length ck))[i]? = some u → wr.cell? ⟨g, o + k * 5 + i, none⟩ = some u := fun i u h => by
          rw [hbW.cell (p := ⟨g, o + k * 5 + i, none⟩) hg]; exact hc i u h
        have c0 : wr.cell? ⟨g, o + k * 5, none⟩ = some (.int .i64 x.d) := hc' 0 _ rfl
        have c1 : wr.cell? ⟨g, o + k * 5 + 1, none⟩ = some (.string x.row) := hc' 1 _ rfl
        have c2 : wr.cell? ⟨g, o + k * 5 + 2, none⟩ = some (.slice pr x.rows.length cr) := hc' 2 _ rfl
        have c3 : wr.cell? ⟨g, o + k * 5 + 3, none⟩ = some (.slice pk x.keep.length ck) := hc' 3 _ rfl
        have c4 : wr.cell? ⟨g, o + k * 5 + 4, none⟩ = some (.int .i64 x.n) := hc' 4 _ rfl
        have hand := i64_and_7 x.d
        obtain ⟨t, ht⟩ : ∃ t, x.d % 8 = t := ⟨_, rfl⟩
        have ht8 : 0 ≤ t ∧ t < 8 := by omega
        rw [ht] at hand
        have hfm := forms_le x.rows 200 f3
        have HNe : Hd (∀ a, pr = some a → x.rows ≠ [] → a.block < wa.heap.size) := ⟨fun a ha h0 => Nat.lt_of_lt_of_le (hrv.blkLt (by rw [ha]) h0) B0.out.size⟩
        have HRv : Hd (∀ w', Below W.heap.size W w' → Rw 1 strE w' (.slice pr x.rows.length cr) x.rows) := ⟨fun w' hb => hrv.below strE_stays hb⟩
        obtain ⟨nr, hnr⟩ : ∃ nr, x.rows.length = nr := ⟨_, rfl⟩
        have HNR := Hd.mk hnr
        rw [hnr] at c2 HRv f2 hfm
        have HFm : Hd ((formsL x.rows).length ≤ 1248) := ⟨Nat.le_trans hfm (by omega)⟩
        have HRow := Hd.mk f1
        have HF2 := Hd.mk f2
        -- the box
        obtain ⟨w2, hw2⟩ : ∃ w2, wr.alloc (.cells #[.int .i64 x.d, .string x.row, .slice pr nr cr, .slice pk x.keep.length ck, .int .i64 x.n] 34) = w2 := ⟨_, rfl⟩
        obtain ⟨b, hb⟩ : ∃ b, wr.heap.size = b := ⟨_, rfl⟩
        have hbox := HL.out.box [.int .i64 x.d, .string x.row, .slice pr nr cr, .slice pk x.keep.length ck, .int .i64 x.n]
        have hbb : Blk w2 b 34 [.int .i64 x.d, .string x.row, .slice pr nr cr, .slice pk x.keep.length ck, .int .i64 x.n] := by
          rw [← hb, ← hw2]; exact Blk.new wr 34 _
        rw [hb] at hbox
        have HJ : Hd (JW wa w2 D L σ l (lsX u7 (some b))) := ⟨hw2 ▸ hbox.1⟩
        have HO : Hd (Own w2 wa.heap.size 9 u7 (l.rows.map Value.string)) := ⟨hw2 ▸ hbox.2⟩
        have HBB := Hd.mk hbb
        have b0 : w2.cell? ⟨b, 0, none⟩ = some (.int .i64 x.d) := hbb.at (j := 0) rfl
        have b1 : w2.cell? ⟨b, 1, none⟩ = some (.string x.row) := hbb.at (j := 1) rfl
        have b2 : w2.cell? ⟨b, 2, none⟩ = some (.slice pr nr cr) := hbb.at (j := 2) rfl
        obtain ⟨p7, c7, hv7⟩ := HO.out.slice'
        rw [List.length_map] at hv7
        subst hv7
        have hq : k * 2000 ≤ 800000000 := by omega
        have HC := Hd.mk HL.out.calm
        have HFt := Hd.mk HL.out.fit
        have hl0 := HL.out.f
        have HLe := Hd.mk HL.out.e
        have HLs : Hd (l.rows.length ≤ 100000) := ⟨by have := len_le_forms l.rows; have := HL.out.e; unfold endL at this; omega⟩
        have HF6 : Hd (l.f ≤ 6) := ⟨by rw [hl0]; decide⟩
        have HF0 := Hd.mk hl0
        obtain ⟨nl, hnl⟩ : ∃ nl, l.rows.length = nl := ⟨_, rfl⟩
        have HNL := Hd.mk hnl
        rw [hnl] at HJ HO HLs
        obtain ⟨sl, hsl⟩ : ∃ sl, l.sure = sl := ⟨_, rfl⟩
        clear hbW hrv hkv hc hc' hmem f1 f2 f3 ht hfm hbox hbb hnr hx hkl hl0 HL
        rcases (by omega : t = 3 ∨ t = 4 ∨ t = 5 ∨ t = 6 ∨ t = 7 ∨ t = 0 ∨ t = 1 ∨ t = 2) with rfl | rfl | rfl | rfl | rfl | rfl | rfl | rfl
        · have hcf := calm_flu HC.out l HF6.out
          have HM : Hd (∀ w', JAfter wa w2 w' D L (fluP σ l).2 (fluL σ l) (lsX (.slice p7 nl c7) (some b)) → LsM wa w' D L (fluP σ l).2 { l with sure := l.rows.length } (.slice p7 nl c7) k b) := ⟨fun w' h => by
            have e : fluL σ l = { l with sure := l.rows.length } := by unfold fluL; rw [hcf.1]; rfl
            rw [e] at h
            exact ⟨h.jw, ls_after HO.out h, hcf.2, (HFt.out.flu l).mono (by omega), HF0.out, by show endL l.rows ≤ _; have := HLe.out; omega⟩⟩
          have HOp := Hd.mk ((jFlush_op w2 L D l σ (k * 2000) HFt.out (by omega)).to rfl rfl (congrArg (fun x : Nat => Value.int .i64 (x : Int)) hcf.1))
          clear hcf
          go_wp2_with fail
          refine (HJ.out.run HOp.out).mono ?_
          rintro e w3 ⟨rfl, h3⟩
          have h3' := HM.out w3 h3
          clear h3 HM HOp HJ HO
          obtain ⟨σx, hσx⟩ : ∃ σx, (fluP σ l).2 = σx := ⟨_, rfl⟩
          obtain ⟨lx, hlx⟩ : ∃ lx : Lg, { l with sure := l.rows.length } = lx := ⟨_, rfl⟩
          have HXL : Hd (lx.rows.length = nl) := ⟨by rw [← hlx]; exact HNL.out⟩
          have HXS : Hd (lx.sure = nl) := ⟨by rw [← hlx]; exact HNL.out⟩
          have HXM : Hd (nl ≤ 100000) := HLs
          rw [hσx, hlx] at h3'
          have H3 := Hd.mk h3'
          clear h3' hσx hlx
          go_wp2_with fail
          refine (H3.out.jw.all).mono ?_
          rintro e w4 ⟨v4, rfl, hO4, hj4, hb4⟩
          obtain ⟨p4, c4', hv4⟩ := hO4.slice'
          have HO4 := Hd.mk (Rw.of_str (xs := lx.rows) hO4)
          have H4 := Hd.mk (LsM.next H3.out hb4)
          have HR4 := Hd.mk (Rw.of_str (xs := lx.rows) H4.out.own)
          rw [List.length_map, HXL.out] at hv4
          subst hv4
          clear hO4 hj4 hb4 H3
          go_wp2_with fail
          refine (same_yes w4 _ _ lx.rows (by rw [HXL.out]; have := HXM.out; omega) HO4.out HR4.out).mono ?_
          rintro e w5 ⟨rfl, hb5⟩
          have H5 := Hd.mk (H4.out.of_below hb5)
          have HSu := Hd.mk (H5.out.jw.sureOf)
          rw [HXS.out] at HSu
          clear hb5 H4 HO4 HR4
          go_wp2_with fail
          refine HSu.out.mono ?_
          rintro e w6 ⟨rfl, rfl⟩
          clear HSu
          go_wp2
          go_roundw
          case rel => exact ⟨k + 1, σx, lx, hlt, by go_num, by rw [HXS.out], H5.out⟩
          case measure => simp [intOf]; omega
        · have hcf := calm_flu HC.out l HF6.out
          have HM : Hd (∀ w', JAfter wa w2 w' D L (fluP σ l).2 (fluL σ l) (lsX (.slice p7 nl c7) (some b)) → LsM wa w' D L (fluP σ l).2 { l with sure := l.rows.length } (.slice p7 nl c7) k b) := ⟨fun w' h => by
            have e : fluL σ l = { l with sure := l.rows.length } := by unfold fluL; rw [hcf.1]; rfl
            rw [e] at h
            exact ⟨h.jw, ls_after HO.out h, hcf.2, (HFt.out.flu l).mono (by omega), HF0.out, by show endL l.rows ≤ _; have := HLe.out; omega⟩⟩
          have HOp := Hd.mk ((jFlush_op w2 L D l σ (k * 2000) HFt.out (by omega)).to rfl rfl (congrArg (fun x : Nat => Value.int .i64 (x : Int)) hcf.1))
          clear hcf
          go_wp2_with fail
          refine (HJ.out.run HOp.out).mono ?_
          rintro e w3 ⟨rfl, h3⟩
          have h3' := HM.out w3 h3
          clear h3 HM HOp HJ HO
          obtain ⟨σx, hσx⟩ : ∃ σx, (fluP σ l).2 = σx := ⟨_, rfl⟩
          obtain ⟨lx, hlx⟩ : ∃ lx : Lg, { l with sure := l.rows.length } = lx := ⟨_, rfl⟩
          have HXL : Hd (lx.rows.length = nl) := ⟨by rw [← hlx]; exact HNL.out⟩
          have HXS : Hd (lx.sure = nl) := ⟨by rw [← hlx]; exact HNL.out⟩
          have HXM : Hd (nl ≤ 100000) := HLs
          rw [hσx, hlx] at h3'
          have H3 := Hd.mk h3'
          clear h3' hσx hlx
          go_wp2_with fail
          refine (H3.out.jw.all).mono ?_
          rintro e w4 ⟨v4, rfl, hO4, hj4, hb4⟩
          obtain ⟨p4, c4', hv4⟩ := hO4.slice'
          have HO4 := Hd.mk (Rw.of_str (xs := lx.rows) hO4)
          have H4 := Hd.mk (LsM.next H3.out hb4)
          have HR4 := Hd.mk (Rw.of_str (xs := lx.rows) H4.out.own)
          rw [List.length_map, HXL.out] at hv4
          subst hv4
          clear hO4 hj4 hb4 H3
          go_wp2_with fail
          refine (same_yes w4 _ _ lx.rows (by rw [HXL.out]; have := HXM.out; omega) HO4.out HR4.out).mono ?_
          rintro e w5 ⟨rfl, hb5⟩
          have H5 := Hd.mk (H4.out.of_below hb5)
          have HSu := Hd.mk (H5.out.jw.sureOf)
          rw [HXS.out] at HSu
          clear hb5 H4 HO4 HR4
          go_wp2_with fail
          refine HSu.out.mono ?_
          rintro e w6 ⟨rfl, rfl⟩
          clear HSu
          go_wp2
          go_roundw
          case rel => exact ⟨k + 1, σx, lx, hlt, by go_num, by rw [HXS.out], H5.out⟩
          case measure => simp [intOf]; omega
        · have hcr := calm_rew HC.out l.f x.rows HF6.out (by unfold endL; have := HFm.out; omega)
          have HM : Hd (∀ w', JAfter wa w2 w' D L (rewP σ l.f x.rows).2 (rewL σ l x.rows) (lsX (.slice p7 nl c7) (some b)) → JW wa w' D L (rewP σ l.f x.rows).2 { l with rows := x.rows, sure := x.rows.length } (lsX (.slice p7 nl c7) (some b)) ∧ Own w' wa.heap.size 9 (.slice p7 nl c7) (l.rows.map Value.string) ∧ Blk w' b 34 [.int .i64 x.d, .string x.row, .slice pr nr cr, .slice pk x.keep.length ck, .int .i64 x.n]) := ⟨fun w' h => by
            have e : rewL σ l x.rows = { l with rows := x.rows, sure := x.rows.length } := by unfold rewL; rw [hcr.1]; rfl
            have h' := h
            rw [e] at h
            exact ⟨h.jw, ls_after HO.out h', ls_box HBB.out h'⟩⟩
          have HOp := Hd.mk ((HJ.out.rewriteTo pr cr nr x.rows HNR.out (k * 2000) HFt.out (by omega) (Nat.le_trans HFm.out (by decide)) (HRv.out w2 (Below.chain B0.out HJ.out.below)) (fun a ha h0 => .inl (HNe.out a ha h0)) 0 (congrArg Nat.cast hcr.1) rfl rfl))
          have HCr := Hd.mk hcr.2
          clear hcr
          go_wp2_with fail
          refine HOp.out.mono ?_
          rintro e w3 ⟨rfl, h3⟩
          obtain ⟨hj3, ho3, hb3⟩ := HM.out w3 h3
          have d2 : w3.cell? ⟨b, 2, none⟩ = some (.slice pr nr cr) := hb3.at (j := 2) rfl
          have HJ3 := Hd.mk hj3
          have HO3 := Hd.mk ho3
          have HB3 := Hd.mk hb3
          have hsz3 : wa.heap.size ≤ w3.heap.size := hj3.size
          have hrows3 := HRv.out w3 (Below.chain B0.out hj3.below)
          have HRows3 := Hd.mk hrows3
          obtain ⟨w8, hw8⟩ : ∃ w8, w3.alloc (.cells #[] 9) = w8 := ⟨_, rfl⟩
          have k38 : Keeps (fun _ => False) w3 w8 := hw8 ▸ (Keeps.refl _ w3).alloc _
          have d2' : w8.cell? ⟨b, 2, none⟩ = some (.slice pr nr cr) := (k38.blk HB3.out (fun h => h)).at (j := 2) rfl
          have hown8 : w8.ownsRow w3.heap.size 9 1 (.slice (some ⟨w3.heap.size, 0, none⟩) 0 0) 0 [] := by
            refine ⟨rfl, .inr ⟨w3.heap.size, 0, #[], rfl, Nat.le_refl _, ?_, Nat.le_refl _, by unfold maxLen; omega, rfl, rfl⟩⟩
            rw [← hw8]; exact (Blk.new w3 9 []).is
          obtain ⟨v9, w9, hrun, hown9, hK9⟩ := app_fresh (P := Try.prog) w8 31 31 9 Try.underlying31 HI.out.1 HI.out.2.1 HI.out.2.2.1 HI.out.2.2.2 rfl (by decide) w3.heap.size (k38.size) (some ⟨w3.heap.size, 0, none⟩) hown8 pr nr cr (x.rows.map Value.string)
            (rows_src (hrows3.keepsStr k38 (fun _ _ _ _ _ _ h => h)) HNR.out) (by rw [List.length_map, HNR.out, Nat.mul_one]) (by intro u hu; obtain ⟨y, _, rfl⟩ := List.mem_map.1 hu; rfl) (by have := HF2.out; unfold maxLen; omega) (by have := HF2.out; omega)
          obtain ⟨sx9, hsx9⟩ : ∃ e, w3.heap.size = e := ⟨_, rfl⟩
          have hO9 : Own w9 wa.heap.size 9 v9 (x.rows.map Value.string) := (Own.of_row hown9).base hsz3
          have hj9 := ls_fresh HJ3.out HO3.out (Own.of_row hown9) (k38.trans hK9) ⟨_, HB3.out⟩
          have H3' : LsM wa w9 D L (rewP σ l.f x.rows).2 { l with rows := x.rows, sure := x.rows.length } v9 k b := ⟨hj9, hO9, HCr.out, (HFt.out.rew l.f x.rows).mono (by unfold endL; have := HFm.out; omega), HF0.out, by show endL x.rows ≤ _; unfold endL; have := HFm.out; omega⟩
          obtain ⟨p9, c9, hv9s⟩ := hO9.slice'
          rw [List.length_map, HNR.out] at hv9s
          subst hv9s
          obtain ⟨σx, hσx⟩ : ∃ σx, (rewP σ l.f x.rows).2 = σx := ⟨_, rfl⟩
          obtain ⟨lx, hlx⟩ : ∃ lx : Lg, { l with rows := x.rows, sure := x.rows.length } = lx := ⟨_, rfl⟩
          have HXL : Hd (lx.rows.length = nr) := ⟨by rw [← hlx]; exact HNR.out⟩
          have HXS : Hd (lx.sure = nr) := ⟨by rw [← hlx]; exact HNR.out⟩
          have HXM : Hd (nr ≤ 100000) := ⟨by have := HF2.out; omega⟩
          rw [hσx, hlx] at H3'
          have H3 := Hd.mk H3'
          rw [hsx9] at hrun
          have HRun := Hd.mk hrun
          clear H3' hσx hlx hO9 hK9 hj9 HJ3 HO3 HB3 h3 HM HOp HJ HO hj3 ho3 hb3 hrows3 hown8 hown9 k38 hrun
          go_wp2_with (at_builtin; refine wp_append_run rfl _ _ 31 rfl (.slice (some ⟨sx9, 0, none⟩) 0 0) (.slice pr nr cr) w8 rfl rfl HRun.out ?_)
          go_wp2_with fail
          refine (H3.out.jw.all).mono ?_
          rintro e w4 ⟨v4, rfl, hO4, hj4, hb4⟩
          obtain ⟨p4, c4', hv4⟩ := hO4.slice'
          have HO4 := Hd.mk (Rw.of_str (xs := lx.rows) hO4)
          have H4 := Hd.mk (LsM.next H3.out hb4)
          have HR4 := Hd.mk (Rw.of_str (xs := lx.rows) H4.out.own)
          rw [List.length_map, HXL.out] at hv4
          subst hv4
          clear hO4 hj4 hb4 H3
          go_wp2_with fail
          refine (same_yes w4 _ _ lx.rows (by rw [HXL.out]; have := HXM.out; omega) HO4.out HR4.out).mono ?_
          rintro e w5 ⟨rfl, hb5⟩
          have H5 := Hd.mk (H4.out.of_below hb5)
          have HSu := Hd.mk (H5.out.jw.sureOf)
          rw [HXS.out] at HSu
          clear hb5 H4 HO4 HR4
          go_wp2_with fail
          refine HSu.out.mono ?_
          rintro e w6 ⟨rfl, rfl⟩
          clear HSu
          go_wp2
          go_roundw
          case rel => exact ⟨k + 1, σx, lx, hlt, by go_num, by rw [HXS.out], H5.out⟩
          case measure => simp [intOf]; omega
        · have H3 : Hd (LsM wa w2 D L σ l (.slice p7 nl c7) k b) := ⟨⟨HJ.out, HO.out, HC.out, HFt.out.mono (by omega), HF0.out, by have := HLe.out; omega⟩⟩
          obtain ⟨σx, hσx⟩ : ∃ σx, σ = σx := ⟨_, rfl⟩
          obtain ⟨lx, hlx⟩ : ∃ lx : Lg, l = lx := ⟨_, rfl⟩
          rw [hσx, hlx] at H3
          rw [hlx] at HNL
          have HXL : Hd (lx.rows.length = nl) := HNL
          have HXS : Hd (lx.sure = sl) := ⟨by rw [← hlx]; exact hsl⟩
          have HXM : Hd (nl ≤ 100000) := HLs
          clear hσx hlx HJ HO
          go_wp2_with fail
          refine (H3.out.jw.all).mono ?_
          rintro e w4 ⟨v4, rfl, hO4, hj4, hb4⟩
          obtain ⟨p4, c4', hv4⟩ := hO4.slice'
          have HO4 := Hd.mk (Rw.of_str (xs := lx.rows) hO4)
          have H4 := Hd.mk (LsM.next H3.out hb4)
          have HR4 := Hd.mk (Rw.of_str (xs := lx.rows) H4.out.own)
          rw [List.length_map, HXL.out] at hv4
          subst hv4
          clear hO4 hj4 hb4 H3
          go_wp2_with fail
          refine (same_yes w4 _ _ lx.rows (by rw [HXL.out]; have := HXM.out; omega) HO4.out HR4.out).mono ?_
          rintro e w5 ⟨rfl, hb5⟩
          have H5 := Hd.mk (H4.out.of_below hb5)
          have HSu := Hd.mk (H5.out.jw.sureOf)
          rw [HXS.out] at HSu
          clear hb5 H4 HO4 HR4
          go_wp2_with fail
          refine HSu.out.mono ?_
          rintro e w6 ⟨rfl, rfl⟩
          clear HSu
          go_wp2
          go_roundw
          case rel => exact ⟨k + 1, σx, lx, hlt, by go_num, by rw [HXS.out], H5.out⟩
          case measure => simp [intOf]; omega
        · have H3 : Hd (LsM wa w2 D L σ l (.slice p7 nl c7) k b) := ⟨⟨HJ.out, HO.out, HC.out, HFt.out.mono (by omega), HF0.out, by have := HLe.out; omega⟩⟩
          obtain ⟨σx, hσx⟩ : ∃ σx, σ = σx := ⟨_, rfl⟩
          obtain ⟨lx, hlx⟩ : ∃ lx : Lg, l = lx := ⟨_, rfl⟩
          rw [hσx, hlx] at H3
          rw [hlx] at HNL
          have HXL : Hd (lx.rows.length = nl) := HNL
          have HXS : Hd (lx.sure = sl) := ⟨by rw [← hlx]; exact hsl⟩
          have HXM : Hd (nl ≤ 100000) := HLs
          clear hσx hlx HJ HO
          go_wp2_with fail
          refine (H3.out.jw.all).mono ?_
          rintro e w4 ⟨v4, rfl, hO4, hj4, hb4⟩
          obtain ⟨p4, c4', hv4⟩ := hO4.slice'
          have HO4 := Hd.mk (Rw.of_str (xs := lx.rows) hO4)
          have H4 := Hd.mk (LsM.next H3.out hb4)
          have HR4 := Hd.mk (Rw.of_str (xs := lx.rows) H4.out.own)
          rw [List.length_map, HXL.out] at hv4
          subst hv4
          clear hO4 hj4 hb4 H3
          go_wp2_with fail
          refine (same_yes w4 _ _ lx.rows (by rw [HXL.out]; have := HXM.out; omega) HO4.out HR4.out).mono ?_
          rintro e w5 ⟨rfl, hb5⟩
          have H5 := Hd.mk (H4.out.of_below hb5)
          have HSu := Hd.mk (H5.out.jw.sureOf)
          rw [HXS.out] at HSu
          clear hb5 H4 HO4 HR4
          go_wp2_with fail
          refine HSu.out.mono ?_
          rintro e w6 ⟨rfl, rfl⟩
          clear HSu
          go_wp2
          go_roundw
          case rel => exact ⟨k + 1, σx, lx, hlt, by go_num, by rw [HXS.out], H5.out⟩
          case measure => simp [intOf]; omega
        · have hca := calm_app HC.out l x.row HF6.out (by have h1 := HLe.out; have h2 := HRow.out; omega)
          have HM : Hd (∀ w', JAfter wa w2 w' D L (appS σ l x.row) (appL σ l x.row) (lsX (.slice p7 nl c7) (some b)) → JW wa w' D L (appS σ l x.row) { l with rows := l.rows ++ [x.row] } (lsX (.slice p7 nl c7) (some b)) ∧ Own w' wa.heap.size 9 (.slice p7 nl c7) (l.rows.map Value.string) ∧ Blk w' b 34 [.int .i64 x.d, .string x.row, .slice pr nr cr, .slice pk x.keep.length ck, .int .i64 x.n]) := ⟨fun w' h => by
            have e : appL σ l x.row = { l with rows := l.rows ++ [x.row] } := by unfold appL; rw [hca.1]; rfl
            have h' := h
            rw [e] at h
            exact ⟨h.jw, ls_after HO.out h', ls_box HBB.out h'⟩⟩
          have HOp := Hd.mk ((jAppend_op w2 L D l x.row σ (k * 2000) HFt.out (by omega) (Nat.le_trans HRow.out (by decide))).to rfl rfl (congrArg (fun x : Nat => Value.int .i64 (x : Int)) hca.1))
          have HCa := Hd.mk hca.2
          clear hca
          go_wp2_with fail
          refine (HJ.out.run HOp.out).mono ?_
          rintro e w3 ⟨rfl, h3⟩
          obtain ⟨hj3, ho3, hb3⟩ := HM.out w3 h3
          have d1 : w3.cell? ⟨b, 1, none⟩ = some (.string x.row) := hb3.at (j := 1) rfl
          have HJ3 := Hd.mk hj3
          have HO3 := Hd.mk ho3
          have HB3 := Hd.mk hb3
          have hl1 : (l.rows.map Value.string).length + 1 ≤ maxLen := by rw [List.length_map, hnl]; have := HLs.out; unfold maxLen; omega
          have hl2 : ((l.rows.map Value.string).length + 1) * 16 ≤ 140737488355328 := by rw [List.length_map, hnl]; have := HLs.out; omega
          have hsz3 : wa.heap.size ≤ w3.heap.size := hj3.size
          clear h3 HM HOp HJ HO hj3 ho3 hb3
          go_wp2_with (at_builtin; refine wp_app1 rfl _ _ 31 rfl 9 Try.underlying31 HI.out.1 HI.out.2.1 HI.out.2.2.1 HI.out.2.2.2 rfl (.slice p7 nl c7) _ _ w3 rfl HO3.out rfl rfl hl1 hl2 hsz3 ?_)
          intro v9 w9 hO9 hK9 hv9
          have hO9' : Own w9 wa.heap.size 9 v9 ((l.rows ++ [x.row]).map Value.string) := hO9.cast (by simp)
          have hj9 := ls_grow HJ3.out HO3.out hO9' hK9 hv9 ⟨_, HB3.out⟩
          have H3' : LsM wa w9 D L (appS σ l x.row) { l with rows := l.rows ++ [x.row] } v9 k b := ⟨hj9, hO9', HCa.out, (HFt.out.app l x.row).mono (by have := HRow.out; omega), HF0.out, by show endL (l.rows ++ [x.row]) ≤ _; rw [endL_append]; have := HLe.out; have := HRow.out; omega⟩
          obtain ⟨p9, c9, hv9s⟩ := hO9'.slice'
          obtain ⟨n9, hn9⟩ : ∃ n9, (l.rows ++ [x.row]).length = n9 := ⟨_, rfl⟩
          rw [List.length_map, hn9] at hv9s
          subst hv9s
          have HN9 := Hd.mk hn9
          clear hn9
          obtain ⟨σx, hσx⟩ : ∃ σx, appS σ l x.row = σx := ⟨_, rfl⟩
          obtain ⟨lx, hlx⟩ : ∃ lx : Lg, { l with rows := l.rows ++ [x.row] } = lx := ⟨_, rfl⟩
          have HXL : Hd (lx.rows.length = n9) := ⟨by rw [← hlx]; exact HN9.out⟩
          have HXS : Hd (lx.sure = sl) := ⟨by rw [← hlx]; exact hsl⟩
          have HXM : Hd (n9 ≤ 100001) := ⟨by have h1 := HN9.out; have h2 := HLs.out; rw [List.length_append, hnl, List.length_singleton] at h1; omega⟩
          rw [hσx, hlx] at H3'
          have H3 := Hd.mk H3'
          clear H3' hσx hlx hO9 hK9 hv9 hO9' hj9 hl1 hl2 HJ3 HO3 HB3
          go_wp2_with fail
          refine (H3.out.jw.all).mono ?_
          rintro e w4 ⟨v4, rfl, hO4, hj4, hb4⟩
          obtain ⟨p4, c4', hv4⟩ := hO4.slice'
          have HO4 := Hd.mk (Rw.of_str (xs := lx.rows) hO4)
          have H4 := Hd.mk (LsM.next H3.out hb4)
          have HR4 := Hd.mk (Rw.of_str (xs := lx.rows) H4.out.own)
          rw [List.length_map, HXL.out] at hv4
          subst hv4
          clear hO4 hj4 hb4 H3
          go_wp2_with fail
          refine (same_yes w4 _ _ lx.rows (by rw [HXL.out]; have := HXM.out; omega) HO4.out HR4.out).mono ?_
          rintro e w5 ⟨rfl, hb5⟩
          have H5 := Hd.mk (H4.out.of_below hb5)
          have HSu := Hd.mk (H5.out.jw.sureOf)
          rw [HXS.out] at HSu
          clear hb5 H4 HO4 HR4
          go_wp2_with fail
          refine HSu.out.mono ?_
          rintro e w6 ⟨rfl, rfl⟩
          clear HSu
          go_wp2
          go_roundw
          case rel => exact ⟨k + 1, σx, lx, hlt, by go_num, by rw [HXS.out], H5.out⟩
          case measure => simp [intOf]; omega
        · have hca := calm_app HC.out l x.row HF6.out (by have h1 := HLe.out; have h2 := HRow.out; omega)
          have HM : Hd (∀ w', JAfter wa w2 w' D L (appS σ l x.row) (appL σ l x.row) (lsX (.slice p7 nl c7) (some b)) → JW wa w' D L (appS σ l x.row) { l with rows := l.rows ++ [x.row] } (lsX (.slice p7 nl c7) (some b)) ∧ Own w' wa.heap.size 9 (.slice p7 nl c7) (l.rows.map Value.string) ∧ Blk w' b 34 [.int .i64 x.d, .string x.row, .slice pr nr cr, .slice pk x.keep.length ck, .int .i64 x.n]) := ⟨fun w' h => by
            have e : appL σ l x.row = { l with rows := l.rows ++ [x.row] } := by unfold appL; rw [hca.1]; rfl
            have h' := h
            rw [e] at h
            exact ⟨h.jw, ls_after HO.out h', ls_box HBB.out h'⟩⟩
          have HOp := Hd.mk ((jAppend_op w2 L D l x.row σ (k * 2000) HFt.out (by omega) (Nat.le_trans HRow.out (by decide))).to rfl rfl (congrArg (fun x : Nat => Value.int .i64 (x : Int)) hca.1))
          have HCa := Hd.mk hca.2
          clear hca
          go_wp2_with fail
          refine (HJ.out.run HOp.out).mono ?_
          rintro e w3 ⟨rfl, h3⟩
          obtain ⟨hj3, ho3, hb3⟩ := HM.out w3 h3
          have d1 : w3.cell? ⟨b, 1, none⟩ = some (.string x.row) := hb3.at (j := 1) rfl
          have HJ3 := Hd.mk hj3
          have HO3 := Hd.mk ho3
          have HB3 := Hd.mk hb3
          have hl1 : (l.rows.map Value.string).length + 1 ≤ maxLen := by rw [List.length_map, hnl]; have := HLs.out; unfold maxLen; omega
          have hl2 : ((l.rows.map Value.string).length + 1) * 16 ≤ 140737488355328 := by rw [List.length_map, hnl]; have := HLs.out; omega
          have hsz3 : wa.heap.size ≤ w3.heap.size := hj3.size
          clear h3 HM HOp HJ HO hj3 ho3 hb3
          go_wp2_with (at_builtin; refine wp_app1 rfl _ _ 31 rfl 9 Try.underlying31 HI.out.1 HI.out.2.1 HI.out.2.2.1 HI.out.2.2.2 rfl (.slice p7 nl c7) _ _ w3 rfl HO3.out rfl rfl hl1 hl2 hsz3 ?_)
          intro v9 w9 hO9 hK9 hv9
          have hO9' : Own w9 wa.heap.size 9 v9 ((l.rows ++ [x.row]).map Value.string) := hO9.cast (by simp)
          have hj9 := ls_grow HJ3.out HO3.out hO9' hK9 hv9 ⟨_, HB3.out⟩
          have H3' : LsM wa w9 D L (appS σ l x.row) { l with rows := l.rows ++ [x.row] } v9 k b := ⟨hj9, hO9', HCa.out, (HFt.out.app l x.row).mono (by have := HRow.out; omega), HF0.out, by show endL (l.rows ++ [x.row]) ≤ _; rw [endL_append]; have := HLe.out; have := HRow.out; omega⟩
          obtain ⟨p9, c9, hv9s⟩ := hO9'.slice'
          obtain ⟨n9, hn9⟩ : ∃ n9, (l.rows ++ [x.row]).length = n9 := ⟨_, rfl⟩
          rw [List.length_map, hn9] at hv9s
          subst hv9s
          have HN9 := Hd.mk hn9
          clear hn9
          obtain ⟨σx, hσx⟩ : ∃ σx, appS σ l x.row = σx := ⟨_, rfl⟩
          obtain ⟨lx, hlx⟩ : ∃ lx : Lg, { l with rows := l.rows ++ [x.row] } = lx := ⟨_, rfl⟩
          have HXL : Hd (lx.rows.length = n9) := ⟨by rw [← hlx]; exact HN9.out⟩
          have HXS : Hd (lx.sure = sl) := ⟨by rw [← hlx]; exact hsl⟩
          have HXM : Hd (n9 ≤ 100001) := ⟨by have h1 := HN9.out; have h2 := HLs.out; rw [List.length_append, hnl, List.length_singleton] at h1; omega⟩
          rw [hσx, hlx] at H3'
          have H3 := Hd.mk H3'
          clear H3' hσx hlx hO9 hK9 hv9 hO9' hj9 hl1 hl2 HJ3 HO3 HB3
          go_wp2_with fail
          refine (H3.out.jw.all).mono ?_
          rintro e w4 ⟨v4, rfl, hO4, hj4, hb4⟩
          obtain ⟨p4, c4', hv4⟩ := hO4.slice'
          have HO4 := Hd.mk (Rw.of_str (xs := lx.rows) hO4)
          have H4 := Hd.mk (LsM.next H3.out hb4)
          have HR4 := Hd.mk (Rw.of_str (xs := lx.rows) H4.out.own)
          rw [List.length_map, HXL.out] at hv4
          subst hv4
          clear hO4 hj4 hb4 H3
          go_wp2_with fail
          refine (same_yes w4 _ _ lx.rows (by rw [HXL.out]; have := HXM.out; omega) HO4.out HR4.out).mono ?_
          rintro e w5 ⟨rfl, hb5⟩
          have H5 := Hd.mk (H4.out.of_below hb5)
          have HSu := Hd.mk (H5.out.jw.sureOf)
          rw [HXS.out] at HSu
          clear hb5 H4 HO4 HR4
          go_wp2_with fail
          refine HSu.out.mono ?_
          rintro e w6 ⟨rfl, rfl⟩
          clear HSu
          go_wp2
          go_roundw
          case rel => exact ⟨k + 1, σx, lx, hlt, by go_num, by rw [HXS.out], H5.out⟩
          case measure => simp [intOf]; omega
        · have hca := calm_app HC.out l x.row HF6.out (by have h1 := HLe.out; have h2 := HRow.out; omega)
          have HM : Hd (∀ w', JAfter wa w2 w' D L (appS σ l x.row) (appL σ l x.row) (lsX (.slice p7 nl c7) (some b)) → JW wa w' D L (appS σ l x.row) { l with rows := l.rows ++ [x.row] } (lsX (.slice p7 nl c7) (some b)) ∧ Own w' wa.heap.size 9 (.slice p7 nl c7) (l.rows.map Value.string) ∧ Blk w' b 34 [.int .i64 x.d, .string x.row, .slice pr nr cr, .slice pk x.keep.length ck, .int .i64 x.n]) := ⟨fun w' h => by
            have e : appL σ l x.row = { l with rows := l.rows ++ [x.row] } := by unfold appL; rw [hca.1]; rfl
            have h' := h
            rw [e] at h
            exact ⟨h.jw, ls_after HO.out h', ls_box HBB.out h'⟩⟩
          have HOp := Hd.mk ((jAppend_op w2 L D l x.row σ (k * 2000) HFt.out (by omega) (Nat.le_trans HRow.out (by decide))).to rfl rfl (congrArg (fun x : Nat => Value.int .i64 (x : Int)) hca.1))
          have HCa := Hd.mk hca.2
          clear hca
          go_wp2_with fail
          refine (HJ.out.run HOp.out).mono ?_
          rintro e w3 ⟨rfl, h3⟩
          obtain ⟨hj3, ho3, hb3⟩ := HM.out w3 h3
          have d1 : w3.cell? ⟨b, 1, none⟩ = some (.string x.row) := hb3.at (j := 1) rfl
          have HJ3 := Hd.mk hj3
          have HO3 := Hd.mk ho3
          have HB3 := Hd.mk hb3
          have hl1 : (l.rows.map Value.string).length + 1 ≤ maxLen := by rw [List.length_map, hnl]; have := HLs.out; unfold maxLen; omega
          have hl2 : ((l.rows.map Value.string).length + 1) * 16 ≤ 140737488355328 := by rw [List.length_map, hnl]; have := HLs.out; omega
          have hsz3 : wa.heap.size ≤ w3.heap.size := hj3.size
          clear h3 HM HOp HJ HO hj3 ho3 hb3
          go_wp2_with (at_builtin; refine wp_app1 rfl _ _ 31 rfl 9 Try.underlying31 HI.out.1 HI.out.2.1 HI.out.2.2.1 HI.out.2.2.2 rfl (.slice p7 nl c7) _ _ w3 rfl HO3.out rfl rfl hl1 hl2 hsz3 ?_)
          intro v9 w9 hO9 hK9 hv9
          have hO9' : Own w9 wa.heap.size 9 v9 ((l.rows ++ [x.row]).map Value.string) := hO9.cast (by simp)
          have hj9 := ls_grow HJ3.out HO3.out hO9' hK9 hv9 ⟨_, HB3.out⟩
          have H3' : LsM wa w9 D L (appS σ l x.row) { l with rows := l.rows ++ [x.row] } v9 k b := ⟨hj9, hO9', HCa.out, (HFt.out.app l x.row).mono (by have := HRow.out; omega), HF0.out, by show endL (l.rows ++ [x.row]) ≤ _; rw [endL_append]; have := HLe.out; have := HRow.out; omega⟩
          obtain ⟨p9, c9, hv9s⟩ := hO9'.slice'
          obtain ⟨n9, hn9⟩ : ∃ n9, (l.rows ++ [x.row]).length = n9 := ⟨_, rfl⟩
          rw [List.length_map, hn9] at hv9s
          subst hv9s
          have HN9 := Hd.mk hn9
          clear hn9
          obtain ⟨σx, hσx⟩ : ∃ σx, appS σ l x.row = σx := ⟨_, rfl⟩
          obtain ⟨lx, hlx⟩ : ∃ lx : Lg, { l with rows := l.rows ++ [x.row] } = lx := ⟨_, rfl⟩
          have HXL : Hd (lx.rows.length = n9) := ⟨by rw [← hlx]; exact HN9.out⟩
          have HXS : Hd (lx.sure = sl) := ⟨by rw [← hlx]; exact hsl⟩
          have HXM : Hd (n9 ≤ 100001) := ⟨by have h1 := HN9.out; have h2 := HLs.out; rw [List.length_append, hnl, List.length_singleton] at h1; omega⟩
          rw [hσx, hlx] at H3'
          have H3 := Hd.mk H3'
          clear H3' hσx hlx hO9 hK9 hv9 hO9' hj9 hl1 hl2 HJ3 HO3 HB3
          go_wp2_with fail
          refine (H3.out.jw.all).mono ?_
          rintro e w4 ⟨v4, rfl, hO4, hj4, hb4⟩
          obtain ⟨p4, c4', hv4⟩ := hO4.slice'
          have HO4 := Hd.mk (Rw.of_str (xs := lx.rows) hO4)
          have H4 := Hd.mk (LsM.next H3.out hb4)
          have HR4 := Hd.mk (Rw.of_str (xs := lx.rows) H4.out.own)
          rw [List.length_map, HXL.out] at hv4
          subst hv4
          clear hO4 hj4 hb4 H3
          go_wp2_with fail
          refine (same_yes w4 _ _ lx.rows (by rw [HXL.out]; have := HXM.out; omega) HO4.out HR4.out).mono ?_
          rintro e w5 ⟨rfl, hb5⟩
          have H5 := Hd.mk (H4.out.of_below hb5)
          have HSu := Hd.mk (H5.out.jw.sureOf)
          rw [HXS.out] at HSu
          clear hb5 H4 HO4 HR4
          go_wp2_with fail
          refine HSu.out.mono ?_
          rintro e w6 ⟨rfl, rfl⟩
          clear HSu
          go_wp2
          go_roundw
          case rel => exact ⟨k + 1, σx, lx, hlt, by go_num, by rw [HXS.out], H5.out⟩
          case measure => simp [intOf]; omega
      · have hd1 : decide ((k : Int) < (n : Int)) = false := by simp; omega
        go_wp2
        go_ret
        exact ⟨rfl, Below.chain B0.out HL.out.jw.below⟩

end Go.Proofs.Ytmcdfhihfcfbaaa.W
