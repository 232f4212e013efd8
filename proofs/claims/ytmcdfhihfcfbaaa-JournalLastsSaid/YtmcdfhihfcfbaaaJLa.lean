/-
  The walk of JournalLasts.
-/
import Derived.Test.YtmcdfhihfcfbaaaJMw
import Derived.Test.YtmcdfhihfcfbaaaAppF
/-! the plain course of one round -/
namespace Go.Proofs.Ytmcdfhihfcfbaaa.W
set_option linter.unusedVariables false

theorem foundB_old {rows : List ByteArray} {ps : List VR} {y : VR} (h : foundB rows ps = true) : foundB rows (ps ++ [y]) = true := by
  unfold foundB at *; rw [List.any_append, h]; rfl
theorem foundB_new {rows : List ByteArray} {ps : List VR} {y : VR} (e : y.2 = rows) : foundB rows (ps ++ [y]) = true :=
  foundB_mem (List.mem_append.2 (.inr (List.mem_singleton.2 rfl))) e

theorem bump (k : Nat) : 16 + (k + 1) * 1300 ≤ 16 + (k + 1 + 1) * 1300 := Nat.add_le_add_left (Nat.mul_le_mul_right _ (Nat.le_succ _)) _
structure LaP (σ : St) (l : Lg) (ps : List VR) (k : Nat) : Prop where
  inv : ∃ D H, Inv σ l D H ∧ ∀ x, May D H x → foundB x ps = true
  fit : FitQ σ (k * 2000)
  f : l.f = 3
  e : endL l.rows ≤ 16 + (k + 1) * 1300
  pl : ps.length ≤ k + 1
  each : ∀ y ∈ ps, y.2.length ≤ 100000

structure LaD (σ : St) (x : List ByteArray) (ps : List VR) (k : Nat) : Prop where
  cr : Crashed σ 3 x
  fit : FitQ σ (k * 2000)
  e : endL x ≤ 16 + (k + 1) * 1300
  fd : foundB x ps = true
  pl : ps.length ≤ k + 1
  each : ∀ y ∈ ps, y.2.length ≤ 100000

theorem LaP.new (v : Value) : LaP newS ⟨3, [], 0⟩ [(v, [])] 0 := by
  refine ⟨⟨_, _, Inv.new 3 (by decide), fun z hz => ?_⟩, FitQ.new, rfl, by decide, by simp, fun z hz => by rw [List.mem_singleton.1 hz]; exact Nat.zero_le _⟩
  rcases hz with rfl | hz
  · exact foundB_mem (List.mem_singleton.2 rfl) rfl
  · cases hz

attribute [local irreducible] endL formsL
section
variable {σ : St} {l : Lg} {ps : List VR} {k : Nat} {D : List ByteArray} {H : Option (List ByteArray)}

theorem Inv.mayLe (h : Inv σ l D H) {x : List ByteArray} (hx : May D H x) : endL x ≤ endL l.rows := by
  rcases hx with rfl | rfl
  · exact endL_prefix (h.pD.trans h.pB)
  · exact endL_prefix h.pB
theorem fluL_f (σ : St) (l : Lg) : (fluL σ l).f = l.f := by unfold fluL; split <;> rfl
theorem fluL_rows (σ : St) (l : Lg) : (fluL σ l).rows = l.rows := by unfold fluL; split <;> rfl
theorem rewL_f (σ : St) (l : Lg) (rs : List ByteArray) : (rewL σ l rs).f = l.f := by unfold rewL; split <;> rfl
theorem rewL_rows (σ : St) (l : Lg) (rs : List ByteArray) : (rewL σ l rs).rows = rs ∨ (rewL σ l rs).rows = l.rows := by
  unfold rewL; split
  · exact .inl rfl
  · exact .inr rfl
theorem appL_f (σ : St) (l : Lg) (r : ByteArray) : (appL σ l r).f = l.f := by unfold appL; split <;> rfl
theorem appL_e (σ : St) (l : Lg) (r : ByteArray) : endL (appL σ l r).rows ≤ endL l.rows + (8 + r.size) := by
  unfold appL; split
  · show endL (l.rows ++ [r]) ≤ _; rw [endL_append]; omega
  · omega

theorem LaP.len (h : LaP σ l ps k) (hk : k ≤ 30) : l.rows.length ≤ 50000 := by
  have h1 := len_le_forms l.rows
  have h2 := h.e
  unfold endL at h2; omega
theorem LaP.arm (h : LaP σ l ps k) (n : Int) (ks : List Int) (hn : n ≤ 9223372036854775807) (hk : ks.length ≤ 100000) : LaP (armS σ n ks) l ps k := by
  obtain ⟨D, H, a, b⟩ := h.inv
  exact ⟨⟨D, H, a.arm n ks, b⟩, h.fit.arm n ks hn hk, h.f, h.e, h.pl, h.each⟩
theorem LaP.lose (h : LaP σ l ps k) (n : Int) (hn : n ≤ 9223372036854775807) : LaP (loseS σ n) l ps (k + 1) := by
  obtain ⟨D, H, a, b⟩ := h.inv
  exact ⟨⟨D, H, a.lose n, b⟩, (h.fit.lose n hn).mono (by omega), h.f, Nat.le_trans h.e (bump k), by have := h.pl; omega, h.each⟩
theorem LaP.crash (h : LaP σ l ps k) (ks : List Int) : ∃ x, LaD (crashS σ ks) x ps (k + 1) := by
  obtain ⟨D, H, a, b⟩ := h.inv
  obtain ⟨x, hx, hc⟩ := a.crash ks
  have := a.mayLe hx
  exact ⟨x, h.f ▸ hc, (h.fit.crash ks).mono (by omega), by have := h.e; omega, b x hx, by have := h.pl; omega, h.each⟩
theorem LaP.app (h : LaP σ l ps k) (hk : k ≤ 30) (r : ByteArray) (hr : r.size ≤ 200) : (appE σ l r = 0 ∧ LaP (appS σ l r) (appL σ l r) ps (k + 1)) ∨ (appE σ l r = 10 ∧ ∃ x, LaD (appS σ l r) x ps (k + 1)) := by
  obtain ⟨D, H, a, b⟩ := h.inv
  have he := h.e
  have hp := h.pl
  have ha := appL_e σ l r
  have hf : FitQ (appS σ l r) ((k + 1) * 2000) := (h.fit.app l r).mono (by omega)
  rcases a.append r (by omega) with ⟨e, i⟩ | ⟨e, x, hx, hc⟩
  · exact .inl ⟨e, ⟨D, H, i, b⟩, hf, (appL_f _ _ _).trans h.f, by omega, by omega, h.each⟩
  · have := a.mayLe hx
    exact .inr ⟨e, x, h.f ▸ hc, hf, by omega, b x hx, by omega, h.each⟩

theorem push_each {y : VR} {n : Nat} (h : ∀ y ∈ ps, y.2.length ≤ n) (hy : y.2.length ≤ n) : ∀ z ∈ ps ++ [y], z.2.length ≤ n := fun z hz => by
  rcases List.mem_append.1 hz with hz | hz
  · exact h z hz
  · rw [List.mem_singleton.1 hz]; exact hy
theorem LaP.flu (h : LaP σ l ps k) (hk : k ≤ 30) (y : Value) : ((fluP σ l).1 = 0 ∧ LaP (fluP σ l).2 (fluL σ l) ([] ++ [(y, l.rows)]) (k + 1)) ∨ ((fluP σ l).1 = 12 ∧ LaP (fluP σ l).2 (fluL σ l) (ps ++ [(y, l.rows)]) (k + 1)) ∨
    ((fluP σ l).1 = 10 ∧ ∃ x, LaD (fluP σ l).2 x (ps ++ [(y, l.rows)]) (k + 1)) := by
  obtain ⟨D, H, a, b⟩ := h.inv
  have he := h.e
  have hp := h.pl
  have hl := h.len hk
  have hr := fluL_rows σ l
  have hrr : endL (fluL σ l).rows ≤ 16 + (k + 1 + 1) * 1300 := hr.symm ▸ (Nat.le_trans he (bump k))
  have hf : FitQ (fluP σ l).2 ((k + 1) * 2000) := (h.fit.flu l).mono (by omega)
  have hpl : (ps ++ [(y, l.rows)]).length ≤ k + 1 + 1 := by rw [List.length_append, List.length_singleton]; omega
  rcases a.flu with ⟨e, i⟩ | ⟨e, _, hL, D', H', i, hD, hH⟩ | ⟨e, x, hx, hc⟩
  · refine .inl ⟨e, ⟨_, _, i, fun x hx => foundB_new ?_⟩, hf, (fluL_f _ _).trans h.f, hrr, by simp, push_each (fun _ h => by cases h) (by show l.rows.length ≤ _; omega)⟩
    rcases hx with rfl | hx
    · rfl
    · cases hx
  · refine .inr (.inl ⟨e, ⟨D', H', by rw [hL]; exact i, fun x hx => ?_⟩, hf, (fluL_f _ _).trans h.f, hrr, hpl, push_each h.each (by show l.rows.length ≤ _; omega)⟩)
    rcases hx with rfl | hx
    · exact foundB_old (b _ hD)
    · rcases hH x hx with h1 | h1
      · exact foundB_old (b _ (.inr h1))
      · exact foundB_new h1.symm
  · refine .inr (.inr ⟨e, x, h.f ▸ hc, hf, ?_, ?_, hpl, push_each h.each (by show l.rows.length ≤ _; omega)⟩)
    · rcases hx with hx | rfl
      · have := a.mayLe hx; omega
      · exact Nat.le_trans he (bump k)
    · rcases hx with hx | rfl
      · exact foundB_old (b _ hx)
      · exact foundB_new rfl
theorem LaP.rew (h : LaP σ l ps k) (hk : k ≤ 30) (y : Value) (rs : List ByteArray) (hrs : (formsL rs).length ≤ 1248) (hn : rs.length ≤ 100000) : ((rewP σ l.f rs).1 = 0 ∧ LaP (rewP σ l.f rs).2 (rewL σ l rs) ([] ++ [(y, rs)]) (k + 1)) ∨ ((rewP σ l.f rs).1 = 12 ∧ LaP (rewP σ l.f rs).2 (rewL σ l rs) (ps ++ [(y, rs)]) (k + 1)) ∨
    ((rewP σ l.f rs).1 = 10 ∧ ∃ x, LaD (rewP σ l.f rs).2 x (ps ++ [(y, rs)]) (k + 1)) := by
  obtain ⟨D, H, a, b⟩ := h.inv
  have he := h.e
  have hp := h.pl
  have hee : endL rs ≤ 1264 := by unfold endL; omega
  have hL : endL (rewL σ l rs).rows ≤ 16 + (k + 1 + 1) * 1300 := by
    rcases rewL_rows σ l rs with e | e
    · exact e.symm ▸ (by omega : endL rs ≤ 16 + (k + 1 + 1) * 1300)
    · exact e.symm ▸ (Nat.le_trans he (bump k))
  have hf : FitQ (rewP σ l.f rs).2 ((k + 1) * 2000) := (h.fit.rew l.f rs).mono (by omega)
  have hpl : (ps ++ [(y, rs)]).length ≤ k + 1 + 1 := by rw [List.length_append, List.length_singleton]; omega
  rcases a.rew rs (by omega) with ⟨e, i⟩ | ⟨e, _, hL', i⟩ | ⟨e, x, hx, hc⟩
  · refine .inl ⟨e, ⟨_, _, i, fun x hx => foundB_new ?_⟩, hf, (rewL_f _ _ _).trans h.f, hL, by simp, push_each (fun _ h => by cases h) hn⟩
    rcases hx with rfl | hx
    · rfl
    · cases hx
  · exact .inr (.inl ⟨e, ⟨D, H, by rw [hL']; exact i, fun x hx => foundB_old (b x hx)⟩, hf, (rewL_f _ _ _).trans h.f, hL, hpl, push_each h.each hn⟩)
  · have := a.mayLe hx
    exact .inr (.inr ⟨e, x, h.f ▸ hc, hf, by omega, foundB_old (b x hx), hpl, push_each h.each hn⟩)

theorem LaD.len {x : List ByteArray} (h : LaD σ x ps k) (hk : k ≤ 31) : x.length ≤ 100000 := by
  have h1 := len_le_forms x
  have h2 := h.e
  unfold endL at h2; omega
/-- behind a crash: the scheduled ones are dropped, the disk starts -/
theorem LaD.back {x : List ByteArray} (h : LaD σ x ps k) (hk : k ≤ 31) (y : Value) : openP (startS (loseS (armS σ 0 []) 0)) 3 = (0, x) ∧ LaP (startS (loseS (armS σ 0 []) 0)) ⟨3, x, x.length⟩ [(y, x)] k := by
  have hb := h.cr.back (σ' := startS (loseS (armS σ 0 []) 0)) (by decide) rfl rfl rfl rfl
  refine ⟨hb.2, ⟨_, _, hb.1, fun z hz => ?_⟩, ((h.fit.arm 0 [] (by decide) (by decide)).lose 0 (by decide)).start, rfl, h.e, by simp, fun z hz => by rw [List.mem_singleton.1 hz]; exact h.len hk⟩
  rcases hz with rfl | hz
  · exact foundB_mem (List.mem_singleton.2 rfl) rfl
  · cases hz
end

end Go.Proofs.Ytmcdfhihfcfbaaa.W

namespace Go.Proofs.Ytmcdfhihfcfbaaa.W
open Go.RowKit
set_option linter.unusedVariables false

theorem infoStrs : (Try.prog.info? 31).map (fun i => (i.zero, i.size, i.bytes)) = some (some (.slice none 0 0), 1, 24) := by kernel_rfl

structure LaI (wa w : World) (D L : Nat) (σ : St) (l : Lg) (v : Value) (ps : List VR) (k : Nat) : Prop where
  mw : MW wa w D L σ l v ps [] none
  p : LaP σ l ps k

set_option maxRecDepth 100000 in
set_option maxHeartbeats 8000000 in
theorem lasts_any (W : World) (vd : Value) (ds : List Dd) (va : Value) (ats : List Int) (hv : ArgDeeds W vd ds) (ha : ArgI W va ats) :
    Calls Try.prog 7 #[vd, va] W fun e w' => e = .returned (.bool true) ∧ Below W.heap.size W w' := by
  obtain ⟨i0, hi, hz0, hz1, hz2⟩ := info_parts infoStrs
  have HI : Hd (_ ∧ _ ∧ _ ∧ _) := ⟨⟨hi, hz0, hz1, hz2⟩⟩
  clear hi hz0 hz1 hz2
  obtain ⟨pv, cv, rfl⟩ := hv.row.slice
  obtain ⟨pa, ca, rfl⟩ := ha.row.slice
  obtain ⟨n, hn⟩ : ∃ n, ds.length = n := ⟨_, rfl⟩
  obtain ⟨n2, hn2⟩ : ∃ n2, ats.length = n2 := ⟨_, rfl⟩
  have HV : Hd (Rw 5 ddE W (.slice pv n cv) ds) := ⟨hn ▸ hv.row⟩
  have HVA : Hd (Rw 1 intE W (.slice pa n2 ca) ats) := ⟨hn2 ▸ ha.row⟩
  have HFw := Hd.mk (fun w (hb : Below W.heap.size W w) => few_any w (.slice pv n cv) ds hv.len hv.ok (HV.out.below ddE_stays hb))
  have HOK := Hd.mk hv.ok
  have HEA := Hd.mk ha.each
  have HN := Hd.mk hn
  have HN2 := Hd.mk hn2
  rw [hn, hn2]
  clear hv hn ha hn2
  go_enter Try.func7, Try.ntmps7
  go_wp2_with fail
  refine (small_any W).mono ?_; rintro e wa ⟨rfl, hb0⟩
  have B0 := Hd.mk hb0; clear hb0
  go_wp2_with fail
  refine (HFw.out wa B0.out).mono ?_; rintro e wx ⟨rfl, rfl⟩
  rcases hF : fewB ds with _ | _
  · clear hF
    go_wp2
    go_ret
    exact ⟨rfl, B0.out⟩
  rcases Nat.lt_or_ge 10 n2 with h10 | h10
  · clear hF
    have hd10 : decide ((10 : Int) < (n2 : Int)) = true := by simp; omega
    go_wp2
    go_ret
    exact ⟨rfl, B0.out⟩
  · have hd10 : decide ((10 : Int) < (n2 : Int)) = false := by simp; omega
    have HFP := Hd.mk (few_parts hF)
    clear hF
    have hn30 : n ≤ 30 := by have := HFP.out.len; have := HN.out; omega
    go_wp2_with fail
    refine (One.new wa).mono ?_; rintro e w0 ⟨D, rfl, h0⟩
    have H0 := Hd.mk h0; clear h0
    go_wp2_with fail
    refine (H0.out.openYes (X := mX wa (.slice none 0 0) [] none) 3 [] (by kernel_rfl) (fun g h => by rcases h with h | ⟨x, h, _⟩ | h <;> cases h)).mono ?_; rintro e w1 ⟨L0, rfl, h1, _, _⟩
    have HM1 : Hd (MW wa w1 D L0 newS ⟨3, [], 0⟩ (.slice none 0 0) [] [] none) := ⟨⟨h1, Own.nil _ _ _, fun x hx => by cases hx⟩⟩
    clear h1 H0
    go_wp2_with fail
    obtain ⟨w2, hw2⟩ : ∃ w2, w1.alloc (.cells #[.slice none 0 0] 31) = w2 := ⟨_, rfl⟩
    have hO2 : Own w2 wa.heap.size 31 (.slice (some ⟨w1.heap.size, 0, none⟩) 1 1) (([((.slice none 0 0 : Value), [])] : List VR).map (fun y : VR => y.1)) := by
      have hb : Blk w2 w1.heap.size 31 [.slice none 0 0] := hw2 ▸ Blk.new w1 31 [.slice none 0 0]
      exact ⟨.inr ⟨w1.heap.size, 1, rfl, HM1.out.jw.size, Nat.le_refl _, by unfold maxLen; omega, ⟨_, _, hb.is, rfl⟩, fun j u hj => hb.at hj, fun j _ => hb.free j⟩⟩
    have k2 : Keeps (fun g => (.slice none 0 0 : Value).ownBlock = some g) w1 w2 := hw2 ▸ (Keeps.refl _ w1).alloc _
    have HM2 := Hd.mk (HM1.out.list (ps' := [((.slice none 0 0 : Value), [])]) k2 hO2 (fun g hg => by injection hg with hg; exact .inr (Nat.le_of_eq hg)) (fun y hy => by
      rw [List.mem_singleton.1 hy]
      exact .inr ⟨⟨Rw.nil _, fun g hg h0 => absurd rfl h0⟩, fun g hg h0 => absurd rfl h0⟩) (fun g hg => by cases hg))
    have HW2 := Hd.mk hw2
    clear k2 hO2 HM1 hw2
    go_loopw [8, 9, 10, 11, 12] (fun a8 _ v10 am i wr => ∃ k σ l L ps m, k ≤ n ∧ i = .int .i64 (k : Nat) ∧ a8 = .pointer (some ⟨L, 0, none⟩) ∧ am = .int .i64 (m : Nat) ∧ m ≤ n2 ∧ LaI wa wr D L σ l v10 ps k) (fun _ _ _ _ i _ => n - (intOf i).toNat)
    case atStart => exact ⟨0, newS, ⟨3, [], 0⟩, L0, [((.slice none 0 0 : Value), [])], 0, Nat.zero_le _, rfl, rfl, rfl, Nat.zero_le _, ⟨by rw [HW2.out]; exact HM2.out.less (fun y hy => by cases hy) (fun g hg => hg), LaP.new _⟩⟩
    case round =>
      obtain ⟨k, σ0, l, L, ps, m, hk, rfl, rfl, rfl, hm, hI⟩ := hrel
      have HL := Hd.mk hI
      clear hI HM2 HW2
      by_cases hlt : k < n
      · have hd1 : decide ((k : Int) < (n : Int)) = true := by simp; omega
        have hkl : k < ds.length := HN.out ▸ hlt
        have hbW : Below W.heap.size W wr := Below.chain B0.out HL.out.mw.jw.below
        obtain ⟨g, o, cs, rfl, hg, hcl, he, hc⟩ := HV.out.at rfl hkl
        clear hcl
        obtain ⟨rv, kv, rfl, hrv, hkv⟩ := he
        have hmem : ds[k] ∈ ds := List.getElem_mem hkl
        have f1 := HFP.out.row _ hmem
        have f2 := HFP.out.rows _ hmem
        have f3 := HFP.out.each _ hmem
        have f4 := HFP.out.keep _ hmem
        have f5 := (HOK.out _ hmem).n
        obtain ⟨x, hx⟩ : ∃ x, ds[k] = x := ⟨_, rfl⟩
        rw [hx] at hrv hkv hc f1 f2 f3 f4 f5
        obtain ⟨pr, cr, rfl⟩ := hrv.slice
        obtain ⟨pk, ck, rfl⟩ := hkv.slice
        have hc' : ∀ i u, (ddCells x (.slice pr x.rows.length cr) (.slice pk x.keep.length ck))[i]? = some u → wr.cell? ⟨g, o + k * 5 + i, none⟩ = some u := fun i u h => by
          rw [hbW.cell (p := ⟨g, o + k * 5 + i, none⟩) hg]; exact hc i u h
        have c0 : wr.cell? ⟨g, o + k * 5, none⟩ = some (.int .i64 x.d) := hc' 0 _ rfl
        have c1 : wr.cell? ⟨g, o + k * 5 + 1, none⟩ = some (.string x.row) := hc' 1 _ rfl
        have c2 : wr.cell? ⟨g, o + k * 5 + 2, none⟩ = some (.slice pr x.rows.length cr) := hc' 2 _ rfl
        have c3 : wr.cell? ⟨g, o + k * 5 + 3, none⟩ = some (.slice pk x.keep.length ck) := hc' 3 _ rfl
        have c4 : wr.cell? ⟨g, o + k * 5 + 4, none⟩ = some (.int .i64 x.n) := hc' 4 _ rfl
        have hand := i64_and_7 x.d
        obtain ⟨t, ht⟩ : ∃ t, x.d % 8 = t := ⟨_, rfl⟩
        have ht8 : 0 ≤ t ∧ t < 8 := by omega
        rw [ht] at hand
        have hfm := forms_le x.rows 200 f3
        have HNe : Hd (∀ a, pr = some a → x.rows ≠ [] → a.block < wa.heap.size) := ⟨fun a ha h0 => Nat.lt_of_lt_of_le (hrv.blkLt (by rw [ha]) h0) B0.out.size⟩
        have HRv : Hd (∀ w', Below W.heap.size W w' → Rw 1 strE w' (.slice pr x.rows.length cr) x.rows) := ⟨fun w' hb => hrv.below strE_stays hb⟩
        have HKI : Hd (∀ w', Below W.heap.size W w' → IR (fun g => W.heap.size ≤ g) w' (.slice pk x.keep.length ck) x.keep) := ⟨fun w' hb => hkv.ir hb⟩
        obtain ⟨nr, hnr⟩ : ∃ nr, x.rows.length = nr := ⟨_, rfl⟩
        have HNR := Hd.mk hnr
        have HRl : Hd (∀ gg, (Value.slice pr nr cr).ownBlock = some gg → x.rows ≠ [] → gg < wa.heap.size) := ⟨fun gg hg h0 => by
          cases pr with
          | none => cases hg
          | some a =>
            have : a.block = gg := by simpa [Value.ownBlock] using hg
            subst this
            exact HNe.out a rfl h0⟩
        rw [hnr] at c2 HRv f2 hfm
        have HFm : Hd ((formsL x.rows).length ≤ 1248) := ⟨Nat.le_trans hfm (by omega)⟩
        have HRN : Hd (x.rows.length ≤ 100000) := ⟨by rw [hnr]; omega⟩
        have HRow := Hd.mk f1
        have HKl : Hd (x.keep.length ≤ 60) := ⟨f4⟩
        have HPick := Hd.mk (fun w => pick_any x.n 3 w f5 (by decide))
        have HPk : Hd (pickI x.n 3 ≤ 9223372036854775807) := ⟨by have := Int.emod_lt_of_pos x.n (show (0 : Int) < 3 by decide); have e : pickI x.n 3 = x.n % 3 := rfl; omega⟩
        -- the box
        obtain ⟨w2, hw2⟩ : ∃ w2, wr.alloc (.cells #[.int .i64 x.d, .string x.row, .slice pr nr cr, .slice pk x.keep.length ck, .int .i64 x.n] 34) = w2 := ⟨_, rfl⟩
        obtain ⟨b, hb⟩ : ∃ b, wr.heap.size = b := ⟨_, rfl⟩
        have hbox := HL.out.mw.box [.int .i64 x.d, .string x.row, .slice pr nr cr, .slice pk x.keep.length ck, .int .i64 x.n]
        have hbb : Blk w2 b 34 [.int .i64 x.d, .string x.row, .slice pr nr cr, .slice pk x.keep.length ck, .int .i64 x.n] := by
          rw [← hb, ← hw2]; exact Blk.new wr 34 _
        rw [hb] at hbox
        have HM2 : Hd (MW wa w2 D L σ0 l u10 ps [] (some b)) := ⟨hw2 ▸ hbox⟩
        have HBB := Hd.mk hbb
        have HP0 := Hd.mk HL.out.p
        obtain ⟨p7, c7, hv7⟩ := HM2.out.own.slice'
        obtain ⟨n7, hn7⟩ : ∃ n7, (ps.map (fun y : VR => y.1)).length = n7 := ⟨_, rfl⟩
        rw [hn7] at hv7
        subst hv7
        have hq : k * 2000 ≤ 800000000 := by omega
        have HPl : Hd (ps.length ≤ 100) := ⟨by have := HP0.out.pl; omega⟩
        have HNl : Hd (l.rows.length ≤ 50000) := ⟨HP0.out.len (by omega)⟩
        have hb3 : w2.cell? ⟨b, 3, none⟩ = some (.slice pk x.keep.length ck) := hbb.at (j := 3) rfl
        clear hbW hrv hkv hc hc' hmem f1 f2 f3 f4 f5 ht hfm hbox hbb hnr hx hkl HL hn7
        go_upto_region 15 with (fail)
        try rw [hw2]
        try rw [hb]
        clear hw2 hb c0 c1 c2 c3 c4
        go_cut [59] (fun tb wx => ∃ bb : Bool, tb = .bool bb ∧ (bb = true → m < n2) ∧ w2 = wx)
        case first =>
          go_wp2_with fail
          all_goals go_meet
          all_goals first | exact ⟨_, rfl, fun h => of_decide_eq_true h, rfl⟩ | exact ⟨false, rfl, (fun h => by cases h), rfl⟩
        case rest =>
        obtain ⟨bb, rfl, hbb, rfl⟩ := hcut
        have HBm := Hd.mk hbb
        clear hbb
        go_upto_if 59 with (fail)
        go_cut [11] (fun am wx => ∃ (m1 : Nat) (σ1 : St), am = .int .i64 (m1 : Nat) ∧ m1 ≤ n2 ∧ MW wa wx D L σ1 l (.slice p7 n7 c7) ps [] (some b) ∧ LaP σ1 l ps k ∧ Blk wx b 34 [.int .i64 x.d, .string x.row, .slice pr nr cr, .slice pk x.keep.length ck, .int .i64 x.n])
        case first =>
          rcases bb with _ | _
          · go_wp2_with fail
            go_meet
            exact ⟨m, σ0, rfl, hm, HM2.out, HP0.out, HBB.out⟩
          · have hmn : m < n2 := HBm.out rfl
            have hml : m < ats.length := HN2.out ▸ hmn
            have hbel : Below W.heap.size W w2 := Below.chain B0.out HM2.out.jw.below
            obtain ⟨ga, oa, csa, rfl, hga, _, hea, hca⟩ := HVA.out.at rfl hml
            obtain ⟨av, hav⟩ : ∃ av, ats[m] = av := ⟨_, rfl⟩
            have hav2 := HEA.out _ (List.getElem_mem hml)
            rw [hav] at hea hav2
            have hea : csa = [.int .i64 av] := hea
            subst hea
            have a0 : w2.cell? ⟨ga, oa + m, none⟩ = some (.int .i64 av) := by rw [hbel.cell (p := ⟨ga, oa + m, none⟩) hga]; have := hca 0 _ rfl; rwa [Nat.mul_one, Nat.add_zero] at this
            obtain ⟨sa, hsa⟩ : ∃ sa, armS σ0 av x.keep = sa := ⟨_, rfl⟩
            have HMd : Hd (MW wa w2.drew D L σ0 l (.slice p7 n7 c7) ps [] (some b)) := ⟨HM2.out.next (Keeps.refl _ _).drew⟩
            have HBd := Hd.mk HBB.out.drew
            have HOp := Hd.mk (OpC.lop (L := L) (l := l) (w := w2.drew) (D := D) (OpC.arm av (.slice pk x.keep.length ck) x.keep sa (Nat.le_trans HKl.out (by decide)) ((HKI.out w2.drew (Below.chain B0.out HMd.out.jw.below)).mono (fun g e => e.elim)) hsa))
            have HPn : Hd (LaP sa l ps k) := ⟨hsa ▸ HP0.out.arm av x.keep hav2.2 (Nat.le_trans HKl.out (by decide))⟩
            have HGa : Hd (ga < W.heap.size) := ⟨hga⟩
            have hSd : w2.drew.cell? ⟨b, 3, none⟩ = some (.slice pk x.keep.length ck) ∧ w2.drew.cell? ⟨ga, oa + m, none⟩ = some (.int .i64 av) := ⟨hb3, a0⟩
            clear hca hga hav hav2 hsa hml hbel
            go_wp2_with fail
            refine wp_region_lin default (fun w' => w'.cell? ⟨b, 3, none⟩ = some (.slice pk x.keep.length ck) ∧ w'.cell? ⟨ga, oa + m, none⟩ = some (.int .i64 av)) [(0, true), (1, true), (2, true), (3, true), (4, true), (5, true), (6, true), (7, false)] (by kernel_rfl) (by kernel_rfl) rfl (by kernel_rfl) (by kernel_rfl) hSd ?_
            simp only [pick, List.getD_cons_zero, List.getD_cons_succ]
            repeat
              refine lin_free (v := ?_) (by rfl) ?_ ?_
              rotate_left
              · intro w' hSw
                obtain ⟨a0, a1⟩ := hSw
                go_simp
                first | done | with_reducible rfl
              simp only [Act.put, List.setIfInBounds_toArray, List.set_cons_zero, List.set_cons_succ]
            refine lin_bound (fun K hK => ?_)
            go_simp
            refine (HMd.out.jw.run HOp.out).mono ?_
            rintro e w5 ⟨rfl, h5⟩
            have hB5 := h5.keeps.blk HBd.out (fun e => e.2 (.inr (.inr rfl)))
            have hS5 : w5.cell? ⟨b, 3, none⟩ = some (.slice pk x.keep.length ck) ∧ w5.cell? ⟨ga, oa + m, none⟩ = some (.int .i64 av) := ⟨hB5.at (j := 3) rfl, by
              have hlt : ga < wa.heap.size := Nat.lt_of_lt_of_le HGa.out B0.out.size
              rw [World.cell?_of_block (a := ⟨ga, oa + m, none⟩) (h5.keeps.block ga (Nat.lt_of_lt_of_le hlt HMd.out.jw.size) (fun e => by have := e.1; omega))]
              exact hSd.2⟩
            dsimp only
            refine hK.out _ _ hS5 ?_
            clear hK K
            refine NoPanic.normal ?_
            go_wp2_with fail
            go_meet
            exact ⟨m + 1, sa, by go_num, hmn, HMd.out.op h5, HPn.out, hB5⟩
        case rest =>
        obtain ⟨m1, σ, rfl, hm1, hM, hP, hB⟩ := hcut
        have HMc := Hd.mk hM
        have HP := Hd.mk hP
        have HBc := Hd.mk hB
        have HFt := Hd.mk hP.fit
        clear hM hP hB HM2 HP0 HBB hm
        obtain ⟨nl, hnl⟩ : ∃ nl, l.rows.length = nl := ⟨_, rfl⟩
        have HNL := Hd.mk hnl
        have HWas : Hd (Calls Try.prog 16 #[.pointer (some ⟨L, 0, none⟩)] wc fun e w' => ∃ p c, e = .returned (.slice p nl c) ∧ MW wa w' D L σ l (.slice p7 n7 c7) ps [((.slice p nl c : Value), l.rows)] (some b) ∧ Below wc.heap.size wc w') := ⟨by rw [← hnl]; exact HMc.out.was⟩
        clear hnl
        go_wp2_with fail
        refine HWas.out.mono ?_
        rintro e w3 ⟨p3, c3, rfl, h3, hb3⟩
        have HM3 := Hd.mk h3
        have hB3 := (Keeps.of_below hb3 (fun k h1 h2 => absurd h1 (Nat.not_lt.2 h2)) : Keeps (fun _ => False) wc w3).blk HBc.out (fun h => h)
        have b0 : w3.cell? ⟨b, 0, none⟩ = some (.int .i64 x.d) := hB3.at (j := 0) rfl
        have b1 : w3.cell? ⟨b, 1, none⟩ = some (.string x.row) := hB3.at (j := 1) rfl
        have b2 : w3.cell? ⟨b, 2, none⟩ = some (.slice pr nr cr) := hB3.at (j := 2) rfl
        have b3 : w3.cell? ⟨b, 3, none⟩ = some (.slice pk x.keep.length ck) := hB3.at (j := 3) rfl
        have b4 : w3.cell? ⟨b, 4, none⟩ = some (.int .i64 x.n) := hB3.at (j := 4) rfl
        have HB3 := Hd.mk hB3
        clear h3 hb3 hB3 HMc HBc HWas
        rcases (by omega : t = 3 ∨ t = 4 ∨ t = 5 ∨ t = 6 ∨ t = 7 ∨ t = 0 ∨ t = 1 ∨ t = 2) with rfl | rfl | rfl | rfl | rfl | rfl | rfl | rfl
        -- THE BRANCHES
        · rcases HP.out.flu (by omega) (.slice p3 nl c3) with ⟨h0, hp2⟩ | ⟨h0, hp2⟩ | ⟨h0, hp2⟩
          · obtain ⟨sx, hsx⟩ : ∃ sx, (fluP σ l).2 = sx := ⟨_, rfl⟩
            obtain ⟨lx, hlx⟩ : ∃ lx, fluL σ l = lx := ⟨_, rfl⟩
            have HOp : Hd (LOp w3 12 #[.pointer (some ⟨L, 0, none⟩)] L D σ sx l lx (.int .i64 0)) := ⟨(jFlush_op w3 L D l σ (k * 2000) HFt.out (by omega)).to hsx hlx (congrArg (fun x : Nat => Value.int .i64 (x : Int)) h0)⟩
            have HP2 := Hd.mk hp2
            rw [hsx, hlx] at HP2
            clear hsx hlx h0 hp2
            go_wp2_with fail
            refine (HM3.out.jw.run HOp.out).mono ?_
            rintro e w4 ⟨rfl, h4⟩
            have HB : Hd (Blk w4 b 34 [.int .i64 x.d, .string x.row, .slice pr nr cr, .slice pk x.keep.length ck, .int .i64 x.n]) := ⟨h4.keeps.blk HB3.out (fun e => e.2 (.inr (.inr rfl)))⟩
            have HM0 := Hd.mk (HM3.out.op h4)
            have d2 : w4.cell? ⟨b, 2, none⟩ = some (.slice pr nr cr) := HB.out.at (j := 2) rfl
            clear h4 HM3 HOp HB3
            have HM := Hd.mk HM0.out.clear
            have HPP : Hd (([] : List VR).length ≤ 100) := ⟨Nat.zero_le _⟩
            clear HM0
            have hl1 : (([] : List VR).map (fun y : VR => y.1)).length + 1 ≤ maxLen := by rw [List.length_map]; have := HPP.out; unfold maxLen; show List.length _ + 1 ≤ _; omega
            have hl2 : ((([] : List VR).map (fun y : VR => y.1)).length + 1) * 24 ≤ 140737488355328 := by rw [List.length_map]; have := HPP.out; show (List.length _ + 1) * 24 ≤ _; omega
            have hsz : wa.heap.size ≤ w4.heap.size := HM.out.jw.size
            go_wp2_with (at_builtin; refine wp_app1 rfl _ _ 60 rfl 31 Try.underlying60 HI.out.1 HI.out.2.1 HI.out.2.2.1 HI.out.2.2.2 rfl (.slice none 0 0) (([] : List VR).map (fun y : VR => y.1)) _ w4 rfl HM.out.own rfl rfl hl1 hl2 hsz ?_)
            intro v9 w9 hO9 hK9 hv9
            have hO9' : Own w9 wa.heap.size 31 v9 (([] ++ [(((.slice p3 nl c3) : Value), l.rows)] : List VR).map (fun y : VR => y.1)) := hO9.cast (by simp)
            have HM9 := Hd.mk (HM.out.list (ps' := ([] ++ [(((.slice p3 nl c3) : Value), l.rows)] : List VR)) hK9 hO9' (fun g hg => by
              rcases hv9 with h | ⟨g', h1, h2⟩
              · exact .inl (h ▸ hg)
              · rw [h2] at hg; injection hg with hg; exact .inr (hg ▸ h1)) (fun y hy => by
              rcases List.mem_append.1 hy with hy | hy
              · exact .inl (List.mem_append.2 (.inl hy))
              · have hy : y = (((.slice p3 nl c3) : Value), l.rows) := List.mem_singleton.1 hy
                subst hy
                exact .inl (List.mem_append.2 (.inr List.mem_cons_self))) (fun g hg => by injection hg with hg; subst hg; exact ⟨_, _, HB.out.is⟩))
            obtain ⟨p9, c9, hv9s⟩ := hO9'.slice'
            obtain ⟨n9, hn9⟩ : ∃ n9, (([] ++ [(((.slice p3 nl c3) : Value), l.rows)] : List VR).map (fun y : VR => y.1)).length = n9 := ⟨_, rfl⟩
            rw [hn9] at hv9s
            subst hv9s
            clear hl1 hl2 hsz hO9 hK9 hv9 hO9' hn9 HM HB
            go_wp2
            go_roundw
            case rel => exact ⟨k + 1, sx, lx, L, ([] ++ [((.slice p3 nl c3 : Value), l.rows)]), m1, hlt, by go_num, rfl, rfl, hm1, ⟨(HM9).out.less (fun y hy => by cases hy) (fun g hg => by cases hg), HP2.out⟩⟩
            case measure => simp [intOf]; omega
          · obtain ⟨sx, hsx⟩ : ∃ sx, (fluP σ l).2 = sx := ⟨_, rfl⟩
            obtain ⟨lx, hlx⟩ : ∃ lx, fluL σ l = lx := ⟨_, rfl⟩
            have HOp : Hd (LOp w3 12 #[.pointer (some ⟨L, 0, none⟩)] L D σ sx l lx (.int .i64 12)) := ⟨(jFlush_op w3 L D l σ (k * 2000) HFt.out (by omega)).to hsx hlx (congrArg (fun x : Nat => Value.int .i64 (x : Int)) h0)⟩
            have HP2 := Hd.mk hp2
            rw [hsx, hlx] at HP2
            clear hsx hlx h0 hp2
            go_wp2_with fail
            refine (HM3.out.jw.run HOp.out).mono ?_
            rintro e w4 ⟨rfl, h4⟩
            have HB : Hd (Blk w4 b 34 [.int .i64 x.d, .string x.row, .slice pr nr cr, .slice pk x.keep.length ck, .int .i64 x.n]) := ⟨h4.keeps.blk HB3.out (fun e => e.2 (.inr (.inr rfl)))⟩
            have HM0 := Hd.mk (HM3.out.op h4)
            have d2 : w4.cell? ⟨b, 2, none⟩ = some (.slice pr nr cr) := HB.out.at (j := 2) rfl
            clear h4 HM3 HOp HB3
            have HM := HM0
            have HPP := HPl
            clear HM0
            have hl1 : ((ps : List VR).map (fun y : VR => y.1)).length + 1 ≤ maxLen := by rw [List.length_map]; have := HPP.out; unfold maxLen; show List.length _ + 1 ≤ _; omega
            have hl2 : (((ps : List VR).map (fun y : VR => y.1)).length + 1) * 24 ≤ 140737488355328 := by rw [List.length_map]; have := HPP.out; show (List.length _ + 1) * 24 ≤ _; omega
            have hsz : wa.heap.size ≤ w4.heap.size := HM.out.jw.size
            go_wp2_with (at_builtin; refine wp_app1 rfl _ _ 60 rfl 31 Try.underlying60 HI.out.1 HI.out.2.1 HI.out.2.2.1 HI.out.2.2.2 rfl (.slice p7 n7 c7) ((ps : List VR).map (fun y : VR => y.1)) _ w4 rfl HM.out.own rfl rfl hl1 hl2 hsz ?_)
            intro v9 w9 hO9 hK9 hv9
            have hO9' : Own w9 wa.heap.size 31 v9 ((ps ++ [(((.slice p3 nl c3) : Value), l.rows)] : List VR).map (fun y : VR => y.1)) := hO9.cast (by simp)
            have HM9 := Hd.mk (HM.out.list (ps' := (ps ++ [(((.slice p3 nl c3) : Value), l.rows)] : List VR)) hK9 hO9' (fun g hg => by
              rcases hv9 with h | ⟨g', h1, h2⟩
              · exact .inl (h ▸ hg)
              · rw [h2] at hg; injection hg with hg; exact .inr (hg ▸ h1)) (fun y hy => by
              rcases List.mem_append.1 hy with hy | hy
              · exact .inl (List.mem_append.2 (.inl hy))
              · have hy : y = (((.slice p3 nl c3) : Value), l.rows) := List.mem_singleton.1 hy
                subst hy
                exact .inl (List.mem_append.2 (.inr List.mem_cons_self))) (fun g hg => by injection hg with hg; subst hg; exact ⟨_, _, HB.out.is⟩))
            obtain ⟨p9, c9, hv9s⟩ := hO9'.slice'
            obtain ⟨n9, hn9⟩ : ∃ n9, ((ps ++ [(((.slice p3 nl c3) : Value), l.rows)] : List VR).map (fun y : VR => y.1)).length = n9 := ⟨_, rfl⟩
            rw [hn9] at hv9s
            subst hv9s
            clear hl1 hl2 hsz hO9 hK9 hv9 hO9' hn9 HM HB
            go_wp2
            go_roundw
            case rel => exact ⟨k + 1, sx, lx, L, (ps ++ [((.slice p3 nl c3 : Value), l.rows)]), m1, hlt, by go_num, rfl, rfl, hm1, ⟨(HM9).out.less (fun y hy => by cases hy) (fun g hg => by cases hg), HP2.out⟩⟩
            case measure => simp [intOf]; omega
          · obtain ⟨sx, hsx⟩ : ∃ sx, (fluP σ l).2 = sx := ⟨_, rfl⟩
            obtain ⟨lx, hlx⟩ : ∃ lx, fluL σ l = lx := ⟨_, rfl⟩
            have HOp : Hd (LOp w3 12 #[.pointer (some ⟨L, 0, none⟩)] L D σ sx l lx (.int .i64 10)) := ⟨(jFlush_op w3 L D l σ (k * 2000) HFt.out (by omega)).to hsx hlx (congrArg (fun x : Nat => Value.int .i64 (x : Int)) h0)⟩
            obtain ⟨xx, hd⟩ := hp2
            have HD := Hd.mk hd
            rw [hsx] at HD
            clear hd
            clear hsx hlx h0
            go_wp2_with fail
            refine (HM3.out.jw.run HOp.out).mono ?_
            rintro e w4 ⟨rfl, h4⟩
            have HB : Hd (Blk w4 b 34 [.int .i64 x.d, .string x.row, .slice pr nr cr, .slice pk x.keep.length ck, .int .i64 x.n]) := ⟨h4.keeps.blk HB3.out (fun e => e.2 (.inr (.inr rfl)))⟩
            have HM0 := Hd.mk (HM3.out.op h4)
            have d2 : w4.cell? ⟨b, 2, none⟩ = some (.slice pr nr cr) := HB.out.at (j := 2) rfl
            clear h4 HM3 HOp HB3
            have HM := HM0
            have HPP := HPl
            clear HM0
            have hl1 : ((ps : List VR).map (fun y : VR => y.1)).length + 1 ≤ maxLen := by rw [List.length_map]; have := HPP.out; unfold maxLen; show List.length _ + 1 ≤ _; omega
            have hl2 : (((ps : List VR).map (fun y : VR => y.1)).length + 1) * 24 ≤ 140737488355328 := by rw [List.length_map]; have := HPP.out; show (List.length _ + 1) * 24 ≤ _; omega
            have hsz : wa.heap.size ≤ w4.heap.size := HM.out.jw.size
            go_wp2_with (at_builtin; refine wp_app1 rfl _ _ 60 rfl 31 Try.underlying60 HI.out.1 HI.out.2.1 HI.out.2.2.1 HI.out.2.2.2 rfl (.slice p7 n7 c7) ((ps : List VR).map (fun y : VR => y.1)) _ w4 rfl HM.out.own rfl rfl hl1 hl2 hsz ?_)
            intro v9 w9 hO9 hK9 hv9
            have hO9' : Own w9 wa.heap.size 31 v9 ((ps ++ [(((.slice p3 nl c3) : Value), l.rows)] : List VR).map (fun y : VR => y.1)) := hO9.cast (by simp)
            have HM9 := Hd.mk (HM.out.list (ps' := (ps ++ [(((.slice p3 nl c3) : Value), l.rows)] : List VR)) hK9 hO9' (fun g hg => by
              rcases hv9 with h | ⟨g', h1, h2⟩
              · exact .inl (h ▸ hg)
              · rw [h2] at hg; injection hg with hg; exact .inr (hg ▸ h1)) (fun y hy => by
              rcases List.mem_append.1 hy with hy | hy
              · exact .inl (List.mem_append.2 (.inl hy))
              · have hy : y = (((.slice p3 nl c3) : Value), l.rows) := List.mem_singleton.1 hy
                subst hy
                exact .inl (List.mem_append.2 (.inr List.mem_cons_self))) (fun g hg => by injection hg with hg; subst hg; exact ⟨_, _, HB.out.is⟩))
            obtain ⟨p9, c9, hv9s⟩ := hO9'.slice'
            obtain ⟨n9, hn9⟩ : ∃ n9, ((ps ++ [(((.slice p3 nl c3) : Value), l.rows)] : List VR).map (fun y : VR => y.1)).length = n9 := ⟨_, rfl⟩
            rw [hn9] at hv9s
            subst hv9s
            clear hl1 hl2 hsz hO9 hK9 hv9 hO9' hn9 HM HB
            obtain ⟨nx, hnx⟩ : ∃ nx, xx.length = nx := ⟨_, rfl⟩
            have HNx := Hd.mk hnx
            obtain ⟨sa, hsa⟩ : ∃ sa, armS sx 0 [] = sa := ⟨_, rfl⟩
            obtain ⟨sb, hsb⟩ : ∃ sb, loseS sa 0 = sb := ⟨_, rfl⟩
            obtain ⟨sc, hsc⟩ : ∃ sc, startS sb = sc := ⟨_, rfl⟩
            have HBk : Hd (∀ y : Value, openP sc 3 = (0, xx) ∧ LaP sc ⟨3, xx, xx.length⟩ [(y, xx)] (k + 1)) := ⟨fun y => by rw [← hsc, ← hsb, ← hsa]; exact HD.out.back (by omega) y⟩
            have HXl := Hd.mk (HD.out.len (by omega))
            have HA := Hd.mk hsa
            have HBs := Hd.mk hsb
            have HC := Hd.mk hsc
            have HMd : Hd (MW wa _ D L sx _ (.slice p9 n9 c9) (ps ++ [((.slice p3 nl c3 : Value), l.rows)]) [] none) := ⟨(HM9).out.less (fun y hy => by cases hy) (fun g hg => by cases hg)⟩
            clear hsa hsb hsc hnx HM9
            go_wp2_with fail
            refine (HMd.out.jw.run (OpC.lop (OpC.arm 0 (.slice none 0 0) [] sa (by decide) (IR.nil _ _) HA.out))).mono ?_
            rintro e w30 ⟨rfl, h30⟩
            have HM30 := Hd.mk (HMd.out.op h30)
            clear h30 HMd
            go_wp2_with fail
            refine (HM30.out.jw.run (OpC.lop (OpC.lose 0 sb (by decide) HBs.out))).mono ?_
            rintro e w31 ⟨rfl, h31⟩
            have HM31 := Hd.mk (HM30.out.op h31)
            clear h31 HM30
            go_wp2_with fail
            refine (HM31.out.jw.run (OpC.lop (OpC.start sc HC.out))).mono ?_
            rintro e w32 ⟨rfl, h32⟩
            have HM32 := Hd.mk (HM31.out.op h32)
            clear h32 HM31
            go_wp2_with fail
            refine (HM32.out.open 3 xx (HBk.out (.slice none 0 0)).1).mono ?_
            rintro e w33 ⟨L2, rfl, h33, k33⟩
            have HM33 : Hd (MW wa w33 D L2 sc ⟨3, xx, xx.length⟩ (.slice p9 n9 c9) (ps ++ [((.slice p3 nl c3 : Value), l.rows)]) [] none) := ⟨h33⟩
            have HSu : Hd (Calls Try.prog 17 #[.pointer (some ⟨L2, 0, none⟩)] w33 fun e w' => e = .returned (.int .i64 (nx : Nat)) ∧ w33 = w') := ⟨by rw [← HNx.out]; exact HM33.out.jw.sureOf⟩
            clear h33 k33 HM32
            go_wp2_with fail
            refine HSu.out.mono ?_
            rintro e wx ⟨rfl, rfl⟩
            have HW4 : Hd (Calls Try.prog 16 #[.pointer (some ⟨L2, 0, none⟩)] w33 fun e w' => ∃ p c, e = .returned (.slice p nx c) ∧ MW wa w' D L2 sc ⟨3, xx, xx.length⟩ (.slice p9 n9 c9) (ps ++ [((.slice p3 nl c3 : Value), l.rows)]) [((.slice p nx c : Value), xx)] none ∧ Below w33.heap.size w33 w') := ⟨by rw [← HNx.out]; exact HM33.out.was⟩
            clear HSu HM33
            go_wp2_with fail
            refine HW4.out.mono ?_
            rintro e w34 ⟨p34, c34, rfl, h34, _⟩
            have HM34 : Hd (MW wa w34 D L2 sc ⟨3, xx, xx.length⟩ (.slice p9 n9 c9) (ps ++ [((.slice p3 nl c3 : Value), l.rows)]) [] none) := ⟨h34.less (fun y hy => by cases hy) (fun g hg => hg)⟩
            have HW5 : Hd (Calls Try.prog 16 #[.pointer (some ⟨L2, 0, none⟩)] w34 fun e w' => ∃ p c, e = .returned (.slice p nx c) ∧ MW wa w' D L2 sc ⟨3, xx, xx.length⟩ (.slice p9 n9 c9) (ps ++ [((.slice p3 nl c3 : Value), l.rows)]) [((.slice p nx c : Value), xx)] none ∧ Below w34.heap.size w34 w') := ⟨by rw [← HNx.out]; exact HM34.out.was⟩
            clear h34 HM34 HW4
            go_wp2_with fail
            refine HW5.out.mono ?_
            rintro e w35 ⟨p35, c35, rfl, h35, _⟩
            have HM35 := Hd.mk h35
            clear h35 HW5
            have HFo : Hd (Calls Try.prog 35 #[.slice p35 nx c35, (.slice p9 n9 c9)] w35 fun e w' => e = .returned (.bool true) ∧ Below w35.heap.size w35 w') := ⟨by
              have h := found_any wa w35 (.slice p35 nx c35) (.slice p9 n9 c9) xx (ps ++ [((.slice p3 nl c3 : Value), l.rows)]) (Nat.le_trans HXl.out (by decide)) (Nat.le_trans HD.out.pl (by omega)) (fun y hy => Nat.le_trans (HD.out.each y hy) (by decide)) (HM35.out.each _ (List.mem_append.2 (.inr List.mem_cons_self))).row HM35.out.own (fun y hy => (HM35.out.each y (List.mem_append.2 (.inl hy))).row)
              rw [HD.out.fd] at h
              exact h⟩
            go_wp2_with fail
            refine HFo.out.mono ?_
            rintro e w36 ⟨rfl, hb36⟩
            have HM36 := Hd.mk (HM35.out.of_below hb36)
            clear hb36 HM35 HFo
            go_wp2
            obtain ⟨w37, hw37⟩ : ∃ w37, w36.alloc (.cells #[.slice p35 nx c35] 31) = w37 := ⟨_, rfl⟩
            have hO37 : Own w37 wa.heap.size 31 (.slice (some ⟨w36.heap.size, 0, none⟩) 1 1) (([((.slice p35 nx c35 : Value), xx)] : List VR).map (fun y : VR => y.1)) := by
              have hb : Blk w37 w36.heap.size 31 [.slice p35 nx c35] := hw37 ▸ Blk.new w36 31 [.slice p35 nx c35]
              exact ⟨.inr ⟨w36.heap.size, 1, rfl, HM36.out.jw.size, Nat.le_refl _, by unfold maxLen; omega, ⟨_, _, hb.is, rfl⟩, fun j u hj => hb.at hj, fun j _ => hb.free j⟩⟩
            have k37 : Keeps (fun g => ((.slice p9 n9 c9) : Value).ownBlock = some g) w36 w37 := hw37 ▸ (Keeps.refl _ w36).alloc _
            have HM37 := Hd.mk (HM36.out.list (ps' := [((.slice p35 nx c35 : Value), xx)]) k37 hO37 (fun g hg => by injection hg with hg; exact .inr (Nat.le_of_eq hg)) (fun y hy => by
              rw [List.mem_singleton.1 hy]
              exact .inl (List.mem_append.2 (.inr List.mem_cons_self))) (fun g hg => by cases hg))
            clear k37 hO37 HM36
            go_roundw
            case rel => exact ⟨k + 1, sc, ⟨3, xx, xx.length⟩, L2, [((.slice p35 nx c35 : Value), xx)], m1, hlt, by go_num, rfl, rfl, hm1, ⟨by rw [hw37]; exact HM37.out.less (fun y hy => by cases hy) (fun g hg => by cases hg), (HBk.out _).2⟩⟩
            case measure => simp [intOf]; omega
        · rcases HP.out.flu (by omega) (.slice p3 nl c3) with ⟨h0, hp2⟩ | ⟨h0, hp2⟩ | ⟨h0, hp2⟩
          · obtain ⟨sx, hsx⟩ : ∃ sx, (fluP σ l).2 = sx := ⟨_, rfl⟩
            obtain ⟨lx, hlx⟩ : ∃ lx, fluL σ l = lx := ⟨_, rfl⟩
            have HOp : Hd (LOp w3 12 #[.pointer (some ⟨L, 0, none⟩)] L D σ sx l lx (.int .i64 0)) := ⟨(jFlush_op w3 L D l σ (k * 2000) HFt.out (by omega)).to hsx hlx (congrArg (fun x : Nat => Value.int .i64 (x : Int)) h0)⟩
            have HP2 := Hd.mk hp2
            rw [hsx, hlx] at HP2
            clear hsx hlx h0 hp2
            go_wp2_with fail
            refine (HM3.out.jw.run HOp.out).mono ?_
            rintro e w4 ⟨rfl, h4⟩
            have HB : Hd (Blk w4 b 34 [.int .i64 x.d, .string x.row, .slice pr nr cr, .slice pk x.keep.length ck, .int .i64 x.n]) := ⟨h4.keeps.blk HB3.out (fun e => e.2 (.inr (.inr rfl)))⟩
            have HM0 := Hd.mk (HM3.out.op h4)
            have d2 : w4.cell? ⟨b, 2, none⟩ = some (.slice pr nr cr) := HB.out.at (j := 2) rfl
            clear h4 HM3 HOp HB3
            have HM := Hd.mk HM0.out.clear
            have HPP : Hd (([] : List VR).length ≤ 100) := ⟨Nat.zero_le _⟩
            clear HM0
            have hl1 : (([] : List VR).map (fun y : VR => y.1)).length + 1 ≤ maxLen := by rw [List.length_map]; have := HPP.out; unfold maxLen; show List.length _ + 1 ≤ _; omega
            have hl2 : ((([] : List VR).map (fun y : VR => y.1)).length + 1) * 24 ≤ 140737488355328 := by rw [List.length_map]; have := HPP.out; show (List.length _ + 1) * 24 ≤ _; omega
            have hsz : wa.heap.size ≤ w4.heap.size := HM.out.jw.size
            go_wp2_with (at_builtin; refine wp_app1 rfl _ _ 60 rfl 31 Try.underlying60 HI.out.1 HI.out.2.1 HI.out.2.2.1 HI.out.2.2.2 rfl (.slice none 0 0) (([] : List VR).map (fun y : VR => y.1)) _ w4 rfl HM.out.own rfl rfl hl1 hl2 hsz ?_)
            intro v9 w9 hO9 hK9 hv9
            have hO9' : Own w9 wa.heap.size 31 v9 (([] ++ [(((.slice p3 nl c3) : Value), l.rows)] : List VR).map (fun y : VR => y.1)) := hO9.cast (by simp)
            have HM9 := Hd.mk (HM.out.list (ps' := ([] ++ [(((.slice p3 nl c3) : Value), l.rows)] : List VR)) hK9 hO9' (fun g hg => by
              rcases hv9 with h | ⟨g', h1, h2⟩
              · exact .inl (h ▸ hg)
              · rw [h2] at hg; injection hg with hg; exact .inr (hg ▸ h1)) (fun y hy => by
              rcases List.mem_append.1 hy with hy | hy
              · exact .inl (List.mem_append.2 (.inl hy))
              · have hy : y = (((.slice p3 nl c3) : Value), l.rows) := List.mem_singleton.1 hy
                subst hy
                exact .inl (List.mem_append.2 (.inr List.mem_cons_self))) (fun g hg => by injection hg with hg; subst hg; exact ⟨_, _, HB.out.is⟩))
            obtain ⟨p9, c9, hv9s⟩ := hO9'.slice'
            obtain ⟨n9, hn9⟩ : ∃ n9, (([] ++ [(((.slice p3 nl c3) : Value), l.rows)] : List VR).map (fun y : VR => y.1)).length = n9 := ⟨_, rfl⟩
            rw [hn9] at hv9s
            subst hv9s
            clear hl1 hl2 hsz hO9 hK9 hv9 hO9' hn9 HM HB
            go_wp2
            go_roundw
            case rel => exact ⟨k + 1, sx, lx, L, ([] ++ [((.slice p3 nl c3 : Value), l.rows)]), m1, hlt, by go_num, rfl, rfl, hm1, ⟨(HM9).out.less (fun y hy => by cases hy) (fun g hg => by cases hg), HP2.out⟩⟩
            case measure => simp [intOf]; omega
          · obtain ⟨sx, hsx⟩ : ∃ sx, (fluP σ l).2 = sx := ⟨_, rfl⟩
            obtain ⟨lx, hlx⟩ : ∃ lx, fluL σ l = lx := ⟨_, rfl⟩
            have HOp : Hd (LOp w3 12 #[.pointer (some ⟨L, 0, none⟩)] L D σ sx l lx (.int .i64 12)) := ⟨(jFlush_op w3 L D l σ (k * 2000) HFt.out (by omega)).to hsx hlx (congrArg (fun x : Nat => Value.int .i64 (x : Int)) h0)⟩
            have HP2 := Hd.mk hp2
            rw [hsx, hlx] at HP2
            clear hsx hlx h0 hp2
            go_wp2_with fail
            refine (HM3.out.jw.run HOp.out).mono ?_
            rintro e w4 ⟨rfl, h4⟩
            have HB : Hd (Blk w4 b 34 [.int .i64 x.d, .string x.row, .slice pr nr cr, .slice pk x.keep.length ck, .int .i64 x.n]) := ⟨h4.keeps.blk HB3.out (fun e => e.2 (.inr (.inr rfl)))⟩
            have HM0 := Hd.mk (HM3.out.op h4)
            have d2 : w4.cell? ⟨b, 2, none⟩ = some (.slice pr nr cr) := HB.out.at (j := 2) rfl
            clear h4 HM3 HOp HB3
            have HM := HM0
            have HPP := HPl
            clear HM0
            have hl1 : ((ps : List VR).map (fun y : VR => y.1)).length + 1 ≤ maxLen := by rw [List.length_map]; have := HPP.out; unfold maxLen; show List.length _ + 1 ≤ _; omega
            have hl2 : (((ps : List VR).map (fun y : VR => y.1)).length + 1) * 24 ≤ 140737488355328 := by rw [List.length_map]; have := HPP.out; show (List.length _ + 1) * 24 ≤ _; omega
            have hsz : wa.heap.size ≤ w4.heap.size := HM.out.jw.size
            go_wp2_with (at_builtin; refine wp_app1 rfl _ _ 60 rfl 31 Try.underlying60 HI.out.1 HI.out.2.1 HI.out.2.2.1 HI.out.2.2.2 rfl (.slice p7 n7 c7) ((ps : List VR).map (fun y : VR => y.1)) _ w4 rfl HM.out.own rfl rfl hl1 hl2 hsz ?_)
            intro v9 w9 hO9 hK9 hv9
            have hO9' : Own w9 wa.heap.size 31 v9 ((ps ++ [(((.slice p3 nl c3) : Value), l.rows)] : List VR).map (fun y : VR => y.1)) := hO9.cast (by simp)
            have HM9 := Hd.mk (HM.out.list (ps' := (ps ++ [(((.slice p3 nl c3) : Value), l.rows)] : List VR)) hK9 hO9' (fun g hg => by
              rcases hv9 with h | ⟨g', h1, h2⟩
              · exact .inl (h ▸ hg)
              · rw [h2] at hg; injection hg with hg; exact .inr (hg ▸ h1)) (fun y hy => by
              rcases List.mem_append.1 hy with hy | hy
              · exact .inl (List.mem_append.2 (.inl hy))
              · have hy : y = (((.slice p3 nl c3) : Value), l.rows) := List.mem_singleton.1 hy
                subst hy
                exact .inl (List.mem_append.2 (.inr List.mem_cons_self))) (fun g hg => by injection hg with hg; subst hg; exact ⟨_, _, HB.out.is⟩))
            obtain ⟨p9, c9, hv9s⟩ := hO9'.slice'
            obtain ⟨n9, hn9⟩ : ∃ n9, ((ps ++ [(((.slice p3 nl c3) : Value), l.rows)] : List VR).map (fun y : VR => y.1)).length = n9 := ⟨_, rfl⟩
            rw [hn9] at hv9s
            subst hv9s
            clear hl1 hl2 hsz hO9 hK9 hv9 hO9' hn9 HM HB
            go_wp2
            go_roundw
            case rel => exact ⟨k + 1, sx, lx, L, (ps ++ [((.slice p3 nl c3 : Value), l.rows)]), m1, hlt, by go_num, rfl, rfl, hm1, ⟨(HM9).out.less (fun y hy => by cases hy) (fun g hg => by cases hg), HP2.out⟩⟩
            case measure => simp [intOf]; omega
          · obtain ⟨sx, hsx⟩ : ∃ sx, (fluP σ l).2 = sx := ⟨_, rfl⟩
            obtain ⟨lx, hlx⟩ : ∃ lx, fluL σ l = lx := ⟨_, rfl⟩
            have HOp : Hd (LOp w3 12 #[.pointer (some ⟨L, 0, none⟩)] L D σ sx l lx (.int .i64 10)) := ⟨(jFlush_op w3 L D l σ (k * 2000) HFt.out (by omega)).to hsx hlx (congrArg (fun x : Nat => Value.int .i64 (x : Int)) h0)⟩
            obtain ⟨xx, hd⟩ := hp2
            have HD := Hd.mk hd
            rw [hsx] at HD
            clear hd
            clear hsx hlx h0
            go_wp2_with fail
            refine (HM3.out.jw.run HOp.out).mono ?_
            rintro e w4 ⟨rfl, h4⟩
            have HB : Hd (Blk w4 b 34 [.int .i64 x.d, .string x.row, .slice pr nr cr, .slice pk x.keep.length ck, .int .i64 x.n]) := ⟨h4.keeps.blk HB3.out (fun e => e.2 (.inr (.inr rfl)))⟩
            have HM0 := Hd.mk (HM3.out.op h4)
            have d2 : w4.cell? ⟨b, 2, none⟩ = some (.slice pr nr cr) := HB.out.at (j := 2) rfl
            clear h4 HM3 HOp HB3
            have HM := HM0
            have HPP := HPl
            clear HM0
            have hl1 : ((ps : List VR).map (fun y : VR => y.1)).length + 1 ≤ maxLen := by rw [List.length_map]; have := HPP.out; unfold maxLen; show List.length _ + 1 ≤ _; omega
            have hl2 : (((ps : List VR).map (fun y : VR => y.1)).length + 1) * 24 ≤ 140737488355328 := by rw [List.length_map]; have := HPP.out; show (List.length _ + 1) * 24 ≤ _; omega
            have hsz : wa.heap.size ≤ w4.heap.size := HM.out.jw.size
            go_wp2_with (at_builtin; refine wp_app1 rfl _ _ 60 rfl 31 Try.underlying60 HI.out.1 HI.out.2.1 HI.out.2.2.1 HI.out.2.2.2 rfl (.slice p7 n7 c7) ((ps : List VR).map (fun y : VR => y.1)) _ w4 rfl HM.out.own rfl rfl hl1 hl2 hsz ?_)
            intro v9 w9 hO9 hK9 hv9
            have hO9' : Own w9 wa.heap.size 31 v9 ((ps ++ [(((.slice p3 nl c3) : Value), l.rows)] : List VR).map (fun y : VR => y.1)) := hO9.cast (by simp)
            have HM9 := Hd.mk (HM.out.list (ps' := (ps ++ [(((.slice p3 nl c3) : Value), l.rows)] : List VR)) hK9 hO9' (fun g hg => by
              rcases hv9 with h | ⟨g', h1, h2⟩
              · exact .inl (h ▸ hg)
              · rw [h2] at hg; injection hg with hg; exact .inr (hg ▸ h1)) (fun y hy => by
              rcases List.mem_append.1 hy with hy | hy
              · exact .inl (List.mem_append.2 (.inl hy))
              · have hy : y = (((.slice p3 nl c3) : Value), l.rows) := List.mem_singleton.1 hy
                subst hy
                exact .inl (List.mem_append.2 (.inr List.mem_cons_self))) (fun g hg => by injection hg with hg; subst hg; exact ⟨_, _, HB.out.is⟩))
            obtain ⟨p9, c9, hv9s⟩ := hO9'.slice'
            obtain ⟨n9, hn9⟩ : ∃ n9, ((ps ++ [(((.slice p3 nl c3) : Value), l.rows)] : List VR).map (fun y : VR => y.1)).length = n9 := ⟨_, rfl⟩
            rw [hn9] at hv9s
            subst hv9s
            clear hl1 hl2 hsz hO9 hK9 hv9 hO9' hn9 HM HB
            obtain ⟨nx, hnx⟩ : ∃ nx, xx.length = nx := ⟨_, rfl⟩
            have HNx := Hd.mk hnx
            obtain ⟨sa, hsa⟩ : ∃ sa, armS sx 0 [] = sa := ⟨_, rfl⟩
            obtain ⟨sb, hsb⟩ : ∃ sb, loseS sa 0 = sb := ⟨_, rfl⟩
            obtain ⟨sc, hsc⟩ : ∃ sc, startS sb = sc := ⟨_, rfl⟩
            have HBk : Hd (∀ y : Value, openP sc 3 = (0, xx) ∧ LaP sc ⟨3, xx, xx.length⟩ [(y, xx)] (k + 1)) := ⟨fun y => by rw [← hsc, ← hsb, ← hsa]; exact HD.out.back (by omega) y⟩
            have HXl := Hd.mk (HD.out.len (by omega))
            have HA := Hd.mk hsa
            have HBs := Hd.mk hsb
            have HC := Hd.mk hsc
            have HMd : Hd (MW wa _ D L sx _ (.slice p9 n9 c9) (ps ++ [((.slice p3 nl c3 : Value), l.rows)]) [] none) := ⟨(HM9).out.less (fun y hy => by cases hy) (fun g hg => by cases hg)⟩
            clear hsa hsb hsc hnx HM9
            go_wp2_with fail
            refine (HMd.out.jw.run (OpC.lop (OpC.arm 0 (.slice none 0 0) [] sa (by decide) (IR.nil _ _) HA.out))).mono ?_
            rintro e w30 ⟨rfl, h30⟩
            have HM30 := Hd.mk (HMd.out.op h30)
            clear h30 HMd
            go_wp2_with fail
            refine (HM30.out.jw.run (OpC.lop (OpC.lose 0 sb (by decide) HBs.out))).mono ?_
            rintro e w31 ⟨rfl, h31⟩
            have HM31 := Hd.mk (HM30.out.op h31)
            clear h31 HM30
            go_wp2_with fail
            refine (HM31.out.jw.run (OpC.lop (OpC.start sc HC.out))).mono ?_
            rintro e w32 ⟨rfl, h32⟩
            have HM32 := Hd.mk (HM31.out.op h32)
            clear h32 HM31
            go_wp2_with fail
            refine (HM32.out.open 3 xx (HBk.out (.slice none 0 0)).1).mono ?_
            rintro e w33 ⟨L2, rfl, h33, k33⟩
            have HM33 : Hd (MW wa w33 D L2 sc ⟨3, xx, xx.length⟩ (.slice p9 n9 c9) (ps ++ [((.slice p3 nl c3 : Value), l.rows)]) [] none) := ⟨h33⟩
            have HSu : Hd (Calls Try.prog 17 #[.pointer (some ⟨L2, 0, none⟩)] w33 fun e w' => e = .returned (.int .i64 (nx : Nat)) ∧ w33 = w') := ⟨by rw [← HNx.out]; exact HM33.out.jw.sureOf⟩
            clear h33 k33 HM32
            go_wp2_with fail
            refine HSu.out.mono ?_
            rintro e wx ⟨rfl, rfl⟩
            have HW4 : Hd (Calls Try.prog 16 #[.pointer (some ⟨L2, 0, none⟩)] w33 fun e w' => ∃ p c, e = .returned (.slice p nx c) ∧ MW wa w' D L2 sc ⟨3, xx, xx.length⟩ (.slice p9 n9 c9) (ps ++ [((.slice p3 nl c3 : Value), l.rows)]) [((.slice p nx c : Value), xx)] none ∧ Below w33.heap.size w33 w') := ⟨by rw [← HNx.out]; exact HM33.out.was⟩
            clear HSu HM33
            go_wp2_with fail
            refine HW4.out.mono ?_
            rintro e w34 ⟨p34, c34, rfl, h34, _⟩
            have HM34 : Hd (MW wa w34 D L2 sc ⟨3, xx, xx.length⟩ (.slice p9 n9 c9) (ps ++ [((.slice p3 nl c3 : Value), l.rows)]) [] none) := ⟨h34.less (fun y hy => by cases hy) (fun g hg => hg)⟩
            have HW5 : Hd (Calls Try.prog 16 #[.pointer (some ⟨L2, 0, none⟩)] w34 fun e w' => ∃ p c, e = .returned (.slice p nx c) ∧ MW wa w' D L2 sc ⟨3, xx, xx.length⟩ (.slice p9 n9 c9) (ps ++ [((.slice p3 nl c3 : Value), l.rows)]) [((.slice p nx c : Value), xx)] none ∧ Below w34.heap.size w34 w') := ⟨by rw [← HNx.out]; exact HM34.out.was⟩
            clear h34 HM34 HW4
            go_wp2_with fail
            refine HW5.out.mono ?_
            rintro e w35 ⟨p35, c35, rfl, h35, _⟩
            have HM35 := Hd.mk h35
            clear h35 HW5
            have HFo : Hd (Calls Try.prog 35 #[.slice p35 nx c35, (.slice p9 n9 c9)] w35 fun e w' => e = .returned (.bool true) ∧ Below w35.heap.size w35 w') := ⟨by
              have h := found_any wa w35 (.slice p35 nx c35) (.slice p9 n9 c9) xx (ps ++ [((.slice p3 nl c3 : Value), l.rows)]) (Nat.le_trans HXl.out (by decide)) (Nat.le_trans HD.out.pl (by omega)) (fun y hy => Nat.le_trans (HD.out.each y hy) (by decide)) (HM35.out.each _ (List.mem_append.2 (.inr List.mem_cons_self))).row HM35.out.own (fun y hy => (HM35.out.each y (List.mem_append.2 (.inl hy))).row)
              rw [HD.out.fd] at h
              exact h⟩
            go_wp2_with fail
            refine HFo.out.mono ?_
            rintro e w36 ⟨rfl, hb36⟩
            have HM36 := Hd.mk (HM35.out.of_below hb36)
            clear hb36 HM35 HFo
            go_wp2
            obtain ⟨w37, hw37⟩ : ∃ w37, w36.alloc (.cells #[.slice p35 nx c35] 31) = w37 := ⟨_, rfl⟩
            have hO37 : Own w37 wa.heap.size 31 (.slice (some ⟨w36.heap.size, 0, none⟩) 1 1) (([((.slice p35 nx c35 : Value), xx)] : List VR).map (fun y : VR => y.1)) := by
              have hb : Blk w37 w36.heap.size 31 [.slice p35 nx c35] := hw37 ▸ Blk.new w36 31 [.slice p35 nx c35]
              exact ⟨.inr ⟨w36.heap.size, 1, rfl, HM36.out.jw.size, Nat.le_refl _, by unfold maxLen; omega, ⟨_, _, hb.is, rfl⟩, fun j u hj => hb.at hj, fun j _ => hb.free j⟩⟩
            have k37 : Keeps (fun g => ((.slice p9 n9 c9) : Value).ownBlock = some g) w36 w37 := hw37 ▸ (Keeps.refl _ w36).alloc _
            have HM37 := Hd.mk (HM36.out.list (ps' := [((.slice p35 nx c35 : Value), xx)]) k37 hO37 (fun g hg => by injection hg with hg; exact .inr (Nat.le_of_eq hg)) (fun y hy => by
              rw [List.mem_singleton.1 hy]
              exact .inl (List.mem_append.2 (.inr List.mem_cons_self))) (fun g hg => by cases hg))
            clear k37 hO37 HM36
            go_roundw
            case rel => exact ⟨k + 1, sc, ⟨3, xx, xx.length⟩, L2, [((.slice p35 nx c35 : Value), xx)], m1, hlt, by go_num, rfl, rfl, hm1, ⟨by rw [hw37]; exact HM37.out.less (fun y hy => by cases hy) (fun g hg => by cases hg), (HBk.out _).2⟩⟩
            case measure => simp [intOf]; omega
        · rcases HP.out.rew (by omega) (.slice pr nr cr) x.rows HFm.out HRN.out with ⟨h0, hp2⟩ | ⟨h0, hp2⟩ | ⟨h0, hp2⟩
          · obtain ⟨sx, hsx⟩ : ∃ sx, (rewP σ l.f x.rows).2 = sx := ⟨_, rfl⟩
            obtain ⟨lx, hlx⟩ : ∃ lx, rewL σ l x.rows = lx := ⟨_, rfl⟩
            have HOp := Hd.mk (HM3.out.jw.rewriteTo pr cr nr x.rows HNR.out (k * 2000) HFt.out (by omega) (Nat.le_trans HFm.out (by decide)) (HRv.out w3 (Below.chain B0.out HM3.out.jw.below)) (fun a ha h0 => .inl (HNe.out a ha h0)) 0 (congrArg Nat.cast h0) hsx hlx)
            have HP2 := Hd.mk hp2
            rw [hsx, hlx] at HP2
            clear hsx hlx h0 hp2
            go_wp2_with fail
            refine HOp.out.mono ?_
            rintro e w4 ⟨rfl, h4⟩
            have HB : Hd (Blk w4 b 34 [.int .i64 x.d, .string x.row, .slice pr nr cr, .slice pk x.keep.length ck, .int .i64 x.n]) := ⟨h4.keeps.blk HB3.out (fun e => e.2 (.inr (.inr rfl)))⟩
            have HM0 := Hd.mk (HM3.out.op h4)
            have d2 : w4.cell? ⟨b, 2, none⟩ = some (.slice pr nr cr) := HB.out.at (j := 2) rfl
            clear h4 HM3 HOp HB3
            have HM := Hd.mk HM0.out.clear
            have HPP : Hd (([] : List VR).length ≤ 100) := ⟨Nat.zero_le _⟩
            clear HM0
            have hl1 : (([] : List VR).map (fun y : VR => y.1)).length + 1 ≤ maxLen := by rw [List.length_map]; have := HPP.out; unfold maxLen; show List.length _ + 1 ≤ _; omega
            have hl2 : ((([] : List VR).map (fun y : VR => y.1)).length + 1) * 24 ≤ 140737488355328 := by rw [List.length_map]; have := HPP.out; show (List.length _ + 1) * 24 ≤ _; omega
            have hsz : wa.heap.size ≤ w4.heap.size := HM.out.jw.size
            go_wp2_with (at_builtin; refine wp_app1 rfl _ _ 60 rfl 31 Try.underlying60 HI.out.1 HI.out.2.1 HI.out.2.2.1 HI.out.2.2.2 rfl (.slice none 0 0) (([] : List VR).map (fun y : VR => y.1)) _ w4 rfl HM.out.own rfl rfl hl1 hl2 hsz ?_)
            intro v9 w9 hO9 hK9 hv9
            have hO9' : Own w9 wa.heap.size 31 v9 (([] ++ [(((.slice pr nr cr) : Value), x.rows)] : List VR).map (fun y : VR => y.1)) := hO9.cast (by simp)
            have HM9 := Hd.mk (HM.out.list (ps' := ([] ++ [(((.slice pr nr cr) : Value), x.rows)] : List VR)) hK9 hO9' (fun g hg => by
              rcases hv9 with h | ⟨g', h1, h2⟩
              · exact .inl (h ▸ hg)
              · rw [h2] at hg; injection hg with hg; exact .inr (hg ▸ h1)) (fun y hy => by
              rcases List.mem_append.1 hy with hy | hy
              · exact .inl (List.mem_append.2 (.inl hy))
              · have hy : y = (((.slice pr nr cr) : Value), x.rows) := List.mem_singleton.1 hy
                subst hy
                exact .inr ⟨⟨HRv.out w4 (Below.chain B0.out HM.out.jw.below), fun g hg h0 => .inl (HRl.out g hg h0)⟩, fun g hg h0 => HRl.out g hg h0⟩) (fun g hg => by injection hg with hg; subst hg; exact ⟨_, _, HB.out.is⟩))
            obtain ⟨p9, c9, hv9s⟩ := hO9'.slice'
            obtain ⟨n9, hn9⟩ : ∃ n9, (([] ++ [(((.slice pr nr cr) : Value), x.rows)] : List VR).map (fun y : VR => y.1)).length = n9 := ⟨_, rfl⟩
            rw [hn9] at hv9s
            subst hv9s
            clear hl1 hl2 hsz hO9 hK9 hv9 hO9' hn9 HM HB
            go_wp2
            go_roundw
            case rel => exact ⟨k + 1, sx, lx, L, ([] ++ [((.slice pr nr cr : Value), x.rows)]), m1, hlt, by go_num, rfl, rfl, hm1, ⟨(HM9).out.less (fun y hy => by cases hy) (fun g hg => by cases hg), HP2.out⟩⟩
            case measure => simp [intOf]; omega
          · obtain ⟨sx, hsx⟩ : ∃ sx, (rewP σ l.f x.rows).2 = sx := ⟨_, rfl⟩
            obtain ⟨lx, hlx⟩ : ∃ lx, rewL σ l x.rows = lx := ⟨_, rfl⟩
            have HOp := Hd.mk (HM3.out.jw.rewriteTo pr cr nr x.rows HNR.out (k * 2000) HFt.out (by omega) (Nat.le_trans HFm.out (by decide)) (HRv.out w3 (Below.chain B0.out HM3.out.jw.below)) (fun a ha h0 => .inl (HNe.out a ha h0)) 12 (congrArg Nat.cast h0) hsx hlx)
            have HP2 := Hd.mk hp2
            rw [hsx, hlx] at HP2
            clear hsx hlx h0 hp2
            go_wp2_with fail
            refine HOp.out.mono ?_
            rintro e w4 ⟨rfl, h4⟩
            have HB : Hd (Blk w4 b 34 [.int .i64 x.d, .string x.row, .slice pr nr cr, .slice pk x.keep.length ck, .int .i64 x.n]) := ⟨h4.keeps.blk HB3.out (fun e => e.2 (.inr (.inr rfl)))⟩
            have HM0 := Hd.mk (HM3.out.op h4)
            have d2 : w4.cell? ⟨b, 2, none⟩ = some (.slice pr nr cr) := HB.out.at (j := 2) rfl
            clear h4 HM3 HOp HB3
            have HM := HM0
            have HPP := HPl
            clear HM0
            have hl1 : ((ps : List VR).map (fun y : VR => y.1)).length + 1 ≤ maxLen := by rw [List.length_map]; have := HPP.out; unfold maxLen; show List.length _ + 1 ≤ _; omega
            have hl2 : (((ps : List VR).map (fun y : VR => y.1)).length + 1) * 24 ≤ 140737488355328 := by rw [List.length_map]; have := HPP.out; show (List.length _ + 1) * 24 ≤ _; omega
            have hsz : wa.heap.size ≤ w4.heap.size := HM.out.jw.size
            go_wp2_with (at_builtin; refine wp_app1 rfl _ _ 60 rfl 31 Try.underlying60 HI.out.1 HI.out.2.1 HI.out.2.2.1 HI.out.2.2.2 rfl (.slice p7 n7 c7) ((ps : List VR).map (fun y : VR => y.1)) _ w4 rfl HM.out.own rfl rfl hl1 hl2 hsz ?_)
            intro v9 w9 hO9 hK9 hv9
            have hO9' : Own w9 wa.heap.size 31 v9 ((ps ++ [(((.slice pr nr cr) : Value), x.rows)] : List VR).map (fun y : VR => y.1)) := hO9.cast (by simp)
            have HM9 := Hd.mk (HM.out.list (ps' := (ps ++ [(((.slice pr nr cr) : Value), x.rows)] : List VR)) hK9 hO9' (fun g hg => by
              rcases hv9 with h | ⟨g', h1, h2⟩
              · exact .inl (h ▸ hg)
              · rw [h2] at hg; injection hg with hg; exact .inr (hg ▸ h1)) (fun y hy => by
              rcases List.mem_append.1 hy with hy | hy
              · exact .inl (List.mem_append.2 (.inl hy))
              · have hy : y = (((.slice pr nr cr) : Value), x.rows) := List.mem_singleton.1 hy
                subst hy
                exact .inr ⟨⟨HRv.out w4 (Below.chain B0.out HM.out.jw.below), fun g hg h0 => .inl (HRl.out g hg h0)⟩, fun g hg h0 => HRl.out g hg h0⟩) (fun g hg => by injection hg with hg; subst hg; exact ⟨_, _, HB.out.is⟩))
            obtain ⟨p9, c9, hv9s⟩ := hO9'.slice'
            obtain ⟨n9, hn9⟩ : ∃ n9, ((ps ++ [(((.slice pr nr cr) : Value), x.rows)] : List VR).map (fun y : VR => y.1)).length = n9 := ⟨_, rfl⟩
            rw [hn9] at hv9s
            subst hv9s
            clear hl1 hl2 hsz hO9 hK9 hv9 hO9' hn9 HM HB
            go_wp2
            go_roundw
            case rel => exact ⟨k + 1, sx, lx, L, (ps ++ [((.slice pr nr cr : Value), x.rows)]), m1, hlt, by go_num, rfl, rfl, hm1, ⟨(HM9).out.less (fun y hy => by cases hy) (fun g hg => by cases hg), HP2.out⟩⟩
            case measure => simp [intOf]; omega
          · obtain ⟨sx, hsx⟩ : ∃ sx, (rewP σ l.f x.rows).2 = sx := ⟨_, rfl⟩
            obtain ⟨lx, hlx⟩ : ∃ lx, rewL σ l x.rows = lx := ⟨_, rfl⟩
            have HOp := Hd.mk (HM3.out.jw.rewriteTo pr cr nr x.rows HNR.out (k * 2000) HFt.out (by omega) (Nat.le_trans HFm.out (by decide)) (HRv.out w3 (Below.chain B0.out HM3.out.jw.below)) (fun a ha h0 => .inl (HNe.out a ha h0)) 10 (congrArg Nat.cast h0) hsx hlx)
            obtain ⟨xx, hd⟩ := hp2
            have HD := Hd.mk hd
            rw [hsx] at HD
            clear hd
            clear hsx hlx h0
            go_wp2_with fail
            refine HOp.out.mono ?_
            rintro e w4 ⟨rfl, h4⟩
            have HB : Hd (Blk w4 b 34 [.int .i64 x.d, .string x.row, .slice pr nr cr, .slice pk x.keep.length ck, .int .i64 x.n]) := ⟨h4.keeps.blk HB3.out (fun e => e.2 (.inr (.inr rfl)))⟩
            have HM0 := Hd.mk (HM3.out.op h4)
            have d2 : w4.cell? ⟨b, 2, none⟩ = some (.slice pr nr cr) := HB.out.at (j := 2) rfl
            clear h4 HM3 HOp HB3
            have HM := HM0
            have HPP := HPl
            clear HM0
            have hl1 : ((ps : List VR).map (fun y : VR => y.1)).length + 1 ≤ maxLen := by rw [List.length_map]; have := HPP.out; unfold maxLen; show List.length _ + 1 ≤ _; omega
            have hl2 : (((ps : List VR).map (fun y : VR => y.1)).length + 1) * 24 ≤ 140737488355328 := by rw [List.length_map]; have := HPP.out; show (List.length _ + 1) * 24 ≤ _; omega
            have hsz : wa.heap.size ≤ w4.heap.size := HM.out.jw.size
            go_wp2_with (at_builtin; refine wp_app1 rfl _ _ 60 rfl 31 Try.underlying60 HI.out.1 HI.out.2.1 HI.out.2.2.1 HI.out.2.2.2 rfl (.slice p7 n7 c7) ((ps : List VR).map (fun y : VR => y.1)) _ w4 rfl HM.out.own rfl rfl hl1 hl2 hsz ?_)
            intro v9 w9 hO9 hK9 hv9
            have hO9' : Own w9 wa.heap.size 31 v9 ((ps ++ [(((.slice pr nr cr) : Value), x.rows)] : List VR).map (fun y : VR => y.1)) := hO9.cast (by simp)
            have HM9 := Hd.mk (HM.out.list (ps' := (ps ++ [(((.slice pr nr cr) : Value), x.rows)] : List VR)) hK9 hO9' (fun g hg => by
              rcases hv9 with h | ⟨g', h1, h2⟩
              · exact .inl (h ▸ hg)
              · rw [h2] at hg; injection hg with hg; exact .inr (hg ▸ h1)) (fun y hy => by
              rcases List.mem_append.1 hy with hy | hy
              · exact .inl (List.mem_append.2 (.inl hy))
              · have hy : y = (((.slice pr nr cr) : Value), x.rows) := List.mem_singleton.1 hy
                subst hy
                exact .inr ⟨⟨HRv.out w4 (Below.chain B0.out HM.out.jw.below), fun g hg h0 => .inl (HRl.out g hg h0)⟩, fun g hg h0 => HRl.out g hg h0⟩) (fun g hg => by injection hg with hg; subst hg; exact ⟨_, _, HB.out.is⟩))
            obtain ⟨p9, c9, hv9s⟩ := hO9'.slice'
            obtain ⟨n9, hn9⟩ : ∃ n9, ((ps ++ [(((.slice pr nr cr) : Value), x.rows)] : List VR).map (fun y : VR => y.1)).length = n9 := ⟨_, rfl⟩
            rw [hn9] at hv9s
            subst hv9s
            clear hl1 hl2 hsz hO9 hK9 hv9 hO9' hn9 HM HB
            obtain ⟨nx, hnx⟩ : ∃ nx, xx.length = nx := ⟨_, rfl⟩
            have HNx := Hd.mk hnx
            obtain ⟨sa, hsa⟩ : ∃ sa, armS sx 0 [] = sa := ⟨_, rfl⟩
            obtain ⟨sb, hsb⟩ : ∃ sb, loseS sa 0 = sb := ⟨_, rfl⟩
            obtain ⟨sc, hsc⟩ : ∃ sc, startS sb = sc := ⟨_, rfl⟩
            have HBk : Hd (∀ y : Value, openP sc 3 = (0, xx) ∧ LaP sc ⟨3, xx, xx.length⟩ [(y, xx)] (k + 1)) := ⟨fun y => by rw [← hsc, ← hsb, ← hsa]; exact HD.out.back (by omega) y⟩
            have HXl := Hd.mk (HD.out.len (by omega))
            have HA := Hd.mk hsa
            have HBs := Hd.mk hsb
            have HC := Hd.mk hsc
            have HMd : Hd (MW wa _ D L sx _ (.slice p9 n9 c9) (ps ++ [((.slice pr nr cr : Value), x.rows)]) [] none) := ⟨(HM9).out.less (fun y hy => by cases hy) (fun g hg => by cases hg)⟩
            clear hsa hsb hsc hnx HM9
            go_wp2_with fail
            refine (HMd.out.jw.run (OpC.lop (OpC.arm 0 (.slice none 0 0) [] sa (by decide) (IR.nil _ _) HA.out))).mono ?_
            rintro e w30 ⟨rfl, h30⟩
            have HM30 := Hd.mk (HMd.out.op h30)
            clear h30 HMd
            go_wp2_with fail
            refine (HM30.out.jw.run (OpC.lop (OpC.lose 0 sb (by decide) HBs.out))).mono ?_
            rintro e w31 ⟨rfl, h31⟩
            have HM31 := Hd.mk (HM30.out.op h31)
            clear h31 HM30
            go_wp2_with fail
            refine (HM31.out.jw.run (OpC.lop (OpC.start sc HC.out))).mono ?_
            rintro e w32 ⟨rfl, h32⟩
            have HM32 := Hd.mk (HM31.out.op h32)
            clear h32 HM31
            go_wp2_with fail
            refine (HM32.out.open 3 xx (HBk.out (.slice none 0 0)).1).mono ?_
            rintro e w33 ⟨L2, rfl, h33, k33⟩
            have HM33 : Hd (MW wa w33 D L2 sc ⟨3, xx, xx.length⟩ (.slice p9 n9 c9) (ps ++ [((.slice pr nr cr : Value), x.rows)]) [] none) := ⟨h33⟩
            have HSu : Hd (Calls Try.prog 17 #[.pointer (some ⟨L2, 0, none⟩)] w33 fun e w' => e = .returned (.int .i64 (nx : Nat)) ∧ w33 = w') := ⟨by rw [← HNx.out]; exact HM33.out.jw.sureOf⟩
            clear h33 k33 HM32
            go_wp2_with fail
            refine HSu.out.mono ?_
            rintro e wx ⟨rfl, rfl⟩
            have HW4 : Hd (Calls Try.prog 16 #[.pointer (some ⟨L2, 0, none⟩)] w33 fun e w' => ∃ p c, e = .returned (.slice p nx c) ∧ MW wa w' D L2 sc ⟨3, xx, xx.length⟩ (.slice p9 n9 c9) (ps ++ [((.slice pr nr cr : Value), x.rows)]) [((.slice p nx c : Value), xx)] none ∧ Below w33.heap.size w33 w') := ⟨by rw [← HNx.out]; exact HM33.out.was⟩
            clear HSu HM33
            go_wp2_with fail
            refine HW4.out.mono ?_
            rintro e w34 ⟨p34, c34, rfl, h34, _⟩
            have HM34 : Hd (MW wa w34 D L2 sc ⟨3, xx, xx.length⟩ (.slice p9 n9 c9) (ps ++ [((.slice pr nr cr : Value), x.rows)]) [] none) := ⟨h34.less (fun y hy => by cases hy) (fun g hg => hg)⟩
            have HW5 : Hd (Calls Try.prog 16 #[.pointer (some ⟨L2, 0, none⟩)] w34 fun e w' => ∃ p c, e = .returned (.slice p nx c) ∧ MW wa w' D L2 sc ⟨3, xx, xx.length⟩ (.slice p9 n9 c9) (ps ++ [((.slice pr nr cr : Value), x.rows)]) [((.slice p nx c : Value), xx)] none ∧ Below w34.heap.size w34 w') := ⟨by rw [← HNx.out]; exact HM34.out.was⟩
            clear h34 HM34 HW4
            go_wp2_with fail
            refine HW5.out.mono ?_
            rintro e w35 ⟨p35, c35, rfl, h35, _⟩
            have HM35 := Hd.mk h35
            clear h35 HW5
            have HFo : Hd (Calls Try.prog 35 #[.slice p35 nx c35, (.slice p9 n9 c9)] w35 fun e w' => e = .returned (.bool true) ∧ Below w35.heap.size w35 w') := ⟨by
              have h := found_any wa w35 (.slice p35 nx c35) (.slice p9 n9 c9) xx (ps ++ [((.slice pr nr cr : Value), x.rows)]) (Nat.le_trans HXl.out (by decide)) (Nat.le_trans HD.out.pl (by omega)) (fun y hy => Nat.le_trans (HD.out.each y hy) (by decide)) (HM35.out.each _ (List.mem_append.2 (.inr List.mem_cons_self))).row HM35.out.own (fun y hy => (HM35.out.each y (List.mem_append.2 (.inl hy))).row)
              rw [HD.out.fd] at h
              exact h⟩
            go_wp2_with fail
            refine HFo.out.mono ?_
            rintro e w36 ⟨rfl, hb36⟩
            have HM36 := Hd.mk (HM35.out.of_below hb36)
            clear hb36 HM35 HFo
            go_wp2
            obtain ⟨w37, hw37⟩ : ∃ w37, w36.alloc (.cells #[.slice p35 nx c35] 31) = w37 := ⟨_, rfl⟩
            have hO37 : Own w37 wa.heap.size 31 (.slice (some ⟨w36.heap.size, 0, none⟩) 1 1) (([((.slice p35 nx c35 : Value), xx)] : List VR).map (fun y : VR => y.1)) := by
              have hb : Blk w37 w36.heap.size 31 [.slice p35 nx c35] := hw37 ▸ Blk.new w36 31 [.slice p35 nx c35]
              exact ⟨.inr ⟨w36.heap.size, 1, rfl, HM36.out.jw.size, Nat.le_refl _, by unfold maxLen; omega, ⟨_, _, hb.is, rfl⟩, fun j u hj => hb.at hj, fun j _ => hb.free j⟩⟩
            have k37 : Keeps (fun g => ((.slice p9 n9 c9) : Value).ownBlock = some g) w36 w37 := hw37 ▸ (Keeps.refl _ w36).alloc _
            have HM37 := Hd.mk (HM36.out.list (ps' := [((.slice p35 nx c35 : Value), xx)]) k37 hO37 (fun g hg => by injection hg with hg; exact .inr (Nat.le_of_eq hg)) (fun y hy => by
              rw [List.mem_singleton.1 hy]
              exact .inl (List.mem_append.2 (.inr List.mem_cons_self))) (fun g hg => by cases hg))
            clear k37 hO37 HM36
            go_roundw
            case rel => exact ⟨k + 1, sc, ⟨3, xx, xx.length⟩, L2, [((.slice p35 nx c35 : Value), xx)], m1, hlt, by go_num, rfl, rfl, hm1, ⟨by rw [hw37]; exact HM37.out.less (fun y hy => by cases hy) (fun g hg => by cases hg), (HBk.out _).2⟩⟩
            case measure => simp [intOf]; omega
        · obtain ⟨sx, hsx⟩ : ∃ sx, crashS σ x.keep = sx := ⟨_, rfl⟩
          have HOp := Hd.mk (OpC.lop (L := L) (l := l) (w := w3) (D := D) (OpC.crash (.slice pk x.keep.length ck) x.keep sx (Nat.le_trans HKl.out (by decide)) (HFt.out.fit (by omega)) ((HKI.out w3 (Below.chain B0.out HM3.out.jw.below)).mono (fun g e => by subst e; exact Nat.le_trans B0.out.size HM3.out.jw.ge)) hsx))
          obtain ⟨xx, hd⟩ := HP.out.crash x.keep
          have HD := Hd.mk hd
          rw [hsx] at HD
          clear hsx hd
          go_wp2_with fail
          refine (HM3.out.jw.run HOp.out).mono ?_
          rintro e w4 ⟨rfl, h4⟩
          have HB : Hd (Blk w4 b 34 [.int .i64 x.d, .string x.row, .slice pr nr cr, .slice pk x.keep.length ck, .int .i64 x.n]) := ⟨h4.keeps.blk HB3.out (fun e => e.2 (.inr (.inr rfl)))⟩
          have HM0 := Hd.mk (HM3.out.op h4)
          have d2 : w4.cell? ⟨b, 2, none⟩ = some (.slice pr nr cr) := HB.out.at (j := 2) rfl
          clear h4 HM3 HOp HB3
          obtain ⟨nx, hnx⟩ : ∃ nx, xx.length = nx := ⟨_, rfl⟩
          have HNx := Hd.mk hnx
          obtain ⟨sa, hsa⟩ : ∃ sa, armS sx 0 [] = sa := ⟨_, rfl⟩
          obtain ⟨sb, hsb⟩ : ∃ sb, loseS sa 0 = sb := ⟨_, rfl⟩
          obtain ⟨sc, hsc⟩ : ∃ sc, startS sb = sc := ⟨_, rfl⟩
          have HBk : Hd (∀ y : Value, openP sc 3 = (0, xx) ∧ LaP sc ⟨3, xx, xx.length⟩ [(y, xx)] (k + 1)) := ⟨fun y => by rw [← hsc, ← hsb, ← hsa]; exact HD.out.back (by omega) y⟩
          have HXl := Hd.mk (HD.out.len (by omega))
          have HA := Hd.mk hsa
          have HBs := Hd.mk hsb
          have HC := Hd.mk hsc
          have HMd : Hd (MW wa _ D L sx _ (.slice p7 n7 c7) ps [] none) := ⟨(HM0).out.less (fun y hy => by cases hy) (fun g hg => by cases hg)⟩
          clear hsa hsb hsc hnx HM0
          go_wp2_with fail
          refine (HMd.out.jw.run (OpC.lop (OpC.arm 0 (.slice none 0 0) [] sa (by decide) (IR.nil _ _) HA.out))).mono ?_
          rintro e w30 ⟨rfl, h30⟩
          have HM30 := Hd.mk (HMd.out.op h30)
          clear h30 HMd
          go_wp2_with fail
          refine (HM30.out.jw.run (OpC.lop (OpC.lose 0 sb (by decide) HBs.out))).mono ?_
          rintro e w31 ⟨rfl, h31⟩
          have HM31 := Hd.mk (HM30.out.op h31)
          clear h31 HM30
          go_wp2_with fail
          refine (HM31.out.jw.run (OpC.lop (OpC.start sc HC.out))).mono ?_
          rintro e w32 ⟨rfl, h32⟩
          have HM32 := Hd.mk (HM31.out.op h32)
          clear h32 HM31
          go_wp2_with fail
          refine (HM32.out.open 3 xx (HBk.out (.slice none 0 0)).1).mono ?_
          rintro e w33 ⟨L2, rfl, h33, k33⟩
          have HM33 : Hd (MW wa w33 D L2 sc ⟨3, xx, xx.length⟩ (.slice p7 n7 c7) ps [] none) := ⟨h33⟩
          have HSu : Hd (Calls Try.prog 17 #[.pointer (some ⟨L2, 0, none⟩)] w33 fun e w' => e = .returned (.int .i64 (nx : Nat)) ∧ w33 = w') := ⟨by rw [← HNx.out]; exact HM33.out.jw.sureOf⟩
          clear h33 k33 HM32
          go_wp2_with fail
          refine HSu.out.mono ?_
          rintro e wx ⟨rfl, rfl⟩
          have HW4 : Hd (Calls Try.prog 16 #[.pointer (some ⟨L2, 0, none⟩)] w33 fun e w' => ∃ p c, e = .returned (.slice p nx c) ∧ MW wa w' D L2 sc ⟨3, xx, xx.length⟩ (.slice p7 n7 c7) ps [((.slice p nx c : Value), xx)] none ∧ Below w33.heap.size w33 w') := ⟨by rw [← HNx.out]; exact HM33.out.was⟩
          clear HSu HM33
          go_wp2_with fail
          refine HW4.out.mono ?_
          rintro e w34 ⟨p34, c34, rfl, h34, _⟩
          have HM34 : Hd (MW wa w34 D L2 sc ⟨3, xx, xx.length⟩ (.slice p7 n7 c7) ps [] none) := ⟨h34.less (fun y hy => by cases hy) (fun g hg => hg)⟩
          have HW5 : Hd (Calls Try.prog 16 #[.pointer (some ⟨L2, 0, none⟩)] w34 fun e w' => ∃ p c, e = .returned (.slice p nx c) ∧ MW wa w' D L2 sc ⟨3, xx, xx.length⟩ (.slice p7 n7 c7) ps [((.slice p nx c : Value), xx)] none ∧ Below w34.heap.size w34 w') := ⟨by rw [← HNx.out]; exact HM34.out.was⟩
          clear h34 HM34 HW4
          go_wp2_with fail
          refine HW5.out.mono ?_
          rintro e w35 ⟨p35, c35, rfl, h35, _⟩
          have HM35 := Hd.mk h35
          clear h35 HW5
          have HFo : Hd (Calls Try.prog 35 #[.slice p35 nx c35, (.slice p7 n7 c7)] w35 fun e w' => e = .returned (.bool true) ∧ Below w35.heap.size w35 w') := ⟨by
            have h := found_any wa w35 (.slice p35 nx c35) (.slice p7 n7 c7) xx ps (Nat.le_trans HXl.out (by decide)) (Nat.le_trans HD.out.pl (by omega)) (fun y hy => Nat.le_trans (HD.out.each y hy) (by decide)) (HM35.out.each _ (List.mem_append.2 (.inr List.mem_cons_self))).row HM35.out.own (fun y hy => (HM35.out.each y (List.mem_append.2 (.inl hy))).row)
            rw [HD.out.fd] at h
            exact h⟩
          go_wp2_with fail
          refine HFo.out.mono ?_
          rintro e w36 ⟨rfl, hb36⟩
          have HM36 := Hd.mk (HM35.out.of_below hb36)
          clear hb36 HM35 HFo
          go_wp2
          obtain ⟨w37, hw37⟩ : ∃ w37, w36.alloc (.cells #[.slice p35 nx c35] 31) = w37 := ⟨_, rfl⟩
          have hO37 : Own w37 wa.heap.size 31 (.slice (some ⟨w36.heap.size, 0, none⟩) 1 1) (([((.slice p35 nx c35 : Value), xx)] : List VR).map (fun y : VR => y.1)) := by
            have hb : Blk w37 w36.heap.size 31 [.slice p35 nx c35] := hw37 ▸ Blk.new w36 31 [.slice p35 nx c35]
            exact ⟨.inr ⟨w36.heap.size, 1, rfl, HM36.out.jw.size, Nat.le_refl _, by unfold maxLen; omega, ⟨_, _, hb.is, rfl⟩, fun j u hj => hb.at hj, fun j _ => hb.free j⟩⟩
          have k37 : Keeps (fun g => ((.slice p7 n7 c7) : Value).ownBlock = some g) w36 w37 := hw37 ▸ (Keeps.refl _ w36).alloc _
          have HM37 := Hd.mk (HM36.out.list (ps' := [((.slice p35 nx c35 : Value), xx)]) k37 hO37 (fun g hg => by injection hg with hg; exact .inr (Nat.le_of_eq hg)) (fun y hy => by
            rw [List.mem_singleton.1 hy]
            exact .inl (List.mem_append.2 (.inr List.mem_cons_self))) (fun g hg => by cases hg))
          clear k37 hO37 HM36
          go_roundw
          case rel => exact ⟨k + 1, sc, ⟨3, xx, xx.length⟩, L2, [((.slice p35 nx c35 : Value), xx)], m1, hlt, by go_num, rfl, rfl, hm1, ⟨by rw [hw37]; exact HM37.out.less (fun y hy => by cases hy) (fun g hg => by cases hg), (HBk.out _).2⟩⟩
          case measure => simp [intOf]; omega
        · obtain ⟨sx, hsx⟩ : ∃ sx, loseS σ (pickI x.n 3) = sx := ⟨_, rfl⟩
          have HOp := Hd.mk (OpC.lop (L := L) (l := l) (w := w3) (D := D) (OpC.lose (pickI x.n 3) sx HPk.out hsx))
          have HP2 := Hd.mk (HP.out.lose (pickI x.n 3) HPk.out)
          rw [hsx] at HP2
          clear hsx
          go_wp2_with fail
          refine (HPick.out w3).mono ?_
          rintro e wx ⟨rfl, rfl⟩
          go_wp2_with fail
          refine (HM3.out.jw.run HOp.out).mono ?_
          rintro e w4 ⟨rfl, h4⟩
          have HB : Hd (Blk w4 b 34 [.int .i64 x.d, .string x.row, .slice pr nr cr, .slice pk x.keep.length ck, .int .i64 x.n]) := ⟨h4.keeps.blk HB3.out (fun e => e.2 (.inr (.inr rfl)))⟩
          have HM0 := Hd.mk (HM3.out.op h4)
          have d2 : w4.cell? ⟨b, 2, none⟩ = some (.slice pr nr cr) := HB.out.at (j := 2) rfl
          clear h4 HM3 HOp HB3
          go_wp2
          go_roundw
          case rel => exact ⟨k + 1, sx, l, L, ps, m1, hlt, by go_num, rfl, rfl, hm1, ⟨(HM0).out.less (fun y hy => by cases hy) (fun g hg => by cases hg), HP2.out⟩⟩
          case measure => simp [intOf]; omega
        · rcases HP.out.app (by omega) x.row HRow.out with ⟨h0, hp2⟩ | ⟨h0, hp2⟩
          · obtain ⟨sx, hsx⟩ : ∃ sx, appS σ l x.row = sx := ⟨_, rfl⟩
            obtain ⟨lx, hlx⟩ : ∃ lx, appL σ l x.row = lx := ⟨_, rfl⟩
            have HOp : Hd (LOp w3 14 #[.pointer (some ⟨L, 0, none⟩), .string x.row] L D σ sx l lx (.int .i64 0)) := ⟨(jAppend_op w3 L D l x.row σ (k * 2000) HFt.out (by omega) (Nat.le_trans HRow.out (by decide))).to hsx hlx (congrArg (fun x : Nat => Value.int .i64 (x : Int)) h0)⟩
            have HP2 := Hd.mk hp2
            rw [hsx, hlx] at HP2
            clear hsx hlx h0 hp2
            go_wp2_with fail
            refine (HM3.out.jw.run HOp.out).mono ?_
            rintro e w4 ⟨rfl, h4⟩
            have HB : Hd (Blk w4 b 34 [.int .i64 x.d, .string x.row, .slice pr nr cr, .slice pk x.keep.length ck, .int .i64 x.n]) := ⟨h4.keeps.blk HB3.out (fun e => e.2 (.inr (.inr rfl)))⟩
            have HM0 := Hd.mk (HM3.out.op h4)
            have d2 : w4.cell? ⟨b, 2, none⟩ = some (.slice pr nr cr) := HB.out.at (j := 2) rfl
            clear h4 HM3 HOp HB3
            go_wp2
            go_roundw
            case rel => exact ⟨k + 1, sx, lx, L, ps, m1, hlt, by go_num, rfl, rfl, hm1, ⟨(HM0).out.less (fun y hy => by cases hy) (fun g hg => by cases hg), HP2.out⟩⟩
            case measure => simp [intOf]; omega
          · obtain ⟨sx, hsx⟩ : ∃ sx, appS σ l x.row = sx := ⟨_, rfl⟩
            obtain ⟨lx, hlx⟩ : ∃ lx, appL σ l x.row = lx := ⟨_, rfl⟩
            have HOp : Hd (LOp w3 14 #[.pointer (some ⟨L, 0, none⟩), .string x.row] L D σ sx l lx (.int .i64 10)) := ⟨(jAppend_op w3 L D l x.row σ (k * 2000) HFt.out (by omega) (Nat.le_trans HRow.out (by decide))).to hsx hlx (congrArg (fun x : Nat => Value.int .i64 (x : Int)) h0)⟩
            obtain ⟨xx, hd⟩ := hp2
            have HD := Hd.mk hd
            rw [hsx] at HD
            clear hd
            clear hsx hlx h0
            go_wp2_with fail
            refine (HM3.out.jw.run HOp.out).mono ?_
            rintro e w4 ⟨rfl, h4⟩
            have HB : Hd (Blk w4 b 34 [.int .i64 x.d, .string x.row, .slice pr nr cr, .slice pk x.keep.length ck, .int .i64 x.n]) := ⟨h4.keeps.blk HB3.out (fun e => e.2 (.inr (.inr rfl)))⟩
            have HM0 := Hd.mk (HM3.out.op h4)
            have d2 : w4.cell? ⟨b, 2, none⟩ = some (.slice pr nr cr) := HB.out.at (j := 2) rfl
            clear h4 HM3 HOp HB3
            obtain ⟨nx, hnx⟩ : ∃ nx, xx.length = nx := ⟨_, rfl⟩
            have HNx := Hd.mk hnx
            obtain ⟨sa, hsa⟩ : ∃ sa, armS sx 0 [] = sa := ⟨_, rfl⟩
            obtain ⟨sb, hsb⟩ : ∃ sb, loseS sa 0 = sb := ⟨_, rfl⟩
            obtain ⟨sc, hsc⟩ : ∃ sc, startS sb = sc := ⟨_, rfl⟩
            have HBk : Hd (∀ y : Value, openP sc 3 = (0, xx) ∧ LaP sc ⟨3, xx, xx.length⟩ [(y, xx)] (k + 1)) := ⟨fun y => by rw [← hsc, ← hsb, ← hsa]; exact HD.out.back (by omega) y⟩
            have HXl := Hd.mk (HD.out.len (by omega))
            have HA := Hd.mk hsa
            have HBs := Hd.mk hsb
            have HC := Hd.mk hsc
            have HMd : Hd (MW wa _ D L sx _ (.slice p7 n7 c7) ps [] none) := ⟨(HM0).out.less (fun y hy => by cases hy) (fun g hg => by cases hg)⟩
            clear hsa hsb hsc hnx HM0
            go_wp2_with fail
            refine (HMd.out.jw.run (OpC.lop (OpC.arm 0 (.slice none 0 0) [] sa (by decide) (IR.nil _ _) HA.out))).mono ?_
            rintro e w30 ⟨rfl, h30⟩
            have HM30 := Hd.mk (HMd.out.op h30)
            clear h30 HMd
            go_wp2_with fail
            refine (HM30.out.jw.run (OpC.lop (OpC.lose 0 sb (by decide) HBs.out))).mono ?_
            rintro e w31 ⟨rfl, h31⟩
            have HM31 := Hd.mk (HM30.out.op h31)
            clear h31 HM30
            go_wp2_with fail
            refine (HM31.out.jw.run (OpC.lop (OpC.start sc HC.out))).mono ?_
            rintro e w32 ⟨rfl, h32⟩
            have HM32 := Hd.mk (HM31.out.op h32)
            clear h32 HM31
            go_wp2_with fail
            refine (HM32.out.open 3 xx (HBk.out (.slice none 0 0)).1).mono ?_
            rintro e w33 ⟨L2, rfl, h33, k33⟩
            have HM33 : Hd (MW wa w33 D L2 sc ⟨3, xx, xx.length⟩ (.slice p7 n7 c7) ps [] none) := ⟨h33⟩
            have HSu : Hd (Calls Try.prog 17 #[.pointer (some ⟨L2, 0, none⟩)] w33 fun e w' => e = .returned (.int .i64 (nx : Nat)) ∧ w33 = w') := ⟨by rw [← HNx.out]; exact HM33.out.jw.sureOf⟩
            clear h33 k33 HM32
            go_wp2_with fail
            refine HSu.out.mono ?_
            rintro e wx ⟨rfl, rfl⟩
            have HW4 : Hd (Calls Try.prog 16 #[.pointer (some ⟨L2, 0, none⟩)] w33 fun e w' => ∃ p c, e = .returned (.slice p nx c) ∧ MW wa w' D L2 sc ⟨3, xx, xx.length⟩ (.slice p7 n7 c7) ps [((.slice p nx c : Value), xx)] none ∧ Below w33.heap.size w33 w') := ⟨by rw [← HNx.out]; exact HM33.out.was⟩
            clear HSu HM33
            go_wp2_with fail
            refine HW4.out.mono ?_
            rintro e w34 ⟨p34, c34, rfl, h34, _⟩
            have HM34 : Hd (MW wa w34 D L2 sc ⟨3, xx, xx.length⟩ (.slice p7 n7 c7) ps [] none) := ⟨h34.less (fun y hy => by cases hy) (fun g hg => hg)⟩
            have HW5 : Hd (Calls Try.prog 16 #[.pointer (some ⟨L2, 0, none⟩)] w34 fun e w' => ∃ p c, e = .returned (.slice p nx c) ∧ MW wa w' D L2 sc ⟨3, xx, xx.length⟩ (.slice p7 n7 c7) ps [((.slice p nx c : Value), xx)] none ∧ Below w34.heap.size w34 w') := ⟨by rw [← HNx.out]; exact HM34.out.was⟩
            clear h34 HM34 HW4
            go_wp2_with fail
            refine HW5.out.mono ?_
            rintro e w35 ⟨p35, c35, rfl, h35, _⟩
            have HM35 := Hd.mk h35
            clear h35 HW5
            have HFo : Hd (Calls Try.prog 35 #[.slice p35 nx c35, (.slice p7 n7 c7)] w35 fun e w' => e = .returned (.bool true) ∧ Below w35.heap.size w35 w') := ⟨by
              have h := found_any wa w35 (.slice p35 nx c35) (.slice p7 n7 c7) xx ps (Nat.le_trans HXl.out (by decide)) (Nat.le_trans HD.out.pl (by omega)) (fun y hy => Nat.le_trans (HD.out.each y hy) (by decide)) (HM35.out.each _ (List.mem_append.2 (.inr List.mem_cons_self))).row HM35.out.own (fun y hy => (HM35.out.each y (List.mem_append.2 (.inl hy))).row)
              rw [HD.out.fd] at h
              exact h⟩
            go_wp2_with fail
            refine HFo.out.mono ?_
            rintro e w36 ⟨rfl, hb36⟩
            have HM36 := Hd.mk (HM35.out.of_below hb36)
            clear hb36 HM35 HFo
            go_wp2
            obtain ⟨w37, hw37⟩ : ∃ w37, w36.alloc (.cells #[.slice p35 nx c35] 31) = w37 := ⟨_, rfl⟩
            have hO37 : Own w37 wa.heap.size 31 (.slice (some ⟨w36.heap.size, 0, none⟩) 1 1) (([((.slice p35 nx c35 : Value), xx)] : List VR).map (fun y : VR => y.1)) := by
              have hb : Blk w37 w36.heap.size 31 [.slice p35 nx c35] := hw37 ▸ Blk.new w36 31 [.slice p35 nx c35]
              exact ⟨.inr ⟨w36.heap.size, 1, rfl, HM36.out.jw.size, Nat.le_refl _, by unfold maxLen; omega, ⟨_, _, hb.is, rfl⟩, fun j u hj => hb.at hj, fun j _ => hb.free j⟩⟩
            have k37 : Keeps (fun g => ((.slice p7 n7 c7) : Value).ownBlock = some g) w36 w37 := hw37 ▸ (Keeps.refl _ w36).alloc _
            have HM37 := Hd.mk (HM36.out.list (ps' := [((.slice p35 nx c35 : Value), xx)]) k37 hO37 (fun g hg => by injection hg with hg; exact .inr (Nat.le_of_eq hg)) (fun y hy => by
              rw [List.mem_singleton.1 hy]
              exact .inl (List.mem_append.2 (.inr List.mem_cons_self))) (fun g hg => by cases hg))
            clear k37 hO37 HM36
            go_roundw
            case rel => exact ⟨k + 1, sc, ⟨3, xx, xx.length⟩, L2, [((.slice p35 nx c35 : Value), xx)], m1, hlt, by go_num, rfl, rfl, hm1, ⟨by rw [hw37]; exact HM37.out.less (fun y hy => by cases hy) (fun g hg => by cases hg), (HBk.out _).2⟩⟩
            case measure => simp [intOf]; omega
        · rcases HP.out.app (by omega) x.row HRow.out with ⟨h0, hp2⟩ | ⟨h0, hp2⟩
          · obtain ⟨sx, hsx⟩ : ∃ sx, appS σ l x.row = sx := ⟨_, rfl⟩
            obtain ⟨lx, hlx⟩ : ∃ lx, appL σ l x.row = lx := ⟨_, rfl⟩
            have HOp : Hd (LOp w3 14 #[.pointer (some ⟨L, 0, none⟩), .string x.row] L D σ sx l lx (.int .i64 0)) := ⟨(jAppend_op w3 L D l x.row σ (k * 2000) HFt.out (by omega) (Nat.le_trans HRow.out (by decide))).to hsx hlx (congrArg (fun x : Nat => Value.int .i64 (x : Int)) h0)⟩
            have HP2 := Hd.mk hp2
            rw [hsx, hlx] at HP2
            clear hsx hlx h0 hp2
            go_wp2_with fail
            refine (HM3.out.jw.run HOp.out).mono ?_
            rintro e w4 ⟨rfl, h4⟩
            have HB : Hd (Blk w4 b 34 [.int .i64 x.d, .string x.row, .slice pr nr cr, .slice pk x.keep.length ck, .int .i64 x.n]) := ⟨h4.keeps.blk HB3.out (fun e => e.2 (.inr (.inr rfl)))⟩
            have HM0 := Hd.mk (HM3.out.op h4)
            have d2 : w4.cell? ⟨b, 2, none⟩ = some (.slice pr nr cr) := HB.out.at (j := 2) rfl
            clear h4 HM3 HOp HB3
            go_wp2
            go_roundw
            case rel => exact ⟨k + 1, sx, lx, L, ps, m1, hlt, by go_num, rfl, rfl, hm1, ⟨(HM0).out.less (fun y hy => by cases hy) (fun g hg => by cases hg), HP2.out⟩⟩
            case measure => simp [intOf]; omega
          · obtain ⟨sx, hsx⟩ : ∃ sx, appS σ l x.row = sx := ⟨_, rfl⟩
            obtain ⟨lx, hlx⟩ : ∃ lx, appL σ l x.row = lx := ⟨_, rfl⟩
            have HOp : Hd (LOp w3 14 #[.pointer (some ⟨L, 0, none⟩), .string x.row] L D σ sx l lx (.int .i64 10)) := ⟨(jAppend_op w3 L D l x.row σ (k * 2000) HFt.out (by omega) (Nat.le_trans HRow.out (by decide))).to hsx hlx (congrArg (fun x : Nat => Value.int .i64 (x : Int)) h0)⟩
            obtain ⟨xx, hd⟩ := hp2
            have HD := Hd.mk hd
            rw [hsx] at HD
            clear hd
            clear hsx hlx h0
            go_wp2_with fail
            refine (HM3.out.jw.run HOp.out).mono ?_
            rintro e w4 ⟨rfl, h4⟩
            have HB : Hd (Blk w4 b 34 [.int .i64 x.d, .string x.row, .slice pr nr cr, .slice pk x.keep.length ck, .int .i64 x.n]) := ⟨h4.keeps.blk HB3.out (fun e => e.2 (.inr (.inr rfl)))⟩
            have HM0 := Hd.mk (HM3.out.op h4)
            have d2 : w4.cell? ⟨b, 2, none⟩ = some (.slice pr nr cr) := HB.out.at (j := 2) rfl
            clear h4 HM3 HOp HB3
            obtain ⟨nx, hnx⟩ : ∃ nx, xx.length = nx := ⟨_, rfl⟩
            have HNx := Hd.mk hnx
            obtain ⟨sa, hsa⟩ : ∃ sa, armS sx 0 [] = sa := ⟨_, rfl⟩
            obtain ⟨sb, hsb⟩ : ∃ sb, loseS sa 0 = sb := ⟨_, rfl⟩
            obtain ⟨sc, hsc⟩ : ∃ sc, startS sb = sc := ⟨_, rfl⟩
            have HBk : Hd (∀ y : Value, openP sc 3 = (0, xx) ∧ LaP sc ⟨3, xx, xx.length⟩ [(y, xx)] (k + 1)) := ⟨fun y => by rw [← hsc, ← hsb, ← hsa]; exact HD.out.back (by omega) y⟩
            have HXl := Hd.mk (HD.out.len (by omega))
            have HA := Hd.mk hsa
            have HBs := Hd.mk hsb
            have HC := Hd.mk hsc
            have HMd : Hd (MW wa _ D L sx _ (.slice p7 n7 c7) ps [] none) := ⟨(HM0).out.less (fun y hy => by cases hy) (fun g hg => by cases hg)⟩
            clear hsa hsb hsc hnx HM0
            go_wp2_with fail
            refine (HMd.out.jw.run (OpC.lop (OpC.arm 0 (.slice none 0 0) [] sa (by decide) (IR.nil _ _) HA.out))).mono ?_
            rintro e w30 ⟨rfl, h30⟩
            have HM30 := Hd.mk (HMd.out.op h30)
            clear h30 HMd
            go_wp2_with fail
            refine (HM30.out.jw.run (OpC.lop (OpC.lose 0 sb (by decide) HBs.out))).mono ?_
            rintro e w31 ⟨rfl, h31⟩
            have HM31 := Hd.mk (HM30.out.op h31)
            clear h31 HM30
            go_wp2_with fail
            refine (HM31.out.jw.run (OpC.lop (OpC.start sc HC.out))).mono ?_
            rintro e w32 ⟨rfl, h32⟩
            have HM32 := Hd.mk (HM31.out.op h32)
            clear h32 HM31
            go_wp2_with fail
            refine (HM32.out.open 3 xx (HBk.out (.slice none 0 0)).1).mono ?_
            rintro e w33 ⟨L2, rfl, h33, k33⟩
            have HM33 : Hd (MW wa w33 D L2 sc ⟨3, xx, xx.length⟩ (.slice p7 n7 c7) ps [] none) := ⟨h33⟩
            have HSu : Hd (Calls Try.prog 17 #[.pointer (some ⟨L2, 0, none⟩)] w33 fun e w' => e = .returned (.int .i64 (nx : Nat)) ∧ w33 = w') := ⟨by rw [← HNx.out]; exact HM33.out.jw.sureOf⟩
            clear h33 k33 HM32
            go_wp2_with fail
            refine HSu.out.mono ?_
            rintro e wx ⟨rfl, rfl⟩
            have HW4 : Hd (Calls Try.prog 16 #[.pointer (some ⟨L2, 0, none⟩)] w33 fun e w' => ∃ p c, e = .returned (.slice p nx c) ∧ MW wa w' D L2 sc ⟨3, xx, xx.length⟩ (.slice p7 n7 c7) ps [((.slice p nx c : Value), xx)] none ∧ Below w33.heap.size w33 w') := ⟨by rw [← HNx.out]; exact HM33.out.was⟩
            clear HSu HM33
            go_wp2_with fail
            refine HW4.out.mono ?_
            rintro e w34 ⟨p34, c34, rfl, h34, _⟩
            have HM34 : Hd (MW wa w34 D L2 sc ⟨3, xx, xx.length⟩ (.slice p7 n7 c7) ps [] none) := ⟨h34.less (fun y hy => by cases hy) (fun g hg => hg)⟩
            have HW5 : Hd (Calls Try.prog 16 #[.pointer (some ⟨L2, 0, none⟩)] w34 fun e w' => ∃ p c, e = .returned (.slice p nx c) ∧ MW wa w' D L2 sc ⟨3, xx, xx.length⟩ (.slice p7 n7 c7) ps [((.slice p nx c : Value), xx)] none ∧ Below w34.heap.size w34 w') := ⟨by rw [← HNx.out]; exact HM34.out.was⟩
            clear h34 HM34 HW4
            go_wp2_with fail
            refine HW5.out.mono ?_
            rintro e w35 ⟨p35, c35, rfl, h35, _⟩
            have HM35 := Hd.mk h35
            clear h35 HW5
            have HFo : Hd (Calls Try.prog 35 #[.slice p35 nx c35, (.slice p7 n7 c7)] w35 fun e w' => e = .returned (.bool true) ∧ Below w35.heap.size w35 w') := ⟨by
              have h := found_any wa w35 (.slice p35 nx c35) (.slice p7 n7 c7) xx ps (Nat.le_trans HXl.out (by decide)) (Nat.le_trans HD.out.pl (by omega)) (fun y hy => Nat.le_trans (HD.out.each y hy) (by decide)) (HM35.out.each _ (List.mem_append.2 (.inr List.mem_cons_self))).row HM35.out.own (fun y hy => (HM35.out.each y (List.mem_append.2 (.inl hy))).row)
              rw [HD.out.fd] at h
              exact h⟩
            go_wp2_with fail
            refine HFo.out.mono ?_
            rintro e w36 ⟨rfl, hb36⟩
            have HM36 := Hd.mk (HM35.out.of_below hb36)
            clear hb36 HM35 HFo
            go_wp2
            obtain ⟨w37, hw37⟩ : ∃ w37, w36.alloc (.cells #[.slice p35 nx c35] 31) = w37 := ⟨_, rfl⟩
            have hO37 : Own w37 wa.heap.size 31 (.slice (some ⟨w36.heap.size, 0, none⟩) 1 1) (([((.slice p35 nx c35 : Value), xx)] : List VR).map (fun y : VR => y.1)) := by
              have hb : Blk w37 w36.heap.size 31 [.slice p35 nx c35] := hw37 ▸ Blk.new w36 31 [.slice p35 nx c35]
              exact ⟨.inr ⟨w36.heap.size, 1, rfl, HM36.out.jw.size, Nat.le_refl _, by unfold maxLen; omega, ⟨_, _, hb.is, rfl⟩, fun j u hj => hb.at hj, fun j _ => hb.free j⟩⟩
            have k37 : Keeps (fun g => ((.slice p7 n7 c7) : Value).ownBlock = some g) w36 w37 := hw37 ▸ (Keeps.refl _ w36).alloc _
            have HM37 := Hd.mk (HM36.out.list (ps' := [((.slice p35 nx c35 : Value), xx)]) k37 hO37 (fun g hg => by injection hg with hg; exact .inr (Nat.le_of_eq hg)) (fun y hy => by
              rw [List.mem_singleton.1 hy]
              exact .inl (List.mem_append.2 (.inr List.mem_cons_self))) (fun g hg => by cases hg))
            clear k37 hO37 HM36
            go_roundw
            case rel => exact ⟨k + 1, sc, ⟨3, xx, xx.length⟩, L2, [((.slice p35 nx c35 : Value), xx)], m1, hlt, by go_num, rfl, rfl, hm1, ⟨by rw [hw37]; exact HM37.out.less (fun y hy => by cases hy) (fun g hg => by cases hg), (HBk.out _).2⟩⟩
            case measure => simp [intOf]; omega
        · rcases HP.out.app (by omega) x.row HRow.out with ⟨h0, hp2⟩ | ⟨h0, hp2⟩
          · obtain ⟨sx, hsx⟩ : ∃ sx, appS σ l x.row = sx := ⟨_, rfl⟩
            obtain ⟨lx, hlx⟩ : ∃ lx, appL σ l x.row = lx := ⟨_, rfl⟩
            have HOp : Hd (LOp w3 14 #[.pointer (some ⟨L, 0, none⟩), .string x.row] L D σ sx l lx (.int .i64 0)) := ⟨(jAppend_op w3 L D l x.row σ (k * 2000) HFt.out (by omega) (Nat.le_trans HRow.out (by decide))).to hsx hlx (congrArg (fun x : Nat => Value.int .i64 (x : Int)) h0)⟩
            have HP2 := Hd.mk hp2
            rw [hsx, hlx] at HP2
            clear hsx hlx h0 hp2
            go_wp2_with fail
            refine (HM3.out.jw.run HOp.out).mono ?_
            rintro e w4 ⟨rfl, h4⟩
            have HB : Hd (Blk w4 b 34 [.int .i64 x.d, .string x.row, .slice pr nr cr, .slice pk x.keep.length ck, .int .i64 x.n]) := ⟨h4.keeps.blk HB3.out (fun e => e.2 (.inr (.inr rfl)))⟩
            have HM0 := Hd.mk (HM3.out.op h4)
            have d2 : w4.cell? ⟨b, 2, none⟩ = some (.slice pr nr cr) := HB.out.at (j := 2) rfl
            clear h4 HM3 HOp HB3
            go_wp2
            go_roundw
            case rel => exact ⟨k + 1, sx, lx, L, ps, m1, hlt, by go_num, rfl, rfl, hm1, ⟨(HM0).out.less (fun y hy => by cases hy) (fun g hg => by cases hg), HP2.out⟩⟩
            case measure => simp [intOf]; omega
          · obtain ⟨sx, hsx⟩ : ∃ sx, appS σ l x.row = sx := ⟨_, rfl⟩
            obtain ⟨lx, hlx⟩ : ∃ lx, appL σ l x.row = lx := ⟨_, rfl⟩
            have HOp : Hd (LOp w3 14 #[.pointer (some ⟨L, 0, none⟩), .string x.row] L D σ sx l lx (.int .i64 10)) := ⟨(jAppend_op w3 L D l x.row σ (k * 2000) HFt.out (by omega) (Nat.le_trans HRow.out (by decide))).to hsx hlx (congrArg (fun x : Nat => Value.int .i64 (x : Int)) h0)⟩
            obtain ⟨xx, hd⟩ := hp2
            have HD := Hd.mk hd
            rw [hsx] at HD
            clear hd
            clear hsx hlx h0
            go_wp2_with fail
            refine (HM3.out.jw.run HOp.out).mono ?_
            rintro e w4 ⟨rfl, h4⟩
            have HB : Hd (Blk w4 b 34 [.int .i64 x.d, .string x.row, .slice pr nr cr, .slice pk x.keep.length ck, .int .i64 x.n]) := ⟨h4.keeps.blk HB3.out (fun e => e.2 (.inr (.inr rfl)))⟩
            have HM0 := Hd.mk (HM3.out.op h4)
            have d2 : w4.cell? ⟨b, 2, none⟩ = some (.slice pr nr cr) := HB.out.at (j := 2) rfl
            clear h4 HM3 HOp HB3
            obtain ⟨nx, hnx⟩ : ∃ nx, xx.length = nx := ⟨_, rfl⟩
            have HNx := Hd.mk hnx
            obtain ⟨sa, hsa⟩ : ∃ sa, armS sx 0 [] = sa := ⟨_, rfl⟩
            obtain ⟨sb, hsb⟩ : ∃ sb, loseS sa 0 = sb := ⟨_, rfl⟩
            obtain ⟨sc, hsc⟩ : ∃ sc, startS sb = sc := ⟨_, rfl⟩
            have HBk : Hd (∀ y : Value, openP sc 3 = (0, xx) ∧ LaP sc ⟨3, xx, xx.length⟩ [(y, xx)] (k + 1)) := ⟨fun y => by rw [← hsc, ← hsb, ← hsa]; exact HD.out.back (by omega) y⟩
            have HXl := Hd.mk (HD.out.len (by omega))
            have HA := Hd.mk hsa
            have HBs := Hd.mk hsb
            have HC := Hd.mk hsc
            have HMd : Hd (MW wa _ D L sx _ (.slice p7 n7 c7) ps [] none) := ⟨(HM0).out.less (fun y hy => by cases hy) (fun g hg => by cases hg)⟩
            clear hsa hsb hsc hnx HM0
            go_wp2_with fail
            refine (HMd.out.jw.run (OpC.lop (OpC.arm 0 (.slice none 0 0) [] sa (by decide) (IR.nil _ _) HA.out))).mono ?_
            rintro e w30 ⟨rfl, h30⟩
            have HM30 := Hd.mk (HMd.out.op h30)
            clear h30 HMd
            go_wp2_with fail
            refine (HM30.out.jw.run (OpC.lop (OpC.lose 0 sb (by decide) HBs.out))).mono ?_
            rintro e w31 ⟨rfl, h31⟩
            have HM31 := Hd.mk (HM30.out.op h31)
            clear h31 HM30
            go_wp2_with fail
            refine (HM31.out.jw.run (OpC.lop (OpC.start sc HC.out))).mono ?_
            rintro e w32 ⟨rfl, h32⟩
            have HM32 := Hd.mk (HM31.out.op h32)
            clear h32 HM31
            go_wp2_with fail
            refine (HM32.out.open 3 xx (HBk.out (.slice none 0 0)).1).mono ?_
            rintro e w33 ⟨L2, rfl, h33, k33⟩
            have HM33 : Hd (MW wa w33 D L2 sc ⟨3, xx, xx.length⟩ (.slice p7 n7 c7) ps [] none) := ⟨h33⟩
            have HSu : Hd (Calls Try.prog 17 #[.pointer (some ⟨L2, 0, none⟩)] w33 fun e w' => e = .returned (.int .i64 (nx : Nat)) ∧ w33 = w') := ⟨by rw [← HNx.out]; exact HM33.out.jw.sureOf⟩
            clear h33 k33 HM32
            go_wp2_with fail
            refine HSu.out.mono ?_
            rintro e wx ⟨rfl, rfl⟩
            have HW4 : Hd (Calls Try.prog 16 #[.pointer (some ⟨L2, 0, none⟩)] w33 fun e w' => ∃ p c, e = .returned (.slice p nx c) ∧ MW wa w' D L2 sc ⟨3, xx, xx.length⟩ (.slice p7 n7 c7) ps [((.slice p nx c : Value), xx)] none ∧ Below w33.heap.size w33 w') := ⟨by rw [← HNx.out]; exact HM33.out.was⟩
            clear HSu HM33
            go_wp2_with fail
            refine HW4.out.mono ?_
            rintro e w34 ⟨p34, c34, rfl, h34, _⟩
            have HM34 : Hd (MW wa w34 D L2 sc ⟨3, xx, xx.length⟩ (.slice p7 n7 c7) ps [] none) := ⟨h34.less (fun y hy => by cases hy) (fun g hg => hg)⟩
            have HW5 : Hd (Calls Try.prog 16 #[.pointer (some ⟨L2, 0, none⟩)] w34 fun e w' => ∃ p c, e = .returned (.slice p nx c) ∧ MW wa w' D L2 sc ⟨3, xx, xx.length⟩ (.slice p7 n7 c7) ps [((.slice p nx c : Value), xx)] none ∧ Below w34.heap.size w34 w') := ⟨by rw [← HNx.out]; exact HM34.out.was⟩
            clear h34 HM34 HW4
            go_wp2_with fail
            refine HW5.out.mono ?_
            rintro e w35 ⟨p35, c35, rfl, h35, _⟩
            have HM35 := Hd.mk h35
            clear h35 HW5
            have HFo : Hd (Calls Try.prog 35 #[.slice p35 nx c35, (.slice p7 n7 c7)] w35 fun e w' => e = .returned (.bool true) ∧ Below w35.heap.size w35 w') := ⟨by
              have h := found_any wa w35 (.slice p35 nx c35) (.slice p7 n7 c7) xx ps (Nat.le_trans HXl.out (by decide)) (Nat.le_trans HD.out.pl (by omega)) (fun y hy => Nat.le_trans (HD.out.each y hy) (by decide)) (HM35.out.each _ (List.mem_append.2 (.inr List.mem_cons_self))).row HM35.out.own (fun y hy => (HM35.out.each y (List.mem_append.2 (.inl hy))).row)
              rw [HD.out.fd] at h
              exact h⟩
            go_wp2_with fail
            refine HFo.out.mono ?_
            rintro e w36 ⟨rfl, hb36⟩
            have HM36 := Hd.mk (HM35.out.of_below hb36)
            clear hb36 HM35 HFo
            go_wp2
            obtain ⟨w37, hw37⟩ : ∃ w37, w36.alloc (.cells #[.slice p35 nx c35] 31) = w37 := ⟨_, rfl⟩
            have hO37 : Own w37 wa.heap.size 31 (.slice (some ⟨w36.heap.size, 0, none⟩) 1 1) (([((.slice p35 nx c35 : Value), xx)] : List VR).map (fun y : VR => y.1)) := by
              have hb : Blk w37 w36.heap.size 31 [.slice p35 nx c35] := hw37 ▸ Blk.new w36 31 [.slice p35 nx c35]
              exact ⟨.inr ⟨w36.heap.size, 1, rfl, HM36.out.jw.size, Nat.le_refl _, by unfold maxLen; omega, ⟨_, _, hb.is, rfl⟩, fun j u hj => hb.at hj, fun j _ => hb.free j⟩⟩
            have k37 : Keeps (fun g => ((.slice p7 n7 c7) : Value).ownBlock = some g) w36 w37 := hw37 ▸ (Keeps.refl _ w36).alloc _
            have HM37 := Hd.mk (HM36.out.list (ps' := [((.slice p35 nx c35 : Value), xx)]) k37 hO37 (fun g hg => by injection hg with hg; exact .inr (Nat.le_of_eq hg)) (fun y hy => by
              rw [List.mem_singleton.1 hy]
              exact .inl (List.mem_append.2 (.inr List.mem_cons_self))) (fun g hg => by cases hg))
            clear k37 hO37 HM36
            go_roundw
            case rel => exact ⟨k + 1, sc, ⟨3, xx, xx.length⟩, L2, [((.slice p35 nx c35 : Value), xx)], m1, hlt, by go_num, rfl, rfl, hm1, ⟨by rw [hw37]; exact HM37.out.less (fun y hy => by cases hy) (fun g hg => by cases hg), (HBk.out _).2⟩⟩
            case measure => simp [intOf]; omega
        -- THE END OF THE BRANCHES
      · have hd1 : decide ((k : Int) < (n : Int)) = false := by simp; omega
        go_wp2
        go_ret
        exact ⟨rfl, Below.chain B0.out HL.out.mw.jw.below⟩

end Go.Proofs.Ytmcdfhihfcfbaaa.W
