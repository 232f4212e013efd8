/-
  The walk of JournalTurns.
-/
import Derived.Test.YtmcdfhihfcfbaaaJIw
import Derived.Test.YtmcdfhihfcfbaaaJFw
namespace Go.Proofs.Ytmcdfhihfcfbaaa.W
open Go.RowKit
set_option linter.unusedVariables false

theorem head_lost (σ : St) : (headS σ).lost = σ.lost := by
  unfold headS
  split
  · rw [crash_lost]; exact (endsS_parts σ).2.2.2.2.1
  · exact (endsS_parts σ).2.2.2.2.1
theorem cut_lost (σ : St) (f n : Int) : (CutS σ f n).lost = σ.lost := by
  unfold CutS cutS
  split
  · exact head_lost σ
  · exact head_lost σ
theorem write_lost (σ : St) (f k : Int) (s : List UInt8) : (WriteS σ f k s).lost = σ.lost := by
  rcases write_two σ f k s with ⟨_, _, e2⟩ | ⟨_, _, e2⟩
  · rw [e2, (writeS_flags _ _ _ _).2.2]; exact (endsS_parts _).2.2.2.2.1
  · rw [e2, crash_lost, (writeS_flags _ _ _ _).2.2]; exact (endsS_parts _).2.2.2.2.1
theorem flush_lost_le (σ : St) (f : Int) : (FlushS σ f).lost ≤ σ.lost := by
  have hh := head_lost σ
  unfold FlushS flushS
  split
  · omega
  · split
    · show (headS σ).lost - 1 ≤ _; omega
    · show (headS σ).lost ≤ _; omega
theorem turn_lost (σ : St) (f g : Int) : (TurnS σ f g).lost = σ.lost := by
  unfold TurnS turnS
  split
  · exact head_lost σ
  · exact head_lost σ
theorem rew_lost (σ : St) (f : Nat) (rs : List ByteArray) : (rewP σ f rs).2.lost ≤ σ.lost := by
  have h1 := cut_lost σ ((f : Int) + 1) 0
  have h2 := write_lost (CutS σ ((f : Int) + 1) 0) ((f : Int) + 1) 0 (fileL rs)
  have h3 := flush_lost_le (WriteS (CutS σ ((f : Int) + 1) 0) ((f : Int) + 1) 0 (fileL rs)) ((f : Int) + 1)
  have h4 := turn_lost (FlushS (WriteS (CutS σ ((f : Int) + 1) 0) ((f : Int) + 1) 0 (fileL rs)) ((f : Int) + 1)) f ((f : Int) + 1)
  by_cases e0 : rwErr σ f rs 0 = 0
  · by_cases e1 : rwErr σ f rs 1 = 0
    · by_cases e2 : rwErr σ f rs 2 = 0
      · rw [rewP_3 σ f rs e0 e1 e2]
        show (TurnS _ _ _).lost ≤ _
        omega
      · rw [rewP_2 σ f rs e0 e1 e2]
        show (FlushS _ _).lost ≤ _
        omega
    · rw [rewP_1 σ f rs e0 e1]
      show (WriteS _ _ _ _).lost ≤ _
      omega
  · rw [rewP_0 σ f rs e0]
    show (CutS _ _ _).lost ≤ _
    omega

theorem Inv.opens {σ : St} {l : Lg} {D : List ByteArray} (h : Inv σ l D none) (hD : D = l.rows) : openP σ (l.f : Int) = (0, D) ∧ Inv σ ⟨l.f, D, D.length⟩ D none := by
  obtain ⟨hd, a, b, hF, c, _, e⟩ := h.last
  have h6 := h.f6
  have ho := e.opens (by rw [← hD, c rfl]; exact a) (by have := h.e; omega)
  have hm : mayS σ (l.f : Int) = 0 := up_may h.up (isF_of (by omega) (by omega))
  constructor
  · unfold openP
    rw [if_neg (by omega), hm, if_neg (by decide), Int.toNat_natCast, ho, hD]
  · refine ⟨h.ok, h.up, h.f6, ⟨hd, a, b, hF, c, fun _ e => (by cases e), by show Hold _ hF (formsL D); rw [hD]; exact e⟩, h.q, List.prefix_rfl, List.prefix_rfl, Nat.le_refl _, fun _ e => (by cases e), by show endL D ≤ _; rw [hD]; exact h.e⟩

/-- the plain course of the law -/
structure TurnsC (old rows : List ByteArray) (keep : List Int) (n : Int) : Prop where
  e1 : (rewP newS 5 old).1 = 0
  l1 : rewL newS ⟨5, [], 0⟩ old = ⟨5, old, old.length⟩
  rest : ∀ s1 s2, (rewP newS 5 old).2 = s1 → armS s1 n keep = s2 → (((rewP s2 5 rows).1 = 0 ∧ ∃ s4, armS (rewP s2 5 rows).2 0 [] = s4 ∧ openP s4 5 = (0, rows) ∧ FitQ s4 10000 ∧
      (rewP s4 5 rows).1 = 0 ∧ ∃ s8, startS (crashS (rewP s4 5 rows).2 keep) = s8 ∧ openP s8 5 = (0, rows)) ∨
    ((rewP s2 5 rows).1 = 10 ∧ ∃ s4 s5, armS (rewP s2 5 rows).2 0 [] = s4 ∧ startS s4 = s5 ∧ openP s5 5 = (0, old) ∧ FitQ s5 10000 ∧
      (rewP s5 5 rows).1 = 0 ∧ ∃ s8, startS (crashS (rewP s5 5 rows).2 keep) = s8 ∧ openP s8 5 = (0, rows))) ∧ FitQ s1 2000 ∧ FitQ s2 2000

theorem again {s : St} {y rows : List ByteArray} {keep : List Int} (hI : Inv s ⟨5, y, y.length⟩ y none) (hc : Calm s) (hr : endL rows ≤ 16777216) : (rewP s 5 rows).1 = 0 ∧ ∃ s8, startS (crashS (rewP s 5 rows).2 keep) = s8 ∧ openP s8 5 = (0, rows) := by
  have hcr := calm_rew hc 5 rows (by decide) hr
  refine ⟨hcr.1, _, rfl, ?_⟩
  rcases hI.rew rows hr with ⟨e, h2⟩ | ⟨e, _⟩ | ⟨e, _⟩
  · obtain ⟨x, hx, hC⟩ := h2.crash keep
    have hL : (rewL s ⟨5, y, y.length⟩ rows).f = 5 := by unfold rewL; split <;> rfl
    rw [hL] at hC
    rcases hx with rfl | hx
    · exact (hC.back (σ' := startS (crashS (rewP s 5 x).2 keep)) (by decide) rfl rfl rfl rfl).2
    · cases hx
  · rw [hcr.1] at e; cases e
  · rw [hcr.1] at e; cases e

theorem turns_c (old rows : List ByteArray) (keep : List Int) (n : Int) (ho : endL old ≤ 2000) (hr : endL rows ≤ 2000) (hk : keep.length ≤ 100000) (hn : n ≤ 9223372036854775807) : TurnsC old rows keep n := by
  have hcr := calm_rew Calm.new 5 old (by decide) (by omega)
  have l1 : rewL newS ⟨5, [], 0⟩ old = ⟨5, old, old.length⟩ := by unfold rewL; exact if_pos hcr.1
  refine ⟨hcr.1, l1, ?_⟩
  rintro s1 s2 h1 h2
  have fit1 : FitQ s1 2000 := by rw [← h1]; exact (FitQ.new.rew 5 old).mono (by omega)
  have fit2 : FitQ s2 2000 := by rw [← h2]; exact fit1.arm n keep hn hk
  have c1 : Calm s1 := h1 ▸ hcr.2
  have i1 : Inv s1 ⟨5, old, old.length⟩ old none := by
    rcases (Inv.new 5 (by decide)).rew old (by omega) with ⟨e, h⟩ | ⟨e, _⟩ | ⟨e, _⟩
    · have h' : Inv (rewP newS 5 old).2 (rewL newS ⟨5, [], 0⟩ old) old none := h
      rw [l1, h1] at h'
      exact h'
    · rw [show (⟨5, [], 0⟩ : Lg).f = 5 from rfl, hcr.1] at e; cases e
    · rw [show (⟨5, [], 0⟩ : Lg).f = 5 from rfl, hcr.1] at e; cases e
  have i2 : Inv s2 ⟨5, old, old.length⟩ old none := h2 ▸ i1.arm n keep
  have lost2 : s2.lost = 0 := by rw [← h2]; exact c1.lost
  have lost3 := rew_lost s2 5 rows
  have fit3 := fit2.rew 5 rows
  refine ⟨?_, fit1, fit2⟩
  rcases i2.rew rows (by omega) with ⟨e, h⟩ | ⟨_, hl, _⟩ | ⟨e, x, hx, hC⟩
  · left
    have e' : (rewP s2 5 rows).1 = 0 := e
    have hL : rewL s2 ⟨5, old, old.length⟩ rows = ⟨5, rows, rows.length⟩ := by unfold rewL; exact if_pos e
    have h' : Inv (rewP s2 5 rows).2 (rewL s2 ⟨5, old, old.length⟩ rows) rows none := h
    rw [hL] at h'
    have h4 := h'.arm 0 []
    have ho := h4.opens rfl
    have c4 : Calm (armS (rewP s2 5 rows).2 0 []) := ⟨h4.up, rfl, by show (rewP s2 5 rows).2.lost = 0; omega⟩
    have ag := again (keep := keep) ho.2 c4 (by omega : endL rows ≤ 16777216)
    exact ⟨e', _, rfl, ho.1, (fit3.arm 0 [] (by decide) (by decide)).mono (by omega), ag.1, ag.2⟩
  · omega
  · right
    have e' : (rewP s2 5 rows).1 = 10 := e
    have hxo : x = old := by rcases hx with rfl | hx; rfl; cases hx
    subst hxo
    have hC' : Crashed (rewP s2 5 rows).2 5 x := hC
    have hb := hC'.back (σ' := startS (armS (rewP s2 5 rows).2 0 [])) (by decide) rfl rfl rfl rfl
    have c5 : Calm (startS (armS (rewP s2 5 rows).2 0 [])) := ⟨rfl, rfl, by show (rewP s2 5 rows).2.lost = 0; omega⟩
    have ag := again (keep := keep) hb.1 c5 (by omega : endL rows ≤ 16777216)
    exact ⟨e', _, _, rfl, rfl, hb.2, ((fit3.arm 0 [] (by decide) (by decide)).start).mono (by omega), ag.1, ag.2⟩

def turnsDs (old rows : List ByteArray) (keep : List Int) : List Dd := [⟨0, ⟨#[]⟩, old, keep, 0⟩, ⟨0, ⟨#[]⟩, rows, [], 0⟩]

set_option maxRecDepth 100000 in
set_option maxHeartbeats 2000000 in
theorem turns_any (W : World) (v0 : Value) (old : List ByteArray) (v1 : Value) (rows : List ByteArray) (n : Int) (v3 : Value) (keep : List Int) (h0 : ArgR W v0 old) (h1 : ArgR W v1 rows) (hn : i64R n) (h3 : ArgI W v3 keep) :
    Calls Try.prog 6 #[v0, v1, .int .i64 n, v3] W fun e w' => e = .returned (.bool true) ∧ Below W.heap.size W w' := by
  obtain ⟨p0, c0, rfl⟩ := h0.row.slice
  obtain ⟨p1, c1, rfl⟩ := h1.row.slice
  obtain ⟨p3, c3, rfl⟩ := h3.row.slice
  obtain ⟨n0, hn0⟩ : ∃ n0, old.length = n0 := ⟨_, rfl⟩
  obtain ⟨n1, hn1⟩ : ∃ n1, rows.length = n1 := ⟨_, rfl⟩
  obtain ⟨n3, hn3⟩ : ∃ n3, keep.length = n3 := ⟨_, rfl⟩
  have HL0 := Hd.mk hn0
  have HL1 := Hd.mk hn1
  have HL3 := Hd.mk hn3
  have HR0 : Hd (∀ w, Below W.heap.size W w → Rw 1 strE w (.slice p0 n0 c0) old) := ⟨fun w hb => hn0 ▸ h0.row.below strE_stays hb⟩
  have HR1 : Hd (∀ w, Below W.heap.size W w → Rw 1 strE w (.slice p1 n1 c1) rows) := ⟨fun w hb => hn1 ▸ h1.row.below strE_stays hb⟩
  have HR3 : Hd (∀ w, Below W.heap.size W w → Rw 1 intE w (.slice p3 n3 c3) keep) := ⟨fun w hb => hn3 ▸ h3.row.below intE_stays hb⟩
  have HK3 : Hd (∀ w, Below W.heap.size W w → IR (fun g => W.heap.size ≤ g) w (.slice p3 n3 c3) keep) := ⟨fun w hb => hn3 ▸ h3.row.ir hb⟩
  have HN0' : Hd (∀ a, p0 = some a → old ≠ [] → a.block < W.heap.size) := ⟨fun a ha h => h0.row.blkLt (by rw [ha]) h⟩
  have HN1' : Hd (∀ a, p1 = some a → rows ≠ [] → a.block < W.heap.size) := ⟨fun a ha h => h1.row.blkLt (by rw [ha]) h⟩
  have HOK : Hd (∀ a ∈ turnsDs old rows keep, DdOk a) := ⟨fun a ha => by
    have z : i64R 0 := ⟨by decide, by decide⟩
    simp only [turnsDs, List.mem_cons, List.not_mem_nil, or_false] at ha
    rcases ha with rfl | rfl
    · exact ⟨z, z, Nat.zero_le _, h0.len, h0.each, h3.len⟩
    · exact ⟨z, z, Nat.zero_le _, h1.len, h1.each, Nat.zero_le _⟩⟩
  have HP := Hd.mk (fun w => pick_any n 5 w hn (by decide))
  have hp5 : 0 ≤ pickI n 5 ∧ pickI n 5 < 5 := ⟨Int.emod_nonneg n (by decide), Int.emod_lt_of_pos n (by decide)⟩
  obtain ⟨pk, hpk⟩ : ∃ pk, pickI n 5 = pk := ⟨_, rfl⟩
  rw [hpk] at HP hp5
  have wpk : wrap64 (1 + pk) = 1 + pk := by unfold wrap64; omega
  obtain ⟨m, hm⟩ : ∃ m : Int, 1 + pk = m := ⟨_, rfl⟩
  have hm5 : m ≤ 9223372036854775807 := by omega
  have wm : wrap64 m = m := by unfold wrap64; omega
  rw [hn0, hn1, hn3]
  clear h0 h1 h3 hn0 hn1 hn3 hn hpk hp5
  go_enter Try.func6, Try.ntmps6
  go_wp2_with fail
  refine (small_any W).mono ?_; rintro e w00 ⟨rfl, hb0⟩
  have B00 := Hd.mk hb0; clear hb0
  go_wp2_with fail
  obtain ⟨wa, hwa⟩ : ∃ wa, w00.alloc (.cells #[.int .i64 0, .string ⟨#[]⟩, .slice p0 n0 c0, .slice p3 n3 c3, .int .i64 0, .int .i64 0, .string ⟨#[]⟩, .slice p1 n1 c1, .slice none 0 0, .int .i64 0] 34) = wa := ⟨_, rfl⟩
  have kab : Below w00.heap.size w00 wa := hwa ▸ (Below.refl _ _).alloc (Nat.le_refl _) _
  have B0 : Hd (Below W.heap.size W wa) := ⟨Below.chain B00.out kab⟩
  have HN0 : Hd (∀ a, p0 = some a → old ≠ [] → a.block < wa.heap.size) := ⟨fun a ha h => Nat.lt_of_lt_of_le (HN0'.out a ha h) B0.out.size⟩
  have HN1 : Hd (∀ a, p1 = some a → rows ≠ [] → a.block < wa.heap.size) := ⟨fun a ha h => Nat.lt_of_lt_of_le (HN1'.out a ha h) B0.out.size⟩
  have hfr : Rw 5 ddE wa (.slice (some ⟨w00.heap.size, 0, none⟩) 2 2) (turnsDs old rows keep) := by
    have hb : Blk wa w00.heap.size 34 [.int .i64 0, .string ⟨#[]⟩, .slice p0 n0 c0, .slice p3 n3 c3, .int .i64 0, .int .i64 0, .string ⟨#[]⟩, .slice p1 n1 c1, .slice none 0 0, .int .i64 0] := hwa ▸ Blk.new w00 34 _
    refine Rw.of_blk (css := [[.int .i64 0, .string ⟨#[]⟩, .slice p0 n0 c0, .slice p3 n3 c3, .int .i64 0], [.int .i64 0, .string ⟨#[]⟩, .slice p1 n1 c1, .slice none 0 0, .int .i64 0]]) (xs := turnsDs old rows keep) hb rfl rfl (fun cs hc => by simp at hc; rcases hc with rfl | rfl <;> rfl) (fun j x cs hx hcs => ?_)
    match j, hx, hcs with
    | 0, hx, hcs => cases hx; cases hcs; exact ⟨_, _, rfl, HR0.out wa B0.out, HR3.out wa B0.out⟩
    | 1, hx, hcs => cases hx; cases hcs; exact ⟨_, _, rfl, HR1.out wa B0.out, Rw.nil _⟩
  have HFw := Hd.mk (few_any wa _ (turnsDs old rows keep) (by simp [turnsDs]) HOK.out hfr)
  clear hfr kab
  rw [hwa]
  clear hwa
  refine HFw.out.mono ?_; rintro e wx ⟨rfl, hwx⟩
  subst hwx
  rcases hF : fewB (turnsDs old rows keep) with _ | _
  · clear hF
    go_wp2
    go_ret
    exact ⟨rfl, B0.out⟩
  · have hFP := few_parts hF
    have g0 : n0 ≤ 6 := by have := hFP.rows ⟨0, ⟨#[]⟩, old, keep, 0⟩ (by simp [turnsDs]); have h := HL0.out; simp at this; omega
    have g1 : n1 ≤ 6 := by have := hFP.rows ⟨0, ⟨#[]⟩, rows, [], 0⟩ (by simp [turnsDs]); have h := HL1.out; simp at this; omega
    have g3 : n3 ≤ 60 := by have := hFP.keep ⟨0, ⟨#[]⟩, old, keep, 0⟩ (by simp [turnsDs]); have h := HL3.out; simp at this; omega
    have HM0 : Hd ((formsL old).length ≤ 1248) := ⟨by have := forms_le old 200 (hFP.each ⟨0, ⟨#[]⟩, old, keep, 0⟩ (by simp [turnsDs])); have h := HL0.out; omega⟩
    have HM1 : Hd ((formsL rows).length ≤ 1248) := ⟨by have := forms_le rows 200 (hFP.each ⟨0, ⟨#[]⟩, rows, [], 0⟩ (by simp [turnsDs])); have h := HL1.out; omega⟩
    have HT := turns_c old rows keep m (by unfold endL; have := HM0.out; omega) (by unfold endL; have := HM1.out; omega) (by rw [HL3.out]; omega) hm5
    obtain ⟨s1, hs1⟩ : ∃ s1, (rewP newS 5 old).2 = s1 := ⟨_, rfl⟩
    obtain ⟨s2, hs2⟩ : ∃ s2, armS s1 m keep = s2 := ⟨_, rfl⟩
    obtain ⟨hout, fit1, fit2⟩ := HT.rest s1 s2 hs1 hs2
    have HE1 := Hd.mk HT.e1
    have HLg1 := Hd.mk HT.l1
    have HS1 := Hd.mk hs1
    have HS2 := Hd.mk hs2
    have HF1 := Hd.mk fit1
    have HF2 := Hd.mk fit2
    have HOut := Hd.mk hout
    clear hF hFP HT hs1 hs2 hout fit1 fit2 HFw hm5
    -- THE REST
    go_wp2_with fail
    refine (One.new wa).mono ?_; rintro e w1 ⟨D, rfl, q1⟩
    have Q1 := Hd.mk q1; clear q1
    go_wp2_with fail
    refine (Q1.out.openYes (X := fun _ => False) 5 [] (by kernel_rfl) (fun _ h => h.elim)).mono ?_; rintro e w2 ⟨L, rfl, q2, k2, _⟩
    have Q2 : Hd (JW wa w2 D L newS ⟨5, [], 0⟩ (fun _ => False)) := ⟨q2⟩
    clear q2 k2 Q1
    go_wp2_with fail
    refine (Q2.out.rewriteTo p0 c0 n0 old HL0.out 0 FitQ.new (by decide) (Nat.le_trans HM0.out (by decide)) (HR0.out w2 (Below.chain B0.out Q2.out.below)) (fun a ha h => .inl (HN0.out a ha h)) 0 (congrArg Nat.cast HE1.out) (σ' := s1) HS1.out HLg1.out).mono ?_; rintro e w3 ⟨rfl, q3⟩
    have Q3 := Hd.mk q3.jw; clear q3 Q2
    go_wp2_with fail
    refine (HP.out w3).mono ?_; rintro e wx ⟨rfl, rfl⟩
    go_wp2_with fail
    refine (Q3.out.run (OpC.lop (OpC.arm m (.slice p3 n3 c3) keep s2 (by rw [HL3.out]; omega) ((HK3.out w3 (Below.chain B0.out Q3.out.below)).mono (fun g h => h.elim)) HS2.out))).mono ?_; rintro e w4 ⟨rfl, q4⟩
    have Q4 := Hd.mk q4.jw; clear q4 Q3
    rcases HOut.out with ⟨hE, s4, hs4, ho4, hf4, hE6, s8, hs8, ho8⟩ | ⟨hE, s4, s5, hs4, hs5, ho5, hf5, hE6, s8, hs8, ho8⟩
    · obtain ⟨s3, hs3⟩ : ∃ s3, (rewP s2 5 rows).2 = s3 := ⟨_, rfl⟩
      obtain ⟨l3, hl3⟩ : ∃ l3, rewL s2 ⟨5, old, old.length⟩ rows = l3 := ⟨_, rfl⟩
      obtain ⟨s6, hs6⟩ : ∃ s6, (rewP s4 5 rows).2 = s6 := ⟨_, rfl⟩
      obtain ⟨s7, hs7⟩ : ∃ s7, crashS s6 keep = s7 := ⟨_, rfl⟩
      rw [hs3] at hs4
      rw [hs6, hs7] at hs8
      have HE := Hd.mk hE
      have HS3 := Hd.mk hs3
      have HL3' := Hd.mk hl3
      have HS4 := Hd.mk hs4
      have HO4 := Hd.mk ho4
      have HF6 : Hd (FitQ s6 20000) := ⟨hs6 ▸ (hf4.rew 5 rows).mono (by unfold endL; have := HM1.out; omega)⟩
      have HF5 := Hd.mk hf4
      have HE6 := Hd.mk hE6
      have HS6 := Hd.mk hs6
      have HS7 := Hd.mk hs7
      have HS8 := Hd.mk hs8
      have HO8 := Hd.mk ho8
      clear hE hs3 hl3 hs4 ho4 hf4 hE6 hs6 hs7 hs8 ho8 HOut
      go_wp2_with fail
      refine (Q4.out.rewriteTo p1 c1 n1 rows HL1.out 2000 HF2.out (by decide) (Nat.le_trans HM1.out (by decide)) (HR1.out w4 (Below.chain B0.out Q4.out.below)) (fun a ha h => .inl (HN1.out a ha h)) 0 (congrArg Nat.cast HE.out) (σ' := s3) HS3.out HL3'.out).mono ?_; rintro e w5 ⟨rfl, q5⟩
      have Q5 := Hd.mk q5.jw; clear q5 Q4
      go_wp2_with fail
      refine (Q5.out.run (OpC.lop (OpC.arm 0 (.slice none 0 0) [] s4 (by decide) (IR.nil _ _) HS4.out))).mono ?_; rintro e w6 ⟨rfl, q6⟩
      have Q6 := Hd.mk q6.jw; clear q6 Q5
      go_wp2_with fail
      refine (Q6.out.one.openYes (X := fun _ => False) 5 rows HO4.out (fun _ h => h.elim)).mono ?_; rintro e w7 ⟨M, rfl, q7, k7, _⟩
      have HJ5 : Hd (JW wa w7 D M s4 ⟨5, rows, rows.length⟩ (fun _ => False)) := ⟨q7⟩
      clear q7 k7 Q6
      go_wp2_with fail
      refine (HJ5.out.all).mono ?_; rintro e w20 ⟨v20, rfl, hO20, hj20, hb20⟩
      obtain ⟨p20, c20, hv20⟩ := hO20.slice'
      rw [List.length_map, HL1.out] at hv20
      subst hv20
      have HO20 := Hd.mk (Rw.of_str (xs := rows) hO20)
      have HJ20 := Hd.mk hj20
      clear hO20 hb20 hj20 HJ5
      go_wp2_with fail
      refine (same_any w20 _ _ rows old (by rw [HL1.out]; omega) (by rw [HL0.out]; omega) HO20.out (HR0.out w20 (Below.chain B0.out HJ20.out.below))).mono ?_; rintro e w21 ⟨rfl, hb21⟩
      obtain ⟨b1, hb1⟩ : ∃ b1, decide (rows = old) = b1 := ⟨_, rfl⟩
      have HB1 := Hd.mk hb1
      rw [hb1]
      have HJ21 := Hd.mk (HJ20.out.of_below hb21)
      clear hb21 HO20 HJ20 hb1
      go_wp2_with fail
      refine (HJ21.out.all).mono ?_; rintro e w22 ⟨v22, rfl, hO22, hj22, hb22⟩
      obtain ⟨p22, c22, hv22⟩ := hO22.slice'
      rw [List.length_map, HL1.out] at hv22
      subst hv22
      have HO22 := Hd.mk (Rw.of_str (xs := rows) hO22)
      have HJ22 := Hd.mk hj22
      clear hO22 hb22 hj22 HJ21
      go_wp2_with fail
      refine (same_any w22 _ _ rows rows (by rw [HL1.out]; omega) (by rw [HL1.out]; omega) HO22.out (HR1.out w22 (Below.chain B0.out HJ22.out.below))).mono ?_; rintro e w23 ⟨rfl, hb23⟩
      obtain ⟨b2, hb2⟩ : ∃ b2, decide (rows = rows) = b2 := ⟨_, rfl⟩
      have HB2 := Hd.mk hb2
      rw [hb2]
      have HJ23 := Hd.mk (HJ22.out.of_below hb23)
      clear hb23 HO22 HJ22 hb2
      have e2 : b2 = true := by rw [← HB2.out]; simp
      subst e2
      rcases b1 with _ | _
      all_goals
        go_wp2_with fail
        refine ((HJ23.out.rewriteTo p1 c1 n1 rows HL1.out 10000 HF5.out (by decide) (Nat.le_trans HM1.out (by decide)) (HR1.out w23 (Below.chain B0.out HJ23.out.below)) (fun a ha h0 => .inl (HN1.out a ha h0)) 0 (congrArg Nat.cast HE6.out) (σ' := s6) HS6.out rfl)).mono ?_; rintro e w24 ⟨rfl, h24⟩
        have H24 := Hd.mk h24.jw
        clear h24 HJ23
        go_wp2_with fail
        refine (H24.out.run (OpC.lop (OpC.crash (.slice p3 n3 c3) keep s7 (by rw [HL3.out]; omega) (HF6.out.fit (by decide)) ((HK3.out w24 (Below.chain B0.out H24.out.below)).mono (fun g e => by subst e; exact Nat.le_trans B0.out.size H24.out.ge)) HS7.out))).mono ?_; rintro e w25 ⟨rfl, h25⟩
        have H25 := Hd.mk h25.jw
        clear h25 H24
        go_wp2_with fail
        refine (H25.out.run (OpC.lop (OpC.start s8 HS8.out))).mono ?_; rintro e w26 ⟨rfl, h26⟩
        have H8 := Hd.mk h26.jw
        clear h26 H25
        go_wp2_with fail
        refine (H8.out.one.openYes 5 rows HO8.out (X := fun _ => False) (fun _ h => h.elim)).mono ?_; rintro e wj ⟨N, rfl, hj, kj, _⟩
        have HJ : Hd (JW wa wj D N s8 ⟨5, rows, rows.length⟩ (fun _ => False)) := ⟨hj⟩
        clear hj kj H8
        go_wp2_with fail
        refine (HJ.out.all).mono ?_; rintro e wk ⟨vk, rfl, hOk, hjk, hbk⟩
        obtain ⟨pk', ck', hvk⟩ := hOk.slice'
        rw [List.length_map, HL1.out] at hvk
        subst hvk
        have HOk := Hd.mk (Rw.of_str (xs := rows) hOk)
        have HJk := Hd.mk hjk
        clear hOk hbk hjk HJ
        go_wp2_with fail
        refine (same_yes wk _ _ rows (by rw [HL1.out]; omega) HOk.out (HR1.out wk (Below.chain B0.out HJk.out.below))).mono ?_; rintro e wl ⟨rfl, hbl⟩
        have HE := Hd.mk (HJk.out.of_below hbl)
        clear hbl HOk HJk
        go_wp2
        go_ret
        exact ⟨rfl, Below.chain B0.out HE.out.below⟩
    · obtain ⟨s3, hs3⟩ : ∃ s3, (rewP s2 5 rows).2 = s3 := ⟨_, rfl⟩
      obtain ⟨l3, hl3⟩ : ∃ l3, rewL s2 ⟨5, old, old.length⟩ rows = l3 := ⟨_, rfl⟩
      obtain ⟨s6, hs6⟩ : ∃ s6, (rewP s5 5 rows).2 = s6 := ⟨_, rfl⟩
      obtain ⟨s7, hs7⟩ : ∃ s7, crashS s6 keep = s7 := ⟨_, rfl⟩
      rw [hs3] at hs4
      rw [hs6, hs7] at hs8
      have HE := Hd.mk hE
      have HS3 := Hd.mk hs3
      have HL3' := Hd.mk hl3
      have HS4 := Hd.mk hs4
      have HS5 := Hd.mk hs5
      have HO5 := Hd.mk ho5
      have HF6 : Hd (FitQ s6 20000) := ⟨hs6 ▸ (hf5.rew 5 rows).mono (by unfold endL; have := HM1.out; omega)⟩
      have HF5 := Hd.mk hf5
      have HE6 := Hd.mk hE6
      have HS6 := Hd.mk hs6
      have HS7 := Hd.mk hs7
      have HS8 := Hd.mk hs8
      have HO8 := Hd.mk ho8
      clear hE hs3 hl3 hs4 hs5 ho5 hf5 hE6 hs6 hs7 hs8 ho8 HOut
      go_wp2_with fail
      refine (Q4.out.rewriteTo p1 c1 n1 rows HL1.out 2000 HF2.out (by decide) (Nat.le_trans HM1.out (by decide)) (HR1.out w4 (Below.chain B0.out Q4.out.below)) (fun a ha h => .inl (HN1.out a ha h)) 10 (congrArg Nat.cast HE.out) (σ' := s3) HS3.out HL3'.out).mono ?_; rintro e w5 ⟨rfl, q5⟩
      have Q5 := Hd.mk q5.jw; clear q5 Q4
      go_wp2_with fail
      refine (Q5.out.run (OpC.lop (OpC.arm 0 (.slice none 0 0) [] s4 (by decide) (IR.nil _ _) HS4.out))).mono ?_; rintro e w6 ⟨rfl, q6⟩
      have Q6 := Hd.mk q6.jw; clear q6 Q5
      go_wp2_with fail
      refine (Q6.out.run (OpC.lop (OpC.start s5 HS5.out))).mono ?_; rintro e w6b ⟨rfl, q6⟩
      have Q6b := Hd.mk q6.jw; clear q6 Q6
      go_wp2_with fail
      refine (Q6b.out.one.openYes (X := fun _ => False) 5 old HO5.out (fun _ h => h.elim)).mono ?_; rintro e w7 ⟨M, rfl, q7, k7, _⟩
      have HJ5 : Hd (JW wa w7 D M s5 ⟨5, old, old.length⟩ (fun _ => False)) := ⟨q7⟩
      clear q7 k7 Q6b
      go_wp2_with fail
      refine (HJ5.out.all).mono ?_; rintro e w20 ⟨v20, rfl, hO20, hj20, hb20⟩
      obtain ⟨p20, c20, hv20⟩ := hO20.slice'
      rw [List.length_map, HL0.out] at hv20
      subst hv20
      have HO20 := Hd.mk (Rw.of_str (xs := old) hO20)
      have HJ20 := Hd.mk hj20
      clear hO20 hb20 hj20 HJ5
      go_wp2_with fail
      refine (same_any w20 _ _ old old (by rw [HL0.out]; omega) (by rw [HL0.out]; omega) HO20.out (HR0.out w20 (Below.chain B0.out HJ20.out.below))).mono ?_; rintro e w21 ⟨rfl, hb21⟩
      obtain ⟨b1, hb1⟩ : ∃ b1, decide (old = old) = b1 := ⟨_, rfl⟩
      have HB1 := Hd.mk hb1
      rw [hb1]
      have HJ21 := Hd.mk (HJ20.out.of_below hb21)
      clear hb21 HO20 HJ20 hb1
      go_wp2_with fail
      refine (HJ21.out.all).mono ?_; rintro e w22 ⟨v22, rfl, hO22, hj22, hb22⟩
      obtain ⟨p22, c22, hv22⟩ := hO22.slice'
      rw [List.length_map, HL0.out] at hv22
      subst hv22
      have HO22 := Hd.mk (Rw.of_str (xs := old) hO22)
      have HJ22 := Hd.mk hj22
      clear hO22 hb22 hj22 HJ21
      go_wp2_with fail
      refine (same_any w22 _ _ old rows (by rw [HL0.out]; omega) (by rw [HL1.out]; omega) HO22.out (HR1.out w22 (Below.chain B0.out HJ22.out.below))).mono ?_; rintro e w23 ⟨rfl, hb23⟩
      obtain ⟨b2, hb2⟩ : ∃ b2, decide (old = rows) = b2 := ⟨_, rfl⟩
      have HB2 := Hd.mk hb2
      rw [hb2]
      have HJ23 := Hd.mk (HJ22.out.of_below hb23)
      clear hb23 HO22 HJ22 hb2
      have e2 : b1 = true := by rw [← HB1.out]; simp
      subst e2
      rcases b2 with _ | _
      all_goals
        go_wp2_with fail
        refine ((HJ23.out.rewriteTo p1 c1 n1 rows HL1.out 10000 HF5.out (by decide) (Nat.le_trans HM1.out (by decide)) (HR1.out w23 (Below.chain B0.out HJ23.out.below)) (fun a ha h0 => .inl (HN1.out a ha h0)) 0 (congrArg Nat.cast HE6.out) (σ' := s6) HS6.out rfl)).mono ?_; rintro e w24 ⟨rfl, h24⟩
        have H24 := Hd.mk h24.jw
        clear h24 HJ23
        go_wp2_with fail
        refine (H24.out.run (OpC.lop (OpC.crash (.slice p3 n3 c3) keep s7 (by rw [HL3.out]; omega) (HF6.out.fit (by decide)) ((HK3.out w24 (Below.chain B0.out H24.out.below)).mono (fun g e => by subst e; exact Nat.le_trans B0.out.size H24.out.ge)) HS7.out))).mono ?_; rintro e w25 ⟨rfl, h25⟩
        have H25 := Hd.mk h25.jw
        clear h25 H24
        go_wp2_with fail
        refine (H25.out.run (OpC.lop (OpC.start s8 HS8.out))).mono ?_; rintro e w26 ⟨rfl, h26⟩
        have H8 := Hd.mk h26.jw
        clear h26 H25
        go_wp2_with fail
        refine (H8.out.one.openYes 5 rows HO8.out (X := fun _ => False) (fun _ h => h.elim)).mono ?_; rintro e wj ⟨N, rfl, hj, kj, _⟩
        have HJ : Hd (JW wa wj D N s8 ⟨5, rows, rows.length⟩ (fun _ => False)) := ⟨hj⟩
        clear hj kj H8
        go_wp2_with fail
        refine (HJ.out.all).mono ?_; rintro e wk ⟨vk, rfl, hOk, hjk, hbk⟩
        obtain ⟨pk', ck', hvk⟩ := hOk.slice'
        rw [List.length_map, HL1.out] at hvk
        subst hvk
        have HOk := Hd.mk (Rw.of_str (xs := rows) hOk)
        have HJk := Hd.mk hjk
        clear hOk hbk hjk HJ
        go_wp2_with fail
        refine (same_yes wk _ _ rows (by rw [HL1.out]; omega) HOk.out (HR1.out wk (Below.chain B0.out HJk.out.below))).mono ?_; rintro e wl ⟨rfl, hbl⟩
        have HE := Hd.mk (HJk.out.of_below hbl)
        clear hbl HOk HJk
        go_wp2
        go_ret
        exact ⟨rfl, Below.chain B0.out HE.out.below⟩

end Go.Proofs.Ytmcdfhihfcfbaaa.W
