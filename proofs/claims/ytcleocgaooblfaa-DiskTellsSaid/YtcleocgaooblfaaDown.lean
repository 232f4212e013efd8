/-
  DiskDown: the plain law and the walk.
-/
import Derived.Test.YtcleocgaooblfaaArgA
import Derived.Test.YtcleocgaooblfaaTurns
namespace Go.Proofs.Ytcleocgaooblfaa.W
open Go.RowKit
set_option linter.unusedVariables false

/-- behind all operations -/
def doAll (σ : St) (l : List Ac) : St := l.foldl doS σ
theorem doAll_succ (σ : St) (l : List Ac) (k : Nat) (h : k < l.length) : doAll σ (l.take (k + 1)) = doS (doAll σ (l.take k)) l[k] := by
  unfold doAll
  rw [List.take_succ_eq_append_getElem h, List.foldl_append]; rfl
theorem fitq_new : FitQ newS 0 := ⟨Nat.zero_le _, Nat.zero_le _, Nat.zero_le _, Nat.zero_le _⟩

/-- up, and no crash scheduled -/
def upS (σ : St) : St := startS (armS σ 0 [])
theorem calm_up (σ : St) : Calm (upS σ) := ⟨rfl, rfl⟩
theorem not_isF {f : Int} (h : ¬ (0 ≤ f ∧ f < 8)) : isF f = false := by unfold isF; exact decide_eq_false h
theorem calm_bad {σ : St} (h : Calm σ) {f : Int} (hf : isF f = false) : mayS σ f = 1 := by unfold mayS; rw [h.d, hf]; rfl
theorem calm_write_bad {σ : St} (h : Calm σ) {f : Int} (hf : isF f = false) (k : Int) (s : List UInt8) : WriteE σ f k s = 1 ∧ WriteS σ f k s = σ := by
  rw [(h.Write f k s).1, (h.Write f k s).2]
  have e : writeE σ f k s = 1 := by unfold writeE; rw [calm_bad h hf]; rfl
  exact ⟨e, by unfold writeS; rw [if_neg (fun h => by rw [e] at h; exact absurd h.1 (by decide))]⟩
theorem calm_flush_bad {σ : St} (h : Calm σ) {f : Int} (hf : isF f = false) : FlushE σ f = 1 ∧ FlushS σ f = σ := by
  unfold FlushE FlushS flushE flushS; rw [h.head, calm_bad h hf]; exact ⟨rfl, rfl⟩
theorem calm_cut_bad {σ : St} (h : Calm σ) {f : Int} (hf : isF f = false) (n : Int) : CutE σ f n = 1 ∧ CutS σ f n = σ := by
  unfold CutE CutS cutS cutE; rw [h.head, calm_bad h hf]; exact ⟨rfl, rfl⟩
theorem calm_turn_bad {σ : St} (h : Calm σ) {f g : Int} (hf : may2 σ f g = 1) : TurnE σ f g = 1 ∧ TurnS σ f g = σ := by
  unfold TurnE TurnS turnS turnE; rw [h.head, hf]; exact ⟨rfl, rfl⟩
theorem calm_may2 {σ : St} (h : Calm σ) {f : Int} (hf : isF f = false) : may2 σ f 1 = 1 ∧ may2 σ 1 f = 1 := by
  unfold may2
  rw [calm_bad h hf, h.may (by decide)]; exact ⟨rfl, rfl⟩
theorem size_bad (σ : St) {f : Int} (hf : isF f = false) : sizeS σ f = 0 := by unfold sizeS; rw [hf]; rfl

theorem down_all {σ : St} (h : σ.down = true) : endsB σ = false ∧ endsS σ = σ ∧ headS σ = σ ∧ ∀ f, mayS σ f = 10 := by
  have e1 : endsB σ = false := by simp [endsB, h]
  have e2 : endsS σ = σ := by simp [endsS, h]
  exact ⟨e1, e2, by unfold headS; rw [e1, e2]; rfl, fun f => by unfold mayS; rw [h]; rfl⟩
theorem down_write {σ : St} (h : σ.down = true) (f k : Int) (s : List UInt8) : WriteE σ f k s = 10 ∧ WriteS σ f k s = σ := by
  obtain ⟨e1, e2, e3, e4⟩ := down_all h
  unfold WriteE WriteS
  rw [e1, e2]
  have e : writeE σ f k s = 10 := by unfold writeE; rw [e4]; rfl
  exact ⟨e, by show writeS σ f k s = σ; unfold writeS; rw [if_neg (fun h => by rw [e] at h; exact absurd h.1 (by decide))]⟩
theorem down_flush {σ : St} (h : σ.down = true) (f : Int) : FlushE σ f = 10 ∧ FlushS σ f = σ := by
  obtain ⟨e1, e2, e3, e4⟩ := down_all h
  unfold FlushE FlushS flushE flushS; rw [e3, e4]; exact ⟨rfl, rfl⟩
theorem down_cut {σ : St} (h : σ.down = true) (f n : Int) : CutE σ f n = 10 ∧ CutS σ f n = σ := by
  obtain ⟨e1, e2, e3, e4⟩ := down_all h
  unfold CutE CutS cutS cutE; rw [e3, e4]; exact ⟨rfl, rfl⟩
theorem down_turn {σ : St} (h : σ.down = true) (f g : Int) : TurnE σ f g = 10 ∧ TurnS σ f g = σ := by
  obtain ⟨e1, e2, e3, e4⟩ := down_all h
  unfold TurnE TurnS turnS turnE may2; rw [e3, e4]; exact ⟨rfl, rfl⟩
theorem down_crash {σ : St} (h : σ.down = true) (ks : List Int) : crashS σ ks = σ := by unfold crashS; rw [if_pos h]
theorem down_read {σ : St} (h : σ.down = true) (f : Int) : readL σ f = [] ∧ mayS σ f = 10 := by
  have e4 := (down_all h).2.2.2 f
  exact ⟨by unfold readL; rw [e4]; rfl, e4⟩
theorem crash_down (σ : St) (ks : List Int) : (crashS σ ks).down = true := by
  unfold crashS; split
  · assumption
  · rfl

theorem fitq_up {σ : St} {b : Nat} (h : FitQ σ b) : FitQ (upS σ) b := ⟨Nat.zero_le _, h.l, Nat.zero_le _, h.q⟩

theorem bulk_mono (l : List Ac) (k n : Nat) (h : k ≤ n) : bulk l k ≤ bulk l n := by
  induction n with
  | zero => have : k = 0 := by omega
            subst this; exact Nat.le_refl _
  | succ n ih =>
    rcases Nat.lt_or_ge k (n + 1) with h' | h'
    · refine Nat.le_trans (ih (by omega)) ?_
      by_cases hn : n < l.length
      · rw [bulk_succ l n hn]; omega
      · have : bulk l (n + 1) = bulk l n := by unfold bulk; rw [List.take_of_length_le (by omega), List.take_of_length_le (by omega)]
        omega
    · have : k = n + 1 := by omega
      subst this; exact Nat.le_refl _
theorem few_parts {l : List Ac} (h : fewB l = true) : (∀ a ∈ l, badN a = false) ∧ l.length ≤ 200 ∧ bulk l l.length ≤ 5000 := by
  unfold fewB at h
  simp only [Bool.and_eq_true, decide_eq_true_eq, List.all_eq_true, Bool.not_eq_true'] at h
  exact ⟨h.1.1, h.1.2, h.2⟩
theorem bulk_at {l : List Ac} {k : Nat} (hk : k < l.length) (h : bulk l l.length ≤ 5000) : bulk l k + (l[k].s.size + l[k].k.length) ≤ 5000 := by
  have := bulk_mono l (k + 1) l.length hk
  rw [bulk_succ l k hk] at this
  omega
theorem fitq_all {l : List Ac} (hok : ∀ a ∈ l, AcOk a) (h : bulk l l.length ≤ 5000) : ∀ k, k ≤ l.length → FitQ (doAll newS (l.take k)) (bulk l k)
  | 0, _ => fitq_new
  | k + 1, hk => by
    have hkl : k < l.length := hk
    have ih := fitq_all hok h k (by omega)
    have hb := bulk_at hkl h
    rw [doAll_succ _ _ _ hkl]
    refine (ih.do l[k] (hok _ (List.getElem_mem hkl)) (by omega)).mono ?_
    rw [bulk_succ l k hkl]; omega

set_option maxHeartbeats 4000000 in
set_option maxRecDepth 100000 in
theorem down_law (W : World) (v : Value) (l : List Ac) (va : Value) (a : Ac) (hv : ArgActs W v l) (ha : ArgAct W va a) :
    Calls Try.prog 9 #[v, va] W fun e w' => e = .returned (.bool true) ∧ Below W.heap.size W w' := by
  obtain ⟨pv, cv, rfl⟩ := hv.row.slice
  obtain ⟨kva, hkva, rfl⟩ := ha.is
  obtain ⟨pk, ck, rfl⟩ := hkva.slice
  have HV := Hd.mk hv
  have HA := Hd.mk ha.ok
  have HKA := Hd.mk hkva
  have lN := hv.len
  obtain ⟨N, hN⟩ : ∃ N, l.length = N := ⟨_, rfl⟩
  rw [hN] at lN HV
  rw [hN]
  have HN := Hd.mk hN
  have hcs : (acCells a (.slice pk a.k.length ck)).toArray = #[.int .i64 a.d, .int .i64 a.f, .int .i64 a.g, .int .i64 a.n, .string a.s, .slice pk a.k.length ck] := rfl
  rw [hcs]
  have hbl := Blk.new W 42 [.int .i64 a.d, .int .i64 a.f, .int .i64 a.g, .int .i64 a.n, .string a.s, .slice pk a.k.length ck]
  obtain ⟨Wb, hWb⟩ : ∃ Wb, W.alloc (.cells #[.int .i64 a.d, .int .i64 a.f, .int .i64 a.g, .int .i64 a.n, .string a.s, .slice pk a.k.length ck] 42) = Wb := ⟨_, rfl⟩
  have hBB : Below W.heap.size W Wb := hWb ▸ (Below.refl _ _).alloc (Nat.le_refl _) _
  have HBl : Hd (Blk Wb W.heap.size 42 [.int .i64 a.d, .int .i64 a.f, .int .i64 a.g, .int .i64 a.n, .string a.s, .slice pk a.k.length ck]) := ⟨hWb ▸ hbl⟩
  obtain ⟨bx, hbx⟩ : ∃ bx, W.heap.size = bx := ⟨_, rfl⟩
  have HBX := Hd.mk hbx
  have HBB := Hd.mk hBB
  clear hv ha hkva hN hcs hbl hBB
  go_enter Try.func9, Try.ntmps9
  go_wp2_with fail
  refine (small_any Wb).mono ?_; rintro e wa ⟨rfl, hb0⟩
  have HBW : Hd (Below W.heap.size W wa) := ⟨Below.chain HBB.out hb0⟩
  have HBl2 : Hd (Blk wa W.heap.size 42 [.int .i64 a.d, .int .i64 a.f, .int .i64 a.g, .int .i64 a.n, .string a.s, .slice pk a.k.length ck]) := ⟨HBl.out.below hb0 HBl.out.lt⟩
  clear hb0 HBl HBB hWb
  go_wp2_with fail
  refine (One.new wa).mono ?_; rintro e w0 ⟨D, rfl, h0⟩
  have H0 := Hd.mk h0; clear h0
  have hend : ∀ {w' : World} {σ : St}, One wa w' D σ → Below W.heap.size W w' := fun h => Below.chain HBW.out h.below
  have HEnd := Hd.mk @hend; clear hend
  have hrow : ∀ {w' : World}, Below W.heap.size W w' → ARow (fun kv ks => IR (fun g => W.heap.size ≤ g) w' kv ks) w' (.slice pv N cv) l := fun {w'} hb => by
    have hr := HV.out.row
    exact hr.keeps (S := fun k => W.heap.size ≤ k) (Keeps.of_below hb (fun k _ h => h)) (fun g _ hlt => Nat.not_le.2 hlt) (fun kv ks h => h.below hb)
  have HRow := Hd.mk @hrow; clear hrow
  go_wp2_with fail
  refine (few_any w0 _ l _ (fun kv ks h => h.slice) (by rw [HN.out]; omega) (HRow.out (HEnd.out H0.out))).mono ?_
  rintro e w1 ⟨rfl, k1⟩
  have H1 := Hd.mk (H0.out.next k1)
  clear k1
  rcases hf : fewB l with _ | _
  · go_wp2
    go_ret
    exact ⟨rfl, HEnd.out H1.out⟩
  · have HF1 := Hd.mk hf
    clear hf
    have hbox : ∀ {w' : World} {σ : St}, One wa w' D σ → w'.cell? ⟨bx, 0, none⟩ = some (.int .i64 a.d) ∧ w'.cell? ⟨bx, 1, none⟩ = some (.int .i64 a.f) ∧ w'.cell? ⟨bx, 2, none⟩ = some (.int .i64 a.g) ∧ w'.cell? ⟨bx, 3, none⟩ = some (.int .i64 a.n) ∧ w'.cell? ⟨bx, 4, none⟩ = some (.string a.s) ∧ w'.cell? ⟨bx, 5, none⟩ = some (.slice pk a.k.length ck) := fun {w'} {σ} h => by
      have hb := HBl2.out.below h.below HBl2.out.lt
      rw [← HBX.out]
      exact ⟨hb.at (j := 0) rfl, hb.at (j := 1) rfl, hb.at (j := 2) rfl, hb.at (j := 3) rfl, hb.at (j := 4) rfl, hb.at (j := 5) rfl⟩
    have HBox := Hd.mk @hbox; clear hbox
    have hka : ∀ {w' : World} {σ : St}, One wa w' D σ → IR (· = D) w' (.slice pk a.k.length ck) a.k := fun {w'} {σ} h => (HKA.out.below (HEnd.out h)).mono (fun g e => by subst e; exact Nat.le_trans HBW.out.size h.ge)
    have HKa := Hd.mk @hka; clear hka
    obtain ⟨b0, b1, b2, b3, b4, b5⟩ := HBox.out H1.out
    go_wp2_with fail
    have harow : ARow (fun kv ks => IR (fun g => False) w1 kv ks) (w1.alloc (.cells #[.int .i64 a.d, .int .i64 a.f, .int .i64 a.g, .int .i64 a.n, .string a.s, .slice pk a.k.length ck] 42)) (.slice (some ⟨w1.heap.size, 0, none⟩) 1 1) [a] := by
      have hb := Blk.new w1 42 [.int .i64 a.d, .int .i64 a.f, .int .i64 a.g, .int .i64 a.n, .string a.s, .slice pk a.k.length ck]
      refine ⟨.inr ⟨w1.heap.size, 0, 1, rfl, hb.lt, fun j x hj => ?_⟩⟩
      rcases j with _ | j
      · simp at hj
        subst hj
        refine ⟨HA.out, _, (HKa.out H1.out).mono (fun _ h => h.elim), fun i u hu => ?_⟩
        rw [Nat.zero_mul, Nat.add_zero, Nat.zero_add]
        exact hb.at hu
      · simp at hj
    have HAR := Hd.mk harow; clear harow
    refine (few_any _ _ [a] _ (fun kv ks h => h.slice) (by simp) HAR.out).mono ?_
    rintro e w2 ⟨rfl, k2⟩
    have H2 := Hd.mk ((H1.out.alloc _).next k2)
    clear k2 b0 b1 b2 b3 b4 b5
    rcases hf : fewB [a] with _ | _
    · go_wp2
      go_ret
      exact ⟨rfl, HEnd.out H2.out⟩
    · have HF2 := Hd.mk hf
      clear hf
      have hfp := few_parts HF1.out
      have hok : ∀ x ∈ l, AcOk x := fun x hx => by
        obtain ⟨j, hj, rfl⟩ := List.getElem_of_mem hx
        obtain ⟨_, _, _, _, hok, _⟩ := (HRow.out (HEnd.out H2.out)).at rfl hj
        exact hok
      have HFQ := Hd.mk (fitq_all hok hfp.2.2)
      have HFP := Hd.mk hfp
      clear hfp hok
      go_wp2_with fail
      go_loopw [7] (fun i wr => ∃ k : Nat, k ≤ N ∧ i = .int .i64 k ∧ One wa wr D (doAll newS (l.take k))) (fun i _ => N - (intOf i).toNat)
      case atStart => exact ⟨0, Nat.zero_le _, rfl, H2.out⟩
      case round =>
        clear H0 H1 H2
        obtain ⟨k, hk, rfl, h3⟩ := hrel
        have H3 := Hd.mk h3
        clear h3
        by_cases hlt : k < N
        · have hd1 : decide ((k : Int) < (N : Int)) = true := by simp; omega
          have hkl : k < l.length := HN.out ▸ hlt
          obtain ⟨g, o, rfl, hg, hok, kv, hkv, hc⟩ := (HRow.out (HEnd.out H3.out)).at rfl hkl
          obtain ⟨p5, c5, rfl⟩ := hkv.slice
          obtain ⟨x, hx⟩ : ∃ x, l[k] = x := ⟨_, rfl⟩
          have hba := bulk_at hkl HFP.out.2.2
          have hfq := HFQ.out k (Nat.le_of_lt hkl)
          have hnext := doAll_succ newS l k hkl
          rw [hx] at hc hok hkv hba hnext
          have c0 : wr.cell? ⟨g, o + k * 6, none⟩ = some (.int .i64 x.d) := hc 0 _ rfl
          have c1 := hc 1 _ rfl
          have c2 := hc 2 _ rfl
          have c3 := hc 3 _ rfl
          have c4 := hc 4 _ rfl
          have c5' := hc 5 _ rfl
          have HDO := Hd.mk (do_op wr D _ x (.slice p5 x.k.length c5) hok (hfq.fit (by omega)) (by have := hfq.q; omega) (by omega) (hkv.mono (fun g e => by subst e; exact Nat.le_trans HBW.out.size H3.out.ge)))
          have HNX := Hd.mk hnext
          have hkz : k ≤ 200 := by have := HFP.out.2.1; omega
          clear hc hok hkv hba hfq hnext hx
          go_wp2_with fail
          refine (H3.out.run HDO.out).mono ?_
          rintro e w3 ⟨rfl, h4⟩
          have H4 := Hd.mk h4
          clear h4
          go_wp2
          exact ⟨⟨k + 1, hlt, by go_num, by rw [HNX.out]; exact H4.out⟩, by simp [intOf]; omega⟩
        · have hd1 : decide ((k : Int) < (N : Int)) = false := by simp; omega
          have hfq := HFQ.out k (by rw [HN.out]; exact hk)
          obtain ⟨σ, hσ⟩ : ∃ σ, doAll newS (l.take k) = σ := ⟨_, rfl⟩
          rw [hσ] at H3 hfq
          have HFq : Hd (FitQ σ 5000) := ⟨hfq.mono (Nat.le_trans (bulk_mono l k l.length (by rw [HN.out]; exact hk)) HFP.out.2.2)⟩
          have hsa : a.s.size ≤ 5000 := by
            have h2 := (few_parts HF2.out).2.2
            have : bulk [a] [a].length = a.s.size + a.k.length := by simp [bulk]
            omega
          have HSA := Hd.mk hsa
          have HAO := HA.out
          have an2 := HAO.n.2
          have HAN := Hd.mk an2
          clear hfq hσ hk hsa HAO an2
          go_wp2_with fail
          refine (H3.out.run (OpC.arm 0 (.slice none 0 0) [] _ (by decide) (IR.nil _ _) rfl)).mono ?_
          rintro e w3 ⟨rfl, h4⟩
          have H4 := Hd.mk h4; clear h4
          go_wp2_with fail
          refine (H4.out.run (OpC.start (upS σ) rfl)).mono ?_
          rintro e w4 ⟨rfl, h5⟩
          have H5 := Hd.mk h5; clear h5 H4 H3
          have HFU := Hd.mk (fitq_up HFq.out)
          obtain ⟨u, hu⟩ : ∃ u, upS σ = u := ⟨_, rfl⟩
          have hcalm := calm_up σ
          rw [hu] at H5 HFU hcalm
          have HCalm := Hd.mk hcalm
          clear hu hcalm
          obtain ⟨b0, b1, b2, b3, b4, b5⟩ := HBox.out H5.out
          have hF3 : (0 ≤ a.f ∧ a.f < 8) ∨ a.f < 0 ∨ 7 < a.f := by omega
          have bx0 : ∀ {w' : World}, One wa w' D u → w'.cell? ⟨bx, 1, none⟩ = some (.int .i64 a.f) ∧ w'.cell? ⟨bx, 2, none⟩ = some (.int .i64 a.g) ∧ w'.cell? ⟨bx, 3, none⟩ = some (.int .i64 a.n) ∧ w'.cell? ⟨bx, 4, none⟩ = some (.string a.s) := fun {w'} h => by
            obtain ⟨_, b1, b2, b3, b4, _⟩ := HBox.out h
            exact ⟨b1, b2, b3, b4⟩
          have HB4 := Hd.mk @bx0; clear bx0 b0 b1 b2 b3 b4 b5
          rcases hF3 with hF | hF | hF
          all_goals
            first
            | (have f1 : ¬ a.f < 0 := by omega
               have f2 : ¬ 7 < a.f := by omega
               clear hF
               obtain ⟨b1, b2, b3, b4⟩ := HB4.out H5.out
               go_wp2_with fail)
            | (have hbad : isF a.f = false := not_isF (by omega)
               have HW := Hd.mk (calm_write_bad HCalm.out hbad a.n a.s.data.toList)
               have HFl := Hd.mk (calm_flush_bad HCalm.out hbad)
               have HCu := Hd.mk (calm_cut_bad HCalm.out hbad 0)
               have HT1 := Hd.mk (calm_turn_bad HCalm.out (calm_may2 HCalm.out hbad).1)
               have HT2 := Hd.mk (calm_turn_bad HCalm.out (calm_may2 HCalm.out hbad).2)
               have HSz := Hd.mk (size_bad u hbad)
               have f0 : a.f < 0 ∨ ¬ a.f < 0 := by omega
               clear hbad
               obtain ⟨b1, b2, b3, b4⟩ := HB4.out H5.out
               go_wp2_with fail
               refine (H5.out.run (OpC.write a.f a.n a.s 1 u (HFU.out.fit (by decide)) (by have := HFU.out.q; have := HSA.out; omega) HAN.out (Nat.le_trans HSA.out (by decide)) (congrArg Nat.cast HW.out.1) HW.out.2)).mono ?_
               rintro e wn ⟨rfl, hn⟩
               have H5 := Hd.mk hn; clear hn b1 b2 b3 b4
               obtain ⟨b1, b2, b3, b4⟩ := HB4.out H5.out
               go_wp2_with fail
               refine (H5.out.run (OpC.flush a.f 1 u (HFU.out.fit (by decide)) (congrArg Nat.cast HFl.out.1) HFl.out.2)).mono ?_
               rintro e wn ⟨rfl, hn⟩
               have H5 := Hd.mk hn; clear hn b1 b2 b3 b4
               obtain ⟨b1, b2, b3, b4⟩ := HB4.out H5.out
               go_wp2_with fail
               refine (H5.out.run (OpC.cut a.f 0 1 u (HFU.out.fit (by decide)) (congrArg Nat.cast HCu.out.1) HCu.out.2)).mono ?_
               rintro e wn ⟨rfl, hn⟩
               have H5 := Hd.mk hn; clear hn b1 b2 b3 b4
               obtain ⟨b1, b2, b3, b4⟩ := HB4.out H5.out
               go_wp2_with fail
               refine (H5.out.run (OpC.turn a.f 1 1 u (HFU.out.fit (by decide)) (congrArg Nat.cast HT1.out.1) HT1.out.2)).mono ?_
               rintro e wn ⟨rfl, hn⟩
               have H5 := Hd.mk hn; clear hn b1 b2 b3 b4
               obtain ⟨b1, b2, b3, b4⟩ := HB4.out H5.out
               go_wp2_with fail
               refine (H5.out.run (OpC.turn 1 a.f 1 u (HFU.out.fit (by decide)) (congrArg Nat.cast HT2.out.1) HT2.out.2)).mono ?_
               rintro e wn ⟨rfl, hn⟩
               have H5 := Hd.mk hn; clear hn b1 b2 b3 b4
               obtain ⟨b1, b2, b3, b4⟩ := HB4.out H5.out
               go_wp2_with fail
               refine (H5.out.run (OpC.sizeOf a.f 0 (congrArg Nat.cast HSz.out))).mono ?_
               rintro e wn ⟨rfl, hn⟩
               have H5 := Hd.mk hn; clear hn b1 b2 b3 b4
               obtain ⟨b1, b2, b3, b4⟩ := HB4.out H5.out
               go_wp2_with fail)
          all_goals
            refine (H5.out.run (OpC.crash (.slice none 0 0) [] (crashS u []) (by decide) (HFU.out.fit (by decide)) (IR.nil _ _) rfl)).mono ?_
            rintro e w6 ⟨rfl, h6⟩
            have H6 := Hd.mk h6; clear h6 H5 b1 b2 b3 b4
            have HDn := Hd.mk (crash_down u [])
            have HFT := Hd.mk (HFU.out.crash [])
            obtain ⟨t, ht⟩ : ∃ t, crashS u [] = t := ⟨_, rfl⟩
            rw [ht] at H6 HDn HFT
            clear ht
            have HW := Hd.mk (down_write HDn.out a.f a.n a.s.data.toList)
            have HFl := Hd.mk (down_flush HDn.out a.f)
            have HCu := Hd.mk (down_cut HDn.out a.f a.n)
            have HTu := Hd.mk (down_turn HDn.out a.f a.g)
            have HRd := Hd.mk (down_read HDn.out a.f)
            go_wp2_with fail
            refine (H6.out.copy (HFT.out.fit (by decide)).q).mono ?_; rintro e w7 ⟨E, rfl, h7⟩
            have H7 := Hd.mk h7; clear h7 H6
            go_wp2_with fail
            refine (H7.out.run2 (OpC.start (startS t) rfl)).mono ?_; rintro e w8 ⟨rfl, h8⟩
            have H7 := Hd.mk h8; clear h8
            obtain ⟨b1, b2, b3, b4⟩ : _ ∧ _ ∧ _ ∧ _ := ⟨(HBox.out H7.out.left).2.1, (HBox.out H7.out.left).2.2.1, (HBox.out H7.out.left).2.2.2.1, (HBox.out H7.out.left).2.2.2.2.1⟩
            go_wp2_with fail
            refine (H7.out.run (OpC.read a.f ⟨#[]⟩ 10 HRd.out.1 (congrArg Nat.cast HRd.out.2))).mono ?_
            rintro e wn ⟨rfl, hn⟩
            have H7 := Hd.mk hn; clear hn b1 b2 b3 b4
            obtain ⟨b1, b2, b3, b4⟩ : _ ∧ _ ∧ _ ∧ _ := ⟨(HBox.out H7.out.left).2.1, (HBox.out H7.out.left).2.2.1, (HBox.out H7.out.left).2.2.2.1, (HBox.out H7.out.left).2.2.2.2.1⟩
            go_wp2_with fail
            refine ((H7.out.alloc _).run (OpC.crash _ [1, 1] t (by decide) (HFT.out.fit (by decide)) (H7.out.left.row2 1 1) (down_crash HDn.out _))).mono ?_
            rintro e wn ⟨rfl, hn⟩
            have H7 := Hd.mk hn; clear hn b1 b2 b3 b4
            obtain ⟨b1, b2, b3, b4⟩ : _ ∧ _ ∧ _ ∧ _ := ⟨(HBox.out H7.out.left).2.1, (HBox.out H7.out.left).2.2.1, (HBox.out H7.out.left).2.2.2.1, (HBox.out H7.out.left).2.2.2.2.1⟩
            go_wp2_with fail
            refine (H7.out.run (OpC.write a.f a.n a.s 10 t (HFT.out.fit (by decide)) (by have := HFT.out.q; have := HSA.out; omega) HAN.out (Nat.le_trans HSA.out (by decide)) (congrArg Nat.cast HW.out.1) HW.out.2)).mono ?_
            rintro e wn ⟨rfl, hn⟩
            have H7 := Hd.mk hn; clear hn b1 b2 b3 b4
            obtain ⟨b1, b2, b3, b4⟩ : _ ∧ _ ∧ _ ∧ _ := ⟨(HBox.out H7.out.left).2.1, (HBox.out H7.out.left).2.2.1, (HBox.out H7.out.left).2.2.2.1, (HBox.out H7.out.left).2.2.2.2.1⟩
            go_wp2_with fail
            refine (H7.out.run (OpC.flush a.f 10 t (HFT.out.fit (by decide)) (congrArg Nat.cast HFl.out.1) HFl.out.2)).mono ?_
            rintro e wn ⟨rfl, hn⟩
            have H7 := Hd.mk hn; clear hn b1 b2 b3 b4
            obtain ⟨b1, b2, b3, b4⟩ : _ ∧ _ ∧ _ ∧ _ := ⟨(HBox.out H7.out.left).2.1, (HBox.out H7.out.left).2.2.1, (HBox.out H7.out.left).2.2.2.1, (HBox.out H7.out.left).2.2.2.2.1⟩
            go_wp2_with fail
            refine (H7.out.run (OpC.cut a.f a.n 10 t (HFT.out.fit (by decide)) (congrArg Nat.cast HCu.out.1) HCu.out.2)).mono ?_
            rintro e wn ⟨rfl, hn⟩
            have H7 := Hd.mk hn; clear hn b1 b2 b3 b4
            obtain ⟨b1, b2, b3, b4⟩ : _ ∧ _ ∧ _ ∧ _ := ⟨(HBox.out H7.out.left).2.1, (HBox.out H7.out.left).2.2.1, (HBox.out H7.out.left).2.2.2.1, (HBox.out H7.out.left).2.2.2.2.1⟩
            go_wp2_with fail
            refine (H7.out.run (OpC.turn a.f a.g 10 t (HFT.out.fit (by decide)) (congrArg Nat.cast HTu.out.1) HTu.out.2)).mono ?_
            rintro e wn ⟨rfl, hn⟩
            have H7 := Hd.mk hn; clear hn b1 b2 b3 b4
            obtain ⟨b1, b2, b3, b4⟩ : _ ∧ _ ∧ _ ∧ _ := ⟨(HBox.out H7.out.left).2.1, (HBox.out H7.out.left).2.2.1, (HBox.out H7.out.left).2.2.2.1, (HBox.out H7.out.left).2.2.2.2.1⟩
            go_wp2_with fail
            refine (H7.out.run (OpC.down true HDn.out)).mono ?_
            rintro e wn ⟨rfl, hn⟩
            have H7 := Hd.mk hn; clear hn b1 b2 b3 b4
            obtain ⟨b1, b2, b3, b4⟩ : _ ∧ _ ∧ _ ∧ _ := ⟨(HBox.out H7.out.left).2.1, (HBox.out H7.out.left).2.2.1, (HBox.out H7.out.left).2.2.2.1, (HBox.out H7.out.left).2.2.2.2.1⟩
            go_wp2_with fail
            refine (H7.out.run (OpC.start (startS t) rfl)).mono ?_
            rintro e wn ⟨rfl, hn⟩
            have H7 := Hd.mk hn; clear hn b1 b2 b3 b4
            obtain ⟨b1, b2, b3, b4⟩ : _ ∧ _ ∧ _ ∧ _ := ⟨(HBox.out H7.out.left).2.1, (HBox.out H7.out.left).2.2.1, (HBox.out H7.out.left).2.2.2.1, (HBox.out H7.out.left).2.2.2.2.1⟩
            clear b1 b2 b3 b4
            go_wp2_with fail
            go_loopw [11] (fun i wr => ∃ k : Nat, k ≤ 8 ∧ i = .int .i64 k ∧ Two wa wr D E (startS t) (startS t)) (fun i _ => 8 - (intOf i).toNat)
            case atStart => exact ⟨0, by decide, rfl, H7.out⟩
            case round =>
              clear H7
              obtain ⟨f, hf, rfl, h8⟩ := hrel
              have H8 := Hd.mk h8; clear h8
              by_cases hlt : f < 8
              · have hd1 : (f : Int) < 8 := by omega
                obtain ⟨rs, hrs⟩ : ∃ rs : ByteArray, readL (startS t) (f : Int) = rs.data.toList := ⟨⟨(readL (startS t) (f : Int)).toArray⟩, rfl⟩
                obtain ⟨c, hc⟩ : ∃ c : Int, (mayS (startS t) (f : Int) : Int) = c := ⟨_, rfl⟩
                have HRS := Hd.mk hrs; have HCC := Hd.mk hc
                clear hrs hc
                go_wp2_with fail
                refine (H8.out.run (OpC.read f rs c HRS.out HCC.out)).mono ?_; rintro e w9 ⟨rfl, h9⟩
                have H9 := Hd.mk h9; clear h9
                go_wp2_with fail
                refine (H9.out.run2 (OpC.read f rs c HRS.out HCC.out)).mono ?_; rintro e w10 ⟨rfl, h10⟩
                have H10 := Hd.mk h10; clear h10
                go_wp2
                exact ⟨⟨f + 1, hlt, by go_num, H10.out⟩, by simp [intOf]; omega⟩
              · have hd1 : ¬ (f : Int) < 8 := by omega
                clear hf hlt
                go_wp2_with fail
                refine (H8.out.run (OpC.down false rfl)).mono ?_; rintro e w9 ⟨rfl, h9⟩
                have H9 := Hd.mk h9; clear h9
                go_wp2
                go_ret
                exact ⟨rfl, HEnd.out H9.out.left⟩

end Go.Proofs.Ytcleocgaooblfaa.W
