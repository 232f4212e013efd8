/-
  DiskTells: the law's walk.
-/
import Derived.Test.YtcleocgaooblfaaRf15
import Derived.Test.YtcleocgaooblfaaDown
import Derived.Lib.QuietBelow
namespace Go.Proofs.Ytcleocgaooblfaa.W
open Go.RowKit Go.Sort
set_option linter.unusedVariables false

theorem regrown_keeps (w : World) (d : Nat) (os : Array Obj) : Keeps (fun _ => False) w (grow (redrawn w d) os) :=
  Keeps.of_below (below_regrown w d os) (fun k h1 h2 => by omega)
theorem keeps_below {w w' : World} (k : Keeps (fun _ => False) w w') : Below w.heap.size w w' := k.below (Nat.le_refl _) (fun _ _ h => h)

theorem q_down {w : World} {B : World} {D : Nat} {σ : St} (h : One B w D σ) {b : Bool} (hb : σ.down = b) (d : Nat) (os : Array Obj) :
    Calls Try.prog 21 #[.pointer (some ⟨D, 0, none⟩)] (grow (redrawn w d) os) fun e w'' => e = .returned (.bool b) ∧ ∃ p : Regrown, w'' = grow (redrawn w p.d) p.os := by
  obtain ⟨O, hr, _⟩ := (h.next (regrown_keeps w d os)).is
  exact Calls.regrown_of ((down_any _ D σ O hr).mono fun e w' ⟨he, hw⟩ => ⟨hb ▸ he, hw ▸ Below.refl _ _⟩)
theorem q_size {w : World} {B : World} {D : Nat} {σ : St} (h : One B w D σ) (f : Int) {c : Int} (hc : (sizeS σ f : Int) = c) (d : Nat) (os : Array Obj) :
    Calls Try.prog 18 #[.pointer (some ⟨D, 0, none⟩), .int .i64 f] (grow (redrawn w d) os) fun e w'' => e = .returned (.int .i64 c) ∧ ∃ p : Regrown, w'' = grow (redrawn w p.d) p.os := by
  obtain ⟨O, hr, _⟩ := (h.next (regrown_keeps w d os)).is
  exact Calls.regrown_of ((size_any _ D σ O f hr).mono fun e w' ⟨he, hw⟩ => ⟨hc ▸ he, hw ▸ Below.refl _ _⟩)
theorem q_rdown {w : World} {B E : Nat} {σ : St} (h : RRep w B E σ) {b : Bool} (hb : σ.down = b) (d : Nat) (os : Array Obj) :
    Calls Try.prog 32 #[.pointer (some ⟨E, 0, none⟩)] (grow (redrawn w d) os) fun e w'' => e = .returned (.bool b) ∧ ∃ p : Regrown, w'' = grow (redrawn w p.d) p.os :=
  Calls.regrown_of ((rdown_any _ B E σ (h.next (regrown_keeps w d os))).mono fun e w' ⟨he, hw⟩ => ⟨hb ▸ he, hw ▸ Below.refl _ _⟩)
theorem q_rsize {w : World} {B E : Nat} {σ : St} (h : RRep w B E σ) (hq : σ.queue.length ≤ 1000000000) (f : Int) {c : Int} (hc : (sizeS σ f : Int) = c) (d : Nat) (os : Array Obj) :
    Calls Try.prog 33 #[.pointer (some ⟨E, 0, none⟩), .int .i64 f] (grow (redrawn w d) os) fun e w'' => e = .returned (.int .i64 c) ∧ ∃ p : Regrown, w'' = grow (redrawn w p.d) p.os :=
  Calls.regrown_of ((rsize_any _ B E σ f hq (h.next (regrown_keeps w d os))).mono fun e w' ⟨he, hk⟩ => ⟨hc ▸ he, keeps_below hk⟩)

theorem do_same {σ : St} {x : Ac} (h : pickI x.d = 9) : doS σ x = σ := by unfold doS; rw [h]; rfl
theorem start_may (σ : St) {f : Nat} (hf : f < 8) : mayS (startS σ) (f : Int) = 0 := by
  unfold mayS; rw [show (startS σ).down = false from rfl, show isF (f : Int) = true by unfold isF; exact decide_eq_true (by omega)]; rfl

theorem One.copyR {B w : World} {D b E : Nat} {σ τ : St} (h : One B w D σ) (hr : RRep w b E τ) (hk : σ.queue.length ≤ 1000000000) :
    Calls Try.prog 28 #[.pointer (some ⟨D, 0, none⟩)] w fun e w' => ∃ C, e = .returned (.pointer (some ⟨C, 0, none⟩)) ∧ Two B w' D C σ σ ∧ RRep w' b E τ := by
  obtain ⟨O, h1, hO⟩ := h.is
  have hl := h1.lt
  refine (copy_any w D σ O hk h1).mono fun e w' ⟨P, he, hP, hPg, k⟩ => ⟨_, he, ?_, hr.next k⟩
  refine ⟨⟨O, P, h1.next k, hP, hO, fun g hg => Nat.le_trans h.size (Nat.le_of_lt (hPg g hg)), fun e => ?_, fun e => ?_, fun g a b => ?_⟩, fun e => ?_, (h.next k).below, h.ge, h.size⟩
  · exact Nat.lt_irrefl _ (h1.ltO e)
  · exact Nat.lt_irrefl _ (Nat.lt_trans hl (hPg D e))
  · exact Nat.lt_irrefl _ (Nat.lt_trans (h1.ltO a) (hPg g b))
  · exact Nat.lt_irrefl _ (e ▸ hl)

set_option maxHeartbeats 4000000 in
set_option maxRecDepth 100000 in
theorem tells_law (W : World) (v : Value) (l : List Ac) (hv : ArgActs W v l) :
    Calls Try.prog 8 #[v] W fun e w' => e = .returned (.bool true) ∧ Below W.heap.size W w' := by
  obtain ⟨pv, cv, rfl⟩ := hv.row.slice
  have HV := Hd.mk hv
  have lN := hv.len
  obtain ⟨N, hN⟩ : ∃ N, l.length = N := ⟨_, rfl⟩
  rw [hN] at lN HV
  rw [hN]
  have HN := Hd.mk hN
  clear hv hN
  go_enter Try.func8, Try.ntmps8
  go_wp2_with fail
  refine (small_any W).mono ?_; rintro e wa ⟨rfl, hb0⟩
  have HBW : Hd (Below W.heap.size W wa) := ⟨hb0⟩
  clear hb0
  go_wp2_with fail
  refine (One.new wa).mono ?_; rintro e w0 ⟨D, rfl, h0⟩
  have H0 := Hd.mk h0; clear h0
  have hend : ∀ {w' : World} {D : Nat} {σ : St}, One wa w' D σ → Below W.heap.size W w' := fun h => Below.chain HBW.out h.below
  have HEnd := Hd.mk @hend; clear hend
  have hrow : ∀ {w' : World}, Below W.heap.size W w' → ARow (fun kv ks => IR (fun g => W.heap.size ≤ g) w' kv ks) w' (.slice pv N cv) l := fun {w'} hb => by
    have hr := HV.out.row
    exact hr.keeps (S := fun k => W.heap.size ≤ k) (Keeps.of_below hb (fun k _ h => h)) (fun g _ hlt => Nat.not_le.2 hlt) (fun kv ks h => h.below hb)
  have HRow := Hd.mk @hrow; clear hrow
  go_wp2_with fail
  refine (few_any w0 _ l _ (fun kv ks h => h.slice) (by rw [HN.out]; omega) (HRow.out (HEnd.out H0.out))).mono ?_
  rintro e w1 ⟨rfl, k1⟩
  have H1 := Hd.mk (H0.out.next k1)
  clear k1 H0
  rcases hf : fewB l with _ | _
  · go_wp2
    go_ret
    exact ⟨rfl, HEnd.out H1.out⟩
  · have hfp := few_parts hf
    have hok : ∀ x ∈ l, AcOk x := fun x hx => by
      obtain ⟨j, hj, rfl⟩ := List.getElem_of_mem hx
      obtain ⟨_, _, _, _, hok, _⟩ := (HRow.out (HEnd.out H1.out)).at rfl hj
      exact hok
    have HFQ := Hd.mk (fitq_all hok hfp.2.2)
    have HFP := Hd.mk hfp
    clear hfp hok hf
    go_wp2_with fail
    refine (rnew_any w1 wa.heap.size H1.out.below.size).mono ?_
    rintro e w2 ⟨E, rfl, hr, k2⟩
    have H2 := Hd.mk (H1.out.next k2); have R2 := Hd.mk hr; clear hr k2 H1
    go_wp2_with fail
    go_loopw [4, 5, 6] (fun d x i wr => ∃ (k D E : Nat), k ≤ N ∧ d = .pointer (some ⟨D, 0, none⟩) ∧ x = .pointer (some ⟨E, 0, none⟩) ∧ i = .int .i64 k ∧ Hd (One wa wr D (doAll newS (l.take k))) ∧ Hd (RRep wr wa.heap.size E (doAll newS (l.take k)))) (fun _ _ i _ => N - (intOf i).toNat)
    case atStart => exact ⟨0, D, E, Nat.zero_le _, rfl, rfl, rfl, H2, R2⟩
    case round =>
      clear H2 R2
      obtain ⟨k, D, E, hk, rfl, rfl, rfl, H3, R3⟩ := hrel
      by_cases hlt : k < N
      · have hd1 : decide ((k : Int) < (N : Int)) = true := by simp; omega
        have hkl : k < l.length := HN.out ▸ hlt
        obtain ⟨g, o, rfl, hg, hok, kv, hkv, hc⟩ := (HV.out.row).at rfl hkl
        obtain ⟨p5, c5, rfl⟩ := hkv.slice
        obtain ⟨x, hx⟩ : ∃ x, l[k] = x := ⟨_, rfl⟩
        have hba := bulk_at hkl HFP.out.2.2
        have hfq := HFQ.out k (Nat.le_of_lt hkl)
        have hnext := doAll_succ newS l k hkl
        rw [hx] at hc hok hkv hba hnext
        have hcell : ∀ w', Below W.heap.size W w' → w'.cell? ⟨g, o + k * 6, none⟩ = some (.int .i64 x.d) ∧ w'.cell? ⟨g, o + k * 6 + 1, none⟩ = some (.int .i64 x.f) ∧ w'.cell? ⟨g, o + k * 6 + 2, none⟩ = some (.int .i64 x.g) ∧ w'.cell? ⟨g, o + k * 6 + 3, none⟩ = some (.int .i64 x.n) ∧ w'.cell? ⟨g, o + k * 6 + 4, none⟩ = some (.string x.s) ∧ w'.cell? ⟨g, o + k * 6 + 5, none⟩ = some (.slice p5 x.k.length c5) := fun w' hb => by
          have h1 : ∀ i u, (acCells x (.slice p5 x.k.length c5))[i]? = some u → w'.cell? ⟨g, o + k * 6 + i, none⟩ = some u := fun i u hu => by
            rw [World.cell?_of_block (a := ⟨g, o + k * 6 + i, none⟩) (hb.block g hg)]; exact hc i u hu
          exact ⟨h1 0 _ rfl, h1 1 _ rfl, h1 2 _ rfl, h1 3 _ rfl, h1 4 _ rfl, h1 5 _ rfl⟩
        have HCell := Hd.mk hcell
        have HKv := Hd.mk hkv
        have HOk := Hd.mk hok
        have HNX := Hd.mk hnext
        obtain ⟨σ, hσ⟩ : ∃ σ, doAll newS (l.take k) = σ := ⟨_, rfl⟩
        rw [hσ] at H3 R3 hfq HNX
        have hFit : Fit σ := hfq.fit (by omega)
        have hq1 : σ.queue.length + x.s.size ≤ 1000000000 := by have := hfq.q; omega
        have hxk : x.k.length ≤ 1000000000 := by omega
        have hFitB : FitQ σ 5000 := hfq.mono (by omega)
        have HFi := Hd.mk (And.intro hFit (And.intro hq1 (And.intro hxk hFitB)))
        obtain ⟨rs, hrs⟩ := bytesOf (doL σ x)
        obtain ⟨ce, hce⟩ : ∃ ce : Int, ((doE σ x : Nat) : Int) = ce := ⟨_, rfl⟩
        obtain ⟨τ, hτ⟩ : ∃ τ, doS σ x = τ := ⟨_, rfl⟩
        have hdo : ∀ w' D', Below W.heap.size W w' → W.heap.size ≤ D' → OpC w' 23 #[.pointer (some ⟨D', 0, none⟩), .agg (acCells x (.slice p5 x.k.length c5)).toArray] D' σ τ (.tuple #[.string rs, .int .i64 ce]) := fun w' D' hb hD => by
          have := do_op w' D' σ x (.slice p5 x.k.length c5) hok hFit hq1 hxk ((hkv.below hb).mono (fun g e => by subst e; exact hD))
          rw [hτ, hce, hrs, strV_of] at this
          exact this
        have htw : ∀ w' E', Below W.heap.size W w' → wa.heap.size ≤ w'.heap.size → RRep w' wa.heap.size E' σ → Calls Try.prog 31 #[.pointer (some ⟨E', 0, none⟩), .agg (acCells x (.slice p5 x.k.length c5)).toArray] w' fun e w'' => e = .returned (.tuple #[.string rs, .int .i64 ce]) ∧ RRep w'' wa.heap.size E' τ ∧ RK wa.heap.size w' w'' := fun w' E' hb hs hr => by
          have := twin_any w' wa.heap.size E' σ x (.slice p5 x.k.length c5) hs hok hFit hq1 hxk ((hkv.below hb).mono (fun g e => Nat.le_trans HBW.out.size e)) hr
          rw [hτ, hce, hrs, strV_of] at this
          exact this
        have HDo := Hd.mk hdo
        have HTw := Hd.mk htw
        have hτq : τ.queue.length ≤ 1000000000 := by
          have := HFQ.out (k + 1) hkl
          rw [HNX.out, hτ] at this
          have h2 := this.q
          have h3 := bulk_mono l (k + 1) l.length hkl
          have h4 := HFP.out.2.2
          omega
        have HTq := Hd.mk hτq
        obtain ⟨dn, hdn⟩ : ∃ dn, τ.down = dn := ⟨_, rfl⟩
        obtain ⟨sz, hsz⟩ : ∃ sz : Int, (sizeS τ x.f : Int) = sz := ⟨_, rfl⟩
        have HDn := Hd.mk (And.intro hdn hsz)
        rw [hτ] at HNX
        have hkz : k ≤ 200 := by have := HFP.out.2.1; omega
        have HPk := fun w => Hd.mk (pick_any x.d w hok.d)
        have HSame := Hd.mk (@do_same σ x)
        have hs9 : Hd (pickI x.d = 9 → τ = σ) := ⟨fun h => by rw [← hτ]; exact do_same h⟩
        clear hok hkv hba hfq hnext hx hσ hFit hq1 hxk hrs hce hdo htw hτq hdn hsz hcell hc hFitB hτ HSame
        obtain ⟨c0, c1, c2, c3, c4, c5'⟩ := HCell.out _ (HEnd.out H3.out)
        go_wp2_with fail
        refine (HPk _).out.mono ?_; rintro e w4 ⟨rfl, rfl⟩
        obtain ⟨pk, hpk⟩ : ∃ pk, pickI x.d = pk := ⟨_, rfl⟩
        rw [hpk] at hs9 ⊢
        by_cases h9 : pk = 9
        · subst h9
          clear c0 c1 c2 c3 c4 c5' hpk
          go_wp2_with fail
          have hFg := (HFi.out.2.2.2.write 0 0 [103, 111, 110, 101]).fit (by decide)
          have HFg := Hd.mk hFg
          clear hFg
          refine (H3.out.copyR R3.out HFi.out.1.q).mono ?_
          rintro e w4 ⟨C, rfl, h4, r4⟩
          have H4 := Hd.mk h4; have R4 := Hd.mk r4; clear h4 r4 H3 R3
          go_wp2_with fail
          refine (H4.out.runR R4.out (OpC.write 0 0 ⟨#[103, 111, 110, 101]⟩ _ _ HFi.out.1 (by have := HFi.out.2.2.2.q; show _ + 4 ≤ _; omega) (by decide) (by decide) rfl rfl)).mono ?_
          rintro e w5 ⟨rfl, h5, r5⟩
          have H5 := Hd.mk h5; have R5 := Hd.mk r5; clear h5 r5 H4 R4
          go_wp2_with fail
          refine (H5.out.runR R5.out (OpC.crash (.slice none 0 0) [] _ (by decide) HFg.out (IR.nil _ _) rfl)).mono ?_
          rintro e w6 ⟨rfl, h6, r6⟩
          have H6 := Hd.mk h6.right; have R6 := Hd.mk r6; clear h6 r6 H5 R5
          go_wp2_with fail
          refine (rcopy_any w6 _ E σ H6.out.below.size HFi.out.1.q HFi.out.1.k R6.out).mono ?_
          rintro e wq ⟨E2, rfl, rq, kq⟩
          have HO := Hd.mk (H6.out.next kq); have HR := Hd.mk rq; clear rq kq H6 R6
          obtain ⟨c0, c1, c2, c3, c4, c5'⟩ := HCell.out _ (HEnd.out HO.out)
          go_wp2_with fail
          refine (HO.out.runR HR.out (HDo.out _ _ (HEnd.out HO.out) (Nat.le_trans HBW.out.size HO.out.ge))).mono ?_
          rintro e w7 ⟨rfl, h7, r7⟩
          have H7 := Hd.mk h7; have R7 := Hd.mk r7; clear h7 r7 c0 c1 c2 c3 c4 c5' HO
          obtain ⟨c0, c1, c2, c3, c4, c5'⟩ := HCell.out _ (HEnd.out H7.out)
          go_wp2_with fail
          refine (HTw.out _ _ (HEnd.out H7.out) H7.out.below.size R7.out).mono ?_
          rintro e w8 ⟨rfl, r8, k8⟩
          have H8 := Hd.mk (H7.out.rk k8); have R8 := Hd.mk r8; clear r8 k8 c0 c1 c2 c3 c4 c5' H7 R7 HR
          have kc1 := (fun d os => cell_regrown (HCell.out _ (HEnd.out H8.out)).2.1 d os)
          have q1 := Hd.mk (q_down H8.out HDn.out.1)
          have q2 := Hd.mk (q_rdown R8.out HDn.out.1)
          have q3 := Hd.mk (q_size H8.out x.f HDn.out.2)
          have q4 := Hd.mk (q_rsize R8.out HTq.out x.f HDn.out.2)
          go_wp2_with fail
          refine wp_region_quiet_below (by kernel_rfl) (by kernel_rfl) ?_
          repeat (quiet_step (first | exact q1.out _ _ | exact q2.out _ _ | exact q3.out _ _ | exact q4.out _ _))
          refine wpQuiet_nil ?_
          intro _ hw'
          obtain ⟨⟨dq, osq⟩, hw''⟩ := hw'
          have H9 := Hd.mk (H8.out.next (regrown_keeps w8 dq osq)); have R9 := Hd.mk (R8.out.next (regrown_keeps w8 dq osq))
          dsimp only at hw''
          rw [← hw''] at H9 R9
          clear hw'' kc1 q1 q2 q3 q4 H8 R8
          go_wp2
          exact ⟨⟨k + 1, _, _, hlt, rfl, rfl, by go_num, ⟨by rw [HNX.out]; exact H9.out⟩, ⟨by rw [HNX.out]; exact R9.out⟩⟩, by simp [intOf]; omega⟩
        · have h9' : ((pk : Int) == 9) = false := by simpa using h9
          have HO := H3; have HR := R3; clear H3 R3 c0 c1 c2 c3 c4 c5' hpk hs9
          obtain ⟨c0, c1, c2, c3, c4, c5'⟩ := HCell.out _ (HEnd.out HO.out)
          go_wp2_with fail
          refine (HO.out.runR HR.out (HDo.out _ _ (HEnd.out HO.out) (Nat.le_trans HBW.out.size HO.out.ge))).mono ?_
          rintro e w7 ⟨rfl, h7, r7⟩
          have H7 := Hd.mk h7; have R7 := Hd.mk r7; clear h7 r7 c0 c1 c2 c3 c4 c5' HO
          obtain ⟨c0, c1, c2, c3, c4, c5'⟩ := HCell.out _ (HEnd.out H7.out)
          go_wp2_with fail
          refine (HTw.out _ _ (HEnd.out H7.out) H7.out.below.size R7.out).mono ?_
          rintro e w8 ⟨rfl, r8, k8⟩
          have H8 := Hd.mk (H7.out.rk k8); have R8 := Hd.mk r8; clear r8 k8 c0 c1 c2 c3 c4 c5' H7 R7 HR
          have kc1 := (fun d os => cell_regrown (HCell.out _ (HEnd.out H8.out)).2.1 d os)
          have q1 := Hd.mk (q_down H8.out HDn.out.1)
          have q2 := Hd.mk (q_rdown R8.out HDn.out.1)
          have q3 := Hd.mk (q_size H8.out x.f HDn.out.2)
          have q4 := Hd.mk (q_rsize R8.out HTq.out x.f HDn.out.2)
          go_wp2_with fail
          refine wp_region_quiet_below (by kernel_rfl) (by kernel_rfl) ?_
          repeat (quiet_step (first | exact q1.out _ _ | exact q2.out _ _ | exact q3.out _ _ | exact q4.out _ _))
          refine wpQuiet_nil ?_
          intro _ hw'
          obtain ⟨⟨dq, osq⟩, hw''⟩ := hw'
          have H9 := Hd.mk (H8.out.next (regrown_keeps w8 dq osq)); have R9 := Hd.mk (R8.out.next (regrown_keeps w8 dq osq))
          dsimp only at hw''
          rw [← hw''] at H9 R9
          clear hw'' kc1 q1 q2 q3 q4 H8 R8
          go_wp2
          exact ⟨⟨k + 1, _, _, hlt, rfl, rfl, by go_num, ⟨by rw [HNX.out]; exact H9.out⟩, ⟨by rw [HNX.out]; exact R9.out⟩⟩, by simp [intOf]; omega⟩
      · have hd1 : decide ((k : Int) < (N : Int)) = false := by simp; omega
        obtain ⟨σ, hσ⟩ : ∃ σ, doAll newS (l.take k) = σ := ⟨_, rfl⟩
        have hfq := HFQ.out k (by rw [HN.out]; exact hk)
        rw [hσ] at H3 R3 hfq
        have hqq : (startS σ).queue.length ≤ 1000000000 := by
          have h2 := hfq.q
          have h3 := bulk_mono l k l.length (by rw [HN.out]; exact hk)
          have h4 := HFP.out.2.2
          show σ.queue.length ≤ _
          omega
        have HQQ := Hd.mk hqq
        clear hσ hfq hk hqq
        go_wp2_with fail
        refine (H3.out.runR R3.out (OpC.start (startS σ) rfl)).mono ?_
        rintro e w4 ⟨rfl, h4, r4⟩
        have H4 := Hd.mk h4; have R4 := Hd.mk r4; clear h4 r4 H3 R3
        go_wp2_with fail
        refine (rstart_any w4 _ E σ R4.out).mono ?_
        rintro e w5 ⟨rfl, r5, k5⟩
        have H5 := Hd.mk (H4.out.rk k5); have R5 := Hd.mk r5; clear r5 k5 H4 R4
        go_wp2_with fail
        go_loopw [12] (fun i wr => ∃ f : Nat, f ≤ 8 ∧ i = .int .i64 f ∧ Hd (One wa wr D (startS σ)) ∧ Hd (RRep wr wa.heap.size E (startS σ))) (fun i _ => 8 - (intOf i).toNat)
        case atStart => exact ⟨0, by decide, rfl, H5, R5⟩
        case round =>
          clear H5 R5
          obtain ⟨f, hf, rfl, H6, R6⟩ := hrel
          by_cases hlt : f < 8
          · have hd2 : (f : Int) < 8 := by omega
            obtain ⟨rs, hrs⟩ := bytesOf (readL (startS σ) (f : Int))
            have HRS := Hd.mk hrs
            have HMy := Hd.mk (start_may σ hlt)
            clear hrs
            go_wp2_with fail
            refine (H6.out.runR R6.out (OpC.read f rs 0 HRS.out (congrArg Nat.cast HMy.out))).mono ?_
            rintro e w7 ⟨rfl, h7, r7⟩
            have H7 := Hd.mk h7; have R7 := Hd.mk r7; clear h7 r7 H6 R6
            have hrr := Hd.mk (rread_any w7 _ E (startS σ) f HQQ.out R7.out)
            rw [HRS.out, HMy.out, strV_of] at hrr
            go_wp2_with fail
            refine hrr.out.mono ?_
            rintro e w8 ⟨rfl, k8⟩
            have H8 := Hd.mk (H7.out.next k8); have R8 := Hd.mk (R7.out.next k8); clear k8 H7 R7 hrr
            go_wp2
            exact ⟨⟨f + 1, hlt, by go_num, H8, R8⟩, by simp [intOf]; omega⟩
          · have hd2 : ¬ (f : Int) < 8 := by omega
            clear hf hlt
            go_wp2
            go_ret
            exact ⟨rfl, HEnd.out H6.out⟩

end Go.Proofs.Ytcleocgaooblfaa.W
