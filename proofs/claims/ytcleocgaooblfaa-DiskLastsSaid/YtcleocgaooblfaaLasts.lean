/-
  DiskLasts: the walk.
-/
import Derived.Test.YtcleocgaooblfaaLW
import Derived.Test.YtcleocgaooblfaaDown
namespace Go.Proofs.Ytcleocgaooblfaa.W
open Go.RowKit
set_option linter.unusedVariables false

theorem make_8 (w : World) : (Instr.makeSlice 40 (.int .i64 8) (.int .i64 8)).run Try.prog w = .ok (.slice (some ⟨w.heap.size, 0, none⟩) 8 8) (w.alloc (.cells #[.string ⟨#[]⟩, .string ⟨#[]⟩, .string ⟨#[]⟩, .string ⟨#[]⟩, .string ⟨#[]⟩, .string ⟨#[]⟩, .string ⟨#[]⟩, .string ⟨#[]⟩] 9)) := by kernel_rfl

/-- what holds behind k operations -/
structure LI (l : List Ac) (k : Nat) (σ : St) (ps : List AV) : Prop where
  i : Inv σ ps
  q : FitQ σ (bulk l k)
  n : ps.length ≤ k

theorem pickI_bd (n : Int) : 0 ≤ pickI n ∧ pickI n ≤ 10 := by unfold pickI; omega
theorem since_len (σ : St) (ps : List AV) (a : AV) : (sinceS σ ps a).length ≤ ps.length + 1 := by
  unfold sinceS; split
  · simp
  · omega
theorem fell_read {σ : St} (h : Fell σ) {f : Nat} (hf : f < 8) : readL (startS σ) (f : Int) = σ.files.getD f [] ∧ mayS (startS σ) (f : Int) = 0 := by
  have : mayS (startS σ) (f : Int) = 0 := by
    unfold mayS; rw [show (startS σ).down = false from rfl, show isF (f : Int) = true by unfold isF; exact decide_eq_true (by omega)]; rfl
  refine ⟨?_, this⟩
  unfold readL; rw [if_pos this, Int.toNat_natCast]; rfl
theorem up_may {σ : St} (h : σ.down = false) {f : Nat} (hf : f < 8) : mayS σ (f : Int) = 0 := by
  unfold mayS; rw [h, show isF (f : Int) = true by unfold isF; exact decide_eq_true (by omega)]; rfl
theorem FitQ.startq {σ : St} {b : Nat} (h : FitQ σ b) : FitQ (startS σ) b := ⟨h.a, h.l, h.k, h.q⟩
theorem settle_up {σ : St} {a : Ac} (hd : σ.down = true) (hp : pickI a.d = 2 ∨ pickI a.d = 3) : (doS σ a).down = true := by
  have h1 : headS σ = σ := (down_all hd).2.2.1
  rcases hp with hp | hp
  · unfold doS; rw [if_neg (by omega), if_pos hp, (down_flush hd _).2]; exact hd
  · unfold doS; rw [if_neg (by omega), if_neg (by omega), if_pos hp, (down_cut hd _ _).2]; exact hd
theorem turn_up {σ : St} {a : Ac} (hd : σ.down = true) (hp : pickI a.d = 4) : (doS σ a).down = true := by
  unfold doS; rw [if_neg (by omega), if_neg (by omega), if_neg (by omega), if_pos hp, (down_turn hd _ _).2]; exact hd
theorem own_typ {w : World} {B : Nat} {v : Value} {xs : List Value} (h : Own w B 3 v xs) {g : Nat} (hg : v.ownBlock = some g) : ∃ cur fz, w.heap[g]? = some (.cells cur 3 fz) := by
  rcases h.is with ⟨rfl, _⟩ | ⟨g', cap, rfl, _, _, _, ⟨cur, fz, hg', _⟩, _⟩
  · cases hg
  · have : g' = g := by simpa [Value.ownBlock] using hg
    subst this
    exact ⟨cur, fz, hg'⟩
theorem own_cell {w : World} {B : Nat} {e : TypeId} {g n c : Nat} {xs : List Value} (h : Own w B e (.slice (some ⟨g, 0, none⟩) n c) xs) {j : Nat} {u : Value} (hj : xs[j]? = some u) : w.cell? ⟨g, j, none⟩ = some u := by
  rcases h.is with ⟨e', rfl⟩ | ⟨g', cap, e', _, _, _, _, hc, _⟩
  · simp at hj
  · injection e' with e1 _ _; injection e1 with e1; injection e1 with e1 _ _
    subst e1
    exact hc j u hj
theorem bytes_of (l : List UInt8) : ∃ s : ByteArray, l = s.data.toList := ⟨⟨l.toArray⟩, rfl⟩

set_option maxHeartbeats 40000000 in
set_option maxRecDepth 100000 in
theorem lasts_law (W : World) (v : Value) (l : List Ac) (vk : Value) (ks : List Int) (hv : ArgActs W v l) (hka : ArgInts W vk ks) :
    Calls Try.prog 5 #[v, vk] W fun e w' => e = .returned (.bool true) ∧ Below W.heap.size W w' := by
  obtain ⟨pv, cv, rfl⟩ := hv.row.slice
  obtain ⟨pk, ck, rfl⟩ := hka.row.slice
  have HV := Hd.mk hv
  have HKA := Hd.mk hka
  have lN := hv.len
  obtain ⟨N, hN⟩ : ∃ N, l.length = N := ⟨_, rfl⟩
  rw [hN] at lN HV
  rw [hN]
  have HN := Hd.mk hN
  clear hv hka hN
  go_enter Try.func5, Try.ntmps5
  go_wp2_with fail
  refine (small_any W).mono ?_; rintro e wa ⟨rfl, hb0⟩
  have HBW := Hd.mk hb0
  clear hb0
  go_wp2_with fail
  refine (One.new wa).mono ?_; rintro e w0 ⟨D, rfl, h0⟩
  have H0 := Hd.mk h0; clear h0
  have hend : ∀ {w' : World}, Below wa.heap.size wa w' → Below W.heap.size W w' := fun h => Below.chain HBW.out h
  have HEnd := Hd.mk @hend; clear hend
  have hrow : ∀ {w' : World}, Below W.heap.size W w' → ARow (fun kv ks => IR (fun g => W.heap.size ≤ g) w' kv ks) w' (.slice pv N cv) l := fun {w'} hb => by
    have hr := HV.out.row
    exact hr.keeps (S := fun k => W.heap.size ≤ k) (Keeps.of_below hb (fun k _ h => h)) (fun g _ hlt => Nat.not_le.2 hlt) (fun kv ks h => h.below hb)
  have HRow := Hd.mk @hrow; clear hrow
  go_wp2_with fail
  refine (few_any w0 _ l _ (fun kv ks h => h.slice) (by rw [HN.out]; omega) (HRow.out (HEnd.out H0.out.below))).mono ?_
  rintro e w1 ⟨rfl, k1⟩
  have H1 := Hd.mk (H0.out.next k1)
  clear k1
  rcases hf : fewB l with _ | _
  · go_wp2
    go_ret
    exact ⟨rfl, HEnd.out H1.out.below⟩
  · have HF1 := Hd.mk (few_parts hf)
    have HL0 := Hd.mk (LW.first H1.out)
    have hmk := make_8 w1
    obtain ⟨R0, hR0⟩ : ∃ r, w1.heap.size = r := ⟨_, rfl⟩
    rw [hR0] at HL0 hmk
    clear hf
    have HDge : Hd (W.heap.size ≤ D) := ⟨Nat.le_trans HBW.out.size H1.out.ge⟩
    go_wp2
    clear hR0
    go_loopw [8, 9] (fun u i wr => ∃ (k : Nat) (σ : St) (ps : List AV), k ≤ N ∧ i = .int .i64 k ∧ Hd (LW wa wr D R0 u σ σ.lasts ps) ∧ Hd (LI l k σ ps)) (fun _ i _ => N - (intOf i).toNat)
    case atStart => exact ⟨0, newS, [], Nat.zero_le _, rfl, HL0, ⟨⟨Inv.new, fitq_new, Nat.zero_le _⟩⟩⟩
    case round =>
      clear H0 H1 HL0 hmk
      obtain ⟨k, σ, ps, hk, rfl, HL, HLi⟩ := hrel
      by_cases hlt : k < N
      · have hd1 : decide ((k : Int) < (N : Int)) = true := by simp; omega
        have hkl : k < l.length := HN.out ▸ hlt
        obtain ⟨g, o, rfl, hg, hok, kv, hkv, hc⟩ := (HRow.out (HEnd.out HL.out.below)).at rfl hkl
        obtain ⟨p5, c5, rfl⟩ := hkv.slice
        obtain ⟨x, hx⟩ : ∃ x, l[k] = x := ⟨_, rfl⟩
        have hba := bulk_at hkl HF1.out.2.2
        have hbs := bulk_succ l k hkl
        have hbad := HF1.out.1 _ (List.getElem_mem hkl)
        rw [hx] at hc hok hkv hba hbs hbad
        have c0 : wr.cell? ⟨g, o + k * 6, none⟩ = some (.int .i64 x.d) := hc 0 _ rfl
        have c1 := hc 1 _ rfl
        have c2 := hc 2 _ rfl
        have c3 := hc 3 _ rfl
        have c4 := hc 4 _ rfl
        have c5' := hc 5 _ rfl
        have HK200 : Hd (k < 200) := ⟨by have := HF1.out.2.1; have := HN.out; omega⟩
        have HIR : Hd (∀ {w'}, Keeps (fun g => W.heap.size ≤ g) wr w' → IR (· = D) w' (.slice p5 x.k.length c5) x.k) := ⟨fun h => (hkv.keeps h).mono (fun g e => by subst e; exact HDge.out)⟩
        have HPk := fun w => Hd.mk (pick_any x.d w hok.d)
        have HStep := Hd.mk (step_law HLi.out.i (x, .slice p5 x.k.length c5) hok hbad)
        have HBox := Hd.mk (Blk.new wr 42 [.int .i64 x.d, .int .i64 x.f, .int .i64 x.g, .int .i64 x.n, .string x.s, .slice p5 x.k.length c5])
        have HLa := Hd.mk (HL.out.alloc (.cells #[.int .i64 x.d, .int .i64 x.f, .int .i64 x.g, .int .i64 x.n, .string x.s, .slice p5 x.k.length c5] 42))
        have HFQ2 : Hd (FitQ (doS σ x) (bulk l (k + 1))) := ⟨by rw [hbs]; exact (HLi.out.q.do x hok (by omega)).mono (by omega)⟩
        have HPL : Hd (ps.length ≤ k) := ⟨HLi.out.n⟩
        have HBA : Hd (bulk l (k + 1) ≤ 5000) := ⟨by omega⟩
        have HDO : Hd (∀ w, IR (· = D) w (.slice p5 x.k.length c5) x.k → OpC w 23 #[.pointer (some ⟨D, 0, none⟩), .agg #[.int .i64 x.d, .int .i64 x.f, .int .i64 x.g, .int .i64 x.n, .string x.s, .slice p5 x.k.length c5]] D σ (doS σ x) (.tuple #[strV (doL σ x), .int .i64 (doE σ x : Nat)])) := ⟨fun w h => do_op w D σ x _ hok (HLi.out.q.fit (by omega)) (by have := HLi.out.q.q; omega) (by omega) h⟩
        have HPs0 := Hd.mk (HLi.out.i.sinceS (x, .slice p5 x.k.length c5) hok).ps
        have HSL0 := Hd.mk (since_len σ ps (x, .slice p5 x.k.length c5))
        have hpb := pickI_bd x.d
        obtain ⟨dl, hdl⟩ := bytes_of (doL σ x)
        rw [hdl, strV_of] at HDO
        obtain ⟨er, her⟩ : ∃ e, doE σ x = e := ⟨_, rfl⟩
        rw [her] at HDO
        obtain ⟨p, hpp⟩ : ∃ p, pickI x.d = p := ⟨_, rfl⟩
        obtain ⟨dn, hdn⟩ : ∃ b, σ.down = b := ⟨_, rfl⟩
        rw [hpp] at HPk hpb
        have HPP := Hd.mk hpp
        have HDD := Hd.mk hdn
        have HER := Hd.mk her
        have hbr : (p ≤ 1 ∧ dn = false ∧ 0 ≤ x.n ∧ x.n < 4000) ∨ (p ≤ 1 ∧ dn = true) ∨ (p ≤ 1 ∧ dn = false ∧ x.n < 0) ∨ (p ≤ 1 ∧ dn = false ∧ 0 ≤ x.n ∧ 4000 ≤ x.n) ∨ 1 < p := by
          rcases dn with _ | _ <;> simp <;> omega
        clear hc hok hkv hba hbs hbad hdl her hpp hdn hx hg
        rcases hbr with ⟨b1, rfl, b2, b3⟩ | ⟨b1, rfl⟩ | ⟨b1, rfl, b2⟩ | ⟨b1, rfl, b2, b3⟩ | b1
        · have hsi : sinceS σ ps (x, .slice p5 x.k.length c5) = ps ++ [(x, .slice p5 x.k.length c5)] := by unfold sinceS; rw [if_pos ⟨by show pickI x.d ≤ 1; rw [HPP.out]; exact b1, HDD.out, b2, b3⟩]
          have hb2 : Blk ((wr.alloc (.cells #[.int .i64 x.d, .int .i64 x.f, .int .i64 x.g, .int .i64 x.n, .string x.s, .slice p5 x.k.length c5] 42)).alloc (.cells #[.int .i64 x.d, .int .i64 x.f, .int .i64 x.g, .int .i64 x.n, .string x.s, .slice p5 x.k.length c5] 42)) (wr.heap.size + 1) 42 [.int .i64 x.d, .int .i64 x.f, .int .i64 x.g, .int .i64 x.n, .string x.s, .slice p5 x.k.length c5] := by
            have := Blk.new (wr.alloc (.cells #[.int .i64 x.d, .int .i64 x.f, .int .i64 x.g, .int .i64 x.n, .string x.s, .slice p5 x.k.length c5] 42)) 42 [.int .i64 x.d, .int .i64 x.f, .int .i64 x.g, .int .i64 x.n, .string x.s, .slice p5 x.k.length c5]
            rwa [show (wr.alloc (.cells #[.int .i64 x.d, .int .i64 x.f, .int .i64 x.g, .int .i64 x.n, .string x.s, .slice p5 x.k.length c5] 42)).heap.size = wr.heap.size + 1 from by simp] at this
          obtain ⟨u2, w2', hr, h2, h3, h5⟩ := run_since ((wr.alloc (.cells #[.int .i64 x.d, .int .i64 x.f, .int .i64 x.g, .int .i64 x.n, .string x.s, .slice p5 x.k.length c5] 42)).alloc (.cells #[.int .i64 x.d, .int .i64 x.f, .int .i64 x.g, .int .i64 x.n, .string x.s, .slice p5 x.k.length c5] 42)) u8 ps (x, .slice p5 x.k.length c5) (wr.heap.size + 1) ((HLa.out.alloc _).since) (by have := HPL.out; have := HK200.out; omega) rfl (fun j y hj => hb2.at hj)
          have HR2 := Hd.mk hr
          have HLb := Hd.mk ((HLa.out.alloc (.cells #[.int .i64 x.d, .int .i64 x.f, .int .i64 x.g, .int .i64 x.n, .string x.s, .slice p5 x.k.length c5] 42)).grow h2 h3 h5)
          have hbox : Blk w2' wr.heap.size 42 [.int .i64 x.d, .int .i64 x.f, .int .i64 x.g, .int .i64 x.n, .string x.s, .slice p5 x.k.length c5] := h3.blk (HBox.out.alloc _) (fun e => by have := HL.out.since.lt e; omega)
          have HBox2 := Hd.mk hbox
          have HIR2 : Hd (IR (· = D) w2' (.slice p5 x.k.length c5) x.k) := ⟨HIR.out ((((Keeps.refl (fun g => W.heap.size ≤ g) wr).alloc _).alloc _).trans (h3.mono (fun g _ e => by have := HL.out.vge g e; have := HBW.out.size; omega)))⟩
          clear hr h2 h3 h5 hb2
          have t1 : decide (p ≤ 1) = true := by simp; omega
          have t2 : decide (0 ≤ x.n) = true := by simp; omega
          have t3 : decide (x.n < 4000) = true := by simp; omega
          have p2 : (p == 2) = false := by simp; omega
          have p3 : (p == 3) = false := by simp; omega
          have p4 : (p == 4) = false := by simp; omega
          clear b1 b2 b3
          go_wp2_with fail
          refine (HLa.out.one.down false HDD.out).mono ?_
          rintro e w2 ⟨rfl, rfl⟩
          go_wp2_with fail
          refine (HPk _).out.mono ?_
          rintro e w2 ⟨rfl, rfl⟩
          obtain ⟨PS, hPS⟩ : ∃ q, sinceS σ ps (x, .slice p5 x.k.length c5) = q := ⟨_, rfl⟩
          have HSi := Hd.mk hPS
          rw [hPS] at HPs0 HSL0
          have HPs := HPs0
          have HSL : Hd ((sinceS σ ps (x, .slice p5 x.k.length c5)).length ≤ k + 1) := ⟨by rw [HSi.out]; have := HSL0.out; have := HPL.out; omega⟩
          have HPSL : Hd (PS.length ≤ 1000) := ⟨by have := HSL0.out; have := HPL.out; have := HK200.out; omega⟩
          have e0 := hbox.at (j := 0) rfl
          have e1 := hbox.at (j := 1) rfl
          have e2 := hbox.at (j := 2) rfl
          have e3 := hbox.at (j := 3) rfl
          have e4 := hbox.at (j := 4) rfl
          have e5 := hbox.at (j := 5) rfl
          go_wp2_with (at_builtin; refine wp_append_run rfl (Operand.tmp 69) (Operand.tmp 71) 38 rfl _ _ _ rfl rfl HR2.out ?_)
          refine (HLb.out.run (HDO.out _ HIR2.out)).mono ?_
          rintro e w3 ⟨rfl, hA3⟩
          clear e0 e1 e2 e3 e4 e5 hbox
          have HL3 : Hd (LW wa w3 D R0 u2 (doS σ x) σ.lasts PS) := ⟨by rw [← HSi.out, hsi]; exact hA3.lw⟩
          have HBox3 := Hd.mk (hA3.box _ _ HBox2.out)
          clear hA3 hsi hPS HPs0 HSL0
          rcases HStep.out with ⟨F, hp, e, hF, h8, d, i, l'⟩ | ⟨F, G, hp, e, hF, h8, hG, g8, d, i, l'⟩ | ⟨hp, hq, u', xf, gf⟩ | ⟨hp, hq, d, i, l'⟩
          · exact absurd hp (by show ¬ (pickI x.d = 2 ∨ pickI x.d = 3); rw [HPP.out]; simp at p2 p3; omega)
          · exact absurd hp (by show ¬ pickI x.d = 4; rw [HPP.out]; simp at p4; omega)
          · dsimp only at hp hq u' xf gf
            have HX := Hd.mk xf
            have HG : Hd (∀ f, f < 8 → Good (σ.lasts.getD f []) PS f ((doS σ x).files.getD f [])) := ⟨by rw [← HSi.out]; exact gf⟩
            have HU8 : Hd (σ.lasts.length = 8) := ⟨HLi.out.i.ok.l8⟩
            clear hp hq u' xf gf
            go_wp2_with fail
            refine (HL3.out.one.down true HX.out.d).mono ?_
            rintro e w4 ⟨rfl, rfl⟩
            go_wp2_with fail
            refine (HL3.out.run (OpC.start (startS (doS σ x)) rfl)).mono ?_
            rintro e w4 ⟨rfl, hA4⟩
            have HL4 : Hd (LW wa w4 D R0 u2 (startS (doS σ x)) (mix (doS σ x).files σ.lasts 0) PS) := ⟨by rw [mix_zero]; exact hA4.lw⟩
            clear hA4 HL3
            go_wp2
            go_loopw [15] (fun i wz => ∃ f : Nat, f ≤ 8 ∧ i = .int .i64 f ∧ Hd (LW wa wz D R0 u2 (startS (doS σ x)) (mix (doS σ x).files σ.lasts f) PS)) (fun i _ => 8 - (intOf i).toNat)
            case atStart => exact ⟨0, by decide, rfl, HL4⟩
            case round =>
              clear HL4
              obtain ⟨f, hf, rfl, HLf⟩ := hrel
              by_cases hf8 : f < 8
              · have hd8 : (f : Int) < 8 := by omega
                obtain ⟨hrd, hmy⟩ := fell_read HX.out hf8
                have hgood := HG.out f hf8
                have hfl := getD_le HX.out.ok.fl f
                have hset := mix_set HX.out.ok.f8 HU8.out hf8
                have hcell := safe_cell HLf.out.safe (f := f) (by rw [mix_len HX.out.ok.f8 HU8.out hf]; exact hf8)
                have hmixl := mix_len HX.out.ok.f8 HU8.out hf
                rw [mix_at HX.out.ok.f8 hf8] at hcell
                obtain ⟨rs, hrs⟩ := bytes_of ((doS σ x).files.getD f [])
                obtain ⟨sf, hsf⟩ := bytes_of (σ.lasts.getD f [])
                rw [hrs] at hrd hgood hfl hset
                rw [hsf] at hgood hcell
                have HSet := Hd.mk hset
                have HGd := Hd.mk hgood
                have HFl : Hd (rs.size ≤ 16777216) := ⟨hfl⟩
                have HRead : Hd (∀ w, OpC w 17 #[.pointer (some ⟨D, 0, none⟩), .int .i64 f] D (startS (doS σ x)) (startS (doS σ x)) (.tuple #[.string rs, .int .i64 0])) := ⟨fun w => OpC.read f rs 0 hrd (congrArg Nat.cast hmy)⟩
                have HCell : Hd (∀ {w v' ps'}, LW wa w D R0 v' (startS (doS σ x)) (mix (doS σ x).files σ.lasts f) ps' → w.cell? ⟨R0, f, none⟩ = some (.string sf) ∧ w.frozen? ⟨R0, f, none⟩ = false) := ⟨fun h => by
                  have := safe_cell h.safe (f := f) (by rw [hmixl]; exact hf8)
                  rw [mix_at HX.out.ok.f8 hf8, hsf] at this
                  exact ⟨this, h.safe.free f⟩⟩
                clear hrd hmy hgood hfl hset hcell hmixl hrs hsf
                go_wp2_with fail
                refine (HLf.out.run (HRead.out _)).mono ?_
                rintro e w5 ⟨rfl, hA5⟩
                have HL5 := Hd.mk hA5.lw; clear hA5 HLf
                obtain ⟨cs1, cs2⟩ := HCell.out HL5.out
                have i0 : (0 : Int) ≤ (f : Int) := by omega
                go_wp2_with fail
                refine (here_any _ u2 PS rs sf f HFl.out HPSL.out HPs.out HL5.out.since HGd.out).mono ?_
                rintro e w6 ⟨rfl, k6⟩
                have HL6 := Hd.mk (HL5.out.next k6); clear k6 HL5 cs1 cs2
                obtain ⟨cs1, cs2⟩ := HCell.out HL6.out
                have HL7 : Hd (LW wa (w6.setCell ⟨R0, f, none⟩ (.string rs)) D R0 u2 (startS (doS σ x)) (mix (doS σ x).files σ.lasts (f + 1)) PS) := ⟨by rw [← HSet.out]; exact HL6.out.setSafe f rs.data.toList⟩
                go_wp2
                go_roundw
                case rel => exact ⟨f + 1, hf8, by go_num, HL7⟩
                case measure => simp [intOf]; omega
              · have hd8 : ¬ (f : Int) < 8 := by omega
                obtain rfl : f = 8 := by omega
                have hmix := mix_all HX.out.ok.f8 HU8.out
                have hag := HX.out.again
                have HL5 : Hd (LW wa wr D R0 (.slice none 0 0) (startS (doS σ x)) (doS σ x).files []) := ⟨by have := HLf.out.clear; rwa [hmix] at this⟩
                have HAg := Hd.mk hag
                have HFS := Hd.mk HFQ2.out.startq
                clear hmix hag HLf hf
                go_wp2_with fail
                refine (HL5.out.run (OpC.crash (.slice none 0 0) [] (crashS (startS (doS σ x)) []) (by decide) (HFS.out.fit (by have := HBA.out; omega)) (IR.nil _ _) rfl)).mono ?_
                rintro e w6 ⟨rfl, hA6⟩
                have HL6 : Hd (LW wa w6 D R0 (.slice none 0 0) (crashS (startS (doS σ x)) []) (crashS (startS (doS σ x)) []).lasts []) := ⟨by rw [HAg.out.2]; exact hA6.lw⟩
                have HLI2 : Hd (LI l (k + 1) (crashS (startS (doS σ x)) []) []) := ⟨⟨HAg.out.1, HFS.out.crash [], Nat.zero_le _⟩⟩
                clear hA6 HL5
                go_wp2
                go_roundw
                case rel => exact ⟨k + 1, _, [], hlt, by go_num, HL6, HLI2⟩
                case measure => simp [intOf]; omega
          · dsimp only at hp hq d i l'
            have HDn : Hd ((doS σ x).down = false) := ⟨d.elim (fun h => absurd (HDD.out.symm.trans h) (by decide)) id⟩
            have HLI2 : Hd (LI l (k + 1) (doS σ x) PS) := ⟨⟨by rw [← HSi.out]; exact i, HFQ2.out, by rw [← HSi.out]; exact HSL.out⟩⟩
            have HL4 : Hd (LW wa w3 D R0 u2 (doS σ x) (doS σ x).lasts PS) := ⟨by rw [l']; exact HL3.out⟩
            clear d i l' hp hq
            go_wp2_with fail
            refine (HL3.out.one.down false HDn.out).mono ?_
            rintro e w4 ⟨rfl, rfl⟩
            go_wp2
            go_roundw
            case rel => exact ⟨k + 1, doS σ x, PS, hlt, by go_num, ⟨HL4.out⟩, ⟨HLI2.out⟩⟩
            case measure => simp [intOf]; omega
        · as_aux_lemma =>
            have hsi : sinceS σ ps (x, .slice p5 x.k.length c5) = ps := by unfold sinceS; rw [if_neg (fun h => by rw [HDD.out] at h; cases h.2.1)]
            have t1 : decide (p ≤ 1) = true := by simp; omega
            have p2 : (p == 2) = false := by simp; omega
            have p3 : (p == 3) = false := by simp; omega
            have p4 : (p == 4) = false := by simp; omega
            clear b1
            go_wp2_with fail
            refine (HLa.out.one.down true HDD.out).mono ?_
            rintro e w2 ⟨rfl, rfl⟩
            go_wp2_with fail
            refine (HPk _).out.mono ?_
            rintro e w2 ⟨rfl, rfl⟩
            obtain ⟨PS, hPS⟩ : ∃ q, sinceS σ ps (x, .slice p5 x.k.length c5) = q := ⟨_, rfl⟩
            have HSi := Hd.mk hPS
            rw [hPS] at HPs0 HSL0
            have HPs := HPs0
            have HSL : Hd ((sinceS σ ps (x, .slice p5 x.k.length c5)).length ≤ k + 1) := ⟨by rw [HSi.out]; have := HSL0.out; have := HPL.out; omega⟩
            have HPSL : Hd (PS.length ≤ 1000) := ⟨by have := HSL0.out; have := HPL.out; have := HK200.out; omega⟩
            go_wp2_with fail
            refine (HLa.out.run (HDO.out _ (HIR.out ((Keeps.refl _ _).alloc _)))).mono ?_
            rintro e w3 ⟨rfl, hA3⟩
            have HL3 : Hd (LW wa w3 D R0 u8 (doS σ x) σ.lasts PS) := ⟨by rw [← HSi.out, hsi]; exact hA3.lw⟩
            have HBox3 := Hd.mk (hA3.box _ _ HBox.out)
            clear hA3 hsi hPS HPs0 HSL0
            rcases HStep.out with ⟨F, hp, e, hF, h8, d, i, l'⟩ | ⟨F, G, hp, e, hF, h8, hG, g8, d, i, l'⟩ | ⟨hp, hq, u', xf, gf⟩ | ⟨hp, hq, d, i, l'⟩
            · exact absurd hp (by show ¬ (pickI x.d = 2 ∨ pickI x.d = 3); rw [HPP.out]; simp at p2 p3; omega)
            · exact absurd hp (by show ¬ pickI x.d = 4; rw [HPP.out]; simp at p4; omega)
            · exact absurd (HDD.out.symm.trans u') (by decide)
            · dsimp only at hp hq d i l'
              have HLI2 : Hd (LI l (k + 1) (doS σ x) PS) := ⟨⟨by rw [← HSi.out]; exact i, HFQ2.out, by rw [← HSi.out]; exact HSL.out⟩⟩
              have HL4 : Hd (LW wa w3 D R0 u8 (doS σ x) (doS σ x).lasts PS) := ⟨by rw [l']; exact HL3.out⟩
              clear d i l' hp hq
              go_wp2
              go_roundw
              case rel => exact ⟨k + 1, doS σ x, PS, hlt, by go_num, ⟨HL4.out⟩, ⟨HLI2.out⟩⟩
              case measure => simp [intOf]; omega
        · as_aux_lemma =>
            have hsi : sinceS σ ps (x, .slice p5 x.k.length c5) = ps := by unfold sinceS; rw [if_neg (fun h => absurd (show 0 ≤ x.n from h.2.2.1) (by omega))]
            have t1 : decide (p ≤ 1) = true := by simp; omega
            have t2 : decide (0 ≤ x.n) = false := by simp; omega
            have p2 : (p == 2) = false := by simp; omega
            have p3 : (p == 3) = false := by simp; omega
            have p4 : (p == 4) = false := by simp; omega
            clear b1 b2
            go_wp2_with fail
            refine (HLa.out.one.down false HDD.out).mono ?_
            rintro e w2 ⟨rfl, rfl⟩
            go_wp2_with fail
            refine (HPk _).out.mono ?_
            rintro e w2 ⟨rfl, rfl⟩
            obtain ⟨PS, hPS⟩ : ∃ q, sinceS σ ps (x, .slice p5 x.k.length c5) = q := ⟨_, rfl⟩
            have HSi := Hd.mk hPS
            rw [hPS] at HPs0 HSL0
            have HPs := HPs0
            have HSL : Hd ((sinceS σ ps (x, .slice p5 x.k.length c5)).length ≤ k + 1) := ⟨by rw [HSi.out]; have := HSL0.out; have := HPL.out; omega⟩
            have HPSL : Hd (PS.length ≤ 1000) := ⟨by have := HSL0.out; have := HPL.out; have := HK200.out; omega⟩
            go_wp2_with fail
            refine (HLa.out.run (HDO.out _ (HIR.out ((Keeps.refl _ _).alloc _)))).mono ?_
            rintro e w3 ⟨rfl, hA3⟩
            have HL3 : Hd (LW wa w3 D R0 u8 (doS σ x) σ.lasts PS) := ⟨by rw [← HSi.out, hsi]; exact hA3.lw⟩
            have HBox3 := Hd.mk (hA3.box _ _ HBox.out)
            clear hA3 hsi hPS HPs0 HSL0
            rcases HStep.out with ⟨F, hp, e, hF, h8, d, i, l'⟩ | ⟨F, G, hp, e, hF, h8, hG, g8, d, i, l'⟩ | ⟨hp, hq, u', xf, gf⟩ | ⟨hp, hq, d, i, l'⟩
            · exact absurd hp (by show ¬ (pickI x.d = 2 ∨ pickI x.d = 3); rw [HPP.out]; simp at p2 p3; omega)
            · exact absurd hp (by show ¬ pickI x.d = 4; rw [HPP.out]; simp at p4; omega)
            · dsimp only at hp hq u' xf gf
              have HX := Hd.mk xf
              have HG : Hd (∀ f, f < 8 → Good (σ.lasts.getD f []) PS f ((doS σ x).files.getD f [])) := ⟨by rw [← HSi.out]; exact gf⟩
              have HU8 : Hd (σ.lasts.length = 8) := ⟨HLi.out.i.ok.l8⟩
              clear hp hq u' xf gf
              go_wp2_with fail
              refine (HL3.out.one.down true HX.out.d).mono ?_
              rintro e w4 ⟨rfl, rfl⟩
              go_wp2_with fail
              refine (HL3.out.run (OpC.start (startS (doS σ x)) rfl)).mono ?_
              rintro e w4 ⟨rfl, hA4⟩
              have HL4 : Hd (LW wa w4 D R0 u8 (startS (doS σ x)) (mix (doS σ x).files σ.lasts 0) PS) := ⟨by rw [mix_zero]; exact hA4.lw⟩
              clear hA4 HL3
              go_wp2
              go_loopw [15] (fun i wz => ∃ f : Nat, f ≤ 8 ∧ i = .int .i64 f ∧ Hd (LW wa wz D R0 u8 (startS (doS σ x)) (mix (doS σ x).files σ.lasts f) PS)) (fun i _ => 8 - (intOf i).toNat)
              case atStart => exact ⟨0, by decide, rfl, HL4⟩
              case round =>
                clear HL4
                obtain ⟨f, hf, rfl, HLf⟩ := hrel
                by_cases hf8 : f < 8
                · have hd8 : (f : Int) < 8 := by omega
                  obtain ⟨hrd, hmy⟩ := fell_read HX.out hf8
                  have hgood := HG.out f hf8
                  have hfl := getD_le HX.out.ok.fl f
                  have hset := mix_set HX.out.ok.f8 HU8.out hf8
                  have hcell := safe_cell HLf.out.safe (f := f) (by rw [mix_len HX.out.ok.f8 HU8.out hf]; exact hf8)
                  have hmixl := mix_len HX.out.ok.f8 HU8.out hf
                  rw [mix_at HX.out.ok.f8 hf8] at hcell
                  obtain ⟨rs, hrs⟩ := bytes_of ((doS σ x).files.getD f [])
                  obtain ⟨sf, hsf⟩ := bytes_of (σ.lasts.getD f [])
                  rw [hrs] at hrd hgood hfl hset
                  rw [hsf] at hgood hcell
                  have HSet := Hd.mk hset
                  have HGd := Hd.mk hgood
                  have HFl : Hd (rs.size ≤ 16777216) := ⟨hfl⟩
                  have HRead : Hd (∀ w, OpC w 17 #[.pointer (some ⟨D, 0, none⟩), .int .i64 f] D (startS (doS σ x)) (startS (doS σ x)) (.tuple #[.string rs, .int .i64 0])) := ⟨fun w => OpC.read f rs 0 hrd (congrArg Nat.cast hmy)⟩
                  have HCell : Hd (∀ {w v' ps'}, LW wa w D R0 v' (startS (doS σ x)) (mix (doS σ x).files σ.lasts f) ps' → w.cell? ⟨R0, f, none⟩ = some (.string sf) ∧ w.frozen? ⟨R0, f, none⟩ = false) := ⟨fun h => by
                    have := safe_cell h.safe (f := f) (by rw [hmixl]; exact hf8)
                    rw [mix_at HX.out.ok.f8 hf8, hsf] at this
                    exact ⟨this, h.safe.free f⟩⟩
                  clear hrd hmy hgood hfl hset hcell hmixl hrs hsf
                  go_wp2_with fail
                  refine (HLf.out.run (HRead.out _)).mono ?_
                  rintro e w5 ⟨rfl, hA5⟩
                  have HL5 := Hd.mk hA5.lw; clear hA5 HLf
                  obtain ⟨cs1, cs2⟩ := HCell.out HL5.out
                  have i0 : (0 : Int) ≤ (f : Int) := by omega
                  go_wp2_with fail
                  refine (here_any _ u8 PS rs sf f HFl.out HPSL.out HPs.out HL5.out.since HGd.out).mono ?_
                  rintro e w6 ⟨rfl, k6⟩
                  have HL6 := Hd.mk (HL5.out.next k6); clear k6 HL5 cs1 cs2
                  obtain ⟨cs1, cs2⟩ := HCell.out HL6.out
                  have HL7 : Hd (LW wa (w6.setCell ⟨R0, f, none⟩ (.string rs)) D R0 u8 (startS (doS σ x)) (mix (doS σ x).files σ.lasts (f + 1)) PS) := ⟨by rw [← HSet.out]; exact HL6.out.setSafe f rs.data.toList⟩
                  go_wp2
                  go_roundw
                  case rel => exact ⟨f + 1, hf8, by go_num, HL7⟩
                  case measure => simp [intOf]; omega
                · have hd8 : ¬ (f : Int) < 8 := by omega
                  obtain rfl : f = 8 := by omega
                  have hmix := mix_all HX.out.ok.f8 HU8.out
                  have hag := HX.out.again
                  have HL5 : Hd (LW wa wr D R0 (.slice none 0 0) (startS (doS σ x)) (doS σ x).files []) := ⟨by have := HLf.out.clear; rwa [hmix] at this⟩
                  have HAg := Hd.mk hag
                  have HFS := Hd.mk HFQ2.out.startq
                  clear hmix hag HLf hf
                  go_wp2_with fail
                  refine (HL5.out.run (OpC.crash (.slice none 0 0) [] (crashS (startS (doS σ x)) []) (by decide) (HFS.out.fit (by have := HBA.out; omega)) (IR.nil _ _) rfl)).mono ?_
                  rintro e w6 ⟨rfl, hA6⟩
                  have HL6 : Hd (LW wa w6 D R0 (.slice none 0 0) (crashS (startS (doS σ x)) []) (crashS (startS (doS σ x)) []).lasts []) := ⟨by rw [HAg.out.2]; exact hA6.lw⟩
                  have HLI2 : Hd (LI l (k + 1) (crashS (startS (doS σ x)) []) []) := ⟨⟨HAg.out.1, HFS.out.crash [], Nat.zero_le _⟩⟩
                  clear hA6 HL5
                  go_wp2
                  go_roundw
                  case rel => exact ⟨k + 1, _, [], hlt, by go_num, HL6, HLI2⟩
                  case measure => simp [intOf]; omega
            · dsimp only at hp hq d i l'
              have HDn : Hd ((doS σ x).down = false) := ⟨d.elim (fun h => absurd (HDD.out.symm.trans h) (by decide)) id⟩
              have HLI2 : Hd (LI l (k + 1) (doS σ x) PS) := ⟨⟨by rw [← HSi.out]; exact i, HFQ2.out, by rw [← HSi.out]; exact HSL.out⟩⟩
              have HL4 : Hd (LW wa w3 D R0 u8 (doS σ x) (doS σ x).lasts PS) := ⟨by rw [l']; exact HL3.out⟩
              clear d i l' hp hq
              go_wp2_with fail
              refine (HL3.out.one.down false HDn.out).mono ?_
              rintro e w4 ⟨rfl, rfl⟩
              go_wp2
              go_roundw
              case rel => exact ⟨k + 1, doS σ x, PS, hlt, by go_num, ⟨HL4.out⟩, ⟨HLI2.out⟩⟩
              case measure => simp [intOf]; omega
        · as_aux_lemma =>
            have hsi : sinceS σ ps (x, .slice p5 x.k.length c5) = ps := by unfold sinceS; rw [if_neg (fun h => absurd (show x.n < 4000 from h.2.2.2) (by omega))]
            have t1 : decide (p ≤ 1) = true := by simp; omega
            have t2 : decide (0 ≤ x.n) = true := by simp; omega
            have t3 : decide (x.n < 4000) = false := by simp; omega
            have p2 : (p == 2) = false := by simp; omega
            have p3 : (p == 3) = false := by simp; omega
            have p4 : (p == 4) = false := by simp; omega
            clear b1 b2 b3
            go_wp2_with fail
            refine (HLa.out.one.down false HDD.out).mono ?_
            rintro e w2 ⟨rfl, rfl⟩
            go_wp2_with fail
            refine (HPk _).out.mono ?_
            rintro e w2 ⟨rfl, rfl⟩
            obtain ⟨PS, hPS⟩ : ∃ q, sinceS σ ps (x, .slice p5 x.k.length c5) = q := ⟨_, rfl⟩
            have HSi := Hd.mk hPS
            rw [hPS] at HPs0 HSL0
            have HPs := HPs0
            have HSL : Hd ((sinceS σ ps (x, .slice p5 x.k.length c5)).length ≤ k + 1) := ⟨by rw [HSi.out]; have := HSL0.out; have := HPL.out; omega⟩
            have HPSL : Hd (PS.length ≤ 1000) := ⟨by have := HSL0.out; have := HPL.out; have := HK200.out; omega⟩
            go_wp2_with fail
            refine (HLa.out.run (HDO.out _ (HIR.out ((Keeps.refl _ _).alloc _)))).mono ?_
            rintro e w3 ⟨rfl, hA3⟩
            have HL3 : Hd (LW wa w3 D R0 u8 (doS σ x) σ.lasts PS) := ⟨by rw [← HSi.out, hsi]; exact hA3.lw⟩
            have HBox3 := Hd.mk (hA3.box _ _ HBox.out)
            clear hA3 hsi hPS HPs0 HSL0
            rcases HStep.out with ⟨F, hp, e, hF, h8, d, i, l'⟩ | ⟨F, G, hp, e, hF, h8, hG, g8, d, i, l'⟩ | ⟨hp, hq, u', xf, gf⟩ | ⟨hp, hq, d, i, l'⟩
            · exact absurd hp (by show ¬ (pickI x.d = 2 ∨ pickI x.d = 3); rw [HPP.out]; simp at p2 p3; omega)
            · exact absurd hp (by show ¬ pickI x.d = 4; rw [HPP.out]; simp at p4; omega)
            · dsimp only at hp hq u' xf gf
              have HX := Hd.mk xf
              have HG : Hd (∀ f, f < 8 → Good (σ.lasts.getD f []) PS f ((doS σ x).files.getD f [])) := ⟨by rw [← HSi.out]; exact gf⟩
              have HU8 : Hd (σ.lasts.length = 8) := ⟨HLi.out.i.ok.l8⟩
              clear hp hq u' xf gf
              go_wp2_with fail
              refine (HL3.out.one.down true HX.out.d).mono ?_
              rintro e w4 ⟨rfl, rfl⟩
              go_wp2_with fail
              refine (HL3.out.run (OpC.start (startS (doS σ x)) rfl)).mono ?_
              rintro e w4 ⟨rfl, hA4⟩
              have HL4 : Hd (LW wa w4 D R0 u8 (startS (doS σ x)) (mix (doS σ x).files σ.lasts 0) PS) := ⟨by rw [mix_zero]; exact hA4.lw⟩
              clear hA4 HL3
              go_wp2
              go_loopw [15] (fun i wz => ∃ f : Nat, f ≤ 8 ∧ i = .int .i64 f ∧ Hd (LW wa wz D R0 u8 (startS (doS σ x)) (mix (doS σ x).files σ.lasts f) PS)) (fun i _ => 8 - (intOf i).toNat)
              case atStart => exact ⟨0, by decide, rfl, HL4⟩
              case round =>
                clear HL4
                obtain ⟨f, hf, rfl, HLf⟩ := hrel
                by_cases hf8 : f < 8
                · have hd8 : (f : Int) < 8 := by omega
                  obtain ⟨hrd, hmy⟩ := fell_read HX.out hf8
                  have hgood := HG.out f hf8
                  have hfl := getD_le HX.out.ok.fl f
                  have hset := mix_set HX.out.ok.f8 HU8.out hf8
                  have hcell := safe_cell HLf.out.safe (f := f) (by rw [mix_len HX.out.ok.f8 HU8.out hf]; exact hf8)
                  have hmixl := mix_len HX.out.ok.f8 HU8.out hf
                  rw [mix_at HX.out.ok.f8 hf8] at hcell
                  obtain ⟨rs, hrs⟩ := bytes_of ((doS σ x).files.getD f [])
                  obtain ⟨sf, hsf⟩ := bytes_of (σ.lasts.getD f [])
                  rw [hrs] at hrd hgood hfl hset
                  rw [hsf] at hgood hcell
                  have HSet := Hd.mk hset
                  have HGd := Hd.mk hgood
                  have HFl : Hd (rs.size ≤ 16777216) := ⟨hfl⟩
                  have HRead : Hd (∀ w, OpC w 17 #[.pointer (some ⟨D, 0, none⟩), .int .i64 f] D (startS (doS σ x)) (startS (doS σ x)) (.tuple #[.string rs, .int .i64 0])) := ⟨fun w => OpC.read f rs 0 hrd (congrArg Nat.cast hmy)⟩
                  have HCell : Hd (∀ {w v' ps'}, LW wa w D R0 v' (startS (doS σ x)) (mix (doS σ x).files σ.lasts f) ps' → w.cell? ⟨R0, f, none⟩ = some (.string sf) ∧ w.frozen? ⟨R0, f, none⟩ = false) := ⟨fun h => by
                    have := safe_cell h.safe (f := f) (by rw [hmixl]; exact hf8)
                    rw [mix_at HX.out.ok.f8 hf8, hsf] at this
                    exact ⟨this, h.safe.free f⟩⟩
                  clear hrd hmy hgood hfl hset hcell hmixl hrs hsf
                  go_wp2_with fail
                  refine (HLf.out.run (HRead.out _)).mono ?_
                  rintro e w5 ⟨rfl, hA5⟩
                  have HL5 := Hd.mk hA5.lw; clear hA5 HLf
                  obtain ⟨cs1, cs2⟩ := HCell.out HL5.out
                  have i0 : (0 : Int) ≤ (f : Int) := by omega
                  go_wp2_with fail
                  refine (here_any _ u8 PS rs sf f HFl.out HPSL.out HPs.out HL5.out.since HGd.out).mono ?_
                  rintro e w6 ⟨rfl, k6⟩
                  have HL6 := Hd.mk (HL5.out.next k6); clear k6 HL5 cs1 cs2
                  obtain ⟨cs1, cs2⟩ := HCell.out HL6.out
                  have HL7 : Hd (LW wa (w6.setCell ⟨R0, f, none⟩ (.string rs)) D R0 u8 (startS (doS σ x)) (mix (doS σ x).files σ.lasts (f + 1)) PS) := ⟨by rw [← HSet.out]; exact HL6.out.setSafe f rs.data.toList⟩
                  go_wp2
                  go_roundw
                  case rel => exact ⟨f + 1, hf8, by go_num, HL7⟩
                  case measure => simp [intOf]; omega
                · have hd8 : ¬ (f : Int) < 8 := by omega
                  obtain rfl : f = 8 := by omega
                  have hmix := mix_all HX.out.ok.f8 HU8.out
                  have hag := HX.out.again
                  have HL5 : Hd (LW wa wr D R0 (.slice none 0 0) (startS (doS σ x)) (doS σ x).files []) := ⟨by have := HLf.out.clear; rwa [hmix] at this⟩
                  have HAg := Hd.mk hag
                  have HFS := Hd.mk HFQ2.out.startq
                  clear hmix hag HLf hf
                  go_wp2_with fail
                  refine (HL5.out.run (OpC.crash (.slice none 0 0) [] (crashS (startS (doS σ x)) []) (by decide) (HFS.out.fit (by have := HBA.out; omega)) (IR.nil _ _) rfl)).mono ?_
                  rintro e w6 ⟨rfl, hA6⟩
                  have HL6 : Hd (LW wa w6 D R0 (.slice none 0 0) (crashS (startS (doS σ x)) []) (crashS (startS (doS σ x)) []).lasts []) := ⟨by rw [HAg.out.2]; exact hA6.lw⟩
                  have HLI2 : Hd (LI l (k + 1) (crashS (startS (doS σ x)) []) []) := ⟨⟨HAg.out.1, HFS.out.crash [], Nat.zero_le _⟩⟩
                  clear hA6 HL5
                  go_wp2
                  go_roundw
                  case rel => exact ⟨k + 1, _, [], hlt, by go_num, HL6, HLI2⟩
                  case measure => simp [intOf]; omega
            · dsimp only at hp hq d i l'
              have HDn : Hd ((doS σ x).down = false) := ⟨d.elim (fun h => absurd (HDD.out.symm.trans h) (by decide)) id⟩
              have HLI2 : Hd (LI l (k + 1) (doS σ x) PS) := ⟨⟨by rw [← HSi.out]; exact i, HFQ2.out, by rw [← HSi.out]; exact HSL.out⟩⟩
              have HL4 : Hd (LW wa w3 D R0 u8 (doS σ x) (doS σ x).lasts PS) := ⟨by rw [l']; exact HL3.out⟩
              clear d i l' hp hq
              go_wp2_with fail
              refine (HL3.out.one.down false HDn.out).mono ?_
              rintro e w4 ⟨rfl, rfl⟩
              go_wp2
              go_roundw
              case rel => exact ⟨k + 1, doS σ x, PS, hlt, by go_num, ⟨HL4.out⟩, ⟨HLI2.out⟩⟩
              case measure => simp [intOf]; omega
        · have hsi : sinceS σ ps (x, .slice p5 x.k.length c5) = ps := since_not (by show 1 < pickI x.d; rw [HPP.out]; exact b1)
          have t1 : decide (p ≤ 1) = false := by simp; omega
          have HP1 := Hd.mk b1
          clear b1
          go_wp2_with fail
          refine (HLa.out.one.down dn HDD.out).mono ?_
          rintro e w2 ⟨rfl, rfl⟩
          go_wp2_with fail
          refine (HPk _).out.mono ?_
          rintro e w2 ⟨rfl, rfl⟩
          obtain ⟨PS, hPS⟩ : ∃ q, sinceS σ ps (x, .slice p5 x.k.length c5) = q := ⟨_, rfl⟩
          have HSi := Hd.mk hPS
          rw [hPS] at HPs0 HSL0
          have HPs := HPs0
          have HSL : Hd ((sinceS σ ps (x, .slice p5 x.k.length c5)).length ≤ k + 1) := ⟨by rw [HSi.out]; have := HSL0.out; have := HPL.out; omega⟩
          have HPSL : Hd (PS.length ≤ 1000) := ⟨by have := HSL0.out; have := HPL.out; have := HK200.out; omega⟩
          go_wp2_with fail
          refine (HLa.out.run (HDO.out _ (HIR.out ((Keeps.refl _ _).alloc _)))).mono ?_
          rintro e w3 ⟨rfl, hA3⟩
          have HL3 : Hd (LW wa w3 D R0 u8 (doS σ x) σ.lasts PS) := ⟨by rw [← HSi.out, hsi]; exact hA3.lw⟩
          have HBox3 := Hd.mk (hA3.box _ _ HBox.out)
          clear hA3 hsi hPS HPs0 HSL0
          rcases HStep.out with ⟨F, hp, e, hF, h8, d, i, l'⟩ | ⟨F, G, hp, e, hF, h8, hG, g8, d, i, l'⟩ | ⟨hp, hq, u', xf, gf⟩ | ⟨hp, hq, d, i, l'⟩
          · as_aux_lemma =>
              dsimp only at hp e hF d i l'
              rw [HPP.out] at hp
              rw [HER.out] at e
              subst e
              obtain rfl : ps = PS := by rw [← HSi.out]; exact (since_not (by show 1 < pickI x.d; rw [HPP.out]; exact HP1.out)).symm
              have hdf : dn = false := by
                cases dn
                · rfl
                · exact absurd d (by rw [settle_up HDD.out (by rw [HPP.out]; exact hp)]; decide)
              subst hdf
              rcases hp with rfl | rfl
              all_goals (
                obtain ⟨rs, hrs⟩ := bytes_of (readL (doS σ x) x.f)
                rw [hrs] at l'
                have hbox3 : w3.cell? ⟨wr.heap.size, 1, none⟩ = some (.int .i64 F) := by rw [← hF]; exact HBox3.out.at (j := 1) rfl
                have HRead : Hd (∀ w, OpC w 17 #[.pointer (some ⟨D, 0, none⟩), .int .i64 F] D (doS σ x) (doS σ x) (.tuple #[.string rs, .int .i64 0])) := ⟨fun w => OpC.read F rs 0 (by rw [← hrs, hF]) (congrArg Nat.cast (up_may d h8))⟩
                have HDn := Hd.mk d
                have HLI2 : Hd (LI l (k + 1) (doS σ x) (other ps F)) := ⟨⟨by rw [← hF]; exact i, HFQ2.out, Nat.le_trans (other_len _ _) (Nat.le_succ_of_le HPL.out)⟩⟩
                have HLl := Hd.mk l'
                have HFn : Hd (x.f = (F : Int)) := ⟨hF⟩
                have h8' : (F : Int) < 8 := by omega
                have h80 : (0 : Int) ≤ (F : Int) := by omega
                have H8 := Hd.mk h8
                have HLs : Hd (σ.lasts.length = 8) := ⟨HLi.out.i.ok.l8⟩
                have HC0 : Hd (w3.drew.cell? ⟨wr.heap.size, 1, none⟩ = some (.int .i64 F)) := ⟨hbox3⟩
                clear hrs l' d i hF h8
                go_wp2_with fail
                refine wp_region_lin default (fun w' => w'.cell? ⟨wr.heap.size, 1, none⟩ = some (.int .i64 F) ∧ w'.frozen? ⟨R0, F, none⟩ = false ∧ ∃ y, w'.cell? ⟨R0, F, none⟩ = some y) [(0, true), (1, true), (2, true), (3, true), (4, true), (5, true), (6, false), (7, true), (8, true), (9, true), (10, true), (11, false)] (by kernel_rfl) (by kernel_rfl) rfl (by kernel_rfl) (by kernel_rfl) ⟨HC0.out, HL3.out.safe.free F, _, safe_cell HL3.out.safe (by rw [HLs.out]; exact H8.out)⟩ ?_
                simp only [pick, List.getD_cons_zero, List.getD_cons_succ]
                repeat
                  refine lin_free (v := ?_) (by rfl) ?_ ?_
                  rotate_left
                  · intro w' hSw
                    obtain ⟨d0, d1, y, d2⟩ := hSw
                    go_simp
                    first | done | with_reducible rfl
                  simp only [Act.put, List.setIfInBounds_toArray, List.set_cons_zero, List.set_cons_succ]
                refine lin_bound (fun K hK => ?_)
                go_simp
                refine (HL3.out.drew.run (HRead.out _)).mono ?_
                rintro e w5 ⟨rfl, hA5⟩
                dsimp only
                have HL5 := Hd.mk hA5.lw
                have HBox5 := Hd.mk (hA5.box _ _ HBox3.out.drew)
                clear hA5
                have HC5 : Hd (w5.cell? ⟨wr.heap.size, 1, none⟩ = some (.int .i64 F)) := ⟨by rw [← HFn.out]; exact HBox5.out.at (j := 1) rfl⟩
                refine hK.out _ _ ⟨HC5.out, HL5.out.safe.free F, _, safe_cell HL5.out.safe (by rw [HLs.out]; exact H8.out)⟩ ?_
                clear hK K
                repeat
                  refine lin_free (v := ?_) (by rfl) ?_ ?_
                  rotate_left
                  · intro w' hSw
                    obtain ⟨d0, d1, y, d2⟩ := hSw
                    go_simp
                    first | done | with_reducible rfl
                  simp only [Act.put, List.setIfInBounds_toArray, List.set_cons_zero, List.set_cons_succ]
                have hcs := safe_cell HL5.out.safe (f := F) (by rw [HLs.out]; exact H8.out)
                have hcf := HL5.out.safe.free F
                refine lin_bound (fun K hK => ?_)
                go_simp
                have HL6 : Hd (LW wa (w5.setCell ⟨R0, F, none⟩ (.string rs)) D R0 u8 (doS σ x) (doS σ x).lasts ps) := ⟨by rw [HLl.out]; exact HL5.out.setSafe F rs.data.toList⟩
                have HBox6 := Hd.mk (HL5.out.boxSet F (.string rs) HBox5.out)
                have HC6 : Hd ((w5.setCell ⟨R0, F, none⟩ (.string rs)).cell? ⟨wr.heap.size, 1, none⟩ = some (.int .i64 F)) := ⟨by rw [← HFn.out]; exact HBox6.out.at (j := 1) rfl⟩
                refine hK.out _ _ ⟨HC6.out, HL6.out.safe.free F, _, safe_cell HL6.out.safe (by rw [HLl.out, List.length_set, HLs.out]; exact H8.out)⟩ ?_
                clear hK K hcs hcf
                refine NoPanic.normal ?_
                obtain ⟨w6, hw6⟩ : ∃ w6, w5.setCell ⟨R0, F, none⟩ (.string rs) = w6 := ⟨_, rfl⟩
                rw [hw6] at HL6 HBox6 HC6
                rw [hw6]
                clear hw6 HL5 HBox5 HC5 HL3 HC0 hbox3
                have c6 := HC6.out
                go_wp2_with fail
                refine (without_any _ u8 ps F (by have := HPL.out; have := HK200.out; omega) HL6.out.since).mono ?_
                rintro e w7 ⟨v7, rfl, hs7, k7, hv7⟩
                have HL3 := Hd.mk (HL6.out.other hs7 k7 hv7)
                clear hs7 k7 hv7 HL6 c6
                go_wp2_with fail
                refine (HL3.out.one.down false HDn.out).mono ?_
                rintro e w4 ⟨rfl, rfl⟩
                go_wp2
                go_roundw
                case rel => exact ⟨k + 1, doS σ x, other ps F, hlt, by go_num, ⟨HL3.out⟩, ⟨HLI2.out⟩⟩
                case measure => simp [intOf]; omega
                )
          · as_aux_lemma =>
              dsimp only at hp e hF hG d i l'
              rw [HPP.out] at hp
              rw [HER.out] at e
              subst e hp
              obtain rfl : ps = PS := by rw [← HSi.out]; exact (since_not (by show 1 < pickI x.d; rw [HPP.out]; exact HP1.out)).symm
              have hdf : dn = false := by
                cases dn
                · rfl
                · exact absurd d (by rw [turn_up HDD.out HPP.out]; decide)
              subst hdf
              obtain ⟨sg, hsg⟩ := bytes_of (σ.lasts.getD G [])
              rw [hsg] at l'
              have HDn := Hd.mk d
              have HLI2 : Hd (LI l (k + 1) (doS σ x) (other (other ps F) G)) := ⟨⟨by rw [← hF, ← hG]; exact i, HFQ2.out, Nat.le_trans (other_len _ _) (Nat.le_trans (other_len _ _) (Nat.le_succ_of_le HPL.out))⟩⟩
              have HLl := Hd.mk l'
              have h8' : (F : Int) < 8 := by omega
              have h80 : (0 : Int) ≤ (F : Int) := by omega
              have g8' : (G : Int) < 8 := by omega
              have g80 : (0 : Int) ≤ (G : Int) := by omega
              have HLs : Hd (σ.lasts.length = 8) := ⟨HLi.out.i.ok.l8⟩
              have HBC : Hd (∀ {w : World}, Blk w wr.heap.size 42 [.int .i64 x.d, .int .i64 x.f, .int .i64 x.g, .int .i64 x.n, .string x.s, .slice p5 x.k.length c5] → w.cell? ⟨wr.heap.size, 1, none⟩ = some (.int .i64 F) ∧ w.cell? ⟨wr.heap.size, 2, none⟩ = some (.int .i64 G)) := ⟨fun h => ⟨by rw [← hF]; exact h.at (j := 1) rfl, by rw [← hG]; exact h.at (j := 2) rfl⟩⟩
              have HSC : Hd (∀ {w : World} {L : List (List UInt8)}, Blk w R0 9 (L.map strV) → L.length = 8 → w.cell? ⟨R0, F, none⟩ = some (strV (L.getD F [])) ∧ w.cell? ⟨R0, G, none⟩ = some (strV (L.getD G []))) := ⟨fun h hl => ⟨safe_cell h (by rw [hl]; exact h8), safe_cell h (by rw [hl]; exact g8)⟩⟩
              have HGs : Hd ((σ.lasts.set F sg.data.toList).getD G [] = sg.data.toList) := ⟨by rw [getD_set _ _ _ _ _ (by rw [HLs.out]; exact h8)]; split <;> first | rfl | exact hsg⟩
              have hG3 := (HSC.out HL3.out.drew.safe HLs.out).2
              rw [hsg] at hG3
              have HG3 : Hd (w3.drew.cell? ⟨R0, G, none⟩ = some (.string sg)) := ⟨hG3⟩
              clear hsg l' d i hF hG h8 g8 hG3
              go_wp2_with fail
              refine wp_region_lin default (fun w' => (w'.cell? ⟨wr.heap.size, 1, none⟩ = some (.int .i64 F) ∧ w'.cell? ⟨wr.heap.size, 2, none⟩ = some (.int .i64 G)) ∧ w'.cell? ⟨R0, G, none⟩ = some (.string sg)) [(0, true), (1, true), (2, true), (3, true), (4, true), (5, true), (6, true), (7, true), (8, true), (9, false)] (by kernel_rfl) (by kernel_rfl) rfl (by kernel_rfl) (by kernel_rfl) ⟨HBC.out HBox3.out.drew, HG3.out⟩ ?_
              simp only [pick, List.getD_cons_zero, List.getD_cons_succ]
              repeat
                refine lin_free (v := ?_) (by rfl) ?_ ?_
                rotate_left
                · intro w' hSw
                  obtain ⟨⟨d0, d1⟩, d2⟩ := hSw
                  go_simp
                  first | done | with_reducible rfl
                simp only [Act.put, List.setIfInBounds_toArray, List.set_cons_zero, List.set_cons_succ]
              have hcs := (HSC.out HL3.out.drew.safe HLs.out).1
              have hcf := HL3.out.drew.safe.free F
              refine lin_bound (fun K hK => ?_)
              go_simp
              have HL5 : Hd (LW wa (w3.drew.setCell ⟨R0, F, none⟩ (.string sg)) D R0 u8 (doS σ x) (σ.lasts.set F sg.data.toList) ps) := ⟨HL3.out.drew.setSafe F sg.data.toList⟩
              have HBox5 := Hd.mk (HL3.out.drew.boxSet F (.string sg) HBox3.out.drew)
              have hG5 := (HSC.out HL5.out.safe (by rw [List.length_set]; exact HLs.out)).2
              rw [HGs.out] at hG5
              refine hK.out _ _ ⟨HBC.out HBox5.out, hG5⟩ ?_
              clear hK K hcs hcf
              refine NoPanic.normal ?_
              obtain ⟨w5, hw5⟩ : ∃ w5, (w3.setCell ⟨R0, F, none⟩ (.string sg)).drew = w5 := ⟨_, rfl⟩
              have hw5' : w3.drew.setCell ⟨R0, F, none⟩ (.string sg) = w5 := hw5
              rw [hw5'] at HL5 HBox5 hG5
              rw [hw5]
              clear hw5 hw5' HL3 HBox3 HG3
              have hf5 := HL5.out.safe.free G
              obtain ⟨c51, c52⟩ := HBC.out HBox5.out
              have HL6 : Hd (LW wa (w5.setCell ⟨R0, G, none⟩ (.string ⟨#[]⟩)) D R0 u8 (doS σ x) (doS σ x).lasts ps) := ⟨by rw [HLl.out]; exact HL5.out.setSafe G []⟩
              have HBox6 := Hd.mk (HL5.out.boxSet G (.string ⟨#[]⟩) HBox5.out)
              go_wp2_with fail
              refine wp_region_lin default (fun w' => w'.cell? ⟨wr.heap.size, 1, none⟩ = some (.int .i64 F) ∧ w'.cell? ⟨wr.heap.size, 2, none⟩ = some (.int .i64 G)) [(0, true), (1, true), (2, true), (4, true), (5, true), (3, false), (6, false), (7, true)] (by kernel_rfl) (by kernel_rfl) rfl (by kernel_rfl) (by kernel_rfl) (HBC.out HBox6.out.drew) ?_
              simp only [pick, List.getD_cons_zero, List.getD_cons_succ]
              repeat
                refine lin_free (v := ?_) (by rfl) ?_ ?_
                rotate_left
                · intro w' hSw
                  obtain ⟨d0, d1⟩ := hSw
                  go_simp
                  first | done | with_reducible rfl
                simp only [Act.put, List.setIfInBounds_toArray, List.set_cons_zero, List.set_cons_succ]
              refine lin_bound (fun K hK => ?_)
              go_simp
              refine (without_any _ u8 ps F (by have := HPL.out; have := HK200.out; omega) HL6.out.drew.since).mono ?_
              rintro e w7 ⟨v7, rfl, hs7, k7, hv7⟩
              dsimp only
              have HL7 := Hd.mk (HL6.out.drew.other hs7 k7 hv7)
              have HBox7 := Hd.mk (k7.blk HBox6.out.drew (fun h => h))
              clear hs7 k7 hv7
              refine hK.out _ _ (HBC.out HBox7.out) ?_
              clear hK K
              refine lin_bound (fun K hK => ?_)
              go_simp
              refine (without_any _ v7 (other ps F) G (Nat.le_trans (other_len _ _) (by have := HPL.out; have := HK200.out; omega)) HL7.out.since).mono ?_
              rintro e w8 ⟨v8, rfl, hs8, k8, hv8⟩
              dsimp only
              have HL3 := Hd.mk (HL7.out.other hs8 k8 hv8)
              have HBox8 := Hd.mk (k8.blk HBox7.out (fun h => h))
              clear hs8 k8 hv8
              refine hK.out _ _ (HBC.out HBox8.out) ?_
              clear hK K hf5 hG5 c51 c52
              repeat
                refine lin_free (v := ?_) (by rfl) ?_ ?_
                rotate_left
                · intro w' hSw
                  skip
                  go_simp
                  first | done | with_reducible rfl
                simp only [Act.put, List.setIfInBounds_toArray, List.set_cons_zero, List.set_cons_succ]
              refine NoPanic.normal ?_
              clear HL7 HBox7 HBox8 HL6 HBox6 HL5 HBox5
              go_wp2_with fail
              refine (HL3.out.one.down false HDn.out).mono ?_
              rintro e w4 ⟨rfl, rfl⟩
              go_wp2
              go_roundw
              case rel => exact ⟨k + 1, doS σ x, other (other ps F) G, hlt, by go_num, ⟨HL3.out⟩, ⟨HLI2.out⟩⟩
              case measure => simp [intOf]; omega
          · as_aux_lemma =>
              dsimp only at hp hq u' xf gf
              rw [HPP.out, HER.out] at hp hq
              have hs4 : (p = 2 ∧ ¬ er = 0) ∨ (p = 3 ∧ ¬ er = 0) ∨ (p = 4 ∧ ¬ er = 0) ∨ 4 < p := by have := HP1.out; omega
              obtain rfl : dn = false := by rw [← HDD.out]; exact u'
              clear hp hq
              have hp := trivial
              have hq := trivial
              rcases hs4 with ⟨rfl, z⟩ | ⟨rfl, z⟩ | ⟨rfl, z⟩ | z
              case' inr.inr.inr =>
                have p2 : (p == 2) = false := by simp; omega
                have p3 : (p == 3) = false := by simp; omega
                have p4 : (p == 4) = false := by simp; omega
              all_goals (try have z0 : ((er : Int) == 0) = false := by simp; omega)
              all_goals clear z
              all_goals (
                have HX := Hd.mk xf
                have HG : Hd (∀ f, f < 8 → Good (σ.lasts.getD f []) PS f ((doS σ x).files.getD f [])) := ⟨by rw [← HSi.out]; exact gf⟩
                have HU8 : Hd (σ.lasts.length = 8) := ⟨HLi.out.i.ok.l8⟩
                clear hp hq u' xf gf
                go_wp2_with fail
                refine (HL3.out.one.down true HX.out.d).mono ?_
                rintro e w4 ⟨rfl, rfl⟩
                go_wp2_with fail
                refine (HL3.out.run (OpC.start (startS (doS σ x)) rfl)).mono ?_
                rintro e w4 ⟨rfl, hA4⟩
                have HL4 : Hd (LW wa w4 D R0 u8 (startS (doS σ x)) (mix (doS σ x).files σ.lasts 0) PS) := ⟨by rw [mix_zero]; exact hA4.lw⟩
                clear hA4 HL3
                go_wp2
                go_loopw [15] (fun i wz => ∃ f : Nat, f ≤ 8 ∧ i = .int .i64 f ∧ Hd (LW wa wz D R0 u8 (startS (doS σ x)) (mix (doS σ x).files σ.lasts f) PS)) (fun i _ => 8 - (intOf i).toNat)
                case atStart => exact ⟨0, by decide, rfl, HL4⟩
                case round =>
                  clear HL4
                  obtain ⟨f, hf, rfl, HLf⟩ := hrel
                  by_cases hf8 : f < 8
                  · have hd8 : (f : Int) < 8 := by omega
                    obtain ⟨hrd, hmy⟩ := fell_read HX.out hf8
                    have hgood := HG.out f hf8
                    have hfl := getD_le HX.out.ok.fl f
                    have hset := mix_set HX.out.ok.f8 HU8.out hf8
                    have hcell := safe_cell HLf.out.safe (f := f) (by rw [mix_len HX.out.ok.f8 HU8.out hf]; exact hf8)
                    have hmixl := mix_len HX.out.ok.f8 HU8.out hf
                    rw [mix_at HX.out.ok.f8 hf8] at hcell
                    obtain ⟨rs, hrs⟩ := bytes_of ((doS σ x).files.getD f [])
                    obtain ⟨sf, hsf⟩ := bytes_of (σ.lasts.getD f [])
                    rw [hrs] at hrd hgood hfl hset
                    rw [hsf] at hgood hcell
                    have HSet := Hd.mk hset
                    have HGd := Hd.mk hgood
                    have HFl : Hd (rs.size ≤ 16777216) := ⟨hfl⟩
                    have HRead : Hd (∀ w, OpC w 17 #[.pointer (some ⟨D, 0, none⟩), .int .i64 f] D (startS (doS σ x)) (startS (doS σ x)) (.tuple #[.string rs, .int .i64 0])) := ⟨fun w => OpC.read f rs 0 hrd (congrArg Nat.cast hmy)⟩
                    have HCell : Hd (∀ {w v' ps'}, LW wa w D R0 v' (startS (doS σ x)) (mix (doS σ x).files σ.lasts f) ps' → w.cell? ⟨R0, f, none⟩ = some (.string sf) ∧ w.frozen? ⟨R0, f, none⟩ = false) := ⟨fun h => by
                      have := safe_cell h.safe (f := f) (by rw [hmixl]; exact hf8)
                      rw [mix_at HX.out.ok.f8 hf8, hsf] at this
                      exact ⟨this, h.safe.free f⟩⟩
                    clear hrd hmy hgood hfl hset hcell hmixl hrs hsf
                    go_wp2_with fail
                    refine (HLf.out.run (HRead.out _)).mono ?_
                    rintro e w5 ⟨rfl, hA5⟩
                    have HL5 := Hd.mk hA5.lw; clear hA5 HLf
                    obtain ⟨cs1, cs2⟩ := HCell.out HL5.out
                    have i0 : (0 : Int) ≤ (f : Int) := by omega
                    go_wp2_with fail
                    refine (here_any _ u8 PS rs sf f HFl.out HPSL.out HPs.out HL5.out.since HGd.out).mono ?_
                    rintro e w6 ⟨rfl, k6⟩
                    have HL6 := Hd.mk (HL5.out.next k6); clear k6 HL5 cs1 cs2
                    obtain ⟨cs1, cs2⟩ := HCell.out HL6.out
                    have HL7 : Hd (LW wa (w6.setCell ⟨R0, f, none⟩ (.string rs)) D R0 u8 (startS (doS σ x)) (mix (doS σ x).files σ.lasts (f + 1)) PS) := ⟨by rw [← HSet.out]; exact HL6.out.setSafe f rs.data.toList⟩
                    go_wp2
                    go_roundw
                    case rel => exact ⟨f + 1, hf8, by go_num, HL7⟩
                    case measure => simp [intOf]; omega
                  · have hd8 : ¬ (f : Int) < 8 := by omega
                    obtain rfl : f = 8 := by omega
                    have hmix := mix_all HX.out.ok.f8 HU8.out
                    have hag := HX.out.again
                    have HL5 : Hd (LW wa wr D R0 (.slice none 0 0) (startS (doS σ x)) (doS σ x).files []) := ⟨by have := HLf.out.clear; rwa [hmix] at this⟩
                    have HAg := Hd.mk hag
                    have HFS := Hd.mk HFQ2.out.startq
                    clear hmix hag HLf hf
                    go_wp2_with fail
                    refine (HL5.out.run (OpC.crash (.slice none 0 0) [] (crashS (startS (doS σ x)) []) (by decide) (HFS.out.fit (by have := HBA.out; omega)) (IR.nil _ _) rfl)).mono ?_
                    rintro e w6 ⟨rfl, hA6⟩
                    have HL6 : Hd (LW wa w6 D R0 (.slice none 0 0) (crashS (startS (doS σ x)) []) (crashS (startS (doS σ x)) []).lasts []) := ⟨by rw [HAg.out.2]; exact hA6.lw⟩
                    have HLI2 : Hd (LI l (k + 1) (crashS (startS (doS σ x)) []) []) := ⟨⟨HAg.out.1, HFS.out.crash [], Nat.zero_le _⟩⟩
                    clear hA6 HL5
                    go_wp2
                    go_roundw
                    case rel => exact ⟨k + 1, _, [], hlt, by go_num, HL6, HLI2⟩
                    case measure => simp [intOf]; omega
                )
          · as_aux_lemma =>
              dsimp only at hp hq d i l'
              rw [HPP.out, HER.out] at hp hq
              have hs4 : (p = 2 ∧ ¬ er = 0) ∨ (p = 3 ∧ ¬ er = 0) ∨ (p = 4 ∧ ¬ er = 0) ∨ 4 < p := by have := HP1.out; omega
              clear hp hq
              have hp := trivial
              have hq := trivial
              rcases dn with _ | _
              · rcases hs4 with ⟨rfl, z⟩ | ⟨rfl, z⟩ | ⟨rfl, z⟩ | z
                case' inr.inr.inr =>
                  have p2 : (p == 2) = false := by simp; omega
                  have p3 : (p == 3) = false := by simp; omega
                  have p4 : (p == 4) = false := by simp; omega
                all_goals (try have z0 : ((er : Int) == 0) = false := by simp; omega)
                all_goals clear z
                all_goals (
                  have HDn : Hd ((doS σ x).down = false) := ⟨d.elim (fun h => absurd (HDD.out.symm.trans h) (by decide)) id⟩
                  have HLI2 : Hd (LI l (k + 1) (doS σ x) PS) := ⟨⟨by rw [← HSi.out]; exact i, HFQ2.out, by rw [← HSi.out]; exact HSL.out⟩⟩
                  have HL4 : Hd (LW wa w3 D R0 u8 (doS σ x) (doS σ x).lasts PS) := ⟨by rw [l']; exact HL3.out⟩
                  clear d i l' hp hq
                  go_wp2_with fail
                  refine (HL3.out.one.down false HDn.out).mono ?_
                  rintro e w4 ⟨rfl, rfl⟩
                  go_wp2
                  go_roundw
                  case rel => exact ⟨k + 1, doS σ x, PS, hlt, by go_num, ⟨HL4.out⟩, ⟨HLI2.out⟩⟩
                  case measure => simp [intOf]; omega
                  )
              · rcases hs4 with ⟨rfl, z⟩ | ⟨rfl, z⟩ | ⟨rfl, z⟩ | z
                case' inr.inr.inr =>
                  have p2 : (p == 2) = false := by simp; omega
                  have p3 : (p == 3) = false := by simp; omega
                  have p4 : (p == 4) = false := by simp; omega
                all_goals (try have z0 : ((er : Int) == 0) = false := by simp; omega)
                all_goals clear z
                all_goals (
                  have HLI2 : Hd (LI l (k + 1) (doS σ x) PS) := ⟨⟨by rw [← HSi.out]; exact i, HFQ2.out, by rw [← HSi.out]; exact HSL.out⟩⟩
                  have HL4 : Hd (LW wa w3 D R0 u8 (doS σ x) (doS σ x).lasts PS) := ⟨by rw [l']; exact HL3.out⟩
                  clear d i l' hp hq
                  go_wp2
                  go_roundw
                  case rel => exact ⟨k + 1, doS σ x, PS, hlt, by go_num, ⟨HL4.out⟩, ⟨HLI2.out⟩⟩
                  case measure => simp [intOf]; omega
                  )
      · as_aux_lemma =>
        have hd1 : decide ((k : Int) < (N : Int)) = false := by simp; omega
        have HFq : Hd (FitQ (upS σ) 5000) := ⟨fitq_up (HLi.out.q.mono (Nat.le_trans (bulk_mono l k l.length (by rw [HN.out]; exact hk)) HF1.out.2.2))⟩
        have HFa : Hd (Fit σ) := ⟨(HLi.out.q.mono (Nat.le_trans (bulk_mono l k l.length (by rw [HN.out]; exact hk)) HF1.out.2.2)).fit (by decide)⟩
        have HPL : Hd (ps.length ≤ 1000) := ⟨by have := HLi.out.n; have := HF1.out.2.1; have := HN.out; omega⟩
        have HIv : Hd (Inv (upS σ) ps) := ⟨⟨(HLi.out.i.ok.arm 0 []).start, HLi.out.i.q, HLi.out.i.len, HLi.out.i.pl, HLi.out.i.ps⟩⟩
        have HLl : Hd ((upS σ).lasts = σ.lasts) := ⟨rfl⟩
        have HUd : Hd ((upS σ).down = false ∧ (upS σ).keep = []) := ⟨rfl, rfl⟩
        clear HLi hk
        go_wp2_with fail
        refine (HL.out.run (OpC.arm 0 (.slice none 0 0) [] (armS σ 0 []) (by decide) (IR.nil _ _) rfl)).mono ?_
        rintro e w3 ⟨rfl, hA3⟩
        have HL3 := Hd.mk hA3.lw; clear hA3 HL
        go_wp2_with fail
        refine (HL3.out.run (OpC.start (upS σ) rfl)).mono ?_
        rintro e w4 ⟨rfl, hA4⟩
        have HL4 := Hd.mk hA4.lw; clear hA4 HL3
        obtain ⟨τ, hτ⟩ : ∃ τ, upS σ = τ := ⟨_, rfl⟩
        rw [hτ] at HFq HIv HLl HUd HL4
        rw [← HLl.out] at HL4
        clear hτ HLl HFa
        obtain ⟨sz, hsz⟩ : ∃ sz : Nat → Nat, ∀ f : Nat, f < 8 → sizeS τ (f : Int) = sz f ∧ sz f = (τ.files.getD f []).length := ⟨fun f => (τ.files.getD f []).length, fun f hf => ⟨by unfold sizeS; rw [show isF (f : Int) = true by unfold isF; exact decide_eq_true (by omega)]; rfl, rfl⟩⟩
        have HSz := Hd.mk hsz
        obtain ⟨i0, hi, hz0, hz1, hz2⟩ := info_parts infoInt
        have HI : Hd (_ ∧ _ ∧ _ ∧ _) := ⟨⟨hi, hz0, hz1, hz2⟩⟩
        clear hsz hi hz0 hz1 hz2
        go_wp2
        go_loopw [18, 19] (fun q i wz => ∃ f : Nat, f ≤ 8 ∧ i = .int .i64 f ∧ Hd (LW wa wz D R0 u8 τ τ.lasts ps) ∧ Hd (Own wz wa.heap.size 3 q ((List.range f).map fun j => .int .i64 (sz j : Int)))) (fun _ i _ => 8 - (intOf i).toNat)
        case atStart => exact ⟨0, by decide, rfl, HL4, ⟨Own.nil _ _ _⟩⟩
        case round =>
          clear HL4
          obtain ⟨f, hf, rfl, HLf, HOf⟩ := hrel
          by_cases hf8 : f < 8
          · have hd8 : (f : Int) < 8 := by omega
            have hsz := (HSz.out f hf8).1
            have HS1 := Hd.mk hsz
            have HOa := HOf
            have hB : wa.heap.size ≤ wr.heap.size := HLf.out.size
            have HLN : Hd (((List.range f).map fun j => (Value.int .i64 (sz j : Int))).length = f) := ⟨by simp⟩
            clear hsz hf
            go_wp2_with fail
            refine (HLf.out.one.sizeOf f (sz f : Int) (congrArg Nat.cast HS1.out)).mono ?_
            rintro e w5 ⟨rfl, rfl⟩
            go_wp2_with (at_builtin; refine wp_app1 rfl (Operand.tmp 170) (Operand.tmp 174) 22 rfl 3 Try.underlying22 HI.out.1 HI.out.2.1 HI.out.2.2.1 HI.out.2.2.2 rfl _ _ _ wr rfl HOa.out rfl rfl (by rw [HLN.out]; unfold maxLen; omega) (by rw [HLN.out]; omega) hB ?_)
            intro v6 w6 hO6 hK6 hv6
            have HL6 : Hd (LW wa w6 D R0 u8 τ τ.lasts ps) := ⟨HLf.out.int HUd.out.2 hK6 (fun g hg => ⟨(HOa.out.lt hg).1, own_typ HOa.out hg⟩)⟩
            have HO6 : Hd (Own w6 wa.heap.size 3 v6 ((List.range (f + 1)).map fun j => .int .i64 (sz j : Int))) := ⟨by rw [List.range_succ, List.map_append]; exact hO6⟩
            clear hO6 hK6 hv6
            go_wp2
            go_roundw
            case rel => exact ⟨f + 1, hf8, by go_num, HL6, HO6⟩
            case measure => simp [intOf]; omega
          · have hd8 : ¬ (f : Int) < 8 := by omega
            obtain rfl : f = 8 := by omega
            obtain ⟨gw, cw, hqw⟩ := HOf.out.slice (by simp)
            have hl8 : ((List.range 8).map fun j => (Value.int .i64 (sz j : Int))).length = 8 := by simp
            rw [hl8] at hqw
            subst hqw
            have HIR : Hd (IR (· = D) wr (.slice pk ks.length ck) ks) := ⟨(HKA.out.row.below (HEnd.out HLf.out.below)).mono (fun g e => by subst e; exact HDge.out)⟩
            obtain ⟨hfell, hgd⟩ := HIv.out.crash HUd.out.1 ks
            have HX := Hd.mk hfell
            have HG := Hd.mk hgd
            have HCr := OpC.crash (w := wr) (D := D) (σ := τ) (.slice pk ks.length ck) ks (crashS τ ks) (Nat.le_trans HKA.out.len (by decide)) (HFq.out.fit (by decide)) HIR.out rfl
            have HCr := Hd.mk HCr
            clear hl8 hfell hgd hf
            go_wp2_with fail
            refine (HLf.out.run HCr.out).mono ?_
            rintro e w5 ⟨rfl, hA5⟩
            have HL5 := Hd.mk hA5.lw
            have HO5 := Hd.mk (hA5.ints _ _ _ HOf.out)
            clear hA5 HLf HOf HCr HIR
            obtain ⟨ρ, hρ⟩ : ∃ ρ, crashS τ ks = ρ := ⟨_, rfl⟩
            rw [hρ] at HX HG HL5
            clear hρ
            go_wp2_with fail
            refine (HL5.out.run (OpC.start (startS ρ) rfl)).mono ?_
            rintro e w6 ⟨rfl, hA6⟩
            have HL6 := Hd.mk hA6.lw
            have HO6 := Hd.mk (hA6.ints _ _ _ HO5.out)
            clear hA6 HL5 HO5
            go_wp2
            go_loopw [20] (fun i wz => ∃ f : Nat, f ≤ 8 ∧ i = .int .i64 f ∧ Hd (LW wa wz D R0 u8 (startS ρ) τ.lasts ps) ∧ Hd (Own wz wa.heap.size 3 (.slice (some ⟨gw, 0, none⟩) 8 cw) ((List.range 8).map fun j => .int .i64 (sz j : Int)))) (fun i _ => 8 - (intOf i).toNat)
            case atStart => exact ⟨0, by decide, rfl, HL6, HO6⟩
            case round =>
              clear HL6 HO6
              obtain ⟨f, hf, rfl, HLf, HOf⟩ := hrel
              by_cases hf8 : f < 8
              · have hd9 : (f : Int) < 8 := by omega
                obtain ⟨hrd, hmy⟩ := fell_read HX.out hf8
                obtain ⟨hgood, hlen⟩ := HG.out f hf8
                have hfl := getD_le HX.out.ok.fl f
                obtain ⟨rs, hrs⟩ := bytes_of (ρ.files.getD f [])
                obtain ⟨sf, hsf⟩ := bytes_of (τ.lasts.getD f [])
                rw [hrs] at hrd hgood hfl hlen
                rw [hsf] at hgood
                rw [← (HSz.out f hf8).2] at hlen
                have hle : ¬ sz f < rs.size := Nat.not_lt.2 hlen
                have HGd := Hd.mk hgood
                have HFl : Hd (rs.size ≤ 16777216) := ⟨hfl⟩
                have HRead : Hd (∀ w, OpC w 17 #[.pointer (some ⟨D, 0, none⟩), .int .i64 f] D (startS ρ) (startS ρ) (.tuple #[.string rs, .int .i64 0])) := ⟨fun w => OpC.read f rs 0 hrd (congrArg Nat.cast hmy)⟩
                have HCell : Hd (∀ {w}, LW wa w D R0 u8 (startS ρ) τ.lasts ps → w.cell? ⟨R0, f, none⟩ = some (.string sf)) := ⟨fun h => by
                  have := safe_cell h.safe (f := f) (by rw [HIv.out.ok.l8]; exact hf8)
                  rw [hsf] at this
                  exact this⟩
                have HWas : Hd (∀ {w}, Own w wa.heap.size 3 (.slice (some ⟨gw, 0, none⟩) 8 cw) ((List.range 8).map fun j => .int .i64 (sz j : Int)) → w.cell? ⟨gw, f, none⟩ = some (.int .i64 (sz f : Int))) := ⟨fun h => own_cell h (by rw [List.getElem?_map, List.getElem?_range hf8]; rfl)⟩
                have i0 : (0 : Int) ≤ (f : Int) := by omega
                clear hrd hmy hgood hfl hlen hrs hsf
                go_wp2_with fail
                refine (HLf.out.run (HRead.out _)).mono ?_
                rintro e w7 ⟨rfl, hA7⟩
                have HL7 := Hd.mk hA7.lw
                have HO7 := Hd.mk (hA7.ints _ _ _ HOf.out)
                clear hA7 HLf HOf
                have cs1 := HCell.out HL7.out
                go_wp2_with fail
                refine (here_any _ u8 ps rs sf f HFl.out HPL.out HIv.out.ps HL7.out.since HGd.out).mono ?_
                rintro e w8 ⟨rfl, k8⟩
                have HL8 := Hd.mk (HL7.out.next k8)
                have HO8 := Hd.mk (HO7.out.keeps k8 (fun _ _ h => h))
                clear k8 HL7 HO7 cs1
                have cw1 := HWas.out HO8.out
                go_wp2
                go_roundw
                case rel => exact ⟨f + 1, hf8, by go_num, HL8, HO8⟩
                case measure => simp [intOf]; omega
              · have hd9 : ¬ (f : Int) < 8 := by omega
                go_wp2
                go_ret
                exact ⟨rfl, HEnd.out HLf.out.below⟩

end Go.Proofs.Ytcleocgaooblfaa.W

