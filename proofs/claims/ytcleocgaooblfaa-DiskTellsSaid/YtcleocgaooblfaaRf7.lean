/-
  DiskTells: the walks of the reference's Crash, comes.
-/
import Derived.Test.YtcleocgaooblfaaRf6
namespace Go.Proofs.Ytcleocgaooblfaa.W
open Go.RowKit
set_option linter.unusedVariables false

theorem infoStr : (Try.prog.info? 9).map (fun i => (i.zero, i.size, i.bytes)) = some (some (.string ⟨#[]⟩), 1, 16) := by kernel_rfl

theorem IRow.rs {w : World} {B : Nat} {v : Value} {ks : List Int} (h : IRow w v ks) : IR (RS w B) w v ks :=
  h.ir (fun g cur fz hg e => by
    obtain ⟨_, cur', fz', T, h2, h3⟩ := e
    rw [hg] at h2
    injection h2 with h2; injection h2 with _ h4 _
    rcases h3 with h3 | h3 | h3 <;> (rw [h3] at h4; exact absurd h4 (by decide)))

theorem own_base {w : World} {B B' : Nat} {e : TypeId} {v : Value} {xs : List Value} (h : Own w B e v xs) (hB : B' ≤ B) : Own w B' e v xs := by
  rcases h.is with h0 | ⟨g, cap, e1, hb, r⟩
  · exact ⟨.inl h0⟩
  · exact ⟨.inr ⟨g, cap, e1, Nat.le_trans hB hb, r⟩⟩

def downS (σ : St) : St := { σ with down := true, armed := 0 }

/-- the lasts and the queue put in place -/
theorem crash_end {w : World} {B E : Nat} {σ : St} {lv qv kv lv' : Value} (hc : RCells w B E (downS σ) lv qv kv) (hE : B ≤ E) (ls : List (List UInt8)) (hl : Own w B 9 lv' (ls.map strV)) (σ' : St) (h1 : σ'.lasts = ls) (h2 : σ'.queue = []) (h3 : σ'.lost = σ.lost) (h4 : σ'.down = true) (h5 : σ'.armed = 0) (h6 : σ'.keep = σ.keep) (ok : Ok σ') (rd : Rd σ') :
    RRep ((w.setCell ⟨E, 0, none⟩ lv').setCell ⟨E, 1, none⟩ (.slice none 0 0)) B E σ' ∧ RK B w ((w.setCell ⟨E, 0, none⟩ lv').setCell ⟨E, 1, none⟩ (.slice none 0 0)) := by
  have hp := hc.put (σ' := { downS σ with lasts := ls }) (lv' := lv') (qv' := qv) (j := 0) (u := lv') hl hc.q rfl rfl
  have hp2 := hp.put (σ' := { downS σ with lasts := ls, queue := [] }) (lv' := lv') (qv' := .slice none 0 0) (j := 1) (u := .slice none 0 0) hp.l ⟨.inl ⟨rfl, none, rfl⟩⟩ rfl rfl
  refine ⟨?_, (RK.set hc.b hE (.inl rfl) 0 lv').trans (RK.set hp.b hE (.inl rfl) 1 _)⟩
  refine RMem.rep ⟨⟨lv', .slice none 0 0, kv, ⟨?_, ?_, ?_, ?_⟩⟩, hE⟩ ok rd
  · rw [h3, h4, h5]; exact hp2.b
  · rw [h1]; exact hp2.l
  · rw [h2]; exact hp2.q
  · rw [h6]; exact hp2.k

set_option maxHeartbeats 4000000 in
set_option maxRecDepth 100000 in
theorem rcrash_any (w : World) (B E : Nat) (σ : St) (v : Value) (ks : List Int) (hB : B ≤ w.heap.size) (hlen : σ.queue.length ≤ 1000000000) (hkl : ks.length ≤ 9223372036854775807) (hv : IR (RS w B) w v ks) (h : RRep w B E σ) :
    Calls Try.prog 51 #[.pointer (some ⟨E, 0, none⟩), v] w fun e w' => e = .returned (.tuple #[]) ∧ RRep w' B E (crashS σ ks) ∧ RK B w w' := by
  obtain ⟨lv, qv, kv, hc⟩ := h.cells
  have c3 := hc.b.at (j := 3) rfl
  rcases hd : σ.down with _ | _
  · rw [hd] at c3
    have f3 := hc.b.free 3
    have hP1 := h.put (σ' := { σ with down := true }) (j := 3) (u := .bool true) rfl rfl rfl ⟨h.ok.l8, h.ok.f8, h.ok.ll, h.ok.fl, h.ok.q⟩ ⟨h.rd.eq⟩ (fun _ _ _ => rfl)
    have hP2 := hP1.1.put (σ' := downS σ) (j := 4) (u := .int .i64 0) rfl rfl rfl ⟨h.ok.l8, h.ok.f8, h.ok.ll, h.ok.fl, h.ok.q⟩ ⟨h.rd.eq⟩ (fun _ _ _ => rfl)
    have hb1 := hc.b.set 3 (.bool true)
    have c4 := hb1.at (j := 4) rfl
    have f4 := hb1.free 4
    obtain ⟨w2, hw2⟩ : ∃ w2, (w.setCell ⟨E, 3, none⟩ (.bool true)).setCell ⟨E, 4, none⟩ (.int .i64 0) = w2 := ⟨_, rfl⟩
    have hK2 : RK B w w2 := hw2 ▸ hP1.2.trans hP2.2
    have hR2 : RRep w2 B E (downS σ) := hw2 ▸ hP2.1
    have hcr : crashS σ ks = { σ with lasts := stays σ.lasts σ.queue ks, files := stays σ.lasts σ.queue ks, queue := [], down := true, armed := 0 } := by unfold crashS; rw [hd]; rfl
    have hok := h.ok.crash ks
    have hrd := h.rd.crash ks
    obtain ⟨τ, hτ⟩ : ∃ τ, crashS σ ks = τ := ⟨_, rfl⟩
    rw [hτ] at hcr hok hrd ⊢
    have HAft : Hd (∀ f, f < 8 → aftL f (downS σ).queue ks ((downS σ).lasts.getD f []) = τ.lasts.getD f []) := ⟨fun f hf => by rw [hcr]; exact (aft_stays f σ.queue ks σ.lasts h.ok.l8 (fun p hp => (h.ok.q p hp).1)).symm⟩
    have HT8 : Hd (τ.lasts.length = 8) := ⟨hok.l8⟩
    have HV := Hd.mk (hv.keeps hK2.k)
    have HEnd : Hd (∀ {w3 lv'}, RRep w3 B E (downS σ) → Own w3 B 9 lv' (τ.lasts.map strV) → RRep ((w3.setCell ⟨E, 0, none⟩ lv').setCell ⟨E, 1, none⟩ (.slice none 0 0)) B E τ ∧ RK B w3 ((w3.setCell ⟨E, 0, none⟩ lv').setCell ⟨E, 1, none⟩ (.slice none 0 0))) := ⟨fun {w3 lv'} hr ho => by
      obtain ⟨lv3, qv3, kv3, hc3⟩ := hr.cells
      exact crash_end hc3 hr.ge τ.lasts ho τ rfl (by rw [hcr]) (by rw [hcr]) (by rw [hcr]) (by rw [hcr]) (by rw [hcr]) hok hrd⟩
    have HR2 := Hd.mk hR2
    have HK2 := Hd.mk hK2
    have HB2 : Hd (B ≤ w2.heap.size) := ⟨Nat.le_trans hB hK2.k.size⟩
    have HLen := Hd.mk hlen
    have HKl := Hd.mk hkl
    obtain ⟨i0, hi, hz0, hz1, hz2⟩ := info_parts infoStr
    have HI : Hd (_ ∧ _ ∧ _ ∧ _) := ⟨⟨hi, hz0, hz1, hz2⟩⟩
    obtain ⟨pk, ck, rfl⟩ := hv.slice
    clear hP1 hP2 hb1 hK2 hR2 hcr hok hrd hd hτ hv h hc hlen hkl hB hi hz0 hz1 hz2
    go_enter Try.func51, Try.ntmps51
    go_wp2
    clear c3 c4 f3 f4 hw2
    go_loopw [4, 5] (fun o i wr => ∃ f : Nat, f ≤ 8 ∧ i = .int .i64 f ∧ Hd (Own wr w2.heap.size 9 o ((List.range f).map fun j => strV (τ.lasts.getD j []))) ∧ Hd (Keeps (fun _ => False) w2 wr)) (fun _ i _ => 8 - (intOf i).toNat)
    case atStart => exact ⟨0, by decide, rfl, ⟨Own.nil _ _ _⟩, ⟨Keeps.refl _ _⟩⟩
    case round =>
      obtain ⟨f, hf, rfl, HO, HK⟩ := hrel
      by_cases hf8 : f < 8
      · have hd8 : (f : Int) < 8 := by omega
        have HA := Hd.mk (rafter_any wr B E (downS σ) f (.slice pk ks.length ck) ks hf8 HLen.out HKl.out ((HV.out.keeps (HK.out.mono (fun _ _ h => h.elim))).mono (fun _ h => h.elim)) (HR2.out.next HK.out))
        rw [HAft.out f hf8] at HA
        obtain ⟨y, hy⟩ := bytesOf (τ.lasts.getD f [])
        rw [hy, strV_of] at HA
        have HY := Hd.mk hy
        have hl : ((List.range f).map fun j => strV (τ.lasts.getD j [])).length = f := by simp
        have HLf := Hd.mk hl
        clear hf hy hl
        go_wp2_with fail
        refine HA.out.mono ?_
        rintro e w5 ⟨rfl, k5⟩
        have HO5 := Hd.mk (HO.out.keeps k5 (fun _ _ h => h))
        have HK5 := Hd.mk (HK.out.trans k5)
        have hB5 : w2.heap.size ≤ w5.heap.size := (HK.out.trans k5).size
        clear k5
        go_wp2_with (at_builtin; refine wp_app1 rfl (Operand.tmp 20) (Operand.tmp 25) 40 rfl 9 Try.underlying40 HI.out.1 HI.out.2.1 HI.out.2.2.1 HI.out.2.2.2 rfl _ _ _ w5 rfl HO5.out rfl rfl (by rw [HLf.out]; unfold maxLen; omega) (by rw [HLf.out]; omega) hB5 ?_)
        intro v6 w6 hO6 hK6 hv6
        have HO6 : Hd (Own w6 w2.heap.size 9 v6 ((List.range (f + 1)).map fun j => strV (τ.lasts.getD j []))) := ⟨by
          rw [List.range_succ, List.map_append]
          have e : ([f].map fun j => strV (τ.lasts.getD j [])) = [.string y] := by
            show [strV (τ.lasts.getD f [])] = [.string y]
            rw [HY.out, strV_of]
          rw [e]; exact hO6⟩
        have HK6 := Hd.mk (keeps_own HK5.out hK6 HO5.out)
        clear hO6 hK6 hv6
        go_wp2
        go_roundw
        case rel => exact ⟨f + 1, hf8, by go_num, HO6, HK6⟩
        case measure => simp [intOf]; omega
      · have hd8 : ¬ (f : Int) < 8 := by omega
        obtain rfl : f = 8 := by omega
        have hm : ((List.range 8).map fun j => strV (τ.lasts.getD j [])) = τ.lasts.map strV := by
          apply List.ext_getElem
          · rw [List.length_map, List.length_map, List.length_range, HT8.out]
          · intro i h1 h2
            rw [List.getElem_map, List.getElem_map, List.getElem_range, List.getD_eq_getElem?_getD, List.getElem?_eq_getElem (by simpa using h2)]; rfl
        obtain ⟨g, cp, e8⟩ := HO.out.slice (by simp)
        rw [show ((List.range 8).map fun j => strV (τ.lasts.getD j [])).length = 8 by simp] at e8
        subst e8
        have hown : Own wr B 9 (.slice (some ⟨g, 0, none⟩) 8 cp) (τ.lasts.map strV) := own_base (by rw [← hm]; exact HO.out) HB2.out
        have HRr := HR2.out.next HK.out
        obtain ⟨he1, he2⟩ := HEnd.out HRr hown
        have HE1 := Hd.mk he1
        have HE2 := Hd.mk ((HK2.out.trans (RK.of HK.out)).trans he2)
        obtain ⟨lv3, qv3, kv3, hc3⟩ := HRr.cells
        obtain ⟨lv3c0, lv3f0⟩ := And.intro (hc3.b.at (j := 0) rfl) (hc3.b.free 0)
        have hb3 := hc3.b.set 0 (.slice (some ⟨g, 0, none⟩) 8 cp)
        have c31 := hb3.at (j := 1) rfl
        have f31 := hb3.free 1
        clear hm hown HRr he1 he2 hc3 hb3 hf
        go_wp2
        go_end0
        exact ⟨rfl, HE1.out, HE2.out⟩
  · rw [hd] at c3
    have e : crashS σ ks = σ := by unfold crashS; rw [if_pos hd]
    rw [e]
    have HR := Hd.mk h
    clear h hc hv hd e
    go_enter Try.func51, Try.ntmps51
    go_wp2
    refine bodyPost_ret (results_none rfl _ _ _) rfl ?_
    exact ⟨rfl, HR.out, RK.of (Keeps.refl _ _)⟩

/-- behind the scheduled crash of a call, or one step nearer -/
def comS (σ : St) (f k : Int) (s : List UInt8) : St := if endsB σ then crashS (writeS (endsS σ) f k s) σ.keep else endsS σ
theorem comS_head (σ : St) : comS σ 0 0 [] = headS σ := by
  unfold comS headS
  split
  · have : writeS (endsS σ) 0 0 [] = endsS σ := by unfold writeS; rw [if_neg (fun h => h.2 rfl)]
    rw [this]
  · rfl

set_option maxHeartbeats 4000000 in
set_option maxRecDepth 100000 in
theorem rcomes_any (w : World) (B E : Nat) (σ : St) (f k : Int) (s : ByteArray) (hB : B ≤ w.heap.size) (hlen : σ.queue.length + s.size ≤ 1000000000) (ha : σ.armed ≤ 9223372036854775807) (hkk : σ.keep.length ≤ 1000000000) (hs : s.size ≤ 1000000000) (h : RRep w B E σ) :
    Calls Try.prog 59 #[.pointer (some ⟨E, 0, none⟩), .int .i64 f, .int .i64 k, .string s] w fun e w' => e = .returned (.tuple #[]) ∧ RRep w' B E (comS σ f k s.data.toList) ∧ RK B w w' := by
  obtain ⟨lv, qv, kv, hc⟩ := h.cells
  have c3 := hc.b.at (j := 3) rfl
  have c4 := hc.b.at (j := 4) rfl
  have f4 := hc.b.free 4
  have HC0 := Hd.mk hc
  rcases hd : σ.down with _ | _
  · rw [hd] at c3
    by_cases h0 : σ.armed = 0
    · have e : comS σ f k s.data.toList = σ := by unfold comS endsB endsS; simp [hd, h0]
      rw [e]
      rw [h0] at c4
      have HR := Hd.mk h
      clear h hc hd e h0
      go_enter Try.func59, Try.ntmps59
      go_wp2
      refine bodyPost_ret (results_none rfl _ _ _) rfl ?_
      exact ⟨rfl, HR.out, RK.of (Keeps.refl _ _)⟩
    · have he : endsS σ = { σ with armed := σ.armed - 1 } := by unfold endsS; simp [hd, h0]
      have hP := h.put (σ' := endsS σ) (j := 4) (u := .int .i64 ((σ.armed - 1 : Nat) : Int)) (by rw [he]) (by rw [he]) (by rw [he]) h.ok.ends h.rd.ends (fun _ _ _ => by rw [he]; rfl)
      have hn0 : ((σ.armed : Int) == 0) = false := by simp; omega
      have rw1 : IntKind.i64.wrap ((σ.armed : Int) - 1) = (σ.armed : Int) - 1 := IntWalk.i64_in _ (by omega)
      have rw2 : (σ.armed : Int) - 1 = ((σ.armed - 1 : Nat) : Int) := by omega
      by_cases h1 : σ.armed = 1
      · have hE : endsB σ = true := by unfold endsB; simp [hd, h1]
        have e : comS σ f k s.data.toList = crashS (writeS (endsS σ) f k s.data.toList) σ.keep := by unfold comS; rw [if_pos hE]
        rw [e]
        rw [h1] at c4
        rw [h1] at hP
        have hP : RRep (w.setCell ⟨E, 4, none⟩ (.int .i64 0)) B E (endsS σ) ∧ RK B w (w.setCell ⟨E, 4, none⟩ (.int .i64 0)) := hP
        obtain ⟨w1, hw1⟩ : ∃ w1, w.setCell ⟨E, 4, none⟩ (.int .i64 0) = w1 := ⟨_, rfl⟩
        have c41 : w1.cell? ⟨E, 4, none⟩ = some (.int .i64 0) := by rw [← hw1]; exact (HC0.out.b.set 4 (.int .i64 0)).at (j := 4) rfl
        rw [hw1] at hP
        have HP := Hd.mk hP
        have hq1 : (endsS σ).queue = σ.queue := endsS_queue σ
        have hB1 : B ≤ w1.heap.size := Nat.le_trans hB hP.2.k.size
        have hm : isF f = true → mayS (endsS σ) f = 0 := fun hf => by unfold mayS; rw [show (endsS σ).down = false by rw [he]; exact hd, hf]; rfl
        have HFits := fun w => Hd.mk (rfits_any k s w (by omega))
        have HCrash : Hd (∀ w2, RRep w2 B E (writeS (endsS σ) f k s.data.toList) → B ≤ w2.heap.size → ∃ pk ck, w2.cell? ⟨E, 5, none⟩ = some (.slice pk σ.keep.length ck) ∧ Calls Try.prog 51 #[.pointer (some ⟨E, 0, none⟩), .slice pk σ.keep.length ck] w2 fun e w' => e = .returned (.tuple #[]) ∧ RRep w' B E (crashS (writeS (endsS σ) f k s.data.toList) σ.keep) ∧ RK B w2 w') := ⟨fun w2 hr hb2 => by
          obtain ⟨lv2, qv2, kv2, hc2⟩ := hr.cells
          have hk2 : (writeS (endsS σ) f k s.data.toList).keep = σ.keep := by rw [writeS_keep, endsS_keep]
          have hkr := hc2.k
          rw [hk2] at hkr
          obtain ⟨pk, ck, rfl⟩ := hkr.slice
          exact ⟨pk, ck, hc2.b.at (j := 5) rfl, rcrash_any w2 B E _ _ σ.keep hb2 (Nat.le_trans (writeS_queue _ _ _ _) (by rw [hq1]; exact hlen)) (Nat.le_trans hkk (by decide)) hkr.rs hr⟩⟩
        have hno : (isF f = false ∨ ¬ (0 ≤ k ∧ k ≤ 16777216 ∧ k + (s.size : Int) ≤ 16777216)) → writeS (endsS σ) f k s.data.toList = endsS σ := fun hx => by
          unfold writeS
          rw [if_neg]
          rintro ⟨h1', _⟩
          unfold writeE at h1'
          rcases hx with hx | hx
          · have hmm : mayS (endsS σ) f = 1 := by unfold mayS; rw [show (endsS σ).down = false by rw [he]; exact hd, hx]; rfl
            rw [hmm, if_pos (by decide)] at h1'
            cases h1'
          · split at h1'
            · rename_i h2; exact h2 h1'
            · split at h1'
              · cases h1'
              · split at h1'
                · cases h1'
                · rename_i h2 h3 h4
                  have : (s.data.toList.length : Int) = (s.size : Int) := rfl
                  omega
        have HNo := Hd.mk hno
        have HLen := Hd.mk hlen
        by_cases hv : (0 ≤ f ∧ f ≤ 7) ∧ (0 ≤ k ∧ k ≤ 16777216 ∧ k + (s.size : Int) ≤ 16777216)
        · obtain ⟨F, rfl⟩ := Int.eq_ofNat_of_zero_le hv.1.1
          obtain ⟨K0, rfl⟩ := Int.eq_ofNat_of_zero_le hv.2.1
          have hF8 : F < 8 := by omega
          have hfit : (decide ((0 : Int) ≤ (K0 : Int)) && (decide ((K0 : Int) ≤ 16777216) && decide ((K0 : Int) + (s.size : Int) ≤ 16777216))) = true := by simp; omega
          rw [hfit] at HFits
          have hst : (if s.data.toList = [] then endsS σ else addS (endsS σ) F K0 s.data.toList) = writeS (endsS σ) F K0 s.data.toList := by
            have hwe : writeE (endsS σ) F K0 s.data.toList = 0 := by
              unfold writeE
              rw [hm (by unfold isF; exact decide_eq_true (by omega)), if_neg (by decide), if_neg (by omega), if_neg (by
                have : (s.data.toList.length : Int) = (s.size : Int) := rfl
                omega)]
            unfold writeS
            split
            · rename_i hs0; rw [if_neg (fun h => h.2 hs0)]
            · rename_i hs0; rw [if_pos ⟨hwe, hs0⟩]; rfl
          have HA := Hd.mk (radd_any w1 B E (endsS σ) F K0 s hF8 (by omega) hB1 (by rw [hq1]; exact hlen) hP.1)
          rw [hst] at HA
          have f7 : (F : Int) ≤ 7 := by omega
          have f0 : (0 : Int) ≤ (F : Int) := by omega
          have HB1 := Hd.mk hB1
          clear h hc hd e h0 h1 hE he hP hm hq1 hB1 hno hv hfit hst hlen hB rw1 rw2 hn0 hF8
          go_enter Try.func59, Try.ntmps59
          go_wp2_with fail
          refine (HFits _).out.mono ?_
          rintro e w2 ⟨rfl, rfl⟩
          go_wp2_with fail
          refine HA.out.mono ?_
          rintro e w2 ⟨rfl, hr2, hk2⟩
          have HR2 := Hd.mk hr2
          have HK2 := Hd.mk hk2
          obtain ⟨pk, ck, c5, hcr⟩ := HCrash.out w2 hr2 (Nat.le_trans HB1.out hk2.k.size)
          have HCr := Hd.mk hcr
          clear hr2 hk2 hcr
          go_wp2_with fail
          refine HCr.out.mono ?_
          rintro e w3 ⟨rfl, hr3, hk3⟩
          have HR3 := Hd.mk hr3
          have HK3 := Hd.mk ((HP.out.2.trans HK2.out).trans hk3)
          clear hr3 hk3
          go_wp2
          go_end0
          exact ⟨rfl, HR3.out, HK3.out⟩
        · have hcs : (f < 0) ∨ (0 ≤ f ∧ 7 < f) ∨ (0 ≤ f ∧ f ≤ 7 ∧ (decide ((0 : Int) ≤ k) && (decide (k ≤ 16777216) && decide (k + (s.size : Int) ≤ 16777216))) = false) := by
            by_cases g0 : f < 0
            · exact .inl g0
            · by_cases g7 : 7 < f
              · exact .inr (.inl ⟨by omega, g7⟩)
              · refine .inr (.inr ⟨by omega, by omega, ?_⟩)
                rw [← Bool.not_eq_true]
                simp only [Bool.and_eq_true, decide_eq_true_eq]
                intro hx
                exact hv ⟨by omega, hx.1, hx.2.1, hx.2.2⟩
          have hst : writeS (endsS σ) f k s.data.toList = endsS σ := hno (by
            by_cases hx : 0 ≤ f ∧ f ≤ 7
            · exact .inr (fun hy => hv ⟨hx, hy⟩)
            · exact .inl (by unfold isF; exact decide_eq_false (by omega)))
          obtain ⟨pk, ck, c5, hcr⟩ := HCrash.out w1 (by rw [hst]; exact hP.1) hB1
          have HCr := Hd.mk hcr
          clear h hc hd e h0 h1 hE he hP hm hq1 hB1 hno hv hst hlen hB rw1 rw2 hn0 hcr HCrash HNo
          rcases hcs with g | ⟨g, g'⟩ | ⟨g, g', hfit⟩
          · have g0 : decide ((0 : Int) ≤ f) = false := by simp; omega
            clear g HFits
            go_enter Try.func59, Try.ntmps59
            go_wp2_with fail
            refine HCr.out.mono ?_
            rintro e w3 ⟨rfl, hr3, hk3⟩
            have HR3 := Hd.mk hr3
            have HK3 := Hd.mk (HP.out.2.trans hk3)
            clear hr3 hk3
            go_wp2
            go_end0
            exact ⟨rfl, HR3.out, HK3.out⟩
          · have g0 : decide ((0 : Int) ≤ f) = true := by simp; omega
            have g7 : decide (f ≤ 7) = false := by simp; omega
            clear g g' HFits
            go_enter Try.func59, Try.ntmps59
            go_wp2_with fail
            refine HCr.out.mono ?_
            rintro e w3 ⟨rfl, hr3, hk3⟩
            have HR3 := Hd.mk hr3
            have HK3 := Hd.mk (HP.out.2.trans hk3)
            clear hr3 hk3
            go_wp2
            go_end0
            exact ⟨rfl, HR3.out, HK3.out⟩
          · have g0 : decide ((0 : Int) ≤ f) = true := by simp; omega
            have g7 : decide (f ≤ 7) = true := by simp; omega
            rw [hfit] at HFits
            clear g g' hfit
            go_enter Try.func59, Try.ntmps59
            go_wp2_with fail
            refine (HFits _).out.mono ?_
            rintro e w2 ⟨rfl, rfl⟩
            go_wp2_with fail
            refine HCr.out.mono ?_
            rintro e w3 ⟨rfl, hr3, hk3⟩
            have HR3 := Hd.mk hr3
            have HK3 := Hd.mk (HP.out.2.trans hk3)
            clear hr3 hk3
            go_wp2
            go_end0
            exact ⟨rfl, HR3.out, HK3.out⟩
      · have hE : endsB σ = false := by unfold endsB; simp [hd, h1]
        have e : comS σ f k s.data.toList = endsS σ := by unfold comS; rw [hE]; rfl
        rw [e]
        rw [← rw2] at hP
        have HP := Hd.mk hP
        have hgt : decide ((0 : Int) < (σ.armed : Int) - 1) = true := by simp; omega
        have hgt2 : 1 < σ.armed := by omega
        have c4' := (HC0.out.b.set 4 (.int .i64 ((σ.armed : Int) - 1))).at (j := 4) rfl
        clear h hc hd e h0 h1 hE hP he rw2
        go_enter Try.func59, Try.ntmps59
        go_wp2
        refine bodyPost_ret (results_none rfl _ _ _) rfl ?_
        exact ⟨rfl, HP.out.1, HP.out.2⟩
  · rw [hd] at c3
    have e : comS σ f k s.data.toList = σ := by unfold comS endsB endsS; simp [hd]
    rw [e]
    have HR := Hd.mk h
    clear h hc hd e
    go_enter Try.func59, Try.ntmps59
    go_wp2
    refine bodyPost_ret (results_none rfl _ _ _) rfl ?_
    exact ⟨rfl, HR.out, RK.of (Keeps.refl _ _)⟩

end Go.Proofs.Ytcleocgaooblfaa.W
