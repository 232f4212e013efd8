/-
  DiskTells: the walk of twin; both disks side by side.
-/
import Derived.Test.YtcleocgaooblfaaRf14
import Derived.Test.YtcleocgaooblfaaTwo
namespace Go.Proofs.Ytcleocgaooblfaa.W
open Go.RowKit
set_option linter.unusedVariables false

set_option maxHeartbeats 4000000 in
set_option maxRecDepth 100000 in
theorem twin_any (w : World) (B E : Nat) (σ : St) (a : Ac) (kv : Value) (hB : B ≤ w.heap.size) (hok : AcOk a) (hF : Fit σ) (hq : σ.queue.length + a.s.size ≤ 1000000000) (hk : a.k.length ≤ 1000000000) (hv : IR (fun g => B ≤ g) w kv a.k) (h : RRep w B E σ) :
    Calls Try.prog 31 #[.pointer (some ⟨E, 0, none⟩), .agg (acCells a kv).toArray] w fun e w' => e = .returned (.tuple #[strV (doL σ a), .int .i64 (doE σ a : Nat)]) ∧ RRep w' B E (doS σ a) ∧ RK B w w' := by
  obtain ⟨pk, ck, rfl⟩ := hv.slice
  have hcs : (acCells a (.slice pk a.k.length ck)).toArray = #[.int .i64 a.d, .int .i64 a.f, .int .i64 a.g, .int .i64 a.n, .string a.s, .slice pk a.k.length ck] := rfl
  rw [hcs]
  obtain ⟨w1, hw1⟩ : ∃ w1, w.alloc (.cells #[.int .i64 a.d, .int .i64 a.f, .int .i64 a.g, .int .i64 a.n, .string a.s, .slice pk a.k.length ck] 42) = w1 := ⟨_, rfl⟩
  have HB1 : Blk w1 w.heap.size 42 [.int .i64 a.d, .int .i64 a.f, .int .i64 a.g, .int .i64 a.n, .string a.s, .slice pk a.k.length ck] := hw1 ▸ Blk.new w 42 _
  have K1 : Keeps (fun _ => False) w w1 := hw1 ▸ (Keeps.refl (fun _ => False) w).alloc _
  have hr1 : RRep w1 B E σ := h.next K1
  have hv1 : IR (RS w1 B) w1 (.slice pk a.k.length ck) a.k := (hv.keeps (K1.mono (S' := fun g => B ≤ g) (fun _ _ h => h.elim))).mono (fun g h => h.1)
  have hb1 : B ≤ w1.heap.size := Nat.le_trans hB K1.size
  have fin : ∀ {w' : World} {σ' : St}, RRep w' B E σ' → RK B w1 w' → σ' = doS σ a → RRep w' B E (doS σ a) ∧ RK B w w' :=
    fun {w'} {σ'} h1 h2 h3 => ⟨h3 ▸ h1, (RK.of K1).trans h2⟩
  have HFin := Hd.mk @fin
  have HR1 := Hd.mk hr1
  have HV1 := Hd.mk hv1
  have HBB := Hd.mk hb1
  have HF := Hd.mk hF
  have HQ := Hd.mk hq
  have HOK := Hd.mk hok
  have HK := Hd.mk hk
  have hsz : a.s.size ≤ 1000000000 := by omega
  have HSZ := Hd.mk hsz
  have HP := Hd.mk (pick_any a.d w1 hok.d)
  have b0 := HB1.at (j := 0) rfl
  have b1 := HB1.at (j := 1) rfl
  have b2 := HB1.at (j := 2) rfl
  have b3 := HB1.at (j := 3) rfl
  have b4 := HB1.at (j := 4) rfl
  have b5 := HB1.at (j := 5) rfl
  obtain ⟨hx, hhx⟩ : ∃ hx, w.heap.size = hx := ⟨_, rfl⟩
  rw [hhx] at b0 b1 b2 b3 b4 b5
  obtain ⟨p, hp⟩ : ∃ p, pickI a.d = p := ⟨_, rfl⟩
  have hrange := pickI_range a.d
  rw [hp] at HP hrange
  have HPP := Hd.mk hp
  clear fin hr1 hv1 hF hq hok hk hv h hcs HB1 K1 hp hB hb1 hsz
  rcases hrange with rfl | rfl | rfl | rfl | rfl | rfl | rfl | rfl | rfl | rfl | rfl
  · have HS : Hd (WriteS σ a.f a.n a.s.data.toList = doS σ a) := ⟨by unfold doS; rw [HPP.out]; rfl⟩
    have HE : Hd (doE σ a = WriteE σ a.f a.n a.s.data.toList ∧ doL σ a = []) := ⟨by unfold doE; rw [HPP.out]; rfl, by unfold doL; rw [HPP.out]; rfl⟩
    have HC := Hd.mk (rwrite_any w1 B E σ a.f a.n a.s HBB.out HQ.out HF.out.a HF.out.k HSZ.out HR1.out)
    rw [HE.out.1, HE.out.2]
    go_enter Try.func31, Try.ntmps31
    go_wp2_with fail
    refine HP.out.mono ?_; rintro e w2 ⟨rfl, rfl⟩
    go_wp2_with fail
    refine HC.out.mono ?_
    rintro e w2 ⟨rfl, hr', k'⟩
    have HX := Hd.mk (HFin.out hr' k' HS.out)
    clear hr' k'
    go_wp2
    go_ret2
    exact ⟨rfl, HX.out⟩
  · have HS : Hd (WriteS σ a.f a.n a.s.data.toList = doS σ a) := ⟨by unfold doS; rw [HPP.out]; rfl⟩
    have HE : Hd (doE σ a = WriteE σ a.f a.n a.s.data.toList ∧ doL σ a = []) := ⟨by unfold doE; rw [HPP.out]; rfl, by unfold doL; rw [HPP.out]; rfl⟩
    have HC := Hd.mk (rwrite_any w1 B E σ a.f a.n a.s HBB.out HQ.out HF.out.a HF.out.k HSZ.out HR1.out)
    rw [HE.out.1, HE.out.2]
    go_enter Try.func31, Try.ntmps31
    go_wp2_with fail
    refine HP.out.mono ?_; rintro e w2 ⟨rfl, rfl⟩
    go_wp2_with fail
    refine HC.out.mono ?_
    rintro e w2 ⟨rfl, hr', k'⟩
    have HX := Hd.mk (HFin.out hr' k' HS.out)
    clear hr' k'
    go_wp2
    go_ret2
    exact ⟨rfl, HX.out⟩
  · have HS : Hd (FlushS σ a.f = doS σ a) := ⟨by unfold doS; rw [HPP.out]; rfl⟩
    have HE : Hd (doE σ a = FlushE σ a.f ∧ doL σ a = []) := ⟨by unfold doE; rw [HPP.out]; rfl, by unfold doL; rw [HPP.out]; rfl⟩
    have HC := Hd.mk (rflush_any w1 B E σ a.f HBB.out HF.out.q HF.out.a HF.out.k HF.out.l HR1.out)
    rw [HE.out.1, HE.out.2]
    go_enter Try.func31, Try.ntmps31
    go_wp2_with fail
    refine HP.out.mono ?_; rintro e w2 ⟨rfl, rfl⟩
    go_wp2_with fail
    refine HC.out.mono ?_
    rintro e w2 ⟨rfl, hr', k'⟩
    have HX := Hd.mk (HFin.out hr' k' HS.out)
    clear hr' k'
    go_wp2
    go_ret2
    exact ⟨rfl, HX.out⟩
  · have HS : Hd (CutS σ a.f a.n = doS σ a) := ⟨by unfold doS; rw [HPP.out]; rfl⟩
    have HE : Hd (doE σ a = CutE σ a.f a.n ∧ doL σ a = []) := ⟨by unfold doE; rw [HPP.out]; rfl, by unfold doL; rw [HPP.out]; rfl⟩
    have HC := Hd.mk (rcut_any w1 B E σ a.f a.n HBB.out HF.out.q HF.out.a HF.out.k HR1.out)
    rw [HE.out.1, HE.out.2]
    go_enter Try.func31, Try.ntmps31
    go_wp2_with fail
    refine HP.out.mono ?_; rintro e w2 ⟨rfl, rfl⟩
    go_wp2_with fail
    refine HC.out.mono ?_
    rintro e w2 ⟨rfl, hr', k'⟩
    have HX := Hd.mk (HFin.out hr' k' HS.out)
    clear hr' k'
    go_wp2
    go_ret2
    exact ⟨rfl, HX.out⟩
  · have HS : Hd (TurnS σ a.f a.g = doS σ a) := ⟨by unfold doS; rw [HPP.out]; rfl⟩
    have HE : Hd (doE σ a = TurnE σ a.f a.g ∧ doL σ a = []) := ⟨by unfold doE; rw [HPP.out]; rfl, by unfold doL; rw [HPP.out]; rfl⟩
    have HC := Hd.mk (rturn_any w1 B E σ a.f a.g HBB.out HF.out.q HF.out.a HF.out.k HR1.out)
    rw [HE.out.1, HE.out.2]
    go_enter Try.func31, Try.ntmps31
    go_wp2_with fail
    refine HP.out.mono ?_; rintro e w2 ⟨rfl, rfl⟩
    go_wp2_with fail
    refine HC.out.mono ?_
    rintro e w2 ⟨rfl, hr', k'⟩
    have HX := Hd.mk (HFin.out hr' k' HS.out)
    clear hr' k'
    go_wp2
    go_ret2
    exact ⟨rfl, HX.out⟩
  · have HS : Hd (crashS σ a.k = doS σ a) := ⟨by unfold doS; rw [HPP.out]; rfl⟩
    have HE : Hd (doE σ a = 0 ∧ doL σ a = []) := ⟨by unfold doE; rw [HPP.out]; rfl, by unfold doL; rw [HPP.out]; rfl⟩
    have HC := Hd.mk (rcrash_any w1 B E σ _ a.k HBB.out HF.out.q (Nat.le_trans HK.out (by decide)) HV1.out HR1.out)
    rw [HE.out.1, HE.out.2]
    go_enter Try.func31, Try.ntmps31
    go_wp2_with fail
    refine HP.out.mono ?_; rintro e w2 ⟨rfl, rfl⟩
    go_wp2_with fail
    refine HC.out.mono ?_
    rintro e w2 ⟨rfl, hr', k'⟩
    have HX := Hd.mk (HFin.out hr' k' HS.out)
    clear hr' k'
    go_wp2
    go_ret2
    exact ⟨rfl, HX.out⟩
  · have HS : Hd (loseS σ a.n = doS σ a) := ⟨by unfold doS; rw [HPP.out]; rfl⟩
    have HE : Hd (doE σ a = 0 ∧ doL σ a = []) := ⟨by unfold doE; rw [HPP.out]; rfl, by unfold doL; rw [HPP.out]; rfl⟩
    have HC := Hd.mk (rlose_any w1 B E σ a.n HR1.out)
    rw [HE.out.1, HE.out.2]
    go_enter Try.func31, Try.ntmps31
    go_wp2_with fail
    refine HP.out.mono ?_; rintro e w2 ⟨rfl, rfl⟩
    go_wp2_with fail
    refine HC.out.mono ?_
    rintro e w2 ⟨rfl, hr', k'⟩
    have HX := Hd.mk (HFin.out hr' k' HS.out)
    clear hr' k'
    go_wp2
    go_ret2
    exact ⟨rfl, HX.out⟩
  · have HS : Hd (startS σ = doS σ a) := ⟨by unfold doS; rw [HPP.out]; rfl⟩
    have HE : Hd (doE σ a = 0 ∧ doL σ a = []) := ⟨by unfold doE; rw [HPP.out]; rfl, by unfold doL; rw [HPP.out]; rfl⟩
    have HC := Hd.mk (rstart_any w1 B E σ HR1.out)
    rw [HE.out.1, HE.out.2]
    go_enter Try.func31, Try.ntmps31
    go_wp2_with fail
    refine HP.out.mono ?_; rintro e w2 ⟨rfl, rfl⟩
    go_wp2_with fail
    refine HC.out.mono ?_
    rintro e w2 ⟨rfl, hr', k'⟩
    have HX := Hd.mk (HFin.out hr' k' HS.out)
    clear hr' k'
    go_wp2
    go_ret2
    exact ⟨rfl, HX.out⟩
  · have HS : Hd (σ = doS σ a) := ⟨by unfold doS; rw [HPP.out]; rfl⟩
    have HE : Hd (doE σ a = mayS σ a.f ∧ doL σ a = readL σ a.f) := ⟨by unfold doE; rw [HPP.out]; rfl, by unfold doL; rw [HPP.out]; rfl⟩
    have HC := Hd.mk (rread_any w1 B E σ a.f HF.out.q HR1.out)
    rw [HE.out.1, HE.out.2]
    rw [strV_def] at HC ⊢
    obtain ⟨rd, hrd⟩ : ∃ rd : ByteArray, (⟨(readL σ a.f).toArray⟩ : ByteArray) = rd := ⟨_, rfl⟩
    rw [hrd] at HC ⊢
    clear hrd
    go_enter Try.func31, Try.ntmps31
    go_wp2_with fail
    refine HP.out.mono ?_; rintro e w2 ⟨rfl, rfl⟩
    go_wp2_with fail
    refine HC.out.mono ?_
    rintro e w2 ⟨rfl, k'⟩
    have HX := Hd.mk (HFin.out (HR1.out.next k') (RK.of k') HS.out)
    clear k'
    go_wp2
    go_ret2
    exact ⟨rfl, HX.out⟩
  · have HS : Hd (σ = doS σ a) := ⟨by unfold doS; rw [HPP.out]; rfl⟩
    have HE : Hd (doE σ a = 0 ∧ doL σ a = []) := ⟨by unfold doE; rw [HPP.out]; rfl, by unfold doL; rw [HPP.out]; rfl⟩
    rw [HE.out.1, HE.out.2]
    go_enter Try.func31, Try.ntmps31
    go_wp2_with fail
    refine HP.out.mono ?_; rintro e w2 ⟨rfl, rfl⟩
    have HX := Hd.mk (HFin.out HR1.out (RK.of (Keeps.refl _ _)) HS.out)
    go_wp2
    go_ret2
    exact ⟨rfl, HX.out⟩
  · have HS : Hd (armS σ a.n a.k = doS σ a) := ⟨by unfold doS; rw [HPP.out]; rfl⟩
    have HE : Hd (doE σ a = 0 ∧ doL σ a = []) := ⟨by unfold doE; rw [HPP.out]; rfl, by unfold doL; rw [HPP.out]; rfl⟩
    have HC := Hd.mk (rarm_any w1 B E σ a.n _ a.k HK.out HV1.out HR1.out)
    rw [HE.out.1, HE.out.2]
    go_enter Try.func31, Try.ntmps31
    go_wp2_with fail
    refine HP.out.mono ?_; rintro e w2 ⟨rfl, rfl⟩
    go_wp2_with fail
    refine HC.out.mono ?_
    rintro e w2 ⟨rfl, hr', k'⟩
    have HX := Hd.mk (HFin.out hr' k' HS.out)
    clear hr' k'
    go_wp2
    go_ret2
    exact ⟨rfl, HX.out⟩

theorem Rep.typR {w : World} {D : Nat} {σ : St} {O : Option Nat} (h : Rep w D σ O) {g : Nat} (hg : g = D ∨ O = some g) : ∃ cur fz T, w.heap[g]? = some (.cells cur T fz) ∧ (T = 58 ∨ T = 63) := by
  obtain ⟨qv, kv, hb, hq, hk⟩ := h.is
  rcases hg with rfl | hO
  · exact ⟨_, _, _, hb.is, .inl rfl⟩
  · rcases hq.is with ⟨h0, _⟩ | ⟨g', hO', hv, hrow⟩
    · rw [h0] at hO; cases hO
    · rw [hO'] at hO
      cases hO
      rcases hrow.2 with ⟨rfl, _⟩ | ⟨b, cap, cur', rfl, hB, hg', r⟩
      · cases hv
      · have hbg : b = g := by simpa [Value.ownBlock] using hv
        subst hbg
        exact ⟨_, _, _, hg', .inr rfl⟩
theorem Rep.not_typR {w : World} {D : Nat} {σ : St} {O : Option Nat} (h : Rep w D σ O) {g : Nat} {cur : Array Value} {T : TypeId} {fz : Nat × Nat} (hb : w.heap[g]? = some (.cells cur T fz)) (h1 : T ≠ 58) (h2 : T ≠ 63) : ¬ (g = D ∨ O = some g) := fun hg => by
  obtain ⟨cur', fz', T', h3, h4⟩ := h.typR hg
  rw [hb] at h3
  injection h3 with h3; injection h3 with _ h5 _
  rcases h4 with h4 | h4
  · exact h1 (h5.trans h4)
  · exact h2 (h5.trans h4)

/-- the reference's disk outlasts what is done to blocks of other types -/
theorem RRep.keepsT {S : Nat → Prop} {w w' : World} {B E : Nat} {σ : St} (h : RRep w B E σ) (k : Keeps S w w') (hs : ∀ g cur fz T, w.heap[g]? = some (.cells cur T fz) → (T = 71 ∨ T = 9 ∨ T = 80 ∨ T = 3) → ¬ S g) : RRep w' B E σ := by
  obtain ⟨lv, qv, kv, hc⟩ := h.cells
  have hc' := hc.keeps k (hs _ _ _ _ hc.b.is (.inl rfl)) (fun g hg => ?_) (fun g cur fz hg => hs g cur fz _ hg (.inr (.inr (.inl rfl)))) (fun g cur fz hg => hs g cur fz _ hg (.inr (.inr (.inr rfl))))
  · exact RMem.rep ⟨⟨lv, qv, kv, hc'⟩, h.ge⟩ h.ok h.rd
  · rcases hc.l.is with ⟨rfl, _⟩ | ⟨g', cap, rfl, _, _, _, ⟨cur, fz, hg', _⟩, _⟩
    · cases hg
    · have : g' = g := by simpa [Value.ownBlock] using hg
      subst this
      exact hs _ _ _ _ hg' (.inr (.inl rfl))

theorem One.runR {B w : World} {D b E : Nat} {σ σ' τ : St} {f : FuncId} {args : Array Value} {val : Value} (h : One B w D σ) (hr : RRep w b E τ) (hc : OpC w f args D σ σ' val) : Calls Try.prog f args w fun e w' => e = .returned val ∧ One B w' D σ' ∧ RRep w' b E τ := by
  obtain ⟨O, h1, hO⟩ := h.is
  refine (hc.run O h1).mono fun e w' ⟨he, O', hr', hO', k⟩ => ⟨he, One.op h.below h.ge hO hr' hO' k, hr.keepsT k (fun g cur fz T hg hT => ?_)⟩
  rcases hT with rfl | rfl | rfl | rfl <;> exact h1.not_typR hg (by decide) (by decide)
theorem Two.runR {B w : World} {D C b E : Nat} {σ σ' ρ τ : St} {f : FuncId} {args : Array Value} {val : Value} (h : Two B w D C σ ρ) (hr : RRep w b E τ) (hc : OpC w f args D σ σ' val) : Calls Try.prog f args w fun e w' => e = .returned val ∧ Two B w' D C σ' ρ ∧ RRep w' b E τ := by
  obtain ⟨O, P, h1, h2, h3, h4, h5, h6, h7⟩ := h.is
  have hl := h1.lt
  have hb := h.below
  refine (hc.run O h1).mono fun e w' ⟨he, O', hr', hO', k⟩ => ⟨he, ?_, hr.keepsT k (fun g cur fz T hg hT => ?_)⟩
  · have h1' := One.op h.below h.ge h3 hr' hO' k
    have hlE := h2.lt
    have h2' : Rep w' C ρ P := h2.keeps k (fun e => e.elim (fun e => h.ne e.symm) h5) (fun g hg e => e.elim (fun e => h6 (e ▸ hg)) (fun e => h7 g e hg)) (fun g cur fz hg e => h1.notInt g cur fz hg e)
    refine ⟨⟨O', P, hr', h2', fun g hg => (hO' g hg).elim (h3 g) (Nat.le_trans hb.size), h4, fun e => ?_, h6, fun g a b => ?_⟩, h.ne, h1'.below, h.ge, h.ge'⟩
    · rcases hO' C e with e | e
      · exact h5 e
      · exact Nat.lt_irrefl _ (Nat.lt_of_lt_of_le hlE e)
    · rcases hO' g a with e | e
      · exact h7 g e b
      · exact Nat.lt_irrefl _ (Nat.lt_of_lt_of_le (h2.ltO b) e)
  · rcases hT with rfl | rfl | rfl | rfl <;> exact h1.not_typR hg (by decide) (by decide)

theorem RS.not_typ {w : World} {B : Nat} {g : Nat} {cur : Array Value} {T : TypeId} {fz : Nat × Nat} (hb : w.heap[g]? = some (.cells cur T fz)) (h1 : T ≠ 71) (h2 : T ≠ 9) (h3 : T ≠ 80) : ¬ RS w B g := fun ⟨_, cur', fz', T', h, h'⟩ => by
  rw [hb] at h
  injection h with h; injection h with _ h _
  rcases h' with h' | h' | h'
  · exact h1 (h.trans h')
  · exact h2 (h.trans h')
  · exact h3 (h.trans h')
theorem One.rk {B w w' : World} {D : Nat} {σ : St} (h : One B w D σ) (k : RK B.heap.size w w') : One B w' D σ := by
  obtain ⟨O, hr, hO⟩ := h.is
  have hn : ∀ g, (g = D ∨ O = some g) → ¬ RS w B.heap.size g := fun g hg => by
    obtain ⟨cur, fz, T, hc, hT⟩ := hr.typR hg
    rcases hT with rfl | rfl <;> exact RS.not_typ hc (by decide) (by decide) (by decide)
  exact ⟨⟨O, hr.keeps k.k (hn D (.inl rfl)) (fun g hg => hn g (.inr hg)) (fun g cur fz hg => RS.not_typ hg (by decide) (by decide) (by decide)), hO⟩, h.below.trans (k.k.below h.below.size (fun g hg hs => by have := hs.1; omega)), h.ge⟩

end Go.Proofs.Ytcleocgaooblfaa.W
