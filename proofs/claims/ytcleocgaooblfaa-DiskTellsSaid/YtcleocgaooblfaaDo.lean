/-
  One operation: the walk of do.
-/
import Derived.Test.YtcleocgaooblfaaAct
namespace Go.Proofs.Ytcleocgaooblfaa.W
open Go.RowKit
set_option linter.unusedVariables false

def doS (σ : St) (a : Ac) : St :=
  if pickI a.d ≤ 1 then WriteS σ a.f a.n a.s.data.toList else if pickI a.d = 2 then FlushS σ a.f else if pickI a.d = 3 then CutS σ a.f a.n else if pickI a.d = 4 then TurnS σ a.f a.g
  else if pickI a.d = 5 then crashS σ a.k else if pickI a.d = 6 then loseS σ a.n else if pickI a.d = 7 then startS σ else if pickI a.d = 10 then armS σ a.n a.k else σ
def doE (σ : St) (a : Ac) : Nat :=
  if pickI a.d ≤ 1 then WriteE σ a.f a.n a.s.data.toList else if pickI a.d = 2 then FlushE σ a.f else if pickI a.d = 3 then CutE σ a.f a.n else if pickI a.d = 4 then TurnE σ a.f a.g
  else if pickI a.d = 8 then mayS σ a.f else 0
def doL (σ : St) (a : Ac) : List UInt8 := if pickI a.d = 8 then readL σ a.f else []

theorem pickI_range (n : Int) : pickI n = 0 ∨ pickI n = 1 ∨ pickI n = 2 ∨ pickI n = 3 ∨ pickI n = 4 ∨ pickI n = 5 ∨ pickI n = 6 ∨ pickI n = 7 ∨ pickI n = 8 ∨ pickI n = 9 ∨ pickI n = 10 := by
  unfold pickI; omega

/-- the disk's numbers fit, and at most b pieces are pending -/
structure FitQ (σ : St) (b : Nat) : Prop where
  a : σ.armed ≤ 9223372036854775807
  l : σ.lost ≤ 9223372036854775807
  k : σ.keep.length ≤ 100000
  q : σ.queue.length ≤ b

theorem FitQ.fit {σ : St} {b : Nat} (h : FitQ σ b) (hb : b ≤ 1000000000) : Fit σ := ⟨h.a, h.l, Nat.le_trans h.k (by decide), Nat.le_trans h.q hb⟩
theorem FitQ.mono {σ : St} {b c : Nat} (h : FitQ σ b) (hb : b ≤ c) : FitQ σ c := ⟨h.a, h.l, h.k, Nat.le_trans h.q hb⟩
theorem FitQ.ends {σ : St} {b : Nat} (h : FitQ σ b) : FitQ (endsS σ) b := by
  unfold endsS
  split
  · exact h
  · exact ⟨by have := h.a; show σ.armed - 1 ≤ _; omega, h.l, h.k, h.q⟩
theorem FitQ.crash {σ : St} {b : Nat} (h : FitQ σ b) (ks : List Int) : FitQ (crashS σ ks) b := by
  unfold crashS
  split
  · exact h
  · exact ⟨Nat.zero_le _, h.l, h.k, Nat.zero_le _⟩
theorem FitQ.head {σ : St} {b : Nat} (h : FitQ σ b) : FitQ (headS σ) b := by
  unfold headS
  split
  · exact h.ends.crash _
  · exact h.ends
theorem FitQ.settle {σ : St} {b : Nat} (h : FitQ σ b) (f : Nat) (s : List UInt8) : FitQ (settleS σ f s) b := ⟨h.a, h.l, h.k, Nat.le_trans (List.length_filter_le _ _) h.q⟩
theorem FitQ.flush {σ : St} {b : Nat} (h : FitQ σ b) (f : Int) : FitQ (FlushS σ f) b := by
  unfold FlushS flushS
  have h' := h.head
  split
  · exact h'
  · split
    · exact ⟨h'.a, by have := h'.l; show (headS σ).lost - 1 ≤ _; omega, h'.k, h'.q⟩
    · exact h'.settle _ _
theorem FitQ.cut {σ : St} {b : Nat} (h : FitQ σ b) (f n : Int) : FitQ (CutS σ f n) b := by
  unfold CutS cutS
  split
  · exact h.head.settle _ _
  · exact h.head
theorem FitQ.turn {σ : St} {b : Nat} (h : FitQ σ b) (f g : Int) : FitQ (TurnS σ f g) b := by
  unfold TurnS turnS
  split
  · exact (h.head.settle _ _).settle _ _
  · exact h.head
theorem writeS_armed (σ : St) (f k : Int) (s : List UInt8) : (writeS σ f k s).armed = σ.armed ∧ (writeS σ f k s).lost = σ.lost := by
  unfold writeS; split <;> exact ⟨rfl, rfl⟩
theorem FitQ.write {σ : St} {b : Nat} (h : FitQ σ b) (f k : Int) (s : List UInt8) : FitQ (WriteS σ f k s) (b + s.length) := by
  have h' : FitQ (writeS (endsS σ) f k s) (b + s.length) := by
    have e := h.ends
    exact ⟨by rw [(writeS_armed _ _ _ _).1]; exact e.a, by rw [(writeS_armed _ _ _ _).2]; exact e.l, by rw [writeS_keep]; exact e.k, Nat.le_trans (writeS_queue _ _ _ _) (Nat.add_le_add_right e.q _)⟩
  unfold WriteS
  split
  · exact h'.crash _
  · exact h'
theorem FitQ.do {σ : St} {b : Nat} (h : FitQ σ b) (a : Ac) (ha : AcOk a) (hk : a.k.length ≤ 100000) : FitQ (doS σ a) (b + a.s.size) := by
  have hm : ∀ {τ : St}, FitQ τ b → FitQ τ (b + a.s.size) := fun h => h.mono (Nat.le_add_right _ _)
  have hn := ha.n
  unfold i64R at hn
  unfold doS
  split
  · exact h.write _ _ _
  · split
    · exact hm (h.flush _)
    · split
      · exact hm (h.cut _ _)
      · split
        · exact hm (h.turn _ _)
        · split
          · exact hm (h.crash _)
          · split
            · exact hm ⟨h.a, by show (max a.n 0).toNat ≤ _; omega, h.k, h.q⟩
            · split
              · exact hm ⟨h.a, h.l, h.k, h.q⟩
              · split
                · exact hm ⟨by show (max a.n 0).toNat ≤ _; omega, h.l, hk, h.q⟩
                · exact hm h

set_option maxHeartbeats 4000000 in
set_option maxRecDepth 100000 in
theorem do_op (w : World) (D : Nat) (σ : St) (a : Ac) (kv : Value) (hok : AcOk a) (hF : Fit σ) (hq : σ.queue.length + a.s.size ≤ 1000000000) (hk : a.k.length ≤ 1000000000) (hv : IR (· = D) w kv a.k) :
    OpC w 23 #[.pointer (some ⟨D, 0, none⟩), .agg (acCells a kv).toArray] D σ (doS σ a) (.tuple #[strV (doL σ a), .int .i64 (doE σ a : Nat)]) := by
  refine ⟨fun O hr => ?_⟩
  obtain ⟨pk, ck, rfl⟩ := hv.slice
  have hcs : (acCells a (.slice pk a.k.length ck)).toArray = #[.int .i64 a.d, .int .i64 a.f, .int .i64 a.g, .int .i64 a.n, .string a.s, .slice pk a.k.length ck] := rfl
  rw [hcs]
  obtain ⟨w1, hw1⟩ : ∃ w1, w.alloc (.cells #[.int .i64 a.d, .int .i64 a.f, .int .i64 a.g, .int .i64 a.n, .string a.s, .slice pk a.k.length ck] 42) = w1 := ⟨_, rfl⟩
  have HB1 : Blk w1 w.heap.size 42 [.int .i64 a.d, .int .i64 a.f, .int .i64 a.g, .int .i64 a.n, .string a.s, .slice pk a.k.length ck] := hw1 ▸ Blk.new w 42 _
  have K1 : Keeps (fun _ => False) w w1 := hw1 ▸ (Keeps.refl (fun _ => False) w).alloc _
  have hr1 : Rep w1 D σ O := hr.next K1
  have hv1 := hv.keeps (K1.mono (S' := (· = D)) (fun _ _ h => h.elim))
  have fin : ∀ {w' : World} {O' : Option Nat} {σ' : St}, Rep w' D σ' O' → (∀ g, O' = some g → O = some g ∨ w1.heap.size ≤ g) → Keeps (fun g => g = D ∨ O = some g) w1 w' → σ' = doS σ a →
      ∃ O', Rep w' D (doS σ a) O' ∧ (∀ g, O' = some g → O = some g ∨ w.heap.size ≤ g) ∧ Keeps (fun g => g = D ∨ O = some g) w w' :=
    fun {w'} {O'} {σ'} h1 h2 h3 h4 => ⟨O', h4 ▸ h1, fun g hg => (h2 g hg).imp_right (Nat.le_trans K1.size), (K1.mono (fun _ _ h => h.elim)).trans h3⟩
  have HFin := Hd.mk @fin
  have HR1 := Hd.mk hr1
  have HV1 := Hd.mk hv1
  have HF := Hd.mk hF
  have HQ := Hd.mk hq
  have HOK := Hd.mk hok
  have HK := Hd.mk hk
  have HP := Hd.mk (pick_any a.d w1 hok.d)
  have b0 := HB1.at (j := 0) rfl
  have b1 := HB1.at (j := 1) rfl
  have b2 := HB1.at (j := 2) rfl
  have b3 := HB1.at (j := 3) rfl
  have b4 := HB1.at (j := 4) rfl
  have b5 := HB1.at (j := 5) rfl
  obtain ⟨hx, hhx⟩ : ∃ hx, w.heap.size = hx := ⟨_, rfl⟩
  rw [hhx] at b0 b1 b2 b3 b4 b5
  obtain ⟨p, hp⟩ : ∃ p, pickI a.d = p := ⟨_, rfl⟩
  have hrange := pickI_range a.d
  rw [hp] at HP hrange
  have HPP := Hd.mk hp
  clear fin hr1 hv1 hF hq hok hk hv hr hcs HB1 K1 hp
  rcases hrange with rfl | rfl | rfl | rfl | rfl | rfl | rfl | rfl | rfl | rfl | rfl
  · have HS : Hd (WriteS σ a.f a.n a.s.data.toList = doS σ a) := ⟨by unfold doS; rw [HPP.out]; rfl⟩
    have HE : Hd (doE σ a = WriteE σ a.f a.n a.s.data.toList ∧ doL σ a = []) := ⟨by unfold doE; rw [HPP.out]; rfl, by unfold doL; rw [HPP.out]; rfl⟩
    have HC := Hd.mk (Write_any w1 D σ O a.f a.n a.s HF.out HQ.out HOK.out.n.2 (Nat.le_trans HOK.out.s (by decide)) HR1.out)
    rw [HE.out.1, HE.out.2]
    go_enter Try.func23, Try.ntmps23
    go_wp2_with fail
    refine HP.out.mono ?_; rintro e w2 ⟨rfl, rfl⟩
    go_wp2_with fail
    refine HC.out.mono ?_
    rintro e w2 ⟨O', rfl, hr', hO', k'⟩
    have HX := Hd.mk (HFin.out hr' hO' k' HS.out)
    clear hr' k' hO'
    go_wp2
    go_ret2
    exact ⟨rfl, HX.out⟩
  · have HS : Hd (WriteS σ a.f a.n a.s.data.toList = doS σ a) := ⟨by unfold doS; rw [HPP.out]; rfl⟩
    have HE : Hd (doE σ a = WriteE σ a.f a.n a.s.data.toList ∧ doL σ a = []) := ⟨by unfold doE; rw [HPP.out]; rfl, by unfold doL; rw [HPP.out]; rfl⟩
    have HC := Hd.mk (Write_any w1 D σ O a.f a.n a.s HF.out HQ.out HOK.out.n.2 (Nat.le_trans HOK.out.s (by decide)) HR1.out)
    rw [HE.out.1, HE.out.2]
    go_enter Try.func23, Try.ntmps23
    go_wp2_with fail
    refine HP.out.mono ?_; rintro e w2 ⟨rfl, rfl⟩
    go_wp2_with fail
    refine HC.out.mono ?_
    rintro e w2 ⟨O', rfl, hr', hO', k'⟩
    have HX := Hd.mk (HFin.out hr' hO' k' HS.out)
    clear hr' k' hO'
    go_wp2
    go_ret2
    exact ⟨rfl, HX.out⟩
  · have HS : Hd (FlushS σ a.f = doS σ a) := ⟨by unfold doS; rw [HPP.out]; rfl⟩
    have HE : Hd (doE σ a = FlushE σ a.f ∧ doL σ a = []) := ⟨by unfold doE; rw [HPP.out]; rfl, by unfold doL; rw [HPP.out]; rfl⟩
    have HC := Hd.mk (flush_any w1 D σ O a.f HF.out HR1.out)
    rw [HE.out.1, HE.out.2]
    go_enter Try.func23, Try.ntmps23
    go_wp2_with fail
    refine HP.out.mono ?_; rintro e w2 ⟨rfl, rfl⟩
    go_wp2_with fail
    refine HC.out.mono ?_
    rintro e w2 ⟨O', rfl, hr', hO', k'⟩
    have HX := Hd.mk (HFin.out hr' (same_or_none hO') k' HS.out)
    clear hr' k' hO'
    go_wp2
    go_ret2
    exact ⟨rfl, HX.out⟩
  · have HS : Hd (CutS σ a.f a.n = doS σ a) := ⟨by unfold doS; rw [HPP.out]; rfl⟩
    have HE : Hd (doE σ a = CutE σ a.f a.n ∧ doL σ a = []) := ⟨by unfold doE; rw [HPP.out]; rfl, by unfold doL; rw [HPP.out]; rfl⟩
    have HC := Hd.mk (cut_any w1 D σ O a.f a.n HF.out HR1.out)
    rw [HE.out.1, HE.out.2]
    go_enter Try.func23, Try.ntmps23
    go_wp2_with fail
    refine HP.out.mono ?_; rintro e w2 ⟨rfl, rfl⟩
    go_wp2_with fail
    refine HC.out.mono ?_
    rintro e w2 ⟨O', rfl, hr', hO', k'⟩
    have HX := Hd.mk (HFin.out hr' (same_or_none hO') k' HS.out)
    clear hr' k' hO'
    go_wp2
    go_ret2
    exact ⟨rfl, HX.out⟩
  · have HS : Hd (TurnS σ a.f a.g = doS σ a) := ⟨by unfold doS; rw [HPP.out]; rfl⟩
    have HE : Hd (doE σ a = TurnE σ a.f a.g ∧ doL σ a = []) := ⟨by unfold doE; rw [HPP.out]; rfl, by unfold doL; rw [HPP.out]; rfl⟩
    have HC := Hd.mk (turn_any w1 D σ O a.f a.g HF.out HR1.out)
    rw [HE.out.1, HE.out.2]
    go_enter Try.func23, Try.ntmps23
    go_wp2_with fail
    refine HP.out.mono ?_; rintro e w2 ⟨rfl, rfl⟩
    go_wp2_with fail
    refine HC.out.mono ?_
    rintro e w2 ⟨O', rfl, hr', hO', k'⟩
    have HX := Hd.mk (HFin.out hr' (same_or_none hO') k' HS.out)
    clear hr' k' hO'
    go_wp2
    go_ret2
    exact ⟨rfl, HX.out⟩
  · have HS : Hd (crashS σ a.k = doS σ a) := ⟨by unfold doS; rw [HPP.out]; rfl⟩
    have HE : Hd (doE σ a = 0 ∧ doL σ a = []) := ⟨by unfold doE; rw [HPP.out]; rfl, by unfold doL; rw [HPP.out]; rfl⟩
    have HC := Hd.mk (crash_any w1 D σ O _ a.k (Nat.le_trans HK.out (by decide)) HF.out.q HV1.out HR1.out)
    rw [HE.out.1, HE.out.2]
    go_enter Try.func23, Try.ntmps23
    go_wp2_with fail
    refine HP.out.mono ?_; rintro e w2 ⟨rfl, rfl⟩
    go_wp2_with fail
    refine HC.out.mono ?_
    rintro e w2 ⟨rfl, O', hr', hO', k'⟩
    have HX := Hd.mk (HFin.out hr' (same_or_none hO') (k'.mono (fun _ _ e => .inl e)) HS.out)
    clear hr' k' hO'
    go_wp2
    go_ret2
    exact ⟨rfl, HX.out⟩
  · have HS : Hd (loseS σ a.n = doS σ a) := ⟨by unfold doS; rw [HPP.out]; rfl⟩
    have HE : Hd (doE σ a = 0 ∧ doL σ a = []) := ⟨by unfold doE; rw [HPP.out]; rfl, by unfold doL; rw [HPP.out]; rfl⟩
    have HC := Hd.mk (lose_any w1 D σ O a.n HOK.out.n.2 HR1.out)
    rw [HE.out.1, HE.out.2]
    go_enter Try.func23, Try.ntmps23
    go_wp2_with fail
    refine HP.out.mono ?_; rintro e w2 ⟨rfl, rfl⟩
    go_wp2_with fail
    refine HC.out.mono ?_
    rintro e w2 ⟨rfl, hr', k'⟩
    have HX := Hd.mk (HFin.out hr' (fun g h => .inl h) (k'.mono (fun _ _ e => .inl e)) HS.out)
    clear hr' k'
    go_wp2
    go_ret2
    exact ⟨rfl, HX.out⟩
  · have HS : Hd (startS σ = doS σ a) := ⟨by unfold doS; rw [HPP.out]; rfl⟩
    have HE : Hd (doE σ a = 0 ∧ doL σ a = []) := ⟨by unfold doE; rw [HPP.out]; rfl, by unfold doL; rw [HPP.out]; rfl⟩
    have HC := Hd.mk (start_any w1 D σ O HR1.out)
    rw [HE.out.1, HE.out.2]
    go_enter Try.func23, Try.ntmps23
    go_wp2_with fail
    refine HP.out.mono ?_; rintro e w2 ⟨rfl, rfl⟩
    go_wp2_with fail
    refine HC.out.mono ?_
    rintro e w2 ⟨rfl, hr', k'⟩
    have HX := Hd.mk (HFin.out hr' (fun g h => .inl h) (k'.mono (fun _ _ e => .inl e)) HS.out)
    clear hr' k'
    go_wp2
    go_ret2
    exact ⟨rfl, HX.out⟩
  · have HS : Hd (σ = doS σ a) := ⟨by unfold doS; rw [HPP.out]; rfl⟩
    have HE : Hd (doE σ a = mayS σ a.f ∧ doL σ a = readL σ a.f) := ⟨by unfold doE; rw [HPP.out]; rfl, by unfold doL; rw [HPP.out]; rfl⟩
    have HC := Hd.mk (read_any w1 D σ O a.f HR1.out)
    rw [HE.out.1, HE.out.2]
    rw [strV_def] at HC ⊢
    obtain ⟨rd, hrd⟩ : ∃ rd : ByteArray, (⟨(readL σ a.f).toArray⟩ : ByteArray) = rd := ⟨_, rfl⟩
    rw [hrd] at HC ⊢
    clear hrd
    go_enter Try.func23, Try.ntmps23
    go_wp2_with fail
    refine HP.out.mono ?_; rintro e w2 ⟨rfl, rfl⟩
    go_wp2_with fail
    refine HC.out.mono ?_
    rintro e w2 ⟨rfl, k'⟩
    have HX := Hd.mk (HFin.out (HR1.out.next k') (fun g h => .inl h) (k'.mono (fun _ _ e => e.elim)) HS.out)
    clear k'
    go_wp2
    go_ret2
    exact ⟨rfl, HX.out⟩
  · have HS : Hd (σ = doS σ a) := ⟨by unfold doS; rw [HPP.out]; rfl⟩
    have HE : Hd (doE σ a = 0 ∧ doL σ a = []) := ⟨by unfold doE; rw [HPP.out]; rfl, by unfold doL; rw [HPP.out]; rfl⟩
    rw [HE.out.1, HE.out.2]
    go_enter Try.func23, Try.ntmps23
    go_wp2_with fail
    refine HP.out.mono ?_; rintro e w2 ⟨rfl, rfl⟩
    have HX := Hd.mk (HFin.out HR1.out (fun g h => .inl h) (Keeps.refl _ _) HS.out)
    go_wp2
    go_ret2
    exact ⟨rfl, HX.out⟩
  · have HS : Hd (armS σ a.n a.k = doS σ a) := ⟨by unfold doS; rw [HPP.out]; rfl⟩
    have HE : Hd (doE σ a = 0 ∧ doL σ a = []) := ⟨by unfold doE; rw [HPP.out]; rfl, by unfold doL; rw [HPP.out]; rfl⟩
    have HC := Hd.mk (arm_any w1 D σ O a.n _ a.k HK.out (HV1.out.mono (fun g e => e.elim)) HR1.out)
    rw [HE.out.1, HE.out.2]
    go_enter Try.func23, Try.ntmps23
    go_wp2_with fail
    refine HP.out.mono ?_; rintro e w2 ⟨rfl, rfl⟩
    go_wp2_with fail
    refine HC.out.mono ?_
    rintro e w2 ⟨rfl, hr', k'⟩
    have HX := Hd.mk (HFin.out hr' (fun g h => .inl h) (k'.mono (fun _ _ e => .inl e)) HS.out)
    clear hr' k'
    go_wp2
    go_ret2
    exact ⟨rfl, HX.out⟩

end Go.Proofs.Ytcleocgaooblfaa.W
