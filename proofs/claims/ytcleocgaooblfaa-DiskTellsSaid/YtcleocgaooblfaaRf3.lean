/-
  DiskTells: the walks of the reference's read, Size, Read, without, after.
-/
import Derived.Test.YtcleocgaooblfaaRf2
import Derived.BigQuiet
import Derived.Deep.QuietTactic
namespace Go.Proofs.Ytcleocgaooblfaa.W
open Go.RowKit
set_option linter.unusedVariables false

theorem bytesOf (l : List UInt8) : ∃ s : ByteArray, l = s.data.toList := ⟨⟨l.toArray⟩, rfl⟩
theorem last_cell {w : World} {B : Nat} {lv : Value} {σ : St} (h : Own w B 9 lv (σ.lasts.map strV)) (ok : Ok σ) {f : Nat} (hf : f < 8) : ∃ g c, lv = .slice (some ⟨g, 0, none⟩) 8 c ∧ w.cell? ⟨g, f, none⟩ = some (strV (σ.lasts.getD f [])) ∧ w.frozen? ⟨g, f, none⟩ = false := by
  obtain ⟨g, c, e⟩ := h.slice (by rw [List.length_map, ok.l8]; decide)
  rw [List.length_map, ok.l8] at e
  subst e
  obtain ⟨h1, h2⟩ := h.at (j := f) (u := strV (σ.lasts.getD f [])) (by rw [List.getElem?_map, List.getElem?_eq_getElem (by rw [ok.l8]; exact hf), List.getD_eq_getElem?_getD, List.getElem?_eq_getElem (by rw [ok.l8]; exact hf)]; rfl)
  exact ⟨g, c, rfl, h1, h2⟩

set_option maxHeartbeats 4000000 in
set_option maxRecDepth 100000 in
theorem rread_file (w : World) (B E : Nat) (σ : St) (f : Nat) (hf : f < 8) (hlen : σ.queue.length ≤ 1000000000) (h : RRep w B E σ) : Calls Try.prog 54 #[.pointer (some ⟨E, 0, none⟩), .int .i64 f] w fun e w' => e = .returned (strV (σ.files.getD f [])) ∧ Keeps (fun _ => False) w w' := by
  have HR := Hd.mk h
  have hok := h.ok
  have hres := h.rd.eq f hf
  obtain ⟨lv, qv, kv, hc⟩ := h.cells
  obtain ⟨gl, cl, rfl, hl1, hl2⟩ := last_cell hc.l h.ok hf
  obtain ⟨pq, cq, rfl⟩ := hc.q.slice
  have b0 := hc.b.at (j := 0) rfl
  have b1 := hc.b.at (j := 1) rfl
  obtain ⟨s0, hs0⟩ := bytesOf (σ.lasts.getD f [])
  rw [hs0] at hl1
  rw [strV_of] at hl1
  obtain ⟨N, hN⟩ : ∃ N, σ.queue.length = N := ⟨_, rfl⟩
  have HC := Hd.mk hc
  rw [hN] at b1 hlen
  have HN := Hd.mk hN
  have HOK := Hd.mk hok
  have HL0 := Hd.mk hs0
  have HRes := Hd.mk hres
  have f0 : (0 : Int) ≤ (f : Int) := by omega
  have f8 : (f : Int) < 8 := by omega
  have HP : Hd (PRow w B (.slice pq N cq) σ.queue) := ⟨by have := hc.q; rwa [hN] at this⟩
  have HB := Hd.mk (And.intro b0 b1)
  clear h hc hN hs0 hok hres
  go_enter Try.func54, Try.ntmps54
  go_wp2
  go_loopw [5, 6] (fun v i wr => ∃ (k : Nat) (x : ByteArray), k ≤ N ∧ i = .int .i64 k ∧ v = .string x ∧ Hd (x.data.toList = rdL f (σ.queue.take k) (σ.lasts.getD f [])) ∧ Hd (Keeps (fun _ => False) w wr)) (fun _ i _ => N - (intOf i).toNat)
  case atStart => exact ⟨0, s0, Nat.zero_le _, rfl, rfl, ⟨HL0.out.symm⟩, ⟨Keeps.refl _ _⟩⟩
  case round =>
    obtain ⟨k, x, hk, rfl, rfl, HX, HK⟩ := hrel
    clear b0 b1 hl1 hl2
    have hbE := HK.out.blk HC.out.b (fun h => h)
    have b1 : wr.cell? ⟨E, 1, none⟩ = some (.slice pq N cq) := by have := hbE.at (j := 1) rfl; rwa [HN.out] at this
    have hq' := HP.out.keeps HK.out (fun _ _ _ _ h => h)
    by_cases hlt : k < N
    · have hd1 : decide ((k : Int) < (N : Int)) = true := by simp; omega
      have hkl : k < σ.queue.length := HN.out ▸ hlt
      obtain ⟨g, rfl, c0, c1, c2⟩ := hq'.at rfl hkl
      have hpo := HOK.out.q _ (List.getElem_mem hkl)
      have htk := rdL_take f σ.queue k hkl (σ.lasts.getD f [])
      have hxl : x.size ≤ 16777216 := by
        show x.data.toList.length ≤ _
        rw [HX.out]
        exact rdL_le _ _ (getD_le HOK.out.ll f) (fun p hp => (HOK.out.q p (List.mem_of_mem_take hp)).2.1)
      obtain ⟨p, hp⟩ : ∃ p, σ.queue[k] = p := ⟨_, rfl⟩
      rw [hp] at c0 c1 c2 hpo htk
      obtain ⟨ps, hps⟩ := bytesOf p.s
      rw [hps, strV_of] at c2
      have HPut := fun w => Hd.mk (rput_any x p.at_ ps w hxl (by show p.at_ + ps.data.toList.length ≤ _; rw [← hps]; exact hpo.2.1))
      rw [hps] at htk
      obtain ⟨y, hy⟩ := bytesOf (putL x.data.toList p.at_ ps.data.toList)
      rw [hy, strV_of] at HPut
      have HT := Hd.mk htk
      have HY := Hd.mk hy
      clear hpo htk hps hp hq' hy hxl
      by_cases he : p.f = f
      · have e1 : ((p.f : Int) == (f : Int)) = true := by simp [he]
        have HX2 : Hd (y.data.toList = rdL f (σ.queue.take (k + 1)) (σ.lasts.getD f [])) := ⟨by rw [HT.out, if_pos he, ← HX.out]; exact HY.out.symm⟩
        clear he
        go_wp2_with fail
        refine wp_region_lin default (fun w' => w'.cell? ⟨E, 1, none⟩ = some (.slice (some ⟨g, 0, none⟩) N cq) ∧ w'.cell? ⟨g, k * 3 + 1, none⟩ = some (.int .i64 p.at_) ∧ w'.cell? ⟨g, k * 3 + 2, none⟩ = some (.string ps)) [(0, true), (1, true), (2, true), (3, true), (4, true), (5, true), (6, true), (7, true), (8, true), (9, true), (10, true), (11, true), (12, true), (13, true), (14, true), (15, true), (16, true), (17, false), (18, true)] (by kernel_rfl) (by kernel_rfl) rfl (by kernel_rfl) (by kernel_rfl) ⟨b1, c1, c2⟩ ?_
        simp only [pick, List.getD_cons_zero, List.getD_cons_succ]
        repeat
          refine lin_free (v := ?_) (by rfl) ?_ ?_
          rotate_left
          · intro w' hSw
            obtain ⟨d0, d1, d2⟩ := hSw
            go_simp
            first | done | with_reducible rfl
          simp only [Act.put, List.setIfInBounds_toArray, List.set_cons_zero, List.set_cons_succ]
        refine lin_bound (fun K hK => ?_)
        go_simp
        refine (HPut _).out.mono ?_
        rintro e w5 ⟨rfl, k5⟩
        dsimp only
        have HK5 : Hd (Keeps (fun _ => False) wr w5) := ⟨(Keeps.refl _ wr).drew.trans k5⟩
        have hcell : ∀ {a u}, wr.cell? a = some u → w5.cell? a = some u := fun {a u} h => by
          rw [World.cell?_of_block (HK5.out.block a.block (lt_of_cell h) (fun h => h))]; exact h
        refine hK.out _ _ ⟨hcell b1, hcell c1, hcell c2⟩ ?_
        clear hK K k5
        refine lin_free (v := ?_) (by rfl) ?_ ?_
        rotate_left
        · intro w' hSw
          go_simp
          first | done | with_reducible rfl
        simp only [Act.put, List.setIfInBounds_toArray, List.set_cons_zero, List.set_cons_succ]
        refine NoPanic.normal ?_
        have HK6 : Hd (Keeps (fun _ => False) w w5) := ⟨HK.out.trans HK5.out⟩
        clear hcell
        go_wp2
        go_roundw
        case rel => exact ⟨k + 1, y, hlt, by go_num, rfl, HX2, HK6⟩
        case measure => simp [intOf]; omega
      · have e1 : ((p.f : Int) == (f : Int)) = false := by simp; omega
        have HX2 : Hd (x.data.toList = rdL f (σ.queue.take (k + 1)) (σ.lasts.getD f [])) := ⟨by rw [HT.out, if_neg he]; exact HX.out⟩
        clear he
        go_wp2
        go_roundw
        case rel => exact ⟨k + 1, x, hlt, by go_num, rfl, HX2, HK⟩
        case measure => simp [intOf]; omega
    · have hd1 : decide ((k : Int) < (N : Int)) = false := by simp; omega
      obtain rfl : k = N := by omega
      have HRet : Hd (strV (σ.files.getD f []) = .string x) := ⟨by
        rw [HRes.out]; unfold rdS
        have : σ.queue.take k = σ.queue := by rw [← HN.out]; exact List.take_length
        rw [← strV_of, HX.out, this]⟩
      clear hk hlt
      go_wp2
      go_ret
      exact ⟨by rw [HRet.out]; rfl, HK.out⟩

theorem rread_any (w : World) (B E : Nat) (σ : St) (f : Int) (hlen : σ.queue.length ≤ 1000000000) (h : RRep w B E σ) : Calls Try.prog 35 #[.pointer (some ⟨E, 0, none⟩), .int .i64 f] w fun e w' => e = .returned (.tuple #[strV (readL σ f), .int .i64 (mayS σ f : Nat)]) ∧ Keeps (fun _ => False) w w' := by
  have HM := Hd.mk (rmay_any w B E σ f h)
  by_cases hm : mayS σ f = 0
  · obtain ⟨_, m0, m8⟩ := may_zero hm
    obtain ⟨F, rfl⟩ := Int.eq_ofNat_of_zero_le m0
    have HF := Hd.mk (rread_file w B E σ F (by omega) hlen h)
    have e : Hd (readL σ (F : Int) = σ.files.getD F []) := ⟨by unfold readL; rw [if_pos hm]; rfl⟩
    rw [e.out, hm]
    rw [hm] at HM
    obtain ⟨x, hx⟩ := bytesOf (σ.files.getD F [])
    rw [hx, strV_of] at HF ⊢
    clear h hm m0 m8 hx e
    go_enter Try.func35, Try.ntmps35
    go_wp2_with fail
    refine HM.out.mono ?_; rintro e w1 ⟨rfl, rfl⟩
    go_wp2_with fail
    refine HF.out.mono ?_; rintro e w1 ⟨rfl, k1⟩
    have K1 := Hd.mk k1; clear k1
    go_wp2
    go_ret2
    exact ⟨rfl, K1.out⟩
  · have e : Hd (readL σ f = []) := ⟨by unfold readL; rw [if_neg hm]⟩
    rw [e.out]
    obtain ⟨m, hmm⟩ : ∃ m, mayS σ f = m := ⟨_, rfl⟩
    rw [hmm] at HM hm ⊢
    have m1 : ((m : Int) != 0) = true := by simp; omega
    clear h hmm hm e
    go_enter Try.func35, Try.ntmps35
    go_wp2_with fail
    refine HM.out.mono ?_; rintro e w1 ⟨rfl, rfl⟩
    go_wp2
    go_ret2
    exact ⟨rfl, Keeps.refl _ _⟩

theorem rsize_any (w : World) (B E : Nat) (σ : St) (f : Int) (hlen : σ.queue.length ≤ 1000000000) (h : RRep w B E σ) : Calls Try.prog 33 #[.pointer (some ⟨E, 0, none⟩), .int .i64 f] w fun e w' => e = .returned (.int .i64 (sizeS σ f : Nat)) ∧ Keeps (fun _ => False) w w' := by
  by_cases f0 : f < 0
  · have e : Hd (sizeS σ f = 0) := ⟨by unfold sizeS; rw [show isF f = false by unfold isF; exact decide_eq_false (by omega)]; rfl⟩
    rw [e.out]
    clear h
    go_enter Try.func33, Try.ntmps33
    go_wp2
    go_ret
    exact ⟨rfl, Keeps.refl _ _⟩
  · by_cases f7 : 7 < f
    · have e : Hd (sizeS σ f = 0) := ⟨by unfold sizeS; rw [show isF f = false by unfold isF; exact decide_eq_false (by omega)]; rfl⟩
      rw [e.out]
      clear h
      go_enter Try.func33, Try.ntmps33
      go_wp2
      go_ret
      exact ⟨rfl, Keeps.refl _ _⟩
    · obtain ⟨F, rfl⟩ := Int.eq_ofNat_of_zero_le (by omega : 0 ≤ f)
      have HF := Hd.mk (rread_file w B E σ F (by omega) hlen h)
      have e : Hd (sizeS σ (F : Int) = (σ.files.getD F []).length) := ⟨by unfold sizeS; rw [show isF (F : Int) = true by unfold isF; exact decide_eq_true (by omega)]; rfl⟩
      rw [e.out]
      obtain ⟨x, hx⟩ := bytesOf (σ.files.getD F [])
      rw [hx, strV_of] at HF
      rw [hx]
      have f0' : ¬ (F : Int) < 0 := f0
      have f7' : decide ((7 : Int) < (F : Int)) = false := by simp; omega
      clear h hx e
      go_enter Try.func33, Try.ntmps33
      go_wp2_with fail
      refine HF.out.mono ?_; rintro e w1 ⟨rfl, k1⟩
      have K1 := Hd.mk k1; clear k1
      go_wp2
      go_ret
      exact ⟨rfl, K1.out⟩

end Go.Proofs.Ytcleocgaooblfaa.W
