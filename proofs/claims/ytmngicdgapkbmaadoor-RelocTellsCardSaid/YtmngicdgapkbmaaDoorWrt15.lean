/-
  The walk of reloc's Write.
-/
import Derived.Test.YtmngicdgapkbmaaDoorWr15
import Derived.Deep.Cut
namespace Go.Proofs.YtmngicdgapkbmaaDoor.W
open Go.RowKit
set_option linter.unusedVariables false

def wOut (s : ByteArray) (x k v : Int) : ByteArray := putS s (x + offI k) (sizeI k) v
def wOk (s : ByteArray) (x k v : Int) : Bool := putOk s (x + offI k) (sizeI k) v
def wPre (s : ByteArray) (x k v : Int) : Bool := fits15 k v && decide (0 ≤ x ∧ x ≤ s.size)
def wIns (s : ByteArray) (x k v : Int) : Bool := decB (wOut s x k v) x && (decide (8 ≤ (s.size : Int) - x) && decide (byteAt (wOut s x k v) x.toNat ∈ kOps k.toNat))
def write15 (s : ByteArray) (x k v : Int) : ByteArray × Bool :=
  if wPre s x k v then (if wOk s x k v && code15 k then (if wIns s x k v then (wOut s x k v, true) else (⟨#[]⟩, false)) else (wOut s x k v, wOk s x k v)) else (⟨#[]⟩, false)

theorem lt_of_cell15 {w : World} {a : Addr} {v : Value} (h : w.cell? a = some v) : a.block < w.heap.size := World.block_lt_of_cell? w a (by rw [h])
theorem kOff_le (n : Nat) (h : n < 13) : 0 ≤ kOff n ∧ kOff n ≤ 8 := by
  rcases (by omega : n = 0 ∨ n = 1 ∨ n = 2 ∨ n = 3 ∨ n = 4 ∨ n = 5 ∨ n = 6 ∨ n = 7 ∨ n = 8 ∨ n = 9 ∨ n = 10 ∨ n = 11 ∨ n = 12) with rfl | rfl | rfl | rfl | rfl | rfl | rfl | rfl | rfl | rfl | rfl | rfl | rfl <;> decide
theorem kOps_le (n : Nat) (h : n < 13) : (kOps n).length ≤ 1000 := by
  rcases (by omega : n = 0 ∨ n = 1 ∨ n = 2 ∨ n = 3 ∨ n = 4 ∨ n = 5 ∨ n = 6 ∨ n = 7 ∨ n = 8 ∨ n = 9 ∨ n = 10 ∨ n = 11 ∨ n = 12) with rfl | rfl | rfl | rfl | rfl | rfl | rfl | rfl | rfl | rfl | rfl | rfl | rfl <;> decide

theorem fits_isK {k v : Int} (h : fits15 k v = true) : isK k = true := by
  unfold fits15 at h
  split at h
  · rename_i h3; subst h3; rfl
  · split at h
    · rename_i h3; subst h3; rfl
    · simp only [Bool.and_eq_true] at h; exact h.1

theorem putS_size (s : ByteArray) (a k n : Int) : (putS s a k n).size = s.size ∨ (putS s a k n).size = 0 := by
  unfold putS
  split
  · left; show (putL s a.toNat k.toNat n).length = _; exact putL_len _ _ _ _
  · right; rfl

set_option maxHeartbeats 4000000 in
set_option maxRecDepth 100000 in
theorem write15_any (s : ByteArray) (x k v : Int) (w : World) (hs : s.size ≤ 1000) (hx : i64R x) (hv : i64R v) (hT : Tabs w) :
    Calls Tryd.prog 19 #[.string s, .int .i64 x, .int .i64 k, .int .i64 v] w fun e w' => e = .returned (.tuple #[.string (write15 s x k v).1, .bool (write15 s x k v).2]) ∧ Below w.heap.size w w' := by
  have HF := Hd.mk (fits15_any k v w hT hv)
  rcases hf : fits15 k v with _ | _
  · have e : Hd (write15 s x k v = (⟨#[]⟩, false)) := ⟨by unfold write15 wPre; rw [hf]; rfl⟩
    rw [e.out]
    rw [hf] at HF
    clear hT hx hs hf hv
    go_enter Tryd.func19, Tryd.ntmps19
    go_wp2_with fail
    refine HF.out.mono ?_; rintro e w1 ⟨rfl, rfl⟩
    go_wp2
    go_ret2
    exact ⟨rfl, Below.refl _ _⟩
  · have hk := fits_isK hf
    rw [hf] at HF
    by_cases hin : 0 ≤ x ∧ x ≤ s.size
    · obtain ⟨n, rfl, hn⟩ := isK_nat hk
      have hpre : Hd (write15 s x n v = if wOk s x n v && code15 n then (if wIns s x n v then (wOut s x n v, true) else (⟨#[]⟩, false)) else (wOut s x n v, wOk s x n v)) := ⟨by unfold write15 wPre; rw [hf, decide_eq_true hin]; rfl⟩
      obtain ⟨c0, c1, vo, c2, hO⟩ := hT.off n hn
      have i0 : (0 : Int) ≤ (n : Int) := by omega
      have i1 : (n : Int) < 13 := by omega
      have hoff := kOff_le n hn
      have ho : Hd (wOut s x n v = putS s (x + kOff n) (kSize n) v ∧ wOk s x n v = putOk s (x + kOff n) (kSize n) v) := ⟨by unfold wOut offI sizeI; rw [hk]; rfl, by unfold wOk offI sizeI; rw [hk]; rfl⟩
      have HSz : Hd ((wOut s x n v).size ≤ 1000) := ⟨by rw [ho.out.1]; rcases putS_size s (x + kOff n) (kSize n) v with h | h <;> omega⟩
      obtain ⟨a, ha⟩ : ∃ a, kOff n = a := ⟨_, rfl⟩
      obtain ⟨b, hb⟩ : ∃ b, kSize n = b := ⟨_, rfl⟩
      rw [ha] at c0 hoff ho
      rw [hb] at c1 ho
      have r1 : IntKind.i64.wrap (x + a) = x + a := IntWalk.i64_in _ (by omega)
      have HPut : ∀ w, Hd (Calls Tryd.prog 30 #[.string s, .int .i64 (x + a), .int .i64 b, .int .i64 v] w fun e w' => e = .returned (.tuple #[.string (wOut s x n v), .bool (wOk s x n v)]) ∧ Below w.heap.size w w') := fun w => ⟨by rw [ho.out.1, ho.out.2]; exact put_any s (x + a) b v w hs hv.1 hv.2⟩
      obtain ⟨out, hout⟩ : ∃ o, wOut s x n v = o := ⟨_, rfl⟩
      obtain ⟨ok, hok⟩ : ∃ o, wOk s x n v = o := ⟨_, rfl⟩
      rw [hout] at HSz hpre
      rw [hok] at hpre
      have HPu : ∀ w, Hd (Calls Tryd.prog 30 #[.string s, .int .i64 (x + a), .int .i64 b, .int .i64 v] w fun e w' => e = .returned (.tuple #[.string out, .bool ok]) ∧ Below w.heap.size w w') := fun w => ⟨hout ▸ hok ▸ (HPut w).out⟩
      have HWI : Hd (wIns s x n v = (decB out x && (decide (8 ≤ (s.size : Int) - x) && decide (byteAt out x.toNat ∈ kOps n)))) := ⟨by unfold wIns; rw [hout, Int.toNat_natCast]⟩
      have t1 : ¬ x < 0 := by omega
      have t2 : ¬ (s.size : Int) < x := by omega
      have hsz : (s.size : Int) ≤ 1000 := by omega
      have HT := Hd.mk hT
      have HX := Hd.mk hx
      have HN := Hd.mk hn
      have HC := Hd.mk (And.intro c0 c1)
      clear hT hx hs hk hin ha hb hoff hout hok hf hO c2 hn hv
      go_enter Tryd.func19, Tryd.ntmps19
      go_wp2_with fail
      refine HF.out.mono ?_; rintro e w1 ⟨rfl, rfl⟩
      go_wp2_with fail
      refine wp_region_lin default (fun w' => w'.cell? ⟨0, n * 3, none⟩ = some (.int .i64 a) ∧ w'.cell? ⟨0, n * 3 + 1, none⟩ = some (.int .i64 b)) [(0, true), (1, true), (2, true), (3, true), (4, true), (5, true), (6, true), (7, true), (8, true), (9, true), (10, true), (11, true), (12, false), (13, true), (14, true), (15, true), (16, true), (17, true)] (by kernel_rfl) (by kernel_rfl) rfl (by kernel_rfl) (by kernel_rfl) ⟨c0, c1⟩ ?_
      simp only [pick, List.getD_cons_zero, List.getD_cons_succ]
      repeat
        refine lin_free (v := ?_) (by rfl) ?_ ?_
        rotate_left
        · intro w' hSw
          obtain ⟨d0, d1⟩ := hSw
          go_simp
          first | done | with_reducible rfl
        simp only [Act.put, List.setIfInBounds_toArray, List.set_cons_zero, List.set_cons_succ]
      refine lin_bound (fun K hK => ?_)
      go_simp
      refine (HPu _).out.mono ?_
      rintro e w5 ⟨rfl, k5⟩
      dsimp only
      have K5 : Hd (Below w.heap.size w w5) := ⟨Below.chain ((Below.refl _ _).drew) k5⟩
      have HT5 := Hd.mk (HT.out.below K5.out)
      obtain ⟨g0, g1, vo5, g2, hO5⟩ := HT5.out.off n HN.out
      have HG := Hd.mk (And.intro g2 hO5)
      have HCa := Hd.mk (code_any (n : Int) w5 HT5.out)
      have HAB : Hd (w5.cell? ⟨0, n * 3, none⟩ = some (.int .i64 a) ∧ w5.cell? ⟨0, n * 3 + 1, none⟩ = some (.int .i64 b)) := ⟨by rw [K5.out.cell (p := ⟨0, n * 3, none⟩) (lt_of_cell15 c0)]; exact c0, by rw [K5.out.cell (p := ⟨0, n * 3 + 1, none⟩) (lt_of_cell15 c1)]; exact c1⟩
      refine hK.out _ _ HAB.out ?_
      clear hK K k5 g0 g1 g2 hO5 c0 c1
      repeat
        refine lin_free (v := ?_) (by rfl) ?_ ?_
        rotate_left
        · intro w' hSw
          obtain ⟨d0, d1⟩ := hSw
          go_simp
          first | done | with_reducible rfl
        simp only [Act.put, List.setIfInBounds_toArray, List.set_cons_zero, List.set_cons_succ]
      refine NoPanic.normal ?_
      rcases ok with _ | _
      · have e : Hd (write15 s x n v = (out, false)) := ⟨by rw [hpre.out]; rfl⟩
        go_wp2
        go_ret2
        rw [e.out]
        exact ⟨rfl, K5.out⟩
      · rcases hcd : code15 n with _ | _
        · have e : Hd (write15 s x n v = (out, true)) := ⟨by rw [hpre.out, hcd]; rfl⟩
          rw [hcd] at HCa
          clear hcd
          go_wp2_with fail
          refine HCa.out.mono ?_; rintro e w6 ⟨rfl, rfl⟩
          go_wp2
          go_ret2
          rw [e.out]
          exact ⟨rfl, K5.out⟩
        · have hp2 : Hd (write15 s x n v = if wIns s x n v then (out, true) else (⟨#[]⟩, false)) := ⟨by rw [hpre.out, hcd]; rfl⟩
          rw [hcd] at HCa
          clear hcd
          have HD := Hd.mk (decode_any out x w5 HSz.out HX.out HT5.out.f)
          go_wp2_with fail
          refine HCa.out.mono ?_; rintro e w6 ⟨rfl, rfl⟩
          go_wp2_with fail
          refine HD.out.mono ?_
          rintro e w6 ⟨rfl, k6⟩
          have HT6 := Hd.mk (HT5.out.below k6)
          have K6 := Hd.mk (Below.chain K5.out k6)
          clear k6
          unfold decV
          rcases hdb : decB out x with _ | _
          · have e : Hd (write15 s x n v = (⟨#[]⟩, false)) := ⟨by rw [hp2.out, HWI.out, hdb]; rfl⟩
            clear hdb
            go_wp2
            go_quiet (fail)
            go_wp2
            go_ret2
            rw [e.out]
            exact ⟨rfl, (K6.out.alloc K6.out.size _).trans ⟨rfl, rfl, rfl, Nat.le_refl _, fun _ _ => rfl⟩⟩
          · have HDB := Hd.mk hdb
            clear hdb
            obtain ⟨y0, hy0⟩ : ∃ y, byteAt out x.toNat = y := ⟨_, rfl⟩
            rw [hy0] at HWI
            have HY := Hd.mk hy0
            simp only [if_true]
            rw [hy0]
            obtain ⟨y1, hy1⟩ : ∃ y, byteAt out (x.toNat + 1) = y := ⟨_, rfl⟩
            obtain ⟨y2, hy2⟩ : ∃ y, byteAt out (x.toNat + 2) = y := ⟨_, rfl⟩
            obtain ⟨y3, hy3⟩ : ∃ y, byteAt out (x.toNat + 3) = y := ⟨_, rfl⟩
            obtain ⟨y4, hy4⟩ : ∃ y, immAt out x.toNat = y := ⟨_, rfl⟩
            rw [hy1, hy2, hy3, hy4]
            clear hy0 hy1 hy2 hy3 hy4
            have hTW := HT6.out.alloc (.cells #[.int .i64 y0, .int .i64 y1, .int .i64 y2, .int .i64 y3, .int .i64 y4] 38)
            obtain ⟨_, _, vo6, g2, hO6⟩ := hTW.off n HN.out
            have HSC : ∀ q, Hd (Calls Tryd.prog 31 #[vo6, .int .i64 y0] ((w6.alloc (.cells #[.int .i64 y0, .int .i64 y1, .int .i64 y2, .int .i64 y3, .int .i64 y4] 38)).drewN q) fun e w' => e = .returned (.bool (decide (y0 ∈ kOps n))) ∧ w' = (w6.alloc (.cells #[.int .i64 y0, .int .i64 y1, .int .i64 y2, .int .i64 y3, .int .i64 y4] 38)).drewN q) := fun q =>
              ⟨(scontains_any ((w6.alloc (.cells #[.int .i64 y0, .int .i64 y1, .int .i64 y2, .int .i64 y3, .int .i64 y4] 38)).drewN q) vo6 (kOps n) y0 (kOps_le n HN.out) (hO6.below (w := ((w6.alloc (.cells #[.int .i64 y0, .int .i64 y1, .int .i64 y2, .int .i64 y3, .int .i64 y4] 38)).drewN q)) ⟨rfl, rfl, rfl, Nat.le_refl _, fun _ _ => rfl⟩)).mono fun e w' h => ⟨h.1, h.2.symm⟩⟩
            have r2 : IntKind.i64.wrap ((s.size : Int) - x) = (s.size : Int) - x := IntWalk.i64_in _ (by have := HX.out; unfold i64R at this; omega)
            obtain ⟨mem, hmem⟩ : ∃ b, decide (y0 ∈ kOps n) = b := ⟨_, rfl⟩
            have HFin : Hd (wIns s x n v = (decide (8 ≤ (s.size : Int) - x) && mem)) := ⟨by rw [HWI.out, HDB.out, hmem]; rfl⟩
            rw [hmem] at HSC
            clear hmem hTW hO6
            by_cases h8 : 8 ≤ (s.size : Int) - x
            · have h8' : ¬ (s.size : Int) - x < 8 := by omega
              have HP := Hd.mk h8
              clear h8
              have d8 : decide ((s.size : Int) - x < 8) = false := by simp [h8']
              rcases mem with _ | _
              · have e : Hd (write15 s x n v = (⟨#[]⟩, false)) := ⟨by rw [hp2.out, HFin.out]; simp⟩
                go_wp2
                go_quiet ((go_at_call 31; exact Calls.quiet_of_same ((HSC _).out)))
                go_wp2
                go_ret2
                rw [e.out]
                exact ⟨rfl, (K6.out.alloc K6.out.size _).trans ⟨rfl, rfl, rfl, Nat.le_refl _, fun _ _ => rfl⟩⟩
              · have e : Hd (write15 s x n v = (out, true)) := ⟨by rw [hp2.out, HFin.out, decide_eq_true HP.out]; rfl⟩
                go_wp2
                go_quiet ((go_at_call 31; exact Calls.quiet_of_same ((HSC _).out)))
                go_wp2
                go_ret2
                rw [e.out]
                exact ⟨rfl, (K6.out.alloc K6.out.size _).trans ⟨rfl, rfl, rfl, Nat.le_refl _, fun _ _ => rfl⟩⟩
            · have h8' : (s.size : Int) - x < 8 := by omega
              have d8 : decide ((s.size : Int) - x < 8) = true := by simp [h8']
              have e : Hd (write15 s x n v = (⟨#[]⟩, false)) := ⟨by rw [hp2.out, HFin.out, decide_eq_false h8]; rfl⟩
              clear h8
              go_wp2
              go_quiet (fail)
              go_wp2
              go_ret2
              rw [e.out]
              exact ⟨rfl, (K6.out.alloc K6.out.size _).trans ⟨rfl, rfl, rfl, Nat.le_refl _, fun _ _ => rfl⟩⟩
    · have e : Hd (write15 s x k v = (⟨#[]⟩, false)) := ⟨by unfold write15 wPre; rw [hf, decide_eq_false hin]; rfl⟩
      rw [e.out]
      have hor : x < 0 ∨ (¬ x < 0 ∧ (s.size : Int) < x) := by omega
      have hsz : (s.size : Int) ≤ 1000 := by omega
      clear hT hx hs hf hv hin hk
      rcases hor with h | ⟨h, h'⟩
      all_goals
        go_enter Tryd.func19, Tryd.ntmps19
        go_wp2_with fail
        refine HF.out.mono ?_; rintro e w1 ⟨rfl, rfl⟩
        go_wp2
        go_ret2
        exact ⟨rfl, Below.refl _ _⟩

end Go.Proofs.YtmngicdgapkbmaaDoor.W
