/-
  The walks of the reference's uses, system, Uses.
-/
import Derived.Test.YtlohhlbbkliehaaGreatDoorPu9
import Derived.Test.YtlohhlbbkliehaaGreatDoorOrdT
import Derived.RegionTactic
import Derived.ChangeAlike
namespace Go.Proofs.YtlohhlbbkliehaaGreatDoor.W
open Go.RowKit
set_option linter.unusedVariables false

def useL (l : List Int) (n : Nat) : List Int := ((List.range n).filter fun (r : Nat) => decide ((r : Int) ∈ l)).map fun (r : Nat) => (r : Int)
theorem useL_succ (l : List Int) (n : Nat) : useL l (n + 1) = useL l n ++ (if decide ((n : Int) ∈ l) then [(n : Int)] else []) := by
  unfold useL
  rw [List.range_succ, List.filter_append, List.map_append]
  congr 1
  by_cases h : (n : Int) ∈ l <;> simp [h]
theorem useL_len (l : List Int) (n : Nat) : (useL l n).length ≤ n := by
  unfold useL
  rw [List.length_map]
  refine Nat.le_trans (List.length_filter_le _ _) ?_
  simp
theorem useL_sorted (l : List Int) (n : Nat) : (useL l n).Pairwise (· < ·) ∧ ∀ z, z ∈ useL l n ↔ ∃ r : Nat, r < n ∧ (r : Int) ∈ l ∧ (r : Int) = z := by
  unfold useL
  constructor
  · rw [List.pairwise_map]
    exact (List.Pairwise.filter _ (List.pairwise_lt_range (n := n))).imp (fun h => by omega)
  · intro z
    rw [List.mem_map]
    constructor
    · rintro ⟨r, hr, rfl⟩
      obtain ⟨h1, h2⟩ := List.mem_filter.1 hr
      exact ⟨r, List.mem_range.1 h1, by simpa using h2, rfl⟩
    · rintro ⟨r, h1, h2, rfl⟩
      exact ⟨r, List.mem_filter.2 ⟨List.mem_range.2 h1, by simpa using h2⟩, rfl⟩
/-- the registers of letters, by the reference's way -/
theorem use_regs {a b c m : Int} {L : List UInt8} {l : List Int} (hm : ∀ z, z ∈ l ↔ ∃ ch ∈ L, regN a b c m ch = z) (hr : ∀ z ∈ l, 0 ≤ z ∧ z ≤ 15) : useL l 16 = regsL a b c m L := by
  obtain ⟨h1, h2⟩ := useL_sorted l 16
  obtain ⟨g1, g2⟩ := regs_sorted a b c m L
  refine sorted_ext _ _ h1 g1 (fun z => ?_)
  rw [h2, g2, ← hm]
  constructor
  · rintro ⟨r, _, h, rfl⟩; exact h
  · intro h
    have := hr z h
    exact ⟨z.toNat, by omega, by rw [show ((z.toNat : Nat) : Int) = z by omega]; exact h, by omega⟩

set_option maxHeartbeats 4000000 in
set_option maxRecDepth 100000 in
theorem ruses_any (w : World) (v : Value) (l : List Int) (hl : l.length ≤ 100) (h : OpsAt w v l) :
    Calls Tryz.prog 48 #[v] w fun e w' => ∃ v', e = .returned v' ∧ Rw 1 intE w' v' (useL l 16) ∧ Below w.heap.size w w' := by
  obtain ⟨i0, hi, hz0, hz1, hz2⟩ := info_parts infoInt9
  have HI : Hd (_ ∧ _ ∧ _ ∧ _) := ⟨⟨hi, hz0, hz1, hz2⟩⟩
  clear hi hz0 hz1 hz2
  obtain ⟨p, c, rfl⟩ : ∃ p c, v = .slice p l.length c := by
    rcases h.is with ⟨rfl, rfl⟩ | ⟨_, g, o, cap, rfl, _⟩
    · exact ⟨none, 0, rfl⟩
    · exact ⟨_, cap, rfl⟩
  have HL := Hd.mk h
  have HLN : Hd (l.length ≤ 1000) := ⟨by omega⟩
  have HH := Hd.mk (fun w' x h' => rhas_any w' (.slice p l.length c) l x HLN.out h')
  clear h hl
  obtain ⟨n, hn⟩ : ∃ n, l.length = n := ⟨_, rfl⟩
  rw [hn] at HL HH
  rw [hn]
  clear hn
  go_enter Tryz.func48, Tryz.ntmps48
  go_wp2
  go_loopw [3, 4] (fun v i wr => ∃ r : Nat, r ≤ 16 ∧ i = .int .i64 r ∧ Hd (Own wr w.heap.size 3 v ((useL l r).map (Value.int .i64)) ∧ Keeps (fun _ => False) w wr)) (fun _ i _ => 16 - (intOf i).toNat)
  case atStart => exact ⟨0, Nat.zero_le _, rfl, ⟨Own.nil _ _ _, Keeps.refl _ _⟩⟩
  case round =>
    obtain ⟨r, hr, rfl, HO⟩ := hrel
    by_cases hlt : r < 16
    · have hd1 : decide ((r : Int) < 16) = true := by simp; omega
      have hO := HL.out.below (HO.out.2.below (Nat.le_refl _) (fun _ _ h => h))
      have HC := Hd.mk (HH.out wr (r : Int) hO)
      have hsc := useL_succ l r
      have hlen := useL_len l r
      obtain ⟨b, hb⟩ : ∃ b, decide ((r : Int) ∈ l) = b := ⟨_, rfl⟩
      rw [hb] at HC hsc
      clear hb hO
      rcases b with _ | _
      · have HQ : Hd (Own wr w.heap.size 3 u3 ((useL l (r + 1)).map (Value.int .i64)) ∧ Keeps (fun _ => False) w wr) := ⟨by rw [hsc, if_neg (by decide), List.append_nil]; exact HO.out.1, HO.out.2⟩
        clear hsc hlen HO
        go_wp2_with fail
        refine HC.out.mono ?_
        rintro e wx ⟨rfl, rfl⟩
        go_wp2
        go_roundw
        case rel => exact ⟨r + 1, hlt, by go_num, HQ⟩
        case measure => simp [intOf]; omega
      · have HU : Hd ((useL l (r + 1)).map (Value.int .i64) = (useL l r).map (Value.int .i64) ++ [.int .i64 (r : Int)]) := ⟨by rw [hsc, if_pos rfl, List.map_append]; rfl⟩
        have hl1 : ((useL l r).map (Value.int .i64)).length + 1 ≤ maxLen := by rw [List.length_map]; unfold maxLen; omega
        have hl2 : (((useL l r).map (Value.int .i64)).length + 1) * 8 ≤ 140737488355328 := by rw [List.length_map]; omega
        obtain ⟨p7, c7, hv7⟩ := HO.out.1.slice'
        obtain ⟨N7, hN7⟩ : ∃ N, ((useL l r).map (Value.int .i64)).length = N := ⟨_, rfl⟩
        have HL1 := Hd.mk hl1
        have HL2 := Hd.mk hl2
        rw [hN7] at hv7
        subst hv7
        clear hsc hlen hl1 hl2 hN7
        go_wp2_with fail
        refine HC.out.mono ?_
        rintro e wx ⟨rfl, rfl⟩
        go_wp2_with (at_builtin; refine wp_app1 rfl _ _ 34 rfl 3 Tryz.underlying34 HI.out.1 HI.out.2.1 HI.out.2.2.1 HI.out.2.2.2 rfl (.slice p7 N7 c7) _ _ wr rfl HO.out.1 rfl rfl HL1.out HL2.out HO.out.2.size ?_)
        intro v' w' h1 h2 h3
        have HQ : Hd (Own w' w.heap.size 3 v' ((useL l (r + 1)).map (Value.int .i64)) ∧ Keeps (fun _ => False) w w') := ⟨by rw [HU.out]; exact h1, ⟨h2.os.trans HO.out.2.os, h2.tape.trans HO.out.2.tape, h2.output.trans HO.out.2.output, Nat.le_trans HO.out.2.size h2.size, fun i hi hn => by
          rw [h2.block i (Nat.lt_of_lt_of_le hi HO.out.2.size) (fun e => by have := (HO.out.1.lt e).1; omega)]
          exact HO.out.2.block i hi hn⟩⟩
        clear h1 h2 h3 HC HO
        go_wp2
        go_roundw
        case rel => exact ⟨r + 1, hlt, by go_num, HQ⟩
        case measure => simp [intOf]; omega
    · have hd1 : decide ((r : Int) < 16) = false := by simp; omega
      obtain rfl : r = 16 := by omega
      have HR : Hd (Rw 1 intE wr u3 (useL l 16)) := ⟨Rw.of_own HO.out.1 (by rw [List.length_map]) (fun j z u hz hu => by
        rw [List.getElem?_map, hz] at hu
        cases hu; rfl)⟩
      have HB : Hd (Below w.heap.size w wr) := ⟨HO.out.2.below (Nat.le_refl _) (fun _ _ h => h)⟩
      clear HO
      obtain ⟨p7, c7, hv7⟩ := HR.out.slice
      obtain ⟨N7, hN7⟩ : ∃ N, (useL l 16).length = N := ⟨_, rfl⟩
      rw [hN7] at hv7
      subst hv7
      clear hN7
      go_wp2
      go_ret
      exact ⟨_, rfl, HR.out, HB.out⟩

/-! ### system -/
theorem rw1 {w : World} {g c : Nat} {T : TypeId} {x : Int} (hb : Blk w g T [.int .i64 x]) : Rw 1 intE w (.slice (some ⟨g, 0, none⟩) 1 c) [x] := Rw.ints (ks := [x]) hb
theorem rw2 {w : World} {g c : Nat} {T : TypeId} {x y : Int} (hb : Blk w g T [.int .i64 x, .int .i64 y]) : Rw 1 intE w (.slice (some ⟨g, 0, none⟩) 2 c) [x, y] := Rw.ints (ks := [x, y]) hb
theorem rw3 {w : World} {g c : Nat} {T : TypeId} {x y z : Int} (hb : Blk w g T [.int .i64 x, .int .i64 y, .int .i64 z]) : Rw 1 intE w (.slice (some ⟨g, 0, none⟩) 3 c) [x, y, z] := Rw.ints (ks := [x, y, z]) hb
theorem blk_second (w : World) (o : Obj) (T : TypeId) (vs : List Value) : Blk ((w.alloc o).alloc (.cells vs.toArray T)) (w.heap.size + 1) T vs := by
  have := Blk.new (w.alloc o) T vs
  rw [show (w.alloc o).heap.size = w.heap.size + 1 from by simp] at this
  exact this

set_option maxHeartbeats 4000000 in
set_option maxRecDepth 100000 in
theorem rsystem_any (m : Int) (w : World) (hm : 0 ≤ m ∧ m < 8) :
    Calls Tryz.prog 49 #[.int .i64 m] w fun e w' => ∃ v1 v2, e = .returned (.tuple #[v1, v2]) ∧ Rw 1 intE w' v1 ([0, 1, 2].take (sysR m)) ∧ Rw 1 intE w' v2 ([0].take (sysW m)) ∧ Below w.heap.size w w' := by
  rcases (by omega : m = 0 ∨ m = 1 ∨ m = 2 ∨ m = 3 ∨ m = 4 ∨ m = 5 ∨ m = 6 ∨ m = 7) with rfl | rfl | rfl | rfl | rfl | rfl | rfl | rfl
  all_goals
    clear hm
    go_enter Tryz.func49, Tryz.ntmps49
    go_wp2
    go_ret2
    refine ⟨_, _, rfl, ?_, ?_, by go_grown⟩
  · exact Rw.nil _
  · exact Rw.nil _
  · exact rw1 (Blk.new w _ [.int .i64 0])
  · exact Rw.nil _
  · exact rw1 ((Blk.new w _ [.int .i64 0]).alloc _)
  · exact rw1 (blk_second w _ _ [.int .i64 0])
  · exact rw2 ((Blk.new w _ [.int .i64 0, .int .i64 1]).alloc _)
  · exact rw1 (blk_second w _ _ [.int .i64 0])
  · exact Rw.nil _
  · exact Rw.nil _
  · exact rw3 ((Blk.new w _ [.int .i64 0, .int .i64 1, .int .i64 2]).alloc _)
  · exact rw1 (blk_second w _ _ [.int .i64 0])
  · exact rw1 ((Blk.new w _ [.int .i64 0]).alloc _)
  · exact rw1 (blk_second w _ _ [.int .i64 0])
  · exact rw3 ((Blk.new w _ [.int .i64 0, .int .i64 1, .int .i64 2]).alloc _)
  · exact rw1 (blk_second w _ _ [.int .i64 0])

end Go.Proofs.YtlohhlbbkliehaaGreatDoor.W
