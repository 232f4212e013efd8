/-
  The walk of the permutation.
-/
import Derived.Test.YtimbhnnidohmaaaDoorRot
import Derived.Deep.LoopGhost
import Derived.Deep.QuietTactic
import Derived.BigQuiet
namespace Go.Proofs.YtimbhnnidohmaaaDoor.W
open Go.RowKit
set_option linter.unusedVariables false

def constV : List Value := lanes constL
def turnV : List Value := turnL.map fun (x : Nat) => Value.int .i64 (x : Int)

/-- the two tables lie where the program has laid them -/
structure Tabs (w : World) : Prop where
  c : ∃ t f, w.heap[0]? = some (.cells constV.toArray t f)
  t : ∃ t f, w.heap[1]? = some (.cells turnV.toArray t f)

theorem Tabs.lt {w : World} (h : Tabs w) : 1 < w.heap.size := by
  obtain ⟨_, t, f, h⟩ := h
  rcases Nat.lt_or_ge 1 w.heap.size with h' | h'
  · exact h'
  · rw [Array.getElem?_eq_none (by omega)] at h; cases h

theorem Tabs.keeps {S : Nat → Prop} {w w' : World} (h : Tabs w) (k : Keeps S w w') (h0 : ¬ S 0) (h1 : ¬ S 1) : Tabs w' := by
  have hl := h.lt
  obtain ⟨⟨t, f, a⟩, t', f', b⟩ := h
  exact ⟨⟨t, f, by rw [k.block _ (by omega) (by assumption), a]⟩, t', f', by rw [k.block _ (by omega) (by assumption), b]⟩

theorem Tabs.turn {w : World} (h : Tabs w) {k : Nat} (hk : k < 25) : w.cell? ⟨1, k, none⟩ = some (.int .i64 ((nth turnL k : Nat) : Int)) := by
  obtain ⟨_, t, f, b⟩ := h
  have : turnL.length = 25 := rfl
  unfold nth
  simp [World.cell?, b, turnV, List.getElem?_eq_getElem (show k < turnL.length by omega), List.getD_eq_getElem?_getD]

theorem rot_same (x k : Nat) (w : World) (hx : x < 18446744073709551616) (hk : k < 64) :
    Calls Tryd.prog 56 #[.int .u64 x, .int .i64 k] w fun e w' => e = .returned (.int .u64 (rotl x k : Nat)) ∧ w' = w :=
  (rot_any x k w hx hk).mono fun _ _ ⟨h, h'⟩ => ⟨h, h'.symm⟩

theorem turn_lt (k : Nat) : nth turnL k < 64 := by
  unfold nth
  rw [List.getD_eq_getElem?_getD]
  rcases h : turnL[k]? with _ | x
  · decide
  · have : ∀ y ∈ turnL, y < 64 := by decide
    exact this x (List.mem_of_getElem? h)

theorem xor_ones (x : Nat) (h : x < 18446744073709551616) : 18446744073709551615 ^^^ x = 18446744073709551615 - x := by
  have e := congrArg BitVec.toNat (BitVec.allOnes_xor (x := BitVec.ofNat 64 x))
  rw [BitVec.toNat_xor, BitVec.toNat_not, BitVec.toNat_ofNat, BitVec.toNat_allOnes, Nat.mod_eq_of_lt (by simpa using h)] at e
  simpa using e

theorem c_val (b : List Nat) (k m1 m2 : Nat) (hb : Low b) : bits BinOp.xor IntKind.u64 ((nth b k : Nat) : Int) (bits BinOp.and IntKind.u64 (bits BinOp.xor IntKind.u64 (if IntKind.u64.signed = true then -1 else IntKind.u64.max) ((nth b m1 : Nat) : Int)) ((nth b m2 : Nat) : Int)) =
    ((nth b k ^^^ ((18446744073709551615 - nth b m1) &&& nth b m2) : Nat) : Int) := by
  have e : (if IntKind.u64.signed = true then -1 else IntKind.u64.max : Int) = ((18446744073709551615 : Nat) : Int) := rfl
  rw [e, u64_xor_nat _ _ (by decide) (hb _), xor_ones _ (hb _), u64_and_nat _ _ (by omega) (hb _), u64_xor_nat _ _ (hb _) (and_low (hb _))]

theorem index_const (r : Nat) (h : r < 24) (w : World) : (Instr.index 111 (.agg constV.toArray) (.int .i64 r)).run Tryd.prog w = .ok (.int .u64 ((nth constL r : Nat) : Int)) w := by
  have hc : constV[r]? = some (.int .u64 ((nth constL r : Nat) : Int)) := lanes_at (l := constL) h
  simp [Instr.index, run_underlying Tryd.underlying111, asIntOf, go_sem, h]
  rw [hc]
  rfl

theorem p_step {w : World} {P T m k : Nat} {q : List Nat} (h : Blk w P T (lanes (pfold q k))) (hm : k % 5 = m) :
    Blk (w.setCell ⟨P, m, none⟩ (.int .u64 ((nth (pfold q k) m ^^^ nth q k : Nat) : Int))) P T (lanes (pfold q (k + 1))) := by
  have := h.set m (.int .u64 ((nth (pfold q k) m ^^^ nth q k : Nat) : Int))
  rw [lanes_set] at this
  rw [pfold, hm]
  exact this

theorem b_step {w : World} {P T k i v : Nat} {q p : List Nat} (h : Blk w P T (lanes (bfold q p k))) (hi : bIdx k = i) (hv : bVal q p k = v) :
    Blk (w.setCell ⟨P, i, none⟩ (.int .u64 (v : Int))) P T (lanes (bfold q p (k + 1))) := by
  have := h.set i (.int .u64 (v : Int))
  rw [lanes_set] at this
  rw [bfold, hi, hv]
  exact this

theorem c_step {w : World} {P T k v : Nat} {q b : List Nat} (h : Blk w P T (lanes (cfold q b k))) (hv : cVal b k = v) :
    Blk (w.setCell ⟨P, k, none⟩ (.int .u64 (v : Int))) P T (lanes (cfold q b (k + 1))) := by
  have := h.set k (.int .u64 (v : Int))
  rw [lanes_set] at this
  rw [cfold, hv]
  exact this

theorem last_step {w : World} {A T r : Nat} {a q p b : List Nat} (h : Blk w A T (lanes (cfold q b 25))) (hq : permN a r = q) (hp : pfold q 25 = p) (hb : bfold q p 25 = b) :
    Blk (w.setCell ⟨A, 0, none⟩ (.int .u64 ((nth (cfold q b 25) 0 ^^^ nth constL r : Nat) : Int))).drew A T (lanes (permN a (r + 1))) := by
  have := h.set 0 (.int .u64 ((nth (cfold q b 25) 0 ^^^ nth constL r : Nat) : Int))
  rw [lanes_set] at this
  rw [permN, hq, roundS, hp, hb]
  exact this.drew

set_option maxHeartbeats 1000000 in
set_option maxRecDepth 100000 in
theorem permute_any (A : Nat) (a : List Nat) (w : World) (hT : Tabs w) (hA : Blk w A 85 (lanes a)) (hl : a.length = 25) (ha : Low a) (h2 : 1 < A) :
    Calls Tryd.prog 46 #[.pointer (some ⟨A, 0, none⟩)] w fun e w' => e = .returned (.tuple #[]) ∧ Blk w' A 85 (lanes (perm a)) ∧ Keeps (· = A) w w' := by
  obtain ⟨t0, f0, hg0⟩ := hT.c
  have HT := Hd.mk hT
  have HA := Hd.mk hA
  clear hT hA
  go_enter Tryd.func46, Tryd.ntmps46
  go_wp2_with (refine wpList_load_row rfl 111 _ rfl 0 rfl t0 _ f0 _ hg0 Tryd.underlying111 rfl (by kernel_rfl) ?_)
  go_loopw [16] (fun i wr => ∃ r : Nat, r ≤ 24 ∧ i = .int .i64 r ∧ Blk wr A 85 (lanes (permN a r)) ∧ Keeps (· = A) w wr) (fun i _ => 24 - (intOf i).toNat)
  case atStart => exact ⟨0, by omega, rfl, HA.out, Keeps.refl _ _⟩
  case round =>
    obtain ⟨r, hr, rfl, hB, hK⟩ := hrel
    by_cases hlt : r < 24
    · have hLL := permN_low ha hl r
      obtain ⟨q, hq⟩ : ∃ q, permN a r = q := ⟨_, rfl⟩
      rw [hq] at hB hLL
      obtain ⟨hLq, hlq⟩ := hLL
      have HQ := Hd.mk hq
      clear hq
      have HB := Hd.mk hB
      clear hB
      have hidx := fun (w : World) => index_const r hlt w
      have hAw : A < wr.heap.size := HB.out.lt
      have hdr : decide ((r : Int) < 24) = true := by simp; omega
      obtain ⟨wo, hwo⟩ : ∃ wo : World, wo = wr := ⟨_, rfl⟩
      subst hwo
      have hBp := Hd.mk (Blk.new wo 112 (lanes (pfold q 0)))
      go_wp2
      go_loopw [20] (fun i wr => ∃ k : Nat, k ≤ 25 ∧ i = .int .i64 k ∧ Blk wr wo.heap.size 112 (lanes (pfold q k)) ∧ Blk wr A 85 (lanes q) ∧ Keeps (· = wo.heap.size) (wo.alloc (.cells (lanes (pfold q 0)).toArray 112)) wr) (fun i _ => 25 - (intOf i).toNat)
      case atStart => exact ⟨0, by omega, rfl, hBp.out, HB.out.alloc _, Keeps.refl _ _⟩
      case round =>
        obtain ⟨k, hk, rfl, bP, bA, hK1⟩ := hrel
        by_cases hlk : k < 25
        · have pl := pfold_low hLq k
          obtain ⟨m, hm⟩ : ∃ m, k % 5 = m := ⟨_, rfl⟩
          have em : (k : Int) % 5 = (m : Int) := by omega
          have hm5 : m < 5 := by omega
          have cA := bA.at (lanes_at (l := q) (j := k) (by omega))
          have cP := bP.at (lanes_at (l := pfold q k) (j := m) (by omega))
          have fP := bP.free m
          have xx := u64_xor_nat (nth (pfold q k) m) (nth q k) (pl.1 _) (hLq _)
          have HM := Hd.mk hm
          have HBP := Hd.mk bP
          have HBA := Hd.mk bA
          clear hm bP bA pl
          go_wp2
          go_quiet (fail)
          go_wp2
          go_roundw
          case rel =>
            exact ⟨k + 1, by omega, by go_num, p_step (HBP.out.drewN _) HM.out, (HBA.out.drewN _).other (by simp; omega) _, (hK1.drewN _).setCell (.inr rfl) _⟩
          case measure => simp [intOf]; omega
        · have hk25 : k = 25 := by omega
          rw [hk25] at bP
          clear hk25
          have hdk : decide ((k : Int) < 25) = false := by simp; omega
          have pl := pfold_low hLq 25
          obtain ⟨p, hp⟩ : ∃ p, pfold q 25 = p := ⟨_, rfl⟩
          rw [hp] at bP pl
          obtain ⟨hLp, hlp⟩ := pl
          have HP := Hd.mk hp
          have HBP := Hd.mk bP
          have HBA := Hd.mk bA
          clear hp bP bA
          obtain ⟨w1, hw1⟩ : ∃ w1 : World, w1 = wr := ⟨_, rfl⟩
          subst hw1
          have hPw : wo.heap.size < w1.heap.size := HBP.out.lt
          have hBb := Hd.mk (Blk.new w1 85 (lanes (bfold q p 0)))
          go_wp2
          go_loopw [35] (fun i wr => ∃ k : Nat, k ≤ 25 ∧ i = .int .i64 k ∧ Blk wr w1.heap.size 85 (lanes (bfold q p k)) ∧ Blk wr wo.heap.size 112 (lanes p) ∧ Blk wr A 85 (lanes q) ∧ Keeps (· = w1.heap.size) (w1.alloc (.cells (lanes (bfold q p 0)).toArray 85)) wr) (fun i _ => 25 - (intOf i).toNat)
          case atStart => exact ⟨0, by omega, rfl, hBb.out, HBP.out.alloc _, HBA.out.alloc _, Keeps.refl _ _⟩
          case round =>
            obtain ⟨k, hk, rfl, bB, bP, bA, hK2⟩ := hrel
            by_cases hlk : k < 25
            · have bl := bfold_low hLq hLp k
              obtain ⟨m, hm⟩ : ∃ m, k % 5 = m := ⟨_, rfl⟩
              obtain ⟨d, hd⟩ : ∃ d, k / 5 = d := ⟨_, rfl⟩
              obtain ⟨m4, hm4⟩ : ∃ m4, (m + 4) % 5 = m4 := ⟨_, rfl⟩
              obtain ⟨m1, hm1⟩ : ∃ m1, (m + 1) % 5 = m1 := ⟨_, rfl⟩
              obtain ⟨e5, he5⟩ : ∃ e5, (2 * m + 3 * d) % 5 = e5 := ⟨_, rfl⟩
              have em : (k : Int) % 5 = (m : Int) := by omega
              have ed : (k : Int) / 5 = (d : Int) := by omega
              have em4 : ((m : Int) + 4) % 5 = (m4 : Int) := by omega
              have em1 : ((m : Int) + 1) % 5 = (m1 : Int) := by omega
              have ee5 : (2 * (m : Int) + 3 * (d : Int)) % 5 = (e5 : Int) := by omega
              have bm : m < 5 := by omega
              have bd : d < 5 := by omega
              have bm4 : m4 < 5 := by omega
              have bm1 : m1 < 5 := by omega
              have be5 : e5 < 5 := by omega
              have cA := bA.at (lanes_at (l := q) (j := k) (by omega))
              have cP4 := bP.at (lanes_at (l := p) (j := m4) (by omega))
              have cP1 := bP.at (lanes_at (l := p) (j := m1) (by omega))
              have cB := bB.at (lanes_at (l := bfold q p k) (j := d + 5 * e5) (by omega))
              have fB := bB.free (d + 5 * e5)
              have hTr : Tabs wr := ((HT.out.keeps hK (by omega) (by omega)).keeps ((Keeps.refl (· = wo.heap.size) wo).alloc _) (by have := HT.out.lt; omega) (by omega)).keeps hK1 (by omega) (by omega) |>.keeps ((Keeps.refl (· = w1.heap.size) w1).alloc _) (by omega) (by omega) |>.keeps hK2 (by omega) (by omega)
              have cT := hTr.turn hlk
              have HMs := Hd.mk (And.intro hm (And.intro hd (And.intro hm4 (And.intro hm1 he5))))
              have HBB := Hd.mk bB
              have HBP' := Hd.mk bP
              have HBA' := Hd.mk bA
              have hBw : w1.heap.size < wr.heap.size := bB.lt
              clear hm hd hm4 hm1 he5 bB bP bA hTr bl
              repeat go_step
              go_quiet (fail)
              repeat go_step
              have cP4' : (wr.drewN nq).cell? ⟨wo.heap.size, m4, none⟩ = some (.int .u64 ((nth p m4 : Nat) : Int)) := cP4
              have cP1' : (wr.drewN nq).cell? ⟨wo.heap.size, m1, none⟩ = some (.int .u64 ((nth p m1 : Nat) : Int)) := cP1
              have cT' : (wr.drewN nq).cell? ⟨1, k, none⟩ = some (.int .i64 ((nth turnL k : Nat) : Int)) := cT
              have cB' : (wr.drewN nq).cell? ⟨w1.heap.size, d + 5 * e5, none⟩ = some (.int .u64 ((nth (bfold q p k) (d + 5 * e5) : Nat) : Int)) := cB
              have fB' : (wr.drewN nq).frozen? ⟨w1.heap.size, d + 5 * e5, none⟩ = false := fB
              have HBB2 := Hd.mk (HBB.out.drewN nq)
              have HBP2 := Hd.mk (HBP'.out.drewN nq)
              have HBA2 := Hd.mk (HBA'.out.drewN nq)
              have HK2 := Hd.mk (hK2.drewN nq)
              clear cP4 cP1 cT cB fB cA HBB HBP' HBA' hK2
              generalize wr.drewN nq = w2 at *
              have l1 := hLp m1
              have l4 := hLp m4
              have lk := hLq k
              have r1 := rotl_low l1 1
              have x1 := u64_xor_nat (nth p m4) (rotl (nth p m1) 1) l4 r1
              have x2 := u64_xor_nat (nth q k) (nth p m4 ^^^ rotl (nth p m1) 1) lk (xor_low l4 r1)
              have s4 : IntKind.i64.wrap ((m : Int) + 4) = (m : Int) + 4 := IntWalk.i64_in _ (by omega)
              have s1 : IntKind.i64.wrap ((m : Int) + 1) = (m : Int) + 1 := IntWalk.i64_in _ (by omega)
              have t4 : ((m : Int) + 4).tmod 5 = (m4 : Int) := by rw [Int.tmod_eq_emod_of_nonneg (by omega)]; exact em4
              have t1 : ((m : Int) + 1).tmod 5 = (m1 : Int) := by rw [Int.tmod_eq_emod_of_nonneg (by omega)]; exact em1
              go_quiet ((go_at_call 56; exact Calls.quiet_of_same (rot_same _ 1 _ l1 (by decide))))
              clear s4 s1 t4 t1
              have lt64 : nth turnL k < 64 := turn_lt k
              have lv := xor_low lk (xor_low l4 r1)
              go_wp2_with (go_at_call 56; refine (rot_any _ _ _ lv lt64).mono ?_; rintro e w' ⟨rfl, rfl⟩)
              obtain ⟨hm, hd, hm4, hm1, he5⟩ := HMs.out
              go_roundw
              case rel =>
                exact ⟨k + 1, by omega, by go_num, b_step (HBB2.out.drewN _) (by unfold bIdx; rw [hm, hd, he5]) (by unfold bVal; rw [hm, hm4, hm1]), (HBP2.out.drewN _).other (by simp; omega) _, (HBA2.out.drewN _).other (by simp; omega) _, (HK2.out.drewN _).setCell (.inr rfl) _⟩
              case measure => simp [intOf]; omega
            · have hk25 : k = 25 := by omega
              rw [hk25] at bB
              clear hk25
              have hdk' : decide ((k : Int) < 25) = false := by simp; omega
              have bl := bfold_low hLq hLp 25
              obtain ⟨b, hb⟩ : ∃ b, bfold q p 25 = b := ⟨_, rfl⟩
              rw [hb] at bB bl
              obtain ⟨hLb, hlb⟩ := bl
              have HBf := Hd.mk hb
              clear hb
              obtain ⟨w2, hw2⟩ : ∃ w2 : World, w2 = wr := ⟨_, rfl⟩
              subst hw2
              have HBB := Hd.mk bB
              have HBP' := Hd.mk bP
              have HBA' := Hd.mk bA
              have hBw : w1.heap.size < w2.heap.size := bB.lt
              clear bB bP bA
              go_wp2
              go_loopw [75] (fun i wr => ∃ k : Nat, k ≤ 25 ∧ i = .int .i64 k ∧ Blk wr w1.heap.size 85 (lanes b) ∧ Blk wr A 85 (lanes (cfold q b k)) ∧ Keeps (· = A) w2 wr) (fun i _ => 25 - (intOf i).toNat)
              case atStart => exact ⟨0, by omega, rfl, HBB.out, HBA'.out, Keeps.refl _ _⟩
              case round =>
                obtain ⟨k, hk, rfl, bB, bA, hK3⟩ := hrel
                by_cases hlk : k < 25
                · have cl := cfold_low hLq hLb hlq k
                  obtain ⟨m, hm⟩ : ∃ m, k % 5 = m := ⟨_, rfl⟩
                  obtain ⟨rw_, hrw⟩ : ∃ rw_, k - k % 5 = rw_ := ⟨_, rfl⟩
                  obtain ⟨m1, hm1⟩ : ∃ m1, (m + 1) % 5 = m1 := ⟨_, rfl⟩
                  obtain ⟨m2, hm2⟩ : ∃ m2, (m + 2) % 5 = m2 := ⟨_, rfl⟩
                  have em : (k : Int) % 5 = (m : Int) := by omega
                  have er : (k : Int) - (m : Int) = (rw_ : Int) := by omega
                  have em1 : ((m : Int) + 1) % 5 = (m1 : Int) := by omega
                  have em2 : ((m : Int) + 2) % 5 = (m2 : Int) := by omega
                  have bm : m < 5 := by omega
                  have bm1 : m1 < 5 := by omega
                  have bm2 : m2 < 5 := by omega
                  have br : rw_ ≤ 20 := by omega
                  have cA := bA.at (lanes_at (l := cfold q b k) (j := k) (by omega))
                  have cB := bB.at (lanes_at (l := b) (j := k) (by omega))
                  have cB1 := bB.at (lanes_at (l := b) (j := rw_ + m1) (by omega))
                  have cB2 := bB.at (lanes_at (l := b) (j := rw_ + m2) (by omega))
                  have fA := bA.free k
                  have HMs := Hd.mk (And.intro hm (And.intro hrw (And.intro hm1 hm2)))
                  have HBB' := Hd.mk bB
                  have HBA2 := Hd.mk bA
                  clear hm hrw hm1 hm2 bB bA cl
                  repeat go_step
                  go_region
                  go_wp2
                  obtain ⟨hm, hrw, hm1, hm2⟩ := HMs.out
                  go_roundw
                  case rel =>
                    refine ⟨k + 1, by omega, by go_num, (HBB'.out.other (a := ⟨A, k, none⟩) (by simp; omega) _).drew, ?_, (hK3.setCell (p := ⟨A, k, none⟩) (.inr rfl) _).drew⟩
                    rw [c_val b k (rw_ + m1) (rw_ + m2) hLb]
                    exact (c_step HBA2.out (by unfold cVal; rw [hrw, hm, hm1, hm2])).drew
                  case measure => simp [intOf]; omega
                · have hk25 : k = 25 := by omega
                  rw [hk25] at bA
                  have cl := cfold_low hLq hLb hlq 25
                  have cA := bA.at (lanes_at (l := cfold q b 25) (j := 0) (by omega))
                  have fA := bA.free 0
                  have xx := u64_xor_nat (nth (cfold q b 25) 0) (nth constL r) (cl.1 _) (const_low _)
                  have HBA2 := Hd.mk bA
                  clear hk25 bA bB cl
                  have HK0 := Hd.mk hK
                  have HK1 := Hd.mk hK1
                  have HK2 := Hd.mk hK2
                  have HK3 := Hd.mk hK3
                  clear hK hK1 hK2 hK3
                  repeat go_step
                  go_region
                  go_wp2
                  go_roundw
                  case rel =>
                    refine ⟨r + 1, by omega, by go_num, ?_, ?_⟩
                    · exact last_step HBA2.out HQ.out HP.out HBf.out
                    · exact ((HK0.out.trans ((HK1.out.fresh rfl).trans ((HK2.out.fresh rfl).trans HK3.out))).setCell (p := ⟨A, 0, none⟩) (.inr rfl) _).drew
                  case measure => simp [intOf]; omega
    · have hr24 : r = 24 := by omega
      rw [hr24] at hB
      clear hr24
      have HB := Hd.mk hB
      clear hB
      go_wp2
      go_end0
      exact ⟨rfl, HB.out, hK⟩

end Go.Proofs.YtimbhnnidohmaaaDoor.W
