/-
  The reference's Sum: the walk.
-/
import Derived.Test.YtimbhnnidohmaaaDoorRound
import Derived.Test.YtimbhnnidohmaaaDoorRSumP
import Derived.Deep.RegionWith
namespace Go.Proofs.YtimbhnnidohmaaaDoor.W
open Go.RowKit
set_option linter.unusedVariables false

def sliceLen : Value → Nat
  | .slice _ n _ => n
  | _ => 0

theorem pred_int {a k N M : Nat} (h : a + 1 + k = N) (hM : N - 1 = M) : (N : Int) - 1 = (M : Int) := by omega
theorem pred_wrap {a k N M : Nat} (h : a + 1 + k = N) (hM : N - 1 = M) (hl : N ≤ 1000000) : IntKind.i64.wrap ((N : Int) - 1) = (M : Int) := (IntWalk.i64_in _ (by omega)).trans (by omega)
theorem pred_lt {a k N M : Nat} (h : a + 1 + k = N) (hM : N - 1 = M) : (M : Int) < (N : Int) := by omega
theorem Own.of_blk {W : World} {g B : Nat} {T : TypeId} {vs : List Value} (h : Blk W g T vs) (hB : B ≤ g) (hl : vs.length = 25) (hm : 25 ≤ maxLen) : Own W B T (.slice (some ⟨g, 0, none⟩) 25 25) vs :=
  ⟨.inr ⟨g, 25, by rw [hl], hB, by rw [hl]; exact Nat.le_refl _, hm, ⟨_, _, h.is, by simpa using hl⟩, fun j u hj => h.at hj, fun j _ => h.free j⟩⟩
theorem at_more {N Q P n : Nat} (hQ : 136 * Q = N) (hP : 136 * n = P) (h : n < Q) (hl : N ≤ 1000000) : decide ((P : Int) < (N : Int)) = true ∧ decide (P < N) = true ∧ P ≤ 1000136 ∧ P + 136 ≤ N := by
  refine ⟨by simp; omega, by simp; omega, by omega, by omega⟩
theorem lane_facts {P N m : Nat} {b : List UInt8} (h : P + 136 ≤ N) (hPl : P ≤ 1000136) (hb : b.length = N) (hN : N ≤ 1000000) (hm : m < 17) : ∃ P8 : Nat, P + 8 * m = P8 ∧ IntKind.i64.wrap (8 * (m : Int)) = 8 * (m : Int) ∧ IntKind.i64.wrap ((P : Int) + 8 * (m : Int)) = (P8 : Int) ∧ P8 + 8 ≤ b.length ∧ b.length ≤ 1000000 ∧ m < 25 ∧ (m : Int) < 25 :=
  ⟨P + 8 * m, rfl, IntWalk.i64_in _ (by omega), (IntWalk.i64_in _ (by omega)).trans (by omega), by omega, by omega, by omega, by omega⟩
theorem ne_succ {a b : Nat} (h : a + 1 ≤ b) (e : a = b) : False := by omega
theorem next_block {P n : Nat} (h : 136 * n = P) : ((P : Int) + 136) = ((136 * (n + 1) : Nat) : Int) := by omega
theorem meas_at {P N : Nat} (h : P + 136 ≤ N) : N + 136 - (intOf (.int .i64 ((P : Int) + 136))).toNat < N + 136 - (intOf (.int .i64 (P : Int))).toNat := by simp [intOf]; omega
theorem at_done {N Q P n : Nat} (hQ : 136 * Q = N) (hP : 136 * n = P) (h : n = Q) : decide ((P : Int) < (N : Int)) = false ∧ decide (P < N) = false := by
  refine ⟨by simp; omega, by simp; omega⟩
theorem d4t {k : Nat} (h : k < 4) : decide ((k : Int) < 4) = true := by simp; omega
theorem d4f {k : Nat} (h : ¬ k < 4) : decide ((k : Int) < 4) = false := by simp; omega
theorem d8t {k : Nat} (h : k < 8) : decide ((k : Int) < 8) = true := by simp; omega
theorem d8f {k : Nat} (h : ¬ k < 8) : decide ((k : Int) < 8) = false := by simp; omega
theorem int_lt25 {k : Nat} (h : k < 25) : (k : Int) < 25 := by omega
theorem div_next (X k : Nat) : X / 2 ^ (8 * k) / 256 = X / 2 ^ (8 * (k + 1)) := by
  rw [Nat.div_div_eq_div_mul, show 256 = 2 ^ 8 from rfl, ← Nat.pow_add]; congr 1
theorem out_facts {X Y : Nat} {z : UInt8} (h : z.toNat = X % 256) (hY : X / 256 = Y) (hX : X < 18446744073709551616) : (X : Int) % 256 = (z.toNat : Int) ∧ (X : Int) / 256 = (Y : Int) ∧ IntKind.u8.wrap (z.toNat : Int) = (z.toNat : Int) ∧ (X : Int).tmod 256 = (z.toNat : Int) ∧ (X : Int).tdiv 256 = (Y : Int) := by
  have hz := z.toNat_lt
  refine ⟨by omega, by omega, by rw [IntKind.wrap_u8]; omega, ?_, ?_⟩
  · rw [Int.tmod_eq_emod_of_nonneg (by omega)]; omega
  · rw [Int.tdiv_eq_ediv_of_nonneg (by omega)]; omega
theorem out_len1 {j k : Nat} (hj : j < 4) (hk : k < 8) : 8 * j + k + 1 ≤ maxLen := by unfold maxLen; omega
theorem out_len2 {j k : Nat} (hj : j < 4) (hk : k < 8) : (8 * j + k + 1) * 1 ≤ 140737488355328 := by omega
theorem d17t {k : Nat} (h : k < 17) : decide ((k : Int) < 17) = true := by simp; omega
theorem d17f {k : Nat} (h : ¬ k < 17) : decide ((k : Int) < 17) = false := by simp; omega
theorem d24t {k : Nat} (h : k < 24) : decide ((k : Int) < 24) = true := by simp; omega
theorem d24f {k : Nat} (h : ¬ k < 24) : decide ((k : Int) < 24) = false := by simp; omega
theorem meas_n {n k : Nat} (h : k < n) : n - (intOf (.int .i64 ((k : Int) + 1))).toNat < n - (intOf (.int .i64 (k : Int))).toNat := by simp [intOf]; omega
theorem pad_bound {s : ByteArray} {k N : Nat} (hk : k ≤ pzn s.data.toList) (hsl : s.data.toList.length = s.size) (hs : s.size ≤ 900000) (h : s.size + 1 + k = N) : N ≤ 1000000 := by
  unfold pzn at hk; omega
theorem pad_more {s : ByteArray} {k N : Nat} (hsl : s.data.toList.length = s.size) (h : s.size + 1 + k = N) (hk : k < pzn s.data.toList) : ∃ r : Nat, (N : Int).tmod 136 = (r : Int) ∧ (N : Int) % 136 = (r : Int) ∧ decide ((r : Int) = 0) = false ∧ ¬ (r : Int) = 0 ∧ N % 136 = r := by
  unfold pzn at hk
  refine ⟨N % 136, ?_, by omega, by simp; omega, by omega, rfl⟩
  rw [Int.tmod_eq_emod_of_nonneg (by omega)]; omega
theorem pad_meas {s : ByteArray} {k N : Nat} (hsl : s.data.toList.length = s.size) (h : s.size + 1 + k = N) (hNl : N ≤ 1000000) (hk : k < pzn s.data.toList) : s.size + 136 - (s.data.toList.length + 1 + (k + 1)) < s.size + 136 - N := by
  unfold pzn at hk
  omega
theorem pad_done {s : ByteArray} {k N : Nat} (hsl : s.data.toList.length = s.size) (h : s.size + 1 + k = N) (hk : k = pzn s.data.toList) : (N : Int).tmod 136 = 0 ∧ (N : Int) % 136 = 0 := by
  unfold pzn at hk
  refine ⟨?_, by omega⟩
  rw [Int.tmod_eq_emod_of_nonneg (by omega)]; omega

set_option maxHeartbeats 1000000 in
set_option maxRecDepth 100000 in
theorem rsum_any (s : ByteArray) (hs : s.size ≤ 900000) (w : World) :
    Calls Tryd.prog 43 #[.string s] w fun e w' => e = .returned (.string ⟨(sumL s.data.toList).toArray⟩) ∧ Below w.heap.size w w' := by
  obtain ⟨i0, hi, hz0, hz1, hz2⟩ := info_parts infoU8
  have HI : Hd (_ ∧ _ ∧ _ ∧ _) := ⟨⟨hi, hz0, hz1, hz2⟩⟩
  clear hi hz0 hz1 hz2
  go_enter Tryd.func43, Tryd.ntmps43
  have hcv := run_bytes_of_string (P := Tryd.prog) w 9 68 5 s Tryd.underlying9 Tryd.underlying68 Tryd.underlying5
  have HO0 := Hd.mk (Own.of_string w s (grownCap w s.size 0 5) (grownCap_ge w s.size 0 5) (grownCap_le_maxLen w s.size 0 5 (by unfold maxLen; omega)))
  have HK0 : Hd (Keeps (fun _ => False) w (w.drew.alloc (.cells (bytesRow s (grownCap w s.size 0 5)) 5 ((bytesRow s (grownCap w s.size 0 5)).size, (bytesRow s (grownCap w s.size 0 5)).size + 1)))) := ⟨((Keeps.refl (fun _ => False) w).drew).alloc _⟩
  obtain ⟨W1, hW⟩ : ∃ W1, w.drew.alloc (.cells (bytesRow s (grownCap w s.size 0 5)) 5 ((bytesRow s (grownCap w s.size 0 5)).size, (bytesRow s (grownCap w s.size 0 5)).size + 1)) = W1 := ⟨_, rfl⟩
  rw [hW] at HO0 HK0 hcv
  clear hW
  have hW1 : w.heap.size ≤ W1.heap.size := HK0.out.size
  have hbl : (Lib.byteCells s.data.toList).length = s.size := by rw [byteCells_len]; rfl
  have hsl : s.data.toList.length = s.size := rfl
  go_wp2_with (first | rw [hcv] | (at_builtin; refine wp_app1 rfl _ _ 68 rfl 5 Tryd.underlying68 HI.out.1 HI.out.2.1 HI.out.2.2.1 HI.out.2.2.2 rfl _ _ _ _ rfl HO0.out rfl rfl (by rw [hbl]; unfold maxLen; omega) (by rw [hbl]; omega) hW1 ?_))
  intro v1 w1 hO1 hK1 _
  rw [show Value.int .u8 6 = .int .u8 ((6 : UInt8).toNat : Int) from rfl, bc_snoc] at hO1
  have HO1 : Hd (Own w1 w.heap.size 5 v1 (Lib.byteCells (pz s.data.toList 0))) := ⟨hO1.cast (by simp [pz])⟩
  have HB1 : Hd (Below w.heap.size w w1) := ⟨(HK0.out.below (Nat.le_refl _) (fun _ _ h => h)).trans (hK1.below hW1 (fun k hk h => absurd hk (Nat.not_lt.2 (HO0.out.lt h).1)))⟩
  clear hO1 hK1 HO0 HK0
  go_wp2
  go_loopw [3] (fun v wr => ∃ k : Nat, k ≤ pzn s.data.toList ∧ Own wr w.heap.size 5 v (Lib.byteCells (pz s.data.toList k)) ∧ Below w.heap.size w wr) (fun v _ => s.size + 136 - sliceLen v)
  case atStart => exact ⟨0, Nat.zero_le _, HO1.out, HB1.out⟩
  case round =>
    clear HO1 HB1
    obtain ⟨k, hk, hO, hB⟩ := hrel
    obtain ⟨gb, cb, rfl⟩ := hO.slice (by simp [Lib.byteCells, pz]; omega)
    have hN : (Lib.byteCells (pz s.data.toList k)).length = s.size + 1 + k := by rw [byteCells_len, pz_len]; rfl
    rw [hN] at hO
    rw [hN]
    have HO := Hd.mk hO
    have HB := Hd.mk hB
    have hsz : w.heap.size ≤ wr.heap.size := hB.size
    clear hO hB
    obtain ⟨N, hNN⟩ : ∃ N, s.size + 1 + k = N := ⟨_, rfl⟩
    have hNl : N ≤ 1000000 := pad_bound hk hsl hs hNN
    have hpl : (pz s.data.toList k).length = N := by rw [pz_len, hsl, hNN]
    rw [hNN] at HO
    rw [hNN]
    by_cases hlt : k < pzn s.data.toList
    · obtain ⟨r, hr1, hr2, hr3, hr4, hr5⟩ := pad_more hsl hNN hlt
      have hlen1 : (Lib.byteCells (pz s.data.toList k)).length + 1 ≤ maxLen := by rw [byteCells_len, hpl]; unfold maxLen; omega
      have hlen2 : ((Lib.byteCells (pz s.data.toList k)).length + 1) * 1 ≤ 140737488355328 := by rw [byteCells_len, hpl]; omega
      go_wp2_with (at_builtin; refine wp_app1 rfl _ _ 68 rfl 5 Tryd.underlying68 HI.out.1 HI.out.2.1 HI.out.2.2.1 HI.out.2.2.2 rfl _ _ _ _ rfl HO.out rfl rfl hlen1 hlen2 hsz ?_)
      intro v' w' hO' hK' _
      rw [show Value.int .u8 0 = .int .u8 ((0 : UInt8).toNat : Int) from rfl, bc_snoc, pz_snoc] at hO'
      have HO3 := Hd.mk hO'
      have HB3 : Hd (Below w.heap.size w w') := ⟨HB.out.trans (hK'.below hsz (fun k hk h => absurd hk (Nat.not_lt.2 (HO.out.lt h).1)))⟩
      clear hO' hK'
      go_wp2
      refine ⟨⟨k + 1, hlt, HO3.out, HB3.out⟩, ?_⟩
      obtain ⟨g3, c3, e3⟩ := HO3.out.slice (by rw [byteCells_len, pz_len]; omega)
      rw [e3, byteCells_len, pz_len]
      exact pad_meas hsl hNN hNl hlt
    · have hk2 : k = pzn s.data.toList := Nat.le_antisymm hk (Nat.not_lt.1 hlt)
      obtain ⟨hr1, hr2⟩ := pad_done hsl hNN hk2
      rw [hk2] at HO hpl
      have hpb : (padB s.data.toList).length = N := by rw [padB_len, ← hpl, pz_len]; unfold pzn; omega
      have hN0 : Hd (s.data.toList.length + pzn s.data.toList = N - 1) := ⟨by rw [← hpl, pz_len]; omega⟩
      obtain ⟨M, hM⟩ : ∃ M, N - 1 = M := ⟨_, rfl⟩
      rw [hM] at hN0
      have hN1 : (N : Int) - 1 = (M : Int) := pred_int hNN hM
      have hw1 : IntKind.i64.wrap ((N : Int) - 1) = (M : Int) := pred_wrap hNN hM hNl
      have hMN : (M : Int) < (N : Int) := pred_lt hNN hM
      have c1 := HO.out.cellAt (byteCells_at (l := pz s.data.toList (pzn s.data.toList)) (j := M) (by rw [hpl]; omega))
      have f1 := HO.out.freeAt (j := M) (by rw [byteCells_len, hpl]; omega)
      have hset := Hd.mk (HO.out.setAt (.int .u8 (((pz s.data.toList (pzn s.data.toList)).getD M 0 + 128 : UInt8).toNat : Int)) (j := M))
      have hpad : (pz s.data.toList (pzn s.data.toList)).set M ((pz s.data.toList (pzn s.data.toList)).getD M 0 + 128) = padB s.data.toList := by rw [← hN0.out]; rfl
      rw [byteCells_set, hpad] at hset
      obtain ⟨lb, hlb⟩ : ∃ x, (pz s.data.toList (pzn s.data.toList)).getD M 0 = x := ⟨_, rfl⟩
      rw [hlb] at c1 hset
      have hsum2 : ((lb.toNat : Int) + 128) % 256 = ((lb + 128 : UInt8).toNat : Int) := by rw [UInt8.toNat_add]; rfl
      obtain ⟨y, hy⟩ : ∃ y : UInt8, lb + 128 = y := ⟨_, rfl⟩
      rw [hy] at hsum2 hset
      clear hy
      have hke : Hd (Keeps (· = gb) wr (wr.setCell ⟨gb, M, none⟩ (.int .u8 (y.toNat : Int)))) := ⟨(Keeps.refl (· = gb) wr).setCell (p := ⟨gb, M, none⟩) (.inr rfl) _⟩
      have hgb : w.heap.size ≤ gb ∧ gb < wr.heap.size := HO.out.lt (k := gb) rfl
      have HB2 : Hd (Below w.heap.size w (wr.setCell ⟨gb, M, none⟩ (.int .u8 (y.toNat : Int)))) := ⟨HB.out.trans (hke.out.below hsz (fun k hk e => absurd hk (Nat.not_lt.2 (e ▸ hgb.1))))⟩
      obtain ⟨W2, hW2⟩ : ∃ W2, wr.setCell ⟨gb, M, none⟩ (.int .u8 (y.toNat : Int)) = W2 := ⟨_, rfl⟩
      rw [hW2] at hset HB2
      have hgb2 : gb < W2.heap.size := (hset.out.lt (k := gb) rfl).2
      have hw2 : w.heap.size ≤ W2.heap.size := HB2.out.size
      clear hpad hlb hke HO HB hk hN hpl hlt hk2
      go_wp2_with (first | rw [hW2, make_b] | rw [make_b])
      clear hr1 hr2 hN1 hw1 hMN c1 f1 hsum2 hW2 hN0 hM
      have HA0 : Hd (Own (W2.alloc (.cells (lanes zeros).toArray 83)) (gb + 1) 83 (.slice (some ⟨W2.heap.size, 0, none⟩) 25 25) (lanes zeros)) := ⟨Own.of_blk (Blk.new W2 83 (lanes zeros)) hgb2 (by rfl) (by decide)⟩
      have Hb0 := Hd.mk (hset.out.alloc (.cells (lanes zeros).toArray 83))
      have HB0 : Hd (Below w.heap.size w (W2.alloc (.cells (lanes zeros).toArray 83))) := ⟨HB2.out.trans (((Keeps.refl (fun _ => False) W2).alloc _).below hw2 (fun _ _ h => h))⟩
      obtain ⟨b, hb⟩ : ∃ b, padB s.data.toList = b := ⟨_, rfl⟩
      have hE : Hd (blocksN zeros b (s.data.toList.length / 136 + 1) = endState s.data.toList) := ⟨hb ▸ blocks_end _⟩
      have hQ : 136 * (s.data.toList.length / 136 + 1) = N := by rw [← hpb, padB_len]
      obtain ⟨Q, hQQ⟩ : ∃ Q, s.data.toList.length / 136 + 1 = Q := ⟨_, rfl⟩
      rw [hQQ] at hE hQ
      rw [hb] at Hb0 hpb
      clear hset HB2 hQQ hb hNN
      go_loopw [4, 5] (fun v i wr => ∃ n : Nat, n ≤ Q ∧ i = .int .i64 ((136 * n : Nat) : Int) ∧ Own wr (gb + 1) 83 v (lanes (blocksN zeros b n)) ∧ Own wr w.heap.size 5 (.slice (some ⟨gb, 0, none⟩) N cb) (Lib.byteCells b) ∧ Below w.heap.size w wr) (fun _ i _ => N + 136 - (intOf i).toNat)
      case atStart => exact ⟨0, Nat.zero_le _, rfl, HA0.out, Hb0.out, HB0.out⟩
      case round =>
        clear HA0 Hb0 HB0
        obtain ⟨n, hn, rfl, ho1, hb1, hB1⟩ := hrel
        have hA := blocksN_low zeros_low.1 zeros_low.2 b n
        obtain ⟨A, hAA⟩ : ∃ A, blocksN zeros b n = A := ⟨_, rfl⟩
        have HAA := Hd.mk hAA
        rw [hAA] at hA ho1
        obtain ⟨ga, ca, rfl⟩ := ho1.slice (by rw [lanes_len, hA.2]; decide)
        have hl25 : (lanes A).length = 25 := by rw [lanes_len, hA.2]
        rw [hl25] at ho1
        rw [hl25]
        have HL := Hd.mk hA.1
        have hAl := hA.2
        have Ho1 := Hd.mk ho1
        have Hb1 := Hd.mk hb1
        have HB1 := Hd.mk hB1
        obtain ⟨P, hP⟩ : ∃ P, 136 * n = P := ⟨_, rfl⟩
        rw [hP]
        clear ho1 hb1 hB1 hA hAA hl25
        by_cases hlt : n < Q
        · obtain ⟨hd1, hd1n, hPl, hP136⟩ := at_more hQ hP hlt hNl
          go_wp2
          go_loopw [6] (fun i wr => ∃ m : Nat, m ≤ 17 ∧ i = .int .i64 m ∧ Own wr (gb + 1) 83 (.slice (some ⟨ga, 0, none⟩) 25 ca) (lanes (laneX A b P m)) ∧ Own wr w.heap.size 5 (.slice (some ⟨gb, 0, none⟩) N cb) (Lib.byteCells b) ∧ Below w.heap.size w wr) (fun i _ => 17 - (intOf i).toNat)
          case atStart => exact ⟨0, Nat.zero_le _, rfl, Ho1.out, Hb1.out, HB1.out⟩
          case round =>
            clear Ho1 Hb1 HB1
            obtain ⟨m, hm, rfl, ho2, hb2, hB2⟩ := hrel
            have hX := laneX_low HL.out hAl b P m
            have Ho2 := Hd.mk ho2
            have Hb2 := Hd.mk hb2
            have HB2 := Hd.mk hB2
            clear ho2 hb2 hB2
            by_cases hlm : m < 17
            · have hd2 := d17t hlm
              obtain ⟨P8, p1, p2, p3, p4, p5, p6, p7⟩ := lane_facts hP136 hPl hpb hNl hlm
              have hv : Hd ((laneX A b P m).set m (nth (laneX A b P m) m ^^^ laneU b P8 8) = laneX A b P (m + 1)) := ⟨by rw [laneX, p1]⟩
              have hlow := laneU_low b P8 8
              have hxl := hX.1 m
              have c1 := Ho2.out.cellAt (lanes_at (l := laneX A b P m) (j := m) (by rw [hX.2]; exact p6))
              have f1 := Ho2.out.freeAt (j := m) (by rw [lanes_len, hX.2]; exact p6)
              have hset := Hd.mk (Ho2.out.setAt (.int .u64 ((nth (laneX A b P m) m ^^^ laneU b P8 8 : Nat) : Int)) (j := m))
              rw [lanes_set, hv.out] at hset
              have x1 := u64x (nth (laneX A b P m) m) (laneU b P8 8) hxl hlow
              have hK : Hd (Keeps (· = ga) wr (wr.setCell ⟨ga, m, none⟩ (.int .u64 ((nth (laneX A b P m) m ^^^ laneU b P8 8 : Nat) : Int)))) := ⟨(Keeps.refl (· = ga) wr).setCell (p := ⟨ga, m, none⟩) (.inr rfl) _⟩
              have hga : gb + 1 ≤ ga := (Ho2.out.lt (k := ga) rfl).1
              have Hb3 := Hd.mk (Hb2.out.keeps hK.out (fun g' h e => ne_succ hga ((Option.some.inj h).trans e)))
              have HB3 := Hd.mk (HB2.out.trans (hK.out.below HB2.out.size (fun k hk e => absurd hk (Nat.not_lt.2 (Nat.le_trans hgb.1 (Nat.le_trans (Nat.le_succ gb) (e ▸ hga)))))))
              obtain ⟨xm, hxm⟩ : ∃ n, nth (laneX A b P m) m = n := ⟨_, rfl⟩
              rw [hxm] at c1 hset x1 Hb3 HB3 hxl
              have hX3 := Hd.mk hX
              have hlane := lane_any b _ w.heap.size P8 wr.drew (Hb2.out.keeps ((Keeps.refl (fun _ => False) wr).drew) (fun _ _ h => h)) p4 p5
              clear hv hK hX hxm
              have hsetD := Hd.mk (hset.out.keeps ((Keeps.refl (fun _ => False) _).drew) (fun _ _ h => h))
              have HbD := Hd.mk (Hb3.out.keeps ((Keeps.refl (fun _ => False) _).drew) (fun _ _ h => h))
              have HBD := Hd.mk (HB3.out.drew)
              clear hset Hb3 HB3
              go_wp2_with fail
              go_region_with (go_at_call 49; refine hlane.mono ?_; rintro e w' ⟨rfl, rfl⟩)
              all_goals
                go_wp2
                go_roundw
                case rel => exact ⟨m + 1, hlm, by go_num, hsetD.out, HbD.out, HBD.out⟩
                case measure => exact meas_n hlm
            · have hm17 : m = 17 := Nat.le_antisymm hm (Nat.not_lt.1 hlm)
              have hd2 := d17f hlm
              rw [hm17] at Ho2 hX
              obtain ⟨A2, hA2⟩ : ∃ A2, laneX A b P 17 = A2 := ⟨_, rfl⟩
              rw [hA2] at Ho2 hX
              have HX := Hd.mk hX
              have HA2 := Hd.mk hA2
              clear hX hA2 hm17
              go_wp2
              go_loopw [4, 7] (fun v i wr => ∃ r : Nat, r ≤ 24 ∧ i = .int .i64 r ∧ Own wr (gb + 1) 83 v (lanes (permN A2 r)) ∧ Own wr w.heap.size 5 (.slice (some ⟨gb, 0, none⟩) N cb) (Lib.byteCells b) ∧ Below w.heap.size w wr) (fun _ i _ => 24 - (intOf i).toNat)
              case atStart => exact ⟨0, Nat.zero_le _, rfl, Ho2.out, Hb2.out, HB2.out⟩
              case round =>
                clear Ho2 Hb2 HB2
                obtain ⟨r, hr, rfl, ho3, hb3, hB3⟩ := hrel
                have hX := permN_low HX.out.1 HX.out.2 r
                obtain ⟨A3, hA3⟩ : ∃ A3, permN A2 r = A3 := ⟨_, rfl⟩
                rw [hA3] at ho3 hX
                obtain ⟨g3, c3, rfl⟩ := ho3.slice (by rw [lanes_len, hX.2]; decide)
                have hl25 : (lanes A3).length = 25 := by rw [lanes_len, hX.2]
                rw [hl25] at ho3
                rw [hl25]
                have HA3 := Hd.mk hA3
                have HX3 := Hd.mk hX
                have Ho3 := Hd.mk ho3
                have Hb3 := Hd.mk hb3
                have HB3 := Hd.mk hB3
                clear ho3 hb3 hB3 hX hA3 hl25
                by_cases hlr : r < 24
                · have hd3 := d24t hlr
                  have HcS : Hd (nth constL r < 18446744073709551616) := ⟨const_low r⟩
                  have hv : Hd (roundS A3 (nth constL r) = permN A2 (r + 1)) := ⟨by rw [permN, HA3.out]⟩
                  go_wp2_with (go_at_call 51; refine (constant_any _ hlr _).mono ?_; rintro e w4 ⟨rfl, hB4⟩)
                  have K4 : Keeps (fun _ => False) wr w4 := Keeps.of_below hB4 (fun k hk h => absurd hk (Nat.not_lt.2 h))
                  have Ho4 := Hd.mk (Ho3.out.keeps K4 (fun _ _ h => h))
                  have Hb4 := Hd.mk (Hb3.out.keeps K4 (fun _ _ h => h))
                  have HB4 : Hd (Below w.heap.size w w4) := ⟨HB3.out.trans (K4.below HB3.out.size (fun _ _ h => h))⟩
                  clear hB4 K4 Ho3 Hb3 HB3
                  go_wp2_with (go_at_call 50; refine (round_any A3 (nth constL r) (gb + 1) g3 c3 w4 Ho4.out HX3.out.2 HX3.out.1 HcS.out).mono ?_; rintro e w5 ⟨v5, rfl, ho5, hB5⟩)
                  rw [hv.out] at ho5
                  have K5 : Keeps (fun _ => False) w4 w5 := Keeps.of_below hB5 (fun k hk h => absurd hk (Nat.not_lt.2 h))
                  have Ho5 := Hd.mk (ho5.down (B' := gb + 1) (Hb4.out.lt (k := gb) rfl).2)
                  have Hb5 := Hd.mk (Hb4.out.keeps K5 (fun _ _ h => h))
                  have HB5 : Hd (Below w.heap.size w w5) := ⟨HB4.out.trans (K5.below HB4.out.size (fun _ _ h => h))⟩
                  clear ho5 hB5 K5 Ho4 Hb4 HB4
                  go_wp2
                  go_roundw
                  case rel => exact ⟨r + 1, hlr, by go_num, Ho5.out, Hb5.out, HB5.out⟩
                  case measure => exact meas_n hlr
                · have hr24 : r = 24 := Nat.le_antisymm hr (Nat.not_lt.1 hlr)
                  have hd3 := d24f hlr
                  have HN : Hd (A3 = blocksN zeros b (n + 1)) := ⟨by
                    rw [← HA3.out, hr24, ← HA2.out, ← hP, absorb_blk hAl b n (by rw [hpb]; omega), ← HAA.out]; rfl⟩
                  have hPn := Hd.mk (next_block hP)
                  have hPw : IntKind.i64.wrap ((P : Int) + 136) = (P : Int) + 136 := IntWalk.i64_in _ (by omega)
                  rw [HN.out] at Ho3
                  clear hr24 HX3 HA3
                  go_wp2
                  go_roundw
                  case rel => exact ⟨n + 1, hlt, by rw [hPn.out], Ho3.out, Hb3.out, HB3.out⟩
                  case measure => exact meas_at hP136
        · have hnQ : n = Q := Nat.le_antisymm hn (Nat.not_lt.1 hlt)
          obtain ⟨hd1, hd1n⟩ := at_done hQ hP hnQ
          rw [hnQ] at HAA
          have HE : Hd (endState s.data.toList = A) := ⟨by rw [← hE.out, HAA.out]⟩
          clear hnQ HAA
          have hga : gb + 1 ≤ ga ∧ ga < wr.heap.size := Ho1.out.lt (k := ga) rfl
          have hwa : w.heap.size ≤ ga := Nat.le_trans hgb.1 (Nat.le_trans (Nat.le_succ gb) hga.1)
          clear Hb1 hE
          go_wp2
          go_loopw [8, 9] (fun v i wr => ∃ j : Nat, j ≤ 4 ∧ i = .int .i64 j ∧ Own wr (ga + 1) 5 v (Lib.byteCells (outN A (8 * j))) ∧ Own wr (gb + 1) 83 (.slice (some ⟨ga, 0, none⟩) 25 ca) (lanes A) ∧ Below w.heap.size w wr) (fun _ i _ => 4 - (intOf i).toNat)
          case atStart => exact ⟨0, Nat.zero_le _, rfl, Own.nil _ _ _, Ho1.out, HB1.out⟩
          case round =>
            clear Ho1 HB1 hga
            obtain ⟨j, hj, rfl, hv2, ho2, hB2⟩ := hrel
            have Hv2 := Hd.mk hv2
            have Ho2 := Hd.mk ho2
            have HB2 := Hd.mk hB2
            clear hv2 ho2 hB2
            by_cases hlj : j < 4
            · have hd2 := d4t hlj
              have hj25 : j < 25 := Nat.lt_of_lt_of_le hlj (by decide)
              have hj25i : (j : Int) < 25 := int_lt25 hj25
              have c1 := Ho2.out.cellAt (lanes_at (l := A) (j := j) (by rw [hAl]; exact hj25))
              have hxl := HL.out j
              have hO := Hd.mk (fun k => outB_at A j k)
              obtain ⟨X, hX⟩ : ∃ X, nth A j = X := ⟨_, rfl⟩
              rw [hX] at c1 hxl hO
              clear hX
              go_wp2
              go_loopw [8, 10, 11] (fun v x i wr => ∃ k : Nat, k ≤ 8 ∧ i = .int .i64 k ∧ x = .int .u64 ((X / 2 ^ (8 * k) : Nat) : Int) ∧ Own wr (ga + 1) 5 v (Lib.byteCells (outN A (8 * j + k))) ∧ Own wr (gb + 1) 83 (.slice (some ⟨ga, 0, none⟩) 25 ca) (lanes A) ∧ Below w.heap.size w wr) (fun _ _ i _ => 8 - (intOf i).toNat)
              case atStart => exact ⟨0, Nat.zero_le _, rfl, by simp, Hv2.out, Ho2.out, HB2.out⟩
              case round =>
                clear Hv2 Ho2 HB2 c1
                obtain ⟨k, hk, rfl, rfl, hv3, ho3, hB3⟩ := hrel
                have Hv3 := Hd.mk hv3
                have Ho3 := Hd.mk ho3
                have HB3 := Hd.mk hB3
                clear hv3 ho3 hB3
                by_cases hlk : k < 8
                · have hd3 := d8t hlk
                  have hz := hO.out k hlk
                  obtain ⟨z, hzz⟩ : ∃ z, outB A (8 * j + k) = z := ⟨_, rfl⟩
                  rw [hzz] at hz
                  have hY := Hd.mk (div_next X k)
                  have hXl : X / 2 ^ (8 * k) < 18446744073709551616 := Nat.lt_of_le_of_lt (Nat.div_le_self _ _) hxl
                  obtain ⟨Xk, hXk⟩ : ∃ n, X / 2 ^ (8 * k) = n := ⟨_, rfl⟩
                  rw [hXk] at hz hY hXl
                  rw [hXk]
                  obtain ⟨Y, hYY⟩ : ∃ n, X / 2 ^ (8 * (k + 1)) = n := ⟨_, rfl⟩
                  have HY := Hd.mk hYY
                  rw [hYY] at hY
                  obtain ⟨y1, y2, y3, y4, y5⟩ := out_facts hz hY.out hXl
                  have hsz : w.heap.size ≤ wr.heap.size := HB3.out.size
                  have hgs : ga + 1 ≤ wr.heap.size := (Ho3.out.lt (k := ga) rfl).2
                  have hlen := outN_len A (8 * j + k)
                  have hlen1 : (Lib.byteCells (outN A (8 * j + k))).length + 1 ≤ maxLen := by rw [byteCells_len, hlen]; exact out_len1 hlj hlk
                  have hlen2 : ((Lib.byteCells (outN A (8 * j + k))).length + 1) * 1 ≤ 140737488355328 := by rw [byteCells_len, hlen]; exact out_len2 hlj hlk
                  clear hXk hYY hY hz hlen
                  go_wp2_with (at_builtin; refine wp_app1 rfl _ _ 68 rfl 5 Tryd.underlying68 HI.out.1 HI.out.2.1 HI.out.2.2.1 HI.out.2.2.2 rfl u8 _ _ _ rfl Hv3.out rfl rfl hlen1 hlen2 hgs ?_)
                  intro v' w' hO' hK' _
                  rw [bc_snoc, ← hzz, outN_snoc] at hO'
                  have HO3 := Hd.mk hO'
                  have Ho4 := Hd.mk (Ho3.out.keeps hK' (fun g' h e => absurd (Hv3.out.lt e).1 (by rw [← Option.some.inj h]; exact Nat.not_succ_le_self ga)))
                  have HB4 : Hd (Below w.heap.size w w') := ⟨HB3.out.trans (hK'.below hsz (fun k hk h => absurd hk (Nat.not_lt.2 (Nat.le_trans hwa (Nat.le_of_succ_le (Hv3.out.lt h).1)))))⟩
                  clear hO' hK' Hv3 Ho3 HB3 hzz
                  go_wp2
                  go_roundw
                  case rel => exact ⟨k + 1, hlk, by go_num, by rw [HY.out], HO3.out, Ho4.out, HB4.out⟩
                  case measure => exact meas_n hlk
                · have hk8 : k = 8 := Nat.le_antisymm hk (Nat.not_lt.1 hlk)
                  have hd3 := d8f hlk
                  have Hv4 : Hd (Own wr (ga + 1) 5 u8 (Lib.byteCells (outN A (8 * (j + 1))))) := ⟨by
                    have := Hv3.out
                    rw [hk8] at this
                    exact this⟩
                  clear hk8 Hv3
                  go_wp2
                  go_roundw
                  case rel => exact ⟨j + 1, hlj, by go_num, Hv4.out, Ho3.out, HB3.out⟩
                  case measure => exact meas_n hlj
            · have hj4 : j = 4 := Nat.le_antisymm hj (Nat.not_lt.1 hlj)
              have hd2 := d4f hlj
              have hvv := Hv2.out
              rw [hj4] at hvv
              have hcv2 := hvv.back
              have HR : Hd (outN A (8 * 4) = sumL s.data.toList) := ⟨by rw [sumL, HE.out]⟩
              rw [HR.out] at hcv2
              clear hj4 hvv Hv2
              go_wp2
              go_ret
              exact ⟨rfl, HB2.out⟩
end Go.Proofs.YtimbhnnidohmaaaDoor.W
