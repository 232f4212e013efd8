/-
  IsaParses walked.
-/
import Derived.Test.YtlohhlbbkliehaaGreatDoorSm9
import Derived.Test.YtlohhlbbkliehaaGreatDoorPt9
import Derived.Test.YtlohhlbbkliehaaGreatDoorSt9
import Derived.Test.YtlohhlbbkliehaaGreatDoorWit9
import Derived.Test.YtlohhlbbkliehaaGreatDoorArgS
namespace Go.Proofs.YtlohhlbbkliehaaGreatDoor.W
open Go.RowKit
set_option linter.unusedVariables false

/-- what Parse hands back -/
theorem parse_cases (s : List UInt8) : ∃ er op a b c m, parseL s = (er, op, ⟨a, b, c, m⟩) ∧ ((er = 0 ∧ rightB op a b c m = true) ∨ (((er = 2 ∧ True) ∨ (er = 6 ∧ True)) ∧ op = 0 ∧ a = 0 ∧ b = 0 ∧ c = 0 ∧ m = 0)) := by
  unfold parseL
  split
  · exact ⟨2, 0, 0, 0, 0, 0, rfl, .inr ⟨.inl ⟨rfl, trivial⟩, rfl, rfl, rfl, rfl, rfl⟩⟩
  · split
    · exact ⟨2, 0, 0, 0, 0, 0, rfl, .inr ⟨.inl ⟨rfl, trivial⟩, rfl, rfl, rfl, rfl, rfl⟩⟩
    · split
      · exact ⟨2, 0, 0, 0, 0, 0, rfl, .inr ⟨.inl ⟨rfl, trivial⟩, rfl, rfl, rfl, rfl, rfl⟩⟩
      · rename_i v _
        split
        · rename_i h
          exact ⟨0, _, v.a, v.b, v.c, v.m, rfl, .inl ⟨rfl, h⟩⟩
        · exact ⟨6, 0, 0, 0, 0, 0, rfl, .inr ⟨.inr ⟨rfl, trivial⟩, rfl, rfl, rfl, rfl, rfl⟩⟩
theorem spread_len (b : UInt8) (l : List UInt8) : (spread b l).length ≤ 3 * l.length := by
  induction l with
  | nil => exact Nat.le_refl _
  | cons c l ih =>
    rw [spread_cons, List.length_append, List.length_cons]
    split <;> simp <;> omega
theorem spread_snoc (b : UInt8) (l : List UInt8) (k : Nat) (h : k < l.length) : spread b (l.take (k + 1)) = spread b (l.take k) ++ (if l[k] = 44 then [b, 44, b] else [l[k]]) := by
  rw [List.take_succ_eq_append_getElem h, spread_app, spread_cons]
  simp [spread]
theorem text_len (op a b c m : Int) : (textL op a b c m).length ≤ 1000 := by
  unfold textL
  split
  · rename_i h
    have hp := right_parts h
    obtain ⟨n, rfl⟩ : ∃ n : Nat, op = (n : Int) := ⟨op.toNat, by have := hp.op; omega⟩
    have hn : n < 31 := by have := hp.op; omega
    rw [Int.toNat_natCast]
    obtain ⟨h1, h2, h3, h4⟩ := words_ok n hn
    have hj := join_len (opsT a b c m (opersL n)) [44, 32] 22 (fun x hx => by
      unfold opsT at hx
      obtain ⟨ch, _, rfl⟩ := List.mem_map.1 hx
      exact opT_len ch _ (opd_i64 hp ch))
    have hl : (opsT a b c m (opersL n)).length ≤ 4 := by unfold opsT; rw [List.length_map]; exact h4
    have ht : ∀ l : List UInt8, (Lib.trimSpace l).length ≤ l.length := fun l => by
      unfold Lib.trimSpace
      have e1 := (List.dropWhile_sublist (l := (l.dropWhile Lib.isSp).reverse) Lib.isSp).length_le
      have e2 := (List.dropWhile_sublist (l := l) Lib.isSp).length_le
      rw [List.length_reverse] at e1 ⊢
      omega
    refine Nat.le_trans (ht _) ?_
    rw [List.length_append, List.length_append]
    have : (opsT a b c m (opersL n)).length * (22 + ([44, 32] : List UInt8).length) ≤ 4 * 24 := Nat.mul_le_mul hl (by decide)
    simp only [List.length_cons, List.length_nil] at this hj ⊢
    omega
  · exact Nat.zero_le _
theorem bytes_app (l m : List UInt8) : Lib.byteCells (l ++ m) = Lib.byteCells l ++ Lib.byteCells m := by unfold Lib.byteCells; rw [List.map_append]
theorem ba_app (l m : List UInt8) : (⟨l.toArray⟩ : ByteArray) ++ ⟨m.toArray⟩ = ⟨(l ++ m).toArray⟩ := by
  apply ByteArray.ext
  apply Array.toList_inj.1
  simp

set_option maxHeartbeats 8000000 in
set_option maxRecDepth 100000 in
theorem parses_any (W : World) (s : ByteArray) (tb : Bool) (hs : s.size ≤ 140737488351232) (hT : Tabs W) : Calls Tryz.prog 6 #[.string s, .bool tb] W fun e w' => e = .returned (.bool true) ∧ Below W.heap.size W w' := by
  have HS := Hd.mk (small_any W hT)
  have HT := Hd.mk hT
  clear hT
  by_cases h3 : 300 < s.size
  · have hd : decide ((300 : Int) < (s.size : Int)) = true := by simp; omega
    go_enter Tryz.func6, Tryz.ntmps6
    go_wp2_with fail
    refine HS.out.mono ?_
    rintro e w1 ⟨rfl, k1⟩
    have K1 := Hd.mk k1
    clear k1
    go_wp2
    go_ret
    exact ⟨rfl, K1.out⟩
  · have hd : decide ((300 : Int) < (s.size : Int)) = false := by simp; omega
    obtain ⟨i8, hi, hz0, hz1, hz2⟩ := info_parts infoU8
    have HI8 : Hd (_ ∧ _ ∧ _ ∧ _) := ⟨⟨hi, hz0, hz1, hz2⟩⟩
    clear hi hz0 hz1 hz2
    have HP := Hd.mk (fun w h => parse_any s w (by omega) h)
    obtain ⟨er, op, xa, xb, xc, xm, hpl, hcase⟩ := parse_cases s.data.toList
    have hPV : parseV (er, op, ⟨xa, xb, xc, xm⟩) = .tuple #[.agg #[.int .i64 op, .int .i64 xa, .int .i64 xb, .int .i64 xc, .int .i64 xm], .int .i64 er] := rfl
    rw [hpl, hPV] at HP
    -- the line with blanks
    obtain ⟨b, bl, hbk, hbl, hbsel⟩ : ∃ (b : UInt8) (bl : ByteArray), bk b = true ∧ bl = ⟨#[b]⟩ ∧ ((tb = true ∧ (⟨#[9]⟩ : ByteArray) = bl) ∨ (tb = false ∧ (⟨#[32]⟩ : ByteArray) = bl)) := by
      rcases tb with _ | _
      · exact ⟨32, _, by decide, rfl, .inr ⟨rfl, rfl⟩⟩
      · exact ⟨9, _, by decide, rfl, .inl ⟨rfl, rfl⟩⟩
    obtain ⟨t2, ht2⟩ : ∃ t2 : ByteArray, (⟨#[b]⟩ : ByteArray) ++ ⟨(spread b s.data.toList).toArray⟩ ++ ⟨#[b]⟩ ++ ⟨#[b]⟩ = t2 := ⟨_, rfl⟩
    have hsl : (spread b s.data.toList).length ≤ 900 := by
      have := spread_len b s.data.toList
      have h2 : s.data.toList.length = s.size := rfl
      omega
    have ht2d : t2.data.toList = [b] ++ (spread b s.data.toList ++ [b, b]) := by
      rw [← ht2, show (⟨#[b]⟩ : ByteArray) = ⟨([b] : List UInt8).toArray⟩ from rfl, ba_app, ba_app, ba_app]; simp
    have HP2 := Hd.mk (fun w h => parse_any t2 w (by show t2.data.toList.length ≤ _; rw [ht2d]; simp; omega) h)
    rw [ht2d, parse_spread hbk, hpl, hPV] at HP2
    have HE : Hd (bl ++ ⟨(spread b s.data.toList).toArray⟩ ++ bl ++ bl = t2) := ⟨by rw [hbl]; exact ht2⟩
    have HX := Hd.mk (fun w h hm => text_any op xa xb xc xm w h hm)
    have HXP := Hd.mk (fun w h => parse_any ⟨(textL op xa xb xc xm).toArray⟩ w (by show (textL op xa xb xc xm).length ≤ _; exact Nat.le_trans (text_len _ _ _ _ _) (by decide)) h)
    have HR := Hd.mk (fun w h hm => right_any op xa xb xc xm w h hm)
    obtain ⟨tx, htx⟩ : ∃ x : ByteArray, (⟨(textL op xa xb xc xm).toArray⟩ : ByteArray) = x := ⟨_, rfl⟩
    have htxd : (⟨(textL op xa xb xc xm).toArray⟩ : ByteArray).data.toList = textL op xa xb xc xm := rfl
    have HC : Hd ((er = 0 ∧ rightB op xa xb xc xm = true) ∨ (((er = 2 ∧ True) ∨ (er = 6 ∧ True)) ∧ op = 0 ∧ xa = 0 ∧ xb = 0 ∧ xc = 0 ∧ xm = 0)) := ⟨hcase⟩
    have HPT : Hd (rightB op xa xb xc xm = true → parseL (textL op xa xb xc xm) = (0, op, ⟨xa, xb, xc, xm⟩)) := ⟨fun h => (parse_text h).1⟩
    rw [htxd] at HXP
    rw [htx] at HXP HX
    obtain ⟨n, hn⟩ : ∃ n, s.size = n := ⟨_, rfl⟩
    have HN := Hd.mk hn
    have hn3 : n ≤ 300 := by omega
    have hsz1 : (⟨(spread b s.data.toList).toArray⟩ : ByteArray).size ≤ 900 := hsl
    have HSZ := Hd.mk hsz1
    have HBK := Hd.mk hbk
    have hb1 : bl.size = 1 := by rw [hbl]; rfl
    have hb0 : (0 : Nat) < bl.size := by omega
    have hbv : bl[0]'hb0 = b := by subst hbl; rfl
    have hbi : (0 : Int) < (bl.size : Int) := by omega
    clear hpl hcase hPV ht2d ht2 hsl hsz1 htx htxd hs h3 hn hbk hbl
    obtain ⟨sp, hsp⟩ : ∃ x : ByteArray, (⟨(spread b s.data.toList).toArray⟩ : ByteArray) = x := ⟨_, rfl⟩
    rw [hsp] at HE HSZ
    have hg1 : ¬ 9223372036854775807 < bl.size + sp.size := by have := HSZ.out; omega
    have hg2 : ¬ 9223372036854775807 < bl.size + sp.size + bl.size := by have := HSZ.out; omega
    have hg3 : ¬ 9223372036854775807 < bl.size + sp.size + bl.size + bl.size := by have := HSZ.out; omega
    have HG := Hd.mk (And.intro hg1 (And.intro hg2 hg3))
    have HSP := Hd.mk hsp
    have HB1 := Hd.mk hb1
    clear hg1 hg2 hg3 hsp hb1
    have HBS := Hd.mk hbsel
    have tbc : tb = true ∨ tb = false := by cases tb <;> simp
    rcases hbsel with ⟨rfl, hbe⟩ | ⟨rfl, hbe⟩
    all_goals
      have HBE := Hd.mk hbe
      clear hbe tbc HBS
      go_enter Tryz.func6, Tryz.ntmps6
      go_wp2_with fail
      refine HS.out.mono ?_
      rintro e w1 ⟨rfl, k1⟩
      have K1 := Hd.mk k1
      clear k1
      go_wp2_with fail
      refine (HP.out _ (HT.out.below K1.out).f).mono ?_
      rintro e w2 ⟨rfl, k2⟩
      have K2 := Hd.mk (Below.chain K1.out k2)
      clear k2 K1 HP HS
      have HI := Hd.mk (Blk.new w2 23 [.int .i64 op, .int .i64 xa, .int .i64 xb, .int .i64 xc, .int .i64 xm])
      have K3 := Hd.mk (K2.out.alloc K2.out.size (.cells #[.int .i64 op, .int .i64 xa, .int .i64 xb, .int .i64 xc, .int .i64 xm] 23))
      obtain ⟨I, hI⟩ : ∃ I, w2.heap.size = I := ⟨_, rfl⟩
      obtain ⟨w3, hw3⟩ : ∃ x, w2.alloc (.cells #[.int .i64 op, .int .i64 xa, .int .i64 xb, .int .i64 xc, .int .i64 xm] 23) = x := ⟨_, rfl⟩
      rw [hI] at HI
      have hw3' : w2.alloc (.cells [.int .i64 op, .int .i64 xa, .int .i64 xb, .int .i64 xc, .int .i64 xm].toArray 23) = w3 := hw3
      rw [hw3'] at HI
      rw [hw3] at K3
      clear K2 hw3'
      go_wp2
      rw [HBE.out]
      (try simp only [hw3, hI])
      clear hw3 hI HBE
      go_loopw [9, 10] (fun v i wr => ∃ k : Nat, k ≤ n ∧ i = .int .i64 k ∧ Hd (Own wr w3.heap.size 5 v (Lib.byteCells (spread b (s.data.toList.take k))) ∧ Keeps (fun _ => False) w3 wr)) (fun _ i _ => n - (intOf i).toNat)
      case atStart => exact ⟨0, Nat.zero_le _, rfl, ⟨Own.nil _ _ _, Keeps.refl _ _⟩⟩
      case round =>
        obtain ⟨k, hk, rfl, HO⟩ := hrel
        by_cases hlt : k < n
        · have hd1 : decide ((k : Int) < (s.size : Int)) = true := by simp; have := HN.out; omega
          have hks : k < s.size := by rw [HN.out]; exact hlt
          have hkl : k < s.data.toList.length := hks
          have hik : (k : Int) < (s.size : Int) := by omega
          have hi0 : (0 : Int) ≤ (k : Int) := by omega
          have hsn := spread_snoc b s.data.toList k hkl
          have hxl : (Lib.byteCells (spread b (s.data.toList.take k))).length ≤ 900 := by
            unfold Lib.byteCells
            rw [List.length_map]
            refine Nat.le_trans (spread_len b _) ?_
            rw [List.length_take]
            have := HN.out
            omega
          obtain ⟨ch, hch⟩ : ∃ ch, s[k]'hks = ch := ⟨_, rfl⟩
          have hch2 : s.data.toList[k] = ch := hch
          rw [hch2] at hsn
          obtain ⟨xs, hxs⟩ : ∃ xs, Lib.byteCells (spread b (s.data.toList.take k)) = xs := ⟨_, rfl⟩
          rw [hxs] at HO hxl
          by_cases h44 : ch = 44
          · have hb44 : ((ch.toNat : Int) == 44) = true := by subst h44; rfl
            have HSn : Hd (Lib.byteCells (spread b (s.data.toList.take (k + 1))) = xs ++ [.int .u8 (b.toNat : Int)] ++ [.int .u8 44] ++ [.int .u8 (b.toNat : Int)]) := ⟨by
              rw [hsn, if_pos h44, bytes_app, hxs]; simp [Lib.byteCells]⟩
            obtain ⟨wd, hwd⟩ : ∃ x, wr.drew = x := ⟨_, rfl⟩
            have S0 : Hd (St w3 wd u9 xs [] 900) := ⟨hwd ▸ ⟨HO.out.1.keeps ((Keeps.refl (fun _ => False) wr).drew) (fun _ _ h => h), fun j p h => by simp at h, HO.out.2.drew, hxl⟩⟩
            clear hsn hxs hxl h44 hch2 hkl HO
            go_wp2_with fail
            refine wp_region_tr default (fun _ => True) (.free 0 <| .free 1 <| .free 2 <| .free 7 <| .free 8 <| (.three 3 (.three 4 (.two 5 (.two 6 (.one 9 (.one 10 (.free 11 .done))) 9 (.one 6 (.one 10 (.free 11 .done)))) 9 (.one 5 (.one 6 (.one 10 (.free 11 .done))))) 5 (.two 4 (.two 6 (.one 9 (.one 10 (.free 11 .done))) 9 (.one 6 (.one 10 (.free 11 .done)))) 9 (.one 4 (.one 6 (.one 10 (.free 11 .done))))) 9 (.two 4 (.one 5 (.one 6 (.one 10 (.free 11 .done)))) 5 (.one 4 (.one 6 (.one 10 (.free 11 .done)))))) 5 (.two 3 (.two 4 (.two 6 (.one 9 (.one 10 (.free 11 .done))) 9 (.one 6 (.one 10 (.free 11 .done)))) 9 (.one 4 (.one 6 (.one 10 (.free 11 .done))))) 9 (.one 3 (.one 4 (.one 6 (.one 10 (.free 11 .done)))))) 9 (.two 3 (.two 4 (.one 5 (.one 6 (.one 10 (.free 11 .done)))) 5 (.one 4 (.one 6 (.one 10 (.free 11 .done))))) 5 (.one 3 (.one 4 (.one 6 (.one 10 (.free 11 .done)))))))) (by kernel_rfl) (by kernel_rfl) rfl (by kernel_rfl) (by kernel_rfl) trivial ?_
            rw [hwd]
            clear hwd
            repeat
              refine tr_free (v := ?_) (by rfl) ?_ ?_
              rotate_left
              · intro w' hSw
                go_simp
                first | done | with_reducible rfl
              simp only [Act.put, List.setIfInBounds_toArray, List.set_cons_zero, List.set_cons_succ, List.getD_cons_zero, List.getD_cons_succ]
            refine tr_three ?_ ?_ ?_
            · refine tr_one (fun K hK => ?_)
              go_simp
              obtain ⟨W1, hW⟩ : ∃ x, wd.alloc (.cells #[(.int .u8 (b.toNat : Int))] 5) = x := ⟨_, rfl⟩
              obtain ⟨g3, hg3⟩ : ∃ g, wd.heap.size = g := ⟨_, rfl⟩
              have S1 := Hd.mk (S0.out.build (.int .u8 (b.toNat : Int)) hg3 hW)
              rw [hW, hg3]
              refine hK.out _ _ trivial ?_
              clear hK K hW hg3
              refine tr_three ?_ ?_ ?_
              · refine tr_one (fun K hK => ?_)
                refine step_app1 rfl _ _ 43 rfl 5 Tryz.underlying43 HI8.out.1 HI8.out.2.1 HI8.out.2.2.1 HI8.out.2.2.2 rfl _ _ (.int .u8 (b.toNat : Int)) _ g3 1 (by rfl) S1.out.own (by rfl) (S1.out.blk 0 _ rfl).1 rfl (S1.out.l1 (by decide)) (S1.out.l2 (by decide)) S1.out.bs ?_
                intro v2 W2 h1 h2 h3
                have S2 := Hd.mk (S1.out.app h1 h2 h3)
                refine hK.out _ _ trivial ?_
                clear hK K h1 h2 h3
                simp only [Act.put, List.setIfInBounds_toArray, List.set_cons_zero, List.set_cons_succ, List.getD_cons_zero, List.getD_cons_succ]
                refine tr_two ?_ ?_
                · refine tr_one (fun K hK => ?_)
                  go_simp
                  obtain ⟨W3, hW⟩ : ∃ x, W2.alloc (.cells #[(.int .u8 44)] 5) = x := ⟨_, rfl⟩
                  obtain ⟨g5, hg5⟩ : ∃ g, W2.heap.size = g := ⟨_, rfl⟩
                  have S3 := Hd.mk (S2.out.build (.int .u8 44) hg5 hW)
                  rw [hW, hg5]
                  refine hK.out _ _ trivial ?_
                  clear hK K hW hg5
                  refine tr_two ?_ ?_
                  · refine tr_one (fun K hK => ?_)
                    refine step_app1 rfl _ _ 43 rfl 5 Tryz.underlying43 HI8.out.1 HI8.out.2.1 HI8.out.2.2.1 HI8.out.2.2.2 rfl _ _ (.int .u8 44) _ g5 1 (by rfl) S3.out.own (by rfl) (S3.out.blk 0 _ rfl).1 rfl (S3.out.l1 (by decide)) (S3.out.l2 (by decide)) S3.out.bs ?_
                    intro v4 W4 h1 h2 h3
                    have S4 := Hd.mk (S3.out.app h1 h2 h3)
                    refine hK.out _ _ trivial ?_
                    clear hK K h1 h2 h3
                    simp only [Act.put, List.setIfInBounds_toArray, List.set_cons_zero, List.set_cons_succ, List.getD_cons_zero, List.getD_cons_succ]
                    refine tr_one (fun K hK => ?_)
                    go_simp
                    obtain ⟨W5, hW⟩ : ∃ x, W4.alloc (.cells #[(.int .u8 (b.toNat : Int))] 5) = x := ⟨_, rfl⟩
                    obtain ⟨g9, hg9⟩ : ∃ g, W4.heap.size = g := ⟨_, rfl⟩
                    have S5 := Hd.mk (S4.out.build (.int .u8 (b.toNat : Int)) hg9 hW)
                    rw [hW, hg9]
                    refine hK.out _ _ trivial ?_
                    clear hK K hW hg9
                    refine tr_one (fun K hK => ?_)
                    refine step_app1 rfl _ _ 43 rfl 5 Tryz.underlying43 HI8.out.1 HI8.out.2.1 HI8.out.2.2.1 HI8.out.2.2.2 rfl _ _ (.int .u8 (b.toNat : Int)) _ g9 1 (by rfl) S5.out.own (by rfl) (S5.out.blk 0 _ rfl).1 rfl (S5.out.l1 (by decide)) (S5.out.l2 (by decide)) S5.out.bs ?_
                    intro v6 W6 h1 h2 h3
                    have S6 := Hd.mk (S5.out.app h1 h2 h3)
                    refine hK.out _ _ trivial ?_
                    clear hK K h1 h2 h3
                    simp only [Act.put, List.setIfInBounds_toArray, List.set_cons_zero, List.set_cons_succ, List.getD_cons_zero, List.getD_cons_succ]
                    have SF := Hd.mk (S6.out.fin HSn.out)
                    clear S6
                    refine tr_free (v := ?_) (by rfl) ?_ ?_
                    rotate_left
                    · intro w' hSw
                      go_simp
                      first | done | with_reducible rfl
                    simp only [Act.put, List.setIfInBounds_toArray, List.set_cons_zero, List.set_cons_succ, List.getD_cons_zero, List.getD_cons_succ]
                    refine NoPanic.normal ?_
                    go_wp2
                    go_roundw
                    case rel => exact ⟨k + 1, hlt, by go_num, SF⟩
                    case measure => simp [intOf]; omega
                  · refine tr_one (fun K hK => ?_)
                    go_simp
                    obtain ⟨W7, hW⟩ : ∃ x, W3.alloc (.cells #[(.int .u8 (b.toNat : Int))] 5) = x := ⟨_, rfl⟩
                    obtain ⟨g9, hg9⟩ : ∃ g, W3.heap.size = g := ⟨_, rfl⟩
                    have S7 := Hd.mk (S3.out.build (.int .u8 (b.toNat : Int)) hg9 hW)
                    rw [hW, hg9]
                    refine hK.out _ _ trivial ?_
                    clear hK K hW hg9
                    refine tr_one (fun K hK => ?_)
                    refine step_app1 rfl _ _ 43 rfl 5 Tryz.underlying43 HI8.out.1 HI8.out.2.1 HI8.out.2.2.1 HI8.out.2.2.2 rfl _ _ (.int .u8 44) _ g5 1 (by rfl) S7.out.own (by rfl) (S7.out.blk 1 _ rfl).1 rfl (S7.out.l1 (by decide)) (S7.out.l2 (by decide)) S7.out.bs ?_
                    intro v8 W8 h1 h2 h3
                    have S8 := Hd.mk (S7.out.app h1 h2 h3)
                    refine hK.out _ _ trivial ?_
                    clear hK K h1 h2 h3
                    simp only [Act.put, List.setIfInBounds_toArray, List.set_cons_zero, List.set_cons_succ, List.getD_cons_zero, List.getD_cons_succ]
                    refine tr_one (fun K hK => ?_)
                    refine step_app1 rfl _ _ 43 rfl 5 Tryz.underlying43 HI8.out.1 HI8.out.2.1 HI8.out.2.2.1 HI8.out.2.2.2 rfl _ _ (.int .u8 (b.toNat : Int)) _ g9 1 (by rfl) S8.out.own (by rfl) (S8.out.blk 0 _ rfl).1 rfl (S8.out.l1 (by decide)) (S8.out.l2 (by decide)) S8.out.bs ?_
                    intro v9 W9 h1 h2 h3
                    have S9 := Hd.mk (S8.out.app h1 h2 h3)
                    refine hK.out _ _ trivial ?_
                    clear hK K h1 h2 h3
                    simp only [Act.put, List.setIfInBounds_toArray, List.set_cons_zero, List.set_cons_succ, List.getD_cons_zero, List.getD_cons_succ]
                    have SF := Hd.mk (S9.out.fin HSn.out)
                    clear S9
                    refine tr_free (v := ?_) (by rfl) ?_ ?_
                    rotate_left
                    · intro w' hSw
                      go_simp
                      first | done | with_reducible rfl
                    simp only [Act.put, List.setIfInBounds_toArray, List.set_cons_zero, List.set_cons_succ, List.getD_cons_zero, List.getD_cons_succ]
                    refine NoPanic.normal ?_
                    go_wp2
                    go_roundw
                    case rel => exact ⟨k + 1, hlt, by go_num, SF⟩
                    case measure => simp [intOf]; omega
                · refine tr_one (fun K hK => ?_)
                  go_simp
                  obtain ⟨W10, hW⟩ : ∃ x, W2.alloc (.cells #[(.int .u8 (b.toNat : Int))] 5) = x := ⟨_, rfl⟩
                  obtain ⟨g9, hg9⟩ : ∃ g, W2.heap.size = g := ⟨_, rfl⟩
                  have S10 := Hd.mk (S2.out.build (.int .u8 (b.toNat : Int)) hg9 hW)
                  rw [hW, hg9]
                  refine hK.out _ _ trivial ?_
                  clear hK K hW hg9
                  refine tr_one (fun K hK => ?_)
                  go_simp
                  obtain ⟨W11, hW⟩ : ∃ x, W10.alloc (.cells #[(.int .u8 44)] 5) = x := ⟨_, rfl⟩
                  obtain ⟨g5, hg5⟩ : ∃ g, W10.heap.size = g := ⟨_, rfl⟩
                  have S11 := Hd.mk (S10.out.build (.int .u8 44) hg5 hW)
                  rw [hW, hg5]
                  refine hK.out _ _ trivial ?_
                  clear hK K hW hg5
                  refine tr_one (fun K hK => ?_)
                  refine step_app1 rfl _ _ 43 rfl 5 Tryz.underlying43 HI8.out.1 HI8.out.2.1 HI8.out.2.2.1 HI8.out.2.2.2 rfl _ _ (.int .u8 44) _ g5 1 (by rfl) S11.out.own (by rfl) (S11.out.blk 0 _ rfl).1 rfl (S11.out.l1 (by decide)) (S11.out.l2 (by decide)) S11.out.bs ?_
                  intro v12 W12 h1 h2 h3
                  have S12 := Hd.mk (S11.out.app h1 h2 h3)
                  refine hK.out _ _ trivial ?_
                  clear hK K h1 h2 h3
                  simp only [Act.put, List.setIfInBounds_toArray, List.set_cons_zero, List.set_cons_succ, List.getD_cons_zero, List.getD_cons_succ]
                  refine tr_one (fun K hK => ?_)
                  refine step_app1 rfl _ _ 43 rfl 5 Tryz.underlying43 HI8.out.1 HI8.out.2.1 HI8.out.2.2.1 HI8.out.2.2.2 rfl _ _ (.int .u8 (b.toNat : Int)) _ g9 1 (by rfl) S12.out.own (by rfl) (S12.out.blk 1 _ rfl).1 rfl (S12.out.l1 (by decide)) (S12.out.l2 (by decide)) S12.out.bs ?_
                  intro v13 W13 h1 h2 h3
                  have S13 := Hd.mk (S12.out.app h1 h2 h3)
                  refine hK.out _ _ trivial ?_
                  clear hK K h1 h2 h3
                  simp only [Act.put, List.setIfInBounds_toArray, List.set_cons_zero, List.set_cons_succ, List.getD_cons_zero, List.getD_cons_succ]
                  have SF := Hd.mk (S13.out.fin HSn.out)
                  clear S13
                  refine tr_free (v := ?_) (by rfl) ?_ ?_
                  rotate_left
                  · intro w' hSw
                    go_simp
                    first | done | with_reducible rfl
                  simp only [Act.put, List.setIfInBounds_toArray, List.set_cons_zero, List.set_cons_succ, List.getD_cons_zero, List.getD_cons_succ]
                  refine NoPanic.normal ?_
                  go_wp2
                  go_roundw
                  case rel => exact ⟨k + 1, hlt, by go_num, SF⟩
                  case measure => simp [intOf]; omega
              · refine tr_one (fun K hK => ?_)
                go_simp
                obtain ⟨W14, hW⟩ : ∃ x, W1.alloc (.cells #[(.int .u8 44)] 5) = x := ⟨_, rfl⟩
                obtain ⟨g5, hg5⟩ : ∃ g, W1.heap.size = g := ⟨_, rfl⟩
                have S14 := Hd.mk (S1.out.build (.int .u8 44) hg5 hW)
                rw [hW, hg5]
                refine hK.out _ _ trivial ?_
                clear hK K hW hg5
                refine tr_two ?_ ?_
                · refine tr_one (fun K hK => ?_)
                  refine step_app1 rfl _ _ 43 rfl 5 Tryz.underlying43 HI8.out.1 HI8.out.2.1 HI8.out.2.2.1 HI8.out.2.2.2 rfl _ _ (.int .u8 (b.toNat : Int)) _ g3 1 (by rfl) S14.out.own (by rfl) (S14.out.blk 1 _ rfl).1 rfl (S14.out.l1 (by decide)) (S14.out.l2 (by decide)) S14.out.bs ?_
                  intro v15 W15 h1 h2 h3
                  have S15 := Hd.mk (S14.out.app h1 h2 h3)
                  refine hK.out _ _ trivial ?_
                  clear hK K h1 h2 h3
                  simp only [Act.put, List.setIfInBounds_toArray, List.set_cons_zero, List.set_cons_succ, List.getD_cons_zero, List.getD_cons_succ]
                  refine tr_two ?_ ?_
                  · refine tr_one (fun K hK => ?_)
                    refine step_app1 rfl _ _ 43 rfl 5 Tryz.underlying43 HI8.out.1 HI8.out.2.1 HI8.out.2.2.1 HI8.out.2.2.2 rfl _ _ (.int .u8 44) _ g5 1 (by rfl) S15.out.own (by rfl) (S15.out.blk 0 _ rfl).1 rfl (S15.out.l1 (by decide)) (S15.out.l2 (by decide)) S15.out.bs ?_
                    intro v16 W16 h1 h2 h3
                    have S16 := Hd.mk (S15.out.app h1 h2 h3)
                    refine hK.out _ _ trivial ?_
                    clear hK K h1 h2 h3
                    simp only [Act.put, List.setIfInBounds_toArray, List.set_cons_zero, List.set_cons_succ, List.getD_cons_zero, List.getD_cons_succ]
                    refine tr_one (fun K hK => ?_)
                    go_simp
                    obtain ⟨W17, hW⟩ : ∃ x, W16.alloc (.cells #[(.int .u8 (b.toNat : Int))] 5) = x := ⟨_, rfl⟩
                    obtain ⟨g9, hg9⟩ : ∃ g, W16.heap.size = g := ⟨_, rfl⟩
                    have S17 := Hd.mk (S16.out.build (.int .u8 (b.toNat : Int)) hg9 hW)
                    rw [hW, hg9]
                    refine hK.out _ _ trivial ?_
                    clear hK K hW hg9
                    refine tr_one (fun K hK => ?_)
                    refine step_app1 rfl _ _ 43 rfl 5 Tryz.underlying43 HI8.out.1 HI8.out.2.1 HI8.out.2.2.1 HI8.out.2.2.2 rfl _ _ (.int .u8 (b.toNat : Int)) _ g9 1 (by rfl) S17.out.own (by rfl) (S17.out.blk 0 _ rfl).1 rfl (S17.out.l1 (by decide)) (S17.out.l2 (by decide)) S17.out.bs ?_
                    intro v18 W18 h1 h2 h3
                    have S18 := Hd.mk (S17.out.app h1 h2 h3)
                    refine hK.out _ _ trivial ?_
                    clear hK K h1 h2 h3
                    simp only [Act.put, List.setIfInBounds_toArray, List.set_cons_zero, List.set_cons_succ, List.getD_cons_zero, List.getD_cons_succ]
                    have SF := Hd.mk (S18.out.fin HSn.out)
                    clear S18
                    refine tr_free (v := ?_) (by rfl) ?_ ?_
                    rotate_left
                    · intro w' hSw
                      go_simp
                      first | done | with_reducible rfl
                    simp only [Act.put, List.setIfInBounds_toArray, List.set_cons_zero, List.set_cons_succ, List.getD_cons_zero, List.getD_cons_succ]
                    refine NoPanic.normal ?_
                    go_wp2
                    go_roundw
                    case rel => exact ⟨k + 1, hlt, by go_num, SF⟩
                    case measure => simp [intOf]; omega
                  · refine tr_one (fun K hK => ?_)
                    go_simp
                    obtain ⟨W19, hW⟩ : ∃ x, W15.alloc (.cells #[(.int .u8 (b.toNat : Int))] 5) = x := ⟨_, rfl⟩
                    obtain ⟨g9, hg9⟩ : ∃ g, W15.heap.size = g := ⟨_, rfl⟩
                    have S19 := Hd.mk (S15.out.build (.int .u8 (b.toNat : Int)) hg9 hW)
                    rw [hW, hg9]
                    refine hK.out _ _ trivial ?_
                    clear hK K hW hg9
                    refine tr_one (fun K hK => ?_)
                    refine step_app1 rfl _ _ 43 rfl 5 Tryz.underlying43 HI8.out.1 HI8.out.2.1 HI8.out.2.2.1 HI8.out.2.2.2 rfl _ _ (.int .u8 44) _ g5 1 (by rfl) S19.out.own (by rfl) (S19.out.blk 1 _ rfl).1 rfl (S19.out.l1 (by decide)) (S19.out.l2 (by decide)) S19.out.bs ?_
                    intro v20 W20 h1 h2 h3
                    have S20 := Hd.mk (S19.out.app h1 h2 h3)
                    refine hK.out _ _ trivial ?_
                    clear hK K h1 h2 h3
                    simp only [Act.put, List.setIfInBounds_toArray, List.set_cons_zero, List.set_cons_succ, List.getD_cons_zero, List.getD_cons_succ]
                    refine tr_one (fun K hK => ?_)
                    refine step_app1 rfl _ _ 43 rfl 5 Tryz.underlying43 HI8.out.1 HI8.out.2.1 HI8.out.2.2.1 HI8.out.2.2.2 rfl _ _ (.int .u8 (b.toNat : Int)) _ g9 1 (by rfl) S20.out.own (by rfl) (S20.out.blk 0 _ rfl).1 rfl (S20.out.l1 (by decide)) (S20.out.l2 (by decide)) S20.out.bs ?_
                    intro v21 W21 h1 h2 h3
                    have S21 := Hd.mk (S20.out.app h1 h2 h3)
                    refine hK.out _ _ trivial ?_
                    clear hK K h1 h2 h3
                    simp only [Act.put, List.setIfInBounds_toArray, List.set_cons_zero, List.set_cons_succ, List.getD_cons_zero, List.getD_cons_succ]
                    have SF := Hd.mk (S21.out.fin HSn.out)
                    clear S21
                    refine tr_free (v := ?_) (by rfl) ?_ ?_
                    rotate_left
                    · intro w' hSw
                      go_simp
                      first | done | with_reducible rfl
                    simp only [Act.put, List.setIfInBounds_toArray, List.set_cons_zero, List.set_cons_succ, List.getD_cons_zero, List.getD_cons_succ]
                    refine NoPanic.normal ?_
                    go_wp2
                    go_roundw
                    case rel => exact ⟨k + 1, hlt, by go_num, SF⟩
                    case measure => simp [intOf]; omega
                · refine tr_one (fun K hK => ?_)
                  go_simp
                  obtain ⟨W22, hW⟩ : ∃ x, W14.alloc (.cells #[(.int .u8 (b.toNat : Int))] 5) = x := ⟨_, rfl⟩
                  obtain ⟨g9, hg9⟩ : ∃ g, W14.heap.size = g := ⟨_, rfl⟩
                  have S22 := Hd.mk (S14.out.build (.int .u8 (b.toNat : Int)) hg9 hW)
                  rw [hW, hg9]
                  refine hK.out _ _ trivial ?_
                  clear hK K hW hg9
                  refine tr_one (fun K hK => ?_)
                  refine step_app1 rfl _ _ 43 rfl 5 Tryz.underlying43 HI8.out.1 HI8.out.2.1 HI8.out.2.2.1 HI8.out.2.2.2 rfl _ _ (.int .u8 (b.toNat : Int)) _ g3 1 (by rfl) S22.out.own (by rfl) (S22.out.blk 2 _ rfl).1 rfl (S22.out.l1 (by decide)) (S22.out.l2 (by decide)) S22.out.bs ?_
                  intro v23 W23 h1 h2 h3
                  have S23 := Hd.mk (S22.out.app h1 h2 h3)
                  refine hK.out _ _ trivial ?_
                  clear hK K h1 h2 h3
                  simp only [Act.put, List.setIfInBounds_toArray, List.set_cons_zero, List.set_cons_succ, List.getD_cons_zero, List.getD_cons_succ]
                  refine tr_one (fun K hK => ?_)
                  refine step_app1 rfl _ _ 43 rfl 5 Tryz.underlying43 HI8.out.1 HI8.out.2.1 HI8.out.2.2.1 HI8.out.2.2.2 rfl _ _ (.int .u8 44) _ g5 1 (by rfl) S23.out.own (by rfl) (S23.out.blk 1 _ rfl).1 rfl (S23.out.l1 (by decide)) (S23.out.l2 (by decide)) S23.out.bs ?_
                  intro v24 W24 h1 h2 h3
                  have S24 := Hd.mk (S23.out.app h1 h2 h3)
                  refine hK.out _ _ trivial ?_
                  clear hK K h1 h2 h3
                  simp only [Act.put, List.setIfInBounds_toArray, List.set_cons_zero, List.set_cons_succ, List.getD_cons_zero, List.getD_cons_succ]
                  refine tr_one (fun K hK => ?_)
                  refine step_app1 rfl _ _ 43 rfl 5 Tryz.underlying43 HI8.out.1 HI8.out.2.1 HI8.out.2.2.1 HI8.out.2.2.2 rfl _ _ (.int .u8 (b.toNat : Int)) _ g9 1 (by rfl) S24.out.own (by rfl) (S24.out.blk 0 _ rfl).1 rfl (S24.out.l1 (by decide)) (S24.out.l2 (by decide)) S24.out.bs ?_
                  intro v25 W25 h1 h2 h3
                  have S25 := Hd.mk (S24.out.app h1 h2 h3)
                  refine hK.out _ _ trivial ?_
                  clear hK K h1 h2 h3
                  simp only [Act.put, List.setIfInBounds_toArray, List.set_cons_zero, List.set_cons_succ, List.getD_cons_zero, List.getD_cons_succ]
                  have SF := Hd.mk (S25.out.fin HSn.out)
                  clear S25
                  refine tr_free (v := ?_) (by rfl) ?_ ?_
                  rotate_left
                  · intro w' hSw
                    go_simp
                    first | done | with_reducible rfl
                  simp only [Act.put, List.setIfInBounds_toArray, List.set_cons_zero, List.set_cons_succ, List.getD_cons_zero, List.getD_cons_succ]
                  refine NoPanic.normal ?_
                  go_wp2
                  go_roundw
                  case rel => exact ⟨k + 1, hlt, by go_num, SF⟩
                  case measure => simp [intOf]; omega
              · refine tr_one (fun K hK => ?_)
                go_simp
                obtain ⟨W26, hW⟩ : ∃ x, W1.alloc (.cells #[(.int .u8 (b.toNat : Int))] 5) = x := ⟨_, rfl⟩
                obtain ⟨g9, hg9⟩ : ∃ g, W1.heap.size = g := ⟨_, rfl⟩
                have S26 := Hd.mk (S1.out.build (.int .u8 (b.toNat : Int)) hg9 hW)
                rw [hW, hg9]
                refine hK.out _ _ trivial ?_
                clear hK K hW hg9
                refine tr_two ?_ ?_
                · refine tr_one (fun K hK => ?_)
                  refine step_app1 rfl _ _ 43 rfl 5 Tryz.underlying43 HI8.out.1 HI8.out.2.1 HI8.out.2.2.1 HI8.out.2.2.2 rfl _ _ (.int .u8 (b.toNat : Int)) _ g3 1 (by rfl) S26.out.own (by rfl) (S26.out.blk 1 _ rfl).1 rfl (S26.out.l1 (by decide)) (S26.out.l2 (by decide)) S26.out.bs ?_
                  intro v27 W27 h1 h2 h3
                  have S27 := Hd.mk (S26.out.app h1 h2 h3)
                  refine hK.out _ _ trivial ?_
                  clear hK K h1 h2 h3
                  simp only [Act.put, List.setIfInBounds_toArray, List.set_cons_zero, List.set_cons_succ, List.getD_cons_zero, List.getD_cons_succ]
                  refine tr_one (fun K hK => ?_)
                  go_simp
                  obtain ⟨W28, hW⟩ : ∃ x, W27.alloc (.cells #[(.int .u8 44)] 5) = x := ⟨_, rfl⟩
                  obtain ⟨g5, hg5⟩ : ∃ g, W27.heap.size = g := ⟨_, rfl⟩
                  have S28 := Hd.mk (S27.out.build (.int .u8 44) hg5 hW)
                  rw [hW, hg5]
                  refine hK.out _ _ trivial ?_
                  clear hK K hW hg5
                  refine tr_one (fun K hK => ?_)
                  refine step_app1 rfl _ _ 43 rfl 5 Tryz.underlying43 HI8.out.1 HI8.out.2.1 HI8.out.2.2.1 HI8.out.2.2.2 rfl _ _ (.int .u8 44) _ g5 1 (by rfl) S28.out.own (by rfl) (S28.out.blk 0 _ rfl).1 rfl (S28.out.l1 (by decide)) (S28.out.l2 (by decide)) S28.out.bs ?_
                  intro v29 W29 h1 h2 h3
                  have S29 := Hd.mk (S28.out.app h1 h2 h3)
                  refine hK.out _ _ trivial ?_
                  clear hK K h1 h2 h3
                  simp only [Act.put, List.setIfInBounds_toArray, List.set_cons_zero, List.set_cons_succ, List.getD_cons_zero, List.getD_cons_succ]
                  refine tr_one (fun K hK => ?_)
                  refine step_app1 rfl _ _ 43 rfl 5 Tryz.underlying43 HI8.out.1 HI8.out.2.1 HI8.out.2.2.1 HI8.out.2.2.2 rfl _ _ (.int .u8 (b.toNat : Int)) _ g9 1 (by rfl) S29.out.own (by rfl) (S29.out.blk 1 _ rfl).1 rfl (S29.out.l1 (by decide)) (S29.out.l2 (by decide)) S29.out.bs ?_
                  intro v30 W30 h1 h2 h3
                  have S30 := Hd.mk (S29.out.app h1 h2 h3)
                  refine hK.out _ _ trivial ?_
                  clear hK K h1 h2 h3
                  simp only [Act.put, List.setIfInBounds_toArray, List.set_cons_zero, List.set_cons_succ, List.getD_cons_zero, List.getD_cons_succ]
                  have SF := Hd.mk (S30.out.fin HSn.out)
                  clear S30
                  refine tr_free (v := ?_) (by rfl) ?_ ?_
                  rotate_left
                  · intro w' hSw
                    go_simp
                    first | done | with_reducible rfl
                  simp only [Act.put, List.setIfInBounds_toArray, List.set_cons_zero, List.set_cons_succ, List.getD_cons_zero, List.getD_cons_succ]
                  refine NoPanic.normal ?_
                  go_wp2
                  go_roundw
                  case rel => exact ⟨k + 1, hlt, by go_num, SF⟩
                  case measure => simp [intOf]; omega
                · refine tr_one (fun K hK => ?_)
                  go_simp
                  obtain ⟨W31, hW⟩ : ∃ x, W26.alloc (.cells #[(.int .u8 44)] 5) = x := ⟨_, rfl⟩
                  obtain ⟨g5, hg5⟩ : ∃ g, W26.heap.size = g := ⟨_, rfl⟩
                  have S31 := Hd.mk (S26.out.build (.int .u8 44) hg5 hW)
                  rw [hW, hg5]
                  refine hK.out _ _ trivial ?_
                  clear hK K hW hg5
                  refine tr_one (fun K hK => ?_)
                  refine step_app1 rfl _ _ 43 rfl 5 Tryz.underlying43 HI8.out.1 HI8.out.2.1 HI8.out.2.2.1 HI8.out.2.2.2 rfl _ _ (.int .u8 (b.toNat : Int)) _ g3 1 (by rfl) S31.out.own (by rfl) (S31.out.blk 2 _ rfl).1 rfl (S31.out.l1 (by decide)) (S31.out.l2 (by decide)) S31.out.bs ?_
                  intro v32 W32 h1 h2 h3
                  have S32 := Hd.mk (S31.out.app h1 h2 h3)
                  refine hK.out _ _ trivial ?_
                  clear hK K h1 h2 h3
                  simp only [Act.put, List.setIfInBounds_toArray, List.set_cons_zero, List.set_cons_succ, List.getD_cons_zero, List.getD_cons_succ]
                  refine tr_one (fun K hK => ?_)
                  refine step_app1 rfl _ _ 43 rfl 5 Tryz.underlying43 HI8.out.1 HI8.out.2.1 HI8.out.2.2.1 HI8.out.2.2.2 rfl _ _ (.int .u8 44) _ g5 1 (by rfl) S32.out.own (by rfl) (S32.out.blk 0 _ rfl).1 rfl (S32.out.l1 (by decide)) (S32.out.l2 (by decide)) S32.out.bs ?_
                  intro v33 W33 h1 h2 h3
                  have S33 := Hd.mk (S32.out.app h1 h2 h3)
                  refine hK.out _ _ trivial ?_
                  clear hK K h1 h2 h3
                  simp only [Act.put, List.setIfInBounds_toArray, List.set_cons_zero, List.set_cons_succ, List.getD_cons_zero, List.getD_cons_succ]
                  refine tr_one (fun K hK => ?_)
                  refine step_app1 rfl _ _ 43 rfl 5 Tryz.underlying43 HI8.out.1 HI8.out.2.1 HI8.out.2.2.1 HI8.out.2.2.2 rfl _ _ (.int .u8 (b.toNat : Int)) _ g9 1 (by rfl) S33.out.own (by rfl) (S33.out.blk 1 _ rfl).1 rfl (S33.out.l1 (by decide)) (S33.out.l2 (by decide)) S33.out.bs ?_
                  intro v34 W34 h1 h2 h3
                  have S34 := Hd.mk (S33.out.app h1 h2 h3)
                  refine hK.out _ _ trivial ?_
                  clear hK K h1 h2 h3
                  simp only [Act.put, List.setIfInBounds_toArray, List.set_cons_zero, List.set_cons_succ, List.getD_cons_zero, List.getD_cons_succ]
                  have SF := Hd.mk (S34.out.fin HSn.out)
                  clear S34
                  refine tr_free (v := ?_) (by rfl) ?_ ?_
                  rotate_left
                  · intro w' hSw
                    go_simp
                    first | done | with_reducible rfl
                  simp only [Act.put, List.setIfInBounds_toArray, List.set_cons_zero, List.set_cons_succ, List.getD_cons_zero, List.getD_cons_succ]
                  refine NoPanic.normal ?_
                  go_wp2
                  go_roundw
                  case rel => exact ⟨k + 1, hlt, by go_num, SF⟩
                  case measure => simp [intOf]; omega
            · refine tr_one (fun K hK => ?_)
              go_simp
              obtain ⟨W35, hW⟩ : ∃ x, wd.alloc (.cells #[(.int .u8 44)] 5) = x := ⟨_, rfl⟩
              obtain ⟨g5, hg5⟩ : ∃ g, wd.heap.size = g := ⟨_, rfl⟩
              have S35 := Hd.mk (S0.out.build (.int .u8 44) hg5 hW)
              rw [hW, hg5]
              refine hK.out _ _ trivial ?_
              clear hK K hW hg5
              refine tr_two ?_ ?_
              · refine tr_one (fun K hK => ?_)
                go_simp
                obtain ⟨W36, hW⟩ : ∃ x, W35.alloc (.cells #[(.int .u8 (b.toNat : Int))] 5) = x := ⟨_, rfl⟩
                obtain ⟨g3, hg3⟩ : ∃ g, W35.heap.size = g := ⟨_, rfl⟩
                have S36 := Hd.mk (S35.out.build (.int .u8 (b.toNat : Int)) hg3 hW)
                rw [hW, hg3]
                refine hK.out _ _ trivial ?_
                clear hK K hW hg3
                refine tr_two ?_ ?_
                · refine tr_one (fun K hK => ?_)
                  refine step_app1 rfl _ _ 43 rfl 5 Tryz.underlying43 HI8.out.1 HI8.out.2.1 HI8.out.2.2.1 HI8.out.2.2.2 rfl _ _ (.int .u8 (b.toNat : Int)) _ g3 1 (by rfl) S36.out.own (by rfl) (S36.out.blk 0 _ rfl).1 rfl (S36.out.l1 (by decide)) (S36.out.l2 (by decide)) S36.out.bs ?_
                  intro v37 W37 h1 h2 h3
                  have S37 := Hd.mk (S36.out.app h1 h2 h3)
                  refine hK.out _ _ trivial ?_
                  clear hK K h1 h2 h3
                  simp only [Act.put, List.setIfInBounds_toArray, List.set_cons_zero, List.set_cons_succ, List.getD_cons_zero, List.getD_cons_succ]
                  refine tr_two ?_ ?_
                  · refine tr_one (fun K hK => ?_)
                    refine step_app1 rfl _ _ 43 rfl 5 Tryz.underlying43 HI8.out.1 HI8.out.2.1 HI8.out.2.2.1 HI8.out.2.2.2 rfl _ _ (.int .u8 44) _ g5 1 (by rfl) S37.out.own (by rfl) (S37.out.blk 1 _ rfl).1 rfl (S37.out.l1 (by decide)) (S37.out.l2 (by decide)) S37.out.bs ?_
                    intro v38 W38 h1 h2 h3
                    have S38 := Hd.mk (S37.out.app h1 h2 h3)
                    refine hK.out _ _ trivial ?_
                    clear hK K h1 h2 h3
                    simp only [Act.put, List.setIfInBounds_toArray, List.set_cons_zero, List.set_cons_succ, List.getD_cons_zero, List.getD_cons_succ]
                    refine tr_one (fun K hK => ?_)
                    go_simp
                    obtain ⟨W39, hW⟩ : ∃ x, W38.alloc (.cells #[(.int .u8 (b.toNat : Int))] 5) = x := ⟨_, rfl⟩
                    obtain ⟨g9, hg9⟩ : ∃ g, W38.heap.size = g := ⟨_, rfl⟩
                    have S39 := Hd.mk (S38.out.build (.int .u8 (b.toNat : Int)) hg9 hW)
                    rw [hW, hg9]
                    refine hK.out _ _ trivial ?_
                    clear hK K hW hg9
                    refine tr_one (fun K hK => ?_)
                    refine step_app1 rfl _ _ 43 rfl 5 Tryz.underlying43 HI8.out.1 HI8.out.2.1 HI8.out.2.2.1 HI8.out.2.2.2 rfl _ _ (.int .u8 (b.toNat : Int)) _ g9 1 (by rfl) S39.out.own (by rfl) (S39.out.blk 0 _ rfl).1 rfl (S39.out.l1 (by decide)) (S39.out.l2 (by decide)) S39.out.bs ?_
                    intro v40 W40 h1 h2 h3
                    have S40 := Hd.mk (S39.out.app h1 h2 h3)
                    refine hK.out _ _ trivial ?_
                    clear hK K h1 h2 h3
                    simp only [Act.put, List.setIfInBounds_toArray, List.set_cons_zero, List.set_cons_succ, List.getD_cons_zero, List.getD_cons_succ]
                    have SF := Hd.mk (S40.out.fin HSn.out)
                    clear S40
                    refine tr_free (v := ?_) (by rfl) ?_ ?_
                    rotate_left
                    · intro w' hSw
                      go_simp
                      first | done | with_reducible rfl
                    simp only [Act.put, List.setIfInBounds_toArray, List.set_cons_zero, List.set_cons_succ, List.getD_cons_zero, List.getD_cons_succ]
                    refine NoPanic.normal ?_
                    go_wp2
                    go_roundw
                    case rel => exact ⟨k + 1, hlt, by go_num, SF⟩
                    case measure => simp [intOf]; omega
                  · refine tr_one (fun K hK => ?_)
                    go_simp
                    obtain ⟨W41, hW⟩ : ∃ x, W37.alloc (.cells #[(.int .u8 (b.toNat : Int))] 5) = x := ⟨_, rfl⟩
                    obtain ⟨g9, hg9⟩ : ∃ g, W37.heap.size = g := ⟨_, rfl⟩
                    have S41 := Hd.mk (S37.out.build (.int .u8 (b.toNat : Int)) hg9 hW)
                    rw [hW, hg9]
                    refine hK.out _ _ trivial ?_
                    clear hK K hW hg9
                    refine tr_one (fun K hK => ?_)
                    refine step_app1 rfl _ _ 43 rfl 5 Tryz.underlying43 HI8.out.1 HI8.out.2.1 HI8.out.2.2.1 HI8.out.2.2.2 rfl _ _ (.int .u8 44) _ g5 1 (by rfl) S41.out.own (by rfl) (S41.out.blk 2 _ rfl).1 rfl (S41.out.l1 (by decide)) (S41.out.l2 (by decide)) S41.out.bs ?_
                    intro v42 W42 h1 h2 h3
                    have S42 := Hd.mk (S41.out.app h1 h2 h3)
                    refine hK.out _ _ trivial ?_
                    clear hK K h1 h2 h3
                    simp only [Act.put, List.setIfInBounds_toArray, List.set_cons_zero, List.set_cons_succ, List.getD_cons_zero, List.getD_cons_succ]
                    refine tr_one (fun K hK => ?_)
                    refine step_app1 rfl _ _ 43 rfl 5 Tryz.underlying43 HI8.out.1 HI8.out.2.1 HI8.out.2.2.1 HI8.out.2.2.2 rfl _ _ (.int .u8 (b.toNat : Int)) _ g9 1 (by rfl) S42.out.own (by rfl) (S42.out.blk 0 _ rfl).1 rfl (S42.out.l1 (by decide)) (S42.out.l2 (by decide)) S42.out.bs ?_
                    intro v43 W43 h1 h2 h3
                    have S43 := Hd.mk (S42.out.app h1 h2 h3)
                    refine hK.out _ _ trivial ?_
                    clear hK K h1 h2 h3
                    simp only [Act.put, List.setIfInBounds_toArray, List.set_cons_zero, List.set_cons_succ, List.getD_cons_zero, List.getD_cons_succ]
                    have SF := Hd.mk (S43.out.fin HSn.out)
                    clear S43
                    refine tr_free (v := ?_) (by rfl) ?_ ?_
                    rotate_left
                    · intro w' hSw
                      go_simp
                      first | done | with_reducible rfl
                    simp only [Act.put, List.setIfInBounds_toArray, List.set_cons_zero, List.set_cons_succ, List.getD_cons_zero, List.getD_cons_succ]
                    refine NoPanic.normal ?_
                    go_wp2
                    go_roundw
                    case rel => exact ⟨k + 1, hlt, by go_num, SF⟩
                    case measure => simp [intOf]; omega
                · refine tr_one (fun K hK => ?_)
                  go_simp
                  obtain ⟨W44, hW⟩ : ∃ x, W36.alloc (.cells #[(.int .u8 (b.toNat : Int))] 5) = x := ⟨_, rfl⟩
                  obtain ⟨g9, hg9⟩ : ∃ g, W36.heap.size = g := ⟨_, rfl⟩
                  have S44 := Hd.mk (S36.out.build (.int .u8 (b.toNat : Int)) hg9 hW)
                  rw [hW, hg9]
                  refine hK.out _ _ trivial ?_
                  clear hK K hW hg9
                  refine tr_one (fun K hK => ?_)
                  refine step_app1 rfl _ _ 43 rfl 5 Tryz.underlying43 HI8.out.1 HI8.out.2.1 HI8.out.2.2.1 HI8.out.2.2.2 rfl _ _ (.int .u8 (b.toNat : Int)) _ g3 1 (by rfl) S44.out.own (by rfl) (S44.out.blk 1 _ rfl).1 rfl (S44.out.l1 (by decide)) (S44.out.l2 (by decide)) S44.out.bs ?_
                  intro v45 W45 h1 h2 h3
                  have S45 := Hd.mk (S44.out.app h1 h2 h3)
                  refine hK.out _ _ trivial ?_
                  clear hK K h1 h2 h3
                  simp only [Act.put, List.setIfInBounds_toArray, List.set_cons_zero, List.set_cons_succ, List.getD_cons_zero, List.getD_cons_succ]
                  refine tr_one (fun K hK => ?_)
                  refine step_app1 rfl _ _ 43 rfl 5 Tryz.underlying43 HI8.out.1 HI8.out.2.1 HI8.out.2.2.1 HI8.out.2.2.2 rfl _ _ (.int .u8 44) _ g5 1 (by rfl) S45.out.own (by rfl) (S45.out.blk 2 _ rfl).1 rfl (S45.out.l1 (by decide)) (S45.out.l2 (by decide)) S45.out.bs ?_
                  intro v46 W46 h1 h2 h3
                  have S46 := Hd.mk (S45.out.app h1 h2 h3)
                  refine hK.out _ _ trivial ?_
                  clear hK K h1 h2 h3
                  simp only [Act.put, List.setIfInBounds_toArray, List.set_cons_zero, List.set_cons_succ, List.getD_cons_zero, List.getD_cons_succ]
                  refine tr_one (fun K hK => ?_)
                  refine step_app1 rfl _ _ 43 rfl 5 Tryz.underlying43 HI8.out.1 HI8.out.2.1 HI8.out.2.2.1 HI8.out.2.2.2 rfl _ _ (.int .u8 (b.toNat : Int)) _ g9 1 (by rfl) S46.out.own (by rfl) (S46.out.blk 0 _ rfl).1 rfl (S46.out.l1 (by decide)) (S46.out.l2 (by decide)) S46.out.bs ?_
                  intro v47 W47 h1 h2 h3
                  have S47 := Hd.mk (S46.out.app h1 h2 h3)
                  refine hK.out _ _ trivial ?_
                  clear hK K h1 h2 h3
                  simp only [Act.put, List.setIfInBounds_toArray, List.set_cons_zero, List.set_cons_succ, List.getD_cons_zero, List.getD_cons_succ]
                  have SF := Hd.mk (S47.out.fin HSn.out)
                  clear S47
                  refine tr_free (v := ?_) (by rfl) ?_ ?_
                  rotate_left
                  · intro w' hSw
                    go_simp
                    first | done | with_reducible rfl
                  simp only [Act.put, List.setIfInBounds_toArray, List.set_cons_zero, List.set_cons_succ, List.getD_cons_zero, List.getD_cons_succ]
                  refine NoPanic.normal ?_
                  go_wp2
                  go_roundw
                  case rel => exact ⟨k + 1, hlt, by go_num, SF⟩
                  case measure => simp [intOf]; omega
              · refine tr_one (fun K hK => ?_)
                go_simp
                obtain ⟨W48, hW⟩ : ∃ x, W35.alloc (.cells #[(.int .u8 (b.toNat : Int))] 5) = x := ⟨_, rfl⟩
                obtain ⟨g9, hg9⟩ : ∃ g, W35.heap.size = g := ⟨_, rfl⟩
                have S48 := Hd.mk (S35.out.build (.int .u8 (b.toNat : Int)) hg9 hW)
                rw [hW, hg9]
                refine hK.out _ _ trivial ?_
                clear hK K hW hg9
                refine tr_one (fun K hK => ?_)
                go_simp
                obtain ⟨W49, hW⟩ : ∃ x, W48.alloc (.cells #[(.int .u8 (b.toNat : Int))] 5) = x := ⟨_, rfl⟩
                obtain ⟨g3, hg3⟩ : ∃ g, W48.heap.size = g := ⟨_, rfl⟩
                have S49 := Hd.mk (S48.out.build (.int .u8 (b.toNat : Int)) hg3 hW)
                rw [hW, hg3]
                refine hK.out _ _ trivial ?_
                clear hK K hW hg3
                refine tr_one (fun K hK => ?_)
                refine step_app1 rfl _ _ 43 rfl 5 Tryz.underlying43 HI8.out.1 HI8.out.2.1 HI8.out.2.2.1 HI8.out.2.2.2 rfl _ _ (.int .u8 (b.toNat : Int)) _ g3 1 (by rfl) S49.out.own (by rfl) (S49.out.blk 0 _ rfl).1 rfl (S49.out.l1 (by decide)) (S49.out.l2 (by decide)) S49.out.bs ?_
                intro v50 W50 h1 h2 h3
                have S50 := Hd.mk (S49.out.app h1 h2 h3)
                refine hK.out _ _ trivial ?_
                clear hK K h1 h2 h3
                simp only [Act.put, List.setIfInBounds_toArray, List.set_cons_zero, List.set_cons_succ, List.getD_cons_zero, List.getD_cons_succ]
                refine tr_one (fun K hK => ?_)
                refine step_app1 rfl _ _ 43 rfl 5 Tryz.underlying43 HI8.out.1 HI8.out.2.1 HI8.out.2.2.1 HI8.out.2.2.2 rfl _ _ (.int .u8 44) _ g5 1 (by rfl) S50.out.own (by rfl) (S50.out.blk 2 _ rfl).1 rfl (S50.out.l1 (by decide)) (S50.out.l2 (by decide)) S50.out.bs ?_
                intro v51 W51 h1 h2 h3
                have S51 := Hd.mk (S50.out.app h1 h2 h3)
                refine hK.out _ _ trivial ?_
                clear hK K h1 h2 h3
                simp only [Act.put, List.setIfInBounds_toArray, List.set_cons_zero, List.set_cons_succ, List.getD_cons_zero, List.getD_cons_succ]
                refine tr_one (fun K hK => ?_)
                refine step_app1 rfl _ _ 43 rfl 5 Tryz.underlying43 HI8.out.1 HI8.out.2.1 HI8.out.2.2.1 HI8.out.2.2.2 rfl _ _ (.int .u8 (b.toNat : Int)) _ g9 1 (by rfl) S51.out.own (by rfl) (S51.out.blk 1 _ rfl).1 rfl (S51.out.l1 (by decide)) (S51.out.l2 (by decide)) S51.out.bs ?_
                intro v52 W52 h1 h2 h3
                have S52 := Hd.mk (S51.out.app h1 h2 h3)
                refine hK.out _ _ trivial ?_
                clear hK K h1 h2 h3
                simp only [Act.put, List.setIfInBounds_toArray, List.set_cons_zero, List.set_cons_succ, List.getD_cons_zero, List.getD_cons_succ]
                have SF := Hd.mk (S52.out.fin HSn.out)
                clear S52
                refine tr_free (v := ?_) (by rfl) ?_ ?_
                rotate_left
                · intro w' hSw
                  go_simp
                  first | done | with_reducible rfl
                simp only [Act.put, List.setIfInBounds_toArray, List.set_cons_zero, List.set_cons_succ, List.getD_cons_zero, List.getD_cons_succ]
                refine NoPanic.normal ?_
                go_wp2
                go_roundw
                case rel => exact ⟨k + 1, hlt, by go_num, SF⟩
                case measure => simp [intOf]; omega
            · refine tr_one (fun K hK => ?_)
              go_simp
              obtain ⟨W53, hW⟩ : ∃ x, wd.alloc (.cells #[(.int .u8 (b.toNat : Int))] 5) = x := ⟨_, rfl⟩
              obtain ⟨g9, hg9⟩ : ∃ g, wd.heap.size = g := ⟨_, rfl⟩
              have S53 := Hd.mk (S0.out.build (.int .u8 (b.toNat : Int)) hg9 hW)
              rw [hW, hg9]
              refine hK.out _ _ trivial ?_
              clear hK K hW hg9
              refine tr_two ?_ ?_
              · refine tr_one (fun K hK => ?_)
                go_simp
                obtain ⟨W54, hW⟩ : ∃ x, W53.alloc (.cells #[(.int .u8 (b.toNat : Int))] 5) = x := ⟨_, rfl⟩
                obtain ⟨g3, hg3⟩ : ∃ g, W53.heap.size = g := ⟨_, rfl⟩
                have S54 := Hd.mk (S53.out.build (.int .u8 (b.toNat : Int)) hg3 hW)
                rw [hW, hg3]
                refine hK.out _ _ trivial ?_
                clear hK K hW hg3
                refine tr_two ?_ ?_
                · refine tr_one (fun K hK => ?_)
                  refine step_app1 rfl _ _ 43 rfl 5 Tryz.underlying43 HI8.out.1 HI8.out.2.1 HI8.out.2.2.1 HI8.out.2.2.2 rfl _ _ (.int .u8 (b.toNat : Int)) _ g3 1 (by rfl) S54.out.own (by rfl) (S54.out.blk 0 _ rfl).1 rfl (S54.out.l1 (by decide)) (S54.out.l2 (by decide)) S54.out.bs ?_
                  intro v55 W55 h1 h2 h3
                  have S55 := Hd.mk (S54.out.app h1 h2 h3)
                  refine hK.out _ _ trivial ?_
                  clear hK K h1 h2 h3
                  simp only [Act.put, List.setIfInBounds_toArray, List.set_cons_zero, List.set_cons_succ, List.getD_cons_zero, List.getD_cons_succ]
                  refine tr_one (fun K hK => ?_)
                  go_simp
                  obtain ⟨W56, hW⟩ : ∃ x, W55.alloc (.cells #[(.int .u8 44)] 5) = x := ⟨_, rfl⟩
                  obtain ⟨g5, hg5⟩ : ∃ g, W55.heap.size = g := ⟨_, rfl⟩
                  have S56 := Hd.mk (S55.out.build (.int .u8 44) hg5 hW)
                  rw [hW, hg5]
                  refine hK.out _ _ trivial ?_
                  clear hK K hW hg5
                  refine tr_one (fun K hK => ?_)
                  refine step_app1 rfl _ _ 43 rfl 5 Tryz.underlying43 HI8.out.1 HI8.out.2.1 HI8.out.2.2.1 HI8.out.2.2.2 rfl _ _ (.int .u8 44) _ g5 1 (by rfl) S56.out.own (by rfl) (S56.out.blk 0 _ rfl).1 rfl (S56.out.l1 (by decide)) (S56.out.l2 (by decide)) S56.out.bs ?_
                  intro v57 W57 h1 h2 h3
                  have S57 := Hd.mk (S56.out.app h1 h2 h3)
                  refine hK.out _ _ trivial ?_
                  clear hK K h1 h2 h3
                  simp only [Act.put, List.setIfInBounds_toArray, List.set_cons_zero, List.set_cons_succ, List.getD_cons_zero, List.getD_cons_succ]
                  refine tr_one (fun K hK => ?_)
                  refine step_app1 rfl _ _ 43 rfl 5 Tryz.underlying43 HI8.out.1 HI8.out.2.1 HI8.out.2.2.1 HI8.out.2.2.2 rfl _ _ (.int .u8 (b.toNat : Int)) _ g9 1 (by rfl) S57.out.own (by rfl) (S57.out.blk 2 _ rfl).1 rfl (S57.out.l1 (by decide)) (S57.out.l2 (by decide)) S57.out.bs ?_
                  intro v58 W58 h1 h2 h3
                  have S58 := Hd.mk (S57.out.app h1 h2 h3)
                  refine hK.out _ _ trivial ?_
                  clear hK K h1 h2 h3
                  simp only [Act.put, List.setIfInBounds_toArray, List.set_cons_zero, List.set_cons_succ, List.getD_cons_zero, List.getD_cons_succ]
                  have SF := Hd.mk (S58.out.fin HSn.out)
                  clear S58
                  refine tr_free (v := ?_) (by rfl) ?_ ?_
                  rotate_left
                  · intro w' hSw
                    go_simp
                    first | done | with_reducible rfl
                  simp only [Act.put, List.setIfInBounds_toArray, List.set_cons_zero, List.set_cons_succ, List.getD_cons_zero, List.getD_cons_succ]
                  refine NoPanic.normal ?_
                  go_wp2
                  go_roundw
                  case rel => exact ⟨k + 1, hlt, by go_num, SF⟩
                  case measure => simp [intOf]; omega
                · refine tr_one (fun K hK => ?_)
                  go_simp
                  obtain ⟨W59, hW⟩ : ∃ x, W54.alloc (.cells #[(.int .u8 44)] 5) = x := ⟨_, rfl⟩
                  obtain ⟨g5, hg5⟩ : ∃ g, W54.heap.size = g := ⟨_, rfl⟩
                  have S59 := Hd.mk (S54.out.build (.int .u8 44) hg5 hW)
                  rw [hW, hg5]
                  refine hK.out _ _ trivial ?_
                  clear hK K hW hg5
                  refine tr_one (fun K hK => ?_)
                  refine step_app1 rfl _ _ 43 rfl 5 Tryz.underlying43 HI8.out.1 HI8.out.2.1 HI8.out.2.2.1 HI8.out.2.2.2 rfl _ _ (.int .u8 (b.toNat : Int)) _ g3 1 (by rfl) S59.out.own (by rfl) (S59.out.blk 1 _ rfl).1 rfl (S59.out.l1 (by decide)) (S59.out.l2 (by decide)) S59.out.bs ?_
                  intro v60 W60 h1 h2 h3
                  have S60 := Hd.mk (S59.out.app h1 h2 h3)
                  refine hK.out _ _ trivial ?_
                  clear hK K h1 h2 h3
                  simp only [Act.put, List.setIfInBounds_toArray, List.set_cons_zero, List.set_cons_succ, List.getD_cons_zero, List.getD_cons_succ]
                  refine tr_one (fun K hK => ?_)
                  refine step_app1 rfl _ _ 43 rfl 5 Tryz.underlying43 HI8.out.1 HI8.out.2.1 HI8.out.2.2.1 HI8.out.2.2.2 rfl _ _ (.int .u8 44) _ g5 1 (by rfl) S60.out.own (by rfl) (S60.out.blk 0 _ rfl).1 rfl (S60.out.l1 (by decide)) (S60.out.l2 (by decide)) S60.out.bs ?_
                  intro v61 W61 h1 h2 h3
                  have S61 := Hd.mk (S60.out.app h1 h2 h3)
                  refine hK.out _ _ trivial ?_
                  clear hK K h1 h2 h3
                  simp only [Act.put, List.setIfInBounds_toArray, List.set_cons_zero, List.set_cons_succ, List.getD_cons_zero, List.getD_cons_succ]
                  refine tr_one (fun K hK => ?_)
                  refine step_app1 rfl _ _ 43 rfl 5 Tryz.underlying43 HI8.out.1 HI8.out.2.1 HI8.out.2.2.1 HI8.out.2.2.2 rfl _ _ (.int .u8 (b.toNat : Int)) _ g9 1 (by rfl) S61.out.own (by rfl) (S61.out.blk 2 _ rfl).1 rfl (S61.out.l1 (by decide)) (S61.out.l2 (by decide)) S61.out.bs ?_
                  intro v62 W62 h1 h2 h3
                  have S62 := Hd.mk (S61.out.app h1 h2 h3)
                  refine hK.out _ _ trivial ?_
                  clear hK K h1 h2 h3
                  simp only [Act.put, List.setIfInBounds_toArray, List.set_cons_zero, List.set_cons_succ, List.getD_cons_zero, List.getD_cons_succ]
                  have SF := Hd.mk (S62.out.fin HSn.out)
                  clear S62
                  refine tr_free (v := ?_) (by rfl) ?_ ?_
                  rotate_left
                  · intro w' hSw
                    go_simp
                    first | done | with_reducible rfl
                  simp only [Act.put, List.setIfInBounds_toArray, List.set_cons_zero, List.set_cons_succ, List.getD_cons_zero, List.getD_cons_succ]
                  refine NoPanic.normal ?_
                  go_wp2
                  go_roundw
                  case rel => exact ⟨k + 1, hlt, by go_num, SF⟩
                  case measure => simp [intOf]; omega
              · refine tr_one (fun K hK => ?_)
                go_simp
                obtain ⟨W63, hW⟩ : ∃ x, W53.alloc (.cells #[(.int .u8 44)] 5) = x := ⟨_, rfl⟩
                obtain ⟨g5, hg5⟩ : ∃ g, W53.heap.size = g := ⟨_, rfl⟩
                have S63 := Hd.mk (S53.out.build (.int .u8 44) hg5 hW)
                rw [hW, hg5]
                refine hK.out _ _ trivial ?_
                clear hK K hW hg5
                refine tr_one (fun K hK => ?_)
                go_simp
                obtain ⟨W64, hW⟩ : ∃ x, W63.alloc (.cells #[(.int .u8 (b.toNat : Int))] 5) = x := ⟨_, rfl⟩
                obtain ⟨g3, hg3⟩ : ∃ g, W63.heap.size = g := ⟨_, rfl⟩
                have S64 := Hd.mk (S63.out.build (.int .u8 (b.toNat : Int)) hg3 hW)
                rw [hW, hg3]
                refine hK.out _ _ trivial ?_
                clear hK K hW hg3
                refine tr_one (fun K hK => ?_)
                refine step_app1 rfl _ _ 43 rfl 5 Tryz.underlying43 HI8.out.1 HI8.out.2.1 HI8.out.2.2.1 HI8.out.2.2.2 rfl _ _ (.int .u8 (b.toNat : Int)) _ g3 1 (by rfl) S64.out.own (by rfl) (S64.out.blk 0 _ rfl).1 rfl (S64.out.l1 (by decide)) (S64.out.l2 (by decide)) S64.out.bs ?_
                intro v65 W65 h1 h2 h3
                have S65 := Hd.mk (S64.out.app h1 h2 h3)
                refine hK.out _ _ trivial ?_
                clear hK K h1 h2 h3
                simp only [Act.put, List.setIfInBounds_toArray, List.set_cons_zero, List.set_cons_succ, List.getD_cons_zero, List.getD_cons_succ]
                refine tr_one (fun K hK => ?_)
                refine step_app1 rfl _ _ 43 rfl 5 Tryz.underlying43 HI8.out.1 HI8.out.2.1 HI8.out.2.2.1 HI8.out.2.2.2 rfl _ _ (.int .u8 44) _ g5 1 (by rfl) S65.out.own (by rfl) (S65.out.blk 1 _ rfl).1 rfl (S65.out.l1 (by decide)) (S65.out.l2 (by decide)) S65.out.bs ?_
                intro v66 W66 h1 h2 h3
                have S66 := Hd.mk (S65.out.app h1 h2 h3)
                refine hK.out _ _ trivial ?_
                clear hK K h1 h2 h3
                simp only [Act.put, List.setIfInBounds_toArray, List.set_cons_zero, List.set_cons_succ, List.getD_cons_zero, List.getD_cons_succ]
                refine tr_one (fun K hK => ?_)
                refine step_app1 rfl _ _ 43 rfl 5 Tryz.underlying43 HI8.out.1 HI8.out.2.1 HI8.out.2.2.1 HI8.out.2.2.2 rfl _ _ (.int .u8 (b.toNat : Int)) _ g9 1 (by rfl) S66.out.own (by rfl) (S66.out.blk 2 _ rfl).1 rfl (S66.out.l1 (by decide)) (S66.out.l2 (by decide)) S66.out.bs ?_
                intro v67 W67 h1 h2 h3
                have S67 := Hd.mk (S66.out.app h1 h2 h3)
                refine hK.out _ _ trivial ?_
                clear hK K h1 h2 h3
                simp only [Act.put, List.setIfInBounds_toArray, List.set_cons_zero, List.set_cons_succ, List.getD_cons_zero, List.getD_cons_succ]
                have SF := Hd.mk (S67.out.fin HSn.out)
                clear S67
                refine tr_free (v := ?_) (by rfl) ?_ ?_
                rotate_left
                · intro w' hSw
                  go_simp
                  first | done | with_reducible rfl
                simp only [Act.put, List.setIfInBounds_toArray, List.set_cons_zero, List.set_cons_succ, List.getD_cons_zero, List.getD_cons_succ]
                refine NoPanic.normal ?_
                go_wp2
                go_roundw
                case rel => exact ⟨k + 1, hlt, by go_num, SF⟩
                case measure => simp [intOf]; omega
          · have hb44 : ((ch.toNat : Int) == 44) = false := by
              simp only [beq_eq_false_iff_ne, ne_eq]
              intro e
              exact h44 (UInt8.toNat_inj.1 (by have : (44 : UInt8).toNat = 44 := rfl; omega))
            have HSn : Hd (Lib.byteCells (spread b (s.data.toList.take (k + 1))) = xs ++ [.int .u8 (ch.toNat : Int)]) := ⟨by
              rw [hsn, if_neg h44, bytes_app, hxs]; simp [Lib.byteCells]⟩
            have S0 : Hd (St w3 wr u9 xs [] 900) := ⟨HO.out.1, fun j p h => by simp at h, HO.out.2, hxl⟩
            obtain ⟨p9, c9, hv9⟩ := HO.out.1.slice'
            obtain ⟨N9, hN9⟩ : ∃ N, xs.length = N := ⟨_, rfl⟩
            rw [hN9] at hv9
            subst hv9
            clear hsn hxs hxl h44 hch2 hkl HO hN9
            go_wp2_with (at_builtin; refine wp_app1 rfl _ _ 43 rfl 5 Tryz.underlying43 HI8.out.1 HI8.out.2.1 HI8.out.2.2.1 HI8.out.2.2.2 rfl (.slice p9 N9 c9) _ _ wr rfl S0.out.own rfl rfl (S0.out.l1 (by decide)) (S0.out.l2 (by decide)) S0.out.bs ?_)
            intro v' w' h1 h2 h3
            have S1 := Hd.mk (S0.out.app h1 h2 h3)
            have SF := Hd.mk (S1.out.fin HSn.out)
            clear h1 h2 h3 S0 S1
            go_wp2
            go_roundw
            case rel => exact ⟨k + 1, hlt, by go_num, SF⟩
            case measure => simp [intOf]; omega
        · have hd1 : decide ((k : Int) < (s.size : Int)) = false := by simp; have := HN.out; omega
          have hnk : ¬ k < s.size := by rw [HN.out]; exact hlt
          have hkn : k = n := by omega
          have hall : s.data.toList.take k = s.data.toList := by rw [hkn, ← HN.out]; exact List.take_length
          rw [hall] at HO
          have hcv := HO.out.1.back
          rw [HSP.out] at hcv
          have KR := Hd.mk (HO.out.2.below (Nat.le_refl _) (fun _ _ h => h))
          have HT2 := Hd.mk (HT.out.below (Below.chain K3.out KR.out))
          have HIr := Hd.mk (HI.out.below KR.out HI.out.lt)
          obtain ⟨p9, c9, hv9⟩ := HO.out.1.slice'
          obtain ⟨N9, hN9⟩ : ∃ N, (Lib.byteCells (spread b s.data.toList)).length = N := ⟨_, rfl⟩
          rw [hN9] at hv9
          subst hv9
          obtain ⟨hg1, hg2, hg3⟩ := HG.out
          clear hkn hall HO hN9 hbv hbi hb0
          go_wp2_with fail
          rw [HE.out]
          clear hcv hg1 hg2 hg3
          refine (HP2.out _ HT2.out.f).mono ?_
          rintro e w4 ⟨rfl, k4⟩
          have K4 := Hd.mk (Below.chain K3.out (Below.chain KR.out k4))
          have HI4 := Hd.mk (HIr.out.below k4 HIr.out.lt)
          clear k4 KR K3 HT2 HIr HI HP2
          have HJ := Hd.mk (Blk.new w4 23 [.int .i64 op, .int .i64 xa, .int .i64 xb, .int .i64 xc, .int .i64 xm])
          have k5 : Below w4.heap.size w4 (w4.alloc (.cells #[.int .i64 op, .int .i64 xa, .int .i64 xb, .int .i64 xc, .int .i64 xm] 23)) := (Below.refl _ _).alloc (Nat.le_refl _) _
          have HI5 := Hd.mk (HI4.out.below k5 HI4.out.lt)
          have K5 := Hd.mk (Below.chain K4.out k5)
          clear k5 K4 HI4
          have c0 := HI5.out.at (j := 0) rfl
          have c1 := HI5.out.at (j := 1) rfl
          have c2 := HI5.out.at (j := 2) rfl
          have c3 := HI5.out.at (j := 3) rfl
          have c4 := HI5.out.at (j := 4) rfl
          have d0 := HJ.out.at (j := 0) rfl
          have d1 := HJ.out.at (j := 1) rfl
          have d2 := HJ.out.at (j := 2) rfl
          have d3 := HJ.out.at (j := 3) rfl
          have d4 := HJ.out.at (j := 4) rfl
          rcases HC.out with ⟨rfl, hr⟩ | ⟨⟨rfl, _⟩ | ⟨rfl, _⟩, rfl, rfl, rfl, rfl, rfl⟩
          · have hm : i64R xm := by have := (right_parts hr).m; unfold i64R; omega
            have HTX := Hd.mk (HX.out _ (HT.out.below K5.out) hm)
            have hpt := HPT.out hr
            rw [hpt] at HXP
            have hPV : parseV (0, op, ⟨xa, xb, xc, xm⟩) = .tuple #[.agg #[.int .i64 op, .int .i64 xa, .int .i64 xb, .int .i64 xc, .int .i64 xm], .int .i64 0] := rfl
            rw [hPV] at HXP
            rw [hr] at HR
            have HM := Hd.mk hm
            clear hm hpt hPV hr
            go_wp2_with fail
            refine HTX.out.mono ?_
            rintro e w6 ⟨rfl, k6⟩
            have HI6 := Hd.mk (HI5.out.below k6 HI5.out.lt)
            have K6 := Hd.mk (Below.chain K5.out k6)
            clear k6 HTX HJ d0 d1 d2 d3 d4 c0 c1 c2 c3 c4 HI5 K5
            go_wp2_with fail
            refine (HXP.out _ (HT.out.below K6.out).f).mono ?_
            rintro e w7 ⟨rfl, k7⟩
            have HI7 := Hd.mk (HI6.out.below k7 HI6.out.lt)
            have K7 := Hd.mk (Below.chain K6.out k7)
            clear k7 K6 HI6 HXP
            have HJ7 := Hd.mk (Blk.new w7 23 [.int .i64 op, .int .i64 xa, .int .i64 xb, .int .i64 xc, .int .i64 xm])
            have k8 : Below w7.heap.size w7 (w7.alloc (.cells #[.int .i64 op, .int .i64 xa, .int .i64 xb, .int .i64 xc, .int .i64 xm] 23)) := (Below.refl _ _).alloc (Nat.le_refl _) _
            have HI8 := Hd.mk (HI7.out.below k8 HI7.out.lt)
            have K8 := Hd.mk (Below.chain K7.out k8)
            clear k8 K7 HI7
            have c0 := HI8.out.at (j := 0) rfl
            have c1 := HI8.out.at (j := 1) rfl
            have c2 := HI8.out.at (j := 2) rfl
            have c3 := HI8.out.at (j := 3) rfl
            have c4 := HI8.out.at (j := 4) rfl
            go_wp2_with fail
            refine (HR.out _ (HT.out.below K8.out).f HM.out).mono ?_
            rintro e w9 ⟨rfl, k9⟩
            have HI9 := Hd.mk (HI8.out.below k9 HI8.out.lt)
            have HJ9 := Hd.mk (HJ7.out.below k9 HJ7.out.lt)
            have K9 := Hd.mk (Below.chain K8.out k9)
            clear k9 K8 HI8 HJ7 c0 c1 c2 c3 c4
            have c0 := HI9.out.at (j := 0) rfl
            have c1 := HI9.out.at (j := 1) rfl
            have c2 := HI9.out.at (j := 2) rfl
            have c3 := HI9.out.at (j := 3) rfl
            have c4 := HI9.out.at (j := 4) rfl
            have d0 := HJ9.out.at (j := 0) rfl
            have d1 := HJ9.out.at (j := 1) rfl
            have d2 := HJ9.out.at (j := 2) rfl
            have d3 := HJ9.out.at (j := 3) rfl
            have d4 := HJ9.out.at (j := 4) rfl
            go_wp2
            go_ret
            exact ⟨rfl, K9.out⟩
          · go_wp2
            go_ret
            exact ⟨rfl, K5.out⟩
          · go_wp2
            go_ret
            exact ⟨rfl, K5.out⟩

end Go.Proofs.YtlohhlbbkliehaaGreatDoor.W
