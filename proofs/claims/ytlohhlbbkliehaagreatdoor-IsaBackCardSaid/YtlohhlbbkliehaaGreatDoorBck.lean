/-
  IsaBack walked.
-/
import Derived.Test.YtlohhlbbkliehaaGreatDoorSm9
import Derived.Test.YtlohhlbbkliehaaGreatDoorBk9
import Derived.Test.YtlohhlbbkliehaaGreatDoorIn9
import Derived.Test.YtlohhlbbkliehaaGreatDoorWit9
namespace Go.Proofs.YtlohhlbbkliehaaGreatDoor.W
open Go.RowKit
set_option linter.unusedVariables false

/-- two instructions, and two copies of the first -/
structure S4 (w w' : World) (I J X Y : Nat) (x y : In5) : Prop where
  s : S2 w w' I J x y
  t : S2 w w' X Y x x
theorem S4.below {w w1 w2 : World} {I J X Y : Nat} {x y : In5} (h : S4 w w1 I J X Y x y) (k : Below w1.heap.size w1 w2) : S4 w w2 I J X Y x y := ⟨h.s.below k, h.t.below k⟩
theorem S4.drew {w w1 : World} {I J X Y : Nat} {x y : In5} (h : S4 w w1 I J X Y x y) : S4 w w1.drew I J X Y x y := ⟨h.s.drew, h.t.drew⟩

theorem ne_beq {x y : Int} (h : x ≠ y) : (x == y) = false := by simp [h]
theorem ba_ne_beq {x y : ByteArray} (h : x ≠ y) : (x.toList == y.toList) = false := by rw [str_beq]; exact decide_eq_false h
theorem ba_ne_empty {x : ByteArray} (h : x ≠ ⟨#[]⟩) : x.toList.isEmpty = false := by
  rw [Lib.toList_data]
  cases e : x.data.toList with
  | nil => exact absurd (by rw [← Lib.mk_data x, e]) h
  | cons _ _ => rfl

set_option maxHeartbeats 8000000 in
set_option maxRecDepth 100000 in
theorem back_any (W : World) (v0 : Value) (x : In5) (v1 : Value) (y : In5) (s2 s3 : ByteArray) (h0 : ArgIns W v0 x) (h1 : ArgIns W v1 y) (hs2 : s2.size ≤ 140737488351232) (hs3 : s3.size ≤ 140737488351232) (hT : Tabs W) :
    Calls Tryz.prog 4 #[v0, v1, .string s2, .string s3] W fun e w' => e = .returned (.bool true) ∧ Below W.heap.size W w' := by
  obtain rfl := h0.is
  obtain rfl := h1.is
  obtain ⟨op, a, b, c, m⟩ := x
  obtain ⟨op', a', b', c', m'⟩ := y
  have hs := S2.new W ⟨op, a, b, c, m⟩ ⟨op', a', b', c', m'⟩
  have hmx : i64R m := h0.m
  have hmy : i64R m' := h1.m
  dsimp only at hs ⊢
  clear h0 h1
  have HT := Hd.mk hT
  obtain ⟨W2, hW2⟩ : ∃ X, (W.alloc (.cells #[.int .i64 op, .int .i64 a, .int .i64 b, .int .i64 c, .int .i64 m] 23)).alloc (.cells #[.int .i64 op', .int .i64 a', .int .i64 b', .int .i64 c', .int .i64 m'] 23) = X := ⟨_, rfl⟩
  rw [hW2] at hs
  obtain ⟨I, hI⟩ : ∃ I, W.heap.size = I := ⟨_, rfl⟩
  rw [hI] at hs
  have HSm := Hd.mk (small_any W2 (hT.below hs.bel))
  have HS0 := Hd.mk hs
  have HEx := Hd.mk (fun w h => encode_any op a b c m w h hmx)
  have HTx := Hd.mk (fun w h => text_any op a b c m w h hmx)
  have HRx := Hd.mk (fun w h => right_any op a b c m w h hmx)
  have HEy := Hd.mk (fun w h => encode_any op' a' b' c' m' w h hmy)
  have HTy := Hd.mk (fun w h => text_any op' a' b' c' m' w h hmy)
  obtain ⟨r, hr⟩ : ∃ r, rightB op a b c m = r := ⟨_, rfl⟩
  obtain ⟨r', hr'⟩ : ∃ r, rightB op' a' b' c' m' = r := ⟨_, rfl⟩
  rw [hr] at HEx HRx
  rw [hr'] at HEy
  clear hs hmx hmy hT
  by_cases hbig : 300 < s2.size ∨ (¬ 300 < s2.size ∧ 300 < s3.size)
  · rcases hbig with hb | ⟨hb, hb'⟩
    · have hd : decide ((300 : Int) < (s2.size : Int)) = true := by simp; omega
      go_enter Tryz.func4, Tryz.ntmps4
      go_wp2_with fail
      refine HSm.out.mono ?_
      rintro e w1 ⟨rfl, k1⟩
      have K1 := Hd.mk (Below.chain HS0.out.bel k1)
      clear k1
      go_wp2
      go_ret
      exact ⟨rfl, K1.out⟩
    · have hd : decide ((300 : Int) < (s2.size : Int)) = false := by simp; omega
      have hd' : decide ((300 : Int) < (s3.size : Int)) = true := by simp; omega
      go_enter Tryz.func4, Tryz.ntmps4
      go_wp2_with fail
      refine HSm.out.mono ?_
      rintro e w1 ⟨rfl, k1⟩
      have K1 := Hd.mk (Below.chain HS0.out.bel k1)
      clear k1
      go_wp2
      go_ret
      exact ⟨rfl, K1.out⟩
  · have hz2 : s2.size ≤ 300 := by omega
    have hz3 : s3.size ≤ 300 := by omega
    have hd : decide ((300 : Int) < (s2.size : Int)) = false := by simp; omega
    have hd' : decide ((300 : Int) < (s3.size : Int)) = false := by simp; omega
    have HZ := Hd.mk (And.intro hz2 hz3)
    clear hbig hs2 hs3
    rcases r with _ | _
    · have hw := text_wrong hr
      rw [hw.2] at HEx
      rw [hw.1] at HTx
      obtain ⟨q', hq'⟩ : ∃ q, encS op' a' b' c' m' = q := ⟨_, rfl⟩
      rw [hq'] at HEy
      clear hw hr hr' hq' hz2 hz3
      go_enter Tryz.func4, Tryz.ntmps4
      go_wp2_with fail
      refine HSm.out.mono ?_
      rintro e w1 ⟨rfl, k1⟩
      have HS1 := Hd.mk (HS0.out.below k1)
      clear k1 HS0 HSm hW2 hI
      obtain ⟨⟨c0, c1, c2, c3, c4⟩, ⟨d0, d1, d2, d3, d4⟩⟩ := HS1.out.at
      dsimp only at c0 c1 c2 c3 c4 d0 d1 d2 d3 d4
      go_wp2_with fail
      refine (HEx.out _ (HT.out.below HS1.out.bel).f).mono ?_
      rintro e w2 ⟨rfl, k2⟩
      have HS2 := Hd.mk (HS1.out.below k2)
      clear k2 HS1 HEx c0 c1 c2 c3 c4 d0 d1 d2 d3 d4
      obtain ⟨⟨c0, c1, c2, c3, c4⟩, ⟨d0, d1, d2, d3, d4⟩⟩ := HS2.out.at
      dsimp only at c0 c1 c2 c3 c4 d0 d1 d2 d3 d4
      go_wp2_with fail
      refine (HTx.out _ (HT.out.below HS2.out.bel)).mono ?_
      rintro e w3 ⟨rfl, k3⟩
      have HS3 := Hd.mk (HS2.out.below k3)
      clear k3 HS2 HTx c0 c1 c2 c3 c4 d0 d1 d2 d3 d4
      obtain ⟨⟨c0, c1, c2, c3, c4⟩, ⟨d0, d1, d2, d3, d4⟩⟩ := HS3.out.at
      dsimp only at c0 c1 c2 c3 c4 d0 d1 d2 d3 d4
      go_wp2_with fail
      refine (HRx.out _ (HT.out.below HS3.out.bel).f).mono ?_
      rintro e w4 ⟨rfl, k4⟩
      have HS4 := Hd.mk (HS3.out.below k4)
      clear k4 HS3 HRx c0 c1 c2 c3 c4 d0 d1 d2 d3 d4
      obtain ⟨⟨c0, c1, c2, c3, c4⟩, ⟨d0, d1, d2, d3, d4⟩⟩ := HS4.out.at
      dsimp only at c0 c1 c2 c3 c4 d0 d1 d2 d3 d4
      go_wp2_with fail
      refine (HEy.out _ (HT.out.below HS4.out.bel).f).mono ?_
      rintro e w5 ⟨rfl, k5⟩
      have HS5 := Hd.mk (HS4.out.below k5)
      clear k5 HS4 HEy c0 c1 c2 c3 c4 d0 d1 d2 d3 d4
      go_wp2
      go_ret
      exact ⟨rfl, HS5.out.bel⟩
    · have hpt := parse_text hr
      have hsz := enc_size hr
      have hge := get_enc hr
      have hdc := dec_back hr s2 s3
      have hpos : 0 < (encS op a b c m).size := by omega
      have hfirst := enc_first hr hpos
      have HINJ : Hd (rightB op' a' b' c' m' = true → (encS op a b c m = encS op' a' b' c' m' → op = op' ∧ a = a' ∧ b = b' ∧ c = c' ∧ m = m') ∧ (textL op a b c m = textL op' a' b' c' m' → op = op' ∧ a = a' ∧ b = b' ∧ c = c' ∧ m = m')) := ⟨fun h' => ⟨enc_inj hr h', text_inj hr h'⟩⟩
      have HGx := Hd.mk (fun w => get_any (encS op a b c m) 4 4 true w (by rw [hsz]; unfold maxLen; omega))
      rw [hge] at HGx
      have HDx := Hd.mk (fun w h => decode_any (s2 ++ encS op a b c m ++ s3) (s2.size : Int) w (by rw [ByteArray.size_append, ByteArray.size_append, hsz]; omega) (by unfold i64R; omega) h)
      rw [hdc.1, hdc.2] at HDx
      have HPx := Hd.mk (fun w h => parse_any ⟨(textL op a b c m).toArray⟩ w (by show (textL op a b c m).length ≤ _; exact Nat.le_trans (text_len _ _ _ _ _) (by decide)) h)
      rw [show (⟨(textL op a b c m).toArray⟩ : ByteArray).data.toList = textL op a b c m from rfl, hpt.1, show parseV (0, op, ⟨a, b, c, m⟩) = .tuple #[.agg #[.int .i64 op, .int .i64 a, .int .i64 b, .int .i64 c, .int .i64 m], .int .i64 0] from rfl] at HPx
      have HNE : Hd ((⟨(textL op a b c m).toArray⟩ : ByteArray) ≠ ⟨#[]⟩) := ⟨fun e => hpt.2 (by simpa using e)⟩
      have HTQ : Hd (∀ t' : List UInt8, (⟨(textL op a b c m).toArray⟩ : ByteArray) = ⟨t'.toArray⟩ → textL op a b c m = t') := ⟨fun t' e => by have := congrArg (fun x : ByteArray => x.data.toList) e; simpa using this⟩
      obtain ⟨q, hq⟩ : ∃ q, encS op a b c m = q := ⟨_, rfl⟩
      obtain ⟨q', hq'⟩ : ∃ q, encS op' a' b' c' m' = q := ⟨_, rfl⟩
      obtain ⟨tl, htl⟩ : ∃ t, textL op a b c m = t := ⟨_, rfl⟩
      obtain ⟨tl', htl'⟩ : ∃ t, textL op' a' b' c' m' = t := ⟨_, rfl⟩
      have HSAME : Hd ((op = op' ∧ a = a' ∧ b = b' ∧ c = c' ∧ m = m') → q = q' ∧ tl = tl') := ⟨fun ⟨e1, e2, e3, e4, e5⟩ => by subst e1 e2 e3 e4 e5; exact ⟨hq.symm.trans hq', htl.symm.trans htl'⟩⟩
      rw [htl, htl', hq, hq'] at HINJ
      rw [htl] at HPx HNE HTQ HTx
      rw [htl'] at HTy
      rw [hq] at HEx HGx HDx
      rw [hq'] at HEy
      have hsz' : q.size = 8 := hq ▸ hsz
      have hpos' : 0 < q.size := by omega
      have hfst : ((q[0]'hpos').toNat : Int) = op := by subst hq; exact hfirst
      obtain ⟨tx, htx⟩ : ∃ x : ByteArray, (⟨tl.toArray⟩ : ByteArray) = x := ⟨_, rfl⟩
      obtain ⟨tx', htx'⟩ : ∃ x : ByteArray, (⟨tl'.toArray⟩ : ByteArray) = x := ⟨_, rfl⟩
      have HTE : Hd (tx = tx' → tl = tl') := ⟨fun e => HTQ.out tl' (by rw [htx, htx', e])⟩
      have HTE2 : Hd (tl = tl' → tx = tx') := ⟨fun e => by rw [← htx, ← htx', e]⟩
      rw [htx] at HPx HNE HTx
      rw [htx'] at HTy
      have n1 := ba_ne_beq HNE.out
      have n2 := ba_ne_empty HNE.out
      have g1 : ¬ 9223372036854775807 < s2.size + q.size := by omega
      have g2 : ¬ 9223372036854775807 < s2.size + q.size + s3.size := by omega
      have HG := Hd.mk (And.intro g1 g2)
      have HF : Hd (∃ h : 0 < q.size, ((q[0]'h).toNat : Int) = op) := ⟨⟨hpos', hfst⟩⟩
      have HQ8 := Hd.mk hsz'
      clear hpt hsz hge hdc hpos hfirst hq hq' htl htl' HTQ htx htx' g1 g2 hz2 hz3 hr hfst hpos' hsz'
      have HR' := Hd.mk hr'
      clear hr'
      rcases r' with _ | _
      · go_enter Tryz.func4, Tryz.ntmps4
        go_wp2_with fail
        refine HSm.out.mono ?_
        rintro e w1 ⟨rfl, k1⟩
        have HS1 := Hd.mk (HS0.out.below k1)
        clear k1 HS0 HSm hW2 hI
        obtain ⟨⟨c0, c1, c2, c3, c4⟩, ⟨d0, d1, d2, d3, d4⟩⟩ := HS1.out.at
        dsimp only at c0 c1 c2 c3 c4 d0 d1 d2 d3 d4
        go_wp2_with fail
        refine (HEx.out _ (HT.out.below HS1.out.bel).f).mono ?_
        rintro e w2 ⟨rfl, k2⟩
        have HS2 := Hd.mk (HS1.out.below k2)
        clear k2 HS1 HEx c0 c1 c2 c3 c4 d0 d1 d2 d3 d4
        obtain ⟨⟨c0, c1, c2, c3, c4⟩, ⟨d0, d1, d2, d3, d4⟩⟩ := HS2.out.at
        dsimp only at c0 c1 c2 c3 c4 d0 d1 d2 d3 d4
        go_wp2_with fail
        refine (HTx.out _ (HT.out.below HS2.out.bel)).mono ?_
        rintro e w3 ⟨rfl, k3⟩
        have HS3 := Hd.mk (HS2.out.below k3)
        clear k3 HS2 HTx c0 c1 c2 c3 c4 d0 d1 d2 d3 d4
        obtain ⟨⟨c0, c1, c2, c3, c4⟩, ⟨d0, d1, d2, d3, d4⟩⟩ := HS3.out.at
        dsimp only at c0 c1 c2 c3 c4 d0 d1 d2 d3 d4
        go_wp2_with fail
        refine (HRx.out _ (HT.out.below HS3.out.bel).f).mono ?_
        rintro e w4 ⟨rfl, k4⟩
        have HS4 := Hd.mk (HS3.out.below k4)
        clear k4 HS3 HRx c0 c1 c2 c3 c4 d0 d1 d2 d3 d4
        obtain ⟨⟨c0, c1, c2, c3, c4⟩, ⟨d0, d1, d2, d3, d4⟩⟩ := HS4.out.at
        dsimp only at c0 c1 c2 c3 c4 d0 d1 d2 d3 d4
        go_wp2_with fail
        refine (HEy.out _ (HT.out.below HS4.out.bel).f).mono ?_
        rintro e w5 ⟨rfl, k5⟩
        have HS5 := Hd.mk (HS4.out.below k5)
        clear k5 HS4 HEy c0 c1 c2 c3 c4 d0 d1 d2 d3 d4
        go_wp2
        go_ret
        exact ⟨rfl, HS5.out.bel⟩
      · have hcs : (op = op' ∧ a = a' ∧ b = b' ∧ c = c' ∧ m = m') ∨ ((q ≠ q' ∧ tx ≠ tx') ∧ (op ≠ op' ∨ (op = op' ∧ a ≠ a') ∨ (op = op' ∧ a = a' ∧ b ≠ b') ∨ (op = op' ∧ a = a' ∧ b = b' ∧ c ≠ c') ∨ (op = op' ∧ a = a' ∧ b = b' ∧ c = c' ∧ m ≠ m'))) := by
          by_cases h : op = op' ∧ a = a' ∧ b = b' ∧ c = c' ∧ m = m'
          · exact .inl h
          · refine .inr ⟨⟨fun e => h ((HINJ.out HR'.out).1 e), fun e => h ((HINJ.out HR'.out).2 (HTE.out e))⟩, ?_⟩
            by_cases e0 : op = op'
            · by_cases e1 : a = a'
              · by_cases e2 : b = b'
                · by_cases e3 : c = c'
                  · by_cases e4 : m = m'
                    · exact absurd ⟨e0, e1, e2, e3, e4⟩ h
                    · exact .inr (.inr (.inr (.inr ⟨e0, e1, e2, e3, e4⟩)))
                  · exact .inr (.inr (.inr (.inl ⟨e0, e1, e2, e3⟩)))
                · exact .inr (.inr (.inl ⟨e0, e1, e2⟩))
              · exact .inr (.inl ⟨e0, e1⟩)
            · exact .inl e0
        have HCS := Hd.mk hcs
        clear hcs
        go_enter Tryz.func4, Tryz.ntmps4
        go_wp2_with fail
        refine HSm.out.mono ?_
        rintro e w1 ⟨rfl, k1⟩
        have HS1 := Hd.mk (HS0.out.below k1)
        clear k1 HS0 HSm hW2 hI
        obtain ⟨⟨c0, c1, c2, c3, c4⟩, ⟨d0, d1, d2, d3, d4⟩⟩ := HS1.out.at
        dsimp only at c0 c1 c2 c3 c4 d0 d1 d2 d3 d4
        go_wp2_with fail
        refine (HEx.out _ (HT.out.below HS1.out.bel).f).mono ?_
        rintro e w2 ⟨rfl, k2⟩
        have HS2 := Hd.mk (HS1.out.below k2)
        clear k2 HS1 HEx c0 c1 c2 c3 c4 d0 d1 d2 d3 d4
        obtain ⟨⟨c0, c1, c2, c3, c4⟩, ⟨d0, d1, d2, d3, d4⟩⟩ := HS2.out.at
        dsimp only at c0 c1 c2 c3 c4 d0 d1 d2 d3 d4
        go_wp2_with fail
        refine (HTx.out _ (HT.out.below HS2.out.bel)).mono ?_
        rintro e w3 ⟨rfl, k3⟩
        have HS3 := Hd.mk (HS2.out.below k3)
        clear k3 HS2 HTx c0 c1 c2 c3 c4 d0 d1 d2 d3 d4
        obtain ⟨⟨c0, c1, c2, c3, c4⟩, ⟨d0, d1, d2, d3, d4⟩⟩ := HS3.out.at
        dsimp only at c0 c1 c2 c3 c4 d0 d1 d2 d3 d4
        go_wp2_with fail
        refine (HRx.out _ (HT.out.below HS3.out.bel).f).mono ?_
        rintro e w4 ⟨rfl, k4⟩
        have HS4 := Hd.mk (HS3.out.below k4)
        clear k4 HS3 HRx c0 c1 c2 c3 c4 d0 d1 d2 d3 d4
        obtain ⟨⟨c0, c1, c2, c3, c4⟩, ⟨d0, d1, d2, d3, d4⟩⟩ := HS4.out.at
        dsimp only at c0 c1 c2 c3 c4 d0 d1 d2 d3 d4
        go_wp2_with fail
        refine (HEy.out _ (HT.out.below HS4.out.bel).f).mono ?_
        rintro e w5 ⟨rfl, k5⟩
        have HS5 := Hd.mk (HS4.out.below k5)
        clear k5 HS4 HEy c0 c1 c2 c3 c4 d0 d1 d2 d3 d4
        obtain ⟨g1, g2⟩ := HG.out
        go_wp2_with fail
        refine (HDx.out _ (HT.out.below HS5.out.bel).f).mono ?_
        rintro e w6 ⟨rfl, k6⟩
        have HS6 := Hd.mk (HS5.out.below k6)
        have HX := Hd.mk (Blk.new w6 23 [.int .i64 op, .int .i64 a, .int .i64 b, .int .i64 c, .int .i64 m])
        have HS6a := Hd.mk (HS6.out.alloc (.cells #[.int .i64 op, .int .i64 a, .int .i64 b, .int .i64 c, .int .i64 m] 23))
        obtain ⟨X, hX⟩ : ∃ X, w6.heap.size = X := ⟨_, rfl⟩
        rw [hX] at HX
        clear k6 HS5 HDx g1 g2 HS6
        go_wp2_with fail
        refine (HPx.out _ (HT.out.below HS6a.out.bel).f).mono ?_
        rintro e w7 ⟨rfl, k7⟩
        have HS7 := Hd.mk (HS6a.out.below k7)
        have HX7 := Hd.mk (HX.out.below k7 HX.out.lt)
        have HY := Hd.mk (Blk.new w7 23 [.int .i64 op, .int .i64 a, .int .i64 b, .int .i64 c, .int .i64 m])
        have HS7a := Hd.mk (HS7.out.alloc (.cells #[.int .i64 op, .int .i64 a, .int .i64 b, .int .i64 c, .int .i64 m] 23))
        have HX7a := Hd.mk (HX7.out.alloc (.cells #[.int .i64 op, .int .i64 a, .int .i64 b, .int .i64 c, .int .i64 m] 23))
        obtain ⟨Y, hY⟩ : ∃ X, w7.heap.size = X := ⟨_, rfl⟩
        rw [hY] at HY
        clear k7 HS6a HPx HS7 HX7 HX hX
        go_wp2_with fail
        refine (HGx.out _).mono ?_
        rintro e w8 ⟨rfl, rfl⟩
        have HS8 : Hd (S4 W (w7.alloc (.cells #[.int .i64 op, .int .i64 a, .int .i64 b, .int .i64 c, .int .i64 m] 23)) I (I + 1) X Y ⟨op, a, b, c, m⟩ ⟨op', a', b', c', m'⟩) := ⟨⟨HS7a.out, ⟨HS7a.out.bel, HX7a.out, HY.out⟩⟩⟩
        clear HGx HS7a HX7a HY
        go_wp2_with fail
        obtain ⟨W8, hW8⟩ : ∃ X, (w7.alloc (.cells #[.int .i64 op, .int .i64 a, .int .i64 b, .int .i64 c, .int .i64 m] 23)) = X := ⟨_, rfl⟩
        rw [hW8] at HS8
        (try rw [hW8])
        (try rw [hY])
        clear hW8 hY
        obtain ⟨hp0, hfst⟩ := HF.out
        have hp1 : (0 : Int) < (q.size : Int) := by omega
        have h8 := HQ8.out
        have wq : IntKind.i64.wrap (((q[0]'hp0).toNat : Nat) : Int) = op := by rw [hfst]; have := (q[0]'hp0).toNat_lt; exact IntWalk.i64_in _ (by omega)
        have wq' : wrap64 (((q[0]'hp0).toNat : Nat) : Int) = op := by rw [hfst]; have := (q[0]'hp0).toNat_lt; unfold wrap64; omega
        obtain ⟨bq, hbq⟩ : ∃ bq, q[0]'hp0 = bq := ⟨_, rfl⟩
        rw [hbq] at wq wq'
        clear hfst n1 n2
        refine wp_region_lin default (fun w' => S4 W w' I (I + 1) X Y ⟨op, a, b, c, m⟩ _) [(0, true), (1, true), (2, true), (3, true), (4, true), (5, true), (6, true), (7, true), (8, true), (9, true), (10, true), (11, true), (12, true), (13, true), (14, true), (15, true), (16, true), (17, true), (18, true), (19, true), (20, true), (21, true), (22, true), (23, true), (24, true), (25, true), (26, true), (27, true), (28, true), (29, true), (30, true), (31, true), (32, true), (33, true), (34, true), (35, true), (36, true), (37, true), (38, true), (39, true), (40, true), (41, true), (42, true), (43, true), (44, true), (45, true), (46, true), (47, true), (48, true), (49, true), (50, true), (51, true), (54, true), (55, true), (56, true), (52, false), (53, true), (57, true), (58, true), (59, true)] (by kernel_rfl) (by kernel_rfl) rfl (by kernel_rfl) (by kernel_rfl) HS8.out.drew ?_
        simp only [pick, List.getD_cons_zero, List.getD_cons_succ]
        repeat
          refine lin_free (v := ?_) (by rfl) ?_ ?_
          rotate_left
          · intro w' hSw
            obtain ⟨⟨c0, c1, c2, c3, c4⟩, ⟨d0, d1, d2, d3, d4⟩⟩ := hSw.s.at
            obtain ⟨⟨e0, e1, e2, e3, e4⟩, ⟨f0, f1, f2, f3, f4⟩⟩ := hSw.t.at
            dsimp only at c0 c1 c2 c3 c4 d0 d1 d2 d3 d4 e0 e1 e2 e3 e4 f0 f1 f2 f3 f4
            clear hSw
            go_simp
            first | done | with_reducible rfl
          simp only [Act.put, List.setIfInBounds_toArray, List.set_cons_zero, List.set_cons_succ]
        rcases HCS.out with ⟨rfl, rfl, rfl, rfl, rfl⟩ | ⟨⟨hnq, hnt⟩, hdif⟩
        · obtain ⟨hqq, htt⟩ := HSAME.out ⟨rfl, rfl, rfl, rfl, rfl⟩
          have htt := HTE2.out htt
          subst hqq htt
          clear HCS HINJ HTE HTE2 HSAME HNE
          repeat
            refine lin_free (v := ?_) (by rfl) ?_ ?_
            rotate_left
            · intro w' hSw
              obtain ⟨⟨c0, c1, c2, c3, c4⟩, ⟨d0, d1, d2, d3, d4⟩⟩ := hSw.s.at
              obtain ⟨⟨e0, e1, e2, e3, e4⟩, ⟨f0, f1, f2, f3, f4⟩⟩ := hSw.t.at
              dsimp only at c0 c1 c2 c3 c4 d0 d1 d2 d3 d4 e0 e1 e2 e3 e4 f0 f1 f2 f3 f4
              clear hSw
              go_simp
              first | done | with_reducible rfl
            simp only [Act.put, List.setIfInBounds_toArray, List.set_cons_zero, List.set_cons_succ]
          refine lin_bound (fun K hK => ?_)
          go_simp
          refine (HTy.out _ (HT.out.below HS8.out.drew.s.bel)).mono ?_
          rintro e w9 ⟨rfl, k9⟩
          dsimp only
          have HS9 := Hd.mk (HS8.out.drew.below k9)
          clear k9 HS8
          refine hK.out _ _ HS9.out ?_
          clear hK K
          repeat
            refine lin_free (v := ?_) (by rfl) ?_ ?_
            rotate_left
            · intro w' hSw
              clear hSw
              go_simp
              first | done | with_reducible rfl
            simp only [Act.put, List.setIfInBounds_toArray, List.set_cons_zero, List.set_cons_succ]
          refine NoPanic.normal ?_
          go_wp2
          go_ret
          exact ⟨rfl, HS9.out.s.bel⟩
        · have nq := ba_ne_beq hnq
          have nt := ba_ne_beq hnt
          rcases hdif with hne | ⟨rfl, hne⟩ | ⟨rfl, rfl, hne⟩ | ⟨rfl, rfl, rfl, hne⟩ | ⟨rfl, rfl, rfl, rfl, hne⟩
          all_goals
            have nb := ne_beq hne
            clear HCS HINJ HTE HTE2 HSAME HNE
            repeat
              refine lin_free (v := ?_) (by rfl) ?_ ?_
              rotate_left
              · intro w' hSw
                obtain ⟨⟨c0, c1, c2, c3, c4⟩, ⟨d0, d1, d2, d3, d4⟩⟩ := hSw.s.at
                obtain ⟨⟨e0, e1, e2, e3, e4⟩, ⟨f0, f1, f2, f3, f4⟩⟩ := hSw.t.at
                dsimp only at c0 c1 c2 c3 c4 d0 d1 d2 d3 d4 e0 e1 e2 e3 e4 f0 f1 f2 f3 f4
                clear hSw
                go_simp
                first | done | with_reducible rfl
              simp only [Act.put, List.setIfInBounds_toArray, List.set_cons_zero, List.set_cons_succ]
            refine lin_bound (fun K hK => ?_)
            go_simp
            refine (HTy.out _ (HT.out.below HS8.out.drew.s.bel)).mono ?_
            rintro e w9 ⟨rfl, k9⟩
            dsimp only
            have HS9 := Hd.mk (HS8.out.drew.below k9)
            clear k9 HS8
            refine hK.out _ _ HS9.out ?_
            clear hK K
            repeat
              refine lin_free (v := ?_) (by rfl) ?_ ?_
              rotate_left
              · intro w' hSw
                clear hSw
                go_simp
                first | done | with_reducible rfl
              simp only [Act.put, List.setIfInBounds_toArray, List.set_cons_zero, List.set_cons_succ]
            refine NoPanic.normal ?_
            go_wp2
            go_ret
            exact ⟨rfl, HS9.out.s.bel⟩

end Go.Proofs.YtlohhlbbkliehaaGreatDoor.W
