/-
  strings.IndexAny at the blanks, for every short string.
-/
import Derived.Test.YtlohhlbbkliehaaGreatDoorShelf
import Derived.Test.YtlohhlbbkliehaaGreatDoorL
import Derived.Laws.RangeAny
import Derived.Lib.IndexAny
import Derived.Deep.LoopGhost
import Derived.Laws.Runes
import Derived.WalkMore
import Derived.BigQuiet
import Derived.Deep.QuietTactic
import Derived.Lib.OthersKept
import Derived.Shelf.Strings.SlTrimAscii
namespace Go.Proofs.YtlohhlbbkliehaaGreatDoor.W
open Go.RowKit
set_option linter.unusedVariables false

theorem decode_cont (s : ByteArray) (pos : Nat) (h : pos < s.size) (ha : 128 ≤ (s[pos]'h).toNat) : ∀ j, 1 ≤ j → j < (Utf8.decode s pos).2 → pos + j < s.size ∧ 128 ≤ (s.get! (pos + j)).toNat := by
  have hn : ¬ (s[pos]'h).toNat < 128 := by omega
  simp only [Utf8.decode, get_at s pos h, hn, if_false]
  intro j h1 h2
  have h4 : j = 1 ∨ j = 2 ∨ j = 3 ∨ 4 ≤ j := by omega
  split at h2
  · rename_i hc
    simp only [Bool.and_eq_true, decide_eq_true_eq, beq_iff_eq] at hc
    split at h2
    · have : j = 1 := by simp at h2; omega
      subst this
      exact ⟨hc.2.1, by omega⟩
    · simp at h2; omega
  · split at h2
    · rename_i hc
      simp only [Bool.and_eq_true, decide_eq_true_eq, beq_iff_eq] at hc
      split at h2
      · have : j = 1 ∨ j = 2 := by simp at h2; omega
        rcases this with rfl | rfl
        · exact ⟨hc.1.2.1, by omega⟩
        · exact ⟨hc.2.1, by omega⟩
      · simp at h2; omega
    · split at h2
      · rename_i hc
        simp only [Bool.and_eq_true, decide_eq_true_eq, beq_iff_eq] at hc
        split at h2
        · have : j = 1 ∨ j = 2 ∨ j = 3 := by simp at h2; omega
          rcases this with rfl | rfl | rfl
          · exact ⟨hc.1.1.2.1, by omega⟩
          · exact ⟨hc.1.2.1, by omega⟩
          · exact ⟨hc.2.1, by omega⟩
        · simp at h2; omega
      · simp at h2; omega

theorem decode_valid (s : ByteArray) (pos : Nat) (h : pos < s.size) (ha : 128 ≤ (s[pos]'h).toNat) : (Utf8.decode s pos).1 = 65533 ∨ Utf8.valid ((Utf8.decode s pos).1 : Int) = true := by
  have hn : ¬ (s[pos]'h).toNat < 128 := by omega
  have hb := (s.get! (pos + 1)).toNat_lt
  simp only [Utf8.decode, get_at s pos h, hn, if_false]
  split
  · split
    · right
      simp only [Utf8.valid, Bool.or_eq_true, Bool.and_eq_true, decide_eq_true_eq]
      have := (s[pos]'h).toNat_lt
      omega
    · exact .inl rfl
  · split
    · split
      · rename_i hc
        simp only [Bool.and_eq_true] at hc
        exact .inr hc.2
      · exact .inl rfl
    · split
      · split
        · rename_i hc
          simp only [Bool.and_eq_true] at hc
          exact .inr hc.2
        · exact .inl rfl
      · exact .inl rfl

theorem encode_high (r : Int) (h1 : 128 ≤ r) (h2 : Utf8.valid r = true) : ∃ l : List UInt8, Utf8.encode r = ⟨l.toArray⟩ ∧ 2 ≤ l.length ∧ l.length ≤ 4 ∧ ∀ x, l[l.length - 1]? = some x → 128 ≤ x.toNat := by
  have hr : r ≤ 1114111 := by
    simp only [Utf8.valid, Bool.or_eq_true, Bool.and_eq_true, decide_eq_true_eq] at h2
    omega
  have hlast : ∀ c : Nat, 128 ≤ (UInt8.ofNat (128 + c % 64)).toNat := fun c => by simp; omega
  unfold Utf8.encode
  simp only [h2, if_true]
  split
  · omega
  · split
    · refine ⟨_, rfl, by simp, by simp, fun x hx => ?_⟩
      cases hx; exact hlast _
    · split
      · refine ⟨_, rfl, by simp, by simp, fun x hx => ?_⟩
        cases hx; exact hlast _
      · refine ⟨_, rfl, by simp, by simp, fun x hx => ?_⟩
        cases hx; exact hlast _

set_option maxHeartbeats 2000000 in
set_option maxRecDepth 100000 in
theorem indexRune_bad (w : World) : Calls Tryz.prog 60 #[.string ⟨#[32, 9]⟩, .int .i32 65533] w fun e w' => e = .returned (.int .i64 (-1)) ∧ Below w.heap.size w w' := by
  go_enter Tryz.func60, Tryz.ntmps60
  go_wp2
  go_loopg [5, 6] 2 (fun g _ _ wx => ∃ i : Nat, i + g = 2 ∧ wx = w.iter ⟨#[32, 9]⟩ i)
  case atStart => exact ⟨0, by omega, rfl⟩
  case round =>
    obtain ⟨i, hig, rfl⟩ := hrel
    cases gk with
    | zero =>
      obtain rfl : i = 2 := by omega
      have hnx := run_next_end (P := Tryz.prog) w ⟨#[32, 9]⟩ 2
      go_wp2
      go_ret
      exact ⟨rfl, (Below.refl _ _).alloc (Nat.le_refl _) _⟩
    | succ g =>
      rcases (by omega : i = 0 ∨ i = 1) with rfl | rfl
      · have hnx := fun ty => run_next_ascii (P := Tryz.prog) w ⟨#[32, 9]⟩ 0 ty (by decide) (by decide)
        go_wp2
        go_roundg g
        case measure => omega
        case rel => exact ⟨1, by omega, rfl⟩
      · have hnx := fun ty => run_next_ascii (P := Tryz.prog) w ⟨#[32, 9]⟩ 1 ty (by decide) (by decide)
        go_wp2
        go_roundg g
        case measure => omega
        case rel => exact ⟨2, by omega, rfl⟩

theorem keepsOfDrewN (w : World) (n : Nat) : Below w.heap.size w (w.drewN n) := ((Keeps.refl (fun _ => False) w).drewN n).below (Nat.le_refl _) (fun _ _ h => h)

set_option maxHeartbeats 4000000 in
set_option maxRecDepth 100000 in
theorem indexRune_high (r : Int) (w : World) (h1 : 128 ≤ r) (h2 : r ≠ 65533) (h3 : Utf8.valid r = true) : Calls Tryz.prog 60 #[.string ⟨#[32, 9]⟩, .int .i32 r] w fun e w' => e = .returned (.int .i64 (-1)) ∧ Below w.heap.size w w' := by
  have hr : r ≤ 1114111 := by
    simp only [Utf8.valid, Bool.or_eq_true, Bool.and_eq_true, decide_eq_true_eq] at h3
    omega
  obtain ⟨l, hl, l2, l4, hx⟩ := encode_high r h1 h3
  have hv : Lib.validRune r = true := by
    have := h3
    simp only [Utf8.valid, Bool.or_eq_true, Bool.and_eq_true, decide_eq_true_eq] at this
    unfold Lib.validRune
    simp only [decide_eq_true_eq]
    omega
  have b1 : decide (r < 128) = false := by simp; omega
  have b0 : decide ((0 : Int) ≤ r) = true := by simp; omega
  have b2 : (r == 65533) = false := by simp; exact h2
  have HV := Hd.mk (fun w => Tryz.utf8_ValidRune r w)
  rw [hv] at HV
  obtain ⟨rs, hrs⟩ : ∃ rs, Utf8.encode r = rs := ⟨_, rfl⟩
  have hsz : rs.size = l.length := by rw [← hrs, hl]; rfl
  have hu : (Tryz.prog.underlying 21).isSome = true := by rw [Tryz.underlying21]; rfl
  have hu2 : Tryz.prog.underlying 9 = some .string := Tryz.underlying9
  have s2 : 2 ≤ rs.size := by omega
  have s4 : rs.size ≤ 4 := by omega
  have hls : rs.size - 1 < rs.size := by omega
  have hlast : 128 ≤ (rs[rs.size - 1]'hls).toNat := by
    have : rs.data.toList = l := by rw [← hrs, hl]
    apply hx
    rw [← hsz, ← this]
    exact Lib.data_getElem? rs (rs.size - 1) hls
  have h0r : 0 ≤ r := by omega
  clear hl l2 l4 hx hv h3 hsz h2
  go_enter Tryz.func60, Tryz.ntmps60
  go_wp2_with fail
  refine (HV.out _).mono ?_
  rintro e wv ⟨rfl, hwv⟩
  subst hwv
  obtain ⟨la, hla⟩ : ∃ la, rs.size - 1 = la := ⟨_, rfl⟩
  have e1 : (rs.size : Int) - 1 = (la : Int) := by omega
  have hlb : la < rs.size := by omega
  have hlast2 : 128 ≤ (rs[la]'hlb).toNat := by simpa only [hla] using hlast
  obtain ⟨y, hy⟩ : ∃ y, rs[la]'hlb = y := ⟨_, rfl⟩
  rw [hy] at hlast2
  have HY := Hd.mk hy
  clear hlast hy
  go_wp2_with fail
  go_step3
  go_wp2_with fail
  clear hr hrs hu hu2
  go_loopw [9, 10] (fun i fl wr => i = .int .i64 (la : Int) ∧ fl = .int .i64 0 ∧ wr = wv) (fun _ _ _ => 0)
  case atStart => exact ⟨rfl, rfl, rfl⟩
  case round =>
    obtain ⟨rfl, rfl, rfl⟩ := hrel
    by_cases h1 : la = 1
    · subst h1
      have hd1 : decide ((1 : Int) < 2) = true := by decide
      have hy2 : ((9 : Int) != (y.toNat : Int)) = true := by simp only [bne_iff_ne, ne_eq]; omega
      have hbk : ((y.toNat : Int)).toNat.toUInt8 = y := by simp
      have HI := Hd.mk (fun w => Tryz.strings_IndexByte ByteArray.empty (y.toNat : Int) w)
      have e0 : Lib.indexByte ([] : List UInt8) y = -1 := rfl
      have hy1 : rs[1]'hlb = y := HY.out
      rw [hbk, show ByteArray.empty.data.toList = [] from rfl, e0] at HI
      have wr2 : IntKind.i64.wrap 2 = 2 := by decide
      have hi1 : (1 : Int) < (rs.size : Int) := by omega
      have h9 : ((⟨#[32, 9]⟩ : ByteArray)[1]'(by decide)).toNat = 9 := rfl
      have hn1 : ((1 : Int)).toNat = 1 := rfl
      have ex : (⟨#[32, 9]⟩ : ByteArray).extract 2 2 = ⟨#[]⟩ := by kernel_rfl
      clear hbk e0
      go_wp2_with fail
      go_step3
      go_wp2_with fail
      go_quiet (fail)
      go_wp2_with fail
      have KB : Hd (Below wr.heap.size wr (wr.drewN nq)) := ⟨keepsOfDrewN wr nq⟩
      obtain ⟨w5, hw5⟩ : ∃ x, wr.drewN nq = x := ⟨_, rfl⟩
      rw [hw5] at KB ⊢
      clear hw5
      go_quiet ((go_at_call 40; exact Calls.quiet_of_same (HI.out _)))
      go_wp2
      rw [Exit.noGoto_ret]
      unfold Exit.inBlock
      dsimp only
      change Exit.noGoto (Exit.inBlock 0 _) Exit.ret _ _
      simp only [Exit.noGoto_ret, Exit.inBlock, Exit.then]
      go_ret
      exact ⟨rfl, Below.chain KB.out (keepsOfDrewN w5 _)⟩
    · have hd1 : decide ((la : Int) < 2) = false := by simp; omega
      go_wp2
      rw [Exit.noGoto_ret]
      go_ret
      exact ⟨rfl, Below.refl _ _⟩

theorem lt_of_heap9 {w : World} {g : Nat} {o : Obj} (h : w.heap[g]? = some o) : g < w.heap.size := (Array.getElem?_eq_some_iff.1 h).1
def blanks : List UInt8 := [32, 9]
theorem noAny_wide {s : ByteArray} {pos : Nat} (h : pos < s.size) (ha : 128 ≤ (s[pos]'h).toNat) (hno : Lib.NoAny s.data.toList blanks pos) : Lib.NoAny s.data.toList blanks (pos + (Utf8.decode s pos).2) ∧ pos + (Utf8.decode s pos).2 ≤ s.size := by
  have hc := decode_cont s pos h ha
  have hw := (decode_high s pos h ha).2
  have hbad : ∀ b : UInt8, 128 ≤ b.toNat → blanks.contains b = false := fun b hb => by
    have h1 : b ≠ 32 := fun e => by subst e; exact absurd hb (by decide)
    have h2 : b ≠ 9 := fun e => by subst e; exact absurd hb (by decide)
    simp [blanks, h1, h2]
  refine ⟨fun j b hj hb => ?_, ?_⟩
  · by_cases h1 : j < pos
    · exact hno j b h1 hb
    · obtain ⟨i, rfl⟩ : ∃ i, j = pos + i := ⟨j - pos, by omega⟩
      by_cases h0 : i = 0
      · subst h0
        rw [Nat.add_zero, Lib.data_getElem? s pos h] at hb
        cases hb
        exact hbad _ ha
      · obtain ⟨h2, h3⟩ := hc i (by omega) (by omega)
        rw [Lib.data_getElem? s (pos + i) h2] at hb
        cases hb
        apply hbad
        have e : s.get! (pos + i) = s[pos + i]'h2 := by have := get_at s (pos + i) h2; rwa [Nat.add_zero] at this
        rwa [e] at h3
  · have := hc ((Utf8.decode s pos).2 - 1)
    by_cases h1 : (Utf8.decode s pos).2 = 1
    · omega
    · have := (this (by omega) (by omega)).1; omega

theorem useSet_any (n : Int) (w : World) : Calls Tryz.prog 61 #[.int .i64 n] w fun e w' => e = .returned (.bool (decide (8 < n))) ∧ w' = w := Tryz.strings_shouldUseASCIISet n w

/-- what IndexRune answers at a rune of the string -/
def runeAns (s : ByteArray) (pos : Nat) (h : pos < s.size) : Int := if (s[pos]'h).toNat < 128 then Lib.indexByte blanks (s[pos]'h) else -1
theorem indexRune_at (s : ByteArray) (pos : Nat) (h : pos < s.size) (w : World) : Calls Tryz.prog 60 #[.string ⟨#[32, 9]⟩, .int .i32 ((Utf8.decode s pos).1 : Nat)] w fun e w' => e = .returned (.int .i64 (runeAns s pos h)) ∧ Below w.heap.size w w' := by
  unfold runeAns
  split
  · rename_i ha
    rw [decode_ascii s pos h ha]
    refine (Tryz.strings_IndexRune_ascii ⟨#[32, 9]⟩ ((s[pos]'h).toNat : Nat) w (by omega) (by show (((s[pos]'h).toNat : Nat) : Int) < 128; omega)).mono ?_
    rintro e w' ⟨rfl, rfl⟩
    have hb : (((s[pos]'h).toNat : Nat) : Int).toNat.toUInt8 = s[pos]'h := by simp
    exact ⟨by rw [hb]; rfl, Below.refl _ _⟩
  · rename_i ha
    have ha' : 128 ≤ (s[pos]'h).toNat := by omega
    rcases decode_valid s pos h ha' with e | e
    · rw [e]; exact indexRune_bad w
    · by_cases h3 : (Utf8.decode s pos).1 = 65533
      · rw [h3]; exact indexRune_bad w
      · exact indexRune_high _ w (by have := (decode_high s pos h ha').1; omega) (by omega) e

set_option maxHeartbeats 4000000 in
set_option maxRecDepth 100000 in
theorem indexAny_short (s : ByteArray) (w : World) (h8 : s.size ≤ 8) : Calls Tryz.prog 29 #[.string s, .string ⟨#[32, 9]⟩] w fun e w' => e = .returned (.int .i64 (Lib.indexAny s.data.toList blanks)) ∧ Below w.heap.size w w' := by
  have h8z : decide ((8 : Int) < (s.size : Int)) = false := decide_eq_false (by omega)
  have HU := Hd.mk (useSet_any (s.size : Int))
  rw [h8z] at HU
  obtain ⟨k, hk⟩ : ∃ k, w.heap.size = k := ⟨_, rfl⟩
  have HK := Hd.mk hk
  clear h8z
  go_enter Tryz.func29, Tryz.ntmps29
  go_wp2_with fail
  refine (HU.out _).mono ?_
  rintro e wv ⟨rfl, hwv⟩
  subst hwv
  go_wp2_with fail
  have hi0 : (wv.iter s 0).heap[k]? = some (.stringIter s 0) := by rw [← hk]; exact World.iter_heap _ _ _
  have hb0 : Below wv.heap.size wv (wv.iter s 0) := (Below.refl _ _).alloc (Nat.le_refl _) _
  have HI0 := Hd.mk hi0
  have HB0 := Hd.mk hb0
  clear hi0 hb0
  go_loopw [9, 10] (fun _ _ wr => ∃ pos : Nat, pos ≤ s.size ∧ Hd (wr.heap[k]? = some (.stringIter s pos)) ∧ Hd (Lib.NoAny s.data.toList blanks pos) ∧ Hd (Below wv.heap.size wv wr)) (fun _ _ wr => s.size - wr.iterPos k)
  case atStart => exact ⟨0, Nat.zero_le _, HI0, ⟨Lib.NoAny.zero _ _⟩, HB0⟩
  case round =>
    obtain ⟨pos, hp, HI, HNo, HB⟩ := hrel
    clear HI0 HB0
    by_cases hlt : pos < s.size
    · have hnx := fun ty => Lib.run_next_any_at (P := Tryz.prog) wr k s pos ty HI.out hlt
      have HR := Hd.mk (fun w' => indexRune_at s pos hlt w')
      have hi1 := Lib.iterAt_heap wr k s pos (pos + (Utf8.decode s pos).2) HI.out
      have hb1 : Below wv.heap.size wv (wr.iterAt k s (pos + (Utf8.decode s pos).2)) := Lib.below_iterAt HB.out (by rw [HK.out]; exact Nat.le_refl _) s _
      have hans : Hd ((runeAns s pos hlt < 0 ∧ Lib.NoAny s.data.toList blanks (pos + (Utf8.decode s pos).2) ∧ pos + (Utf8.decode s pos).2 ≤ s.size ∧ 1 ≤ (Utf8.decode s pos).2) ∨ (0 ≤ runeAns s pos hlt ∧ Lib.indexAny s.data.toList blanks = pos)) := ⟨by
        by_cases ha : (s[pos]'hlt).toNat < 128
        · have e : runeAns s pos hlt = Lib.indexByte blanks (s[pos]'hlt) := by unfold runeAns; rw [if_pos ha]
          have hd := decode_ascii s pos hlt ha
          have hxl := Lib.data_getElem? s pos hlt
          have hcon := Lib.contains_iff_indexByte blanks (s[pos]'hlt)
          rw [e]
          cases hin : blanks.contains (s[pos]'hlt)
          · rw [hin] at hcon
            left
            rw [hd]
            exact ⟨by have := of_decide_eq_false hcon.symm; omega, HNo.out.succ hxl hin, by show pos + 1 ≤ _; omega, Nat.le_refl _⟩
          · rw [hin] at hcon
            right
            exact ⟨of_decide_eq_true hcon.symm, Lib.indexAny_hit HNo.out hxl hin⟩
        · have e : runeAns s pos hlt = -1 := by unfold runeAns; rw [if_neg ha]
          have hw := noAny_wide hlt (by omega) HNo.out
          left
          rw [e]
          exact ⟨by omega, hw.1, hw.2, (decode_high s pos hlt (by omega)).2⟩⟩
      obtain ⟨rn, hrn⟩ : ∃ rn, ((Utf8.decode s pos).1 : Int) = rn := ⟨_, rfl⟩
      obtain ⟨wd, hwd⟩ : ∃ wd, (Utf8.decode s pos).2 = wd := ⟨_, rfl⟩
      obtain ⟨an, han⟩ : ∃ an, runeAns s pos hlt = an := ⟨_, rfl⟩
      rw [hrn, han] at HR
      rw [hwd] at hi1 hb1
      rw [hwd, han] at hans
      rw [hrn, hwd] at hnx
      have HI1 := Hd.mk hi1
      have HB1 := Hd.mk hb1
      clear hrn hwd han hi1 hb1
      rcases hans.out with ⟨a1, a2, a3, a4⟩ | ⟨a1, a2⟩
      · have hn0 : ¬ (0 : Int) ≤ an := by omega
        have HA2 := Hd.mk a2
        clear a1 a2 hans
        go_wp2_with fail
        refine (HR.out _).mono ?_
        rintro e w3 ⟨rfl, k3⟩
        have hkl : k < (wr.iterAt k s (pos + wd)).heap.size := lt_of_heap9 HI1.out
        have hi3 : w3.heap[k]? = some (.stringIter s (pos + wd)) := by rw [k3.block k hkl]; exact HI1.out
        have HI3 := Hd.mk hi3
        have HB3 := Hd.mk (Below.chain HB1.out k3)
        have HM : Hd (w3.iterPos k = pos + wd ∧ wr.iterPos k = pos) := ⟨⟨iterPos_of hi3, iterPos_of HI.out⟩⟩
        clear k3 hkl hi3 hnx
        go_wp2
        go_roundw
        case rel => exact ⟨pos + wd, a3, HI3, HA2, HB3⟩
        case measure => rw [HM.out.1, HM.out.2]; omega
      · have HA2 := Hd.mk a2
        clear a2 hans
        go_wp2_with fail
        refine (HR.out _).mono ?_
        rintro e w3 ⟨rfl, k3⟩
        have HB3 := Hd.mk (Below.chain HB1.out k3)
        clear k3 hnx
        go_wp2
        go_ret
        exact ⟨by rw [HA2.out]; rfl, HB3.out⟩
    · have hnx := fun ty => Lib.run_next_end_at (P := Tryz.prog) wr k s pos ty HI.out hlt
      have hps : pos = s.data.toList.length := by show pos = s.size; omega
      have HE : Hd (Lib.indexAny s.data.toList blanks = -1) := ⟨Lib.indexAny_none (hps ▸ HNo.out)⟩
      clear hps
      go_wp2
      go_ret
      exact ⟨by rw [HE.out]; rfl, HB.out⟩

end Go.Proofs.YtlohhlbbkliehaaGreatDoor.W
