/-
  DiskLasts: the walk of here.
-/
import Derived.Test.YtcleocgaooblfaaHere
namespace Go.Proofs.Ytcleocgaooblfaa.W
open Go.RowKit
set_option linter.unusedVariables false

/-- operation k wrote the byte b of a file -/
def Wrote (ps : List AV) (f j : Nat) (b : UInt8) (k : Nat) : Prop := ∃ a, ps[k]? = some a ∧ a.1.f = (f : Int) ∧ 0 ≤ a.1.n ∧ a.1.n ≤ (j : Int) ∧ a.1.s.data.toList[j - a.1.n.toNat]? = some b

/-- how a byte is here -/
structure Byte (safe : ByteArray) (ps : List AV) (f j : Nat) (b : UInt8) (okb : Bool) : Prop where
  is : (okb = true ∧ ((∃ h : j < safe.size, b = safe[j]) ∨ (safe.size ≤ j ∧ b = 0))) ∨ (okb = false ∧ (∃ k, k < ps.length ∧ Wrote ps f j b k) ∧ ((∃ h : j < safe.size, ¬ b = safe[j]) ∨ (safe.size ≤ j ∧ ¬ b = 0)))

theorem byte_of {safe s : ByteArray} {ps : List AV} {f : Nat} (h : Good safe.data.toList ps f s.data.toList) {j : Nat} (hj : j < s.size) : ∃ okb, Byte safe ps f j s[j] okb := by
  have hb := h.all j hj
  have e1 : s.data.toList.getD j 0 = s[j] := by
    rw [List.getD_eq_getElem?_getD, List.getElem?_eq_getElem (show j < s.data.toList.length from hj)]; rfl
  rw [e1] at hb
  have e2 : safe.data.toList.getD j 0 = if h : j < safe.size then safe[j] else 0 := by
    rw [List.getD_eq_getElem?_getD]
    split
    · rename_i h; rw [List.getElem?_eq_getElem (show j < safe.data.toList.length from h)]; rfl
    · rename_i h; rw [List.getElem?_eq_none (show safe.data.toList.length ≤ j from Nat.le_of_not_lt h)]; rfl
  unfold GoodAt at hb
  rw [e2] at hb
  by_cases hl : j < safe.size
  · rw [dif_pos hl] at hb
    by_cases he : s[j] = safe[j]
    · exact ⟨true, ⟨.inl ⟨rfl, .inl ⟨hl, he⟩⟩⟩⟩
    · rcases hb with hb | ⟨a, ha, r⟩
      · exact absurd hb he
      · obtain ⟨k, hk, e⟩ := List.getElem_of_mem ha
        exact ⟨false, ⟨.inr ⟨rfl, ⟨k, hk, a, by rw [List.getElem?_eq_getElem hk, e], r⟩, .inl ⟨hl, he⟩⟩⟩⟩
  · rw [dif_neg hl] at hb
    by_cases he : s[j] = 0
    · exact ⟨true, ⟨.inl ⟨rfl, .inr ⟨by omega, he⟩⟩⟩⟩
    · rcases hb with hb | ⟨a, ha, r⟩
      · exact absurd hb he
      · obtain ⟨k, hk, e⟩ := List.getElem_of_mem ha
        exact ⟨false, ⟨.inr ⟨rfl, ⟨k, hk, a, by rw [List.getElem?_eq_getElem hk, e], r⟩, .inr ⟨by omega, he⟩⟩⟩⟩

set_option maxHeartbeats 4000000 in
set_option maxRecDepth 100000 in
theorem here_any (w : World) (v : Value) (ps : List AV) (s safe : ByteArray) (f : Nat) (hs : s.size ≤ 16777216) (hl : ps.length ≤ 1000) (hp : ∀ a ∈ ps, 0 ≤ a.1.n ∧ a.1.n < 4000 ∧ AcOk a.1) (h : SRow w v ps) (hG : Good safe.data.toList ps f s.data.toList) :
    Calls Try.prog 25 #[.string s, .string safe, v, .int .i64 f] w fun e w' => e = .returned (.bool true) ∧ Keeps (fun _ => False) w w' := by
  obtain ⟨pv, cv, rfl⟩ := h.slice
  have HR := Hd.mk h
  have hlen : safe.size ≤ s.size := hG.len
  have HG := Hd.mk hG
  have HPs := Hd.mk hp
  obtain ⟨P, hP⟩ : ∃ P, ps.length = P := ⟨_, rfl⟩
  rw [hP] at HR hl
  rw [hP]
  have HP := Hd.mk hP
  clear h hP hG hp
  go_enter Try.func25, Try.ntmps25
  go_wp2_with fail
  go_loopw [9] (fun i wr => ∃ j : Nat, j ≤ s.size ∧ i = .int .i64 j ∧ Hd (Keeps (fun _ => False) w wr)) (fun i _ => s.size - (intOf i).toNat)
  case atStart => exact ⟨0, Nat.zero_le _, rfl, ⟨Keeps.refl _ _⟩⟩
  case round =>
    obtain ⟨j, hj, rfl, HK⟩ := hrel
    by_cases hlt : j < s.size
    · obtain ⟨okb, hB⟩ := byte_of HG.out hlt
      have HB := Hd.mk hB
      have HW : Hd (okb = false → ∃ k, k < P ∧ Wrote ps f j s[j] k) := ⟨fun e => by
        rcases HB.out.is with ⟨e', _⟩ | ⟨_, ⟨k, hk, hw⟩, _⟩
        · rw [e] at e'; cases e'
        · exact ⟨k, by rw [← HP.out]; exact hk, hw⟩⟩
      clear hB
      have hcs : (okb = true ∧ (∃ h : j < safe.size, s[j] = safe[j])) ∨ (okb = true ∧ safe.size ≤ j ∧ s[j] = 0) ∨ (okb = false ∧ (∃ h : j < safe.size, ¬ s[j] = safe[j])) ∨ (okb = false ∧ safe.size ≤ j ∧ ¬ s[j] = 0) := by
        rcases HB.out.is with ⟨e, h | h⟩ | ⟨e, _, h | h⟩
        · exact .inl ⟨e, h⟩
        · exact .inr (.inl ⟨e, h⟩)
        · exact .inr (.inr (.inl ⟨e, h⟩))
        · exact .inr (.inr (.inr ⟨e, h⟩))
      clear HB
      rcases hcs with ⟨rfl, hm, hbe⟩ | ⟨rfl, hm, hbe⟩ | ⟨rfl, hm, hbe⟩ | ⟨rfl, hm, hbe⟩
      · go_wp2
        go_quiet (fail)
        go_wp2
        have HKq := Hd.mk (HK.out.drewN nq)
        go_loopw [10, 11] (fun o i wr2 => o = .bool true ∧ i = .int .i64 0 ∧ Hd (Keeps (fun _ => False) w wr2)) (fun _ _ _ => 0)
        case atStart => exact ⟨rfl, rfl, HKq⟩
        case round =>
          obtain ⟨rfl, rfl, HK2⟩ := hrel
          by_cases hP0 : 0 < P
          · have hd5 : decide ((0 : Int) < (P : Int)) = true := by simp; omega
            go_wp2
            go_roundw
            case rel => exact ⟨j + 1, hlt, by go_num, HK2⟩
            case measure => simp [intOf]; omega
          · have hd5 : decide ((0 : Int) < (P : Int)) = false := by simp; omega
            go_wp2
            go_roundw
            case rel => exact ⟨j + 1, hlt, by go_num, HK2⟩
            case measure => simp [intOf]; omega
      · have hd2 : ¬ j < safe.size := by omega
        have hz : s[j].toNat = 0 := by rw [hbe]; rfl
        have HBE := Hd.mk hbe
        clear hbe
        go_wp2
        go_quiet (fail)
        go_wp2
        have HKq := Hd.mk (HK.out.drewN nq)
        go_loopw [10, 11] (fun o i wr2 => o = .bool true ∧ i = .int .i64 0 ∧ Hd (Keeps (fun _ => False) w wr2)) (fun _ _ _ => 0)
        case atStart => exact ⟨rfl, rfl, HKq⟩
        case round =>
          obtain ⟨rfl, rfl, HK2⟩ := hrel
          by_cases hP0 : 0 < P
          · have hd5 : decide ((0 : Int) < (P : Int)) = true := by simp; omega
            go_wp2
            go_roundw
            case rel => exact ⟨j + 1, hlt, by go_num, HK2⟩
            case measure => simp [intOf]; omega
          · have hd5 : decide ((0 : Int) < (P : Int)) = false := by simp; omega
            go_wp2
            go_roundw
            case rel => exact ⟨j + 1, hlt, by go_num, HK2⟩
            case measure => simp [intOf]; omega
      · have hd2 : ¬ safe.size ≤ j := by omega
        have hz : ((s[j].toNat : Int) == (safe[j].toNat : Int)) = false := by
          rw [beq_eq_false_iff_ne]
          exact fun e => hbe (UInt8.toNat_inj.1 (Int.ofNat.inj e))
        have HWf := Hd.mk (HW.out rfl)
        clear hbe HW
        go_wp2
        go_quiet (fail)
        go_wp2
        have HKq := Hd.mk (HK.out.drewN nq)
        go_loopw [10, 11] (fun o i wr2 => ∃ (k : Nat) (ob : Bool), k ≤ P ∧ i = .int .i64 k ∧ o = .bool ob ∧ Hd (Keeps (fun _ => False) w wr2) ∧ Hd (ob = false → ∃ k1, k ≤ k1 ∧ k1 < P ∧ Wrote ps f j s[j] k1)) (fun _ i _ => P - (intOf i).toNat)
        case atStart => exact ⟨0, false, Nat.zero_le _, rfl, rfl, HKq, ⟨fun _ => by obtain ⟨k1, h1, h2⟩ := HWf.out; exact ⟨k1, Nat.zero_le _, h1, h2⟩⟩⟩
        case round =>
          obtain ⟨k, ob, hk, rfl, rfl, HK2, HW2⟩ := hrel
          rcases ob with _ | _
          · obtain ⟨k1, hk1, hk2, hw⟩ := HW2.out rfl
            have HW1 := Hd.mk hw
            clear HW2 hw
            have hkP : k < P := by omega
            have hd5 : decide ((k : Int) < (P : Int)) = true := by simp; omega
            have hkl : k < ps.length := HP.out ▸ hkP
            obtain ⟨g, rfl, hc⟩ := (HR.out.keeps HK2.out (fun _ _ h => h)).at rfl hkl
            obtain ⟨hn0, hn1, hok⟩ := HPs.out _ (List.getElem_mem hkl)
            have hget : ps[k]? = some ps[k] := List.getElem?_eq_getElem hkl
            obtain ⟨x, hx⟩ : ∃ x, ps[k] = x := ⟨_, rfl⟩
            rw [hx] at hc hn0 hn1 hget
            obtain ⟨x, kv⟩ := x
            have c1 : wr.cell? ⟨g, k * 6 + 1, none⟩ = some (.int .i64 x.f) := by have := hc 1 _ rfl; rwa [Nat.zero_add] at this
            have c3 : wr.cell? ⟨g, k * 6 + 3, none⟩ = some (.int .i64 x.n) := by have := hc 3 _ rfl; rwa [Nat.zero_add] at this
            have c4 : wr.cell? ⟨g, k * 6 + 4, none⟩ = some (.string x.s) := by have := hc 4 _ rfl; rwa [Nat.zero_add] at this
            obtain ⟨n, hn⟩ := Int.eq_ofNat_of_zero_le hn0
            have hn' : x.n = (n : Int) := hn
            rw [hn'] at c3
            have HGet := Hd.mk hget
            have hn4 : n < 4000 := by have : x.n < 4000 := hn1; omega
            have ra : IntKind.i64.wrap ((j : Int) - (n : Int)) = (j : Int) - (n : Int) := IntWalk.i64_in _ (by omega)
            have HNN := Hd.mk hn'
            have HNo : Hd ((¬ (x.f = (f : Int)) ∨ ¬ n ≤ j ∨ ¬ (x.s.data.toList[j - n]? = some s[j])) → ¬ Wrote ps f j s[j] k) := ⟨fun h hw => by
              obtain ⟨a, ha, h1, h2, h3, h4⟩ := hw
              rw [HGet.out] at ha
              obtain rfl := Option.some.inj ha
              simp only [HNN.out] at h1 h2 h3 h4
              rcases h with h | h | h
              · exact h h1
              · omega
              · rw [Int.toNat_natCast] at h4; exact h h4⟩
            have HNext : Hd (¬ Wrote ps f j s[j] k → ∃ k1, k + 1 ≤ k1 ∧ k1 < P ∧ Wrote ps f j s[j] k1) := ⟨fun h => by
              refine ⟨k1, ?_, hk2, HW1.out⟩
              rcases Nat.lt_or_ge k k1 with h' | h'
              · exact h'
              · have : k = k1 := by omega
                subst this
                exact absurd HW1.out h⟩
            clear hc hget hn hn' hx hok hn0 hn1 HWf
            by_cases hf : x.f = (f : Int)
            · have hfe : (x.f == (f : Int)) = true := by simp [hf]
              by_cases hnj : n ≤ j
              · obtain ⟨m, hm'⟩ : ∃ m, j - n = m := ⟨_, rfl⟩
                have rm : (j : Int) - (n : Int) = (m : Int) := by omega
                rw [hm'] at HNo
                rw [rm] at ra
                have hd6 : decide ((0 : Int) ≤ (m : Int)) = true := by simp
                by_cases hms : m < x.s.size
                · have hxg : x.s.data.toList[m]? = some x.s[m] := by
                    rw [List.getElem?_eq_getElem (show m < x.s.data.toList.length from hms)]; rfl
                  have HXG := Hd.mk hxg
                  have HF := Hd.mk hf
                  have HM := Hd.mk hm'
                  clear hf hxg hnj hm'
                  by_cases hbb : x.s[m] = s[j]
                  · have hbt : ((x.s[m].toNat : Int) == (s[j].toNat : Int)) = true := by rw [hbb]; simp
                    have HBB := Hd.mk hbb
                    clear hbb
                    go_wp2
                    go_quiet (fail)
                    go_wp2
                    go_roundw
                    case rel => exact ⟨k + 1, true, hkP, by go_num, rfl, ⟨HK2.out.drewN _⟩, ⟨fun h => by cases h⟩⟩
                    case measure => simp [intOf]; omega
                  · have hbt : ((x.s[m].toNat : Int) == (s[j].toNat : Int)) = false := by
                      rw [beq_eq_false_iff_ne]
                      exact fun e => hbb (UInt8.toNat_inj.1 (Int.ofNat.inj e))
                    have HN2 : Hd (∃ k1, k + 1 ≤ k1 ∧ k1 < P ∧ Wrote ps f j s[j] k1) := ⟨HNext.out (HNo.out (.inr (.inr (by rw [HXG.out]; exact fun e => hbb (Option.some.inj e)))))⟩
                    clear hbb
                    go_wp2
                    go_quiet (fail)
                    go_wp2
                    go_roundw
                    case rel => exact ⟨k + 1, false, hkP, by go_num, rfl, ⟨HK2.out.drewN _⟩, ⟨fun _ => HN2.out⟩⟩
                    case measure => simp [intOf]; omega
                · have HN2 : Hd (∃ k1, k + 1 ≤ k1 ∧ k1 < P ∧ Wrote ps f j s[j] k1) := ⟨HNext.out (HNo.out (.inr (.inr (by rw [List.getElem?_eq_none (show x.s.data.toList.length ≤ m from Nat.le_of_not_lt hms)]; exact fun e => by cases e))))⟩
                  clear hf hnj hm'
                  go_wp2
                  go_quiet (fail)
                  go_wp2
                  go_roundw
                  case rel => exact ⟨k + 1, false, hkP, by go_num, rfl, ⟨HK2.out.drewN _⟩, ⟨fun _ => HN2.out⟩⟩
                  case measure => simp [intOf]; omega
              · have HN2 : Hd (∃ k1, k + 1 ≤ k1 ∧ k1 < P ∧ Wrote ps f j s[j] k1) := ⟨HNext.out (HNo.out (.inr (.inl hnj)))⟩
                clear hf
                go_wp2
                go_quiet (fail)
                go_wp2
                go_roundw
                case rel => exact ⟨k + 1, false, hkP, by go_num, rfl, ⟨HK2.out.drewN _⟩, ⟨fun _ => HN2.out⟩⟩
                case measure => simp [intOf]; omega
            · have HN2 : Hd (∃ k1, k + 1 ≤ k1 ∧ k1 < P ∧ Wrote ps f j s[j] k1) := ⟨HNext.out (HNo.out (.inl hf))⟩
              have hfe : (x.f == (f : Int)) = false := by simp [hf]
              obtain ⟨m, hm'⟩ : ∃ m : Int, (j : Int) - (n : Int) = m := ⟨_, rfl⟩
              rw [hm'] at ra
              clear hf hm'
              go_wp2
              go_quiet (fail)
              go_wp2
              go_roundw
              case rel => exact ⟨k + 1, false, hkP, by go_num, rfl, ⟨HK2.out.drewN _⟩, ⟨fun _ => HN2.out⟩⟩
              case measure => simp [intOf]; omega
          · clear HW2 HWf
            by_cases hkP : k < P
            · have hd5 : decide ((k : Int) < (P : Int)) = true := by simp; omega
              go_wp2
              go_roundw
              case rel => exact ⟨j + 1, hlt, by go_num, HK2⟩
              case measure => simp [intOf]; omega
            · have hd5 : decide ((k : Int) < (P : Int)) = false := by simp; omega
              go_wp2
              go_roundw
              case rel => exact ⟨j + 1, hlt, by go_num, HK2⟩
              case measure => simp [intOf]; omega
      · have hd2 : ¬ j < safe.size := by omega
        have hz : ((s[j].toNat : Int) == 0) = false := by
          rw [beq_eq_false_iff_ne]
          exact fun e => hbe (UInt8.toNat_inj.1 (Int.ofNat.inj e))
        have HWf := Hd.mk (HW.out rfl)
        clear hbe HW
        go_wp2
        go_quiet (fail)
        go_wp2
        have HKq := Hd.mk (HK.out.drewN nq)
        go_loopw [10, 11] (fun o i wr2 => ∃ (k : Nat) (ob : Bool), k ≤ P ∧ i = .int .i64 k ∧ o = .bool ob ∧ Hd (Keeps (fun _ => False) w wr2) ∧ Hd (ob = false → ∃ k1, k ≤ k1 ∧ k1 < P ∧ Wrote ps f j s[j] k1)) (fun _ i _ => P - (intOf i).toNat)
        case atStart => exact ⟨0, false, Nat.zero_le _, rfl, rfl, HKq, ⟨fun _ => by obtain ⟨k1, h1, h2⟩ := HWf.out; exact ⟨k1, Nat.zero_le _, h1, h2⟩⟩⟩
        case round =>
          obtain ⟨k, ob, hk, rfl, rfl, HK2, HW2⟩ := hrel
          rcases ob with _ | _
          · obtain ⟨k1, hk1, hk2, hw⟩ := HW2.out rfl
            have HW1 := Hd.mk hw
            clear HW2 hw
            have hkP : k < P := by omega
            have hd5 : decide ((k : Int) < (P : Int)) = true := by simp; omega
            have hkl : k < ps.length := HP.out ▸ hkP
            obtain ⟨g, rfl, hc⟩ := (HR.out.keeps HK2.out (fun _ _ h => h)).at rfl hkl
            obtain ⟨hn0, hn1, hok⟩ := HPs.out _ (List.getElem_mem hkl)
            have hget : ps[k]? = some ps[k] := List.getElem?_eq_getElem hkl
            obtain ⟨x, hx⟩ : ∃ x, ps[k] = x := ⟨_, rfl⟩
            rw [hx] at hc hn0 hn1 hget
            obtain ⟨x, kv⟩ := x
            have c1 : wr.cell? ⟨g, k * 6 + 1, none⟩ = some (.int .i64 x.f) := by have := hc 1 _ rfl; rwa [Nat.zero_add] at this
            have c3 : wr.cell? ⟨g, k * 6 + 3, none⟩ = some (.int .i64 x.n) := by have := hc 3 _ rfl; rwa [Nat.zero_add] at this
            have c4 : wr.cell? ⟨g, k * 6 + 4, none⟩ = some (.string x.s) := by have := hc 4 _ rfl; rwa [Nat.zero_add] at this
            obtain ⟨n, hn⟩ := Int.eq_ofNat_of_zero_le hn0
            have hn' : x.n = (n : Int) := hn
            rw [hn'] at c3
            have HGet := Hd.mk hget
            have hn4 : n < 4000 := by have : x.n < 4000 := hn1; omega
            have ra : IntKind.i64.wrap ((j : Int) - (n : Int)) = (j : Int) - (n : Int) := IntWalk.i64_in _ (by omega)
            have HNN := Hd.mk hn'
            have HNo : Hd ((¬ (x.f = (f : Int)) ∨ ¬ n ≤ j ∨ ¬ (x.s.data.toList[j - n]? = some s[j])) → ¬ Wrote ps f j s[j] k) := ⟨fun h hw => by
              obtain ⟨a, ha, h1, h2, h3, h4⟩ := hw
              rw [HGet.out] at ha
              obtain rfl := Option.some.inj ha
              simp only [HNN.out] at h1 h2 h3 h4
              rcases h with h | h | h
              · exact h h1
              · omega
              · rw [Int.toNat_natCast] at h4; exact h h4⟩
            have HNext : Hd (¬ Wrote ps f j s[j] k → ∃ k1, k + 1 ≤ k1 ∧ k1 < P ∧ Wrote ps f j s[j] k1) := ⟨fun h => by
              refine ⟨k1, ?_, hk2, HW1.out⟩
              rcases Nat.lt_or_ge k k1 with h' | h'
              · exact h'
              · have : k = k1 := by omega
                subst this
                exact absurd HW1.out h⟩
            clear hc hget hn hn' hx hok hn0 hn1 HWf
            by_cases hf : x.f = (f : Int)
            · have hfe : (x.f == (f : Int)) = true := by simp [hf]
              by_cases hnj : n ≤ j
              · obtain ⟨m, hm'⟩ : ∃ m, j - n = m := ⟨_, rfl⟩
                have rm : (j : Int) - (n : Int) = (m : Int) := by omega
                rw [hm'] at HNo
                rw [rm] at ra
                have hd6 : decide ((0 : Int) ≤ (m : Int)) = true := by simp
                by_cases hms : m < x.s.size
                · have hxg : x.s.data.toList[m]? = some x.s[m] := by
                    rw [List.getElem?_eq_getElem (show m < x.s.data.toList.length from hms)]; rfl
                  have HXG := Hd.mk hxg
                  have HF := Hd.mk hf
                  have HM := Hd.mk hm'
                  clear hf hxg hnj hm'
                  by_cases hbb : x.s[m] = s[j]
                  · have hbt : ((x.s[m].toNat : Int) == (s[j].toNat : Int)) = true := by rw [hbb]; simp
                    have HBB := Hd.mk hbb
                    clear hbb
                    go_wp2
                    go_quiet (fail)
                    go_wp2
                    go_roundw
                    case rel => exact ⟨k + 1, true, hkP, by go_num, rfl, ⟨HK2.out.drewN _⟩, ⟨fun h => by cases h⟩⟩
                    case measure => simp [intOf]; omega
                  · have hbt : ((x.s[m].toNat : Int) == (s[j].toNat : Int)) = false := by
                      rw [beq_eq_false_iff_ne]
                      exact fun e => hbb (UInt8.toNat_inj.1 (Int.ofNat.inj e))
                    have HN2 : Hd (∃ k1, k + 1 ≤ k1 ∧ k1 < P ∧ Wrote ps f j s[j] k1) := ⟨HNext.out (HNo.out (.inr (.inr (by rw [HXG.out]; exact fun e => hbb (Option.some.inj e)))))⟩
                    clear hbb
                    go_wp2
                    go_quiet (fail)
                    go_wp2
                    go_roundw
                    case rel => exact ⟨k + 1, false, hkP, by go_num, rfl, ⟨HK2.out.drewN _⟩, ⟨fun _ => HN2.out⟩⟩
                    case measure => simp [intOf]; omega
                · have HN2 : Hd (∃ k1, k + 1 ≤ k1 ∧ k1 < P ∧ Wrote ps f j s[j] k1) := ⟨HNext.out (HNo.out (.inr (.inr (by rw [List.getElem?_eq_none (show x.s.data.toList.length ≤ m from Nat.le_of_not_lt hms)]; exact fun e => by cases e))))⟩
                  clear hf hnj hm'
                  go_wp2
                  go_quiet (fail)
                  go_wp2
                  go_roundw
                  case rel => exact ⟨k + 1, false, hkP, by go_num, rfl, ⟨HK2.out.drewN _⟩, ⟨fun _ => HN2.out⟩⟩
                  case measure => simp [intOf]; omega
              · have HN2 : Hd (∃ k1, k + 1 ≤ k1 ∧ k1 < P ∧ Wrote ps f j s[j] k1) := ⟨HNext.out (HNo.out (.inr (.inl hnj)))⟩
                clear hf
                go_wp2
                go_quiet (fail)
                go_wp2
                go_roundw
                case rel => exact ⟨k + 1, false, hkP, by go_num, rfl, ⟨HK2.out.drewN _⟩, ⟨fun _ => HN2.out⟩⟩
                case measure => simp [intOf]; omega
            · have HN2 : Hd (∃ k1, k + 1 ≤ k1 ∧ k1 < P ∧ Wrote ps f j s[j] k1) := ⟨HNext.out (HNo.out (.inl hf))⟩
              have hfe : (x.f == (f : Int)) = false := by simp [hf]
              obtain ⟨m, hm'⟩ : ∃ m : Int, (j : Int) - (n : Int) = m := ⟨_, rfl⟩
              rw [hm'] at ra
              clear hf hm'
              go_wp2
              go_quiet (fail)
              go_wp2
              go_roundw
              case rel => exact ⟨k + 1, false, hkP, by go_num, rfl, ⟨HK2.out.drewN _⟩, ⟨fun _ => HN2.out⟩⟩
              case measure => simp [intOf]; omega
          · clear HW2 HWf
            by_cases hkP : k < P
            · have hd5 : decide ((k : Int) < (P : Int)) = true := by simp; omega
              go_wp2
              go_roundw
              case rel => exact ⟨j + 1, hlt, by go_num, HK2⟩
              case measure => simp [intOf]; omega
            · have hd5 : decide ((k : Int) < (P : Int)) = false := by simp; omega
              go_wp2
              go_roundw
              case rel => exact ⟨j + 1, hlt, by go_num, HK2⟩
              case measure => simp [intOf]; omega
    · obtain rfl : j = s.size := by omega
      go_wp2
      go_ret
      exact ⟨rfl, HK.out⟩

end Go.Proofs.Ytcleocgaooblfaa.W
