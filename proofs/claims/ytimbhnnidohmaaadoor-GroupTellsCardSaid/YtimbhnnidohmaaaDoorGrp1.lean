/-
  The walks of group.sections, and of slices.IndexFunc, slices.DeleteFunc at it.
-/
import Derived.Test.YtimbhnnidohmaaaDoorForm3
import Derived.Test.YtimbhnnidohmaaaDoorShelf
namespace Go.Proofs.YtimbhnnidohmaaaDoor.W
open Go.RowKit
set_option linter.unusedVariables false

/-- a section's number that is none -/
def offB (N : Nat) (s : Int) : Bool := decide (s < 0 ∨ (N : Int) ≤ s)
def intsV (ks : List Int) : List Value := ks.map fun k => .int .i64 k
theorem intsV_len (ks : List Int) : (intsV ks).length = ks.length := by simp [intsV]
theorem intsV_at {ks : List Int} {j : Nat} (h : j < ks.length) : (intsV ks)[j]? = some (.int .i64 ks[j]) := by simp [intsV, h]
theorem intsV_set (ks : List Int) (j : Nat) (x : Int) : (intsV ks).set j (.int .i64 x) = intsV (ks.set j x) := by simp [intsV, List.map_set]

theorem gsec1_any (s : Int) (w : World) (hb : Nat) (p : Option Addr) (N c : Nat) (hc : w.cell? ⟨hb, 1, none⟩ = some (.slice p N c)) :
    Calls Tryd.prog 32 #[.int .i64 s, .pointer (some ⟨hb, 0, none⟩)] w fun e w' => e = .returned (.bool (offB N s)) ∧ w = w' := by
  unfold offB
  by_cases h0 : s < 0
  · rw [decide_eq_true (.inl h0)]
    go_enter Tryd.func32, Tryd.ntmps32
    go_wp2
    go_ret
    exact ⟨rfl, rfl⟩
  · go_enter Tryd.func32, Tryd.ntmps32
    go_wp2
    go_ret
    exact ⟨ret_b (by rw [Bool.eq_iff_iff]; simp; try omega), rfl⟩

/-- the first one that is none -/
def offI12 (N : Nat) (ks : List Int) : Nat := ks.findIdx (offB N)
def offV (N : Nat) (ks : List Int) : Int := if offI12 N ks < ks.length then (offI12 N ks : Int) else -1
theorem off_hit {N : Nat} {ks : List Int} {k : Nat} (h : k < ks.length) (he : offB N ks[k] = true) (hall : ∀ j (h : j < ks.length), j < k → offB N ks[j] = false) : offV N ks = (k : Int) := by
  have : offI12 N ks = k := by
    unfold offI12
    rw [List.findIdx_eq h]
    exact ⟨he, fun j hj => hall j (by omega) hj⟩
  unfold offV
  rw [this, if_pos h]
theorem off_miss {N : Nat} {ks : List Int} (hall : ∀ j (h : j < ks.length), offB N ks[j] = false) : offV N ks = -1 := by
  have : offI12 N ks = ks.length := by
    unfold offI12
    rw [List.findIdx_eq_length]
    intro x hx
    obtain ⟨j, hj, rfl⟩ := List.getElem_of_mem hx
    exact hall j hj
  unfold offV
  rw [this, if_neg (Nat.lt_irrefl _)]

set_option maxHeartbeats 1000000 in
set_option maxRecDepth 100000 in
theorem gidx_any (w : World) (v : Value) (ks : List Int) (hb : Nat) (p : Option Addr) (N c : Nat) (hl : ks.length ≤ 140737488351232) (hR : Rw 1 intE w v ks) (hc : w.cell? ⟨hb, 1, none⟩ = some (.slice p N c)) :
    Calls Tryd.prog 41 #[v, .func (.func 32) #[] #[.pointer (some ⟨hb, 0, none⟩)]] w fun e w' => e = .returned (.int .i64 (offV N ks)) ∧ w = w' := by
  obtain ⟨pv, cv, rfl⟩ := hR.slice
  have HR := Hd.mk hR
  have HC := Hd.mk (fun s => gsec1_any s w hb p N c hc)
  obtain ⟨n, hn⟩ : ∃ n, ks.length = n := ⟨_, rfl⟩
  obtain ⟨r, hr⟩ : ∃ r, offV N ks = r := ⟨_, rfl⟩
  have HRes := Hd.mk hr
  rw [hn] at HR hl
  rw [hn, hr]
  have HN := Hd.mk hn
  clear hR hc hr hn
  go_enter Tryd.func41, Tryd.ntmps41
  go_wp2
  go_loop [8] (fun iv => ∃ j : Nat, j ≤ n ∧ iv = .int .i64 j ∧ Hd (∀ i (h : i < ks.length), i < j → offB N ks[i] = false)) (fun iv => n - (intOf iv).toNat)
  case atStart => exact ⟨0, Nat.zero_le _, rfl, ⟨fun _ _ h => by omega⟩⟩
  case round =>
    obtain ⟨j, hj, rfl, HA⟩ := hrel
    by_cases hlt : j < n
    · have hjl : j < ks.length := by rw [HN.out]; exact hlt
      obtain ⟨g, of, cs, hpp, hg, _, hE, hcc⟩ := HR.out.at rfl (j := j) hjl
      obtain rfl := hpp
      obtain rfl : cs = [.int .i64 ks[j]] := hE
      have c0 := hcc 0 _ rfl
      rw [Nat.mul_one, Nat.add_zero] at c0
      obtain ⟨x, hx⟩ : ∃ x, ks[j] = x := ⟨_, rfl⟩
      rw [hx] at c0
      have HX := Hd.mk hx
      have HCx := Hd.mk (HC.out x)
      have hms : n - (intOf (.int .i64 ((j : Int) + 1))).toNat < n - (intOf (.int .i64 (j : Int))).toNat := by simp [intOf]; omega
      clear hcc hg hx
      rcases hb' : offB N x with _ | _
      · rw [hb'] at HCx
        have HA2 : Hd (∀ i (h : i < ks.length), i < j + 1 → offB N ks[i] = false) := ⟨fun i h hi => by
          rcases Nat.lt_or_ge i j with h' | h'
          · exact HA.out i h h'
          · have : i = j := by omega
            subst this
            rw [HX.out]; exact hb'⟩
        clear hb'
        go_wp2_with fail
        refine HCx.out.mono ?_; rintro e w1 ⟨rfl, rfl⟩
        go_wp2
        go_round
        case rel => exact ⟨j + 1, hlt, by go_num, HA2⟩
        case measure => exact hms
      · rw [hb'] at HCx
        have hv : r = (j : Int) := by rw [← HRes.out]; exact off_hit hjl (by rw [HX.out]; exact hb') HA.out
        have HV := Hd.mk hv
        clear hb' hv HRes
        go_wp2_with fail
        refine HCx.out.mono ?_; rintro e w1 ⟨rfl, rfl⟩
        go_wp2
        go_ret
        exact ⟨ret_i HV.out.symm, rfl⟩
    · have hjn : j = n := by omega
      subst hjn
      have hd : decide ((j : Int) < (j : Int)) = false := by simp
      have hv : r = -1 := by rw [← HRes.out]; exact off_miss (fun i h => HA.out i h (by rw [← HN.out]; exact h))
      have HV := Hd.mk hv
      clear hv HRes
      go_wp2
      go_ret
      exact ⟨ret_i HV.out.symm, rfl⟩

def inB (N : Nat) (s : Int) : Bool := !offB N s
theorem off_start {N i0 : Nat} {ks : List Int} (h : offI12 N ks = i0) (hi : i0 < ks.length) : ks.take i0 = (ks.take (i0 + 1)).filter (inB N) := by
  unfold offI12 at h
  have := (List.findIdx_eq hi).1 h
  rw [List.take_succ_eq_append_getElem hi, List.filter_append]
  have h1 : (ks.take i0).filter (inB N) = ks.take i0 := by
    rw [List.filter_eq_self]
    intro x hx
    obtain ⟨j, hj, rfl⟩ := List.getElem_of_mem hx
    have hj' : j < i0 := by simp at hj; omega
    have := this.2 j hj'
    simp only [List.getElem_take]
    unfold inB; rw [this]; rfl
  rw [h1]
  simp [inB, this.1]
theorem off_at {ks r : List Int} {j : Nat} (hj : j < ks.length) (hr : j < r.length) (hd : r.drop j = ks.drop j) : ks[j] = r[j] ∧ r.drop (j + 1) = ks.drop (j + 1) := by
  rw [List.drop_eq_getElem_cons hj, List.drop_eq_getElem_cons hr] at hd
  injection hd with h1 h2
  exact ⟨h1.symm, h2⟩
theorem off_skip {N : Nat} {ks r : List Int} {i j : Nat} (hj : j < ks.length) (hr : j < r.length) (he : offB N r[j] = true) (ht : r.take i = (ks.take j).filter (inB N)) (hd : r.drop j = ks.drop j) :
    r.take i = (ks.take (j + 1)).filter (inB N) ∧ r.drop (j + 1) = ks.drop (j + 1) := by
  have h := off_at hj hr hd
  refine ⟨?_, h.2⟩
  rw [List.take_succ_eq_append_getElem hj, List.filter_append, h.1, ← ht]
  simp [inB, he]
theorem off_keep {N : Nat} {ks r : List Int} {i j : Nat} (hj : j < ks.length) (hr : j < r.length) (hij : i < j) (he : offB N r[j] = false) (ht : r.take i = (ks.take j).filter (inB N)) (hd : r.drop j = ks.drop j) :
    (r.set i r[j]).take (i + 1) = (ks.take (j + 1)).filter (inB N) ∧ (r.set i r[j]).drop (j + 1) = ks.drop (j + 1) := by
  have h := off_at hj hr hd
  refine ⟨?_, by rw [List.drop_set_of_lt (by omega)]; exact h.2⟩
  rw [List.take_succ_eq_append_getElem hj, List.filter_append, h.1, ← ht, List.take_succ_eq_append_getElem (by simp; omega), List.take_set_of_le (by omega)]
  simp [inB, he]

theorem Own.trunc {w : World} {B : Nat} {e : TypeId} {g n cap i : Nat} {xs : List Value} (h : Own w B e (.slice (some ⟨g, 0, none⟩) n cap) xs) (hi : i ≤ xs.length) : Own w B e (.slice (some ⟨g, 0, none⟩) i cap) (xs.take i) := by
  rcases h.is with ⟨h, _⟩ | ⟨g', cap', h, hB, hn, hm, hc, hcell, hf⟩
  · cases h
  · injection h with h1 h2 h3; injection h1 with h1; injection h1 with h1 _ _; subst h1; subst h3
    have hl : (xs.take i).length = i := by rw [List.length_take]; omega
    exact ⟨.inr ⟨g, cap, by rw [hl], hB, by rw [hl]; omega, hm, hc, fun j u hj => hcell j u (by rw [List.getElem?_take] at hj; split at hj; exact hj; cases hj), hf⟩⟩

theorem setMany_take {α : Type} (us l : List α) (o : Nat) (h : o + us.length ≤ l.length) : (setMany l o us).take o = l.take o := by
  apply List.ext_getElem?
  intro j
  rw [List.getElem?_take, List.getElem?_take]
  split
  · rw [setMany_at _ _ _ _ h, if_neg (by omega)]
  · rfl

theorem run_clear_ints {w : World} {B g n cap c : Nat} {l : List Int} (ty : TypeId) (h : Own w B 3 (.slice (some ⟨g, 0, none⟩) n cap) (intsV l)) (a : Nat) (ha : a ≤ l.length) :
    ∃ w', (Builtin.clear_ #[45] ty #[.slice (some ⟨g, a, none⟩) (l.length - a) c]).run Tryd.prog w = .ok (.tuple #[]) w' ∧ Own w' B 3 (.slice (some ⟨g, 0, none⟩) a cap) (intsV (l.take a)) ∧ Keeps (· = g) w w' := by
  have hil := intsV_len l
  have hO := (Own.setMany (intsV (List.replicate (l.length - a) 0)) _ w a h).trunc (i := a) (by rw [setMany_len, hil]; exact ha)
  rw [setMany_take _ _ _ (by rw [intsV_len, hil]; simp; omega)] at hO
  refine ⟨_, ?_, hO.cast (by simp [intsV, List.map_take]), (keeps_setCells _ a w).mono (fun k _ e => by injection e with e; exact e.symm)⟩
  have hzv : ∀ w, (zeroValue 3).run Tryd.prog w = .ok (.int .i64 0) w := Tryd.zeroValue3
  rcases Nat.eq_zero_or_pos (l.length - a) with h0 | h0
  · rw [h0]
    simp [Builtin.clear_, run_underlying Tryd.underlying45, intsV, World.setCells]
  · obtain ⟨m, hm⟩ : ∃ m, l.length - a = m + 1 := ⟨l.length - a - 1, by omega⟩
    have hzc : (Builtin.zeroCells (Value.int .i64 0).cells (l.length - a)).toList = intsV (List.replicate (l.length - a) 0) := by
      apply List.ext_getElem?
      intro j
      simp only [Builtin.zeroCells, intsV, Value.cells]
      by_cases hj : j < l.length - a
      · simp [hj, Nat.mod_one]
      · simp [hj]
    have hst := run_storeCells_cells (P := Tryd.prog) g a (intsV (List.replicate (l.length - a) 0)) 0 w (fun j hj => by
      have hj' : j < l.length - a := by simpa [intsV] using hj
      have := h.cellAt (j := a + j) (intsV_at (by omega))
      rw [Nat.add_zero, this]; rfl) (fun j hj => by
      have hj' : j < l.length - a := by simpa [intsV] using hj
      rw [Nat.add_zero]
      exact h.freeAt (by rw [hil]; omega)) (fun v hv => by simp [intsV] at hv; rw [hv.2]; rfl)
    simp only [Nat.add_zero] at hst
    rw [← hzc] at hst ⊢
    rw [hm] at hst ⊢
    simp only [Builtin.clear_]
    simp [run_underlying Tryd.underlying45, hzv, hst]

theorem Rw.of_own_ints {w : World} {B : Nat} {v : Value} {ks : List Int} (h : Own w B 3 v (intsV ks)) : Rw 1 intE w v ks :=
  Rw.of_own h (intsV_len ks) (fun j x u hx hu => by rw [intsV, List.getElem?_map, hx] at hu; cases hu; rfl)

set_option maxHeartbeats 2000000 in
set_option maxRecDepth 100000 in
theorem gdel_any (w : World) (B : Nat) (v : Value) (ks : List Int) (hb : Nat) (p : Option Addr) (N c : Nat) (hl : ks.length ≤ 140737488351232) (hO : Own w B 3 v (intsV ks)) (hc : w.cell? ⟨hb, 1, none⟩ = some (.slice p N c)) (hne : v.ownBlock ≠ some hb) :
    Calls Tryd.prog 30 #[v, .func (.func 32) #[] #[.pointer (some ⟨hb, 0, none⟩)]] w fun e w' => ∃ v', e = .returned v' ∧ Own w' B 3 v' (intsV (ks.filter (inB N))) ∧ Keeps (fun k => v.ownBlock = some k) w w' := by
  have HI := Hd.mk (gidx_any w v ks hb p N c hl (Rw.of_own_ints hO) hc)
  by_cases hi : offI12 N ks < ks.length
  · obtain ⟨i0, hi0⟩ : ∃ i, offI12 N ks = i := ⟨_, rfl⟩
    rw [hi0] at hi
    have hiv : offV N ks = (i0 : Int) := by unfold offV; rw [hi0, if_pos hi]
    rw [hiv] at HI
    obtain ⟨g, cap, rfl⟩ := hO.slice (by rw [intsV_len]; omega)
    rw [intsV_len] at hO HI hne ⊢
    have hbg : hb ≠ g := fun e => hne (by subst e; rfl)
    have hblt : hb < w.heap.size := World.block_lt_of_cell? w _ (by rw [hc])
    have HC := Hd.mk hc
    have hst := Hd.mk (off_start hi0 hi)
    have HO := Hd.mk hO
    obtain ⟨n, hn⟩ : ∃ n, ks.length = n := ⟨_, rfl⟩
    rw [hn] at hi hl HI HO
    rw [hn]
    have HN := Hd.mk hn
    have hm1 : ((i0 : Int) == -1) = false := by simp
    clear hc hiv hn hO hne hi0
    go_enter Tryd.func30, Tryd.ntmps30
    go_wp2_with fail
    refine HI.out.mono ?_; rintro e w1 ⟨rfl, rfl⟩
    go_wp2
    go_loopw [5, 6] (fun iv jv wr => ∃ i j : Nat, ∃ r : List Int, i < j ∧ j ≤ n ∧ iv = .int .i64 i ∧ jv = .int .i64 j ∧ r.length = n ∧ Hd (r.take i = (ks.take j).filter (inB N)) ∧ Hd (r.drop j = ks.drop j) ∧ Hd (Own wr B 3 (.slice (some ⟨g, 0, none⟩) n cap) (intsV r)) ∧ Hd (Keeps (· = g) w wr)) (fun _ jv _ => n - (intOf jv).toNat)
    case atStart => exact ⟨i0, i0 + 1, ks, by omega, by omega, rfl, by go_num, HN.out, hst, ⟨rfl⟩, HO, ⟨Keeps.refl _ _⟩⟩
    case round =>
      clear HO HI hst
      obtain ⟨i, j, r, hij, hj, rfl, rfl, hrl, HT, HD, HO, HK⟩ := hrel
      have hcw : wr.cell? ⟨hb, 1, none⟩ = some (.slice p N c) := by
        have hkb := HK.out.block hb hblt hbg
        rw [World.cell?_of_block (a := ⟨hb, 1, none⟩) hkb]; exact HC.out
      by_cases hlt : j < n
      · have hd1 : decide ((j : Int) < (n : Int)) = true := by simp; omega
        have hjr : j < r.length := by omega
        have hjk : j < ks.length := by rw [HN.out]; exact hlt
        have c0 := HO.out.cellAt (intsV_at hjr)
        have HSk := Hd.mk (fun he => off_skip (N := N) hjk hjr he HT.out HD.out)
        have HKp := Hd.mk (fun he => off_keep (N := N) hjk hjr hij he HT.out HD.out)
        obtain ⟨x, hx⟩ : ∃ x, r[j] = x := ⟨_, rfl⟩
        rw [hx] at c0 HSk HKp
        have HCL := Hd.mk (gsec1_any x wr hb p N c hcw)
        have hms : n - (intOf (.int .i64 ((j : Int) + 1))).toNat < n - (intOf (.int .i64 (j : Int))).toNat := by simp [intOf]; omega
        clear hx hcw
        rcases he : offB N x with _ | _
        · rw [he] at HCL
          have hir : i < r.length := by omega
          have f0 := HO.out.freeAt (j := i) (by rw [intsV_len]; exact hir)
          have e0 := HO.out.cellAt (intsV_at hir)
          have hin : (i : Int) < (n : Int) := by omega
          have HO2 := Hd.mk (HO.out.setAt (.int .i64 x) (j := i))
          rw [intsV_set] at HO2
          have HK2 := Hd.mk (HK.out.setCell (p := ⟨g, i, none⟩) (.inr rfl) (.int .i64 x))
          have HKe := Hd.mk (HKp.out he)
          clear he HSk HKp
          go_wp2_with fail
          refine HCL.out.mono ?_; rintro e w2 ⟨rfl, rfl⟩
          go_wp2
          go_roundw
          case rel => exact ⟨i + 1, j + 1, r.set i x, by omega, hlt, by go_num, by go_num, by simpa using hrl, ⟨HKe.out.1⟩, ⟨HKe.out.2⟩, HO2, HK2⟩
          case measure => exact hms
        · rw [he] at HCL
          have HSe := Hd.mk (HSk.out he)
          clear he HSk HKp
          go_wp2_with fail
          refine HCL.out.mono ?_; rintro e w2 ⟨rfl, rfl⟩
          go_wp2
          go_roundw
          case rel => exact ⟨i, j + 1, r, by omega, hlt, rfl, by go_num, hrl, ⟨HSe.out.1⟩, ⟨HSe.out.2⟩, HO, HK⟩
          case measure => exact hms
      · have hd1 : decide ((j : Int) < (n : Int)) = false := by simp; omega
        have hjn : j = n := by omega
        have hfin : Hd (r.take i = ks.filter (inB N)) := ⟨by rw [HT.out, hjn, List.take_of_length_le (by rw [HN.out]; exact Nat.le_refl _)]⟩
        have hin : i ≤ n := by omega
        have hcap : n ≤ cap := by
          rcases HO.out.is with ⟨h, _⟩ | ⟨_, _, h, _, hn', _⟩
          · cases h
          · injection h with _ h2 h3; rw [h3, h2]; exact hn'
        obtain ⟨w3, hcr, hO3, hK3⟩ := run_clear_ints (c := cap - i) 0 HO.out i (by rw [hrl]; exact hin)
        rw [hrl] at hcr
        rw [hfin.out] at hO3
        have HO3 := Hd.mk hO3
        have HK3 : Hd (Keeps (· = g) w w3) := ⟨HK.out.trans hK3⟩
        clear hO3 hK3 hcw hjn
        go_wp2_with (rw [hcr])
        go_ret
        exact ⟨_, rfl, HO3.out, HK3.out.mono (fun k _ e => by rw [e]; rfl)⟩
  · have hiv : offV N ks = -1 := by unfold offV; rw [if_neg hi]
    rw [hiv] at HI
    have hall : ks.filter (inB N) = ks := by
      rw [List.filter_eq_self]
      intro x hx
      have h0 : ¬ ∃ x ∈ ks, offB N x = true := fun hx => hi (List.findIdx_lt_length.2 hx)
      have hpf : offB N x = false := by
        rcases h : offB N x with _ | _
        · rfl
        · exact absurd ⟨x, hx, h⟩ h0
      unfold inB; rw [hpf]; rfl
    rw [hall]
    have HO := Hd.mk hO
    obtain ⟨pv, cv, rfl⟩ := (Rw.of_own_ints hO).slice
    clear hO hc hiv hall hi hne
    go_enter Tryd.func30, Tryd.ntmps30
    go_wp2_with fail
    refine HI.out.mono ?_; rintro e w1 ⟨rfl, rfl⟩
    go_wp2
    go_ret
    exact ⟨_, rfl, HO.out, Keeps.refl _ _⟩

end Go.Proofs.YtimbhnnidohmaaaDoor.W
