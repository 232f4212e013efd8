import Derived.Test.YtmgkoocpnakanaaVk
import Derived.Test.YtmgkoocpnakanaaAppF
import Derived.Laws.Cover1
/-
  The reference of version: Name, find, has, all, Serves.
-/
namespace Go.Proofs.Ytmgkoocpnakanaa.W
open Go.RowKit
set_option linter.unusedVariables false

set_option maxHeartbeats 4000000 in
set_option maxRecDepth 100000 in
theorem rname_any (w : World) (s : ByteArray) (hs : s.size ≤ 1000000) :
    Calls Try.prog 24 #[.string s] w fun e w' => e = .returned (.bool (nmB s)) ∧ w' = w := by
  obtain ⟨R, hR⟩ : ∃ R, nmB s = R := ⟨_, rfl⟩
  have HR := Hd.mk hR
  rw [hR]
  clear hR
  go_enter Try.func24, Try.ntmps24
  go_wp2
  go_loopw [3] (fun kv wr => ∃ k : Nat, k ≤ s.size ∧ kv = .int .i64 (k : Int) ∧ Hd ((s.data.toList.take k).all nmC = true) ∧ w = wr) (fun kv _ => s.size - (intOf kv).toNat)
  case atStart => exact ⟨0, Nat.zero_le _, rfl, ⟨rfl⟩, rfl⟩
  case round =>
    obtain ⟨k, hk, rfl, HT, rfl⟩ := hrel
    by_cases hlt : k < s.size
    · have hd1 : decide ((k : Int) < (s.size : Int)) = true := decide_eq_true (by omega)
      have hmk : s.size - (intOf (.int .i64 ((k : Int) + 1))).toNat < s.size - (intOf (.int .i64 (k : Int))).toNat := by simp [intOf]; omega
      have hkq : k < s.data.toList.length := by simpa using hlt
      have hbad := nm_bad hkq
      have htk : (s.data.toList.take (k + 1)).all nmC = ((s.data.toList.take k).all nmC && nmC s.data.toList[k]) := by
        rw [List.take_add_one, List.getElem?_eq_getElem hkq, List.all_append]; simp
      have hsx : s.data.toList[k] = s[k] := by simp; rfl
      obtain ⟨x, hx⟩ : ∃ x, s[k] = x := ⟨_, rfl⟩
      rw [hsx, hx] at hbad htk
      have HX := Hd.mk (And.intro hbad htk)
      clear hbad htk hsx
      by_cases h1 : x.toNat < 33
      · have g1 : decide ((x.toNat : Int) < 33) = true := decide_eq_true (by omega)
        have HE : Hd (false = R) := ⟨by rw [← HR.out, HX.out.1 (by unfold nmC; rw [decide_eq_false (by omega)]; rfl)]⟩
        go_wp2
        go_ret
        exact ⟨ret_b HE.out, rfl⟩
      · have g1 : decide ((x.toNat : Int) < 33) = false := decide_eq_false (by omega)
        by_cases h2 : 126 < x.toNat
        · have g2 : decide ((126 : Int) < (x.toNat : Int)) = true := decide_eq_true (by omega)
          have HE : Hd (false = R) := ⟨by rw [← HR.out, HX.out.1 (by unfold nmC; rw [decide_eq_false (show ¬ x.toNat ≤ 126 by omega), Bool.and_false])]⟩
          go_wp2
          go_ret
          exact ⟨ret_b HE.out, rfl⟩
        · have g2 : decide ((126 : Int) < (x.toNat : Int)) = false := decide_eq_false (by omega)
          have HT2 : Hd ((s.data.toList.take (k + 1)).all nmC = true) := ⟨by rw [HX.out.2, HT.out]; unfold nmC; rw [decide_eq_true (by omega), decide_eq_true (by omega)]; rfl⟩
          go_wp2
          exact ⟨⟨k + 1, hlt, by go_num, HT2, trivial⟩, hmk⟩
    · have hd1 : decide ((k : Int) < (s.size : Int)) = false := decide_eq_false (by omega)
      have HF : Hd ((decide (1 ≤ s.size) && decide (s.size ≤ 64)) = R) := ⟨by
        rw [← HR.out]
        unfold nmB
        have h1 := HT.out
        rw [List.take_of_length_le (by simp; omega)] at h1
        rw [h1]; rfl⟩
      by_cases h1 : 1 ≤ s.size
      · have g1 : decide ((1 : Int) ≤ (s.size : Int)) = true := decide_eq_true (by omega)
        by_cases h2 : s.size ≤ 64
        · have g2 : decide ((s.size : Int) ≤ 64) = true := decide_eq_true (by omega)
          have HE : Hd (true = R) := ⟨by rw [← HF.out, decide_eq_true h1, decide_eq_true h2]; rfl⟩
          go_wp2
          go_ret
          exact ⟨ret_b HE.out, rfl⟩
        · have g2 : decide ((s.size : Int) ≤ 64) = false := decide_eq_false (by omega)
          have HE : Hd (false = R) := ⟨by rw [← HF.out, decide_eq_false h2, Bool.and_false]⟩
          go_wp2
          go_ret
          exact ⟨ret_b HE.out, rfl⟩
      · have g1 : decide ((1 : Int) ≤ (s.size : Int)) = false := decide_eq_false (by omega)
        have HE : Hd (false = R) := ⟨by rw [← HF.out, decide_eq_false h1]; rfl⟩
        go_wp2
        go_ret
        exact ⟨ret_b HE.out, rfl⟩

/-! ### find -/
def fdI (l : List Vdf) (s : ByteArray) : Int := match firstI l s with
  | some i => (i : Int)
  | none => -1
theorem fdI_some {l : List Vdf} {s : ByteArray} {i : Nat} (h : firstI l s = some i) : fdI l s = (i : Int) := by unfold fdI; rw [h]
theorem fdI_none {l : List Vdf} {s : ByteArray} (h : firstI l s = none) : fdI l s = -1 := by unfold fdI; rw [h]
theorem firstI_at {l : List Vdf} {s : ByteArray} {k : Nat} (hk : k < l.length) (h0 : firstI (l.take k) s = none) (h : l[k].name = s) : firstI l s = some k := by
  unfold firstI
  rw [List.findIdx?_eq_some_iff_getElem]
  refine ⟨hk, by simpa using h, fun j hj => ?_⟩
  have := firstI_none.1 h0
  have hne : l[j].name ≠ s := fun e => this (List.mem_map.2 ⟨l[j], List.mem_take_iff_getElem.2 ⟨j, by omega, rfl⟩, e⟩)
  simpa using hne
set_option maxHeartbeats 4000000 in
set_option maxRecDepth 100000 in
theorem rfind_any (w : World) (v : Value) (l : List Vdf) (s : ByteArray) (h : Rw 2 Vdf.E w v l) (hl : l.length ≤ 1000000) :
    Calls Try.prog 25 #[v, .string s] w fun e w' => e = .returned (.int .i64 (fdI l s)) ∧ w' = w := by
  obtain ⟨p, q, hv⟩ := h.slice
  obtain ⟨M, hM⟩ : ∃ M, l.length = M := ⟨_, rfl⟩
  rw [hM] at hv
  subst hv
  have HRow := Hd.mk h
  have HM := Hd.mk hM
  obtain ⟨R, hR⟩ : ∃ R, fdI l s = R := ⟨_, rfl⟩
  have HR := Hd.mk hR
  rw [hR]
  rw [hM] at hl
  clear h hM hR
  go_enter Try.func25, Try.ntmps25
  go_wp2
  go_loopw [5] (fun kv wr => ∃ k : Nat, k ≤ M ∧ kv = .int .i64 (k : Int) ∧ Hd (firstI (l.take k) s = none) ∧ w = wr) (fun kv _ => M - (intOf kv).toNat)
  case atStart => exact ⟨0, Nat.zero_le _, rfl, ⟨rfl⟩, rfl⟩
  case round =>
    obtain ⟨k, hk, rfl, HT, rfl⟩ := hrel
    by_cases hlt : k < M
    · have hd1 : decide ((k : Int) < (M : Int)) = true := decide_eq_true (by omega)
      have hmk : M - (intOf (.int .i64 ((k : Int) + 1))).toNat < M - (intOf (.int .i64 (k : Int))).toNat := by simp [intOf]; omega
      have hkq : k < l.length := by rw [HM.out]; exact hlt
      obtain ⟨g, of, cs, hpe, hg, hcl, ⟨pv, rfl, hAt⟩, hcc⟩ := HRow.out.at rfl (j := k) hkq
      subst hpe
      have c0 : w.cell? ⟨g, of + k * 2, none⟩ = some (.string l[k].name) := hcc 0 _ rfl
      have hsn := firstI_snoc hkq s
      have hat := firstI_at (s := s) hkq HT.out
      obtain ⟨X, hX⟩ : ∃ X, l[k].name = X := ⟨_, rfl⟩
      rw [hX] at c0 hsn hat
      rw [HT.out] at hsn
      have HS := Hd.mk (And.intro hsn hat)
      clear hkq hg hcl hAt hcc hsn hat hX
      have g0 := str_beq X s
      by_cases hXs : X = s
      · rw [decide_eq_true hXs] at g0
        have HE : Hd ((k : Int) = R) := ⟨by rw [← HR.out, fdI_some (HS.out.2 hXs)]⟩
        clear hXs
        go_wp2
        go_ret
        exact ⟨by rw [← HE.out]; rfl, rfl⟩
      · rw [decide_eq_false hXs] at g0
        have HT2 : Hd (firstI (l.take (k + 1)) s = none) := ⟨by rw [HS.out.1]; exact if_neg hXs⟩
        clear hXs
        go_wp2
        exact ⟨⟨k + 1, hlt, by go_num, HT2, trivial⟩, hmk⟩
    · have hd1 : decide ((k : Int) < (M : Int)) = false := decide_eq_false (by omega)
      have HE : Hd ((-1 : Int) = R) := ⟨by
        have := HT.out
        rw [List.take_of_length_le (by rw [HM.out]; omega)] at this
        rw [← HR.out, fdI_none this]⟩
      go_wp2
      go_ret
      exact ⟨by rw [← HE.out]; rfl, rfl⟩

/-! ### has -/
theorem memB_snoc {xs : List ByteArray} {k : Nat} (hk : k < xs.length) (s : ByteArray) : memB (xs.take (k + 1)) s = (memB (xs.take k) s || decide (xs[k] = s)) := by
  unfold memB
  rw [List.take_add_one, List.getElem?_eq_getElem hk, List.any_append]; simp
set_option maxHeartbeats 4000000 in
set_option maxRecDepth 100000 in
theorem rhas_any (w : World) (v : Value) (xs : List ByteArray) (s : ByteArray) (h : Rw 1 strE w v xs) (hl : xs.length ≤ 1000000) :
    Calls Try.prog 26 #[v, .string s] w fun e w' => e = .returned (.bool (memB xs s)) ∧ w' = w := by
  obtain ⟨p, q, hv⟩ := h.slice
  obtain ⟨M, hM⟩ : ∃ M, xs.length = M := ⟨_, rfl⟩
  rw [hM] at hv
  subst hv
  have HRow := Hd.mk h
  have HM := Hd.mk hM
  obtain ⟨R, hR⟩ : ∃ R, memB xs s = R := ⟨_, rfl⟩
  have HR := Hd.mk hR
  rw [hR]
  rw [hM] at hl
  clear h hM hR
  go_enter Try.func26, Try.ntmps26
  go_wp2
  go_loopw [5] (fun kv wr => ∃ k : Nat, k ≤ M ∧ kv = .int .i64 (k : Int) ∧ Hd (memB (xs.take k) s = false) ∧ w = wr) (fun kv _ => M - (intOf kv).toNat)
  case atStart => exact ⟨0, Nat.zero_le _, rfl, ⟨rfl⟩, rfl⟩
  case round =>
    obtain ⟨k, hk, rfl, HT, rfl⟩ := hrel
    by_cases hlt : k < M
    · have hd1 : decide ((k : Int) < (M : Int)) = true := decide_eq_true (by omega)
      have hmk : M - (intOf (.int .i64 ((k : Int) + 1))).toNat < M - (intOf (.int .i64 (k : Int))).toNat := by simp [intOf]; omega
      have hkq : k < xs.length := by rw [HM.out]; exact hlt
      obtain ⟨g, o, e2, hE⟩ := RS.ever HRow.out (by omega)
      subst e2
      have c0 := hE k hkq w (Below.refl _ _)
      have hsn := memB_snoc hkq s
      have hin := List.getElem_mem hkq
      obtain ⟨X, hX⟩ : ∃ X, xs[k] = X := ⟨_, rfl⟩
      rw [hX] at c0 hsn hin
      rw [HT.out] at hsn
      have HS := Hd.mk (And.intro hsn hin)
      clear hkq hE hsn hin hX
      have g0 := str_beq X s
      by_cases hXs : X = s
      · rw [decide_eq_true hXs] at g0
        have HE : Hd (true = R) := ⟨by rw [← HR.out, memB_iff.2 (hXs ▸ HS.out.2)]⟩
        clear hXs
        go_wp2
        go_ret
        exact ⟨ret_b HE.out, rfl⟩
      · rw [decide_eq_false hXs] at g0
        have HT2 : Hd (memB (xs.take (k + 1)) s = false) := ⟨by rw [HS.out.1, decide_eq_false hXs]; rfl⟩
        clear hXs
        go_wp2
        exact ⟨⟨k + 1, hlt, by go_num, HT2, trivial⟩, hmk⟩
    · have hd1 : decide ((k : Int) < (M : Int)) = false := decide_eq_false (by omega)
      have HE : Hd (false = R) := ⟨by
        have := HT.out
        rw [List.take_of_length_le (by rw [HM.out]; omega)] at this
        rw [← HR.out, this]⟩
      go_wp2
      go_ret
      exact ⟨ret_b HE.out, rfl⟩

/-! ### all -/
structure IsAll (l : List Vdf) (s : ByteArray) (xs : List ByteArray) : Prop where
  nod : xs.Nodup
  hd : ∃ r, xs = s :: r
  mem : ∀ x, x ∈ xs ↔ Srv l s x
structure AllP (l : List Vdf) (s : ByteArray) (xs : List ByteArray) (i : Nat) : Prop where
  nod : xs.Nodup
  hd : ∃ r, xs = s :: r
  srv : ∀ x, x ∈ xs → Srv l s x
  don : ∀ j (hj : j < xs.length), j < i → ∀ p, p ∈ par l xs[j] → p ∈ xs
structure AllQ (l : List Vdf) (s : ByteArray) (xs : List ByteArray) (i : Nat) (x : ByteArray) (k : Nat) : Prop where
  p : AllP l s xs i
  at_ : xs[i]? = some x
  ks : ∀ y, y ∈ (par l x).take k → y ∈ xs
section
variable {l : List Vdf} {s x : ByteArray} {xs : List ByteArray} {i k : Nat}
theorem AllP.start (l : List Vdf) (s : ByteArray) : AllP l s [s] 0 := ⟨by simp, ⟨[], rfl⟩, fun x hx => by rw [List.mem_singleton] at hx; subst hx; exact .refl _, fun j _ h => absurd h (Nat.not_lt_zero _)⟩
theorem AllP.q (h : AllP l s xs i) (hi : i < xs.length) : AllQ l s xs i xs[i] 0 := ⟨h, List.getElem?_eq_getElem hi, fun y hy => by simp at hy⟩
theorem AllP.skip (h : AllP l s xs i) (hi : i < xs.length) (hp : par l xs[i] = []) : AllP l s xs (i + 1) :=
  ⟨h.nod, h.hd, h.srv, fun j hj hji p hpp => by
    rcases Nat.lt_or_ge j i with h1 | h1
    · exact h.don j hj h1 p hpp
    · have : j = i := by omega
      subst this
      rw [hp] at hpp; cases hpp⟩
theorem AllQ.old (h : AllQ l s xs i x k) (hk : k < (par l x).length) (hm : (par l x)[k] ∈ xs) : AllQ l s xs i x (k + 1) :=
  ⟨h.p, h.at_, fun y hy => by
    rw [List.take_add_one, List.getElem?_eq_getElem hk] at hy
    rcases List.mem_append.1 hy with hy | hy
    · exact h.ks y hy
    · rw [show (some (par l x)[k]).toList = [(par l x)[k]] from rfl, List.mem_singleton] at hy
      subst hy; exact hm⟩
theorem AllQ.new (h : AllQ l s xs i x k) (hk : k < (par l x).length) (hm : (par l x)[k] ∉ xs) : AllQ l s (xs ++ [(par l x)[k]]) i x (k + 1) := by
  have hi : i < xs.length := (List.getElem?_eq_some_iff.1 h.at_).1
  refine ⟨⟨?_, ?_, ?_, ?_⟩, by rw [List.getElem?_append_left hi]; exact h.at_, fun y hy => ?_⟩
  · refine List.nodup_append.2 ⟨h.p.nod, by simp, fun a ha b hb e => ?_⟩
    rw [List.mem_singleton] at hb
    subst hb; subst e
    exact hm ha
  · obtain ⟨r, e⟩ := h.p.hd
    exact ⟨r ++ [(par l x)[k]], by rw [e]; rfl⟩
  · intro y hy
    rcases List.mem_append.1 hy with hy | hy
    · exact h.p.srv y hy
    · rw [List.mem_singleton] at hy
      subst hy
      exact (h.p.srv x (List.mem_of_getElem? h.at_)).tail (List.getElem_mem hk)
  · intro j hj hji p hp
    have hjx : j < xs.length := by omega
    rw [List.getElem_append_left hjx] at hp
    exact List.mem_append_left _ (h.p.don j hjx hji p hp)
  · rw [List.take_add_one, List.getElem?_eq_getElem hk] at hy
    rcases List.mem_append.1 hy with hy | hy
    · exact List.mem_append_left _ (h.ks y hy)
    · exact List.mem_append_right _ hy
theorem AllQ.done (h : AllQ l s xs i x k) (hk : (par l x).length ≤ k) : AllP l s xs (i + 1) :=
  ⟨h.p.nod, h.p.hd, h.p.srv, fun j hj hji p hpp => by
    rcases Nat.lt_or_ge j i with h1 | h1
    · exact h.p.don j hj h1 p hpp
    · have e : j = i := by omega
      subst e
      have := h.at_
      rw [List.getElem?_eq_getElem hj] at this
      injection this with this
      rw [this] at hpp
      have h2 := h.ks p
      rw [List.take_of_length_le hk] at h2
      exact h2 hpp⟩
theorem AllP.fin (h : AllP l s xs i) (hi : xs.length ≤ i) : IsAll l s xs := by
  refine ⟨h.nod, h.hd, fun x => ⟨h.srv x, fun hs => ?_⟩⟩
  have hin : s ∈ xs := by obtain ⟨r, e⟩ := h.hd; rw [e]; exact List.mem_cons_self
  exact srv_in (S := xs) (fun a p ha hp => by
    obtain ⟨j, hj, rfl⟩ := List.getElem_of_mem ha
    exact h.don j hj (by omega) p hp) hs hin
theorem srv_uni {a b : ByteArray} (h : Srv l a b) : b ∈ uni l a :=
  srv_in (S := uni l a) (fun s p _ hp => by
    obtain ⟨_, d, hd, _, hpd⟩ := par_mem hp
    exact List.mem_cons_of_mem _ (List.mem_flatMap.2 ⟨d, hd, hpd⟩)) h List.mem_cons_self
theorem AllP.len (h : AllP l s xs i) (hO : VOk l) : xs.length ≤ 73 :=
  Nat.le_trans (len_sub xs (uni l s) h.nod (fun x hx => srv_uni (h.srv x hx))) (hO.uni_len s)
theorem IsAll.len (h : IsAll l s xs) (hO : VOk l) : xs.length ≤ 73 :=
  Nat.le_trans (len_sub xs (uni l s) h.nod (fun x hx => srv_uni ((h.mem x).1 hx))) (hO.uni_len s)
theorem par_fd {i : Nat} (h : firstI l s = some i) {d : Vdf} (hd : l[i]? = some d) : par l s = d.parents := by
  unfold par; rw [h]; show (l[i]?.map (·.parents)).getD [] = _; rw [hd]; rfl
theorem par_no (h : firstI l s = none) : par l s = [] := by unfold par; rw [h]
end

set_option maxHeartbeats 4000000 in
set_option maxRecDepth 100000 in
theorem rall_any (w : World) (v : Value) (l : List Vdf) (s : ByteArray) (h : Rw 2 Vdf.E w v l) (hOk : VOk l) :
    Calls Try.prog 27 #[v, .string s] w fun e w' => ∃ (v' : Value) (n : Nat) (xs : List ByteArray), e = .returned v' ∧ w'.ownsRow w.heap.size 9 1 v' n (strs xs) ∧ n ≤ 73 ∧ IsAll l s xs ∧ Below w.heap.size w w' := by
  obtain ⟨p, q, hv⟩ := h.slice
  obtain ⟨M, hM⟩ : ∃ M, l.length = M := ⟨_, rfl⟩
  rw [hM] at hv
  subst hv
  have HRow := Hd.mk h
  have HM := Hd.mk hM
  have HO := Hd.mk hOk
  have HFd := Hd.mk (fun (w' : World) (x : ByteArray) (hb : Below w.heap.size w w') => rfind_any w' (.slice p M q) l x (h.below Vdf.stays hb) (by have := hOk.len; omega))
  have hM12 : M ≤ 12 := by have := hOk.len; omega
  have HA0 : Hd ((w.alloc (.cells #[.string s] 9)).ownsRow w.heap.size 9 1 (.slice (some ⟨w.heap.size, 0, none⟩) 1 1) 1 (strs [s])) := ⟨World.ownsRow_lit w #[.string s] 1 (Nat.le_refl _) (by unfold maxLen; omega) rfl⟩
  have HB0 := Hd.mk (below_alloc w (.cells #[.string s] 9))
  clear h hM hOk
  go_enter Try.func27, Try.ntmps27
  go_wp2
  go_loopw [6, 5] (fun iv av wr => ∃ (i n : Nat) (xs : List ByteArray), i ≤ n ∧ n ≤ 73 ∧ iv = .int .i64 (i : Int) ∧ Hd (wr.ownsRow w.heap.size 9 1 av n (strs xs)) ∧ Hd (AllP l s xs i) ∧ Hd (Below w.heap.size w wr)) (fun iv _ _ => 74 - (intOf iv).toNat)
  case atStart => exact ⟨0, 1, [s], Nat.zero_le _, by omega, rfl, HA0, ⟨AllP.start l s⟩, HB0⟩
  case round =>
    clear HA0 HB0
    obtain ⟨i, n, xs, hi, hn, rfl, HA, HP, HB⟩ := hrel
    have hlen : xs.length = n := by have := HA.out.1; rw [strs_len] at this; omega
    have hrw := rw_strs HA.out
    obtain ⟨px, cx, ex⟩ := hrw.slice
    rw [hlen] at ex
    subst ex
    have HRx := Hd.mk hrw
    have HLn := Hd.mk hlen
    clear hlen hrw
    by_cases hlt : i < n
    · have hd1 : decide ((i : Int) < (n : Int)) = true := decide_eq_true (by omega)
      have hmi : 74 - (intOf (.int .i64 ((i : Int) + 1))).toNat < 74 - (intOf (.int .i64 (i : Int))).toNat := by simp [intOf]; omega
      have hix : i < xs.length := by rw [HLn.out]; exact hlt
      obtain ⟨g, o, e2, hE⟩ := RS.ever HRx.out (by omega)
      subst e2
      have c0 := hE i hix wr (Below.refl _ _)
      have hq := HP.out.q hix
      have hsk := HP.out.skip hix
      obtain ⟨X, hX⟩ : ∃ X, xs[i] = X := ⟨_, rfl⟩
      rw [hX] at c0 hq hsk
      have HQ := Hd.mk hq
      have HSk := Hd.mk hsk
      have HF := HFd.out wr X HB.out
      obtain ⟨F, hF⟩ : ∃ F, firstI l X = F := ⟨_, rfl⟩
      have HFi := Hd.mk hF
      clear hix hE hq hsk hX
      cases F with
      | none =>
        rw [fdI_none hF] at HF
        have HF := Hd.mk HF
        have HP2 := Hd.mk (HSk.out (par_no hF))
        clear hF
        go_wp2_with fail
        refine HF.out.mono ?_
        rintro e w5 ⟨rfl, rfl⟩
        clear HF c0
        go_wp2
        exact ⟨⟨i + 1, n, xs, hlt, hn, by go_num, HA, HP2, HB⟩, hmi⟩
      | some at_ =>
        rw [fdI_some hF] at HF
        have HF := Hd.mk HF
        obtain ⟨hat, hnm⟩ := firstI_some hF
        obtain ⟨gl, of, cs, hpe, hg, hcl, ⟨pv, rfl, hAt⟩, hcc⟩ := HRow.out.at rfl (j := at_) hat
        subst hpe
        have hap := hAt.parents
        have hpar := par_fd hF (List.getElem?_eq_getElem hat)
        have hpb := (HO.out.par _ (List.getElem_mem hat)).1
        have hatM : at_ < M := by rw [← HM.out]; exact hat
        obtain ⟨P, hP⟩ : ∃ P, l[at_].parents = P := ⟨_, rfl⟩
        rw [hP] at hap hpar hpb
        obtain ⟨pp, pc, hpv⟩ := hap.slice
        obtain ⟨PN, hPN⟩ : ∃ PN, P.length = PN := ⟨_, rfl⟩
        rw [hPN] at hpv hpb
        subst hpv
        have HCl : Hd (∀ w', Below w.heap.size w w' → w'.cell? ⟨gl, of + at_ * 2 + 1, none⟩ = some (.slice pp PN pc)) := ⟨fun w' hb => by rw [hb.cell (p := ⟨gl, of + at_ * 2 + 1, none⟩) hg]; exact hcc 1 _ rfl⟩
        have HPar := Hd.mk hpar
        have HAp := Hd.mk hap
        have HPN := Hd.mk hPN
        have gneg : decide ((at_ : Int) < 0) = false := decide_eq_false (by omega)
        clear hF hat hnm hg hcl hcc hAt hap hpar hP hPN
        go_wp2_with fail
        refine HF.out.mono ?_
        rintro e w5 ⟨rfl, rfl⟩
        clear HF c0 HSk
        go_wp2
        go_loopw [8, 5] (fun kv av wr => ∃ (k n : Nat) (xs : List ByteArray), k ≤ PN ∧ i < n ∧ n ≤ 73 ∧ kv = .int .i64 (k : Int) ∧ Hd (wr.ownsRow w.heap.size 9 1 av n (strs xs)) ∧ Hd (AllQ l s xs i X k) ∧ Hd (Below w.heap.size w wr)) (fun kv _ _ => PN - (intOf kv).toNat)
        case atStart => exact ⟨0, n, xs, Nat.zero_le _, hlt, hn, rfl, HA, HQ, HB⟩
        case round =>
          clear HA HQ HB HP HRx HLn hd1 hi hlt hn
          obtain ⟨k, n, xs, hk, hin, hn, rfl, HA, HQ, HB⟩ := hrel
          have hlen : xs.length = n := by have := HA.out.1; rw [strs_len] at this; omega
          have c1 := HCl.out wr HB.out
          by_cases hkt : k < PN
          · have hd2 : decide ((k : Int) < (PN : Int)) = true := decide_eq_true (by omega)
            have hmk : PN - (intOf (.int .i64 ((k : Int) + 1))).toNat < PN - (intOf (.int .i64 (k : Int))).toNat := by simp [intOf]; omega
            have hkq : k < P.length := by rw [HPN.out]; exact hkt
            have hkp : k < (par l X).length := by rw [HPar.out]; exact hkq
            obtain ⟨gp, op, e3, hEp⟩ := RS.ever HAp.out (by omega)
            subst e3
            have c2 := hEp k hkq wr HB.out
            have hold := HQ.out.old hkp
            have hnew := HQ.out.new hkp
            have hpk : (par l X)[k] = P[k] := by simp only [HPar.out]
            rw [hpk] at hold hnew
            obtain ⟨Y, hY⟩ : ∃ Y, P[k] = Y := ⟨_, rfl⟩
            rw [hY] at c2 hold hnew
            have hhs := rhas_any wr u5 xs Y (rw_strs HA.out) (by omega)
            obtain ⟨b, hb⟩ : ∃ b, memB xs Y = b := ⟨_, rfl⟩
            rw [hb] at hhs
            have HHs := Hd.mk hhs
            have HLn := Hd.mk hlen
            clear hkq hkp hEp hpk hY hhs hlen
            cases b with
            | true =>
              have HQ2 := Hd.mk (hold (memB_iff.1 hb))
              clear hold hnew hb
              go_wp2_with fail
              refine HHs.out.mono ?_
              rintro e w6 ⟨rfl, rfl⟩
              clear HHs
              go_wp2
              exact ⟨⟨k + 1, n, xs, hkt, hin, hn, by go_num, HA, HQ2, HB⟩, hmk⟩
            | false =>
              have hq2 := hnew (memB_no.1 hb)
              have hn2 := hq2.p.len HO.out
              rw [List.length_append, HLn.out] at hn2
              have HN2 : Hd (n + 1 ≤ 73) := ⟨hn2⟩
              have HQ2 := Hd.mk hq2
              obtain ⟨v', w', hrun, hown, hbel, _⟩ := str_push Y HA.out (by omega) HB.out.size
              have HRun := Hd.mk hrun
              have HA2 := Hd.mk hown
              have HB2 := Hd.mk (HB.out.trans hbel)
              clear hold hnew hb hq2 hn2 hrun hown hbel HA HB HQ
              go_wp2_with fail
              refine HHs.out.mono ?_
              rintro e w6 ⟨rfl, rfl⟩
              clear HHs
              go_wp2_with (at_builtin; refine wp_append_run (vs := u5) (vx := .slice (some ⟨w6.heap.size, 0, none⟩) 1 1) (W := w6.alloc (.cells #[.string Y] 9)) rfl (Operand.tmp 46) (Operand.tmp 55) 27 rfl rfl rfl HRun.out ?_)
              go_wp2_with fail
              exact ⟨⟨k + 1, n + 1, _, hkt, by omega, HN2.out, by go_num, HA2, HQ2, HB2⟩, hmk⟩
          · have hd2 : decide ((k : Int) < (PN : Int)) = false := decide_eq_false (by omega)
            have HP2 := Hd.mk (HQ.out.done (by rw [HPar.out, HPN.out]; omega))
            clear HQ hlen
            go_wp2
            exact ⟨⟨i + 1, n, xs, hin, hn, by go_num, HA, HP2, HB⟩, hmi⟩
    · have hd1 : decide ((i : Int) < (n : Int)) = false := decide_eq_false (by omega)
      have HIs := Hd.mk (HP.out.fin (by rw [HLn.out]; omega))
      go_wp2
      go_ret
      exact ⟨_, n, xs, rfl, HA.out, hn, HIs.out, HB.out⟩

theorem IsAll.has {l : List Vdf} {s : ByteArray} {xs : List ByteArray} (h : IsAll l s xs) (t : ByteArray) : memB xs t = srvB l s t := by
  rw [Bool.eq_iff_iff, memB_iff, srvB_iff]; exact h.mem t
set_option maxHeartbeats 4000000 in
set_option maxRecDepth 100000 in
theorem rserves_any (w : World) (v : Value) (l : List Vdf) (a b : ByteArray) (h : Rw 2 Vdf.E w v l) (hOk : VOk l) :
    Calls Try.prog 14 #[v, .string a, .string b] w fun e w' => e = .returned (.bool (srvB l a b)) ∧ Below w.heap.size w w' := by
  have HAl := Hd.mk (rall_any w v l a h hOk)
  obtain ⟨R, hR⟩ : ∃ R, srvB l a b = R := ⟨_, rfl⟩
  have HR := Hd.mk hR
  rw [hR]
  clear h hOk hR
  go_enter Try.func14, Try.ntmps14
  go_wp2_with fail
  refine HAl.out.mono ?_
  rintro e w1 ⟨v', n, xs, rfl, ho, hn, hia, b1⟩
  have hlen : xs.length = n := by have := ho.1; rw [strs_len] at this; omega
  have hh := rhas_any w1 v' xs b (rw_strs ho) (by omega)
  rw [hia.has b, HR.out] at hh
  have HH := Hd.mk hh
  have HB := Hd.mk b1
  clear ho hn hia b1 hlen hh HAl
  go_wp2_with fail
  refine HH.out.mono ?_
  rintro e w2 ⟨rfl, rfl⟩
  clear HH
  go_wp2
  go_ret
  exact ⟨rfl, HB.out⟩

end Go.Proofs.Ytmgkoocpnakanaa.W

/-
  The reference of version: Right.
-/
namespace Go.Proofs.Ytmgkoocpnakanaa.W
open Go.RowKit
set_option linter.unusedVariables false

/-- slices of a declaration are not longer than their room -/
def CapV (cs : List Value) : Prop := ∀ p n c, cs[1]? = some (.slice p n c) → n ≤ c
def Vdf.EC (w : World) (cs : List Value) (x : Vdf) : Prop := Vdf.E w cs x ∧ CapV cs
theorem Vdf.EC_stays : Stays Vdf.EC := fun w w' cs x hb h => ⟨Vdf.stays w w' cs x hb h.1, h.2⟩
theorem rw_EC {w : World} {v : Value} {l : List Vdf} (h : Rw 2 Vdf.EC w v l) : Rw 2 Vdf.E w v l := by
  refine ⟨h.is.imp_right ?_⟩
  rintro ⟨g, o, cap, e, hg, hc⟩
  refine ⟨g, o, cap, e, hg, fun j x hx => ?_⟩
  obtain ⟨cs, h1, h2, h3⟩ := hc j x hx
  exact ⟨cs, h1, h2.1, h3⟩

/-! ### what the reference's Right says -/
structure RtAt (l : List Vdf) (d : Vdf) (k : Nat) : Prop where
  ps : ∀ j (hj : j < d.parents.length), j < k → firstI l d.parents[j] ≠ none ∧ d.parents[j] ∉ d.parents.take j ∧ ¬ Srv l d.parents[j] d.name
structure RtTo (l : List Vdf) (i : Nat) : Prop where
  ds : ∀ j (hj : j < l.length), j < i → nmB l[j].name = true ∧ firstI l l[j].name = some j ∧ RtAt l l[j] l[j].parents.length
theorem RtTo.zero (l : List Vdf) : RtTo l 0 := ⟨fun j _ h => absurd h (Nat.not_lt_zero _)⟩
theorem RtAt.zero (l : List Vdf) (d : Vdf) : RtAt l d 0 := ⟨fun j _ h => absurd h (Nat.not_lt_zero _)⟩
theorem RtAt.succ {l : List Vdf} {d : Vdf} {k : Nat} (h : RtAt l d k) (hk : k < d.parents.length) (h1 : firstI l d.parents[k] ≠ none) (h2 : d.parents[k] ∉ d.parents.take k) (h3 : ¬ Srv l d.parents[k] d.name) : RtAt l d (k + 1) :=
  ⟨fun j hj hjk => by
    rcases Nat.lt_or_ge j k with h' | h'
    · exact h.ps j hj h'
    · have : j = k := by omega
      subst this
      exact ⟨h1, h2, h3⟩⟩
theorem RtTo.succ {l : List Vdf} {i : Nat} (h : RtTo l i) (hi : i < l.length) (h1 : nmB l[i].name = true) (h2 : firstI l l[i].name = some i) {k : Nat} (h3 : RtAt l l[i] k) (hk : l[i].parents.length ≤ k) : RtTo l (i + 1) :=
  ⟨fun j hj hji => by
    rcases Nat.lt_or_ge j i with h' | h'
    · exact h.ds j hj h'
    · have : j = i := by omega
      subst this
      exact ⟨h1, h2, ⟨fun q hq hqk => h3.ps q hq (by omega)⟩⟩⟩
theorem RtTo.all {l : List Vdf} {i : Nat} (h : RtTo l i) (hi : l.length ≤ i) (hl : l.length ≤ 12) : VRight l := by
  refine (vright_iff hl).2 ⟨?_, ?_, ?_⟩
  · refine List.pairwise_iff_getElem.2 fun a b ha hb hab e => ?_
    have ha' : a < l.length := by simpa [names] using ha
    have hb' : b < l.length := by simpa [names] using hb
    have h1 := (h.ds a ha' (by omega)).2.1
    have h2 := (h.ds b hb' (by omega)).2.1
    have e' : l[a].name = l[b].name := by simpa [names] using e
    rw [e', h2] at h1
    injection h1 with h1
    omega
  · intro d hd
    obtain ⟨j, hj, rfl⟩ := List.getElem_of_mem hd
    obtain ⟨h1, _, h3⟩ := h.ds j hj (by omega)
    refine ⟨h1, List.pairwise_iff_getElem.2 fun a b ha hb hab e => ?_, fun p hp => ?_⟩
    · exact (h3.ps b hb hb).2.1 (by rw [← e]; exact List.mem_take_iff_getElem.2 ⟨a, by omega, rfl⟩)
    · obtain ⟨k, hk, rfl⟩ := List.getElem_of_mem hp
      exact (h3.ps k hk hk).1
  · intro s p hp hs
    obtain ⟨_, _⟩ := par_mem hp
    unfold par at hp
    rcases hf : firstI l s with _ | i'
    · rw [hf] at hp; cases hp
    · rw [hf] at hp
      obtain ⟨hi', e⟩ := firstI_some hf
      have hp' : p ∈ (l[i']?.map (·.parents)).getD [] := hp
      rw [List.getElem?_eq_getElem hi'] at hp'
      have hp2 : p ∈ l[i'].parents := hp'
      obtain ⟨k, hk, rfl⟩ := List.getElem_of_mem hp2
      have := ((h.ds i' hi' (by omega)).2.2.ps k hk hk).2.2
      rw [e] at this
      exact this hs
theorem VRight.rt {l : List Vdf} (hl : l.length ≤ 12) (h : VRight l) {i : Nat} (hi : i < l.length) : nmB l[i].name = true ∧ firstI l l[i].name = some i ∧ RtAt l l[i] l[i].parents.length := by
  refine ⟨(h.ok _ (List.getElem_mem hi)).name, first_at h.nod hi, ⟨fun j hj _ => ⟨(h.ok _ (List.getElem_mem hi)).par _ (List.getElem_mem hj), nodup_at (h.ok _ (List.getElem_mem hi)).nod hj, fun hs => ?_⟩⟩⟩
  exact h.noLoop hl _ _ (by rw [par_of h.nod (List.getElem_mem hi)]; exact List.getElem_mem hj) hs

set_option maxHeartbeats 4000000 in
set_option maxRecDepth 100000 in
theorem rright_any (w : World) (v : Value) (l : List Vdf) (h : Rw 2 Vdf.EC w v l) (hOk : VOk l) :
    Calls Try.prog 12 #[v] w fun e w' => e = .returned (.bool (rightV l)) ∧ Below w.heap.size w w' := by
  have hE := rw_EC h
  obtain ⟨p, q, hv⟩ := h.slice
  obtain ⟨M, hM⟩ : ∃ M, l.length = M := ⟨_, rfl⟩
  rw [hM] at hv
  subst hv
  have HRow := Hd.mk h
  have HM := Hd.mk hM
  have HO := Hd.mk hOk
  have HFd : Hd (∀ (w' : World) (x : ByteArray), Below w.heap.size w w' → Calls Try.prog 25 #[.slice p M q, .string x] w' fun e w'' => e = .returned (.int .i64 (fdI l x)) ∧ w'' = w') := ⟨fun w' x hb => rfind_any w' (.slice p M q) l x (hE.below Vdf.stays hb) (by have := hOk.len; omega)⟩
  have HAl : Hd (∀ (w' : World) (x : ByteArray), Below w.heap.size w w' → Calls Try.prog 27 #[.slice p M q, .string x] w' fun e w'' => ∃ (v' : Value) (n : Nat) (xs : List ByteArray), e = .returned v' ∧ w''.ownsRow w'.heap.size 9 1 v' n (strs xs) ∧ n ≤ 73 ∧ IsAll l x xs ∧ Below w'.heap.size w' w'') := ⟨fun w' x hb => rall_any w' (.slice p M q) l x (hE.below Vdf.stays hb) hOk⟩
  have hM12 : M ≤ 12 := by have := hOk.len; omega
  have HNo : Hd (∀ (P : Prop), (VRight l → P) → ¬ P → rightV l = false) := ⟨fun P h1 h2 => rightV_no (fun h => h2 (h1 h))⟩
  obtain ⟨R, hR⟩ : ∃ R, rightV l = R := ⟨_, rfl⟩
  have HR := Hd.mk hR
  rw [hR]
  rw [hR] at HNo
  have g0 : decide ((4096 : Int) < (M : Int)) = false := decide_eq_false (by omega)
  clear h hM hE hOk hR
  go_enter Try.func12, Try.ntmps12
  go_wp2
  go_loopw [3] (fun iv wr => ∃ i : Nat, i ≤ M ∧ iv = .int .i64 (i : Int) ∧ Hd (RtTo l i) ∧ Hd (Below w.heap.size w wr)) (fun iv _ => M - (intOf iv).toNat)
  case atStart => exact ⟨0, Nat.zero_le _, rfl, ⟨RtTo.zero l⟩, ⟨Below.refl _ _⟩⟩
  case round =>
    clear g0
    obtain ⟨i, hi, rfl, HT, HB⟩ := hrel
    by_cases hlt : i < M
    · have hd1 : decide ((i : Int) < (M : Int)) = true := decide_eq_true (by omega)
      have hmi : M - (intOf (.int .i64 ((i : Int) + 1))).toNat < M - (intOf (.int .i64 (i : Int))).toNat := by simp [intOf]; omega
      have hiq : i < l.length := by rw [HM.out]; exact hlt
      obtain ⟨gl, of, cs, hpe, hg, hcl, ⟨⟨pv, rfl, hAt⟩, hcap⟩, hcc⟩ := HRow.out.at rfl (j := i) hiq
      subst hpe
      have hnm := HO.out.name _ (List.getElem_mem hiq)
      have hpb := (HO.out.par _ (List.getElem_mem hiq)).1
      have hrt := fun h : VRight l => h.rt HO.out.len hiq
      have hsu := HT.out.succ hiq
      obtain ⟨d, hd⟩ : ∃ d, l[i] = d := ⟨_, rfl⟩
      have hap := hAt.parents
      rw [hd] at hap hnm hpb hrt hsu hcc hcap
      obtain ⟨pp, pc, hpv⟩ := hap.slice
      obtain ⟨PN, hPN⟩ : ∃ PN, d.parents.length = PN := ⟨_, rfl⟩
      rw [hPN] at hpv hpb
      subst hpv
      have hcp : PN ≤ pc := hcap pp PN pc rfl
      obtain ⟨X, hX⟩ : ∃ X, d.name = X := ⟨_, rfl⟩
      have HCl : Hd (∀ w', Below w.heap.size w w' → w'.cell? ⟨gl, of + i * 2, none⟩ = some (.string X) ∧ w'.cell? ⟨gl, of + i * 2 + 1, none⟩ = some (.slice pp PN pc)) := ⟨fun w' hb => ⟨by rw [hb.cell (p := ⟨gl, of + i * 2, none⟩) hg, ← hX]; exact hcc 0 _ rfl, by rw [hb.cell (p := ⟨gl, of + i * 2 + 1, none⟩) hg]; exact hcc 1 _ rfl⟩⟩
      rw [hX] at hnm hrt hsu
      have HNm := rname_any wr X (by omega)
      obtain ⟨nb, hnb⟩ : ∃ nb, nmB X = nb := ⟨_, rfl⟩
      rw [hnb] at HNm hrt hsu
      have HNm := Hd.mk HNm
      have HRt := Hd.mk hrt
      have HSu := Hd.mk hsu
      have HAp := Hd.mk hap
      have HPN := Hd.mk hPN
      have HX := Hd.mk hX
      obtain ⟨c0, c1⟩ := HCl.out wr HB.out
      clear hiq hg hcl hcc hAt hcap hnm hrt hsu hd hap hPN hX hnb
      cases nb with
      | false =>
        have HE : Hd (false = R) := ⟨(HNo.out _ HRt.out (fun h => by cases h.1)).symm⟩
        go_wp2_with fail
        refine HNm.out.mono ?_
        rintro e w5 ⟨rfl, rfl⟩
        clear HNm
        go_wp2
        go_ret
        exact ⟨ret_b HE.out, HB.out⟩
      | true =>
        have HF := HFd.out wr X HB.out
        obtain ⟨F, hF⟩ : ∃ F, fdI l X = F := ⟨_, rfl⟩
        rw [hF] at HF
        have HF := Hd.mk HF
        have HFv : Hd (firstI l X = some i ↔ F = (i : Int)) := ⟨by
          rw [← hF]
          constructor
          · exact fun h => fdI_some h
          · intro h
            rcases h2 : firstI l X with _ | j
            · rw [fdI_none h2] at h; omega
            · rw [fdI_some h2] at h
              have : j = i := by omega
              rw [this]⟩
        clear hF
        by_cases hFi : F = (i : Int)
        · subst hFi
          have HFs := Hd.mk (HFv.out.2 rfl)
          have gne : ((i : Int) != (i : Int)) = false := by simp
          have HA0 := Hd.mk (RtAt.zero l d)
          go_wp2_with fail
          refine HNm.out.mono ?_
          rintro e w5 ⟨rfl, rfl⟩
          clear HNm
          go_wp2_with fail
          refine HF.out.mono ?_
          rintro e w6 ⟨rfl, rfl⟩
          clear HF HFv
          go_wp2
          clear c0 c1 gne
          go_loopw [4] (fun kv wr => ∃ k : Nat, k ≤ PN ∧ kv = .int .i64 (k : Int) ∧ Hd (RtAt l d k) ∧ Hd (Below w.heap.size w wr)) (fun kv _ => PN - (intOf kv).toNat)
          case atStart => exact ⟨0, Nat.zero_le _, rfl, HA0, HB⟩
          case round =>
            clear HA0 HB
            obtain ⟨k, hk, rfl, HA, HB⟩ := hrel
            obtain ⟨c0, c1⟩ := HCl.out wr HB.out
            by_cases hkt : k < PN
            · have hd2 : decide ((k : Int) < (PN : Int)) = true := decide_eq_true (by omega)
              have hmk : PN - (intOf (.int .i64 ((k : Int) + 1))).toNat < PN - (intOf (.int .i64 (k : Int))).toNat := by simp [intOf]; omega
              have hkq : k < d.parents.length := by rw [HPN.out]; exact hkt
              obtain ⟨gp, op, e3, hEp⟩ := RS.ever HAp.out (by omega)
              subst e3
              have c2 := hEp k hkq wr HB.out
              have hps := fun h : VRight l => (HRt.out h).2.2.ps k hkq hkq
              have hsu := HA.out.succ hkq
              obtain ⟨Y, hY⟩ : ∃ Y, d.parents[k] = Y := ⟨_, rfl⟩
              rw [hY, HX.out] at hps hsu
              rw [hY] at c2
              have HPs := Hd.mk hps
              have HS2 := Hd.mk hsu
              have HK2 : Hd (Below w.heap.size w wr.drew) := ⟨HB.out.trans ((Bel wr 1).mono HB.out.size)⟩
              have htk : Hd (∀ w', Below w.heap.size w w' → Rw 1 strE w' (.slice (some ⟨gp, op, none⟩) k pc) (d.parents.take k)) := ⟨fun w' hb => (HAp.out.below strE_stays hb).take rfl (by omega)⟩
              have HF2 := HFd.out wr.drew Y HK2.out
              have hh2 := rhas_any wr.drew (.slice (some ⟨gp, op, none⟩) k pc) (d.parents.take k) Y (htk.out _ HK2.out) (by rw [List.length_take]; omega)
              obtain ⟨hb, hhb⟩ : ∃ b, memB (d.parents.take k) Y = b := ⟨_, rfl⟩
              rw [hhb] at hh2
              have HH2 := Hd.mk hh2
              have HHb := Hd.mk hhb
              have S0 : Hd (∀ w', Below w.heap.size w w' → w'.cell? ⟨gl, of + i * 2, none⟩ = some (.string X) ∧ w'.cell? ⟨gl, of + i * 2 + 1, none⟩ = some (.slice (some ⟨gp, op, none⟩) PN pc)) := ⟨HCl.out⟩
              have bk : (k : Int) ≤ (pc : Int) := by omega
              have bk2 : k ≤ pc := by omega
              obtain ⟨F2, hF2⟩ : ∃ F2, firstI l Y = F2 := ⟨_, rfl⟩
              cases F2 with
              | none =>
                rw [fdI_none hF2] at HF2
                have HF2 := Hd.mk HF2
                have HE : Hd (false = R) := ⟨(HNo.out _ HPs.out (fun h => h.1 hF2)).symm⟩
                have HBe := Hd.mk HK2.out
                clear hkq hEp hps hsu hY hh2 hhb hF2 HB HA HS2 HPs HH2 HHb
                go_wp2_with fail
                go_upto_region 12 with (fail)
                refine wp_region_lin default (fun w' => True) [(0, true), (1, true), (2, false), (3, true), (4, true), (5, true), (6, true), (7, true), (8, true), (9, true), (10, true), (11, true), (12, true), (13, false), (14, true), (15, true), (16, true), (17, true), (19, true), (20, true), (21, true), (22, true), (23, true), (18, false), (24, false), (25, true)] (by kernel_rfl) (by kernel_rfl) rfl (by kernel_rfl) (by kernel_rfl) trivial ?_
                simp only [pick, List.getD_cons_zero, List.getD_cons_succ]
                repeat
                  first
                  | (refine lin_free (v := ?_) (by rfl) ?_ ?_
                     rotate_left
                     · intro w' hSw
                       have d0 := hSw
                       go_simp
                       first | done | with_reducible rfl
                     try simp only [Act.put, List.setIfInBounds_toArray, List.set_cons_zero, List.set_cons_succ])
                  | (refine lin_skip (by rfl) ?_
                     try simp only [Act.put, List.setIfInBounds_toArray, List.set_cons_zero, List.set_cons_succ])
                refine lin_bound (fun K hK => ?_)
                go_simp
                refine HF2.out.mono ?_
                rintro e w7 ⟨rfl, rfl⟩
                dsimp only
                refine hK.out _ _ trivial ?_
                clear hK K
                repeat
                  first
                  | (refine lin_free (v := ?_) (by rfl) ?_ ?_
                     rotate_left
                     · intro w' hSw
                       have d0 := hSw
                       go_simp
                       first | done | with_reducible rfl
                     try simp only [Act.put, List.setIfInBounds_toArray, List.set_cons_zero, List.set_cons_succ])
                  | (refine lin_skip (by rfl) ?_
                     try simp only [Act.put, List.setIfInBounds_toArray, List.set_cons_zero, List.set_cons_succ])
                refine lin_bound (fun K hK => ?_)
                go_simp
                refine hK.out _ _ trivial ?_
                clear hK K
                try simp only [Act.put, List.setIfInBounds_toArray, List.set_cons_zero, List.set_cons_succ]
                repeat
                  first
                  | (refine lin_free (v := ?_) (by rfl) ?_ ?_
                     rotate_left
                     · intro w' hSw
                       have d0 := hSw
                       go_simp
                       first | done | with_reducible rfl
                     try simp only [Act.put, List.setIfInBounds_toArray, List.set_cons_zero, List.set_cons_succ])
                  | (refine lin_skip (by rfl) ?_
                     try simp only [Act.put, List.setIfInBounds_toArray, List.set_cons_zero, List.set_cons_succ])
                refine lin_bound (fun K hK => ?_)
                go_simp
                refine hK.out _ _ trivial ?_
                clear hK K
                try simp only [Act.put, List.setIfInBounds_toArray, List.set_cons_zero, List.set_cons_succ]
                repeat
                  first
                  | (refine lin_free (v := ?_) (by rfl) ?_ ?_
                     rotate_left
                     · intro w' hSw
                       have d0 := hSw
                       go_simp
                       first | done | with_reducible rfl
                     try simp only [Act.put, List.setIfInBounds_toArray, List.set_cons_zero, List.set_cons_succ])
                  | (refine lin_skip (by rfl) ?_
                     try simp only [Act.put, List.setIfInBounds_toArray, List.set_cons_zero, List.set_cons_succ])
                refine lin_bound (fun K hK => ?_)
                go_simp
                refine hK.out _ _ trivial ?_
                clear hK K
                try simp only [Act.put, List.setIfInBounds_toArray, List.set_cons_zero, List.set_cons_succ]
                repeat
                  first
                  | (refine lin_free (v := ?_) (by rfl) ?_ ?_
                     rotate_left
                     · intro w' hSw
                       have d0 := hSw
                       go_simp
                       first | done | with_reducible rfl
                     try simp only [Act.put, List.setIfInBounds_toArray, List.set_cons_zero, List.set_cons_succ])
                  | (refine lin_skip (by rfl) ?_
                     try simp only [Act.put, List.setIfInBounds_toArray, List.set_cons_zero, List.set_cons_succ])
                refine NoPanic.normal ?_
                clear c0 c1 c2
                go_wp2
                go_ret
                exact ⟨ret_b HE.out, HBe.out⟩
              | some f2 =>
                rw [fdI_some hF2] at HF2
                have HF2 := Hd.mk HF2
                have HFs2 : Hd (firstI l Y ≠ none) := ⟨by rw [hF2]; exact fun h => by cases h⟩
                have gneg : decide ((f2 : Int) < 0) = false := decide_eq_false (by omega)
                clear hkq hEp hps hsu hY hh2 hhb hF2 HB
                cases hb with
                | true =>
                  have HE : Hd (false = R) := ⟨(HNo.out _ HPs.out (fun h => h.2.1 (memB_iff.1 HHb.out))).symm⟩
                  have HBe := Hd.mk HK2.out
                  clear HA HS2 HPs HHb HFs2
                  go_wp2_with fail
                  go_upto_region 12 with (fail)
                  refine wp_region_lin default (fun w' => w'.cell? ⟨gl, of + i * 2, none⟩ = some (.string X) ∧ w'.cell? ⟨gl, of + i * 2 + 1, none⟩ = some (.slice (some ⟨gp, op, none⟩) PN pc)) [(0, true), (1, true), (2, false), (3, true), (4, true), (5, true), (6, true), (7, true), (8, true), (9, true), (10, true), (11, true), (12, true), (13, false), (14, true), (15, true), (16, true), (17, true), (19, true), (20, true), (21, true), (22, true), (23, true), (18, false), (24, false), (25, true)] (by kernel_rfl) (by kernel_rfl) rfl (by kernel_rfl) (by kernel_rfl) (S0.out _ HK2.out) ?_
                  simp only [pick, List.getD_cons_zero, List.getD_cons_succ]
                  repeat
                    first
                    | (refine lin_free (v := ?_) (by rfl) ?_ ?_
                       rotate_left
                       · intro w' hSw
                         obtain ⟨d0, d1⟩ := hSw
                         go_simp
                         first | done | with_reducible rfl
                       try simp only [Act.put, List.setIfInBounds_toArray, List.set_cons_zero, List.set_cons_succ])
                    | (refine lin_skip (by rfl) ?_
                       try simp only [Act.put, List.setIfInBounds_toArray, List.set_cons_zero, List.set_cons_succ])
                  refine lin_bound (fun K hK => ?_)
                  go_simp
                  refine HF2.out.mono ?_
                  rintro e w7 ⟨rfl, rfl⟩
                  dsimp only
                  refine hK.out _ _ (S0.out _ HK2.out) ?_
                  clear hK K
                  repeat
                    first
                    | (refine lin_free (v := ?_) (by rfl) ?_ ?_
                       rotate_left
                       · intro w' hSw
                         obtain ⟨d0, d1⟩ := hSw
                         go_simp
                         first | done | with_reducible rfl
                       try simp only [Act.put, List.setIfInBounds_toArray, List.set_cons_zero, List.set_cons_succ])
                    | (refine lin_skip (by rfl) ?_
                       try simp only [Act.put, List.setIfInBounds_toArray, List.set_cons_zero, List.set_cons_succ])
                  refine lin_bound (fun K hK => ?_)
                  go_simp
                  refine HH2.out.mono ?_
                  rintro e w7 ⟨rfl, rfl⟩
                  dsimp only
                  refine hK.out _ _ (S0.out _ HK2.out) ?_
                  clear hK K
                  repeat
                    first
                    | (refine lin_free (v := ?_) (by rfl) ?_ ?_
                       rotate_left
                       · intro w' hSw
                         obtain ⟨d0, d1⟩ := hSw
                         go_simp
                         first | done | with_reducible rfl
                       try simp only [Act.put, List.setIfInBounds_toArray, List.set_cons_zero, List.set_cons_succ])
                    | (refine lin_skip (by rfl) ?_
                       try simp only [Act.put, List.setIfInBounds_toArray, List.set_cons_zero, List.set_cons_succ])
                  refine lin_bound (fun K hK => ?_)
                  go_simp
                  refine hK.out _ _ (S0.out _ HK2.out) ?_
                  clear hK K
                  try simp only [Act.put, List.setIfInBounds_toArray, List.set_cons_zero, List.set_cons_succ]
                  repeat
                    first
                    | (refine lin_free (v := ?_) (by rfl) ?_ ?_
                       rotate_left
                       · intro w' hSw
                         obtain ⟨d0, d1⟩ := hSw
                         go_simp
                         first | done | with_reducible rfl
                       try simp only [Act.put, List.setIfInBounds_toArray, List.set_cons_zero, List.set_cons_succ])
                    | (refine lin_skip (by rfl) ?_
                       try simp only [Act.put, List.setIfInBounds_toArray, List.set_cons_zero, List.set_cons_succ])
                  refine lin_bound (fun K hK => ?_)
                  go_simp
                  refine hK.out _ _ (S0.out _ HK2.out) ?_
                  clear hK K
                  try simp only [Act.put, List.setIfInBounds_toArray, List.set_cons_zero, List.set_cons_succ]
                  repeat
                    first
                    | (refine lin_free (v := ?_) (by rfl) ?_ ?_
                       rotate_left
                       · intro w' hSw
                         obtain ⟨d0, d1⟩ := hSw
                         go_simp
                         first | done | with_reducible rfl
                       try simp only [Act.put, List.setIfInBounds_toArray, List.set_cons_zero, List.set_cons_succ])
                    | (refine lin_skip (by rfl) ?_
                       try simp only [Act.put, List.setIfInBounds_toArray, List.set_cons_zero, List.set_cons_succ])
                  refine NoPanic.normal ?_
                  clear c0 c1 c2
                  go_wp2
                  go_ret
                  exact ⟨ret_b HE.out, HBe.out⟩
                | false =>
                  have HAc := Hd.mk (HAl.out wr.drew Y HK2.out)
                  have hmm := memB_no.1 HHb.out
                  obtain ⟨r, hr⟩ : ∃ r, srvB l Y X = r := ⟨_, rfl⟩
                  have HRr := Hd.mk hr
                  have HMm := Hd.mk hmm
                  clear hmm hr HHb
                  go_wp2_with fail
                  go_upto_region 12 with (fail)
                  refine wp_region_lin default (fun w' => w'.cell? ⟨gl, of + i * 2, none⟩ = some (.string X) ∧ w'.cell? ⟨gl, of + i * 2 + 1, none⟩ = some (.slice (some ⟨gp, op, none⟩) PN pc)) [(0, true), (1, true), (2, false), (3, true), (4, true), (5, true), (6, true), (7, true), (8, true), (9, true), (10, true), (11, true), (12, true), (13, false), (14, true), (15, true), (16, true), (17, true), (19, true), (20, true), (21, true), (22, true), (23, true), (18, false), (24, false), (25, true)] (by kernel_rfl) (by kernel_rfl) rfl (by kernel_rfl) (by kernel_rfl) (S0.out _ HK2.out) ?_
                  simp only [pick, List.getD_cons_zero, List.getD_cons_succ]
                  repeat
                    first
                    | (refine lin_free (v := ?_) (by rfl) ?_ ?_
                       rotate_left
                       · intro w' hSw
                         obtain ⟨d0, d1⟩ := hSw
                         go_simp
                         first | done | with_reducible rfl
                       try simp only [Act.put, List.setIfInBounds_toArray, List.set_cons_zero, List.set_cons_succ])
                    | (refine lin_skip (by rfl) ?_
                       try simp only [Act.put, List.setIfInBounds_toArray, List.set_cons_zero, List.set_cons_succ])
                  refine lin_bound (fun K hK => ?_)
                  go_simp
                  refine HF2.out.mono ?_
                  rintro e w7 ⟨rfl, rfl⟩
                  dsimp only
                  refine hK.out _ _ (S0.out _ HK2.out) ?_
                  clear hK K
                  repeat
                    first
                    | (refine lin_free (v := ?_) (by rfl) ?_ ?_
                       rotate_left
                       · intro w' hSw
                         obtain ⟨d0, d1⟩ := hSw
                         go_simp
                         first | done | with_reducible rfl
                       try simp only [Act.put, List.setIfInBounds_toArray, List.set_cons_zero, List.set_cons_succ])
                    | (refine lin_skip (by rfl) ?_
                       try simp only [Act.put, List.setIfInBounds_toArray, List.set_cons_zero, List.set_cons_succ])
                  refine lin_bound (fun K hK => ?_)
                  go_simp
                  refine HH2.out.mono ?_
                  rintro e w7 ⟨rfl, rfl⟩
                  dsimp only
                  refine hK.out _ _ (S0.out _ HK2.out) ?_
                  clear hK K
                  repeat
                    first
                    | (refine lin_free (v := ?_) (by rfl) ?_ ?_
                       rotate_left
                       · intro w' hSw
                         obtain ⟨d0, d1⟩ := hSw
                         go_simp
                         first | done | with_reducible rfl
                       try simp only [Act.put, List.setIfInBounds_toArray, List.set_cons_zero, List.set_cons_succ])
                    | (refine lin_skip (by rfl) ?_
                       try simp only [Act.put, List.setIfInBounds_toArray, List.set_cons_zero, List.set_cons_succ])
                  refine lin_bound (fun K hK => ?_)
                  go_simp
                  refine HAc.out.mono ?_
                  rintro e w7 ⟨v7, n7, xs7, rfl, ho7, hn7, hi7, b7⟩
                  dsimp only
                  have hlen7 : xs7.length = n7 := by have := ho7.1; rw [strs_len] at this; omega
                  have hh7 := rhas_any w7 v7 xs7 X (rw_strs ho7) (by omega)
                  rw [hi7.has X, HRr.out] at hh7
                  have HH7 := Hd.mk hh7
                  have HK7 : Hd (Below w.heap.size w w7) := ⟨HK2.out.trans (b7.mono HK2.out.size)⟩
                  clear ho7 hn7 hi7 b7 hlen7 hh7 HAc
                  refine hK.out _ _ (S0.out _ HK7.out) ?_
                  clear hK K
                  repeat
                    first
                    | (refine lin_free (v := ?_) (by rfl) ?_ ?_
                       rotate_left
                       · intro w' hSw
                         obtain ⟨d0, d1⟩ := hSw
                         go_simp
                         first | done | with_reducible rfl
                       try simp only [Act.put, List.setIfInBounds_toArray, List.set_cons_zero, List.set_cons_succ])
                    | (refine lin_skip (by rfl) ?_
                       try simp only [Act.put, List.setIfInBounds_toArray, List.set_cons_zero, List.set_cons_succ])
                  refine lin_bound (fun K hK => ?_)
                  go_simp
                  refine HH7.out.mono ?_
                  rintro e w8 ⟨rfl, rfl⟩
                  dsimp only
                  refine hK.out _ _ (S0.out _ HK7.out) ?_
                  clear hK K
                  repeat
                    first
                    | (refine lin_free (v := ?_) (by rfl) ?_ ?_
                       rotate_left
                       · intro w' hSw
                         obtain ⟨d0, d1⟩ := hSw
                         go_simp
                         first | done | with_reducible rfl
                       try simp only [Act.put, List.setIfInBounds_toArray, List.set_cons_zero, List.set_cons_succ])
                    | (refine lin_skip (by rfl) ?_
                       try simp only [Act.put, List.setIfInBounds_toArray, List.set_cons_zero, List.set_cons_succ])
                  refine NoPanic.normal ?_
                  clear c0 c1 c2 HF2 HH2 HH7 htk HK2
                  cases r with
                  | true =>
                    have HE : Hd (false = R) := ⟨(HNo.out _ HPs.out (fun h => h.2.2 (srvB_iff.1 HRr.out))).symm⟩
                    go_wp2
                    go_ret
                    exact ⟨ret_b HE.out, HK7.out⟩
                  | false =>
                    have HA2 := Hd.mk (HS2.out HFs2.out HMm.out (fun h => by have := srvB_iff.2 h; rw [HRr.out] at this; cases this))
                    go_wp2
                    exact ⟨⟨k + 1, hkt, by go_num, HA2, HK7⟩, hmk⟩
            · have hd2 : decide ((k : Int) < (PN : Int)) = false := decide_eq_false (by omega)
              have HT2 := Hd.mk (HSu.out trivial HFs.out HA.out (by rw [HPN.out]; omega))
              clear HA
              go_wp2
              exact ⟨⟨i + 1, hlt, by go_num, HT2, HB⟩, hmi⟩
        · have HE : Hd (false = R) := ⟨(HNo.out _ HRt.out (fun h => hFi (HFv.out.1 h.2.1))).symm⟩
          have gne : (F != (i : Int)) = true := by simp [hFi]
          clear hFi
          go_wp2_with fail
          refine HNm.out.mono ?_
          rintro e w5 ⟨rfl, rfl⟩
          clear HNm
          go_wp2_with fail
          refine HF.out.mono ?_
          rintro e w6 ⟨rfl, rfl⟩
          clear HF HFv
          go_wp2
          go_ret
          exact ⟨ret_b HE.out, HB.out⟩
    · have hd1 : decide ((i : Int) < (M : Int)) = false := decide_eq_false (by omega)
      have HE : Hd (true = R) := ⟨by rw [← HR.out, rightV_iff.2 (HT.out.all (by rw [HM.out]; omega) HO.out.len)]⟩
      go_wp2
      go_ret
      exact ⟨ret_b HE.out, HB.out⟩

end Go.Proofs.Ytmgkoocpnakanaa.W

/-
  The reference of version: Order.
-/
namespace Go.Proofs.Ytmgkoocpnakanaa.W
open Go.RowKit
set_option linter.unusedVariables false

theorem OrdS.at {l : List Vdf} : ∀ (xs out : List ByteArray), OrdS l out xs → ∀ i (hi : i < xs.length), Rdy l (out ++ xs.take i) xs[i] ∧ ∀ y, Rdy l (out ++ xs.take i) y → ltS y xs[i] = false
  | [], _, _, i, hi => absurd hi (Nat.not_lt_zero _)
  | x :: r, out, h, 0, hi => by
    simp only [List.take_zero, List.append_nil, List.getElem_cons_zero]
    exact ⟨h.1, h.2.1⟩
  | x :: r, out, h, i + 1, hi => by
    have := OrdS.at r (out ++ [x]) h.2.2 i (by simpa using hi)
    simp only [List.take_succ_cons, List.getElem_cons_succ]
    simpa [List.append_assoc] using this
theorem OrdS.all {l : List Vdf} : ∀ (xs out : List ByteArray), OrdS l out xs → ∀ s, s ∈ names l → s ∈ out ++ xs
  | [], out, h, s, hs => by rw [List.append_nil]; exact h s hs
  | x :: r, out, h, s, hs => by
    have := OrdS.all r (out ++ [x]) h.2.2 s hs
    simpa [List.append_assoc] using this
section
variable {l : List Vdf} {xs : List ByteArray}
theorem OrdS.rdy (h : OrdS l [] xs) {i : Nat} (hi : i < xs.length) : Rdy l (xs.take i) xs[i] := by
  have := (OrdS.at xs [] h i hi).1
  rwa [List.nil_append] at this
theorem OrdS.least (h : OrdS l [] xs) {i : Nat} (hi : i < xs.length) {y : ByteArray} (hy : Rdy l (xs.take i) y) : ltS y xs[i] = false := by
  have := (OrdS.at xs [] h i hi).2 y
  rw [List.nil_append] at this
  exact this hy
theorem OrdS.nod (h : OrdS l [] xs) : xs.Nodup := by
  refine List.pairwise_iff_getElem.2 fun i j hi hj hij e => ?_
  exact (h.rdy hj).new (by rw [← e]; exact List.mem_take_iff_getElem.2 ⟨i, by omega, rfl⟩)
theorem OrdS.len (h : OrdS l [] xs) (hn : (names l).Nodup) : xs.length = l.length := by
  have hm : ∀ s, s ∈ xs ↔ s ∈ names l := fun s => by
    constructor
    · intro hs
      obtain ⟨i, hi, rfl⟩ := List.getElem_of_mem hs
      exact (h.rdy hi).mem
    · intro hs
      have := OrdS.all xs [] h s hs
      simpa using this
  have := ((List.perm_ext_iff_of_nodup h.nod hn).2 hm).length_eq
  rw [this, names_len]

def BestP (l : List Vdf) (out : List ByteArray) (i : Nat) (best : Int) : Prop :=
  (best = -1 ∧ ∀ j (hj : j < l.length), j < i → ¬ Rdy l out l[j].name) ∨
  ∃ b, ∃ hb : b < l.length, best = (b : Int) ∧ Rdy l out l[b].name ∧ ∀ j (hj : j < l.length), j < i → Rdy l out l[j].name → ltS l[j].name l[b].name = false
variable {out : List ByteArray} {i : Nat} {best : Int}
theorem BestP.start : BestP l out 0 (-1) := .inl ⟨rfl, fun j _ h => absurd h (Nat.not_lt_zero _)⟩
theorem BestP.no (h : BestP l out i best) (hi : i < l.length) (hr : ¬ Rdy l out l[i].name) : BestP l out (i + 1) best := by
  rcases h with ⟨h1, h2⟩ | ⟨b, hb, h1, h2, h3⟩
  · refine .inl ⟨h1, fun j hj hji => ?_⟩
    rcases Nat.lt_or_ge j i with h' | h'
    · exact h2 j hj h'
    · have : j = i := by omega
      subst this; exact hr
  · refine .inr ⟨b, hb, h1, h2, fun j hj hji hrj => ?_⟩
    rcases Nat.lt_or_ge j i with h' | h'
    · exact h3 j hj h' hrj
    · have : j = i := by omega
      subst this; exact absurd hrj hr
theorem BestP.first (h : BestP l out i (-1)) (hi : i < l.length) (hr : Rdy l out l[i].name) : BestP l out (i + 1) (i : Int) := by
  rcases h with ⟨_, h2⟩ | ⟨b, hb, h1, _⟩
  · refine .inr ⟨i, hi, rfl, hr, fun j hj hji hrj => ?_⟩
    rcases Nat.lt_or_ge j i with h' | h'
    · exact absurd hrj (h2 j hj h')
    · have : j = i := by omega
      subst this; exact ltS_irrefl _
  · omega
theorem BestP.less {b : Nat} (h : BestP l out i (b : Int)) (hb : b < l.length) (hi : i < l.length) (hr : Rdy l out l[i].name) (hlt : ltS l[i].name l[b].name = true) : BestP l out (i + 1) (i : Int) := by
  rcases h with ⟨h1, _⟩ | ⟨b', hb', h1, h2, h3⟩
  · omega
  · have : b = b' := by omega
    subst this
    refine .inr ⟨i, hi, rfl, hr, fun j hj hji hrj => ?_⟩
    rcases Nat.lt_or_ge j i with h' | h'
    · rcases hx : ltS l[j].name l[i].name with _ | _
      · rfl
      · have := ltS_trans hx hlt
        rw [h3 j hj h' hrj] at this; cases this
    · have : j = i := by omega
      subst this; exact ltS_irrefl _
theorem BestP.keep {b : Nat} (h : BestP l out i (b : Int)) (hb : b < l.length) (hi : i < l.length) (hlt : ltS l[i].name l[b].name = false) : BestP l out (i + 1) (b : Int) := by
  rcases h with ⟨h1, _⟩ | ⟨b', hb', h1, h2, h3⟩
  · omega
  · have : b = b' := by omega
    subst this
    refine .inr ⟨b, hb, rfl, h2, fun j hj hji hrj => ?_⟩
    rcases Nat.lt_or_ge j i with h' | h'
    · exact h3 j hj h' hrj
    · have : j = i := by omega
      subst this; exact hlt
theorem BestP.shape (h : BestP l out i best) : best = -1 ∨ ∃ b : Nat, b < l.length ∧ best = (b : Int) := by
  rcases h with ⟨h1, _⟩ | ⟨b, hb, h1, _⟩
  · exact .inl h1
  · exact .inr ⟨b, hb, h1⟩
theorem BestP.fin {m : Nat} (h : BestP l (xs.take m) i best) (hi : l.length ≤ i) (hO : OrdS l [] xs) (hm : m < xs.length) : ∃ b, ∃ hb : b < l.length, best = (b : Int) ∧ l[b].name = xs[m] := by
  have hr := hO.rdy hm
  obtain ⟨d, hd, e⟩ := List.mem_map.1 hr.mem
  obtain ⟨j, hj, rfl⟩ := List.getElem_of_mem hd
  rcases h with ⟨_, h2⟩ | ⟨b, hb, h1, h2, h3⟩
  · exact absurd (by rw [e]; exact hr) (h2 j hj (by omega))
  · refine ⟨b, hb, h1, ltS_tri (hO.least hm h2) ?_⟩
    have := h3 j hj (by omega) (by rw [e]; exact hr)
    rw [e] at this
    exact this
theorem rdy_at (hn : (names l).Nodup) (hi : i < l.length) : Rdy l out l[i].name ↔ l[i].name ∉ out ∧ ∀ y, y ∈ l[i].parents → y ∈ out := by
  have hp := par_of hn (List.getElem_mem hi)
  constructor
  · intro h
    exact ⟨h.new, fun y hy => h.par y (by rw [hp]; exact hy)⟩
  · rintro ⟨h1, h2⟩
    exact ⟨List.mem_map.2 ⟨_, List.getElem_mem hi, rfl⟩, h1, fun y hy => h2 y (by rw [hp] at hy; exact hy)⟩
end
theorem take_memB {l : List ByteArray} {k : Nat} (hk : k < l.length) {d : ByteArray} : d ∈ l.take (k + 1) ↔ d ∈ l.take k ∨ d = l[k] := by
  rw [List.take_add_one, List.getElem?_eq_getElem hk]
  show d ∈ l.take k ++ [l[k]] ↔ _
  rw [List.mem_append, List.mem_singleton]
theorem take_snocB {xs : List ByteArray} {m : Nat} (hm : m < xs.length) : xs.take (m + 1) = xs.take m ++ [xs[m]] := by
  rw [List.take_add_one, List.getElem?_eq_getElem hm]; rfl
def lenV : Value → Nat
  | .slice _ n _ => n
  | _ => 0

set_option maxHeartbeats 4000000 in
set_option maxRecDepth 100000 in
theorem rorder_any (w : World) (v : Value) (l : List Vdf) (h : Rw 2 Vdf.EC w v l) (hOk : VOk l) :
    Calls Try.prog 19 #[v] w fun e w' => ∃ (v' : Value) (n : Nat) (xs : List ByteArray), e = .returned v' ∧ w'.ownsRow w.heap.size 9 1 v' n (strs xs) ∧ n ≤ 12 ∧ IsOrd l xs ∧ Below w.heap.size w w' := by
  have hE := rw_EC h
  have HRt := Hd.mk (rright_any w v l h hOk)
  obtain ⟨p, q, hv⟩ := h.slice
  obtain ⟨M, hM⟩ : ∃ M, l.length = M := ⟨_, rfl⟩
  rw [hM] at hv
  subst hv
  have HRow0 := Hd.mk hE
  have HM := Hd.mk hM
  have HO := Hd.mk hOk
  have hM12 : M ≤ 12 := by have := hOk.len; omega
  obtain ⟨R, hR⟩ : ∃ R, rightV l = R := ⟨_, rfl⟩
  have HR := Hd.mk hR
  rw [hR] at HRt
  clear h hE hM hOk hR
  go_enter Try.func19, Try.ntmps19
  go_wp2_with fail
  refine HRt.out.mono ?_
  rintro e w1 ⟨rfl, b1⟩
  have HB1 := Hd.mk b1
  have HRow : Hd (Rw 2 Vdf.E w1 (.slice p M q) l) := ⟨HRow0.out.below Vdf.stays b1⟩
  clear b1 HRt HRow0
  cases R with
  | false =>
    have HNo : Hd (IsOrd l []) := ⟨⟨fun h => absurd (rightV_iff.2 h) (by rw [HR.out]; decide), fun _ => rfl⟩⟩
    go_wp2
    go_ret
    exact ⟨_, 0, [], rfl, World.ownsRow_nil _ _ _ _, Nat.zero_le _, HNo.out, HB1.out⟩
  | true =>
    have hvr := rightV_iff.1 HR.out
    obtain ⟨us, _, _, _, hord⟩ := parts_ord HO.out.len hvr
    obtain ⟨zs, hzs⟩ : ∃ zs, us.map (nmAt (sortS (names l))) = zs := ⟨_, rfl⟩
    rw [hzs] at hord
    have HV := Hd.mk hvr
    have HZ := Hd.mk hord
    have hzl : zs.length = M := (hord.len hvr.nod).trans HM.out
    have HZl := Hd.mk hzl
    have HA0 : Hd (w1.ownsRow w1.heap.size 9 1 (.slice none 0 0) 0 (strs (zs.take 0))) := ⟨World.ownsRow_nil w1 _ _ _⟩
    clear hvr hord hzs hzl HR
    go_wp2
    go_loopw [3] (fun av wr => ∃ (m : Nat) (p3 : Option Addr) (c3 : Nat), m ≤ M ∧ av = .slice p3 m c3 ∧ Hd (wr.ownsRow w1.heap.size 9 1 (.slice p3 m c3) m (strs (zs.take m))) ∧ Hd (Below w1.heap.size w1 wr)) (fun av _ => M - lenV av)
    case atStart => exact ⟨0, none, 0, Nat.zero_le _, rfl, HA0, ⟨Below.refl _ _⟩⟩
    case round =>
      clear HA0
      obtain ⟨m, p3, c3, hm, rfl, HA, HB⟩ := hrel
      by_cases hmt : m < M
      · have hd1 : decide ((m : Int) < (M : Int)) = true := decide_eq_true (by omega)
        have hmz : m < zs.length := by rw [HZl.out]; exact hmt
        have hsn := take_snocB hmz
        have hfin := fun (best : Int) (i : Nat) (h : BestP l (zs.take m) i best) (hi : l.length ≤ i) => h.fin hi HZ.out hmz
        have hol : (zs.take m).length = m := by rw [List.length_take]; omega
        obtain ⟨Z, hZ⟩ : ∃ Z, zs[m] = Z := ⟨_, rfl⟩
        rw [hZ] at hsn hfin
        obtain ⟨out, hout⟩ : ∃ out, zs.take m = out := ⟨_, rfl⟩
        rw [hout] at HA hsn hfin hol
        have HSn := Hd.mk hsn
        have HFin := Hd.mk hfin
        have HOl := Hd.mk hol
        have HRo := Hd.mk (rw_strs HA.out)
        have HBs : Hd (w1.heap.size ≤ wr.heap.size) := ⟨HB.out.size⟩
        obtain ⟨wb, hwb⟩ : ∃ wb, wr = wb := ⟨_, rfl⟩
        rw [hwb] at HA HB HRo HBs
        have HB2 : Hd (Below wb.heap.size wb wr) := ⟨by rw [hwb]; exact Below.refl _ _⟩
        have HRb : Hd (Rw 2 Vdf.E wb (.slice p M q) l) := ⟨HRow.out.below Vdf.stays HB.out⟩
        have HHs : Hd (∀ (w' : World) (y : ByteArray), Below wb.heap.size wb w' → Calls Try.prog 26 #[.slice p3 m c3, .string y] w' fun e w'' => e = .returned (.bool (memB out y)) ∧ w'' = w') := ⟨fun w' y hb => rhas_any w' (.slice p3 m c3) out y (HRo.out.below strE_stays hb) (by omega)⟩
        have HP0 : Hd (BestP l out 0 (-1)) := ⟨BestP.start⟩
        clear hmz hsn hfin hol hZ hout hwb
        go_wp2
        go_loopw [5, 4] (fun iv bv wr => ∃ (i : Nat) (best : Int), i ≤ M ∧ iv = .int .i64 (i : Int) ∧ bv = .int .i64 best ∧ Hd (BestP l out i best) ∧ Hd (Below wb.heap.size wb wr)) (fun iv _ _ => M - (intOf iv).toNat)
        case atStart => exact ⟨0, -1, Nat.zero_le _, rfl, rfl, HP0, HB2⟩
        case round =>
          clear HP0 HB2
          obtain ⟨i, best, hi, rfl, rfl, HP, HB2⟩ := hrel
          by_cases hlt : i < M
          · have hd2 : decide ((i : Int) < (M : Int)) = true := decide_eq_true (by omega)
            have hmi : M - (intOf (.int .i64 ((i : Int) + 1))).toNat < M - (intOf (.int .i64 (i : Int))).toNat := by simp [intOf]; omega
            have hiq : i < l.length := by rw [HM.out]; exact hlt
            obtain ⟨gl, of, cs, hpe, hg, hcl, ⟨pv, rfl, hAt⟩, hcc⟩ := HRb.out.at rfl (j := i) hiq
            subst hpe
            have hap := hAt.parents
            have hrd := rdy_at (out := out) HV.out.nod hiq
            have hst := And.intro (HP.out.no hiq) (fun h : best = -1 => (by subst h; exact HP.out.first hiq : Rdy l out l[i].name → BestP l out (i + 1) (i : Int)))
            have hst2 : ∀ b, ∀ hb : b < l.length, best = (b : Int) → (Rdy l out l[i].name → ltS l[i].name l[b].name = true → BestP l out (i + 1) (i : Int)) ∧ (ltS l[i].name l[b].name = false → BestP l out (i + 1) (b : Int)) := fun b hb e => by
              subst e
              exact ⟨fun h1 h2 => HP.out.less hb hiq h1 h2, fun h2 => HP.out.keep hb hiq h2⟩
            obtain ⟨X, hX⟩ : ∃ X, l[i].name = X := ⟨_, rfl⟩
            obtain ⟨P, hP⟩ : ∃ P, l[i].parents = P := ⟨_, rfl⟩
            rw [hX, hP] at hrd
            rw [hX] at hst
            simp only [hX] at hst2
            rw [hP] at hap
            obtain ⟨pp, pc, hpv⟩ := hap.slice
            obtain ⟨PN, hPN⟩ : ∃ PN, P.length = PN := ⟨_, rfl⟩
            have hPN6 : PN ≤ 6 := by rw [← hPN, ← hP]; exact (HO.out.par _ (List.getElem_mem hiq)).1
            rw [hPN] at hpv
            subst hpv
            have HCl : Hd (∀ w', Below wb.heap.size wb w' → w'.cell? ⟨gl, of + i * 2, none⟩ = some (.string X) ∧ w'.cell? ⟨gl, of + i * 2 + 1, none⟩ = some (.slice pp PN pc)) := ⟨fun w' hb => ⟨by rw [hb.cell (p := ⟨gl, of + i * 2, none⟩) hg, ← hX]; exact hcc 0 _ rfl, by rw [hb.cell (p := ⟨gl, of + i * 2 + 1, none⟩) hg]; exact hcc 1 _ rfl⟩⟩
            have HRl : Hd (∀ b (hb : b < l.length) w', Below wb.heap.size wb w' → w'.cell? ⟨gl, of + b * 2, none⟩ = some (.string l[b].name)) := ⟨fun b hb w' hbw => by
              obtain ⟨g2, o2, cs2, e2, hg2, _, ⟨pv2, rfl, _⟩, hcc2⟩ := HRb.out.at rfl (j := b) hb
              injection e2 with e2
              injection e2 with e3 e4 _
              subst e3
              subst e4
              rw [hbw.cell (p := ⟨gl, of + b * 2, none⟩) hg2]; exact hcc2 0 _ rfl⟩
            have HAp := Hd.mk hap
            have HPN := Hd.mk hPN
            have HRd := Hd.mk hrd
            have HSt := Hd.mk hst
            have HSt2 := Hd.mk hst2
            have HShp := Hd.mk HP.out.shape
            have HH0 := Hd.mk (HHs.out wr X HB2.out)
            obtain ⟨b0, hb0⟩ : ∃ b, memB out X = b := ⟨_, rfl⟩
            rw [hb0] at HH0
            have HK0 : Hd ((!b0) = true ↔ X ∉ out ∧ ∀ y, y ∈ P.take 0 → y ∈ out) := ⟨by
              rw [← hb0, Bool.not_eq_true', memB_no]
              exact ⟨fun h => ⟨h, fun y hy => by simp at hy⟩, fun h => h.1⟩⟩
            obtain ⟨c0, c1⟩ := HCl.out wr HB2.out
            obtain ⟨nb, hnb⟩ : ∃ nb, (!b0) = nb := ⟨_, rfl⟩
            have hbb : b0 = !nb := by rw [← hnb]; simp
            rw [hnb] at HK0
            rw [hbb] at HH0
            clear hiq hg hcl hAt hcc hap hrd hst hst2 hX hP hPN hb0 HP hnb hbb b0
            go_wp2_with fail
            refine HH0.out.mono ?_
            rintro e w5 ⟨rfl, rfl⟩
            have hnn : (!(!nb)) = nb := by simp
            clear HH0
            go_wp2
            clear c0 c1
            go_loopw [7, 6] (fun kv bv wr => ∃ (k : Nat) (b : Bool), k ≤ PN ∧ kv = .int .i64 (k : Int) ∧ bv = .bool b ∧ Hd (b = true ↔ X ∉ out ∧ ∀ y, y ∈ P.take k → y ∈ out) ∧ Hd (Below wb.heap.size wb wr)) (fun kv _ _ => PN - (intOf kv).toNat)
            case atStart => exact ⟨0, nb, Nat.zero_le _, rfl, by first | rfl | (rw [hnn]) | simp, HK0, HB2⟩
            case round =>
              clear HK0 HB2 hnn
              obtain ⟨k, b, hk, rfl, rfl, HK, HB2⟩ := hrel
              obtain ⟨c0, c1⟩ := HCl.out wr HB2.out
              by_cases hkt : k < PN
              · have hd3 : decide ((k : Int) < (PN : Int)) = true := decide_eq_true (by omega)
                have hmk : PN - (intOf (.int .i64 ((k : Int) + 1))).toNat < PN - (intOf (.int .i64 (k : Int))).toNat := by simp [intOf]; omega
                have hkq : k < P.length := by rw [HPN.out]; exact hkt
                obtain ⟨gp, op, e3, hEp⟩ := RS.ever HAp.out (by omega)
                subst e3
                have c2 := hEp k hkq wr HB2.out
                have htm := fun y => take_memB hkq (d := y)
                obtain ⟨Y, hY⟩ : ∃ Y, P[k] = Y := ⟨_, rfl⟩
                rw [hY] at c2 htm
                have HTm := Hd.mk htm
                clear hkq hEp htm hY
                cases b with
                | false =>
                  have HK2 : Hd (false = true ↔ X ∉ out ∧ ∀ y, y ∈ P.take (k + 1) → y ∈ out) := ⟨⟨fun h => (Bool.noConfusion h), fun h => HK.out.2 ⟨h.1, fun y hy => h.2 y ((HTm.out y).2 (.inl hy))⟩⟩⟩
                  clear HK HTm
                  go_wp2
                  exact ⟨⟨k + 1, false, hkt, by go_num, rfl, HK2, HB2⟩, hmk⟩
                | true =>
                  have HH := Hd.mk (HHs.out wr Y HB2.out)
                  obtain ⟨r, hr⟩ : ∃ r, memB out Y = r := ⟨_, rfl⟩
                  rw [hr] at HH
                  have HK2 : Hd (r = true ↔ X ∉ out ∧ ∀ y, y ∈ P.take (k + 1) → y ∈ out) := ⟨by
                    rw [← hr, memB_iff]
                    have h0 := HK.out.1 rfl
                    constructor
                    · intro h
                      refine ⟨h0.1, fun y hy => ?_⟩
                      rcases (HTm.out y).1 hy with hy | rfl
                      · exact h0.2 y hy
                      · exact h
                    · exact fun h => h.2 Y ((HTm.out Y).2 (.inr rfl))⟩
                  clear HK HTm hr
                  go_wp2_with fail
                  refine HH.out.mono ?_
                  rintro e w6 ⟨rfl, rfl⟩
                  clear HH
                  go_wp2
                  exact ⟨⟨k + 1, r, hkt, by go_num, rfl, HK2, HB2⟩, hmk⟩
              · have hd3 : decide ((k : Int) < (PN : Int)) = false := decide_eq_false (by omega)
                have HRy : Hd (b = true ↔ Rdy l out X) := ⟨by
                  have hPt : P.take k = P := List.take_of_length_le (by rw [HPN.out]; omega)
                  have := HK.out
                  rw [hPt] at this
                  exact this.trans HRd.out.symm⟩
                have HD2 : Hd (Below wb.heap.size wb wr.drew) := ⟨HB2.out.trans ((Bel wr 1).mono HB2.out.size)⟩
                have e0 := (HCl.out _ HD2.out).1
                clear HK
                cases b with
                | false =>
                  have HP2 := Hd.mk (HSt.out.1 (fun h => by have := HRy.out.2 h; cases this))
                  clear HRy HSt HSt2
                  go_wp2_with fail
                  go_upto_region 14 with (fail)
                  refine wp_region_lin default (fun w' => True) [(0, true), (1, true), (2, true), (3, true), (4, true), (5, true), (6, true), (7, true), (8, true), (9, true), (10, true), (11, true), (12, true), (13, true), (14, true), (15, true), (16, true), (17, true)] (by kernel_rfl) (by kernel_rfl) rfl (by kernel_rfl) (by kernel_rfl) trivial ?_
                  simp only [pick, List.getD_cons_zero, List.getD_cons_succ]
                  repeat
                    first
                    | (refine lin_free (v := ?_) (by rfl) ?_ ?_
                       rotate_left
                       · intro w' hSw
                         have d0 := hSw
                         go_simp
                         first | done | with_reducible rfl
                       try simp only [Act.put, List.setIfInBounds_toArray, List.set_cons_zero, List.set_cons_succ])
                    | (refine lin_skip (by rfl) ?_
                       try simp only [Act.put, List.setIfInBounds_toArray, List.set_cons_zero, List.set_cons_succ])
                  refine NoPanic.normal ?_
                  clear e0 c0 c1
                  go_wp2
                  exact ⟨⟨i + 1, best, hlt, by go_num, rfl, HP2, HD2⟩, hmi⟩
                | true =>
                  have hry := HRy.out.1 rfl
                  rcases HShp.out with e1 | ⟨bb, hbb, e1⟩
                  · have HP2 := Hd.mk (HSt.out.2 e1 hry)
                    subst e1
                    clear HRy HSt HSt2 hry
                    go_wp2_with fail
                    go_upto_region 14 with (fail)
                    refine wp_region_lin default (fun w' => True) [(0, true), (1, true), (2, true), (3, true), (4, true), (5, true), (6, true), (7, true), (8, true), (9, true), (10, true), (11, true), (12, true), (13, true), (14, true), (15, true), (16, true), (17, true)] (by kernel_rfl) (by kernel_rfl) rfl (by kernel_rfl) (by kernel_rfl) trivial ?_
                    simp only [pick, List.getD_cons_zero, List.getD_cons_succ]
                    repeat
                      first
                      | (refine lin_free (v := ?_) (by rfl) ?_ ?_
                         rotate_left
                         · intro w' hSw
                           have d0 := hSw
                           go_simp
                           first | done | with_reducible rfl
                         try simp only [Act.put, List.setIfInBounds_toArray, List.set_cons_zero, List.set_cons_succ])
                      | (refine lin_skip (by rfl) ?_
                         try simp only [Act.put, List.setIfInBounds_toArray, List.set_cons_zero, List.set_cons_succ])
                    refine NoPanic.normal ?_
                    clear e0 c0 c1
                    go_wp2
                    exact ⟨⟨i + 1, (i : Int), hlt, by go_num, rfl, HP2, HD2⟩, hmi⟩
                  · have hs2 := HSt2.out bb hbb e1
                    have e2 := HRl.out bb hbb _ HD2.out
                    have gneg : decide ((bb : Int) < 0) = false := decide_eq_false (by omega)
                    have hbM : bb < M := by rw [← HM.out]; exact hbb
                    have hbM2 : (bb : Int) < (M : Int) := by omega
                    obtain ⟨Y, hY⟩ : ∃ Y, l[bb].name = Y := ⟨_, rfl⟩
                    rw [hY] at hs2 e2
                    subst e1
                    have g0 := str_lt X Y
                    clear hY HRy HSt HSt2
                    rcases hlt2 : ltS X Y with _ | _
                    · have HP2 := Hd.mk (hs2.2 hlt2)
                      rw [hlt2] at g0
                      clear hs2 hlt2 hry
                      go_wp2_with fail
                      go_upto_region 14 with (fail)
                      refine wp_region_lin default (fun w' => w'.cell? ⟨gl, of + i * 2, none⟩ = some (.string X) ∧ w'.cell? ⟨gl, of + bb * 2, none⟩ = some (.string Y)) [(0, true), (1, true), (2, true), (3, true), (4, true), (5, true), (6, true), (7, true), (8, true), (9, true), (10, true), (11, true), (12, true), (13, true), (14, true), (15, true), (16, true), (17, true)] (by kernel_rfl) (by kernel_rfl) rfl (by kernel_rfl) (by kernel_rfl) ⟨e0, e2⟩ ?_
                      simp only [pick, List.getD_cons_zero, List.getD_cons_succ]
                      repeat
                        first
                        | (refine lin_free (v := ?_) (by rfl) ?_ ?_
                           rotate_left
                           · intro w' hSw
                             obtain ⟨d0, d1⟩ := hSw
                             go_simp
                             first | done | with_reducible rfl
                           try simp only [Act.put, List.setIfInBounds_toArray, List.set_cons_zero, List.set_cons_succ])
                        | (refine lin_skip (by rfl) ?_
                           try simp only [Act.put, List.setIfInBounds_toArray, List.set_cons_zero, List.set_cons_succ])
                      refine NoPanic.normal ?_
                      clear e0 e2 c0 c1 g0
                      go_wp2
                      exact ⟨⟨i + 1, (bb : Int), hlt, by go_num, rfl, HP2, HD2⟩, hmi⟩
                    · have HP2 := Hd.mk (hs2.1 hry hlt2)
                      rw [hlt2] at g0
                      clear hs2 hlt2 hry
                      go_wp2_with fail
                      go_upto_region 14 with (fail)
                      refine wp_region_lin default (fun w' => w'.cell? ⟨gl, of + i * 2, none⟩ = some (.string X) ∧ w'.cell? ⟨gl, of + bb * 2, none⟩ = some (.string Y)) [(0, true), (1, true), (2, true), (3, true), (4, true), (5, true), (6, true), (7, true), (8, true), (9, true), (10, true), (11, true), (12, true), (13, true), (14, true), (15, true), (16, true), (17, true)] (by kernel_rfl) (by kernel_rfl) rfl (by kernel_rfl) (by kernel_rfl) ⟨e0, e2⟩ ?_
                      simp only [pick, List.getD_cons_zero, List.getD_cons_succ]
                      repeat
                        first
                        | (refine lin_free (v := ?_) (by rfl) ?_ ?_
                           rotate_left
                           · intro w' hSw
                             obtain ⟨d0, d1⟩ := hSw
                             go_simp
                             first | done | with_reducible rfl
                           try simp only [Act.put, List.setIfInBounds_toArray, List.set_cons_zero, List.set_cons_succ])
                        | (refine lin_skip (by rfl) ?_
                           try simp only [Act.put, List.setIfInBounds_toArray, List.set_cons_zero, List.set_cons_succ])
                      refine NoPanic.normal ?_
                      clear e0 e2 c0 c1 g0
                      go_wp2
                      exact ⟨⟨i + 1, (i : Int), hlt, by go_num, rfl, HP2, HD2⟩, hmi⟩
          · have hd2 : decide ((i : Int) < (M : Int)) = false := decide_eq_false (by omega)
            obtain ⟨bb, hbb, e1, e4⟩ := HFin.out best i HP.out (by rw [HM.out]; omega)
            subst e1
            obtain ⟨gl, of, cs, hpe, hg, hcl, ⟨pv, rfl, hAt⟩, hcc⟩ := HRb.out.at rfl (j := bb) hbb
            subst hpe
            have hbM : bb < M := by rw [← HM.out]; exact hbb
            have hbM2 : (bb : Int) < (M : Int) := by omega
            have c0 : wr.cell? ⟨gl, of + bb * 2, none⟩ = some (.string Z) := by rw [HB2.out.cell (p := ⟨gl, of + bb * 2, none⟩) hg, ← e4]; exact hcc 0 _ rfl
            have hA3 := ownsRow_kp HA.out (Keeps.of_below HB2.out (S := fun _ => False) (fun k h1 h2 => by omega)) (fun _ _ h => h)
            obtain ⟨v', w', hrun, hown, hbel, _⟩ := str_push Z hA3 (by omega) (Nat.le_trans HBs.out HB2.out.size)
            rw [← HSn.out] at hown
            obtain ⟨p', c', e'⟩ : ∃ p' c', v' = .slice p' (m + 1) c' := by
              rcases hown.2 with ⟨_, h0⟩ | ⟨g', cap', _, e, _⟩
              · omega
              · exact ⟨_, _, e⟩
            subst e'
            have HRun := Hd.mk hrun
            have HA2 := Hd.mk hown
            have HB4 : Hd (Below w1.heap.size w1 w') := ⟨(HB.out.trans (HB2.out.mono HBs.out)).trans hbel⟩
            have hmm : M - lenV (.slice p' (m + 1) c') < M - lenV (.slice p3 m c3) := by show M - (m + 1) < M - m; omega
            clear hbb e4 hg hcl hAt hcc hA3 hrun hown hbel HP HA HFin
            go_wp2_with (at_builtin; refine wp_append_run (vs := .slice p3 m c3) (vx := .slice (some ⟨wr.heap.size, 0, none⟩) 1 1) (W := wr.alloc (.cells #[.string Z] 9)) rfl (Operand.tmp 72) (Operand.tmp 78) 27 rfl rfl rfl HRun.out ?_)
            go_wp2_with fail
            exact ⟨⟨m + 1, p', c', hmt, rfl, HA2, HB4⟩, hmm⟩
      · have hd1 : decide ((m : Int) < (M : Int)) = false := decide_eq_false (by omega)
        have hmM : m = M := by omega
        have hA := HA.out
        rw [List.take_of_length_le (by rw [HZl.out]; omega)] at hA
        have HA2 := Hd.mk hA
        have HIs : Hd (IsOrd l zs) := ⟨⟨fun _ => HZ.out, fun h => absurd HV.out h⟩⟩
        clear hA HA hmM
        go_wp2
        go_ret
        exact ⟨_, m, zs, rfl, (by
          refine ⟨HA2.out.1, ?_⟩
          rcases HA2.out.2 with h0 | ⟨g', cap', cur', e, h1, h2⟩
          · exact .inl h0
          · exact .inr ⟨g', cap', cur', e, Nat.le_trans HB1.out.size h1, h2⟩), by omega, HIs.out, HB1.out.trans (HB.out.mono HB1.out.size)⟩

end Go.Proofs.Ytmgkoocpnakanaa.W
