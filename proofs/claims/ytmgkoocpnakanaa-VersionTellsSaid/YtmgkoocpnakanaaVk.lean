import Derived.Test.YtmgkoocpnakanaaVw
/-
  The laws' few; the reference's Same.
-/
namespace Go.Proofs.Ytmgkoocpnakanaa.W
open Go.RowKit
set_option linter.unusedVariables false

/-- one declaration is within the bounds -/
structure VdOk (d : Vdf) : Prop where
  name : d.name.size ≤ 100
  len : d.parents.length ≤ 6
  par : ∀ p, p ∈ d.parents → p.size ≤ 100
theorem vok_iff {l : List Vdf} : VOk l ↔ l.length ≤ 12 ∧ ∀ d ∈ l, VdOk d :=
  ⟨fun h => ⟨h.len, fun d hd => ⟨h.name d hd, (h.par d hd).1, (h.par d hd).2⟩⟩, fun h => ⟨h.1, fun d hd => (h.2 d hd).name, fun d hd => ⟨(h.2 d hd).len, (h.2 d hd).par⟩⟩⟩
noncomputable def fewV (l : List Vdf) : Bool := @decide (VOk l) (Classical.propDecidable _)
theorem fewV_iff {l : List Vdf} : fewV l = true ↔ VOk l := by
  unfold fewV
  exact @decide_eq_true_iff _ (Classical.propDecidable _)
theorem fewV_no {l : List Vdf} (h : ¬ VOk l) : fewV l = false := by
  rcases hr : fewV l with _ | _
  · rfl
  · exact absurd (fewV_iff.1 hr) h

set_option maxHeartbeats 4000000 in
set_option maxRecDepth 100000 in
theorem few_any (w : World) (v : Value) (l : List Vdf) (h : Rw 2 Vdf.E w v l) :
    Calls Try.prog 10 #[v] w fun e w' => e = .returned (.bool (fewV l)) ∧ w = w' := by
  obtain ⟨p, c, hv⟩ := h.slice
  obtain ⟨M, hM⟩ : ∃ M, l.length = M := ⟨_, rfl⟩
  rw [hM] at hv
  subst hv
  have H := Hd.mk h
  have HM := Hd.mk hM
  obtain ⟨R, hR⟩ : ∃ R, fewV l = R := ⟨_, rfl⟩
  have HR := Hd.mk hR
  rw [hR]
  clear h hM hR
  go_enter Try.func10, Try.ntmps10
  by_cases h12 : 12 < M
  · have g1 : decide ((12 : Int) < (M : Int)) = true := decide_eq_true (by omega)
    have HE : Hd (false = R) := ⟨by rw [← HR.out]; exact (fewV_no fun h => by have := h.len; rw [HM.out] at this; omega).symm⟩
    go_wp2
    go_ret
    exact ⟨ret_b HE.out, rfl⟩
  have g1 : decide ((12 : Int) < (M : Int)) = false := decide_eq_false (by omega)
  go_wp2
  go_loopw [3] (fun kv wr => ∃ k : Nat, k ≤ M ∧ kv = .int .i64 (k : Int) ∧ Hd (∀ d ∈ l.take k, VdOk d) ∧ w = wr) (fun kv _ => M - (intOf kv).toNat)
  case atStart => exact ⟨0, Nat.zero_le _, rfl, ⟨fun d hd => by simp at hd⟩, rfl⟩
  case round =>
    obtain ⟨k, hk, rfl, HD, rfl⟩ := hrel
    by_cases hlt : k < M
    · have hd1 : decide ((k : Int) < (M : Int)) = true := decide_eq_true (by omega)
      have hmk : M - (intOf (.int .i64 ((k : Int) + 1))).toNat < M - (intOf (.int .i64 (k : Int))).toNat := by simp [intOf]; omega
      have hkq : k < l.length := by rw [HM.out]; exact hlt
      obtain ⟨g, of, cs, hpe, hg, hcl, ⟨pv, rfl, hAt⟩, hcc⟩ := H.out.at rfl (j := k) hkq
      subst hpe
      have hno : VOk l → VdOk l[k] := fun h => (vok_iff.1 h).2 _ (List.getElem_mem hkq)
      have hDn : VdOk l[k] → ∀ d ∈ l.take (k + 1), VdOk d := fun h d hd => by
        rw [List.take_add_one, List.getElem?_eq_getElem hkq] at hd
        rcases List.mem_append.1 hd with hd | hd
        · exact HD.out d hd
        · simp at hd; subst hd; exact h
      obtain ⟨dd, hdd⟩ : ∃ dd, l[k] = dd := ⟨_, rfl⟩
      have hAp := hAt.parents
      rw [hdd] at hno hDn hcc hAp
      obtain ⟨P, hP⟩ : ∃ P, dd.parents = P := ⟨_, rfl⟩
      rw [hP] at hAp
      obtain ⟨pp, pc, hpv⟩ := hAp.slice
      obtain ⟨PN, hPN⟩ : ∃ PN, P.length = PN := ⟨_, rfl⟩
      rw [hPN] at hpv
      subst hpv
      obtain ⟨X, hx⟩ : ∃ X, dd.name = X := ⟨_, rfl⟩
      have d0 : w.cell? ⟨g, of + k * 2, none⟩ = some (.string X) := by rw [← hx]; exact hcc 0 _ rfl
      have d1 : w.cell? ⟨g, of + k * 2 + 1, none⟩ = some (.slice pp PN pc) := hcc 1 _ rfl
      have HNo := Hd.mk hno
      have HDn := Hd.mk hDn
      have HAp := Hd.mk hAp
      have HPN := Hd.mk hPN
      have HDP := Hd.mk hP
      have HDX := Hd.mk hx
      clear hcc hcl hg hAt hno hDn hAp hdd hP hPN hx hkq
      by_cases h6 : 6 < PN
      · have g2 : decide ((6 : Int) < (PN : Int)) = true := decide_eq_true (by omega)
        have HE : Hd (false = R) := ⟨by rw [← HR.out]; exact (fewV_no fun h => by have := (HNo.out h).len; rw [HDP.out, HPN.out] at this; omega).symm⟩
        go_wp2
        go_ret
        exact ⟨ret_b HE.out, rfl⟩
      have g2 : decide ((6 : Int) < (PN : Int)) = false := decide_eq_false (by omega)
      by_cases h100 : 100 < X.size
      · have g3 : decide ((100 : Int) < (X.size : Int)) = true := decide_eq_true (by omega)
        have HE : Hd (false = R) := ⟨by rw [← HR.out]; exact (fewV_no fun h => by have := (HNo.out h).name; rw [HDX.out] at this; omega).symm⟩
        go_wp2
        go_ret
        exact ⟨ret_b HE.out, rfl⟩
      have g3 : decide ((100 : Int) < (X.size : Int)) = false := decide_eq_false (by omega)
      go_wp2
      go_loopw [4] (fun jv wq => ∃ j : Nat, j ≤ PN ∧ jv = .int .i64 (j : Int) ∧ Hd (∀ p ∈ P.take j, p.size ≤ 100) ∧ w = wq) (fun jv _ => PN - (intOf jv).toNat)
      case atStart => exact ⟨0, Nat.zero_le _, rfl, ⟨fun d hd => by simp at hd⟩, rfl⟩
      case round =>
        obtain ⟨j, hj, rfl, HJ, rfl⟩ := hrel
        by_cases hjt : j < PN
        · have hd2 : decide ((j : Int) < (PN : Int)) = true := decide_eq_true (by omega)
          have hmj : PN - (intOf (.int .i64 ((j : Int) + 1))).toNat < PN - (intOf (.int .i64 (j : Int))).toNat := by simp [intOf]; omega
          have hjq : j < P.length := by rw [HPN.out]; exact hjt
          obtain ⟨gp, op, e2, hEv⟩ := RS.ever HAp.out (by omega)
          subst e2
          have cj := hEv j hjq w (Below.refl _ _)
          have hxm : P[j] ∈ P := List.getElem_mem hjq
          have hst : P[j].size ≤ 100 → ∀ p ∈ P.take (j + 1), p.size ≤ 100 := fun h p hp => by
            rw [List.take_add_one, List.getElem?_eq_getElem hjq] at hp
            rcases List.mem_append.1 hp with hp | hp
            · exact HJ.out p hp
            · simp at hp; subst hp; exact h
          obtain ⟨x, hx⟩ : ∃ x, P[j] = x := ⟨_, rfl⟩
          rw [hx] at cj hxm hst
          have HX := Hd.mk (And.intro hxm hst)
          clear hEv hjq hxm hst hx
          by_cases hx1 : 100 < x.size
          · have g4 : decide ((100 : Int) < (x.size : Int)) = true := decide_eq_true (by omega)
            have HE : Hd (false = R) := ⟨by rw [← HR.out]; exact (fewV_no fun h => by have := (HNo.out h).par x (by rw [HDP.out]; exact HX.out.1); omega).symm⟩
            go_wp2
            go_ret
            exact ⟨ret_b HE.out, rfl⟩
          · have g4 : decide ((100 : Int) < (x.size : Int)) = false := decide_eq_false (by omega)
            have HJ2 := Hd.mk (HX.out.2 (by omega))
            go_wp2
            exact ⟨⟨j + 1, hjt, by go_num, HJ2, trivial⟩, hmj⟩
        · have hd2 : decide ((j : Int) < (PN : Int)) = false := decide_eq_false (by omega)
          have HD2 : Hd (∀ d ∈ l.take (k + 1), VdOk d) := ⟨HDn.out ⟨by rw [HDX.out]; omega, by rw [HDP.out, HPN.out]; omega, fun p hp => HJ.out p (by rw [List.take_of_length_le (by rw [HPN.out]; omega), ← HDP.out]; exact hp)⟩⟩
          go_wp2
          exact ⟨⟨k + 1, hlt, by go_num, HD2, trivial⟩, hmk⟩
    · have hd1 : decide ((k : Int) < (M : Int)) = false := decide_eq_false (by omega)
      have HE : Hd (true = R) := ⟨by
        rw [← HR.out]
        refine (fewV_iff.2 (vok_iff.2 ⟨by rw [HM.out]; omega, fun d hd => HD.out d ?_⟩)).symm
        rw [List.take_of_length_le (by rw [HM.out]; omega)]; exact hd⟩
      go_wp2
      go_ret
      exact ⟨ret_b HE.out, rfl⟩

set_option maxHeartbeats 4000000 in
set_option maxRecDepth 100000 in
theorem sames_any (w : World) (v u : Value) (xs ys : List ByteArray) (hx : xs.length ≤ 1000000) (hy : ys.length ≤ 1000000) (h1 : Rw 1 strE w v xs) (h2 : Rw 1 strE w u ys) :
    Calls Try.prog 15 #[v, u] w fun e w' => e = .returned (.bool (decide (xs = ys))) ∧ Below w.heap.size w w' := by
  obtain ⟨pv, cv, hv⟩ := Rw.slice h1
  obtain ⟨pu, cu, hu⟩ := Rw.slice h2
  obtain ⟨M, hM⟩ : ∃ M, xs.length = M := ⟨_, rfl⟩
  obtain ⟨K, hK⟩ : ∃ K, ys.length = K := ⟨_, rfl⟩
  rw [hM] at hv
  rw [hK] at hu
  subst hv hu
  have H1 := Hd.mk h1
  have H2 := Hd.mk h2
  have HN := Hd.mk (And.intro hM hK)
  have hMb : M ≤ 1000000 := by omega
  have hKb : K ≤ 1000000 := by omega
  obtain ⟨R, hR⟩ : ∃ R, decide (xs = ys) = R := ⟨_, rfl⟩
  have HR := Hd.mk hR
  rw [hR]
  clear h1 h2 hM hK hR
  go_enter Try.func15, Try.ntmps15
  by_cases hMK : ¬ M = K
  · have g1 : decide ((M : Int) = (K : Int)) = false := decide_eq_false (by omega)
    have HE : Hd (false = R) := ⟨by rw [← HR.out]; exact (decide_eq_false fun e => hMK (by rw [← HN.out.1, ← HN.out.2, e])).symm⟩
    go_wp2
    go_ret
    exact ⟨ret_b HE.out, Below.refl _ _⟩
  replace hMK : M = K := Classical.byContradiction hMK
  subst hMK
  go_wp2
  go_loopw [5] (fun iv wr => ∃ k : Nat, k ≤ M ∧ iv = .int .i64 (k : Int) ∧ Hd (xs.take k = ys.take k) ∧ Hd (Below w.heap.size w wr)) (fun iv _ => M - (intOf iv).toNat)
  case atStart => exact ⟨0, Nat.zero_le _, rfl, ⟨rfl⟩, ⟨Below.refl _ _⟩⟩
  case round =>
    obtain ⟨k, hk, rfl, HD, HK⟩ := hrel
    by_cases hlt : k < M
    · have hd1 : decide ((k : Int) < (M : Int)) = true := decide_eq_true (by omega)
      have hmk : M - (intOf (.int .i64 ((k : Int) + 1))).toNat < M - (intOf (.int .i64 (k : Int))).toNat := by simp [intOf]; omega
      have hkx : k < xs.length := by rw [HN.out.1]; exact hlt
      have hky : k < ys.length := by rw [HN.out.2]; exact hlt
      obtain ⟨gv, ov, e1, hE1⟩ := RS.ever H1.out (by omega)
      obtain ⟨gu, ou, e2, hE2⟩ := RS.ever H2.out (by omega)
      subst e1 e2
      have cx := hE1 k hkx wr HK.out
      have cy := hE2 k hky wr HK.out
      have hst : xs[k] = ys[k] → xs.take (k + 1) = ys.take (k + 1) := fun e => by
        rw [List.take_add_one, List.take_add_one, HD.out, List.getElem?_eq_getElem hkx, List.getElem?_eq_getElem hky, e]
      have hne : xs[k] ≠ ys[k] → xs ≠ ys := fun h e => h (by subst e; rfl)
      obtain ⟨x, hx'⟩ : ∃ x, xs[k] = x := ⟨_, rfl⟩
      obtain ⟨y, hy'⟩ : ∃ y, ys[k] = y := ⟨_, rfl⟩
      rw [hx'] at cx hst hne
      rw [hy'] at cy hst hne
      have g0 := str_beq x y
      clear hx' hy' hkx hky hE1 hE2
      by_cases hxy : x = y
      · have HD2 := Hd.mk (hst hxy)
        rw [decide_eq_true hxy] at g0
        clear hst hne hxy
        go_upto_region 6 with (fail)
        go_quiet (fail)
        revert nq; intro q1
        have HK2 : Hd (Below w.heap.size w (wr.drewN q1)) := ⟨HK.out.trans ((Bel wr q1).mono HK.out.size)⟩
        go_wp2
        go_roundw
        case rel => exact ⟨k + 1, hlt, by go_num, HD2, HK2⟩
        case measure => exact hmk
      · have HE : Hd (false = R) := ⟨by rw [← HR.out]; exact (decide_eq_false (hne hxy)).symm⟩
        rw [decide_eq_false hxy] at g0
        clear hst hne hxy
        go_upto_region 6 with (fail)
        go_quiet (fail)
        revert nq; intro q1
        have HK2 : Hd (Below w.heap.size w (wr.drewN q1)) := ⟨HK.out.trans ((Bel wr q1).mono HK.out.size)⟩
        go_wp2
        go_ret
        exact ⟨ret_b HE.out, HK2.out⟩
    · have hd1 : decide ((k : Int) < (M : Int)) = false := decide_eq_false (by omega)
      have HE : Hd (true = R) := ⟨by
        rw [← HR.out]
        have := HD.out
        rw [List.take_of_length_le (by rw [HN.out.1]; omega), List.take_of_length_le (by rw [HN.out.2]; omega)] at this
        exact (decide_eq_true this).symm⟩
      go_wp2
      go_ret
      exact ⟨ret_b HE.out, HK.out⟩

end Go.Proofs.Ytmgkoocpnakanaa.W

/-
  The laws' small examples.
-/
namespace Go.Proofs.Ytmgkoocpnakanaa.W
open Go.RowKit
set_option linter.unusedVariables false

def sA : ByteArray := ⟨#[97]⟩
def sB : ByteArray := ⟨#[98]⟩
def sC : ByteArray := ⟨#[99]⟩
def sX : ByteArray := ⟨#[120]⟩
def fam : List Vdf := [⟨sB, [sA]⟩, ⟨sA, []⟩, ⟨sC, [sB]⟩]
def lup : List Vdf := [⟨sA, [sA]⟩]
def nul : List Vdf := [⟨⟨#[]⟩, []⟩]
theorem par_fam (s : ByteArray) : par fam s = if s = sB then [sA] else if s = sA then [] else if s = sC then [sB] else [] := by
  have e1 : ∀ a b : ByteArray, decide (a = b) = decide (b = a) := fun a b => by
    by_cases h : a = b
    · subst h; rfl
    · rw [decide_eq_false h, decide_eq_false (fun e => h e.symm)]
  unfold par firstI fam
  simp only [List.findIdx?_cons, List.findIdx?_nil]
  rw [e1 sB s, e1 sA s, e1 sC s]
  by_cases h1 : s = sB
  · simp [h1]
  · by_cases h2 : s = sA
    · have h1' : ¬ sA = sB := by subst h2; exact h1
      simp [h2, h1']
    · by_cases h3 : s = sC
      · have h1' : ¬ sC = sB := by subst h3; exact h1
        have h2' : ¬ sC = sA := by subst h3; exact h2
        simp [h3, h1', h2']
      · simp [h1, h2, h3]
theorem sAB : sA ≠ sB := by decide
theorem sAC : sA ≠ sC := by decide
theorem sBC : sB ≠ sC := by decide
theorem par_a : par fam sA = [] := by rw [par_fam, if_neg sAB, if_pos rfl]
theorem par_b : par fam sB = [sA] := by rw [par_fam, if_pos rfl]
theorem par_c : par fam sC = [sB] := by rw [par_fam, if_neg (fun e => sBC e.symm), if_neg (fun e => sAC e.symm), if_pos rfl]
/-- what is closed under parents holds all that is served -/
theorem srv_in {l : List Vdf} {S : List ByteArray} (hS : ∀ s p, s ∈ S → p ∈ par l s → p ∈ S) {a b : ByteArray} (h : Srv l a b) : a ∈ S → b ∈ S := by
  induction h with
  | refl => exact id
  | head hp _ ih => exact fun ha => ih (hS _ _ ha hp)
theorem srv_a {x : ByteArray} : Srv fam sA x ↔ x = sA :=
  ⟨fun h => by
    have := srv_in (S := [sA]) (fun s p hs hp => by simp at hs; subst hs; rw [par_a] at hp; cases hp) h (by simp)
    simpa using this, fun e => e ▸ .refl _⟩
theorem srv_c {x : ByteArray} : Srv fam sC x ↔ x = sC ∨ x = sB ∨ x = sA := by
  constructor
  · intro h
    have := srv_in (S := [sC, sB, sA]) (fun s p hs hp => by
      simp at hs
      rcases hs with rfl | rfl | rfl
      · rw [par_c] at hp; simp at hp; subst hp; simp
      · rw [par_b] at hp; simp at hp; subst hp; simp
      · rw [par_a] at hp; cases hp) h (by simp)
    simpa using this
  · have hb : Srv fam sC sB := .head (by rw [par_c]; simp) (.refl _)
    rintro (rfl | rfl | rfl)
    · exact .refl _
    · exact hb
    · exact hb.tail (by rw [par_b]; simp)
def rnk (s : ByteArray) : Nat := if s = sB then 1 else if s = sC then 2 else 0
theorem rnk_lt {s p : ByteArray} (h : p ∈ par fam s) : rnk p < rnk s := by
  rw [par_fam] at h
  split at h
  · next e => subst e; simp at h; subst h; decide
  · split at h
    · cases h
    · split at h
      · next e => subst e; simp at h; subst h; decide
      · cases h
theorem rnk_le {s x : ByteArray} (h : Srv fam s x) : rnk x ≤ rnk s := by
  induction h with
  | refl => exact Nat.le_refl _
  | head hp _ ih => have := rnk_lt hp; omega
theorem fam_right : VRight fam := by
  refine (vright_iff (by decide)).2 ⟨by decide, ?_, fun s p hp hs => ?_⟩
  · intro d hd
    simp only [fam, List.mem_cons, List.not_mem_nil, or_false] at hd
    rcases hd with rfl | rfl | rfl
    · exact ⟨by decide +kernel, by decide, by intro p hp; simp at hp; subst hp; decide +kernel⟩
    · exact ⟨by decide +kernel, by decide, by intro p hp; cases hp⟩
    · exact ⟨by decide +kernel, by decide, by intro p hp; simp at hp; subst hp; decide +kernel⟩
  · have h1 := rnk_lt hp
    have h2 := rnk_le hs
    omega
theorem lup_no : ¬ VRight lup := fun h => by
  have := h.noLoop (by decide)
  have e : par lup sA = [sA] := by decide +kernel
  exact this sA sA (by rw [e]; simp) (.refl _)
theorem nul_no : ¬ VRight nul := fun h => by
  have := (h.ok _ (List.mem_cons_self)).name
  revert this; decide +kernel
theorem fam_line : IsLine fam sC [sC, sA, sB] := ⟨[sA, sB], rfl, by unfold AscS; decide +kernel, fun x => by
  rw [srv_c]
  constructor
  · intro h
    simp at h
    rcases h with rfl | rfl
    · exact ⟨.inr (.inr rfl), sAC⟩
    · exact ⟨.inr (.inl rfl), sBC⟩
  · rintro ⟨h | h | h, hn⟩
    · exact absurd h hn
    · subst h; simp
    · subst h; simp⟩
theorem rdy_fam {out : List ByteArray} {y : ByteArray} (h : Rdy fam out y) : y = sA ∨ (y = sB ∧ sA ∈ out) ∨ (y = sC ∧ sB ∈ out) := by
  have hm := h.mem
  simp [names, fam] at hm
  rcases hm with rfl | rfl | rfl
  · exact .inr (.inl ⟨rfl, h.par _ (by rw [par_b]; simp)⟩)
  · exact .inl rfl
  · exact .inr (.inr ⟨rfl, h.par _ (by rw [par_c]; simp)⟩)
theorem names_fam : names fam = [sB, sA, sC] := rfl
theorem fam_ord : OrdS fam [] [sA, sB, sC] := by
  refine ⟨⟨by rw [names_fam]; simp, by simp, fun p hp => by rw [par_a] at hp; cases hp⟩, fun y hy => ?_, ⟨by rw [names_fam]; simp, by simpa using sAB.symm, fun p hp => by rw [par_b] at hp; simpa using hp⟩, fun y hy => ?_, ⟨by rw [names_fam]; simp, by simpa using ⟨sAC.symm, sBC.symm⟩, fun p hp => by rw [par_c] at hp; simp at hp; subst hp; simp⟩, fun y hy => ?_, fun s hs => ?_⟩
  · rcases rdy_fam hy with rfl | ⟨_, h⟩ | ⟨_, h⟩
    · decide +kernel
    · cases h
    · cases h
  · rcases rdy_fam hy with rfl | ⟨rfl, h⟩ | ⟨rfl, h⟩
    · exact absurd (by simp) hy.new
    · decide +kernel
    · simp at h; exact absurd h.symm sAB
  · rcases rdy_fam hy with rfl | ⟨rfl, h⟩ | ⟨rfl, h⟩
    · exact absurd (by simp) hy.new
    · exact absurd (by simp) hy.new
    · decide +kernel
  · simp [names, fam] at hs
    rcases hs with rfl | rfl | rfl <;> simp

end Go.Proofs.Ytmgkoocpnakanaa.W

/-
  The laws' small examples: the walk.
-/
namespace Go.Proofs.Ytmgkoocpnakanaa.W
open Go.RowKit
set_option linter.unusedVariables false

theorem fam_rw (w : World) : Rw 2 Vdf.E (((w.alloc (.cells #[.string ⟨#[97]⟩] 9)).alloc (.cells #[.string ⟨#[98]⟩] 9)).alloc (.cells #[.string ⟨#[98]⟩, .slice (some ⟨w.heap.size, 0, none⟩) 1 1, .string ⟨#[97]⟩, .slice none 0 0, .string ⟨#[99]⟩, .slice (some ⟨w.heap.size + 1, 0, none⟩) 1 1] 32))
    (.slice (some ⟨w.heap.size + 2, 0, none⟩) 3 3) fam := by
  have r1 : Rw 1 strE (w.alloc (.cells #[.string ⟨#[97]⟩] 9)) (.slice (some ⟨w.heap.size, 0, none⟩) 1 1) [sA] := Rw.strs (ks := [sA]) (Blk.new w 9 [.string ⟨#[97]⟩])
  have r2 : Rw 1 strE ((w.alloc (.cells #[.string ⟨#[97]⟩] 9)).alloc (.cells #[.string ⟨#[98]⟩] 9)) (.slice (some ⟨w.heap.size + 1, 0, none⟩) 1 1) [sB] := by
    have := Rw.strs (ks := [sB]) (cap := 1) (Blk.new (w.alloc (.cells #[.string ⟨#[97]⟩] 9)) 9 [.string ⟨#[98]⟩])
    rw [show (w.alloc (.cells #[.string ⟨#[97]⟩] 9)).heap.size = w.heap.size + 1 by simp] at this
    exact this
  have hb := Blk.new ((w.alloc (.cells #[.string ⟨#[97]⟩] 9)).alloc (.cells #[.string ⟨#[98]⟩] 9)) 32 [.string ⟨#[98]⟩, .slice (some ⟨w.heap.size, 0, none⟩) 1 1, .string ⟨#[97]⟩, .slice none 0 0, .string ⟨#[99]⟩, .slice (some ⟨w.heap.size + 1, 0, none⟩) 1 1]
  rw [show ((w.alloc (.cells #[.string ⟨#[97]⟩] 9)).alloc (.cells #[.string ⟨#[98]⟩] 9)).heap.size = w.heap.size + 2 by simp] at hb
  refine Rw.of_blk (xs := fam) (css := [[.string ⟨#[98]⟩, .slice (some ⟨w.heap.size, 0, none⟩) 1 1], [.string ⟨#[97]⟩, .slice none 0 0], [.string ⟨#[99]⟩, .slice (some ⟨w.heap.size + 1, 0, none⟩) 1 1]]) hb rfl rfl (fun cs h => ?_) (fun j x cs hx hc => ?_)
  · simp at h; rcases h with rfl | rfl | rfl <;> rfl
  · rcases j with _ | _ | _ | j
    · cases hx; cases hc
      exact ⟨_, rfl, ⟨Rw.below (Rw.below r1 strE_stays (below_alloc _ _)) strE_stays (below_alloc _ _)⟩⟩
    · cases hx; cases hc
      exact ⟨_, rfl, ⟨Rw.nil _⟩⟩
    · cases hx; cases hc
      exact ⟨_, rfl, ⟨Rw.below r2 strE_stays (below_alloc _ _)⟩⟩
    · simp [fam] at hx
theorem one_rw (w : World) (x : Vdf) (pv : Value) (h : Rw 1 strE w pv x.parents) : Rw 2 Vdf.E (w.alloc (.cells #[.string x.name, pv] 32)) (.slice (some ⟨w.heap.size, 0, none⟩) 1 1) [x] := by
  have hb := Blk.new w 32 [.string x.name, pv]
  refine Rw.of_blk (xs := [x]) (css := [[.string x.name, pv]]) hb rfl rfl (fun cs h => ?_) (fun j y cs hx hc => ?_)
  · simp at h; subst h; rfl
  · rcases j with _ | j
    · cases hx; cases hc
      exact ⟨pv, rfl, ⟨h.below strE_stays (below_alloc _ _)⟩⟩
    · simp at hx

set_option maxHeartbeats 4000000 in
set_option maxRecDepth 100000 in
theorem family_any (w : World) : Calls Try.prog 20 #[] w fun e w' => ∃ v, e = .returned v ∧ Rw 2 Vdf.E w' v fam ∧ Below w.heap.size w w' := by
  have HF := Hd.mk (fam_rw w)
  go_enter Try.func20, Try.ntmps20
  go_wp2
  go_ret
  exact ⟨_, rfl, HF.out, upv (upv (upv (Below.refl _ _) _) _) _⟩

theorem nul_ok : VOk nul := ⟨by decide, fun d hd => by simp [nul] at hd; subst hd; decide, fun d hd => by simp [nul] at hd; subst hd; exact ⟨by decide, fun p hp => by cases hp⟩⟩
theorem lup_ok : VOk lup := ⟨by decide, fun d hd => by simp [lup] at hd; subst hd; decide, fun d hd => by simp [lup] at hd; subst hd; exact ⟨by decide, fun p hp => by simp at hp; subst hp; decide⟩⟩
theorem fam_ok : VOk fam := by
  refine ⟨by decide, fun d hd => ?_, fun d hd => ?_⟩
  · simp only [fam, List.mem_cons, List.not_mem_nil, or_false] at hd
    rcases hd with rfl | rfl | rfl <;> decide
  · simp only [fam, List.mem_cons, List.not_mem_nil, or_false] at hd
    rcases hd with rfl | rfl | rfl
    · exact ⟨by decide, fun p hp => by simp at hp; subst hp; decide⟩
    · exact ⟨by decide, fun p hp => by cases hp⟩
    · exact ⟨by decide, fun p hp => by simp at hp; subst hp; decide⟩
theorem strs3 (w : World) (a b c : ByteArray) : Rw 1 strE (w.alloc (.cells #[.string a, .string b, .string c] 9)) (.slice (some ⟨w.heap.size, 0, none⟩) 3 3) [a, b, c] := Rw.strs (ks := [a, b, c]) (Blk.new w 9 [.string a, .string b, .string c])

theorem srvB_no {l : List Vdf} {a b : ByteArray} (h : ¬ Srv l a b) : srvB l a b = false := by
  rcases hr : srvB l a b with _ | _
  · rfl
  · exact absurd (srvB_iff.1 hr) h
theorem fam_ac : srvB fam ⟨#[97]⟩ ⟨#[99]⟩ = false := srvB_no fun h => absurd (srv_a.1 h) (fun e => sAC e.symm)
theorem fam_ca : srvB fam ⟨#[99]⟩ ⟨#[97]⟩ = true := srvB_iff.2 (srv_c.2 (.inr (.inr rfl)))

set_option maxHeartbeats 4000000 in
set_option maxRecDepth 100000 in
theorem small_any (w : World) : Calls Try.prog 9 #[] w fun e w' => e = .returned (.bool true) ∧ Below w.heap.size w w' := by
  have HFm := Hd.mk (family_any w)
  go_enter Try.func9, Try.ntmps9
  go_wp2_with fail
  refine HFm.out.mono ?_
  rintro e w1 ⟨v, rfl, hf, b1⟩
  have HF := Hd.mk (fun (w' : World) (hb : Below w1.heap.size w1 w') => Rw.below hf Vdf.stays hb)
  have HB1 := Hd.mk b1
  have HRt := Hd.mk (right_any w1 v fam (HF.out w1 (Below.refl _ _)) fam_ok)
  rw [rightV_iff.2 fam_right] at HRt
  clear hf b1 HFm
  go_wp2_with fail
  refine HRt.out.mono ?_
  rintro e w2 ⟨rfl, b2⟩
  have HB2 := Hd.mk b2
  have HS1 := Hd.mk (serves_any w2 v fam ⟨#[99]⟩ ⟨#[97]⟩ (HF.out w2 b2) fam_ok (by decide) (by decide))
  rw [fam_ca] at HS1
  clear b2 HRt
  go_wp2_with fail
  refine HS1.out.mono ?_
  rintro e w3 ⟨rfl, b3⟩
  have HB3 := Hd.mk (HB2.out.trans (b3.mono HB2.out.size))
  have HS2 := Hd.mk (serves_any w3 v fam ⟨#[97]⟩ ⟨#[99]⟩ (HF.out w3 HB3.out) fam_ok (by decide) (by decide))
  rw [fam_ac] at HS2
  clear b3 HS1 HB2
  go_wp2_with fail
  refine HS2.out.mono ?_
  rintro e w4 ⟨rfl, b4⟩
  have HB4 := Hd.mk (HB3.out.trans (b4.mono HB3.out.size))
  have HS3 := Hd.mk (serves_any w4 (.slice none 0 0) [] ⟨#[120]⟩ ⟨#[120]⟩ (Rw.nil _) ⟨by decide, fun d hd => by (cases hd), fun d hd => by (cases hd)⟩ (by decide) (by decide))
  rw [srvB_iff.2 (Srv.refl _)] at HS3
  clear b4 HS2 HB3
  go_wp2_with fail
  refine HS3.out.mono ?_
  rintro e w5 ⟨rfl, b5⟩
  have HB5 := Hd.mk (HB4.out.trans (b5.mono HB4.out.size))
  have HLn := Hd.mk (line_any w5 v fam ⟨#[99]⟩ (HF.out w5 HB5.out) fam_ok (by decide))
  clear b5 HS3 HB4
  go_wp2_with fail
  refine HLn.out.mono ?_
  rintro e w6 ⟨v6, n6, xs, rfl, ho6, hn6, hi6, b6⟩
  have hxs : xs = [sC, sA, sB] := hi6.eq fam_line
  subst hxs
  have HB6 := Hd.mk (HB5.out.trans (b6.mono HB5.out.size))
  have HSm := Hd.mk (sames_any (w6.alloc (.cells #[.string ⟨#[99]⟩, .string ⟨#[97]⟩, .string ⟨#[98]⟩] 9)) v6 (.slice (some ⟨w6.heap.size, 0, none⟩) 3 3) [sC, sA, sB] [sC, sA, sB] (by decide) (by decide) ((rw_strs ho6).below strE_stays (below_alloc _ _)) (strs3 w6 sC sA sB))
  rw [decide_eq_true (show ([sC, sA, sB] : List ByteArray) = [sC, sA, sB] from rfl)] at HSm
  clear ho6 hn6 hi6 b6 HLn HB5
  go_wp2_with fail
  refine HSm.out.mono ?_
  rintro e w7 ⟨rfl, b7⟩
  have HB7 : Hd (Below w1.heap.size w1 w7) := ⟨(upv HB6.out _).trans (b7.mono (upv HB6.out _).size)⟩
  have HOr := Hd.mk (order_any w7 v fam (HF.out w7 HB7.out) fam_ok)
  clear b7 HSm HB6
  go_wp2_with fail
  refine HOr.out.mono ?_
  rintro e w8 ⟨v8, n8, xs, rfl, ho8, hn8, hi8, b8⟩
  have hxs : xs = [sA, sB, sC] := (hi8.yes fam_right).uniq fam_ord
  subst hxs
  have HB8 := Hd.mk (HB7.out.trans (b8.mono HB7.out.size))
  have HSm := Hd.mk (sames_any (w8.alloc (.cells #[.string ⟨#[97]⟩, .string ⟨#[98]⟩, .string ⟨#[99]⟩] 9)) v8 (.slice (some ⟨w8.heap.size, 0, none⟩) 3 3) [sA, sB, sC] [sA, sB, sC] (by decide) (by decide) ((rw_strs ho8).below strE_stays (below_alloc _ _)) (strs3 w8 sA sB sC))
  rw [decide_eq_true (show ([sA, sB, sC] : List ByteArray) = [sA, sB, sC] from rfl)] at HSm
  clear ho8 hn8 hi8 b8 HOr HB7
  go_wp2_with fail
  refine HSm.out.mono ?_
  rintro e w9 ⟨rfl, b9⟩
  have HB9 : Hd (Below w1.heap.size w1 w9) := ⟨(upv HB8.out _).trans (b9.mono (upv HB8.out _).size)⟩
  have hlr : Rw 2 Vdf.E ((w9.alloc (.cells #[.string ⟨#[97]⟩] 9)).alloc (.cells #[.string ⟨#[97]⟩, .slice (some ⟨w9.heap.size, 0, none⟩) 1 1] 32)) (.slice (some ⟨w9.heap.size + 1, 0, none⟩) 1 1) lup := by
    have := one_rw (w9.alloc (.cells #[.string ⟨#[97]⟩] 9)) ⟨sA, [sA]⟩ (.slice (some ⟨w9.heap.size, 0, none⟩) 1 1) (Rw.strs (ks := [sA]) (Blk.new w9 9 [.string ⟨#[97]⟩]))
    rw [show (w9.alloc (.cells #[.string ⟨#[97]⟩] 9)).heap.size = w9.heap.size + 1 by simp] at this
    exact this
  have HRt := Hd.mk (right_any _ _ lup hlr lup_ok)
  rw [rightV_no lup_no] at HRt
  clear b9 HSm HB8 hlr
  go_wp2_with fail
  refine HRt.out.mono ?_
  rintro e w10 ⟨rfl, b10⟩
  have HB10 : Hd (Below w1.heap.size w1 w10) := ⟨(upv (upv HB9.out _) _).trans (b10.mono (upv (upv HB9.out _) _).size)⟩
  have HOr := Hd.mk (order_any _ _ nul (one_rw w10 ⟨⟨#[]⟩, []⟩ (.slice none 0 0) (Rw.nil _)) nul_ok)
  clear b10 HRt HB9
  go_wp2_with fail
  refine HOr.out.mono ?_
  rintro e w11 ⟨v11, n11, xs, rfl, ho11, hn11, hi11, b11⟩
  have hxs : xs = [] := hi11.no nul_no
  subst hxs
  have hn0 : n11 = 0 := by have := ho11.1; rw [strs_len] at this; simp at this; omega
  obtain ⟨p11, c11, e11⟩ := (rw_strs ho11).slice
  subst e11
  have HB11 : Hd (Below w.heap.size w w11) := ⟨HB1.out.trans (((upv HB10.out _).trans (b11.mono (upv HB10.out _).size)).mono HB1.out.size)⟩
  clear ho11 hn11 hi11 b11 HOr HB10 hn0
  go_wp2
  go_ret
  exact ⟨rfl, HB11.out⟩

end Go.Proofs.Ytmgkoocpnakanaa.W
