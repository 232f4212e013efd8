/-
  The law VersionLine: the line of a string begins with it, continues in ascending order, and consists of what it serves.
-/
import Derived.Test.YtmgkoocpnakanaaVk
import Derived.Test.YtmgkoocpnakanaaVd
import Derived.Test.YtmgkoocpnakanaaAppF
import Derived.Laws.Cover1
namespace Go.Proofs.Ytmgkoocpnakanaa.W
open Go.RowKit
set_option linter.unusedVariables false

theorem IsLine.mem {l : List Vdf} {s : ByteArray} {xs : List ByteArray} (h : IsLine l s xs) (x : ByteArray) : x ∈ xs ↔ Srv l s x := by
  obtain ⟨r, rfl, _, h2⟩ := h.is
  rw [List.mem_cons, h2]
  constructor
  · rintro (rfl | ⟨h, _⟩)
    · exact .refl _
    · exact h
  · intro h
    by_cases e : x = s
    · exact .inl e
    · exact .inr ⟨h, e⟩
theorem IsLine.pos {l : List Vdf} {s : ByteArray} {xs : List ByteArray} (h : IsLine l s xs) : ∃ h0 : 0 < xs.length, xs[0] = s := by
  obtain ⟨r, rfl, _, _⟩ := h.is
  exact ⟨by simp, rfl⟩
theorem IsLine.ne {l : List Vdf} {s : ByteArray} {xs : List ByteArray} (h : IsLine l s xs) {i : Nat} (hi : i < xs.length) (h0 : 0 < i) : xs[i] ≠ s := by
  obtain ⟨r, rfl, _, h2⟩ := h.is
  obtain ⟨j, rfl⟩ : ∃ j, i = j + 1 := ⟨i - 1, by omega⟩
  exact ((h2 _).1 (List.getElem_mem (by simpa using hi))).2
theorem IsLine.asc {l : List Vdf} {s : ByteArray} {xs : List ByteArray} (h : IsLine l s xs) {j : Nat} (hj : j + 2 < xs.length) : ltS (xs[j + 1]'(by omega)) xs[j + 2] = true := by
  obtain ⟨r, rfl, h1, _⟩ := h.is
  exact List.pairwise_iff_getElem.1 h1 j (j + 1) (by simp at hj; omega) (by simp at hj ⊢; omega) (by omega)
theorem srv_size {l : List Vdf} {s x : ByteArray} (hO : VOk l) (hs : s.size ≤ 100) (h : Srv l s x) : x.size ≤ 100 := by
  induction h with
  | refl => exact hs
  | head hp _ ih =>
    obtain ⟨_, d, hd, _, hpd⟩ := par_mem hp
    exact ih ((hO.par d hd).2 _ hpd)
theorem take_memS {l : List ByteArray} {k : Nat} (hk : k < l.length) {d : ByteArray} : d ∈ l.take (k + 1) ↔ d ∈ l.take k ∨ d = l[k] := by
  rw [List.take_add_one, List.getElem?_eq_getElem hk]
  show d ∈ l.take k ++ [l[k]] ↔ _
  rw [List.mem_append, List.mem_singleton]

set_option maxHeartbeats 4000000 in
set_option maxRecDepth 100000 in
theorem lineL_any (w : World) (v : Value) (l : List Vdf) (s : ByteArray) (h : ArgVdfs w v l) (hs : s.size ≤ 140737488351232) :
    Calls Try.prog 6 #[v, .string s] w fun e w' => e = .returned (.bool true) ∧ Below w.heap.size w w' := by
  have H := Hd.mk (fun (w' : World) (hb : Below w.heap.size w w') => Rw.below h.row Vdf.stays hb)
  have HSm := Hd.mk (small_any w)
  obtain ⟨p, q, hv⟩ := h.row.slice
  subst hv
  have HRow := Hd.mk h.row
  obtain ⟨M, hM⟩ : ∃ M, l.length = M := ⟨_, rfl⟩
  rw [hM] at H HRow ⊢
  have HM := Hd.mk hM
  have HKL := Hd.mk (fun w5 (hb : Below w.heap.size w w5) (hok : VOk l) (hz : s.size ≤ 100) => line_any w5 (.slice p M q) l s (H.out w5 hb) hok hz)
  clear h hM
  go_enter Try.func6, Try.ntmps6
  go_wp2_with fail
  refine HSm.out.mono ?_
  rintro e w1 ⟨rfl, b1⟩
  have HB1 := Hd.mk b1
  have HFw := Hd.mk (few_any w1 (.slice p M q) l (H.out w1 b1))
  obtain ⟨f, hf⟩ : ∃ f, fewV l = f := ⟨_, rfl⟩
  have HF := Hd.mk hf
  rw [hf] at HFw
  clear b1 HSm hf
  go_wp2_with fail
  refine HFw.out.mono ?_
  rintro e w2 ⟨rfl, rfl⟩
  clear HFw
  cases f with
  | false =>
    go_wp2
    go_ret
    exact ⟨rfl, HB1.out⟩
  | true =>
    have HOk := Hd.mk (fewV_iff.1 HF.out)
    by_cases h1 : 100 < s.size
    · have g1 : decide ((100 : Int) < (s.size : Int)) = true := decide_eq_true (by omega)
      go_wp2
      go_ret
      exact ⟨rfl, HB1.out⟩
    have g1 : decide ((100 : Int) < (s.size : Int)) = false := decide_eq_false (by omega)
    have HOc := Hd.mk (HKL.out w1 HB1.out HOk.out (by omega))
    clear HKL HF
    go_wp2_with fail
    refine HOc.out.mono ?_
    rintro e w3 ⟨v', n, xs, rfl, ho, hn, hio, b3⟩
    have hlen : xs.length = n := by have := ho.1; rw [strs_len] at this; omega
    have hrw := rw_strs ho
    obtain ⟨px, cx, ex⟩ := hrw.slice
    rw [hlen] at ex
    subst ex
    obtain ⟨hp0, hx0⟩ := hio.pos
    obtain ⟨g, o, e2, hE⟩ := RS.ever hrw hp0
    subst e2
    have c0 := hE 0 hp0 w3 (Below.refl _ _)
    rw [hx0] at c0
    have c0' := c0
    rw [Nat.add_zero] at c0
    have HE := Hd.mk hE
    have HIo := Hd.mk hio
    have HLn := Hd.mk hlen
    have HB3 := Hd.mk (HB1.out.trans (b3.mono HB1.out.size))
    have hM12 : M ≤ 12 := by have := HOk.out.len; rw [HM.out] at this; exact this
    have HSv : Hd (∀ (w' : World) (t : ByteArray), t.size ≤ 100 → Below w3.heap.size w3 w' → Calls Try.prog 13 #[.slice p M q, .string s, .string t] w' fun e w'' => e = .returned (.bool (srvB l s t)) ∧ Below w'.heap.size w' w'') := ⟨fun w' t ht hb => serves_any w' (.slice p M q) l _ _ (H.out w' (HB3.out.trans (hb.mono HB3.out.size))) HOk.out (by omega) ht⟩
    have hn0 : 0 < n := by omega
    have g2 : decide ((0 : Int) < (n : Int)) = true := decide_eq_true (by omega)
    have g3 : ((n : Int) == 0) = false := by simp; omega
    have g0 : (s.toList == s.toList) = true := by rw [str_beq]; simp
    clear ho hio b3 hlen hrw hE hp0 hx0 HOc HB1
    go_wp2
    clear g0 g3 c0 c0'
    go_loopw [7] (fun iv wr => ∃ i : Nat, 1 ≤ i ∧ i ≤ n ∧ iv = .int .i64 (i : Int) ∧ Hd (Below w3.heap.size w3 wr)) (fun iv _ => n - (intOf iv).toNat)
    case atStart => exact ⟨1, Nat.le_refl _, hn0, rfl, ⟨Below.refl _ _⟩⟩
    case round =>
      obtain ⟨i, hi1, hi, rfl, HB⟩ := hrel
      by_cases hlt : i < n
      · have hd1 : decide ((i : Int) < (n : Int)) = true := decide_eq_true (by omega)
        have hmi : n - (intOf (.int .i64 ((i : Int) + 1))).toNat < n - (intOf (.int .i64 (i : Int))).toNat := by simp [intOf]; omega
        have hix : i < xs.length := by rw [HLn.out]; exact hlt
        have hxs := (HIo.out.mem _).1 (List.getElem_mem hix)
        have hxz := srv_size HOk.out (by omega) hxs
        have hxn := HIo.out.ne hix (by omega)
        have HK2 : Hd (Below w3.heap.size w3 wr.drew) := ⟨HB.out.trans ((Bel wr 1).mono HB.out.size)⟩
        have HS := HSv.out wr.drew xs[i] hxz HK2.out
        rw [srvB_iff.2 hxs] at HS
        have HC : Hd (∀ w', Below w3.heap.size w3 w' → w'.cell? ⟨g, o + i, none⟩ = some (.string xs[i])) := ⟨fun w' hb => HE.out i hix w' hb⟩
        have HAs : Hd (∀ m (hm : m + 1 = i), 1 ≤ m → ltS (xs[m]'(by omega)) xs[i] = true) := ⟨fun m hm h1 => by
          obtain ⟨j, rfl⟩ : ∃ j, m = j + 1 := ⟨m - 1, by omega⟩
          subst hm
          exact HIo.out.asc hix⟩
        obtain ⟨X, hX⟩ : ∃ X, xs[i] = X := ⟨_, rfl⟩
        rw [hX] at HS HC hxn HAs
        have g0 := str_beq X s
        rw [decide_eq_false hxn] at g0
        have HS := Hd.mk HS
        have b1 : (i : Int) < (n : Int) := by omega
        clear hxs hxz hxn hX HB
        by_cases h2 : i = 1
        · subst h2
          clear HAs
          have g5 : decide ((1 : Int) < ((1 : Nat) : Int)) = false := by decide
          go_upto_region 10 with (fail)
          refine wp_region_lin default (fun w' => w'.cell? ⟨g, o + 1, none⟩ = some (.string X)) [(0, true), (1, true), (2, true), (3, true), (4, true), (5, true), (6, true), (7, true), (8, true), (9, true), (10, true), (11, true), (12, true), (13, true), (14, true), (15, true), (16, true), (17, true), (18, true), (19, true), (20, true), (21, true), (22, true), (23, true), (24, true), (25, true), (26, true), (27, true), (28, true), (29, false), (30, true), (31, true)] (by kernel_rfl) (by kernel_rfl) rfl (by kernel_rfl) (by kernel_rfl) (HC.out _ HK2.out) ?_
          simp only [pick, List.getD_cons_zero, List.getD_cons_succ]
          repeat
            first
            | (refine lin_free (v := ?_) (by rfl) ?_ ?_
               rotate_left
               · intro w' hSw
                 have d0 := hSw
                 go_simp
                 first | done | with_reducible rfl
               try simp only [Act.put, List.setIfInBounds_toArray, List.set_cons_zero, List.set_cons_succ])
            | (refine lin_skip (by rfl) ?_
               try simp only [Act.put, List.setIfInBounds_toArray, List.set_cons_zero, List.set_cons_succ])
          refine lin_bound (fun K hK => ?_)
          go_simp
          refine HS.out.mono ?_
          rintro e w5 ⟨rfl, b5⟩
          dsimp only
          have HK5 : Hd (Below w3.heap.size w3 w5) := ⟨HK2.out.trans (b5.mono HK2.out.size)⟩
          clear b5 HS
          refine hK.out _ _ (HC.out _ HK5.out) ?_
          clear hK K HK2
          repeat
            first
            | (refine lin_free (v := ?_) (by rfl) ?_ ?_
               rotate_left
               · intro w' hSw
                 have d0 := hSw
                 go_simp
                 first | done | with_reducible rfl
               try simp only [Act.put, List.setIfInBounds_toArray, List.set_cons_zero, List.set_cons_succ])
            | (refine lin_skip (by rfl) ?_
               try simp only [Act.put, List.setIfInBounds_toArray, List.set_cons_zero, List.set_cons_succ])
          refine NoPanic.normal ?_
          go_wp2
          exact ⟨⟨2, by omega, hlt, by go_num, HK5⟩, hmi⟩
        · obtain ⟨m, hm⟩ : ∃ m, m + 1 = i := ⟨i - 1, by omega⟩
          have hmx : m < xs.length := by rw [HLn.out]; omega
          have S0 : Hd (∀ w', Below w3.heap.size w3 w' → w'.cell? ⟨g, o + i, none⟩ = some (.string X) ∧ w'.cell? ⟨g, o + m, none⟩ = some (.string xs[m])) := ⟨fun w' hb => ⟨HC.out w' hb, HE.out m hmx w' hb⟩⟩
          have hAs := HAs.out m hm (by omega)
          obtain ⟨Z, hZ⟩ : ∃ Z, xs[m] = Z := ⟨_, rfl⟩
          rw [hZ] at S0 hAs
          have g4 := str_lt Z X
          rw [hAs] at g4
          have b2 : (i : Int) < (n : Int) := by omega
          have b4 : (m : Int) < (n : Int) := by omega
          have g5 : decide ((1 : Int) < (i : Int)) = true := decide_eq_true (by omega)
          have n5 : 1 < i := by omega
          have hwj : IntKind.i64.wrap ((i : Int) - 1) = (m : Int) := (IntWalk.i64_in _ (by omega)).trans (by omega)
          clear hAs hZ HAs h2 hm
          go_upto_region 10 with (fail)
          refine wp_region_lin default (fun w' => w'.cell? ⟨g, o + i, none⟩ = some (.string X) ∧ w'.cell? ⟨g, o + m, none⟩ = some (.string Z)) [(0, true), (1, true), (2, true), (3, true), (4, true), (5, true), (6, true), (7, true), (8, true), (9, true), (10, true), (11, true), (12, true), (13, true), (14, true), (15, true), (16, true), (17, true), (18, true), (19, true), (20, true), (21, true), (22, true), (23, true), (24, true), (25, true), (26, true), (27, true), (28, true), (29, false), (30, true), (31, true)] (by kernel_rfl) (by kernel_rfl) rfl (by kernel_rfl) (by kernel_rfl) (S0.out _ HK2.out) ?_
          simp only [pick, List.getD_cons_zero, List.getD_cons_succ]
          repeat
            first
            | (refine lin_free (v := ?_) (by rfl) ?_ ?_
               rotate_left
               · intro w' hSw
                 obtain ⟨d0, d1⟩ := hSw
                 go_simp
                 first | done | with_reducible rfl
               try simp only [Act.put, List.setIfInBounds_toArray, List.set_cons_zero, List.set_cons_succ])
            | (refine lin_skip (by rfl) ?_
               try simp only [Act.put, List.setIfInBounds_toArray, List.set_cons_zero, List.set_cons_succ])
          refine lin_bound (fun K hK => ?_)
          go_simp
          refine HS.out.mono ?_
          rintro e w5 ⟨rfl, b5⟩
          dsimp only
          have HK5 : Hd (Below w3.heap.size w3 w5) := ⟨HK2.out.trans (b5.mono HK2.out.size)⟩
          clear b5 HS
          refine hK.out _ _ (S0.out _ HK5.out) ?_
          clear hK K HK2
          repeat
            first
            | (refine lin_free (v := ?_) (by rfl) ?_ ?_
               rotate_left
               · intro w' hSw
                 obtain ⟨d0, d1⟩ := hSw
                 go_simp
                 first | done | with_reducible rfl
               try simp only [Act.put, List.setIfInBounds_toArray, List.set_cons_zero, List.set_cons_succ])
            | (refine lin_skip (by rfl) ?_
               try simp only [Act.put, List.setIfInBounds_toArray, List.set_cons_zero, List.set_cons_succ])
          refine NoPanic.normal ?_
          go_wp2
          exact ⟨⟨i + 1, by omega, hlt, by go_num, HK5⟩, hmi⟩
      · have hd1 : decide ((i : Int) < (n : Int)) = false := decide_eq_false (by omega)
        go_wp2
        go_loopw [8] (fun iv wr => ∃ i : Nat, i ≤ M ∧ iv = .int .i64 (i : Int) ∧ Hd (Below w3.heap.size w3 wr)) (fun iv _ => M - (intOf iv).toNat)
        case atStart => exact ⟨0, Nat.zero_le _, rfl, HB⟩
        case round =>
          clear HB hd1 hi hi1 hlt
          obtain ⟨i, hi, rfl, HB⟩ := hrel
          by_cases hlt : i < M
          · have hd1 : decide ((i : Int) < (M : Int)) = true := decide_eq_true (by omega)
            have hmi : M - (intOf (.int .i64 ((i : Int) + 1))).toNat < M - (intOf (.int .i64 (i : Int))).toNat := by simp [intOf]; omega
            have hiq : i < l.length := by rw [HM.out]; exact hlt
            have HBw := HB3.out.trans (HB.out.mono HB3.out.size)
            obtain ⟨gl, of, cs, hpe, hg, hcl, ⟨pv, rfl, hAt⟩, hcc⟩ := HRow.out.at rfl (j := i) hiq
            subst hpe
            have hpb := HOk.out.par _ (List.getElem_mem hiq)
            have hnb := HOk.out.name _ (List.getElem_mem hiq)
            have hAp := hAt.parents
            obtain ⟨dd, hdd⟩ : ∃ dd, l[i] = dd := ⟨_, rfl⟩
            rw [hdd] at hpb hnb hAp hcc
            obtain ⟨P, hP⟩ : ∃ P, dd.parents = P := ⟨_, rfl⟩
            rw [hP] at hAp hpb
            obtain ⟨pp, pc, hpv⟩ := hAp.slice
            obtain ⟨PN, hPN⟩ : ∃ PN, P.length = PN := ⟨_, rfl⟩
            rw [hPN] at hpv
            subst hpv
            obtain ⟨X, hX⟩ : ∃ X, dd.name = X := ⟨_, rfl⟩
            rw [hX] at hnb
            have HK2 : Hd (Below w3.heap.size w3 wr.drew) := ⟨HB.out.trans ((Bel wr 1).mono HB.out.size)⟩
            have HCl : Hd (∀ w', Below w3.heap.size w3 w' → w'.cell? ⟨gl, of + i * 2, none⟩ = some (.string X) ∧ w'.cell? ⟨gl, of + i * 2 + 1, none⟩ = some (.slice pp PN pc)) := ⟨fun w' hb => by
              have hb2 := HB3.out.trans (hb.mono HB3.out.size)
              exact ⟨by rw [hb2.cell (p := ⟨gl, of + i * 2, none⟩) hg, ← hX]; exact hcc 0 _ rfl, by rw [hb2.cell (p := ⟨gl, of + i * 2 + 1, none⟩) hg]; exact hcc 1 _ rfl⟩⟩
            have hlit : (wr.drew.alloc (.cells #[.string X] 9)).ownsRow w3.heap.size 9 1 (.slice (some ⟨wr.drew.heap.size, 0, none⟩) 1 1) 1 (strs [X]) := World.ownsRow_lit wr.drew #[.string X] 1 HK2.out.size (by unfold maxLen; omega) rfl
            have HKa := upv HK2.out (.cells #[.string X] 9)
            have hrp := hAp.below strE_stays (HB3.out.trans (HKa.mono HB3.out.size))
            obtain ⟨va, wa, hrun, hown, hbel, _⟩ := str_app hlit hrp (by omega) HKa.size
            rw [show (wr.drew).heap.size = wr.heap.size from rfl] at hrun
            have HRun := Hd.mk hrun
            have HKb := Hd.mk (HKa.trans hbel)
            obtain ⟨NA, hNA⟩ : ∃ NA, PN + 1 = NA := ⟨_, rfl⟩
            have hal : (X :: P).length = NA := by simp [hPN]; exact hNA
            have hra := rw_strs hown
            obtain ⟨pa, ca, ea⟩ := hra.slice
            rw [show ([X] ++ P).length = NA from hal] at ea
            subst ea
            have HAz : Hd (∀ t, t ∈ X :: P → t.size ≤ 100) := ⟨fun t ht => by
              rcases List.mem_cons.1 ht with rfl | ht
              · exact hnb
              · exact hpb.2 t ht⟩
            obtain ⟨A, hA⟩ : ∃ A, X :: P = A := ⟨_, rfl⟩
            have hra2 : Rw 1 strE wa (.slice pa NA ca) A := by rw [← hA]; exact hra
            rw [hA] at HAz hal
            have HRa := Hd.mk hra2
            have HAl := Hd.mk hal
            have HKa := Hd.mk HKa
            have hPN6 : NA ≤ 7 := by have := hpb.1; omega
            clear hNA hiq HBw hg hcc hcl hAt hpb hnb hAp hdd hP hPN hX hlit hrp hrun hown hbel hal hra hA hra2 HB
            go_upto_region 15 with (fail)
            refine wp_region_lin default (fun w' => w'.cell? ⟨gl, of + i * 2, none⟩ = some (.string X) ∧ w'.cell? ⟨gl, of + i * 2 + 1, none⟩ = some (.slice pp PN pc)) [(0, true), (1, true), (2, true), (3, true), (4, true), (6, true), (7, true), (8, true), (9, true), (10, true), (5, false), (11, false), (12, true)] (by kernel_rfl) (by kernel_rfl) rfl (by kernel_rfl) (by kernel_rfl) (HCl.out _ HK2.out) ?_
            simp only [pick, List.getD_cons_zero, List.getD_cons_succ]
            repeat
              first
              | (refine lin_free (v := ?_) (by rfl) ?_ ?_
                 rotate_left
                 · intro w' hSw
                   obtain ⟨d0, d1⟩ := hSw
                   go_simp
                   first | done | with_reducible rfl
                 try simp only [Act.put, List.setIfInBounds_toArray, List.set_cons_zero, List.set_cons_succ])
              | (refine lin_skip (by rfl) ?_
                 try simp only [Act.put, List.setIfInBounds_toArray, List.set_cons_zero, List.set_cons_succ])
            refine lin_bound (fun K hK => ?_)
            go_simp
            refine hK.out _ _ (HCl.out _ HKa.out) ?_
            clear hK K
            try simp only [Act.put, List.setIfInBounds_toArray, List.set_cons_zero, List.set_cons_succ]
            refine lin_bound (fun K hK => ?_)
            rw [if_pos (by rfl)]
            refine oper_append (Operand.tmp 85) (Operand.tmp 90) 27 rfl _ _ rfl rfl HRun.out ?_
            simp only [Act.put, List.setIfInBounds_toArray, List.set_cons_zero, List.set_cons_succ]
            refine hK.out _ _ (HCl.out _ HKb.out) ?_
            clear hK K
            repeat
              first
              | (refine lin_free (v := ?_) (by rfl) ?_ ?_
                 rotate_left
                 · intro w' hSw
                   obtain ⟨d0, d1⟩ := hSw
                   go_simp
                   first | done | with_reducible rfl
                 try simp only [Act.put, List.setIfInBounds_toArray, List.set_cons_zero, List.set_cons_succ])
              | (refine lin_skip (by rfl) ?_
                 try simp only [Act.put, List.setIfInBounds_toArray, List.set_cons_zero, List.set_cons_succ])
            refine NoPanic.normal ?_
            clear HRun HKa HK2 HCl
            go_wp2
            go_loopw [10] (fun iv wr => ∃ k : Nat, k ≤ NA ∧ iv = .int .i64 (k : Int) ∧ Hd (Below wa.heap.size wa wr)) (fun iv _ => NA - (intOf iv).toNat)
            case atStart => exact ⟨0, Nat.zero_le _, rfl, ⟨Below.refl _ _⟩⟩
            case round =>
              obtain ⟨k, hk, rfl, HB⟩ := hrel
              by_cases hkt : k < NA
              · have hd2 : decide ((k : Int) < (NA : Int)) = true := decide_eq_true (by omega)
                have hmk : NA - (intOf (.int .i64 ((k : Int) + 1))).toNat < NA - (intOf (.int .i64 (k : Int))).toNat := by simp [intOf]; omega
                have hkA : k < A.length := by rw [HAl.out]; exact hkt
                obtain ⟨ga, oa, e3, hEa⟩ := RS.ever HRa.out (by omega)
                subst e3
                have HCa : Hd (∀ w', Below wa.heap.size wa w' → w'.cell? ⟨ga, oa + k, none⟩ = some (.string A[k])) := ⟨fun w' hb => hEa k hkA w' hb⟩
                have hTz := HAz.out _ (List.getElem_mem hkA)
                have HSt : Hd (∀ w', Below wa.heap.size wa w' → Calls Try.prog 13 #[.slice (some ⟨gl, of, none⟩) M q, .string s, .string A[k]] w' fun e w'' => e = .returned (.bool (srvB l s A[k])) ∧ Below w'.heap.size w' w'') := ⟨fun w' hb => HSv.out w' _ hTz (HKb.out.trans (hb.mono HKb.out.size))⟩
                obtain ⟨T, hT⟩ : ∃ T, A[k] = T := ⟨_, rfl⟩
                rw [hT] at HCa HSt
                have HF0 : Hd (false = true ↔ T ∈ xs.take 0) := ⟨by simp⟩
                clear hkA hEa hTz hT
                go_wp2
                go_loopw [12, 11] (fun iv bv wr => ∃ (m : Nat) (b : Bool), m ≤ n ∧ iv = .int .i64 (m : Int) ∧ bv = .bool b ∧ Hd (b = true ↔ T ∈ xs.take m) ∧ Hd (Below wa.heap.size wa wr)) (fun iv _ _ => n - (intOf iv).toNat)
                case atStart => exact ⟨0, false, Nat.zero_le _, rfl, rfl, HF0, HB⟩
                case round =>
                  clear HF0 HB
                  obtain ⟨m, b, hm, rfl, rfl, HW, HB⟩ := hrel
                  by_cases hmt : m < n
                  · have hd4 : decide ((m : Int) < (n : Int)) = true := decide_eq_true (by omega)
                    have hmm : n - (intOf (.int .i64 ((m : Int) + 1))).toNat < n - (intOf (.int .i64 (m : Int))).toNat := by simp [intOf]; omega
                    have hmx : m < xs.length := by rw [HLn.out]; exact hmt
                    have HK2 : Hd (Below wa.heap.size wa wr.drew) := ⟨HB.out.trans ((Bel wr 1).mono HB.out.size)⟩
                    have c0 := HE.out m hmx wr.drew (HKb.out.trans (HK2.out.mono HKb.out.size))
                    have c1 := HCa.out wr.drew HK2.out
                    have htm := take_memS hmx (d := T)
                    obtain ⟨Y, hY⟩ : ∃ Y, xs[m] = Y := ⟨_, rfl⟩
                    rw [hY] at c0 htm
                    have HTm := Hd.mk htm
                    clear hmx htm hY HB
                    cases b with
                    | true =>
                      have HW2 : Hd (true = true ↔ T ∈ xs.take (m + 1)) := ⟨⟨fun _ => HTm.out.2 (.inl (HW.out.1 rfl)), fun _ => rfl⟩⟩
                      clear HW HTm
                      go_upto_region 23 with (fail)
                      refine wp_region_lin default (fun w' => w'.cell? ⟨g, o + m, none⟩ = some (.string Y) ∧ w'.cell? ⟨ga, oa + k, none⟩ = some (.string T)) [(0, true), (1, true), (2, true), (3, true), (4, true), (5, true), (6, true), (7, true), (8, true), (9, true), (10, true), (11, true), (12, true)] (by kernel_rfl) (by kernel_rfl) rfl (by kernel_rfl) (by kernel_rfl) ⟨c0, c1⟩ ?_
                      simp only [pick, List.getD_cons_zero, List.getD_cons_succ]
                      repeat
                        first
                        | (refine lin_free (v := ?_) (by rfl) ?_ ?_
                           rotate_left
                           · intro w' hSw
                             obtain ⟨d0, d1⟩ := hSw
                             go_simp
                             first | done | with_reducible rfl
                           try simp only [Act.put, List.setIfInBounds_toArray, List.set_cons_zero, List.set_cons_succ])
                        | (refine lin_skip (by rfl) ?_
                           try simp only [Act.put, List.setIfInBounds_toArray, List.set_cons_zero, List.set_cons_succ])
                      refine NoPanic.normal ?_
                      go_wp2
                      exact ⟨⟨m + 1, true, hmt, by go_num, rfl, HW2, HK2⟩, hmm⟩
                    | false =>
                      have g0 := str_beq Y T
                      by_cases hYT : Y = T
                      · rw [decide_eq_true hYT] at g0
                        have HW2 : Hd (true = true ↔ T ∈ xs.take (m + 1)) := ⟨⟨fun _ => HTm.out.2 (.inr hYT.symm), fun _ => rfl⟩⟩
                        clear HW HTm hYT
                        go_upto_region 23 with (fail)
                        refine wp_region_lin default (fun w' => w'.cell? ⟨g, o + m, none⟩ = some (.string Y) ∧ w'.cell? ⟨ga, oa + k, none⟩ = some (.string T)) [(0, true), (1, true), (2, true), (3, true), (4, true), (5, true), (6, true), (7, true), (8, true), (9, true), (10, true), (11, true), (12, true)] (by kernel_rfl) (by kernel_rfl) rfl (by kernel_rfl) (by kernel_rfl) ⟨c0, c1⟩ ?_
                        simp only [pick, List.getD_cons_zero, List.getD_cons_succ]
                        repeat
                          first
                          | (refine lin_free (v := ?_) (by rfl) ?_ ?_
                             rotate_left
                             · intro w' hSw
                               obtain ⟨d0, d1⟩ := hSw
                               go_simp
                               first | done | with_reducible rfl
                             try simp only [Act.put, List.setIfInBounds_toArray, List.set_cons_zero, List.set_cons_succ])
                          | (refine lin_skip (by rfl) ?_
                             try simp only [Act.put, List.setIfInBounds_toArray, List.set_cons_zero, List.set_cons_succ])
                        refine NoPanic.normal ?_
                        go_wp2
                        exact ⟨⟨m + 1, true, hmt, by go_num, rfl, HW2, HK2⟩, hmm⟩
                      · rw [decide_eq_false hYT] at g0
                        have HW2 : Hd (false = true ↔ T ∈ xs.take (m + 1)) := ⟨by
                          refine ⟨fun h => (Bool.noConfusion h), fun h => ?_⟩
                          rcases HTm.out.1 h with h | h
                          · exact absurd (HW.out.2 h) (by decide)
                          · exact absurd h.symm hYT⟩
                        clear HW HTm hYT
                        go_upto_region 23 with (fail)
                        refine wp_region_lin default (fun w' => w'.cell? ⟨g, o + m, none⟩ = some (.string Y) ∧ w'.cell? ⟨ga, oa + k, none⟩ = some (.string T)) [(0, true), (1, true), (2, true), (3, true), (4, true), (5, true), (6, true), (7, true), (8, true), (9, true), (10, true), (11, true), (12, true)] (by kernel_rfl) (by kernel_rfl) rfl (by kernel_rfl) (by kernel_rfl) ⟨c0, c1⟩ ?_
                        simp only [pick, List.getD_cons_zero, List.getD_cons_succ]
                        repeat
                          first
                          | (refine lin_free (v := ?_) (by rfl) ?_ ?_
                             rotate_left
                             · intro w' hSw
                               obtain ⟨d0, d1⟩ := hSw
                               go_simp
                               first | done | with_reducible rfl
                             try simp only [Act.put, List.setIfInBounds_toArray, List.set_cons_zero, List.set_cons_succ])
                          | (refine lin_skip (by rfl) ?_
                             try simp only [Act.put, List.setIfInBounds_toArray, List.set_cons_zero, List.set_cons_succ])
                        refine NoPanic.normal ?_
                        go_wp2
                        exact ⟨⟨m + 1, false, hmt, by go_num, rfl, HW2, HK2⟩, hmm⟩
                  · have hd4 : decide ((m : Int) < (n : Int)) = false := decide_eq_false (by omega)
                    have HS := HSt.out wr HB.out
                    have hb : srvB l s T = b := by
                      have hx : xs.take m = xs := List.take_of_length_le (by rw [HLn.out]; omega)
                      have := HW.out
                      rw [hx, HIo.out.mem, ← srvB_iff] at this
                      rcases b with _ | _
                      · rcases h7 : srvB l s T with _ | _
                        · rfl
                        · exact absurd (this.2 h7) (by decide)
                      · exact this.1 rfl
                    have c1 := HCa.out wr HB.out
                    rw [hb] at HS
                    have HS := Hd.mk HS
                    clear hb HW
                    go_wp2_with fail
                    refine HS.out.mono ?_
                    rintro e w5 ⟨rfl, b5⟩
                    have HB5 := Hd.mk (HB.out.trans (b5.mono HB.out.size))
                    clear b5 HS HB c1
                    have gb : (b != b) = false := by simp
                    go_wp2
                    exact ⟨⟨k + 1, hkt, by go_num, HB5⟩, hmk⟩
              · have hd2 : decide ((k : Int) < (NA : Int)) = false := decide_eq_false (by omega)
                have HB5 : Hd (Below w3.heap.size w3 wr) := ⟨HKb.out.trans (HB.out.mono HKb.out.size)⟩
                clear HB
                go_wp2
                exact ⟨⟨i + 1, hlt, by go_num, HB5⟩, hmi⟩
          · have hd1 : decide ((i : Int) < (M : Int)) = false := decide_eq_false (by omega)
            go_wp2
            go_ret
            exact ⟨ret_b (by simp), HB3.out.trans (HB.out.mono HB3.out.size)⟩

end Go.Proofs.Ytmgkoocpnakanaa.W
