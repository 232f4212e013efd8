/-
  The law VersionParents: what a string serves, by its parents.
-/
import Derived.Test.YtmgkoocpnakanaaVk
import Derived.Test.YtmgkoocpnakanaaVd
namespace Go.Proofs.Ytmgkoocpnakanaa.W
open Go.RowKit
set_option linter.unusedVariables false

theorem srvB_eq {l : List Vdf} {a b : ByteArray} {r : Bool} (h : srvB l a b = r) : (r = true ↔ Srv l a b) := by rw [← h]; exact srvB_iff
def WantP (l ds : List Vdf) (a c : ByteArray) : Prop := a = c ∨ ∃ d, d ∈ ds ∧ d.name = a ∧ ∃ p, p ∈ d.parents ∧ Srv l p c
theorem wantP_all {l : List Vdf} (hn : (names l).Nodup) {a c : ByteArray} : WantP l l a c ↔ Srv l a c := by
  constructor
  · rintro (rfl | ⟨d, hd, rfl, p, hp, hs⟩)
    · exact .refl _
    · exact .head (by rw [par_of hn hd]; exact hp) hs
  · intro h
    cases h with
    | refl => exact .inl rfl
    | head hp hs =>
      obtain ⟨_, d, hd, e, hpd⟩ := par_mem hp
      exact .inr ⟨d, hd, e, _, hpd, hs⟩
theorem take_mem {l : List Vdf} {k : Nat} (hk : k < l.length) {d : Vdf} : d ∈ l.take (k + 1) ↔ d ∈ l.take k ∨ d = l[k] := by
  rw [List.take_add_one, List.getElem?_eq_getElem hk]
  show d ∈ l.take k ++ [l[k]] ↔ _
  rw [List.mem_append, List.mem_singleton]
theorem takeS_mem {l : List ByteArray} {k : Nat} (hk : k < l.length) {d : ByteArray} : d ∈ l.take (k + 1) ↔ d ∈ l.take k ∨ d = l[k] := by
  rw [List.take_add_one, List.getElem?_eq_getElem hk]
  show d ∈ l.take k ++ [l[k]] ↔ _
  rw [List.mem_append, List.mem_singleton]
theorem iff_b {r b : Bool} {P Q : Prop} (h1 : r = true ↔ P) (h2 : b = true ↔ Q) (h : P ↔ Q) : r = b := by
  rw [Bool.eq_iff_iff]; exact h1.trans (h.trans h2.symm)

set_option maxHeartbeats 4000000 in
set_option maxRecDepth 100000 in
theorem parents_any (w : World) (v : Value) (l : List Vdf) (a c : ByteArray) (h : ArgVdfs w v l) (ha : a.size ≤ 140737488351232) (hc : c.size ≤ 140737488351232) :
    Calls Try.prog 5 #[v, .string a, .string c] w fun e w' => e = .returned (.bool true) ∧ Below w.heap.size w w' := by
  have H := Hd.mk (fun (w' : World) (hb : Below w.heap.size w w') => Rw.below h.row Vdf.stays hb)
  have HSm := Hd.mk (small_any w)
  obtain ⟨p, q, hv⟩ := h.row.slice
  subst hv
  have HRow := Hd.mk h.row
  obtain ⟨M, hM⟩ : ∃ M, l.length = M := ⟨_, rfl⟩
  rw [hM] at H HRow ⊢
  have HM := Hd.mk hM
  have HRt0 := fun w5 (hb : Below w.heap.size w w5) (hok : VOk l) => right_any w5 (.slice p M q) l (H.out w5 hb) hok
  have HK := Hd.mk HRt0
  clear h hM HRt0
  go_enter Try.func5, Try.ntmps5
  go_wp2_with fail
  refine HSm.out.mono ?_
  rintro e w1 ⟨rfl, b1⟩
  have HB1 := Hd.mk b1
  have HFw := Hd.mk (few_any w1 (.slice p M q) l (H.out w1 b1))
  obtain ⟨f, hf⟩ : ∃ f, fewV l = f := ⟨_, rfl⟩
  have HF := Hd.mk hf
  rw [hf] at HFw
  clear b1 HSm hf
  go_wp2_with fail
  refine HFw.out.mono ?_
  rintro e w2 ⟨rfl, rfl⟩
  clear HFw
  cases f with
  | false =>
    go_wp2
    go_ret
    exact ⟨rfl, HB1.out⟩
  | true =>
    have HOk := Hd.mk (fewV_iff.1 HF.out)
    by_cases h1 : 100 < a.size
    · have g1 : decide ((100 : Int) < (a.size : Int)) = true := decide_eq_true (by omega)
      go_wp2
      go_ret
      exact ⟨rfl, HB1.out⟩
    have g1 : decide ((100 : Int) < (a.size : Int)) = false := decide_eq_false (by omega)
    by_cases h3 : 100 < c.size
    · have g3 : decide ((100 : Int) < (c.size : Int)) = true := decide_eq_true (by omega)
      go_wp2
      go_ret
      exact ⟨rfl, HB1.out⟩
    have g3 : decide ((100 : Int) < (c.size : Int)) = false := decide_eq_false (by omega)
    have HRc := Hd.mk (HK.out w1 HB1.out HOk.out)
    obtain ⟨rr, hrr⟩ : ∃ r, rightV l = r := ⟨_, rfl⟩
    rw [hrr] at HRc
    have HRr := Hd.mk hrr
    clear HK hrr
    go_wp2_with fail
    refine HRc.out.mono ?_
    rintro e w2 ⟨rfl, b2⟩
    have HB2 := Hd.mk (HB1.out.trans (b2.mono HB1.out.size))
    clear b2 HRc HB1
    cases rr with
    | false =>
      go_wp2
      go_ret
      exact ⟨rfl, HB2.out⟩
    | true =>
      have HNd := Hd.mk (rightV_iff.1 HRr.out).nod
      have g0 := str_beq a c
      have HSv : Hd (∀ (w' : World) (x : ByteArray), Below w.heap.size w w' → x.size ≤ 100 → Calls Try.prog 13 #[.slice p M q, .string x, .string c] w' fun e w'' => e = .returned (.bool (srvB l x c)) ∧ Below w'.heap.size w' w'') := ⟨fun w' x hb hx => serves_any w' (.slice p M q) l x c (H.out w' hb) HOk.out hx (by omega)⟩
      have hM12 : M ≤ 12 := by have := HOk.out.len; rw [HM.out] at this; exact this
      obtain ⟨b0, hb0⟩ : ∃ b0, decide (a = c) = b0 := ⟨_, rfl⟩
      rw [hb0] at g0
      have HW0 : Hd (b0 = true ↔ WantP l (l.take 0) a c) := ⟨by
        rw [← hb0, decide_eq_true_eq]
        constructor
        · exact fun e => .inl e
        · rintro (e | ⟨d, hd, _⟩)
          · exact e
          · simp at hd⟩
      clear hb0
      go_wp2
      clear g0
      go_loopw [9, 8] (fun iv bv wr => ∃ (i : Nat) (b : Bool), i ≤ M ∧ iv = .int .i64 (i : Int) ∧ bv = .bool b ∧ Hd (b = true ↔ WantP l (l.take i) a c) ∧ Hd (Below w.heap.size w wr)) (fun iv _ _ => M - (intOf iv).toNat)
      case atStart => exact ⟨0, b0, Nat.zero_le _, rfl, rfl, HW0, HB2⟩
      case round =>
        clear HW0 HB2
        obtain ⟨i, b, hi, rfl, rfl, HW, HB⟩ := hrel
        by_cases hlt : i < M
        · have hd1 : decide ((i : Int) < (M : Int)) = true := decide_eq_true (by omega)
          have hmi : M - (intOf (.int .i64 ((i : Int) + 1))).toNat < M - (intOf (.int .i64 (i : Int))).toNat := by simp [intOf]; omega
          have hiq : i < l.length := by rw [HM.out]; exact hlt
          obtain ⟨g, of, cs, hpe, hg, hcl, ⟨pv, rfl, hAt⟩, hcc⟩ := HRow.out.at rfl (j := i) hiq
          subst hpe
          have htm := fun d => take_mem hiq (d := d)
          have hpb := (HOk.out.par _ (List.getElem_mem hiq))
          have hAp := hAt.parents
          obtain ⟨dd, hdd⟩ : ∃ dd, l[i] = dd := ⟨_, rfl⟩
          rw [hdd] at htm hpb hAp hcc
          obtain ⟨P, hP⟩ : ∃ P, dd.parents = P := ⟨_, rfl⟩
          rw [hP] at hAp hpb
          obtain ⟨pp, pc, hpv⟩ := hAp.slice
          obtain ⟨PN, hPN⟩ : ∃ PN, P.length = PN := ⟨_, rfl⟩
          rw [hPN] at hpv
          subst hpv
          obtain ⟨X, hx⟩ : ∃ X, dd.name = X := ⟨_, rfl⟩
          have HC : Hd (∀ wr, Below w.heap.size w wr → wr.cell? ⟨g, of + i * 2, none⟩ = some (.string X) ∧ wr.cell? ⟨g, of + i * 2 + 1, none⟩ = some (.slice pp PN pc)) := ⟨fun wr hb => ⟨by rw [hb.cell (p := ⟨g, of + i * 2, none⟩) hg, ← hx]; exact hcc 0 _ rfl, by rw [hb.cell (p := ⟨g, of + i * 2 + 1, none⟩) hg]; exact hcc 1 _ rfl⟩⟩
          have HTm := Hd.mk htm
          have HPb := Hd.mk hpb
          have HAp := Hd.mk hAp
          have HPN := Hd.mk hPN
          have HDP := Hd.mk hP
          have HDX := Hd.mk hx
          have hPN6 : PN ≤ 6 := by rw [← hPN]; exact hpb.1
          have HI0 : Hd (b = true ↔ WantP l (l.take i) a c ∨ (X = a ∧ ∃ p, p ∈ P.take 0 ∧ Srv l p c)) := ⟨by rw [HW.out]; simp⟩
          clear hcc hg hcl hAt htm hpb hAp hdd hP hPN hx hiq HW
          go_wp2
          go_loopw [10, 8] (fun jv bv wq => ∃ (j : Nat) (b : Bool), j ≤ PN ∧ jv = .int .i64 (j : Int) ∧ bv = .bool b ∧ Hd (b = true ↔ WantP l (l.take i) a c ∨ (X = a ∧ ∃ p, p ∈ P.take j ∧ Srv l p c)) ∧ Hd (Below w.heap.size w wq)) (fun jv _ _ => PN - (intOf jv).toNat)
          case atStart => exact ⟨0, b, Nat.zero_le _, rfl, rfl, HI0, HB⟩
          case round =>
            clear HI0 HB
            obtain ⟨j, b, hj, rfl, rfl, HW, HB⟩ := hrel
            obtain ⟨d0, d1⟩ := HC.out wr HB.out
            have g0 := str_beq X a
            by_cases hjt : j < PN
            · have hd2 : decide ((j : Int) < (PN : Int)) = true := decide_eq_true (by omega)
              have hmj : PN - (intOf (.int .i64 ((j : Int) + 1))).toNat < PN - (intOf (.int .i64 (j : Int))).toNat := by simp [intOf]; omega
              by_cases hXa : X = a
              · rw [decide_eq_true hXa] at g0
                have hjq : j < P.length := by rw [HPN.out]; exact hjt
                obtain ⟨gp, op, e2, hEv⟩ := RS.ever HAp.out (by omega)
                subst e2
                have cj := hEv j hjq wr HB.out
                have hsz := HPb.out.2 _ (List.getElem_mem hjq)
                have htm := fun d => takeS_mem hjq (d := d)
                obtain ⟨x, hx⟩ : ∃ x, P[j] = x := ⟨_, rfl⟩
                rw [hx] at cj hsz htm
                have HS := Hd.mk (HSv.out wr x HB.out hsz)
                obtain ⟨r, hr⟩ : ∃ r, srvB l x c = r := ⟨_, rfl⟩
                rw [hr] at HS
                have HRs := Hd.mk (srvB_iff.symm.trans (by rw [hr] : srvB l x c = true ↔ r = true))
                have HT := Hd.mk htm
                have HXa := Hd.mk hXa
                clear hEv hjq hsz htm hx hr hXa
                cases b with
                | true =>
                  have HW2 : Hd (true = true ↔ WantP l (l.take i) a c ∨ (X = a ∧ ∃ p, p ∈ P.take (j + 1) ∧ Srv l p c)) := ⟨by
                    refine ⟨fun _ => ?_, fun _ => rfl⟩
                    rcases HW.out.1 rfl with h | ⟨h1, p, hp, hs⟩
                    · exact .inl h
                    · exact .inr ⟨h1, p, (HT.out p).2 (.inl hp), hs⟩⟩
                  clear HS
                  go_wp2
                  exact ⟨⟨j + 1, true, hjt, by go_num, rfl, HW2, HB⟩, hmj⟩
                | false =>
                  have HW2 : Hd (r = true ↔ WantP l (l.take i) a c ∨ (X = a ∧ ∃ p, p ∈ P.take (j + 1) ∧ Srv l p c)) := ⟨by
                    constructor
                    · intro h
                      exact .inr ⟨HXa.out, x, (HT.out x).2 (.inr rfl), HRs.out.2 h⟩
                    · rintro (h | ⟨h1, p, hp, hs⟩)
                      · exact absurd (HW.out.2 (.inl h)) (by decide)
                      · rcases (HT.out p).1 hp with hp | rfl
                        · exact absurd (HW.out.2 (.inr ⟨h1, p, hp, hs⟩)) (by decide)
                        · exact HRs.out.1 hs⟩
                  go_wp2_with fail
                  refine HS.out.mono ?_
                  rintro e w5 ⟨rfl, b5⟩
                  have HB5 := Hd.mk (HB.out.trans (b5.mono HB.out.size))
                  clear b5 HS HB d0 d1 cj
                  go_wp2
                  exact ⟨⟨j + 1, r, hjt, by go_num, rfl, HW2, HB5⟩, hmj⟩
              · rw [decide_eq_false hXa] at g0
                have HW2 : Hd (b = true ↔ WantP l (l.take (i + 1)) a c) := ⟨by
                  rw [HW.out]
                  constructor
                  · rintro (h | ⟨h1, _⟩)
                    · rcases h with h | ⟨d, hd, hr⟩
                      · exact .inl h
                      · exact .inr ⟨d, (HTm.out d).2 (.inl hd), hr⟩
                    · exact absurd h1 hXa
                  · rintro (h | ⟨d, hd, hn, hr⟩)
                    · exact .inl (.inl h)
                    · rcases (HTm.out d).1 hd with hd | rfl
                      · exact .inl (.inr ⟨d, hd, hn, hr⟩)
                      · exact absurd (HDX.out.symm.trans hn) hXa⟩
                clear hXa HW
                go_wp2
                exact ⟨⟨i + 1, b, hlt, by go_num, rfl, HW2, HB⟩, hmi⟩
            · have hd2 : decide ((j : Int) < (PN : Int)) = false := decide_eq_false (by omega)
              have HW2 : Hd (b = true ↔ WantP l (l.take (i + 1)) a c) := ⟨by
                have hPt : P.take j = P := List.take_of_length_le (by rw [HPN.out]; omega)
                rw [HW.out, hPt]
                constructor
                · rintro (h | ⟨h1, p, hp, hs⟩)
                  · rcases h with h | ⟨d, hd, hr⟩
                    · exact .inl h
                    · exact .inr ⟨d, (HTm.out d).2 (.inl hd), hr⟩
                  · exact .inr ⟨dd, (HTm.out dd).2 (.inr rfl), HDX.out.trans h1, p, by rw [HDP.out]; exact hp, hs⟩
                · rintro (h | ⟨d, hd, hn, p, hp, hs⟩)
                  · exact .inl (.inl h)
                  · rcases (HTm.out d).1 hd with hd | rfl
                    · exact .inl (.inr ⟨d, hd, hn, p, hp, hs⟩)
                    · exact .inr ⟨HDX.out.symm.trans hn, p, by rw [← HDP.out]; exact hp, hs⟩⟩
              clear g0 HW
              go_wp2
              exact ⟨⟨i + 1, b, hlt, by go_num, rfl, HW2, HB⟩, hmi⟩
        · have hd1 : decide ((i : Int) < (M : Int)) = false := decide_eq_false (by omega)
          have HS := Hd.mk (HSv.out wr a HB.out (by omega))
          obtain ⟨r, hr⟩ : ∃ r, srvB l a c = r := ⟨_, rfl⟩
          rw [hr] at HS
          have HE : Hd (r = b) := ⟨by
            have hW := HW.out
            have hlt : l.take i = l := List.take_of_length_le (by rw [HM.out]; omega)
            rw [hlt] at hW
            exact iff_b (srvB_eq hr) hW (wantP_all HNd.out).symm⟩
          have he := HE.out
          subst he
          clear hr HE HW
          go_wp2_with fail
          refine HS.out.mono ?_
          rintro e w5 ⟨rfl, b5⟩
          have HB5 := Hd.mk (HB.out.trans (b5.mono HB.out.size))
          clear b5 HS HB
          go_wp2
          go_ret
          exact ⟨ret_b (by simp), HB5.out⟩

end Go.Proofs.Ytmgkoocpnakanaa.W
