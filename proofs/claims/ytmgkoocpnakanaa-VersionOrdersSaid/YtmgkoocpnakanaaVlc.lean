/-
  The law VersionOrders: each name once, none before what it serves, and of two neighbours out of order the later one serves the earlier one.
-/
import Derived.Test.YtmgkoocpnakanaaVk
import Derived.Test.YtmgkoocpnakanaaVd
import Derived.Laws.Cover1
namespace Go.Proofs.Ytmgkoocpnakanaa.W
open Go.RowKit
set_option linter.unusedVariables false

theorem OrdS.at {l : List Vdf} : ∀ (xs out : List ByteArray), OrdS l out xs → ∀ i (hi : i < xs.length), Rdy l (out ++ xs.take i) xs[i] ∧ ∀ y, Rdy l (out ++ xs.take i) y → ltS y xs[i] = false
  | [], _, _, i, hi => absurd hi (Nat.not_lt_zero _)
  | x :: r, out, h, 0, hi => by
    simp only [List.take_zero, List.append_nil, List.getElem_cons_zero]
    exact ⟨h.1, h.2.1⟩
  | x :: r, out, h, i + 1, hi => by
    have := OrdS.at r (out ++ [x]) h.2.2 i (by simpa using hi)
    simp only [List.take_succ_cons, List.getElem_cons_succ]
    simpa [List.append_assoc] using this
theorem OrdS.all {l : List Vdf} : ∀ (xs out : List ByteArray), OrdS l out xs → ∀ s, s ∈ names l → s ∈ out ++ xs
  | [], out, h, s, hs => by rw [List.append_nil]; exact h s hs
  | x :: r, out, h, s, hs => by
    have := OrdS.all r (out ++ [x]) h.2.2 s hs
    simpa [List.append_assoc] using this
section
variable {l : List Vdf} {xs : List ByteArray}
theorem OrdS.rdy (h : OrdS l [] xs) {i : Nat} (hi : i < xs.length) : Rdy l (xs.take i) xs[i] := by
  have := (OrdS.at xs [] h i hi).1
  rwa [List.nil_append] at this
theorem OrdS.least (h : OrdS l [] xs) {i : Nat} (hi : i < xs.length) {y : ByteArray} (hy : Rdy l (xs.take i) y) : ltS y xs[i] = false := by
  have := (OrdS.at xs [] h i hi).2 y
  rw [List.nil_append] at this
  exact this hy
theorem mem_takeI {i j : Nat} (hi : i < xs.length) (hij : i < j) : xs[i] ∈ xs.take j :=
  List.mem_take_iff_getElem.2 ⟨i, by omega, rfl⟩
theorem OrdS.nod (h : OrdS l [] xs) : xs.Nodup := by
  refine List.pairwise_iff_getElem.2 fun i j hi hj hij e => ?_
  exact (h.rdy hj).new (by rw [← e]; exact mem_takeI hi hij)
theorem OrdS.len (h : OrdS l [] xs) (hn : (names l).Nodup) : xs.length = l.length := by
  have hm : ∀ s, s ∈ xs ↔ s ∈ names l := fun s => by
    constructor
    · intro hs
      obtain ⟨i, hi, rfl⟩ := List.getElem_of_mem hs
      exact (h.rdy hi).mem
    · intro hs
      have := OrdS.all xs [] h s hs
      simpa using this
  have := ((List.perm_ext_iff_of_nodup h.nod hn).2 hm).length_eq
  rw [this, names_len]
theorem OrdS.shut (h : OrdS l [] xs) (k : Nat) {x t : ByteArray} (hs : Srv l x t) : x ∈ xs.take k → t ∈ xs.take k := by
  induction hs with
  | refl => exact id
  | head hp _ ih =>
    intro hx
    refine ih ?_
    obtain ⟨j, hj, rfl⟩ := List.mem_take_iff_getElem.1 hx
    have := (h.rdy (i := j) (by omega)).par _ hp
    exact (List.take_subset_take_left xs (by omega)) this
theorem OrdS.before (h : OrdS l [] xs) {i k : Nat} (hk : k < xs.length) (hik : i < k) : ¬ Srv l (xs[i]'(by omega)) xs[k] := fun hs => by
  have := h.shut (i + 1) hs (mem_takeI (by omega) (by omega))
  obtain ⟨j, hj, e⟩ := List.mem_take_iff_getElem.1 this
  have := nod_at h.nod (by omega) hk e
  omega
theorem OrdS.next (h : OrdS l [] xs) {j : Nat} (hj : j + 1 < xs.length) (hlt : ltS xs[j + 1] (xs[j]'(by omega)) = true) : Srv l xs[j + 1] (xs[j]'(by omega)) := by
  refine Classical.byContradiction fun hno => ?_
  have hR := h.rdy hj
  have hR2 : Rdy l (xs.take j) xs[j + 1] := by
    refine ⟨hR.mem, fun hm => hR.new (List.take_subset_take_left xs (by omega) hm), fun p hp => ?_⟩
    have := hR.par p hp
    obtain ⟨q, hq, e⟩ := List.mem_take_iff_getElem.1 this
    by_cases hqj : q = j
    · subst hqj
      exact absurd (Srv.head hp (by rw [← e]; exact .refl _)) hno
    · rw [← e]; exact mem_takeI (by omega) (by omega)
  have := h.least (i := j) (by omega) hR2
  rw [this] at hlt; cases hlt
end
theorem take_memD {l : List Vdf} {k : Nat} (hk : k < l.length) {d : Vdf} : d ∈ l.take (k + 1) ↔ d ∈ l.take k ∨ d = l[k] := by
  rw [List.take_add_one, List.getElem?_eq_getElem hk]
  show d ∈ l.take k ++ [l[k]] ↔ _
  rw [List.mem_append, List.mem_singleton]
set_option maxHeartbeats 4000000 in
set_option maxRecDepth 100000 in
theorem orders_any (w : World) (v : Value) (l : List Vdf) (h : ArgVdfs w v l) :
    Calls Try.prog 7 #[v] w fun e w' => e = .returned (.bool true) ∧ Below w.heap.size w w' := by
  have H := Hd.mk (fun (w' : World) (hb : Below w.heap.size w w') => Rw.below h.row Vdf.stays hb)
  have HSm := Hd.mk (small_any w)
  obtain ⟨p, q, hv⟩ := h.row.slice
  subst hv
  have HRow := Hd.mk h.row
  obtain ⟨M, hM⟩ : ∃ M, l.length = M := ⟨_, rfl⟩
  rw [hM] at H HRow ⊢
  have HM := Hd.mk hM
  have HK := Hd.mk (fun w5 (hb : Below w.heap.size w w5) (hok : VOk l) => right_any w5 (.slice p M q) l (H.out w5 hb) hok)
  have HKO := Hd.mk (fun w5 (hb : Below w.heap.size w w5) (hok : VOk l) => order_any w5 (.slice p M q) l (H.out w5 hb) hok)
  clear h hM
  go_enter Try.func7, Try.ntmps7
  go_wp2_with fail
  refine HSm.out.mono ?_
  rintro e w1 ⟨rfl, b1⟩
  have HB1 := Hd.mk b1
  have HFw := Hd.mk (few_any w1 (.slice p M q) l (H.out w1 b1))
  obtain ⟨f, hf⟩ : ∃ f, fewV l = f := ⟨_, rfl⟩
  have HF := Hd.mk hf
  rw [hf] at HFw
  clear b1 HSm hf
  go_wp2_with fail
  refine HFw.out.mono ?_
  rintro e w2 ⟨rfl, rfl⟩
  clear HFw
  cases f with
  | false =>
    go_wp2
    go_ret
    exact ⟨rfl, HB1.out⟩
  | true =>
    have HOk := Hd.mk (fewV_iff.1 HF.out)
    have HRc := Hd.mk (HK.out w1 HB1.out HOk.out)
    obtain ⟨rr, hrr⟩ : ∃ r, rightV l = r := ⟨_, rfl⟩
    rw [hrr] at HRc
    have HRr := Hd.mk hrr
    clear HK hrr
    go_wp2_with fail
    refine HRc.out.mono ?_
    rintro e w2 ⟨rfl, b2⟩
    have HB2 := Hd.mk (HB1.out.trans (b2.mono HB1.out.size))
    clear b2 HRc HB1
    cases rr with
    | false =>
      go_wp2
      go_ret
      exact ⟨rfl, HB2.out⟩
    | true =>
      have HV := Hd.mk (rightV_iff.1 HRr.out)
      have HOc := Hd.mk (HKO.out w2 HB2.out HOk.out)
      clear HKO HRr HF
      go_wp2_with fail
      refine HOc.out.mono ?_
      rintro e w3 ⟨v', n, xs, rfl, ho, hn, hio, b3⟩
      have hos := hio.yes HV.out
      have hlen : xs.length = M := (hos.len HV.out.nod).trans HM.out
      have hrw := rw_strs ho
      obtain ⟨px, cx, ex⟩ := hrw.slice
      rw [hlen] at ex
      subst ex
      have HRx := Hd.mk hrw
      have HOs := Hd.mk hos
      have HLn := Hd.mk hlen
      have HB3 := Hd.mk (HB2.out.trans (b3.mono HB2.out.size))
      have hM12 : M ≤ 12 := by have := HOk.out.len; rw [HM.out] at this; exact this
      have HSz : Hd (∀ i (hi : i < xs.length), xs[i].size ≤ 100) := ⟨fun i hi => by
        obtain ⟨d, hd, e⟩ := List.mem_map.1 (hos.rdy hi).mem
        rw [← e]; exact HOk.out.name d hd⟩
      have HSv : Hd (∀ (w' : World) (i k : Nat) (hi : i < xs.length) (hk : k < xs.length), Below w3.heap.size w3 w' → Calls Try.prog 13 #[.slice p M q, .string xs[i], .string xs[k]] w' fun e w'' => e = .returned (.bool (srvB l xs[i] xs[k])) ∧ Below w'.heap.size w' w'') := ⟨fun w' i k hi hk hb => serves_any w' (.slice p M q) l _ _ (H.out w' (HB3.out.trans (hb.mono HB3.out.size))) HOk.out (HSz.out i hi) (HSz.out k hk)⟩
      clear ho hn hio b3 hos hlen hrw HB2 HOc
      go_wp2
      go_loopw [5] (fun iv wr => ∃ i : Nat, i ≤ M ∧ iv = .int .i64 (i : Int) ∧ Hd (Below w3.heap.size w3 wr)) (fun iv _ => M - (intOf iv).toNat)
      case atStart => exact ⟨0, Nat.zero_le _, rfl, ⟨Below.refl _ _⟩⟩
      case round =>
        obtain ⟨i, hi, rfl, HB⟩ := hrel
        by_cases hlt : i < M
        · have hd1 : decide ((i : Int) < (M : Int)) = true := decide_eq_true (by omega)
          have hmi : M - (intOf (.int .i64 ((i : Int) + 1))).toNat < M - (intOf (.int .i64 (i : Int))).toNat := by simp [intOf]; omega
          have hix : i < xs.length := by rw [HLn.out]; exact hlt
          obtain ⟨g, o, e2, hE⟩ := RS.ever HRx.out (by omega)
          subst e2
          have HE := Hd.mk hE
          have hXm := (HOs.out.rdy hix).mem
          have HC : Hd (∀ w', Below w3.heap.size w3 w' → w'.cell? ⟨g, o + i, none⟩ = some (.string xs[i])) := ⟨fun w' hb => hE i hix w' hb⟩
          have HSi : Hd (∀ (w' : World) (k : Nat) (hk : k < xs.length), Below w3.heap.size w3 w' → Calls Try.prog 13 #[.slice p M q, .string xs[i], .string xs[k]] w' fun e w'' => e = .returned (.bool (srvB l xs[i] xs[k])) ∧ Below w'.heap.size w' w'') := ⟨fun w' k hk hb => HSv.out w' i k hix hk hb⟩
          have HBf : Hd (∀ k (hk : k < xs.length), i < k → srvB l xs[i] xs[k] = false) := ⟨fun k hk hik => srvB_no (HOs.out.before hk hik)⟩
          have HNx : Hd (∀ j (hj : j + 1 = i), ltS xs[i] (xs[j]'(by omega)) = true → srvB l xs[i] (xs[j]'(by omega)) = true) := ⟨fun j hj hlt => by
            subst hj
            exact srvB_iff.2 (HOs.out.next hix hlt)⟩
          obtain ⟨X, hX⟩ : ∃ X, xs[i] = X := ⟨_, rfl⟩
          rw [hX] at hXm HC HSi HBf HNx
          have HXm := Hd.mk hXm
          have HF0 : Hd (false = true ↔ ∃ d, d ∈ l.take 0 ∧ d.name = X) := ⟨by simp⟩
          clear hE hXm hX
          go_wp2
          go_loopw [7, 6] (fun kv bv wr => ∃ (k : Nat) (b : Bool), k ≤ M ∧ kv = .int .i64 (k : Int) ∧ bv = .bool b ∧ Hd (b = true ↔ ∃ d, d ∈ l.take k ∧ d.name = X) ∧ Hd (Below w3.heap.size w3 wr)) (fun kv _ _ => M - (intOf kv).toNat)
          case atStart => exact ⟨0, false, Nat.zero_le _, rfl, rfl, HF0, HB⟩
          case round =>
            clear HF0 HB
            obtain ⟨k, b, hk, rfl, rfl, HW, HB⟩ := hrel
            by_cases hkt : k < M
            · have hd2 : decide ((k : Int) < (M : Int)) = true := decide_eq_true (by omega)
              have hmk : M - (intOf (.int .i64 ((k : Int) + 1))).toNat < M - (intOf (.int .i64 (k : Int))).toNat := by simp [intOf]; omega
              have hkq : k < l.length := by rw [HM.out]; exact hkt
              have HBw := HB3.out.trans (HB.out.mono HB3.out.size)
              obtain ⟨gl, of, cs, hpe, hg, hcl, ⟨pv, rfl, hAt⟩, hcc⟩ := HRow.out.at rfl (j := k) hkq
              subst hpe
              have htm := fun d => take_memD hkq (d := d)
              obtain ⟨dd, hdd⟩ : ∃ dd, l[k] = dd := ⟨_, rfl⟩
              rw [hdd] at htm hcc
              obtain ⟨Y, hY⟩ : ∃ Y, dd.name = Y := ⟨_, rfl⟩
              have c0 : wr.drew.cell? ⟨gl, of + k * 2, none⟩ = some (.string Y) := by
                have e : wr.cell? ⟨gl, of + k * 2, none⟩ = some (.string Y) := by rw [HBw.cell (p := ⟨gl, of + k * 2, none⟩) hg, ← hY]; exact hcc 0 _ rfl
                exact e
              have HK2 : Hd (Below w3.heap.size w3 wr.drew) := ⟨HB.out.trans ((Bel wr 1).mono HB.out.size)⟩
              have c1 := HC.out wr.drew HK2.out
              have HTm := Hd.mk htm
              have HY := Hd.mk hY
              clear hkq HBw hg hcl hAt hcc htm hdd hY HB
              cases b with
              | true =>
                have HW2 : Hd (true = true ↔ ∃ d, d ∈ l.take (k + 1) ∧ d.name = X) := ⟨by
                  refine ⟨fun _ => ?_, fun _ => rfl⟩
                  obtain ⟨d, hd, e⟩ := HW.out.1 rfl
                  exact ⟨d, (HTm.out d).2 (.inl hd), e⟩⟩
                clear HW HTm
                go_upto_region 14 with (fail)
                refine wp_region_lin default (fun w' => w'.cell? ⟨gl, of + k * 2, none⟩ = some (.string Y) ∧ w'.cell? ⟨g, o + i, none⟩ = some (.string X)) [(0, true), (1, true), (2, true), (3, true), (4, true), (5, true), (6, true), (7, true), (8, true), (9, true), (10, true), (11, true), (12, true), (13, true)] (by kernel_rfl) (by kernel_rfl) rfl (by kernel_rfl) (by kernel_rfl) ⟨c0, c1⟩ ?_
                simp only [pick, List.getD_cons_zero, List.getD_cons_succ]
                repeat
                  first
                  | (refine lin_free (v := ?_) (by rfl) ?_ ?_
                     rotate_left
                     · intro w' hSw
                       obtain ⟨d0, d1⟩ := hSw
                       go_simp
                       first | done | with_reducible rfl
                     try simp only [Act.put, List.setIfInBounds_toArray, List.set_cons_zero, List.set_cons_succ])
                  | (refine lin_skip (by rfl) ?_
                     try simp only [Act.put, List.setIfInBounds_toArray, List.set_cons_zero, List.set_cons_succ])
                refine NoPanic.normal ?_
                go_wp2
                exact ⟨⟨k + 1, true, hkt, by go_num, rfl, HW2, HK2⟩, hmk⟩
              | false =>
                have g0 := str_beq Y X
                by_cases hYX : Y = X
                · rw [decide_eq_true hYX] at g0
                  have HW2 : Hd (true = true ↔ ∃ d, d ∈ l.take (k + 1) ∧ d.name = X) := ⟨⟨fun _ => ⟨dd, (HTm.out dd).2 (.inr rfl), HY.out.trans hYX⟩, fun _ => rfl⟩⟩
                  clear HW HTm hYX
                  go_upto_region 14 with (fail)
                  refine wp_region_lin default (fun w' => w'.cell? ⟨gl, of + k * 2, none⟩ = some (.string Y) ∧ w'.cell? ⟨g, o + i, none⟩ = some (.string X)) [(0, true), (1, true), (2, true), (3, true), (4, true), (5, true), (6, true), (7, true), (8, true), (9, true), (10, true), (11, true), (12, true), (13, true)] (by kernel_rfl) (by kernel_rfl) rfl (by kernel_rfl) (by kernel_rfl) ⟨c0, c1⟩ ?_
                  simp only [pick, List.getD_cons_zero, List.getD_cons_succ]
                  repeat
                    first
                    | (refine lin_free (v := ?_) (by rfl) ?_ ?_
                       rotate_left
                       · intro w' hSw
                         obtain ⟨d0, d1⟩ := hSw
                         go_simp
                         first | done | with_reducible rfl
                       try simp only [Act.put, List.setIfInBounds_toArray, List.set_cons_zero, List.set_cons_succ])
                    | (refine lin_skip (by rfl) ?_
                       try simp only [Act.put, List.setIfInBounds_toArray, List.set_cons_zero, List.set_cons_succ])
                  refine NoPanic.normal ?_
                  go_wp2
                  exact ⟨⟨k + 1, true, hkt, by go_num, rfl, HW2, HK2⟩, hmk⟩
                · rw [decide_eq_false hYX] at g0
                  have HW2 : Hd (false = true ↔ ∃ d, d ∈ l.take (k + 1) ∧ d.name = X) := ⟨by
                    refine ⟨fun h => (Bool.noConfusion h), fun ⟨d, hd, e⟩ => ?_⟩
                    rcases (HTm.out d).1 hd with hd | rfl
                    · exact absurd (HW.out.2 ⟨d, hd, e⟩) (by decide)
                    · exact absurd (HY.out.symm.trans e) hYX⟩
                  clear HW HTm hYX
                  go_upto_region 14 with (fail)
                  refine wp_region_lin default (fun w' => w'.cell? ⟨gl, of + k * 2, none⟩ = some (.string Y) ∧ w'.cell? ⟨g, o + i, none⟩ = some (.string X)) [(0, true), (1, true), (2, true), (3, true), (4, true), (5, true), (6, true), (7, true), (8, true), (9, true), (10, true), (11, true), (12, true), (13, true)] (by kernel_rfl) (by kernel_rfl) rfl (by kernel_rfl) (by kernel_rfl) ⟨c0, c1⟩ ?_
                  simp only [pick, List.getD_cons_zero, List.getD_cons_succ]
                  repeat
                    first
                    | (refine lin_free (v := ?_) (by rfl) ?_ ?_
                       rotate_left
                       · intro w' hSw
                         obtain ⟨d0, d1⟩ := hSw
                         go_simp
                         first | done | with_reducible rfl
                       try simp only [Act.put, List.setIfInBounds_toArray, List.set_cons_zero, List.set_cons_succ])
                    | (refine lin_skip (by rfl) ?_
                       try simp only [Act.put, List.setIfInBounds_toArray, List.set_cons_zero, List.set_cons_succ])
                  refine NoPanic.normal ?_
                  go_wp2
                  exact ⟨⟨k + 1, false, hkt, by go_num, rfl, HW2, HK2⟩, hmk⟩
            · have hd2 : decide ((k : Int) < (M : Int)) = false := decide_eq_false (by omega)
              have HT : Hd (b = true) := ⟨by
                have hkM : l.take k = l := List.take_of_length_le (by rw [HM.out]; omega)
                have := HW.out
                rw [hkM] at this
                exact this.2 (List.mem_map.1 HXm.out)⟩
              have ht := HT.out
              subst ht
              clear HT HW
              go_wp2
              go_loopw [8] (fun kv wr => ∃ (k : Nat), i < k ∧ k ≤ M ∧ kv = .int .i64 (k : Int) ∧ Hd (Below w3.heap.size w3 wr)) (fun kv _ => M - (intOf kv).toNat)
              case atStart => exact ⟨i + 1, Nat.lt_succ_self i, hlt, by go_num, HB⟩
              case round =>
                clear HB hd2 hk
                obtain ⟨k, hik, hk, rfl, HB⟩ := hrel
                by_cases hkt : k < M
                · have hd2 : decide ((k : Int) < (M : Int)) = true := decide_eq_true (by omega)
                  have hmk : M - (intOf (.int .i64 ((k : Int) + 1))).toNat < M - (intOf (.int .i64 (k : Int))).toNat := by simp [intOf]; omega
                  have hkx : k < xs.length := by rw [HLn.out]; exact hkt
                  have HK2 : Hd (Below w3.heap.size w3 wr.drew) := ⟨HB.out.trans ((Bel wr 1).mono HB.out.size)⟩
                  have HS := HSi.out wr.drew k hkx HK2.out
                  rw [HBf.out k hkx hik] at HS
                  have c1 := HC.out wr.drew HK2.out
                  have c2 := HE.out k hkx wr.drew HK2.out
                  obtain ⟨Z, hZ⟩ : ∃ Z, xs[k] = Z := ⟨_, rfl⟩
                  rw [hZ] at HS c2
                  have S1 : Hd (∀ w', Below w3.heap.size w3 w' → w'.cell? ⟨g, o + i, none⟩ = some (.string X) ∧ w'.cell? ⟨g, o + k, none⟩ = some (.string Z)) := ⟨fun w' hb => ⟨HC.out w' hb, by rw [← hZ]; exact HE.out k hkx w' hb⟩⟩
                  have HS := Hd.mk HS
                  clear hkx hZ HB c1 c2
                  go_upto_region 20 with (fail)
                  refine wp_region_lin default (fun w' => w'.cell? ⟨g, o + i, none⟩ = some (.string X) ∧ w'.cell? ⟨g, o + k, none⟩ = some (.string Z)) [(0, true), (1, true), (2, true), (3, true), (4, true), (5, true), (6, true), (7, true), (8, true), (9, false)] (by kernel_rfl) (by kernel_rfl) rfl (by kernel_rfl) (by kernel_rfl) (S1.out _ HK2.out) ?_
                  simp only [pick, List.getD_cons_zero, List.getD_cons_succ]
                  repeat
                    first
                    | (refine lin_free (v := ?_) (by rfl) ?_ ?_
                       rotate_left
                       · intro w' hSw
                         obtain ⟨d0, d1⟩ := hSw
                         go_simp
                         first | done | with_reducible rfl
                       try simp only [Act.put, List.setIfInBounds_toArray, List.set_cons_zero, List.set_cons_succ])
                    | (refine lin_skip (by rfl) ?_
                       try simp only [Act.put, List.setIfInBounds_toArray, List.set_cons_zero, List.set_cons_succ])
                  refine lin_bound (fun K hK => ?_)
                  go_simp
                  refine HS.out.mono ?_
                  rintro e w5 ⟨rfl, b5⟩
                  dsimp only
                  have HK5 : Hd (Below w3.heap.size w3 w5) := ⟨HK2.out.trans (b5.mono HK2.out.size)⟩
                  clear b5 HS
                  refine hK.out _ _ (S1.out _ HK5.out) ?_
                  clear hK K HK2
                  refine NoPanic.normal ?_
                  go_wp2
                  exact ⟨⟨k + 1, by omega, hkt, by go_num, HK5⟩, hmk⟩
                · have hd2 : decide ((k : Int) < (M : Int)) = false := decide_eq_false (by omega)
                  have HK2 : Hd (Below w3.heap.size w3 wr.drew) := ⟨HB.out.trans ((Bel wr 1).mono HB.out.size)⟩
                  rcases Nat.eq_zero_or_pos i with h0 | h0
                  · subst h0
                    clear HB
                    go_upto_region 22 with (fail)
                    refine wp_region_lin default (fun w' => True) [(0, true), (1, true), (2, true), (3, true), (4, true), (5, true), (6, true), (7, true), (8, true), (9, true), (10, true), (11, true), (12, true), (13, true), (14, true), (15, true), (16, true), (17, true), (18, true), (19, true), (20, true), (21, true), (22, true), (23, true), (24, true), (25, false), (26, true), (27, true)] (by kernel_rfl) (by kernel_rfl) rfl (by kernel_rfl) (by kernel_rfl) trivial ?_
                    simp only [pick, List.getD_cons_zero, List.getD_cons_succ]
                    repeat
                      first
                      | (refine lin_free (v := ?_) (by rfl) ?_ ?_
                         rotate_left
                         · intro w' hSw
                           have d0 := hSw
                           go_simp
                           first | done | with_reducible rfl
                         try simp only [Act.put, List.setIfInBounds_toArray, List.set_cons_zero, List.set_cons_succ])
                      | (refine lin_skip (by rfl) ?_
                         try simp only [Act.put, List.setIfInBounds_toArray, List.set_cons_zero, List.set_cons_succ])
                    refine lin_bound (fun K hK => ?_)
                    go_simp
                    refine hK.out _ _ trivial ?_
                    clear hK K
                    try simp only [Act.put, List.setIfInBounds_toArray, List.set_cons_zero, List.set_cons_succ]
                    repeat
                      first
                      | (refine lin_free (v := ?_) (by rfl) ?_ ?_
                         rotate_left
                         · intro w' hSw
                           have d0 := hSw
                           go_simp
                           first | done | with_reducible rfl
                         try simp only [Act.put, List.setIfInBounds_toArray, List.set_cons_zero, List.set_cons_succ])
                      | (refine lin_skip (by rfl) ?_
                         try simp only [Act.put, List.setIfInBounds_toArray, List.set_cons_zero, List.set_cons_succ])
                    refine NoPanic.normal ?_
                    go_wp2
                    exact ⟨⟨1, hlt, by go_num, HK2⟩, hmi⟩
                  · obtain ⟨j, hj⟩ : ∃ j, j + 1 = i := ⟨i - 1, by omega⟩
                    have hjx : j < xs.length := by rw [HLn.out]; omega
                    have HN1 := Hd.mk (HNx.out j hj)
                    have HS := HSi.out wr.drew j hjx HK2.out
                    have S0 : Hd (∀ w', Below w3.heap.size w3 w' → w'.cell? ⟨g, o + i, none⟩ = some (.string X) ∧ w'.cell? ⟨g, o + j, none⟩ = some (.string xs[j])) := ⟨fun w' hb => ⟨HC.out w' hb, HE.out j hjx w' hb⟩⟩
                    obtain ⟨Z, hZ⟩ : ∃ Z, xs[j] = Z := ⟨_, rfl⟩
                    rw [hZ] at HS S0 HN1
                    have b1 : (i : Int) < (M : Int) := by omega
                    have b3 : (j : Int) < (M : Int) := by omega
                    have g7 : decide ((0 : Int) < (i : Int)) = true := decide_eq_true (by omega)
                    have hwj : IntKind.i64.wrap ((i : Int) - 1) = (j : Int) := (IntWalk.i64_in _ (by omega)).trans (by omega)
                    have g0 := str_beq Z X
                    have g1 := str_lt Z X
                    clear hZ hjx HB hj
                    by_cases hx : ltS X Z = true
                    · rw [HN1.out hx] at HS
                      have g2 : ltS Z X = false := ltS_asymm hx
                      have hne : ¬ Z = X := fun e => by subst e; rw [ltS_irrefl] at hx; cases hx
                      rw [decide_eq_false hne] at g0
                      rw [g2] at g1
                      have HS := Hd.mk HS
                      clear hx g2 hne HN1
                      go_upto_region 22 with (fail)
                      refine wp_region_lin default (fun w' => w'.cell? ⟨g, o + i, none⟩ = some (.string X) ∧ w'.cell? ⟨g, o + j, none⟩ = some (.string Z)) [(0, true), (1, true), (2, true), (3, true), (4, true), (5, true), (6, true), (7, true), (8, true), (9, true), (10, true), (11, true), (12, true), (13, true), (14, true), (15, true), (16, true), (17, true), (18, true), (19, true), (20, true), (21, true), (22, true), (23, true), (24, true), (25, false), (26, true), (27, true)] (by kernel_rfl) (by kernel_rfl) rfl (by kernel_rfl) (by kernel_rfl) (S0.out _ HK2.out) ?_
                      simp only [pick, List.getD_cons_zero, List.getD_cons_succ]
                      repeat
                        first
                        | (refine lin_free (v := ?_) (by rfl) ?_ ?_
                           rotate_left
                           · intro w' hSw
                             obtain ⟨d0, d1⟩ := hSw
                             go_simp
                             first | done | with_reducible rfl
                           try simp only [Act.put, List.setIfInBounds_toArray, List.set_cons_zero, List.set_cons_succ])
                        | (refine lin_skip (by rfl) ?_
                           try simp only [Act.put, List.setIfInBounds_toArray, List.set_cons_zero, List.set_cons_succ])
                      refine lin_bound (fun K hK => ?_)
                      go_simp
                      refine HS.out.mono ?_
                      rintro e w5 ⟨rfl, b5⟩
                      dsimp only
                      have HK5 : Hd (Below w3.heap.size w3 w5) := ⟨HK2.out.trans (b5.mono HK2.out.size)⟩
                      clear b5 HS
                      refine hK.out _ _ (S0.out _ HK5.out) ?_
                      clear hK K HK2
                      repeat
                        first
                        | (refine lin_free (v := ?_) (by rfl) ?_ ?_
                           rotate_left
                           · intro w' hSw
                             obtain ⟨d0, d1⟩ := hSw
                             go_simp
                             first | done | with_reducible rfl
                           try simp only [Act.put, List.setIfInBounds_toArray, List.set_cons_zero, List.set_cons_succ])
                        | (refine lin_skip (by rfl) ?_
                           try simp only [Act.put, List.setIfInBounds_toArray, List.set_cons_zero, List.set_cons_succ])
                      refine NoPanic.normal ?_
                      go_wp2
                      exact ⟨⟨i + 1, hlt, by go_num, HK5⟩, hmi⟩
                    · have hx' : ltS X Z = false := by simpa using hx
                      clear HS HN1 hx
                      by_cases hne : Z = X
                      · rw [decide_eq_true hne] at g0
                        subst hne
                        rw [ltS_irrefl] at g1
                        go_upto_region 22 with (fail)
                        refine wp_region_lin default (fun w' => w'.cell? ⟨g, o + i, none⟩ = some (.string Z) ∧ w'.cell? ⟨g, o + j, none⟩ = some (.string Z)) [(0, true), (1, true), (2, true), (3, true), (4, true), (5, true), (6, true), (7, true), (8, true), (9, true), (10, true), (11, true), (12, true), (13, true), (14, true), (15, true), (16, true), (17, true), (18, true), (19, true), (20, true), (21, true), (22, true), (23, true), (24, true), (25, false), (26, true), (27, true)] (by kernel_rfl) (by kernel_rfl) rfl (by kernel_rfl) (by kernel_rfl) (S0.out _ HK2.out) ?_
                        simp only [pick, List.getD_cons_zero, List.getD_cons_succ]
                        repeat
                          first
                          | (refine lin_free (v := ?_) (by rfl) ?_ ?_
                             rotate_left
                             · intro w' hSw
                               obtain ⟨d0, d1⟩ := hSw
                               go_simp
                               first | done | with_reducible rfl
                             try simp only [Act.put, List.setIfInBounds_toArray, List.set_cons_zero, List.set_cons_succ])
                          | (refine lin_skip (by rfl) ?_
                             try simp only [Act.put, List.setIfInBounds_toArray, List.set_cons_zero, List.set_cons_succ])
                        refine lin_bound (fun K hK => ?_)
                        go_simp
                        refine hK.out _ _ (S0.out _ HK2.out) ?_
                        clear hK K
                        try simp only [Act.put, List.setIfInBounds_toArray, List.set_cons_zero, List.set_cons_succ]
                        repeat
                          first
                          | (refine lin_free (v := ?_) (by rfl) ?_ ?_
                             rotate_left
                             · intro w' hSw
                               obtain ⟨d0, d1⟩ := hSw
                               go_simp
                               first | done | with_reducible rfl
                             try simp only [Act.put, List.setIfInBounds_toArray, List.set_cons_zero, List.set_cons_succ])
                          | (refine lin_skip (by rfl) ?_
                             try simp only [Act.put, List.setIfInBounds_toArray, List.set_cons_zero, List.set_cons_succ])
                        refine NoPanic.normal ?_
                        go_wp2
                        exact ⟨⟨i + 1, hlt, by go_num, HK2⟩, hmi⟩
                      · rw [decide_eq_false hne] at g0
                        have g2 : ltS Z X = true := by
                          rcases hz : ltS Z X with _ | _
                          · exact absurd (ltS_tri hz hx') hne
                          · rfl
                        rw [g2] at g1
                        clear hne g2 hx'
                        go_upto_region 22 with (fail)
                        refine wp_region_lin default (fun w' => w'.cell? ⟨g, o + i, none⟩ = some (.string X) ∧ w'.cell? ⟨g, o + j, none⟩ = some (.string Z)) [(0, true), (1, true), (2, true), (3, true), (4, true), (5, true), (6, true), (7, true), (8, true), (9, true), (10, true), (11, true), (12, true), (13, true), (14, true), (15, true), (16, true), (17, true), (18, true), (19, true), (20, true), (21, true), (22, true), (23, true), (24, true), (25, false), (26, true), (27, true)] (by kernel_rfl) (by kernel_rfl) rfl (by kernel_rfl) (by kernel_rfl) (S0.out _ HK2.out) ?_
                        simp only [pick, List.getD_cons_zero, List.getD_cons_succ]
                        repeat
                          first
                          | (refine lin_free (v := ?_) (by rfl) ?_ ?_
                             rotate_left
                             · intro w' hSw
                               obtain ⟨d0, d1⟩ := hSw
                               go_simp
                               first | done | with_reducible rfl
                             try simp only [Act.put, List.setIfInBounds_toArray, List.set_cons_zero, List.set_cons_succ])
                          | (refine lin_skip (by rfl) ?_
                             try simp only [Act.put, List.setIfInBounds_toArray, List.set_cons_zero, List.set_cons_succ])
                        refine lin_bound (fun K hK => ?_)
                        go_simp
                        refine hK.out _ _ (S0.out _ HK2.out) ?_
                        clear hK K
                        try simp only [Act.put, List.setIfInBounds_toArray, List.set_cons_zero, List.set_cons_succ]
                        repeat
                          first
                          | (refine lin_free (v := ?_) (by rfl) ?_ ?_
                             rotate_left
                             · intro w' hSw
                               obtain ⟨d0, d1⟩ := hSw
                               go_simp
                               first | done | with_reducible rfl
                             try simp only [Act.put, List.setIfInBounds_toArray, List.set_cons_zero, List.set_cons_succ])
                          | (refine lin_skip (by rfl) ?_
                             try simp only [Act.put, List.setIfInBounds_toArray, List.set_cons_zero, List.set_cons_succ])
                        refine NoPanic.normal ?_
                        go_wp2
                        exact ⟨⟨i + 1, hlt, by go_num, HK2⟩, hmi⟩
        · have hd1 : decide ((i : Int) < (M : Int)) = false := decide_eq_false (by omega)
          go_wp2
          go_ret
          exact ⟨ret_b (by simp), HB3.out.trans (HB.out.mono HB3.out.size)⟩

end Go.Proofs.Ytmgkoocpnakanaa.W
