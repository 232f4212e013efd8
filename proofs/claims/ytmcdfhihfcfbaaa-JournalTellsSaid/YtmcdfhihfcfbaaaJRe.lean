import Derived.Test.YtmcdfhihfcfbaaaOrd2
import Derived.Test.YtmcdfhihfcfbaaaJRb
import Derived.Test.YtmcdfhihfcfbaaaJRr
import Derived.Test.YtmcdfhihfcfbaaaJAr
import Derived.Test.YtmcdfhihfcfbaaaJSm
/-
  As XOrd, with a tree of orders: where two operations may both come up, each branch goes its own way.
-/
namespace Go.Proofs.Ytmcdfhihfcfbaaa.W
open Go.RowKit
set_option linter.unusedVariables false

/-- a tree of orders -/
inductive Tr where
  | done
  | free (i : Nat) (r : Tr)
  | one (i : Nat) (r : Tr)
  | two (i : Nat) (r : Tr) (j : Nat) (s : Tr)
def Tr.len : Tr → Nat
  | .done => 0
  | .free _ r => r.len + 1
  | .one _ r => r.len + 1
  | .two _ r _ _ => r.len + 1
def Tr.bel (n : Nat) : Tr → Bool
  | .done => true
  | .free i r => decide (i < n) && r.bel n
  | .one i r => decide (i < n) && r.bel n
  | .two i r j s => decide (i < n) && decide (j < n) && r.bel n && s.bel n

section
variable {P : Program} {Q : Exit → Act → World → Prop} {S : World → Prop}

def wpTr (P : Program) (l : List Oper) (Q : Exit → Act → World → Prop) (S : World → Prop) (d : Oper) : Tr → Act → World → Prop
  | .done, a, w => Q .normal a w
  | .free i r, a, w => ∃ v, YieldsIf P l.toArray S (l.getD i d) v a ∧ wpTr P l Q S d r (a.put (l.getD i d).dst v) w
  | .one i r, a, w => getB P l.toArray Q (l.getD i d) (fun a' w' => S w' ∧ wpTr P l Q S d r a' w') a w
  | .two i r j s, a, w => getB P l.toArray Q (l.getD i d) (fun a' w' => S w' ∧ wpTr P l Q S d r a' w') a w ∧ getB P l.toArray Q (l.getD j d) (fun a' w' => S w' ∧ wpTr P l Q S d s a' w') a w

def ordT (ops : Array Oper) : Tr → Array Bool → Bool
  | .done, listed => (Region.ready .any ops listed).isEmpty
  | .free i r, listed => (Region.ready .any ops listed).contains i && Region.free .any ops listed i && ordT ops r (listed.setIfInBounds i true)
  | .one i r, listed => decide (Region.ready .any ops listed = [i]) && ordT ops r (listed.setIfInBounds i true)
  | .two i r j s, listed => decide (Region.ready .any ops listed = [i, j]) && decide (r.len = s.len) && ordT ops r (listed.setIfInBounds i true) && ordT ops s (listed.setIfInBounds j true)

theorem wpAnyH_of_tr {l : List Oper} {d : Oper} (hsel : Region.noSelect l.toArray = true) (hQ : ∀ c a w, ¬ Q (.panic c) a w) : ∀ (t : Tr) (listed : Array Bool) (a : Act) (w : World),
    t.bel l.length = true → ordT l.toArray t listed = true → S w → wpTr P l Q S d t a w → wpAnyH P .any l.toArray Q S t.len listed a w
  | .done, listed, a, w, _, hB, hS, h => ⟨by simpa [ordT] using hB, h⟩
  | .free i r, listed, a, w, hi, hB, hS, h => by
    simp only [ordT, Bool.and_eq_true] at hB
    simp only [Tr.bel, Bool.and_eq_true, decide_eq_true_eq] at hi
    obtain ⟨⟨hr, hf⟩, hB'⟩ := hB
    obtain ⟨v, hy, h'⟩ := h
    have hl := hi.1
    have e : l.getD i d = l[i] := by simp [List.getD_eq_getElem?_getD, hl]
    rw [e] at hy h'
    exact wpAnyH_take (oi := l[i]) (by simp) hsel hf hr (fun c a w hq => absurd hq (hQ c _ w)) hy hS (wpAnyH_of_tr hsel hQ r _ _ w hi.2 hB' hS h')
  | .one i r, listed, a, w, hi, hB, hS, h => by
    simp only [ordT, Bool.and_eq_true, decide_eq_true_eq] at hB
    simp only [Tr.bel, Bool.and_eq_true, decide_eq_true_eq] at hi
    refine wpAnyH_all hB.1 (by simp) (fun x hx => ?_)
    have hxi : x = i := by simpa using hx
    subst hxi
    exact getB_op hi.1 h (fun a' w' h' => ⟨h'.1, wpAnyH_of_tr hsel hQ r _ a' w' hi.2 hB.2 h'.1 h'.2⟩)
  | .two i r j s, listed, a, w, hi, hB, hS, h => by
    simp only [ordT, Bool.and_eq_true, decide_eq_true_eq] at hB
    simp only [Tr.bel, Bool.and_eq_true, decide_eq_true_eq] at hi
    obtain ⟨⟨⟨h1, h2⟩, h3⟩, h4⟩ := hB
    obtain ⟨⟨⟨i1, i2⟩, i3⟩, i4⟩ := hi
    refine wpAnyH_all h1 (by simp) (fun x hx => ?_)
    have hx' : x = i ∨ x = j := by simpa using hx
    rcases hx' with rfl | rfl
    · exact getB_op i1 h.1 (fun a' w' h' => ⟨h'.1, wpAnyH_of_tr hsel hQ r _ a' w' i3 h3 h'.1 h'.2⟩)
    · refine getB_op i2 h.2 (fun a' w' h' => ⟨h'.1, ?_⟩)
      rw [show r.len = s.len from h2]
      exact wpAnyH_of_tr hsel hQ s _ a' w' i4 h4 h'.1 h'.2

theorem wp_region_tr {id : Nat} {a : Act} {w : World} {l : List Oper} (d : Oper) (S : World → Prop) (t : Tr) (hm : P.follows .mixedOrders = true) (hsel : Region.noSelect l.toArray = true) (hn : t.len = l.length)
    (hB : ordT l.toArray t (Array.replicate l.toArray.size false) = true) (hi : t.bel l.length = true) (hS : S w.drew) (h : wpTr P l (NoPanic Q) S d t a w.drew) : (Code.region id l.toArray true).wp P Q a w :=
  wp_region_noPanic (wp_region_held_drew (S := S) hm hS (fun _ => by
    have := wpAnyH_of_tr (S := S) (Q := NoPanic Q) hsel (fun c a w h => h) t _ a w.drew hi hB hS h
    rw [hn] at this
    simpa using this))
theorem tr_free {l : List Oper} {d : Oper} {i : Nat} {r : Tr} {a : Act} {w : World} {v : Value} (hw : Region.wanted (l.getD i d) (yielded l.toArray a.tmps) = true)
    (hy : ∀ w', S w' → (execOp a.eval (l.getD i d)).run P w' = .ok (.value v) w') (h : wpTr P l Q S d r (a.put (l.getD i d).dst v) w) : wpTr P l Q S d (.free i r) a w :=
  ⟨v, .inl ⟨hw, hy⟩, h⟩
theorem tr_one {l : List Oper} {d : Oper} {i : Nat} {r : Tr} {a : Act} {w : World}
    (h : ∀ K' : Act → World → Prop, Hd (∀ a w, S w → wpTr P l Q S d r a w → K' a w) → if Region.wanted (l.getD i d) (yielded l.toArray a.tmps) = true then Oper.wp P (l.getD i d) a w K' Q else K' (a.put (l.getD i d).dst undef) w) :
    wpTr P l Q S d (.one i r) a w := by
  have e : wpTr P l Q S d (.one i r) a w = getB P l.toArray Q (l.getD i d) (fun a' w' => S w' ∧ wpTr P l Q S d r a' w') a w := rfl
  rw [e]
  exact h _ ⟨fun a w hS hW => ⟨hS, hW⟩⟩
theorem tr_two {l : List Oper} {d : Oper} {i j : Nat} {r s : Tr} {a : Act} {w : World} (h1 : wpTr P l Q S d (.one i r) a w) (h2 : wpTr P l Q S d (.one j s) a w) : wpTr P l Q S d (.two i r j s) a w := ⟨h1, h2⟩
end

end Go.Proofs.Ytmcdfhihfcfbaaa.W

/-
  JournalTells: the reference's log, first part: Number, Forms, Header; how it lies in memory; Open.
-/
namespace Go.Proofs.Ytmcdfhihfcfbaaa.W
open Go.RowKit
set_option linter.unusedVariables false

theorem rnumber_any (n : Nat) (w : World) (h : n ≤ 9223372036854775807) : Calls Try.prog 82 #[.int .i64 n] w fun e w' => e = .returned (.string ⟨(num8 n).toArray⟩) ∧ Below w.heap.size w w' := by
  have HP : Hd (∀ w, Calls Try.prog 91 #[.string ⟨#[0, 0, 0, 0, 0, 0, 0, 0]⟩, .int .i64 0, .int .i64 8, .int .i64 n] w fun e w' => e = .returned (.tuple #[.string ⟨(num8 n).toArray⟩, .bool true]) ∧ Below w.heap.size w w') := ⟨fun w => by
    have := Wd.rput_any ⟨#[0, 0, 0, 0, 0, 0, 0, 0]⟩ 0 8 n w (by decide) (by omega) (by omega)
    rw [(put8 n h).1, (put8 n h).2] at this
    exact this⟩
  clear h
  go_enter Try.func82, Try.ntmps82
  go_wp2_with fail
  refine (HP.out _).mono ?_
  rintro e w1 ⟨rfl, b1⟩
  have B1 := Hd.mk b1; clear b1
  go_wp2
  go_ret
  exact ⟨rfl, B1.out⟩

theorem forms_str (rs : List ByteArray) (k : Nat) (h : k < rs.length) : (⟨(formsL (rs.take k)).toArray⟩ : ByteArray) ++ ⟨(num8 rs[k].size).toArray⟩ ++ rs[k] = ⟨(formsL (rs.take (k + 1))).toArray⟩ := by
  rw [take_forms rs k h]
  apply ByteArray.ext
  simp [formL]

set_option maxHeartbeats 2000000 in
set_option maxRecDepth 100000 in
theorem rforms_any (w : World) (v : Value) (rs : List ByteArray) (hl : (formsL rs).length ≤ 1000000000) (hv : Rw 1 strE w v rs) :
    Calls Try.prog 62 #[v] w fun e w' => e = .returned (.string ⟨(formsL rs).toArray⟩) ∧ Below w.heap.size w w' := by
  obtain ⟨pv, cv, rfl⟩ := hv.slice
  have hlen := len_le_forms rs
  obtain ⟨N, hN⟩ : ∃ N, rs.length = N := ⟨_, rfl⟩
  rw [hN] at hv hlen ⊢
  have HN := Hd.mk hN
  have HV := Hd.mk hv
  have hN9 : N ≤ 1000000000 := by omega
  have HL := Hd.mk hl
  clear hv hN hl hlen
  go_enter Try.func62, Try.ntmps62
  go_wp2
  go_loopw [3, 4] (fun s i wr => ∃ (k : Nat) (x : ByteArray), k ≤ N ∧ s = .string x ∧ i = .int .i64 k ∧ Hd (x = ⟨(formsL (rs.take k)).toArray⟩) ∧ Hd (Below w.heap.size w wr)) (fun _ i _ => N - (intOf i).toNat)
  case atStart => exact ⟨0, ⟨#[]⟩, Nat.zero_le _, rfl, rfl, ⟨rfl⟩, ⟨Below.refl _ _⟩⟩
  case round =>
    obtain ⟨k, x, hk, rfl, rfl, HX, HB⟩ := hrel
    by_cases hlt : k < N
    · have hd1 : decide ((k : Int) < (N : Int)) = true := by simp; omega
      have hkl : k < rs.length := HN.out ▸ hlt
      have hst := forms_str rs k hkl
      have hfl := forms_take_le rs (k + 1)
      have hfe := take_forms rs k hkl
      have hat := (HV.out.below strE_stays HB.out).at rfl hkl
      obtain ⟨g, o, cs, hpv, hg, hc1, hcs0, hc⟩ := hat
      have hcs : cs = [.string rs[k]] := hcs0
      clear hcs0 hc1
      subst hcs
      subst hpv
      have hc0 := hc 0 _ rfl
      rw [Nat.mul_one, Nat.add_zero] at hc0
      obtain ⟨r, hr⟩ : ∃ r, rs[k] = r := ⟨_, rfl⟩
      rw [hr] at hc0 hst hfe
      have hsz := HL.out
      have hfl2 := congrArg List.length hfe
      rw [List.length_append, formL_len] at hfl2
      have hrs : r.size ≤ 1000000000 := by omega
      have hxs : x.size = (formsL (rs.take k)).length := by rw [HX.out]; rfl
      have hNum := Hd.mk (fun w => rnumber_any r.size w (by omega))
      obtain ⟨nm, hnm⟩ : ∃ nm, (⟨(num8 r.size).toArray⟩ : ByteArray) = nm := ⟨_, rfl⟩
      have hns : nm.size = 8 := by rw [← hnm]; exact num8_len r.size
      rw [hnm] at hNum hst
      rw [← HX.out] at hst
      have a1 : ¬ 9223372036854775807 < x.size + nm.size := by omega
      have a2 : ¬ 9223372036854775807 < x.size + nm.size + r.size := by omega
      have HST := Hd.mk hst
      have HG := Hd.mk hg
      clear hst hfl hfe hc hkl hr hsz hfl2 hxs hnm hns hk hrs
      have HC : Hd (∀ w', Below wr.heap.size wr w' → w'.cell? ⟨g, o + k, none⟩ = some (.string r)) := ⟨fun w' hb => by rw [hb.cell (p := ⟨g, o + k, none⟩) HG.out]; exact hc0⟩
      go_wp2_with fail
      refine wp_region_lin default (fun w' => w'.cell? ⟨g, o + k, none⟩ = some (.string r)) [(0, true), (1, true), (2, true), (3, true), (4, true), (5, true), (8, true), (9, true), (10, true), (11, true), (6, false), (7, true), (12, true), (13, true)] (by kernel_rfl) (by kernel_rfl) rfl (by kernel_rfl) (by kernel_rfl) hc0 ?_
      simp only [pick, List.getD_cons_zero, List.getD_cons_succ]
      clear hc0
      repeat
        refine lin_free (v := ?_) (by rfl) ?_ ?_
        rotate_left
        · intro w' hSw
          go_simp
          first | done | with_reducible rfl
        simp only [Act.put, List.setIfInBounds_toArray, List.set_cons_zero, List.set_cons_succ]
      refine lin_bound (fun K hK => ?_)
      go_simp
      refine (hNum.out _).mono ?_
      rintro e w3 ⟨rfl, b3⟩
      dsimp only
      refine hK.out _ _ (HC.out w3 ((Below.refl _ wr).drew.trans b3)) ?_
      have HB3 := Hd.mk (Below.chain HB.out ((Below.refl _ wr).drew.trans b3))
      clear hK K b3 hNum
      repeat
        refine lin_free (v := ?_) (by rfl) ?_ ?_
        rotate_left
        · intro w' hSw
          go_simp
          first | done | with_reducible rfl
        simp only [Act.put, List.setIfInBounds_toArray, List.set_cons_zero, List.set_cons_succ]
      refine NoPanic.normal ?_
      go_wp2
      go_roundw
      case rel => exact ⟨k + 1, _, hlt, rfl, by go_num, HST, HB3⟩
      case measure => simp [intOf]; omega
    · have hd1 : decide ((k : Int) < (N : Int)) = false := by simp; omega
      have hkN : k = N := by omega
      have HXe : Hd (x = ⟨(formsL rs).toArray⟩) := ⟨by rw [HX.out, hkN, ← HN.out, List.take_length]⟩
      clear hkN HX
      go_wp2
      go_ret
      exact ⟨ret_s HXe.out, HB.out⟩

theorem rheader_any (w : World) (v : Value) (rs : List ByteArray) (hl : (formsL rs).length ≤ 1000000000) (hv : Rw 1 strE w v rs) :
    Calls Try.prog 60 #[v] w fun e w' => e = .returned (.string ⟨(headL (endL rs) rs.length).toArray⟩) ∧ Below w.heap.size w w' := by
  obtain ⟨pv, cv, rfl⟩ := hv.slice
  have hlen := len_le_forms rs
  have HF := Hd.mk (rforms_any w _ rs hl hv)
  have HA := Hd.mk (fun w => rnumber_any (endL rs) w (by unfold endL; omega))
  have HB := Hd.mk (fun w => rnumber_any rs.length w (by omega))
  have he : endL rs = 16 + (formsL rs).length := rfl
  have hfs : (⟨(formsL rs).toArray⟩ : ByteArray).size = (formsL rs).length := rfl
  have hst := head_str (endL rs) rs.length
  obtain ⟨fs, hf⟩ : ∃ fs : ByteArray, (⟨(formsL rs).toArray⟩ : ByteArray) = fs := ⟨_, rfl⟩
  obtain ⟨en, hen⟩ : ∃ en, endL rs = en := ⟨_, rfl⟩
  obtain ⟨N, hN⟩ : ∃ N, rs.length = N := ⟨_, rfl⟩
  rw [hf] at HF hfs
  rw [hen] at HA he hst ⊢
  rw [hN] at HB hst HF ⊢
  have hw : wrap64 ((16 : Int) + (fs.size : Int)) = (en : Int) := by unfold wrap64; omega
  have s1 : ¬ 9223372036854775807 < (⟨(num8 en).toArray⟩ : ByteArray).size + (⟨(num8 N).toArray⟩ : ByteArray).size := by
    have e1 : (⟨(num8 en).toArray⟩ : ByteArray).size = 8 := num8_len en
    have e2 : (⟨(num8 N).toArray⟩ : ByteArray).size = 8 := num8_len N
    omega
  obtain ⟨x, hx⟩ : ∃ x, (⟨(num8 en).toArray⟩ : ByteArray) = x := ⟨_, rfl⟩
  obtain ⟨y, hy⟩ : ∃ y, (⟨(num8 N).toArray⟩ : ByteArray) = y := ⟨_, rfl⟩
  rw [hx] at HA hst s1
  rw [hy] at HB hst s1
  have HST := Hd.mk hst
  clear hv hlen hl hfs he hst hf hen hN hx hy
  go_enter Try.func60, Try.ntmps60
  go_wp2_with fail
  refine HF.out.mono ?_
  rintro e w1 ⟨rfl, b1⟩
  have B1 := Hd.mk b1; clear b1
  go_wp2_with fail
  refine (HA.out w1).mono ?_
  rintro e w2 ⟨rfl, b2⟩
  have B2 := Hd.mk b2; clear b2
  go_wp2_with fail
  refine (HB.out w2).mono ?_
  rintro e w3 ⟨rfl, b3⟩
  have B3 := Hd.mk b3; clear b3
  go_wp2
  go_ret
  exact ⟨ret_s HST.out, Below.chain (Below.chain B1.out B2.out) B3.out⟩

/-! How the reference's log lies in memory. -/

def rlCells (E : Nat) (f : Int) (v : Value) (s : Int) : List Value := [.pointer (some ⟨E, 0, none⟩), .int .i64 f, v, .int .i64 s]

/-- the reference's log; P: its rows' block -/
structure RLog (w : World) (M E : Nat) (l : Lg) (P : Option Nat) : Prop where
  is : ∃ v, Blk w M 56 (rlCells E l.f v l.sure) ∧ Own w 0 9 v (l.rows.map Value.string) ∧ v.ownBlock = P
  ok : LgOk l

section
variable {w w' : World} {M E : Nat} {l : Lg} {P : Option Nat}
theorem RLog.lt (h : RLog w M E l P) : M < w.heap.size := by obtain ⟨v, hb, _⟩ := h.is; exact hb.lt
theorem RLog.heap (h : RLog w M E l P) : ∃ cur fz, w.heap[M]? = some (.cells cur 56 fz) := by obtain ⟨v, hb, _⟩ := h.is; exact ⟨_, _, hb.is⟩
theorem RLog.rowHeap (h : RLog w M E l P) {g : Nat} (hg : P = some g) : ∃ cur fz, w.heap[g]? = some (.cells cur 9 fz) := by
  obtain ⟨v, hb, hO, hR⟩ := h.is
  subst hR
  rcases hO.is with ⟨rfl, _⟩ | ⟨g', cap, rfl, _, _, _, ⟨cur, fz, hg', _⟩, _⟩
  · cases hg
  · have : g' = g := by simpa [Value.ownBlock] using hg
    subst this
    exact ⟨_, _, hg'⟩
theorem RLog.rowLt (h : RLog w M E l P) {g : Nat} (hg : P = some g) : g < w.heap.size := by
  obtain ⟨_, _, h'⟩ := h.rowHeap hg; exact lt_of_heap h'
theorem RLog.ne (h : RLog w M E l P) : P ≠ some M := fun e => by
  obtain ⟨_, _, h1⟩ := h.heap
  obtain ⟨_, _, h2⟩ := h.rowHeap e
  rw [h1] at h2
  injection h2 with h2; injection h2 with _ h2 _; exact absurd h2 (by decide)
theorem RLog.keeps {S : Nat → Prop} (h : RLog w M E l P) (k : Keeps S w w') (hL : ¬ S M) (hR : ∀ g, P = some g → ¬ S g) : RLog w' M E l P := by
  obtain ⟨v, hb, hO, rfl⟩ := h.is
  exact ⟨⟨v, k.blk hb hL, hO.keeps k hR, rfl⟩, h.ok⟩
theorem RLog.next (h : RLog w M E l P) (k : Keeps (fun _ => False) w w') : RLog w' M E l P := h.keeps k (fun h => h) (fun _ _ h => h)
end

/-- the others' blocks: Z and the rows of the reference's log -/
abbrev oth (Z : Nat → Prop) (P : Option Nat) : Others := ⟨fun g => Z g ∨ P = some g⟩

/-- the reference's disk outlasts what is done to other blocks, and the set of the others' blocks may change -/
theorem RRep.shift {O O' : Others} {S : Nat → Prop} {w w' : World} {B E : Nat} {σ : St} (h : @RRep O w B E σ) (k : Keeps S w w')
    (hs : ∀ g, S g → (O.X g ∧ ∃ cur fz, w.heap[g]? = some (.cells cur 9 fz)) ∨ ∃ cur T fz, w.heap[g]? = some (.cells cur T fz) ∧ T ≠ 88 ∧ T ≠ 9 ∧ T ≠ 109 ∧ T ≠ 3)
    (hX : ∀ g, O'.X g → O.X g ∨ w.heap.size ≤ g) (hlt : ∀ g, O'.X g → g < w'.heap.size) : @RRep O' w' B E σ := by
  obtain ⟨lv, qv, kv, hb, hl, hq, hk⟩ := @RRep.is O w B E σ h
  have ty : ∀ {g cur T fz}, w.heap[g]? = some (Obj.cells cur T fz) → (T = 88 ∨ T = 109 ∨ T = 3) → ¬ S g := fun {g cur T fz} hg hT hS => by
    rcases hs g hS with ⟨_, cur', fz', hg'⟩ | ⟨cur', T', fz', hg', t1, t2, t3, t4⟩
    · rw [hg] at hg'
      injection hg' with hg'; injection hg' with _ e _
      rcases hT with rfl | rfl | rfl <;> exact absurd e (by decide)
    · rw [hg] at hg'
      injection hg' with hg'; injection hg' with _ e _
      rcases hT with rfl | rfl | rfl
      · exact t1 e.symm
      · exact t3 e.symm
      · exact t4 e.symm
  refine ⟨⟨lv, qv, kv, k.blk hb (ty hb.is (.inl rfl)), ⟨(@LRow.o O _ _ _ _ hl).keeps k (fun g hg hS => ?_), fun g hg hX' => ?_, hlt⟩, hq.keeps k (fun g cur fz hg => ty hg (.inr (.inl rfl))), hk.keeps k (fun g cur fz hg => ty hg (.inr (.inr rfl)))⟩, @RRep.ok O w B E σ h, @RRep.rd O w B E σ h, @RRep.ge O w B E σ h⟩
  · rcases hs g hS with ⟨hx, _⟩ | ⟨cur', T', fz', hg', t1, t2, t3, t4⟩
    · exact @LRow.x O _ _ _ _ hl g hg hx
    · rcases (@LRow.o O _ _ _ _ hl).is with ⟨rfl, _⟩ | ⟨g', cap, rfl, _, _, _, ⟨cur, fz, hg2, _⟩, _⟩
      · cases hg
      · have : g' = g := by simpa [Value.ownBlock] using hg
        subst this
        rw [hg2] at hg'
        injection hg' with hg'; injection hg' with _ e _
        exact t2 e.symm
  · rcases hX g hX' with hx | hx
    · exact @LRow.x O _ _ _ _ hl g hg hx
    · exact Nat.lt_irrefl _ (Nat.lt_of_lt_of_le ((@LRow.o O _ _ _ _ hl).lt hg).2 hx)

/-- what Open leaves -/
structure ROpenOut (w w' : World) (E : Nat) (σ : St) (f : Int) (e : Ending) : Prop where
  keeps : Keeps (fun _ => False) w w'
  is : ((openP σ f).1 ≠ 0 ∧ e = .returned (.tuple #[.pointer none, .int .i64 ((openP σ f).1 : Nat)])) ∨ ((openP σ f).1 = 0 ∧ ∃ M P, e = .returned (.tuple #[.pointer (some ⟨M, 0, none⟩), .int .i64 0]) ∧ RLog w' M E ⟨f.toNat, (openP σ f).2, (openP σ f).2.length⟩ P ∧ w.heap.size ≤ M ∧ ∀ g, P = some g → w.heap.size ≤ g)

theorem endL_open {s : List UInt8} {rs : List ByteArray} (h : openL s = some rs) (hs : s.length ≤ 16777216) : endL rs ≤ 16777216 := by
  by_cases h16 : s.length < 16
  · rw [openL_empty s h16] at h; cases h; decide
  · rw [openL_cases s h16] at h
    split at h
    · cases h; decide
    · split at h
      · cases h
      · rename_i h0 hn
        rcases hp : parse ((s.take (numOf s).toNat).drop 16) with _ | r
        · rw [hp] at h; cases h
        · rw [hp] at h
          simp only [Option.bind_some] at h
          split at h
          · cases h
            have := parseF_len _ _ _ hp
            rw [List.length_drop, List.length_take] at this
            unfold endL
            omega
          · cases h

set_option maxHeartbeats 2000000 in
set_option maxRecDepth 100000 in
theorem ropen_any [Others] (w : World) (B E : Nat) (σ : St) (f : Int) (hlen : σ.queue.length ≤ 1000000000) (h : RRep w B E σ) :
    Calls Try.prog 21 #[.pointer (some ⟨E, 0, none⟩), .int .i64 f] w fun e w' => ROpenOut w w' E σ f e := by
  by_cases h0 : f < 0
  · have e : Hd (openP σ f = (1, [])) := ⟨by unfold openP; rw [if_pos (.inl h0)]⟩
    clear h
    go_enter Try.func21, Try.ntmps21
    go_wp2
    go_ret2
    exact ⟨Keeps.refl _ _, .inl ⟨by rw [e.out]; decide, by rw [e.out]; rfl⟩⟩
  by_cases h6 : 6 < f
  · have e : Hd (openP σ f = (1, [])) := ⟨by unfold openP; rw [if_pos (.inr h6)]⟩
    clear h
    go_enter Try.func21, Try.ntmps21
    go_wp2
    go_ret2
    exact ⟨Keeps.refl _ _, .inl ⟨by rw [e.out]; decide, by rw [e.out]; rfl⟩⟩
  obtain ⟨F, rfl⟩ : ∃ F : Nat, f = (F : Int) := ⟨f.toNat, by omega⟩
  have hF6 : F ≤ 6 := by omega
  have hP : openP σ (F : Int) = if mayS σ (F : Int) ≠ 0 then (mayS σ (F : Int), []) else match openL (σ.files.getD F []) with | none => (2, []) | some rs => (0, rs) := by
    unfold openP; rw [if_neg (by omega)]; rfl
  have HRd := Hd.mk (rread_any w B E σ F hlen h)
  have hsz := getD_le h.ok.fl F
  obtain ⟨M, hM⟩ : ∃ M, mayS σ (F : Int) = M := ⟨_, rfl⟩
  obtain ⟨file, hfile⟩ : ∃ file, σ.files.getD F [] = file := ⟨_, rfl⟩
  rw [hM, hfile] at hP
  rw [hfile] at hsz
  have hRL : readL σ (F : Int) = if M = 0 then file else [] := by unfold readL; rw [hM, ← hfile]; rfl
  rw [hRL, hM] at HRd
  have HP := Hd.mk hP
  clear hP hRL hM hfile h hlen
  by_cases hM0 : M = 0
  · subst hM0
    rw [if_pos rfl] at HRd
    obtain ⟨s, hs⟩ : ∃ s : ByteArray, (⟨file.toArray⟩ : ByteArray) = s := ⟨_, rfl⟩
    have hsl : s.data.toList = file := by rw [← hs]
    rw [strV_def, hs] at HRd
    have hss : s.size = file.length := by rw [← hs]; rfl
    subst hsl
    clear hs
    have HP2 : Hd (openP σ (F : Int) = match openL s.data.toList with | none => (2, []) | some rs => (0, rs)) := ⟨by rw [HP.out, if_neg (by decide)]⟩
    have HRo := Hd.mk (fun w => rrows_any w s (by rw [hss]; exact hsz))
    rcases ho : openL s.data.toList with _ | rs
    · rw [ho] at HP2
      have HO := Hd.mk ho
      clear HP hss hsz ho
      go_enter Try.func21, Try.ntmps21
      go_wp2_with fail
      refine HRd.out.mono ?_
      rintro e w1 ⟨rfl, k1⟩
      have K1 := Hd.mk k1
      clear k1 HRd
      go_wp2_with fail
      refine (HRo.out _).mono ?_
      rintro e w2 ⟨b2, v, rfl, hv⟩
      have B2 := Hd.mk b2
      rw [HO.out]
      clear b2 hv HRo
      go_wp2
      go_ret2
      exact ⟨K1.out.trans (Keeps.of_below B2.out (fun k h1 h2 => absurd h1 (Nat.not_lt.2 h2))), .inl ⟨by rw [HP2.out]; decide, by rw [HP2.out]; rfl⟩⟩
    · rw [ho] at HP2
      have HE := Hd.mk (endL_open ho (by rw [← hss] at hsz; exact hsz))
      have HO := Hd.mk ho
      obtain ⟨N, hN⟩ : ∃ N, rs.length = N := ⟨_, rfl⟩
      have HN := Hd.mk hN
      clear HP hss hsz ho hN
      go_enter Try.func21, Try.ntmps21
      go_wp2_with fail
      refine HRd.out.mono ?_
      rintro e w1 ⟨rfl, k1⟩
      have K1 := Hd.mk k1
      clear k1 HRd
      go_wp2_with fail
      refine (HRo.out _).mono ?_
      rintro e w2 ⟨b2, v, rfl, hv⟩
      have K2 : Hd (Keeps (fun _ => False) w1 w2) := ⟨Keeps.of_below b2 (fun k h1 h2 => absurd h1 (Nat.not_lt.2 h2))⟩
      have hO := hv rs HO.out
      rw [HO.out]
      obtain ⟨p, c, rfl⟩ := hO.slice'
      rw [List.length_map, HN.out]
      rw [List.length_map, HN.out] at hO
      have HOw := Hd.mk hO
      clear b2 hv HRo hO
      go_wp2
      go_ret2
      refine ⟨(K1.out.trans K2.out).alloc _, .inr ⟨by rw [HP2.out], w2.heap.size, (Value.slice p N c).ownBlock, rfl, ?_, Nat.le_trans K1.out.size K2.out.size, fun g hg => Nat.le_trans K1.out.size (HOw.out.lt hg).1⟩⟩
      rw [HP2.out]
      refine ⟨⟨_, ?_, (HOw.out.base0.keeps ((Keeps.refl (fun _ => False) w2).alloc _) (fun _ _ h => h)), rfl⟩, ⟨by show F ≤ 6; exact hF6, HE.out, Nat.le_refl _⟩⟩
      show Blk _ w2.heap.size 56 (rlCells E (F : Nat) (.slice p N c) (rs.length : Nat))
      rw [HN.out]
      exact Blk.new w2 56 _
  · have hP' : Hd (openP σ (F : Int) = (M, [])) := ⟨by rw [HP.out, if_pos hM0]⟩
    rw [if_neg hM0] at HRd
    have m1 : ((M : Int) != 0) = true := by simp; omega
    have HM := Hd.mk hM0
    obtain ⟨s, hs⟩ := bytesOf ([] : List UInt8)
    rw [hs, strV_of] at HRd
    clear HP hM0 hsz hs
    go_enter Try.func21, Try.ntmps21
    go_wp2_with fail
    refine HRd.out.mono ?_
    rintro e w1 ⟨rfl, k1⟩
    have K1 := Hd.mk k1
    clear k1 HRd
    go_wp2
    go_ret2
    exact ⟨K1.out, .inl ⟨by rw [hP'.out]; exact HM.out, ret_pi rfl (by rw [hP'.out])⟩⟩

end Go.Proofs.Ytmcdfhihfcfbaaa.W

/-
  JournalTells: the reference's log, second part: Append, Flush, Rewrite.
-/
namespace Go.Proofs.Ytmcdfhihfcfbaaa.W
open Go.RowKit
set_option linter.unusedVariables false

section
variable {Z : Nat → Prop} {P : Option Nat} {w w' : World} {B M E : Nat} {l : Lg} {σ : St}

/-- the others' blocks are not among those that the disk writes -/
theorem RS.not_x [Others] {w : World} {B g : Nat} {cur : Array Value} {fz : Nat × Nat} (hb : w.heap[g]? = some (.cells cur 9 fz)) (hx : Others.X g) : ¬ RS w B g := fun ⟨_, cur', fz', T', h, h'⟩ => by
  rcases h' with h' | h' | h'
  · rw [hb] at h; injection h with h; injection h with _ h _; rw [h'] at h; exact absurd h (by decide)
  · exact h'.2 hx
  · rw [hb] at h; injection h with h; injection h with _ h _; rw [h'] at h; exact absurd h (by decide)

theorem RLog.rk (h : RLog w M E l P) (k : @RK (oth Z P) B w w') : RLog w' M E l P := by
  obtain ⟨cur, fz, hM⟩ := h.heap
  exact h.keeps (@RK.k (oth Z P) _ _ _ k) (@RS.not_typ (oth Z P) w B M cur _ fz hM (by decide) (by decide) (by decide)) (fun g hg => by
    obtain ⟨cur', fz', hP⟩ := h.rowHeap hg
    exact @RS.not_x (oth Z P) w B g cur' fz' hP (.inr hg))

/-- the blocks that an operation of the reference's log may write -/
def RLS (Z : Nat → Prop) (P : Option Nat) (B M : Nat) (w : World) (g : Nat) : Prop := @RS (oth Z P) w B g ∨ g = M ∨ P = some g

/-- what an operation of the reference's log leaves -/
structure RLAfter (Z : Nat → Prop) (B M E : Nat) (σ' : St) (l' : Lg) (P : Option Nat) (w w' : World) : Prop where
  is : ∃ P', @RRep (oth Z P') w' B E σ' ∧ RLog w' M E l' P' ∧ (∀ g, P' = some g → P = some g ∨ w.heap.size ≤ g) ∧ Keeps (RLS Z P B M w) w w'

theorem RLog.at1 (h : RLog w M E l P) : w.cell? ⟨M, 0, none⟩ = some (.pointer (some ⟨E, 0, none⟩)) := by obtain ⟨v, hb, _⟩ := h.is; exact hb.at (j := 0) rfl

theorem RLAfter.of (hr : @RRep (oth Z P) w' B E σ) (hl : RLog w' M E l P) (k : @RK (oth Z P) B w w') : RLAfter Z B M E σ l P w w' :=
  ⟨P, hr, hl, fun g h => .inl h, (@RK.k (oth Z P) _ _ _ k).mono (fun g _ h => .inl h)⟩

/-- the reference's rows and their number are put in place -/
theorem RLAfter.put {w0 w1 w2 : World} {l' : Lg} {P' : Option Nat} (hr : @RRep (oth Z P) w1 B E σ) (hl : RLog w1 M E l P) (k : @RK (oth Z P) B w0 w1) (k2 : Keeps (fun g => g = M ∨ P = some g) w1 w2) (hl' : RLog w2 M E l' P') (hP : ∀ g, P' = some g → P = some g ∨ w1.heap.size ≤ g) : RLAfter Z B M E σ l' P w0 w2 := by
  have ks := (@RK.k (oth Z P) _ _ _ k).size
  refine ⟨P', ?_, hl', fun g hg => (hP g hg).imp_right (Nat.le_trans ks), ?_⟩
  · refine RRep.shift (O := oth Z P) (O' := oth Z P') hr k2 (fun g hg => ?_) (fun g hg => ?_) (fun g hg => ?_)
    · rcases hg with rfl | hg
      · obtain ⟨cur, fz, h⟩ := hl.heap
        exact .inr ⟨cur, _, fz, h, by decide, by decide, by decide, by decide⟩
      · exact .inl ⟨.inr hg, hl.rowHeap hg⟩
    · rcases hg with hg | hg
      · exact .inl (.inl hg)
      · exact (hP g hg).imp_left .inr
    · rcases hg with hg | hg
      · obtain ⟨_, _, _, _, hlr, _⟩ := @RRep.is (oth Z P) _ _ _ _ hr
        exact Nat.lt_of_lt_of_le (@LRow.lt (oth Z P) _ _ _ _ hlr g (.inl hg)) k2.size
      · exact hl'.rowLt hg
  · refine ⟨k2.os.trans (@RK.k (oth Z P) _ _ _ k).os, k2.tape.trans (@RK.k (oth Z P) _ _ _ k).tape, k2.output.trans (@RK.k (oth Z P) _ _ _ k).output, Nat.le_trans ks k2.size, fun i hi hn => ?_⟩
    rw [k2.block i (Nat.lt_of_lt_of_le hi ks) (fun e => hn (.inr e))]
    exact (@RK.k (oth Z P) _ _ _ k).block i hi (fun e => hn (.inl e))

end

theorem rk_pre {Z : Nat → Prop} {P : Option Nat} {B : Nat} {a b c : World} (h : Keeps (fun _ => False) a b) (k : @RK (oth Z P) B b c) : @RK (oth Z P) B a c := @RK.trans (oth Z P) B a b c (@RK.of (oth Z P) B a b h) k

set_option maxRecDepth 100000 in
set_option maxHeartbeats 4000000 in
theorem rlAppend_any (Z : Nat → Prop) (w : World) (B E M : Nat) (l : Lg) (r : ByteArray) (σ : St) (q : Nat) (P : Option Nat) (hB : B ≤ w.heap.size) (hF : FitQ σ q) (hq : q ≤ 900000000) (hr8 : r.size ≤ 10000000) (hr : @RRep (oth Z P) w B E σ) (hl : RLog w M E l P) :
    Calls Try.prog 31 #[.pointer (some ⟨M, 0, none⟩), .string r] w fun e w' => e = .returned (.int .i64 (appE σ l r)) ∧ RLAfter Z B M E (appS σ l r) (appL σ l r) P w w' := by
  obtain ⟨i0, hi, hz0, hz1, hz2⟩ := info_parts rinfoStr
  have HI : Hd (_ ∧ _ ∧ _ ∧ _) := ⟨⟨hi, hz0, hz1, hz2⟩⟩
  clear hi hz0 hz1 hz2
  have hok := hl.ok
  have hfl := formL_len r
  have hsz : (⟨(formL r).toArray⟩ : ByteArray).size = 8 + r.size := hfl
  have hrl := len_le_forms l.rows
  have hrl2 : l.rows.length ≤ 2097152 := by have := hok.e; unfold endL at this; omega
  have hend := hok.e
  have hend2 : (⟨(formsL l.rows).toArray⟩ : ByteArray).size + 16 = endL l.rows := by show (formsL l.rows).length + 16 = 16 + (formsL l.rows).length; omega
  obtain ⟨v, hb, hO, hPv⟩ := hl.is
  have HF1 : Hd (∀ w', Keeps (fun _ => False) w w' → Calls Try.prog 62 #[v] w' fun e w'' => e = .returned (.string ⟨(formsL l.rows).toArray⟩) ∧ Below w'.heap.size w' w'') := ⟨fun w' k =>
    rforms_any w' v l.rows (by unfold endL at hend; omega) (Rw.of_own (hO.keeps k (fun _ _ h => h)) (by rw [List.length_map]) (fun j x u hx hu => by rw [List.getElem?_map, hx] at hu; cases hu; rfl))⟩
  have HF2 : Hd (∀ (w' : World) (g : Nat), Blk w' g 9 [.string r] → Calls Try.prog 62 #[.slice (some ⟨g, 0, none⟩) 1 1] w' fun e w'' => e = .returned (.string ⟨(formL r).toArray⟩) ∧ Below w'.heap.size w' w'') := ⟨fun w' g hb => by
    have := rforms_any w' (.slice (some ⟨g, 0, none⟩) 1 1) [r] (by rw [formsL_one, formL_len]; omega) (lit_strs (ks := [r]) hb rfl)
    rwa [formsL_one] at this⟩
  have HWr : Hd (∀ w', Keeps (fun _ => False) w w' → Calls Try.prog 59 #[.pointer (some ⟨E, 0, none⟩), .int .i64 (l.f : Nat), .int .i64 (endL l.rows : Nat), .string ⟨(formL r).toArray⟩] w' fun e w'' => e = .returned (.int .i64 (appE σ l r)) ∧ @RRep (oth Z P) w'' B E (appS σ l r) ∧ @RK (oth Z P) B w' w'') := ⟨fun w' k =>
    @rwrite_any (oth Z P) w' B E σ (l.f : Nat) (endL l.rows : Nat) ⟨(formL r).toArray⟩ (Nat.le_trans hB k.size) (by have := hF.q; rw [hsz]; omega) (hF.fit (by omega)).a (hF.fit (by omega)).k (by rw [hsz]; omega) (@RRep.next (oth Z P) _ _ _ _ _ hr k)⟩
  have HAL : Hd (appL σ l r = if appE σ l r = 0 then { l with rows := l.rows ++ [r] } else l) := ⟨rfl⟩
  have HAO := Hd.mk (fun h => app_ok (σ := σ) (l := l) (r := r) h hok)
  have HR := Hd.mk hr
  have HL := Hd.mk hl
  have hSd : Blk w M 56 (rlCells E l.f v l.sure) := hb
  obtain ⟨en, hen⟩ : ∃ en, endL l.rows = en := ⟨_, rfl⟩
  obtain ⟨f, hf⟩ : ∃ f, l.f = f := ⟨_, rfl⟩
  obtain ⟨fs, hfs⟩ : ∃ fs, (⟨(formL r).toArray⟩ : ByteArray) = fs := ⟨_, rfl⟩
  obtain ⟨fr, hfr⟩ : ∃ fr, (⟨(formsL l.rows).toArray⟩ : ByteArray) = fr := ⟨_, rfl⟩
  obtain ⟨X, hX⟩ : ∃ X, appE σ l r = X := ⟨_, rfl⟩
  rw [hfs] at HF2 HWr hsz
  rw [hfr] at HF1 hend2
  rw [hen] at HWr hend hend2
  rw [hf] at HWr hSd
  rw [hX] at HWr HAL HAO
  rw [hX]
  have HFF := Hd.mk hf
  obtain ⟨pv, cv, rfl⟩ := hO.slice'
  rw [List.length_map] at hSd HF1
  obtain ⟨n, hn⟩ : ∃ n, l.rows.length = n := ⟨_, rfl⟩
  rw [hn] at hSd HF1 hrl2
  have HN := Hd.mk hn
  have ws : IntKind.i64.wrap ((16 : Int) + (fr.size : Int)) = (en : Int) := by rw [IntWalk.i64_in _ (by omega)]; omega
  clear hr hl hok hfl hrl hF hen hf hfs hX hb hO hPv hsz hend2 hfr hn
  have go : ∀ w', Keeps (fun _ => False) w w' → Blk w' M 56 (rlCells E f (.slice pv n cv) l.sure) := fun w' k => k.blk hSd (fun h => h)
  have HGo := Hd.mk go
  clear go
  go_enter Try.func31, Try.ntmps31
  go_wp2_with fail
  refine wp_region_tr default (fun w' => Blk w' M 56 (rlCells E (f : Nat) (.slice pv n cv) (l.sure : Nat))) (.free 0 <| .free 1 <| .free 2 <| .free 3 <| .free 4 <| .free 5 <| .free 6 <| .free 7 <| .free 8 <| .free 9 <| .free 10 <| .free 11 <| .free 15 <| .two 12 (.free 13 <| .free 14 <| .one 16 <| .one 17 <| .one 18 <| .free 19 .done) 16 (.one 12 <| .free 13 <| .free 14 <| .one 17 <| .one 18 <| .free 19 .done)) (by kernel_rfl) (by kernel_rfl) rfl (by kernel_rfl) (by kernel_rfl) hSd.drew ?_
  clear hSd
  repeat
    refine tr_free (v := ?_) (by rfl) ?_ ?_
    rotate_left
    · intro w' hSw
      have c0 := hSw.at (j := 0) rfl
      have c1 := hSw.at (j := 1) rfl
      have c2 := hSw.at (j := 2) rfl
      go_simp
      first | done | with_reducible rfl
    simp only [Act.put, List.setIfInBounds_toArray, List.set_cons_zero, List.set_cons_succ, List.getD_cons_zero, List.getD_cons_succ]
  refine tr_two ?_ ?_
  · refine tr_one (fun K hK => ?_)
    go_simp
    refine (HF1.out w.drew (Keeps.refl (fun _ => False) w).drew).mono ?_
    rintro e w1 ⟨rfl, b1⟩
    dsimp only
    have K1 : Hd (Keeps (fun _ => False) w w1) := ⟨((Keeps.refl (fun _ => False) w).drew).trans (Keeps.of_below b1 (fun k h1 h2 => absurd h1 (Nat.not_lt.2 h2)))⟩
    refine hK.out _ _ (HGo.out w1 K1.out) ?_
    clear hK K b1
    repeat
      refine tr_free (v := ?_) (by rfl) ?_ ?_
      rotate_left
      · intro w' hSw
        go_simp
        first | done | with_reducible rfl
      simp only [Act.put, List.setIfInBounds_toArray, List.set_cons_zero, List.set_cons_succ, List.getD_cons_zero, List.getD_cons_succ]
    refine tr_one (fun K hK => ?_)
    go_simp
    obtain ⟨w2, hw⟩ : ∃ x, (w1).alloc (.cells #[.string r] 9) = x := ⟨_, rfl⟩
    obtain ⟨g, hg⟩ : ∃ g, (w1).heap.size = g := ⟨_, rfl⟩
    have hb2 : Blk w2 g 9 [.string r] := hg ▸ hw ▸ Blk.new (w1) 9 _
    have K2 : Hd (Keeps (fun _ => False) w w2) := ⟨hw ▸ (K1.out).alloc _⟩
    try simp only [World.drew_heap] at hg ⊢
    rw [hw, hg]
    refine hK.out _ _ (HGo.out w2 K2.out) ?_
    clear hK K hw hg
    refine tr_one (fun K hK => ?_)
    go_simp
    refine (HF2.out w2 g hb2).mono ?_
    rintro e w3 ⟨rfl, b3⟩
    dsimp only
    have K3 : Hd (Keeps (fun _ => False) w w3) := ⟨(K2.out).trans (Keeps.of_below b3 (fun k h1 h2 => absurd h1 (Nat.not_lt.2 h2)))⟩
    refine hK.out _ _ (HGo.out w3 K3.out) ?_
    clear hK K b3 hb2
    refine tr_one (fun K hK => ?_)
    go_simp
    try rw [ws]
    refine (HWr.out w3 K3.out).mono ?_
    rintro e w5 ⟨rfl, hr5, hk5⟩
    dsimp only
    have hL5 := (HL.out.next K3.out).rk hk5
    have HK5 := Hd.mk (rk_pre K3.out hk5)
    have HR5 := Hd.mk hr5
    have HL5 := Hd.mk hL5
    have hb5 : Blk w5 M 56 (rlCells E (f : Nat) (.slice pv n cv) (l.sure : Nat)) := by
      obtain ⟨cur, fz, hM⟩ := (HL.out.next K3.out).heap
      exact (@RK.k (oth Z P) _ _ _ hk5).blk (HGo.out _ K3.out) (@RS.not_typ (oth Z P) _ B M cur _ fz hM (by decide) (by decide) (by decide))
    refine hK.out _ _ hb5 ?_
    have HB5 := Hd.mk hb5
    clear hK K hr5 hk5 hL5 hb5 HWr HF1 HF2
    repeat
      refine tr_free (v := ?_) (by rfl) ?_ ?_
      rotate_left
      · intro w' hSw
        go_simp
        first | done | with_reducible rfl
      simp only [Act.put, List.setIfInBounds_toArray, List.set_cons_zero, List.set_cons_succ, List.getD_cons_zero, List.getD_cons_succ]
    refine NoPanic.normal ?_
    by_cases hz : X = 0
    · subst hz
      have e2 : w5.cell? ⟨M, 2, none⟩ = some (.slice pv n cv) := HB5.out.at (j := 2) rfl
      have HOw : Hd (Own w5 0 9 (.slice pv n cv) (l.rows.map Value.string) ∧ (Value.slice pv n cv).ownBlock = P) := ⟨by
        obtain ⟨v5, hb5, hO5, hP5⟩ := HL5.out.is
        have e5 : w5.cell? ⟨M, 2, none⟩ = some v5 := hb5.at (j := 2) rfl
        rw [e2] at e5
        injection e5 with e5
        subst e5
        exact ⟨hO5, hP5⟩⟩
      have hl1' : (l.rows.map Value.string).length + 1 ≤ maxLen := by rw [List.length_map, HN.out]; unfold maxLen; omega
      have hl2' : ((l.rows.map Value.string).length + 1) * 16 ≤ 140737488355328 := by rw [List.length_map, HN.out]; omega
      go_wp2_with (at_builtin; refine wp_app1 rfl _ _ 31 rfl 9 Try.underlying31 HI.out.1 HI.out.2.1 HI.out.2.2.1 HI.out.2.2.2 rfl (.slice pv n cv) _ _ w5 rfl HOw.out.1 rfl rfl hl1' hl2' (Nat.zero_le _) ?_)
      intro v' w6 hO6 hK6 hv6
      have hne : ¬ (Value.slice pv n cv).ownBlock = some M := fun e => HL5.out.ne (HOw.out.2 ▸ e)
      have hb6 := hK6.blk HB5.out hne
      obtain ⟨p6, c6, hv6s⟩ := hO6.slice'
      obtain ⟨n1, hn1⟩ : ∃ n1, (l.rows.map Value.string ++ [Value.string r]).length = n1 := ⟨_, rfl⟩
      rw [hn1] at hv6s
      clear hn1
      have a2 : w6.cell? ⟨M, 2, none⟩ = some (.slice pv n cv) := hb6.at (j := 2) rfl
      have f2 := hb6.free 2
      have HO6 := Hd.mk hO6
      have HK6 := Hd.mk hK6
      have HV6 := Hd.mk hv6
      have HB6 := Hd.mk hb6
      subst hv6s
      clear hO6 hK6 hv6 hb6 e2 hl1' hl2' hne
      go_wp2
      go_ret
      refine ⟨rfl, ?_⟩
      have hnl : (Value.slice p6 n1 c6).ownBlock ≠ some M := fun e => by
        rcases HV6.out with h | ⟨k, hk, h⟩
        · rw [h] at e; exact HL5.out.ne (HOw.out.2 ▸ e)
        · rw [h] at e; injection e with e; have := HL5.out.lt; omega
      have K7 : Keeps (· = M) w6 (w6.setCell ⟨M, 2, none⟩ (.slice p6 n1 c6)) := (Keeps.refl (· = M) w6).setCell (p := ⟨M, 2, none⟩) (.inr rfl) _
      have hb7 : Blk (w6.setCell ⟨M, 2, none⟩ (.slice p6 n1 c6)) M 56 (rlCells E (f : Nat) (.slice p6 n1 c6) (l.sure : Nat)) := HB6.out.set 2 _
      refine RLAfter.put HR5.out HL5.out HK5.out ((HK6.out.mono (fun g _ h => .inr (HOw.out.2 ▸ h))).trans (K7.mono (fun g _ h => .inl h))) (P' := (Value.slice p6 n1 c6).ownBlock) ?_ (fun g hg => ?_)
      · rw [HAL.out, if_pos (by trivial)]
        refine ⟨⟨_, ?_, (HO6.out.keeps K7 (fun g hg e => hnl (e ▸ hg))).cast (by simp), rfl⟩, HAO.out (by trivial)⟩
        show Blk _ M 56 (rlCells E (l.f : Nat) _ (l.sure : Nat))
        rw [HFF.out]
        exact hb7
      · rcases HV6.out with h | ⟨k, hk, h⟩
        · rw [h, HOw.out.2] at hg; exact .inl hg
        · rw [h] at hg; injection hg with hg; subst hg; exact .inr hk
    · have h1 : ((X : Int) == 0) = false := by simp; omega
      have e1 : Hd (appL σ l r = l) := ⟨by rw [HAL.out, if_neg hz]⟩
      clear hz HAL
      go_wp2
      go_ret
      rw [e1.out]
      exact ⟨rfl, RLAfter.of HR5.out HL5.out HK5.out⟩
  · refine tr_one (fun K hK => ?_)
    go_simp
    obtain ⟨w1, hw⟩ : ∃ x, (w.alloc (.cells #[.string r] 9)).drew = x := ⟨_, rfl⟩
    obtain ⟨g, hg⟩ : ∃ g, w.heap.size = g := ⟨_, rfl⟩
    have hb2 : Blk w1 g 9 [.string r] := hg ▸ hw ▸ (Blk.new w 9 _).drew
    have K1 : Hd (Keeps (fun _ => False) w w1) := ⟨hw ▸ ((Keeps.refl (fun _ => False) w).alloc _).drew⟩
    rw [hw, hg]
    refine hK.out _ _ (HGo.out w1 K1.out) ?_
    clear hK K hw hg
    refine tr_one (fun K hK => ?_)
    go_simp
    refine (HF1.out w1 K1.out).mono ?_
    rintro e w2 ⟨rfl, b1⟩
    dsimp only
    have K2 : Hd (Keeps (fun _ => False) w w2) := ⟨(K1.out).trans (Keeps.of_below b1 (fun k h1 h2 => absurd h1 (Nat.not_lt.2 h2)))⟩
    refine hK.out _ _ (HGo.out w2 K2.out) ?_
    have hb2 : Blk w2 g 9 [.string r] := (Keeps.of_below (S := fun _ => False) b1 (fun k h1 h2 => absurd h1 (Nat.not_lt.2 h2))).blk hb2 (fun h => h)
    clear hK K b1
    repeat
      refine tr_free (v := ?_) (by rfl) ?_ ?_
      rotate_left
      · intro w' hSw
        go_simp
        first | done | with_reducible rfl
      simp only [Act.put, List.setIfInBounds_toArray, List.set_cons_zero, List.set_cons_succ, List.getD_cons_zero, List.getD_cons_succ]
    refine tr_one (fun K hK => ?_)
    go_simp
    refine (HF2.out w2 g hb2).mono ?_
    rintro e w3 ⟨rfl, b3⟩
    dsimp only
    have K3 : Hd (Keeps (fun _ => False) w w3) := ⟨(K2.out).trans (Keeps.of_below b3 (fun k h1 h2 => absurd h1 (Nat.not_lt.2 h2)))⟩
    refine hK.out _ _ (HGo.out w3 K3.out) ?_
    clear hK K b3 hb2
    refine tr_one (fun K hK => ?_)
    go_simp
    try rw [ws]
    refine (HWr.out w3 K3.out).mono ?_
    rintro e w5 ⟨rfl, hr5, hk5⟩
    dsimp only
    have hL5 := (HL.out.next K3.out).rk hk5
    have HK5 := Hd.mk (rk_pre K3.out hk5)
    have HR5 := Hd.mk hr5
    have HL5 := Hd.mk hL5
    have hb5 : Blk w5 M 56 (rlCells E (f : Nat) (.slice pv n cv) (l.sure : Nat)) := by
      obtain ⟨cur, fz, hM⟩ := (HL.out.next K3.out).heap
      exact (@RK.k (oth Z P) _ _ _ hk5).blk (HGo.out _ K3.out) (@RS.not_typ (oth Z P) _ B M cur _ fz hM (by decide) (by decide) (by decide))
    refine hK.out _ _ hb5 ?_
    have HB5 := Hd.mk hb5
    clear hK K hr5 hk5 hL5 hb5 HWr HF1 HF2
    repeat
      refine tr_free (v := ?_) (by rfl) ?_ ?_
      rotate_left
      · intro w' hSw
        go_simp
        first | done | with_reducible rfl
      simp only [Act.put, List.setIfInBounds_toArray, List.set_cons_zero, List.set_cons_succ, List.getD_cons_zero, List.getD_cons_succ]
    refine NoPanic.normal ?_
    by_cases hz : X = 0
    · subst hz
      have e2 : w5.cell? ⟨M, 2, none⟩ = some (.slice pv n cv) := HB5.out.at (j := 2) rfl
      have HOw : Hd (Own w5 0 9 (.slice pv n cv) (l.rows.map Value.string) ∧ (Value.slice pv n cv).ownBlock = P) := ⟨by
        obtain ⟨v5, hb5, hO5, hP5⟩ := HL5.out.is
        have e5 : w5.cell? ⟨M, 2, none⟩ = some v5 := hb5.at (j := 2) rfl
        rw [e2] at e5
        injection e5 with e5
        subst e5
        exact ⟨hO5, hP5⟩⟩
      have hl1' : (l.rows.map Value.string).length + 1 ≤ maxLen := by rw [List.length_map, HN.out]; unfold maxLen; omega
      have hl2' : ((l.rows.map Value.string).length + 1) * 16 ≤ 140737488355328 := by rw [List.length_map, HN.out]; omega
      go_wp2_with (at_builtin; refine wp_app1 rfl _ _ 31 rfl 9 Try.underlying31 HI.out.1 HI.out.2.1 HI.out.2.2.1 HI.out.2.2.2 rfl (.slice pv n cv) _ _ w5 rfl HOw.out.1 rfl rfl hl1' hl2' (Nat.zero_le _) ?_)
      intro v' w6 hO6 hK6 hv6
      have hne : ¬ (Value.slice pv n cv).ownBlock = some M := fun e => HL5.out.ne (HOw.out.2 ▸ e)
      have hb6 := hK6.blk HB5.out hne
      obtain ⟨p6, c6, hv6s⟩ := hO6.slice'
      obtain ⟨n1, hn1⟩ : ∃ n1, (l.rows.map Value.string ++ [Value.string r]).length = n1 := ⟨_, rfl⟩
      rw [hn1] at hv6s
      clear hn1
      have a2 : w6.cell? ⟨M, 2, none⟩ = some (.slice pv n cv) := hb6.at (j := 2) rfl
      have f2 := hb6.free 2
      have HO6 := Hd.mk hO6
      have HK6 := Hd.mk hK6
      have HV6 := Hd.mk hv6
      have HB6 := Hd.mk hb6
      subst hv6s
      clear hO6 hK6 hv6 hb6 e2 hl1' hl2' hne
      go_wp2
      go_ret
      refine ⟨rfl, ?_⟩
      have hnl : (Value.slice p6 n1 c6).ownBlock ≠ some M := fun e => by
        rcases HV6.out with h | ⟨k, hk, h⟩
        · rw [h] at e; exact HL5.out.ne (HOw.out.2 ▸ e)
        · rw [h] at e; injection e with e; have := HL5.out.lt; omega
      have K7 : Keeps (· = M) w6 (w6.setCell ⟨M, 2, none⟩ (.slice p6 n1 c6)) := (Keeps.refl (· = M) w6).setCell (p := ⟨M, 2, none⟩) (.inr rfl) _
      have hb7 : Blk (w6.setCell ⟨M, 2, none⟩ (.slice p6 n1 c6)) M 56 (rlCells E (f : Nat) (.slice p6 n1 c6) (l.sure : Nat)) := HB6.out.set 2 _
      refine RLAfter.put HR5.out HL5.out HK5.out ((HK6.out.mono (fun g _ h => .inr (HOw.out.2 ▸ h))).trans (K7.mono (fun g _ h => .inl h))) (P' := (Value.slice p6 n1 c6).ownBlock) ?_ (fun g hg => ?_)
      · rw [HAL.out, if_pos (by trivial)]
        refine ⟨⟨_, ?_, (HO6.out.keeps K7 (fun g hg e => hnl (e ▸ hg))).cast (by simp), rfl⟩, HAO.out (by trivial)⟩
        show Blk _ M 56 (rlCells E (l.f : Nat) _ (l.sure : Nat))
        rw [HFF.out]
        exact hb7
      · rcases HV6.out with h | ⟨k, hk, h⟩
        · rw [h, HOw.out.2] at hg; exact .inl hg
        · rw [h] at hg; injection hg with hg; subst hg; exact .inr hk
    · have h1 : ((X : Int) == 0) = false := by simp; omega
      have e1 : Hd (appL σ l r = l) := ⟨by rw [HAL.out, if_neg hz]⟩
      clear hz HAL
      go_wp2
      go_ret
      rw [e1.out]
      exact ⟨rfl, RLAfter.of HR5.out HL5.out HK5.out⟩

theorem blk_rk {Z : Nat → Prop} {P : Option Nat} {w w' : World} {B M E : Nat} {l : Lg} {vs : List Value} (h : RLog w M E l P) (k : @RK (oth Z P) B w w') (hb : Blk w M 56 vs) : Blk w' M 56 vs := by
  obtain ⟨cur, fz, hM⟩ := h.heap
  exact (@RK.k (oth Z P) _ _ _ k).blk hb (@RS.not_typ (oth Z P) _ B M cur _ fz hM (by decide) (by decide) (by decide))
theorem RLog.own_at {w : World} {M E : Nat} {l : Lg} {P : Option Nat} {f s : Int} {v : Value} (h : RLog w M E l P) (hb : Blk w M 56 (rlCells E f v s)) : Own w 0 9 v (l.rows.map Value.string) ∧ v.ownBlock = P := by
  obtain ⟨v5, hb5, hO5, hP5⟩ := h.is
  have e2 : w.cell? ⟨M, 2, none⟩ = some v := hb.at (j := 2) rfl
  have e5 : w.cell? ⟨M, 2, none⟩ = some v5 := hb5.at (j := 2) rfl
  rw [e2] at e5
  injection e5 with e5
  subst e5
  exact ⟨hO5, hP5⟩
theorem rows_rw {w : World} {v : Value} {rs : List ByteArray} (h : Own w 0 9 v (rs.map Value.string)) : Rw 1 strE w v rs :=
  Rw.of_own h (by rw [List.length_map]) (fun j x u hx hu => by rw [List.getElem?_map, hx] at hu; cases hu; rfl)

set_option maxRecDepth 100000 in
set_option maxHeartbeats 4000000 in
theorem rlFlush_any (Z : Nat → Prop) (w : World) (B E M : Nat) (l : Lg) (σ : St) (q : Nat) (P : Option Nat) (hS : B ≤ w.heap.size) (hF : FitQ σ q) (hq : q ≤ 900000000) (hr : @RRep (oth Z P) w B E σ) (hl : RLog w M E l P) :
    Calls Try.prog 22 #[.pointer (some ⟨M, 0, none⟩)] w fun e w' => e = .returned (.int .i64 (fluP σ l).1) ∧ RLAfter Z B M E (fluP σ l).2 (fluL σ l) P w w' := by
  obtain ⟨v, hb, hO, hPv⟩ := hl.is
  obtain ⟨pv, cv, rfl⟩ := hO.slice'
  have hok := hl.ok
  rw [List.length_map] at hb
  have hend := hok.e
  have HH : Hd (∀ w' , Keeps (fun _ => False) w' w' → ∀ f s, Blk w' M 56 (rlCells E f (.slice pv l.rows.length cv) s) → RLog w' M E l P → Calls Try.prog 60 #[.slice pv l.rows.length cv] w' fun e w'' => e = .returned (.string ⟨(headR l).toArray⟩) ∧ Below w'.heap.size w' w'') := ⟨fun w' _ f s hb hl =>
    rheader_any w' _ l.rows (by unfold endL at hend; omega) (rows_rw (hl.own_at hb).1)⟩
  have hF1 : FitQ (FlushS σ l.f) q := hF.flush _
  have hF2 : FitQ (WriteS (FlushS σ l.f) l.f 0 (headR l)) (q + 16) := by
    have := hF1.write (l.f : Int) 0 (headR l)
    rwa [headR, headL_len] at this
  have hhs : (⟨(headR l).toArray⟩ : ByteArray).size = 16 := headL_len _ _
  have HS0 : Hd (∀ w', B ≤ w'.heap.size → @RRep (oth Z P) w' B E σ → Calls Try.prog 58 #[.pointer (some ⟨E, 0, none⟩), .int .i64 (l.f : Nat)] w' fun e w'' => e = .returned (.int .i64 (flErr σ l 0 : Nat)) ∧ @RRep (oth Z P) w'' B E (flStep σ l 1) ∧ @RK (oth Z P) B w' w'') := ⟨fun w' h1 h2 =>
    @rflush_any (oth Z P) w' B E σ (l.f : Nat) h1 (hF.fit (by omega)).q (hF.fit (by omega)).a (hF.fit (by omega)).k (hF.fit (by omega)).l h2⟩
  have HS1 : Hd (∀ w', B ≤ w'.heap.size → @RRep (oth Z P) w' B E (flStep σ l 1) → Calls Try.prog 59 #[.pointer (some ⟨E, 0, none⟩), .int .i64 (l.f : Nat), .int .i64 0, .string ⟨(headR l).toArray⟩] w' fun e w'' => e = .returned (.int .i64 (flErr σ l 1 : Nat)) ∧ @RRep (oth Z P) w'' B E (flStep σ l 2) ∧ @RK (oth Z P) B w' w'') := ⟨fun w' h1 h2 =>
    @rwrite_any (oth Z P) w' B E (FlushS σ l.f) (l.f : Nat) 0 ⟨(headR l).toArray⟩ h1 (by have := hF1.q; rw [hhs]; omega) (hF1.fit (by omega)).a (hF1.fit (by omega)).k (by rw [hhs]; omega) h2⟩
  have HS2 : Hd (∀ w', B ≤ w'.heap.size → @RRep (oth Z P) w' B E (flStep σ l 2) → Calls Try.prog 58 #[.pointer (some ⟨E, 0, none⟩), .int .i64 (l.f : Nat)] w' fun e w'' => e = .returned (.int .i64 (flErr σ l 2 : Nat)) ∧ @RRep (oth Z P) w'' B E (flStep σ l 3) ∧ @RK (oth Z P) B w' w'') := ⟨fun w' h1 h2 =>
    @rflush_any (oth Z P) w' B E _ (l.f : Nat) h1 (hF2.fit (by omega)).q (hF2.fit (by omega)).a (hF2.fit (by omega)).k (hF2.fit (by omega)).l h2⟩
  have HSame := Hd.mk (fluL_same σ l)
  have HP : Hd (l.sure ≠ l.rows.length → fluP σ l = if flErr σ l 0 ≠ 0 then (flErr σ l 0, flStep σ l 1) else if flErr σ l 1 ≠ 0 then (flErr σ l 1, flStep σ l 2) else (flErr σ l 2, flStep σ l 3)) := ⟨fun hne => by
    unfold fluP; rw [if_neg hne]; rfl⟩
  have HLw : Hd (fluL σ l = if (fluP σ l).1 = 0 then { l with sure := l.rows.length } else l) := ⟨rfl⟩
  have HDown := Hd.mk (fun w' (h : @RRep (oth Z P) w' B E σ) => @rdown_any (oth Z P) w' B E σ h)
  obtain ⟨X0, hX0⟩ : ∃ x, flErr σ l 0 = x := ⟨_, rfl⟩
  obtain ⟨X1, hX1⟩ : ∃ x, flErr σ l 1 = x := ⟨_, rfl⟩
  obtain ⟨X2, hX2⟩ : ∃ x, flErr σ l 2 = x := ⟨_, rfl⟩
  obtain ⟨T1, hT1⟩ : ∃ x, flStep σ l 1 = x := ⟨_, rfl⟩
  obtain ⟨T2, hT2⟩ : ∃ x, flStep σ l 2 = x := ⟨_, rfl⟩
  obtain ⟨T3, hT3⟩ : ∃ x, flStep σ l 3 = x := ⟨_, rfl⟩
  obtain ⟨hd, hhd⟩ : ∃ hd, (⟨(headR l).toArray⟩ : ByteArray) = hd := ⟨_, rfl⟩
  obtain ⟨f, hf⟩ : ∃ f, l.f = f := ⟨_, rfl⟩
  obtain ⟨n, hn⟩ : ∃ n, l.rows.length = n := ⟨_, rfl⟩
  obtain ⟨s, hs⟩ : ∃ s, l.sure = s := ⟨_, rfl⟩
  rw [hX0, hT1, hf] at HS0
  rw [hX1, hT1, hT2, hf, hhd] at HS1
  rw [hX2, hT2, hT3, hf] at HS2
  rw [hX0, hX1, hX2, hT1, hT2, hT3, hn, hs] at HP
  rw [hn] at HLw
  rw [hn, hs] at HSame
  rw [hn, hhd] at HH
  rw [hf, hn, hs] at hb
  have HFF := Hd.mk hf
  have HN := Hd.mk hn
  have HSu := Hd.mk hs
  have HR := Hd.mk hr
  have HL := Hd.mk hl
  have HB := Hd.mk hb
  have HK := Hd.mk (@RK.of (oth Z P) B w w (Keeps.refl _ w))
  have HOk := Hd.mk hok
  have HS := Hd.mk hS
  have hb3 : w.cell? ⟨M, 3, none⟩ = some (.int .i64 (s : Nat)) := hb.at (j := 3) rfl
  have hb2 : w.cell? ⟨M, 2, none⟩ = some (.slice pv n cv) := hb.at (j := 2) rfl
  have hb0 : w.cell? ⟨M, 0, none⟩ = some (.pointer (some ⟨E, 0, none⟩)) := hb.at (j := 0) rfl
  clear hX0 hX1 hX2 hT1 hT2 hT3 hhd hf hn hs hF hF1 hF2 hhs hend hok hO hPv hb hr hl hS
  by_cases hsn : s = n
  · have e := Hd.mk (HSame.out hsn)
    subst hsn
    obtain ⟨dn, hdn⟩ : ∃ dn, σ.down = dn := ⟨_, rfl⟩
    rw [hdn] at HDown e
    clear hdn
    go_enter Try.func22, Try.ntmps22
    go_wp2_with fail
    go_quiet (fail)
    go_wp2_with fail
    refine (HDown.out _ (@RRep.next (oth Z P) _ _ _ _ _ HR.out ((Keeps.refl _ w).drewN _))).mono ?_
    rintro e1 w2 ⟨rfl, rfl⟩
    have hk2 := @RK.of (oth Z P) B _ _ ((Keeps.refl (fun _ => False) w).drewN nq)
    rcases dn with _ | _
    · go_wp2
      go_ret
      rw [e.out.1, e.out.2]
      exact ⟨rfl, RLAfter.of (@RRep.next (oth Z P) _ _ _ _ _ HR.out ((Keeps.refl _ w).drewN _)) (HL.out.next ((Keeps.refl _ w).drewN _)) hk2⟩
    · go_wp2
      go_ret
      rw [e.out.1, e.out.2]
      exact ⟨rfl, RLAfter.of (@RRep.next (oth Z P) _ _ _ _ _ HR.out ((Keeps.refl _ w).drewN _)) (HL.out.next ((Keeps.refl _ w).drewN _)) hk2⟩
  · have hsn2 : ((s : Int) == (n : Int)) = false := by simp; omega
    have HPn := Hd.mk (HP.out hsn)
    clear hsn HP HSame HDown
    go_enter Try.func22, Try.ntmps22
    go_wp2_with fail
    go_quiet (fail)
    have hkn : Keeps (fun _ => False) w (w.drewN nq) := (Keeps.refl _ w).drewN nq
    obtain ⟨w0, hw0⟩ : ∃ x, w.drewN nq = x := ⟨_, rfl⟩
    rw [hw0] at hkn ⊢
    have HR0 := Hd.mk (@RRep.next (oth Z P) _ _ _ _ _ HR.out hkn)
    have HL0 := Hd.mk (HL.out.next hkn)
    have HB0 := Hd.mk (hkn.blk HB.out (fun h => h))
    have HK0 := Hd.mk (@RK.trans (oth Z P) _ _ _ _ HK.out (@RK.of (oth Z P) B _ _ hkn))
    clear HR HL HB HK hw0 hkn hb0 hb2 hb3
    have HR := HR0
    have HL := HL0
    have HB := HB0
    have HK := HK0
    clear HR0 HL0 HB0 HK0
    go_wp2_with fail
    refine wp_region_lin default (fun w' => Blk w' M 56 (rlCells E (f : Nat) (.slice pv n cv) (s : Nat))) [(0, true), (1, true), (2, true), (3, true), (4, true), (5, true), (6, true), (7, true), (8, false), (9, true)] (by kernel_rfl) (by kernel_rfl) rfl (by kernel_rfl) (by kernel_rfl) HB.out.drew ?_
    simp only [pick, List.getD_cons_zero, List.getD_cons_succ]
    have HKx : Hd (Keeps (fun _ => False) w0 w0.drew) := ⟨(Keeps.refl _ _).drew⟩
    obtain ⟨wx, hwx⟩ : ∃ x, x = w0.drew := ⟨_, rfl⟩
    rw [← hwx] at HKx ⊢
    clear hwx
    repeat
      refine lin_free (v := ?_) (by rfl) ?_ ?_
      rotate_left
      · intro w' hSw
        have c0 := hSw.at (j := 0) rfl
        have c1 := hSw.at (j := 1) rfl
        have c2 := hSw.at (j := 2) rfl
        go_simp
        first | done | with_reducible rfl
      simp only [Act.put, List.setIfInBounds_toArray, List.set_cons_zero, List.set_cons_succ]
    refine lin_bound (fun K hK => ?_)
    go_simp
    refine (HS0.out _ (Nat.le_trans HS.out (Nat.le_trans (@RK.k (oth Z P) _ _ _ HK.out).size HKx.out.size)) (@RRep.next (oth Z P) _ _ _ _ _ HR.out HKx.out)).mono ?_
    rintro e w1 ⟨rfl, hr1, hk1⟩
    dsimp only
    have HLn := Hd.mk ((HL.out.next HKx.out).rk hk1)
    have HKn := Hd.mk (@RK.trans (oth Z P) _ _ _ _ HK.out (rk_pre HKx.out hk1))
    have HBn := Hd.mk (blk_rk (HL.out.next HKx.out) hk1 (HKx.out.blk HB.out (fun h => h)))
    clear HR
    have HR := Hd.mk hr1
    refine hK.out _ _ HBn.out ?_
    clear hK K hr1 hk1 HB HL HK HKx
    have HB := HBn
    have HL := HLn
    have HK := HKn
    clear HBn HLn HKn
    repeat
      refine lin_free (v := ?_) (by rfl) ?_ ?_
      rotate_left
      · intro w' hSw
        go_simp
        first | done | with_reducible rfl
      simp only [Act.put, List.setIfInBounds_toArray, List.set_cons_zero, List.set_cons_succ]
    refine NoPanic.normal ?_
    by_cases hz : X0 = 0
    · subst hz
      go_wp2_with fail
      refine wp_region_lin default (fun w' => Blk w' M 56 (rlCells E (f : Nat) (.slice pv n cv) (s : Nat))) [(0, true), (1, true), (2, true), (3, true), (4, true), (5, true), (6, true), (7, true), (8, true), (9, true), (10, true), (11, true), (12, false), (13, false), (14, true)] (by kernel_rfl) (by kernel_rfl) rfl (by kernel_rfl) (by kernel_rfl) HB.out.drew ?_
      simp only [pick, List.getD_cons_zero, List.getD_cons_succ]
      have HKx : Hd (Keeps (fun _ => False) w1 w1.drew) := ⟨(Keeps.refl _ _).drew⟩
      obtain ⟨wx, hwx⟩ : ∃ x, x = w1.drew := ⟨_, rfl⟩
      rw [← hwx] at HKx ⊢
      clear hwx
      repeat
        refine lin_free (v := ?_) (by rfl) ?_ ?_
        rotate_left
        · intro w' hSw
          have c0 := hSw.at (j := 0) rfl
          have c1 := hSw.at (j := 1) rfl
          have c2 := hSw.at (j := 2) rfl
          go_simp
          first | done | with_reducible rfl
        simp only [Act.put, List.setIfInBounds_toArray, List.set_cons_zero, List.set_cons_succ]
      refine lin_bound (fun K hK => ?_)
      go_simp
      refine (HH.out _ (Keeps.refl _ _) _ _ (HKx.out.blk HB.out (fun h => h)) (HL.out.next HKx.out)).mono ?_
      rintro e wy ⟨rfl, b1⟩
      dsimp only
      have HKy : Hd (Keeps (fun _ => False) w1 wy) := ⟨HKx.out.trans (Keeps.of_below b1 (fun k h1 h2 => absurd h1 (Nat.not_lt.2 h2)))⟩
      refine hK.out _ _ (HKy.out.blk HB.out (fun h => h)) ?_
      clear hK K b1 HKx
      have HKx := HKy
      clear HKy
      repeat
        refine lin_free (v := ?_) (by rfl) ?_ ?_
        rotate_left
        · intro w' hSw
          go_simp
          first | done | with_reducible rfl
        simp only [Act.put, List.setIfInBounds_toArray, List.set_cons_zero, List.set_cons_succ]
      refine lin_bound (fun K hK => ?_)
      go_simp
      refine (HS1.out _ (Nat.le_trans HS.out (Nat.le_trans (@RK.k (oth Z P) _ _ _ HK.out).size HKx.out.size)) (@RRep.next (oth Z P) _ _ _ _ _ HR.out HKx.out)).mono ?_
      rintro e w2 ⟨rfl, hr2, hk2⟩
      dsimp only
      have HLn := Hd.mk ((HL.out.next HKx.out).rk hk2)
      have HKn := Hd.mk (@RK.trans (oth Z P) _ _ _ _ HK.out (rk_pre HKx.out hk2))
      have HBn := Hd.mk (blk_rk (HL.out.next HKx.out) hk2 (HKx.out.blk HB.out (fun h => h)))
      clear HR
      have HR := Hd.mk hr2
      refine hK.out _ _ HBn.out ?_
      clear hK K hr2 hk2 HB HL HK HKx
      have HB := HBn
      have HL := HLn
      have HK := HKn
      clear HBn HLn HKn
      repeat
        refine lin_free (v := ?_) (by rfl) ?_ ?_
        rotate_left
        · intro w' hSw
          go_simp
          first | done | with_reducible rfl
        simp only [Act.put, List.setIfInBounds_toArray, List.set_cons_zero, List.set_cons_succ]
      refine NoPanic.normal ?_
      by_cases hz : X1 = 0
      · subst hz
        go_wp2_with fail
        refine wp_region_lin default (fun w' => Blk w' M 56 (rlCells E (f : Nat) (.slice pv n cv) (s : Nat))) [(0, true), (1, true), (2, true), (3, true), (4, true), (5, true), (6, true), (7, true), (8, false), (9, true)] (by kernel_rfl) (by kernel_rfl) rfl (by kernel_rfl) (by kernel_rfl) HB.out.drew ?_
        simp only [pick, List.getD_cons_zero, List.getD_cons_succ]
        have HKx : Hd (Keeps (fun _ => False) w2 w2.drew) := ⟨(Keeps.refl _ _).drew⟩
        obtain ⟨wx, hwx⟩ : ∃ x, x = w2.drew := ⟨_, rfl⟩
        rw [← hwx] at HKx ⊢
        clear hwx
        repeat
          refine lin_free (v := ?_) (by rfl) ?_ ?_
          rotate_left
          · intro w' hSw
            have c0 := hSw.at (j := 0) rfl
            have c1 := hSw.at (j := 1) rfl
            have c2 := hSw.at (j := 2) rfl
            go_simp
            first | done | with_reducible rfl
          simp only [Act.put, List.setIfInBounds_toArray, List.set_cons_zero, List.set_cons_succ]
        refine lin_bound (fun K hK => ?_)
        go_simp
        refine (HS2.out _ (Nat.le_trans HS.out (Nat.le_trans (@RK.k (oth Z P) _ _ _ HK.out).size HKx.out.size)) (@RRep.next (oth Z P) _ _ _ _ _ HR.out HKx.out)).mono ?_
        rintro e w3 ⟨rfl, hr3, hk3⟩
        dsimp only
        have HLn := Hd.mk ((HL.out.next HKx.out).rk hk3)
        have HKn := Hd.mk (@RK.trans (oth Z P) _ _ _ _ HK.out (rk_pre HKx.out hk3))
        have HBn := Hd.mk (blk_rk (HL.out.next HKx.out) hk3 (HKx.out.blk HB.out (fun h => h)))
        clear HR
        have HR := Hd.mk hr3
        refine hK.out _ _ HBn.out ?_
        clear hK K hr3 hk3 HB HL HK HKx
        have HB := HBn
        have HL := HLn
        have HK := HKn
        clear HBn HLn HKn
        repeat
          refine lin_free (v := ?_) (by rfl) ?_ ?_
          rotate_left
          · intro w' hSw
            go_simp
            first | done | with_reducible rfl
          simp only [Act.put, List.setIfInBounds_toArray, List.set_cons_zero, List.set_cons_succ]
        refine NoPanic.normal ?_
        by_cases hz : X2 = 0
        · subst hz
          have hPe : fluP σ l = (0, T3) := by rw [HPn.out, if_neg (fun h => h rfl), if_neg (fun h => h rfl)]
          have hLe : fluL σ l = { l with sure := n } := by rw [HLw.out, hPe, if_pos rfl]
          have HPe := Hd.mk hPe
          have HLe := Hd.mk hLe
          have e2 : w3.cell? ⟨M, 2, none⟩ = some (.slice pv n cv) := HB.out.at (j := 2) rfl
          have e3 : w3.cell? ⟨M, 3, none⟩ = some (.int .i64 (s : Nat)) := HB.out.at (j := 3) rfl
          have f3 := HB.out.free 3
          clear hPe hLe HPn HLw HH HS0 HS1 HS2
          go_wp2
          go_ret
          rw [HPe.out, HLe.out]
          have K7 : Keeps (· = M) w3 (w3.setCell ⟨M, 3, none⟩ (.int .i64 (n : Nat))) := (Keeps.refl (· = M) w3).setCell (p := ⟨M, 3, none⟩) (.inr rfl) _
          refine ⟨rfl, RLAfter.put HR.out HL.out HK.out (K7.mono (fun g _ h => .inl h)) (P' := P) ?_ (fun g hg => .inl hg)⟩
          obtain ⟨hO7, hP7⟩ := HL.out.own_at HB.out
          refine ⟨⟨_, ?_, hO7.keeps K7 (fun g hg e => HL.out.ne (hP7 ▸ e ▸ hg)), hP7⟩, ⟨HOk.out.f, HOk.out.e, Nat.le_of_eq HN.out.symm⟩⟩
          show Blk _ M 56 (rlCells E (l.f : Nat) (.slice pv n cv) (n : Nat))
          rw [HFF.out]
          exact HB.out.set 3 _
        · have h1 : ((X2 : Int) == 0) = false := by simp; omega
          have hPe : fluP σ l = (X2, T3) := by rw [HPn.out, if_neg (fun h => h rfl), if_neg (fun h => h rfl)]
          have hLe : fluL σ l = l := by rw [HLw.out, hPe, if_neg hz]
          have HPe := Hd.mk hPe
          have HLe := Hd.mk hLe
          clear hz hPe hLe HPn HLw
          go_wp2
          go_ret
          rw [HPe.out, HLe.out]
          exact ⟨rfl, RLAfter.of HR.out HL.out HK.out⟩
      · have h1 : ((X1 : Int) == 0) = false := by simp; omega
        have hPe : fluP σ l = (X1, T2) := by rw [HPn.out, if_neg (fun h => h rfl), if_pos hz]
        have hLe : fluL σ l = l := by rw [HLw.out, hPe, if_neg hz]
        have HPe := Hd.mk hPe
        have HLe := Hd.mk hLe
        clear hz hPe hLe HPn HLw
        go_wp2
        go_ret
        rw [HPe.out, HLe.out]
        exact ⟨rfl, RLAfter.of HR.out HL.out HK.out⟩
    · have h1 : ((X0 : Int) == 0) = false := by simp; omega
      have hPe : fluP σ l = (X0, T1) := by rw [HPn.out, if_pos hz]
      have hLe : fluL σ l = l := by rw [HLw.out, hPe, if_neg hz]
      have HPe := Hd.mk hPe
      have HLe := Hd.mk hLe
      clear hz hPe hLe HPn HLw
      go_wp2
      go_ret
      rw [HPe.out, HLe.out]
      exact ⟨rfl, RLAfter.of HR.out HL.out HK.out⟩

end Go.Proofs.Ytmcdfhihfcfbaaa.W

/-
  JournalTells: the reference's log, third part: Rewrite.
-/
namespace Go.Proofs.Ytmcdfhihfcfbaaa.W
open Go.RowKit
set_option linter.unusedVariables false

/-- append to an empty row: a copy -/
theorem app_strsR (w : World) (v : Value) (rs : List ByteArray) (n : Nat) (hl : rs.length ≤ 1000000000) (hv : Rw 1 strE w v rs) (hn : rs.length = n) (pr : Option Addr) (m : Nat) (hvr : v = .slice pr n m) :
    ∃ v' w' p' c', (Builtin.append_ #[31, 31] 31 #[.slice (some ⟨w.heap.size, 0, none⟩) 0 0, .slice pr n m]).run Try.prog (w.alloc (.cells #[] 9)) = .ok v' w' ∧ Own w' w.heap.size 9 v' (rs.map Value.string) ∧ Keeps (fun _ => False) w w' ∧ v' = .slice p' n c' := by
  obtain ⟨i0, hi, hz0, hz1, hz2⟩ := info_parts rinfoStr
  subst hn
  have k1 : Keeps (fun _ => False) w (w.alloc (.cells #[] 9)) := (Keeps.refl (fun _ => False) w).alloc _
  have hx : (pr = none ∧ rs.length = 0) ∨ ∃ a, pr = some a ∧ ∀ j u, (rs.map Value.string)[j]? = some u → (w.alloc (.cells #[] 9)).cell? (a.add j) = some u := by
    rcases hv.is with ⟨rfl, h⟩ | ⟨g, o, cap, e, hg, hc⟩
    · rcases h with h | ⟨a, c, h⟩
      · rw [hvr] at h; injection h with h1 _ _; exact .inl ⟨h1, rfl⟩
      · rw [hvr] at h; injection h with h1 _ _; exact .inr ⟨a, h1, fun j u hj => by simp at hj⟩
    · rw [hvr] at e; injection e with h1 _ _
      refine .inr ⟨_, h1, fun j u hj => ?_⟩
      rw [List.getElem?_map] at hj
      rcases hr : rs[j]? with _ | r
      · rw [hr] at hj; cases hj
      · rw [hr] at hj
        cases hj
        obtain ⟨cs, _, he, h3⟩ := hc j _ hr
        have he : cs = [.string r] := he
        subst he
        have := h3 0 _ rfl
        rw [Nat.mul_one, Nat.add_zero] at this
        have e : (⟨g, o, none⟩ : Addr).add j = ⟨g, o + j, none⟩ := by unfold Addr.add; split <;> simp_all
        rw [e]
        rw [World.cell?_of_block (a := ⟨g, o + j, none⟩) (k1.block g hg (fun h => h))]; exact this
  obtain ⟨v', w', h1, h2, h3⟩ := app_fresh (P := Try.prog) (w.alloc (.cells #[] 9)) 31 31 9 Try.underlying31 hi hz0 hz1 hz2 rfl (by decide) w.heap.size k1.size (some ⟨w.heap.size, 0, none⟩) (empty_row2 w w.heap.size (Nat.le_refl _) 9 1) pr rs.length m (rs.map Value.string) hx (by simp) (fun u hu => by
    obtain ⟨x, _, rfl⟩ := List.mem_map.1 hu
    rfl) (by unfold maxLen; omega) (by omega)
  have hO := Own.of_row h2
  obtain ⟨p', c', e⟩ := hO.slice'
  exact ⟨v', w', p', c', h1, hO, k1.trans h3, by rw [e, List.length_map]⟩

set_option maxRecDepth 100000 in
set_option maxHeartbeats 4000000 in
theorem rlRewrite_any (Z : Nat → Prop) (w : World) (B E M : Nat) (l : Lg) (σ : St) (q : Nat) (P : Option Nat) (v : Value) (rs : List ByteArray) (hS : B ≤ w.heap.size) (hF : FitQ σ q) (hq : q ≤ 800000000) (hrs : (formsL rs).length ≤ 100000000) (hv : Rw 1 strE w v rs) (hvb : ∀ a n c, v = .slice (some a) n c → rs ≠ [] → a.block < B)
    (hr : @RRep (oth Z P) w B E σ) (hl : RLog w M E l P) :
    Calls Try.prog 23 #[.pointer (some ⟨M, 0, none⟩), v] w fun e w' => e = .returned (.int .i64 (rewP σ l.f rs).1) ∧ RLAfter Z B M E (rewP σ l.f rs).2 (rewL σ l rs) P w w' := by
  obtain ⟨pr, mr, hve⟩ := hv.slice
  have hlen := len_le_forms rs
  have hflen := fileL_len rs
  have hee : endL rs = 16 + (formsL rs).length := rfl
  obtain ⟨v0, hb, hO, hPv⟩ := hl.is
  obtain ⟨pv, cv, rfl⟩ := hO.slice'
  have hok := hl.ok
  rw [List.length_map] at hb
  have HV : Hd (∀ w', @RK (oth Z P) B w w' → Rw 1 strE w' v rs) := ⟨fun w' k => hv.keepsStr (@RK.k (oth Z P) _ _ _ k) (fun a n c h1 _ h2 h3 => by have := h3.1; have := hvb a n c h1 h2; omega)⟩
  have HH : Hd (∀ w', Rw 1 strE w' v rs → Calls Try.prog 60 #[v] w' fun e w'' => e = .returned (.string ⟨(headL (endL rs) rs.length).toArray⟩) ∧ Below w'.heap.size w' w'') := ⟨fun w' h => rheader_any w' v rs (by omega) h⟩
  have HFo : Hd (∀ w', Rw 1 strE w' v rs → Calls Try.prog 62 #[v] w' fun e w'' => e = .returned (.string ⟨(formsL rs).toArray⟩) ∧ Below w'.heap.size w' w'') := ⟨fun w' h => rforms_any w' v rs (by omega) h⟩
  have hcat : (⟨(headL (endL rs) rs.length).toArray⟩ : ByteArray) ++ ⟨(formsL rs).toArray⟩ = ⟨(fileL rs).toArray⟩ := by rw [whole_str]; rfl
  have hsz : (⟨(headL (endL rs) rs.length).toArray⟩ : ByteArray).size = 16 := headL_len _ _
  have hsf : (⟨(formsL rs).toArray⟩ : ByteArray).size = (formsL rs).length := rfl
  have hfs : (⟨(fileL rs).toArray⟩ : ByteArray).size = endL rs := hflen
  have hF1 : FitQ (rwStep σ l.f rs 1) q := hF.cut _ _
  have hF2 : FitQ (rwStep σ l.f rs 2) (q + endL rs) := by
    have := hF1.write ((l.f : Int) + 1) 0 (fileL rs)
    rwa [fileL_len] at this
  have hF3 : FitQ (rwStep σ l.f rs 3) (q + endL rs) := hF2.flush ((l.f : Int) + 1)
  have HS0 : Hd (∀ w', B ≤ w'.heap.size → @RRep (oth Z P) w' B E σ → Calls Try.prog 61 #[.pointer (some ⟨E, 0, none⟩), .int .i64 ((l.f : Int) + 1), .int .i64 0] w' fun e w'' => e = .returned (.int .i64 (rwErr σ l.f rs 0 : Nat)) ∧ @RRep (oth Z P) w'' B E (rwStep σ l.f rs 1) ∧ @RK (oth Z P) B w' w'') := ⟨fun w' h1 h2 =>
    @rcut_any (oth Z P) w' B E σ _ 0 h1 (hF.fit (by omega)).q (hF.fit (by omega)).a (hF.fit (by omega)).k h2⟩
  have HS1 : Hd (∀ w', B ≤ w'.heap.size → @RRep (oth Z P) w' B E (rwStep σ l.f rs 1) → Calls Try.prog 59 #[.pointer (some ⟨E, 0, none⟩), .int .i64 ((l.f : Int) + 1), .int .i64 0, .string ⟨(fileL rs).toArray⟩] w' fun e w'' => e = .returned (.int .i64 (rwErr σ l.f rs 1 : Nat)) ∧ @RRep (oth Z P) w'' B E (rwStep σ l.f rs 2) ∧ @RK (oth Z P) B w' w'') := ⟨fun w' h1 h2 =>
    @rwrite_any (oth Z P) w' B E (rwStep σ l.f rs 1) _ 0 ⟨(fileL rs).toArray⟩ h1 (by have := hF1.q; rw [hfs]; omega) (hF1.fit (by omega)).a (hF1.fit (by omega)).k (by rw [hfs]; omega) h2⟩
  have HS2 : Hd (∀ w', B ≤ w'.heap.size → @RRep (oth Z P) w' B E (rwStep σ l.f rs 2) → Calls Try.prog 58 #[.pointer (some ⟨E, 0, none⟩), .int .i64 ((l.f : Int) + 1)] w' fun e w'' => e = .returned (.int .i64 (rwErr σ l.f rs 2 : Nat)) ∧ @RRep (oth Z P) w'' B E (rwStep σ l.f rs 3) ∧ @RK (oth Z P) B w' w'') := ⟨fun w' h1 h2 =>
    @rflush_any (oth Z P) w' B E _ _ h1 (hF2.fit (by omega)).q (hF2.fit (by omega)).a (hF2.fit (by omega)).k (hF2.fit (by omega)).l h2⟩
  have HS3 : Hd (∀ w', B ≤ w'.heap.size → @RRep (oth Z P) w' B E (rwStep σ l.f rs 3) → Calls Try.prog 63 #[.pointer (some ⟨E, 0, none⟩), .int .i64 (l.f : Nat), .int .i64 ((l.f : Int) + 1)] w' fun e w'' => e = .returned (.int .i64 (rwErr σ l.f rs 3 : Nat)) ∧ @RRep (oth Z P) w'' B E (rwStep σ l.f rs 4) ∧ @RK (oth Z P) B w' w'') := ⟨fun w' h1 h2 =>
    @rturn_any (oth Z P) w' B E _ _ _ h1 (hF3.fit (by omega)).q (hF3.fit (by omega)).a (hF3.fit (by omega)).k h2⟩
  have P0 := Hd.mk (rewP_0 σ l.f rs)
  have P1 := Hd.mk (rewP_1 σ l.f rs)
  have P2 := Hd.mk (rewP_2 σ l.f rs)
  have P3 := Hd.mk (rewP_3 σ l.f rs)
  have HLw : Hd (rewL σ l rs = if (rewP σ l.f rs).1 = 0 then { l with rows := rs, sure := rs.length } else l) := ⟨rfl⟩
  have HRe := Hd.mk (fun h => rew_end (σ := σ) (f := l.f) (rs := rs) h)
  obtain ⟨X0, hX0⟩ : ∃ x, rwErr σ l.f rs 0 = x := ⟨_, rfl⟩
  obtain ⟨X1, hX1⟩ : ∃ x, rwErr σ l.f rs 1 = x := ⟨_, rfl⟩
  obtain ⟨X2, hX2⟩ : ∃ x, rwErr σ l.f rs 2 = x := ⟨_, rfl⟩
  obtain ⟨X3, hX3⟩ : ∃ x, rwErr σ l.f rs 3 = x := ⟨_, rfl⟩
  obtain ⟨T1, hT1⟩ : ∃ x, rwStep σ l.f rs 1 = x := ⟨_, rfl⟩
  obtain ⟨T2, hT2⟩ : ∃ x, rwStep σ l.f rs 2 = x := ⟨_, rfl⟩
  obtain ⟨T3, hT3⟩ : ∃ x, rwStep σ l.f rs 3 = x := ⟨_, rfl⟩
  obtain ⟨T4, hT4⟩ : ∃ x, rwStep σ l.f rs 4 = x := ⟨_, rfl⟩
  obtain ⟨hd, hhd⟩ : ∃ hd, (⟨(headL (endL rs) rs.length).toArray⟩ : ByteArray) = hd := ⟨_, rfl⟩
  obtain ⟨fo, hfo⟩ : ∃ fo, (⟨(formsL rs).toArray⟩ : ByteArray) = fo := ⟨_, rfl⟩
  obtain ⟨fi, hfi⟩ : ∃ fi, (⟨(fileL rs).toArray⟩ : ByteArray) = fi := ⟨_, rfl⟩
  obtain ⟨RP, hRP⟩ : ∃ x, rewP σ l.f rs = x := ⟨_, rfl⟩
  have hf6 := hok.f
  obtain ⟨f, hf⟩ : ∃ f, l.f = f := ⟨_, rfl⟩
  obtain ⟨n, hn⟩ : ∃ n, l.rows.length = n := ⟨_, rfl⟩
  obtain ⟨s, hs⟩ : ∃ s, l.sure = s := ⟨_, rfl⟩
  obtain ⟨N, hN⟩ : ∃ N, rs.length = N := ⟨_, rfl⟩
  rw [hRP] at P0 P1 P2 P3 HLw HRe
  rw [hX0, hT1] at P0
  rw [hX0, hX1, hT2] at P1
  rw [hX0, hX1, hX2, hT3] at P2
  rw [hX0, hX1, hX2, hX3, hT4] at P3
  rw [hX0, hT1, hf] at HS0
  rw [hX1, hT1, hT2, hf, hfi] at HS1
  rw [hX2, hT2, hT3, hf] at HS2
  rw [hX3, hT3, hT4, hf] at HS3
  rw [hf, hn, hs] at hb
  rw [hf] at hf6
  rw [hhd] at HH hsz
  rw [hfo] at HFo hsf
  rw [hhd, hfo, hfi] at hcat
  rw [hN] at HLw hve hlen
  rw [hRP]
  subst hve
  have HFF := Hd.mk hf
  have HN := Hd.mk hN
  have HCat := Hd.mk hcat
  have hcs : ¬ 9223372036854775807 < hd.size + fo.size := by omega
  have HR := Hd.mk hr
  have HL := Hd.mk hl
  have HB := Hd.mk hb
  have HK := Hd.mk (@RK.of (oth Z P) B w w (Keeps.refl _ w))
  have HOk := Hd.mk hok
  have HS := Hd.mk hS
  have HAp : Hd (∀ w', Rw 1 strE w' (.slice pr N mr) rs → ∃ v' w'' p' c', (Builtin.append_ #[31, 31] 31 #[.slice (some ⟨w'.heap.size, 0, none⟩) 0 0, .slice pr N mr]).run Try.prog (w'.alloc (.cells #[] 9)) = .ok v' w'' ∧ Own w'' w'.heap.size 9 v' (rs.map Value.string) ∧ Keeps (fun _ => False) w' w'' ∧ v' = .slice p' N c') := ⟨fun w' h => app_strsR w' _ rs N (by omega) h hN pr mr rfl⟩
  have r1 : IntKind.i64.wrap ((f : Int) + 1) = (f : Int) + 1 := IntWalk.i64_in _ (by omega)
  have hb2 : w.cell? ⟨M, 2, none⟩ = some (.slice pv n cv) := hb.at (j := 2) rfl
  clear hX0 hX1 hX2 hX3 hT1 hT2 hT3 hT4 hhd hfo hfi hf hn hs hN hF hF1 hF2 hF3 hsz hsf hfs hcat hok hO hPv hb hr hl hS hRP hlen hflen hee hv hvb hrs hf6 hb2
  go_enter Try.func23, Try.ntmps23
  go_wp2_with fail
  refine wp_region_lin default (fun w' => Blk w' M 56 (rlCells E (f : Nat) (.slice pv n cv) (s : Nat))) [(0, true), (1, true), (2, true), (3, true), (4, true), (5, true), (6, true), (7, true), (8, true), (9, false), (10, true)] (by kernel_rfl) (by kernel_rfl) rfl (by kernel_rfl) (by kernel_rfl) HB.out.drew ?_
  simp only [pick, List.getD_cons_zero, List.getD_cons_succ]
  have HKx : Hd (Keeps (fun _ => False) w w.drew) := ⟨(Keeps.refl _ _).drew⟩
  obtain ⟨wx, hwx⟩ : ∃ x, x = w.drew := ⟨_, rfl⟩
  rw [← hwx] at HKx ⊢
  clear hwx
  repeat
    refine lin_free (v := ?_) (by rfl) ?_ ?_
    rotate_left
    · intro w' hSw
      have c0 := hSw.at (j := 0) rfl
      have c1 := hSw.at (j := 1) rfl
      have c2 := hSw.at (j := 2) rfl
      go_simp
      first | done | with_reducible rfl
    simp only [Act.put, List.setIfInBounds_toArray, List.set_cons_zero, List.set_cons_succ]
  refine lin_bound (fun K hK => ?_)
  go_simp
  try rw [r1]
  refine (HS0.out _ (Nat.le_trans HS.out (Nat.le_trans (@RK.k (oth Z P) _ _ _ HK.out).size HKx.out.size)) (@RRep.next (oth Z P) _ _ _ _ _ HR.out HKx.out)).mono ?_
  rintro e w1 ⟨rfl, hr1, hk1⟩
  dsimp only
  have HLn := Hd.mk ((HL.out.next HKx.out).rk hk1)
  have HKn := Hd.mk (@RK.trans (oth Z P) _ _ _ _ HK.out (rk_pre HKx.out hk1))
  have HBn := Hd.mk (blk_rk (HL.out.next HKx.out) hk1 (HKx.out.blk HB.out (fun h => h)))
  clear HR
  have HR := Hd.mk hr1
  refine hK.out _ _ HBn.out ?_
  clear hK K hr1 hk1 HB HL HK HKx
  have HB := HBn
  have HL := HLn
  have HK := HKn
  clear HBn HLn HKn
  repeat
    refine lin_free (v := ?_) (by rfl) ?_ ?_
    rotate_left
    · intro w' hSw
      go_simp
      first | done | with_reducible rfl
    simp only [Act.put, List.setIfInBounds_toArray, List.set_cons_zero, List.set_cons_succ]
  refine NoPanic.normal ?_
  by_cases hz : X0 = 0
  · subst hz
    go_wp2_with fail
    refine wp_region_lin default (fun w' => Blk w' M 56 (rlCells E (f : Nat) (.slice pv n cv) (s : Nat))) [(0, true), (1, true), (2, true), (3, true), (4, true), (5, true), (6, true), (7, true), (8, true), (9, true), (11, true), (10, false), (12, false), (13, true), (14, false), (15, true)] (by kernel_rfl) (by kernel_rfl) rfl (by kernel_rfl) (by kernel_rfl) HB.out.drew ?_
    simp only [pick, List.getD_cons_zero, List.getD_cons_succ]
    have HKx : Hd (Keeps (fun _ => False) w1 w1.drew) := ⟨(Keeps.refl _ _).drew⟩
    obtain ⟨wx, hwx⟩ : ∃ x, x = w1.drew := ⟨_, rfl⟩
    rw [← hwx] at HKx ⊢
    clear hwx
    repeat
      refine lin_free (v := ?_) (by rfl) ?_ ?_
      rotate_left
      · intro w' hSw
        have c0 := hSw.at (j := 0) rfl
        have c1 := hSw.at (j := 1) rfl
        have c2 := hSw.at (j := 2) rfl
        go_simp
        first | done | with_reducible rfl
      simp only [Act.put, List.setIfInBounds_toArray, List.set_cons_zero, List.set_cons_succ]
    refine lin_bound (fun K hK => ?_)
    go_simp
    refine (HH.out _ (HV.out _ (@RK.trans (oth Z P) _ _ _ _ HK.out (@RK.of (oth Z P) B _ _ HKx.out)))).mono ?_
    rintro e wy ⟨rfl, b1⟩
    dsimp only
    have HKy : Hd (Keeps (fun _ => False) w1 wy) := ⟨HKx.out.trans (Keeps.of_below b1 (fun k h1 h2 => absurd h1 (Nat.not_lt.2 h2)))⟩
    refine hK.out _ _ (HKy.out.blk HB.out (fun h => h)) ?_
    clear hK K b1 HKx
    have HKx := HKy
    clear HKy
    repeat
      refine lin_free (v := ?_) (by rfl) ?_ ?_
      rotate_left
      · intro w' hSw
        go_simp
        first | done | with_reducible rfl
      simp only [Act.put, List.setIfInBounds_toArray, List.set_cons_zero, List.set_cons_succ]
    refine lin_bound (fun K hK => ?_)
    go_simp
    refine (HFo.out _ (HV.out _ (@RK.trans (oth Z P) _ _ _ _ HK.out (@RK.of (oth Z P) B _ _ HKx.out)))).mono ?_
    rintro e wy ⟨rfl, b1⟩
    dsimp only
    have HKy : Hd (Keeps (fun _ => False) w1 wy) := ⟨HKx.out.trans (Keeps.of_below b1 (fun k h1 h2 => absurd h1 (Nat.not_lt.2 h2)))⟩
    refine hK.out _ _ (HKy.out.blk HB.out (fun h => h)) ?_
    clear hK K b1 HKx
    have HKx := HKy
    clear HKy
    repeat
      refine lin_free (v := ?_) (by rfl) ?_ ?_
      rotate_left
      · intro w' hSw
        go_simp
        first | done | with_reducible rfl
      simp only [Act.put, List.setIfInBounds_toArray, List.set_cons_zero, List.set_cons_succ]
    refine lin_bound (fun K hK => ?_)
    go_simp
    try rw [r1]
    try rw [HCat.out]
    refine (HS1.out _ (Nat.le_trans HS.out (Nat.le_trans (@RK.k (oth Z P) _ _ _ HK.out).size HKx.out.size)) (@RRep.next (oth Z P) _ _ _ _ _ HR.out HKx.out)).mono ?_
    rintro e w2 ⟨rfl, hr2, hk2⟩
    dsimp only
    have HLn := Hd.mk ((HL.out.next HKx.out).rk hk2)
    have HKn := Hd.mk (@RK.trans (oth Z P) _ _ _ _ HK.out (rk_pre HKx.out hk2))
    have HBn := Hd.mk (blk_rk (HL.out.next HKx.out) hk2 (HKx.out.blk HB.out (fun h => h)))
    clear HR
    have HR := Hd.mk hr2
    refine hK.out _ _ HBn.out ?_
    clear hK K hr2 hk2 HB HL HK HKx
    have HB := HBn
    have HL := HLn
    have HK := HKn
    clear HBn HLn HKn
    repeat
      refine lin_free (v := ?_) (by rfl) ?_ ?_
      rotate_left
      · intro w' hSw
        go_simp
        first | done | with_reducible rfl
      simp only [Act.put, List.setIfInBounds_toArray, List.set_cons_zero, List.set_cons_succ]
    refine NoPanic.normal ?_
    by_cases hz : X1 = 0
    · subst hz
      go_wp2_with fail
      refine wp_region_lin default (fun w' => Blk w' M 56 (rlCells E (f : Nat) (.slice pv n cv) (s : Nat))) [(0, true), (1, true), (2, true), (3, true), (4, true), (5, true), (6, true), (7, true), (8, true), (9, false), (10, true)] (by kernel_rfl) (by kernel_rfl) rfl (by kernel_rfl) (by kernel_rfl) HB.out.drew ?_
      simp only [pick, List.getD_cons_zero, List.getD_cons_succ]
      have HKx : Hd (Keeps (fun _ => False) w2 w2.drew) := ⟨(Keeps.refl _ _).drew⟩
      obtain ⟨wx, hwx⟩ : ∃ x, x = w2.drew := ⟨_, rfl⟩
      rw [← hwx] at HKx ⊢
      clear hwx
      repeat
        refine lin_free (v := ?_) (by rfl) ?_ ?_
        rotate_left
        · intro w' hSw
          have c0 := hSw.at (j := 0) rfl
          have c1 := hSw.at (j := 1) rfl
          have c2 := hSw.at (j := 2) rfl
          go_simp
          first | done | with_reducible rfl
        simp only [Act.put, List.setIfInBounds_toArray, List.set_cons_zero, List.set_cons_succ]
      refine lin_bound (fun K hK => ?_)
      go_simp
      try rw [r1]
      refine (HS2.out _ (Nat.le_trans HS.out (Nat.le_trans (@RK.k (oth Z P) _ _ _ HK.out).size HKx.out.size)) (@RRep.next (oth Z P) _ _ _ _ _ HR.out HKx.out)).mono ?_
      rintro e w3 ⟨rfl, hr3, hk3⟩
      dsimp only
      have HLn := Hd.mk ((HL.out.next HKx.out).rk hk3)
      have HKn := Hd.mk (@RK.trans (oth Z P) _ _ _ _ HK.out (rk_pre HKx.out hk3))
      have HBn := Hd.mk (blk_rk (HL.out.next HKx.out) hk3 (HKx.out.blk HB.out (fun h => h)))
      clear HR
      have HR := Hd.mk hr3
      refine hK.out _ _ HBn.out ?_
      clear hK K hr3 hk3 HB HL HK HKx
      have HB := HBn
      have HL := HLn
      have HK := HKn
      clear HBn HLn HKn
      repeat
        refine lin_free (v := ?_) (by rfl) ?_ ?_
        rotate_left
        · intro w' hSw
          go_simp
          first | done | with_reducible rfl
        simp only [Act.put, List.setIfInBounds_toArray, List.set_cons_zero, List.set_cons_succ]
      refine NoPanic.normal ?_
      by_cases hz : X2 = 0
      · subst hz
        go_wp2_with fail
        refine wp_region_lin default (fun w' => Blk w' M 56 (rlCells E (f : Nat) (.slice pv n cv) (s : Nat))) [(0, true), (1, true), (2, true), (3, true), (4, true), (5, true), (6, true), (7, true), (8, true), (9, true), (10, true), (11, true), (12, true), (13, false), (14, true)] (by kernel_rfl) (by kernel_rfl) rfl (by kernel_rfl) (by kernel_rfl) HB.out.drew ?_
        simp only [pick, List.getD_cons_zero, List.getD_cons_succ]
        have HKx : Hd (Keeps (fun _ => False) w3 w3.drew) := ⟨(Keeps.refl _ _).drew⟩
        obtain ⟨wx, hwx⟩ : ∃ x, x = w3.drew := ⟨_, rfl⟩
        rw [← hwx] at HKx ⊢
        clear hwx
        repeat
          refine lin_free (v := ?_) (by rfl) ?_ ?_
          rotate_left
          · intro w' hSw
            have c0 := hSw.at (j := 0) rfl
            have c1 := hSw.at (j := 1) rfl
            have c2 := hSw.at (j := 2) rfl
            go_simp
            first | done | with_reducible rfl
          simp only [Act.put, List.setIfInBounds_toArray, List.set_cons_zero, List.set_cons_succ]
        refine lin_bound (fun K hK => ?_)
        go_simp
        try rw [r1]
        refine (HS3.out _ (Nat.le_trans HS.out (Nat.le_trans (@RK.k (oth Z P) _ _ _ HK.out).size HKx.out.size)) (@RRep.next (oth Z P) _ _ _ _ _ HR.out HKx.out)).mono ?_
        rintro e w4 ⟨rfl, hr4, hk4⟩
        dsimp only
        have HLn := Hd.mk ((HL.out.next HKx.out).rk hk4)
        have HKn := Hd.mk (@RK.trans (oth Z P) _ _ _ _ HK.out (rk_pre HKx.out hk4))
        have HBn := Hd.mk (blk_rk (HL.out.next HKx.out) hk4 (HKx.out.blk HB.out (fun h => h)))
        clear HR
        have HR := Hd.mk hr4
        refine hK.out _ _ HBn.out ?_
        clear hK K hr4 hk4 HB HL HK HKx
        have HB := HBn
        have HL := HLn
        have HK := HKn
        clear HBn HLn HKn
        repeat
          refine lin_free (v := ?_) (by rfl) ?_ ?_
          rotate_left
          · intro w' hSw
            go_simp
            first | done | with_reducible rfl
          simp only [Act.put, List.setIfInBounds_toArray, List.set_cons_zero, List.set_cons_succ]
        refine NoPanic.normal ?_
        by_cases hz : X3 = 0
        · subst hz
          have hPe : RP = (0, T4) := P3.out (by trivial) (by trivial) (by trivial)
          have hLe : rewL σ l rs = { l with rows := rs, sure := N } := by rw [HLw.out, hPe, if_pos rfl]
          have HPe := Hd.mk hPe
          have HLe := Hd.mk hLe
          have HEn : Hd (endL rs ≤ 16777216) := ⟨HRe.out (by rw [hPe])⟩
          obtain ⟨v', w5, p', c', hrun, hO5, k5, rfl⟩ := HAp.out w4 (HV.out _ HK.out)
          have HRun := Hd.mk hrun
          have HO5 := Hd.mk hO5
          have K5 := Hd.mk k5
          have hb5 := k5.blk HB.out (fun h => h)
          have HB5 := Hd.mk hb5
          have e2 : w5.cell? ⟨M, 2, none⟩ = some (.slice pv n cv) := hb5.at (j := 2) rfl
          have e3 : w5.cell? ⟨M, 3, none⟩ = some (.int .i64 (s : Nat)) := hb5.at (j := 3) rfl
          have f2 := hb5.free 2
          have f3 := hb5.free 3
          clear hPe hLe P0 P1 P2 P3 HLw HH HFo HS0 HS1 HS2 HS3 hrun hO5 k5 hb5 HAp HRe
          go_wp2_with (at_builtin; refine wp_append_run rfl (Operand.tmp 64) (Operand.tmp 65) 31 rfl _ _ _ rfl rfl HRun.out ?_)
          go_wp2
          go_ret
          rw [HPe.out, HLe.out]
          have hsz : w4.heap.size ≤ w5.heap.size := K5.out.size
          have hlt : M < w4.heap.size := HL.out.lt
          have hnl : (Value.slice p' N c').ownBlock ≠ some M := fun e => by have := (HO5.out.lt e).1; omega
          have K7 : Keeps (· = M) w5 ((w5.setCell ⟨M, 2, none⟩ (.slice p' N c')).setCell ⟨M, 3, none⟩ (.int .i64 (N : Nat))) := ((Keeps.refl (· = M) w5).setCell (p := ⟨M, 2, none⟩) (.inr rfl) _).setCell (p := ⟨M, 3, none⟩) (.inr rfl) _
          refine ⟨rfl, RLAfter.put HR.out HL.out HK.out ((K5.out.mono (fun g _ h => h.elim)).trans (K7.mono (fun g _ h => .inl h))) (P' := (Value.slice p' N c').ownBlock) ?_ (fun g hg => .inr (HO5.out.lt hg).1)⟩
          refine ⟨⟨_, ?_, HO5.out.base0.keeps K7 (fun g hg e => hnl (e ▸ hg)), rfl⟩, ⟨HOk.out.f, HEn.out, Nat.le_of_eq HN.out.symm⟩⟩
          show Blk _ M 56 (rlCells E (l.f : Nat) (.slice p' N c') (N : Nat))
          rw [HFF.out]
          exact (HB5.out.set 2 _).set 3 _
        · have h1 : ((X3 : Int) == 0) = false := by simp; omega
          have hPe : RP = (X3, T4) := P3.out (by trivial) (by trivial) (by trivial)
          have hLe : rewL σ l rs = l := by rw [HLw.out, hPe, if_neg hz]
          have HPe := Hd.mk hPe
          have HLe := Hd.mk hLe
          clear hz hPe hLe P0 P1 P2 P3 HLw
          go_wp2
          go_ret
          rw [HPe.out, HLe.out]
          exact ⟨rfl, RLAfter.of HR.out HL.out HK.out⟩
      · have h1 : ((X2 : Int) == 0) = false := by simp; omega
        have hPe : RP = (X2, T3) := P2.out (by trivial) (by trivial) hz
        have hLe : rewL σ l rs = l := by rw [HLw.out, hPe, if_neg hz]
        have HPe := Hd.mk hPe
        have HLe := Hd.mk hLe
        clear hz hPe hLe P0 P1 P2 P3 HLw
        go_wp2
        go_ret
        rw [HPe.out, HLe.out]
        exact ⟨rfl, RLAfter.of HR.out HL.out HK.out⟩
    · have h1 : ((X1 : Int) == 0) = false := by simp; omega
      have hPe : RP = (X1, T2) := P1.out (by trivial) hz
      have hLe : rewL σ l rs = l := by rw [HLw.out, hPe, if_neg hz]
      have HPe := Hd.mk hPe
      have HLe := Hd.mk hLe
      clear hz hPe hLe P0 P1 P2 P3 HLw
      go_wp2
      go_ret
      rw [HPe.out, HLe.out]
      exact ⟨rfl, RLAfter.of HR.out HL.out HK.out⟩
  · have h1 : ((X0 : Int) == 0) = false := by simp; omega
    have hPe : RP = (X0, T1) := P0.out hz
    have hLe : rewL σ l rs = l := by rw [HLw.out, hPe, if_neg hz]
    have HPe := Hd.mk hPe
    have HLe := Hd.mk hLe
    clear hz hPe hLe P0 P1 P2 P3 HLw
    go_wp2
    go_ret
    rw [HPe.out, HLe.out]
    exact ⟨rfl, RLAfter.of HR.out HL.out HK.out⟩

end Go.Proofs.Ytmcdfhihfcfbaaa.W
