/-
  JournalLasts: the law's memory: disk, log, the list of rows that may be found; the walk of found.
-/
import Derived.Test.YtmcdfhihfcfbaaaJIw
import Derived.Test.YtmcdfhihfcfbaaaJFw
namespace Go.Proofs.Ytmcdfhihfcfbaaa.W
open Go.RowKit
set_option linter.unusedVariables false

abbrev VR := Value × List ByteArray

/-- the law's own blocks: the list, the rows in it that the law has made, the box of the call -/
def mX (B : World) (v : Value) (xs : List VR) (b : Option Nat) : Nat → Prop := fun g => v.ownBlock = some g ∨ (∃ x ∈ xs, x.2 ≠ [] ∧ x.1.ownBlock = some g ∧ B.heap.size ≤ g) ∨ b = some g

/-- a row of strings that stays: an old one, or one that the law has made -/
structure Stay (B w : World) (x : VR) : Prop where
  row : Rw 1 strE w x.1 x.2
  blk : ∀ g, x.1.ownBlock = some g → x.2 ≠ [] → g < B.heap.size ∨ ∃ cur fz, w.heap[g]? = some (.cells cur 9 fz)

structure MW (B w : World) (D L : Nat) (σ : St) (l : Lg) (v : Value) (ps qs : List VR) (b : Option Nat) : Prop where
  jw : JW B w D L σ l (mX B v (ps ++ qs) b)
  own : Own w B.heap.size 31 v (ps.map (·.1))
  each : ∀ x ∈ ps ++ qs, Stay B w x

theorem own_slice {v : Value} {a : Addr} {n c : Nat} (h : v = .slice (some a) n c) : v.ownBlock = some a.block := by subst h; rfl

section
variable {B w w' : World} {D L L' : Nat} {σ σ' : St} {l l' : Lg} {v v' : Value} {ps qs : List VR} {b : Option Nat}

theorem Stay.keeps {S : Nat → Prop} {x : VR} (h : Stay B w x) (k : Keeps S w w') (hS : ∀ g, S g → B.heap.size ≤ g ∧ ¬ (x.2 ≠ [] ∧ x.1.ownBlock = some g)) : Stay B w' x := by
  refine ⟨h.row.keepsStr k (fun a n c e hlt h0 hs => (hS _ hs).2 ⟨h0, own_slice e⟩), fun g hg h0 => ?_⟩
  rcases h.blk g hg h0 with h1 | ⟨cur, fz, h1⟩
  · exact .inl h1
  · exact .inr ⟨cur, fz, by rw [k.block g (lt_of_heap h1) (fun hs => (hS g hs).2 ⟨h0, hg⟩)]; exact h1⟩
theorem Stay.next {x : VR} (h : Stay B w x) (k : Keeps (fun _ => False) w w') : Stay B w' x := h.keeps k (fun g e => e.elim)

/-- the blocks of X lie in memory -/
theorem MW.op (h : MW B w D L σ l v ps qs b) (ha : JAfter B w w' D L σ' l' (mX B v (ps ++ qs) b)) : MW B w' D L σ' l' v ps qs b := by
  refine ⟨ha.jw, h.own.keeps ha.keeps (fun g hg e => e.2 (.inl hg)), fun x hx => (h.each x hx).keeps ha.keeps (fun g e => ⟨e.1, fun e2 => e.2 (.inr (.inl ⟨x, hx, e2.1, e2.2, e.1⟩))⟩)⟩
theorem MW.next (h : MW B w D L σ l v ps qs b) (k : Keeps (fun _ => False) w w') : MW B w' D L σ l v ps qs b :=
  ⟨h.jw.next k, h.own.keeps k (fun _ _ e => e), fun x hx => (h.each x hx).next k⟩
theorem MW.of_below (h : MW B w D L σ l v ps qs b) (hb : Below w.heap.size w w') : MW B w' D L σ l v ps qs b :=
  h.next (Keeps.of_below hb (fun k h1 h2 => absurd h1 (Nat.not_lt.2 h2)))

/-- fewer rows are held -/
theorem MW.less (h : MW B w D L σ l v ps qs b) {qs' : List VR} {b' : Option Nat} (hq : ∀ x ∈ qs', x ∈ ps ++ qs) (hb : ∀ g, b' = some g → b = some g) : MW B w D L σ l v ps qs' b' := by
  have hsub : ∀ x ∈ ps ++ qs', x ∈ ps ++ qs := fun x hx => by
    rcases List.mem_append.1 hx with hx | hx
    · exact List.mem_append.2 (.inl hx)
    · exact hq x hx
  exact ⟨h.jw.setX (fun g hg => .inl (hg.imp_right (fun e => e.imp (fun ⟨x, hx, r⟩ => ⟨x, hsub x hx, r⟩) (hb g)))), h.own, fun x hx => h.each x (hsub x hx)⟩
/-- the list is dropped -/
theorem MW.clear (h : MW B w D L σ l v ps qs b) : MW B w D L σ l (.slice none 0 0) [] qs b :=
  ⟨h.jw.setX (fun g hg => .inl (by
    rcases hg with hg | ⟨x, hx, r⟩ | hg
    · cases hg
    · exact .inr (.inl ⟨x, List.mem_append.2 (.inr (by simpa using hx)), r⟩)
    · exact .inr (.inr hg))), Own.nil _ _ _, fun x hx => h.each x (List.mem_append.2 (.inr (by simpa using hx)))⟩

/-- a new box -/
theorem MW.box (h : MW B w D L σ l v ps qs none) (cs : List Value) : MW B (w.alloc (.cells cs.toArray 34)) D L σ l v ps qs (some w.heap.size) := by
  have h' := h.next ((Keeps.refl (fun _ => False) w).alloc (.cells cs.toArray 34))
  refine ⟨h'.jw.setX (fun g hg => ?_), h'.own, h'.each⟩
  rcases hg with hg | hg | hg
  · exact .inl (.inl hg)
  · exact .inl (.inr (.inl hg))
  · injection hg with hg
    subst hg
    exact .inr ⟨_, _, _, (Blk.new w 34 cs).is, by decide, by decide, by decide, by decide⟩

/-- the list grows or is made anew -/
theorem MW.list (h : MW B w D L σ l v ps qs b) {ps' : List VR} (k : Keeps (fun g => v.ownBlock = some g) w w') (hO : Own w' B.heap.size 31 v' (ps'.map (·.1))) (hv : ∀ g, v'.ownBlock = some g → v.ownBlock = some g ∨ w.heap.size ≤ g) (hp : ∀ x ∈ ps', x ∈ ps ++ qs ∨ (Stay B w x ∧ ∀ g, x.1.ownBlock = some g → x.2 ≠ [] → g < B.heap.size))
    (hbt : ∀ g, b = some g → ∃ cur fz, w.heap[g]? = some (.cells cur 34 fz)) : MW B w' D L σ l v' ps' qs b := by
  have hot : ∀ g, v.ownBlock = some g → B.heap.size ≤ g ∧ ∃ cur fz, w.heap[g]? = some (.cells cur 31 fz) := fun g hg => ⟨(h.own.lt hg).1, own_heap0 h.own hg⟩
  have hty : ∀ g cur T fz, w.heap[g]? = some (.cells cur T fz) → T ≠ 31 → v.ownBlock ≠ some g := fun g cur T fz e t hg => by
    obtain ⟨_, cur', fz', e'⟩ := hot g hg
    rw [e] at e'
    injection e' with e'; injection e' with _ e' _; exact t e'
  have hst : ∀ x, Stay B w x → Stay B w' x := fun x hx => hx.keeps k (fun g hg => ⟨(hot g hg).1, fun e => by
    rcases hx.blk g e.2 e.1 with h1 | ⟨cur, fz, h1⟩
    · have := (hot g hg).1; omega
    · exact hty g _ _ _ h1 (by decide) hg⟩)
  have hall : ∀ x ∈ ps' ++ qs, Stay B w x := fun x hx => by
    rcases List.mem_append.1 hx with hx | hx
    · rcases hp x hx with h1 | h1
      · exact h.each x h1
      · exact h1.1
    · exact h.each x (List.mem_append.2 (.inr hx))
  refine ⟨h.jw.grow k (fun g hg => ⟨.inl hg, (hot g hg).1⟩) (fun g hg => ?_) (fun g hg => ?_), hO, fun x hx => hst x (hall x hx)⟩
  · obtain ⟨_, cur, fz, e⟩ := hot g hg
    exact ⟨cur, _, fz, e, by decide⟩
  · rcases hg with hg | ⟨x, hx, h0, hg, hB⟩ | hg
    · obtain ⟨cur, fz, e⟩ := own_heap0 hO hg
      exact ⟨(hv g hg).imp_left .inl, cur, _, fz, e, by decide, by decide, by decide⟩
    · have hsx := hst x (hall x hx)
      have hX : mX B v (ps ++ qs) b g ∨ w.heap.size ≤ g := by
        rcases List.mem_append.1 hx with hx | hx
        · rcases hp x hx with h1 | h1
          · exact .inl (.inr (.inl ⟨x, h1, h0, hg, hB⟩))
          · have := h1.2 g hg h0; omega
        · exact .inl (.inr (.inl ⟨x, List.mem_append.2 (.inr hx), h0, hg, hB⟩))
      rcases hsx.blk g hg h0 with h1 | ⟨cur, fz, e⟩
      · omega
      · exact ⟨hX, cur, _, fz, e, by decide, by decide, by decide⟩
    · obtain ⟨cur, fz, e⟩ := hbt g hg
      exact ⟨.inl (.inr (.inr hg)), cur, _, fz, by rw [k.block g (lt_of_heap e) (hty g _ _ _ e (by decide))]; exact e, by decide, by decide, by decide⟩

/-- a clone of the log's rows -/
theorem MW.was (h : MW B w D L σ l v ps qs b) : Calls Try.prog 16 #[.pointer (some ⟨L, 0, none⟩)] w fun e w' => ∃ p c, e = .returned (.slice p l.rows.length c) ∧ MW B w' D L σ l v ps ((.slice p l.rows.length c, l.rows) :: qs) b ∧ Below w.heap.size w w' := by
  refine (h.jw.all).mono fun e w' ⟨v', he, hO, hj, hb⟩ => ?_
  obtain ⟨p, c, hv'⟩ := hO.slice'
  rw [List.length_map] at hv'
  subst hv'
  have h' := h.of_below hb
  refine ⟨p, c, he, ⟨?_, h'.own, fun x hx => ?_⟩, hb⟩
  · refine h.jw.grow (Keeps.of_below hb (fun k h1 h2 => absurd h1 (Nat.not_lt.2 h2)) : Keeps (fun _ => False) w w') (fun g e => e.elim) (fun g e => e.elim) (fun g hg => ?_)
    have old : mX B v (ps ++ qs) b g → (mX B v (ps ++ qs) b g ∨ w.heap.size ≤ g) ∧ ∃ cur T fz, w'.heap[g]? = some (.cells cur T fz) ∧ T ≠ 70 ∧ T ≠ 91 ∧ T ≠ 64 := fun hg => ⟨.inl hg, h'.jw.xs g hg⟩
    rcases hg with hg | ⟨x, hx, h0, hg, hB⟩ | hg
    · exact old (.inl hg)
    · rcases List.mem_append.1 hx with hx | hx
      · exact old (.inr (.inl ⟨x, List.mem_append.2 (.inl hx), h0, hg, hB⟩))
      · rcases List.mem_cons.1 hx with rfl | hx
        · obtain ⟨cur, fz, e⟩ := own_heap0 hO hg
          exact ⟨.inr (hO.lt hg).1, cur, _, fz, e, by decide, by decide, by decide⟩
        · exact old (.inr (.inl ⟨x, List.mem_append.2 (.inr hx), h0, hg, hB⟩))
    · exact old (.inr (.inr hg))
  · rcases List.mem_append.1 hx with hx | hx
    · exact h'.each x (List.mem_append.2 (.inl hx))
    · rcases List.mem_cons.1 hx with rfl | hx
      · exact ⟨Rw.of_str hO, fun g hg _ => .inr (own_heap0 hO hg)⟩
      · exact h'.each x (List.mem_append.2 (.inr hx))

/-- another log on the disk -/
theorem MW.open (h : MW B w D L σ l v ps qs b) (f : Int) (rs : List ByteArray) (hp : openP σ f = (0, rs)) :
    Calls Try.prog 10 #[.pointer (some ⟨D, 0, none⟩), .int .i64 f] w fun e w' => ∃ L, e = .returned (.tuple #[.pointer (some ⟨L, 0, none⟩), .int .i64 0]) ∧ MW B w' D L σ ⟨f.toNat, rs, rs.length⟩ v ps qs b ∧ Keeps (fun _ => False) w w' :=
  (h.jw.one.openYes f rs hp h.jw.xs).mono fun e w' ⟨L, he, hj, k, _⟩ => ⟨L, he, ⟨hj, h.own.keeps k (fun _ _ e => e), fun x hx => (h.each x hx).next k⟩, k⟩
end

def foundB (rows : List ByteArray) (ps : List VR) : Bool := ps.any fun x => decide (rows = x.2)
theorem foundB_mem {rows : List ByteArray} {ps : List VR} {x : VR} (hx : x ∈ ps) (e : x.2 = rows) : foundB rows ps = true := by
  unfold foundB; rw [List.any_eq_true]; exact ⟨x, hx, decide_eq_true e.symm⟩

set_option maxRecDepth 100000 in
set_option maxHeartbeats 2000000 in
theorem found_any (B w : World) (v u : Value) (rows : List ByteArray) (ps : List VR) (hl : rows.length ≤ 100000000) (hp : ps.length ≤ 100000000) (hps : ∀ x ∈ ps, x.2.length ≤ 100000000) (h : Rw 1 strE w v rows) (hO : Own w B.heap.size 31 u (ps.map (·.1))) (he : ∀ x ∈ ps, Rw 1 strE w x.1 x.2) :
    Calls Try.prog 35 #[v, u] w fun e w' => e = .returned (.bool (foundB rows ps)) ∧ Below w.heap.size w w' := by
  obtain ⟨pv, cv, hv⟩ := h.slice
  obtain ⟨pu, cu, hu⟩ := hO.slice'
  rw [List.length_map] at hu
  obtain ⟨nr, hnr⟩ : ∃ nr, rows.length = nr := ⟨_, rfl⟩
  obtain ⟨n, hn⟩ : ∃ n, ps.length = n := ⟨_, rfl⟩
  have HNR := Hd.mk hnr
  have HN := Hd.mk hn
  rw [hnr] at hv hl
  rw [hn] at hu hp
  subst hv hu
  have HV := Hd.mk h
  have HO := Hd.mk hO
  have HE := Hd.mk he
  have HPS := Hd.mk hps
  clear h hO he hnr hn hps
  go_enter Try.func35, Try.ntmps35
  go_wp2
  go_loopw [5, 6] (fun i _ wr => ∃ k : Nat, k ≤ n ∧ i = .int .i64 k ∧ (∀ j (h1 : j < ps.length), j < k → ps[j].2 ≠ rows) ∧ Below w.heap.size w wr) (fun i _ _ => n - (intOf i).toNat)
  case atStart => exact ⟨0, Nat.zero_le _, rfl, fun j _ hj => absurd hj (Nat.not_lt_zero _), Below.refl _ _⟩
  case round =>
    obtain ⟨k, hk, rfl, hall, hB⟩ := hrel
    have HA := Hd.mk hall
    have HB := Hd.mk hB
    clear hall hB
    by_cases hlt : k < n
    · have hd1 : decide ((k : Int) < (n : Int)) = true := by simp; omega
      have hkl : k < ps.length := HN.out ▸ hlt
      have hmem : ps[k] ∈ ps := List.getElem_mem hkl
      have hrw := HE.out _ hmem
      have hln := HPS.out _ hmem
      obtain ⟨g, cap, hg⟩ := HO.out.slice (by rw [List.length_map]; omega)
      rw [List.length_map, HN.out] at hg
      injection hg with hg1 _ hg3
      subst hg1 hg3
      have hc : wr.cell? ⟨g, k, none⟩ = some ps[k].1 := by
        have hO' := HO.out.keeps (Keeps.of_below HB.out (fun k h1 h2 => absurd h1 (Nat.not_lt.2 h2)) : Keeps (fun _ => False) w wr) (fun _ _ h => h)
        rcases hO'.is with ⟨e, _⟩ | ⟨g', cap', e, _, _, _, _, hcell, _⟩
        · cases e
        · injection e with e _ _
          injection e with e
          injection e with e _ _
          subst e
          exact hcell k _ (by rw [List.getElem?_map, List.getElem?_eq_getElem hkl]; rfl)
      obtain ⟨x, hx⟩ : ∃ x, ps[k] = x := ⟨_, rfl⟩
      rw [hx] at hrw hln hc
      obtain ⟨px, cx, hpx⟩ := hrw.slice
      obtain ⟨xv, xr⟩ := x
      have hpx' : xv = .slice px xr.length cx := hpx
      subst hpx'
      have HX := Hd.mk hx
      have HSm := Hd.mk (same_any wr (.slice pv nr cv) (.slice px xr.length cx) rows xr (by rw [HNR.out]; omega) (Nat.le_trans hln (by decide)) (HV.out.below strE_stays HB.out) (hrw.below strE_stays HB.out))
      obtain ⟨bb, hbb⟩ : ∃ bb, decide (rows = xr) = bb := ⟨_, rfl⟩
      have HBB := Hd.mk hbb
      rw [hbb] at HSm
      dsimp only at hc
      clear hmem hrw hln hx hpx hbb
      go_wp2_with fail
      refine HSm.out.mono ?_
      rintro e w2 ⟨rfl, hb2⟩
      have HB2 := Hd.mk (Below.chain HB.out hb2)
      clear hb2 HSm
      rcases bb with _ | _
      · go_wp2
        go_roundw
        case rel =>
          refine ⟨k + 1, hlt, by go_num, fun j h1 hj => ?_, HB2.out⟩
          rcases Nat.lt_or_ge j k with h' | h'
          · exact HA.out j h1 h'
          · obtain rfl : j = k := by omega
            rw [HX.out]
            exact fun e => by
              have := HBB.out
              rw [decide_eq_true (show rows = xr from e.symm)] at this; cases this
        case measure => simp [intOf]; omega
      · have HF : Hd (foundB rows ps = true) := ⟨by
          have e : rows = xr := of_decide_eq_true HBB.out
          have hkl : k < ps.length := HN.out ▸ hlt
          exact foundB_mem (List.getElem_mem hkl) (by rw [HX.out]; exact e.symm)⟩
        go_wp2
        go_ret
        exact ⟨ret_b HF.out.symm, HB2.out⟩
    · have hd1 : decide ((k : Int) < (n : Int)) = false := by simp; omega
      have HF : Hd (foundB rows ps = false) := ⟨by
        rw [Bool.eq_false_iff]
        intro h
        unfold foundB at h
        rw [List.any_eq_true] at h
        obtain ⟨x, hx, e⟩ := h
        obtain ⟨j, hj, rfl⟩ := List.getElem_of_mem hx
        exact HA.out j hj (by have := HN.out; omega) (of_decide_eq_true e).symm⟩
      go_wp2
      go_ret
      exact ⟨ret_b HF.out.symm, HB.out⟩

end Go.Proofs.Ytmcdfhihfcfbaaa.W
