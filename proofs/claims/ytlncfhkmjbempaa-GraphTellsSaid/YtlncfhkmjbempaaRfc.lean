/-
  The reference's Parts.
-/
import Derived.Test.YtlncfhkmjbempaaRfb
namespace Go.Proofs.Ytlncfhkmjbempaa.W
open Go.RowKit
set_option linter.unusedVariables false

-- plain
def sameW (R : Nat → Nat → Bool) (v : Nat) (w : Nat) : Bool := R v w && R w v
/-- ready, as far as the first j nodes tell -/
def rdJ (R : Nat → Nat → Bool) (d : Nat → Bool) (v j : Nat) : Bool := !d v && (List.range j).all fun w => !R v w || R w v || d w
theorem rdJ_zero (R : Nat → Nat → Bool) (d : Nat → Bool) (v : Nat) : rdJ R d v 0 = !d v := by simp [rdJ]
theorem rdJ_succ (R : Nat → Nat → Bool) (d : Nat → Bool) (v j : Nat) : rdJ R d v (j + 1) = (rdJ R d v j && (!R v j || R j v || d j)) := by
  unfold rdJ
  rw [List.range_succ, List.all_append]
  simp [Bool.and_assoc]
theorem rdJ_ready {n : Nat} {R : Nat → Nat → Bool} {d : Nat → Bool} {v : Nat} : Tj.readyB n R d v = rdJ R d v n := rfl
theorem rdJ_false {n : Nat} {R : Nat → Nat → Bool} {d : Nat → Bool} {v j : Nat} (hj : j ≤ n) (h : rdJ R d v j = false) : Tj.readyB n R d v = false := by
  rcases hr : Tj.readyB n R d v with _ | _
  · rfl
  · exfalso
    unfold Tj.readyB at hr
    simp only [Bool.and_eq_true, List.all_eq_true, List.mem_range] at hr
    have : rdJ R d v j = true := by
      unfold rdJ
      simp only [Bool.and_eq_true, List.all_eq_true, List.mem_range]
      exact ⟨hr.1, fun x hx => hr.2 x (by omega)⟩
    rw [h] at this; cases this
theorem part_flt {n : Nat} {R : Nat → Nat → Bool} {v : Nat} : Tj.partB n R v = fltN (sameW R v) n := rfl
theorem split_len (d P : Nat → Bool) : ∀ l : List Nat, (∀ x, x ∈ l → P x = true → d x = false) → (l.filter fun x => !(d x || P x)).length + (l.filter P).length = (l.filter fun x => !d x).length
  | [], _ => rfl
  | a :: r, h => by
    have ih := split_len d P r (fun x hx => h x (List.mem_cons_of_mem _ hx))
    simp only [Bool.not_or] at ih ⊢
    have ha := h a List.mem_cons_self
    rcases hp : P a with _ | _ <;> rcases hd : d a with _ | _
    · simp [hp, hd]; omega
    · simp [hp, hd]; omega
    · simp [hp, hd]; omega
    · rw [ha hp] at hd; cases hd
/-- one step of the order -/
structure Grd (n : Nat) (R : Nat → Nat → Bool) (all : List (List Nat)) (d : Nat → Bool) (ps : List (List Nat)) : Prop where
  k : ∃ k, Tj.left n d ≤ k ∧ all = ps ++ Tj.greedy n R k d
  cls : ∀ v w, v < n → w < n → d v = true → R v w = true → R w v = true → d w = true
theorem Grd.step {n : Nat} {R : Nat → Nat → Bool} {all : List (List Nat)} {d : Nat → Bool} {ps : List (List Nat)} (h : Grd n R all d ps) (hrefl : ∀ v, v < n → R v v = true) (htr : ∀ u v w, u < n → v < n → w < n → R u v = true → R v w = true → R u w = true)
    {v : Nat} (hv : v < n) (hr : Tj.readyB n R d v = true) (hmin : ∀ u, u < v → Tj.readyB n R d u = false) {d' : Nat → Bool} (hd' : ∀ u, u < n → d' u = (d u || sameW R v u)) :
    Grd n R all d' (ps ++ [fltN (sameW R v) n]) ∧ Tj.left n d' + (fltN (sameW R v) n).length = Tj.left n d := by
  obtain ⟨k, hk, he⟩ := h.k
  have hp : Tj.pickB n R d = some v := List.find?_range_eq_some.2 ⟨hr, List.mem_range.2 hv, fun j hj => by rw [hmin j hj]; rfl⟩
  obtain ⟨h1, h2⟩ := Tj.greedy_step hp (hrefl v hv) hk
  have hcon : ∀ u, u < n → (Tj.partB n R v).contains u = sameW R v u := fun u hu => by
    rw [Bool.eq_iff_iff, List.contains_iff_mem, Tj.mem_partB]
    unfold sameW
    rw [Bool.and_eq_true]
    exact ⟨fun h => h.2, fun h => ⟨hu, h⟩⟩
  have hleft : ∀ {a b : Nat → Bool}, (∀ u, u < n → a u = b u) → Tj.left n a = Tj.left n b := fun {a b} h => by
    unfold Tj.left
    rw [List.filter_congr (fun x hx => by rw [h x (List.mem_range.1 hx)])]
  have hgr : ∀ {a b : Nat → Bool}, (∀ u, u < n → a u = b u) → ∀ k, Tj.greedy n R k a = Tj.greedy n R k b := fun {a b} h k => by
    induction k generalizing a b with
    | zero => rfl
    | succ k ih =>
      have hpk : Tj.pickB n R a = Tj.pickB n R b := by
        have hrd : ∀ x, x < n → Tj.readyB n R a x = Tj.readyB n R b x := fun x hx => by
          unfold Tj.readyB
          rw [h x hx]
          congr 1
          rw [Bool.eq_iff_iff, List.all_eq_true, List.all_eq_true]
          exact ⟨fun k y hy => by rw [← h y (List.mem_range.1 hy)]; exact k y hy, fun k y hy => by rw [h y (List.mem_range.1 hy)]; exact k y hy⟩
        unfold Tj.pickB
        cases hb : (List.range n).find? (Tj.readyB n R b) with
        | none => exact List.find?_eq_none.2 (fun x hx => by rw [hrd x (List.mem_range.1 hx)]; exact List.find?_eq_none.1 hb x hx)
        | some u =>
          obtain ⟨k1, k2, k3⟩ := List.find?_range_eq_some.1 hb
          exact List.find?_range_eq_some.2 ⟨by rw [hrd u (List.mem_range.1 k2)]; exact k1, k2, fun j hj => by rw [hrd j (Nat.lt_trans hj (List.mem_range.1 k2))]; exact k3 j hj⟩
      unfold Tj.greedy
      rw [hpk]
      cases Tj.pickB n R b with
      | none => rfl
      | some x => exact congrArg _ (ih (fun u hu => by rw [h u hu]))
  have hd2 : ∀ u, u < n → d' u = (d u || (Tj.partB n R v).contains u) := fun u hu => by rw [hd' u hu, hcon u hu]
  have hnd : d v = false := by
    have := Tj.readyB_iff.1 hr
    exact this.1
  have hsp := split_len d (sameW R v) (List.range n) (fun x hx hs => by
    unfold sameW at hs
    rw [Bool.and_eq_true] at hs
    rcases hdx : d x with _ | _
    · rfl
    · have := h.cls x v (List.mem_range.1 hx) hv hdx hs.2 hs.1
      rw [hnd] at this; cases this)
  refine ⟨⟨⟨k - 1, by rw [hleft hd2]; exact h2, by rw [he, h1, hgr hd2, part_flt]; simp⟩, fun a b ha hb h3 h4 h5 => ?_⟩, ?_⟩
  · rw [hd' a ha, Bool.or_eq_true] at h3
    rw [hd' b hb, Bool.or_eq_true]
    rcases h3 with h3 | h3
    · exact .inl (h.cls a b ha hb h3 h4 h5)
    · unfold sameW at h3 ⊢
      rw [Bool.and_eq_true] at h3 ⊢
      exact .inr ⟨htr v a b hv ha hb h3.1 h4, htr b a v hb ha hv h5 h3.2⟩
  · rw [hleft hd']; exact hsp
theorem Grd.done {n : Nat} {R : Nat → Nat → Bool} {all : List (List Nat)} {d : Nat → Bool} {ps : List (List Nat)} (h : Grd n R all d ps) (h0 : Tj.left n d = 0) : ps = all := by
  obtain ⟨k, _, he⟩ := h.k
  rw [he, Tj.greedy_end (Tj.pick_left h0), List.append_nil]
theorem Grd.some {n : Nat} {R : Nat → Nat → Bool} {d : Nat → Bool} (hrefl : ∀ v, v < n → R v v = true) (htr : ∀ u v w, u < n → v < n → w < n → R u v = true → R v w = true → R u w = true) (h : ∀ u, u < n → Tj.readyB n R d u = false) : Tj.left n d = 0 := by
  have := Tj.pick_ex hrefl htr (List.find?_eq_none.2 (fun x hx => by rw [h x (List.mem_range.1 hx)]; simp))
  unfold Tj.left
  rw [List.length_eq_zero_iff, List.filter_eq_nil_iff]
  exact fun x hx => by rw [this x (List.mem_range.1 hx)]; simp

-- rows of truths in memory
theorem infoBools : (Try.prog.info? 56).map (fun i => (i.zero, i.size, i.bytes)) = some (some (.slice none 0 0), 1, 24) := by kernel_rfl
structure RB (w : World) (B : Nat) (v : Value) (m k : Nat) (R : Nat → Nat → Bool) : Prop where
  is : ∃ gs : List Nat, gs.length = k ∧ Own w B 56 v (gs.map fun g => .slice (some ⟨g, 0, none⟩) m m) ∧ ∀ j g, gs[j]? = some g → v.ownBlock ≠ some g ∧ Blk w g 4 (bitC m (R j))
theorem RB.slice {w : World} {B : Nat} {v : Value} {m k : Nat} {R : Nat → Nat → Bool} (h : RB w B v m k R) : ∃ p c, v = .slice p k c := by
  obtain ⟨gs, h1, h2, _⟩ := h.is
  obtain ⟨p, c, e⟩ := h2.slice'
  exact ⟨p, c, by rw [e, List.length_map, h1]⟩
theorem RB.push {w w2 w' : World} {B : Nat} {v v' : Value} {m k : Nat} {R : Nat → Nat → Bool} (h : RB w B v m k R) (hb2 : Below w.heap.size w w2) {gl : Nat} (hgl : w.heap.size ≤ gl) (hl : Blk w2 gl 4 (bitC m (R k)))
    {gs : List Nat} (hgs : gs.length = k ∧ Own w B 56 v (gs.map fun g => .slice (some ⟨g, 0, none⟩) m m) ∧ ∀ j g, gs[j]? = some g → v.ownBlock ≠ some g ∧ Blk w g 4 (bitC m (R j)))
    (ho : Own w' B 56 v' (gs.map (fun g => .slice (some ⟨g, 0, none⟩) m m) ++ [.slice (some ⟨gl, 0, none⟩) m m])) (hk : Keeps (fun g => v.ownBlock = some g) w2 w') (hv : v'.ownBlock = v.ownBlock ∨ ∃ g, w2.heap.size ≤ g ∧ v'.ownBlock = some g) : RB w' B v' m (k + 1) R := by
  obtain ⟨h1, h2, h3⟩ := hgs
  have hne : ∀ g, v.ownBlock ≠ some g → g < w2.heap.size → v'.ownBlock ≠ some g := fun g h4 h5 e => by
    rcases hv with hv | ⟨g', h6, h7⟩
    · rw [hv] at e; exact h4 e
    · rw [h7] at e; cases e; omega
  refine ⟨gs ++ [gl], by simp [h1], by simpa using ho, fun j g hj => ?_⟩
  rcases Nat.lt_or_ge j gs.length with hlt | hge
  · rw [List.getElem?_append_left hlt] at hj
    obtain ⟨h4, h5⟩ := h3 j g hj
    have h6 := h5.below hb2 h5.lt
    exact ⟨hne g h4 h6.lt, hk.blk h6 h4⟩
  · rw [List.getElem?_append_right hge] at hj
    have hlt := (List.getElem?_eq_some_iff.1 hj).1
    have hj0 : j = gs.length := by simp at hlt; omega
    subst hj0
    simp at hj
    subst hj
    have h4 : v.ownBlock ≠ some gl := fun e => by have := (h2.lt e).2; omega
    rw [h1]
    exact ⟨hne gl h4 hl.lt, hk.blk hl h4⟩
/-- the table, read in any later world -/
structure RT (w : World) (p : Option Addr) (m : Nat) (R : Nat → Nat → Bool) : Prop where
  is : ∀ j, j < m → ∃ gr gj, p = some ⟨gr, 0, none⟩ ∧ ∀ w', Below w.heap.size w w' → w'.cell? ⟨gr, j, none⟩ = some (.slice (some ⟨gj, 0, none⟩) m m) ∧ ∀ i, i < m → w'.cell? ⟨gj, i, none⟩ = some (.bool (R j i))
theorem RB.read {w : World} {B : Nat} {p : Option Addr} {c m : Nat} {R : Nat → Nat → Bool} (h : RB w B (.slice p m c) m m R) : RT w p m R := ⟨fun j hj => by
  obtain ⟨gs, h1, h2, h3⟩ := h.is
  obtain ⟨gr, c', e⟩ := h2.slice (by rw [List.length_map]; omega)
  injection e with e _ _
  subst e
  have hg := List.getElem?_eq_getElem (l := gs) (i := j) (by omega)
  obtain ⟨h4, h5⟩ := h3 j _ hg
  have hc := (h2.at (j := j) (u := .slice (some ⟨gs[j], 0, none⟩) m m) (by rw [List.getElem?_map, hg]; rfl)).1
  refine ⟨gr, gs[j], rfl, fun w' hb => ⟨?_, fun i hi => (h5.below hb h5.lt).at (bitC_at hi)⟩⟩
  rw [hb.cell (p := ⟨gr, j, none⟩) (h2.lt rfl).2]
  exact hc⟩

set_option maxHeartbeats 4000000 in
set_option maxRecDepth 100000 in
theorem rparts_any (w : World) (n : Int) (hn : n ≤ 1000) (v : Value) (arcs : List Arc) (hR : Rw 2 Arc.E w v arcs) (hl : arcs.length ≤ 1000000) :
    Calls Try.prog 16 #[.int .i64 n, v] w fun e w' => ∃ v', e = .returned v' ∧ Rw 1 rowE w' v' (partsQ n arcs) ∧ Below w.heap.size w w' := by
  obtain ⟨p, c, hv⟩ := hR.slice
  obtain ⟨M, hM⟩ : ∃ M, arcs.length = M := ⟨_, rfl⟩
  rw [hM] at hv
  subst hv
  have HC := Hd.mk (rright_any w n (.slice p M c) arcs hR hl)
  have H := Hd.mk hR
  have HN := Hd.mk hM
  have hMb : M ≤ 1000000 := by omega
  clear hR hM
  rcases hrb : rightB n arcs with _ | _
  · rw [hrb] at HC
    have HNo := Hd.mk hrb
    clear hrb hl
    go_enter Try.func16, Try.ntmps16
    go_wp2_with fail
    refine HC.out.mono ?_
    rintro e w1 ⟨rfl, rfl⟩
    go_wp2
    go_ret
    exact ⟨_, rfl, by unfold partsQ; rw [HNo.out]; exact Rw.nil _, Below.refl _ _⟩
  rw [hrb] at HC
  obtain ⟨m, rfl⟩ := nat_of (right_is hrb).1
  have HRb := Hd.mk hrb
  have hm : m ≤ 1000 := by omega
  have HFr := Hd.mk (fun (w' : World) (hb : Below w.heap.size w w') (k : Nat) (hk : k < m) => rfrom_any w' m hm (.slice p M c) arcs k hk (H.out.below Arc.stays hb) hl HRb.out)
  have HRf : Hd ((∀ v, v < m → reachR m arcs v v = true) ∧ ∀ u v w, u < m → v < m → w < m → reachR m arcs u v = true → reachR m arcs v w = true → reachR m arcs u w = true) := ⟨fun v hv => (reachR_iff hv).2 (.refl v), fun u v w hu hv _ h k => (reachR_iff hu).2 (((reachR_iff hu).1 h).trans ((reachR_iff hv).1 k))⟩
  have HG0 : Hd (Grd m (reachR m arcs) (partsG m arcs) (fun _ => false) []) := ⟨⟨m, Nat.le_trans (List.length_filter_le _ _) (by simp), rfl⟩, fun v w _ _ h => by cases h⟩
  have HPQ : Hd (partsQ (m : Int) arcs = (partsG m arcs).map intL) := ⟨by unfold partsQ; rw [HRb.out]; rfl⟩
  have HAl : Hd ((partsG m arcs).length ≤ m) := ⟨partsG_len⟩
  obtain ⟨R, hRR⟩ : ∃ R, reachR m arcs = R := ⟨_, rfl⟩
  obtain ⟨all, hall⟩ : ∃ all, partsG m arcs = all := ⟨_, rfl⟩
  rw [hRR] at HFr HRf HG0
  rw [hall] at HG0 HPQ HAl
  clear hrb hl hRR hall
  go_enter Try.func16, Try.ntmps16
  go_wp2_with fail
  refine HC.out.mono ?_
  rintro e w1 ⟨rfl, rfl⟩
  clear HC
  go_upto_region 3 with (fail)
  go_cut [5] from 16 (fun s5 wx => s5 = .slice none 0 0 ∧ w = wx)
  case first =>
    go_wp2
    go_meet
    exact ⟨rfl, rfl⟩
  case rest =>
  obtain ⟨rfl, rfl⟩ := hcut
  go_step
  go_step
  go_cut [5] from 16 (fun s5 wx => ∃ pr cr, s5 = .slice pr m cr ∧ Hd (RT wx pr m R) ∧ Hd (Below w.heap.size w wx))
  case first =>
    go_wp2
    go_loopw [6, 5] (fun kv rv wr => ∃ k : Nat, k ≤ m ∧ kv = .int .i64 (k : Int) ∧ Hd (RB wr w.heap.size rv m k R) ∧ Hd (Below w.heap.size w wr)) (fun kv _ _ => m - (intOf kv).toNat)
    case atStart => exact ⟨0, Nat.zero_le _, rfl, ⟨⟨[], rfl, Own.nil _ _ _, fun j g h => by simp at h⟩⟩, ⟨Below.refl _ _⟩⟩
    case round =>
      obtain ⟨k, hk, rfl, HRB, HB⟩ := hrel
      by_cases hlt : k < m
      · have hd1 : decide ((k : Int) < (m : Int)) = true := decide_eq_true (by omega)
        have hmk : m - (intOf (.int .i64 ((k : Int) + 1))).toNat < m - (intOf (.int .i64 (k : Int))).toNat := by simp [intOf]; omega
        have HF1 := Hd.mk (HFr.out wr HB.out k hlt)
        obtain ⟨i0, hi0, hz0, hz1, hz2⟩ := info_parts infoBools
        have HI0 := Hd.mk (And.intro hi0 (And.intro hz0 (And.intro hz1 hz2)))
        clear hi0 hz0 hz1 hz2
        go_wp2_with fail
        refine HF1.out.mono ?_
        rintro e w2 ⟨gl, rfl, hgl, hKl, b2⟩
        obtain ⟨gs, hgs⟩ := HRB.out.is
        have HGs := Hd.mk hgs
        have HOw : Hd (Own w2 w.heap.size 56 u5 (gs.map fun g => .slice (some ⟨g, 0, none⟩) m m)) := ⟨hgs.2.1.keeps (S := fun q => wr.heap.size ≤ q) (Keeps.of_below b2 (fun _ _ h => h)) (fun q hq h => by have := (hgs.2.1.lt hq).2; omega)⟩
        have HKl := Hd.mk (And.intro hgl hKl)
        have Hb2 := Hd.mk b2
        have HB2 := Hd.mk (HB.out.trans (b2.mono HB.out.size))
        clear hgs hgl hKl b2 HF1
        go_wp2_with (at_builtin; refine wp_app1 rfl _ _ 55 rfl 56 Try.underlying55 HI0.out.1 HI0.out.2.1 HI0.out.2.2.1 HI0.out.2.2.2 rfl u5 (gs.map fun g => .slice (some ⟨g, 0, none⟩) m m) _ w2 rfl HOw.out rfl rfl (by have := HGs.out.1; rw [List.length_map]; unfold maxLen; omega) (by have := HGs.out.1; rw [List.length_map]; omega) HB2.out.size ?_)
        intro rv7 w7 h1 h2 h3
        have HR7 : Hd (RB w7 w.heap.size rv7 m (k + 1) R) := ⟨HRB.out.push Hb2.out HKl.out.1 HKl.out.2 HGs.out h1 h2 h3⟩
        have HB7 : Hd (Below w.heap.size w w7) := ⟨HB2.out.trans (h2.below HB2.out.size (fun g hg hr => by have := (HOw.out.lt hr).1; omega))⟩
        clear h1 h2 h3 HRB HB HB2 HOw
        go_wp2_with fail
        exact ⟨⟨k + 1, hlt, by go_num, HR7, HB7⟩, hmk⟩
      · have hd1 : decide ((k : Int) < (m : Int)) = false := decide_eq_false (by omega)
        obtain ⟨pr, cr, hrv⟩ := HRB.out.slice
        have hkm : k = m := by omega
        subst hkm
        subst hrv
        have HRe := Hd.mk HRB.out.read
        clear HRB
        go_wp2
        go_meet
        exact ⟨_, _, rfl, HRe, HB⟩
  case rest =>
  obtain ⟨pr, cr, rfl, HRT, HB5⟩ := hcut
  rename World => w5
  clear HFr
  obtain ⟨gd, hgd⟩ : ∃ gd, w5.heap.size = gd := ⟨_, rfl⟩
  have HGd := Hd.mk hgd
  have mz := make_bools w5 m (by omega)
  rw [hgd] at mz
  have HMZ := Hd.mk mz
  have HB0 : Hd (Below w5.heap.size w5 (w5.alloc (.cells (List.replicate m (.bool false)).toArray 4))) := ⟨below_al _ _⟩
  have HK0 : Hd (Blk (w5.alloc (.cells (List.replicate m (.bool false)).toArray 4)) gd 4 (bitC m fun _ => false)) := ⟨by
    rw [← hgd]
    exact (Blk.new w5 4 (List.replicate m (.bool false))).cast (bitC_zero m)⟩
  clear hgd mz
  go_step
  go_step
  go_cut [7] from 16 (fun s7 wx => s7 = .slice (some ⟨gd, 0, none⟩) m m ∧ Hd (Blk wx gd 4 (bitC m fun _ => false)) ∧ Hd (Below w5.heap.size w5 wx))
  case first =>
    have mz := HMZ.out
    go_wp2
    go_meet
    exact ⟨rfl, HK0, HB0⟩
  case rest =>
  obtain ⟨rfl, HK1, HB1⟩ := hcut
  rename World => w6
  clear HK0 HB0 HMZ
  have HgdB : Hd (gd < w6.heap.size) := ⟨HK1.out.lt⟩
  have HLm : Hd (Tj.left m (fun _ => false) = m) := ⟨(List.length_filter_eq_length_iff.2 (fun _ _ => rfl)).trans List.length_range⟩
  go_wp2
  go_loopg [9, 8] m (fun gh lv ov wr => ∃ (d : Nat → Bool) (ps : List (List Nat)) (vs : List Value), lv = .int .i64 (gh : Int) ∧ Hd (Tj.left m d = gh) ∧ Hd (Grd m R all d ps) ∧ Hd (RowsO wr w6.heap.size ov vs (ps.map intL)) ∧ Hd (Blk wr gd 4 (bitC m d)) ∧ Hd (Below w5.heap.size w5 wr) ∧ Hd (w6.heap.size ≤ wr.heap.size))
  case atStart => exact ⟨_, [], [], rfl, HLm, HG0, ⟨RowsO.nil _ _⟩, HK1, HB1, ⟨Nat.le_refl _⟩⟩
  case round =>
    clear HG0 HK1 HB1
    obtain ⟨d, ps, vs, rfl, HL, HG, HO, HK, HB, HZ⟩ := hrel
    rename Nat => L
    rcases Nat.eq_zero_or_pos L with h0 | h0
    · subst h0
      have HRe : Hd (Rw 1 rowE wr u8 (partsQ (m : Int) arcs)) := ⟨by
        rw [HPQ.out, ← HG.out.done HL.out]
        exact RR.of HO.out⟩
      have HBe : Hd (Below w.heap.size w wr) := ⟨HB5.out.trans (HB.out.mono HB5.out.size)⟩
      clear HG HO HK
      go_wp2
      go_ret
      exact ⟨_, rfl, HRe.out, HBe.out⟩
    · have hd0 : decide ((0 : Int) < (L : Int)) = true := decide_eq_true (by omega)
      have hLm : L ≤ m := by rw [← HL.out]; exact Nat.le_trans (List.length_filter_le _ _) (by simp)
      go_wp2
      clear hd0
      go_loopw [10, 9, 8] (fun kv lv ov wq => ∃ k : Nat, k ≤ m ∧ kv = .int .i64 (k : Int) ∧ lv = .int .i64 (L : Int) ∧ Hd (∀ u, u < k → Tj.readyB m R d u = false) ∧ Hd (RowsO wq w6.heap.size ov vs (ps.map intL)) ∧ Hd (Blk wq gd 4 (bitC m d)) ∧ Hd (Below w5.heap.size w5 wq) ∧ Hd (w6.heap.size ≤ wq.heap.size)) (fun kv _ _ _ => m - (intOf kv).toNat)
      case atStart => exact ⟨0, Nat.zero_le _, rfl, rfl, ⟨fun u h => absurd h (Nat.not_lt_zero _)⟩, HO, HK, HB, HZ⟩
      case round =>
        clear HO HK HB HZ
        obtain ⟨k, hk, rfl, rfl, HMin, HO, HK, HB, HZ⟩ := hrel
        rename World => wk
        have HRk : Hd (∀ g, rowsK u8 vs g → g < wk.heap.size) := ⟨fun g hr => (rowsK_lt HO.out hr).2⟩
        by_cases hlt : k < m
        · have hd1 : decide ((k : Int) < (m : Int)) = true := decide_eq_true (by omega)
          have hmk : m - (intOf (.int .i64 ((k : Int) + 1))).toNat < m - (intOf (.int .i64 (k : Int))).toNat := by simp [intOf]; omega
          have ck := HK.out.at (bitC_at (S := d) hlt)
          obtain ⟨b0, hb0⟩ : ∃ b0, d k = b0 := ⟨_, rfl⟩
          rw [hb0] at ck
          have HR0 : Hd (rdJ R d k 0 = !b0) := ⟨by rw [rdJ_zero, hb0]⟩
          clear hb0
          go_wp2
          clear ck
          go_loopw [13, 12, 11] (fun jv pv bv wq => ∃ (j : Nat) (b : Bool), j ≤ m ∧ jv = .int .i64 (j : Int) ∧ bv = .bool b ∧ Hd (rdJ R d k j = b) ∧ Hd (Own wq wk.heap.size 3 pv (intC (fltN (sameW R k) j))) ∧ Hd (Below wk.heap.size wk wq)) (fun jv _ _ _ => m - (intOf jv).toNat)
          case atStart => exact ⟨0, !b0, Nat.zero_le _, rfl, rfl, HR0, ⟨Own.nil _ _ _⟩, ⟨Below.refl _ _⟩⟩
          case round =>
            clear HR0
            obtain ⟨j, b, hj, rfl, rfl, HRd, HPo, HJ⟩ := hrel
            have hout : b = false ∨ j = m → True := fun _ => trivial
            by_cases hin : j < m ∧ b = true
            · obtain ⟨hlj, rfl⟩ := hin
              have hd2 : decide ((j : Int) < (m : Int)) = true := decide_eq_true (by omega)
              have hmj : m - (intOf (.int .i64 ((j : Int) + 1))).toNat < m - (intOf (.int .i64 (j : Int))).toNat := by simp [intOf]; omega
              obtain ⟨gr, gk, e1, hk1⟩ := HRT.out.is k hlt
              obtain ⟨gr', gj, e2, hj1⟩ := HRT.out.is j hlj
              subst e1
              cases e2
              have hB5j : Below w5.heap.size w5 wr := HB.out.trans (HJ.out.mono HB.out.size)
              have HC5 : Hd (∀ w', Below wk.heap.size wk w' → w'.cell? ⟨gr, k, none⟩ = some (.slice (some ⟨gk, 0, none⟩) m m) ∧ w'.cell? ⟨gk, j, none⟩ = some (.bool (R k j))) := ⟨fun w' hb => by
                have h := hk1 w' (HB.out.trans (hb.mono HB.out.size))
                exact ⟨h.1, h.2 j hlj⟩⟩
              obtain ⟨c1, c2⟩ := hk1 wr hB5j
              obtain ⟨c3, c4⟩ := hj1 wr hB5j
              have c5 := c2 j hlj
              have c6 := c4 k hlt
              have c7 := (HK.out.below HJ.out HK.out.lt).at (bitC_at (S := d) hlj)
              have hs := fltN_succ (sameW R k) j
              have hrs := rdJ_succ R d k j
              rw [HRd.out] at hrs
              have hsw : sameW R k j = (R k j && R j k) := rfl
              clear hk1 hj1 c2 c4 hB5j
              rcases r1 : R k j with _ | _
              · rw [r1] at c5 hrs hsw
                rw [hsw, if_neg (by simp)] at hs
                have HRd2 : Hd (rdJ R d k (j + 1) = true) := ⟨hrs⟩
                have HPo2 : Hd (Own wr wk.heap.size 3 u12 (intC (fltN (sameW R k) (j + 1)))) := ⟨by rw [hs]; exact HPo.out⟩
                clear r1 hs hrs hsw HRd HPo c6 c7
                go_wp2
                exact ⟨⟨j + 1, true, hlj, by go_num, rfl, HRd2, HPo2, HJ⟩, hmj⟩
              · rw [r1] at c5 hrs hsw
                rcases r2 : R j k with _ | _
                · rw [r2] at c6 hrs hsw
                  rw [hsw, if_neg (by simp)] at hs
                  have HPo2 : Hd (Own wr wk.heap.size 3 u12 (intC (fltN (sameW R k) (j + 1)))) := ⟨by rw [hs]; exact HPo.out⟩
                  rcases r3 : d j with _ | _
                  · rw [r3] at c7 hrs
                    have HRd2 : Hd (rdJ R d k (j + 1) = false) := ⟨hrs⟩
                    clear r1 r2 r3 hs hrs hsw HRd HPo
                    go_wp2
                    exact ⟨⟨j + 1, false, hlj, by go_num, rfl, HRd2, HPo2, HJ⟩, hmj⟩
                  · rw [r3] at c7 hrs
                    have HRd2 : Hd (rdJ R d k (j + 1) = true) := ⟨hrs⟩
                    clear r1 r2 r3 hs hrs hsw HRd HPo
                    go_wp2
                    exact ⟨⟨j + 1, true, hlj, by go_num, rfl, HRd2, HPo2, HJ⟩, hmj⟩
                · rw [r2] at c6 hrs hsw
                  rw [hsw, if_pos (by rfl)] at hs
                  have HRd2 : Hd (rdJ R d k (j + 1) = true) := ⟨hrs⟩
                  have HSu := Hd.mk hs
                  have HLn := Hd.mk (fltN_len (sameW R k) j)
                  obtain ⟨i0, hi0, hz0, hz1, hz2⟩ := info_parts infoInt
                  have HI0 := Hd.mk (And.intro hi0 (And.intro hz0 (And.intro hz1 hz2)))
                  rw [r1] at HC5
                  clear hi0 hz0 hz1 hz2 r1 r2 hs hrs hsw HRd c7
                  go_wp2_with (at_builtin; refine wp_app1 rfl _ _ 23 rfl 3 Try.underlying23 HI0.out.1 HI0.out.2.1 HI0.out.2.2.1 HI0.out.2.2.2 rfl u12 (intC (fltN (sameW R k) j)) _ wr rfl HPo.out rfl rfl (by have := HLn.out; simp only [intC, List.length_map]; unfold maxLen; omega) (by have := HLn.out; simp only [intC, List.length_map]; omega) HJ.out.size ?_)
                  intro pv7 w7 h1 h2 h3
                  have HP7 : Hd (Own w7 wk.heap.size 3 pv7 (intC (fltN (sameW R k) (j + 1)))) := ⟨by
                    rw [HSu.out, show intC (fltN (sameW R k) j ++ [j]) = intC (fltN (sameW R k) j) ++ [.int .i64 (j : Int)] by simp [intC]]
                    exact h1⟩
                  have HJ7 : Hd (Below wk.heap.size wk w7) := ⟨HJ.out.trans (h2.below HJ.out.size (fun g hg hr => by have := (HPo.out.lt hr).1; omega))⟩
                  obtain ⟨d1, d2⟩ := HC5.out w7 HJ7.out
                  clear h1 h2 h3 HPo HJ c1 c3 c5 c6
                  go_wp2_with fail
                  exact ⟨⟨j + 1, true, hlj, by go_num, rfl, HRd2, HP7, HJ7⟩, hmj⟩
            · have HO2 := Hd.mk (HO.out.below HJ.out)
              have HK2 := Hd.mk (HK.out.below HJ.out HK.out.lt)
              have HB2 := Hd.mk (HB.out.trans (HJ.out.mono HB.out.size))
              have HZ2 : Hd (w6.heap.size ≤ wr.heap.size) := ⟨Nat.le_trans HZ.out HJ.out.size⟩
              rcases b with _ | _
              · have HMin2 : Hd (∀ u, u < k + 1 → Tj.readyB m R d u = false) := ⟨fun u hu => by
                  rcases Nat.lt_or_ge u k with h | h
                  · exact HMin.out u h
                  · have : u = k := by omega
                    subst this
                    exact rdJ_false hj HRd.out⟩
                clear HMin HRd HPo HO HK HB HJ hin
                by_cases hlj : j < m
                · have hd2 : decide ((j : Int) < (m : Int)) = true := decide_eq_true (by omega)
                  go_wp2
                  exact ⟨⟨k + 1, hlt, by go_num, rfl, HMin2, HO2, HK2, HB2, HZ2⟩, hmk⟩
                · have hd2 : decide ((j : Int) < (m : Int)) = false := decide_eq_false (by omega)
                  go_wp2
                  exact ⟨⟨k + 1, hlt, by go_num, rfl, HMin2, HO2, HK2, HB2, HZ2⟩, hmk⟩
              · have hjm : j = m := by
                  rcases Nat.lt_or_ge j m with h | h
                  · exact absurd ⟨h, rfl⟩ hin
                  · omega
                subst hjm
                have hd2 : decide ((j : Int) < (j : Int)) = false := decide_eq_false (by omega)
                have hready : Tj.readyB j R d k = true := HRd.out
                obtain ⟨P, hP⟩ : ∃ P, fltN (sameW R k) j = P := ⟨_, rfl⟩
                have hmem : ∀ u, u ∈ P ↔ u < j ∧ sameW R k u = true := fun u => by rw [← hP]; unfold fltN; rw [List.mem_filter, List.mem_range]
                have hst := HG.out.step HRf.out.1 HRf.out.2 hlt hready HMin.out (d' := fun u => d u || P.contains u) (fun u hu => by
                  congr 1
                  rw [Bool.eq_iff_iff, List.contains_iff_mem, hmem]
                  exact ⟨fun h => h.2, fun h => ⟨hu, h⟩⟩)
                rw [hP] at hst HPo
                obtain ⟨PL, hPL⟩ : ∃ PL, P.length = PL := ⟨_, rfl⟩
                have hP1 : 1 ≤ PL := by
                  have : k ∈ P := (hmem k).2 ⟨hlt, by unfold sameW; rw [HRf.out.1 k hlt]; rfl⟩
                  rw [← hPL]
                  exact List.length_pos_of_mem this
                have hPm : PL ≤ j := by rw [← hPL, ← hP]; exact fltN_len _ _
                obtain ⟨pp, cp, hpv⟩ := HPo.out.slice'
                rw [show (intC P).length = PL by simp [intC, hPL]] at hpv
                subst hpv
                obtain ⟨hG2, hlen⟩ := hst
                rw [hPL, HL.out] at hlen
                obtain ⟨L', hL'⟩ : ∃ L', Tj.left j (fun u => d u || P.contains u) = L' := ⟨_, rfl⟩
                rw [hL'] at hlen
                have HG2 := Hd.mk hG2
                have HL2 := Hd.mk hL'
                have HPl := Hd.mk hPL
                have HPm : Hd (∀ u, u ∈ P → u < j) := ⟨fun u h => ((hmem u).1 h).1⟩
                have hwl : IntKind.i64.wrap ((L : Int) - (PL : Int)) = (L' : Int) := by rw [IntWalk.i64_in _ (by omega)]; omega
                have HK3 : Hd (Blk wr gd 4 (bitC j fun u => d u || (P.take 0).contains u)) := ⟨HK2.out.cast (bitC_congr (fun u _ => by simp))⟩
                clear HRd HMin HG HO HK HK2 HB hmem hready hP hG2 hL' hPL hin
                go_wp2
                clear hd2
                go_loopw [15] (fun iv wq => ∃ i : Nat, i ≤ PL ∧ iv = .int .i64 (i : Int) ∧ Hd (Blk wq gd 4 (bitC j fun u => d u || (P.take i).contains u)) ∧ Hd (Own wq wk.heap.size 3 (.slice pp PL cp) (intC P)) ∧ Hd (RowsO wq w6.heap.size u8 vs (ps.map intL)) ∧ Hd (Below w5.heap.size w5 wq) ∧ Hd (w6.heap.size ≤ wq.heap.size) ∧ Hd (wk.heap.size ≤ wq.heap.size)) (fun iv _ => PL - (intOf iv).toNat)
                case atStart => exact ⟨0, Nat.zero_le _, rfl, HK3, HPo, HO2, HB2, HZ2, ⟨HJ.out.size⟩⟩
                case round =>
                  clear HK3 HPo HO2 HB2 HZ2 HJ
                  obtain ⟨i, hi, rfl, HK, HPo, HO, HB, HZ3, HZk⟩ := hrel
                  by_cases hlti : i < PL
                  · have hd3 : decide ((i : Int) < (PL : Int)) = true := decide_eq_true (by omega)
                    have hmi : PL - (intOf (.int .i64 ((i : Int) + 1))).toNat < PL - (intOf (.int .i64 (i : Int))).toNat := by simp [intOf]; omega
                    have hiP : i < P.length := by rw [HPl.out]; exact hlti
                    obtain ⟨gp, hgp⟩ : ∃ gp, pp = some ⟨gp, 0, none⟩ := by
                      obtain ⟨g, c, e⟩ := HPo.out.slice (by simp [intC]; omega)
                      injection e with e _ _
                      exact ⟨g, e⟩
                    subst hgp
                    have cx := (HPo.out.at (intC_at hiP)).1
                    have hxj := HPm.out _ (List.getElem_mem hiP)
                    have htk : P.take (i + 1) = P.take i ++ [P[i]] := by rw [List.take_add_one, List.getElem?_eq_getElem hiP]; rfl
                    obtain ⟨x, hx⟩ : ∃ x, P[i] = x := ⟨_, rfl⟩
                    rw [hx] at cx hxj htk
                    have cd := HK.out.at (bitC_at (S := fun u => d u || (P.take i).contains u) hxj)
                    have zd := HK.out.free x
                    have hkp : Keeps (fun q => q = gd) wr (wr.setCell ⟨gd, x, none⟩ (.bool true)) := (Keeps.refl (fun q => q = gd) wr).setCell (p := ⟨gd, x, none⟩) (.inr rfl) _
                    have HK4 : Hd (Blk (wr.setCell ⟨gd, x, none⟩ (.bool true)) gd 4 (bitC j fun u => d u || (P.take (i + 1)).contains u)) := ⟨by
                      refine (HK.out.set x (.bool true)).cast ?_
                      rw [bitC_set]
                      refine bitC_congr (fun u _ => ?_)
                      rw [htk]
                      by_cases e : u = x
                      · subst e; simp
                      · simp [e]⟩
                    have HP4 : Hd (Own (wr.setCell ⟨gd, x, none⟩ (.bool true)) wk.heap.size 3 (.slice (some ⟨gp, 0, none⟩) PL cp) (intC P)) := ⟨HPo.out.keeps hkp (fun g hg hS => by have h1 := (HPo.out.lt hg).1; have h2 := HgdB.out; have h3 := HZ.out; omega)⟩
                    have HO4 : Hd (RowsO (wr.setCell ⟨gd, x, none⟩ (.bool true)) w6.heap.size u8 vs (ps.map intL)) := ⟨HO.out.keeps hkp (fun g hS hr => by have h1 := (rowsK_lt HO.out hr).1; have h2 := HgdB.out; omega)⟩
                    have HB4 : Hd (Below w5.heap.size w5 (wr.setCell ⟨gd, x, none⟩ (.bool true))) := ⟨set_below (by rw [HGd.out]; exact Nat.le_refl _) HB.out⟩
                    have HZ4 : Hd (w6.heap.size ≤ (wr.setCell ⟨gd, x, none⟩ (.bool true)).heap.size) := ⟨by simpa using HZ3.out⟩
                    have HZ5 : Hd (wk.heap.size ≤ (wr.setCell ⟨gd, x, none⟩ (.bool true)).heap.size) := ⟨by simpa using HZk.out⟩
                    clear hx hiP htk HK HPo HO HB HZ3 HZk hkp
                    go_wp2
                    exact ⟨⟨i + 1, hlti, by go_num, HK4, HP4, HO4, HB4, HZ4, HZ5⟩, hmi⟩
                  · have hd3 : decide ((i : Int) < (PL : Int)) = false := decide_eq_false (by omega)
                    have HK5 : Hd (Blk wr gd 4 (bitC j fun u => d u || P.contains u)) := ⟨HK.out.cast (bitC_congr (fun u _ => by rw [List.take_of_length_le (by rw [HPl.out]; omega)]))⟩
                    have HOw := Hd.mk HO.out.own
                    have HVl : Hd (vs.length ≤ 1000) := ⟨by
                      have h1 := HO.out.len
                      rw [List.length_map] at h1
                      obtain ⟨q, _, h2⟩ := HG2.out.k
                      have h3 := congrArg List.length h2
                      rw [List.length_append, List.length_append] at h3
                      have h4 := HAl.out
                      simp at h3
                      omega⟩
                    obtain ⟨i0, hi0, hz0, hz1, hz2⟩ := info_parts infoInts
                    have HI0 := Hd.mk (And.intro hi0 (And.intro hz0 (And.intro hz1 hz2)))
                    clear hi0 hz0 hz1 hz2 HK
                    go_wp2_with (at_builtin; refine wp_app1 rfl _ _ 28 rfl 23 Try.underlying28 HI0.out.1 HI0.out.2.1 HI0.out.2.2.1 HI0.out.2.2.2 rfl u8 vs _ wr rfl HOw.out rfl rfl (by have := HVl.out; unfold maxLen; omega) (by have := HVl.out; omega) HZ3.out ?_)
                    intro ov7 w7 h1 h2 h3
                    have hpu := HO.out.push (u := .slice pp PL cp) (l := intL P) ((HPo.out.down HZ.out).cast (ints_intL P).symm) (fun g hr hg => by have h4 := HRk.out g hr; have h5 := (HPo.out.lt hg).1; omega) h1 h2 h3
                    have HO7 : Hd (RowsO w7 w6.heap.size ov7 (vs ++ [.slice pp PL cp]) ((ps ++ [P]).map intL)) := ⟨by rw [List.map_append]; exact hpu.1⟩
                    have HK7 : Hd (Blk w7 gd 4 (bitC j fun u => d u || P.contains u)) := ⟨h2.blk HK5.out (fun e => by have h4 := (HOw.out.lt e).1; have h5 := HgdB.out; omega)⟩
                    have HB7 : Hd (Below w5.heap.size w5 w7) := ⟨HB.out.trans (h2.below HB.out.size (fun g hg hr => by have h4 := (HOw.out.lt hr).1; have h5 := HgdB.out; have h6 := HGd.out; omega))⟩
                    have HZ7 : Hd (w6.heap.size ≤ w7.heap.size) := ⟨Nat.le_trans HZ3.out h2.size⟩
                    clear h1 h2 h3 hpu HK5 HO HPo HB HOw
                    go_wp2_with fail
                    go_roundg L'
                    case measure => omega
                    case rel => exact ⟨_, _, _, rfl, HL2, HG2, HO7, HK7, HB7, HZ7⟩
        · have hall : ∀ u, u < m → Tj.readyB m R d u = false := fun u hu => HMin.out u (by omega)
          have := Grd.some HRf.out.1 HRf.out.2 hall
          rw [HL.out] at this
          omega

end Go.Proofs.Ytlncfhkmjbempaa.W
