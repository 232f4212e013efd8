import Derived.Test.YtlncfhkmjbempaaSr
/-
  graph.track, Reach, Way.
-/
namespace Go.Proofs.Ytlncfhkmjbempaa.W
open Go.RowKit
set_option linter.unusedVariables false

/-- what the ways' list is like: each way's rest is a way too, the last nodes are different -/
structure WsOK (n : Nat) (ws : List (List Nat)) : Prop where
  nod : (Tj.heads ws).Nodup
  ne : ∀ l, l ∈ ws → l ≠ []
  suf : ∀ x y r, (x :: y :: r) ∈ ws → (y :: r) ∈ ws
  lt : ∀ l, l ∈ ws → Tj.headN l < n
  len : ∀ l, l ∈ ws → l.length ≤ n

theorem ws_len {n : Nat} {ws : List (List Nat)} (hs : ∀ x y r, (x :: y :: r) ∈ ws → (y :: r) ∈ ws) (hnod : (Tj.heads ws).Nodup) (hlt : ∀ l, l ∈ ws → Tj.headN l < n) : ∀ l, l ∈ ws → l.Nodup ∧ ∀ x, x ∈ l → x < n
  | [], _ => ⟨List.nodup_nil, fun x h => by cases h⟩
  | [x], h => ⟨by simp, fun y hy => by simp at hy; subst hy; exact hlt _ h⟩
  | x :: y :: r, h => by
    obtain ⟨h1, h2⟩ := ws_len hs hnod hlt (y :: r) (hs x y r h)
    refine ⟨List.nodup_cons.2 ⟨fun hm => ?_, h1⟩, fun z hz => ?_⟩
    · -- some rest of the way begins with x: the way itself
      have key : ∀ q : List Nat, q ∈ ws → x ∈ q → ∃ t, (x :: t) ∈ ws ∧ (x :: t).length ≤ q.length := by
        intro q
        induction q with
        | nil => intro _ hx; cases hx
        | cons a q ih =>
          intro hq hx
          rcases List.mem_cons.1 hx with e | hx
          · subst e; exact ⟨q, hq, Nat.le_refl _⟩
          · cases q with
            | nil => cases hx
            | cons b q =>
              obtain ⟨t, h1, h2⟩ := ih (hs a b q hq) hx
              exact ⟨t, h1, by simp at h2 ⊢; omega⟩
      obtain ⟨t, ht, hl⟩ := key _ (hs x y r h) hm
      have := Tj.head_inj hnod h ht rfl
      rw [← this] at hl
      simp only [List.length_cons] at hl
      omega
    · rcases List.mem_cons.1 hz with rfl | hz
      · exact hlt _ h
      · exact h2 z hz

theorem WsOK.of {n : Nat} {nx : Nat → List Nat} {rts : List Nat} {ws : List (List Nat)} (h : Tj.Ways n nx rts ws) : WsOK n ws := by
  obtain ⟨i, _, h⟩ := h.all
  have hs : ∀ x y r, (x :: y :: r) ∈ ws → (y :: r) ∈ ws := fun x y r hm => by
    rcases h.par x (y :: r) hm with e | ⟨k, _, h2, _⟩
    · cases e
    · exact List.mem_of_getElem? h2
  refine ⟨h.nod, fun l hl e => ?_, hs, h.lt, fun l hl => ?_⟩
  · obtain ⟨r, hr⟩ := (h.way l hl).ne
    rw [e] at hr; cases hr
  · obtain ⟨h1, h2⟩ := ws_len hs h.nod h.lt l hl
    exact Tj.nodup_le h1 h2

theorem waves_ok (n : Nat) (arcs : List Arc) (roots : List Int) : Tj.Ways n (nx n arcs) (rtsOf n (norm roots)) (wavesOf n arcs roots) :=
  Tj.ways_of (fun u _ => ⟨nx_asc _ _ _, fun x h => nx_lt h⟩) (fun x h => (mem_rtsOf.1 h).1) (rtsOf_asc (norm_sorted roots).1)

theorem befI_way {n : Nat} {ws : List (List Nat)} (h : WsOK n ws) {l : List Nat} (hl : l ∈ ws) : befI ws (Tj.headN l) = ((l.getD 1 (Tj.headN l) : Nat) : Int) := by
  unfold befI
  obtain ⟨m, e1, e2, e3⟩ := find_some (ws := ws) (u := Tj.headN l) (Tj.mem_heads.2 ⟨l, hl, rfl⟩)
  have := Tj.head_inj h.nod e2 hl e3
  subst this
  rw [e1]

theorem wayL_is {n : Nat} {ws : List (List Nat)} (h : WsOK n ws) {l : List Nat} (hl : l ∈ ws) : Tj.wayL ws (Tj.headN l) = l.reverse := by
  unfold Tj.wayL
  obtain ⟨m, e1, e2, e3⟩ := find_some (ws := ws) (u := Tj.headN l) (Tj.mem_heads.2 ⟨l, hl, rfl⟩)
  have := Tj.head_inj h.nod e2 hl e3
  subst this
  rw [e1]; rfl

/-- a row turned in place -/
theorem reverse_own (w : World) (B : Nat) (v : Value) (zs : List Int) (hz : zs.length ≤ 1000000) (h : Own w B 3 v (ints zs)) :
    Calls Try.prog 50 #[v] w fun e w' => e = .returned (.tuple #[]) ∧ Own w' B 3 v (ints zs.reverse) ∧ Keeps (fun g => v.ownBlock = some g) w w' := by
  have h0 : Own w B 3 v (zs.map (Value.int .i64)) := h
  rcases h.is with ⟨rfl, hx⟩ | ⟨g, cap, rfl, hB, hn, hm, hbk, hcl, hf⟩
  · have hz0 : zs = [] := by simpa [ints] using hx
    subst hz0
    exact (Try.slices_Reverse_int_empty none 0 w).mono fun e w' ⟨he, hw⟩ => ⟨he, by subst hw; exact Own.nil _ _ _, by subst hw; exact Keeps.refl _ _⟩
  · rw [show (ints zs).length = zs.length by simp [ints]] at h0 ⊢
    refine (Try.slices_Reverse_int g 0 cap zs w (own_holds h0) (by omega)).mono ?_
    rintro e w' ⟨rfl, q, rfl⟩
    have hl : zs.reverse.length = zs.length := by simp
    have hown := own_put (n := q) (os := #[]) h0 hl
    have hk := put_keeps (w := w) (g := g) (n := q) (d := zs.reverse.toArray) (os := #[])
    rw [Go.Sort.grow_empty] at hown hk
    rw [hl] at hown
    exact ⟨rfl, hown, hk.mono (fun k _ e => by subst e; rfl)⟩

set_option maxHeartbeats 4000000 in
set_option maxRecDepth 100000 in
theorem track_any (w : World) (B n to : Nat) (v : Value) (ws : List (List Nat)) (hO : Own w B 3 v (befC n ws)) (hW : WsOK n ws) (hto : to < n) (hn : n ≤ 1000) :
    Calls Try.prog 37 #[v, .int .i64 to] w fun e w' => ∃ v', e = .returned v' ∧ Own w' w.heap.size 3 v' (intC (Tj.wayL ws to)) ∧ (Tj.wayL ws to = [] → v' = .slice none 0 0) ∧ Below w.heap.size w w' := by
  obtain ⟨gb, c, hv⟩ := hO.slice (by rw [befC_len]; omega)
  rw [befC_len] at hv
  subst hv
  have HO := Hd.mk hO
  have HW := Hd.mk hW
  have c0 := (hO.at (befC_at (ws := ws) hto)).1
  clear hO hW
  by_cases hm : to ∈ Tj.heads ws
  · obtain ⟨l, hl, hh⟩ := Tj.mem_heads.1 hm
    obtain ⟨r, hr⟩ : ∃ r, l = to :: r := by
      cases l with
      | nil => exact absurd rfl (HW.out.ne _ hl)
      | cons a r => exact ⟨r, by rw [show a = to from hh]⟩
    have hb := befI_way HW.out hl
    rw [hh] at hb
    have HWy : Hd (Tj.wayL ws to = l.reverse ∧ l.length ≤ n) := ⟨by rw [← hh]; exact wayL_is HW.out hl, HW.out.len l hl⟩
    obtain ⟨b, hbb⟩ : ∃ b, l.getD 1 to = b := ⟨_, rfl⟩
    rw [hb, hbb] at c0
    have hneg : ¬ (b : Int) < 0 := by omega
    have hneg2 : decide ((b : Int) < 0) = false := by simp
    have HL : Hd (l ∈ ws ∧ l = [] ++ (to :: r)) := ⟨hl, hr⟩
    have hO1 : Own (w.alloc (.cells #[.int .i64 (to : Int)] 3)) w.heap.size 3 (.slice (some ⟨w.heap.size, 0, none⟩) 1 1) (intC [to]) := Own.made (Nat.le_refl _) [.int .i64 (to : Int)] (by show 1 ≤ maxLen; unfold maxLen; omega)
    have HO1 := Hd.mk hO1
    have HB1 := Hd.mk (below_al w (.cells #[.int .i64 (to : Int)] 3))
    clear hl hh hr hb hbb hO1 hm
    go_enter Try.func37, Try.ntmps37
    go_wp2
    clear c0
    go_loopg [1, 5] r.length (fun g tv ov wr => ∃ (x : Nat) (p q : List Nat), q.length = g ∧ tv = .int .i64 (x : Int) ∧ Hd (l = p ++ (x :: q) ∧ (x :: q) ∈ ws) ∧ Hd (Own wr w.heap.size 3 ov (intC (p ++ [x]))) ∧ Hd (Below w.heap.size w wr))
    case atStart => exact ⟨to, [], r, rfl, rfl, ⟨HL.out.2, by have := HL.out.1; rw [HL.out.2] at this; exact this⟩, HO1, HB1⟩
    case round =>
      clear HO1 HB1
      obtain ⟨x, p, q, hq, rfl, HP, HOv, HK⟩ := hrel
      have HQ := Hd.mk hq
      clear hq
      have hxn : x < n := HW.out.lt _ HP.out.2
      have cx := (HO.out.below HK.out).at (befC_at (ws := ws) hxn) |>.1
      have hb := befI_way HW.out HP.out.2
      rw [show Tj.headN (x :: q) = x from rfl] at hb
      have hpl : (p ++ [x]).length ≤ n := by
        have h1 := HWy.out.2
        rw [HP.out.1] at h1
        simp at h1 ⊢; omega
      cases q with
      | nil =>
        rw [hb, show (([x] : List Nat).getD 1 x) = x from rfl] at cx
        clear hb
        have hlz : l = p ++ [x] := HP.out.1
        have HRv := Hd.mk (reverse_own wr w.heap.size u5 (intL (p ++ [x])) (by simp [intL]; simp at hpl; omega) (HOv.out.cast (ints_intL _).symm))
        have HLz := Hd.mk hlz
        clear hlz
        go_wp2_with fail
        refine HRv.out.mono ?_
        rintro e w2 ⟨rfl, ho2, hk2⟩
        have HO2 : Hd (Own w2 w.heap.size 3 u5 (intC (Tj.wayL ws to))) := ⟨by
          rw [HWy.out.1, HLz.out]
          have := ho2
          rw [show (intL (p ++ [x])).reverse = intL (p ++ [x]).reverse by simp [intL], ints_intL] at this
          exact this⟩
        have HB2 : Hd (Below w.heap.size w w2) := ⟨HK.out.trans (hk2.below HK.out.size (fun g hg hr => by have := (HOv.out.lt hr).1; omega))⟩
        have HNe : Hd (Tj.wayL ws to = [] → u5 = .slice none 0 0) := ⟨fun h => by
          rw [HWy.out.1, HLz.out] at h; simp at h⟩
        clear ho2 hk2 HRv
        go_wp2
        go_ret
        exact ⟨_, rfl, HO2.out, HNe.out, HB2.out⟩
      | cons y q =>
        rw [hb, show ((x :: y :: q).getD 1 x) = y from rfl] at cx
        have hyx : y ≠ x := fun e => by
          obtain ⟨h1, _⟩ := ws_len HW.out.suf HW.out.nod HW.out.lt _ HP.out.2
          subst e; simp at h1
        have hy1 : ¬ (y : Int) = (x : Int) := by omega
        have hy2 : ((y : Int) != (x : Int)) = true := by simp; omega
        have HP2 : Hd (l = (p ++ [x]) ++ (y :: q) ∧ (y :: q) ∈ ws) := ⟨by rw [HP.out.1]; simp, HW.out.suf x y q HP.out.2⟩
        obtain ⟨i0, hi0, hz0, hz1, hz2⟩ := info_parts infoInt
        have HI0 := Hd.mk (And.intro hi0 (And.intro hz0 (And.intro hz1 hz2)))
        have HPl : Hd ((intC (p ++ [x])).length ≤ 1000) := ⟨by simp [intC]; simp at hpl; omega⟩
        clear hb hyx hi0 hz0 hz1 hz2 hpl
        go_wp2_with (at_builtin; refine wp_app1 rfl _ _ 23 rfl 3 Try.underlying23 HI0.out.1 HI0.out.2.1 HI0.out.2.2.1 HI0.out.2.2.2 rfl u5 (intC (p ++ [x])) _ wr rfl HOv.out rfl rfl (by have := HPl.out; unfold maxLen; omega) (by have := HPl.out; omega) HK.out.size ?_)
        intro ov7 w7 h1 h2 h3
        have HO7 : Hd (Own w7 w.heap.size 3 ov7 (intC ((p ++ [x]) ++ [y]))) := ⟨by
          rw [show intC ((p ++ [x]) ++ [y]) = intC (p ++ [x]) ++ [.int .i64 (y : Int)] by simp [intC]]; exact h1⟩
        have HB7 : Hd (Below w.heap.size w w7) := ⟨HK.out.trans (h2.below HK.out.size (fun g hg hr => by have := (HOv.out.lt hr).1; omega))⟩
        clear h1 h2 h3
        go_wp2_with fail
        go_roundg q.length
        case measure => have := HQ.out; simp at this; omega
        case rel => exact ⟨y, p ++ [x], q, rfl, rfl, HP2, HO7, HB7⟩
  · have hb : befI ws to < 0 := befI_neg.2 hm
    obtain ⟨c, hc⟩ : ∃ c, befI ws to = c := ⟨_, rfl⟩
    rw [hc] at hb c0
    have hd : decide (c < 0) = true := by simpa using hb
    have HN := Hd.mk (Tj.wayL_none hm)
    clear hm hc
    go_enter Try.func37, Try.ntmps37
    go_wp2
    go_ret
    exact ⟨_, rfl, by rw [HN.out]; exact Own.nil _ _ _, fun _ => rfl, Below.refl _ _⟩

end Go.Proofs.Ytlncfhkmjbempaa.W

/-
  graph.Reach, Way.
-/
namespace Go.Proofs.Ytlncfhkmjbempaa.W
open Go.RowKit
set_option linter.unusedVariables false

def reachL (n : Nat) (arcs : List Arc) (roots : List Int) : List Nat := (List.range n).filter fun v => (Tj.heads (wavesOf n arcs roots)).contains v
def reachN (n : Nat) (ws : List (List Nat)) (k : Nat) : List Nat := (List.range k).filter fun v => (Tj.heads ws).contains v
theorem reachN_succ (n : Nat) (ws : List (List Nat)) (k : Nat) : reachN n ws (k + 1) = if (Tj.heads ws).contains k = true then reachN n ws k ++ [k] else reachN n ws k := by
  unfold reachN
  rw [List.range_succ, List.filter_append, List.filter_cons]
  split <;> simp
theorem reachN_len (n : Nat) (ws : List (List Nat)) (k : Nat) : (reachN n ws k).length ≤ k := Nat.le_trans (List.length_filter_le _ _) (by simp)
def wayI (n : Nat) (arcs : List Arc) (roots : List Int) (to : Int) : List Nat := if 0 ≤ to ∧ to < (n : Int) then Tj.wayL (wavesOf n arcs roots) to.toNat else []

set_option maxRecDepth 100000 in
theorem reach_no (w : World) (n : Int) (v rv : Value) (arcs : List Arc) (hR : Rw 2 Arc.E w v arcs) (hl : lenR arcs.length) (hr : rightB n arcs = false) :
    Calls Try.prog 18 #[.int .i64 n, v, rv] w fun e w' => e = .returned (.slice none 0 0) ∧ Below w.heap.size w w' := by
  have HC := Hd.mk (gright_any w n v arcs hR hl)
  have HR := Hd.mk hr
  clear hR hl hr
  go_enter Try.func18, Try.ntmps18
  go_wp2_with fail
  refine HC.out.mono ?_
  rintro e w1 ⟨rfl, b1⟩
  have HB := Hd.mk b1
  rw [HR.out]
  clear b1 HC
  go_wp2
  go_ret
  exact ⟨rfl, HB.out⟩

set_option maxHeartbeats 4000000 in
set_option maxRecDepth 100000 in
theorem reach_any (w : World) (n : Nat) (hn : n ≤ 1000) (v rv : Value) (arcs : List Arc) (roots : List Int) (hR : Rw 2 Arc.E w v arcs) (hl : arcs.length ≤ 1000000) (hr : rightB (n : Int) arcs = true) (hRr : Rw 1 intE w rv roots) (hrl : roots.length ≤ 1000000) :
    Calls Try.prog 18 #[.int .i64 n, v, rv] w fun e w' => ∃ v', e = .returned v' ∧ Own w' w.heap.size 3 v' (intC (reachL n arcs roots)) ∧ Below w.heap.size w w' := by
  have HC := Hd.mk (gright_any w n v arcs hR (by unfold lenR; omega))
  have HS := Hd.mk (fun (w' : World) (hb : Below w.heap.size w w') => search_any w' n hn v rv arcs roots (hR.below Arc.stays hb) hl hr (hRr.below intE_stays hb) hrl)
  have HR := Hd.mk hr
  obtain ⟨ws, hws⟩ : ∃ ws, wavesOf n arcs roots = ws := ⟨_, rfl⟩
  have hrs : reachL n arcs roots = reachN n ws n := by unfold reachL reachN; rw [hws]
  rw [hws] at HS
  rw [hrs]
  clear hR hl hr hRr hrl hws hrs
  go_enter Try.func18, Try.ntmps18
  go_wp2_with fail
  refine HC.out.mono ?_
  rintro e w1 ⟨rfl, b1⟩
  have HB := Hd.mk b1
  rw [HR.out]
  clear b1 HC
  go_wp2_with fail
  refine (HS.out w1 HB.out).mono ?_
  rintro e w2 ⟨bv, rfl, hbo, hb2⟩
  obtain ⟨pb, cb, hbv⟩ := hbo.slice'
  rw [befC_len] at hbv
  subst hbv
  have HBo := Hd.mk (hbo.down HB.out.size)
  have HB2 := Hd.mk (HB.out.trans (hb2.mono HB.out.size))
  have HSep : Hd (Sep w2 [oI w.heap.size 3 (.slice pb n cb) (befC n ws), oI w.heap.size 3 (.slice none 0 0) (intC (reachN n ws 0))]) := ⟨⟨fun _ => 0, fun t A ht => by
    rcases t with _ | _ | t
    · cases ht; exact ⟨hbo.down HB.out.size, fun _ _ => rfl⟩
    · cases ht; exact ⟨Own.nil _ _ _, fun g hg => by cases hg⟩
    · simp at ht⟩⟩
  clear hbo hb2 HS HBo
  go_wp2
  go_loopw [19, 7] (fun iv ov wr => ∃ k : Nat, k ≤ n ∧ iv = .int .i64 (k : Int) ∧ Hd (Below w.heap.size w wr) ∧ Hd (Sep wr [oI w.heap.size 3 (.slice pb n cb) (befC n ws), oI w.heap.size 3 ov (intC (reachN n ws k))])) (fun iv _ _ => n - (intOf iv).toNat)
  case atStart => exact ⟨0, Nat.zero_le _, rfl, HB2, HSep⟩
  case round =>
    clear HB2 HSep
    obtain ⟨k, hk, rfl, HK, HM⟩ := hrel
    by_cases hlt : k < n
    · have hd1 : decide ((k : Int) < (n : Int)) = true := by simp; omega
      have hmk : n - (intOf (.int .i64 ((k : Int) + 1))).toNat < n - (intOf (.int .i64 (k : Int))).toNat := by simp [intOf]; omega
      obtain ⟨gb, hgb⟩ : ∃ gb, pb = some ⟨gb, 0, none⟩ := by
        obtain ⟨g, c, e⟩ := (HM.out.own 0 rfl).slice (by rw [befC_len]; omega)
        injection e with e _ _
        exact ⟨g, e⟩
      subst hgb
      have cx := ((HM.out.own 0 rfl).at (befC_at (ws := ws) hlt)).1
      obtain ⟨c, hc⟩ : ∃ c, befI ws k = c := ⟨_, rfl⟩
      rw [hc] at cx
      have hneg := befI_neg (ws := ws) (u := k)
      rw [hc] at hneg
      have hsucc := reachN_succ n ws k
      clear hc
      by_cases h0 : 0 ≤ c
      · have ht : decide ((0 : Int) ≤ c) = true := by simpa using h0
        have hm : (Tj.heads ws).contains k = true := List.contains_iff_mem.2 (Decidable.byContradiction fun h => by have := hneg.2 h; omega)
        rw [if_pos hm] at hsucc
        have HSu := Hd.mk hsucc
        have HLn := Hd.mk (reachN_len n ws k)
        have HWo := Hd.mk (HM.out.own 1 rfl)
        obtain ⟨i0, hi0, hz0, hz1, hz2⟩ := info_parts infoInt
        have HI0 := Hd.mk (And.intro hi0 (And.intro hz0 (And.intro hz1 hz2)))
        clear hi0 hz0 hz1 hz2 hm hsucc hneg
        go_wp2_with (at_builtin; refine wp_app1 rfl _ _ 23 rfl 3 Try.underlying23 HI0.out.1 HI0.out.2.1 HI0.out.2.2.1 HI0.out.2.2.2 rfl u7 (intC (reachN n ws k)) _ wr rfl HWo.out rfl rfl (by have := HLn.out; simp only [intC, List.length_map]; unfold maxLen; omega) (by have := HLn.out; simp only [intC, List.length_map]; omega) HK.out.size ?_)
        intro ov7 w7 h1 h2 h3
        have hS7 := HM.out.put_own 1 rfl h2 h1 (h3.imp_right .inr)
        have HS7 : Hd (Sep w7 [oI w.heap.size 3 (.slice (some ⟨gb, 0, none⟩) n cb) (befC n ws), oI w.heap.size 3 ov7 (intC (reachN n ws (k + 1)))]) := ⟨by
          rw [HSu.out, show intC (reachN n ws k ++ [k]) = intC (reachN n ws k) ++ [.int .i64 (k : Int)] by simp [intC]]
          exact hS7⟩
        have HB7 : Hd (Below w.heap.size w w7) := ⟨HK.out.trans (h2.below HK.out.size (fun g hg hr => by have := (HWo.out.lt hr).1; omega))⟩
        clear h1 h2 h3 hS7
        go_wp2_with fail
        exact ⟨⟨k + 1, hlt, by go_num, HB7, HS7⟩, hmk⟩
      · have ht : decide ((0 : Int) ≤ c) = false := by simpa using h0
        have hm : ¬ (Tj.heads ws).contains k = true := fun h => hneg.1 (by omega) (List.contains_iff_mem.1 h)
        rw [if_neg hm] at hsucc
        rw [← hsucc] at HM
        clear hm hsucc hneg
        go_wp2
        exact ⟨⟨k + 1, hlt, by go_num, HK, HM⟩, hmk⟩
    · have hd1 : decide ((k : Int) < (n : Int)) = false := by simp; omega
      have hkn : k = n := by omega
      have HMo := HM.out.own 1 rfl
      rw [hkn] at HMo
      have HMo2 := Hd.mk HMo
      clear HMo hkn
      go_wp2
      go_ret
      exact ⟨_, rfl, HMo2.out, HK.out⟩

set_option maxRecDepth 100000 in
theorem way_no (w : World) (n : Int) (v rv : Value) (arcs : List Arc) (to : Int) (hR : Rw 2 Arc.E w v arcs) (hl : lenR arcs.length) (hr : (rightB n arcs && decide (0 ≤ to) && decide (to < n)) = false) :
    Calls Try.prog 20 #[.int .i64 n, v, rv, .int .i64 to] w fun e w' => e = .returned (.slice none 0 0) ∧ Below w.heap.size w w' := by
  have HC := Hd.mk (gright_any w n v arcs hR hl)
  clear hR hl
  rcases hb : rightB n arcs with _ | _
  · have HR := Hd.mk hb
    clear hb hr
    go_enter Try.func20, Try.ntmps20
    go_wp2_with fail
    refine HC.out.mono ?_
    rintro e w1 ⟨rfl, b1⟩
    have HB := Hd.mk b1
    rw [HR.out]
    clear b1 HC
    go_wp2
    go_ret
    exact ⟨rfl, HB.out⟩
  · have HR := Hd.mk hb
    rw [hb] at hr
    clear hb
    by_cases h0 : to < 0
    · have h1 : decide (to < 0) = true := by simpa using h0
      clear hr
      go_enter Try.func20, Try.ntmps20
      go_wp2_with fail
      refine HC.out.mono ?_
      rintro e w1 ⟨rfl, b1⟩
      have HB := Hd.mk b1
      rw [HR.out]
      clear b1 HC
      go_wp2
      go_ret
      exact ⟨rfl, HB.out⟩
    · have h1 : decide (to < 0) = false := by simpa using h0
      have h2 : n ≤ to := by
        rcases Int.lt_or_le to n with h | h
        · rw [show decide (0 ≤ to) = true by simp; omega, show decide (to < n) = true by simpa using h] at hr
          cases hr
        · exact h
      have h3 : decide (n ≤ to) = true := by simpa using h2
      clear hr
      go_enter Try.func20, Try.ntmps20
      go_wp2_with fail
      refine HC.out.mono ?_
      rintro e w1 ⟨rfl, b1⟩
      have HB := Hd.mk b1
      rw [HR.out]
      clear b1 HC
      go_wp2
      go_ret
      exact ⟨rfl, HB.out⟩

set_option maxHeartbeats 4000000 in
set_option maxRecDepth 100000 in
theorem way_any (w : World) (n : Nat) (hn : n ≤ 1000) (v rv : Value) (arcs : List Arc) (roots : List Int) (to : Nat) (hto : to < n) (hR : Rw 2 Arc.E w v arcs) (hl : arcs.length ≤ 1000000) (hr : rightB (n : Int) arcs = true) (hRr : Rw 1 intE w rv roots) (hrl : roots.length ≤ 1000000) :
    Calls Try.prog 20 #[.int .i64 n, v, rv, .int .i64 to] w fun e w' => ∃ v', e = .returned v' ∧ Own w' w.heap.size 3 v' (intC (Tj.wayL (wavesOf n arcs roots) to)) ∧ Below w.heap.size w w' := by
  have HC := Hd.mk (gright_any w n v arcs hR (by unfold lenR; omega))
  have HS := Hd.mk (fun (w' : World) (hb : Below w.heap.size w w') => search_any w' n hn v rv arcs roots (hR.below Arc.stays hb) hl hr (hRr.below intE_stays hb) hrl)
  have HT := Hd.mk (fun (w' : World) (B : Nat) (bv : Value) (hO : Own w' B 3 bv (befC n (wavesOf n arcs roots))) => track_any w' B n to bv (wavesOf n arcs roots) hO (WsOK.of (waves_ok n arcs roots)) hto hn)
  have HR := Hd.mk hr
  have h1 : decide ((to : Int) < 0) = false := by simp
  have h2 : decide ((n : Int) ≤ (to : Int)) = false := by simp; omega
  clear hR hl hr hRr hrl
  go_enter Try.func20, Try.ntmps20
  go_wp2_with fail
  refine HC.out.mono ?_
  rintro e w1 ⟨rfl, b1⟩
  have HB := Hd.mk b1
  rw [HR.out]
  clear b1 HC
  go_wp2_with fail
  refine (HS.out w1 HB.out).mono ?_
  rintro e w2 ⟨bv, rfl, hbo, hb2⟩
  have HB2 := Hd.mk (HB.out.trans (hb2.mono HB.out.size))
  have HT2 := Hd.mk (HT.out w2 w1.heap.size bv hbo)
  clear hbo hb2 HS HT
  go_wp2_with fail
  refine HT2.out.mono ?_
  rintro e w3 ⟨tv, rfl, hto3, _, hb3⟩
  have HO3 := Hd.mk (hto3.down HB2.out.size)
  have HB3 := Hd.mk (HB2.out.trans (hb3.mono HB2.out.size))
  clear hto3 hb3 HT2
  go_wp2
  go_ret
  exact ⟨_, rfl, HO3.out, HB3.out⟩

end Go.Proofs.Ytlncfhkmjbempaa.W
