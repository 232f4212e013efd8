import Derived.Test.YtmgkoocpnakanaaSr
/-
  graph.track, Reach, Way.
-/
namespace Go.Proofs.Ytmgkoocpnakanaa.W
open Go.RowKit
set_option linter.unusedVariables false

/-- what the ways' list is like: each way's rest is a way too, the last nodes are different -/
structure WsOK (n : Nat) (ws : List (List Nat)) : Prop where
  nod : (Tj.heads ws).Nodup
  ne : ∀ l, l ∈ ws → l ≠ []
  suf : ∀ x y r, (x :: y :: r) ∈ ws → (y :: r) ∈ ws
  lt : ∀ l, l ∈ ws → Tj.headN l < n
  len : ∀ l, l ∈ ws → l.length ≤ n

theorem ws_len {n : Nat} {ws : List (List Nat)} (hs : ∀ x y r, (x :: y :: r) ∈ ws → (y :: r) ∈ ws) (hnod : (Tj.heads ws).Nodup) (hlt : ∀ l, l ∈ ws → Tj.headN l < n) : ∀ l, l ∈ ws → l.Nodup ∧ ∀ x, x ∈ l → x < n
  | [], _ => ⟨List.nodup_nil, fun x h => by cases h⟩
  | [x], h => ⟨by simp, fun y hy => by simp at hy; subst hy; exact hlt _ h⟩
  | x :: y :: r, h => by
    obtain ⟨h1, h2⟩ := ws_len hs hnod hlt (y :: r) (hs x y r h)
    refine ⟨List.nodup_cons.2 ⟨fun hm => ?_, h1⟩, fun z hz => ?_⟩
    · -- some rest of the way begins with x: the way itself
      have key : ∀ q : List Nat, q ∈ ws → x ∈ q → ∃ t, (x :: t) ∈ ws ∧ (x :: t).length ≤ q.length := by
        intro q
        induction q with
        | nil => intro _ hx; cases hx
        | cons a q ih =>
          intro hq hx
          rcases List.mem_cons.1 hx with e | hx
          · subst e; exact ⟨q, hq, Nat.le_refl _⟩
          · cases q with
            | nil => cases hx
            | cons b q =>
              obtain ⟨t, h1, h2⟩ := ih (hs a b q hq) hx
              exact ⟨t, h1, by simp at h2 ⊢; omega⟩
      obtain ⟨t, ht, hl⟩ := key _ (hs x y r h) hm
      have := Tj.head_inj hnod h ht rfl
      rw [← this] at hl
      simp only [List.length_cons] at hl
      omega
    · rcases List.mem_cons.1 hz with rfl | hz
      · exact hlt _ h
      · exact h2 z hz

theorem WsOK.of {n : Nat} {nx : Nat → List Nat} {rts : List Nat} {ws : List (List Nat)} (h : Tj.Ways n nx rts ws) : WsOK n ws := by
  obtain ⟨i, _, h⟩ := h.all
  have hs : ∀ x y r, (x :: y :: r) ∈ ws → (y :: r) ∈ ws := fun x y r hm => by
    rcases h.par x (y :: r) hm with e | ⟨k, _, h2, _⟩
    · cases e
    · exact List.mem_of_getElem? h2
  refine ⟨h.nod, fun l hl e => ?_, hs, h.lt, fun l hl => ?_⟩
  · obtain ⟨r, hr⟩ := (h.way l hl).ne
    rw [e] at hr; cases hr
  · obtain ⟨h1, h2⟩ := ws_len hs h.nod h.lt l hl
    exact Tj.nodup_le h1 h2

theorem waves_ok (n : Nat) (arcs : List Arc) (roots : List Int) : Tj.Ways n (nx n arcs) (rtsOf n (norm roots)) (wavesOf n arcs roots) :=
  Tj.ways_of (fun u _ => ⟨nx_asc _ _ _, fun x h => nx_lt h⟩) (fun x h => (mem_rtsOf.1 h).1) (rtsOf_asc (norm_sorted roots).1)

theorem befI_way {n : Nat} {ws : List (List Nat)} (h : WsOK n ws) {l : List Nat} (hl : l ∈ ws) : befI ws (Tj.headN l) = ((l.getD 1 (Tj.headN l) : Nat) : Int) := by
  unfold befI
  obtain ⟨m, e1, e2, e3⟩ := find_some (ws := ws) (u := Tj.headN l) (Tj.mem_heads.2 ⟨l, hl, rfl⟩)
  have := Tj.head_inj h.nod e2 hl e3
  subst this
  rw [e1]

theorem wayL_is {n : Nat} {ws : List (List Nat)} (h : WsOK n ws) {l : List Nat} (hl : l ∈ ws) : Tj.wayL ws (Tj.headN l) = l.reverse := by
  unfold Tj.wayL
  obtain ⟨m, e1, e2, e3⟩ := find_some (ws := ws) (u := Tj.headN l) (Tj.mem_heads.2 ⟨l, hl, rfl⟩)
  have := Tj.head_inj h.nod e2 hl e3
  subst this
  rw [e1]; rfl

/-- a row turned in place -/
theorem reverse_own (w : World) (B : Nat) (v : Value) (zs : List Int) (hz : zs.length ≤ 1000000) (h : Own w B 3 v (ints zs)) :
    Calls Try.prog 52 #[v] w fun e w' => e = .returned (.tuple #[]) ∧ Own w' B 3 v (ints zs.reverse) ∧ Keeps (fun g => v.ownBlock = some g) w w' := by
  have h0 : Own w B 3 v (zs.map (Value.int .i64)) := h
  rcases h.is with ⟨rfl, hx⟩ | ⟨g, cap, rfl, hB, hn, hm, hbk, hcl, hf⟩
  · have hz0 : zs = [] := by simpa [ints] using hx
    subst hz0
    exact (Try.slices_Reverse_int_empty none 0 w).mono fun e w' ⟨he, hw⟩ => ⟨he, by subst hw; exact Own.nil _ _ _, by subst hw; exact Keeps.refl _ _⟩
  · rw [show (ints zs).length = zs.length by simp [ints]] at h0 ⊢
    refine (Try.slices_Reverse_int g 0 cap zs w (own_holds h0) (by omega)).mono ?_
    rintro e w' ⟨rfl, q, rfl⟩
    have hl : zs.reverse.length = zs.length := by simp
    have hown := own_put (n := q) (os := #[]) h0 hl
    have hk := put_keeps (w := w) (g := g) (n := q) (d := zs.reverse.toArray) (os := #[])
    rw [Go.Sort.grow_empty] at hown hk
    rw [hl] at hown
    exact ⟨rfl, hown, hk.mono (fun k _ e => by subst e; rfl)⟩

set_option maxHeartbeats 4000000 in
set_option maxRecDepth 100000 in
theorem track_any (w : World) (B n to : Nat) (v : Value) (ws : List (List Nat)) (hO : Own w B 3 v (befC n ws)) (hW : WsOK n ws) (hto : to < n) (hn : n ≤ 1000) :
    Calls Try.prog 34 #[v, .int .i64 to] w fun e w' => ∃ v', e = .returned v' ∧ Own w' w.heap.size 3 v' (intC (Tj.wayL ws to)) ∧ (Tj.wayL ws to = [] → v' = .slice none 0 0) ∧ Below w.heap.size w w' := by
  obtain ⟨gb, c, hv⟩ := hO.slice (by rw [befC_len]; omega)
  rw [befC_len] at hv
  subst hv
  have HO := Hd.mk hO
  have HW := Hd.mk hW
  have c0 := (hO.at (befC_at (ws := ws) hto)).1
  clear hO hW
  by_cases hm : to ∈ Tj.heads ws
  · obtain ⟨l, hl, hh⟩ := Tj.mem_heads.1 hm
    obtain ⟨r, hr⟩ : ∃ r, l = to :: r := by
      cases l with
      | nil => exact absurd rfl (HW.out.ne _ hl)
      | cons a r => exact ⟨r, by rw [show a = to from hh]⟩
    have hb := befI_way HW.out hl
    rw [hh] at hb
    have HWy : Hd (Tj.wayL ws to = l.reverse ∧ l.length ≤ n) := ⟨by rw [← hh]; exact wayL_is HW.out hl, HW.out.len l hl⟩
    obtain ⟨b, hbb⟩ : ∃ b, l.getD 1 to = b := ⟨_, rfl⟩
    rw [hb, hbb] at c0
    have hneg : ¬ (b : Int) < 0 := by omega
    have hneg2 : decide ((b : Int) < 0) = false := by simp
    have HL : Hd (l ∈ ws ∧ l = [] ++ (to :: r)) := ⟨hl, hr⟩
    have hO1 : Own (w.alloc (.cells #[.int .i64 (to : Int)] 3)) w.heap.size 3 (.slice (some ⟨w.heap.size, 0, none⟩) 1 1) (intC [to]) := Own.made (Nat.le_refl _) [.int .i64 (to : Int)] (by show 1 ≤ maxLen; unfold maxLen; omega)
    have HO1 := Hd.mk hO1
    have HB1 := Hd.mk (below_al w (.cells #[.int .i64 (to : Int)] 3))
    clear hl hh hr hb hbb hO1 hm
    go_enter Try.func34, Try.ntmps34
    go_wp2
    clear c0
    go_loopg [1, 5] r.length (fun g tv ov wr => ∃ (x : Nat) (p q : List Nat), q.length = g ∧ tv = .int .i64 (x : Int) ∧ Hd (l = p ++ (x :: q) ∧ (x :: q) ∈ ws) ∧ Hd (Own wr w.heap.size 3 ov (intC (p ++ [x]))) ∧ Hd (Below w.heap.size w wr))
    case atStart => exact ⟨to, [], r, rfl, rfl, ⟨HL.out.2, by have := HL.out.1; rw [HL.out.2] at this; exact this⟩, HO1, HB1⟩
    case round =>
      clear HO1 HB1
      obtain ⟨x, p, q, hq, rfl, HP, HOv, HK⟩ := hrel
      have HQ := Hd.mk hq
      clear hq
      have hxn : x < n := HW.out.lt _ HP.out.2
      have cx := (HO.out.below HK.out).at (befC_at (ws := ws) hxn) |>.1
      have hb := befI_way HW.out HP.out.2
      rw [show Tj.headN (x :: q) = x from rfl] at hb
      have hpl : (p ++ [x]).length ≤ n := by
        have h1 := HWy.out.2
        rw [HP.out.1] at h1
        simp at h1 ⊢; omega
      cases q with
      | nil =>
        rw [hb, show (([x] : List Nat).getD 1 x) = x from rfl] at cx
        clear hb
        have hlz : l = p ++ [x] := HP.out.1
        have HRv := Hd.mk (reverse_own wr w.heap.size u5 (intL (p ++ [x])) (by simp [intL]; simp at hpl; omega) (HOv.out.cast (ints_intL _).symm))
        have HLz := Hd.mk hlz
        clear hlz
        go_wp2_with fail
        refine HRv.out.mono ?_
        rintro e w2 ⟨rfl, ho2, hk2⟩
        have HO2 : Hd (Own w2 w.heap.size 3 u5 (intC (Tj.wayL ws to))) := ⟨by
          rw [HWy.out.1, HLz.out]
          have := ho2
          rw [show (intL (p ++ [x])).reverse = intL (p ++ [x]).reverse by simp [intL], ints_intL] at this
          exact this⟩
        have HB2 : Hd (Below w.heap.size w w2) := ⟨HK.out.trans (hk2.below HK.out.size (fun g hg hr => by have := (HOv.out.lt hr).1; omega))⟩
        have HNe : Hd (Tj.wayL ws to = [] → u5 = .slice none 0 0) := ⟨fun h => by
          rw [HWy.out.1, HLz.out] at h; simp at h⟩
        clear ho2 hk2 HRv
        go_wp2
        go_ret
        exact ⟨_, rfl, HO2.out, HNe.out, HB2.out⟩
      | cons y q =>
        rw [hb, show ((x :: y :: q).getD 1 x) = y from rfl] at cx
        have hyx : y ≠ x := fun e => by
          obtain ⟨h1, _⟩ := ws_len HW.out.suf HW.out.nod HW.out.lt _ HP.out.2
          subst e; simp at h1
        have hy1 : ¬ (y : Int) = (x : Int) := by omega
        have hy2 : ((y : Int) != (x : Int)) = true := by simp; omega
        have HP2 : Hd (l = (p ++ [x]) ++ (y :: q) ∧ (y :: q) ∈ ws) := ⟨by rw [HP.out.1]; simp, HW.out.suf x y q HP.out.2⟩
        obtain ⟨i0, hi0, hz0, hz1, hz2⟩ := info_parts infoInt
        have HI0 := Hd.mk (And.intro hi0 (And.intro hz0 (And.intro hz1 hz2)))
        have HPl : Hd ((intC (p ++ [x])).length ≤ 1000) := ⟨by simp [intC]; simp at hpl; omega⟩
        clear hb hyx hi0 hz0 hz1 hz2 hpl
        go_wp2_with (at_builtin; refine wp_app1 rfl _ _ 44 rfl 3 Try.underlying44 HI0.out.1 HI0.out.2.1 HI0.out.2.2.1 HI0.out.2.2.2 rfl u5 (intC (p ++ [x])) _ wr rfl HOv.out rfl rfl (by have := HPl.out; unfold maxLen; omega) (by have := HPl.out; omega) HK.out.size ?_)
        intro ov7 w7 h1 h2 h3
        have HO7 : Hd (Own w7 w.heap.size 3 ov7 (intC ((p ++ [x]) ++ [y]))) := ⟨by
          rw [show intC ((p ++ [x]) ++ [y]) = intC (p ++ [x]) ++ [.int .i64 (y : Int)] by simp [intC]]; exact h1⟩
        have HB7 : Hd (Below w.heap.size w w7) := ⟨HK.out.trans (h2.below HK.out.size (fun g hg hr => by have := (HOv.out.lt hr).1; omega))⟩
        clear h1 h2 h3
        go_wp2_with fail
        go_roundg q.length
        case measure => have := HQ.out; simp at this; omega
        case rel => exact ⟨y, p ++ [x], q, rfl, rfl, HP2, HO7, HB7⟩
  · have hb : befI ws to < 0 := befI_neg.2 hm
    obtain ⟨c, hc⟩ : ∃ c, befI ws to = c := ⟨_, rfl⟩
    rw [hc] at hb c0
    have hd : decide (c < 0) = true := by simpa using hb
    have HN := Hd.mk (Tj.wayL_none hm)
    clear hm hc
    go_enter Try.func34, Try.ntmps34
    go_wp2
    go_ret
    exact ⟨_, rfl, by rw [HN.out]; exact Own.nil _ _ _, fun _ => rfl, Below.refl _ _⟩

end Go.Proofs.Ytmgkoocpnakanaa.W

/-
  graph.Reach, Way.
-/
namespace Go.Proofs.Ytmgkoocpnakanaa.W
open Go.RowKit
set_option linter.unusedVariables false

def reachL (n : Nat) (arcs : List Arc) (roots : List Int) : List Nat := (List.range n).filter fun v => (Tj.heads (wavesOf n arcs roots)).contains v
def reachN (n : Nat) (ws : List (List Nat)) (k : Nat) : List Nat := (List.range k).filter fun v => (Tj.heads ws).contains v
theorem reachN_succ (n : Nat) (ws : List (List Nat)) (k : Nat) : reachN n ws (k + 1) = if (Tj.heads ws).contains k = true then reachN n ws k ++ [k] else reachN n ws k := by
  unfold reachN
  rw [List.range_succ, List.filter_append, List.filter_cons]
  split <;> simp
theorem reachN_len (n : Nat) (ws : List (List Nat)) (k : Nat) : (reachN n ws k).length ≤ k := Nat.le_trans (List.length_filter_le _ _) (by simp)
def wayI (n : Nat) (arcs : List Arc) (roots : List Int) (to : Int) : List Nat := if 0 ≤ to ∧ to < (n : Int) then Tj.wayL (wavesOf n arcs roots) to.toNat else []

end Go.Proofs.Ytmgkoocpnakanaa.W
