/-
  Plain laws of Parse and Text: a line is read by its first word and by its trimmed pieces.
-/
import Derived.Test.YtlohhlbbkliehaaGreatDoorPar9
namespace Go.Proofs.YtlohhlbbkliehaaGreatDoor.W
open Go.RowKit
set_option linter.unusedVariables false

def bk (c : UInt8) : Bool := blanks.contains c
abbrev T (l : List UInt8) : List UInt8 := Lib.trimS l blanks
theorem T_is (l : List UInt8) : T l = (l.reverse.dropWhile bk).reverse.dropWhile bk := rfl
theorem dropW_app {p : UInt8 → Bool} {a : List UInt8} (h : ∀ x ∈ a, p x = true) (b : List UInt8) : (a ++ b).dropWhile p = b.dropWhile p := by
  induction a with
  | nil => rfl
  | cons x a ih =>
    rw [List.cons_append, List.dropWhile_cons, if_pos (h x (by simp)), ih (fun y hy => h y (by simp [hy]))]
theorem dropW_id {p : UInt8 → Bool} {a : List UInt8} (h : ∀ x, a.head? = some x → p x = false) : a.dropWhile p = a := by
  cases a with
  | nil => rfl
  | cons x a => rw [List.dropWhile_cons, if_neg (by rw [h x rfl]; decide)]
theorem dropW_two {p : UInt8 → Bool} (a b : List UInt8) : (a ++ b).dropWhile p = if a.dropWhile p = [] then b.dropWhile p else a.dropWhile p ++ b := by
  induction a with
  | nil => simp
  | cons x a ih =>
    rw [List.cons_append, List.dropWhile_cons, List.dropWhile_cons]
    by_cases h : p x = true
    · rw [if_pos h, if_pos h, ih]
    · rw [if_neg h, if_neg h]
      simp
/-- blanks in front do not matter -/
theorem T_front {pre : List UInt8} (h : ∀ x ∈ pre, bk x = true) (l : List UInt8) : T (pre ++ l) = T l := by
  rw [T_is, T_is, List.reverse_append, dropW_two]
  split
  · rename_i h0
    rw [h0]
    rw [show pre.reverse.dropWhile bk = [] from (dropW_nil bk _).2 (by rw [List.all_eq_true]; intro x hx; exact h x (by simpa using hx))]
  · rw [List.reverse_append, List.reverse_reverse, dropW_app h]
theorem T_cons {b : UInt8} (h : bk b = true) (l : List UInt8) : T (b :: l) = T l := T_front (pre := [b]) (by simpa using h) l
/-- nor do blanks behind -/
theorem T_back {post : List UInt8} (h : ∀ x ∈ post, bk x = true) (l : List UInt8) : T (l ++ post) = T l := by
  rw [T_is, T_is, List.reverse_append, dropW_app (fun x hx => h x (by simpa using hx))]
theorem T_core {l : List UInt8} (h1 : ∀ x, l.head? = some x → bk x = false) (h2 : ∀ x, l.getLast? = some x → bk x = false) : T l = l := by
  rw [T_is, dropW_id (a := l.reverse) (fun x hx => h2 x (by rw [List.head?_reverse] at hx; exact hx)), List.reverse_reverse, dropW_id h1]
theorem T_nil {l : List UInt8} : T l = [] ↔ ∀ x ∈ l, bk x = true := by
  rw [show T l = Lib.trimS l blanks from rfl, trimS_nil, List.all_eq_true]
  exact Iff.rfl
/-- what is trimmed, and the blanks around it -/
theorem T_split (l : List UInt8) : ∃ pre post, (∀ x ∈ pre, bk x = true) ∧ (∀ x ∈ post, bk x = true) ∧ l = pre ++ (T l ++ post) := by
  have tw : ∀ (m : List UInt8), (m.takeWhile bk).all bk = true := fun m => by
    induction m with
    | nil => rfl
    | cons x m ih =>
      rw [List.takeWhile_cons]
      split
      · rename_i h; simp [h, ih]
      · rfl
  refine ⟨((l.reverse.dropWhile bk).reverse).takeWhile bk, (l.reverse.takeWhile bk).reverse, fun x hx => List.all_eq_true.1 (tw _) x hx, fun x hx => List.all_eq_true.1 (tw _) x (by simpa using hx), ?_⟩
  rw [T_is, ← List.append_assoc, List.takeWhile_append_dropWhile, ← List.reverse_append, List.takeWhile_append_dropWhile, List.reverse_reverse]

/-! Pieces between commas. -/

theorem splitC_cons (b : UInt8) (l : List UInt8) : splitC (b :: l) = if b = 44 then [] :: splitC l else consH b (splitC l) := by
  rw [splitC]
theorem consH_cons (b : UInt8) (p : List UInt8) (ps : List (List UInt8)) : consH b (p :: ps) = (b :: p) :: ps := rfl
theorem splitC_front {pre : List UInt8} (h : ∀ x ∈ pre, bk x = true) (l : List UInt8) : (splitC (pre ++ l)).map T = (splitC l).map T := by
  induction pre with
  | nil => rfl
  | cons b pre ih =>
    have ih := ih (fun x hx => h x (by simp [hx]))
    have hb := h b (by simp)
    rw [List.cons_append, splitC_cons, if_neg (by rintro rfl; revert hb; decide), ← ih]
    obtain ⟨p, ps, e⟩ : ∃ p ps, splitC (pre ++ l) = p :: ps := by
      cases e : splitC (pre ++ l) with
      | nil => exact absurd e (splitC_ne _)
      | cons p ps => exact ⟨p, ps, rfl⟩
    rw [e, consH_cons, List.map_cons, List.map_cons, T_cons hb]
theorem splitC_blank {post : List UInt8} (h : ∀ x ∈ post, bk x = true) : splitC post = [post] := by
  induction post with
  | nil => rfl
  | cons b post ih =>
    rw [splitC_cons, if_neg (by rintro rfl; have := h 44 (by simp); revert this; decide), ih (fun x hx => h x (by simp [hx]))]
    rfl
theorem splitC_back {post : List UInt8} (h : ∀ x ∈ post, bk x = true) : ∀ l : List UInt8, ∃ init last, splitC l = init ++ [last] ∧ splitC (l ++ post) = init ++ [last ++ post]
  | [] => ⟨[], [], rfl, by rw [List.nil_append, splitC_blank h]; rfl⟩
  | c :: l => by
    obtain ⟨init, last, h1, h2⟩ := splitC_back h l
    rw [List.cons_append, splitC_cons, splitC_cons, h1, h2]
    by_cases hc : c = 44
    · rw [if_pos hc, if_pos hc]
      exact ⟨[] :: init, last, rfl, rfl⟩
    · rw [if_neg hc, if_neg hc]
      cases init with
      | nil => exact ⟨[], c :: last, rfl, rfl⟩
      | cons p ps => exact ⟨(c :: p) :: ps, last, rfl, rfl⟩
theorem splitC_behind {post : List UInt8} (h : ∀ x ∈ post, bk x = true) (l : List UInt8) : (splitC (l ++ post)).map T = (splitC l).map T := by
  obtain ⟨init, last, h1, h2⟩ := splitC_back h l
  rw [h1, h2, List.map_append, List.map_append]
  simp only [List.map_cons, List.map_nil]
  rw [T_back h]
theorem splitC_T (l : List UInt8) : (splitC (T l)).map T = (splitC l).map T := by
  obtain ⟨pre, post, h1, h2, e⟩ := T_split l
  rw [congrArg splitC e, splitC_front h1, splitC_behind h2]

/-! The line by its first word and what stands behind it. -/

def fstW (s : List UInt8) : List UInt8 := (s.dropWhile bk).takeWhile fun c => !bk c
def rstW (s : List UInt8) : List UInt8 := (s.dropWhile bk).dropWhile fun c => !bk c
def pcsW (r : List UInt8) : List (List UInt8) := if r.all bk then [] else splitC r
def parseP (nm : List UInt8) (ps : List (List UInt8)) : Int × Int × Ops4 :=
  if findL nm < 0 then parseE
  else if ps.length ≠ (opersL (findL nm).toNat).length then parseE
  else match parseO (opersL (findL nm).toNat) ps ⟨0, 0, 0, 0⟩ with
    | none => parseE
    | some v => if rightB (findL nm) v.a v.b v.c v.m then (0, findL nm, v) else (6, 0, ⟨0, 0, 0, 0⟩)
theorem parseL_P (s : List UInt8) : parseL s = parseP (nmL s) (piecesL s) := rfl
theorem parseO_congr : ∀ (cs : List UInt8) (ps qs : List (List UInt8)) (v : Ops4), ps.map T = qs.map T → parseO cs ps v = parseO cs qs v
  | [], _, _, _, _ => by unfold parseO; rfl
  | c :: cs, [], qs, v, h => by
    cases qs with
    | nil => rfl
    | cons q qs => cases h
  | c :: cs, p :: ps, qs, v, h => by
    cases qs with
    | nil => cases h
    | cons q qs =>
      rw [List.map_cons, List.map_cons] at h
      injection h with h1 h2
      have h1' : Lib.trimS p blanks = Lib.trimS q blanks := h1
      unfold parseO
      rw [h1']
      cases opL (Lib.trimS q blanks) c with
      | none => rfl
      | some n => exact parseO_congr cs ps qs _ h2
theorem parseP_congr {nm : List UInt8} {ps qs : List (List UInt8)} (h : ps.map T = qs.map T) : parseP nm ps = parseP nm qs := by
  have hl : ps.length = qs.length := by simpa using congrArg List.length h
  unfold parseP
  rw [hl, parseO_congr _ ps qs _ h]

theorem takeW_all {p : UInt8 → Bool} : ∀ (l : List UInt8), ∀ x ∈ l.takeWhile p, p x = true
  | [], x, h => by cases h
  | y :: l, x, h => by
    rw [List.takeWhile_cons] at h
    split at h
    · rename_i hy
      rcases List.mem_cons.1 h with rfl | h
      · exact hy
      · exact takeW_all l x h
    · cases h
theorem dropW_hd {p : UInt8 → Bool} (l : List UInt8) (x : UInt8) (h : (l.dropWhile p).head? = some x) : p x = false := by
  cases e : l.dropWhile p with
  | nil => rw [e] at h; cases h
  | cons y ys =>
    rw [e] at h
    injection h with h; subst h
    exact dropW_head p l y ys e

theorem noAny_word {nm : List UInt8} (h : ∀ x ∈ nm, bk x = false) (X : List UInt8) : Lib.NoAny (nm ++ X) blanks nm.length := by
  intro j b hj hb
  rw [List.getElem?_append_left hj] at hb
  exact h b (List.mem_of_getElem? hb)
theorem indexAny_word {nm : List UInt8} (h : ∀ x ∈ nm, bk x = false) : Lib.indexAny nm blanks = -1 := by
  have := noAny_word h []
  rw [List.append_nil] at this
  exact Lib.indexAny_none this
theorem indexAny_word2 {nm : List UInt8} (h : ∀ x ∈ nm, bk x = false) {b : UInt8} (hb : bk b = true) (X : List UInt8) : Lib.indexAny (nm ++ b :: X) blanks = nm.length :=
  Lib.indexAny_hit (noAny_word h _) (by simp) hb

/-- a line in three parts -/
theorem parse_parts {pre nm rest : List UInt8} (h1 : ∀ x ∈ pre, bk x = true) (h2 : ∀ x ∈ nm, bk x = false) (h3 : ∀ x, rest.head? = some x → bk x = true) (h4 : nm = [] → rest = []) :
    parseL (pre ++ (nm ++ rest)) = parseP nm (pcsW rest) := by
  have hline : lineL (pre ++ (nm ++ rest)) = nm ++ (rest.reverse.dropWhile bk).reverse := by
    show T _ = _
    rw [T_front h1, T_is, List.reverse_append, dropW_two]
    have hnm : nm.reverse.dropWhile bk = nm.reverse := dropW_id (fun x hx => h2 x (by have := List.mem_of_mem_head? hx; simpa using this))
    split
    · rename_i h0
      rw [hnm, List.reverse_reverse, h0, List.reverse_nil, List.append_nil]
      exact dropW_id (fun x hx => h2 x (List.mem_of_mem_head? hx))
    · rename_i h0
      rw [List.reverse_append, List.reverse_reverse]
      refine dropW_id (fun x hx => ?_)
      cases nm with
      | nil => rw [h4 rfl] at h0; exact absurd rfl h0
      | cons y nm => exact h2 x (by injection hx with hx; subst hx; simp)
  by_cases hr : rest.all bk = true
  · have e0 : rest.reverse.dropWhile bk = [] := (dropW_nil bk _).2 (by rw [List.all_reverse]; exact hr)
    rw [e0, List.reverse_nil, List.append_nil] at hline
    have ha : atL (pre ++ (nm ++ rest)) = -1 := by unfold atL; rw [hline]; exact indexAny_word h2
    have hn : nmL (pre ++ (nm ++ rest)) = nm := by unfold nmL; rw [ha, if_neg (by decide), hline]
    have hs : restL (pre ++ (nm ++ rest)) = [] := by unfold restL; rw [ha, if_neg (by decide)]
    rw [parseL_P, hn]
    unfold piecesL pcsW
    rw [hs, if_pos rfl, if_pos hr]
  · obtain ⟨X, hX⟩ : ∃ X, (rest.reverse.dropWhile bk).reverse = X := ⟨_, rfl⟩
    rw [hX] at hline
    have hXne : X ≠ [] := fun e => hr (by
      rw [e] at hX
      have : rest.reverse.dropWhile bk = [] := by simpa using hX
      have := (dropW_nil bk _).1 this
      rwa [List.all_reverse] at this)
    obtain ⟨post, hpost, hrest⟩ : ∃ post, (∀ x ∈ post, bk x = true) ∧ rest = X ++ post := by
      refine ⟨(rest.reverse.takeWhile bk).reverse, fun x hx => takeW_all _ x (by simpa using hx), ?_⟩
      rw [← hX, ← List.reverse_append, List.takeWhile_append_dropWhile, List.reverse_reverse]
    obtain ⟨b, X', rfl⟩ : ∃ b X', X = b :: X' := by
      cases X with
      | nil => exact absurd rfl hXne
      | cons b X' => exact ⟨b, X', rfl⟩
    have hb : bk b = true := h3 b (by rw [hrest]; rfl)
    have ha : atL (pre ++ (nm ++ rest)) = (nm.length : Int) := by unfold atL; rw [hline]; exact indexAny_word2 h2 hb _
    have hn : nmL (pre ++ (nm ++ rest)) = nm := by
      unfold nmL; rw [ha, if_pos (by omega), hline, Int.toNat_natCast, List.take_left]
    have hs : restL (pre ++ (nm ++ rest)) = T (b :: X') := by
      unfold restL; rw [ha, if_pos (by omega), hline, Int.toNat_natCast, List.drop_left]
    have hTr : T rest = T (b :: X') := by rw [hrest, T_back hpost]
    have hne : T (b :: X') ≠ [] := fun e => hr (by rw [← hTr] at e; rw [List.all_eq_true]; exact T_nil.1 e)
    rw [parseL_P, hn]
    refine parseP_congr ?_
    unfold piecesL pcsW
    rw [hs, if_neg hne, if_neg hr, ← hTr]
    exact splitC_T rest
theorem line_parts (s : List UInt8) : s = s.takeWhile bk ++ (fstW s ++ rstW s) ∧ (∀ x ∈ s.takeWhile bk, bk x = true) ∧ (∀ x ∈ fstW s, bk x = false) ∧ (∀ x, (rstW s).head? = some x → bk x = true) ∧ (fstW s = [] → rstW s = []) := by
  refine ⟨?_, fun x hx => takeW_all _ x hx, fun x hx => ?_, fun x hx => ?_, fun h => ?_⟩
  · unfold fstW rstW
    rw [List.takeWhile_append_dropWhile, List.takeWhile_append_dropWhile]
  · have := takeW_all _ x hx
    simpa using this
  · have := dropW_hd _ x hx
    simpa using this
  · unfold fstW at h
    unfold rstW
    cases e : s.dropWhile bk with
    | nil => rfl
    | cons y ys =>
      have hy := dropW_hd (p := bk) s y (by rw [e]; rfl)
      rw [e, List.takeWhile_cons, hy] at h
      cases h
theorem parse_line (s : List UInt8) : parseL s = parseP (fstW s) (pcsW (rstW s)) := by
  obtain ⟨h0, h1, h2, h3, h4⟩ := line_parts s
  conv => lhs; rw [h0]
  exact parse_parts h1 h2 h3 h4

/-! Blanks around the commas. -/

def spread (b : UInt8) (l : List UInt8) : List UInt8 := l.flatMap fun c => if c = 44 then [b, 44, b] else [c]
theorem spread_cons (b c : UInt8) (l : List UInt8) : spread b (c :: l) = (if c = 44 then [b, 44, b] else [c]) ++ spread b l := rfl
theorem spread_app (b : UInt8) (l m : List UInt8) : spread b (l ++ m) = spread b l ++ spread b m := by unfold spread; rw [List.flatMap_append]
theorem spread_id (b : UInt8) {l : List UInt8} (h : ∀ x ∈ l, x ≠ 44) : spread b l = l := by
  induction l with
  | nil => rfl
  | cons c l ih => rw [spread_cons, if_neg (h c (by simp)), ih (fun x hx => h x (by simp [hx]))]; rfl
theorem spread_split {b : UInt8} (hb : bk b = true) : ∀ r : List UInt8, ∃ p ps post ps', splitC r = p :: ps ∧ splitC (spread b r) = (p ++ post) :: ps' ∧ (∀ x ∈ post, bk x = true) ∧ ps.map T = ps'.map T
  | [] => ⟨[], [], [], [], rfl, rfl, by simp, rfl⟩
  | c :: r => by
    obtain ⟨p, ps, post, ps', h1, h2, h3, h4⟩ := spread_split hb r
    have hb44 : b ≠ 44 := by rintro rfl; revert hb; decide
    by_cases hc : c = 44
    · subst hc
      refine ⟨[], p :: ps, [b], (b :: (p ++ post)) :: ps', ?_, ?_, by simpa using hb, ?_⟩
      · rw [splitC_cons, if_pos rfl, h1]
      · rw [spread_cons, if_pos rfl]
        show splitC (b :: 44 :: b :: spread b r) = _
        rw [splitC_cons, if_neg hb44, splitC_cons, if_pos rfl, splitC_cons, if_neg hb44, h2]
        rfl
      · rw [List.map_cons, List.map_cons, T_cons hb, T_back h3, h4]
    · refine ⟨c :: p, ps, post, ps', ?_, ?_, h3, h4⟩
      · rw [splitC_cons, if_neg hc, h1]; rfl
      · rw [spread_cons, if_neg hc]
        show splitC (c :: spread b r) = _
        rw [splitC_cons, if_neg hc, h2]; rfl
theorem spread_pieces {b : UInt8} (hb : bk b = true) (r : List UInt8) : (splitC (spread b r)).map T = (splitC r).map T := by
  obtain ⟨p, ps, post, ps', h1, h2, h3, h4⟩ := spread_split hb r
  rw [h1, h2, List.map_cons, List.map_cons, T_back h3, h4]
theorem spread_blank {b : UInt8} (hb : bk b = true) (r : List UInt8) : (spread b r).all bk = r.all bk := by
  induction r with
  | nil => rfl
  | cons c r ih =>
    rw [spread_cons, List.all_append, List.all_cons, ih]
    by_cases hc : c = 44
    · subst hc
      rw [if_pos rfl]
      have : bk 44 = false := by decide
      simp [this]
    · rw [if_neg hc]; simp
theorem findL_comma : ∀ {nm : List UInt8}, 44 ∈ nm → findL nm < 0 := by
  intro nm h
  have key : ((List.range 31).all fun n => (nameL n).all fun x => decide (x ≠ 44)) = true := by decide +kernel
  unfold findL
  split
  · rename_i n hn
    have h1 := List.mem_of_find?_eq_some hn
    have h2 := List.find?_some hn
    unfold nameIs at h2
    simp only [Bool.and_eq_true, decide_eq_true_eq] at h2
    have h3 := List.all_eq_true.1 (List.all_eq_true.1 key n h1) 44 (by rw [h2.1]; exact h)
    simp at h3
  · omega
/-- a piece that is empty is no operand -/
theorem parseP_comma (nm : List UInt8) (ps qs : List (List UInt8)) (h : ps.map T = [] :: qs) : parseP nm ps = parseE := by
  have key : ((List.range 31).all fun n => (opersL n).all fun ch => decide (opL [] ch = none)) = true := by decide +kernel
  unfold parseP
  split
  · rfl
  · rename_i hf
    split
    · rfl
    · rename_i hl
      cases ps with
      | nil => cases h
      | cons p ps =>
        rw [List.map_cons] at h
        injection h with h1 h2
        obtain ⟨n, hn⟩ : ∃ n : Nat, (findL nm).toNat = n := ⟨_, rfl⟩
        have hr := findL_range nm
        rw [hn] at hl ⊢
        have hk := List.all_eq_true.1 key n (List.mem_range.2 (by omega))
        cases hc : opersL n with
        | nil => rw [hc] at hl; simp at hl
        | cons ch cs =>
          rw [hc] at hk
          have := List.all_eq_true.1 hk ch (by simp)
          simp only [decide_eq_true_eq] at this
          unfold parseO
          have h1' : Lib.trimS p blanks = [] := h1
          rw [h1', this]
theorem parse_spread {b : UInt8} (hb : bk b = true) (s : List UInt8) : parseL ([b] ++ (spread b s ++ [b, b])) = parseL s := by
  obtain ⟨h0, h1, h2, h3, h4⟩ := line_parts s
  have hpre : spread b (s.takeWhile bk) = s.takeWhile bk := spread_id b (fun x hx => by rintro rfl; have := h1 44 hx; revert this; decide)
  have hbb : ∀ x ∈ [b, b], bk x = true := by intro x hx; simp at hx; subst hx; exact hb
  have hpre2 : ∀ x ∈ b :: s.takeWhile bk, bk x = true := by
    intro x hx
    rcases List.mem_cons.1 hx with rfl | hx
    · exact hb
    · exact h1 x hx
  rw [parse_line s]
  obtain ⟨nm, hnm⟩ : ∃ nm, fstW s = nm := ⟨_, rfl⟩
  obtain ⟨rest, hrest⟩ : ∃ r, rstW s = r := ⟨_, rfl⟩
  have hs : spread b s = s.takeWhile bk ++ (spread b nm ++ spread b rest) := by
    conv => lhs; rw [h0]
    rw [spread_app, spread_app, hpre, hnm, hrest]
  rw [hnm] at h2 h4
  rw [hrest] at h3 h4
  rw [hnm, hrest, hs]
  by_cases hcm : 44 ∈ nm
  · have hE : parseP nm (pcsW rest) = parseE := by unfold parseP; rw [if_pos (findL_comma hcm)]
    rw [hE]
    obtain ⟨a, z, hnz, ha⟩ : ∃ a z, nm = a ++ 44 :: z ∧ ∀ x ∈ a, x ≠ 44 := by
      have hd : nm.takeWhile (fun x => x != 44) ++ nm.dropWhile (fun x => x != 44) = nm := List.takeWhile_append_dropWhile
      cases hz : nm.dropWhile (fun x => x != 44) with
      | nil =>
        exfalso
        rw [hz, List.append_nil] at hd
        have := takeW_all nm 44 (by rw [hd]; exact hcm)
        simp at this
      | cons y ys =>
        have hy := dropW_head _ nm y ys hz
        have : y = 44 := by simpa using hy
        subst this
        refine ⟨nm.takeWhile (fun x => x != 44), ys, by rw [← hz, hd], fun x hx => by have := takeW_all nm x hx; simpa using this⟩
    have e : [b] ++ (s.takeWhile bk ++ (spread b nm ++ spread b rest) ++ [b, b]) = (b :: s.takeWhile bk) ++ (a ++ (b :: 44 :: b :: (spread b z ++ (spread b rest ++ [b, b])))) := by
      rw [hnz, spread_app, spread_cons, if_pos rfl, spread_id b ha]
      simp
    rw [e]
    cases a with
    | nil =>
      have hcons : (b :: s.takeWhile bk) ++ ([] ++ (b :: 44 :: b :: (spread b z ++ (spread b rest ++ [b, b])))) = (b :: s.takeWhile bk ++ [b]) ++ (44 :: b :: (spread b z ++ (spread b rest ++ [b, b]))) := by simp
      rw [hcons]
      have hl := parse_line ((b :: s.takeWhile bk ++ [b]) ++ (44 :: b :: (spread b z ++ (spread b rest ++ [b, b]))))
      rw [hl]
      have hfst : fstW ((b :: s.takeWhile bk ++ [b]) ++ (44 :: b :: (spread b z ++ (spread b rest ++ [b, b])))) = [44] := by
        unfold fstW
        rw [dropW_app (fun x hx => by
          rcases List.mem_append.1 hx with hx | hx
          · exact hpre2 x hx
          · simp at hx; subst hx; exact hb)]
        rw [List.dropWhile_cons, if_neg (by decide), List.takeWhile_cons, if_pos (by decide), List.takeWhile_cons, if_neg (by simp [hb])]
      rw [hfst]
      unfold parseP
      rw [if_pos (findL_comma (by simp))]
    | cons y a =>
      rw [parse_parts hpre2 (nm := y :: a) (fun x hx => h2 x (by rw [hnz]; exact List.mem_append_left _ hx)) (fun x hx => by injection hx with hx; subst hx; exact hb) (fun h => by cases h)]
      have hall : (b :: 44 :: b :: (spread b z ++ (spread b rest ++ [b, b]))).all bk = false := by
        have : bk 44 = false := by decide
        simp [this]
      unfold pcsW
      rw [hall, if_neg (by decide)]
      have hb44 : b ≠ 44 := by rintro rfl; revert hb; decide
      refine parseP_comma _ _ ((splitC (b :: (spread b z ++ (spread b rest ++ [b, b])))).map T) ?_
      rw [splitC_cons, if_neg hb44, splitC_cons, if_pos rfl, consH_cons, List.map_cons, T_cons hb]
      rfl
  · have hid : spread b nm = nm := spread_id b (fun x hx => by rintro rfl; exact hcm hx)
    rw [hid]
    have e : [b] ++ (s.takeWhile bk ++ (nm ++ spread b rest) ++ [b, b]) = (b :: s.takeWhile bk) ++ (nm ++ (spread b rest ++ [b, b])) := by simp
    rw [e]
    have hh : ∀ x, (spread b rest ++ [b, b]).head? = some x → bk x = true := by
      intro x hx
      cases rest with
      | nil => injection hx with hx; subst hx; exact hb
      | cons y ys =>
        have hy := h3 y rfl
        rw [spread_cons, if_neg (by rintro rfl; revert hy; decide)] at hx
        injection hx with hx; subst hx; exact hy
    by_cases hn0 : nm = []
    · have hr0 := h4 hn0
      rw [hn0, hr0]
      have e2 : (b :: s.takeWhile bk) ++ ([] ++ (spread b [] ++ [b, b])) = ((b :: s.takeWhile bk) ++ [b, b]) ++ ([] ++ []) := by
        rw [show spread b [] = [] from rfl]; simp
      rw [e2, parse_parts (pre := (b :: s.takeWhile bk) ++ [b, b]) (nm := []) (rest := []) (fun x hx => by
        rcases List.mem_append.1 hx with hx | hx
        · exact hpre2 x hx
        · exact hbb x hx) (by simp) (by simp) (fun _ => rfl)]
    · rw [parse_parts hpre2 h2 hh (fun h => absurd h hn0)]
      refine parseP_congr ?_
      unfold pcsW
      have hal : (spread b rest ++ [b, b]).all bk = rest.all bk := by
        rw [List.all_append, spread_blank hb]
        simp [hb]
      rw [hal]
      split
      · rfl
      · rw [splitC_behind hbb, spread_pieces hb]

end Go.Proofs.YtlohhlbbkliehaaGreatDoor.W
