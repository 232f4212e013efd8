/-
  Plain laws of ways and of loops; what the order of arcs and roots does. No program.
-/
import Derived.Test.YtmgkoocpnakanaaGl
namespace Go.Proofs.Ytmgkoocpnakanaa.W
open Go.RowKit
set_option linter.unusedVariables false

-- the two orders of lists
theorem less_cmp : ∀ xs ys : List Int, cmpI xs ys < 0 ↔ lessI xs ys = true
  | [], [] => by simp [cmpI, lessI]
  | [], _ :: _ => by simp [cmpI, lessI]
  | _ :: _, [] => by simp [cmpI, lessI]
  | x :: xs, y :: ys => by
    have ih := less_cmp xs ys
    unfold cmpI lessI Lib.compareInt
    rcases Int.lt_trichotomy x y with h | h | h
    · have : ¬ x = y := by omega
      simp [h, this]
    · subst h; simp [ih]
    · have h1 : ¬ x < y := by omega
      have h2 : ¬ x = y := by omega
      simp [h, h1, h2]
theorem less_snoc : ∀ (a b : List Int), a.length = b.length → ∀ x y : Int, lessI (a ++ [x]) (b ++ [y]) = true ↔ lessI a b = true ∨ (a = b ∧ x < y)
  | [], [], _, x, y => by
    simp only [List.nil_append, lessI]
    by_cases h : x = y
    · subst h; simp
    · simp [h]
  | u :: a, v :: b, hl, x, y => by
    have ih := less_snoc a b (by simpa using hl) x y
    simp only [List.cons_append, lessI]
    by_cases h : u = v
    · subst h; simp [ih]
    · simp [h]
theorem intL_app (a b : List Nat) : intL (a ++ b) = intL a ++ intL b := by simp [intL]
theorem intL_inj {a b : List Nat} (h : intL a = intL b) : a = b := (List.map_inj_right (fun _ _ e => Int.ofNat.inj e)).1 h
theorem ltR_less : ∀ (a b : List Nat), a.length = b.length → (Tj.ltR a b ↔ lessI (intL a.reverse) (intL b.reverse) = true)
  | [], [], _ => by simp [Tj.ltR, intL, lessI]
  | x :: p, y :: q, hl => by
    have ih := ltR_less p q (by simpa using hl)
    have hl2 : (intL p.reverse).length = (intL q.reverse).length := by simpa [intL] using hl
    rw [List.reverse_cons, List.reverse_cons, intL_app, intL_app]
    have := less_snoc _ _ hl2 (x : Int) (y : Int)
    rw [show intL [x] = [(x : Int)] from rfl, show intL [y] = [(y : Int)] from rfl, this, ← ih]
    simp only [Tj.ltR]
    constructor
    · rintro (h | ⟨rfl, h⟩)
      · exact .inl h
      · exact .inr ⟨rfl, by omega⟩
    · rintro (h | ⟨h1, h2⟩)
      · exact .inl h
      · exact .inr ⟨by simpa using congrArg List.reverse (intL_inj h1), by omega⟩
theorem better_iff {w b : List Nat} (hb : b ≠ []) : better w b = true ↔ Tj.sl w.reverse b.reverse := by
  have he : b.isEmpty = false := by cases b with
    | nil => exact absurd rfl hb
    | cons x r => rfl
  unfold better Tj.sl
  rw [he]
  simp only [Bool.false_or, Bool.or_eq_true, Bool.and_eq_true, decide_eq_true_eq, List.length_reverse]
  constructor
  · rintro (h | ⟨h1, h2⟩)
    · exact .inl h
    · exact .inr ⟨h1, (ltR_less _ _ (by simpa using h1)).2 (by simpa using (less_cmp _ _).1 h2)⟩
  · rintro (h | ⟨h1, h2⟩)
    · exact .inl h
    · exact .inr ⟨h1, (less_cmp _ _).2 (by simpa using (ltR_less _ _ (by simpa using h1)).1 h2)⟩
theorem sl_asym {a b : List Nat} (h : Tj.sl a b) (k : Tj.sl b a) : False := Tj.sl_irr a (Tj.sl_trans h k)

-- the least way back
/-- a way that Loop weighs -/
def Cnd (least : Nat) (ws : List (List Nat)) (arcs : List Arc) (c : List Nat) : Prop := c ≠ [] ∧ ∃ a, a ∈ arcs ∧ a.t = (least : Int) ∧ c = Tj.wayL ws a.f.toNat
def LpOk (C : List Nat → Prop) (R : List Nat) : Prop := (R = [] ∧ ∀ c, ¬ C c) ∨ (R ≠ [] ∧ C R ∧ ∀ c, C c → ¬ Tj.sl c.reverse R.reverse)
theorem LpOk.uniq {C : List Nat → Prop} {R R' : List Nat} (h : LpOk C R) (k : LpOk C R') : R = R' := by
  rcases h with ⟨h1, h2⟩ | ⟨h1, h2, h3⟩ <;> rcases k with ⟨k1, k2⟩ | ⟨k1, k2, k3⟩
  · rw [h1, k1]
  · exact absurd k2 (h2 _)
  · exact absurd h2 (k2 _)
  · rcases Tj.sl_tri R.reverse R'.reverse with e | e | e
    · exact absurd e (k3 _ h2)
    · simpa using congrArg List.reverse e
    · exact absurd e (h3 _ k2)
theorem LpOk.congr {C C' : List Nat → Prop} {R : List Nat} (h : LpOk C R) (hc : ∀ c, C c ↔ C' c) : LpOk C' R := by
  have : C = C' := funext fun c => propext (hc c)
  exact this ▸ h
theorem lpC_ok (least : Nat) (ws : List (List Nat)) (arcs : List Arc) : ∀ k, k ≤ arcs.length → LpOk (Cnd least ws (arcs.take k)) (lpC least ws (arcs.take k) [])
  | 0, _ => .inl ⟨rfl, fun c h => by obtain ⟨_, a, ha, _⟩ := h; simp at ha⟩
  | k + 1, hk => by
    have ih := lpC_ok least ws arcs k (by omega)
    have htk : arcs.take (k + 1) = arcs.take k ++ [arcs[k]] := by rw [List.take_add_one, List.getElem?_eq_getElem (by omega)]; rfl
    have hC : ∀ c, Cnd least ws (arcs.take (k + 1)) c ↔ Cnd least ws (arcs.take k) c ∨ (c ≠ [] ∧ arcs[k].t = (least : Int) ∧ c = Tj.wayL ws arcs[k].f.toNat) := fun c => by
      unfold Cnd
      rw [htk]
      constructor
      · rintro ⟨h1, a, ha, h2, h3⟩
        rcases List.mem_append.1 ha with ha | ha
        · exact .inl ⟨h1, a, ha, h2, h3⟩
        · rw [List.mem_singleton] at ha; subst ha; exact .inr ⟨h1, h2, h3⟩
      · rintro (⟨h1, a, ha, h2⟩ | ⟨h1, h2, h3⟩)
        · exact ⟨h1, a, List.mem_append_left _ ha, h2⟩
        · exact ⟨h1, _, List.mem_append_right _ (List.mem_singleton.2 rfl), h2, h3⟩
    rw [lpC_step (by omega)]
    generalize lpC least ws (arcs.take k) [] = R at ih
    by_cases ht : arcs[k].t = (least : Int)
    · rw [if_pos ht]
      generalize hW : Tj.wayL ws arcs[k].f.toNat = W at hC
      by_cases hw : W = []
      · rw [if_neg (by rw [hw]; simp)]
        exact ih.congr (fun c => by
          rw [hC c]
          exact ⟨.inl, fun h => h.resolve_right (fun ⟨h1, _, h3⟩ => h1 (h3.trans hw))⟩)
      · have he : W.isEmpty = false := by cases W with
          | nil => exact absurd rfl hw
          | cons x r => rfl
        rw [he]
        simp only [Bool.not_false, Bool.true_and]
        rcases ih with ⟨h1, h2⟩ | ⟨h1, h2, h3⟩
        · rw [if_pos (by rw [h1]; rfl)]
          refine .inr ⟨hw, (hC W).2 (.inr ⟨hw, ht, rfl⟩), fun c hc hs => ?_⟩
          rcases (hC c).1 hc with h | ⟨_, _, h⟩
          · exact h2 c h
          · subst h; exact Tj.sl_irr _ hs
        · by_cases hb : better W R = true
          · rw [if_pos hb]
            have hb' := (better_iff h1).1 hb
            refine .inr ⟨hw, (hC W).2 (.inr ⟨hw, ht, rfl⟩), fun c hc hs => ?_⟩
            rcases (hC c).1 hc with h | ⟨_, _, h⟩
            · exact h3 c h (Tj.sl_trans hs hb')
            · subst h; exact Tj.sl_irr _ hs
          · rw [if_neg hb]
            refine .inr ⟨h1, (hC R).2 (.inl h2), fun c hc hs => ?_⟩
            rcases (hC c).1 hc with h | ⟨_, _, h⟩
            · exact h3 c h hs
            · subst h; exact hb ((better_iff h1).2 hs)
    · rw [if_neg ht]
      exact ih.congr (fun c => by
        rw [hC c]
        exact ⟨.inl, fun h => h.resolve_right (fun ⟨_, h2, _⟩ => ht h2)⟩)
theorem lpC_is (least : Nat) (ws : List (List Nat)) (arcs : List Arc) : LpOk (Cnd least ws arcs) (lpC least ws arcs []) := by
  have := lpC_ok least ws arcs arcs.length (Nat.le_refl _)
  rwa [List.take_length] at this

-- the least node
theorem lpA_iff (parts : List (List Int)) : ∀ (m x : Int), x ≤ lpA parts m ↔ x ≤ m ∧ ∀ p ∈ parts, 1 < p.length → x ≤ p.headD 0 := by
  induction parts with
  | nil => intro m x; simp [lpA]
  | cons p r ih =>
    intro m x
    show x ≤ lpA r (if 1 < p.length then min m (p.headD 0) else m) ↔ _
    rw [ih]
    simp only [List.forall_mem_cons]
    split
    · rename_i h; constructor
      · rintro ⟨h1, h2⟩; exact ⟨by omega, fun _ => by omega, h2⟩
      · rintro ⟨h1, h2, h3⟩; have := h2 h; exact ⟨by omega, h3⟩
    · rename_i h; constructor
      · rintro ⟨h1, h2⟩; exact ⟨h1, fun h' => absurd h' h, h2⟩
      · rintro ⟨h1, _, h3⟩; exact ⟨h1, h3⟩
theorem lpB_iff (arcs : List Arc) : ∀ (m x : Int), x ≤ lpB arcs m ↔ x ≤ m ∧ ∀ a ∈ arcs, a.f = a.t → x ≤ a.f := by
  induction arcs with
  | nil => intro m x; simp [lpB]
  | cons a r ih =>
    intro m x
    show x ≤ lpB r (if a.f = a.t then min m a.f else m) ↔ _
    rw [ih]
    simp only [List.forall_mem_cons]
    split
    · rename_i h; constructor
      · rintro ⟨h1, h2⟩; exact ⟨by omega, fun _ => by omega, h2⟩
      · rintro ⟨h1, h2, h3⟩; have := h2 h; exact ⟨by omega, h3⟩
    · rename_i h; constructor
      · rintro ⟨h1, h2⟩; exact ⟨h1, fun h' => absurd h' h, h2⟩
      · rintro ⟨h1, _, h3⟩; exact ⟨h1, h3⟩

-- the order of arcs and roots
section
variable {n : Int} {arcs back : List Arc} {roots turned : List Int}
theorem right_back (h : ∀ a, a ∈ back ↔ a ∈ arcs) : rightB n back = rightB n arcs := by
  unfold rightB
  congr 1
  rw [Bool.eq_iff_iff, List.all_eq_true, List.all_eq_true]
  exact ⟨fun k a ha => k a ((h a).2 ha), fun k a ha => k a ((h a).1 ha)⟩
theorem nx_back (h : ∀ a, a ∈ back ↔ a ∈ arcs) (n : Nat) : nx n back = nx n arcs := by
  funext v
  unfold nx
  congr 1
  funext x
  unfold arcB
  rw [Bool.eq_iff_iff, List.any_eq_true, List.any_eq_true]
  exact ⟨fun ⟨a, ha, k⟩ => ⟨a, (h a).1 ha, k⟩, fun ⟨a, ha, k⟩ => ⟨a, (h a).2 ha, k⟩⟩
theorem norm_back (h : ∀ r, r ∈ turned ↔ r ∈ roots) : norm turned = norm roots :=
  sorted_ext _ _ (norm_sorted _).1 (norm_sorted _).1 (fun x => by rw [(norm_sorted _).2, (norm_sorted _).2]; exact h x)
theorem waves_back (h : ∀ a, a ∈ back ↔ a ∈ arcs) (k : ∀ r, r ∈ turned ↔ r ∈ roots) (n : Nat) : wavesOf n back turned = wavesOf n arcs roots := by
  unfold wavesOf
  rw [nx_back h, norm_back k]
theorem parts_back (h : ∀ a, a ∈ back ↔ a ∈ arcs) (n : Nat) : partsG n back = partsG n arcs := by
  unfold partsG
  rw [nx_back h]
theorem least_back (h : ∀ a, a ∈ back ↔ a ∈ arcs) (n : Nat) : leastL n back = leastL n arcs := by
  unfold leastL
  rw [parts_back h]
  refine Int.le_antisymm ((lpB_iff _ _ _).2 ?_) ((lpB_iff _ _ _).2 ?_)
  · obtain ⟨h1, h2⟩ := (lpB_iff back _ _).1 (Int.le_refl _)
    exact ⟨h1, fun a ha => h2 a ((h a).2 ha)⟩
  · obtain ⟨h1, h2⟩ := (lpB_iff arcs _ _).1 (Int.le_refl _)
    exact ⟨h1, fun a ha => h2 a ((h a).1 ha)⟩
theorem loop_back (h : ∀ a, a ∈ back ↔ a ∈ arcs) (n : Nat) : loopL n back = loopL n arcs := by
  unfold loopL
  rw [least_back h, waves_back h (fun r => Iff.rfl)]
  congr 1
  refine LpOk.uniq (lpC_is _ _ _) ((lpC_is _ _ _).congr (fun c => ?_))
  unfold Cnd
  exact ⟨fun ⟨h1, a, ha, h2⟩ => ⟨h1, a, (h a).2 ha, h2⟩, fun ⟨h1, a, ha, h2⟩ => ⟨h1, a, (h a).1 ha, h2⟩⟩
theorem partsQ_back (h : ∀ a, a ∈ back ↔ a ∈ arcs) : partsQ n back = partsQ n arcs := by
  unfold partsQ
  rw [right_back h, parts_back h]
theorem loopQ_back (h : ∀ a, a ∈ back ↔ a ∈ arcs) : loopQ n back = loopQ n arcs := by
  unfold loopQ
  rw [right_back h, loop_back h]
theorem reachQ_back (h : ∀ a, a ∈ back ↔ a ∈ arcs) (k : ∀ r, r ∈ turned ↔ r ∈ roots) : reachQ n back turned = reachQ n arcs roots := by
  unfold reachQ reachL
  rw [right_back h, waves_back h k]
theorem wayQ_back (h : ∀ a, a ∈ back ↔ a ∈ arcs) (k : ∀ r, r ∈ turned ↔ r ∈ roots) (to : Int) : wayQ n back turned to = wayQ n arcs roots to := by
  unfold wayQ
  rw [right_back h, waves_back h k]
end

end Go.Proofs.Ytmgkoocpnakanaa.W
