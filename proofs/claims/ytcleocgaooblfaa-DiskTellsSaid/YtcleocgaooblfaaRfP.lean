/-
  DiskTells: the plain law: the files are the pending writes over the durable parts. No program.
-/
import Derived.Test.YtcleocgaooblfaaLastP
namespace Go.Proofs.Ytcleocgaooblfaa.W
set_option linter.unusedVariables false

/-- the pending writes of a file, over a text -/
def rdL (f : Nat) : List Pn → List UInt8 → List UInt8
  | [], s => s
  | p :: q, s => rdL f q (if p.f = f then putL s p.at_ p.s else s)
def rdS (σ : St) (f : Nat) : List UInt8 := rdL f σ.queue (σ.lasts.getD f [])
structure Rd (σ : St) : Prop where
  eq : ∀ f, f < 8 → σ.files.getD f [] = rdS σ f
/-- a file behind a crash -/
def aftL (f : Nat) : List Pn → List Int → List UInt8 → List UInt8
  | p :: q, k :: ks, s => aftL f q ks (if p.f = f then (if k = 1 then putL s p.at_ p.s else if k = 2 then putL s p.at_ (p.s.take (min p.s.length 16)) else s) else s)
  | _, _, s => s

theorem rdL_append (f : Nat) : ∀ (q r : List Pn) (s : List UInt8), rdL f (q ++ r) s = rdL f r (rdL f q s)
  | [], r, s => rfl
  | p :: q, r, s => by rw [List.cons_append, rdL, rdL, rdL_append f q r]
theorem rdL_other (f g : Nat) (h : g ≠ f) : ∀ (q : List Pn) (s : List UInt8), rdL g (q.filter fun p => !decide (p.f = f)) s = rdL g q s
  | [], s => rfl
  | p :: q, s => by
    rw [List.filter_cons]
    split
    · rw [rdL, rdL, rdL_other f g h q]
    · rename_i hc
      have : p.f = f := by simpa using hc
      rw [rdL, if_neg (by omega), rdL_other f g h q]
theorem rdL_gone (f : Nat) : ∀ (q : List Pn) (s : List UInt8), rdL f (q.filter fun p => !decide (p.f = f)) s = s
  | [], s => rfl
  | p :: q, s => by
    rw [List.filter_cons]
    split
    · rename_i hc
      have : p.f ≠ f := by simpa using hc
      rw [rdL, if_neg this, rdL_gone f q]
    · exact rdL_gone f q s
theorem rdL_foreign (f : Nat) : ∀ (q : List Pn) (s : List UInt8), (∀ p ∈ q, p.f ≠ f) → rdL f q s = s
  | [], s, _ => rfl
  | p :: q, s, h => by rw [rdL, if_neg (h p (by simp)), rdL_foreign f q s (fun p hp => h p (by simp [hp]))]

theorem putL_get (s : List UInt8) (k : Nat) (t : List UInt8) (i : Nat) : (putL s k t)[i]? = if i < max s.length (k + t.length) then some (if k ≤ i ∧ i < k + t.length then t.getD (i - k) 0 else s.getD i 0) else none := by
  unfold putL
  rw [List.getElem?_map]
  split
  · rename_i h; rw [List.getElem?_range h]; rfl
  · rename_i h; rw [List.getElem?_eq_none (by rw [List.length_range]; omega)]; rfl
theorem putL_getD' (s : List UInt8) (k : Nat) (t : List UInt8) (i : Nat) : (putL s k t).getD i 0 = if k ≤ i ∧ i < k + t.length then t.getD (i - k) 0 else s.getD i 0 := by
  rw [List.getD_eq_getElem?_getD, putL_get]
  by_cases h : i < max s.length (k + t.length)
  · rw [if_pos h]; rfl
  · rw [if_neg h, if_neg (by omega), List.getD_eq_getElem?_getD, List.getElem?_eq_none (by omega)]
theorem putL_two (s : List UInt8) (k : Nat) (t : List UInt8) (c : Nat) (hc : c ≤ t.length) : putL (putL s k (t.take c)) (k + c) (t.drop c) = putL s k t := by
  apply List.ext_getElem?
  intro i
  rw [putL_get, putL_get, putL_len, putL_getD', List.length_take, List.length_drop]
  have hm : min c t.length = c := by omega
  rw [hm]
  by_cases h : i < max s.length (k + t.length)
  · rw [if_pos h, if_pos (by omega)]
    congr 1
    by_cases h1 : k + c ≤ i ∧ i < k + c + (t.length - c)
    · rw [if_pos h1, if_pos (show k ≤ i ∧ i < k + t.length by omega), List.getD_eq_getElem?_getD, List.getElem?_drop, List.getD_eq_getElem?_getD, show c + (i - (k + c)) = i - k by omega]
    · rw [if_neg h1]
      by_cases h2 : k ≤ i ∧ i < k + c
      · rw [if_pos h2, if_pos (show k ≤ i ∧ i < k + t.length by omega), List.getD_eq_getElem?_getD, List.getElem?_take, if_pos (by omega), List.getD_eq_getElem?_getD]
      · rw [if_neg h2, if_neg (show ¬ (k ≤ i ∧ i < k + t.length) by omega)]
  · rw [if_neg h, if_neg (by omega)]

theorem rdL_pieces (f : Nat) : ∀ (n k : Nat) (s x : List UInt8), s.length ≤ n → s ≠ [] → rdL f (piecesF f n k s) x = putL x k s
  | 0, k, s, x, hn, hs => absurd (List.eq_nil_of_length_eq_zero (by omega)) hs
  | n + 1, k, s, x, hn, hs => by
    rw [piecesF, if_neg hs]
    obtain ⟨c, hc⟩ : ∃ c, min s.length (32 - k % 32) = c := ⟨_, rfl⟩
    rw [hc, rdL, if_pos rfl]
    have h0 : 0 < s.length := List.length_pos_iff.2 hs
    have hc0 : 0 < c := by omega
    by_cases hd : s.drop c = []
    · have hl : s.length ≤ c := by simpa using hd
      rw [hd]
      have : piecesF f n (k + c) [] = [] := by cases n <;> simp [piecesF]
      rw [this, rdL, List.take_of_length_le hl]
    · rw [rdL_pieces f n (k + c) (s.drop c) _ (by rw [List.length_drop]; omega) hd]
      exact putL_two x k s c (by omega)

theorem Rd.new : Rd newS := ⟨fun f hf => by simp [newS, rdS, rdL]⟩
theorem Rd.ends {σ : St} (h : Rd σ) : Rd (endsS σ) := by
  unfold endsS
  split
  · exact h
  · exact ⟨h.eq⟩
theorem Rd.crash {σ : St} (h : Rd σ) (ks : List Int) : Rd (crashS σ ks) := by
  unfold crashS
  split
  · exact h
  · exact ⟨fun f hf => rfl⟩
theorem Rd.head {σ : St} (h : Rd σ) : Rd (headS σ) := by
  unfold headS
  split
  · exact h.ends.crash _
  · exact h.ends
theorem Rd.settle {σ : St} (h : Rd σ) (ok : Ok σ) {f : Nat} (hf : f < 8) (s : List UInt8) : Rd (settleS σ f s) := by
  refine ⟨fun g hg => ?_⟩
  show (σ.files.set f s).getD g [] = rdL g (σ.queue.filter fun p => !decide (p.f = f)) ((σ.lasts.set f s).getD g [])
  rw [getD_set _ _ _ _ _ (by rw [ok.f8]; exact hf), getD_set _ _ _ _ _ (by rw [ok.l8]; exact hf)]
  by_cases e : f = g
  · subst e
    rw [if_pos rfl, if_pos rfl, rdL_gone]
  · rw [if_neg e, if_neg e, rdL_other f g (fun e' => e e'.symm)]
    exact h.eq g hg
theorem Rd.add {σ : St} (h : Rd σ) (ok : Ok σ) {f : Nat} (hf : f < 8) (k : Nat) {s : List UInt8} (hs : s ≠ []) : Rd (addS σ f k s) := by
  refine ⟨fun g hg => ?_⟩
  show (σ.files.set f (putL (σ.files.getD f []) k s)).getD g [] = rdL g (σ.queue ++ pieces f k s) (σ.lasts.getD g [])
  rw [getD_set _ _ _ _ _ (by rw [ok.f8]; exact hf), rdL_append]
  by_cases e : f = g
  · subst e
    rw [if_pos rfl, h.eq f hf]
    exact (rdL_pieces f s.length k s _ (Nat.le_refl _) hs).symm
  · rw [if_neg e, rdL_foreign g (pieces f k s) _ (fun p hp => by have := (pieces_come f _ _ _ p hp).1; omega)]
    exact h.eq g hg
theorem Rd.writeS {σ : St} (h : Rd σ) (ok : Ok σ) (f k : Int) (s : List UInt8) : Rd (writeS σ f k s) := by
  unfold W.writeS
  split
  · rename_i hc
    have hE := hc.1
    unfold writeE at hE
    have hm : mayS σ f = 0 := by
      rcases Nat.eq_zero_or_pos (mayS σ f) with h0 | h0
      · exact h0
      · rw [if_pos (by omega)] at hE; omega
    obtain ⟨_, m0, m8⟩ := may_zero hm
    exact h.add ok (by omega) _ hc.2
  · exact h
theorem Rd.do {σ : St} (h : Rd σ) (ok : Ok σ) (a : Ac) : Rd (doS σ a) := by
  have hh := h.head
  have okh := ok.head
  unfold doS
  split
  · unfold WriteS
    split
    · exact (h.ends.writeS ok.ends _ _ _).crash _
    · exact h.ends.writeS ok.ends _ _ _
  · split
    · unfold FlushS flushS
      split
      · exact hh
      · rename_i hm
        split
        · exact ⟨hh.eq⟩
        · have := may_zero (show mayS (headS σ) a.f = 0 by omega)
          exact hh.settle okh (by omega) _
    · split
      · unfold CutS cutS
        split
        · rename_i hm
          unfold cutE at hm
          have hm0 : mayS (headS σ) a.f = 0 := by
            rcases Nat.eq_zero_or_pos (mayS (headS σ) a.f) with h0 | h0
            · exact h0
            · rw [if_pos (by omega)] at hm; omega
          have := may_zero hm0
          exact hh.settle okh (by omega) _
        · exact hh
      · split
        · unfold TurnS turnS
          split
          · rename_i hm
            unfold turnE at hm
            have hm2 : may2 (headS σ) a.f a.g = 0 := by
              rcases Nat.eq_zero_or_pos (may2 (headS σ) a.f a.g) with h0 | h0
              · exact h0
              · rw [if_pos (by omega)] at hm; omega
            unfold may2 at hm2
            have hm0 : mayS (headS σ) a.f = 0 := by
              rcases Nat.eq_zero_or_pos (mayS (headS σ) a.f) with h0 | h0
              · exact h0
              · rw [if_pos (by omega)] at hm2; omega
            rw [if_neg (by omega)] at hm2
            have h1 := may_zero hm0
            have h2 := may_zero hm2
            exact (hh.settle okh (by omega) _).settle (okh.settle _ (getD_le okh.ll _)) (by omega) _
          · exact hh
        · split
          · exact h.crash _
          · split
            · exact ⟨h.eq⟩
            · split
              · exact ⟨h.eq⟩
              · split
                · exact ⟨h.eq⟩
                · exact h

theorem aft_stays (f : Nat) : ∀ (q : List Pn) (ks : List Int) (ls : List (List UInt8)), ls.length = 8 → (∀ p ∈ q, p.f < 8) → (stays ls q ks).getD f [] = aftL f q ks (ls.getD f [])
  | [], ks, ls, _, _ => by cases ks <;> rfl
  | p :: q, [], ls, _, _ => rfl
  | p :: q, k :: ks, ls, hl, hq => by
    have hp := hq p (by simp)
    rw [stays, aftL]
    rw [aft_stays f q ks _ (by split; · simpa using hl
                               · split
                                 · simpa using hl
                                 · exact hl) (fun p hp => hq p (by simp [hp]))]
    congr 1
    by_cases e : p.f = f
    · rw [if_pos e]
      split
      · rw [getD_set _ _ _ _ _ (by omega), if_pos e, e]
      · split
        · rw [getD_set _ _ _ _ _ (by omega), if_pos e, e]
        · rfl
    · rw [if_neg e]
      split
      · rw [getD_set _ _ _ _ _ (by omega), if_neg e]
      · split
        · rw [getD_set _ _ _ _ _ (by omega), if_neg e]
        · rfl

end Go.Proofs.Ytcleocgaooblfaa.W
