/-
  JournalTells: the reference's disk, first part (first printed by tools/rf_journal.py, then edited: Others, LRow).
-/
import Derived.Test.YtmcdfhihfcfbaaaFq
import Derived.Test.YtmcdfhihfcfbaaaTwo
import Derived.Test.YtmcdfhihfcfbaaaClone
import Derived.BigQuiet
import Derived.Deep.QuietTactic
namespace Go.Proofs.Ytmcdfhihfcfbaaa.W
set_option linter.unusedVariables false

theorem getD_set {α : Type} (l : List α) (i j : Nat) (a d : α) (hi : i < l.length) : (l.set i a).getD j d = if i = j then a else l.getD j d := by
  rw [List.getD_eq_getElem?_getD, List.getD_eq_getElem?_getD, List.getElem?_set]
  split
  · rename_i h; subst h; simp
  · rfl

theorem pieces_come (f : Nat) : ∀ (n k : Nat) (s : List UInt8), ∀ p ∈ piecesF f n k s, p.f = f ∧ k ≤ p.at_ ∧ p.at_ + p.s.length ≤ k + s.length ∧ ∀ j, j < p.s.length → s[p.at_ - k + j]? = some (p.s.getD j 0)
  | 0, k, s, p, h => by simp [piecesF] at h
  | n + 1, k, s, p, h => by
    rw [piecesF] at h
    split at h
    · simp at h
    · rename_i hs
      have h0 : 0 < s.length := List.length_pos_iff.2 hs
      rcases List.mem_cons.1 h with rfl | h
      · refine ⟨rfl, Nat.le_refl _, ?_, fun j hj => ?_⟩
        · simp only [List.length_take]; omega
        · simp only [List.length_take] at hj
          rw [Nat.sub_self, Nat.zero_add, List.getD_eq_getElem?_getD, List.getElem?_take, if_pos (by omega), List.getElem?_eq_getElem (by omega)]
          rfl
      · obtain ⟨c, hc⟩ : ∃ c, min s.length (32 - k % 32) = c := ⟨_, rfl⟩
        rw [hc] at h
        have hcl : c ≤ s.length := by omega
        obtain ⟨h1, h2, h3, h4⟩ := pieces_come f n (k + c) (s.drop c) p h
        rw [List.length_drop] at h3
        refine ⟨h1, by omega, by omega, fun j hj => ?_⟩
        have := h4 j hj
        rw [List.getElem?_drop] at this
        rw [show p.at_ - k + j = c + (p.at_ - (k + c) + j) by omega]
        exact this

/-- the pending writes of a file, over a text -/
def rdL (f : Nat) : List Pn → List UInt8 → List UInt8
  | [], s => s
  | p :: q, s => rdL f q (if p.f = f then putL s p.at_ p.s else s)
def rdS (σ : St) (f : Nat) : List UInt8 := rdL f σ.queue (σ.lasts.getD f [])
structure Rd (σ : St) : Prop where
  eq : ∀ f, f < 8 → σ.files.getD f [] = rdS σ f
/-- a file behind a crash -/
def aftL (f : Nat) : List Pn → List Int → List UInt8 → List UInt8
  | p :: q, k :: ks, s => aftL f q ks (if p.f = f then (if k = 1 then putL s p.at_ p.s else if k = 2 then putL s p.at_ (p.s.take (min p.s.length 16)) else s) else s)
  | _, _, s => s

theorem rdL_append (f : Nat) : ∀ (q r : List Pn) (s : List UInt8), rdL f (q ++ r) s = rdL f r (rdL f q s)
  | [], r, s => rfl
  | p :: q, r, s => by rw [List.cons_append, rdL, rdL, rdL_append f q r]
theorem rdL_other (f g : Nat) (h : g ≠ f) : ∀ (q : List Pn) (s : List UInt8), rdL g (q.filter fun p => !decide (p.f = f)) s = rdL g q s
  | [], s => rfl
  | p :: q, s => by
    rw [List.filter_cons]
    split
    · rw [rdL, rdL, rdL_other f g h q]
    · rename_i hc
      have : p.f = f := by simpa using hc
      rw [rdL, if_neg (by omega), rdL_other f g h q]
theorem rdL_gone (f : Nat) : ∀ (q : List Pn) (s : List UInt8), rdL f (q.filter fun p => !decide (p.f = f)) s = s
  | [], s => rfl
  | p :: q, s => by
    rw [List.filter_cons]
    split
    · rename_i hc
      have : p.f ≠ f := by simpa using hc
      rw [rdL, if_neg this, rdL_gone f q]
    · exact rdL_gone f q s
theorem rdL_foreign (f : Nat) : ∀ (q : List Pn) (s : List UInt8), (∀ p ∈ q, p.f ≠ f) → rdL f q s = s
  | [], s, _ => rfl
  | p :: q, s, h => by rw [rdL, if_neg (h p (by simp)), rdL_foreign f q s (fun p hp => h p (by simp [hp]))]

theorem putL_get (s : List UInt8) (k : Nat) (t : List UInt8) (i : Nat) : (putL s k t)[i]? = if i < max s.length (k + t.length) then some (if k ≤ i ∧ i < k + t.length then t.getD (i - k) 0 else s.getD i 0) else none := by
  unfold putL
  rw [List.getElem?_map]
  split
  · rename_i h; rw [List.getElem?_range h]; rfl
  · rename_i h; rw [List.getElem?_eq_none (by rw [List.length_range]; omega)]; rfl
theorem putL_getD' (s : List UInt8) (k : Nat) (t : List UInt8) (i : Nat) : (putL s k t).getD i 0 = if k ≤ i ∧ i < k + t.length then t.getD (i - k) 0 else s.getD i 0 := by
  rw [List.getD_eq_getElem?_getD, putL_get]
  by_cases h : i < max s.length (k + t.length)
  · rw [if_pos h]; rfl
  · rw [if_neg h, if_neg (by omega), List.getD_eq_getElem?_getD, List.getElem?_eq_none (by omega)]
theorem putL_two (s : List UInt8) (k : Nat) (t : List UInt8) (c : Nat) (hc : c ≤ t.length) : putL (putL s k (t.take c)) (k + c) (t.drop c) = putL s k t := by
  apply List.ext_getElem?
  intro i
  rw [putL_get, putL_get, putL_len, putL_getD', List.length_take, List.length_drop]
  have hm : min c t.length = c := by omega
  rw [hm]
  by_cases h : i < max s.length (k + t.length)
  · rw [if_pos h, if_pos (by omega)]
    congr 1
    by_cases h1 : k + c ≤ i ∧ i < k + c + (t.length - c)
    · rw [if_pos h1, if_pos (show k ≤ i ∧ i < k + t.length by omega), List.getD_eq_getElem?_getD, List.getElem?_drop, List.getD_eq_getElem?_getD, show c + (i - (k + c)) = i - k by omega]
    · rw [if_neg h1]
      by_cases h2 : k ≤ i ∧ i < k + c
      · rw [if_pos h2, if_pos (show k ≤ i ∧ i < k + t.length by omega), List.getD_eq_getElem?_getD, List.getElem?_take, if_pos (by omega), List.getD_eq_getElem?_getD]
      · rw [if_neg h2, if_neg (show ¬ (k ≤ i ∧ i < k + t.length) by omega)]
  · rw [if_neg h, if_neg (by omega)]

theorem rdL_pieces (f : Nat) : ∀ (n k : Nat) (s x : List UInt8), s.length ≤ n → s ≠ [] → rdL f (piecesF f n k s) x = putL x k s
  | 0, k, s, x, hn, hs => absurd (List.eq_nil_of_length_eq_zero (by omega)) hs
  | n + 1, k, s, x, hn, hs => by
    rw [piecesF, if_neg hs]
    obtain ⟨c, hc⟩ : ∃ c, min s.length (32 - k % 32) = c := ⟨_, rfl⟩
    rw [hc, rdL, if_pos rfl]
    have h0 : 0 < s.length := List.length_pos_iff.2 hs
    have hc0 : 0 < c := by omega
    by_cases hd : s.drop c = []
    · have hl : s.length ≤ c := by simpa using hd
      rw [hd]
      have : piecesF f n (k + c) [] = [] := by cases n <;> simp [piecesF]
      rw [this, rdL, List.take_of_length_le hl]
    · rw [rdL_pieces f n (k + c) (s.drop c) _ (by rw [List.length_drop]; omega) hd]
      exact putL_two x k s c (by omega)

theorem Rd.new : Rd newS := ⟨fun f hf => by simp [newS, rdS, rdL]⟩
theorem Rd.ends {σ : St} (h : Rd σ) : Rd (endsS σ) := by
  unfold endsS
  split
  · exact h
  · exact ⟨h.eq⟩
theorem Rd.crash {σ : St} (h : Rd σ) (ks : List Int) : Rd (crashS σ ks) := by
  unfold crashS
  split
  · exact h
  · exact ⟨fun f hf => rfl⟩
theorem Rd.head {σ : St} (h : Rd σ) : Rd (headS σ) := by
  unfold headS
  split
  · exact h.ends.crash _
  · exact h.ends
theorem Rd.settle {σ : St} (h : Rd σ) (ok : Ok σ) {f : Nat} (hf : f < 8) (s : List UInt8) : Rd (settleS σ f s) := by
  refine ⟨fun g hg => ?_⟩
  show (σ.files.set f s).getD g [] = rdL g (σ.queue.filter fun p => !decide (p.f = f)) ((σ.lasts.set f s).getD g [])
  rw [getD_set _ _ _ _ _ (by rw [ok.f8]; exact hf), getD_set _ _ _ _ _ (by rw [ok.l8]; exact hf)]
  by_cases e : f = g
  · subst e
    rw [if_pos rfl, if_pos rfl, rdL_gone]
  · rw [if_neg e, if_neg e, rdL_other f g (fun e' => e e'.symm)]
    exact h.eq g hg
theorem Rd.add {σ : St} (h : Rd σ) (ok : Ok σ) {f : Nat} (hf : f < 8) (k : Nat) {s : List UInt8} (hs : s ≠ []) : Rd (addS σ f k s) := by
  refine ⟨fun g hg => ?_⟩
  show (σ.files.set f (putL (σ.files.getD f []) k s)).getD g [] = rdL g (σ.queue ++ pieces f k s) (σ.lasts.getD g [])
  rw [getD_set _ _ _ _ _ (by rw [ok.f8]; exact hf), rdL_append]
  by_cases e : f = g
  · subst e
    rw [if_pos rfl, h.eq f hf]
    exact (rdL_pieces f s.length k s _ (Nat.le_refl _) hs).symm
  · rw [if_neg e, rdL_foreign g (pieces f k s) _ (fun p hp => by have := (pieces_come f _ _ _ p hp).1; omega)]
    exact h.eq g hg
theorem Rd.writeS {σ : St} (h : Rd σ) (ok : Ok σ) (f k : Int) (s : List UInt8) : Rd (writeS σ f k s) := by
  unfold W.writeS
  split
  · rename_i hc
    have hE := hc.1
    unfold writeE at hE
    have hm : mayS σ f = 0 := by
      rcases Nat.eq_zero_or_pos (mayS σ f) with h0 | h0
      · exact h0
      · rw [if_pos (by omega)] at hE; omega
    obtain ⟨_, m0, m8⟩ := may_zero hm
    exact h.add ok (by omega) _ hc.2
  · exact h
section
variable {σ : St}
theorem Rd.write (h : Rd σ) (ok : Ok σ) (f k : Int) (s : List UInt8) : Rd (WriteS σ f k s) := by
  unfold WriteS
  split
  · exact (h.ends.writeS ok.ends _ _ _).crash _
  · exact h.ends.writeS ok.ends _ _ _
theorem Rd.flushd (h : Rd σ) (ok : Ok σ) (f : Int) : Rd (FlushS σ f) := by
  have hh := h.head
  have okh := ok.head
  unfold FlushS flushS
  split
  · exact hh
  · rename_i hm
    split
    · exact ⟨hh.eq⟩
    · have := may_zero (show mayS (headS σ) f = 0 by omega)
      exact hh.settle okh (by omega) _
theorem Rd.cut (h : Rd σ) (ok : Ok σ) (f n : Int) : Rd (CutS σ f n) := by
  have hh := h.head
  have okh := ok.head
  unfold CutS cutS
  split
  · rename_i hm
    unfold cutE at hm
    have hm0 : mayS (headS σ) f = 0 := by
      rcases Nat.eq_zero_or_pos (mayS (headS σ) f) with h0 | h0
      · exact h0
      · rw [if_pos (by omega)] at hm; omega
    have := may_zero hm0
    exact hh.settle okh (by omega) _
  · exact hh
theorem Rd.turn (h : Rd σ) (ok : Ok σ) (f g : Int) : Rd (TurnS σ f g) := by
  have hh := h.head
  have okh := ok.head
  unfold TurnS turnS
  split
  · rename_i hm
    unfold turnE at hm
    have hm2 : may2 (headS σ) f g = 0 := by
      rcases Nat.eq_zero_or_pos (may2 (headS σ) f g) with h0 | h0
      · exact h0
      · rw [if_pos (by omega)] at hm; omega
    unfold may2 at hm2
    have hm0 : mayS (headS σ) f = 0 := by
      rcases Nat.eq_zero_or_pos (mayS (headS σ) f) with h0 | h0
      · exact h0
      · rw [if_pos (by omega)] at hm2; omega
    rw [if_neg (by omega)] at hm2
    have h1 := may_zero hm0
    have h2 := may_zero hm2
    exact (hh.settle okh (by omega) _).settle (okh.settle _ (getD_le okh.ll _)) (by omega) _
  · exact hh
end

theorem aft_stays (f : Nat) : ∀ (q : List Pn) (ks : List Int) (ls : List (List UInt8)), ls.length = 8 → (∀ p ∈ q, p.f < 8) → (stays ls q ks).getD f [] = aftL f q ks (ls.getD f [])
  | [], ks, ls, _, _ => by cases ks <;> rfl
  | p :: q, [], ls, _, _ => rfl
  | p :: q, k :: ks, ls, hl, hq => by
    have hp := hq p (by simp)
    rw [stays, aftL]
    rw [aft_stays f q ks _ (by split; · simpa using hl
                               · split
                                 · simpa using hl
                                 · exact hl) (fun p hp => hq p (by simp [hp]))]
    congr 1
    by_cases e : p.f = f
    · rw [if_pos e]
      split
      · rw [getD_set _ _ _ _ _ (by omega), if_pos e, e]
      · split
        · rw [getD_set _ _ _ _ _ (by omega), if_pos e, e]
        · rfl
    · rw [if_neg e]
      split
      · rw [getD_set _ _ _ _ _ (by omega), if_neg e]
      · split
        · rw [getD_set _ _ _ _ _ (by omega), if_neg e]
        · rfl

end Go.Proofs.Ytmcdfhihfcfbaaa.W

namespace Go.Proofs.Ytmcdfhihfcfbaaa.W
open Go.RowKit
set_option linter.unusedVariables false

/-- the row of Put while zeros are appended -/
def zerosTo (s : List UInt8) (n : Nat) : List UInt8 := s ++ List.replicate (n - s.length) 0
/-- .. and while bytes are written -/
def putTo (s : List UInt8) (k : Nat) (t : List UInt8) (j : Nat) : List UInt8 :=
  (List.range (max s.length (k + t.length))).map fun i => if k ≤ i ∧ i < k + j then t.getD (i - k) 0 else s.getD i 0

theorem putTo_len (s : List UInt8) (k : Nat) (t : List UInt8) (j : Nat) : (putTo s k t j).length = max s.length (k + t.length) := by simp [putTo]
theorem putTo_all (s : List UInt8) (k : Nat) (t : List UInt8) : putTo s k t t.length = putL s k t := rfl
theorem putTo_get (s : List UInt8) (k : Nat) (t : List UInt8) (j i : Nat) : (putTo s k t j)[i]? = if i < max s.length (k + t.length) then some (if k ≤ i ∧ i < k + j then t.getD (i - k) 0 else s.getD i 0) else none := by
  unfold putTo
  rw [List.getElem?_map]
  split
  · rename_i h; rw [List.getElem?_range h]; rfl
  · rename_i h; rw [List.getElem?_eq_none (by rw [List.length_range]; omega)]; rfl
theorem putTo_zero (s : List UInt8) (k : Nat) (t : List UInt8) : zerosTo s (max s.length (k + t.length)) = putTo s k t 0 := by
  apply List.ext_getElem?
  intro i
  rw [putTo_get, if_neg (show ¬ (k ≤ i ∧ i < k + 0) by omega)]
  unfold zerosTo
  by_cases h : i < s.length
  · rw [List.getElem?_append_left h, if_pos (by omega), List.getD_eq_getElem?_getD, List.getElem?_eq_getElem h]; rfl
  · rw [List.getElem?_append_right (by omega), List.getElem?_replicate]
    split
    · rename_i h2; rw [if_pos (by omega), List.getD_eq_getElem?_getD, List.getElem?_eq_none (by omega)]; rfl
    · rename_i h2; rw [if_neg (by omega)]
theorem putTo_step (s : List UInt8) (k : Nat) (t : List UInt8) (j : Nat) (hj : j < t.length) : (putTo s k t j).set (k + j) t[j] = putTo s k t (j + 1) := by
  apply List.ext_getElem?
  intro i
  rw [List.getElem?_set, putTo_get, putTo_get, putTo_len]
  by_cases e : k + j = i
  · subst e
    have h1 : k + j < max s.length (k + t.length) := by omega
    have h2 : t.getD (k + j - k) 0 = t[j] := by rw [show k + j - k = j by omega, List.getD_eq_getElem?_getD, List.getElem?_eq_getElem hj]; rfl
    rw [h2, if_pos h1, if_pos rfl, if_pos h1, if_pos (show k ≤ k + j ∧ k + j < k + (j + 1) by omega)]
  · rw [if_neg e]
    by_cases h : k ≤ i ∧ i < k + j
    · have h1 : k ≤ i ∧ i < k + (j + 1) := by omega
      simp only [h, h1, if_true, and_self]
    · have h1 : ¬ (k ≤ i ∧ i < k + (j + 1)) := by omega
      simp only [h, h1, if_false]

theorem Own.set {w : World} {B : Nat} {e : TypeId} {g n c : Nat} {xs : List Value} (h : Own w B e (.slice (some ⟨g, 0, none⟩) n c) xs) (j : Nat) (hj : j < xs.length) (u : Value) : Own (w.setCell ⟨g, j, none⟩ u) B e (.slice (some ⟨g, 0, none⟩) n c) (xs.set j u) := by
  rcases h.is with ⟨e', rfl⟩ | ⟨g', cap, e', hB, hn, hm, ⟨cur, fz, hg, hc⟩, hcell, hfr⟩
  · simp at hj
  · injection e' with e1 e2 e3
    injection e1 with e1; injection e1 with e1 _ _
    subst e1 e2 e3
    refine ⟨.inr ⟨g, c, by rw [List.length_set], hB, by rw [List.length_set]; exact hn, hm, ⟨cur.setIfInBounds j u, fz, by simp [World.setCell, Array.getElem?_modify, hg], by simpa using hc⟩, fun i y hi => ?_, fun i hi => by simpa using hfr i hi⟩⟩
    by_cases hij : j = i
    · subst hij
      rw [List.getElem?_set_self hj] at hi
      have hy : u = y := Option.some.inj hi
      rw [← hy]
      exact World.cell?_setCell_same _ _ _ (hcell j xs[j] (List.getElem?_eq_getElem hj))
    · rw [List.getElem?_set_ne hij] at hi
      rw [World.cell?_setCell_other _ _ _ _ (fun e' => hij (Addr.mk.inj e').2.1)]
      exact hcell i y hi
theorem Own.at {w : World} {B : Nat} {e : TypeId} {g n c : Nat} {xs : List Value} (h : Own w B e (.slice (some ⟨g, 0, none⟩) n c) xs) {j : Nat} {u : Value} (hj : xs[j]? = some u) : w.cell? ⟨g, j, none⟩ = some u ∧ w.frozen? ⟨g, j, none⟩ = false := by
  rcases h.is with ⟨e', rfl⟩ | ⟨g', cap, e', _, hn, _, _, hc, hf⟩
  · simp at hj
  · injection e' with e1 _ _; injection e1 with e1; injection e1 with e1 _ _
    subst e1
    exact ⟨hc j u hj, hf j (by have := (List.getElem?_eq_some_iff.1 hj).1; omega)⟩
theorem byteCells_set (l : List UInt8) (j : Nat) (b : UInt8) : Lib.byteCells (l.set j b) = (Lib.byteCells l).set j (.int .u8 (b.toNat : Int)) := by
  simp [Lib.byteCells, List.map_set]

def vlen : Value → Nat
  | .slice _ n _ => n
  | _ => 0
theorem zeros_same (s : ByteArray) : zerosTo s.data.toList s.size = s.data.toList := by
  unfold zerosTo; rw [show s.size - s.data.toList.length = 0 from Nat.sub_self _]; simp
theorem own_slice {w : World} {B : Nat} {e : TypeId} {v : Value} {xs : List Value} (h : Own w B e v xs) {n : Nat} (hn : xs.length = n) : ∃ p c, v = .slice p n c := by
  rcases h.is with ⟨rfl, rfl⟩ | ⟨g, cap, rfl, _⟩
  · exact ⟨none, 0, by rw [← hn]; rfl⟩
  · exact ⟨_, cap, by rw [hn]⟩
/-- a row of the call's own grows: nothing that lay there before changes -/
theorem keeps_own {w wr w' : World} {e : TypeId} {v : Value} {xs : List Value} (h : Keeps (fun _ => False) w wr) (k : Keeps (fun g => v.ownBlock = some g) wr w') (ho : Own wr w.heap.size e v xs) : Keeps (fun _ => False) w w' :=
  ⟨k.os.trans h.os, k.tape.trans h.tape, k.output.trans h.output, Nat.le_trans h.size k.size, fun j hj hn => by
    rw [k.block j (Nat.lt_of_lt_of_le hj h.size) (fun e => by have := (ho.lt e).1; omega)]
    exact h.block j hj hn⟩
theorem bc_snoc (l : List UInt8) (b : UInt8) : Lib.byteCells l ++ [.int .u8 (b.toNat : Int)] = Lib.byteCells (l ++ [b]) := by simp [Lib.byteCells]

theorem rfits_any (k : Int) (s : ByteArray) (w : World) (hs : s.size ≤ 9000000000000000000) : Calls Try.prog 80 #[.int .i64 k, .string s] w fun e w' => e = .returned (.bool (decide (0 ≤ k) && (decide (k ≤ 16777216) && decide (k + (s.size : Int) ≤ 16777216)))) ∧ w = w' := by
  by_cases a : 0 ≤ k
  · by_cases b : k ≤ 16777216
    · have r : IntKind.i64.wrap (k + (s.size : Int)) = k + (s.size : Int) := IntWalk.i64_in _ (by omega)
      have e : Hd ((decide (0 ≤ k) && (decide (k ≤ 16777216) && decide (k + (s.size : Int) ≤ 16777216))) = decide (k + (s.size : Int) ≤ 16777216)) := ⟨by simp [a, b]⟩
      rw [e.out]
      have a1 : decide (0 ≤ k) = true := by simp [a]
      have b1 : decide (k ≤ 16777216) = true := by simp [b]
      clear a b
      go_enter Try.func80, Try.ntmps80
      go_wp2
      go_ret
      exact ⟨rfl, rfl⟩
    · have e : Hd ((decide (0 ≤ k) && (decide (k ≤ 16777216) && decide (k + (s.size : Int) ≤ 16777216))) = false) := ⟨by simp [b]⟩
      rw [e.out]
      have a1 : decide (0 ≤ k) = true := by simp [a]
      have b1 : decide (k ≤ 16777216) = false := by simp; omega
      clear a b
      go_enter Try.func80, Try.ntmps80
      go_wp2
      go_ret
      exact ⟨rfl, rfl⟩
  · have e : Hd ((decide (0 ≤ k) && (decide (k ≤ 16777216) && decide (k + (s.size : Int) ≤ 16777216))) = false) := ⟨by simp [a]⟩
    rw [e.out]
    have a1 : decide (0 ≤ k) = false := by simp; omega
    clear a
    go_enter Try.func80, Try.ntmps80
    go_wp2
    go_ret
    exact ⟨rfl, rfl⟩

set_option maxHeartbeats 4000000 in
set_option maxRecDepth 100000 in
theorem rput_any (s : ByteArray) (k : Nat) (t : ByteArray) (w : World) (hs : s.size ≤ 16777216) (hk : k + t.size ≤ 16777216) :
    Calls Try.prog 83 #[.string s, .int .i64 k, .string t] w fun e w' => e = .returned (strV (putL s.data.toList k t.data.toList)) ∧ Keeps (fun _ => False) w w' := by
  obtain ⟨i0, hi, hz0, hz1, hz2⟩ := info_parts infoU8
  have HI : Hd (_ ∧ _ ∧ _ ∧ _) := ⟨⟨hi, hz0, hz1, hz2⟩⟩
  clear hi hz0 hz1 hz2
  have hcv := run_bytes_of_string (P := Try.prog) w 9 74 5 s Try.underlying9 Try.underlying74 Try.underlying5
  have hcap1 := grownCap_ge w s.size 0 5
  have hcap2 := grownCap_le_maxLen w s.size 0 5 (by unfold maxLen; omega)
  generalize grownCap w s.size 0 5 = cap at hcv hcap1 hcap2
  have HO0 := Hd.mk (Own.of_string w s cap hcap1 hcap2)
  have HK0 : Hd (Keeps (fun _ => False) w (w.drew.alloc (.cells (bytesRow s cap) 5 ((bytesRow s cap).size, (bytesRow s cap).size + 1)))) := ⟨((Keeps.refl _ w).drew).alloc _⟩
  obtain ⟨N, hN⟩ : ∃ N, k + t.size = N := ⟨_, rfl⟩
  have rN : IntKind.i64.wrap ((k : Int) + (t.size : Int)) = (N : Int) := by rw [IntWalk.i64_in _ (by omega)]; omega
  have HN := Hd.mk hN
  have hN2 : N ≤ 16777216 := by omega
  have HS : Hd (s.data.toList.length = s.size ∧ t.data.toList.length = t.size) := ⟨rfl, rfl⟩
  have HB := Hd.mk (And.intro hs hk)
  clear hs hk hcap1 hcap2 hN
  go_enter Try.func83, Try.ntmps83
  go_wp2
  go_loopw [7] (fun v wr => ∃ n : Nat, n ≤ max s.size N ∧ s.size ≤ n ∧ (∃ p c, v = .slice p n c) ∧ Hd (Own wr w.heap.size 5 v (Lib.byteCells (zerosTo s.data.toList n))) ∧ Hd (Keeps (fun _ => False) w wr)) (fun v _ => N - vlen v)
  case atStart => exact ⟨s.size, Nat.le_max_left _ _, Nat.le_refl _, ⟨_, _, rfl⟩, ⟨by rw [zeros_same]; exact HO0.out⟩, HK0⟩
  case round =>
    obtain ⟨n, hn1, hn2, ⟨p, c, rfl⟩, HO, HK⟩ := hrel
    clear HO0 HK0 hcv
    have HZl : Hd ((Lib.byteCells (zerosTo s.data.toList n)).length = n) := ⟨by rw [byteCells_len]; unfold zerosTo; rw [List.length_append, List.length_replicate, HS.out.1]; omega⟩
    by_cases hlt : n < N
    · have hd1 : decide ((n : Int) < (N : Int)) = true := by simp; omega
      have hB : w.heap.size ≤ wr.heap.size := HK.out.size
      have hl1 : (Lib.byteCells (zerosTo s.data.toList n)).length + 1 ≤ maxLen := by rw [HZl.out]; unfold maxLen; omega
      have hl2 : ((Lib.byteCells (zerosTo s.data.toList n)).length + 1) * 1 ≤ 140737488355328 := by rw [HZl.out]; omega
      have HZs : Hd (zerosTo s.data.toList (n + 1) = zerosTo s.data.toList n ++ [0]) := ⟨by
        unfold zerosTo
        rw [List.append_assoc, show n + 1 - s.data.toList.length = (n - s.data.toList.length) + 1 by rw [HS.out.1]; omega, List.replicate_succ']⟩
      have hn3 : n + 1 ≤ max s.size N := by omega
      clear hn1
      go_wp2_with (at_builtin; refine wp_app1 rfl (Operand.tmp 18) (Operand.tmp 19) 74 rfl 5 Try.underlying74 HI.out.1 HI.out.2.1 HI.out.2.2.1 HI.out.2.2.2 rfl _ _ _ wr rfl HO.out rfl rfl hl1 hl2 hB ?_)
      intro v' w' hO' hK' hv'
      have HO' : Hd (Own w' w.heap.size 5 v' (Lib.byteCells (zerosTo s.data.toList (n + 1)))) := ⟨by rw [HZs.out, ← bc_snoc]; exact hO'⟩
      have hvs := own_slice HO'.out (by rw [byteCells_len, HZs.out, List.length_append, ← byteCells_len, HZl.out])
      obtain ⟨p', c', hvv⟩ := hvs
      subst hvv
      have HK' : Hd (Keeps (fun _ => False) w w') := ⟨keeps_own HK.out hK' HO.out⟩
      clear hO' hK' hv'
      go_wp2
      go_roundw
      case rel => exact ⟨n + 1, hn3, by omega, ⟨_, _, rfl⟩, HO', HK'⟩
      case measure => simp [vlen]; omega
    · have hd1 : decide ((n : Int) < (N : Int)) = false := by simp; omega
      have hnm : n = max s.data.toList.length (k + t.data.toList.length) := by rw [HS.out.1, HS.out.2, HN.out]; omega
      have hPT : Hd (zerosTo s.data.toList n = putTo s.data.toList k t.data.toList 0) := ⟨by rw [hnm]; exact putTo_zero _ _ _⟩
      have HNM := Hd.mk hnm
      rw [hPT.out] at HO
      have hkn : k + t.size ≤ n := by rw [hnm, HS.out.2]; omega
      have HKN := Hd.mk hkn
      have hn4 : n ≤ 16777216 := by have := HB.out.1; omega
      clear hn1 hn2 hnm hkn
      go_wp2
      go_loopw [8] (fun i wr => ∃ j : Nat, j ≤ t.size ∧ i = .int .i64 j ∧ Hd (Own wr w.heap.size 5 (.slice p n c) (Lib.byteCells (putTo s.data.toList k t.data.toList j))) ∧ Hd (Keeps (fun _ => False) w wr)) (fun i _ => t.size - (intOf i).toNat)
      case atStart => exact ⟨0, Nat.zero_le _, rfl, HO, HK⟩
      case round =>
        clear HO HK HZl
        obtain ⟨j, hj, rfl, HO, HK⟩ := hrel
        have HPl : Hd ((Lib.byteCells (putTo s.data.toList k t.data.toList j)).length = n) := ⟨by rw [byteCells_len, putTo_len]; exact HNM.out.symm⟩
        by_cases hlt : j < t.size
        · have hkj : k + j < n := by have := HKN.out; omega
          obtain ⟨g, cap, hsl⟩ := HO.out.slice (by rw [HPl.out]; omega)
          obtain ⟨rfl, hcap⟩ : p = some ⟨g, 0, none⟩ ∧ True := by injection hsl with e1 _ _; exact ⟨e1, trivial⟩
          have hput : (Lib.byteCells (putTo s.data.toList k t.data.toList j))[k + j]? = some (.int .u8 (((putTo s.data.toList k t.data.toList j).getD (k + j) 0).toNat : Int)) := byteCells_at (by rw [← byteCells_len, HPl.out]; exact hkj)
          obtain ⟨hc1, hc2⟩ := HO.out.at hput
          have hst := putTo_step s.data.toList k t.data.toList j hlt
          have hO' : Hd (Own (wr.setCell ⟨g, k + j, none⟩ (.int .u8 (t[j].toNat : Int))) w.heap.size 5 (.slice (some ⟨g, 0, none⟩) n c) (Lib.byteCells (putTo s.data.toList k t.data.toList (j + 1)))) := ⟨by
            rw [← hst, byteCells_set]
            exact HO.out.set (k + j) (by rw [HPl.out]; exact hkj) _⟩
          have hK' : Hd (Keeps (fun _ => False) w (wr.setCell ⟨g, k + j, none⟩ (.int .u8 (t[j].toNat : Int)))) := ⟨HK.out.setCell (p := ⟨g, k + j, none⟩) (.inl (HO.out.lt rfl).1) _⟩
          have r4 : IntKind.i64.wrap ((k : Int) + (j : Int)) = (k : Int) + (j : Int) := IntWalk.i64_in _ (by omega)
          have i1 : (0 : Int) ≤ (k : Int) + (j : Int) := by omega
          have i2 : (k : Int) + (j : Int) < (n : Int) := by omega
          have n1 : ((k : Int) + (j : Int)).toNat = k + j := by omega
          clear hst hput hsl hj HO HK
          go_wp2
          go_roundw
          case rel => exact ⟨j + 1, hlt, by go_num, hO', hK'⟩
          case measure => simp [intOf]; omega
        · obtain rfl : j = t.size := by omega
          have hbk := HO.out.back
          have hall : putTo s.data.toList k t.data.toList t.size = putL s.data.toList k t.data.toList := putTo_all _ _ _
          rw [hall] at hbk
          obtain ⟨r, hr⟩ : ∃ r : ByteArray, (⟨(putL s.data.toList k t.data.toList).toArray⟩ : ByteArray) = r := ⟨_, rfl⟩
          have HRr : Hd (strV (putL s.data.toList k t.data.toList) = .string r) := ⟨by rw [strV_def, hr]⟩
          rw [hr] at hbk
          clear hr hall hj HO
          go_wp2
          go_ret
          exact ⟨by rw [HRr.out]; rfl, HK.out⟩

end Go.Proofs.Ytmcdfhihfcfbaaa.W

namespace Go.Proofs.Ytmcdfhihfcfbaaa.W
open Go.RowKit
set_option linter.unusedVariables false

/-- the reference's row of pending writes, of the call's own -/
structure PRow (w : World) (B : Nat) (v : Value) (q : List Pn) : Prop where
  is : (q = [] ∧ ∃ p, v = .slice p 0 0) ∨ w.ownsRow B 109 3 v q.length (qCells q)
theorem PRow.slice {w : World} {B : Nat} {v : Value} {q : List Pn} (h : PRow w B v q) : ∃ p c, v = .slice p q.length c := by
  rcases h.is with ⟨rfl, p, rfl⟩ | hrow
  · exact ⟨p, 0, rfl⟩
  · rcases hrow.2 with ⟨rfl, h0⟩ | ⟨b, cap, cur, rfl, _⟩
    · exact ⟨none, 0, by rw [h0]⟩
    · exact ⟨_, cap, rfl⟩
theorem qflat_at : ∀ (q : List Pn) (j i : Nat) (h : j < q.length), i < 3 → (qCells q)[j * 3 + i]? = (pCells q[j])[i]?
  | [], j, i, h, _ => by simp at h
  | a :: q, 0, i, h, hi => by
    show (pCells a ++ qCells q)[0 * 3 + i]? = _
    rw [Nat.zero_mul, Nat.zero_add, List.getElem?_append_left (by show i < 3; exact hi)]; rfl
  | a :: q, j + 1, i, h, hi => by
    show (pCells a ++ qCells q)[(j + 1) * 3 + i]? = _
    rw [List.getElem?_append_right (by show 3 ≤ _; omega)]
    have : (j + 1) * 3 + i - (pCells a).length = j * 3 + i := by show (j + 1) * 3 + i - 3 = _; omega
    rw [this, qflat_at q j i (by simpa using h) hi]; rfl
theorem PRow.at {w : World} {B : Nat} {v : Value} {q : List Pn} (h : PRow w B v q) {p : Option Addr} {c n : Nat} (hv : v = .slice p n c) {j : Nat} (hj : j < q.length) :
    ∃ g, p = some ⟨g, 0, none⟩ ∧ w.cell? ⟨g, j * 3, none⟩ = some (.int .i64 q[j].f) ∧ w.cell? ⟨g, j * 3 + 1, none⟩ = some (.int .i64 q[j].at_) ∧ w.cell? ⟨g, j * 3 + 2, none⟩ = some (strV q[j].s) := by
  rcases h.is with ⟨rfl, _⟩ | hrow
  · simp at hj
  · have hr := hrow
    rcases hrow.2 with ⟨rfl, h0⟩ | ⟨b, cap, cur, rfl, hB, hb, r⟩
    · omega
    · injection hv with e1 _ _
      have ha : ∀ i u, i < 3 → (pCells q[j])[i]? = some u → w.cell? ⟨b, j * 3 + i, none⟩ = some u := fun i u hi hu => by
        have := hr.cells (g := b) rfl (j * 3 + i) u (by rw [qflat_at q j i hj hi]; exact hu)
        have ea : (⟨b, 0, none⟩ : Addr).add (j * 3 + i) = ⟨b, j * 3 + i, none⟩ := by unfold Addr.add; split <;> simp_all
        rwa [ea] at this
      exact ⟨b, e1.symm, ha 0 _ (by decide) rfl, ha 1 _ (by decide) rfl, ha 2 _ (by decide) rfl⟩

theorem PRow.keeps {S : Nat → Prop} {w w' : World} {B : Nat} {v : Value} {q : List Pn} (h : PRow w B v q) (k : Keeps S w w') (hs : ∀ g cur fz, w.heap[g]? = some (.cells cur 109 fz) → ¬ S g) : PRow w' B v q := by
  refine ⟨?_⟩
  rcases h.is with h0 | hrow
  · exact .inl h0
  · refine .inr ⟨hrow.1, ?_⟩
    rcases hrow.2 with h1 | ⟨b, cap, cur, e, hB, hg, r⟩
    · exact .inl h1
    · refine .inr ⟨b, cap, cur, e, hB, ?_, r⟩
      have hlt : b < w.heap.size := by
        rcases Nat.lt_or_ge b w.heap.size with h' | h'
        · exact h'
        · rw [Array.getElem?_eq_none h'] at hg; cases hg
      rw [k.block b hlt (hs b cur _ hg), hg]

/-- blocks of others, which the reference's disk never writes -/
class Others where
  X : Nat → Prop
section
variable [Others]

/-- the row of the durable contents: none of the others' blocks -/
structure LRow (w : World) (B : Nat) (v : Value) (xs : List Value) : Prop where
  o : Own w B 9 v xs
  x : ∀ g, v.ownBlock = some g → ¬ Others.X g
  lt : ∀ g, Others.X g → g < w.heap.size
theorem LRow.keeps {S : Nat → Prop} {w w' : World} {B : Nat} {v : Value} {xs : List Value} (h : LRow w B v xs) (k : Keeps S w w') (hs : ∀ g, v.ownBlock = some g → ¬ S g) : LRow w' B v xs :=
  ⟨h.o.keeps k hs, h.x, fun g hg => Nat.lt_of_lt_of_le (h.lt g hg) k.size⟩

/-- the reference's disk at E, in the state σ (the files: by Rd) -/
structure RRep (w : World) (B E : Nat) (σ : St) : Prop where
  is : ∃ lv qv kv, Blk w E 88 [lv, qv, .int .i64 σ.lost, .bool σ.down, .int .i64 σ.armed, kv] ∧ LRow w B lv (σ.lasts.map strV) ∧ PRow w B qv σ.queue ∧ IRow w kv σ.keep
  ok : Ok σ
  rd : Rd σ
  ge : B ≤ E

/-- the blocks that an operation of the reference may write -/
def RS (w : World) (B : Nat) (g : Nat) : Prop := B ≤ g ∧ ∃ cur fz T, w.heap[g]? = some (.cells cur T fz) ∧ (T = 88 ∨ (T = 9 ∧ ¬ Others.X g) ∨ T = 109)
structure RK (B : Nat) (w w' : World) : Prop where
  k : Keeps (RS w B) w w'
theorem RK.of {B : Nat} {w w' : World} (h : Keeps (fun _ => False) w w') : RK B w w' := ⟨h.mono (fun _ _ h => h.elim)⟩
theorem RK.trans {B : Nat} {a b c : World} (h : RK B a b) (k : RK B b c) : RK B a c :=
  ⟨k.k.os.trans h.k.os, k.k.tape.trans h.k.tape, k.k.output.trans h.k.output, Nat.le_trans h.k.size k.k.size, fun i hi hn => by
    have hb := h.k.block i hi hn
    rw [k.k.block i (Nat.lt_of_lt_of_le hi h.k.size) (fun ⟨h1, cur, fz, T, h2, h3⟩ => hn ⟨h1, cur, fz, T, by rw [← hb]; exact h2, h3⟩)]
    exact hb⟩
theorem RK.set {B : Nat} {w : World} {E : Nat} {vs : List Value} {T : TypeId} (hb : Blk w E T vs) (hE : B ≤ E) (hT : T = 88 ∨ (T = 9 ∧ ¬ Others.X E) ∨ T = 109) (j : Nat) (v : Value) : RK B w (w.setCell ⟨E, j, none⟩ v) :=
  ⟨(Keeps.refl (RS w B) w).setCell (p := ⟨E, j, none⟩) (.inr ⟨hE, _, _, _, hb.is, hT⟩) v⟩

theorem RRep.next {w w' : World} {B E : Nat} {σ : St} (h : RRep w B E σ) (k : Keeps (fun _ => False) w w') : RRep w' B E σ := by
  obtain ⟨lv, qv, kv, hb, hl, hq, hk⟩ := h.is
  refine ⟨⟨lv, qv, kv, k.blk hb (fun h => h), hl.keeps k (fun _ _ h => h), ⟨?_⟩, hk.keeps k (fun _ _ _ _ h => h)⟩, h.ok, h.rd, h.ge⟩
  rcases hq.is with h0 | hrow
  · exact .inl h0
  · refine .inr ⟨hrow.1, ?_⟩
    rcases hrow.2 with h1 | ⟨b, cap, cur, e, hB, hg, r⟩
    · exact .inl h1
    · refine .inr ⟨b, cap, cur, e, hB, ?_, r⟩
      have hlt : b < w.heap.size := by
        rcases Nat.lt_or_ge b w.heap.size with h' | h'
        · exact h'
        · rw [Array.getElem?_eq_none h'] at hg; cases hg
      rw [k.block b hlt (fun h => h), hg]
theorem RRep.alloc {w : World} {B E : Nat} {σ : St} (h : RRep w B E σ) (o : Obj) : RRep (w.alloc o) B E σ := h.next ((Keeps.refl (fun _ => False) w).alloc o)

/-- the cells -/
structure RCells (w : World) (B E : Nat) (σ : St) (lv qv kv : Value) : Prop where
  b : Blk w E 88 [lv, qv, .int .i64 σ.lost, .bool σ.down, .int .i64 σ.armed, kv]
  l : LRow w B lv (σ.lasts.map strV)
  q : PRow w B qv σ.queue
  k : IRow w kv σ.keep
theorem RRep.cells {w : World} {B E : Nat} {σ : St} (h : RRep w B E σ) : ∃ lv qv kv, RCells w B E σ lv qv kv := by
  obtain ⟨lv, qv, kv, hb, hl, hq, hk⟩ := h.is
  exact ⟨lv, qv, kv, hb, hl, hq, hk⟩

end
theorem own_keeps_type {w w' : World} {B E : Nat} {vs : List Value} {T e : TypeId} {v u : Value} {xs : List Value} {j : Nat} (hb : Blk w E T vs) (hne : T ≠ e) (h : Own w B e v xs) (hw : w' = w.setCell ⟨E, j, none⟩ u) : Own w' B e v xs := by
  subst hw
  refine h.keeps ((Keeps.refl (· = E) w).setCell (p := ⟨E, j, none⟩) (.inr rfl) u) (fun g hg e' => ?_)
  subst e'
  rcases h.is with ⟨rfl, _⟩ | ⟨g', cap, rfl, _, _, _, ⟨cur, fz, hg', _⟩, _⟩
  · cases hg
  · have : g' = g := by simpa [Value.ownBlock] using hg
    subst this
    rw [hb.is] at hg'
    injection hg' with hg'; injection hg' with _ h2 _
    exact hne h2
section
variable [Others]
theorem lrow_keeps_type {w w' : World} {B E : Nat} {vs : List Value} {T : TypeId} {v u : Value} {xs : List Value} {j : Nat} (hb : Blk w E T vs) (hne : T ≠ 9) (h : LRow w B v xs) (hw : w' = w.setCell ⟨E, j, none⟩ u) : LRow w' B v xs :=
  ⟨own_keeps_type hb hne h.o hw, h.x, fun g hg => by subst hw; exact Nat.lt_of_lt_of_le (h.lt g hg) (by simp)⟩

/-- one cell of the disk written -/
theorem RRep.put {w : World} {B E : Nat} {σ σ' : St} (h : RRep w B E σ) {j : Nat} {u : Value} (hl : σ'.lasts = σ.lasts) (hq : σ'.queue = σ.queue) (hk : σ'.keep = σ.keep) (ok : Ok σ') (rd : Rd σ')
    (hv : ∀ lv qv kv, [lv, qv, .int .i64 σ.lost, .bool σ.down, .int .i64 σ.armed, kv].set j u = [lv, qv, .int .i64 σ'.lost, .bool σ'.down, .int .i64 σ'.armed, kv]) : RRep (w.setCell ⟨E, j, none⟩ u) B E σ' ∧ RK B w (w.setCell ⟨E, j, none⟩ u) := by
  obtain ⟨lv, qv, kv, hb, hlo, hqr, hkr⟩ := h.is
  have k : Keeps (· = E) w (w.setCell ⟨E, j, none⟩ u) := (Keeps.refl (· = E) w).setCell (p := ⟨E, j, none⟩) (.inr rfl) u
  have hne : ∀ {g : Nat} {cur : Array Value} {T : TypeId} {fz : Nat × Nat}, w.heap[g]? = some (.cells cur T fz) → T ≠ 88 → ¬ g = E := fun hg hT e => by
    subst e
    rw [hb.is] at hg
    injection hg with hg; injection hg with _ h2 _
    exact hT h2.symm
  refine ⟨⟨⟨lv, qv, kv, (hb.set j u).cast (hv lv qv kv), by rw [hl]; exact lrow_keeps_type hb (by decide) hlo rfl, by rw [hq]; exact hqr.keeps k (fun g cur fz hg => hne hg (by decide)), by rw [hk]; exact hkr.keeps k (fun g cur fz hg => hne hg (by decide))⟩, ok, rd, h.ge⟩, RK.set hb h.ge (.inl rfl) j u⟩

theorem rdown_any (w : World) (B E : Nat) (σ : St) (h : RRep w B E σ) : Calls Try.prog 57 #[.pointer (some ⟨E, 0, none⟩)] w fun e w' => e = .returned (.bool σ.down) ∧ w = w' := by
  obtain ⟨lv, qv, kv, hc⟩ := h.cells
  have c3 := hc.b.at (j := 3) rfl
  have HC := Hd.mk hc
  clear h hc
  go_enter Try.func57, Try.ntmps57
  go_wp2
  go_ret
  exact ⟨rfl, rfl⟩

theorem rstart_any (w : World) (B E : Nat) (σ : St) (h : RRep w B E σ) : Calls Try.prog 27 #[.pointer (some ⟨E, 0, none⟩)] w fun e w' => e = .returned (.tuple #[]) ∧ RRep w' B E (startS σ) ∧ RK B w w' := by
  have HP := Hd.mk (h.put (σ' := startS σ) (j := 3) (u := .bool false) rfl rfl rfl h.ok.start ⟨h.rd.eq⟩ (fun _ _ _ => rfl))
  obtain ⟨lv, qv, kv, hc⟩ := h.cells
  have c3 := hc.b.at (j := 3) rfl
  have f3 := hc.b.free 3
  have HC := Hd.mk hc
  clear h hc
  go_enter Try.func27, Try.ntmps27
  go_wp2
  go_end0
  exact ⟨rfl, HP.out.1, HP.out.2⟩

theorem rlose_any (w : World) (B E : Nat) (σ : St) (n : Int) (h : RRep w B E σ) : Calls Try.prog 30 #[.pointer (some ⟨E, 0, none⟩), .int .i64 n] w fun e w' => e = .returned (.tuple #[]) ∧ RRep w' B E (loseS σ n) ∧ RK B w w' := by
  obtain ⟨lv, qv, kv, hc⟩ := h.cells
  have c2 := hc.b.at (j := 2) rfl
  have f2 := hc.b.free 2
  have HC := Hd.mk hc
  clear hc
  by_cases hn : 0 ≤ n
  · obtain ⟨m, rfl⟩ := Int.eq_ofNat_of_zero_le hn
    have HP := Hd.mk (h.put (σ' := loseS σ m) (j := 2) (u := .int .i64 (m : Int)) rfl rfl rfl (h.ok.lose m) ⟨h.rd.eq⟩ (fun _ _ _ => by rw [show (loseS σ m).lost = m from by show (max (m : Int) 0).toNat = m; omega]; rfl))
    clear h hn
    go_enter Try.func30, Try.ntmps30
    go_wp2
    go_end0
    exact ⟨rfl, HP.out.1, HP.out.2⟩
  · have HP := Hd.mk (h.put (σ' := loseS σ n) (j := 2) (u := .int .i64 0) rfl rfl rfl (h.ok.lose n) ⟨h.rd.eq⟩ (fun _ _ _ => by rw [show (loseS σ n).lost = 0 from by show (max n 0).toNat = 0; omega]; rfl))
    have hn' : ¬ 0 < n := by omega
    have hn2 : n < 0 := by omega
    clear h hn
    go_enter Try.func30, Try.ntmps30
    go_wp2
    go_end0
    exact ⟨rfl, HP.out.1, HP.out.2⟩

theorem rmay_any (w : World) (B E : Nat) (σ : St) (f : Int) (h : RRep w B E σ) : Calls Try.prog 67 #[.pointer (some ⟨E, 0, none⟩), .int .i64 f] w fun e w' => e = .returned (.int .i64 (mayS σ f : Nat)) ∧ w = w' := by
  obtain ⟨lv, qv, kv, hc⟩ := h.cells
  have c3 := hc.b.at (j := 3) rfl
  have HC := Hd.mk hc
  clear h hc
  rcases hd : σ.down with _ | _
  · rw [hd] at c3
    by_cases f0 : f < 0
    · have e : Hd (mayS σ f = 1) := ⟨by unfold mayS; rw [hd, show isF f = false by unfold isF; exact decide_eq_false (by omega)]; rfl⟩
      rw [e.out]
      clear hd
      go_enter Try.func67, Try.ntmps67
      go_wp2
      go_ret
      exact ⟨rfl, rfl⟩
    · by_cases f7 : 7 < f
      · have e : Hd (mayS σ f = 1) := ⟨by unfold mayS; rw [hd, show isF f = false by unfold isF; exact decide_eq_false (by omega)]; rfl⟩
        rw [e.out]
        clear hd
        go_enter Try.func67, Try.ntmps67
        go_wp2
        go_ret
        exact ⟨rfl, rfl⟩
      · have e : Hd (mayS σ f = 0) := ⟨by unfold mayS; rw [hd, show isF f = true by unfold isF; exact decide_eq_true (by omega)]; rfl⟩
        rw [e.out]
        clear hd
        go_enter Try.func67, Try.ntmps67
        go_wp2
        go_ret
        exact ⟨rfl, rfl⟩
  · rw [hd] at c3
    have e : Hd (mayS σ f = 10) := ⟨by unfold mayS; rw [hd]; rfl⟩
    rw [e.out]
    clear hd
    go_enter Try.func67, Try.ntmps67
    go_wp2
    go_ret
    exact ⟨rfl, rfl⟩

end
theorem rdL_take (f : Nat) (q : List Pn) (k : Nat) (h : k < q.length) (s : List UInt8) : rdL f (q.take (k + 1)) s = if q[k].f = f then putL (rdL f (q.take k) s) q[k].at_ q[k].s else rdL f (q.take k) s := by
  rw [List.take_succ_eq_append_getElem h, rdL_append]; rfl
theorem rdL_le {f b : Nat} : ∀ (q : List Pn) (s : List UInt8), s.length ≤ b → (∀ p ∈ q, p.at_ + p.s.length ≤ b) → (rdL f q s).length ≤ b
  | [], s, h, _ => h
  | p :: q, s, h, hq => by
    rw [rdL]
    refine rdL_le q _ ?_ (fun p hp => hq p (by simp [hp]))
    split
    · rw [putL_len]; have := hq p (by simp); omega
    · exact h
end Go.Proofs.Ytmcdfhihfcfbaaa.W

namespace Go.Proofs.Ytmcdfhihfcfbaaa.W
open Go.RowKit
set_option linter.unusedVariables false
section
variable [Others]

end
theorem bytesOf (l : List UInt8) : ∃ s : ByteArray, l = s.data.toList := ⟨⟨l.toArray⟩, rfl⟩
theorem last_cell {w : World} {B : Nat} {lv : Value} {σ : St} (h : Own w B 9 lv (σ.lasts.map strV)) (ok : Ok σ) {f : Nat} (hf : f < 8) : ∃ g c, lv = .slice (some ⟨g, 0, none⟩) 8 c ∧ w.cell? ⟨g, f, none⟩ = some (strV (σ.lasts.getD f [])) ∧ w.frozen? ⟨g, f, none⟩ = false := by
  obtain ⟨g, c, e⟩ := h.slice (by rw [List.length_map, ok.l8]; decide)
  rw [List.length_map, ok.l8] at e
  subst e
  obtain ⟨h1, h2⟩ := h.at (j := f) (u := strV (σ.lasts.getD f [])) (by rw [List.getElem?_map, List.getElem?_eq_getElem (by rw [ok.l8]; exact hf), List.getD_eq_getElem?_getD, List.getElem?_eq_getElem (by rw [ok.l8]; exact hf)]; rfl)
  exact ⟨g, c, rfl, h1, h2⟩
section
variable [Others]
set_option maxHeartbeats 4000000 in
set_option maxRecDepth 100000 in
theorem rread_file (w : World) (B E : Nat) (σ : St) (f : Nat) (hf : f < 8) (hlen : σ.queue.length ≤ 1000000000) (h : RRep w B E σ) : Calls Try.prog 68 #[.pointer (some ⟨E, 0, none⟩), .int .i64 f] w fun e w' => e = .returned (strV (σ.files.getD f [])) ∧ Keeps (fun _ => False) w w' := by
  have HR := Hd.mk h
  have hok := h.ok
  have hres := h.rd.eq f hf
  obtain ⟨lv, qv, kv, hc⟩ := h.cells
  obtain ⟨gl, cl, rfl, hl1, hl2⟩ := last_cell hc.l.o h.ok hf
  obtain ⟨pq, cq, rfl⟩ := hc.q.slice
  have b0 := hc.b.at (j := 0) rfl
  have b1 := hc.b.at (j := 1) rfl
  obtain ⟨s0, hs0⟩ := bytesOf (σ.lasts.getD f [])
  rw [hs0] at hl1
  rw [strV_of] at hl1
  obtain ⟨N, hN⟩ : ∃ N, σ.queue.length = N := ⟨_, rfl⟩
  have HC := Hd.mk hc
  rw [hN] at b1 hlen
  have HN := Hd.mk hN
  have HOK := Hd.mk hok
  have HL0 := Hd.mk hs0
  have HRes := Hd.mk hres
  have f0 : (0 : Int) ≤ (f : Int) := by omega
  have f8 : (f : Int) < 8 := by omega
  have HP : Hd (PRow w B (.slice pq N cq) σ.queue) := ⟨by have := hc.q; rwa [hN] at this⟩
  have HB := Hd.mk (And.intro b0 b1)
  clear h hc hN hs0 hok hres
  go_enter Try.func68, Try.ntmps68
  go_wp2
  go_loopw [5, 6] (fun v i wr => ∃ (k : Nat) (x : ByteArray), k ≤ N ∧ i = .int .i64 k ∧ v = .string x ∧ Hd (x.data.toList = rdL f (σ.queue.take k) (σ.lasts.getD f [])) ∧ Hd (Keeps (fun _ => False) w wr)) (fun _ i _ => N - (intOf i).toNat)
  case atStart => exact ⟨0, s0, Nat.zero_le _, rfl, rfl, ⟨HL0.out.symm⟩, ⟨Keeps.refl _ _⟩⟩
  case round =>
    obtain ⟨k, x, hk, rfl, rfl, HX, HK⟩ := hrel
    clear b0 b1 hl1 hl2
    have hbE := HK.out.blk HC.out.b (fun h => h)
    have b1 : wr.cell? ⟨E, 1, none⟩ = some (.slice pq N cq) := by have := hbE.at (j := 1) rfl; rwa [HN.out] at this
    have hq' := HP.out.keeps HK.out (fun _ _ _ _ h => h)
    by_cases hlt : k < N
    · have hd1 : decide ((k : Int) < (N : Int)) = true := by simp; omega
      have hkl : k < σ.queue.length := HN.out ▸ hlt
      obtain ⟨g, rfl, c0, c1, c2⟩ := hq'.at rfl hkl
      have hpo := HOK.out.q _ (List.getElem_mem hkl)
      have htk := rdL_take f σ.queue k hkl (σ.lasts.getD f [])
      have hxl : x.size ≤ 16777216 := by
        show x.data.toList.length ≤ _
        rw [HX.out]
        exact rdL_le _ _ (getD_le HOK.out.ll f) (fun p hp => (HOK.out.q p (List.mem_of_mem_take hp)).2.1)
      obtain ⟨p, hp⟩ : ∃ p, σ.queue[k] = p := ⟨_, rfl⟩
      rw [hp] at c0 c1 c2 hpo htk
      obtain ⟨ps, hps⟩ := bytesOf p.s
      rw [hps, strV_of] at c2
      have HPut := fun w => Hd.mk (rput_any x p.at_ ps w hxl (by show p.at_ + ps.data.toList.length ≤ _; rw [← hps]; exact hpo.2.1))
      rw [hps] at htk
      obtain ⟨y, hy⟩ := bytesOf (putL x.data.toList p.at_ ps.data.toList)
      rw [hy, strV_of] at HPut
      have HT := Hd.mk htk
      have HY := Hd.mk hy
      clear hpo htk hps hp hq' hy hxl
      by_cases he : p.f = f
      · have e1 : ((p.f : Int) == (f : Int)) = true := by simp [he]
        have HX2 : Hd (y.data.toList = rdL f (σ.queue.take (k + 1)) (σ.lasts.getD f [])) := ⟨by rw [HT.out, if_pos he, ← HX.out]; exact HY.out.symm⟩
        clear he
        go_wp2_with fail
        refine wp_region_lin default (fun w' => w'.cell? ⟨E, 1, none⟩ = some (.slice (some ⟨g, 0, none⟩) N cq) ∧ w'.cell? ⟨g, k * 3 + 1, none⟩ = some (.int .i64 p.at_) ∧ w'.cell? ⟨g, k * 3 + 2, none⟩ = some (.string ps)) [(0, true), (1, true), (2, true), (3, true), (4, true), (5, true), (6, true), (7, true), (8, true), (9, true), (10, true), (11, true), (12, true), (13, true), (14, true), (15, true), (16, true), (17, false), (18, true)] (by kernel_rfl) (by kernel_rfl) rfl (by kernel_rfl) (by kernel_rfl) ⟨b1, c1, c2⟩ ?_
        simp only [pick, List.getD_cons_zero, List.getD_cons_succ]
        repeat
          refine lin_free (v := ?_) (by rfl) ?_ ?_
          rotate_left
          · intro w' hSw
            obtain ⟨d0, d1, d2⟩ := hSw
            go_simp
            first | done | with_reducible rfl
          simp only [Act.put, List.setIfInBounds_toArray, List.set_cons_zero, List.set_cons_succ]
        refine lin_bound (fun K hK => ?_)
        go_simp
        refine (HPut _).out.mono ?_
        rintro e w5 ⟨rfl, k5⟩
        dsimp only
        have HK5 : Hd (Keeps (fun _ => False) wr w5) := ⟨(Keeps.refl _ wr).drew.trans k5⟩
        have hcell : ∀ {a u}, wr.cell? a = some u → w5.cell? a = some u := fun {a u} h => by
          rw [World.cell?_of_block (HK5.out.block a.block (lt_of_cell h) (fun h => h))]; exact h
        refine hK.out _ _ ⟨hcell b1, hcell c1, hcell c2⟩ ?_
        clear hK K k5
        refine lin_free (v := ?_) (by rfl) ?_ ?_
        rotate_left
        · intro w' hSw
          go_simp
          first | done | with_reducible rfl
        simp only [Act.put, List.setIfInBounds_toArray, List.set_cons_zero, List.set_cons_succ]
        refine NoPanic.normal ?_
        have HK6 : Hd (Keeps (fun _ => False) w w5) := ⟨HK.out.trans HK5.out⟩
        clear hcell
        go_wp2
        go_roundw
        case rel => exact ⟨k + 1, y, hlt, by go_num, rfl, HX2, HK6⟩
        case measure => simp [intOf]; omega
      · have e1 : ((p.f : Int) == (f : Int)) = false := by simp; omega
        have HX2 : Hd (x.data.toList = rdL f (σ.queue.take (k + 1)) (σ.lasts.getD f [])) := ⟨by rw [HT.out, if_neg he]; exact HX.out⟩
        clear he
        go_wp2
        go_roundw
        case rel => exact ⟨k + 1, x, hlt, by go_num, rfl, HX2, HK⟩
        case measure => simp [intOf]; omega
    · have hd1 : decide ((k : Int) < (N : Int)) = false := by simp; omega
      obtain rfl : k = N := by omega
      have HRet : Hd (strV (σ.files.getD f []) = .string x) := ⟨by
        rw [HRes.out]; unfold rdS
        have : σ.queue.take k = σ.queue := by rw [← HN.out]; exact List.take_length
        rw [← strV_of, HX.out, this]⟩
      clear hk hlt
      go_wp2
      go_ret
      exact ⟨by rw [HRet.out]; rfl, HK.out⟩

theorem rread_any (w : World) (B E : Nat) (σ : St) (f : Int) (hlen : σ.queue.length ≤ 1000000000) (h : RRep w B E σ) : Calls Try.prog 33 #[.pointer (some ⟨E, 0, none⟩), .int .i64 f] w fun e w' => e = .returned (.tuple #[strV (readL σ f), .int .i64 (mayS σ f : Nat)]) ∧ Keeps (fun _ => False) w w' := by
  have HM := Hd.mk (rmay_any w B E σ f h)
  by_cases hm : mayS σ f = 0
  · obtain ⟨_, m0, m8⟩ := may_zero hm
    obtain ⟨F, rfl⟩ := Int.eq_ofNat_of_zero_le m0
    have HF := Hd.mk (rread_file w B E σ F (by omega) hlen h)
    have e : Hd (readL σ (F : Int) = σ.files.getD F []) := ⟨by unfold readL; rw [if_pos hm]; rfl⟩
    rw [e.out, hm]
    rw [hm] at HM
    obtain ⟨x, hx⟩ := bytesOf (σ.files.getD F [])
    rw [hx, strV_of] at HF ⊢
    clear h hm m0 m8 hx e
    go_enter Try.func33, Try.ntmps33
    go_wp2_with fail
    refine HM.out.mono ?_; rintro e w1 ⟨rfl, rfl⟩
    go_wp2_with fail
    refine HF.out.mono ?_; rintro e w1 ⟨rfl, k1⟩
    have K1 := Hd.mk k1; clear k1
    go_wp2
    go_ret2
    exact ⟨rfl, K1.out⟩
  · have e : Hd (readL σ f = []) := ⟨by unfold readL; rw [if_neg hm]⟩
    rw [e.out]
    obtain ⟨m, hmm⟩ : ∃ m, mayS σ f = m := ⟨_, rfl⟩
    rw [hmm] at HM hm ⊢
    have m1 : ((m : Int) != 0) = true := by simp; omega
    clear h hmm hm e
    go_enter Try.func33, Try.ntmps33
    go_wp2_with fail
    refine HM.out.mono ?_; rintro e w1 ⟨rfl, rfl⟩
    go_wp2
    go_ret2
    exact ⟨rfl, Keeps.refl _ _⟩

end
end Go.Proofs.Ytmcdfhihfcfbaaa.W

namespace Go.Proofs.Ytmcdfhihfcfbaaa.W
open Go.RowKit
set_option linter.unusedVariables false
section
variable [Others]

end
theorem infoPiece : (Try.prog.info? 109).map (fun i => (i.zero, i.size, i.bytes)) = some (some (.agg #[.int .i64 0, .int .i64 0, .string ⟨#[]⟩]), 3, 32) := by kernel_rfl
/-- one piece appended -/
theorem run_piece (W : World) (B : Nat) (v : Value) (q : List Pn) (p : Pn) (H : Nat) (hB : B ≤ W.heap.size) (hq : PRow W B v q) (hlen : q.length ≤ 1000000000) (hH : ∀ j u, (pCells p)[j]? = some u → W.cell? ⟨H, j, none⟩ = some u) :
    ∃ v' w', (Builtin.append_ #[86, 86] 86 #[v, .slice (some ⟨H, 0, none⟩) 1 1]).run Try.prog W = .ok v' w' ∧ PRow w' B v' (q ++ [p]) ∧ Keeps (fun g => B ≤ g ∧ ∃ cur fz, W.heap[g]? = some (.cells cur 109 fz)) W w' := by
  obtain ⟨i0, hi, hz0, hz1, hz2⟩ := info_parts infoPiece
  have hcs : qCells (q ++ [p]) = qCells q ++ pCells p := by rw [qCells_append]; simp [qCells]
  have h1 : ∀ u ∈ pCells p, u.oneCell' = true := fun u hu => by
    simp only [pCells, List.mem_cons, List.not_mem_nil, or_false] at hu
    rcases hu with rfl | rfl | rfl <;> rfl
  have go : W.ownsRow B 109 3 v q.length (qCells q) → ∃ v' w', (Builtin.append_ #[86, 86] 86 #[v, .slice (some ⟨H, 0, none⟩) 1 1]).run Try.prog W = .ok v' w' ∧ PRow w' B v' (q ++ [p]) ∧ Keeps (fun g => B ≤ g ∧ ∃ cur fz, W.heap[g]? = some (.cells cur 109 fz)) W w' := by
    intro hrow
    obtain ⟨v', w', hr, h2, h3, _, h5⟩ := run_append_own_at (P := Try.prog) W B 86 86 109 i0 _ 3 32 Try.underlying86 hi hz0 hz1 hz2 rfl (by decide) v q.length (qCells q) hrow ⟨H, 0, none⟩ 1 1 (pCells p) rfl (fun j u hj => by rw [add0]; exact hH j u hj) h1 (by unfold maxLen; omega) (by omega) hB
    refine ⟨v', w', hr, ⟨.inr (by rw [List.length_append, hcs]; exact h2)⟩, ⟨h3.os, h3.tape, h3.output, h3.size, fun k hk hn => h3.block k hk (fun c => hn ?_)⟩⟩
    rcases hrow.2 with ⟨rfl, _⟩ | ⟨b, cap, cur, rfl, hBb, hg, _⟩
    · cases c
    · have : k = b := by simpa [Value.ownBlock] using c
      subst this
      exact ⟨hBb, cur, _, hg⟩
  rcases hq.is with ⟨rfl, a, rfl⟩ | hrow
  · rcases a with _ | a
    · exact go ⟨by simp [qCells], .inl ⟨rfl, rfl⟩⟩
    · have hr := run_append_grow (P := Try.prog) W 86 86 109 i0 _ Try.underlying86 hi hz0 a 0 0 [] (by simp) (fun j u hj => by simp at hj) ⟨H, 0, none⟩ 1 1 (pCells p) (by rw [hz1]; rfl) (fun j u hj => by rw [add0]; exact hH j u hj) (by omega) (by omega) (growslice_fits (by omega) (by rw [hz2]; omega))
      refine ⟨_, _, hr, ⟨.inr ⟨by simp [qCells, pCells], .inr ⟨W.heap.size, _, _, rfl, hB, heap_alloc_new W.drew _, grownCap_ge W _ 0 109, grownCap_le_maxLen W _ 0 109 (by unfold maxLen; omega), ?_, ?_⟩⟩⟩, (((Keeps.refl _ W).drew).alloc _)⟩
      · have hge := grownCap_ge W (0 + 1) 0 109
        simp only [Array.size_append, List.size_toArray, size_zeroCells]
        show 0 + 3 + (grownCap W (0 + 1) 0 109 - (0 + 1)) * 3 = grownCap W (0 + 1) 0 109 * 3
        omega
      · simp [qCells, pCells]
  · exact go hrow
theorem PRow.base {w : World} {B B' : Nat} {v : Value} {q : List Pn} (h : PRow w B v q) (hB : B' ≤ B) : PRow w B' v q := by
  refine ⟨?_⟩
  rcases h.is with h0 | hrow
  · exact .inl h0
  · refine .inr ⟨hrow.1, ?_⟩
    rcases hrow.2 with h1 | ⟨b, cap, cur, e, hb, r⟩
    · exact .inl h1
    · exact .inr ⟨b, cap, cur, e, Nat.le_trans hB hb, r⟩
section
variable [Others]
def otherQ (q : List Pn) (f : Nat) : List Pn := q.filter fun p => !decide (p.f = f)
end
theorem otherQ_take {q : List Pn} {k : Nat} (h : k < q.length) (f : Nat) : otherQ (q.take (k + 1)) f = if q[k].f = f then otherQ (q.take k) f else otherQ (q.take k) f ++ [q[k]] := by
  unfold otherQ
  rw [List.take_succ_eq_append_getElem h, List.filter_append]
  split
  · rename_i e; simp [e]
  · rename_i e; simp [e]
section
variable [Others]
set_option maxHeartbeats 4000000 in
set_option maxRecDepth 100000 in
theorem rwithout_any (w : World) (B E : Nat) (σ : St) (f : Nat) (hlen : σ.queue.length ≤ 1000000000) {lv qv kv : Value} (hc : RCells w B E σ lv qv kv) : Calls Try.prog 79 #[.pointer (some ⟨E, 0, none⟩), .int .i64 f] w fun e w' => ∃ v', e = .returned v' ∧ PRow w' w.heap.size v' (otherQ σ.queue f) ∧ Keeps (fun _ => False) w w' := by
  obtain ⟨pq, cq, rfl⟩ := hc.q.slice
  have b1 := hc.b.at (j := 1) rfl
  obtain ⟨N, hN⟩ : ∃ N, σ.queue.length = N := ⟨_, rfl⟩
  have HC := Hd.mk hc
  rw [hN] at b1 hlen
  have HN := Hd.mk hN
  have HP : Hd (PRow w B (.slice pq N cq) σ.queue) := ⟨by have := hc.q; rwa [hN] at this⟩
  clear hc hN
  go_enter Try.func79, Try.ntmps79
  go_wp2
  go_loopw [5, 6] (fun o i wr => ∃ k : Nat, k ≤ N ∧ i = .int .i64 k ∧ Hd (PRow wr w.heap.size o (otherQ (σ.queue.take k) f)) ∧ Hd (Keeps (fun _ => False) w wr)) (fun _ i _ => N - (intOf i).toNat)
  case atStart => exact ⟨0, Nat.zero_le _, rfl, ⟨⟨.inl ⟨rfl, _, rfl⟩⟩⟩, ⟨Keeps.refl _ _⟩⟩
  case round =>
    obtain ⟨k, hk, rfl, HO, HK⟩ := hrel
    clear b1
    have hbE := HK.out.blk HC.out.b (fun h => h)
    have b1 : wr.cell? ⟨E, 1, none⟩ = some (.slice pq N cq) := by have := hbE.at (j := 1) rfl; rwa [HN.out] at this
    have hq' := HP.out.keeps HK.out (fun _ _ _ _ h => h)
    by_cases hlt : k < N
    · have hd1 : decide ((k : Int) < (N : Int)) = true := by simp; omega
      have hkl : k < σ.queue.length := HN.out ▸ hlt
      obtain ⟨g, rfl, c0, c1, c2⟩ := hq'.at rfl hkl
      have hot := otherQ_take hkl f
      obtain ⟨p, hp⟩ : ∃ p, σ.queue[k] = p := ⟨_, rfl⟩
      rw [hp] at c0 c1 c2 hot
      obtain ⟨ps, hps⟩ := bytesOf p.s
      rw [hps, strV_of] at c2
      have HOt := Hd.mk hot
      have hpc : pCells p = [.int .i64 p.f, .int .i64 p.at_, .string ps] := by unfold pCells; rw [hps, strV_of]
      clear hot hps hp hq'
      by_cases he : p.f = f
      · have e1 : ((p.f : Int) != (f : Int)) = false := by simp [he]
        have HE : Hd (PRow wr w.heap.size u5 (otherQ (σ.queue.take (k + 1)) f)) := ⟨by rw [HOt.out, if_pos he]; exact HO.out⟩
        clear he hpc
        go_wp2
        go_roundw
        case rel => exact ⟨k + 1, hlt, by go_num, HE, HK⟩
        case measure => simp [intOf]; omega
      · have e1 : ((p.f : Int) != (f : Int)) = true := by simp; omega
        have hbk := Blk.new wr 109 [.int .i64 p.f, .int .i64 p.at_, .string ps]
        have HKW : Hd (Keeps (fun _ => False) wr (wr.alloc (.cells #[.int .i64 p.f, .int .i64 p.at_, .string ps] 109))) := ⟨(Keeps.refl _ _).alloc _⟩
        obtain ⟨v', w', hr, h2, h3⟩ := run_piece (wr.alloc (.cells #[.int .i64 p.f, .int .i64 p.at_, .string ps] 109)) w.heap.size u5 (otherQ (σ.queue.take k) f) p wr.heap.size (Nat.le_trans HK.out.size HKW.out.size) (HO.out.keeps HKW.out (fun _ _ _ _ h => h)) (Nat.le_trans (List.length_filter_le _ _) (by rw [List.length_take]; omega)) (fun j u hj => hbk.at (by rw [← hpc]; exact hj))
        have HE : Hd (PRow w' w.heap.size v' (otherQ (σ.queue.take (k + 1)) f)) := ⟨by rw [HOt.out, if_neg he]; exact h2⟩
        have HR := Hd.mk hr
        have HK2 : Hd (Keeps (fun _ => False) w w') := ⟨by
          have h0 := HK.out.trans HKW.out
          exact ⟨h3.os.trans h0.os, h3.tape.trans h0.tape, h3.output.trans h0.output, Nat.le_trans h0.size h3.size, fun j hj hn => by
            rw [h3.block j (Nat.lt_of_lt_of_le hj h0.size) (fun e => by have := e.1; omega)]
            exact h0.block j hj hn⟩⟩
        clear he hpc hbk hr h2 h3
        go_wp2_with (at_builtin; refine wp_append_run rfl (Operand.tmp 26) (Operand.tmp 34) 86 rfl _ _ _ rfl rfl HR.out ?_)
        go_roundw
        case rel => exact ⟨k + 1, hlt, by go_num, HE, HK2⟩
        case measure => simp [intOf]; omega
    · have hd1 : decide ((k : Int) < (N : Int)) = false := by simp; omega
      obtain rfl : k = N := by omega
      have HE : Hd (PRow wr w.heap.size u5 (otherQ σ.queue f)) := ⟨by
        have : σ.queue.take k = σ.queue := by rw [← HN.out]; exact List.take_length
        rw [← this]; exact HO.out⟩
      clear hk hlt
      go_wp2
      go_ret
      exact ⟨_, rfl, HE.out, HK.out⟩

end
theorem aftL_step (f : Nat) : ∀ (q : List Pn) (ks : List Int) (k : Nat) (s : List UInt8) (h : k < q.length) (hk : k < ks.length), aftL f (q.take (k + 1)) ks s = if q[k].f = f then (if ks[k] = 1 then putL (aftL f (q.take k) ks s) q[k].at_ q[k].s else if ks[k] = 2 then putL (aftL f (q.take k) ks s) q[k].at_ (q[k].s.take (min q[k].s.length 16)) else aftL f (q.take k) ks s) else aftL f (q.take k) ks s
  | [], ks, k, s, h, _ => by simp at h
  | p :: q, [], k, s, _, hk => by simp at hk
  | p :: q, x :: ks, 0, s, _, _ => by
    cases q <;> cases ks <;> rfl
  | p :: q, x :: ks, k + 1, s, h, hk => by
    have := aftL_step f q ks k (if p.f = f then (if x = 1 then putL s p.at_ p.s else if x = 2 then putL s p.at_ (p.s.take (min p.s.length 16)) else s) else s) (by simpa using h) (by simpa using hk)
    simpa [aftL] using this
theorem aftL_out (f : Nat) : ∀ (q : List Pn) (ks : List Int) (k : Nat) (s : List UInt8), ks.length ≤ k → aftL f (q.take k) ks s = aftL f q ks s
  | [], ks, k, s, _ => by simp
  | p :: q, [], k, s, _ => by cases k <;> rfl
  | p :: q, x :: ks, 0, s, h => by simp at h
  | p :: q, x :: ks, k + 1, s, h => by
    rw [List.take_succ_cons, aftL, aftL]
    exact aftL_out f q ks k _ (by simpa using h)
theorem aftL_le {f b : Nat} : ∀ (q : List Pn) (ks : List Int) (s : List UInt8), s.length ≤ b → (∀ p ∈ q, p.at_ + p.s.length ≤ b) → (aftL f q ks s).length ≤ b
  | [], ks, s, h, _ => by cases ks <;> exact h
  | p :: q, [], s, h, _ => h
  | p :: q, k :: ks, s, h, hq => by
    have hp := hq p (by simp)
    rw [aftL]
    refine aftL_le q ks _ ?_ (fun p hp => hq p (by simp [hp]))
    split
    · split
      · rw [putL_len]; omega
      · split
        · rw [putL_len, List.length_take]; omega
        · exact h
    · exact h
section
variable [Others]
set_option maxHeartbeats 4000000 in
set_option maxRecDepth 100000 in
theorem rafter_any (w : World) (B E : Nat) (σ : St) (f : Nat) (v : Value) (ks : List Int) (hf : f < 8) (hlen : σ.queue.length ≤ 1000000000) (hkl : ks.length ≤ 9223372036854775807) (hv : IR (fun _ => False) w v ks) (h : RRep w B E σ) : Calls Try.prog 65 #[.pointer (some ⟨E, 0, none⟩), .int .i64 f, v] w fun e w' => e = .returned (strV (aftL f σ.queue ks (σ.lasts.getD f []))) ∧ Keeps (fun _ => False) w w' := by
  have hok := h.ok
  obtain ⟨pk, ck, rfl⟩ := hv.slice
  obtain ⟨lv, qv, kv, hc⟩ := h.cells
  obtain ⟨gl, cl, rfl, hl1, hl2⟩ := last_cell hc.l.o h.ok hf
  obtain ⟨pq, cq, rfl⟩ := hc.q.slice
  have b0 := hc.b.at (j := 0) rfl
  have b1 := hc.b.at (j := 1) rfl
  obtain ⟨s0, hs0⟩ := bytesOf (σ.lasts.getD f [])
  rw [hs0] at hl1
  rw [strV_of] at hl1
  obtain ⟨N, hN⟩ : ∃ N, σ.queue.length = N := ⟨_, rfl⟩
  obtain ⟨M, hM⟩ : ∃ M, ks.length = M := ⟨_, rfl⟩
  have HC := Hd.mk hc
  have HV := Hd.mk hv
  rw [hM] at HV hkl ⊢
  rw [hN] at b1 hlen
  have HN := Hd.mk hN
  have HM := Hd.mk hM
  have HOK := Hd.mk hok
  have HL0 := Hd.mk hs0
  have f0 : (0 : Int) ≤ (f : Int) := by omega
  have f8 : (f : Int) < 8 := by omega
  have HP : Hd (PRow w B (.slice pq N cq) σ.queue) := ⟨by have := hc.q; rwa [hN] at this⟩
  clear h hc hN hM hs0 hok hv
  go_enter Try.func65, Try.ntmps65
  go_wp2
  go_loopw [7, 8] (fun v i wr => ∃ (k : Nat) (x : ByteArray), k ≤ N ∧ k ≤ M ∧ i = .int .i64 k ∧ v = .string x ∧ Hd (x.data.toList = aftL f (σ.queue.take k) ks (σ.lasts.getD f [])) ∧ Hd (Keeps (fun _ => False) w wr)) (fun _ i _ => N - (intOf i).toNat)
  case atStart => exact ⟨0, s0, Nat.zero_le _, Nat.zero_le _, rfl, rfl, ⟨by rw [HL0.out]; cases ks <;> rfl⟩, ⟨Keeps.refl _ _⟩⟩
  case round =>
    obtain ⟨k, x, hk, hkm, rfl, rfl, HX, HK⟩ := hrel
    clear b0 b1 hl1 hl2
    have hbE := HK.out.blk HC.out.b (fun h => h)
    have b1 : wr.cell? ⟨E, 1, none⟩ = some (.slice pq N cq) := by have := hbE.at (j := 1) rfl; rwa [HN.out] at this
    have hq' := HP.out.keeps HK.out (fun _ _ _ _ h => h)
    have HRet : Hd (k = N ∨ k = M → strV (aftL f σ.queue ks (σ.lasts.getD f [])) = .string x) := ⟨fun h => by
      rcases h with h | h
      · have : σ.queue.take k = σ.queue := by rw [h, ← HN.out]; exact List.take_length
        rw [← strV_of, HX.out, this]
      · rw [← strV_of, HX.out, aftL_out f σ.queue ks k _ (by rw [HM.out]; omega)]⟩
    by_cases hlt : k < N
    · have hd1 : decide ((k : Int) < (N : Int)) = true := by simp; omega
      by_cases hlm : k < M
      · have hd2 : decide ((k : Int) < (M : Int)) = true := by simp; omega
        have hkl2 : k < σ.queue.length := HN.out ▸ hlt
        have hkm2 : k < ks.length := HM.out ▸ hlm
        obtain ⟨g, rfl, c0, c1, c2⟩ := hq'.at rfl hkl2
        have hpo := HOK.out.q _ (List.getElem_mem hkl2)
        have htk := aftL_step f σ.queue ks k (σ.lasts.getD f []) hkl2 hkm2
        have hxl : x.size ≤ 16777216 := by
          show x.data.toList.length ≤ _
          rw [HX.out]
          exact aftL_le _ _ _ (getD_le HOK.out.ll f) (fun p hp => (HOK.out.q p (List.mem_of_mem_take hp)).2.1)
        have hkc : ∃ gk ok, pk = some ⟨gk, ok, none⟩ ∧ wr.cell? ⟨gk, ok + k, none⟩ = some (.int .i64 ks[k]) := by
          rcases (HV.out.keeps HK.out).is with ⟨h0, _⟩ | ⟨g', o', cap', e, _, hc'⟩
          · rw [h0] at hkm2; simp at hkm2
          · injection e with e1 _ _
            exact ⟨g', o', e1, hc' k _ (List.getElem?_eq_getElem hkm2)⟩
        obtain ⟨gk, okk, rfl, ck1⟩ := hkc
        obtain ⟨y, hy⟩ : ∃ y, ks[k] = y := ⟨_, rfl⟩
        obtain ⟨p, hp⟩ : ∃ p, σ.queue[k] = p := ⟨_, rfl⟩
        rw [hy] at ck1 htk
        rw [hp] at c0 c1 c2 hpo htk
        obtain ⟨ps, hps⟩ := bytesOf p.s
        rw [hps, strV_of] at c2
        rw [hps, ← HX.out] at htk
        have HT := Hd.mk htk
        have hpsz : p.at_ + ps.size ≤ 16777216 := by show p.at_ + ps.data.toList.length ≤ _; rw [← hps]; exact hpo.2.1
        have HKb : Hd (Keeps (fun _ => False) w (wr.alloc (.cells #[.int .i64 p.f, .int .i64 p.at_, .string ps] 109))) := ⟨HK.out.alloc _⟩
        have ck2 : (wr.alloc (.cells #[.int .i64 p.f, .int .i64 p.at_, .string ps] 109)).cell? ⟨gk, okk + k, none⟩ = some (.int .i64 y) := by
          rw [World.cell?_alloc_some _ _ _ (by rw [ck1]; rfl)]; exact ck1
        clear hq' hpo htk hp hy hps
        by_cases he : p.f = f
        · have e1 : ((p.f : Int) != (f : Int)) = false := by simp [he]
          by_cases y1 : y = 1
          · have t1 : (y == 1) = true := by simp [y1]
            have t2 : (y == 2) = false := by simp [y1]
            have HPut := fun w => Hd.mk (rput_any x p.at_ ps w hxl hpsz)
            obtain ⟨r, hr⟩ := bytesOf (putL x.data.toList p.at_ ps.data.toList)
            rw [hr, strV_of] at HPut
            have HX2 : Hd (r.data.toList = aftL f (σ.queue.take (k + 1)) ks (σ.lasts.getD f [])) := ⟨by rw [HT.out, if_pos he, if_pos y1]; exact hr.symm⟩
            have HKP : Hd (∀ w5, Keeps (fun _ => False) (wr.alloc (.cells #[.int .i64 p.f, .int .i64 p.at_, .string ps] 109)) w5 → Keeps (fun _ => False) w w5 ∧ w5.cell? ⟨gk, okk + k, none⟩ = some (.int .i64 y)) := ⟨fun w5 k5 => by
              have h1 := HKb.out.trans k5
              refine ⟨h1, ?_⟩
              rw [World.cell?_of_block (((((Keeps.refl (fun _ => False) wr).alloc _).trans k5)).block gk (lt_of_cell ck1) (fun h => h))]; exact ck1⟩
            clear he y1 hr hxl hpsz
            go_wp2_with fail
            refine (HPut _).out.mono ?_
            rintro e w5 ⟨rfl, k5⟩
            obtain ⟨hk5, hc5⟩ := HKP.out w5 k5
            have HK5 := Hd.mk hk5
            clear k5 hk5
            go_wp2
            go_roundw
            case rel => exact ⟨k + 1, r, hlt, hlm, by go_num, rfl, HX2, HK5⟩
            case measure => simp [intOf]; omega
          · have t1 : (y == 1) = false := by simp [y1]
            by_cases y2 : y = 2
            · have t2 : (y == 2) = true := by simp [y2]
              have hcut : ∃ (m : Nat) (t3 : ByteArray), ((ps.size < 16 ∧ (ps.size : Int) < 16 ∧ m = ps.size) ∨ (¬ ps.size < 16 ∧ ((ps.size : Int) < 16) = False ∧ (16 : Int) ≤ (ps.size : Int) ∧ m = 16)) ∧ m ≤ ps.size ∧ (m : Int) ≤ (ps.size : Int) ∧ ps.extract 0 m = t3 ∧ t3.data.toList = ps.data.toList.take (min ps.data.toList.length 16) := by
                have hl : ps.data.toList.length = ps.size := rfl
                by_cases h16 : ps.size < 16
                · exact ⟨ps.size, _, .inl ⟨h16, by omega, rfl⟩, Nat.le_refl _, by omega, rfl, by rw [Lib.extract_data, List.drop_zero, Nat.sub_zero, hl, show min ps.size 16 = ps.size by omega]⟩
                · exact ⟨16, _, .inr ⟨h16, eq_false (by omega), by omega, rfl⟩, by omega, by omega, rfl, by rw [Lib.extract_data, List.drop_zero, Nat.sub_zero, hl, show min ps.size 16 = 16 by omega]⟩
              obtain ⟨m, t3, hmn, hm2, hm3, ht3, hts⟩ := hcut
              have htl : t3.data.toList.length ≤ ps.size := by rw [hts, List.length_take]; show min _ ps.size ≤ _; omega
              have HPut := fun w => Hd.mk (rput_any x p.at_ t3 w hxl (by show p.at_ + t3.data.toList.length ≤ _; omega))
              obtain ⟨r, hr⟩ := bytesOf (putL x.data.toList p.at_ t3.data.toList)
              rw [hr, strV_of] at HPut
              have HX2 : Hd (r.data.toList = aftL f (σ.queue.take (k + 1)) ks (σ.lasts.getD f [])) := ⟨by rw [HT.out, if_pos he, if_neg y1, if_pos y2, ← hr, hts]⟩
              have HBx := Hd.mk (Blk.new wr 109 [.int .i64 p.f, .int .i64 p.at_, .string ps])
              clear he y1 hr hxl hpsz hts htl
              rcases hmn with ⟨q1, q2, rfl⟩ | ⟨q1, q2, q3, rfl⟩
              all_goals
                go_wp2_with fail
                refine wp_region_lin default (fun w' => w'.cell? ⟨wr.heap.size, 1, none⟩ = some (.int .i64 p.at_) ∧ w'.cell? ⟨wr.heap.size, 2, none⟩ = some (.string ps)) [(0, true), (1, true), (2, true), (3, true), (4, true), (5, true), (6, true), (7, true), (8, true), (9, true), (10, false), (11, true)] (by kernel_rfl) (by kernel_rfl) rfl (by kernel_rfl) (by kernel_rfl) ⟨HBx.out.drew.at (j := 1) rfl, HBx.out.drew.at (j := 2) rfl⟩ ?_
                simp only [pick, List.getD_cons_zero, List.getD_cons_succ]
                repeat
                  refine lin_free (v := ?_) (by rfl) ?_ ?_
                  rotate_left
                  · intro w' hSw
                    obtain ⟨d1, d2⟩ := hSw
                    go_simp
                    first | done | with_reducible rfl
                  simp only [Act.put, List.setIfInBounds_toArray, List.set_cons_zero, List.set_cons_succ]
                refine lin_bound (fun K hK => ?_)
                go_simp
                refine (HPut _).out.mono ?_
                rintro e w5 ⟨rfl, k5⟩
                dsimp only
                have k5' := ((Keeps.refl (fun _ => False) (wr.alloc (.cells #[.int .i64 p.f, .int .i64 p.at_, .string ps] 109))).drew).trans k5
                have HBx5 := Hd.mk (k5'.blk HBx.out (fun h => h))
                have HK5 := Hd.mk (HKb.out.trans k5')
                refine hK.out _ _ ⟨HBx5.out.at (j := 1) rfl, HBx5.out.at (j := 2) rfl⟩ ?_
                clear hK K k5 k5' HBx5
                refine lin_free (v := ?_) (by rfl) ?_ ?_
                rotate_left
                · intro w' hSw
                  go_simp
                  first | done | with_reducible rfl
                simp only [Act.put, List.setIfInBounds_toArray, List.set_cons_zero, List.set_cons_succ]
                refine NoPanic.normal ?_
                go_wp2
                go_roundw
                case rel => exact ⟨k + 1, r, hlt, hlm, by go_num, rfl, HX2, HK5⟩
                case measure => simp [intOf]; omega
            · have t2 : (y == 2) = false := by simp [y2]
              have HX2 : Hd (x.data.toList = aftL f (σ.queue.take (k + 1)) ks (σ.lasts.getD f [])) := ⟨by rw [HT.out, if_pos he, if_neg y1, if_neg y2]⟩
              clear he y1 y2
              go_wp2
              go_roundw
              case rel => exact ⟨k + 1, x, hlt, hlm, by go_num, rfl, HX2, HKb⟩
              case measure => simp [intOf]; omega
        · have e1 : ((p.f : Int) != (f : Int)) = true := by simp; omega
          have HX2 : Hd (x.data.toList = aftL f (σ.queue.take (k + 1)) ks (σ.lasts.getD f [])) := ⟨by rw [HT.out, if_neg he]⟩
          clear he
          go_wp2
          go_roundw
          case rel => exact ⟨k + 1, x, hlt, hlm, by go_num, rfl, HX2, HKb⟩
          case measure => simp [intOf]; omega
      · have hd2 : decide ((k : Int) < (M : Int)) = false := by simp; omega
        have HR2 := Hd.mk (HRet.out (.inr (by omega)))
        clear hk
        go_wp2
        go_ret
        exact ⟨by rw [HR2.out]; rfl, HK.out⟩
    · have hd1 : decide ((k : Int) < (N : Int)) = false := by simp; omega
      have HR2 := Hd.mk (HRet.out (.inl (by omega)))
      clear hk
      go_wp2
      go_ret
      exact ⟨by rw [HR2.out]; rfl, HK.out⟩

end
end Go.Proofs.Ytmcdfhihfcfbaaa.W

namespace Go.Proofs.Ytmcdfhihfcfbaaa.W
open Go.RowKit
set_option linter.unusedVariables false
section
variable [Others]

structure RMem (w : World) (B E : Nat) (σ : St) : Prop where
  is : ∃ lv qv kv, RCells w B E σ lv qv kv
  ge : B ≤ E
theorem RRep.mem {w : World} {B E : Nat} {σ : St} (h : RRep w B E σ) : RMem w B E σ := ⟨h.cells, h.ge⟩
theorem RMem.rep {w : World} {B E : Nat} {σ : St} (h : RMem w B E σ) (ok : Ok σ) (rd : Rd σ) : RRep w B E σ := by
  obtain ⟨lv, qv, kv, hc⟩ := h.is
  exact ⟨⟨lv, qv, kv, hc.b, hc.l, hc.q, hc.k⟩, ok, rd, h.ge⟩

end
theorem blk_ne {w : World} {E : Nat} {T : TypeId} {vs : List Value} (hb : Blk w E T vs) {g : Nat} {cur : Array Value} {T' : TypeId} {fz : Nat × Nat} (hg : w.heap[g]? = some (.cells cur T' fz)) (hT : T' ≠ T) : ¬ g = E := fun e => by
  subst e
  rw [hb.is] at hg
  injection hg with hg; injection hg with _ h2 _
  exact hT h2.symm
section
variable [Others]
/-- cell j of the disk's own block written; what its row values become is told -/
theorem RCells.put {w : World} {B E : Nat} {σ σ' : St} {lv qv kv lv' qv' : Value} (hc : RCells w B E σ lv qv kv) {j : Nat} {u : Value}
    (hl : LRow w B lv' (σ'.lasts.map strV)) (hq : PRow w B qv' σ'.queue) (hk : σ'.keep = σ.keep)
    (hv : [lv, qv, .int .i64 σ.lost, .bool σ.down, .int .i64 σ.armed, kv].set j u = [lv', qv', .int .i64 σ'.lost, .bool σ'.down, .int .i64 σ'.armed, kv]) : RCells (w.setCell ⟨E, j, none⟩ u) B E σ' lv' qv' kv := by
  have k : Keeps (· = E) w (w.setCell ⟨E, j, none⟩ u) := (Keeps.refl (· = E) w).setCell (p := ⟨E, j, none⟩) (.inr rfl) u
  exact ⟨(hc.b.set j u).cast hv, lrow_keeps_type hc.b (by decide) hl rfl, hq.keeps k (fun g cur fz hg => blk_ne hc.b hg (by decide)), by rw [hk]; exact hc.k.keeps k (fun g cur fz hg => blk_ne hc.b hg (by decide))⟩

theorem RCells.keeps {S : Nat → Prop} {w w' : World} {B E : Nat} {σ : St} {lv qv kv : Value} (hc : RCells w B E σ lv qv kv) (k : Keeps S w w') (hE : ¬ S E) (hl : ∀ g, lv.ownBlock = some g → ¬ S g) (hq : ∀ g cur fz, w.heap[g]? = some (.cells cur 109 fz) → ¬ S g) (hk : ∀ g cur fz, w.heap[g]? = some (.cells cur 3 fz) → ¬ S g) : RCells w' B E σ lv qv kv :=
  ⟨k.blk hc.b hE, hc.l.keeps k hl, hc.q.keeps k hq, hc.k.keeps k hk⟩

/-- the queue's row grown in place or anew -/
theorem RCells.grow {w w' : World} {B E : Nat} {σ : St} {lv qv kv : Value} (hc : RCells w B E σ lv qv kv) (k : Keeps (fun g => B ≤ g ∧ ∃ cur fz, w.heap[g]? = some (.cells cur 109 fz)) w w') : Blk w' E 88 [lv, qv, .int .i64 σ.lost, .bool σ.down, .int .i64 σ.armed, kv] ∧ LRow w' B lv (σ.lasts.map strV) ∧ IRow w' kv σ.keep := by
  have hne : ∀ {g : Nat} {cur : Array Value} {T : TypeId} {fz : Nat × Nat}, w.heap[g]? = some (.cells cur T fz) → T ≠ 109 → ¬ (B ≤ g ∧ ∃ cur fz, w.heap[g]? = some (.cells cur 109 fz)) := fun hg hT ⟨_, cur', fz', h2⟩ => by
    rw [hg] at h2
    injection h2 with h2; injection h2 with _ h3 _
    exact hT h3
  refine ⟨k.blk hc.b (hne hc.b.is (by decide)), hc.l.keeps k (fun g hg => ?_), hc.k.keeps k (fun g cur fz hg => hne hg (by decide))⟩
  rcases hc.l.o.is with ⟨e, _⟩ | ⟨g', cap, e, _, _, _, ⟨cur, fz, hg', _⟩, _⟩
  · rw [e] at hg; cases hg
  · rw [e] at hg
    have : g' = g := by simpa [Value.ownBlock] using hg
    subst this
    exact hne hg' (by decide)

/-- while the pieces are laid -/
structure Laid (f k : Nat) (s : List UInt8) (i fr : Nat) (done : List Pn) : Prop where
  le : fr ≤ i
  il : i ≤ s.length
  room : i < s.length → (k + fr) % 32 + (i - fr) < 32
  last : i = s.length → fr = s.length
  all : ∃ n, s.length - fr ≤ n ∧ done ++ piecesF f n (k + fr) (s.drop fr) = pieces f k s

end
theorem Laid.start (f k : Nat) (s : List UInt8) : Laid f k s 0 0 [] :=
  ⟨Nat.le_refl _, Nat.zero_le _, fun _ => by omega, fun h => h, s.length, by omega, rfl⟩
theorem Laid.cut {f k : Nat} {s : List UInt8} {i fr : Nat} {done : List Pn} (h : Laid f k s i fr done) (hi : i < s.length) (hb : (k + i + 1) % 32 = 0 ∨ i = s.length - 1) :
    Laid f k s (i + 1) (i + 1) (done ++ [⟨f, k + fr, (s.drop fr).take (i + 1 - fr)⟩]) := by
  obtain ⟨n, hn, ha⟩ := h.all
  have hr := h.room hi
  have hle := h.le
  have hc : min (s.drop fr).length (32 - (k + fr) % 32) = i + 1 - fr := by
    rw [List.length_drop]
    rcases hb with hb | hb <;> omega
  rcases n with _ | n
  · omega
  · refine ⟨Nat.le_refl _, hi, fun _ => by omega, fun h => h, n, by omega, ?_⟩
    rw [piecesF, if_neg (by intro e; have := congrArg List.length e; rw [List.length_drop] at this; simp at this; omega), hc] at ha
    rw [← ha, List.append_assoc, List.singleton_append, List.drop_drop, show k + fr + (i + 1 - fr) = k + (i + 1) by omega, show fr + (i + 1 - fr) = i + 1 by omega]
theorem Laid.on {f k : Nat} {s : List UInt8} {i fr : Nat} {done : List Pn} (h : Laid f k s i fr done) (hi : i < s.length) (hb : ¬ ((k + i + 1) % 32 = 0 ∨ i = s.length - 1)) : Laid f k s (i + 1) fr done := by
  have hr := h.room hi
  have hle := h.le
  exact ⟨by omega, hi, fun _ => by omega, fun e => by omega, h.all⟩
theorem Laid.end {f k : Nat} {s : List UInt8} {i fr : Nat} {done : List Pn} (h : Laid f k s i fr done) (hi : i = s.length) : done = pieces f k s := by
  obtain ⟨n, hn, ha⟩ := h.all
  have hf := h.last hi
  rw [hf, List.drop_length] at ha
  have : piecesF f n (k + s.length) [] = [] := by cases n <;> simp [piecesF]
  rw [this, List.append_nil] at ha
  exact ha
end Go.Proofs.Ytmcdfhihfcfbaaa.W

namespace Go.Proofs.Ytmcdfhihfcfbaaa.W
open Go.RowKit
set_option linter.unusedVariables false
section
variable [Others]

theorem RMem.next {w w' : World} {B E : Nat} {σ : St} (h : RMem w B E σ) (k : Keeps (fun _ => False) w w') : RMem w' B E σ := by
  obtain ⟨lv, qv, kv, hc⟩ := h.is
  exact ⟨⟨lv, qv, kv, hc.keeps k (fun h => h) (fun _ _ h => h) (fun _ _ _ _ h => h) (fun _ _ _ _ h => h)⟩, h.ge⟩

/-- one pending write more -/
theorem RMem.push {wr : World} {B E : Nat} {σ : St} (h : RMem wr B E σ) (p : Pn) (ps : ByteArray) (hps : p.s = ps.data.toList) (hlen : σ.queue.length ≤ 1000000000) (hB : B ≤ wr.heap.size) :
    ∃ qv v' w', (∃ p n c, v' = .slice p n c) ∧ wr.cell? ⟨E, 1, none⟩ = some qv ∧ (Builtin.append_ #[86, 86] 86 #[qv, .slice (some ⟨wr.heap.size, 0, none⟩) 1 1]).run Try.prog (wr.alloc (.cells #[.int .i64 p.f, .int .i64 p.at_, .string ps] 109)) = .ok v' w' ∧
      w'.cell? ⟨E, 1, none⟩ = some qv ∧ w'.frozen? ⟨E, 1, none⟩ = false ∧ RMem (w'.setCell ⟨E, 1, none⟩ v') B E { σ with queue := σ.queue ++ [p] } ∧ RK B wr (w'.setCell ⟨E, 1, none⟩ v') := by
  obtain ⟨lv, qv, kv, hc⟩ := h.is
  have ka : Keeps (fun _ => False) wr (wr.alloc (.cells #[.int .i64 p.f, .int .i64 p.at_, .string ps] 109)) := (Keeps.refl _ _).alloc _
  have hca := hc.keeps ka (fun h => h) (fun _ _ h => h) (fun _ _ _ _ h => h) (fun _ _ _ _ h => h)
  have hbk := Blk.new wr 109 [.int .i64 p.f, .int .i64 p.at_, .string ps]
  have hpc : pCells p = [.int .i64 p.f, .int .i64 p.at_, .string ps] := by unfold pCells; rw [hps, strV_of]
  obtain ⟨v', w', hr, h2, h3⟩ := run_piece _ B qv σ.queue p wr.heap.size (Nat.le_trans hB ka.size) hca.q hlen (fun j u hj => hbk.at (by rw [← hpc]; exact hj))
  obtain ⟨hb', hl', hk'⟩ := hca.grow h3
  have kE : Keeps (· = E) w' (w'.setCell ⟨E, 1, none⟩ v') := (Keeps.refl (· = E) w').setCell (p := ⟨E, 1, none⟩) (.inr rfl) v'
  refine ⟨qv, v', w', by obtain ⟨p', c', e⟩ := h2.slice; exact ⟨p', _, c', e⟩, hc.b.at (j := 1) rfl, hr, hb'.at (j := 1) rfl, hb'.free 1, ⟨⟨lv, v', kv, (hb'.set 1 v').cast rfl, lrow_keeps_type hb' (by decide) hl' rfl, h2.keeps kE (fun g cur fz hg => blk_ne hb' hg (by decide)), hk'.keeps kE (fun g cur fz hg => blk_ne hb' hg (by decide))⟩, h.ge⟩, ?_⟩
  exact ((RK.of ka).trans ⟨h3.mono (fun g _ e => ⟨e.1, by obtain ⟨cur, fz, hg⟩ := e.2; exact ⟨cur, fz, _, hg, .inr (.inr rfl)⟩⟩)⟩).trans (RK.set hb' h.ge (.inl rfl) 1 v')

end
theorem piece_grow {s x : ByteArray} {fr j : Nat} (hx : x.data.toList = (s.data.toList.drop fr).take (j - fr)) (hfr : fr ≤ j) (hj : j < s.size) : (x ++ s.extract j (j + 1)).data.toList = (s.data.toList.drop fr).take (j + 1 - fr) := by
  rw [ByteArray.data_append, Array.toList_append, hx, Lib.extract_data, show j + 1 - fr = (j - fr) + 1 by omega, show j + 1 - j = 1 by omega]
  have e1 : (s.data.toList.drop j).take 1 = s.data.toList[j]?.toList := by
    rw [List.drop_eq_getElem_cons (show j < s.data.toList.length from hj), List.getElem?_eq_getElem (show j < s.data.toList.length from hj)]; rfl
  have e2 := List.take_add_one (l := s.data.toList.drop fr) (i := j - fr)
  rw [List.getElem?_drop, show fr + (j - fr) = j by omega] at e2
  rw [e1, e2]
section
variable [Others]
set_option maxHeartbeats 4000000 in
set_option maxRecDepth 100000 in
theorem radd_any (w : World) (B E : Nat) (σ : St) (f k : Nat) (s : ByteArray) (hf : f < 8) (hk : k + s.size ≤ 16777216) (hB : B ≤ w.heap.size) (hlen : σ.queue.length + s.size ≤ 1000000000) (h : RRep w B E σ) :
    Calls Try.prog 81 #[.pointer (some ⟨E, 0, none⟩), .int .i64 f, .int .i64 k, .string s] w fun e w' => e = .returned (.tuple #[]) ∧ RRep w' B E (if s.data.toList = [] then σ else addS σ f k s.data.toList) ∧ RK B w w' := by
  have hfin : ∀ w', RMem w' B E { σ with queue := σ.queue ++ pieces f k s.data.toList } → RRep w' B E (if s.data.toList = [] then σ else addS σ f k s.data.toList) := fun w' hm => by
    split
    · rename_i e
      have : pieces f k s.data.toList = [] := by rw [e]; rfl
      rw [this, List.append_nil] at hm
      exact hm.rep h.ok h.rd
    · rename_i e
      obtain ⟨lv, qv, kv, hc⟩ := hm.is
      exact RMem.rep (σ := addS σ f k s.data.toList) ⟨⟨lv, qv, kv, ⟨hc.b, hc.l, hc.q, hc.k⟩⟩, hm.ge⟩ (h.ok.add hf hk) (h.rd.add h.ok hf k e)
  obtain ⟨τ, hτ⟩ : ∃ τ, (if s.data.toList = [] then σ else addS σ f k s.data.toList) = τ := ⟨_, rfl⟩
  rw [hτ] at hfin ⊢
  have HFin := Hd.mk hfin
  have HM0 := Hd.mk h.mem
  have HB := Hd.mk hB
  have HLen := Hd.mk hlen
  have hsz : (s.size : Int) ≤ 16777216 := by omega
  have hkz : (k : Int) ≤ 16777216 := by omega
  have HSl : Hd (s.data.toList.length = s.size) := ⟨rfl⟩
  have HKS := Hd.mk hk
  clear h hfin hB hlen hf hk hτ
  go_enter Try.func81, Try.ntmps81
  go_wp2
  go_loopw [8, 9, 10] (fun p fr i wr => ∃ (j fr' : Nat) (x : ByteArray) (done : List Pn), j ≤ s.size ∧ i = .int .i64 j ∧ fr = .int .i64 ((k : Int) + (fr' : Int)) ∧ p = .string x ∧ Hd (x.data.toList = (s.data.toList.drop fr').take (j - fr')) ∧ Hd (Laid f k s.data.toList j fr' done) ∧ Hd (RMem wr B E { σ with queue := σ.queue ++ done }) ∧ Hd (RK B w wr) ∧ Hd (done.length ≤ j)) (fun _ _ i _ => s.size - (intOf i).toNat)
  case atStart => exact ⟨0, 0, ⟨#[]⟩, [], Nat.zero_le _, rfl, by simp, rfl, ⟨by simp⟩, ⟨Laid.start _ _ _⟩, ⟨by rw [List.append_nil]; exact HM0.out⟩, ⟨RK.of (Keeps.refl _ _)⟩, ⟨Nat.le_refl _⟩⟩
  case round =>
    obtain ⟨j, fr, x, done, hj, rfl, rfl, rfl, HX, HL, HM, HK, HD⟩ := hrel
    clear HM0
    by_cases hlt : j < s.size
    · have hgr := piece_grow HX.out HL.out.le hlt
      have hxs : x.size ≤ 16777216 := by
        show x.data.toList.length ≤ _
        rw [HX.out, List.length_take]; omega
      obtain ⟨y, hy⟩ : ∃ y, x ++ s.extract j (j + 1) = y := ⟨_, rfl⟩
      rw [hy] at hgr
      have HY := Hd.mk hgr
      have HHy := Hd.mk hy
      have i0 : (0 : Int) ≤ (j : Int) := by omega
      have i1 : (j : Int) + 1 ≤ (s.size : Int) := by omega
      have i2 : (j : Int) ≤ (j : Int) + 1 := by omega
      have i3 : (0 : Int) ≤ (j : Int) + 1 := by omega
      have n1 : ((j : Int) + 1).toNat = j + 1 := by omega
      have r0 : IntKind.i64.wrap ((j : Int) + 1) = (j : Int) + 1 := IntWalk.i64_in _ (by omega)
      have r1 : IntKind.i64.wrap ((k : Int) + (j : Int)) = (k : Int) + (j : Int) := IntWalk.i64_in _ (by omega)
      have r2 : IntKind.i64.wrap ((k : Int) + (j : Int) + 1) = (k : Int) + (j : Int) + 1 := IntWalk.i64_in _ (by omega)
      have r3 : IntKind.i64.wrap ((s.size : Int) - 1) = (s.size : Int) - 1 := IntWalk.i64_in _ (by omega)
      have tm : ((k : Int) + (j : Int) + 1).tmod 32 = ((k : Int) + (j : Int) + 1) % 32 := Int.tmod_eq_emod_of_nonneg (by omega)
      have hxz : ¬ 9223372036854775807 < x.size + (s.extract j (j + 1)).size := by
        rw [ByteArray.size_extract]; omega
      clear hgr hxs hj
      have hsj : s.data.toList.length = s.size := rfl
      have hcs : (((k : Int) + (j : Int) + 1) % 32 = 0 ∧ ((k + j + 1) % 32 = 0 ∨ j = s.data.toList.length - 1)) ∨ (¬ ((k : Int) + (j : Int) + 1) % 32 = 0 ∧ (j : Int) = (s.size : Int) - 1 ∧ ((k + j + 1) % 32 = 0 ∨ j = s.data.toList.length - 1)) ∨ (¬ ((k : Int) + (j : Int) + 1) % 32 = 0 ∧ ¬ (j : Int) = (s.size : Int) - 1 ∧ ¬ ((k + j + 1) % 32 = 0 ∨ j = s.data.toList.length - 1)) := by
        rw [hsj]; omega
      obtain ⟨md, hmd⟩ : ∃ md, ((k : Int) + (j : Int) + 1) % 32 = md := ⟨_, rfl⟩
      rw [hmd] at tm hcs
      have hB1 : B ≤ wr.heap.size := Nat.le_trans HB.out HK.out.k.size
      have hfrj := HL.out.le
      have HC := Hd.mk (show ((k + fr : Nat) : Int) = (k : Int) + (fr : Int) by omega)
      have HC2 := Hd.mk (show ((k + (j + 1) : Nat) : Int) = (k : Int) + (j : Int) + 1 by omega)
      clear hmd hsj
      rcases hcs with ⟨m0, hb⟩ | ⟨m0, mj, hb⟩ | ⟨m0, mj, hb⟩
      · have HL2 := Hd.mk (HL.out.cut (by rw [HSl.out]; exact hlt) hb)
        obtain ⟨qv, v', w', ⟨pv, nv, cv, rfl⟩, b1, hr, b2, b3, hm, hrk⟩ := HM.out.push ⟨f, k + fr, (s.data.toList.drop fr).take (j + 1 - fr)⟩ y HY.out.symm (by show (σ.queue ++ done).length ≤ _; rw [List.length_append]; have := HLen.out; have := HD.out; omega) hB1
        dsimp only at hr
        rw [HC.out] at hr
        have HR := Hd.mk hr
        have HM2 : Hd (RMem (w'.setCell ⟨E, 1, none⟩ (.slice pv nv cv)) B E { σ with queue := σ.queue ++ (done ++ [⟨f, k + fr, (s.data.toList.drop fr).take (j + 1 - fr)⟩]) }) := ⟨by rw [← List.append_assoc]; exact hm⟩
        have HK2 := Hd.mk (HK.out.trans hrk)
        have HD2 : Hd ((done ++ [(⟨f, k + fr, (s.data.toList.drop fr).take (j + 1 - fr)⟩ : Pn)]).length ≤ j + 1) := ⟨by rw [List.length_append]; have := HD.out; simp; omega⟩
        have mb : (md == 0) = true := by simp [m0]
        clear hr hm hrk hb m0
        go_wp2_with (at_builtin; refine wp_append_run rfl (Operand.tmp 42) (Operand.tmp 47) 86 rfl _ _ _ rfl rfl HR.out ?_)
        go_roundw
        case rel => exact ⟨j + 1, j + 1, ⟨#[]⟩, _, hlt, by go_num, by rw [← HC2.out]; push_cast; rfl, rfl, ⟨by simp⟩, HL2, HM2, HK2, HD2⟩
        case measure => simp [intOf]; omega
      · have HL2 := Hd.mk (HL.out.cut (by rw [HSl.out]; exact hlt) hb)
        obtain ⟨qv, v', w', ⟨pv, nv, cv, rfl⟩, b1, hr, b2, b3, hm, hrk⟩ := HM.out.push ⟨f, k + fr, (s.data.toList.drop fr).take (j + 1 - fr)⟩ y HY.out.symm (by show (σ.queue ++ done).length ≤ _; rw [List.length_append]; have := HLen.out; have := HD.out; omega) hB1
        dsimp only at hr
        rw [HC.out] at hr
        have HR := Hd.mk hr
        have HM2 : Hd (RMem (w'.setCell ⟨E, 1, none⟩ (.slice pv nv cv)) B E { σ with queue := σ.queue ++ (done ++ [⟨f, k + fr, (s.data.toList.drop fr).take (j + 1 - fr)⟩]) }) := ⟨by rw [← List.append_assoc]; exact hm⟩
        have HK2 := Hd.mk (HK.out.trans hrk)
        have HD2 : Hd ((done ++ [(⟨f, k + fr, (s.data.toList.drop fr).take (j + 1 - fr)⟩ : Pn)]).length ≤ j + 1) := ⟨by rw [List.length_append]; have := HD.out; simp; omega⟩
        have mb : (md == 0) = false := by simp [m0]
        have mj' : ((j : Int) == (s.size : Int) - 1) = true := by simp [mj]
        clear hr hm hrk hb m0 mj
        go_wp2_with (at_builtin; refine wp_append_run rfl (Operand.tmp 42) (Operand.tmp 47) 86 rfl _ _ _ rfl rfl HR.out ?_)
        go_roundw
        case rel => exact ⟨j + 1, j + 1, ⟨#[]⟩, _, hlt, by go_num, by rw [← HC2.out]; push_cast; rfl, rfl, ⟨by simp⟩, HL2, HM2, HK2, HD2⟩
        case measure => simp [intOf]; omega
      · have mb : (md == 0) = false := by simp [m0]
        have mj' : ((j : Int) == (s.size : Int) - 1) = false := by simp; omega
        have HL2 := Hd.mk (HL.out.on (by rw [HSl.out]; exact hlt) hb)
        clear hb m0
        go_wp2
        go_roundw
        case rel => exact ⟨j + 1, fr, y, done, hlt, by go_num, rfl, rfl, HY, HL2, HM, HK, ⟨Nat.le_succ_of_le HD.out⟩⟩
        case measure => simp [intOf]; omega
    · obtain rfl : j = s.size := by omega
      have HDn : Hd (done = pieces f k s.data.toList) := ⟨HL.out.end HSl.out.symm⟩
      have HR : Hd (RRep wr B E τ) := ⟨HFin.out wr (by rw [← HDn.out]; exact HM.out)⟩
      clear hj
      go_wp2
      go_end0
      exact ⟨rfl, HR.out, HK.out⟩

end
end Go.Proofs.Ytmcdfhihfcfbaaa.W

namespace Go.Proofs.Ytmcdfhihfcfbaaa.W
open Go.RowKit
set_option linter.unusedVariables false
section
variable [Others]

end
theorem rinfoStr : (Try.prog.info? 9).map (fun i => (i.zero, i.size, i.bytes)) = some (some (.string ⟨#[]⟩), 1, 16) := by kernel_rfl
section
variable [Others]
theorem IRow.rs {w : World} {B : Nat} {v : Value} {ks : List Int} (h : IRow w v ks) : IR (RS w B) w v ks :=
  h.ir (fun g cur fz hg e => by
    obtain ⟨_, cur', fz', T, h2, h3⟩ := e
    rw [hg] at h2
    injection h2 with h2; injection h2 with _ h4 _
    rcases h3 with h3 | ⟨h3, _⟩ | h3 <;> (rw [h3] at h4; exact absurd h4 (by decide)))

end
theorem own_base {w : World} {B B' : Nat} {e : TypeId} {v : Value} {xs : List Value} (h : Own w B e v xs) (hB : B' ≤ B) : Own w B' e v xs := by
  rcases h.is with h0 | ⟨g, cap, e1, hb, r⟩
  · exact ⟨.inl h0⟩
  · exact ⟨.inr ⟨g, cap, e1, Nat.le_trans hB hb, r⟩⟩
section
variable [Others]
def downS (σ : St) : St := { σ with down := true, armed := 0 }

/-- the lasts and the queue put in place -/
theorem crash_end {w : World} {B E : Nat} {σ : St} {lv qv kv lv' : Value} (hc : RCells w B E (downS σ) lv qv kv) (hE : B ≤ E) (ls : List (List UInt8)) (hl : LRow w B lv' (ls.map strV)) (σ' : St) (h1 : σ'.lasts = ls) (h2 : σ'.queue = []) (h3 : σ'.lost = σ.lost) (h4 : σ'.down = true) (h5 : σ'.armed = 0) (h6 : σ'.keep = σ.keep) (ok : Ok σ') (rd : Rd σ') :
    RRep ((w.setCell ⟨E, 0, none⟩ lv').setCell ⟨E, 1, none⟩ (.slice none 0 0)) B E σ' ∧ RK B w ((w.setCell ⟨E, 0, none⟩ lv').setCell ⟨E, 1, none⟩ (.slice none 0 0)) := by
  have hp := hc.put (σ' := { downS σ with lasts := ls }) (lv' := lv') (qv' := qv) (j := 0) (u := lv') hl hc.q rfl rfl
  have hp2 := hp.put (σ' := { downS σ with lasts := ls, queue := [] }) (lv' := lv') (qv' := .slice none 0 0) (j := 1) (u := .slice none 0 0) hp.l ⟨.inl ⟨rfl, none, rfl⟩⟩ rfl rfl
  refine ⟨?_, (RK.set hc.b hE (.inl rfl) 0 lv').trans (RK.set hp.b hE (.inl rfl) 1 _)⟩
  refine RMem.rep ⟨⟨lv', .slice none 0 0, kv, ⟨?_, ?_, ?_, ?_⟩⟩, hE⟩ ok rd
  · rw [h3, h4, h5]; exact hp2.b
  · rw [h1]; exact hp2.l
  · rw [h2]; exact hp2.q
  · rw [h6]; exact hp2.k

set_option maxHeartbeats 4000000 in
set_option maxRecDepth 100000 in
theorem rcrash_any (w : World) (B E : Nat) (σ : St) (v : Value) (ks : List Int) (hB : B ≤ w.heap.size) (hlen : σ.queue.length ≤ 1000000000) (hkl : ks.length ≤ 9223372036854775807) (hv : IR (RS w B) w v ks) (h : RRep w B E σ) :
    Calls Try.prog 25 #[.pointer (some ⟨E, 0, none⟩), v] w fun e w' => e = .returned (.tuple #[]) ∧ RRep w' B E (crashS σ ks) ∧ RK B w w' := by
  obtain ⟨lv, qv, kv, hc⟩ := h.cells
  have c3 := hc.b.at (j := 3) rfl
  rcases hd : σ.down with _ | _
  · rw [hd] at c3
    have f3 := hc.b.free 3
    have hP1 := h.put (σ' := { σ with down := true }) (j := 3) (u := .bool true) rfl rfl rfl ⟨h.ok.l8, h.ok.f8, h.ok.ll, h.ok.fl, h.ok.q⟩ ⟨h.rd.eq⟩ (fun _ _ _ => rfl)
    have hP2 := hP1.1.put (σ' := downS σ) (j := 4) (u := .int .i64 0) rfl rfl rfl ⟨h.ok.l8, h.ok.f8, h.ok.ll, h.ok.fl, h.ok.q⟩ ⟨h.rd.eq⟩ (fun _ _ _ => rfl)
    have hb1 := hc.b.set 3 (.bool true)
    have c4 := hb1.at (j := 4) rfl
    have f4 := hb1.free 4
    obtain ⟨w2, hw2⟩ : ∃ w2, (w.setCell ⟨E, 3, none⟩ (.bool true)).setCell ⟨E, 4, none⟩ (.int .i64 0) = w2 := ⟨_, rfl⟩
    have hK2 : RK B w w2 := hw2 ▸ hP1.2.trans hP2.2
    have hR2 : RRep w2 B E (downS σ) := hw2 ▸ hP2.1
    have hcr : crashS σ ks = { σ with lasts := stays σ.lasts σ.queue ks, files := stays σ.lasts σ.queue ks, queue := [], down := true, armed := 0 } := by unfold crashS; rw [hd]; rfl
    have hok := h.ok.crash ks
    have hrd := h.rd.crash ks
    obtain ⟨τ, hτ⟩ : ∃ τ, crashS σ ks = τ := ⟨_, rfl⟩
    rw [hτ] at hcr hok hrd ⊢
    have HAft : Hd (∀ f, f < 8 → aftL f (downS σ).queue ks ((downS σ).lasts.getD f []) = τ.lasts.getD f []) := ⟨fun f hf => by rw [hcr]; exact (aft_stays f σ.queue ks σ.lasts h.ok.l8 (fun p hp => (h.ok.q p hp).1)).symm⟩
    have HT8 : Hd (τ.lasts.length = 8) := ⟨hok.l8⟩
    have HV := Hd.mk (hv.keeps hK2.k)
    have HEnd : Hd (∀ {w3 lv'}, RRep w3 B E (downS σ) → LRow w3 B lv' (τ.lasts.map strV) → RRep ((w3.setCell ⟨E, 0, none⟩ lv').setCell ⟨E, 1, none⟩ (.slice none 0 0)) B E τ ∧ RK B w3 ((w3.setCell ⟨E, 0, none⟩ lv').setCell ⟨E, 1, none⟩ (.slice none 0 0))) := ⟨fun {w3 lv'} hr ho => by
      obtain ⟨lv3, qv3, kv3, hc3⟩ := hr.cells
      exact crash_end hc3 hr.ge τ.lasts ho τ rfl (by rw [hcr]) (by rw [hcr]) (by rw [hcr]) (by rw [hcr]) (by rw [hcr]) hok hrd⟩
    have HR2 := Hd.mk hR2
    have HK2 := Hd.mk hK2
    have HB2 : Hd (B ≤ w2.heap.size) := ⟨Nat.le_trans hB hK2.k.size⟩
    have HLen := Hd.mk hlen
    have HKl := Hd.mk hkl
    obtain ⟨i0, hi, hz0, hz1, hz2⟩ := info_parts rinfoStr
    have HI : Hd (_ ∧ _ ∧ _ ∧ _) := ⟨⟨hi, hz0, hz1, hz2⟩⟩
    obtain ⟨pk, ck, rfl⟩ := hv.slice
    clear hP1 hP2 hb1 hK2 hR2 hcr hok hrd hd hτ hv h hc hlen hkl hB hi hz0 hz1 hz2
    go_enter Try.func25, Try.ntmps25
    go_wp2
    clear c3 c4 f3 f4 hw2
    go_loopw [4, 5] (fun o i wr => ∃ f : Nat, f ≤ 8 ∧ i = .int .i64 f ∧ Hd (Own wr w2.heap.size 9 o ((List.range f).map fun j => strV (τ.lasts.getD j []))) ∧ Hd (Keeps (fun _ => False) w2 wr)) (fun _ i _ => 8 - (intOf i).toNat)
    case atStart => exact ⟨0, by decide, rfl, ⟨Own.nil _ _ _⟩, ⟨Keeps.refl _ _⟩⟩
    case round =>
      obtain ⟨f, hf, rfl, HO, HK⟩ := hrel
      by_cases hf8 : f < 8
      · have hd8 : (f : Int) < 8 := by omega
        have HA := Hd.mk (rafter_any wr B E (downS σ) f (.slice pk ks.length ck) ks hf8 HLen.out HKl.out ((HV.out.keeps (HK.out.mono (fun _ _ h => h.elim))).mono (fun _ h => h.elim)) (HR2.out.next HK.out))
        rw [HAft.out f hf8] at HA
        obtain ⟨y, hy⟩ := bytesOf (τ.lasts.getD f [])
        rw [hy, strV_of] at HA
        have HY := Hd.mk hy
        have hl : ((List.range f).map fun j => strV (τ.lasts.getD j [])).length = f := by simp
        have HLf := Hd.mk hl
        clear hf hy hl
        go_wp2_with fail
        refine HA.out.mono ?_
        rintro e w5 ⟨rfl, k5⟩
        have HO5 := Hd.mk (HO.out.keeps k5 (fun _ _ h => h))
        have HK5 := Hd.mk (HK.out.trans k5)
        have hB5 : w2.heap.size ≤ w5.heap.size := (HK.out.trans k5).size
        clear k5
        go_wp2_with (at_builtin; refine wp_app1 rfl (Operand.tmp 20) (Operand.tmp 25) 31 rfl 9 Try.underlying31 HI.out.1 HI.out.2.1 HI.out.2.2.1 HI.out.2.2.2 rfl _ _ _ w5 rfl HO5.out rfl rfl (by rw [HLf.out]; unfold maxLen; omega) (by rw [HLf.out]; omega) hB5 ?_)
        intro v6 w6 hO6 hK6 hv6
        have HO6 : Hd (Own w6 w2.heap.size 9 v6 ((List.range (f + 1)).map fun j => strV (τ.lasts.getD j []))) := ⟨by
          rw [List.range_succ, List.map_append]
          have e : ([f].map fun j => strV (τ.lasts.getD j [])) = [.string y] := by
            show [strV (τ.lasts.getD f [])] = [.string y]
            rw [HY.out, strV_of]
          rw [e]; exact hO6⟩
        have HK6 := Hd.mk (keeps_own HK5.out hK6 HO5.out)
        clear hO6 hK6 hv6
        go_wp2
        go_roundw
        case rel => exact ⟨f + 1, hf8, by go_num, HO6, HK6⟩
        case measure => simp [intOf]; omega
      · have hd8 : ¬ (f : Int) < 8 := by omega
        obtain rfl : f = 8 := by omega
        have hm : ((List.range 8).map fun j => strV (τ.lasts.getD j [])) = τ.lasts.map strV := by
          apply List.ext_getElem
          · rw [List.length_map, List.length_map, List.length_range, HT8.out]
          · intro i h1 h2
            rw [List.getElem_map, List.getElem_map, List.getElem_range, List.getD_eq_getElem?_getD, List.getElem?_eq_getElem (by simpa using h2)]; rfl
        obtain ⟨g, cp, e8⟩ := HO.out.slice (by simp)
        rw [show ((List.range 8).map fun j => strV (τ.lasts.getD j [])).length = 8 by simp] at e8
        subst e8
        have HRr := HR2.out.next HK.out
        have hown : LRow wr B (.slice (some ⟨g, 0, none⟩) 8 cp) (τ.lasts.map strV) := by
          obtain ⟨_, _, _, hc2⟩ := HR2.out.cells
          have hx2 := hc2.l.lt
          refine ⟨own_base (by rw [← hm]; exact HO.out) HB2.out, fun g' hg' hx => ?_, fun g' hg' => Nat.lt_of_lt_of_le (hx2 g' hg') HK.out.size⟩
          have h1 := (HO.out.lt hg').1
          have h2 := hx2 g' hx
          exact Nat.lt_irrefl _ (Nat.lt_of_lt_of_le h2 h1)
        obtain ⟨he1, he2⟩ := HEnd.out HRr hown
        have HE1 := Hd.mk he1
        have HE2 := Hd.mk ((HK2.out.trans (RK.of HK.out)).trans he2)
        obtain ⟨lv3, qv3, kv3, hc3⟩ := HRr.cells
        obtain ⟨lv3c0, lv3f0⟩ := And.intro (hc3.b.at (j := 0) rfl) (hc3.b.free 0)
        have hb3 := hc3.b.set 0 (.slice (some ⟨g, 0, none⟩) 8 cp)
        have c31 := hb3.at (j := 1) rfl
        have f31 := hb3.free 1
        clear hm hown HRr he1 he2 hc3 hb3 hf
        go_wp2
        go_end0
        exact ⟨rfl, HE1.out, HE2.out⟩
  · rw [hd] at c3
    have e : crashS σ ks = σ := by unfold crashS; rw [if_pos hd]
    rw [e]
    have HR := Hd.mk h
    clear h hc hv hd e
    go_enter Try.func25, Try.ntmps25
    go_wp2
    refine bodyPost_ret (results_none rfl _ _ _) rfl ?_
    exact ⟨rfl, HR.out, RK.of (Keeps.refl _ _)⟩

/-- behind the scheduled crash of a call, or one step nearer -/
def comS (σ : St) (f k : Int) (s : List UInt8) : St := if endsB σ then crashS (writeS (endsS σ) f k s) σ.keep else endsS σ
end
theorem comS_head (σ : St) : comS σ 0 0 [] = headS σ := by
  unfold comS headS
  split
  · have : writeS (endsS σ) 0 0 [] = endsS σ := by unfold writeS; rw [if_neg (fun h => h.2 rfl)]
    rw [this]
  · rfl
section
variable [Others]
set_option maxHeartbeats 4000000 in
set_option maxRecDepth 100000 in
theorem rcomes_any (w : World) (B E : Nat) (σ : St) (f k : Int) (s : ByteArray) (hB : B ≤ w.heap.size) (hlen : σ.queue.length + s.size ≤ 1000000000) (ha : σ.armed ≤ 9223372036854775807) (hkk : σ.keep.length ≤ 1000000000) (hs : s.size ≤ 1000000000) (h : RRep w B E σ) :
    Calls Try.prog 78 #[.pointer (some ⟨E, 0, none⟩), .int .i64 f, .int .i64 k, .string s] w fun e w' => e = .returned (.tuple #[]) ∧ RRep w' B E (comS σ f k s.data.toList) ∧ RK B w w' := by
  obtain ⟨lv, qv, kv, hc⟩ := h.cells
  have c3 := hc.b.at (j := 3) rfl
  have c4 := hc.b.at (j := 4) rfl
  have f4 := hc.b.free 4
  have HC0 := Hd.mk hc
  rcases hd : σ.down with _ | _
  · rw [hd] at c3
    by_cases h0 : σ.armed = 0
    · have e : comS σ f k s.data.toList = σ := by unfold comS endsB endsS; simp [hd, h0]
      rw [e]
      rw [h0] at c4
      have HR := Hd.mk h
      clear h hc hd e h0
      go_enter Try.func78, Try.ntmps78
      go_wp2
      refine bodyPost_ret (results_none rfl _ _ _) rfl ?_
      exact ⟨rfl, HR.out, RK.of (Keeps.refl _ _)⟩
    · have he : endsS σ = { σ with armed := σ.armed - 1 } := by unfold endsS; simp [hd, h0]
      have hP := h.put (σ' := endsS σ) (j := 4) (u := .int .i64 ((σ.armed - 1 : Nat) : Int)) (by rw [he]) (by rw [he]) (by rw [he]) h.ok.ends h.rd.ends (fun _ _ _ => by rw [he]; rfl)
      have hn0 : ((σ.armed : Int) == 0) = false := by simp; omega
      have rw1 : IntKind.i64.wrap ((σ.armed : Int) - 1) = (σ.armed : Int) - 1 := IntWalk.i64_in _ (by omega)
      have rw2 : (σ.armed : Int) - 1 = ((σ.armed - 1 : Nat) : Int) := by omega
      by_cases h1 : σ.armed = 1
      · have hE : endsB σ = true := by unfold endsB; simp [hd, h1]
        have e : comS σ f k s.data.toList = crashS (writeS (endsS σ) f k s.data.toList) σ.keep := by unfold comS; rw [if_pos hE]
        rw [e]
        rw [h1] at c4
        rw [h1] at hP
        have hP : RRep (w.setCell ⟨E, 4, none⟩ (.int .i64 0)) B E (endsS σ) ∧ RK B w (w.setCell ⟨E, 4, none⟩ (.int .i64 0)) := hP
        obtain ⟨w1, hw1⟩ : ∃ w1, w.setCell ⟨E, 4, none⟩ (.int .i64 0) = w1 := ⟨_, rfl⟩
        have c41 : w1.cell? ⟨E, 4, none⟩ = some (.int .i64 0) := by rw [← hw1]; exact (HC0.out.b.set 4 (.int .i64 0)).at (j := 4) rfl
        rw [hw1] at hP
        have HP := Hd.mk hP
        have hq1 : (endsS σ).queue = σ.queue := endsS_queue σ
        have hB1 : B ≤ w1.heap.size := Nat.le_trans hB hP.2.k.size
        have hm : isF f = true → mayS (endsS σ) f = 0 := fun hf => by unfold mayS; rw [show (endsS σ).down = false by rw [he]; exact hd, hf]; rfl
        have HFits := fun w => Hd.mk (rfits_any k s w (by omega))
        have HCrash : Hd (∀ w2, RRep w2 B E (writeS (endsS σ) f k s.data.toList) → B ≤ w2.heap.size → ∃ pk ck, w2.cell? ⟨E, 5, none⟩ = some (.slice pk σ.keep.length ck) ∧ Calls Try.prog 25 #[.pointer (some ⟨E, 0, none⟩), .slice pk σ.keep.length ck] w2 fun e w' => e = .returned (.tuple #[]) ∧ RRep w' B E (crashS (writeS (endsS σ) f k s.data.toList) σ.keep) ∧ RK B w2 w') := ⟨fun w2 hr hb2 => by
          obtain ⟨lv2, qv2, kv2, hc2⟩ := hr.cells
          have hk2 : (writeS (endsS σ) f k s.data.toList).keep = σ.keep := by rw [writeS_keep, endsS_keep]
          have hkr := hc2.k
          rw [hk2] at hkr
          obtain ⟨pk, ck, rfl⟩ := hkr.slice
          exact ⟨pk, ck, hc2.b.at (j := 5) rfl, rcrash_any w2 B E _ _ σ.keep hb2 (Nat.le_trans (writeS_queue _ _ _ _) (by rw [hq1]; exact hlen)) (Nat.le_trans hkk (by decide)) hkr.rs hr⟩⟩
        have hno : (isF f = false ∨ ¬ (0 ≤ k ∧ k ≤ 16777216 ∧ k + (s.size : Int) ≤ 16777216)) → writeS (endsS σ) f k s.data.toList = endsS σ := fun hx => by
          unfold writeS
          rw [if_neg]
          rintro ⟨h1', _⟩
          unfold writeE at h1'
          rcases hx with hx | hx
          · have hmm : mayS (endsS σ) f = 1 := by unfold mayS; rw [show (endsS σ).down = false by rw [he]; exact hd, hx]; rfl
            rw [hmm, if_pos (by decide)] at h1'
            cases h1'
          · split at h1'
            · rename_i h2; exact h2 h1'
            · split at h1'
              · cases h1'
              · split at h1'
                · cases h1'
                · rename_i h2 h3 h4
                  have : (s.data.toList.length : Int) = (s.size : Int) := rfl
                  omega
        have HNo := Hd.mk hno
        have HLen := Hd.mk hlen
        by_cases hv : (0 ≤ f ∧ f ≤ 7) ∧ (0 ≤ k ∧ k ≤ 16777216 ∧ k + (s.size : Int) ≤ 16777216)
        · obtain ⟨F, rfl⟩ := Int.eq_ofNat_of_zero_le hv.1.1
          obtain ⟨K0, rfl⟩ := Int.eq_ofNat_of_zero_le hv.2.1
          have hF8 : F < 8 := by omega
          have hfit : (decide ((0 : Int) ≤ (K0 : Int)) && (decide ((K0 : Int) ≤ 16777216) && decide ((K0 : Int) + (s.size : Int) ≤ 16777216))) = true := by simp; omega
          rw [hfit] at HFits
          have hst : (if s.data.toList = [] then endsS σ else addS (endsS σ) F K0 s.data.toList) = writeS (endsS σ) F K0 s.data.toList := by
            have hwe : writeE (endsS σ) F K0 s.data.toList = 0 := by
              unfold writeE
              rw [hm (by unfold isF; exact decide_eq_true (by omega)), if_neg (by decide), if_neg (by omega), if_neg (by
                have : (s.data.toList.length : Int) = (s.size : Int) := rfl
                omega)]
            unfold writeS
            split
            · rename_i hs0; rw [if_neg (fun h => h.2 hs0)]
            · rename_i hs0; rw [if_pos ⟨hwe, hs0⟩]; rfl
          have HA := Hd.mk (radd_any w1 B E (endsS σ) F K0 s hF8 (by omega) hB1 (by rw [hq1]; exact hlen) hP.1)
          rw [hst] at HA
          have f7 : (F : Int) ≤ 7 := by omega
          have f0 : (0 : Int) ≤ (F : Int) := by omega
          have HB1 := Hd.mk hB1
          clear h hc hd e h0 h1 hE he hP hm hq1 hB1 hno hv hfit hst hlen hB rw1 rw2 hn0 hF8
          go_enter Try.func78, Try.ntmps78
          go_wp2_with fail
          refine (HFits _).out.mono ?_
          rintro e w2 ⟨rfl, rfl⟩
          go_wp2_with fail
          refine HA.out.mono ?_
          rintro e w2 ⟨rfl, hr2, hk2⟩
          have HR2 := Hd.mk hr2
          have HK2 := Hd.mk hk2
          obtain ⟨pk, ck, c5, hcr⟩ := HCrash.out w2 hr2 (Nat.le_trans HB1.out hk2.k.size)
          have HCr := Hd.mk hcr
          clear hr2 hk2 hcr
          go_wp2_with fail
          refine HCr.out.mono ?_
          rintro e w3 ⟨rfl, hr3, hk3⟩
          have HR3 := Hd.mk hr3
          have HK3 := Hd.mk ((HP.out.2.trans HK2.out).trans hk3)
          clear hr3 hk3
          go_wp2
          go_end0
          exact ⟨rfl, HR3.out, HK3.out⟩
        · have hcs : (f < 0) ∨ (0 ≤ f ∧ 7 < f) ∨ (0 ≤ f ∧ f ≤ 7 ∧ (decide ((0 : Int) ≤ k) && (decide (k ≤ 16777216) && decide (k + (s.size : Int) ≤ 16777216))) = false) := by
            by_cases g0 : f < 0
            · exact .inl g0
            · by_cases g7 : 7 < f
              · exact .inr (.inl ⟨by omega, g7⟩)
              · refine .inr (.inr ⟨by omega, by omega, ?_⟩)
                rw [← Bool.not_eq_true]
                simp only [Bool.and_eq_true, decide_eq_true_eq]
                intro hx
                exact hv ⟨by omega, hx.1, hx.2.1, hx.2.2⟩
          have hst : writeS (endsS σ) f k s.data.toList = endsS σ := hno (by
            by_cases hx : 0 ≤ f ∧ f ≤ 7
            · exact .inr (fun hy => hv ⟨hx, hy⟩)
            · exact .inl (by unfold isF; exact decide_eq_false (by omega)))
          obtain ⟨pk, ck, c5, hcr⟩ := HCrash.out w1 (by rw [hst]; exact hP.1) hB1
          have HCr := Hd.mk hcr
          clear h hc hd e h0 h1 hE he hP hm hq1 hB1 hno hv hst hlen hB rw1 rw2 hn0 hcr HCrash HNo
          rcases hcs with g | ⟨g, g'⟩ | ⟨g, g', hfit⟩
          · have g0 : decide ((0 : Int) ≤ f) = false := by simp; omega
            clear g HFits
            go_enter Try.func78, Try.ntmps78
            go_wp2_with fail
            refine HCr.out.mono ?_
            rintro e w3 ⟨rfl, hr3, hk3⟩
            have HR3 := Hd.mk hr3
            have HK3 := Hd.mk (HP.out.2.trans hk3)
            clear hr3 hk3
            go_wp2
            go_end0
            exact ⟨rfl, HR3.out, HK3.out⟩
          · have g0 : decide ((0 : Int) ≤ f) = true := by simp; omega
            have g7 : decide (f ≤ 7) = false := by simp; omega
            clear g g' HFits
            go_enter Try.func78, Try.ntmps78
            go_wp2_with fail
            refine HCr.out.mono ?_
            rintro e w3 ⟨rfl, hr3, hk3⟩
            have HR3 := Hd.mk hr3
            have HK3 := Hd.mk (HP.out.2.trans hk3)
            clear hr3 hk3
            go_wp2
            go_end0
            exact ⟨rfl, HR3.out, HK3.out⟩
          · have g0 : decide ((0 : Int) ≤ f) = true := by simp; omega
            have g7 : decide (f ≤ 7) = true := by simp; omega
            rw [hfit] at HFits
            clear g g' hfit
            go_enter Try.func78, Try.ntmps78
            go_wp2_with fail
            refine (HFits _).out.mono ?_
            rintro e w2 ⟨rfl, rfl⟩
            go_wp2_with fail
            refine HCr.out.mono ?_
            rintro e w3 ⟨rfl, hr3, hk3⟩
            have HR3 := Hd.mk hr3
            have HK3 := Hd.mk (HP.out.2.trans hk3)
            clear hr3 hk3
            go_wp2
            go_end0
            exact ⟨rfl, HR3.out, HK3.out⟩
      · have hE : endsB σ = false := by unfold endsB; simp [hd, h1]
        have e : comS σ f k s.data.toList = endsS σ := by unfold comS; rw [hE]; rfl
        rw [e]
        rw [← rw2] at hP
        have HP := Hd.mk hP
        have hgt : decide ((0 : Int) < (σ.armed : Int) - 1) = true := by simp; omega
        have hgt2 : 1 < σ.armed := by omega
        have c4' := (HC0.out.b.set 4 (.int .i64 ((σ.armed : Int) - 1))).at (j := 4) rfl
        clear h hc hd e h0 h1 hE hP he rw2
        go_enter Try.func78, Try.ntmps78
        go_wp2
        refine bodyPost_ret (results_none rfl _ _ _) rfl ?_
        exact ⟨rfl, HP.out.1, HP.out.2⟩
  · rw [hd] at c3
    have e : comS σ f k s.data.toList = σ := by unfold comS endsB endsS; simp [hd]
    rw [e]
    have HR := Hd.mk h
    clear h hc hd e
    go_enter Try.func78, Try.ntmps78
    go_wp2
    refine bodyPost_ret (results_none rfl _ _ _) rfl ?_
    exact ⟨rfl, HR.out, RK.of (Keeps.refl _ _)⟩

end
end Go.Proofs.Ytmcdfhihfcfbaaa.W
