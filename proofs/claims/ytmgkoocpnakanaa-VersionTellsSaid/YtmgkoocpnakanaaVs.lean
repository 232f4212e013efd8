import Derived.Test.YtmgkoocpnakanaaL
import Derived.Maps.OwnSet
import Derived.Maps.Views
import Derived.StringKeys
import Derived.Test.YtmgkoocpnakanaaVd
import Derived.Test.YtmgkoocpnakanaaFen
import Derived.Deep.Cut
import Derived.Deep.LoopGhost
import Derived.Laws.EntriesVeiled
import Derived.Lib.ConvBytes
/-
  A map by strings that the call has made: its entries, whatever the elements are. No program but the strings' type.
-/
namespace Go.Proofs.Ytmgkoocpnakanaa.W
open Go.RowKit Go.Maps Go.WideMaps
set_option linter.unusedVariables false

def idR (v : Value) : Option (DataW Value × List MemPlace) := some (.held v, [])
def lookV {α : Type} (kv : List (ByteArray × α)) (s : ByteArray) : Option α := (kv.find? fun x => decide (x.1 = s)).map (·.2)
theorem lookV_snoc {α : Type} (kv : List (ByteArray × α)) (k s : ByteArray) (x : α) : lookV (kv ++ [(k, x)]) s = match lookV kv s with | some y => some y | none => if k = s then some x else none := by
  unfold lookV
  rw [List.find?_append]
  generalize List.find? (fun x => decide (x.1 = s)) kv = o
  cases o with
  | none => by_cases e : k = s <;> simp [e]
  | some y => rfl

def keyL (s : ByteArray) : Lit := .string s.data.toList
theorem keyL_ne {a b : ByteArray} (h : a ≠ b) : keyL a ≠ keyL b := fun e => h (by
  injection e with e
  exact ByteArray.ext (Array.toList_inj.1 e))

structure MapAt (w : World) (b : Nat) (kv : List (ByteArray × Value)) : Prop where
  is : ∃ D : DataW Value, w.ownsMap Try.prog 9 idR b kv.length D ∧ IsMap D ∧ (∀ s, has D (keyL s) = (lookV kv s).isSome) ∧ ∀ s x z, lookV kv s = some x → D.atKey (keyL s) z = .held x

theorem MapAt.made (w : World) : MapAt (w.alloc (.map #[] 0)) w.heap.size [] :=
  ⟨.map [], World.ownsMap_made _ _ _ _, isMap_empty, fun s => rfl, fun s x z h => by cases h⟩
theorem MapAt.lt {w : World} {b : Nat} {kv : List (ByteArray × Value)} (h : MapAt w b kv) : b < w.heap.size := by
  obtain ⟨D, h, _⟩ := h.is; exact h.lt
theorem MapAt.keeps {S : Nat → Prop} {w w' : World} {b : Nat} {kv : List (ByteArray × Value)} (h : MapAt w b kv) (k : Keeps S w w') (hs : ¬ S b) : MapAt w' b kv := by
  have hlt := h.lt
  obtain ⟨D, ⟨es, clock, hb, F, hn, hD⟩, h2, h3⟩ := h.is
  exact ⟨D, ⟨es, clock, (k.block b hlt hs).trans hb, F, hn, hD⟩, h2, h3⟩
theorem MapAt.not_cells {w : World} {b : Nat} {kv : List (ByteArray × Value)} (h : MapAt w b kv) {cs : Array Value} {T : TypeId} {f : Nat × Nat} (hc : w.heap[b]? = some (.cells cs T f)) : False := by
  obtain ⟨D, ⟨es, clock, hb, _⟩, _⟩ := h.is
  rw [hc] at hb; cases hb

set_option maxRecDepth 100000 in
/-- 'v, ok := m[s]' -/
theorem MapAt.look {w : World} {b : Nat} {kv : List (ByteArray × Value)} (h : MapAt w b kv) {t e : TypeId} (ht : Try.prog.underlying t = some (.map 9 e)) {z : Value} (hz : (zeroValue e).run Try.prog w = .ok z w) (s : ByteArray) (hs : s.size ≤ maxLen) :
    (Instr.lookup t (.map (some b)) (.string s) true).run Try.prog w = .ok (.tuple #[(lookV kv s).getD z, .bool (lookV kv s).isSome]) w := by
  obtain ⟨D, hown, _, hh, ha⟩ := h.is
  obtain ⟨v, ps, hrun, hv⟩ := hown.look_ok (string_keyed Try.underlying9) ht hz (zd := .held z) (zp := []) rfl (keyOf_string_mk Try.underlying9 hs)
  rw [hrun, show has D (.string s.data.toList) = (lookV kv s).isSome from hh s]
  rcases hl : lookV kv s with _ | x
  · have h0 : has D (keyL s) = false := by rw [hh, hl]; rfl
    have := atKey_of_not_has h0 (.held z)
    rw [show D.atKey (.string s.data.toList) (.held z) = .held z from this] at hv
    injection hv with hv; injection hv with hv _; injection hv with hv
    rw [hv]; rfl
  · have := ha s x (.held z) hl
    rw [show D.atKey (.string s.data.toList) (.held z) = .held x from this] at hv
    injection hv with hv; injection hv with hv _; injection hv with hv
    rw [hv]; rfl

set_option maxRecDepth 100000 in
/-- 'm[s] = v' at a new key -/
theorem MapAt.store {w : World} {b : Nat} {kv : List (ByteArray × Value)} (h : MapAt w b kv) {t e : TypeId} (ht : Try.prog.underlying t = some (.map 9 e)) (s : ByteArray) (hs : s.size ≤ maxLen) (x : Value) (hn : kv.length < maxLen) (hnew : lookV kv s = none) :
    ∃ w', (Instr.mapUpdate t (.map (some b)) (.string s) x).run Try.prog w = .ok () w' ∧ MapAt w' b (kv ++ [(s, x)]) ∧ Keeps (· = b) w w' := by
  obtain ⟨D, hown, hm, hh, ha⟩ := h.is
  obtain ⟨w', hrun, hown', hg⟩ := hown.update (string_keyed Try.underlying9) ht hn (val := x) (d := .held x) (ps := []) (keyOf_string_mk Try.underlying9 hs) rfl
  refine ⟨w', hrun, ⟨D.put (keyL s) (.held x), by rw [List.length_append]; exact hown', hm.put _ _, fun s' => ?_, fun s' y z hy => ?_⟩, ⟨hg.os, hg.tape, hg.output, hg.size, fun k hk hn => hg.block k hk (fun e => hn (Option.some.inj e))⟩⟩
  · rw [lookV_snoc]
    by_cases e : s = s'
    · subst e
      rw [has_put_same hm (by trivial), hnew]; simp
    · rw [has_put_other (keyL_ne (fun h => e h.symm)), hh]
      rcases lookV kv s' with _ | y
      · simp [e]
      · rfl
  · rw [lookV_snoc] at hy
    by_cases e : s = s'
    · subst e
      rw [hnew] at hy
      simp at hy
      subst hy
      exact atKey_put_same hm (by trivial) _ _
    · rw [atKey_put_other (keyL_ne (fun h => e h.symm))]
      rcases hl : lookV kv s' with _ | y'
      · rw [hl] at hy; simp [e] at hy
      · rw [hl] at hy
        simp at hy
        subst hy
        exact ha s' y' z hl

end Go.Proofs.Ytmgkoocpnakanaa.W

/-
  A map of truths that the call has made, keys of any kind: which keys it holds.
-/
namespace Go.Proofs.Ytmgkoocpnakanaa.W
open Go.RowKit Go.Maps Go.WideMaps
set_option linter.unusedVariables false

def heldR (v : Value) : Option (DataW Value × List MemPlace) := some (.held v, [])

structure SetAt (w : World) (T : TypeId) (b : Nat) (ls : List Lit) : Prop where
  is : ∃ D : DataW Value, w.ownsMap Try.prog T heldR b ls.length D ∧ IsMap D ∧ (∀ l, has D l = true ↔ l ∈ ls) ∧ ∀ l z, l ∈ ls → D.atKey l z = .held (.bool true)

theorem SetAt.made (w : World) (T : TypeId) : SetAt (w.alloc (.map #[] 0)) T w.heap.size [] :=
  ⟨.map [], World.ownsMap_made _ _ _ _, isMap_empty, fun s => ⟨fun h => (by cases h), fun h => (by cases h)⟩, fun l z h => by cases h⟩
theorem SetAt.lt {w : World} {T : TypeId} {b : Nat} {ls : List Lit} (h : SetAt w T b ls) : b < w.heap.size := by
  obtain ⟨D, h, _⟩ := h.is; exact h.lt
theorem SetAt.keeps {S : Nat → Prop} {w w' : World} {T : TypeId} {b : Nat} {ls : List Lit} (h : SetAt w T b ls) (k : Keeps S w w') (hs : ¬ S b) : SetAt w' T b ls := by
  have hlt := h.lt
  obtain ⟨D, ⟨es, clock, hb, F, hn, hD⟩, h2, h3⟩ := h.is
  exact ⟨D, ⟨es, clock, (k.block b hlt hs).trans hb, F, hn, hD⟩, h2, h3⟩
theorem SetAt.below {w w' : World} {T : TypeId} {b : Nat} {ls : List Lit} (h : SetAt w T b ls) (k : Below w.heap.size w w') : SetAt w' T b ls := by
  have hlt := h.lt
  obtain ⟨D, ⟨es, clock, hb, F, hn, hD⟩, h2, h3⟩ := h.is
  exact ⟨D, ⟨es, clock, (k.block b hlt).trans hb, F, hn, hD⟩, h2, h3⟩

set_option maxRecDepth 100000 in
/-- 'm[k]' -/
theorem SetAt.look_in {w : World} {T : TypeId} {b : Nat} {ls : List Lit} (h : SetAt w T b ls) (K : Keyed Try.prog T) {t e : TypeId} (ht : Try.prog.underlying t = some (.map T e)) (hz : (zeroValue e).run Try.prog w = .ok (.bool false) w) {v : Value} {l : Lit} (hk : keyOf Try.prog T v = some l) (hl : l ∈ ls) :
    (Instr.lookup t (.map (some b)) v false).run Try.prog w = .ok (.bool true) w := by
  obtain ⟨D, hown, _, hh, ha⟩ := h.is
  obtain ⟨v', ps, hrun, hv⟩ := hown.lookup K ht hz (zd := .held (.bool false)) (zp := []) rfl hk
  rw [hrun]
  rw [ha l _ hl] at hv
  injection hv with hv; injection hv with hv _; injection hv with hv
  rw [hv]
set_option maxRecDepth 100000 in
theorem SetAt.look_out {w : World} {T : TypeId} {b : Nat} {ls : List Lit} (h : SetAt w T b ls) (K : Keyed Try.prog T) {t e : TypeId} (ht : Try.prog.underlying t = some (.map T e)) (hz : (zeroValue e).run Try.prog w = .ok (.bool false) w) {v : Value} {l : Lit} (hk : keyOf Try.prog T v = some l) (hl : ¬ l ∈ ls) :
    (Instr.lookup t (.map (some b)) v false).run Try.prog w = .ok (.bool false) w := by
  obtain ⟨D, hown, _, hh, ha⟩ := h.is
  obtain ⟨v', ps, hrun, hv⟩ := hown.lookup K ht hz (zd := .held (.bool false)) (zp := []) rfl hk
  rw [hrun]
  have h0 : has D l = false := by
    rcases hd : has D l with _ | _
    · rfl
    · exact absurd ((hh l).1 hd) hl
  rw [atKey_of_not_has h0] at hv
  injection hv with hv; injection hv with hv _; injection hv with hv
  rw [hv]

set_option maxRecDepth 100000 in
/-- 'm[k] = true' at a new key -/
theorem SetAt.store {w : World} {T : TypeId} {b : Nat} {ls : List Lit} (h : SetAt w T b ls) (K : Keyed Try.prog T) {t e : TypeId} (ht : Try.prog.underlying t = some (.map T e)) (hn : ls.length < maxLen) {v : Value} {l : Lit} (hk : keyOf Try.prog T v = some l) :
    ∃ w', (Instr.mapUpdate t (.map (some b)) v (.bool true)).run Try.prog w = .ok () w' ∧ SetAt w' T b (ls ++ [l]) ∧ Keeps (· = b) w w' := by
  obtain ⟨D, hown, hm, hh, ha⟩ := h.is
  obtain ⟨w', hrun, hown', hg⟩ := hown.update K ht hn (val := .bool true) (d := .held (.bool true)) (ps := []) hk rfl
  refine ⟨w', hrun, ⟨D.put l (.held (.bool true)), by rw [List.length_append]; exact hown', hm.put _ _, fun s => ?_, fun s z hy => ?_⟩, ⟨hg.os, hg.tape, hg.output, hg.size, fun k hk hn => hg.block k hk (fun e => hn (Option.some.inj e))⟩⟩
  · by_cases e : s = l
    · subst e
      rw [has_put_same hm (K.key hk)]
      simp
    · rw [has_put_other (fun h => e h), hh]
      simp [e]
  · by_cases e : s = l
    · subst e
      exact atKey_put_same hm (K.key hk) _ _
    · rw [atKey_put_other (fun h => e h)]
      exact ha s z (by simpa [e] using hy)

end Go.Proofs.Ytmgkoocpnakanaa.W

/-
  version's index: the first declaration of each name.
-/
namespace Go.Proofs.Ytmgkoocpnakanaa.W
open Go.RowKit Go.Maps Go.WideMaps
set_option linter.unusedVariables false

theorem upv {w wk : World} (h : Below w.heap.size w wk) (o : Obj) : Below w.heap.size w (wk.alloc o) := h.alloc h.size o
def firstI (l : List Vdf) (s : ByteArray) : Option Nat := l.findIdx? fun d => decide (d.name = s)
theorem firstI_snoc {l : List Vdf} {k : Nat} (hk : k < l.length) (s : ByteArray) : firstI (l.take (k + 1)) s = match firstI (l.take k) s with | some i => some i | none => if l[k].name = s then some k else none := by
  have e : l.take (k + 1) = l.take k ++ [l[k]] := by rw [List.take_add_one, List.getElem?_eq_getElem hk]; rfl
  unfold firstI
  rw [e, List.findIdx?_append]
  cases h : (l.take k).findIdx? fun d => decide (d.name = s) with
  | some i => rfl
  | none =>
    by_cases hs : l[k].name = s
    · simp [List.findIdx?_cons, hs, List.length_take]; omega
    · simp [List.findIdx?_cons, hs]
theorem firstI_none {l : List Vdf} {s : ByteArray} : firstI l s = none ↔ s ∉ l.map (·.name) := by
  unfold firstI
  rw [List.findIdx?_eq_none_iff]
  simp only [decide_eq_false_iff_not, List.mem_map, not_exists, not_and]
theorem firstI_some {l : List Vdf} {s : ByteArray} {i : Nat} (h : firstI l s = some i) : ∃ hi : i < l.length, l[i].name = s := by
  unfold firstI at h
  obtain ⟨hi, h1, _⟩ := List.findIdx?_eq_some_iff_getElem.1 h
  exact ⟨hi, of_decide_eq_true h1⟩

/-- the first k declarations are in the table -/
structure Idx (l : List Vdf) (k : Nat) (kv : List (ByteArray × Value)) : Prop where
  look : ∀ s, lookV kv s = (firstI (l.take k) s).map fun i => .int .i64 (i : Int)
  len : kv.length ≤ k
  nod : kv.length = k ↔ ((l.take k).map (·.name)).Nodup
theorem Idx.zero (l : List Vdf) : Idx l 0 [] := ⟨fun s => rfl, Nat.le_refl _, by simp⟩
theorem Idx.old {l : List Vdf} {k : Nat} {kv : List (ByteArray × Value)} (h : Idx l k kv) (hk : k < l.length) {i : Nat} (hi : firstI (l.take k) l[k].name = some i) : Idx l (k + 1) kv := by
  have e : l.take (k + 1) = l.take k ++ [l[k]] := by rw [List.take_add_one, List.getElem?_eq_getElem hk]; rfl
  refine ⟨fun s => ?_, Nat.le_succ_of_le h.len, ⟨fun hl => by have := h.len; omega, fun hn => ?_⟩⟩
  · rw [h.look s, firstI_snoc hk]
    cases hs : firstI (l.take k) s with
    | some j => rfl
    | none =>
      by_cases hn : l[k].name = s
      · rw [hn, hs] at hi; cases hi
      · simp [hn]
  · exfalso
    rw [e, List.map_append, List.nodup_append] at hn
    have hm : l[k].name ∈ (l.take k).map (·.name) := Classical.byContradiction fun hx => by rw [firstI_none.2 hx] at hi; cases hi
    exact hn.2.2 _ hm _ (by simp) rfl
theorem Idx.new {l : List Vdf} {k : Nat} {kv : List (ByteArray × Value)} (h : Idx l k kv) (hk : k < l.length) (hi : firstI (l.take k) l[k].name = none) : Idx l (k + 1) (kv ++ [(l[k].name, .int .i64 (k : Int))]) := by
  have e : l.take (k + 1) = l.take k ++ [l[k]] := by rw [List.take_add_one, List.getElem?_eq_getElem hk]; rfl
  refine ⟨fun s => ?_, by simp [h.len], ?_⟩
  · rw [lookV_snoc, h.look s, firstI_snoc hk]
    cases hs : firstI (l.take k) s with
    | some j => rfl
    | none =>
      by_cases hn : l[k].name = s
      · simp [hn]
      · simp [hn]
  · rw [List.length_append, List.length_singleton, e, List.map_append, List.nodup_append]
    have hm := firstI_none.1 hi
    constructor
    · intro hl
      refine ⟨h.nod.1 (by omega), by simp, fun a ha b hb => ?_⟩
      simp at hb
      subst hb
      intro e; exact hm (e ▸ ha)
    · rintro ⟨hn, _⟩
      have := h.nod.2 hn
      omega

set_option maxHeartbeats 4000000 in
set_option maxRecDepth 100000 in
theorem index_any (w : World) (v : Value) (l : List Vdf) (h : Rw 2 Vdf.E w v l) (hl : l.length ≤ 1000000) (hn : ∀ d ∈ l, d.name.size ≤ maxLen) :
    Calls Try.prog 21 #[v] w fun e w' => ∃ b kv, e = .returned (.map (some b)) ∧ w.heap.size ≤ b ∧ MapAt w' b kv ∧ Idx l l.length kv ∧ Below w.heap.size w w' := by
  obtain ⟨p, c, hv⟩ := h.slice
  obtain ⟨M, hM⟩ : ∃ M, l.length = M := ⟨_, rfl⟩
  rw [hM] at hv
  subst hv
  have H := Hd.mk h
  have HN := Hd.mk (And.intro hM hn)
  have hMb : M ≤ 1000000 := by omega
  have HMd : Hd (MapAt (w.alloc (.map #[] 0)) w.heap.size []) := ⟨MapAt.made w⟩
  have HMB : Hd (Below w.heap.size w (w.alloc (.map #[] 0))) := ⟨below_alloc w _⟩
  obtain ⟨mb, hmb⟩ : ∃ mb, w.heap.size = mb := ⟨_, rfl⟩
  rw [hmb] at HMd
  have HMb := Hd.mk hmb
  have hmm := @run_makeMap Try.prog
  clear h hM hn
  go_enter Try.func21, Try.ntmps21
  go_wp2
  clear hmb hmm
  go_loopw [11] (fun kv wr => ∃ (k : Nat) (es : List (ByteArray × Value)), k ≤ M ∧ kv = .int .i64 (k : Int) ∧ Hd (Idx l k es) ∧ Hd (MapAt wr mb es) ∧ Hd (Below w.heap.size w wr)) (fun kv _ => M - (intOf kv).toNat)
  case atStart => exact ⟨0, [], Nat.zero_le _, rfl, ⟨Idx.zero l⟩, HMd, HMB⟩
  case round =>
    clear HMd HMB
    obtain ⟨k, es, hk, rfl, HI, HM, HB⟩ := hrel
    by_cases hlt : k < M
    · have hd1 : decide ((k : Int) < (M : Int)) = true := decide_eq_true (by omega)
      have hmk : M - (intOf (.int .i64 ((k : Int) + 1))).toNat < M - (intOf (.int .i64 (k : Int))).toNat := by simp [intOf]; omega
      have hkq : k < l.length := by rw [HN.out.1]; exact hlt
      obtain ⟨g, of, cs, hpe, hg, hcl, ⟨pv, rfl, hAt⟩, hcc⟩ := (H.out.below Vdf.stays HB.out).at rfl (j := k) hkq
      subst hpe
      obtain ⟨pp, pc, hpv⟩ := hAt.parents.slice
      obtain ⟨PN, hPN⟩ : ∃ PN, (l[k]).parents.length = PN := ⟨_, rfl⟩
      rw [hPN] at hpv
      subst hpv
      have hold := fun i => HI.out.old hkq (i := i)
      have hnew := HI.out.new hkq
      have hlk0 := HI.out.look l[k].name
      have hX := HN.out.2 _ (List.getElem_mem hkq)
      obtain ⟨X, hx⟩ : ∃ X, l[k].name = X := ⟨_, rfl⟩
      have d0 : wr.cell? ⟨g, of + k * 2, none⟩ = some (.string X) := by rw [← hx]; exact hcc 0 _ rfl
      have d1 : wr.cell? ⟨g, of + k * 2 + 1, none⟩ = some (.slice pp PN pc) := hcc 1 _ rfl
      rw [hx] at hold hnew hlk0 hX
      have HMa : Hd (MapAt (wr.alloc (.cells #[.string X, .slice pp PN pc] 32)) mb es) := ⟨HM.out.keeps (S := fun _ => False) ((Keeps.refl (fun _ => False) wr).alloc _) (fun h => h)⟩
      have HBa : Hd (Below w.heap.size w (wr.alloc (.cells #[.string X, .slice pp PN pc] 32))) := ⟨upv HB.out _⟩
      have hz : (zeroValue 3).run Try.prog (wr.alloc (.cells #[.string X, .slice pp PN pc] 32)) = .ok (.int .i64 0) (wr.alloc (.cells #[.string X, .slice pp PN pc] 32)) := by kernel_rfl
      have hlook := HMa.out.look Try.underlying36 hz X hX
      rw [hlk0] at hlook
      have HEs : Hd (es.length < maxLen) := ⟨by have := HI.out.len; unfold maxLen; omega⟩
      have HX := Hd.mk hX
      have HOl := Hd.mk hold
      have HNw := Hd.mk hnew
      have HL0 := Hd.mk hlk0
      clear hcc hcl hg hAt hx hPN hkq hold hnew hlk0 hz hX HI
      rcases hf : firstI (l.take k) X with _ | i
      · rw [hf] at hlook
        simp only [Option.map_none, Option.getD_none, Option.isSome_none] at hlook
        have HI2 := Hd.mk (HNw.out hf)
        obtain ⟨w4, hup, hM4, hK4⟩ := HMa.out.store Try.underlying36 X HX.out (.int .i64 (k : Int)) HEs.out (by rw [HL0.out, hf]; rfl)
        have HM4 := Hd.mk hM4
        have HB4 : Hd (Below w.heap.size w w4) := ⟨HBa.out.trans (hK4.below HBa.out.size (fun g hg e => by have := HMb.out; omega))⟩
        clear hf hM4 hK4 HM HB HMa
        go_wp2
        exact ⟨⟨k + 1, _, hlt, by go_num, HI2, HM4, HB4⟩, hmk⟩
      · rw [hf] at hlook
        simp only [Option.map_some, Option.getD_some, Option.isSome_some] at hlook
        have HI2 := Hd.mk (HOl.out i hf)
        clear hf HM HB
        go_wp2
        exact ⟨⟨k + 1, _, hlt, by go_num, HI2, HMa, HBa⟩, hmk⟩
    · have hd1 : decide ((k : Int) < (M : Int)) = false := decide_eq_false (by omega)
      have HIe : Hd (Idx l l.length es) := ⟨by rw [HN.out.1, show M = k by omega]; exact HI.out⟩
      clear HI
      go_wp2
      go_ret
      exact ⟨mb, es, rfl, by rw [HMb.out]; exact Nat.le_refl _, HM.out, HIe.out, HB.out⟩

end Go.Proofs.Ytmgkoocpnakanaa.W

/-
  version's served: what a string serves.
-/
namespace Go.Proofs.Ytmgkoocpnakanaa.W
open Go.RowKit Go.Maps Go.WideMaps
set_option linter.unusedVariables false

def par (l : List Vdf) (s : ByteArray) : List ByteArray := match firstI l s with
  | some i => (l[i]?.map (·.parents)).getD []
  | none => []
inductive Srv (l : List Vdf) : ByteArray → ByteArray → Prop where
  | refl (s : ByteArray) : Srv l s s
  | head {s p t : ByteArray} : p ∈ par l s → Srv l p t → Srv l s t
theorem Srv.trans {l : List Vdf} {a b c : ByteArray} (h : Srv l a b) (k : Srv l b c) : Srv l a c := by
  induction h with
  | refl => exact k
  | head hp _ ih => exact .head hp (ih k)
theorem Srv.tail {l : List Vdf} {a b c : ByteArray} (h : Srv l a b) (k : c ∈ par l b) : Srv l a c := h.trans (.head k (.refl c))

def memB (T : List ByteArray) (x : ByteArray) : Bool := T.any fun y => decide (y = x)
theorem memB_iff {T : List ByteArray} {x : ByteArray} : memB T x = true ↔ x ∈ T := by
  unfold memB
  rw [List.any_eq_true]
  exact ⟨fun ⟨y, hy, h⟩ => of_decide_eq_true h ▸ hy, fun h => ⟨x, h, decide_eq_true rfl⟩⟩
theorem memB_no {T : List ByteArray} {x : ByteArray} : memB T x = false ↔ x ∉ T := by
  rw [← memB_iff]; simp
/-- how many are not yet met -/
def unv (U T : List ByteArray) : Nat := (U.filter fun x => !memB T x).length
theorem filt_le {α : Type} (p q : α → Bool) (h : ∀ x, p x = true → q x = true) : ∀ l : List α, (l.filter p).length ≤ (l.filter q).length
  | [] => Nat.le_refl _
  | a :: r => by
    have ih := filt_le p q h r
    rw [List.filter_cons, List.filter_cons]
    by_cases hp : p a = true
    · rw [if_pos hp, if_pos (h a hp)]; simpa using ih
    · rw [if_neg hp]
      split
      · simp; omega
      · exact ih
theorem filt_lt {α : Type} (p q : α → Bool) (h : ∀ x, p x = true → q x = true) {a : α} (hq : q a = true) (hp : p a = false) : ∀ l : List α, a ∈ l → (l.filter p).length < (l.filter q).length
  | [], hm => by cases hm
  | b :: r, hm => by
    have ih := filt_lt p q h hq hp r
    have hle := filt_le p q h r
    rw [List.filter_cons, List.filter_cons]
    by_cases hb : p b = true
    · rw [if_pos hb, if_pos (h b hb)]
      rcases List.mem_cons.1 hm with e | hm
      · rw [e, hb] at hp; cases hp
      · simpa using ih hm
    · rw [if_neg hb]
      by_cases hqb : q b = true
      · rw [if_pos hqb]; simp; omega
      · rw [if_neg hqb]
        rcases List.mem_cons.1 hm with e | hm
        · rw [← e] at hqb; exact absurd hq hqb
        · exact ih hm
theorem unv_add {U T : List ByteArray} {s : ByteArray} (hs : s ∈ U) (h : s ∉ T) : unv U (T ++ [s]) < unv U T := by
  unfold unv
  refine filt_lt _ _ (fun x hx => ?_) (a := s) ?_ ?_ U hs
  · rw [Bool.not_eq_true'] at hx ⊢
    rw [memB_no] at hx ⊢
    exact fun hm => hx (List.mem_append_left _ hm)
  · rw [Bool.not_eq_true', memB_no]; exact h
  · rw [Bool.not_eq_false', memB_iff]; exact List.mem_append_right _ (List.mem_singleton.2 rfl)
theorem unv_mono {U T T' : List ByteArray} (h : ∀ x, x ∈ T → x ∈ T') : unv U T' ≤ unv U T := by
  unfold unv
  refine filt_le _ _ (fun x hx => ?_) U
  rw [Bool.not_eq_true'] at hx ⊢
  rw [memB_no] at hx ⊢
  exact fun hm => hx (h x hm)

/-- a visit -/
structure Vis (l : List Vdf) (T : List ByteArray) (s : ByteArray) (T' : List ByteArray) : Prop where
  sub : ∀ x, x ∈ T → x ∈ T'
  has : s ∈ T'
  new : ∀ x, x ∈ T' → x ∈ T ∨ (Srv l s x ∧ ∀ p, p ∈ par l x → p ∈ T')
/-- .. when the first k parents have been visited -/
structure VisL (l : List Vdf) (T : List ByteArray) (s : ByteArray) (k : Nat) (T' : List ByteArray) : Prop where
  sub : ∀ x, x ∈ T → x ∈ T'
  has : s ∈ T'
  frst : ∀ p, p ∈ (par l s).take k → p ∈ T'
  new : ∀ x, x ∈ T' → x ∈ T ∨ x = s ∨ (Srv l s x ∧ ∀ p, p ∈ par l x → p ∈ T')
theorem Vis.old {l : List Vdf} {T : List ByteArray} {s : ByteArray} (h : s ∈ T) : Vis l T s T := ⟨fun _ h => h, h, fun _ h => .inl h⟩
theorem VisL.start (l : List Vdf) (T : List ByteArray) (s : ByteArray) : VisL l T s 0 (T ++ [s]) :=
  ⟨fun x h => List.mem_append_left _ h, List.mem_append_right _ (List.mem_singleton.2 rfl), fun p h => by simp at h, fun x h => by
    rcases List.mem_append.1 h with h | h
    · exact .inl h
    · exact .inr (.inl (List.mem_singleton.1 h))⟩
theorem VisL.step {l : List Vdf} {T T' T'' : List ByteArray} {s : ByteArray} {k : Nat} (h : VisL l T s k T') (hk : k < (par l s).length) (hv : Vis l T' (par l s)[k] T'') : VisL l T s (k + 1) T'' := by
  have e : (par l s).take (k + 1) = (par l s).take k ++ [(par l s)[k]] := by rw [List.take_add_one, List.getElem?_eq_getElem hk]; rfl
  refine ⟨fun x hx => hv.sub x (h.sub x hx), hv.sub s h.has, fun p hp => ?_, fun x hx => ?_⟩
  · rw [e] at hp
    rcases List.mem_append.1 hp with hp | hp
    · exact hv.sub p (h.frst p hp)
    · rw [List.mem_singleton] at hp; subst hp; exact hv.has
  · rcases hv.new x hx with h1 | ⟨h1, h2⟩
    · rcases h.new x h1 with h2 | h2 | ⟨h2, h3⟩
      · exact .inl h2
      · exact .inr (.inl h2)
      · exact .inr (.inr ⟨h2, fun p hp => hv.sub p (h3 p hp)⟩)
    · exact .inr (.inr ⟨.head (List.getElem_mem hk) h1, h2⟩)
theorem VisL.done {l : List Vdf} {T T' : List ByteArray} {s : ByteArray} {k : Nat} (h : VisL l T s k T') (hk : (par l s).length ≤ k) : Vis l T s T' :=
  ⟨h.sub, h.has, fun x hx => by
    rcases h.new x hx with h1 | rfl | h1
    · exact .inl h1
    · exact .inr ⟨.refl _, fun p hp => h.frst p (by rw [List.take_of_length_le hk]; exact hp)⟩
    · exact .inr h1⟩
theorem Vis.all {l : List Vdf} {s : ByteArray} {T' : List ByteArray} (h : Vis l [] s T') (x : ByteArray) : x ∈ T' ↔ Srv l s x := by
  constructor
  · intro hx
    rcases h.new x hx with h1 | h1
    · cases h1
    · exact h1.1
  · intro hr
    have key : ∀ a b, Srv l a b → a ∈ T' → b ∈ T' := fun a b hab => by
      induction hab with
      | refl => exact id
      | head hp _ ih =>
        intro ha
        rcases h.new _ ha with h1 | ⟨_, h2⟩
        · cases h1
        · exact ih (h2 _ hp)
    exact key s x hr h.has

/-- what a visit finds in memory -/
structure Env (w0 w : World) (l : List Vdf) (p6 p5 p2 p7 ob ab : Nat) (lv : Value) (kv : List (ByteArray × Value)) : Prop where
  c6 : w.cell? ⟨p6, 0, none⟩ = some (.map (some ob))
  c5 : w.cell? ⟨p5, 0, none⟩ = some (.map (some ab))
  c2 : w.cell? ⟨p2, 0, none⟩ = some lv
  c7 : w.cell? ⟨p7, 0, none⟩ = some (.func (.func 36) #[] #[.pointer (some ⟨p6, 0, none⟩), .pointer (some ⟨p5, 0, none⟩), .pointer (some ⟨p2, 0, none⟩), .pointer (some ⟨p7, 0, none⟩)])
  ne : p6 ≠ ob ∧ p5 ≠ ob ∧ p2 ≠ ob ∧ p7 ≠ ob ∧ ab ≠ ob
  m : MapAt w ab kv
  bel : Below w0.heap.size w0 w
  hob : w0.heap.size ≤ ob
theorem Env.keeps {w0 w w' : World} {l : List Vdf} {p6 p5 p2 p7 ob ab : Nat} {lv : Value} {kv : List (ByteArray × Value)} (h : Env w0 w l p6 p5 p2 p7 ob ab lv kv) (k : Keeps (· = ob) w w') : Env w0 w' l p6 p5 p2 p7 ob ab lv kv := by
  obtain ⟨n6, n5, n2, n7, na⟩ := h.ne
  have hc : ∀ {p : Nat} {x : Value}, p ≠ ob → w.cell? ⟨p, 0, none⟩ = some x → w'.cell? ⟨p, 0, none⟩ = some x := fun {p x} hp hx => by
    rw [World.cell?_of_block (k.block p (World.block_lt_of_cell? w _ (by rw [hx])) hp)]; exact hx
  exact ⟨hc n6 h.c6, hc n5 h.c5, hc n2 h.c2, hc n7 h.c7, h.ne, h.m.keeps k na, h.bel.trans (k.below h.bel.size (fun g h1 h2 => by have := h.hob; omega)), h.hob⟩

theorem RS.ever {w : World} {p : Option Addr} {n c : Nat} {xs : List ByteArray} (h : Rw 1 strE w (.slice p n c) xs) (h0 : 0 < xs.length) : ∃ g o, p = some ⟨g, o, none⟩ ∧ ∀ k (hk : k < xs.length) w', Below w.heap.size w w' → w'.cell? ⟨g, o + k, none⟩ = some (.string xs[k]) := by
  obtain ⟨g, o, _, e, hg, _⟩ := Rw.at h rfl h0
  refine ⟨g, o, e, fun k hk w' hb => ?_⟩
  obtain ⟨g', o', cs, e', _, _, hE, hc⟩ := Rw.at h rfl hk
  rw [e] at e'
  cases e'
  have hE' : cs = [.string xs[k]] := hE
  subst hE'
  have := hc 0 _ rfl
  rw [Nat.mul_one, Nat.add_zero] at this
  rw [hb.cell (p := ⟨g, o + k, none⟩) hg]
  exact this

set_option maxHeartbeats 4000000 in
set_option maxRecDepth 100000 in
theorem visit_in {w0 : World} {l : List Vdf} {p6 p5 p2 p7 ob ab : Nat} {lv : Value} {kv : List (ByteArray × Value)} (w : World) (T : List ByteArray) (s : ByteArray) (hs : s.size ≤ maxLen) (hE : Env w0 w l p6 p5 p2 p7 ob ab lv kv) (hSt : SetAt w 9 ob (T.map keyL)) (hin : s ∈ T) :
    Calls Try.prog 36 #[.string s, .pointer (some ⟨p6, 0, none⟩), .pointer (some ⟨p5, 0, none⟩), .pointer (some ⟨p2, 0, none⟩), .pointer (some ⟨p7, 0, none⟩)] w fun e w' => e = .returned (.tuple #[]) ∧ w = w' := by
  have K : Hd (Keyed Try.prog 9) := ⟨string_keyed Try.underlying9⟩
  have c6 := hE.c6
  have hz : (zeroValue 4).run Try.prog w = .ok (.bool false) w := by kernel_rfl
  have hlk := hSt.look_in K.out Try.underlying39 hz (keyOf_string_mk Try.underlying9 hs) (List.mem_map.2 ⟨s, hin, rfl⟩)
  clear hin hz hE hSt hs
  go_enter Try.func36, Try.ntmps36
  go_wp2
  refine bodyPost_ret (results_none rfl _ _ _) rfl ?_
  exact ⟨rfl, rfl⟩

set_option maxHeartbeats 4000000 in
set_option maxRecDepth 100000 in
theorem visit_any {w0 : World} {l : List Vdf} {p6 p5 p2 p7 ob ab : Nat} {lv : Value} {kv : List (ByteArray × Value)} {U : List ByteArray} {N : Nat} (hR : Rw 2 Vdf.E w0 lv l) (hl : l.length ≤ 1000000) (hI : Idx l l.length kv)
    (hU : ∀ d ∈ l, d.parents.length ≤ 1000000 ∧ ∀ p ∈ d.parents, p ∈ U) (hs : ∀ x ∈ U, x.size ≤ maxLen) (hN : N < maxLen) :
    ∀ (k : Nat) (w : World) (T : List ByteArray) (s : ByteArray), unv U T ≤ k → T.length + unv U T ≤ N → s ∈ U → Env w0 w l p6 p5 p2 p7 ob ab lv kv → SetAt w 9 ob (T.map keyL) →
    Calls Try.prog 36 #[.string s, .pointer (some ⟨p6, 0, none⟩), .pointer (some ⟨p5, 0, none⟩), .pointer (some ⟨p2, 0, none⟩), .pointer (some ⟨p7, 0, none⟩)] w fun e w' => e = .returned (.tuple #[]) ∧ ∃ T', Vis l T s T' ∧ T'.length + unv U T' ≤ N ∧ unv U T' ≤ unv U T ∧ SetAt w' 9 ob (T'.map keyL) ∧ Keeps (· = ob) w w' := by
  have HR := Hd.mk hR
  have HI := Hd.mk hI
  have HU := Hd.mk hU
  have HS := Hd.mk hs
  obtain ⟨pl, cl, hlv⟩ := hR.slice
  obtain ⟨M, hM⟩ : ∃ M, l.length = M := ⟨_, rfl⟩
  rw [hM] at hlv
  subst hlv
  have HM := Hd.mk hM
  have hMb : M ≤ 1000000 := by omega
  have K : Hd (Keyed Try.prog 9) := ⟨string_keyed Try.underlying9⟩
  have HNn := Hd.mk hN
  clear hR hI hU hs hM hl hN
  have old : ∀ (w : World) (T : List ByteArray) (s : ByteArray), T.length + unv U T ≤ N → s ∈ U → Env w0 w l p6 p5 p2 p7 ob ab (.slice pl M cl) kv → SetAt w 9 ob (T.map keyL) → s ∈ T →
      Calls Try.prog 36 #[.string s, .pointer (some ⟨p6, 0, none⟩), .pointer (some ⟨p5, 0, none⟩), .pointer (some ⟨p2, 0, none⟩), .pointer (some ⟨p7, 0, none⟩)] w fun e w' => e = .returned (.tuple #[]) ∧ ∃ T', Vis l T s T' ∧ T'.length + unv U T' ≤ N ∧ unv U T' ≤ unv U T ∧ SetAt w' 9 ob (T'.map keyL) ∧ Keeps (· = ob) w w' := fun w T s h1 h2 h3 h4 h5 => by
    refine (visit_in w T s (HS.out s h2) h3 h4 h5).mono ?_
    rintro e w' ⟨rfl, rfl⟩
    exact ⟨rfl, T, Vis.old h5, h1, Nat.le_refl _, h4, Keeps.refl _ _⟩
  intro k
  induction k with
  | zero =>
    intro w T s hk hTN hsU hE hSt
    by_cases hin : s ∈ T
    · exact old w T s hTN hsU hE hSt hin
    · have := unv_add hsU hin
      omega
  | succ k ih =>
    intro w T s hk hTN hsU hE hSt
    by_cases hin : s ∈ T
    · exact old w T s hTN hsU hE hSt hin
    clear old
    have HIH := Hd.mk ih
    have hun := unv_add hsU hin
    have hsz := HS.out s hsU
    have hks := keyOf_string_mk Try.underlying9 hsz
    have c6 := hE.c6
    have hz : (zeroValue 4).run Try.prog w = .ok (.bool false) w := by kernel_rfl
    have hlk := hSt.look_out K.out Try.underlying39 hz hks (fun h => by
      obtain ⟨x, hx, e⟩ := List.mem_map.1 h
      have : x = s := Classical.byContradiction fun hne => keyL_ne hne e
      exact hin (this ▸ hx))
    obtain ⟨w1, hup, hS1, hK1⟩ := hSt.store K.out Try.underlying39 (by rw [List.length_map]; have := HNn.out; omega) hks
    have hE1 := hE.keeps hK1
    have c5 := hE1.c5
    have c2 := hE1.c2
    have hz1 : (zeroValue 3).run Try.prog w1 = .ok (.int .i64 0) w1 := by kernel_rfl
    have hlook := hE1.m.look Try.underlying36 hz1 s hsz
    rw [HI.out.look s, List.take_length] at hlook
    have hT1 : (T ++ [s]).length + unv U (T ++ [s]) ≤ N := by rw [List.length_append, List.length_singleton]; omega
    have hS1' : SetAt w1 9 ob ((T ++ [s]).map keyL) := by rw [List.map_append]; exact hS1
    have HS1 := Hd.mk hS1'
    have HK1 := Hd.mk hK1
    have HE1 := Hd.mk hE1
    have HT1 := Hd.mk (And.intro hT1 (And.intro (show unv U (T ++ [s]) ≤ k by omega) (show unv U (T ++ [s]) ≤ unv U T by omega)))
    have HVL : Hd (VisL l T s 0 (T ++ [s])) := ⟨VisL.start l T s⟩
    have HPr : Hd (par l s = match firstI l s with | some i => (l[i]?.map (·.parents)).getD [] | none => []) := ⟨rfl⟩
    clear ih hk hTN hE hSt hks hz hz1 hS1 hS1' hK1 hE1 hT1 hun hin hsz
    rcases hf : firstI l s with _ | i
    · rw [hf] at hlook HPr
      simp only [Option.map_none, Option.getD_none, Option.isSome_none] at hlook
      have HV : Hd (Vis l T s (T ++ [s])) := ⟨HVL.out.done (by rw [HPr.out]; simp)⟩
      clear hf
      go_enter Try.func36, Try.ntmps36
      go_wp2
      go_end0
      exact ⟨rfl, _, HV.out, HT1.out.1, HT1.out.2.2, HS1.out, HK1.out⟩
    · obtain ⟨hi, _⟩ := firstI_some hf
      rw [hf] at hlook HPr
      simp only [Option.map_some, Option.getD_some, Option.isSome_some] at hlook
      obtain ⟨g, of, cs, hpe, hg, hcl, ⟨pv, rfl, hAt⟩, hcc⟩ := HR.out.at rfl (j := i) hi
      subst hpe
      have hiM : i < M := by rw [← HM.out]; exact hi
      have hPs : par l s = l[i].parents := by
        rw [HPr.out]
        show (l[i]?.map (·.parents)).getD [] = _
        rw [List.getElem?_eq_getElem hi]; rfl
      have hPu := HU.out _ (List.getElem_mem hi)
      obtain ⟨P, hP⟩ : ∃ P, l[i].parents = P := ⟨_, rfl⟩
      have hpar := hAt.parents
      rw [hP] at hPs hPu hpar
      obtain ⟨pp, pc, hpv⟩ := Rw.slice hpar
      obtain ⟨PN, hPN⟩ : ∃ PN, P.length = PN := ⟨_, rfl⟩
      rw [hPN] at hpv hPu
      subst hpv
      have cp : w1.cell? ⟨g, of + i * 2 + 1, none⟩ = some (.slice pp PN pc) := by
        rw [HE1.out.bel.cell (p := ⟨g, of + i * 2 + 1, none⟩) hg]
        exact hcc 1 _ rfl
      have HPs := Hd.mk (And.intro hPs hPN)
      have HPu := Hd.mk hPu.2
      have hPNb := hPu.1
      have HPa := Hd.mk hpar
      have hiI : (i : Int) < (M : Int) := by omega
      clear hf hcc hcl hg hAt hP hPs hPN hPu hpar
      go_enter Try.func36, Try.ntmps36
      go_wp2
      clear hlk hup hlook c6 c5 c2 cp hiI
      go_loopw [28] (fun jv wq => ∃ (j : Nat) (T' : List ByteArray), j ≤ PN ∧ jv = .int .i64 (j : Int) ∧ Hd (VisL l T s j T') ∧ Hd (T'.length + unv U T' ≤ N ∧ unv U T' ≤ unv U (T ++ [s])) ∧ Hd (SetAt wq 9 ob (T'.map keyL)) ∧ Hd (Keeps (· = ob) w wq) ∧ Hd (Env w0 wq l p6 p5 p2 p7 ob ab (.slice (some ⟨g, of, none⟩) M cl) kv)) (fun jv _ => PN - (intOf jv).toNat)
      case atStart => exact ⟨0, _, Nat.zero_le _, rfl, HVL, ⟨HT1.out.1, Nat.le_refl _⟩, HS1, HK1, HE1⟩
      case round =>
        clear HVL HS1 HK1 HE1
        obtain ⟨j, T', hj, rfl, HVL, HT, HSt, HK, HE⟩ := hrel
        by_cases hlt : j < PN
        · have hd1 : decide ((j : Int) < (PN : Int)) = true := decide_eq_true (by omega)
          have hmj : PN - (intOf (.int .i64 ((j : Int) + 1))).toNat < PN - (intOf (.int .i64 (j : Int))).toNat := by simp [intOf]; omega
          have hjq : j < P.length := by rw [HPs.out.2]; exact hlt
          obtain ⟨gp, op, e2, hEv⟩ := RS.ever HPa.out (by omega)
          subst e2
          have cj := hEv j hjq wr HE.out.bel
          have c7 := HE.out.c7
          have hpu := HPu.out _ (List.getElem_mem hjq)
          have hst := fun T'' (hv : Vis l T' P[j] T'') => HVL.out.step (by rw [HPs.out.1]; exact hjq) (T'' := T'') (by
            have e : (par l s)[j]'(by rw [HPs.out.1]; exact hjq) = P[j] := by simp only [HPs.out.1]
            rw [e]; exact hv)
          obtain ⟨x, hx⟩ : ∃ x, P[j] = x := ⟨_, rfl⟩
          rw [hx] at cj hpu
          simp only [hx] at hst
          have HSt2 := Hd.mk hst
          have HC := Hd.mk (HIH.out wr T' x (Nat.le_trans HT.out.2 HT1.out.2.1) HT.out.1 hpu HE.out HSt.out)
          clear hEv hx hjq hst hpu HVL
          go_wp2_with fail
          refine HC.out.mono ?_
          rintro e w2 ⟨rfl, T'', hv, h1, h2, h3, h4⟩
          have HV2 := Hd.mk (HSt2.out T'' hv)
          have HT2 : Hd (T''.length + unv U T'' ≤ N ∧ unv U T'' ≤ unv U (T ++ [s])) := ⟨h1, Nat.le_trans h2 HT.out.2⟩
          have HS2 := Hd.mk h3
          have HK2 := Hd.mk (HK.out.trans h4)
          have HE2 := Hd.mk (HE.out.keeps h4)
          clear hv h1 h2 h3 h4 HC HSt2 c7 cj HE HK HSt HT
          go_wp2
          exact ⟨⟨j + 1, _, hlt, by go_num, HV2, HT2, HS2, HK2, HE2⟩, hmj⟩
        · have hd1 : decide ((j : Int) < (PN : Int)) = false := decide_eq_false (by omega)
          have HV : Hd (Vis l T s T') := ⟨HVL.out.done (by rw [HPs.out.1, HPs.out.2]; omega)⟩
          have HT2 : Hd (unv U T' ≤ unv U T) := ⟨Nat.le_trans HT.out.2 HT1.out.2.2⟩
          clear HVL
          go_wp2
          go_end0
          exact ⟨rfl, _, HV.out, HT.out.1, HT2.out, HSt.out, HK.out⟩

end Go.Proofs.Ytmgkoocpnakanaa.W

/-
  version's served, Serves.
-/
namespace Go.Proofs.Ytmgkoocpnakanaa.W
open Go.RowKit Go.Maps Go.WideMaps
set_option linter.unusedVariables false

/-- declarations that the laws look at -/
structure VOk (l : List Vdf) : Prop where
  len : l.length ≤ 12
  name : ∀ d, d ∈ l → d.name.size ≤ 100
  par : ∀ d, d ∈ l → d.parents.length ≤ 6 ∧ ∀ p, p ∈ d.parents → p.size ≤ 100
def uni (l : List Vdf) (s : ByteArray) : List ByteArray := s :: l.flatMap (·.parents)
theorem VOk.uni_len {l : List Vdf} (h : VOk l) (s : ByteArray) : (uni l s).length ≤ 73 := by
  have key : ∀ l : List Vdf, (∀ d, d ∈ l → d.parents.length ≤ 6) → (l.flatMap (·.parents)).length ≤ l.length * 6 := fun l => by
    induction l with
    | nil => intro _; simp
    | cons a r ih =>
      intro h
      have h1 := h a List.mem_cons_self
      have h2 := ih (fun d hd => h d (List.mem_cons_of_mem _ hd))
      rw [List.flatMap_cons, List.length_append, List.length_cons]
      omega
  have h1 := key l (fun d hd => (h.par d hd).1)
  have h2 := h.len
  unfold uni
  rw [List.length_cons]
  omega
theorem unv_le (U T : List ByteArray) : unv U T ≤ U.length := List.length_filter_le _ _

set_option maxHeartbeats 4000000 in
set_option maxRecDepth 100000 in
theorem served_any (w : World) (v : Value) (l : List Vdf) (s : ByteArray) (h : Rw 2 Vdf.E w v l) (hOk : VOk l) (hs : s.size ≤ 100) :
    Calls Try.prog 28 #[v, .string s] w fun e w' => ∃ (b : Nat) (T : List ByteArray), e = .returned (.map (some b)) ∧ w.heap.size ≤ b ∧ SetAt w' 9 b (T.map keyL) ∧ (∀ x, x ∈ T ↔ Srv l s x) ∧ T.length ≤ 100 ∧ Below w.heap.size w w' := by
  obtain ⟨p, c, hv⟩ := h.slice
  obtain ⟨M, hM⟩ : ∃ M, l.length = M := ⟨_, rfl⟩
  rw [hM] at hv
  subst hv
  have HO := Hd.mk hOk
  have HIx := Hd.mk (index_any (w.alloc (.cells #[.slice p M c] 22)) (.slice p M c) l (h.below Vdf.stays (below_alloc w _)) (by have := hOk.len; omega) (fun d hd => by have := hOk.name d hd; unfold maxLen; omega))
  have H := Hd.mk h
  have HM := Hd.mk hM
  have hmm := @run_makeMap Try.prog
  clear h hM hOk
  go_enter Try.func28, Try.ntmps28
  go_wp2_with fail
  refine HIx.out.mono ?_
  rintro e w1 ⟨ab, kv, rfl, hab, hMA, hI, b1⟩
  have HMA := Hd.mk hMA
  have HI := Hd.mk hI
  have HB1 := Hd.mk b1
  have HAb := Hd.mk hab
  clear hab hMA hI b1 HIx
  have c2 : w1.cell? ⟨w.heap.size, 0, none⟩ = some (.slice p M c) := by
    rw [HB1.out.cell (p := ⟨w.heap.size, 0, none⟩) (by simp)]
    simp [go_sem]
  have HV : Hd (∀ W8, W8 = ((((w1.alloc (.cells #[.map (some ab)] 36)).alloc (.map #[] 0)).alloc (.cells #[.map (some (w1.heap.size + 1))] 39)).alloc (.cells #[.func (.func 36) #[] #[.pointer (some ⟨w1.heap.size + 1 + 1, 0, none⟩), .pointer (some ⟨w1.heap.size, 0, none⟩), .pointer (some ⟨w.heap.size, 0, none⟩), .pointer (some ⟨w1.heap.size + 1 + 1 + 1, 0, none⟩)]] 58)) →
      Env w W8 l (w1.heap.size + 1 + 1) w1.heap.size w.heap.size (w1.heap.size + 1 + 1 + 1) (w1.heap.size + 1) ab (.slice p M c) kv ∧ SetAt W8 9 (w1.heap.size + 1) [] ∧ Below w.heap.size w W8) := ⟨by
    intro W8 hW
    subst hW
    have z5 : (w1.alloc (.cells #[.map (some ab)] 36)).heap.size = w1.heap.size + 1 := by simp
    have z6 : ((w1.alloc (.cells #[.map (some ab)] 36)).alloc (.map #[] 0)).heap.size = w1.heap.size + 1 + 1 := by simp
    have z7 : (((w1.alloc (.cells #[.map (some ab)] 36)).alloc (.map #[] 0)).alloc (.cells #[.map (some (w1.heap.size + 1))] 39)).heap.size = w1.heap.size + 1 + 1 + 1 := by simp
    have hws : w.heap.size < w1.heap.size := by have := HB1.out.size; simp at this; omega
    have hal : ∀ (W : World) o, Keeps (fun _ => False) W (W.alloc o) := fun W o => (Keeps.refl (fun _ => False) W).alloc o
    have b5 := (((Blk.new w1 36 [.map (some ab)]).alloc (.map #[] 0)).alloc (.cells #[.map (some (w1.heap.size + 1))] 39)).alloc (.cells #[.func (.func 36) #[] #[.pointer (some ⟨w1.heap.size + 1 + 1, 0, none⟩), .pointer (some ⟨w1.heap.size, 0, none⟩), .pointer (some ⟨w.heap.size, 0, none⟩), .pointer (some ⟨w1.heap.size + 1 + 1 + 1, 0, none⟩)]] 58)
    have b6 := (Blk.new ((w1.alloc (.cells #[.map (some ab)] 36)).alloc (.map #[] 0)) 39 [.map (some (w1.heap.size + 1))]).alloc (.cells #[.func (.func 36) #[] #[.pointer (some ⟨w1.heap.size + 1 + 1, 0, none⟩), .pointer (some ⟨w1.heap.size, 0, none⟩), .pointer (some ⟨w.heap.size, 0, none⟩), .pointer (some ⟨w1.heap.size + 1 + 1 + 1, 0, none⟩)]] 58)
    have b7 := Blk.new (((w1.alloc (.cells #[.map (some ab)] 36)).alloc (.map #[] 0)).alloc (.cells #[.map (some (w1.heap.size + 1))] 39)) 58 [.func (.func 36) #[] #[.pointer (some ⟨w1.heap.size + 1 + 1, 0, none⟩), .pointer (some ⟨w1.heap.size, 0, none⟩), .pointer (some ⟨w.heap.size, 0, none⟩), .pointer (some ⟨w1.heap.size + 1 + 1 + 1, 0, none⟩)]]
    rw [z6] at b6
    rw [z7] at b7
    have hbel : Below w.heap.size w ((((w1.alloc (.cells #[.map (some ab)] 36)).alloc (.map #[] 0)).alloc (.cells #[.map (some (w1.heap.size + 1))] 39)).alloc (.cells #[.func (.func 36) #[] #[.pointer (some ⟨w1.heap.size + 1 + 1, 0, none⟩), .pointer (some ⟨w1.heap.size, 0, none⟩), .pointer (some ⟨w.heap.size, 0, none⟩), .pointer (some ⟨w1.heap.size + 1 + 1 + 1, 0, none⟩)]] 58)) :=
      upv (upv (upv (upv ((below_alloc w _).trans (HB1.out.mono (by simp))) _) _) _) _
    have hset := SetAt.made (w1.alloc (.cells #[.map (some ab)] 36)) 9
    rw [z5] at hset
    have hk1 := (((hal w1 (.cells #[.map (some ab)] 36)).trans (hal _ (.map #[] 0))).trans (hal _ (.cells #[.map (some (w1.heap.size + 1))] 39))).trans (hal _ (.cells #[.func (.func 36) #[] #[.pointer (some ⟨w1.heap.size + 1 + 1, 0, none⟩), .pointer (some ⟨w1.heap.size, 0, none⟩), .pointer (some ⟨w.heap.size, 0, none⟩), .pointer (some ⟨w1.heap.size + 1 + 1 + 1, 0, none⟩)]] 58))
    have hab1 := HMA.out.lt
    refine ⟨⟨b6.at (j := 0) rfl, b5.at (j := 0) rfl, ?_, b7.at (j := 0) rfl, ⟨by omega, by omega, by omega, by omega, by omega⟩, HMA.out.keeps hk1 (fun h => h), hbel, by omega⟩, (hset.keeps (hal _ _) (fun h => h)).keeps (hal _ _) (fun h => h), hbel⟩
    rw [World.cell?_of_block (hk1.block w.heap.size hws (fun h => h))]
    exact c2⟩
  obtain ⟨U, hU⟩ : ∃ U, uni l s = U := ⟨_, rfl⟩
  have HU : Hd (s ∈ U ∧ (∀ d, d ∈ l → ∀ p, p ∈ d.parents → p ∈ U) ∧ (∀ x, x ∈ U → x.size ≤ 100) ∧ U.length ≤ 73) := ⟨by
    rw [← hU]
    refine ⟨List.mem_cons_self, fun d hd p hp => List.mem_cons_of_mem _ (List.mem_flatMap.2 ⟨d, hd, hp⟩), fun x hx => ?_, HO.out.uni_len s⟩
    rcases List.mem_cons.1 hx with rfl | hx
    · exact hs
    · obtain ⟨d, hd, hp⟩ := List.mem_flatMap.1 hx
      exact (HO.out.par d hd).2 x hp⟩
  have HVi : Hd (∀ W8, Env w W8 l (w1.heap.size + 1 + 1) w1.heap.size w.heap.size (w1.heap.size + 1 + 1 + 1) (w1.heap.size + 1) ab (.slice p M c) kv → SetAt W8 9 (w1.heap.size + 1) [] →
      Calls Try.prog 36 #[.string s, .pointer (some ⟨w1.heap.size + 1 + 1, 0, none⟩), .pointer (some ⟨w1.heap.size, 0, none⟩), .pointer (some ⟨w.heap.size, 0, none⟩), .pointer (some ⟨w1.heap.size + 1 + 1 + 1, 0, none⟩)] W8 fun e w' => e = .returned (.tuple #[]) ∧ ∃ T', Vis l [] s T' ∧ T'.length + unv U T' ≤ U.length ∧ unv U T' ≤ unv U [] ∧ SetAt w' 9 (w1.heap.size + 1) (T'.map keyL) ∧ Keeps (· = w1.heap.size + 1) W8 w') := ⟨fun W8 hE hS =>
    visit_any (U := U) (N := U.length) H.out (by have := HO.out.len; omega) HI.out (fun d hd => ⟨by have := (HO.out.par d hd).1; omega, HU.out.2.1 d hd⟩) (fun x hx => by have := HU.out.2.2.1 x hx; unfold maxLen; omega) (by have := HU.out.2.2.2; unfold maxLen; omega) _ W8 [] s (Nat.le_refl _) (by have := unv_le U []; simpa using this) HU.out.1 hE hS⟩
  go_wp2_with fail
  obtain ⟨hE, hS, hB⟩ := HV.out _ rfl
  refine (HVi.out _ hE hS).mono ?_
  rintro e w9 ⟨rfl, T', hv, h1, h2, h3, h4⟩
  have c6 := (hE.keeps h4).c6
  have HRs : Hd ((∀ x, x ∈ T' ↔ Srv l s x) ∧ T'.length ≤ 100) := ⟨hv.all, by have := HU.out.2.2.2; omega⟩
  have HS9 := Hd.mk h3
  have HB9 : Hd (Below w.heap.size w w9) := ⟨hB.trans (h4.below hB.size (fun g hg e => by have := hE.hob; omega))⟩
  have HLe : Hd (w.heap.size ≤ w1.heap.size + 1) := ⟨hE.hob⟩
  clear hE hS hB hv h1 h2 h3 h4 c2 hmm
  go_wp2
  go_ret
  exact ⟨_, T', rfl, HLe.out, HS9.out, HRs.out.1, HRs.out.2, HB9.out⟩

/-- what a string serves, told -/
noncomputable def srvB (l : List Vdf) (a b : ByteArray) : Bool := @decide (Srv l a b) (Classical.propDecidable _)
theorem srvB_iff {l : List Vdf} {a b : ByteArray} : srvB l a b = true ↔ Srv l a b := by
  unfold srvB
  exact @decide_eq_true_iff _ (Classical.propDecidable _)

set_option maxHeartbeats 4000000 in
set_option maxRecDepth 100000 in
theorem serves_any (w : World) (v : Value) (l : List Vdf) (a b : ByteArray) (h : Rw 2 Vdf.E w v l) (hOk : VOk l) (ha : a.size ≤ 100) (hb : b.size ≤ 100) :
    Calls Try.prog 13 #[v, .string a, .string b] w fun e w' => e = .returned (.bool (srvB l a b)) ∧ Below w.heap.size w w' := by
  have HS := Hd.mk (served_any w v l a h hOk ha)
  obtain ⟨p, c, hv⟩ := h.slice
  subst hv
  have K : Hd (Keyed Try.prog 9) := ⟨string_keyed Try.underlying9⟩
  have HK : Hd (keyOf Try.prog 9 (.string b) = some (keyL b)) := ⟨keyOf_string_mk Try.underlying9 (by unfold maxLen; omega)⟩
  obtain ⟨r, hr⟩ : ∃ r, srvB l a b = r := ⟨_, rfl⟩
  have HR := Hd.mk hr
  rw [hr]
  clear h hOk hr
  by_cases hab : a = b
  · subst hab
    have HE : Hd (true = r) := ⟨by rw [← HR.out]; exact (srvB_iff.2 (.refl a)).symm⟩
    go_enter Try.func13, Try.ntmps13
    go_wp2
    go_ret
    exact ⟨ret_b HE.out, Below.refl _ _⟩
  · have g0 : (a.toList == b.toList) = false := by rw [str_beq]; exact decide_eq_false hab
    go_enter Try.func13, Try.ntmps13
    go_wp2_with fail
    refine HS.out.mono ?_
    rintro e w1 ⟨g, T, rfl, hg, hSt, hT, _, b1⟩
    have hz : (zeroValue 4).run Try.prog w1 = .ok (.bool false) w1 := by kernel_rfl
    have HB := Hd.mk b1
    rcases hr : r with _ | _
    · have HRr : Hd (false = r) := ⟨hr.symm⟩
      have hno : b ∉ T := fun hm => by
        have := srvB_iff.2 ((hT b).1 hm)
        rw [HR.out, hr] at this; cases this
      have hlk := hSt.look_out K.out Try.underlying39 hz HK.out (fun h => by
        obtain ⟨x, hx, e⟩ := List.mem_map.1 h
        have : x = b := Classical.byContradiction fun hne => keyL_ne hne e
        exact hno (this ▸ hx))
      clear hno hSt hT hz b1 hr
      go_wp2
      go_ret
      exact ⟨ret_b HRr.out, HB.out⟩
    · have HRr : Hd (true = r) := ⟨hr.symm⟩
      have hyes : b ∈ T := (hT b).2 (srvB_iff.1 (HR.out.trans hr))
      have hlk := hSt.look_in K.out Try.underlying39 hz HK.out (List.mem_map.2 ⟨b, hyes, rfl⟩)
      clear hyes hSt hT hz b1 hr
      go_wp2
      go_ret
      exact ⟨ret_b HRr.out, HB.out⟩

end Go.Proofs.Ytmgkoocpnakanaa.W

/-
  version's name.
-/
namespace Go.Proofs.Ytmgkoocpnakanaa.W
open Go.RowKit
set_option linter.unusedVariables false

def nmC (c : UInt8) : Bool := decide (33 ≤ c.toNat) && decide (c.toNat ≤ 126)
def nmB (s : ByteArray) : Bool := s.data.toList.all nmC && decide (1 ≤ s.size) && decide (s.size ≤ 64)
theorem nm_bad {s : ByteArray} {k : Nat} (hk : k < s.data.toList.length) (h : nmC s.data.toList[k] = false) : nmB s = false := by
  unfold nmB
  rcases ha : s.data.toList.all nmC with _ | _
  · rfl
  · have := List.all_eq_true.1 ha _ (List.getElem_mem hk)
    rw [h] at this; cases this

set_option maxHeartbeats 4000000 in
set_option maxRecDepth 100000 in
theorem name_any (w : World) (s : ByteArray) (hs : s.size ≤ 1000000) :
    Calls Try.prog 22 #[.string s] w fun e w' => e = .returned (.bool (nmB s)) ∧ Below w.heap.size w w' := by
  have hcv := Lib.run_convert_string_bytes (P := Try.prog) w 9 53 5 s Try.underlying9 Try.underlying53 Try.underlying5
  obtain ⟨W, hW⟩ : ∃ W, Lib.bytesWorld w 5 s = W := ⟨_, rfl⟩
  have HC : Hd (∀ j (hj : j < s.data.toList.length), W.cell? ⟨w.heap.size, j, none⟩ = some (.int .u8 (s.data.toList[j]).toNat)) := ⟨fun j hj => by
    rw [← hW, Lib.bytesWorld_cell w 5 s j (by simpa using hj), List.getD_eq_getElem?_getD, List.getElem?_eq_getElem hj]; rfl⟩
  have HB : Hd (Below w.heap.size w W) := ⟨by
    rw [← hW]
    refine ⟨rfl, rfl, rfl, by rw [Lib.bytesWorld_size]; omega, fun k hk => Lib.bytesWorld_at_old w 5 s k hk⟩⟩
  obtain ⟨cap, hcap⟩ : ∃ c, grownCap w s.size 0 5 = c := ⟨_, rfl⟩
  rw [hW, hcap] at hcv
  obtain ⟨N, hN⟩ : ∃ N, s.size = N := ⟨_, rfl⟩
  have HN : Hd (s.data.toList.length = N ∧ s.size = N) := ⟨by rw [← hN]; simp, hN⟩
  rw [hN] at hcv hs
  clear hW hcap
  obtain ⟨R, hR⟩ : ∃ R, nmB s = R := ⟨_, rfl⟩
  have HR := Hd.mk hR
  rw [hR]
  clear hR
  go_enter Try.func22, Try.ntmps22
  go_wp2
  clear hcv
  go_loopw [8] (fun kv wr => ∃ k : Nat, k ≤ N ∧ kv = .int .i64 (k : Int) ∧ Hd ((s.data.toList.take k).all nmC = true) ∧ W = wr) (fun kv _ => N - (intOf kv).toNat)
  case atStart => exact ⟨0, Nat.zero_le _, rfl, ⟨rfl⟩, rfl⟩
  case round =>
    obtain ⟨k, hk, rfl, HT, rfl⟩ := hrel
    by_cases hlt : k < N
    · have hd1 : decide ((k : Int) < (N : Int)) = true := decide_eq_true (by omega)
      have hmk : N - (intOf (.int .i64 ((k : Int) + 1))).toNat < N - (intOf (.int .i64 (k : Int))).toNat := by simp [intOf]; omega
      have hkq : k < s.data.toList.length := by rw [HN.out.1]; exact hlt
      have ck := HC.out k hkq
      have hbad := nm_bad hkq
      have htk : (s.data.toList.take (k + 1)).all nmC = ((s.data.toList.take k).all nmC && nmC s.data.toList[k]) := by
        rw [List.take_add_one, List.getElem?_eq_getElem hkq, List.all_append]; simp
      obtain ⟨x, hx⟩ : ∃ x, s.data.toList[k] = x := ⟨_, rfl⟩
      rw [hx] at ck hbad htk
      have HX := Hd.mk (And.intro hbad htk)
      clear hbad htk hx hkq
      by_cases h1 : x.toNat < 33
      · have g1 : decide ((x.toNat : Int) < 33) = true := decide_eq_true (by omega)
        have HE : Hd (false = R) := ⟨by rw [← HR.out, HX.out.1 (by unfold nmC; rw [decide_eq_false (by omega)]; rfl)]⟩
        go_wp2
        go_ret
        exact ⟨ret_b HE.out, HB.out⟩
      · have g1 : decide ((x.toNat : Int) < 33) = false := decide_eq_false (by omega)
        by_cases h2 : 126 < x.toNat
        · have g2 : decide ((126 : Int) < (x.toNat : Int)) = true := decide_eq_true (by omega)
          have HE : Hd (false = R) := ⟨by rw [← HR.out, HX.out.1 (by unfold nmC; rw [decide_eq_false (show ¬ x.toNat ≤ 126 by omega), Bool.and_false])]⟩
          go_wp2
          go_ret
          exact ⟨ret_b HE.out, HB.out⟩
        · have g2 : decide ((126 : Int) < (x.toNat : Int)) = false := decide_eq_false (by omega)
          have HT2 : Hd ((s.data.toList.take (k + 1)).all nmC = true) := ⟨by rw [HX.out.2, HT.out]; unfold nmC; rw [decide_eq_true (by omega), decide_eq_true (by omega)]; rfl⟩
          go_wp2
          exact ⟨⟨k + 1, hlt, by go_num, HT2, trivial⟩, hmk⟩
    · have hd1 : decide ((k : Int) < (N : Int)) = false := decide_eq_false (by omega)
      have HF : Hd ((decide (1 ≤ N) && decide (N ≤ 64)) = R) := ⟨by
        rw [← HR.out]
        unfold nmB
        have h1 := HT.out
        rw [List.take_of_length_le (by rw [HN.out.1]; omega)] at h1
        rw [h1, HN.out.2]; rfl⟩
      by_cases h1 : 1 ≤ N
      · have g1 : decide ((1 : Int) ≤ (N : Int)) = true := decide_eq_true (by omega)
        by_cases h2 : N ≤ 64
        · have g2 : decide ((N : Int) ≤ 64) = true := decide_eq_true (by omega)
          have HE : Hd (true = R) := ⟨by rw [← HF.out, decide_eq_true h1, decide_eq_true h2]; rfl⟩
          go_wp2
          go_ret
          exact ⟨ret_b HE.out, HB.out⟩
        · have g2 : decide ((N : Int) ≤ 64) = false := decide_eq_false (by omega)
          have HE : Hd (false = R) := ⟨by rw [← HF.out, decide_eq_false h2, Bool.and_false]⟩
          go_wp2
          go_ret
          exact ⟨ret_b HE.out, HB.out⟩
      · have g1 : decide ((1 : Int) ≤ (N : Int)) = false := decide_eq_false (by omega)
        have HE : Hd (false = R) := ⟨by rw [← HF.out, decide_eq_false h1]; rfl⟩
        go_wp2
        go_ret
        exact ⟨ret_b HE.out, HB.out⟩

end Go.Proofs.Ytmgkoocpnakanaa.W
