/-
  Slices and structs that came in, with the reach of each string and slice. No program.
-/
import Derived.Test.YtmgkoocpnakanaaArg
import Derived.SizedLaws
import Derived.Deep.Slices
namespace Go.Proofs.Ytmgkoocpnakanaa.W
open Go.RowKit Go.ChangeShapes Go.WideShapes Go.Deep
set_option linter.unusedVariables false

/-- a slice of elements of m cells that lay in the world W: element by element -/
structure SliceAt {α : Type} (W : World) (m : Nat) (E : List Value → α → Prop) (v : Value) (xs : List α) : Prop where
  is : (xs = [] ∧ (v = .slice none 0 0 ∨ ∃ a c, v = .slice (some a) 0 c)) ∨ (∃ g o cap, v = .slice (some ⟨g, o, none⟩) xs.length cap ∧ g < W.heap.size ∧
    ∀ j x, xs[j]? = some x → ∃ cs, cs.length = m ∧ E cs x ∧ ∀ i u, cs[i]? = some u → W.cell? ⟨g, o + j * m + i, none⟩ = some u)

theorem SliceAt.slice {α : Type} {W : World} {m : Nat} {E : List Value → α → Prop} {v : Value} {xs : List α} (h : SliceAt W m E v xs) : ∃ p c, v = .slice p xs.length c := by
  rcases h.is with ⟨rfl, rfl | ⟨a, c, rfl⟩⟩ | ⟨g, o, cap, rfl, _⟩
  · exact ⟨none, 0, rfl⟩
  · exact ⟨some a, c, rfl⟩
  · exact ⟨_, cap, rfl⟩

/-- an element's cells, in any world that has grown out of W -/
theorem SliceAt.at {α : Type} {W : World} {m : Nat} {E : List Value → α → Prop} {v : Value} {xs : List α} (h : SliceAt W m E v xs) {j : Nat} {x : α} (hx : xs[j]? = some x) :
    ∃ g o cap cs, v = .slice (some ⟨g, o, none⟩) xs.length cap ∧ cs.length = m ∧ E cs x ∧ ∀ w, Below W.heap.size W w → ∀ i u, cs[i]? = some u → w.cell? ⟨g, o + j * m + i, none⟩ = some u := by
  rcases h.is with ⟨rfl, _⟩ | ⟨g, o, cap, e, hg, hc⟩
  · simp at hx
  · obtain ⟨cs, h1, h2, h3⟩ := hc j x hx
    exact ⟨g, o, cap, cs, e, h1, h2, fun w hb i u hu => by rw [hb.cell (p := ⟨g, o + j * m + i, none⟩) hg]; exact h3 i u hu⟩

section
variable {H : Type} {enc : TypeId × Value → H} {P : Program}

theorem weightsAll_mem {e : TypeId} : ∀ {l : List (DataW H)} {d : DataW H}, d ∈ l → ∀ n ∈ d.weights P e, n ∈ DataW.weightsAll P e l
  | [], d, h, _, _ => by simp at h
  | d0 :: l, d, h, n, hn => by
    rw [DataW.weightsAll, List.mem_append]
    rcases List.mem_cons.1 h with rfl | h
    · exact .inl hn
    · exact .inr (weightsAll_mem h n hn)

theorem arg_slice_cells {α : Type} {W : World} {t e : TypeId} {m : Nat} {fuel : Nat} {cs : List Value} {d : DataW H} {p : List MemPlace} (E : List Value → α → Prop) (ht : P.underlying t = some (.slice e)) (hc : P.cellsOf e = m) (hm : 0 < m)
    (hE : ∀ fuel cs d p, DataW.trod enc P W 0 (fun _ => true) true fuel e cs = some (d, p) → (∀ x ∈ d.weights P e, x ≤ reachBytes) → ∃ x, E cs x)
    (h : DataW.trod enc P W 0 (fun _ => true) true fuel t cs = some (d, p)) (hz : ∀ x ∈ d.weights P t, x ≤ reachBytes) :
    ∃ (v : Value) (xs : List α), cs = [v] ∧ SliceAt W m E v xs ∧ xs.length * P.bytesOf e ≤ reachBytes := by
  rcases open_slice ht h with ⟨rfl, hx⟩ | ⟨a, len, cap, m', n, D, Pl, rfl, _, hl, hmx, hm', hx, hall⟩
  · exact ⟨_, [], rfl, ⟨.inl ⟨rfl, .inl rfl⟩⟩, by simp⟩
  · simp only [if_true] at hm'
    subst hm'
    injection hx with hd _
    subst hd
    have hw : ∀ i, i < len → ∀ x ∈ (D i).weights P e, x ≤ reachBytes := by
      intro i hi x hx
      apply hz
      rw [DataW.weights, ht]
      simp only [List.mem_cons, List.mem_append]
      exact .inr (.inl (weightsAll_mem (List.mem_map.2 ⟨i, List.mem_range.2 hi, rfl⟩) x hx))
    have hlen : len * P.bytesOf e ≤ reachBytes := by
      have := hz ((((List.range len).map D).length + ((List.range (m' - len)).map fun j => D (len + j)).length) * P.bytesOf e) (by rw [DataW.weights, ht]; simp)
      refine Nat.le_trans (Nat.mul_le_mul_right _ ?_) this
      simp
    have hex : ∀ i : Fin len, ∃ x : α, ∃ cs, cs.length = m ∧ E cs x ∧ ∀ k, k < m → W.cell? ((a.add (i.1 * m)).add k) = cs[k]? := by
      intro i
      obtain ⟨cs', h1, h2⟩ := hall i.1 (by omega)
      obtain ⟨x, hx⟩ := hE _ _ _ _ h2 (hw i.1 i.2)
      rw [hc] at h1
      obtain ⟨_, h3, h4⟩ := World.cells?_some h1
      exact ⟨x, cs', h3, hx, h4⟩
    refine ⟨_, List.ofFn fun i => Classical.choose (hex i), rfl, ⟨?_⟩, by simpa using hlen⟩
    rcases Nat.eq_zero_or_pos len with h0 | h0
    · subst h0
      exact .inl ⟨by simp, .inr ⟨a, m', rfl⟩⟩
    · obtain ⟨cs0, hl0, _, hc0⟩ := Classical.choose_spec (hex ⟨0, h0⟩)
      have c0 := hc0 0 hm
      have e0 : (a.add (0 * m)).add 0 = a := by simp [Addr.add]
      rw [show ((⟨0, h0⟩ : Fin len).1 * m) = 0 * m from rfl, e0, List.getElem?_eq_getElem (by omega)] at c0
      have ha := addr_none (spot_none c0)
      refine .inr ⟨a.block, a.off, m', by rw [List.length_ofFn, ← ha], World.block_lt_of_cell? W a (by rw [c0]), fun j x hj => ?_⟩
      have hjl : j < len := by
        have := (List.getElem?_eq_some_iff.1 hj).1
        simpa using this
      rw [List.getElem?_ofFn, dif_pos hjl] at hj
      obtain ⟨cs, h1, h2, h3⟩ := Classical.choose_spec (hex ⟨j, hjl⟩)
      rw [Option.some.inj hj] at h2
      refine ⟨cs, h1, h2, fun i u hu => ?_⟩
      have hi : i < m := by
        have := (List.getElem?_eq_some_iff.1 hu).1
        omega
      have := h3 i hi
      rw [ha, add_none, add_none, hu] at this
      exact this

theorem arg_slice {α : Type} {W : World} {t e : TypeId} {m : Nat} {v : Value} {d : DataW H} {p : List MemPlace} (E : List Value → α → Prop) (ht : P.underlying t = some (.slice e)) (hc : P.cellsOf e = m) (hm : 0 < m)
    (hE : ∀ fuel cs d p, DataW.trod enc P W 0 (fun _ => true) true fuel e cs = some (d, p) → (∀ x ∈ d.weights P e, x ≤ reachBytes) → ∃ x, E cs x)
    (hok : ∃ a len cap, v = .slice a len cap) (h : DataW.Trod enc P W 0 (fun _ => true) true t v d p) (hz : ∀ x ∈ d.weights P t, x ≤ reachBytes) :
    ∃ (xs : List α), SliceAt W m E v xs ∧ xs.length * P.bytesOf e ≤ reachBytes := by
  obtain ⟨a0, len, cap, rfl⟩ := hok
  obtain ⟨fuel, hf⟩ := h
  obtain ⟨v, xs, hv, h1, h2⟩ := arg_slice_cells E ht hc hm hE hf hz
  have : Value.slice a0 len cap = v := by
    have : [Value.slice a0 len cap] = [v] := hv
    exact List.head_eq_of_cons_eq this
  exact ⟨xs, this ▸ h1, h2⟩

/-- elements: an integer, a string -/
theorem elem_int {W : World} {e : TypeId} {k : IntKind} (he : P.underlying e = some (.int k)) (fuel : Nat) (cs : List Value) (d : DataW H) (p : List MemPlace) (h : DataW.trod enc P W 0 (fun _ => true) true fuel e cs = some (d, p))
    (hz : ∀ x ∈ d.weights P e, x ≤ reachBytes) : ∃ x : Int, cs = [.int k x] ∧ (Lit.int k x).wf = true := by
  obtain ⟨n, h1, h2, h3⟩ := DataW.trod_int he h
  exact ⟨n, h1, h3⟩
theorem elem_string {W : World} {e : TypeId} (he : P.underlying e = some .string) (fuel : Nat) (cs : List Value) (d : DataW H) (p : List MemPlace) (h : DataW.trod enc P W 0 (fun _ => true) true fuel e cs = some (d, p))
    (hz : ∀ x ∈ d.weights P e, x ≤ reachBytes) : ∃ s : ByteArray, cs = [.string s] ∧ s.size ≤ 140737488351232 := by
  obtain ⟨s, h1, h2, h3⟩ := DataW.trod_string he h
  injection h2 with h2 _
  subst h2
  have := hz s.data.toList.length (by simp [DataW.weights])
  exact ⟨s, h1, this⟩
end

end Go.Proofs.Ytmgkoocpnakanaa.W
