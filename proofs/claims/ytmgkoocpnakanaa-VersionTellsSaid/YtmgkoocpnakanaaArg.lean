/-
  Arguments opened, and read behind the call as before it. No program.
-/
import Derived.Test.YtmgkoocpnakanaaL
import Derived.Carry
import Derived.OpenShut
import Derived.Deep.Slices
namespace Go.Proofs.Ytmgkoocpnakanaa.W
open Go.RowKit Go.ChangeShapes Go.WideShapes
set_option linter.unusedVariables false

section
variable {H : Type} {enc : TypeId × Value → H} {P : Program}

/-- the types' rows can be read -/
def rowsB (P : Program) (ts : List TypeId) : Bool := ts.all fun t => P.readableRec t && decide (t < P.types.size)

/-- what came in reads as it did, if nothing below the heap's old size has turned -/
theorem trodAll_below (hl : laidOutB P = true) {W W' : World} (hb : Below W.heap.size W W') : ∀ {ts : List TypeId} {vs : List Value} {ds : List (DataW H)} {ps : List MemPlace}, rowsB P ts = true →
    DataW.TrodAll enc P W 0 (fun _ => true) true ts vs ds ps → (∀ x ∈ ps, x.block < W.heap.size) → DataW.TrodAll enc P W' 0 (fun b => decide (b < W.heap.size)) true ts vs ds ps
  | [], [], [], _, _, h, _ => h
  | [], _ :: _, _, _, _, h, _ => h.elim
  | [], [], _ :: _, _, _, h, _ => h.elim
  | _ :: _, [], _, _, _, h, _ => h.elim
  | _ :: _, _ :: _, [], _, _, h, _ => h.elim
  | t :: ts, v :: vs, d :: ds, ps, hr, h, hlt => by
    obtain ⟨p, q, h1, h2, rfl⟩ := h
    simp only [rowsB, List.all_cons, Bool.and_eq_true, decide_eq_true_eq] at hr
    exact ⟨p, q, Below.trod hl hr.1.1 hr.1.2 h1 hb (fun x hx => hlt x (List.mem_append.2 (.inl hx))), trodAll_below hl hb (by simpa [rowsB] using hr.2) h2 (fun x hx => hlt x (List.mem_append.2 (.inr hx))), rfl⟩

theorem spot_none {w : World} {a : Addr} {v : Value} (h : w.cell? a = some v) : a.spot = none := by
  unfold World.cell? at h
  split at h
  · split at h
    · cases h
    · rename_i hs; simpa using hs
  · cases h

theorem addr_none {a : Addr} (h : a.spot = none) : a = ⟨a.block, a.off, none⟩ := by
  cases a; simp at h; subst h; rfl

theorem add_none (g o j : Nat) : (⟨g, o, none⟩ : Addr).add j = ⟨g, o + j, none⟩ := by unfold Addr.add; split <;> simp_all

/-- a slice of integers that came in -/
theorem arg_ints_raw {W : World} {t e : TypeId} {k : IntKind} {v : Value} {d : DataW H} {p : List MemPlace} (ht : P.underlying t = some (.slice e)) (he : P.underlying e = some (.int k)) (hc : P.cellsOf e = 1)
    (hok : ∃ a len cap, v = .slice a len cap) (h : DataW.Trod enc P W 0 (fun _ => true) true t v d p) :
    ∃ ks : List Int, ((ks = [] ∧ (v = .slice none 0 0 ∨ ∃ a c, v = .slice (some a) 0 c)) ∨ (∃ g o cap, v = .slice (some ⟨g, o, none⟩) ks.length cap ∧ g < W.heap.size ∧ ∀ j x, ks[j]? = some x → W.cell? ⟨g, o + j, none⟩ = some (.int k x))) ∧ ks.length ≤ maxLen ∧ ∀ x ∈ ks, (Lit.int k x).wf = true := by
  obtain ⟨a0, len, cap, rfl⟩ := hok
  obtain ⟨fuel, hf⟩ := h
  have hcells : (Value.slice a0 len cap).cells.toList = [.slice a0 len cap] := rfl
  rw [hcells] at hf
  rcases open_ints ht he hc hf with ⟨hcs, hx⟩ | ⟨a, len', cap', zs, hcs, _, hl, hm, hz, hx, hcell, hwz⟩
  · simp only [List.cons.injEq, and_true] at hcs
    rw [hcs]
    exact ⟨[], .inl ⟨rfl, .inl rfl⟩, by simp, by simp⟩
  · simp only [List.cons.injEq, and_true] at hcs
    rw [hcs]
    simp only [if_true] at hz
    have hlen : (zs.take len').length = len' := by rw [List.length_take]; omega
    refine ⟨zs.take len', ?_, by omega, fun x hx => hwz x (List.mem_of_mem_take hx)⟩
    rcases Nat.eq_zero_or_pos len' with h0 | h0
    · subst h0
      exact .inl ⟨by simp, .inr ⟨a, cap', rfl⟩⟩
    · have c0 := hcell 0 (by omega)
      have e0 : a.add 0 = a := by unfold Addr.add; simp
      rw [e0] at c0
      have ha := addr_none (spot_none c0)
      refine .inr ⟨a.block, a.off, cap', by rw [hlen, ← ha], World.block_lt_of_cell? W a (by rw [c0]), fun j x hj => ?_⟩
      have hjl := (List.getElem?_eq_some_iff.1 hj).1
      have := hcell j (by omega)
      rw [ha, add_none] at this
      rw [this]
      rw [List.getElem?_take, if_pos (by omega)] at hj
      simp [List.getD_eq_getElem?_getD, hj]
end

end Go.Proofs.Ytmgkoocpnakanaa.W
