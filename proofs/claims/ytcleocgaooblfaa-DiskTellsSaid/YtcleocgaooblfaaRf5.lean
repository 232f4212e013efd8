/-
  DiskTells: the reference's memory alone (no law on the files); the walk of add.
-/
import Derived.Test.YtcleocgaooblfaaRf4
namespace Go.Proofs.Ytcleocgaooblfaa.W
open Go.RowKit
set_option linter.unusedVariables false

structure RMem (w : World) (B E : Nat) (σ : St) : Prop where
  is : ∃ lv qv kv, RCells w B E σ lv qv kv
  ge : B ≤ E
theorem RRep.mem {w : World} {B E : Nat} {σ : St} (h : RRep w B E σ) : RMem w B E σ := ⟨h.cells, h.ge⟩
theorem RMem.rep {w : World} {B E : Nat} {σ : St} (h : RMem w B E σ) (ok : Ok σ) (rd : Rd σ) : RRep w B E σ := by
  obtain ⟨lv, qv, kv, hc⟩ := h.is
  exact ⟨⟨lv, qv, kv, hc.b, hc.l, hc.q, hc.k⟩, ok, rd, h.ge⟩

theorem blk_ne {w : World} {E : Nat} {T : TypeId} {vs : List Value} (hb : Blk w E T vs) {g : Nat} {cur : Array Value} {T' : TypeId} {fz : Nat × Nat} (hg : w.heap[g]? = some (.cells cur T' fz)) (hT : T' ≠ T) : ¬ g = E := fun e => by
  subst e
  rw [hb.is] at hg
  injection hg with hg; injection hg with _ h2 _
  exact hT h2.symm

/-- cell j of the disk's own block written; what its row values become is told -/
theorem RCells.put {w : World} {B E : Nat} {σ σ' : St} {lv qv kv lv' qv' : Value} (hc : RCells w B E σ lv qv kv) {j : Nat} {u : Value}
    (hl : Own w B 9 lv' (σ'.lasts.map strV)) (hq : PRow w B qv' σ'.queue) (hk : σ'.keep = σ.keep)
    (hv : [lv, qv, .int .i64 σ.lost, .bool σ.down, .int .i64 σ.armed, kv].set j u = [lv', qv', .int .i64 σ'.lost, .bool σ'.down, .int .i64 σ'.armed, kv]) : RCells (w.setCell ⟨E, j, none⟩ u) B E σ' lv' qv' kv := by
  have k : Keeps (· = E) w (w.setCell ⟨E, j, none⟩ u) := (Keeps.refl (· = E) w).setCell (p := ⟨E, j, none⟩) (.inr rfl) u
  exact ⟨(hc.b.set j u).cast hv, own_keeps_type hc.b (by decide) hl rfl, hq.keeps k (fun g cur fz hg => blk_ne hc.b hg (by decide)), by rw [hk]; exact hc.k.keeps k (fun g cur fz hg => blk_ne hc.b hg (by decide))⟩

theorem RCells.keeps {S : Nat → Prop} {w w' : World} {B E : Nat} {σ : St} {lv qv kv : Value} (hc : RCells w B E σ lv qv kv) (k : Keeps S w w') (hE : ¬ S E) (hl : ∀ g, lv.ownBlock = some g → ¬ S g) (hq : ∀ g cur fz, w.heap[g]? = some (.cells cur 80 fz) → ¬ S g) (hk : ∀ g cur fz, w.heap[g]? = some (.cells cur 3 fz) → ¬ S g) : RCells w' B E σ lv qv kv :=
  ⟨k.blk hc.b hE, hc.l.keeps k hl, hc.q.keeps k hq, hc.k.keeps k hk⟩

/-- the queue's row grown in place or anew -/
theorem RCells.grow {w w' : World} {B E : Nat} {σ : St} {lv qv kv : Value} (hc : RCells w B E σ lv qv kv) (k : Keeps (fun g => B ≤ g ∧ ∃ cur fz, w.heap[g]? = some (.cells cur 80 fz)) w w') : Blk w' E 71 [lv, qv, .int .i64 σ.lost, .bool σ.down, .int .i64 σ.armed, kv] ∧ Own w' B 9 lv (σ.lasts.map strV) ∧ IRow w' kv σ.keep := by
  have hne : ∀ {g : Nat} {cur : Array Value} {T : TypeId} {fz : Nat × Nat}, w.heap[g]? = some (.cells cur T fz) → T ≠ 80 → ¬ (B ≤ g ∧ ∃ cur fz, w.heap[g]? = some (.cells cur 80 fz)) := fun hg hT ⟨_, cur', fz', h2⟩ => by
    rw [hg] at h2
    injection h2 with h2; injection h2 with _ h3 _
    exact hT h3
  refine ⟨k.blk hc.b (hne hc.b.is (by decide)), hc.l.keeps k (fun g hg => ?_), hc.k.keeps k (fun g cur fz hg => hne hg (by decide))⟩
  rcases hc.l.is with ⟨e, _⟩ | ⟨g', cap, e, _, _, _, ⟨cur, fz, hg', _⟩, _⟩
  · rw [e] at hg; cases hg
  · rw [e] at hg
    have : g' = g := by simpa [Value.ownBlock] using hg
    subst this
    exact hne hg' (by decide)

/-- while the pieces are laid -/
structure Laid (f k : Nat) (s : List UInt8) (i fr : Nat) (done : List Pn) : Prop where
  le : fr ≤ i
  il : i ≤ s.length
  room : i < s.length → (k + fr) % 32 + (i - fr) < 32
  last : i = s.length → fr = s.length
  all : ∃ n, s.length - fr ≤ n ∧ done ++ piecesF f n (k + fr) (s.drop fr) = pieces f k s

theorem Laid.start (f k : Nat) (s : List UInt8) : Laid f k s 0 0 [] :=
  ⟨Nat.le_refl _, Nat.zero_le _, fun _ => by omega, fun h => h, s.length, by omega, rfl⟩
theorem Laid.cut {f k : Nat} {s : List UInt8} {i fr : Nat} {done : List Pn} (h : Laid f k s i fr done) (hi : i < s.length) (hb : (k + i + 1) % 32 = 0 ∨ i = s.length - 1) :
    Laid f k s (i + 1) (i + 1) (done ++ [⟨f, k + fr, (s.drop fr).take (i + 1 - fr)⟩]) := by
  obtain ⟨n, hn, ha⟩ := h.all
  have hr := h.room hi
  have hle := h.le
  have hc : min (s.drop fr).length (32 - (k + fr) % 32) = i + 1 - fr := by
    rw [List.length_drop]
    rcases hb with hb | hb <;> omega
  rcases n with _ | n
  · omega
  · refine ⟨Nat.le_refl _, hi, fun _ => by omega, fun h => h, n, by omega, ?_⟩
    rw [piecesF, if_neg (by intro e; have := congrArg List.length e; rw [List.length_drop] at this; simp at this; omega), hc] at ha
    rw [← ha, List.append_assoc, List.singleton_append, List.drop_drop, show k + fr + (i + 1 - fr) = k + (i + 1) by omega, show fr + (i + 1 - fr) = i + 1 by omega]
theorem Laid.on {f k : Nat} {s : List UInt8} {i fr : Nat} {done : List Pn} (h : Laid f k s i fr done) (hi : i < s.length) (hb : ¬ ((k + i + 1) % 32 = 0 ∨ i = s.length - 1)) : Laid f k s (i + 1) fr done := by
  have hr := h.room hi
  have hle := h.le
  exact ⟨by omega, hi, fun _ => by omega, fun e => by omega, h.all⟩
theorem Laid.end {f k : Nat} {s : List UInt8} {i fr : Nat} {done : List Pn} (h : Laid f k s i fr done) (hi : i = s.length) : done = pieces f k s := by
  obtain ⟨n, hn, ha⟩ := h.all
  have hf := h.last hi
  rw [hf, List.drop_length] at ha
  have : piecesF f n (k + s.length) [] = [] := by cases n <;> simp [piecesF]
  rw [this, List.append_nil] at ha
  exact ha

end Go.Proofs.Ytcleocgaooblfaa.W
