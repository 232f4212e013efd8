/-
  A row that grows by append, cell for cell. Its elements take one cell each.
-/
import Derived.Test.YtcocjdcnmfodcaaDoorL
import Derived.Maps.AppendAt
import Derived.Lib.Builder
import Derived.Laws.IdiomCopy
namespace Go.Proofs.YtcocjdcnmfodcaaDoor.W
open Go.RowKit
set_option linter.unusedVariables false

structure Own (w : World) (B : Nat) (e : TypeId) (v : Value) (xs : List Value) : Prop where
  is : w.ownsRow B e 1 v xs.length xs

theorem Own.nil (w : World) (B : Nat) (e : TypeId) : Own w B e (.slice none 0 0) [] := ⟨World.ownsRow_nil w B e 1⟩

theorem Own.alloc {w : World} {B : Nat} {e : TypeId} {v : Value} {xs : List Value} (h : Own w B e v xs) (o : Obj) : Own (w.alloc o) B e v xs := ⟨h.is.alloc o⟩

theorem Own.lt {w : World} {B : Nat} {e : TypeId} {v : Value} {xs : List Value} (h : Own w B e v xs) {k : Nat} (hk : v.ownBlock = some k) : B ≤ k ∧ k < w.heap.size := h.is.lt k hk

/-- a world that keeps the row's block keeps the row -/
theorem Own.keeps {S : Nat → Prop} {w w' : World} {B : Nat} {e : TypeId} {v : Value} {xs : List Value} (h : Own w B e v xs) (k : Keeps S w w') (hs : ∀ g, v.ownBlock = some g → ¬ S g) : Own w' B e v xs := by
  refine ⟨h.is.1, ?_⟩
  rcases h.is.2 with h0 | ⟨g, cap, cur, rfl, h2⟩
  · exact .inl h0
  · have hl := h.lt (k := g) rfl
    exact .inr ⟨g, cap, cur, rfl, h2.1, by rw [k.block g hl.2 (hs g rfl)]; exact h2.2.1, h2.2.2⟩

theorem Own.slice {w : World} {B : Nat} {e : TypeId} {v : Value} {xs : List Value} (h : Own w B e v xs) (h0 : 0 < xs.length) : ∃ g cap, v = .slice (some ⟨g, 0, none⟩) xs.length cap := by
  rcases h.is.2 with ⟨_, h1⟩ | ⟨g, cap, cur, rfl, _⟩
  · omega
  · exact ⟨g, cap, rfl⟩

theorem Own.cast {w : World} {B : Nat} {e : TypeId} {v : Value} {xs xs' : List Value} (h : Own w B e v xs) (x : xs = xs') : Own w B e v xs' := x ▸ h

theorem wp_app1 {P : Program} {ops : Array Oper} {rest : List Oper} {o : Oper} {a : Act} {Q : Exit → Act → World → Prop} (hgd : o.guard = none) (s x : Operand) (t : TypeId)
    (ho : o.op = .call { callee := .builtin .append, args := #[s, x], argTypes := #[t, t] })
    (e : TypeId) {i : TypeInfo} {z : Value} {bytes : Nat} (ht : P.underlying t = some (.slice e)) (hi : P.info? e = some i) (hz : i.zero = some z) (hsize : i.size = 1) (hby : i.bytes = bytes) (hzs : z.cells.size = 1)
    {B : Nat} (v : Value) (xs : List Value) (u : Value) (W : World) (hs : a.eval s = v) (hown : Own W B e v xs) (hx : a.eval x = .slice (some ⟨W.heap.size, 0, none⟩) 1 1) (h1 : u.oneCell' = true)
    (hl : xs.length + 1 ≤ maxLen) (hlen : (xs.length + 1) * bytes ≤ 140737488355328) (hB : B ≤ W.heap.size)
    (h : ∀ v' w', Own w' B e v' (xs ++ [u]) → Keeps (fun k => v.ownBlock = some k) W w' → (v'.ownBlock = v.ownBlock ∨ ∃ k, W.heap.size ≤ k ∧ v'.ownBlock = some k) → wpList P ops Q rest (a.put o.dst v') w') :
    wpList P ops Q (o :: rest) a (W.alloc (.cells #[u] e)) := by
  refine wpList_append_own_at _ hgd s x t ho B e i z 1 bytes ht hi hz hsize hby hzs (by decide) v xs.length xs hs (hown.alloc _).is ⟨W.heap.size, 0, none⟩ 1 1 [u] hx rfl ?_ (fun y hy => by simp at hy; subst hy; exact h1) hl hlen (by simp; omega) ?_
  · intro j y hj
    match j, hj with
    | 0, hj => simp at hj; subst hj; simp [Addr.add]
  · intro v' w' h2 h3 _ h5
    refine h v' w' ⟨by simpa using h2⟩ ⟨h3.os, h3.tape, h3.output, by have := h3.size; simp at this; omega, fun k hk hn => ?_⟩ ?_
    · rw [h3.block k (by simp; omega) (fun c => hn c.symm)]
      show (W.heap.push _)[k]? = _
      rw [Array.getElem?_push, if_neg (by omega)]
    · rcases h5 with h5 | h5
      · exact .inl h5
      · exact .inr ⟨W.heap.size + 1, by omega, by simpa using h5⟩

/-- the same at a step of a region that draws its order -/
theorem step_app1 {P : Program} {ops : Array Oper} {o : Oper} {a : Act} {K : Act → World → Prop} {Q : Exit → Act → World → Prop} {E : Prop} (hgd : o.guard = none) (s x : Operand) (t : TypeId)
    (ho : o.op = .call { callee := .builtin .append, args := #[s, x], argTypes := #[t, t] })
    (e : TypeId) {i : TypeInfo} {z : Value} {bytes : Nat} (ht : P.underlying t = some (.slice e)) (hi : P.info? e = some i) (hz : i.zero = some z) (hsize : i.size = 1) (hby : i.bytes = bytes) (hzs : z.cells.size = 1)
    {B : Nat} (v : Value) (xs : List Value) (u : Value) (W : World) (H c : Nat) (hs : a.eval s = v) (hown : Own W B e v xs) (hx : a.eval x = .slice (some ⟨H, 0, none⟩) 1 c) (hH : ∃ T f, W.heap[H]? = some (.cells #[u] T f)) (h1 : u.oneCell' = true)
    (hl : xs.length + 1 ≤ maxLen) (hlen : (xs.length + 1) * bytes ≤ 140737488355328) (hB : B ≤ W.heap.size)
    (h : ∀ v' w', Own w' B e v' (xs ++ [u]) → Keeps (fun k => v.ownBlock = some k) W w' → (v'.ownBlock = v.ownBlock ∨ ∃ k, W.heap.size ≤ k ∧ v'.ownBlock = some k) → K (a.put o.dst v') w') :
    if Region.wanted o (yielded ops a.tmps) = true then Oper.wp P o a W K Q else E := by
  have hw : Region.wanted o (yielded ops a.tmps) = true := by simp [Region.wanted, hgd]
  rw [if_pos hw]
  obtain ⟨T, f, hT⟩ := hH
  obtain ⟨v', w', hr, h2, h3, _, h5⟩ := run_append_own_at (P := P) W B t o.type e i z 1 bytes ht hi hz hsize hby hzs (by decide) v xs.length xs hown.is ⟨H, 0, none⟩ 1 c [u] rfl (by
    intro j y hj
    match j, hj with
    | 0, hj => simp at hj; subst hj; simp [Addr.add, World.cell?, hT]) (fun y hy => by simp at hy; subst hy; exact h1) hl hlen hB
  unfold Oper.wp execOp
  simp only [ho, resolve, invoke, builtin, Sem.run_bind, Sem.run_pure, Result.andThen_ok, List.map_toArray, List.map_cons, List.map_nil, hs, hx, hr]
  refine h v' w' ⟨by simpa using h2⟩ ⟨h3.os, h3.tape, h3.output, h3.size, fun k hk hn => h3.block k hk (fun c => hn c.symm)⟩ ?_
  rcases h5 with h5 | h5
  · exact .inl h5
  · exact .inr ⟨W.heap.size, Nat.le_refl _, h5⟩

theorem infoU8 : (Tryd.prog.info? 5).map (fun i => (i.zero, i.size, i.bytes)) = some (some (.int .u8 0), 1, 1) := by kernel_rfl

theorem back_nil (W : World) : (convert 30 9 (.slice none 0 0)).run Tryd.prog W = .ok (.string ⟨#[]⟩) W := by kernel_rfl

/-- what a row of bytes reads as -/
theorem Own.back {W : World} {B : Nat} {v : Value} {l : List UInt8} (h : Own W B 5 v (Lib.byteCells l)) : (convert 30 9 v).run Tryd.prog W = .ok (.string ⟨l.toArray⟩) W := by
  have hl : (Lib.byteCells l).length = l.length := by simp [Lib.byteCells]
  rcases Nat.eq_zero_or_pos l.length with h0 | h0
  · have e : l = [] := List.length_eq_zero_iff.1 h0
    subst e
    rcases h.is.2 with ⟨rfl, _⟩ | ⟨g, cap, cur, rfl, _⟩
    · exact back_nil W
    · exact run_convert_bytes_back (P := Tryd.prog) W 30 9 5 ⟨g, 0, none⟩ cap [] Tryd.underlying30 Tryd.underlying5 Tryd.underlying9 (fun j hj => by simp at hj)
  · obtain ⟨g, cap, rfl⟩ := h.slice (by omega)
    rw [hl]
    exact run_convert_bytes_back (P := Tryd.prog) W 30 9 5 ⟨g, 0, none⟩ cap l Tryd.underlying30 Tryd.underlying5 Tryd.underlying9 (fun j hj => by
      refine h.is.cells rfl j _ ?_
      simp [Lib.byteCells, List.getElem?_eq_getElem hj])

theorem i64_xor_nat (a b : Nat) (ha : a < 9223372036854775808) (hb : b < 9223372036854775808) : bits .xor .i64 (a : Int) (b : Int) = ((a ^^^ b : Nat) : Int) := by
  have hx : a ^^^ b < 2 ^ 63 := Nat.xor_lt_two_pow (by omega) (by omega)
  show IntKind.i64.wrap ((BitVec.ofInt 64 (a : Int) ^^^ BitVec.ofInt 64 (b : Int)).toNat : Int) = _
  rw [BitVec.toNat_xor, ofInt_u64 a (by omega), ofInt_u64 b (by omega)]
  exact IntWalk.i64_in _ (by omega)

theorem u8_xor (a b : UInt8) : bits BinOp.xor IntKind.u8 (a.toNat : Int) (b.toNat : Int) = ((a ^^^ b).toNat : Int) := by
  rw [UInt8.toNat_xor]
  exact u8_xor_nat a.toNat b.toNat a.toNat_lt b.toNat_lt

end Go.Proofs.YtcocjdcnmfodcaaDoor.W
