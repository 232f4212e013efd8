/-
  A row that grows by append, cell for cell. Its elements take one cell each.
-/
import Derived.Test.YtmgkoocpnakanaaL
import Derived.Maps.AppendAt
import Derived.Lib.Builder
import Derived.Laws.IdiomCopy
namespace Go.Proofs.Ytmgkoocpnakanaa.W
open Go.RowKit
set_option linter.unusedVariables false

/-- a row of one-cell elements that the call has made: nil, or a block of its own from B on, none of whose cells is frozen -/
structure Own (w : World) (B : Nat) (e : TypeId) (v : Value) (xs : List Value) : Prop where
  is : (v = .slice none 0 0 ∧ xs = []) ∨ ∃ g cap, v = .slice (some ⟨g, 0, none⟩) xs.length cap ∧ B ≤ g ∧ xs.length ≤ cap ∧ cap ≤ maxLen ∧ (∃ cur fz, w.heap[g]? = some (.cells cur e fz) ∧ cur.size = cap) ∧
    (∀ j u, xs[j]? = some u → w.cell? ⟨g, j, none⟩ = some u) ∧ (∀ j, j < cap → w.frozen? ⟨g, j, none⟩ = false)

theorem Own.nil (w : World) (B : Nat) (e : TypeId) : Own w B e (.slice none 0 0) [] := ⟨.inl ⟨rfl, rfl⟩⟩

theorem Own.lt {w : World} {B : Nat} {e : TypeId} {v : Value} {xs : List Value} (h : Own w B e v xs) {k : Nat} (hk : v.ownBlock = some k) : B ≤ k ∧ k < w.heap.size := by
  rcases h.is with ⟨rfl, _⟩ | ⟨g, cap, rfl, hB, _, _, ⟨cur, fz, hg, _⟩, _⟩
  · cases hk
  · have : g = k := by simpa [Value.ownBlock] using hk
    subst this
    refine ⟨hB, ?_⟩
    rcases Nat.lt_or_ge g w.heap.size with h | h
    · exact h
    · rw [Array.getElem?_eq_none h] at hg; cases hg

/-- a world that keeps the row's block keeps the row -/
theorem Own.keeps {S : Nat → Prop} {w w' : World} {B : Nat} {e : TypeId} {v : Value} {xs : List Value} (h : Own w B e v xs) (k : Keeps S w w') (hs : ∀ g, v.ownBlock = some g → ¬ S g) : Own w' B e v xs := by
  have hlt := fun {x} => h.lt (k := x)
  rcases h.is with h0 | ⟨g, cap, rfl, hB, hn, hm, ⟨cur, fz, hg, hc⟩, hcell, hfr⟩
  · exact ⟨.inl h0⟩
  · have hb := k.block g (hlt rfl).2 (hs g rfl)
    exact ⟨.inr ⟨g, cap, rfl, hB, hn, hm, ⟨cur, fz, by rw [hb, hg], hc⟩, fun j u hj => by rw [World.cell?_of_block hb]; exact hcell j u hj, fun j hj => by rw [World.frozen?_of_block hb]; exact hfr j hj⟩⟩

theorem Own.alloc {w : World} {B : Nat} {e : TypeId} {v : Value} {xs : List Value} (h : Own w B e v xs) (o : Obj) : Own (w.alloc o) B e v xs :=
  h.keeps ((Keeps.refl (fun _ => False) w).alloc o) (fun _ _ h => h)

theorem Own.slice {w : World} {B : Nat} {e : TypeId} {v : Value} {xs : List Value} (h : Own w B e v xs) (h0 : 0 < xs.length) : ∃ g cap, v = .slice (some ⟨g, 0, none⟩) xs.length cap := by
  rcases h.is with ⟨_, rfl⟩ | ⟨g, cap, rfl, _⟩
  · simp at h0
  · exact ⟨g, cap, rfl⟩

theorem Own.cast {w : World} {B : Nat} {e : TypeId} {v : Value} {xs xs' : List Value} (h : Own w B e v xs) (x : xs = xs') : Own w B e v xs' := x ▸ h

theorem Own.of_row {w : World} {B : Nat} {e : TypeId} {v : Value} {n : Nat} {xs : List Value} (h : w.ownsRow B e 1 v n xs) : Own w B e v xs := by
  have hl := h.1
  rcases h.2 with ⟨rfl, h0⟩ | ⟨g, cap, cur, rfl, hB, hg, hn, hm, hc, ht⟩
  · exact ⟨.inl ⟨rfl, List.eq_nil_of_length_eq_zero (by omega)⟩⟩
  · have hln : xs.length = n := by omega
    subst hln
    refine ⟨.inr ⟨g, cap, rfl, hB, hn, hm, ⟨cur, _, hg, by omega⟩, fun j u hj => ?_, fun j _ => by simp [World.frozen?, hg]⟩⟩
    have := h.cells (g := g) rfl j u hj
    have ea : (⟨g, 0, none⟩ : Addr).add j = ⟨g, j, none⟩ := by unfold Addr.add; split <;> simp_all
    rwa [ea] at this

theorem keeps_setCells {g : Nat} : ∀ (us : List Value) (o : Nat) (w : World), Keeps (fun k => some g = some k) w (w.setCells g o us)
  | [], _, w => Keeps.refl _ w
  | u :: r, o, w => by
    have h1 : Keeps (fun k => some g = some k) w (w.setCell ⟨g, o, none⟩ u) := (Keeps.refl (fun k => some g = some k) w).setCell (p := ⟨g, o, none⟩) (.inr rfl) u
    exact h1.trans (keeps_setCells r (o + 1) _)

theorem heap_setCells {g : Nat} {e : TypeId} {fz : Nat × Nat} : ∀ (us : List Value) (o : Nat) (w : World) (cur : Array Value), w.heap[g]? = some (.cells cur e fz) → ∃ cur', (w.setCells g o us).heap[g]? = some (.cells cur' e fz) ∧ cur'.size = cur.size
  | [], _, _, cur, h => ⟨cur, h, rfl⟩
  | u :: r, o, w, cur, h => by
    have h1 : (w.setCell ⟨g, o, none⟩ u).heap[g]? = some (.cells (cur.setIfInBounds o u) e fz) := by simp [World.setCell, Array.getElem?_modify, h]
    obtain ⟨c, hc, hs⟩ := heap_setCells r (o + 1) _ _ h1
    exact ⟨c, hc, by simpa using hs⟩

/-- append of elements that lie in a row -/
theorem run_app {P : Program} (w : World) (t ty e : TypeId) {i : TypeInfo} {z : Value} {bytes : Nat} (ht : P.underlying t = some (.slice e)) (hi : P.info? e = some i) (hz : i.zero = some z) (hsize : i.size = 1) (hby : i.bytes = bytes) (hzs : z.cells.size = 1)
    {B : Nat} (v : Value) (xs us : List Value) (hown : Own w B e v xs) (H c : Nat) (hus : ∀ j u, us[j]? = some u → w.cell? ⟨H, j, none⟩ = some u) (h1 : ∀ u ∈ us, u.oneCell' = true)
    (h63 : xs.length + us.length ≤ maxLen) (hbytes : (xs.length + us.length) * bytes ≤ 140737488355328) (hB : B ≤ w.heap.size) :
    ∃ v' w', (Builtin.append_ #[t, t] ty #[v, .slice (some ⟨H, 0, none⟩) us.length c]).run P w = .ok v' w' ∧ Own w' B e v' (xs ++ us) ∧ Keeps (fun k => v.ownBlock = some k) w w' ∧ (v'.ownBlock = v.ownBlock ∨ v'.ownBlock = some w.heap.size) := by
  have add0 : ∀ (g j : Nat), (⟨g, 0, none⟩ : Addr).add j = ⟨g, j, none⟩ := fun g j => by unfold Addr.add; split <;> simp_all
  rcases hown.is with ⟨rfl, rfl⟩ | ⟨g, cap, rfl, hg0, hn, hm, ⟨cur, fz, hg, hcs⟩, hcell, hfr⟩
  · obtain ⟨v', w', hr, h2, h3, _, h5⟩ := run_append_own_at (P := P) w B t ty e i z 1 bytes ht hi hz hsize hby hzs (by decide) (.slice none 0 0) 0 [] (World.ownsRow_nil w B e 1) ⟨H, 0, none⟩ us.length c us (by omega) (fun j u hj => by rw [add0]; exact hus j u hj) h1 (by simpa using h63) (by simpa using hbytes) hB
    exact ⟨v', w', hr, Own.of_row h2, ⟨h3.os, h3.tape, h3.output, h3.size, fun k hk hn => h3.block k hk (fun c => hn c.symm)⟩, h5⟩
  · by_cases hroom : xs.length + us.length ≤ cap
    · have hf := run_firstCells_some (P := P) w 1 us.length ⟨H, 0, none⟩ us.length c us (by omega) (fun j u hj => by rw [add0]; exact hus j u hj)
      have hsome : ∀ j, j < us.length → (w.cell? ⟨g, xs.length + 0 + j, none⟩).isSome = true := fun j hj => by
        have : xs.length + 0 + j < cur.size := by omega
        simp [World.cell?, hg]
        omega
      have hst := run_storeCells_cells (P := P) g xs.length us 0 w hsome (fun j hj => hfr _ (by omega)) h1
      refine ⟨.slice (some ⟨g, 0, none⟩) (xs.length + us.length) cap, w.setCells g xs.length us, ?_, ?_, keeps_setCells us _ w, .inl rfl⟩
      · simp only [Nat.add_zero] at hst
        simp [Builtin.append_, run_underlying ht, sizeOf, typeInfo, hi, Builtin.lenOf, hroom, hsize, Addr.add_lit, hf, hst]
      · obtain ⟨cur', hg', hs'⟩ := heap_setCells us xs.length w cur hg
        refine ⟨.inr ⟨g, cap, by rw [List.length_append], hg0, by rw [List.length_append]; exact hroom, hm, ⟨cur', fz, hg', by omega⟩, fun j u hj => ?_, fun j hj => by rw [World.frozen?_setCells]; exact hfr j hj⟩⟩
        by_cases hlt : j < xs.length
        · rw [World.cell?_setCells_out _ _ _ _ _ (fun _ _ => .inl hlt)]
          rw [List.getElem?_append_left hlt] at hj
          exact hcell j u hj
        · rw [List.getElem?_append_right (by omega)] at hj
          have hju : j - xs.length < us.length := (List.getElem?_eq_some_iff.1 hj).1
          have := World.cell?_setCells_in g us xs.length w (fun k hk => by simpa using hsome k hk) (j - xs.length) hju
          rw [show xs.length + (j - xs.length) = j by omega] at this
          rw [this]
          rw [List.getElem?_eq_getElem hju] at hj
          exact hj
    · have hr := run_append_grow (P := P) w t ty e i z ht hi hz ⟨g, 0, none⟩ xs.length cap xs (by rw [hsize]; omega) (fun j u hj => by rw [add0]; exact hcell j u hj) ⟨H, 0, none⟩ us.length c us (by rw [hsize]; omega) (fun j u hj => by rw [add0]; exact hus j u hj) (by omega) (by simp only [maxLen] at h63; omega) (growslice_fits (by omega) (by rw [hby]; exact hbytes))
      refine ⟨_, _, hr, Own.of_row (n := xs.length + us.length) ⟨by rw [List.length_append]; omega, .inr ⟨w.heap.size, _, _, rfl, hB, heap_alloc_new w.drew _, grownCap_ge w _ cap e, grownCap_le_maxLen w _ cap e h63, ?_, ?_⟩⟩, ((Keeps.refl _ w).drew).alloc _, .inr rfl⟩
      · have hge := grownCap_ge w (xs.length + us.length) cap e
        simp only [Array.size_append, List.size_toArray, size_zeroCells, hzs]
        omega
      · simp only [Array.toList_append, List.append_assoc]
        rw [← List.append_assoc, show (xs.length + us.length) * 1 = (xs ++ us).length by rw [List.length_append]; omega]
        exact List.take_left

theorem wp_app {P : Program} {ops : Array Oper} {rest : List Oper} {o : Oper} {a : Act} {Q : Exit → Act → World → Prop} (hgd : o.guard = none) (s x : Operand) (t : TypeId)
    (ho : o.op = .call { callee := .builtin .append, args := #[s, x], argTypes := #[t, t] })
    (e : TypeId) {i : TypeInfo} {z : Value} {bytes : Nat} (ht : P.underlying t = some (.slice e)) (hi : P.info? e = some i) (hz : i.zero = some z) (hsize : i.size = 1) (hby : i.bytes = bytes) (hzs : z.cells.size = 1)
    {B : Nat} (v : Value) (xs us : List Value) (W : World) (hs : a.eval s = v) (hown : Own W B e v xs) (hx : a.eval x = .slice (some ⟨W.heap.size, 0, none⟩) us.length us.length) (h1 : ∀ u ∈ us, u.oneCell' = true)
    (hl : xs.length + us.length ≤ maxLen) (hlen : (xs.length + us.length) * bytes ≤ 140737488355328) (hB : B ≤ W.heap.size)
    (h : ∀ v' w', Own w' B e v' (xs ++ us) → Keeps (fun k => v.ownBlock = some k) W w' → (v'.ownBlock = v.ownBlock ∨ ∃ k, W.heap.size ≤ k ∧ v'.ownBlock = some k) → wpList P ops Q rest (a.put o.dst v') w') :
    wpList P ops Q (o :: rest) a (W.alloc (.cells us.toArray e)) := by
  obtain ⟨v', w', hr, h2, h3, h5⟩ := run_app (P := P) (W.alloc (.cells us.toArray e)) t o.type e ht hi hz hsize hby hzs v xs us (hown.alloc _) W.heap.size us.length (fun j u hj => by
    have hb : (W.alloc (.cells us.toArray e)).heap[W.heap.size]? = some (.cells us.toArray e (0, 0)) := by
      show (W.heap.push _)[W.heap.size]? = _
      simp
    simp only [World.cell?, hb]
    simpa using hj) h1 hl hlen (by simp; omega)
  refine wpList_plain hgd fun K hK => ?_
  unfold Oper.wp execOp
  simp only [ho, resolve, invoke, builtin, Sem.run_bind, Sem.run_pure, Result.andThen_ok, List.map_toArray, List.map_cons, List.map_nil, hs, hx, hr]
  refine hK _ _ (h v' w' h2 (((Keeps.refl _ W).alloc _).trans h3) ?_)
  rcases h5 with h5 | h5
  · exact .inl h5
  · exact .inr ⟨W.heap.size + 1, by omega, by simpa using h5⟩

theorem wp_app1 {P : Program} {ops : Array Oper} {rest : List Oper} {o : Oper} {a : Act} {Q : Exit → Act → World → Prop} (hgd : o.guard = none) (s x : Operand) (t : TypeId)
    (ho : o.op = .call { callee := .builtin .append, args := #[s, x], argTypes := #[t, t] })
    (e : TypeId) {i : TypeInfo} {z : Value} {bytes : Nat} (ht : P.underlying t = some (.slice e)) (hi : P.info? e = some i) (hz : i.zero = some z) (hsize : i.size = 1) (hby : i.bytes = bytes) (hzs : z.cells.size = 1)
    {B : Nat} (v : Value) (xs : List Value) (u : Value) (W : World) (hs : a.eval s = v) (hown : Own W B e v xs) (hx : a.eval x = .slice (some ⟨W.heap.size, 0, none⟩) 1 1) (h1 : u.oneCell' = true)
    (hl : xs.length + 1 ≤ maxLen) (hlen : (xs.length + 1) * bytes ≤ 140737488355328) (hB : B ≤ W.heap.size)
    (h : ∀ v' w', Own w' B e v' (xs ++ [u]) → Keeps (fun k => v.ownBlock = some k) W w' → (v'.ownBlock = v.ownBlock ∨ ∃ k, W.heap.size ≤ k ∧ v'.ownBlock = some k) → wpList P ops Q rest (a.put o.dst v') w') :
    wpList P ops Q (o :: rest) a (W.alloc (.cells #[u] e)) :=
  wp_app hgd s x t ho e ht hi hz hsize hby hzs v xs [u] W hs hown hx (fun y hy => by simp at hy; subst hy; exact h1) hl hlen hB h

/-- at a step of a region that draws its order -/
theorem step_app {P : Program} {ops : Array Oper} {o : Oper} {a : Act} {K : Act → World → Prop} {Q : Exit → Act → World → Prop} {E : Prop} (hgd : o.guard = none) (s x : Operand) (t : TypeId)
    (ho : o.op = .call { callee := .builtin .append, args := #[s, x], argTypes := #[t, t] })
    (e : TypeId) {i : TypeInfo} {z : Value} {bytes : Nat} (ht : P.underlying t = some (.slice e)) (hi : P.info? e = some i) (hz : i.zero = some z) (hsize : i.size = 1) (hby : i.bytes = bytes) (hzs : z.cells.size = 1)
    {B : Nat} (v : Value) (xs us : List Value) (W : World) (H c : Nat) (hs : a.eval s = v) (hown : Own W B e v xs) (hx : a.eval x = .slice (some ⟨H, 0, none⟩) us.length c) (hH : ∃ T f, W.heap[H]? = some (.cells us.toArray T f)) (h1 : ∀ u ∈ us, u.oneCell' = true)
    (hl : xs.length + us.length ≤ maxLen) (hlen : (xs.length + us.length) * bytes ≤ 140737488355328) (hB : B ≤ W.heap.size)
    (h : ∀ v' w', Own w' B e v' (xs ++ us) → Keeps (fun k => v.ownBlock = some k) W w' → (v'.ownBlock = v.ownBlock ∨ ∃ k, W.heap.size ≤ k ∧ v'.ownBlock = some k) → K (a.put o.dst v') w') :
    if Region.wanted o (yielded ops a.tmps) = true then Oper.wp P o a W K Q else E := by
  have hw : Region.wanted o (yielded ops a.tmps) = true := by simp [Region.wanted, hgd]
  rw [if_pos hw]
  obtain ⟨T, f, hT⟩ := hH
  obtain ⟨v', w', hr, h2, h3, h5⟩ := run_app (P := P) W t o.type e ht hi hz hsize hby hzs v xs us hown H c (fun j u hj => by
    simp only [World.cell?, hT]
    simpa using hj) h1 hl hlen hB
  unfold Oper.wp execOp
  simp only [ho, resolve, invoke, builtin, Sem.run_bind, Sem.run_pure, Result.andThen_ok, List.map_toArray, List.map_cons, List.map_nil, hs, hx, hr]
  refine h v' w' h2 h3 ?_
  rcases h5 with h5 | h5
  · exact .inl h5
  · exact .inr ⟨W.heap.size, Nat.le_refl _, h5⟩

theorem step_app1 {P : Program} {ops : Array Oper} {o : Oper} {a : Act} {K : Act → World → Prop} {Q : Exit → Act → World → Prop} {E : Prop} (hgd : o.guard = none) (s x : Operand) (t : TypeId)
    (ho : o.op = .call { callee := .builtin .append, args := #[s, x], argTypes := #[t, t] })
    (e : TypeId) {i : TypeInfo} {z : Value} {bytes : Nat} (ht : P.underlying t = some (.slice e)) (hi : P.info? e = some i) (hz : i.zero = some z) (hsize : i.size = 1) (hby : i.bytes = bytes) (hzs : z.cells.size = 1)
    {B : Nat} (v : Value) (xs : List Value) (u : Value) (W : World) (H c : Nat) (hs : a.eval s = v) (hown : Own W B e v xs) (hx : a.eval x = .slice (some ⟨H, 0, none⟩) 1 c) (hH : ∃ T f, W.heap[H]? = some (.cells #[u] T f)) (h1 : u.oneCell' = true)
    (hl : xs.length + 1 ≤ maxLen) (hlen : (xs.length + 1) * bytes ≤ 140737488355328) (hB : B ≤ W.heap.size)
    (h : ∀ v' w', Own w' B e v' (xs ++ [u]) → Keeps (fun k => v.ownBlock = some k) W w' → (v'.ownBlock = v.ownBlock ∨ ∃ k, W.heap.size ≤ k ∧ v'.ownBlock = some k) → K (a.put o.dst v') w') :
    if Region.wanted o (yielded ops a.tmps) = true then Oper.wp P o a W K Q else E :=
  step_app hgd s x t ho e ht hi hz hsize hby hzs v xs [u] W H c hs hown hx hH (fun y hy => by simp at hy; subst hy; exact h1) hl hlen hB h

theorem infoU8 : (Try.prog.info? 5).map (fun i => (i.zero, i.size, i.bytes)) = some (some (.int .u8 0), 1, 1) := by kernel_rfl

theorem back_nil (W : World) : (convert 53 9 (.slice none 0 0)).run Try.prog W = .ok (.string ⟨#[]⟩) W := by kernel_rfl

/-- what a row of bytes reads as -/
theorem Own.back {W : World} {B : Nat} {v : Value} {l : List UInt8} (h : Own W B 5 v (Lib.byteCells l)) : (convert 53 9 v).run Try.prog W = .ok (.string ⟨l.toArray⟩) W := by
  have hl : (Lib.byteCells l).length = l.length := by simp [Lib.byteCells]
  rcases h.is with ⟨rfl, h0⟩ | ⟨g, cap, rfl, _, _, _, _, hcell, _⟩
  · have e : l = [] := List.length_eq_zero_iff.1 (by rw [← hl, h0]; rfl)
    subst e
    exact back_nil W
  · rw [hl]
    exact run_convert_bytes_back (P := Try.prog) W 53 9 5 ⟨g, 0, none⟩ cap l Try.underlying53 Try.underlying5 Try.underlying9 (fun j hj => by
      have ea : (⟨g, 0, none⟩ : Addr).add j = ⟨g, j, none⟩ := by unfold Addr.add; split <;> simp_all
      rw [ea]
      refine hcell j _ ?_
      simp [Lib.byteCells, List.getElem?_eq_getElem hj])

/-- the row of []byte(s) -/
theorem Own.of_string (w : World) (s : ByteArray) (cap : Nat) (hc : s.size ≤ cap) (hm : cap ≤ maxLen) :
    Own (w.drew.alloc (.cells (bytesRow s cap) 5 ((bytesRow s cap).size, (bytesRow s cap).size + 1))) w.heap.size 5 (.slice (some ⟨w.heap.size, 0, none⟩) s.size cap) (Lib.byteCells s.data.toList) := by
  have hl : (Lib.byteCells s.data.toList).length = s.size := by simp [Lib.byteCells]
  have hsz : (bytesRow s cap).size = cap := by simp [bytesRow]; omega
  have hb : (w.drew.alloc (.cells (bytesRow s cap) 5 ((bytesRow s cap).size, (bytesRow s cap).size + 1))).heap[w.heap.size]? = some (.cells (bytesRow s cap) 5 ((bytesRow s cap).size, (bytesRow s cap).size + 1)) := by
    show (w.heap.push _)[w.heap.size]? = _
    simp
  refine ⟨.inr ⟨w.heap.size, cap, by rw [hl], Nat.le_refl _, by rw [hl]; exact hc, hm, ⟨_, _, hb, hsz⟩, fun j u hj => ?_, fun j hj => ?_⟩⟩
  · have hj' : j < s.size := by rw [← hl]; exact (List.getElem?_eq_some_iff.1 hj).1
    have h := bytesRow_at s cap j hj'
    simp only [World.cell?, hb]
    rw [show (bytesRow s cap)[j]? = some u from by rw [h, ← hj]; simp [Lib.byteCells, hj']]
    rfl
  · simp only [World.frozen?, hb]; simp; omega

theorem i64_xor_nat (a b : Nat) (ha : a < 9223372036854775808) (hb : b < 9223372036854775808) : bits .xor .i64 (a : Int) (b : Int) = ((a ^^^ b : Nat) : Int) := by
  have hx : a ^^^ b < 2 ^ 63 := Nat.xor_lt_two_pow (by omega) (by omega)
  show IntKind.i64.wrap ((BitVec.ofInt 64 (a : Int) ^^^ BitVec.ofInt 64 (b : Int)).toNat : Int) = _
  rw [BitVec.toNat_xor, ofInt_u64 a (by omega), ofInt_u64 b (by omega)]
  exact IntWalk.i64_in _ (by omega)

theorem u8_xor (a b : UInt8) : bits BinOp.xor IntKind.u8 (a.toNat : Int) (b.toNat : Int) = ((a ^^^ b).toNat : Int) := by
  rw [UInt8.toNat_xor]
  exact u8_xor_nat a.toNat b.toNat a.toNat_lt b.toNat_lt

end Go.Proofs.Ytmgkoocpnakanaa.W
