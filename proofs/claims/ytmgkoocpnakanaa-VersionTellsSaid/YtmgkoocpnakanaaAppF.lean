/-
  append to a row without room: what lay there stays.
-/
import Derived.Test.YtmgkoocpnakanaaApp
import Derived.Deep.Upon
namespace Go.Proofs.Ytmgkoocpnakanaa.W
open Go.RowKit
set_option linter.unusedVariables false

theorem app_fresh {P : Program} (w : World) (t ty e : TypeId) {i : TypeInfo} {z : Value} {size bytes : Nat} (ht : P.underlying t = some (.slice e)) (hi : P.info? e = some i) (hz : i.zero = some z) (hsize : i.size = size) (hby : i.bytes = bytes) (hzs : z.cells.size = size) (h0 : 0 < size)
    (B : Nat) (hB : B ≤ w.heap.size) (p : Option Addr) (hown : w.ownsRow B e size (.slice p 0 0) 0 []) (q : Option Addr) (m c : Nat) (us : List Value) (hx : (q = none ∧ m = 0) ∨ ∃ a, q = some a ∧ ∀ j u, us[j]? = some u → w.cell? (a.add j) = some u)
    (hm : us.length = m * size) (h1 : ∀ u ∈ us, u.oneCell' = true) (h63 : m ≤ maxLen) (hbytes : m * bytes ≤ 140737488355328) :
    ∃ v' w', (Builtin.append_ #[t, t] ty #[.slice p 0 0, .slice q m c]).run P w = .ok v' w' ∧ w'.ownsRow B e size v' m us ∧ Keeps (fun _ => False) w w' := by
  have hsz : i.size = size := hsize
  have nothing : m = 0 → ∀ hs : Src P i.size t (.slice q m c) 0 [] w, ∃ v' w', (Builtin.append_ #[t, t] ty #[.slice p 0 0, .slice q m c]).run P w = .ok v' w' ∧ w'.ownsRow B e size v' m us ∧ Keeps (fun _ => False) w w' := by
    intro hm0 hs
    have hr := run_append_nothing (P := P) w t t ty e i ht hi p 0 0 (Nat.le_refl _) (.slice q m c) hs
    have hus : us = [] := List.length_eq_zero_iff.1 (by rw [hm, hm0, Nat.zero_mul])
    exact ⟨_, _, hr, by rw [hm0, hus]; exact hown, Keeps.refl _ _⟩
  rcases hx with ⟨rfl, rfl⟩ | ⟨a, rfl, hc⟩
  · exact nothing rfl (Src.ofNil w ht c)
  · have hsrc : Src P i.size t (.slice (some a) m c) m us w := Src.ofSlice w ht a m c us (by rw [hsz]; exact hm) hc h1
    rcases Nat.eq_zero_or_pos m with hm0 | hm0
    · subst hm0
      have hus : us = [] := List.length_eq_zero_iff.1 (by rw [hm, Nat.zero_mul])
      exact nothing rfl (hus ▸ hsrc)
    · obtain ⟨v', w', hr, h2, _, _, _⟩ := run_append_own_at (P := P) w B t ty e i z size bytes ht hi hz hsize hby hzs h0 (.slice p 0 0) 0 [] hown a m c us hm hc h1 (by omega) (by rw [Nat.zero_add]; exact hbytes) hB
      have hold : (Builtin.firstCells i.size 0 (.slice p 0 0)).run P w.drew = .ok ([] : List Value).toArray w.drew := by
        rcases p with _ | p
        · exact run_firstCells_none w.drew i.size 0 0 0
        · exact run_firstCells_some w.drew i.size 0 p 0 0 [] (by simp) (by simp)
      have hg := run_append_grow_src (P := P) w t t ty e i z ht hi hz p 0 0 [] hold (.slice (some a) m c) m us hsrc (by omega) (by unfold maxLen at h63; omega) (by
        have : Builtin.nextslicecap (0 + m) 0 = m := by unfold Builtin.nextslicecap; rw [if_pos (by omega)]; omega
        rw [this, hby]; omega)
      rw [hg] at hr
      injection hr with e1 e2
      subst e1 e2
      refine ⟨_, _, hg, by simpa using h2, ((Keeps.refl _ w).drew).alloc _⟩

theorem oper_append {P : Program} {o : Oper} {a : Act} {K : Act → World → Prop} {Q : Exit → Act → World → Prop} {W : World} (s x : Operand) (t : TypeId)
    (ho : o.op = .call { callee := .builtin .append, args := #[s, x], argTypes := #[t, t] }) (vs vx : Value) (hs : a.eval s = vs) (hx : a.eval x = vx) {v' : Value} {w' : World}
    (hr : (Builtin.append_ #[t, t] o.type #[vs, vx]).run P W = .ok v' w') (h : K (a.put o.dst v') w') : Oper.wp P o a W K Q := by
  unfold Oper.wp execOp
  simp only [ho, resolve, invoke, builtin, Sem.run_bind, Sem.run_pure, Result.andThen_ok, List.map_toArray, List.map_cons, List.map_nil, hs, hx, hr]
  exact h

end Go.Proofs.Ytmgkoocpnakanaa.W
