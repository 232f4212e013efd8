/-
  append of a read-only row to an own one.
-/
import Derived.Test.YtlohhlbbkliehaaGreatDoorOwn
import Derived.Test.YtlohhlbbkliehaaGreatDoorRw
import Derived.Test.YtlohhlbbkliehaaGreatDoorApp
import Derived.Test.YtlohhlbbkliehaaGreatDoorAppF
namespace Go.Proofs.YtlohhlbbkliehaaGreatDoor.W
open Go.RowKit
set_option linter.unusedVariables false

/-- append of elements that lie in a row, wherever it begins -/
theorem run_app_at {P : Program} (w : World) (t ty e : TypeId) {i : TypeInfo} {z : Value} {bytes : Nat} (ht : P.underlying t = some (.slice e)) (hi : P.info? e = some i) (hz : i.zero = some z) (hsize : i.size = 1) (hby : i.bytes = bytes) (hzs : z.cells.size = 1)
    {B : Nat} (v : Value) (xs us : List Value) (hown : Own w B e v xs) (A : Addr) (c : Nat) (hus : ∀ j u, us[j]? = some u → w.cell? (A.add j) = some u) (h1 : ∀ u ∈ us, u.oneCell' = true)
    (h63 : xs.length + us.length ≤ maxLen) (hbytes : (xs.length + us.length) * bytes ≤ 140737488355328) (hB : B ≤ w.heap.size) :
    ∃ v' w', (Builtin.append_ #[t, t] ty #[v, .slice (some A) us.length c]).run P w = .ok v' w' ∧ Own w' B e v' (xs ++ us) ∧ Keeps (fun k => v.ownBlock = some k) w w' ∧ (v'.ownBlock = v.ownBlock ∨ v'.ownBlock = some w.heap.size) := by
  have add0 : ∀ (g j : Nat), (⟨g, 0, none⟩ : Addr).add j = ⟨g, j, none⟩ := fun g j => by unfold Addr.add; split <;> simp_all
  rcases hown.is with ⟨rfl, rfl⟩ | ⟨g, cap, rfl, hg0, hn, hm, ⟨cur, fz, hg, hcs⟩, hcell, hfr⟩
  · obtain ⟨v', w', hr, h2, h3, _, h5⟩ := run_append_own_at (P := P) w B t ty e i z 1 bytes ht hi hz hsize hby hzs (by decide) (.slice none 0 0) 0 [] (World.ownsRow_nil w B e 1) A us.length c us (by omega) hus h1 (by simpa using h63) (by simpa using hbytes) hB
    exact ⟨v', w', hr, Own.of_row h2, ⟨h3.os, h3.tape, h3.output, h3.size, fun k hk hn => h3.block k hk (fun c => hn c.symm)⟩, h5⟩
  · by_cases hroom : xs.length + us.length ≤ cap
    · have hf := run_firstCells_some (P := P) w 1 us.length A us.length c us (by omega) hus
      have hsome : ∀ j, j < us.length → (w.cell? ⟨g, xs.length + 0 + j, none⟩).isSome = true := fun j hj => by
        have : xs.length + 0 + j < cur.size := by omega
        simp [World.cell?, hg]
        omega
      have hst := run_storeCells_cells (P := P) g xs.length us 0 w hsome (fun j hj => hfr _ (by omega)) h1
      refine ⟨.slice (some ⟨g, 0, none⟩) (xs.length + us.length) cap, w.setCells g xs.length us, ?_, ?_, keeps_setCells us _ w, .inl rfl⟩
      · simp only [Nat.add_zero] at hst
        simp [Builtin.append_, run_underlying ht, sizeOf, typeInfo, hi, Builtin.lenOf, hroom, hsize, Addr.add_lit, hf, hst]
      · obtain ⟨cur', hg', hs'⟩ := heap_setCells us xs.length w cur hg
        refine ⟨.inr ⟨g, cap, by rw [List.length_append], hg0, by rw [List.length_append]; exact hroom, hm, ⟨cur', fz, hg', by omega⟩, fun j u hj => ?_, fun j hj => by rw [World.frozen?_setCells]; exact hfr j hj⟩⟩
        by_cases hlt : j < xs.length
        · rw [World.cell?_setCells_out _ _ _ _ _ (fun _ _ => .inl hlt)]
          rw [List.getElem?_append_left hlt] at hj
          exact hcell j u hj
        · rw [List.getElem?_append_right (by omega)] at hj
          have hju : j - xs.length < us.length := (List.getElem?_eq_some_iff.1 hj).1
          have := World.cell?_setCells_in g us xs.length w (fun k hk => by simpa using hsome k hk) (j - xs.length) hju
          rw [show xs.length + (j - xs.length) = j by omega] at this
          rw [this]
          rw [List.getElem?_eq_getElem hju] at hj
          exact hj
    · have hr := run_append_grow (P := P) w t ty e i z ht hi hz ⟨g, 0, none⟩ xs.length cap xs (by rw [hsize]; omega) (fun j u hj => by rw [add0]; exact hcell j u hj) A us.length c us (by rw [hsize]; omega) hus (by omega) (by simp only [maxLen] at h63; omega) (growslice_fits (by omega) (by rw [hby]; exact hbytes))
      refine ⟨_, _, hr, Own.of_row (n := xs.length + us.length) ⟨by rw [List.length_append]; omega, .inr ⟨w.heap.size, _, _, rfl, hB, heap_alloc_new w.drew _, grownCap_ge w _ cap e, grownCap_le_maxLen w _ cap e h63, ?_, ?_⟩⟩, ((Keeps.refl _ w).drew).alloc _, .inr rfl⟩
      · have hge := grownCap_ge w (xs.length + us.length) cap e
        simp only [Array.size_append, List.size_toArray, size_zeroCells, hzs]
        omega
      · simp only [Array.toList_append, List.append_assoc]
        rw [← List.append_assoc, show (xs.length + us.length) * 1 = (xs ++ us).length by rw [List.length_append]; omega]
        exact List.take_left

theorem infoIntR : (Tryz.prog.info? 3).map (fun i => (i.zero, i.size, i.bytes)) = some (some (.int .i64 0), 1, 8) := by kernel_rfl
theorem Own.slice0 {w : World} {B : Nat} {e : TypeId} {v : Value} {xs : List Value} (h : Own w B e v xs) : ∃ p c, v = .slice p xs.length c ∧ xs.length ≤ c := by
  rcases h.is with ⟨rfl, rfl⟩ | ⟨g, cap, rfl, _, hn, _⟩
  · exact ⟨none, 0, rfl, Nat.le_refl _⟩
  · exact ⟨_, cap, rfl, hn⟩
/-- a row of ints behind an own row of ints -/
theorem app_ints (w : World) (ty : TypeId) {B : Nat} (hB : B ≤ w.heap.size) (v v2 : Value) (zs l : List Int) (hown : Own w B 3 v (zs.map (Value.int .i64))) (h2 : Rw 1 intE w v2 l) (hz : zs.length ≤ 1000000) (hl : l.length ≤ 1000000) :
    ∃ v' w', (Builtin.append_ #[34, 34] ty #[v, v2]).run Tryz.prog w = .ok v' w' ∧ Own w' B 3 v' ((zs ++ l).map (Value.int .i64)) ∧ Keeps (fun k => v.ownBlock = some k) w w' := by
  obtain ⟨i, hi, hz0, hz1, hz2⟩ := info_parts infoIntR
  obtain ⟨p2, c2, rfl⟩ := h2.slice
  rcases l with _ | ⟨x, l⟩
  · have hs : Src Tryz.prog i.size 34 (.slice p2 ([] : List Int).length c2) 0 [] w := by
      rcases p2 with _ | A
      · exact Src.ofNil w Tryz.underlying34 c2
      · exact Src.ofSlice w Tryz.underlying34 A 0 c2 [] (by simp) (by simp) (by simp)
    obtain ⟨p, c, rfl, hc⟩ := hown.slice0
    have hr := run_append_nothing (P := Tryz.prog) w 34 34 ty 3 i Tryz.underlying34 hi p _ c hc (.slice p2 ([] : List Int).length c2) hs
    exact ⟨_, _, hr, by rw [List.append_nil]; exact hown, Keeps.refl _ _⟩
  · obtain ⟨g, o, cs, e1, hg, hcl, he, hc⟩ := h2.at rfl (show 0 < (x :: l).length by simp)
    subst e1
    have := run_app_at (P := Tryz.prog) w 34 ty 3 Tryz.underlying34 hi hz0 hz1 hz2 rfl v (zs.map (Value.int .i64)) ((x :: l).map (Value.int .i64)) hown ⟨g, o, none⟩ c2 (fun j u hj => by
      rw [List.getElem?_map, Option.map_eq_some_iff] at hj
      obtain ⟨y, hy, rfl⟩ := hj
      obtain ⟨hjl, rfl⟩ := List.getElem?_eq_some_iff.1 hy
      obtain ⟨g', o', cs', e', hg', hcl', he', hc'⟩ := h2.at rfl hjl
      simp only [Option.some.injEq, Addr.mk.injEq, and_true] at e'
      obtain ⟨rfl, rfl⟩ := e'
      unfold intE at he'
      subst he'
      have := hc' 0 _ rfl
      rw [Nat.mul_one, Nat.add_zero] at this
      rw [Addr.add_lit]
      exact this) (fun u hu => by obtain ⟨y, _, rfl⟩ := List.mem_map.1 hu; rfl) (by rw [List.length_map, List.length_map]; unfold maxLen; omega) (by rw [List.length_map, List.length_map]; omega) hB
    rw [List.length_map] at this
    obtain ⟨v', w', hr, ho, hk, _⟩ := this
    exact ⟨v', w', hr, by rw [List.map_append]; exact ho, hk⟩

end Go.Proofs.YtlohhlbbkliehaaGreatDoor.W
