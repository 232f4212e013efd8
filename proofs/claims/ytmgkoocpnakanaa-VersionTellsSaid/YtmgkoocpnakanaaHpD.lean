import Derived.Test.YtmgkoocpnakanaaGf
import Derived.Deep.Cut
import Derived.Deep.QuietTactic
import Derived.BigQuiet
import Derived.RegionTactic
import Derived.ChangeAlike
import Derived.Test.YtmgkoocpnakanaaFpl
/-
  The heap's methods, called through the interface.
-/
namespace Go.Proofs.Ytmgkoocpnakanaa.W
open Go.RowKit
set_option linter.unusedVariables false

theorem m_push (h : Nat) (w : World) : (method 243 67 (.pointer (some ⟨h, 0, none⟩)) "Push").run Try.prog w = .ok (113, .pointer (some ⟨h, 0, none⟩)) w := by kernel_rfl
theorem m_pop (h : Nat) (w : World) : (method 243 67 (.pointer (some ⟨h, 0, none⟩)) "Pop").run Try.prog w = .ok (112, .pointer (some ⟨h, 0, none⟩)) w := by kernel_rfl
/-- a method of the slice itself, called through the pointer in the interface: the slice is loaded -/
theorem m_val {nm : String} {f : FuncId} (hq : (Try.prog.info? 67).map (fun i => (i.methods.find? (·.name == nm)).map fun m => (m.path, m.func)) = some (some (#[], some (f, false))))
    (h m c : Nat) (p : Option Addr) (w : World) (hc : w.cell? ⟨h, 0, none⟩ = some (.slice p m c)) : (method 243 67 (.pointer (some ⟨h, 0, none⟩)) nm).run Try.prog w = .ok (f, .slice p m c) w := by
  obtain ⟨i, hi, h2⟩ := Option.map_eq_some_iff.1 hq
  obtain ⟨mm, hm, h3⟩ := Option.map_eq_some_iff.1 h2
  simp only [Prod.mk.injEq] at h3
  obtain ⟨h4, h5⟩ := h3
  have e2 : (Place.get 67 (.val (.pointer (some ⟨h, 0, none⟩)))).run Try.prog w = .ok (.pointer (some ⟨h, 0, none⟩)) w := rfl
  have e3 : ∀ nm, (Builtin.ssaWrapNilChk_ #[67] 67 #[.pointer (some ⟨h, 0, none⟩), strVal "", strVal nm]).run Try.prog w = .ok (.pointer (some ⟨h, 0, none⟩)) w := fun _ => rfl
  have e4 : (typeInfo 67).run Try.prog w = .ok i w := by simp [typeInfo, hi]
  show (method (242 + 1) _ _ _).run _ _ = _
  unfold method
  simp [e4, hm, h4, h5, follow]
  unfold receiverAt
  generalize (nm.splitOn ".").getLastD nm = nn
  simp [go_sem, e2, e3, hc]
theorem m_len (h m c : Nat) (p : Option Addr) (w : World) (hc : w.cell? ⟨h, 0, none⟩ = some (.slice p m c)) : (method 243 67 (.pointer (some ⟨h, 0, none⟩)) "Len").run Try.prog w = .ok (110, .slice p m c) w := m_val (by kernel_rfl) h m c p w hc
theorem m_less (h m c : Nat) (p : Option Addr) (w : World) (hc : w.cell? ⟨h, 0, none⟩ = some (.slice p m c)) : (method 243 67 (.pointer (some ⟨h, 0, none⟩)) "Less").run Try.prog w = .ok (111, .slice p m c) w := m_val (by kernel_rfl) h m c p w hc
theorem m_swap (h m c : Nat) (p : Option Addr) (w : World) (hc : w.cell? ⟨h, 0, none⟩ = some (.slice p m c)) : (method 243 67 (.pointer (some ⟨h, 0, none⟩)) "Swap").run Try.prog w = .ok (114, .slice p m c) w := m_val (by kernel_rfl) h m c p w hc

end Go.Proofs.Ytmgkoocpnakanaa.W

/-
  The heap's methods: Len, Less.
-/
namespace Go.Proofs.Ytmgkoocpnakanaa.W
open Go.RowKit
set_option linter.unusedVariables false

theorem flen_any (w : World) (p : Option Addr) (m c : Nat) : Calls Try.prog 110 #[.slice p m c] w fun e w' => e = .returned (.int .i64 (m : Int)) ∧ w = w' := by
  go_enter Try.func110, Try.ntmps110
  go_wp2
  go_ret
  exact ⟨rfl, rfl⟩

theorem fless_any (w : World) (g m c i j gi mi ci gj mj cj : Nat) (a b : Int) (hi : i < m) (hj : j < m) (hm : m ≤ 1000000) (h1 : w.cell? ⟨g, i, none⟩ = some (.slice (some ⟨gi, 0, none⟩) (mi + 1) ci)) (h2 : w.cell? ⟨g, j, none⟩ = some (.slice (some ⟨gj, 0, none⟩) (mj + 1) cj))
    (h3 : w.cell? ⟨gi, 0, none⟩ = some (.int .i64 a)) (h4 : w.cell? ⟨gj, 0, none⟩ = some (.int .i64 b)) :
    Calls Try.prog 111 #[.slice (some ⟨g, 0, none⟩) m c, .int .i64 i, .int .i64 j] w fun e w' => e = .returned (.bool (decide (a < b))) ∧ Below w.heap.size w w' := by
  go_enter Try.func111, Try.ntmps111
  go_wp2
  go_quiet (fail)
  go_wp2
  go_ret
  exact ⟨rfl, ((Keeps.refl (fun _ => False) w).drewN _).below (Nat.le_refl _) (fun _ _ h => h)⟩

theorem fswap_any (w : World) (B g m c i j p q p2 q2 : Nat) (b1 b2 : Option Addr) (xs : List Value) (h : Own w B 44 (.slice (some ⟨g, 0, none⟩) m c) xs) (hm : m ≤ 1000000) (hi : i < m) (hj : j < m) (h1 : xs[i]? = some (.slice b1 p q)) (h2 : xs[j]? = some (.slice b2 p2 q2)) :
    Calls Try.prog 114 #[.slice (some ⟨g, 0, none⟩) m c, .int .i64 i, .int .i64 j] w fun e w' => e = .returned (.tuple #[]) ∧ Own w' B 44 (.slice (some ⟨g, 0, none⟩) m c) ((xs.set i (.slice b2 p2 q2)).set j (.slice b1 p q)) ∧ Keeps (fun k => k = g) w w' := by
  obtain ⟨c1, f1⟩ := h.at h1
  obtain ⟨c2, f2⟩ := h.at h2
  have g1 : (xs.set i (.slice b2 p2 q2))[j]? = some (.slice b2 p2 q2) := by
    have hij := (List.getElem?_eq_some_iff.1 h1).1
    by_cases e : i = j
    · subst e; exact List.getElem?_set_self hij
    · rw [List.getElem?_set_ne e]; exact h2
  have g2 : (xs.set j (.slice b1 p q))[i]? = some (.slice b1 p q) := by
    have hij := (List.getElem?_eq_some_iff.1 h2).1
    by_cases e : j = i
    · subst e; exact List.getElem?_set_self hij
    · rw [List.getElem?_set_ne e]; exact h1
  obtain ⟨c3, f3⟩ := (h.setAt (.slice b2 p2 q2) (j := i)).at g1
  obtain ⟨c4, f4⟩ := (h.setAt (.slice b1 p q) (j := j)).at g2
  have H := Hd.mk h
  clear h
  go_enter Try.func114, Try.ntmps114
  go_region
  all_goals
    go_end0
    refine ⟨rfl, ?_, ?_⟩
    · exact (((H.out.setAt _).setAt _).keeps ((Keeps.refl (fun _ => False) _).drew) (fun _ _ h => h))
    · exact (((Keeps.refl (fun k => k = g) w).setCell (p := ⟨g, i, none⟩) (.inr rfl) _).setCell (p := ⟨g, j, none⟩) (.inr rfl) _).drew

end Go.Proofs.Ytmgkoocpnakanaa.W

/-
  The heap: up, down, Push, Pop.
-/
namespace Go.Proofs.Ytmgkoocpnakanaa.W
open Go.RowKit
set_option linter.unusedVariables false

/-- the heap's memory: the variable (at a), its row (at b), the parts (at q) -/
structure HpA (w : World) (L : List Asr) (a b q : Nat) (B hb : Nat) (hv pv : Value) (pvs : List Value) (ls : List (List Int)) (key : Nat → Nat) (hl : List Nat) : Prop where
  sep : Sep w ((L.set a (oC B hb 68 [hv])).set b (oI B 44 hv (hl.map fun k => pvs.getD k undef)))
  ab : a ≠ b
  qb : q ≠ b
  qa : q ≠ a
  al : a < L.length
  bl : b < L.length
  lq : L[q]? = some (oR B pv pvs ls)
  big : hl.length ≤ 262144
  keys : ∀ k, k ∈ hl → ∃ r, ls[k]? = some ((key k : Int) :: r)

/-- a part's slice and its first node -/
theorem part_key {w : World} {B : Nat} {pv : Value} {pvs : List Value} {ls : List (List Int)} {k x : Nat} {r : List Int} (h : RowsO w B pv pvs ls) (hk : ls[k]? = some ((x : Int) :: r)) :
    ∃ g c, pvs.getD k undef = .slice (some ⟨g, 0, none⟩) (r.length + 1) c ∧ w.cell? ⟨g, 0, none⟩ = some (.int .i64 (x : Int)) := by
  have hkl := (List.getElem?_eq_some_iff.1 hk).1
  have hkv : k < pvs.length := by rw [h.len]; exact hkl
  have e : pvs[k]? = some pvs[k] := List.getElem?_eq_getElem hkv
  have ho := h.each k _ _ e hk
  obtain ⟨g, c, hs⟩ := ho.slice (by simp [ints])
  refine ⟨g, c, ?_, ?_⟩
  · rw [List.getD_eq_getElem?_getD, e, Option.getD_some, hs]; simp [ints]
  · rw [hs] at ho; exact (ho.at (j := 0) rfl).1

section
variable {w w' : World} {L : List Asr} {a b q B hb : Nat} {hv hv' pv : Value} {pvs : List Value} {ls : List (List Int)} {key : Nat → Nat} {hl hl' : List Nat}

theorem HpA.own (h : HpA w L a b q B hb hv pv pvs ls key hl) : Own w B 44 hv (hl.map fun k => pvs.getD k undef) := h.sep.own b (List.getElem?_set_self (by simpa using h.bl))
theorem HpA.var (h : HpA w L a b q B hb hv pv pvs ls key hl) : Blk w hb 68 [hv] ∧ B ≤ hb := by
  have e : ((L.set a (oC B hb 68 [hv])).set b (oI B 44 hv (hl.map fun k => pvs.getD k undef)))[a]? = some (oC B hb 68 [hv]) := by
    rw [List.getElem?_set_ne (fun e => h.ab e.symm)]; exact List.getElem?_set_self h.al
  exact ⟨h.sep.blk a e, h.sep.blkB a e⟩
theorem HpA.parts (h : HpA w L a b q B hb hv pv pvs ls key hl) : RowsO w B pv pvs ls := by
  refine h.sep.rows q ?_
  rw [List.getElem?_set_ne (fun e => h.qb e.symm), List.getElem?_set_ne (fun e => h.qa e.symm)]; exact h.lq

/-- the row changes in place -/
theorem HpA.row (h : HpA w L a b q B hb hv pv pvs ls key hl) (ho : Own w' B 44 hv (hl'.map fun k => pvs.getD k undef)) (k : Keeps (fun g => hv.ownBlock = some g) w w') (hm : ∀ k, k ∈ hl' → k ∈ hl) (hlen : hl'.length ≤ hl.length) : HpA w' L a b q B hb hv pv pvs ls key hl' := by
  refine ⟨?_, h.ab, h.qb, h.qa, h.al, h.bl, h.lq, Nat.le_trans hlen h.big, fun k hk => h.keys k (hm k hk)⟩
  have := h.sep.put_own b (List.getElem?_set_self (by simpa using h.bl)) k ho (.inl rfl)
  rwa [List.set_set] at this

theorem HpA.swap {g m c : Nat} (h : HpA w L a b q B hb (.slice (some ⟨g, 0, none⟩) m c) pv pvs ls key hl) {i j : Nat} (hi : i < hl.length) (hj : j < hl.length)
    (ho : Own w' B 44 (.slice (some ⟨g, 0, none⟩) m c) (((hl.map fun k => pvs.getD k undef).set i (pvs.getD (hl.getD j 0) undef)).set j (pvs.getD (hl.getD i 0) undef))) (k : Keeps (fun k => k = g) w w') :
    HpA w' L a b q B hb (.slice (some ⟨g, 0, none⟩) m c) pv pvs ls key (Tj.swapL hl i j) := by
  have e : ((hl.map fun k => pvs.getD k undef).set i (pvs.getD (hl.getD j 0) undef)).set j (pvs.getD (hl.getD i 0) undef) = (Tj.swapL hl i j).map fun k => pvs.getD k undef := by
    simp only [Tj.swapL, List.map_set]
  rw [e] at ho
  exact h.row ho (k.mono (fun k _ e => by subst e; rfl)) (fun k hk => (Tj.swapL_perm hi hj).mem_iff.1 hk) (Nat.le_of_eq (Tj.swapL_len _ _ _))

theorem HpA.below (h : HpA w L a b q B hb hv pv pvs ls key hl) (hk : Below w.heap.size w w') : HpA w' L a b q B hb hv pv pvs ls key hl :=
  ⟨h.sep.below hk, h.ab, h.qb, h.qa, h.al, h.bl, h.lq, h.big, h.keys⟩

theorem getD_mem {l : List Nat} {i : Nat} (h : i < l.length) : l.getD i 0 ∈ l := by
  rw [List.getD_eq_getElem?_getD, List.getElem?_eq_getElem h]; exact List.getElem_mem h
theorem map_getD {l : List Nat} {i : Nat} (f : Nat → Value) (h : i < l.length) : (l.map f)[i]? = some (f (l.getD i 0)) := by
  rw [List.getElem?_map, List.getD_eq_getElem?_getD, List.getElem?_eq_getElem h]; rfl

/-- an element's slice -/
theorem HpA.elem (h : HpA w L a b q B hb hv pv pvs ls key hl) {i : Nat} (hi : i < hl.length) : ∃ gi mi ci, pvs.getD (hl.getD i 0) undef = .slice (some ⟨gi, 0, none⟩) (mi + 1) ci ∧ w.cell? ⟨gi, 0, none⟩ = some (.int .i64 (Tj.kx key hl i : Int)) := by
  obtain ⟨r, hr⟩ := h.keys _ (getD_mem hi)
  obtain ⟨gi, ci, e1, e2⟩ := part_key h.parts hr
  exact ⟨gi, r.length, ci, e1, e2⟩

/-- Less through the interface -/
theorem HpA.less {g m c : Nat} (h : HpA w L a b q B hb (.slice (some ⟨g, 0, none⟩) m c) pv pvs ls key hl) {i j : Nat} (hi : i < hl.length) (hj : j < hl.length) :
    Calls Try.prog 111 #[.slice (some ⟨g, 0, none⟩) m c, .int .i64 i, .int .i64 j] w fun e w' => e = .returned (.bool (decide (Tj.kx key hl i < Tj.kx key hl j))) ∧ Below w.heap.size w w' := by
  obtain ⟨gi, mi, ci, e1, e2⟩ := h.elem hi
  obtain ⟨gj, mj, cj, e3, e4⟩ := h.elem hj
  have hml : m = hl.length := by
    rcases h.own.is with ⟨e, _⟩ | ⟨g', cap, e, _⟩
    · cases e
    · injection e with _ e _; rw [e]; simp
  have c1 := (h.own.at (map_getD (fun k => pvs.getD k undef) hi)).1
  have c2 := (h.own.at (map_getD (fun k => pvs.getD k undef) hj)).1
  rw [e1] at c1
  rw [e3] at c2
  have hb := h.big
  refine (fless_any w g m c i j gi mi ci gj mj cj _ _ (by omega) (by omega) (by omega) c1 c2 e2 e4).mono ?_
  rintro e w' ⟨rfl, hk⟩
  refine ⟨?_, hk⟩
  congr 2
  simp

/-- Swap through the interface -/
theorem HpA.swapC {g m c : Nat} (h : HpA w L a b q B hb (.slice (some ⟨g, 0, none⟩) m c) pv pvs ls key hl) {i j : Nat} (hi : i < hl.length) (hj : j < hl.length) (hB : B ≤ w.heap.size) :
    Calls Try.prog 114 #[.slice (some ⟨g, 0, none⟩) m c, .int .i64 i, .int .i64 j] w fun e w' => e = .returned (.tuple #[]) ∧ HpA w' L a b q B hb (.slice (some ⟨g, 0, none⟩) m c) pv pvs ls key (Tj.swapL hl i j) ∧ Below B w w' := by
  obtain ⟨gi, mi, ci, e1, e2⟩ := h.elem hi
  obtain ⟨gj, mj, cj, e3, e4⟩ := h.elem hj
  have hml : m = hl.length := by
    rcases h.own.is with ⟨e, _⟩ | ⟨g', cap, e, _⟩
    · cases e
    · injection e with _ e _; rw [e]; simp
  have c1 := map_getD (fun k => pvs.getD k undef) hi
  have c2 := map_getD (fun k => pvs.getD k undef) hj
  have d1 := c1
  have d2 := c2
  rw [e1] at c1
  rw [e3] at c2
  have hbg := h.big
  have hgB := (h.own.lt (k := g) rfl).1
  refine (fswap_any w B g m c i j _ _ _ _ _ _ _ h.own (by omega) (by omega) (by omega) c1 c2).mono ?_
  rintro e w' ⟨rfl, ho, hk⟩
  rw [← e3, ← e1] at ho
  exact ⟨rfl, h.swap hi hj ho hk, hk.below hB (fun k h1 h2 => by have : k = g := h2; omega)⟩
end

end Go.Proofs.Ytmgkoocpnakanaa.W

/-
  The heap: up.
-/
namespace Go.Proofs.Ytmgkoocpnakanaa.W
open Go.RowKit
set_option linter.unusedVariables false

section
variable {L : List Asr} {a b q B hb : Nat} {pv : Value} {pvs : List Value} {ls : List (List Int)} {key : Nat → Nat}

set_option maxHeartbeats 4000000 in
set_option maxRecDepth 100000 in
theorem up_any (w : World) (g m c j : Nat) (hl : List Nat) (h : HpA w L a b q B hb (.slice (some ⟨g, 0, none⟩) m c) pv pvs ls key hl) (hB : B ≤ w.heap.size) (hu : Tj.UpO key hl hl.length j) :
    Calls Try.prog 67 #[.iface 67 (.pointer (some ⟨hb, 0, none⟩)), .int .i64 j] w fun e w' => e = .returned (.tuple #[]) ∧ ∃ hl', HpA w' L a b q B hb (.slice (some ⟨g, 0, none⟩) m c) pv pvs ls key hl' ∧ hl'.Perm hl ∧ Tj.HeapO key hl' hl.length ∧ Below B w w' := by
  have HH := Hd.mk h
  have HU := Hd.mk hu
  have hbg := h.big
  clear h hu
  go_enter Try.func67, Try.ntmps67
  go_wp2
  go_loopw [1] (fun jv wr => ∃ (j : Nat) (hl' : List Nat), jv = .int .i64 (j : Int) ∧ Hd (HpA wr L a b q B hb (.slice (some ⟨g, 0, none⟩) m c) pv pvs ls key hl') ∧ Hd (Tj.UpO key hl' hl.length j) ∧ Hd (hl'.Perm hl) ∧ Hd (Below B w wr)) (fun jv _ => (intOf jv).toNat)
  case atStart => exact ⟨j, hl, rfl, HH, HU, ⟨.refl _⟩, ⟨Below.refl _ _⟩⟩
  case round =>
    clear HH HU
    obtain ⟨k, h1, rfl, HM, HU, HP, HK⟩ := hrel
    have hk := HU.out.at'
    have hlen := HP.out.length_eq
    obtain ⟨i, hi⟩ : ∃ i, (k - 1) / 2 = i := ⟨_, rfl⟩
    have hs1 : IntKind.i64.wrap ((k : Int) - 1) = (k : Int) - 1 := IntWalk.i64_in _ (by omega)
    have hq1 : ((k : Int) - 1).tdiv 2 = (i : Int) := by
      rcases k with _ | k
      · subst hi; rfl
      · rw [show ((k + 1 : Nat) : Int) - 1 = (k : Int) by omega, Int.tdiv_eq_ediv_of_nonneg (by omega)]; omega
    have hw2 : IntKind.i64.wrap (i : Int) = (i : Int) := IntWalk.i64_in _ (by omega)
    have HI := Hd.mk hi
    have HN := Hd.mk (And.intro hk hlen)
    have cb := (HM.out.var.1).at (j := 0) rfl
    have ml := m_less hb m c (some ⟨g, 0, none⟩) wr cb
    clear hi hlen hk
    by_cases h0 : k = 0
    · have hi0 : i = 0 := by have := HI.out; omega
      subst h0 hi0
      go_wp2
      go_end0
      exact ⟨rfl, h1, HM.out, HP.out, HU.out.stop (.inl rfl), HK.out⟩
    · have hne : ¬ (i : Int) = (k : Int) := by have := HI.out; omega
      have hne2 : ((i : Int) == (k : Int)) = false := by simp; have := HI.out; omega
      have HLs := Hd.mk (HM.out.less (i := k) (j := i) (by have := HN.out; omega) (by have := HN.out; have := HI.out; omega))
      rcases hd : decide (Tj.kx key h1 k < Tj.kx key h1 i) with _ | _
      · rw [hd] at HLs
        have HD := Hd.mk hd
        clear hd
        go_wp2_with fail
        refine HLs.out.mono ?_
        rintro e w2 ⟨rfl, hb2⟩
        have HB2 := Hd.mk hb2
        clear hb2 HLs
        go_wp2
        go_end0
        refine ⟨rfl, h1, HM.out.below HB2.out, HP.out, HU.out.stop (.inr ?_), HK.out.trans (HB2.out.mono (Nat.le_trans hB HK.out.size))⟩
        have h1 := of_decide_eq_false HD.out
        rw [HI.out]; omega
      · rw [hd] at HLs
        have HD := Hd.mk hd
        clear hd
        go_wp2_with fail
        refine HLs.out.mono ?_
        rintro e w2 ⟨rfl, hb2⟩
        have HM2 := Hd.mk (HM.out.below hb2)
        have HB2 := Hd.mk (HK.out.trans (hb2.mono (Nat.le_trans hB HK.out.size)))
        have cb2 := (HM2.out.var.1).at (j := 0) rfl
        have ms := m_swap hb m c (some ⟨g, 0, none⟩) w2 cb2
        have HSw := Hd.mk (HM2.out.swapC (i := i) (j := k) (by have := HN.out; have := HI.out; omega) (by have := HN.out; omega) (Nat.le_trans hB HB2.out.size))
        clear hb2 HLs cb ml
        go_wp2_with fail
        refine HSw.out.mono ?_
        rintro e w3 ⟨rfl, h3, hb3⟩
        have HM3 := Hd.mk h3
        have HB3 := Hd.mk (HB2.out.trans hb3)
        clear h3 hb3 HSw cb2 ms
        go_wp2
        refine ⟨⟨i, _, rfl, HM3, ⟨?_⟩, ⟨?_⟩, HB3⟩, by simp [intOf]; have := HI.out; omega⟩
        · have := HU.out.step (by rw [HN.out.2]; exact Nat.le_refl _) (by omega) (by rw [HI.out]; exact of_decide_eq_true HD.out)
          rw [HI.out] at this
          exact this
        · exact (Tj.swapL_perm (by have := HN.out; have := HI.out; omega) (by have := HN.out; omega)).trans HP.out
end

end Go.Proofs.Ytmgkoocpnakanaa.W
