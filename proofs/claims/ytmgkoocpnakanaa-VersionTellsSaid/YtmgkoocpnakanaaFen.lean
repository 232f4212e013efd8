import Derived.Test.YtmgkoocpnakanaaSep
import Derived.Test.YtmgkoocpnakanaaOrd3
import Derived.Deep.Cut
/-
  The finder's memory.
-/
namespace Go.Proofs.Ytmgkoocpnakanaa.W
open Go.RowKit
set_option linter.unusedVariables false

def cellsF (n : Nat) (f : Nat → Nat) : List Value := (List.range n).map fun u => .int .i64 (f u : Int)
def intC (l : List Nat) : List Value := l.map fun (u : Nat) => .int .i64 (u : Int)
theorem ints_intL (l : List Nat) : ints (intL l) = intC l := by unfold ints intL intC; rw [List.map_map]; rfl
def partsI (n : Nat) (np : Nat) (prt : Nat → Nat) : List (List Int) := (List.range np).map fun k => intL (Tj.nodesOf n prt (k + 1))

/-- where the finder's things lie -/
structure Fp where
  B : Nat
  n : Nat
  F : Nat
  C : Nat
  gi : Nat
  gl : Nat
  gp : Nat
  nv : Value
  nvs : List Value
  nl : List (List Int)

def ptr (b : Nat) : Value := .pointer (some ⟨b, 0, none⟩)
def full (g n : Nat) : Value := .slice (some ⟨g, 0, none⟩) n n

def FinL (p : Fp) (sv pv : Value) (pvs : List Value) (pl : List (List Int)) (cnt : Nat) (idx low prt : Nat → Nat) (stk : List Nat) : List Asr :=
  [oC p.B p.F 64 [p.nv, full p.gi p.n, full p.gl p.n, sv, full p.gp p.n, pv], oC p.B p.C 3 [.int .i64 (cnt : Int)], oR p.B p.nv p.nvs p.nl,
   oI p.B 3 (full p.gi p.n) (cellsF p.n idx), oI p.B 3 (full p.gl p.n) (cellsF p.n low), oI p.B 3 (full p.gp p.n) (cellsF p.n prt),
   oI p.B 3 sv (intC stk.reverse), oR p.B pv pvs pl]
/-- at a state of the machine -/
abbrev FinT (p : Fp) (sv pv : Value) (pvs : List Value) (pl : List (List Int)) (s : Tj.Ts) : List Asr := FinL p sv pv pvs pl s.cnt s.idx s.low s.prt s.stk
/-- .. and find's own variables -/
def BoxL (p : Fp) (cb fb : Nat) (R : List Asr) : List Asr := oC p.B cb 66 [ptr p.C] :: oC p.B fb 91 [ptr p.F] :: R

theorem cellsF_set {n : Nat} {f : Nat → Nat} {v : Nat} (hv : v < n) (x : Nat) : (cellsF n f).set v (.int .i64 (x : Int)) = cellsF n (Tj.upd f v x) := by
  apply List.ext_getElem
  · simp [cellsF]
  · intro j h1 h2
    rw [List.getElem_set]
    simp only [cellsF, List.getElem_map, List.getElem_range, Tj.upd]
    by_cases e : v = j
    · subst e; simp
    · have : ¬ j = v := fun h => e h.symm
      rw [if_neg e, if_neg this]
theorem cellsF_at {n : Nat} {f : Nat → Nat} {v : Nat} (hv : v < n) : (cellsF n f)[v]? = some (.int .i64 (f v : Int)) := by simp [cellsF, hv]
theorem cellsF_len (n : Nat) (f : Nat → Nat) : (cellsF n f).length = n := by simp [cellsF]

section
variable {p : Fp} {sv pv : Value} {pvs : List Value} {pl : List (List Int)} {cnt : Nat} {idx low prt : Nat → Nat} {stk : List Nat} {X : List Asr} {w : World}

structure FinC (p : Fp) (sv pv : Value) (cnt : Nat) (w : World) : Prop where
  f0 : w.cell? ⟨p.F, 0, none⟩ = some p.nv
  f1 : w.cell? ⟨p.F, 1, none⟩ = some (.slice (some ⟨p.gi, 0, none⟩) p.n p.n)
  f2 : w.cell? ⟨p.F, 2, none⟩ = some (.slice (some ⟨p.gl, 0, none⟩) p.n p.n)
  f3 : w.cell? ⟨p.F, 3, none⟩ = some sv
  f4 : w.cell? ⟨p.F, 4, none⟩ = some (.slice (some ⟨p.gp, 0, none⟩) p.n p.n)
  f5 : w.cell? ⟨p.F, 5, none⟩ = some pv
  c0 : w.cell? ⟨p.C, 0, none⟩ = some (.int .i64 (cnt : Int))
  ff : ∀ j, w.frozen? ⟨p.F, j, none⟩ = false
  cf : w.frozen? ⟨p.C, 0, none⟩ = false

theorem Fin.cells (h : Sep w (FinL p sv pv pvs pl cnt idx low prt stk ++ X)) : FinC p sv pv cnt w := by
  have hF := h.blk 0 rfl
  have hC := h.blk 1 rfl
  exact ⟨hF.at rfl, hF.at rfl, hF.at rfl, hF.at rfl, hF.at rfl, hF.at rfl, hC.at rfl, fun j => hF.free j, hC.free 0⟩
theorem Fin.boxes {cb fb : Nat} {R : List Asr} (h : Sep w (FinL p sv pv pvs pl cnt idx low prt stk ++ BoxL p cb fb R)) : w.cell? ⟨cb, 0, none⟩ = some (.pointer (some ⟨p.C, 0, none⟩)) ∧ w.cell? ⟨fb, 0, none⟩ = some (.pointer (some ⟨p.F, 0, none⟩)) :=
  ⟨(h.blk 8 rfl).at rfl, (h.blk 9 rfl).at rfl⟩
theorem Fin.idxAt (h : Sep w (FinL p sv pv pvs pl cnt idx low prt stk ++ X)) {v : Nat} (hv : v < p.n) : w.cell? ⟨p.gi, v, none⟩ = some (.int .i64 (idx v : Int)) ∧ w.frozen? ⟨p.gi, v, none⟩ = false := (h.own 3 rfl).at (cellsF_at hv)
theorem Fin.lowAt (h : Sep w (FinL p sv pv pvs pl cnt idx low prt stk ++ X)) {v : Nat} (hv : v < p.n) : w.cell? ⟨p.gl, v, none⟩ = some (.int .i64 (low v : Int)) ∧ w.frozen? ⟨p.gl, v, none⟩ = false := (h.own 4 rfl).at (cellsF_at hv)
theorem Fin.prtAt (h : Sep w (FinL p sv pv pvs pl cnt idx low prt stk ++ X)) {v : Nat} (hv : v < p.n) : w.cell? ⟨p.gp, v, none⟩ = some (.int .i64 (prt v : Int)) ∧ w.frozen? ⟨p.gp, v, none⟩ = false := (h.own 5 rfl).at (cellsF_at hv)

theorem Fin.setC (h : Sep w (FinL p sv pv pvs pl cnt idx low prt stk ++ X)) (x : Nat) : Sep (w.setCell ⟨p.C, 0, none⟩ (.int .i64 (x : Int))) (FinL p sv pv pvs pl x idx low prt stk ++ X) :=
  h.set_blk 1 rfl 0 _
theorem Fin.setI (h : Sep w (FinL p sv pv pvs pl cnt idx low prt stk ++ X)) {v : Nat} (hv : v < p.n) (x : Nat) : Sep (w.setCell ⟨p.gi, v, none⟩ (.int .i64 (x : Int))) (FinL p sv pv pvs pl cnt (Tj.upd idx v x) low prt stk ++ X) := by
  have := h.set_own 3 rfl v (.int .i64 (x : Int))
  rw [cellsF_set hv] at this
  exact this
theorem Fin.setL (h : Sep w (FinL p sv pv pvs pl cnt idx low prt stk ++ X)) {v : Nat} (hv : v < p.n) (x : Nat) : Sep (w.setCell ⟨p.gl, v, none⟩ (.int .i64 (x : Int))) (FinL p sv pv pvs pl cnt idx (Tj.upd low v x) prt stk ++ X) := by
  have := h.set_own 4 rfl v (.int .i64 (x : Int))
  rw [cellsF_set hv] at this
  exact this
theorem Fin.setP (h : Sep w (FinL p sv pv pvs pl cnt idx low prt stk ++ X)) {v : Nat} (hv : v < p.n) (x : Nat) : Sep (w.setCell ⟨p.gp, v, none⟩ (.int .i64 (x : Int))) (FinL p sv pv pvs pl cnt idx low (Tj.upd prt v x) stk ++ X) := by
  have := h.set_own 5 rfl v (.int .i64 (x : Int))
  rw [cellsF_set hv] at this
  exact this
/-- the stack grows by one; its slice is laid back -/
theorem Fin.push (h : Sep w (FinL p sv pv pvs pl cnt idx low prt stk ++ X)) {w' : World} {sv' : Value} {v : Nat} (k : Keeps (fun g => sv.ownBlock = some g) w w') (ho : Own w' p.B 3 sv' (intC stk.reverse ++ [.int .i64 (v : Int)]))
    (hb : sv'.ownBlock = sv.ownBlock ∨ sv'.ownBlock = none ∨ ∃ g, w.heap.size ≤ g ∧ sv'.ownBlock = some g) : Sep (w'.setCell ⟨p.F, 3, none⟩ sv') (FinL p sv' pv pvs pl cnt idx low prt (v :: stk) ++ X) := by
  have e : intC stk.reverse ++ [.int .i64 (v : Int)] = intC (v :: stk).reverse := by simp [intC]
  rw [e] at ho
  have := h.put_own 6 rfl k ho hb
  exact this.set_blk 0 rfl 3 sv'
/-- blocks from B on are theirs -/
theorem Fin.bs (h : Sep w (FinL p sv pv pvs pl cnt idx low prt stk ++ X)) : p.B ≤ p.F ∧ p.B ≤ p.C ∧ p.B ≤ p.gi ∧ p.B ≤ p.gl ∧ p.B ≤ p.gp ∧ p.F < w.heap.size :=
  ⟨h.blkB 0 rfl, h.blkB 1 rfl, ((h.own 3 rfl).lt rfl).1, ((h.own 4 rfl).lt rfl).1, ((h.own 5 rfl).lt rfl).1, (h.blk 0 rfl).lt⟩
theorem Fin.top (h : Sep w (FinL p sv pv pvs pl cnt idx low prt stk ++ X)) {g : Nat} (hg : sv.ownBlock = some g) : p.B ≤ g := ((h.own 6 rfl).lt hg).1

end

end Go.Proofs.Ytmgkoocpnakanaa.W

/-
  find's enter.
-/
namespace Go.Proofs.Ytmgkoocpnakanaa.W
open Go.RowKit
set_option linter.unusedVariables false

theorem last_get (a : List Asr) (A : Asr) : (a ++ [A])[a.length]? = some A := by simp
theorem Sep.set_last {w : World} {a : List Asr} {B g : Nat} {T : TypeId} {l : List Value} (h : Sep w (a ++ [oC B g T l])) (j : Nat) (u : Value) : Sep (w.setCell ⟨g, j, none⟩ u) (a ++ [oC B g T (l.set j u)]) := by
  have := h.set_blk a.length (last_get _ _) j u
  rwa [List.set_append_right _ _ (Nat.le_refl _), Nat.sub_self] at this

structure Pushed (p : Fp) (sv : Value) (fb : Nat) (w w' : World) (sv' : Value) (L : List Asr) : Prop where
  sl : ∃ q m c, sv' = .slice q m c
  b1 : w'.cell? ⟨fb, 0, none⟩ = some (.pointer (some ⟨p.F, 0, none⟩))
  c3 : w'.cell? ⟨p.F, 3, none⟩ = some sv
  z3 : w'.frozen? ⟨p.F, 3, none⟩ = false
  b2 : (w'.setCell ⟨p.F, 3, none⟩ sv').cell? ⟨fb, 0, none⟩ = some (.pointer (some ⟨p.F, 0, none⟩))
  sep : Sep (w'.setCell ⟨p.F, 3, none⟩ sv') L
  bel : Below p.B w (w'.setCell ⟨p.F, 3, none⟩ sv')

theorem Fin.pushed {p : Fp} {sv pv : Value} {pvs : List Value} {pl : List (List Int)} {cnt : Nat} {idx low prt : Nat → Nat} {stk : List Nat} {cb fb : Nat} {R : List Asr} {w0 w W w' : World} {sv' : Value} {v : Nat}
    (h : Sep w (FinL p sv pv pvs pl cnt idx low prt stk ++ BoxL p cb fb R)) (hB : Below p.B w0 w) (hBs : p.B ≤ w.heap.size) (hW : Keeps (fun _ => False) w W) (k : Keeps (fun g => sv.ownBlock = some g) W w') (ho : Own w' p.B 3 sv' (intC stk.reverse ++ [.int .i64 (v : Int)]))
    (hb : sv'.ownBlock = sv.ownBlock ∨ ∃ g, W.heap.size ≤ g ∧ sv'.ownBlock = some g) : Pushed p sv fb w0 w' sv' (FinL p sv' pv pvs pl cnt idx low prt (v :: stk) ++ BoxL p cb fb R) := by
  have k' : Keeps (fun g => sv.ownBlock = some g) w w' := (hW.mono (fun _ _ h => h.elim)).trans k
  have hb' : sv'.ownBlock = sv.ownBlock ∨ sv'.ownBlock = none ∨ ∃ g, w.heap.size ≤ g ∧ sv'.ownBlock = some g := hb.imp_right (fun ⟨g, h1, h2⟩ => .inr ⟨g, Nat.le_trans hW.size h1, h2⟩)
  have h1 := h.put_own 6 rfl k' ho hb'
  have h2 := Fin.push h k' ho hb'
  have hs := ho.slice'
  obtain ⟨q, c, hs⟩ := hs
  have hk : Below p.B w (w'.setCell ⟨p.F, 3, none⟩ sv') := ((k'.mono (S' := fun g => p.B ≤ g) (fun g _ hg => Fin.top h hg)).setCell (p := ⟨p.F, 3, none⟩) (.inr (Fin.bs h).1) sv').below hBs (fun g h1 h2 => by omega)
  exact ⟨⟨q, _, c, hs⟩, (h1.blk 9 rfl).at rfl, (h1.blk 0 rfl).at rfl, (h1.blk 0 rfl).free 3, (Fin.boxes h2).2, h2, hB.trans (hk)⟩

set_option maxHeartbeats 4000000 in
set_option maxRecDepth 100000 in
theorem enter_any (p : Fp) (sv pv : Value) (pvs : List Value) (pl : List (List Int)) (cnt : Nat) (idx low prt : Nat → Nat) (stk : List Nat) (cb fb : Nat) (R : List Asr) (w : World) (v : Nat) (hv : v < p.n) (hn : p.n ≤ 262144) (hsl : stk.length ≤ 262144) (hcnt : cnt ≤ 262144) (hB : p.B ≤ w.heap.size)
    (h : Sep w (FinL p sv pv pvs pl cnt idx low prt stk ++ BoxL p cb fb R)) :
    Calls Try.prog 65 #[.int .i64 v, .pointer (some ⟨cb, 0, none⟩), .pointer (some ⟨fb, 0, none⟩)] w fun e w' => e = .returned (.agg #[.int .i64 v, .int .i64 0]) ∧ ∃ sv', Sep w' (FinL p sv' pv pvs pl (cnt + 1) (Tj.upd idx v (cnt + 1)) (Tj.upd low v (cnt + 1)) prt (v :: stk) ++ BoxL p cb fb R) ∧ Below p.B w w' := by
  obtain ⟨x, hx⟩ : ∃ x, cnt + 1 = x := ⟨_, rfl⟩
  have hxi : IntKind.i64.wrap ((cnt : Int) + 1) = (x : Int) := by rw [IntWalk.i64_in _ (by omega)]; omega
  -- the worlds one behind the other
  obtain ⟨o0, ho0⟩ : ∃ o0, Obj.cells #[.int .i64 0, .int .i64 0] 93 = o0 := ⟨_, rfl⟩
  have hnew := h.new_blk hB 93 [.int .i64 0, .int .i64 0]
  have h0 : Sep (w.alloc o0) (FinL p sv pv pvs pl cnt idx low prt stk ++ BoxL p cb fb (R ++ [oC p.B w.heap.size 93 [.int .i64 0, .int .i64 0]])) := by rw [← ho0]; exact hnew
  have HRes : Hd (∀ sv' (w' : World), Sep w' (FinL p sv' pv pvs pl x (Tj.upd idx v x) (Tj.upd low v x) prt (v :: stk) ++ BoxL p cb fb (R ++ [oC p.B w.heap.size 93 [.int .i64 0, .int .i64 0]])) →
      w'.cell? ⟨w.heap.size, 0, none⟩ = some (.int .i64 0) ∧ w'.cell? ⟨w.heap.size, 1, none⟩ = some (.int .i64 0) ∧ (∀ j, w'.frozen? ⟨w.heap.size, j, none⟩ = false)) :=
    ⟨fun sv' w' hh => by
      have hb := Sep.blk (t := (FinL p sv' pv pvs pl x (Tj.upd idx v x) (Tj.upd low v x) prt (v :: stk) ++ BoxL p cb fb R).length) hh (last_get _ _)
      exact ⟨hb.at rfl, hb.at rfl, fun j => hb.free j⟩⟩
  have h1 := Fin.setC h0 x
  have h2 := Fin.setI h1.drew hv x
  have h3 := Fin.setL h2 hv x
  have hb := Fin.bs h
  have B3 : Below p.B w ((((((w.alloc o0).setCell ⟨p.C, 0, none⟩ (.int .i64 (x : Int)))).drew).setCell ⟨p.gi, v, none⟩ (.int .i64 (x : Int))).setCell ⟨p.gl, v, none⟩ (.int .i64 (x : Int))) :=
    (((((Keeps.refl (fun k => p.B ≤ k) w).alloc o0).setCell (p := ⟨p.C, 0, none⟩) (.inr hb.2.1) _).drew.setCell (p := ⟨p.gi, v, none⟩) (.inr hb.2.2.1) _).setCell (p := ⟨p.gl, v, none⟩) (.inr hb.2.2.2.1) _).below hB (fun k h1 h2 => by omega)
  obtain ⟨f0, f1, f2, f3, f4, f5, c0, ff, cf⟩ := Fin.cells h0
  obtain ⟨e0, e1⟩ := Fin.boxes h0
  have HH := Hd.mk (And.intro h1 (And.intro h2 h3))
  have HB3 := Hd.mk B3
  clear h hnew h0 h1 h2 h3 hb B3
  subst ho0
  go_enter Try.func65, Try.ntmps65
  go_upto_region 2 with (fail)
  clear f0 f1 f2 f3 f4 f5 c0 ff cf e0 e1
  generalize (w.alloc (Obj.cells #[.int .i64 0, .int .i64 0] 93)).setCell ⟨p.C, 0, none⟩ (.int .i64 (x : Int)) = w1 at HH HB3 ⊢
  obtain ⟨i0, i1⟩ := Fin.idxAt HH.out.1 hv
  have l0 := (Fin.lowAt (Fin.setI HH.out.1 hv x) hv).1
  have l1 := (Fin.lowAt HH.out.1 hv).2
  have hS : ∀ {w' : World} {idx low : Nat → Nat}, Sep w' (FinL p sv pv pvs pl x idx low prt stk ++ BoxL p cb fb (R ++ [oC p.B w.heap.size 93 [.int .i64 0, .int .i64 0]])) → w'.cell? ⟨cb, 0, none⟩ = some (.pointer (some ⟨p.C, 0, none⟩)) ∧ w'.cell? ⟨fb, 0, none⟩ = some (.pointer (some ⟨p.F, 0, none⟩)) ∧ w'.cell? ⟨p.F, 1, none⟩ = some (.slice (some ⟨p.gi, 0, none⟩) p.n p.n) ∧ w'.cell? ⟨p.F, 2, none⟩ = some (.slice (some ⟨p.gl, 0, none⟩) p.n p.n) ∧ w'.cell? ⟨p.C, 0, none⟩ = some (.int .i64 (x : Int)) := fun h => by
    have := Fin.cells h
    exact ⟨(Fin.boxes h).1, (Fin.boxes h).2, this.f1, this.f2, this.c0⟩
  have S1 := Hd.mk (hS HH.out.1.drew)
  have S2 := Hd.mk (hS HH.out.2.1)
  have S3 := Hd.mk (hS HH.out.2.2)
  clear hS
  refine wp_region_lin default (fun w' => w'.cell? ⟨cb, 0, none⟩ = some (.pointer (some ⟨p.C, 0, none⟩)) ∧ w'.cell? ⟨fb, 0, none⟩ = some (.pointer (some ⟨p.F, 0, none⟩)) ∧ w'.cell? ⟨p.F, 1, none⟩ = some (.slice (some ⟨p.gi, 0, none⟩) p.n p.n) ∧ w'.cell? ⟨p.F, 2, none⟩ = some (.slice (some ⟨p.gl, 0, none⟩) p.n p.n) ∧ w'.cell? ⟨p.C, 0, none⟩ = some (.int .i64 (x : Int)))
    [(0, true), (1, true), (2, true), (3, true), (4, true), (5, true), (6, true), (7, true), (8, true), (9, true), (10, true), (11, true), (12, true), (13, true), (14, true), (15, true), (16, true), (17, false), (18, true), (19, false)] (by kernel_rfl) (by kernel_rfl) rfl (by kernel_rfl) (by kernel_rfl) S1.out ?_
  simp only [pick, List.getD_cons_zero, List.getD_cons_succ]
  repeat
    refine lin_free (v := ?_) (by rfl) ?_ ?_
    rotate_left
    · intro w' hSw
      obtain ⟨d0, d1, d2, d3, d4⟩ := hSw
      go_simp
      first | done | with_reducible rfl
    simp only [Act.put, List.setIfInBounds_toArray, List.set_cons_zero, List.set_cons_succ]
  refine lin_bound (fun K hK => ?_)
  go_simp
  refine hK.out _ _ S2.out ?_
  clear hK K
  refine lin_free (v := ?_) (by rfl) ?_ ?_
  rotate_left
  · intro w' hSw
    obtain ⟨d0, d1, d2, d3, d4⟩ := hSw
    go_simp
    first | done | with_reducible rfl
  simp only [Act.put, List.setIfInBounds_toArray, List.set_cons_zero, List.set_cons_succ]
  refine lin_bound (fun K hK => ?_)
  go_simp
  refine hK.out _ _ S3.out ?_
  clear hK K
  refine NoPanic.normal ?_
  have H3 : Hd (Sep ((w1.setCell ⟨p.gi, v, none⟩ (.int .i64 (x : Int))).setCell ⟨p.gl, v, none⟩ (.int .i64 (x : Int))).drew _) := Hd.mk HH.out.2.2
  have HB4 : Hd (Below p.B w ((w1.setCell ⟨p.gi, v, none⟩ (.int .i64 (x : Int))).setCell ⟨p.gl, v, none⟩ (.int .i64 (x : Int))).drew) := Hd.mk HB3.out
  clear HH i0 i1 l0 l1 S1 S2 S3 HB3
  generalize ((w1.setCell ⟨p.gi, v, none⟩ (.int .i64 (x : Int))).setCell ⟨p.gl, v, none⟩ (.int .i64 (x : Int))).drew = w3 at H3 HB4 ⊢
  obtain ⟨i0, hi0, hz0, hz1, hz2⟩ := info_parts infoInt
  have HI0 := Hd.mk (And.intro hi0 (And.intro hz0 (And.intro hz1 hz2)))
  have HO3 := Hd.mk (H3.out.own 6 rfl)
  obtain ⟨f0, f1, f2, f3, f4, f5, c0, ff, cf⟩ := Fin.cells H3.out
  obtain ⟨e0, e1⟩ := Fin.boxes H3.out
  have HW : Hd (Keeps (fun _ => False) w3 (w3.drew.alloc (.cells #[.int .i64 (v : Int)] 3))) := ⟨((Keeps.refl (fun _ => False) w3).drew).alloc _⟩
  have HEnd : Hd (∀ v' w4, Own w4 p.B 3 v' (intC stk.reverse ++ [.int .i64 (v : Int)]) → Keeps (fun k => sv.ownBlock = some k) (w3.drew.alloc (.cells #[.int .i64 (v : Int)] 3)) w4 → (v'.ownBlock = sv.ownBlock ∨ ∃ k, (w3.drew.alloc (.cells #[.int .i64 (v : Int)] 3)).heap.size ≤ k ∧ v'.ownBlock = some k) → Pushed p sv fb w w4 v' _) :=
    ⟨fun v' w4 h1 h2 h3 => Fin.pushed H3.out HB4.out (Nat.le_trans hB HB4.out.size) HW.out h2 h1 h3⟩
  have HS := Hd.mk e1
  clear f0 f1 f2 f4 f5 c0 ff cf e0 hi0 hz0 hz1 hz2
  have e1' : w3.drew.cell? ⟨fb, 0, none⟩ = some (.pointer (some ⟨p.F, 0, none⟩)) := e1
  have e1a : (w3.drew.alloc (.cells #[.int .i64 (v : Int)] 3)).cell? ⟨fb, 0, none⟩ = some (.pointer (some ⟨p.F, 0, none⟩)) := (Fin.boxes (H3.out.drew.alloc _)).2
  have f3a : (w3.alloc (.cells #[.int .i64 (v : Int)] 3)).cell? ⟨p.F, 3, none⟩ = some sv := (Fin.cells (H3.out.alloc _)).f3
  have E1 := Hd.mk e1'
  have E1a := Hd.mk e1a
  go_upto_region 3 with (fail)
  refine wp_region_lin3 default (fun w' => w'.cell? ⟨fb, 0, none⟩ = some (.pointer (some ⟨p.F, 0, none⟩))) [.free 0, .free 1, .free 2, .free 3, .free 5, .fl 4 [6], .one 7, .free 8, .free 9, .one 10] (by kernel_rfl) (by kernel_rfl) rfl (by kernel_rfl) (by kernel_rfl) E1.out ?_
  repeat
    refine lin3_free (v := ?_) (by rfl) ?_ ?_
    rotate_left
    · intro w' hSw
      simp only [List.getD_cons_zero, List.getD_cons_succ]
      go_simp
      first | done | with_reducible rfl
    simp only [Act.put, List.getD_cons_zero, List.getD_cons_succ, List.setIfInBounds_toArray, List.set_cons_zero, List.set_cons_succ]
  refine lin3_fl (getB_intro (fun K hK => ?_)) (getB_intro (fun K hK => ?_))
  all_goals simp only [List.getD_cons_zero, List.getD_cons_succ]
  all_goals go_simp
  all_goals first | refine hK.out _ _ E1.out ?_ | refine hK.out _ _ E1a.out ?_
  all_goals clear hK K
  all_goals first | refine seq_cons (getB_intro (fun K hK => ?_)) | refine fl_nil (getB_intro (fun K hK => ?_))
  all_goals simp only [List.getD_cons_zero, List.getD_cons_succ]
  all_goals go_simp
  all_goals refine hK.out _ _ E1a.out ?_
  all_goals clear hK K
  all_goals try refine seq_nil ?_
  all_goals refine lin3_one (fun K hK => ?_)
  all_goals refine step_app1 (by rfl) (Operand.tmp 32) (Operand.tmp 34) 44 (by rfl) 3 Try.underlying44 HI0.out.1 HI0.out.2.1 HI0.out.2.2.1 HI0.out.2.2.2 rfl sv (intC stk.reverse) (.int .i64 (v : Int)) (w3.drew.alloc (.cells #[.int .i64 (v : Int)] 3)) w3.heap.size 1 (by rfl) (HO3.out.keeps HW.out (fun _ _ h => h)) (by rfl) ⟨_, _, heap_alloc_new _ _⟩ rfl (by simp only [intC, List.length_map, List.length_reverse]; unfold maxLen; omega) (by simp only [intC, List.length_map, List.length_reverse]; omega) (Nat.le_trans hB (Nat.le_trans HB4.out.size HW.out.size)) ?_
  all_goals
    intro v' w4 h1 h2 h3
    obtain ⟨⟨q, m, c, rfl⟩, b1, c3, z3, b2, hsep, hbel⟩ := HEnd.out v' w4 h1 h2 h3
    clear h1 h2 h3
    have HM := Hd.mk hsep
    have HL := Hd.mk hbel
    have HB2 := Hd.mk b2
    clear hsep hbel b2
    refine hK.out _ _ b1 ?_
    clear hK K
    simp only [Act.put, List.getD_cons_zero, List.getD_cons_succ, List.setIfInBounds_toArray, List.set_cons_zero, List.set_cons_succ]
    repeat
      refine lin3_free (v := ?_) (by rfl) ?_ ?_
      rotate_left
      · intro w' hSw
        simp only [List.getD_cons_zero, List.getD_cons_succ]
        go_simp
        first | done | with_reducible rfl
      simp only [Act.put, List.getD_cons_zero, List.getD_cons_succ, List.setIfInBounds_toArray, List.set_cons_zero, List.set_cons_succ]
    refine lin3_one (fun K hK => ?_)
    simp only [List.getD_cons_zero, List.getD_cons_succ]
    go_simp
    refine hK.out _ _ HB2.out ?_
    clear hK K
    refine NoPanic.normal ?_
    generalize w4.setCell ⟨p.F, 3, none⟩ (.slice q m c) = w5 at HM HL ⊢
    clear b1 c3 z3 HB2
    obtain ⟨r0, r1, r2⟩ := HRes.out _ _ HM.out
    go_wp2
    have h5 : Sep w5 ((FinL p (.slice q m c) pv pvs pl x (Tj.upd idx v x) (Tj.upd low v x) prt (v :: stk) ++ BoxL p cb fb R) ++ [oC p.B w.heap.size 93 [.int .i64 0, .int .i64 0]]) := HM.out
    have h7 := (h5.set_last 0 (.int .i64 (v : Int))).set_last 1 (.int .i64 0)
    have hb7 := Sep.blk h7 _ (last_get _ _)
    refine bodyPost_ret (results_cell_row rfl _ _ w.heap.size 93 _ (0, 0) _ rfl hb7.is Try.underlying93 rfl (by kernel_rfl)) rfl ⟨rfl, .slice q m c, hx.symm ▸ h7.left, ?_⟩
    have hk : Below p.B w5 ((w5.setCell ⟨w.heap.size, 0, none⟩ (.int .i64 (v : Int))).setCell ⟨w.heap.size, 1, none⟩ (.int .i64 0)) :=
      (((Keeps.refl (fun k => p.B ≤ k) w5).setCell (p := ⟨w.heap.size, 0, none⟩) (.inr hB) _).setCell (p := ⟨w.heap.size, 1, none⟩) (.inr hB) _).below (Nat.le_trans hB HL.out.size) (fun k h1 h2 => by omega)
    exact HL.out.trans hk

end Go.Proofs.Ytmgkoocpnakanaa.W
