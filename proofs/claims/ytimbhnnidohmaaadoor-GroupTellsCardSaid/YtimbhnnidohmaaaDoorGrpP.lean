/-
  What Keep yields, in plain words. No program.
-/
import Derived.Test.YtimbhnnidohmaaaDoorGrp1
import Derived.Test.YtimbhnnidohmaaaDoorFormR3
import Derived.Test.YtimbhnnidohmaaaDoorMap
namespace Go.Proofs.YtimbhnnidohmaaaDoor.W
set_option linter.unusedVariables false

def secsOf (o : Ob) (g : Grp) : List Int := g.secs.filter (inB o.secs.length)
def nameS (o : Ob) (s : Int) : ByteArray := (secD o s).name
def formS (o : Ob) (s : Int) : ByteArray := ⟨(formL o s).toArray⟩

/-- a copy of a group -/
structure Cp where
  obj : Nat
  names : List ByteArray
  forms : List ByteArray
def cpOf (i : Nat) (o : Ob) (g : Grp) : Cp := ⟨i, (secsOf o g).map (nameS o), (secsOf o g).map (formS o)⟩
def alikeB (a b : Cp) : Bool := decide (a.names = b.names) && decide (a.forms = b.forms)

structure Df where
  name : ByteArray
  first : Nat
  other : Nat
deriving DecidableEq
def Df.cells (d : Df) : List Value := [.string d.name, .int .i64 d.first, .int .i64 d.other]

def dropAll (k : List Bool) (l : List Int) : List Bool := l.foldl (fun k s => k.set s.toNat false) k

/-- the first copies, by name -/
abbrev Seen := List (ByteArray × Cp)
def lookC (l : Seen) (n : ByteArray) : Option Cp := lookV l n

structure KSt where
  seen : Seen
  kept : List Bool
  differ : List Df
def grpStep (i : Nat) (o : Ob) (σ : KSt) (g : Grp) : KSt := match lookC σ.seen g.name with
  | none => { σ with seen := σ.seen ++ [(g.name, cpOf i o g)] }
  | some old => { σ with kept := dropAll σ.kept (secsOf o g), differ := if alikeB old (cpOf i o g) then σ.differ else σ.differ ++ [⟨g.name, old.obj, i⟩] }

structure KAl where
  seen : Seen
  keep : List (List Bool)
  differ : List Df
def objStep (i : Nat) (κ : KAl) (o : Ob) : KAl :=
  let σ := o.groups.foldl (grpStep i o) ⟨κ.seen, List.replicate o.secs.length true, κ.differ⟩
  ⟨σ.seen, κ.keep ++ [σ.kept], σ.differ⟩
def keepF : List Ob → Nat → KAl → KAl
  | [], _, κ => κ
  | o :: l, i, κ => keepF l (i + 1) (objStep i κ o)
def keepR (l : List Ob) : KAl := keepF l 0 ⟨[], [], []⟩

theorem dropAll_len : ∀ (l : List Int) (k : List Bool), (dropAll k l).length = k.length
  | [], _ => rfl
  | s :: l, k => (dropAll_len l (k.set s.toNat false)).trans (by simp)
theorem dropAll_take (l : List Int) (k : List Bool) (j : Nat) (h : j < l.length) : dropAll k (l.take (j + 1)) = (dropAll k (l.take j)).set l[j].toNat false := by
  unfold dropAll
  rw [List.take_succ_eq_append_getElem h, List.foldl_append]; rfl
theorem secsOf_in {o : Ob} {g : Grp} {s : Int} (h : s ∈ secsOf o g) : 0 ≤ s ∧ s < (o.secs.length : Int) := by
  have := (List.mem_filter.1 h).2
  simp [inB, offB] at this
  omega
theorem secsOf_len (o : Ob) (g : Grp) : (secsOf o g).length ≤ g.secs.length := List.length_filter_le _ _

theorem keepF_app : ∀ (a b : List Ob) (i : Nat) (κ : KAl), keepF (a ++ b) i κ = keepF b (i + a.length) (keepF a i κ)
  | [], b, i, κ => rfl
  | o :: a, b, i, κ => by
    rw [List.cons_append, keepF, keepF, keepF_app a b (i + 1), List.length_cons, show i + 1 + a.length = i + (a.length + 1) by omega]
theorem keepR_take {l : List Ob} {j : Nat} (h : j < l.length) : keepR (l.take (j + 1)) = objStep j (keepR (l.take j)) l[j] := by
  unfold keepR
  rw [List.take_succ_eq_append_getElem h, keepF_app, List.length_take, Nat.min_eq_left (by omega), Nat.zero_add]; rfl

/-- the state behind the first groups of an object -/
def midSt (l : List Ob) (i : Nat) (o : Ob) (j : Nat) : KSt := (o.groups.take j).foldl (grpStep i o) ⟨(keepR (l.take i)).seen, List.replicate o.secs.length true, (keepR (l.take i)).differ⟩
theorem midSt_zero (l : List Ob) (i : Nat) (o : Ob) : midSt l i o 0 = ⟨(keepR (l.take i)).seen, List.replicate o.secs.length true, (keepR (l.take i)).differ⟩ := rfl
theorem midSt_step {l : List Ob} {i : Nat} {o : Ob} {j : Nat} (h : j < o.groups.length) : midSt l i o (j + 1) = grpStep i o (midSt l i o j) o.groups[j] := by
  unfold midSt
  rw [List.take_succ_eq_append_getElem h, List.foldl_append]; rfl
theorem midSt_end {l : List Ob} {i : Nat} (h : i < l.length) : keepR (l.take (i + 1)) = ⟨(midSt l i l[i] l[i].groups.length).seen, (keepR (l.take i)).keep ++ [(midSt l i l[i] l[i].groups.length).kept], (midSt l i l[i] l[i].groups.length).differ⟩ := by
  rw [keepR_take h]
  unfold objStep midSt
  rw [List.take_length]

theorem grpStep_kept_len (i : Nat) (o : Ob) (σ : KSt) (g : Grp) : (grpStep i o σ g).kept.length = σ.kept.length := by
  unfold grpStep
  split
  · rfl
  · exact dropAll_len _ _
theorem midSt_kept_len (l : List Ob) (i : Nat) (o : Ob) : ∀ j, j ≤ o.groups.length → (midSt l i o j).kept.length = o.secs.length
  | 0, _ => by rw [midSt_zero]; simp
  | j + 1, h => by rw [midSt_step (by omega), grpStep_kept_len, midSt_kept_len l i o j (by omega)]

/-- bounds under which Keep is walked -/
structure KeepOk (l : List Ob) : Prop where
  len : l.length ≤ 1000
  ok : ∀ o ∈ l, o.Ok
  secs : ∀ o ∈ l, o.secs.length ≤ 1000
  groups : ∀ o ∈ l, o.groups.length ≤ 1000
  bytes : ∀ o ∈ l, ∀ s ∈ o.secs, s.bytes.size ≤ 800000
  gsecs : ∀ o ∈ l, ∀ g ∈ o.groups, g.secs.length ≤ 1000

theorem grpStep_len (i : Nat) (o : Ob) (σ : KSt) (g : Grp) : (grpStep i o σ g).seen.length ≤ σ.seen.length + 1 ∧ (grpStep i o σ g).differ.length ≤ σ.differ.length + 1 := by
  unfold grpStep
  split
  · simp
  · split <;> simp
theorem midSt_len (l : List Ob) (i : Nat) (o : Ob) : ∀ j, j ≤ o.groups.length → (midSt l i o j).seen.length ≤ (keepR (l.take i)).seen.length + j ∧ (midSt l i o j).differ.length ≤ (keepR (l.take i)).differ.length + j
  | 0, _ => by rw [midSt_zero]; simp
  | j + 1, h => by
    rw [midSt_step (by omega)]
    have h1 := midSt_len l i o j (by omega)
    have h2 := grpStep_len i o (midSt l i o j) o.groups[j]
    omega
theorem keepR_len {l : List Ob} (h : KeepOk l) : ∀ i, i ≤ l.length → (keepR (l.take i)).seen.length ≤ 1000 * i ∧ (keepR (l.take i)).differ.length ≤ 1000 * i ∧ (keepR (l.take i)).keep.length = i
  | 0, _ => ⟨Nat.le_refl _, Nat.le_refl _, rfl⟩
  | i + 1, hi => by
    rw [midSt_end (by omega)]
    have h1 := keepR_len h i (by omega)
    have h2 := midSt_len l i l[i] l[i].groups.length (Nat.le_refl _)
    have h3 := h.groups l[i] (List.getElem_mem _)
    simp only [List.length_append, List.length_cons, List.length_nil]
    omega

end Go.Proofs.YtimbhnnidohmaaaDoor.W
