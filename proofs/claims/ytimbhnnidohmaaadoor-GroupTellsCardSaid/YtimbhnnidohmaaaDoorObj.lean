/-
  The structs of an object: what they are in memory (printed by tools/gen_struct.py).
-/
import Derived.Test.YtimbhnnidohmaaaDoorRw
namespace Go.Proofs.YtimbhnnidohmaaaDoor.W
open Go.RowKit
set_option linter.unusedVariables false

structure Sec where
  name : ByteArray
  kind : Int
  align : Int
  size : Int
  bytes : ByteArray
  keep : Bool
deriving DecidableEq, Inhabited
def Sec.cells (x : Sec) : List Value := [.string x.name, .int .i64 x.kind, .int .i64 x.align, .int .i64 x.size, .string x.bytes, .bool x.keep]
structure Sec.Ok (x : Sec) : Prop where
  name : lenR x.name.size
  kind : I64 x.kind
  align : I64 x.align
  size : I64 x.size
  bytes : lenR x.bytes.size
def Sec.E (w : World) (cs : List Value) (x : Sec) : Prop := cs = x.cells
theorem Sec.stays : Stays Sec.E := fun _ _ _ _ _ h => h
theorem Sec.cells_len (x : Sec) : (x.cells).length = 6 := rfl

structure Sym where
  name : ByteArray
  version : ByteArray
  main : Bool
  bind : Int
  vis : Int
  kind : Int
  sec : Int
  at_ : Int
  size : Int
  align : Int
deriving DecidableEq, Inhabited
def Sym.cells (x : Sym) : List Value := [.string x.name, .string x.version, .bool x.main, .int .i64 x.bind, .int .i64 x.vis, .int .i64 x.kind, .int .i64 x.sec, .int .i64 x.at_, .int .i64 x.size, .int .i64 x.align]
structure Sym.Ok (x : Sym) : Prop where
  name : lenR x.name.size
  version : lenR x.version.size
  bind : I64 x.bind
  vis : I64 x.vis
  kind : I64 x.kind
  sec : I64 x.sec
  at_ : I64 x.at_
  size : I64 x.size
  align : I64 x.align
def Sym.E (w : World) (cs : List Value) (x : Sym) : Prop := cs = x.cells
theorem Sym.stays : Stays Sym.E := fun _ _ _ _ _ h => h
theorem Sym.cells_len (x : Sym) : (x.cells).length = 10 := rfl

structure Rel where
  sec : Int
  at_ : Int
  kind : Int
  sym : Int
  add : Int
deriving DecidableEq, Inhabited
def Rel.cells (x : Rel) : List Value := [.int .i64 x.sec, .int .i64 x.at_, .int .i64 x.kind, .int .i64 x.sym, .int .i64 x.add]
structure Rel.Ok (x : Rel) : Prop where
  sec : I64 x.sec
  at_ : I64 x.at_
  kind : I64 x.kind
  sym : I64 x.sym
  add : I64 x.add
def Rel.E (w : World) (cs : List Value) (x : Rel) : Prop := cs = x.cells
theorem Rel.stays : Stays Rel.E := fun _ _ _ _ _ h => h
theorem Rel.cells_len (x : Rel) : (x.cells).length = 5 := rfl

structure Grp where
  name : ByteArray
  secs : List Int
deriving DecidableEq
def Grp.cells (x : Grp) (secsV : Value) : List Value := [.string x.name, secsV]
structure Grp.Ok (x : Grp) : Prop where
  name : lenR x.name.size
  secs : lenR x.secs.length
  secsI : ∀ y ∈ x.secs, I64 y
structure Grp.At (w : World) (x : Grp) (secsV : Value) : Prop where
  secs : Rw 1 intE w secsV x.secs
def Grp.E (w : World) (cs : List Value) (x : Grp) : Prop := ∃ secsV, cs = x.cells secsV ∧ x.At w secsV
theorem Grp.At.below {w w' : World} {x : Grp} {secsV : Value} (h : x.At w secsV) (hb : Below w.heap.size w w') : x.At w' secsV :=
  ⟨h.secs.below intE_stays hb⟩
theorem Grp.stays : Stays Grp.E := by
  rintro w w' cs x hb ⟨secsV, rfl, h⟩
  exact ⟨secsV, rfl, h.below hb⟩
theorem Grp.cells_len (x : Grp) (secsV : Value) : (x.cells secsV).length = 2 := rfl

structure Ini where
  sym : Int
  order : Int
  last : Bool
deriving DecidableEq, Inhabited
def Ini.cells (x : Ini) : List Value := [.int .i64 x.sym, .int .i64 x.order, .bool x.last]
structure Ini.Ok (x : Ini) : Prop where
  sym : I64 x.sym
  order : I64 x.order
def Ini.E (w : World) (cs : List Value) (x : Ini) : Prop := cs = x.cells
theorem Ini.stays : Stays Ini.E := fun _ _ _ _ _ h => h
theorem Ini.cells_len (x : Ini) : (x.cells).length = 3 := rfl

structure Lne where
  sec : Int
  at_ : Int
  file : ByteArray
  line : Int
deriving DecidableEq, Inhabited
def Lne.cells (x : Lne) : List Value := [.int .i64 x.sec, .int .i64 x.at_, .string x.file, .int .i64 x.line]
structure Lne.Ok (x : Lne) : Prop where
  sec : I64 x.sec
  at_ : I64 x.at_
  file : lenR x.file.size
  line : I64 x.line
def Lne.E (w : World) (cs : List Value) (x : Lne) : Prop := cs = x.cells
theorem Lne.stays : Stays Lne.E := fun _ _ _ _ _ h => h
theorem Lne.cells_len (x : Lne) : (x.cells).length = 4 := rfl

structure Inl where
  sec : Int
  from_ : Int
  to_ : Int
  name : ByteArray
  file : ByteArray
  line : Int
deriving DecidableEq, Inhabited
def Inl.cells (x : Inl) : List Value := [.int .i64 x.sec, .int .i64 x.from_, .int .i64 x.to_, .string x.name, .string x.file, .int .i64 x.line]
structure Inl.Ok (x : Inl) : Prop where
  sec : I64 x.sec
  from_ : I64 x.from_
  to_ : I64 x.to_
  name : lenR x.name.size
  file : lenR x.file.size
  line : I64 x.line
def Inl.E (w : World) (cs : List Value) (x : Inl) : Prop := cs = x.cells
theorem Inl.stays : Stays Inl.E := fun _ _ _ _ _ h => h
theorem Inl.cells_len (x : Inl) : (x.cells).length = 6 := rfl

structure Vrr where
  sec : Int
  from_ : Int
  to_ : Int
  name : ByteArray
  where_ : Int
  n : Int
deriving DecidableEq, Inhabited
def Vrr.cells (x : Vrr) : List Value := [.int .i64 x.sec, .int .i64 x.from_, .int .i64 x.to_, .string x.name, .int .i64 x.where_, .int .i64 x.n]
structure Vrr.Ok (x : Vrr) : Prop where
  sec : I64 x.sec
  from_ : I64 x.from_
  to_ : I64 x.to_
  name : lenR x.name.size
  where_ : I64 x.where_
  n : I64 x.n
def Vrr.E (w : World) (cs : List Value) (x : Vrr) : Prop := cs = x.cells
theorem Vrr.stays : Stays Vrr.E := fun _ _ _ _ _ h => h
theorem Vrr.cells_len (x : Vrr) : (x.cells).length = 6 := rfl

structure Dep where
  sec : Int
  from_ : Int
  to_ : Int
  bytes : Int
deriving DecidableEq, Inhabited
def Dep.cells (x : Dep) : List Value := [.int .i64 x.sec, .int .i64 x.from_, .int .i64 x.to_, .int .i64 x.bytes]
structure Dep.Ok (x : Dep) : Prop where
  sec : I64 x.sec
  from_ : I64 x.from_
  to_ : I64 x.to_
  bytes : I64 x.bytes
def Dep.E (w : World) (cs : List Value) (x : Dep) : Prop := cs = x.cells
theorem Dep.stays : Stays Dep.E := fun _ _ _ _ _ h => h
theorem Dep.cells_len (x : Dep) : (x.cells).length = 4 := rfl

structure Pce where
  from_ : Int
  size : Int
  to_ : Int
deriving DecidableEq, Inhabited
def Pce.cells (x : Pce) : List Value := [.int .i64 x.from_, .int .i64 x.size, .int .i64 x.to_]
structure Pce.Ok (x : Pce) : Prop where
  from_ : I64 x.from_
  size : I64 x.size
  to_ : I64 x.to_
def Pce.E (w : World) (cs : List Value) (x : Pce) : Prop := cs = x.cells
theorem Pce.stays : Stays Pce.E := fun _ _ _ _ _ h => h
theorem Pce.cells_len (x : Pce) : (x.cells).length = 3 := rfl

structure Cnv where
  sec : Int
  from_ : ByteArray
  pieces : List Pce
  code : Int
deriving DecidableEq
def Cnv.cells (x : Cnv) (piecesV : Value) : List Value := [.int .i64 x.sec, .string x.from_, piecesV, .int .i64 x.code]
structure Cnv.Ok (x : Cnv) : Prop where
  sec : I64 x.sec
  from_ : lenR x.from_.size
  pieces : lenR x.pieces.length
  piecesI : ∀ y ∈ x.pieces, y.Ok
  code : I64 x.code
structure Cnv.At (w : World) (x : Cnv) (piecesV : Value) : Prop where
  pieces : Rw 3 Pce.E w piecesV x.pieces
def Cnv.E (w : World) (cs : List Value) (x : Cnv) : Prop := ∃ piecesV, cs = x.cells piecesV ∧ x.At w piecesV
theorem Cnv.At.below {w w' : World} {x : Cnv} {piecesV : Value} (h : x.At w piecesV) (hb : Below w.heap.size w w') : x.At w' piecesV :=
  ⟨h.pieces.below Pce.stays hb⟩
theorem Cnv.stays : Stays Cnv.E := by
  rintro w w' cs x hb ⟨piecesV, rfl, h⟩
  exact ⟨piecesV, rfl, h.below hb⟩
theorem Cnv.cells_len (x : Cnv) (piecesV : Value) : (x.cells piecesV).length = 4 := rfl

structure Ob where
  name : ByteArray
  secs : List Sec
  syms : List Sym
  rels : List Rel
  groups : List Grp
  inits : List Ini
  lines : List Lne
  inlines : List Inl
  vars : List Vrr
  depths : List Dep
  converts : List Cnv
deriving DecidableEq
def Ob.cells (x : Ob) (secsV : Value) (symsV : Value) (relsV : Value) (groupsV : Value) (initsV : Value) (linesV : Value) (inlinesV : Value) (varsV : Value) (depthsV : Value) (convertsV : Value) : List Value := [.string x.name, secsV, symsV, relsV, groupsV, initsV, linesV, inlinesV, varsV, depthsV, convertsV]
structure Ob.Ok (x : Ob) : Prop where
  name : lenR x.name.size
  secs : lenR x.secs.length
  secsI : ∀ y ∈ x.secs, y.Ok
  syms : lenR x.syms.length
  symsI : ∀ y ∈ x.syms, y.Ok
  rels : lenR x.rels.length
  relsI : ∀ y ∈ x.rels, y.Ok
  groups : lenR x.groups.length
  groupsI : ∀ y ∈ x.groups, y.Ok
  inits : lenR x.inits.length
  initsI : ∀ y ∈ x.inits, y.Ok
  lines : lenR x.lines.length
  linesI : ∀ y ∈ x.lines, y.Ok
  inlines : lenR x.inlines.length
  inlinesI : ∀ y ∈ x.inlines, y.Ok
  vars : lenR x.vars.length
  varsI : ∀ y ∈ x.vars, y.Ok
  depths : lenR x.depths.length
  depthsI : ∀ y ∈ x.depths, y.Ok
  converts : lenR x.converts.length
  convertsI : ∀ y ∈ x.converts, y.Ok
structure Ob.At (w : World) (x : Ob) (secsV : Value) (symsV : Value) (relsV : Value) (groupsV : Value) (initsV : Value) (linesV : Value) (inlinesV : Value) (varsV : Value) (depthsV : Value) (convertsV : Value) : Prop where
  secs : Rw 6 Sec.E w secsV x.secs
  syms : Rw 10 Sym.E w symsV x.syms
  rels : Rw 5 Rel.E w relsV x.rels
  groups : Rw 2 Grp.E w groupsV x.groups
  inits : Rw 3 Ini.E w initsV x.inits
  lines : Rw 4 Lne.E w linesV x.lines
  inlines : Rw 6 Inl.E w inlinesV x.inlines
  vars : Rw 6 Vrr.E w varsV x.vars
  depths : Rw 4 Dep.E w depthsV x.depths
  converts : Rw 4 Cnv.E w convertsV x.converts
def Ob.E (w : World) (cs : List Value) (x : Ob) : Prop := ∃ secsV symsV relsV groupsV initsV linesV inlinesV varsV depthsV convertsV, cs = x.cells secsV symsV relsV groupsV initsV linesV inlinesV varsV depthsV convertsV ∧ x.At w secsV symsV relsV groupsV initsV linesV inlinesV varsV depthsV convertsV
theorem Ob.At.below {w w' : World} {x : Ob} {secsV symsV relsV groupsV initsV linesV inlinesV varsV depthsV convertsV : Value} (h : x.At w secsV symsV relsV groupsV initsV linesV inlinesV varsV depthsV convertsV) (hb : Below w.heap.size w w') : x.At w' secsV symsV relsV groupsV initsV linesV inlinesV varsV depthsV convertsV :=
  ⟨h.secs.below Sec.stays hb, h.syms.below Sym.stays hb, h.rels.below Rel.stays hb, h.groups.below Grp.stays hb, h.inits.below Ini.stays hb, h.lines.below Lne.stays hb, h.inlines.below Inl.stays hb, h.vars.below Vrr.stays hb, h.depths.below Dep.stays hb, h.converts.below Cnv.stays hb⟩
theorem Ob.stays : Stays Ob.E := by
  rintro w w' cs x hb ⟨secsV, symsV, relsV, groupsV, initsV, linesV, inlinesV, varsV, depthsV, convertsV, rfl, h⟩
  exact ⟨secsV, symsV, relsV, groupsV, initsV, linesV, inlinesV, varsV, depthsV, convertsV, rfl, h.below hb⟩
theorem Ob.cells_len (x : Ob) (secsV : Value) (symsV : Value) (relsV : Value) (groupsV : Value) (initsV : Value) (linesV : Value) (inlinesV : Value) (varsV : Value) (depthsV : Value) (convertsV : Value) : (x.cells secsV symsV relsV groupsV initsV linesV inlinesV varsV depthsV convertsV).length = 11 := rfl

end Go.Proofs.YtimbhnnidohmaaaDoor.W
