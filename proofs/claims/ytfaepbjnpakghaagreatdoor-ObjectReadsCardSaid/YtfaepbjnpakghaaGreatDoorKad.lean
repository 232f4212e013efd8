import Derived.Test.YtfaepbjnpakghaaGreatDoorCards
import Derived.Lib.LaidTab
import Derived.LaidSub
import Derived.LaidLaws
import Derived.Maps.AppendAt
import Derived.Deep.QuietTactic
import Derived.BigQuiet
import Derived.Lib.QuietBelow
import Derived.Test.YtfaepbjnpakghaaGreatDoorShelf
import Derived.Shelf.Strings.BuilderX
import Derived.Shelf.RegionOpenPlain
import Derived.Lib.Slices
import Derived.Lib.Walk
import Derived.Lib.Builder
import Derived.Lib.AppendStr
import Derived.Lib.UnsafeStr
import Derived.Lib.MakeNoZero
import Derived.Laws.Externs
import Derived.Laws.IdiomCopy
import Derived.Maps.OwnSet
import Derived.Maps.Views
import Derived.StringKeys
import Derived.Test.YtfaepbjnpakghaaGreatDoorKaa
import Derived.Test.YtfaepbjnpakghaaGreatDoorKab
import Derived.Test.YtfaepbjnpakghaaGreatDoorKac
/- A block's cells in a world: facts of all cells at once. No program. (cellsN: at the world itself; cellsNa: at the world with one block more) -/
namespace Go.Proofs.YtfaepbjnpakghaaGreatDoor.W
open Go.RowKit
set_option linter.unusedVariables false
def CellsAt (b:Nat) (cs:List Value) (w:World):Prop:=b<w.heap.size∧∀j v,cs[j]? =some v→w.cell? ⟨b,j,none⟩=some v
theorem below_al (w:World) (o:Obj):Below w.heap.size w (w.alloc o):=(Below.refl _ _).alloc (Nat.le_refl _) _
theorem CellsAt.below {b:Nat} {cs:List Value} {w w':World} (h:CellsAt b cs w) (hb:Below w.heap.size w w'):CellsAt b cs w':=
 ⟨Nat.lt_of_lt_of_le h.1 hb.size,fun j v hv=>(hb.cell (p:=⟨b,j,none⟩) h.1).trans (h.2 j v hv)⟩
theorem CellsAt.new (w:World) (cs:List Value) (T:TypeId):CellsAt w.heap.size cs (w.alloc (.cells cs.toArray T)):=⟨by simp,fun j v hv=>(Blk.new w T cs).at hv⟩
theorem CellsAt.new' {w:World} {b:Nat} (cs:List Value) (T:TypeId) (h:w.heap.size=b):CellsAt b cs (w.alloc (.cells cs.toArray T)):=h▸CellsAt.new w cs T
theorem CellsAt.drew {b:Nat} {cs:List Value} {w:World} (h:CellsAt b cs w):CellsAt b cs w.drew:=h
theorem CellsAt.other {b:Nat} {cs:List Value} {w:World} (h:CellsAt b cs w) {a:Addr} (hne:a.block≠b) (v:Value):CellsAt b cs (w.setCell a v):=
 ⟨by simpa using h.1,fun j u hu=>by
  have:=h.2 j u hu
  rw[←this]
  simp[World.cell?,World.setCell,Array.getElem?_modify,hne]⟩
theorem cells2 {b:Nat} {c0 c1:Value} {w:World} (h:CellsAt b [c0,c1] w):w.cell? ⟨b,0,none⟩=some c0∧w.cell? ⟨b,1,none⟩=some c1:=
 ⟨h.2 0 _ rfl,h.2 1 _ rfl⟩
theorem cells2a {b:Nat} {c0 c1:Value} {w:World} (h:CellsAt b [c0,c1] w):(∀o,(w.alloc o).cell? ⟨b,0,none⟩=some c0)∧(∀o,(w.alloc o).cell? ⟨b,1,none⟩=some c1):=
 ⟨fun o=>(h.below (below_al w o)).2 0 _ rfl,fun o=>(h.below (below_al w o)).2 1 _ rfl⟩
theorem cells3 {b:Nat} {c0 c1 c2:Value} {w:World} (h:CellsAt b [c0,c1,c2] w):w.cell? ⟨b,0,none⟩=some c0∧w.cell? ⟨b,1,none⟩=some c1∧w.cell? ⟨b,2,none⟩=some c2:=
 ⟨h.2 0 _ rfl,h.2 1 _ rfl,h.2 2 _ rfl⟩
theorem cells3a {b:Nat} {c0 c1 c2:Value} {w:World} (h:CellsAt b [c0,c1,c2] w):(∀o,(w.alloc o).cell? ⟨b,0,none⟩=some c0)∧(∀o,(w.alloc o).cell? ⟨b,1,none⟩=some c1)∧(∀o,(w.alloc o).cell? ⟨b,2,none⟩=some c2):=
 ⟨fun o=>(h.below (below_al w o)).2 0 _ rfl,fun o=>(h.below (below_al w o)).2 1 _ rfl,fun o=>(h.below (below_al w o)).2 2 _ rfl⟩
theorem cells4 {b:Nat} {c0 c1 c2 c3:Value} {w:World} (h:CellsAt b [c0,c1,c2,c3] w):w.cell? ⟨b,0,none⟩=some c0∧w.cell? ⟨b,1,none⟩=some c1∧w.cell? ⟨b,2,none⟩=some c2∧w.cell? ⟨b,3,none⟩=some c3:=
 ⟨h.2 0 _ rfl,h.2 1 _ rfl,h.2 2 _ rfl,h.2 3 _ rfl⟩
theorem cells4a {b:Nat} {c0 c1 c2 c3:Value} {w:World} (h:CellsAt b [c0,c1,c2,c3] w):(∀o,(w.alloc o).cell? ⟨b,0,none⟩=some c0)∧(∀o,(w.alloc o).cell? ⟨b,1,none⟩=some c1)∧(∀o,(w.alloc o).cell? ⟨b,2,none⟩=some c2)∧(∀o,(w.alloc o).cell? ⟨b,3,none⟩=some c3):=
 ⟨fun o=>(h.below (below_al w o)).2 0 _ rfl,fun o=>(h.below (below_al w o)).2 1 _ rfl,fun o=>(h.below (below_al w o)).2 2 _ rfl,fun o=>(h.below (below_al w o)).2 3 _ rfl⟩
theorem cells5 {b:Nat} {c0 c1 c2 c3 c4:Value} {w:World} (h:CellsAt b [c0,c1,c2,c3,c4] w):w.cell? ⟨b,0,none⟩=some c0∧w.cell? ⟨b,1,none⟩=some c1∧w.cell? ⟨b,2,none⟩=some c2∧w.cell? ⟨b,3,none⟩=some c3∧w.cell? ⟨b,4,none⟩=some c4:=
 ⟨h.2 0 _ rfl,h.2 1 _ rfl,h.2 2 _ rfl,h.2 3 _ rfl,h.2 4 _ rfl⟩
theorem cells5a {b:Nat} {c0 c1 c2 c3 c4:Value} {w:World} (h:CellsAt b [c0,c1,c2,c3,c4] w):(∀o,(w.alloc o).cell? ⟨b,0,none⟩=some c0)∧(∀o,(w.alloc o).cell? ⟨b,1,none⟩=some c1)∧(∀o,(w.alloc o).cell? ⟨b,2,none⟩=some c2)∧(∀o,(w.alloc o).cell? ⟨b,3,none⟩=some c3)∧(∀o,(w.alloc o).cell? ⟨b,4,none⟩=some c4):=
 ⟨fun o=>(h.below (below_al w o)).2 0 _ rfl,fun o=>(h.below (below_al w o)).2 1 _ rfl,fun o=>(h.below (below_al w o)).2 2 _ rfl,fun o=>(h.below (below_al w o)).2 3 _ rfl,fun o=>(h.below (below_al w o)).2 4 _ rfl⟩
theorem cells6 {b:Nat} {c0 c1 c2 c3 c4 c5:Value} {w:World} (h:CellsAt b [c0,c1,c2,c3,c4,c5] w):w.cell? ⟨b,0,none⟩=some c0∧w.cell? ⟨b,1,none⟩=some c1∧w.cell? ⟨b,2,none⟩=some c2∧w.cell? ⟨b,3,none⟩=some c3∧w.cell? ⟨b,4,none⟩=some c4∧w.cell? ⟨b,5,none⟩=some c5:=
 ⟨h.2 0 _ rfl,h.2 1 _ rfl,h.2 2 _ rfl,h.2 3 _ rfl,h.2 4 _ rfl,h.2 5 _ rfl⟩
theorem cells6a {b:Nat} {c0 c1 c2 c3 c4 c5:Value} {w:World} (h:CellsAt b [c0,c1,c2,c3,c4,c5] w):(∀o,(w.alloc o).cell? ⟨b,0,none⟩=some c0)∧(∀o,(w.alloc o).cell? ⟨b,1,none⟩=some c1)∧(∀o,(w.alloc o).cell? ⟨b,2,none⟩=some c2)∧(∀o,(w.alloc o).cell? ⟨b,3,none⟩=some c3)∧(∀o,(w.alloc o).cell? ⟨b,4,none⟩=some c4)∧(∀o,(w.alloc o).cell? ⟨b,5,none⟩=some c5):=
 ⟨fun o=>(h.below (below_al w o)).2 0 _ rfl,fun o=>(h.below (below_al w o)).2 1 _ rfl,fun o=>(h.below (below_al w o)).2 2 _ rfl,fun o=>(h.below (below_al w o)).2 3 _ rfl,fun o=>(h.below (below_al w o)).2 4 _ rfl,fun o=>(h.below (below_al w o)).2 5 _ rfl⟩
theorem cells10 {b:Nat} {c0 c1 c2 c3 c4 c5 c6 c7 c8 c9:Value} {w:World} (h:CellsAt b [c0,c1,c2,c3,c4,c5,c6,c7,c8,c9] w):w.cell? ⟨b,0,none⟩=some c0∧w.cell? ⟨b,1,none⟩=some c1∧w.cell? ⟨b,2,none⟩=some c2∧w.cell? ⟨b,3,none⟩=some c3∧w.cell? ⟨b,4,none⟩=some c4∧w.cell? ⟨b,5,none⟩=some c5∧w.cell? ⟨b,6,none⟩=some c6∧w.cell? ⟨b,7,none⟩=some c7∧w.cell? ⟨b,8,none⟩=some c8∧w.cell? ⟨b,9,none⟩=some c9:=
 ⟨h.2 0 _ rfl,h.2 1 _ rfl,h.2 2 _ rfl,h.2 3 _ rfl,h.2 4 _ rfl,h.2 5 _ rfl,h.2 6 _ rfl,h.2 7 _ rfl,h.2 8 _ rfl,h.2 9 _ rfl⟩
theorem cells10a {b:Nat} {c0 c1 c2 c3 c4 c5 c6 c7 c8 c9:Value} {w:World} (h:CellsAt b [c0,c1,c2,c3,c4,c5,c6,c7,c8,c9] w):(∀o,(w.alloc o).cell? ⟨b,0,none⟩=some c0)∧(∀o,(w.alloc o).cell? ⟨b,1,none⟩=some c1)∧(∀o,(w.alloc o).cell? ⟨b,2,none⟩=some c2)∧(∀o,(w.alloc o).cell? ⟨b,3,none⟩=some c3)∧(∀o,(w.alloc o).cell? ⟨b,4,none⟩=some c4)∧(∀o,(w.alloc o).cell? ⟨b,5,none⟩=some c5)∧(∀o,(w.alloc o).cell? ⟨b,6,none⟩=some c6)∧(∀o,(w.alloc o).cell? ⟨b,7,none⟩=some c7)∧(∀o,(w.alloc o).cell? ⟨b,8,none⟩=some c8)∧(∀o,(w.alloc o).cell? ⟨b,9,none⟩=some c9):=
 ⟨fun o=>(h.below (below_al w o)).2 0 _ rfl,fun o=>(h.below (below_al w o)).2 1 _ rfl,fun o=>(h.below (below_al w o)).2 2 _ rfl,fun o=>(h.below (below_al w o)).2 3 _ rfl,fun o=>(h.below (below_al w o)).2 4 _ rfl,fun o=>(h.below (below_al w o)).2 5 _ rfl,fun o=>(h.below (below_al w o)).2 6 _ rfl,fun o=>(h.below (below_al w o)).2 7 _ rfl,fun o=>(h.below (below_al w o)).2 8 _ rfl,fun o=>(h.below (below_al w o)).2 9 _ rfl⟩
theorem cells11 {b:Nat} {c0 c1 c2 c3 c4 c5 c6 c7 c8 c9 c10:Value} {w:World} (h:CellsAt b [c0,c1,c2,c3,c4,c5,c6,c7,c8,c9,c10] w):w.cell? ⟨b,0,none⟩=some c0∧w.cell? ⟨b,1,none⟩=some c1∧w.cell? ⟨b,2,none⟩=some c2∧w.cell? ⟨b,3,none⟩=some c3∧w.cell? ⟨b,4,none⟩=some c4∧w.cell? ⟨b,5,none⟩=some c5∧w.cell? ⟨b,6,none⟩=some c6∧w.cell? ⟨b,7,none⟩=some c7∧w.cell? ⟨b,8,none⟩=some c8∧w.cell? ⟨b,9,none⟩=some c9∧w.cell? ⟨b,10,none⟩=some c10:=
 ⟨h.2 0 _ rfl,h.2 1 _ rfl,h.2 2 _ rfl,h.2 3 _ rfl,h.2 4 _ rfl,h.2 5 _ rfl,h.2 6 _ rfl,h.2 7 _ rfl,h.2 8 _ rfl,h.2 9 _ rfl,h.2 10 _ rfl⟩
theorem cells11a {b:Nat} {c0 c1 c2 c3 c4 c5 c6 c7 c8 c9 c10:Value} {w:World} (h:CellsAt b [c0,c1,c2,c3,c4,c5,c6,c7,c8,c9,c10] w):(∀o,(w.alloc o).cell? ⟨b,0,none⟩=some c0)∧(∀o,(w.alloc o).cell? ⟨b,1,none⟩=some c1)∧(∀o,(w.alloc o).cell? ⟨b,2,none⟩=some c2)∧(∀o,(w.alloc o).cell? ⟨b,3,none⟩=some c3)∧(∀o,(w.alloc o).cell? ⟨b,4,none⟩=some c4)∧(∀o,(w.alloc o).cell? ⟨b,5,none⟩=some c5)∧(∀o,(w.alloc o).cell? ⟨b,6,none⟩=some c6)∧(∀o,(w.alloc o).cell? ⟨b,7,none⟩=some c7)∧(∀o,(w.alloc o).cell? ⟨b,8,none⟩=some c8)∧(∀o,(w.alloc o).cell? ⟨b,9,none⟩=some c9)∧(∀o,(w.alloc o).cell? ⟨b,10,none⟩=some c10):=
 ⟨fun o=>(h.below (below_al w o)).2 0 _ rfl,fun o=>(h.below (below_al w o)).2 1 _ rfl,fun o=>(h.below (below_al w o)).2 2 _ rfl,fun o=>(h.below (below_al w o)).2 3 _ rfl,fun o=>(h.below (below_al w o)).2 4 _ rfl,fun o=>(h.below (below_al w o)).2 5 _ rfl,fun o=>(h.below (below_al w o)).2 6 _ rfl,fun o=>(h.below (below_al w o)).2 7 _ rfl,fun o=>(h.below (below_al w o)).2 8 _ rfl,fun o=>(h.below (below_al w o)).2 9 _ rfl,fun o=>(h.below (below_al w o)).2 10 _ rfl⟩
theorem rows2 {w:World} {g o:Nat} {c0 c1:Value} (h:∀i u,([c0,c1]:List Value)[i]? =some u→w.cell? ⟨g,o+i,none⟩=some u):w.cell? ⟨g,o,none⟩=some c0∧w.cell? ⟨g,o+1,none⟩=some c1:=
 ⟨h 0 _ rfl,h 1 _ rfl⟩
theorem rows3 {w:World} {g o:Nat} {c0 c1 c2:Value} (h:∀i u,([c0,c1,c2]:List Value)[i]? =some u→w.cell? ⟨g,o+i,none⟩=some u):w.cell? ⟨g,o,none⟩=some c0∧w.cell? ⟨g,o+1,none⟩=some c1∧w.cell? ⟨g,o+2,none⟩=some c2:=
 ⟨h 0 _ rfl,h 1 _ rfl,h 2 _ rfl⟩
theorem rows4 {w:World} {g o:Nat} {c0 c1 c2 c3:Value} (h:∀i u,([c0,c1,c2,c3]:List Value)[i]? =some u→w.cell? ⟨g,o+i,none⟩=some u):w.cell? ⟨g,o,none⟩=some c0∧w.cell? ⟨g,o+1,none⟩=some c1∧w.cell? ⟨g,o+2,none⟩=some c2∧w.cell? ⟨g,o+3,none⟩=some c3:=
 ⟨h 0 _ rfl,h 1 _ rfl,h 2 _ rfl,h 3 _ rfl⟩
theorem rows5 {w:World} {g o:Nat} {c0 c1 c2 c3 c4:Value} (h:∀i u,([c0,c1,c2,c3,c4]:List Value)[i]? =some u→w.cell? ⟨g,o+i,none⟩=some u):w.cell? ⟨g,o,none⟩=some c0∧w.cell? ⟨g,o+1,none⟩=some c1∧w.cell? ⟨g,o+2,none⟩=some c2∧w.cell? ⟨g,o+3,none⟩=some c3∧w.cell? ⟨g,o+4,none⟩=some c4:=
 ⟨h 0 _ rfl,h 1 _ rfl,h 2 _ rfl,h 3 _ rfl,h 4 _ rfl⟩
theorem rows6 {w:World} {g o:Nat} {c0 c1 c2 c3 c4 c5:Value} (h:∀i u,([c0,c1,c2,c3,c4,c5]:List Value)[i]? =some u→w.cell? ⟨g,o+i,none⟩=some u):w.cell? ⟨g,o,none⟩=some c0∧w.cell? ⟨g,o+1,none⟩=some c1∧w.cell? ⟨g,o+2,none⟩=some c2∧w.cell? ⟨g,o+3,none⟩=some c3∧w.cell? ⟨g,o+4,none⟩=some c4∧w.cell? ⟨g,o+5,none⟩=some c5:=
 ⟨h 0 _ rfl,h 1 _ rfl,h 2 _ rfl,h 3 _ rfl,h 4 _ rfl,h 5 _ rfl⟩
theorem rows10 {w:World} {g o:Nat} {c0 c1 c2 c3 c4 c5 c6 c7 c8 c9:Value} (h:∀i u,([c0,c1,c2,c3,c4,c5,c6,c7,c8,c9]:List Value)[i]? =some u→w.cell? ⟨g,o+i,none⟩=some u):w.cell? ⟨g,o,none⟩=some c0∧w.cell? ⟨g,o+1,none⟩=some c1∧w.cell? ⟨g,o+2,none⟩=some c2∧w.cell? ⟨g,o+3,none⟩=some c3∧w.cell? ⟨g,o+4,none⟩=some c4∧w.cell? ⟨g,o+5,none⟩=some c5∧w.cell? ⟨g,o+6,none⟩=some c6∧w.cell? ⟨g,o+7,none⟩=some c7∧w.cell? ⟨g,o+8,none⟩=some c8∧w.cell? ⟨g,o+9,none⟩=some c9:=
 ⟨h 0 _ rfl,h 1 _ rfl,h 2 _ rfl,h 3 _ rfl,h 4 _ rfl,h 5 _ rfl,h 6 _ rfl,h 7 _ rfl,h 8 _ rfl,h 9 _ rfl⟩
theorem rows4a {w:World} {g o:Nat} {c0 c1 c2 c3:Value} (hg:g<w.heap.size) (h:∀i u,([c0,c1,c2,c3]:List Value)[i]? =some u→w.cell? ⟨g,o+i,none⟩=some u):(∀ob,(w.alloc ob).cell? ⟨g,o,none⟩=some c0)∧(∀ob,(w.alloc ob).cell? ⟨g,o+1,none⟩=some c1)∧(∀ob,(w.alloc ob).cell? ⟨g,o+2,none⟩=some c2)∧(∀ob,(w.alloc ob).cell? ⟨g,o+3,none⟩=some c3):=
 ⟨fun ob=>((below_al w ob).cell (p:=⟨g,_,none⟩) hg).trans (h 0 _ rfl),fun ob=>((below_al w ob).cell (p:=⟨g,_,none⟩) hg).trans (h 1 _ rfl),fun ob=>((below_al w ob).cell (p:=⟨g,_,none⟩) hg).trans (h 2 _ rfl),fun ob=>((below_al w ob).cell (p:=⟨g,_,none⟩) hg).trans (h 3 _ rfl)⟩
theorem rows5a {w:World} {g o:Nat} {c0 c1 c2 c3 c4:Value} (hg:g<w.heap.size) (h:∀i u,([c0,c1,c2,c3,c4]:List Value)[i]? =some u→w.cell? ⟨g,o+i,none⟩=some u):(∀ob,(w.alloc ob).cell? ⟨g,o,none⟩=some c0)∧(∀ob,(w.alloc ob).cell? ⟨g,o+1,none⟩=some c1)∧(∀ob,(w.alloc ob).cell? ⟨g,o+2,none⟩=some c2)∧(∀ob,(w.alloc ob).cell? ⟨g,o+3,none⟩=some c3)∧(∀ob,(w.alloc ob).cell? ⟨g,o+4,none⟩=some c4):=
 ⟨fun ob=>((below_al w ob).cell (p:=⟨g,_,none⟩) hg).trans (h 0 _ rfl),fun ob=>((below_al w ob).cell (p:=⟨g,_,none⟩) hg).trans (h 1 _ rfl),fun ob=>((below_al w ob).cell (p:=⟨g,_,none⟩) hg).trans (h 2 _ rfl),fun ob=>((below_al w ob).cell (p:=⟨g,_,none⟩) hg).trans (h 3 _ rfl),fun ob=>((below_al w ob).cell (p:=⟨g,_,none⟩) hg).trans (h 4 _ rfl)⟩
end Go.Proofs.YtfaepbjnpakghaaGreatDoor.W
namespace Go.Proofs.YtfaepbjnpakghaaGreatDoor.W
open Go.RowKit
set_option linter.unusedVariables false
theorem Tabs.below {w w':World} (h:Tabs w) (b:Below w.heap.size w w'):Tabs w':=
 h.keeps (Keeps.of_below (S:=fun k=>w.heap.size≤k) b (fun k _ h=>h)) (by have:=h.lt;omega) (by have:=h.lt;omega)
theorem sumL_len (l:List UInt8):(sumL l).length=32:=by simp[sumL,outN]
end Go.Proofs.YtfaepbjnpakghaaGreatDoor.W
namespace Go.Proofs.YtfaepbjnpakghaaGreatDoor.W
open Go.RowKit
set_option linter.unusedVariables false
abbrev laidL:List (String × DataW Unit):=[("linchpin/digest.turns",Rows.laid_linchpin_digest_turns),("linchpin/digest.constants",Rows.laid_linchpin_digest_constants),("linchpin/isa.forms",Rows.laid_linchpin_isa_forms)]
structure TabO (w:World):Prop where
 d:Tabs w
 f:FormsAt w
theorem gC:Tryz.prog.globalNamed "linchpin/digest.constants" =some 0:=by kernel_rfl
theorem gT:Tryz.prog.globalNamed "linchpin/digest.turns" =some 1:=by kernel_rfl
theorem gCty:(Tryz.prog.globals[0]?).map (·.type)=some 238:=by kernel_rfl
theorem gTty:(Tryz.prog.globals[1]?).map (·.type)=some 241:=by kernel_rfl
theorem cellsC:Tryz.prog.cellsOf 238=24:=by kernel_rfl
theorem cellsT:Tryz.prog.cellsOf 241=25:=by kernel_rfl
theorem cellsI:Tryz.prog.cellsOf 3=1:=by kernel_rfl
theorem cellsU:Tryz.prog.cellsOf 146=1:=by kernel_rfl
theorem var_block {W:World} {n:String} {g:Nat} {cs:Array Value} (hg:Tryz.prog.globalNamed n=some g) (h:W.var? Tryz.prog n=some cs):∃t f,W.heap[g]? =some (.cells cs t f):=by
 simp only[World.var?,hg,Option.bind_some] at h
 split at h
 ·rename_i h'
  simp at h;subst h
  exact⟨_,_,h'⟩
 ·cases h
theorem tabs_of {W:World} (h:laidMetH Tryz.prog laidL W):TabO W:=by
 have h':laidMet Tryz.prog laidL W:=h
 have h1:laidMet Tryz.prog [("linchpin/isa.forms",Rows.laid_linchpin_isa_forms)] W:=h'.filter (fun x=>x.1== "linchpin/isa.forms")
 have h2:laidMet Tryz.prog [("linchpin/digest.constants",Rows.laid_linchpin_digest_constants)] W:=h'.filter (fun x=>x.1== "linchpin/digest.constants")
 have h3:laidMet Tryz.prog [("linchpin/digest.turns",Rows.laid_linchpin_digest_turns)] W:=h'.filter (fun x=>x.1== "linchpin/digest.turns")
 have a:Lib.TabIs Tryz.prog W "linchpin/digest.turns" .i64 (turnL.map fun(x:Nat)=>(x:Int)):=Lib.tabIs_of_head (rest:=[]) gT gTty Tryz.underlying241 Tryz.underlying3 cellsI cellsT h3
 have b:Lib.TabIs Tryz.prog W "linchpin/digest.constants" .u64 (constL.map fun(x:Nat)=>(x:Int)):=Lib.tabIs_of_head (rest:=[]) gC gCty Tryz.underlying238 Tryz.underlying146 cellsU cellsC h2
 exact⟨⟨var_block gC b,var_block gT a⟩,forms_of h1⟩
theorem TabO.below {w w':World} (h:TabO w) (b:Below w.heap.size w w'):TabO w':=⟨h.d.below b,h.f.below b⟩
def putCells (vs:List Value):Obj→Obj
 | .cells _ t frozen=> .cells vs.toArray t frozen
 | o=>o
noncomputable def laidWorld (os:Os):World:=
 {World.holding Tryz.prog os ⟨#[],#[],[]⟩ with heap:=(((World.holding Tryz.prog os ⟨#[],#[],[]⟩).heap.modify 0 (putCells constV)).modify 1 (putCells turnV)).modify 2 (putCells (formT.flatten.map fun s=>Value.string ⟨s.toArray⟩))}
end Go.Proofs.YtfaepbjnpakghaaGreatDoor.W
namespace Go.Proofs.YtfaepbjnpakghaaGreatDoor.W
open Go.RowKit
set_option linter.unusedVariables false
theorem wp_append_run {P:Program} {ops:Array Oper} {rest:List Oper} {o:Oper} {a:Act} {Q:Exit→Act→World→Prop} (hgd:o.guard=none) (s x:Operand) (t:TypeId)
 (ho:o.op= .call {callee:= .builtin .append,args:= #[s,x],argTypes:= #[t,t]}) (vs vx:Value) (W:World) (hs:a.eval s=vs) (hx:a.eval x=vx) {v':Value} {w':World}
 (hr:(Builtin.append_ #[t,t] o.type #[vs,vx]).run P W= .ok v' w') (h:wpList P ops Q rest (a.put o.dst v') w'):wpList P ops Q (o::rest) a W:=by
 refine wpList_plain hgd fun K hK=> ?_
 unfold Oper.wp execOp
 simp only[ho,resolve,invoke,builtin,Sem.run_bind,Sem.run_pure,Result.andThen_ok,List.map_toArray,List.map_cons,List.map_nil,hs,hx,hr]
 exact hK _ _ h
theorem step_append_run {P:Program} {ops:Array Oper} {o:Oper} {a:Act} {K:Act→World→Prop} {Q:Exit→Act→World→Prop} {E:Prop} (hgd:o.guard=none) (s x:Operand) (t:TypeId)
 (ho:o.op= .call {callee:= .builtin .append,args:= #[s,x],argTypes:= #[t,t]}) (vs vx:Value) (W:World) (hs:a.eval s=vs) (hx:a.eval x=vx) {v':Value} {w':World}
 (hr:(Builtin.append_ #[t,t] o.type #[vs,vx]).run P W= .ok v' w') (h:K (a.put o.dst v') w'):
 if Region.wanted o (yielded ops a.tmps)=true then Oper.wp P o a W K Q else E:=by
 have hw:Region.wanted o (yielded ops a.tmps)=true:=by simp[Region.wanted,hgd]
 rw[if_pos hw]
 unfold Oper.wp execOp
 simp only[ho,resolve,invoke,builtin,Sem.run_bind,Sem.run_pure,Result.andThen_ok,List.map_toArray,List.map_cons,List.map_nil,hs,hx,hr]
 exact h
theorem wp_clear_run {P:Program} {ops:Array Oper} {rest:List Oper} {o:Oper} {a:Act} {Q:Exit→Act→World→Prop} (hgd:o.guard=none) (s:Operand) (t:TypeId)
 (ho:o.op= .call {callee:= .builtin .clear,args:= #[s],argTypes:= #[t]}) (vs:Value) (W:World) (hs:a.eval s=vs) {v':Value} {w':World}
 (hr:(Builtin.clear_ #[t] o.type #[vs]).run P W= .ok v' w') (h:wpList P ops Q rest (a.put o.dst v') w'):wpList P ops Q (o::rest) a W:=by
 refine wpList_plain hgd fun K hK=> ?_
 unfold Oper.wp execOp
 simp only[ho,resolve,invoke,builtin,Sem.run_bind,Sem.run_pure,Result.andThen_ok,List.map_toArray,List.map_cons,List.map_nil,hs,hr]
 exact hK _ _ h
theorem run_row {P:Program} (w:World) (t ty e:TypeId) {i:TypeInfo} {z:Value} {size bytes:Nat} (ht:P.underlying t=some (.slice e)) (hi:P.info? e=some i) (hz:i.zero=some z) (hsize:i.size=size) (hby:i.bytes=bytes) (hzs:z.cells.size=size) (h0:0<size)
 (v:Value) (n:Nat) (xs:List Value) (hown:w.ownsRow 0 e size v n xs) (a:Addr) (m c:Nat) (us:List Value) (hm:us.length=m*size) (hus:∀j u,us[j]? =some u→w.cell? (a.add j)=some u) (h1:∀u∈us,u.oneCell'=true)
 (h63:n+m≤maxLen) (hbytes:(n+m)*bytes≤140737488355328):
 ∃v' w',(Builtin.append_ #[t,t] ty #[v, .slice (some a) m c]).run P w= .ok v' w'∧w'.ownsRow 0 e size v' (n+m) (xs++us)∧Keeps (fun k=>v.ownBlock=some k) w w'∧(v'.ownBlock=v.ownBlock∨v'.ownBlock=some w.heap.size):=by
 obtain⟨v',w',hr,h2,h3,_,h5⟩:=run_append_own_at (P:=P) w 0 t ty e i z size bytes ht hi hz hsize hby hzs h0 v n xs hown a m c us hm hus h1 h63 hbytes (Nat.zero_le _)
 exact⟨v',w',hr,h2,⟨h3.os,h3.tape,h3.output,h3.size,fun k hk hn=>h3.block k hk (fun c=>hn c.symm)⟩,h5⟩
theorem wpList_val {P:Program} {ops:Array Oper} {rest:List Oper} {o:Oper} {a:Act} {w:World} {Q:Exit→Act→World→Prop} (hgd:o.guard=none) {v:Value} {w':World}
 (hy:(execOp a.eval o).run P w= .ok (.value v) w') (h:wpList P ops Q rest (a.put o.dst v) w'):wpList P ops Q (o::rest) a w:=by
 refine wpList_plain hgd fun K hK=> ?_
 unfold Oper.wp
 rw[hy]
 exact hK _ _ h
end Go.Proofs.YtfaepbjnpakghaaGreatDoor.W
namespace Go.Proofs.YtfaepbjnpakghaaGreatDoor.W
open Go.RowKit
set_option linter.unusedVariables false
end Go.Proofs.YtfaepbjnpakghaaGreatDoor.W
namespace Go.Proofs.YtfaepbjnpakghaaGreatDoor.W
open Go.RowKit
set_option linter.unusedVariables false
set_option maxHeartbeats 1000000 in
theorem left_any (x n:Nat) (hx:x<18446744073709551616) (hn:n<64) (w:World):Calls Tryz.prog 252 #[.int .u64 x, .int .u64 n] w fun e w'=>e= .returned (.int .u64 (rotl x n:Nat))∧w=w':=by
 rcases Nat.eq_zero_or_pos n with h0 | h0
 ·subst h0
  go_enter Tryz.func252,Tryz.ntmps252
  go_wp2
  go_ret
  have e:rotl x 0=x:=by unfold rotl;rw[Nat.pow_zero,Nat.mul_one,Nat.mod_eq_of_lt hx,Nat.sub_zero,Nat.div_eq_of_lt hx,Nat.or_zero]
  rw[e]
  exact⟨rfl,rfl⟩
 ·have hn0:¬n=0:=by omega
  go_enter Tryz.func252,Tryz.ntmps252
  go_wp2
  go_ret
  refine⟨?_,rfl⟩
  have hb:x/2 ^(64-n)<18446744073709551616:=Nat.lt_of_le_of_lt (Nat.div_le_self _ _) hx
  have h:=u64_or_nat (x*2 ^ n%18446744073709551616) (x/2 ^(64-n)) (Nat.mod_lt _ (by decide)) hb
  have e1:IntKind.u64.wrap ((x:Int)*2 ^ n)=((x*2 ^ n%18446744073709551616:Nat):Int):=by rw[IntKind.wrap_u64];simp
  have e2:(x:Int)/2 ^(64-n)=((x/2 ^(64-n):Nat):Int):=by simp
  unfold rotl
  rw[←h,←e1,←e2]
  rfl
set_option maxHeartbeats 1000000 in
theorem turn_any (k:Nat) (hk:k<25) (w:World):Calls Tryz.prog 253 #[.int .i64 k] w fun e w'=>e= .returned (.int .u64 (nth turnL k:Nat))∧Below w.heap.size w w':=by
 go_enter Tryz.func253,Tryz.ntmps253
 go_wp2
 go_ret
 refine⟨?_,by go_grown⟩
 have hl:k< (lanes turnL).length:=hk
 show Ending.returned ((lanes turnL)[k]'hl)=_
 have:=lanes_at (l:=turnL) (j:=k) hk
 rw[List.getElem?_eq_getElem hl] at this
 rw[Option.some.inj this]
theorem constant_any (k:Nat) (hk:k<24) (w:World):Calls Tryz.prog 215 #[.int .i64 k] w fun e w'=>e= .returned (.int .u64 (nth constL k:Nat))∧Below w.heap.size w w':=by
 go_enter Tryz.func215,Tryz.ntmps215
 go_wp2
 go_ret
 refine⟨?_,by go_grown⟩
 have hl:k< (lanes constL).length:=hk
 show Ending.returned ((lanes constL)[k]'hl)=_
 have:=lanes_at (l:=constL) (j:=k) hk
 rw[List.getElem?_eq_getElem hl] at this
 rw[Option.some.inj this]
end Go.Proofs.YtfaepbjnpakghaaGreatDoor.W
namespace Go.Proofs.YtfaepbjnpakghaaGreatDoor.W
open Go.RowKit
set_option linter.unusedVariables false
def beN (l:List UInt8):Nat:=l.foldl (fun n c=>n*256+c.toNat) 0
def shortL (l:List UInt8):Nat:=beN ((sumL l).take 8)/16
theorem beN_snoc (l:List UInt8) (b:UInt8):beN (l++[b])=beN l*256+b.toNat:=by simp[beN]
theorem beN_fold:∀(l:List UInt8) (n:Nat),l.foldl (fun n c=>n*256+c.toNat) n< (n+1)*256 ^ l.length
 | [],n=>by simp
 | b::l,n=>by
   have h:=beN_fold l (n*256+b.toNat)
   have hb:=b.toNat_lt
   rw[List.foldl_cons,List.length_cons,Nat.pow_succ,Nat.mul_comm (256 ^ l.length) 256,←Nat.mul_assoc]
   exact Nat.lt_of_lt_of_le h (Nat.mul_le_mul_right _ (by omega))
theorem beN_low (l:List UInt8):beN l<256 ^ l.length:=by
 have:=beN_fold l 0
 simpa [beN] using this
theorem bytes_cell (w:World) (s:ByteArray) (cap:Nat) (e:TypeId) (j:Nat) (hj:j<s.size):
 (w.drew.alloc (.cells (bytesRow s cap) e ((bytesRow s cap).size,(bytesRow s cap).size+1))).cell? ⟨w.heap.size,j,none⟩=some (.int .u8 (s[j].toNat:Int)):=by
 have h:=bytesRow_at s cap j hj
 have hb:(w.drew.alloc (.cells (bytesRow s cap) e ((bytesRow s cap).size,(bytesRow s cap).size+1))).heap[w.heap.size]? =some (.cells (bytesRow s cap) e ((bytesRow s cap).size,(bytesRow s cap).size+1)):=by
  show(w.heap.push _)[w.heap.size]? =_
  simp
 simp only[World.cell?,hb]
 exact(by simpa using h:(bytesRow s cap)[j]? =some (.int .u8 (s.data[j].toNat:Int)))
theorem or_byte (n:Nat) (b:UInt8) (h:n*256<18446744073709551616):bits BinOp.or IntKind.u64 ((n:Int)*256) (b.toNat:Int)=((n*256+b.toNat:Nat):Int):=by
 have hb:=b.toNat_lt
 have:=u64_or_nat (n*256) b.toNat h (by omega)
 rw[←Nat.shiftLeft_eq n 8,←Nat.shiftLeft_add_eq_or_of_lt (i:=8) hb n,Nat.shiftLeft_eq] at this
 exact this
end Go.Proofs.YtfaepbjnpakghaaGreatDoor.W
namespace Go.Proofs.YtfaepbjnpakghaaGreatDoor.W
open Go.RowKit
set_option linter.unusedVariables false
def laneU (l:List UInt8) (at_:Nat):Nat→Nat
 | 0=>0
 | m+1=>laneU l at_ m*256+(l.getD (at_+7-m) 0).toNat
theorem laneU_low (l:List UInt8) (k:Nat):∀m,laneU l k m<256 ^ m
 | 0=>Nat.one_pos
 | m+1=>by
   have:=laneU_low l k m
   have hb:=(l.getD (k+7-m) 0).toNat_lt
   rw[laneU,Nat.pow_succ]
   omega
set_option maxHeartbeats 1000000 in
set_option maxRecDepth 100000 in
theorem lane_any (l:List UInt8) (v:Value) (B k:Nat) (w:World) (hO:Own w B 5 v (Lib.byteCells l)) (hk:k+8≤l.length) (hl:l.length≤1000000):
 Calls Tryz.prog 213 #[v, .int .i64 k] w fun e w'=>e= .returned (.int .u64 (laneU l k 8:Nat))∧w=w':=by
 have hbl:=byteCells_len l
 obtain⟨g,cap,rfl⟩:=hO.slice (by omega)
 rw[hbl]
 have hc:Hd (∀j,j<l.length→w.cell? ⟨g,j,none⟩=some (.int .u8 ((l.getD j 0).toNat:Int))):=⟨fun j hj=>by
  rcases hO.is with⟨h,_⟩ | ⟨g',cap',h,_,_,_,_,hcell,_⟩
  ·cases h
  ·have hg:g=g':=by simp at h;exact h.1
   subst hg
   exact hcell j _ (byteCells_at hj)⟩
 clear hO
 go_enter Tryz.func213,Tryz.ntmps213
 go_wp2
 go_loop [5,6] (fun n i=>∃m:Nat,m≤8∧i= .int .i64 (7-(m:Int))∧n= .int .u64 ((laneU l k m:Nat):Int)) (fun _ i=>(intOf i+1).toNat)
 case atStart=>exact⟨0,by omega,rfl,rfl⟩
 case round=>
  obtain⟨m,hm,rfl,rfl⟩:=hrel
  have hlow:=laneU_low l k m
  by_cases hlt:m<8
  ·have hcc:=hc.out (k+7-m) (by omega)
   have hstep:Hd (laneU l k (m+1)=laneU l k m*256+(l.getD (k+7-m) 0).toNat):=⟨rfl⟩
   have hp:256 ^ m≤256 ^ 7:=Nat.pow_le_pow_right (by decide) (by omega)
   have hl7:laneU l k m<72057594037927936:=Nat.lt_of_lt_of_le hlow hp
   obtain⟨n,hn⟩:∃n,laneU l k m=n:=⟨_,rfl⟩
   obtain⟨b,hb⟩:∃b,l.getD (k+7-m) 0=b:=⟨_,rfl⟩
   obtain⟨j,hj⟩:∃j,k+7-m=j:=⟨_,rfl⟩
   obtain⟨i,hi⟩:∃i,7-m=i:=⟨_,rfl⟩
   have ei:7-(m:Int)=(i:Int):=by omega
   have ej:(k:Int)+(i:Int)=(j:Int):=by omega
   have hjl:j<l.length:=by omega
   rw[hn,hb] at hstep
   rw[hb,hj] at hcc
   rw[hn] at hl7
   rw[hn,ei]
   have hor:=or_byte n b (by omega)
   have hbl:=b.toNat_lt
   have hwr:IntKind.u64.wrap (b.toNat:Int)=(b.toNat:Int):=by rw[IntKind.wrap_u64];omega
   have EI:=Hd.mk ei
   clear hlow hp hn hb hj hi ei hc
   go_wp2
   go_round
   case rel=>exact⟨m+1,by omega,by have:=EI.out;congr 1;omega,by rw[hstep.out];simp⟩
   case measure=>simp[intOf]
  ·have hm8:m=8:=by omega
   rw[hm8]
   have hi:7-((8:Nat):Int)= -1:=by omega
   rw[hi]
   clear hm8 hi hlow
   go_wp2
   go_ret
   exact⟨rfl,rfl⟩
end Go.Proofs.YtfaepbjnpakghaaGreatDoor.W
namespace Go.Proofs.YtfaepbjnpakghaaGreatDoor.W
set_option linter.unusedVariables false
def colP (a:List Nat) (x:Nat):Nat:=nth a x ^^^ nth a (x+5)^^^ nth a (x+10)^^^ nth a (x+15)^^^ nth a (x+20)
def colsP (a:List Nat) (k:Nat):List Nat:=(List.range k).map (colP a)
def bI (m:Nat):Nat:=m%5+5*((2*(m/5)+3*(m%5))%5)
def bV (a:List Nat) (m:Nat):Nat:=rotl (nth a (m/5+5*(m%5))^^^ nth (colsP a 5) ((m/5+4)%5)^^^ rotl (nth (colsP a 5) ((m/5+1)%5)) 1) (nth turnL (m/5+5*(m%5)))
def bW (a:List Nat):Nat→List Nat
 | 0=>zeros
 | m+1=>(bW a m).set (bI m) (bV a m)
theorem colsP_low {a:List Nat} (h:Low a) (k:Nat):Low (colsP a k):=by
 intro j
 unfold nth colsP
 rw[List.getD_eq_getElem?_getD,List.getElem?_map]
 rcases(List.range k)[j]? with _ | y
 ·show 0<_
  omega
 ·exact xor_low (xor_low (xor_low (xor_low (h _) (h _)) (h _)) (h _)) (h _)
theorem turn_low (i:Nat):nth turnL i<64:=by
 unfold nth
 rw[List.getD_eq_getElem?_getD]
 rcases h:turnL[i]? with _ | x
 ·decide
 ·have:∀y∈turnL,y<64:=by decide
  exact this x (List.mem_of_getElem? h)
theorem bV_low {a:List Nat} (h:Low a) (m:Nat):bV a m<18446744073709551616:=
 rotl_low (xor_low (xor_low (h _) (colsP_low h 5 _)) (rotl_low (colsP_low h 5 _) _)) _
theorem bW_low {a:List Nat} (h:Low a):∀m,Low (bW a m)∧(bW a m).length=25
 | 0=>zeros_low
 | m+1=>⟨(bW_low h m).1.set (bV_low h m) _,by simp[bW,(bW_low h m).2]⟩
def cS (b:List Nat) (m:Nat):List Nat:=(List.range m).map (cVal b)
theorem cS_len (b:List Nat) (m:Nat):(cS b m).length=m:=by simp[cS]
theorem cS_succ (b:List Nat) (m:Nat):cS b m++[cVal b m]=cS b (m+1):=by simp[cS,List.range_succ]
def sets (f:Nat→Nat) (v:Nat→Nat):Nat→List Nat
 | 0=>zeros
 | m+1=>(sets f v m).set (f m) (v m)
def sig (m:Nat):Nat:=m/5+5*(m%5)
theorem bfold_sets (a p:List Nat):∀k,bfold a p k=sets bIdx (bVal a p) k
 | 0=>rfl
 | k+1=>by rw[bfold,sets,bfold_sets a p k]
theorem bW_sets (a:List Nat):∀m,m≤25→bW a m=sets (fun m=>bIdx (sig m)) (fun m=>bVal a (colsP a 5) (sig m)) m
 | 0,_=>rfl
 | m+1,h=>by
   rw[bW,sets,bW_sets a m (by omega)]
   have e1:sig m%5=m/5:=by unfold sig;omega
   have e2:sig m/5=m%5:=by unfold sig;omega
   have h1:bI m=bIdx (sig m):=by unfold bI bIdx;rw[e1,e2]
   have h2:bV a m=bVal a (colsP a 5) (sig m):=by unfold bV bVal;rw[e1,Nat.xor_assoc];rfl
   rw[h1,h2]
theorem sets_perm (v:Nat→Nat):sets (fun m=>bIdx (sig m)) (fun m=>v (sig m)) 25=sets bIdx v 25:=by
 simp[sets,sig,bIdx,zeros,List.replicate]
theorem pfold_nth (a:List Nat) (k x:Nat):nth (pfold a (k+1)) x=if k%5=x then nth (pfold a k) x ^^^ nth a k else nth (pfold a k) x:=by
 have hl:(pfold a k).length=5:=by
  induction k with
  | zero=>rfl
  | succ k ih=>simp[pfold,ih]
 rw[pfold]
 unfold nth
 simp only[List.getD_eq_getElem?_getD,List.getElem?_set]
 by_cases h:k%5=x
 ·have:k%5<5:=Nat.mod_lt _ (by decide)
  rw[if_pos h,if_pos (by omega),if_pos h,h];rfl
 ·rw[if_neg h,if_neg h]
theorem pfold_cols (a:List Nat):pfold a 25=colsP a 5:=by
 have hl:∀k,(pfold a k).length=5:=fun k=>by
  induction k with
  | zero=>rfl
  | succ k ih=>simp[pfold,ih]
 have h0:∀x,nth (pfold a 0) x=0:=fun x=>by
  show nth (List.replicate 5 0) x=0
  unfold nth
  rw[List.getD_eq_getElem?_getD,List.getElem?_replicate]
  split<;>rfl
 have k0:nth (pfold a 25) 0=colP a 0:=by simp[pfold_nth,h0,colP]
 have k1:nth (pfold a 25) 1=colP a 1:=by simp[pfold_nth,h0,colP]
 have k2:nth (pfold a 25) 2=colP a 2:=by simp[pfold_nth,h0,colP]
 have k3:nth (pfold a 25) 3=colP a 3:=by simp[pfold_nth,h0,colP]
 have k4:nth (pfold a 25) 4=colP a 4:=by simp[pfold_nth,h0,colP]
 have h25:=hl 25
 obtain⟨q,hq⟩:∃q,pfold a 25=q:=⟨_,rfl⟩
 rw[hq] at k0 k1 k2 k3 k4 h25⊢
 match q,h25 with
 | [q0,q1,q2,q3,q4],_=>
   rw[show colsP a 5=[colP a 0,colP a 1,colP a 2,colP a 3,colP a 4] from rfl,←k0,←k1,←k2,←k3,←k4]
   rfl
theorem cfold_cS (a b:List Nat):∀k,k≤a.length→cfold a b k=cS b k++a.drop k
 | 0,_=>by simp[cfold,cS]
 | k+1,h=>by
   rw[cfold,cfold_cS a b k (by omega),←cS_succ]
   have hd:a.drop k=a[k]::a.drop (k+1):=List.drop_eq_getElem_cons (by omega)
   rw[hd,List.set_append_right _ _ (by rw[cS_len];exact Nat.le_refl _),cS_len,Nat.sub_self]
   simp only[List.set_cons_zero,List.append_assoc,List.cons_append,List.nil_append]
theorem round_ref {a:List Nat} (hl:a.length=25) (c:Nat):(cS (bW a 25) 25).set 0 (nth (cS (bW a 25) 25) 0 ^^^ c)=roundS a c:=by
 have hb:bW a 25=bfold a (pfold a 25) 25:=by rw[bW_sets a 25 (Nat.le_refl _),bfold_sets,pfold_cols,sets_perm]
 have hc:cfold a (bfold a (pfold a 25) 25) 25=cS (bW a 25) 25:=by
  rw[cfold_cS _ _ _ (by omega),←hb,List.drop_eq_nil_of_le (by omega),List.append_nil]
 unfold roundS
 rw[hc]
end Go.Proofs.YtfaepbjnpakghaaGreatDoor.W
namespace Go.Proofs.YtfaepbjnpakghaaGreatDoor.W
open Go.RowKit Go.Sort
set_option linter.unusedVariables false
theorem regrown_keeps (w:World) (d:Nat) (os:Array Obj):Keeps (fun _=>False) w (grow (redrawn w d) os):=
 Keeps.of_below (below_regrown w d os) (fun k h1 h2=>by omega)
theorem keeps_below {w w':World} (k:Keeps (fun _=>False) w w'):Below w.heap.size w w':=k.below (Nat.le_refl _) (fun _ _ h=>h)
theorem below_keeps {w w':World} (k:Below w.heap.size w w'):Keeps (fun _=>False) w w':=Keeps.of_below k (fun k h1 h2=>by omega)
theorem below_next {a b c:World} (h:Below a.heap.size a b) (k:Below b.heap.size b c):Below a.heap.size a c:=h.trans (k.mono h.size)
end Go.Proofs.YtfaepbjnpakghaaGreatDoor.W
namespace Go.Proofs.YtfaepbjnpakghaaGreatDoor.W
open Go.RowKit
set_option linter.unusedVariables false
theorem sizeB1:(Tryz.prog.info? 152).map (·.size)=some 2:=by kernel_rfl
theorem infoB1:(Tryz.prog.info? 5).map (fun i=>(i.zero,i.size,i.bytes))=some (some (.int .u8 0),1,1):=by kernel_rfl
set_option maxHeartbeats 1000000 in
set_option maxRecDepth 100000 in
theorem bcheck_used (b:Nat) (w:World) (h0:w.cell? ⟨b,0,none⟩=some (.pointer (some ⟨b,0,none⟩))):
 Calls Tryz.prog 218 #[.pointer (some ⟨b,0,none⟩)] w fun e w'=>e= .returned (.tuple #[])∧w'=w:=by
 obtain⟨j,hj,_⟩:=Option.map_eq_some_iff.1 sizeB1
 go_enter Tryz.func218,Tryz.ntmps218
 go_wp2
 rw[Lib.run_neq_ptr_same w _ Tryz.underlying150 hj]
 go_wp2
 go_end0
 exact⟨rfl,rfl⟩
set_option maxHeartbeats 1000000 in
set_option maxRecDepth 100000 in
theorem bcheck_fresh (b:Nat) (w:World) (h0:w.cell? ⟨b,0,none⟩=some (.pointer none)) (hsh:w.shape? b=some (152,2)) (hfz:w.frozen? ⟨b,0,none⟩=false):
 Calls Tryz.prog 218 #[.pointer (some ⟨b,0,none⟩)] w fun e w'=>e= .returned (.tuple #[])∧w'=w.setCell ⟨b,0,none⟩ (.pointer (some ⟨b,0,none⟩)):=by
 obtain⟨j,hj,hjs⟩:=Option.map_eq_some_iff.1 sizeB1
 go_enter Tryz.func218,Tryz.ntmps218
 go_wp2
 rw[Lib.run_to_unsafe w ⟨b,0,none⟩ Tryz.underlying150 Tryz.underlying242 hj (by rw[hjs];decide) hsh (Nat.zero_lt_succ 1)]
 simp only[Result.andThen]
 rw[Oper.upon_value]
 go_wp2
 rw[run_callFunc_extern Tryz.func255 (by kernel_rfl) (by kernel_rfl) (by kernel_rfl) (e:=Extern.AbiNoEscape.same) (by kernel_rfl)]
 rw[Lib.run_noEscape]
 simp only[Result.andThen]
 rw[Oper.upon_value]
 go_wp2
 rw[Lib.run_from_unsafe w ⟨b,0,none⟩ Tryz.underlying242 Tryz.underlying150 hj hsh (by kernel_rfl)]
 simp only[Result.andThen]
 rw[Oper.upon_value]
 go_wp2
 go_end0
 exact⟨rfl,rfl⟩
theorem bcheck_any (B b:Nat) (bs:List Value) (w:World) (h:Lib.IsBuilder 152 5 B b bs w):
 Calls Tryz.prog 218 #[.pointer (some ⟨b,0,none⟩)] w fun e w'=>e= .returned (.tuple #[])∧(Lib.BuilderAt 152 5 B b (.pointer (some ⟨b,0,none⟩)) bs w'∧Below B w w'):=by
 rcases h with h | h
 ·refine(bcheck_fresh b w h.cell0 h.shape h.frozen0).mono ?_
  rintro e w' ⟨rfl,rfl⟩
  exact⟨rfl,h.used _,(Below.refl B w).setCell (p:=⟨b,0,none⟩) h.1 _⟩
 ·refine(bcheck_used b w h.cell0).mono ?_
  rintro e w' ⟨rfl,rfl⟩
  exact⟨rfl,h,Below.refl B _⟩
set_option maxHeartbeats 2000000 in
set_option maxRecDepth 100000 in
theorem bws_any (B b:Nat) (bs:List Value) (s:ByteArray) (w:World) (h:Lib.IsBuilder 152 5 B b bs w) (hlen:bs.length+s.size≤140737488355328) (hBw:B≤w.heap.size):
 Calls Tryz.prog 207 #[.pointer (some ⟨b,0,none⟩), .string s] w fun e w'=>e= .returned (.tuple #[.int .i64 s.size, .nilIface])∧(Lib.IsBuilder 152 5 B b (bs++Lib.strCells s) w'∧Below B w w'):=by
 obtain⟨i0,hi,hz0,hz1,hz2⟩:=info_parts infoB1
 go_enter Tryz.func207,Tryz.ntmps207
 go_wp2_with (go_at_call 218;refine(bcheck_any B b bs _ h).mono ?_)
 rintro e w1 ⟨rfl,h1,hb1⟩
 obtain⟨hB,v,hbk,hown,hne⟩:=h1
 have c0:w1.cell? ⟨b,0,none⟩=some (.pointer (some ⟨b,0,none⟩)):=by rw[Lib.cell_of_heap hbk];rfl
 have c1:w1.cell? ⟨b,1,none⟩=some v:=by rw[Lib.cell_of_heap hbk];rfl
 go_wp2_with (at_builtin;refine Lib.wpList_append_own_string _ rfl _ _ 142 9 rfl B 5 i0 Tryz.underlying142 Tryz.underlying9 hi hz0 hz1 hz2 _ _ _ rfl hown s rfl ?c3 ?c4 ?c5 ?_)
 case c3=>unfold maxLen;omega
 case c4=>omega
 case c5=>have:=hb1.size;omega
 intro v' w2 hown' hgrow _
 have hlt:b<w1.heap.size:=by
  rcases Nat.lt_or_ge b w1.heap.size with h' | h'
  ·exact h'
  ·simp[Array.getElem?_eq_none h'] at hbk
 have hb2:w2.heap[b]? =some (.cells #[.pointer (some ⟨b,0,none⟩),v] 152 (0,0)):=by
  rw[hgrow.block b hlt (fun e=>hne e.symm)]
  exact hbk
 have d0:w2.cell? ⟨b,0,none⟩=some (.pointer (some ⟨b,0,none⟩)):=by rw[Lib.cell_of_heap hb2];rfl
 have d1:w2.cell? ⟨b,1,none⟩=some v:=by rw[Lib.cell_of_heap hb2];rfl
 have f1:w2.frozen? ⟨b,1,none⟩=false:=Lib.frozen_of_heap hb2 1
 obtain⟨ao,n',cap,rfl⟩:∃ao n' cap,v'= .slice ao n' cap:=by
  rcases hown'.2 with⟨hv,_⟩ | ⟨g,cap,cur,hv,_⟩
  ·exact⟨_,_,_,hv⟩
  ·exact⟨_,_,_,hv⟩
 go_wp2
 go_ret2
 refine⟨rfl, .inr ?_,?_⟩
 ·exact Lib.BuilderAt.put (T:=152) (e:=5) hB hb2 (bs':=bs++Lib.strCells s) (by simpa [Lib.strCells_length] using hown') (by decide)
 ·exact(hb1.grown hgrow (by have:=hb1.size;omega) (fun k hk=>(hown.lt k hk).1)).setCell (p:=⟨b,1,none⟩) hB _
theorem keeps_freeze {S:Nat→Prop} {a w:World} (h:Keeps S a w) {p:Addr} (hp:S p.block) (n:Nat):Keeps S a (w.freeze p n):=by
 refine h.trans ?_
 unfold World.freeze
 split
 ·exact Keeps.refl S w
 ·exact⟨rfl,rfl,rfl,by simp,fun k hk hn=>by
   have hne:p.block≠k:=fun e=>hn (e▸hp)
   simp only[Array.getElem?_modify]
   rw[if_neg hne]⟩
set_option maxHeartbeats 2000000 in
set_option maxRecDepth 100000 in
theorem bstr_any (B b:Nat) (l:List UInt8) (w:World) (h:Lib.IsBuilder 152 5 B b (Lib.byteCells l) w):
 Calls Tryz.prog 129 #[.pointer (some ⟨b,0,none⟩)] w fun e w'=>e= .returned (.string ⟨l.toArray⟩)∧∃S:Nat→Prop,Keeps S w w'∧∀g,S g→B≤g∧∃cur fz,w.heap[g]? =some (.cells cur 5 fz):=by
 obtain⟨p,hB,v,hbk,hown,hne⟩:∃p,Lib.BuilderAt 152 5 B b p (Lib.byteCells l) w:=by
  rcases h with h | h
  ·exact⟨_,h⟩
  ·exact⟨_,h⟩
 have none':∀ {w':World},Below w.heap.size w w'→∃S:Nat→Prop,Keeps S w w'∧∀g,S g→B≤g∧∃cur fz,w.heap[g]? =some (.cells cur 5 fz):=fun hb=>
  ⟨fun _=>False,Keeps.of_below hb (fun k h1 h2=>absurd h1 (Nat.not_lt.2 h2)),fun _ h=>h.elim⟩
 cases l with
 | nil=>
   rcases hown.2 with⟨rfl,_⟩ | ⟨g,cap,cur,rfl,hbg,hg,_,_,_,_⟩
   ·exact(Any.Builder_String_nil Tryz.lays169 Tryz.Builder_Extra_169 w.heap.size b p w hbk).mono fun e w' ⟨a,b⟩=>⟨a,none' b⟩
   ·by_cases hc0:cap=0
    ·subst hc0
     exact(Any.Builder_String_noroom Tryz.lays169 Tryz.Builder_Extra_169 w.heap.size b g p cur w (Nat.le_refl _) hbk hg).mono fun e w' ⟨a,b⟩=>⟨a,none' b⟩
    ·exact(Any.Builder_String_room Tryz.lays169 Tryz.Builder_Extra_169 w.heap.size b g cap p w hc0 hbk).mono fun e w' ⟨a,b⟩=>⟨a,none' b⟩
 | cons x r=>
   obtain⟨l,hl⟩:∃l,x::r=l:=⟨_,rfl⟩
   have h0:l≠ []:=by rw[←hl];simp
   rw[hl] at hown
   rw[hl]
   clear hl h
   have hl0:l.length≠0:=by simpa using h0
   rw[Lib.byteCells_length] at hown
   obtain⟨g,cap,cur,rfl,hbg,hg,hnc,hcm,hcs,htake⟩:∃g cap cur,v= .slice (some ⟨g,0,none⟩) l.length cap∧B≤g∧w.heap[g]? =some (.cells cur 5 (0,0))∧l.length≤cap∧cap≤maxLen∧cur.size=cap*1∧cur.toList.take (l.length*1)=Lib.byteCells l:=by
    rcases hown.2 with⟨_,hz⟩ | ⟨g,cap,cur,hv,r⟩
    ·exact absurd hz hl0
    ·exact⟨g,cap,cur,hv,r⟩
   have c1:w.drew.cell? ⟨b,1,none⟩=some (.slice (some ⟨g,0,none⟩) l.length cap):=by
    have:w.drew.heap[b]? =some (.cells #[p, .slice (some ⟨g,0,none⟩) l.length cap] 152 (0,0)):=hbk
    rw[Lib.cell_of_heap this];rfl
   have hSD:(Builtin.unsafeSliceData_ #[142] 229 #[.slice (some ⟨g,0,none⟩) l.length cap]).run Tryz.prog w.drew= .ok (.pointer (some ⟨g,0,none⟩)) w.drew:=
    Lib.run_unsafeSliceData_row _ _ _ _ _ _ (by omega)
   have hUS:(Builtin.unsafeString_ #[229,3] 9 #[.pointer (some ⟨g,0,none⟩), .int .i64 l.length]).run Tryz.prog w.drew= .ok (.string ⟨l.toArray⟩) (w.drew.freeze ⟨g,0,none⟩ l.length):=by
    refine Lib.run_unsafeString_row w.drew 229 3 9 5 Tryz.underlying229 (by kernel_rfl) g cur.size (by have hg':w.drew.heap[g]? =some (.cells cur 5 (0,0)):=hg;simp[World.shape?,hg']) l h0 (by omega) (by unfold maxLen at hcm;omega) ?_
    intro j x hx
    have:=hown.cells (g:=g) rfl j (.int .u8 x.toNat) (by simp[Lib.byteCells,hx])
    exact this
   clear hown hne htake hbk
   have mixed:Tryz.prog.follows .mixedOrders=true:=by kernel_rfl
   go_enter Tryz.func129,Tryz.ntmps129
   go_wp2
   go_region_o
   all_goals (go_wp2;go_ret;exact⟨rfl,(·=g),keeps_freeze (S:=(·=g)) (Keeps.refl _ w).drew rfl _,fun g' e=>by subst e;exact⟨hbg,cur,_,hg⟩⟩)
end Go.Proofs.YtfaepbjnpakghaaGreatDoor.W
namespace Go.Proofs.YtfaepbjnpakghaaGreatDoor.W
open Go.RowKit
set_option linter.unusedVariables false
section
variable {P:Program} {ops:Array Oper} {Q:Exit→Act→World→Prop} {S:World→Prop}
def foldPut (L:List (Nat × Option Tmp)) (s:Nat→Value) (a:Act):Act:=L.foldl (fun a p=>a.put p.2 (s p.1)) a
def upd (s:Nat→Value) (i:Nat) (v:Value):Nat→Value:=fun j=>if j=i then v else s j
def apartB:List (Nat × Option Tmp)→Bool
 | []=>true
 | p::L=>L.all (fun q=>decide (p.1≠q.1)&&(p.2.isNone || decide (p.2≠q.2)))&&apartB L
theorem put_put (a:Act) (d:Option Tmp) (x v:Value):(a.put d x).put d v=a.put d v:=by
 cases d with
 | none=>rfl
 | some d=>simp[Act.put]
theorem foldPut_put (d:Option Tmp) (v:Value) (s:Nat→Value):∀(L:List (Nat × Option Tmp)) (a:Act),(∀q∈L,d=none∨d≠q.2)→foldPut L s (a.put d v)=(foldPut L s a).put d v
 | [],a,_=>rfl
 | q::L,a,h=>by
   have hc:(a.put d v).put q.2 (s q.1)=(a.put q.2 (s q.1)).put d v:=Act.put_comm a v _ (fun t ht hq=>by
    rcases h q (by simp) with h | h
    ·rw[h] at ht;cases ht
    ·exact h (ht.trans hq.symm))
   show foldPut L s ((a.put d v).put q.2 (s q.1))=(foldPut L s (a.put q.2 (s q.1))).put d v
   rw[hc]
   exact foldPut_put d v s L _ (fun q hq=>h q (List.mem_cons_of_mem _ hq))
theorem foldPut_same {s t:Nat→Value}:∀(L:List (Nat × Option Tmp)) (a:Act),(∀q∈L,s q.1=t q.1)→foldPut L s a=foldPut L t a
 | [],a,_=>rfl
 | q::L,a,h=>by
   show foldPut L s (a.put q.2 (s q.1))=foldPut L t (a.put q.2 (t q.1))
   rw[h q (by simp)]
   exact foldPut_same L _ (fun q hq=>h q (List.mem_cons_of_mem _ hq))
theorem foldPut_upd (s:Nat→Value) (v:Value):∀(L:List (Nat × Option Tmp)) (p:Nat × Option Tmp) (a:Act),p∈L→apartB L=true→foldPut L (upd s p.1 v) a=(foldPut L s a).put p.2 v
 | [],p,a,h,_=>by simp at h
 | q::L,p,a,h,hB=>by
   simp only[apartB,Bool.and_eq_true,List.all_eq_true,Bool.or_eq_true,decide_eq_true_eq,Option.isNone_iff_eq_none] at hB
   obtain⟨hq,hL⟩:=hB
   show foldPut L (upd s p.1 v) (a.put q.2 (upd s p.1 v q.1))=(foldPut L s (a.put q.2 (s q.1))).put p.2 v
   rcases List.mem_cons.1 h with rfl | hp
   ·have e1:upd s p.1 v p.1=v:=if_pos rfl
    rw[e1,←foldPut_put p.2 v s L _ (fun q hq'=>(hq q hq').2),put_put]
    exact foldPut_same L _ (fun q hq'=>if_neg (fun e=>(hq q hq').1 e.symm))
   ·have hne:q.1≠p.1:=(hq p hp).1
    have e1:upd s p.1 v q.1=s q.1:=if_neg hne
    rw[e1]
    exact foldPut_upd s v L p _ hp hL
def rest (listed:Array Bool) (L:List (Nat × Option Tmp)):List (Nat × Option Tmp):=L.filter fun p=> !listed.getD p.1 true
structure Each (P:Program) (ops:Array Oper) (Q:Exit→Act→World→Prop) (L:List (Nat × Option Tmp)) (R:Nat→Value→World→Prop) (K:World→World→Prop) (a0:Act) (w0:World):Prop where
 step:∀p∈L,∀o,ops[p.1]? =some o→∀s w,K w0 w→(∀e∈o.after,Region.binds .any e=true→(L.any fun q=>q.1==e.on)=true→R e.on (s e.on) w)→
  ∀K':Act→World→Prop,(∀v w',R p.1 v w'→K w w'→K' ((foldPut L s a0).put p.2 v) w')→if Region.wanted o (yielded ops (foldPut L s a0).tmps)=true then Oper.wp P o (foldPut L s a0) w K' Q else K' ((foldPut L s a0).put o.dst undef) w
 fin:∀s w,K w0 w→(∀p∈L,R p.1 (s p.1) w)→Q .normal (foldPut L s a0) w
structure EachOk (ops:Array Oper) (L:List (Nat × Option Tmp)) (S:World→Prop) (R:Nat→Value→World→Prop) (K:World→World→Prop) (w0:World):Prop where
 apart:apartB L=true
 there:∀p∈L,p.1<ops.size
 low:∀(j:Nat) (o:Oper),ops[j]? =some o→∀e∈o.after,e.on<j
 refl:∀w,K w w
 trans:∀a b c,K a b→K b c→K a c
 keep:∀i v w w',R i v w→K w w'→R i v w'
 s:∀w,K w0 w→S w
theorem wpAnyH_each {L:List (Nat × Option Tmp)} {R:Nat→Value→World→Prop} {K:World→World→Prop} {a0:Act} {w0:World} (ok:EachOk ops L S R K w0) (H:Each P ops Q L R K a0 w0):
 ∀(n:Nat) (listed:Array Bool) (s:Nat→Value) (w:World),listed.size=ops.size→(∀j,listed.getD j true=false→∃d,(j,d)∈L)→(∀p∈L,listed.getD p.1 true=true→R p.1 (s p.1) w)→K w0 w→(rest listed L).length≤n→
  wpAnyH P .any ops Q S n listed (foldPut L s a0) w:=by
 have nope:∀(listed:Array Bool),listed.size=ops.size→(∀j,listed.getD j true=false→∃d,(j,d)∈L)→Region.ready .any ops listed=[]→∀j,listed.getD j true=true:=by
  intro listed hsz hL hr
  have:∀n j,j≤n→listed.getD j true=true:=by
   intro n
   induction n with
   | zero=>
     intro j hj
     rcases hg:listed.getD j true with _ | _
     ·obtain⟨d,hd⟩:=hL j hg
      have hlt:=ok.there _ hd
      have hm:j∈Region.ready .any ops listed:=mem_ready.2 ⟨hg,ops[j],Array.getElem?_eq_getElem hlt,fun e he _=>by
       have:=ok.low j _ (Array.getElem?_eq_getElem hlt) e he
       omega⟩
      rw[hr] at hm;cases hm
     ·rfl
   | succ n ih=>
     intro j hj
     rcases hg:listed.getD j true with _ | _
     ·obtain⟨d,hd⟩:=hL j hg
      have hlt:=ok.there _ hd
      have hm:j∈Region.ready .any ops listed:=mem_ready.2 ⟨hg,ops[j],Array.getElem?_eq_getElem hlt,fun e he _=>by
       have hlo:=ok.low j _ (Array.getElem?_eq_getElem hlt) e he
       have h1:=ih e.on (by omega)
       have h2:e.on<listed.size:=by rw[hsz];have:j<ops.size:=hlt;omega
       simpa [Array.getD,h2] using h1⟩
      rw[hr] at hm;cases hm
     ·rfl
  exact fun j=>this j j (Nat.le_refl _)
 intro n
 induction n with
 | zero=>
   intro listed s w hsz hL hR hK hn
   have hall:∀p∈L,listed.getD p.1 true=true:=by
    intro p hp
    rcases hg:listed.getD p.1 true with _ | _
    ·have:p∈rest listed L:=List.mem_filter.2 ⟨hp,by rw[hg];rfl⟩
     rw[List.length_eq_zero_iff.1 (Nat.le_zero.1 hn)] at this
     cases this
    ·rfl
   refine⟨?_,H.fin s w hK (fun p hp=>hR p hp (hall p hp))⟩
   apply List.eq_nil_iff_forall_not_mem.2
   intro j hj
   obtain⟨hg,_⟩:=mem_ready.1 hj
   obtain⟨d,hd⟩:=hL j hg
   rw[hall _ hd] at hg;cases hg
 | succ n ih=>
   intro listed s w hsz hL hR hK hn
   refine⟨fun hr=>H.fin s w hK (fun p hp=>hR p hp (nope listed hsz hL hr p.1)),fun i hi=> ?_⟩
   obtain⟨hg,o,ho,hdep⟩:=mem_ready.1 hi
   obtain⟨d,hd⟩:=hL i hg
   refine wpOp_step ho (fun K' hK'=>H.step (i,d) hd o ho s w hK (fun e he hb hq=> ?_) K' (fun v w' h1 h2=>hK' _ _ ⟨ok.s w' (ok.trans _ _ _ hK h2),?_⟩))
   ·obtain⟨q,hq1,hq2⟩:=List.any_eq_true.1 hq
    have e1:q.1=e.on:=by simpa using hq2
    have hlo:=ok.low i o ho e he
    have h1:=hdep e he hb
    have h2:listed.getD e.on true=true:=by
     rcases Nat.lt_or_ge e.on listed.size with h' | h'
     ·simpa [Array.getD,h'] using h1
     ·simp[Array.getD,Nat.not_lt.2 h']
    rw[←e1]
    exact hR q hq1 (by rw[e1];exact h2)
   ·rw[←foldPut_upd s v L (i,d) a0 hd ok.apart]
    have hset:∀j,(listed.setIfInBounds i true).getD j true=(if j=i then true else listed.getD j true):=by
     intro j
     simp only[Array.getD_eq_getD_getElem?,Array.getElem?_setIfInBounds]
     by_cases hji:i=j
     ·subst hji
      simp
      split<;>rfl
     ·rw[if_neg hji,if_neg (fun e=>hji e.symm)]
    refine ih _ _ w' (by simpa using hsz) (fun j hj=> ?_) (fun p hp hl=> ?_) (ok.trans _ _ _ hK h2) ?_
    ·rw[hset] at hj
     split at hj
     ·cases hj
     ·exact hL j hj
    ·unfold upd
     split
     ·rename_i e;rw[e];exact h1
     ·rename_i e
      rw[hset,if_neg e] at hl
      exact ok.keep _ _ _ _ (hR p hp hl) h2
    ·have hlt:(rest (listed.setIfInBounds i true) L).length< (rest listed L).length:=by
      have e1:rest (listed.setIfInBounds i true) L=(rest listed L).filter fun p=> !decide (p.1=i):=by
       unfold rest
       rw[List.filter_filter]
       congr 1
       funext p
       rw[hset]
       by_cases h:p.1=i<;>simp[h]
      rw[e1]
      rw[List.length_filter_lt_length_iff_exists]
      exact⟨(i,d),List.mem_filter.2 ⟨hd,by rw[hg];rfl⟩,by simp⟩
     omega
def wpFree (P:Program) (ops:Array Oper) (S:World→Prop) (E:Act→World→Prop):List Oper→Act→World→Prop
 | [],a,w=>E a w
 | o::r,a,w=>∃v,YieldsIf P ops S o v a∧wpFree P ops S E r (a.put o.dst v) w
theorem free_step {E:Act→World→Prop} {o:Oper} {v:Value} {r:List Oper} {a:Act} {w:World} (hw:Region.wanted o (yielded ops a.tmps)=true)
 (hy:∀w',S w'→(execOp a.eval o).run P w'= .ok (.value v) w') (h:wpFree P ops S E r (a.put o.dst v) w):wpFree P ops S E (o::r) a w:=
 ⟨v, .inl ⟨hw,hy⟩,h⟩
def freeB (ops:Array Oper) (L:List (Nat × Option Tmp)):List Nat→Array Bool→Bool
 | [],listed=>((List.range ops.size).all fun j=>listed.getD j true || L.any fun p=>p.1==j)&&L.all fun p=> !listed.getD p.1 true
 | i::r,listed=>(Region.ready .any ops listed).contains i&&Region.free .any ops listed i&&freeB ops L r (listed.setIfInBounds i true)
def lowB (ops:Array Oper) (L:List (Nat × Option Tmp)):Bool:=
 (List.range ops.size).all (fun j=>(ops[j]?).all fun o=>o.after.all fun e=>decide (e.on<j))&&L.all (fun p=>decide (p.1<ops.size))&&apartB L
theorem wpAnyH_of_free {L:List (Nat × Option Tmp)} {l:List Oper} (hsel:Region.noSelect l.toArray=true) (hQ:∀c a w,¬Q (.panic c) a w) {d:Oper} {E:Act→World→Prop} {w:World} (hS:S w) (m:Nat)
 (hE:∀(listed:Array Bool) (a:Act),listed.size=l.length→(∀j,listed.getD j true=false→∃d,(j,d)∈L)→(∀p∈L,listed.getD p.1 true=false)→E a w→wpAnyH P .any l.toArray Q S m listed a w):
 ∀(r:List Nat) (listed:Array Bool) (a:Act),listed.size=l.length→(r.all fun i=>decide (i<l.length))=true→freeB l.toArray L r listed=true→wpFree P l.toArray S E (r.map fun i=>l.getD i d) a w→wpAnyH P .any l.toArray Q S (r.length+m) listed a w
 | [],listed,a,hsz,_,hB,h=>by
   rw[show([]:List Nat).length+m=m from Nat.zero_add _]
   simp only[freeB,Bool.and_eq_true,List.all_eq_true,List.mem_range,Bool.or_eq_true,List.any_eq_true,Bool.not_eq_true'] at hB
   refine hE listed a hsz (fun j hj=> ?_) hB.2 h
   have hlt:j<l.toArray.size:=by
    rcases Nat.lt_or_ge j l.length with h' | h'
    ·simpa using h'
    ·have:¬j<listed.size:=by omega
     simp[Array.getD,this] at hj
   rcases hB.1 j hlt with h' | ⟨p,hp,hpj⟩
   ·rw[hj] at h';cases h'
   ·have:p.1=j:=by simpa using hpj
    exact⟨p.2,by rw[←this];exact hp⟩
 | i::r,listed,a,hsz,hlt,hB,h=>by
   simp only[freeB,Bool.and_eq_true] at hB
   obtain⟨⟨hr,hf⟩,hB'⟩:=hB
   obtain⟨v,hy,h'⟩:=h
   simp only[List.all_cons,Bool.and_eq_true,decide_eq_true_eq] at hlt
   have e:l.getD i d=l[i]'hlt.1:=by simp[List.getD_eq_getElem?_getD,hlt.1]
   dsimp only at hy h'
   rw[e] at hy h'
   rw[show(i::r).length+m=(r.length+m)+1 by simp;omega]
   exact wpAnyH_take (oi:=l[i]'hlt.1) (by simp[hlt.1]) hsel hf hr (fun c a w hq=>absurd hq (hQ c _ w)) hy hS (wpAnyH_of_free hsel hQ hS m hE r _ _ (by simpa using hsz) hlt.2 hB' h')
def StepAt (P:Program) (ops:Array Oper) (Q:Exit→Act→World→Prop) (L:List (Nat × Option Tmp)) (R:Nat→Value→World→Prop) (K:World→World→Prop) (a0:Act) (w0:World) (p:Nat × Option Tmp) (o:Oper):Prop:=
 ∀s w,K w0 w→(∀j,(o.after.any fun e=>e.on==j&&Region.binds .any e)=true→(L.any fun q=>q.1==j)=true→R j (s j) w)→
  ∀K':Act→World→Prop,Hd (∀v w',R p.1 v w'→K w w'→K' ((foldPut L s a0).put p.2 v) w')→if Region.wanted o (yielded ops (foldPut L s a0).tmps)=true then Oper.wp P o (foldPut L s a0) w K' Q else K' ((foldPut L s a0).put o.dst undef) w
def StepsAt (P:Program) (l:List Oper) (Q:Exit→Act→World→Prop) (L:List (Nat × Option Tmp)) (R:Nat→Value→World→Prop) (K:World→World→Prop) (a0:Act) (w0:World) (d:Oper):List (Nat × Option Tmp)→Prop
 | []=>True
 | p::r=>StepAt P l.toArray Q L R K a0 w0 p (l.getD p.1 d)∧StepsAt P l Q L R K a0 w0 d r
theorem steps_mem {l:List Oper} {L:List (Nat × Option Tmp)} {R:Nat→Value→World→Prop} {K:World→World→Prop} {a0:Act} {w0:World} {d:Oper}:∀(r:List (Nat × Option Tmp)),StepsAt P l Q L R K a0 w0 d r→∀p∈r,StepAt P l.toArray Q L R K a0 w0 p (l.getD p.1 d)
 | q::r,h,p,hp=>by
   rcases List.mem_cons.1 hp with rfl | hp
   ·exact h.1
   ·exact steps_mem r h.2 p hp
theorem wp_region_each {id:Nat} {a:Act} {w:World} {l:List Oper} (d:Oper) (S:World→Prop) (R:Nat→Value→World→Prop) (K:World→World→Prop) (r:List Nat) (L:List (Nat × Option Tmp)) (s0:Nat→Value)
 (hm:P.follows .mixedOrders=true) (hsel:Region.noSelect l.toArray=true) (hn:r.length+L.length=l.length) (hlt:(r.all fun i=>decide (i<l.length))=true)
 (hB:freeB l.toArray L r (Array.replicate l.toArray.size false)=true) (hlow:lowB l.toArray L=true)
 (refl:∀w,K w w) (trans:∀a b c,K a b→K b c→K a c) (keep:∀i v w w',R i v w→K w w'→R i v w') (hS:∀w',K w.drew w'→S w')
 (h:wpFree P l.toArray S (fun a w=>foldPut L s0 a=a∧StepsAt P l (NoPanic Q) L R K a w d L∧(∀s w',K w w'→(∀p∈L,R p.1 (s p.1) w')→NoPanic Q .normal (foldPut L s a) w')) (r.map fun i=>l.getD i d) a w.drew):(Code.region id l.toArray true).wp P Q a w:=by
 simp only[lowB,Bool.and_eq_true,List.all_eq_true,decide_eq_true_eq,List.mem_range] at hlow
 have hok:EachOk l.toArray L S R K w.drew:=⟨hlow.2,hlow.1.2,fun j o ho e he=>by
  have hj:j<l.toArray.size:=by
   rcases Nat.lt_or_ge j l.toArray.size with h' | h'
   ·exact h'
   ·rw[Array.getElem?_eq_none h'] at ho;cases ho
  have:=hlow.1.1 j hj
  rw[ho] at this
  simp only[Option.all_some,Array.all_eq_true_iff_forall_mem,decide_eq_true_eq] at this
  exact this e he,refl,trans,keep,hS⟩
 refine wp_region_noPanic (wp_region_held_drew (S:=S) hm (hS _ (refl _)) (fun _=> ?_))
 have:=wpAnyH_of_free (P:=P) (Q:=NoPanic Q) (S:=S) (L:=L) (l:=l) hsel (fun c a w h=>h) (d:=d) (w:=w.drew) (hS _ (refl _)) L.length (E:=fun a w=>foldPut L s0 a=a∧StepsAt P l (NoPanic Q) L R K a w d L∧(∀s w',K w w'→(∀p∈L,R p.1 (s p.1) w')→NoPanic Q .normal (foldPut L s a) w'))
  (fun listed a hsz hL hU hE=>by
   have hEach:Each P l.toArray (NoPanic Q) L R K a w.drew:=⟨fun p hp o ho s w hK hdep K' hK'=>by
    have hlt:=hok.there p hp
    have e:l.getD p.1 d=o:=by
     have h2:l[p.1]? =some o:=by simpa using ho
     rw[List.getD_eq_getElem?_getD,h2];rfl
    have hst:=steps_mem L hE.2.1 p hp s w hK (fun j hj hq=>by
     rw[e] at hj
     rw[←Array.any_toList,List.any_eq_true] at hj
     obtain⟨x,hx,hx2⟩:=hj
     have hx:=Array.mem_toList_iff.1 hx
     simp only[Bool.and_eq_true,beq_iff_eq] at hx2
     rw[←hx2.1] at hq⊢
     exact hdep x hx hx2.2 hq) K' ⟨hK'⟩
    rw[e] at hst
    exact hst,hE.2.2⟩
   have:=wpAnyH_each hok hEach L.length listed s0 w.drew (by simpa using hsz) hL (fun p hp hl=>by rw[hU p hp] at hl;cases hl) (refl _) (List.length_filter_le _ _)
   rwa [hE.1] at this) r _ a (by simp) hlt hB h
 rw[hn] at this
 simpa using this
end
end Go.Proofs.YtfaepbjnpakghaaGreatDoor.W
namespace Go.Proofs.YtfaepbjnpakghaaGreatDoor.W
open Go.RowKit Go.Maps Go.WideMaps
set_option linter.unusedVariables false
def heldR (v:Value):Option (DataW Value × List MemPlace):=some (.held v,[])
structure SetAt (w:World) (T:TypeId) (b:Nat) (ls:List Lit):Prop where
 is:∃D:DataW Value,w.ownsMap Tryz.prog T heldR b ls.length D∧IsMap D∧(∀l,has D l=true↔l∈ls)∧∀l z,l∈ls→D.atKey l z= .held (.bool true)
theorem SetAt.made (w:World) (T:TypeId):SetAt (w.alloc (.map #[] 0)) T w.heap.size []:=
 ⟨.map [],World.ownsMap_made _ _ _ _,isMap_empty,fun s=>⟨fun h=>(by cases h),fun h=>(by cases h)⟩,fun l z h=>by cases h⟩
theorem SetAt.lt {w:World} {T:TypeId} {b:Nat} {ls:List Lit} (h:SetAt w T b ls):b<w.heap.size:=by
 obtain⟨D,h,_⟩:=h.is;exact h.lt
theorem SetAt.keeps {S:Nat→Prop} {w w':World} {T:TypeId} {b:Nat} {ls:List Lit} (h:SetAt w T b ls) (k:Keeps S w w') (hs:¬S b):SetAt w' T b ls:=by
 have hlt:=h.lt
 obtain⟨D,⟨es,clock,hb,F,hn,hD⟩,h2,h3⟩:=h.is
 exact⟨D,⟨es,clock,(k.block b hlt hs).trans hb,F,hn,hD⟩,h2,h3⟩
theorem SetAt.below {w w':World} {T:TypeId} {b:Nat} {ls:List Lit} (h:SetAt w T b ls) (k:Below w.heap.size w w'):SetAt w' T b ls:=by
 have hlt:=h.lt
 obtain⟨D,⟨es,clock,hb,F,hn,hD⟩,h2,h3⟩:=h.is
 exact⟨D,⟨es,clock,(k.block b hlt).trans hb,F,hn,hD⟩,h2,h3⟩
set_option maxRecDepth 100000 in
theorem SetAt.look_in {w:World} {T:TypeId} {b:Nat} {ls:List Lit} (h:SetAt w T b ls) (K:Keyed Tryz.prog T) {t e:TypeId} (ht:Tryz.prog.underlying t=some (.map T e)) (hz:(zeroValue e).run Tryz.prog w= .ok (.bool false) w) {v:Value} {l:Lit} (hk:keyOf Tryz.prog T v=some l) (hl:l∈ls):
 (Instr.lookup t (.map (some b)) v false).run Tryz.prog w= .ok (.bool true) w:=by
 obtain⟨D,hown,_,hh,ha⟩:=h.is
 obtain⟨v',ps,hrun,hv⟩:=hown.lookup K ht hz (zd:= .held (.bool false)) (zp:=[]) rfl hk
 rw[hrun]
 rw[ha l _ hl] at hv
 injection hv with hv;injection hv with hv _;injection hv with hv
 rw[hv]
set_option maxRecDepth 100000 in
theorem SetAt.look_out {w:World} {T:TypeId} {b:Nat} {ls:List Lit} (h:SetAt w T b ls) (K:Keyed Tryz.prog T) {t e:TypeId} (ht:Tryz.prog.underlying t=some (.map T e)) (hz:(zeroValue e).run Tryz.prog w= .ok (.bool false) w) {v:Value} {l:Lit} (hk:keyOf Tryz.prog T v=some l) (hl:¬l∈ls):
 (Instr.lookup t (.map (some b)) v false).run Tryz.prog w= .ok (.bool false) w:=by
 obtain⟨D,hown,_,hh,ha⟩:=h.is
 obtain⟨v',ps,hrun,hv⟩:=hown.lookup K ht hz (zd:= .held (.bool false)) (zp:=[]) rfl hk
 rw[hrun]
 have h0:has D l=false:=by
  rcases hd:has D l with _ | _
  ·rfl
  ·exact absurd ((hh l).1 hd) hl
 rw[atKey_of_not_has h0] at hv
 injection hv with hv;injection hv with hv _;injection hv with hv
 rw[hv]
set_option maxRecDepth 100000 in
theorem SetAt.store {w:World} {T:TypeId} {b:Nat} {ls:List Lit} (h:SetAt w T b ls) (K:Keyed Tryz.prog T) {t e:TypeId} (ht:Tryz.prog.underlying t=some (.map T e)) (hn:ls.length<maxLen) {v:Value} {l:Lit} (hk:keyOf Tryz.prog T v=some l):
 ∃w',(Instr.mapUpdate t (.map (some b)) v (.bool true)).run Tryz.prog w= .ok () w'∧SetAt w' T b (ls++[l])∧Keeps (·=b) w w':=by
 obtain⟨D,hown,hm,hh,ha⟩:=h.is
 obtain⟨w',hrun,hown',hg⟩:=hown.update K ht hn (val:= .bool true) (d:= .held (.bool true)) (ps:=[]) hk rfl
 refine⟨w',hrun,⟨D.put l (.held (.bool true)),by rw[List.length_append];exact hown',hm.put _ _,fun s=> ?_,fun s z hy=> ?_⟩,⟨hg.os,hg.tape,hg.output,hg.size,fun k hk hn=>hg.block k hk (fun e=>hn (Option.some.inj e))⟩⟩
 ·by_cases e:s=l
  ·subst e
   rw[has_put_same hm (K.key hk)]
   simp
  ·rw[has_put_other (fun h=>e h),hh]
   simp[e]
 ·by_cases e:s=l
  ·subst e
   exact atKey_put_same hm (K.key hk) _ _
  ·rw[atKey_put_other (fun h=>e h)]
   exact ha s z (by simpa [e] using hy)
end Go.Proofs.YtfaepbjnpakghaaGreatDoor.W
