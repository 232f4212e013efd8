import Derived.Test.YtfaepbjnpakghaaGreatDoorKForm3
import Derived.Test.YtfaepbjnpakghaaGreatDoorKRo
import Derived.Test.YtfaepbjnpakghaaGreatDoorKRy
import Derived.Test.YtfaepbjnpakghaaGreatDoorKaf
import Derived.Test.YtfaepbjnpakghaaGreatDoorKad
/- The walk of the law's small examples (first printed by tools/gen_smo.py; edited). -/
namespace Go.Proofs.YtfaepbjnpakghaaGreatDoor.W
open Go.RowKit
set_option linter.unusedVariables false
set_option linter.unusedSimpArgs false
structure Ex1 (W:World) (A a:Nat) (al at_:Int):Prop where
 box:CellsAt A (exArr a).toList W
 ex:ExAt W a al at_
theorem Ex1.below {W W':World} {A a:Nat} {al at_:Int} (h:Ex1 W A a al at_) (k:Below W.heap.size W W'):Ex1 W' A a al at_:=⟨h.box.below k,h.ex.below k h.ex.rels.lt⟩
theorem CellsAt.set2 {b:Nat} {cs:List Value} {w:World} (h:CellsAt b cs w) {a:Addr} (hne:a.block≠b) (v:Value):CellsAt b cs (w.setCell a v):=
 ⟨by simpa using h.1,fun j u hu=>by
  have:=h.2 j u hu
  rw[←this]
  simp[World.cell?,World.setCell,Array.getElem?_modify,hne]⟩
theorem Ex1.set {W:World} {A a:Nat} {al at_:Int} (h:Ex1 W A a al at_) {p:Addr} (h0:p.block≠A) (h1:p.block≠a) (h2:p.block≠a+1) (h3:p.block≠a+2) (v:Value):Ex1 (W.setCell p v) A a al at_:=
 ⟨h.box.set2 h0 v,⟨h.ex.secs.other h1 v,h.ex.syms.other h2 v,h.ex.rels.other h3 v⟩⟩
theorem Ex1.setRel {W:World} {A a:Nat} {al:Int} (h:Ex1 W A a al 0) (h0:a+2≠A):Ex1 (W.setCell ⟨a+2,1,none⟩ (.int .i64 4)) A a al 4:=
 ⟨h.box.set2 h0 _,⟨h.ex.secs.other (by simp) _,h.ex.syms.other (by simp) _,h.ex.rels.set 1 (.int .i64 4)⟩⟩
theorem Ex1.setSec {W:World} {A a:Nat} {at_:Int} (h:Ex1 W A a 8 at_) (h0:a≠A):Ex1 (W.setCell ⟨a,2,none⟩ (.int .i64 4)) A a 4 at_:=
 ⟨h.box.set2 h0 _,⟨h.ex.secs.set 2 (.int .i64 4),h.ex.syms.other (by simp) _,h.ex.rels.other (by simp) _⟩⟩
def obN (nm:ByteArray):Ob:=⟨nm,[],[],[],[],[],[],[],[],[],[]⟩
theorem obN_at (w:World) (nm:ByteArray):(obN nm).At w (.slice none 0 0) (.slice none 0 0) (.slice none 0 0) (.slice none 0 0) (.slice none 0 0) (.slice none 0 0) (.slice none 0 0) (.slice none 0 0) (.slice none 0 0) (.slice none 0 0):=
 ⟨Rw.nil w,Rw.nil w,Rw.nil w,Rw.nil w,Rw.nil w,Rw.nil w,Rw.nil w,Rw.nil w,Rw.nil w,Rw.nil w⟩
theorem obN_ok (nm:ByteArray) (h:nm.size≤100):(obN nm).Ok:=by
 have n0:lenR 0:=by unfold lenR;omega
 exact⟨by unfold lenR;show nm.size≤_;omega,n0,(fun x hx=>by cases hx),n0,(fun x hx=>by cases hx),n0,(fun x hx=>by cases hx),n0,(fun x hx=>by cases hx),n0,(fun x hx=>by cases hx),n0,(fun x hx=>by cases hx),n0,(fun x hx=>by cases hx),n0,(fun x hx=>by cases hx),n0,(fun x hx=>by cases hx),n0,(fun x hx=>by cases hx)⟩
theorem exOb_bytes (al at_:Int):∀s∈(exOb al at_).secs,s.bytes.size≤800000:=by
 intro s hs
 have hs:s=exSec al:=by simpa [exOb] using hs
 subst hs
 exact(by decide:(8:Nat)≤800000)
theorem exOb_sz (al at_:Int):(exOb al at_).Sz:=
 ⟨(by show(1:Nat)≤10000;decide),(by show(1:Nat)≤10000;decide),(by show(1:Nat)≤10000;decide),(by show(0:Nat)≤10000;decide),(by show(0:Nat)≤10000;decide),(by show(0:Nat)≤10000;decide),(by show(0:Nat)≤10000;decide),(by show(0:Nat)≤10000;decide),(by show(0:Nat)≤10000;decide),(by show(0:Nat)≤10000;decide),exOb_bytes al at_,(by show(0:Nat)≤1000000;decide),(fun c hc=>by cases hc)⟩
theorem exOb_right:rightO (exOb 8 0)=true∧rightO (exOb 8 4)=false∧rightO (exOb 4 0)=false∧rightO (obN ⟨#[97]⟩)=true∧rightO (obN ⟨#[]⟩)=false:=by decide+kernel
theorem exOb_find:findI (exOb 8 0) ⟨#[112]⟩ ⟨#[]⟩=0:=by decide+kernel
theorem exOb_key:(⟨(keyO (exOb 8 0) 0).toArray⟩:ByteArray)=⟨#[1,97,1,120]⟩:=by decide+kernel
theorem exOb_len:(bytesO (exOb 8 0)).length≤100:=by decide+kernel
theorem exOb_okc:(exOb 8 0).okc:=right_okc (rightO_iff.1 exOb_right.1) (exOb_ok (by unfold I64;omega) (by unfold I64;omega))
theorem exOb_read:readL (bytesO (exOb 8 0))=some (exOb 8 0):=by
 have:bytesO (exOb 8 0)=Ob.wr (exOb 8 0):=by unfold bytesO;rw[exOb_right.1];rfl
 rw[this]
 exact read_wr _ exOb_right.1 exOb_okc
theorem exOb_form:(formL (exOb 8 0) 0).length=32:=by
 have h:secAt (exOb 8 0) 0=some (exSec 8):=rfl
 have h2:secOk (exSec 8)=true:=by decide+kernel
 unfold formL
 rw[h]
 dsimp only
 rw[if_pos h2,sumL_len]
theorem XV.of {w:World} {x1 x2 x3 x4 x5 x6 x7 x8 x9 x10:Value} (h:(exOb 8 0).At w x1 x2 x3 x4 x5 x6 x7 x8 x9 x10):∃X:XV,(#[.string ⟨#[97]⟩,x1,x2,x3,x4,x5,x6,x7,x8,x9,x10]:Array Value)=X.arr∧X.In w:=by
 obtain⟨p1,c1,e1⟩:=h.secs.slice
 obtain⟨p2,c2,e2⟩:=h.syms.slice
 obtain⟨p3,c3,e3⟩:=h.rels.slice
 obtain⟨p4,c4,e4⟩:=h.groups.slice
 obtain⟨p5,c5,e5⟩:=h.inits.slice
 obtain⟨p6,c6,e6⟩:=h.lines.slice
 obtain⟨p7,c7,e7⟩:=h.inlines.slice
 obtain⟨p8,c8,e8⟩:=h.vars.slice
 obtain⟨p9,c9,e9⟩:=h.depths.slice
 obtain⟨p10,c10,e10⟩:=h.converts.slice
 obtain⟨g1,o1,k1,q1,l1,_,d1,z1⟩:=h.secs.at e1 (j:=0) (by decide)
 obtain⟨g2,o2,k2,q2,l2,_,d2,z2⟩:=h.syms.at e2 (j:=0) (by decide)
 obtain⟨g3,o3,k3,q3,l3,_,d3,z3⟩:=h.rels.at e3 (j:=0) (by decide)
 have d1':k1=(exSec 8).cells:=d1
 have d2':k2=exSym.cells:=d2
 have d3':k3=(exRel 0).cells:=d3
 subst q1 q2 q3 d1' d2' d3'
 refine⟨⟨g1,o1,c1,g2,o2,c2,g3,o3,c3,p4,c4,p5,c5,p6,c6,p7,c7,p8,c8,p9,c9,p10,c10⟩,by rw[e1,e2,e3,e4,e5,e6,e7,e8,e9,e10];rfl,?_,?_,?_⟩
 ·intro w' hb
  have f:=fun i u hu=>(hb.cell (p:=⟨g1,_,none⟩) l1).trans (z1 i u hu)
  exact⟨f 0 _ rfl,f 1 _ rfl,f 2 _ rfl,f 3 _ rfl,f 4 _ rfl,f 5 _ rfl⟩
 ·intro w' hb
  have f:=fun i u hu=>(hb.cell (p:=⟨g2,_,none⟩) l2).trans (z2 i u hu)
  exact⟨f 0 _ rfl,f 1 _ rfl,f 2 _ rfl,f 3 _ rfl,f 4 _ rfl,f 5 _ rfl,f 6 _ rfl,f 7 _ rfl,f 8 _ rfl,f 9 _ rfl⟩
 ·intro w' hb
  have f:=fun i u hu=>(hb.cell (p:=⟨g3,_,none⟩) l3).trans (z3 i u hu)
  exact⟨f 0 _ rfl,f 1 _ rfl,f 2 _ rfl,f 3 _ rfl,f 4 _ rfl⟩
structure ExF (W:World) (a b c:Nat):Prop where
 bytes:∀v,Below W.heap.size W v→Calls Tryz.prog 17 #[.agg (exArr a)] v fun e w'=>e= .returned (.string ⟨(bytesO (exOb 8 0)).toArray⟩)∧Below v.heap.size v w'
 read:∀v,Below W.heap.size W v→Calls Tryz.prog 10 #[.string ⟨(bytesO (exOb 8 0)).toArray⟩] v fun e w'=>∃(x1 x2 x3 x4 x5 x6 x7 x8 x9 x10:Value),e= .returned (.tuple #[.agg #[.string ⟨#[97]⟩,x1,x2,x3,x4,x5,x6,x7,x8,x9,x10], .bool true])∧(exOb 8 0).At w' x1 x2 x3 x4 x5 x6 x7 x8 x9 x10∧Below v.heap.size v w'
 find:∀v,Below W.heap.size W v→Calls Tryz.prog 12 #[.agg (exArr a), .string ⟨#[112]⟩, .string ⟨#[]⟩] v fun e w'=>e= .returned (.tuple #[.int .i64 0, .bool true])∧Below v.heap.size v w'
 same:∀v x1 x2 x3 x4 x5 x6 x7 x8 x9 x10,Below W.heap.size W v→(exOb 8 0).At v x1 x2 x3 x4 x5 x6 x7 x8 x9 x10→Calls Tryz.prog 14 #[.agg #[.string ⟨#[97]⟩,x1,x2,x3,x4,x5,x6,x7,x8,x9,x10], .agg (exArr a)] v fun e w'=>e= .returned (.bool true)∧Below v.heap.size v w'
 rn:∀v,Below W.heap.size W v→Calls Tryz.prog 15 #[.agg #[.string ⟨#[97]⟩, .slice none 0 0, .slice none 0 0, .slice none 0 0, .slice none 0 0, .slice none 0 0, .slice none 0 0, .slice none 0 0, .slice none 0 0, .slice none 0 0, .slice none 0 0]] v fun e w'=>e= .returned (.bool true)∧Below v.heap.size v w'
 ra:∀v,Below W.heap.size W v→Calls Tryz.prog 15 #[.agg (exArr a)] v fun e w'=>e= .returned (.bool true)∧Below v.heap.size v w'
 rb:∀v,Below W.heap.size W v→Calls Tryz.prog 15 #[.agg (exArr b)] v fun e w'=>e= .returned (.bool false)∧Below v.heap.size v w'
 rc:∀v,Below W.heap.size W v→Calls Tryz.prog 15 #[.agg (exArr c)] v fun e w'=>e= .returned (.bool false)∧Below v.heap.size v w'
 r0:∀v,Below W.heap.size W v→Calls Tryz.prog 15 #[.agg #[.string ⟨#[]⟩, .slice none 0 0, .slice none 0 0, .slice none 0 0, .slice none 0 0, .slice none 0 0, .slice none 0 0, .slice none 0 0, .slice none 0 0, .slice none 0 0, .slice none 0 0]] v fun e w'=>e= .returned (.bool false)∧Below v.heap.size v w'
 dig:∀v,Below W.heap.size W v→Calls Tryz.prog 19 #[.agg (exArr a)] v fun e w'=>(∃s:ByteArray,s.size=32∧e= .returned (.string s))∧Below v.heap.size v w'
 form:∀v,Below W.heap.size W v→Calls Tryz.prog 21 #[.agg (exArr a), .int .i64 0] v fun e w'=>(∃s:ByteArray,s.size=32∧e= .returned (.string s))∧Below v.heap.size v w'
 key:∀v,Below W.heap.size W v→Calls Tryz.prog 23 #[.agg (exArr a), .int .i64 0] v fun e w'=>e= .returned (.string ⟨#[1,97,1,120]⟩)∧Below v.heap.size v w'
theorem ExF.of {W:World} {a b c:Nat} (hT:TabO W) (ha:ExAt W a 8 0) (hb:ExAt W b 8 4) (hc:ExAt W c 4 0):ExF W a b c where
 bytes v h:=obytes_any v (exOb 8 0) (.slice (some ⟨a,0,none⟩) 1 1) (.slice (some ⟨a+1,0,none⟩) 1 1) (.slice (some ⟨a+2,0,none⟩) 1 1) (.slice none 0 0) (.slice none 0 0) (.slice none 0 0) (.slice none 0 0) (.slice none 0 0) (.slice none 0 0) (.slice none 0 0) (ha.below h ha.rels.lt).at_ (exOb_ok (by unfold I64;omega) (by unfold I64;omega)) (hT.f.below h) (exOb_sz _ _)
 read v h:=(oread_any v ⟨(bytesO (exOb 8 0)).toArray⟩ (Nat.le_trans exOb_len (by decide)) (hT.f.below h)).mono (fun e w' hr=>by
  obtain⟨x1,x2,x3,x4,x5,x6,x7,x8,x9,x10,he,hs,hb⟩:=hr
  have hl:strT ⟨(bytesO (exOb 8 0)).toArray⟩=bytesO (exOb 8 0):=strT_mk _
  have ho:readO (strT ⟨(bytesO (exOb 8 0)).toArray⟩)=exOb 8 0:=by rw[hl];unfold readO;rw[exOb_read];rfl
  rw[ho] at he hs
  rw[hl,exOb_read] at he
  exact⟨x1,x2,x3,x4,x5,x6,x7,x8,x9,x10,he,hs.now,hb⟩)
 find v h:=(ofind_any v (exOb 8 0) (.slice (some ⟨a,0,none⟩) 1 1) (.slice (some ⟨a+1,0,none⟩) 1 1) (.slice (some ⟨a+2,0,none⟩) 1 1) (.slice none 0 0) (.slice none 0 0) (.slice none 0 0) (.slice none 0 0) (.slice none 0 0) (.slice none 0 0) (.slice none 0 0) ⟨#[112]⟩ ⟨#[]⟩ (ha.below h ha.rels.lt).at_ (exOb_ok (by unfold I64;omega) (by unfold I64;omega))).mono (fun e w' hr=>by rw[exOb_find] at hr;exact hr)
 same v x1 x2 x3 x4 x5 x6 x7 x8 x9 x10 h hA:=by
  obtain⟨X,e1,i1⟩:=XV.of hA
  obtain⟨Y,e2,i2⟩:=XV.of (ha.below h ha.rels.lt).at_
  rw[e1,show exArr a=Y.arr from e2]
  exact rsame_x X Y v i1 i2
 rn v h:=(oright_any v (obN ⟨#[97]⟩) (.slice none 0 0) (.slice none 0 0) (.slice none 0 0) (.slice none 0 0) (.slice none 0 0) (.slice none 0 0) (.slice none 0 0) (.slice none 0 0) (.slice none 0 0) (.slice none 0 0) (obN_at v _) (obN_ok _ (by decide)) (hT.f.below h) (fun s hs=>by cases hs) (by show(0:Nat)≤1000000;decide) (by show(0:Nat)≤1000000;decide)).mono (fun e w' hr=>by rw[exOb_right.2.2.2.1] at hr;exact hr)
 ra v h:=(oright_any v (exOb 8 0) (.slice (some ⟨a,0,none⟩) 1 1) (.slice (some ⟨a+1,0,none⟩) 1 1) (.slice (some ⟨a+2,0,none⟩) 1 1) (.slice none 0 0) (.slice none 0 0) (.slice none 0 0) (.slice none 0 0) (.slice none 0 0) (.slice none 0 0) (.slice none 0 0) (ha.below h ha.rels.lt).at_ (exOb_ok (by unfold I64;omega) (by unfold I64;omega)) (hT.f.below h) (exOb_bytes _ _) (by show(0:Nat)≤1000000;decide) (by show(0:Nat)≤1000000;decide)).mono (fun e w' hr=>by rw[exOb_right.1] at hr;exact hr)
 rb v h:=(oright_any v (exOb 8 4) (.slice (some ⟨b,0,none⟩) 1 1) (.slice (some ⟨b+1,0,none⟩) 1 1) (.slice (some ⟨b+2,0,none⟩) 1 1) (.slice none 0 0) (.slice none 0 0) (.slice none 0 0) (.slice none 0 0) (.slice none 0 0) (.slice none 0 0) (.slice none 0 0) (hb.below h hb.rels.lt).at_ (exOb_ok (by unfold I64;omega) (by unfold I64;omega)) (hT.f.below h) (exOb_bytes _ _) (by show(0:Nat)≤1000000;decide) (by show(0:Nat)≤1000000;decide)).mono (fun e w' hr=>by rw[exOb_right.2.1] at hr;exact hr)
 rc v h:=(oright_any v (exOb 4 0) (.slice (some ⟨c,0,none⟩) 1 1) (.slice (some ⟨c+1,0,none⟩) 1 1) (.slice (some ⟨c+2,0,none⟩) 1 1) (.slice none 0 0) (.slice none 0 0) (.slice none 0 0) (.slice none 0 0) (.slice none 0 0) (.slice none 0 0) (.slice none 0 0) (hc.below h hc.rels.lt).at_ (exOb_ok (by unfold I64;omega) (by unfold I64;omega)) (hT.f.below h) (exOb_bytes _ _) (by show(0:Nat)≤1000000;decide) (by show(0:Nat)≤1000000;decide)).mono (fun e w' hr=>by rw[exOb_right.2.2.1] at hr;exact hr)
 r0 v h:=(oright_any v (obN ⟨#[]⟩) (.slice none 0 0) (.slice none 0 0) (.slice none 0 0) (.slice none 0 0) (.slice none 0 0) (.slice none 0 0) (.slice none 0 0) (.slice none 0 0) (.slice none 0 0) (.slice none 0 0) (obN_at v _) (obN_ok _ (by decide)) (hT.f.below h) (fun s hs=>by cases hs) (by show(0:Nat)≤1000000;decide) (by show(0:Nat)≤1000000;decide)).mono (fun e w' hr=>by rw[exOb_right.2.2.2.2] at hr;exact hr)
 dig v h:=(odigest_any v (hT.d.below h) (exOb 8 0) (.slice (some ⟨a,0,none⟩) 1 1) (.slice (some ⟨a+1,0,none⟩) 1 1) (.slice (some ⟨a+2,0,none⟩) 1 1) (.slice none 0 0) (.slice none 0 0) (.slice none 0 0) (.slice none 0 0) (.slice none 0 0) (.slice none 0 0) (.slice none 0 0) (ha.below h ha.rels.lt).at_ (exOb_ok (by unfold I64;omega) (by unfold I64;omega)) (hT.f.below h) (exOb_sz _ _) (Nat.le_trans exOb_len (by decide))).mono (fun e w' hr=>⟨⟨⟨(sumL (bytesO (exOb 8 0))).toArray⟩,sumL_len _,hr.1⟩,hr.2⟩)
 form v h:=(form_any v (hT.d.below h) (exOb 8 0) (.slice (some ⟨a,0,none⟩) 1 1) (.slice (some ⟨a+1,0,none⟩) 1 1) (.slice (some ⟨a+2,0,none⟩) 1 1) (.slice none 0 0) (.slice none 0 0) (.slice none 0 0) (.slice none 0 0) (.slice none 0 0) (.slice none 0 0) (.slice none 0 0) 0 (ha.below h ha.rels.lt).at_ (by unfold lenR;show(1:Nat)≤_;decide) (by unfold lenR;show(1:Nat)≤_;decide) (exOb_ok (by unfold I64;omega) (by unfold I64;omega)).secsI (fun s hs=>exOb_bytes 8 0 s (by unfold secAt at hs;split at hs;exact List.mem_of_getElem? hs;cases hs))).mono (fun e w' hr=>⟨⟨⟨(formL (exOb 8 0) 0).toArray⟩,exOb_form,hr.1⟩,hr.2⟩)
 key v h:=(okey_any v (exOb 8 0) (.slice (some ⟨a,0,none⟩) 1 1) (.slice (some ⟨a+1,0,none⟩) 1 1) (.slice (some ⟨a+2,0,none⟩) 1 1) (.slice none 0 0) (.slice none 0 0) (.slice none 0 0) (.slice none 0 0) (.slice none 0 0) (.slice none 0 0) (.slice none 0 0) 0 (ha.below h ha.rels.lt).at_ (exOb_ok (by unfold I64;omega) (by unfold I64;omega))).mono (fun e w' hr=>by rw[exOb_key] at hr;exact hr)
set_option maxHeartbeats 8000000 in
set_option maxRecDepth 100000 in
theorem small_any (w:World) (hT:TabO w):Calls Tryz.prog 8 #[] w fun e w'=>e= .returned (.bool true)∧Below w.heap.size w w':=by
 have HT:=Hd.mk hT
 clear hT
 go_enter Tryz.func8,Tryz.ntmps8
 go_wp2_with fail
 refine(example_any _).mono ?_
 rintro e w1 ⟨rfl,hx,hs,hb⟩
 have H1:Hd (Ex1 (w1.alloc (.cells (exArr (w.heap.size+1)) 33)) w1.heap.size (w.heap.size+1) 8 0):=⟨⟨CellsAt.new w1 _ 33,hx.below (below_alloc w1 _) hx.rels.lt⟩⟩
 have HB1:Hd (Below w.heap.size w (w1.alloc (.cells (exArr (w.heap.size+1)) 33))):=⟨hb.trans ((below_alloc w1 _).mono hb.size)⟩
 have HS1:Hd (w1.heap.size=w.heap.size+4∧(w1.alloc (.cells (exArr (w.heap.size+1)) 33)).heap.size=w.heap.size+5):=⟨hs,by simp[hs]⟩
 clear hx hs hb
 go_wp2_with fail
 obtain⟨V1,hV1⟩:∃V,w1.alloc (.cells (exArr (w.heap.size+1)) 33)=V:=⟨_,rfl⟩
 rw[hV1] at H1 HB1 HS1⊢
 clear hV1
 obtain⟨A,hA⟩:∃A,w1.heap.size=A:=⟨_,rfl⟩
 obtain⟨a,ha⟩:∃a,w.heap.size+1=a:=⟨_,rfl⟩
 rw[hA,ha] at H1⊢
 rw[hA] at HS1
 have Ha:=Hd.mk ha
 clear hA ha
 refine(example_any _).mono ?_
 rintro e w2 ⟨rfl,hx,hs,hb⟩
 obtain⟨b,hbb⟩:∃b,V1.heap.size+1=b:=⟨_,rfl⟩
 rw[hbb] at hx⊢
 have Hb:=Hd.mk (And.intro hbb hs)
 have H2:Hd (Ex1 (w2.alloc (.cells (exArr b) 33)) w2.heap.size b 8 0):=⟨⟨CellsAt.new w2 _ 33,hx.below (below_alloc w2 _) hx.rels.lt⟩⟩
 have K2:Hd (Below V1.heap.size V1 (w2.alloc (.cells (exArr b) 33))):=⟨hb.trans ((below_alloc w2 _).mono hb.size)⟩
 have g0:(w2.alloc (.cells (exArr b) 33)).cell? ⟨b+2,1,none⟩=some (.int .i64 0):=H2.out.ex.rels.at rfl
 have g1:(w2.alloc (.cells (exArr b) 33)).frozen? ⟨b+2,1,none⟩=false:=H2.out.ex.rels.free 1
 clear hx hs hb hbb
 go_wp2_with fail
 clear g0 g1
 obtain⟨V2,hV2⟩:∃V,(w2.alloc (.cells (exArr b) 33)).setCell ⟨b+2,1,none⟩ (.int .i64 4)=V:=⟨_,rfl⟩
 have H1b:Hd (Ex1 V2 A a 8 0):=⟨by rw[←hV2];have h1:=HS1.out;have h2:=Hb.out;have h3:=Ha.out;exact(H1.out.below K2.out).set (by simp;omega) (by simp;omega) (by simp;omega) (by simp;omega) _⟩
 have H2b:Hd (Ex1 V2 w2.heap.size b 8 4):=⟨by rw[←hV2];have h2:=Hb.out;exact H2.out.setRel (by omega)⟩
 have HB2:Hd (Below w.heap.size w V2):=⟨by rw[←hV2];have h1:=HS1.out;have h2:=Hb.out;exact(HB1.out.trans (K2.out.mono HB1.out.size)).setCell (by simp;omega) _⟩
 have HS2:Hd (A=w.heap.size+4∧a=w.heap.size+1∧b=w.heap.size+6∧w2.heap.size=w.heap.size+9∧V2.heap.size=w.heap.size+10):=⟨by have h1:=HS1.out;have h2:=Hb.out;have h3:=Ha.out;have h4:V2.heap.size=w2.heap.size+1:=(by rw[←hV2];simp);omega⟩
 rw[hV2]
 clear hV2 H1 H2 K2 HB1 HS1 Hb
 obtain⟨B,hB⟩:∃B,w2.heap.size=B:=⟨_,rfl⟩
 rw[hB] at H2b HS2⊢
 clear hB Ha
 refine(example_any _).mono ?_
 rintro e w3 ⟨rfl,hx,hs,hb⟩
 obtain⟨c,hcc⟩:∃c,V2.heap.size+1=c:=⟨_,rfl⟩
 rw[hcc] at hx⊢
 have Hc:=Hd.mk (And.intro hcc hs)
 have H3:Hd (Ex1 (w3.alloc (.cells (exArr c) 33)) w3.heap.size c 8 0):=⟨⟨CellsAt.new w3 _ 33,hx.below (below_alloc w3 _) hx.rels.lt⟩⟩
 have K3:Hd (Below V2.heap.size V2 (w3.alloc (.cells (exArr c) 33))):=⟨hb.trans ((below_alloc w3 _).mono hb.size)⟩
 have g0:(w3.alloc (.cells (exArr c) 33)).cell? ⟨c,2,none⟩=some (.int .i64 8):=H3.out.ex.secs.at rfl
 have g1:(w3.alloc (.cells (exArr c) 33)).frozen? ⟨c,2,none⟩=false:=H3.out.ex.secs.free 2
 obtain⟨V3,hV3⟩:∃V,(w3.alloc (.cells (exArr c) 33)).setCell ⟨c,2,none⟩ (.int .i64 4)=V:=⟨_,rfl⟩
 have H1c:Hd (Ex1 V3 A a 8 0):=⟨by rw[←hV3];have h1:=HS2.out;have h2:=Hc.out;exact(H1b.out.below K3.out).set (by simp;omega) (by simp;omega) (by simp;omega) (by simp;omega) _⟩
 have H2c:Hd (Ex1 V3 B b 8 4):=⟨by rw[←hV3];have h1:=HS2.out;have h2:=Hc.out;exact(H2b.out.below K3.out).set (by simp;omega) (by simp;omega) (by simp;omega) (by simp;omega) _⟩
 have H3c:Hd (Ex1 V3 w3.heap.size c 4 0):=⟨by rw[←hV3];have h2:=Hc.out;exact H3.out.setSec (by omega)⟩
 have HB3:Hd (Below w.heap.size w V3):=⟨by rw[←hV3];have h1:=HS2.out;have h2:=Hc.out;exact(HB2.out.trans (K3.out.mono HB2.out.size)).setCell (by simp;omega) _⟩
 have HF:=Hd.mk (ExF.of (HT.out.below HB3.out) H1c.out.ex H2c.out.ex H3c.out.ex)
 clear hx hs hb hcc
 obtain⟨C,hC⟩:∃C,w3.heap.size=C:=⟨_,rfl⟩
 rw[hC] at H3c
 have HV3:=Hd.mk hV3
 have HC0:=Hd.mk hC
 clear hV3 hC
 go_upto_region 6 with(fail)
 rw[HV3.out,HC0.out]
 clear HV3 HC0 g0 g1 H3 K3 Hc H1b H2b HB2 HS2 HT
 have HX:Hd (Below V3.heap.size V3 V3):=⟨Below.refl _ _⟩
 have a0:V3.cell? ⟨A,0,none⟩=some (.string ⟨#[97]⟩):=(H1c.out.box.below HX.out).2 0 _ rfl
 have a1:V3.cell? ⟨A,1,none⟩=some (.slice (some ⟨a,0,none⟩) 1 1):=(H1c.out.box.below HX.out).2 1 _ rfl
 have a2:V3.cell? ⟨A,2,none⟩=some (.slice (some ⟨a+1,0,none⟩) 1 1):=(H1c.out.box.below HX.out).2 2 _ rfl
 have a3:V3.cell? ⟨A,3,none⟩=some (.slice (some ⟨a+2,0,none⟩) 1 1):=(H1c.out.box.below HX.out).2 3 _ rfl
 have a4:V3.cell? ⟨A,4,none⟩=some (.slice none 0 0):=(H1c.out.box.below HX.out).2 4 _ rfl
 have a5:V3.cell? ⟨A,5,none⟩=some (.slice none 0 0):=(H1c.out.box.below HX.out).2 5 _ rfl
 have a6:V3.cell? ⟨A,6,none⟩=some (.slice none 0 0):=(H1c.out.box.below HX.out).2 6 _ rfl
 have a7:V3.cell? ⟨A,7,none⟩=some (.slice none 0 0):=(H1c.out.box.below HX.out).2 7 _ rfl
 have a8:V3.cell? ⟨A,8,none⟩=some (.slice none 0 0):=(H1c.out.box.below HX.out).2 8 _ rfl
 have a9:V3.cell? ⟨A,9,none⟩=some (.slice none 0 0):=(H1c.out.box.below HX.out).2 9 _ rfl
 have a10:V3.cell? ⟨A,10,none⟩=some (.slice none 0 0):=(H1c.out.box.below HX.out).2 10 _ rfl
 go_wp2_with fail
 refine(HF.out.bytes _ HX.out).mono ?_
 rintro e v4 ⟨rfl,hK⟩
 clear a0 a1 a2 a3 a4 a5 a6 a7 a8 a9 a10
 have HX2:Hd (Below V3.heap.size V3 v4):=⟨HX.out.trans (hK.mono HX.out.size)⟩
 clear HX hK
 have HX:=HX2
 clear HX2
 go_wp2_with fail
 refine(HF.out.read _ HX.out).mono ?_
 rintro e v5 ⟨x1,x2,x3,x4,x5,x6,x7,x8,x9,x10,rfl,hAt,hK⟩
 have HX2:Hd (Below V3.heap.size V3 v5):=⟨HX.out.trans (hK.mono HX.out.size)⟩
 clear HX hK
 have HX:=HX2
 clear HX2
 obtain⟨p1,c1,h1⟩:=hAt.secs.slice
 replace h1:x1= .slice p1 1 c1:=h1
 subst h1
 obtain⟨p2,c2,h2⟩:=hAt.syms.slice
 replace h2:x2= .slice p2 1 c2:=h2
 subst h2
 obtain⟨p3,c3,h3⟩:=hAt.rels.slice
 replace h3:x3= .slice p3 1 c3:=h3
 subst h3
 obtain⟨p4,c4,h4⟩:=hAt.groups.slice
 replace h4:x4= .slice p4 0 c4:=h4
 subst h4
 obtain⟨p5,c5,h5⟩:=hAt.inits.slice
 replace h5:x5= .slice p5 0 c5:=h5
 subst h5
 obtain⟨p6,c6,h6⟩:=hAt.lines.slice
 replace h6:x6= .slice p6 0 c6:=h6
 subst h6
 obtain⟨p7,c7,h7⟩:=hAt.inlines.slice
 replace h7:x7= .slice p7 0 c7:=h7
 subst h7
 obtain⟨p8,c8,h8⟩:=hAt.vars.slice
 replace h8:x8= .slice p8 0 c8:=h8
 subst h8
 obtain⟨p9,c9,h9⟩:=hAt.depths.slice
 replace h9:x9= .slice p9 0 c9:=h9
 subst h9
 obtain⟨p10,c10,h10⟩:=hAt.converts.slice
 replace h10:x10= .slice p10 0 c10:=h10
 subst h10
 have HXa:Hd (Below V3.heap.size V3 (v5.alloc (.cells #[.string ⟨#[97]⟩, .slice p1 1 c1, .slice p2 1 c2, .slice p3 1 c3, .slice p4 0 c4, .slice p5 0 c5, .slice p6 0 c6, .slice p7 0 c7, .slice p8 0 c8, .slice p9 0 c9, .slice p10 0 c10] 33))):=⟨HX.out.trans ((below_alloc v5 _).mono HX.out.size)⟩
 have HOx:Hd (CellsAt v5.heap.size [.string ⟨#[97]⟩, .slice p1 1 c1, .slice p2 1 c2, .slice p3 1 c3, .slice p4 0 c4, .slice p5 0 c5, .slice p6 0 c6, .slice p7 0 c7, .slice p8 0 c8, .slice p9 0 c9, .slice p10 0 c10] (v5.alloc (.cells #[.string ⟨#[97]⟩, .slice p1 1 c1, .slice p2 1 c2, .slice p3 1 c3, .slice p4 0 c4, .slice p5 0 c5, .slice p6 0 c6, .slice p7 0 c7, .slice p8 0 c8, .slice p9 0 c9, .slice p10 0 c10] 33))):=⟨CellsAt.new v5 [.string ⟨#[97]⟩, .slice p1 1 c1, .slice p2 1 c2, .slice p3 1 c3, .slice p4 0 c4, .slice p5 0 c5, .slice p6 0 c6, .slice p7 0 c7, .slice p8 0 c8, .slice p9 0 c9, .slice p10 0 c10] 33⟩
 have HOa:Hd ((exOb 8 0).At (v5.alloc (.cells #[.string ⟨#[97]⟩, .slice p1 1 c1, .slice p2 1 c2, .slice p3 1 c3, .slice p4 0 c4, .slice p5 0 c5, .slice p6 0 c6, .slice p7 0 c7, .slice p8 0 c8, .slice p9 0 c9, .slice p10 0 c10] 33)) (.slice p1 1 c1) (.slice p2 1 c2) (.slice p3 1 c3) (.slice p4 0 c4) (.slice p5 0 c5) (.slice p6 0 c6) (.slice p7 0 c7) (.slice p8 0 c8) (.slice p9 0 c9) (.slice p10 0 c10)):=⟨hAt.below (below_alloc v5 _)⟩
 clear hAt HX
 have HX:=HXa
 clear HXa
 have a0:(v5.alloc (.cells #[.string ⟨#[97]⟩, .slice p1 1 c1, .slice p2 1 c2, .slice p3 1 c3, .slice p4 0 c4, .slice p5 0 c5, .slice p6 0 c6, .slice p7 0 c7, .slice p8 0 c8, .slice p9 0 c9, .slice p10 0 c10] 33)).cell? ⟨A,0,none⟩=some (.string ⟨#[97]⟩):=(H1c.out.box.below HX.out).2 0 _ rfl
 have a1:(v5.alloc (.cells #[.string ⟨#[97]⟩, .slice p1 1 c1, .slice p2 1 c2, .slice p3 1 c3, .slice p4 0 c4, .slice p5 0 c5, .slice p6 0 c6, .slice p7 0 c7, .slice p8 0 c8, .slice p9 0 c9, .slice p10 0 c10] 33)).cell? ⟨A,1,none⟩=some (.slice (some ⟨a,0,none⟩) 1 1):=(H1c.out.box.below HX.out).2 1 _ rfl
 have a2:(v5.alloc (.cells #[.string ⟨#[97]⟩, .slice p1 1 c1, .slice p2 1 c2, .slice p3 1 c3, .slice p4 0 c4, .slice p5 0 c5, .slice p6 0 c6, .slice p7 0 c7, .slice p8 0 c8, .slice p9 0 c9, .slice p10 0 c10] 33)).cell? ⟨A,2,none⟩=some (.slice (some ⟨a+1,0,none⟩) 1 1):=(H1c.out.box.below HX.out).2 2 _ rfl
 have a3:(v5.alloc (.cells #[.string ⟨#[97]⟩, .slice p1 1 c1, .slice p2 1 c2, .slice p3 1 c3, .slice p4 0 c4, .slice p5 0 c5, .slice p6 0 c6, .slice p7 0 c7, .slice p8 0 c8, .slice p9 0 c9, .slice p10 0 c10] 33)).cell? ⟨A,3,none⟩=some (.slice (some ⟨a+2,0,none⟩) 1 1):=(H1c.out.box.below HX.out).2 3 _ rfl
 have a4:(v5.alloc (.cells #[.string ⟨#[97]⟩, .slice p1 1 c1, .slice p2 1 c2, .slice p3 1 c3, .slice p4 0 c4, .slice p5 0 c5, .slice p6 0 c6, .slice p7 0 c7, .slice p8 0 c8, .slice p9 0 c9, .slice p10 0 c10] 33)).cell? ⟨A,4,none⟩=some (.slice none 0 0):=(H1c.out.box.below HX.out).2 4 _ rfl
 have a5:(v5.alloc (.cells #[.string ⟨#[97]⟩, .slice p1 1 c1, .slice p2 1 c2, .slice p3 1 c3, .slice p4 0 c4, .slice p5 0 c5, .slice p6 0 c6, .slice p7 0 c7, .slice p8 0 c8, .slice p9 0 c9, .slice p10 0 c10] 33)).cell? ⟨A,5,none⟩=some (.slice none 0 0):=(H1c.out.box.below HX.out).2 5 _ rfl
 have a6:(v5.alloc (.cells #[.string ⟨#[97]⟩, .slice p1 1 c1, .slice p2 1 c2, .slice p3 1 c3, .slice p4 0 c4, .slice p5 0 c5, .slice p6 0 c6, .slice p7 0 c7, .slice p8 0 c8, .slice p9 0 c9, .slice p10 0 c10] 33)).cell? ⟨A,6,none⟩=some (.slice none 0 0):=(H1c.out.box.below HX.out).2 6 _ rfl
 have a7:(v5.alloc (.cells #[.string ⟨#[97]⟩, .slice p1 1 c1, .slice p2 1 c2, .slice p3 1 c3, .slice p4 0 c4, .slice p5 0 c5, .slice p6 0 c6, .slice p7 0 c7, .slice p8 0 c8, .slice p9 0 c9, .slice p10 0 c10] 33)).cell? ⟨A,7,none⟩=some (.slice none 0 0):=(H1c.out.box.below HX.out).2 7 _ rfl
 have a8:(v5.alloc (.cells #[.string ⟨#[97]⟩, .slice p1 1 c1, .slice p2 1 c2, .slice p3 1 c3, .slice p4 0 c4, .slice p5 0 c5, .slice p6 0 c6, .slice p7 0 c7, .slice p8 0 c8, .slice p9 0 c9, .slice p10 0 c10] 33)).cell? ⟨A,8,none⟩=some (.slice none 0 0):=(H1c.out.box.below HX.out).2 8 _ rfl
 have a9:(v5.alloc (.cells #[.string ⟨#[97]⟩, .slice p1 1 c1, .slice p2 1 c2, .slice p3 1 c3, .slice p4 0 c4, .slice p5 0 c5, .slice p6 0 c6, .slice p7 0 c7, .slice p8 0 c8, .slice p9 0 c9, .slice p10 0 c10] 33)).cell? ⟨A,9,none⟩=some (.slice none 0 0):=(H1c.out.box.below HX.out).2 9 _ rfl
 have a10:(v5.alloc (.cells #[.string ⟨#[97]⟩, .slice p1 1 c1, .slice p2 1 c2, .slice p3 1 c3, .slice p4 0 c4, .slice p5 0 c5, .slice p6 0 c6, .slice p7 0 c7, .slice p8 0 c8, .slice p9 0 c9, .slice p10 0 c10] 33)).cell? ⟨A,10,none⟩=some (.slice none 0 0):=(H1c.out.box.below HX.out).2 10 _ rfl
 go_wp2_with fail
 refine(HF.out.find _ HX.out).mono ?_
 rintro e v6 ⟨rfl,hK⟩
 have HOx2:Hd (CellsAt v5.heap.size [.string ⟨#[97]⟩, .slice p1 1 c1, .slice p2 1 c2, .slice p3 1 c3, .slice p4 0 c4, .slice p5 0 c5, .slice p6 0 c6, .slice p7 0 c7, .slice p8 0 c8, .slice p9 0 c9, .slice p10 0 c10] v6):=⟨HOx.out.below hK⟩
 have HOa2:Hd ((exOb 8 0).At v6 (.slice p1 1 c1) (.slice p2 1 c2) (.slice p3 1 c3) (.slice p4 0 c4) (.slice p5 0 c5) (.slice p6 0 c6) (.slice p7 0 c7) (.slice p8 0 c8) (.slice p9 0 c9) (.slice p10 0 c10)):=⟨HOa.out.below hK⟩
 clear a0 a1 a2 a3 a4 a5 a6 a7 a8 a9 a10
 have HX2:Hd (Below V3.heap.size V3 v6):=⟨HX.out.trans (hK.mono HX.out.size)⟩
 clear HX hK
 have HX:=HX2
 clear HX2
 clear HOx HOa
 obtain⟨D,hD⟩:∃D,v5.heap.size=D:=⟨_,rfl⟩
 rw[hD] at HOx2⊢
 clear hD
 have o0:v6.cell? ⟨D,0,none⟩=some (.string ⟨#[97]⟩):=(HOx2.out).2 0 _ rfl
 have o1:v6.cell? ⟨D,1,none⟩=some (.slice p1 1 c1):=(HOx2.out).2 1 _ rfl
 have o2:v6.cell? ⟨D,2,none⟩=some (.slice p2 1 c2):=(HOx2.out).2 2 _ rfl
 have o3:v6.cell? ⟨D,3,none⟩=some (.slice p3 1 c3):=(HOx2.out).2 3 _ rfl
 have o4:v6.cell? ⟨D,4,none⟩=some (.slice p4 0 c4):=(HOx2.out).2 4 _ rfl
 have o5:v6.cell? ⟨D,5,none⟩=some (.slice p5 0 c5):=(HOx2.out).2 5 _ rfl
 have o6:v6.cell? ⟨D,6,none⟩=some (.slice p6 0 c6):=(HOx2.out).2 6 _ rfl
 have o7:v6.cell? ⟨D,7,none⟩=some (.slice p7 0 c7):=(HOx2.out).2 7 _ rfl
 have o8:v6.cell? ⟨D,8,none⟩=some (.slice p8 0 c8):=(HOx2.out).2 8 _ rfl
 have o9:v6.cell? ⟨D,9,none⟩=some (.slice p9 0 c9):=(HOx2.out).2 9 _ rfl
 have o10:v6.cell? ⟨D,10,none⟩=some (.slice p10 0 c10):=(HOx2.out).2 10 _ rfl
 have a0:v6.cell? ⟨A,0,none⟩=some (.string ⟨#[97]⟩):=(H1c.out.box.below HX.out).2 0 _ rfl
 have a1:v6.cell? ⟨A,1,none⟩=some (.slice (some ⟨a,0,none⟩) 1 1):=(H1c.out.box.below HX.out).2 1 _ rfl
 have a2:v6.cell? ⟨A,2,none⟩=some (.slice (some ⟨a+1,0,none⟩) 1 1):=(H1c.out.box.below HX.out).2 2 _ rfl
 have a3:v6.cell? ⟨A,3,none⟩=some (.slice (some ⟨a+2,0,none⟩) 1 1):=(H1c.out.box.below HX.out).2 3 _ rfl
 have a4:v6.cell? ⟨A,4,none⟩=some (.slice none 0 0):=(H1c.out.box.below HX.out).2 4 _ rfl
 have a5:v6.cell? ⟨A,5,none⟩=some (.slice none 0 0):=(H1c.out.box.below HX.out).2 5 _ rfl
 have a6:v6.cell? ⟨A,6,none⟩=some (.slice none 0 0):=(H1c.out.box.below HX.out).2 6 _ rfl
 have a7:v6.cell? ⟨A,7,none⟩=some (.slice none 0 0):=(H1c.out.box.below HX.out).2 7 _ rfl
 have a8:v6.cell? ⟨A,8,none⟩=some (.slice none 0 0):=(H1c.out.box.below HX.out).2 8 _ rfl
 have a9:v6.cell? ⟨A,9,none⟩=some (.slice none 0 0):=(H1c.out.box.below HX.out).2 9 _ rfl
 have a10:v6.cell? ⟨A,10,none⟩=some (.slice none 0 0):=(H1c.out.box.below HX.out).2 10 _ rfl
 go_wp2_with fail
 refine(HF.out.same _ _ _ _ _ _ _ _ _ _ _ HX.out HOa2.out).mono ?_
 rintro e v7 ⟨rfl,hK⟩
 clear a0 a1 a2 a3 a4 a5 a6 a7 a8 a9 a10
 clear o0 o1 o2 o3 o4 o5 o6 o7 o8 o9 o10 HOx2 HOa2
 have HX2:Hd (Below V3.heap.size V3 v7):=⟨HX.out.trans (hK.mono HX.out.size)⟩
 clear HX hK
 have HX:=HX2
 clear HX2
 go_wp2_with fail
 refine(HF.out.rn _ HX.out).mono ?_
 rintro e v8 ⟨rfl,hK⟩
 have HX2:Hd (Below V3.heap.size V3 v8):=⟨HX.out.trans (hK.mono HX.out.size)⟩
 clear HX hK
 have HX:=HX2
 clear HX2
 have a0:v8.cell? ⟨A,0,none⟩=some (.string ⟨#[97]⟩):=(H1c.out.box.below HX.out).2 0 _ rfl
 have a1:v8.cell? ⟨A,1,none⟩=some (.slice (some ⟨a,0,none⟩) 1 1):=(H1c.out.box.below HX.out).2 1 _ rfl
 have a2:v8.cell? ⟨A,2,none⟩=some (.slice (some ⟨a+1,0,none⟩) 1 1):=(H1c.out.box.below HX.out).2 2 _ rfl
 have a3:v8.cell? ⟨A,3,none⟩=some (.slice (some ⟨a+2,0,none⟩) 1 1):=(H1c.out.box.below HX.out).2 3 _ rfl
 have a4:v8.cell? ⟨A,4,none⟩=some (.slice none 0 0):=(H1c.out.box.below HX.out).2 4 _ rfl
 have a5:v8.cell? ⟨A,5,none⟩=some (.slice none 0 0):=(H1c.out.box.below HX.out).2 5 _ rfl
 have a6:v8.cell? ⟨A,6,none⟩=some (.slice none 0 0):=(H1c.out.box.below HX.out).2 6 _ rfl
 have a7:v8.cell? ⟨A,7,none⟩=some (.slice none 0 0):=(H1c.out.box.below HX.out).2 7 _ rfl
 have a8:v8.cell? ⟨A,8,none⟩=some (.slice none 0 0):=(H1c.out.box.below HX.out).2 8 _ rfl
 have a9:v8.cell? ⟨A,9,none⟩=some (.slice none 0 0):=(H1c.out.box.below HX.out).2 9 _ rfl
 have a10:v8.cell? ⟨A,10,none⟩=some (.slice none 0 0):=(H1c.out.box.below HX.out).2 10 _ rfl
 go_wp2_with fail
 refine(HF.out.ra _ HX.out).mono ?_
 rintro e v9 ⟨rfl,hK⟩
 clear a0 a1 a2 a3 a4 a5 a6 a7 a8 a9 a10
 have HX2:Hd (Below V3.heap.size V3 v9):=⟨HX.out.trans (hK.mono HX.out.size)⟩
 clear HX hK
 have HX:=HX2
 clear HX2
 have b0:v9.cell? ⟨B,0,none⟩=some (.string ⟨#[97]⟩):=(H2c.out.box.below HX.out).2 0 _ rfl
 have b1:v9.cell? ⟨B,1,none⟩=some (.slice (some ⟨b,0,none⟩) 1 1):=(H2c.out.box.below HX.out).2 1 _ rfl
 have b2:v9.cell? ⟨B,2,none⟩=some (.slice (some ⟨b+1,0,none⟩) 1 1):=(H2c.out.box.below HX.out).2 2 _ rfl
 have b3:v9.cell? ⟨B,3,none⟩=some (.slice (some ⟨b+2,0,none⟩) 1 1):=(H2c.out.box.below HX.out).2 3 _ rfl
 have b4:v9.cell? ⟨B,4,none⟩=some (.slice none 0 0):=(H2c.out.box.below HX.out).2 4 _ rfl
 have b5:v9.cell? ⟨B,5,none⟩=some (.slice none 0 0):=(H2c.out.box.below HX.out).2 5 _ rfl
 have b6:v9.cell? ⟨B,6,none⟩=some (.slice none 0 0):=(H2c.out.box.below HX.out).2 6 _ rfl
 have b7:v9.cell? ⟨B,7,none⟩=some (.slice none 0 0):=(H2c.out.box.below HX.out).2 7 _ rfl
 have b8:v9.cell? ⟨B,8,none⟩=some (.slice none 0 0):=(H2c.out.box.below HX.out).2 8 _ rfl
 have b9:v9.cell? ⟨B,9,none⟩=some (.slice none 0 0):=(H2c.out.box.below HX.out).2 9 _ rfl
 have b10:v9.cell? ⟨B,10,none⟩=some (.slice none 0 0):=(H2c.out.box.below HX.out).2 10 _ rfl
 go_wp2_with fail
 refine(HF.out.rb _ HX.out).mono ?_
 rintro e v10 ⟨rfl,hK⟩
 clear b0 b1 b2 b3 b4 b5 b6 b7 b8 b9 b10
 have HX2:Hd (Below V3.heap.size V3 v10):=⟨HX.out.trans (hK.mono HX.out.size)⟩
 clear HX hK
 have HX:=HX2
 clear HX2
 have c0:v10.cell? ⟨C,0,none⟩=some (.string ⟨#[97]⟩):=(H3c.out.box.below HX.out).2 0 _ rfl
 have c1:v10.cell? ⟨C,1,none⟩=some (.slice (some ⟨c,0,none⟩) 1 1):=(H3c.out.box.below HX.out).2 1 _ rfl
 have c2:v10.cell? ⟨C,2,none⟩=some (.slice (some ⟨c+1,0,none⟩) 1 1):=(H3c.out.box.below HX.out).2 2 _ rfl
 have c3:v10.cell? ⟨C,3,none⟩=some (.slice (some ⟨c+2,0,none⟩) 1 1):=(H3c.out.box.below HX.out).2 3 _ rfl
 have c4:v10.cell? ⟨C,4,none⟩=some (.slice none 0 0):=(H3c.out.box.below HX.out).2 4 _ rfl
 have c5:v10.cell? ⟨C,5,none⟩=some (.slice none 0 0):=(H3c.out.box.below HX.out).2 5 _ rfl
 have c6:v10.cell? ⟨C,6,none⟩=some (.slice none 0 0):=(H3c.out.box.below HX.out).2 6 _ rfl
 have c7:v10.cell? ⟨C,7,none⟩=some (.slice none 0 0):=(H3c.out.box.below HX.out).2 7 _ rfl
 have c8:v10.cell? ⟨C,8,none⟩=some (.slice none 0 0):=(H3c.out.box.below HX.out).2 8 _ rfl
 have c9:v10.cell? ⟨C,9,none⟩=some (.slice none 0 0):=(H3c.out.box.below HX.out).2 9 _ rfl
 have c10:v10.cell? ⟨C,10,none⟩=some (.slice none 0 0):=(H3c.out.box.below HX.out).2 10 _ rfl
 go_wp2_with fail
 refine(HF.out.rc _ HX.out).mono ?_
 rintro e v11 ⟨rfl,hK⟩
 clear c0 c1 c2 c3 c4 c5 c6 c7 c8 c9 c10
 have HX2:Hd (Below V3.heap.size V3 v11):=⟨HX.out.trans (hK.mono HX.out.size)⟩
 clear HX hK
 have HX:=HX2
 clear HX2
 go_wp2_with fail
 refine(HF.out.r0 _ HX.out).mono ?_
 rintro e v12 ⟨rfl,hK⟩
 have HX2:Hd (Below V3.heap.size V3 v12):=⟨HX.out.trans (hK.mono HX.out.size)⟩
 clear HX hK
 have HX:=HX2
 clear HX2
 have a0:v12.cell? ⟨A,0,none⟩=some (.string ⟨#[97]⟩):=(H1c.out.box.below HX.out).2 0 _ rfl
 have a1:v12.cell? ⟨A,1,none⟩=some (.slice (some ⟨a,0,none⟩) 1 1):=(H1c.out.box.below HX.out).2 1 _ rfl
 have a2:v12.cell? ⟨A,2,none⟩=some (.slice (some ⟨a+1,0,none⟩) 1 1):=(H1c.out.box.below HX.out).2 2 _ rfl
 have a3:v12.cell? ⟨A,3,none⟩=some (.slice (some ⟨a+2,0,none⟩) 1 1):=(H1c.out.box.below HX.out).2 3 _ rfl
 have a4:v12.cell? ⟨A,4,none⟩=some (.slice none 0 0):=(H1c.out.box.below HX.out).2 4 _ rfl
 have a5:v12.cell? ⟨A,5,none⟩=some (.slice none 0 0):=(H1c.out.box.below HX.out).2 5 _ rfl
 have a6:v12.cell? ⟨A,6,none⟩=some (.slice none 0 0):=(H1c.out.box.below HX.out).2 6 _ rfl
 have a7:v12.cell? ⟨A,7,none⟩=some (.slice none 0 0):=(H1c.out.box.below HX.out).2 7 _ rfl
 have a8:v12.cell? ⟨A,8,none⟩=some (.slice none 0 0):=(H1c.out.box.below HX.out).2 8 _ rfl
 have a9:v12.cell? ⟨A,9,none⟩=some (.slice none 0 0):=(H1c.out.box.below HX.out).2 9 _ rfl
 have a10:v12.cell? ⟨A,10,none⟩=some (.slice none 0 0):=(H1c.out.box.below HX.out).2 10 _ rfl
 go_wp2_with fail
 refine(HF.out.dig _ HX.out).mono ?_
 rintro e v13 ⟨⟨sdig,zdig,rfl⟩,hK⟩
 clear a0 a1 a2 a3 a4 a5 a6 a7 a8 a9 a10
 have HX2:Hd (Below V3.heap.size V3 v13):=⟨HX.out.trans (hK.mono HX.out.size)⟩
 clear HX hK
 have HX:=HX2
 clear HX2
 have a0:v13.cell? ⟨A,0,none⟩=some (.string ⟨#[97]⟩):=(H1c.out.box.below HX.out).2 0 _ rfl
 have a1:v13.cell? ⟨A,1,none⟩=some (.slice (some ⟨a,0,none⟩) 1 1):=(H1c.out.box.below HX.out).2 1 _ rfl
 have a2:v13.cell? ⟨A,2,none⟩=some (.slice (some ⟨a+1,0,none⟩) 1 1):=(H1c.out.box.below HX.out).2 2 _ rfl
 have a3:v13.cell? ⟨A,3,none⟩=some (.slice (some ⟨a+2,0,none⟩) 1 1):=(H1c.out.box.below HX.out).2 3 _ rfl
 have a4:v13.cell? ⟨A,4,none⟩=some (.slice none 0 0):=(H1c.out.box.below HX.out).2 4 _ rfl
 have a5:v13.cell? ⟨A,5,none⟩=some (.slice none 0 0):=(H1c.out.box.below HX.out).2 5 _ rfl
 have a6:v13.cell? ⟨A,6,none⟩=some (.slice none 0 0):=(H1c.out.box.below HX.out).2 6 _ rfl
 have a7:v13.cell? ⟨A,7,none⟩=some (.slice none 0 0):=(H1c.out.box.below HX.out).2 7 _ rfl
 have a8:v13.cell? ⟨A,8,none⟩=some (.slice none 0 0):=(H1c.out.box.below HX.out).2 8 _ rfl
 have a9:v13.cell? ⟨A,9,none⟩=some (.slice none 0 0):=(H1c.out.box.below HX.out).2 9 _ rfl
 have a10:v13.cell? ⟨A,10,none⟩=some (.slice none 0 0):=(H1c.out.box.below HX.out).2 10 _ rfl
 go_wp2_with fail
 refine(HF.out.form _ HX.out).mono ?_
 rintro e v14 ⟨⟨sform,zform,rfl⟩,hK⟩
 clear a0 a1 a2 a3 a4 a5 a6 a7 a8 a9 a10
 have HX2:Hd (Below V3.heap.size V3 v14):=⟨HX.out.trans (hK.mono HX.out.size)⟩
 clear HX hK
 have HX:=HX2
 clear HX2
 have a0:v14.cell? ⟨A,0,none⟩=some (.string ⟨#[97]⟩):=(H1c.out.box.below HX.out).2 0 _ rfl
 have a1:v14.cell? ⟨A,1,none⟩=some (.slice (some ⟨a,0,none⟩) 1 1):=(H1c.out.box.below HX.out).2 1 _ rfl
 have a2:v14.cell? ⟨A,2,none⟩=some (.slice (some ⟨a+1,0,none⟩) 1 1):=(H1c.out.box.below HX.out).2 2 _ rfl
 have a3:v14.cell? ⟨A,3,none⟩=some (.slice (some ⟨a+2,0,none⟩) 1 1):=(H1c.out.box.below HX.out).2 3 _ rfl
 have a4:v14.cell? ⟨A,4,none⟩=some (.slice none 0 0):=(H1c.out.box.below HX.out).2 4 _ rfl
 have a5:v14.cell? ⟨A,5,none⟩=some (.slice none 0 0):=(H1c.out.box.below HX.out).2 5 _ rfl
 have a6:v14.cell? ⟨A,6,none⟩=some (.slice none 0 0):=(H1c.out.box.below HX.out).2 6 _ rfl
 have a7:v14.cell? ⟨A,7,none⟩=some (.slice none 0 0):=(H1c.out.box.below HX.out).2 7 _ rfl
 have a8:v14.cell? ⟨A,8,none⟩=some (.slice none 0 0):=(H1c.out.box.below HX.out).2 8 _ rfl
 have a9:v14.cell? ⟨A,9,none⟩=some (.slice none 0 0):=(H1c.out.box.below HX.out).2 9 _ rfl
 have a10:v14.cell? ⟨A,10,none⟩=some (.slice none 0 0):=(H1c.out.box.below HX.out).2 10 _ rfl
 go_wp2_with fail
 refine(HF.out.key _ HX.out).mono ?_
 rintro e v15 ⟨rfl,hK⟩
 clear a0 a1 a2 a3 a4 a5 a6 a7 a8 a9 a10
 have HX2:Hd (Below V3.heap.size V3 v15):=⟨HX.out.trans (hK.mono HX.out.size)⟩
 clear HX hK
 have HX:=HX2
 clear HX2
 go_wp2
 go_ret
 exact⟨rfl,HB3.out.trans (HX.out.mono HB3.out.size)⟩
end Go.Proofs.YtfaepbjnpakghaaGreatDoor.W
