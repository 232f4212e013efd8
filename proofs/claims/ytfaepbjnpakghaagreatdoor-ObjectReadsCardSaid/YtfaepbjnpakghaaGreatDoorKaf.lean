import Derived.Shelf.Abstract
import Derived.Test.YtfaepbjnpakghaaGreatDoorKac
import Derived.Test.YtfaepbjnpakghaaGreatDoorKRight
import Derived.Test.YtfaepbjnpakghaaGreatDoorKab
import Derived.Test.YtfaepbjnpakghaaGreatDoorKad
/- The walk of isa's Decode. -/
namespace Go.Proofs.YtfaepbjnpakghaaGreatDoor.W
open Go.RowKit
set_option linter.unusedVariables false
def immAt (s:ByteArray) (n:Nat):Int:=getI (le (cut s (n+4) 4)) 4 true
def byteAt (s:ByteArray) (n:Nat):Int:=((s.data.toList.getD n 0).toNat:Int)
theorem byteAt_eq (s:ByteArray) (n:Nat) (h:n<s.size):byteAt s n=((s[n]'h).toNat:Int):=by
 unfold byteAt
 rw[List.getD_eq_getElem?_getD,List.getElem?_eq_getElem (by rw[show s.data.toList.length=s.size from rfl];exact h)]
 rfl
theorem byteAt_range (s:ByteArray) (n:Nat):0≤byteAt s n∧byteAt s n<256:=by
 unfold byteAt
 have:=(s.data.toList.getD n 0).toNat_lt
 omega
def insAt (s:ByteArray) (n:Nat):Bool:=rightB (byteAt s n) (byteAt s (n+1)) (byteAt s (n+2)) (byteAt s (n+3)) (immAt s n)
def decB (s:ByteArray) (x:Int):Bool:=decide (0≤x∧x+8≤s.size)&&insAt s x.toNat
def decV (s:ByteArray) (x:Int):Value:=
 if decB s x then .agg #[.int .i64 (byteAt s x.toNat), .int .i64 (byteAt s (x.toNat+1)), .int .i64 (byteAt s (x.toNat+2)), .int .i64 (byteAt s (x.toNat+3)), .int .i64 (immAt s x.toNat)]
 else .agg #[.int .i64 0, .int .i64 0, .int .i64 0, .int .i64 0, .int .i64 0]
theorem immAt_range (s:ByteArray) (n:Nat) (h:n+8≤s.size):i64R (immAt s n):=by
 have hU:=le_lt (cut s (n+4) 4)
 rw[cut_length s (n+4) 4 (by omega)] at hU
 unfold immAt getI i64R
 split<;>omega
set_option maxHeartbeats 2000000 in
set_option maxRecDepth 100000 in
theorem decode_any (s:ByteArray) (x:Int) (w:World) (hs:s.size≤800000) (hx:i64R x) (hT:FormsAt w):
 Calls Tryz.prog 154 #[.string s, .int .i64 x] w fun e w'=>e= .returned (.tuple #[decV s x, .bool (decB s x)])∧Below w.heap.size w w':=by
 by_cases hin:0≤x∧x+8≤s.size
 ·obtain⟨n,rfl⟩:∃n:Nat,x=(n:Int):=⟨x.toNat,by omega⟩
  have hn:n+8≤s.size:=by omega
  have hB:Hd (decB s n=insAt s n):=⟨by unfold decB;rw[decide_eq_true hin];rfl⟩
  have hget:=fun w=>get_any s ((n:Int)+4) 4 true w (by unfold maxLen;omega)
  have hgp:getP s ((n:Int)+4) 4 true=(immAt s n,true):=by
   have hf:fieldB s.size ((n:Int)+4) 4=true:=by
    simp only[fieldB];simp;omega
   unfold getP
   rw[if_pos hf]
   have:((n:Int)+4).toNat=n+4:=by omega
   rw[this];rfl
  rw[hgp] at hget
  have HG:=Hd.mk hget
  have h0:n<s.size:=by omega
  have h1:n+1<s.size:=by omega
  have h2:n+2<s.size:=by omega
  have h3:n+3<s.size:=by omega
  have e0:=byteAt_eq s n h0
  have e1:=byteAt_eq s (n+1) h1
  have e2:=byteAt_eq s (n+2) h2
  have e3:=byteAt_eq s (n+3) h3
  have hm:=immAt_range s n hn
  have t1:¬(n:Int)<0:=by omega
  have t2:¬(s.size:Int) -8< (n:Int):=by omega
  have hsz:(s.size:Int)≤800000:=by omega
  have hnz:(n:Int)≤800000:=by omega
  have HE:=Hd.mk (And.intro e0 (And.intro e1 (And.intro e2 e3)))
  have HM:=Hd.mk hm
  have HT:=Hd.mk hT
  have HN:=Hd.mk hn
  have i0:(0:Int)≤(n:Int):=by omega
  have i1:(n:Int)< (s.size:Int):=by omega
  have i2:(0:Int)≤(n:Int)+1:=by omega
  have i3:(n:Int)+1< (s.size:Int):=by omega
  have i4:(0:Int)≤(n:Int)+2:=by omega
  have i5:(n:Int)+2< (s.size:Int):=by omega
  have i6:(0:Int)≤(n:Int)+3:=by omega
  have i7:(n:Int)+3< (s.size:Int):=by omega
  have r1:IntKind.i64.wrap ((n:Int)+1)=(n:Int)+1:=IntWalk.i64_in _ (by omega)
  have r2:IntKind.i64.wrap ((n:Int)+2)=(n:Int)+2:=IntWalk.i64_in _ (by omega)
  have r3:IntKind.i64.wrap ((n:Int)+3)=(n:Int)+3:=IntWalk.i64_in _ (by omega)
  have n1:((n:Int)+1).toNat=n+1:=by omega
  have n2:((n:Int)+2).toNat=n+2:=by omega
  have n3:((n:Int)+3).toNat=n+3:=by omega
  have wb:∀x:UInt8,wrap64 (x.toNat:Int)=(x.toNat:Int):=fun x=>by have:=x.toNat_lt;unfold wrap64;omega
  have q0:wrap64 (((s[n]'h0).toNat:Nat):Int)=byteAt s n:=by rw[wb,e0]
  have q1:wrap64 (((s[n+1]'h1).toNat:Nat):Int)=byteAt s (n+1):=by rw[wb,e1]
  have q2:wrap64 (((s[n+2]'h2).toNat:Nat):Int)=byteAt s (n+2):=by rw[wb,e2]
  have q3:wrap64 (((s[n+3]'h3).toNat:Nat):Int)=byteAt s (n+3):=by rw[wb,e3]
  obtain⟨x0,hx0⟩:∃x,byteAt s n=x:=⟨_,rfl⟩
  obtain⟨x1,hx1⟩:∃x,byteAt s (n+1)=x:=⟨_,rfl⟩
  obtain⟨x2,hx2⟩:∃x,byteAt s (n+2)=x:=⟨_,rfl⟩
  obtain⟨x3,hx3⟩:∃x,byteAt s (n+3)=x:=⟨_,rfl⟩
  obtain⟨x4,hx4⟩:∃x,immAt s n=x:=⟨_,rfl⟩
  rw[hx0] at q0;rw[hx1] at q1;rw[hx2] at q2;rw[hx3] at q3
  rw[hx4] at HM HG
  have HV:Hd (decV s n=if insAt s n then .agg #[.int .i64 x0, .int .i64 x1, .int .i64 x2, .int .i64 x3, .int .i64 x4] else .agg #[.int .i64 0, .int .i64 0, .int .i64 0, .int .i64 0, .int .i64 0]):=⟨by
   unfold decV;rw[hB.out,Int.toNat_natCast,hx0,hx1,hx2,hx3,hx4]⟩
  have HIns:Hd (insAt s n=rightB x0 x1 x2 x3 x4):=⟨by unfold insAt;rw[hx0,hx1,hx2,hx3,hx4]⟩
  clear hx0 hx1 hx2 hx3 hx4 wb
  clear hin hs hx hT hgp hget e0 e1 e2 e3 hm hn
  go_enter Tryz.func154,Tryz.ntmps154
  go_wp2_with fail
  refine(HG.out _).mono ?_;rintro e w1 ⟨rfl,rfl⟩
  go_wp2_with fail
  refine wp_region_lin default (fun _=>True) [(0,true),(1,true),(2,true),(3,true),(4,true),(5,true),(6,true),(7,true),(8,true),(9,true),(10,true),(11,true),(12,true),(13,true),(14,true),(15,true),(16,true),(17,true),(18,true),(19,true),(20,true),(21,false),(22,false)] (by kernel_rfl) (by kernel_rfl) rfl (by kernel_rfl) (by kernel_rfl) trivial ?_
  simp only[pick,List.getD_cons_zero,List.getD_cons_succ]
  repeat
   refine lin_free (v:= ?_) (by rfl) ?_ ?_
   rotate_left
   ·intro w' hSw
    go_simp
    first | done | with_reducible rfl
   simp only[Act.put,List.setIfInBounds_toArray,List.set_cons_zero,List.set_cons_succ]
  refine lin_bound (fun K hK=> ?_)
  go_simp
  refine hK.out _ _ trivial ?_
  clear hK K
  refine lin_bound (fun K hK=> ?_)
  go_simp
  refine hK.out _ _ trivial ?_
  clear hK K
  refine NoPanic.normal ?_
  go_wp2_with fail
  have hR:Blk ((w.alloc (.cells #[.int .i64 0, .int .i64 0, .int .i64 0, .int .i64 0, .int .i64 0] 176)).alloc (.cells #[.int .i64 x0, .int .i64 x1, .int .i64 x2, .int .i64 x3, .int .i64 x4] 176)).drew w.heap.size 176 [.int .i64 0, .int .i64 0, .int .i64 0, .int .i64 0, .int .i64 0]:=((Blk.new w 176 [.int .i64 0, .int .i64 0, .int .i64 0, .int .i64 0, .int .i64 0]).alloc _).drew
  have hI:Blk ((w.alloc (.cells #[.int .i64 0, .int .i64 0, .int .i64 0, .int .i64 0, .int .i64 0] 176)).alloc (.cells #[.int .i64 x0, .int .i64 x1, .int .i64 x2, .int .i64 x3, .int .i64 x4] 176)).drew (w.heap.size+1) 176 [.int .i64 x0, .int .i64 x1, .int .i64 x2, .int .i64 x3, .int .i64 x4]:=by
   have:=(Blk.new (w.alloc (.cells #[.int .i64 0, .int .i64 0, .int .i64 0, .int .i64 0, .int .i64 0] 176)) 176 [.int .i64 x0, .int .i64 x1, .int .i64 x2, .int .i64 x3, .int .i64 x4]).drew
   rw[show(w.alloc (.cells #[.int .i64 0, .int .i64 0, .int .i64 0, .int .i64 0, .int .i64 0] 176)).heap.size=w.heap.size+1 from by simp] at this
   exact this
  have kW:Below w.heap.size w ((w.alloc (.cells #[.int .i64 0, .int .i64 0, .int .i64 0, .int .i64 0, .int .i64 0] 176)).alloc (.cells #[.int .i64 x0, .int .i64 x1, .int .i64 x2, .int .i64 x3, .int .i64 x4] 176)).drew:=by go_grown
  have HR:=Hd.mk hR
  have HI:=Hd.mk hI
  have HKW:=Hd.mk kW
  clear hR hI kW
  refine(right_any x0 x1 x2 x3 x4 _ (HT.out.below (by go_grown)) HM.out).mono ?_
  rintro e w5 ⟨rfl,k5⟩
  have hR5:=HR.out.below k5 HR.out.lt
  have hI5:=HI.out.below k5 HI.out.lt
  have HK5:=Hd.mk (Below.chain HKW.out k5)
  have a0:=hR5.at (j:=0) rfl
  have a1:=hR5.at (j:=1) rfl
  have a2:=hR5.at (j:=2) rfl
  have a3:=hR5.at (j:=3) rfl
  have a4:=hR5.at (j:=4) rfl
  have z0:=hR5.free 0
  have z1:=hR5.free 1
  have z2:=hR5.free 2
  have z3:=hR5.free 3
  have z4:=hR5.free 4
  have c0:=hI5.at (j:=0) rfl
  have c1:=hI5.at (j:=1) rfl
  have c2:=hI5.at (j:=2) rfl
  have c3:=hI5.at (j:=3) rfl
  have c4:=hI5.at (j:=4) rfl
  clear k5 hR5 hI5
  obtain⟨b,hb⟩:∃b,rightB x0 x1 x2 x3 x4=b:=⟨_,rfl⟩
  rw[hb]
  have HBB:=Hd.mk hb
  clear hb
  rcases b with _ | _
  ·have e1:Hd (decB s n=false∧decV s n= .agg #[.int .i64 0, .int .i64 0, .int .i64 0, .int .i64 0, .int .i64 0]):=⟨by rw[hB.out,HIns.out,HBB.out],by rw[HV.out,HIns.out,HBB.out];rfl⟩
   go_wp2
   refine bodyPost_ret (v:= .tuple #[.agg #[.int .i64 0, .int .i64 0, .int .i64 0, .int .i64 0, .int .i64 0], .bool false]) (by simp[results,Tryz.results154,go_sem,a0,a1,a2,a3,a4]) rfl ⟨by rw[e1.out.1,e1.out.2],?_⟩
   exact(((((HK5.out.setCell (by simp) _).setCell (by simp) _).setCell (by simp) _).setCell (by simp) _).setCell (by simp) _)
  ·have e1:Hd (decB s n=true∧decV s n= .agg #[.int .i64 x0, .int .i64 x1, .int .i64 x2, .int .i64 x3, .int .i64 x4]):=⟨by rw[hB.out,HIns.out,HBB.out],by rw[HV.out,HIns.out,HBB.out];rfl⟩
   go_wp2
   refine bodyPost_ret (v:= .tuple #[.agg #[.int .i64 x0, .int .i64 x1, .int .i64 x2, .int .i64 x3, .int .i64 x4], .bool true]) (by simp[results,Tryz.results154,go_sem,a0,a1,a2,a3,a4]) rfl ⟨by rw[e1.out.1,e1.out.2],?_⟩
   exact(((((HK5.out.setCell (by simp) _).setCell (by simp) _).setCell (by simp) _).setCell (by simp) _).setCell (by simp) _)
 ·have hB:Hd (decB s x=false):=⟨by unfold decB;rw[decide_eq_false hin];rfl⟩
  have hV:Hd (decV s x= .agg #[.int .i64 0, .int .i64 0, .int .i64 0, .int .i64 0, .int .i64 0]):=⟨by unfold decV;rw[hB.out];rfl⟩
  have hor:x<0∨(¬x<0∧(s.size:Int) -8<x):=by omega
  have hsz:(s.size:Int)≤800000:=by omega
  clear hin hs hx hT
  rcases hor with h | ⟨h,h'⟩
  all_goals
   go_enter Tryz.func154,Tryz.ntmps154
   go_wp2
   refine bodyPost_ret (v:= .tuple #[.agg #[.int .i64 0, .int .i64 0, .int .i64 0, .int .i64 0, .int .i64 0], .bool false]) (by simp[results,Tryz.results154,go_sem]) rfl ⟨by rw[hB.out,hV.out],by go_grown⟩
end Go.Proofs.YtfaepbjnpakghaaGreatDoor.W
namespace Go.Proofs.YtfaepbjnpakghaaGreatDoor.W
set_option linter.unusedVariables false
def nameC (c:UInt8):Bool:=decide (33≤c.toNat∧c.toNat≤126)
def fileC (c:UInt8):Bool:=decide (32≤c.toNat∧c.toNat≤126∧c.toNat≠34∧c.toNat≠92)
def nameB (s:ByteArray):Bool:=s.data.toList.all nameC&&decide (1≤s.size∧s.size≤64)
def fileB (s:ByteArray):Bool:=s.data.toList.all fileC&&decide (1≤s.size∧s.size≤64)
def inB (n u:Int):Bool:=decide (0≤n∧n<u)
def pairsB {α:Type} (p:α→α→Bool):List α→Bool
 | a::b::l=>p a b&&pairsB p (b::l)
 | _=>true
def distB {α κ:Type} [DecidableEq κ] (key:α→κ) (l:List α):Bool:=decide ((l.map key).Nodup)
theorem pairs_at {α:Type} {p:α→α→Bool}:∀(l:List α) (k:Nat) (h:k+1<l.length),pairsB p l=true→p (l[k]'(by omega)) l[k+1]=true
 | a::b::l,0,_,hp=>by
   rw[pairsB,Bool.and_eq_true] at hp
   exact hp.1
 | a::b::l,k+1,h,hp=>by
   rw[pairsB,Bool.and_eq_true] at hp
   exact pairs_at (b::l) k (by simpa using h) hp.2
 | [a],k,h,_=>by simp at h
 | [],k,h,_=>by simp at h
theorem pairs_bad {α:Type} {p:α→α→Bool} {l:List α} {k:Nat} (h:k+1<l.length) (hb:p (l[k]'(by omega)) l[k+1]=false):pairsB p l=false:=by
 rcases hp:pairsB p l with _ | _
 ·rfl
 ·rw[pairs_at l k h hp] at hb;cases hb
theorem pairs_of {α:Type} {p:α→α→Bool}:∀ {l:List α},(∀j (h:j+1<l.length),p (l[j]'(by omega)) l[j+1]=true)→pairsB p l=true
 | [],_=>rfl
 | [a],_=>rfl
 | a::b::l,h=>by
   rw[pairsB,Bool.and_eq_true]
   exact⟨h 0 (by simp),pairs_of (l:=b::l) (fun j hj=>h (j+1) (by simpa using hj))⟩
theorem all_bad {α:Type} {p:α→Bool} {l:List α} {x:α} (hx:x∈l) (hb:p x=false):l.all p=false:=by
 rcases hp:l.all p with _ | _
 ·rfl
 ·rw[List.all_eq_true.1 hp x hx] at hb;cases hb
def isB (o:Ob) (sec:Int) (ks:List Int):Bool:=match secAt o sec with | some s=>ks.contains s.kind | none=>false
def symAt (o:Ob) (i:Int):Option Sym:=if 0≤i then o.syms[i.toNat]? else none
def symKB (o:Ob) (i kind:Int):Bool:=match symAt o i with | some s=>decide (s.kind=kind) | none=>false
def sizeAt (o:Ob) (i:Int):Int:=match secAt o i with | some s=>s.size | none=>0
def secBytes (s:Sec):Int:=if s.kind=2∨s.kind=4 then 0 else s.size
def secCode (s:Sec):Bool:=decide (s.kind≠0) || decide (8≤s.align)&&decide (s.size%8=0)
def secB (s:Sec):Bool:=nameB s.name&&inB s.kind 5&&powB s.align&&inB s.size 1048577&&decide ((s.bytes.size:Int)=secBytes s)&&secCode s
def secsB (o:Ob):Bool:=decide (o.secs.length≤1024)&&o.secs.all secB&&distB Sec.name o.secs
def kindsL (k:Int):List Int:=if k=0 then [0] else if k=1 then [1,2] else [3,4]
def symFields (s:Sym):Bool:=nameB s.name&&(decide (s.version.size=0) || nameB s.version)&&inB s.bind 4&&inB s.vis 3&&inB s.kind 3&&decide (0≤s.at_)&&decide (0≤s.size)
def symCommon (s:Sym):Bool:=decide (s.sec= -1)&&decide (s.kind=1)&&decide (s.version.size=0)&& !s.main&&decide (s.at_=0)&&decide (1≤s.size)&&decide (s.size≤1048576)&&powB s.align
def symRef (s:Sym):Bool:=decide (s.bind≠0)&& !s.main&&decide (s.at_=0)&&decide (s.size=0)&&decide (s.align=0)
def symHere (o:Ob) (s:Sym):Bool:=isB o s.sec (kindsL s.kind)&&decide (s.align=0)&& !(s.main&&decide (s.version.size=0))
def symLocal (s:Sym):Bool:=decide (s.bind≠0) || decide (s.version.size=0)&&decide (s.vis=0)
def symRest (z:Int) (s:Sym):Bool:=symLocal s&&decide (s.at_≤z)&&decide (s.size≤z-s.at_)&&(decide (s.kind≠0) || decide (s.at_%8=0))
def symB (o:Ob) (s:Sym):Bool:=
 if symFields s then
  if s.bind=3 then symCommon s
  else if s.sec= -1 then symRef s
  else symHere o s&&symRest (sizeAt o s.sec) s
 else false
def symsB (o:Ob):Bool:=decide (o.syms.length≤4096)&&o.syms.all (symB o)&&distB (fun s=>(s.name,s.version)) o.syms
def opsL (k:Int):List Int:=if k=5 then [14,19,20,21] else if k=6 then [22] else if k=7 then [24,25] else if k=8 then [3] else if k=9 then [4] else if k=10 then [13,3] else []
def relHead (o:Ob) (r:Rel):Bool:=inB r.kind 13&&isB o r.sec [0,1]&&inB r.sym o.syms.length&&decide (-2147483648≤r.add)&&decide (r.add<2147483648)
def relFit (s:Sec) (r:Rel):Bool:=inB r.at_ s.size&&decide (r.at_≤s.size-widthI r.kind)&&decide (r.at_%widthI r.kind=0)
def relIn (s:Sec) (r:Rel):Bool:=
 if codeB r.kind then decide (s.kind=0)&&decB s.bytes r.at_&&(opsL r.kind).contains (byteAt s.bytes r.at_.toNat)
 else decide (s.kind=1)&&decide ((widthI r.kind:Int)≤s.align)
def relB (o:Ob) (r:Rel):Bool:=relHead o r&&match secAt o r.sec with | some s=>relFit s r&&relIn s r | none=>false
def relOrd (a b:Rel):Bool:=decide (a.sec<b.sec) || decide (a.sec=b.sec)&&decide (a.at_+widthI a.kind≤b.at_)
def relsB (o:Ob):Bool:=o.rels.all (relB o)&&pairsB relOrd o.rels
def ltB (a b:Int):Bool:=decide (a<b)
def grpB (o:Ob) (g:Grp):Bool:=nameB g.name&&decide (g.secs.length≠0)&&g.secs.all (fun s=>inB s o.secs.length)&&pairsB ltB g.secs
def groupsB (o:Ob):Bool:=o.groups.all (grpB o)&&distB Grp.name o.groups&&distB (fun s:Int=>s) (o.groups.flatMap Grp.secs)
def iniB (o:Ob) (i:Ini):Bool:=symKB o i.sym 0&&decide (-1048576≤i.order)&&decide (i.order≤1048576)
def initsB (o:Ob):Bool:=o.inits.all (iniB o)
def lineR (n:Int):Bool:=decide (1≤n)&&decide (n≤1048576)
def lneB (o:Ob) (l:Lne):Bool:=isB o l.sec [0]&&inB l.at_ (sizeAt o l.sec)&&decide (l.at_%8=0)&&fileB l.file&&lineR l.line
def lneOrd (a b:Lne):Bool:=decide (a.sec<b.sec) || decide (a.sec=b.sec)&&decide (a.at_<b.at_)
def linesB (o:Ob):Bool:=o.lines.all (lneB o)&&pairsB lneOrd o.lines
def spanB (o:Ob) (sec a b:Int):Bool:=isB o sec [0]&&decide (0≤a)&&decide (a<b)&&decide (b≤sizeAt o sec)&&decide (a%8=0)&&decide (b%8=0)
def inlB (o:Ob) (x:Inl):Bool:=spanB o x.sec x.from_ x.to_&&nameB x.name&&fileB x.file&&lineR x.line
def inlOrd (a b:Inl):Bool:=decide (a.sec<b.sec) || decide (a.sec=b.sec)&&(decide (a.from_<b.from_) || decide (a.from_=b.from_)&&decide (b.to_≤a.to_))
def inlPop (x:Inl) (st:List Inl):List Inl:=st.dropWhile fun a=>decide (a.sec≠x.sec) || decide (a.to_≤x.from_)
def inlTop (x:Inl):List Inl→Bool
 | []=>true
 | a::_=>decide (x.to_≤a.to_)
def inlNest:List Inl→List Inl→Bool
 | _,[]=>true
 | st,x::l=>inlTop x (inlPop x st)&&inlNest (x::inlPop x st) l
def inlinesB (o:Ob):Bool:=o.inlines.all (inlB o)&&pairsB inlOrd o.inlines&&inlNest [] o.inlines
def whereB (o:Ob) (v:Vrr):Bool:=if v.where_=0 then inB v.n 16 else if v.where_=1 then inB v.n 1024&&decide (v.n%8=0) else if v.where_=2 then symKB o v.n 1 else false
def vrrB (o:Ob) (v:Vrr):Bool:=spanB o v.sec v.from_ v.to_&&nameB v.name&&whereB o v
def cmpI (a b:Int):Int:=if a<b then -1 else if b<a then 1 else 0
def vrrOrd (a b:Vrr):Bool:=decide (a.sec<b.sec) || decide (a.sec=b.sec)&&(decide (a.from_<b.from_) || decide (a.from_=b.from_)&&(decide (a.to_<b.to_) || decide (a.to_=b.to_)&&decide (a.name.data.toList<b.name.data.toList)))
def varsB (o:Ob):Bool:=o.vars.all (vrrB o)&&pairsB vrrOrd o.vars
def depB (o:Ob) (d:Dep):Bool:=spanB o d.sec d.from_ d.to_&&inB d.bytes 1024&&decide (d.bytes%8=0)
def depOrd (a b:Dep):Bool:=decide (a.sec<b.sec) || decide (a.sec=b.sec)&&decide (a.to_≤b.from_)
def depthsB (o:Ob):Bool:=o.depths.all (depB o)&&pairsB depOrd o.depths
def fitsP (at_ n size:Int):Bool:=decide (0≤at_)&&decide (1≤n)&&decide (n≤size)&&decide (at_≤size-n)
def pceB (z:Int) (p:Pce):Bool:=fitsP p.from_ p.size 1048576&&fitsP p.to_ p.size z
def pceOrd (a b:Pce):Bool:=decide (a.to_+a.size≤b.to_)
def cnvB (o:Ob) (c:Cnv):Bool:=isB o c.sec [1]&&decide (c.from_.size=32)&&(decide (c.code= -1) || symKB o c.code 0)&&c.pieces.all (pceB (sizeAt o c.sec))&&pairsB pceOrd c.pieces
def cnvOrd (a b:Cnv):Bool:=decide (a.sec<b.sec) || decide (a.sec=b.sec)&&decide (a.from_.data.toList<b.from_.data.toList)
def convertsB (o:Ob):Bool:=o.converts.all (cnvB o)&&pairsB cnvOrd o.converts
def rightO (o:Ob):Bool:=secsB o&&symsB o&&relsB o&&groupsB o&&initsB o&&linesB o&&inlinesB o&&varsB o&&depthsB o&&convertsB o&&nameB o.name
end Go.Proofs.YtfaepbjnpakghaaGreatDoor.W
namespace Go.Proofs.YtfaepbjnpakghaaGreatDoor.W
open Go.RowKit
set_option linter.unusedVariables false
def aggA (cs:List Value):Value:= .agg cs.toArray
def oneA (cs:List Value):Value:=cs.headD undef
structure FnV {α:Type} (A:List Value→Value) (E:World→List Value→α→Prop) (f:α→Value) (xs:List α) (w:World) (g:Nat) (lb:Array Value):Prop where
 ent:Enters Tryz.prog g
 at_:∀x∈xs,∀w',Below w.heap.size w w'→∀cs,E w' cs x→Calls Tryz.prog g (#[A cs]++lb) w' fun e w2=>e= .returned (f x)∧Below w'.heap.size w' w2
theorem FnV.below {α:Type} {A:List Value→Value} {E:World→List Value→α→Prop} {f:α→Value} {xs:List α} {w w':World} {g:Nat} {lb:Array Value} (h:FnV A E f xs w g lb) (hb:Below w.heap.size w w'):FnV A E f xs w' g lb:=
 ⟨h.ent,fun x hx w2 hb2 cs hE=>h.at_ x hx w2 (hb.trans (hb2.mono hb.size)) cs hE⟩
structure FnV2 {α:Type} (A:List Value→Value) (E:World→List Value→α→Prop) (p:α→α→Bool) (xs:List α) (w:World) (g:Nat) (lb:Array Value):Prop where
 ent:Enters Tryz.prog g
 at_:∀x∈xs,∀y∈xs,∀w',Below w.heap.size w w'→∀cs ds,E w' cs x→E w' ds y→Calls Tryz.prog g (#[A cs,A ds]++lb) w' fun e w2=>e= .returned (.bool (p x y))∧Below w'.heap.size w' w2
theorem FnV2.below {α:Type} {A:List Value→Value} {E:World→List Value→α→Prop} {p:α→α→Bool} {xs:List α} {w w':World} {g:Nat} {lb:Array Value} (h:FnV2 A E p xs w g lb) (hb:Below w.heap.size w w'):FnV2 A E p xs w' g lb:=
 ⟨h.ent,fun x hx y hy w2 hb2 cs ds hE hD=>h.at_ x hx y hy w2 (hb.trans (hb2.mono hb.size)) cs ds hE hD⟩
theorem below_alloc (w:World) (o:Obj):Below w.heap.size w (w.alloc o):=Below.alloc (Below.refl _ _) (Nat.le_refl _) o
theorem below_first {w w2:World} {o:Obj} (h:Below (w.alloc o).heap.size (w.alloc o) w2):Below w.heap.size w w2:=(below_alloc w o).trans (h.mono (below_alloc w o).size)
def idxP {α:Type} (p:α→Bool) (xs:List α):Int:=if xs.any p then(xs.findIdx p:Int) else -1
theorem idxP_hit {α:Type} {p:α→Bool} {xs:List α} {k:Nat} (h:k<xs.length) (he:p xs[k]=true) (hall:∀j (h:j<xs.length),j<k→p xs[j]=false):idxP p xs=(k:Int):=by
 have e:xs.findIdx p=k:=by
  rw[List.findIdx_eq h]
  exact⟨he,fun j hj=>hall j (by omega) hj⟩
 have:xs.any p=true:=List.any_eq_true.2 ⟨xs[k],List.getElem_mem h,he⟩
 unfold idxP
 rw[if_pos this,e]
theorem idxP_miss {α:Type} {p:α→Bool} {xs:List α} (hall:∀j (h:j<xs.length),p xs[j]=false):idxP p xs= -1:=by
 unfold idxP
 rw[if_neg]
 intro h
 obtain⟨x,hx,hp⟩:=List.any_eq_true.1 h
 obtain⟨j,hj,rfl⟩:=List.getElem_of_mem hx
 rw[hall j hj] at hp;cases hp
theorem idxP_any {α:Type} (p:α→Bool) (xs:List α):decide (0≤idxP p xs)=xs.any p:=by
 unfold idxP
 cases xs.any p<;>simp
theorem any_all {α:Type} (p:α→Bool) (xs:List α):(!(xs.any fun x=> !p x))=xs.all p:=by
 rw[Bool.eq_iff_iff]
 simp
theorem len1 {l:List Value} (h:l.length=1):∃a,l=[a]:=match l,h with | [a],_=>⟨a,rfl⟩
theorem len2 {l:List Value} (h:l.length=2):∃a b,l=[a,b]:=match l,h with | [a,b],_=>⟨a,b,rfl⟩
theorem len3 {l:List Value} (h:l.length=3):∃a b c,l=[a,b,c]:=match l,h with | [a,b,c],_=>⟨a,b,c,rfl⟩
theorem len4 {l:List Value} (h:l.length=4):∃a b c d,l=[a,b,c,d]:=match l,h with | [a,b,c,d],_=>⟨a,b,c,d,rfl⟩
theorem len5 {l:List Value} (h:l.length=5):∃a b c d e,l=[a,b,c,d,e]:=match l,h with | [a,b,c,d,e],_=>⟨a,b,c,d,e,rfl⟩
theorem len6 {l:List Value} (h:l.length=6):∃a b c d e f,l=[a,b,c,d,e,f]:=match l,h with | [a,b,c,d,e,f],_=>⟨a,b,c,d,e,f,rfl⟩
theorem len10 {l:List Value} (h:l.length=10):∃a b c d e f g i j k,l=[a,b,c,d,e,f,g,i,j,k]:=match l,h with | [a,b,c,d,e,f,g,i,j,k],_=>⟨a,b,c,d,e,f,g,i,j,k,rfl⟩
theorem clx10 {w:World} {g o:Nat} {cs:List Value} (hl:cs.length=10) (hc:∀i u,cs[i]? =some u→w.cell? ⟨g,o+i,none⟩=some u):∃a0 a1 a2 a3 a4 a5 a6 a7 a8 a9,cs=[a0,a1,a2,a3,a4,a5,a6,a7,a8,a9]∧w.cell? ⟨g,o,none⟩=some a0∧w.cell? ⟨g,o+1,none⟩=some a1∧w.cell? ⟨g,o+2,none⟩=some a2∧w.cell? ⟨g,o+3,none⟩=some a3∧w.cell? ⟨g,o+4,none⟩=some a4∧w.cell? ⟨g,o+5,none⟩=some a5∧w.cell? ⟨g,o+6,none⟩=some a6∧w.cell? ⟨g,o+7,none⟩=some a7∧w.cell? ⟨g,o+8,none⟩=some a8∧w.cell? ⟨g,o+9,none⟩=some a9:=by
 obtain⟨a0,a1,a2,a3,a4,a5,a6,a7,a8,a9,rfl⟩:=len10 hl
 exact⟨a0,a1,a2,a3,a4,a5,a6,a7,a8,a9,rfl,hc 0 _ rfl,hc 1 _ rfl,hc 2 _ rfl,hc 3 _ rfl,hc 4 _ rfl,hc 5 _ rfl,hc 6 _ rfl,hc 7 _ rfl,hc 8 _ rfl,hc 9 _ rfl⟩
theorem clx6 {w:World} {g o:Nat} {cs:List Value} (hl:cs.length=6) (hc:∀i u,cs[i]? =some u→w.cell? ⟨g,o+i,none⟩=some u):∃a0 a1 a2 a3 a4 a5,cs=[a0,a1,a2,a3,a4,a5]∧w.cell? ⟨g,o,none⟩=some a0∧w.cell? ⟨g,o+1,none⟩=some a1∧w.cell? ⟨g,o+2,none⟩=some a2∧w.cell? ⟨g,o+3,none⟩=some a3∧w.cell? ⟨g,o+4,none⟩=some a4∧w.cell? ⟨g,o+5,none⟩=some a5:=by
 obtain⟨a0,a1,a2,a3,a4,a5,rfl⟩:=len6 hl
 exact⟨a0,a1,a2,a3,a4,a5,rfl,hc 0 _ rfl,hc 1 _ rfl,hc 2 _ rfl,hc 3 _ rfl,hc 4 _ rfl,hc 5 _ rfl⟩
theorem clx5 {w:World} {g o:Nat} {cs:List Value} (hl:cs.length=5) (hc:∀i u,cs[i]? =some u→w.cell? ⟨g,o+i,none⟩=some u):∃a0 a1 a2 a3 a4,cs=[a0,a1,a2,a3,a4]∧w.cell? ⟨g,o,none⟩=some a0∧w.cell? ⟨g,o+1,none⟩=some a1∧w.cell? ⟨g,o+2,none⟩=some a2∧w.cell? ⟨g,o+3,none⟩=some a3∧w.cell? ⟨g,o+4,none⟩=some a4:=by
 obtain⟨a0,a1,a2,a3,a4,rfl⟩:=len5 hl
 exact⟨a0,a1,a2,a3,a4,rfl,hc 0 _ rfl,hc 1 _ rfl,hc 2 _ rfl,hc 3 _ rfl,hc 4 _ rfl⟩
theorem clx4 {w:World} {g o:Nat} {cs:List Value} (hl:cs.length=4) (hc:∀i u,cs[i]? =some u→w.cell? ⟨g,o+i,none⟩=some u):∃a0 a1 a2 a3,cs=[a0,a1,a2,a3]∧w.cell? ⟨g,o,none⟩=some a0∧w.cell? ⟨g,o+1,none⟩=some a1∧w.cell? ⟨g,o+2,none⟩=some a2∧w.cell? ⟨g,o+3,none⟩=some a3:=by
 obtain⟨a0,a1,a2,a3,rfl⟩:=len4 hl
 exact⟨a0,a1,a2,a3,rfl,hc 0 _ rfl,hc 1 _ rfl,hc 2 _ rfl,hc 3 _ rfl⟩
theorem clx3 {w:World} {g o:Nat} {cs:List Value} (hl:cs.length=3) (hc:∀i u,cs[i]? =some u→w.cell? ⟨g,o+i,none⟩=some u):∃a0 a1 a2,cs=[a0,a1,a2]∧w.cell? ⟨g,o,none⟩=some a0∧w.cell? ⟨g,o+1,none⟩=some a1∧w.cell? ⟨g,o+2,none⟩=some a2:=by
 obtain⟨a0,a1,a2,rfl⟩:=len3 hl
 exact⟨a0,a1,a2,rfl,hc 0 _ rfl,hc 1 _ rfl,hc 2 _ rfl⟩
theorem clx2 {w:World} {g o:Nat} {cs:List Value} (hl:cs.length=2) (hc:∀i u,cs[i]? =some u→w.cell? ⟨g,o+i,none⟩=some u):∃a0 a1,cs=[a0,a1]∧w.cell? ⟨g,o,none⟩=some a0∧w.cell? ⟨g,o+1,none⟩=some a1:=by
 obtain⟨a0,a1,rfl⟩:=len2 hl
 exact⟨a0,a1,rfl,hc 0 _ rfl,hc 1 _ rfl⟩
end Go.Proofs.YtfaepbjnpakghaaGreatDoor.W
namespace Go.Proofs.YtfaepbjnpakghaaGreatDoor.W
open Go.RowKit
set_option linter.unusedVariables false
theorem ixI_any (w:World) (v:Value) (l:List Int) (x:Int) (hl:lenR l.length) (h:Rw 1 intE w v l):Calls Tryz.prog 228 #[v, .int .i64 x] w fun e w'=>(∃z:Int,e= .returned (.int .i64 z)∧(0≤z↔x∈l))∧w=w':=by
 obtain⟨p,c,rfl⟩:=h.slice
 have H:=Hd.mk h
 clear h
 unfold lenR at hl
 obtain⟨n,hn⟩:∃n,l.length=n:=⟨_,rfl⟩
 rw[hn] at H hl
 rw[hn]
 have HN:=Hd.mk hn
 clear hn
 go_enter Tryz.func228,Tryz.ntmps228
 go_wp2
 go_loop [8] (fun i=>∃k:Nat,k≤n∧i= .int .i64 k∧∀j z,j<k→l[j]? =some z→z≠x) (fun i=>n-(intOf i).toNat)
 case atStart=>exact⟨0,Nat.zero_le _,rfl,fun j _ hj=>absurd hj (Nat.not_lt_zero _)⟩
 case round=>
  obtain⟨k,hk,rfl,hall⟩:=hrel
  have HA:=Hd.mk hall
  clear hall
  by_cases hlt:k<n
  ·have hd1:decide ((k:Int)< (n:Int))=true:=by simp;omega
   obtain⟨z,hz⟩:∃z,l[k]? =some z:=⟨l[k]'(HN.out▸hlt),List.getElem?_eq_getElem (HN.out▸hlt)⟩
   have hcell:∃g o,p=some ⟨g,o,none⟩∧w.cell? ⟨g,o+k,none⟩=some (.int .i64 z):=by
    obtain⟨g,o,cs,h1,_,_,hE,hc⟩:=H.out.at rfl (j:=k) (HN.out▸hlt)
    have hE':cs=[.int .i64 (l[k]'(HN.out▸hlt))]:=hE
    subst hE'
    rw[List.getElem?_eq_getElem (HN.out▸hlt)] at hz
    cases hz
    have:=hc 0 _ rfl
    rw[Nat.mul_one] at this
    exact⟨g,o,h1,this⟩
   obtain⟨g,o,rfl,hc⟩:=hcell
   have HZ:=Hd.mk hz
   clear hz
   by_cases hx:x=z
   ·have he:(x==z)=true:=by simp[hx]
    have HX:=Hd.mk hx
    clear hx
    go_wp2
    go_ret
    refine⟨⟨_,rfl,?_⟩,rfl⟩
    have:x∈l:=HX.out▸List.mem_of_getElem? HZ.out
    simp[this]
   ·have he:(x==z)=false:=by simp[hx]
    have HX:=Hd.mk hx
    clear hx
    go_wp2
    go_round
    case rel=>exact⟨k+1,hlt,by go_num,fun j y hj hy=>by
     rcases Nat.lt_succ_iff_lt_or_eq.1 hj with h | rfl
     ·exact HA.out j y h hy
     ·rw[HZ.out] at hy;cases hy;exact fun e=>HX.out e.symm⟩
    case measure=>simp[intOf];omega
  ·have hd1:decide ((k:Int)< (n:Int))=false:=by simp;omega
   obtain rfl:n=k:=by omega
   clear hk
   go_wp2
   go_ret
   refine⟨⟨_,rfl,?_⟩,rfl⟩
   have:x∉l:=fun hm=>by
    obtain⟨j,hj,e⟩:=List.getElem_of_mem hm
    exact HA.out j _ (HN.out▸hj) (List.getElem?_eq_getElem hj) e
   simp[this]
theorem ctI_any (w:World) (v:Value) (l:List Int) (x:Int) (hl:lenR l.length) (h:Rw 1 intE w v l):Calls Tryz.prog 155 #[v, .int .i64 x] w fun e w'=>e= .returned (.bool (l.contains x))∧w=w':=by
 have HI:=Hd.mk (ixI_any w v l x hl h)
 clear h
 go_enter Tryz.func155,Tryz.ntmps155
 go_wp2_with fail
 refine HI.out.mono ?_
 rintro e w1 ⟨⟨z,rfl,hz⟩,rfl⟩
 have HZ:=Hd.mk hz
 clear hz
 go_wp2
 go_ret
 refine⟨ret_b ?_,rfl⟩
 rw[Bool.eq_iff_iff,List.contains_iff_mem]
 simp[HZ.out]
theorem name_at (s:ByteArray) (k:Nat) (h:k<s.size):s.data.toList[k]'h=s[k]'h:=rfl
theorem nameB_bad {s:ByteArray} {k:Nat} (h:k<s.size) (hp:nameC (s[k]'h)=false):nameB s=false:=by
 unfold nameB
 rw[all_bad (List.getElem_mem (l:=s.data.toList) (n:=k) h) hp];rfl
theorem fileB_bad {s:ByteArray} {k:Nat} (h:k<s.size) (hp:fileC (s[k]'h)=false):fileB s=false:=by
 unfold fileB
 rw[all_bad (List.getElem_mem (l:=s.data.toList) (n:=k) h) hp];rfl
theorem all_of {p:UInt8→Bool} {s:ByteArray} (h:∀j (h:j<s.size),p (s[j]'h)=true):s.data.toList.all p=true:=by
 rw[List.all_eq_true]
 intro x hx
 obtain⟨j,hj,rfl⟩:=List.getElem_of_mem hx
 exact h j hj
theorem nameB_end {s:ByteArray} (h:∀j (h:j<s.size),nameC (s[j]'h)=true):nameB s=decide (1≤s.size∧s.size≤64):=by
 unfold nameB;rw[all_of h];rfl
theorem fileB_end {s:ByteArray} (h:∀j (h:j<s.size),fileC (s[j]'h)=true):fileB s=decide (1≤s.size∧s.size≤64):=by
 unfold fileB;rw[all_of h];rfl
theorem nonempty_ba {s:ByteArray} (h:¬s.size=0):s.toList.isEmpty=false:=by
 rw[_root_.Go.ByteArray.toList_eq]
 cases hd:s.data.toList with
 | nil=>exact absurd (show s.data.toList.length=0 by rw[hd];rfl) h
 | cons a l=>rfl
theorem ba_empty {s:ByteArray} (h:s.size=0):s=⟨#[]⟩:=by
 cases s with | mk d=>exact congrArg _ (Array.eq_empty_of_size_eq_zero h)
theorem oname_any (s:ByteArray) (w:World) (hs:lenR s.size):Calls Tryz.prog 77 #[.string s] w fun e w'=>e= .returned (.bool (nameB s))∧w=w':=by
 unfold lenR at hs
 go_enter Tryz.func77,Tryz.ntmps77
 go_wp2
 go_loop [6] (fun i=>∃k:Nat,k≤s.size∧i= .int .i64 k∧Hd (∀j (h:j<s.size),j<k→nameC (s[j]'h)=true)) (fun i=>s.size-(intOf i).toNat)
 case atStart=>exact⟨0,Nat.zero_le _,rfl,⟨fun j _ hj=>absurd hj (Nat.not_lt_zero _)⟩⟩
 case round=>
  obtain⟨k,hk,rfl,HA⟩:=hrel
  by_cases hlt:k<s.size
  ·have hd1:decide ((k:Int)< (s.size:Int))=true:=by simp;omega
   have i0:(0:Int)≤(k:Int):=by omega
   have i1:(k:Int)< (s.size:Int):=by omega
   obtain⟨c,hc⟩:∃c,s[k]'hlt=c:=⟨_,rfl⟩
   have HC:=Hd.mk hc
   by_cases h1:c.toNat<33
   ·have t1:decide ((c.toNat:Int)<33)=true:=by simp;omega
    have HB:=Hd.mk (nameB_bad hlt (by rw[HC.out];unfold nameC;exact decide_eq_false (by omega)))
    go_wp2
    go_ret
    exact⟨ret_b HB.out.symm,rfl⟩
   ·have t1:decide ((c.toNat:Int)<33)=false:=by simp;omega
    by_cases h0:126<c.toNat
    ·have t0:decide ((126:Int)< (c.toNat:Int))=true:=by simp;omega
     have HB:=Hd.mk (nameB_bad hlt (by rw[HC.out];unfold nameC;exact decide_eq_false (by omega)))
     go_wp2
     go_ret
     exact⟨ret_b HB.out.symm,rfl⟩
    ·have t0:decide ((126:Int)< (c.toNat:Int))=false:=by simp;omega
     have HG:Hd (nameC c=true):=⟨by unfold nameC;exact decide_eq_true (by omega)⟩
     go_wp2
     go_round
     case rel=>exact⟨k+1,hlt,by go_num,⟨fun j h hj=>by
      rcases Nat.lt_succ_iff_lt_or_eq.1 hj with h' | rfl
      ·exact HA.out j h h'
      ·rw[HC.out];exact HG.out⟩⟩
     case measure=>simp[intOf];omega
  ·have hd1:decide ((k:Int)< (s.size:Int))=false:=by simp;omega
   have HE:=Hd.mk (nameB_end (fun j h=>HA.out j h (by omega)))
   by_cases h0:s.size=0
   ·obtain rfl:=ba_empty h0
    go_wp2
    go_ret
    exact⟨ret_b HE.out.symm,rfl⟩
   ·have hne:s.toList.isEmpty=false:=nonempty_ba h0
    go_wp2
    go_ret
    exact⟨ret_b (by rw[HE.out,Bool.eq_iff_iff];simp;omega),rfl⟩
theorem ofile_any (s:ByteArray) (w:World) (hs:lenR s.size):Calls Tryz.prog 171 #[.string s] w fun e w'=>e= .returned (.bool (fileB s))∧w=w':=by
 unfold lenR at hs
 go_enter Tryz.func171,Tryz.ntmps171
 go_wp2
 go_loop [6] (fun i=>∃k:Nat,k≤s.size∧i= .int .i64 k∧Hd (∀j (h:j<s.size),j<k→fileC (s[j]'h)=true)) (fun i=>s.size-(intOf i).toNat)
 case atStart=>exact⟨0,Nat.zero_le _,rfl,⟨fun j _ hj=>absurd hj (Nat.not_lt_zero _)⟩⟩
 case round=>
  obtain⟨k,hk,rfl,HA⟩:=hrel
  by_cases hlt:k<s.size
  ·have hd1:decide ((k:Int)< (s.size:Int))=true:=by simp;omega
   have i0:(0:Int)≤(k:Int):=by omega
   have i1:(k:Int)< (s.size:Int):=by omega
   obtain⟨c,hc⟩:∃c,s[k]'hlt=c:=⟨_,rfl⟩
   have HC:=Hd.mk hc
   by_cases h3:c.toNat<32
   ·have t3:decide ((c.toNat:Int)<32)=true:=by simp;omega
    have HB:=Hd.mk (fileB_bad hlt (by rw[HC.out];unfold fileC;exact decide_eq_false (by omega)))
    go_wp2
    go_ret
    exact⟨ret_b HB.out.symm,rfl⟩
   ·have t3:decide ((c.toNat:Int)<32)=false:=by simp;omega
    by_cases h2:126<c.toNat
    ·have t2:decide ((126:Int)< (c.toNat:Int))=true:=by simp;omega
     have HB:=Hd.mk (fileB_bad hlt (by rw[HC.out];unfold fileC;exact decide_eq_false (by omega)))
     go_wp2
     go_ret
     exact⟨ret_b HB.out.symm,rfl⟩
    ·have t2:decide ((126:Int)< (c.toNat:Int))=false:=by simp;omega
     by_cases h1:c.toNat=34
     ·have t1:((c.toNat:Int)==34)=true:=by simp;omega
      have HB:=Hd.mk (fileB_bad hlt (by rw[HC.out];unfold fileC;exact decide_eq_false (by omega)))
      go_wp2
      go_ret
      exact⟨ret_b HB.out.symm,rfl⟩
     ·have t1:((c.toNat:Int)==34)=false:=by simp;omega
      by_cases h0:c.toNat=92
      ·have t0:((c.toNat:Int)==92)=true:=by simp;omega
       have HB:=Hd.mk (fileB_bad hlt (by rw[HC.out];unfold fileC;exact decide_eq_false (by omega)))
       go_wp2
       go_ret
       exact⟨ret_b HB.out.symm,rfl⟩
      ·have t0:((c.toNat:Int)==92)=false:=by simp;omega
       have HG:Hd (fileC c=true):=⟨by unfold fileC;exact decide_eq_true (by omega)⟩
       go_wp2
       go_round
       case rel=>exact⟨k+1,hlt,by go_num,⟨fun j h hj=>by
        rcases Nat.lt_succ_iff_lt_or_eq.1 hj with h' | rfl
        ·exact HA.out j h h'
        ·rw[HC.out];exact HG.out⟩⟩
       case measure=>simp[intOf];omega
  ·have hd1:decide ((k:Int)< (s.size:Int))=false:=by simp;omega
   have HE:=Hd.mk (fileB_end (fun j h=>HA.out j h (by omega)))
   by_cases h0:s.size=0
   ·obtain rfl:=ba_empty h0
    go_wp2
    go_ret
    exact⟨ret_b HE.out.symm,rfl⟩
   ·have hne:s.toList.isEmpty=false:=nonempty_ba h0
    go_wp2
    go_ret
    exact⟨ret_b (by rw[HE.out,Bool.eq_iff_iff];simp;omega),rfl⟩
end Go.Proofs.YtfaepbjnpakghaaGreatDoor.W
namespace Go.Proofs.YtfaepbjnpakghaaGreatDoor.W
open Go.RowKit
set_option linter.unusedVariables false
abbrev Ob.arr (o:Ob) (x1 x2 x3 x4 x5 x6 x7 x8 x9 x10:Value):Array Value:= #[.string o.name,x1,x2,x3,x4,x5,x6,x7,x8,x9,x10]
theorem Ob.arr_eq (o:Ob) (x1 x2 x3 x4 x5 x6 x7 x8 x9 x10:Value):(o.cells x1 x2 x3 x4 x5 x6 x7 x8 x9 x10).toArray=o.arr x1 x2 x3 x4 x5 x6 x7 x8 x9 x10:=rfl
theorem is_out {o:Ob} {i:Int} {ks:List Int} (h:¬(0≤i∧i< (o.secs.length:Int))):isB o i ks=false:=by
 unfold isB;rw[secAt_out (by omega)]
theorem is_in {o:Ob} {k:Nat} {ks:List Int} (h:k<o.secs.length):isB o (k:Int) ks=ks.contains o.secs[k].kind:=by
 unfold isB;rw[secAt_in h]
theorem ois_any (w:World) (o:Ob) (x1 x2 x3 x4 x5 x6 x7 x8 x9 x10:Value) (i:Int) (kv:Value) (ks:List Int) (hA:o.At w x1 x2 x3 x4 x5 x6 x7 x8 x9 x10) (hl:lenR o.secs.length) (hk:Rw 1 intE w kv ks) (hkl:lenR ks.length):
 Calls Tryz.prog 148 #[.agg (o.arr x1 x2 x3 x4 x5 x6 x7 x8 x9 x10), .int .i64 i,kv] w fun e w'=>e= .returned (.bool (isB o i ks))∧Below w.heap.size w w':=by
 have hS:=hA.secs
 obtain⟨p,c,rfl⟩:=hS.slice
 obtain⟨N,hN⟩:∃N,o.secs.length=N:=⟨_,rfl⟩
 unfold lenR at hl
 rw[hN] at hl⊢
 unfold Ob.arr
 by_cases hin:0≤i∧i< (N:Int)
 ·obtain⟨k,rfl⟩:=Int.eq_ofNat_of_zero_le hin.1
  have hk1:k<N:=by omega
  obtain⟨g,of,cs,rfl,hg,hcl,hE,hc⟩:=hS.at rfl (j:=k) (by omega)
  have hB:Hd (isB o (k:Int) ks=ks.contains o.secs[k].kind):=⟨is_in (by omega)⟩
  obtain⟨s,hs⟩:∃s,o.secs[k]=s:=⟨_,rfl⟩
  rw[hs] at hE hB
  have hE':cs=s.cells:=hE
  subst hE'
  have c1:∀ob,(w.alloc ob).cell? ⟨g,of+k*6+1,none⟩=some (.int .i64 s.kind):=fun ob=>by rw[(below_alloc w ob).cell (p:=⟨g,_,none⟩) hg];exact hc 1 _ rfl
  have hd:decide (0≤(k:Int)∧(k:Int)< (N:Int))=true:=by simp;omega
  have HW:=Hd.mk (fun w=>owithin_any (k:Int) (N:Int) w)
  have HC:=Hd.mk (fun ob=>ctI_any (w.alloc ob) kv ks s.kind hkl (hk.below intE_stays (below_alloc w ob)))
  rw[hd] at HW
  have i1:(0:Int)≤(k:Int):=by omega
  have i2:(k:Int)< (N:Int):=by omega
  clear hc hE hA hS hs hd hN hin hk
  go_enter Tryz.func148,Tryz.ntmps148
  go_wp2_with fail
  refine(HW.out _).mono ?_;rintro e w1 ⟨rfl,rfl⟩
  go_wp2_with fail
  refine(HC.out _).mono ?_;rintro e w1 ⟨rfl,rfl⟩
  go_wp2
  go_ret
  exact⟨ret_b (by rw[hB.out,List.contains_eq_mem]),by go_grown⟩
 ·have hB:Hd (isB o i ks=false):=⟨is_out (by rw[hN];exact hin)⟩
  have hd:decide (0≤i∧i< (N:Int))=false:=decide_eq_false hin
  have HW:=Hd.mk (fun w=>owithin_any i (N:Int) w)
  rw[hd] at HW
  clear hA hS hd hN hin hk
  go_enter Tryz.func148,Tryz.ntmps148
  go_wp2_with fail
  refine(HW.out _).mono ?_;rintro e w1 ⟨rfl,rfl⟩
  go_wp2
  go_ret
  exact⟨ret_b hB.out.symm,by go_grown⟩
theorem symK_out {o:Ob} {i k:Int} (h:¬(0≤i∧i< (o.syms.length:Int))):symKB o i k=false:=by
 unfold symKB symAt
 by_cases h0:0≤i
 ·rw[if_pos h0,List.getElem?_eq_none (by omega)]
 ·rw[if_neg h0]
theorem symK_in {o:Ob} {k:Nat} {kd:Int} (h:k<o.syms.length):symKB o (k:Int) kd=decide (o.syms[k].kind=kd):=by
 unfold symKB symAt
 rw[if_pos (by omega),Int.toNat_natCast,List.getElem?_eq_getElem h]
theorem osym_any (w:World) (o:Ob) (x1 x2 x3 x4 x5 x6 x7 x8 x9 x10:Value) (i kd:Int) (hA:o.At w x1 x2 x3 x4 x5 x6 x7 x8 x9 x10) (hl:lenR o.syms.length):
 Calls Tryz.prog 169 #[.agg (o.arr x1 x2 x3 x4 x5 x6 x7 x8 x9 x10), .int .i64 i, .int .i64 kd] w fun e w'=>e= .returned (.bool (symKB o i kd))∧Below w.heap.size w w':=by
 have hS:=hA.syms
 obtain⟨p,c,rfl⟩:=hS.slice
 obtain⟨N,hN⟩:∃N,o.syms.length=N:=⟨_,rfl⟩
 unfold lenR at hl
 rw[hN] at hl⊢
 unfold Ob.arr
 by_cases hin:0≤i∧i< (N:Int)
 ·obtain⟨k,rfl⟩:=Int.eq_ofNat_of_zero_le hin.1
  have hk1:k<N:=by omega
  obtain⟨g,of,cs,rfl,hg,hcl,hE,hc⟩:=hS.at rfl (j:=k) (by omega)
  have hB:Hd (symKB o (k:Int) kd=decide (o.syms[k].kind=kd)):=⟨symK_in (by omega)⟩
  obtain⟨s,hs⟩:∃s,o.syms[k]=s:=⟨_,rfl⟩
  rw[hs] at hE hB
  have hE':cs=s.cells:=hE
  subst hE'
  have c1:∀ob,(w.alloc ob).cell? ⟨g,of+k*10+5,none⟩=some (.int .i64 s.kind):=fun ob=>by rw[(below_alloc w ob).cell (p:=⟨g,_,none⟩) hg];exact hc 5 _ rfl
  have hd:decide (0≤(k:Int)∧(k:Int)< (N:Int))=true:=by simp;omega
  have HW:=Hd.mk (fun w=>owithin_any (k:Int) (N:Int) w)
  rw[hd] at HW
  have i1:(0:Int)≤(k:Int):=by omega
  have i2:(k:Int)< (N:Int):=by omega
  clear hc hE hA hS hs hd hN hin
  go_enter Tryz.func169,Tryz.ntmps169
  go_wp2_with fail
  refine(HW.out _).mono ?_;rintro e w1 ⟨rfl,rfl⟩
  go_wp2
  go_ret
  exact⟨ret_b (by rw[hB.out,Bool.eq_iff_iff];simp),by go_grown⟩
 ·have hB:Hd (symKB o i kd=false):=⟨symK_out (by rw[hN];exact hin)⟩
  have hd:decide (0≤i∧i< (N:Int))=false:=decide_eq_false hin
  have HW:=Hd.mk (fun w=>owithin_any i (N:Int) w)
  rw[hd] at HW
  clear hA hS hd hN hin
  go_enter Tryz.func169,Tryz.ntmps169
  go_wp2_with fail
  refine(HW.out _).mono ?_;rintro e w1 ⟨rfl,rfl⟩
  go_wp2
  go_ret
  exact⟨ret_b hB.out.symm,by go_grown⟩
theorem okinds_any (k:Int) (w:World):Calls Tryz.prog 149 #[.int .i64 k] w fun e w'=>(∃v,e= .returned v∧Rw 1 intE w' v (kindsL k))∧Below w.heap.size w w':=by
 by_cases h0:k=0
 ·subst h0
  go_enter Tryz.func149,Tryz.ntmps149
  go_wp2
  go_ret
  exact⟨⟨_,rfl,Rw.ints (ks:=[0]) (Blk.new w 3 [.int .i64 0])⟩,by go_grown⟩
 ·by_cases h1:k=1
  ·subst h1
   go_enter Tryz.func149,Tryz.ntmps149
   go_wp2
   go_ret
   exact⟨⟨_,rfl,Rw.ints (ks:=[1,2]) (Blk.new w 3 [.int .i64 1, .int .i64 2])⟩,by go_grown⟩
  ·have d0:(k==0)=false:=by simpa using h0
   have d1:(k==1)=false:=by simpa using h1
   have hL:Hd (kindsL k=[3,4]):=⟨by unfold kindsL;rw[if_neg h0,if_neg h1]⟩
   go_enter Tryz.func149,Tryz.ntmps149
   go_wp2
   go_ret
   exact⟨⟨_,rfl,hL.out▸Rw.ints (ks:=[3,4]) (Blk.new w 3 [.int .i64 3, .int .i64 4])⟩,by go_grown⟩
theorem mod8 (a:Int):decide (a%8=0)=(a.tmod 8==0):=by
 rw[Bool.eq_iff_iff,decide_eq_true_eq,beq_iff_eq]
 exact⟨fun h=>Int.tmod_eq_zero_of_dvd (Int.dvd_of_emod_eq_zero h),fun h=>Int.emod_eq_zero_of_dvd (Int.dvd_of_tmod_eq_zero h)⟩
theorem rowAt (w:World) (ob:Obj) (z:Int):Rw 1 intE ((w.alloc ob).alloc (.cells #[.int .i64 z] 3)) (.slice (some ⟨w.heap.size+1,0,none⟩) 1 1) [z]:=by
 have:=Rw.ints (ks:=[z]) (cap:=1) (Blk.new (w.alloc ob) 3 [.int .i64 z])
 rwa [show(w.alloc ob).heap.size=w.heap.size+1 from by simp] at this
theorem owithinB (n u:Int) (w:World):Calls Tryz.prog 122 #[.int .i64 n, .int .i64 u] w fun e w'=>e= .returned (.bool (inB n u))∧w=w':=owithin_any n u w
theorem rowD (w:World) (ob:Obj) (z:Int):Rw 1 intE ((w.alloc ob).alloc (.cells #[.int .i64 z] 3)).drew (.slice (some ⟨w.heap.size+1,0,none⟩) 1 1) [z]:=(rowAt w ob z).below intE_stays (Below.drew (Below.refl _ _))
structure ObC (w:World) (b:Nat) (o:Ob) (x1 x2 x3 x4 x5 x6 x7 x8 x9 x10:Value):Prop where
 c0:w.cell? ⟨b,0,none⟩=some (.string o.name)
 c1:w.cell? ⟨b,1,none⟩=some x1
 c2:w.cell? ⟨b,2,none⟩=some x2
 c3:w.cell? ⟨b,3,none⟩=some x3
 c4:w.cell? ⟨b,4,none⟩=some x4
 c5:w.cell? ⟨b,5,none⟩=some x5
 c6:w.cell? ⟨b,6,none⟩=some x6
 c7:w.cell? ⟨b,7,none⟩=some x7
 c8:w.cell? ⟨b,8,none⟩=some x8
 c9:w.cell? ⟨b,9,none⟩=some x9
 c10:w.cell? ⟨b,10,none⟩=some x10
theorem ObC.below {w w':World} {b:Nat} {o:Ob} {x1 x2 x3 x4 x5 x6 x7 x8 x9 x10:Value} (h:ObC w b o x1 x2 x3 x4 x5 x6 x7 x8 x9 x10) (hb:Below w.heap.size w w'):ObC w' b o x1 x2 x3 x4 x5 x6 x7 x8 x9 x10:=
 have hlt:=World.block_lt_of_cell? w _ h.c0
 ⟨(hb.cell (p:=⟨b,0,none⟩) hlt).trans h.c0,(hb.cell (p:=⟨b,1,none⟩) hlt).trans h.c1,(hb.cell (p:=⟨b,2,none⟩) hlt).trans h.c2,(hb.cell (p:=⟨b,3,none⟩) hlt).trans h.c3,(hb.cell (p:=⟨b,4,none⟩) hlt).trans h.c4,(hb.cell (p:=⟨b,5,none⟩) hlt).trans h.c5,(hb.cell (p:=⟨b,6,none⟩) hlt).trans h.c6,(hb.cell (p:=⟨b,7,none⟩) hlt).trans h.c7,(hb.cell (p:=⟨b,8,none⟩) hlt).trans h.c8,(hb.cell (p:=⟨b,9,none⟩) hlt).trans h.c9,(hb.cell (p:=⟨b,10,none⟩) hlt).trans h.c10⟩
theorem ObC.alloc {w:World} {b:Nat} {o:Ob} {x1 x2 x3 x4 x5 x6 x7 x8 x9 x10:Value} (h:ObC w b o x1 x2 x3 x4 x5 x6 x7 x8 x9 x10) (ob:Obj):ObC (w.alloc ob) b o x1 x2 x3 x4 x5 x6 x7 x8 x9 x10:=h.below (below_alloc w ob)
theorem sizeAt_in {o:Ob} {k:Nat} (h:k<o.secs.length):sizeAt o (k:Int)=o.secs[k].size:=by
 unfold sizeAt;rw[secAt_in h]
end Go.Proofs.YtfaepbjnpakghaaGreatDoor.W
namespace Go.Proofs.YtfaepbjnpakghaaGreatDoor.W
open Go.RowKit
set_option linter.unusedVariables false
set_option linter.unusedSimpArgs false
def exSec (al:Int):Sec:=⟨⟨#[120]⟩,1,al,8,⟨#[0,0,0,0,0,0,0,0]⟩,false⟩
def exSym:Sym:=⟨⟨#[112]⟩,⟨#[]⟩,false,1,0,1,-1,0,0,0⟩
def exRel (at_:Int):Rel:=⟨0,at_,0,0,0⟩
def exOb (al at_:Int):Ob:=⟨⟨#[97]⟩,[exSec al],[exSym],[exRel at_],[],[],[],[],[],[],[]⟩
abbrev exArr (b:Nat):Array Value:= #[.string ⟨#[97]⟩, .slice (some ⟨b,0,none⟩) 1 1, .slice (some ⟨b+1,0,none⟩) 1 1, .slice (some ⟨b+2,0,none⟩) 1 1, .slice none 0 0, .slice none 0 0, .slice none 0 0, .slice none 0 0, .slice none 0 0, .slice none 0 0, .slice none 0 0]
structure ExAt (w:World) (b:Nat) (al at_:Int):Prop where
 secs:Blk w b 47 (exSec al).cells
 syms:Blk w (b+1) 55 exSym.cells
 rels:Blk w (b+2) 50 (exRel at_).cells
theorem Blk.new' {W:World} {b:Nat} {T:TypeId} (vs:List Value) (h:W.heap.size=b):Blk (W.alloc (.cells vs.toArray T)) b T vs:=h▸Blk.new W T vs
set_option maxHeartbeats 4000000 in
set_option maxRecDepth 100000 in
theorem example_any (w:World):Calls Tryz.prog 30 #[] w fun e w'=>e= .returned (.agg (exArr (w.heap.size+1)))∧ExAt w' (w.heap.size+1) 8 0∧w'.heap.size=w.heap.size+4∧Below w.heap.size w w':=by
 go_enter Tryz.func30,Tryz.ntmps30
 go_wp2_with fail
 refine bodyPost_ret (results_cell_row rfl _ _ w.heap.size 33 _ (0,0) _ rfl ((((Blk.new w 33 (exArr (w.heap.size+1)).toList).alloc _).alloc _).alloc _).is Tryz.underlying33 rfl (by kernel_rfl)) rfl ?_
 refine⟨rfl,⟨((Blk.new' _ (by simp)).alloc _).alloc _,(Blk.new' _ (by simp)).alloc _,Blk.new' _ (by simp)⟩,by simp,by go_grown⟩
theorem ExAt.below {w w':World} {b:Nat} {al at_:Int} (h:ExAt w b al at_) {B:Nat} (k:Below B w w') (hb:b+2<B):ExAt w' b al at_:=
 ⟨h.secs.below k (by omega),h.syms.below k (by omega),h.rels.below k hb⟩
theorem ExAt.at_ {w:World} {b:Nat} {al at_:Int} (h:ExAt w b al at_):(exOb al at_).At w (.slice (some ⟨b,0,none⟩) 1 1) (.slice (some ⟨b+1,0,none⟩) 1 1) (.slice (some ⟨b+2,0,none⟩) 1 1) (.slice none 0 0) (.slice none 0 0) (.slice none 0 0) (.slice none 0 0) (.slice none 0 0) (.slice none 0 0) (.slice none 0 0) where
 secs:=Rw.of_blk (xs:=[exSec al]) (css:=[(exSec al).cells]) h.secs (by simp) rfl (by intro cs hc;simp at hc;subst hc;rfl) (by intro j x cs hx hc;cases j with | zero=>simp at hx hc;subst hx hc;rfl | succ j=>simp at hx)
 syms:=Rw.of_blk (xs:=[exSym]) (css:=[exSym.cells]) h.syms (by simp) rfl (by intro cs hc;simp at hc;subst hc;rfl) (by intro j x cs hx hc;cases j with | zero=>simp at hx hc;subst hx hc;rfl | succ j=>simp at hx)
 rels:=Rw.of_blk (xs:=[exRel at_]) (css:=[(exRel at_).cells]) h.rels (by simp) rfl (by intro cs hc;simp at hc;subst hc;rfl) (by intro j x cs hx hc;cases j with | zero=>simp at hx hc;subst hx hc;rfl | succ j=>simp at hx)
 groups:=Rw.nil w
 inits:=Rw.nil w
 lines:=Rw.nil w
 inlines:=Rw.nil w
 vars:=Rw.nil w
 depths:=Rw.nil w
 converts:=Rw.nil w
theorem exOb_ok {al at_:Int} (h1:I64 al) (h2:I64 at_):(exOb al at_).Ok:=by
 have hz:∀n:Nat,n≤100→lenR n:=fun n h=>by unfold lenR;omega
 have hi:∀n:Int,-100≤n→n≤100→I64 n:=fun n h1 h2=>by unfold I64;omega
 have n0:lenR 0:=hz 0 (by decide)
 have n1:lenR 1:=hz 1 (by decide)
 have s1:∀x∈[exSec al],x.Ok:=by
  intro x hx
  have hx:x=exSec al:=by simpa using hx
  subst hx
  exact⟨n1,hi 1 (by decide) (by decide),h1,hi 8 (by decide) (by decide),hz 8 (by decide)⟩
 have s2:∀x∈[exSym],x.Ok:=by
  intro x hx
  have hx:x=exSym:=by simpa using hx
  subst hx
  exact⟨n1,n0,hi 1 (by decide) (by decide),hi 0 (by decide) (by decide),hi 1 (by decide) (by decide),hi (-1) (by decide) (by decide),hi 0 (by decide) (by decide),hi 0 (by decide) (by decide),hi 0 (by decide) (by decide)⟩
 have s3:∀x∈[exRel at_],x.Ok:=by
  intro x hx
  have hx:x=exRel at_:=by simpa using hx
  subst hx
  exact⟨hi 0 (by decide) (by decide),h2,hi 0 (by decide) (by decide),hi 0 (by decide) (by decide),hi 0 (by decide) (by decide)⟩
 exact⟨n1,n1,s1,n1,s2,n1,s3,n0,(fun x hx=>by cases hx),n0,(fun x hx=>by cases hx),n0,(fun x hx=>by cases hx),n0,(fun x hx=>by cases hx),n0,(fun x hx=>by cases hx),n0,(fun x hx=>by cases hx),n0,(fun x hx=>by cases hx)⟩
end Go.Proofs.YtfaepbjnpakghaaGreatDoor.W
