import Derived.Deep.Cut
import Derived.Test.YtfaepbjnpakghaaGreatDoorKad
import Derived.Test.YtfaepbjnpakghaaGreatDoorKInl
import Derived.Test.YtfaepbjnpakghaaGreatDoorKal
import Derived.Test.YtfaepbjnpakghaaGreatDoorKMh
/- The walk of Right (printed by tools/gen_cls.py). -/
namespace Go.Proofs.YtfaepbjnpakghaaGreatDoor.W
open Go.RowKit
set_option linter.unusedVariables false
def rightFns (a:Value):List Value:=[.func (.func 67) #[a] #[], .func (.func 68) #[a] #[], .func (.func 69) #[a] #[], .func (.func 70) #[a] #[], .func (.func 71) #[a] #[], .func (.func 72) #[a] #[], .func (.func 73) #[a] #[], .func (.func 74) #[a] #[], .func (.func 75) #[a] #[], .func (.func 76) #[a] #[]]
def RowF (w:World) (b:Nat) (a:Value):Prop:=∀k v,(rightFns a)[k]? =some v→w.cell? ⟨b,k,none⟩=some v
theorem RowF.below {w w':World} {b:Nat} {a:Value} (h:RowF w b a) (hb:Below w.heap.size w w'):RowF w' b a:=fun k v hv=>
 (hb.cell (p:=⟨b,k,none⟩) (World.block_lt_of_cell? _ _ (h k v hv))).trans (h k v hv)
theorem all_take' {l:List Bool} {k:Nat} (h:k<l.length) (ha:(l.take k).all id=true) (hp:l[k]=true):(l.take (k+1)).all id=true:=by
 rw[List.take_succ_eq_append_getElem h,List.all_append,ha]
 simp[hp]
theorem right_start (w:World) (nm:ByteArray) (x1 x2 x3 x4 x5 x6 x7 x8 x9 x10:Value):
 RowF (((w.alloc (.cells #[.string nm,x1,x2,x3,x4,x5,x6,x7,x8,x9,x10] 33)).alloc (.cells #[.string nm,x1,x2,x3,x4,x5,x6,x7,x8,x9,x10] 113)).alloc (.cells (rightFns (.agg #[.string nm,x1,x2,x3,x4,x5,x6,x7,x8,x9,x10])).toArray 34)) (w.heap.size+1+1) (.agg #[.string nm,x1,x2,x3,x4,x5,x6,x7,x8,x9,x10])∧
 (((w.alloc (.cells #[.string nm,x1,x2,x3,x4,x5,x6,x7,x8,x9,x10] 33)).alloc (.cells #[.string nm,x1,x2,x3,x4,x5,x6,x7,x8,x9,x10] 113)).alloc (.cells (rightFns (.agg #[.string nm,x1,x2,x3,x4,x5,x6,x7,x8,x9,x10])).toArray 34)).cell? ⟨w.heap.size,0,none⟩=some (.string nm):=by
 constructor
 ·intro k v hv
  have:=(Blk.new ((w.alloc (.cells #[.string nm,x1,x2,x3,x4,x5,x6,x7,x8,x9,x10] 33)).alloc (.cells #[.string nm,x1,x2,x3,x4,x5,x6,x7,x8,x9,x10] 113)) 34 (rightFns (.agg #[.string nm,x1,x2,x3,x4,x5,x6,x7,x8,x9,x10]))).at (j:=k) hv
  rwa [show((w.alloc (.cells #[.string nm,x1,x2,x3,x4,x5,x6,x7,x8,x9,x10] 33)).alloc (.cells #[.string nm,x1,x2,x3,x4,x5,x6,x7,x8,x9,x10] 113)).heap.size=w.heap.size+1+1 from by simp] at this
 ·simp[go_sem]
def chkL (o:Ob):List Bool:=[secsB o,symsB o,relsB o,groupsB o,initsB o,linesB o,inlinesB o,varsB o,depthsB o,convertsB o]
theorem right_chk (o:Ob):rightO o=((chkL o).all id&&nameB o.name):=by
 unfold rightO chkL
 simp[Bool.and_assoc]
theorem chk_bad {o:Ob} {k:Nat} (h:k< (chkL o).length) (hb:(chkL o)[k]=false):rightO o=false:=by
 rw[right_chk,all_bad (List.getElem_mem h) hb];rfl
structure ChkAt (o:Ob) (a:Array Value) (w:World) (v:Value) (q:Bool):Prop where
 is:∃g,v= .func (.func g) #[.agg a] #[]∧Enters Tryz.prog g∧∀w',Below w.heap.size w w'→Calls Tryz.prog g #[.agg a] w' fun e w2=>e= .returned (.bool q)∧Below w'.heap.size w' w2
set_option maxHeartbeats 4000000 in
set_option maxRecDepth 100000 in
theorem oright_any (w:World) (o:Ob) (x1 x2 x3 x4 x5 x6 x7 x8 x9 x10:Value) (hA:o.At w x1 x2 x3 x4 x5 x6 x7 x8 x9 x10) (hk:o.Ok) (hT:FormsAt w) (hbs:∀s∈o.secs,s.bytes.size≤800000) (hg:(o.groups.flatMap Grp.secs).length≤1000000) (hi:o.inlines.length≤1000000):
 Calls Tryz.prog 15 #[.agg (o.arr x1 x2 x3 x4 x5 x6 x7 x8 x9 x10)] w fun e w'=>e= .returned (.bool (rightO o))∧Below w.heap.size w w':=by
 have hC0:∀w1,Below w.heap.size w w1→Calls Tryz.prog 67 #[.agg (o.arr x1 x2 x3 x4 x5 x6 x7 x8 x9 x10)] w1 fun e w2=>e= .returned (.bool (secsB o))∧Below w1.heap.size w1 w2:=fun w1 h=>osecs_any w1 o x1 x2 x3 x4 x5 x6 x7 x8 x9 x10 (hA.below h) hk
 have hC1:∀w1,Below w.heap.size w w1→Calls Tryz.prog 68 #[.agg (o.arr x1 x2 x3 x4 x5 x6 x7 x8 x9 x10)] w1 fun e w2=>e= .returned (.bool (symsB o))∧Below w1.heap.size w1 w2:=fun w1 h=>osyms_any w1 o x1 x2 x3 x4 x5 x6 x7 x8 x9 x10 (hA.below h) hk
 have hC2:∀w1,Below w.heap.size w w1→Calls Tryz.prog 69 #[.agg (o.arr x1 x2 x3 x4 x5 x6 x7 x8 x9 x10)] w1 fun e w2=>e= .returned (.bool (relsB o))∧Below w1.heap.size w1 w2:=fun w1 h=>orels_any w1 o x1 x2 x3 x4 x5 x6 x7 x8 x9 x10 (hA.below h) hk (hT.below h) hbs
 have hC3:∀w1,Below w.heap.size w w1→Calls Tryz.prog 70 #[.agg (o.arr x1 x2 x3 x4 x5 x6 x7 x8 x9 x10)] w1 fun e w2=>e= .returned (.bool (groupsB o))∧Below w1.heap.size w1 w2:=fun w1 h=>ogroups_any w1 o x1 x2 x3 x4 x5 x6 x7 x8 x9 x10 (hA.below h) hk hg
 have hC4:∀w1,Below w.heap.size w w1→Calls Tryz.prog 71 #[.agg (o.arr x1 x2 x3 x4 x5 x6 x7 x8 x9 x10)] w1 fun e w2=>e= .returned (.bool (initsB o))∧Below w1.heap.size w1 w2:=fun w1 h=>oinits_any w1 o x1 x2 x3 x4 x5 x6 x7 x8 x9 x10 (hA.below h) hk
 have hC5:∀w1,Below w.heap.size w w1→Calls Tryz.prog 72 #[.agg (o.arr x1 x2 x3 x4 x5 x6 x7 x8 x9 x10)] w1 fun e w2=>e= .returned (.bool (linesB o))∧Below w1.heap.size w1 w2:=fun w1 h=>olines_any w1 o x1 x2 x3 x4 x5 x6 x7 x8 x9 x10 (hA.below h) hk
 have hC6:∀w1,Below w.heap.size w w1→Calls Tryz.prog 73 #[.agg (o.arr x1 x2 x3 x4 x5 x6 x7 x8 x9 x10)] w1 fun e w2=>e= .returned (.bool (inlinesB o))∧Below w1.heap.size w1 w2:=fun w1 h=>oinlines_any w1 o x1 x2 x3 x4 x5 x6 x7 x8 x9 x10 (hA.below h) hk hi
 have hC7:∀w1,Below w.heap.size w w1→Calls Tryz.prog 74 #[.agg (o.arr x1 x2 x3 x4 x5 x6 x7 x8 x9 x10)] w1 fun e w2=>e= .returned (.bool (varsB o))∧Below w1.heap.size w1 w2:=fun w1 h=>ovars_any w1 o x1 x2 x3 x4 x5 x6 x7 x8 x9 x10 (hA.below h) hk
 have hC8:∀w1,Below w.heap.size w w1→Calls Tryz.prog 75 #[.agg (o.arr x1 x2 x3 x4 x5 x6 x7 x8 x9 x10)] w1 fun e w2=>e= .returned (.bool (depthsB o))∧Below w1.heap.size w1 w2:=fun w1 h=>odepths_any w1 o x1 x2 x3 x4 x5 x6 x7 x8 x9 x10 (hA.below h) hk
 have hC9:∀w1,Below w.heap.size w w1→Calls Tryz.prog 76 #[.agg (o.arr x1 x2 x3 x4 x5 x6 x7 x8 x9 x10)] w1 fun e w2=>e= .returned (.bool (convertsB o))∧Below w1.heap.size w1 w2:=fun w1 h=>oconverts_any w1 o x1 x2 x3 x4 x5 x6 x7 x8 x9 x10 (hA.below h) hk
 have HR:Hd (∀(k:Nat) (hkq:k< (chkL o).length) (v:Value),(rightFns (.agg (o.arr x1 x2 x3 x4 x5 x6 x7 x8 x9 x10)))[k]? =some v→ChkAt o (o.arr x1 x2 x3 x4 x5 x6 x7 x8 x9 x10) w v (chkL o)[k]):=⟨fun k hkq v hv=>by
  have hk10:k<10:=hkq
  rcases k with _ | _ | _ | _ | _ | _ | _ | _ | _ | _ | k
  ·cases hv;exact⟨_,rfl,enters_of Tryz.func67 rfl rfl,hC0⟩
  ·cases hv;exact⟨_,rfl,enters_of Tryz.func68 rfl rfl,hC1⟩
  ·cases hv;exact⟨_,rfl,enters_of Tryz.func69 rfl rfl,hC2⟩
  ·cases hv;exact⟨_,rfl,enters_of Tryz.func70 rfl rfl,hC3⟩
  ·cases hv;exact⟨_,rfl,enters_of Tryz.func71 rfl rfl,hC4⟩
  ·cases hv;exact⟨_,rfl,enters_of Tryz.func72 rfl rfl,hC5⟩
  ·cases hv;exact⟨_,rfl,enters_of Tryz.func73 rfl rfl,hC6⟩
  ·cases hv;exact⟨_,rfl,enters_of Tryz.func74 rfl rfl,hC7⟩
  ·cases hv;exact⟨_,rfl,enters_of Tryz.func75 rfl rfl,hC8⟩
  ·cases hv;exact⟨_,rfl,enters_of Tryz.func76 rfl rfl,hC9⟩
  ·omega⟩
 have HS:=Hd.mk (right_chk o)
 have HN:=Hd.mk (fun w=>oname_any o.name w hk.name)
 obtain⟨p0,c0,hx1⟩:=hA.secs.slice
 obtain⟨p1,c1,hx2⟩:=hA.syms.slice
 obtain⟨p2,c2,hx3⟩:=hA.rels.slice
 obtain⟨p3,c3,hx4⟩:=hA.groups.slice
 obtain⟨p4,c4,hx5⟩:=hA.inits.slice
 obtain⟨p5,c5,hx6⟩:=hA.lines.slice
 obtain⟨p6,c6,hx7⟩:=hA.inlines.slice
 obtain⟨p7,c7,hx8⟩:=hA.vars.slice
 obtain⟨p8,c8,hx9⟩:=hA.depths.slice
 obtain⟨p9,c9,hx10⟩:=hA.converts.slice
 subst hx1
 subst hx2
 subst hx3
 subst hx4
 subst hx5
 subst hx6
 subst hx7
 subst hx8
 subst hx9
 subst hx10
 obtain⟨n0,hn0⟩:∃n,o.secs.length=n:=⟨_,rfl⟩
 obtain⟨n1,hn1⟩:∃n,o.syms.length=n:=⟨_,rfl⟩
 obtain⟨n2,hn2⟩:∃n,o.rels.length=n:=⟨_,rfl⟩
 obtain⟨n3,hn3⟩:∃n,o.groups.length=n:=⟨_,rfl⟩
 obtain⟨n4,hn4⟩:∃n,o.inits.length=n:=⟨_,rfl⟩
 obtain⟨n5,hn5⟩:∃n,o.lines.length=n:=⟨_,rfl⟩
 obtain⟨n6,hn6⟩:∃n,o.inlines.length=n:=⟨_,rfl⟩
 obtain⟨n7,hn7⟩:∃n,o.vars.length=n:=⟨_,rfl⟩
 obtain⟨n8,hn8⟩:∃n,o.depths.length=n:=⟨_,rfl⟩
 obtain⟨n9,hn9⟩:∃n,o.converts.length=n:=⟨_,rfl⟩
 clear hA hk hT hbs hg hi hC0 hC1 hC2 hC3 hC4 hC5 hC6 hC7 hC8 hC9
 unfold Ob.arr at HR⊢
 rw[hn0,hn1,hn2,hn3,hn4,hn5,hn6,hn7,hn8,hn9] at HR⊢
 clear hn0 hn1 hn2 hn3 hn4 hn5 hn6 hn7 hn8 hn9
 go_enter Tryz.func15,Tryz.ntmps15
 have HA0:=Hd.mk (right_start w o.name (.slice p0 n0 c0) (.slice p1 n1 c1) (.slice p2 n2 c2) (.slice p3 n3 c3) (.slice p4 n4 c4) (.slice p5 n5 c5) (.slice p6 n6 c6) (.slice p7 n7 c7) (.slice p8 n8 c8) (.slice p9 n9 c9))
 go_wp2
 go_loopw [30] (fun i wr=>∃k:Nat,k≤10∧i= .int .i64 k∧Hd (((chkL o).take k).all id=true)∧Hd (RowF wr (w.heap.size+1+1) (.agg #[.string o.name, .slice p0 n0 c0, .slice p1 n1 c1, .slice p2 n2 c2, .slice p3 n3 c3, .slice p4 n4 c4, .slice p5 n5 c5, .slice p6 n6 c6, .slice p7 n7 c7, .slice p8 n8 c8, .slice p9 n9 c9]))∧Hd (wr.cell? ⟨w.heap.size,0,none⟩=some (.string o.name))∧Hd (Below w.heap.size w wr)) (fun i _=>10-(intOf i).toNat)
 case atStart=>exact⟨0,Nat.zero_le _,rfl,⟨rfl⟩,⟨HA0.out.1⟩,⟨HA0.out.2⟩,⟨by go_grown⟩⟩
 case round=>
  clear HA0
  obtain⟨k,hk10,rfl,HAll,HRow,HNm,HB⟩:=hrel
  by_cases hlt:k<10
  ·have hd1:decide ((k:Int)<10)=true:=by simp;omega
   have j0:(0:Int)≤(k:Int):=by omega
   have j1:(k:Int)<10:=by omega
   have hkq:k< (chkL o).length:=hlt
   obtain⟨v,hv⟩:∃v,(rightFns (.agg #[.string o.name, .slice p0 n0 c0, .slice p1 n1 c1, .slice p2 n2 c2, .slice p3 n3 c3, .slice p4 n4 c4, .slice p5 n5 c5, .slice p6 n6 c6, .slice p7 n7 c7, .slice p8 n8 c8, .slice p9 n9 c9]))[k]? =some v:=⟨_,List.getElem?_eq_getElem (show k< (rightFns _).length from hlt)⟩
   have hc:=HRow.out k v hv
   obtain⟨g,hvg,eg0,hcall⟩:=(HR.out k hkq v hv).is
   have eg:∀args w,(callFunc g args).run Tryz.prog w= .ok (.enter g args) w:=eg0
   clear eg0
   subst hvg
   have HC:Hd (∀w',Below wr.heap.size wr w'→Calls Tryz.prog g #[.agg #[.string o.name, .slice p0 n0 c0, .slice p1 n1 c1, .slice p2 n2 c2, .slice p3 n3 c3, .slice p4 n4 c4, .slice p5 n5 c5, .slice p6 n6 c6, .slice p7 n7 c7, .slice p8 n8 c8, .slice p9 n9 c9]] w' fun e w2=>e= .returned (.bool (chkL o)[k])∧Below w'.heap.size w' w2):=⟨fun w' h=>hcall w' (HB.out.trans (h.mono HB.out.size))⟩
   have HBad:=Hd.mk (fun h=>chk_bad hkq h)
   have HStep:Hd ((chkL o)[k]=true→((chkL o).take (k+1)).all id=true):=⟨fun h=>all_take' hkq HAll.out h⟩
   obtain⟨q,hq⟩:∃q,(chkL o)[k]=q:=⟨_,rfl⟩
   rw[hq] at HC HBad HStep
   clear hcall hv hq
   rcases q with _ | _
   ·go_wp2_with fail
    refine(HC.out _ (Below.refl _ _)).mono ?_
    rintro e w2 ⟨rfl,hK⟩
    have HK:=Hd.mk (HB.out.trans (hK.mono HB.out.size))
    clear hK
    go_wp2
    go_ret
    exact⟨ret_b (HBad.out (by first | rfl | trivial)).symm,HK.out⟩
   ·go_wp2_with fail
    refine(HC.out _ (Below.refl _ _)).mono ?_
    rintro e w2 ⟨rfl,hK⟩
    have HK:=Hd.mk (HB.out.trans (hK.mono HB.out.size))
    have HRow2:=Hd.mk (HRow.out.below hK)
    have HNm2:Hd (w2.cell? ⟨w.heap.size,0,none⟩=some (.string o.name)):=⟨(hK.cell (p:=⟨w.heap.size,0,none⟩) (World.block_lt_of_cell? _ _ HNm.out)).trans HNm.out⟩
    have HSt:=Hd.mk (HStep.out (by first | rfl | trivial))
    clear hK hc
    go_wp2
    exact⟨⟨k+1,hlt,by go_num,HSt,HRow2,HNm2,HK⟩,by simp[intOf];omega⟩
  ·have hd1:decide ((k:Int)<10)=false:=by simp;omega
   have hEnd:rightO o=nameB o.name:=by
    have h1:=HAll.out
    rw[List.take_of_length_le (show(chkL o).length≤k from by show 10≤k;omega)] at h1
    rw[HS.out,h1];rfl
   have HEnd:=Hd.mk hEnd
   have hnm:=HNm.out
   clear hEnd
   go_wp2_with fail
   refine(HN.out _).mono ?_
   rintro e w' ⟨rfl,rfl⟩
   go_wp2
   go_ret
   exact⟨ret_b HEnd.out.symm,HB.out⟩
end Go.Proofs.YtfaepbjnpakghaaGreatDoor.W
