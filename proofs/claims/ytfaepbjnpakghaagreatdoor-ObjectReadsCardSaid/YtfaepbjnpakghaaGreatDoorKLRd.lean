import Derived.Test.YtfaepbjnpakghaaGreatDoorKSmO
/- The law ObjectReads (printed by tools/gen_lrd.py). -/
namespace Go.Proofs.YtfaepbjnpakghaaGreatDoor.W
open Go.RowKit
set_option linter.unusedVariables false
set_option linter.unusedSimpArgs false
theorem strT_eq {s:ByteArray} {l:List UInt8} (h:strT s=l):(⟨l.toArray⟩:ByteArray)=s:=by
 rw[←h];simp[strT]
theorem read_fit {s:List UInt8} {o:Ob} (h:readL s=some o) (hl:s.length≤800000):o.Ok∧(∀x∈o.secs,x.bytes.size≤800000)∧(o.groups.flatMap Grp.secs).length≤800000∧o.inlines.length≤800000:=by
 have hr:=Ob.rd_ok ⟨s,false,false⟩ hl
 unfold readL at h
 split at h
 ·cases h;exact hr
 ·cases h
theorem list_pos {α:Type} {e:α→List UInt8} (hp:∀x,0< (e x).length):∀xs:List α,xs.length≤(xs.flatMap e).length
 | []=>Nat.le_refl _
 | x::xs=>by
   have:=hp x
   have:=list_pos hp xs
   rw[List.flatMap_cons,List.length_append,List.length_cons];omega
theorem listL_pos {α:Type} {e:α→List UInt8} (hp:∀x,0< (e x).length) (xs:List α):xs.length≤(listL e xs).length:=by
 have:=list_pos hp xs
 unfold listL
 rw[List.length_append];omega
theorem flat_part {α:Type} {e:α→List UInt8} {xs:List α} {x:α} (h:x∈xs):(e x).length≤(listL e xs).length:=by
 have:=flat_mem (f:=e) h
 unfold listL
 rw[List.length_append];omega
theorem flat_secs:∀gs:List Grp,(gs.flatMap Grp.secs).length≤(gs.flatMap Grp.wr).length
 | []=>Nat.le_refl _
 | g::gs=>by
   have h1:=flat_secs gs
   have h2:=listL_pos intCod.pos g.secs
   have h3:(Grp.wr g).length=(strL g.name).length+(listL intL g.secs).length:=by unfold Grp.wr;rw[List.length_append]
   rw[List.flatMap_cons,List.flatMap_cons,List.length_append,List.length_append];omega
theorem wr_sz {o:Ob} (hl:(Ob.wr o).length≤4000):o.Sz:=by
 unfold Ob.wr at hl
 simp only[List.length_append] at hl
 have h1:=listL_pos Sec.cod.pos o.secs;have h2:=listL_pos Sym.cod.pos o.syms;have h3:=listL_pos Rel.cod.pos o.rels;have h4:=listL_pos Grp.cod.pos o.groups;have h5:=listL_pos Ini.cod.pos o.inits
 have h6:=listL_pos Lne.cod.pos o.lines;have h7:=listL_pos Inl.cod.pos o.inlines;have h8:=listL_pos Vrr.cod.pos o.vars;have h9:=listL_pos Dep.cod.pos o.depths;have h10:=listL_pos Cnv.cod.pos o.converts
 refine⟨by omega,by omega,by omega,by omega,by omega,by omega,by omega,by omega,by omega,by omega,fun s hs=> ?_,?_,fun c hc=> ?_⟩
 ·have:=flat_part (e:=Sec.wr) hs
  have h2:s.bytes.size≤(Sec.wr s).length:=by unfold Sec.wr strL textL;simp only[List.length_append];have:s.bytes.data.toList.length=s.bytes.size:=by simp
                                             omega
  omega
 ·have:=flat_secs o.groups
  have h2:(o.groups.flatMap Grp.wr).length≤(listL Grp.wr o.groups).length:=by unfold listL;rw[List.length_append];omega
  omega
 ·have:=flat_part (e:=Cnv.wr) hc
  have h2:(listL Pce.wr c.pieces).length≤(Cnv.wr c).length:=by unfold Cnv.wr;simp only[List.length_append];omega
  have h3:=listL_pos Pce.cod.pos c.pieces
  omega
theorem read_sz {s:List UInt8} {o:Ob} (h:readL s=some o) (hl:s.length≤4000):o.Sz:=wr_sz (by rw[←(read_is h).2];exact hl)
set_option maxHeartbeats 4000000 in
set_option maxRecDepth 100000 in
theorem reads_any (w:World) (s:ByteArray) (hs:s.size≤140737488351232) (hT:TabO w):
 Calls Tryz.prog 5 #[.string s] w fun e w'=>e= .returned (.bool true)∧Below w.heap.size w w':=by
 have HSm:=Hd.mk (small_any w hT)
 by_cases h4:4000<s.size
 ·have d1:decide ((4000:Int)< (s.size:Int))=true:=by simp;omega
  have d2:decide (4000<s.size)=true:=by simp;omega
  clear hs hT h4
  go_enter Tryz.func5,Tryz.ntmps5
  go_wp2_with fail
  refine HSm.out.mono ?_
  rintro e w1 ⟨rfl,hb⟩
  have HB1:=Hd.mk hb
  clear hb
  go_wp2
  go_ret
  exact⟨rfl,HB1.out⟩
 have d1:decide ((4000:Int)< (s.size:Int))=false:=by simp;omega
 have d2:decide (4000<s.size)=false:=by simp;omega
 have hl:s.size≤800000:=by omega
 have hR:=fun w1 (h:Below w.heap.size w w1)=>oread_any w1 s hl (hT.f.below h)
 rcases hr:readL (strT s) with _ | o
 ·have ho:readO (strT s)=zeroOb:=by unfold readO;rw[hr];rfl
  rw[ho,hr] at hR
  have HR:Hd (∀w1,Below w.heap.size w w1→Calls Tryz.prog 10 #[.string s] w1 fun e w'=>∃(x1 x2 x3 x4 x5 x6 x7 x8 x9 x10:Value),e= .returned (.tuple #[.agg #[.string ⟨#[]⟩,x1,x2,x3,x4,x5,x6,x7,x8,x9,x10], .bool false])∧zeroOb.At w' x1 x2 x3 x4 x5 x6 x7 x8 x9 x10∧Below w1.heap.size w1 w'):=⟨fun w1 h=>(hR w1 h).mono (fun e w' ⟨x1,x2,x3,x4,x5,x6,x7,x8,x9,x10,he,hst,hb⟩=>⟨x1,x2,x3,x4,x5,x6,x7,x8,x9,x10,he,hst.now,hb⟩)⟩
  clear hR hs hT h4 hl hr ho
  go_enter Tryz.func5,Tryz.ntmps5
  go_wp2_with fail
  refine HSm.out.mono ?_
  rintro e w1 ⟨rfl,hb⟩
  have HB1:=Hd.mk hb
  clear hb
  go_wp2_with fail
  refine(HR.out _ HB1.out).mono ?_
  rintro e w2 ⟨x1,x2,x3,x4,x5,x6,x7,x8,x9,x10,rfl,hAt,hb⟩
  obtain⟨p1,c1,h1⟩:=hAt.secs.slice
  replace h1:x1= .slice p1 0 c1:=h1
  subst h1
  obtain⟨p2,c2,h2⟩:=hAt.syms.slice
  replace h2:x2= .slice p2 0 c2:=h2
  subst h2
  obtain⟨p3,c3,h3⟩:=hAt.rels.slice
  replace h3:x3= .slice p3 0 c3:=h3
  subst h3
  obtain⟨p4,c4,h4⟩:=hAt.groups.slice
  replace h4:x4= .slice p4 0 c4:=h4
  subst h4
  obtain⟨p5,c5,h5⟩:=hAt.inits.slice
  replace h5:x5= .slice p5 0 c5:=h5
  subst h5
  obtain⟨p6,c6,h6⟩:=hAt.lines.slice
  replace h6:x6= .slice p6 0 c6:=h6
  subst h6
  obtain⟨p7,c7,h7⟩:=hAt.inlines.slice
  replace h7:x7= .slice p7 0 c7:=h7
  subst h7
  obtain⟨p8,c8,h8⟩:=hAt.vars.slice
  replace h8:x8= .slice p8 0 c8:=h8
  subst h8
  obtain⟨p9,c9,h9⟩:=hAt.depths.slice
  replace h9:x9= .slice p9 0 c9:=h9
  subst h9
  obtain⟨p10,c10,h10⟩:=hAt.converts.slice
  replace h10:x10= .slice p10 0 c10:=h10
  subst h10
  have HX:Hd (CellsAt w2.heap.size [.string ⟨#[]⟩, .slice p1 0 c1, .slice p2 0 c2, .slice p3 0 c3, .slice p4 0 c4, .slice p5 0 c5, .slice p6 0 c6, .slice p7 0 c7, .slice p8 0 c8, .slice p9 0 c9, .slice p10 0 c10] (w2.alloc (.cells #[.string ⟨#[]⟩, .slice p1 0 c1, .slice p2 0 c2, .slice p3 0 c3, .slice p4 0 c4, .slice p5 0 c5, .slice p6 0 c6, .slice p7 0 c7, .slice p8 0 c8, .slice p9 0 c9, .slice p10 0 c10] 33))):=⟨CellsAt.new w2 [.string ⟨#[]⟩, .slice p1 0 c1, .slice p2 0 c2, .slice p3 0 c3, .slice p4 0 c4, .slice p5 0 c5, .slice p6 0 c6, .slice p7 0 c7, .slice p8 0 c8, .slice p9 0 c9, .slice p10 0 c10] 33⟩
  have HB2:Hd (Below w.heap.size w (w2.alloc (.cells #[.string ⟨#[]⟩, .slice p1 0 c1, .slice p2 0 c2, .slice p3 0 c3, .slice p4 0 c4, .slice p5 0 c5, .slice p6 0 c6, .slice p7 0 c7, .slice p8 0 c8, .slice p9 0 c9, .slice p10 0 c10] 33))):=⟨(HB1.out.trans (hb.mono HB1.out.size)).trans ((below_alloc w2 _).mono (Nat.le_trans HB1.out.size hb.size))⟩
  clear hAt hb
  go_wp2
  go_ret
  exact⟨rfl,HB2.out⟩
 ·have ho:readO (strT s)=o:=by unfold readO;rw[hr];rfl
  have hlen:(strT s).length≤4000:=by unfold strT;simp;omega
  obtain⟨hok,hbs,hg,hi⟩:=read_fit hr (by omega)
  obtain⟨hri,hse⟩:=read_is hr
  have hby:bytesO o=strT s:=by unfold bytesO;rw[hri,hse];rfl
  have hz:=read_sz hr hlen
  rw[ho,hr] at hR
  have HR:Hd (∀w1,Below w.heap.size w w1→Calls Tryz.prog 10 #[.string s] w1 fun e w'=>∃(x1 x2 x3 x4 x5 x6 x7 x8 x9 x10:Value),e= .returned (.tuple #[.agg #[.string o.name,x1,x2,x3,x4,x5,x6,x7,x8,x9,x10], .bool true])∧o.At w' x1 x2 x3 x4 x5 x6 x7 x8 x9 x10∧Below w1.heap.size w1 w'):=⟨fun w1 h=>(hR w1 h).mono (fun e w' ⟨x1,x2,x3,x4,x5,x6,x7,x8,x9,x10,he,hst,hb⟩=>⟨x1,x2,x3,x4,x5,x6,x7,x8,x9,x10,he,hst.now,hb⟩)⟩
  have HRi:Hd (∀w1,Below w.heap.size w w1→∀x1 x2 x3 x4 x5 x6 x7 x8 x9 x10,o.At w1 x1 x2 x3 x4 x5 x6 x7 x8 x9 x10→Calls Tryz.prog 15 #[.agg #[.string o.name,x1,x2,x3,x4,x5,x6,x7,x8,x9,x10]] w1 fun e w'=>e= .returned (.bool true)∧Below w1.heap.size w1 w'):=⟨fun w1 h x1 x2 x3 x4 x5 x6 x7 x8 x9 x10 hA=>(oright_any w1 o x1 x2 x3 x4 x5 x6 x7 x8 x9 x10 hA hok (hT.f.below h) hbs (by omega) (by omega)).mono (fun e w' hq=>by rw[hri] at hq;exact hq)⟩
  have HBy:Hd (∀w1,Below w.heap.size w w1→∀x1 x2 x3 x4 x5 x6 x7 x8 x9 x10,o.At w1 x1 x2 x3 x4 x5 x6 x7 x8 x9 x10→Calls Tryz.prog 17 #[.agg #[.string o.name,x1,x2,x3,x4,x5,x6,x7,x8,x9,x10]] w1 fun e w'=>e= .returned (.string s)∧Below w1.heap.size w1 w'):=⟨fun w1 h x1 x2 x3 x4 x5 x6 x7 x8 x9 x10 hA=>(obytes_any w1 o x1 x2 x3 x4 x5 x6 x7 x8 x9 x10 hA hok (hT.f.below h) hz).mono (fun e w' hq=>by rw[strT_eq hby.symm] at hq;exact hq)⟩
  clear hR hs hT h4 hl hr ho hlen hok hbs hg hi hri hse hby hz
  go_enter Tryz.func5,Tryz.ntmps5
  go_wp2_with fail
  refine HSm.out.mono ?_
  rintro e w1 ⟨rfl,hb⟩
  have HB1:=Hd.mk hb
  clear hb
  go_wp2_with fail
  refine(HR.out _ HB1.out).mono ?_
  rintro e w2 ⟨x1,x2,x3,x4,x5,x6,x7,x8,x9,x10,rfl,hAt,hb⟩
  obtain⟨p1,c1,h1⟩:=hAt.secs.slice
  subst h1
  obtain⟨p2,c2,h2⟩:=hAt.syms.slice
  subst h2
  obtain⟨p3,c3,h3⟩:=hAt.rels.slice
  subst h3
  obtain⟨p4,c4,h4⟩:=hAt.groups.slice
  subst h4
  obtain⟨p5,c5,h5⟩:=hAt.inits.slice
  subst h5
  obtain⟨p6,c6,h6⟩:=hAt.lines.slice
  subst h6
  obtain⟨p7,c7,h7⟩:=hAt.inlines.slice
  subst h7
  obtain⟨p8,c8,h8⟩:=hAt.vars.slice
  subst h8
  obtain⟨p9,c9,h9⟩:=hAt.depths.slice
  subst h9
  obtain⟨p10,c10,h10⟩:=hAt.converts.slice
  subst h10
  have HX:Hd (CellsAt w2.heap.size [.string o.name, .slice p1 o.secs.length c1, .slice p2 o.syms.length c2, .slice p3 o.rels.length c3, .slice p4 o.groups.length c4, .slice p5 o.inits.length c5, .slice p6 o.lines.length c6, .slice p7 o.inlines.length c7, .slice p8 o.vars.length c8, .slice p9 o.depths.length c9, .slice p10 o.converts.length c10] (w2.alloc (.cells #[.string o.name, .slice p1 o.secs.length c1, .slice p2 o.syms.length c2, .slice p3 o.rels.length c3, .slice p4 o.groups.length c4, .slice p5 o.inits.length c5, .slice p6 o.lines.length c6, .slice p7 o.inlines.length c7, .slice p8 o.vars.length c8, .slice p9 o.depths.length c9, .slice p10 o.converts.length c10] 33))):=⟨CellsAt.new w2 [.string o.name, .slice p1 o.secs.length c1, .slice p2 o.syms.length c2, .slice p3 o.rels.length c3, .slice p4 o.groups.length c4, .slice p5 o.inits.length c5, .slice p6 o.lines.length c6, .slice p7 o.inlines.length c7, .slice p8 o.vars.length c8, .slice p9 o.depths.length c9, .slice p10 o.converts.length c10] 33⟩
  have HB2:Hd (Below w.heap.size w (w2.alloc (.cells #[.string o.name, .slice p1 o.secs.length c1, .slice p2 o.syms.length c2, .slice p3 o.rels.length c3, .slice p4 o.groups.length c4, .slice p5 o.inits.length c5, .slice p6 o.lines.length c6, .slice p7 o.inlines.length c7, .slice p8 o.vars.length c8, .slice p9 o.depths.length c9, .slice p10 o.converts.length c10] 33))):=⟨(HB1.out.trans (hb.mono HB1.out.size)).trans ((below_alloc w2 _).mono (Nat.le_trans HB1.out.size hb.size))⟩
  have HA:Hd (o.At (w2.alloc (.cells #[.string o.name, .slice p1 o.secs.length c1, .slice p2 o.syms.length c2, .slice p3 o.rels.length c3, .slice p4 o.groups.length c4, .slice p5 o.inits.length c5, .slice p6 o.lines.length c6, .slice p7 o.inlines.length c7, .slice p8 o.vars.length c8, .slice p9 o.depths.length c9, .slice p10 o.converts.length c10] 33)) (.slice p1 o.secs.length c1) (.slice p2 o.syms.length c2) (.slice p3 o.rels.length c3) (.slice p4 o.groups.length c4) (.slice p5 o.inits.length c5) (.slice p6 o.lines.length c6) (.slice p7 o.inlines.length c7) (.slice p8 o.vars.length c8) (.slice p9 o.depths.length c9) (.slice p10 o.converts.length c10)):=⟨hAt.below (below_alloc w2 _)⟩
  clear hAt hb
  obtain⟨W2,hW2⟩:∃W2,(w2.alloc (.cells #[.string o.name, .slice p1 o.secs.length c1, .slice p2 o.syms.length c2, .slice p3 o.rels.length c3, .slice p4 o.groups.length c4, .slice p5 o.inits.length c5, .slice p6 o.lines.length c6, .slice p7 o.inlines.length c7, .slice p8 o.vars.length c8, .slice p9 o.depths.length c9, .slice p10 o.converts.length c10] 33))=W2:=⟨_,rfl⟩
  have HW2:=Hd.mk hW2
  rw[hW2] at HX HB2 HA
  clear hW2
  obtain⟨D,hD⟩:∃D,w2.heap.size=D:=⟨_,rfl⟩
  have HD:=Hd.mk hD
  rw[hD] at HX
  clear hD
  go_upto_region 7 with(fail)
  rw[HW2.out,HD.out]
  clear HW2 HD
  have a0:W2.cell? ⟨D,0,none⟩=some (.string o.name):=HX.out.2 0 _ rfl
  have a1:W2.cell? ⟨D,1,none⟩=some (.slice p1 o.secs.length c1):=HX.out.2 1 _ rfl
  have a2:W2.cell? ⟨D,2,none⟩=some (.slice p2 o.syms.length c2):=HX.out.2 2 _ rfl
  have a3:W2.cell? ⟨D,3,none⟩=some (.slice p3 o.rels.length c3):=HX.out.2 3 _ rfl
  have a4:W2.cell? ⟨D,4,none⟩=some (.slice p4 o.groups.length c4):=HX.out.2 4 _ rfl
  have a5:W2.cell? ⟨D,5,none⟩=some (.slice p5 o.inits.length c5):=HX.out.2 5 _ rfl
  have a6:W2.cell? ⟨D,6,none⟩=some (.slice p6 o.lines.length c6):=HX.out.2 6 _ rfl
  have a7:W2.cell? ⟨D,7,none⟩=some (.slice p7 o.inlines.length c7):=HX.out.2 7 _ rfl
  have a8:W2.cell? ⟨D,8,none⟩=some (.slice p8 o.vars.length c8):=HX.out.2 8 _ rfl
  have a9:W2.cell? ⟨D,9,none⟩=some (.slice p9 o.depths.length c9):=HX.out.2 9 _ rfl
  have a10:W2.cell? ⟨D,10,none⟩=some (.slice p10 o.converts.length c10):=HX.out.2 10 _ rfl
  go_wp2_with fail
  refine(HRi.out _ HB2.out _ _ _ _ _ _ _ _ _ _ HA.out).mono ?_
  rintro e w3 ⟨rfl,hb⟩
  clear a0 a1 a2 a3 a4 a5 a6 a7 a8 a9 a10
  have a0:w3.cell? ⟨D,0,none⟩=some (.string o.name):=(HX.out.below hb).2 0 _ rfl
  have a1:w3.cell? ⟨D,1,none⟩=some (.slice p1 o.secs.length c1):=(HX.out.below hb).2 1 _ rfl
  have a2:w3.cell? ⟨D,2,none⟩=some (.slice p2 o.syms.length c2):=(HX.out.below hb).2 2 _ rfl
  have a3:w3.cell? ⟨D,3,none⟩=some (.slice p3 o.rels.length c3):=(HX.out.below hb).2 3 _ rfl
  have a4:w3.cell? ⟨D,4,none⟩=some (.slice p4 o.groups.length c4):=(HX.out.below hb).2 4 _ rfl
  have a5:w3.cell? ⟨D,5,none⟩=some (.slice p5 o.inits.length c5):=(HX.out.below hb).2 5 _ rfl
  have a6:w3.cell? ⟨D,6,none⟩=some (.slice p6 o.lines.length c6):=(HX.out.below hb).2 6 _ rfl
  have a7:w3.cell? ⟨D,7,none⟩=some (.slice p7 o.inlines.length c7):=(HX.out.below hb).2 7 _ rfl
  have a8:w3.cell? ⟨D,8,none⟩=some (.slice p8 o.vars.length c8):=(HX.out.below hb).2 8 _ rfl
  have a9:w3.cell? ⟨D,9,none⟩=some (.slice p9 o.depths.length c9):=(HX.out.below hb).2 9 _ rfl
  have a10:w3.cell? ⟨D,10,none⟩=some (.slice p10 o.converts.length c10):=(HX.out.below hb).2 10 _ rfl
  have HB3:Hd (Below w.heap.size w w3):=⟨HB2.out.trans (hb.mono HB2.out.size)⟩
  have HA3:Hd (o.At w3 (.slice p1 o.secs.length c1) (.slice p2 o.syms.length c2) (.slice p3 o.rels.length c3) (.slice p4 o.groups.length c4) (.slice p5 o.inits.length c5) (.slice p6 o.lines.length c6) (.slice p7 o.inlines.length c7) (.slice p8 o.vars.length c8) (.slice p9 o.depths.length c9) (.slice p10 o.converts.length c10)):=⟨HA.out.below hb⟩
  clear hb
  go_wp2_with fail
  refine(HBy.out _ HB3.out _ _ _ _ _ _ _ _ _ _ HA3.out).mono ?_
  rintro e w4 ⟨rfl,hb⟩
  have HB4:Hd (Below w.heap.size w w4):=⟨HB3.out.trans (hb.mono HB3.out.size)⟩
  clear hb a0 a1 a2 a3 a4 a5 a6 a7 a8 a9 a10
  have eb:=str_beq s s
  rw[decide_eq_true rfl] at eb
  go_wp2
  go_ret
  exact⟨rfl,HB4.out⟩
end Go.Proofs.YtfaepbjnpakghaaGreatDoor.W
