import Derived.Test.YtfaepbjnpakghaaGreatDoorKBc1
import Derived.Test.YtfaepbjnpakghaaGreatDoorKBc3
import Derived.Test.YtfaepbjnpakghaaGreatDoorKLs1
import Derived.Test.YtfaepbjnpakghaaGreatDoorKRi
import Derived.Test.YtfaepbjnpakghaaGreatDoorKaj
/- The walk of Bytes (printed by tools/gen_by.py). -/
namespace Go.Proofs.YtfaepbjnpakghaaGreatDoor.W
open Go.RowKit
set_option linter.unusedVariables false
structure Ob.Sz (o:Ob):Prop where
 secs:o.secs.length≤10000
 syms:o.syms.length≤10000
 rels:o.rels.length≤10000
 groups:o.groups.length≤10000
 inits:o.inits.length≤10000
 lines:o.lines.length≤10000
 inlines:o.inlines.length≤10000
 vars:o.vars.length≤10000
 depths:o.depths.length≤10000
 converts:o.converts.length≤10000
 bytes:∀s∈o.secs,s.bytes.size≤800000
 gsecs:(o.groups.flatMap Grp.secs).length≤1000000
 pieces:∀c∈o.converts,c.pieces.length≤100000
theorem name_64 {s:ByteArray} (h:nameB s=true):s.size≤64:=by
 unfold nameB at h
 simp only[Bool.and_eq_true,decide_eq_true_eq] at h
 exact h.2.2
theorem file_64 {s:ByteArray} (h:fileB s=true):s.size≤64:=by
 unfold fileB at h
 simp only[Bool.and_eq_true,decide_eq_true_eq] at h
 exact h.2.2
theorem RightO.grp {o:Ob} (h:RightO o) {s:Grp} (hs:s∈o.groups):grpB o s=true:=by
 have:=h.groups
 unfold groupsB at this
 simp only[Bool.and_eq_true,List.all_eq_true] at this
 exact this.1.1 s hs
theorem sec_64 {x:Sec} (h:secB x=true):x.name.size≤64:=by
 unfold secB at h
 simp only[Bool.and_eq_true] at h
 exact name_64 h.1.1.1.1.1
theorem sym_64 {o:Ob} {x:Sym} (h:symB o x=true):x.name.size≤64∧x.version.size≤64:=by
 have hf:=sym_fields h
 unfold symFields at hf
 simp only[Bool.and_eq_true,Bool.or_eq_true,decide_eq_true_eq] at hf
 refine⟨name_64 hf.1.1.1.1.1.1,?_⟩
 rcases hf.1.1.1.1.1.2 with h | h
 ·omega
 ·exact name_64 h
theorem grp_64 {o:Ob} {x:Grp} (h:grpB o x=true):x.name.size≤64:=by
 unfold grpB at h
 simp only[Bool.and_eq_true] at h
 exact name_64 h.1.1.1
theorem lne_64 {o:Ob} {x:Lne} (h:lneB o x=true):x.file.size≤64:=by
 unfold lneB at h
 simp only[Bool.and_eq_true] at h
 exact file_64 h.1.2
theorem inl_64 {o:Ob} {x:Inl} (h:inlB o x=true):x.name.size≤64∧x.file.size≤64:=by
 unfold inlB at h
 simp only[Bool.and_eq_true] at h
 exact⟨name_64 h.1.1.2,file_64 h.1.2⟩
theorem vrr_64 {o:Ob} {x:Vrr} (h:vrrB o x=true):x.name.size≤64:=by
 unfold vrrB at h
 simp only[Bool.and_eq_true] at h
 exact name_64 h.1.2
theorem cnv_64 {o:Ob} {x:Cnv} (h:cnvB o x=true):x.from_.size≤64:=by
 unfold cnvB at h
 simp only[Bool.and_eq_true,decide_eq_true_eq] at h
 omega
theorem strL_le (s:ByteArray):(strL s).length≤10+s.size:=text_len s
theorem natL_le (x:Int):(natL x).length≤10:=natL_len x
theorem intL_le (x:Int):(intL x).length≤10:=numL_len _
theorem boolL_le (x:Bool):(boolL x).length≤10:=natL_len _
theorem listL_le {α:Type} {e:α→List UInt8} {m:Nat}:∀ {xs:List α},(∀x∈xs,(e x).length≤m)→(listL e xs).length≤10+xs.length*m:=by
 intro xs h
 unfold listL
 rw[List.length_append]
 have h1:=numL_len xs.length
 have:(xs.flatMap e).length≤xs.length*m:=by
  clear h1
  induction xs with
  | nil=>simp
  | cons x r ih=>
    have:=h x (by simp)
    have:=ih (fun y hy=>h y (by simp[hy]))
    rw[List.flatMap_cons,List.length_append,List.length_cons,Nat.succ_mul];omega
 omega
theorem flat_mem {α β:Type} {f:α→List β}:∀ {xs:List α} {x:α},x∈xs→(f x).length≤(xs.flatMap f).length
 | y::r,x,h=>by
   rw[List.flatMap_cons,List.length_append]
   rcases List.mem_cons.1 h with rfl | h
   ·omega
   ·have:=flat_mem (f:=f) h;omega
theorem list_great {α:Type} {e:α→List UInt8} {xs:List α} (h:∀x∈xs,(e x).length≤20000000) (hl:xs.length≤10000):(listL e xs).length≤1000000000000:=by
 have:=listL_le h
 have h2:xs.length*20000000≤10000*20000000:=Nat.mul_le_mul_right _ hl
 omega
theorem grp_list {x:Grp} (h:x.secs.length≤1000000):(listL intL x.secs).length≤10000010:=by
 have:=listL_le (e:=intL) (m:=10) (xs:=x.secs) (fun y _=>intL_le y)
 omega
theorem pce_len (x:Pce):(Pce.wr x).length≤30:=by
 unfold Pce.wr
 simp only[List.length_append]
 have:=natL_le x.from_;have:=natL_le x.size;have:=natL_le x.to_;omega
theorem cnv_list {x:Cnv} (h:x.pieces.length≤100000):(listL Pce.wr x.pieces).length≤3000010:=by
 have:=listL_le (e:=Pce.wr) (m:=30) (xs:=x.pieces) (fun y _=>pce_len y)
 omega
theorem Sec.wr_len {x:Sec} (h_name:x.name.size≤800000) (h_bytes:x.bytes.size≤800000):(Sec.wr x).length≤20000000:=by
 unfold Sec.wr
 simp only[List.length_append]
 have:=strL_le x.name
 have:=natL_le x.kind
 have:=natL_le x.align
 have:=natL_le x.size
 have:=strL_le x.bytes
 have:=boolL_le x.keep
 omega
theorem Sym.wr_len {x:Sym} (h_name:x.name.size≤800000) (h_version:x.version.size≤800000):(Sym.wr x).length≤20000000:=by
 unfold Sym.wr
 simp only[List.length_append]
 have:=strL_le x.name
 have:=strL_le x.version
 have:=boolL_le x.main
 have:=natL_le x.bind
 have:=natL_le x.vis
 have:=natL_le x.kind
 have:=intL_le x.sec
 have:=natL_le x.at_
 have:=natL_le x.size
 have:=natL_le x.align
 omega
theorem Rel.wr_len {x:Rel}:(Rel.wr x).length≤20000000:=by
 unfold Rel.wr
 simp only[List.length_append]
 have:=natL_le x.sec
 have:=natL_le x.at_
 have:=natL_le x.kind
 have:=natL_le x.sym
 have:=intL_le x.add
 omega
theorem Grp.wr_len {x:Grp} (h_name:x.name.size≤800000) (h_secs:x.secs.length≤1000000):(Grp.wr x).length≤20000000:=by
 unfold Grp.wr
 simp only[List.length_append]
 have:=strL_le x.name
 have:=grp_list h_secs
 omega
theorem Ini.wr_len {x:Ini}:(Ini.wr x).length≤20000000:=by
 unfold Ini.wr
 simp only[List.length_append]
 have:=natL_le x.sym
 have:=intL_le x.order
 have:=boolL_le x.last
 omega
theorem Lne.wr_len {x:Lne} (h_file:x.file.size≤800000):(Lne.wr x).length≤20000000:=by
 unfold Lne.wr
 simp only[List.length_append]
 have:=natL_le x.sec
 have:=natL_le x.at_
 have:=strL_le x.file
 have:=natL_le x.line
 omega
theorem Inl.wr_len {x:Inl} (h_name:x.name.size≤800000) (h_file:x.file.size≤800000):(Inl.wr x).length≤20000000:=by
 unfold Inl.wr
 simp only[List.length_append]
 have:=natL_le x.sec
 have:=natL_le x.from_
 have:=natL_le x.to_
 have:=strL_le x.name
 have:=strL_le x.file
 have:=natL_le x.line
 omega
theorem Vrr.wr_len {x:Vrr} (h_name:x.name.size≤800000):(Vrr.wr x).length≤20000000:=by
 unfold Vrr.wr
 simp only[List.length_append]
 have:=natL_le x.sec
 have:=natL_le x.from_
 have:=natL_le x.to_
 have:=strL_le x.name
 have:=natL_le x.where_
 have:=natL_le x.n
 omega
theorem Dep.wr_len {x:Dep}:(Dep.wr x).length≤20000000:=by
 unfold Dep.wr
 simp only[List.length_append]
 have:=natL_le x.sec
 have:=natL_le x.from_
 have:=natL_le x.to_
 have:=natL_le x.bytes
 omega
theorem Cnv.wr_len {x:Cnv} (h_from_:x.from_.size≤800000) (h_pieces:x.pieces.length≤100000):(Cnv.wr x).length≤20000000:=by
 unfold Cnv.wr
 simp only[List.length_append]
 have:=natL_le x.sec
 have:=strL_le x.from_
 have:=cnv_list h_pieces
 have:=intL_le x.code
 omega
theorem Sec.fnb {o:Ob} (w:World) (h:RightO o) (k:o.Ok) (z:o.Sz):FnV aggA Sec.E (fun x=> .string ⟨(Sec.wr x).toArray⟩) o.secs w 91 #[]:=by
 refine⟨enters_of Tryz.func91 rfl rfl,fun x hx w' hb cs hE=> ?_⟩
 have q0:=sec_64 (h.sec hx)
 have q1:=z.bytes x hx
 have hcs:cs=[.string x.name, .int .i64 x.kind, .int .i64 x.align, .int .i64 x.size, .string x.bytes, .bool x.keep]:=hE
 subst hcs
 exact bSec_any w' x (sec_okc (h.sec hx) (k.secsI x hx)) (by omega) (by omega)
theorem Sec.lsb {o:Ob} (h:RightO o) (z:o.Sz):(listL Sec.wr o.secs).length≤1000000000000:=
 list_great (fun x hx=>by
  have q0:=sec_64 (h.sec hx)
  have q1:=z.bytes x hx
  exact Sec.wr_len (by omega) (by omega)) z.secs
theorem Sym.fnb {o:Ob} (w:World) (h:RightO o) (k:o.Ok) (z:o.Sz):FnV aggA Sym.E (fun x=> .string ⟨(Sym.wr x).toArray⟩) o.syms w 95 #[]:=by
 refine⟨enters_of Tryz.func95 rfl rfl,fun x hx w' hb cs hE=> ?_⟩
 obtain⟨q0,q1⟩:=sym_64 (h.sym hx)
 have hcs:cs=[.string x.name, .string x.version, .bool x.main, .int .i64 x.bind, .int .i64 x.vis, .int .i64 x.kind, .int .i64 x.sec, .int .i64 x.at_, .int .i64 x.size, .int .i64 x.align]:=hE
 subst hcs
 exact bSym_any w' x (sym_okc (h.sym hx) (k.symsI x hx)) (by omega) (by omega)
theorem Sym.lsb {o:Ob} (h:RightO o) (z:o.Sz):(listL Sym.wr o.syms).length≤1000000000000:=
 list_great (fun x hx=>by
  obtain⟨q0,q1⟩:=sym_64 (h.sym hx)
  exact Sym.wr_len (by omega) (by omega)) z.syms
theorem Rel.fnb {o:Ob} (w:World) (h:RightO o) (k:o.Ok) (z:o.Sz):FnV aggA Rel.E (fun x=> .string ⟨(Rel.wr x).toArray⟩) o.rels w 98 #[]:=by
 refine⟨enters_of Tryz.func98 rfl rfl,fun x hx w' hb cs hE=> ?_⟩
 skip
 have hcs:cs=[.int .i64 x.sec, .int .i64 x.at_, .int .i64 x.kind, .int .i64 x.sym, .int .i64 x.add]:=hE
 subst hcs
 exact bRel_any w' x (rel_okc (h.rel hx) (k.relsI x hx))
theorem Rel.lsb {o:Ob} (h:RightO o) (z:o.Sz):(listL Rel.wr o.rels).length≤1000000000000:=
 list_great (fun x hx=>by
  skip
  exact Rel.wr_len) z.rels
theorem Grp.fnb {o:Ob} (w:World) (h:RightO o) (k:o.Ok) (z:o.Sz):FnV aggA Grp.E (fun x=> .string ⟨(Grp.wr x).toArray⟩) o.groups w 100 #[]:=by
 refine⟨enters_of Tryz.func100 rfl rfl,fun x hx w' hb cs hE=> ?_⟩
 have q0:=grp_64 (h.grp hx)
 have q1:=Nat.le_trans (flat_mem (f:=Grp.secs) hx) z.gsecs
 obtain⟨sv,rfl,hAt⟩:=hE
 have hr:=hAt.secs
 obtain⟨p,c,rfl⟩:=hr.slice
 exact bGrp_any w' x p c hr (⟨strOk_of (k.groupsI x hx).name,listOk_of (k.groupsI x hx).secs (k.groupsI x hx).secsI⟩) (by omega) (k.groupsI x hx).secsI (Nat.le_trans (grp_list q1) (by decide))
theorem Grp.lsb {o:Ob} (h:RightO o) (z:o.Sz):(listL Grp.wr o.groups).length≤1000000000000:=
 list_great (fun x hx=>by
  have q0:=grp_64 (h.grp hx)
  have q1:=Nat.le_trans (flat_mem (f:=Grp.secs) hx) z.gsecs
  exact Grp.wr_len (by omega) (by omega)) z.groups
theorem Ini.fnb {o:Ob} (w:World) (h:RightO o) (k:o.Ok) (z:o.Sz):FnV aggA Ini.E (fun x=> .string ⟨(Ini.wr x).toArray⟩) o.inits w 103 #[]:=by
 refine⟨enters_of Tryz.func103 rfl rfl,fun x hx w' hb cs hE=> ?_⟩
 skip
 have hcs:cs=[.int .i64 x.sym, .int .i64 x.order, .bool x.last]:=hE
 subst hcs
 exact bIni_any w' x (ini_okc (h.ini hx) (k.initsI x hx))
theorem Ini.lsb {o:Ob} (h:RightO o) (z:o.Sz):(listL Ini.wr o.inits).length≤1000000000000:=
 list_great (fun x hx=>by
  skip
  exact Ini.wr_len) z.inits
theorem Lne.fnb {o:Ob} (w:World) (h:RightO o) (k:o.Ok) (z:o.Sz):FnV aggA Lne.E (fun x=> .string ⟨(Lne.wr x).toArray⟩) o.lines w 105 #[]:=by
 refine⟨enters_of Tryz.func105 rfl rfl,fun x hx w' hb cs hE=> ?_⟩
 have q0:=lne_64 (h.lne hx)
 have hcs:cs=[.int .i64 x.sec, .int .i64 x.at_, .string x.file, .int .i64 x.line]:=hE
 subst hcs
 exact bLne_any w' x (lne_okc (h.lne hx) (k.linesI x hx)) (by omega)
theorem Lne.lsb {o:Ob} (h:RightO o) (z:o.Sz):(listL Lne.wr o.lines).length≤1000000000000:=
 list_great (fun x hx=>by
  have q0:=lne_64 (h.lne hx)
  exact Lne.wr_len (by omega)) z.lines
theorem Inl.fnb {o:Ob} (w:World) (h:RightO o) (k:o.Ok) (z:o.Sz):FnV aggA Inl.E (fun x=> .string ⟨(Inl.wr x).toArray⟩) o.inlines w 107 #[]:=by
 refine⟨enters_of Tryz.func107 rfl rfl,fun x hx w' hb cs hE=> ?_⟩
 obtain⟨q0,q1⟩:=inl_64 (h.inl hx)
 have hcs:cs=[.int .i64 x.sec, .int .i64 x.from_, .int .i64 x.to_, .string x.name, .string x.file, .int .i64 x.line]:=hE
 subst hcs
 exact bInl_any w' x (inl_okc (h.inl hx) (k.inlinesI x hx)) (by omega) (by omega)
theorem Inl.lsb {o:Ob} (h:RightO o) (z:o.Sz):(listL Inl.wr o.inlines).length≤1000000000000:=
 list_great (fun x hx=>by
  obtain⟨q0,q1⟩:=inl_64 (h.inl hx)
  exact Inl.wr_len (by omega) (by omega)) z.inlines
theorem Vrr.fnb {o:Ob} (w:World) (h:RightO o) (k:o.Ok) (z:o.Sz):FnV aggA Vrr.E (fun x=> .string ⟨(Vrr.wr x).toArray⟩) o.vars w 109 #[]:=by
 refine⟨enters_of Tryz.func109 rfl rfl,fun x hx w' hb cs hE=> ?_⟩
 have q0:=vrr_64 (h.vrr hx)
 have hcs:cs=[.int .i64 x.sec, .int .i64 x.from_, .int .i64 x.to_, .string x.name, .int .i64 x.where_, .int .i64 x.n]:=hE
 subst hcs
 exact bVrr_any w' x (vrr_okc (h.vrr hx) (k.varsI x hx)) (by omega)
theorem Vrr.lsb {o:Ob} (h:RightO o) (z:o.Sz):(listL Vrr.wr o.vars).length≤1000000000000:=
 list_great (fun x hx=>by
  have q0:=vrr_64 (h.vrr hx)
  exact Vrr.wr_len (by omega)) z.vars
theorem Dep.fnb {o:Ob} (w:World) (h:RightO o) (k:o.Ok) (z:o.Sz):FnV aggA Dep.E (fun x=> .string ⟨(Dep.wr x).toArray⟩) o.depths w 111 #[]:=by
 refine⟨enters_of Tryz.func111 rfl rfl,fun x hx w' hb cs hE=> ?_⟩
 skip
 have hcs:cs=[.int .i64 x.sec, .int .i64 x.from_, .int .i64 x.to_, .int .i64 x.bytes]:=hE
 subst hcs
 exact bDep_any w' x (dep_okc (h.dep hx) (k.depthsI x hx))
theorem Dep.lsb {o:Ob} (h:RightO o) (z:o.Sz):(listL Dep.wr o.depths).length≤1000000000000:=
 list_great (fun x hx=>by
  skip
  exact Dep.wr_len) z.depths
theorem Cnv.fnb {o:Ob} (w:World) (h:RightO o) (k:o.Ok) (z:o.Sz):FnV aggA Cnv.E (fun x=> .string ⟨(Cnv.wr x).toArray⟩) o.converts w 113 #[]:=by
 refine⟨enters_of Tryz.func113 rfl rfl,fun x hx w' hb cs hE=> ?_⟩
 have q0:=cnv_64 (h.cnv hx)
 have q1:=z.pieces x hx
 obtain⟨sv,rfl,hAt⟩:=hE
 have hr:=hAt.pieces
 obtain⟨p,c,rfl⟩:=hr.slice
 exact bCnv_any w' x p c hr (cnv_okc (h.cnv hx) (k.convertsI x hx)) (by omega) (k.convertsI x hx).pieces (cnv_okc (h.cnv hx) (k.convertsI x hx)).2.2.1.2 (Nat.le_trans (cnv_list q1) (by decide))
theorem Cnv.lsb {o:Ob} (h:RightO o) (z:o.Sz):(listL Cnv.wr o.converts).length≤1000000000000:=
 list_great (fun x hx=>by
  have q0:=cnv_64 (h.cnv hx)
  have q1:=z.pieces x hx
  exact Cnv.wr_len (by omega) (by omega)) z.converts
set_option maxHeartbeats 4000000 in
set_option maxRecDepth 100000 in
theorem obytes_any (w:World) (o:Ob) (x1 x2 x3 x4 x5 x6 x7 x8 x9 x10:Value) (hA:o.At w x1 x2 x3 x4 x5 x6 x7 x8 x9 x10) (hk:o.Ok) (hT:FormsAt w) (z:o.Sz):
 Calls Tryz.prog 17 #[.agg (o.arr x1 x2 x3 x4 x5 x6 x7 x8 x9 x10)] w fun e w'=>e= .returned (.string ⟨(bytesO o).toArray⟩)∧Below w.heap.size w w':=by
 have hR:∀w1,Below w.heap.size w w1→Calls Tryz.prog 15 #[.agg (o.arr x1 x2 x3 x4 x5 x6 x7 x8 x9 x10)] w1 fun e w2=>e= .returned (.bool (rightO o))∧Below w1.heap.size w1 w2:=fun w1 h=>oright_any w1 o x1 x2 x3 x4 x5 x6 x7 x8 x9 x10 (hA.below h) hk (hT.below h) z.bytes z.gsecs (Nat.le_trans z.inlines (by decide))
 obtain⟨p0,c0,hx1⟩:=hA.secs.slice
 obtain⟨p1,c1,hx2⟩:=hA.syms.slice
 obtain⟨p2,c2,hx3⟩:=hA.rels.slice
 obtain⟨p3,c3,hx4⟩:=hA.groups.slice
 obtain⟨p4,c4,hx5⟩:=hA.inits.slice
 obtain⟨p5,c5,hx6⟩:=hA.lines.slice
 obtain⟨p6,c6,hx7⟩:=hA.inlines.slice
 obtain⟨p7,c7,hx8⟩:=hA.vars.slice
 obtain⟨p8,c8,hx9⟩:=hA.depths.slice
 obtain⟨p9,c9,hx10⟩:=hA.converts.slice
 subst hx1
 subst hx2
 subst hx3
 subst hx4
 subst hx5
 subst hx6
 subst hx7
 subst hx8
 subst hx9
 subst hx10
 by_cases hb:rightO o=true
 ·have h:=rightO_iff.1 hb
  have hn:o.name.size≤1000000000:=Nat.le_trans (name_64 h.name) (by decide)
  have hE:(⟨(bytesO o).toArray⟩:ByteArray)=(((((((((((⟨(strL o.name).toArray⟩:ByteArray)++(⟨(listL Sec.wr o.secs).toArray⟩:ByteArray))++(⟨(listL Sym.wr o.syms).toArray⟩:ByteArray))++(⟨(listL Rel.wr o.rels).toArray⟩:ByteArray))++(⟨(listL Grp.wr o.groups).toArray⟩:ByteArray))++(⟨(listL Ini.wr o.inits).toArray⟩:ByteArray))++(⟨(listL Lne.wr o.lines).toArray⟩:ByteArray))++(⟨(listL Inl.wr o.inlines).toArray⟩:ByteArray))++(⟨(listL Vrr.wr o.vars).toArray⟩:ByteArray))++(⟨(listL Dep.wr o.depths).toArray⟩:ByteArray))++(⟨(listL Cnv.wr o.converts).toArray⟩:ByteArray)):=by
   unfold bytesO
   rw[if_pos hb]
   simp only[cat_toArray,Ob.wr,List.append_assoc]
  have hc2:∀w,Calls Tryz.prog 89 #[.string o.name] w fun e w'=>e= .returned (.string (⟨(strL o.name).toArray⟩:ByteArray))∧Below w.heap.size w w':=fun w=>wtext_any o.name hn w
  have z2:(⟨(strL o.name).toArray⟩:ByteArray).size≤1000000010:=Nat.le_trans (text_len _) (by omega)
  obtain⟨s2,hs2⟩:∃s:ByteArray,(⟨(strL o.name).toArray⟩:ByteArray)=s:=⟨_,rfl⟩
  rw[hs2] at hc2 z2
  have HC2:=Hd.mk hc2
  clear hc2
  have hc5:∀w1,Below w.heap.size w w1→Calls Tryz.prog 90 #[.slice p0 o.secs.length c0, .func (.func 91) #[] #[]] w1 fun e w'=>e= .returned (.string (⟨(listL Sec.wr o.secs).toArray⟩:ByteArray))∧Below w1.heap.size w1 w':=fun w1 hw=>lsSec_any w1 _ _ _ (hA.secs.below Sec.stays hw) hk.secs (Sec.fnb w1 h hk z) (Sec.lsb h z)
  have z5:(⟨(listL Sec.wr o.secs).toArray⟩:ByteArray).size≤1000000000000:=list_size _ _ (Sec.lsb h z)
  obtain⟨s5,hs5⟩:∃s:ByteArray,(⟨(listL Sec.wr o.secs).toArray⟩:ByteArray)=s:=⟨_,rfl⟩
  rw[hs5] at hc5 z5
  have HC5:=Hd.mk hc5
  clear hc5
  have t6:¬9223372036854775807<s2.size+s5.size:=by omega
  have z6:(s2++s5).size≤1001000000010:=app_size z2 z5 (by decide)
  obtain⟨s6,hs6⟩:∃s:ByteArray,s2++s5=s:=⟨_,rfl⟩
  rw[hs6] at z6
  have HT6:=Hd.mk (And.intro t6 hs6)
  clear t6
  have hc9:∀w1,Below w.heap.size w w1→Calls Tryz.prog 94 #[.slice p1 o.syms.length c1, .func (.func 95) #[] #[]] w1 fun e w'=>e= .returned (.string (⟨(listL Sym.wr o.syms).toArray⟩:ByteArray))∧Below w1.heap.size w1 w':=fun w1 hw=>lsSym_any w1 _ _ _ (hA.syms.below Sym.stays hw) hk.syms (Sym.fnb w1 h hk z) (Sym.lsb h z)
  have z9:(⟨(listL Sym.wr o.syms).toArray⟩:ByteArray).size≤1000000000000:=list_size _ _ (Sym.lsb h z)
  obtain⟨s9,hs9⟩:∃s:ByteArray,(⟨(listL Sym.wr o.syms).toArray⟩:ByteArray)=s:=⟨_,rfl⟩
  rw[hs9] at hc9 z9
  have HC9:=Hd.mk hc9
  clear hc9
  have t10:¬9223372036854775807<s6.size+s9.size:=by omega
  have z10:(s6++s9).size≤2001000000010:=app_size z6 z9 (by decide)
  obtain⟨s10,hs10⟩:∃s:ByteArray,s6++s9=s:=⟨_,rfl⟩
  rw[hs10] at z10
  have HT10:=Hd.mk (And.intro t10 hs10)
  clear t10
  have hc13:∀w1,Below w.heap.size w w1→Calls Tryz.prog 97 #[.slice p2 o.rels.length c2, .func (.func 98) #[] #[]] w1 fun e w'=>e= .returned (.string (⟨(listL Rel.wr o.rels).toArray⟩:ByteArray))∧Below w1.heap.size w1 w':=fun w1 hw=>lsRel_any w1 _ _ _ (hA.rels.below Rel.stays hw) hk.rels (Rel.fnb w1 h hk z) (Rel.lsb h z)
  have z13:(⟨(listL Rel.wr o.rels).toArray⟩:ByteArray).size≤1000000000000:=list_size _ _ (Rel.lsb h z)
  obtain⟨s13,hs13⟩:∃s:ByteArray,(⟨(listL Rel.wr o.rels).toArray⟩:ByteArray)=s:=⟨_,rfl⟩
  rw[hs13] at hc13 z13
  have HC13:=Hd.mk hc13
  clear hc13
  have t14:¬9223372036854775807<s10.size+s13.size:=by omega
  have z14:(s10++s13).size≤3001000000010:=app_size z10 z13 (by decide)
  obtain⟨s14,hs14⟩:∃s:ByteArray,s10++s13=s:=⟨_,rfl⟩
  rw[hs14] at z14
  have HT14:=Hd.mk (And.intro t14 hs14)
  clear t14
  have hc17:∀w1,Below w.heap.size w w1→Calls Tryz.prog 99 #[.slice p3 o.groups.length c3, .func (.func 100) #[] #[]] w1 fun e w'=>e= .returned (.string (⟨(listL Grp.wr o.groups).toArray⟩:ByteArray))∧Below w1.heap.size w1 w':=fun w1 hw=>lsGrp_any w1 _ _ _ (hA.groups.below Grp.stays hw) hk.groups (Grp.fnb w1 h hk z) (Grp.lsb h z)
  have z17:(⟨(listL Grp.wr o.groups).toArray⟩:ByteArray).size≤1000000000000:=list_size _ _ (Grp.lsb h z)
  obtain⟨s17,hs17⟩:∃s:ByteArray,(⟨(listL Grp.wr o.groups).toArray⟩:ByteArray)=s:=⟨_,rfl⟩
  rw[hs17] at hc17 z17
  have HC17:=Hd.mk hc17
  clear hc17
  have t18:¬9223372036854775807<s14.size+s17.size:=by omega
  have z18:(s14++s17).size≤4001000000010:=app_size z14 z17 (by decide)
  obtain⟨s18,hs18⟩:∃s:ByteArray,s14++s17=s:=⟨_,rfl⟩
  rw[hs18] at z18
  have HT18:=Hd.mk (And.intro t18 hs18)
  clear t18
  have hc21:∀w1,Below w.heap.size w w1→Calls Tryz.prog 102 #[.slice p4 o.inits.length c4, .func (.func 103) #[] #[]] w1 fun e w'=>e= .returned (.string (⟨(listL Ini.wr o.inits).toArray⟩:ByteArray))∧Below w1.heap.size w1 w':=fun w1 hw=>lsIni_any w1 _ _ _ (hA.inits.below Ini.stays hw) hk.inits (Ini.fnb w1 h hk z) (Ini.lsb h z)
  have z21:(⟨(listL Ini.wr o.inits).toArray⟩:ByteArray).size≤1000000000000:=list_size _ _ (Ini.lsb h z)
  obtain⟨s21,hs21⟩:∃s:ByteArray,(⟨(listL Ini.wr o.inits).toArray⟩:ByteArray)=s:=⟨_,rfl⟩
  rw[hs21] at hc21 z21
  have HC21:=Hd.mk hc21
  clear hc21
  have t22:¬9223372036854775807<s18.size+s21.size:=by omega
  have z22:(s18++s21).size≤5001000000010:=app_size z18 z21 (by decide)
  obtain⟨s22,hs22⟩:∃s:ByteArray,s18++s21=s:=⟨_,rfl⟩
  rw[hs22] at z22
  have HT22:=Hd.mk (And.intro t22 hs22)
  clear t22
  have hc25:∀w1,Below w.heap.size w w1→Calls Tryz.prog 104 #[.slice p5 o.lines.length c5, .func (.func 105) #[] #[]] w1 fun e w'=>e= .returned (.string (⟨(listL Lne.wr o.lines).toArray⟩:ByteArray))∧Below w1.heap.size w1 w':=fun w1 hw=>lsLne_any w1 _ _ _ (hA.lines.below Lne.stays hw) hk.lines (Lne.fnb w1 h hk z) (Lne.lsb h z)
  have z25:(⟨(listL Lne.wr o.lines).toArray⟩:ByteArray).size≤1000000000000:=list_size _ _ (Lne.lsb h z)
  obtain⟨s25,hs25⟩:∃s:ByteArray,(⟨(listL Lne.wr o.lines).toArray⟩:ByteArray)=s:=⟨_,rfl⟩
  rw[hs25] at hc25 z25
  have HC25:=Hd.mk hc25
  clear hc25
  have t26:¬9223372036854775807<s22.size+s25.size:=by omega
  have z26:(s22++s25).size≤6001000000010:=app_size z22 z25 (by decide)
  obtain⟨s26,hs26⟩:∃s:ByteArray,s22++s25=s:=⟨_,rfl⟩
  rw[hs26] at z26
  have HT26:=Hd.mk (And.intro t26 hs26)
  clear t26
  have hc29:∀w1,Below w.heap.size w w1→Calls Tryz.prog 106 #[.slice p6 o.inlines.length c6, .func (.func 107) #[] #[]] w1 fun e w'=>e= .returned (.string (⟨(listL Inl.wr o.inlines).toArray⟩:ByteArray))∧Below w1.heap.size w1 w':=fun w1 hw=>lsInl_any w1 _ _ _ (hA.inlines.below Inl.stays hw) hk.inlines (Inl.fnb w1 h hk z) (Inl.lsb h z)
  have z29:(⟨(listL Inl.wr o.inlines).toArray⟩:ByteArray).size≤1000000000000:=list_size _ _ (Inl.lsb h z)
  obtain⟨s29,hs29⟩:∃s:ByteArray,(⟨(listL Inl.wr o.inlines).toArray⟩:ByteArray)=s:=⟨_,rfl⟩
  rw[hs29] at hc29 z29
  have HC29:=Hd.mk hc29
  clear hc29
  have t30:¬9223372036854775807<s26.size+s29.size:=by omega
  have z30:(s26++s29).size≤7001000000010:=app_size z26 z29 (by decide)
  obtain⟨s30,hs30⟩:∃s:ByteArray,s26++s29=s:=⟨_,rfl⟩
  rw[hs30] at z30
  have HT30:=Hd.mk (And.intro t30 hs30)
  clear t30
  have hc33:∀w1,Below w.heap.size w w1→Calls Tryz.prog 108 #[.slice p7 o.vars.length c7, .func (.func 109) #[] #[]] w1 fun e w'=>e= .returned (.string (⟨(listL Vrr.wr o.vars).toArray⟩:ByteArray))∧Below w1.heap.size w1 w':=fun w1 hw=>lsVrr_any w1 _ _ _ (hA.vars.below Vrr.stays hw) hk.vars (Vrr.fnb w1 h hk z) (Vrr.lsb h z)
  have z33:(⟨(listL Vrr.wr o.vars).toArray⟩:ByteArray).size≤1000000000000:=list_size _ _ (Vrr.lsb h z)
  obtain⟨s33,hs33⟩:∃s:ByteArray,(⟨(listL Vrr.wr o.vars).toArray⟩:ByteArray)=s:=⟨_,rfl⟩
  rw[hs33] at hc33 z33
  have HC33:=Hd.mk hc33
  clear hc33
  have t34:¬9223372036854775807<s30.size+s33.size:=by omega
  have z34:(s30++s33).size≤8001000000010:=app_size z30 z33 (by decide)
  obtain⟨s34,hs34⟩:∃s:ByteArray,s30++s33=s:=⟨_,rfl⟩
  rw[hs34] at z34
  have HT34:=Hd.mk (And.intro t34 hs34)
  clear t34
  have hc37:∀w1,Below w.heap.size w w1→Calls Tryz.prog 110 #[.slice p8 o.depths.length c8, .func (.func 111) #[] #[]] w1 fun e w'=>e= .returned (.string (⟨(listL Dep.wr o.depths).toArray⟩:ByteArray))∧Below w1.heap.size w1 w':=fun w1 hw=>lsDep_any w1 _ _ _ (hA.depths.below Dep.stays hw) hk.depths (Dep.fnb w1 h hk z) (Dep.lsb h z)
  have z37:(⟨(listL Dep.wr o.depths).toArray⟩:ByteArray).size≤1000000000000:=list_size _ _ (Dep.lsb h z)
  obtain⟨s37,hs37⟩:∃s:ByteArray,(⟨(listL Dep.wr o.depths).toArray⟩:ByteArray)=s:=⟨_,rfl⟩
  rw[hs37] at hc37 z37
  have HC37:=Hd.mk hc37
  clear hc37
  have t38:¬9223372036854775807<s34.size+s37.size:=by omega
  have z38:(s34++s37).size≤9001000000010:=app_size z34 z37 (by decide)
  obtain⟨s38,hs38⟩:∃s:ByteArray,s34++s37=s:=⟨_,rfl⟩
  rw[hs38] at z38
  have HT38:=Hd.mk (And.intro t38 hs38)
  clear t38
  have hc41:∀w1,Below w.heap.size w w1→Calls Tryz.prog 112 #[.slice p9 o.converts.length c9, .func (.func 113) #[] #[]] w1 fun e w'=>e= .returned (.string (⟨(listL Cnv.wr o.converts).toArray⟩:ByteArray))∧Below w1.heap.size w1 w':=fun w1 hw=>lsCnv_any w1 _ _ _ (hA.converts.below Cnv.stays hw) hk.converts (Cnv.fnb w1 h hk z) (Cnv.lsb h z)
  have z41:(⟨(listL Cnv.wr o.converts).toArray⟩:ByteArray).size≤1000000000000:=list_size _ _ (Cnv.lsb h z)
  obtain⟨s41,hs41⟩:∃s:ByteArray,(⟨(listL Cnv.wr o.converts).toArray⟩:ByteArray)=s:=⟨_,rfl⟩
  rw[hs41] at hc41 z41
  have HC41:=Hd.mk hc41
  clear hc41
  have t42:¬9223372036854775807<s38.size+s41.size:=by omega
  have z42:(s38++s41).size≤10001000000010:=app_size z38 z41 (by decide)
  obtain⟨s42,hs42⟩:∃s:ByteArray,s38++s41=s:=⟨_,rfl⟩
  rw[hs42] at z42
  have HT42:=Hd.mk (And.intro t42 hs42)
  clear t42
  rw[hs2,hs5,hs6,hs9,hs10,hs13,hs14,hs17,hs18,hs21,hs22,hs25,hs26,hs29,hs30,hs33,hs34,hs37,hs38,hs41,hs42] at hE
  have HE:=Hd.mk hE
  rw[hb] at hR
  have HRt:=Hd.mk hR
  rw[HE.out]
  clear hE hR hA hk hT z hb h hn z2 hs2 z5 hs5 z6 hs6 z9 hs9 z10 hs10 z13 hs13 z14 hs14 z17 hs17 z18 hs18 z21 hs21 z22 hs22 z25 hs25 z26 hs26 z29 hs29 z30 hs30 z33 hs33 z34 hs34 z37 hs37 z38 hs38 z41 hs41 z42 hs42
  unfold Ob.arr at HRt⊢
  obtain⟨n0,hn0⟩:∃n,o.secs.length=n:=⟨_,rfl⟩
  obtain⟨n1,hn1⟩:∃n,o.syms.length=n:=⟨_,rfl⟩
  obtain⟨n2,hn2⟩:∃n,o.rels.length=n:=⟨_,rfl⟩
  obtain⟨n3,hn3⟩:∃n,o.groups.length=n:=⟨_,rfl⟩
  obtain⟨n4,hn4⟩:∃n,o.inits.length=n:=⟨_,rfl⟩
  obtain⟨n5,hn5⟩:∃n,o.lines.length=n:=⟨_,rfl⟩
  obtain⟨n6,hn6⟩:∃n,o.inlines.length=n:=⟨_,rfl⟩
  obtain⟨n7,hn7⟩:∃n,o.vars.length=n:=⟨_,rfl⟩
  obtain⟨n8,hn8⟩:∃n,o.depths.length=n:=⟨_,rfl⟩
  obtain⟨n9,hn9⟩:∃n,o.converts.length=n:=⟨_,rfl⟩
  rw[hn0,hn1,hn2,hn3,hn4,hn5,hn6,hn7,hn8,hn9] at HRt⊢
  rw[hn0] at HC5
  rw[hn1] at HC9
  rw[hn2] at HC13
  rw[hn3] at HC17
  rw[hn4] at HC21
  rw[hn5] at HC25
  rw[hn6] at HC29
  rw[hn7] at HC33
  rw[hn8] at HC37
  rw[hn9] at HC41
  clear hn0 hn1 hn2 hn3 hn4 hn5 hn6 hn7 hn8 hn9
  go_enter Tryz.func17,Tryz.ntmps17
  go_wp2_with fail
  refine(HRt.out _ (below_alloc w _)).mono ?_
  rintro e w2 ⟨rfl,hb2⟩
  have HB0:Hd (Below w.heap.size w w2):=⟨below_first hb2⟩
  have HF:Hd (∀w',Below w2.drew.heap.size w2.drew w'→w'.cell? ⟨w.heap.size,0,none⟩=some (.string o.name)∧w'.cell? ⟨w.heap.size,1,none⟩=some (.slice p0 n0 c0)∧w'.cell? ⟨w.heap.size,2,none⟩=some (.slice p1 n1 c1)∧w'.cell? ⟨w.heap.size,3,none⟩=some (.slice p2 n2 c2)∧w'.cell? ⟨w.heap.size,4,none⟩=some (.slice p3 n3 c3)∧w'.cell? ⟨w.heap.size,5,none⟩=some (.slice p4 n4 c4)∧w'.cell? ⟨w.heap.size,6,none⟩=some (.slice p5 n5 c5)∧w'.cell? ⟨w.heap.size,7,none⟩=some (.slice p6 n6 c6)∧w'.cell? ⟨w.heap.size,8,none⟩=some (.slice p7 n7 c7)∧w'.cell? ⟨w.heap.size,9,none⟩=some (.slice p8 n8 c8)∧w'.cell? ⟨w.heap.size,10,none⟩=some (.slice p9 n9 c9)):=⟨fun w' h=>⟨(h.cell (p:=⟨w.heap.size,0,none⟩) (Nat.lt_of_lt_of_le (by simp) hb2.size)).trans ((hb2.cell (p:=⟨w.heap.size,0,none⟩) (by simp)).trans (by simp[go_sem])),(h.cell (p:=⟨w.heap.size,1,none⟩) (Nat.lt_of_lt_of_le (by simp) hb2.size)).trans ((hb2.cell (p:=⟨w.heap.size,1,none⟩) (by simp)).trans (by simp[go_sem])),(h.cell (p:=⟨w.heap.size,2,none⟩) (Nat.lt_of_lt_of_le (by simp) hb2.size)).trans ((hb2.cell (p:=⟨w.heap.size,2,none⟩) (by simp)).trans (by simp[go_sem])),(h.cell (p:=⟨w.heap.size,3,none⟩) (Nat.lt_of_lt_of_le (by simp) hb2.size)).trans ((hb2.cell (p:=⟨w.heap.size,3,none⟩) (by simp)).trans (by simp[go_sem])),(h.cell (p:=⟨w.heap.size,4,none⟩) (Nat.lt_of_lt_of_le (by simp) hb2.size)).trans ((hb2.cell (p:=⟨w.heap.size,4,none⟩) (by simp)).trans (by simp[go_sem])),(h.cell (p:=⟨w.heap.size,5,none⟩) (Nat.lt_of_lt_of_le (by simp) hb2.size)).trans ((hb2.cell (p:=⟨w.heap.size,5,none⟩) (by simp)).trans (by simp[go_sem])),(h.cell (p:=⟨w.heap.size,6,none⟩) (Nat.lt_of_lt_of_le (by simp) hb2.size)).trans ((hb2.cell (p:=⟨w.heap.size,6,none⟩) (by simp)).trans (by simp[go_sem])),(h.cell (p:=⟨w.heap.size,7,none⟩) (Nat.lt_of_lt_of_le (by simp) hb2.size)).trans ((hb2.cell (p:=⟨w.heap.size,7,none⟩) (by simp)).trans (by simp[go_sem])),(h.cell (p:=⟨w.heap.size,8,none⟩) (Nat.lt_of_lt_of_le (by simp) hb2.size)).trans ((hb2.cell (p:=⟨w.heap.size,8,none⟩) (by simp)).trans (by simp[go_sem])),(h.cell (p:=⟨w.heap.size,9,none⟩) (Nat.lt_of_lt_of_le (by simp) hb2.size)).trans ((hb2.cell (p:=⟨w.heap.size,9,none⟩) (by simp)).trans (by simp[go_sem])),(h.cell (p:=⟨w.heap.size,10,none⟩) (Nat.lt_of_lt_of_le (by simp) hb2.size)).trans ((hb2.cell (p:=⟨w.heap.size,10,none⟩) (by simp)).trans (by simp[go_sem]))⟩⟩
  have HB:Hd (∀w1,Below w2.drew.heap.size w2.drew w1→Below w.heap.size w w1):=⟨fun w1 h=>HB0.out.trans (((Below.drew (Below.refl w2.heap.size w2)).trans h).mono HB0.out.size)⟩
  clear hb2
  go_wp2_with fail
  refine wp_region_each default (fun w'=>Below w2.drew.heap.size w2.drew w') (WtL [(2, .val (.string s2)),(5, .val (.string s5)),(6, .val (.string s6)),(9, .val (.string s9)),(10, .val (.string s10)),(13, .val (.string s13)),(14, .val (.string s14)),(17, .val (.string s17)),(18, .val (.string s18)),(21, .val (.string s21)),(22, .val (.string s22)),(25, .val (.string s25)),(26, .val (.string s26)),(29, .val (.string s29)),(30, .val (.string s30)),(33, .val (.string s33)),(34, .val (.string s34)),(37, .val (.string s37)),(38, .val (.string s38)),(41, .val (.string s41)),(42, .val (.string s42)),(43, .val (.string s42))]) (fun w w'=>Below w.heap.size w w') [0,1,3,4,7,8,11,12,15,16,19,20,23,24,27,28,31,32,35,36,39,40] [(2,some 8),(5,some 11),(6,some 12),(9,some 15),(10,some 16),(13,some 19),(14,some 20),(17,some 23),(18,some 24),(21,some 27),(22,some 28),(25,some 31),(26,some 32),(29,some 35),(30,some 36),(33,some 39),(34,some 40),(37,some 43),(38,some 44),(41,some 47),(42,some 48),(43,some 2)] (fun j=>if j=43 then .string ⟨#[]⟩ else undef)
   (by kernel_rfl) (by kernel_rfl) rfl (by kernel_rfl) (by kernel_rfl) (by kernel_rfl) (fun w=>Below.refl _ _) (fun a b c h k=>h.trans (k.mono h.size)) (WtL.keep _) (fun w' h=>h) ?_
  simp only[List.map_cons,List.map_nil,List.getD_cons_zero,List.getD_cons_succ]
  repeat
   refine free_step (v:= ?_) (by rfl) ?_ ?_
   rotate_left
   ·intro w' hSw
    obtain⟨d0,d1,d2,d3,d4,d5,d6,d7,d8,d9,d10⟩:=HF.out w' hSw
    clear hSw
    go_simp
    first | done | with_reducible rfl
   simp only[Act.put,List.setIfInBounds_toArray,List.set_cons_zero,List.set_cons_succ]
  refine⟨by kernel_rfl,?_,?_⟩
  ·simp only[StepsAt,List.getD_cons_zero,List.getD_cons_succ]
   refine⟨?_,?_,?_,?_,?_,?_,?_,?_,?_,?_,?_,?_,?_,?_,?_,?_,?_,?_,?_,?_,?_,?_,trivial⟩
   all_goals
    intro s w1 k hd K' hK'
    simp only[foldPut,List.foldl_cons,List.foldl_nil,Act.put,List.setIfInBounds_toArray,List.set_cons_zero,List.set_cons_succ] at hK'⊢
   ·clear hd
    go_simp
    refine(HC2.out _).mono ?_
    rintro e w2 ⟨rfl,h2⟩
    exact hK'.out _ _ (WtL.ofVal rfl) h2
   ·clear hd
    go_simp
    refine(HC5.out _ (HB.out _ k)).mono ?_
    rintro e w2 ⟨rfl,h2⟩
    exact hK'.out _ _ (WtL.ofVal rfl) h2
   ·have e1:=(hd 2 (by kernel_rfl) (by kernel_rfl)).val rfl
    have e2:=(hd 5 (by kernel_rfl) (by kernel_rfl)).val rfl
    rw[e1,e2] at hK'⊢
    clear hd
    have t0:=HT6.out.1
    go_simp
    exact hK'.out _ _ (WtL.ofVal (by rw[←HT6.out.2];rfl)) (Below.refl _ _)
   ·clear hd
    go_simp
    refine(HC9.out _ (HB.out _ k)).mono ?_
    rintro e w2 ⟨rfl,h2⟩
    exact hK'.out _ _ (WtL.ofVal rfl) h2
   ·have e1:=(hd 6 (by kernel_rfl) (by kernel_rfl)).val rfl
    have e2:=(hd 9 (by kernel_rfl) (by kernel_rfl)).val rfl
    rw[e1,e2] at hK'⊢
    clear hd
    have t0:=HT10.out.1
    go_simp
    exact hK'.out _ _ (WtL.ofVal (by rw[←HT10.out.2];rfl)) (Below.refl _ _)
   ·clear hd
    go_simp
    refine(HC13.out _ (HB.out _ k)).mono ?_
    rintro e w2 ⟨rfl,h2⟩
    exact hK'.out _ _ (WtL.ofVal rfl) h2
   ·have e1:=(hd 10 (by kernel_rfl) (by kernel_rfl)).val rfl
    have e2:=(hd 13 (by kernel_rfl) (by kernel_rfl)).val rfl
    rw[e1,e2] at hK'⊢
    clear hd
    have t0:=HT14.out.1
    go_simp
    exact hK'.out _ _ (WtL.ofVal (by rw[←HT14.out.2];rfl)) (Below.refl _ _)
   ·clear hd
    go_simp
    refine(HC17.out _ (HB.out _ k)).mono ?_
    rintro e w2 ⟨rfl,h2⟩
    exact hK'.out _ _ (WtL.ofVal rfl) h2
   ·have e1:=(hd 14 (by kernel_rfl) (by kernel_rfl)).val rfl
    have e2:=(hd 17 (by kernel_rfl) (by kernel_rfl)).val rfl
    rw[e1,e2] at hK'⊢
    clear hd
    have t0:=HT18.out.1
    go_simp
    exact hK'.out _ _ (WtL.ofVal (by rw[←HT18.out.2];rfl)) (Below.refl _ _)
   ·clear hd
    go_simp
    refine(HC21.out _ (HB.out _ k)).mono ?_
    rintro e w2 ⟨rfl,h2⟩
    exact hK'.out _ _ (WtL.ofVal rfl) h2
   ·have e1:=(hd 18 (by kernel_rfl) (by kernel_rfl)).val rfl
    have e2:=(hd 21 (by kernel_rfl) (by kernel_rfl)).val rfl
    rw[e1,e2] at hK'⊢
    clear hd
    have t0:=HT22.out.1
    go_simp
    exact hK'.out _ _ (WtL.ofVal (by rw[←HT22.out.2];rfl)) (Below.refl _ _)
   ·clear hd
    go_simp
    refine(HC25.out _ (HB.out _ k)).mono ?_
    rintro e w2 ⟨rfl,h2⟩
    exact hK'.out _ _ (WtL.ofVal rfl) h2
   ·have e1:=(hd 22 (by kernel_rfl) (by kernel_rfl)).val rfl
    have e2:=(hd 25 (by kernel_rfl) (by kernel_rfl)).val rfl
    rw[e1,e2] at hK'⊢
    clear hd
    have t0:=HT26.out.1
    go_simp
    exact hK'.out _ _ (WtL.ofVal (by rw[←HT26.out.2];rfl)) (Below.refl _ _)
   ·clear hd
    go_simp
    refine(HC29.out _ (HB.out _ k)).mono ?_
    rintro e w2 ⟨rfl,h2⟩
    exact hK'.out _ _ (WtL.ofVal rfl) h2
   ·have e1:=(hd 26 (by kernel_rfl) (by kernel_rfl)).val rfl
    have e2:=(hd 29 (by kernel_rfl) (by kernel_rfl)).val rfl
    rw[e1,e2] at hK'⊢
    clear hd
    have t0:=HT30.out.1
    go_simp
    exact hK'.out _ _ (WtL.ofVal (by rw[←HT30.out.2];rfl)) (Below.refl _ _)
   ·clear hd
    go_simp
    refine(HC33.out _ (HB.out _ k)).mono ?_
    rintro e w2 ⟨rfl,h2⟩
    exact hK'.out _ _ (WtL.ofVal rfl) h2
   ·have e1:=(hd 30 (by kernel_rfl) (by kernel_rfl)).val rfl
    have e2:=(hd 33 (by kernel_rfl) (by kernel_rfl)).val rfl
    rw[e1,e2] at hK'⊢
    clear hd
    have t0:=HT34.out.1
    go_simp
    exact hK'.out _ _ (WtL.ofVal (by rw[←HT34.out.2];rfl)) (Below.refl _ _)
   ·clear hd
    go_simp
    refine(HC37.out _ (HB.out _ k)).mono ?_
    rintro e w2 ⟨rfl,h2⟩
    exact hK'.out _ _ (WtL.ofVal rfl) h2
   ·have e1:=(hd 34 (by kernel_rfl) (by kernel_rfl)).val rfl
    have e2:=(hd 37 (by kernel_rfl) (by kernel_rfl)).val rfl
    rw[e1,e2] at hK'⊢
    clear hd
    have t0:=HT38.out.1
    go_simp
    exact hK'.out _ _ (WtL.ofVal (by rw[←HT38.out.2];rfl)) (Below.refl _ _)
   ·clear hd
    go_simp
    refine(HC41.out _ (HB.out _ k)).mono ?_
    rintro e w2 ⟨rfl,h2⟩
    exact hK'.out _ _ (WtL.ofVal rfl) h2
   ·have e1:=(hd 38 (by kernel_rfl) (by kernel_rfl)).val rfl
    have e2:=(hd 41 (by kernel_rfl) (by kernel_rfl)).val rfl
    rw[e1,e2] at hK'⊢
    clear hd
    have t0:=HT42.out.1
    go_simp
    exact hK'.out _ _ (WtL.ofVal (by rw[←HT42.out.2];rfl)) (Below.refl _ _)
   ·have e1:=(hd 42 (by kernel_rfl) (by kernel_rfl)).val rfl
    rw[e1] at hK'⊢
    clear hd
    go_simp
    exact hK'.out _ _ (WtL.ofVal rfl) (Below.refl _ _)
  ·intro s w1 k hall
   have e0:=(hall (43,some 2) (by simp)).val rfl
   dsimp only at e0
   have HX:=Hd.mk (HB.out w1 k)
   simp only[foldPut,List.foldl_cons,List.foldl_nil,Act.put,List.setIfInBounds_toArray,List.set_cons_zero,List.set_cons_succ]
   rw[e0]
   clear hall k
   refine NoPanic.normal ?_
   go_wp2
   go_ret
   exact⟨rfl,HX.out⟩
 ·have hb2:rightO o=false:=by simpa using hb
  have hE:bytesO o=[]:=by unfold bytesO;rw[if_neg hb]
  rw[hE]
  rw[hb2] at hR
  have HRt:=Hd.mk hR
  clear hE hR hA hk hT z hb hb2
  unfold Ob.arr at HRt⊢
  obtain⟨n0,hn0⟩:∃n,o.secs.length=n:=⟨_,rfl⟩
  obtain⟨n1,hn1⟩:∃n,o.syms.length=n:=⟨_,rfl⟩
  obtain⟨n2,hn2⟩:∃n,o.rels.length=n:=⟨_,rfl⟩
  obtain⟨n3,hn3⟩:∃n,o.groups.length=n:=⟨_,rfl⟩
  obtain⟨n4,hn4⟩:∃n,o.inits.length=n:=⟨_,rfl⟩
  obtain⟨n5,hn5⟩:∃n,o.lines.length=n:=⟨_,rfl⟩
  obtain⟨n6,hn6⟩:∃n,o.inlines.length=n:=⟨_,rfl⟩
  obtain⟨n7,hn7⟩:∃n,o.vars.length=n:=⟨_,rfl⟩
  obtain⟨n8,hn8⟩:∃n,o.depths.length=n:=⟨_,rfl⟩
  obtain⟨n9,hn9⟩:∃n,o.converts.length=n:=⟨_,rfl⟩
  rw[hn0,hn1,hn2,hn3,hn4,hn5,hn6,hn7,hn8,hn9] at HRt⊢
  clear hn0 hn1 hn2 hn3 hn4 hn5 hn6 hn7 hn8 hn9
  go_enter Tryz.func17,Tryz.ntmps17
  go_wp2_with fail
  refine(HRt.out _ (below_alloc w _)).mono ?_
  rintro e w2 ⟨rfl,hb2⟩
  have HB0:Hd (Below w.heap.size w w2):=⟨below_first hb2⟩
  clear hb2
  go_wp2
  go_ret
  exact⟨rfl,HB0.out⟩
end Go.Proofs.YtfaepbjnpakghaaGreatDoor.W
