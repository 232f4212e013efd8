import Derived.Deep.Cut
import Derived.Deep.MidRow
import Derived.Laws.ResultCell
import Derived.Test.YtfaepbjnpakghaaGreatDoorKae
import Derived.Test.YtfaepbjnpakghaaGreatDoorKRkS
/- The walk of Read (printed by tools/gen_ro.py). -/
namespace Go.Proofs.YtfaepbjnpakghaaGreatDoor.W
open Go.RowKit
set_option linter.unusedVariables false
set_option linter.unusedSimpArgs false
def Fc.row {α:Type} (E:World→List Value→α→Prop) (m:Nat) (xs:List α) (op:Nat):Fc:=
 ⟨op,fun N v w=>(∃p c,v= .slice p xs.length c)∧Std N (fun w=>Rw m E w v xs) w,fun N N2 S v w w' h k h1 h2=>⟨h.1,h.2.keep k h1 h2⟩⟩
def Fc.ob (o:Ob) (op:Nat):Fc:=
 ⟨op,fun N v w=>∃x1 x2 x3 x4 x5 x6 x7 x8 x9 x10,v= .agg (o.arr x1 x2 x3 x4 x5 x6 x7 x8 x9 x10)∧(o.arr x1 x2 x3 x4 x5 x6 x7 x8 x9 x10).all (·.oneCell')=true∧Std N (fun w=>o.At w x1 x2 x3 x4 x5 x6 x7 x8 x9 x10) w,fun N N2 S v w w' ⟨x1,x2,x3,x4,x5,x6,x7,x8,x9,x10,h0,h3,h4⟩ k h1 h2=>⟨x1,x2,x3,x4,x5,x6,x7,x8,x9,x10,h0,h3,h4.keep k h1 h2⟩⟩
def zerosOb:List Value:=[.string ⟨#[]⟩, .slice none 0 0, .slice none 0 0, .slice none 0 0, .slice none 0 0, .slice none 0 0, .slice none 0 0, .slice none 0 0, .slice none 0 0, .slice none 0 0, .slice none 0 0]
def roN (N0:Nat) (fl:Bool) (s:Nat→Value):Nat→Prop:=fun g=>g<N0∨(fl=true∧s 36= .pointer (some ⟨g,0,none⟩))
structure RoI (fs:List Fc) (stL:List Rs) (b br bv N0:Nat) (W0:World) (k:Nat) (fl:Bool) (s:Nat→Value) (w:World):Prop where
 rd:∀st,stL[k]? =some st→OrW w b br bv st
 keep:Keeps (Two b br) W0 w
 facts:FcL fs k (roN N0 fl s) s w
 flo:fl=true→∃F,s 36= .pointer (some ⟨F,0,none⟩)∧N0≤F∧Blk w F 33 zerosOb
structure RoOk (fs:List Fc) (b br N0:Nat) (W0:World):Prop where
 ops:∀(i j:Nat) (f g:Fc),fs[i]? =some f→fs[j]? =some g→f.op=g.op→i=j
 no:∀(i:Nat) (f:Fc),fs[i]? =some f→f.op≠36
 b:b<N0
 br:br<N0
 N0:N0≤W0.heap.size
theorem ro_ok {fs:List Fc} {b br N0:Nat} {W0:World} {l:List Nat} (hl:fs.map Fc.op=l) (hn:l.Nodup) (h36:36∉l) (hb:b<N0) (hbr:br<N0) (hN:N0≤W0.heap.size):RoOk fs b br N0 W0 where
 ops i j f g hf hg h:=by
  subst hl
  have hi:=(List.getElem?_eq_some_iff.1 hf).1
  have hj:=(List.getElem?_eq_some_iff.1 hg).1
  have h1:(fs.map Fc.op)[i]? =(fs.map Fc.op)[j]? :=by rw[List.getElem?_map,List.getElem?_map,hf,hg];simp[h]
  exact(List.getElem?_inj (by simpa using hi) hn).1 h1
 no i f hf h:=by
  subst hl
  exact h36 (List.mem_map.2 ⟨f,List.mem_of_getElem? hf,h⟩)
 b:=hb
 br:=hbr
 N0:=hN
theorem roN_upd {N0:Nat} {fl:Bool} {s:Nat→Value} {j:Nat} {v:Value} (h:j≠36):roN N0 fl (upd s j v)=roN N0 fl s:=by
 unfold roN upd
 rw[if_neg (fun e=>h e.symm)]
theorem RoI.step0 {fs:List Fc} {stL:List Rs} {b br bv N0:Nat} {W0:World} {k:Nat} {fl:Bool} {s:Nat→Value} {w w':World} {v:Value} {f:Fc} (h:RoI fs stL b br bv N0 W0 k fl s w) (ok:RoOk fs b br N0 W0) (hf:fs[k]? =some f) (hr:∀st',stL[k+1]? =some st'→OrW w' b br bv st') (hk:Keeps (Two b br) w w') (hp:f.p (roN N0 fl s) v w'):
 RoI fs stL b br bv N0 W0 (k+1) fl (upd s f.op v) w':=by
 have hno:=ok.no k f hf
 have htwo:∀g,Two b br g→g<N0:=fun g c=>by rcases c with rfl | rfl;exact ok.b;exact ok.br
 refine⟨hr,h.keep.trans hk,?_,fun hfl=> ?_⟩
 ·rw[roN_upd hno]
  refine FcL.push (h.facts.keep hk (fun g _ c=> .inl (htwo g c)) (fun _ _ c=>c) (fun i g hi hg=> ?_)) hf ?_
  ·exact if_neg (fun e=>by have:=ok.ops i k g f hg hf e;omega)
  ·rw[show upd s f.op v f.op=v from if_pos rfl];exact hp
 ·obtain⟨F,h1,h2,h3⟩:=h.flo hfl
  exact⟨F,by rw[show upd s f.op v 36=s 36 from if_neg (fun e=>hno e.symm)];exact h1,h2,hk.blk h3 (fun c=>by have:=htwo F c;omega)⟩
theorem RoI.step {fs:List Fc} {stL:List Rs} {b br bv N0:Nat} {W0:World} {k:Nat} {fl:Bool} {s:Nat→Value} {w w':World} {v:Value} {f:Fc} (h:RoI fs stL b br bv N0 W0 k fl s w) (ok:RoOk fs b br N0 W0) (hf:fs[k]? =some f) (hr:∀st',stL[k+1]? =some st'→OrW w' b br bv st') (hk:Keeps (Two b br) w w') (hp:f.p (·<w.heap.size) v w'):
 RoI fs stL b br bv N0 W0 (k+1) fl (upd s f.op v) w':=
 h.step0 ok hf hr hk (f.keep _ _ (fun _=>False) v w' w' hp (Keeps.refl _ _) (fun _ _ c=>c.elim) (fun g _ c=>by
  rcases c with c | ⟨c1,c2⟩
  ·exact Nat.lt_of_lt_of_le c (Nat.le_trans ok.N0 h.keep.size)
  ·obtain⟨F,h1,h2,h3⟩:=h.flo c1
   rw[h1] at c2
   injection c2 with c2
   injection c2 with c2
   injection c2 with c2
   subst c2
   exact h3.lt))
theorem RoI.made {fs:List Fc} {stL:List Rs} {b br bv N0:Nat} {W0:World} {k:Nat} {s:Nat→Value} {w:World} (h:RoI fs stL b br bv N0 W0 k false s w) (ok:RoOk fs b br N0 W0):
 RoI fs stL b br bv N0 W0 k true (upd s 36 (.pointer (some ⟨w.heap.size,0,none⟩))) (w.alloc (.cells #[.string ⟨#[]⟩, .slice none 0 0, .slice none 0 0, .slice none 0 0, .slice none 0 0, .slice none 0 0, .slice none 0 0, .slice none 0 0, .slice none 0 0, .slice none 0 0, .slice none 0 0] 33)):=by
 refine⟨fun st hst=>(h.rd st hst).alloc _,h.keep.alloc _,h.facts.keep ((Keeps.refl (fun _=>False) w).alloc _) (fun _ _ c=>c.elim) (fun g hg c=> ?_) (fun i f hi hf=>if_neg (ok.no i f hf)),fun _=>⟨w.heap.size,if_pos rfl,Nat.le_trans ok.N0 h.keep.size,Blk.new w 33 zerosOb⟩⟩
 rcases c with c | ⟨_,c⟩
 ·exact .inl c
 ·rw[show upd s 36 (.pointer (some ⟨w.heap.size,0,none⟩)) 36= .pointer (some ⟨w.heap.size,0,none⟩) from if_pos rfl] at c
  injection c with c
  injection c with c
  injection c with c
  omega
theorem RoI.use {fs:List Fc} {stL:List Rs} {b br bv N0:Nat} {W0:World} {s:Nat→Value} {w:World} {o:Ob} {st':Rs} (h:RoI fs stL b br bv N0 W0 12 true s w) (hf:fs[11]? =some (Fc.ob o 35)) (hg:stL[12]? =some st') {G:Prop}
 (k:∀(F:Nat) (x1 x2 x3 x4 x5 x6 x7 x8 x9 x10:Value),Hd (s 36= .pointer (some ⟨F,0,none⟩)∧s 35= .agg (o.arr x1 x2 x3 x4 x5 x6 x7 x8 x9 x10))→Hd (N0≤F)→Hd (Blk w F 33 zerosOb)→Hd (OrW w b br bv st')→Hd (Keeps (Two b br) W0 w)→Hd ((o.arr x1 x2 x3 x4 x5 x6 x7 x8 x9 x10).all (·.oneCell')=true)→Hd (Std (fun g=>g<N0∨g=F) (fun w=>o.At w x1 x2 x3 x4 x5 x6 x7 x8 x9 x10) w)→G):G:=by
 obtain⟨F,hF1,hF2,hF3⟩:=h.flo rfl
 obtain⟨x1,x2,x3,x4,x5,x6,x7,x8,x9,x10,hv,hone,hAt⟩:=h.facts.at (i:=11) (by decide) hf
 exact k F x1 x2 x3 x4 x5 x6 x7 x8 x9 x10 ⟨⟨hF1,hv⟩⟩ ⟨hF2⟩ ⟨hF3⟩ ⟨h.rd _ hg⟩ ⟨h.keep⟩ ⟨hone⟩ ⟨hAt.mono (fun g _ c=>c.imp_right (fun c=>⟨rfl,by rw[c];exact hF1⟩))⟩
theorem results_row_tmp {P:Program} {fn:Func} {p u:Tmp} {ty:TypeId} (h:fn.results= #[.cell p ty, .tmp u]) (tmps:Array Value) (w:World) (g:Nat) (t:TypeId) (cs:Array Value) (fr:Nat × Nat) (d:TypeDesc)
 (hp:tmps.getD p undef= .pointer (some ⟨g,0,none⟩)) (hg:w.heap[g]? =some (.cells cs t fr))
 (hu:P.underlying ty=some d) (hd:(match d with | .struct _ | .array _ _=>true | _=>false)=true) (hi:(P.info? ty).map (·.size)=some cs.size):
 (results fn tmps).run P w= .ok (.tuple #[.agg cs,tmps.getD u undef]) w:=by
 rw[results_cell_tmp h,hp]
 simp[asAddr,run_loadVar_row w g t ty cs fr d hg hu hd hi]
theorem zeros_one:(#[.string ⟨#[]⟩, .slice none 0 0, .slice none 0 0, .slice none 0 0, .slice none 0 0, .slice none 0 0, .slice none 0 0, .slice none 0 0, .slice none 0 0, .slice none 0 0, .slice none 0 0]:Array Value).all (·.oneCell')=true:=by simp[Value.oneCell']
theorem zero_at (w:World):zeroOb.At w (.slice none 0 0) (.slice none 0 0) (.slice none 0 0) (.slice none 0 0) (.slice none 0 0) (.slice none 0 0) (.slice none 0 0) (.slice none 0 0) (.slice none 0 0) (.slice none 0 0):=
 ⟨Rw.nil w,Rw.nil w,Rw.nil w,Rw.nil w,Rw.nil w,Rw.nil w,Rw.nil w,Rw.nil w,Rw.nil w,Rw.nil w⟩
theorem arr_one (o:Ob) (p1 p2 p3 p4 p5 p6 p7 p8 p9 p10:Option Addr) (n1 n2 n3 n4 n5 n6 n7 n8 n9 n10 c1 c2 c3 c4 c5 c6 c7 c8 c9 c10:Nat):(o.arr (.slice p1 n1 c1) (.slice p2 n2 c2) (.slice p3 n3 c3) (.slice p4 n4 c4) (.slice p5 n5 c5) (.slice p6 n6 c6) (.slice p7 n7 c7) (.slice p8 n8 c8) (.slice p9 n9 c9) (.slice p10 n10 c10)).all (·.oneCell')=true:=by
 unfold Ob.arr
 simp[Value.oneCell']
def roW (w:World) (s:ByteArray):World:=(((w.alloc (.cells #[.string ⟨#[]⟩, .slice none 0 0, .slice none 0 0, .slice none 0 0, .slice none 0 0, .slice none 0 0, .slice none 0 0, .slice none 0 0, .slice none 0 0, .slice none 0 0, .slice none 0 0] 33)).alloc (.cells #[.string s, .bool false] 159)).alloc (.cells #[.pointer (some ⟨w.heap.size+1,0,none⟩), .bool false] 70)).alloc (.cells #[.pointer (some ⟨w.heap.size+1+1,0,none⟩)] 66)
structure RoW (w W:World) (s:ByteArray):Prop where
 rd:OrW W (w.heap.size+1) (w.heap.size+1+1) (w.heap.size+1+1+1) ⟨strT s,false,false⟩
 res:Blk W w.heap.size 33 zerosOb
 keep:Below w.heap.size w W
 size:W.heap.size=w.heap.size+1+1+1+1
theorem ro_start (w:World) (s:ByteArray):RoW w (roW w s).drew s:=by
 have hs:(⟨(strT s).toArray⟩:ByteArray)=s:=by unfold strT;simp
 have e1:(w.alloc (.cells #[.string ⟨#[]⟩, .slice none 0 0, .slice none 0 0, .slice none 0 0, .slice none 0 0, .slice none 0 0, .slice none 0 0, .slice none 0 0, .slice none 0 0, .slice none 0 0, .slice none 0 0] 33)).heap.size=w.heap.size+1:=by simp
 have h1:=Blk.new (w.alloc (.cells #[.string ⟨#[]⟩, .slice none 0 0, .slice none 0 0, .slice none 0 0, .slice none 0 0, .slice none 0 0, .slice none 0 0, .slice none 0 0, .slice none 0 0, .slice none 0 0, .slice none 0 0] 33)) 159 [.string s, .bool false]
 rw[e1] at h1
 have h2:=Blk.new ((w.alloc (.cells #[.string ⟨#[]⟩, .slice none 0 0, .slice none 0 0, .slice none 0 0, .slice none 0 0, .slice none 0 0, .slice none 0 0, .slice none 0 0, .slice none 0 0, .slice none 0 0, .slice none 0 0] 33)).alloc (.cells #[.string s, .bool false] 159)) 70 [.pointer (some ⟨w.heap.size+1,0,none⟩), .bool false]
 have e2:((w.alloc (.cells #[.string ⟨#[]⟩, .slice none 0 0, .slice none 0 0, .slice none 0 0, .slice none 0 0, .slice none 0 0, .slice none 0 0, .slice none 0 0, .slice none 0 0, .slice none 0 0, .slice none 0 0] 33)).alloc (.cells #[.string s, .bool false] 159)).heap.size=w.heap.size+1+1:=by simp
 rw[e2] at h2
 have h3:=Blk.new (((w.alloc (.cells #[.string ⟨#[]⟩, .slice none 0 0, .slice none 0 0, .slice none 0 0, .slice none 0 0, .slice none 0 0, .slice none 0 0, .slice none 0 0, .slice none 0 0, .slice none 0 0, .slice none 0 0] 33)).alloc (.cells #[.string s, .bool false] 159)).alloc (.cells #[.pointer (some ⟨w.heap.size+1,0,none⟩), .bool false] 70)) 66 [.pointer (some ⟨w.heap.size+1+1,0,none⟩)]
 have e3:(((w.alloc (.cells #[.string ⟨#[]⟩, .slice none 0 0, .slice none 0 0, .slice none 0 0, .slice none 0 0, .slice none 0 0, .slice none 0 0, .slice none 0 0, .slice none 0 0, .slice none 0 0, .slice none 0 0] 33)).alloc (.cells #[.string s, .bool false] 159)).alloc (.cells #[.pointer (some ⟨w.heap.size+1,0,none⟩), .bool false] 70)).heap.size=w.heap.size+1+1+1:=by simp
 rw[e3] at h3
 refine⟨⟨⟨?_⟩,(h2.alloc _).drew,h3.drew⟩,((((Blk.new w 33 zerosOb).alloc _).alloc _).alloc _).drew,?_,by simp[roW]⟩
 ·show Blk _ _ _ [.string ⟨(strT s).toArray⟩, .bool false]
  rw[hs];exact((h1.alloc _).alloc _).drew
 ·unfold roW;go_grown
set_option maxRecDepth 100000 in
set_option maxHeartbeats 8000000 in
theorem oread_any (w:World) (s:ByteArray) (hs:s.size≤800000) (hF:FormsAt w):
 Calls Tryz.prog 10 #[.string s] w fun e w'=>∃(x1 x2 x3 x4 x5 x6 x7 x8 x9 x10:Value),e= .returned (.tuple #[.agg ((readO (strT s)).arr x1 x2 x3 x4 x5 x6 x7 x8 x9 x10), .bool (readL (strT s)).isSome])∧Std (·<w.heap.size) (fun w=>(readO (strT s)).At w x1 x2 x3 x4 x5 x6 x7 x8 x9 x10) w'∧Below w.heap.size w w':=by
 have hl:(strT s).length≤800000:=by unfold strT;simpa using hs
 obtain⟨hok,hb1,hb2,hb3⟩:=Ob.rd_ok ⟨strT s,false,false⟩ hl
 have hd2:= @okR_bad2 (Ob.rd ⟨strT s,false,false⟩)
 have hd3:= @okR_done (Ob.rd ⟨strT s,false,false⟩)
 have hsome:= @readL_some (strT s)
 have hnone:= @readL_none (strT s)
 have l0:=text_rest ⟨strT s,false,false⟩
 obtain⟨st,hst⟩:∃st:Rs,(⟨strT s,false,false⟩:Rs)=st:=⟨_,rfl⟩
 have hlst:st.rest.length≤800000:=by rw[←hst];exact hl
 rw[hst] at hok hb1 hb2 hb3 hd2 hd3 hsome hnone l0
 obtain⟨a0,ha0⟩:∃a,textD st=a:=⟨_,rfl⟩
 obtain⟨a1,ha1⟩:∃a,(listD Sec.rd) a0.2=a:=⟨_,rfl⟩
 obtain⟨a2,ha2⟩:∃a,(listD Sym.rd) a1.2=a:=⟨_,rfl⟩
 obtain⟨a3,ha3⟩:∃a,(listD Rel.rd) a2.2=a:=⟨_,rfl⟩
 obtain⟨a4,ha4⟩:∃a,(listD Grp.rd) a3.2=a:=⟨_,rfl⟩
 obtain⟨a5,ha5⟩:∃a,(listD Ini.rd) a4.2=a:=⟨_,rfl⟩
 obtain⟨a6,ha6⟩:∃a,(listD Lne.rd) a5.2=a:=⟨_,rfl⟩
 obtain⟨a7,ha7⟩:∃a,(listD Inl.rd) a6.2=a:=⟨_,rfl⟩
 obtain⟨a8,ha8⟩:∃a,(listD Vrr.rd) a7.2=a:=⟨_,rfl⟩
 obtain⟨a9,ha9⟩:∃a,(listD Dep.rd) a8.2=a:=⟨_,rfl⟩
 obtain⟨a10,ha10⟩:∃a,(listD Cnv.rd) a9.2=a:=⟨_,rfl⟩
 have hE:Ob.rd st=(⟨a0.1,a1.1,a2.1,a3.1,a4.1,a5.1,a6.1,a7.1,a8.1,a9.1,a10.1⟩,a10.2):=by simp only[Ob.rd,ha0,ha1,ha2,ha3,ha4,ha5,ha6,ha7,ha8,ha9,ha10]
 rw[hE] at hok hb1 hb2 hb3 hd2 hd3 hsome hnone
 dsimp only at hd2 hd3 hsome hnone
 rw[ha0] at l0
 have r0:=Nat.le_trans l0 hlst
 have HC0:=Hd.mk (fun w1 b br bv (h1:OrW w1 b br bv st)=>oText_any h1 (Nat.le_trans hlst (by decide)))
 rw[ha0] at HC0
 have l1:=listD_len Sec.rd_len a0.2
 rw[ha1] at l1
 have r1:=Nat.le_trans l1 r0
 have HC1:=Hd.mk (fun w1 b br bv (h1:OrW w1 b br bv a0.2)=>rdSec_any w1 b br bv a0.2 34 #[.pointer (some ⟨bv,0,none⟩)] h1 (Nat.le_trans r0 (by decide)) rSec_fn)
 rw[ha1] at HC1
 have l2:=listD_len Sym.rd_len a1.2
 rw[ha2] at l2
 have r2:=Nat.le_trans l2 r1
 have HC2:=Hd.mk (fun w1 b br bv (h1:OrW w1 b br bv a1.2)=>rdSym_any w1 b br bv a1.2 38 #[.pointer (some ⟨bv,0,none⟩)] h1 (Nat.le_trans r1 (by decide)) rSym_fn)
 rw[ha2] at HC2
 have l3:=listD_len Rel.rd_len a2.2
 rw[ha3] at l3
 have r3:=Nat.le_trans l3 r2
 have HC3:=Hd.mk (fun w1 b br bv (h1:OrW w1 b br bv a2.2)=>rdRel_any w1 b br bv a2.2 41 #[.pointer (some ⟨bv,0,none⟩)] h1 (Nat.le_trans r2 (by decide)) rRel_fn)
 rw[ha3] at HC3
 have l4:=listD_len Grp.rd_len a3.2
 rw[ha4] at l4
 have r4:=Nat.le_trans l4 r3
 have HC4:=Hd.mk (fun w1 b br bv (h1:OrW w1 b br bv a3.2)=>rdGrp_any w1 b br bv a3.2 43 #[.pointer (some ⟨bv,0,none⟩)] h1 (Nat.le_trans r3 (by decide)) rGrp_fn)
 rw[ha4] at HC4
 have l5:=listD_len Ini.rd_len a4.2
 rw[ha5] at l5
 have r5:=Nat.le_trans l5 r4
 have HC5:=Hd.mk (fun w1 b br bv (h1:OrW w1 b br bv a4.2)=>rdIni_any w1 b br bv a4.2 46 #[.pointer (some ⟨bv,0,none⟩)] h1 (Nat.le_trans r4 (by decide)) rIni_fn)
 rw[ha5] at HC5
 have l6:=listD_len Lne.rd_len a5.2
 rw[ha6] at l6
 have r6:=Nat.le_trans l6 r5
 have HC6:=Hd.mk (fun w1 b br bv (h1:OrW w1 b br bv a5.2)=>rdLne_any w1 b br bv a5.2 48 #[.pointer (some ⟨bv,0,none⟩)] h1 (Nat.le_trans r5 (by decide)) rLne_fn)
 rw[ha6] at HC6
 have l7:=listD_len Inl.rd_len a6.2
 rw[ha7] at l7
 have r7:=Nat.le_trans l7 r6
 have HC7:=Hd.mk (fun w1 b br bv (h1:OrW w1 b br bv a6.2)=>rdInl_any w1 b br bv a6.2 50 #[.pointer (some ⟨bv,0,none⟩)] h1 (Nat.le_trans r6 (by decide)) rInl_fn)
 rw[ha7] at HC7
 have l8:=listD_len Vrr.rd_len a7.2
 rw[ha8] at l8
 have r8:=Nat.le_trans l8 r7
 have HC8:=Hd.mk (fun w1 b br bv (h1:OrW w1 b br bv a7.2)=>rdVrr_any w1 b br bv a7.2 52 #[.pointer (some ⟨bv,0,none⟩)] h1 (Nat.le_trans r7 (by decide)) rVrr_fn)
 rw[ha8] at HC8
 have l9:=listD_len Dep.rd_len a8.2
 rw[ha9] at l9
 have r9:=Nat.le_trans l9 r8
 have HC9:=Hd.mk (fun w1 b br bv (h1:OrW w1 b br bv a8.2)=>rdDep_any w1 b br bv a8.2 54 #[.pointer (some ⟨bv,0,none⟩)] h1 (Nat.le_trans r8 (by decide)) rDep_fn)
 rw[ha9] at HC9
 have l10:=listD_len Cnv.rd_len a9.2
 rw[ha10] at l10
 have r10:=Nat.le_trans l10 r9
 have HC10:=Hd.mk (fun w1 b br bv (h1:OrW w1 b br bv a9.2)=>rdCnv_any w1 b br bv a9.2 56 #[.pointer (some ⟨bv,0,none⟩)] h1 (Nat.le_trans r9 (by decide)) rCnv_fn)
 rw[ha10] at HC10
 obtain⟨fs,hfs⟩:∃fs:List Fc,[Fc.str 4 a0.1,Fc.row Sec.E 6 a1.1 7,Fc.row Sym.E 10 a2.1 10,Fc.row Rel.E 5 a3.1 13,Fc.row Grp.E 2 a4.1 16,Fc.row Ini.E 3 a5.1 19,Fc.row Lne.E 4 a6.1 22,Fc.row Inl.E 6 a7.1 25,Fc.row Vrr.E 6 a8.1 28,Fc.row Dep.E 4 a9.1 31,Fc.row Cnv.E 4 a10.1 34,Fc.ob ⟨a0.1,a1.1,a2.1,a3.1,a4.1,a5.1,a6.1,a7.1,a8.1,a9.1,a10.1⟩ 35]=fs:=⟨_,rfl⟩
 obtain⟨stL,hstL⟩:∃l:List Rs,[st,a0.2,a1.2,a2.2,a3.2,a4.2,a5.2,a6.2,a7.2,a8.2,a9.2,a10.2,a10.2]=l:=⟨_,rfl⟩
 have hf0:fs[0]? =some (Fc.str 4 a0.1):=by rw[←hfs];rfl
 have hf1:fs[1]? =some (Fc.row Sec.E 6 a1.1 7):=by rw[←hfs];rfl
 have hf2:fs[2]? =some (Fc.row Sym.E 10 a2.1 10):=by rw[←hfs];rfl
 have hf3:fs[3]? =some (Fc.row Rel.E 5 a3.1 13):=by rw[←hfs];rfl
 have hf4:fs[4]? =some (Fc.row Grp.E 2 a4.1 16):=by rw[←hfs];rfl
 have hf5:fs[5]? =some (Fc.row Ini.E 3 a5.1 19):=by rw[←hfs];rfl
 have hf6:fs[6]? =some (Fc.row Lne.E 4 a6.1 22):=by rw[←hfs];rfl
 have hf7:fs[7]? =some (Fc.row Inl.E 6 a7.1 25):=by rw[←hfs];rfl
 have hf8:fs[8]? =some (Fc.row Vrr.E 6 a8.1 28):=by rw[←hfs];rfl
 have hf9:fs[9]? =some (Fc.row Dep.E 4 a9.1 31):=by rw[←hfs];rfl
 have hf10:fs[10]? =some (Fc.row Cnv.E 4 a10.1 34):=by rw[←hfs];rfl
 have hf11:fs[11]? =some (Fc.ob ⟨a0.1,a1.1,a2.1,a3.1,a4.1,a5.1,a6.1,a7.1,a8.1,a9.1,a10.1⟩ 35):=by rw[←hfs];rfl
 have hs0:∀x,stL[0]? =some x→x=st:=fun x h=>by rw[←hstL] at h;cases h;rfl
 have hs1:∀x,stL[1]? =some x→x=a0.2:=fun x h=>by rw[←hstL] at h;cases h;rfl
 have hs2:∀x,stL[2]? =some x→x=a1.2:=fun x h=>by rw[←hstL] at h;cases h;rfl
 have hs3:∀x,stL[3]? =some x→x=a2.2:=fun x h=>by rw[←hstL] at h;cases h;rfl
 have hs4:∀x,stL[4]? =some x→x=a3.2:=fun x h=>by rw[←hstL] at h;cases h;rfl
 have hs5:∀x,stL[5]? =some x→x=a4.2:=fun x h=>by rw[←hstL] at h;cases h;rfl
 have hs6:∀x,stL[6]? =some x→x=a5.2:=fun x h=>by rw[←hstL] at h;cases h;rfl
 have hs7:∀x,stL[7]? =some x→x=a6.2:=fun x h=>by rw[←hstL] at h;cases h;rfl
 have hs8:∀x,stL[8]? =some x→x=a7.2:=fun x h=>by rw[←hstL] at h;cases h;rfl
 have hs9:∀x,stL[9]? =some x→x=a8.2:=fun x h=>by rw[←hstL] at h;cases h;rfl
 have hs10:∀x,stL[10]? =some x→x=a9.2:=fun x h=>by rw[←hstL] at h;cases h;rfl
 have hs11:∀x,stL[11]? =some x→x=a10.2:=fun x h=>by rw[←hstL] at h;cases h;rfl
 have hs12:∀x,stL[12]? =some x→x=a10.2:=fun x h=>by rw[←hstL] at h;cases h;rfl
 have hg0:stL[0]? =some st:=by rw[←hstL];rfl
 have hg1:stL[1]? =some a0.2:=by rw[←hstL];rfl
 have hg2:stL[2]? =some a1.2:=by rw[←hstL];rfl
 have hg3:stL[3]? =some a2.2:=by rw[←hstL];rfl
 have hg4:stL[4]? =some a3.2:=by rw[←hstL];rfl
 have hg5:stL[5]? =some a4.2:=by rw[←hstL];rfl
 have hg6:stL[6]? =some a5.2:=by rw[←hstL];rfl
 have hg7:stL[7]? =some a6.2:=by rw[←hstL];rfl
 have hg8:stL[8]? =some a7.2:=by rw[←hstL];rfl
 have hg9:stL[9]? =some a8.2:=by rw[←hstL];rfl
 have hg10:stL[10]? =some a9.2:=by rw[←hstL];rfl
 have hg11:stL[11]? =some a10.2:=by rw[←hstL];rfl
 have hg12:stL[12]? =some a10.2:=by rw[←hstL];rfl
 have hops:fs.map Fc.op=[4,7,10,13,16,19,22,25,28,31,34,35]:=by rw[←hfs];rfl
 have HOp:=Hd.mk (fun w=>wOpen_any w s)
 have HW:=Hd.mk (ro_start w s)
 have hrd:=HW.out.rd
 rw[hst] at hrd
 have HRd:=Hd.mk hrd
 have HPl:=Hd.mk (And.intro hok (And.intro hb1 (And.intro hb2 hb3)))
 have HD:=Hd.mk (And.intro hd2 hd3)
 have HSN:=Hd.mk (And.intro hsome hnone)
 have HFm:=Hd.mk hF
 have HSt:=Hd.mk hst
 have HF0:=Hd.mk hf0
 have HF1:=Hd.mk hf1
 have HF2:=Hd.mk hf2
 have HF3:=Hd.mk hf3
 have HF4:=Hd.mk hf4
 have HF5:=Hd.mk hf5
 have HF6:=Hd.mk hf6
 have HF7:=Hd.mk hf7
 have HF8:=Hd.mk hf8
 have HF9:=Hd.mk hf9
 have HF10:=Hd.mk hf10
 have HF11:=Hd.mk hf11
 have HG0:=Hd.mk (And.intro hs0 hg0)
 have HG1:=Hd.mk (And.intro hs1 hg1)
 have HG2:=Hd.mk (And.intro hs2 hg2)
 have HG3:=Hd.mk (And.intro hs3 hg3)
 have HG4:=Hd.mk (And.intro hs4 hg4)
 have HG5:=Hd.mk (And.intro hs5 hg5)
 have HG6:=Hd.mk (And.intro hs6 hg6)
 have HG7:=Hd.mk (And.intro hs7 hg7)
 have HG8:=Hd.mk (And.intro hs8 hg8)
 have HG9:=Hd.mk (And.intro hs9 hg9)
 have HG10:=Hd.mk (And.intro hs10 hg10)
 have HG11:=Hd.mk (And.intro hs11 hg11)
 have HG12:=Hd.mk (And.intro hs12 hg12)
 have HOps:=Hd.mk hops
 have HLen:Hd (stL.length=13):=⟨by rw[←hstL];rfl⟩
 have HOk:Hd (RoOk fs (w.heap.size+1) (w.heap.size+1+1) (w.heap.size+1+1+1+1) (roW w s).drew):=⟨ro_ok hops (by decide) (by decide) (by omega) (by omega) (by rw[HW.out.size];exact Nat.le_refl _)⟩
 clear hrd hok hb1 hb2 hb3 hd2 hd3 hsome hnone hF hl hs hst hlst hE hfs hstL hops hs12 hg12 l0 r0 ha0 l1 r1 ha1 l2 r2 ha2 l3 r3 ha3 l4 r4 ha4 l5 r5 ha5 l6 r6 ha6 l7 r7 ha7 l8 r8 ha8 l9 r9 ha9 l10 r10 ha10 hf0 hs0 hg0 hf1 hs1 hg1 hf2 hs2 hg2 hf3 hs3 hg3 hf4 hs4 hg4 hf5 hs5 hg5 hf6 hs6 hg6 hf7 hs7 hg7 hf8 hs8 hg8 hf9 hs9 hg9 hf10 hs10 hg10 hf11 hs11 hg11
 go_enter Tryz.func10,Tryz.ntmps10
 go_wp2_with fail
 refine(HOp.out _).mono ?_
 rintro e w1 ⟨rfl,h1,hw1⟩
 subst hw1
 clear h1 HOp
 go_wp2_with fail
 obtain⟨b,hb⟩:∃b,w.heap.size+1=b:=⟨_,rfl⟩
 obtain⟨br,hbr⟩:∃b,w.heap.size+1+1=b:=⟨_,rfl⟩
 obtain⟨bv,hbv⟩:∃b,w.heap.size+1+1+1=b:=⟨_,rfl⟩
 obtain⟨N0,hN0⟩:∃b,w.heap.size+1+1+1+1=b:=⟨_,rfl⟩
 have hSd:(roW w s).drew.cell? ⟨bv,0,none⟩=some (.pointer (some ⟨br,0,none⟩))∧(roW w s).drew.cell? ⟨br,0,none⟩=some (.pointer (some ⟨b,0,none⟩)):=by
  rw[←hb,←hbr,←hbv]
  exact⟨HRd.out.var.at (j:=0) rfl,HRd.out.own.at (j:=0) rfl⟩
 refine wp_region_lin3 default (fun w'=>w'.cell? ⟨bv,0,none⟩=some (.pointer (some ⟨br,0,none⟩))∧w'.cell? ⟨br,0,none⟩=some (.pointer (some ⟨b,0,none⟩))) [.free 0, .free 1, .free 2, .free 3, .free 5, .free 6, .free 8, .free 9, .free 11, .free 12, .free 14, .free 15, .free 17, .free 18, .free 20, .free 21, .free 23, .free 24, .free 26, .free 27, .free 29, .free 30, .free 32, .free 33, .fl 36 [4,7,10,13,16,19,22,25,28,31,34,35], .one 37] (by kernel_rfl) (by kernel_rfl) rfl (by kernel_rfl) (by kernel_rfl) hSd ?_
 obtain⟨W0,hW0⟩:∃W,(roW w s).drew=W:=⟨_,rfl⟩
 rw[hW0] at HOk HRd HW
 have hW0':=hW0
 unfold roW at hW0'
 rw[hW0']
 clear hW0' hW0 hSd
 rw[hbv,hbr,hb] at HRd⊢
 rw[hN0,hbr,hb] at HOk
 have HNs:=Hd.mk (And.intro hb (And.intro hbr (And.intro hbv hN0)))
 clear hb hbr hbv hN0
 repeat
  refine lin3_free (v:= ?_) (by rfl) ?_ ?_
  rotate_left
  ·intro w' hSw
   have d0:=hSw.1
   have d1:=hSw.2
   clear hSw
   go_simp
   first | done | with_reducible rfl
  simp only[Act.put,List.setIfInBounds_toArray,List.set_cons_zero,List.set_cons_succ,List.getD_cons_zero,List.getD_cons_succ]
 refine lin3_flo [(4,some 14),(7,some 17),(10,some 20),(13,some 23),(16,some 26),(19,some 29),(22,some 32),(25,some 35),(28,some 38),(31,some 41),(34,some 44),(35,some 45),(36,some 5)] [(4,some 14),(7,some 17),(10,some 20),(13,some 23),(16,some 26),(19,some 29),(22,some 32),(25,some 35),(28,some 38),(31,some 41),(34,some 44),(35,some 45)] (36,some 5) (fun _=>undef) (fun k fl s w=>RoI fs stL b br bv N0 W0 k fl s w) (by kernel_rfl) (by decide) (by decide) (by kernel_rfl) ⟨fun x hx=>by rw[HG0.out.1 x hx];exact HRd.out,Keeps.refl _ _,FcL.zero _ _ _ _,fun h=>by cases h⟩ ?_ ?_ ?_
 ·simp only[StepsF,flStep,List.getD_cons_zero,List.getD_cons_succ]
  refine⟨?_,?_,?_,?_,?_,?_,?_,?_,?_,?_,?_,?_,trivial⟩
  all_goals
   intro fl s1 w1 hI K' hK'
   simp only[foldPut,List.foldl_cons,List.foldl_nil,Act.put,List.setIfInBounds_toArray,List.set_cons_zero,List.set_cons_succ] at hK'⊢
  ·have ho:=hI.rd _ HG0.out.2
   have HI:=Hd.mk hI
   have HO:=Hd.mk ho
   clear hI ho
   go_simp
   refine(HC0.out w1 b br bv HO.out).mono ?_
   rintro e w2 ⟨rfl,h1,k1⟩
   exact hK'.out _ _ ⟨h1.var.at (j:=0) rfl,h1.own.at (j:=0) rfl⟩ (HI.out.step HOk.out HF0.out (fun x hx=>by rw[HG1.out.1 x hx];exact h1) k1 rfl)
  ·have ho:=hI.rd _ HG1.out.2
   have HI:=Hd.mk hI
   have HO:=Hd.mk ho
   clear hI ho
   go_simp
   refine(HC1.out w1 b br bv HO.out).mono ?_
   rintro e w2 ⟨v,rfl,hv,h1,k1⟩
   exact hK'.out _ _ ⟨h1.var.at (j:=0) rfl,h1.own.at (j:=0) rfl⟩ (HI.out.step HOk.out HF1.out (fun x hx=>by rw[HG2.out.1 x hx];exact h1) k1 ⟨hv.slice,hv.std⟩)
  ·have ho:=hI.rd _ HG2.out.2
   have HI:=Hd.mk hI
   have HO:=Hd.mk ho
   clear hI ho
   go_simp
   refine(HC2.out w1 b br bv HO.out).mono ?_
   rintro e w2 ⟨v,rfl,hv,h1,k1⟩
   exact hK'.out _ _ ⟨h1.var.at (j:=0) rfl,h1.own.at (j:=0) rfl⟩ (HI.out.step HOk.out HF2.out (fun x hx=>by rw[HG3.out.1 x hx];exact h1) k1 ⟨hv.slice,hv.std⟩)
  ·have ho:=hI.rd _ HG3.out.2
   have HI:=Hd.mk hI
   have HO:=Hd.mk ho
   clear hI ho
   go_simp
   refine(HC3.out w1 b br bv HO.out).mono ?_
   rintro e w2 ⟨v,rfl,hv,h1,k1⟩
   exact hK'.out _ _ ⟨h1.var.at (j:=0) rfl,h1.own.at (j:=0) rfl⟩ (HI.out.step HOk.out HF3.out (fun x hx=>by rw[HG4.out.1 x hx];exact h1) k1 ⟨hv.slice,hv.std⟩)
  ·have ho:=hI.rd _ HG4.out.2
   have HI:=Hd.mk hI
   have HO:=Hd.mk ho
   clear hI ho
   go_simp
   refine(HC4.out w1 b br bv HO.out).mono ?_
   rintro e w2 ⟨v,rfl,hv,h1,k1⟩
   exact hK'.out _ _ ⟨h1.var.at (j:=0) rfl,h1.own.at (j:=0) rfl⟩ (HI.out.step HOk.out HF4.out (fun x hx=>by rw[HG5.out.1 x hx];exact h1) k1 ⟨hv.slice,hv.std⟩)
  ·have ho:=hI.rd _ HG5.out.2
   have HI:=Hd.mk hI
   have HO:=Hd.mk ho
   clear hI ho
   go_simp
   refine(HC5.out w1 b br bv HO.out).mono ?_
   rintro e w2 ⟨v,rfl,hv,h1,k1⟩
   exact hK'.out _ _ ⟨h1.var.at (j:=0) rfl,h1.own.at (j:=0) rfl⟩ (HI.out.step HOk.out HF5.out (fun x hx=>by rw[HG6.out.1 x hx];exact h1) k1 ⟨hv.slice,hv.std⟩)
  ·have ho:=hI.rd _ HG6.out.2
   have HI:=Hd.mk hI
   have HO:=Hd.mk ho
   clear hI ho
   go_simp
   refine(HC6.out w1 b br bv HO.out).mono ?_
   rintro e w2 ⟨v,rfl,hv,h1,k1⟩
   exact hK'.out _ _ ⟨h1.var.at (j:=0) rfl,h1.own.at (j:=0) rfl⟩ (HI.out.step HOk.out HF6.out (fun x hx=>by rw[HG7.out.1 x hx];exact h1) k1 ⟨hv.slice,hv.std⟩)
  ·have ho:=hI.rd _ HG7.out.2
   have HI:=Hd.mk hI
   have HO:=Hd.mk ho
   clear hI ho
   go_simp
   refine(HC7.out w1 b br bv HO.out).mono ?_
   rintro e w2 ⟨v,rfl,hv,h1,k1⟩
   exact hK'.out _ _ ⟨h1.var.at (j:=0) rfl,h1.own.at (j:=0) rfl⟩ (HI.out.step HOk.out HF7.out (fun x hx=>by rw[HG8.out.1 x hx];exact h1) k1 ⟨hv.slice,hv.std⟩)
  ·have ho:=hI.rd _ HG8.out.2
   have HI:=Hd.mk hI
   have HO:=Hd.mk ho
   clear hI ho
   go_simp
   refine(HC8.out w1 b br bv HO.out).mono ?_
   rintro e w2 ⟨v,rfl,hv,h1,k1⟩
   exact hK'.out _ _ ⟨h1.var.at (j:=0) rfl,h1.own.at (j:=0) rfl⟩ (HI.out.step HOk.out HF8.out (fun x hx=>by rw[HG9.out.1 x hx];exact h1) k1 ⟨hv.slice,hv.std⟩)
  ·have ho:=hI.rd _ HG9.out.2
   have HI:=Hd.mk hI
   have HO:=Hd.mk ho
   clear hI ho
   go_simp
   refine(HC9.out w1 b br bv HO.out).mono ?_
   rintro e w2 ⟨v,rfl,hv,h1,k1⟩
   exact hK'.out _ _ ⟨h1.var.at (j:=0) rfl,h1.own.at (j:=0) rfl⟩ (HI.out.step HOk.out HF9.out (fun x hx=>by rw[HG10.out.1 x hx];exact h1) k1 ⟨hv.slice,hv.std⟩)
  ·have ho:=hI.rd _ HG10.out.2
   have HI:=Hd.mk hI
   have HO:=Hd.mk ho
   clear hI ho
   go_simp
   refine(HC10.out w1 b br bv HO.out).mono ?_
   rintro e w2 ⟨v,rfl,hv,h1,k1⟩
   exact hK'.out _ _ ⟨h1.var.at (j:=0) rfl,h1.own.at (j:=0) rfl⟩ (HI.out.step HOk.out HF10.out (fun x hx=>by rw[HG11.out.1 x hx];exact h1) k1 ⟨hv.slice,hv.std⟩)
  ·have ho:=hI.rd _ HG11.out.2
   have HI:=Hd.mk hI
   have e0:s1 4= .string a0.1:=hI.facts.at (i:=0) (by decide) HF0.out
   obtain⟨⟨p1,c1,e1⟩,q1⟩:=hI.facts.at (i:=1) (by decide) HF1.out
   obtain⟨⟨p2,c2,e2⟩,q2⟩:=hI.facts.at (i:=2) (by decide) HF2.out
   obtain⟨⟨p3,c3,e3⟩,q3⟩:=hI.facts.at (i:=3) (by decide) HF3.out
   obtain⟨⟨p4,c4,e4⟩,q4⟩:=hI.facts.at (i:=4) (by decide) HF4.out
   obtain⟨⟨p5,c5,e5⟩,q5⟩:=hI.facts.at (i:=5) (by decide) HF5.out
   obtain⟨⟨p6,c6,e6⟩,q6⟩:=hI.facts.at (i:=6) (by decide) HF6.out
   obtain⟨⟨p7,c7,e7⟩,q7⟩:=hI.facts.at (i:=7) (by decide) HF7.out
   obtain⟨⟨p8,c8,e8⟩,q8⟩:=hI.facts.at (i:=8) (by decide) HF8.out
   obtain⟨⟨p9,c9,e9⟩,q9⟩:=hI.facts.at (i:=9) (by decide) HF9.out
   obtain⟨⟨p10,c10,e10⟩,q10⟩:=hI.facts.at (i:=10) (by decide) HF10.out
   replace e1:s1 7= .slice p1 a1.1.length c1:=e1
   replace e2:s1 10= .slice p2 a2.1.length c2:=e2
   replace e3:s1 13= .slice p3 a3.1.length c3:=e3
   replace e4:s1 16= .slice p4 a4.1.length c4:=e4
   replace e5:s1 19= .slice p5 a5.1.length c5:=e5
   replace e6:s1 22= .slice p6 a6.1.length c6:=e6
   replace e7:s1 25= .slice p7 a7.1.length c7:=e7
   replace e8:s1 28= .slice p8 a8.1.length c8:=e8
   replace e9:s1 31= .slice p9 a9.1.length c9:=e9
   replace e10:s1 34= .slice p10 a10.1.length c10:=e10
   rw[show(Fc.row Sec.E 6 a1.1 7).op=7 from rfl,e1] at q1
   rw[show(Fc.row Sym.E 10 a2.1 10).op=10 from rfl,e2] at q2
   rw[show(Fc.row Rel.E 5 a3.1 13).op=13 from rfl,e3] at q3
   rw[show(Fc.row Grp.E 2 a4.1 16).op=16 from rfl,e4] at q4
   rw[show(Fc.row Ini.E 3 a5.1 19).op=19 from rfl,e5] at q5
   rw[show(Fc.row Lne.E 4 a6.1 22).op=22 from rfl,e6] at q6
   rw[show(Fc.row Inl.E 6 a7.1 25).op=25 from rfl,e7] at q7
   rw[show(Fc.row Vrr.E 6 a8.1 28).op=28 from rfl,e8] at q8
   rw[show(Fc.row Dep.E 4 a9.1 31).op=31 from rfl,e9] at q9
   rw[show(Fc.row Cnv.E 4 a10.1 34).op=34 from rfl,e10] at q10
   have HQ:=Hd.mk (And.intro q1 (And.intro q2 (And.intro q3 (And.intro q4 (And.intro q5 (And.intro q6 (And.intro q7 (And.intro q8 (And.intro q9 q10)))))))))
   have HO:=Hd.mk ho
   rw[e0,e1,e2,e3,e4,e5,e6,e7,e8,e9,e10] at hK'⊢
   clear hI ho e1 q1 e2 q2 e3 q3 e4 q4 e5 q5 e6 q6 e7 q7 e8 q8 e9 q9 e10 q10 e0
   go_simp
   obtain⟨q1,q2,q3,q4,q5,q6,q7,q8,q9,q10⟩:=HQ.out
   exact hK'.out _ _ ⟨HO.out.var.at (j:=0) rfl,HO.out.own.at (j:=0) rfl⟩ (HI.out.step0 HOk.out HF11.out (fun x hx=>by rw[HG12.out.1 x hx];exact HO.out) (Keeps.refl _ _) ⟨.slice p1 a1.1.length c1, .slice p2 a2.1.length c2, .slice p3 a3.1.length c3, .slice p4 a4.1.length c4, .slice p5 a5.1.length c5, .slice p6 a6.1.length c6, .slice p7 a7.1.length c7, .slice p8 a8.1.length c8, .slice p9 a9.1.length c9, .slice p10 a10.1.length c10,rfl,arr_one _ p1 p2 p3 p4 p5 p6 p7 p8 p9 p10 _ _ _ _ _ _ _ _ _ _ _ _ _ _ _ _ _ _ _ _,fun w2 k2=>⟨q1 w2 k2,q2 w2 k2,q3 w2 k2,q4 w2 k2,q5 w2 k2,q6 w2 k2,q7 w2 k2,q8 w2 k2,q9 w2 k2,q10 w2 k2⟩⟩)
 ·intro k s1 w1 hk hI
  simp only[flStep,List.getD_cons_zero,List.getD_cons_succ]
  intro K' hK'
  have HI:=Hd.mk (hI.made HOk.out)
  have hs:(w1.alloc (.cells #[.string ⟨#[]⟩, .slice none 0 0, .slice none 0 0, .slice none 0 0, .slice none 0 0, .slice none 0 0, .slice none 0 0, .slice none 0 0, .slice none 0 0, .slice none 0 0, .slice none 0 0] 33)).cell? ⟨bv,0,none⟩=some (.pointer (some ⟨br,0,none⟩))∧(w1.alloc (.cells #[.string ⟨#[]⟩, .slice none 0 0, .slice none 0 0, .slice none 0 0, .slice none 0 0, .slice none 0 0, .slice none 0 0, .slice none 0 0, .slice none 0 0, .slice none 0 0, .slice none 0 0] 33)).cell? ⟨br,0,none⟩=some (.pointer (some ⟨b,0,none⟩)):=by
   have hlt:k<stL.length:=by rw[HLen.out];have:k≤12:=hk;omega
   have ho:=(hI.rd _ (List.getElem?_eq_getElem hlt)).alloc (.cells #[.string ⟨#[]⟩, .slice none 0 0, .slice none 0 0, .slice none 0 0, .slice none 0 0, .slice none 0 0, .slice none 0 0, .slice none 0 0, .slice none 0 0, .slice none 0 0, .slice none 0 0] 33)
   exact⟨ho.var.at (j:=0) rfl,ho.own.at (j:=0) rfl⟩
  have HS:=Hd.mk hs
  clear hI hs hk
  go_simp
  exact hK'.out _ _ HS.out HI.out
 ·intro s1 w1 hI
  replace hI:RoI fs stL b br bv N0 W0 12 true s1 w1:=hI
  simp only[foldPut,List.foldl_cons,List.foldl_nil,Act.put,List.setIfInBounds_toArray,List.set_cons_zero,List.set_cons_succ]
  refine hI.use HF11.out HG12.out.2 (fun F x1 x2 x3 x4 x5 x6 x7 x8 x9 x10 HV HFN HB HO HKp HOne HAt=> ?_)
  rw[HV.out.1,HV.out.2]
  clear hI HV HF0 HG0 HF1 HG1 HF2 HG2 HF3 HG3 HF4 HG4 HF5 HG5 HF6 HG6 HF7 HG7 HF8 HG8 HF9 HG9 HF10 HG10 HF11 HG11 HG12 HOps HC0 HC1 HC2 HC3 HC4 HC5 HC6 HC7 HC8 HC9 HC10
  generalize s1 4=u4
  generalize s1 7=u7
  generalize s1 10=u10
  generalize s1 13=u13
  generalize s1 16=u16
  generalize s1 19=u19
  generalize s1 22=u22
  generalize s1 25=u25
  generalize s1 28=u28
  generalize s1 31=u31
  generalize s1 34=u34
  refine lin3_one (fun K hK=> ?_)
  refine wanted_step (by kernel_rfl) ?_
  refine wp_store_mid 33 _ _ rfl F 0 (Ob.arr ⟨a0.1,a1.1,a2.1,a3.1,a4.1,a5.1,a6.1,a7.1,a8.1,a9.1,a10.1⟩ x1 x2 x3 x4 x5 x6 x7 x8 x9 x10) rfl rfl (fun j hj=>⟨by
   rw[Nat.zero_add,HB.out.cell]
   have hj11:j<zerosOb.length:=hj
   rw[List.getElem?_eq_getElem hj11];rfl,HB.out.free _⟩) (by kernel_rfl) HOne.out ?_
  have hk2:=keeps_setAll F (Ob.arr ⟨a0.1,a1.1,a2.1,a3.1,a4.1,a5.1,a6.1,a7.1,a8.1,a9.1,a10.1⟩ x1 x2 x3 x4 x5 x6 x7 x8 x9 x10).toList 0 w1
  have hb2:Blk (w1.setCells F 0 (Ob.arr ⟨a0.1,a1.1,a2.1,a3.1,a4.1,a5.1,a6.1,a7.1,a8.1,a9.1,a10.1⟩ x1 x2 x3 x4 x5 x6 x7 x8 x9 x10).toList) F 33 (Ob.arr ⟨a0.1,a1.1,a2.1,a3.1,a4.1,a5.1,a6.1,a7.1,a8.1,a9.1,a10.1⟩ x1 x2 x3 x4 x5 x6 x7 x8 x9 x10).toList:=by
   have:=Blk.setAll (Ob.arr ⟨a0.1,a1.1,a2.1,a3.1,a4.1,a5.1,a6.1,a7.1,a8.1,a9.1,a10.1⟩ x1 x2 x3 x4 x5 x6 x7 x8 x9 x10).toList 0 zerosOb HB.out rfl
   simpa using this
  have hlo:∀g,g<N0→¬g=F:=fun g hg c=>by have:=HFN.out;omega
  have hbl:b<N0∧br<N0∧bv<N0∧w.heap.size<N0∧w.heap.size<b∧b<br:=by
   obtain⟨e1,e2,e3,e4⟩:=HNs.out
   omega
  have ho2:OrW (w1.setCells F 0 (Ob.arr ⟨a0.1,a1.1,a2.1,a3.1,a4.1,a5.1,a6.1,a7.1,a8.1,a9.1,a10.1⟩ x1 x2 x3 x4 x5 x6 x7 x8 x9 x10).toList) b br bv a10.2:=HO.out.keep hk2 (hlo _ hbl.1) (hlo _ hbl.2.1) (hlo _ hbl.2.2.1)
  have hr2:Blk (w1.setCells F 0 (Ob.arr ⟨a0.1,a1.1,a2.1,a3.1,a4.1,a5.1,a6.1,a7.1,a8.1,a9.1,a10.1⟩ x1 x2 x3 x4 x5 x6 x7 x8 x9 x10).toList) w.heap.size 33 zerosOb:=hk2.blk (HKp.out.blk HW.out.res (fun c=>by rcases c with c | c<;>omega)) (hlo _ hbl.2.2.2.1)
  have hbw:Below w.heap.size w (w1.setCells F 0 (Ob.arr ⟨a0.1,a1.1,a2.1,a3.1,a4.1,a5.1,a6.1,a7.1,a8.1,a9.1,a10.1⟩ x1 x2 x3 x4 x5 x6 x7 x8 x9 x10).toList):=HW.out.keep.trans (((HKp.out.new hk2 (fun g c=> .inr (by have:=HFN.out;have:=HW.out.size;obtain⟨e1,e2,e3,e4⟩:=HNs.out;omega))).mono (fun _ _ h=>h) |>.below (B:=w.heap.size) HW.out.keep.size (fun k hk c=>by rcases c with c | c<;>omega)))
  have hAt2:Std (·<N0) (fun w=>Ob.At w ⟨a0.1,a1.1,a2.1,a3.1,a4.1,a5.1,a6.1,a7.1,a8.1,a9.1,a10.1⟩ x1 x2 x3 x4 x5 x6 x7 x8 x9 x10) (w1.setCells F 0 (Ob.arr ⟨a0.1,a1.1,a2.1,a3.1,a4.1,a5.1,a6.1,a7.1,a8.1,a9.1,a10.1⟩ x1 x2 x3 x4 x5 x6 x7 x8 x9 x10).toList):=HAt.out.keep hk2 (fun g _ c=> .inr c) (fun g _ c=> .inl c)
  refine hK.out _ _ ⟨ho2.var.at (j:=0) rfl,ho2.own.at (j:=0) rfl⟩ ?_
  obtain⟨W3,hW3⟩:∃W,w1.setCells F 0 (Ob.arr ⟨a0.1,a1.1,a2.1,a3.1,a4.1,a5.1,a6.1,a7.1,a8.1,a9.1,a10.1⟩ x1 x2 x3 x4 x5 x6 x7 x8 x9 x10).toList=W:=⟨_,rfl⟩
  rw[hW3] at hb2 ho2 hr2 hbw hAt2⊢
  have HB3:=Hd.mk hb2
  have HO3:=Hd.mk ho2
  have HR3:=Hd.mk hr2
  have HBw:=Hd.mk hbw
  have HA3:=Hd.mk hAt2
  have HN3:=Hd.mk hbl
  have hRt:=oright_any W3 ⟨a0.1,a1.1,a2.1,a3.1,a4.1,a5.1,a6.1,a7.1,a8.1,a9.1,a10.1⟩ x1 x2 x3 x4 x5 x6 x7 x8 x9 x10 hAt2.now HPl.out.1 (HFm.out.below hbw) HPl.out.2.1 (Nat.le_trans HPl.out.2.2.1 (by decide)) (Nat.le_trans HPl.out.2.2.2 (by decide))
  have hDn:=wDone_any W3 b a10.2 ho2.rd
  have d1:=ho2.own.at (j:=1) rfl
  obtain⟨q2,hq2⟩:∃q,a10.2.bad2=q:=⟨_,rfl⟩
  obtain⟨qd,hqd⟩:∃q,a10.2.done=q:=⟨_,rfl⟩
  obtain⟨qr,hqr⟩:∃q,rightO ⟨a0.1,a1.1,a2.1,a3.1,a4.1,a5.1,a6.1,a7.1,a8.1,a9.1,a10.1⟩=q:=⟨_,rfl⟩
  have HD2:=HD.out
  rw[hq2,hqd,hqr] at HD2
  rw[hq2] at d1
  rw[hqr] at hRt
  rw[hqd] at hDn
  have HRt:=Hd.mk hRt
  have HDn:=Hd.mk hDn
  have HDD:=Hd.mk HD2
  clear hK K hk2 hb2 hlo hbl ho2 hr2 hbw hAt2 hW3 hRt hDn hq2 hqd hqr HD2 HAt HB HO HKp HD HFm HPl
  have d0:=HO3.out.own.at (j:=0) rfl
  have v0:=HO3.out.var.at (j:=0) rfl
  refine NoPanic.normal ?_
  rename_i Q0 K0 hret0
  rcases q2 with _ | _
  ·rcases qd with _ | _
   ·go_wp2_with fail
    refine HDn.out.mono ?_
    rintro e w2 ⟨rfl,rfl⟩
    go_upto_region 4 with(fail)
    have HRx:=HR3
    rename_i K1 hret1
    have hth:(W3).there w.heap.size 0 zerosOb.toArray.size:=fun j hj=>⟨by
     rw[Nat.zero_add,HRx.out.cell]
     have hj11:j<zerosOb.length:=hj
     rw[List.getElem?_eq_getElem hj11];rfl,HRx.out.free _⟩
    have HTh:=Hd.mk hth
    clear hth
    refine wp_region_lit ?_
    refine wpList_val rfl (v:= .agg #[.string ⟨#[]⟩, .slice none 0 0, .slice none 0 0, .slice none 0 0, .slice none 0 0, .slice none 0 0, .slice none 0 0, .slice none 0 0, .slice none 0 0, .slice none 0 0, .slice none 0 0]) (w':=W3) (by kernel_rfl) ?_
    refine wpList_store_mid rfl 33 _ _ rfl w.heap.size 0 #[.string ⟨#[]⟩, .slice none 0 0, .slice none 0 0, .slice none 0 0, .slice none 0 0, .slice none 0 0, .slice none 0 0, .slice none 0 0, .slice none 0 0, .slice none 0 0, .slice none 0 0] rfl rfl HTh.out (by kernel_rfl) zeros_one ?_
    refine wpList_val rfl (v:= .bool false) (w':=(W3).setCells w.heap.size 0 [.string ⟨#[]⟩, .slice none 0 0, .slice none 0 0, .slice none 0 0, .slice none 0 0, .slice none 0 0, .slice none 0 0, .slice none 0 0, .slice none 0 0, .slice none 0 0, .slice none 0 0]) (by kernel_rfl) ?_
    refine wpList_nil ?_
    have hbz:Blk ((W3).setCells w.heap.size 0 [.string ⟨#[]⟩, .slice none 0 0, .slice none 0 0, .slice none 0 0, .slice none 0 0, .slice none 0 0, .slice none 0 0, .slice none 0 0, .slice none 0 0, .slice none 0 0, .slice none 0 0]) w.heap.size 33 [.string ⟨#[]⟩, .slice none 0 0, .slice none 0 0, .slice none 0 0, .slice none 0 0, .slice none 0 0, .slice none 0 0, .slice none 0 0, .slice none 0 0, .slice none 0 0, .slice none 0 0]:=by
     have:=Blk.setAll [.string ⟨#[]⟩, .slice none 0 0, .slice none 0 0, .slice none 0 0, .slice none 0 0, .slice none 0 0, .slice none 0 0, .slice none 0 0, .slice none 0 0, .slice none 0 0, .slice none 0 0] 0 zerosOb HRx.out rfl
     simpa using this
    have hbe:Below w.heap.size w ((W3).setCells w.heap.size 0 [.string ⟨#[]⟩, .slice none 0 0, .slice none 0 0, .slice none 0 0, .slice none 0 0, .slice none 0 0, .slice none 0 0, .slice none 0 0, .slice none 0 0, .slice none 0 0, .slice none 0 0]):=(HBw.out).trans ((keeps_setAll w.heap.size [.string ⟨#[]⟩, .slice none 0 0, .slice none 0 0, .slice none 0 0, .slice none 0 0, .slice none 0 0, .slice none 0 0, .slice none 0 0, .slice none 0 0, .slice none 0 0, .slice none 0 0] 0 (W3)).below ((HBw.out).size) (fun k hk c=>by have c:k=w.heap.size:=c;omega))
    have hno:=HSN.out.2 ((HDD.out.2 (by first | rfl | trivial)).trans rfl)
    simp only[Exit.then,Act.put,List.setIfInBounds_toArray,List.set_cons_zero,List.set_cons_succ]
    refine hret1 _ _ (Go.wp_ret ?_)
    (try simp only[Exit.then])
    show bodyPost _ _ _ _ _ _
    refine bodyPost_ret (results_row_tmp rfl _ _ w.heap.size 33 #[.string ⟨#[]⟩, .slice none 0 0, .slice none 0 0, .slice none 0 0, .slice none 0 0, .slice none 0 0, .slice none 0 0, .slice none 0 0, .slice none 0 0, .slice none 0 0, .slice none 0 0] (0,0) _ rfl hbz.is Tryz.underlying33 rfl (by kernel_rfl)) rfl ?_
    exact⟨.slice none 0 0, .slice none 0 0, .slice none 0 0, .slice none 0 0, .slice none 0 0, .slice none 0 0, .slice none 0 0, .slice none 0 0, .slice none 0 0, .slice none 0 0,by unfold readO;rw[hno];rfl,by unfold readO;rw[hno];exact Std.of zero_at _,hbe⟩
   ·go_wp2_with fail
    refine HDn.out.mono ?_
    rintro e w2 ⟨rfl,rfl⟩
    have k0:W3.cell? ⟨F,0,none⟩=some (.string a0.1):=HB3.out.at (j:=0) rfl
    have k1:W3.cell? ⟨F,1,none⟩=some x1:=HB3.out.at (j:=1) rfl
    have k2:W3.cell? ⟨F,2,none⟩=some x2:=HB3.out.at (j:=2) rfl
    have k3:W3.cell? ⟨F,3,none⟩=some x3:=HB3.out.at (j:=3) rfl
    have k4:W3.cell? ⟨F,4,none⟩=some x4:=HB3.out.at (j:=4) rfl
    have k5:W3.cell? ⟨F,5,none⟩=some x5:=HB3.out.at (j:=5) rfl
    have k6:W3.cell? ⟨F,6,none⟩=some x6:=HB3.out.at (j:=6) rfl
    have k7:W3.cell? ⟨F,7,none⟩=some x7:=HB3.out.at (j:=7) rfl
    have k8:W3.cell? ⟨F,8,none⟩=some x8:=HB3.out.at (j:=8) rfl
    have k9:W3.cell? ⟨F,9,none⟩=some x9:=HB3.out.at (j:=9) rfl
    have k10:W3.cell? ⟨F,10,none⟩=some x10:=HB3.out.at (j:=10) rfl
    go_wp2_with fail
    refine HRt.out.mono ?_
    rintro e w5 ⟨rfl,hb5⟩
    have HB5:=Hd.mk hb5
    have HRx:Hd (Blk w5 w.heap.size 33 zerosOb):=⟨HR3.out.below hb5 HR3.out.lt⟩
    clear hb5 k0 k1 k2 k3 k4 k5 k6 k7 k8 k9 k10
    rcases qr with _ | _
    ·go_upto_region 4 with(fail)
     rename_i K1 hret1
     have hth:(w5).there w.heap.size 0 zerosOb.toArray.size:=fun j hj=>⟨by
      rw[Nat.zero_add,HRx.out.cell]
      have hj11:j<zerosOb.length:=hj
      rw[List.getElem?_eq_getElem hj11];rfl,HRx.out.free _⟩
     have HTh:=Hd.mk hth
     clear hth
     refine wp_region_lit ?_
     refine wpList_val rfl (v:= .agg #[.string ⟨#[]⟩, .slice none 0 0, .slice none 0 0, .slice none 0 0, .slice none 0 0, .slice none 0 0, .slice none 0 0, .slice none 0 0, .slice none 0 0, .slice none 0 0, .slice none 0 0]) (w':=w5) (by kernel_rfl) ?_
     refine wpList_store_mid rfl 33 _ _ rfl w.heap.size 0 #[.string ⟨#[]⟩, .slice none 0 0, .slice none 0 0, .slice none 0 0, .slice none 0 0, .slice none 0 0, .slice none 0 0, .slice none 0 0, .slice none 0 0, .slice none 0 0, .slice none 0 0] rfl rfl HTh.out (by kernel_rfl) zeros_one ?_
     refine wpList_val rfl (v:= .bool false) (w':=(w5).setCells w.heap.size 0 [.string ⟨#[]⟩, .slice none 0 0, .slice none 0 0, .slice none 0 0, .slice none 0 0, .slice none 0 0, .slice none 0 0, .slice none 0 0, .slice none 0 0, .slice none 0 0, .slice none 0 0]) (by kernel_rfl) ?_
     refine wpList_nil ?_
     have hbz:Blk ((w5).setCells w.heap.size 0 [.string ⟨#[]⟩, .slice none 0 0, .slice none 0 0, .slice none 0 0, .slice none 0 0, .slice none 0 0, .slice none 0 0, .slice none 0 0, .slice none 0 0, .slice none 0 0, .slice none 0 0]) w.heap.size 33 [.string ⟨#[]⟩, .slice none 0 0, .slice none 0 0, .slice none 0 0, .slice none 0 0, .slice none 0 0, .slice none 0 0, .slice none 0 0, .slice none 0 0, .slice none 0 0, .slice none 0 0]:=by
      have:=Blk.setAll [.string ⟨#[]⟩, .slice none 0 0, .slice none 0 0, .slice none 0 0, .slice none 0 0, .slice none 0 0, .slice none 0 0, .slice none 0 0, .slice none 0 0, .slice none 0 0, .slice none 0 0] 0 zerosOb HRx.out rfl
      simpa using this
     have hbe:Below w.heap.size w ((w5).setCells w.heap.size 0 [.string ⟨#[]⟩, .slice none 0 0, .slice none 0 0, .slice none 0 0, .slice none 0 0, .slice none 0 0, .slice none 0 0, .slice none 0 0, .slice none 0 0, .slice none 0 0, .slice none 0 0]):=(HBw.out.trans (HB5.out.mono HBw.out.size)).trans ((keeps_setAll w.heap.size [.string ⟨#[]⟩, .slice none 0 0, .slice none 0 0, .slice none 0 0, .slice none 0 0, .slice none 0 0, .slice none 0 0, .slice none 0 0, .slice none 0 0, .slice none 0 0, .slice none 0 0] 0 (w5)).below ((HBw.out.trans (HB5.out.mono HBw.out.size)).size) (fun k hk c=>by have c:k=w.heap.size:=c;omega))
     have hno:=HSN.out.2 ((HDD.out.2 (by first | rfl | trivial)).trans rfl)
     simp only[Exit.then,Act.put,List.setIfInBounds_toArray,List.set_cons_zero,List.set_cons_succ]
     refine hret1 _ _ (Go.wp_ret ?_)
     (try simp only[Exit.then])
     show bodyPost _ _ _ _ _ _
     refine bodyPost_ret (results_row_tmp rfl _ _ w.heap.size 33 #[.string ⟨#[]⟩, .slice none 0 0, .slice none 0 0, .slice none 0 0, .slice none 0 0, .slice none 0 0, .slice none 0 0, .slice none 0 0, .slice none 0 0, .slice none 0 0, .slice none 0 0] (0,0) _ rfl hbz.is Tryz.underlying33 rfl (by kernel_rfl)) rfl ?_
     exact⟨.slice none 0 0, .slice none 0 0, .slice none 0 0, .slice none 0 0, .slice none 0 0, .slice none 0 0, .slice none 0 0, .slice none 0 0, .slice none 0 0, .slice none 0 0,by unfold readO;rw[hno];rfl,by unfold readO;rw[hno];exact Std.of zero_at _,hbe⟩
    ·go_upto_region 5 with(fail)
     rename_i K1 hret1
     have hth:(w5).there w.heap.size 0 zerosOb.toArray.size:=fun j hj=>⟨by
      rw[Nat.zero_add,HRx.out.cell]
      have hj11:j<zerosOb.length:=hj
      rw[List.getElem?_eq_getElem hj11];rfl,HRx.out.free _⟩
     have HTh:=Hd.mk hth
     have hrg:w5.rangeAt F 0 (Ob.arr ⟨a0.1,a1.1,a2.1,a3.1,a4.1,a5.1,a6.1,a7.1,a8.1,a9.1,a10.1⟩ x1 x2 x3 x4 x5 x6 x7 x8 x9 x10).toList:=fun j v hv=>by
      rw[Nat.zero_add,HB5.out.cell (p:=⟨F,j,none⟩) HB3.out.lt]
      exact HB3.out.at hv
     have HRg:=Hd.mk hrg
     have hone:((Ob.arr ⟨a0.1,a1.1,a2.1,a3.1,a4.1,a5.1,a6.1,a7.1,a8.1,a9.1,a10.1⟩ x1 x2 x3 x4 x5 x6 x7 x8 x9 x10).toList.toArray).all (·.oneCell')=true:=HOne.out
     have HOn:=Hd.mk hone
     clear hth hrg hone
     refine wp_region_lit ?_
     refine wpList_load_mid rfl 33 _ rfl F 0 rfl (Ob.arr ⟨a0.1,a1.1,a2.1,a3.1,a4.1,a5.1,a6.1,a7.1,a8.1,a9.1,a10.1⟩ x1 x2 x3 x4 x5 x6 x7 x8 x9 x10).toList _ HRg.out Tryz.underlying33 rfl (by kernel_rfl) ?_
     refine wpList_store_mid rfl 33 _ _ rfl w.heap.size 0 (Ob.arr ⟨a0.1,a1.1,a2.1,a3.1,a4.1,a5.1,a6.1,a7.1,a8.1,a9.1,a10.1⟩ x1 x2 x3 x4 x5 x6 x7 x8 x9 x10).toList.toArray rfl rfl HTh.out (by kernel_rfl) HOn.out ?_
     refine wpList_val rfl (v:= .bool true) (w':=w5.setCells w.heap.size 0 (Ob.arr ⟨a0.1,a1.1,a2.1,a3.1,a4.1,a5.1,a6.1,a7.1,a8.1,a9.1,a10.1⟩ x1 x2 x3 x4 x5 x6 x7 x8 x9 x10).toList) (by kernel_rfl) ?_
     refine wpList_nil ?_
     have hbz:Blk (w5.setCells w.heap.size 0 (Ob.arr ⟨a0.1,a1.1,a2.1,a3.1,a4.1,a5.1,a6.1,a7.1,a8.1,a9.1,a10.1⟩ x1 x2 x3 x4 x5 x6 x7 x8 x9 x10).toList) w.heap.size 33 (Ob.arr ⟨a0.1,a1.1,a2.1,a3.1,a4.1,a5.1,a6.1,a7.1,a8.1,a9.1,a10.1⟩ x1 x2 x3 x4 x5 x6 x7 x8 x9 x10).toList:=by
      have:=Blk.setAll (Ob.arr ⟨a0.1,a1.1,a2.1,a3.1,a4.1,a5.1,a6.1,a7.1,a8.1,a9.1,a10.1⟩ x1 x2 x3 x4 x5 x6 x7 x8 x9 x10).toList 0 zerosOb HRx.out rfl
      simpa using this
     have hks:=keeps_setAll w.heap.size (Ob.arr ⟨a0.1,a1.1,a2.1,a3.1,a4.1,a5.1,a6.1,a7.1,a8.1,a9.1,a10.1⟩ x1 x2 x3 x4 x5 x6 x7 x8 x9 x10).toList 0 w5
     have hb5:Below w.heap.size w w5:=HBw.out.trans (HB5.out.mono HBw.out.size)
     have hbe:Below w.heap.size w (w5.setCells w.heap.size 0 (Ob.arr ⟨a0.1,a1.1,a2.1,a3.1,a4.1,a5.1,a6.1,a7.1,a8.1,a9.1,a10.1⟩ x1 x2 x3 x4 x5 x6 x7 x8 x9 x10).toList):=hb5.trans (hks.below hb5.size (fun k hk c=>by have c:k=w.heap.size:=c;omega))
     have hst5:Std (·<w.heap.size) (fun w=>Ob.At w ⟨a0.1,a1.1,a2.1,a3.1,a4.1,a5.1,a6.1,a7.1,a8.1,a9.1,a10.1⟩ x1 x2 x3 x4 x5 x6 x7 x8 x9 x10) (w5.setCells w.heap.size 0 (Ob.arr ⟨a0.1,a1.1,a2.1,a3.1,a4.1,a5.1,a6.1,a7.1,a8.1,a9.1,a10.1⟩ x1 x2 x3 x4 x5 x6 x7 x8 x9 x10).toList):=
      (HA3.out.keep (N2:=(·<N0)) (Keeps.of_below (S:=fun _=>False) HB5.out (fun k h1 h2=>by omega)) (fun _ _ c=>c.elim) (fun _ _ c=>c)).keep hks (fun g _ c=>by have c:g=w.heap.size:=c;have:=HN3.out.2.2.2.1;show g<N0;omega) (fun g _ c=>by have c:g<w.heap.size:=c;have:=HN3.out.2.2.2.1;show g<N0;omega)
     have hso:=HSN.out.1 (HDD.out.2 (by first | rfl | trivial))
     simp only[Exit.then,Act.put,List.setIfInBounds_toArray,List.set_cons_zero,List.set_cons_succ]
     refine hret1 _ _ (Go.wp_ret ?_)
     (try simp only[Exit.then])
     show bodyPost _ _ _ _ _ _
     refine bodyPost_ret (results_row_tmp rfl _ _ w.heap.size 33 (Ob.arr ⟨a0.1,a1.1,a2.1,a3.1,a4.1,a5.1,a6.1,a7.1,a8.1,a9.1,a10.1⟩ x1 x2 x3 x4 x5 x6 x7 x8 x9 x10).toList.toArray (0,0) _ rfl hbz.is Tryz.underlying33 rfl (by kernel_rfl)) rfl ?_
     refine⟨x1,x2,x3,x4,x5,x6,x7,x8,x9,x10,?_,?_,hbe⟩
     ·unfold readO;rw[hso];rfl
     ·unfold readO;rw[hso];exact hst5
  ·go_upto_region 4 with(fail)
   have HRx:=HR3
   rename_i K1 hret1
   have hth:(W3).there w.heap.size 0 zerosOb.toArray.size:=fun j hj=>⟨by
    rw[Nat.zero_add,HRx.out.cell]
    have hj11:j<zerosOb.length:=hj
    rw[List.getElem?_eq_getElem hj11];rfl,HRx.out.free _⟩
   have HTh:=Hd.mk hth
   clear hth
   refine wp_region_lit ?_
   refine wpList_val rfl (v:= .agg #[.string ⟨#[]⟩, .slice none 0 0, .slice none 0 0, .slice none 0 0, .slice none 0 0, .slice none 0 0, .slice none 0 0, .slice none 0 0, .slice none 0 0, .slice none 0 0, .slice none 0 0]) (w':=W3) (by kernel_rfl) ?_
   refine wpList_store_mid rfl 33 _ _ rfl w.heap.size 0 #[.string ⟨#[]⟩, .slice none 0 0, .slice none 0 0, .slice none 0 0, .slice none 0 0, .slice none 0 0, .slice none 0 0, .slice none 0 0, .slice none 0 0, .slice none 0 0, .slice none 0 0] rfl rfl HTh.out (by kernel_rfl) zeros_one ?_
   refine wpList_val rfl (v:= .bool false) (w':=(W3).setCells w.heap.size 0 [.string ⟨#[]⟩, .slice none 0 0, .slice none 0 0, .slice none 0 0, .slice none 0 0, .slice none 0 0, .slice none 0 0, .slice none 0 0, .slice none 0 0, .slice none 0 0, .slice none 0 0]) (by kernel_rfl) ?_
   refine wpList_nil ?_
   have hbz:Blk ((W3).setCells w.heap.size 0 [.string ⟨#[]⟩, .slice none 0 0, .slice none 0 0, .slice none 0 0, .slice none 0 0, .slice none 0 0, .slice none 0 0, .slice none 0 0, .slice none 0 0, .slice none 0 0, .slice none 0 0]) w.heap.size 33 [.string ⟨#[]⟩, .slice none 0 0, .slice none 0 0, .slice none 0 0, .slice none 0 0, .slice none 0 0, .slice none 0 0, .slice none 0 0, .slice none 0 0, .slice none 0 0, .slice none 0 0]:=by
    have:=Blk.setAll [.string ⟨#[]⟩, .slice none 0 0, .slice none 0 0, .slice none 0 0, .slice none 0 0, .slice none 0 0, .slice none 0 0, .slice none 0 0, .slice none 0 0, .slice none 0 0, .slice none 0 0] 0 zerosOb HRx.out rfl
    simpa using this
   have hbe:Below w.heap.size w ((W3).setCells w.heap.size 0 [.string ⟨#[]⟩, .slice none 0 0, .slice none 0 0, .slice none 0 0, .slice none 0 0, .slice none 0 0, .slice none 0 0, .slice none 0 0, .slice none 0 0, .slice none 0 0, .slice none 0 0]):=(HBw.out).trans ((keeps_setAll w.heap.size [.string ⟨#[]⟩, .slice none 0 0, .slice none 0 0, .slice none 0 0, .slice none 0 0, .slice none 0 0, .slice none 0 0, .slice none 0 0, .slice none 0 0, .slice none 0 0, .slice none 0 0] 0 (W3)).below ((HBw.out).size) (fun k hk c=>by have c:k=w.heap.size:=c;omega))
   have hno:=HSN.out.2 (HDD.out.1 (by first | rfl | trivial))
   simp only[Exit.then,Act.put,List.setIfInBounds_toArray,List.set_cons_zero,List.set_cons_succ]
   refine hret1 _ _ (Go.wp_ret ?_)
   (try simp only[Exit.then])
   show bodyPost _ _ _ _ _ _
   refine bodyPost_ret (results_row_tmp rfl _ _ w.heap.size 33 #[.string ⟨#[]⟩, .slice none 0 0, .slice none 0 0, .slice none 0 0, .slice none 0 0, .slice none 0 0, .slice none 0 0, .slice none 0 0, .slice none 0 0, .slice none 0 0, .slice none 0 0] (0,0) _ rfl hbz.is Tryz.underlying33 rfl (by kernel_rfl)) rfl ?_
   exact⟨.slice none 0 0, .slice none 0 0, .slice none 0 0, .slice none 0 0, .slice none 0 0, .slice none 0 0, .slice none 0 0, .slice none 0 0, .slice none 0 0, .slice none 0 0,by unfold readO;rw[hno];rfl,by unfold readO;rw[hno];exact Std.of zero_at _,hbe⟩
end Go.Proofs.YtfaepbjnpakghaaGreatDoor.W
