import Derived.Deep.Cut
import Derived.Deep.LoopGhost
import Derived.Test.YtfaepbjnpakghaaGreatDoorKad
import Derived.Test.YtfaepbjnpakghaaGreatDoorKah
import Derived.Test.YtfaepbjnpakghaaGreatDoorKMe
import Derived.Test.YtfaepbjnpakghaaGreatDoorKNsP
import Derived.Test.YtfaepbjnpakghaaGreatDoorKac
/- The walk of the method inlines (printed by tools/gen_cls.py). -/
namespace Go.Proofs.YtfaepbjnpakghaaGreatDoor.W
open Go.RowKit
set_option linter.unusedVariables false
def inlRun:List Inl→List Inl→Option (List Inl)
 | st,[]=>some st
 | st,x::l=>if inlTop x (inlPop x st) then inlRun (x::inlPop x st) l else none
theorem run_nest:∀(l st:List Inl),inlNest st l=(inlRun st l).isSome
 | [],st=>rfl
 | x::l,st=>by
   rw[inlNest,inlRun,run_nest l]
   cases inlTop x (inlPop x st)<;>rfl
theorem run_snoc:∀(l st:List Inl) (x:Inl),inlRun st (l++[x])=(inlRun st l).bind fun s=>if inlTop x (inlPop x s) then some (x::inlPop x s) else none
 | [],st,x=>by simp[inlRun]
 | y::l,st,x=>by
   rw[List.cons_append,inlRun,inlRun]
   split
   ·exact run_snoc l _ x
   ·rfl
theorem run_take {l st:List Inl} {k:Nat} (h:k<l.length) (hr:inlRun [] (l.take k)=some st):inlRun [] (l.take (k+1))=if inlTop l[k] (inlPop l[k] st) then some (l[k]::inlPop l[k] st) else none:=by
 rw[List.take_succ_eq_append_getElem h,run_snoc,hr];rfl
theorem nest_bad {l:List Inl} {k:Nat} (hr:inlRun [] (l.take k)=none):inlNest [] l=false:=by
 rw[run_nest]
 have e:∀(a b st:List Inl),inlRun st a=none→inlRun st (a++b)=none:=by
  intro a
  induction a with
  | nil=>intro b st h;cases h
  | cons y a ih=>
    intro b st h
    rw[List.cons_append,inlRun]
    rw[inlRun] at h
    split
    ·rename_i ht;rw[if_pos ht] at h;exact ih b _ h
    ·rfl
 have:=e (l.take k) (l.drop k) [] hr
 rw[List.take_append_drop] at this
 rw[this];rfl
theorem pairs_take {α:Type} {q:α→α→Bool} {l:List α} {k:Nat} (h:k<l.length) (hp:pairsB q (l.take k)=true) (hk:k=0∨∃(h0:0<k),q (l[k-1]'(by omega)) l[k]=true):pairsB q (l.take (k+1))=true:=by
 refine pairs_of (fun j hj=> ?_)
 rw[List.length_take] at hj
 rw[List.getElem_take,List.getElem_take]
 by_cases e:j+1<k
 ·have:=pairs_at (l.take k) j (by rw[List.length_take];omega) hp
  rwa [List.getElem_take,List.getElem_take] at this
 ·have e1:k=j+1:=by omega
  subst e1
  rcases hk with hk | ⟨h0,hk⟩
  ·omega
  ·simpa using hk
theorem pairs_cut {α:Type} {q:α→α→Bool} {l:List α} {k:Nat} (h0:0<k) (h:k<l.length) (hb:q (l[k-1]'(by omega)) l[k]=false):pairsB q l=false:=by
 obtain⟨m,rfl⟩:∃m,k=m+1:=⟨k-1,by omega⟩
 exact pairs_bad h (by simpa using hb)
theorem inl_or (a x:Inl):decide ((0:Int)<orL [cmpI a.sec x.sec,cmpI a.from_ x.from_,cmpI x.to_ a.to_])= !inlOrd a x:=by
 unfold inlOrd orL
 by_cases h1:a.sec<x.sec
 ·simp[cmpI,h1]
 ·by_cases h2:x.sec<a.sec
  ·have h3:¬a.sec=x.sec:=by omega
   simp[cmpI,h1,h2,h3]
  ·have h3:a.sec=x.sec:=by omega
   by_cases g1:a.from_<x.from_
   ·simp[cmpI,h3,g1]
   ·by_cases g2:x.from_<a.from_
    ·have g3:¬a.from_=x.from_:=by omega
     simp[cmpI,h3,g1,g2,g3]
    ·have g3:a.from_=x.from_:=by omega
     by_cases e1:x.to_<a.to_
     ·have:x.to_≤a.to_:=by omega
      simp[cmpI,h3,g3,e1,this]
     ·by_cases e2:a.to_<x.to_
      ·have:¬x.to_≤a.to_:=by omega
       simp[cmpI,h3,g3,e1,e2,this]
      ·have:x.to_≤a.to_:=by omega
       simp[cmpI,h3,g3,e1,e2,this]
theorem rowK3 (w:World) (o1 o2:Obj) (a b c:Int):Rw 1 intE (((w.alloc o1).alloc (.cells #[.int .i64 a, .int .i64 b, .int .i64 c] 3)).drew) (.slice (some ⟨w.heap.size+1,0,none⟩) 3 3) [a,b,c]:=by
 have:=(Rw.ints (ks:=[a,b,c]) (cap:=3) (Blk.new (w.alloc o1) 3 [.int .i64 a, .int .i64 b, .int .i64 c])).below intE_stays (Below.drew (Below.refl _ _))
 rwa [show(w.alloc o1).heap.size=w.heap.size+1 from by simp] at this
def inlCells (st:List Inl):List Value:=st.reverse.flatMap Inl.cells
theorem inlCells_len (st:List Inl):(inlCells st).length=st.length*6:=by
 unfold inlCells
 induction st with
 | nil=>rfl
 | cons a st ih=>rw[List.reverse_cons,List.flatMap_append,List.length_append,ih];simp[Inl.cells];omega
theorem inlCells_cons (a:Inl) (st:List Inl):inlCells (a::st)=inlCells st++a.cells:=by
 unfold inlCells;rw[List.reverse_cons,List.flatMap_append];simp
structure InlAt (w:World) (B:Nat) (v:Value) (st:List Inl):Prop where
 row:w.ownsRow B 90 6 v st.length (inlCells st)
theorem InlAt.nil (w:World) (B:Nat):InlAt w B (.slice none 0 0) []:=⟨rfl, .inl ⟨rfl,rfl⟩⟩
theorem InlAt.below {w w':World} {B:Nat} {v:Value} {st:List Inl} (h:InlAt w B v st) (hb:Below w.heap.size w w'):InlAt w' B v st:=by
 refine⟨h.row.1,?_⟩
 rcases h.row.2 with hn | ⟨g,cap,cur,rfl,hB,hg,rest⟩
 ·exact .inl hn
 ·exact .inr ⟨g,cap,cur,rfl,hB,(hb.block g (Array.getElem?_eq_some_iff.1 hg).1).trans hg,rest⟩
theorem InlAt.slice {w:World} {B:Nat} {v:Value} {st:List Inl} (h:InlAt w B v st):∃p c,v= .slice p st.length c:=by
 rcases h.row.2 with⟨rfl,h0⟩ | ⟨g,cap,cur,rfl,_⟩
 ·exact⟨none,0,by rw[h0]⟩
 ·exact⟨_,cap,rfl⟩
theorem InlAt.top {w:World} {B:Nat} {v:Value} {a:Inl} {st:List Inl} (h:InlAt w B v (a::st)):∃g cap,v= .slice (some ⟨g,0,none⟩) (st.length+1) cap∧B≤g∧g<w.heap.size∧st.length+1≤cap∧∀i u,a.cells[i]? =some u→w.cell? ⟨g,st.length*6+i,none⟩=some u:=by
 rcases h.row.2 with⟨rfl,h0⟩ | ⟨g,cap,cur,hv,hB,hg,hn,hm,hs,ht⟩
 ·simp at h0
 ·refine⟨g,cap,hv,hB,(Array.getElem?_eq_some_iff.1 hg).1,hn,fun i u hu=> ?_⟩
  have hrow:=h.row
  rw[hv] at hrow
  have hi:i<6:=by have:=(List.getElem?_eq_some_iff.1 hu).1;simpa [Inl.cells] using this
  rw[hrow.cellAt (st.length*6+i) (by simp;omega),inlCells_cons,List.getElem?_append_right (by rw[inlCells_len];omega),inlCells_len]
  rw[show st.length*6+i-st.length*6=i by omega];exact hu
theorem InlAt.pop {w:World} {B g cap:Nat} {a:Inl} {st:List Inl} (h:InlAt w B (.slice (some ⟨g,0,none⟩) (st.length+1) cap) (a::st)):InlAt w B (.slice (some ⟨g,0,none⟩) st.length cap) st:=by
 refine⟨inlCells_len st,?_⟩
 rcases h.row.2 with⟨h1,_⟩ | ⟨g',cap',cur,hv,hB,hg,hn,hm,hs,ht⟩
 ·cases h1
 ·simp only[Value.slice.injEq,Option.some.injEq,Addr.mk.injEq,and_true] at hv
  obtain⟨rfl,_,rfl⟩:=hv
  refine .inr ⟨g,cap,cur,rfl,hB,hg,by simp at hn;omega,hm,hs,?_⟩
  have e:cur.toList.take (st.length*6)=(cur.toList.take ((a::st).length*6)).take (st.length*6):=by rw[List.take_take,Nat.min_eq_left (by simp;omega)]
  rw[e,ht,inlCells_cons,List.take_left' (inlCells_len st)]
theorem infoInl:(Tryz.prog.info? 90).map (fun i=>(i.zero,i.size,i.bytes))=some (some (.agg #[.int .i64 0, .int .i64 0, .int .i64 0, .string ⟨#[]⟩, .string ⟨#[]⟩, .int .i64 0]),6,64):=by kernel_rfl
theorem InlAt.push {w:World} {B H:Nat} {v:Value} {st:List Inl} (x:Inl) (h:InlAt w B v st) (hB:B≤w.heap.size) (hl:st.length≤1000000000) (hH:∀j u,x.cells[j]? =some u→w.cell? ⟨H,j,none⟩=some u):
 ∃v' w',(Builtin.append_ #[28,28] 28 #[v, .slice (some ⟨H,0,none⟩) 1 1]).run Tryz.prog w= .ok v' w'∧InlAt w' B v' (x::st)∧Below B w w':=by
 obtain⟨i0,hi,hz0,hz1,hz2⟩:=info_parts infoInl
 have h1:∀u∈x.cells,u.oneCell'=true:=fun u hu=>by
  simp only[Inl.cells,List.mem_cons,List.not_mem_nil,or_false] at hu
  rcases hu with rfl | rfl | rfl | rfl | rfl | rfl<;>rfl
 obtain⟨v',w',hr,h2,h3,_,_⟩:=run_append_own_at (P:=Tryz.prog) w B 28 28 90 i0 _ 6 64 Tryz.underlying28 hi hz0 hz1 hz2 rfl (by decide) v st.length (inlCells st) h.row ⟨H,0,none⟩ 1 1 x.cells rfl (fun j u hj=>by
  have:(⟨H,0,none⟩:Addr).add j=⟨H,j,none⟩:=by unfold Addr.add;split<;>simp_all
  rw[this];exact hH j u hj) h1 (by unfold maxLen;omega) (by omega) hB
 refine⟨v',w',hr,⟨by rw[inlCells_cons];exact h2⟩,⟨h3.os,h3.tape,h3.output,h3.size,fun k hk=>h3.block k (Nat.lt_of_lt_of_le hk hB) (fun e=> ?_)⟩⟩
 have:=(h.row.lt k e.symm).1
 omega
theorem inl_nums {R k n cap:Nat} (h1:R+1≤k) (h2:k≤n) (hl:n≤1000000) (hc:R+1≤cap):IntKind.i64.wrap (R:Int)=(R:Int)∧IntKind.i64.wrap ((R:Int)+1-1)=(R:Int)∧wrap64 (R:Int)=(R:Int)∧(0:Int)≤(R:Int)∧(R:Int)< (R:Int)+1∧(R:Int)≤(cap:Int)∧decide ((0:Int)< (R:Int)+1)=true:=by
 refine⟨IntWalk.i64_in _ (by omega),by rw[Int.add_sub_cancel];exact IntWalk.i64_in _ (by omega),by unfold wrap64;omega,by omega,by omega,by omega,decide_eq_true (by omega)⟩
theorem inl_len {B v w:Nat} (h:v≤w) (hb:B≤v):B≤w:=Nat.le_trans hb h
theorem inl_len1 {a:Inl} {r:List Inl} {k n:Nat} (h:(a::r).length≤k) (h2:k≤n) (hl:n≤1000000):(a::r).length≤1000000000:=by omega
theorem inl_len2 {x a:Inl} {r:List Inl} {k:Nat} (h:(a::r).length≤k):(x::a::r).length≤k+1:=by simp at h⊢;omega
theorem inl_size {w:World} {o:Obj} {B v:Nat} (h:v≤w.heap.size) (hb:B≤v):B≤((w.alloc o).drew.drew).heap.size:=by simp;omega
theorem run_end1 {m:Option (List Inl)} {x a:Inl} {st r:List Inl} (h:m=if inlTop x (inlPop x st) then some (x::inlPop x st) else none) (hp:inlPop x st=a::r) (ht:x.to_≤a.to_):m=some (x::a::r):=by
 rw[h,hp]
 exact if_pos (show inlTop x (a::r)=true from decide_eq_true ht)
theorem run_end2 {m:Option (List Inl)} {x a:Inl} {st r:List Inl} (h:m=if inlTop x (inlPop x st) then some (x::inlPop x st) else none) (hp:inlPop x st=a::r) (ht:a.to_<x.to_):m=none:=by
 rw[h,hp,if_neg]
 intro he
 have:=of_decide_eq_true he
 omega
theorem bne_dec (a b c d:Int):((a !=b) || decide (c≤d))=(decide (a≠b) || decide (c≤d)):=by
 congr 1
 rw[Bool.eq_iff_iff];simp
theorem run_end0 {m:Option (List Inl)} {x:Inl} {st:List Inl} (h:m=if inlTop x (inlPop x st) then some (x::inlPop x st) else none) (hp:inlPop x []=inlPop x st):m=some [x]:=by
 rw[h,←hp];rfl
theorem new_cells (w:World) (x:Inl) (j:Nat) (u:Value) (hj:x.cells[j]? =some u):((w.alloc (.cells #[.int .i64 x.sec, .int .i64 x.from_, .int .i64 x.to_, .string x.name, .string x.file, .int .i64 x.line] 90)).drew.drew).cell? ⟨w.heap.size,j,none⟩=some u:=by
 have:=(Blk.new w 90 x.cells).at (j:=j) hj
 exact this
def lenOf:Value→Nat
 | .slice _ n _=>n
 | _=>0
theorem rowK9 (w:World) (o1 o2:Obj) (a b c:Int):Rw 1 intE (((w.alloc o1).alloc o2).alloc (.cells #[.int .i64 a, .int .i64 b, .int .i64 c] 3)).drew (.slice (some ⟨w.heap.size+1+1,0,none⟩) 3 3) [a,b,c]:=by
 have:=(Rw.ints (ks:=[a,b,c]) (cap:=3) (Blk.new ((w.alloc o1).alloc o2) 3 [.int .i64 a, .int .i64 b, .int .i64 c])).below intE_stays (Below.drew (Below.refl _ _))
 rwa [show((w.alloc o1).alloc o2).heap.size=w.heap.size+1+1 from by simp] at this
set_option maxHeartbeats 8000000 in
set_option maxRecDepth 100000 in
theorem oinlines_any (w:World) (o:Ob) (x1 x2 x3 x4 x5 x6 x7 x8 x9 x10:Value) (hA:o.At w x1 x2 x3 x4 x5 x6 x7 x8 x9 x10) (hk:o.Ok) (hfew:o.inlines.length≤1000000):
 Calls Tryz.prog 73 #[.agg (o.arr x1 x2 x3 x4 x5 x6 x7 x8 x9 x10)] w fun e w'=>e= .returned (.bool (inlinesB o))∧Below w.heap.size w w':=by
 have hE:=(fun(w1:World) (h:Below w.heap.size w w1) (hO:ObC w1 w.heap.size o x1 x2 x3 x4 x5 x6 x7 x8 x9 x10)=>evInl_any w1 x7 176 #[.pointer (some ⟨w.heap.size,0,none⟩)] (hA.below h).inlines Inl.stays (fun _ _ _ h=>by cases h;rfl) hk.inlines (fnv_inlines w1 o x1 x2 x3 x4 x5 x6 x7 x8 x9 x10 w.heap.size hO (hA.below h) hk))
 have hR:=hA.inlines
 obtain⟨qe,hqe⟩:∃q,o.inlines.all (inlB o)=q:=⟨_,rfl⟩
 rw[hqe] at hE
 have hspec:inlinesB o=(qe&&pairsB inlOrd o.inlines&&inlNest [] o.inlines):=by unfold inlinesB;rw[hqe]
 have HSp:=Hd.mk hspec
 have HE:=Hd.mk hE
 clear hE hspec hqe
 obtain⟨p,c,rfl⟩:=hR.slice
 have HR:=Hd.mk hR
 obtain⟨n,hn⟩:∃n,o.inlines.length=n:=⟨_,rfl⟩
 have hl:n≤1000000:=hn▸hfew
 have HN:=Hd.mk hn
 have HO1:=Hd.mk (ObC.new w o x1 x2 x3 x4 x5 x6 (.slice p o.inlines.length c) x8 x9 x10)
 clear hR hA hk hfew
 unfold Ob.arr
 rw[hn] at HR HE HO1⊢
 clear hn
 rcases qe with _ | _
 ·go_enter Tryz.func73,Tryz.ntmps73
  go_wp2_with fail
  refine(HE.out _ (by go_grown) HO1.out).mono ?_
  rintro e v1 ⟨rfl,hK1⟩
  have HK1:=Hd.mk (below_first hK1)
  clear hK1
  go_wp2
  go_ret
  exact⟨ret_b (by rw[HSp.out]<;>simp),HK1.out⟩
 go_enter Tryz.func73,Tryz.ntmps73
 go_wp2_with fail
 refine(HE.out _ (by go_grown) HO1.out).mono ?_
 rintro e v1 ⟨rfl,hK1⟩
 have HB1:Hd (Below w.heap.size w v1):=⟨below_first hK1⟩
 have HOv:Hd (ObC v1 w.heap.size o x1 x2 x3 x4 x5 x6 (.slice p n c) x8 x9 x10):=⟨HO1.out.below hK1⟩
 have HL1:Hd (w.heap.size<v1.heap.size):=⟨by have:=hK1.size;simp at this;omega⟩
 clear hK1
 obtain⟨B,hB⟩:∃B,v1.heap.size=B:=⟨_,rfl⟩
 have HBv:=Hd.mk hB
 obtain⟨c0,c1,c2,c3,c4,c5,c6,c7,c8,c9,c10⟩:=HOv.out
 clear hB
 go_wp2
 go_loopw [3,17] (fun v i wr=>∃(k:Nat) (st:List Inl),k≤n∧i= .int .i64 k∧Hd (inlRun [] (o.inlines.take k)=some st)∧Hd (pairsB inlOrd (o.inlines.take k)=true)∧Hd (st.length≤k)∧Hd (InlAt wr B v st)∧Hd (Below B v1 wr)) (fun _ i _=>n-(intOf i).toNat)
 case atStart=>exact⟨0,[],Nat.zero_le _,rfl,⟨rfl⟩,⟨rfl⟩,⟨Nat.le_refl _⟩,⟨InlAt.nil _ _⟩,⟨Below.refl _ _⟩⟩
 case round=>
  clear c0 c1 c2 c3 c4 c5 c6 c7 c8 c9 c10
  obtain⟨k,st,hkn,rfl,HRun,HPr,HLen,HSt,HBr⟩:=hrel
  have HBa:Hd (Below w.heap.size w wr):=⟨HB1.out.trans (HBr.out.mono (by have:=HBv.out;have:=HL1.out;omega))⟩
  have HOr:Hd (ObC wr w.heap.size o x1 x2 x3 x4 x5 x6 (.slice p n c) x8 x9 x10):=⟨HOv.out.below (HBv.out▸HBr.out)⟩
  have HLr:Hd (w.heap.size<wr.heap.size):=⟨Nat.lt_of_lt_of_le HL1.out HBr.out.size⟩
  have HBl:Hd (B≤wr.heap.size):=⟨by have:=HBr.out.size;have:=HBv.out;omega⟩
  by_cases hlt:k<n
  ·have hd1:decide ((k:Int)< (n:Int))=true:=by simp;omega
   have hkq:k<o.inlines.length:=HN.out▸hlt
   have j0:(0:Int)≤(k:Int):=by omega
   have j1:(k:Int)< (n:Int):=by omega
   obtain⟨g0,of,cs,hpv,hg,hcl,hEc,hcc⟩:=(HR.out.below Inl.stays HBa.out).at rfl (j:=k) hkq
   have hrt:=run_take hkq HRun.out
   have hpt:=fun h=>pairs_take (q:=inlOrd) hkq HPr.out h
   have hpc:∀(h0:0<k),inlOrd (o.inlines[k-1]'(by omega)) o.inlines[k]=false→pairsB inlOrd o.inlines=false:=fun h0 hb=>pairs_cut h0 hkq hb
   obtain⟨x,hx⟩:∃x,o.inlines[k]=x:=⟨_,rfl⟩
   rw[hx] at hEc hrt hpt hpc
   have hE':cs=x.cells:=hEc
   subst hE'
   subst hpv
   have c0:wr.cell? ⟨g0,of+k*6,none⟩=some (.int .i64 x.sec):=hcc 0 _ rfl
   have c1:wr.cell? ⟨g0,of+k*6+1,none⟩=some (.int .i64 x.from_):=hcc 1 _ rfl
   have c2:wr.cell? ⟨g0,of+k*6+2,none⟩=some (.int .i64 x.to_):=hcc 2 _ rfl
   have c3:wr.cell? ⟨g0,of+k*6+3,none⟩=some (.string x.name):=hcc 3 _ rfl
   have c4:wr.cell? ⟨g0,of+k*6+4,none⟩=some (.string x.file):=hcc 4 _ rfl
   have c5:wr.cell? ⟨g0,of+k*6+5,none⟩=some (.int .i64 x.line):=hcc 5 _ rfl
   have HRt:=Hd.mk hrt
   have HPt:=Hd.mk hpt
   have HPc:=Hd.mk hpc
   have HG0:=Hd.mk hg
   clear hcc hcl hEc hg hrt hpt hpc hx
   go_upto_if 23 with(fail)
   go_cut [] from 22 (fun wx=>Hd (pairsB inlOrd (o.inlines.take (k+1))=true)∧Hd (Below (wr.alloc (.cells #[.int .i64 x.sec, .int .i64 x.from_, .int .i64 x.to_, .string x.name, .string x.file, .int .i64 x.line] 90)).heap.size (wr.alloc (.cells #[.int .i64 x.sec, .int .i64 x.from_, .int .i64 x.to_, .string x.name, .string x.file, .int .i64 x.line] 90)) wx))
   case first=>
    by_cases h0:k=0
    ·have d1:decide ((0:Int)< (k:Int))=false:=by simp;omega
     have d2:decide (0<k)=false:=decide_eq_false (by omega)
     rw[d2]
     clear d2
     have HP0:=Hd.mk (HPt.out (.inl h0))
     clear h0
     go_wp2
     go_meet
     exact⟨HP0,⟨Below.refl _ _⟩⟩
    ·have d1:decide ((0:Int)< (k:Int))=true:=by simp;omega
     have d2:decide (0<k)=true:=decide_eq_true (by omega)
     rw[d2]
     clear d2
     have hk0:0<k:=Nat.pos_of_ne_zero h0
     obtain⟨m,hm⟩:∃m,k-1=m:=⟨_,rfl⟩
     have hmq:m<o.inlines.length:=by omega
     have w1:wrap64 ((k:Int) -1)=(k:Int) -1:=by unfold wrap64;omega
     have m0:(0:Int)≤(k:Int) -1:=by omega
     have m1:(k:Int) -1< (n:Int):=by omega
     have m2:((k:Int) -1).toNat=k-1:=by omega
     obtain⟨g1,of1,cs1,hpv1,hg1,hcl1,hEc1,hcc1⟩:=(HR.out.below Inl.stays HBa.out).at rfl (j:=m) hmq
     injection hpv1 with e1
     injection e1 with e1 e2 _
     subst e1 e2
     have hpt1:=fun(h:inlOrd o.inlines[m] x=true)=>HPt.out (.inr ⟨hk0,by subst hm;exact h⟩)
     have hpc1:=fun(h:inlOrd o.inlines[m] x=false)=>HPc.out hk0 (by subst hm;exact h)
     obtain⟨a,ha⟩:∃a,o.inlines[m]=a:=⟨_,rfl⟩
     rw[ha] at hEc1 hpt1 hpc1
     have hE1:cs1=a.cells:=hEc1
     subst hE1
     have a0:((wr.alloc (.cells #[.int .i64 x.sec, .int .i64 x.from_, .int .i64 x.to_, .string x.name, .string x.file, .int .i64 x.line] 90))).cell? ⟨g0,of+(k-1)*6,none⟩=some (.int .i64 a.sec):=by rw[hm];exact((below_alloc wr _).cell (p:=⟨g0,_,none⟩) HG0.out).trans (hcc1 0 _ rfl)
     have a1:((wr.alloc (.cells #[.int .i64 x.sec, .int .i64 x.from_, .int .i64 x.to_, .string x.name, .string x.file, .int .i64 x.line] 90))).cell? ⟨g0,of+(k-1)*6+1,none⟩=some (.int .i64 a.from_):=by rw[hm];exact((below_alloc wr _).cell (p:=⟨g0,_,none⟩) HG0.out).trans (hcc1 1 _ rfl)
     have a2:((wr.alloc (.cells #[.int .i64 x.sec, .int .i64 x.from_, .int .i64 x.to_, .string x.name, .string x.file, .int .i64 x.line] 90))).cell? ⟨g0,of+(k-1)*6+2,none⟩=some (.int .i64 a.to_):=by rw[hm];exact((below_alloc wr _).cell (p:=⟨g0,_,none⟩) HG0.out).trans (hcc1 2 _ rfl)
     have a3:((wr.alloc (.cells #[.int .i64 x.sec, .int .i64 x.from_, .int .i64 x.to_, .string x.name, .string x.file, .int .i64 x.line] 90))).cell? ⟨g0,of+(k-1)*6+3,none⟩=some (.string a.name):=by rw[hm];exact((below_alloc wr _).cell (p:=⟨g0,_,none⟩) HG0.out).trans (hcc1 3 _ rfl)
     have a4:((wr.alloc (.cells #[.int .i64 x.sec, .int .i64 x.from_, .int .i64 x.to_, .string x.name, .string x.file, .int .i64 x.line] 90))).cell? ⟨g0,of+(k-1)*6+4,none⟩=some (.string a.file):=by rw[hm];exact((below_alloc wr _).cell (p:=⟨g0,_,none⟩) HG0.out).trans (hcc1 4 _ rfl)
     have a5:((wr.alloc (.cells #[.int .i64 x.sec, .int .i64 x.from_, .int .i64 x.to_, .string x.name, .string x.file, .int .i64 x.line] 90))).cell? ⟨g0,of+(k-1)*6+5,none⟩=some (.int .i64 a.line):=by rw[hm];exact((below_alloc wr _).cell (p:=⟨g0,_,none⟩) HG0.out).trans (hcc1 5 _ rfl)
     have b7:=(HOr.out.alloc (.cells #[.int .i64 x.sec, .int .i64 x.from_, .int .i64 x.to_, .string x.name, .string x.file, .int .i64 x.line] 90)).c7
     have HC1:=Hd.mk (fun w=>cmpI_any a.sec x.sec w)
     have HC2:=Hd.mk (fun w=>cmpI_any a.from_ x.from_ w)
     have HC3:=Hd.mk (fun w=>cmpI_any x.to_ a.to_ w)
     have hSo:=inl_or a x
     obtain⟨k1,e1⟩:∃k,cmpI a.sec x.sec=k:=⟨_,rfl⟩
     obtain⟨k2,e2⟩:∃k,cmpI a.from_ x.from_=k:=⟨_,rfl⟩
     obtain⟨k3,e3⟩:∃k,cmpI x.to_ a.to_=k:=⟨_,rfl⟩
     rw[e1] at HC1 hSo
     rw[e2] at HC2 hSo
     rw[e3] at HC3 hSo
     have hO:=(fun(w:World) (v:Value) (hr:Rw 1 intE w v [k1,k2,k3])=>cmpOr_any w v [k1,k2,k3] (show(3:Nat)≤140737488351232 by decide) hr)
     obtain⟨z,hz⟩:∃z,orL [k1,k2,k3]=z:=⟨_,rfl⟩
     rw[hz] at hSo hO
     have HO:=Hd.mk hO
     have HPt1:=Hd.mk hpt1
     have HPc1:=Hd.mk hpc1
     have HOq:Hd (inlOrd a x=true∨inlOrd a x=false):=⟨by cases inlOrd a x<;>simp⟩
     have HSo:=Hd.mk hSo
     clear hO hpt1 hpc1 hSo e1 e2 e3 hz hcc1 hcl1 hEc1 hg1 ha hm h0 hk0
     have HF:Hd (∀w',Below ((wr.alloc (.cells #[.int .i64 x.sec, .int .i64 x.from_, .int .i64 x.to_, .string x.name, .string x.file, .int .i64 x.line] 90)).alloc (.cells #[.int .i64 a.sec, .int .i64 a.from_, .int .i64 a.to_, .string a.name, .string a.file, .int .i64 a.line] 90)).heap.size ((wr.alloc (.cells #[.int .i64 x.sec, .int .i64 x.from_, .int .i64 x.to_, .string x.name, .string x.file, .int .i64 x.line] 90)).alloc (.cells #[.int .i64 a.sec, .int .i64 a.from_, .int .i64 a.to_, .string a.name, .string a.file, .int .i64 a.line] 90)) w'→w'.cell? ⟨wr.heap.size,0,none⟩=some (.int .i64 x.sec)∧w'.cell? ⟨wr.heap.size,1,none⟩=some (.int .i64 x.from_)∧w'.cell? ⟨wr.heap.size,2,none⟩=some (.int .i64 x.to_)∧w'.cell? ⟨wr.heap.size,3,none⟩=some (.string x.name)∧w'.cell? ⟨wr.heap.size,4,none⟩=some (.string x.file)∧w'.cell? ⟨wr.heap.size,5,none⟩=some (.int .i64 x.line)∧w'.cell? ⟨wr.heap.size+1,0,none⟩=some (.int .i64 a.sec)∧w'.cell? ⟨wr.heap.size+1,1,none⟩=some (.int .i64 a.from_)∧w'.cell? ⟨wr.heap.size+1,2,none⟩=some (.int .i64 a.to_)∧w'.cell? ⟨wr.heap.size+1,3,none⟩=some (.string a.name)∧w'.cell? ⟨wr.heap.size+1,4,none⟩=some (.string a.file)∧w'.cell? ⟨wr.heap.size+1,5,none⟩=some (.int .i64 a.line)):=⟨fun w' h=>⟨(h.cell (p:=⟨wr.heap.size,0,none⟩) (by simp;omega)).trans (by simp[go_sem]),(h.cell (p:=⟨wr.heap.size,1,none⟩) (by simp;omega)).trans (by simp[go_sem]),(h.cell (p:=⟨wr.heap.size,2,none⟩) (by simp;omega)).trans (by simp[go_sem]),(h.cell (p:=⟨wr.heap.size,3,none⟩) (by simp;omega)).trans (by simp[go_sem]),(h.cell (p:=⟨wr.heap.size,4,none⟩) (by simp;omega)).trans (by simp[go_sem]),(h.cell (p:=⟨wr.heap.size,5,none⟩) (by simp;omega)).trans (by simp[go_sem]),(h.cell (p:=⟨wr.heap.size+1,0,none⟩) (by simp)).trans (by simp[go_sem]),(h.cell (p:=⟨wr.heap.size+1,1,none⟩) (by simp)).trans (by simp[go_sem]),(h.cell (p:=⟨wr.heap.size+1,2,none⟩) (by simp)).trans (by simp[go_sem]),(h.cell (p:=⟨wr.heap.size+1,3,none⟩) (by simp)).trans (by simp[go_sem]),(h.cell (p:=⟨wr.heap.size+1,4,none⟩) (by simp)).trans (by simp[go_sem]),(h.cell (p:=⟨wr.heap.size+1,5,none⟩) (by simp)).trans (by simp[go_sem])⟩⟩
     rcases HOq.out with hq | hq
     ·have ho:decide ((0:Int)<z)=false:=by rw[HSo.out,hq];rfl
      have HP1:=Hd.mk (HPt1.out hq)
      clear hq
      go_wp2_with fail
      refine wp_region_lin default (fun w'=>Below ((wr.alloc (.cells #[.int .i64 x.sec, .int .i64 x.from_, .int .i64 x.to_, .string x.name, .string x.file, .int .i64 x.line] 90)).alloc (.cells #[.int .i64 a.sec, .int .i64 a.from_, .int .i64 a.to_, .string a.name, .string a.file, .int .i64 a.line] 90)).heap.size ((wr.alloc (.cells #[.int .i64 x.sec, .int .i64 x.from_, .int .i64 x.to_, .string x.name, .string x.file, .int .i64 x.line] 90)).alloc (.cells #[.int .i64 a.sec, .int .i64 a.from_, .int .i64 a.to_, .string a.name, .string a.file, .int .i64 a.line] 90)) w') [(0,true),(1,true),(2,true),(3,true),(5,true),(6,true),(7,true),(8,true),(10,true),(11,true),(12,true),(13,true),(4,false),(9,false),(14,false),(15,false),(16,false),(17,true)] (by kernel_rfl) (by kernel_rfl) rfl (by kernel_rfl) (by kernel_rfl) (Below.drew (Below.refl _ _)) ?_
      simp only[pick,List.getD_cons_zero,List.getD_cons_succ]
      repeat
       first
       | (refine lin_free (v:= ?_) (by rfl) ?_ ?_
          rotate_left
          ·intro w' hSw
           obtain⟨f0,f1,f2,f3,f4,f5,g0,g1,g2,g3,g4,g5⟩:=HF.out w' hSw
           clear hSw
           go_simp
           first | done | with_reducible rfl
          simp only[Act.put,List.setIfInBounds_toArray,List.set_cons_zero,List.set_cons_succ])
       | (refine lin_skip (by rfl) ?_
          simp only[Act.put,List.setIfInBounds_toArray,List.set_cons_zero,List.set_cons_succ])
      refine lin_bound (fun K hK=> ?_)
      go_simp
      refine(HC1.out _).mono ?_
      rintro e w' ⟨rfl,rfl⟩
      refine hK.out _ _ (Below.drew (Below.refl _ _)) ?_
      clear hK K
      try simp only[Act.put,List.setIfInBounds_toArray,List.set_cons_zero,List.set_cons_succ]
      refine lin_bound (fun K hK=> ?_)
      go_simp
      refine(HC2.out _).mono ?_
      rintro e w' ⟨rfl,rfl⟩
      refine hK.out _ _ (Below.drew (Below.refl _ _)) ?_
      clear hK K
      try simp only[Act.put,List.setIfInBounds_toArray,List.set_cons_zero,List.set_cons_succ]
      refine lin_bound (fun K hK=> ?_)
      go_simp
      refine(HC3.out _).mono ?_
      rintro e w' ⟨rfl,rfl⟩
      refine hK.out _ _ (Below.drew (Below.refl _ _)) ?_
      clear hK K
      try simp only[Act.put,List.setIfInBounds_toArray,List.set_cons_zero,List.set_cons_succ]
      refine lin_bound (fun K hK=> ?_)
      go_simp
      refine hK.out _ _ (by go_grown) ?_
      clear hK K
      try simp only[Act.put,List.setIfInBounds_toArray,List.set_cons_zero,List.set_cons_succ]
      refine lin_bound (fun K hK=> ?_)
      go_simp
      refine(HO.out _ _ (rowK9 wr _ _ _ _ _)).mono ?_
      rintro e w' ⟨rfl,rfl⟩
      refine hK.out _ _ (by go_grown) ?_
      clear hK K
      try simp only[Act.put,List.setIfInBounds_toArray,List.set_cons_zero,List.set_cons_succ]
      repeat
       first
       | (refine lin_free (v:= ?_) (by rfl) ?_ ?_
          rotate_left
          ·intro w' hSw
           obtain⟨f0,f1,f2,f3,f4,f5,g0,g1,g2,g3,g4,g5⟩:=HF.out w' hSw
           clear hSw
           go_simp
           first | done | with_reducible rfl
          simp only[Act.put,List.setIfInBounds_toArray,List.set_cons_zero,List.set_cons_succ])
       | (refine lin_skip (by rfl) ?_
          simp only[Act.put,List.setIfInBounds_toArray,List.set_cons_zero,List.set_cons_succ])
      refine NoPanic.normal ?_
      go_wp2
      go_meet
      exact⟨HP1,⟨by go_grown⟩⟩
     ·have ho:decide ((0:Int)<z)=true:=by rw[HSo.out,hq];rfl
      have HP1:=Hd.mk (HPc1.out hq)
      clear hq
      go_wp2_with fail
      refine wp_region_lin default (fun w'=>Below ((wr.alloc (.cells #[.int .i64 x.sec, .int .i64 x.from_, .int .i64 x.to_, .string x.name, .string x.file, .int .i64 x.line] 90)).alloc (.cells #[.int .i64 a.sec, .int .i64 a.from_, .int .i64 a.to_, .string a.name, .string a.file, .int .i64 a.line] 90)).heap.size ((wr.alloc (.cells #[.int .i64 x.sec, .int .i64 x.from_, .int .i64 x.to_, .string x.name, .string x.file, .int .i64 x.line] 90)).alloc (.cells #[.int .i64 a.sec, .int .i64 a.from_, .int .i64 a.to_, .string a.name, .string a.file, .int .i64 a.line] 90)) w') [(0,true),(1,true),(2,true),(3,true),(5,true),(6,true),(7,true),(8,true),(10,true),(11,true),(12,true),(13,true),(4,false),(9,false),(14,false),(15,false),(16,false),(17,true)] (by kernel_rfl) (by kernel_rfl) rfl (by kernel_rfl) (by kernel_rfl) (Below.drew (Below.refl _ _)) ?_
      simp only[pick,List.getD_cons_zero,List.getD_cons_succ]
      repeat
       first
       | (refine lin_free (v:= ?_) (by rfl) ?_ ?_
          rotate_left
          ·intro w' hSw
           obtain⟨f0,f1,f2,f3,f4,f5,g0,g1,g2,g3,g4,g5⟩:=HF.out w' hSw
           clear hSw
           go_simp
           first | done | with_reducible rfl
          simp only[Act.put,List.setIfInBounds_toArray,List.set_cons_zero,List.set_cons_succ])
       | (refine lin_skip (by rfl) ?_
          simp only[Act.put,List.setIfInBounds_toArray,List.set_cons_zero,List.set_cons_succ])
      refine lin_bound (fun K hK=> ?_)
      go_simp
      refine(HC1.out _).mono ?_
      rintro e w' ⟨rfl,rfl⟩
      refine hK.out _ _ (Below.drew (Below.refl _ _)) ?_
      clear hK K
      try simp only[Act.put,List.setIfInBounds_toArray,List.set_cons_zero,List.set_cons_succ]
      refine lin_bound (fun K hK=> ?_)
      go_simp
      refine(HC2.out _).mono ?_
      rintro e w' ⟨rfl,rfl⟩
      refine hK.out _ _ (Below.drew (Below.refl _ _)) ?_
      clear hK K
      try simp only[Act.put,List.setIfInBounds_toArray,List.set_cons_zero,List.set_cons_succ]
      refine lin_bound (fun K hK=> ?_)
      go_simp
      refine(HC3.out _).mono ?_
      rintro e w' ⟨rfl,rfl⟩
      refine hK.out _ _ (Below.drew (Below.refl _ _)) ?_
      clear hK K
      try simp only[Act.put,List.setIfInBounds_toArray,List.set_cons_zero,List.set_cons_succ]
      refine lin_bound (fun K hK=> ?_)
      go_simp
      refine hK.out _ _ (by go_grown) ?_
      clear hK K
      try simp only[Act.put,List.setIfInBounds_toArray,List.set_cons_zero,List.set_cons_succ]
      refine lin_bound (fun K hK=> ?_)
      go_simp
      refine(HO.out _ _ (rowK9 wr _ _ _ _ _)).mono ?_
      rintro e w' ⟨rfl,rfl⟩
      refine hK.out _ _ (by go_grown) ?_
      clear hK K
      try simp only[Act.put,List.setIfInBounds_toArray,List.set_cons_zero,List.set_cons_succ]
      repeat
       first
       | (refine lin_free (v:= ?_) (by rfl) ?_ ?_
          rotate_left
          ·intro w' hSw
           obtain⟨f0,f1,f2,f3,f4,f5,g0,g1,g2,g3,g4,g5⟩:=HF.out w' hSw
           clear hSw
           go_simp
           first | done | with_reducible rfl
          simp only[Act.put,List.setIfInBounds_toArray,List.set_cons_zero,List.set_cons_succ])
       | (refine lin_skip (by rfl) ?_
          simp only[Act.put,List.setIfInBounds_toArray,List.set_cons_zero,List.set_cons_succ])
      refine NoPanic.normal ?_
      go_wp2
      go_ret
      exact⟨ret_b (by rw[HSp.out,HP1.out]<;>simp),HBa.out.trans ((show Below wr.heap.size wr _ by go_grown).mono HBa.out.size)⟩
   case rest=>
    obtain⟨HPk,HBc⟩:=hcut
    obtain⟨XB,hXB⟩:∃XB,wr.heap.size=XB:=⟨_,rfl⟩
    have HBw:Hd (Below wr.heap.size wr wc):=⟨below_first HBc.out⟩
    have HBwc:Hd (Below w.heap.size w wc):=⟨HBa.out.trans (HBw.out.mono HBa.out.size)⟩
    have HBlc:Hd (B≤wc.heap.size):=⟨Nat.le_trans HBl.out HBw.out.size⟩
    have HBvc:Hd (Below B v1 wc):=⟨HBr.out.trans (HBw.out.mono HBl.out)⟩
    have HXL:Hd (wr.heap.size<wc.heap.size):=⟨by have:=HBc.out.size;simp at this;omega⟩
    have HSc:Hd (InlAt wc B u3 st):=⟨HSt.out.below HBw.out⟩
    have HX:Hd (∀w',Below wc.heap.size wc w'→w'.cell? ⟨wr.heap.size,0,none⟩=some (.int .i64 x.sec)∧w'.cell? ⟨wr.heap.size,1,none⟩=some (.int .i64 x.from_)∧w'.cell? ⟨wr.heap.size,2,none⟩=some (.int .i64 x.to_)∧w'.cell? ⟨wr.heap.size,3,none⟩=some (.string x.name)∧w'.cell? ⟨wr.heap.size,4,none⟩=some (.string x.file)∧w'.cell? ⟨wr.heap.size,5,none⟩=some (.int .i64 x.line)):=⟨fun w' h=>⟨((h.cell (p:=⟨wr.heap.size,0,none⟩) HXL.out).trans ((HBc.out.cell (p:=⟨wr.heap.size,0,none⟩) (by simp)).trans (by simp[go_sem]))),((h.cell (p:=⟨wr.heap.size,1,none⟩) HXL.out).trans ((HBc.out.cell (p:=⟨wr.heap.size,1,none⟩) (by simp)).trans (by simp[go_sem]))),((h.cell (p:=⟨wr.heap.size,2,none⟩) HXL.out).trans ((HBc.out.cell (p:=⟨wr.heap.size,2,none⟩) (by simp)).trans (by simp[go_sem]))),((h.cell (p:=⟨wr.heap.size,3,none⟩) HXL.out).trans ((HBc.out.cell (p:=⟨wr.heap.size,3,none⟩) (by simp)).trans (by simp[go_sem]))),((h.cell (p:=⟨wr.heap.size,4,none⟩) HXL.out).trans ((HBc.out.cell (p:=⟨wr.heap.size,4,none⟩) (by simp)).trans (by simp[go_sem]))),((h.cell (p:=⟨wr.heap.size,5,none⟩) HXL.out).trans ((HBc.out.cell (p:=⟨wr.heap.size,5,none⟩) (by simp)).trans (by simp[go_sem])))⟩⟩
    rw[hXB] at HX⊢
    clear c0 c1 c2 c3 c4 c5 hXB
    go_wp2
    go_loopw [3] (fun v w2=>∃(s2:List Inl),Hd (InlAt w2 B v s2)∧Hd (inlPop x s2=inlPop x st)∧Hd (s2.length≤k)∧Hd (Below wc.heap.size wc w2)) (fun v _=>lenOf v)
    case atStart=>exact⟨st,HSc,⟨rfl⟩,HLen,⟨Below.refl _ _⟩⟩
    case round=>
     obtain⟨s2,HS2,HPop,HL2,HB2⟩:=hrel
     have HXr:Hd (∀w',Below wr.heap.size wr w'→w'.cell? ⟨XB,0,none⟩=some (.int .i64 x.sec)∧w'.cell? ⟨XB,1,none⟩=some (.int .i64 x.from_)∧w'.cell? ⟨XB,2,none⟩=some (.int .i64 x.to_)∧w'.cell? ⟨XB,3,none⟩=some (.string x.name)∧w'.cell? ⟨XB,4,none⟩=some (.string x.file)∧w'.cell? ⟨XB,5,none⟩=some (.int .i64 x.line)):=⟨fun w' h=>HX.out w' (HB2.out.trans (h.mono HB2.out.size))⟩
     have HBwr:Hd (Below w.heap.size w wr):=⟨HBwc.out.trans (HB2.out.mono HBwc.out.size)⟩
     have HBv:Hd (Below B v1 wr):=⟨HBvc.out.trans (HB2.out.mono HBlc.out)⟩
     cases s2 with
     | nil=>
       obtain⟨pv,pc,hv⟩:=HS2.out.slice
       have hv:u3= .slice pv 0 pc:=hv
       subst hv
       have HEnd:=Hd.mk (run_end0 HRt.out HPop.out)
       obtain⟨v5,w5,hr5,hs5,hb5⟩:=InlAt.push (H:=wr.heap.size) x (HS2.out.below (show Below wr.heap.size wr (wr.alloc (.cells #[.int .i64 x.sec, .int .i64 x.from_, .int .i64 x.to_, .string x.name, .string x.file, .int .i64 x.line] 90)).drew.drew by go_grown)) (inl_size HB2.out.size HBlc.out) (by simp) (fun j u hj=>by exact new_cells wr x j u hj)
       have HS5:=Hd.mk hs5
       have HB5:Hd (Below B v1 w5):=⟨(HBv.out.trans ((show Below wr.heap.size wr _ by go_grown).mono (inl_len HB2.out.size HBlc.out))).trans hb5⟩
       clear hs5 hb5
       go_wp2_with fail
       refine wp_region_lin default (fun w'=>Below wr.heap.size wr w') [(0,true),(1,true),(2,true),(3,true),(4,true),(5,true),(6,true),(7,true),(8,true),(9,true),(10,true),(11,true),(12,true),(13,true),(14,true),(15,true),(16,true),(17,true),(18,true),(19,true),(20,true),(21,true),(22,true),(23,true),(24,true),(25,true),(26,true)] (by kernel_rfl) (by kernel_rfl) rfl (by kernel_rfl) (by kernel_rfl) (Below.drew (Below.refl _ _)) ?_
       simp only[pick,List.getD_cons_zero,List.getD_cons_succ]
       repeat
        first
        | (refine lin_free (v:= ?_) (by rfl) ?_ ?_
           rotate_left
           ·intro w' hSw
            obtain⟨f0,f1,f2,f3,f4,f5⟩:=HXr.out w' hSw
            clear hSw
            go_simp
            first | done | with_reducible rfl
           simp only[Act.put,List.setIfInBounds_toArray,List.set_cons_zero,List.set_cons_succ])
        | (refine lin_skip (by rfl) ?_
           simp only[Act.put,List.setIfInBounds_toArray,List.set_cons_zero,List.set_cons_succ])
       refine NoPanic.normal ?_
       go_wp2_with fail
       refine wp_region_lin default (fun w'=>Below wr.heap.size wr w') [(0,true),(1,true),(2,true),(3,true),(4,true),(5,true),(6,true),(7,true),(8,true),(9,true),(10,true),(11,true),(12,true),(13,true),(14,true)] (by kernel_rfl) (by kernel_rfl) rfl (by kernel_rfl) (by kernel_rfl) (Below.drew (Below.drew (Below.refl _ _))) ?_
       simp only[pick,List.getD_cons_zero,List.getD_cons_succ]
       repeat
        first
        | (refine lin_free (v:= ?_) (by rfl) ?_ ?_
           rotate_left
           ·intro w' hSw
            obtain⟨f0,f1,f2,f3,f4,f5⟩:=HXr.out w' hSw
            clear hSw
            go_simp
            first | done | with_reducible rfl
           simp only[Act.put,List.setIfInBounds_toArray,List.set_cons_zero,List.set_cons_succ])
        | (refine lin_skip (by rfl) ?_
           simp only[Act.put,List.setIfInBounds_toArray,List.set_cons_zero,List.set_cons_succ])
       refine NoPanic.normal ?_
       obtain⟨f0,f1,f2,f3,f4,f5⟩:=HXr.out wr (Below.refl _ _)
       go_wp2_with (at_builtin;refine wp_append_run rfl _ _ _ rfl _ _ _ rfl rfl hr5 ?_)
       exact⟨⟨k+1,[x],hlt,by go_num,HEnd,HPk,⟨by simp⟩,HS5,HB5⟩,by simp[intOf];omega⟩
     | cons a r=>
       obtain⟨g,cap,hv,hBg,hgl,hcap,htop⟩:=HS2.out.top
       subst hv
       obtain⟨R,hR2⟩:∃R,r.length=R:=⟨_,rfl⟩
       rw[hR2] at htop hcap⊢
       have hl2:=HL2.out
       have hR3:R+1≤k:=by rw[←hR2];exact hl2
       have HXT:Hd (∀w',Below wr.heap.size wr w'→w'.cell? ⟨XB,0,none⟩=some (.int .i64 x.sec)∧w'.cell? ⟨XB,1,none⟩=some (.int .i64 x.from_)∧w'.cell? ⟨XB,2,none⟩=some (.int .i64 x.to_)∧w'.cell? ⟨XB,3,none⟩=some (.string x.name)∧w'.cell? ⟨XB,4,none⟩=some (.string x.file)∧w'.cell? ⟨XB,5,none⟩=some (.int .i64 x.line)∧w'.cell? ⟨g,R*6,none⟩=some (.int .i64 a.sec)∧w'.cell? ⟨g,R*6+2,none⟩=some (.int .i64 a.to_)):=⟨fun w' h=>by
        obtain⟨f0,f1,f2,f3,f4,f5⟩:=HXr.out w' h
        exact⟨f0,f1,f2,f3,f4,f5,(h.cell (p:=⟨g,_,none⟩) hgl).trans (htop 0 _ rfl),(h.cell (p:=⟨g,_,none⟩) hgl).trans (htop 2 _ rfl)⟩⟩
       obtain⟨r0,r1,r2,i0,i1,i2,i3⟩:=inl_nums hR3 hkn hl hcap
       have HS3:Hd (InlAt wr B (.slice (some ⟨g,0,none⟩) (R+1) cap) (a::r)):=⟨by have:=HS2.out;rw[hR2] at this;exact this⟩
       have HSp2:Hd (InlAt wr B (.slice (some ⟨g,0,none⟩) R cap) r):=⟨by have:=HS2.out.pop;rw[hR2] at this;exact this⟩
       have HLr2:Hd (r.length≤k):=⟨hR2▸Nat.le_of_succ_le hR3⟩
       have HL3:Hd ((a::r).length≤k):=HL2
       have hp1:((a.sec !=x.sec) || decide (a.to_≤x.from_))=true→inlPop x r=inlPop x st:=fun h=>by
        rw[←HPop.out]
        unfold inlPop
        rw[List.dropWhile_cons_of_pos]
        rw[←bne_dec];exact h
       have hp2:((a.sec !=x.sec) || decide (a.to_≤x.from_))=false→inlPop x st=a::r:=fun h=>by
        rw[←HPop.out]
        unfold inlPop
        rw[List.dropWhile_cons_of_neg]
        rw[←bne_dec,h];decide
       have HP1:=Hd.mk hp1
       have HP2:=Hd.mk hp2
       obtain⟨t1,ht1⟩:∃q,(a.sec !=x.sec)=q:=⟨_,rfl⟩
       obtain⟨t2,ht2⟩:∃q,decide (a.to_≤x.from_)=q:=⟨_,rfl⟩
       obtain⟨t3,ht3⟩:∃q,decide (a.to_<x.to_)=q:=⟨_,rfl⟩
       rw[ht1,ht2] at HP1 HP2
       have HT3:=Hd.mk ht3
       clear htop hcap hgl hBg hl2 hR3 hR2 hp1 hp2 HS2 HL2
       rcases t1 with _ | _
       rcases t2 with _ | _
       ·have HTop:=Hd.mk (HP2.out rfl)
        rcases t3 with _ | _
        ·have HEnd:=Hd.mk (run_end1 HRt.out HTop.out (by simpa using HT3.out))
         obtain⟨v5,w5,hr5,hs5,hb5⟩:=InlAt.push (H:=wr.heap.size) x (HS3.out.below (show Below wr.heap.size wr (wr.alloc (.cells #[.int .i64 x.sec, .int .i64 x.from_, .int .i64 x.to_, .string x.name, .string x.file, .int .i64 x.line] 90)).drew.drew by go_grown)) (inl_size HB2.out.size HBlc.out) (inl_len1 HL3.out hkn hl) (fun j u hj=>by exact new_cells wr x j u hj)
         have HS5:=Hd.mk hs5
         have HB5:Hd (Below B v1 w5):=⟨(HBv.out.trans ((show Below wr.heap.size wr _ by go_grown).mono (inl_len HB2.out.size HBlc.out))).trans hb5⟩
         clear hs5 hb5
         go_wp2_with fail
         refine wp_region_lin default (fun w'=>Below wr.heap.size wr w') [(0,true),(1,true),(2,true),(3,true),(4,true),(5,true),(6,true),(7,true),(8,true),(9,true),(10,true),(11,true),(12,true),(13,true),(14,true),(15,true),(16,true),(17,true),(18,true),(19,true),(20,true),(21,true),(22,true),(23,true),(24,true),(25,true),(26,true)] (by kernel_rfl) (by kernel_rfl) rfl (by kernel_rfl) (by kernel_rfl) (Below.drew (Below.refl _ _)) ?_
         simp only[pick,List.getD_cons_zero,List.getD_cons_succ]
         repeat
          first
          | (refine lin_free (v:= ?_) (by rfl) ?_ ?_
             rotate_left
             ·intro w' hSw
              obtain⟨f0,f1,f2,f3,f4,f5,k0,k2⟩:=HXT.out w' hSw
              clear hSw
              go_simp
              first | done | with_reducible rfl
             simp only[Act.put,List.setIfInBounds_toArray,List.set_cons_zero,List.set_cons_succ])
          | (refine lin_skip (by rfl) ?_
             simp only[Act.put,List.setIfInBounds_toArray,List.set_cons_zero,List.set_cons_succ])
         refine NoPanic.normal ?_
         go_wp2_with fail
         refine wp_region_lin default (fun w'=>Below wr.heap.size wr w') [(0,true),(1,true),(2,true),(3,true),(4,true),(5,true),(6,true),(7,true),(8,true),(9,true),(10,true),(11,true),(12,true),(13,true),(14,true)] (by kernel_rfl) (by kernel_rfl) rfl (by kernel_rfl) (by kernel_rfl) (Below.drew (Below.drew (Below.refl _ _))) ?_
         simp only[pick,List.getD_cons_zero,List.getD_cons_succ]
         repeat
          first
          | (refine lin_free (v:= ?_) (by rfl) ?_ ?_
             rotate_left
             ·intro w' hSw
              obtain⟨f0,f1,f2,f3,f4,f5,k0,k2⟩:=HXT.out w' hSw
              clear hSw
              go_simp
              first | done | with_reducible rfl
             simp only[Act.put,List.setIfInBounds_toArray,List.set_cons_zero,List.set_cons_succ])
          | (refine lin_skip (by rfl) ?_
             simp only[Act.put,List.setIfInBounds_toArray,List.set_cons_zero,List.set_cons_succ])
         refine NoPanic.normal ?_
         obtain⟨f0,f1,f2,f3,f4,f5,k0,k2⟩:=HXT.out wr (Below.refl _ _)
         go_wp2_with (at_builtin;refine wp_append_run rfl _ _ _ rfl _ _ _ rfl rfl hr5 ?_)
         exact⟨⟨k+1,x::a::r,hlt,by go_num,HEnd,HPk,⟨inl_len2 HL3.out⟩,HS5,HB5⟩,by simp[intOf];omega⟩
        ·have HBad:=Hd.mk (nest_bad (run_end2 HRt.out HTop.out (by simpa using HT3.out)))
         go_wp2_with fail
         refine wp_region_lin default (fun w'=>Below wr.heap.size wr w') [(0,true),(1,true),(2,true),(3,true),(4,true),(5,true),(6,true),(7,true),(8,true),(9,true),(10,true),(11,true),(12,true),(13,true),(14,true),(15,true),(16,true),(17,true),(18,true),(19,true),(20,true),(21,true),(22,true),(23,true),(24,true),(25,true),(26,true)] (by kernel_rfl) (by kernel_rfl) rfl (by kernel_rfl) (by kernel_rfl) (Below.drew (Below.refl _ _)) ?_
         simp only[pick,List.getD_cons_zero,List.getD_cons_succ]
         repeat
          first
          | (refine lin_free (v:= ?_) (by rfl) ?_ ?_
             rotate_left
             ·intro w' hSw
              obtain⟨f0,f1,f2,f3,f4,f5,k0,k2⟩:=HXT.out w' hSw
              clear hSw
              go_simp
              first | done | with_reducible rfl
             simp only[Act.put,List.setIfInBounds_toArray,List.set_cons_zero,List.set_cons_succ])
          | (refine lin_skip (by rfl) ?_
             simp only[Act.put,List.setIfInBounds_toArray,List.set_cons_zero,List.set_cons_succ])
         refine NoPanic.normal ?_
         go_wp2_with fail
         refine wp_region_lin default (fun w'=>Below wr.heap.size wr w') [(0,true),(1,true),(2,true),(3,true),(4,true),(5,true),(6,true),(7,true),(8,true),(9,true),(10,true),(11,true),(12,true),(13,true),(14,true)] (by kernel_rfl) (by kernel_rfl) rfl (by kernel_rfl) (by kernel_rfl) (Below.drew (Below.drew (Below.refl _ _))) ?_
         simp only[pick,List.getD_cons_zero,List.getD_cons_succ]
         repeat
          first
          | (refine lin_free (v:= ?_) (by rfl) ?_ ?_
             rotate_left
             ·intro w' hSw
              obtain⟨f0,f1,f2,f3,f4,f5,k0,k2⟩:=HXT.out w' hSw
              clear hSw
              go_simp
              first | done | with_reducible rfl
             simp only[Act.put,List.setIfInBounds_toArray,List.set_cons_zero,List.set_cons_succ])
          | (refine lin_skip (by rfl) ?_
             simp only[Act.put,List.setIfInBounds_toArray,List.set_cons_zero,List.set_cons_succ])
         refine NoPanic.normal ?_
         go_wp2
         go_ret
         exact⟨ret_b (by rw[HSp.out,HBad.out]<;>simp),HBwr.out.trans ((show Below wr.heap.size wr _ by go_grown).mono HBwr.out.size)⟩
       ·have HNx:=Hd.mk (HP1.out rfl)
        go_wp2_with fail
        refine wp_region_lin default (fun w'=>Below wr.heap.size wr w') [(0,true),(1,true),(2,true),(3,true),(4,true),(5,true),(6,true),(7,true),(8,true),(9,true),(10,true),(11,true),(12,true),(13,true),(14,true),(15,true),(16,true),(17,true),(18,true),(19,true),(20,true),(21,true),(22,true),(23,true),(24,true),(25,true),(26,true)] (by kernel_rfl) (by kernel_rfl) rfl (by kernel_rfl) (by kernel_rfl) (Below.drew (Below.refl _ _)) ?_
        simp only[pick,List.getD_cons_zero,List.getD_cons_succ]
        repeat
         first
         | (refine lin_free (v:= ?_) (by rfl) ?_ ?_
            rotate_left
            ·intro w' hSw
             obtain⟨f0,f1,f2,f3,f4,f5,k0,k2⟩:=HXT.out w' hSw
             clear hSw
             go_simp
             first | done | with_reducible rfl
            simp only[Act.put,List.setIfInBounds_toArray,List.set_cons_zero,List.set_cons_succ])
         | (refine lin_skip (by rfl) ?_
            simp only[Act.put,List.setIfInBounds_toArray,List.set_cons_zero,List.set_cons_succ])
        refine NoPanic.normal ?_
        go_wp2
        exact⟨⟨r,⟨HSp2.out.below (by go_grown)⟩,HNx,HLr2,⟨HB2.out.trans ((show Below wr.heap.size wr _ by go_grown).mono HB2.out.size)⟩⟩,by simp[lenOf]⟩
       ·have HNx:=Hd.mk (HP1.out rfl)
        go_wp2_with fail
        refine wp_region_lin default (fun w'=>Below wr.heap.size wr w') [(0,true),(1,true),(2,true),(3,true),(4,true),(5,true),(6,true),(7,true),(8,true),(9,true),(10,true),(11,true),(12,true),(13,true),(14,true),(15,true),(16,true),(17,true),(18,true),(19,true),(20,true),(21,true),(22,true),(23,true),(24,true),(25,true),(26,true)] (by kernel_rfl) (by kernel_rfl) rfl (by kernel_rfl) (by kernel_rfl) (Below.drew (Below.refl _ _)) ?_
        simp only[pick,List.getD_cons_zero,List.getD_cons_succ]
        repeat
         first
         | (refine lin_free (v:= ?_) (by rfl) ?_ ?_
            rotate_left
            ·intro w' hSw
             obtain⟨f0,f1,f2,f3,f4,f5,k0,k2⟩:=HXT.out w' hSw
             clear hSw
             go_simp
             first | done | with_reducible rfl
            simp only[Act.put,List.setIfInBounds_toArray,List.set_cons_zero,List.set_cons_succ])
         | (refine lin_skip (by rfl) ?_
            simp only[Act.put,List.setIfInBounds_toArray,List.set_cons_zero,List.set_cons_succ])
        refine NoPanic.normal ?_
        go_wp2
        exact⟨⟨r,⟨HSp2.out.below (by go_grown)⟩,HNx,HLr2,⟨HB2.out.trans ((show Below wr.heap.size wr _ by go_grown).mono HB2.out.size)⟩⟩,by simp[lenOf]⟩
  ·have hd1:decide ((k:Int)< (n:Int))=false:=by simp;omega
   have htk:o.inlines.take k=o.inlines:=List.take_of_length_le (by have:=HN.out;omega)
   have HEnd:Hd (inlinesB o=true):=⟨by
    have h1:=HRun.out
    have h2:=HPr.out
    rw[htk] at h1 h2
    rw[HSp.out,h2,run_nest,h1];rfl⟩
   clear htk
   go_wp2
   go_ret
   exact⟨ret_b HEnd.out.symm,HBa.out⟩
end Go.Proofs.YtfaepbjnpakghaaGreatDoor.W
