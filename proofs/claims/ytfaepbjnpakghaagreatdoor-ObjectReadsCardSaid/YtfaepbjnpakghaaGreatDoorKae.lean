import Derived.Deep.Upon
import Derived.Test.YtfaepbjnpakghaaGreatDoorKad
import Derived.Test.YtfaepbjnpakghaaGreatDoorKaa
import Derived.Test.YtfaepbjnpakghaaGreatDoorKac
/- append to a row without room: what lay there stays. -/
namespace Go.Proofs.YtfaepbjnpakghaaGreatDoor.W
open Go.RowKit
set_option linter.unusedVariables false
theorem app_fresh {P:Program} (w:World) (t ty e:TypeId) {i:TypeInfo} {z:Value} {size bytes:Nat} (ht:P.underlying t=some (.slice e)) (hi:P.info? e=some i) (hz:i.zero=some z) (hsize:i.size=size) (hby:i.bytes=bytes) (hzs:z.cells.size=size) (h0:0<size)
 (B:Nat) (hB:B≤w.heap.size) (p:Option Addr) (hown:w.ownsRow B e size (.slice p 0 0) 0 []) (q:Option Addr) (m c:Nat) (us:List Value) (hx:(q=none∧m=0)∨∃a,q=some a∧∀j u,us[j]? =some u→w.cell? (a.add j)=some u)
 (hm:us.length=m*size) (h1:∀u∈us,u.oneCell'=true) (h63:m≤maxLen) (hbytes:m*bytes≤140737488355328):
 ∃v' w',(Builtin.append_ #[t,t] ty #[.slice p 0 0, .slice q m c]).run P w= .ok v' w'∧w'.ownsRow B e size v' m us∧Keeps (fun _=>False) w w':=by
 have hsz:i.size=size:=hsize
 have nothing:m=0→∀hs:Src P i.size t (.slice q m c) 0 [] w,∃v' w',(Builtin.append_ #[t,t] ty #[.slice p 0 0, .slice q m c]).run P w= .ok v' w'∧w'.ownsRow B e size v' m us∧Keeps (fun _=>False) w w':=by
  intro hm0 hs
  have hr:=run_append_nothing (P:=P) w t t ty e i ht hi p 0 0 (Nat.le_refl _) (.slice q m c) hs
  have hus:us=[]:=List.length_eq_zero_iff.1 (by rw[hm,hm0,Nat.zero_mul])
  exact⟨_,_,hr,by rw[hm0,hus];exact hown,Keeps.refl _ _⟩
 rcases hx with⟨rfl,rfl⟩ | ⟨a,rfl,hc⟩
 ·exact nothing rfl (Src.ofNil w ht c)
 ·have hsrc:Src P i.size t (.slice (some a) m c) m us w:=Src.ofSlice w ht a m c us (by rw[hsz];exact hm) hc h1
  rcases Nat.eq_zero_or_pos m with hm0 | hm0
  ·subst hm0
   have hus:us=[]:=List.length_eq_zero_iff.1 (by rw[hm,Nat.zero_mul])
   exact nothing rfl (hus▸hsrc)
  ·obtain⟨v',w',hr,h2,_,_,_⟩:=run_append_own_at (P:=P) w B t ty e i z size bytes ht hi hz hsize hby hzs h0 (.slice p 0 0) 0 [] hown a m c us hm hc h1 (by omega) (by rw[Nat.zero_add];exact hbytes) hB
   have hold:(Builtin.firstCells i.size 0 (.slice p 0 0)).run P w.drew= .ok ([]:List Value).toArray w.drew:=by
    rcases p with _ | p
    ·exact run_firstCells_none w.drew i.size 0 0 0
    ·exact run_firstCells_some w.drew i.size 0 p 0 0 [] (by simp) (by simp)
   have hg:=run_append_grow_src (P:=P) w t t ty e i z ht hi hz p 0 0 [] hold (.slice (some a) m c) m us hsrc (by omega) (by unfold maxLen at h63;omega) (by
    have:Builtin.nextslicecap (0+m) 0=m:=by unfold Builtin.nextslicecap;rw[if_pos (by omega)];omega
    rw[this,hby];omega)
   rw[hg] at hr
   injection hr with e1 e2
   subst e1 e2
   refine⟨_,_,hg,by simpa using h2,((Keeps.refl _ w).drew).alloc _⟩
theorem oper_append {P:Program} {o:Oper} {a:Act} {K:Act→World→Prop} {Q:Exit→Act→World→Prop} {W:World} (s x:Operand) (t:TypeId)
 (ho:o.op= .call {callee:= .builtin .append,args:= #[s,x],argTypes:= #[t,t]}) (vs vx:Value) (hs:a.eval s=vs) (hx:a.eval x=vx) {v':Value} {w':World}
 (hr:(Builtin.append_ #[t,t] o.type #[vs,vx]).run P W= .ok v' w') (h:K (a.put o.dst v') w'):Oper.wp P o a W K Q:=by
 unfold Oper.wp execOp
 simp only[ho,resolve,invoke,builtin,Sem.run_bind,Sem.run_pure,Result.andThen_ok,List.map_toArray,List.map_cons,List.map_nil,hs,hx,hr]
 exact h
end Go.Proofs.YtfaepbjnpakghaaGreatDoor.W
namespace Go.Proofs.YtfaepbjnpakghaaGreatDoor.W
open Go.RowKit
set_option linter.unusedVariables false
theorem run_app_at {P:Program} (w:World) (t ty e:TypeId) {i:TypeInfo} {z:Value} {bytes:Nat} (ht:P.underlying t=some (.slice e)) (hi:P.info? e=some i) (hz:i.zero=some z) (hsize:i.size=1) (hby:i.bytes=bytes) (hzs:z.cells.size=1)
 {B:Nat} (v:Value) (xs us:List Value) (hown:Own w B e v xs) (A:Addr) (c:Nat) (hus:∀j u,us[j]? =some u→w.cell? (A.add j)=some u) (h1:∀u∈us,u.oneCell'=true)
 (h63:xs.length+us.length≤maxLen) (hbytes:(xs.length+us.length)*bytes≤140737488355328) (hB:B≤w.heap.size):
 ∃v' w',(Builtin.append_ #[t,t] ty #[v, .slice (some A) us.length c]).run P w= .ok v' w'∧Own w' B e v' (xs++us)∧Keeps (fun k=>v.ownBlock=some k) w w'∧(v'.ownBlock=v.ownBlock∨v'.ownBlock=some w.heap.size):=by
 have add0:∀(g j:Nat),(⟨g,0,none⟩:Addr).add j=⟨g,j,none⟩:=fun g j=>by unfold Addr.add;split<;>simp_all
 rcases hown.is with⟨rfl,rfl⟩ | ⟨g,cap,rfl,hg0,hn,hm,⟨cur,fz,hg,hcs⟩,hcell,hfr⟩
 ·obtain⟨v',w',hr,h2,h3,_,h5⟩:=run_append_own_at (P:=P) w B t ty e i z 1 bytes ht hi hz hsize hby hzs (by decide) (.slice none 0 0) 0 [] (World.ownsRow_nil w B e 1) A us.length c us (by omega) hus h1 (by simpa using h63) (by simpa using hbytes) hB
  exact⟨v',w',hr,Own.of_row h2,⟨h3.os,h3.tape,h3.output,h3.size,fun k hk hn=>h3.block k hk (fun c=>hn c.symm)⟩,h5⟩
 ·by_cases hroom:xs.length+us.length≤cap
  ·have hf:=run_firstCells_some (P:=P) w 1 us.length A us.length c us (by omega) hus
   have hsome:∀j,j<us.length→(w.cell? ⟨g,xs.length+0+j,none⟩).isSome=true:=fun j hj=>by
    have:xs.length+0+j<cur.size:=by omega
    simp[World.cell?,hg]
    omega
   have hst:=run_storeCells_cells (P:=P) g xs.length us 0 w hsome (fun j hj=>hfr _ (by omega)) h1
   refine⟨.slice (some ⟨g,0,none⟩) (xs.length+us.length) cap,w.setCells g xs.length us,?_,?_,keeps_setCells us _ w, .inl rfl⟩
   ·simp only[Nat.add_zero] at hst
    simp[Builtin.append_,run_underlying ht,sizeOf,typeInfo,hi,Builtin.lenOf,hroom,hsize,Addr.add_lit,hf,hst]
   ·obtain⟨cur',hg',hs'⟩:=heap_setCells us xs.length w cur hg
    refine⟨.inr ⟨g,cap,by rw[List.length_append],hg0,by rw[List.length_append];exact hroom,hm,⟨cur',fz,hg',by omega⟩,fun j u hj=> ?_,fun j hj=>by rw[World.frozen?_setCells];exact hfr j hj⟩⟩
    by_cases hlt:j<xs.length
    ·rw[World.cell?_setCells_out _ _ _ _ _ (fun _ _=> .inl hlt)]
     rw[List.getElem?_append_left hlt] at hj
     exact hcell j u hj
    ·rw[List.getElem?_append_right (by omega)] at hj
     have hju:j-xs.length<us.length:=(List.getElem?_eq_some_iff.1 hj).1
     have:=World.cell?_setCells_in g us xs.length w (fun k hk=>by simpa using hsome k hk) (j-xs.length) hju
     rw[show xs.length+(j-xs.length)=j by omega] at this
     rw[this]
     rw[List.getElem?_eq_getElem hju] at hj
     exact hj
  ·have hr:=run_append_grow (P:=P) w t ty e i z ht hi hz ⟨g,0,none⟩ xs.length cap xs (by rw[hsize];omega) (fun j u hj=>by rw[add0];exact hcell j u hj) A us.length c us (by rw[hsize];omega) hus (by omega) (by simp only[maxLen] at h63;omega) (growslice_fits (by omega) (by rw[hby];exact hbytes))
   refine⟨_,_,hr,Own.of_row (n:=xs.length+us.length) ⟨by rw[List.length_append];omega, .inr ⟨w.heap.size,_,_,rfl,hB,heap_alloc_new w.drew _,grownCap_ge w _ cap e,grownCap_le_maxLen w _ cap e h63,?_,?_⟩⟩,((Keeps.refl _ w).drew).alloc _, .inr rfl⟩
   ·have hge:=grownCap_ge w (xs.length+us.length) cap e
    simp only[Array.size_append,List.size_toArray,size_zeroCells,hzs]
    omega
   ·simp only[Array.toList_append,List.append_assoc]
    rw[←List.append_assoc,show(xs.length+us.length)*1=(xs++us).length by rw[List.length_append];omega]
    exact List.take_left
theorem infoIntR:(Tryz.prog.info? 3).map (fun i=>(i.zero,i.size,i.bytes))=some (some (.int .i64 0),1,8):=by kernel_rfl
theorem Own.slice0 {w:World} {B:Nat} {e:TypeId} {v:Value} {xs:List Value} (h:Own w B e v xs):∃p c,v= .slice p xs.length c∧xs.length≤c:=by
 rcases h.is with⟨rfl,rfl⟩ | ⟨g,cap,rfl,_,hn,_⟩
 ·exact⟨none,0,rfl,Nat.le_refl _⟩
 ·exact⟨_,cap,rfl,hn⟩
theorem app_ints (w:World) (ty:TypeId) {B:Nat} (hB:B≤w.heap.size) (v v2:Value) (zs l:List Int) (hown:Own w B 3 v (zs.map (Value.int .i64))) (h2:Rw 1 intE w v2 l) (hz:zs.length≤1000000) (hl:l.length≤1000000):
 ∃v' w',(Builtin.append_ #[63,63] ty #[v,v2]).run Tryz.prog w= .ok v' w'∧Own w' B 3 v' ((zs++l).map (Value.int .i64))∧Keeps (fun k=>v.ownBlock=some k) w w':=by
 obtain⟨i,hi,hz0,hz1,hz2⟩:=info_parts infoIntR
 obtain⟨p2,c2,rfl⟩:=h2.slice
 rcases l with _ | ⟨x,l⟩
 ·have hs:Src Tryz.prog i.size 63 (.slice p2 ([]:List Int).length c2) 0 [] w:=by
   rcases p2 with _ | A
   ·exact Src.ofNil w Tryz.underlying63 c2
   ·exact Src.ofSlice w Tryz.underlying63 A 0 c2 [] (by simp) (by simp) (by simp)
  obtain⟨p,c,rfl,hc⟩:=hown.slice0
  have hr:=run_append_nothing (P:=Tryz.prog) w 63 63 ty 3 i Tryz.underlying63 hi p _ c hc (.slice p2 ([]:List Int).length c2) hs
  exact⟨_,_,hr,by rw[List.append_nil];exact hown,Keeps.refl _ _⟩
 ·obtain⟨g,o,cs,e1,hg,hcl,he,hc⟩:=h2.at rfl (show 0< (x::l).length by simp)
  subst e1
  have:=run_app_at (P:=Tryz.prog) w 63 ty 3 Tryz.underlying63 hi hz0 hz1 hz2 rfl v (zs.map (Value.int .i64)) ((x::l).map (Value.int .i64)) hown ⟨g,o,none⟩ c2 (fun j u hj=>by
   rw[List.getElem?_map,Option.map_eq_some_iff] at hj
   obtain⟨y,hy,rfl⟩:=hj
   obtain⟨hjl,rfl⟩:=List.getElem?_eq_some_iff.1 hy
   obtain⟨g',o',cs',e',hg',hcl',he',hc'⟩:=h2.at rfl hjl
   simp only[Option.some.injEq,Addr.mk.injEq,and_true] at e'
   obtain⟨rfl,rfl⟩:=e'
   unfold intE at he'
   subst he'
   have:=hc' 0 _ rfl
   rw[Nat.mul_one,Nat.add_zero] at this
   rw[Addr.add_lit]
   exact this) (fun u hu=>by obtain⟨y,_,rfl⟩:=List.mem_map.1 hu;rfl) (by rw[List.length_map,List.length_map];unfold maxLen;omega) (by rw[List.length_map,List.length_map];omega) hB
  rw[List.length_map] at this
  obtain⟨v',w',hr,ho,hk,_⟩:=this
  exact⟨v',w',hr,by rw[List.map_append];exact ho,hk⟩
end Go.Proofs.YtfaepbjnpakghaaGreatDoor.W
namespace Go.Proofs.YtfaepbjnpakghaaGreatDoor.W
open Go.RowKit
set_option linter.unusedVariables false
section
variable {P:Program} {Q:Exit→Act→World→Prop} {S:World→Prop}
def getB (P:Program) (ops:Array Oper) (Q:Exit→Act→World→Prop) (o:Oper) (K:Act→World→Prop) (a:Act) (w:World):Prop:=
 if Region.wanted o (yielded ops a.tmps)=true then Oper.wp P o a w K Q else K (a.put o.dst undef) w
def wpLin2 (P:Program) (l:List Oper) (Q:Exit→Act→World→Prop) (S:World→Prop) (d:Oper):List (Nat × Nat)→Act→World→Prop
 | [],a,w=>Q .normal a w
 | (i,0)::r,a,w=>∃v,YieldsIf P l.toArray S (l.getD i d) v a∧wpLin2 P l Q S d r (a.put (l.getD i d).dst v) w
 | (i,2)::(j,_)::r,a,w=>
   getB P l.toArray Q (l.getD i d) (fun a' w'=>S w'∧getB P l.toArray Q (l.getD j d) (fun a'' w''=>S w''∧wpLin2 P l Q S d r a'' w'') a' w') a w∧
   getB P l.toArray Q (l.getD j d) (fun a' w'=>S w'∧getB P l.toArray Q (l.getD i d) (fun a'' w''=>S w''∧wpLin2 P l Q S d r a'' w'') a' w') a w
 | (i,_)::r,a,w=>getB P l.toArray Q (l.getD i d) (fun a' w'=>S w'∧wpLin2 P l Q S d r a' w') a w
def ordB2 (ops:Array Oper):List (Nat × Nat)→Array Bool→Bool
 | [],listed=>(Region.ready .any ops listed).isEmpty
 | (i,0)::r,listed=>(Region.ready .any ops listed).contains i&&Region.free .any ops listed i&&ordB2 ops r (listed.setIfInBounds i true)
 | (i,2)::(j,_)::r,listed=>decide (Region.ready .any ops listed=[i,j])&&decide (Region.ready .any ops (listed.setIfInBounds i true)=[j])&&decide (Region.ready .any ops (listed.setIfInBounds j true)=[i])&&ordB2 ops r ((listed.setIfInBounds i true).setIfInBounds j true)&&ordB2 ops r ((listed.setIfInBounds j true).setIfInBounds i true)
 | (i,_)::r,listed=>decide (Region.ready .any ops listed=[i])&&ordB2 ops r (listed.setIfInBounds i true)
theorem getB_op {l:List Oper} {d:Oper} {i:Nat} (hl:i<l.length) {K K':Act→World→Prop} {a:Act} {w:World} (h:getB P l.toArray Q (l.getD i d) K a w) (hK:∀a w,K a w→K' a w):wpOp P l.toArray Q i K' a w:=by
 have e:l.getD i d=l[i]:=by simp[List.getD_eq_getElem?_getD,hl]
 unfold getB at h
 rw[e] at h
 refine wpOp_step (o:=l[i]) (by simp) (fun K'' hK''=> ?_)
 split
 ·rename_i hw
  rw[if_pos hw] at h
  exact Oper.wp_mono (fun a' w' h'=>hK'' a' w' (hK a' w' h')) h
 ·rename_i hw
  rw[if_neg hw] at h
  exact hK'' _ _ (hK _ _ h)
theorem wpAnyH_of_lin2 {l:List Oper} {d:Oper} (hsel:Region.noSelect l.toArray=true) (hQ:∀c a w,¬Q (.panic c) a w):∀(r:List (Nat × Nat)) (listed:Array Bool) (a:Act) (w:World),
 (∀x∈r,x.1<l.length)→ordB2 l.toArray r listed=true→S w→wpLin2 P l Q S d r a w→wpAnyH P .any l.toArray Q S r.length listed a w
 | [],listed,a,w,_,hB,hS,h=>⟨by simpa [ordB2] using hB,h⟩
 | (i,0)::r,listed,a,w,hi,hB,hS,h=>by
   simp only[ordB2,Bool.and_eq_true] at hB
   obtain⟨⟨hr,hf⟩,hB'⟩:=hB
   obtain⟨v,hy,h'⟩:=h
   have hl:=hi (i,0) (by simp)
   have e:l.getD i d=l[i]:=by simp[List.getD_eq_getElem?_getD,hl]
   rw[e] at hy h'
   exact wpAnyH_take (oi:=l[i]) (by simp) hsel hf hr (fun c a w hq=>absurd hq (hQ c _ w)) hy hS (wpAnyH_of_lin2 hsel hQ r _ _ w (fun x hx=>hi x (List.mem_cons_of_mem _ hx)) hB' hS h')
 | (i,2)::(j,k)::r,listed,a,w,hi,hB,hS,h=>by
   simp only[ordB2,Bool.and_eq_true,decide_eq_true_eq] at hB
   obtain⟨⟨⟨⟨h1,h2⟩,h3⟩,h4⟩,h5⟩:=hB
   have hli:=hi (i,2) (by simp)
   have hlj:=hi (j,k) (by simp)
   have hr:∀x∈r,x.1<l.length:=fun x hx=>hi x (List.mem_cons_of_mem _ (List.mem_cons_of_mem _ hx))
   refine wpAnyH_all h1 (by simp) (fun x hx=> ?_)
   rcases List.mem_cons.1 hx with rfl | hx
   ·refine getB_op hli h.1 (fun a' w' h'=>⟨h'.1,?_⟩)
    refine wpAnyH_all h2 (by simp) (fun y hy=> ?_)
    have hyj:y=j:=by simpa using hy
    subst hyj
    exact getB_op hlj h'.2 (fun a'' w'' h''=>⟨h''.1,wpAnyH_of_lin2 hsel hQ r _ a'' w'' hr h4 h''.1 h''.2⟩)
   ·have hxj:x=j:=by simpa using hx
    subst hxj
    refine getB_op hlj h.2 (fun a' w' h'=>⟨h'.1,?_⟩)
    refine wpAnyH_all h3 (by simp) (fun y hy=> ?_)
    have hyi:y=i:=by simpa using hy
    subst hyi
    exact getB_op hli h'.2 (fun a'' w'' h''=>⟨h''.1,wpAnyH_of_lin2 hsel hQ r _ a'' w'' hr h5 h''.1 h''.2⟩)
 | (i,1)::r,listed,a,w,hi,hB,hS,h=>by
   simp only[ordB2,Bool.and_eq_true,decide_eq_true_eq] at hB
   refine wpAnyH_all hB.1 (by simp) (fun x hx=> ?_)
   have hxi:x=i:=by simpa using hx
   subst hxi
   exact getB_op (hi (x,1) (by simp)) h (fun a' w' h'=>⟨h'.1,wpAnyH_of_lin2 hsel hQ r _ a' w' (fun y hy=>hi y (List.mem_cons_of_mem _ hy)) hB.2 h'.1 h'.2⟩)
 | [(i,2)],listed,a,w,hi,hB,hS,h=>by
   simp only[ordB2,Bool.and_eq_true,decide_eq_true_eq] at hB
   refine wpAnyH_all hB.1 (by simp) (fun x hx=> ?_)
   have hxi:x=i:=by simpa using hx
   subst hxi
   exact getB_op (hi (x,2) (by simp)) h (fun a' w' h'=>⟨h'.1,wpAnyH_of_lin2 hsel hQ [] _ a' w' (fun y hy=>by simp at hy) hB.2 h'.1 h'.2⟩)
 | (i,n+3)::r,listed,a,w,hi,hB,hS,h=>by
   simp only[ordB2,Bool.and_eq_true,decide_eq_true_eq] at hB
   refine wpAnyH_all hB.1 (by simp) (fun x hx=> ?_)
   have hxi:x=i:=by simpa using hx
   subst hxi
   exact getB_op (hi (x,n+3) (by simp)) h (fun a' w' h'=>⟨h'.1,wpAnyH_of_lin2 hsel hQ r _ a' w' (fun y hy=>hi y (List.mem_cons_of_mem _ hy)) hB.2 h'.1 h'.2⟩)
theorem wp_region_lin2 {id:Nat} {a:Act} {w:World} {l:List Oper} (d:Oper) (S:World→Prop) (r:List (Nat × Nat)) (hm:P.follows .mixedOrders=true) (hsel:Region.noSelect l.toArray=true) (hn:r.length=l.length)
 (hB:ordB2 l.toArray r (Array.replicate l.toArray.size false)=true) (hi:(r.all fun x=>decide (x.1<l.length))=true) (hS:S w.drew) (h:wpLin2 P l (NoPanic Q) S d r a w.drew):(Code.region id l.toArray true).wp P Q a w:=
 wp_region_noPanic (wp_region_held_drew (S:=S) hm hS (fun _=>by
  have:=wpAnyH_of_lin2 (S:=S) (Q:=NoPanic Q) hsel (fun c a w h=>h) r _ a w.drew (fun x hx=>by simpa using List.all_eq_true.1 hi x hx) hB hS h
  rw[hn] at this
  simpa using this))
theorem lin2_free {l:List Oper} {d:Oper} {i:Nat} {r:List (Nat × Nat)} {a:Act} {w:World} {v:Value} (hw:Region.wanted (l.getD i d) (yielded l.toArray a.tmps)=true)
 (hy:∀w',S w'→(execOp a.eval (l.getD i d)).run P w'= .ok (.value v) w') (h:wpLin2 P l Q S d r (a.put (l.getD i d).dst v) w):wpLin2 P l Q S d ((i,0)::r) a w:=
 ⟨v, .inl ⟨hw,hy⟩,h⟩
theorem lin2_one {l:List Oper} {d:Oper} {i:Nat} {r:List (Nat × Nat)} {a:Act} {w:World}
 (h:∀K':Act→World→Prop,Hd (∀a w,S w→wpLin2 P l Q S d r a w→K' a w)→if Region.wanted (l.getD i d) (yielded l.toArray a.tmps)=true then Oper.wp P (l.getD i d) a w K' Q else K' (a.put (l.getD i d).dst undef) w):
 wpLin2 P l Q S d ((i,1)::r) a w:=by
 have e:wpLin2 P l Q S d ((i,1)::r) a w=getB P l.toArray Q (l.getD i d) (fun a' w'=>S w'∧wpLin2 P l Q S d r a' w') a w:=by
  cases r<;>rfl
 rw[e]
 exact h _ ⟨fun a w hS hW=>⟨hS,hW⟩⟩
theorem lin2_pair {l:List Oper} {d:Oper} {i j k:Nat} {r:List (Nat × Nat)} {a:Act} {w:World}
 (h1:∀K1:Act→World→Prop,Hd (∀a w,S w→(∀K':Act→World→Prop,Hd (∀a w,S w→wpLin2 P l Q S d r a w→K' a w)→if Region.wanted (l.getD j d) (yielded l.toArray a.tmps)=true then Oper.wp P (l.getD j d) a w K' Q else K' (a.put (l.getD j d).dst undef) w)→K1 a w)→if Region.wanted (l.getD i d) (yielded l.toArray a.tmps)=true then Oper.wp P (l.getD i d) a w K1 Q else K1 (a.put (l.getD i d).dst undef) w)
 (h2:∀K1:Act→World→Prop,Hd (∀a w,S w→(∀K':Act→World→Prop,Hd (∀a w,S w→wpLin2 P l Q S d r a w→K' a w)→if Region.wanted (l.getD i d) (yielded l.toArray a.tmps)=true then Oper.wp P (l.getD i d) a w K' Q else K' (a.put (l.getD i d).dst undef) w)→K1 a w)→if Region.wanted (l.getD j d) (yielded l.toArray a.tmps)=true then Oper.wp P (l.getD j d) a w K1 Q else K1 (a.put (l.getD j d).dst undef) w):
 wpLin2 P l Q S d ((i,2)::(j,k)::r) a w:=
 ⟨h1 _ ⟨fun a w hS h=>⟨hS,h _ ⟨fun a w hS hW=>⟨hS,hW⟩⟩⟩⟩,h2 _ ⟨fun a w hS h=>⟨hS,h _ ⟨fun a w hS hW=>⟨hS,hW⟩⟩⟩⟩⟩
end
end Go.Proofs.YtfaepbjnpakghaaGreatDoor.W
namespace Go.Proofs.YtfaepbjnpakghaaGreatDoor.W
open Go.RowKit
set_option linter.unusedVariables false
inductive Tr where
 | done
 | free (i:Nat) (r:Tr)
 | one (i:Nat) (r:Tr)
 | two (i:Nat) (r:Tr) (j:Nat) (s:Tr)
 | three (i:Nat) (r:Tr) (j:Nat) (s:Tr) (k:Nat) (u:Tr)
def Tr.len:Tr→Nat
 | .done=>0
 | .free _ r=>r.len+1
 | .one _ r=>r.len+1
 | .two _ r _ _=>r.len+1
 | .three _ r _ _ _ _=>r.len+1
def Tr.bel (n:Nat):Tr→Bool
 | .done=>true
 | .free i r=>decide (i<n)&&r.bel n
 | .one i r=>decide (i<n)&&r.bel n
 | .two i r j s=>decide (i<n)&&decide (j<n)&&r.bel n&&s.bel n
 | .three i r j s k u=>decide (i<n)&&decide (j<n)&&decide (k<n)&&r.bel n&&s.bel n&&u.bel n
section
variable {P:Program} {Q:Exit→Act→World→Prop} {S:World→Prop}
def wpTr (P:Program) (l:List Oper) (Q:Exit→Act→World→Prop) (S:World→Prop) (d:Oper):Tr→Act→World→Prop
 | .done,a,w=>Q .normal a w
 | .free i r,a,w=>∃v,YieldsIf P l.toArray S (l.getD i d) v a∧wpTr P l Q S d r (a.put (l.getD i d).dst v) w
 | .one i r,a,w=>getB P l.toArray Q (l.getD i d) (fun a' w'=>S w'∧wpTr P l Q S d r a' w') a w
 | .two i r j s,a,w=>getB P l.toArray Q (l.getD i d) (fun a' w'=>S w'∧wpTr P l Q S d r a' w') a w∧getB P l.toArray Q (l.getD j d) (fun a' w'=>S w'∧wpTr P l Q S d s a' w') a w
 | .three i r j s k u,a,w=>getB P l.toArray Q (l.getD i d) (fun a' w'=>S w'∧wpTr P l Q S d r a' w') a w∧getB P l.toArray Q (l.getD j d) (fun a' w'=>S w'∧wpTr P l Q S d s a' w') a w∧getB P l.toArray Q (l.getD k d) (fun a' w'=>S w'∧wpTr P l Q S d u a' w') a w
def ordT (ops:Array Oper):Tr→Array Bool→Bool
 | .done,listed=>(Region.ready .any ops listed).isEmpty
 | .free i r,listed=>(Region.ready .any ops listed).contains i&&Region.free .any ops listed i&&ordT ops r (listed.setIfInBounds i true)
 | .one i r,listed=>decide (Region.ready .any ops listed=[i])&&ordT ops r (listed.setIfInBounds i true)
 | .two i r j s,listed=>decide (Region.ready .any ops listed=[i,j])&&decide (r.len=s.len)&&ordT ops r (listed.setIfInBounds i true)&&ordT ops s (listed.setIfInBounds j true)
 | .three i r j s k u,listed=>decide (Region.ready .any ops listed=[i,j,k])&&decide (r.len=s.len)&&decide (r.len=u.len)&&ordT ops r (listed.setIfInBounds i true)&&ordT ops s (listed.setIfInBounds j true)&&ordT ops u (listed.setIfInBounds k true)
theorem wpAnyH_of_tr {l:List Oper} {d:Oper} (hsel:Region.noSelect l.toArray=true) (hQ:∀c a w,¬Q (.panic c) a w):∀(t:Tr) (listed:Array Bool) (a:Act) (w:World),
 t.bel l.length=true→ordT l.toArray t listed=true→S w→wpTr P l Q S d t a w→wpAnyH P .any l.toArray Q S t.len listed a w
 | .done,listed,a,w,_,hB,hS,h=>⟨by simpa [ordT] using hB,h⟩
 | .free i r,listed,a,w,hi,hB,hS,h=>by
   simp only[ordT,Bool.and_eq_true] at hB
   simp only[Tr.bel,Bool.and_eq_true,decide_eq_true_eq] at hi
   obtain⟨⟨hr,hf⟩,hB'⟩:=hB
   obtain⟨v,hy,h'⟩:=h
   have hl:=hi.1
   have e:l.getD i d=l[i]:=by simp[List.getD_eq_getElem?_getD,hl]
   rw[e] at hy h'
   exact wpAnyH_take (oi:=l[i]) (by simp) hsel hf hr (fun c a w hq=>absurd hq (hQ c _ w)) hy hS (wpAnyH_of_tr hsel hQ r _ _ w hi.2 hB' hS h')
 | .one i r,listed,a,w,hi,hB,hS,h=>by
   simp only[ordT,Bool.and_eq_true,decide_eq_true_eq] at hB
   simp only[Tr.bel,Bool.and_eq_true,decide_eq_true_eq] at hi
   refine wpAnyH_all hB.1 (by simp) (fun x hx=> ?_)
   have hxi:x=i:=by simpa using hx
   subst hxi
   exact getB_op hi.1 h (fun a' w' h'=>⟨h'.1,wpAnyH_of_tr hsel hQ r _ a' w' hi.2 hB.2 h'.1 h'.2⟩)
 | .two i r j s,listed,a,w,hi,hB,hS,h=>by
   simp only[ordT,Bool.and_eq_true,decide_eq_true_eq] at hB
   simp only[Tr.bel,Bool.and_eq_true,decide_eq_true_eq] at hi
   obtain⟨⟨⟨h1,h2⟩,h3⟩,h4⟩:=hB
   obtain⟨⟨⟨i1,i2⟩,i3⟩,i4⟩:=hi
   refine wpAnyH_all h1 (by simp) (fun x hx=> ?_)
   have hx':x=i∨x=j:=by simpa using hx
   rcases hx' with rfl | rfl
   ·exact getB_op i1 h.1 (fun a' w' h'=>⟨h'.1,wpAnyH_of_tr hsel hQ r _ a' w' i3 h3 h'.1 h'.2⟩)
   ·refine getB_op i2 h.2 (fun a' w' h'=>⟨h'.1,?_⟩)
    rw[show r.len=s.len from h2]
    exact wpAnyH_of_tr hsel hQ s _ a' w' i4 h4 h'.1 h'.2
 | .three i r j s k u,listed,a,w,hi,hB,hS,h=>by
   simp only[ordT,Bool.and_eq_true,decide_eq_true_eq] at hB
   simp only[Tr.bel,Bool.and_eq_true,decide_eq_true_eq] at hi
   obtain⟨⟨⟨⟨⟨h1,h2⟩,h3⟩,h4⟩,h5⟩,h6⟩:=hB
   obtain⟨⟨⟨⟨⟨i1,i2⟩,i3⟩,i4⟩,i5⟩,i6⟩:=hi
   refine wpAnyH_all h1 (by simp) (fun x hx=> ?_)
   have hx':x=i∨x=j∨x=k:=by simpa using hx
   rcases hx' with rfl | rfl | rfl
   ·exact getB_op i1 h.1 (fun a' w' h'=>⟨h'.1,wpAnyH_of_tr hsel hQ r _ a' w' i4 h4 h'.1 h'.2⟩)
   ·refine getB_op i2 h.2.1 (fun a' w' h'=>⟨h'.1,?_⟩)
    rw[show r.len=s.len from h2]
    exact wpAnyH_of_tr hsel hQ s _ a' w' i5 h5 h'.1 h'.2
   ·refine getB_op i3 h.2.2 (fun a' w' h'=>⟨h'.1,?_⟩)
    rw[show r.len=u.len from h3]
    exact wpAnyH_of_tr hsel hQ u _ a' w' i6 h6 h'.1 h'.2
theorem wp_region_tr {id:Nat} {a:Act} {w:World} {l:List Oper} (d:Oper) (S:World→Prop) (t:Tr) (hm:P.follows .mixedOrders=true) (hsel:Region.noSelect l.toArray=true) (hn:t.len=l.length)
 (hB:ordT l.toArray t (Array.replicate l.toArray.size false)=true) (hi:t.bel l.length=true) (hS:S w.drew) (h:wpTr P l (NoPanic Q) S d t a w.drew):(Code.region id l.toArray true).wp P Q a w:=
 wp_region_noPanic (wp_region_held_drew (S:=S) hm hS (fun _=>by
  have:=wpAnyH_of_tr (S:=S) (Q:=NoPanic Q) hsel (fun c a w h=>h) t _ a w.drew hi hB hS h
  rw[hn] at this
  simpa using this))
theorem tr_free {l:List Oper} {d:Oper} {i:Nat} {r:Tr} {a:Act} {w:World} {v:Value} (hw:Region.wanted (l.getD i d) (yielded l.toArray a.tmps)=true)
 (hy:∀w',S w'→(execOp a.eval (l.getD i d)).run P w'= .ok (.value v) w') (h:wpTr P l Q S d r (a.put (l.getD i d).dst v) w):wpTr P l Q S d (.free i r) a w:=
 ⟨v, .inl ⟨hw,hy⟩,h⟩
theorem tr_one {l:List Oper} {d:Oper} {i:Nat} {r:Tr} {a:Act} {w:World}
 (h:∀K':Act→World→Prop,Hd (∀a w,S w→wpTr P l Q S d r a w→K' a w)→if Region.wanted (l.getD i d) (yielded l.toArray a.tmps)=true then Oper.wp P (l.getD i d) a w K' Q else K' (a.put (l.getD i d).dst undef) w):
 wpTr P l Q S d (.one i r) a w:=by
 have e:wpTr P l Q S d (.one i r) a w=getB P l.toArray Q (l.getD i d) (fun a' w'=>S w'∧wpTr P l Q S d r a' w') a w:=rfl
 rw[e]
 exact h _ ⟨fun a w hS hW=>⟨hS,hW⟩⟩
theorem tr_three {l:List Oper} {d:Oper} {i j k:Nat} {r s u:Tr} {a:Act} {w:World} (h1:wpTr P l Q S d (.one i r) a w) (h2:wpTr P l Q S d (.one j s) a w) (h3:wpTr P l Q S d (.one k u) a w):wpTr P l Q S d (.three i r j s k u) a w:=⟨h1,h2,h3⟩
theorem tr_two {l:List Oper} {d:Oper} {i j:Nat} {r s:Tr} {a:Act} {w:World} (h1:wpTr P l Q S d (.one i r) a w) (h2:wpTr P l Q S d (.one j s) a w):wpTr P l Q S d (.two i r j s) a w:=⟨h1,h2⟩
end
end Go.Proofs.YtfaepbjnpakghaaGreatDoor.W
namespace Go.Proofs.YtfaepbjnpakghaaGreatDoor.W
open Go.RowKit
set_option linter.unusedVariables false
def Std (N:Nat→Prop) (p:World→Prop) (w:World):Prop:=∀w',Keeps N w w'→p w'
theorem Std.now {N:Nat→Prop} {p:World→Prop} {w:World} (h:Std N p w):p w:=h w (Keeps.refl N w)
theorem Std.keep {N N2 S:Nat→Prop} {p:World→Prop} {w w':World} (h:Std N p w) (k:Keeps S w w') (hs:∀g,g<w.heap.size→S g→N g) (hn:∀g,g<w.heap.size→N2 g→N g):Std N2 p w':=fun w2 k2=>
 h w2 ⟨k2.os.trans k.os,k2.tape.trans k.tape,k2.output.trans k.output,Nat.le_trans k.size k2.size,fun i hi hno=>
  (k2.block i (Nat.lt_of_lt_of_le hi k.size) (fun c=>hno (hn i hi c))).trans (k.block i hi (fun c=>hno (hs i hi c)))⟩
theorem Std.mono {N N2:Nat→Prop} {p:World→Prop} {w:World} (h:Std N p w) (hn:∀g,g<w.heap.size→N2 g→N g):Std N2 p w:=
 h.keep (Keeps.refl (fun _=>False) w) (fun _ _ c=>c.elim) hn
theorem Std.of {N:Nat→Prop} {p:World→Prop} (h:∀w,p w) (w:World):Std N p w:=fun w' _=>h w'
theorem add_none0 (g j:Nat):(⟨g,0,none⟩:Addr).add j=⟨g,j,none⟩:=by unfold Addr.add;split<;>simp_all
variable {α:Type} {E:World→List Value→α→Prop} {m:Nat} {e:TypeId} {B:Nat} {w w':World} {v:Value} {xs:List α}
structure OwnS (E:World→List Value→α→Prop) (m:Nat) (e:TypeId) (B:Nat) (w:World) (v:Value) (xs:List α):Prop where
 is:∃css:List (List Value),w.ownsRow B e m v xs.length css.flatten∧css.length=xs.length∧
  ∀(j:Nat) x cs,xs[j]? =some x→css[j]? =some cs→cs.length=m∧Std (fun k=>k<B∨v.ownBlock=some k) (fun w=>E w cs x) w
theorem OwnS.nil (w:World):OwnS E m e B w (.slice none 0 0) []:=⟨[],w.ownsRow_nil B e m,rfl,fun j x cs h=>by simp at h⟩
theorem ownsRow_keeps {S:Nat→Prop} {n:Nat} {us:List Value} (h:w.ownsRow B e m v n us) (k:Keeps S w w') (hs:∀g,v.ownBlock=some g→¬S g):w'.ownsRow B e m v n us:=by
 have hl:=h.lt
 refine⟨h.1,h.2.imp_right ?_⟩
 rintro⟨g,cap,cur,rfl,hb,hg,rest⟩
 exact⟨g,cap,cur,rfl,hb,by rw[k.block g (hl g rfl).2 (hs g rfl)];exact hg,rest⟩
theorem OwnS.keep (h:OwnS E m e B w v xs) {S:Nat→Prop} (k:Keeps S w w') (hs:∀g,g<w.heap.size→S g→g<B):OwnS E m e B w' v xs:=by
 obtain⟨css,h1,h2,h3⟩:=h.is
 refine⟨css,ownsRow_keeps h1 k (fun g hg c=> ?_),h2,fun j x cs hx hc=>⟨(h3 j x cs hx hc).1,(h3 j x cs hx hc).2.keep k (fun g hg c=> .inl (hs g hg c)) (fun _ _ c=>c)⟩⟩
 have:=h1.lt g hg
 have:=hs g this.2 c
 omega
theorem OwnS.lt (h:OwnS E m e B w v xs) {k:Nat} (hk:v.ownBlock=some k):B≤k∧k<w.heap.size:=by
 obtain⟨css,h1,_,_⟩:=h.is
 exact h1.lt k hk
theorem OwnS.slice (h:OwnS E m e B w v xs):∃p c,v= .slice p xs.length c:=by
 obtain⟨css,h1,_,_⟩:=h.is
 rcases h1.2 with⟨rfl,h0⟩ | ⟨g,cap,cur,rfl,_⟩
 ·rw[h0];exact⟨none,0,rfl⟩
 ·exact⟨_,cap,rfl⟩
theorem OwnS.down (h:OwnS E m e B w v xs) {B':Nat} (hb:B'≤B):OwnS E m e B' w v xs:=by
 obtain⟨css,h1,h2,h3⟩:=h.is
 refine⟨css,⟨h1.1,h1.2.imp_right (fun⟨g,cap,cur,a,b,c⟩=>⟨g,cap,cur,a,Nat.le_trans hb b,c⟩)⟩,h2,fun j x cs hx hc=>⟨(h3 j x cs hx hc).1,(h3 j x cs hx hc).2.mono (fun g _ c=>c.imp_left (fun c=>by omega))⟩⟩
theorem flatten_at {cs:List Value}:∀ {css:List (List Value)} {j i:Nat} {u:Value},(∀c∈css,c.length=m)→css[j]? =some cs→cs[i]? =some u→css.flatten[j*m+i]? =some u
 | [],j,i,u,_,h,_=>by simp at h
 | c::r,j,i,u,hm,h,hu=>by
   have hc:=hm c (by simp)
   rw[List.flatten_cons]
   cases j with
   | zero=>
     have:c=cs:=by simpa using h
     subst this
     have hi:i<c.length:=(List.getElem?_eq_some_iff.1 hu).1
     rw[Nat.zero_mul,Nat.zero_add,List.getElem?_append_left hi]
     exact hu
   | succ j=>
     rw[List.getElem?_append_right (by rw[hc,Nat.succ_mul];omega),hc,show(j+1)*m+i-m=j*m+i by rw[Nat.succ_mul];omega]
     exact flatten_at (fun c h=>hm c (by simp[h])) (by simpa using h) hu
theorem OwnS.rw (h:OwnS E m e B w v xs):Rw m E w v xs:=by
 obtain⟨css,h1,h2,h3⟩:=h.is
 have hl:=h1.lt
 rcases h1.2 with⟨rfl,h0⟩ | ⟨g,cap,cur,rfl,hb,hg,_⟩
 ·have:xs=[]:=List.eq_nil_of_length_eq_zero h0
  subst this
  exact Rw.nil w
 ·refine⟨.inr ⟨g,0,cap,rfl,(hl g rfl).2,fun j x hx=> ?_⟩⟩
  have hj:j<css.length:=by rw[h2];exact(List.getElem?_eq_some_iff.1 hx).1
  have hcs:=List.getElem?_eq_getElem hj
  obtain⟨h4,h5⟩:=h3 j x _ hx hcs
  refine⟨css[j],h4,h5.now,fun i u hu=> ?_⟩
  have hall:∀c∈css,c.length=m:=fun c hc=>by
   obtain⟨i,hi,rfl⟩:=List.getElem_of_mem hc
   exact(h3 i _ _ (List.getElem?_eq_getElem (by omega)) (List.getElem?_eq_getElem hi)).1
  have:=h1.cells (g:=g) rfl _ _ (flatten_at hall hcs hu)
  rw[add_none0] at this
  rw[Nat.zero_add]
  exact this
theorem OwnS.std (h:OwnS E m e B w v xs):Std (·<B) (fun w=>Rw m E w v xs) w:=fun w' k=>(h.keep k (fun _ _ c=>c)).rw
theorem OwnS.push {P:Program} {t ty:TypeId} {i:TypeInfo} {z:Value} {bytes:Nat} (h:OwnS E m e B w v xs) (ht:P.underlying t=some (.slice e)) (hi:P.info? e=some i) (hz:i.zero=some z) (hsize:i.size=m) (hby:i.bytes=bytes) (hzs:z.cells.size=m) (h0:0<m)
 (H c:Nat) (cs:List Value) (x:α) (hH:∃T f,w.heap[H]? =some (.cells cs.toArray T f)) (hm:cs.length=m) (h1:∀u∈cs,u.oneCell'=true) (hE:Std (fun k=>k<B∨v.ownBlock=some k) (fun w=>E w cs x) w) (h63:xs.length+1≤maxLen) (hbytes:(xs.length+1)*bytes≤140737488355328) (hB:B≤w.heap.size):
 ∃v' w',(Builtin.append_ #[t,t] ty #[v, .slice (some ⟨H,0,none⟩) 1 c]).run P w= .ok v' w'∧OwnS E m e B w' v' (xs++[x])∧Keeps (fun k=>v.ownBlock=some k) w w'∧(v'.ownBlock=v.ownBlock∨v'.ownBlock=some w.heap.size):=by
 obtain⟨css,h2,h3,h4⟩:=h.is
 obtain⟨T,f,hT⟩:=hH
 obtain⟨v',w',hr,ho,hg,_,hd⟩:=run_append_own_at (P:=P) w B t ty e i z m bytes ht hi hz hsize hby hzs h0 v xs.length css.flatten h2 ⟨H,0,none⟩ 1 c cs (by rw[hm,Nat.one_mul]) (fun j u hj=>by
  rw[add_none0]
  simp only[World.cell?,hT]
  simpa using hj) h1 h63 hbytes hB
 have hk:Keeps (fun k=>v.ownBlock=some k) w w':=⟨hg.os,hg.tape,hg.output,hg.size,fun k hk hn=>hg.block k hk (fun c=>hn c.symm)⟩
 have hkeep:∀ {p:World→Prop},Std (fun k=>k<B∨v.ownBlock=some k) p w→Std (fun k=>k<B∨v'.ownBlock=some k) p w':=fun hp=>
  hp.keep hk (fun g _ c=> .inr c) (fun g hg c=>c.imp_right (fun c=>by
   rcases hd with hd | hd
   ·rw[←hd];exact c
   ·rw[hd] at c;injection c with c;omega))
 refine⟨v',w',hr,⟨css++[cs],?_,by simp[h3],fun j y ds hy hds=> ?_⟩,hk,hd⟩
 ·rw[List.flatten_append,List.length_append,List.length_singleton]
  simpa using ho
 ·rcases Nat.lt_or_ge j xs.length with hj | hj
  ·rw[List.getElem?_append_left hj] at hy
   rw[List.getElem?_append_left (by omega)] at hds
   exact⟨(h4 j y ds hy hds).1,hkeep (h4 j y ds hy hds).2⟩
  ·rw[List.getElem?_append_right hj] at hy
   rw[List.getElem?_append_right (by omega),h3] at hds
   have hj0:j-xs.length=0:=by
    have:=(List.getElem?_eq_some_iff.1 hy).1
    simp at this;omega
   rw[hj0] at hy hds
   simp only[List.getElem?_cons_zero,Option.some.injEq] at hy hds
   subst hy hds
   exact⟨hm,hkeep hE⟩
theorem Keeps.new {S:Nat→Prop} {a b c:World} {S2:Nat→Prop} (h:Keeps S a b) (k:Keeps S2 b c) (hs:∀g,S2 g→S g∨a.heap.size≤g):Keeps S a c:=by
 have h1:Keeps (fun g=>S g∨a.heap.size≤g) a b:=h.mono (fun _ _ h=> .inl h)
 have h2:Keeps (fun g=>S g∨a.heap.size≤g) b c:=k.mono (fun g _ h=>hs g h)
 exact(h1.trans h2).mono (fun g hg h=>h.resolve_right (by omega))
end Go.Proofs.YtfaepbjnpakghaaGreatDoor.W
namespace Go.Proofs.YtfaepbjnpakghaaGreatDoor.W
open Go.RowKit
set_option linter.unusedVariables false
inductive St where
 | free (i:Nat)
 | one (i:Nat)
 | fl (f:Nat) (js:List Nat)
def St.len:St→Nat
 | .free _=>1
 | .one _=>1
 | .fl _ js=>js.length+1
def St.lens:List St→Nat
 | []=>0
 | s::r=>s.len+St.lens r
def St.inB (n:Nat):St→Bool
 | .free i=>decide (i<n)
 | .one i=>decide (i<n)
 | .fl f js=>decide (f<n)&&js.all fun j=>decide (j<n)
section
variable {P:Program} {Q:Exit→Act→World→Prop} {S:World→Prop}
def wpSeq (P:Program) (l:List Oper) (Q:Exit→Act→World→Prop) (S:World→Prop) (d:Oper):List Nat→(Act→World→Prop)→Act→World→Prop
 | [],E,a,w=>E a w
 | j::js,E,a,w=>getB P l.toArray Q (l.getD j d) (fun a' w'=>S w'∧wpSeq P l Q S d js E a' w') a w
def wpFl (P:Program) (l:List Oper) (Q:Exit→Act→World→Prop) (S:World→Prop) (d:Oper) (f:Nat):List Nat→(Act→World→Prop)→Act→World→Prop
 | [],E,a,w=>getB P l.toArray Q (l.getD f d) (fun a' w'=>S w'∧E a' w') a w
 | j::js,E,a,w=>
   getB P l.toArray Q (l.getD f d) (fun a' w'=>S w'∧wpSeq P l Q S d (j::js) E a' w') a w∧
   getB P l.toArray Q (l.getD j d) (fun a' w'=>S w'∧wpFl P l Q S d f js E a' w') a w
def wpLin3 (P:Program) (l:List Oper) (Q:Exit→Act→World→Prop) (S:World→Prop) (d:Oper):List St→Act→World→Prop
 | [],a,w=>Q .normal a w
 | .free i::r,a,w=>∃v,YieldsIf P l.toArray S (l.getD i d) v a∧wpLin3 P l Q S d r (a.put (l.getD i d).dst v) w
 | .one i::r,a,w=>getB P l.toArray Q (l.getD i d) (fun a' w'=>S w'∧wpLin3 P l Q S d r a' w') a w
 | .fl f js::r,a,w=>wpFl P l Q S d f js (wpLin3 P l Q S d r) a w
def seqB (ops:Array Oper):List Nat→(Array Bool→Bool)→Array Bool→Bool
 | [],E,listed=>E listed
 | j::js,E,listed=>decide (Region.ready .any ops listed=[j])&&seqB ops js E (listed.setIfInBounds j true)
def flB (ops:Array Oper) (f:Nat):List Nat→(Array Bool→Bool)→Array Bool→Bool
 | [],E,listed=>decide (Region.ready .any ops listed=[f])&&E (listed.setIfInBounds f true)
 | j::js,E,listed=>decide (Region.ready .any ops listed=[f,j]∨Region.ready .any ops listed=[j,f])&&seqB ops (j::js) E (listed.setIfInBounds f true)&&flB ops f js E (listed.setIfInBounds j true)
def ordB3 (ops:Array Oper):List St→Array Bool→Bool
 | [],listed=>(Region.ready .any ops listed).isEmpty
 | .free i::r,listed=>(Region.ready .any ops listed).contains i&&Region.free .any ops listed i&&ordB3 ops r (listed.setIfInBounds i true)
 | .one i::r,listed=>decide (Region.ready .any ops listed=[i])&&ordB3 ops r (listed.setIfInBounds i true)
 | .fl f js::r,listed=>flB ops f js (ordB3 ops r) listed
theorem seq_sound {l:List Oper} {d:Oper} {n:Nat} {E:Act→World→Prop} {EB:Array Bool→Bool} (hE:∀listed a w,EB listed=true→S w→E a w→wpAnyH P .any l.toArray Q S n listed a w):
 ∀(js:List Nat) (listed:Array Bool) (a:Act) (w:World),(∀j∈js,j<l.length)→seqB l.toArray js EB listed=true→S w→wpSeq P l Q S d js E a w→wpAnyH P .any l.toArray Q S (js.length+n) listed a w
 | [],listed,a,w,_,hB,hS,h=>by rw[List.length_nil,Nat.zero_add];exact hE listed a w hB hS h
 | j::js,listed,a,w,hi,hB,hS,h=>by
   simp only[seqB,Bool.and_eq_true,decide_eq_true_eq] at hB
   rw[List.length_cons,show js.length+1+n=(js.length+n)+1 by omega]
   refine wpAnyH_all hB.1 (by simp) (fun x hx=> ?_)
   have hxi:x=j:=by simpa using hx
   subst hxi
   exact getB_op (hi x (by simp)) h (fun a' w' h'=>⟨h'.1,seq_sound hE js _ a' w' (fun y hy=>hi y (List.mem_cons_of_mem _ hy)) hB.2 h'.1 h'.2⟩)
theorem fl_sound {l:List Oper} {d:Oper} {n f:Nat} (hf:f<l.length) {E:Act→World→Prop} {EB:Array Bool→Bool} (hE:∀listed a w,EB listed=true→S w→E a w→wpAnyH P .any l.toArray Q S n listed a w):
 ∀(js:List Nat) (listed:Array Bool) (a:Act) (w:World),(∀j∈js,j<l.length)→flB l.toArray f js EB listed=true→S w→wpFl P l Q S d f js E a w→wpAnyH P .any l.toArray Q S (js.length+1+n) listed a w
 | [],listed,a,w,_,hB,hS,h=>by
   simp only[flB,Bool.and_eq_true,decide_eq_true_eq] at hB
   rw[List.length_nil,show 0+1+n=n+1 by omega]
   refine wpAnyH_all hB.1 (by simp) (fun x hx=> ?_)
   have hxi:x=f:=by simpa using hx
   subst hxi
   exact getB_op hf h (fun a' w' h'=>⟨h'.1,hE _ a' w' hB.2 h'.1 h'.2⟩)
 | j::js,listed,a,w,hi,hB,hS,h=>by
   simp only[flB,Bool.and_eq_true,decide_eq_true_eq] at hB
   obtain⟨⟨h1,h2⟩,h3⟩:=hB
   have key:∀x,x=f∨x=j→wpOp P l.toArray Q x (fun a' w'=>S w'∧wpAnyH P .any l.toArray Q S (js.length+1+n) (listed.setIfInBounds x true) a' w') a w:=fun x hx=>by
    rcases hx with rfl | rfl
    ·exact getB_op hf h.1 (fun a' w' h'=>⟨h'.1,seq_sound hE (j::js) _ a' w' hi h2 h'.1 h'.2⟩)
    ·exact getB_op (hi x (by simp)) h.2 (fun a' w' h'=>⟨h'.1,fl_sound hf hE js _ a' w' (fun y hy=>hi y (List.mem_cons_of_mem _ hy)) h3 h'.1 h'.2⟩)
   rw[List.length_cons,show js.length+1+1+n=(js.length+1+n)+1 by omega]
   rcases h1 with h1 | h1
   ·refine wpAnyH_all h1 (by simp) (fun x hx=>key x (by simpa using hx))
   ·refine wpAnyH_all h1 (by simp) (fun x hx=>key x (by have:x=j∨x=f:=by simpa using hx
                                                        exact this.symm))
theorem wpAnyH_of_lin3 {l:List Oper} {d:Oper} (hsel:Region.noSelect l.toArray=true) (hQ:∀c a w,¬Q (.panic c) a w):∀(r:List St) (listed:Array Bool) (a:Act) (w:World),
 (∀x∈r,x.inB l.length=true)→ordB3 l.toArray r listed=true→S w→wpLin3 P l Q S d r a w→wpAnyH P .any l.toArray Q S (St.lens r) listed a w
 | [],listed,a,w,_,hB,hS,h=>⟨by simpa [ordB3] using hB,h⟩
 | .free i::r,listed,a,w,hi,hB,hS,h=>by
   simp only[ordB3,Bool.and_eq_true] at hB
   obtain⟨⟨hr,hf⟩,hB'⟩:=hB
   obtain⟨v,hy,h'⟩:=h
   have hl:i<l.length:=by have:=hi (.free i) (by simp);simpa [St.inB] using this
   have e:l.getD i d=l[i]:=by simp[List.getD_eq_getElem?_getD,hl]
   rw[e] at hy h'
   have:=wpAnyH_take (oi:=l[i]) (by simp) hsel hf hr (fun c a w hq=>absurd hq (hQ c _ w)) hy hS (wpAnyH_of_lin3 hsel hQ r _ _ w (fun x hx=>hi x (List.mem_cons_of_mem _ hx)) hB' hS h')
   rw[St.lens,show(St.free i).len=1 from rfl,Nat.add_comm]
   exact this
 | .one i::r,listed,a,w,hi,hB,hS,h=>by
   simp only[ordB3,Bool.and_eq_true,decide_eq_true_eq] at hB
   have hl:i<l.length:=by have:=hi (.one i) (by simp);simpa [St.inB] using this
   rw[St.lens,show(St.one i).len=1 from rfl,Nat.add_comm]
   refine wpAnyH_all hB.1 (by simp) (fun x hx=> ?_)
   have hxi:x=i:=by simpa using hx
   subst hxi
   exact getB_op hl h (fun a' w' h'=>⟨h'.1,wpAnyH_of_lin3 hsel hQ r _ a' w' (fun y hy=>hi y (List.mem_cons_of_mem _ hy)) hB.2 h'.1 h'.2⟩)
 | .fl f js::r,listed,a,w,hi,hB,hS,h=>by
   have hl:=hi (.fl f js) (by simp)
   simp only[St.inB,Bool.and_eq_true,decide_eq_true_eq,List.all_eq_true] at hl
   exact fl_sound hl.1 (fun listed a w hB hS h=>wpAnyH_of_lin3 hsel hQ r listed a w (fun y hy=>hi y (List.mem_cons_of_mem _ hy)) hB hS h) js listed a w hl.2 hB hS h
theorem wp_region_lin3 {id:Nat} {a:Act} {w:World} {l:List Oper} (d:Oper) (S:World→Prop) (r:List St) (hm:P.follows .mixedOrders=true) (hsel:Region.noSelect l.toArray=true) (hn:St.lens r=l.length)
 (hB:ordB3 l.toArray r (Array.replicate l.toArray.size false)=true) (hi:(r.all fun x=>x.inB l.length)=true) (hS:S w.drew) (h:wpLin3 P l (NoPanic Q) S d r a w.drew):(Code.region id l.toArray true).wp P Q a w:=
 wp_region_noPanic (wp_region_held_drew (S:=S) hm hS (fun _=>by
  have:=wpAnyH_of_lin3 (S:=S) (Q:=NoPanic Q) hsel (fun c a w h=>h) r _ a w.drew (fun x hx=>List.all_eq_true.1 hi x hx) hB hS h
  rw[hn] at this
  simpa using this))
theorem lin3_free {l:List Oper} {d:Oper} {i:Nat} {r:List St} {a:Act} {w:World} {v:Value} (hw:Region.wanted (l.getD i d) (yielded l.toArray a.tmps)=true)
 (hy:∀w',S w'→(execOp a.eval (l.getD i d)).run P w'= .ok (.value v) w') (h:wpLin3 P l Q S d r (a.put (l.getD i d).dst v) w):wpLin3 P l Q S d (.free i::r) a w:=
 ⟨v, .inl ⟨hw,hy⟩,h⟩
theorem getB_intro {ops:Array Oper} {o:Oper} {E:Act→World→Prop} {a:Act} {w:World}
 (h:∀K':Act→World→Prop,Hd (∀a w,S w→E a w→K' a w)→if Region.wanted o (yielded ops a.tmps)=true then Oper.wp P o a w K' Q else K' (a.put o.dst undef) w):getB P ops Q o (fun a' w'=>S w'∧E a' w') a w:=
 h _ ⟨fun a w hS hE=>⟨hS,hE⟩⟩
theorem lin3_one {l:List Oper} {d:Oper} {i:Nat} {r:List St} {a:Act} {w:World}
 (h:∀K':Act→World→Prop,Hd (∀a w,S w→wpLin3 P l Q S d r a w→K' a w)→if Region.wanted (l.getD i d) (yielded l.toArray a.tmps)=true then Oper.wp P (l.getD i d) a w K' Q else K' (a.put (l.getD i d).dst undef) w):
 wpLin3 P l Q S d (.one i::r) a w:=getB_intro h
theorem lin3_fl {l:List Oper} {d:Oper} {f j:Nat} {js:List Nat} {r:List St} {a:Act} {w:World}
 (h1:getB P l.toArray Q (l.getD f d) (fun a' w'=>S w'∧wpSeq P l Q S d (j::js) (wpLin3 P l Q S d r) a' w') a w)
 (h2:getB P l.toArray Q (l.getD j d) (fun a' w'=>S w'∧wpFl P l Q S d f js (wpLin3 P l Q S d r) a' w') a w):wpLin3 P l Q S d (.fl f (j::js)::r) a w:=⟨h1,h2⟩
theorem fl_cons {l:List Oper} {d:Oper} {f j:Nat} {js:List Nat} {E:Act→World→Prop} {a:Act} {w:World}
 (h1:getB P l.toArray Q (l.getD f d) (fun a' w'=>S w'∧wpSeq P l Q S d (j::js) E a' w') a w)
 (h2:getB P l.toArray Q (l.getD j d) (fun a' w'=>S w'∧wpFl P l Q S d f js E a' w') a w):wpFl P l Q S d f (j::js) E a w:=⟨h1,h2⟩
theorem fl_nil {l:List Oper} {d:Oper} {f:Nat} {E:Act→World→Prop} {a:Act} {w:World}
 (h:getB P l.toArray Q (l.getD f d) (fun a' w'=>S w'∧E a' w') a w):wpFl P l Q S d f [] E a w:=h
theorem seq_cons {l:List Oper} {d:Oper} {j:Nat} {js:List Nat} {E:Act→World→Prop} {a:Act} {w:World}
 (h:getB P l.toArray Q (l.getD j d) (fun a' w'=>S w'∧wpSeq P l Q S d js E a' w') a w):wpSeq P l Q S d (j::js) E a w:=h
theorem seq_nil {l:List Oper} {d:Oper} {E:Act→World→Prop} {a:Act} {w:World} (h:E a w):wpSeq P l Q S d [] E a w:=h
end
end Go.Proofs.YtfaepbjnpakghaaGreatDoor.W
namespace Go.Proofs.YtfaepbjnpakghaaGreatDoor.W
open Go.RowKit
set_option linter.unusedVariables false
section
variable {P:Program} {Q:Exit→Act→World→Prop} {S:World→Prop}
def flStep (P:Program) (l:List Oper) (Q:Exit→Act→World→Prop) (S:World→Prop) (d:Oper) (L:List (Nat × Option Tmp)) (a0:Act) (p:Nat × Option Tmp) (I:(Nat→Value)→World→Prop) (s:Nat→Value) (w:World):Prop:=
 ∀K':Act→World→Prop,Hd (∀v w',S w'→I (upd s p.1 v) w'→K' ((foldPut L s a0).put p.2 v) w')→if Region.wanted (l.getD p.1 d) (yielded l.toArray (foldPut L s a0).tmps)=true then Oper.wp P (l.getD p.1 d) (foldPut L s a0) w K' Q else K' ((foldPut L s a0).put (l.getD p.1 d).dst undef) w
theorem fl_step_getB {l:List Oper} {d:Oper} {L:List (Nat × Option Tmp)} {a0:Act} {p:Nat × Option Tmp} (hp:p∈L) (hap:apartB L=true) {I:(Nat→Value)→World→Prop} {s:Nat→Value} {w:World} (h:flStep P l Q S d L a0 p I s w) {E:Act→World→Prop} (hE:∀s w,I s w→E (foldPut L s a0) w):
 getB P l.toArray Q (l.getD p.1 d) (fun a' w'=>S w'∧E a' w') (foldPut L s a0) w:=
 h _ ⟨fun v w' hS hI=>⟨hS,by
  have:=foldPut_upd s v L p a0 hp hap
  rw[←this]
  exact hE _ _ hI⟩⟩
theorem seq_of_inv {l:List Oper} {d:Oper} {L:List (Nat × Option Tmp)} {a0:Act} (hap:apartB L=true) {E:Act→World→Prop} {n:Nat} (I:Nat→(Nat→Value)→World→Prop) (hE:∀s w,I n s w→E (foldPut L s a0) w):
 ∀(js:List (Nat × Option Tmp)) (k:Nat),k+js.length=n→(∀p∈js,p∈L)→(∀i (h:i<js.length) s w,I (k+i) s w→flStep P l Q S d L a0 js[i] (I (k+i+1)) s w)→∀s w,I k s w→wpSeq P l Q S d (js.map (·.1)) E (foldPut L s a0) w
 | [],k,hk,_,_,s,w,h=>hE s w (by rw[←hk];exact h)
 | p::js,k,hk,hm,hst,s,w,h=>by
   refine fl_step_getB (hm p (by simp)) hap (hst 0 (by simp) s w h) (fun s w h=> ?_)
   exact seq_of_inv hap I hE js (k+1) (by rw[List.length_cons] at hk;omega) (fun q hq=>hm q (by simp[hq])) (fun i hi s w h=>by
    have:=hst (i+1) (by rw[List.length_cons];omega) s w (by rw[show k+(i+1)=k+1+i by omega];exact h)
    rw[show k+(i+1)+1=k+1+i+1 by omega] at this
    exact this) s w h
theorem fl_of_inv {l:List Oper} {d:Oper} {L:List (Nat × Option Tmp)} {a0:Act} (hap:apartB L=true) {E:Act→World→Prop} {n:Nat} (f:Nat × Option Tmp) (hf:f∈L) (I:Nat→Bool→(Nat→Value)→World→Prop) (hE:∀s w,I n true s w→E (foldPut L s a0) w)
 (hfl:∀k s w,k≤n→I k false s w→flStep P l Q S d L a0 f (I k true) s w):
 ∀(js:List (Nat × Option Tmp)) (k:Nat),k+js.length=n→(∀p∈js,p∈L)→(∀i (h:i<js.length) fl s w,I (k+i) fl s w→flStep P l Q S d L a0 js[i] (I (k+i+1) fl) s w)→∀s w,I k false s w→wpFl P l Q S d f.1 (js.map (·.1)) E (foldPut L s a0) w
 | [],k,hk,_,_,s,w,h=>by
   have hkn:k=n:=by simpa using hk
   subst hkn
   exact fl_step_getB hf hap (hfl k s w (Nat.le_refl _) h) (fun s w h=>hE s w h)
 | p::js,k,hk,hm,hst,s,w,h=>by
   refine⟨fl_step_getB hf hap (hfl k s w (by omega) h) (fun s w h=> ?_),fl_step_getB (hm p (by simp)) hap (hst 0 (by simp) false s w h) (fun s w h=> ?_)⟩
   ·exact seq_of_inv hap (fun k=>I k true) hE (p::js) k hk hm (fun i hi s w h=>hst i hi true s w h) s w h
   ·exact fl_of_inv hap f hf I hE hfl js (k+1) (by rw[List.length_cons] at hk;omega) (fun q hq=>hm q (by simp[hq])) (fun i hi fl s w h=>by
     have:=hst (i+1) (by rw[List.length_cons];omega) fl s w (by rw[show k+(i+1)=k+1+i by omega];exact h)
     rw[show k+(i+1)+1=k+1+i+1 by omega] at this
     exact this) s w h
def StepsF (P:Program) (l:List Oper) (Q:Exit→Act→World→Prop) (S:World→Prop) (d:Oper) (L:List (Nat × Option Tmp)) (a0:Act) (I:Nat→Bool→(Nat→Value)→World→Prop):List (Nat × Option Tmp)→Nat→Prop
 | [],_=>True
 | p::js,k=>(∀fl s w,I k fl s w→flStep P l Q S d L a0 p (I (k+1) fl) s w)∧StepsF P l Q S d L a0 I js (k+1)
theorem stepsF_at {l:List Oper} {d:Oper} {L:List (Nat × Option Tmp)} {a0:Act} {I:Nat→Bool→(Nat→Value)→World→Prop}:∀(js:List (Nat × Option Tmp)) (k:Nat),StepsF P l Q S d L a0 I js k→∀i (h:i<js.length) fl s w,I (k+i) fl s w→flStep P l Q S d L a0 js[i] (I (k+i+1) fl) s w
 | p::js,k,h,0,_=>h.1
 | p::js,k,h,i+1,hi=>fun fl s w hI=>by
   have:=stepsF_at js (k+1) h.2 i (by simpa using hi) fl s w (by rw[show k+1+i=k+(i+1) by omega];exact hI)
   rw[show k+1+i+1=k+(i+1)+1 by omega] at this
   exact this
theorem lin3_flo {l:List Oper} {d:Oper} (L:List (Nat × Option Tmp)) (js:List (Nat × Option Tmp)) (f:Nat × Option Tmp) {r:List St} {a0:Act} {w:World} (s0:Nat→Value) (I:Nat→Bool→(Nat→Value)→World→Prop)
 (hap:apartB L=true) (hf:f∈L) (hm:∀p∈js,p∈L) (h0:foldPut L s0 a0=a0) (hI:I 0 false s0 w) (hst:StepsF P l Q S d L a0 I js 0) (hfl:∀k s w,k≤js.length→I k false s w→flStep P l Q S d L a0 f (I k true) s w)
 (hE:∀s w,I js.length true s w→wpLin3 P l Q S d r (foldPut L s a0) w):wpLin3 P l Q S d (.fl f.1 (js.map (·.1))::r) a0 w:=by
 have:=fl_of_inv (P:=P) (Q:=Q) (S:=S) (d:=d) (l:=l) hap f hf I hE hfl js 0 (by simp) hm (fun i hi fl s w h=>stepsF_at js 0 hst i hi fl s w h) s0 w hI
 rw[h0] at this
 exact this
end
structure Fc where
 op:Nat
 p:(Nat→Prop)→Value→World→Prop
 keep:∀(N N' S:Nat→Prop) (v:Value) (w w':World),p N v w→Keeps S w w'→(∀g,g<w.heap.size→S g→N g)→(∀g,g<w.heap.size→N' g→N g)→p N' v w'
def FcL (fs:List Fc) (k:Nat) (N:Nat→Prop) (s:Nat→Value) (w:World):Prop:=∀i f,i<k→fs[i]? =some f→f.p N (s f.op) w
theorem FcL.zero (fs:List Fc) (N:Nat→Prop) (s:Nat→Value) (w:World):FcL fs 0 N s w:=fun i f h=>absurd h (by omega)
theorem FcL.at {fs:List Fc} {k:Nat} {N:Nat→Prop} {s:Nat→Value} {w:World} (h:FcL fs k N s w) {i:Nat} {f:Fc} (hi:i<k) (hf:fs[i]? =some f):f.p N (s f.op) w:=h i f hi hf
theorem FcL.keep {fs:List Fc} {k:Nat} {N N' S:Nat→Prop} {s s':Nat→Value} {w w':World} (h:FcL fs k N s w) (hk:Keeps S w w') (h1:∀g,g<w.heap.size→S g→N g) (h2:∀g,g<w.heap.size→N' g→N g) (hs:∀i f,i<k→fs[i]? =some f→s' f.op=s f.op):FcL fs k N' s' w':=
 fun i f hi hf=>by rw[hs i f hi hf];exact f.keep N N' S _ w w' (h i f hi hf) hk h1 h2
theorem FcL.push {fs:List Fc} {k:Nat} {N:Nat→Prop} {s:Nat→Value} {w:World} (h:FcL fs k N s w) {f:Fc} (hf:fs[k]? =some f) (hp:f.p N (s f.op) w):FcL fs (k+1) N s w:=fun i g hi hg=>by
 rcases Nat.lt_or_ge i k with h1 | h1
 ·exact h i g h1 hg
 ·have:i=k:=by omega
  subst this
  rw[hf] at hg
  cases hg
  exact hp
def Fc.str (op:Nat) (s:ByteArray):Fc:=⟨op,fun _ v _=>v= .string s,fun _ _ _ _ _ _ h _ _ _=>h⟩
end Go.Proofs.YtfaepbjnpakghaaGreatDoor.W
