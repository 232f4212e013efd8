import Derived.Test.YtfaepbjnpakghaaGreatDoorKad
/- The reference's round: the walk. -/
namespace Go.Proofs.YtfaepbjnpakghaaGreatDoor.W
open Go.RowKit
set_option linter.unusedVariables false
theorem infoU64:(Tryz.prog.info? 146).map (fun i=>(i.zero,i.size,i.bytes))=some (some (.int .u64 0),1,8):=by kernel_rfl
theorem lanes_len (l:List Nat):(lanes l).length=l.length:=by simp[lanes]
theorem lanes_snoc (l:List Nat) (x:Nat):lanes l++[.int .u64 (x:Int)]=lanes (l++[x]):=by simp[lanes]
theorem make_b (w:World):(Instr.makeSlice 153 (.int .i64 25) (.int .i64 25)).run Tryz.prog w= .ok (.slice (some ⟨w.heap.size,0,none⟩) 25 25) (w.alloc (.cells (lanes zeros).toArray 146)):=by kernel_rfl
theorem Own.lane {w:World} {B:Nat} {g n cap:Nat} {l:List Nat} (h:Own w B 146 (.slice (some ⟨g,0,none⟩) n cap) (lanes l)) {j:Nat} (hj:j<l.length):w.cell? ⟨g,j,none⟩=some (.int .u64 ((nth l j:Nat):Int)):=by
 rcases h.is with⟨h,_⟩ | ⟨g',cap',h,_,_,_,_,hcell,_⟩
 ·cases h
 ·have hg:g=g':=by simp at h;exact h.1
  subst hg
  exact hcell j _ (lanes_at hj)
theorem d5t {k:Nat} (h:k<5):decide ((k:Int)<5)=true:=by simp;omega
theorem d5f {k:Nat} (h:¬k<5):decide ((k:Int)<5)=false:=by simp;omega
theorem lt25 {a:List Nat} {i:Nat} (hl:a.length=25) (h:i<25):i<a.length:=by omega
theorem lt5 {a:List Nat} {i:Nat} (hl:a.length=5) (h:i<5):i<a.length:=by omega
theorem is5 {k:Nat} (h:k≤5) (hn:¬k<5):k=5:=by omega
theorem meas5 {k:Nat} (h:k<5):5-(k+1)<5-k:=by omega
theorem meas_i {k:Nat} (h:k<5):5-(intOf (.int .i64 ((k:Int)+1))).toNat<5-(intOf (.int .i64 (k:Int))).toNat:=by simp[intOf];omega
theorem k_facts (k:Nat) (h:k<5):k<25∧k+5<25∧k+10<25∧k+15<25∧k+20<25∧IntKind.i64.wrap ((k:Int)+5)=(k:Int)+5∧IntKind.i64.wrap ((k:Int)+10)=(k:Int)+10∧IntKind.i64.wrap ((k:Int)+15)=(k:Int)+15∧IntKind.i64.wrap ((k:Int)+20)=(k:Int)+20∧
 ((k:Int)+5).toNat=k+5∧((k:Int)+10).toNat=k+10∧((k:Int)+15).toNat=k+15∧((k:Int)+20).toNat=k+20∧(k:Int)<25∧(k:Int)+5<25∧(k:Int)+10<25∧(k:Int)+15<25∧(k:Int)+20<25∧
 (0:Int)≤(k:Int)+5∧(0:Int)≤(k:Int)+10∧(0:Int)≤(k:Int)+15∧(0:Int)≤(k:Int)+20∧k+1≤maxLen∧k+1≤5∧(k+1)*8≤140737488355328:=by
 unfold maxLen
 refine⟨by omega,by omega,by omega,by omega,by omega,IntWalk.i64_in _ (by omega),IntWalk.i64_in _ (by omega),IntWalk.i64_in _ (by omega),IntWalk.i64_in _ (by omega),?_⟩
 refine⟨by omega,by omega,by omega,by omega,by omega,by omega,by omega,by omega,by omega,by omega,by omega,by omega,by omega,by omega,by omega,by omega⟩
theorem no_lt {n1 no:Nat} (h:18446744073709551615-n1=no):no<18446744073709551616:=by omega
theorem no_sub {n1 no:Nat} (h:18446744073709551615-n1=no) (hn:n1<18446744073709551616):(18446744073709551615:Int) -(n1:Int)=(no:Int):=by omega
theorem no_wrap {n1 no:Nat} (h:18446744073709551615-n1=no) (hn:n1<18446744073709551616):IntKind.u64.wrap (18446744073709551615-(n1:Int))=(no:Int):=by rw[IntKind.wrap_u64,no_sub h hn];omega
theorem cVal_at (b:List Nat) (x y:Nat) (hx:x<5):cVal b (5*y+x)=nth b (x+5*y)^^^((18446744073709551615-nth b ((x+1)%5+5*y))&&&nth b ((x+2)%5+5*y)):=by
 unfold cVal
 rw[show(5*y+x)%5=x by omega,show 5*y+x-x=5*y by omega,Nat.add_comm (5*y) x,Nat.add_comm (5*y),Nat.add_comm (5*y)]
theorem yx_facts (x y:Nat) (hx:x<5) (hy:y<5):∃i0 i1 i2 q1 q2:Nat,i0<25∧i1<25∧i2<25∧x+5*y=i0∧(x+1)%5+5*y=i1∧(x+2)%5+5*y=i2∧
 IntKind.i64.wrap ((x:Int)+1)=(x:Int)+1∧((x:Int)+1).tmod 5=(q1:Int)∧((x:Int)+1)%5=(q1:Int)∧(((x:Int)+1)%5).toNat=q1∧IntKind.i64.wrap (q1:Int)=(q1:Int)∧IntKind.i64.wrap (5*(y:Int))=5*(y:Int)∧IntKind.i64.wrap ((q1:Int)+5*(y:Int))=(i1:Int)∧(q1:Int)+5*(y:Int)=(i1:Int)∧IntKind.i64.wrap (i1:Int)=(i1:Int)∧(i1:Int)<25∧
 True∧
 IntKind.i64.wrap ((x:Int)+2)=(x:Int)+2∧((x:Int)+2).tmod 5=(q2:Int)∧IntKind.i64.wrap (q2:Int)=(q2:Int)∧IntKind.i64.wrap ((q2:Int)+5*(y:Int))=(i2:Int)∧IntKind.i64.wrap ((x:Int)+5*(y:Int))=(i0:Int)∧(i0:Int)<25∧(i2:Int)<25∧
 5*y+x+1≤maxLen∧x+1≤5∧(5*y+x+1)*8≤140737488355328:=by
 have e1:((x:Int)+1).tmod 5=((x:Int)+1)%5:=Int.tmod_eq_emod_of_nonneg (by omega)
 have e2:((x:Int)+2).tmod 5=((x:Int)+2)%5:=Int.tmod_eq_emod_of_nonneg (by omega)
 unfold maxLen
 refine⟨x+5*y,(x+1)%5+5*y,(x+2)%5+5*y,(x+1)%5,(x+2)%5,by omega,by omega,by omega,rfl,rfl,rfl,IntWalk.i64_in _ (by omega),?_,by omega,by omega,IntWalk.i64_in _ (by omega),IntWalk.i64_in _ (by omega),(IntWalk.i64_in _ (by omega)).trans (by omega),by omega,IntWalk.i64_in _ (by omega),by omega,trivial,
  IntWalk.i64_in _ (by omega),?_,IntWalk.i64_in _ (by omega),(IntWalk.i64_in _ (by omega)).trans (by omega),(IntWalk.i64_in _ (by omega)).trans (by omega),by omega,by omega,by omega,by omega,by omega⟩
 ·rw[e1];omega
 ·rw[e2];omega
theorem xy_facts (x y:Nat) (hx:x<5) (hy:y<5):∃i q4 q1 q m:Nat,x+5*y=i∧(x+4)%5=q4∧(x+1)%5=q1∧(2*x+3*y)%5=q∧y+5*q=m∧(5*x+y)/5=x∧(5*x+y)%5=y∧i<25∧q4<5∧q1<5∧m<25∧
 IntKind.i64.wrap (5*(y:Int))=5*(y:Int)∧IntKind.i64.wrap ((x:Int)+5*(y:Int))=(i:Int)∧IntKind.i64.wrap ((x:Int)+4)=(x:Int)+4∧IntKind.i64.wrap ((x:Int)+1)=(x:Int)+1∧
 ((x:Int)+4).tmod 5=(q4:Int)∧((x:Int)+1).tmod 5=(q1:Int)∧IntKind.i64.wrap (q4:Int)=(q4:Int)∧IntKind.i64.wrap (q1:Int)=(q1:Int)∧(i:Int)<25∧(q4:Int)<5∧(q1:Int)<5∧
 IntKind.i64.wrap (2*(x:Int))=2*(x:Int)∧IntKind.i64.wrap (3*(y:Int))=3*(y:Int)∧IntKind.i64.wrap (2*(x:Int)+3*(y:Int))=2*(x:Int)+3*(y:Int)∧(2*(x:Int)+3*(y:Int)).tmod 5=(q:Int)∧(2*(x:Int)+3*(y:Int))%5=(q:Int)∧
 IntKind.i64.wrap (q:Int)=(q:Int)∧IntKind.i64.wrap (5*(q:Int))=5*(q:Int)∧IntKind.i64.wrap ((y:Int)+5*(q:Int))=(m:Int)∧(x:Int)+5*(y:Int)=(i:Int)∧(y:Int)+5*(q:Int)=(m:Int)∧(m:Int)<25:=by
 have e1:((x:Int)+4).tmod 5=((x:Int)+4)%5:=Int.tmod_eq_emod_of_nonneg (by omega)
 have e2:((x:Int)+1).tmod 5=((x:Int)+1)%5:=Int.tmod_eq_emod_of_nonneg (by omega)
 have e3:(2*(x:Int)+3*(y:Int)).tmod 5=(2*(x:Int)+3*(y:Int))%5:=Int.tmod_eq_emod_of_nonneg (by omega)
 refine⟨x+5*y,(x+4)%5,(x+1)%5,(2*x+3*y)%5,y+5*((2*x+3*y)%5),rfl,rfl,rfl,rfl,rfl,by omega,by omega,by omega,by omega,by omega,by omega,IntWalk.i64_in _ (by omega),(IntWalk.i64_in _ (by omega)).trans (by omega),IntWalk.i64_in _ (by omega),IntWalk.i64_in _ (by omega),?_,?_,IntWalk.i64_in _ (by omega),IntWalk.i64_in _ (by omega),by omega,by omega,by omega,
  IntWalk.i64_in _ (by omega),IntWalk.i64_in _ (by omega),IntWalk.i64_in _ (by omega),?_,?_,IntWalk.i64_in _ (by omega),IntWalk.i64_in _ (by omega),(IntWalk.i64_in _ (by omega)).trans (by omega),by omega,by omega,by omega⟩
 ·rw[e1];omega
 ·rw[e2];omega
 ·rw[e3];omega
 ·omega
theorem cS_low {b:List Nat} (hb:Low b) (m:Nat):Low (cS b m):=by
 intro j
 unfold nth cS
 rw[List.getD_eq_getElem?_getD,List.getElem?_map]
 rcases(List.range m)[j]? with _ | y
 ·show 0<_
  omega
 ·exact cVal_low hb y
theorem Own.cellAt {w:World} {B:Nat} {e:TypeId} {g n cap:Nat} {l:List Value} (h:Own w B e (.slice (some ⟨g,0,none⟩) n cap) l) {j:Nat} {u:Value} (hj:l[j]? =some u):w.cell? ⟨g,j,none⟩=some u:=by
 rcases h.is with⟨h,_⟩ | ⟨g',cap',h,_,_,_,_,hcell,_⟩
 ·cases h
 ·have hg:g=g':=by simp at h;exact h.1
  subst hg
  exact hcell j _ hj
theorem Own.freeAt {w:World} {B:Nat} {e:TypeId} {g n cap:Nat} {l:List Value} (h:Own w B e (.slice (some ⟨g,0,none⟩) n cap) l) {j:Nat} (hj:j<l.length):w.frozen? ⟨g,j,none⟩=false:=by
 rcases h.is with⟨h,_⟩ | ⟨g',cap',h,_,hc,_,_,_,hf⟩
 ·cases h
 ·have hg:g=g':=by simp at h;exact h.1
  subst hg
  exact hf j (by omega)
theorem Own.down {w:World} {B B':Nat} {e:TypeId} {v:Value} {l:List Value} (h:Own w B e v l) (hb:B'≤B):Own w B' e v l:=by
 rcases h.is with h | ⟨g',cap',h,hB,r⟩
 ·exact⟨.inl h⟩
 ·exact⟨.inr ⟨g',cap',h,Nat.le_trans hb hB,r⟩⟩
theorem Own.setAt {w:World} {B:Nat} {e:TypeId} {g n cap:Nat} {l:List Value} (h:Own w B e (.slice (some ⟨g,0,none⟩) n cap) l) (u:Value) {j:Nat}:Own (w.setCell ⟨g,j,none⟩ u) B e (.slice (some ⟨g,0,none⟩) n cap) (l.set j u):=by
 rcases h.is with⟨h,_⟩ | ⟨g',cap',h,hB,hn,hm,⟨cur,fz,hg0,hc⟩,hcell,hf⟩
 ·cases h
 ·have hg:g=g'∧n=l.length∧cap=cap':=by simp at h;exact h
  obtain⟨rfl,rfl,rfl⟩:=hg
  have hheap:(w.setCell ⟨g,j,none⟩ u).heap[g]? =some (.cells (cur.setIfInBounds j u) e fz):=by simp[World.setCell,Array.getElem?_modify,hg0]
  refine⟨.inr ⟨g,cap,by simp,hB,by simpa using hn,hm,⟨_,fz,hheap,by simpa using hc⟩,fun i x hi=> ?_,fun i hi=> ?_⟩⟩
  ·have h0:=fun(x:Value) (hi:l[i]? =some x)=>hcell i x hi
   simp only[World.cell?,hheap]
   simp only[World.cell?,hg0] at h0
   rw[List.getElem?_set] at hi
   by_cases hij:j=i
   ·subst hij
    by_cases hjl:j<l.length
    ·rw[if_pos rfl,if_pos hjl] at hi
     cases hi
     have:j<cur.size:=by omega
     simp[this]
    ·rw[if_pos rfl,if_neg hjl] at hi;cases hi
   ·rw[if_neg hij] at hi
    have:=h0 x hi
    simpa [Array.getElem?_setIfInBounds,hij] using this
  ·have:=hf i hi
   simp only[World.frozen?,hg0] at this
   simp only[World.frozen?,hheap]
   exact this
theorem u64x (a b:Nat) (ha:a<18446744073709551616) (hb:b<18446744073709551616):bits BinOp.xor IntKind.u64 (a:Int) (b:Int)=((a ^^^ b:Nat):Int):=u64_xor_nat a b ha hb
set_option maxHeartbeats 1000000 in
set_option maxRecDepth 100000 in
theorem round_any (a:List Nat) (c B g cap:Nat) (w:World) (hO:Own w B 146 (.slice (some ⟨g,0,none⟩) 25 cap) (lanes a)) (hl:a.length=25) (ha:Low a) (hc:c<18446744073709551616):
 Calls Tryz.prog 214 #[.slice (some ⟨g,0,none⟩) 25 cap, .int .u64 c] w fun e w'=>∃v,e= .returned v∧Own w' w.heap.size 146 v (lanes (roundS a c))∧Below w.heap.size w w':=by
 obtain⟨i0,hi,hz0,hz1,hz2⟩:=info_parts infoU64
 have HI:Hd (_∧_∧_∧_):=⟨⟨hi,hz0,hz1,hz2⟩⟩
 have HO:=Hd.mk hO
 have HL:=Hd.mk ha
 clear hi hz0 hz1 hz2 hO ha
 go_enter Tryz.func214,Tryz.ntmps214
 go_wp2
 go_loopw [5,6] (fun v i wr=>∃k:Nat,k≤5∧i= .int .i64 k∧Own wr w.heap.size 146 v (lanes (colsP a k))∧Below w.heap.size w wr) (fun _ i _=>5-(intOf i).toNat)
 case atStart=>exact⟨0,Nat.zero_le _,rfl,Own.nil _ _ _,Below.refl _ _⟩
 case round=>
  obtain⟨k,hk,rfl,hP,hB⟩:=hrel
  by_cases hlt:k<5
  ·have hd:=d5t hlt
   have HP:=Hd.mk hP
   have HB:=Hd.mk hB
   have hg:g<w.heap.size:=(HO.out.lt rfl).2
   have HOr:Hd (Own wr B 146 (.slice (some ⟨g,0,none⟩) 25 cap) (lanes a)):=⟨HO.out.keeps (Keeps.of_below (S:=fun k=>w.heap.size≤k) hB (fun k _ h=>h)) (fun x hx=>by have:=(HO.out.lt hx).2;omega)⟩
   obtain⟨l0,l1,l2,l3,l4,w1,w2,w3,w4,n1,n2,n3,n4,b0,b1,b2,b3,b4,p1,p2,p3,p4,hm1,hm2,hm3⟩:=k_facts k hlt
   have c0:=HOr.out.lane (j:=k) (lt25 hl l0)
   have c1:=HOr.out.lane (j:=k+5) (lt25 hl l1)
   have c2:=HOr.out.lane (j:=k+10) (lt25 hl l2)
   have c3:=HOr.out.lane (j:=k+15) (lt25 hl l3)
   have c4:=HOr.out.lane (j:=k+20) (lt25 hl l4)
   have hlen:(lanes (colsP a k)).length=k:=by simp[lanes,colsP]
   have hx:∀j,nth a j<18446744073709551616:=HL.out
   have x1:=u64x (nth a k) (nth a (k+5)) (hx _) (hx _)
   have x2:=u64x (nth a k ^^^ nth a (k+5)) (nth a (k+10)) (xor_low (hx _) (hx _)) (hx _)
   have x3:=u64x (nth a k ^^^ nth a (k+5)^^^ nth a (k+10)) (nth a (k+15)) (xor_low (xor_low (hx _) (hx _)) (hx _)) (hx _)
   have x4:=u64x (nth a k ^^^ nth a (k+5)^^^ nth a (k+10)^^^ nth a (k+15)) (nth a (k+20)) (xor_low (xor_low (xor_low (hx _) (hx _)) (hx _)) (hx _)) (hx _)
   have hsz:=hB.size
   clear hP hB hx
   go_wp2_with fail
   refine wp_region_lin default (fun w'=>w'.cell? ⟨g,k,none⟩=some (.int .u64 ((nth a k:Nat):Int))∧w'.cell? ⟨g,k+5,none⟩=some (.int .u64 ((nth a (k+5):Nat):Int))∧w'.cell? ⟨g,k+10,none⟩=some (.int .u64 ((nth a (k+10):Nat):Int))∧w'.cell? ⟨g,k+15,none⟩=some (.int .u64 ((nth a (k+15):Nat):Int))∧w'.cell? ⟨g,k+20,none⟩=some (.int .u64 ((nth a (k+20):Nat):Int)))
    [(0,true),(1,true),(2,true),(3,true),(4,true),(5,true),(6,true),(7,true),(8,true),(9,true),(10,true),(11,true),(12,true),(13,true),(14,true),(15,true),(16,true),(17,true),(18,true),(19,true),(20,true),(21,true),(22,true),(23,true),(24,true),(25,true),(26,true),(27,true),(28,true),(29,false),(30,false),(31,true)] (by kernel_rfl) (by kernel_rfl) rfl (by kernel_rfl) (by kernel_rfl) ⟨c0,c1,c2,c3,c4⟩ ?_
   simp only[pick,List.getD_cons_zero,List.getD_cons_succ]
   repeat
    refine lin_free (v:= ?_) (by rfl) ?_ ?_
    rotate_left
    ·intro w' hSw
     obtain⟨d0,d1,d2,d3,d4⟩:=hSw
     go_simp
     first | done | with_reducible rfl
    simp only[Act.put,List.setIfInBounds_toArray,List.set_cons_zero,List.set_cons_succ]
   refine lin_bound (fun K hK=> ?_)
   go_simp
   refine hK.out _ _ (by refine⟨?_,?_,?_,?_,?_⟩<;>simp[*,World.cell?_alloc_some]) ?_
   clear hK K
   refine lin_bound (fun K hK=> ?_)
   refine step_app1 rfl _ _ 153 rfl 146 Tryz.underlying153 HI.out.1 HI.out.2.1 HI.out.2.2.1 HI.out.2.2.2 rfl u5 _ _ _ _ _ rfl (HP.out.keeps (((Keeps.refl (fun _=>False) wr).alloc _).drew) (fun _ _ h=>h)) rfl ⟨_,_,heap_alloc_new wr _⟩ rfl (by unfold maxLen;omega) (by omega) (by simp;omega) ?_
   intro v' w' hO' hK' _
   have K2:Keeps (fun k=>u5.ownBlock=some k) wr w':=(((Keeps.refl (fun k=>u5.ownBlock=some k) wr).alloc _).drew).trans hK'
   have hb:w'.heap[g]? =wr.heap[g]? :=K2.block g (by omega) (fun h=>by have:=(HP.out.lt h).1;omega)
   have hcc:∀j,w'.cell? ⟨g,j,none⟩=wr.cell? ⟨g,j,none⟩:=fun j=>World.cell?_of_block (a:=⟨g,j,none⟩) hb
   refine hK.out _ _ ⟨by rw[hcc];exact c0,by rw[hcc];exact c1,by rw[hcc];exact c2,by rw[hcc];exact c3,by rw[hcc];exact c4⟩ ?_
   clear hK K
   refine lin_free (v:= ?_) (by rfl) ?_ ?_
   rotate_left
   ·intro w' hSw
    go_simp
    first | done | with_reducible rfl
   simp only[Act.put,List.setIfInBounds_toArray,List.set_cons_zero,List.set_cons_succ]
   refine NoPanic.normal ?_
   rw[lanes_snoc,show colsP a k++[nth a k ^^^ nth a (k+5)^^^ nth a (k+10)^^^ nth a (k+15)^^^ nth a (k+20)]=colsP a (k+1) by simp[colsP,List.range_succ,colP]] at hO'
   have HO3:=Hd.mk hO'
   have HB3:Hd (Below w.heap.size w w'):=⟨HB.out.trans (K2.below hsz (fun g hg h=>by have:=(HP.out.lt h).1;omega))⟩
   clear hO' hK' K2 hb hcc
   go_wp2
   go_roundw
   case rel=>exact⟨k+1,hm2,by go_num,HO3.out,HB3.out⟩
   case measure=>simp[intOf];omega
  ·have hk5:k=5:=is5 hk hlt
   rw[hk5] at hP
   have hd:=d5f hlt
   have HP:=Hd.mk hP
   have HB:=Hd.mk hB
   clear hP hB hk5
   go_wp2_with (rw[make_b])
   have HOw:Hd (Own wr B 146 (.slice (some ⟨g,0,none⟩) 25 cap) (lanes a)):=⟨HO.out.keeps (Keeps.of_below (S:=fun k=>w.heap.size≤k) HB.out (fun k _ h=>h)) (fun x hx=>by have:=(HO.out.lt hx).2;omega)⟩
   obtain⟨gp,cp,rfl⟩:=HP.out.slice (by simp[lanes,colsP])
   have hpl5:(lanes (colsP a 5)).length=5:=by simp[lanes,colsP]
   rw[hpl5] at HP
   rw[hpl5]
   obtain⟨H,hH⟩:∃H,wr.heap.size=H:=⟨_,rfl⟩
   have hgp:w.heap.size≤gp∧gp<H:=hH▸HP.out.lt (k:=gp) rfl
   have hgw:g<w.heap.size:=(HO.out.lt rfl).2
   have Hb0:=Hd.mk (Blk.new wr 146 (lanes zeros))
   have HO0:=Hd.mk (HOw.out.alloc (.cells (lanes zeros).toArray 146))
   have HP0:=Hd.mk (HP.out.alloc (.cells (lanes zeros).toArray 146))
   have HB0:Hd (Below w.heap.size w (wr.alloc (.cells (lanes zeros).toArray 146))):=⟨Below.chain HB.out ((Keeps.refl (fun _=>False) wr).alloc _ |>.below (Nat.le_refl _) (fun _ _ h=>h))⟩
   have neg:Hd (g≠H∧gp≠H∧w.heap.size≤H):=⟨Nat.ne_of_lt (Nat.lt_of_lt_of_le hgw (Nat.le_of_lt (Nat.lt_of_le_of_lt hgp.1 hgp.2))),Nat.ne_of_lt hgp.2,Nat.le_of_lt (Nat.lt_of_le_of_lt hgp.1 hgp.2)⟩
   have hcl:(colsP a 5).length=5:=by simp[colsP]
   have hcp:Hd (Low (colsP a 5)):=⟨colsP_low HL.out 5⟩
   rw[hH] at Hb0
   rw[hH]
   clear hpl5 HO HP HB HOw
   go_loopw [8] (fun i w1=>∃x:Nat,x≤5∧i= .int .i64 x∧Blk w1 H 146 (lanes (bW a (5*x)))∧Own w1 B 146 (.slice (some ⟨g,0,none⟩) 25 cap) (lanes a)∧Own w1 w.heap.size 146 (.slice (some ⟨gp,0,none⟩) 5 cp) (lanes (colsP a 5))∧Below w.heap.size w w1) (fun i _=>5-(intOf i).toNat)
   case atStart=>exact⟨0,Nat.zero_le _,rfl,Hb0.out,HO0.out,HP0.out,HB0.out⟩
   case round=>
    clear Hb0 HO0 HP0 HB0
    obtain⟨x,hx,rfl,hb1,ho1,hp1,hB1⟩:=hrel
    by_cases hlt:x<5
    ·have hd1:=d5t hlt
     have Hb1:=Hd.mk hb1
     have Ho1:=Hd.mk ho1
     have Hp1:=Hd.mk hp1
     have HB1:=Hd.mk hB1
     clear hb1 ho1 hp1 hB1
     go_wp2
     go_loopw [9] (fun i w1=>∃y:Nat,y≤5∧i= .int .i64 y∧Blk w1 H 146 (lanes (bW a (5*x+y)))∧Own w1 B 146 (.slice (some ⟨g,0,none⟩) 25 cap) (lanes a)∧Own w1 w.heap.size 146 (.slice (some ⟨gp,0,none⟩) 5 cp) (lanes (colsP a 5))∧Below w.heap.size w w1) (fun i _=>5-(intOf i).toNat)
     case atStart=>exact⟨0,Nat.zero_le _,rfl,Hb1.out,Ho1.out,Hp1.out,HB1.out⟩
     case round=>
      clear Hb1 Ho1 Hp1 HB1
      obtain⟨y,hy,rfl,hb2,ho2,hp2,hB2⟩:=hrel
      by_cases hly:y<5
      ·have hd2:=d5t hly
       have Hb2:=Hd.mk hb2
       have Ho2:=Hd.mk ho2
       have Hp2:=Hd.mk hp2
       have HB2:=Hd.mk hB2
       clear hb2 ho2 hp2 hB2
       obtain⟨i,q4,q1,q,m,hi,hq4,hq1,hq,hm,hdv,hmd,hi25,hq45,hq15,hm25,w1,w2,w3,w4,r4,r1,w5,w6,b1,b2,b3,Z⟩:=xy_facts x y hlt hly
       have HZ:=Hd.mk Z
       clear Z
       have ca:=Ho2.out.lane (j:=i) (lt25 hl hi25)
       have c4:=Hp2.out.lane (j:=q4) (lt5 hcl hq45)
       have c1:=Hp2.out.lane (j:=q1) (lt5 hcl hq15)
       have hna:=HL.out i
       have hn4:=hcp.out q4
       have hn1:=hcp.out q1
       have hv:Hd (bV a (5*x+y)=rotl (nth a i ^^^ nth (colsP a 5) q4 ^^^ rotl (nth (colsP a 5) q1) 1) (nth turnL i)):=⟨by
        unfold bV
        rw[hdv,hmd,hi,hq4,hq1]⟩
       obtain⟨na,hna'⟩:∃n,nth a i=n:=⟨_,rfl⟩
       obtain⟨n4,hn4'⟩:∃n,nth (colsP a 5) q4=n:=⟨_,rfl⟩
       obtain⟨n1,hn1'⟩:∃n,nth (colsP a 5) q1=n:=⟨_,rfl⟩
       rw[hna'] at ca hna
       rw[hn4'] at c4 hn4
       rw[hn1'] at c1 hn1
       rw[hna',hn4',hn1'] at hv
       have x1:=u64x na n4 hna hn4
       have hrl:rotl n1 1<18446744073709551616:=rotl_low hn1 1
       have x2:=u64x (na ^^^ n4) (rotl n1 1) (xor_low hna hn4) hrl
       go_wp2_with fail
       refine wp_region_lin default (fun w'=>w'.cell? ⟨g,i,none⟩=some (.int .u64 (na:Int))∧w'.cell? ⟨gp,q4,none⟩=some (.int .u64 (n4:Int))∧w'.cell? ⟨gp,q1,none⟩=some (.int .u64 (n1:Int))∧w'=wr.drew)
        [(0,true),(1,true),(2,true),(3,true),(4,true),(5,true),(6,true),(7,true),(8,true),(9,true),(10,true),(11,true),(12,true),(13,true),(14,true),(15,true),(16,true),(17,true),(18,true),(19,true),(20,false),(21,true),(22,true)] (by kernel_rfl) (by kernel_rfl) rfl (by kernel_rfl) (by kernel_rfl) ⟨ca,c4,c1,rfl⟩ ?_
       simp only[pick,List.getD_cons_zero,List.getD_cons_succ]
       repeat
        refine lin_free (v:= ?_) (by rfl) ?_ ?_
        rotate_left
        ·intro w' hSw
         obtain⟨d0,d1,d2,_⟩:=hSw
         go_simp
         first | done | with_reducible rfl
        simp only[Act.put,List.setIfInBounds_toArray,List.set_cons_zero,List.set_cons_succ]
       refine lin_bound (fun K hK=> ?_)
       go_simp
       refine(left_any n1 1 hn1 (by decide) _).mono ?_
       rintro e w' ⟨rfl,rfl⟩
       dsimp only
       refine hK.out _ _ ⟨ca,c4,c1,rfl⟩ ?_
       clear hK K
       repeat
        refine lin_free (v:= ?_) (by rfl) ?_ ?_
        rotate_left
        ·intro w' hSw
         obtain⟨d0,d1,d2,_⟩:=hSw
         go_simp
         first | done | with_reducible rfl
        simp only[Act.put,List.setIfInBounds_toArray,List.set_cons_zero,List.set_cons_succ]
       refine NoPanic.normal ?_
       obtain⟨r1',hr1⟩:∃n,rotl n1 1=n:=⟨_,rfl⟩
       rw[hr1] at hv hrl
       rw[hr1]
       have hvl:na ^^^ n4 ^^^ r1'<18446744073709551616:=xor_low (xor_low hna hn4) hrl
       obtain⟨vv,hvv⟩:∃n,na ^^^ n4 ^^^ r1'=n:=⟨_,rfl⟩
       rw[hvv] at hv hvl
       rw[hvv]
       have hbI:Hd (bI (5*x+y)=m):=⟨by unfold bI;rw[hdv,hmd,hq,hm]⟩
       have htl:Hd (nth turnL i<64):=⟨turn_low i⟩
       obtain⟨z1,z2,z3,z4,z4',z5,z6,z7,z8,z9,z10⟩:=HZ.out
       clear ca c4 c1 x1 x2 r4 r1 w3 w4 w5 w6 b2 b3 hna hn4 hn1
       go_wp2_with (go_at_call 253;refine(turn_any _ hi25 _).mono ?_;rintro e w3 ⟨rfl,hB3⟩)
       have K3:Keeps (fun _=>False) wr w3:=((Keeps.refl (fun _=>False) wr).drew).trans (Keeps.of_below hB3 (fun k hk h=>absurd hk (Nat.not_lt.2 h)))
       have Hb3:=Hd.mk (K3.blk Hb2.out (fun h=>h))
       have Ho3:=Hd.mk (Ho2.out.keeps K3 (fun _ _ h=>h))
       have Hp3:=Hd.mk (Hp2.out.keeps K3 (fun _ _ h=>h))
       have HB3:Hd (Below w.heap.size w w3):=⟨HB2.out.trans (K3.below HB2.out.size (fun _ _ h=>h))⟩
       have c3:=Hb3.out.at (lanes_at (l:=bW a (5*x+y)) (j:=m) (lt25 (bW_low HL.out _).2 hm25))
       have f3:=Hb3.out.free m
       have m1:(m:Int)<25:=z10
       clear hB3 K3 Hb2 Ho2 Hp2 HB2
       go_wp2_with (go_at_call 252;refine(left_any vv _ hvl htl.out _).mono ?_;rintro e w4 ⟨rfl,rfl⟩)
       have HK4:Hd (Keeps (·=H) w3 (w3.setCell ⟨H,m,none⟩ (.int .u64 ((rotl vv (nth turnL i):Nat):Int)))):=⟨(Keeps.refl (·=H) w3).setCell (p:=⟨H,m,none⟩) (.inr rfl) _⟩
       have Hb4:Hd (Blk (w3.setCell ⟨H,m,none⟩ (.int .u64 ((rotl vv (nth turnL i):Nat):Int))) H 146 (lanes (bW a (5*x+(y+1))))):=⟨by
        have:=Hb3.out.set m (.int .u64 ((rotl vv (nth turnL i):Nat):Int))
        rw[lanes_set,←hv.out,←hbI.out] at this
        rw[←hv.out,←hbI.out]
        exact this⟩
       have Ho4:=Hd.mk (Ho3.out.keeps HK4.out (fun g' h e=>neg.out.1 ((Option.some.inj h).trans e)))
       have Hp4:=Hd.mk (Hp3.out.keeps HK4.out (fun g' h e=>neg.out.2.1 ((Option.some.inj h).trans e)))
       have HB4:=Hd.mk (HB3.out.trans (HK4.out.below HB3.out.size (fun k hk e=>absurd hk (Nat.not_lt.2 (e▸neg.out.2.2)))))
       clear HB3 Hp3 Ho3 Hb3
       go_wp2
       exact⟨⟨y+1,hly,by go_num,Hb4.out,Ho4.out,Hp4.out,HB4.out⟩,meas_i hly⟩
      ·have hy5:y=5:=is5 hy hly
       rw[hy5] at hb2
       have hd2:=d5f hly
       have Hb2:=Hd.mk hb2
       have Ho2:=Hd.mk ho2
       have Hp2:=Hd.mk hp2
       have HB2:=Hd.mk hB2
       clear hb2 ho2 hp2 hB2 hy5
       go_wp2
       exact⟨⟨x+1,hlt,by go_num,Hb2.out,Ho2.out,Hp2.out,HB2.out⟩,meas_i hlt⟩
    ·have hx5:x=5:=is5 hx hlt
     rw[hx5] at hb1
     have hd1:=d5f hlt
     have Hb1:=Hd.mk hb1
     have HB1:=Hd.mk hB1
     clear hb1 ho1 hp1 hB1 hx5
     go_wp2
     go_loopw [11,12] (fun v i w1=>∃y:Nat,y≤5∧i= .int .i64 y∧Own w1 (H+1) 146 v (lanes (cS (bW a 25) (5*y)))∧Blk w1 H 146 (lanes (bW a 25))∧Below w.heap.size w w1) (fun _ i _=>5-(intOf i).toNat)
     case atStart=>exact⟨0,Nat.zero_le _,rfl,Own.nil _ _ _,Hb1.out,HB1.out⟩
     case round=>
      clear Hb1 HB1
      obtain⟨y,hy,rfl,ho1,hb1,hB1⟩:=hrel
      by_cases hly:y<5
      ·have hd2:=d5t hly
       have Hb1:=Hd.mk hb1
       have Ho1:=Hd.mk ho1
       have HB1:=Hd.mk hB1
       clear hb1 ho1 hB1
       go_wp2
       go_loopw [11,13] (fun v i w1=>∃x:Nat,x≤5∧i= .int .i64 x∧Own w1 (H+1) 146 v (lanes (cS (bW a 25) (5*y+x)))∧Blk w1 H 146 (lanes (bW a 25))∧Below w.heap.size w w1) (fun _ i _=>5-(intOf i).toNat)
       case atStart=>exact⟨0,Nat.zero_le _,rfl,Ho1.out,Hb1.out,HB1.out⟩
       case round=>
        clear Hb1 Ho1 HB1
        obtain⟨x,hx,rfl,ho2,hb2,hB2⟩:=hrel
        by_cases hlx:x<5
        ·have hd3:=d5t hlx
         have Hb2:=Hd.mk hb2
         have Ho2:=Hd.mk ho2
         have HB2:=Hd.mk hB2
         clear hb2 ho2 hB2
         obtain⟨i0,i1,i2,q1,q2,hi0,hi1,hi2,hi0',hi1',hi2',w1,w2,w3,w3',w4,w5,w6,w7,w8,b1,hW,w9,w10,w11,w12,w13,b0,b2,hm1,hm2,hm3⟩:=yx_facts x y hlx hly
         have c0:=Hb2.out.at (lanes_at (l:=bW a 25) (lt25 (bW_low HL.out 25).2 hi0))
         have c1:=Hb2.out.at (lanes_at (l:=bW a 25) (lt25 (bW_low HL.out 25).2 hi1))
         have c2:=Hb2.out.at (lanes_at (l:=bW a 25) (lt25 (bW_low HL.out 25).2 hi2))
         have hn0:=(bW_low HL.out 25).1 i0
         have hn1:=(bW_low HL.out 25).1 i1
         have hn2:=(bW_low HL.out 25).1 i2
         have hv:Hd (cVal (bW a 25) (5*y+x)=nth (bW a 25) i0 ^^^((18446744073709551615-nth (bW a 25) i1)&&&nth (bW a 25) i2)):=⟨by rw[cVal_at _ _ _ hlx,hi0',hi1',hi2']⟩
         obtain⟨n0,hn0'⟩:∃n,nth (bW a 25) i0=n:=⟨_,rfl⟩
         obtain⟨n1,hn1'⟩:∃n,nth (bW a 25) i1=n:=⟨_,rfl⟩
         obtain⟨n2,hn2'⟩:∃n,nth (bW a 25) i2=n:=⟨_,rfl⟩
         rw[hn0'] at c0 hn0
         rw[hn1'] at c1 hn1
         rw[hn2'] at c2 hn2
         rw[hn0',hn1',hn2'] at hv
         obtain⟨no,hno⟩:∃n,18446744073709551615-n1=n:=⟨_,rfl⟩
         have hnl:no<18446744073709551616:=no_lt hno
         have s1:IntKind.u64.wrap (18446744073709551615-(n1:Int))=(no:Int):=no_wrap hno hn1
         have s2:(18446744073709551615:Int) -(n1:Int)=(no:Int):=no_sub hno hn1
         have x1:=u64_and_nat no n2 hnl hn2
         have x2:=u64x n0 (no&&&n2) hn0 (and_low hn2)
         rw[hno] at hv
         have HW:=Hd.mk hW
         clear hn0' hn1' hn2' hno hi0' hi1' hi2' hW
         go_wp2_with fail
         have hsz:w.heap.size≤wr.heap.size:=HB2.out.size
         have hHs:H+1≤wr.heap.size:=Hb2.out.lt
         have hlen:(lanes (cS (bW a 25) (5*y+x))).length=5*y+x:=by rw[lanes_len,cS_len]
         have hlen1:(lanes (cS (bW a 25) (5*y+x))).length+1≤maxLen:=by rw[hlen];exact hm1
         have hlen2:((lanes (cS (bW a 25) (5*y+x))).length+1)*8≤140737488355328:=by rw[hlen];exact hm3
         clear w1 w2 w3 w3' w4 w6 w7 w8 b1 s1 s2 c1
         refine wp_region_lin default (fun w'=>w'.cell? ⟨H,i0,none⟩=some (.int .u64 (n0:Int))∧w'.cell? ⟨H,i2,none⟩=some (.int .u64 (n2:Int)))
          [(0,true),(1,true),(2,true),(3,true),(4,true),(5,true),(6,true),(7,true),(8,true),(9,true),(10,true),(11,true),(12,true),(13,true),(14,true),(15,true),(16,true),(17,true),(18,true),(19,true),(20,false),(21,false),(22,true)] (by kernel_rfl) (by kernel_rfl) rfl (by kernel_rfl) (by kernel_rfl) ⟨c0,c2⟩ ?_
         simp only[pick,List.getD_cons_zero,List.getD_cons_succ]
         repeat
          refine lin_free (v:= ?_) (by rfl) ?_ ?_
          rotate_left
          ·intro w' hSw
           obtain⟨d0,d1⟩:=hSw
           go_simp
           first | done | with_reducible rfl
          simp only[Act.put,List.setIfInBounds_toArray,List.set_cons_zero,List.set_cons_succ]
         refine lin_bound (fun K hK=> ?_)
         go_simp
         refine hK.out _ _ (by refine⟨?_,?_⟩<;>simp[*,World.cell?_alloc_some]) ?_
         clear hK K
         refine lin_bound (fun K hK=> ?_)
         refine step_app1 rfl _ _ 153 rfl 146 Tryz.underlying153 HI.out.1 HI.out.2.1 HI.out.2.2.1 HI.out.2.2.2 rfl u11 _ _ _ _ _ rfl (Ho2.out.keeps (((Keeps.refl (fun _=>False) wr).alloc _).drew) (fun _ _ h=>h)) rfl ⟨_,_,heap_alloc_new wr _⟩ rfl hlen1 hlen2 (Nat.le_trans hHs (((Keeps.refl (fun _=>False) wr).alloc _).drew).size) ?_
         intro v' w' hO' hK' _
         have K2:Keeps (fun k=>u11.ownBlock=some k) wr w':=(((Keeps.refl (fun k=>u11.ownBlock=some k) wr).alloc _).drew).trans hK'
         have hown:¬u11.ownBlock=some H:=fun h=>absurd (Ho2.out.lt h).1 (Nat.not_succ_le_self H)
         have Hb3:=Hd.mk (K2.blk Hb2.out hown)
         have hb:w'.heap[H]? =wr.heap[H]? :=K2.block H hHs hown
         have hcc:∀j,w'.cell? ⟨H,j,none⟩=wr.cell? ⟨H,j,none⟩:=fun j=>World.cell?_of_block (a:=⟨H,j,none⟩) hb
         refine hK.out _ _ ⟨by rw[hcc];exact c0,by rw[hcc];exact c2⟩ ?_
         clear hK K
         refine lin_free (v:= ?_) (by rfl) ?_ ?_
         rotate_left
         ·intro w' hSw
          go_simp
          first | done | with_reducible rfl
         simp only[Act.put,List.setIfInBounds_toArray,List.set_cons_zero,List.set_cons_succ]
         refine NoPanic.normal ?_
         rw[lanes_snoc,←hv.out,cS_succ] at hO'
         have HO3:=Hd.mk hO'
         have HB3:Hd (Below w.heap.size w w'):=⟨HB2.out.trans (K2.below hsz (fun k hk h=>absurd (Nat.lt_of_lt_of_le hk neg.out.2.2) (Nat.not_lt.2 (Nat.le_of_succ_le (Ho2.out.lt h).1))))⟩
         clear hO' hK' K2 hb hcc
         go_wp2
         exact⟨⟨x+1,hm2,by go_num,HO3.out,Hb3.out,HB3.out⟩,meas_i hlx⟩
        ·have hx5:x=5:=is5 hx hlx
         rw[hx5] at ho2
         have hd3:=d5f hlx
         have Hb2:=Hd.mk hb2
         have Ho2:=Hd.mk ho2
         have HB2:=Hd.mk hB2
         clear hb2 ho2 hB2 hx5
         go_wp2
         exact⟨⟨y+1,hly,by go_num,Ho2.out,Hb2.out,HB2.out⟩,meas_i hly⟩
      ·have hy5:y=5:=is5 hy hly
       rw[hy5] at ho1
       have hd2:=d5f hly
       have Ho1:=Hd.mk ho1
       have HB1:=Hd.mk hB1
       clear hb1 ho1 hB1 hy5
       obtain⟨go,co,rfl⟩:=Ho1.out.slice (by rw[lanes_len,cS_len];decide)
       have hl25:(lanes (cS (bW a 25) (5*5))).length=25:=by rw[lanes_len,cS_len]
       have c0:=Ho1.out.cellAt (lanes_at (l:=cS (bW a 25) (5*5)) (j:=0) (by rw[cS_len];decide))
       have f0:=Ho1.out.freeAt (j:=0) (by rw[hl25];decide)
       have hv:Hd ((cS (bW a 25) (5*5)).set 0 (nth (cS (bW a 25) (5*5)) 0 ^^^ c)=roundS a c):=⟨round_ref hl c⟩
       have hn0:=cS_low (bW_low HL.out 25).1 (5*5) 0
       rw[hl25]
       rw[hl25] at Ho1
       obtain⟨n0,hn0'⟩:∃n,nth (cS (bW a 25) (5*5)) 0=n:=⟨_,rfl⟩
       rw[hn0'] at c0 hv hn0
       have x1:=u64x n0 c hn0 hc
       have Ho2:Hd (Own (wr.setCell ⟨go,0,none⟩ (.int .u64 ((n0 ^^^ c:Nat):Int))) (H+1) 146 (.slice (some ⟨go,0,none⟩) 25 co) (lanes (roundS a c))):=⟨by
        have:=Ho1.out.setAt (.int .u64 ((n0 ^^^ c:Nat):Int)) (j:=0)
        rw[lanes_set,hv.out] at this
        exact this⟩
       have HB2:Hd (Below w.heap.size w (wr.setCell ⟨go,0,none⟩ (.int .u64 ((n0 ^^^ c:Nat):Int)))):=⟨HB1.out.trans (((Keeps.refl (·=go) wr).setCell (p:=⟨go,0,none⟩) (.inr rfl) _).below HB1.out.size (fun k hk h=>absurd (Nat.lt_of_lt_of_le hk neg.out.2.2) (Nat.not_lt.2 (Nat.le_of_succ_le (h▸(Ho1.out.lt rfl).1)))))⟩
       clear Ho1 HB1
       go_wp2
       go_ret
       exact⟨_,rfl,Ho2.out.down (Nat.le_trans neg.out.2.2 (Nat.le_succ _)),HB2.out⟩
end Go.Proofs.YtfaepbjnpakghaaGreatDoor.W
