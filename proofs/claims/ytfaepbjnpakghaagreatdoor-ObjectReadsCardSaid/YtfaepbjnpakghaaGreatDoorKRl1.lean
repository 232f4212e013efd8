import Derived.Test.YtfaepbjnpakghaaGreatDoorKak
/- The walks of object.read at several types (printed by tools/gen_once.py). -/
namespace Go.Proofs.YtfaepbjnpakghaaGreatDoor.W
open Go.RowKit
set_option linter.unusedVariables false
set_option linter.unusedSimpArgs false
theorem repD_snoc {α:Type} (d:Rs→α × Rs) (n:Nat) (st:Rs):repD d (n+1) st=((d st).1::(repD d n (d st).2).1,(repD d n (d st).2).2):=rfl
structure LsAt {α:Type} (E:World→List Value→α→Prop) (m:Nat) (e:TypeId) (d:Rs→α × Rs) (b br bv:Nat) (w wr:World) (n0:Nat) (st0:Rs) (n:Nat) (acc:List α) (st:Rs) (v:Value):Prop where
 is:repD d n0 st0=(acc++(repD d n st).1,(repD d n st).2)
 len:acc.length+n=n0
 own:OwnS E m e w.heap.size wr v acc
 rd:OrW wr b br bv st
 keep:Keeps (Two b br) w wr
 rest:st.rest.length≤1000000000
 two:b<w.heap.size∧br<w.heap.size∧bv<w.heap.size
theorem LsAt.end_ {α:Type} {E:World→List Value→α→Prop} {m:Nat} {e:TypeId} {d:Rs→α × Rs} {b br bv:Nat} {w wr:World} {n0:Nat} {st0:Rs} {acc:List α} {st:Rs} {v:Value} (h:LsAt E m e d b br bv w wr n0 st0 0 acc st v):repD d n0 st0=(acc,st):=by
 have:=h.is
 simpa [repD] using this
theorem LsAt.next {α:Type} {E:World→List Value→α→Prop} {m:Nat} {e:TypeId} {d:Rs→α × Rs} {b br bv:Nat} {w wr w1:World} {n0:Nat} {st0:Rs} {n:Nat} {acc:List α} {st:Rs} {v:Value} {cs:List Value} {i:TypeInfo} {z:Value} {bytes:Nat} {t ty:TypeId}
 (h:LsAt E m e d b br bv w wr n0 st0 (n+1) acc st v) (hd:∀st,(d st).2.rest.length≤st.rest.length) (hr:Rdn E m b br bv wr (d st).1 (d st).2 cs w1) (hn0:n0≤1000000000)
 (ht:Tryz.prog.underlying t=some (.slice e)) (hi:Tryz.prog.info? e=some i) (hz:i.zero=some z) (hsize:i.size=m) (hby:i.bytes=bytes) (hzs:z.cells.size=m) (h0:0<m) (hb:bytes≤100000):
 ∃v' w2,(Builtin.append_ #[t,t] ty #[v, .slice (some ⟨w1.heap.size,0,none⟩) 1 1]).run Tryz.prog (w1.alloc (.cells cs.toArray e))= .ok v' w2∧LsAt E m e d b br bv w w2 n0 st0 n (acc++[(d st).1]) (d st).2 v':=by
 have hlen:=h.len
 have hs:=h.keep.size
 have hs1:=hr.keep.size
 have hown:OwnS E m e w.heap.size (w1.alloc (.cells cs.toArray e)) v acc:=(h.own.keep hr.keep (fun g _ c=>by rcases c with rfl | rfl;exact h.two.1;exact h.two.2.1)).keep ((Keeps.refl (fun _=>False) w1).alloc _) (fun _ _ c=>c.elim)
 have hE:Std (fun k=>k<w.heap.size∨v.ownBlock=some k) (fun w=>E w cs (d st).1) (w1.alloc (.cells cs.toArray e)):=hr.el.keep ((Keeps.refl (fun _=>False) w1).alloc _) (fun _ _ c=>c.elim) (fun g _ c=>by
  rcases c with c | c
  ·exact Nat.lt_of_lt_of_le c hs
  ·exact(h.own.lt c).2)
 obtain⟨v',w2,hrun,ho,hk,hd'⟩:=hown.push (P:=Tryz.prog) (t:=t) (ty:=ty) ht hi hz hsize hby hzs h0 w1.heap.size 1 cs (d st).1 ⟨e,(0,0),heap_alloc_new w1 _⟩ hr.len hr.one hE (by unfold maxLen;omega) (by
  have:(acc.length+1)*bytes≤1000000000*100000:=Nat.mul_le_mul (by omega) hb
  omega) (by show w.heap.size≤(w1.heap.push _).size;rw[Array.size_push];omega)
 have hnb:∀g,g<w.heap.size→¬v.ownBlock=some g:=fun g hg c=>by have:=(h.own.lt c).1;omega
 refine⟨v',w2,hrun,⟨?_,?_,ho,?_,?_,Nat.le_trans (hd st) h.rest,h.two⟩⟩
 ·rw[h.is,repD_snoc];simp
 ·rw[List.length_append,List.length_singleton];omega
 ·exact(hr.rd.alloc _).keep hk (hnb _ h.two.1) (hnb _ h.two.2.1) (hnb _ h.two.2.2)
 ·exact((h.keep.trans hr.keep).alloc _).new hk (fun g c=> .inr (h.own.lt c).1)
def InfoL (t m:Nat):Prop:=∃i z,Tryz.prog.info? t=some i∧i.zero=some z∧i.size=m∧i.bytes≤100000∧z.cells.size=m
theorem infoL {t m:Nat} (h:(Tryz.prog.info? t).map (fun i=>(i.size,decide (i.bytes≤100000),i.zero.map fun z=>z.cells.size))=some (m,true,some m)):InfoL t m:=by
 obtain⟨i,h1,h2⟩:=Option.map_eq_some_iff.1 h
 simp only[Prod.mk.injEq,Option.map_eq_some_iff,decide_eq_true_eq] at h2
 obtain⟨h3,h4,z,h5,h6⟩:=h2
 exact⟨i,z,h1,h5,h3,h4,h6⟩
theorem LsAt.pack {α:Type} {E:World→List Value→α→Prop} {m:Nat} {e t:TypeId} {d:Rs→α × Rs} {b br bv n0:Nat} {w w1:World} {st0:Rs} {i:TypeInfo} {z:Value} {bytes:Nat} {g:Nat} {lb:Array Value} (hp:FnR E m d b br bv g lb) (hn0:n0≤1000000000)
 (ht:Tryz.prog.underlying t=some (.slice e)) (hi:Tryz.prog.info? e=some i) (hz:i.zero=some z) (hsize:i.size=m) (hby:i.bytes=bytes) (hzs:z.cells.size=m) (h0:0<m) (hb:bytes≤100000)
 (k1:Keeps (Two b br) w w1) (h1:OrW w1 b br bv st0) (hr:st0.rest.length≤1000000000) (htwo:b<w.heap.size∧br<w.heap.size∧bv<w.heap.size):
 ∃P:Nat→List α→Rs→Value→World→Prop,P n0 [] st0 (.slice none 0 0) w1∧(∀n acc st v wr,P n acc st v wr→OrW wr b br bv st∧st.rest.length≤1000000000)∧
  (∀n acc st v wr cs w1,P (n+1) acc st v wr→Rdn E m b br bv wr (d st).1 (d st).2 cs w1→∃v' w2,(Builtin.append_ #[t,t] t #[v, .slice (some ⟨w1.heap.size,0,none⟩) 1 1]).run Tryz.prog (w1.alloc (.cells cs.toArray e))= .ok v' w2∧P n (acc++[(d st).1]) (d st).2 v' w2)∧
  (∀acc st v wr,P 0 acc st v wr→repD d n0 st0=(acc,st)∧OwnS E m e w.heap.size wr v acc∧OrW wr b br bv st∧Keeps (Two b br) w wr):=
 ⟨fun n acc st v wr=>LsAt E m e d b br bv w wr n0 st0 n acc st v,⟨by simp,by simp,OwnS.nil _,h1,k1,hr,htwo⟩,fun _ _ _ _ _ h=>⟨h.rd,h.rest⟩,fun _ _ _ _ _ _ _ h hr=>h.next hp.less hr hn0 ht hi hz hsize hby hzs h0 hb,fun _ _ _ _ h=>⟨h.end_,h.own,h.rd,h.keep⟩⟩
theorem one10 {a0 a1 a2 a3 a4 a5 a6 a7 a8 a9:Value} (h:∀u∈[a0,a1,a2,a3,a4,a5,a6,a7,a8,a9],u.oneCell'=true):a0.oneCell'=true∧a1.oneCell'=true∧a2.oneCell'=true∧a3.oneCell'=true∧a4.oneCell'=true∧a5.oneCell'=true∧a6.oneCell'=true∧a7.oneCell'=true∧a8.oneCell'=true∧a9.oneCell'=true:=by simpa using h
theorem one6 {a0 a1 a2 a3 a4 a5:Value} (h:∀u∈[a0,a1,a2,a3,a4,a5],u.oneCell'=true):a0.oneCell'=true∧a1.oneCell'=true∧a2.oneCell'=true∧a3.oneCell'=true∧a4.oneCell'=true∧a5.oneCell'=true:=by simpa using h
theorem one5 {a0 a1 a2 a3 a4:Value} (h:∀u∈[a0,a1,a2,a3,a4],u.oneCell'=true):a0.oneCell'=true∧a1.oneCell'=true∧a2.oneCell'=true∧a3.oneCell'=true∧a4.oneCell'=true:=by simpa using h
theorem one4 {a0 a1 a2 a3:Value} (h:∀u∈[a0,a1,a2,a3],u.oneCell'=true):a0.oneCell'=true∧a1.oneCell'=true∧a2.oneCell'=true∧a3.oneCell'=true:=by simpa using h
theorem one3 {a0 a1 a2:Value} (h:∀u∈[a0,a1,a2],u.oneCell'=true):a0.oneCell'=true∧a1.oneCell'=true∧a2.oneCell'=true:=by simpa using h
theorem one2 {a0 a1:Value} (h:∀u∈[a0,a1],u.oneCell'=true):a0.oneCell'=true∧a1.oneCell'=true:=by simpa using h
def RdC (F t m:Nat) {α:Type} (E:World→List Value→α→Prop):Prop:=∀ {d:Rs→α × Rs} (w:World) (b br bv:Nat) (st:Rs) (g:Nat) (lb:Array Value),OrW w b br bv st→st.rest.length≤1000000000→FnR E m d b br bv g lb→
 Calls Tryz.prog F #[.pointer (some ⟨br,0,none⟩), .func (.func g) #[] lb] w fun e w'=>∃v,e= .returned v∧OwnS E m t w.heap.size w' v (listD d st).1∧OrW w' b br bv (listD d st).2∧Keeps (Two b br) w w'
set_option maxRecDepth 100000
set_option maxHeartbeats 40000000
theorem rds:(InfoL 103 3→Tryz.prog.underlying 60=some (.slice 103)→RdC 57 103 3 Pce.E)∧
 (InfoL 47 6→Tryz.prog.underlying 22=some (.slice 47)→RdC 33 47 6 Sec.E)∧
 (InfoL 55 10→Tryz.prog.underlying 23=some (.slice 55)→RdC 37 55 10 Sym.E)∧
 (InfoL 50 5→Tryz.prog.underlying 24=some (.slice 50)→RdC 40 50 5 Rel.E)∧
 (InfoL 65 2→Tryz.prog.underlying 25=some (.slice 65)→RdC 42 65 2 Grp.E)∧
 (InfoL 84 3→Tryz.prog.underlying 26=some (.slice 84)→RdC 45 84 3 Ini.E)∧
 (InfoL 57 4→Tryz.prog.underlying 27=some (.slice 57)→RdC 47 57 4 Lne.E)∧
 (InfoL 90 6→Tryz.prog.underlying 28=some (.slice 90)→RdC 49 90 6 Inl.E)∧
 (InfoL 94 6→Tryz.prog.underlying 29=some (.slice 94)→RdC 51 94 6 Vrr.E)∧
 (InfoL 98 4→Tryz.prog.underlying 30=some (.slice 98)→RdC 53 98 4 Dep.E)∧
 (InfoL 62 4→Tryz.prog.underlying 31=some (.slice 62)→RdC 55 62 4 Cnv.E):=by
 refine⟨?_,?_,?_,?_,?_,?_,?_,?_,?_,?_,?_⟩
 all_goals
  intro hinfo hund d w b br bv st g lb h hl hp
  have c0:=h.own.at (j:=0) rfl
  have HN:=Hd.mk (oNum_any h hl)
  have hn:=num_nonneg st
  have hle:=num_len st
  have hT:listD d st=(if((numD st).2.rest.length:Int)< (numD st).1 then([],⟨(numD st).2.rest,(numD st).2.bad,true⟩) else repD d (numD st).1.toNat (numD st).2):=rfl
  have HTwo:Hd (b<w.heap.size∧br<w.heap.size∧bv<w.heap.size):=⟨⟨h.rd.blk.lt,h.own.lt,h.var.lt⟩⟩
  obtain⟨m,hm1⟩:∃m,(numD st).1=m:=⟨_,rfl⟩
  obtain⟨t,ht⟩:∃t,(numD st).2=t:=⟨_,rfl⟩
  rw[hm1] at hn
  obtain⟨n,rfl⟩:∃k:Nat,m=(k:Int):=⟨m.toNat,by omega⟩
  rw[hm1,ht] at HN hT
  rw[ht] at hle
  rw[Int.toNat_natCast] at hT
  have HL:=Hd.mk (fun w1 (h1:OrW w1 b br bv t)=>wLeft_any w1 b t h1.rd)
  have eg:∀args w,(callFunc g args).run Tryz.prog w= .ok (.enter g args) w:=hp.ent
  have HP:=Hd.mk hp
  have HU:=Hd.mk hund
  obtain⟨N,hN⟩:∃N,t.rest.length=N:=⟨_,rfl⟩
  rw[hN] at HL hT hle
  by_cases hb:(N:Int)< (n:Int)
  ·rw[if_pos hb] at hT
   have HT:=Hd.mk hT
   have t1:decide ((N:Int)< (n:Int))=true:=by simp;omega
   have t2:decide (N<n)=true:=by simp;omega
   have HW:Hd (∀w1,OrW w1 b br bv t→OrW (w1.setCell ⟨br,1,none⟩ (.bool true)) b br bv ⟨t.rest,t.bad,true⟩∧Keeps (Two b br) w1 (w1.setCell ⟨br,1,none⟩ (.bool true))):=⟨fun w1 h1=>by
    have hk:Keeps (·=br) w1 (w1.setCell ⟨br,1,none⟩ (.bool true)):=(Keeps.refl (·=br) w1).setCell (p:=⟨br,1,none⟩) (.inr rfl) _
    exact⟨⟨⟨hk.blk h1.rd.blk h1.ne1⟩,h1.own.set 1 _,hk.blk h1.var (fun e=>h1.ne3 e.symm)⟩,hk.mono (fun _ _ e=> .inr e)⟩⟩
   clear hT h hl hn hle hm1 ht hN hp hb hinfo hund
   first | go_enter Tryz.func57,Tryz.ntmps57 | go_enter Tryz.func33,Tryz.ntmps33 | go_enter Tryz.func37,Tryz.ntmps37 | go_enter Tryz.func40,Tryz.ntmps40 | go_enter Tryz.func42,Tryz.ntmps42 | go_enter Tryz.func45,Tryz.ntmps45 | go_enter Tryz.func47,Tryz.ntmps47 | go_enter Tryz.func49,Tryz.ntmps49 | go_enter Tryz.func51,Tryz.ntmps51 | go_enter Tryz.func53,Tryz.ntmps53 | go_enter Tryz.func55,Tryz.ntmps55
   go_wp2_with fail
   refine HN.out.mono ?_
   rintro e w1 ⟨rfl,h1,k1⟩
   have d0:=h1.own.at (j:=0) rfl
   have d1:=h1.own.at (j:=1) rfl
   have f1:=h1.own.free 1
   have H0:=Hd.mk h1
   have H1:=Hd.mk (HW.out w1 h1)
   have K1:=Hd.mk k1
   clear h1 k1 c0
   go_wp2_with fail
   refine(HL.out w1 H0.out).mono ?_
   rintro e w2 ⟨rfl,rfl⟩
   go_wp2
   go_ret
   rw[HT.out]
   exact⟨_,rfl,OwnS.nil _,H1.out.1,K1.out.trans H1.out.2⟩
  ·rw[if_neg hb] at hT
   have HT:=Hd.mk hT
   have t1:decide ((N:Int)< (n:Int))=false:=by simp;omega
   have t2:decide (N<n)=false:=by simp;omega
   have hn9:n≤1000000000:=by omega
   have hN9:N≤1000000000:=by omega
   have HNN:=Hd.mk (And.intro hN hN9)
   obtain⟨i0,z0,hi,hz0,hz1,hz2,hz3⟩:=hinfo
   have HI:=Hd.mk (And.intro hi (And.intro hz0 (And.intro hz1 (And.intro hz2 hz3))))
   clear hT h hl hn hle hm1 ht hN hN9 hp hb hi hz0 hz1 hz2 hz3 hund
   first | go_enter Tryz.func57,Tryz.ntmps57 | go_enter Tryz.func33,Tryz.ntmps33 | go_enter Tryz.func37,Tryz.ntmps37 | go_enter Tryz.func40,Tryz.ntmps40 | go_enter Tryz.func42,Tryz.ntmps42 | go_enter Tryz.func45,Tryz.ntmps45 | go_enter Tryz.func47,Tryz.ntmps47 | go_enter Tryz.func49,Tryz.ntmps49 | go_enter Tryz.func51,Tryz.ntmps51 | go_enter Tryz.func53,Tryz.ntmps53 | go_enter Tryz.func55,Tryz.ntmps55
   go_wp2_with fail
   refine HN.out.mono ?_
   rintro e w1 ⟨rfl,h1,k1⟩
   have d0:=h1.own.at (j:=0) rfl
   have H0:=Hd.mk h1
   have HX:=LsAt.pack HP.out hn9 HU.out HI.out.1 HI.out.2.1 HI.out.2.2.1 rfl HI.out.2.2.2.2 (by decide) HI.out.2.2.2.1 k1 h1 (by have:=HNN.out;omega) HTwo.out
   obtain⟨P,hP0,hP1,hP2,hP3⟩:=HX
   have HS:=Hd.mk hP0
   have HP1:=Hd.mk (And.intro hP1 (And.intro hP2 hP3))
   clear h1 k1 c0 hP0 hP1 hP2 hP3
   go_wp2_with fail
   refine(HL.out w1 H0.out).mono ?_
   rintro e w2 ⟨rfl,rfl⟩
   clear H0
   go_wp2
   go_loopw [6,23] (fun v i wr=>∃(k:Nat) (acc:List _) (s1:Rs),k≤n∧i= .int .i64 k∧Hd (P (n-k) acc s1 v wr)) (fun _ i _=>n-(intOf i).toNat)
   case atStart=>exact⟨0,[],t,Nat.zero_le _,rfl,HS⟩
   case round=>
    clear HS d0
    obtain⟨k,acc,s1,hkn,rfl,HA⟩:=hrel
    by_cases hlt:k<n
    ·have hd1:decide ((k:Int)< (n:Int))=true:=by simp;omega
     obtain⟨q,hq⟩:∃q,n-k=q+1:=⟨n-k-1,by omega⟩
     have hq2:n-(k+1)=q:=by omega
     rw[hq] at HA
     have HQ:=Hd.mk hq2
     have hA1:=HP1.out.1 _ _ _ _ _ HA.out
     have HC:=Hd.mk (HP.out.at_ wr s1 hA1.1 hA1.2)
     clear hq hq2 hA1
     go_wp2_with fail
     refine HC.out.mono ?_
     rintro e w2 ⟨cs,rfl,hR⟩
     obtain⟨v',w3,hr5,hs5⟩:=HP1.out.2.1 _ _ _ _ _ _ _ HA.out hR
     have hlen:=hR.len
     have hone:=hR.one
     first | (obtain⟨y0,y1,y2,y3,y4,y5,y6,y7,y8,y9,rfl⟩:=len10 hlen;obtain⟨o0,o1,o2,o3,o4,o5,o6,o7,o8,o9⟩:=one10 hone) | (obtain⟨y0,y1,y2,y3,y4,y5,rfl⟩:=len6 hlen;obtain⟨o0,o1,o2,o3,o4,o5⟩:=one6 hone) | (obtain⟨y0,y1,y2,y3,y4,rfl⟩:=len5 hlen;obtain⟨o0,o1,o2,o3,o4⟩:=one5 hone) | (obtain⟨y0,y1,y2,y3,rfl⟩:=len4 hlen;obtain⟨o0,o1,o2,o3⟩:=one4 hone) | (obtain⟨y0,y1,y2,rfl⟩:=len3 hlen;obtain⟨o0,o1,o2⟩:=one3 hone) | (obtain⟨y0,y1,rfl⟩:=len2 hlen;obtain⟨o0,o1⟩:=one2 hone)
     have HR5:=Hd.mk hr5
     have HS5:=Hd.mk hs5
     clear hr5 hs5 hR hlen hone
     go_wp2_with (at_builtin;refine wp_append_run rfl _ _ _ rfl _ _ _ rfl rfl HR5.out ?_)
     rw[←HQ.out] at HS5
     exact⟨⟨k+1,_,_,hlt,by go_num,HS5⟩,by simp[intOf];omega⟩
    ·have hd1:decide ((k:Int)< (n:Int))=false:=by simp;omega
     have hk0:n-k=0:=by omega
     rw[hk0] at HA
     have HE:=Hd.mk (HP1.out.2.2 _ _ _ _ HA.out)
     clear hk0
     go_wp2
     go_ret
     rw[HT.out,HE.out.1]
     exact⟨_,rfl,HE.out.2⟩
theorem rdPce_any:RdC 57 103 3 Pce.E:=rds.1 (infoL (by kernel_rfl)) Tryz.underlying60
theorem rdSec_any:RdC 33 47 6 Sec.E:=rds.2.1 (infoL (by kernel_rfl)) Tryz.underlying22
theorem rdSym_any:RdC 37 55 10 Sym.E:=rds.2.2.1 (infoL (by kernel_rfl)) Tryz.underlying23
theorem rdRel_any:RdC 40 50 5 Rel.E:=rds.2.2.2.1 (infoL (by kernel_rfl)) Tryz.underlying24
theorem rdGrp_any:RdC 42 65 2 Grp.E:=rds.2.2.2.2.1 (infoL (by kernel_rfl)) Tryz.underlying25
theorem rdIni_any:RdC 45 84 3 Ini.E:=rds.2.2.2.2.2.1 (infoL (by kernel_rfl)) Tryz.underlying26
theorem rdLne_any:RdC 47 57 4 Lne.E:=rds.2.2.2.2.2.2.1 (infoL (by kernel_rfl)) Tryz.underlying27
theorem rdInl_any:RdC 49 90 6 Inl.E:=rds.2.2.2.2.2.2.2.1 (infoL (by kernel_rfl)) Tryz.underlying28
theorem rdVrr_any:RdC 51 94 6 Vrr.E:=rds.2.2.2.2.2.2.2.2.1 (infoL (by kernel_rfl)) Tryz.underlying29
theorem rdDep_any:RdC 53 98 4 Dep.E:=rds.2.2.2.2.2.2.2.2.2.1 (infoL (by kernel_rfl)) Tryz.underlying30
theorem rdCnv_any:RdC 55 62 4 Cnv.E:=rds.2.2.2.2.2.2.2.2.2.2 (infoL (by kernel_rfl)) Tryz.underlying31
end Go.Proofs.YtfaepbjnpakghaaGreatDoor.W
