import Derived.Test.YtfaepbjnpakghaaGreatDoorKaf
import Derived.Test.YtfaepbjnpakghaaGreatDoorKad
/- An object's bytes and how they are read, in plain words. No program. -/
namespace Go.Proofs.YtfaepbjnpakghaaGreatDoor.W
set_option linter.unusedVariables false
structure Rs where
 rest:List UInt8
 bad:Bool
 bad2:Bool
def Rs.fail (st:Rs):Rs:=⟨[],true,st.bad2⟩
def numG:Nat→List UInt8→Option (Nat × List UInt8)
 | _,[]=>none
 | i,c::l=>
   if 10≤i then none
   else if i=9∧1<c.toNat then none
   else if c.toNat<128 then(if c.toNat=0∧0<i then none else some (c.toNat,l))
   else(numG (i+1) l).map fun p=>(c.toNat%128+128*p.1,p.2)
theorem numG_fwd:∀(f:Nat) (n:Nat) (r:List UInt8),f≤9→n<2*128 ^ f→(f=9∨n≠0)→numG (9-f) (numF f n++r)=some (n,r)
 | 0,n,r,hf,hn,h0=>by
   have h1:n<2:=by simpa using hn
   have hc:(UInt8.ofNat n).toNat=n:=by simp[UInt8.toNat_ofNat'];omega
   rw[numF,List.cons_append,List.nil_append,numG,if_neg (by omega),hc,if_neg (by omega),if_pos (by omega),if_neg (by omega)]
 | f+1,n,r,hf,hn,h0=>by
   by_cases h:n<128
   ·have hc:(UInt8.ofNat n).toNat=n:=by simp[UInt8.toNat_ofNat'];omega
    rw[numF_low _ _ h,List.cons_append,List.nil_append,numG,if_neg (by omega),hc,if_neg (by omega),if_pos h,if_neg (by omega)]
   ·have hc:(UInt8.ofNat (n%128+128)).toNat=n%128+128:=by simp[UInt8.toNat_ofNat'];omega
    have hr:=numG_fwd f (n/128) r (by omega) (by rw[Nat.pow_succ] at hn;omega) (.inr (by omega))
    rw[numF_more _ _ h,List.cons_append,numG,if_neg (by omega),hc,if_neg (by omega),if_neg (by omega),show 9-(f+1)+1=9-f by omega,hr]
    simp only[Option.map_some,Option.some.injEq,Prod.mk.injEq,and_true]
    omega
theorem numG_back:∀(l:List UInt8) (i m:Nat) (r:List UInt8),i≤9→numG i l=some (m,r)→l=numF (9-i) m++r∧m<2*128 ^(9-i)∧(0<i→m≠0)
 | [],i,m,r,hi,h=>by simp[numG] at h
 | c::l,i,m,r,hi,h=>by
   have hc:=c.toNat_lt
   rw[numG,if_neg (by omega)] at h
   by_cases h9:i=9∧1<c.toNat
   ·rw[if_pos h9] at h;cases h
   rw[if_neg h9] at h
   by_cases h1:c.toNat<128
   ·rw[if_pos h1] at h
    by_cases h2:c.toNat=0∧0<i
    ·rw[if_pos h2] at h;cases h
    rw[if_neg h2] at h
    obtain⟨rfl,rfl⟩:c.toNat=m∧l=r:=by simpa using h
    refine⟨by rw[numF_low _ _ h1];simp,?_,fun hi' e=>h2 ⟨e,hi'⟩⟩
    by_cases e:i=9
    ·subst e;simp;omega
    ·obtain⟨k,hk⟩:∃k,9-i=k+1:=⟨9-i-1,by omega⟩
     rw[hk,Nat.pow_succ]
     have:1≤128 ^ k:=Nat.one_le_pow _ _ (by decide)
     omega
   ·rw[if_neg h1] at h
    obtain⟨⟨m',r'⟩,hm,he⟩:=Option.map_eq_some_iff.1 h
    obtain⟨rfl,rfl⟩:c.toNat%128+128*m'=m∧r'=r:=by simpa using he
    have hi9:i≠9:=fun e=>h9 ⟨e,by omega⟩
    obtain⟨e1,e2,e3⟩:=numG_back l (i+1) m' r' (by omega) hm
    have e3:=e3 (by omega)
    obtain⟨k,hk⟩:∃k,9-i=k+1:=⟨9-i-1,by omega⟩
    rw[show 9-(i+1)=k by omega] at e1 e2
    rw[hk,numF_more _ _ (by omega),show(c.toNat%128+128*m')/128=m' by omega,show(c.toNat%128+128*m')%128+128=c.toNat by omega,Nat.pow_succ]
    refine⟨?_,by omega,fun _=>by omega⟩
    rw[List.cons_append,←e1];simp
def zig (x:Int):Nat:=if 0≤x then 2*x.toNat else 2*(-x-1).toNat+1
def zag (m:Nat):Int:=if m%2=0 then((m/2:Nat):Int) else -((m/2:Nat):Int) -1
theorem zag_zig (x:Int):zag (zig x)=x:=by
 unfold zig zag
 split
 ·rw[if_pos (by omega)];omega
 ·rw[if_neg (by omega)];omega
theorem zig_zag (m:Nat):zig (zag m)=m:=by
 unfold zig zag
 by_cases h:m%2=0
 ·rw[if_pos h,if_pos (by omega)];omega
 ·rw[if_neg h,if_neg (by omega)];omega
def intL (x:Int):List UInt8:=numL (zig x)
def natL (x:Int):List UInt8:=numL x.toNat
def strL (s:ByteArray):List UInt8:=textL s.data.toList
def truthI (b:Bool):Int:=if b then 1 else 0
def boolL (b:Bool):List UInt8:=natL (truthI b)
def listL {α:Type} (e:α→List UInt8) (xs:List α):List UInt8:=numL xs.length++xs.flatMap e
def numD (st:Rs):Int × Rs:=match numG 0 st.rest with
 | some p=>if p.1≤9223372036854775807 then((p.1:Int),⟨p.2,st.bad,st.bad2⟩) else(0,st.fail)
 | none=>(0,st.fail)
def intD (st:Rs):Int × Rs:=match numG 0 st.rest with
 | some p=>(zag p.1,⟨p.2,st.bad,st.bad2⟩)
 | none=>(0,st.fail)
def textD (st:Rs):ByteArray × Rs:=
 if((numD st).2.rest.length:Int)< (numD st).1 then(⟨#[]⟩,(numD st).2.fail)
 else(⟨((numD st).2.rest.take (numD st).1.toNat).toArray⟩,⟨(numD st).2.rest.drop (numD st).1.toNat,(numD st).2.bad,(numD st).2.bad2⟩)
def truthD (st:Rs):Bool × Rs:=(decide ((numD st).1=1),⟨(numD st).2.rest,(numD st).2.bad,(numD st).2.bad2 || decide (1< (numD st).1)⟩)
def repD {α:Type} (d:Rs→α × Rs):Nat→Rs→List α × Rs
 | 0,st=>([],st)
 | n+1,st=>((d st).1::(repD d n (d st).2).1,(repD d n (d st).2).2)
def listD {α:Type} (d:Rs→α × Rs) (st:Rs):List α × Rs:=
 if((numD st).2.rest.length:Int)< (numD st).1 then([],⟨(numD st).2.rest,(numD st).2.bad,true⟩)
 else repD d (numD st).1.toNat (numD st).2
def itemsD:Nat→Rs→List Int × Rs
 | 0,st=>([],st)
 | n+1,st=>if st.bad then([],st) else((intD st).1::(itemsD n (intD st).2).1,(itemsD n (intD st).2).2)
def intsD (st:Rs):List Int × Rs:=
 (if(itemsD (numD st).1.toNat (numD st).2).2.bad then [] else(itemsD (numD st).1.toNat (numD st).2).1,(itemsD (numD st).1.toNat (numD st).2).2)
def natOk (x:Int):Prop:=0≤x∧x≤9223372036854775807
def strOk (s:ByteArray):Prop:=s.size≤9223372036854775807
def anyOk {α:Type} (_:α):Prop:=True
def listOk {α:Type} (ok:α→Prop) (xs:List α):Prop:=xs.length≤9223372036854775807∧∀x∈xs,ok x
structure Cod {α:Type} (e:α→List UInt8) (ok:α→Prop) (d:Rs→α × Rs):Prop where
 pos:∀x,0< (e x).length
 fwd:∀x r b,ok x→d ⟨e x++r,false,b⟩=(x,⟨r,false,b⟩)
 back:∀st,(d st).2.bad=false→(d st).2.bad2=false→st.rest=e (d st).1++(d st).2.rest∧ok (d st).1∧st.bad=false∧st.bad2=false
theorem numL_pos (n:Nat):0< (numL n).length:=numF_pos 9 n
theorem numG_numL (n:Nat) (r:List UInt8) (h:n<18446744073709551616):numG 0 (numL n++r)=some (n,r):=
 numG_fwd 9 n r (Nat.le_refl _) (by simpa using h) (.inl rfl)
theorem numG_is {l:List UInt8} {m:Nat} {r:List UInt8} (h:numG 0 l=some (m,r)):l=numL m++r∧m<18446744073709551616:=by
 obtain⟨h1,h2,_⟩:=numG_back l 0 m r (by omega) h
 exact⟨h1,by simpa using h2⟩
theorem natCod:Cod natL natOk numD where
 pos x:=numL_pos _
 fwd x r b h:=by
  obtain⟨h0,h1⟩:=h
  unfold numD natL
  simp only[numG_numL x.toNat r (by omega)]
  rw[if_pos (by omega)]
  simp;omega
 back st h1 h2:=by
  unfold numD at h1 h2⊢
  rcases hg:numG 0 st.rest with _ | ⟨m,r⟩
  ·rw[hg] at h1;simp[Rs.fail] at h1
  ·rw[hg] at h1 h2
   dsimp only at h1 h2⊢
   by_cases hm:m≤9223372036854775807
   ·rw[if_pos hm] at h1 h2⊢
    refine⟨?_,⟨by simp,by simp;omega⟩,h1,h2⟩
    simp only[natL,Int.toNat_natCast]
    exact(numG_is hg).1
   ·rw[if_neg hm] at h1;simp[Rs.fail] at h1
theorem intCod:Cod intL I64 intD where
 pos x:=numL_pos _
 fwd x r b h:=by
  obtain⟨h0,h1⟩:=h
  unfold intD intL
  simp only[numG_numL (zig x) r (by unfold zig;split<;>omega),zag_zig]
 back st h1 h2:=by
  unfold intD at h1 h2⊢
  rcases hg:numG 0 st.rest with _ | ⟨m,r⟩
  ·rw[hg] at h1;simp[Rs.fail] at h1
  ·rw[hg] at h1 h2
   dsimp only at h1 h2⊢
   obtain⟨e1,e2⟩:=numG_is hg
   refine⟨?_,?_,h1,h2⟩
   ·simp only[intL,zig_zag];exact e1
   ·unfold zag I64;split<;>omega
theorem strCod:Cod strL strOk textD where
 pos x:=by unfold strL textL;rw[List.length_append];have:=numL_pos x.data.toList.length;omega
 fwd x r b h:=by
  have hx:x.data.toList.length=x.size:=rfl
  have hn:=natCod.fwd (x.size:Int) (x.data.toList++r) b ⟨by omega,by have:x.size≤9223372036854775807:=h;omega⟩
  have he:strL x++r=natL (x.size:Int)++(x.data.toList++r):=by
   unfold strL textL natL
   rw[Int.toNat_natCast,hx,List.append_assoc]
  unfold textD
  rw[he,hn]
  dsimp only
  rw[if_neg (by rw[List.length_append,hx];omega),Int.toNat_natCast,List.take_left' hx,List.drop_left' hx]
 back st h1 h2:=by
  unfold textD at h1 h2⊢
  obtain⟨n,s1,hd⟩:∃n s1,numD st=(n,s1):=⟨_,_,rfl⟩
  rw[hd] at h1 h2⊢
  dsimp only at h1 h2⊢
  by_cases hn:(s1.rest.length:Int)<n
  ·rw[if_pos hn] at h1;simp[Rs.fail] at h1
  ·rw[if_neg hn] at h1 h2⊢
   dsimp only at h1 h2⊢
   obtain⟨e1,e2,e3,e4⟩:=natCod.back st (by rw[hd];exact h1) (by rw[hd];exact h2)
   rw[hd] at e1 e2
   dsimp only at e1 e2
   have hl:(s1.rest.take n.toNat).length=n.toNat:=by rw[List.length_take];omega
   refine⟨?_,?_,e3,e4⟩
   ·unfold strL textL
    show st.rest=numL (s1.rest.take n.toNat).length++s1.rest.take n.toNat++s1.rest.drop n.toNat
    rw[hl,List.append_assoc,List.take_append_drop,e1];rfl
   ·show(s1.rest.take n.toNat).length≤_
    rw[hl];have:=e2.2;omega
theorem boolCod:Cod boolL anyOk truthD where
 pos x:=numL_pos _
 fwd x r b _:=by
  unfold truthD boolL
  rw[natCod.fwd (truthI x) r b (by cases x<;>simp[truthI,natOk])]
  cases x<;>simp[truthI]
 back st h1 h2:=by
  unfold truthD at h1 h2⊢
  dsimp only at h1 h2⊢
  simp only[Bool.or_eq_false_iff,decide_eq_false_iff_not] at h2
  obtain⟨e1,e2,e3,e4⟩:=natCod.back st h1 h2.1
  refine⟨?_,trivial,e3,e4⟩
  have:boolL (decide ((numD st).1=1))=natL (numD st).1:=by
   have h0:=e2.1
   by_cases e:(numD st).1=1
   ·rw[e];rfl
   ·have:(numD st).1=0:=by omega
    rw[this];rfl
  rw[this];exact e1
theorem repD_fwd {α:Type} {e:α→List UInt8} {ok:α→Prop} {d:Rs→α × Rs} (c:Cod e ok d):∀(xs:List α) (r:List UInt8) (b:Bool),(∀x∈xs,ok x)→repD d xs.length ⟨xs.flatMap e++r,false,b⟩=(xs,⟨r,false,b⟩)
 | [],r,b,_=>rfl
 | x::xs,r,b,h=>by
   rw[List.length_cons,repD,List.flatMap_cons,List.append_assoc,c.fwd x _ b (h x (by simp))]
   dsimp only
   rw[repD_fwd c xs r b (fun y hy=>h y (by simp[hy]))]
theorem repD_back {α:Type} {e:α→List UInt8} {ok:α→Prop} {d:Rs→α × Rs} (c:Cod e ok d):∀(n:Nat) (st:Rs),(repD d n st).2.bad=false→(repD d n st).2.bad2=false→
 st.rest=(repD d n st).1.flatMap e++(repD d n st).2.rest∧(∀x∈(repD d n st).1,ok x)∧(repD d n st).1.length=n∧st.bad=false∧st.bad2=false
 | 0,st,h1,h2=>⟨rfl,by simp[repD],rfl,h1,h2⟩
 | n+1,st,h1,h2=>by
   rw[repD] at h1 h2⊢
   dsimp only at h1 h2⊢
   obtain⟨a1,a2,a3,a4,a5⟩:=repD_back c n (d st).2 h1 h2
   obtain⟨b1,b2,b3,b4⟩:=c.back st a4 a5
   refine⟨?_,?_,by rw[List.length_cons,a3],b3,b4⟩
   ·rw[List.flatMap_cons,List.append_assoc,←a1];exact b1
   ·intro x hx
    rcases List.mem_cons.1 hx with rfl | hx
    ·exact b2
    ·exact a2 x hx
theorem flat_len {α:Type} {e:α→List UInt8} (hp:∀x,0< (e x).length):∀xs:List α,xs.length≤(xs.flatMap e).length
 | []=>by simp
 | x::xs=>by
   have:=flat_len hp xs
   have:=hp x
   rw[List.flatMap_cons,List.length_append,List.length_cons];omega
theorem listCod {α:Type} {e:α→List UInt8} {ok:α→Prop} {d:Rs→α × Rs} (c:Cod e ok d):Cod (listL e) (listOk ok) (listD d) where
 pos x:=by unfold listL;rw[List.length_append];have:=numL_pos x.length;omega
 fwd xs r b h:=by
  obtain⟨hl,hok⟩:=h
  have he:listL e xs++r=natL (xs.length:Int)++(xs.flatMap e++r):=by
   unfold listL natL
   rw[Int.toNat_natCast,List.append_assoc]
  have hn:=natCod.fwd (xs.length:Int) (xs.flatMap e++r) b ⟨by omega,by omega⟩
  unfold listD
  rw[he,hn]
  dsimp only
  rw[if_neg (by rw[List.length_append];have:=flat_len c.pos xs;omega),Int.toNat_natCast]
  exact repD_fwd c xs r b hok
 back st h1 h2:=by
  unfold listD at h1 h2⊢
  obtain⟨n,s1,hd⟩:∃n s1,numD st=(n,s1):=⟨_,_,rfl⟩
  rw[hd] at h1 h2⊢
  dsimp only at h1 h2⊢
  by_cases hn:(s1.rest.length:Int)<n
  ·rw[if_pos hn] at h2;simp at h2
  ·rw[if_neg hn] at h1 h2⊢
   obtain⟨a1,a2,a3,a4,a5⟩:=repD_back c n.toNat s1 h1 h2
   obtain⟨b1,b2,b3,b4⟩:=natCod.back st (by rw[hd];exact a4) (by rw[hd];exact a5)
   rw[hd] at b1 b2
   dsimp only at b1 b2
   refine⟨?_,⟨by rw[a3];have:=b2.2;omega,a2⟩,b3,b4⟩
   unfold listL
   rw[a3,List.append_assoc,←a1];exact b1
theorem itemsD_fwd:∀(xs:List Int) (r:List UInt8) (b:Bool),(∀x∈xs,I64 x)→itemsD xs.length ⟨xs.flatMap intL++r,false,b⟩=(xs,⟨r,false,b⟩)
 | [],r,b,_=>rfl
 | x::xs,r,b,h=>by
   rw[List.length_cons,itemsD,List.flatMap_cons,List.append_assoc,intCod.fwd x _ b (h x (by simp))]
   dsimp only
   rw[itemsD_fwd xs r b (fun y hy=>h y (by simp[hy]))]
   simp
theorem itemsD_back:∀(n:Nat) (st:Rs),(itemsD n st).2.bad=false→(itemsD n st).2.bad2=false→
 st.rest=(itemsD n st).1.flatMap intL++(itemsD n st).2.rest∧(∀x∈(itemsD n st).1,I64 x)∧(itemsD n st).1.length=n∧st.bad=false∧st.bad2=false
 | 0,st,h1,h2=>⟨rfl,by simp[itemsD],rfl,h1,h2⟩
 | n+1,st,h1,h2=>by
   rw[itemsD] at h1 h2⊢
   by_cases hb:st.bad=true
   ·rw[if_pos hb] at h1;rw[hb] at h1;cases h1
   rw[if_neg hb] at h1 h2⊢
   dsimp only at h1 h2⊢
   obtain⟨a1,a2,a3,a4,a5⟩:=itemsD_back n (intD st).2 h1 h2
   obtain⟨b1,b2,b3,b4⟩:=intCod.back st a4 a5
   refine⟨?_,?_,by rw[List.length_cons,a3],b3,b4⟩
   ·rw[List.flatMap_cons,List.append_assoc,←a1];exact b1
   ·intro x hx
    rcases List.mem_cons.1 hx with rfl | hx
    ·exact b2
    ·exact a2 x hx
theorem intsCod:Cod (listL intL) (listOk I64) intsD where
 pos x:=by unfold listL;rw[List.length_append];have:=numL_pos x.length;omega
 fwd xs r b h:=by
  obtain⟨hl,hok⟩:=h
  have he:listL intL xs++r=natL (xs.length:Int)++(xs.flatMap intL++r):=by
   unfold listL natL
   rw[Int.toNat_natCast,List.append_assoc]
  have hn:=natCod.fwd (xs.length:Int) (xs.flatMap intL++r) b ⟨by omega,by omega⟩
  unfold intsD
  rw[he,hn]
  dsimp only
  rw[Int.toNat_natCast,itemsD_fwd xs r b hok]
  simp
 back st h1 h2:=by
  unfold intsD at h1 h2⊢
  dsimp only at h1 h2⊢
  obtain⟨a1,a2,a3,a4,a5⟩:=itemsD_back _ _ h1 h2
  obtain⟨b1,b2,b3,b4⟩:=natCod.back st a4 a5
  rw[if_neg (by rw[h1];decide)]
  refine⟨?_,⟨by rw[a3];have:=b2.2;omega,a2⟩,b3,b4⟩
  unfold listL
  rw[a3,List.append_assoc,←a1];exact b1
theorem Cod.pair {α β:Type} {e1:α→List UInt8} {ok1:α→Prop} {d1:Rs→α × Rs} {e2:β→List UInt8} {ok2:β→Prop} {d2:Rs→β × Rs} (c1:Cod e1 ok1 d1) (c2:Cod e2 ok2 d2):
 Cod (fun p:α × β=>e1 p.1++e2 p.2) (fun p=>ok1 p.1∧ok2 p.2) (fun st=>(((d1 st).1,(d2 (d1 st).2).1),(d2 (d1 st).2).2)) where
 pos x:=by rw[List.length_append];have:=c1.pos x.1;omega
 fwd x r b h:=by
  rw[List.append_assoc,c1.fwd x.1 _ b h.1]
  dsimp only
  rw[c2.fwd x.2 r b h.2]
 back st h1 h2:=by
  dsimp only at h1 h2⊢
  obtain⟨a1,a2,a3,a4⟩:=c2.back _ h1 h2
  obtain⟨b1,b2,b3,b4⟩:=c1.back st a3 a4
  refine⟨?_,⟨b2,a2⟩,b3,b4⟩
  rw[List.append_assoc,←a1];exact b1
theorem Cod.map {α β:Type} {e:α→List UInt8} {ok:α→Prop} {d:Rs→α × Rs} (c:Cod e ok d) (f:α→β) (g:β→α) (hf:∀y,f (g y)=y) (hg:∀x,g (f x)=x):
 Cod (fun y=>e (g y)) (fun y=>ok (g y)) (fun st=>(f (d st).1,(d st).2)) where
 pos x:=c.pos _
 fwd x r b h:=by
  rw[c.fwd (g x) r b h]
  dsimp only
  rw[hf]
 back st h1 h2:=by
  dsimp only at h1 h2⊢
  rw[hg]
  exact c.back st h1 h2
end Go.Proofs.YtfaepbjnpakghaaGreatDoor.W
namespace Go.Proofs.YtfaepbjnpakghaaGreatDoor.W
open Go.RowKit
set_option linter.unusedVariables false
theorem ospan_out (w:World) (o:Ob) (x1 x2 x3 x4 x5 x6 x7 x8 x9 x10:Value) (sec a z:Int) (hA:o.At w x1 x2 x3 x4 x5 x6 x7 x8 x9 x10) (hk:o.Ok) (hin:¬(0≤sec∧sec< (o.secs.length:Int))):
 Calls Tryz.prog 177 #[.agg (o.arr x1 x2 x3 x4 x5 x6 x7 x8 x9 x10), .int .i64 sec, .int .i64 a, .int .i64 z] w fun e w'=>e= .returned (.bool (spanB o sec a z))∧Below w.heap.size w w':=by
 unfold Ob.arr
 have hI:=(fun(w1:World) (h:Below w.heap.size w w1) (kv:Value) (hr:Rw 1 intE w1 kv [0])=>ois_any w1 o x1 x2 x3 x4 x5 x6 x7 x8 x9 x10 sec kv [0] (hA.below h) hk.secs hr (by unfold lenR;decide))
 rw[is_out hin] at hI
 have HI:=Hd.mk hI
 have HS:Hd (spanB o sec a z=false):=⟨by unfold spanB;rw[is_out hin];rfl⟩
 clear hI hA hk hin
 go_enter Tryz.func177,Tryz.ntmps177
 go_wp2_with fail
 refine(HI.out _ (by go_grown) _ (rowAt w _ 0)).mono ?_
 rintro e v1 ⟨rfl,hK⟩
 have HK:=Hd.mk ((show Below w.heap.size w _ by go_grown).trans (hK.mono (by simp;omega)))
 clear hK
 go_wp2
 go_ret
 exact⟨ret_b HS.out.symm,HK.out⟩
theorem ospan_in (w:World) (o:Ob) (x1 x2 x3 x4 x5 x6 x7 x8 x9 x10:Value) (k:Nat) (a z:Int) (hA:o.At w x1 x2 x3 x4 x5 x6 x7 x8 x9 x10) (hk:o.Ok) (hk1:k<o.secs.length):
 Calls Tryz.prog 177 #[.agg (o.arr x1 x2 x3 x4 x5 x6 x7 x8 x9 x10), .int .i64 (k:Int), .int .i64 a, .int .i64 z] w fun e w'=>e= .returned (.bool (spanB o k a z))∧Below w.heap.size w w':=by
 have hS:spanB o k a z=(isB o k [0]&&decide ((0:Int)≤a)&&decide (a<z)&&decide (z≤o.secs[k].size)&&(a.tmod 8==0)&&(z.tmod 8==0)):=by
  unfold spanB
  rw[sizeAt_in hk1,mod8 a,mod8 z]
 have hc0:=(fun(w1:World) (h:Below w.heap.size w w1) (kv:Value) (hr:Rw 1 intE w1 kv [0])=>ois_any w1 o x1 x2 x3 x4 x5 x6 x7 x8 x9 x10 (k:Int) kv [0] (hA.below h) hk.secs hr (by unfold lenR;decide))
 obtain⟨q0,h0⟩:∃q,(isB o k [0])=q:=⟨_,rfl⟩
 rw[h0] at hc0 hS
 have HC0:=Hd.mk hc0
 clear hc0 h0
 obtain⟨q1,h1⟩:∃q,(decide ((0:Int)≤a))=q:=⟨_,rfl⟩
 rw[h1] at hS
 obtain⟨q2,h2⟩:∃q,(decide (a<z))=q:=⟨_,rfl⟩
 rw[h2] at hS
 obtain⟨q3,h3⟩:∃q,(decide (z≤o.secs[k].size))=q:=⟨_,rfl⟩
 rw[h3] at hS
 obtain⟨q4,h4⟩:∃q,((a.tmod 8==0))=q:=⟨_,rfl⟩
 rw[h4] at hS
 obtain⟨q5,h5⟩:∃q,((z.tmod 8==0))=q:=⟨_,rfl⟩
 rw[h5] at hS
 have HS:=Hd.mk hS
 clear hS
 unfold Ob.arr
 have hS0:=hA.secs
 obtain⟨p,c,rfl⟩:=hS0.slice
 obtain⟨g,of,cs,rfl,hg,hcl,hE,hc⟩:=hS0.at rfl (j:=k) hk1
 have hE':cs=(o.secs[k]).cells:=hE
 subst hE'
 have hz:w.cell? ⟨g,of+k*6+3,none⟩=some (.int .i64 o.secs[k].size):=hc 3 _ rfl
 have HZ:=Hd.mk hz
 have HG:=Hd.mk hg
 obtain⟨N,hN⟩:∃N,o.secs.length=N:=⟨_,rfl⟩
 have i1:(0:Int)≤(k:Int):=by omega
 have i2:(k:Int)< (N:Int):=by omega
 obtain⟨Z,hZ⟩:∃Z,o.secs[k].size=Z:=⟨_,rfl⟩
 rw[hZ] at HZ h3
 rw[hN] at HC0⊢
 clear hS0 hcl hE hc hz hg hA hk hN hZ
 rcases q0 with _ | _
 ·go_enter Tryz.func177,Tryz.ntmps177
  go_wp2_with fail
  refine(HC0.out _ (by go_grown) _ (rowAt w _ 0)).mono ?_
  rintro e v1 ⟨rfl,hK1⟩
  have e10:v1.cell? ⟨w.heap.size,0,none⟩=some (.string o.name):=(hK1.cell (p:=⟨w.heap.size,0,none⟩) (by first | (simp;done) | (simp;omega))).trans (by simp[go_sem])
  have e11:v1.cell? ⟨w.heap.size,1,none⟩=some (.slice (some ⟨g,of,none⟩) N c):=(hK1.cell (p:=⟨w.heap.size,1,none⟩) (by first | (simp;done) | (simp;omega))).trans (by simp[go_sem])
  have e12:v1.cell? ⟨w.heap.size,2,none⟩=some (x2):=(hK1.cell (p:=⟨w.heap.size,2,none⟩) (by first | (simp;done) | (simp;omega))).trans (by simp[go_sem])
  have e13:v1.cell? ⟨w.heap.size,3,none⟩=some (x3):=(hK1.cell (p:=⟨w.heap.size,3,none⟩) (by first | (simp;done) | (simp;omega))).trans (by simp[go_sem])
  have e14:v1.cell? ⟨w.heap.size,4,none⟩=some (x4):=(hK1.cell (p:=⟨w.heap.size,4,none⟩) (by first | (simp;done) | (simp;omega))).trans (by simp[go_sem])
  have e15:v1.cell? ⟨w.heap.size,5,none⟩=some (x5):=(hK1.cell (p:=⟨w.heap.size,5,none⟩) (by first | (simp;done) | (simp;omega))).trans (by simp[go_sem])
  have e16:v1.cell? ⟨w.heap.size,6,none⟩=some (x6):=(hK1.cell (p:=⟨w.heap.size,6,none⟩) (by first | (simp;done) | (simp;omega))).trans (by simp[go_sem])
  have e17:v1.cell? ⟨w.heap.size,7,none⟩=some (x7):=(hK1.cell (p:=⟨w.heap.size,7,none⟩) (by first | (simp;done) | (simp;omega))).trans (by simp[go_sem])
  have e18:v1.cell? ⟨w.heap.size,8,none⟩=some (x8):=(hK1.cell (p:=⟨w.heap.size,8,none⟩) (by first | (simp;done) | (simp;omega))).trans (by simp[go_sem])
  have e19:v1.cell? ⟨w.heap.size,9,none⟩=some (x9):=(hK1.cell (p:=⟨w.heap.size,9,none⟩) (by first | (simp;done) | (simp;omega))).trans (by simp[go_sem])
  have e110:v1.cell? ⟨w.heap.size,10,none⟩=some (x10):=(hK1.cell (p:=⟨w.heap.size,10,none⟩) (by first | (simp;done) | (simp;omega))).trans (by simp[go_sem])
  have HK1:=Hd.mk ((show Below w.heap.size w _ by go_grown).trans (hK1.mono (by first | (simp;done) | (simp;omega))))
  have HL1:Hd (w.heap.size+1≤v1.heap.size):=⟨by have:=hK1.size;simp at this;omega⟩
  clear hK1
  have z1:=(HK1.out.cell (p:=⟨g,of+k*6+3,none⟩) HG.out).trans HZ.out
  go_wp2
  go_ret
  exact⟨ret_b (by rw[HS.out]<;>simp),HK1.out⟩
 ·rcases q1 with _ | _
  ·go_enter Tryz.func177,Tryz.ntmps177
   go_wp2_with fail
   refine(HC0.out _ (by go_grown) _ (rowAt w _ 0)).mono ?_
   rintro e v1 ⟨rfl,hK1⟩
   have e10:v1.cell? ⟨w.heap.size,0,none⟩=some (.string o.name):=(hK1.cell (p:=⟨w.heap.size,0,none⟩) (by first | (simp;done) | (simp;omega))).trans (by simp[go_sem])
   have e11:v1.cell? ⟨w.heap.size,1,none⟩=some (.slice (some ⟨g,of,none⟩) N c):=(hK1.cell (p:=⟨w.heap.size,1,none⟩) (by first | (simp;done) | (simp;omega))).trans (by simp[go_sem])
   have e12:v1.cell? ⟨w.heap.size,2,none⟩=some (x2):=(hK1.cell (p:=⟨w.heap.size,2,none⟩) (by first | (simp;done) | (simp;omega))).trans (by simp[go_sem])
   have e13:v1.cell? ⟨w.heap.size,3,none⟩=some (x3):=(hK1.cell (p:=⟨w.heap.size,3,none⟩) (by first | (simp;done) | (simp;omega))).trans (by simp[go_sem])
   have e14:v1.cell? ⟨w.heap.size,4,none⟩=some (x4):=(hK1.cell (p:=⟨w.heap.size,4,none⟩) (by first | (simp;done) | (simp;omega))).trans (by simp[go_sem])
   have e15:v1.cell? ⟨w.heap.size,5,none⟩=some (x5):=(hK1.cell (p:=⟨w.heap.size,5,none⟩) (by first | (simp;done) | (simp;omega))).trans (by simp[go_sem])
   have e16:v1.cell? ⟨w.heap.size,6,none⟩=some (x6):=(hK1.cell (p:=⟨w.heap.size,6,none⟩) (by first | (simp;done) | (simp;omega))).trans (by simp[go_sem])
   have e17:v1.cell? ⟨w.heap.size,7,none⟩=some (x7):=(hK1.cell (p:=⟨w.heap.size,7,none⟩) (by first | (simp;done) | (simp;omega))).trans (by simp[go_sem])
   have e18:v1.cell? ⟨w.heap.size,8,none⟩=some (x8):=(hK1.cell (p:=⟨w.heap.size,8,none⟩) (by first | (simp;done) | (simp;omega))).trans (by simp[go_sem])
   have e19:v1.cell? ⟨w.heap.size,9,none⟩=some (x9):=(hK1.cell (p:=⟨w.heap.size,9,none⟩) (by first | (simp;done) | (simp;omega))).trans (by simp[go_sem])
   have e110:v1.cell? ⟨w.heap.size,10,none⟩=some (x10):=(hK1.cell (p:=⟨w.heap.size,10,none⟩) (by first | (simp;done) | (simp;omega))).trans (by simp[go_sem])
   have HK1:=Hd.mk ((show Below w.heap.size w _ by go_grown).trans (hK1.mono (by first | (simp;done) | (simp;omega))))
   have HL1:Hd (w.heap.size+1≤v1.heap.size):=⟨by have:=hK1.size;simp at this;omega⟩
   clear hK1
   have z1:=(HK1.out.cell (p:=⟨g,of+k*6+3,none⟩) HG.out).trans HZ.out
   go_wp2
   go_ret
   exact⟨ret_b (by rw[HS.out]<;>simp),HK1.out⟩
  ·rcases q2 with _ | _
   ·go_enter Tryz.func177,Tryz.ntmps177
    go_wp2_with fail
    refine(HC0.out _ (by go_grown) _ (rowAt w _ 0)).mono ?_
    rintro e v1 ⟨rfl,hK1⟩
    have e10:v1.cell? ⟨w.heap.size,0,none⟩=some (.string o.name):=(hK1.cell (p:=⟨w.heap.size,0,none⟩) (by first | (simp;done) | (simp;omega))).trans (by simp[go_sem])
    have e11:v1.cell? ⟨w.heap.size,1,none⟩=some (.slice (some ⟨g,of,none⟩) N c):=(hK1.cell (p:=⟨w.heap.size,1,none⟩) (by first | (simp;done) | (simp;omega))).trans (by simp[go_sem])
    have e12:v1.cell? ⟨w.heap.size,2,none⟩=some (x2):=(hK1.cell (p:=⟨w.heap.size,2,none⟩) (by first | (simp;done) | (simp;omega))).trans (by simp[go_sem])
    have e13:v1.cell? ⟨w.heap.size,3,none⟩=some (x3):=(hK1.cell (p:=⟨w.heap.size,3,none⟩) (by first | (simp;done) | (simp;omega))).trans (by simp[go_sem])
    have e14:v1.cell? ⟨w.heap.size,4,none⟩=some (x4):=(hK1.cell (p:=⟨w.heap.size,4,none⟩) (by first | (simp;done) | (simp;omega))).trans (by simp[go_sem])
    have e15:v1.cell? ⟨w.heap.size,5,none⟩=some (x5):=(hK1.cell (p:=⟨w.heap.size,5,none⟩) (by first | (simp;done) | (simp;omega))).trans (by simp[go_sem])
    have e16:v1.cell? ⟨w.heap.size,6,none⟩=some (x6):=(hK1.cell (p:=⟨w.heap.size,6,none⟩) (by first | (simp;done) | (simp;omega))).trans (by simp[go_sem])
    have e17:v1.cell? ⟨w.heap.size,7,none⟩=some (x7):=(hK1.cell (p:=⟨w.heap.size,7,none⟩) (by first | (simp;done) | (simp;omega))).trans (by simp[go_sem])
    have e18:v1.cell? ⟨w.heap.size,8,none⟩=some (x8):=(hK1.cell (p:=⟨w.heap.size,8,none⟩) (by first | (simp;done) | (simp;omega))).trans (by simp[go_sem])
    have e19:v1.cell? ⟨w.heap.size,9,none⟩=some (x9):=(hK1.cell (p:=⟨w.heap.size,9,none⟩) (by first | (simp;done) | (simp;omega))).trans (by simp[go_sem])
    have e110:v1.cell? ⟨w.heap.size,10,none⟩=some (x10):=(hK1.cell (p:=⟨w.heap.size,10,none⟩) (by first | (simp;done) | (simp;omega))).trans (by simp[go_sem])
    have HK1:=Hd.mk ((show Below w.heap.size w _ by go_grown).trans (hK1.mono (by first | (simp;done) | (simp;omega))))
    have HL1:Hd (w.heap.size+1≤v1.heap.size):=⟨by have:=hK1.size;simp at this;omega⟩
    clear hK1
    have z1:=(HK1.out.cell (p:=⟨g,of+k*6+3,none⟩) HG.out).trans HZ.out
    go_wp2
    go_ret
    exact⟨ret_b (by rw[HS.out]<;>simp),HK1.out⟩
   ·rcases q3 with _ | _
    ·go_enter Tryz.func177,Tryz.ntmps177
     go_wp2_with fail
     refine(HC0.out _ (by go_grown) _ (rowAt w _ 0)).mono ?_
     rintro e v1 ⟨rfl,hK1⟩
     have e10:v1.cell? ⟨w.heap.size,0,none⟩=some (.string o.name):=(hK1.cell (p:=⟨w.heap.size,0,none⟩) (by first | (simp;done) | (simp;omega))).trans (by simp[go_sem])
     have e11:v1.cell? ⟨w.heap.size,1,none⟩=some (.slice (some ⟨g,of,none⟩) N c):=(hK1.cell (p:=⟨w.heap.size,1,none⟩) (by first | (simp;done) | (simp;omega))).trans (by simp[go_sem])
     have e12:v1.cell? ⟨w.heap.size,2,none⟩=some (x2):=(hK1.cell (p:=⟨w.heap.size,2,none⟩) (by first | (simp;done) | (simp;omega))).trans (by simp[go_sem])
     have e13:v1.cell? ⟨w.heap.size,3,none⟩=some (x3):=(hK1.cell (p:=⟨w.heap.size,3,none⟩) (by first | (simp;done) | (simp;omega))).trans (by simp[go_sem])
     have e14:v1.cell? ⟨w.heap.size,4,none⟩=some (x4):=(hK1.cell (p:=⟨w.heap.size,4,none⟩) (by first | (simp;done) | (simp;omega))).trans (by simp[go_sem])
     have e15:v1.cell? ⟨w.heap.size,5,none⟩=some (x5):=(hK1.cell (p:=⟨w.heap.size,5,none⟩) (by first | (simp;done) | (simp;omega))).trans (by simp[go_sem])
     have e16:v1.cell? ⟨w.heap.size,6,none⟩=some (x6):=(hK1.cell (p:=⟨w.heap.size,6,none⟩) (by first | (simp;done) | (simp;omega))).trans (by simp[go_sem])
     have e17:v1.cell? ⟨w.heap.size,7,none⟩=some (x7):=(hK1.cell (p:=⟨w.heap.size,7,none⟩) (by first | (simp;done) | (simp;omega))).trans (by simp[go_sem])
     have e18:v1.cell? ⟨w.heap.size,8,none⟩=some (x8):=(hK1.cell (p:=⟨w.heap.size,8,none⟩) (by first | (simp;done) | (simp;omega))).trans (by simp[go_sem])
     have e19:v1.cell? ⟨w.heap.size,9,none⟩=some (x9):=(hK1.cell (p:=⟨w.heap.size,9,none⟩) (by first | (simp;done) | (simp;omega))).trans (by simp[go_sem])
     have e110:v1.cell? ⟨w.heap.size,10,none⟩=some (x10):=(hK1.cell (p:=⟨w.heap.size,10,none⟩) (by first | (simp;done) | (simp;omega))).trans (by simp[go_sem])
     have HK1:=Hd.mk ((show Below w.heap.size w _ by go_grown).trans (hK1.mono (by first | (simp;done) | (simp;omega))))
     have HL1:Hd (w.heap.size+1≤v1.heap.size):=⟨by have:=hK1.size;simp at this;omega⟩
     clear hK1
     have z1:=(HK1.out.cell (p:=⟨g,of+k*6+3,none⟩) HG.out).trans HZ.out
     go_wp2
     go_ret
     exact⟨ret_b (by rw[HS.out]<;>simp),HK1.out⟩
    ·rcases q4 with _ | _
     ·go_enter Tryz.func177,Tryz.ntmps177
      go_wp2_with fail
      refine(HC0.out _ (by go_grown) _ (rowAt w _ 0)).mono ?_
      rintro e v1 ⟨rfl,hK1⟩
      have e10:v1.cell? ⟨w.heap.size,0,none⟩=some (.string o.name):=(hK1.cell (p:=⟨w.heap.size,0,none⟩) (by first | (simp;done) | (simp;omega))).trans (by simp[go_sem])
      have e11:v1.cell? ⟨w.heap.size,1,none⟩=some (.slice (some ⟨g,of,none⟩) N c):=(hK1.cell (p:=⟨w.heap.size,1,none⟩) (by first | (simp;done) | (simp;omega))).trans (by simp[go_sem])
      have e12:v1.cell? ⟨w.heap.size,2,none⟩=some (x2):=(hK1.cell (p:=⟨w.heap.size,2,none⟩) (by first | (simp;done) | (simp;omega))).trans (by simp[go_sem])
      have e13:v1.cell? ⟨w.heap.size,3,none⟩=some (x3):=(hK1.cell (p:=⟨w.heap.size,3,none⟩) (by first | (simp;done) | (simp;omega))).trans (by simp[go_sem])
      have e14:v1.cell? ⟨w.heap.size,4,none⟩=some (x4):=(hK1.cell (p:=⟨w.heap.size,4,none⟩) (by first | (simp;done) | (simp;omega))).trans (by simp[go_sem])
      have e15:v1.cell? ⟨w.heap.size,5,none⟩=some (x5):=(hK1.cell (p:=⟨w.heap.size,5,none⟩) (by first | (simp;done) | (simp;omega))).trans (by simp[go_sem])
      have e16:v1.cell? ⟨w.heap.size,6,none⟩=some (x6):=(hK1.cell (p:=⟨w.heap.size,6,none⟩) (by first | (simp;done) | (simp;omega))).trans (by simp[go_sem])
      have e17:v1.cell? ⟨w.heap.size,7,none⟩=some (x7):=(hK1.cell (p:=⟨w.heap.size,7,none⟩) (by first | (simp;done) | (simp;omega))).trans (by simp[go_sem])
      have e18:v1.cell? ⟨w.heap.size,8,none⟩=some (x8):=(hK1.cell (p:=⟨w.heap.size,8,none⟩) (by first | (simp;done) | (simp;omega))).trans (by simp[go_sem])
      have e19:v1.cell? ⟨w.heap.size,9,none⟩=some (x9):=(hK1.cell (p:=⟨w.heap.size,9,none⟩) (by first | (simp;done) | (simp;omega))).trans (by simp[go_sem])
      have e110:v1.cell? ⟨w.heap.size,10,none⟩=some (x10):=(hK1.cell (p:=⟨w.heap.size,10,none⟩) (by first | (simp;done) | (simp;omega))).trans (by simp[go_sem])
      have HK1:=Hd.mk ((show Below w.heap.size w _ by go_grown).trans (hK1.mono (by first | (simp;done) | (simp;omega))))
      have HL1:Hd (w.heap.size+1≤v1.heap.size):=⟨by have:=hK1.size;simp at this;omega⟩
      clear hK1
      have z1:=(HK1.out.cell (p:=⟨g,of+k*6+3,none⟩) HG.out).trans HZ.out
      go_wp2
      go_ret
      exact⟨ret_b (by rw[HS.out]<;>simp),HK1.out⟩
     ·rcases q5 with _ | _
      ·go_enter Tryz.func177,Tryz.ntmps177
       go_wp2_with fail
       refine(HC0.out _ (by go_grown) _ (rowAt w _ 0)).mono ?_
       rintro e v1 ⟨rfl,hK1⟩
       have e10:v1.cell? ⟨w.heap.size,0,none⟩=some (.string o.name):=(hK1.cell (p:=⟨w.heap.size,0,none⟩) (by first | (simp;done) | (simp;omega))).trans (by simp[go_sem])
       have e11:v1.cell? ⟨w.heap.size,1,none⟩=some (.slice (some ⟨g,of,none⟩) N c):=(hK1.cell (p:=⟨w.heap.size,1,none⟩) (by first | (simp;done) | (simp;omega))).trans (by simp[go_sem])
       have e12:v1.cell? ⟨w.heap.size,2,none⟩=some (x2):=(hK1.cell (p:=⟨w.heap.size,2,none⟩) (by first | (simp;done) | (simp;omega))).trans (by simp[go_sem])
       have e13:v1.cell? ⟨w.heap.size,3,none⟩=some (x3):=(hK1.cell (p:=⟨w.heap.size,3,none⟩) (by first | (simp;done) | (simp;omega))).trans (by simp[go_sem])
       have e14:v1.cell? ⟨w.heap.size,4,none⟩=some (x4):=(hK1.cell (p:=⟨w.heap.size,4,none⟩) (by first | (simp;done) | (simp;omega))).trans (by simp[go_sem])
       have e15:v1.cell? ⟨w.heap.size,5,none⟩=some (x5):=(hK1.cell (p:=⟨w.heap.size,5,none⟩) (by first | (simp;done) | (simp;omega))).trans (by simp[go_sem])
       have e16:v1.cell? ⟨w.heap.size,6,none⟩=some (x6):=(hK1.cell (p:=⟨w.heap.size,6,none⟩) (by first | (simp;done) | (simp;omega))).trans (by simp[go_sem])
       have e17:v1.cell? ⟨w.heap.size,7,none⟩=some (x7):=(hK1.cell (p:=⟨w.heap.size,7,none⟩) (by first | (simp;done) | (simp;omega))).trans (by simp[go_sem])
       have e18:v1.cell? ⟨w.heap.size,8,none⟩=some (x8):=(hK1.cell (p:=⟨w.heap.size,8,none⟩) (by first | (simp;done) | (simp;omega))).trans (by simp[go_sem])
       have e19:v1.cell? ⟨w.heap.size,9,none⟩=some (x9):=(hK1.cell (p:=⟨w.heap.size,9,none⟩) (by first | (simp;done) | (simp;omega))).trans (by simp[go_sem])
       have e110:v1.cell? ⟨w.heap.size,10,none⟩=some (x10):=(hK1.cell (p:=⟨w.heap.size,10,none⟩) (by first | (simp;done) | (simp;omega))).trans (by simp[go_sem])
       have HK1:=Hd.mk ((show Below w.heap.size w _ by go_grown).trans (hK1.mono (by first | (simp;done) | (simp;omega))))
       have HL1:Hd (w.heap.size+1≤v1.heap.size):=⟨by have:=hK1.size;simp at this;omega⟩
       clear hK1
       have z1:=(HK1.out.cell (p:=⟨g,of+k*6+3,none⟩) HG.out).trans HZ.out
       go_wp2
       go_ret
       exact⟨ret_b (by rw[HS.out]<;>simp),HK1.out⟩
      ·go_enter Tryz.func177,Tryz.ntmps177
       go_wp2_with fail
       refine(HC0.out _ (by go_grown) _ (rowAt w _ 0)).mono ?_
       rintro e v1 ⟨rfl,hK1⟩
       have e10:v1.cell? ⟨w.heap.size,0,none⟩=some (.string o.name):=(hK1.cell (p:=⟨w.heap.size,0,none⟩) (by first | (simp;done) | (simp;omega))).trans (by simp[go_sem])
       have e11:v1.cell? ⟨w.heap.size,1,none⟩=some (.slice (some ⟨g,of,none⟩) N c):=(hK1.cell (p:=⟨w.heap.size,1,none⟩) (by first | (simp;done) | (simp;omega))).trans (by simp[go_sem])
       have e12:v1.cell? ⟨w.heap.size,2,none⟩=some (x2):=(hK1.cell (p:=⟨w.heap.size,2,none⟩) (by first | (simp;done) | (simp;omega))).trans (by simp[go_sem])
       have e13:v1.cell? ⟨w.heap.size,3,none⟩=some (x3):=(hK1.cell (p:=⟨w.heap.size,3,none⟩) (by first | (simp;done) | (simp;omega))).trans (by simp[go_sem])
       have e14:v1.cell? ⟨w.heap.size,4,none⟩=some (x4):=(hK1.cell (p:=⟨w.heap.size,4,none⟩) (by first | (simp;done) | (simp;omega))).trans (by simp[go_sem])
       have e15:v1.cell? ⟨w.heap.size,5,none⟩=some (x5):=(hK1.cell (p:=⟨w.heap.size,5,none⟩) (by first | (simp;done) | (simp;omega))).trans (by simp[go_sem])
       have e16:v1.cell? ⟨w.heap.size,6,none⟩=some (x6):=(hK1.cell (p:=⟨w.heap.size,6,none⟩) (by first | (simp;done) | (simp;omega))).trans (by simp[go_sem])
       have e17:v1.cell? ⟨w.heap.size,7,none⟩=some (x7):=(hK1.cell (p:=⟨w.heap.size,7,none⟩) (by first | (simp;done) | (simp;omega))).trans (by simp[go_sem])
       have e18:v1.cell? ⟨w.heap.size,8,none⟩=some (x8):=(hK1.cell (p:=⟨w.heap.size,8,none⟩) (by first | (simp;done) | (simp;omega))).trans (by simp[go_sem])
       have e19:v1.cell? ⟨w.heap.size,9,none⟩=some (x9):=(hK1.cell (p:=⟨w.heap.size,9,none⟩) (by first | (simp;done) | (simp;omega))).trans (by simp[go_sem])
       have e110:v1.cell? ⟨w.heap.size,10,none⟩=some (x10):=(hK1.cell (p:=⟨w.heap.size,10,none⟩) (by first | (simp;done) | (simp;omega))).trans (by simp[go_sem])
       have HK1:=Hd.mk ((show Below w.heap.size w _ by go_grown).trans (hK1.mono (by first | (simp;done) | (simp;omega))))
       have HL1:Hd (w.heap.size+1≤v1.heap.size):=⟨by have:=hK1.size;simp at this;omega⟩
       clear hK1
       have z1:=(HK1.out.cell (p:=⟨g,of+k*6+3,none⟩) HG.out).trans HZ.out
       go_wp2
       go_ret
       exact⟨ret_b (by rw[HS.out]<;>simp),HK1.out⟩
theorem ospan_any (w:World) (o:Ob) (x1 x2 x3 x4 x5 x6 x7 x8 x9 x10:Value) (sec a z:Int) (hA:o.At w x1 x2 x3 x4 x5 x6 x7 x8 x9 x10) (hk:o.Ok):
 Calls Tryz.prog 177 #[.agg (o.arr x1 x2 x3 x4 x5 x6 x7 x8 x9 x10), .int .i64 sec, .int .i64 a, .int .i64 z] w fun e w'=>e= .returned (.bool (spanB o sec a z))∧Below w.heap.size w w':=by
 by_cases hin:0≤sec∧sec< (o.secs.length:Int)
 ·obtain⟨k,rfl⟩:=Int.eq_ofNat_of_zero_le hin.1
  exact ospan_in w o x1 x2 x3 x4 x5 x6 x7 x8 x9 x10 k a z hA hk (by omega)
 ·exact ospan_out w o x1 x2 x3 x4 x5 x6 x7 x8 x9 x10 sec a z hA hk hin
end Go.Proofs.YtfaepbjnpakghaaGreatDoor.W
namespace Go.Proofs.YtfaepbjnpakghaaGreatDoor.W
open Go.RowKit
set_option linter.unusedVariables false
theorem oinl1_any (w:World) (o:Ob) (x1 x2 x3 x4 x5 x6 x7 x8 x9 x10:Value) (b:Nat) (hb:ObC w b o x1 x2 x3 x4 x5 x6 x7 x8 x9 x10) (hA:o.At w x1 x2 x3 x4 x5 x6 x7 x8 x9 x10) (hk:o.Ok) (x:Inl) (hx:x.Ok):
 Calls Tryz.prog 176 #[.agg #[.int .i64 x.sec, .int .i64 x.from_, .int .i64 x.to_, .string x.name, .string x.file, .int .i64 x.line], .pointer (some ⟨b,0,none⟩)] w fun e w'=>e= .returned (.bool (inlB o x))∧Below w.heap.size w w':=by
 have hS:inlB o x=(spanB o x.sec x.from_ x.to_&&nameB x.name&&fileB x.file&&decide ((1:Int)≤x.line)&&decide (x.line≤1048576)):=by
  unfold inlB lineR;simp only[Bool.and_assoc]
 have hc0:=(fun(w1:World) (h:Below w.heap.size w w1)=>ospan_any w1 o x1 x2 x3 x4 x5 x6 x7 x8 x9 x10 x.sec x.from_ x.to_ (hA.below h) hk)
 have hc1:=(fun w=>oname_any x.name w hx.name)
 have hc2:=(fun w=>ofile_any x.file w hx.file)
 obtain⟨q0,h0⟩:∃q,(spanB o x.sec x.from_ x.to_)=q:=⟨_,rfl⟩
 rw[h0] at hc0 hS
 have HC0:=Hd.mk hc0
 have HQ0:=Hd.mk h0
 clear hc0 h0
 obtain⟨q1,h1⟩:∃q,(nameB x.name)=q:=⟨_,rfl⟩
 rw[h1] at hc1 hS
 have HC1:=Hd.mk hc1
 have HQ1:=Hd.mk h1
 clear hc1 h1
 obtain⟨q2,h2⟩:∃q,(fileB x.file)=q:=⟨_,rfl⟩
 rw[h2] at hc2 hS
 have HC2:=Hd.mk hc2
 have HQ2:=Hd.mk h2
 clear hc2 h2
 obtain⟨q3,h3⟩:∃q,(decide ((1:Int)≤x.line))=q:=⟨_,rfl⟩
 rw[h3] at hS
 obtain⟨q4,h4⟩:∃q,(decide (x.line≤1048576))=q:=⟨_,rfl⟩
 rw[h4] at hS
 have HS:=Hd.mk hS
 clear hS
 obtain⟨c0,c1,c2,c3,c4,c5,c6,c7,c8,c9,c10⟩:=hb.alloc (.cells #[.int .i64 x.sec, .int .i64 x.from_, .int .i64 x.to_, .string x.name, .string x.file, .int .i64 x.line] 90)
 go_enter Tryz.func176,Tryz.ntmps176
 go_wp2_with fail
 refine(HC0.out _ (by go_grown)).mono ?_
 rintro e v1 ⟨rfl,hK⟩
 have HX1:Hd (CellsAt w.heap.size [.int .i64 x.sec, .int .i64 x.from_, .int .i64 x.to_, .string x.name, .string x.file, .int .i64 x.line] v1):=⟨(CellsAt.new w [.int .i64 x.sec, .int .i64 x.from_, .int .i64 x.to_, .string x.name, .string x.file, .int .i64 x.line] 90).below hK⟩
 obtain⟨e0,e1,e2,e3,e4,e5⟩:=cells6 HX1.out
 have HK1:=Hd.mk ((show Below w.heap.size w _ by go_grown).trans (hK.mono (by first | (simp;done) | (simp;omega))))
 clear hK
 rcases q0 with _ | _
 ·go_wp2
  go_ret
  exact⟨ret_b (by rw[HS.out]<;>simp),HK1.out⟩
 go_wp2_with fail
 refine(HC1.out _).mono ?_
 rintro e w' ⟨rfl,rfl⟩
 rcases q1 with _ | _
 ·go_wp2
  go_ret
  exact⟨ret_b (by rw[HS.out]<;>simp),HK1.out⟩
 go_wp2_with fail
 refine(HC2.out _).mono ?_
 rintro e w' ⟨rfl,rfl⟩
 rcases q2 with _ | _
 ·go_wp2
  go_ret
  exact⟨ret_b (by rw[HS.out]<;>simp),HK1.out⟩
 rcases q3 with _ | _
 ·go_wp2
  go_ret
  exact⟨ret_b (by rw[HS.out]<;>simp),HK1.out⟩
 rcases q4 with _ | _
 ·go_wp2
  go_ret
  exact⟨ret_b (by rw[HS.out]<;>simp),HK1.out⟩
 go_wp2
 go_ret
 exact⟨ret_b (by rw[HS.out]<;>simp),HK1.out⟩
theorem oini1_any (w:World) (o:Ob) (x1 x2 x3 x4 x5 x6 x7 x8 x9 x10:Value) (b:Nat) (hb:ObC w b o x1 x2 x3 x4 x5 x6 x7 x8 x9 x10) (hA:o.At w x1 x2 x3 x4 x5 x6 x7 x8 x9 x10) (hk:o.Ok) (x:Ini) (hx:x.Ok):
 Calls Tryz.prog 168 #[.agg #[.int .i64 x.sym, .int .i64 x.order, .bool x.last], .pointer (some ⟨b,0,none⟩)] w fun e w'=>e= .returned (.bool (iniB o x))∧Below w.heap.size w w':=by
 have hS:iniB o x=(symKB o x.sym 0&&decide ((-1048576:Int)≤x.order)&&decide (x.order≤1048576)):=by
  rfl
 have hc0:=(fun(w1:World) (h:Below w.heap.size w w1)=>osym_any w1 o x1 x2 x3 x4 x5 x6 x7 x8 x9 x10 x.sym 0 (hA.below h) hk.syms)
 obtain⟨q0,h0⟩:∃q,(symKB o x.sym 0)=q:=⟨_,rfl⟩
 rw[h0] at hc0 hS
 have HC0:=Hd.mk hc0
 have HQ0:=Hd.mk h0
 clear hc0 h0
 obtain⟨q1,h1⟩:∃q,(decide ((-1048576:Int)≤x.order))=q:=⟨_,rfl⟩
 rw[h1] at hS
 obtain⟨q2,h2⟩:∃q,(decide (x.order≤1048576))=q:=⟨_,rfl⟩
 rw[h2] at hS
 have HS:=Hd.mk hS
 clear hS
 obtain⟨c0,c1,c2,c3,c4,c5,c6,c7,c8,c9,c10⟩:=hb.alloc (.cells #[.int .i64 x.sym, .int .i64 x.order, .bool x.last] 84)
 go_enter Tryz.func168,Tryz.ntmps168
 go_wp2_with fail
 refine(HC0.out _ (by go_grown)).mono ?_
 rintro e v1 ⟨rfl,hK⟩
 have HX1:Hd (CellsAt w.heap.size [.int .i64 x.sym, .int .i64 x.order, .bool x.last] v1):=⟨(CellsAt.new w [.int .i64 x.sym, .int .i64 x.order, .bool x.last] 84).below hK⟩
 obtain⟨e0,e1,e2⟩:=cells3 HX1.out
 have HK1:=Hd.mk ((show Below w.heap.size w _ by go_grown).trans (hK.mono (by first | (simp;done) | (simp;omega))))
 clear hK
 rcases q0 with _ | _
 ·go_wp2
  go_ret
  exact⟨ret_b (by rw[HS.out]<;>simp),HK1.out⟩
 rcases q1 with _ | _
 ·go_wp2
  go_ret
  exact⟨ret_b (by rw[HS.out]<;>simp),HK1.out⟩
 rcases q2 with _ | _
 ·go_wp2
  go_ret
  exact⟨ret_b (by rw[HS.out]<;>simp),HK1.out⟩
 go_wp2
 go_ret
 exact⟨ret_b (by rw[HS.out]<;>simp),HK1.out⟩
theorem odep1_any (w:World) (o:Ob) (x1 x2 x3 x4 x5 x6 x7 x8 x9 x10:Value) (b:Nat) (hb:ObC w b o x1 x2 x3 x4 x5 x6 x7 x8 x9 x10) (hA:o.At w x1 x2 x3 x4 x5 x6 x7 x8 x9 x10) (hk:o.Ok) (x:Dep) (hx:x.Ok):
 Calls Tryz.prog 185 #[.agg #[.int .i64 x.sec, .int .i64 x.from_, .int .i64 x.to_, .int .i64 x.bytes], .pointer (some ⟨b,0,none⟩)] w fun e w'=>e= .returned (.bool (depB o x))∧Below w.heap.size w w':=by
 have hS:depB o x=(spanB o x.sec x.from_ x.to_&&inB x.bytes 1024&&(x.bytes.tmod 8==0)):=by
  unfold depB;rw[mod8]
 have hc0:=(fun(w1:World) (h:Below w.heap.size w w1)=>ospan_any w1 o x1 x2 x3 x4 x5 x6 x7 x8 x9 x10 x.sec x.from_ x.to_ (hA.below h) hk)
 have hc1:=(fun w=>owithinB x.bytes 1024 w)
 obtain⟨q0,h0⟩:∃q,(spanB o x.sec x.from_ x.to_)=q:=⟨_,rfl⟩
 rw[h0] at hc0 hS
 have HC0:=Hd.mk hc0
 have HQ0:=Hd.mk h0
 clear hc0 h0
 obtain⟨q1,h1⟩:∃q,(inB x.bytes 1024)=q:=⟨_,rfl⟩
 rw[h1] at hc1 hS
 have HC1:=Hd.mk hc1
 have HQ1:=Hd.mk h1
 clear hc1 h1
 obtain⟨q2,h2⟩:∃q,((x.bytes.tmod 8==0))=q:=⟨_,rfl⟩
 rw[h2] at hS
 have HS:=Hd.mk hS
 clear hS
 obtain⟨c0,c1,c2,c3,c4,c5,c6,c7,c8,c9,c10⟩:=hb.alloc (.cells #[.int .i64 x.sec, .int .i64 x.from_, .int .i64 x.to_, .int .i64 x.bytes] 98)
 go_enter Tryz.func185,Tryz.ntmps185
 go_wp2_with fail
 refine(HC0.out _ (by go_grown)).mono ?_
 rintro e v1 ⟨rfl,hK⟩
 have HX1:Hd (CellsAt w.heap.size [.int .i64 x.sec, .int .i64 x.from_, .int .i64 x.to_, .int .i64 x.bytes] v1):=⟨(CellsAt.new w [.int .i64 x.sec, .int .i64 x.from_, .int .i64 x.to_, .int .i64 x.bytes] 98).below hK⟩
 obtain⟨e0,e1,e2,e3⟩:=cells4 HX1.out
 have HK1:=Hd.mk ((show Below w.heap.size w _ by go_grown).trans (hK.mono (by first | (simp;done) | (simp;omega))))
 clear hK
 rcases q0 with _ | _
 ·go_wp2
  go_ret
  exact⟨ret_b (by rw[HS.out]<;>simp),HK1.out⟩
 go_wp2_with fail
 refine(HC1.out _).mono ?_
 rintro e w' ⟨rfl,rfl⟩
 rcases q1 with _ | _
 ·go_wp2
  go_ret
  exact⟨ret_b (by rw[HS.out]<;>simp),HK1.out⟩
 rcases q2 with _ | _
 ·go_wp2
  go_ret
  exact⟨ret_b (by rw[HS.out]<;>simp),HK1.out⟩
 go_wp2
 go_ret
 exact⟨ret_b (by rw[HS.out]<;>simp),HK1.out⟩
end Go.Proofs.YtfaepbjnpakghaaGreatDoor.W
namespace Go.Proofs.YtfaepbjnpakghaaGreatDoor.W
open Go.RowKit
set_option linter.unusedVariables false
theorem ovar1_w0 (w:World) (o:Ob) (x1 x2 x3 x4 x5 x6 x7 x8 x9 x10:Value) (b:Nat) (hb:ObC w b o x1 x2 x3 x4 x5 x6 x7 x8 x9 x10) (hA:o.At w x1 x2 x3 x4 x5 x6 x7 x8 x9 x10) (hk:o.Ok) (x:Vrr) (hx:x.Ok) (e0:(x.where_==0)=true) (e1:(x.where_==1)=false) (e2:(x.where_==2)=false):
 Calls Tryz.prog 180 #[.agg #[.int .i64 x.sec, .int .i64 x.from_, .int .i64 x.to_, .string x.name, .int .i64 x.where_, .int .i64 x.n], .pointer (some ⟨b,0,none⟩)] w fun e w'=>e= .returned (.bool (vrrB o x))∧Below w.heap.size w w':=by
 have hS:vrrB o x=(spanB o x.sec x.from_ x.to_&&nameB x.name&&inB x.n 16):=by
  have e0:=eq_of_beq e0
  have e1:=ne_of_beq_false e1
  have e2:=ne_of_beq_false e2
  unfold vrrB whereB;rw[if_pos e0]
 have hc0:=(fun(w1:World) (h:Below w.heap.size w w1)=>ospan_any w1 o x1 x2 x3 x4 x5 x6 x7 x8 x9 x10 x.sec x.from_ x.to_ (hA.below h) hk)
 have hc1:=(fun w=>oname_any x.name w hx.name)
 have hc2:=(fun w=>owithinB x.n 16 w)
 obtain⟨q0,h0⟩:∃q,(spanB o x.sec x.from_ x.to_)=q:=⟨_,rfl⟩
 rw[h0] at hc0 hS
 have HC0:=Hd.mk hc0
 have HQ0:=Hd.mk h0
 clear hc0 h0
 obtain⟨q1,h1⟩:∃q,(nameB x.name)=q:=⟨_,rfl⟩
 rw[h1] at hc1 hS
 have HC1:=Hd.mk hc1
 have HQ1:=Hd.mk h1
 clear hc1 h1
 obtain⟨q2,h2⟩:∃q,(inB x.n 16)=q:=⟨_,rfl⟩
 rw[h2] at hc2 hS
 have HC2:=Hd.mk hc2
 have HQ2:=Hd.mk h2
 clear hc2 h2
 have HS:=Hd.mk hS
 clear hS
 have HB:=Hd.mk hb
 obtain⟨c0,c1,c2,c3,c4,c5,c6,c7,c8,c9,c10⟩:=hb.alloc (.cells #[.int .i64 x.sec, .int .i64 x.from_, .int .i64 x.to_, .string x.name, .int .i64 x.where_, .int .i64 x.n] 94)
 go_enter Tryz.func180,Tryz.ntmps180
 go_wp2_with fail
 refine(HC0.out _ (by go_grown)).mono ?_
 rintro e v1 ⟨rfl,hK⟩
 have HX1:Hd (CellsAt w.heap.size [.int .i64 x.sec, .int .i64 x.from_, .int .i64 x.to_, .string x.name, .int .i64 x.where_, .int .i64 x.n] v1):=⟨(CellsAt.new w [.int .i64 x.sec, .int .i64 x.from_, .int .i64 x.to_, .string x.name, .int .i64 x.where_, .int .i64 x.n] 94).below hK⟩
 obtain⟨e0,e1,e2,e3,e4,e5⟩:=cells6 HX1.out
 have HK1:=Hd.mk ((show Below w.heap.size w _ by go_grown).trans (hK.mono (by first | (simp;done) | (simp;omega))))
 clear hK
 obtain⟨g10,g11,g12,g13,g14,g15,g16,g17,g18,g19,g110⟩:=HB.out.below HK1.out
 rcases q0 with _ | _
 ·go_wp2
  go_ret
  exact⟨ret_b (by rw[HS.out]<;>simp),HK1.out⟩
 go_wp2_with fail
 refine(HC1.out _).mono ?_
 rintro e w' ⟨rfl,rfl⟩
 rcases q1 with _ | _
 ·go_wp2
  go_ret
  exact⟨ret_b (by rw[HS.out]<;>simp),HK1.out⟩
 go_wp2_with fail
 refine(HC2.out _).mono ?_
 rintro e w' ⟨rfl,rfl⟩
 rcases q2 with _ | _
 ·go_wp2
  go_ret
  exact⟨ret_b (by rw[HS.out]<;>simp),HK1.out⟩
 go_wp2
 go_ret
 exact⟨ret_b (by rw[HS.out]<;>simp),HK1.out⟩
theorem ovar1_w1 (w:World) (o:Ob) (x1 x2 x3 x4 x5 x6 x7 x8 x9 x10:Value) (b:Nat) (hb:ObC w b o x1 x2 x3 x4 x5 x6 x7 x8 x9 x10) (hA:o.At w x1 x2 x3 x4 x5 x6 x7 x8 x9 x10) (hk:o.Ok) (x:Vrr) (hx:x.Ok) (e0:(x.where_==0)=false) (e1:(x.where_==1)=true) (e2:(x.where_==2)=false):
 Calls Tryz.prog 180 #[.agg #[.int .i64 x.sec, .int .i64 x.from_, .int .i64 x.to_, .string x.name, .int .i64 x.where_, .int .i64 x.n], .pointer (some ⟨b,0,none⟩)] w fun e w'=>e= .returned (.bool (vrrB o x))∧Below w.heap.size w w':=by
 have hS:vrrB o x=(spanB o x.sec x.from_ x.to_&&nameB x.name&&inB x.n 1024&&(x.n.tmod 8==0)):=by
  have e0:=ne_of_beq_false e0
  have e1:=eq_of_beq e1
  have e2:=ne_of_beq_false e2
  unfold vrrB whereB;rw[if_neg e0,if_pos e1,mod8,Bool.and_assoc,Bool.and_assoc,Bool.and_assoc]
 have hc0:=(fun(w1:World) (h:Below w.heap.size w w1)=>ospan_any w1 o x1 x2 x3 x4 x5 x6 x7 x8 x9 x10 x.sec x.from_ x.to_ (hA.below h) hk)
 have hc1:=(fun w=>oname_any x.name w hx.name)
 have hc2:=(fun w=>owithinB x.n 1024 w)
 obtain⟨q0,h0⟩:∃q,(spanB o x.sec x.from_ x.to_)=q:=⟨_,rfl⟩
 rw[h0] at hc0 hS
 have HC0:=Hd.mk hc0
 have HQ0:=Hd.mk h0
 clear hc0 h0
 obtain⟨q1,h1⟩:∃q,(nameB x.name)=q:=⟨_,rfl⟩
 rw[h1] at hc1 hS
 have HC1:=Hd.mk hc1
 have HQ1:=Hd.mk h1
 clear hc1 h1
 obtain⟨q2,h2⟩:∃q,(inB x.n 1024)=q:=⟨_,rfl⟩
 rw[h2] at hc2 hS
 have HC2:=Hd.mk hc2
 have HQ2:=Hd.mk h2
 clear hc2 h2
 obtain⟨q3,h3⟩:∃q,((x.n.tmod 8==0))=q:=⟨_,rfl⟩
 rw[h3] at hS
 have HS:=Hd.mk hS
 clear hS
 have HB:=Hd.mk hb
 obtain⟨c0,c1,c2,c3,c4,c5,c6,c7,c8,c9,c10⟩:=hb.alloc (.cells #[.int .i64 x.sec, .int .i64 x.from_, .int .i64 x.to_, .string x.name, .int .i64 x.where_, .int .i64 x.n] 94)
 go_enter Tryz.func180,Tryz.ntmps180
 go_wp2_with fail
 refine(HC0.out _ (by go_grown)).mono ?_
 rintro e v1 ⟨rfl,hK⟩
 have HX1:Hd (CellsAt w.heap.size [.int .i64 x.sec, .int .i64 x.from_, .int .i64 x.to_, .string x.name, .int .i64 x.where_, .int .i64 x.n] v1):=⟨(CellsAt.new w [.int .i64 x.sec, .int .i64 x.from_, .int .i64 x.to_, .string x.name, .int .i64 x.where_, .int .i64 x.n] 94).below hK⟩
 obtain⟨e0,e1,e2,e3,e4,e5⟩:=cells6 HX1.out
 have HK1:=Hd.mk ((show Below w.heap.size w _ by go_grown).trans (hK.mono (by first | (simp;done) | (simp;omega))))
 clear hK
 obtain⟨g10,g11,g12,g13,g14,g15,g16,g17,g18,g19,g110⟩:=HB.out.below HK1.out
 rcases q0 with _ | _
 ·go_wp2
  go_ret
  exact⟨ret_b (by rw[HS.out]<;>simp),HK1.out⟩
 go_wp2_with fail
 refine(HC1.out _).mono ?_
 rintro e w' ⟨rfl,rfl⟩
 rcases q1 with _ | _
 ·go_wp2
  go_ret
  exact⟨ret_b (by rw[HS.out]<;>simp),HK1.out⟩
 go_wp2_with fail
 refine(HC2.out _).mono ?_
 rintro e w' ⟨rfl,rfl⟩
 rcases q2 with _ | _
 ·go_wp2
  go_ret
  exact⟨ret_b (by rw[HS.out]<;>simp),HK1.out⟩
 rcases q3 with _ | _
 ·go_wp2
  go_ret
  exact⟨ret_b (by rw[HS.out]<;>simp),HK1.out⟩
 go_wp2
 go_ret
 exact⟨ret_b (by rw[HS.out]<;>simp),HK1.out⟩
theorem ovar1_w2 (w:World) (o:Ob) (x1 x2 x3 x4 x5 x6 x7 x8 x9 x10:Value) (b:Nat) (hb:ObC w b o x1 x2 x3 x4 x5 x6 x7 x8 x9 x10) (hA:o.At w x1 x2 x3 x4 x5 x6 x7 x8 x9 x10) (hk:o.Ok) (x:Vrr) (hx:x.Ok) (e0:(x.where_==0)=false) (e1:(x.where_==1)=false) (e2:(x.where_==2)=true):
 Calls Tryz.prog 180 #[.agg #[.int .i64 x.sec, .int .i64 x.from_, .int .i64 x.to_, .string x.name, .int .i64 x.where_, .int .i64 x.n], .pointer (some ⟨b,0,none⟩)] w fun e w'=>e= .returned (.bool (vrrB o x))∧Below w.heap.size w w':=by
 have hS:vrrB o x=(spanB o x.sec x.from_ x.to_&&nameB x.name&&symKB o x.n 1):=by
  have e0:=ne_of_beq_false e0
  have e1:=ne_of_beq_false e1
  have e2:=eq_of_beq e2
  unfold vrrB whereB;rw[if_neg e0,if_neg e1,if_pos e2]
 have hc0:=(fun(w1:World) (h:Below w.heap.size w w1)=>ospan_any w1 o x1 x2 x3 x4 x5 x6 x7 x8 x9 x10 x.sec x.from_ x.to_ (hA.below h) hk)
 have hc1:=(fun w=>oname_any x.name w hx.name)
 have hc2:=(fun(w1:World) (h:Below w.heap.size w w1)=>osym_any w1 o x1 x2 x3 x4 x5 x6 x7 x8 x9 x10 x.n 1 (hA.below h) hk.syms)
 obtain⟨q0,h0⟩:∃q,(spanB o x.sec x.from_ x.to_)=q:=⟨_,rfl⟩
 rw[h0] at hc0 hS
 have HC0:=Hd.mk hc0
 have HQ0:=Hd.mk h0
 clear hc0 h0
 obtain⟨q1,h1⟩:∃q,(nameB x.name)=q:=⟨_,rfl⟩
 rw[h1] at hc1 hS
 have HC1:=Hd.mk hc1
 have HQ1:=Hd.mk h1
 clear hc1 h1
 obtain⟨q2,h2⟩:∃q,(symKB o x.n 1)=q:=⟨_,rfl⟩
 rw[h2] at hc2 hS
 have HC2:=Hd.mk hc2
 have HQ2:=Hd.mk h2
 clear hc2 h2
 have HS:=Hd.mk hS
 clear hS
 have HB:=Hd.mk hb
 obtain⟨c0,c1,c2,c3,c4,c5,c6,c7,c8,c9,c10⟩:=hb.alloc (.cells #[.int .i64 x.sec, .int .i64 x.from_, .int .i64 x.to_, .string x.name, .int .i64 x.where_, .int .i64 x.n] 94)
 go_enter Tryz.func180,Tryz.ntmps180
 go_wp2_with fail
 refine(HC0.out _ (by go_grown)).mono ?_
 rintro e v1 ⟨rfl,hK⟩
 have HX1:Hd (CellsAt w.heap.size [.int .i64 x.sec, .int .i64 x.from_, .int .i64 x.to_, .string x.name, .int .i64 x.where_, .int .i64 x.n] v1):=⟨(CellsAt.new w [.int .i64 x.sec, .int .i64 x.from_, .int .i64 x.to_, .string x.name, .int .i64 x.where_, .int .i64 x.n] 94).below hK⟩
 obtain⟨e0,e1,e2,e3,e4,e5⟩:=cells6 HX1.out
 have HK1:=Hd.mk ((show Below w.heap.size w _ by go_grown).trans (hK.mono (by first | (simp;done) | (simp;omega))))
 clear hK
 obtain⟨g10,g11,g12,g13,g14,g15,g16,g17,g18,g19,g110⟩:=HB.out.below HK1.out
 rcases q0 with _ | _
 ·go_wp2
  go_ret
  exact⟨ret_b (by rw[HS.out]<;>simp),HK1.out⟩
 go_wp2_with fail
 refine(HC1.out _).mono ?_
 rintro e w' ⟨rfl,rfl⟩
 rcases q1 with _ | _
 ·go_wp2
  go_ret
  exact⟨ret_b (by rw[HS.out]<;>simp),HK1.out⟩
 go_wp2_with fail
 refine(HC2.out _ HK1.out).mono ?_
 rintro e v2 ⟨rfl,hK⟩
 have HX2:Hd (CellsAt w.heap.size [.int .i64 x.sec, .int .i64 x.from_, .int .i64 x.to_, .string x.name, .int .i64 x.where_, .int .i64 x.n] v2):=⟨HX1.out.below hK⟩
 clear e0 e1 e2 e3 e4 e5
 obtain⟨e0,e1,e2,e3,e4,e5⟩:=cells6 HX2.out
 have HK2:=Hd.mk (HK1.out.trans (hK.mono HK1.out.size))
 clear hK
 obtain⟨g20,g21,g22,g23,g24,g25,g26,g27,g28,g29,g210⟩:=HB.out.below HK2.out
 rcases q2 with _ | _
 ·go_wp2
  go_ret
  exact⟨ret_b (by rw[HS.out]<;>simp),HK2.out⟩
 go_wp2
 go_ret
 exact⟨ret_b (by rw[HS.out]<;>simp),HK2.out⟩
theorem ovar1_wo (w:World) (o:Ob) (x1 x2 x3 x4 x5 x6 x7 x8 x9 x10:Value) (b:Nat) (hb:ObC w b o x1 x2 x3 x4 x5 x6 x7 x8 x9 x10) (hA:o.At w x1 x2 x3 x4 x5 x6 x7 x8 x9 x10) (hk:o.Ok) (x:Vrr) (hx:x.Ok) (e0:(x.where_==0)=false) (e1:(x.where_==1)=false) (e2:(x.where_==2)=false):
 Calls Tryz.prog 180 #[.agg #[.int .i64 x.sec, .int .i64 x.from_, .int .i64 x.to_, .string x.name, .int .i64 x.where_, .int .i64 x.n], .pointer (some ⟨b,0,none⟩)] w fun e w'=>e= .returned (.bool (vrrB o x))∧Below w.heap.size w w':=by
 have hS:vrrB o x=(spanB o x.sec x.from_ x.to_&&nameB x.name&&false):=by
  have e0:=ne_of_beq_false e0
  have e1:=ne_of_beq_false e1
  have e2:=ne_of_beq_false e2
  unfold vrrB whereB;rw[if_neg e0,if_neg e1,if_neg e2]
 have hc0:=(fun(w1:World) (h:Below w.heap.size w w1)=>ospan_any w1 o x1 x2 x3 x4 x5 x6 x7 x8 x9 x10 x.sec x.from_ x.to_ (hA.below h) hk)
 have hc1:=(fun w=>oname_any x.name w hx.name)
 obtain⟨q0,h0⟩:∃q,(spanB o x.sec x.from_ x.to_)=q:=⟨_,rfl⟩
 rw[h0] at hc0 hS
 have HC0:=Hd.mk hc0
 have HQ0:=Hd.mk h0
 clear hc0 h0
 obtain⟨q1,h1⟩:∃q,(nameB x.name)=q:=⟨_,rfl⟩
 rw[h1] at hc1 hS
 have HC1:=Hd.mk hc1
 have HQ1:=Hd.mk h1
 clear hc1 h1
 have HS:=Hd.mk hS
 clear hS
 have HB:=Hd.mk hb
 obtain⟨c0,c1,c2,c3,c4,c5,c6,c7,c8,c9,c10⟩:=hb.alloc (.cells #[.int .i64 x.sec, .int .i64 x.from_, .int .i64 x.to_, .string x.name, .int .i64 x.where_, .int .i64 x.n] 94)
 go_enter Tryz.func180,Tryz.ntmps180
 go_wp2_with fail
 refine(HC0.out _ (by go_grown)).mono ?_
 rintro e v1 ⟨rfl,hK⟩
 have HX1:Hd (CellsAt w.heap.size [.int .i64 x.sec, .int .i64 x.from_, .int .i64 x.to_, .string x.name, .int .i64 x.where_, .int .i64 x.n] v1):=⟨(CellsAt.new w [.int .i64 x.sec, .int .i64 x.from_, .int .i64 x.to_, .string x.name, .int .i64 x.where_, .int .i64 x.n] 94).below hK⟩
 obtain⟨e0,e1,e2,e3,e4,e5⟩:=cells6 HX1.out
 have HK1:=Hd.mk ((show Below w.heap.size w _ by go_grown).trans (hK.mono (by first | (simp;done) | (simp;omega))))
 clear hK
 obtain⟨g10,g11,g12,g13,g14,g15,g16,g17,g18,g19,g110⟩:=HB.out.below HK1.out
 rcases q0 with _ | _
 ·go_wp2
  go_ret
  exact⟨ret_b (by rw[HS.out]<;>simp),HK1.out⟩
 go_wp2_with fail
 refine(HC1.out _).mono ?_
 rintro e w' ⟨rfl,rfl⟩
 rcases q1 with _ | _
 ·go_wp2
  go_ret
  exact⟨ret_b (by rw[HS.out]<;>simp),HK1.out⟩
 go_wp2
 go_ret
 exact⟨ret_b (by rw[HS.out]<;>simp),HK1.out⟩
theorem ovar1_any (w:World) (o:Ob) (x1 x2 x3 x4 x5 x6 x7 x8 x9 x10:Value) (b:Nat) (hb:ObC w b o x1 x2 x3 x4 x5 x6 x7 x8 x9 x10) (hA:o.At w x1 x2 x3 x4 x5 x6 x7 x8 x9 x10) (hk:o.Ok) (x:Vrr) (hx:x.Ok):
 Calls Tryz.prog 180 #[.agg #[.int .i64 x.sec, .int .i64 x.from_, .int .i64 x.to_, .string x.name, .int .i64 x.where_, .int .i64 x.n], .pointer (some ⟨b,0,none⟩)] w fun e w'=>e= .returned (.bool (vrrB o x))∧Below w.heap.size w w':=by
 by_cases h0:x.where_=0
 ·exact ovar1_w0 w o x1 x2 x3 x4 x5 x6 x7 x8 x9 x10 b hb hA hk x hx (by simp[h0]) (by simp[h0]) (by simp[h0])
 by_cases h1:x.where_=1
 ·exact ovar1_w1 w o x1 x2 x3 x4 x5 x6 x7 x8 x9 x10 b hb hA hk x hx (by simp[h1]) (by simp[h1]) (by simp[h1])
 by_cases h2:x.where_=2
 ·exact ovar1_w2 w o x1 x2 x3 x4 x5 x6 x7 x8 x9 x10 b hb hA hk x hx (by simp[h2]) (by simp[h2]) (by simp[h2])
 ·exact ovar1_wo w o x1 x2 x3 x4 x5 x6 x7 x8 x9 x10 b hb hA hk x hx (by simp[h0]) (by simp[h1]) (by simp[h2])
end Go.Proofs.YtfaepbjnpakghaaGreatDoor.W
namespace Go.Proofs.YtfaepbjnpakghaaGreatDoor.W
open Go.RowKit
set_option linter.unusedVariables false
theorem olne2_any (w:World) (x y:Lne) (hx:x.Ok) (hy:y.Ok):
 Calls Tryz.prog 172 #[.agg #[.int .i64 x.sec, .int .i64 x.at_, .string x.file, .int .i64 x.line], .agg #[.int .i64 y.sec, .int .i64 y.at_, .string y.file, .int .i64 y.line]] w fun e w'=>e= .returned (.bool (lneOrd x y))∧Below w.heap.size w w':=by
 have hS:lneOrd x y=(decide (x.sec<y.sec) || ((x.sec==y.sec)&&decide (x.at_<y.at_))):=by rfl
 obtain⟨q0,h0⟩:∃q,decide (x.sec<y.sec)=q:=⟨_,rfl⟩
 obtain⟨q1,h1⟩:∃q,(x.sec==y.sec)=q:=⟨_,rfl⟩
 obtain⟨q2,h2⟩:∃q,decide (x.at_<y.at_)=q:=⟨_,rfl⟩
 rw[h0,h1,h2] at hS
 have HS:=Hd.mk hS
 clear hS
 rcases q0 with _ | _
 ·rcases q1 with _ | _
  ·go_enter Tryz.func172,Tryz.ntmps172
   go_wp2
   go_ret
   exact⟨ret_b (by rw[HS.out];simp),by go_grown⟩
  ·go_enter Tryz.func172,Tryz.ntmps172
   go_wp2
   go_ret
   exact⟨ret_b (by rw[HS.out];simp),by go_grown⟩
 ·go_enter Tryz.func172,Tryz.ntmps172
  go_wp2
  go_ret
  exact⟨ret_b (by rw[HS.out];simp),by go_grown⟩
theorem odep2_any (w:World) (x y:Dep) (hx:x.Ok) (hy:y.Ok):
 Calls Tryz.prog 186 #[.agg #[.int .i64 x.sec, .int .i64 x.from_, .int .i64 x.to_, .int .i64 x.bytes], .agg #[.int .i64 y.sec, .int .i64 y.from_, .int .i64 y.to_, .int .i64 y.bytes]] w fun e w'=>e= .returned (.bool (depOrd x y))∧Below w.heap.size w w':=by
 have hS:depOrd x y=(decide (x.sec<y.sec) || ((x.sec==y.sec)&&decide (x.to_≤y.from_))):=by rfl
 obtain⟨q0,h0⟩:∃q,decide (x.sec<y.sec)=q:=⟨_,rfl⟩
 obtain⟨q1,h1⟩:∃q,(x.sec==y.sec)=q:=⟨_,rfl⟩
 obtain⟨q2,h2⟩:∃q,decide (x.to_≤y.from_)=q:=⟨_,rfl⟩
 rw[h0,h1,h2] at hS
 have HS:=Hd.mk hS
 clear hS
 rcases q0 with _ | _
 ·rcases q1 with _ | _
  ·go_enter Tryz.func186,Tryz.ntmps186
   go_wp2
   go_ret
   exact⟨ret_b (by rw[HS.out];simp),by go_grown⟩
  ·go_enter Tryz.func186,Tryz.ntmps186
   go_wp2
   go_ret
   exact⟨ret_b (by rw[HS.out];simp),by go_grown⟩
 ·go_enter Tryz.func186,Tryz.ntmps186
  go_wp2
  go_ret
  exact⟨ret_b (by rw[HS.out];simp),by go_grown⟩
theorem ogrp1_any (w:World) (o:Ob) (x1 x2 x3 x4 x5 x6 x7 x8 x9 x10:Value) (b:Nat) (hb:ObC w b o x1 x2 x3 x4 x5 x6 x7 x8 x9 x10) (hA:o.At w x1 x2 x3 x4 x5 x6 x7 x8 x9 x10) (n:Int):
 Calls Tryz.prog 160 #[.int .i64 n, .pointer (some ⟨b,0,none⟩)] w fun e w'=>e= .returned (.bool (inB n o.secs.length))∧Below w.heap.size w w':=by
 have hS:=hA.secs
 obtain⟨p,c,rfl⟩:=hS.slice
 have HW:=Hd.mk (fun w=>owithin_any n (o.secs.length:Int) w)
 obtain⟨c0,c1,_⟩:=hb
 clear hA hS
 go_enter Tryz.func160,Tryz.ntmps160
 go_wp2_with fail
 refine(HW.out _).mono ?_
 rintro e w' ⟨rfl,rfl⟩
 go_wp2
 go_ret
 exact⟨ret_b (by unfold inB;simp),Below.refl _ _⟩
theorem ogrp2_any (w:World) (x y:Int):Calls Tryz.prog 162 #[.int .i64 x, .int .i64 y] w fun e w'=>e= .returned (.bool (ltB x y))∧Below w.heap.size w w':=by
 go_enter Tryz.func162,Tryz.ntmps162
 go_wp2
 go_ret
 exact⟨rfl,Below.refl _ _⟩
theorem ogrp3_any (w:World) (x:ByteArray) (v:Value) (hv:∃p n c,v= .slice p n c):Calls Tryz.prog 164 #[.agg #[.string x,v]] w fun e w'=>e= .returned (.string x)∧Below w.heap.size w w':=by
 obtain⟨p,n,c,rfl⟩:=hv
 go_enter Tryz.func164,Tryz.ntmps164
 go_wp2
 go_ret
 exact⟨rfl,by go_grown⟩
theorem ogrp4_any (w:World) (x:Int):Calls Tryz.prog 166 #[.int .i64 x] w fun e w'=>e= .returned (.int .i64 x)∧Below w.heap.size w w':=by
 go_enter Tryz.func166,Tryz.ntmps166
 go_wp2
 go_ret
 exact⟨rfl,Below.refl _ _⟩
theorem osec2_any (w:World) (x:Sec):Calls Tryz.prog 146 #[.agg #[.string x.name, .int .i64 x.kind, .int .i64 x.align, .int .i64 x.size, .string x.bytes, .bool x.keep]] w fun e w'=>e= .returned (.string x.name)∧Below w.heap.size w w':=by
 go_enter Tryz.func146,Tryz.ntmps146
 go_wp2
 go_ret
 exact⟨rfl,by go_grown⟩
theorem osyms2_any (w:World) (x:Sym):Calls Tryz.prog 152 #[.agg #[.string x.name, .string x.version, .bool x.main, .int .i64 x.bind, .int .i64 x.vis, .int .i64 x.kind, .int .i64 x.sec, .int .i64 x.at_, .int .i64 x.size, .int .i64 x.align]] w fun e w'=>e= .returned (.agg #[.string x.name, .string x.version])∧Below w.heap.size w w':=by
 go_enter Tryz.func152,Tryz.ntmps152
 go_wp2
 ((try simp only[Exit.inBlock,Exit.then]);refine bodyPost_ret (results_cell_row rfl _ _ (w.heap.size+1) 173 _ (0,0) _ rfl (heap_alloc2_new w _ _) Tryz.underlying173 rfl (by kernel_rfl)) rfl ?_)
 exact⟨rfl,by go_grown⟩
theorem ocnv13_any (w:World) (x y:Pce) (hx:x.Ok) (h:I64 (x.to_+x.size)):Calls Tryz.prog 194 #[.agg #[.int .i64 x.from_, .int .i64 x.size, .int .i64 x.to_], .agg #[.int .i64 y.from_, .int .i64 y.size, .int .i64 y.to_]] w fun e w'=>e= .returned (.bool (pceOrd x y))∧Below w.heap.size w w':=by
 have hw:IntKind.i64.wrap (x.to_+x.size)=x.to_+x.size:=IntWalk.i64_in _ (by unfold I64 at h;omega)
 go_enter Tryz.func194,Tryz.ntmps194
 go_wp2
 go_ret
 exact⟨rfl,by go_grown⟩
end Go.Proofs.YtfaepbjnpakghaaGreatDoor.W
