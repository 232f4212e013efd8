import Derived.Lib.Split
import Derived.Shelf.Abstract
import Derived.Test.YtfaepbjnpakghaaGreatDoorKaj
import Derived.Test.YtfaepbjnpakghaaGreatDoorKae
import Derived.Test.YtfaepbjnpakghaaGreatDoorKaa
import Derived.Test.YtfaepbjnpakghaaGreatDoorKCdP
/- The wire's reader: Int, Text. -/
namespace Go.Proofs.YtfaepbjnpakghaaGreatDoor.W
open Go.RowKit
set_option linter.unusedVariables false
set_option linter.unusedSimpArgs false
theorem wrap_i64' (n:Int):IntKind.i64.wrap n=(n+9223372036854775808)%18446744073709551616-9223372036854775808:=by
 simp[IntKind.wrap,IntKind.bits,IntKind.signed]
 omega
theorem xor_neg {a:Nat} (ha:a<9223372036854775808):bits .xor .i64 (a:Int) (-1)= -(a:Int) -1:=by
 show IntKind.i64.wrap ((BitVec.ofInt 64 (a:Int)^^^ BitVec.ofInt 64 (-1)).toNat:Int)=_
 have e1:BitVec.ofInt 64 (-1)=BitVec.allOnes 64:=by decide
 rw[e1,BitVec.xor_allOnes,BitVec.toNat_not,BitVec.ofInt_natCast,BitVec.toNat_ofNat,Nat.mod_eq_of_lt (by omega),wrap_i64']
 omega
theorem xor_zero {a:Nat} (ha:a<9223372036854775808):bits .xor .i64 (a:Int) 0=(a:Int):=by
 show IntKind.i64.wrap ((BitVec.ofInt 64 (a:Int)^^^ BitVec.ofInt 64 0).toNat:Int)=_
 have e1:BitVec.ofInt 64 0=0#64:=by decide
 rw[e1,BitVec.xor_zero,BitVec.ofInt_natCast,BitVec.toNat_ofNat,Nat.mod_eq_of_lt (by omega),wrap_i64']
 omega
theorem and_one {m:Nat} (hm:m<18446744073709551616):bits .and .u64 (m:Int) 1=((m%2:Nat):Int):=by
 have:=bits_and_u64_nat m 1 hm (by decide)
 rw[show(1:Int)=((1:Nat):Int) from rfl,this,Nat.and_one_is_mod]
set_option maxHeartbeats 2000000 in
theorem wInt_any (w:World) (b:Nat) (st:Rs) (h:RdW w b st) (hl:st.rest.length≤1000000000000):
 Calls Tryz.prog 39 #[.pointer (some ⟨b,0,none⟩)] w fun e w'=>e= .returned (.int .i64 (intD st).1)∧RdW w' b (intD st).2∧Keeps (·=b) w w':=by
 have hN:=wnumber_any w b st h hl
 rw[intD_eq]
 have hm:=number_lt st
 obtain⟨m,hm1⟩:∃m,(numberD st).1=m:=⟨_,rfl⟩
 obtain⟨t,ht⟩:∃t,(numberD st).2=t:=⟨_,rfl⟩
 rw[hm1,ht] at hN⊢
 rw[hm1] at hm
 dsimp only
 have HN:=Hd.mk hN
 have a1:=and_one hm
 obtain⟨q,hq⟩:∃q,m/2=q:=⟨_,rfl⟩
 have hq63:q<9223372036854775808:=by omega
 have d1:(m:Int)/2=(q:Int):=by omega
 have d2:IntKind.i64.wrap (q:Int)=(q:Int):=IntWalk.i64_in _ (by omega)
 have d3:(m:Int).tdiv 2=(q:Int):=by rw[Int.tdiv_eq_ediv_of_nonneg (by omega)];omega
 rcases(show m%2=0∨m%2=1 by omega) with h2 | h2
 ·have hz:zag m=(q:Int):=by unfold zag;rw[if_pos h2,hq]
  rw[h2] at a1
  have x1:=xor_zero hq63
  have a2:IntKind.i64.wrap 0=0:=by decide
  have a3:IntKind.i64.wrap (-0)=0:=by decide
  have HZ:=Hd.mk hz
  clear hN h hm1 ht hl hq hq63 h2 hz hm
  rw[HZ.out]
  go_enter Tryz.func39,Tryz.ntmps39
  go_wp2_with fail
  refine HN.out.mono ?_
  rintro e w1 ⟨rfl,h1,k1⟩
  have H1:=Hd.mk (And.intro h1 k1)
  clear h1 k1
  go_wp2
  go_ret
  exact⟨rfl,H1.out⟩
 ·have hz:zag m= -(q:Int) -1:=by unfold zag;rw[if_neg (by omega),hq]
  rw[h2] at a1
  have x1:=xor_neg hq63
  have a2:IntKind.i64.wrap 1=1:=by decide
  have a3:IntKind.i64.wrap (-1)= -1:=by decide
  have HZ:=Hd.mk hz
  clear hN h hm1 ht hl hq hq63 h2 hz hm
  rw[HZ.out]
  go_enter Tryz.func39,Tryz.ntmps39
  go_wp2_with fail
  refine HN.out.mono ?_
  rintro e w1 ⟨rfl,h1,k1⟩
  have H1:=Hd.mk (And.intro h1 k1)
  clear h1 k1
  go_wp2
  go_ret
  exact⟨rfl,H1.out⟩
theorem num_len (st:Rs):(numD st).2.rest.length≤st.rest.length:=by
 rw[numD_eq]
 split
 ·exact number_len st
 ·rw[Rs.fail_len];omega
theorem num_nonneg (st:Rs):0≤(numD st).1∧(numD st).1≤9223372036854775807:=by
 rw[numD_eq]
 split
 ·dsimp only;omega
 ·dsimp only;omega
theorem ext_take (s:ByteArray) (k:Nat):s.extract 0 k=⟨((strT s).take k).toArray⟩:=by
 rw[←Lib.mk_data (s.extract 0 k),Lib.extract_from_zero];rfl
set_option maxHeartbeats 2000000 in
theorem wText_any (w:World) (b:Nat) (st:Rs) (h:RdW w b st) (hl:st.rest.length≤1000000000000):
 Calls Tryz.prog 32 #[.pointer (some ⟨b,0,none⟩)] w fun e w'=>e= .returned (.string (textD st).1)∧RdW w' b (textD st).2∧Keeps (·=b) w w':=by
 have hN:=wNum_any w b st h hl
 have hle:=num_len st
 have hn:=num_nonneg st
 have hT:textD st=if((numD st).2.rest.length:Int)< (numD st).1 then(⟨#[]⟩,(numD st).2.fail) else(⟨((numD st).2.rest.take (numD st).1.toNat).toArray⟩,⟨(numD st).2.rest.drop (numD st).1.toNat,(numD st).2.bad,(numD st).2.bad2⟩):=rfl
 obtain⟨m,hm1⟩:∃m,(numD st).1=m:=⟨_,rfl⟩
 obtain⟨t,ht⟩:∃t,(numD st).2=t:=⟨_,rfl⟩
 rw[hm1] at hn
 obtain⟨k,rfl⟩:∃k:Nat,m=(k:Int):=⟨m.toNat,by omega⟩
 rw[hm1,ht] at hN hT
 rw[ht] at hle
 have hF:=fun w1 (h1:RdW w1 b t)=>wfail_any w1 b t h1
 obtain⟨s,hs⟩:∃s:ByteArray,(⟨t.rest.toArray⟩:ByteArray)=s:=⟨_,rfl⟩
 have hsz:t.rest.length=s.size:=by rw[←hs];rfl
 have hst:t.rest=strT s:=by rw[←hs,strT_mk]
 rw[Int.toNat_natCast,hsz] at hT
 have HN:=Hd.mk hN
 have HF:=Hd.mk hF
 have HS:=Hd.mk (And.intro hs hst)
 clear hN hF h hm1 ht
 by_cases hb:(s.size:Int)< (k:Int)
 ·rw[if_pos hb] at hT
  have HT:=Hd.mk hT
  have t1:decide ((s.size:Int)< (k:Int))=true:=by simp;omega
  have t2:decide (s.size<k)=true:=by simp;omega
  clear hT hst hs hsz hle hn hl
  go_enter Tryz.func32,Tryz.ntmps32
  go_wp2_with fail
  refine HN.out.mono ?_
  rintro e w1 ⟨rfl,h1,k1⟩
  have c0:=h1.blk.at (j:=0) rfl
  rw[HS.out.1] at c0
  have H1:=Hd.mk (And.intro h1 k1)
  clear h1 k1
  go_wp2_with fail
  refine(HF.out w1 H1.out.1).mono ?_
  rintro e w2 ⟨rfl,h2,k2⟩
  have H2:=Hd.mk (And.intro h2 (H1.out.2.trans ⟨k2.os,k2.tape,k2.output,k2.size,k2.block⟩))
  clear h2 k2
  go_wp2
  go_ret
  rw[HT.out]
  exact⟨rfl,H2.out⟩
 ·rw[if_neg hb] at hT
  have HT:=Hd.mk hT
  have t1:decide ((s.size:Int)< (k:Int))=false:=by simp;omega
  have t2:decide (s.size<k)=false:=by simp;omega
  have i0:(0:Int)≤(k:Int):=by omega
  have i1:(k:Int)≤(s.size:Int):=by omega
  have i2:k≤s.size:=by omega
  have HX:Hd (∀w1,RdW w1 b t∧Keeps (·=b) w w1→RdW (w1.setCell ⟨b,0,none⟩ (.string (s.extract k s.size))) b (⟨(strT s).drop k,t.bad,t.bad2⟩:Rs)∧Keeps (·=b) w (w1.setCell ⟨b,0,none⟩ (.string (s.extract k s.size)))):=⟨fun w1 h=>⟨⟨by rw[ext_drop s s.size k rfl];exact h.1.blk.set 0 _⟩,h.2.setCell (p:=⟨b,0,none⟩) (.inr rfl) _⟩⟩
  clear hT hst hs hsz hle hn hl hb
  go_enter Tryz.func32,Tryz.ntmps32
  go_wp2_with fail
  refine HN.out.mono ?_
  rintro e w1 ⟨rfl,h1,k1⟩
  have c0:=h1.blk.at (j:=0) rfl
  have f0:=h1.blk.free 0
  rw[HS.out.1] at c0
  have H1:=Hd.mk (HX.out w1 ⟨h1,k1⟩)
  clear h1 k1
  go_wp2
  go_ret
  rw[HT.out,HS.out.2,←ext_take]
  exact⟨rfl,H1.out⟩
end Go.Proofs.YtfaepbjnpakghaaGreatDoor.W
namespace Go.Proofs.YtfaepbjnpakghaaGreatDoor.W
open Go.RowKit
set_option linter.unusedVariables false
set_option linter.unusedSimpArgs false
theorem number_less (st:Rs) (h:(numberD st).2.bad=false):(numberD st).2.rest.length+1≤st.rest.length:=by
 unfold numberD at h⊢
 cases hg:numG 0 st.rest with
 | none=>rw[hg] at h;simp[Rs.fail] at h
 | some p=>
   have:=(numG_is (show numG 0 st.rest=some (p.1,p.2) from hg)).1
   dsimp only
   rw[this,List.length_append]
   have:=numL_pos p.1
   omega
theorem int_less (st:Rs) (h:(intD st).2.bad=false):(intD st).2.rest.length+1≤st.rest.length:=by
 rw[intD_eq] at h⊢
 exact number_less st h
theorem int_len (st:Rs):(intD st).2.rest.length≤st.rest.length:=by
 rw[intD_eq];exact number_len st
theorem items_stop (n:Nat) (st:Rs) (h:n=0∨st.bad=true):itemsD n st=([],st):=by
 cases n with
 | zero=>rfl
 | succ n=>
   rcases h with h | h
   ·omega
   ·rw[itemsD,if_pos h]
theorem items_go (n:Nat) (st:Rs) (h:st.bad=false):itemsD (n+1) st=((intD st).1::(itemsD n (intD st).2).1,(itemsD n (intD st).2).2):=by
 rw[itemsD,if_neg (by rw[h];decide)]
theorem info_int:∃i,Tryz.prog.info? 3=some i∧i.zero=some (.int .i64 0)∧i.size=1∧i.bytes=8:=by
 have:(Tryz.prog.info? 3).map (fun i=>(i.zero,i.size,i.bytes))=some (some (.int .i64 0),1,8):=by kernel_rfl
 obtain⟨i,h1,h2⟩:=Option.map_eq_some_iff.1 this
 simp only[Prod.mk.injEq] at h2
 exact⟨i,h1,h2⟩
theorem RdW.lt {w:World} {b:Nat} {st:Rs} (h:RdW w b st):b<w.heap.size:=h.blk.lt
structure ItAt (w wr:World) (b:Nat) (n0:Nat) (st0:Rs) (n:Nat) (acc:List Int) (st:Rs) (v:Value):Prop where
 is:itemsD n0 st0=(acc++(itemsD n st).1,(itemsD n st).2)
 own:Own wr w.heap.size 3 v (acc.map (Value.int .i64))
 rd:RdW wr b st
 keep:Keeps (·=b) w wr
 len:acc.length+st.rest.length≤1000000000∨(st.bad=true∧acc.length≤1000000001∧st.rest.length=0)
 lt:b<w.heap.size
theorem ItAt.end_ {w wr:World} {b n0:Nat} {st0:Rs} {n:Nat} {acc:List Int} {st:Rs} {v:Value} (h:ItAt w wr b n0 st0 n acc st v) (hn:n=0∨st.bad=true):itemsD n0 st0=(acc,st):=by
 have:=h.is
 rw[items_stop n st hn] at this
 simpa using this
theorem ItAt.restLe {w wr:World} {b n0:Nat} {st0:Rs} {n:Nat} {acc:List Int} {st:Rs} {v:Value} (h:ItAt w wr b n0 st0 n acc st v):st.rest.length≤1000000000000:=by
 rcases h.len with h | ⟨_,_,h⟩<;>omega
theorem own_fresh {w:World} {B:Nat} {e:TypeId} {v:Value} {xs:List Value} (h:Own w B e v xs) {b:Nat} (hb:b<B):∀g,v.ownBlock=some g→g≠b:=fun g hg e=>by
 have:=(h.lt hg).1;omega
theorem ItAt.next {w wr w1 w2:World} {b n0:Nat} {st0:Rs} {n:Nat} {acc:List Int} {st:Rs} {v v':Value} (h:ItAt w wr b n0 st0 (n+1) acc st v) (hb:st.bad=false)
 (k1:Keeps (·=b) wr w1) (hr:RdW w1 b (intD st).2) (k2:Keeps (fun k=>v.ownBlock=some k) w1 w2) (ho:Own w2 w.heap.size 3 v' ((acc++[(intD st).1]).map (Value.int .i64))):ItAt w w2 b n0 st0 n (acc++[(intD st).1]) (intD st).2 v' where
 is:=by rw[h.is,items_go n st hb];simp
 own:=ho
 rd:=hr.keeps k2 (fun hg=>own_fresh h.own h.lt b hg rfl)
 keep:=(h.keep.trans ⟨k1.os,k1.tape,k1.output,k1.size,k1.block⟩).new k2 (fun g hg=> .inr (h.own.lt hg).1)
 len:=by
  have hl:=int_len st
  rcases h.len with h1 | h1
  ·rcases hbad:(intD st).2.bad with _ | _
   ·have:=int_less st hbad
    rw[List.length_append];simp;omega
   ·refine .inr ⟨rfl,by rw[List.length_append];simp;omega,?_⟩
    have:(intD st).2.rest=[]:=by
     rw[intD_eq] at hbad⊢
     unfold numberD at hbad⊢
     cases hg:numG 0 st.rest with
     | none=>rfl
     | some p=>rw[hg] at hbad;dsimp only at hbad;rw[hb] at hbad;cases hbad
    rw[this];rfl
  ·rw[hb] at h1;cases h1.1
 lt:=h.lt
set_option maxRecDepth 100000 in
set_option maxHeartbeats 2000000 in
theorem witems_any (w:World) (b:Nat) (st:Rs) (h:RdW w b st) (hl:st.rest.length≤1000000000):
 Calls Tryz.prog 135 #[.pointer (some ⟨b,0,none⟩), .func (.func 39) #[.pointer (some ⟨b,0,none⟩)] #[]] w fun e w'=>∃v,e= .returned v∧Own w' w.heap.size 3 v ((intsD st).1.map (Value.int .i64))∧RdW w' b (intsD st).2∧Keeps (·=b) w w':=by
 have hN:=wNum_any w b st h (by omega)
 have hle:=num_len st
 have hn:=num_nonneg st
 have hT:intsD st=(if(itemsD (numD st).1.toNat (numD st).2).2.bad then [] else(itemsD (numD st).1.toNat (numD st).2).1,(itemsD (numD st).1.toNat (numD st).2).2):=rfl
 obtain⟨m,hm1⟩:∃m,(numD st).1=m:=⟨_,rfl⟩
 obtain⟨t,ht⟩:∃t,(numD st).2=t:=⟨_,rfl⟩
 rw[hm1] at hn
 obtain⟨n0,rfl⟩:∃k:Nat,m=(k:Int):=⟨m.toNat,by omega⟩
 rw[hm1,ht] at hN hT
 rw[ht] at hle
 rw[Int.toNat_natCast] at hT
 have HN:=Hd.mk hN
 have HT:=Hd.mk hT
 have HLt:=Hd.mk h.lt
 have HLe:=Hd.mk (Nat.le_trans hle hl)
 have HN0:=Hd.mk hn.2
 obtain⟨i0,hi,hz0,hz1,hz2⟩:=info_int
 have HI:Hd (_∧_∧_∧_):=⟨⟨hi,hz0,hz1,hz2⟩⟩
 clear hN hT h hm1 ht hl hle hn hi hz0 hz1 hz2
 go_enter Tryz.func135,Tryz.ntmps135
 go_wp2_with fail
 refine HN.out.mono ?_
 rintro e w1 ⟨rfl,h1,k1⟩
 have HS:Hd (ItAt w w1 b n0 t n0 [] t (.slice none 0 0)):=⟨⟨by simp,Own.nil _ _ _,h1,k1, .inl (by simpa using HLe.out),HLt.out⟩⟩
 clear h1 k1
 go_wp2
 go_loopw [5,6] (fun v i wr=>∃(n:Nat) (acc:List Int) (s1:Rs),i= .int .i64 n∧n≤9223372036854775807∧Hd (ItAt w wr b n0 t n acc s1 v)) (fun _ i _=>(intOf i).toNat)
 case atStart=>exact⟨n0,[],t,rfl,by have:=HN0.out;omega,HS⟩
 case round=>
  clear HS
  obtain⟨n,acc,s1,rfl,hn63,HA⟩:=hrel
  have c1:=HA.out.rd.blk.at (j:=1) rfl
  obtain⟨q,hq⟩:∃q,s1.bad=q:=⟨_,rfl⟩
  rw[hq] at c1
  have HQ:=Hd.mk hq
  clear hq
  by_cases h0:n=0
  ·subst h0
   have HE:=Hd.mk (HA.out.end_ (.inl rfl))
   rcases q with _ | _
   ·as_aux_lemma=>
    obtain⟨p,c,hp⟩:∃p c,u5= .slice p acc.length c:=by
     rcases HA.out.own.is with⟨e,h⟩ | ⟨g,cap,e,_⟩
     ·exact⟨none,0,by rw[e];have:=congrArg List.length h;simp at this;rw[this];rfl⟩
     ·exact⟨some ⟨g,0,none⟩,cap,by rw[e];simp⟩
    subst hp
    go_wp2
    go_ret
    refine⟨_,rfl,?_,?_,HA.out.keep⟩
    ·rw[HT.out,HE.out];dsimp only;rw[if_neg (by rw[HQ.out];decide)];exact HA.out.own
    ·rw[HT.out,HE.out];exact HA.out.rd
   ·as_aux_lemma=>
    go_wp2
    go_ret
    refine⟨_,rfl,?_,?_,HA.out.keep⟩
    ·rw[HT.out,HE.out];dsimp only;rw[if_pos HQ.out];exact Own.nil _ _ _
    ·rw[HT.out,HE.out];exact HA.out.rd
  ·have d1:decide ((0:Int)< (n:Int))=true:=by simp;omega
   have d2:decide (0<n)=true:=by simp;omega
   rcases q with _ | _
   ·as_aux_lemma=>
    obtain⟨n1,rfl⟩:∃k,n=k+1:=⟨n-1,by omega⟩
    have HC:=Hd.mk (wInt_any wr b s1 HA.out.rd HA.out.restLe)
    have HNx:=Hd.mk (fun w1 w2 v'=>HA.out.next (w1:=w1) (w2:=w2) (v':=v') HQ.out)
    have HAL:Hd (acc.length+1≤1000000001):=⟨by rcases HA.out.len with h | h;·omega
                                               ·rw[HQ.out] at h;cases h.1⟩
    obtain⟨x,hx⟩:∃x,(intD s1).1=x:=⟨_,rfl⟩
    obtain⟨s2,hs2⟩:∃x,(intD s1).2=x:=⟨_,rfl⟩
    rw[hx,hs2] at HC HNx
    have e1:IntKind.i64.wrap (((n1+1:Nat):Int) -1)=(n1:Int):=by rw[IntWalk.i64_in _ (by omega)];omega
    have e2:((n1+1:Nat):Int) -1=(n1:Int):=by omega
    have e4:wrap64 (n1:Int)=(n1:Int):=by unfold wrap64;omega
    have HM:Hd (n1≤9223372036854775807):=⟨by omega⟩
    clear hx hs2 h0 hn63
    go_wp2_with fail
    refine HC.out.mono ?_
    rintro e w2 ⟨rfl,h2,k2⟩
    have HO2:Hd (Own w2 w.heap.size 3 u5 (acc.map (Value.int .i64))):=⟨HA.out.own.keeps k2 (fun g hg=>own_fresh HA.out.own HA.out.lt g hg)⟩
    have H2:=Hd.mk (And.intro h2 k2)
    have HSz:Hd (w.heap.size≤w2.heap.size):=⟨Nat.le_trans HA.out.keep.size k2.size⟩
    clear h2 k2
    go_wp2_with (at_builtin;refine wp_app1 rfl _ _ 63 rfl 3 Tryz.underlying63 HI.out.1 HI.out.2.1 HI.out.2.2.1 HI.out.2.2.2 rfl u5 _ _ _ rfl HO2.out rfl rfl (by rw[List.length_map];have:=HAL.out;unfold maxLen;omega) (by rw[List.length_map];have:=HAL.out;omega) (HSz.out) ?_)
    intro v' w3 hO' hK' _
    have HX:=Hd.mk (HNx.out w2 w3 v' H2.out.2 H2.out.1 hK' (by rw[List.map_append];exact hO'))
    clear hO' hK'
    go_wp2
    go_roundw
    case rel=>exact⟨n1,_,s2,by first | rfl | go_num,HM.out,HX⟩
    case measure=>rw[e4];simp only[intOf];omega
   ·as_aux_lemma=>
    have HE:=Hd.mk (HA.out.end_ (.inr HQ.out))
    go_wp2
    go_ret
    refine⟨_,rfl,?_,?_,HA.out.keep⟩
    ·rw[HT.out,HE.out];dsimp only;rw[if_pos HQ.out];exact Own.nil _ _ _
    ·rw[HT.out,HE.out];exact HA.out.rd
theorem wNums_any (w:World) (b:Nat) (st:Rs) (h:RdW w b st) (hl:st.rest.length≤1000000000):
 Calls Tryz.prog 44 #[.pointer (some ⟨b,0,none⟩)] w fun e w'=>∃v,e= .returned v∧Own w' w.heap.size 3 v ((intsD st).1.map (Value.int .i64))∧RdW w' b (intsD st).2∧Keeps (·=b) w w':=by
 have HC:=Hd.mk (witems_any w b st h hl)
 clear h hl
 go_enter Tryz.func44,Tryz.ntmps44
 go_wp2_with fail
 refine HC.out.mono ?_
 rintro e w2 ⟨v,rfl,h2⟩
 have H2:=Hd.mk h2
 clear h2
 go_wp2
 go_ret
 exact⟨_,rfl,H2.out⟩
end Go.Proofs.YtfaepbjnpakghaaGreatDoor.W
namespace Go.Proofs.YtfaepbjnpakghaaGreatDoor.W
open Go.RowKit
set_option linter.unusedVariables false
set_option linter.unusedSimpArgs false
structure OrW (w:World) (b br bv:Nat) (st:Rs):Prop where
 rd:RdW w b st
 own:Blk w br 70 [.pointer (some ⟨b,0,none⟩), .bool st.bad2]
 var:Blk w bv 66 [.pointer (some ⟨br,0,none⟩)]
theorem blk_ne {w:World} {a b:Nat} {T U:TypeId} {vs us:List Value} (h:Blk w a T vs) (k:Blk w b U us) (hne:T≠U):a≠b:=fun e=>by
 subst e
 have h1:=h.is
 rw[k.is] at h1
 injection h1 with h1
 injection h1 with _ h2 _
 exact hne h2.symm
theorem OrW.ne1 {w:World} {b br bv:Nat} {st:Rs} (h:OrW w b br bv st):b≠br:=blk_ne h.rd.blk h.own (by decide)
theorem OrW.ne2 {w:World} {b br bv:Nat} {st:Rs} (h:OrW w b br bv st):b≠bv:=blk_ne h.rd.blk h.var (by decide)
theorem OrW.ne3 {w:World} {b br bv:Nat} {st:Rs} (h:OrW w b br bv st):br≠bv:=blk_ne h.own h.var (by decide)
def Two (b br:Nat) (k:Nat):Prop:=k=b∨k=br
theorem OrW.lt {w:World} {b br bv:Nat} {st:Rs} (h:OrW w b br bv st):∀g,g<w.heap.size→Two b br g→g<w.heap.size:=fun g h _=>h
theorem keeps_two {w w':World} {b br:Nat} (k:Keeps (·=b) w w'):Keeps (Two b br) w w':=k.mono (fun _ _ h=> .inl h)
theorem OrW.wire {w w':World} {b br bv:Nat} {st st':Rs} (h:OrW w b br bv st) (hr:RdW w' b st') (k:Keeps (·=b) w w') (hb:st'.bad2=st.bad2):OrW w' b br bv st':=
 ⟨hr,by rw[hb];exact k.blk h.own (fun e=>h.ne1 e.symm),k.blk h.var (fun e=>h.ne2 e.symm)⟩
theorem OrW.keep {w w':World} {b br bv:Nat} {st:Rs} {S:Nat→Prop} (h:OrW w b br bv st) (k:Keeps S w w') (h1:¬S b) (h2:¬S br) (h3:¬S bv):OrW w' b br bv st:=
 ⟨h.rd.keeps k h1,k.blk h.own h2,k.blk h.var h3⟩
theorem OrW.alloc {w:World} {b br bv:Nat} {st:Rs} (h:OrW w b br bv st) (o:Obj):OrW (w.alloc o) b br bv st:=⟨⟨h.rd.blk.alloc o⟩,h.own.alloc o,h.var.alloc o⟩
theorem OrW.drew {w:World} {b br bv:Nat} {st:Rs} (h:OrW w b br bv st):OrW w.drew b br bv st:=⟨⟨h.rd.blk.drew⟩,h.own.drew,h.var.drew⟩
theorem number_bad2 (st:Rs):(numberD st).2.bad2=st.bad2:=by
 unfold numberD
 split<;>rfl
theorem num_bad2 (st:Rs):(numD st).2.bad2=st.bad2:=by
 rw[numD_eq]
 split
 ·exact number_bad2 st
 ·exact number_bad2 st
theorem int_bad2 (st:Rs):(intD st).2.bad2=st.bad2:=by rw[intD_eq];exact number_bad2 st
theorem text_bad2 (st:Rs):(textD st).2.bad2=st.bad2:=by
 unfold textD
 split
 ·exact num_bad2 st
 ·exact num_bad2 st
theorem text_rest (st:Rs):(textD st).2.rest.length≤st.rest.length:=by
 have:=num_len st
 unfold textD
 split
 ·rw[Rs.fail_len];omega
 ·dsimp only;rw[List.length_drop];omega
theorem text_size (st:Rs):(textD st).1.size≤st.rest.length:=by
 have:=num_len st
 unfold textD
 split
 ·exact Nat.zero_le _
 ·show(List.take _ _).length≤_
  rw[List.length_take];omega
theorem items_bad2:∀(n:Nat) (st:Rs),(itemsD n st).2.bad2=st.bad2
 | 0,st=>rfl
 | n+1,st=>by
   rw[itemsD]
   split
   ·rfl
   ·dsimp only
    rw[items_bad2 n (intD st).2,int_bad2]
theorem items_len:∀(n:Nat) (st:Rs),(itemsD n st).2.rest.length≤st.rest.length
 | 0,st=>Nat.le_refl _
 | n+1,st=>by
   rw[itemsD]
   split
   ·exact Nat.le_refl _
   ·exact Nat.le_trans (items_len n (intD st).2) (int_len st)
theorem ints_bad2 (st:Rs):(intsD st).2.bad2=st.bad2:=by
 unfold intsD
 dsimp only
 rw[items_bad2,num_bad2]
theorem ints_len (st:Rs):(intsD st).2.rest.length≤st.rest.length:=Nat.le_trans (items_len _ _) (num_len st)
theorem truth_len (st:Rs):(truthD st).2.rest.length≤st.rest.length:=num_len st
section
variable {w:World} {b br bv:Nat} {st:Rs}
theorem oNum_any (h:OrW w b br bv st) (hl:st.rest.length≤1000000000):
 Calls Tryz.prog 35 #[.pointer (some ⟨b,0,none⟩)] w fun e w'=>e= .returned (.int .i64 (numD st).1)∧OrW w' b br bv (numD st).2∧Keeps (Two b br) w w':=
 (wNum_any w b st h.rd (by omega)).mono fun e w' ⟨h1,h2,h3⟩=>⟨h1,h.wire h2 h3 (num_bad2 st),keeps_two h3⟩
theorem oInt_any (h:OrW w b br bv st) (hl:st.rest.length≤1000000000):
 Calls Tryz.prog 39 #[.pointer (some ⟨b,0,none⟩)] w fun e w'=>e= .returned (.int .i64 (intD st).1)∧OrW w' b br bv (intD st).2∧Keeps (Two b br) w w':=
 (wInt_any w b st h.rd (by omega)).mono fun e w' ⟨h1,h2,h3⟩=>⟨h1,h.wire h2 h3 (int_bad2 st),keeps_two h3⟩
theorem oText_any (h:OrW w b br bv st) (hl:st.rest.length≤1000000000):
 Calls Tryz.prog 32 #[.pointer (some ⟨b,0,none⟩)] w fun e w'=>e= .returned (.string (textD st).1)∧OrW w' b br bv (textD st).2∧Keeps (Two b br) w w':=
 (wText_any w b st h.rd (by omega)).mono fun e w' ⟨h1,h2,h3⟩=>⟨h1,h.wire h2 h3 (text_bad2 st),keeps_two h3⟩
theorem oNums_any (h:OrW w b br bv st) (hl:st.rest.length≤1000000000):
 Calls Tryz.prog 44 #[.pointer (some ⟨b,0,none⟩)] w fun e w'=>∃v,e= .returned v∧Own w' w.heap.size 3 v ((intsD st).1.map (Value.int .i64))∧OrW w' b br bv (intsD st).2∧Keeps (Two b br) w w':=
 (wNums_any w b st h.rd hl).mono fun e w' ⟨v,h1,h2,h3,h4⟩=>⟨v,h1,h2,h.wire h3 h4 (ints_bad2 st),keeps_two h4⟩
set_option maxHeartbeats 1000000 in
theorem oTruth_any (h:OrW w b br bv st) (hl:st.rest.length≤1000000000):
 Calls Tryz.prog 36 #[.pointer (some ⟨br,0,none⟩)] w fun e w'=>e= .returned (.bool (truthD st).1)∧OrW w' b br bv (truthD st).2∧Keeps (Two b br) w w':=by
 have c0:=h.own.at (j:=0) rfl
 have HN:=Hd.mk (oNum_any h hl)
 have HE:Hd (truthD st=(decide ((numD st).1=1),⟨(numD st).2.rest,(numD st).2.bad,(numD st).2.bad2 || decide (1< (numD st).1)⟩)):=⟨rfl⟩
 obtain⟨x,hx⟩:∃x,(numD st).1=x:=⟨_,rfl⟩
 obtain⟨t,ht⟩:∃x,(numD st).2=x:=⟨_,rfl⟩
 rw[hx,ht] at HN HE
 obtain⟨q,hq⟩:∃q,t.bad2=q:=⟨_,rfl⟩
 rw[hq] at HE
 have HW:Hd (∀w1,OrW w1 b br bv t→OrW (w1.setCell ⟨br,1,none⟩ (.bool (q || decide (1<x)))) b br bv ⟨t.rest,t.bad,q || decide (1<x)⟩∧Keeps (Two b br) w1 (w1.setCell ⟨br,1,none⟩ (.bool (q || decide (1<x))))):=⟨fun w1 h1=>by
  have hk:Keeps (·=br) w1 (w1.setCell ⟨br,1,none⟩ (.bool (q || decide (1<x)))):=(Keeps.refl (·=br) w1).setCell (p:=⟨br,1,none⟩) (.inr rfl) _
  exact⟨⟨⟨hk.blk h1.rd.blk h1.ne1⟩,h1.own.set 1 _,hk.blk h1.var (fun e=>h1.ne3 e.symm)⟩,hk.mono (fun _ _ e=> .inr e)⟩⟩
 have HQ:=Hd.mk hq
 clear h hl hx ht hq
 go_enter Tryz.func36,Tryz.ntmps36
 go_wp2_with fail
 refine HN.out.mono ?_
 rintro e w1 ⟨rfl,h1,k1⟩
 have d0:=h1.own.at (j:=0) rfl
 have d1:=h1.own.at (j:=1) rfl
 have f1:=h1.own.free 1
 rw[HQ.out] at d1
 have H1:=Hd.mk (HW.out w1 h1)
 have K1:=Hd.mk k1
 clear h1 k1 c0
 rcases q with _ | _
 ·by_cases hc:1<x
  ·have t1:decide ((1:Int)<x)=true:=by simp[hc]
   rw[t1] at H1 HE
   go_wp2
   go_ret
   rw[HE.out]
   exact⟨rfl,H1.out.1,K1.out.trans H1.out.2⟩
  ·have t1:decide ((1:Int)<x)=false:=by simp;omega
   rw[t1] at H1 HE
   go_wp2
   go_ret
   rw[HE.out]
   exact⟨rfl,H1.out.1,K1.out.trans H1.out.2⟩
 ·simp only[Bool.true_or] at H1 HE
  go_wp2
  go_ret
  rw[HE.out]
  exact⟨rfl,H1.out.1,K1.out.trans H1.out.2⟩
end
theorem wanted_step {P:Program} {ops:Array Oper} {o:Oper} {a:Act} {w:World} {K:Act→World→Prop} {Q:Exit→Act→World→Prop} {E:Prop} (hw:Region.wanted o (yielded ops a.tmps)=true) (h:Oper.wp P o a w K Q):
 if Region.wanted o (yielded ops a.tmps)=true then Oper.wp P o a w K Q else E:=by rw[if_pos hw];exact h
theorem Blk.setAll {T:TypeId} {b:Nat}:∀(us:List Value) (o:Nat) (vs:List Value) {w:World},Blk w b T vs→vs.length=o+us.length→Blk (w.setCells b o us) b T (vs.take o++us)
 | [],o,vs,w,h,hl=>by
   have:vs.take o=vs:=List.take_of_length_le (by simp at hl;omega)
   rw[this,List.append_nil];exact h
 | u::r,o,vs,w,h,hl=>by
   have h1:=h.set o u
   have:=Blk.setAll r (o+1) (vs.set o u) h1 (by rw[List.length_set,hl,List.length_cons];omega)
   have e:(vs.set o u).take (o+1)++r=vs.take o++u::r:=by
    have ho:o<vs.length:=by rw[hl,List.length_cons];omega
    rw[List.take_succ_eq_append_getElem (by rw[List.length_set];exact ho),List.getElem_set_self,List.take_set_of_le (Nat.le_refl _),List.append_assoc];rfl
   rw[e] at this
   exact this
theorem keeps_setAll (b:Nat) (us:List Value) (o:Nat) (w:World):Keeps (·=b) w (w.setCells b o us):=(keeps_setCells us o w).mono (fun k _ h=>by injection h with h;exact h.symm)
structure Rdn {α:Type} (E:World→List Value→α→Prop) (m:Nat) (b br bv:Nat) (w:World) (x:α) (st':Rs) (cs:List Value) (w':World):Prop where
 len:cs.length=m
 one:∀u∈cs,u.oneCell'=true
 el:Std (·<w.heap.size) (fun w=>E w cs x) w'
 rd:OrW w' b br bv st'
 keep:Keeps (Two b br) w w'
structure FnR {α:Type} (E:World→List Value→α→Prop) (m:Nat) (d:Rs→α × Rs) (b br bv:Nat) (g:Nat) (lb:Array Value):Prop where
 ent:Enters Tryz.prog g
 at_:∀w st,OrW w b br bv st→st.rest.length≤1000000000→Calls Tryz.prog g lb w fun e w'=>∃cs,e= .returned (.agg cs.toArray)∧Rdn E m b br bv w (d st).1 (d st).2 cs w'
 less:∀st,(d st).2.rest.length≤st.rest.length
end Go.Proofs.YtfaepbjnpakghaaGreatDoor.W
