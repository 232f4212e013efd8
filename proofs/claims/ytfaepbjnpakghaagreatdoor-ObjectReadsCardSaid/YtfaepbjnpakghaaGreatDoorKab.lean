import Derived.Deep.LoopGhost
import Derived.Deep.QuietTactic
import Derived.BigQuiet
import Derived.Shelf.Strings.BuilderX
import Derived.Shelf.RegionOpenPlain
import Derived.Lib.Slices
import Derived.Lib.Walk
import Derived.Lib.Builder
import Derived.Lib.AppendStr
import Derived.Lib.UnsafeStr
import Derived.Lib.MakeNoZero
import Derived.Laws.Externs
import Derived.Laws.IdiomCopy
import Derived.Test.YtfaepbjnpakghaaGreatDoorShelf
import Derived.Lib.BufferWrite
import Derived.Test.YtfaepbjnpakghaaGreatDoorRows
import Derived.WalkKit
import Derived.WalkLawsBesides
import Derived.WalkSpells
import Derived.Lib.Hide
import Derived.SizedLaws
import Derived.Deep.Slices
import Derived.Test.YtfaepbjnpakghaaGreatDoorKaa
/- The walk of the permutation. -/
namespace Go.Proofs.YtfaepbjnpakghaaGreatDoor.W
open Go.RowKit
set_option linter.unusedVariables false
def constV:List Value:=lanes constL
def turnV:List Value:=turnL.map fun(x:Nat)=>Value.int .i64 (x:Int)
structure Tabs (w:World):Prop where
 c:∃t f,w.heap[0]? =some (.cells constV.toArray t f)
 t:∃t f,w.heap[1]? =some (.cells turnV.toArray t f)
theorem Tabs.lt {w:World} (h:Tabs w):1<w.heap.size:=by
 obtain⟨_,t,f,h⟩:=h
 rcases Nat.lt_or_ge 1 w.heap.size with h' | h'
 ·exact h'
 ·rw[Array.getElem?_eq_none (by omega)] at h;cases h
theorem Tabs.keeps {S:Nat→Prop} {w w':World} (h:Tabs w) (k:Keeps S w w') (h0:¬S 0) (h1:¬S 1):Tabs w':=by
 have hl:=h.lt
 obtain⟨⟨t,f,a⟩,t',f',b⟩:=h
 exact⟨⟨t,f,by rw[k.block _ (by omega) (by assumption),a]⟩,t',f',by rw[k.block _ (by omega) (by assumption),b]⟩
theorem Tabs.turn {w:World} (h:Tabs w) {k:Nat} (hk:k<25):w.cell? ⟨1,k,none⟩=some (.int .i64 ((nth turnL k:Nat):Int)):=by
 obtain⟨_,t,f,b⟩:=h
 have:turnL.length=25:=rfl
 unfold nth
 simp[World.cell?,b,turnV,List.getElem?_eq_getElem (show k<turnL.length by omega),List.getD_eq_getElem?_getD]
theorem rot_same (x k:Nat) (w:World) (hx:x<18446744073709551616) (hk:k<64):
 Calls Tryz.prog 254 #[.int .u64 x, .int .i64 k] w fun e w'=>e= .returned (.int .u64 (rotl x k:Nat))∧w'=w:=
 (rot_any x k w hx hk).mono fun _ _ ⟨h,h'⟩=>⟨h,h'.symm⟩
theorem turn_lt (k:Nat):nth turnL k<64:=by
 unfold nth
 rw[List.getD_eq_getElem?_getD]
 rcases h:turnL[k]? with _ | x
 ·decide
 ·have:∀y∈turnL,y<64:=by decide
  exact this x (List.mem_of_getElem? h)
theorem xor_ones (x:Nat) (h:x<18446744073709551616):18446744073709551615 ^^^ x=18446744073709551615-x:=by
 have e:=congrArg BitVec.toNat (BitVec.allOnes_xor (x:=BitVec.ofNat 64 x))
 rw[BitVec.toNat_xor,BitVec.toNat_not,BitVec.toNat_ofNat,BitVec.toNat_allOnes,Nat.mod_eq_of_lt (by simpa using h)] at e
 simpa using e
theorem c_val (b:List Nat) (k m1 m2:Nat) (hb:Low b):bits BinOp.xor IntKind.u64 ((nth b k:Nat):Int) (bits BinOp.and IntKind.u64 (bits BinOp.xor IntKind.u64 (if IntKind.u64.signed=true then -1 else IntKind.u64.max) ((nth b m1:Nat):Int)) ((nth b m2:Nat):Int))=
 ((nth b k ^^^((18446744073709551615-nth b m1)&&&nth b m2):Nat):Int):=by
 have e:(if IntKind.u64.signed=true then -1 else IntKind.u64.max:Int)=((18446744073709551615:Nat):Int):=rfl
 rw[e,u64_xor_nat _ _ (by decide) (hb _),xor_ones _ (hb _),u64_and_nat _ _ (by omega) (hb _),u64_xor_nat _ _ (hb _) (and_low (hb _))]
theorem index_const (r:Nat) (h:r<24) (w:World):(Instr.index 238 (.agg constV.toArray) (.int .i64 r)).run Tryz.prog w= .ok (.int .u64 ((nth constL r:Nat):Int)) w:=by
 have hc:constV[r]? =some (.int .u64 ((nth constL r:Nat):Int)):=lanes_at (l:=constL) h
 simp[Instr.index,run_underlying Tryz.underlying238,asIntOf,go_sem,h]
 rw[hc]
 rfl
theorem p_step {w:World} {P T m k:Nat} {q:List Nat} (h:Blk w P T (lanes (pfold q k))) (hm:k%5=m):
 Blk (w.setCell ⟨P,m,none⟩ (.int .u64 ((nth (pfold q k) m ^^^ nth q k:Nat):Int))) P T (lanes (pfold q (k+1))):=by
 have:=h.set m (.int .u64 ((nth (pfold q k) m ^^^ nth q k:Nat):Int))
 rw[lanes_set] at this
 rw[pfold,hm]
 exact this
theorem b_step {w:World} {P T k i v:Nat} {q p:List Nat} (h:Blk w P T (lanes (bfold q p k))) (hi:bIdx k=i) (hv:bVal q p k=v):
 Blk (w.setCell ⟨P,i,none⟩ (.int .u64 (v:Int))) P T (lanes (bfold q p (k+1))):=by
 have:=h.set i (.int .u64 (v:Int))
 rw[lanes_set] at this
 rw[bfold,hi,hv]
 exact this
theorem c_step {w:World} {P T k v:Nat} {q b:List Nat} (h:Blk w P T (lanes (cfold q b k))) (hv:cVal b k=v):
 Blk (w.setCell ⟨P,k,none⟩ (.int .u64 (v:Int))) P T (lanes (cfold q b (k+1))):=by
 have:=h.set k (.int .u64 (v:Int))
 rw[lanes_set] at this
 rw[cfold,hv]
 exact this
theorem last_step {w:World} {A T r:Nat} {a q p b:List Nat} (h:Blk w A T (lanes (cfold q b 25))) (hq:permN a r=q) (hp:pfold q 25=p) (hb:bfold q p 25=b):
 Blk (w.setCell ⟨A,0,none⟩ (.int .u64 ((nth (cfold q b 25) 0 ^^^ nth constL r:Nat):Int))).drew A T (lanes (permN a (r+1))):=by
 have:=h.set 0 (.int .u64 ((nth (cfold q b 25) 0 ^^^ nth constL r:Nat):Int))
 rw[lanes_set] at this
 rw[permN,hq,roundS,hp,hb]
 exact this.drew
set_option maxHeartbeats 1000000 in
set_option maxRecDepth 100000 in
theorem permute_any (A:Nat) (a:List Nat) (w:World) (hT:Tabs w) (hA:Blk w A 148 (lanes a)) (hl:a.length=25) (ha:Low a) (h2:1<A):
 Calls Tryz.prog 217 #[.pointer (some ⟨A,0,none⟩)] w fun e w'=>e= .returned (.tuple #[])∧Blk w' A 148 (lanes (perm a))∧Keeps (·=A) w w':=by
 obtain⟨t0,f0,hg0⟩:=hT.c
 have HT:=Hd.mk hT
 have HA:=Hd.mk hA
 clear hT hA
 go_enter Tryz.func217,Tryz.ntmps217
 go_wp2_with (refine wpList_load_row rfl 238 _ rfl 0 rfl t0 _ f0 _ hg0 Tryz.underlying238 rfl (by kernel_rfl) ?_)
 go_loopw [16] (fun i wr=>∃r:Nat,r≤24∧i= .int .i64 r∧Blk wr A 148 (lanes (permN a r))∧Keeps (·=A) w wr) (fun i _=>24-(intOf i).toNat)
 case atStart=>exact⟨0,by omega,rfl,HA.out,Keeps.refl _ _⟩
 case round=>
  obtain⟨r,hr,rfl,hB,hK⟩:=hrel
  by_cases hlt:r<24
  ·have hLL:=permN_low ha hl r
   obtain⟨q,hq⟩:∃q,permN a r=q:=⟨_,rfl⟩
   rw[hq] at hB hLL
   obtain⟨hLq,hlq⟩:=hLL
   have HQ:=Hd.mk hq
   clear hq
   have HB:=Hd.mk hB
   clear hB
   have hidx:=fun(w:World)=>index_const r hlt w
   have hAw:A<wr.heap.size:=HB.out.lt
   have hdr:decide ((r:Int)<24)=true:=by simp;omega
   obtain⟨wo,hwo⟩:∃wo:World,wo=wr:=⟨_,rfl⟩
   subst hwo
   have hBp:=Hd.mk (Blk.new wo 239 (lanes (pfold q 0)))
   go_wp2
   go_loopw [20] (fun i wr=>∃k:Nat,k≤25∧i= .int .i64 k∧Blk wr wo.heap.size 239 (lanes (pfold q k))∧Blk wr A 148 (lanes q)∧Keeps (·=wo.heap.size) (wo.alloc (.cells (lanes (pfold q 0)).toArray 239)) wr) (fun i _=>25-(intOf i).toNat)
   case atStart=>exact⟨0,by omega,rfl,hBp.out,HB.out.alloc _,Keeps.refl _ _⟩
   case round=>
    obtain⟨k,hk,rfl,bP,bA,hK1⟩:=hrel
    by_cases hlk:k<25
    ·have pl:=pfold_low hLq k
     obtain⟨m,hm⟩:∃m,k%5=m:=⟨_,rfl⟩
     have em:(k:Int)%5=(m:Int):=by omega
     have hm5:m<5:=by omega
     have cA:=bA.at (lanes_at (l:=q) (j:=k) (by omega))
     have cP:=bP.at (lanes_at (l:=pfold q k) (j:=m) (by omega))
     have fP:=bP.free m
     have xx:=u64_xor_nat (nth (pfold q k) m) (nth q k) (pl.1 _) (hLq _)
     have HM:=Hd.mk hm
     have HBP:=Hd.mk bP
     have HBA:=Hd.mk bA
     clear hm bP bA pl
     go_wp2
     go_quiet (fail)
     go_wp2
     go_roundw
     case rel=>
      exact⟨k+1,by omega,by go_num,p_step (HBP.out.drewN _) HM.out,(HBA.out.drewN _).other (by simp;omega) _,(hK1.drewN _).setCell (.inr rfl) _⟩
     case measure=>simp[intOf];omega
    ·have hk25:k=25:=by omega
     rw[hk25] at bP
     clear hk25
     have hdk:decide ((k:Int)<25)=false:=by simp;omega
     have pl:=pfold_low hLq 25
     obtain⟨p,hp⟩:∃p,pfold q 25=p:=⟨_,rfl⟩
     rw[hp] at bP pl
     obtain⟨hLp,hlp⟩:=pl
     have HP:=Hd.mk hp
     have HBP:=Hd.mk bP
     have HBA:=Hd.mk bA
     clear hp bP bA
     obtain⟨w1,hw1⟩:∃w1:World,w1=wr:=⟨_,rfl⟩
     subst hw1
     have hPw:wo.heap.size<w1.heap.size:=HBP.out.lt
     have hBb:=Hd.mk (Blk.new w1 148 (lanes (bfold q p 0)))
     go_wp2
     go_loopw [35] (fun i wr=>∃k:Nat,k≤25∧i= .int .i64 k∧Blk wr w1.heap.size 148 (lanes (bfold q p k))∧Blk wr wo.heap.size 239 (lanes p)∧Blk wr A 148 (lanes q)∧Keeps (·=w1.heap.size) (w1.alloc (.cells (lanes (bfold q p 0)).toArray 148)) wr) (fun i _=>25-(intOf i).toNat)
     case atStart=>exact⟨0,by omega,rfl,hBb.out,HBP.out.alloc _,HBA.out.alloc _,Keeps.refl _ _⟩
     case round=>
      obtain⟨k,hk,rfl,bB,bP,bA,hK2⟩:=hrel
      by_cases hlk:k<25
      ·have bl:=bfold_low hLq hLp k
       obtain⟨m,hm⟩:∃m,k%5=m:=⟨_,rfl⟩
       obtain⟨d,hd⟩:∃d,k/5=d:=⟨_,rfl⟩
       obtain⟨m4,hm4⟩:∃m4,(m+4)%5=m4:=⟨_,rfl⟩
       obtain⟨m1,hm1⟩:∃m1,(m+1)%5=m1:=⟨_,rfl⟩
       obtain⟨e5,he5⟩:∃e5,(2*m+3*d)%5=e5:=⟨_,rfl⟩
       have em:(k:Int)%5=(m:Int):=by omega
       have ed:(k:Int)/5=(d:Int):=by omega
       have em4:((m:Int)+4)%5=(m4:Int):=by omega
       have em1:((m:Int)+1)%5=(m1:Int):=by omega
       have ee5:(2*(m:Int)+3*(d:Int))%5=(e5:Int):=by omega
       have bm:m<5:=by omega
       have bd:d<5:=by omega
       have bm4:m4<5:=by omega
       have bm1:m1<5:=by omega
       have be5:e5<5:=by omega
       have cA:=bA.at (lanes_at (l:=q) (j:=k) (by omega))
       have cP4:=bP.at (lanes_at (l:=p) (j:=m4) (by omega))
       have cP1:=bP.at (lanes_at (l:=p) (j:=m1) (by omega))
       have cB:=bB.at (lanes_at (l:=bfold q p k) (j:=d+5*e5) (by omega))
       have fB:=bB.free (d+5*e5)
       have hTr:Tabs wr:=((HT.out.keeps hK (by omega) (by omega)).keeps ((Keeps.refl (·=wo.heap.size) wo).alloc _) (by have:=HT.out.lt;omega) (by omega)).keeps hK1 (by omega) (by omega) |>.keeps ((Keeps.refl (·=w1.heap.size) w1).alloc _) (by omega) (by omega) |>.keeps hK2 (by omega) (by omega)
       have cT:=hTr.turn hlk
       have HMs:=Hd.mk (And.intro hm (And.intro hd (And.intro hm4 (And.intro hm1 he5))))
       have HBB:=Hd.mk bB
       have HBP':=Hd.mk bP
       have HBA':=Hd.mk bA
       have hBw:w1.heap.size<wr.heap.size:=bB.lt
       clear hm hd hm4 hm1 he5 bB bP bA hTr bl
       repeat go_step
       go_quiet (fail)
       repeat go_step
       have cP4':(wr.drewN nq).cell? ⟨wo.heap.size,m4,none⟩=some (.int .u64 ((nth p m4:Nat):Int)):=cP4
       have cP1':(wr.drewN nq).cell? ⟨wo.heap.size,m1,none⟩=some (.int .u64 ((nth p m1:Nat):Int)):=cP1
       have cT':(wr.drewN nq).cell? ⟨1,k,none⟩=some (.int .i64 ((nth turnL k:Nat):Int)):=cT
       have cB':(wr.drewN nq).cell? ⟨w1.heap.size,d+5*e5,none⟩=some (.int .u64 ((nth (bfold q p k) (d+5*e5):Nat):Int)):=cB
       have fB':(wr.drewN nq).frozen? ⟨w1.heap.size,d+5*e5,none⟩=false:=fB
       have HBB2:=Hd.mk (HBB.out.drewN nq)
       have HBP2:=Hd.mk (HBP'.out.drewN nq)
       have HBA2:=Hd.mk (HBA'.out.drewN nq)
       have HK2:=Hd.mk (hK2.drewN nq)
       clear cP4 cP1 cT cB fB cA HBB HBP' HBA' hK2
       generalize wr.drewN nq=w2 at*
       have l1:=hLp m1
       have l4:=hLp m4
       have lk:=hLq k
       have r1:=rotl_low l1 1
       have x1:=u64_xor_nat (nth p m4) (rotl (nth p m1) 1) l4 r1
       have x2:=u64_xor_nat (nth q k) (nth p m4 ^^^ rotl (nth p m1) 1) lk (xor_low l4 r1)
       have s4:IntKind.i64.wrap ((m:Int)+4)=(m:Int)+4:=IntWalk.i64_in _ (by omega)
       have s1:IntKind.i64.wrap ((m:Int)+1)=(m:Int)+1:=IntWalk.i64_in _ (by omega)
       have t4:((m:Int)+4).tmod 5=(m4:Int):=by rw[Int.tmod_eq_emod_of_nonneg (by omega)];exact em4
       have t1:((m:Int)+1).tmod 5=(m1:Int):=by rw[Int.tmod_eq_emod_of_nonneg (by omega)];exact em1
       go_quiet ((go_at_call 254;exact Calls.quiet_of_same (rot_same _ 1 _ l1 (by decide))))
       clear s4 s1 t4 t1
       have lt64:nth turnL k<64:=turn_lt k
       have lv:=xor_low lk (xor_low l4 r1)
       go_wp2_with (go_at_call 254;refine(rot_any _ _ _ lv lt64).mono ?_;rintro e w' ⟨rfl,rfl⟩)
       obtain⟨hm,hd,hm4,hm1,he5⟩:=HMs.out
       go_roundw
       case rel=>
        exact⟨k+1,by omega,by go_num,b_step (HBB2.out.drewN _) (by unfold bIdx;rw[hm,hd,he5]) (by unfold bVal;rw[hm,hm4,hm1]),(HBP2.out.drewN _).other (by simp;omega) _,(HBA2.out.drewN _).other (by simp;omega) _,(HK2.out.drewN _).setCell (.inr rfl) _⟩
       case measure=>simp[intOf];omega
      ·have hk25:k=25:=by omega
       rw[hk25] at bB
       clear hk25
       have hdk':decide ((k:Int)<25)=false:=by simp;omega
       have bl:=bfold_low hLq hLp 25
       obtain⟨b,hb⟩:∃b,bfold q p 25=b:=⟨_,rfl⟩
       rw[hb] at bB bl
       obtain⟨hLb,hlb⟩:=bl
       have HBf:=Hd.mk hb
       clear hb
       obtain⟨w2,hw2⟩:∃w2:World,w2=wr:=⟨_,rfl⟩
       subst hw2
       have HBB:=Hd.mk bB
       have HBP':=Hd.mk bP
       have HBA':=Hd.mk bA
       have hBw:w1.heap.size<w2.heap.size:=bB.lt
       clear bB bP bA
       go_wp2
       go_loopw [75] (fun i wr=>∃k:Nat,k≤25∧i= .int .i64 k∧Blk wr w1.heap.size 148 (lanes b)∧Blk wr A 148 (lanes (cfold q b k))∧Keeps (·=A) w2 wr) (fun i _=>25-(intOf i).toNat)
       case atStart=>exact⟨0,by omega,rfl,HBB.out,HBA'.out,Keeps.refl _ _⟩
       case round=>
        obtain⟨k,hk,rfl,bB,bA,hK3⟩:=hrel
        by_cases hlk:k<25
        ·have cl:=cfold_low hLq hLb hlq k
         obtain⟨m,hm⟩:∃m,k%5=m:=⟨_,rfl⟩
         obtain⟨rw_,hrw⟩:∃rw_,k-k%5=rw_:=⟨_,rfl⟩
         obtain⟨m1,hm1⟩:∃m1,(m+1)%5=m1:=⟨_,rfl⟩
         obtain⟨m2,hm2⟩:∃m2,(m+2)%5=m2:=⟨_,rfl⟩
         have em:(k:Int)%5=(m:Int):=by omega
         have er:(k:Int) -(m:Int)=(rw_:Int):=by omega
         have em1:((m:Int)+1)%5=(m1:Int):=by omega
         have em2:((m:Int)+2)%5=(m2:Int):=by omega
         have bm:m<5:=by omega
         have bm1:m1<5:=by omega
         have bm2:m2<5:=by omega
         have br:rw_≤20:=by omega
         have cA:=bA.at (lanes_at (l:=cfold q b k) (j:=k) (by omega))
         have cB:=bB.at (lanes_at (l:=b) (j:=k) (by omega))
         have cB1:=bB.at (lanes_at (l:=b) (j:=rw_+m1) (by omega))
         have cB2:=bB.at (lanes_at (l:=b) (j:=rw_+m2) (by omega))
         have fA:=bA.free k
         have HMs:=Hd.mk (And.intro hm (And.intro hrw (And.intro hm1 hm2)))
         have HBB':=Hd.mk bB
         have HBA2:=Hd.mk bA
         clear hm hrw hm1 hm2 bB bA cl
         repeat go_step
         go_region
         go_wp2
         obtain⟨hm,hrw,hm1,hm2⟩:=HMs.out
         go_roundw
         case rel=>
          refine⟨k+1,by omega,by go_num,(HBB'.out.other (a:=⟨A,k,none⟩) (by simp;omega) _).drew,?_,(hK3.setCell (p:=⟨A,k,none⟩) (.inr rfl) _).drew⟩
          rw[c_val b k (rw_+m1) (rw_+m2) hLb]
          exact(c_step HBA2.out (by unfold cVal;rw[hrw,hm,hm1,hm2])).drew
         case measure=>simp[intOf];omega
        ·have hk25:k=25:=by omega
         rw[hk25] at bA
         have cl:=cfold_low hLq hLb hlq 25
         have cA:=bA.at (lanes_at (l:=cfold q b 25) (j:=0) (by omega))
         have fA:=bA.free 0
         have xx:=u64_xor_nat (nth (cfold q b 25) 0) (nth constL r) (cl.1 _) (const_low _)
         have HBA2:=Hd.mk bA
         clear hk25 bA bB cl
         have HK0:=Hd.mk hK
         have HK1:=Hd.mk hK1
         have HK2:=Hd.mk hK2
         have HK3:=Hd.mk hK3
         clear hK hK1 hK2 hK3
         repeat go_step
         go_region
         go_wp2
         go_roundw
         case rel=>
          refine⟨r+1,by omega,by go_num,?_,?_⟩
          ·exact last_step HBA2.out HQ.out HP.out HBf.out
          ·exact((HK0.out.trans ((HK1.out.fresh rfl).trans ((HK2.out.fresh rfl).trans HK3.out))).setCell (p:=⟨A,0,none⟩) (.inr rfl) _).drew
         case measure=>simp[intOf];omega
  ·have hr24:r=24:=by omega
   rw[hr24] at hB
   clear hr24
   have HB:=Hd.mk hB
   clear hB
   go_wp2
   go_end0
   exact⟨rfl,HB.out,hK⟩
end Go.Proofs.YtfaepbjnpakghaaGreatDoor.W
namespace Go.Proofs.YtfaepbjnpakghaaGreatDoor.W
open Go.RowKit
set_option linter.unusedVariables false
theorem abs_val (x b e:Nat) (hx:x<18446744073709551616) (hb:b<256):
 bits BinOp.xor IntKind.u64 (x:Int) (IntKind.u64.wrap (IntKind.u64.wrap (b:Int)*2 ^ e))=((x ^^^(b*2 ^ e%18446744073709551616):Nat):Int):=by
 have e0:IntKind.u64.wrap (b:Int)=(b:Int):=by rw[IntKind.wrap_u64];omega
 have e1:IntKind.u64.wrap ((b:Int)*2 ^ e)=((b*2 ^ e%18446744073709551616:Nat):Int):=by
  rw[IntKind.wrap_u64,Int.natCast_emod,Int.natCast_mul,Int.natCast_pow];rfl
 rw[e0,e1,u64_xor_nat _ _ hx (Nat.mod_lt _ (by decide))]
theorem abs_step {w:World} {A T k d:Nat} {a:List Nat} {s:List UInt8} {v:Nat} (h:Blk w A T (lanes (absorbN a s k))) (hd:k/8=d)
 (hv:v=nth (absorbN a s k) d ^^^((s.getD k 0).toNat*2 ^(8*(k%8))%18446744073709551616)):
 Blk (w.setCell ⟨A,d,none⟩ (.int .u64 (v:Int))) A T (lanes (absorbN a s (k+1))):=by
 have:=h.set d (.int .u64 (v:Int))
 rw[lanes_set] at this
 rw[absorbN,hd,←hv]
 exact this
set_option maxHeartbeats 1000000 in
theorem absorb_any (A:Nat) (a:List Nat) (s:ByteArray) (w:World) (hT:Tabs w) (hA:Blk w A 148 (lanes a)) (hl:a.length=25) (ha:Low a) (h2:1<A) (hs:s.size≤136):
 Calls Tryz.prog 127 #[.pointer (some ⟨A,0,none⟩), .string s] w fun e w'=>e= .returned (.tuple #[])∧Blk w' A 148 (lanes (absorbF a s.data.toList))∧Keeps (·=A) w w':=by
 have HT:=Hd.mk hT
 have HA:=Hd.mk hA
 clear hT hA
 go_enter Tryz.func127,Tryz.ntmps127
 go_wp2
 go_loopw [7] (fun i wr=>∃k:Nat,k≤s.size∧i= .int .i64 k∧Blk wr A 148 (lanes (absorbN a s.data.toList k))∧Keeps (·=A) w wr) (fun i _=>s.size-(intOf i).toNat)
 case atStart=>exact⟨0,Nat.zero_le _,rfl,HA.out,Keeps.refl _ _⟩
 case round=>
  obtain⟨k,hk,rfl,bA,hK⟩:=hrel
  by_cases hlt:k<s.size
  ·have al:=absorbN_low ha hl s.data.toList k
   obtain⟨d,hd⟩:∃d,k/8=d:=⟨_,rfl⟩
   obtain⟨m,hm⟩:∃m,k%8=m:=⟨_,rfl⟩
   have ed:(k:Int)/8=(d:Int):=by omega
   have em:(k:Int)%8=(m:Int):=by omega
   have bd:d<17:=by omega
   have bm:m<8:=by omega
   have cA:=bA.at (lanes_at (l:=absorbN a s.data.toList k) (j:=d) (by omega))
   have fA:=bA.free d
   have xl:=al.1 d
   have HBA:=Hd.mk bA
   have HK:=Hd.mk hK
   have HMs:=Hd.mk (And.intro hd hm)
   clear hd hm bA hK al
   repeat go_step
   go_region
   go_wp2
   obtain⟨hd,hm⟩:=HMs.out
   have eb:(s.data.toList.getD k 0).toNat=s[k].toNat:=by
    rw[List.getD_eq_getElem?_getD,List.getElem?_eq_getElem (by simpa using hlt)]
    simp;rfl
   go_roundw
   case rel=>
    refine⟨k+1,by omega,by go_num,?_,(HK.out.setCell (p:=⟨A,d,none⟩) (.inr rfl) _).drew⟩
    rw[abs_val _ s[k].toNat (8*m) xl s[k].toNat_lt]
    exact(abs_step HBA.out hd (by rw[eb,hm])).drew
   case measure=>simp[intOf];omega
  ·have hks:k=s.size:=by omega
   have hll:s.data.toList.length=s.size:=by simp
   rw[hks] at bA
   have al:=absorbN_low ha hl s.data.toList s.size
   have hT1:=HT.out.keeps hK (by omega) (by omega)
   have HBA:=Hd.mk bA
   have HK:=Hd.mk hK
   have HL:=Hd.mk hll
   clear hks hll bA hK
   go_wp2_with (go_at_call 217;refine(permute_any A _ _ hT1 HBA.out al.2 al.1 h2).mono ?_;rintro e w' ⟨rfl,hb,hk2⟩)
   go_end0
   refine⟨rfl,?_,HK.out.trans hk2⟩
   unfold absorbF
   rw[HL.out]
   exact hb
end Go.Proofs.YtfaepbjnpakghaaGreatDoor.W
namespace Go.Proofs.YtfaepbjnpakghaaGreatDoor.W
open Go.RowKit
set_option linter.unusedVariables false
theorem sizeBuilder:(Tryz.prog.info? 152).map (·.size)=some 2:=by kernel_rfl
theorem infoByte:(Tryz.prog.info? 5).map (fun i=>(i.zero,i.size,i.bytes))=some (some (.int .u8 0),1,1):=by kernel_rfl
set_option maxHeartbeats 1000000 in
set_option maxRecDepth 100000 in
theorem check_used (b:Nat) (w:World) (h0:w.cell? ⟨b,0,none⟩=some (.pointer (some ⟨b,0,none⟩))):
 Calls Tryz.prog 218 #[.pointer (some ⟨b,0,none⟩)] w fun e w'=>e= .returned (.tuple #[])∧w'=w:=by
 obtain⟨j,hj,_⟩:=Option.map_eq_some_iff.1 sizeBuilder
 go_enter Tryz.func218,Tryz.ntmps218
 go_wp2
 rw[Lib.run_neq_ptr_same w _ Tryz.underlying150 hj]
 go_wp2
 go_end0
 exact⟨rfl,rfl⟩
set_option maxHeartbeats 1000000 in
set_option maxRecDepth 100000 in
theorem check_fresh (b:Nat) (w:World) (h0:w.cell? ⟨b,0,none⟩=some (.pointer none)) (hsh:w.shape? b=some (152,2)) (hfz:w.frozen? ⟨b,0,none⟩=false):
 Calls Tryz.prog 218 #[.pointer (some ⟨b,0,none⟩)] w fun e w'=>e= .returned (.tuple #[])∧w'=w.setCell ⟨b,0,none⟩ (.pointer (some ⟨b,0,none⟩)):=by
 obtain⟨j,hj,hjs⟩:=Option.map_eq_some_iff.1 sizeBuilder
 go_enter Tryz.func218,Tryz.ntmps218
 go_wp2
 rw[Lib.run_to_unsafe w ⟨b,0,none⟩ Tryz.underlying150 Tryz.underlying242 hj (by rw[hjs];decide) hsh (Nat.zero_lt_succ 1)]
 simp only[Result.andThen]
 rw[Oper.upon_value]
 go_wp2
 rw[run_callFunc_extern Tryz.func255 (by kernel_rfl) (by kernel_rfl) (by kernel_rfl) (e:=Extern.AbiNoEscape.same) (by kernel_rfl)]
 rw[Lib.run_noEscape]
 simp only[Result.andThen]
 rw[Oper.upon_value]
 go_wp2
 rw[Lib.run_from_unsafe w ⟨b,0,none⟩ Tryz.underlying242 Tryz.underlying150 hj hsh (by kernel_rfl)]
 simp only[Result.andThen]
 rw[Oper.upon_value]
 go_wp2
 go_end0
 exact⟨rfl,rfl⟩
theorem check_any (B b:Nat) (bs:List Value) (w:World) (h:Lib.IsBuilder 152 5 B b bs w):
 Calls Tryz.prog 218 #[.pointer (some ⟨b,0,none⟩)] w fun e w'=>e= .returned (.tuple #[])∧(Lib.BuilderAt 152 5 B b (.pointer (some ⟨b,0,none⟩)) bs w'∧Below B w w'):=by
 rcases h with h | h
 ·refine(check_fresh b w h.cell0 h.shape h.frozen0).mono ?_
  rintro e w' ⟨rfl,rfl⟩
  exact⟨rfl,h.used _,(Below.refl B w).setCell (p:=⟨b,0,none⟩) h.1 _⟩
 ·refine(check_used b w h.cell0).mono ?_
  rintro e w' ⟨rfl,rfl⟩
  exact⟨rfl,h,Below.refl B _⟩
set_option maxHeartbeats 2000000 in
set_option maxRecDepth 100000 in
theorem write_any (B b:Nat) (bs:List Value) (c:Int) (w:World) (h:Lib.IsBuilder 152 5 B b bs w) (hlen:bs.length+1≤140737488355328) (hBw:B≤w.heap.size):
 Calls Tryz.prog 128 #[.pointer (some ⟨b,0,none⟩), .int .u8 c] w fun e w'=>e= .returned .nilIface∧(Lib.IsBuilder 152 5 B b (bs++[.int .u8 c]) w'∧Below B w w'):=by
 obtain⟨i0,hi,hz0,hz1,hz2⟩:=info_parts infoByte
 go_enter Tryz.func128,Tryz.ntmps128
 go_wp2_with (go_at_call 218;refine(check_any B b bs _ h).mono ?_)
 rintro e w1 ⟨rfl,h1,hb1⟩
 obtain⟨hB,v,hbk,hown,hne⟩:=h1
 have c0:w1.cell? ⟨b,0,none⟩=some (.pointer (some ⟨b,0,none⟩)):=by rw[Lib.cell_of_heap hbk];rfl
 have c1:w1.cell? ⟨b,1,none⟩=some v:=by rw[Lib.cell_of_heap hbk];rfl
 go_wp2_with (at_builtin;refine wpList_append_own _ rfl _ _ 142 rfl B 5 i0 (.int .u8 0) 1 1 Tryz.underlying142 hi hz0 hz1 hz2 rfl (by decide) _ _ _ rfl (hown.alloc _) ⟨w1.heap.size,0,none⟩ 1 1 [.int .u8 c] rfl rfl ?c1 ?c2 ?c3 ?c4 ?c5 ?_)
 case c1=>
  intro j u hj
  match j,hj with
  | 0,hj=>simp at hj;subst hj;simp[Addr.add]
 case c2=>intro u hu;simp at hu;subst hu;rfl
 case c3=>unfold maxLen;omega
 case c4=>omega
 case c5=>have:=hb1.size;simp;omega
 intro v' w2 hown' hgrow _
 have hlt:b<w1.heap.size:=by
  rcases Nat.lt_or_ge b w1.heap.size with h' | h'
  ·exact h'
  ·simp[Array.getElem?_eq_none h'] at hbk
 have hb2:w2.heap[b]? =some (.cells #[.pointer (some ⟨b,0,none⟩),v] 152 (0,0)):=by
  rw[hgrow.block b (by simp;omega) (fun e=>hne e.symm),Lib.alloc_old w1 _ b hlt]
  exact hbk
 have d0:w2.cell? ⟨b,0,none⟩=some (.pointer (some ⟨b,0,none⟩)):=by rw[Lib.cell_of_heap hb2];rfl
 have d1:w2.cell? ⟨b,1,none⟩=some v:=by rw[Lib.cell_of_heap hb2];rfl
 have f1:w2.frozen? ⟨b,1,none⟩=false:=Lib.frozen_of_heap hb2 1
 obtain⟨g,cap,rfl⟩:∃g cap,v'= .slice (some ⟨g,0,none⟩) (bs.length+1) cap:=by
  rcases hown'.2 with⟨_,h0⟩ | ⟨g,cap,cur,hv,_⟩
  ·omega
  ·exact⟨g,cap,hv⟩
 go_wp2
 go_ret
 refine⟨rfl, .inr ?_,?_⟩
 ·exact Lib.BuilderAt.put (T:=152) (e:=5) hB hb2 (bs':=bs++[.int .u8 c]) (by simpa using hown') (by decide)
 ·exact((hb1.alloc (by have:=hb1.size;omega) _).grown hgrow (by have:=hb1.size;simp;omega) (fun k hk=>(hown.lt k hk).1)).setCell (p:=⟨b,1,none⟩) hB _
end Go.Proofs.YtfaepbjnpakghaaGreatDoor.W
namespace Go.Proofs.YtfaepbjnpakghaaGreatDoor.W
open Go.RowKit
set_option linter.unusedVariables false
theorem tail_list (s:ByteArray) (a:Nat):(s.extract a s.size).data.toList=s.data.toList.drop a:=by
 have hl:s.data.toList.length=s.size:=by simp
 rw[Lib.extract_data,List.take_of_length_le (by rw[List.length_drop];omega)]
theorem ex1 (s:ByteArray) (n:Nat) (h:136*n+136≤s.size):(s.extract (136*n) s.size).extract 136 (s.size-136*n)=s.extract (136*(n+1)) s.size:=by
 have hl:s.data.toList.length=s.size:=by simp
 apply ByteArray.ext
 apply Array.ext'
 rw[Lib.extract_data,tail_list,tail_list,List.drop_drop,List.take_of_length_le (by rw[List.length_drop];omega),Nat.mul_succ]
def zb:List UInt8:=List.replicate 136 0
theorem make_last (w:World):(Instr.makeSlice 142 (.int .i64 136) (.int .i64 136)).run Tryz.prog w= .ok (.slice (some ⟨w.heap.size,0,none⟩) 136 136) (w.alloc (.cells (Lib.byteCells zb).toArray 5)):=by kernel_rfl
theorem ex2 (s:ByteArray) (n:Nat):((s.extract (136*n) s.size).extract 0 136).data.toList=(s.data.toList.drop (136*n)).take 136:=by
 have hl:s.data.toList.length=s.size:=by simp
 rw[Lib.extract_data,Lib.extract_data,List.drop_zero,Nat.sub_zero,List.take_of_length_le (l:=s.data.toList.drop (136*n)) (by rw[List.length_drop];omega)]
theorem byteCells_at {l:List UInt8} {j:Nat} (h:j<l.length):(Lib.byteCells l)[j]? =some (.int .u8 ((l.getD j 0).toNat:Int)):=by
 simp[Lib.byteCells,List.getElem?_eq_getElem h,List.getD_eq_getElem?_getD]
theorem byteCells_len (l:List UInt8):(Lib.byteCells l).length=l.length:=by simp[Lib.byteCells]
theorem byteCells_set (l:List UInt8) (j:Nat) (v:UInt8):(Lib.byteCells l).set j (.int .u8 (v.toNat:Int))=Lib.byteCells (l.set j v):=by
 simp[Lib.byteCells,List.map_set]
theorem keeps_setRow {W:World} {g:Nat} (cs:Array Value):Keeps (·=g) W (W.setRow g cs):=
 ⟨rfl,rfl,rfl,by simp[World.setRow],fun k hk hn=>by
  have:g≠k:=fun e=>hn e.symm
  simp[World.setRow,Array.getElem?_modify,this]⟩
theorem copy_last (W:World) (g:Nat) (r:ByteArray) (l:List UInt8) (hb:Blk W g 5 (Lib.byteCells l)) (hr:r.size≤l.length) (hl:l.length=136:=by rfl):
 ∃W2,(Builtin.copy_ #[142,9] 3 #[.slice (some ⟨g,0,none⟩) 136 136, .string r]).run Tryz.prog W= .ok (.int .i64 r.size) W2∧Blk W2 g 5 (Lib.byteCells (r.data.toList++l.drop r.size))∧Keeps (·=g) W W2:=by
 have h:=Lib.run_copy_row_string (P:=Tryz.prog) W 142 9 3 5 g 0 136 136 r _ 5 Tryz.underlying142 (by kernel_rfl) hb.is (by omega) (by simp[Lib.byteCells];omega)
 refine⟨_,h,⟨?_⟩,keeps_setRow _⟩
 rw[setRow_heap _ _ _ _ _ _ hb.is]
 simp[Lib.byteCells]
theorem back_row {W:World} {g cap:Nat} {l:List UInt8} (hb:Blk W g 5 (Lib.byteCells l)) (hl:l.length=136):
 (convert 142 9 (.slice (some ⟨g,0,none⟩) 136 cap)).run Tryz.prog W= .ok (.string ⟨l.toArray⟩) W:=by
 have:=run_convert_bytes_back (P:=Tryz.prog) W 142 9 5 ⟨g,0,none⟩ cap l Tryz.underlying142 Tryz.underlying5 Tryz.underlying9 (fun j hj=>by
  have e:(⟨g,0,none⟩:Addr).add j=⟨g,j,none⟩:=by unfold Addr.add;split<;>simp_all
  rw[e,hb.cell,byteCells_at hj]
  simp[List.getD_eq_getElem?_getD,List.getElem?_eq_getElem hj])
 rwa [hl] at this
theorem pad_eq {r:ByteArray} (hr:r.size<136):
 ((r.data.toList++zb.drop r.size).set r.size 6).set 135 (((r.data.toList++zb.drop r.size).set r.size 6).getD 135 0 ||| 128)=padL r.data.toList:=by
 have hl:r.data.toList.length=r.size:=by simp
 have hz:zb.length=136:=rfl
 have hlen:(r.data.toList++zb.drop r.size).length=136:=by rw[List.length_append,List.length_drop,hl,hz];omega
 have hzb:∀j (h:j<zb.length),zb[j]=0:=fun j h=>List.getElem_replicate ..
 have get:∀j (h:j<136),((r.data.toList++zb.drop r.size).set r.size 6)[j]'(by rw[List.length_set,hlen];exact h)=if j<r.data.toList.length then r.data.toList.getD j 0 else(if j=r.data.toList.length then 6 else 0):=by
  intro j h
  rw[List.getElem_set]
  by_cases c1:r.size=j
  ·rw[if_pos c1,if_neg (by omega),if_pos (by omega)]
  ·rw[if_neg c1,List.getElem_append]
   by_cases c2:j<r.data.toList.length
   ·rw[dif_pos c2,if_pos c2,List.getD_eq_getElem?_getD,List.getElem?_eq_getElem c2]
    rfl
   ·rw[dif_neg c2,if_neg c2,if_neg (by omega),List.getElem_drop,hzb]
 apply List.ext_getElem
 ·rw[List.length_set,List.length_set,hlen,padL_length]
 ·intro j h1 h2
  have hj:j<136:=by rwa [padL_length] at h2
  rw[List.getElem_set]
  simp only[padL,List.getElem_map,List.getElem_range]
  by_cases c:135=j
  ·subst c
   rw[if_pos rfl,List.getD_eq_getElem?_getD,List.getElem?_eq_getElem (by rw[List.length_set,hlen];decide),Option.getD_some,get 135 (by decide)]
   by_cases c2:135<r.data.toList.length
   ·rw[if_pos c2,if_pos c2,if_pos rfl]
   ·rw[if_neg c2,if_neg c2,if_pos rfl]
  ·rw[if_neg c,get j hj]
   have c':¬j=135:=fun e=>c e.symm
   by_cases c2:j<r.data.toList.length
   ·rw[if_pos c2,if_pos c2,if_neg c'];simp
   ·rw[if_neg c2,if_neg c2,if_neg c'];simp
theorem last_rows {W2:World} {g:Nat} {r:ByteArray} (hr:r.size<136) (b2:Blk W2 g 5 (Lib.byteCells (r.data.toList++zb.drop r.size))):
 ∃x:Nat,Blk (W2.setCell ⟨g,r.size,none⟩ (.int .u8 6)) g 5 (Lib.byteCells ((r.data.toList++zb.drop r.size).set r.size 6))∧
  Blk ((W2.setCell ⟨g,r.size,none⟩ (.int .u8 6)).setCell ⟨g,135,none⟩ (.int .u8 ((x ||| 128:Nat):Int))) g 5 (Lib.byteCells (padL r.data.toList))∧
  W2.frozen? ⟨g,r.size,none⟩=false∧(W2.setCell ⟨g,r.size,none⟩ (.int .u8 6)).cell? ⟨g,135,none⟩=some (.int .u8 (x:Int))∧
  (W2.setCell ⟨g,r.size,none⟩ (.int .u8 6)).frozen? ⟨g,135,none⟩=false∧bits BinOp.or IntKind.u8 (x:Int) 128=((x ||| 128:Nat):Int):=by
 have hl:r.data.toList.length=r.size:=by simp
 have b3:=b2.set r.size (.int .u8 ((6:UInt8).toNat:Int))
 rw[byteCells_set] at b3
 have hlen:((r.data.toList++zb.drop r.size).set r.size 6).length=136:=by rw[List.length_set,List.length_append,List.length_drop,hl,show zb.length=136 from rfl];omega
 refine⟨(((r.data.toList++zb.drop r.size).set r.size 6).getD 135 0).toNat,b3,?_,b2.free _,b3.at (byteCells_at (by omega)),b3.free _,?_⟩
 ·have b4:=b3.set 135 (.int .u8 (((((r.data.toList++zb.drop r.size).set r.size 6).getD 135 0) ||| 128).toNat:Int))
  rw[byteCells_set] at b4
  refine(b4.cast ?_)
  exact congrArg _ (pad_eq hr)
 ·exact u8_or_nat _ 128 (UInt8.toNat_lt _) (by decide)
theorem out_cell (q:List Nat) (k j:Nat) (hj:j<8) (hq:nth q k<18446744073709551616):
 Lib.byteCells (outN q (8*k+j))++[.int .u8 (((nth q k:Nat):Int)/2 ^(8*j)%256)]=Lib.byteCells (outN q (8*k+(j+1))):=by
 have e:outN q (8*k+(j+1))=outN q (8*k+j)++[outB q (8*k+j)]:=by
  rw[show 8*k+(j+1)=8*k+j+1 by omega]
  simp[outN,List.range_succ]
 have v:((nth q k:Nat):Int)/2 ^(8*j)%256=((outB q (8*k+j)).toNat:Int):=by
  unfold outB
  rw[show(8*k+j)/8=k by omega,show(8*k+j)%8=j by omega]
  have h:=Nat.mod_lt (nth q k/2 ^(8*j)) (show 0<256 by decide)
  rw[show(UInt8.ofNat (nth q k/2 ^(8*j)%256)).toNat=nth q k/2 ^(8*j)%256 from Nat.mod_eq_of_lt h,Int.natCast_emod,Int.natCast_ediv,Int.natCast_pow]
  rfl
 rw[e,v]
 simp[Lib.byteCells]
theorem end_eq {s r:ByteArray} {n:Nat} (hn:s.size/136=n) (hr:s.extract (136*n) s.size=r):
 (⟨(outN (absorbF (blocksN zeros s.data.toList n) (padL r.data.toList)) 32).toArray⟩:ByteArray)=⟨(sumL s.data.toList).toArray⟩:=by
 have hl:s.data.toList.length=s.size:=by simp
 unfold sumL endState
 rw[hl,hn,←hr,tail_list]
set_option maxHeartbeats 1000000 in
set_option maxRecDepth 100000 in
theorem sum_any (s:ByteArray) (w:World) (hT:Tabs w) (hs:s.size≤1000000):
 Calls Tryz.prog 25 #[.string s] w fun e w'=>e= .returned (.string ⟨(sumL s.data.toList).toArray⟩)∧Below w.heap.size w w':=by
 have hA0:=Hd.mk (Blk.new w 148 (lanes zeros))
 have HT:=Hd.mk hT
 have hwl:=hT.lt
 clear hT
 go_enter Tryz.func25,Tryz.ntmps25
 go_wp2
 go_loopw [0] (fun v wr=>∃n:Nat,136*n≤s.size∧v= .string (s.extract (136*n) s.size)∧Blk wr w.heap.size 148 (lanes (blocksN zeros s.data.toList n))∧Keeps (·=w.heap.size) (w.alloc (.cells (lanes zeros).toArray 148)) wr) (fun v _=>match v with | .string t=>t.size | _=>0)
 case atStart=>exact⟨0,Nat.zero_le _,by simp,hA0.out,Keeps.refl _ _⟩
 case round=>
  obtain⟨n,hn,rfl,bA,hK⟩:=hrel
  by_cases hlt:136*n+136≤s.size
  ·have bl:=blocksN_low zeros_low.1 zeros_low.2 s.data.toList n
   have hTr:=(HT.out.keeps ((Keeps.refl (·=w.heap.size) w).alloc _) (by omega) (by omega)).keeps hK (by omega) (by omega)
   have HTr:=Hd.mk hTr
   have HBA:=Hd.mk bA
   have HK:=Hd.mk hK
   have HL:=Hd.mk bl
   clear hTr bA hK bl
   go_wp2_with (go_at_call 127;refine(absorb_any w.heap.size _ _ _ HTr.out HBA.out HL.out.2 HL.out.1 (by omega) (by simp;omega)).mono ?_;rintro e w' ⟨rfl,hb,hk2⟩)
   rw[ex2 s n] at hb
   go_roundw
   case rel=>
    exact⟨n+1,by omega,by rw[ex1 s n hlt],hb,HK.out.trans hk2⟩
   case measure=>simp[ByteArray.size_extract];omega
  ·have bl:=blocksN_low zeros_low.1 zeros_low.2 s.data.toList n
   have hTr:=(HT.out.keeps ((Keeps.refl (·=w.heap.size) w).alloc _) (by omega) (by omega)).keeps hK (by omega) (by omega)
   have hnd:s.size/136=n:=by omega
   obtain⟨r,hr⟩:∃r,s.extract (136*n) s.size=r:=⟨_,rfl⟩
   have hrs:r.size=s.size-136*n:=by rw[←hr];simp[ByteArray.size_extract]
   have hrl:r.size<136:=by omega
   rw[hr]
   have HN:=Hd.mk hnd
   have HR:=Hd.mk hr
   have HTr:=Hd.mk hTr
   have HBA:=Hd.mk bA
   have HK:=Hd.mk hK
   have HL:=Hd.mk bl
   have hw1:w.heap.size<wr.heap.size:=bA.lt
   clear hTr bA hK bl hnd hr hrs
   have hmk:=make_last
   have hd136:decide ((136:Int)≤(r.size:Int))=false:=by simp;omega
   have hB0:=Hd.mk (Blk.new wr 5 (Lib.byteCells zb))
   obtain⟨W2,hcp,b2,k2⟩:=copy_last (wr.alloc (.cells (Lib.byteCells zb).toArray 5)) wr.heap.size r zb hB0.out (by simp[zb];omega)
   obtain⟨x,b3,b4,f2,c3,f3,xo⟩:=last_rows hrl b2
   have c2:=b2.at (v:= .int .u8 (((r.data.toList++zb.drop r.size).getD r.size 0).toNat:Int)) (byteCells_at (by simp[zb];omega))
   have hcv:=back_row (cap:=136) b4 (by rw[padL_length])
   have KW:Keeps (fun _=>False) wr ((W2.setCell ⟨wr.heap.size,r.size,none⟩ (.int .u8 6)).setCell ⟨wr.heap.size,135,none⟩ (.int .u8 ((x ||| 128:Nat):Int))):=((k2.setCell (p:=⟨wr.heap.size,r.size,none⟩) (.inr rfl) _).setCell (p:=⟨wr.heap.size,135,none⟩) (.inr rfl) _).fresh rfl
   have HT4:=Hd.mk (HTr.out.keeps KW (fun h=>h) (fun h=>h))
   have HA4:=Hd.mk (KW.blk HBA.out (fun h=>h))
   have HKW:=Hd.mk KW
   have hw2:wr.heap.size<W2.heap.size:=b2.lt
   have hpl:(⟨(padL r.data.toList).toArray⟩:ByteArray).size≤136:=by
    show(padL r.data.toList).toArray.size≤136
    rw[List.size_toArray,padL_length];exact Nat.le_refl _
   clear b2 b3 b4 k2 KW
   go_wp2_with (go_at_call 127;refine(absorb_any w.heap.size _ ⟨(padL r.data.toList).toArray⟩ _ HT4.out HA4.out HL.out.2 HL.out.1 (by omega) hpl).mono ?_;rintro e w5 ⟨rfl,hb5,hk5⟩)
   obtain⟨q,hq⟩:∃q,absorbF (blocksN zeros s.data.toList n) (padL r.data.toList)=q:=⟨_,rfl⟩
   have ql:=absorbF_low HL.out.1 HL.out.2 (padL r.data.toList)
   have hb5':Blk w5 w.heap.size 148 (lanes q):=by rw[←hq];exact hb5
   rw[hq] at ql
   have HQ:=Hd.mk hq
   have HB5:=Hd.mk (hb5'.alloc (.cells #[.pointer none, .slice none 0 0] 152))
   have HK5:=Hd.mk hk5
   have hw5:W2.heap.size≤w5.heap.size:=by have:=hk5.size;simpa using this
   have HF:=Hd.mk (Lib.fresh_isBuilder 152 5 w5)
   clear hq hb5 hb5' hk5
   go_loopw [35] (fun i wr=>∃k:Nat,k≤4∧i= .int .i64 k∧Lib.IsBuilder 152 5 w5.heap.size w5.heap.size (Lib.byteCells (outN q (8*k))) wr∧Below w5.heap.size (w5.alloc (.cells #[.pointer none, .slice none 0 0] 152)) wr) (fun i _=>4-(intOf i).toNat)
   case atStart=>exact⟨0,by omega,rfl,HF.out,Below.refl _ _⟩
   case round=>
    obtain⟨k,hk,rfl,hI,hB⟩:=hrel
    by_cases hlk:k<4
    ·have cA:=(HB5.out.below hB (by omega)).at (lanes_at (l:=q) (j:=k) (by omega))
     have hlow:=ql.1 k
     have HI:=Hd.mk hI
     have HBl:=Hd.mk hB
     have hdk:decide ((k:Int)<4)=true:=by simp;omega
     obtain⟨wo,hwo⟩:∃wo:World,wo=wr:=⟨_,rfl⟩
     subst hwo
     clear hI hB
     go_wp2
     go_loopw [39] (fun i wr=>∃j:Nat,j≤8∧i= .int .i64 j∧Lib.IsBuilder 152 5 w5.heap.size w5.heap.size (Lib.byteCells (outN q (8*k+j))) wr∧Below w5.heap.size (w5.alloc (.cells #[.pointer none, .slice none 0 0] 152)) wr) (fun i _=>8-(intOf i).toNat)
     case atStart=>exact⟨0,by omega,rfl,HI.out,HBl.out⟩
     case round=>
      obtain⟨j,hj,rfl,hI,hB⟩:=hrel
      by_cases hlj:j<8
      ·have HI2:=Hd.mk hI
       have HB2:=Hd.mk hB
       have hsz:=hB.size
       have hln:=byteCells_len (outN q (8*k+j))
       have hln2:(outN q (8*k+j)).length≤32:=by simp[outN];omega
       clear hI hB
       go_wp2_with (go_at_call 128;refine(write_any w5.heap.size w5.heap.size _ _ _ HI2.out (by omega) (by simp at hsz;omega)).mono ?_;rintro e w6 ⟨rfl,hI6,hB6⟩)
       go_roundw
       case rel=>exact⟨j+1,by omega,by go_num,by rw[out_cell q k j hlj hlow] at hI6;exact hI6,HB2.out.trans hB6⟩
       case measure=>simp[intOf];omega
      ·have hj8:j=8:=by omega
       rw[hj8] at hI
       clear hj8
       have hdj:decide ((j:Int)<8)=false:=by simp;omega
       go_wp2
       go_roundw
       case rel=>exact⟨k+1,by omega,by go_num,hI,hB⟩
       case measure=>simp[intOf];omega
    ·have hk4:k=4:=by omega
     rw[hk4] at hI
     clear hk4
     have hdk:decide ((k:Int)<4)=false:=by simp;omega
     have HI:=Hd.mk hI
     have HB:=Hd.mk hB
     have hsz:=hB.size
     clear hI hB
     go_wp2_with (go_at_call 129;refine(_root_.Go.Proofs.Tryz.Builder_String_any w5.heap.size w5.heap.size (outN q 32) _ HI.out (by simp at hsz;omega)).mono ?_;rintro e w6 ⟨rfl,hB6⟩)
     go_ret
     refine⟨ret_s ?_,?_⟩
     ·rw[←HQ.out]
      exact end_eq HN.out HR.out
     ·have k0:Keeps (fun k=>w.heap.size≤k) w w5:=((HK.out.fresh (S:=fun k=>w.heap.size≤k) rfl).trans (HKW.out.mono (fun k _ h=>h.elim))).trans (HK5.out.mono (fun k _ h=>by show w.heap.size≤k;omega))
      have b0:Below w.heap.size w w5:=k0.below (Nat.le_refl _) (fun k hk h=>by have:w.heap.size≤k:=h;omega)
      have hsz5:w.heap.size≤w5.heap.size:=b0.size
      exact((b0.alloc hsz5 _).trans (HB.out.mono hsz5)).trans (hB6.mono hsz5)
end Go.Proofs.YtfaepbjnpakghaaGreatDoor.W
namespace Go.Proofs.YtfaepbjnpakghaaGreatDoor.W
set_option linter.unusedVariables false
def widthI (k:Int):Nat:=if k=2 then 4 else if k=3 then 2 else 8
def codeB (k:Int):Bool:=decide (5≤k∧k≤10)
def secAt (o:Ob) (i:Int):Option Sec:=if 0≤i then o.secs[i.toNat]? else none
def secOk (s:Sec):Bool:=decide (0≤s.kind∧0≤s.align∧0≤s.size)
def hasB (o:Ob) (i:Int):Bool:=match secAt o i with | some s=>secOk s | none=>false
def relHit (r:Rel) (sec:Int) (n:Nat):Bool:=decide (r.sec=sec∧(0≤r.kind∧r.kind<13)∧0≤r.at_∧r.at_≤(n:Int) -widthI r.kind)
def relFrom (r:Rel):Nat:=r.at_.toNat+(if codeB r.kind then 4 else 0)
def relTo (r:Rel):Nat:=r.at_.toNat+widthI r.kind
def zeroAt (b:List UInt8) (a z:Nat):List UInt8:=b.take a++List.replicate (z-a) 0++b.drop z
def plainStep (sec:Int) (b:List UInt8) (r:Rel):List UInt8:=if relHit r sec b.length then zeroAt b (relFrom r) (relTo r) else b
def plainL (sec:Int) (rels:List Rel) (b:List UInt8):List UInt8:=rels.foldl (plainStep sec) b
def shapeL (kind align size:Nat) (b:List UInt8):List UInt8:=numL kind++numL align++numL size++textL b
def formL (o:Ob) (i:Int):List UInt8:=match secAt o i with
 | some s=>if secOk s then sumL (shapeL s.kind.toNat s.align.toNat s.size.toNat (plainL i o.rels s.bytes.data.toList)) else []
 | none=> []
theorem widthI_le (k:Int):2≤widthI k∧widthI k≤8:=by unfold widthI;split;decide;split<;>decide
theorem width_code {k:Int} (h:codeB k=true):widthI k=8:=by
 unfold codeB at h
 have:=of_decide_eq_true h
 unfold widthI
 rw[if_neg (by omega),if_neg (by omega)]
theorem relHit_le {r:Rel} {sec:Int} {n:Nat} (h:relHit r sec n=true):relFrom r≤relTo r∧relTo r≤n∧r.at_.toNat≤relFrom r∧(r.at_=(r.at_.toNat:Int)):=by
 have h:=of_decide_eq_true h
 obtain⟨_,_,h0,h1⟩:=h
 have hw:=widthI_le r.kind
 unfold relFrom relTo
 refine⟨?_,by omega,by omega,by omega⟩
 split
 ·rename_i hc;rw[width_code hc];omega
 ·omega
theorem zeroAt_len {b:List UInt8} {a z:Nat} (h:a≤z) (hz:z≤b.length):(zeroAt b a z).length=b.length:=by
 simp[zeroAt];omega
theorem plainStep_len (sec:Int) (b:List UInt8) (r:Rel):(plainStep sec b r).length=b.length:=by
 unfold plainStep
 split
 ·rename_i h;have:=relHit_le h;exact zeroAt_len this.1 this.2.1
 ·rfl
theorem plainL_len (sec:Int):∀(rels:List Rel) (b:List UInt8),(plainL sec rels b).length=b.length
 | [],_=>rfl
 | r::rels,b=>(plainL_len sec rels (plainStep sec b r)).trans (plainStep_len sec b r)
theorem plainL_take (sec:Int) (rels:List Rel) (b:List UInt8) (k:Nat) (h:k<rels.length):plainL sec (rels.take (k+1)) b=plainStep sec (plainL sec (rels.take k) b) rels[k]:=by
 unfold plainL
 rw[List.take_succ_eq_append_getElem h,List.foldl_append];rfl
theorem secAt_in {o:Ob} {k:Nat} (h:k<o.secs.length):secAt o (k:Int)=some o.secs[k]:=by
 unfold secAt
 rw[if_pos (by omega),Int.toNat_natCast,List.getElem?_eq_getElem h]
theorem secAt_out {o:Ob} {i:Int} (h:i<0∨(o.secs.length:Int)≤i):secAt o i=none:=by
 unfold secAt
 split
 ·rw[List.getElem?_eq_none (by omega)]
 ·rfl
end Go.Proofs.YtfaepbjnpakghaaGreatDoor.W
namespace Go.Proofs.YtfaepbjnpakghaaGreatDoor.W
open Go.RowKit
set_option linter.unusedSimpArgs false
def fieldB (n at_ size:Int):Bool:=(size==1 || size==2 || size==4 || size==8)&&(decide (0≤at_)&&decide (at_≤n-size))
set_option maxHeartbeats 400000 in
theorem field_any (s:ByteArray) (a size:Int) (w:World) (hs:s.size≤maxLen):
 Calls Tryz.prog 257 #[.string s, .int .i64 a, .int .i64 size] w fun e w'=>e= .returned (.bool (fieldB s.size a size))∧w=w':=by
 unfold maxLen at hs
 go_enter Tryz.func257,Tryz.ntmps257
 go_wp2
 all_goals (go_ret;refine⟨?_,rfl⟩)
 all_goals simp_all[fieldB,wrap64]
 all_goals omega
end Go.Proofs.YtfaepbjnpakghaaGreatDoor.W
namespace Go.Proofs.YtfaepbjnpakghaaGreatDoor.W
open Go.RowKit
def fitsB (n b:Int) (sg:Bool):Bool:=decide (1≤b)&&(decide (b≤64)&&if sg then decide (-(2 ^(b-1).toNat)≤n)&&decide (n<2 ^(b-1).toNat) else decide (0≤n)&&decide (n<2 ^ b.toNat))
theorem div_zero (n p:Int) (hp:1≤p):n/p=0↔0≤n∧n<p:=by
 have h1:=Int.le_ediv_iff_mul_le (a:=0) (b:=n) (c:=p) (by omega)
 have h2:=Int.ediv_lt_iff_lt_mul (a:=n) (b:=1) (c:=p) (by omega)
 omega
theorem div_neg1 (n p:Int) (hp:1≤p):n/p= -1↔-p≤n∧n<0:=by
 have h1:=Int.le_ediv_iff_mul_le (a:= -1) (b:=n) (c:=p) (by omega)
 have h2:=Int.ediv_lt_iff_lt_mul (a:=n) (b:=0) (c:=p) (by omega)
 omega
theorem pow_pos' (e:Nat):(1:Int)≤2 ^ e:=by
 have:=Nat.two_pow_pos e
 have h:((2 ^ e:Nat):Int)=2 ^ e:=by push_cast;rfl
 omega
theorem pow_le' {e f:Nat} (h:e≤f):(2:Int)^ e≤2 ^ f:=by
 have:=Nat.pow_le_pow_right (n:=2) (by decide) h
 have h1:((2 ^ e:Nat):Int)=2 ^ e:=by push_cast;rfl
 have h2:((2 ^ f:Nat):Int)=2 ^ f:=by push_cast;rfl
 omega
theorem pow_eq63 {e:Nat} (h:e=63):(2:Int)^ e=9223372036854775808:=by subst h;rfl
theorem pow_eq62 {e:Nat} (h:e=62):(2:Int)^ e=4611686018427387904:=by subst h;rfl
theorem fits_out {n b:Int} (hb:1≤b∧b≤64):fitsB n b false=(decide (0≤n)&&decide (n<2 ^ b.toNat))∧fitsB n b true=(decide (-(2 ^(b.toNat-1))≤n)&&decide (n<2 ^(b.toNat-1))):=by
 have e:(b-1).toNat=b.toNat-1:=by omega
 simp[fitsB,hb.1,hb.2,e]
set_option maxHeartbeats 400000 in
theorem fits_any (n b:Int) (sg:Bool) (w:World) (h1: -9223372036854775808≤n) (h2:n≤9223372036854775807):
 Calls Tryz.prog 271 #[.int .i64 n, .int .i64 b, .bool sg] w fun e w'=>e= .returned (.bool (fitsB n b sg))∧w=w':=by
 by_cases hb:1≤b∧b≤64
 ·have HO:=Lib.hid (fits_out (n:=n) hb)
  have HP:=Lib.hid (pow_pos' (b.toNat-1))
  have HQ:=Lib.hid (pow_pos' b.toNat)
  have HR:=Lib.hid (fun h:63≤b.toNat=>pow_le' h)
  obtain⟨hb1,hb2⟩:=hb
  cases sg
  all_goals go_enter Tryz.func271,Tryz.ntmps271
  all_goals go_wp2
  all_goals go_ret
  ·rw[HO.out.1]
   refine⟨ret_b ?_,rfl⟩
   have:=div_zero n _ HQ.out
   rw[Bool.eq_iff_iff];simp;omega
  ·rw[HO.out.1]
   refine⟨ret_b ?_,rfl⟩
   have:=HR.out (by omega)
   rw[Bool.eq_iff_iff];simp;omega
  ·rw[HO.out.1]
   refine⟨ret_b ?_,rfl⟩
   rw[Bool.eq_iff_iff];simp;omega
  ·rw[HO.out.2]
   refine⟨ret_b ?_,rfl⟩
   have:=div_zero n _ HP.out
   rw[Bool.eq_iff_iff];simp;omega
  ·rw[HO.out.2]
   refine⟨ret_b ?_,rfl⟩
   have:=div_zero n _ HP.out
   have:=div_neg1 n _ HP.out
   rw[Bool.eq_iff_iff];simp;omega
 ·go_enter Tryz.func271,Tryz.ntmps271
  go_wp2
  all_goals go_ret
  all_goals (refine⟨ret_b ?_,rfl⟩;simp[fitsB];omega)
end Go.Proofs.YtfaepbjnpakghaaGreatDoor.W
namespace Go.Proofs.YtfaepbjnpakghaaGreatDoor.W
open Go.RowKit
set_option linter.unusedVariables false
def powB (n:Int):Bool:=n==1 || n==2 || n==4 || n==8 || n==16 || n==32 || n==64 || n==128 || n==256
theorem pow_tab:∀m:Fin 257,m.val=0∨(bits BinOp.and IntKind.i64 (m.val:Int) ((m.val:Int) -1)==0)=powB m.val:=by decide+kernel
theorem pow_in {n:Int} (h1:1≤n) (h2:n≤256):(bits BinOp.and IntKind.i64 n (n-1)==0)=powB n:=by
 have:=pow_tab ⟨n.toNat,by omega⟩
 simp only[Int.toNat_of_nonneg (show 0≤n by omega)] at this
 rcases this with h | h
 ·omega
 ·exact h
theorem pow_out {n:Int} (h:n<1∨256<n):false=powB n:=by
 have:powB n≠true:=by simp[powB];omega
 simpa using this
set_option maxHeartbeats 400000 in
theorem power_any (n:Int) (w:World):
 Calls Tryz.prog 143 #[.int .i64 n] w fun e w'=>e= .returned (.bool (powB n))∧w=w':=by
 go_enter Tryz.func143,Tryz.ntmps143
 go_wp2
 all_goals go_ret
 all_goals refine⟨ret_b ?_,rfl⟩
 ·exact pow_in (by assumption) (by assumption)
 ·exact pow_out (by omega)
 ·exact pow_out (by omega)
theorem pow9 (k:Nat) (h:k≤8):powB (2 ^ k)=true∧2*(2:Int)^ k=2 ^(k+1)∧(2:Int)^ k≤256:=by
 rcases(by omega:k=0∨k=1∨k=2∨k=3∨k=4∨k=5∨k=6∨k=7∨k=8) with rfl | rfl | rfl | rfl | rfl | rfl | rfl | rfl | rfl<;>decide+kernel
def noneOf (n:Int) (k:Nat):Prop:=∀j:Nat,j<k→n≠2 ^ j
theorem noneOf_all {n:Int} (h:noneOf n 9):false=powB n:=by
 have h0:=h 0 (by decide)
 have h1:=h 1 (by decide)
 have h2:=h 2 (by decide)
 have h3:=h 3 (by decide)
 have h4:=h 4 (by decide)
 have h5:=h 5 (by decide)
 have h6:=h 6 (by decide)
 have h7:=h 7 (by decide)
 have h8:=h 8 (by decide)
 have:powB n≠true:=by simp[powB];omega
 simpa using this
set_option maxHeartbeats 400000 in
theorem rpower_any (n:Int) (w:World):
 Calls Tryz.prog 198 #[.int .i64 n] w fun e w'=>e= .returned (.bool (powB n))∧w=w':=by
 go_enter Tryz.func198,Tryz.ntmps198
 go_wp2
 go_loop [3] (fun p=>∃k:Nat,k≤9∧p= .int .i64 (2 ^ k)∧noneOf n k) (fun p=>(1024-intOf p).toNat)
 case atStart=>exact⟨0,by omega,rfl,fun j hj=>by omega⟩
 case round=>
  obtain⟨k,hk,rfl,hn⟩:=hrel
  by_cases h9:k≤8
  ·have h:=pow9 k h9
   have HP:=Lib.hid h.1
   have HW:=Lib.hid h.2.1
   have hlt:=h.2.2
   have h0:=pow_pos' k
   clear h
   by_cases he:(2:Int)^ k=n
   ·subst he
    go_wp2
    go_ret
    exact⟨ret_b HP.out.symm,rfl⟩
   ·have hb:((2:Int)^ k==n)=false:=beq_eq_false_iff_ne.2 he
    clear he
    go_wp2
    go_round
    case rel=>exact⟨k+1,by omega,by rw[HW.out],fun j hj=>by
     rcases Nat.lt_or_ge j k with h | h
     ·exact hn j h
     ·obtain rfl:j=k:=by omega
      exact fun e=>by rw[e] at hb;simp at hb⟩
    case measure=>simp only[intOf];omega
  ·obtain rfl:k=9:=by omega
   have HN:=Lib.hid (noneOf_all hn)
   clear hn
   go_wp2
   go_ret
   exact⟨ret_b HN.out,rfl⟩
end Go.Proofs.YtfaepbjnpakghaaGreatDoor.W
namespace Go.Proofs.YtfaepbjnpakghaaGreatDoor.W
open Go.RowKit Go.ChangeShapes Go.WideShapes Go.Deep
set_option linter.unusedVariables false
structure SliceAt {α:Type} (W:World) (m:Nat) (E:List Value→α→Prop) (v:Value) (xs:List α):Prop where
 is:(xs=[]∧(v= .slice none 0 0∨∃a c,v= .slice (some a) 0 c))∨(∃g o cap,v= .slice (some ⟨g,o,none⟩) xs.length cap∧g<W.heap.size∧
  ∀j x,xs[j]? =some x→∃cs,cs.length=m∧E cs x∧∀i u,cs[i]? =some u→W.cell? ⟨g,o+j*m+i,none⟩=some u)
theorem SliceAt.slice {α:Type} {W:World} {m:Nat} {E:List Value→α→Prop} {v:Value} {xs:List α} (h:SliceAt W m E v xs):∃p c,v= .slice p xs.length c:=by
 rcases h.is with⟨rfl,rfl | ⟨a,c,rfl⟩⟩ | ⟨g,o,cap,rfl,_⟩
 ·exact⟨none,0,rfl⟩
 ·exact⟨some a,c,rfl⟩
 ·exact⟨_,cap,rfl⟩
theorem SliceAt.at {α:Type} {W:World} {m:Nat} {E:List Value→α→Prop} {v:Value} {xs:List α} (h:SliceAt W m E v xs) {j:Nat} {x:α} (hx:xs[j]? =some x):
 ∃g o cap cs,v= .slice (some ⟨g,o,none⟩) xs.length cap∧cs.length=m∧E cs x∧∀w,Below W.heap.size W w→∀i u,cs[i]? =some u→w.cell? ⟨g,o+j*m+i,none⟩=some u:=by
 rcases h.is with⟨rfl,_⟩ | ⟨g,o,cap,e,hg,hc⟩
 ·simp at hx
 ·obtain⟨cs,h1,h2,h3⟩:=hc j x hx
  exact⟨g,o,cap,cs,e,h1,h2,fun w hb i u hu=>by rw[hb.cell (p:=⟨g,o+j*m+i,none⟩) hg];exact h3 i u hu⟩
section
variable {H:Type} {enc:TypeId × Value→H} {P:Program}
theorem weightsAll_mem {e:TypeId}:∀ {l:List (DataW H)} {d:DataW H},d∈l→∀n∈d.weights P e,n∈DataW.weightsAll P e l
 | [],d,h,_,_=>by simp at h
 | d0::l,d,h,n,hn=>by
   rw[DataW.weightsAll,List.mem_append]
   rcases List.mem_cons.1 h with rfl | h
   ·exact .inl hn
   ·exact .inr (weightsAll_mem h n hn)
theorem arg_slice_cells {α:Type} {W:World} {t e:TypeId} {m:Nat} {fuel:Nat} {cs:List Value} {d:DataW H} {p:List MemPlace} (E:List Value→α→Prop) (ht:P.underlying t=some (.slice e)) (hc:P.cellsOf e=m) (hm:0<m)
 (hE:∀fuel cs d p,DataW.trod enc P W 0 (fun _=>true) true fuel e cs=some (d,p)→(∀x∈d.weights P e,x≤reachBytes)→∃x,E cs x)
 (h:DataW.trod enc P W 0 (fun _=>true) true fuel t cs=some (d,p)) (hz:∀x∈d.weights P t,x≤reachBytes):
 ∃(v:Value) (xs:List α),cs=[v]∧SliceAt W m E v xs∧xs.length*P.bytesOf e≤reachBytes:=by
 rcases open_slice ht h with⟨rfl,hx⟩ | ⟨a,len,cap,m',n,D,Pl,rfl,_,hl,hmx,hm',hx,hall⟩
 ·exact⟨_,[],rfl,⟨.inl ⟨rfl, .inl rfl⟩⟩,by simp⟩
 ·simp only[if_true] at hm'
  subst hm'
  injection hx with hd _
  subst hd
  have hw:∀i,i<len→∀x∈(D i).weights P e,x≤reachBytes:=by
   intro i hi x hx
   apply hz
   rw[DataW.weights,ht]
   simp only[List.mem_cons,List.mem_append]
   exact .inr (.inl (weightsAll_mem (List.mem_map.2 ⟨i,List.mem_range.2 hi,rfl⟩) x hx))
  have hlen:len*P.bytesOf e≤reachBytes:=by
   have:=hz ((((List.range len).map D).length+((List.range (m'-len)).map fun j=>D (len+j)).length)*P.bytesOf e) (by rw[DataW.weights,ht];simp)
   refine Nat.le_trans (Nat.mul_le_mul_right _ ?_) this
   simp
  have hex:∀i:Fin len,∃x:α,∃cs,cs.length=m∧E cs x∧∀k,k<m→W.cell? ((a.add (i.1*m)).add k)=cs[k]? :=by
   intro i
   obtain⟨cs',h1,h2⟩:=hall i.1 (by omega)
   obtain⟨x,hx⟩:=hE _ _ _ _ h2 (hw i.1 i.2)
   rw[hc] at h1
   obtain⟨_,h3,h4⟩:=World.cells?_some h1
   exact⟨x,cs',h3,hx,h4⟩
  refine⟨_,List.ofFn fun i=>Classical.choose (hex i),rfl,⟨?_⟩,by simpa using hlen⟩
  rcases Nat.eq_zero_or_pos len with h0 | h0
  ·subst h0
   exact .inl ⟨by simp, .inr ⟨a,m',rfl⟩⟩
  ·obtain⟨cs0,hl0,_,hc0⟩:=Classical.choose_spec (hex ⟨0,h0⟩)
   have c0:=hc0 0 hm
   have e0:(a.add (0*m)).add 0=a:=by simp[Addr.add]
   rw[show((⟨0,h0⟩:Fin len).1*m)=0*m from rfl,e0,List.getElem?_eq_getElem (by omega)] at c0
   have ha:=addr_none (spot_none c0)
   refine .inr ⟨a.block,a.off,m',by rw[List.length_ofFn,←ha],World.block_lt_of_cell? W a (by rw[c0]),fun j x hj=> ?_⟩
   have hjl:j<len:=by
    have:=(List.getElem?_eq_some_iff.1 hj).1
    simpa using this
   rw[List.getElem?_ofFn,dif_pos hjl] at hj
   obtain⟨cs,h1,h2,h3⟩:=Classical.choose_spec (hex ⟨j,hjl⟩)
   rw[Option.some.inj hj] at h2
   refine⟨cs,h1,h2,fun i u hu=> ?_⟩
   have hi:i<m:=by
    have:=(List.getElem?_eq_some_iff.1 hu).1
    omega
   have:=h3 i hi
   rw[ha,add_none,add_none,hu] at this
   exact this
theorem arg_slice {α:Type} {W:World} {t e:TypeId} {m:Nat} {v:Value} {d:DataW H} {p:List MemPlace} (E:List Value→α→Prop) (ht:P.underlying t=some (.slice e)) (hc:P.cellsOf e=m) (hm:0<m)
 (hE:∀fuel cs d p,DataW.trod enc P W 0 (fun _=>true) true fuel e cs=some (d,p)→(∀x∈d.weights P e,x≤reachBytes)→∃x,E cs x)
 (hok:∃a len cap,v= .slice a len cap) (h:DataW.Trod enc P W 0 (fun _=>true) true t v d p) (hz:∀x∈d.weights P t,x≤reachBytes):
 ∃(xs:List α),SliceAt W m E v xs∧xs.length*P.bytesOf e≤reachBytes:=by
 obtain⟨a0,len,cap,rfl⟩:=hok
 obtain⟨fuel,hf⟩:=h
 obtain⟨v,xs,hv,h1,h2⟩:=arg_slice_cells E ht hc hm hE hf hz
 have:Value.slice a0 len cap=v:=by
  have:[Value.slice a0 len cap]=[v]:=hv
  exact List.head_eq_of_cons_eq this
 exact⟨xs,this▸h1,h2⟩
theorem elem_int {W:World} {e:TypeId} {k:IntKind} (he:P.underlying e=some (.int k)) (fuel:Nat) (cs:List Value) (d:DataW H) (p:List MemPlace) (h:DataW.trod enc P W 0 (fun _=>true) true fuel e cs=some (d,p))
 (hz:∀x∈d.weights P e,x≤reachBytes):∃x:Int,cs=[.int k x]∧(Lit.int k x).wf=true:=by
 obtain⟨n,h1,h2,h3⟩:=DataW.trod_int he h
 exact⟨n,h1,h3⟩
theorem elem_string {W:World} {e:TypeId} (he:P.underlying e=some .string) (fuel:Nat) (cs:List Value) (d:DataW H) (p:List MemPlace) (h:DataW.trod enc P W 0 (fun _=>true) true fuel e cs=some (d,p))
 (hz:∀x∈d.weights P e,x≤reachBytes):∃s:ByteArray,cs=[.string s]∧s.size≤140737488351232:=by
 obtain⟨s,h1,h2,h3⟩:=DataW.trod_string he h
 injection h2 with h2 _
 subst h2
 have:=hz s.data.toList.length (by simp[DataW.weights])
 exact⟨s,h1,this⟩
end
end Go.Proofs.YtfaepbjnpakghaaGreatDoor.W
