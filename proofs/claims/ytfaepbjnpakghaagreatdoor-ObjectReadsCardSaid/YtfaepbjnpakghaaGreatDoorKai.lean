import Derived.Laws.Rows
import Derived.Handy
import Derived.Laws.MakeOwn
import Derived.Test.YtfaepbjnpakghaaGreatDoorKForm3
import Derived.Test.YtfaepbjnpakghaaGreatDoorKaf
import Derived.Test.YtfaepbjnpakghaaGreatDoorKab
/- The walks of the reference's in, Width, Code, section, num. -/
namespace Go.Proofs.YtfaepbjnpakghaaGreatDoor.W
open Go.RowKit Go.Sort
set_option linter.unusedVariables false
theorem rin_any (n lo hi:Int) (w:World):Calls Tryz.prog 130 #[.int .i64 n, .int .i64 lo, .int .i64 hi] w fun e w'=>e= .returned (.bool (decide (lo≤n∧n≤hi)))∧w=w':=by
 by_cases h0:lo≤n
 ·by_cases h1:n≤hi
  ·go_enter Tryz.func130,Tryz.ntmps130
   go_wp2
   go_ret
   exact⟨ret_b (by rw[Bool.eq_iff_iff];simp;try omega),rfl⟩
  ·go_enter Tryz.func130,Tryz.ntmps130
   go_wp2
   go_ret
   exact⟨ret_b (by rw[Bool.eq_iff_iff];simp;try omega),rfl⟩
 ·go_enter Tryz.func130,Tryz.ntmps130
  go_wp2
  go_ret
  exact⟨ret_b (by rw[Bool.eq_iff_iff];simp;try omega),rfl⟩
theorem rwidth10_any (k:Int) (w:World):Calls Tryz.prog 29 #[.int .i64 k] w fun e w'=>e= .returned (.int .i64 (widthI k:Nat))∧w=w':=by
 by_cases h2:k=2
 ·subst h2
  go_enter Tryz.func29,Tryz.ntmps29
  go_wp2
  go_ret
  exact⟨rfl,rfl⟩
 ·by_cases h3:k=3
  ·subst h3
   go_enter Tryz.func29,Tryz.ntmps29
   go_wp2
   go_ret
   exact⟨rfl,rfl⟩
  ·have e:((widthI k:Nat):Int)=8:=by unfold widthI;rw[if_neg h2,if_neg h3];rfl
   rw[e]
   have d2:(k==2)=false:=by simpa using h2
   have d3:(k==3)=false:=by simpa using h3
   go_enter Tryz.func29,Tryz.ntmps29
   go_wp2
   go_ret
   exact⟨rfl,rfl⟩
theorem rcode10_any (k:Int) (w:World):Calls Tryz.prog 28 #[.int .i64 k] w fun e w'=>e= .returned (.bool (codeB k))∧w=w':=by
 have H:=Hd.mk (fun w=>rin_any k 5 10 w)
 unfold codeB
 obtain⟨b,hb⟩:∃b,decide (5≤k∧k≤10)=b:=⟨_,rfl⟩
 rw[hb] at H⊢
 clear hb
 go_enter Tryz.func28,Tryz.ntmps28
 go_wp2_with fail
 refine(H.out _).mono ?_;rintro e w1 ⟨rfl,rfl⟩
 go_wp2
 go_ret
 exact⟨rfl,rfl⟩
def noSec:Sec:=⟨⟨#[]⟩,-1,0,0,⟨#[]⟩,false⟩
def secD (o:Ob) (i:Int):Sec:=match secAt o i with | some s=>s | none=>noSec
set_option maxHeartbeats 1000000 in
set_option maxRecDepth 100000 in
theorem rsection_any (w:World) (o:Ob) (x1 x2 x3 x4 x5 x6 x7 x8 x9 x10:Value) (i:Int) (hA:o.At w x1 x2 x3 x4 x5 x6 x7 x8 x9 x10) (hl:lenR o.secs.length):
 Calls Tryz.prog 125 #[.agg (o.cells x1 x2 x3 x4 x5 x6 x7 x8 x9 x10).toArray, .int .i64 i] w fun e w'=>e= .returned (.agg (secD o i).cells.toArray)∧Below w.heap.size w w':=by
 have hcs:(o.cells x1 x2 x3 x4 x5 x6 x7 x8 x9 x10).toArray= #[.string o.name,x1,x2,x3,x4,x5,x6,x7,x8,x9,x10]:=rfl
 rw[hcs]
 have hS:=hA.secs
 obtain⟨p,c,rfl⟩:=hS.slice
 obtain⟨N,hN⟩:∃N,o.secs.length=N:=⟨_,rfl⟩
 unfold lenR at hl
 rw[hN] at hl⊢
 have hw1:IntKind.i64.wrap ((N:Int) -1)=(N:Int) -1:=IntWalk.i64_in _ (by omega)
 have HW:=Hd.mk (fun w=>rin_any i 0 ((N:Int) -1) w)
 by_cases hin:0≤i∧i< (N:Int)
 ·obtain⟨k,rfl⟩:=Int.eq_ofNat_of_zero_le hin.1
  have hk:k<N:=by omega
  obtain⟨g,of,cs,rfl,hg,hcl,hE,hc⟩:=hS.at rfl (j:=k) (by omega)
  have hB:Hd ((secD o (k:Int)).cells.toArray= #[.string o.secs[k].name, .int .i64 o.secs[k].kind, .int .i64 o.secs[k].align, .int .i64 o.secs[k].size, .string o.secs[k].bytes, .bool o.secs[k].keep]):=⟨by unfold secD;rw[secAt_in (by omega)];rfl⟩
  rw[hB.out]
  obtain⟨s,hs⟩:∃s,o.secs[k]=s:=⟨_,rfl⟩
  rw[hs] at hE⊢
  have hE':cs=s.cells:=hE
  subst hE'
  have hcell:∀i u,s.cells[i]? =some u→∀o1 o2,((w.alloc o1).alloc o2).cell? ⟨g,of+k*6+i,none⟩=some u:=fun i u hu o1 o2=>by
   have h1:(w.alloc o1).cell? ⟨g,of+k*6+i,none⟩=some u:=by rw[World.cell?_alloc_some _ _ _ (by rw[hc i _ hu];rfl)];exact hc i _ hu
   rw[World.cell?_alloc_some _ _ _ (by rw[h1];rfl)];exact h1
  have c0:=hcell 0 _ rfl
  have c1:=hcell 1 _ rfl
  have c2:=hcell 2 _ rfl
  have c3:=hcell 3 _ rfl
  have c4:=hcell 4 _ rfl
  have c5:=hcell 5 _ rfl
  simp only[Nat.add_zero] at c0
  rw[decide_eq_true (show 0≤(k:Int)∧(k:Int)≤(N:Int) -1 by omega)] at HW
  clear hc hE hA hS hcs hB hs hcell hN hin
  go_enter Tryz.func125,Tryz.ntmps125
  go_wp2_with fail
  refine(HW.out _).mono ?_;rintro e w1 ⟨rfl,rfl⟩
  go_wp2
  ((try simp only[Exit.inBlock,Exit.then]);refine bodyPost_ret (results_cell_row rfl _ _ (w.heap.size+1) 47 _ (0,0) _ rfl (heap_alloc2_new w _ _) Tryz.underlying47 rfl (by kernel_rfl)) rfl ?_)
  exact⟨rfl,by go_grown⟩
 ·have hB:Hd ((secD o i).cells.toArray= #[.string ⟨#[]⟩, .int .i64 (-1), .int .i64 0, .int .i64 0, .string ⟨#[]⟩, .bool false]):=⟨by unfold secD;rw[secAt_out (by omega)];rfl⟩
  rw[hB.out]
  rw[decide_eq_false (show ¬(0≤i∧i≤(N:Int) -1) by omega)] at HW
  clear hA hS hcs hB hN hin
  go_enter Tryz.func125,Tryz.ntmps125
  go_wp2_with fail
  refine(HW.out _).mono ?_;rintro e w1 ⟨rfl,rfl⟩
  go_wp2
  ((try simp only[Exit.inBlock,Exit.then]);refine bodyPost_ret (results_cell_row rfl _ _ (w.heap.size+1) 47 _ (0,0) _ rfl (heap_alloc2_new w _ _) Tryz.underlying47 rfl (by kernel_rfl)) rfl ?_)
  exact⟨rfl,by go_grown⟩
def numI (x:Int):List UInt8:=if x<0 then [] else numL x.toNat
def numsL (ks:List Int):List UInt8:=ks.flatMap numI
theorem numI_len (x:Int):(numI x).length≤10:=by unfold numI;split;simp;exact numL_len _
theorem numsL_len:∀ks:List Int,(numsL ks).length≤10*ks.length
 | []=>Nat.le_refl _
 | k::ks=>by
   have:=numsL_len ks
   have h:=numI_len k
   show(numI k++numsL ks).length≤_
   rw[List.length_append,List.length_cons];omega
theorem numsL_take {ks:List Int} {j:Nat} (h:j<ks.length):numsL (ks.take (j+1))=numsL (ks.take j)++numI ks[j]:=by
 unfold numsL
 rw[List.take_succ_eq_append_getElem h,List.flatMap_append];simp
theorem r2num_int (x:Int) (h:x≤9223372036854775807) (w:World):Calls Tryz.prog 216 #[.int .i64 x] w fun e w'=>e= .returned (.string ⟨(numI x).toArray⟩)∧Below w.heap.size w w':=by
 unfold numI
 rcases Int.lt_or_le x 0 with h0 | h0
 ·rw[if_pos h0]
  exact(r2num_neg x h0 w).mono fun e w' ⟨a,b⟩=>⟨a,b▸Below.refl _ _⟩
 ·rw[if_neg (by omega)]
  obtain⟨n,rfl⟩:=Int.eq_ofNat_of_zero_le h0
  exact r2num_any n (by omega) w
set_option maxHeartbeats 1000000 in
set_option maxRecDepth 100000 in
theorem rnum_any (w:World) (v:Value) (ks:List Int) (hR:Rw 1 intE w v ks) (hl:ks.length≤1000000) (hk:∀x∈ks,x≤9223372036854775807):
 Calls Tryz.prog 131 #[v] w fun e w'=>e= .returned (.string ⟨(numsL ks).toArray⟩)∧Below w.heap.size w w':=by
 obtain⟨p,c,rfl⟩:=hR.slice
 obtain⟨fs,hfs⟩:∃fs:ByteArray,(⟨(numsL ks).toArray⟩:ByteArray)=fs:=⟨_,rfl⟩
 have HFs:=Hd.mk hfs
 rw[hfs]
 have HR:=Hd.mk hR
 have HKs:=Hd.mk hk
 obtain⟨N,hN⟩:∃N,ks.length=N:=⟨_,rfl⟩
 rw[hN] at hl HR
 rw[hN]
 have HN:=Hd.mk hN
 clear hR hfs hN hk
 go_enter Tryz.func131,Tryz.ntmps131
 go_wp2
 go_loopw [3,4] (fun sv iv wr=>∃(j:Nat) (s:ByteArray),j≤N∧iv= .int .i64 j∧sv= .string s∧Hd (s.data.toList=numsL (ks.take j))∧Hd (Below w.heap.size w wr)) (fun _ iv _=>N-(intOf iv).toNat)
 case atStart=>exact⟨0,⟨#[]⟩,Nat.zero_le _,rfl,rfl,⟨rfl⟩,⟨Below.refl _ _⟩⟩
 case round=>
  obtain⟨j,s,hj,rfl,rfl,HS,HB⟩:=hrel
  by_cases hlt:j<N
  ·have hjl:j<ks.length:=by rw[HN.out];exact hlt
   obtain⟨g,of,cs,hpp,hg,_,hE,hc⟩:=(HR.out.below intE_stays HB.out).at rfl (j:=j) hjl
   obtain rfl:=hpp
   obtain rfl:cs=[.int .i64 ks[j]]:=hE
   have c0:=hc 0 _ rfl
   rw[Nat.mul_one,Nat.add_zero] at c0
   have HQ:=Hd.mk (fun w=>r2num_int ks[j] (HKs.out _ (List.getElem_mem hjl)) w)
   obtain⟨x,hx⟩:∃x,ks[j]=x:=⟨_,rfl⟩
   obtain⟨t,ht⟩:∃t:ByteArray,(⟨(numI x).toArray⟩:ByteArray)=t:=⟨_,rfl⟩
   have hnext:Hd ((s++t).data.toList=numsL (ks.take (j+1))):=⟨by rw[numsL_take hjl,hx,←HS.out,←ht];simp[ByteArray.data_append]⟩
   have zs:s.size≤10*j:=by
    have h1:s.size=s.data.toList.length:=by simp
    rw[h1,HS.out]
    have:=numsL_len (ks.take j)
    rw[List.length_take] at this
    omega
   have zt:t.size≤10:=by rw[←ht];exact numI_len x
   rw[hx] at HQ c0
   rw[ht] at HQ
   have y1:¬9223372036854775807<s.size+t.size:=by omega
   have hms:N-(intOf (.int .i64 ((j:Int)+1))).toNat<N-(intOf (.int .i64 (j:Int))).toNat:=by simp[intOf];omega
   clear hc hx ht zs zt hg hj
   go_wp2_with fail
   refine(HQ.out _).mono ?_
   rintro e w1 ⟨rfl,hb1⟩
   have HB1:Hd (Below w.heap.size w w1):=⟨HB.out.trans (hb1.mono HB.out.size)⟩
   clear hb1
   go_wp2
   go_roundw
   case rel=>exact⟨j+1,_,hlt,by go_num,rfl,hnext,HB1⟩
   case measure=>exact hms
  ·have hjn:j=N:=by omega
   subst hjn
   have hd:decide ((j:Int)< (j:Int))=false:=by simp
   have hfin:s=fs:=by
    rw[←HFs.out]
    apply ByteArray.ext
    have:=HS.out
    rw[←HN.out,List.take_length] at this
    rw[←this]
   rw[hfin]
   clear hfin
   go_wp2
   go_ret
   exact⟨rfl,HB.out⟩
end Go.Proofs.YtfaepbjnpakghaaGreatDoor.W
namespace Go.Proofs.YtfaepbjnpakghaaGreatDoor.W
open Go.RowKit
set_option linter.unusedVariables false
set_option linter.unusedSimpArgs false
set_option maxHeartbeats 1000000
set_option maxRecDepth 100000
theorem rname_any (s:ByteArray) (w:World) (hs:lenR s.size):Calls Tryz.prog 78 #[.string s] w fun e w'=>e= .returned (.bool (nameB s))∧w=w':=by
 unfold lenR at hs
 go_enter Tryz.func78,Tryz.ntmps78
 go_wp2
 go_loop [3] (fun i=>∃k:Nat,k≤s.size∧i= .int .i64 k∧Hd (∀j (h:j<s.size),j<k→nameC (s[j]'h)=true)) (fun i=>s.size-(intOf i).toNat)
 case atStart=>exact⟨0,Nat.zero_le _,rfl,⟨fun j _ hj=>absurd hj (Nat.not_lt_zero _)⟩⟩
 case round=>
  obtain⟨k,hk,rfl,HA⟩:=hrel
  by_cases hlt:k<s.size
  ·have hd1:decide ((k:Int)< (s.size:Int))=true:=by simp;omega
   have i0:(0:Int)≤(k:Int):=by omega
   have i1:(k:Int)< (s.size:Int):=by omega
   obtain⟨c,hc⟩:∃c,s[k]'hlt=c:=⟨_,rfl⟩
   have HC:=Hd.mk hc
   by_cases h0:c.toNat<33
   ·have t0:decide ((c.toNat:Int)<33)=true:=by simp;omega
    have HB:=Hd.mk (nameB_bad hlt (by rw[HC.out];unfold nameC;exact decide_eq_false (by omega)))
    go_wp2
    go_ret
    exact⟨ret_b HB.out.symm,rfl⟩
   have t0:decide ((c.toNat:Int)<33)=false:=by simp;omega
   by_cases h1:126<c.toNat
   ·have t1:decide ((126:Int)< (c.toNat:Int))=true:=by simp;omega
    have HB:=Hd.mk (nameB_bad hlt (by rw[HC.out];unfold nameC;exact decide_eq_false (by omega)))
    go_wp2
    go_ret
    exact⟨ret_b HB.out.symm,rfl⟩
   have t1:decide ((126:Int)< (c.toNat:Int))=false:=by simp;omega
   have HG:Hd (nameC c=true):=⟨by unfold nameC;exact decide_eq_true (by omega)⟩
   go_wp2
   go_round
   case rel=>exact⟨k+1,hlt,by go_num,⟨fun j h hj=>by
    rcases Nat.lt_succ_iff_lt_or_eq.1 hj with h' | rfl
    ·exact HA.out j h h'
    ·rw[HC.out];exact HG.out⟩⟩
   case measure=>simp[intOf];omega
  ·have hd1:decide ((k:Int)< (s.size:Int))=false:=by simp;omega
   have HE:=Hd.mk (nameB_end (fun j h=>HA.out j h (by omega)))
   by_cases y1:1≤s.size
   ·have t1:decide ((1:Int)≤(s.size:Int))=true:=by simp;omega
    have t2:decide (1≤s.size)=true:=decide_eq_true (by omega)
    have t3:decide (0<s.size)=true:=decide_eq_true (by omega)
    go_wp2
    go_ret
    exact⟨ret_b (by rw[HE.out,Bool.eq_iff_iff];simp;omega),rfl⟩
   ·have t1:decide ((1:Int)≤(s.size:Int))=false:=by simp;omega
    have t2:decide (1≤s.size)=false:=decide_eq_false (by omega)
    have t3:decide (0<s.size)=false:=decide_eq_false (by omega)
    go_wp2
    go_ret
    exact⟨ret_b (by rw[HE.out,Bool.eq_iff_iff];simp;omega),rfl⟩
theorem nm_a:nameB ⟨#[97]⟩=true:=by decide+kernel
theorem nm_x:nameB ⟨#[120]⟩=true:=by decide+kernel
theorem nm_p:nameB ⟨#[112]⟩=true:=by decide+kernel
theorem rnm_x (s:ByteArray) (hs:lenR s.size) (hn:nameB s=true) (w:World):Calls Tryz.prog 78 #[.string s] w fun e w'=>e= .returned (.bool true)∧w=w':=by
 have:=rname_any s w hs
 rwa [hn] at this
structure XV where
 g1:Nat
 o1:Nat
 c1:Nat
 g2:Nat
 o2:Nat
 c2:Nat
 g3:Nat
 o3:Nat
 c3:Nat
 p4:Option Addr
 c4:Nat
 p5:Option Addr
 c5:Nat
 p6:Option Addr
 c6:Nat
 p7:Option Addr
 c7:Nat
 p8:Option Addr
 c8:Nat
 p9:Option Addr
 c9:Nat
 p10:Option Addr
 c10:Nat
abbrev XV.arr (X:XV):Array Value:= #[.string ⟨#[97]⟩, .slice (some ⟨X.g1,X.o1,none⟩) 1 X.c1, .slice (some ⟨X.g2,X.o2,none⟩) 1 X.c2, .slice (some ⟨X.g3,X.o3,none⟩) 1 X.c3, .slice X.p4 0 X.c4, .slice X.p5 0 X.c5, .slice X.p6 0 X.c6, .slice X.p7 0 X.c7, .slice X.p8 0 X.c8, .slice X.p9 0 X.c9, .slice X.p10 0 X.c10]
structure XV.In (X:XV) (w:World):Prop where
 sec:∀w',Below w.heap.size w w'→w'.cell? ⟨X.g1,X.o1,none⟩=some (.string ⟨#[120]⟩)∧w'.cell? ⟨X.g1,X.o1+1,none⟩=some (.int .i64 1)∧w'.cell? ⟨X.g1,X.o1+2,none⟩=some (.int .i64 8)∧w'.cell? ⟨X.g1,X.o1+3,none⟩=some (.int .i64 8)∧w'.cell? ⟨X.g1,X.o1+4,none⟩=some (.string ⟨#[0,0,0,0,0,0,0,0]⟩)∧w'.cell? ⟨X.g1,X.o1+5,none⟩=some (.bool false)
 sym:∀w',Below w.heap.size w w'→w'.cell? ⟨X.g2,X.o2,none⟩=some (.string ⟨#[112]⟩)∧w'.cell? ⟨X.g2,X.o2+1,none⟩=some (.string ⟨#[]⟩)∧w'.cell? ⟨X.g2,X.o2+2,none⟩=some (.bool false)∧w'.cell? ⟨X.g2,X.o2+3,none⟩=some (.int .i64 1)∧w'.cell? ⟨X.g2,X.o2+4,none⟩=some (.int .i64 0)∧w'.cell? ⟨X.g2,X.o2+5,none⟩=some (.int .i64 1)∧w'.cell? ⟨X.g2,X.o2+6,none⟩=some (.int .i64 (-1))∧w'.cell? ⟨X.g2,X.o2+7,none⟩=some (.int .i64 0)∧w'.cell? ⟨X.g2,X.o2+8,none⟩=some (.int .i64 0)∧w'.cell? ⟨X.g2,X.o2+9,none⟩=some (.int .i64 0)
 rel:∀w',Below w.heap.size w w'→w'.cell? ⟨X.g3,X.o3,none⟩=some (.int .i64 0)∧w'.cell? ⟨X.g3,X.o3+1,none⟩=some (.int .i64 0)∧w'.cell? ⟨X.g3,X.o3+2,none⟩=some (.int .i64 0)∧w'.cell? ⟨X.g3,X.o3+3,none⟩=some (.int .i64 0)∧w'.cell? ⟨X.g3,X.o3+4,none⟩=some (.int .i64 0)
theorem XV.In.below {X:XV} {w w':World} (h:X.In w) (hb:Below w.heap.size w w'):X.In w':=
 ⟨fun v k=>h.sec v (hb.trans (k.mono hb.size)),fun v k=>h.sym v (hb.trans (k.mono hb.size)),fun v k=>h.rel v (hb.trans (k.mono hb.size))⟩
theorem rsymbol_x (X:XV) (w:World):Calls Tryz.prog 199 #[.agg X.arr, .agg #[.string ⟨#[112]⟩, .string ⟨#[]⟩, .bool false, .int .i64 1, .int .i64 0, .int .i64 1, .int .i64 (-1), .int .i64 0, .int .i64 0, .int .i64 0]] w fun e w'=>e= .returned (.bool true)∧Below w.heap.size w w':=by
 have hz:lenR (⟨#[112]⟩:ByteArray).size:=by show lenR 1;unfold lenR;omega
 have HN:=Hd.mk (rnm_x ⟨#[112]⟩ hz nm_p)
 clear hz
 go_enter Tryz.func199,Tryz.ntmps199
 go_wp2_with (first | (with_reducible refine(rin_any _ _ _ _).mono ?_;rintro e wq ⟨rfl,rfl⟩) | (with_reducible refine(HN.out _).mono ?_;rintro e wq ⟨rfl,rfl⟩))
 go_ret
 exact⟨ret_b (by simp),by go_grown⟩
theorem rsecs_x (X:XV) (w:World) (h:X.In w):Calls Tryz.prog 79 #[.agg X.arr] w fun e w'=>e= .returned (.bool true)∧Below w.heap.size w w':=by
 have hz:lenR (⟨#[120]⟩:ByteArray).size:=by show lenR 1;unfold lenR;omega
 have HN:=Hd.mk (rnm_x ⟨#[120]⟩ hz nm_x)
 have HP:Hd (∀w,Calls Tryz.prog 198 #[.int .i64 8] w fun e w'=>e= .returned (.bool true)∧w=w'):=⟨fun w=>by
  have:=rpower_any 8 w
  rwa [show powB 8=true by decide+kernel] at this⟩
 have c0:=fun o=>(h.sec _ (below_alloc w o)).1
 have c1:=fun o=>(h.sec _ (below_alloc w o)).2.1
 have c2:=fun o=>(h.sec _ (below_alloc w o)).2.2.1
 have c3:=fun o=>(h.sec _ (below_alloc w o)).2.2.2.1
 have c4:=fun o=>(h.sec _ (below_alloc w o)).2.2.2.2.1
 have c5:=fun o=>(h.sec _ (below_alloc w o)).2.2.2.2.2
 have z8:(⟨#[0,0,0,0,0,0,0,0]⟩:ByteArray).size=8:=rfl
 clear hz h
 go_enter Tryz.func79,Tryz.ntmps79
 go_wp2_with fail
 refine wp_loop_rounds 2 ?_
 rw[rounds_succ]
 go_wp2_with (first | (with_reducible refine(rin_any _ _ _ _).mono ?_;rintro e wq ⟨rfl,rfl⟩) | (with_reducible refine(HN.out _).mono ?_;rintro e wq ⟨rfl,rfl⟩) | (with_reducible refine(HP.out _).mono ?_;rintro e wq ⟨rfl,rfl⟩))
 refine wp_loop_rounds 1 ?_
 rw[rounds_succ]
 go_wp2
 rw[rounds_succ]
 go_wp2
 go_ret
 exact⟨ret_b (by simp),by go_grown⟩
theorem rsyms_x (X:XV) (w:World) (h:X.In w):Calls Tryz.prog 80 #[.agg X.arr] w fun e w'=>e= .returned (.bool true)∧Below w.heap.size w w':=by
 have HS:=Hd.mk (rsymbol_x X)
 have c0:=fun o=>(h.sym _ (below_alloc w o)).1
 have c1:=fun o=>(h.sym _ (below_alloc w o)).2.1
 have c2:=fun o=>(h.sym _ (below_alloc w o)).2.2.1
 have c3:=fun o=>(h.sym _ (below_alloc w o)).2.2.2.1
 have c4:=fun o=>(h.sym _ (below_alloc w o)).2.2.2.2.1
 have c5:=fun o=>(h.sym _ (below_alloc w o)).2.2.2.2.2.1
 have c6:=fun o=>(h.sym _ (below_alloc w o)).2.2.2.2.2.2.1
 have c7:=fun o=>(h.sym _ (below_alloc w o)).2.2.2.2.2.2.2.1
 have c8:=fun o=>(h.sym _ (below_alloc w o)).2.2.2.2.2.2.2.2.1
 have c9:=fun o=>(h.sym _ (below_alloc w o)).2.2.2.2.2.2.2.2.2
 clear h
 go_enter Tryz.func80,Tryz.ntmps80
 go_wp2_with fail
 refine wp_loop_rounds 2 ?_
 rw[rounds_succ]
 go_wp2_with fail
 refine(HS.out _).mono ?_
 rintro e w2 ⟨rfl,hb⟩
 have HB:Hd (Below w.heap.size w w2):=⟨(show Below w.heap.size w _ by go_grown).trans (hb.mono (by simp;omega))⟩
 have d0:w2.cell? ⟨w.heap.size,2,none⟩=some (.slice (some ⟨X.g2,X.o2,none⟩) 1 X.c2):=by rw[hb.cell (p:=⟨w.heap.size,2,none⟩) (by simp;omega)];simp[go_sem]
 clear hb HS
 go_wp2_with fail
 refine wp_loop_rounds 1 ?_
 rw[rounds_succ]
 go_wp2
 rw[rounds_succ]
 go_wp2
 go_ret
 exact⟨ret_b (by simp),HB.out⟩
theorem rinits_x (X:XV) (w:World):Calls Tryz.prog 83 #[.agg X.arr] w fun e w'=>e= .returned (.bool true)∧Below w.heap.size w w':=by
 go_enter Tryz.func83,Tryz.ntmps83
 go_wp2_with fail
 refine wp_loop_rounds 1 ?_
 rw[rounds_succ]
 go_wp2
 go_ret
 exact⟨ret_b (by simp),by go_grown⟩
theorem rlines_x (X:XV) (w:World):Calls Tryz.prog 84 #[.agg X.arr] w fun e w'=>e= .returned (.bool true)∧Below w.heap.size w w':=by
 go_enter Tryz.func84,Tryz.ntmps84
 go_wp2_with fail
 refine wp_loop_rounds 1 ?_
 rw[rounds_succ]
 go_wp2
 go_ret
 exact⟨ret_b (by simp),by go_grown⟩
theorem rinlines_x (X:XV) (w:World):Calls Tryz.prog 85 #[.agg X.arr] w fun e w'=>e= .returned (.bool true)∧Below w.heap.size w w':=by
 go_enter Tryz.func85,Tryz.ntmps85
 go_wp2_with fail
 refine wp_loop_rounds 1 ?_
 rw[rounds_succ]
 go_wp2
 go_ret
 exact⟨ret_b (by simp),by go_grown⟩
theorem rvars_x (X:XV) (w:World):Calls Tryz.prog 86 #[.agg X.arr] w fun e w'=>e= .returned (.bool true)∧Below w.heap.size w w':=by
 go_enter Tryz.func86,Tryz.ntmps86
 go_wp2_with fail
 refine wp_loop_rounds 1 ?_
 rw[rounds_succ]
 go_wp2
 go_ret
 exact⟨ret_b (by simp),by go_grown⟩
theorem rdepths_x (X:XV) (w:World):Calls Tryz.prog 87 #[.agg X.arr] w fun e w'=>e= .returned (.bool true)∧Below w.heap.size w w':=by
 go_enter Tryz.func87,Tryz.ntmps87
 go_wp2_with fail
 refine wp_loop_rounds 1 ?_
 rw[rounds_succ]
 go_wp2
 go_ret
 exact⟨ret_b (by simp),by go_grown⟩
theorem rconverts_x (X:XV) (w:World):Calls Tryz.prog 88 #[.agg X.arr] w fun e w'=>e= .returned (.bool true)∧Below w.heap.size w w':=by
 go_enter Tryz.func88,Tryz.ntmps88
 go_wp2_with fail
 refine wp_loop_rounds 1 ?_
 rw[rounds_succ]
 go_wp2
 go_ret
 exact⟨ret_b (by simp),by go_grown⟩
theorem rsection_x (X:XV) (w:World) (h:X.In w):Calls Tryz.prog 125 #[.agg X.arr, .int .i64 0] w fun e w'=>e= .returned (.agg #[.string ⟨#[120]⟩, .int .i64 1, .int .i64 8, .int .i64 8, .string ⟨#[0,0,0,0,0,0,0,0]⟩, .bool false])∧Below w.heap.size w w':=by
 have hb2:∀o1 o2,Below w.heap.size w ((w.alloc o1).alloc o2):=fun o1 o2=>(below_alloc w o1).trans ((below_alloc _ o2).mono (by simp))
 have c0:=fun o1 o2=>(h.sec _ (hb2 o1 o2)).1
 have c1:=fun o1 o2=>(h.sec _ (hb2 o1 o2)).2.1
 have c2:=fun o1 o2=>(h.sec _ (hb2 o1 o2)).2.2.1
 have c3:=fun o1 o2=>(h.sec _ (hb2 o1 o2)).2.2.2.1
 have c4:=fun o1 o2=>(h.sec _ (hb2 o1 o2)).2.2.2.2.1
 have c5:=fun o1 o2=>(h.sec _ (hb2 o1 o2)).2.2.2.2.2
 clear h hb2
 go_enter Tryz.func125,Tryz.ntmps125
 go_wp2_with fail
 refine(rin_any _ _ _ _).mono ?_
 rintro e wq ⟨rfl,rfl⟩
 go_wp2
 ((try simp only[Exit.inBlock,Exit.then]);refine bodyPost_ret (results_cell_row rfl _ _ (w.heap.size+1) 47 _ (0,0) _ rfl (heap_alloc2_new w _ _) Tryz.underlying47 rfl (by kernel_rfl)) rfl ?_)
 exact⟨rfl,by go_grown⟩
theorem rrel_x (X:XV) (w:World) (h:X.In w):Calls Tryz.prog 200 #[.agg X.arr, .agg #[.int .i64 0, .int .i64 0, .int .i64 0, .int .i64 0, .int .i64 0]] w fun e w'=>e= .returned (.bool true)∧Below w.heap.size w w':=by
 have HS:=Hd.mk (fun w' (hb:Below w.heap.size w w')=>rsection_x X w' (h.below hb))
 have HW:Hd (∀w,Calls Tryz.prog 29 #[.int .i64 0] w fun e w'=>e= .returned (.int .i64 8)∧w=w'):=⟨fun w=>by
  have:=rwidth10_any 0 w
  rwa [show((widthI 0:Nat):Int)=8 by decide+kernel] at this⟩
 have HC:Hd (∀w,Calls Tryz.prog 28 #[.int .i64 0] w fun e w'=>e= .returned (.bool false)∧w=w'):=⟨fun w=>by
  have:=rcode10_any 0 w
  rwa [show codeB 0=false by decide+kernel] at this⟩
 clear h
 go_enter Tryz.func200,Tryz.ntmps200
 go_wp2_with fail
 refine(HS.out _ (by go_grown)).mono ?_
 rintro e w2 ⟨rfl,hb⟩
 have HB:Hd (Below w.heap.size w w2):=⟨(show Below w.heap.size w _ by go_grown).trans (hb.mono (by simp;omega))⟩
 have hs:w.heap.size+2≤w2.heap.size:=by have:=hb.size;simp at this;omega
 have e0:∀o,(w2.alloc o).cell? ⟨w.heap.size,2,none⟩=some (.slice (some ⟨X.g2,X.o2,none⟩) 1 X.c2):=fun o=>by rw[(below_alloc w2 o).cell (p:=⟨w.heap.size,2,none⟩) (by show w.heap.size<_;omega),hb.cell (p:=⟨w.heap.size,2,none⟩) (by simp;omega)];simp[go_sem]
 have d0:∀o,(w2.alloc o).cell? ⟨w.heap.size+1,0,none⟩=some (.int .i64 0):=fun o=>by rw[(below_alloc w2 o).cell (p:=⟨w.heap.size+1,0,none⟩) (by show w.heap.size+1<_;omega),hb.cell (p:=⟨w.heap.size+1,0,none⟩) (by simp)];simp[go_sem]
 have d1:∀o,(w2.alloc o).cell? ⟨w.heap.size+1,1,none⟩=some (.int .i64 0):=fun o=>by rw[(below_alloc w2 o).cell (p:=⟨w.heap.size+1,1,none⟩) (by show w.heap.size+1<_;omega),hb.cell (p:=⟨w.heap.size+1,1,none⟩) (by simp)];simp[go_sem]
 have d2:∀o,(w2.alloc o).cell? ⟨w.heap.size+1,2,none⟩=some (.int .i64 0):=fun o=>by rw[(below_alloc w2 o).cell (p:=⟨w.heap.size+1,2,none⟩) (by show w.heap.size+1<_;omega),hb.cell (p:=⟨w.heap.size+1,2,none⟩) (by simp)];simp[go_sem]
 have d3:∀o,(w2.alloc o).cell? ⟨w.heap.size+1,3,none⟩=some (.int .i64 0):=fun o=>by rw[(below_alloc w2 o).cell (p:=⟨w.heap.size+1,3,none⟩) (by show w.heap.size+1<_;omega),hb.cell (p:=⟨w.heap.size+1,3,none⟩) (by simp)];simp[go_sem]
 have d4:∀o,(w2.alloc o).cell? ⟨w.heap.size+1,4,none⟩=some (.int .i64 0):=fun o=>by rw[(below_alloc w2 o).cell (p:=⟨w.heap.size+1,4,none⟩) (by show w.heap.size+1<_;omega),hb.cell (p:=⟨w.heap.size+1,4,none⟩) (by simp)];simp[go_sem]
 clear hb hs HS
 go_wp2_with (first | (with_reducible refine(rin_any _ _ _ _).mono ?_;rintro e wq ⟨rfl,rfl⟩) | (with_reducible refine(HW.out _).mono ?_;rintro e wq ⟨rfl,rfl⟩) | (with_reducible refine(HC.out _).mono ?_;rintro e wq ⟨rfl,rfl⟩))
 go_ret
 exact⟨ret_b (by simp),HB.out.trans ((below_alloc w2 _).mono HB.out.size)⟩
theorem rrels_x (X:XV) (w:World) (h:X.In w):Calls Tryz.prog 81 #[.agg X.arr] w fun e w'=>e= .returned (.bool true)∧Below w.heap.size w w':=by
 have HS:=Hd.mk (fun w' (hb:Below w.heap.size w w')=>rrel_x X w' (h.below hb))
 have c0:=fun o=>(h.rel _ (below_alloc w o)).1
 have c1:=fun o=>(h.rel _ (below_alloc w o)).2.1
 have c2:=fun o=>(h.rel _ (below_alloc w o)).2.2.1
 have c3:=fun o=>(h.rel _ (below_alloc w o)).2.2.2.1
 have c4:=fun o=>(h.rel _ (below_alloc w o)).2.2.2.2
 clear h
 go_enter Tryz.func81,Tryz.ntmps81
 go_wp2_with fail
 refine wp_loop_rounds 2 ?_
 rw[rounds_succ]
 go_wp2_with fail
 refine(HS.out _ (by go_grown)).mono ?_
 rintro e w2 ⟨rfl,hb⟩
 have HB:Hd (Below w.heap.size w w2):=⟨(show Below w.heap.size w _ by go_grown).trans (hb.mono (by simp;omega))⟩
 have d0:w2.drew.cell? ⟨w.heap.size,3,none⟩=some (.slice (some ⟨X.g3,X.o3,none⟩) 1 X.c3):=by
  show w2.cell? ⟨w.heap.size,3,none⟩=_
  rw[hb.cell (p:=⟨w.heap.size,3,none⟩) (by simp;omega)];simp[go_sem]
 clear hb HS c0 c1 c2 c3 c4
 go_wp2_with fail
 refine wp_region_lin default (fun _=>True) [(0,true),(1,true),(2,true),(3,true),(4,true),(5,true),(6,true),(7,true),(8,true),(9,true),(10,true),(11,true),(12,true),(13,true),(14,true),(15,true),(16,true),(17,true),(18,true),(19,true),(20,true),(21,true),(22,true),(23,true),(24,true),(25,true),(26,true),(27,true),(28,true),(29,true),(30,true),(31,true),(32,true),(33,true),(34,true),(35,true),(36,true),(37,true),(38,true),(41,true),(42,true),(39,false),(40,true),(43,true),(44,true),(45,true),(46,true)] (by kernel_rfl) (by kernel_rfl) rfl (by kernel_rfl) (by kernel_rfl) trivial ?_
 simp only[pick,List.getD_cons_zero,List.getD_cons_succ]
 repeat
  first
  | (refine lin_free (v:= ?_) (by rfl) ?_ ?_
     rotate_left
     ·intro w' hSw
      clear hSw
      go_simp
      first | done | with_reducible rfl
     try simp only[Act.put,List.setIfInBounds_toArray,List.set_cons_zero,List.set_cons_succ])
  | (refine lin_skip (by rfl) ?_
     try simp only[Act.put,List.setIfInBounds_toArray,List.set_cons_zero,List.set_cons_succ])
 refine lin_bound (fun K hK=> ?_)
 go_simp
 refine hK.out _ _ trivial ?_
 clear hK K
 try simp only[Act.put,List.setIfInBounds_toArray,List.set_cons_zero,List.set_cons_succ]
 repeat
  first
  | (refine lin_free (v:= ?_) (by rfl) ?_ ?_
     rotate_left
     ·intro w' hSw
      clear hSw
      go_simp
      first | done | with_reducible rfl
     try simp only[Act.put,List.setIfInBounds_toArray,List.set_cons_zero,List.set_cons_succ])
  | (refine lin_skip (by rfl) ?_
     try simp only[Act.put,List.setIfInBounds_toArray,List.set_cons_zero,List.set_cons_succ])
 refine NoPanic.normal ?_
 go_wp2
 rw[rounds_succ]
 go_wp2
 go_ret
 exact⟨ret_b (by simp),Below.drew HB.out⟩
theorem infoBool1:(Tryz.prog.info? 4).map (fun i=>(i.zero,i.size,i.bytes))=some (some (.bool false),1,1):=by kernel_rfl
theorem make_one (w:World):(Instr.makeSlice 217 (.int .i64 1) (.int .i64 1)).run Tryz.prog w= .ok (.slice (some ⟨w.heap.size,0,none⟩) 1 1) (w.alloc (.cells #[.bool false] 4)):=by
 obtain⟨i0,hi,hz0,hz1,hz2⟩:=info_parts infoBool1
 have:=run_make (P:=Tryz.prog) w 217 4 i0 (.bool false) Tryz.underlying217 hi hz0 .i64 .i64 1 1 (by omega) (by omega) (by rw[hz2];omega) (by omega)
 rw[hz1,show madeCells (Value.bool false).cells (Int.toNat 1*1)= #[.bool false] by kernel_rfl] at this
 exact this
theorem rgroups_x (X:XV) (w:World):Calls Tryz.prog 82 #[.agg X.arr] w fun e w'=>e= .returned (.bool true)∧Below w.heap.size w w':=by
 have mz:=make_one
 go_enter Tryz.func82,Tryz.ntmps82
 go_wp2_with fail
 refine wp_loop_rounds 1 ?_
 rw[rounds_succ]
 go_wp2
 go_ret
 exact⟨ret_b (by simp),by go_grown⟩
end Go.Proofs.YtfaepbjnpakghaaGreatDoor.W
