import Derived.Laws.Bits64b
import Derived.Lib.IndexBytes
import Derived.Test.YtfaepbjnpakghaaGreatDoorKad
import Derived.Test.YtfaepbjnpakghaaGreatDoorKCdP
import Derived.Test.YtfaepbjnpakghaaGreatDoorKaf
import Derived.Test.YtfaepbjnpakghaaGreatDoorKac
/- A builder that the call has made; object.nums. -/
namespace Go.Proofs.YtfaepbjnpakghaaGreatDoor.W
open Go.RowKit
set_option linter.unusedVariables false
structure BuA (w:World) (b:Nat) (l:List UInt8):Prop where
 is:Lib.IsBuilder 152 5 b b (Lib.byteCells l) w
theorem BuA.start (w:World):BuA (w.alloc (.cells #[.pointer none, .slice none 0 0] 152)) w.heap.size []:=
 ⟨.inl ⟨Nat.le_refl _,_,(Blk.new w 152 [.pointer none, .slice none 0 0]).is,World.ownsRow_nil _ _ 5 1,by intro e;cases e⟩⟩
theorem BuA.lt {w:World} {b:Nat} {l:List UInt8} (h:BuA w b l):b<w.heap.size:=by
 rcases h.is with h | h
 ·exact World.block_lt_of_cell? w _ h.cell0
 ·exact World.block_lt_of_cell? w _ h.cell0
theorem strCells_data (s:ByteArray):Lib.strCells s=Lib.byteCells s.data.toList:=by
 unfold Lib.strCells Lib.byteCells
 rfl
theorem BuA.write {w:World} {b:Nat} {l:List UInt8} (h:BuA w b l) (s:ByteArray) (hl:l.length+s.size≤140737488355328):
 Calls Tryz.prog 207 #[.pointer (some ⟨b,0,none⟩), .string s] w fun e w'=>(∃x,e= .returned (.tuple #[x, .nilIface]))∧BuA w' b (l++s.data.toList)∧Below b w w':=by
 refine(bws_any b b _ s w h.is (by rw[Lib.byteCells_length];exact hl) (Nat.le_of_lt h.lt)).mono ?_
 rintro e w' ⟨rfl,h1,h2⟩
 refine⟨⟨_,rfl⟩,⟨?_⟩,h2⟩
 rw[strCells_data,←Lib.byteCells_append] at h1
 exact h1
theorem BuA.string {w:World} {b:Nat} {l:List UInt8} (h:BuA w b l):
 Calls Tryz.prog 129 #[.pointer (some ⟨b,0,none⟩)] w fun e w'=>e= .returned (.string ⟨l.toArray⟩)∧Below b w w':=by
 refine(bstr_any b b l w h.is).mono ?_
 rintro e w' ⟨rfl,S,hk,hS⟩
 exact⟨rfl,hk.below (Nat.le_of_lt h.lt) (fun g hg h=>by have:=(hS g h).1;omega)⟩
theorem row_below {w w':World} {B n size:Nat} {e:TypeId} {v:Value} {xs:List Value} (h:w.ownsRow B e size v n xs) (hb:Below w.heap.size w w'):w'.ownsRow B e size v n xs:=by
 refine⟨h.1,?_⟩
 rcases h.2 with hn | ⟨g,cap,cur,rfl,hB,hg,rest⟩
 ·exact .inl hn
 ·exact .inr ⟨g,cap,cur,rfl,hB,(hb.block g (Array.getElem?_eq_some_iff.1 hg).1).trans hg,rest⟩
theorem BuA.below {w w':World} {b:Nat} {l:List UInt8} (h:BuA w b l) (hb:Below w.heap.size w w'):BuA w' b l:=by
 have hlt:=h.lt
 rcases h.is with⟨h1,v,h2,h3,h4⟩ | ⟨h1,v,h2,h3,h4⟩
 ·exact⟨.inl ⟨h1,v,(hb.block b hlt).trans h2,row_below h3 hb,h4⟩⟩
 ·exact⟨.inr ⟨h1,v,(hb.block b hlt).trans h2,row_below h3 hb,h4⟩⟩
theorem take_bytes {α:Type} {e:α→List UInt8} {xs:List α} {k:Nat} (h:k<xs.length):(xs.take k).flatMap e++e xs[k]=(xs.take (k+1)).flatMap e:=by
 rw[List.take_succ_eq_append_getElem h,List.flatMap_append];simp
theorem take_bytes_le {α:Type} {e:α→List UInt8} (xs:List α) (k:Nat):((xs.take k).flatMap e).length≤(xs.flatMap e).length:=by
 have:(xs.take k).flatMap e++(xs.drop k).flatMap e=xs.flatMap e:=by rw[←List.flatMap_append,List.take_append_drop]
 rw[←this,List.length_append];omega
theorem natL_len (x:Int):(natL x).length≤10:=numL_len _
theorem nats_len:∀ks:List Int,(ks.flatMap natL).length≤10*ks.length
 | []=>by simp
 | x::ks=>by
   have:=nats_len ks
   have:=natL_len x
   rw[List.flatMap_cons,List.length_append,List.length_cons];omega
set_option maxHeartbeats 1000000 in
theorem onums_any (w:World) (v:Value) (ks:List Int) (hR:Rw 1 intE w v ks) (hl:ks.length≤1000000) (hk:∀x∈ks,natOk x):
 Calls Tryz.prog 92 #[v] w fun e w'=>e= .returned (.string ⟨(ks.flatMap natL).toArray⟩)∧Below w.heap.size w w':=by
 obtain⟨p,c,rfl⟩:=hR.slice
 have HR:=Hd.mk hR
 have HK:=Hd.mk hk
 obtain⟨n,hn⟩:∃n,ks.length=n:=⟨_,rfl⟩
 rw[hn] at hl⊢
 have HN:=Hd.mk hn
 rw[hn] at HR
 have HS:=Hd.mk (BuA.start w)
 obtain⟨b,hb⟩:∃b,w.heap.size=b:=⟨_,rfl⟩
 rw[hb] at HS
 have Hb:=Hd.mk hb
 clear hR hk hn
 go_enter Tryz.func92,Tryz.ntmps92
 go_wp2
 go_loopw [8] (fun i wr=>∃k:Nat,k≤n∧i= .int .i64 k∧Hd (BuA wr b ((ks.take k).flatMap natL))∧Hd (Below w.heap.size w wr)) (fun i _=>n-(intOf i).toNat)
 case atStart=>exact⟨0,Nat.zero_le _,rfl,HS,⟨by go_grown⟩⟩
 case round=>
  clear HS hb
  obtain⟨k,hkn,rfl,HB,HW⟩:=hrel
  have hbp:Hd (w.heap.size=b):=Hb
  by_cases hlt:k<n
  ·have hd1:decide ((k:Int)< (n:Int))=true:=by simp;omega
   have j0:(0:Int)≤(k:Int):=by omega
   have j1:(k:Int)< (n:Int):=by omega
   have hkq:k<ks.length:=HN.out▸hlt
   obtain⟨g0,of,cs,hpv,hg,hcl,hE,hcc⟩:=(HR.out.below intE_stays HW.out).at rfl (j:=k) hkq
   have hE':cs=[.int .i64 ks[k]]:=hE
   subst hE'
   subst hpv
   have c0:wr.cell? ⟨g0,of+k,none⟩=some (.int .i64 ks[k]):=by have:=hcc 0 _ rfl;rwa [Nat.mul_one] at this
   have htk:=take_bytes (e:=natL) hkq
   have hle:=take_bytes_le (e:=natL) ks (k+1)
   have hnl:=nats_len ks
   have hok:=HK.out _ (List.getElem_mem hkq)
   obtain⟨x,hx⟩:∃x,ks[k]=x:=⟨_,rfl⟩
   rw[hx] at c0 htk hok
   obtain⟨m,rfl⟩:∃m:Nat,x=(m:Int):=⟨x.toNat,by have:=hok.1;omega⟩
   have hnum:natL (m:Int)=numL m:=by unfold natL;rw[Int.toNat_natCast]
   rw[hnum] at htk
   have HNum:=Hd.mk (wnum_any m (by have:=hok.2;omega))
   have HWr:Hd (∀w2,Below wr.heap.size wr w2→Calls Tryz.prog 207 #[.pointer (some ⟨b,0,none⟩), .string ⟨(numL m).toArray⟩] w2 fun e w'=>(∃x,e= .returned (.tuple #[x, .nilIface]))∧BuA w' b ((ks.take (k+1)).flatMap natL)∧Below b w2 w'):=⟨fun w2 h2=>by
    have:=(HB.out.below h2).write ⟨(numL m).toArray⟩ (by
     have h1:(⟨(numL m).toArray⟩:ByteArray).size=(numL m).length:=rfl
     rw[h1,←List.length_append,htk];have:=HN.out;omega)
    rw[show(⟨(numL m).toArray⟩:ByteArray).data.toList=numL m from rfl,htk] at this
    exact this⟩
   have HBl:Hd (b≤wr.heap.size):=⟨Nat.le_of_lt HB.out.lt⟩
   clear hcc hcl hE hg htk hle hnl hok hx hnum
   go_wp2_with fail
   refine(HNum.out _).mono ?_
   rintro e w2 ⟨rfl,hb2⟩
   have HB2:=Hd.mk hb2
   clear hb2
   go_wp2_with fail
   refine(HWr.out w2 HB2.out).mono ?_
   rintro e w3 ⟨⟨y,rfl⟩,hb3,hl3⟩
   have HB3:=Hd.mk hb3
   have HW3:Hd (Below w.heap.size w w3):=⟨(HW.out.trans (HB2.out.mono HW.out.size)).trans (hl3.mono (by rw[hbp.out];exact Nat.le_refl _))⟩
   clear hb3 hl3
   go_wp2
   exact⟨⟨k+1,hlt,by go_num,HB3,HW3⟩,by simp[intOf];omega⟩
  ·have hd1:decide ((k:Int)< (n:Int))=false:=by simp;omega
   have HStr:Hd (Calls Tryz.prog 129 #[.pointer (some ⟨b,0,none⟩)] wr fun e w'=>e= .returned (.string ⟨(ks.flatMap natL).toArray⟩)∧Below b wr w'):=⟨by
    have:=HB.out.string
    rwa [List.take_of_length_le (by have:=HN.out;omega)] at this⟩
   obtain⟨s,hs⟩:∃s:ByteArray,(⟨(ks.flatMap natL).toArray⟩:ByteArray)=s:=⟨_,rfl⟩
   rw[hs] at HStr
   have HSS:=Hd.mk hs
   clear hs
   go_wp2_with fail
   refine HStr.out.mono ?_
   rintro e w2 ⟨rfl,hb2⟩
   have HW2:Hd (Below w.heap.size w w2):=⟨HW.out.trans (hb2.mono (by rw[hbp.out];exact Nat.le_refl _))⟩
   clear hb2
   go_wp2
   go_ret
   exact⟨congrArg (fun z=>Ending.returned (.string z)) HSS.out.symm,HW2.out⟩
end Go.Proofs.YtfaepbjnpakghaaGreatDoor.W
namespace Go.Proofs.YtfaepbjnpakghaaGreatDoor.W
open Go.RowKit
set_option linter.unusedVariables false
theorem otruth_any (b:Bool) (w:World):Calls Tryz.prog 93 #[.bool b] w fun e w'=>e= .returned (.int .i64 (truthI b))∧w=w':=by
 cases b<;>
 ·go_enter Tryz.func93,Tryz.ntmps93
  go_wp2
  go_ret
  exact⟨rfl,rfl⟩
theorem xor_ones64 (a:Nat) (ha:a<18446744073709551616):bits .xor .u64 (a:Int) 18446744073709551615=((18446744073709551615-a:Nat):Int):=by
 have h:=bits_xor_u64_nat a 18446744073709551615 ha (by decide)
 rw[show(18446744073709551615:Int)=((18446744073709551615:Nat):Int) from rfl,h]
 congr 1
 have h1:(BitVec.ofNat 64 a ^^^ BitVec.allOnes 64).toNat=a ^^^ 18446744073709551615:=by
  rw[BitVec.toNat_xor,BitVec.toNat_allOnes,BitVec.toNat_ofNat,Nat.mod_eq_of_lt (by omega)]
 rw[←h1,BitVec.xor_allOnes,BitVec.toNat_not,BitVec.toNat_ofNat,Nat.mod_eq_of_lt (by omega)]
theorem zig_bits (x:Int) (hx:I64 x):bits .xor .u64 (IntKind.u64.wrap (IntKind.u64.wrap x*2)) (IntKind.u64.wrap (x/9223372036854775808))=(zig x:Int):=by
 unfold I64 at hx
 simp only[IntKind.wrap_u64]
 by_cases h:0≤x
 ·have e1:x%18446744073709551616*2%18446744073709551616=((2*x.toNat:Nat):Int):=by omega
  have e2:x/9223372036854775808%18446744073709551616=((0:Nat):Int):=by omega
  rw[e1,e2,bits_xor_u64_nat _ _ (by omega) (by omega),Nat.xor_zero]
  unfold zig;rw[if_pos h]
 ·have e1:x%18446744073709551616*2%18446744073709551616=(((2*x+18446744073709551616).toNat:Nat):Int):=by omega
  have e2:x/9223372036854775808%18446744073709551616=18446744073709551615:=by omega
  rw[e1,e2,xor_ones64 _ (by omega)]
  unfold zig;rw[if_neg h];omega
theorem wint_any (x:Int) (hx:I64 x) (w:World):
 Calls Tryz.prog 96 #[.int .i64 x] w fun e w'=>e= .returned (.string ⟨(intL x).toArray⟩)∧Below w.heap.size w w':=by
 have hz:zig x<18446744073709551616:=by unfold I64 at hx;unfold zig;split<;>omega
 have HC:Hd (∀w:World,Calls Tryz.prog 208 #[.slice none 0 0, .int .u64 (zig x)] w fun e w'=>∃v,e= .returned v∧(convert 142 9 v).run Tryz.prog w'= .ok (.string ⟨(intL x).toArray⟩) w'∧Below w.heap.size w w'):=⟨fun w=>(wput_any (zig x) hz w).mono fun e w' ⟨v,he,hO,hB⟩=>⟨v,he,hO.back,hB⟩⟩
 have hb:=zig_bits x hx
 obtain⟨z,hz'⟩:∃z:Int,(zig x:Int)=z:=⟨_,rfl⟩
 obtain⟨s,hs⟩:∃s:ByteArray,(⟨(intL x).toArray⟩:ByteArray)=s:=⟨_,rfl⟩
 rw[hz'] at HC hb
 rw[hs] at HC⊢
 clear hz' hz hs hx
 go_enter Tryz.func96,Tryz.ntmps96
 go_wp2_with fail
 refine(HC.out _).mono ?_
 rintro e w1 ⟨v,rfl,hb,hB⟩
 have HB:=Hd.mk hB
 clear hB
 go_wp2
 go_ret
 exact⟨rfl,HB.out⟩
end Go.Proofs.YtfaepbjnpakghaaGreatDoor.W
namespace Go.Proofs.YtfaepbjnpakghaaGreatDoor.W
open Go.RowKit
set_option linter.unusedVariables false
set_option maxHeartbeats 1000000 in
theorem wlistInt_any {e:Int→List UInt8} {xs:List Int} (w:World) (v:Value) (g:Nat) (lb:Array Value) (hR:Rw 1 intE w v xs) (hl:lenR xs.length) (hp:FnV oneA intE (fun x=> .string ⟨(e x).toArray⟩) xs w g lb) (hlen:(listL e xs).length≤1000000000000):
 Calls Tryz.prog 209 #[v, .func (.func g) #[] lb] w fun e' w'=>e'= .returned (.string ⟨(listL e xs).toArray⟩)∧Below w.heap.size w w':=by
 obtain⟨pv,cv,rfl⟩:=hR.slice
 have HR:=Hd.mk hR
 have HP:=Hd.mk hp
 have HLen:=Hd.mk hlen
 have eg:∀args w,(callFunc g args).run Tryz.prog w= .ok (.enter g args) w:=hp.ent
 unfold lenR at hl
 obtain⟨n,hn⟩:∃n,xs.length=n:=⟨_,rfl⟩
 have HN:=Hd.mk hn
 rw[hn] at HR hl⊢
 have HS:=Hd.mk (BuA.start w)
 have HS0:Hd (Below w.heap.size w (w.alloc (.cells #[.pointer none, .slice none 0 0] 152))):=⟨below_alloc w _⟩
 obtain⟨b,hb⟩:∃b,w.heap.size=b:=⟨_,rfl⟩
 rw[hb] at HS
 have Hb:=Hd.mk hb
 have HNum:=Hd.mk (wnum_any n (by omega))
 have hW0:∀w2,Below (w.alloc (.cells #[.pointer none, .slice none 0 0] 152)).heap.size (w.alloc (.cells #[.pointer none, .slice none 0 0] 152)) w2→Calls Tryz.prog 207 #[.pointer (some ⟨b,0,none⟩), .string ⟨(numL n).toArray⟩] w2 fun e' w'=>(∃x,e'= .returned (.tuple #[x, .nilIface]))∧BuA w' b (numL n++(xs.take 0).flatMap e)∧Below b w2 w':=fun w2 h2=>by
  have:=(HS.out.below h2).write ⟨(numL n).toArray⟩ (by
   have h1:(⟨(numL n).toArray⟩:ByteArray).size=(numL n).length:=rfl
   rw[h1];have:=numL_len n;simp;omega)
  rw[show(⟨(numL n).toArray⟩:ByteArray).data.toList=numL n from rfl,List.nil_append] at this
  simpa using this
 have HW0:=Hd.mk hW0
 clear hR hp hn hlen hW0
 go_enter Tryz.func209,Tryz.ntmps209
 go_wp2_with fail
 refine(HNum.out _).mono ?_
 rintro e' w2 ⟨rfl,hb2⟩
 have HB2:=Hd.mk hb2
 clear hb2
 go_wp2_with fail
 refine(HW0.out w2 HB2.out).mono ?_
 rintro e' w3 ⟨⟨y,rfl⟩,hb3,hl3⟩
 have HB3:=Hd.mk hb3
 have HW3:Hd (Below w.heap.size w w3):=⟨(HS0.out.trans (HB2.out.mono (by simp))).trans (hl3.mono (by rw[Hb.out];exact Nat.le_refl _))⟩
 clear hb3 hl3
 go_wp2
 go_loopw [14] (fun i wr=>∃k:Nat,k≤n∧i= .int .i64 k∧Hd (BuA wr b (numL n++(xs.take k).flatMap e))∧Hd (Below w.heap.size w wr)) (fun i _=>n-(intOf i).toNat)
 case atStart=>exact⟨0,Nat.zero_le _,rfl,HB3,HW3⟩
 case round=>
  clear HS HB3 HW3 HB2 hb HW0
  obtain⟨k,hkn,rfl,HB,HW⟩:=hrel
  by_cases hlt:k<n
  ·have hd1:decide ((k:Int)< (n:Int))=true:=by simp;omega
   have j0:(0:Int)≤(k:Int):=by omega
   have j1:(k:Int)< (n:Int):=by omega
   have hkq:k<xs.length:=HN.out▸hlt
   obtain⟨g0,of,cs,hpv,hg,hcl,hEc,hcc⟩:=(HR.out.below intE_stays HW.out).at rfl (j:=k) hkq
   subst hpv
   have hcw:∀w',Below wr.heap.size wr w'→intE w' cs xs[k]:=fun w' h=>intE_stays _ _ _ _ h hEc
   have hcall:=HP.out.at_ xs[k] (List.getElem_mem hkq)
   have htk:=take_bytes (e:=e) hkq
   have hle:=take_bytes_le (e:=e) xs (k+1)
   obtain⟨x,hx⟩:∃x,xs[k]=x:=⟨_,rfl⟩
   rw[hx] at hEc hcw hcall htk
   have hcs:cs=[.int .i64 x]:=hEc
   subst hcs
   have c0:wr.cell? ⟨g0,of+k,none⟩=some (.int .i64 x):=by have:=hcc 0 _ rfl;rwa [Nat.mul_one] at this
   have hA:oneA [.int .i64 x]= .int .i64 x:=rfl
   have HC:Hd (∀w',Below wr.heap.size wr w'→Calls Tryz.prog g (#[.int .i64 x]++lb) w' fun e' w2=>e'= .returned (.string ⟨(e x).toArray⟩)∧Below w'.heap.size w' w2):=⟨fun w' h=>hA▸hcall w' (HW.out.trans (h.mono HW.out.size)) _ (hcw w' h)⟩
   have HWr:Hd (∀w2,Below wr.heap.size wr w2→Calls Tryz.prog 207 #[.pointer (some ⟨b,0,none⟩), .string ⟨(e x).toArray⟩] w2 fun e' w'=>(∃x,e'= .returned (.tuple #[x, .nilIface]))∧BuA w' b (numL n++(xs.take (k+1)).flatMap e)∧Below b w2 w'):=⟨fun w2 h2=>by
    have:=(HB.out.below h2).write ⟨(e x).toArray⟩ (by
     have h1:(⟨(e x).toArray⟩:ByteArray).size=(e x).length:=rfl
     have h2:=HLen.out
     unfold listL at h2
     rw[List.length_append] at h2
     rw[h1,←List.length_append,List.append_assoc,htk,List.length_append];rw[HN.out] at h2;omega)
    rw[show(⟨(e x).toArray⟩:ByteArray).data.toList=e x from rfl,List.append_assoc,htk] at this
    exact this⟩
   clear hcc hcl hg htk hle hx hcw hcall hA hEc
   generalize (⟨(e x).toArray⟩:ByteArray)=sx at HC HWr
   go_wp2_with fail
   refine(HC.out _ (Below.refl _ _)).mono ?_
   rintro e' w2 ⟨rfl,hb2⟩
   have HB2:=Hd.mk hb2
   clear hb2
   go_wp2_with fail
   refine(HWr.out w2 HB2.out).mono ?_
   rintro e' w3 ⟨⟨y,rfl⟩,hb3,hl3⟩
   have HB3:=Hd.mk hb3
   have HW3:Hd (Below w.heap.size w w3):=⟨(HW.out.trans (HB2.out.mono HW.out.size)).trans (hl3.mono (by rw[Hb.out];exact Nat.le_refl _))⟩
   clear hb3 hl3
   go_wp2
   exact⟨⟨k+1,hlt,by go_num,HB3,HW3⟩,by simp[intOf];omega⟩
  ·have hd1:decide ((k:Int)< (n:Int))=false:=by simp;omega
   have HStr:Hd (Calls Tryz.prog 129 #[.pointer (some ⟨b,0,none⟩)] wr fun e' w'=>e'= .returned (.string ⟨(listL e xs).toArray⟩)∧Below b wr w'):=⟨by
    have:=HB.out.string
    rw[List.take_of_length_le (by have:=HN.out;omega)] at this
    unfold listL
    rw[HN.out]
    exact this⟩
   obtain⟨s,hs⟩:∃s:ByteArray,(⟨(listL e xs).toArray⟩:ByteArray)=s:=⟨_,rfl⟩
   rw[hs] at HStr
   have HSS:=Hd.mk hs
   clear hs
   go_wp2_with fail
   refine HStr.out.mono ?_
   rintro e' w2 ⟨rfl,hb2⟩
   have HW2:Hd (Below w.heap.size w w2):=⟨HW.out.trans (hb2.mono (by rw[Hb.out];exact Nat.le_refl _))⟩
   clear hb2
   go_wp2
   go_ret
   exact⟨congrArg (fun z=>Ending.returned (.string z)) HSS.out.symm,HW2.out⟩
set_option maxHeartbeats 1000000 in
theorem wnums_any (w:World) (v:Value) (ks:List Int) (hR:Rw 1 intE w v ks) (hk:∀x∈ks,I64 x) (hlen:(listL intL ks).length≤1000000000000):
 Calls Tryz.prog 101 #[v] w fun e w'=>e= .returned (.string ⟨(listL intL ks).toArray⟩)∧Below w.heap.size w w':=by
 have hl:lenR ks.length:=by
  have h:=hlen
  unfold listL at h
  rw[List.length_append] at h
  have:∀l:List Int,l.length≤(l.flatMap intL).length:=by
   intro l
   induction l with
   | nil=>simp
   | cons x r ih=>
     have:0< (intL x).length:=numL_pos _
     rw[List.flatMap_cons,List.length_append,List.length_cons];omega
  have:=this ks
  unfold lenR
  omega
 have HC:=Hd.mk (wlistInt_any (e:=intL) w v 96 #[] hR hl ⟨enters_of Tryz.func96 rfl rfl,fun x hx w' hb cs hE=>by
  have hE':cs=[.int .i64 x]:=hE
  subst hE'
  exact wint_any x (hk x hx) w'⟩ hlen)
 obtain⟨p,c,rfl⟩:=hR.slice
 obtain⟨n,hn⟩:∃n,ks.length=n:=⟨_,rfl⟩
 obtain⟨s,hs⟩:∃s:ByteArray,(⟨(listL intL ks).toArray⟩:ByteArray)=s:=⟨_,rfl⟩
 rw[hn,hs] at HC
 rw[hn,hs]
 clear hR hk hlen hl hn hs
 go_enter Tryz.func101,Tryz.ntmps101
 go_wp2_with fail
 refine HC.out.mono ?_
 rintro e w2 ⟨rfl,h2⟩
 have HX:=Hd.mk h2
 clear h2
 go_wp2
 go_ret
 exact⟨rfl,HX.out⟩
end Go.Proofs.YtfaepbjnpakghaaGreatDoor.W
namespace Go.Proofs.YtfaepbjnpakghaaGreatDoor.W
open Go.RowKit
set_option linter.unusedVariables false
inductive Wt where
 | val (v:Value)
 | row (ks:List Int)
def Wt.At:Wt→Value→World→Prop
 | .val c,v,_=>v=c
 | .row ks,v,w=>Rw 1 intE w v ks
def WtL (l:List (Nat × Wt)) (i:Nat) (v:Value) (w:World):Prop:=∀p,l.lookup i=some p→p.At v w
theorem WtL.keep (l:List (Nat × Wt)):∀i v w w',WtL l i v w→Below w.heap.size w w'→WtL l i v w':=by
 intro i v w w' h hb p hp
 have:=h p hp
 cases p with
 | val c=>exact this
 | row ks=>exact Rw.below this intE_stays hb
theorem WtL.val {l:List (Nat × Wt)} {i:Nat} {v c:Value} {w:World} (h:WtL l i v w) (hl:l.lookup i=some (.val c)):v=c:=h _ hl
theorem WtL.row {l:List (Nat × Wt)} {i:Nat} {v:Value} {ks:List Int} {w:World} (h:WtL l i v w) (hl:l.lookup i=some (.row ks)):Rw 1 intE w v ks:=h _ hl
theorem WtL.ofVal {l:List (Nat × Wt)} {i:Nat} {c:Value} {w:World} (hl:l.lookup i=some (.val c)):WtL l i c w:=fun p hp=>by rw[hl] at hp;cases hp;rfl
theorem WtL.ofRow {l:List (Nat × Wt)} {i:Nat} {v:Value} {ks:List Int} {w:World} (hl:l.lookup i=some (.row ks)) (h:Rw 1 intE w v ks):WtL l i v w:=fun p hp=>by rw[hl] at hp;cases hp;exact h
theorem truth_nat (b:Bool):natOk (truthI b):=by cases b<;>unfold natOk truthI<;>simp
theorem text_len (s:ByteArray):(⟨(strL s).toArray⟩:ByteArray).size≤10+s.size:=by
 have e:s.data.toList.length=s.size:=by simp
 show(textL s.data.toList).length≤_
 unfold textL
 rw[List.length_append,e]
 have:=numL_len s.size
 omega
theorem nums_size (ks:List Int):(⟨(ks.flatMap natL).toArray⟩:ByteArray).size≤10*ks.length:=nats_len ks
theorem int_size (x:Int):(⟨(intL x).toArray⟩:ByteArray).size≤10:=numL_len _
theorem list_size {α:Type} (e:α→List UInt8) (xs:List α) {n:Nat} (h:(listL e xs).length≤n):(⟨(listL e xs).toArray⟩:ByteArray).size≤n:=h
theorem app_size {a b:ByteArray} {m n k:Nat} (ha:a.size≤m) (hb:b.size≤n) (hk:m+n≤k):(a++b).size≤k:=by rw[ByteArray.size_append];omega
theorem ints_row (w:World) (ks:List Int):Rw 1 intE (w.alloc (.cells (ks.map fun k=>Value.int .i64 k).toArray 3)) (.slice (some ⟨w.heap.size,0,none⟩) ks.length ks.length) ks:=Rw.ints (Blk.new w 3 (ks.map fun k=> .int .i64 k))
theorem cat_toArray (a b:List UInt8):(⟨a.toArray⟩:ByteArray)++⟨b.toArray⟩=⟨(a++b).toArray⟩:=by
 apply ByteArray.ext
 simp[ByteArray.data_append]
end Go.Proofs.YtfaepbjnpakghaaGreatDoor.W
namespace Go.Proofs.YtfaepbjnpakghaaGreatDoor.W
open Go.RowKit
set_option linter.unusedVariables false
set_option linter.unusedSimpArgs false
theorem rowDepB (w:World) (o1:Obj) (a b c d:Int):Rw 1 intE ((w.alloc o1).alloc (.cells #[.int .i64 a, .int .i64 b, .int .i64 c, .int .i64 d] 3)) (.slice (some ⟨w.heap.size+1,0,none⟩) 4 4) [a,b,c,d]:=by
 have:=Rw.ints (ks:=[a,b,c,d]) (cap:=4) (Blk.new (w.alloc o1) 3 [.int .i64 a, .int .i64 b, .int .i64 c, .int .i64 d])
 rwa [show(w.alloc o1).heap.size=w.heap.size+1 from by simp] at this
set_option maxHeartbeats 4000000 in
set_option maxRecDepth 100000 in
theorem bDep_any (w:World) (x:Dep) (hk:x.okc):
 Calls Tryz.prog 111 #[.agg #[.int .i64 x.sec, .int .i64 x.from_, .int .i64 x.to_, .int .i64 x.bytes]] w fun e w'=>e= .returned (.string ⟨(Dep.wr x).toArray⟩)∧Below w.heap.size w w':=by
 obtain⟨hk_sec,hk_from_,hk_to_,hk_bytes⟩:=hk
 have hE:(⟨(Dep.wr x).toArray⟩:ByteArray)=(⟨(([x.sec,x.from_,x.to_,x.bytes]).flatMap natL).toArray⟩:ByteArray):=by
  simp only[cat_toArray,Dep.wr,List.flatMap_cons,List.flatMap_nil,List.append_assoc,List.append_nil]
 have hc9:∀w v,Rw 1 intE w v [x.sec,x.from_,x.to_,x.bytes]→Calls Tryz.prog 92 #[v] w fun e w'=>e= .returned (.string (⟨(([x.sec,x.from_,x.to_,x.bytes]).flatMap natL).toArray⟩:ByteArray))∧Below w.heap.size w w':=fun w v h=>onums_any w v _ h (by simp) (by intro y hy;simp only[List.mem_cons,List.not_mem_nil,or_false] at hy;rcases hy with rfl | rfl | rfl | rfl<;>first | exact hk_sec | exact hk_from_ | exact hk_to_ | exact hk_bytes)
 have z9:(⟨(([x.sec,x.from_,x.to_,x.bytes]).flatMap natL).toArray⟩:ByteArray).size≤40:=nums_size _
 obtain⟨s9,hs9⟩:∃s:ByteArray,(⟨(([x.sec,x.from_,x.to_,x.bytes]).flatMap natL).toArray⟩:ByteArray)=s:=⟨_,rfl⟩
 rw[hs9] at hc9 z9
 have HC9:=Hd.mk hc9
 clear hc9
 rw[hs9] at hE
 have HE:=Hd.mk hE
 clear hE z9 hs9 hk_sec hk_from_ hk_to_ hk_bytes
 rw[HE.out]
 have HB:Hd (∀w1,Below (w.alloc (.cells #[.int .i64 x.sec, .int .i64 x.from_, .int .i64 x.to_, .int .i64 x.bytes] 98)).drew.heap.size (w.alloc (.cells #[.int .i64 x.sec, .int .i64 x.from_, .int .i64 x.to_, .int .i64 x.bytes] 98)).drew w1→Below w.heap.size w w1):=⟨fun w1 h=>below_first ((Below.drew (Below.refl _ _)).trans h)⟩
 have HF:Hd (∀w',Below (w.alloc (.cells #[.int .i64 x.sec, .int .i64 x.from_, .int .i64 x.to_, .int .i64 x.bytes] 98)).drew.heap.size (w.alloc (.cells #[.int .i64 x.sec, .int .i64 x.from_, .int .i64 x.to_, .int .i64 x.bytes] 98)).drew w'→w'.cell? ⟨w.heap.size,0,none⟩=some (.int .i64 x.sec)∧w'.cell? ⟨w.heap.size,1,none⟩=some (.int .i64 x.from_)∧w'.cell? ⟨w.heap.size,2,none⟩=some (.int .i64 x.to_)∧w'.cell? ⟨w.heap.size,3,none⟩=some (.int .i64 x.bytes)):=⟨fun w' h=>⟨(h.cell (p:=⟨w.heap.size,0,none⟩) (by simp)).trans (by simp[go_sem]),(h.cell (p:=⟨w.heap.size,1,none⟩) (by simp)).trans (by simp[go_sem]),(h.cell (p:=⟨w.heap.size,2,none⟩) (by simp)).trans (by simp[go_sem]),(h.cell (p:=⟨w.heap.size,3,none⟩) (by simp)).trans (by simp[go_sem])⟩⟩
 go_enter Tryz.func111,Tryz.ntmps111
 go_wp2_with fail
 refine(HC9.out _ _ (rowDepB w _ _ _ _ _)).mono ?_
 rintro e w2 ⟨rfl,h2⟩
 have HX:Hd (Below w.heap.size w w2):=⟨below_first (below_first h2)⟩
 clear h2
 go_wp2
 go_ret
 exact⟨rfl,HX.out⟩
theorem rowPceB (w:World) (o1:Obj) (a b c:Int):Rw 1 intE ((w.alloc o1).alloc (.cells #[.int .i64 a, .int .i64 b, .int .i64 c] 3)) (.slice (some ⟨w.heap.size+1,0,none⟩) 3 3) [a,b,c]:=by
 have:=Rw.ints (ks:=[a,b,c]) (cap:=3) (Blk.new (w.alloc o1) 3 [.int .i64 a, .int .i64 b, .int .i64 c])
 rwa [show(w.alloc o1).heap.size=w.heap.size+1 from by simp] at this
set_option maxHeartbeats 4000000 in
set_option maxRecDepth 100000 in
theorem bPce_any (w:World) (x:Pce) (hk:x.okc):
 Calls Tryz.prog 115 #[.agg #[.int .i64 x.from_, .int .i64 x.size, .int .i64 x.to_]] w fun e w'=>e= .returned (.string ⟨(Pce.wr x).toArray⟩)∧Below w.heap.size w w':=by
 obtain⟨hk_from_,hk_size,hk_to_⟩:=hk
 have hE:(⟨(Pce.wr x).toArray⟩:ByteArray)=(⟨(([x.from_,x.size,x.to_]).flatMap natL).toArray⟩:ByteArray):=by
  simp only[cat_toArray,Pce.wr,List.flatMap_cons,List.flatMap_nil,List.append_assoc,List.append_nil]
 have hc7:∀w v,Rw 1 intE w v [x.from_,x.size,x.to_]→Calls Tryz.prog 92 #[v] w fun e w'=>e= .returned (.string (⟨(([x.from_,x.size,x.to_]).flatMap natL).toArray⟩:ByteArray))∧Below w.heap.size w w':=fun w v h=>onums_any w v _ h (by simp) (by intro y hy;simp only[List.mem_cons,List.not_mem_nil,or_false] at hy;rcases hy with rfl | rfl | rfl<;>first | exact hk_from_ | exact hk_size | exact hk_to_)
 have z7:(⟨(([x.from_,x.size,x.to_]).flatMap natL).toArray⟩:ByteArray).size≤30:=nums_size _
 obtain⟨s7,hs7⟩:∃s:ByteArray,(⟨(([x.from_,x.size,x.to_]).flatMap natL).toArray⟩:ByteArray)=s:=⟨_,rfl⟩
 rw[hs7] at hc7 z7
 have HC7:=Hd.mk hc7
 clear hc7
 rw[hs7] at hE
 have HE:=Hd.mk hE
 clear hE z7 hs7 hk_from_ hk_size hk_to_
 rw[HE.out]
 have HB:Hd (∀w1,Below (w.alloc (.cells #[.int .i64 x.from_, .int .i64 x.size, .int .i64 x.to_] 103)).drew.heap.size (w.alloc (.cells #[.int .i64 x.from_, .int .i64 x.size, .int .i64 x.to_] 103)).drew w1→Below w.heap.size w w1):=⟨fun w1 h=>below_first ((Below.drew (Below.refl _ _)).trans h)⟩
 have HF:Hd (∀w',Below (w.alloc (.cells #[.int .i64 x.from_, .int .i64 x.size, .int .i64 x.to_] 103)).drew.heap.size (w.alloc (.cells #[.int .i64 x.from_, .int .i64 x.size, .int .i64 x.to_] 103)).drew w'→w'.cell? ⟨w.heap.size,0,none⟩=some (.int .i64 x.from_)∧w'.cell? ⟨w.heap.size,1,none⟩=some (.int .i64 x.size)∧w'.cell? ⟨w.heap.size,2,none⟩=some (.int .i64 x.to_)):=⟨fun w' h=>⟨(h.cell (p:=⟨w.heap.size,0,none⟩) (by simp)).trans (by simp[go_sem]),(h.cell (p:=⟨w.heap.size,1,none⟩) (by simp)).trans (by simp[go_sem]),(h.cell (p:=⟨w.heap.size,2,none⟩) (by simp)).trans (by simp[go_sem])⟩⟩
 go_enter Tryz.func115,Tryz.ntmps115
 go_wp2_with fail
 refine(HC7.out _ _ (rowPceB w _ _ _ _)).mono ?_
 rintro e w2 ⟨rfl,h2⟩
 have HX:Hd (Below w.heap.size w w2):=⟨below_first (below_first h2)⟩
 clear h2
 go_wp2
 go_ret
 exact⟨rfl,HX.out⟩
theorem bPce_fn (w:World) (xs:List Pce) (hk:∀y∈xs,y.okc):FnV aggA Pce.E (fun x=> .string ⟨(Pce.wr x).toArray⟩) xs w 115 #[]:=
 ⟨enters_of Tryz.func115 rfl rfl,fun x hx w' hb cs hE=>by
  have hcs:cs=[.int .i64 x.from_, .int .i64 x.size, .int .i64 x.to_]:=hE
  subst hcs
  exact bPce_any w' x (hk x hx)⟩
end Go.Proofs.YtfaepbjnpakghaaGreatDoor.W
namespace Go.Proofs.YtfaepbjnpakghaaGreatDoor.W
set_option linter.unusedVariables false
theorem strOk_of {s:ByteArray} (h:lenR s.size):strOk s:=Nat.le_trans h (by decide)
theorem natOk_of {x:Int} (h:I64 x) (h0:0≤x):natOk x:=⟨h0,h.2⟩
theorem listOk_of {α:Type} {ok:α→Prop} {xs:List α} (h:lenR xs.length) (h1:∀x∈xs,ok x):listOk ok xs:=⟨Nat.le_trans h (by decide),h1⟩
theorem inB_pos {n u:Int} (h:inB n u=true):0≤n:=(of_decide_eq_true h).1
theorem isB_pos {o:Ob} {sec:Int} {ks:List Int} (h:isB o sec ks=true):0≤sec:=by
 unfold isB secAt at h
 by_cases h0:0≤sec
 ·exact h0
 ·rw[if_neg h0] at h;cases h
theorem symKB_pos {o:Ob} {i k:Int} (h:symKB o i k=true):0≤i:=by
 unfold symKB symAt at h
 by_cases h0:0≤i
 ·exact h0
 ·rw[if_neg h0] at h;cases h
theorem powB_pos {n:Int} (h:powB n=true):0≤n:=by
 unfold powB at h
 simp only[Bool.or_eq_true,beq_iff_eq] at h
 omega
theorem spanB_pos {o:Ob} {sec a b:Int} (h:spanB o sec a b=true):0≤sec∧0≤a∧0≤b:=by
 unfold spanB at h
 simp only[Bool.and_eq_true,decide_eq_true_eq] at h
 obtain⟨⟨⟨⟨⟨h1,h2⟩,h3⟩,h4⟩,h5⟩,h6⟩:=h
 exact⟨isB_pos h1,h2,by omega⟩
structure RightO (o:Ob):Prop where
 secs:secsB o=true
 syms:symsB o=true
 rels:relsB o=true
 groups:groupsB o=true
 inits:initsB o=true
 lines:linesB o=true
 inlines:inlinesB o=true
 vars:varsB o=true
 depths:depthsB o=true
 converts:convertsB o=true
 name:nameB o.name=true
theorem rightO_iff {o:Ob}:rightO o=true↔RightO o:=by
 unfold rightO
 simp only[Bool.and_eq_true]
 exact⟨fun⟨⟨⟨⟨⟨⟨⟨⟨⟨⟨a,b⟩,c⟩,d⟩,e⟩,f⟩,g⟩,h⟩,i⟩,j⟩,k⟩=>⟨a,b,c,d,e,f,g,h,i,j,k⟩,fun⟨a,b,c,d,e,f,g,h,i,j,k⟩=>⟨⟨⟨⟨⟨⟨⟨⟨⟨⟨a,b⟩,c⟩,d⟩,e⟩,f⟩,g⟩,h⟩,i⟩,j⟩,k⟩⟩
theorem RightO.sec {o:Ob} (h:RightO o) {s:Sec} (hs:s∈o.secs):secB s=true:=by
 have:=h.secs
 unfold secsB at this
 simp only[Bool.and_eq_true,List.all_eq_true] at this
 exact this.1.2 s hs
theorem RightO.sym {o:Ob} (h:RightO o) {s:Sym} (hs:s∈o.syms):symB o s=true:=by
 have:=h.syms
 unfold symsB at this
 simp only[Bool.and_eq_true,List.all_eq_true] at this
 exact this.1.2 s hs
theorem RightO.rel {o:Ob} (h:RightO o) {s:Rel} (hs:s∈o.rels):relB o s=true:=by
 have:=h.rels
 unfold relsB at this
 simp only[Bool.and_eq_true,List.all_eq_true] at this
 exact this.1 s hs
theorem RightO.ini {o:Ob} (h:RightO o) {s:Ini} (hs:s∈o.inits):iniB o s=true:=by
 have:=h.inits
 unfold initsB at this
 simp only[List.all_eq_true] at this
 exact this s hs
theorem RightO.lne {o:Ob} (h:RightO o) {s:Lne} (hs:s∈o.lines):lneB o s=true:=by
 have:=h.lines
 unfold linesB at this
 simp only[Bool.and_eq_true,List.all_eq_true] at this
 exact this.1 s hs
theorem RightO.inl {o:Ob} (h:RightO o) {s:Inl} (hs:s∈o.inlines):inlB o s=true:=by
 have:=h.inlines
 unfold inlinesB at this
 simp only[Bool.and_eq_true,List.all_eq_true] at this
 exact this.1.1 s hs
theorem RightO.vrr {o:Ob} (h:RightO o) {s:Vrr} (hs:s∈o.vars):vrrB o s=true:=by
 have:=h.vars
 unfold varsB at this
 simp only[Bool.and_eq_true,List.all_eq_true] at this
 exact this.1 s hs
theorem RightO.dep {o:Ob} (h:RightO o) {s:Dep} (hs:s∈o.depths):depB o s=true:=by
 have:=h.depths
 unfold depthsB at this
 simp only[Bool.and_eq_true,List.all_eq_true] at this
 exact this.1 s hs
theorem RightO.cnv {o:Ob} (h:RightO o) {s:Cnv} (hs:s∈o.converts):cnvB o s=true:=by
 have:=h.converts
 unfold convertsB at this
 simp only[Bool.and_eq_true,List.all_eq_true] at this
 exact this.1 s hs
theorem sec_okc {s:Sec} (h:secB s=true) (k:s.Ok):s.okc:=by
 unfold secB at h
 simp only[Bool.and_eq_true] at h
 obtain⟨⟨⟨⟨⟨h1,h2⟩,h3⟩,h4⟩,h5⟩,h6⟩:=h
 exact⟨strOk_of k.name,natOk_of k.kind (inB_pos h2),natOk_of k.align (powB_pos h3),natOk_of k.size (inB_pos h4),strOk_of k.bytes,trivial⟩
theorem sym_align {o:Ob} {s:Sym} (h:symB o s=true):0≤s.align:=by
 unfold symB at h
 by_cases h1:symFields s=true
 ·rw[if_pos h1] at h
  by_cases h2:s.bind=3
  ·rw[if_pos h2] at h
   unfold symCommon at h
   simp only[Bool.and_eq_true] at h
   exact powB_pos h.2
  ·rw[if_neg h2] at h
   by_cases h3:s.sec= -1
   ·rw[if_pos h3] at h
    unfold symRef at h
    simp only[Bool.and_eq_true,decide_eq_true_eq] at h
    omega
   ·rw[if_neg h3] at h
    unfold symHere at h
    simp only[Bool.and_eq_true,decide_eq_true_eq] at h
    omega
 ·rw[if_neg h1] at h;cases h
theorem sym_fields {o:Ob} {s:Sym} (h:symB o s=true):symFields s=true:=by
 unfold symB at h
 by_cases h1:symFields s=true
 ·exact h1
 ·rw[if_neg h1] at h;cases h
theorem sym_okc {o:Ob} {s:Sym} (h:symB o s=true) (k:s.Ok):s.okc:=by
 have ha:=sym_align h
 have hf:=sym_fields h
 unfold symFields at hf
 simp only[Bool.and_eq_true,decide_eq_true_eq] at hf
 obtain⟨⟨⟨⟨⟨⟨h1,h2⟩,h3⟩,h4⟩,h5⟩,h6⟩,h7⟩:=hf
 exact⟨strOk_of k.name,strOk_of k.version,trivial,natOk_of k.bind (inB_pos h3),natOk_of k.vis (inB_pos h4),natOk_of k.kind (inB_pos h5),k.sec,natOk_of k.at_ h6,natOk_of k.size h7,natOk_of k.align ha⟩
structure RelIs (o:Ob) (r:Rel) (s:Sec):Prop where
 at_:secAt o r.sec=some s
 kind:inB r.kind 13=true
 sym:inB r.sym o.syms.length=true
 sec:isB o r.sec [0,1]=true
 fit:relFit s r=true
 in_:relIn s r=true
theorem rel_is {o:Ob} {r:Rel} (h:relB o r=true):∃s,RelIs o r s:=by
 unfold relB relHead at h
 simp only[Bool.and_eq_true] at h
 obtain⟨⟨⟨⟨⟨h1,h2⟩,h3⟩,h4⟩,h5⟩,h6⟩:=h
 rcases hs:secAt o r.sec with _ | s
 ·rw[hs] at h6;cases h6
 ·rw[hs] at h6
  simp only[Bool.and_eq_true] at h6
  exact⟨s,hs,h1,h3,h2,h6.1,h6.2⟩
theorem RelIs.fits {o:Ob} {r:Rel} {s:Sec} (h:RelIs o r s):0≤r.at_∧r.at_<s.size∧r.at_≤s.size-widthI r.kind∧r.at_%widthI r.kind=0:=by
 have:=h.fit
 unfold relFit inB at this
 simp only[Bool.and_eq_true,decide_eq_true_eq] at this
 obtain⟨⟨⟨a,b⟩,c⟩,d⟩:=this
 exact⟨a,b,c,d⟩
theorem rel_okc {o:Ob} {r:Rel} (h:relB o r=true) (k:r.Ok):r.okc:=by
 obtain⟨s,hs⟩:=rel_is h
 exact⟨natOk_of k.sec (isB_pos hs.sec),natOk_of k.at_ hs.fits.1,natOk_of k.kind (inB_pos hs.kind),natOk_of k.sym (inB_pos hs.sym),k.add⟩
theorem ini_okc {o:Ob} {x:Ini} (h:iniB o x=true) (k:x.Ok):x.okc:=by
 unfold iniB at h
 simp only[Bool.and_eq_true] at h
 exact⟨natOk_of k.sym (symKB_pos h.1.1),k.order,trivial⟩
theorem lineR_pos {n:Int} (h:lineR n=true):0≤n:=by
 unfold lineR at h
 simp only[Bool.and_eq_true,decide_eq_true_eq] at h
 omega
theorem lne_okc {o:Ob} {x:Lne} (h:lneB o x=true) (k:x.Ok):x.okc:=by
 unfold lneB at h
 simp only[Bool.and_eq_true] at h
 obtain⟨⟨⟨⟨h1,h2⟩,h3⟩,h4⟩,h5⟩:=h
 exact⟨natOk_of k.sec (isB_pos h1),natOk_of k.at_ (inB_pos h2),strOk_of k.file,natOk_of k.line (lineR_pos h5)⟩
theorem inl_okc {o:Ob} {x:Inl} (h:inlB o x=true) (k:x.Ok):x.okc:=by
 unfold inlB at h
 simp only[Bool.and_eq_true] at h
 obtain⟨⟨⟨h1,h2⟩,h3⟩,h4⟩:=h
 obtain⟨p1,p2,p3⟩:=spanB_pos h1
 exact⟨natOk_of k.sec p1,natOk_of k.from_ p2,natOk_of k.to_ p3,strOk_of k.name,strOk_of k.file,natOk_of k.line (lineR_pos h4)⟩
theorem whereB_pos {o:Ob} {v:Vrr} (h:whereB o v=true):0≤v.where_∧0≤v.n:=by
 unfold whereB at h
 by_cases h0:v.where_=0
 ·rw[if_pos h0] at h;exact⟨by omega,inB_pos h⟩
 rw[if_neg h0] at h
 by_cases h1:v.where_=1
 ·rw[if_pos h1] at h
  simp only[Bool.and_eq_true] at h
  exact⟨by omega,inB_pos h.1⟩
 rw[if_neg h1] at h
 by_cases h2:v.where_=2
 ·rw[if_pos h2] at h;exact⟨by omega,symKB_pos h⟩
 rw[if_neg h2] at h;cases h
theorem vrr_okc {o:Ob} {x:Vrr} (h:vrrB o x=true) (k:x.Ok):x.okc:=by
 unfold vrrB at h
 simp only[Bool.and_eq_true] at h
 obtain⟨⟨h1,h2⟩,h3⟩:=h
 obtain⟨p1,p2,p3⟩:=spanB_pos h1
 obtain⟨q1,q2⟩:=whereB_pos h3
 exact⟨natOk_of k.sec p1,natOk_of k.from_ p2,natOk_of k.to_ p3,strOk_of k.name,natOk_of k.where_ q1,natOk_of k.n q2⟩
theorem dep_okc {o:Ob} {x:Dep} (h:depB o x=true) (k:x.Ok):x.okc:=by
 unfold depB at h
 simp only[Bool.and_eq_true] at h
 obtain⟨⟨h1,h2⟩,h3⟩:=h
 obtain⟨p1,p2,p3⟩:=spanB_pos h1
 exact⟨natOk_of k.sec p1,natOk_of k.from_ p2,natOk_of k.to_ p3,natOk_of k.bytes (inB_pos h2)⟩
theorem fitsP_pos {a n z:Int} (h:fitsP a n z=true):0≤a∧1≤n:=by
 unfold fitsP at h
 simp only[Bool.and_eq_true,decide_eq_true_eq] at h
 omega
theorem pce_okc {z:Int} {x:Pce} (h:pceB z x=true) (k:x.Ok):x.okc:=by
 unfold pceB at h
 simp only[Bool.and_eq_true] at h
 obtain⟨a1,a2⟩:=fitsP_pos h.1
 obtain⟨b1,b2⟩:=fitsP_pos h.2
 exact⟨natOk_of k.from_ a1,natOk_of k.size (by omega),natOk_of k.to_ b1⟩
theorem cnv_okc {o:Ob} {x:Cnv} (h:cnvB o x=true) (k:x.Ok):x.okc:=by
 unfold cnvB at h
 simp only[Bool.and_eq_true,List.all_eq_true] at h
 obtain⟨⟨⟨⟨h1,h2⟩,h3⟩,h4⟩,h5⟩:=h
 exact⟨natOk_of k.sec (isB_pos h1),strOk_of k.from_,listOk_of k.pieces (fun p hp=>pce_okc (h4 p hp) (k.piecesI p hp)),k.code⟩
theorem right_okc {o:Ob} (h:RightO o) (k:o.Ok):o.okc:=
 ⟨strOk_of k.name,listOk_of k.secs (fun x hx=>sec_okc (h.sec hx) (k.secsI x hx)),listOk_of k.syms (fun x hx=>sym_okc (h.sym hx) (k.symsI x hx)),
  listOk_of k.rels (fun x hx=>rel_okc (h.rel hx) (k.relsI x hx)),listOk_of k.groups (fun x hx=>⟨strOk_of (k.groupsI x hx).name,listOk_of (k.groupsI x hx).secs (k.groupsI x hx).secsI⟩),
  listOk_of k.inits (fun x hx=>ini_okc (h.ini hx) (k.initsI x hx)),listOk_of k.lines (fun x hx=>lne_okc (h.lne hx) (k.linesI x hx)),listOk_of k.inlines (fun x hx=>inl_okc (h.inl hx) (k.inlinesI x hx)),
  listOk_of k.vars (fun x hx=>vrr_okc (h.vrr hx) (k.varsI x hx)),listOk_of k.depths (fun x hx=>dep_okc (h.dep hx) (k.depthsI x hx)),listOk_of k.converts (fun x hx=>cnv_okc (h.cnv hx) (k.convertsI x hx))⟩
end Go.Proofs.YtfaepbjnpakghaaGreatDoor.W
namespace Go.Proofs.YtfaepbjnpakghaaGreatDoor.W
open Go.RowKit
set_option linter.unusedVariables false
set_option linter.unusedSimpArgs false
structure RdW (w:World) (b:Nat) (st:Rs):Prop where
 blk:Blk w b 159 [.string ⟨st.rest.toArray⟩, .bool st.bad]
def strT (s:ByteArray):List UInt8:=s.data.toList
theorem strT_mk (l:List UInt8):strT ⟨l.toArray⟩=l:=by simp[strT]
theorem RdW.keeps {w w':World} {b:Nat} {st:Rs} {S:Nat→Prop} (h:RdW w b st) (k:Keeps S w w') (hs:¬S b):RdW w' b st:=⟨k.blk h.blk hs⟩
theorem wfail_any (w:World) (b:Nat) (st:Rs) (h:RdW w b st):
 Calls Tryz.prog 132 #[.pointer (some ⟨b,0,none⟩)] w fun e w'=>e= .returned (.tuple #[])∧RdW w' b st.fail∧Keeps (·=b) w w':=by
 have h0:=h.blk.at (j:=0) rfl
 have h1:=h.blk.at (j:=1) rfl
 have f0:=h.blk.free 0
 have f1:=h.blk.free 1
 have HX:Hd (RdW ((w.setCell ⟨b,0,none⟩ (.string ⟨#[]⟩)).setCell ⟨b,1,none⟩ (.bool true)) b st.fail∧Keeps (·=b) w ((w.setCell ⟨b,0,none⟩ (.string ⟨#[]⟩)).setCell ⟨b,1,none⟩ (.bool true))):=
  ⟨⟨(h.blk.set 0 _).set 1 _⟩,((Keeps.refl (·=b) w).setCell (p:=⟨b,0,none⟩) (.inr rfl) _).setCell (p:=⟨b,1,none⟩) (.inr rfl) _⟩
 have x1:(w.setCell ⟨b,0,none⟩ (.string ⟨#[]⟩)).cell? ⟨b,1,none⟩=some (.bool st.bad):=(h.blk.set 0 _).at (j:=1) rfl
 have g1:=(h.blk.set 0 (.string ⟨#[]⟩)).free 1
 clear h
 go_enter Tryz.func132,Tryz.ntmps132
 go_wp2
 go_end0
 exact⟨rfl,HX.out⟩
structure NumAt (l:List UInt8) (k acc:Nat):Prop where
 low:acc<128 ^ k
 is:numG 0 l=(numG k (l.drop k)).map fun p=>(acc+128 ^ k*p.1,p.2)
theorem NumAt.start (l:List UInt8):NumAt l 0 0:=⟨by simp,by
 rw[List.drop_zero]
 cases numG 0 l with
 | none=>rfl
 | some p=>simp⟩
theorem numG_ten (l:List UInt8):numG 10 l=none:=by
 cases l with
 | nil=>rfl
 | cons c l=>rw[numG,if_pos (by omega)]
theorem NumAt.none_end {l:List UInt8} {k acc:Nat} (h:NumAt l k acc) (hk:k=10∨l.length≤k):numG 0 l=none:=by
 rw[h.is]
 rcases hk with rfl | hk
 ·rw[numG_ten];rfl
 ·rw[List.drop_eq_nil_of_le hk,numG];rfl
theorem NumAt.none_big {l:List UInt8} {acc:Nat} (h:NumAt l 9 acc) (hk:9<l.length) (hc:1< (l[9]).toNat):numG 0 l=none:=by
 rw[h.is,List.drop_eq_getElem_cons hk,numG,if_neg (by omega),if_pos ⟨rfl,hc⟩];rfl
theorem NumAt.none_zero {l:List UInt8} {k acc:Nat} (h:NumAt l k acc) (hk:k<l.length) (hc:(l[k]).toNat=0) (h0:0<k) (h10:k<10):numG 0 l=none:=by
 rw[h.is,List.drop_eq_getElem_cons hk,numG,if_neg (by omega),if_neg (by omega),if_pos (by omega),if_pos ⟨hc,h0⟩];rfl
theorem NumAt.done {l:List UInt8} {k acc:Nat} (h:NumAt l k acc) (hk:k<l.length) (h10:k<10) (hb:¬(k=9∧1< (l[k]).toNat)) (hc:(l[k]).toNat<128) (hz:¬((l[k]).toNat=0∧0<k)):
 numG 0 l=some (acc+128 ^ k*(l[k]).toNat,l.drop (k+1)):=by
 rw[h.is,List.drop_eq_getElem_cons hk,numG,if_neg (by omega),if_neg hb,if_pos hc,if_neg hz];rfl
theorem NumAt.next {l:List UInt8} {k acc:Nat} (h:NumAt l k acc) (hk:k<l.length) (h10:k<10) (hb:¬(k=9∧1< (l[k]).toNat)) (hc:¬(l[k]).toNat<128):NumAt l (k+1) (acc+128 ^ k*((l[k]).toNat%128)):=by
 refine⟨?_,?_⟩
 ·have h1:=h.low
  have h2:(l[k]).toNat%128+1≤128:=by omega
  have h3:128 ^ k*((l[k]).toNat%128+1)≤128 ^ k*128:=Nat.mul_le_mul_left _ h2
  rw[Nat.pow_succ]
  rw[Nat.mul_add,Nat.mul_one] at h3
  omega
 ·rw[h.is,List.drop_eq_getElem_cons hk,numG,if_neg (by omega),if_neg hb,if_neg hc,Option.map_map]
  congr 1
  funext p
  simp only[Function.comp_apply,Nat.pow_succ,Nat.mul_add,Nat.mul_assoc,Nat.add_assoc]
theorem or_shift {acc k c:Nat} (ha:acc<128 ^ k) (hk:k<10) (hc:c<128) (h9:k=9→c≤1):
 IntKind.u64.wrap (((c:Nat):Int)*2 ^(7*(k:Int)).toNat)=((128 ^ k*c:Nat):Int)∧bits .or .u64 (acc:Int) ((128 ^ k*c:Nat):Int)=((acc+128 ^ k*c:Nat):Int)∧acc+128 ^ k*c<18446744073709551616:=by
 have e7:(7*(k:Int)).toNat=7*k:=by omega
 have ep:(2:Nat)^(7*k)=128 ^ k:=by rw[Nat.pow_mul]
 have hlt:acc+128 ^ k*c<18446744073709551616:=by
  by_cases h:k=9
  ·subst h
   have:=h9 rfl
   have:128 ^ 9*c≤128 ^ 9*1:=Nat.mul_le_mul_left _ this
   omega
  ·have h1:128 ^ k*(c+1)≤128 ^ k*128:=Nat.mul_le_mul_left _ (by omega)
   have h2:128 ^(k+1)≤128 ^ 9:=Nat.pow_le_pow_right (by decide) (by omega)
   rw[Nat.pow_succ] at h2
   rw[Nat.mul_add,Nat.mul_one] at h1
   omega
 refine⟨?_,?_,hlt⟩
 ·rw[e7,IntKind.wrap_u64]
  have:((c:Int)*2 ^(7*k))=((128 ^ k*c:Nat):Int):=by
   rw[←ep]
   push_cast
   exact Int.mul_comm _ _
  rw[this]
  omega
 ·rw[bits_or_u64_nat _ _ (by omega) (by omega)]
  congr 1
  have h1:=Nat.shiftLeft_add_eq_or_of_lt (a:=c) (i:=7*k) (b:=acc) (by rw[ep];exact ha)
  rw[Nat.shiftLeft_eq,ep] at h1
  rw[Nat.or_comm,Nat.mul_comm,←h1,Nat.add_comm]
def numberD (st:Rs):Nat × Rs:=match numG 0 st.rest with
 | some p=>(p.1,⟨p.2,st.bad,st.bad2⟩)
 | none=>(0,st.fail)
theorem number_none {st:Rs} (h:numG 0 st.rest=none):numberD st=(0,st.fail):=by unfold numberD;rw[h]
theorem number_some {st:Rs} {m:Nat} {r:List UInt8} (h:numG 0 st.rest=some (m,r)):numberD st=(m,⟨r,st.bad,st.bad2⟩):=by unfold numberD;rw[h]
theorem ext_drop (s:ByteArray) (n k:Nat) (h:s.size=n):s.extract k n=⟨((strT s).drop k).toArray⟩:=by
 rw[←Lib.mk_data (s.extract k n),←h,Lib.extract_to_end];rfl
set_option maxHeartbeats 2000000 in
set_option maxRecDepth 100000 in
theorem wnumber_any (w:World) (b:Nat) (st:Rs) (h:RdW w b st) (hl:st.rest.length≤1000000000000):
 Calls Tryz.prog 134 #[.pointer (some ⟨b,0,none⟩)] w fun e w'=>e= .returned (.int .u64 (numberD st).1)∧RdW w' b (numberD st).2∧Keeps (·=b) w w':=by
 have HF:=Hd.mk (wfail_any w b st h)
 have h0:=h.blk.at (j:=0) rfl
 have f0:=h.blk.free 0
 have HR:=Hd.mk h
 obtain⟨s,hs⟩:∃s:ByteArray,(⟨st.rest.toArray⟩:ByteArray)=s:=⟨_,rfl⟩
 rw[hs] at h0
 have hL:st.rest=strT s:=by rw[←hs,strT_mk]
 have hsz:s.size=(strT s).length:=by simp[strT]
 have hget:∀k (h:k<s.size),(strT s)[k]? =some s[k]:=fun k h=>by simp[strT,h];rfl
 have hl':s.size≤1000000000000:=by rw[hsz,←hL];exact hl
 have HL:=Hd.mk (And.intro hL (And.intro hsz hget))
 have HS0:=Hd.mk (NumAt.start (strT s))
 clear hs hL hsz hget hl h
 go_enter Tryz.func134,Tryz.ntmps134
 go_wp2
 go_loop [3,4] (fun m i=>∃(k acc:Nat),k≤10∧k≤s.size∧m= .int .u64 acc∧i= .int .i64 k∧Hd (NumAt (strT s) k acc)) (fun _ i=>10-(intOf i).toNat)
 case atStart=>exact⟨0,0,by omega,by omega,rfl,rfl,HS0⟩
 case round=>
  obtain⟨k,acc,hk10,hks,rfl,rfl,HN⟩:=hrel
  by_cases hlt:k<s.size
  ·have hd1:decide ((k:Int)< (s.size:Int))=true:=by simp;omega
   by_cases hlt10:k<10
   ·have hd2:decide ((k:Int)<10)=true:=by simp;omega
    have i0:(0:Int)≤(k:Int):=by omega
    have i1:(k:Int)< (s.size:Int):=by omega
    obtain⟨c,hc⟩:∃c,s[k]'hlt=c:=⟨_,rfl⟩
    have HLk:=Hd.mk (show k< (strT s).length from HL.out.2.1▸hlt)
    have HC:Hd ((strT s)[k]'HLk.out=c):=⟨by have:=HL.out.2.2 k hlt;rw[List.getElem?_eq_getElem HLk.out,hc] at this;exact Option.some.inj this⟩
    have wc:IntKind.u64.wrap (c.toNat:Int)=(c.toNat:Int):=by have:=c.toNat_lt;rw[IntKind.wrap_u64];omega
    by_cases hbig:k=9∧1<c.toNat
    ·obtain⟨rfl,hb⟩:=hbig
     have t1:decide ((1:Int)< (c.toNat:Int))=true:=by simp;omega
     have t2:decide (1<c.toNat)=true:=by simp;omega
     have HE:=Hd.mk (number_none (st:=st) (by rw[HL.out.1];exact HN.out.none_big HLk.out (by rw[HC.out];exact hb)))
     go_wp2_with fail
     refine HF.out.mono ?_
     rintro e w2 ⟨rfl,h2⟩
     have H2:=Hd.mk h2
     clear h2
     go_wp2
     go_ret
     rw[HE.out]
     exact⟨rfl,H2.out⟩
    ·by_cases h9:k=9
     ·have g1:((k:Int)==9)=true:=by simp;omega
      have t1:decide ((1:Int)< (c.toNat:Int))=false:=by simp;omega
      have t2:decide (1<c.toNat)=false:=by simp;omega
      obtain⟨o1,o2,o3⟩:=or_shift HN.out.low hlt10 (show c.toNat%128<128 by omega) (fun h=>by have:=hbig;omega)
      have q1:(c.toNat:Int).tmod 128=((c.toNat%128:Nat):Int):=by rw[Int.tmod_eq_emod_of_nonneg (by omega)];omega
      have q2:(c.toNat:Int)%128=((c.toNat%128:Nat):Int):=by omega
      have y1:IntKind.i64.wrap (7*(k:Int))=7*(k:Int):=IntWalk.i64_in _ (by omega)
      have y2:(0:Int)≤7*(k:Int):=by omega
      have y3:7*(k:Int)≤64:=by omega
      have HB:=Hd.mk hbig
      obtain⟨r,hr⟩:∃r,c.toNat%128=r:=⟨_,rfl⟩
      rw[hr] at o1 o2 o3 q1 q2
      have HRr:=Hd.mk hr
      obtain⟨t,ht⟩:∃t,128 ^ k*r=t:=⟨_,rfl⟩
      rw[ht] at o1 o2 o3
      have HTt:=Hd.mk ht
      obtain⟨a2,ha2⟩:∃a,acc+t=a:=⟨_,rfl⟩
      rw[ha2] at o2 o3
      have HAa:=Hd.mk ha2
      clear hr ht ha2
      have HK:=Hd.mk hlt10
      clear hbig h9
      by_cases hlo:c.toNat<128
      ·have t3:decide ((c.toNat:Int)<128)=true:=by simp;omega
       have t4:decide (c.toNat<128)=true:=by simp;omega
       by_cases h0:c.toNat=0
       ·have z1:((c.toNat:Int)==0)=true:=by simp;omega
        by_cases hk0:0<k
        ·have z2:decide ((0:Int)< (k:Int))=true:=by simp;omega
         have z3:decide (0<k)=true:=by simp;omega
         have HE:=Hd.mk (number_none (st:=st) (by rw[HL.out.1];exact HN.out.none_zero HLk.out (by rw[HC.out];exact h0) hk0 HK.out))
         go_wp2_with fail
         refine HF.out.mono ?_
         rintro e w2 ⟨rfl,h2⟩
         have H2:=Hd.mk h2
         clear h2
         go_wp2
         go_ret
         rw[HE.out]
         exact⟨rfl,H2.out⟩
        ·have z2:decide ((0:Int)< (k:Int))=false:=by simp;omega
         have z3:decide (0<k)=false:=by simp;omega
         have HZ:Hd (¬(c.toNat=0∧0<k)):=⟨fun h=>hk0 h.2⟩
         clear h0
         have HE:=Hd.mk (number_some (st:=st) (by rw[HL.out.1];exact HN.out.done HLk.out HK.out (by rw[HC.out];exact HB.out) (by rw[HC.out];exact hlo) (by rw[HC.out];exact HZ.out)))
         rw[HC.out] at HE
         have ec:c.toNat%128=c.toNat:=Nat.mod_eq_of_lt hlo
         have er:r=c.toNat:=by rw[←HRr.out,ec]
         have ea:acc+128 ^ k*c.toNat=a2:=by rw[←HAa.out,←HTt.out,er]
         rw[ea] at HE
         clear ec er ea
         obtain⟨n1,hn1⟩:∃n,k+1=n:=⟨_,rfl⟩
         rw[hn1] at HE
         have x1:IntKind.i64.wrap ((k:Int)+1)=(n1:Int):=by rw[IntWalk.i64_in _ (by omega)];omega
         have x2:(k:Int)+1=(n1:Int):=by omega
         have x3:(0:Int)≤(n1:Int):=by omega
         have x4:(n1:Int)≤(s.size:Int):=by omega
         clear hn1
         have HX:Hd (RdW (w.setCell ⟨b,0,none⟩ (.string (s.extract n1 s.size))) b (⟨(strT s).drop n1,st.bad,st.bad2⟩:Rs)∧Keeps (·=b) w (w.setCell ⟨b,0,none⟩ (.string (s.extract n1 s.size)))):=⟨⟨by rw[ext_drop s s.size n1 rfl];exact HR.out.blk.set 0 _⟩,(Keeps.refl (·=b) w).setCell (p:=⟨b,0,none⟩) (.inr rfl) _⟩
         go_wp2
         go_ret
         rw[HE.out]
         exact⟨rfl,HX.out⟩
       ·have z1:((c.toNat:Int)==0)=false:=by simp;omega
        have HZ:Hd (¬(c.toNat=0∧0<k)):=⟨fun h=>h0 h.1⟩
        have HE:=Hd.mk (number_some (st:=st) (by rw[HL.out.1];exact HN.out.done HLk.out HK.out (by rw[HC.out];exact HB.out) (by rw[HC.out];exact hlo) (by rw[HC.out];exact HZ.out)))
        rw[HC.out] at HE
        have ec:c.toNat%128=c.toNat:=Nat.mod_eq_of_lt hlo
        have er:r=c.toNat:=by rw[←HRr.out,ec]
        have ea:acc+128 ^ k*c.toNat=a2:=by rw[←HAa.out,←HTt.out,er]
        rw[ea] at HE
        clear ec er ea
        obtain⟨n1,hn1⟩:∃n,k+1=n:=⟨_,rfl⟩
        rw[hn1] at HE
        have x1:IntKind.i64.wrap ((k:Int)+1)=(n1:Int):=by rw[IntWalk.i64_in _ (by omega)];omega
        have x2:(k:Int)+1=(n1:Int):=by omega
        have x3:(0:Int)≤(n1:Int):=by omega
        have x4:(n1:Int)≤(s.size:Int):=by omega
        clear hn1
        have HX:Hd (RdW (w.setCell ⟨b,0,none⟩ (.string (s.extract n1 s.size))) b (⟨(strT s).drop n1,st.bad,st.bad2⟩:Rs)∧Keeps (·=b) w (w.setCell ⟨b,0,none⟩ (.string (s.extract n1 s.size)))):=⟨⟨by rw[ext_drop s s.size n1 rfl];exact HR.out.blk.set 0 _⟩,(Keeps.refl (·=b) w).setCell (p:=⟨b,0,none⟩) (.inr rfl) _⟩
        go_wp2
        go_ret
        rw[HE.out]
        exact⟨rfl,HX.out⟩
      ·have HE:=Hd.mk (HN.out.next HLk.out HK.out (by rw[HC.out];exact HB.out) (by rw[HC.out];exact hlo))
       rw[HC.out,HRr.out,HTt.out,HAa.out] at HE
       have t3:decide ((c.toNat:Int)<128)=false:=by simp;omega
       have t4:decide (c.toNat<128)=false:=by simp;omega
       go_wp2
       go_round
       case rel=>exact⟨k+1,_,by omega,by omega,rfl,by go_num,HE⟩
       case measure=>simp[intOf];omega
     ·have g1:((k:Int)==9)=false:=by simp;omega
      obtain⟨o1,o2,o3⟩:=or_shift HN.out.low hlt10 (show c.toNat%128<128 by omega) (fun h=>by have:=hbig;omega)
      have q1:(c.toNat:Int).tmod 128=((c.toNat%128:Nat):Int):=by rw[Int.tmod_eq_emod_of_nonneg (by omega)];omega
      have q2:(c.toNat:Int)%128=((c.toNat%128:Nat):Int):=by omega
      have y1:IntKind.i64.wrap (7*(k:Int))=7*(k:Int):=IntWalk.i64_in _ (by omega)
      have y2:(0:Int)≤7*(k:Int):=by omega
      have y3:7*(k:Int)≤64:=by omega
      have HB:=Hd.mk hbig
      obtain⟨r,hr⟩:∃r,c.toNat%128=r:=⟨_,rfl⟩
      rw[hr] at o1 o2 o3 q1 q2
      have HRr:=Hd.mk hr
      obtain⟨t,ht⟩:∃t,128 ^ k*r=t:=⟨_,rfl⟩
      rw[ht] at o1 o2 o3
      have HTt:=Hd.mk ht
      obtain⟨a2,ha2⟩:∃a,acc+t=a:=⟨_,rfl⟩
      rw[ha2] at o2 o3
      have HAa:=Hd.mk ha2
      clear hr ht ha2
      have HK:=Hd.mk hlt10
      clear hbig h9
      by_cases hlo:c.toNat<128
      ·have t3:decide ((c.toNat:Int)<128)=true:=by simp;omega
       have t4:decide (c.toNat<128)=true:=by simp;omega
       by_cases h0:c.toNat=0
       ·have z1:((c.toNat:Int)==0)=true:=by simp;omega
        by_cases hk0:0<k
        ·have z2:decide ((0:Int)< (k:Int))=true:=by simp;omega
         have z3:decide (0<k)=true:=by simp;omega
         have HE:=Hd.mk (number_none (st:=st) (by rw[HL.out.1];exact HN.out.none_zero HLk.out (by rw[HC.out];exact h0) hk0 HK.out))
         go_wp2_with fail
         refine HF.out.mono ?_
         rintro e w2 ⟨rfl,h2⟩
         have H2:=Hd.mk h2
         clear h2
         go_wp2
         go_ret
         rw[HE.out]
         exact⟨rfl,H2.out⟩
        ·have z2:decide ((0:Int)< (k:Int))=false:=by simp;omega
         have z3:decide (0<k)=false:=by simp;omega
         have HZ:Hd (¬(c.toNat=0∧0<k)):=⟨fun h=>hk0 h.2⟩
         clear h0
         have HE:=Hd.mk (number_some (st:=st) (by rw[HL.out.1];exact HN.out.done HLk.out HK.out (by rw[HC.out];exact HB.out) (by rw[HC.out];exact hlo) (by rw[HC.out];exact HZ.out)))
         rw[HC.out] at HE
         have ec:c.toNat%128=c.toNat:=Nat.mod_eq_of_lt hlo
         have er:r=c.toNat:=by rw[←HRr.out,ec]
         have ea:acc+128 ^ k*c.toNat=a2:=by rw[←HAa.out,←HTt.out,er]
         rw[ea] at HE
         clear ec er ea
         obtain⟨n1,hn1⟩:∃n,k+1=n:=⟨_,rfl⟩
         rw[hn1] at HE
         have x1:IntKind.i64.wrap ((k:Int)+1)=(n1:Int):=by rw[IntWalk.i64_in _ (by omega)];omega
         have x2:(k:Int)+1=(n1:Int):=by omega
         have x3:(0:Int)≤(n1:Int):=by omega
         have x4:(n1:Int)≤(s.size:Int):=by omega
         clear hn1
         have HX:Hd (RdW (w.setCell ⟨b,0,none⟩ (.string (s.extract n1 s.size))) b (⟨(strT s).drop n1,st.bad,st.bad2⟩:Rs)∧Keeps (·=b) w (w.setCell ⟨b,0,none⟩ (.string (s.extract n1 s.size)))):=⟨⟨by rw[ext_drop s s.size n1 rfl];exact HR.out.blk.set 0 _⟩,(Keeps.refl (·=b) w).setCell (p:=⟨b,0,none⟩) (.inr rfl) _⟩
         go_wp2
         go_ret
         rw[HE.out]
         exact⟨rfl,HX.out⟩
       ·have z1:((c.toNat:Int)==0)=false:=by simp;omega
        have HZ:Hd (¬(c.toNat=0∧0<k)):=⟨fun h=>h0 h.1⟩
        have HE:=Hd.mk (number_some (st:=st) (by rw[HL.out.1];exact HN.out.done HLk.out HK.out (by rw[HC.out];exact HB.out) (by rw[HC.out];exact hlo) (by rw[HC.out];exact HZ.out)))
        rw[HC.out] at HE
        have ec:c.toNat%128=c.toNat:=Nat.mod_eq_of_lt hlo
        have er:r=c.toNat:=by rw[←HRr.out,ec]
        have ea:acc+128 ^ k*c.toNat=a2:=by rw[←HAa.out,←HTt.out,er]
        rw[ea] at HE
        clear ec er ea
        obtain⟨n1,hn1⟩:∃n,k+1=n:=⟨_,rfl⟩
        rw[hn1] at HE
        have x1:IntKind.i64.wrap ((k:Int)+1)=(n1:Int):=by rw[IntWalk.i64_in _ (by omega)];omega
        have x2:(k:Int)+1=(n1:Int):=by omega
        have x3:(0:Int)≤(n1:Int):=by omega
        have x4:(n1:Int)≤(s.size:Int):=by omega
        clear hn1
        have HX:Hd (RdW (w.setCell ⟨b,0,none⟩ (.string (s.extract n1 s.size))) b (⟨(strT s).drop n1,st.bad,st.bad2⟩:Rs)∧Keeps (·=b) w (w.setCell ⟨b,0,none⟩ (.string (s.extract n1 s.size)))):=⟨⟨by rw[ext_drop s s.size n1 rfl];exact HR.out.blk.set 0 _⟩,(Keeps.refl (·=b) w).setCell (p:=⟨b,0,none⟩) (.inr rfl) _⟩
        go_wp2
        go_ret
        rw[HE.out]
        exact⟨rfl,HX.out⟩
      ·have HE:=Hd.mk (HN.out.next HLk.out HK.out (by rw[HC.out];exact HB.out) (by rw[HC.out];exact hlo))
       rw[HC.out,HRr.out,HTt.out,HAa.out] at HE
       have t3:decide ((c.toNat:Int)<128)=false:=by simp;omega
       have t4:decide (c.toNat<128)=false:=by simp;omega
       go_wp2
       go_round
       case rel=>exact⟨k+1,_,by omega,by omega,rfl,by go_num,HE⟩
       case measure=>simp[intOf];omega
   ·have hd2:decide ((k:Int)<10)=false:=by simp;omega
    have HE:=Hd.mk (number_none (st:=st) (by rw[HL.out.1];exact HN.out.none_end (.inl (by omega))))
    go_wp2_with fail
    refine HF.out.mono ?_
    rintro e w2 ⟨rfl,h2⟩
    have H2:=Hd.mk h2
    clear h2
    go_wp2
    go_ret
    rw[HE.out]
    exact⟨rfl,H2.out⟩
  ·have hd1:decide ((k:Int)< (s.size:Int))=false:=by simp;omega
   have HE:=Hd.mk (number_none (st:=st) (by rw[HL.out.1];exact HN.out.none_end (.inr (by rw[←HL.out.2.1];omega))))
   go_wp2_with fail
   refine HF.out.mono ?_
   rintro e w2 ⟨rfl,h2⟩
   have H2:=Hd.mk h2
   clear h2
   go_wp2
   go_ret
   rw[HE.out]
   exact⟨rfl,H2.out⟩
end Go.Proofs.YtfaepbjnpakghaaGreatDoor.W
namespace Go.Proofs.YtfaepbjnpakghaaGreatDoor.W
open Go.RowKit
set_option linter.unusedVariables false
set_option linter.unusedSimpArgs false
theorem number_lt (st:Rs):(numberD st).1<18446744073709551616:=by
 unfold numberD
 split
 ·rename_i p h;exact(numG_is h).2
 ·show(0:Nat)<_;decide
theorem numD_eq (st:Rs):numD st=if(numberD st).1≤9223372036854775807 then(((numberD st).1:Int),(numberD st).2) else(0,(numberD st).2.fail):=by
 unfold numD numberD
 cases h:numG 0 st.rest with
 | none=>simp[Rs.fail]
 | some p=>
   dsimp only
   split
   ·rfl
   ·simp[Rs.fail]
theorem intD_eq (st:Rs):intD st=(zag (numberD st).1,(numberD st).2):=by
 unfold intD numberD
 cases h:numG 0 st.rest with
 | none=>simp[zag]
 | some p=>rfl
theorem number_rest (st:Rs):∃l,st.rest=l++(numberD st).2.rest:=by
 unfold numberD
 cases h:numG 0 st.rest with
 | none=>exact⟨st.rest,by simp[Rs.fail]⟩
 | some p=>exact⟨_,(numG_is h).1⟩
theorem Rs.fail_len (st:Rs):st.fail.rest.length=0:=rfl
theorem number_len (st:Rs):(numberD st).2.rest.length≤st.rest.length:=by
 obtain⟨l,h⟩:=number_rest st
 rw[h,List.length_append];omega
set_option maxHeartbeats 2000000 in
theorem wNum_any (w:World) (b:Nat) (st:Rs) (h:RdW w b st) (hl:st.rest.length≤1000000000000):
 Calls Tryz.prog 35 #[.pointer (some ⟨b,0,none⟩)] w fun e w'=>e= .returned (.int .i64 (numD st).1)∧RdW w' b (numD st).2∧Keeps (·=b) w w':=by
 have hN:=wnumber_any w b st h hl
 have hF:=fun w1 (h1:RdW w1 b (numberD st).2)=>wfail_any w1 b (numberD st).2 h1
 have hE:=numD_eq st
 have hm:=number_lt st
 obtain⟨m,hm1⟩:∃m,(numberD st).1=m:=⟨_,rfl⟩
 obtain⟨t,ht⟩:∃t,(numberD st).2=t:=⟨_,rfl⟩
 rw[hm1,ht] at hN hE
 rw[ht] at hF
 rw[hm1] at hm
 have HN:=Hd.mk hN
 have HF:=Hd.mk hF
 clear hN hF h hm1 ht hl
 by_cases hb:m≤9223372036854775807
 ·rw[if_pos hb] at hE
  have HE:=Hd.mk hE
  have t1:decide ((9223372036854775807:Int)< (m:Int))=false:=by simp;omega
  have t2:decide (9223372036854775807<m)=false:=by simp;omega
  have x1:IntKind.i64.wrap (m:Int)=(m:Int):=IntWalk.i64_in _ (by omega)
  clear hE hm
  go_enter Tryz.func35,Tryz.ntmps35
  go_wp2_with fail
  refine HN.out.mono ?_
  rintro e w1 ⟨rfl,h1,k1⟩
  have H1:=Hd.mk (And.intro h1 k1)
  clear h1 k1
  go_wp2
  go_ret
  rw[HE.out]
  exact⟨rfl,H1.out⟩
 ·rw[if_neg hb] at hE
  have HE:=Hd.mk hE
  have t1:decide ((9223372036854775807:Int)< (m:Int))=true:=by simp;omega
  have t2:decide (9223372036854775807<m)=true:=by simp;omega
  clear hE hm
  go_enter Tryz.func35,Tryz.ntmps35
  go_wp2_with fail
  refine HN.out.mono ?_
  rintro e w1 ⟨rfl,h1,k1⟩
  have H1:=Hd.mk (And.intro h1 k1)
  clear h1 k1
  go_wp2_with fail
  refine(HF.out w1 H1.out.1).mono ?_
  rintro e w2 ⟨rfl,h2,k2⟩
  have H2:=Hd.mk (And.intro h2 (H1.out.2.trans ⟨k2.os,k2.tape,k2.output,k2.size,k2.block⟩))
  clear h2 k2
  go_wp2
  go_ret
  rw[HE.out]
  exact⟨rfl,H2.out⟩
theorem zag_bits {m:Nat} (hm:m<18446744073709551616):
 IntKind.i64.wrap ((m:Int)/2)=((m/2:Nat):Int):=by
 rw[IntWalk.i64_in _ (by omega)];omega
theorem wLeft_any (w:World) (b:Nat) (st:Rs) (h:RdW w b st):
 Calls Tryz.prog 133 #[.pointer (some ⟨b,0,none⟩)] w fun e w'=>e= .returned (.int .i64 (st.rest.length:Int))∧w=w':=by
 have h0:=h.blk.at (j:=0) rfl
 obtain⟨s,hs⟩:∃s:ByteArray,(⟨st.rest.toArray⟩:ByteArray)=s:=⟨_,rfl⟩
 have hsz:st.rest.length=s.size:=by rw[←hs];rfl
 rw[hs] at h0
 rw[hsz]
 clear h hsz hs
 go_enter Tryz.func133,Tryz.ntmps133
 go_wp2
 go_ret
 exact⟨rfl,rfl⟩
def Rs.done (st:Rs):Bool:= !st.bad&&decide (st.rest=[])
theorem wDone_any (w:World) (b:Nat) (st:Rs) (h:RdW w b st):
 Calls Tryz.prog 59 #[.pointer (some ⟨b,0,none⟩)] w fun e w'=>e= .returned (.bool st.done)∧w=w':=by
 have h0:=h.blk.at (j:=0) rfl
 have h1:=h.blk.at (j:=1) rfl
 have HD:Hd (st.done=(!st.bad&&decide (st.rest=[]))):=⟨rfl⟩
 obtain⟨q,hq⟩:∃q,st.bad=q:=⟨_,rfl⟩
 rw[hq] at HD h1
 cases hr:st.rest with
 | nil=>
   rw[hr] at HD h0
   clear h hq hr
   rcases q with _ | _<;>
   ·go_enter Tryz.func59,Tryz.ntmps59
    go_wp2
    go_ret
    exact⟨ret_b (by rw[HD.out];rfl),rfl⟩
 | cons c l=>
   rw[hr] at HD h0
   have hne:(⟨(c::l).toArray⟩:ByteArray).toList.isEmpty=false:=nonempty_ba (show(c::l).toArray.size≠0 by simp)
   obtain⟨s,hs⟩:∃s:ByteArray,(⟨(c::l).toArray⟩:ByteArray)=s:=⟨_,rfl⟩
   rw[hs] at h0 hne
   have HD2:Hd (st.done=false):=⟨by rw[HD.out];simp⟩
   clear h hq hr hs
   rcases q with _ | _<;>
   ·go_enter Tryz.func59,Tryz.ntmps59
    go_wp2
    go_ret
    exact⟨ret_b (by rw[HD2.out]),rfl⟩
theorem wOpen_any (w:World) (s:ByteArray):
 Calls Tryz.prog 31 #[.string s] w fun e w'=>e= .returned (.pointer (some ⟨w.heap.size,0,none⟩))∧RdW w' w.heap.size ⟨strT s,false,false⟩∧w'=w.alloc (.cells #[.string s, .bool false] 159):=by
 have HX:Hd (RdW (w.alloc (.cells #[.string s, .bool false] 159)) w.heap.size ⟨strT s,false,false⟩):=⟨by
  have:=Blk.new w 159 [.string s, .bool false]
  exact⟨this⟩⟩
 go_enter Tryz.func31,Tryz.ntmps31
 go_wp2
 go_ret
 exact⟨rfl,HX.out,rfl⟩
end Go.Proofs.YtfaepbjnpakghaaGreatDoor.W
