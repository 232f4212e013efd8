import Derived.Test.YtfaepbjnpakghaaGreatDoorKaj
/- The walks of object.list at several types (printed by tools/gen_once.py). -/
namespace Go.Proofs.YtfaepbjnpakghaaGreatDoor.W
open Go.RowKit
set_option linter.unusedVariables false
set_option maxHeartbeats 40000000
set_option maxRecDepth 100000
def LsC (F m:Nat) {α:Type} (E:World→List Value→α→Prop):Prop:=∀ {e:α→List UInt8} {xs:List α} (w:World) (v:Value) (g:Nat) (lb:Array Value),Rw m E w v xs→lenR xs.length→FnV aggA E (fun x=> .string ⟨(e x).toArray⟩) xs w g lb→(listL e xs).length≤1000000000000→
 Calls Tryz.prog F #[v, .func (.func g) #[] lb] w fun e' w'=>e'= .returned (.string ⟨(listL e xs).toArray⟩)∧Below w.heap.size w w'
def OneE {α:Type} (E:World→List Value→α→Prop):Prop:=∀w cs x,E w cs x→cs.all Value.oneCell'=true
theorem lss:(Stays Sec.E→OneE Sec.E→LsC 90 6 Sec.E)∧
 (Stays Sym.E→OneE Sym.E→LsC 94 10 Sym.E)∧
 (Stays Rel.E→OneE Rel.E→LsC 97 5 Rel.E)∧
 (Stays Grp.E→OneE Grp.E→LsC 99 2 Grp.E)∧
 (Stays Ini.E→OneE Ini.E→LsC 102 3 Ini.E)∧
 (Stays Lne.E→OneE Lne.E→LsC 104 4 Lne.E)∧
 (Stays Inl.E→OneE Inl.E→LsC 106 6 Inl.E)∧
 (Stays Vrr.E→OneE Vrr.E→LsC 108 6 Vrr.E)∧
 (Stays Dep.E→OneE Dep.E→LsC 110 4 Dep.E)∧
 (Stays Pce.E→OneE Pce.E→LsC 114 3 Pce.E)∧
 (Stays Cnv.E→OneE Cnv.E→LsC 112 4 Cnv.E):=by
 refine⟨?_,?_,?_,?_,?_,?_,?_,?_,?_,?_,?_⟩
 all_goals as_aux_lemma=>
  intro hE hOne e xs w v g lb hR hl hp hlen
  have HOne:=Hd.mk hOne
  clear hOne
  obtain⟨pv,cv,rfl⟩:=hR.slice
  have HR:=Hd.mk hR
  have HP:=Hd.mk hp
  have HLen:=Hd.mk hlen
  have HEs:=Hd.mk hE
  have eg:∀args w,(callFunc g args).run Tryz.prog w= .ok (.enter g args) w:=hp.ent
  unfold lenR at hl
  obtain⟨n,hn⟩:∃n,xs.length=n:=⟨_,rfl⟩
  have HN:=Hd.mk hn
  rw[hn] at HR hl⊢
  have HS:=Hd.mk (BuA.start w)
  have HS0:Hd (Below w.heap.size w (w.alloc (.cells #[.pointer none, .slice none 0 0] 152))):=⟨below_alloc w _⟩
  obtain⟨b,hb⟩:∃b,w.heap.size=b:=⟨_,rfl⟩
  rw[hb] at HS
  have Hb:=Hd.mk hb
  have HNum:=Hd.mk (wnum_any n (by omega))
  have hW0:∀w2,Below (w.alloc (.cells #[.pointer none, .slice none 0 0] 152)).heap.size (w.alloc (.cells #[.pointer none, .slice none 0 0] 152)) w2→Calls Tryz.prog 207 #[.pointer (some ⟨b,0,none⟩), .string ⟨(numL n).toArray⟩] w2 fun e' w'=>(∃x,e'= .returned (.tuple #[x, .nilIface]))∧BuA w' b (numL n++(xs.take 0).flatMap e)∧Below b w2 w':=fun w2 h2=>by
   have:=(HS.out.below h2).write ⟨(numL n).toArray⟩ (by
    have h1:(⟨(numL n).toArray⟩:ByteArray).size=(numL n).length:=rfl
    rw[h1];have:=numL_len n;simp;omega)
   rw[show(⟨(numL n).toArray⟩:ByteArray).data.toList=numL n from rfl,List.nil_append] at this
   simpa using this
  have HW0:=Hd.mk hW0
  clear hR hp hn hlen hW0 hE
  first | go_enter Tryz.func90,Tryz.ntmps90 | go_enter Tryz.func94,Tryz.ntmps94 | go_enter Tryz.func97,Tryz.ntmps97 | go_enter Tryz.func99,Tryz.ntmps99 | go_enter Tryz.func102,Tryz.ntmps102 | go_enter Tryz.func104,Tryz.ntmps104 | go_enter Tryz.func106,Tryz.ntmps106 | go_enter Tryz.func108,Tryz.ntmps108 | go_enter Tryz.func110,Tryz.ntmps110 | go_enter Tryz.func114,Tryz.ntmps114 | go_enter Tryz.func112,Tryz.ntmps112
  go_wp2_with fail
  refine(HNum.out _).mono ?_
  rintro e' w2 ⟨rfl,hb2⟩
  have HB2:=Hd.mk hb2
  clear hb2
  go_wp2_with fail
  refine(HW0.out w2 HB2.out).mono ?_
  rintro e' w3 ⟨⟨y,rfl⟩,hb3,hl3⟩
  have HB3:=Hd.mk hb3
  have HW3:Hd (Below w.heap.size w w3):=⟨(HS0.out.trans (HB2.out.mono (by simp))).trans (hl3.mono (by rw[Hb.out];exact Nat.le_refl _))⟩
  clear hb3 hl3
  go_wp2
  go_loopw [14] (fun i wr=>∃k:Nat,k≤n∧i= .int .i64 k∧Hd (BuA wr b (numL n++(xs.take k).flatMap e))∧Hd (Below w.heap.size w wr)) (fun i _=>n-(intOf i).toNat)
  case atStart=>exact⟨0,Nat.zero_le _,rfl,HB3,HW3⟩
  case round=>
   clear HS HB3 HW3 HB2 hb HW0
   obtain⟨k,hkn,rfl,HB,HW⟩:=hrel
   by_cases hlt:k<n
   ·have hd1:decide ((k:Int)< (n:Int))=true:=by simp;omega
    have j0:(0:Int)≤(k:Int):=by omega
    have j1:(k:Int)< (n:Int):=by omega
    have hkq:k<xs.length:=HN.out▸hlt
    obtain⟨g0,of,cs,hpv,hg,hcl,hEc,hcc⟩:=(HR.out.below HEs.out HW.out).at rfl (j:=k) hkq
    subst hpv
    have hcall:=HP.out.at_ xs[k] (List.getElem_mem hkq)
    have htk:=take_bytes (e:=e) hkq
    have hle:=take_bytes_le (e:=e) xs (k+1)
    obtain⟨x,hx⟩:∃x,xs[k]=x:=⟨_,rfl⟩
    rw[hx] at hEc hcall htk
    have HC:=Hd.mk (fun w' (h:Below wr.heap.size wr w')=>hcall w' (HW.out.trans (h.mono HW.out.size)) cs (HEs.out _ _ _ _ h hEc))
    have hon:=HOne.out _ _ _ hEc
    first | obtain⟨u0,u1,u2,u3,u4,u5,u6,u7,u8,u9,rfl,c0,c1,c2,c3,c4,c5,c6,c7,c8,c9⟩:=clx10 hcl hcc | obtain⟨u0,u1,u2,u3,u4,u5,rfl,c0,c1,c2,c3,c4,c5⟩:=clx6 hcl hcc | obtain⟨u0,u1,u2,u3,u4,rfl,c0,c1,c2,c3,c4⟩:=clx5 hcl hcc | obtain⟨u0,u1,u2,u3,rfl,c0,c1,c2,c3⟩:=clx4 hcl hcc | obtain⟨u0,u1,u2,rfl,c0,c1,c2⟩:=clx3 hcl hcc | obtain⟨u0,u1,rfl,c0,c1⟩:=clx2 hcl hcc
    simp only[List.all_cons,List.all_nil,Bool.and_true,Bool.and_eq_true] at hon
    first | (obtain⟨o0,o1,o2,o3,o4,o5,o6,o7,o8,o9⟩:=hon;have s0:=fun a m w=>run_store Tryz.prog w a u0 m o0;have s1:=fun a m w=>run_store Tryz.prog w a u1 m o1;have s2:=fun a m w=>run_store Tryz.prog w a u2 m o2;have s3:=fun a m w=>run_store Tryz.prog w a u3 m o3;have s4:=fun a m w=>run_store Tryz.prog w a u4 m o4;have s5:=fun a m w=>run_store Tryz.prog w a u5 m o5;have s6:=fun a m w=>run_store Tryz.prog w a u6 m o6;have s7:=fun a m w=>run_store Tryz.prog w a u7 m o7;have s8:=fun a m w=>run_store Tryz.prog w a u8 m o8;have s9:=fun a m w=>run_store Tryz.prog w a u9 m o9) | (obtain⟨o0,o1,o2,o3,o4,o5⟩:=hon;have s0:=fun a m w=>run_store Tryz.prog w a u0 m o0;have s1:=fun a m w=>run_store Tryz.prog w a u1 m o1;have s2:=fun a m w=>run_store Tryz.prog w a u2 m o2;have s3:=fun a m w=>run_store Tryz.prog w a u3 m o3;have s4:=fun a m w=>run_store Tryz.prog w a u4 m o4;have s5:=fun a m w=>run_store Tryz.prog w a u5 m o5) | (obtain⟨o0,o1,o2,o3,o4⟩:=hon;have s0:=fun a m w=>run_store Tryz.prog w a u0 m o0;have s1:=fun a m w=>run_store Tryz.prog w a u1 m o1;have s2:=fun a m w=>run_store Tryz.prog w a u2 m o2;have s3:=fun a m w=>run_store Tryz.prog w a u3 m o3;have s4:=fun a m w=>run_store Tryz.prog w a u4 m o4) | (obtain⟨o0,o1,o2,o3⟩:=hon;have s0:=fun a m w=>run_store Tryz.prog w a u0 m o0;have s1:=fun a m w=>run_store Tryz.prog w a u1 m o1;have s2:=fun a m w=>run_store Tryz.prog w a u2 m o2;have s3:=fun a m w=>run_store Tryz.prog w a u3 m o3) | (obtain⟨o0,o1,o2⟩:=hon;have s0:=fun a m w=>run_store Tryz.prog w a u0 m o0;have s1:=fun a m w=>run_store Tryz.prog w a u1 m o1;have s2:=fun a m w=>run_store Tryz.prog w a u2 m o2) | (obtain⟨o0,o1⟩:=hon;have s0:=fun a m w=>run_store Tryz.prog w a u0 m o0;have s1:=fun a m w=>run_store Tryz.prog w a u1 m o1)
    dsimp only[aggA] at HC
    have HWr:Hd (∀w2,Below wr.heap.size wr w2→Calls Tryz.prog 207 #[.pointer (some ⟨b,0,none⟩), .string ⟨(e x).toArray⟩] w2 fun e' w'=>(∃x,e'= .returned (.tuple #[x, .nilIface]))∧BuA w' b (numL n++(xs.take (k+1)).flatMap e)∧Below b w2 w'):=⟨fun w2 h2=>by
     have:=(HB.out.below h2).write ⟨(e x).toArray⟩ (by
      have h1:(⟨(e x).toArray⟩:ByteArray).size=(e x).length:=rfl
      have h2:=HLen.out
      unfold listL at h2
      rw[List.length_append] at h2
      rw[h1,←List.length_append,List.append_assoc,htk,List.length_append];rw[HN.out] at h2;omega)
     rw[show(⟨(e x).toArray⟩:ByteArray).data.toList=e x from rfl,List.append_assoc,htk] at this
     exact this⟩
    clear hcc hcl hg htk hle hx hcall hEc
    generalize (⟨(e x).toArray⟩:ByteArray)=sx at HC HWr
    go_wp2_with fail
    refine(HC.out _ (below_alloc wr _)).mono ?_
    rintro e' w2 ⟨rfl,hb2⟩
    have HB2:=Hd.mk (below_first hb2)
    clear hb2
    go_wp2_with fail
    refine(HWr.out w2 HB2.out).mono ?_
    rintro e' w3 ⟨⟨y,rfl⟩,hb3,hl3⟩
    have HB3:=Hd.mk hb3
    have HW3:Hd (Below w.heap.size w w3):=⟨(HW.out.trans (HB2.out.mono HW.out.size)).trans (hl3.mono (by rw[Hb.out];exact Nat.le_refl _))⟩
    clear hb3 hl3
    go_wp2
    exact⟨⟨k+1,hlt,by go_num,HB3,HW3⟩,by simp[intOf];omega⟩
   ·have hd1:decide ((k:Int)< (n:Int))=false:=by simp;omega
    have HStr:Hd (Calls Tryz.prog 129 #[.pointer (some ⟨b,0,none⟩)] wr fun e' w'=>e'= .returned (.string ⟨(listL e xs).toArray⟩)∧Below b wr w'):=⟨by
     have:=HB.out.string
     rw[List.take_of_length_le (by have:=HN.out;omega)] at this
     unfold listL
     rw[HN.out]
     exact this⟩
    obtain⟨s,hs⟩:∃s:ByteArray,(⟨(listL e xs).toArray⟩:ByteArray)=s:=⟨_,rfl⟩
    rw[hs] at HStr
    have HSS:=Hd.mk hs
    clear hs
    go_wp2_with fail
    refine HStr.out.mono ?_
    rintro e' w2 ⟨rfl,hb2⟩
    have HW2:Hd (Below w.heap.size w w2):=⟨HW.out.trans (hb2.mono (by rw[Hb.out];exact Nat.le_refl _))⟩
    clear hb2
    go_wp2
    go_ret
    exact⟨congrArg (fun z=>Ending.returned (.string z)) HSS.out.symm,HW2.out⟩
theorem lsSec_any:LsC 90 6 Sec.E:=lss.1 Sec.stays (fun w cs x h=>by cases h;rfl)
theorem lsSym_any:LsC 94 10 Sym.E:=lss.2.1 Sym.stays (fun w cs x h=>by cases h;rfl)
theorem lsRel_any:LsC 97 5 Rel.E:=lss.2.2.1 Rel.stays (fun w cs x h=>by cases h;rfl)
theorem lsGrp_any:LsC 99 2 Grp.E:=lss.2.2.2.1 Grp.stays (fun w cs x h=>by obtain⟨v,rfl,hA⟩:=h;obtain⟨p,c,e⟩:=hA.secs.slice;subst e;rfl)
theorem lsIni_any:LsC 102 3 Ini.E:=lss.2.2.2.2.1 Ini.stays (fun w cs x h=>by cases h;rfl)
theorem lsLne_any:LsC 104 4 Lne.E:=lss.2.2.2.2.2.1 Lne.stays (fun w cs x h=>by cases h;rfl)
theorem lsInl_any:LsC 106 6 Inl.E:=lss.2.2.2.2.2.2.1 Inl.stays (fun w cs x h=>by cases h;rfl)
theorem lsVrr_any:LsC 108 6 Vrr.E:=lss.2.2.2.2.2.2.2.1 Vrr.stays (fun w cs x h=>by cases h;rfl)
theorem lsDep_any:LsC 110 4 Dep.E:=lss.2.2.2.2.2.2.2.2.1 Dep.stays (fun w cs x h=>by cases h;rfl)
theorem lsPce_any:LsC 114 3 Pce.E:=lss.2.2.2.2.2.2.2.2.2.1 Pce.stays (fun w cs x h=>by cases h;rfl)
theorem lsCnv_any:LsC 112 4 Cnv.E:=lss.2.2.2.2.2.2.2.2.2.2 Cnv.stays (fun w cs x h=>by obtain⟨v,rfl,hA⟩:=h;obtain⟨p,c,e⟩:=hA.pieces.slice;subst e;rfl)
end Go.Proofs.YtfaepbjnpakghaaGreatDoor.W
