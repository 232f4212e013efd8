import Derived.Test.YtfaepbjnpakghaaGreatDoorKForm2
import Derived.Test.YtfaepbjnpakghaaGreatDoorKad
/- The walk of object.Form. -/
namespace Go.Proofs.YtfaepbjnpakghaaGreatDoor.W
open Go.RowKit Go.Sort
set_option linter.unusedVariables false
theorem neI_nil (w:World):(binOp .neq 63 (.slice none 0 0) (.slice none 0 0)).run Tryz.prog w= .ok (.bool false) w:=by kernel_rfl
theorem neI_some (a:Addr) (n c:Nat) (w:World):(binOp .neq 63 (.slice (some a) n c) (.slice none 0 0)).run Tryz.prog w= .ok (.bool true) w:=by kernel_rfl
set_option maxHeartbeats 4000000 in
set_option maxRecDepth 100000 in
theorem form_any (w:World) (hT:Tabs w) (o:Ob) (x1 x2 x3 x4 x5 x6 x7 x8 x9 x10:Value) (i:Int) (hA:o.At w x1 x2 x3 x4 x5 x6 x7 x8 x9 x10) (hl:lenR o.secs.length) (hlr:lenR o.rels.length) (hok:∀s∈o.secs,s.Ok) (hb:∀s,secAt o i=some s→s.bytes.size≤800000):
 Calls Tryz.prog 21 #[.agg (o.cells x1 x2 x3 x4 x5 x6 x7 x8 x9 x10).toArray, .int .i64 i] w fun e w'=>e= .returned (.string ⟨(formL o i).toArray⟩)∧Below w.heap.size w w':=by
 have HHas:=Hd.mk (fun(w':World) (h:Below w.heap.size w w')=>ohas_any w' o x1 x2 x3 x4 x5 x6 x7 x8 x9 x10 i (hA.below h) hl)
 have hcs:(o.cells x1 x2 x3 x4 x5 x6 x7 x8 x9 x10).toArray= #[.string o.name,x1,x2,x3,x4,x5,x6,x7,x8,x9,x10]:=rfl
 rw[hcs] at HHas⊢
 have hw0:=Hd.mk (Below.refl w.heap.size w)
 rcases hB:hasB o i with _ | _
 ·rw[hB] at HHas
  have hf:Hd (formL o i=[]):=⟨by
   unfold hasB at hB;unfold formL
   split at hB
   ·rename_i s hs;rw[hB];rfl
   ·rfl⟩
  rw[hf.out]
  clear hA hcs hB hb hT hok hl hlr
  go_enter Tryz.func21,Tryz.ntmps21
  go_wp2_with fail
  refine(HHas.out _ (by go_grown)).mono ?_
  rintro e w1 ⟨rfl,hb1⟩
  have HB1:Hd (Below w.heap.size w w1):=⟨Below.trans (by go_grown) (hb1.mono (by simp))⟩
  clear hb1
  go_wp2
  go_ret
  exact⟨rfl,HB1.out⟩
 ·rw[hB] at HHas
  obtain⟨s,hs⟩:∃s,secAt o i=some s:=by
   unfold hasB at hB;split at hB
   ·rename_i s hs;exact⟨s,hs⟩
   ·cases hB
  have hsok:secOk s=true:=by unfold hasB at hB;rw[hs] at hB;exact hB
  have hsz:=hb s hs
  have hf:formL o i=sumL (shapeL s.kind.toNat s.align.toNat s.size.toNat (plainL i o.rels s.bytes.data.toList)):=by unfold formL;rw[hs];simp only;rw[if_pos hsok]
  have hi0:0≤i:=by
   rcases Int.lt_or_le i 0 with h | h
   ·rw[secAt_out (.inl h)] at hs;cases hs
   ·exact h
  obtain⟨k,rfl⟩:=Int.eq_ofNat_of_zero_le hi0
  have hk:k<o.secs.length:=by
   rcases Nat.lt_or_ge k o.secs.length with h | h
   ·exact h
   ·rw[secAt_out (.inr (by omega))] at hs;cases hs
  rw[secAt_in hk] at hs
  have hsk:o.secs[k]=s:=Option.some.inj hs
  have hso:s.Ok:=hok s (hsk▸List.getElem_mem hk)
  have hpos:=of_decide_eq_true hsok
  obtain⟨kn,hkn⟩:=Int.eq_ofNat_of_zero_le hpos.1
  obtain⟨an,han⟩:=Int.eq_ofNat_of_zero_le hpos.2.1
  obtain⟨zn,hzn⟩:=Int.eq_ofNat_of_zero_le hpos.2.2
  have bk:=hso.kind;have ba:=hso.align;have bz:=hso.size
  unfold I64 at bk ba bz
  rw[hkn,han,hzn] at hf
  simp only[Int.toNat_natCast] at hf
  rw[hkn] at bk;rw[han] at ba;rw[hzn] at bz
  have HF:=Hd.mk hf
  obtain⟨fs,hfs⟩:∃fs:ByteArray,(⟨(formL o (k:Int)).toArray⟩:ByteArray)=fs:=⟨_,rfl⟩
  have HFs:=Hd.mk hfs
  rw[hfs]
  clear hfs
  obtain⟨p1,c1,rfl⟩:=hA.secs.slice
  obtain⟨p3,c3,rfl⟩:=hA.rels.slice
  have HA:=Hd.mk hA
  obtain⟨N,hN⟩:∃N,o.secs.length=N:=⟨_,rfl⟩
  obtain⟨R,hR⟩:∃R,o.rels.length=R:=⟨_,rfl⟩
  rw[hN] at HHas HA hk;rw[hR] at HHas HA
  rw[hN,hR]
  obtain⟨wb,hwb⟩:∃wb,w.alloc (.cells #[.string o.name, .slice p1 N c1,x2, .slice p3 R c3,x4,x5,x6,x7,x8,x9,x10] 33)=wb:=⟨_,rfl⟩
  have HBx:Hd (Blk wb w.heap.size 33 [.string o.name, .slice p1 N c1,x2, .slice p3 R c3,x4,x5,x6,x7,x8,x9,x10]):=⟨hwb▸Blk.new w 33 _⟩
  have HWb:Hd (Below w.heap.size w wb):=⟨by rw[←hwb];go_grown⟩
  obtain⟨hx,hhx⟩:∃hx,w.heap.size=hx:=⟨_,rfl⟩
  rw[hhx] at HBx
  have b0:=HBx.out.at (j:=0) rfl
  have b1:=HBx.out.at (j:=1) rfl
  have b2:=HBx.out.at (j:=2) rfl
  have b3:=HBx.out.at (j:=3) rfl
  have b4:=HBx.out.at (j:=4) rfl
  have b5:=HBx.out.at (j:=5) rfl
  have b6:=HBx.out.at (j:=6) rfl
  have b7:=HBx.out.at (j:=7) rfl
  have b8:=HBx.out.at (j:=8) rfl
  have b9:=HBx.out.at (j:=9) rfl
  have b10:=HBx.out.at (j:=10) rfl
  have HS:=Hd.mk (And.intro hso (And.intro hsk (And.intro hsz (And.intro hkn (And.intro han hzn)))))
  have HBd:=Hd.mk (And.intro bk (And.intro ba bz))
  have HNR:=Hd.mk (And.intro hN hR)
  have HT:=Hd.mk hT
  have HL:=Hd.mk (And.intro hl hlr)
  clear hA hcs hB hb hT hok hl hlr hs hsok hsz hf hi0 hso hpos hkn han hzn bk ba bz hsk hN hR hw0
  go_enter Tryz.func21,Tryz.ntmps21
  go_wp2_with fail
  refine(HHas.out _ HWb.out).mono ?_
  rintro e w1 ⟨rfl,hb1⟩
  have HW1:Hd (Below w.heap.size w w1):=⟨below_next HWb.out hb1⟩
  have HBx1:Hd (Blk w1 hx 33 [.string o.name, .slice p1 N c1,x2, .slice p3 R c3,x4,x5,x6,x7,x8,x9,x10]):=⟨HBx.out.below hb1 HBx.out.lt⟩
  have b1':=HBx1.out.at (j:=1) rfl
  have b3':=HBx1.out.at (j:=3) rfl
  obtain⟨g,of,cs,hpp,hg,hcl,hE,hc⟩:=(HA.out.below HW1.out).secs.at rfl (j:=k) (by rw[HNR.out.1];exact hk)
  rw[HS.out.2.1] at hE
  obtain rfl:cs=s.cells:=hE
  obtain rfl:=hpp
  have s0:=hc 0 _ rfl;rw[Nat.add_zero] at s0
  have s1:=hc 1 _ rfl
  have s2:=hc 2 _ rfl
  have s3:=hc 3 _ rfl
  have s4:=hc 4 _ rfl
  have s5:=hc 5 _ rfl
  clear b0 b1 b2 b3 b4 b5 b6 b7 b8 b9 b10 hb1 hc hcl hg hwb
  go_upto_region 4 with(fail)
  obtain⟨w2,hw2⟩:∃w2,w1.alloc (.cells #[.string s.name, .int .i64 s.kind, .int .i64 s.align, .int .i64 s.size, .string s.bytes, .bool s.keep] 47)=w2:=⟨_,rfl⟩
  have HSb:Hd (Blk w2 w1.heap.size 47 s.cells):=⟨hw2▸Blk.new w1 47 _⟩
  have HW2:Hd (Below w.heap.size w w2):=⟨below_next HW1.out (by rw[←hw2];go_grown)⟩
  obtain⟨sb,hsb⟩:∃sb,w1.heap.size=sb:=⟨_,rfl⟩
  have HBx2:Hd (Blk w2 hx 33 [.string o.name, .slice (some ⟨g,of,none⟩) N c1,x2, .slice p3 R c3,x4,x5,x6,x7,x8,x9,x10]):=⟨HBx1.out.below (by rw[←hw2];go_grown) HBx1.out.lt⟩
  rw[hsb] at HSb
  rw[hsb]
  have t4:=HSb.out.at (j:=4) rfl
  have hcv:=run_bytes_of_string (P:=Tryz.prog) w2 9 142 5 s.bytes Tryz.underlying9 Tryz.underlying142 Tryz.underlying5
  have HO0:=Hd.mk (Own.of_string w2 s.bytes (grownCap w2 s.bytes.size 0 5) (grownCap_ge w2 s.bytes.size 0 5) (grownCap_le_maxLen w2 s.bytes.size 0 5 (by have:=HS.out.2.2.1;unfold maxLen;omega)))
  have HK0:Hd (Keeps (fun _=>False) w2 (w2.drew.alloc (.cells (bytesRow s.bytes (grownCap w2 s.bytes.size 0 5)) 5 ((bytesRow s.bytes (grownCap w2 s.bytes.size 0 5)).size,(bytesRow s.bytes (grownCap w2 s.bytes.size 0 5)).size+1)))):=⟨((Keeps.refl (fun _=>False) w2).drew).alloc _⟩
  obtain⟨W3,hW⟩:∃W3,w2.drew.alloc (.cells (bytesRow s.bytes (grownCap w2 s.bytes.size 0 5)) 5 ((bytesRow s.bytes (grownCap w2 s.bytes.size 0 5)).size,(bytesRow s.bytes (grownCap w2 s.bytes.size 0 5)).size+1))=W3:=⟨_,rfl⟩
  rw[hW] at HO0 HK0 hcv
  clear hW
  have HSb3:Hd (Blk W3 sb 47 s.cells):=⟨HK0.out.blk HSb.out (fun h=>h)⟩
  have HW3:Hd (Below w.heap.size w W3):=⟨below_next HW2.out (keeps_below HK0.out)⟩
  have b3'':=(HK0.out.blk HBx2.out (fun h=>h)).at (j:=3) rfl
  obtain⟨bb,cap,hob⟩:∃bb cap,(Value.slice (some ⟨w2.heap.size,0,none⟩) s.bytes.size (grownCap w2 s.bytes.size 0 5))= .slice (some ⟨bb,0,none⟩) s.bytes.size cap:=⟨_,_,rfl⟩
  rw[hob] at HO0 hcv
  have hbb:Hd (w2.heap.size=bb):=⟨by injection hob with h _ _;injection h with h;injection h with h _ _⟩
  have hsbb:Hd (sb≠bb):=⟨fun e=>by have:=HSb.out.lt;have:=hbb.out;omega⟩
  obtain⟨L,hL⟩:∃L,s.bytes.size=L:=⟨_,rfl⟩
  have hLb:L≤800000:=by rw[←hL];exact HS.out.2.2.1
  rw[hL] at HO0 hcv
  clear hob
  have HR:=Hd.mk (HA.out.below HW3.out).rels
  clear HBx HBx1 HBx2 HSb b1' b3' s1 s2 s3 s4 s5 HK0
  go_wp2_with (rw[hcv])
  go_loopw [26] (fun iv wr=>∃j:Nat,j≤R∧iv= .int .i64 j∧Hd (Own wr bb 5 (.slice (some ⟨bb,0,none⟩) L cap) (Lib.byteCells (plainL (k:Int) (o.rels.take j) s.bytes.data.toList)))∧Hd (Keeps (·=bb) W3 wr)) (fun iv _=>R-(intOf iv).toNat)
  case atStart=>exact⟨0,Nat.zero_le _,rfl,⟨by rw[hbb.out] at HO0;exact HO0.out⟩,⟨Keeps.refl _ _⟩⟩
  case round=>
   obtain⟨j,hj,rfl,HO,HK⟩:=hrel
   clear t4 HO0
   have HWr:Hd (Below w.heap.size w wr):=⟨HW3.out.trans (HK.out.below HW3.out.size (fun k hk e=>by have:=hbb.out;have:=HW2.out.size;omega))⟩
   have hbw:Hd (w.heap.size≤bb):=⟨by have:=hbb.out;have:=HW2.out.size;omega⟩
   have hRb:R≤140737488351232:=by have:=HL.out.2;have h2:=HNR.out.2;unfold lenR at this;omega
   by_cases hlt:j<R
   ·obtain⟨g3,o3,cs,hp3,hg3,_,hE,hc⟩:=(HA.out.below HWr.out).rels.at rfl (j:=j) (by rw[HNR.out.2];exact hlt)
    obtain⟨r,hr⟩:∃r,o.rels[j]'(by rw[HNR.out.2];exact hlt)=r:=⟨_,rfl⟩
    have HSt:=Hd.mk (plainL_take (k:Int) o.rels s.bytes.data.toList j (by rw[HNR.out.2];exact hlt))
    rw[hr] at hE HSt
    obtain rfl:cs=r.cells:=hE
    obtain rfl:=hp3
    have r0:=hc 0 _ rfl
    have r1:=hc 1 _ rfl
    have r2:=hc 2 _ rfl
    have r3:=hc 3 _ rfl
    have r4:=hc 4 _ rfl
    rw[Nat.add_zero] at r0
    obtain⟨wr2,hwr2⟩:∃wr2,wr.alloc (.cells #[.int .i64 r.sec, .int .i64 r.at_, .int .i64 r.kind, .int .i64 r.sym, .int .i64 r.add] 50)=wr2:=⟨_,rfl⟩
    have HRb:Hd (Blk wr2 wr.heap.size 50 r.cells):=⟨hwr2▸Blk.new wr 50 _⟩
    have HK2:Hd (Keeps (·=bb) W3 wr2):=⟨hwr2▸HK.out.alloc _⟩
    have HO2:Hd (Own wr2 bb 5 (.slice (some ⟨bb,0,none⟩) L cap) (Lib.byteCells (plainL (k:Int) (o.rels.take j) s.bytes.data.toList))):=⟨hwr2▸HO.out.alloc _⟩
    obtain⟨rb,hrb⟩:∃rb,wr.heap.size=rb:=⟨_,rfl⟩
    rw[hrb] at HRb
    have q0:=HRb.out.at (j:=0) rfl
    have q1:=HRb.out.at (j:=1) rfl
    have q2:=HRb.out.at (j:=2) rfl
    obtain⟨P,hP⟩:∃P,plainL (k:Int) (o.rels.take j) s.bytes.data.toList=P:=⟨_,rfl⟩
    rw[hP] at HSt HO2
    have hPl:P.length=L:=by rw[←hP,plainL_len,←hL];simp
    have hcap:L≤cap:=by
     rcases HO2.out.is with⟨h,_⟩ | ⟨_,_,h,_,hn,_⟩
     ·cases h
     ·injection h with _ _ h3;rw[h3,←hPl,←bc_len P];exact hn
    have hwd:=widthI_le r.kind
    obtain⟨wd,hwd'⟩:∃wd,widthI r.kind=wd:=⟨_,rfl⟩
    rw[hwd'] at hwd
    have hsub:IntKind.i64.wrap ((L:Int) -(wd:Int))=(L:Int) -(wd:Int):=IntWalk.i64_in _ (by omega)
    have HWd:=Hd.mk (fun w=>owidth_any r.kind w)
    rw[hwd'] at HWd
    have HIn:=Hd.mk (fun w=>owithin_any r.kind 13 w)
    have hms:R-(intOf (.int .i64 ((j:Int)+1))).toNat<R-(intOf (.int .i64 (j:Int))).toNat:=by simp[intOf];omega
    have hw1:IntKind.i64.wrap ((j:Int)+1)=(j:Int)+1:=IntWalk.i64_in _ (by omega)
    clear hc HO HK HSb3 b3'' hcv hP hr HHas s0 hk
    rcases hH:relHit r (k:Int) P.length with _ | _
    ·have HSt2:Hd (plainL (k:Int) (o.rels.take (j+1)) s.bytes.data.toList=P):=⟨by rw[HSt.out];unfold plainStep;rw[hH];rfl⟩
     have hno:=of_decide_eq_false hH
     clear HSt hH
     by_cases d1:r.sec=(k:Int)
     ·rw[d1] at r0 q0 hwr2
      have hd1:=Hd.mk d1
      clear d1
      by_cases d2:0≤r.kind∧r.kind<13
      ·rw[decide_eq_true d2] at HIn
       by_cases d3:r.at_<0
       ·clear hno
        go_wp2_with fail
        refine(HWd.out _).mono ?_;rintro e w4 ⟨rfl,rfl⟩
        go_wp2_with fail
        refine(HIn.out _).mono ?_;rintro e w4 ⟨rfl,rfl⟩
        go_wp2
        go_roundw
        case rel=>exact⟨j+1,hlt,by go_num,⟨by rw[HSt2.out];exact HO2.out⟩,HK2⟩
        case measure=>exact hms
       ·have d4:(L:Int) -(wd:Int)<r.at_:=by
         rw[hPl,hwd'] at hno
         rcases Int.lt_or_le ((L:Int) -(wd:Int)) r.at_ with h | h
         ·exact h
         ·exact absurd ⟨hd1.out,d2,by omega,h⟩ hno
        clear hno
        go_wp2_with fail
        refine(HWd.out _).mono ?_;rintro e w4 ⟨rfl,rfl⟩
        go_wp2_with fail
        refine(HIn.out _).mono ?_;rintro e w4 ⟨rfl,rfl⟩
        go_wp2
        go_roundw
        case rel=>exact⟨j+1,hlt,by go_num,⟨by rw[HSt2.out];exact HO2.out⟩,HK2⟩
        case measure=>exact hms
      ·rw[decide_eq_false d2] at HIn
       clear hno
       go_wp2_with fail
       refine(HWd.out _).mono ?_;rintro e w4 ⟨rfl,rfl⟩
       go_wp2_with fail
       refine(HIn.out _).mono ?_;rintro e w4 ⟨rfl,rfl⟩
       go_wp2
       go_roundw
       case rel=>exact⟨j+1,hlt,by go_num,⟨by rw[HSt2.out];exact HO2.out⟩,HK2⟩
       case measure=>exact hms
     ·have d1':(r.sec==(k:Int))=false:=by simpa using d1
      clear hno
      go_wp2_with fail
      refine(HWd.out _).mono ?_;rintro e w4 ⟨rfl,rfl⟩
      go_wp2
      go_roundw
      case rel=>exact⟨j+1,hlt,by go_num,⟨by rw[HSt2.out];exact HO2.out⟩,HK2⟩
      case measure=>exact hms
    ·have hle:=relHit_le hH
     have hyes:=of_decide_eq_true hH
     have HSt2:Hd (plainL (k:Int) (o.rels.take (j+1)) s.bytes.data.toList=zeroAt P (relFrom r) (relTo r)):=⟨by rw[HSt.out];unfold plainStep;rw[hH];rfl⟩
     obtain⟨a,ha⟩:∃a,r.at_.toNat=a:=⟨_,rfl⟩
     have hra:r.at_=(a:Int):=by rw[hle.2.2.2,ha]
     have hto:relTo r=a+wd:=by unfold relTo;rw[ha,hwd']
     rw[hyes.1] at r0 q0 hwr2
     rw[decide_eq_true hyes.2.1] at HIn
     have d4:¬(L:Int) -(wd:Int)< (a:Int):=by have:=hyes.2.2.2;rw[hPl,hwd',hra] at this;omega
     have hto2:a+wd≤L:=by have:=hle.2.1;rw[hto,hPl] at this;exact this
     obtain⟨z,hz⟩:∃z,a+wd=z:=⟨_,rfl⟩
     have e1:IntKind.i64.wrap ((a:Int)+(wd:Int))=(z:Int):=(IntWalk.i64_in _ (by omega)).trans (by omega)
     have e2:(a:Int)+(wd:Int)=(z:Int):=by omega
     have e3:IntKind.i64.wrap (z:Int)=(z:Int):=IntWalk.i64_in _ (by omega)
     rw[hz] at hto hto2
     rw[hra] at q1
     have HOps:=Hd.mk (fun w=>oops_any r.kind w)
     rcases hc:codeB r.kind with _ | _
     ·have hfrom:relFrom r=a:=by unfold relFrom;rw[ha,hc];rfl
      rw[hfrom,hto] at HSt2
      clear hle hyes hH HSt hra ha
      go_wp2_with fail
      refine(HWd.out _).mono ?_;rintro e w4 ⟨rfl,rfl⟩
      go_wp2_with fail
      refine(HIn.out _).mono ?_;rintro e w4 ⟨rfl,rfl⟩
      go_wp2_with fail
      refine(HOps.out _).mono ?_;rintro e w4 ⟨⟨v,rfl,hv⟩,hb4⟩
      obtain rfl:v= .slice none 0 0:=by
       rcases hv with⟨_,h⟩ | ⟨h,_⟩
       ·exact h
       ·rw[hc] at h;cases h
      have HB4:=Hd.mk hb4
      have hne:=neI_nil w4
      obtain⟨w5,hcr,hO5,hK5⟩:=run_clear_bytes (w:=w4) (c:=cap-a) 0 (HO2.out.keeps (below_keeps hb4) (fun _ _ h=>h)) a z (by omega) (by omega)
      have HO5:=Hd.mk hO5
      have HK5:Hd (Keeps (·=bb) W3 w5):=⟨HK2.out.trans (((below_keeps hb4).mono (fun _ _ h=>h.elim)).trans hK5)⟩
      clear hv hb4 hO5 hK5 HO2 HK2 HOps HIn HWd
      go_wp2_with (rw[hcr])
      go_roundw
      case rel=>exact⟨j+1,hlt,by go_num,⟨by rw[HSt2.out];exact HO5.out⟩,HK5⟩
      case measure=>exact hms
     ·have hfrom:relFrom r=a+4:=by unfold relFrom;rw[ha,hc];rfl
      rw[hfrom,hto] at HSt2
      have hw8:wd=8:=by rw[←hwd'];exact width_code hc
      clear hle hyes hH HSt hra ha
      go_wp2_with fail
      refine(HWd.out _).mono ?_;rintro e w4 ⟨rfl,rfl⟩
      go_wp2_with fail
      refine(HIn.out _).mono ?_;rintro e w4 ⟨rfl,rfl⟩
      go_wp2_with fail
      refine(HOps.out _).mono ?_;rintro e w4 ⟨⟨v,rfl,hv⟩,hb4⟩
      obtain⟨va,vn,vc,rfl⟩:∃va vn vc,v= .slice (some va) vn vc:=by
       rcases hv with⟨h,_⟩ | ⟨_,h⟩
       ·rw[hc] at h;cases h
       ·exact h
      have HB4:=Hd.mk hb4
      have hne:=neI_some va vn vc w4
      obtain⟨w5,hcr,hO5,hK5⟩:=run_clear_bytes (w:=w4) (c:=cap-a-4) 0 (HO2.out.keeps (below_keeps hb4) (fun _ _ h=>h)) (a+4) z (by omega) (by omega)
      rw[show z-(a+4)=4 by omega] at hcr
      have HO5:=Hd.mk hO5
      have HK5:Hd (Keeps (·=bb) W3 w5):=⟨HK2.out.trans (((below_keeps hb4).mono (fun _ _ h=>h.elim)).trans hK5)⟩
      have h4:4≤z-a:=by omega
      clear hv hb4 hO5 hK5 HO2 HK2 HOps HIn HWd hw8
      go_wp2_with (rw[hcr])
      go_roundw
      case rel=>exact⟨j+1,hlt,by go_num,⟨by rw[HSt2.out];exact HO5.out⟩,HK5⟩
      case measure=>exact hms
   ·
    have hjR:j=R:=by omega
    subst hjR
    have hd:decide ((j:Int)< (j:Int))=false:=by simp
    have HP:Hd (Own wr bb 5 (.slice (some ⟨bb,0,none⟩) L cap) (Lib.byteCells (plainL (k:Int) o.rels s.bytes.data.toList))):=⟨by have:=HO.out;rwa [←HNR.out.2,List.take_length] at this⟩
    have HSr:Hd (Blk wr sb 47 s.cells):=⟨HK.out.blk HSb3.out hsbb.out⟩
    obtain⟨pb,hpb⟩:∃pb:ByteArray,(⟨(plainL (k:Int) o.rels s.bytes.data.toList).toArray⟩:ByteArray)=pb:=⟨_,rfl⟩
    obtain⟨n1,hn1⟩:∃n1:ByteArray,(⟨(numL kn).toArray⟩:ByteArray)=n1:=⟨_,rfl⟩
    obtain⟨n2,hn2⟩:∃n2:ByteArray,(⟨(numL an).toArray⟩:ByteArray)=n2:=⟨_,rfl⟩
    obtain⟨n3,hn3⟩:∃n3:ByteArray,(⟨(numL zn).toArray⟩:ByteArray)=n3:=⟨_,rfl⟩
    obtain⟨tx,htx⟩:∃tx:ByteArray,(⟨(textL pb.data.toList).toArray⟩:ByteArray)=tx:=⟨_,rfl⟩
    have z1:n1.size≤10:=by rw[←hn1];exact numL_len kn
    have z2:n2.size≤10:=by rw[←hn2];exact numL_len an
    have z3:n3.size≤10:=by rw[←hn3];exact numL_len zn
    have zp:pb.size=L:=by rw[←hpb,←hL];show(plainL _ _ _).length=_;rw[plainL_len];simp
    have zt:tx.size≤L+10:=by
     rw[←htx,←zp]
     exact textL_len pb.data.toList
    have hsum:(⟨(sumL (n1++n2++n3++tx).data.toList).toArray⟩:ByteArray)=fs:=by
     rw[←HFs.out,HF.out]
     congr 3
     rw[←hn1,←hn2,←hn3,←htx,←hpb]
     simp[ByteArray.data_append,shapeL]
    have zs:(n1++n2++n3++tx).size≤1000000:=by simp only[ByteArray.size_append];omega
    have y1:¬9223372036854775807<n1.size+n2.size:=by omega
    have y2:¬9223372036854775807< (n1++n2).size+n3.size:=by simp only[ByteArray.size_append];omega
    have y3:¬9223372036854775807< (n1++n2++n3).size+tx.size:=by simp only[ByteArray.size_append];omega
    have y4:¬9223372036854775807<n1.size+n2.size+n3.size:=by omega
    have y5:¬9223372036854775807<n1.size+n2.size+n3.size+tx.size:=by omega
    have bk:=HBd.out.1.2;have ba:=HBd.out.2.1.2;have bz:=HBd.out.2.2.2
    have Q1:=Hd.mk (fun(d:Nat) (os:Array Obj)=>Calls.regrown_of (wnum_any kn (by omega) (grow (redrawn wr d) os)))
    have Q2:=Hd.mk (fun(d:Nat) (os:Array Obj)=>Calls.regrown_of (wnum_any an (by omega) (grow (redrawn wr d) os)))
    have Q3:=Hd.mk (fun(d:Nat) (os:Array Obj)=>Calls.regrown_of (wnum_any zn (by omega) (grow (redrawn wr d) os)))
    have Q4:=Hd.mk (fun(d:Nat) (os:Array Obj)=>Calls.regrown_of (wtext_any pb (by omega) (grow (redrawn wr d) os)))
    have HTr:=Hd.mk (HT.out.below HWr.out)
    have Q5:=Hd.mk (fun(d:Nat) (os:Array Obj)=>Calls.regrown_of (sum_any (n1++n2++n3++tx) (grow (redrawn wr d) os) (HTr.out.below (below_regrown wr d os)) zs))
    rw[hn1] at Q1;rw[hn2] at Q2;rw[hn3] at Q3;rw[htx] at Q4;rw[hsum] at Q5
    have kc1:=fun(d:Nat) (os:Array Obj)=>cell_regrown (HSr.out.at (j:=1) rfl) d os
    have kc2:=fun(d:Nat) (os:Array Obj)=>cell_regrown (HSr.out.at (j:=2) rfl) d os
    have kc3:=fun(d:Nat) (os:Array Obj)=>cell_regrown (HSr.out.at (j:=3) rfl) d os
    rw[HS.out.2.2.2.1] at kc1;rw[HS.out.2.2.2.2.1] at kc2;rw[HS.out.2.2.2.2.2] at kc3
    have kcv:∀(d:Nat) (os:Array Obj),(convert 142 9 (.slice (some ⟨bb,0,none⟩) L cap)).run Tryz.prog (grow (redrawn wr d) os)= .ok (.string pb) (grow (redrawn wr d) os):=fun d os=>by
     have:=(HP.out.keeps (regrown_keeps wr d os) (fun _ _ h=>h)).back
     rw[hpb] at this
     exact this
    have HEnd:Hd (∀(d:Nat) (os:Array Obj),Below w.heap.size w (grow (redrawn wr d) os)):=⟨fun d os=>below_next HWr.out (below_regrown wr d os)⟩
    clear HO HK HSr HP hpb hn1 hn2 hn3 htx z1 z2 z3 zp zt hsum zs bk ba bz HHas s0 hcv b3'' HSb3 hLb hRb hlt
    go_wp2_with fail
    refine wp_region_quiet_below (by kernel_rfl) (by kernel_rfl) ?_
    repeat (quiet_step (first | exact Q1.out _ _ | exact Q2.out _ _ | exact Q3.out _ _ | exact Q4.out _ _ | exact Q5.out _ _))
    refine wpQuiet_nil ?_
    intro _ hw'
    obtain⟨⟨dq,osq⟩,hw''⟩:=hw'
    dsimp only at hw''
    have HE:=Hd.mk (HEnd.out dq osq)
    rw[←hw''] at HE
    clear hw''
    go_wp2
    go_ret
    exact⟨rfl,HE.out⟩
end Go.Proofs.YtfaepbjnpakghaaGreatDoor.W
