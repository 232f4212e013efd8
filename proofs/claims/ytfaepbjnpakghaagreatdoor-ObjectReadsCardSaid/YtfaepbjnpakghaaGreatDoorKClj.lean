import Derived.Deep.Cut
import Derived.Test.YtfaepbjnpakghaaGreatDoorKad
import Derived.Test.YtfaepbjnpakghaaGreatDoorKag
import Derived.Test.YtfaepbjnpakghaaGreatDoorKaf
import Derived.Test.YtfaepbjnpakghaaGreatDoorKac
import Derived.Test.YtfaepbjnpakghaaGreatDoorKae
/- The walk of the closure rels$1 (printed by tools/gen_cls.py). -/
namespace Go.Proofs.YtfaepbjnpakghaaGreatDoor.W
open Go.RowKit
set_option linter.unusedVariables false
theorem rowAt2 (w:World) (ob:Obj) (y z:Int):Rw 1 intE ((w.alloc ob).alloc (.cells #[.int .i64 y, .int .i64 z] 3)) (.slice (some ⟨w.heap.size+1,0,none⟩) 2 2) [y,z]:=by
 have:=Rw.ints (ks:=[y,z]) (cap:=2) (Blk.new (w.alloc ob) 3 [.int .i64 y, .int .i64 z])
 rwa [show(w.alloc ob).heap.size=w.heap.size+1 from by simp] at this
theorem eqI_nil (w:World):(binOp .eql 63 (.slice none 0 0) (.slice none 0 0)).run Tryz.prog w= .ok (.bool true) w:=by kernel_rfl
theorem eqI_some (a:Addr) (n c:Nat) (w:World):(binOp .eql 63 (.slice (some a) n c) (.slice none 0 0)).run Tryz.prog w= .ok (.bool false) w:=by kernel_rfl
theorem oops2_any (k:Int) (w:World):Calls Tryz.prog 123 #[.int .i64 k] w fun e w'=>(∃v,e= .returned v∧((codeB k=false∧v= .slice none 0 0)∨(codeB k=true∧∃a n c,v= .slice (some a) n c∧Rw 1 intE w' v (opsL k))))∧Below w.heap.size w w':=by
 have hr:k=5∨k=6∨k=7∨k=8∨k=9∨k=10∨(¬k=5∧¬k=6∧¬k=7∧¬k=8∧¬k=9∧¬k=10):=by omega
 rcases hr with rfl | rfl | rfl | rfl | rfl | rfl | ⟨h5,h6,h7,h8,h9,h10⟩
 case inr.inr.inr.inr.inr.inr=>
  have d5:(k==5)=false:=by simpa using h5
  have d6:(k==6)=false:=by simpa using h6
  have d7:(k==7)=false:=by simpa using h7
  have d8:(k==8)=false:=by simpa using h8
  have d9:(k==9)=false:=by simpa using h9
  have d10:(k==10)=false:=by simpa using h10
  have hc:Hd (codeB k=false):=⟨decide_eq_false (by omega)⟩
  go_enter Tryz.func123,Tryz.ntmps123
  go_wp2
  go_ret
  exact⟨⟨_,rfl, .inl ⟨hc.out,rfl⟩⟩,Below.refl _ _⟩
 ·go_enter Tryz.func123,Tryz.ntmps123
  go_wp2
  go_ret
  exact⟨⟨_,rfl, .inr ⟨by decide,_,_,_,rfl,Rw.ints (ks:=[14,19,20,21]) (Blk.new w 3 [.int .i64 14, .int .i64 19, .int .i64 20, .int .i64 21])⟩⟩,by go_grown⟩
 ·go_enter Tryz.func123,Tryz.ntmps123
  go_wp2
  go_ret
  exact⟨⟨_,rfl, .inr ⟨by decide,_,_,_,rfl,Rw.ints (ks:=[22]) (Blk.new w 3 [.int .i64 22])⟩⟩,by go_grown⟩
 ·go_enter Tryz.func123,Tryz.ntmps123
  go_wp2
  go_ret
  exact⟨⟨_,rfl, .inr ⟨by decide,_,_,_,rfl,Rw.ints (ks:=[24,25]) (Blk.new w 3 [.int .i64 24, .int .i64 25])⟩⟩,by go_grown⟩
 ·go_enter Tryz.func123,Tryz.ntmps123
  go_wp2
  go_ret
  exact⟨⟨_,rfl, .inr ⟨by decide,_,_,_,rfl,Rw.ints (ks:=[3]) (Blk.new w 3 [.int .i64 3])⟩⟩,by go_grown⟩
 ·go_enter Tryz.func123,Tryz.ntmps123
  go_wp2
  go_ret
  exact⟨⟨_,rfl, .inr ⟨by decide,_,_,_,rfl,Rw.ints (ks:=[4]) (Blk.new w 3 [.int .i64 4])⟩⟩,by go_grown⟩
 ·go_enter Tryz.func123,Tryz.ntmps123
  go_wp2
  go_ret
  exact⟨⟨_,rfl, .inr ⟨by decide,_,_,_,rfl,Rw.ints (ks:=[13,3]) (Blk.new w 3 [.int .i64 13, .int .i64 3])⟩⟩,by go_grown⟩
theorem orel1_out (w:World) (o:Ob) (x1 x2 x3 x4 x5 x6 x7 x8 x9 x10:Value) (b:Nat) (hb:ObC w b o x1 x2 x3 x4 x5 x6 x7 x8 x9 x10) (hA:o.At w x1 x2 x3 x4 x5 x6 x7 x8 x9 x10) (hk:o.Ok) (hT:FormsAt w) (hbs:∀s∈o.secs,s.bytes.size≤800000) (x:Rel) (hx:x.Ok) (hin:¬(0≤x.sec∧x.sec< (o.secs.length:Int))):
 Calls Tryz.prog 153 #[.agg #[.int .i64 x.sec, .int .i64 x.at_, .int .i64 x.kind, .int .i64 x.sym, .int .i64 x.add], .pointer (some ⟨b,0,none⟩)] w fun e w'=>e= .returned (.bool (relB o x))∧Below w.heap.size w w':=by
 have hI:=(fun(w1:World) (h:Below w.heap.size w w1) (kv:Value) (hr:Rw 1 intE w1 kv [0,1])=>ois_any w1 o x1 x2 x3 x4 x5 x6 x7 x8 x9 x10 x.sec kv [0,1] (hA.below h) hk.secs hr (by unfold lenR;decide))
 rw[is_out hin] at hI
 have HI:=Hd.mk hI
 have hW:=fun w=>owithinB x.kind 13 w
 obtain⟨q,hq⟩:∃q,inB x.kind 13=q:=⟨_,rfl⟩
 rw[hq] at hW
 have HW:=Hd.mk hW
 have HS:Hd (relB o x=false):=⟨by unfold relB relHead;rw[is_out hin];simp⟩
 clear hI hA hk hin hT hbs hW hq
 obtain⟨c0,c1,c2,c3,c4,c5,c6,c7,c8,c9,c10⟩:=hb.alloc (.cells #[.int .i64 x.sec, .int .i64 x.at_, .int .i64 x.kind, .int .i64 x.sym, .int .i64 x.add] 50)
 rcases q with _ | _
 ·go_enter Tryz.func153,Tryz.ntmps153
  go_wp2_with fail
  refine(HW.out _).mono ?_
  rintro e w' ⟨rfl,rfl⟩
  go_wp2
  go_ret
  exact⟨ret_b HS.out.symm,by go_grown⟩
 ·go_enter Tryz.func153,Tryz.ntmps153
  go_wp2_with fail
  refine(HW.out _).mono ?_
  rintro e w' ⟨rfl,rfl⟩
  go_wp2_with fail
  refine(HI.out _ (by go_grown) _ (rowAt2 w _ 0 1)).mono ?_
  rintro e v1 ⟨rfl,hK⟩
  have HK:=Hd.mk ((show Below w.heap.size w _ by go_grown).trans (hK.mono (by simp;omega)))
  clear hK
  go_wp2
  go_ret
  exact⟨ret_b HS.out.symm,HK.out⟩
theorem ops_len (k:Int):lenR (opsL k).length:=by
 unfold opsL lenR
 repeat (split;decide)
 decide
theorem rel_width (k:Int):widthI k=4∨widthI k=2∨widthI k=8:=by
 unfold widthI
 split
 ·exact .inl rfl
 ·split
  ·exact .inr (.inl rfl)
  ·exact .inr (.inr rfl)
theorem rel_spec (o:Ob) (x:Rel) (k:Nat) (S:Sec) (hsec:x.sec=(k:Int)) (hk1:k<o.secs.length) (hS:o.secs[k]=S) (hSk:S.Ok):relB o x=((inB x.kind 13&&isB o k [0,1]&&inB x.sym o.syms.length&& !decide (x.add< -2147483648)&& !decide ((2147483648:Int)≤x.add))&&(inB x.at_ S.size&& !decide (wrap64 (S.size-widthI x.kind)<x.at_)&& !(x.at_.tmod (widthI x.kind) !=0))&&(if codeB x.kind then(S.kind==0)&&decB S.bytes x.at_&&(opsL x.kind).contains (byteAt S.bytes x.at_.toNat) else(S.kind==1)&&decide ((widthI x.kind:Int)≤S.align))):=by
 have hsa:secAt o x.sec=some S:=by rw[hsec,secAt_in hk1,hS]
 have hw:=rel_width x.kind
 have e1:decide (-2147483648≤x.add)= !decide (x.add< -2147483648):=by rw[Bool.eq_iff_iff];simp
 have e2:decide (x.add<2147483648)= !decide ((2147483648:Int)≤x.add):=by rw[Bool.eq_iff_iff];simp
 have e3:decide (x.at_%(widthI x.kind:Int)=0)= !(x.at_.tmod (widthI x.kind) !=0):=by
  rw[Bool.eq_iff_iff,decide_eq_true_eq,Bool.not_eq_true',bne_eq_false_iff_eq]
  exact⟨fun h=>Int.tmod_eq_zero_of_dvd (Int.dvd_of_emod_eq_zero h),fun h=>Int.emod_eq_zero_of_dvd (Int.dvd_of_tmod_eq_zero h)⟩
 have e4:(inB x.at_ S.size&&decide (x.at_≤S.size-widthI x.kind))=(inB x.at_ S.size&& !decide (wrap64 (S.size-widthI x.kind)<x.at_)):=by
  by_cases h:0≤x.at_∧x.at_<S.size
  ·have hz:=hSk.size
   unfold I64 at hz
   have hwr:wrap64 (S.size-widthI x.kind)=S.size-widthI x.kind:=by unfold wrap64;omega
   rw[hwr]
   congr 1
   rw[Bool.eq_iff_iff];simp
  ·rw[show inB x.at_ S.size=false from decide_eq_false h];rfl
 unfold relB relHead relFit relIn
 rw[hsa]
 dsimp only
 rw[e1,e2,e3,e4,hsec]
 exact(Bool.and_assoc _ _ _).symm
set_option maxHeartbeats 8000000 in
set_option maxRecDepth 100000 in
theorem orel1_in (w:World) (o:Ob) (x1 x2 x3 x4 x5 x6 x7 x8 x9 x10:Value) (b:Nat) (hb:ObC w b o x1 x2 x3 x4 x5 x6 x7 x8 x9 x10) (hA:o.At w x1 x2 x3 x4 x5 x6 x7 x8 x9 x10) (hk:o.Ok) (hT:FormsAt w) (hbs:∀s∈o.secs,s.bytes.size≤800000) (x:Rel) (hx:x.Ok) (k:Nat) (hsec:x.sec=(k:Int)) (hk1:k<o.secs.length):
 Calls Tryz.prog 153 #[.agg #[.int .i64 (k:Int), .int .i64 x.at_, .int .i64 x.kind, .int .i64 x.sym, .int .i64 x.add], .pointer (some ⟨b,0,none⟩)] w fun e w'=>e= .returned (.bool (relB o x))∧Below w.heap.size w w':=by
 have hI:=(fun(w1:World) (h:Below w.heap.size w w1) (kv:Value) (hr:Rw 1 intE w1 kv [0,1])=>ois_any w1 o x1 x2 x3 x4 x5 x6 x7 x8 x9 x10 (k:Int) kv [0,1] (hA.below h) hk.secs hr (by unfold lenR;decide))
 obtain⟨S,hS1⟩:∃S,o.secs[k]=S:=⟨_,rfl⟩
 have hSm:S∈o.secs:=hS1▸List.getElem_mem hk1
 have hSk:=hk.secsI S hSm
 have hSb:=hbs S hSm
 have hD:=(fun(w1:World) (h:Below w.heap.size w w1)=>decode_any S.bytes x.at_ w1 hSb hx.at_ (hT.below h))
 have hspec:=rel_spec o x k S hsec hk1 hS1 hSk
 have hK13:=fun w=>owithinB x.kind 13 w
 have hY:=fun w=>owithinB x.sym o.syms.length w
 have hF1:=fun w=>owithinB x.at_ S.size w
 have hWd:=fun w=>owidth_any x.kind w
 have hO:=fun w=>oops2_any x.kind w
 obtain⟨cB,hcB⟩:∃q,codeB x.kind=q:=⟨_,rfl⟩
 rw[hcB] at hO hspec
 obtain⟨k13,h13⟩:∃q,inB x.kind 13=q:=⟨_,rfl⟩
 obtain⟨I,hII⟩:∃q,isB o k [0,1]=q:=⟨_,rfl⟩
 obtain⟨y1,hy1⟩:∃q,inB x.sym o.syms.length=q:=⟨_,rfl⟩
 obtain⟨f1q,hf1⟩:∃q,inB x.at_ S.size=q:=⟨_,rfl⟩
 rw[h13] at hK13 hspec
 rw[hII] at hI hspec
 rw[hy1] at hY hspec
 rw[hf1] at hF1 hspec
 obtain⟨a1,ha1⟩:∃q,decide (x.add< -2147483648)=q:=⟨_,rfl⟩
 obtain⟨a2,ha2⟩:∃q,decide ((2147483648:Int)≤x.add)=q:=⟨_,rfl⟩
 rw[ha1,ha2] at hspec
 obtain⟨sk1,hsk1⟩:∃q,(S.kind==1)=q:=⟨_,rfl⟩
 obtain⟨sk0,hsk0⟩:∃q,(S.kind==0)=q:=⟨_,rfl⟩
 rw[hsk1,hsk0] at hspec
 obtain⟨dB,hdB⟩:∃q,decB S.bytes x.at_=q:=⟨_,rfl⟩
 rw[hdB] at hD hspec
 have hdV:decV S.bytes x.at_=if dB then .agg #[.int .i64 (byteAt S.bytes x.at_.toNat), .int .i64 (byteAt S.bytes (x.at_.toNat+1)), .int .i64 (byteAt S.bytes (x.at_.toNat+2)), .int .i64 (byteAt S.bytes (x.at_.toNat+3)), .int .i64 (immAt S.bytes x.at_.toNat)] else .agg #[.int .i64 0, .int .i64 0, .int .i64 0, .int .i64 0, .int .i64 0]:=by
  unfold decV;rw[hdB]
 rw[hdV] at hD
 have hwd:(widthI x.kind:Int)=4∨(widthI x.kind:Int)=2∨(widthI x.kind:Int)=8:=by have:=rel_width x.kind;omega
 obtain⟨d,hd⟩:∃d:Int,(widthI x.kind:Int)=d:=⟨_,rfl⟩
 rw[hd] at hWd hspec hwd
 have HI:=Hd.mk hI
 have HD:=Hd.mk hD
 have HSp:=Hd.mk hspec
 have HK13:=Hd.mk hK13
 have HY:=Hd.mk hY
 have HF1:=Hd.mk hF1
 have HWd:=Hd.mk hWd
 have HO:=Hd.mk hO
 have Hwd:=Hd.mk hwd
 have HSk:=Hd.mk hSk
 clear hI hD hspec hK13 hY hF1 hWd hO hwd h13 hII hy1 hf1 hdB hdV hd hcB hSk hSb hSm hT hbs
 have hS0:=hA.secs
 obtain⟨p,c,rfl⟩:=hS0.slice
 obtain⟨g,of,cs,rfl,hg,hcl,hEc,hcc⟩:=hS0.at rfl (j:=k) hk1
 have hE':cs=S.cells:=by rw[←hS1];exact hEc
 subst hE'
 have hS2:=hA.syms
 obtain⟨p2,c2,rfl⟩:=hS2.slice
 have HCC:=Hd.mk hcc
 have HG:=Hd.mk hg
 have HB:=Hd.mk hb
 obtain⟨N,hN⟩:∃N,o.secs.length=N:=⟨_,rfl⟩
 have i1:(0:Int)≤(k:Int):=by omega
 have i2:(k:Int)< (N:Int):=by omega
 rw[hN] at HI HB
 have HF:Hd (∀w',Below (w.alloc (.cells #[.int .i64 (k:Int), .int .i64 x.at_, .int .i64 x.kind, .int .i64 x.sym, .int .i64 x.add] 50)).heap.size (w.alloc (.cells #[.int .i64 (k:Int), .int .i64 x.at_, .int .i64 x.kind, .int .i64 x.sym, .int .i64 x.add] 50)) w'→w'.cell? ⟨w.heap.size,0,none⟩=some (.int .i64 (k:Int))∧w'.cell? ⟨w.heap.size,1,none⟩=some (.int .i64 x.at_)∧w'.cell? ⟨w.heap.size,2,none⟩=some (.int .i64 x.kind)∧w'.cell? ⟨w.heap.size,3,none⟩=some (.int .i64 x.sym)∧w'.cell? ⟨w.heap.size,4,none⟩=some (.int .i64 x.add)∧w'.cell? ⟨b,0,none⟩=some (.string o.name)∧w'.cell? ⟨b,1,none⟩=some (.slice (some ⟨g,of,none⟩) N c)∧w'.cell? ⟨b,2,none⟩=some (.slice p2 o.syms.length c2)∧w'.cell? ⟨b,3,none⟩=some (x3)∧w'.cell? ⟨b,4,none⟩=some (x4)∧w'.cell? ⟨b,5,none⟩=some (x5)∧w'.cell? ⟨b,6,none⟩=some (x6)∧w'.cell? ⟨b,7,none⟩=some (x7)∧w'.cell? ⟨b,8,none⟩=some (x8)∧w'.cell? ⟨b,9,none⟩=some (x9)∧w'.cell? ⟨b,10,none⟩=some (x10)∧w'.cell? ⟨g,of+k*6,none⟩=some (.string S.name)∧w'.cell? ⟨g,of+k*6+1,none⟩=some (.int .i64 S.kind)∧w'.cell? ⟨g,of+k*6+2,none⟩=some (.int .i64 S.align)∧w'.cell? ⟨g,of+k*6+3,none⟩=some (.int .i64 S.size)∧w'.cell? ⟨g,of+k*6+4,none⟩=some (.string S.bytes)∧w'.cell? ⟨g,of+k*6+5,none⟩=some (.bool S.keep)):=⟨fun w' h=>⟨(h.cell (p:=⟨w.heap.size,0,none⟩) (by simp)).trans (by simp[go_sem]),(h.cell (p:=⟨w.heap.size,1,none⟩) (by simp)).trans (by simp[go_sem]),(h.cell (p:=⟨w.heap.size,2,none⟩) (by simp)).trans (by simp[go_sem]),(h.cell (p:=⟨w.heap.size,3,none⟩) (by simp)).trans (by simp[go_sem]),(h.cell (p:=⟨w.heap.size,4,none⟩) (by simp)).trans (by simp[go_sem]),(HB.out.below ((below_alloc w _).trans (h.mono (by simp)))).c0,(HB.out.below ((below_alloc w _).trans (h.mono (by simp)))).c1,(HB.out.below ((below_alloc w _).trans (h.mono (by simp)))).c2,(HB.out.below ((below_alloc w _).trans (h.mono (by simp)))).c3,(HB.out.below ((below_alloc w _).trans (h.mono (by simp)))).c4,(HB.out.below ((below_alloc w _).trans (h.mono (by simp)))).c5,(HB.out.below ((below_alloc w _).trans (h.mono (by simp)))).c6,(HB.out.below ((below_alloc w _).trans (h.mono (by simp)))).c7,(HB.out.below ((below_alloc w _).trans (h.mono (by simp)))).c8,(HB.out.below ((below_alloc w _).trans (h.mono (by simp)))).c9,(HB.out.below ((below_alloc w _).trans (h.mono (by simp)))).c10,(((below_alloc w _).trans (h.mono (by simp))).cell (p:=⟨g,_,none⟩) HG.out).trans (HCC.out 0 _ rfl),(((below_alloc w _).trans (h.mono (by simp))).cell (p:=⟨g,_,none⟩) HG.out).trans (HCC.out 1 _ rfl),(((below_alloc w _).trans (h.mono (by simp))).cell (p:=⟨g,_,none⟩) HG.out).trans (HCC.out 2 _ rfl),(((below_alloc w _).trans (h.mono (by simp))).cell (p:=⟨g,_,none⟩) HG.out).trans (HCC.out 3 _ rfl),(((below_alloc w _).trans (h.mono (by simp))).cell (p:=⟨g,_,none⟩) HG.out).trans (HCC.out 4 _ rfl),(((below_alloc w _).trans (h.mono (by simp))).cell (p:=⟨g,_,none⟩) HG.out).trans (HCC.out 5 _ rfl)⟩⟩
 have HC0:=HB.out.alloc (.cells #[.int .i64 (k:Int), .int .i64 x.at_, .int .i64 x.kind, .int .i64 x.sym, .int .i64 x.add] 50)
 obtain⟨c0,c1,c2,c3,c4,c5,c6,c7,c8,c9,c10⟩:=HC0
 clear hb hS0 hS2 hcl hEc hcc hg hA hk hN hsec hk1 hS1 hx
 go_enter Tryz.func153,Tryz.ntmps153
 go_upto_region 1 with(fail)
 go_cut [40] from 41 (fun s40 wx=>s40= .bool (!(k13&&I&&y1&& !a1&& !a2))∧Hd (Below (w.alloc (.cells #[.int .i64 (k:Int), .int .i64 x.at_, .int .i64 x.kind, .int .i64 x.sym, .int .i64 x.add] 50)).heap.size (w.alloc (.cells #[.int .i64 (k:Int), .int .i64 x.at_, .int .i64 x.kind, .int .i64 x.sym, .int .i64 x.add] 50)) wx))
 case first=>
  rcases k13 with _ | _
  ·skip
   go_wp2_with fail
   refine(HK13.out _).mono ?_
   rintro e w' ⟨rfl,rfl⟩
   go_wp2
   go_meet
   exact⟨by simp,⟨Below.refl _ _⟩⟩
  rcases I with _ | _
  ·skip
   go_wp2_with fail
   refine(HK13.out _).mono ?_
   rintro e w' ⟨rfl,rfl⟩
   go_wp2_with fail
   refine(HI.out _ (by go_grown) _ (rowAt2 w _ 0 1)).mono ?_
   rintro e v1 ⟨rfl,hK1⟩
   have HSt:Hd (Below (w.alloc (.cells #[.int .i64 (k:Int), .int .i64 x.at_, .int .i64 x.kind, .int .i64 x.sym, .int .i64 x.add] 50)).heap.size (w.alloc (.cells #[.int .i64 (k:Int), .int .i64 x.at_, .int .i64 x.kind, .int .i64 x.sym, .int .i64 x.add] 50)) v1):=⟨(show Below (w.alloc (.cells #[.int .i64 (k:Int), .int .i64 x.at_, .int .i64 x.kind, .int .i64 x.sym, .int .i64 x.add] 50)).heap.size (w.alloc (.cells #[.int .i64 (k:Int), .int .i64 x.at_, .int .i64 x.kind, .int .i64 x.sym, .int .i64 x.add] 50)) _ by go_grown).trans (hK1.mono (by first | (simp;done) | (simp;omega)))⟩
   clear hK1 c0 c1 c2 c3 c4 c5 c6 c7 c8 c9 c10
   go_wp2
   go_meet
   exact⟨by simp,HSt⟩
  rcases y1 with _ | _
  ·skip
   go_wp2_with fail
   refine(HK13.out _).mono ?_
   rintro e w' ⟨rfl,rfl⟩
   go_wp2_with fail
   refine(HI.out _ (by go_grown) _ (rowAt2 w _ 0 1)).mono ?_
   rintro e v1 ⟨rfl,hK1⟩
   have HSt:Hd (Below (w.alloc (.cells #[.int .i64 (k:Int), .int .i64 x.at_, .int .i64 x.kind, .int .i64 x.sym, .int .i64 x.add] 50)).heap.size (w.alloc (.cells #[.int .i64 (k:Int), .int .i64 x.at_, .int .i64 x.kind, .int .i64 x.sym, .int .i64 x.add] 50)) v1):=⟨(show Below (w.alloc (.cells #[.int .i64 (k:Int), .int .i64 x.at_, .int .i64 x.kind, .int .i64 x.sym, .int .i64 x.add] 50)).heap.size (w.alloc (.cells #[.int .i64 (k:Int), .int .i64 x.at_, .int .i64 x.kind, .int .i64 x.sym, .int .i64 x.add] 50)) _ by go_grown).trans (hK1.mono (by first | (simp;done) | (simp;omega)))⟩
   clear hK1 c0 c1 c2 c3 c4 c5 c6 c7 c8 c9 c10
   obtain⟨f0,f1,f2,f3,f4,c0,c1,c2,c3,c4,c5,c6,c7,c8,c9,c10,z0,z1,z2,z3,z4,z5⟩:=HF.out _ HSt.out
   clear z0 z1 z2 z3 z4 z5
   go_wp2_with fail
   refine(HY.out _).mono ?_
   rintro e w' ⟨rfl,rfl⟩
   go_wp2
   go_meet
   exact⟨by simp,HSt⟩
  rcases a1 with _ | _
  rotate_left
  ·skip
   go_wp2_with fail
   refine(HK13.out _).mono ?_
   rintro e w' ⟨rfl,rfl⟩
   go_wp2_with fail
   refine(HI.out _ (by go_grown) _ (rowAt2 w _ 0 1)).mono ?_
   rintro e v1 ⟨rfl,hK1⟩
   have HSt:Hd (Below (w.alloc (.cells #[.int .i64 (k:Int), .int .i64 x.at_, .int .i64 x.kind, .int .i64 x.sym, .int .i64 x.add] 50)).heap.size (w.alloc (.cells #[.int .i64 (k:Int), .int .i64 x.at_, .int .i64 x.kind, .int .i64 x.sym, .int .i64 x.add] 50)) v1):=⟨(show Below (w.alloc (.cells #[.int .i64 (k:Int), .int .i64 x.at_, .int .i64 x.kind, .int .i64 x.sym, .int .i64 x.add] 50)).heap.size (w.alloc (.cells #[.int .i64 (k:Int), .int .i64 x.at_, .int .i64 x.kind, .int .i64 x.sym, .int .i64 x.add] 50)) _ by go_grown).trans (hK1.mono (by first | (simp;done) | (simp;omega)))⟩
   clear hK1 c0 c1 c2 c3 c4 c5 c6 c7 c8 c9 c10
   obtain⟨f0,f1,f2,f3,f4,c0,c1,c2,c3,c4,c5,c6,c7,c8,c9,c10,z0,z1,z2,z3,z4,z5⟩:=HF.out _ HSt.out
   clear z0 z1 z2 z3 z4 z5
   go_wp2_with fail
   refine(HY.out _).mono ?_
   rintro e w' ⟨rfl,rfl⟩
   go_wp2
   go_meet
   exact⟨by simp,HSt⟩
  rcases a2 with _ | _
  ·skip
   go_wp2_with fail
   refine(HK13.out _).mono ?_
   rintro e w' ⟨rfl,rfl⟩
   go_wp2_with fail
   refine(HI.out _ (by go_grown) _ (rowAt2 w _ 0 1)).mono ?_
   rintro e v1 ⟨rfl,hK1⟩
   have HSt:Hd (Below (w.alloc (.cells #[.int .i64 (k:Int), .int .i64 x.at_, .int .i64 x.kind, .int .i64 x.sym, .int .i64 x.add] 50)).heap.size (w.alloc (.cells #[.int .i64 (k:Int), .int .i64 x.at_, .int .i64 x.kind, .int .i64 x.sym, .int .i64 x.add] 50)) v1):=⟨(show Below (w.alloc (.cells #[.int .i64 (k:Int), .int .i64 x.at_, .int .i64 x.kind, .int .i64 x.sym, .int .i64 x.add] 50)).heap.size (w.alloc (.cells #[.int .i64 (k:Int), .int .i64 x.at_, .int .i64 x.kind, .int .i64 x.sym, .int .i64 x.add] 50)) _ by go_grown).trans (hK1.mono (by first | (simp;done) | (simp;omega)))⟩
   clear hK1 c0 c1 c2 c3 c4 c5 c6 c7 c8 c9 c10
   obtain⟨f0,f1,f2,f3,f4,c0,c1,c2,c3,c4,c5,c6,c7,c8,c9,c10,z0,z1,z2,z3,z4,z5⟩:=HF.out _ HSt.out
   clear z0 z1 z2 z3 z4 z5
   go_wp2_with fail
   refine(HY.out _).mono ?_
   rintro e w' ⟨rfl,rfl⟩
   go_wp2
   go_meet
   exact⟨by simp,HSt⟩
  ·skip
   go_wp2_with fail
   refine(HK13.out _).mono ?_
   rintro e w' ⟨rfl,rfl⟩
   go_wp2_with fail
   refine(HI.out _ (by go_grown) _ (rowAt2 w _ 0 1)).mono ?_
   rintro e v1 ⟨rfl,hK1⟩
   have HSt:Hd (Below (w.alloc (.cells #[.int .i64 (k:Int), .int .i64 x.at_, .int .i64 x.kind, .int .i64 x.sym, .int .i64 x.add] 50)).heap.size (w.alloc (.cells #[.int .i64 (k:Int), .int .i64 x.at_, .int .i64 x.kind, .int .i64 x.sym, .int .i64 x.add] 50)) v1):=⟨(show Below (w.alloc (.cells #[.int .i64 (k:Int), .int .i64 x.at_, .int .i64 x.kind, .int .i64 x.sym, .int .i64 x.add] 50)).heap.size (w.alloc (.cells #[.int .i64 (k:Int), .int .i64 x.at_, .int .i64 x.kind, .int .i64 x.sym, .int .i64 x.add] 50)) _ by go_grown).trans (hK1.mono (by first | (simp;done) | (simp;omega)))⟩
   clear hK1 c0 c1 c2 c3 c4 c5 c6 c7 c8 c9 c10
   obtain⟨f0,f1,f2,f3,f4,c0,c1,c2,c3,c4,c5,c6,c7,c8,c9,c10,z0,z1,z2,z3,z4,z5⟩:=HF.out _ HSt.out
   clear z0 z1 z2 z3 z4 z5
   go_wp2_with fail
   refine(HY.out _).mono ?_
   rintro e w' ⟨rfl,rfl⟩
   go_wp2
   go_meet
   exact⟨by simp,HSt⟩
 case rest=>
  obtain⟨rfl,HBw⟩:=hcut
  obtain⟨B1,h1⟩:∃B1,(k13&&I&&y1&& !a1&& !a2)=B1:=⟨_,rfl⟩
  rw[h1] at HSp⊢
  clear h1 HK13 HI HY c0 c1 c2 c3 c4 c5 c6 c7 c8 c9 c10
  rcases B1 with _ | _
  ·go_wp2
   go_ret
   exact⟨ret_b (by rw[HSp.out]<;>simp),(below_alloc w _).trans (HBw.out.mono (by simp))⟩
  have HF3:Hd (∀w',Below wc.heap.size wc w'→w'.cell? ⟨w.heap.size,0,none⟩=some (.int .i64 (k:Int))∧w'.cell? ⟨w.heap.size,1,none⟩=some (.int .i64 x.at_)∧w'.cell? ⟨w.heap.size,2,none⟩=some (.int .i64 x.kind)∧w'.cell? ⟨w.heap.size,3,none⟩=some (.int .i64 x.sym)∧w'.cell? ⟨w.heap.size,4,none⟩=some (.int .i64 x.add)∧w'.cell? ⟨b,0,none⟩=some (.string o.name)∧w'.cell? ⟨b,1,none⟩=some (.slice (some ⟨g,of,none⟩) N c)∧w'.cell? ⟨b,2,none⟩=some (.slice p2 o.syms.length c2)∧w'.cell? ⟨b,3,none⟩=some (x3)∧w'.cell? ⟨b,4,none⟩=some (x4)∧w'.cell? ⟨b,5,none⟩=some (x5)∧w'.cell? ⟨b,6,none⟩=some (x6)∧w'.cell? ⟨b,7,none⟩=some (x7)∧w'.cell? ⟨b,8,none⟩=some (x8)∧w'.cell? ⟨b,9,none⟩=some (x9)∧w'.cell? ⟨b,10,none⟩=some (x10)∧w'.cell? ⟨g,of+k*6,none⟩=some (.string S.name)∧w'.cell? ⟨g,of+k*6+1,none⟩=some (.int .i64 S.kind)∧w'.cell? ⟨g,of+k*6+2,none⟩=some (.int .i64 S.align)∧w'.cell? ⟨g,of+k*6+3,none⟩=some (.int .i64 S.size)∧w'.cell? ⟨g,of+k*6+4,none⟩=some (.string S.bytes)∧w'.cell? ⟨g,of+k*6+5,none⟩=some (.bool S.keep)):=⟨fun w' h=>HF.out w' (HBw.out.trans (h.mono HBw.out.size))⟩
  have HL:Hd (w.heap.size<wc.heap.size):=⟨by have:=HBw.out.size;simp at this;omega⟩
  go_upto_region 3 with(fail)
  go_cut [4,5] from 41 (fun s4 s5 wx=>s4= .pointer (some ⟨wc.heap.size,0,none⟩)∧s5= .int .i64 d∧wx=((wc.alloc (.cells #[.string S.name, .int .i64 S.kind, .int .i64 S.align, .int .i64 S.size, .string S.bytes, .bool S.keep] 47))).drew)
  case first=>
   refine wp_region_tr default (fun w'=>Below wc.heap.size wc w') (.free 0<| .free 1<| .free 2<| .free 3<| .free 4<| .free 5<| .free 6<| .free 7<| .free 8<| .two 9 (.one 10<| .one 11<| .one 12 .done) 10 (.one 9<| .one 11<| .one 12 .done)) (by kernel_rfl) (by kernel_rfl) rfl (by kernel_rfl) (by kernel_rfl) (Below.drew (Below.refl _ _)) ?_
   repeat
    refine tr_free (v:= ?_) (by rfl) ?_ ?_
    rotate_left
    ·intro w' hSw
     obtain⟨f0,f1,f2,f3,f4,c0,c1,c2,c3,c4,c5,c6,c7,c8,c9,c10,z0,z1,z2,z3,z4,z5⟩:=HF3.out w' hSw
     clear hSw
     go_simp
     first | done | with_reducible rfl
    simp only[Act.put,List.setIfInBounds_toArray,List.set_cons_zero,List.set_cons_succ,List.getD_cons_zero,List.getD_cons_succ]
   refine tr_two ?_ ?_
   ·refine tr_one (fun K hK=> ?_)
    go_simp
    refine(HWd.out _).mono ?_
    rintro e w' ⟨rfl,rfl⟩
    refine hK.out _ _ (Below.drew (Below.refl _ _)) ?_
    clear hK K
    refine tr_one (fun K hK=> ?_)
    go_simp
    refine hK.out _ _ (by go_grown) ?_
    clear hK K
    refine tr_one (fun K hK=> ?_)
    go_simp
    refine hK.out _ _ (by go_grown) ?_
    clear hK K
    refine tr_one (fun K hK=> ?_)
    go_simp
    refine hK.out _ _ (by go_grown) ?_
    clear hK K
    refine NoPanic.normal ?_
    go_wp2
    go_meet
    exact⟨rfl,rfl,rfl⟩
   ·refine tr_one (fun K hK=> ?_)
    go_simp
    refine hK.out _ _ (by go_grown) ?_
    clear hK K
    refine tr_one (fun K hK=> ?_)
    go_simp
    refine(HWd.out _).mono ?_
    rintro e w' ⟨rfl,rfl⟩
    refine hK.out _ _ (by go_grown) ?_
    clear hK K
    refine tr_one (fun K hK=> ?_)
    go_simp
    refine hK.out _ _ (by go_grown) ?_
    clear hK K
    refine tr_one (fun K hK=> ?_)
    go_simp
    refine hK.out _ _ (by go_grown) ?_
    clear hK K
    refine NoPanic.normal ?_
    go_wp2
    go_meet
    exact⟨rfl,rfl,rfl⟩
  case rest=>
   obtain⟨rfl,rfl,rfl⟩:=hcut
   obtain⟨f0,f1,f2,f3,f4,c0,c1,c2,c3,c4,c5,c6,c7,c8,c9,c10,z0,z1,z2,z3,z4,z5⟩:=HF3.out _ (below_alloc wc (.cells #[.string S.name, .int .i64 S.kind, .int .i64 S.align, .int .i64 S.size, .string S.bytes, .bool S.keep] 47))
   clear z0 z1 z2 z3 z4 z5 c0 c1 c2 c3 c4 c5 c6 c7 c8 c9 c10 f0 f3 f4
   have HEnd:Hd (Below w.heap.size w (wc.alloc (.cells #[.string S.name, .int .i64 S.kind, .int .i64 S.align, .int .i64 S.size, .string S.bytes, .bool S.keep] 47)).drew):=⟨(show Below w.heap.size w wc from(below_alloc w _).trans (HBw.out.mono (by simp))).trans ((show Below wc.heap.size wc _ by go_grown).mono (by have:=HL.out;omega))⟩
   rcases Hwd.out with rfl | rfl | rfl
   ·obtain⟨f2q,hf2⟩:∃q,decide (wrap64 (S.size-4)<x.at_)=q:=⟨_,rfl⟩
    obtain⟨f3q,hf3⟩:∃q,(x.at_.tmod 4 !=0)=q:=⟨_,rfl⟩
    obtain⟨alq,hal⟩:∃q,decide ((4:Int)≤S.align)=q:=⟨_,rfl⟩
    rw[hf2,hf3,hal] at HSp
    rcases f1q with _ | _
    ·skip
     go_wp2_with fail
     refine(HF1.out _).mono ?_
     rintro e w' ⟨rfl,rfl⟩
     go_wp2
     go_ret
     exact⟨ret_b (by rw[HSp.out]<;>simp),HEnd.out⟩
    rcases f2q with _ | _
    rotate_left
    ·skip
     go_wp2_with fail
     refine(HF1.out _).mono ?_
     rintro e w' ⟨rfl,rfl⟩
     go_wp2
     go_ret
     exact⟨ret_b (by rw[HSp.out]<;>simp),HEnd.out⟩
    rcases f3q with _ | _
    rotate_left
    ·skip
     go_wp2_with fail
     refine(HF1.out _).mono ?_
     rintro e w' ⟨rfl,rfl⟩
     go_wp2
     go_ret
     exact⟨ret_b (by rw[HSp.out]<;>simp),HEnd.out⟩
    go_wp2_with fail
    refine(HF1.out _).mono ?_
    rintro e w' ⟨rfl,rfl⟩
    go_wp2_with fail
    refine(HO.out _).mono ?_
    rintro e v5 ⟨⟨lv,rfl,hl⟩,hK5⟩
    have k1:v5.cell? ⟨wc.heap.size,1,none⟩=some (.int .i64 S.kind):=(hK5.cell (p:=⟨wc.heap.size,1,none⟩) (by simp)).trans (by simp[go_sem])
    have k2:v5.cell? ⟨wc.heap.size,2,none⟩=some (.int .i64 S.align):=(hK5.cell (p:=⟨wc.heap.size,2,none⟩) (by simp)).trans (by simp[go_sem])
    have k4:v5.cell? ⟨wc.heap.size,4,none⟩=some (.string S.bytes):=(hK5.cell (p:=⟨wc.heap.size,4,none⟩) (by simp)).trans (by simp[go_sem])
    have k5:v5.cell? ⟨w.heap.size,1,none⟩=some (.int .i64 x.at_):=(hK5.cell (p:=⟨w.heap.size,1,none⟩) (by have:=HL.out;simp;omega)).trans f1
    have HK5:Hd (Below w.heap.size w v5):=⟨HEnd.out.trans (hK5.mono HEnd.out.size)⟩
    have HL5:Hd (wc.heap.size<v5.heap.size):=⟨by have:=hK5.size;simp at this;omega⟩
    clear hK5 f1 f2
    rcases hl with⟨rfl,rfl⟩ | ⟨rfl,la,ln,lc,rfl,hrow⟩
    ·have eq1:=eqI_nil v5
     rcases sk1 with _ | _
     ·skip
      go_wp2
      go_ret
      exact⟨ret_b (by rw[HSp.out]<;>simp),HK5.out⟩
     ·skip
      go_wp2
      go_ret
      exact⟨ret_b (by rw[HSp.out]<;>simp),HK5.out⟩
    ·have eq1:=eqI_some la ln lc v5
     have HRow:=Hd.mk hrow
     clear hrow
     rcases dB with _ | _
     ·skip
      rcases sk0 with _ | _<;>
      ·go_wp2_with fail
       refine(HD.out _ HK5.out).mono ?_
       rintro e v6 ⟨rfl,hK6⟩
       have m1:∀ob,(v6.alloc ob).cell? ⟨wc.heap.size,1,none⟩=some (.int .i64 S.kind):=fun ob=>(((below_alloc v6 ob).cell (p:=⟨wc.heap.size,1,none⟩) (Nat.lt_of_lt_of_le HL5.out hK6.size)).trans (hK6.cell (p:=⟨wc.heap.size,1,none⟩) HL5.out)).trans k1
       have HK6:Hd (Below w.heap.size w v6):=⟨HK5.out.trans (hK6.mono HK5.out.size)⟩
       have HRw:=Hd.mk (fun(ob:Obj) (z:Int)=>ctI_any (v6.alloc ob) _ _ z (ops_len x.kind) ((HRow.out.below intE_stays hK6).below intE_stays (below_alloc v6 ob)))
       clear hK6 k1 k2 k4 k5
       go_wp2
       go_ret
       exact⟨ret_b (by rw[HSp.out]<;>simp),(show Below w.heap.size w _ from Below.alloc HK6.out HK6.out.size _)⟩
     rcases sk0 with _ | _
     ·skip
      go_wp2_with fail
      refine(HD.out _ HK5.out).mono ?_
      rintro e v6 ⟨rfl,hK6⟩
      have m1:∀ob,(v6.alloc ob).cell? ⟨wc.heap.size,1,none⟩=some (.int .i64 S.kind):=fun ob=>(((below_alloc v6 ob).cell (p:=⟨wc.heap.size,1,none⟩) (Nat.lt_of_lt_of_le HL5.out hK6.size)).trans (hK6.cell (p:=⟨wc.heap.size,1,none⟩) HL5.out)).trans k1
      have HK6:Hd (Below w.heap.size w v6):=⟨HK5.out.trans (hK6.mono HK5.out.size)⟩
      have HRw:=Hd.mk (fun(ob:Obj) (z:Int)=>ctI_any (v6.alloc ob) _ _ z (ops_len x.kind) ((HRow.out.below intE_stays hK6).below intE_stays (below_alloc v6 ob)))
      clear hK6 k1 k2 k4 k5
      go_wp2
      go_ret
      exact⟨ret_b (by rw[HSp.out]<;>simp),(show Below w.heap.size w _ from Below.alloc HK6.out HK6.out.size _)⟩
     ·skip
      go_wp2_with fail
      refine(HD.out _ HK5.out).mono ?_
      rintro e v6 ⟨rfl,hK6⟩
      have m1:∀ob,(v6.alloc ob).cell? ⟨wc.heap.size,1,none⟩=some (.int .i64 S.kind):=fun ob=>(((below_alloc v6 ob).cell (p:=⟨wc.heap.size,1,none⟩) (Nat.lt_of_lt_of_le HL5.out hK6.size)).trans (hK6.cell (p:=⟨wc.heap.size,1,none⟩) HL5.out)).trans k1
      have HK6:Hd (Below w.heap.size w v6):=⟨HK5.out.trans (hK6.mono HK5.out.size)⟩
      have HRw:=Hd.mk (fun(ob:Obj) (z:Int)=>ctI_any (v6.alloc ob) _ _ z (ops_len x.kind) ((HRow.out.below intE_stays hK6).below intE_stays (below_alloc v6 ob)))
      clear hK6 k1 k2 k4 k5
      go_wp2_with fail
      refine(HRw.out _ _).mono ?_
      rintro e w' ⟨rfl,rfl⟩
      go_wp2
      go_ret
      exact⟨ret_b (by rw[HSp.out]<;>simp),(show Below w.heap.size w _ from Below.alloc HK6.out HK6.out.size _)⟩
   ·obtain⟨f2q,hf2⟩:∃q,decide (wrap64 (S.size-2)<x.at_)=q:=⟨_,rfl⟩
    obtain⟨f3q,hf3⟩:∃q,(x.at_.tmod 2 !=0)=q:=⟨_,rfl⟩
    obtain⟨alq,hal⟩:∃q,decide ((2:Int)≤S.align)=q:=⟨_,rfl⟩
    rw[hf2,hf3,hal] at HSp
    rcases f1q with _ | _
    ·skip
     go_wp2_with fail
     refine(HF1.out _).mono ?_
     rintro e w' ⟨rfl,rfl⟩
     go_wp2
     go_ret
     exact⟨ret_b (by rw[HSp.out]<;>simp),HEnd.out⟩
    rcases f2q with _ | _
    rotate_left
    ·skip
     go_wp2_with fail
     refine(HF1.out _).mono ?_
     rintro e w' ⟨rfl,rfl⟩
     go_wp2
     go_ret
     exact⟨ret_b (by rw[HSp.out]<;>simp),HEnd.out⟩
    rcases f3q with _ | _
    rotate_left
    ·skip
     go_wp2_with fail
     refine(HF1.out _).mono ?_
     rintro e w' ⟨rfl,rfl⟩
     go_wp2
     go_ret
     exact⟨ret_b (by rw[HSp.out]<;>simp),HEnd.out⟩
    go_wp2_with fail
    refine(HF1.out _).mono ?_
    rintro e w' ⟨rfl,rfl⟩
    go_wp2_with fail
    refine(HO.out _).mono ?_
    rintro e v5 ⟨⟨lv,rfl,hl⟩,hK5⟩
    have k1:v5.cell? ⟨wc.heap.size,1,none⟩=some (.int .i64 S.kind):=(hK5.cell (p:=⟨wc.heap.size,1,none⟩) (by simp)).trans (by simp[go_sem])
    have k2:v5.cell? ⟨wc.heap.size,2,none⟩=some (.int .i64 S.align):=(hK5.cell (p:=⟨wc.heap.size,2,none⟩) (by simp)).trans (by simp[go_sem])
    have k4:v5.cell? ⟨wc.heap.size,4,none⟩=some (.string S.bytes):=(hK5.cell (p:=⟨wc.heap.size,4,none⟩) (by simp)).trans (by simp[go_sem])
    have k5:v5.cell? ⟨w.heap.size,1,none⟩=some (.int .i64 x.at_):=(hK5.cell (p:=⟨w.heap.size,1,none⟩) (by have:=HL.out;simp;omega)).trans f1
    have HK5:Hd (Below w.heap.size w v5):=⟨HEnd.out.trans (hK5.mono HEnd.out.size)⟩
    have HL5:Hd (wc.heap.size<v5.heap.size):=⟨by have:=hK5.size;simp at this;omega⟩
    clear hK5 f1 f2
    rcases hl with⟨rfl,rfl⟩ | ⟨rfl,la,ln,lc,rfl,hrow⟩
    ·have eq1:=eqI_nil v5
     rcases sk1 with _ | _
     ·skip
      go_wp2
      go_ret
      exact⟨ret_b (by rw[HSp.out]<;>simp),HK5.out⟩
     ·skip
      go_wp2
      go_ret
      exact⟨ret_b (by rw[HSp.out]<;>simp),HK5.out⟩
    ·have eq1:=eqI_some la ln lc v5
     have HRow:=Hd.mk hrow
     clear hrow
     rcases dB with _ | _
     ·skip
      rcases sk0 with _ | _<;>
      ·go_wp2_with fail
       refine(HD.out _ HK5.out).mono ?_
       rintro e v6 ⟨rfl,hK6⟩
       have m1:∀ob,(v6.alloc ob).cell? ⟨wc.heap.size,1,none⟩=some (.int .i64 S.kind):=fun ob=>(((below_alloc v6 ob).cell (p:=⟨wc.heap.size,1,none⟩) (Nat.lt_of_lt_of_le HL5.out hK6.size)).trans (hK6.cell (p:=⟨wc.heap.size,1,none⟩) HL5.out)).trans k1
       have HK6:Hd (Below w.heap.size w v6):=⟨HK5.out.trans (hK6.mono HK5.out.size)⟩
       have HRw:=Hd.mk (fun(ob:Obj) (z:Int)=>ctI_any (v6.alloc ob) _ _ z (ops_len x.kind) ((HRow.out.below intE_stays hK6).below intE_stays (below_alloc v6 ob)))
       clear hK6 k1 k2 k4 k5
       go_wp2
       go_ret
       exact⟨ret_b (by rw[HSp.out]<;>simp),(show Below w.heap.size w _ from Below.alloc HK6.out HK6.out.size _)⟩
     rcases sk0 with _ | _
     ·skip
      go_wp2_with fail
      refine(HD.out _ HK5.out).mono ?_
      rintro e v6 ⟨rfl,hK6⟩
      have m1:∀ob,(v6.alloc ob).cell? ⟨wc.heap.size,1,none⟩=some (.int .i64 S.kind):=fun ob=>(((below_alloc v6 ob).cell (p:=⟨wc.heap.size,1,none⟩) (Nat.lt_of_lt_of_le HL5.out hK6.size)).trans (hK6.cell (p:=⟨wc.heap.size,1,none⟩) HL5.out)).trans k1
      have HK6:Hd (Below w.heap.size w v6):=⟨HK5.out.trans (hK6.mono HK5.out.size)⟩
      have HRw:=Hd.mk (fun(ob:Obj) (z:Int)=>ctI_any (v6.alloc ob) _ _ z (ops_len x.kind) ((HRow.out.below intE_stays hK6).below intE_stays (below_alloc v6 ob)))
      clear hK6 k1 k2 k4 k5
      go_wp2
      go_ret
      exact⟨ret_b (by rw[HSp.out]<;>simp),(show Below w.heap.size w _ from Below.alloc HK6.out HK6.out.size _)⟩
     ·skip
      go_wp2_with fail
      refine(HD.out _ HK5.out).mono ?_
      rintro e v6 ⟨rfl,hK6⟩
      have m1:∀ob,(v6.alloc ob).cell? ⟨wc.heap.size,1,none⟩=some (.int .i64 S.kind):=fun ob=>(((below_alloc v6 ob).cell (p:=⟨wc.heap.size,1,none⟩) (Nat.lt_of_lt_of_le HL5.out hK6.size)).trans (hK6.cell (p:=⟨wc.heap.size,1,none⟩) HL5.out)).trans k1
      have HK6:Hd (Below w.heap.size w v6):=⟨HK5.out.trans (hK6.mono HK5.out.size)⟩
      have HRw:=Hd.mk (fun(ob:Obj) (z:Int)=>ctI_any (v6.alloc ob) _ _ z (ops_len x.kind) ((HRow.out.below intE_stays hK6).below intE_stays (below_alloc v6 ob)))
      clear hK6 k1 k2 k4 k5
      go_wp2_with fail
      refine(HRw.out _ _).mono ?_
      rintro e w' ⟨rfl,rfl⟩
      go_wp2
      go_ret
      exact⟨ret_b (by rw[HSp.out]<;>simp),(show Below w.heap.size w _ from Below.alloc HK6.out HK6.out.size _)⟩
   ·obtain⟨f2q,hf2⟩:∃q,decide (wrap64 (S.size-8)<x.at_)=q:=⟨_,rfl⟩
    obtain⟨f3q,hf3⟩:∃q,(x.at_.tmod 8 !=0)=q:=⟨_,rfl⟩
    obtain⟨alq,hal⟩:∃q,decide ((8:Int)≤S.align)=q:=⟨_,rfl⟩
    rw[hf2,hf3,hal] at HSp
    rcases f1q with _ | _
    ·skip
     go_wp2_with fail
     refine(HF1.out _).mono ?_
     rintro e w' ⟨rfl,rfl⟩
     go_wp2
     go_ret
     exact⟨ret_b (by rw[HSp.out]<;>simp),HEnd.out⟩
    rcases f2q with _ | _
    rotate_left
    ·skip
     go_wp2_with fail
     refine(HF1.out _).mono ?_
     rintro e w' ⟨rfl,rfl⟩
     go_wp2
     go_ret
     exact⟨ret_b (by rw[HSp.out]<;>simp),HEnd.out⟩
    rcases f3q with _ | _
    rotate_left
    ·skip
     go_wp2_with fail
     refine(HF1.out _).mono ?_
     rintro e w' ⟨rfl,rfl⟩
     go_wp2
     go_ret
     exact⟨ret_b (by rw[HSp.out]<;>simp),HEnd.out⟩
    go_wp2_with fail
    refine(HF1.out _).mono ?_
    rintro e w' ⟨rfl,rfl⟩
    go_wp2_with fail
    refine(HO.out _).mono ?_
    rintro e v5 ⟨⟨lv,rfl,hl⟩,hK5⟩
    have k1:v5.cell? ⟨wc.heap.size,1,none⟩=some (.int .i64 S.kind):=(hK5.cell (p:=⟨wc.heap.size,1,none⟩) (by simp)).trans (by simp[go_sem])
    have k2:v5.cell? ⟨wc.heap.size,2,none⟩=some (.int .i64 S.align):=(hK5.cell (p:=⟨wc.heap.size,2,none⟩) (by simp)).trans (by simp[go_sem])
    have k4:v5.cell? ⟨wc.heap.size,4,none⟩=some (.string S.bytes):=(hK5.cell (p:=⟨wc.heap.size,4,none⟩) (by simp)).trans (by simp[go_sem])
    have k5:v5.cell? ⟨w.heap.size,1,none⟩=some (.int .i64 x.at_):=(hK5.cell (p:=⟨w.heap.size,1,none⟩) (by have:=HL.out;simp;omega)).trans f1
    have HK5:Hd (Below w.heap.size w v5):=⟨HEnd.out.trans (hK5.mono HEnd.out.size)⟩
    have HL5:Hd (wc.heap.size<v5.heap.size):=⟨by have:=hK5.size;simp at this;omega⟩
    clear hK5 f1 f2
    rcases hl with⟨rfl,rfl⟩ | ⟨rfl,la,ln,lc,rfl,hrow⟩
    ·have eq1:=eqI_nil v5
     rcases sk1 with _ | _
     ·skip
      go_wp2
      go_ret
      exact⟨ret_b (by rw[HSp.out]<;>simp),HK5.out⟩
     ·skip
      go_wp2
      go_ret
      exact⟨ret_b (by rw[HSp.out]<;>simp),HK5.out⟩
    ·have eq1:=eqI_some la ln lc v5
     have HRow:=Hd.mk hrow
     clear hrow
     rcases dB with _ | _
     ·skip
      rcases sk0 with _ | _<;>
      ·go_wp2_with fail
       refine(HD.out _ HK5.out).mono ?_
       rintro e v6 ⟨rfl,hK6⟩
       have m1:∀ob,(v6.alloc ob).cell? ⟨wc.heap.size,1,none⟩=some (.int .i64 S.kind):=fun ob=>(((below_alloc v6 ob).cell (p:=⟨wc.heap.size,1,none⟩) (Nat.lt_of_lt_of_le HL5.out hK6.size)).trans (hK6.cell (p:=⟨wc.heap.size,1,none⟩) HL5.out)).trans k1
       have HK6:Hd (Below w.heap.size w v6):=⟨HK5.out.trans (hK6.mono HK5.out.size)⟩
       have HRw:=Hd.mk (fun(ob:Obj) (z:Int)=>ctI_any (v6.alloc ob) _ _ z (ops_len x.kind) ((HRow.out.below intE_stays hK6).below intE_stays (below_alloc v6 ob)))
       clear hK6 k1 k2 k4 k5
       go_wp2
       go_ret
       exact⟨ret_b (by rw[HSp.out]<;>simp),(show Below w.heap.size w _ from Below.alloc HK6.out HK6.out.size _)⟩
     rcases sk0 with _ | _
     ·skip
      go_wp2_with fail
      refine(HD.out _ HK5.out).mono ?_
      rintro e v6 ⟨rfl,hK6⟩
      have m1:∀ob,(v6.alloc ob).cell? ⟨wc.heap.size,1,none⟩=some (.int .i64 S.kind):=fun ob=>(((below_alloc v6 ob).cell (p:=⟨wc.heap.size,1,none⟩) (Nat.lt_of_lt_of_le HL5.out hK6.size)).trans (hK6.cell (p:=⟨wc.heap.size,1,none⟩) HL5.out)).trans k1
      have HK6:Hd (Below w.heap.size w v6):=⟨HK5.out.trans (hK6.mono HK5.out.size)⟩
      have HRw:=Hd.mk (fun(ob:Obj) (z:Int)=>ctI_any (v6.alloc ob) _ _ z (ops_len x.kind) ((HRow.out.below intE_stays hK6).below intE_stays (below_alloc v6 ob)))
      clear hK6 k1 k2 k4 k5
      go_wp2
      go_ret
      exact⟨ret_b (by rw[HSp.out]<;>simp),(show Below w.heap.size w _ from Below.alloc HK6.out HK6.out.size _)⟩
     ·skip
      go_wp2_with fail
      refine(HD.out _ HK5.out).mono ?_
      rintro e v6 ⟨rfl,hK6⟩
      have m1:∀ob,(v6.alloc ob).cell? ⟨wc.heap.size,1,none⟩=some (.int .i64 S.kind):=fun ob=>(((below_alloc v6 ob).cell (p:=⟨wc.heap.size,1,none⟩) (Nat.lt_of_lt_of_le HL5.out hK6.size)).trans (hK6.cell (p:=⟨wc.heap.size,1,none⟩) HL5.out)).trans k1
      have HK6:Hd (Below w.heap.size w v6):=⟨HK5.out.trans (hK6.mono HK5.out.size)⟩
      have HRw:=Hd.mk (fun(ob:Obj) (z:Int)=>ctI_any (v6.alloc ob) _ _ z (ops_len x.kind) ((HRow.out.below intE_stays hK6).below intE_stays (below_alloc v6 ob)))
      clear hK6 k1 k2 k4 k5
      go_wp2_with fail
      refine(HRw.out _ _).mono ?_
      rintro e w' ⟨rfl,rfl⟩
      go_wp2
      go_ret
      exact⟨ret_b (by rw[HSp.out]<;>simp),(show Below w.heap.size w _ from Below.alloc HK6.out HK6.out.size _)⟩
end Go.Proofs.YtfaepbjnpakghaaGreatDoor.W
