import Derived.Test.YtfaepbjnpakghaaGreatDoorKad
import Derived.Test.YtfaepbjnpakghaaGreatDoorKag
import Derived.Test.YtfaepbjnpakghaaGreatDoorKah
import Derived.Test.YtfaepbjnpakghaaGreatDoorKPv1
import Derived.Test.YtfaepbjnpakghaaGreatDoorKPv4
/- The walk of the closure converts$1 (printed by tools/gen_cls.py). -/
namespace Go.Proofs.YtfaepbjnpakghaaGreatDoor.W
open Go.RowKit
set_option linter.unusedVariables false
theorem below2 {w v:World} {o1 o2:Obj} (h:Below w.heap.size w v):Below w.heap.size w ((v.alloc o1).alloc o2):=Below.alloc (Below.alloc h h.size o1) (by have:=h.size;simp;omega) o2
theorem pce_sum {z:Int} {l:List Pce} (h:l.all (pceB z)=true) (hz:I64 z) {x:Pce} (hx:x∈l) (hk:x.Ok):I64 (x.to_+x.size):=by
 have:=List.all_eq_true.1 h x hx
 unfold pceB fitsP at this
 simp only[Bool.and_eq_true,decide_eq_true_eq] at this
 unfold I64 at hz⊢
 omega
theorem ocnv1_out (w:World) (o:Ob) (x1 x2 x3 x4 x5 x6 x7 x8 x9 x10:Value) (b:Nat) (hb:ObC w b o x1 x2 x3 x4 x5 x6 x7 x8 x9 x10) (hA:o.At w x1 x2 x3 x4 x5 x6 x7 x8 x9 x10) (hk:o.Ok) (x:Cnv) (hx:x.Ok) (pp:Option Addr) (pc:Nat) (hxp:Rw 3 Pce.E w (.slice pp x.pieces.length pc) x.pieces) (hin:¬(0≤x.sec∧x.sec< (o.secs.length:Int))):
 Calls Tryz.prog 189 #[.agg #[.int .i64 x.sec, .string x.from_, .slice pp x.pieces.length pc, .int .i64 x.code], .pointer (some ⟨b,0,none⟩)] w fun e w'=>e= .returned (.bool (cnvB o x))∧Below w.heap.size w w':=by
 have hI:=(fun(w1:World) (h:Below w.heap.size w w1) (kv:Value) (hr:Rw 1 intE w1 kv [1])=>ois_any w1 o x1 x2 x3 x4 x5 x6 x7 x8 x9 x10 x.sec kv [1] (hA.below h) hk.secs hr (by unfold lenR;decide))
 rw[is_out hin] at hI
 have HI:=Hd.mk hI
 have HS:Hd (cnvB o x=false):=⟨by unfold cnvB;rw[is_out hin];rfl⟩
 clear hI hA hk hin
 obtain⟨c0,c1,c2,c3,c4,c5,c6,c7,c8,c9,c10⟩:=hb.alloc (.cells #[.int .i64 x.sec, .string x.from_, .slice pp x.pieces.length pc, .int .i64 x.code] 62)
 go_enter Tryz.func189,Tryz.ntmps189
 go_wp2_with fail
 refine(HI.out _ (by go_grown) _ (rowAt w _ 1)).mono ?_
 rintro e v1 ⟨rfl,hK⟩
 have HK:=Hd.mk ((show Below w.heap.size w _ by go_grown).trans (hK.mono (by simp;omega)))
 clear hK
 go_wp2
 go_ret
 exact⟨ret_b HS.out.symm,HK.out⟩
theorem sizeAt_ok' {o:Ob} (hk:o.Ok) (i:Int):I64 (sizeAt o i):=by
 unfold sizeAt secAt
 split
 ·rename_i s h
  split at h
  ·exact(hk.secsI s (List.mem_of_getElem? h)).size
  ·cases h
 ·unfold I64;omega
theorem ocnv1_bad (w:World) (o:Ob) (x1 x2 x3 x4 x5 x6 x7 x8 x9 x10:Value) (b:Nat) (hb:ObC w b o x1 x2 x3 x4 x5 x6 x7 x8 x9 x10) (hA:o.At w x1 x2 x3 x4 x5 x6 x7 x8 x9 x10) (hk:o.Ok) (x:Cnv) (hx:x.Ok) (pp:Option Addr) (pc:Nat) (hxp:Rw 3 Pce.E w (.slice pp x.pieces.length pc) x.pieces) (k:Nat) (hsec:x.sec=(k:Int)) (hk1:k<o.secs.length) (l32:((x.from_.size:Int) !=32)=true):
 Calls Tryz.prog 189 #[.agg #[.int .i64 (k:Int), .string x.from_, .slice pp x.pieces.length pc, .int .i64 x.code], .pointer (some ⟨b,0,none⟩)] w fun e w'=>e= .returned (.bool (cnvB o x))∧Below w.heap.size w w':=by
 have hI:=(fun(w1:World) (h:Below w.heap.size w w1) (kv:Value) (hr:Rw 1 intE w1 kv [1])=>ois_any w1 o x1 x2 x3 x4 x5 x6 x7 x8 x9 x10 (k:Int) kv [1] (hA.below h) hk.secs hr (by unfold lenR;decide))
 obtain⟨Z,hZ⟩:∃Z,sizeAt o x.sec=Z:=⟨_,rfl⟩
 have hZ64:I64 Z:=hZ▸sizeAt_ok' hk _
 have hS:cnvB o x=(isB o k [1]&&decide (x.from_.size=32)&&(decide (x.code= -1) || symKB o x.code 0)&&x.pieces.all (pceB Z)&&pairsB pceOrd x.pieces):=by
  unfold cnvB;rw[hZ,hsec]
 obtain⟨q0,h0⟩:∃q,isB o k [1]=q:=⟨_,rfl⟩
 rw[h0] at hI hS
 have HI:=Hd.mk hI
 clear hI h0
 have hd32:decide (x.from_.size=32)=false:=decide_eq_false (by have:=l32;simp at this;omega)
 rw[hd32] at hS
 have HS:=Hd.mk hS
 clear hS hd32
 have hS0:=hA.secs
 obtain⟨p,c,rfl⟩:=hS0.slice
 obtain⟨g,of,cs,rfl,hg,hcl,hEc,hcc⟩:=hS0.at rfl (j:=k) hk1
 have hE':cs=(o.secs[k]).cells:=hEc
 subst hE'
 have hz:w.cell? ⟨g,of+k*6+3,none⟩=some (.int .i64 Z):=by
  rw[←hZ,hsec,sizeAt_in hk1];exact hcc 3 _ rfl
 have HZ:=Hd.mk hz
 have HG:=Hd.mk hg
 have HB:=Hd.mk hb
 obtain⟨N,hN⟩:∃N,o.secs.length=N:=⟨_,rfl⟩
 have i1:(0:Int)≤(k:Int):=by omega
 have i2:(k:Int)< (N:Int):=by omega
 rw[hN] at HI HB
 obtain⟨c0,c1,c2,c3,c4,c5,c6,c7,c8,c9,c10⟩:=HB.out.alloc (.cells #[.int .i64 (k:Int), .string x.from_, .slice pp x.pieces.length pc, .int .i64 x.code] 62)
 clear hb hS0 hcl hEc hcc hz hg hA hk hN hZ hZ64 hsec hk1
 rcases q0 with _ | _
 ·go_enter Tryz.func189,Tryz.ntmps189
  go_wp2_with fail
  refine(HI.out _ (by go_grown) _ (rowAt w _ 1)).mono ?_
  rintro e v1 ⟨rfl,hK1⟩
  have e10:v1.cell? ⟨w.heap.size,0,none⟩=some (.int .i64 (k:Int)):=(hK1.cell (p:=⟨w.heap.size,0,none⟩) (by first | (simp;done) | (simp;omega))).trans (by simp[go_sem])
  have e11:v1.cell? ⟨w.heap.size,1,none⟩=some (.string x.from_):=(hK1.cell (p:=⟨w.heap.size,1,none⟩) (by first | (simp;done) | (simp;omega))).trans (by simp[go_sem])
  have e12:v1.cell? ⟨w.heap.size,2,none⟩=some (.slice pp x.pieces.length pc):=(hK1.cell (p:=⟨w.heap.size,2,none⟩) (by first | (simp;done) | (simp;omega))).trans (by simp[go_sem])
  have e13:v1.cell? ⟨w.heap.size,3,none⟩=some (.int .i64 x.code):=(hK1.cell (p:=⟨w.heap.size,3,none⟩) (by first | (simp;done) | (simp;omega))).trans (by simp[go_sem])
  have HK1:=Hd.mk ((show Below w.heap.size w _ by go_grown).trans (hK1.mono (by first | (simp;done) | (simp;omega))))
  have HL1:Hd (w.heap.size<v1.heap.size):=⟨by have:=hK1.size;simp at this;omega⟩
  clear hK1 c0 c1 c2 c3 c4 c5 c6 c7 c8 c9 c10
  go_wp2
  go_ret
  exact⟨ret_b (by rw[HS.out]<;>simp),HK1.out⟩
 ·go_enter Tryz.func189,Tryz.ntmps189
  go_wp2_with fail
  refine(HI.out _ (by go_grown) _ (rowAt w _ 1)).mono ?_
  rintro e v1 ⟨rfl,hK1⟩
  have e10:v1.cell? ⟨w.heap.size,0,none⟩=some (.int .i64 (k:Int)):=(hK1.cell (p:=⟨w.heap.size,0,none⟩) (by first | (simp;done) | (simp;omega))).trans (by simp[go_sem])
  have e11:v1.cell? ⟨w.heap.size,1,none⟩=some (.string x.from_):=(hK1.cell (p:=⟨w.heap.size,1,none⟩) (by first | (simp;done) | (simp;omega))).trans (by simp[go_sem])
  have e12:v1.cell? ⟨w.heap.size,2,none⟩=some (.slice pp x.pieces.length pc):=(hK1.cell (p:=⟨w.heap.size,2,none⟩) (by first | (simp;done) | (simp;omega))).trans (by simp[go_sem])
  have e13:v1.cell? ⟨w.heap.size,3,none⟩=some (.int .i64 x.code):=(hK1.cell (p:=⟨w.heap.size,3,none⟩) (by first | (simp;done) | (simp;omega))).trans (by simp[go_sem])
  have HK1:=Hd.mk ((show Below w.heap.size w _ by go_grown).trans (hK1.mono (by first | (simp;done) | (simp;omega))))
  have HL1:Hd (w.heap.size<v1.heap.size):=⟨by have:=hK1.size;simp at this;omega⟩
  clear hK1 c0 c1 c2 c3 c4 c5 c6 c7 c8 c9 c10
  go_wp2
  go_ret
  exact⟨ret_b (by rw[HS.out]<;>simp),HK1.out⟩
theorem ocnv1_m1 (w:World) (o:Ob) (x1 x2 x3 x4 x5 x6 x7 x8 x9 x10:Value) (b:Nat) (hb:ObC w b o x1 x2 x3 x4 x5 x6 x7 x8 x9 x10) (hA:o.At w x1 x2 x3 x4 x5 x6 x7 x8 x9 x10) (hk:o.Ok) (x:Cnv) (hx:x.Ok) (pp:Option Addr) (pc:Nat) (hxp:Rw 3 Pce.E w (.slice pp x.pieces.length pc) x.pieces) (k:Nat) (hsec:x.sec=(k:Int)) (hk1:k<o.secs.length) (l32:((x.from_.size:Int) !=32)=false) (cm:(x.code != -1)=false):
 Calls Tryz.prog 189 #[.agg #[.int .i64 (k:Int), .string x.from_, .slice pp x.pieces.length pc, .int .i64 x.code], .pointer (some ⟨b,0,none⟩)] w fun e w'=>e= .returned (.bool (cnvB o x))∧Below w.heap.size w w':=by
 have hI:=(fun(w1:World) (h:Below w.heap.size w w1) (kv:Value) (hr:Rw 1 intE w1 kv [1])=>ois_any w1 o x1 x2 x3 x4 x5 x6 x7 x8 x9 x10 (k:Int) kv [1] (hA.below h) hk.secs hr (by unfold lenR;decide))
 obtain⟨Z,hZ⟩:∃Z,sizeAt o x.sec=Z:=⟨_,rfl⟩
 have hZ64:I64 Z:=hZ▸sizeAt_ok' hk _
 have hS:cnvB o x=(isB o k [1]&&decide (x.from_.size=32)&&(decide (x.code= -1) || symKB o x.code 0)&&x.pieces.all (pceB Z)&&pairsB pceOrd x.pieces):=by
  unfold cnvB;rw[hZ,hsec]
 obtain⟨q0,h0⟩:∃q,isB o k [1]=q:=⟨_,rfl⟩
 rw[h0] at hI hS
 have HI:=Hd.mk hI
 clear hI h0
 have hd32:decide (x.from_.size=32)=true:=decide_eq_true (by have:=l32;simp at this;omega)
 rw[hd32] at hS
 rw[decide_eq_true (show x.code= -1 by simpa using cm)] at hS
 have hE:=(fun(w1:World) (h:Below w.heap.size w w1) (bf bz:Nat) (hf:w1.cell? ⟨bf,0,none⟩=some (.func (.func 190) #[] #[])) (hc:w1.cell? ⟨bz,0,none⟩=some (.int .i64 Z))=>evPce_any w1 (.slice pp x.pieces.length pc) 192 #[.pointer (some ⟨bf,0,none⟩), .pointer (some ⟨bz,0,none⟩)] (hxp.below Pce.stays h) Pce.stays (fun _ _ _ h=>by cases h;rfl) hx.pieces
  (show FnV aggA Pce.E (fun y=> .bool (pceB Z y)) x.pieces w1 192 #[.pointer (some ⟨bf,0,none⟩), .pointer (some ⟨bz,0,none⟩)] from⟨enters_of Tryz.func192 rfl rfl,fun y hy w2 h2 cs hcs=>by
   cases hcs
   exact opce_any w2 y (hx.piecesI y hy) bf bz Z hZ64 ((h2.cell (p:=⟨bf,0,none⟩) (World.block_lt_of_cell? _ _ hf)).trans hf) ((h2.cell (p:=⟨bz,0,none⟩) (World.block_lt_of_cell? _ _ hc)).trans hc)⟩))
 have hP:=(fun(w1:World) (h:Below w.heap.size w w1) (hall:x.pieces.all (pceB Z)=true)=>prPce_any w1 (.slice pp x.pieces.length pc) 194 #[] (hxp.below Pce.stays h) Pce.stays hx.pieces
  (show FnV2 aggA Pce.E pceOrd x.pieces w1 194 #[] from⟨enters_of Tryz.func194 rfl rfl,fun y hy y2 hy2 w2 h2 cs ds hcs hds=>by
   cases hcs;cases hds
   exact ocnv13_any w2 y y2 (hx.piecesI y hy) (pce_sum hall hZ64 hy (hx.piecesI y hy))⟩))
 obtain⟨q1,h1⟩:∃q,x.pieces.all (pceB Z)=q:=⟨_,rfl⟩
 obtain⟨q2,h2⟩:∃q,pairsB pceOrd x.pieces=q:=⟨_,rfl⟩
 rw[h1] at hE hS
 rw[h2] at hP hS
 have HE:=Hd.mk hE
 have HP:=Hd.mk hP
 have HQ:=Hd.mk h1
 clear hE hP h1 h2
 have hst:=fun(a:Addr) (m:Mode) (w:World)=>run_store w (P:=Tryz.prog) a (.func (.func 190) #[] #[]) m rfl
 have HS:=Hd.mk hS
 clear hS hd32
 have hS0:=hA.secs
 obtain⟨p,c,rfl⟩:=hS0.slice
 obtain⟨g,of,cs,rfl,hg,hcl,hEc,hcc⟩:=hS0.at rfl (j:=k) hk1
 have hE':cs=(o.secs[k]).cells:=hEc
 subst hE'
 have hz:w.cell? ⟨g,of+k*6+3,none⟩=some (.int .i64 Z):=by
  rw[←hZ,hsec,sizeAt_in hk1];exact hcc 3 _ rfl
 have HZ:=Hd.mk hz
 have HG:=Hd.mk hg
 have HB:=Hd.mk hb
 obtain⟨N,hN⟩:∃N,o.secs.length=N:=⟨_,rfl⟩
 have i1:(0:Int)≤(k:Int):=by omega
 have i2:(k:Int)< (N:Int):=by omega
 rw[hN] at HI HB
 obtain⟨c0,c1,c2,c3,c4,c5,c6,c7,c8,c9,c10⟩:=HB.out.alloc (.cells #[.int .i64 (k:Int), .string x.from_, .slice pp x.pieces.length pc, .int .i64 x.code] 62)
 clear hb hS0 hcl hEc hcc hz hg hA hk hN hZ hZ64 hsec hk1
 rcases q0 with _ | _
 ·go_enter Tryz.func189,Tryz.ntmps189
  go_wp2_with fail
  refine(HI.out _ (by go_grown) _ (rowAt w _ 1)).mono ?_
  rintro e v1 ⟨rfl,hK1⟩
  have e10:v1.cell? ⟨w.heap.size,0,none⟩=some (.int .i64 (k:Int)):=(hK1.cell (p:=⟨w.heap.size,0,none⟩) (by first | (simp;done) | (simp;omega))).trans (by simp[go_sem])
  have e11:v1.cell? ⟨w.heap.size,1,none⟩=some (.string x.from_):=(hK1.cell (p:=⟨w.heap.size,1,none⟩) (by first | (simp;done) | (simp;omega))).trans (by simp[go_sem])
  have e12:v1.cell? ⟨w.heap.size,2,none⟩=some (.slice pp x.pieces.length pc):=(hK1.cell (p:=⟨w.heap.size,2,none⟩) (by first | (simp;done) | (simp;omega))).trans (by simp[go_sem])
  have e13:v1.cell? ⟨w.heap.size,3,none⟩=some (.int .i64 x.code):=(hK1.cell (p:=⟨w.heap.size,3,none⟩) (by first | (simp;done) | (simp;omega))).trans (by simp[go_sem])
  have HK1:=Hd.mk ((show Below w.heap.size w _ by go_grown).trans (hK1.mono (by first | (simp;done) | (simp;omega))))
  have HL1:Hd (w.heap.size<v1.heap.size):=⟨by have:=hK1.size;simp at this;omega⟩
  clear hK1 c0 c1 c2 c3 c4 c5 c6 c7 c8 c9 c10
  go_wp2
  go_ret
  exact⟨ret_b (by rw[HS.out]<;>simp),HK1.out⟩
 ·rcases q1 with _ | _
  ·go_enter Tryz.func189,Tryz.ntmps189
   go_wp2_with fail
   refine(HI.out _ (by go_grown) _ (rowAt w _ 1)).mono ?_
   rintro e v1 ⟨rfl,hK1⟩
   have e10:v1.cell? ⟨w.heap.size,0,none⟩=some (.int .i64 (k:Int)):=(hK1.cell (p:=⟨w.heap.size,0,none⟩) (by first | (simp;done) | (simp;omega))).trans (by simp[go_sem])
   have e11:v1.cell? ⟨w.heap.size,1,none⟩=some (.string x.from_):=(hK1.cell (p:=⟨w.heap.size,1,none⟩) (by first | (simp;done) | (simp;omega))).trans (by simp[go_sem])
   have e12:v1.cell? ⟨w.heap.size,2,none⟩=some (.slice pp x.pieces.length pc):=(hK1.cell (p:=⟨w.heap.size,2,none⟩) (by first | (simp;done) | (simp;omega))).trans (by simp[go_sem])
   have e13:v1.cell? ⟨w.heap.size,3,none⟩=some (.int .i64 x.code):=(hK1.cell (p:=⟨w.heap.size,3,none⟩) (by first | (simp;done) | (simp;omega))).trans (by simp[go_sem])
   have HK1:=Hd.mk ((show Below w.heap.size w _ by go_grown).trans (hK1.mono (by first | (simp;done) | (simp;omega))))
   have HL1:Hd (w.heap.size<v1.heap.size):=⟨by have:=hK1.size;simp at this;omega⟩
   clear hK1 c0 c1 c2 c3 c4 c5 c6 c7 c8 c9 c10
   obtain⟨g10,g11,g12,g13,g14,g15,g16,g17,g18,g19,g110⟩:=HB.out.below HK1.out
   have z1:=(HK1.out.cell (p:=⟨g,of+k*6+3,none⟩) HG.out).trans HZ.out
   have p1:∀o1 o2,((v1.alloc o1).alloc o2).cell? ⟨w.heap.size,2,none⟩=some (.slice pp x.pieces.length pc):=fun o1 o2=>((below2 (Below.refl v1.heap.size v1)).cell (p:=⟨w.heap.size,2,none⟩) HL1.out).trans e12
   go_wp2_with fail
   refine Calls.mono (HE.out _ (below2 HK1.out) (v1.heap.size+1) v1.heap.size ?_ ?_) ?_
   ·simp[go_sem]
   ·simp[go_sem]
   rintro e v3 ⟨rfl,hK3⟩
   have e32:v3.cell? ⟨w.heap.size,2,none⟩=some (.slice pp x.pieces.length pc):=(hK3.cell (p:=⟨w.heap.size,2,none⟩) (by have:=HL1.out;simp;omega)).trans (((below2 (Below.refl v1.heap.size v1)).cell (p:=⟨w.heap.size,2,none⟩) HL1.out).trans e12)
   have HK3:=Hd.mk ((below2 HK1.out).trans (hK3.mono (below2 HK1.out).size))
   clear hK3 p1
   go_wp2
   go_ret
   exact⟨ret_b (by rw[HS.out]<;>simp),HK3.out⟩
  ·go_enter Tryz.func189,Tryz.ntmps189
   go_wp2_with fail
   refine(HI.out _ (by go_grown) _ (rowAt w _ 1)).mono ?_
   rintro e v1 ⟨rfl,hK1⟩
   have e10:v1.cell? ⟨w.heap.size,0,none⟩=some (.int .i64 (k:Int)):=(hK1.cell (p:=⟨w.heap.size,0,none⟩) (by first | (simp;done) | (simp;omega))).trans (by simp[go_sem])
   have e11:v1.cell? ⟨w.heap.size,1,none⟩=some (.string x.from_):=(hK1.cell (p:=⟨w.heap.size,1,none⟩) (by first | (simp;done) | (simp;omega))).trans (by simp[go_sem])
   have e12:v1.cell? ⟨w.heap.size,2,none⟩=some (.slice pp x.pieces.length pc):=(hK1.cell (p:=⟨w.heap.size,2,none⟩) (by first | (simp;done) | (simp;omega))).trans (by simp[go_sem])
   have e13:v1.cell? ⟨w.heap.size,3,none⟩=some (.int .i64 x.code):=(hK1.cell (p:=⟨w.heap.size,3,none⟩) (by first | (simp;done) | (simp;omega))).trans (by simp[go_sem])
   have HK1:=Hd.mk ((show Below w.heap.size w _ by go_grown).trans (hK1.mono (by first | (simp;done) | (simp;omega))))
   have HL1:Hd (w.heap.size<v1.heap.size):=⟨by have:=hK1.size;simp at this;omega⟩
   clear hK1 c0 c1 c2 c3 c4 c5 c6 c7 c8 c9 c10
   obtain⟨g10,g11,g12,g13,g14,g15,g16,g17,g18,g19,g110⟩:=HB.out.below HK1.out
   have z1:=(HK1.out.cell (p:=⟨g,of+k*6+3,none⟩) HG.out).trans HZ.out
   have p1:∀o1 o2,((v1.alloc o1).alloc o2).cell? ⟨w.heap.size,2,none⟩=some (.slice pp x.pieces.length pc):=fun o1 o2=>((below2 (Below.refl v1.heap.size v1)).cell (p:=⟨w.heap.size,2,none⟩) HL1.out).trans e12
   go_wp2_with fail
   refine Calls.mono (HE.out _ (below2 HK1.out) (v1.heap.size+1) v1.heap.size ?_ ?_) ?_
   ·simp[go_sem]
   ·simp[go_sem]
   rintro e v3 ⟨rfl,hK3⟩
   have e32:v3.cell? ⟨w.heap.size,2,none⟩=some (.slice pp x.pieces.length pc):=(hK3.cell (p:=⟨w.heap.size,2,none⟩) (by have:=HL1.out;simp;omega)).trans (((below2 (Below.refl v1.heap.size v1)).cell (p:=⟨w.heap.size,2,none⟩) HL1.out).trans e12)
   have HK3:=Hd.mk ((below2 HK1.out).trans (hK3.mono (below2 HK1.out).size))
   clear hK3 p1
   go_wp2_with fail
   refine(HP.out _ HK3.out HQ.out).mono ?_
   rintro e v4 ⟨rfl,hK4⟩
   have HK4:=Hd.mk (HK3.out.trans (hK4.mono HK3.out.size))
   clear hK4
   go_wp2
   go_ret
   exact⟨ret_b (by rw[HS.out]<;>simp),HK4.out⟩
theorem ocnv1_sym (w:World) (o:Ob) (x1 x2 x3 x4 x5 x6 x7 x8 x9 x10:Value) (b:Nat) (hb:ObC w b o x1 x2 x3 x4 x5 x6 x7 x8 x9 x10) (hA:o.At w x1 x2 x3 x4 x5 x6 x7 x8 x9 x10) (hk:o.Ok) (x:Cnv) (hx:x.Ok) (pp:Option Addr) (pc:Nat) (hxp:Rw 3 Pce.E w (.slice pp x.pieces.length pc) x.pieces) (k:Nat) (hsec:x.sec=(k:Int)) (hk1:k<o.secs.length) (l32:((x.from_.size:Int) !=32)=false) (cm:(x.code != -1)=true):
 Calls Tryz.prog 189 #[.agg #[.int .i64 (k:Int), .string x.from_, .slice pp x.pieces.length pc, .int .i64 x.code], .pointer (some ⟨b,0,none⟩)] w fun e w'=>e= .returned (.bool (cnvB o x))∧Below w.heap.size w w':=by
 have hI:=(fun(w1:World) (h:Below w.heap.size w w1) (kv:Value) (hr:Rw 1 intE w1 kv [1])=>ois_any w1 o x1 x2 x3 x4 x5 x6 x7 x8 x9 x10 (k:Int) kv [1] (hA.below h) hk.secs hr (by unfold lenR;decide))
 obtain⟨Z,hZ⟩:∃Z,sizeAt o x.sec=Z:=⟨_,rfl⟩
 have hZ64:I64 Z:=hZ▸sizeAt_ok' hk _
 have hS:cnvB o x=(isB o k [1]&&decide (x.from_.size=32)&&(decide (x.code= -1) || symKB o x.code 0)&&x.pieces.all (pceB Z)&&pairsB pceOrd x.pieces):=by
  unfold cnvB;rw[hZ,hsec]
 obtain⟨q0,h0⟩:∃q,isB o k [1]=q:=⟨_,rfl⟩
 rw[h0] at hI hS
 have HI:=Hd.mk hI
 clear hI h0
 have hd32:decide (x.from_.size=32)=true:=decide_eq_true (by have:=l32;simp at this;omega)
 rw[hd32] at hS
 rw[decide_eq_false (show ¬x.code= -1 by simpa using cm)] at hS
 have hY:=(fun(w1:World) (h:Below w.heap.size w w1)=>osym_any w1 o x1 x2 x3 x4 x5 x6 x7 x8 x9 x10 x.code 0 (hA.below h) hk.syms)
 obtain⟨qs,hs⟩:∃q,symKB o x.code 0=q:=⟨_,rfl⟩
 rw[hs] at hY hS
 have HY:=Hd.mk hY
 clear hY hs
 have hE:=(fun(w1:World) (h:Below w.heap.size w w1) (bf bz:Nat) (hf:w1.cell? ⟨bf,0,none⟩=some (.func (.func 190) #[] #[])) (hc:w1.cell? ⟨bz,0,none⟩=some (.int .i64 Z))=>evPce_any w1 (.slice pp x.pieces.length pc) 192 #[.pointer (some ⟨bf,0,none⟩), .pointer (some ⟨bz,0,none⟩)] (hxp.below Pce.stays h) Pce.stays (fun _ _ _ h=>by cases h;rfl) hx.pieces
  (show FnV aggA Pce.E (fun y=> .bool (pceB Z y)) x.pieces w1 192 #[.pointer (some ⟨bf,0,none⟩), .pointer (some ⟨bz,0,none⟩)] from⟨enters_of Tryz.func192 rfl rfl,fun y hy w2 h2 cs hcs=>by
   cases hcs
   exact opce_any w2 y (hx.piecesI y hy) bf bz Z hZ64 ((h2.cell (p:=⟨bf,0,none⟩) (World.block_lt_of_cell? _ _ hf)).trans hf) ((h2.cell (p:=⟨bz,0,none⟩) (World.block_lt_of_cell? _ _ hc)).trans hc)⟩))
 have hP:=(fun(w1:World) (h:Below w.heap.size w w1) (hall:x.pieces.all (pceB Z)=true)=>prPce_any w1 (.slice pp x.pieces.length pc) 194 #[] (hxp.below Pce.stays h) Pce.stays hx.pieces
  (show FnV2 aggA Pce.E pceOrd x.pieces w1 194 #[] from⟨enters_of Tryz.func194 rfl rfl,fun y hy y2 hy2 w2 h2 cs ds hcs hds=>by
   cases hcs;cases hds
   exact ocnv13_any w2 y y2 (hx.piecesI y hy) (pce_sum hall hZ64 hy (hx.piecesI y hy))⟩))
 obtain⟨q1,h1⟩:∃q,x.pieces.all (pceB Z)=q:=⟨_,rfl⟩
 obtain⟨q2,h2⟩:∃q,pairsB pceOrd x.pieces=q:=⟨_,rfl⟩
 rw[h1] at hE hS
 rw[h2] at hP hS
 have HE:=Hd.mk hE
 have HP:=Hd.mk hP
 have HQ:=Hd.mk h1
 clear hE hP h1 h2
 have hst:=fun(a:Addr) (m:Mode) (w:World)=>run_store w (P:=Tryz.prog) a (.func (.func 190) #[] #[]) m rfl
 have HS:=Hd.mk hS
 clear hS hd32
 have hS0:=hA.secs
 obtain⟨p,c,rfl⟩:=hS0.slice
 obtain⟨g,of,cs,rfl,hg,hcl,hEc,hcc⟩:=hS0.at rfl (j:=k) hk1
 have hE':cs=(o.secs[k]).cells:=hEc
 subst hE'
 have hz:w.cell? ⟨g,of+k*6+3,none⟩=some (.int .i64 Z):=by
  rw[←hZ,hsec,sizeAt_in hk1];exact hcc 3 _ rfl
 have HZ:=Hd.mk hz
 have HG:=Hd.mk hg
 have HB:=Hd.mk hb
 obtain⟨N,hN⟩:∃N,o.secs.length=N:=⟨_,rfl⟩
 have i1:(0:Int)≤(k:Int):=by omega
 have i2:(k:Int)< (N:Int):=by omega
 rw[hN] at HI HB HY
 obtain⟨c0,c1,c2,c3,c4,c5,c6,c7,c8,c9,c10⟩:=HB.out.alloc (.cells #[.int .i64 (k:Int), .string x.from_, .slice pp x.pieces.length pc, .int .i64 x.code] 62)
 clear hb hS0 hcl hEc hcc hz hg hA hk hN hZ hZ64 hsec hk1
 rcases q0 with _ | _
 ·go_enter Tryz.func189,Tryz.ntmps189
  go_wp2_with fail
  refine(HI.out _ (by go_grown) _ (rowAt w _ 1)).mono ?_
  rintro e v1 ⟨rfl,hK1⟩
  have e10:v1.cell? ⟨w.heap.size,0,none⟩=some (.int .i64 (k:Int)):=(hK1.cell (p:=⟨w.heap.size,0,none⟩) (by first | (simp;done) | (simp;omega))).trans (by simp[go_sem])
  have e11:v1.cell? ⟨w.heap.size,1,none⟩=some (.string x.from_):=(hK1.cell (p:=⟨w.heap.size,1,none⟩) (by first | (simp;done) | (simp;omega))).trans (by simp[go_sem])
  have e12:v1.cell? ⟨w.heap.size,2,none⟩=some (.slice pp x.pieces.length pc):=(hK1.cell (p:=⟨w.heap.size,2,none⟩) (by first | (simp;done) | (simp;omega))).trans (by simp[go_sem])
  have e13:v1.cell? ⟨w.heap.size,3,none⟩=some (.int .i64 x.code):=(hK1.cell (p:=⟨w.heap.size,3,none⟩) (by first | (simp;done) | (simp;omega))).trans (by simp[go_sem])
  have HK1:=Hd.mk ((show Below w.heap.size w _ by go_grown).trans (hK1.mono (by first | (simp;done) | (simp;omega))))
  have HL1:Hd (w.heap.size<v1.heap.size):=⟨by have:=hK1.size;simp at this;omega⟩
  clear hK1 c0 c1 c2 c3 c4 c5 c6 c7 c8 c9 c10
  go_wp2
  go_ret
  exact⟨ret_b (by rw[HS.out]<;>simp),HK1.out⟩
 ·rcases qs with _ | _
  ·go_enter Tryz.func189,Tryz.ntmps189
   go_wp2_with fail
   refine(HI.out _ (by go_grown) _ (rowAt w _ 1)).mono ?_
   rintro e v1 ⟨rfl,hK1⟩
   have e10:v1.cell? ⟨w.heap.size,0,none⟩=some (.int .i64 (k:Int)):=(hK1.cell (p:=⟨w.heap.size,0,none⟩) (by first | (simp;done) | (simp;omega))).trans (by simp[go_sem])
   have e11:v1.cell? ⟨w.heap.size,1,none⟩=some (.string x.from_):=(hK1.cell (p:=⟨w.heap.size,1,none⟩) (by first | (simp;done) | (simp;omega))).trans (by simp[go_sem])
   have e12:v1.cell? ⟨w.heap.size,2,none⟩=some (.slice pp x.pieces.length pc):=(hK1.cell (p:=⟨w.heap.size,2,none⟩) (by first | (simp;done) | (simp;omega))).trans (by simp[go_sem])
   have e13:v1.cell? ⟨w.heap.size,3,none⟩=some (.int .i64 x.code):=(hK1.cell (p:=⟨w.heap.size,3,none⟩) (by first | (simp;done) | (simp;omega))).trans (by simp[go_sem])
   have HK1:=Hd.mk ((show Below w.heap.size w _ by go_grown).trans (hK1.mono (by first | (simp;done) | (simp;omega))))
   have HL1:Hd (w.heap.size<v1.heap.size):=⟨by have:=hK1.size;simp at this;omega⟩
   clear hK1 c0 c1 c2 c3 c4 c5 c6 c7 c8 c9 c10
   obtain⟨g10,g11,g12,g13,g14,g15,g16,g17,g18,g19,g110⟩:=HB.out.below HK1.out
   have z1:=(HK1.out.cell (p:=⟨g,of+k*6+3,none⟩) HG.out).trans HZ.out
   go_wp2_with fail
   refine(HY.out _ HK1.out).mono ?_
   rintro e v2 ⟨rfl,hK2⟩
   have e20:v2.cell? ⟨w.heap.size,0,none⟩=some (.int .i64 (k:Int)):=(hK2.cell (p:=⟨w.heap.size,0,none⟩) HL1.out).trans e10
   have e21:v2.cell? ⟨w.heap.size,1,none⟩=some (.string x.from_):=(hK2.cell (p:=⟨w.heap.size,1,none⟩) HL1.out).trans e11
   have e22:v2.cell? ⟨w.heap.size,2,none⟩=some (.slice pp x.pieces.length pc):=(hK2.cell (p:=⟨w.heap.size,2,none⟩) HL1.out).trans e12
   have e23:v2.cell? ⟨w.heap.size,3,none⟩=some (.int .i64 x.code):=(hK2.cell (p:=⟨w.heap.size,3,none⟩) HL1.out).trans e13
   have HK2:=Hd.mk (HK1.out.trans (hK2.mono HK1.out.size))
   have HL2:Hd (w.heap.size<v2.heap.size):=⟨Nat.lt_of_lt_of_le HL1.out hK2.size⟩
   clear hK2 e10 e11 e12 e13 z1 g10 g11 g12 g13 g14 g15 g16 g17 g18 g19 g110
   obtain⟨g20,g21,g22,g23,g24,g25,g26,g27,g28,g29,g210⟩:=HB.out.below HK2.out
   have z2:=(HK2.out.cell (p:=⟨g,of+k*6+3,none⟩) HG.out).trans HZ.out
   go_wp2
   go_ret
   exact⟨ret_b (by rw[HS.out]<;>simp),HK2.out⟩
  ·rcases q1 with _ | _
   ·go_enter Tryz.func189,Tryz.ntmps189
    go_wp2_with fail
    refine(HI.out _ (by go_grown) _ (rowAt w _ 1)).mono ?_
    rintro e v1 ⟨rfl,hK1⟩
    have e10:v1.cell? ⟨w.heap.size,0,none⟩=some (.int .i64 (k:Int)):=(hK1.cell (p:=⟨w.heap.size,0,none⟩) (by first | (simp;done) | (simp;omega))).trans (by simp[go_sem])
    have e11:v1.cell? ⟨w.heap.size,1,none⟩=some (.string x.from_):=(hK1.cell (p:=⟨w.heap.size,1,none⟩) (by first | (simp;done) | (simp;omega))).trans (by simp[go_sem])
    have e12:v1.cell? ⟨w.heap.size,2,none⟩=some (.slice pp x.pieces.length pc):=(hK1.cell (p:=⟨w.heap.size,2,none⟩) (by first | (simp;done) | (simp;omega))).trans (by simp[go_sem])
    have e13:v1.cell? ⟨w.heap.size,3,none⟩=some (.int .i64 x.code):=(hK1.cell (p:=⟨w.heap.size,3,none⟩) (by first | (simp;done) | (simp;omega))).trans (by simp[go_sem])
    have HK1:=Hd.mk ((show Below w.heap.size w _ by go_grown).trans (hK1.mono (by first | (simp;done) | (simp;omega))))
    have HL1:Hd (w.heap.size<v1.heap.size):=⟨by have:=hK1.size;simp at this;omega⟩
    clear hK1 c0 c1 c2 c3 c4 c5 c6 c7 c8 c9 c10
    obtain⟨g10,g11,g12,g13,g14,g15,g16,g17,g18,g19,g110⟩:=HB.out.below HK1.out
    have z1:=(HK1.out.cell (p:=⟨g,of+k*6+3,none⟩) HG.out).trans HZ.out
    go_wp2_with fail
    refine(HY.out _ HK1.out).mono ?_
    rintro e v2 ⟨rfl,hK2⟩
    have e20:v2.cell? ⟨w.heap.size,0,none⟩=some (.int .i64 (k:Int)):=(hK2.cell (p:=⟨w.heap.size,0,none⟩) HL1.out).trans e10
    have e21:v2.cell? ⟨w.heap.size,1,none⟩=some (.string x.from_):=(hK2.cell (p:=⟨w.heap.size,1,none⟩) HL1.out).trans e11
    have e22:v2.cell? ⟨w.heap.size,2,none⟩=some (.slice pp x.pieces.length pc):=(hK2.cell (p:=⟨w.heap.size,2,none⟩) HL1.out).trans e12
    have e23:v2.cell? ⟨w.heap.size,3,none⟩=some (.int .i64 x.code):=(hK2.cell (p:=⟨w.heap.size,3,none⟩) HL1.out).trans e13
    have HK2:=Hd.mk (HK1.out.trans (hK2.mono HK1.out.size))
    have HL2:Hd (w.heap.size<v2.heap.size):=⟨Nat.lt_of_lt_of_le HL1.out hK2.size⟩
    clear hK2 e10 e11 e12 e13 z1 g10 g11 g12 g13 g14 g15 g16 g17 g18 g19 g110
    obtain⟨g20,g21,g22,g23,g24,g25,g26,g27,g28,g29,g210⟩:=HB.out.below HK2.out
    have z2:=(HK2.out.cell (p:=⟨g,of+k*6+3,none⟩) HG.out).trans HZ.out
    have p2:∀o1 o2,((v2.alloc o1).alloc o2).cell? ⟨w.heap.size,2,none⟩=some (.slice pp x.pieces.length pc):=fun o1 o2=>((below2 (Below.refl v2.heap.size v2)).cell (p:=⟨w.heap.size,2,none⟩) HL2.out).trans e22
    go_wp2_with fail
    refine Calls.mono (HE.out _ (below2 HK2.out) (v2.heap.size+1) v2.heap.size ?_ ?_) ?_
    ·simp[go_sem]
    ·simp[go_sem]
    rintro e v3 ⟨rfl,hK3⟩
    have e32:v3.cell? ⟨w.heap.size,2,none⟩=some (.slice pp x.pieces.length pc):=(hK3.cell (p:=⟨w.heap.size,2,none⟩) (by have:=HL2.out;simp;omega)).trans (((below2 (Below.refl v2.heap.size v2)).cell (p:=⟨w.heap.size,2,none⟩) HL2.out).trans e22)
    have HK3:=Hd.mk ((below2 HK2.out).trans (hK3.mono (below2 HK2.out).size))
    clear hK3 p2
    go_wp2
    go_ret
    exact⟨ret_b (by rw[HS.out]<;>simp),HK3.out⟩
   ·go_enter Tryz.func189,Tryz.ntmps189
    go_wp2_with fail
    refine(HI.out _ (by go_grown) _ (rowAt w _ 1)).mono ?_
    rintro e v1 ⟨rfl,hK1⟩
    have e10:v1.cell? ⟨w.heap.size,0,none⟩=some (.int .i64 (k:Int)):=(hK1.cell (p:=⟨w.heap.size,0,none⟩) (by first | (simp;done) | (simp;omega))).trans (by simp[go_sem])
    have e11:v1.cell? ⟨w.heap.size,1,none⟩=some (.string x.from_):=(hK1.cell (p:=⟨w.heap.size,1,none⟩) (by first | (simp;done) | (simp;omega))).trans (by simp[go_sem])
    have e12:v1.cell? ⟨w.heap.size,2,none⟩=some (.slice pp x.pieces.length pc):=(hK1.cell (p:=⟨w.heap.size,2,none⟩) (by first | (simp;done) | (simp;omega))).trans (by simp[go_sem])
    have e13:v1.cell? ⟨w.heap.size,3,none⟩=some (.int .i64 x.code):=(hK1.cell (p:=⟨w.heap.size,3,none⟩) (by first | (simp;done) | (simp;omega))).trans (by simp[go_sem])
    have HK1:=Hd.mk ((show Below w.heap.size w _ by go_grown).trans (hK1.mono (by first | (simp;done) | (simp;omega))))
    have HL1:Hd (w.heap.size<v1.heap.size):=⟨by have:=hK1.size;simp at this;omega⟩
    clear hK1 c0 c1 c2 c3 c4 c5 c6 c7 c8 c9 c10
    obtain⟨g10,g11,g12,g13,g14,g15,g16,g17,g18,g19,g110⟩:=HB.out.below HK1.out
    have z1:=(HK1.out.cell (p:=⟨g,of+k*6+3,none⟩) HG.out).trans HZ.out
    go_wp2_with fail
    refine(HY.out _ HK1.out).mono ?_
    rintro e v2 ⟨rfl,hK2⟩
    have e20:v2.cell? ⟨w.heap.size,0,none⟩=some (.int .i64 (k:Int)):=(hK2.cell (p:=⟨w.heap.size,0,none⟩) HL1.out).trans e10
    have e21:v2.cell? ⟨w.heap.size,1,none⟩=some (.string x.from_):=(hK2.cell (p:=⟨w.heap.size,1,none⟩) HL1.out).trans e11
    have e22:v2.cell? ⟨w.heap.size,2,none⟩=some (.slice pp x.pieces.length pc):=(hK2.cell (p:=⟨w.heap.size,2,none⟩) HL1.out).trans e12
    have e23:v2.cell? ⟨w.heap.size,3,none⟩=some (.int .i64 x.code):=(hK2.cell (p:=⟨w.heap.size,3,none⟩) HL1.out).trans e13
    have HK2:=Hd.mk (HK1.out.trans (hK2.mono HK1.out.size))
    have HL2:Hd (w.heap.size<v2.heap.size):=⟨Nat.lt_of_lt_of_le HL1.out hK2.size⟩
    clear hK2 e10 e11 e12 e13 z1 g10 g11 g12 g13 g14 g15 g16 g17 g18 g19 g110
    obtain⟨g20,g21,g22,g23,g24,g25,g26,g27,g28,g29,g210⟩:=HB.out.below HK2.out
    have z2:=(HK2.out.cell (p:=⟨g,of+k*6+3,none⟩) HG.out).trans HZ.out
    have p2:∀o1 o2,((v2.alloc o1).alloc o2).cell? ⟨w.heap.size,2,none⟩=some (.slice pp x.pieces.length pc):=fun o1 o2=>((below2 (Below.refl v2.heap.size v2)).cell (p:=⟨w.heap.size,2,none⟩) HL2.out).trans e22
    go_wp2_with fail
    refine Calls.mono (HE.out _ (below2 HK2.out) (v2.heap.size+1) v2.heap.size ?_ ?_) ?_
    ·simp[go_sem]
    ·simp[go_sem]
    rintro e v3 ⟨rfl,hK3⟩
    have e32:v3.cell? ⟨w.heap.size,2,none⟩=some (.slice pp x.pieces.length pc):=(hK3.cell (p:=⟨w.heap.size,2,none⟩) (by have:=HL2.out;simp;omega)).trans (((below2 (Below.refl v2.heap.size v2)).cell (p:=⟨w.heap.size,2,none⟩) HL2.out).trans e22)
    have HK3:=Hd.mk ((below2 HK2.out).trans (hK3.mono (below2 HK2.out).size))
    clear hK3 p2
    go_wp2_with fail
    refine(HP.out _ HK3.out HQ.out).mono ?_
    rintro e v4 ⟨rfl,hK4⟩
    have HK4:=Hd.mk (HK3.out.trans (hK4.mono HK3.out.size))
    clear hK4
    go_wp2
    go_ret
    exact⟨ret_b (by rw[HS.out]<;>simp),HK4.out⟩
end Go.Proofs.YtfaepbjnpakghaaGreatDoor.W
