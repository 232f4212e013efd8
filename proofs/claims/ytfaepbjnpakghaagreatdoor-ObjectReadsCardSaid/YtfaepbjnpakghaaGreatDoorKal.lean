import Derived.Test.YtfaepbjnpakghaaGreatDoorKad
import Derived.Test.YtfaepbjnpakghaaGreatDoorKCld
import Derived.Test.YtfaepbjnpakghaaGreatDoorKClg
import Derived.Test.YtfaepbjnpakghaaGreatDoorKah
import Derived.Test.YtfaepbjnpakghaaGreatDoorKCli
import Derived.Test.YtfaepbjnpakghaaGreatDoorKDs
import Derived.Test.YtfaepbjnpakghaaGreatDoorKMe
import Derived.Test.YtfaepbjnpakghaaGreatDoorKPv1
import Derived.Test.YtfaepbjnpakghaaGreatDoorKae
import Derived.Test.YtfaepbjnpakghaaGreatDoorKPv4
/- The walks of the methods vars, converts, secs, syms (printed by tools/gen_cls.py). -/
namespace Go.Proofs.YtfaepbjnpakghaaGreatDoor.W
open Go.RowKit
set_option linter.unusedVariables false
open Go.Maps Go.WideMaps
theorem ovars_any (w:World) (o:Ob) (x1 x2 x3 x4 x5 x6 x7 x8 x9 x10:Value) (hA:o.At w x1 x2 x3 x4 x5 x6 x7 x8 x9 x10) (hk:o.Ok):
 Calls Tryz.prog 74 #[.agg (o.arr x1 x2 x3 x4 x5 x6 x7 x8 x9 x10)] w fun e w'=>e= .returned (.bool (varsB o))∧Below w.heap.size w w':=by
 have hS:varsB o=(o.vars.all (vrrB o)&&pairsB vrrOrd o.vars):=by
  rfl
 have hc0:=(fun(w1:World) (h:Below w.heap.size w w1) (hO:ObC w1 w.heap.size o x1 x2 x3 x4 x5 x6 x7 x8 x9 x10)=>evVrr_any w1 x8 180 #[.pointer (some ⟨w.heap.size,0,none⟩)] (hA.below h).vars Vrr.stays (fun _ _ _ h=>by cases h;rfl) hk.vars (fnv_vars w1 o x1 x2 x3 x4 x5 x6 x7 x8 x9 x10 w.heap.size hO (hA.below h) hk))
 have hc1:=(fun(w1:World) (h:Below w.heap.size w w1)=>prVrr_any w1 x8 181 #[] (hA.below h).vars Vrr.stays hk.vars ⟨enters_of Tryz.func181 rfl rfl,fun x hx y hy w' hb cs ds hE hD=>by cases hE;cases hD;exact ovar2_any w' x y⟩)
 obtain⟨q0,h0⟩:∃q,(o.vars.all (vrrB o))=q:=⟨_,rfl⟩
 rw[h0] at hc0 hS
 have HC0:=Hd.mk hc0
 have HQ0:=Hd.mk h0
 clear hc0 h0
 obtain⟨q1,h1⟩:∃q,(pairsB vrrOrd o.vars)=q:=⟨_,rfl⟩
 rw[h1] at hc1 hS
 have HC1:=Hd.mk hc1
 have HQ1:=Hd.mk h1
 clear hc1 h1
 have HS:=Hd.mk hS
 clear hS
 unfold Ob.arr
 go_enter Tryz.func74,Tryz.ntmps74
 go_wp2_with fail
 refine(HC0.out _ (by go_grown) (ObC.new w o x1 x2 x3 x4 x5 x6 x7 x8 x9 x10)).mono ?_
 rintro e v1 ⟨rfl,hK⟩
 have HX1:Hd (CellsAt w.heap.size [.string o.name,x1,x2,x3,x4,x5,x6,x7,x8,x9,x10] v1):=⟨(CellsAt.new w [.string o.name,x1,x2,x3,x4,x5,x6,x7,x8,x9,x10] 113).below hK⟩
 obtain⟨e0,e1,e2,e3,e4,e5,e6,e7,e8,e9,e10⟩:=cells11 HX1.out
 have HK1:=Hd.mk ((show Below w.heap.size w _ by go_grown).trans (hK.mono (by first | (simp;done) | (simp;omega))))
 clear hK
 rcases q0 with _ | _
 ·go_wp2
  go_ret
  exact⟨ret_b (by rw[HS.out]<;>simp),HK1.out⟩
 go_wp2_with fail
 refine(HC1.out _ HK1.out).mono ?_
 rintro e v2 ⟨rfl,hK⟩
 have HX2:Hd (CellsAt w.heap.size [.string o.name,x1,x2,x3,x4,x5,x6,x7,x8,x9,x10] v2):=⟨HX1.out.below hK⟩
 clear e0 e1 e2 e3 e4 e5 e6 e7 e8 e9 e10
 obtain⟨e0,e1,e2,e3,e4,e5,e6,e7,e8,e9,e10⟩:=cells11 HX2.out
 have HK2:=Hd.mk (HK1.out.trans (hK.mono HK1.out.size))
 clear hK
 rcases q1 with _ | _
 ·go_wp2
  go_ret
  exact⟨ret_b (by rw[HS.out]<;>simp),HK2.out⟩
 go_wp2
 go_ret
 exact⟨ret_b (by rw[HS.out]<;>simp),HK2.out⟩
theorem ocnv1_any (w:World) (o:Ob) (x1 x2 x3 x4 x5 x6 x7 x8 x9 x10:Value) (b:Nat) (hb:ObC w b o x1 x2 x3 x4 x5 x6 x7 x8 x9 x10) (hA:o.At w x1 x2 x3 x4 x5 x6 x7 x8 x9 x10) (hk:o.Ok) (x:Cnv) (hx:x.Ok) (cs:List Value) (hE:Cnv.E w cs x):
 Calls Tryz.prog 189 #[aggA cs, .pointer (some ⟨b,0,none⟩)] w fun e w'=>e= .returned (.bool (cnvB o x))∧Below w.heap.size w w':=by
 obtain⟨pv,rfl,hAt⟩:=hE
 have hxp:=hAt.pieces
 obtain⟨pp,pc,rfl⟩:=hxp.slice
 show Calls Tryz.prog 189 #[.agg #[.int .i64 x.sec, .string x.from_, .slice pp x.pieces.length pc, .int .i64 x.code], .pointer (some ⟨b,0,none⟩)] w _
 by_cases hin:0≤x.sec∧x.sec< (o.secs.length:Int)
 ·obtain⟨k,hsec⟩:=Int.eq_ofNat_of_zero_le hin.1
  rw[hsec]
  rcases l32:((x.from_.size:Int) !=32) with _ | _
  ·rcases cm:(x.code != -1) with _ | _
   ·exact ocnv1_m1 w o x1 x2 x3 x4 x5 x6 x7 x8 x9 x10 b hb hA hk x hx pp pc hxp k hsec (by omega) l32 cm
   ·exact ocnv1_sym w o x1 x2 x3 x4 x5 x6 x7 x8 x9 x10 b hb hA hk x hx pp pc hxp k hsec (by omega) l32 cm
  ·exact ocnv1_bad w o x1 x2 x3 x4 x5 x6 x7 x8 x9 x10 b hb hA hk x hx pp pc hxp k hsec (by omega) l32
 ·exact ocnv1_out w o x1 x2 x3 x4 x5 x6 x7 x8 x9 x10 b hb hA hk x hx pp pc hxp hin
theorem fnv_converts (w:World) (o:Ob) (x1 x2 x3 x4 x5 x6 x7 x8 x9 x10:Value) (b:Nat) (hb:ObC w b o x1 x2 x3 x4 x5 x6 x7 x8 x9 x10) (hA:o.At w x1 x2 x3 x4 x5 x6 x7 x8 x9 x10) (hk:o.Ok):FnV aggA Cnv.E (fun x=> .bool (cnvB o x)) o.converts w 189 #[.pointer (some ⟨b,0,none⟩)]:=
 ⟨enters_of Tryz.func189 rfl rfl,fun x hx w' hb' cs hE=>ocnv1_any w' o x1 x2 x3 x4 x5 x6 x7 x8 x9 x10 b (hb.below hb') (hA.below hb') hk x (hk.convertsI x hx) cs hE⟩
theorem ocnv2E_any (w:World) (x y:Cnv) (hx:x.Ok) (hy:y.Ok) (cs ds:List Value) (hE:Cnv.E w cs x) (hD:Cnv.E w ds y):
 Calls Tryz.prog 195 #[aggA cs,aggA ds] w fun e w'=>e= .returned (.bool (cnvOrd x y))∧Below w.heap.size w w':=by
 obtain⟨pv,rfl,hAt⟩:=hE
 obtain⟨qv,rfl,hBt⟩:=hD
 obtain⟨p1,c1,h1⟩:=hAt.pieces.slice
 obtain⟨p2,c2,h2⟩:=hBt.pieces.slice
 exact ocnv2_any w x y hx hy pv qv ⟨_,_,_,h1⟩ ⟨_,_,_,h2⟩
theorem cnv_len (w:World) (cs:List Value) (x:Cnv) (h:Cnv.E w cs x):cs.length=4:=by
 obtain⟨pv,rfl,_⟩:=h;rfl
theorem oconverts_any (w:World) (o:Ob) (x1 x2 x3 x4 x5 x6 x7 x8 x9 x10:Value) (hA:o.At w x1 x2 x3 x4 x5 x6 x7 x8 x9 x10) (hk:o.Ok):
 Calls Tryz.prog 76 #[.agg (o.arr x1 x2 x3 x4 x5 x6 x7 x8 x9 x10)] w fun e w'=>e= .returned (.bool (convertsB o))∧Below w.heap.size w w':=by
 have hS:convertsB o=(o.converts.all (cnvB o)&&pairsB cnvOrd o.converts):=by
  rfl
 have hc0:=(fun(w1:World) (h:Below w.heap.size w w1) (hO:ObC w1 w.heap.size o x1 x2 x3 x4 x5 x6 x7 x8 x9 x10)=>evCnv_any w1 x10 189 #[.pointer (some ⟨w.heap.size,0,none⟩)] (hA.below h).converts Cnv.stays cnv_len hk.converts (fnv_converts w1 o x1 x2 x3 x4 x5 x6 x7 x8 x9 x10 w.heap.size hO (hA.below h) hk))
 have hc1:=(fun(w1:World) (h:Below w.heap.size w w1)=>prCnv_any w1 x10 195 #[] (hA.below h).converts Cnv.stays hk.converts ⟨enters_of Tryz.func195 rfl rfl,fun x hx y hy w' hb cs ds hE hD=>by exact ocnv2E_any w' x y (hk.convertsI x hx) (hk.convertsI y hy) cs ds hE hD⟩)
 obtain⟨q0,h0⟩:∃q,(o.converts.all (cnvB o))=q:=⟨_,rfl⟩
 rw[h0] at hc0 hS
 have HC0:=Hd.mk hc0
 have HQ0:=Hd.mk h0
 clear hc0 h0
 obtain⟨q1,h1⟩:∃q,(pairsB cnvOrd o.converts)=q:=⟨_,rfl⟩
 rw[h1] at hc1 hS
 have HC1:=Hd.mk hc1
 have HQ1:=Hd.mk h1
 clear hc1 h1
 have HS:=Hd.mk hS
 clear hS
 unfold Ob.arr
 go_enter Tryz.func76,Tryz.ntmps76
 go_wp2_with fail
 refine(HC0.out _ (by go_grown) (ObC.new w o x1 x2 x3 x4 x5 x6 x7 x8 x9 x10)).mono ?_
 rintro e v1 ⟨rfl,hK⟩
 have HX1:Hd (CellsAt w.heap.size [.string o.name,x1,x2,x3,x4,x5,x6,x7,x8,x9,x10] v1):=⟨(CellsAt.new w [.string o.name,x1,x2,x3,x4,x5,x6,x7,x8,x9,x10] 113).below hK⟩
 obtain⟨e0,e1,e2,e3,e4,e5,e6,e7,e8,e9,e10⟩:=cells11 HX1.out
 have HK1:=Hd.mk ((show Below w.heap.size w _ by go_grown).trans (hK.mono (by first | (simp;done) | (simp;omega))))
 clear hK
 rcases q0 with _ | _
 ·go_wp2
  go_ret
  exact⟨ret_b (by rw[HS.out]<;>simp),HK1.out⟩
 go_wp2_with fail
 refine(HC1.out _ HK1.out).mono ?_
 rintro e v2 ⟨rfl,hK⟩
 have HX2:Hd (CellsAt w.heap.size [.string o.name,x1,x2,x3,x4,x5,x6,x7,x8,x9,x10] v2):=⟨HX1.out.below hK⟩
 clear e0 e1 e2 e3 e4 e5 e6 e7 e8 e9 e10
 obtain⟨e0,e1,e2,e3,e4,e5,e6,e7,e8,e9,e10⟩:=cells11 HX2.out
 have HK2:=Hd.mk (HK1.out.trans (hK.mono HK1.out.size))
 clear hK
 rcases q1 with _ | _
 ·go_wp2
  go_ret
  exact⟨ret_b (by rw[HS.out]<;>simp),HK2.out⟩
 go_wp2
 go_ret
 exact⟨ret_b (by rw[HS.out]<;>simp),HK2.out⟩
theorem dist_str {α:Type} (f:α→ByteArray) (l:List α):(l.map fun x=>Lit.string (f x).data.toList).Nodup↔distB f l=true:=by
 unfold distB
 rw[decide_eq_true_eq]
 have e:(l.map fun x=>Lit.string (f x).data.toList)=(l.map f).map fun s=>Lit.string s.data.toList:=by rw[List.map_map];rfl
 rw[e]
 constructor
 ·intro h
  exact List.Pairwise.of_map _ (fun a b hne e=>hne (by rw[e])) h
 ·intro h
  exact List.Pairwise.map _ (fun a b hne=>fun he=>hne (by injection he with he;exact ByteArray.ext (Array.toList_inj.1 he))) h
theorem wf64 {x:Int} (h:I64 x):(Lit.int .i64 x).wf=true:=by
 have e1:IntKind.i64.min= -9223372036854775808:=by decide
 have e2:IntKind.i64.max=9223372036854775807:=by decide
 unfold I64 at h
 show(decide (IntKind.i64.min≤x)&&decide (x≤IntKind.i64.max))=true
 rw[e1,e2]
 simp[h.1,h.2]
theorem osecsD_any (w:World) (v:Value) (l:List Sec) (hR:Rw 6 Sec.E w v l) (hl:lenR l.length) (hk:∀x∈l,x.Ok):
 Calls Tryz.prog 145 #[v, .func (.func 146) #[] #[]] w fun e w'=>e= .returned (.bool (distB Sec.name l))∧Below w.heap.size w w':=
 (dsSec_any (kv:=fun x=> .string x.name) (kf:=fun x=> .string x.name.data.toList) w v 146 #[] hR hl ⟨enters_of Tryz.func146 rfl rfl,fun x hx w' hb cs hE=>by cases hE;exact osec2_any w' x⟩
  (fun x hx=>keyOf_string_mk Tryz.underlying9 (Nat.le_trans (hk x hx).name (by decide)))).mono (fun e w' h=>by
   obtain⟨⟨r,rfl,hr⟩,hb⟩:=h
   refine⟨ret_b ?_,hb⟩
   rw[Bool.eq_iff_iff,hr]
   exact dist_str Sec.name l)
theorem ogrpD_any (w:World) (v:Value) (l:List Grp) (hR:Rw 2 Grp.E w v l) (hl:lenR l.length) (hk:∀x∈l,x.Ok):
 Calls Tryz.prog 163 #[v, .func (.func 164) #[] #[]] w fun e w'=>e= .returned (.bool (distB Grp.name l))∧Below w.heap.size w w':=
 (dsGrp_any (kv:=fun x=> .string x.name) (kf:=fun x=> .string x.name.data.toList) w v 164 #[] hR hl ⟨enters_of Tryz.func164 rfl rfl,fun x hx w' hb cs hE=>by
  obtain⟨sv,rfl,hAt⟩:=hE
  obtain⟨p,c,hv⟩:=hAt.secs.slice
  exact ogrp3_any w' x.name sv ⟨_,_,_,hv⟩⟩
  (fun x hx=>keyOf_string_mk Tryz.underlying9 (Nat.le_trans (hk x hx).name (by decide)))).mono (fun e w' h=>by
   obtain⟨⟨r,rfl,hr⟩,hb⟩:=h
   refine⟨ret_b ?_,hb⟩
   rw[Bool.eq_iff_iff,hr]
   exact dist_str Grp.name l)
theorem oidD_any (w:World) (v:Value) (l:List Int) (hR:Rw 1 intE w v l) (hl:lenR l.length) (hk:∀x∈l,I64 x):
 Calls Tryz.prog 165 #[v, .func (.func 166) #[] #[]] w fun e w'=>e= .returned (.bool (distB (fun s:Int=>s) l))∧Below w.heap.size w w':=
 (dsInt_any (kv:=fun x=> .int .i64 x) (kf:=fun x=> .int .i64 x) w v 166 #[] hR hl ⟨enters_of Tryz.func166 rfl rfl,fun x hx w' hb cs hE=>by cases hE;exact ogrp4_any w' x⟩
  (fun x hx=>keyOf_int_mk Tryz.underlying3 (wf64 (hk x hx)))).mono (fun e w' h=>by
   obtain⟨⟨r,rfl,hr⟩,hb⟩:=h
   refine⟨ret_b ?_,hb⟩
   rw[Bool.eq_iff_iff,hr]
   unfold distB
   rw[decide_eq_true_eq,List.map_id']
   constructor
   ·intro h;exact List.Pairwise.of_map _ (fun a b hne e=>hne (by rw[e])) h
   ·intro h;exact List.Pairwise.map _ (fun a b hne=>fun he=>hne (by injection he)) h)
theorem osecs_any (w:World) (o:Ob) (x1 x2 x3 x4 x5 x6 x7 x8 x9 x10:Value) (hA:o.At w x1 x2 x3 x4 x5 x6 x7 x8 x9 x10) (hk:o.Ok):
 Calls Tryz.prog 67 #[.agg (o.arr x1 x2 x3 x4 x5 x6 x7 x8 x9 x10)] w fun e w'=>e= .returned (.bool (secsB o))∧Below w.heap.size w w':=by
 have hS:secsB o=(decide ((o.secs.length:Int)≤1024)&&o.secs.all secB&&distB Sec.name o.secs):=by
  unfold secsB;rw[show decide ((o.secs.length:Int)≤1024)=decide (o.secs.length≤1024) by rw[Bool.eq_iff_iff];simp;omega]
 have hc1:=(fun(w1:World) (h:Below w.heap.size w w1)=>evSec_any (p:=secB) w1 x1 142 #[] (hA.below h).secs Sec.stays (fun _ _ _ h=>by cases h;rfl) hk.secs ⟨enters_of Tryz.func142 rfl rfl,fun x hx w' hb cs hE=>by cases hE;exact osec1_any w' x (hk.secsI x hx)⟩)
 have hc2:=(fun(w1:World) (h:Below w.heap.size w w1)=>osecsD_any w1 x1 o.secs (hA.below h).secs hk.secs hk.secsI)
 obtain⟨q0,h0⟩:∃q,(decide ((o.secs.length:Int)≤1024))=q:=⟨_,rfl⟩
 rw[h0] at hS
 obtain⟨q1,h1⟩:∃q,(o.secs.all secB)=q:=⟨_,rfl⟩
 rw[h1] at hc1 hS
 have HC1:=Hd.mk hc1
 have HQ1:=Hd.mk h1
 clear hc1 h1
 obtain⟨q2,h2⟩:∃q,(distB Sec.name o.secs)=q:=⟨_,rfl⟩
 rw[h2] at hc2 hS
 have HC2:=Hd.mk hc2
 have HQ2:=Hd.mk h2
 clear hc2 h2
 have HS:=Hd.mk hS
 clear hS
 unfold Ob.arr
 obtain⟨p1,c1,hx1⟩:=hA.secs.slice
 subst hx1
 go_enter Tryz.func67,Tryz.ntmps67
 rcases q0 with _ | _
 ·go_wp2
  go_ret
  exact⟨ret_b (by rw[HS.out]<;>simp),by go_grown⟩
 go_wp2_with fail
 refine(HC1.out _ (by go_grown)).mono ?_
 rintro e v1 ⟨rfl,hK⟩
 have HX1:Hd (CellsAt w.heap.size [.string o.name, .slice p1 o.secs.length c1,x2,x3,x4,x5,x6,x7,x8,x9,x10] v1):=⟨(CellsAt.new w [.string o.name, .slice p1 o.secs.length c1,x2,x3,x4,x5,x6,x7,x8,x9,x10] 113).below hK⟩
 obtain⟨e0,e1,e2,e3,e4,e5,e6,e7,e8,e9,e10⟩:=cells11 HX1.out
 have HK1:=Hd.mk ((show Below w.heap.size w _ by go_grown).trans (hK.mono (by first | (simp;done) | (simp;omega))))
 clear hK
 rcases q1 with _ | _
 ·go_wp2
  go_ret
  exact⟨ret_b (by rw[HS.out]<;>simp),HK1.out⟩
 go_wp2_with fail
 refine(HC2.out _ HK1.out).mono ?_
 rintro e v2 ⟨rfl,hK⟩
 have HX2:Hd (CellsAt w.heap.size [.string o.name, .slice p1 o.secs.length c1,x2,x3,x4,x5,x6,x7,x8,x9,x10] v2):=⟨HX1.out.below hK⟩
 clear e0 e1 e2 e3 e4 e5 e6 e7 e8 e9 e10
 obtain⟨e0,e1,e2,e3,e4,e5,e6,e7,e8,e9,e10⟩:=cells11 HX2.out
 have HK2:=Hd.mk (HK1.out.trans (hK.mono HK1.out.size))
 clear hK
 rcases q2 with _ | _
 ·go_wp2
  go_ret
  exact⟨ret_b (by rw[HS.out]<;>simp),HK2.out⟩
 go_wp2
 go_ret
 exact⟨ret_b (by rw[HS.out]<;>simp),HK2.out⟩
end Go.Proofs.YtfaepbjnpakghaaGreatDoor.W
namespace Go.Proofs.YtfaepbjnpakghaaGreatDoor.W
open Go.RowKit
set_option linter.unusedVariables false
theorem take_flat {α β:Type} {f:α→List β} {l:List α} {k:Nat} (h:k<l.length):(l.take k).flatMap f++f l[k]=(l.take (k+1)).flatMap f:=by
 rw[List.take_succ_eq_append_getElem h,List.flatMap_append];simp
theorem flat_few {l:List Grp} {k:Nat} (h:k<l.length) (hf:(l.flatMap Grp.secs).length≤1000000):((l.take k).flatMap Grp.secs).length≤1000000∧l[k].secs.length≤1000000:=by
 have e:=take_flat (f:=Grp.secs) h
 have e2:(l.take (k+1)).flatMap Grp.secs++(l.drop (k+1)).flatMap Grp.secs=l.flatMap Grp.secs:=by rw[←List.flatMap_append,List.take_append_drop]
 rw[←e2,←e,List.length_append,List.length_append] at hf
 omega
set_option maxHeartbeats 4000000 in
set_option maxRecDepth 100000 in
theorem ogroups_any (w:World) (o:Ob) (x1 x2 x3 x4 x5 x6 x7 x8 x9 x10:Value) (hA:o.At w x1 x2 x3 x4 x5 x6 x7 x8 x9 x10) (hk:o.Ok) (hfew:(o.groups.flatMap Grp.secs).length≤1000000):
 Calls Tryz.prog 70 #[.agg (o.arr x1 x2 x3 x4 x5 x6 x7 x8 x9 x10)] w fun e w'=>e= .returned (.bool (groupsB o))∧Below w.heap.size w w':=by
 have hR:=hA.groups
 obtain⟨p,c,rfl⟩:=hR.slice
 have HR:=Hd.mk hR
 have HA:=Hd.mk hA
 have HK:=Hd.mk hk
 have HFew:=Hd.mk hfew
 obtain⟨n,hn⟩:∃n,o.groups.length=n:=⟨_,rfl⟩
 have hl:n≤140737488351232:=hn▸hk.groups
 have HN:=Hd.mk hn
 have HO:=Hd.mk (ObC.new w o x1 x2 x3 (.slice p o.groups.length c) x5 x6 x7 x8 x9 x10)
 have HB1:=Hd.mk (below_alloc w (.cells #[.string o.name,x1,x2,x3, .slice p o.groups.length c,x5,x6,x7,x8,x9,x10] 113))
 obtain⟨ob,hob⟩:∃ob,w.heap.size=ob:=⟨_,rfl⟩
 rw[hob] at HO
 have HOb:=Hd.mk hob
 clear hR hA hk hfew
 unfold Ob.arr
 rw[hn] at HR HO HB1⊢
 go_enter Tryz.func70,Tryz.ntmps70
 go_wp2
 go_loopw [3,10] (fun v i wr=>∃k:Nat,k≤n∧i= .int .i64 k∧Hd ((o.groups.take k).all (grpB o)=true)∧Hd (Own wr (ob+1) 3 v (((o.groups.take k).flatMap Grp.secs).map (Value.int .i64)))∧Hd (Below (ob+1) (w.alloc (.cells #[.string o.name,x1,x2,x3, .slice p n c,x5,x6,x7,x8,x9,x10] 113)) wr)) (fun _ i _=>n-(intOf i).toNat)
 case atStart=>exact⟨0,Nat.zero_le _,rfl,⟨rfl⟩,⟨Own.nil _ _ _⟩,⟨Below.refl _ _⟩⟩
 case round=>
  obtain⟨k,hkn,rfl,HAll,HOw,HBw⟩:=hrel
  have HBa:Hd (Below w.heap.size w wr):=⟨HB1.out.trans (HBw.out.mono (by have:=HOb.out;omega))⟩
  have HOr:Hd (ObC wr ob o x1 x2 x3 (.slice p n c) x5 x6 x7 x8 x9 x10):=⟨HO.out.below (HBw.out.mono (by have:=HOb.out;simp;omega))⟩
  have HLr:Hd (ob<wr.heap.size):=⟨World.block_lt_of_cell? _ _ HOr.out.c0⟩
  clear hob hn
  by_cases hlt:k<n
  ·have hd1:decide ((k:Int)< (n:Int))=true:=by simp;omega
   have hkq:k<o.groups.length:=HN.out▸hlt
   have j0:(0:Int)≤(k:Int):=by omega
   have j1:(k:Int)< (n:Int):=by omega
   obtain⟨g0,of,cs,hpv,hg,hcl,hEc,hcc⟩:=(HR.out.below Grp.stays HBa.out).at rfl (j:=k) hkq
   subst hpv
   have hgk:=HK.out.groupsI _ (List.getElem_mem hkq)
   have htake:=take_flat (f:=Grp.secs) hkq
   have hall:∀b,grpB o o.groups[k]=b→(o.groups.take (k+1)).all (grpB o)=b:=fun b hb=>by rw[List.take_succ_eq_append_getElem hkq,List.all_append,HAll.out];simp[hb]
   have hbad:grpB o o.groups[k]=false→groupsB o=false:=fun hb=>by unfold groupsB;rw[all_bad (List.getElem_mem hkq) hb];simp
   have hflen:(o.groups.take k).flatMap Grp.secs++o.groups[k].secs=(o.groups.take (k+1)).flatMap Grp.secs:=htake
   have hf1:((o.groups.take k).flatMap Grp.secs).length≤1000000∧o.groups[k].secs.length≤1000000:=flat_few hkq HFew.out
   obtain⟨gr,hgr⟩:∃gr,o.groups[k]=gr:=⟨_,rfl⟩
   rw[hgr] at hEc hgk hall hbad hflen hf1
   obtain⟨sv,rfl,hAt⟩:=hEc
   have hsr:=hAt.secs
   obtain⟨sp,sc,rfl⟩:=hsr.slice
   have c0:wr.cell? ⟨g0,of+k*2,none⟩=some (.string gr.name):=hcc 0 _ rfl
   have c1:wr.cell? ⟨g0,of+k*2+1,none⟩=some (.slice sp gr.secs.length sc):=hcc 1 _ rfl
   have HSr:=Hd.mk hsr
   have HGk:=Hd.mk hgk
   have HAl:=Hd.mk hall
   have HBad:=Hd.mk hbad
   have HFl:=Hd.mk hflen
   have HF1:=Hd.mk hf1
   have hS:grpB o gr=(nameB gr.name&&decide (gr.secs.length≠0)&&gr.secs.all (fun s=>inB s o.secs.length)&&pairsB ltB gr.secs):=rfl
   have hN:=fun w=>oname_any gr.name w hgk.name
   have hE1:=(fun(w1:World) (h:Below wr.heap.size wr w1)=>evInt_any w1 (.slice sp gr.secs.length sc) 160 #[.pointer (some ⟨ob,0,none⟩)] (hsr.below intE_stays h) intE_stays (fun _ _ _ h=>by cases h;rfl) hgk.secs
    (show FnV oneA intE (fun x=> .bool (inB x o.secs.length)) gr.secs w1 160 #[.pointer (some ⟨ob,0,none⟩)] from⟨enters_of Tryz.func160 rfl rfl,fun y hy w2 h2 cs hcs=>by
     cases hcs
     exact ogrp1_any w2 o x1 x2 x3 (.slice (some ⟨g0,of,none⟩) n c) x5 x6 x7 x8 x9 x10 ob ((HOr.out.below h).below h2) (((HN.out▸HA.out:o.At w x1 x2 x3 (.slice (some ⟨g0,of,none⟩) n c) x5 x6 x7 x8 x9 x10).below HBa.out).below h |>.below h2) y⟩))
   have hP1:=(fun(w1:World) (h:Below wr.heap.size wr w1)=>prInt_any w1 (.slice sp gr.secs.length sc) 162 #[] (hsr.below intE_stays h) intE_stays hgk.secs
    (show FnV2 oneA intE ltB gr.secs w1 162 #[] from⟨enters_of Tryz.func162 rfl rfl,fun y hy y2 hy2 w2 h2 cs ds hcs hds=>by
     cases hcs;cases hds
     exact ogrp2_any w2 y y2⟩))
   obtain⟨q0,h0⟩:∃q,nameB gr.name=q:=⟨_,rfl⟩
   obtain⟨q2,h2⟩:∃q,gr.secs.all (fun s=>inB s o.secs.length)=q:=⟨_,rfl⟩
   obtain⟨q3,h3⟩:∃q,pairsB ltB gr.secs=q:=⟨_,rfl⟩
   rw[h0] at hN hS
   rw[h2] at hE1 hS
   rw[h3] at hP1 hS
   have hz:decide (gr.secs.length≠0)= !((gr.secs.length:Int)==0):=by rw[Bool.eq_iff_iff];simp
   rw[hz] at hS
   obtain⟨q1,h1⟩:∃q,((gr.secs.length:Int)==0)=q:=⟨_,rfl⟩
   rw[h1] at hS
   have HS:=Hd.mk hS
   have HNm:=Hd.mk hN
   have HE1:=Hd.mk hE1
   have HP1:=Hd.mk hP1
   clear hcc hcl hg hAt hsr hgk hall hbad hflen hf1 hS hN hE1 hP1 h0 h2 h3 hz hgr htake
   rcases q0 with _ | _
   ·skip
    go_wp2_with fail
    refine(HNm.out _).mono ?_
    rintro e w' ⟨rfl,rfl⟩
    go_wp2
    go_ret
    exact⟨ret_b (HBad.out (by rw[HS.out]<;>simp)).symm,HBa.out.trans ((below_alloc wr _).mono HBa.out.size)⟩
   rcases q1 with _ | _
   rotate_left
   ·skip
    go_wp2_with fail
    refine(HNm.out _).mono ?_
    rintro e w' ⟨rfl,rfl⟩
    go_wp2
    go_ret
    exact⟨ret_b (HBad.out (by rw[HS.out]<;>simp)).symm,HBa.out.trans ((below_alloc wr _).mono HBa.out.size)⟩
   rcases q2 with _ | _
   ·skip
    go_wp2_with fail
    refine(HNm.out _).mono ?_
    rintro e w' ⟨rfl,rfl⟩
    go_wp2_with fail
    refine(HE1.out _ (below_alloc wr _)).mono ?_
    rintro e v1 ⟨rfl,hK1⟩
    have e10:v1.cell? ⟨wr.heap.size,0,none⟩=some (.string gr.name):=(hK1.cell (p:=⟨wr.heap.size,0,none⟩) (by simp)).trans (by simp[go_sem])
    have e11:v1.cell? ⟨wr.heap.size,1,none⟩=some (.slice sp gr.secs.length sc):=(hK1.cell (p:=⟨wr.heap.size,1,none⟩) (by simp)).trans (by simp[go_sem])
    have HW1:Hd (Below wr.heap.size wr v1):=⟨below_first hK1⟩
    have HL1:Hd (wr.heap.size<v1.heap.size):=⟨by have:=hK1.size;simp at this;omega⟩
    clear hK1
    go_wp2
    go_ret
    exact⟨ret_b (HBad.out (by rw[HS.out]<;>simp)).symm,HBa.out.trans (HW1.out.mono HBa.out.size)⟩
   rcases q3 with _ | _
   ·skip
    go_wp2_with fail
    refine(HNm.out _).mono ?_
    rintro e w' ⟨rfl,rfl⟩
    go_wp2_with fail
    refine(HE1.out _ (below_alloc wr _)).mono ?_
    rintro e v1 ⟨rfl,hK1⟩
    have e10:v1.cell? ⟨wr.heap.size,0,none⟩=some (.string gr.name):=(hK1.cell (p:=⟨wr.heap.size,0,none⟩) (by simp)).trans (by simp[go_sem])
    have e11:v1.cell? ⟨wr.heap.size,1,none⟩=some (.slice sp gr.secs.length sc):=(hK1.cell (p:=⟨wr.heap.size,1,none⟩) (by simp)).trans (by simp[go_sem])
    have HW1:Hd (Below wr.heap.size wr v1):=⟨below_first hK1⟩
    have HL1:Hd (wr.heap.size<v1.heap.size):=⟨by have:=hK1.size;simp at this;omega⟩
    clear hK1
    go_wp2_with fail
    refine(HP1.out _ HW1.out).mono ?_
    rintro e v2 ⟨rfl,hK2⟩
    have e20:v2.cell? ⟨wr.heap.size,0,none⟩=some (.string gr.name):=(hK2.cell (p:=⟨wr.heap.size,0,none⟩) HL1.out).trans e10
    have e21:v2.cell? ⟨wr.heap.size,1,none⟩=some (.slice sp gr.secs.length sc):=(hK2.cell (p:=⟨wr.heap.size,1,none⟩) HL1.out).trans e11
    have HW2:Hd (Below wr.heap.size wr v2):=⟨HW1.out.trans (hK2.mono HW1.out.size)⟩
    clear hK2 e10 e11
    go_wp2
    go_ret
    exact⟨ret_b (HBad.out (by rw[HS.out]<;>simp)).symm,HBa.out.trans (HW2.out.mono HBa.out.size)⟩
   ·skip
    go_wp2_with fail
    refine(HNm.out _).mono ?_
    rintro e w' ⟨rfl,rfl⟩
    go_wp2_with fail
    refine(HE1.out _ (below_alloc wr _)).mono ?_
    rintro e v1 ⟨rfl,hK1⟩
    have e10:v1.cell? ⟨wr.heap.size,0,none⟩=some (.string gr.name):=(hK1.cell (p:=⟨wr.heap.size,0,none⟩) (by simp)).trans (by simp[go_sem])
    have e11:v1.cell? ⟨wr.heap.size,1,none⟩=some (.slice sp gr.secs.length sc):=(hK1.cell (p:=⟨wr.heap.size,1,none⟩) (by simp)).trans (by simp[go_sem])
    have HW1:Hd (Below wr.heap.size wr v1):=⟨below_first hK1⟩
    have HL1:Hd (wr.heap.size<v1.heap.size):=⟨by have:=hK1.size;simp at this;omega⟩
    clear hK1
    go_wp2_with fail
    refine(HP1.out _ HW1.out).mono ?_
    rintro e v2 ⟨rfl,hK2⟩
    have e20:v2.cell? ⟨wr.heap.size,0,none⟩=some (.string gr.name):=(hK2.cell (p:=⟨wr.heap.size,0,none⟩) HL1.out).trans e10
    have e21:v2.cell? ⟨wr.heap.size,1,none⟩=some (.slice sp gr.secs.length sc):=(hK2.cell (p:=⟨wr.heap.size,1,none⟩) HL1.out).trans e11
    have HW2:Hd (Below wr.heap.size wr v2):=⟨HW1.out.trans (hK2.mono HW1.out.size)⟩
    clear hK2 e10 e11
    have hown2:Own v2 (ob+1) 3 u3 (((o.groups.take k).flatMap Grp.secs).map (Value.int .i64)):=HOw.out.keeps (Keeps.of_below (S:=fun i=>wr.heap.size≤i) HW2.out (fun i _ h=>h)) (fun g hg h=>by have:=(HOw.out.lt hg).2;omega)
    obtain⟨v5,w5,hr5,ho5,hk5⟩:=app_ints v2 63 (Nat.le_trans (show ob+1≤wr.heap.size from HLr.out) HW2.out.size) u3 (.slice sp gr.secs.length sc) _ gr.secs hown2 (HSr.out.below intE_stays HW2.out) HF1.out.1 HF1.out.2
    have HO5:Hd (Own w5 (ob+1) 3 v5 (((o.groups.take (k+1)).flatMap Grp.secs).map (Value.int .i64))):=⟨by rw[←HFl.out];exact ho5⟩
    have HB5:Hd (Below (ob+1) (w.alloc (.cells #[.string o.name,x1,x2,x3, .slice (some ⟨g0,of,none⟩) n c,x5,x6,x7,x8,x9,x10] 113)) w5):=⟨(HBw.out.trans (HW2.out.mono HLr.out)).trans (hk5.below (Nat.le_trans (show ob+1≤wr.heap.size from HLr.out) HW2.out.size) (fun i hi e=>by have:=(hown2.lt e).1;omega))⟩
    have HA5:Hd ((o.groups.take (k+1)).all (grpB o)=true):=⟨HAl.out _ (by rw[HS.out]<;>simp)⟩
    clear ho5 hk5 hown2
    go_wp2_with (at_builtin;refine wp_append_run rfl _ _ _ rfl _ _ _ rfl rfl hr5 ?_)
    exact⟨⟨k+1,hlt,by go_num,HA5,HO5,HB5⟩,by simp[intOf];omega⟩
  ·have hd1:decide ((k:Int)< (n:Int))=false:=by simp;omega
   have htk:o.groups.take k=o.groups:=List.take_of_length_le (by have:=HN.out;omega)
   have hS:groupsB o=(distB Grp.name o.groups&&distB (fun s:Int=>s) (o.groups.flatMap Grp.secs)):=by
    have:=HAll.out
    rw[htk] at this
    unfold groupsB;rw[this];rfl
   have hown:=HOw.out
   rw[htk] at hown
   have hrow:Rw 1 intE wr u3 (o.groups.flatMap Grp.secs):=Rw.of_own hown (by simp) (fun j x u hx hu=>by rw[List.getElem?_map,hx] at hu;cases hu;rfl)
   have hi64:∀x∈o.groups.flatMap Grp.secs,I64 x:=fun x hx=>by
    obtain⟨gg,hg1,hg2⟩:=List.mem_flatMap.1 hx
    exact(HK.out.groupsI gg hg1).secsI x hg2
   have hfl:=HFew.out
   obtain⟨F,hF⟩:∃F,o.groups.flatMap Grp.secs=F:=⟨_,rfl⟩
   rw[hF] at hS hrow hi64 hfl
   obtain⟨sp,sc,hsl⟩:=hrow.slice
   obtain⟨FL,hFL⟩:∃m,F.length=m:=⟨_,rfl⟩
   rw[hFL] at hsl
   have hD1:=(fun(w1:World) (h:Below wr.heap.size wr w1)=>ogrpD_any w1 (.slice p o.groups.length c) o.groups (by rw[HN.out];exact(HR.out.below Grp.stays HBa.out).below Grp.stays h) HK.out.groups HK.out.groupsI)
   have hD2:=(fun(w1:World) (h:Below wr.heap.size wr w1)=>oidD_any w1 u3 F (hrow.below intE_stays h) (Nat.le_trans hfl (by decide)) hi64)
   rw[HN.out] at hD1
   obtain⟨q0,h0⟩:∃q,distB Grp.name o.groups=q:=⟨_,rfl⟩
   obtain⟨q1,h1⟩:∃q,distB (fun s:Int=>s) F=q:=⟨_,rfl⟩
   rw[h0] at hD1 hS
   rw[h1] at hD2 hS
   have HS:=Hd.mk hS
   have HD1:=Hd.mk hD1
   have HD2:=Hd.mk hD2
   obtain⟨c0,c1,c2,c3,c4,_⟩:=HOr.out
   subst hsl
   clear hS hD1 hD2 h0 h1 hown hrow hi64 htk hF hFL hfl
   rcases q0 with _ | _
   ·go_wp2_with fail
    refine(HD1.out _ (Below.refl _ _)).mono ?_
    rintro e v1 ⟨rfl,hK1⟩
    have HK1:=Hd.mk (HBa.out.trans (hK1.mono HBa.out.size))
    clear hK1
    go_wp2
    go_ret
    exact⟨ret_b (by rw[HS.out]<;>simp),HK1.out⟩
   ·go_wp2_with fail
    refine(HD1.out _ (Below.refl _ _)).mono ?_
    rintro e v1 ⟨rfl,hK1⟩
    have HK0:=Hd.mk hK1
    clear hK1
    go_wp2_with fail
    refine(HD2.out _ HK0.out).mono ?_
    rintro e v2 ⟨rfl,hK2⟩
    have HK2:=Hd.mk (HBa.out.trans ((HK0.out.trans (hK2.mono HK0.out.size)).mono HBa.out.size))
    clear hK2
    go_wp2
    go_ret
    exact⟨ret_b (by rw[HS.out]<;>simp),HK2.out⟩
end Go.Proofs.YtfaepbjnpakghaaGreatDoor.W
