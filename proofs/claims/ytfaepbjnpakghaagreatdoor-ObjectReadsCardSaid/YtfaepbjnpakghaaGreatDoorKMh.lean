import Derived.Test.YtfaepbjnpakghaaGreatDoorKad
import Derived.Test.YtfaepbjnpakghaaGreatDoorKClj
import Derived.Test.YtfaepbjnpakghaaGreatDoorKal
/- The walks of the methods rels, syms (printed by tools/gen_cls.py). -/
namespace Go.Proofs.YtfaepbjnpakghaaGreatDoor.W
open Go.RowKit
set_option linter.unusedVariables false
open Go.Maps Go.WideMaps
theorem orel1_any (w:World) (o:Ob) (x1 x2 x3 x4 x5 x6 x7 x8 x9 x10:Value) (b:Nat) (hb:ObC w b o x1 x2 x3 x4 x5 x6 x7 x8 x9 x10) (hA:o.At w x1 x2 x3 x4 x5 x6 x7 x8 x9 x10) (hk:o.Ok) (hT:FormsAt w) (hbs:∀s∈o.secs,s.bytes.size≤800000) (x:Rel) (hx:x.Ok):
 Calls Tryz.prog 153 #[.agg #[.int .i64 x.sec, .int .i64 x.at_, .int .i64 x.kind, .int .i64 x.sym, .int .i64 x.add], .pointer (some ⟨b,0,none⟩)] w fun e w'=>e= .returned (.bool (relB o x))∧Below w.heap.size w w':=by
 by_cases hin:0≤x.sec∧x.sec< (o.secs.length:Int)
 ·obtain⟨k,hsec⟩:=Int.eq_ofNat_of_zero_le hin.1
  have:=orel1_in w o x1 x2 x3 x4 x5 x6 x7 x8 x9 x10 b hb hA hk hT hbs x hx k hsec (by omega)
  rw[←hsec] at this
  exact this
 ·exact orel1_out w o x1 x2 x3 x4 x5 x6 x7 x8 x9 x10 b hb hA hk hT hbs x hx hin
theorem fnv_rels (w:World) (o:Ob) (x1 x2 x3 x4 x5 x6 x7 x8 x9 x10:Value) (b:Nat) (hb:ObC w b o x1 x2 x3 x4 x5 x6 x7 x8 x9 x10) (hA:o.At w x1 x2 x3 x4 x5 x6 x7 x8 x9 x10) (hk:o.Ok) (hT:FormsAt w) (hbs:∀s∈o.secs,s.bytes.size≤800000):FnV aggA Rel.E (fun x=> .bool (relB o x)) o.rels w 153 #[.pointer (some ⟨b,0,none⟩)]:=
 ⟨enters_of Tryz.func153 rfl rfl,fun x hx w' hb' cs hE=>by
  cases hE
  exact orel1_any w' o x1 x2 x3 x4 x5 x6 x7 x8 x9 x10 b (hb.below hb') (hA.below hb') hk (hT.below hb') hbs x (hk.relsI x hx)⟩
theorem rel_sum {o:Ob} (hk:o.Ok) (h:o.rels.all (relB o)=true) {x:Rel} (hx:x∈o.rels):I64 (x.at_+widthI x.kind):=by
 have h1:=List.all_eq_true.1 h x hx
 unfold relB at h1
 rw[Bool.and_eq_true] at h1
 have h2:=h1.2
 rcases hs:secAt o x.sec with _ | s
 ·rw[hs] at h2;cases h2
 ·rw[hs] at h2
  dsimp only at h2
  unfold relFit inB at h2
  simp only[Bool.and_eq_true,decide_eq_true_eq] at h2
  have hm:s∈o.secs:=by
   unfold secAt at hs
   split at hs
   ·exact List.mem_of_getElem? hs
   ·cases hs
  have h3:=(hk.secsI s hm).size
  have hw:=rel_width x.kind
  unfold I64 at h3⊢
  omega
theorem orels_any (w:World) (o:Ob) (x1 x2 x3 x4 x5 x6 x7 x8 x9 x10:Value) (hA:o.At w x1 x2 x3 x4 x5 x6 x7 x8 x9 x10) (hk:o.Ok) (hT:FormsAt w) (hbs:∀s∈o.secs,s.bytes.size≤800000):
 Calls Tryz.prog 69 #[.agg (o.arr x1 x2 x3 x4 x5 x6 x7 x8 x9 x10)] w fun e w'=>e= .returned (.bool (relsB o))∧Below w.heap.size w w':=by
 have hS:relsB o=(o.rels.all (relB o)&&pairsB relOrd o.rels):=by
  rfl
 have hc0:=(fun(w1:World) (h:Below w.heap.size w w1) (hO:ObC w1 w.heap.size o x1 x2 x3 x4 x5 x6 x7 x8 x9 x10)=>evRel_any w1 x3 153 #[.pointer (some ⟨w.heap.size,0,none⟩)] (hA.below h).rels Rel.stays (fun _ _ _ h=>by cases h;rfl) hk.rels (fnv_rels w1 o x1 x2 x3 x4 x5 x6 x7 x8 x9 x10 w.heap.size hO (hA.below h) hk (hT.below h) hbs))
 have hc1:=(fun(w1:World) (h:Below w.heap.size w w1) (hall:o.rels.all (relB o)=true)=>prRel_any w1 x3 156 #[] (hA.below h).rels Rel.stays hk.rels ⟨enters_of Tryz.func156 rfl rfl,fun x hx y hy w' hb cs ds hE hD=>by cases hE;cases hD;exact orel2_any w' x y (rel_sum hk hall hx)⟩)
 obtain⟨q0,h0⟩:∃q,(o.rels.all (relB o))=q:=⟨_,rfl⟩
 rw[h0] at hc0 hS
 have HC0:=Hd.mk hc0
 have HQ0:=Hd.mk h0
 clear hc0 h0
 obtain⟨q1,h1⟩:∃q,(pairsB relOrd o.rels)=q:=⟨_,rfl⟩
 rw[h1] at hc1 hS
 have HC1:=Hd.mk hc1
 have HQ1:=Hd.mk h1
 clear hc1 h1
 have HS:=Hd.mk hS
 clear hS
 unfold Ob.arr
 go_enter Tryz.func69,Tryz.ntmps69
 go_wp2_with fail
 refine(HC0.out _ (by go_grown) (ObC.new w o x1 x2 x3 x4 x5 x6 x7 x8 x9 x10)).mono ?_
 rintro e v1 ⟨rfl,hK⟩
 have HX1:Hd (CellsAt w.heap.size [.string o.name,x1,x2,x3,x4,x5,x6,x7,x8,x9,x10] v1):=⟨(CellsAt.new w [.string o.name,x1,x2,x3,x4,x5,x6,x7,x8,x9,x10] 113).below hK⟩
 obtain⟨e0,e1,e2,e3,e4,e5,e6,e7,e8,e9,e10⟩:=cells11 HX1.out
 have HK1:=Hd.mk ((show Below w.heap.size w _ by go_grown).trans (hK.mono (by first | (simp;done) | (simp;omega))))
 clear hK
 rcases q0 with _ | _
 ·go_wp2
  go_ret
  exact⟨ret_b (by rw[HS.out]<;>simp),HK1.out⟩
 go_wp2_with fail
 refine(HC1.out _ HK1.out HQ0.out).mono ?_
 rintro e v2 ⟨rfl,hK⟩
 have HX2:Hd (CellsAt w.heap.size [.string o.name,x1,x2,x3,x4,x5,x6,x7,x8,x9,x10] v2):=⟨HX1.out.below hK⟩
 clear e0 e1 e2 e3 e4 e5 e6 e7 e8 e9 e10
 obtain⟨e0,e1,e2,e3,e4,e5,e6,e7,e8,e9,e10⟩:=cells11 HX2.out
 have HK2:=Hd.mk (HK1.out.trans (hK.mono HK1.out.size))
 clear hK
 rcases q1 with _ | _
 ·go_wp2
  go_ret
  exact⟨ret_b (by rw[HS.out]<;>simp),HK2.out⟩
 go_wp2
 go_ret
 exact⟨ret_b (by rw[HS.out]<;>simp),HK2.out⟩
theorem key_pair {a b:ByteArray} (ha:a.size≤maxLen) (hb:b.size≤maxLen):keyOf Tryz.prog 173 (.agg #[.string a, .string b])=some (.string (keyBytes [.string a.data.toList, .string b.data.toList])):=by
 have hu:Tryz.prog.underlying 173=some (.array 2 9):=Tryz.underlying173
 have hs:Tryz.prog.underlying 9=some .string:=Tryz.underlying9
 have hc:Tryz.prog.cellsOf 173=2:=by kernel_rfl
 have h1:Tryz.prog.cellsOf 9=1:=by kernel_rfl
 have hkt:Tryz.prog.keyType 173=true:=by kernel_rfl
 have hf:(Value.agg #[.string a, .string b]).formed Tryz.prog 173=true:=by simp[Value.formed,hu,hc]
 obtain⟨m,hm⟩:∃m,Tryz.prog.types.size=m+1:=⟨276,by kernel_rfl⟩
 unfold keyOf
 simp only[hu]
 rw[if_pos (by rw[hkt,hf];rfl),hm]
 unfold Program.keyLits
 simp only[hu,Value.cells]
 rw[if_pos (by rw[hc];rfl),show List.range 2=[0,1] from rfl,List.mapM_cons,List.mapM_cons,List.mapM_nil]
 simp[h1,Program.keyLits,hs,ha,hb]
theorem osymsD_any (w:World) (v:Value) (l:List Sym) (hR:Rw 10 Sym.E w v l) (hl:lenR l.length) (hk:∀x∈l,x.Ok):
 Calls Tryz.prog 151 #[v, .func (.func 152) #[] #[]] w fun e w'=>e= .returned (.bool (distB (fun s:Sym=>(s.name,s.version)) l))∧Below w.heap.size w w':=
 (dsSym_any (kv:=fun x=> .agg #[.string x.name, .string x.version]) (kf:=fun x=> .string (keyBytes [.string x.name.data.toList, .string x.version.data.toList])) w v 152 #[] hR hl ⟨enters_of Tryz.func152 rfl rfl,fun x hx w' hb cs hE=>by cases hE;exact osyms2_any w' x⟩
  (fun x hx=>key_pair (Nat.le_trans (hk x hx).name (by decide)) (Nat.le_trans (hk x hx).version (by decide)))).mono (fun e w' h=>by
   obtain⟨⟨r,rfl,hr⟩,hb⟩:=h
   refine⟨ret_b ?_,hb⟩
   rw[Bool.eq_iff_iff,hr]
   unfold distB
   rw[decide_eq_true_eq]
   have hok:∀x∈l,x.name.size≤maxLen∧x.version.size≤maxLen:=fun x hx=>⟨Nat.le_trans (hk x hx).name (by decide),Nat.le_trans (hk x hx).version (by decide)⟩
   unfold List.Nodup
   rw[List.pairwise_map,List.pairwise_map]
   constructor
   ·intro h
    refine h.imp (fun {a b} hne e=>hne ?_)
    simp only[Prod.mk.injEq] at e
    rw[e.1,e.2]
   ·intro h
    refine h.imp_of_mem (fun {a b} ha hb hne e=>hne ?_)
    have:=(Keyed.of_law law_arr).inj (key_pair (hok a ha).1 (hok a ha).2) ((key_pair (hok b hb).1 (hok b hb).2).trans (congrArg some e.symm))
    injection this with this
    have:=congrArg Array.toList this
    simp only[List.cons.injEq,Value.string.injEq,and_true] at this
    simp only[Prod.mk.injEq]
    exact this)
theorem osyms_any (w:World) (o:Ob) (x1 x2 x3 x4 x5 x6 x7 x8 x9 x10:Value) (hA:o.At w x1 x2 x3 x4 x5 x6 x7 x8 x9 x10) (hk:o.Ok):
 Calls Tryz.prog 68 #[.agg (o.arr x1 x2 x3 x4 x5 x6 x7 x8 x9 x10)] w fun e w'=>e= .returned (.bool (symsB o))∧Below w.heap.size w w':=by
 have hS:symsB o=(decide ((o.syms.length:Int)≤4096)&&o.syms.all (symB o)&&distB (fun s:Sym=>(s.name,s.version)) o.syms):=by
  unfold symsB;rw[show decide ((o.syms.length:Int)≤4096)=decide (o.syms.length≤4096) by rw[Bool.eq_iff_iff];simp;omega]
 have hc1:=(fun(w1:World) (h:Below w.heap.size w w1) (hO:ObC w1 w.heap.size o x1 x2 x3 x4 x5 x6 x7 x8 x9 x10)=>evSym_any (p:=symB o) w1 x2 147 #[.pointer (some ⟨w.heap.size,0,none⟩)] (hA.below h).syms Sym.stays (fun _ _ _ h=>by cases h;rfl) hk.syms ⟨enters_of Tryz.func147 rfl rfl,fun x hx w' hb cs hE=>by cases hE;exact osym1_any w' o x1 x2 x3 x4 x5 x6 x7 x8 x9 x10 w.heap.size (hO.below hb) ((hA.below h).below hb) hk x (hk.symsI x hx)⟩)
 have hc2:=(fun(w1:World) (h:Below w.heap.size w w1)=>osymsD_any w1 x2 o.syms (hA.below h).syms hk.syms hk.symsI)
 obtain⟨q0,h0⟩:∃q,(decide ((o.syms.length:Int)≤4096))=q:=⟨_,rfl⟩
 rw[h0] at hS
 obtain⟨q1,h1⟩:∃q,(o.syms.all (symB o))=q:=⟨_,rfl⟩
 rw[h1] at hc1 hS
 have HC1:=Hd.mk hc1
 have HQ1:=Hd.mk h1
 clear hc1 h1
 obtain⟨q2,h2⟩:∃q,(distB (fun s:Sym=>(s.name,s.version)) o.syms)=q:=⟨_,rfl⟩
 rw[h2] at hc2 hS
 have HC2:=Hd.mk hc2
 have HQ2:=Hd.mk h2
 clear hc2 h2
 have HS:=Hd.mk hS
 clear hS
 unfold Ob.arr
 obtain⟨p1,c1,hx1⟩:=hA.syms.slice
 subst hx1
 go_enter Tryz.func68,Tryz.ntmps68
 rcases q0 with _ | _
 ·go_wp2
  go_ret
  exact⟨ret_b (by rw[HS.out]<;>simp),by go_grown⟩
 go_wp2_with fail
 refine(HC1.out _ (by go_grown) (ObC.new w o x1 (.slice p1 o.syms.length c1) x3 x4 x5 x6 x7 x8 x9 x10)).mono ?_
 rintro e v1 ⟨rfl,hK⟩
 have HX1:Hd (CellsAt w.heap.size [.string o.name,x1, .slice p1 o.syms.length c1,x3,x4,x5,x6,x7,x8,x9,x10] v1):=⟨(CellsAt.new w [.string o.name,x1, .slice p1 o.syms.length c1,x3,x4,x5,x6,x7,x8,x9,x10] 113).below hK⟩
 obtain⟨e0,e1,e2,e3,e4,e5,e6,e7,e8,e9,e10⟩:=cells11 HX1.out
 have HK1:=Hd.mk ((show Below w.heap.size w _ by go_grown).trans (hK.mono (by first | (simp;done) | (simp;omega))))
 clear hK
 rcases q1 with _ | _
 ·go_wp2
  go_ret
  exact⟨ret_b (by rw[HS.out]<;>simp),HK1.out⟩
 go_wp2_with fail
 refine(HC2.out _ HK1.out).mono ?_
 rintro e v2 ⟨rfl,hK⟩
 have HX2:Hd (CellsAt w.heap.size [.string o.name,x1, .slice p1 o.syms.length c1,x3,x4,x5,x6,x7,x8,x9,x10] v2):=⟨HX1.out.below hK⟩
 clear e0 e1 e2 e3 e4 e5 e6 e7 e8 e9 e10
 obtain⟨e0,e1,e2,e3,e4,e5,e6,e7,e8,e9,e10⟩:=cells11 HX2.out
 have HK2:=Hd.mk (HK1.out.trans (hK.mono HK1.out.size))
 clear hK
 rcases q2 with _ | _
 ·go_wp2
  go_ret
  exact⟨ret_b (by rw[HS.out]<;>simp),HK2.out⟩
 go_wp2
 go_ret
 exact⟨ret_b (by rw[HS.out]<;>simp),HK2.out⟩
end Go.Proofs.YtfaepbjnpakghaaGreatDoor.W
