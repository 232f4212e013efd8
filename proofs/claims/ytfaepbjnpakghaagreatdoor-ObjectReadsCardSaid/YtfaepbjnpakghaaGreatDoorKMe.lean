import Derived.Test.YtfaepbjnpakghaaGreatDoorKad
import Derived.Test.YtfaepbjnpakghaaGreatDoorKag
import Derived.Test.YtfaepbjnpakghaaGreatDoorKClc
import Derived.Test.YtfaepbjnpakghaaGreatDoorKPv1
import Derived.Test.YtfaepbjnpakghaaGreatDoorKPv4
/- The walks of the methods lines, depths, inits, vars (printed by tools/gen_cls.py). -/
namespace Go.Proofs.YtfaepbjnpakghaaGreatDoor.W
open Go.RowKit
set_option linter.unusedVariables false
theorem ObC.new (w:World) (o:Ob) (x1 x2 x3 x4 x5 x6 x7 x8 x9 x10:Value):ObC (w.alloc (.cells #[.string o.name,x1,x2,x3,x4,x5,x6,x7,x8,x9,x10] 113)) w.heap.size o x1 x2 x3 x4 x5 x6 x7 x8 x9 x10:=
 ⟨by simp[go_sem],by simp[go_sem],by simp[go_sem],by simp[go_sem],by simp[go_sem],by simp[go_sem],by simp[go_sem],by simp[go_sem],by simp[go_sem],by simp[go_sem],by simp[go_sem]⟩
theorem fnv_lines (w:World) (o:Ob) (x1 x2 x3 x4 x5 x6 x7 x8 x9 x10:Value) (b:Nat) (hb:ObC w b o x1 x2 x3 x4 x5 x6 x7 x8 x9 x10) (hA:o.At w x1 x2 x3 x4 x5 x6 x7 x8 x9 x10) (hk:o.Ok):FnV aggA Lne.E (fun x=> .bool (lneB o x)) o.lines w 170 #[.pointer (some ⟨b,0,none⟩)]:=
 ⟨enters_of Tryz.func170 rfl rfl,fun x hx w' hb' cs hE=>by
  cases hE
  exact olne1_any w' o x1 x2 x3 x4 x5 x6 x7 x8 x9 x10 b (hb.below hb') (hA.below hb') hk x (hk.linesI x hx)⟩
theorem fnv_depths (w:World) (o:Ob) (x1 x2 x3 x4 x5 x6 x7 x8 x9 x10:Value) (b:Nat) (hb:ObC w b o x1 x2 x3 x4 x5 x6 x7 x8 x9 x10) (hA:o.At w x1 x2 x3 x4 x5 x6 x7 x8 x9 x10) (hk:o.Ok):FnV aggA Dep.E (fun x=> .bool (depB o x)) o.depths w 185 #[.pointer (some ⟨b,0,none⟩)]:=
 ⟨enters_of Tryz.func185 rfl rfl,fun x hx w' hb' cs hE=>by
  cases hE
  exact odep1_any w' o x1 x2 x3 x4 x5 x6 x7 x8 x9 x10 b (hb.below hb') (hA.below hb') hk x (hk.depthsI x hx)⟩
theorem fnv_inits (w:World) (o:Ob) (x1 x2 x3 x4 x5 x6 x7 x8 x9 x10:Value) (b:Nat) (hb:ObC w b o x1 x2 x3 x4 x5 x6 x7 x8 x9 x10) (hA:o.At w x1 x2 x3 x4 x5 x6 x7 x8 x9 x10) (hk:o.Ok):FnV aggA Ini.E (fun x=> .bool (iniB o x)) o.inits w 168 #[.pointer (some ⟨b,0,none⟩)]:=
 ⟨enters_of Tryz.func168 rfl rfl,fun x hx w' hb' cs hE=>by
  cases hE
  exact oini1_any w' o x1 x2 x3 x4 x5 x6 x7 x8 x9 x10 b (hb.below hb') (hA.below hb') hk x (hk.initsI x hx)⟩
theorem fnv_inlines (w:World) (o:Ob) (x1 x2 x3 x4 x5 x6 x7 x8 x9 x10:Value) (b:Nat) (hb:ObC w b o x1 x2 x3 x4 x5 x6 x7 x8 x9 x10) (hA:o.At w x1 x2 x3 x4 x5 x6 x7 x8 x9 x10) (hk:o.Ok):FnV aggA Inl.E (fun x=> .bool (inlB o x)) o.inlines w 176 #[.pointer (some ⟨b,0,none⟩)]:=
 ⟨enters_of Tryz.func176 rfl rfl,fun x hx w' hb' cs hE=>by
  cases hE
  exact oinl1_any w' o x1 x2 x3 x4 x5 x6 x7 x8 x9 x10 b (hb.below hb') (hA.below hb') hk x (hk.inlinesI x hx)⟩
theorem fnv_vars (w:World) (o:Ob) (x1 x2 x3 x4 x5 x6 x7 x8 x9 x10:Value) (b:Nat) (hb:ObC w b o x1 x2 x3 x4 x5 x6 x7 x8 x9 x10) (hA:o.At w x1 x2 x3 x4 x5 x6 x7 x8 x9 x10) (hk:o.Ok):FnV aggA Vrr.E (fun x=> .bool (vrrB o x)) o.vars w 180 #[.pointer (some ⟨b,0,none⟩)]:=
 ⟨enters_of Tryz.func180 rfl rfl,fun x hx w' hb' cs hE=>by
  cases hE
  exact ovar1_any w' o x1 x2 x3 x4 x5 x6 x7 x8 x9 x10 b (hb.below hb') (hA.below hb') hk x (hk.varsI x hx)⟩
theorem olines_any (w:World) (o:Ob) (x1 x2 x3 x4 x5 x6 x7 x8 x9 x10:Value) (hA:o.At w x1 x2 x3 x4 x5 x6 x7 x8 x9 x10) (hk:o.Ok):
 Calls Tryz.prog 72 #[.agg (o.arr x1 x2 x3 x4 x5 x6 x7 x8 x9 x10)] w fun e w'=>e= .returned (.bool (linesB o))∧Below w.heap.size w w':=by
 have hS:linesB o=(o.lines.all (lneB o)&&pairsB lneOrd o.lines):=by
  rfl
 have hc0:=(fun(w1:World) (h:Below w.heap.size w w1) (hO:ObC w1 w.heap.size o x1 x2 x3 x4 x5 x6 x7 x8 x9 x10)=>evLne_any w1 x6 170 #[.pointer (some ⟨w.heap.size,0,none⟩)] (hA.below h).lines Lne.stays (fun _ _ _ h=>by cases h;rfl) hk.lines (fnv_lines w1 o x1 x2 x3 x4 x5 x6 x7 x8 x9 x10 w.heap.size hO (hA.below h) hk))
 have hc1:=(fun(w1:World) (h:Below w.heap.size w w1)=>prLne_any w1 x6 172 #[] (hA.below h).lines Lne.stays hk.lines ⟨enters_of Tryz.func172 rfl rfl,fun x hx y hy w' hb cs ds hE hD=>by cases hE;cases hD;exact olne2_any w' x y (hk.linesI x hx) (hk.linesI y hy)⟩)
 obtain⟨q0,h0⟩:∃q,(o.lines.all (lneB o))=q:=⟨_,rfl⟩
 rw[h0] at hc0 hS
 have HC0:=Hd.mk hc0
 have HQ0:=Hd.mk h0
 clear hc0 h0
 obtain⟨q1,h1⟩:∃q,(pairsB lneOrd o.lines)=q:=⟨_,rfl⟩
 rw[h1] at hc1 hS
 have HC1:=Hd.mk hc1
 have HQ1:=Hd.mk h1
 clear hc1 h1
 have HS:=Hd.mk hS
 clear hS
 unfold Ob.arr
 go_enter Tryz.func72,Tryz.ntmps72
 go_wp2_with fail
 refine(HC0.out _ (by go_grown) (ObC.new w o x1 x2 x3 x4 x5 x6 x7 x8 x9 x10)).mono ?_
 rintro e v1 ⟨rfl,hK⟩
 have HX1:Hd (CellsAt w.heap.size [.string o.name,x1,x2,x3,x4,x5,x6,x7,x8,x9,x10] v1):=⟨(CellsAt.new w [.string o.name,x1,x2,x3,x4,x5,x6,x7,x8,x9,x10] 113).below hK⟩
 obtain⟨e0,e1,e2,e3,e4,e5,e6,e7,e8,e9,e10⟩:=cells11 HX1.out
 have HK1:=Hd.mk ((show Below w.heap.size w _ by go_grown).trans (hK.mono (by first | (simp;done) | (simp;omega))))
 clear hK
 rcases q0 with _ | _
 ·go_wp2
  go_ret
  exact⟨ret_b (by rw[HS.out]<;>simp),HK1.out⟩
 go_wp2_with fail
 refine(HC1.out _ HK1.out).mono ?_
 rintro e v2 ⟨rfl,hK⟩
 have HX2:Hd (CellsAt w.heap.size [.string o.name,x1,x2,x3,x4,x5,x6,x7,x8,x9,x10] v2):=⟨HX1.out.below hK⟩
 clear e0 e1 e2 e3 e4 e5 e6 e7 e8 e9 e10
 obtain⟨e0,e1,e2,e3,e4,e5,e6,e7,e8,e9,e10⟩:=cells11 HX2.out
 have HK2:=Hd.mk (HK1.out.trans (hK.mono HK1.out.size))
 clear hK
 rcases q1 with _ | _
 ·go_wp2
  go_ret
  exact⟨ret_b (by rw[HS.out]<;>simp),HK2.out⟩
 go_wp2
 go_ret
 exact⟨ret_b (by rw[HS.out]<;>simp),HK2.out⟩
theorem odepths_any (w:World) (o:Ob) (x1 x2 x3 x4 x5 x6 x7 x8 x9 x10:Value) (hA:o.At w x1 x2 x3 x4 x5 x6 x7 x8 x9 x10) (hk:o.Ok):
 Calls Tryz.prog 75 #[.agg (o.arr x1 x2 x3 x4 x5 x6 x7 x8 x9 x10)] w fun e w'=>e= .returned (.bool (depthsB o))∧Below w.heap.size w w':=by
 have hS:depthsB o=(o.depths.all (depB o)&&pairsB depOrd o.depths):=by
  rfl
 have hc0:=(fun(w1:World) (h:Below w.heap.size w w1) (hO:ObC w1 w.heap.size o x1 x2 x3 x4 x5 x6 x7 x8 x9 x10)=>evDep_any w1 x9 185 #[.pointer (some ⟨w.heap.size,0,none⟩)] (hA.below h).depths Dep.stays (fun _ _ _ h=>by cases h;rfl) hk.depths (fnv_depths w1 o x1 x2 x3 x4 x5 x6 x7 x8 x9 x10 w.heap.size hO (hA.below h) hk))
 have hc1:=(fun(w1:World) (h:Below w.heap.size w w1)=>prDep_any w1 x9 186 #[] (hA.below h).depths Dep.stays hk.depths ⟨enters_of Tryz.func186 rfl rfl,fun x hx y hy w' hb cs ds hE hD=>by cases hE;cases hD;exact odep2_any w' x y (hk.depthsI x hx) (hk.depthsI y hy)⟩)
 obtain⟨q0,h0⟩:∃q,(o.depths.all (depB o))=q:=⟨_,rfl⟩
 rw[h0] at hc0 hS
 have HC0:=Hd.mk hc0
 have HQ0:=Hd.mk h0
 clear hc0 h0
 obtain⟨q1,h1⟩:∃q,(pairsB depOrd o.depths)=q:=⟨_,rfl⟩
 rw[h1] at hc1 hS
 have HC1:=Hd.mk hc1
 have HQ1:=Hd.mk h1
 clear hc1 h1
 have HS:=Hd.mk hS
 clear hS
 unfold Ob.arr
 go_enter Tryz.func75,Tryz.ntmps75
 go_wp2_with fail
 refine(HC0.out _ (by go_grown) (ObC.new w o x1 x2 x3 x4 x5 x6 x7 x8 x9 x10)).mono ?_
 rintro e v1 ⟨rfl,hK⟩
 have HX1:Hd (CellsAt w.heap.size [.string o.name,x1,x2,x3,x4,x5,x6,x7,x8,x9,x10] v1):=⟨(CellsAt.new w [.string o.name,x1,x2,x3,x4,x5,x6,x7,x8,x9,x10] 113).below hK⟩
 obtain⟨e0,e1,e2,e3,e4,e5,e6,e7,e8,e9,e10⟩:=cells11 HX1.out
 have HK1:=Hd.mk ((show Below w.heap.size w _ by go_grown).trans (hK.mono (by first | (simp;done) | (simp;omega))))
 clear hK
 rcases q0 with _ | _
 ·go_wp2
  go_ret
  exact⟨ret_b (by rw[HS.out]<;>simp),HK1.out⟩
 go_wp2_with fail
 refine(HC1.out _ HK1.out).mono ?_
 rintro e v2 ⟨rfl,hK⟩
 have HX2:Hd (CellsAt w.heap.size [.string o.name,x1,x2,x3,x4,x5,x6,x7,x8,x9,x10] v2):=⟨HX1.out.below hK⟩
 clear e0 e1 e2 e3 e4 e5 e6 e7 e8 e9 e10
 obtain⟨e0,e1,e2,e3,e4,e5,e6,e7,e8,e9,e10⟩:=cells11 HX2.out
 have HK2:=Hd.mk (HK1.out.trans (hK.mono HK1.out.size))
 clear hK
 rcases q1 with _ | _
 ·go_wp2
  go_ret
  exact⟨ret_b (by rw[HS.out]<;>simp),HK2.out⟩
 go_wp2
 go_ret
 exact⟨ret_b (by rw[HS.out]<;>simp),HK2.out⟩
theorem oinits_any (w:World) (o:Ob) (x1 x2 x3 x4 x5 x6 x7 x8 x9 x10:Value) (hA:o.At w x1 x2 x3 x4 x5 x6 x7 x8 x9 x10) (hk:o.Ok):
 Calls Tryz.prog 71 #[.agg (o.arr x1 x2 x3 x4 x5 x6 x7 x8 x9 x10)] w fun e w'=>e= .returned (.bool (initsB o))∧Below w.heap.size w w':=by
 have hS:initsB o=(o.inits.all (iniB o)):=by
  rfl
 have hc0:=(fun(w1:World) (h:Below w.heap.size w w1) (hO:ObC w1 w.heap.size o x1 x2 x3 x4 x5 x6 x7 x8 x9 x10)=>evIni_any w1 x5 168 #[.pointer (some ⟨w.heap.size,0,none⟩)] (hA.below h).inits Ini.stays (fun _ _ _ h=>by cases h;rfl) hk.inits (fnv_inits w1 o x1 x2 x3 x4 x5 x6 x7 x8 x9 x10 w.heap.size hO (hA.below h) hk))
 obtain⟨q0,h0⟩:∃q,(o.inits.all (iniB o))=q:=⟨_,rfl⟩
 rw[h0] at hc0 hS
 have HC0:=Hd.mk hc0
 have HQ0:=Hd.mk h0
 clear hc0 h0
 have HS:=Hd.mk hS
 clear hS
 unfold Ob.arr
 go_enter Tryz.func71,Tryz.ntmps71
 go_wp2_with fail
 refine(HC0.out _ (by go_grown) (ObC.new w o x1 x2 x3 x4 x5 x6 x7 x8 x9 x10)).mono ?_
 rintro e v1 ⟨rfl,hK⟩
 have HX1:Hd (CellsAt w.heap.size [.string o.name,x1,x2,x3,x4,x5,x6,x7,x8,x9,x10] v1):=⟨(CellsAt.new w [.string o.name,x1,x2,x3,x4,x5,x6,x7,x8,x9,x10] 113).below hK⟩
 obtain⟨e0,e1,e2,e3,e4,e5,e6,e7,e8,e9,e10⟩:=cells11 HX1.out
 have HK1:=Hd.mk ((show Below w.heap.size w _ by go_grown).trans (hK.mono (by first | (simp;done) | (simp;omega))))
 clear hK
 rcases q0 with _ | _
 ·go_wp2
  go_ret
  exact⟨ret_b (by rw[HS.out]<;>simp),HK1.out⟩
 go_wp2
 go_ret
 exact⟨ret_b (by rw[HS.out]<;>simp),HK1.out⟩
end Go.Proofs.YtfaepbjnpakghaaGreatDoor.W
