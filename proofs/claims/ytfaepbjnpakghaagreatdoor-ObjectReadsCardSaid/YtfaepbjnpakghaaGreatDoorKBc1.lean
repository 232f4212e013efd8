import Derived.Test.YtfaepbjnpakghaaGreatDoorKaj
/- The walks of the functions that Bytes hands to list (printed by tools/gen_bcl.py). -/
namespace Go.Proofs.YtfaepbjnpakghaaGreatDoor.W
open Go.RowKit
set_option linter.unusedVariables false
set_option linter.unusedSimpArgs false
set_option maxHeartbeats 4000000 in
set_option maxRecDepth 100000 in
theorem bSec_any (w:World) (x:Sec) (hk:x.okc) (h_name:x.name.size≤1000000000) (h_bytes:x.bytes.size≤1000000000):
 Calls Tryz.prog 91 #[.agg #[.string x.name, .int .i64 x.kind, .int .i64 x.align, .int .i64 x.size, .string x.bytes, .bool x.keep]] w fun e w'=>e= .returned (.string ⟨(Sec.wr x).toArray⟩)∧Below w.heap.size w w':=by
 obtain⟨_,hk_kind,hk_align,hk_size,_,_⟩:=hk
 have hE:(⟨(Sec.wr x).toArray⟩:ByteArray)=((((⟨(strL x.name).toArray⟩:ByteArray)++(⟨(([x.kind,x.align,x.size]).flatMap natL).toArray⟩:ByteArray))++(⟨(strL x.bytes).toArray⟩:ByteArray))++(⟨(([truthI x.keep]).flatMap natL).toArray⟩:ByteArray)):=by
  simp only[cat_toArray,Sec.wr,boolL,List.flatMap_cons,List.flatMap_nil,List.append_assoc,List.append_nil]
 have hc2:∀w,Calls Tryz.prog 89 #[.string x.name] w fun e w'=>e= .returned (.string (⟨(strL x.name).toArray⟩:ByteArray))∧Below w.heap.size w w':=fun w=>wtext_any x.name h_name w
 have z2:(⟨(strL x.name).toArray⟩:ByteArray).size≤1000000010:=Nat.le_trans (text_len _) (by have:=h_name;omega)
 obtain⟨s2,hs2⟩:∃s:ByteArray,(⟨(strL x.name).toArray⟩:ByteArray)=s:=⟨_,rfl⟩
 rw[hs2] at hc2 z2
 have HC2:=Hd.mk hc2
 clear hc2
 have hc10:∀w v,Rw 1 intE w v [x.kind,x.align,x.size]→Calls Tryz.prog 92 #[v] w fun e w'=>e= .returned (.string (⟨(([x.kind,x.align,x.size]).flatMap natL).toArray⟩:ByteArray))∧Below w.heap.size w w':=fun w v h=>onums_any w v _ h (by simp) (by intro y hy;simp only[List.mem_cons,List.not_mem_nil,or_false] at hy;rcases hy with rfl | rfl | rfl<;>first | exact hk_kind | exact hk_align | exact hk_size)
 have z10:(⟨(([x.kind,x.align,x.size]).flatMap natL).toArray⟩:ByteArray).size≤30:=nums_size _
 obtain⟨s10,hs10⟩:∃s:ByteArray,(⟨(([x.kind,x.align,x.size]).flatMap natL).toArray⟩:ByteArray)=s:=⟨_,rfl⟩
 rw[hs10] at hc10 z10
 have HC10:=Hd.mk hc10
 clear hc10
 have t11:¬9223372036854775807<s2.size+s10.size:=by omega
 have z11:(s2++s10).size≤1000000040:=app_size z2 z10 (by decide)
 obtain⟨s11,hs11⟩:∃s:ByteArray,s2++s10=s:=⟨_,rfl⟩
 rw[hs11] at z11
 have HT11:=Hd.mk (And.intro t11 hs11)
 clear t11
 have hc14:∀w,Calls Tryz.prog 89 #[.string x.bytes] w fun e w'=>e= .returned (.string (⟨(strL x.bytes).toArray⟩:ByteArray))∧Below w.heap.size w w':=fun w=>wtext_any x.bytes h_bytes w
 have z14:(⟨(strL x.bytes).toArray⟩:ByteArray).size≤1000000010:=Nat.le_trans (text_len _) (by have:=h_bytes;omega)
 obtain⟨s14,hs14⟩:∃s:ByteArray,(⟨(strL x.bytes).toArray⟩:ByteArray)=s:=⟨_,rfl⟩
 rw[hs14] at hc14 z14
 have HC14:=Hd.mk hc14
 clear hc14
 have t15:¬9223372036854775807<s11.size+s14.size:=by omega
 have z15:(s11++s14).size≤2000000050:=app_size z11 z14 (by decide)
 obtain⟨s15,hs15⟩:∃s:ByteArray,s11++s14=s:=⟨_,rfl⟩
 rw[hs15] at z15
 have HT15:=Hd.mk (And.intro t15 hs15)
 clear t15
 have hc20:∀w v,Rw 1 intE w v [truthI x.keep]→Calls Tryz.prog 92 #[v] w fun e w'=>e= .returned (.string (⟨(([truthI x.keep]).flatMap natL).toArray⟩:ByteArray))∧Below w.heap.size w w':=fun w v h=>onums_any w v _ h (by simp) (by intro y hy;simp only[List.mem_cons,List.not_mem_nil,or_false] at hy;subst hy;exact truth_nat _)
 have z20:(⟨(([truthI x.keep]).flatMap natL).toArray⟩:ByteArray).size≤10:=nums_size _
 obtain⟨s20,hs20⟩:∃s:ByteArray,(⟨(([truthI x.keep]).flatMap natL).toArray⟩:ByteArray)=s:=⟨_,rfl⟩
 rw[hs20] at hc20 z20
 have HC20:=Hd.mk hc20
 clear hc20
 have t21:¬9223372036854775807<s15.size+s20.size:=by omega
 have z21:(s15++s20).size≤2000000060:=app_size z15 z20 (by decide)
 obtain⟨s21,hs21⟩:∃s:ByteArray,s15++s20=s:=⟨_,rfl⟩
 rw[hs21] at z21
 have HT21:=Hd.mk (And.intro t21 hs21)
 clear t21
 rw[hs2,hs10,hs11,hs14,hs15,hs20,hs21] at hE
 have HE:=Hd.mk hE
 clear hE z2 hs2 z10 hs10 z11 hs11 z14 hs14 z15 hs15 z20 hs20 z21 hs21 h_name h_bytes hk_kind hk_align hk_size
 rw[HE.out]
 have HB:Hd (∀w1,Below (w.alloc (.cells #[.string x.name, .int .i64 x.kind, .int .i64 x.align, .int .i64 x.size, .string x.bytes, .bool x.keep] 47)).drew.heap.size (w.alloc (.cells #[.string x.name, .int .i64 x.kind, .int .i64 x.align, .int .i64 x.size, .string x.bytes, .bool x.keep] 47)).drew w1→Below w.heap.size w w1):=⟨fun w1 h=>below_first ((Below.drew (Below.refl _ _)).trans h)⟩
 have HF:Hd (∀w',Below (w.alloc (.cells #[.string x.name, .int .i64 x.kind, .int .i64 x.align, .int .i64 x.size, .string x.bytes, .bool x.keep] 47)).drew.heap.size (w.alloc (.cells #[.string x.name, .int .i64 x.kind, .int .i64 x.align, .int .i64 x.size, .string x.bytes, .bool x.keep] 47)).drew w'→w'.cell? ⟨w.heap.size,0,none⟩=some (.string x.name)∧w'.cell? ⟨w.heap.size,1,none⟩=some (.int .i64 x.kind)∧w'.cell? ⟨w.heap.size,2,none⟩=some (.int .i64 x.align)∧w'.cell? ⟨w.heap.size,3,none⟩=some (.int .i64 x.size)∧w'.cell? ⟨w.heap.size,4,none⟩=some (.string x.bytes)∧w'.cell? ⟨w.heap.size,5,none⟩=some (.bool x.keep)):=⟨fun w' h=>⟨(h.cell (p:=⟨w.heap.size,0,none⟩) (by simp)).trans (by simp[go_sem]),(h.cell (p:=⟨w.heap.size,1,none⟩) (by simp)).trans (by simp[go_sem]),(h.cell (p:=⟨w.heap.size,2,none⟩) (by simp)).trans (by simp[go_sem]),(h.cell (p:=⟨w.heap.size,3,none⟩) (by simp)).trans (by simp[go_sem]),(h.cell (p:=⟨w.heap.size,4,none⟩) (by simp)).trans (by simp[go_sem]),(h.cell (p:=⟨w.heap.size,5,none⟩) (by simp)).trans (by simp[go_sem])⟩⟩
 go_enter Tryz.func91,Tryz.ntmps91
 go_wp2_with fail
 refine wp_region_each default (fun w'=>Below (w.alloc (.cells #[.string x.name, .int .i64 x.kind, .int .i64 x.align, .int .i64 x.size, .string x.bytes, .bool x.keep] 47)).drew.heap.size (w.alloc (.cells #[.string x.name, .int .i64 x.kind, .int .i64 x.align, .int .i64 x.size, .string x.bytes, .bool x.keep] 47)).drew w') (WtL [(2, .val (.string s2)),(9, .row [x.kind,x.align,x.size]),(10, .val (.string s10)),(11, .val (.string s11)),(14, .val (.string s14)),(15, .val (.string s15)),(18, .val (.int .i64 (truthI x.keep))),(19, .row [truthI x.keep]),(20, .val (.string s20)),(21, .val (.string s21)),(22, .val (.string s21))]) (fun w w'=>Below w.heap.size w w') [0,1,3,4,5,6,7,8,12,13,16,17] [(2,some 5),(9,some 12),(10,some 13),(11,some 14),(14,some 17),(15,some 18),(18,some 21),(19,some 22),(20,some 23),(21,some 24),(22,some 2)] (fun j=>if j=22 then .string ⟨#[]⟩ else undef)
  (by kernel_rfl) (by kernel_rfl) rfl (by kernel_rfl) (by kernel_rfl) (by kernel_rfl) (fun w=>Below.refl _ _) (fun a b c h k=>h.trans (k.mono h.size)) (WtL.keep _) (fun w' h=>h) ?_
 simp only[List.map_cons,List.map_nil,List.getD_cons_zero,List.getD_cons_succ]
 repeat
  refine free_step (v:= ?_) (by rfl) ?_ ?_
  rotate_left
  ·intro w' hSw
   obtain⟨d0,d1,d2,d3,d4,d5⟩:=HF.out w' hSw
   clear hSw
   go_simp
   first | done | with_reducible rfl
  simp only[Act.put,List.setIfInBounds_toArray,List.set_cons_zero,List.set_cons_succ]
 refine⟨by kernel_rfl,?_,?_⟩
 ·simp only[StepsAt,List.getD_cons_zero,List.getD_cons_succ]
  refine⟨?_,?_,?_,?_,?_,?_,?_,?_,?_,?_,?_,trivial⟩
  all_goals
   intro s w1 k hd K' hK'
   simp only[foldPut,List.foldl_cons,List.foldl_nil,Act.put,List.setIfInBounds_toArray,List.set_cons_zero,List.set_cons_succ] at hK'⊢
  ·clear hd
   go_simp
   refine(HC2.out _).mono ?_
   rintro e w2 ⟨rfl,h2⟩
   exact hK'.out _ _ (WtL.ofVal rfl) h2
  ·clear hd
   go_simp
   exact hK'.out _ _ (WtL.ofRow rfl (ints_row _ [x.kind,x.align,x.size])) (below_alloc _ _)
  ·have hR:=(hd 9 (by kernel_rfl) (by kernel_rfl)).row rfl
   clear hd
   generalize s 9=v0 at hR hK'⊢
   go_simp
   refine(HC10.out _ _ hR).mono ?_
   rintro e w2 ⟨rfl,h2⟩
   exact hK'.out _ _ (WtL.ofVal rfl) h2
  ·have e1:=(hd 2 (by kernel_rfl) (by kernel_rfl)).val rfl
   have e2:=(hd 10 (by kernel_rfl) (by kernel_rfl)).val rfl
   rw[e1,e2] at hK'⊢
   clear hd
   have t0:=HT11.out.1
   go_simp
   exact hK'.out _ _ (WtL.ofVal (by rw[←HT11.out.2];rfl)) (Below.refl _ _)
  ·clear hd
   go_simp
   refine(HC14.out _).mono ?_
   rintro e w2 ⟨rfl,h2⟩
   exact hK'.out _ _ (WtL.ofVal rfl) h2
  ·have e1:=(hd 11 (by kernel_rfl) (by kernel_rfl)).val rfl
   have e2:=(hd 14 (by kernel_rfl) (by kernel_rfl)).val rfl
   rw[e1,e2] at hK'⊢
   clear hd
   have t0:=HT15.out.1
   go_simp
   exact hK'.out _ _ (WtL.ofVal (by rw[←HT15.out.2];rfl)) (Below.refl _ _)
  ·clear hd
   go_simp
   refine(otruth_any _ _).mono ?_
   rintro e w2 ⟨rfl,rfl⟩
   exact hK'.out _ _ (WtL.ofVal rfl) (Below.refl _ _)
  ·have e21:=(hd 18 (by kernel_rfl) (by kernel_rfl)).val rfl
   rw[e21] at hK'⊢
   clear hd
   go_simp
   exact hK'.out _ _ (WtL.ofRow rfl (ints_row _ [truthI x.keep])) (below_alloc _ _)
  ·have hR:=(hd 19 (by kernel_rfl) (by kernel_rfl)).row rfl
   clear hd
   generalize s 19=v0 at hR hK'⊢
   go_simp
   refine(HC20.out _ _ hR).mono ?_
   rintro e w2 ⟨rfl,h2⟩
   exact hK'.out _ _ (WtL.ofVal rfl) h2
  ·have e1:=(hd 15 (by kernel_rfl) (by kernel_rfl)).val rfl
   have e2:=(hd 20 (by kernel_rfl) (by kernel_rfl)).val rfl
   rw[e1,e2] at hK'⊢
   clear hd
   have t0:=HT21.out.1
   go_simp
   exact hK'.out _ _ (WtL.ofVal (by rw[←HT21.out.2];rfl)) (Below.refl _ _)
  ·have e1:=(hd 21 (by kernel_rfl) (by kernel_rfl)).val rfl
   rw[e1] at hK'⊢
   clear hd
   go_simp
   exact hK'.out _ _ (WtL.ofVal rfl) (Below.refl _ _)
 ·intro s w1 k hall
  have e0:=(hall (22,some 2) (by simp)).val rfl
  dsimp only at e0
  have HX:=Hd.mk (HB.out w1 k)
  simp only[foldPut,List.foldl_cons,List.foldl_nil,Act.put,List.setIfInBounds_toArray,List.set_cons_zero,List.set_cons_succ]
  rw[e0]
  clear hall k
  refine NoPanic.normal ?_
  go_wp2
  go_ret
  exact⟨rfl,HX.out⟩
set_option maxHeartbeats 4000000 in
set_option maxRecDepth 100000 in
theorem bSym_any (w:World) (x:Sym) (hk:x.okc) (h_name:x.name.size≤1000000000) (h_version:x.version.size≤1000000000):
 Calls Tryz.prog 95 #[.agg #[.string x.name, .string x.version, .bool x.main, .int .i64 x.bind, .int .i64 x.vis, .int .i64 x.kind, .int .i64 x.sec, .int .i64 x.at_, .int .i64 x.size, .int .i64 x.align]] w fun e w'=>e= .returned (.string ⟨(Sym.wr x).toArray⟩)∧Below w.heap.size w w':=by
 obtain⟨_,_,_,hk_bind,hk_vis,hk_kind,hk_sec,hk_at_,hk_size,hk_align⟩:=hk
 have hE:(⟨(Sym.wr x).toArray⟩:ByteArray)=(((((⟨(strL x.name).toArray⟩:ByteArray)++(⟨(strL x.version).toArray⟩:ByteArray))++(⟨(([truthI x.main,x.bind,x.vis,x.kind]).flatMap natL).toArray⟩:ByteArray))++(⟨(intL x.sec).toArray⟩:ByteArray))++(⟨(([x.at_,x.size,x.align]).flatMap natL).toArray⟩:ByteArray)):=by
  simp only[cat_toArray,Sym.wr,boolL,List.flatMap_cons,List.flatMap_nil,List.append_assoc,List.append_nil]
 have hc2:∀w,Calls Tryz.prog 89 #[.string x.name] w fun e w'=>e= .returned (.string (⟨(strL x.name).toArray⟩:ByteArray))∧Below w.heap.size w w':=fun w=>wtext_any x.name h_name w
 have z2:(⟨(strL x.name).toArray⟩:ByteArray).size≤1000000010:=Nat.le_trans (text_len _) (by have:=h_name;omega)
 obtain⟨s2,hs2⟩:∃s:ByteArray,(⟨(strL x.name).toArray⟩:ByteArray)=s:=⟨_,rfl⟩
 rw[hs2] at hc2 z2
 have HC2:=Hd.mk hc2
 clear hc2
 have hc5:∀w,Calls Tryz.prog 89 #[.string x.version] w fun e w'=>e= .returned (.string (⟨(strL x.version).toArray⟩:ByteArray))∧Below w.heap.size w w':=fun w=>wtext_any x.version h_version w
 have z5:(⟨(strL x.version).toArray⟩:ByteArray).size≤1000000010:=Nat.le_trans (text_len _) (by have:=h_version;omega)
 obtain⟨s5,hs5⟩:∃s:ByteArray,(⟨(strL x.version).toArray⟩:ByteArray)=s:=⟨_,rfl⟩
 rw[hs5] at hc5 z5
 have HC5:=Hd.mk hc5
 clear hc5
 have t6:¬9223372036854775807<s2.size+s5.size:=by omega
 have z6:(s2++s5).size≤2000000020:=app_size z2 z5 (by decide)
 obtain⟨s6,hs6⟩:∃s:ByteArray,s2++s5=s:=⟨_,rfl⟩
 rw[hs6] at z6
 have HT6:=Hd.mk (And.intro t6 hs6)
 clear t6
 have hc17:∀w v,Rw 1 intE w v [truthI x.main,x.bind,x.vis,x.kind]→Calls Tryz.prog 92 #[v] w fun e w'=>e= .returned (.string (⟨(([truthI x.main,x.bind,x.vis,x.kind]).flatMap natL).toArray⟩:ByteArray))∧Below w.heap.size w w':=fun w v h=>onums_any w v _ h (by simp) (by intro y hy;simp only[List.mem_cons,List.not_mem_nil,or_false] at hy;rcases hy with rfl | rfl | rfl | rfl<;>first | exact truth_nat _ | exact hk_bind | exact hk_vis | exact hk_kind)
 have z17:(⟨(([truthI x.main,x.bind,x.vis,x.kind]).flatMap natL).toArray⟩:ByteArray).size≤40:=nums_size _
 obtain⟨s17,hs17⟩:∃s:ByteArray,(⟨(([truthI x.main,x.bind,x.vis,x.kind]).flatMap natL).toArray⟩:ByteArray)=s:=⟨_,rfl⟩
 rw[hs17] at hc17 z17
 have HC17:=Hd.mk hc17
 clear hc17
 have t18:¬9223372036854775807<s6.size+s17.size:=by omega
 have z18:(s6++s17).size≤2000000060:=app_size z6 z17 (by decide)
 obtain⟨s18,hs18⟩:∃s:ByteArray,s6++s17=s:=⟨_,rfl⟩
 rw[hs18] at z18
 have HT18:=Hd.mk (And.intro t18 hs18)
 clear t18
 have hc21:∀w,Calls Tryz.prog 96 #[.int .i64 x.sec] w fun e w'=>e= .returned (.string (⟨(intL x.sec).toArray⟩:ByteArray))∧Below w.heap.size w w':=fun w=>wint_any x.sec hk_sec w
 have z21:(⟨(intL x.sec).toArray⟩:ByteArray).size≤10:=int_size _
 obtain⟨s21,hs21⟩:∃s:ByteArray,(⟨(intL x.sec).toArray⟩:ByteArray)=s:=⟨_,rfl⟩
 rw[hs21] at hc21 z21
 have HC21:=Hd.mk hc21
 clear hc21
 have t22:¬9223372036854775807<s18.size+s21.size:=by omega
 have z22:(s18++s21).size≤2000000070:=app_size z18 z21 (by decide)
 obtain⟨s22,hs22⟩:∃s:ByteArray,s18++s21=s:=⟨_,rfl⟩
 rw[hs22] at z22
 have HT22:=Hd.mk (And.intro t22 hs22)
 clear t22
 have hc30:∀w v,Rw 1 intE w v [x.at_,x.size,x.align]→Calls Tryz.prog 92 #[v] w fun e w'=>e= .returned (.string (⟨(([x.at_,x.size,x.align]).flatMap natL).toArray⟩:ByteArray))∧Below w.heap.size w w':=fun w v h=>onums_any w v _ h (by simp) (by intro y hy;simp only[List.mem_cons,List.not_mem_nil,or_false] at hy;rcases hy with rfl | rfl | rfl<;>first | exact hk_at_ | exact hk_size | exact hk_align)
 have z30:(⟨(([x.at_,x.size,x.align]).flatMap natL).toArray⟩:ByteArray).size≤30:=nums_size _
 obtain⟨s30,hs30⟩:∃s:ByteArray,(⟨(([x.at_,x.size,x.align]).flatMap natL).toArray⟩:ByteArray)=s:=⟨_,rfl⟩
 rw[hs30] at hc30 z30
 have HC30:=Hd.mk hc30
 clear hc30
 have t31:¬9223372036854775807<s22.size+s30.size:=by omega
 have z31:(s22++s30).size≤2000000100:=app_size z22 z30 (by decide)
 obtain⟨s31,hs31⟩:∃s:ByteArray,s22++s30=s:=⟨_,rfl⟩
 rw[hs31] at z31
 have HT31:=Hd.mk (And.intro t31 hs31)
 clear t31
 rw[hs2,hs5,hs6,hs17,hs18,hs21,hs22,hs30,hs31] at hE
 have HE:=Hd.mk hE
 clear hE z2 hs2 z5 hs5 z6 hs6 z17 hs17 z18 hs18 z21 hs21 z22 hs22 z30 hs30 z31 hs31 h_name h_version hk_bind hk_vis hk_kind hk_sec hk_at_ hk_size hk_align
 rw[HE.out]
 have HB:Hd (∀w1,Below (w.alloc (.cells #[.string x.name, .string x.version, .bool x.main, .int .i64 x.bind, .int .i64 x.vis, .int .i64 x.kind, .int .i64 x.sec, .int .i64 x.at_, .int .i64 x.size, .int .i64 x.align] 55)).drew.heap.size (w.alloc (.cells #[.string x.name, .string x.version, .bool x.main, .int .i64 x.bind, .int .i64 x.vis, .int .i64 x.kind, .int .i64 x.sec, .int .i64 x.at_, .int .i64 x.size, .int .i64 x.align] 55)).drew w1→Below w.heap.size w w1):=⟨fun w1 h=>below_first ((Below.drew (Below.refl _ _)).trans h)⟩
 have HF:Hd (∀w',Below (w.alloc (.cells #[.string x.name, .string x.version, .bool x.main, .int .i64 x.bind, .int .i64 x.vis, .int .i64 x.kind, .int .i64 x.sec, .int .i64 x.at_, .int .i64 x.size, .int .i64 x.align] 55)).drew.heap.size (w.alloc (.cells #[.string x.name, .string x.version, .bool x.main, .int .i64 x.bind, .int .i64 x.vis, .int .i64 x.kind, .int .i64 x.sec, .int .i64 x.at_, .int .i64 x.size, .int .i64 x.align] 55)).drew w'→w'.cell? ⟨w.heap.size,0,none⟩=some (.string x.name)∧w'.cell? ⟨w.heap.size,1,none⟩=some (.string x.version)∧w'.cell? ⟨w.heap.size,2,none⟩=some (.bool x.main)∧w'.cell? ⟨w.heap.size,3,none⟩=some (.int .i64 x.bind)∧w'.cell? ⟨w.heap.size,4,none⟩=some (.int .i64 x.vis)∧w'.cell? ⟨w.heap.size,5,none⟩=some (.int .i64 x.kind)∧w'.cell? ⟨w.heap.size,6,none⟩=some (.int .i64 x.sec)∧w'.cell? ⟨w.heap.size,7,none⟩=some (.int .i64 x.at_)∧w'.cell? ⟨w.heap.size,8,none⟩=some (.int .i64 x.size)∧w'.cell? ⟨w.heap.size,9,none⟩=some (.int .i64 x.align)):=⟨fun w' h=>⟨(h.cell (p:=⟨w.heap.size,0,none⟩) (by simp)).trans (by simp[go_sem]),(h.cell (p:=⟨w.heap.size,1,none⟩) (by simp)).trans (by simp[go_sem]),(h.cell (p:=⟨w.heap.size,2,none⟩) (by simp)).trans (by simp[go_sem]),(h.cell (p:=⟨w.heap.size,3,none⟩) (by simp)).trans (by simp[go_sem]),(h.cell (p:=⟨w.heap.size,4,none⟩) (by simp)).trans (by simp[go_sem]),(h.cell (p:=⟨w.heap.size,5,none⟩) (by simp)).trans (by simp[go_sem]),(h.cell (p:=⟨w.heap.size,6,none⟩) (by simp)).trans (by simp[go_sem]),(h.cell (p:=⟨w.heap.size,7,none⟩) (by simp)).trans (by simp[go_sem]),(h.cell (p:=⟨w.heap.size,8,none⟩) (by simp)).trans (by simp[go_sem]),(h.cell (p:=⟨w.heap.size,9,none⟩) (by simp)).trans (by simp[go_sem])⟩⟩
 go_enter Tryz.func95,Tryz.ntmps95
 go_wp2_with fail
 refine wp_region_each default (fun w'=>Below (w.alloc (.cells #[.string x.name, .string x.version, .bool x.main, .int .i64 x.bind, .int .i64 x.vis, .int .i64 x.kind, .int .i64 x.sec, .int .i64 x.at_, .int .i64 x.size, .int .i64 x.align] 55)).drew.heap.size (w.alloc (.cells #[.string x.name, .string x.version, .bool x.main, .int .i64 x.bind, .int .i64 x.vis, .int .i64 x.kind, .int .i64 x.sec, .int .i64 x.at_, .int .i64 x.size, .int .i64 x.align] 55)).drew w') (WtL [(2, .val (.string s2)),(5, .val (.string s5)),(6, .val (.string s6)),(9, .val (.int .i64 (truthI x.main))),(16, .row [truthI x.main,x.bind,x.vis,x.kind]),(17, .val (.string s17)),(18, .val (.string s18)),(21, .val (.string s21)),(22, .val (.string s22)),(29, .row [x.at_,x.size,x.align]),(30, .val (.string s30)),(31, .val (.string s31)),(32, .val (.string s31))]) (fun w w'=>Below w.heap.size w w') [0,1,3,4,7,8,10,11,12,13,14,15,19,20,23,24,25,26,27,28] [(2,some 5),(5,some 8),(6,some 9),(9,some 12),(16,some 19),(17,some 20),(18,some 21),(21,some 24),(22,some 25),(29,some 32),(30,some 33),(31,some 34),(32,some 2)] (fun j=>if j=32 then .string ⟨#[]⟩ else undef)
  (by kernel_rfl) (by kernel_rfl) rfl (by kernel_rfl) (by kernel_rfl) (by kernel_rfl) (fun w=>Below.refl _ _) (fun a b c h k=>h.trans (k.mono h.size)) (WtL.keep _) (fun w' h=>h) ?_
 simp only[List.map_cons,List.map_nil,List.getD_cons_zero,List.getD_cons_succ]
 repeat
  refine free_step (v:= ?_) (by rfl) ?_ ?_
  rotate_left
  ·intro w' hSw
   obtain⟨d0,d1,d2,d3,d4,d5,d6,d7,d8,d9⟩:=HF.out w' hSw
   clear hSw
   go_simp
   first | done | with_reducible rfl
  simp only[Act.put,List.setIfInBounds_toArray,List.set_cons_zero,List.set_cons_succ]
 refine⟨by kernel_rfl,?_,?_⟩
 ·simp only[StepsAt,List.getD_cons_zero,List.getD_cons_succ]
  refine⟨?_,?_,?_,?_,?_,?_,?_,?_,?_,?_,?_,?_,?_,trivial⟩
  all_goals
   intro s w1 k hd K' hK'
   simp only[foldPut,List.foldl_cons,List.foldl_nil,Act.put,List.setIfInBounds_toArray,List.set_cons_zero,List.set_cons_succ] at hK'⊢
  ·clear hd
   go_simp
   refine(HC2.out _).mono ?_
   rintro e w2 ⟨rfl,h2⟩
   exact hK'.out _ _ (WtL.ofVal rfl) h2
  ·clear hd
   go_simp
   refine(HC5.out _).mono ?_
   rintro e w2 ⟨rfl,h2⟩
   exact hK'.out _ _ (WtL.ofVal rfl) h2
  ·have e1:=(hd 2 (by kernel_rfl) (by kernel_rfl)).val rfl
   have e2:=(hd 5 (by kernel_rfl) (by kernel_rfl)).val rfl
   rw[e1,e2] at hK'⊢
   clear hd
   have t0:=HT6.out.1
   go_simp
   exact hK'.out _ _ (WtL.ofVal (by rw[←HT6.out.2];rfl)) (Below.refl _ _)
  ·clear hd
   go_simp
   refine(otruth_any _ _).mono ?_
   rintro e w2 ⟨rfl,rfl⟩
   exact hK'.out _ _ (WtL.ofVal rfl) (Below.refl _ _)
  ·have e12:=(hd 9 (by kernel_rfl) (by kernel_rfl)).val rfl
   rw[e12] at hK'⊢
   clear hd
   go_simp
   exact hK'.out _ _ (WtL.ofRow rfl (ints_row _ [truthI x.main,x.bind,x.vis,x.kind])) (below_alloc _ _)
  ·have hR:=(hd 16 (by kernel_rfl) (by kernel_rfl)).row rfl
   clear hd
   generalize s 16=v0 at hR hK'⊢
   go_simp
   refine(HC17.out _ _ hR).mono ?_
   rintro e w2 ⟨rfl,h2⟩
   exact hK'.out _ _ (WtL.ofVal rfl) h2
  ·have e1:=(hd 6 (by kernel_rfl) (by kernel_rfl)).val rfl
   have e2:=(hd 17 (by kernel_rfl) (by kernel_rfl)).val rfl
   rw[e1,e2] at hK'⊢
   clear hd
   have t0:=HT18.out.1
   go_simp
   exact hK'.out _ _ (WtL.ofVal (by rw[←HT18.out.2];rfl)) (Below.refl _ _)
  ·clear hd
   go_simp
   refine(HC21.out _).mono ?_
   rintro e w2 ⟨rfl,h2⟩
   exact hK'.out _ _ (WtL.ofVal rfl) h2
  ·have e1:=(hd 18 (by kernel_rfl) (by kernel_rfl)).val rfl
   have e2:=(hd 21 (by kernel_rfl) (by kernel_rfl)).val rfl
   rw[e1,e2] at hK'⊢
   clear hd
   have t0:=HT22.out.1
   go_simp
   exact hK'.out _ _ (WtL.ofVal (by rw[←HT22.out.2];rfl)) (Below.refl _ _)
  ·clear hd
   go_simp
   exact hK'.out _ _ (WtL.ofRow rfl (ints_row _ [x.at_,x.size,x.align])) (below_alloc _ _)
  ·have hR:=(hd 29 (by kernel_rfl) (by kernel_rfl)).row rfl
   clear hd
   generalize s 29=v0 at hR hK'⊢
   go_simp
   refine(HC30.out _ _ hR).mono ?_
   rintro e w2 ⟨rfl,h2⟩
   exact hK'.out _ _ (WtL.ofVal rfl) h2
  ·have e1:=(hd 22 (by kernel_rfl) (by kernel_rfl)).val rfl
   have e2:=(hd 30 (by kernel_rfl) (by kernel_rfl)).val rfl
   rw[e1,e2] at hK'⊢
   clear hd
   have t0:=HT31.out.1
   go_simp
   exact hK'.out _ _ (WtL.ofVal (by rw[←HT31.out.2];rfl)) (Below.refl _ _)
  ·have e1:=(hd 31 (by kernel_rfl) (by kernel_rfl)).val rfl
   rw[e1] at hK'⊢
   clear hd
   go_simp
   exact hK'.out _ _ (WtL.ofVal rfl) (Below.refl _ _)
 ·intro s w1 k hall
  have e0:=(hall (32,some 2) (by simp)).val rfl
  dsimp only at e0
  have HX:=Hd.mk (HB.out w1 k)
  simp only[foldPut,List.foldl_cons,List.foldl_nil,Act.put,List.setIfInBounds_toArray,List.set_cons_zero,List.set_cons_succ]
  rw[e0]
  clear hall k
  refine NoPanic.normal ?_
  go_wp2
  go_ret
  exact⟨rfl,HX.out⟩
set_option maxHeartbeats 4000000 in
set_option maxRecDepth 100000 in
theorem bRel_any (w:World) (x:Rel) (hk:x.okc):
 Calls Tryz.prog 98 #[.agg #[.int .i64 x.sec, .int .i64 x.at_, .int .i64 x.kind, .int .i64 x.sym, .int .i64 x.add]] w fun e w'=>e= .returned (.string ⟨(Rel.wr x).toArray⟩)∧Below w.heap.size w w':=by
 obtain⟨hk_sec,hk_at_,hk_kind,hk_sym,hk_add⟩:=hk
 have hE:(⟨(Rel.wr x).toArray⟩:ByteArray)=((⟨(([x.sec,x.at_,x.kind,x.sym]).flatMap natL).toArray⟩:ByteArray)++(⟨(intL x.add).toArray⟩:ByteArray)):=by
  simp only[cat_toArray,Rel.wr,List.flatMap_cons,List.flatMap_nil,List.append_assoc,List.append_nil]
 have hc9:∀w v,Rw 1 intE w v [x.sec,x.at_,x.kind,x.sym]→Calls Tryz.prog 92 #[v] w fun e w'=>e= .returned (.string (⟨(([x.sec,x.at_,x.kind,x.sym]).flatMap natL).toArray⟩:ByteArray))∧Below w.heap.size w w':=fun w v h=>onums_any w v _ h (by simp) (by intro y hy;simp only[List.mem_cons,List.not_mem_nil,or_false] at hy;rcases hy with rfl | rfl | rfl | rfl<;>first | exact hk_sec | exact hk_at_ | exact hk_kind | exact hk_sym)
 have z9:(⟨(([x.sec,x.at_,x.kind,x.sym]).flatMap natL).toArray⟩:ByteArray).size≤40:=nums_size _
 obtain⟨s9,hs9⟩:∃s:ByteArray,(⟨(([x.sec,x.at_,x.kind,x.sym]).flatMap natL).toArray⟩:ByteArray)=s:=⟨_,rfl⟩
 rw[hs9] at hc9 z9
 have HC9:=Hd.mk hc9
 clear hc9
 have hc12:∀w,Calls Tryz.prog 96 #[.int .i64 x.add] w fun e w'=>e= .returned (.string (⟨(intL x.add).toArray⟩:ByteArray))∧Below w.heap.size w w':=fun w=>wint_any x.add hk_add w
 have z12:(⟨(intL x.add).toArray⟩:ByteArray).size≤10:=int_size _
 obtain⟨s12,hs12⟩:∃s:ByteArray,(⟨(intL x.add).toArray⟩:ByteArray)=s:=⟨_,rfl⟩
 rw[hs12] at hc12 z12
 have HC12:=Hd.mk hc12
 clear hc12
 have t13:¬9223372036854775807<s9.size+s12.size:=by omega
 have z13:(s9++s12).size≤50:=app_size z9 z12 (by decide)
 obtain⟨s13,hs13⟩:∃s:ByteArray,s9++s12=s:=⟨_,rfl⟩
 rw[hs13] at z13
 have HT13:=Hd.mk (And.intro t13 hs13)
 clear t13
 rw[hs9,hs12,hs13] at hE
 have HE:=Hd.mk hE
 clear hE z9 hs9 z12 hs12 z13 hs13 hk_sec hk_at_ hk_kind hk_sym hk_add
 rw[HE.out]
 have HB:Hd (∀w1,Below (w.alloc (.cells #[.int .i64 x.sec, .int .i64 x.at_, .int .i64 x.kind, .int .i64 x.sym, .int .i64 x.add] 50)).drew.heap.size (w.alloc (.cells #[.int .i64 x.sec, .int .i64 x.at_, .int .i64 x.kind, .int .i64 x.sym, .int .i64 x.add] 50)).drew w1→Below w.heap.size w w1):=⟨fun w1 h=>below_first ((Below.drew (Below.refl _ _)).trans h)⟩
 have HF:Hd (∀w',Below (w.alloc (.cells #[.int .i64 x.sec, .int .i64 x.at_, .int .i64 x.kind, .int .i64 x.sym, .int .i64 x.add] 50)).drew.heap.size (w.alloc (.cells #[.int .i64 x.sec, .int .i64 x.at_, .int .i64 x.kind, .int .i64 x.sym, .int .i64 x.add] 50)).drew w'→w'.cell? ⟨w.heap.size,0,none⟩=some (.int .i64 x.sec)∧w'.cell? ⟨w.heap.size,1,none⟩=some (.int .i64 x.at_)∧w'.cell? ⟨w.heap.size,2,none⟩=some (.int .i64 x.kind)∧w'.cell? ⟨w.heap.size,3,none⟩=some (.int .i64 x.sym)∧w'.cell? ⟨w.heap.size,4,none⟩=some (.int .i64 x.add)):=⟨fun w' h=>⟨(h.cell (p:=⟨w.heap.size,0,none⟩) (by simp)).trans (by simp[go_sem]),(h.cell (p:=⟨w.heap.size,1,none⟩) (by simp)).trans (by simp[go_sem]),(h.cell (p:=⟨w.heap.size,2,none⟩) (by simp)).trans (by simp[go_sem]),(h.cell (p:=⟨w.heap.size,3,none⟩) (by simp)).trans (by simp[go_sem]),(h.cell (p:=⟨w.heap.size,4,none⟩) (by simp)).trans (by simp[go_sem])⟩⟩
 go_enter Tryz.func98,Tryz.ntmps98
 go_wp2_with fail
 refine wp_region_each default (fun w'=>Below (w.alloc (.cells #[.int .i64 x.sec, .int .i64 x.at_, .int .i64 x.kind, .int .i64 x.sym, .int .i64 x.add] 50)).drew.heap.size (w.alloc (.cells #[.int .i64 x.sec, .int .i64 x.at_, .int .i64 x.kind, .int .i64 x.sym, .int .i64 x.add] 50)).drew w') (WtL [(8, .row [x.sec,x.at_,x.kind,x.sym]),(9, .val (.string s9)),(12, .val (.string s12)),(13, .val (.string s13)),(14, .val (.string s13))]) (fun w w'=>Below w.heap.size w w') [0,1,2,3,4,5,6,7,10,11] [(8,some 11),(9,some 12),(12,some 15),(13,some 16),(14,some 2)] (fun j=>if j=14 then .string ⟨#[]⟩ else undef)
  (by kernel_rfl) (by kernel_rfl) rfl (by kernel_rfl) (by kernel_rfl) (by kernel_rfl) (fun w=>Below.refl _ _) (fun a b c h k=>h.trans (k.mono h.size)) (WtL.keep _) (fun w' h=>h) ?_
 simp only[List.map_cons,List.map_nil,List.getD_cons_zero,List.getD_cons_succ]
 repeat
  refine free_step (v:= ?_) (by rfl) ?_ ?_
  rotate_left
  ·intro w' hSw
   obtain⟨d0,d1,d2,d3,d4⟩:=HF.out w' hSw
   clear hSw
   go_simp
   first | done | with_reducible rfl
  simp only[Act.put,List.setIfInBounds_toArray,List.set_cons_zero,List.set_cons_succ]
 refine⟨by kernel_rfl,?_,?_⟩
 ·simp only[StepsAt,List.getD_cons_zero,List.getD_cons_succ]
  refine⟨?_,?_,?_,?_,?_,trivial⟩
  all_goals
   intro s w1 k hd K' hK'
   simp only[foldPut,List.foldl_cons,List.foldl_nil,Act.put,List.setIfInBounds_toArray,List.set_cons_zero,List.set_cons_succ] at hK'⊢
  ·clear hd
   go_simp
   exact hK'.out _ _ (WtL.ofRow rfl (ints_row _ [x.sec,x.at_,x.kind,x.sym])) (below_alloc _ _)
  ·have hR:=(hd 8 (by kernel_rfl) (by kernel_rfl)).row rfl
   clear hd
   generalize s 8=v0 at hR hK'⊢
   go_simp
   refine(HC9.out _ _ hR).mono ?_
   rintro e w2 ⟨rfl,h2⟩
   exact hK'.out _ _ (WtL.ofVal rfl) h2
  ·clear hd
   go_simp
   refine(HC12.out _).mono ?_
   rintro e w2 ⟨rfl,h2⟩
   exact hK'.out _ _ (WtL.ofVal rfl) h2
  ·have e1:=(hd 9 (by kernel_rfl) (by kernel_rfl)).val rfl
   have e2:=(hd 12 (by kernel_rfl) (by kernel_rfl)).val rfl
   rw[e1,e2] at hK'⊢
   clear hd
   have t0:=HT13.out.1
   go_simp
   exact hK'.out _ _ (WtL.ofVal (by rw[←HT13.out.2];rfl)) (Below.refl _ _)
  ·have e1:=(hd 13 (by kernel_rfl) (by kernel_rfl)).val rfl
   rw[e1] at hK'⊢
   clear hd
   go_simp
   exact hK'.out _ _ (WtL.ofVal rfl) (Below.refl _ _)
 ·intro s w1 k hall
  have e0:=(hall (14,some 2) (by simp)).val rfl
  dsimp only at e0
  have HX:=Hd.mk (HB.out w1 k)
  simp only[foldPut,List.foldl_cons,List.foldl_nil,Act.put,List.setIfInBounds_toArray,List.set_cons_zero,List.set_cons_succ]
  rw[e0]
  clear hall k
  refine NoPanic.normal ?_
  go_wp2
  go_ret
  exact⟨rfl,HX.out⟩
set_option maxHeartbeats 4000000 in
set_option maxRecDepth 100000 in
theorem bGrp_any (w:World) (x:Grp) (psecs:Option Addr) (csecs:Nat) (hr_secs:Rw 1 intE w (.slice psecs x.secs.length csecs) x.secs) (hk:x.okc) (h_name:x.name.size≤1000000000) (hk_secs:∀y∈x.secs,I64 y) (hl_secs:(listL intL x.secs).length≤1000000000000):
 Calls Tryz.prog 100 #[.agg #[.string x.name, .slice psecs x.secs.length csecs]] w fun e w'=>e= .returned (.string ⟨(Grp.wr x).toArray⟩)∧Below w.heap.size w w':=by
 obtain⟨_,_⟩:=hk
 have hE:(⟨(Grp.wr x).toArray⟩:ByteArray)=((⟨(strL x.name).toArray⟩:ByteArray)++(⟨(listL intL x.secs).toArray⟩:ByteArray)):=by
  simp only[cat_toArray,Grp.wr,List.flatMap_cons,List.flatMap_nil,List.append_assoc,List.append_nil]
 have hc2:∀w,Calls Tryz.prog 89 #[.string x.name] w fun e w'=>e= .returned (.string (⟨(strL x.name).toArray⟩:ByteArray))∧Below w.heap.size w w':=fun w=>wtext_any x.name h_name w
 have z2:(⟨(strL x.name).toArray⟩:ByteArray).size≤1000000010:=Nat.le_trans (text_len _) (by have:=h_name;omega)
 obtain⟨s2,hs2⟩:∃s:ByteArray,(⟨(strL x.name).toArray⟩:ByteArray)=s:=⟨_,rfl⟩
 rw[hs2] at hc2 z2
 have HC2:=Hd.mk hc2
 clear hc2
 have hc5:∀w1,Below w.heap.size w w1→Calls Tryz.prog 101 #[.slice psecs x.secs.length csecs] w1 fun e w'=>e= .returned (.string (⟨(listL intL x.secs).toArray⟩:ByteArray))∧Below w1.heap.size w1 w':=fun w1 h=>wnums_any w1 _ _ (Rw.below hr_secs intE_stays h) hk_secs hl_secs
 have z5:(⟨(listL intL x.secs).toArray⟩:ByteArray).size≤1000000000000:=list_size _ _ hl_secs
 obtain⟨s5,hs5⟩:∃s:ByteArray,(⟨(listL intL x.secs).toArray⟩:ByteArray)=s:=⟨_,rfl⟩
 rw[hs5] at hc5 z5
 have HC5:=Hd.mk hc5
 clear hc5
 have t6:¬9223372036854775807<s2.size+s5.size:=by omega
 have z6:(s2++s5).size≤1001000000010:=app_size z2 z5 (by decide)
 obtain⟨s6,hs6⟩:∃s:ByteArray,s2++s5=s:=⟨_,rfl⟩
 rw[hs6] at z6
 have HT6:=Hd.mk (And.intro t6 hs6)
 clear t6
 rw[hs2,hs5,hs6] at hE
 have HE:=Hd.mk hE
 clear hE z2 hs2 z5 hs5 z6 hs6 h_name hr_secs hk_secs hl_secs
 rw[HE.out]
 have HB:Hd (∀w1,Below (w.alloc (.cells #[.string x.name, .slice psecs x.secs.length csecs] 65)).drew.heap.size (w.alloc (.cells #[.string x.name, .slice psecs x.secs.length csecs] 65)).drew w1→Below w.heap.size w w1):=⟨fun w1 h=>below_first ((Below.drew (Below.refl _ _)).trans h)⟩
 have HF:Hd (∀w',Below (w.alloc (.cells #[.string x.name, .slice psecs x.secs.length csecs] 65)).drew.heap.size (w.alloc (.cells #[.string x.name, .slice psecs x.secs.length csecs] 65)).drew w'→w'.cell? ⟨w.heap.size,0,none⟩=some (.string x.name)∧w'.cell? ⟨w.heap.size,1,none⟩=some (.slice psecs x.secs.length csecs)):=⟨fun w' h=>⟨(h.cell (p:=⟨w.heap.size,0,none⟩) (by simp)).trans (by simp[go_sem]),(h.cell (p:=⟨w.heap.size,1,none⟩) (by simp)).trans (by simp[go_sem])⟩⟩
 go_enter Tryz.func100,Tryz.ntmps100
 go_wp2_with fail
 refine wp_region_each default (fun w'=>Below (w.alloc (.cells #[.string x.name, .slice psecs x.secs.length csecs] 65)).drew.heap.size (w.alloc (.cells #[.string x.name, .slice psecs x.secs.length csecs] 65)).drew w') (WtL [(2, .val (.string s2)),(5, .val (.string s5)),(6, .val (.string s6)),(7, .val (.string s6))]) (fun w w'=>Below w.heap.size w w') [0,1,3,4] [(2,some 5),(5,some 8),(6,some 9),(7,some 2)] (fun j=>if j=7 then .string ⟨#[]⟩ else undef)
  (by kernel_rfl) (by kernel_rfl) rfl (by kernel_rfl) (by kernel_rfl) (by kernel_rfl) (fun w=>Below.refl _ _) (fun a b c h k=>h.trans (k.mono h.size)) (WtL.keep _) (fun w' h=>h) ?_
 simp only[List.map_cons,List.map_nil,List.getD_cons_zero,List.getD_cons_succ]
 repeat
  refine free_step (v:= ?_) (by rfl) ?_ ?_
  rotate_left
  ·intro w' hSw
   obtain⟨d0,d1⟩:=HF.out w' hSw
   clear hSw
   go_simp
   first | done | with_reducible rfl
  simp only[Act.put,List.setIfInBounds_toArray,List.set_cons_zero,List.set_cons_succ]
 refine⟨by kernel_rfl,?_,?_⟩
 ·simp only[StepsAt,List.getD_cons_zero,List.getD_cons_succ]
  refine⟨?_,?_,?_,?_,trivial⟩
  all_goals
   intro s w1 k hd K' hK'
   simp only[foldPut,List.foldl_cons,List.foldl_nil,Act.put,List.setIfInBounds_toArray,List.set_cons_zero,List.set_cons_succ] at hK'⊢
  ·clear hd
   go_simp
   refine(HC2.out _).mono ?_
   rintro e w2 ⟨rfl,h2⟩
   exact hK'.out _ _ (WtL.ofVal rfl) h2
  ·clear hd
   go_simp
   refine(HC5.out _ (HB.out _ k)).mono ?_
   rintro e w2 ⟨rfl,h2⟩
   exact hK'.out _ _ (WtL.ofVal rfl) h2
  ·have e1:=(hd 2 (by kernel_rfl) (by kernel_rfl)).val rfl
   have e2:=(hd 5 (by kernel_rfl) (by kernel_rfl)).val rfl
   rw[e1,e2] at hK'⊢
   clear hd
   have t0:=HT6.out.1
   go_simp
   exact hK'.out _ _ (WtL.ofVal (by rw[←HT6.out.2];rfl)) (Below.refl _ _)
  ·have e1:=(hd 6 (by kernel_rfl) (by kernel_rfl)).val rfl
   rw[e1] at hK'⊢
   clear hd
   go_simp
   exact hK'.out _ _ (WtL.ofVal rfl) (Below.refl _ _)
 ·intro s w1 k hall
  have e0:=(hall (7,some 2) (by simp)).val rfl
  dsimp only at e0
  have HX:=Hd.mk (HB.out w1 k)
  simp only[foldPut,List.foldl_cons,List.foldl_nil,Act.put,List.setIfInBounds_toArray,List.set_cons_zero,List.set_cons_succ]
  rw[e0]
  clear hall k
  refine NoPanic.normal ?_
  go_wp2
  go_ret
  exact⟨rfl,HX.out⟩
set_option maxHeartbeats 4000000 in
set_option maxRecDepth 100000 in
theorem bIni_any (w:World) (x:Ini) (hk:x.okc):
 Calls Tryz.prog 103 #[.agg #[.int .i64 x.sym, .int .i64 x.order, .bool x.last]] w fun e w'=>e= .returned (.string ⟨(Ini.wr x).toArray⟩)∧Below w.heap.size w w':=by
 obtain⟨hk_sym,hk_order,_⟩:=hk
 have hE:(⟨(Ini.wr x).toArray⟩:ByteArray)=(((⟨(([x.sym]).flatMap natL).toArray⟩:ByteArray)++(⟨(intL x.order).toArray⟩:ByteArray))++(⟨(([truthI x.last]).flatMap natL).toArray⟩:ByteArray)):=by
  simp only[cat_toArray,Ini.wr,boolL,List.flatMap_cons,List.flatMap_nil,List.append_assoc,List.append_nil]
 have hc3:∀w v,Rw 1 intE w v [x.sym]→Calls Tryz.prog 92 #[v] w fun e w'=>e= .returned (.string (⟨(([x.sym]).flatMap natL).toArray⟩:ByteArray))∧Below w.heap.size w w':=fun w v h=>onums_any w v _ h (by simp) (by intro y hy;simp only[List.mem_cons,List.not_mem_nil,or_false] at hy;subst hy;exact hk_sym)
 have z3:(⟨(([x.sym]).flatMap natL).toArray⟩:ByteArray).size≤10:=nums_size _
 obtain⟨s3,hs3⟩:∃s:ByteArray,(⟨(([x.sym]).flatMap natL).toArray⟩:ByteArray)=s:=⟨_,rfl⟩
 rw[hs3] at hc3 z3
 have HC3:=Hd.mk hc3
 clear hc3
 have hc6:∀w,Calls Tryz.prog 96 #[.int .i64 x.order] w fun e w'=>e= .returned (.string (⟨(intL x.order).toArray⟩:ByteArray))∧Below w.heap.size w w':=fun w=>wint_any x.order hk_order w
 have z6:(⟨(intL x.order).toArray⟩:ByteArray).size≤10:=int_size _
 obtain⟨s6,hs6⟩:∃s:ByteArray,(⟨(intL x.order).toArray⟩:ByteArray)=s:=⟨_,rfl⟩
 rw[hs6] at hc6 z6
 have HC6:=Hd.mk hc6
 clear hc6
 have t7:¬9223372036854775807<s3.size+s6.size:=by omega
 have z7:(s3++s6).size≤20:=app_size z3 z6 (by decide)
 obtain⟨s7,hs7⟩:∃s:ByteArray,s3++s6=s:=⟨_,rfl⟩
 rw[hs7] at z7
 have HT7:=Hd.mk (And.intro t7 hs7)
 clear t7
 have hc12:∀w v,Rw 1 intE w v [truthI x.last]→Calls Tryz.prog 92 #[v] w fun e w'=>e= .returned (.string (⟨(([truthI x.last]).flatMap natL).toArray⟩:ByteArray))∧Below w.heap.size w w':=fun w v h=>onums_any w v _ h (by simp) (by intro y hy;simp only[List.mem_cons,List.not_mem_nil,or_false] at hy;subst hy;exact truth_nat _)
 have z12:(⟨(([truthI x.last]).flatMap natL).toArray⟩:ByteArray).size≤10:=nums_size _
 obtain⟨s12,hs12⟩:∃s:ByteArray,(⟨(([truthI x.last]).flatMap natL).toArray⟩:ByteArray)=s:=⟨_,rfl⟩
 rw[hs12] at hc12 z12
 have HC12:=Hd.mk hc12
 clear hc12
 have t13:¬9223372036854775807<s7.size+s12.size:=by omega
 have z13:(s7++s12).size≤30:=app_size z7 z12 (by decide)
 obtain⟨s13,hs13⟩:∃s:ByteArray,s7++s12=s:=⟨_,rfl⟩
 rw[hs13] at z13
 have HT13:=Hd.mk (And.intro t13 hs13)
 clear t13
 rw[hs3,hs6,hs7,hs12,hs13] at hE
 have HE:=Hd.mk hE
 clear hE z3 hs3 z6 hs6 z7 hs7 z12 hs12 z13 hs13 hk_sym hk_order
 rw[HE.out]
 have HB:Hd (∀w1,Below (w.alloc (.cells #[.int .i64 x.sym, .int .i64 x.order, .bool x.last] 84)).drew.heap.size (w.alloc (.cells #[.int .i64 x.sym, .int .i64 x.order, .bool x.last] 84)).drew w1→Below w.heap.size w w1):=⟨fun w1 h=>below_first ((Below.drew (Below.refl _ _)).trans h)⟩
 have HF:Hd (∀w',Below (w.alloc (.cells #[.int .i64 x.sym, .int .i64 x.order, .bool x.last] 84)).drew.heap.size (w.alloc (.cells #[.int .i64 x.sym, .int .i64 x.order, .bool x.last] 84)).drew w'→w'.cell? ⟨w.heap.size,0,none⟩=some (.int .i64 x.sym)∧w'.cell? ⟨w.heap.size,1,none⟩=some (.int .i64 x.order)∧w'.cell? ⟨w.heap.size,2,none⟩=some (.bool x.last)):=⟨fun w' h=>⟨(h.cell (p:=⟨w.heap.size,0,none⟩) (by simp)).trans (by simp[go_sem]),(h.cell (p:=⟨w.heap.size,1,none⟩) (by simp)).trans (by simp[go_sem]),(h.cell (p:=⟨w.heap.size,2,none⟩) (by simp)).trans (by simp[go_sem])⟩⟩
 go_enter Tryz.func103,Tryz.ntmps103
 go_wp2_with fail
 refine wp_region_each default (fun w'=>Below (w.alloc (.cells #[.int .i64 x.sym, .int .i64 x.order, .bool x.last] 84)).drew.heap.size (w.alloc (.cells #[.int .i64 x.sym, .int .i64 x.order, .bool x.last] 84)).drew w') (WtL [(2, .row [x.sym]),(3, .val (.string s3)),(6, .val (.string s6)),(7, .val (.string s7)),(10, .val (.int .i64 (truthI x.last))),(11, .row [truthI x.last]),(12, .val (.string s12)),(13, .val (.string s13)),(14, .val (.string s13))]) (fun w w'=>Below w.heap.size w w') [0,1,4,5,8,9] [(2,some 5),(3,some 6),(6,some 9),(7,some 10),(10,some 13),(11,some 14),(12,some 15),(13,some 16),(14,some 2)] (fun j=>if j=14 then .string ⟨#[]⟩ else undef)
  (by kernel_rfl) (by kernel_rfl) rfl (by kernel_rfl) (by kernel_rfl) (by kernel_rfl) (fun w=>Below.refl _ _) (fun a b c h k=>h.trans (k.mono h.size)) (WtL.keep _) (fun w' h=>h) ?_
 simp only[List.map_cons,List.map_nil,List.getD_cons_zero,List.getD_cons_succ]
 repeat
  refine free_step (v:= ?_) (by rfl) ?_ ?_
  rotate_left
  ·intro w' hSw
   obtain⟨d0,d1,d2⟩:=HF.out w' hSw
   clear hSw
   go_simp
   first | done | with_reducible rfl
  simp only[Act.put,List.setIfInBounds_toArray,List.set_cons_zero,List.set_cons_succ]
 refine⟨by kernel_rfl,?_,?_⟩
 ·simp only[StepsAt,List.getD_cons_zero,List.getD_cons_succ]
  refine⟨?_,?_,?_,?_,?_,?_,?_,?_,?_,trivial⟩
  all_goals
   intro s w1 k hd K' hK'
   simp only[foldPut,List.foldl_cons,List.foldl_nil,Act.put,List.setIfInBounds_toArray,List.set_cons_zero,List.set_cons_succ] at hK'⊢
  ·clear hd
   go_simp
   exact hK'.out _ _ (WtL.ofRow rfl (ints_row _ [x.sym])) (below_alloc _ _)
  ·have hR:=(hd 2 (by kernel_rfl) (by kernel_rfl)).row rfl
   clear hd
   generalize s 2=v0 at hR hK'⊢
   go_simp
   refine(HC3.out _ _ hR).mono ?_
   rintro e w2 ⟨rfl,h2⟩
   exact hK'.out _ _ (WtL.ofVal rfl) h2
  ·clear hd
   go_simp
   refine(HC6.out _).mono ?_
   rintro e w2 ⟨rfl,h2⟩
   exact hK'.out _ _ (WtL.ofVal rfl) h2
  ·have e1:=(hd 3 (by kernel_rfl) (by kernel_rfl)).val rfl
   have e2:=(hd 6 (by kernel_rfl) (by kernel_rfl)).val rfl
   rw[e1,e2] at hK'⊢
   clear hd
   have t0:=HT7.out.1
   go_simp
   exact hK'.out _ _ (WtL.ofVal (by rw[←HT7.out.2];rfl)) (Below.refl _ _)
  ·clear hd
   go_simp
   refine(otruth_any _ _).mono ?_
   rintro e w2 ⟨rfl,rfl⟩
   exact hK'.out _ _ (WtL.ofVal rfl) (Below.refl _ _)
  ·have e13:=(hd 10 (by kernel_rfl) (by kernel_rfl)).val rfl
   rw[e13] at hK'⊢
   clear hd
   go_simp
   exact hK'.out _ _ (WtL.ofRow rfl (ints_row _ [truthI x.last])) (below_alloc _ _)
  ·have hR:=(hd 11 (by kernel_rfl) (by kernel_rfl)).row rfl
   clear hd
   generalize s 11=v0 at hR hK'⊢
   go_simp
   refine(HC12.out _ _ hR).mono ?_
   rintro e w2 ⟨rfl,h2⟩
   exact hK'.out _ _ (WtL.ofVal rfl) h2
  ·have e1:=(hd 7 (by kernel_rfl) (by kernel_rfl)).val rfl
   have e2:=(hd 12 (by kernel_rfl) (by kernel_rfl)).val rfl
   rw[e1,e2] at hK'⊢
   clear hd
   have t0:=HT13.out.1
   go_simp
   exact hK'.out _ _ (WtL.ofVal (by rw[←HT13.out.2];rfl)) (Below.refl _ _)
  ·have e1:=(hd 13 (by kernel_rfl) (by kernel_rfl)).val rfl
   rw[e1] at hK'⊢
   clear hd
   go_simp
   exact hK'.out _ _ (WtL.ofVal rfl) (Below.refl _ _)
 ·intro s w1 k hall
  have e0:=(hall (14,some 2) (by simp)).val rfl
  dsimp only at e0
  have HX:=Hd.mk (HB.out w1 k)
  simp only[foldPut,List.foldl_cons,List.foldl_nil,Act.put,List.setIfInBounds_toArray,List.set_cons_zero,List.set_cons_succ]
  rw[e0]
  clear hall k
  refine NoPanic.normal ?_
  go_wp2
  go_ret
  exact⟨rfl,HX.out⟩
end Go.Proofs.YtfaepbjnpakghaaGreatDoor.W
