import Derived.Test.YtfaepbjnpakghaaGreatDoorKaj
import Derived.Test.YtfaepbjnpakghaaGreatDoorKLs1
/- The walks of the functions that Bytes hands to list (printed by tools/gen_bcl.py). -/
namespace Go.Proofs.YtfaepbjnpakghaaGreatDoor.W
open Go.RowKit
set_option linter.unusedVariables false
set_option linter.unusedSimpArgs false
set_option maxHeartbeats 4000000 in
set_option maxRecDepth 100000 in
theorem bLne_any (w:World) (x:Lne) (hk:x.okc) (h_file:x.file.size≤1000000000):
 Calls Tryz.prog 105 #[.agg #[.int .i64 x.sec, .int .i64 x.at_, .string x.file, .int .i64 x.line]] w fun e w'=>e= .returned (.string ⟨(Lne.wr x).toArray⟩)∧Below w.heap.size w w':=by
 obtain⟨hk_sec,hk_at_,_,hk_line⟩:=hk
 have hE:(⟨(Lne.wr x).toArray⟩:ByteArray)=(((⟨(([x.sec,x.at_]).flatMap natL).toArray⟩:ByteArray)++(⟨(strL x.file).toArray⟩:ByteArray))++(⟨(([x.line]).flatMap natL).toArray⟩:ByteArray)):=by
  simp only[cat_toArray,Lne.wr,List.flatMap_cons,List.flatMap_nil,List.append_assoc,List.append_nil]
 have hc5:∀w v,Rw 1 intE w v [x.sec,x.at_]→Calls Tryz.prog 92 #[v] w fun e w'=>e= .returned (.string (⟨(([x.sec,x.at_]).flatMap natL).toArray⟩:ByteArray))∧Below w.heap.size w w':=fun w v h=>onums_any w v _ h (by simp) (by intro y hy;simp only[List.mem_cons,List.not_mem_nil,or_false] at hy;rcases hy with rfl | rfl<;>first | exact hk_sec | exact hk_at_)
 have z5:(⟨(([x.sec,x.at_]).flatMap natL).toArray⟩:ByteArray).size≤20:=nums_size _
 obtain⟨s5,hs5⟩:∃s:ByteArray,(⟨(([x.sec,x.at_]).flatMap natL).toArray⟩:ByteArray)=s:=⟨_,rfl⟩
 rw[hs5] at hc5 z5
 have HC5:=Hd.mk hc5
 clear hc5
 have hc8:∀w,Calls Tryz.prog 89 #[.string x.file] w fun e w'=>e= .returned (.string (⟨(strL x.file).toArray⟩:ByteArray))∧Below w.heap.size w w':=fun w=>wtext_any x.file h_file w
 have z8:(⟨(strL x.file).toArray⟩:ByteArray).size≤1000000010:=Nat.le_trans (text_len _) (by have:=h_file;omega)
 obtain⟨s8,hs8⟩:∃s:ByteArray,(⟨(strL x.file).toArray⟩:ByteArray)=s:=⟨_,rfl⟩
 rw[hs8] at hc8 z8
 have HC8:=Hd.mk hc8
 clear hc8
 have t9:¬9223372036854775807<s5.size+s8.size:=by omega
 have z9:(s5++s8).size≤1000000030:=app_size z5 z8 (by decide)
 obtain⟨s9,hs9⟩:∃s:ByteArray,s5++s8=s:=⟨_,rfl⟩
 rw[hs9] at z9
 have HT9:=Hd.mk (And.intro t9 hs9)
 clear t9
 have hc13:∀w v,Rw 1 intE w v [x.line]→Calls Tryz.prog 92 #[v] w fun e w'=>e= .returned (.string (⟨(([x.line]).flatMap natL).toArray⟩:ByteArray))∧Below w.heap.size w w':=fun w v h=>onums_any w v _ h (by simp) (by intro y hy;simp only[List.mem_cons,List.not_mem_nil,or_false] at hy;subst hy;exact hk_line)
 have z13:(⟨(([x.line]).flatMap natL).toArray⟩:ByteArray).size≤10:=nums_size _
 obtain⟨s13,hs13⟩:∃s:ByteArray,(⟨(([x.line]).flatMap natL).toArray⟩:ByteArray)=s:=⟨_,rfl⟩
 rw[hs13] at hc13 z13
 have HC13:=Hd.mk hc13
 clear hc13
 have t14:¬9223372036854775807<s9.size+s13.size:=by omega
 have z14:(s9++s13).size≤1000000040:=app_size z9 z13 (by decide)
 obtain⟨s14,hs14⟩:∃s:ByteArray,s9++s13=s:=⟨_,rfl⟩
 rw[hs14] at z14
 have HT14:=Hd.mk (And.intro t14 hs14)
 clear t14
 rw[hs5,hs8,hs9,hs13,hs14] at hE
 have HE:=Hd.mk hE
 clear hE z5 hs5 z8 hs8 z9 hs9 z13 hs13 z14 hs14 h_file hk_sec hk_at_ hk_line
 rw[HE.out]
 have HB:Hd (∀w1,Below (w.alloc (.cells #[.int .i64 x.sec, .int .i64 x.at_, .string x.file, .int .i64 x.line] 57)).drew.heap.size (w.alloc (.cells #[.int .i64 x.sec, .int .i64 x.at_, .string x.file, .int .i64 x.line] 57)).drew w1→Below w.heap.size w w1):=⟨fun w1 h=>below_first ((Below.drew (Below.refl _ _)).trans h)⟩
 have HF:Hd (∀w',Below (w.alloc (.cells #[.int .i64 x.sec, .int .i64 x.at_, .string x.file, .int .i64 x.line] 57)).drew.heap.size (w.alloc (.cells #[.int .i64 x.sec, .int .i64 x.at_, .string x.file, .int .i64 x.line] 57)).drew w'→w'.cell? ⟨w.heap.size,0,none⟩=some (.int .i64 x.sec)∧w'.cell? ⟨w.heap.size,1,none⟩=some (.int .i64 x.at_)∧w'.cell? ⟨w.heap.size,2,none⟩=some (.string x.file)∧w'.cell? ⟨w.heap.size,3,none⟩=some (.int .i64 x.line)):=⟨fun w' h=>⟨(h.cell (p:=⟨w.heap.size,0,none⟩) (by simp)).trans (by simp[go_sem]),(h.cell (p:=⟨w.heap.size,1,none⟩) (by simp)).trans (by simp[go_sem]),(h.cell (p:=⟨w.heap.size,2,none⟩) (by simp)).trans (by simp[go_sem]),(h.cell (p:=⟨w.heap.size,3,none⟩) (by simp)).trans (by simp[go_sem])⟩⟩
 go_enter Tryz.func105,Tryz.ntmps105
 go_wp2_with fail
 refine wp_region_each default (fun w'=>Below (w.alloc (.cells #[.int .i64 x.sec, .int .i64 x.at_, .string x.file, .int .i64 x.line] 57)).drew.heap.size (w.alloc (.cells #[.int .i64 x.sec, .int .i64 x.at_, .string x.file, .int .i64 x.line] 57)).drew w') (WtL [(4, .row [x.sec,x.at_]),(5, .val (.string s5)),(8, .val (.string s8)),(9, .val (.string s9)),(12, .row [x.line]),(13, .val (.string s13)),(14, .val (.string s14)),(15, .val (.string s14))]) (fun w w'=>Below w.heap.size w w') [0,1,2,3,6,7,10,11] [(4,some 7),(5,some 8),(8,some 11),(9,some 12),(12,some 15),(13,some 16),(14,some 17),(15,some 2)] (fun j=>if j=15 then .string ⟨#[]⟩ else undef)
  (by kernel_rfl) (by kernel_rfl) rfl (by kernel_rfl) (by kernel_rfl) (by kernel_rfl) (fun w=>Below.refl _ _) (fun a b c h k=>h.trans (k.mono h.size)) (WtL.keep _) (fun w' h=>h) ?_
 simp only[List.map_cons,List.map_nil,List.getD_cons_zero,List.getD_cons_succ]
 repeat
  refine free_step (v:= ?_) (by rfl) ?_ ?_
  rotate_left
  ·intro w' hSw
   obtain⟨d0,d1,d2,d3⟩:=HF.out w' hSw
   clear hSw
   go_simp
   first | done | with_reducible rfl
  simp only[Act.put,List.setIfInBounds_toArray,List.set_cons_zero,List.set_cons_succ]
 refine⟨by kernel_rfl,?_,?_⟩
 ·simp only[StepsAt,List.getD_cons_zero,List.getD_cons_succ]
  refine⟨?_,?_,?_,?_,?_,?_,?_,?_,trivial⟩
  all_goals
   intro s w1 k hd K' hK'
   simp only[foldPut,List.foldl_cons,List.foldl_nil,Act.put,List.setIfInBounds_toArray,List.set_cons_zero,List.set_cons_succ] at hK'⊢
  ·clear hd
   go_simp
   exact hK'.out _ _ (WtL.ofRow rfl (ints_row _ [x.sec,x.at_])) (below_alloc _ _)
  ·have hR:=(hd 4 (by kernel_rfl) (by kernel_rfl)).row rfl
   clear hd
   generalize s 4=v0 at hR hK'⊢
   go_simp
   refine(HC5.out _ _ hR).mono ?_
   rintro e w2 ⟨rfl,h2⟩
   exact hK'.out _ _ (WtL.ofVal rfl) h2
  ·clear hd
   go_simp
   refine(HC8.out _).mono ?_
   rintro e w2 ⟨rfl,h2⟩
   exact hK'.out _ _ (WtL.ofVal rfl) h2
  ·have e1:=(hd 5 (by kernel_rfl) (by kernel_rfl)).val rfl
   have e2:=(hd 8 (by kernel_rfl) (by kernel_rfl)).val rfl
   rw[e1,e2] at hK'⊢
   clear hd
   have t0:=HT9.out.1
   go_simp
   exact hK'.out _ _ (WtL.ofVal (by rw[←HT9.out.2];rfl)) (Below.refl _ _)
  ·clear hd
   go_simp
   exact hK'.out _ _ (WtL.ofRow rfl (ints_row _ [x.line])) (below_alloc _ _)
  ·have hR:=(hd 12 (by kernel_rfl) (by kernel_rfl)).row rfl
   clear hd
   generalize s 12=v0 at hR hK'⊢
   go_simp
   refine(HC13.out _ _ hR).mono ?_
   rintro e w2 ⟨rfl,h2⟩
   exact hK'.out _ _ (WtL.ofVal rfl) h2
  ·have e1:=(hd 9 (by kernel_rfl) (by kernel_rfl)).val rfl
   have e2:=(hd 13 (by kernel_rfl) (by kernel_rfl)).val rfl
   rw[e1,e2] at hK'⊢
   clear hd
   have t0:=HT14.out.1
   go_simp
   exact hK'.out _ _ (WtL.ofVal (by rw[←HT14.out.2];rfl)) (Below.refl _ _)
  ·have e1:=(hd 14 (by kernel_rfl) (by kernel_rfl)).val rfl
   rw[e1] at hK'⊢
   clear hd
   go_simp
   exact hK'.out _ _ (WtL.ofVal rfl) (Below.refl _ _)
 ·intro s w1 k hall
  have e0:=(hall (15,some 2) (by simp)).val rfl
  dsimp only at e0
  have HX:=Hd.mk (HB.out w1 k)
  simp only[foldPut,List.foldl_cons,List.foldl_nil,Act.put,List.setIfInBounds_toArray,List.set_cons_zero,List.set_cons_succ]
  rw[e0]
  clear hall k
  refine NoPanic.normal ?_
  go_wp2
  go_ret
  exact⟨rfl,HX.out⟩
set_option maxHeartbeats 4000000 in
set_option maxRecDepth 100000 in
theorem bInl_any (w:World) (x:Inl) (hk:x.okc) (h_name:x.name.size≤1000000000) (h_file:x.file.size≤1000000000):
 Calls Tryz.prog 107 #[.agg #[.int .i64 x.sec, .int .i64 x.from_, .int .i64 x.to_, .string x.name, .string x.file, .int .i64 x.line]] w fun e w'=>e= .returned (.string ⟨(Inl.wr x).toArray⟩)∧Below w.heap.size w w':=by
 obtain⟨hk_sec,hk_from_,hk_to_,_,_,hk_line⟩:=hk
 have hE:(⟨(Inl.wr x).toArray⟩:ByteArray)=((((⟨(([x.sec,x.from_,x.to_]).flatMap natL).toArray⟩:ByteArray)++(⟨(strL x.name).toArray⟩:ByteArray))++(⟨(strL x.file).toArray⟩:ByteArray))++(⟨(([x.line]).flatMap natL).toArray⟩:ByteArray)):=by
  simp only[cat_toArray,Inl.wr,List.flatMap_cons,List.flatMap_nil,List.append_assoc,List.append_nil]
 have hc7:∀w v,Rw 1 intE w v [x.sec,x.from_,x.to_]→Calls Tryz.prog 92 #[v] w fun e w'=>e= .returned (.string (⟨(([x.sec,x.from_,x.to_]).flatMap natL).toArray⟩:ByteArray))∧Below w.heap.size w w':=fun w v h=>onums_any w v _ h (by simp) (by intro y hy;simp only[List.mem_cons,List.not_mem_nil,or_false] at hy;rcases hy with rfl | rfl | rfl<;>first | exact hk_sec | exact hk_from_ | exact hk_to_)
 have z7:(⟨(([x.sec,x.from_,x.to_]).flatMap natL).toArray⟩:ByteArray).size≤30:=nums_size _
 obtain⟨s7,hs7⟩:∃s:ByteArray,(⟨(([x.sec,x.from_,x.to_]).flatMap natL).toArray⟩:ByteArray)=s:=⟨_,rfl⟩
 rw[hs7] at hc7 z7
 have HC7:=Hd.mk hc7
 clear hc7
 have hc10:∀w,Calls Tryz.prog 89 #[.string x.name] w fun e w'=>e= .returned (.string (⟨(strL x.name).toArray⟩:ByteArray))∧Below w.heap.size w w':=fun w=>wtext_any x.name h_name w
 have z10:(⟨(strL x.name).toArray⟩:ByteArray).size≤1000000010:=Nat.le_trans (text_len _) (by have:=h_name;omega)
 obtain⟨s10,hs10⟩:∃s:ByteArray,(⟨(strL x.name).toArray⟩:ByteArray)=s:=⟨_,rfl⟩
 rw[hs10] at hc10 z10
 have HC10:=Hd.mk hc10
 clear hc10
 have t11:¬9223372036854775807<s7.size+s10.size:=by omega
 have z11:(s7++s10).size≤1000000040:=app_size z7 z10 (by decide)
 obtain⟨s11,hs11⟩:∃s:ByteArray,s7++s10=s:=⟨_,rfl⟩
 rw[hs11] at z11
 have HT11:=Hd.mk (And.intro t11 hs11)
 clear t11
 have hc14:∀w,Calls Tryz.prog 89 #[.string x.file] w fun e w'=>e= .returned (.string (⟨(strL x.file).toArray⟩:ByteArray))∧Below w.heap.size w w':=fun w=>wtext_any x.file h_file w
 have z14:(⟨(strL x.file).toArray⟩:ByteArray).size≤1000000010:=Nat.le_trans (text_len _) (by have:=h_file;omega)
 obtain⟨s14,hs14⟩:∃s:ByteArray,(⟨(strL x.file).toArray⟩:ByteArray)=s:=⟨_,rfl⟩
 rw[hs14] at hc14 z14
 have HC14:=Hd.mk hc14
 clear hc14
 have t15:¬9223372036854775807<s11.size+s14.size:=by omega
 have z15:(s11++s14).size≤2000000050:=app_size z11 z14 (by decide)
 obtain⟨s15,hs15⟩:∃s:ByteArray,s11++s14=s:=⟨_,rfl⟩
 rw[hs15] at z15
 have HT15:=Hd.mk (And.intro t15 hs15)
 clear t15
 have hc19:∀w v,Rw 1 intE w v [x.line]→Calls Tryz.prog 92 #[v] w fun e w'=>e= .returned (.string (⟨(([x.line]).flatMap natL).toArray⟩:ByteArray))∧Below w.heap.size w w':=fun w v h=>onums_any w v _ h (by simp) (by intro y hy;simp only[List.mem_cons,List.not_mem_nil,or_false] at hy;subst hy;exact hk_line)
 have z19:(⟨(([x.line]).flatMap natL).toArray⟩:ByteArray).size≤10:=nums_size _
 obtain⟨s19,hs19⟩:∃s:ByteArray,(⟨(([x.line]).flatMap natL).toArray⟩:ByteArray)=s:=⟨_,rfl⟩
 rw[hs19] at hc19 z19
 have HC19:=Hd.mk hc19
 clear hc19
 have t20:¬9223372036854775807<s15.size+s19.size:=by omega
 have z20:(s15++s19).size≤2000000060:=app_size z15 z19 (by decide)
 obtain⟨s20,hs20⟩:∃s:ByteArray,s15++s19=s:=⟨_,rfl⟩
 rw[hs20] at z20
 have HT20:=Hd.mk (And.intro t20 hs20)
 clear t20
 rw[hs7,hs10,hs11,hs14,hs15,hs19,hs20] at hE
 have HE:=Hd.mk hE
 clear hE z7 hs7 z10 hs10 z11 hs11 z14 hs14 z15 hs15 z19 hs19 z20 hs20 h_name h_file hk_sec hk_from_ hk_to_ hk_line
 rw[HE.out]
 have HB:Hd (∀w1,Below (w.alloc (.cells #[.int .i64 x.sec, .int .i64 x.from_, .int .i64 x.to_, .string x.name, .string x.file, .int .i64 x.line] 90)).drew.heap.size (w.alloc (.cells #[.int .i64 x.sec, .int .i64 x.from_, .int .i64 x.to_, .string x.name, .string x.file, .int .i64 x.line] 90)).drew w1→Below w.heap.size w w1):=⟨fun w1 h=>below_first ((Below.drew (Below.refl _ _)).trans h)⟩
 have HF:Hd (∀w',Below (w.alloc (.cells #[.int .i64 x.sec, .int .i64 x.from_, .int .i64 x.to_, .string x.name, .string x.file, .int .i64 x.line] 90)).drew.heap.size (w.alloc (.cells #[.int .i64 x.sec, .int .i64 x.from_, .int .i64 x.to_, .string x.name, .string x.file, .int .i64 x.line] 90)).drew w'→w'.cell? ⟨w.heap.size,0,none⟩=some (.int .i64 x.sec)∧w'.cell? ⟨w.heap.size,1,none⟩=some (.int .i64 x.from_)∧w'.cell? ⟨w.heap.size,2,none⟩=some (.int .i64 x.to_)∧w'.cell? ⟨w.heap.size,3,none⟩=some (.string x.name)∧w'.cell? ⟨w.heap.size,4,none⟩=some (.string x.file)∧w'.cell? ⟨w.heap.size,5,none⟩=some (.int .i64 x.line)):=⟨fun w' h=>⟨(h.cell (p:=⟨w.heap.size,0,none⟩) (by simp)).trans (by simp[go_sem]),(h.cell (p:=⟨w.heap.size,1,none⟩) (by simp)).trans (by simp[go_sem]),(h.cell (p:=⟨w.heap.size,2,none⟩) (by simp)).trans (by simp[go_sem]),(h.cell (p:=⟨w.heap.size,3,none⟩) (by simp)).trans (by simp[go_sem]),(h.cell (p:=⟨w.heap.size,4,none⟩) (by simp)).trans (by simp[go_sem]),(h.cell (p:=⟨w.heap.size,5,none⟩) (by simp)).trans (by simp[go_sem])⟩⟩
 go_enter Tryz.func107,Tryz.ntmps107
 go_wp2_with fail
 refine wp_region_each default (fun w'=>Below (w.alloc (.cells #[.int .i64 x.sec, .int .i64 x.from_, .int .i64 x.to_, .string x.name, .string x.file, .int .i64 x.line] 90)).drew.heap.size (w.alloc (.cells #[.int .i64 x.sec, .int .i64 x.from_, .int .i64 x.to_, .string x.name, .string x.file, .int .i64 x.line] 90)).drew w') (WtL [(6, .row [x.sec,x.from_,x.to_]),(7, .val (.string s7)),(10, .val (.string s10)),(11, .val (.string s11)),(14, .val (.string s14)),(15, .val (.string s15)),(18, .row [x.line]),(19, .val (.string s19)),(20, .val (.string s20)),(21, .val (.string s20))]) (fun w w'=>Below w.heap.size w w') [0,1,2,3,4,5,8,9,12,13,16,17] [(6,some 9),(7,some 10),(10,some 13),(11,some 14),(14,some 17),(15,some 18),(18,some 21),(19,some 22),(20,some 23),(21,some 2)] (fun j=>if j=21 then .string ⟨#[]⟩ else undef)
  (by kernel_rfl) (by kernel_rfl) rfl (by kernel_rfl) (by kernel_rfl) (by kernel_rfl) (fun w=>Below.refl _ _) (fun a b c h k=>h.trans (k.mono h.size)) (WtL.keep _) (fun w' h=>h) ?_
 simp only[List.map_cons,List.map_nil,List.getD_cons_zero,List.getD_cons_succ]
 repeat
  refine free_step (v:= ?_) (by rfl) ?_ ?_
  rotate_left
  ·intro w' hSw
   obtain⟨d0,d1,d2,d3,d4,d5⟩:=HF.out w' hSw
   clear hSw
   go_simp
   first | done | with_reducible rfl
  simp only[Act.put,List.setIfInBounds_toArray,List.set_cons_zero,List.set_cons_succ]
 refine⟨by kernel_rfl,?_,?_⟩
 ·simp only[StepsAt,List.getD_cons_zero,List.getD_cons_succ]
  refine⟨?_,?_,?_,?_,?_,?_,?_,?_,?_,?_,trivial⟩
  all_goals
   intro s w1 k hd K' hK'
   simp only[foldPut,List.foldl_cons,List.foldl_nil,Act.put,List.setIfInBounds_toArray,List.set_cons_zero,List.set_cons_succ] at hK'⊢
  ·clear hd
   go_simp
   exact hK'.out _ _ (WtL.ofRow rfl (ints_row _ [x.sec,x.from_,x.to_])) (below_alloc _ _)
  ·have hR:=(hd 6 (by kernel_rfl) (by kernel_rfl)).row rfl
   clear hd
   generalize s 6=v0 at hR hK'⊢
   go_simp
   refine(HC7.out _ _ hR).mono ?_
   rintro e w2 ⟨rfl,h2⟩
   exact hK'.out _ _ (WtL.ofVal rfl) h2
  ·clear hd
   go_simp
   refine(HC10.out _).mono ?_
   rintro e w2 ⟨rfl,h2⟩
   exact hK'.out _ _ (WtL.ofVal rfl) h2
  ·have e1:=(hd 7 (by kernel_rfl) (by kernel_rfl)).val rfl
   have e2:=(hd 10 (by kernel_rfl) (by kernel_rfl)).val rfl
   rw[e1,e2] at hK'⊢
   clear hd
   have t0:=HT11.out.1
   go_simp
   exact hK'.out _ _ (WtL.ofVal (by rw[←HT11.out.2];rfl)) (Below.refl _ _)
  ·clear hd
   go_simp
   refine(HC14.out _).mono ?_
   rintro e w2 ⟨rfl,h2⟩
   exact hK'.out _ _ (WtL.ofVal rfl) h2
  ·have e1:=(hd 11 (by kernel_rfl) (by kernel_rfl)).val rfl
   have e2:=(hd 14 (by kernel_rfl) (by kernel_rfl)).val rfl
   rw[e1,e2] at hK'⊢
   clear hd
   have t0:=HT15.out.1
   go_simp
   exact hK'.out _ _ (WtL.ofVal (by rw[←HT15.out.2];rfl)) (Below.refl _ _)
  ·clear hd
   go_simp
   exact hK'.out _ _ (WtL.ofRow rfl (ints_row _ [x.line])) (below_alloc _ _)
  ·have hR:=(hd 18 (by kernel_rfl) (by kernel_rfl)).row rfl
   clear hd
   generalize s 18=v0 at hR hK'⊢
   go_simp
   refine(HC19.out _ _ hR).mono ?_
   rintro e w2 ⟨rfl,h2⟩
   exact hK'.out _ _ (WtL.ofVal rfl) h2
  ·have e1:=(hd 15 (by kernel_rfl) (by kernel_rfl)).val rfl
   have e2:=(hd 19 (by kernel_rfl) (by kernel_rfl)).val rfl
   rw[e1,e2] at hK'⊢
   clear hd
   have t0:=HT20.out.1
   go_simp
   exact hK'.out _ _ (WtL.ofVal (by rw[←HT20.out.2];rfl)) (Below.refl _ _)
  ·have e1:=(hd 20 (by kernel_rfl) (by kernel_rfl)).val rfl
   rw[e1] at hK'⊢
   clear hd
   go_simp
   exact hK'.out _ _ (WtL.ofVal rfl) (Below.refl _ _)
 ·intro s w1 k hall
  have e0:=(hall (21,some 2) (by simp)).val rfl
  dsimp only at e0
  have HX:=Hd.mk (HB.out w1 k)
  simp only[foldPut,List.foldl_cons,List.foldl_nil,Act.put,List.setIfInBounds_toArray,List.set_cons_zero,List.set_cons_succ]
  rw[e0]
  clear hall k
  refine NoPanic.normal ?_
  go_wp2
  go_ret
  exact⟨rfl,HX.out⟩
set_option maxHeartbeats 4000000 in
set_option maxRecDepth 100000 in
theorem bVrr_any (w:World) (x:Vrr) (hk:x.okc) (h_name:x.name.size≤1000000000):
 Calls Tryz.prog 109 #[.agg #[.int .i64 x.sec, .int .i64 x.from_, .int .i64 x.to_, .string x.name, .int .i64 x.where_, .int .i64 x.n]] w fun e w'=>e= .returned (.string ⟨(Vrr.wr x).toArray⟩)∧Below w.heap.size w w':=by
 obtain⟨hk_sec,hk_from_,hk_to_,_,hk_where_,hk_n⟩:=hk
 have hE:(⟨(Vrr.wr x).toArray⟩:ByteArray)=(((⟨(([x.sec,x.from_,x.to_]).flatMap natL).toArray⟩:ByteArray)++(⟨(strL x.name).toArray⟩:ByteArray))++(⟨(([x.where_,x.n]).flatMap natL).toArray⟩:ByteArray)):=by
  simp only[cat_toArray,Vrr.wr,List.flatMap_cons,List.flatMap_nil,List.append_assoc,List.append_nil]
 have hc7:∀w v,Rw 1 intE w v [x.sec,x.from_,x.to_]→Calls Tryz.prog 92 #[v] w fun e w'=>e= .returned (.string (⟨(([x.sec,x.from_,x.to_]).flatMap natL).toArray⟩:ByteArray))∧Below w.heap.size w w':=fun w v h=>onums_any w v _ h (by simp) (by intro y hy;simp only[List.mem_cons,List.not_mem_nil,or_false] at hy;rcases hy with rfl | rfl | rfl<;>first | exact hk_sec | exact hk_from_ | exact hk_to_)
 have z7:(⟨(([x.sec,x.from_,x.to_]).flatMap natL).toArray⟩:ByteArray).size≤30:=nums_size _
 obtain⟨s7,hs7⟩:∃s:ByteArray,(⟨(([x.sec,x.from_,x.to_]).flatMap natL).toArray⟩:ByteArray)=s:=⟨_,rfl⟩
 rw[hs7] at hc7 z7
 have HC7:=Hd.mk hc7
 clear hc7
 have hc10:∀w,Calls Tryz.prog 89 #[.string x.name] w fun e w'=>e= .returned (.string (⟨(strL x.name).toArray⟩:ByteArray))∧Below w.heap.size w w':=fun w=>wtext_any x.name h_name w
 have z10:(⟨(strL x.name).toArray⟩:ByteArray).size≤1000000010:=Nat.le_trans (text_len _) (by have:=h_name;omega)
 obtain⟨s10,hs10⟩:∃s:ByteArray,(⟨(strL x.name).toArray⟩:ByteArray)=s:=⟨_,rfl⟩
 rw[hs10] at hc10 z10
 have HC10:=Hd.mk hc10
 clear hc10
 have t11:¬9223372036854775807<s7.size+s10.size:=by omega
 have z11:(s7++s10).size≤1000000040:=app_size z7 z10 (by decide)
 obtain⟨s11,hs11⟩:∃s:ByteArray,s7++s10=s:=⟨_,rfl⟩
 rw[hs11] at z11
 have HT11:=Hd.mk (And.intro t11 hs11)
 clear t11
 have hc17:∀w v,Rw 1 intE w v [x.where_,x.n]→Calls Tryz.prog 92 #[v] w fun e w'=>e= .returned (.string (⟨(([x.where_,x.n]).flatMap natL).toArray⟩:ByteArray))∧Below w.heap.size w w':=fun w v h=>onums_any w v _ h (by simp) (by intro y hy;simp only[List.mem_cons,List.not_mem_nil,or_false] at hy;rcases hy with rfl | rfl<;>first | exact hk_where_ | exact hk_n)
 have z17:(⟨(([x.where_,x.n]).flatMap natL).toArray⟩:ByteArray).size≤20:=nums_size _
 obtain⟨s17,hs17⟩:∃s:ByteArray,(⟨(([x.where_,x.n]).flatMap natL).toArray⟩:ByteArray)=s:=⟨_,rfl⟩
 rw[hs17] at hc17 z17
 have HC17:=Hd.mk hc17
 clear hc17
 have t18:¬9223372036854775807<s11.size+s17.size:=by omega
 have z18:(s11++s17).size≤1000000060:=app_size z11 z17 (by decide)
 obtain⟨s18,hs18⟩:∃s:ByteArray,s11++s17=s:=⟨_,rfl⟩
 rw[hs18] at z18
 have HT18:=Hd.mk (And.intro t18 hs18)
 clear t18
 rw[hs7,hs10,hs11,hs17,hs18] at hE
 have HE:=Hd.mk hE
 clear hE z7 hs7 z10 hs10 z11 hs11 z17 hs17 z18 hs18 h_name hk_sec hk_from_ hk_to_ hk_where_ hk_n
 rw[HE.out]
 have HB:Hd (∀w1,Below (w.alloc (.cells #[.int .i64 x.sec, .int .i64 x.from_, .int .i64 x.to_, .string x.name, .int .i64 x.where_, .int .i64 x.n] 94)).drew.heap.size (w.alloc (.cells #[.int .i64 x.sec, .int .i64 x.from_, .int .i64 x.to_, .string x.name, .int .i64 x.where_, .int .i64 x.n] 94)).drew w1→Below w.heap.size w w1):=⟨fun w1 h=>below_first ((Below.drew (Below.refl _ _)).trans h)⟩
 have HF:Hd (∀w',Below (w.alloc (.cells #[.int .i64 x.sec, .int .i64 x.from_, .int .i64 x.to_, .string x.name, .int .i64 x.where_, .int .i64 x.n] 94)).drew.heap.size (w.alloc (.cells #[.int .i64 x.sec, .int .i64 x.from_, .int .i64 x.to_, .string x.name, .int .i64 x.where_, .int .i64 x.n] 94)).drew w'→w'.cell? ⟨w.heap.size,0,none⟩=some (.int .i64 x.sec)∧w'.cell? ⟨w.heap.size,1,none⟩=some (.int .i64 x.from_)∧w'.cell? ⟨w.heap.size,2,none⟩=some (.int .i64 x.to_)∧w'.cell? ⟨w.heap.size,3,none⟩=some (.string x.name)∧w'.cell? ⟨w.heap.size,4,none⟩=some (.int .i64 x.where_)∧w'.cell? ⟨w.heap.size,5,none⟩=some (.int .i64 x.n)):=⟨fun w' h=>⟨(h.cell (p:=⟨w.heap.size,0,none⟩) (by simp)).trans (by simp[go_sem]),(h.cell (p:=⟨w.heap.size,1,none⟩) (by simp)).trans (by simp[go_sem]),(h.cell (p:=⟨w.heap.size,2,none⟩) (by simp)).trans (by simp[go_sem]),(h.cell (p:=⟨w.heap.size,3,none⟩) (by simp)).trans (by simp[go_sem]),(h.cell (p:=⟨w.heap.size,4,none⟩) (by simp)).trans (by simp[go_sem]),(h.cell (p:=⟨w.heap.size,5,none⟩) (by simp)).trans (by simp[go_sem])⟩⟩
 go_enter Tryz.func109,Tryz.ntmps109
 go_wp2_with fail
 refine wp_region_each default (fun w'=>Below (w.alloc (.cells #[.int .i64 x.sec, .int .i64 x.from_, .int .i64 x.to_, .string x.name, .int .i64 x.where_, .int .i64 x.n] 94)).drew.heap.size (w.alloc (.cells #[.int .i64 x.sec, .int .i64 x.from_, .int .i64 x.to_, .string x.name, .int .i64 x.where_, .int .i64 x.n] 94)).drew w') (WtL [(6, .row [x.sec,x.from_,x.to_]),(7, .val (.string s7)),(10, .val (.string s10)),(11, .val (.string s11)),(16, .row [x.where_,x.n]),(17, .val (.string s17)),(18, .val (.string s18)),(19, .val (.string s18))]) (fun w w'=>Below w.heap.size w w') [0,1,2,3,4,5,8,9,12,13,14,15] [(6,some 9),(7,some 10),(10,some 13),(11,some 14),(16,some 19),(17,some 20),(18,some 21),(19,some 2)] (fun j=>if j=19 then .string ⟨#[]⟩ else undef)
  (by kernel_rfl) (by kernel_rfl) rfl (by kernel_rfl) (by kernel_rfl) (by kernel_rfl) (fun w=>Below.refl _ _) (fun a b c h k=>h.trans (k.mono h.size)) (WtL.keep _) (fun w' h=>h) ?_
 simp only[List.map_cons,List.map_nil,List.getD_cons_zero,List.getD_cons_succ]
 repeat
  refine free_step (v:= ?_) (by rfl) ?_ ?_
  rotate_left
  ·intro w' hSw
   obtain⟨d0,d1,d2,d3,d4,d5⟩:=HF.out w' hSw
   clear hSw
   go_simp
   first | done | with_reducible rfl
  simp only[Act.put,List.setIfInBounds_toArray,List.set_cons_zero,List.set_cons_succ]
 refine⟨by kernel_rfl,?_,?_⟩
 ·simp only[StepsAt,List.getD_cons_zero,List.getD_cons_succ]
  refine⟨?_,?_,?_,?_,?_,?_,?_,?_,trivial⟩
  all_goals
   intro s w1 k hd K' hK'
   simp only[foldPut,List.foldl_cons,List.foldl_nil,Act.put,List.setIfInBounds_toArray,List.set_cons_zero,List.set_cons_succ] at hK'⊢
  ·clear hd
   go_simp
   exact hK'.out _ _ (WtL.ofRow rfl (ints_row _ [x.sec,x.from_,x.to_])) (below_alloc _ _)
  ·have hR:=(hd 6 (by kernel_rfl) (by kernel_rfl)).row rfl
   clear hd
   generalize s 6=v0 at hR hK'⊢
   go_simp
   refine(HC7.out _ _ hR).mono ?_
   rintro e w2 ⟨rfl,h2⟩
   exact hK'.out _ _ (WtL.ofVal rfl) h2
  ·clear hd
   go_simp
   refine(HC10.out _).mono ?_
   rintro e w2 ⟨rfl,h2⟩
   exact hK'.out _ _ (WtL.ofVal rfl) h2
  ·have e1:=(hd 7 (by kernel_rfl) (by kernel_rfl)).val rfl
   have e2:=(hd 10 (by kernel_rfl) (by kernel_rfl)).val rfl
   rw[e1,e2] at hK'⊢
   clear hd
   have t0:=HT11.out.1
   go_simp
   exact hK'.out _ _ (WtL.ofVal (by rw[←HT11.out.2];rfl)) (Below.refl _ _)
  ·clear hd
   go_simp
   exact hK'.out _ _ (WtL.ofRow rfl (ints_row _ [x.where_,x.n])) (below_alloc _ _)
  ·have hR:=(hd 16 (by kernel_rfl) (by kernel_rfl)).row rfl
   clear hd
   generalize s 16=v0 at hR hK'⊢
   go_simp
   refine(HC17.out _ _ hR).mono ?_
   rintro e w2 ⟨rfl,h2⟩
   exact hK'.out _ _ (WtL.ofVal rfl) h2
  ·have e1:=(hd 11 (by kernel_rfl) (by kernel_rfl)).val rfl
   have e2:=(hd 17 (by kernel_rfl) (by kernel_rfl)).val rfl
   rw[e1,e2] at hK'⊢
   clear hd
   have t0:=HT18.out.1
   go_simp
   exact hK'.out _ _ (WtL.ofVal (by rw[←HT18.out.2];rfl)) (Below.refl _ _)
  ·have e1:=(hd 18 (by kernel_rfl) (by kernel_rfl)).val rfl
   rw[e1] at hK'⊢
   clear hd
   go_simp
   exact hK'.out _ _ (WtL.ofVal rfl) (Below.refl _ _)
 ·intro s w1 k hall
  have e0:=(hall (19,some 2) (by simp)).val rfl
  dsimp only at e0
  have HX:=Hd.mk (HB.out w1 k)
  simp only[foldPut,List.foldl_cons,List.foldl_nil,Act.put,List.setIfInBounds_toArray,List.set_cons_zero,List.set_cons_succ]
  rw[e0]
  clear hall k
  refine NoPanic.normal ?_
  go_wp2
  go_ret
  exact⟨rfl,HX.out⟩
set_option maxHeartbeats 4000000 in
set_option maxRecDepth 100000 in
theorem bCnv_any (w:World) (x:Cnv) (ppieces:Option Addr) (cpieces:Nat) (hr_pieces:Rw 3 Pce.E w (.slice ppieces x.pieces.length cpieces) x.pieces) (hk:x.okc) (h_from_:x.from_.size≤1000000000) (hn_pieces:lenR x.pieces.length) (hk_pieces:∀y∈x.pieces,y.okc) (hl_pieces:(listL Pce.wr x.pieces).length≤1000000000000):
 Calls Tryz.prog 113 #[.agg #[.int .i64 x.sec, .string x.from_, .slice ppieces x.pieces.length cpieces, .int .i64 x.code]] w fun e w'=>e= .returned (.string ⟨(Cnv.wr x).toArray⟩)∧Below w.heap.size w w':=by
 obtain⟨hk_sec,_,_,hk_code⟩:=hk
 have hE:(⟨(Cnv.wr x).toArray⟩:ByteArray)=((((⟨(([x.sec]).flatMap natL).toArray⟩:ByteArray)++(⟨(strL x.from_).toArray⟩:ByteArray))++(⟨(listL Pce.wr x.pieces).toArray⟩:ByteArray))++(⟨(intL x.code).toArray⟩:ByteArray)):=by
  simp only[cat_toArray,Cnv.wr,List.flatMap_cons,List.flatMap_nil,List.append_assoc,List.append_nil]
 have hc3:∀w v,Rw 1 intE w v [x.sec]→Calls Tryz.prog 92 #[v] w fun e w'=>e= .returned (.string (⟨(([x.sec]).flatMap natL).toArray⟩:ByteArray))∧Below w.heap.size w w':=fun w v h=>onums_any w v _ h (by simp) (by intro y hy;simp only[List.mem_cons,List.not_mem_nil,or_false] at hy;subst hy;exact hk_sec)
 have z3:(⟨(([x.sec]).flatMap natL).toArray⟩:ByteArray).size≤10:=nums_size _
 obtain⟨s3,hs3⟩:∃s:ByteArray,(⟨(([x.sec]).flatMap natL).toArray⟩:ByteArray)=s:=⟨_,rfl⟩
 rw[hs3] at hc3 z3
 have HC3:=Hd.mk hc3
 clear hc3
 have hc6:∀w,Calls Tryz.prog 89 #[.string x.from_] w fun e w'=>e= .returned (.string (⟨(strL x.from_).toArray⟩:ByteArray))∧Below w.heap.size w w':=fun w=>wtext_any x.from_ h_from_ w
 have z6:(⟨(strL x.from_).toArray⟩:ByteArray).size≤1000000010:=Nat.le_trans (text_len _) (by have:=h_from_;omega)
 obtain⟨s6,hs6⟩:∃s:ByteArray,(⟨(strL x.from_).toArray⟩:ByteArray)=s:=⟨_,rfl⟩
 rw[hs6] at hc6 z6
 have HC6:=Hd.mk hc6
 clear hc6
 have t7:¬9223372036854775807<s3.size+s6.size:=by omega
 have z7:(s3++s6).size≤1000000020:=app_size z3 z6 (by decide)
 obtain⟨s7,hs7⟩:∃s:ByteArray,s3++s6=s:=⟨_,rfl⟩
 rw[hs7] at z7
 have HT7:=Hd.mk (And.intro t7 hs7)
 clear t7
 have hc10:∀w1,Below w.heap.size w w1→Calls Tryz.prog 114 #[.slice ppieces x.pieces.length cpieces, .func (.func 115) #[] #[]] w1 fun e w'=>e= .returned (.string (⟨(listL Pce.wr x.pieces).toArray⟩:ByteArray))∧Below w1.heap.size w1 w':=fun w1 h=>lsPce_any w1 _ _ _ (Rw.below hr_pieces Pce.stays h) hn_pieces (bPce_fn w1 _ hk_pieces) hl_pieces
 have z10:(⟨(listL Pce.wr x.pieces).toArray⟩:ByteArray).size≤1000000000000:=list_size _ _ hl_pieces
 obtain⟨s10,hs10⟩:∃s:ByteArray,(⟨(listL Pce.wr x.pieces).toArray⟩:ByteArray)=s:=⟨_,rfl⟩
 rw[hs10] at hc10 z10
 have HC10:=Hd.mk hc10
 clear hc10
 have t11:¬9223372036854775807<s7.size+s10.size:=by omega
 have z11:(s7++s10).size≤1001000000020:=app_size z7 z10 (by decide)
 obtain⟨s11,hs11⟩:∃s:ByteArray,s7++s10=s:=⟨_,rfl⟩
 rw[hs11] at z11
 have HT11:=Hd.mk (And.intro t11 hs11)
 clear t11
 have hc14:∀w,Calls Tryz.prog 96 #[.int .i64 x.code] w fun e w'=>e= .returned (.string (⟨(intL x.code).toArray⟩:ByteArray))∧Below w.heap.size w w':=fun w=>wint_any x.code hk_code w
 have z14:(⟨(intL x.code).toArray⟩:ByteArray).size≤10:=int_size _
 obtain⟨s14,hs14⟩:∃s:ByteArray,(⟨(intL x.code).toArray⟩:ByteArray)=s:=⟨_,rfl⟩
 rw[hs14] at hc14 z14
 have HC14:=Hd.mk hc14
 clear hc14
 have t15:¬9223372036854775807<s11.size+s14.size:=by omega
 have z15:(s11++s14).size≤1001000000030:=app_size z11 z14 (by decide)
 obtain⟨s15,hs15⟩:∃s:ByteArray,s11++s14=s:=⟨_,rfl⟩
 rw[hs15] at z15
 have HT15:=Hd.mk (And.intro t15 hs15)
 clear t15
 rw[hs3,hs6,hs7,hs10,hs11,hs14,hs15] at hE
 have HE:=Hd.mk hE
 clear hE z3 hs3 z6 hs6 z7 hs7 z10 hs10 z11 hs11 z14 hs14 z15 hs15 h_from_ hk_sec hk_code hr_pieces hk_pieces hl_pieces hn_pieces
 rw[HE.out]
 have HB:Hd (∀w1,Below (w.alloc (.cells #[.int .i64 x.sec, .string x.from_, .slice ppieces x.pieces.length cpieces, .int .i64 x.code] 62)).drew.heap.size (w.alloc (.cells #[.int .i64 x.sec, .string x.from_, .slice ppieces x.pieces.length cpieces, .int .i64 x.code] 62)).drew w1→Below w.heap.size w w1):=⟨fun w1 h=>below_first ((Below.drew (Below.refl _ _)).trans h)⟩
 have HF:Hd (∀w',Below (w.alloc (.cells #[.int .i64 x.sec, .string x.from_, .slice ppieces x.pieces.length cpieces, .int .i64 x.code] 62)).drew.heap.size (w.alloc (.cells #[.int .i64 x.sec, .string x.from_, .slice ppieces x.pieces.length cpieces, .int .i64 x.code] 62)).drew w'→w'.cell? ⟨w.heap.size,0,none⟩=some (.int .i64 x.sec)∧w'.cell? ⟨w.heap.size,1,none⟩=some (.string x.from_)∧w'.cell? ⟨w.heap.size,2,none⟩=some (.slice ppieces x.pieces.length cpieces)∧w'.cell? ⟨w.heap.size,3,none⟩=some (.int .i64 x.code)):=⟨fun w' h=>⟨(h.cell (p:=⟨w.heap.size,0,none⟩) (by simp)).trans (by simp[go_sem]),(h.cell (p:=⟨w.heap.size,1,none⟩) (by simp)).trans (by simp[go_sem]),(h.cell (p:=⟨w.heap.size,2,none⟩) (by simp)).trans (by simp[go_sem]),(h.cell (p:=⟨w.heap.size,3,none⟩) (by simp)).trans (by simp[go_sem])⟩⟩
 go_enter Tryz.func113,Tryz.ntmps113
 go_wp2_with fail
 refine wp_region_each default (fun w'=>Below (w.alloc (.cells #[.int .i64 x.sec, .string x.from_, .slice ppieces x.pieces.length cpieces, .int .i64 x.code] 62)).drew.heap.size (w.alloc (.cells #[.int .i64 x.sec, .string x.from_, .slice ppieces x.pieces.length cpieces, .int .i64 x.code] 62)).drew w') (WtL [(2, .row [x.sec]),(3, .val (.string s3)),(6, .val (.string s6)),(7, .val (.string s7)),(10, .val (.string s10)),(11, .val (.string s11)),(14, .val (.string s14)),(15, .val (.string s15)),(16, .val (.string s15))]) (fun w w'=>Below w.heap.size w w') [0,1,4,5,8,9,12,13] [(2,some 5),(3,some 6),(6,some 9),(7,some 10),(10,some 13),(11,some 14),(14,some 17),(15,some 18),(16,some 2)] (fun j=>if j=16 then .string ⟨#[]⟩ else undef)
  (by kernel_rfl) (by kernel_rfl) rfl (by kernel_rfl) (by kernel_rfl) (by kernel_rfl) (fun w=>Below.refl _ _) (fun a b c h k=>h.trans (k.mono h.size)) (WtL.keep _) (fun w' h=>h) ?_
 simp only[List.map_cons,List.map_nil,List.getD_cons_zero,List.getD_cons_succ]
 repeat
  refine free_step (v:= ?_) (by rfl) ?_ ?_
  rotate_left
  ·intro w' hSw
   obtain⟨d0,d1,d2,d3⟩:=HF.out w' hSw
   clear hSw
   go_simp
   first | done | with_reducible rfl
  simp only[Act.put,List.setIfInBounds_toArray,List.set_cons_zero,List.set_cons_succ]
 refine⟨by kernel_rfl,?_,?_⟩
 ·simp only[StepsAt,List.getD_cons_zero,List.getD_cons_succ]
  refine⟨?_,?_,?_,?_,?_,?_,?_,?_,?_,trivial⟩
  all_goals
   intro s w1 k hd K' hK'
   simp only[foldPut,List.foldl_cons,List.foldl_nil,Act.put,List.setIfInBounds_toArray,List.set_cons_zero,List.set_cons_succ] at hK'⊢
  ·clear hd
   go_simp
   exact hK'.out _ _ (WtL.ofRow rfl (ints_row _ [x.sec])) (below_alloc _ _)
  ·have hR:=(hd 2 (by kernel_rfl) (by kernel_rfl)).row rfl
   clear hd
   generalize s 2=v0 at hR hK'⊢
   go_simp
   refine(HC3.out _ _ hR).mono ?_
   rintro e w2 ⟨rfl,h2⟩
   exact hK'.out _ _ (WtL.ofVal rfl) h2
  ·clear hd
   go_simp
   refine(HC6.out _).mono ?_
   rintro e w2 ⟨rfl,h2⟩
   exact hK'.out _ _ (WtL.ofVal rfl) h2
  ·have e1:=(hd 3 (by kernel_rfl) (by kernel_rfl)).val rfl
   have e2:=(hd 6 (by kernel_rfl) (by kernel_rfl)).val rfl
   rw[e1,e2] at hK'⊢
   clear hd
   have t0:=HT7.out.1
   go_simp
   exact hK'.out _ _ (WtL.ofVal (by rw[←HT7.out.2];rfl)) (Below.refl _ _)
  ·clear hd
   go_simp
   refine(HC10.out _ (HB.out _ k)).mono ?_
   rintro e w2 ⟨rfl,h2⟩
   exact hK'.out _ _ (WtL.ofVal rfl) h2
  ·have e1:=(hd 7 (by kernel_rfl) (by kernel_rfl)).val rfl
   have e2:=(hd 10 (by kernel_rfl) (by kernel_rfl)).val rfl
   rw[e1,e2] at hK'⊢
   clear hd
   have t0:=HT11.out.1
   go_simp
   exact hK'.out _ _ (WtL.ofVal (by rw[←HT11.out.2];rfl)) (Below.refl _ _)
  ·clear hd
   go_simp
   refine(HC14.out _).mono ?_
   rintro e w2 ⟨rfl,h2⟩
   exact hK'.out _ _ (WtL.ofVal rfl) h2
  ·have e1:=(hd 11 (by kernel_rfl) (by kernel_rfl)).val rfl
   have e2:=(hd 14 (by kernel_rfl) (by kernel_rfl)).val rfl
   rw[e1,e2] at hK'⊢
   clear hd
   have t0:=HT15.out.1
   go_simp
   exact hK'.out _ _ (WtL.ofVal (by rw[←HT15.out.2];rfl)) (Below.refl _ _)
  ·have e1:=(hd 15 (by kernel_rfl) (by kernel_rfl)).val rfl
   rw[e1] at hK'⊢
   clear hd
   go_simp
   exact hK'.out _ _ (WtL.ofVal rfl) (Below.refl _ _)
 ·intro s w1 k hall
  have e0:=(hall (16,some 2) (by simp)).val rfl
  dsimp only at e0
  have HX:=Hd.mk (HB.out w1 k)
  simp only[foldPut,List.foldl_cons,List.foldl_nil,Act.put,List.setIfInBounds_toArray,List.set_cons_zero,List.set_cons_succ]
  rw[e0]
  clear hall k
  refine NoPanic.normal ?_
  go_wp2
  go_ret
  exact⟨rfl,HX.out⟩
end Go.Proofs.YtfaepbjnpakghaaGreatDoor.W
