import Derived.Test.YtfaepbjnpakghaaGreatDoorKaj
import Derived.Test.YtfaepbjnpakghaaGreatDoorKR2i
import Derived.Test.YtfaepbjnpakghaaGreatDoorKai
/- The reference's encoders at the law's example alone (printed by tools/gen_ex.py). -/
namespace Go.Proofs.YtfaepbjnpakghaaGreatDoor.W
open Go.RowKit
set_option linter.unusedVariables false
set_option linter.unusedSimpArgs false
set_option maxHeartbeats 8000000
set_option maxRecDepth 100000
theorem rtext_x (s t:ByteArray) (h:lenR s.size) (e:(⟨(strL s).toArray⟩:ByteArray)=t) (w:World):Calls Tryz.prog 126 #[.string s] w fun e w'=>e= .returned (.string t)∧Below w.heap.size w w':=e▸r2text_big s h w
theorem rnum_x (ks:List Int) (t:ByteArray) (h1:ks.length≤1000000) (h2:∀x∈ks,x≤9223372036854775807) (e:(⟨(numsL ks).toArray⟩:ByteArray)=t) (w:World) (v:Value) (hR:Rw 1 intE w v ks):Calls Tryz.prog 131 #[v] w fun e w'=>e= .returned (.string t)∧Below w.heap.size w w':=e▸rnum_any w v ks hR h1 h2
theorem rint_x (x:Int) (t:ByteArray) (h:I64 x) (e:(⟨(intL x).toArray⟩:ByteArray)=t) (w:World):Calls Tryz.prog 211 #[.int .i64 x] w fun e w'=>e= .returned (.string t)∧Below w.heap.size w w':=e▸r2int_any x h w
theorem row1B (w:World) (o1:Obj) (a:Int):Rw 1 intE ((w.alloc o1).alloc (.cells #[.int .i64 a] 3)) (.slice (some ⟨w.heap.size+1,0,none⟩) 1 1) [a]:=by
 have:=Rw.ints (ks:=[a]) (cap:=1) (Blk.new (w.alloc o1) 3 [.int .i64 a])
 rwa [show(w.alloc o1).heap.size=w.heap.size+1 from by simp] at this
theorem row1A (w:World) (a:Int):Rw 1 intE (w.alloc (.cells #[.int .i64 a] 3)) (.slice (some ⟨w.heap.size,0,none⟩) 1 1) [a]:=Rw.ints (ks:=[a]) (cap:=1) (Blk.new w 3 [.int .i64 a])
theorem rtruth_f (w:World):Calls Tryz.prog 210 #[.bool false] w fun e w'=>e= .returned (.int .i64 0)∧w=w':=by
 go_enter Tryz.func210,Tryz.ntmps210
 go_wp2
 go_ret
 exact⟨rfl,rfl⟩
theorem rfirst_x (X:XV) (w:World) (h:X.In w):Calls Tryz.prog 116 #[.agg X.arr] w fun e w'=>e= .returned (.string ⟨#[1,97,1,1,120,1,8,8,8,0,0,0,0,0,0,0,0,0,1,1,112,0,0,1,0,1,1,0,0,0]⟩)∧Below w.heap.size w w':=by
 have HT0:=Hd.mk (rtext_x ⟨#[97]⟩ ⟨#[1,97]⟩ (by show lenR 1;unfold lenR;omega) (by decide+kernel))
 have HQ1:=Hd.mk (rnum_x [1] ⟨#[1]⟩ (by decide) (by decide) (by decide+kernel))
 have HT2:=Hd.mk (rtext_x ⟨#[120]⟩ ⟨#[1,120]⟩ (by show lenR 1;unfold lenR;omega) (by decide+kernel))
 have HQ3:=Hd.mk (rnum_x [1,8,8] ⟨#[1,8,8]⟩ (by decide) (by decide) (by decide+kernel))
 have HT4:=Hd.mk (rtext_x ⟨#[0,0,0,0,0,0,0,0]⟩ ⟨#[8,0,0,0,0,0,0,0,0]⟩ (by show lenR 8;unfold lenR;omega) (by decide+kernel))
 have HB5:=Hd.mk rtruth_f
 have HQ6:=Hd.mk (rnum_x [0] ⟨#[0]⟩ (by decide) (by decide) (by decide+kernel))
 have HT7:=Hd.mk (rtext_x ⟨#[112]⟩ ⟨#[1,112]⟩ (by show lenR 1;unfold lenR;omega) (by decide+kernel))
 have HT8:=Hd.mk (rtext_x ⟨#[]⟩ ⟨#[0]⟩ (by show lenR 0;unfold lenR;omega) (by decide+kernel))
 have HQ9:=Hd.mk (rnum_x [0,1,0,1] ⟨#[0,1,0,1]⟩ (by decide) (by decide) (by decide+kernel))
 have HI10:=Hd.mk (rint_x (-1) ⟨#[1]⟩ (by unfold I64;omega) (by decide+kernel))
 have HQ11:=Hd.mk (rnum_x [0,0,0] ⟨#[0,0,0]⟩ (by decide) (by decide) (by decide+kernel))
 have HIn:=Hd.mk h
 clear h
 have HX:Hd (CellsAt w.heap.size X.arr.toList (w.alloc (.cells X.arr 33))):=⟨CellsAt.new w X.arr.toList 33⟩
 have HB:Hd (Below w.heap.size w (w.alloc (.cells X.arr 33))):=⟨below_alloc w _⟩
 go_enter Tryz.func116,Tryz.ntmps116
 go_wp2_with fail
 have HF:Hd (∀w',Below (w.alloc (.cells X.arr 33)).drew.heap.size (w.alloc (.cells X.arr 33)).drew w'→w'.cell? ⟨w.heap.size,0,none⟩=some (.string ⟨#[97]⟩)∧w'.cell? ⟨w.heap.size,1,none⟩=some (.slice (some ⟨X.g1,X.o1,none⟩) 1 X.c1)):=⟨fun w' h0=>by
  have h:Below (w.alloc (.cells X.arr 33)).heap.size (w.alloc (.cells X.arr 33)) w':=(Below.drew (Below.refl _ _)).trans h0
  exact⟨(HX.out.below h).2 0 _ rfl,(HX.out.below h).2 1 _ rfl⟩⟩
 refine wp_region_each default (fun w'=>Below (w.alloc (.cells X.arr 33)).drew.heap.size (w.alloc (.cells X.arr 33)).drew w') (WtL [(2, .val (.string ⟨#[1,97]⟩)),(6, .row [1]),(7, .val (.string ⟨#[1]⟩)),(8, .val (.string ⟨#[1,97,1]⟩)),(9, .val (.string ⟨#[1,97,1]⟩))]) (fun w w'=>Below w.heap.size w w') [0,1,3,4,5] [(2,some 10),(6,some 14),(7,some 15),(8,some 16),(9,some 3)] (fun j=>undef)
  (by kernel_rfl) (by kernel_rfl) rfl (by kernel_rfl) (by kernel_rfl) (by kernel_rfl) (fun w=>Below.refl _ _) (fun a b c h k=>h.trans (k.mono h.size)) (WtL.keep _) (fun w' h=>h) ?_
 simp only[List.map_cons,List.map_nil,List.getD_cons_zero,List.getD_cons_succ]
 repeat
  refine free_step (v:= ?_) (by rfl) ?_ ?_
  rotate_left
  ·intro w' hSw
   obtain⟨d0,d1⟩:=HF.out w' hSw
   clear hSw
   go_simp
   first | done | with_reducible rfl
  simp only[Act.put,List.setIfInBounds_toArray,List.set_cons_zero,List.set_cons_succ]
 refine⟨by kernel_rfl,?_,?_⟩
 ·simp only[StepsAt,List.getD_cons_zero,List.getD_cons_succ]
  refine⟨?_,?_,?_,?_,?_,trivial⟩
  all_goals
   intro s w1 k hd K' hK'
   simp only[foldPut,List.foldl_cons,List.foldl_nil,Act.put,List.setIfInBounds_toArray,List.set_cons_zero,List.set_cons_succ] at hK'⊢
  ·clear hd
   go_simp
   refine(HT0.out _).mono ?_
   rintro e w2 ⟨rfl,h2⟩
   exact hK'.out _ _ (WtL.ofVal rfl) h2
  ·clear hd
   go_simp
   exact hK'.out _ _ (WtL.ofRow rfl (ints_row _ [1])) (below_alloc _ _)
  ·have hR:=(hd 6 (by kernel_rfl) (by kernel_rfl)).row rfl
   clear hd
   generalize s 6=v0 at hR hK'⊢
   go_simp
   refine(HQ1.out _ _ hR).mono ?_
   rintro e w2 ⟨rfl,h2⟩
   exact hK'.out _ _ (WtL.ofVal rfl) h2
  ·have e2:=(hd 2 (by kernel_rfl) (by kernel_rfl)).val rfl;have e7:=(hd 7 (by kernel_rfl) (by kernel_rfl)).val rfl;rw[e2,e7] at hK'⊢;clear hd
   have t1:¬9223372036854775807< (⟨#[1,97]⟩:ByteArray).size+(⟨#[1]⟩:ByteArray).size:=by decide
   have HV:Hd ((⟨#[1,97]⟩:ByteArray)++⟨#[1]⟩=⟨#[1,97,1]⟩):=⟨by decide+kernel⟩
   go_simp
   exact hK'.out _ _ (WtL.ofVal (by rw[HV.out];rfl)) (Below.refl _ _)
  ·have e8:=(hd 8 (by kernel_rfl) (by kernel_rfl)).val rfl;rw[e8] at hK'⊢;clear hd
   go_simp
   exact hK'.out _ _ (WtL.ofVal rfl) (Below.refl _ _)
 intro s v1 k hall
 have e0:=(hall (9,some 3) (by simp)).val rfl
 dsimp only at e0
 have HW1:Hd (Below (w.alloc (.cells X.arr 33)).heap.size (w.alloc (.cells X.arr 33)) v1):=⟨(Below.drew (Below.refl _ _)).trans k⟩
 simp only[foldPut,List.foldl_cons,List.foldl_nil,Act.put,List.setIfInBounds_toArray,List.set_cons_zero,List.set_cons_succ]
 rw[e0]
 clear hall k HF
 refine NoPanic.normal ?_
 have HX2:Hd (CellsAt w.heap.size X.arr.toList v1):=⟨HX.out.below HW1.out⟩
 have HB2:Hd (Below w.heap.size w v1):=⟨HB.out.trans (HW1.out.mono HB.out.size)⟩
 clear HX HB
 have HX:=HX2
 have HB:=HB2
 clear HX2 HB2
 have b1:=HX.out.2 1 _ rfl
 have b2:=HX.out.2 2 _ rfl
 clear HW1
 go_wp2_with fail
 refine wp_loop_rounds 2 ?_
 rw[rounds_succ]
 have c0:=(HIn.out.sec v1 HB.out).1
 have c1:=(HIn.out.sec v1 HB.out).2.1
 have c2:=(HIn.out.sec v1 HB.out).2.2.1
 have c3:=(HIn.out.sec v1 HB.out).2.2.2.1
 have c4:=(HIn.out.sec v1 HB.out).2.2.2.2.1
 have c5:=(HIn.out.sec v1 HB.out).2.2.2.2.2
 go_wp2_with fail
 have HNew:=Hd.mk (CellsAt.new v1 [.string ⟨#[120]⟩, .int .i64 1, .int .i64 8, .int .i64 8, .string ⟨#[0,0,0,0,0,0,0,0]⟩, .bool false] 47)
 have HF:Hd (∀w',Below (v1.alloc (.cells #[.string ⟨#[120]⟩, .int .i64 1, .int .i64 8, .int .i64 8, .string ⟨#[0,0,0,0,0,0,0,0]⟩, .bool false] 47)).drew.heap.size (v1.alloc (.cells #[.string ⟨#[120]⟩, .int .i64 1, .int .i64 8, .int .i64 8, .string ⟨#[0,0,0,0,0,0,0,0]⟩, .bool false] 47)).drew w'→w'.cell? ⟨v1.heap.size,0,none⟩=some (.string ⟨#[120]⟩)∧w'.cell? ⟨v1.heap.size,1,none⟩=some (.int .i64 1)∧w'.cell? ⟨v1.heap.size,2,none⟩=some (.int .i64 8)∧w'.cell? ⟨v1.heap.size,3,none⟩=some (.int .i64 8)∧w'.cell? ⟨v1.heap.size,4,none⟩=some (.string ⟨#[0,0,0,0,0,0,0,0]⟩)∧w'.cell? ⟨v1.heap.size,5,none⟩=some (.bool false)):=⟨fun w' h0=>by
  have h:Below (v1.alloc (.cells #[.string ⟨#[120]⟩, .int .i64 1, .int .i64 8, .int .i64 8, .string ⟨#[0,0,0,0,0,0,0,0]⟩, .bool false] 47)).heap.size (v1.alloc (.cells #[.string ⟨#[120]⟩, .int .i64 1, .int .i64 8, .int .i64 8, .string ⟨#[0,0,0,0,0,0,0,0]⟩, .bool false] 47)) w':=(Below.drew (Below.refl _ _)).trans h0
  exact⟨(HNew.out.below h).2 0 _ rfl,(HNew.out.below h).2 1 _ rfl,(HNew.out.below h).2 2 _ rfl,(HNew.out.below h).2 3 _ rfl,(HNew.out.below h).2 4 _ rfl,(HNew.out.below h).2 5 _ rfl⟩⟩
 clear HNew
 clear c0 c1 c2 c3 c4 c5
 refine wp_region_each default (fun w'=>Below (v1.alloc (.cells #[.string ⟨#[120]⟩, .int .i64 1, .int .i64 8, .int .i64 8, .string ⟨#[0,0,0,0,0,0,0,0]⟩, .bool false] 47)).drew.heap.size (v1.alloc (.cells #[.string ⟨#[120]⟩, .int .i64 1, .int .i64 8, .int .i64 8, .string ⟨#[0,0,0,0,0,0,0,0]⟩, .bool false] 47)).drew w') (WtL [(3, .val (.string ⟨#[1,120]⟩)),(4, .val (.string ⟨#[1,97,1,1,120]⟩)),(11, .row [1,8,8]),(12, .val (.string ⟨#[1,8,8]⟩)),(13, .val (.string ⟨#[1,97,1,1,120,1,8,8]⟩)),(16, .val (.string ⟨#[8,0,0,0,0,0,0,0,0]⟩)),(17, .val (.string ⟨#[1,97,1,1,120,1,8,8,8,0,0,0,0,0,0,0,0]⟩)),(20, .val (.int .i64 0)),(21, .row [0]),(22, .val (.string ⟨#[0]⟩)),(23, .val (.string ⟨#[1,97,1,1,120,1,8,8,8,0,0,0,0,0,0,0,0,0]⟩)),(24, .val (.string ⟨#[1,97,1,1,120,1,8,8,8,0,0,0,0,0,0,0,0,0]⟩))]) (fun w w'=>Below w.heap.size w w') [0,1,2,5,6,7,8,9,10,14,15,18,19] [(3,some 32),(4,some 33),(11,some 40),(12,some 41),(13,some 42),(16,some 45),(17,some 46),(20,some 49),(21,some 50),(22,some 51),(23,some 52),(24,some 3)] (fun j=>if j=24 then .string ⟨#[1,97,1]⟩ else undef)
  (by kernel_rfl) (by kernel_rfl) rfl (by kernel_rfl) (by kernel_rfl) (by kernel_rfl) (fun w=>Below.refl _ _) (fun a b c h k=>h.trans (k.mono h.size)) (WtL.keep _) (fun w' h=>h) ?_
 simp only[List.map_cons,List.map_nil,List.getD_cons_zero,List.getD_cons_succ]
 repeat
  refine free_step (v:= ?_) (by rfl) ?_ ?_
  rotate_left
  ·intro w' hSw
   obtain⟨d0,d1,d2,d3,d4,d5⟩:=HF.out w' hSw
   clear hSw
   go_simp
   first | done | with_reducible rfl
  simp only[Act.put,List.setIfInBounds_toArray,List.set_cons_zero,List.set_cons_succ]
 refine⟨by kernel_rfl,?_,?_⟩
 ·simp only[StepsAt,List.getD_cons_zero,List.getD_cons_succ]
  refine⟨?_,?_,?_,?_,?_,?_,?_,?_,?_,?_,?_,?_,trivial⟩
  all_goals
   intro s w1 k hd K' hK'
   simp only[foldPut,List.foldl_cons,List.foldl_nil,Act.put,List.setIfInBounds_toArray,List.set_cons_zero,List.set_cons_succ] at hK'⊢
  ·clear hd
   go_simp
   refine(HT2.out _).mono ?_
   rintro e w2 ⟨rfl,h2⟩
   exact hK'.out _ _ (WtL.ofVal rfl) h2
  ·have e3:=(hd 3 (by kernel_rfl) (by kernel_rfl)).val rfl;rw[e3] at hK'⊢;clear hd
   have t1:¬9223372036854775807< (⟨#[1,97,1]⟩:ByteArray).size+(⟨#[1,120]⟩:ByteArray).size:=by decide
   have HV:Hd ((⟨#[1,97,1]⟩:ByteArray)++⟨#[1,120]⟩=⟨#[1,97,1,1,120]⟩):=⟨by decide+kernel⟩
   go_simp
   exact hK'.out _ _ (WtL.ofVal (by rw[HV.out];rfl)) (Below.refl _ _)
  ·clear hd
   go_simp
   exact hK'.out _ _ (WtL.ofRow rfl (ints_row _ [1,8,8])) (below_alloc _ _)
  ·have hR:=(hd 11 (by kernel_rfl) (by kernel_rfl)).row rfl
   clear hd
   generalize s 11=v0 at hR hK'⊢
   go_simp
   refine(HQ3.out _ _ hR).mono ?_
   rintro e w2 ⟨rfl,h2⟩
   exact hK'.out _ _ (WtL.ofVal rfl) h2
  ·have e4:=(hd 4 (by kernel_rfl) (by kernel_rfl)).val rfl;have e12:=(hd 12 (by kernel_rfl) (by kernel_rfl)).val rfl;rw[e4,e12] at hK'⊢;clear hd
   have t1:¬9223372036854775807< (⟨#[1,97,1,1,120]⟩:ByteArray).size+(⟨#[1,8,8]⟩:ByteArray).size:=by decide
   have HV:Hd ((⟨#[1,97,1,1,120]⟩:ByteArray)++⟨#[1,8,8]⟩=⟨#[1,97,1,1,120,1,8,8]⟩):=⟨by decide+kernel⟩
   go_simp
   exact hK'.out _ _ (WtL.ofVal (by rw[HV.out];rfl)) (Below.refl _ _)
  ·clear hd
   go_simp
   refine(HT4.out _).mono ?_
   rintro e w2 ⟨rfl,h2⟩
   exact hK'.out _ _ (WtL.ofVal rfl) h2
  ·have e13:=(hd 13 (by kernel_rfl) (by kernel_rfl)).val rfl;have e16:=(hd 16 (by kernel_rfl) (by kernel_rfl)).val rfl;rw[e13,e16] at hK'⊢;clear hd
   have t1:¬9223372036854775807< (⟨#[1,97,1,1,120,1,8,8]⟩:ByteArray).size+(⟨#[8,0,0,0,0,0,0,0,0]⟩:ByteArray).size:=by decide
   have HV:Hd ((⟨#[1,97,1,1,120,1,8,8]⟩:ByteArray)++⟨#[8,0,0,0,0,0,0,0,0]⟩=⟨#[1,97,1,1,120,1,8,8,8,0,0,0,0,0,0,0,0]⟩):=⟨by decide+kernel⟩
   go_simp
   exact hK'.out _ _ (WtL.ofVal (by rw[HV.out];rfl)) (Below.refl _ _)
  ·clear hd
   go_simp
   refine(HB5.out _).mono ?_
   rintro e w2 ⟨rfl,rfl⟩
   exact hK'.out _ _ (WtL.ofVal rfl) (Below.refl _ _)
  ·have e20:=(hd 20 (by kernel_rfl) (by kernel_rfl)).val rfl;rw[e20] at hK'⊢;clear hd
   go_simp
   exact hK'.out _ _ (WtL.ofRow rfl (ints_row _ [0])) (below_alloc _ _)
  ·have hR:=(hd 21 (by kernel_rfl) (by kernel_rfl)).row rfl
   clear hd
   generalize s 21=v0 at hR hK'⊢
   go_simp
   refine(HQ6.out _ _ hR).mono ?_
   rintro e w2 ⟨rfl,h2⟩
   exact hK'.out _ _ (WtL.ofVal rfl) h2
  ·have e17:=(hd 17 (by kernel_rfl) (by kernel_rfl)).val rfl;have e22:=(hd 22 (by kernel_rfl) (by kernel_rfl)).val rfl;rw[e17,e22] at hK'⊢;clear hd
   have t1:¬9223372036854775807< (⟨#[1,97,1,1,120,1,8,8,8,0,0,0,0,0,0,0,0]⟩:ByteArray).size+(⟨#[0]⟩:ByteArray).size:=by decide
   have HV:Hd ((⟨#[1,97,1,1,120,1,8,8,8,0,0,0,0,0,0,0,0]⟩:ByteArray)++⟨#[0]⟩=⟨#[1,97,1,1,120,1,8,8,8,0,0,0,0,0,0,0,0,0]⟩):=⟨by decide+kernel⟩
   go_simp
   exact hK'.out _ _ (WtL.ofVal (by rw[HV.out];rfl)) (Below.refl _ _)
  ·have e23:=(hd 23 (by kernel_rfl) (by kernel_rfl)).val rfl;rw[e23] at hK'⊢;clear hd
   go_simp
   exact hK'.out _ _ (WtL.ofVal rfl) (Below.refl _ _)
 intro s v2 k hall
 have e0:=(hall (24,some 3) (by simp)).val rfl
 dsimp only at e0
 have HW2:Hd (Below (v1.alloc (.cells #[.string ⟨#[120]⟩, .int .i64 1, .int .i64 8, .int .i64 8, .string ⟨#[0,0,0,0,0,0,0,0]⟩, .bool false] 47)).heap.size (v1.alloc (.cells #[.string ⟨#[120]⟩, .int .i64 1, .int .i64 8, .int .i64 8, .string ⟨#[0,0,0,0,0,0,0,0]⟩, .bool false] 47)) v2):=⟨(Below.drew (Below.refl _ _)).trans k⟩
 simp only[foldPut,List.foldl_cons,List.foldl_nil,Act.put,List.setIfInBounds_toArray,List.set_cons_zero,List.set_cons_succ]
 rw[e0]
 clear hall k HF
 refine NoPanic.normal ?_
 have HX2:Hd (CellsAt w.heap.size X.arr.toList v2):=⟨HX.out.below ((below_alloc v1 _).trans (HW2.out.mono (below_alloc v1 _).size))⟩
 have HB2:Hd (Below w.heap.size w v2):=⟨HB.out.trans (((below_alloc v1 _).trans (HW2.out.mono (below_alloc v1 _).size)).mono HB.out.size)⟩
 clear HX HB
 have HX:=HX2
 have HB:=HB2
 clear HX2 HB2
 clear b1 b2
 have b1:=HX.out.2 1 _ rfl
 have b2:=HX.out.2 2 _ rfl
 clear HW2
 go_wp2
 rw[rounds_succ]
 go_wp2_with fail
 refine(HQ1.out _ _ (row1A v2 1)).mono ?_
 rintro e v3 ⟨rfl,hn⟩
 have HX2:Hd (CellsAt w.heap.size X.arr.toList v3):=⟨HX.out.below ((below_alloc v2 _).trans (hn.mono (below_alloc v2 _).size))⟩
 have HB2:Hd (Below w.heap.size w v3):=⟨HB.out.trans (((below_alloc v2 _).trans (hn.mono (below_alloc v2 _).size)).mono HB.out.size)⟩
 clear HX HB
 have HX:=HX2
 have HB:=HB2
 clear HX2 HB2
 clear b1 b2
 have b1:=HX.out.2 1 _ rfl
 have b2:=HX.out.2 2 _ rfl
 clear hn
 have t1:¬9223372036854775807< (⟨#[1,97,1,1,120,1,8,8,8,0,0,0,0,0,0,0,0,0]⟩:ByteArray).size+(⟨#[1]⟩:ByteArray).size:=by decide
 have hv:(⟨#[1,97,1,1,120,1,8,8,8,0,0,0,0,0,0,0,0,0]⟩:ByteArray)++⟨#[1]⟩=⟨#[1,97,1,1,120,1,8,8,8,0,0,0,0,0,0,0,0,0,1]⟩:=by decide+kernel
 go_wp2_with fail
 clear t1 hv
 refine wp_loop_rounds 2 ?_
 rw[rounds_succ]
 have c0:=(HIn.out.sym v3 HB.out).1
 have c1:=(HIn.out.sym v3 HB.out).2.1
 have c2:=(HIn.out.sym v3 HB.out).2.2.1
 have c3:=(HIn.out.sym v3 HB.out).2.2.2.1
 have c4:=(HIn.out.sym v3 HB.out).2.2.2.2.1
 have c5:=(HIn.out.sym v3 HB.out).2.2.2.2.2.1
 have c6:=(HIn.out.sym v3 HB.out).2.2.2.2.2.2.1
 have c7:=(HIn.out.sym v3 HB.out).2.2.2.2.2.2.2.1
 have c8:=(HIn.out.sym v3 HB.out).2.2.2.2.2.2.2.2.1
 have c9:=(HIn.out.sym v3 HB.out).2.2.2.2.2.2.2.2.2
 go_wp2_with fail
 have HNew:=Hd.mk (CellsAt.new v3 [.string ⟨#[112]⟩, .string ⟨#[]⟩, .bool false, .int .i64 1, .int .i64 0, .int .i64 1, .int .i64 (-1), .int .i64 0, .int .i64 0, .int .i64 0] 55)
 have HF:Hd (∀w',Below (v3.alloc (.cells #[.string ⟨#[112]⟩, .string ⟨#[]⟩, .bool false, .int .i64 1, .int .i64 0, .int .i64 1, .int .i64 (-1), .int .i64 0, .int .i64 0, .int .i64 0] 55)).drew.heap.size (v3.alloc (.cells #[.string ⟨#[112]⟩, .string ⟨#[]⟩, .bool false, .int .i64 1, .int .i64 0, .int .i64 1, .int .i64 (-1), .int .i64 0, .int .i64 0, .int .i64 0] 55)).drew w'→w'.cell? ⟨v3.heap.size,0,none⟩=some (.string ⟨#[112]⟩)∧w'.cell? ⟨v3.heap.size,1,none⟩=some (.string ⟨#[]⟩)∧w'.cell? ⟨v3.heap.size,2,none⟩=some (.bool false)∧w'.cell? ⟨v3.heap.size,3,none⟩=some (.int .i64 1)∧w'.cell? ⟨v3.heap.size,4,none⟩=some (.int .i64 0)∧w'.cell? ⟨v3.heap.size,5,none⟩=some (.int .i64 1)∧w'.cell? ⟨v3.heap.size,6,none⟩=some (.int .i64 (-1))∧w'.cell? ⟨v3.heap.size,7,none⟩=some (.int .i64 0)∧w'.cell? ⟨v3.heap.size,8,none⟩=some (.int .i64 0)∧w'.cell? ⟨v3.heap.size,9,none⟩=some (.int .i64 0)):=⟨fun w' h0=>by
  have h:Below (v3.alloc (.cells #[.string ⟨#[112]⟩, .string ⟨#[]⟩, .bool false, .int .i64 1, .int .i64 0, .int .i64 1, .int .i64 (-1), .int .i64 0, .int .i64 0, .int .i64 0] 55)).heap.size (v3.alloc (.cells #[.string ⟨#[112]⟩, .string ⟨#[]⟩, .bool false, .int .i64 1, .int .i64 0, .int .i64 1, .int .i64 (-1), .int .i64 0, .int .i64 0, .int .i64 0] 55)) w':=(Below.drew (Below.refl _ _)).trans h0
  exact⟨(HNew.out.below h).2 0 _ rfl,(HNew.out.below h).2 1 _ rfl,(HNew.out.below h).2 2 _ rfl,(HNew.out.below h).2 3 _ rfl,(HNew.out.below h).2 4 _ rfl,(HNew.out.below h).2 5 _ rfl,(HNew.out.below h).2 6 _ rfl,(HNew.out.below h).2 7 _ rfl,(HNew.out.below h).2 8 _ rfl,(HNew.out.below h).2 9 _ rfl⟩⟩
 clear HNew
 clear c0 c1 c2 c3 c4 c5 c6 c7 c8 c9
 refine wp_region_each default (fun w'=>Below (v3.alloc (.cells #[.string ⟨#[112]⟩, .string ⟨#[]⟩, .bool false, .int .i64 1, .int .i64 0, .int .i64 1, .int .i64 (-1), .int .i64 0, .int .i64 0, .int .i64 0] 55)).drew.heap.size (v3.alloc (.cells #[.string ⟨#[112]⟩, .string ⟨#[]⟩, .bool false, .int .i64 1, .int .i64 0, .int .i64 1, .int .i64 (-1), .int .i64 0, .int .i64 0, .int .i64 0] 55)).drew w') (WtL [(3, .val (.string ⟨#[1,112]⟩)),(4, .val (.string ⟨#[1,97,1,1,120,1,8,8,8,0,0,0,0,0,0,0,0,0,1,1,112]⟩)),(7, .val (.string ⟨#[0]⟩)),(8, .val (.string ⟨#[1,97,1,1,120,1,8,8,8,0,0,0,0,0,0,0,0,0,1,1,112,0]⟩)),(11, .val (.int .i64 0)),(18, .row [0,1,0,1]),(19, .val (.string ⟨#[0,1,0,1]⟩)),(20, .val (.string ⟨#[1,97,1,1,120,1,8,8,8,0,0,0,0,0,0,0,0,0,1,1,112,0,0,1,0,1]⟩)),(23, .val (.string ⟨#[1]⟩)),(24, .val (.string ⟨#[1,97,1,1,120,1,8,8,8,0,0,0,0,0,0,0,0,0,1,1,112,0,0,1,0,1,1]⟩)),(31, .row [0,0,0]),(32, .val (.string ⟨#[0,0,0]⟩)),(33, .val (.string ⟨#[1,97,1,1,120,1,8,8,8,0,0,0,0,0,0,0,0,0,1,1,112,0,0,1,0,1,1,0,0,0]⟩)),(34, .val (.string ⟨#[1,97,1,1,120,1,8,8,8,0,0,0,0,0,0,0,0,0,1,1,112,0,0,1,0,1,1,0,0,0]⟩))]) (fun w w'=>Below w.heap.size w w') [0,1,2,5,6,9,10,12,13,14,15,16,17,21,22,25,26,27,28,29,30] [(3,some 75),(4,some 76),(7,some 79),(8,some 80),(11,some 83),(18,some 90),(19,some 91),(20,some 92),(23,some 95),(24,some 96),(31,some 103),(32,some 104),(33,some 105),(34,some 3)] (fun j=>if j=34 then .string ⟨#[1,97,1,1,120,1,8,8,8,0,0,0,0,0,0,0,0,0,1]⟩ else undef)
  (by kernel_rfl) (by kernel_rfl) rfl (by kernel_rfl) (by kernel_rfl) (by kernel_rfl) (fun w=>Below.refl _ _) (fun a b c h k=>h.trans (k.mono h.size)) (WtL.keep _) (fun w' h=>h) ?_
 simp only[List.map_cons,List.map_nil,List.getD_cons_zero,List.getD_cons_succ]
 repeat
  refine free_step (v:= ?_) (by rfl) ?_ ?_
  rotate_left
  ·intro w' hSw
   obtain⟨d0,d1,d2,d3,d4,d5,d6,d7,d8,d9⟩:=HF.out w' hSw
   clear hSw
   go_simp
   first | done | with_reducible rfl
  simp only[Act.put,List.setIfInBounds_toArray,List.set_cons_zero,List.set_cons_succ]
 refine⟨by kernel_rfl,?_,?_⟩
 ·simp only[StepsAt,List.getD_cons_zero,List.getD_cons_succ]
  refine⟨?_,?_,?_,?_,?_,?_,?_,?_,?_,?_,?_,?_,?_,?_,trivial⟩
  all_goals
   intro s w1 k hd K' hK'
   simp only[foldPut,List.foldl_cons,List.foldl_nil,Act.put,List.setIfInBounds_toArray,List.set_cons_zero,List.set_cons_succ] at hK'⊢
  ·clear hd
   go_simp
   refine(HT7.out _).mono ?_
   rintro e w2 ⟨rfl,h2⟩
   exact hK'.out _ _ (WtL.ofVal rfl) h2
  ·have e3:=(hd 3 (by kernel_rfl) (by kernel_rfl)).val rfl;rw[e3] at hK'⊢;clear hd
   have t1:¬9223372036854775807< (⟨#[1,97,1,1,120,1,8,8,8,0,0,0,0,0,0,0,0,0,1]⟩:ByteArray).size+(⟨#[1,112]⟩:ByteArray).size:=by decide
   have HV:Hd ((⟨#[1,97,1,1,120,1,8,8,8,0,0,0,0,0,0,0,0,0,1]⟩:ByteArray)++⟨#[1,112]⟩=⟨#[1,97,1,1,120,1,8,8,8,0,0,0,0,0,0,0,0,0,1,1,112]⟩):=⟨by decide+kernel⟩
   go_simp
   exact hK'.out _ _ (WtL.ofVal (by rw[HV.out];rfl)) (Below.refl _ _)
  ·clear hd
   go_simp
   refine(HT8.out _).mono ?_
   rintro e w2 ⟨rfl,h2⟩
   exact hK'.out _ _ (WtL.ofVal rfl) h2
  ·have e4:=(hd 4 (by kernel_rfl) (by kernel_rfl)).val rfl;have e7:=(hd 7 (by kernel_rfl) (by kernel_rfl)).val rfl;rw[e4,e7] at hK'⊢;clear hd
   have t1:¬9223372036854775807< (⟨#[1,97,1,1,120,1,8,8,8,0,0,0,0,0,0,0,0,0,1,1,112]⟩:ByteArray).size+(⟨#[0]⟩:ByteArray).size:=by decide
   have HV:Hd ((⟨#[1,97,1,1,120,1,8,8,8,0,0,0,0,0,0,0,0,0,1,1,112]⟩:ByteArray)++⟨#[0]⟩=⟨#[1,97,1,1,120,1,8,8,8,0,0,0,0,0,0,0,0,0,1,1,112,0]⟩):=⟨by decide+kernel⟩
   go_simp
   exact hK'.out _ _ (WtL.ofVal (by rw[HV.out];rfl)) (Below.refl _ _)
  ·clear hd
   go_simp
   refine(HB5.out _).mono ?_
   rintro e w2 ⟨rfl,rfl⟩
   exact hK'.out _ _ (WtL.ofVal rfl) (Below.refl _ _)
  ·have e11:=(hd 11 (by kernel_rfl) (by kernel_rfl)).val rfl;rw[e11] at hK'⊢;clear hd
   go_simp
   exact hK'.out _ _ (WtL.ofRow rfl (ints_row _ [0,1,0,1])) (below_alloc _ _)
  ·have hR:=(hd 18 (by kernel_rfl) (by kernel_rfl)).row rfl
   clear hd
   generalize s 18=v0 at hR hK'⊢
   go_simp
   refine(HQ9.out _ _ hR).mono ?_
   rintro e w2 ⟨rfl,h2⟩
   exact hK'.out _ _ (WtL.ofVal rfl) h2
  ·have e8:=(hd 8 (by kernel_rfl) (by kernel_rfl)).val rfl;have e19:=(hd 19 (by kernel_rfl) (by kernel_rfl)).val rfl;rw[e8,e19] at hK'⊢;clear hd
   have t1:¬9223372036854775807< (⟨#[1,97,1,1,120,1,8,8,8,0,0,0,0,0,0,0,0,0,1,1,112,0]⟩:ByteArray).size+(⟨#[0,1,0,1]⟩:ByteArray).size:=by decide
   have HV:Hd ((⟨#[1,97,1,1,120,1,8,8,8,0,0,0,0,0,0,0,0,0,1,1,112,0]⟩:ByteArray)++⟨#[0,1,0,1]⟩=⟨#[1,97,1,1,120,1,8,8,8,0,0,0,0,0,0,0,0,0,1,1,112,0,0,1,0,1]⟩):=⟨by decide+kernel⟩
   go_simp
   exact hK'.out _ _ (WtL.ofVal (by rw[HV.out];rfl)) (Below.refl _ _)
  ·clear hd
   go_simp
   refine(HI10.out _).mono ?_
   rintro e w2 ⟨rfl,h2⟩
   exact hK'.out _ _ (WtL.ofVal rfl) h2
  ·have e20:=(hd 20 (by kernel_rfl) (by kernel_rfl)).val rfl;have e23:=(hd 23 (by kernel_rfl) (by kernel_rfl)).val rfl;rw[e20,e23] at hK'⊢;clear hd
   have t1:¬9223372036854775807< (⟨#[1,97,1,1,120,1,8,8,8,0,0,0,0,0,0,0,0,0,1,1,112,0,0,1,0,1]⟩:ByteArray).size+(⟨#[1]⟩:ByteArray).size:=by decide
   have HV:Hd ((⟨#[1,97,1,1,120,1,8,8,8,0,0,0,0,0,0,0,0,0,1,1,112,0,0,1,0,1]⟩:ByteArray)++⟨#[1]⟩=⟨#[1,97,1,1,120,1,8,8,8,0,0,0,0,0,0,0,0,0,1,1,112,0,0,1,0,1,1]⟩):=⟨by decide+kernel⟩
   go_simp
   exact hK'.out _ _ (WtL.ofVal (by rw[HV.out];rfl)) (Below.refl _ _)
  ·clear hd
   go_simp
   exact hK'.out _ _ (WtL.ofRow rfl (ints_row _ [0,0,0])) (below_alloc _ _)
  ·have hR:=(hd 31 (by kernel_rfl) (by kernel_rfl)).row rfl
   clear hd
   generalize s 31=v0 at hR hK'⊢
   go_simp
   refine(HQ11.out _ _ hR).mono ?_
   rintro e w2 ⟨rfl,h2⟩
   exact hK'.out _ _ (WtL.ofVal rfl) h2
  ·have e24:=(hd 24 (by kernel_rfl) (by kernel_rfl)).val rfl;have e32:=(hd 32 (by kernel_rfl) (by kernel_rfl)).val rfl;rw[e24,e32] at hK'⊢;clear hd
   have t1:¬9223372036854775807< (⟨#[1,97,1,1,120,1,8,8,8,0,0,0,0,0,0,0,0,0,1,1,112,0,0,1,0,1,1]⟩:ByteArray).size+(⟨#[0,0,0]⟩:ByteArray).size:=by decide
   have HV:Hd ((⟨#[1,97,1,1,120,1,8,8,8,0,0,0,0,0,0,0,0,0,1,1,112,0,0,1,0,1,1]⟩:ByteArray)++⟨#[0,0,0]⟩=⟨#[1,97,1,1,120,1,8,8,8,0,0,0,0,0,0,0,0,0,1,1,112,0,0,1,0,1,1,0,0,0]⟩):=⟨by decide+kernel⟩
   go_simp
   exact hK'.out _ _ (WtL.ofVal (by rw[HV.out];rfl)) (Below.refl _ _)
  ·have e33:=(hd 33 (by kernel_rfl) (by kernel_rfl)).val rfl;rw[e33] at hK'⊢;clear hd
   go_simp
   exact hK'.out _ _ (WtL.ofVal rfl) (Below.refl _ _)
 intro s v4 k hall
 have e0:=(hall (34,some 3) (by simp)).val rfl
 dsimp only at e0
 have HW4:Hd (Below (v3.alloc (.cells #[.string ⟨#[112]⟩, .string ⟨#[]⟩, .bool false, .int .i64 1, .int .i64 0, .int .i64 1, .int .i64 (-1), .int .i64 0, .int .i64 0, .int .i64 0] 55)).heap.size (v3.alloc (.cells #[.string ⟨#[112]⟩, .string ⟨#[]⟩, .bool false, .int .i64 1, .int .i64 0, .int .i64 1, .int .i64 (-1), .int .i64 0, .int .i64 0, .int .i64 0] 55)) v4):=⟨(Below.drew (Below.refl _ _)).trans k⟩
 simp only[foldPut,List.foldl_cons,List.foldl_nil,Act.put,List.setIfInBounds_toArray,List.set_cons_zero,List.set_cons_succ]
 rw[e0]
 clear hall k HF
 refine NoPanic.normal ?_
 have HX2:Hd (CellsAt w.heap.size X.arr.toList v4):=⟨HX.out.below ((below_alloc v3 _).trans (HW4.out.mono (below_alloc v3 _).size))⟩
 have HB2:Hd (Below w.heap.size w v4):=⟨HB.out.trans (((below_alloc v3 _).trans (HW4.out.mono (below_alloc v3 _).size)).mono HB.out.size)⟩
 clear HX HB
 have HX:=HX2
 have HB:=HB2
 clear HX2 HB2
 clear b1 b2
 have b1:=HX.out.2 1 _ rfl
 have b2:=HX.out.2 2 _ rfl
 clear HW4
 go_wp2
 rw[rounds_succ]
 go_wp2
 go_ret
 exact⟨rfl,HB.out⟩
theorem rsecond_x (X:XV) (w:World) (h:X.In w):Calls Tryz.prog 117 #[.agg X.arr] w fun e w'=>e= .returned (.string ⟨#[1,0,0,0,0,0,0,0,0]⟩)∧Below w.heap.size w w':=by
 have HQ0:=Hd.mk (rnum_x [1] ⟨#[1]⟩ (by decide) (by decide) (by decide+kernel))
 have HQ1:=Hd.mk (rnum_x [0,0,0,0] ⟨#[0,0,0,0]⟩ (by decide) (by decide) (by decide+kernel))
 have HI2:=Hd.mk (rint_x 0 ⟨#[0]⟩ (by unfold I64;omega) (by decide+kernel))
 have HQ3:=Hd.mk (rnum_x [0] ⟨#[0]⟩ (by decide) (by decide) (by decide+kernel))
 have HIn:=Hd.mk h
 clear h
 have HX:Hd (CellsAt w.heap.size X.arr.toList (w.alloc (.cells X.arr 33))):=⟨CellsAt.new w X.arr.toList 33⟩
 have HB:Hd (Below w.heap.size w (w.alloc (.cells X.arr 33))):=⟨below_alloc w _⟩
 go_enter Tryz.func117,Tryz.ntmps117
 go_wp2_with fail
 refine(HQ0.out _ _ (row1B w _ 1)).mono ?_
 rintro e v1 ⟨rfl,hn⟩
 have HX2:Hd (CellsAt w.heap.size X.arr.toList v1):=⟨HX.out.below ((below_alloc (w.alloc (.cells X.arr 33)) _).trans (hn.mono (below_alloc (w.alloc (.cells X.arr 33)) _).size))⟩
 have HB2:Hd (Below w.heap.size w v1):=⟨HB.out.trans (((below_alloc (w.alloc (.cells X.arr 33)) _).trans (hn.mono (below_alloc (w.alloc (.cells X.arr 33)) _).size)).mono HB.out.size)⟩
 clear HX HB
 have HX:=HX2
 have HB:=HB2
 clear HX2 HB2
 have b3:=HX.out.2 3 _ rfl
 have b4:=HX.out.2 4 _ rfl
 have b5:=HX.out.2 5 _ rfl
 have b6:=HX.out.2 6 _ rfl
 clear hn
 go_wp2_with fail
 refine wp_loop_rounds 2 ?_
 rw[rounds_succ]
 have c0:=(HIn.out.rel v1 HB.out).1
 have c1:=(HIn.out.rel v1 HB.out).2.1
 have c2:=(HIn.out.rel v1 HB.out).2.2.1
 have c3:=(HIn.out.rel v1 HB.out).2.2.2.1
 have c4:=(HIn.out.rel v1 HB.out).2.2.2.2
 go_wp2_with fail
 have HNew:=Hd.mk (CellsAt.new v1 [.int .i64 0, .int .i64 0, .int .i64 0, .int .i64 0, .int .i64 0] 50)
 have HF:Hd (∀w',Below (v1.alloc (.cells #[.int .i64 0, .int .i64 0, .int .i64 0, .int .i64 0, .int .i64 0] 50)).drew.heap.size (v1.alloc (.cells #[.int .i64 0, .int .i64 0, .int .i64 0, .int .i64 0, .int .i64 0] 50)).drew w'→w'.cell? ⟨v1.heap.size,0,none⟩=some (.int .i64 0)∧w'.cell? ⟨v1.heap.size,1,none⟩=some (.int .i64 0)∧w'.cell? ⟨v1.heap.size,2,none⟩=some (.int .i64 0)∧w'.cell? ⟨v1.heap.size,3,none⟩=some (.int .i64 0)∧w'.cell? ⟨v1.heap.size,4,none⟩=some (.int .i64 0)):=⟨fun w' h0=>by
  have h:Below (v1.alloc (.cells #[.int .i64 0, .int .i64 0, .int .i64 0, .int .i64 0, .int .i64 0] 50)).heap.size (v1.alloc (.cells #[.int .i64 0, .int .i64 0, .int .i64 0, .int .i64 0, .int .i64 0] 50)) w':=(Below.drew (Below.refl _ _)).trans h0
  exact⟨(HNew.out.below h).2 0 _ rfl,(HNew.out.below h).2 1 _ rfl,(HNew.out.below h).2 2 _ rfl,(HNew.out.below h).2 3 _ rfl,(HNew.out.below h).2 4 _ rfl⟩⟩
 clear HNew
 clear c0 c1 c2 c3 c4
 refine wp_region_each default (fun w'=>Below (v1.alloc (.cells #[.int .i64 0, .int .i64 0, .int .i64 0, .int .i64 0, .int .i64 0] 50)).drew.heap.size (v1.alloc (.cells #[.int .i64 0, .int .i64 0, .int .i64 0, .int .i64 0, .int .i64 0] 50)).drew w') (WtL [(9, .row [0,0,0,0]),(10, .val (.string ⟨#[0,0,0,0]⟩)),(11, .val (.string ⟨#[1,0,0,0,0]⟩)),(14, .val (.string ⟨#[0]⟩)),(15, .val (.string ⟨#[1,0,0,0,0,0]⟩)),(16, .val (.string ⟨#[1,0,0,0,0,0]⟩))]) (fun w w'=>Below w.heap.size w w') [0,1,2,3,4,5,6,7,8,12,13] [(9,some 37),(10,some 38),(11,some 39),(14,some 42),(15,some 43),(16,some 3)] (fun j=>if j=16 then .string ⟨#[1]⟩ else undef)
  (by kernel_rfl) (by kernel_rfl) rfl (by kernel_rfl) (by kernel_rfl) (by kernel_rfl) (fun w=>Below.refl _ _) (fun a b c h k=>h.trans (k.mono h.size)) (WtL.keep _) (fun w' h=>h) ?_
 simp only[List.map_cons,List.map_nil,List.getD_cons_zero,List.getD_cons_succ]
 repeat
  refine free_step (v:= ?_) (by rfl) ?_ ?_
  rotate_left
  ·intro w' hSw
   obtain⟨d0,d1,d2,d3,d4⟩:=HF.out w' hSw
   clear hSw
   go_simp
   first | done | with_reducible rfl
  simp only[Act.put,List.setIfInBounds_toArray,List.set_cons_zero,List.set_cons_succ]
 refine⟨by kernel_rfl,?_,?_⟩
 ·simp only[StepsAt,List.getD_cons_zero,List.getD_cons_succ]
  refine⟨?_,?_,?_,?_,?_,?_,trivial⟩
  all_goals
   intro s w1 k hd K' hK'
   simp only[foldPut,List.foldl_cons,List.foldl_nil,Act.put,List.setIfInBounds_toArray,List.set_cons_zero,List.set_cons_succ] at hK'⊢
  ·clear hd
   go_simp
   exact hK'.out _ _ (WtL.ofRow rfl (ints_row _ [0,0,0,0])) (below_alloc _ _)
  ·have hR:=(hd 9 (by kernel_rfl) (by kernel_rfl)).row rfl
   clear hd
   generalize s 9=v0 at hR hK'⊢
   go_simp
   refine(HQ1.out _ _ hR).mono ?_
   rintro e w2 ⟨rfl,h2⟩
   exact hK'.out _ _ (WtL.ofVal rfl) h2
  ·have e10:=(hd 10 (by kernel_rfl) (by kernel_rfl)).val rfl;rw[e10] at hK'⊢;clear hd
   have t1:¬9223372036854775807< (⟨#[1]⟩:ByteArray).size+(⟨#[0,0,0,0]⟩:ByteArray).size:=by decide
   have HV:Hd ((⟨#[1]⟩:ByteArray)++⟨#[0,0,0,0]⟩=⟨#[1,0,0,0,0]⟩):=⟨by decide+kernel⟩
   go_simp
   exact hK'.out _ _ (WtL.ofVal (by rw[HV.out];rfl)) (Below.refl _ _)
  ·clear hd
   go_simp
   refine(HI2.out _).mono ?_
   rintro e w2 ⟨rfl,h2⟩
   exact hK'.out _ _ (WtL.ofVal rfl) h2
  ·have e11:=(hd 11 (by kernel_rfl) (by kernel_rfl)).val rfl;have e14:=(hd 14 (by kernel_rfl) (by kernel_rfl)).val rfl;rw[e11,e14] at hK'⊢;clear hd
   have t1:¬9223372036854775807< (⟨#[1,0,0,0,0]⟩:ByteArray).size+(⟨#[0]⟩:ByteArray).size:=by decide
   have HV:Hd ((⟨#[1,0,0,0,0]⟩:ByteArray)++⟨#[0]⟩=⟨#[1,0,0,0,0,0]⟩):=⟨by decide+kernel⟩
   go_simp
   exact hK'.out _ _ (WtL.ofVal (by rw[HV.out];rfl)) (Below.refl _ _)
  ·have e15:=(hd 15 (by kernel_rfl) (by kernel_rfl)).val rfl;rw[e15] at hK'⊢;clear hd
   go_simp
   exact hK'.out _ _ (WtL.ofVal rfl) (Below.refl _ _)
 intro s v2 k hall
 have e0:=(hall (16,some 3) (by simp)).val rfl
 dsimp only at e0
 have HW2:Hd (Below (v1.alloc (.cells #[.int .i64 0, .int .i64 0, .int .i64 0, .int .i64 0, .int .i64 0] 50)).heap.size (v1.alloc (.cells #[.int .i64 0, .int .i64 0, .int .i64 0, .int .i64 0, .int .i64 0] 50)) v2):=⟨(Below.drew (Below.refl _ _)).trans k⟩
 simp only[foldPut,List.foldl_cons,List.foldl_nil,Act.put,List.setIfInBounds_toArray,List.set_cons_zero,List.set_cons_succ]
 rw[e0]
 clear hall k HF
 refine NoPanic.normal ?_
 have HX2:Hd (CellsAt w.heap.size X.arr.toList v2):=⟨HX.out.below ((below_alloc v1 _).trans (HW2.out.mono (below_alloc v1 _).size))⟩
 have HB2:Hd (Below w.heap.size w v2):=⟨HB.out.trans (((below_alloc v1 _).trans (HW2.out.mono (below_alloc v1 _).size)).mono HB.out.size)⟩
 clear HX HB
 have HX:=HX2
 have HB:=HB2
 clear HX2 HB2
 clear b3 b4 b5 b6
 have b3:=HX.out.2 3 _ rfl
 have b4:=HX.out.2 4 _ rfl
 have b5:=HX.out.2 5 _ rfl
 have b6:=HX.out.2 6 _ rfl
 clear HW2
 go_wp2
 rw[rounds_succ]
 go_wp2_with fail
 refine(HQ3.out _ _ (row1A v2 0)).mono ?_
 rintro e v3 ⟨rfl,hn⟩
 have HX2:Hd (CellsAt w.heap.size X.arr.toList v3):=⟨HX.out.below ((below_alloc v2 _).trans (hn.mono (below_alloc v2 _).size))⟩
 have HB2:Hd (Below w.heap.size w v3):=⟨HB.out.trans (((below_alloc v2 _).trans (hn.mono (below_alloc v2 _).size)).mono HB.out.size)⟩
 clear HX HB
 have HX:=HX2
 have HB:=HB2
 clear HX2 HB2
 clear b3 b4 b5 b6
 have b3:=HX.out.2 3 _ rfl
 have b4:=HX.out.2 4 _ rfl
 have b5:=HX.out.2 5 _ rfl
 have b6:=HX.out.2 6 _ rfl
 clear hn
 have t1:¬9223372036854775807< (⟨#[1,0,0,0,0,0]⟩:ByteArray).size+(⟨#[0]⟩:ByteArray).size:=by decide
 have hv:(⟨#[1,0,0,0,0,0]⟩:ByteArray)++⟨#[0]⟩=⟨#[1,0,0,0,0,0,0]⟩:=by decide+kernel
 go_wp2_with fail
 clear t1 hv
 refine wp_loop_rounds 1 ?_
 rw[rounds_succ]
 go_wp2_with fail
 refine(HQ3.out _ _ (row1A v3 0)).mono ?_
 rintro e v4 ⟨rfl,hn⟩
 have HX2:Hd (CellsAt w.heap.size X.arr.toList v4):=⟨HX.out.below ((below_alloc v3 _).trans (hn.mono (below_alloc v3 _).size))⟩
 have HB2:Hd (Below w.heap.size w v4):=⟨HB.out.trans (((below_alloc v3 _).trans (hn.mono (below_alloc v3 _).size)).mono HB.out.size)⟩
 clear HX HB
 have HX:=HX2
 have HB:=HB2
 clear HX2 HB2
 clear b3 b4 b5 b6
 have b3:=HX.out.2 3 _ rfl
 have b4:=HX.out.2 4 _ rfl
 have b5:=HX.out.2 5 _ rfl
 have b6:=HX.out.2 6 _ rfl
 clear hn
 have t1:¬9223372036854775807< (⟨#[1,0,0,0,0,0,0]⟩:ByteArray).size+(⟨#[0]⟩:ByteArray).size:=by decide
 have hv:(⟨#[1,0,0,0,0,0,0]⟩:ByteArray)++⟨#[0]⟩=⟨#[1,0,0,0,0,0,0,0]⟩:=by decide+kernel
 go_wp2_with fail
 clear t1 hv
 refine wp_loop_rounds 1 ?_
 rw[rounds_succ]
 go_wp2_with fail
 refine(HQ3.out _ _ (row1A v4 0)).mono ?_
 rintro e v5 ⟨rfl,hn⟩
 have HX2:Hd (CellsAt w.heap.size X.arr.toList v5):=⟨HX.out.below ((below_alloc v4 _).trans (hn.mono (below_alloc v4 _).size))⟩
 have HB2:Hd (Below w.heap.size w v5):=⟨HB.out.trans (((below_alloc v4 _).trans (hn.mono (below_alloc v4 _).size)).mono HB.out.size)⟩
 clear HX HB
 have HX:=HX2
 have HB:=HB2
 clear HX2 HB2
 clear b3 b4 b5 b6
 have b3:=HX.out.2 3 _ rfl
 have b4:=HX.out.2 4 _ rfl
 have b5:=HX.out.2 5 _ rfl
 have b6:=HX.out.2 6 _ rfl
 clear hn
 have t1:¬9223372036854775807< (⟨#[1,0,0,0,0,0,0,0]⟩:ByteArray).size+(⟨#[0]⟩:ByteArray).size:=by decide
 have hv:(⟨#[1,0,0,0,0,0,0,0]⟩:ByteArray)++⟨#[0]⟩=⟨#[1,0,0,0,0,0,0,0,0]⟩:=by decide+kernel
 go_wp2_with fail
 clear t1 hv
 refine wp_loop_rounds 1 ?_
 rw[rounds_succ]
 go_wp2
 go_ret
 exact⟨rfl,HB.out⟩
theorem rthird_x (X:XV) (w:World):Calls Tryz.prog 118 #[.agg X.arr] w fun e w'=>e= .returned (.string ⟨#[0,0,0,0]⟩)∧Below w.heap.size w w':=by
 have HQ0:=Hd.mk (rnum_x [0] ⟨#[0]⟩ (by decide) (by decide) (by decide+kernel))
 have HX:Hd (CellsAt w.heap.size X.arr.toList (w.alloc (.cells X.arr 33))):=⟨CellsAt.new w X.arr.toList 33⟩
 have HB:Hd (Below w.heap.size w (w.alloc (.cells X.arr 33))):=⟨below_alloc w _⟩
 go_enter Tryz.func118,Tryz.ntmps118
 go_wp2_with fail
 refine(HQ0.out _ _ (row1B w _ 0)).mono ?_
 rintro e v1 ⟨rfl,hn⟩
 have HX2:Hd (CellsAt w.heap.size X.arr.toList v1):=⟨HX.out.below ((below_alloc (w.alloc (.cells X.arr 33)) _).trans (hn.mono (below_alloc (w.alloc (.cells X.arr 33)) _).size))⟩
 have HB2:Hd (Below w.heap.size w v1):=⟨HB.out.trans (((below_alloc (w.alloc (.cells X.arr 33)) _).trans (hn.mono (below_alloc (w.alloc (.cells X.arr 33)) _).size)).mono HB.out.size)⟩
 clear HX HB
 have HX:=HX2
 have HB:=HB2
 clear HX2 HB2
 have b7:=HX.out.2 7 _ rfl
 have b8:=HX.out.2 8 _ rfl
 have b9:=HX.out.2 9 _ rfl
 have b10:=HX.out.2 10 _ rfl
 clear hn
 go_wp2_with fail
 refine wp_loop_rounds 1 ?_
 rw[rounds_succ]
 go_wp2_with fail
 refine(HQ0.out _ _ (row1A v1 0)).mono ?_
 rintro e v2 ⟨rfl,hn⟩
 have HX2:Hd (CellsAt w.heap.size X.arr.toList v2):=⟨HX.out.below ((below_alloc v1 _).trans (hn.mono (below_alloc v1 _).size))⟩
 have HB2:Hd (Below w.heap.size w v2):=⟨HB.out.trans (((below_alloc v1 _).trans (hn.mono (below_alloc v1 _).size)).mono HB.out.size)⟩
 clear HX HB
 have HX:=HX2
 have HB:=HB2
 clear HX2 HB2
 clear b7 b8 b9 b10
 have b7:=HX.out.2 7 _ rfl
 have b8:=HX.out.2 8 _ rfl
 have b9:=HX.out.2 9 _ rfl
 have b10:=HX.out.2 10 _ rfl
 clear hn
 have t1:¬9223372036854775807< (⟨#[0]⟩:ByteArray).size+(⟨#[0]⟩:ByteArray).size:=by decide
 have hv:(⟨#[0]⟩:ByteArray)++⟨#[0]⟩=⟨#[0,0]⟩:=by decide+kernel
 go_wp2_with fail
 clear t1 hv
 refine wp_loop_rounds 1 ?_
 rw[rounds_succ]
 go_wp2_with fail
 refine(HQ0.out _ _ (row1A v2 0)).mono ?_
 rintro e v3 ⟨rfl,hn⟩
 have HX2:Hd (CellsAt w.heap.size X.arr.toList v3):=⟨HX.out.below ((below_alloc v2 _).trans (hn.mono (below_alloc v2 _).size))⟩
 have HB2:Hd (Below w.heap.size w v3):=⟨HB.out.trans (((below_alloc v2 _).trans (hn.mono (below_alloc v2 _).size)).mono HB.out.size)⟩
 clear HX HB
 have HX:=HX2
 have HB:=HB2
 clear HX2 HB2
 clear b7 b8 b9 b10
 have b7:=HX.out.2 7 _ rfl
 have b8:=HX.out.2 8 _ rfl
 have b9:=HX.out.2 9 _ rfl
 have b10:=HX.out.2 10 _ rfl
 clear hn
 have t1:¬9223372036854775807< (⟨#[0,0]⟩:ByteArray).size+(⟨#[0]⟩:ByteArray).size:=by decide
 have hv:(⟨#[0,0]⟩:ByteArray)++⟨#[0]⟩=⟨#[0,0,0]⟩:=by decide+kernel
 go_wp2_with fail
 clear t1 hv
 refine wp_loop_rounds 1 ?_
 rw[rounds_succ]
 go_wp2_with fail
 refine(HQ0.out _ _ (row1A v3 0)).mono ?_
 rintro e v4 ⟨rfl,hn⟩
 have HX2:Hd (CellsAt w.heap.size X.arr.toList v4):=⟨HX.out.below ((below_alloc v3 _).trans (hn.mono (below_alloc v3 _).size))⟩
 have HB2:Hd (Below w.heap.size w v4):=⟨HB.out.trans (((below_alloc v3 _).trans (hn.mono (below_alloc v3 _).size)).mono HB.out.size)⟩
 clear HX HB
 have HX:=HX2
 have HB:=HB2
 clear HX2 HB2
 clear b7 b8 b9 b10
 have b7:=HX.out.2 7 _ rfl
 have b8:=HX.out.2 8 _ rfl
 have b9:=HX.out.2 9 _ rfl
 have b10:=HX.out.2 10 _ rfl
 clear hn
 have t1:¬9223372036854775807< (⟨#[0,0,0]⟩:ByteArray).size+(⟨#[0]⟩:ByteArray).size:=by decide
 have hv:(⟨#[0,0,0]⟩:ByteArray)++⟨#[0]⟩=⟨#[0,0,0,0]⟩:=by decide+kernel
 go_wp2_with fail
 clear t1 hv
 refine wp_loop_rounds 1 ?_
 rw[rounds_succ]
 go_wp2
 go_ret
 exact⟨rfl,HB.out⟩
theorem rright_x (X:XV) (w:World) (h:X.In w):Calls Tryz.prog 16 #[.agg X.arr] w fun e w'=>e= .returned (.bool true)∧Below w.heap.size w w':=by
 have HN:=Hd.mk (rnm_x ⟨#[97]⟩ (by show lenR 1;unfold lenR;omega) nm_a)
 have HIn:=Hd.mk h
 clear h
 have HX:Hd (CellsAt w.heap.size X.arr.toList (w.alloc (.cells X.arr 33))):=⟨CellsAt.new w X.arr.toList 33⟩
 have HB:Hd (Below w.heap.size w (w.alloc (.cells X.arr 33))):=⟨below_alloc w _⟩
 go_enter Tryz.func16,Tryz.ntmps16
 go_wp2_with fail
 refine(HN.out _).mono ?_
 rintro e wq ⟨rfl,rfl⟩
 clear HN
 go_wp2_with fail
 refine(rsecs_x X _ (HIn.out.below HB.out)).mono ?_
 rintro e v0 ⟨rfl,hk⟩
 have HX2:Hd (CellsAt w.heap.size X.arr.toList v0):=⟨HX.out.below hk⟩
 have HB2:Hd (Below w.heap.size w v0):=⟨HB.out.trans (hk.mono HB.out.size)⟩
 clear HX HB hk
 have HX:=HX2
 have HB:=HB2
 clear HX2 HB2
 have b0:=HX.out.2 0 _ rfl
 have b1:=HX.out.2 1 _ rfl
 have b2:=HX.out.2 2 _ rfl
 have b3:=HX.out.2 3 _ rfl
 have b4:=HX.out.2 4 _ rfl
 have b5:=HX.out.2 5 _ rfl
 have b6:=HX.out.2 6 _ rfl
 have b7:=HX.out.2 7 _ rfl
 have b8:=HX.out.2 8 _ rfl
 have b9:=HX.out.2 9 _ rfl
 have b10:=HX.out.2 10 _ rfl
 go_wp2_with fail
 refine(rsyms_x X _ (HIn.out.below HB.out)).mono ?_
 rintro e v1 ⟨rfl,hk⟩
 have HX2:Hd (CellsAt w.heap.size X.arr.toList v1):=⟨HX.out.below hk⟩
 have HB2:Hd (Below w.heap.size w v1):=⟨HB.out.trans (hk.mono HB.out.size)⟩
 clear HX HB hk
 have HX:=HX2
 have HB:=HB2
 clear HX2 HB2
 clear b0 b1 b2 b3 b4 b5 b6 b7 b8 b9 b10
 have b0:=HX.out.2 0 _ rfl
 have b1:=HX.out.2 1 _ rfl
 have b2:=HX.out.2 2 _ rfl
 have b3:=HX.out.2 3 _ rfl
 have b4:=HX.out.2 4 _ rfl
 have b5:=HX.out.2 5 _ rfl
 have b6:=HX.out.2 6 _ rfl
 have b7:=HX.out.2 7 _ rfl
 have b8:=HX.out.2 8 _ rfl
 have b9:=HX.out.2 9 _ rfl
 have b10:=HX.out.2 10 _ rfl
 go_wp2_with fail
 refine(rrels_x X _ (HIn.out.below HB.out)).mono ?_
 rintro e v2 ⟨rfl,hk⟩
 have HX2:Hd (CellsAt w.heap.size X.arr.toList v2):=⟨HX.out.below hk⟩
 have HB2:Hd (Below w.heap.size w v2):=⟨HB.out.trans (hk.mono HB.out.size)⟩
 clear HX HB hk
 have HX:=HX2
 have HB:=HB2
 clear HX2 HB2
 clear b0 b1 b2 b3 b4 b5 b6 b7 b8 b9 b10
 have b0:=HX.out.2 0 _ rfl
 have b1:=HX.out.2 1 _ rfl
 have b2:=HX.out.2 2 _ rfl
 have b3:=HX.out.2 3 _ rfl
 have b4:=HX.out.2 4 _ rfl
 have b5:=HX.out.2 5 _ rfl
 have b6:=HX.out.2 6 _ rfl
 have b7:=HX.out.2 7 _ rfl
 have b8:=HX.out.2 8 _ rfl
 have b9:=HX.out.2 9 _ rfl
 have b10:=HX.out.2 10 _ rfl
 go_wp2_with fail
 refine(rgroups_x X _).mono ?_
 rintro e v3 ⟨rfl,hk⟩
 have HX2:Hd (CellsAt w.heap.size X.arr.toList v3):=⟨HX.out.below hk⟩
 have HB2:Hd (Below w.heap.size w v3):=⟨HB.out.trans (hk.mono HB.out.size)⟩
 clear HX HB hk
 have HX:=HX2
 have HB:=HB2
 clear HX2 HB2
 clear b0 b1 b2 b3 b4 b5 b6 b7 b8 b9 b10
 have b0:=HX.out.2 0 _ rfl
 have b1:=HX.out.2 1 _ rfl
 have b2:=HX.out.2 2 _ rfl
 have b3:=HX.out.2 3 _ rfl
 have b4:=HX.out.2 4 _ rfl
 have b5:=HX.out.2 5 _ rfl
 have b6:=HX.out.2 6 _ rfl
 have b7:=HX.out.2 7 _ rfl
 have b8:=HX.out.2 8 _ rfl
 have b9:=HX.out.2 9 _ rfl
 have b10:=HX.out.2 10 _ rfl
 go_wp2_with fail
 refine(rinits_x X _).mono ?_
 rintro e v4 ⟨rfl,hk⟩
 have HX2:Hd (CellsAt w.heap.size X.arr.toList v4):=⟨HX.out.below hk⟩
 have HB2:Hd (Below w.heap.size w v4):=⟨HB.out.trans (hk.mono HB.out.size)⟩
 clear HX HB hk
 have HX:=HX2
 have HB:=HB2
 clear HX2 HB2
 clear b0 b1 b2 b3 b4 b5 b6 b7 b8 b9 b10
 have b0:=HX.out.2 0 _ rfl
 have b1:=HX.out.2 1 _ rfl
 have b2:=HX.out.2 2 _ rfl
 have b3:=HX.out.2 3 _ rfl
 have b4:=HX.out.2 4 _ rfl
 have b5:=HX.out.2 5 _ rfl
 have b6:=HX.out.2 6 _ rfl
 have b7:=HX.out.2 7 _ rfl
 have b8:=HX.out.2 8 _ rfl
 have b9:=HX.out.2 9 _ rfl
 have b10:=HX.out.2 10 _ rfl
 go_wp2_with fail
 refine(rlines_x X _).mono ?_
 rintro e v5 ⟨rfl,hk⟩
 have HX2:Hd (CellsAt w.heap.size X.arr.toList v5):=⟨HX.out.below hk⟩
 have HB2:Hd (Below w.heap.size w v5):=⟨HB.out.trans (hk.mono HB.out.size)⟩
 clear HX HB hk
 have HX:=HX2
 have HB:=HB2
 clear HX2 HB2
 clear b0 b1 b2 b3 b4 b5 b6 b7 b8 b9 b10
 have b0:=HX.out.2 0 _ rfl
 have b1:=HX.out.2 1 _ rfl
 have b2:=HX.out.2 2 _ rfl
 have b3:=HX.out.2 3 _ rfl
 have b4:=HX.out.2 4 _ rfl
 have b5:=HX.out.2 5 _ rfl
 have b6:=HX.out.2 6 _ rfl
 have b7:=HX.out.2 7 _ rfl
 have b8:=HX.out.2 8 _ rfl
 have b9:=HX.out.2 9 _ rfl
 have b10:=HX.out.2 10 _ rfl
 go_wp2_with fail
 refine(rinlines_x X _).mono ?_
 rintro e v6 ⟨rfl,hk⟩
 have HX2:Hd (CellsAt w.heap.size X.arr.toList v6):=⟨HX.out.below hk⟩
 have HB2:Hd (Below w.heap.size w v6):=⟨HB.out.trans (hk.mono HB.out.size)⟩
 clear HX HB hk
 have HX:=HX2
 have HB:=HB2
 clear HX2 HB2
 clear b0 b1 b2 b3 b4 b5 b6 b7 b8 b9 b10
 have b0:=HX.out.2 0 _ rfl
 have b1:=HX.out.2 1 _ rfl
 have b2:=HX.out.2 2 _ rfl
 have b3:=HX.out.2 3 _ rfl
 have b4:=HX.out.2 4 _ rfl
 have b5:=HX.out.2 5 _ rfl
 have b6:=HX.out.2 6 _ rfl
 have b7:=HX.out.2 7 _ rfl
 have b8:=HX.out.2 8 _ rfl
 have b9:=HX.out.2 9 _ rfl
 have b10:=HX.out.2 10 _ rfl
 go_wp2_with fail
 refine(rvars_x X _).mono ?_
 rintro e v7 ⟨rfl,hk⟩
 have HX2:Hd (CellsAt w.heap.size X.arr.toList v7):=⟨HX.out.below hk⟩
 have HB2:Hd (Below w.heap.size w v7):=⟨HB.out.trans (hk.mono HB.out.size)⟩
 clear HX HB hk
 have HX:=HX2
 have HB:=HB2
 clear HX2 HB2
 clear b0 b1 b2 b3 b4 b5 b6 b7 b8 b9 b10
 have b0:=HX.out.2 0 _ rfl
 have b1:=HX.out.2 1 _ rfl
 have b2:=HX.out.2 2 _ rfl
 have b3:=HX.out.2 3 _ rfl
 have b4:=HX.out.2 4 _ rfl
 have b5:=HX.out.2 5 _ rfl
 have b6:=HX.out.2 6 _ rfl
 have b7:=HX.out.2 7 _ rfl
 have b8:=HX.out.2 8 _ rfl
 have b9:=HX.out.2 9 _ rfl
 have b10:=HX.out.2 10 _ rfl
 go_wp2_with fail
 refine(rdepths_x X _).mono ?_
 rintro e v8 ⟨rfl,hk⟩
 have HX2:Hd (CellsAt w.heap.size X.arr.toList v8):=⟨HX.out.below hk⟩
 have HB2:Hd (Below w.heap.size w v8):=⟨HB.out.trans (hk.mono HB.out.size)⟩
 clear HX HB hk
 have HX:=HX2
 have HB:=HB2
 clear HX2 HB2
 clear b0 b1 b2 b3 b4 b5 b6 b7 b8 b9 b10
 have b0:=HX.out.2 0 _ rfl
 have b1:=HX.out.2 1 _ rfl
 have b2:=HX.out.2 2 _ rfl
 have b3:=HX.out.2 3 _ rfl
 have b4:=HX.out.2 4 _ rfl
 have b5:=HX.out.2 5 _ rfl
 have b6:=HX.out.2 6 _ rfl
 have b7:=HX.out.2 7 _ rfl
 have b8:=HX.out.2 8 _ rfl
 have b9:=HX.out.2 9 _ rfl
 have b10:=HX.out.2 10 _ rfl
 go_wp2_with fail
 refine(rconverts_x X _).mono ?_
 rintro e v9 ⟨rfl,hk⟩
 have HX2:Hd (CellsAt w.heap.size X.arr.toList v9):=⟨HX.out.below hk⟩
 have HB2:Hd (Below w.heap.size w v9):=⟨HB.out.trans (hk.mono HB.out.size)⟩
 clear HX HB hk
 have HX:=HX2
 have HB:=HB2
 clear HX2 HB2
 clear b0 b1 b2 b3 b4 b5 b6 b7 b8 b9 b10
 go_wp2
 go_ret
 exact⟨ret_b (by simp),HB.out⟩
theorem rbytes_x (X:XV) (w:World) (h:X.In w):Calls Tryz.prog 18 #[.agg X.arr] w fun e w'=>e= .returned (.string ⟨#[1,97,1,1,120,1,8,8,8,0,0,0,0,0,0,0,0,0,1,1,112,0,0,1,0,1,1,0,0,0,1,0,0,0,0,0,0,0,0,0,0,0,0]⟩)∧Below w.heap.size w w':=by
 have HIn:=Hd.mk h
 clear h
 have HX:Hd (CellsAt w.heap.size X.arr.toList (w.alloc (.cells X.arr 33))):=⟨CellsAt.new w X.arr.toList 33⟩
 have HB:Hd (Below w.heap.size w (w.alloc (.cells X.arr 33))):=⟨below_alloc w _⟩
 go_enter Tryz.func18,Tryz.ntmps18
 go_wp2_with fail
 refine(rright_x X _ (HIn.out.below HB.out)).mono ?_
 rintro e v0 ⟨rfl,hk⟩
 have HX2:Hd (CellsAt w.heap.size X.arr.toList v0.drew):=⟨HX.out.below (Below.drew hk)⟩
 have HB2:Hd (Below w.heap.size w v0.drew):=⟨HB.out.trans ((Below.drew hk).mono HB.out.size)⟩
 clear HX HB hk
 go_wp2_with fail
 refine wp_region_lin default (fun w'=>CellsAt w.heap.size X.arr.toList w'∧Below w.heap.size w w') [(0,true),(2,true),(5,true),(1,false),(3,false),(4,true),(6,false),(7,true),(8,true)] (by kernel_rfl) (by kernel_rfl) rfl (by kernel_rfl) (by kernel_rfl) ⟨HX2.out,HB2.out⟩ ?_
 simp only[pick,List.getD_cons_zero,List.getD_cons_succ]
 repeat
  refine lin_free (v:= ?_) (by rfl) ?_ ?_
  rotate_left
  ·intro w' hSw
   have b0:=hSw.1.2 0 _ rfl
   have b1:=hSw.1.2 1 _ rfl
   have b2:=hSw.1.2 2 _ rfl
   have b3:=hSw.1.2 3 _ rfl
   have b4:=hSw.1.2 4 _ rfl
   have b5:=hSw.1.2 5 _ rfl
   have b6:=hSw.1.2 6 _ rfl
   have b7:=hSw.1.2 7 _ rfl
   have b8:=hSw.1.2 8 _ rfl
   have b9:=hSw.1.2 9 _ rfl
   have b10:=hSw.1.2 10 _ rfl
   clear hSw
   go_simp
   first | done | with_reducible rfl
  try simp only[Act.put,List.setIfInBounds_toArray,List.set_cons_zero,List.set_cons_succ]
 refine lin_bound (fun K hK=> ?_)
 go_simp
 refine(rfirst_x X _ (HIn.out.below HB2.out)).mono ?_
 rintro e y0 ⟨rfl,hk⟩
 dsimp only
 have HX3:Hd (CellsAt w.heap.size X.arr.toList y0):=⟨HX2.out.below hk⟩
 have HB3:Hd (Below w.heap.size w y0):=⟨HB2.out.trans (hk.mono HB2.out.size)⟩
 refine hK.out _ _ ⟨HX3.out,HB3.out⟩ ?_
 clear hK K hk HX2 HB2
 refine lin_bound (fun K hK=> ?_)
 go_simp
 refine(rsecond_x X _ (HIn.out.below HB3.out)).mono ?_
 rintro e y1 ⟨rfl,hk⟩
 dsimp only
 have HX4:Hd (CellsAt w.heap.size X.arr.toList y1):=⟨HX3.out.below hk⟩
 have HB4:Hd (Below w.heap.size w y1):=⟨HB3.out.trans (hk.mono HB3.out.size)⟩
 refine hK.out _ _ ⟨HX4.out,HB4.out⟩ ?_
 clear hK K hk HX3 HB3
 have t1:¬9223372036854775807< (⟨#[1,97,1,1,120,1,8,8,8,0,0,0,0,0,0,0,0,0,1,1,112,0,0,1,0,1,1,0,0,0]⟩:ByteArray).size+(⟨#[1,0,0,0,0,0,0,0,0]⟩:ByteArray).size:=by decide
 have hv:(⟨#[1,97,1,1,120,1,8,8,8,0,0,0,0,0,0,0,0,0,1,1,112,0,0,1,0,1,1,0,0,0]⟩:ByteArray)++⟨#[1,0,0,0,0,0,0,0,0]⟩=⟨#[1,97,1,1,120,1,8,8,8,0,0,0,0,0,0,0,0,0,1,1,112,0,0,1,0,1,1,0,0,0,1,0,0,0,0,0,0,0,0]⟩:=by decide+kernel
 repeat
  refine lin_free (v:= ?_) (by rfl) ?_ ?_
  rotate_left
  ·intro w' hSw
   clear hSw
   go_simp
   first | done | with_reducible rfl
  try simp only[Act.put,List.setIfInBounds_toArray,List.set_cons_zero,List.set_cons_succ]
 clear t1 hv
 refine lin_bound (fun K hK=> ?_)
 go_simp
 refine(rthird_x X _).mono ?_
 rintro e y2 ⟨rfl,hk⟩
 dsimp only
 have HX5:Hd (CellsAt w.heap.size X.arr.toList y2):=⟨HX4.out.below hk⟩
 have HB5:Hd (Below w.heap.size w y2):=⟨HB4.out.trans (hk.mono HB4.out.size)⟩
 refine hK.out _ _ ⟨HX5.out,HB5.out⟩ ?_
 clear hK K hk HX4 HB4
 have t1:¬9223372036854775807< (⟨#[1,97,1,1,120,1,8,8,8,0,0,0,0,0,0,0,0,0,1,1,112,0,0,1,0,1,1,0,0,0,1,0,0,0,0,0,0,0,0]⟩:ByteArray).size+(⟨#[0,0,0,0]⟩:ByteArray).size:=by decide
 have hv:(⟨#[1,97,1,1,120,1,8,8,8,0,0,0,0,0,0,0,0,0,1,1,112,0,0,1,0,1,1,0,0,0,1,0,0,0,0,0,0,0,0]⟩:ByteArray)++⟨#[0,0,0,0]⟩=⟨#[1,97,1,1,120,1,8,8,8,0,0,0,0,0,0,0,0,0,1,1,112,0,0,1,0,1,1,0,0,0,1,0,0,0,0,0,0,0,0,0,0,0,0]⟩:=by decide+kernel
 repeat
  refine lin_free (v:= ?_) (by rfl) ?_ ?_
  rotate_left
  ·intro w' hSw
   clear hSw
   go_simp
   first | done | with_reducible rfl
  try simp only[Act.put,List.setIfInBounds_toArray,List.set_cons_zero,List.set_cons_succ]
 clear t1 hv
 refine NoPanic.normal ?_
 go_wp2
 go_ret
 exact⟨rfl,HB5.out⟩
theorem rsame_x (X Y:XV) (w:World) (h:X.In w) (h2:Y.In w):Calls Tryz.prog 14 #[.agg X.arr, .agg Y.arr] w fun e w'=>e= .returned (.bool true)∧Below w.heap.size w w':=by
 have HIn:=Hd.mk h
 have HIn2:=Hd.mk h2
 clear h h2
 have HX:Hd (CellsAt w.heap.size X.arr.toList ((w.alloc (.cells X.arr 33)).alloc (.cells Y.arr 33)).drew):=⟨(CellsAt.new w X.arr.toList 33).below (Below.drew (below_alloc _ _))⟩
 have HY:Hd (CellsAt (w.heap.size+1) Y.arr.toList ((w.alloc (.cells X.arr 33)).alloc (.cells Y.arr 33)).drew):=⟨by
  have:=(CellsAt.new (w.alloc (.cells X.arr 33)) Y.arr.toList 33).below (Below.drew (Below.refl _ _))
  rwa [show(w.alloc (.cells X.arr 33)).heap.size=w.heap.size+1 from by simp] at this⟩
 have HB:Hd (Below w.heap.size w ((w.alloc (.cells X.arr 33)).alloc (.cells Y.arr 33)).drew):=⟨Below.drew ((below_alloc w _).trans ((below_alloc _ _).mono (below_alloc w _).size))⟩
 go_enter Tryz.func14,Tryz.ntmps14
 go_wp2_with fail
 refine wp_region_lin default (fun w'=>CellsAt w.heap.size X.arr.toList w'∧CellsAt (w.heap.size+1) Y.arr.toList w'∧Below w.heap.size w w') [(0,true),(2,true),(1,false),(3,false),(4,true),(5,true)] (by kernel_rfl) (by kernel_rfl) rfl (by kernel_rfl) (by kernel_rfl) ⟨HX.out,HY.out,HB.out⟩ ?_
 simp only[pick,List.getD_cons_zero,List.getD_cons_succ]
 repeat
  refine lin_free (v:= ?_) (by rfl) ?_ ?_
  rotate_left
  ·intro w' hSw
   have b0:=hSw.1.2 0 _ rfl
   have b1:=hSw.1.2 1 _ rfl
   have b2:=hSw.1.2 2 _ rfl
   have b3:=hSw.1.2 3 _ rfl
   have b4:=hSw.1.2 4 _ rfl
   have b5:=hSw.1.2 5 _ rfl
   have b6:=hSw.1.2 6 _ rfl
   have b7:=hSw.1.2 7 _ rfl
   have b8:=hSw.1.2 8 _ rfl
   have b9:=hSw.1.2 9 _ rfl
   have b10:=hSw.1.2 10 _ rfl
   have d0:=hSw.2.1.2 0 _ rfl
   have d1:=hSw.2.1.2 1 _ rfl
   have d2:=hSw.2.1.2 2 _ rfl
   have d3:=hSw.2.1.2 3 _ rfl
   have d4:=hSw.2.1.2 4 _ rfl
   have d5:=hSw.2.1.2 5 _ rfl
   have d6:=hSw.2.1.2 6 _ rfl
   have d7:=hSw.2.1.2 7 _ rfl
   have d8:=hSw.2.1.2 8 _ rfl
   have d9:=hSw.2.1.2 9 _ rfl
   have d10:=hSw.2.1.2 10 _ rfl
   clear hSw
   go_simp
   first | done | with_reducible rfl
  try simp only[Act.put,List.setIfInBounds_toArray,List.set_cons_zero,List.set_cons_succ]
 refine lin_bound (fun K hK=> ?_)
 go_simp
 refine(rbytes_x X _ (HIn.out.below HB.out)).mono ?_
 rintro e y0 ⟨rfl,hk⟩
 dsimp only
 have HX3:Hd (CellsAt w.heap.size X.arr.toList y0):=⟨HX.out.below hk⟩
 have HY3:Hd (CellsAt (w.heap.size+1) Y.arr.toList y0):=⟨HY.out.below hk⟩
 have HB3:Hd (Below w.heap.size w y0):=⟨HB.out.trans (hk.mono HB.out.size)⟩
 refine hK.out _ _ ⟨HX3.out,HY3.out,HB3.out⟩ ?_
 clear hK K hk HX HY HB
 refine lin_bound (fun K hK=> ?_)
 go_simp
 refine(rbytes_x Y _ (HIn2.out.below HB3.out)).mono ?_
 rintro e y1 ⟨rfl,hk⟩
 dsimp only
 have HX4:Hd (CellsAt w.heap.size X.arr.toList y1):=⟨HX3.out.below hk⟩
 have HY4:Hd (CellsAt (w.heap.size+1) Y.arr.toList y1):=⟨HY3.out.below hk⟩
 have HB4:Hd (Below w.heap.size w y1):=⟨HB3.out.trans (hk.mono HB3.out.size)⟩
 refine hK.out _ _ ⟨HX4.out,HY4.out,HB4.out⟩ ?_
 clear hK K hk HX3 HY3 HB3
 repeat
  refine lin_free (v:= ?_) (by rfl) ?_ ?_
  rotate_left
  ·intro w' hSw
   clear hSw
   go_simp
   first | done | with_reducible rfl
  try simp only[Act.put,List.setIfInBounds_toArray,List.set_cons_zero,List.set_cons_succ]
 refine NoPanic.normal ?_
 go_wp2
 go_ret
 exact⟨ret_b (by simp),HB4.out⟩
end Go.Proofs.YtfaepbjnpakghaaGreatDoor.W
