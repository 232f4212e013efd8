import Derived.Test.YtfaepbjnpakghaaGreatDoorKad
import Derived.Test.YtfaepbjnpakghaaGreatDoorKag
import Derived.Test.YtfaepbjnpakghaaGreatDoorKac
/- The walk of the closure lines$1 (printed by tools/gen_cls.py). -/
namespace Go.Proofs.YtfaepbjnpakghaaGreatDoor.W
open Go.RowKit
set_option linter.unusedVariables false
set_option maxHeartbeats 4000000 in
set_option maxRecDepth 100000 in
theorem olne1_out (w:World) (o:Ob) (x1 x2 x3 x4 x5 x6 x7 x8 x9 x10:Value) (b:Nat) (hb:ObC w b o x1 x2 x3 x4 x5 x6 x7 x8 x9 x10) (hA:o.At w x1 x2 x3 x4 x5 x6 x7 x8 x9 x10) (hk:o.Ok) (x:Lne) (hx:x.Ok) (hin:¬(0≤x.sec∧x.sec< (o.secs.length:Int))):
 Calls Tryz.prog 170 #[.agg #[.int .i64 x.sec, .int .i64 x.at_, .string x.file, .int .i64 x.line], .pointer (some ⟨b,0,none⟩)] w fun e w'=>e= .returned (.bool (lneB o x))∧Below w.heap.size w w':=by
 have hS:lneB o x=(isB o x.sec [0]):=by
  unfold lneB;rw[is_out hin];rfl
 have hc0:=(fun(w1:World) (h:Below w.heap.size w w1) (kv:Value) (hr:Rw 1 intE w1 kv [0])=>ois_any w1 o x1 x2 x3 x4 x5 x6 x7 x8 x9 x10 x.sec kv [0] (hA.below h) hk.secs hr (by unfold lenR;decide))
 obtain⟨q0,h0⟩:∃q,(isB o x.sec [0])=q:=⟨_,rfl⟩
 rw[is_out hin] at h0
 subst h0
 rw[is_out hin] at hc0 hS
 have HC0:=Hd.mk hc0
 clear hc0
 have HS:=Hd.mk hS
 clear hS
 have HF:Hd (∀w',Below (w.alloc (.cells #[.int .i64 x.sec, .int .i64 x.at_, .string x.file, .int .i64 x.line] 57)).heap.size (w.alloc (.cells #[.int .i64 x.sec, .int .i64 x.at_, .string x.file, .int .i64 x.line] 57)) w'→w'.cell? ⟨w.heap.size,0,none⟩=some (.int .i64 x.sec)∧w'.cell? ⟨w.heap.size,1,none⟩=some (.int .i64 x.at_)∧w'.cell? ⟨w.heap.size,2,none⟩=some (.string x.file)∧w'.cell? ⟨w.heap.size,3,none⟩=some (.int .i64 x.line)∧w'.cell? ⟨b,0,none⟩=some (.string o.name)∧w'.cell? ⟨b,1,none⟩=some (x1)∧w'.cell? ⟨b,2,none⟩=some (x2)∧w'.cell? ⟨b,3,none⟩=some (x3)∧w'.cell? ⟨b,4,none⟩=some (x4)∧w'.cell? ⟨b,5,none⟩=some (x5)∧w'.cell? ⟨b,6,none⟩=some (x6)∧w'.cell? ⟨b,7,none⟩=some (x7)∧w'.cell? ⟨b,8,none⟩=some (x8)∧w'.cell? ⟨b,9,none⟩=some (x9)∧w'.cell? ⟨b,10,none⟩=some (x10)):=⟨fun w' h=>⟨(h.cell (p:=⟨w.heap.size,0,none⟩) (by simp)).trans (by simp[go_sem]),(h.cell (p:=⟨w.heap.size,1,none⟩) (by simp)).trans (by simp[go_sem]),(h.cell (p:=⟨w.heap.size,2,none⟩) (by simp)).trans (by simp[go_sem]),(h.cell (p:=⟨w.heap.size,3,none⟩) (by simp)).trans (by simp[go_sem]),(hb.below ((below_alloc w _).trans (h.mono (by simp)))).c0,(hb.below ((below_alloc w _).trans (h.mono (by simp)))).c1,(hb.below ((below_alloc w _).trans (h.mono (by simp)))).c2,(hb.below ((below_alloc w _).trans (h.mono (by simp)))).c3,(hb.below ((below_alloc w _).trans (h.mono (by simp)))).c4,(hb.below ((below_alloc w _).trans (h.mono (by simp)))).c5,(hb.below ((below_alloc w _).trans (h.mono (by simp)))).c6,(hb.below ((below_alloc w _).trans (h.mono (by simp)))).c7,(hb.below ((below_alloc w _).trans (h.mono (by simp)))).c8,(hb.below ((below_alloc w _).trans (h.mono (by simp)))).c9,(hb.below ((below_alloc w _).trans (h.mono (by simp)))).c10⟩⟩
 go_enter Tryz.func170,Tryz.ntmps170
 go_wp2_with fail
 refine wp_region_lin default (fun w'=>Below (w.alloc (.cells #[.int .i64 x.sec, .int .i64 x.at_, .string x.file, .int .i64 x.line] 57)).heap.size (w.alloc (.cells #[.int .i64 x.sec, .int .i64 x.at_, .string x.file, .int .i64 x.line] 57)) w') [(0,true),(1,true),(2,true),(3,false),(4,false),(5,true),(6,true),(7,true),(8,true),(9,true),(10,true),(11,true),(12,true),(13,true),(14,true),(15,true),(16,false),(17,true),(18,true),(19,true),(20,true),(21,true),(22,true),(23,true),(24,true),(25,true),(26,true),(27,false),(28,true),(29,true),(30,true),(31,true),(32,true),(33,true),(34,true),(35,true),(36,true),(37,true),(38,true),(39,true)] (by kernel_rfl) (by kernel_rfl) rfl (by kernel_rfl) (by kernel_rfl) (Below.drew (Below.refl _ _)) ?_
 simp only[pick,List.getD_cons_zero,List.getD_cons_succ]
 repeat
  first
  | (refine lin_free (v:= ?_) (by rfl) ?_ ?_
     rotate_left
     ·intro w' hSw
      obtain⟨f0,f1,f2,f3,c0,c1,c2,c3,c4,c5,c6,c7,c8,c9,c10⟩:=HF.out w' hSw
      clear hSw
      go_simp
      first | done | with_reducible rfl
     simp only[Act.put,List.setIfInBounds_toArray,List.set_cons_zero,List.set_cons_succ])
  | (refine lin_skip (by rfl) ?_
     simp only[Act.put,List.setIfInBounds_toArray,List.set_cons_zero,List.set_cons_succ])
 refine lin_bound (fun K hK=> ?_)
 go_simp
 refine hK.out _ _ (by go_grown) ?_
 skip
 clear hK K
 try simp only[Act.put,List.setIfInBounds_toArray,List.set_cons_zero,List.set_cons_succ]
 refine lin_bound (fun K hK=> ?_)
 go_simp
 refine(HC0.out _ (by go_grown) _ (rowD w _ 0)).mono ?_
 rintro e v1 ⟨rfl,hK1⟩
 have HSt:Hd (Below (w.alloc (.cells #[.int .i64 x.sec, .int .i64 x.at_, .string x.file, .int .i64 x.line] 57)).heap.size (w.alloc (.cells #[.int .i64 x.sec, .int .i64 x.at_, .string x.file, .int .i64 x.line] 57)) v1):=⟨(show Below (w.alloc (.cells #[.int .i64 x.sec, .int .i64 x.at_, .string x.file, .int .i64 x.line] 57)).heap.size (w.alloc (.cells #[.int .i64 x.sec, .int .i64 x.at_, .string x.file, .int .i64 x.line] 57)) _ by go_grown).trans (hK1.mono (by first | (simp;done) | (simp;omega)))⟩
 clear hK1
 refine hK.out _ _ HSt.out ?_
 clear hK K
 try simp only[Act.put,List.setIfInBounds_toArray,List.set_cons_zero,List.set_cons_succ]
 repeat
  first
  | (refine lin_free (v:= ?_) (by rfl) ?_ ?_
     rotate_left
     ·intro w' hSw
      obtain⟨f0,f1,f2,f3,c0,c1,c2,c3,c4,c5,c6,c7,c8,c9,c10⟩:=HF.out w' hSw
      clear hSw
      go_simp
      first | done | with_reducible rfl
     simp only[Act.put,List.setIfInBounds_toArray,List.set_cons_zero,List.set_cons_succ])
  | (refine lin_skip (by rfl) ?_
     simp only[Act.put,List.setIfInBounds_toArray,List.set_cons_zero,List.set_cons_succ])
 refine lin_bound (fun K hK=> ?_)
 go_simp
 refine hK.out _ _ (HSt.out) ?_
 clear hK K
 try simp only[Act.put,List.setIfInBounds_toArray,List.set_cons_zero,List.set_cons_succ]
 repeat
  first
  | (refine lin_free (v:= ?_) (by rfl) ?_ ?_
     rotate_left
     ·intro w' hSw
      obtain⟨f0,f1,f2,f3,c0,c1,c2,c3,c4,c5,c6,c7,c8,c9,c10⟩:=HF.out w' hSw
      clear hSw
      go_simp
      first | done | with_reducible rfl
     simp only[Act.put,List.setIfInBounds_toArray,List.set_cons_zero,List.set_cons_succ])
  | (refine lin_skip (by rfl) ?_
     simp only[Act.put,List.setIfInBounds_toArray,List.set_cons_zero,List.set_cons_succ])
 refine lin_bound (fun K hK=> ?_)
 go_simp
 refine hK.out _ _ (HSt.out) ?_
 clear hK K
 try simp only[Act.put,List.setIfInBounds_toArray,List.set_cons_zero,List.set_cons_succ]
 repeat
  first
  | (refine lin_free (v:= ?_) (by rfl) ?_ ?_
     rotate_left
     ·intro w' hSw
      obtain⟨f0,f1,f2,f3,c0,c1,c2,c3,c4,c5,c6,c7,c8,c9,c10⟩:=HF.out w' hSw
      clear hSw
      go_simp
      first | done | with_reducible rfl
     simp only[Act.put,List.setIfInBounds_toArray,List.set_cons_zero,List.set_cons_succ])
  | (refine lin_skip (by rfl) ?_
     simp only[Act.put,List.setIfInBounds_toArray,List.set_cons_zero,List.set_cons_succ])
 refine NoPanic.normal ?_
 go_wp2
 go_ret
 exact⟨ret_b (by rw[HS.out]<;>simp),(below_alloc w _).trans (HSt.out.mono (by simp))⟩
set_option maxHeartbeats 4000000 in
set_option maxRecDepth 100000 in
theorem olne1_in (w:World) (o:Ob) (x1 x2 x3 x4 x5 x6 x7 x8 x9 x10:Value) (b:Nat) (hb:ObC w b o x1 x2 x3 x4 x5 x6 x7 x8 x9 x10) (hA:o.At w x1 x2 x3 x4 x5 x6 x7 x8 x9 x10) (hk:o.Ok) (x:Lne) (hx:x.Ok) (k:Nat) (hsec:x.sec=(k:Int)) (hk1:k<o.secs.length):
 Calls Tryz.prog 170 #[.agg #[.int .i64 (k:Int), .int .i64 x.at_, .string x.file, .int .i64 x.line], .pointer (some ⟨b,0,none⟩)] w fun e w'=>e= .returned (.bool (lneB o x))∧Below w.heap.size w w':=by
 have hS:lneB o x=(isB o (k:Int) [0]&&inB x.at_ o.secs[k].size&&(x.at_.tmod 8==0)&&fileB x.file&&decide ((1:Int)≤x.line)&&decide (x.line≤1048576)):=by
  unfold lneB lineR;rw[hsec,sizeAt_in hk1,mod8];simp only[Bool.and_assoc]
 have hc0:=(fun(w1:World) (h:Below w.heap.size w w1) (kv:Value) (hr:Rw 1 intE w1 kv [0])=>ois_any w1 o x1 x2 x3 x4 x5 x6 x7 x8 x9 x10 (k:Int) kv [0] (hA.below h) hk.secs hr (by unfold lenR;decide))
 have hc1:=(fun w=>owithinB x.at_ o.secs[k].size w)
 have hc3:=(fun w=>ofile_any x.file w hx.file)
 obtain⟨q0,h0⟩:∃q,(isB o (k:Int) [0])=q:=⟨_,rfl⟩
 rw[h0] at hc0 hS
 have HC0:=Hd.mk hc0
 clear hc0 h0
 obtain⟨q1,h1⟩:∃q,(inB x.at_ o.secs[k].size)=q:=⟨_,rfl⟩
 rw[h1] at hc1 hS
 have HC1:=Hd.mk hc1
 clear hc1 h1
 obtain⟨q2,h2⟩:∃q,((x.at_.tmod 8==0))=q:=⟨_,rfl⟩
 rw[h2] at hS
 obtain⟨q3,h3⟩:∃q,(fileB x.file)=q:=⟨_,rfl⟩
 rw[h3] at hc3 hS
 have HC3:=Hd.mk hc3
 clear hc3 h3
 obtain⟨q4,h4⟩:∃q,(decide ((1:Int)≤x.line))=q:=⟨_,rfl⟩
 rw[h4] at hS
 obtain⟨q5,h5⟩:∃q,(decide (x.line≤1048576))=q:=⟨_,rfl⟩
 rw[h5] at hS
 have HS:=Hd.mk hS
 clear hS
 have hS0:=hA.secs
 obtain⟨p,c,rfl⟩:=hS0.slice
 obtain⟨g,of,cs,rfl,hg,hcl,hE,hcc⟩:=hS0.at rfl (j:=k) hk1
 have hE':cs=(o.secs[k]).cells:=hE
 subst hE'
 obtain⟨N,hN⟩:∃N,o.secs.length=N:=⟨_,rfl⟩
 have i1:(0:Int)≤(k:Int):=by omega
 have i2:(k:Int)< (N:Int):=by omega
 obtain⟨S,hS1⟩:∃S,o.secs[k]=S:=⟨_,rfl⟩
 rw[hS1] at HC1 hcc
 rw[hN] at HC0 hb
 clear hcl hE hS1
 have HF:Hd (∀w',Below (w.alloc (.cells #[.int .i64 (k:Int), .int .i64 x.at_, .string x.file, .int .i64 x.line] 57)).heap.size (w.alloc (.cells #[.int .i64 (k:Int), .int .i64 x.at_, .string x.file, .int .i64 x.line] 57)) w'→w'.cell? ⟨w.heap.size,0,none⟩=some (.int .i64 (k:Int))∧w'.cell? ⟨w.heap.size,1,none⟩=some (.int .i64 x.at_)∧w'.cell? ⟨w.heap.size,2,none⟩=some (.string x.file)∧w'.cell? ⟨w.heap.size,3,none⟩=some (.int .i64 x.line)∧w'.cell? ⟨b,0,none⟩=some (.string o.name)∧w'.cell? ⟨b,1,none⟩=some ((.slice (some ⟨g,of,none⟩) N c))∧w'.cell? ⟨b,2,none⟩=some (x2)∧w'.cell? ⟨b,3,none⟩=some (x3)∧w'.cell? ⟨b,4,none⟩=some (x4)∧w'.cell? ⟨b,5,none⟩=some (x5)∧w'.cell? ⟨b,6,none⟩=some (x6)∧w'.cell? ⟨b,7,none⟩=some (x7)∧w'.cell? ⟨b,8,none⟩=some (x8)∧w'.cell? ⟨b,9,none⟩=some (x9)∧w'.cell? ⟨b,10,none⟩=some (x10)∧w'.cell? ⟨g,of+k*6+3,none⟩=some (.int .i64 S.size)):=⟨fun w' h=>⟨(h.cell (p:=⟨w.heap.size,0,none⟩) (by simp)).trans (by simp[go_sem]),(h.cell (p:=⟨w.heap.size,1,none⟩) (by simp)).trans (by simp[go_sem]),(h.cell (p:=⟨w.heap.size,2,none⟩) (by simp)).trans (by simp[go_sem]),(h.cell (p:=⟨w.heap.size,3,none⟩) (by simp)).trans (by simp[go_sem]),(hb.below ((below_alloc w _).trans (h.mono (by simp)))).c0,(hb.below ((below_alloc w _).trans (h.mono (by simp)))).c1,(hb.below ((below_alloc w _).trans (h.mono (by simp)))).c2,(hb.below ((below_alloc w _).trans (h.mono (by simp)))).c3,(hb.below ((below_alloc w _).trans (h.mono (by simp)))).c4,(hb.below ((below_alloc w _).trans (h.mono (by simp)))).c5,(hb.below ((below_alloc w _).trans (h.mono (by simp)))).c6,(hb.below ((below_alloc w _).trans (h.mono (by simp)))).c7,(hb.below ((below_alloc w _).trans (h.mono (by simp)))).c8,(hb.below ((below_alloc w _).trans (h.mono (by simp)))).c9,(hb.below ((below_alloc w _).trans (h.mono (by simp)))).c10,(((below_alloc w _).trans (h.mono (by simp))).cell (p:=⟨g,_,none⟩) hg).trans (hcc 3 _ rfl)⟩⟩
 rcases q0 with _ | _
 ·go_enter Tryz.func170,Tryz.ntmps170
  go_wp2_with fail
  refine wp_region_lin default (fun w'=>Below (w.alloc (.cells #[.int .i64 (k:Int), .int .i64 x.at_, .string x.file, .int .i64 x.line] 57)).heap.size (w.alloc (.cells #[.int .i64 (k:Int), .int .i64 x.at_, .string x.file, .int .i64 x.line] 57)) w') [(0,true),(1,true),(2,true),(3,false),(4,false),(5,true),(6,true),(7,true),(8,true),(9,true),(10,true),(11,true),(12,true),(13,true),(14,true),(15,true),(16,false),(17,true),(18,true),(19,true),(20,true),(21,true),(22,true),(23,true),(24,true),(25,true),(26,true),(27,false),(28,true),(29,true),(30,true),(31,true),(32,true),(33,true),(34,true),(35,true),(36,true),(37,true),(38,true),(39,true)] (by kernel_rfl) (by kernel_rfl) rfl (by kernel_rfl) (by kernel_rfl) (Below.drew (Below.refl _ _)) ?_
  simp only[pick,List.getD_cons_zero,List.getD_cons_succ]
  repeat
   first
   | (refine lin_free (v:= ?_) (by rfl) ?_ ?_
      rotate_left
      ·intro w' hSw
       obtain⟨f0,f1,f2,f3,c0,c1,c2,c3,c4,c5,c6,c7,c8,c9,c10,z3⟩:=HF.out w' hSw
       clear hSw
       go_simp
       first | done | with_reducible rfl
      simp only[Act.put,List.setIfInBounds_toArray,List.set_cons_zero,List.set_cons_succ])
   | (refine lin_skip (by rfl) ?_
      simp only[Act.put,List.setIfInBounds_toArray,List.set_cons_zero,List.set_cons_succ])
  refine lin_bound (fun K hK=> ?_)
  go_simp
  refine hK.out _ _ (by go_grown) ?_
  skip
  clear hK K
  try simp only[Act.put,List.setIfInBounds_toArray,List.set_cons_zero,List.set_cons_succ]
  refine lin_bound (fun K hK=> ?_)
  go_simp
  refine(HC0.out _ (by go_grown) _ (rowD w _ 0)).mono ?_
  rintro e v1 ⟨rfl,hK1⟩
  have HSt:Hd (Below (w.alloc (.cells #[.int .i64 (k:Int), .int .i64 x.at_, .string x.file, .int .i64 x.line] 57)).heap.size (w.alloc (.cells #[.int .i64 (k:Int), .int .i64 x.at_, .string x.file, .int .i64 x.line] 57)) v1):=⟨(show Below (w.alloc (.cells #[.int .i64 (k:Int), .int .i64 x.at_, .string x.file, .int .i64 x.line] 57)).heap.size (w.alloc (.cells #[.int .i64 (k:Int), .int .i64 x.at_, .string x.file, .int .i64 x.line] 57)) _ by go_grown).trans (hK1.mono (by first | (simp;done) | (simp;omega)))⟩
  clear hK1
  refine hK.out _ _ HSt.out ?_
  clear hK K
  try simp only[Act.put,List.setIfInBounds_toArray,List.set_cons_zero,List.set_cons_succ]
  repeat
   first
   | (refine lin_free (v:= ?_) (by rfl) ?_ ?_
      rotate_left
      ·intro w' hSw
       obtain⟨f0,f1,f2,f3,c0,c1,c2,c3,c4,c5,c6,c7,c8,c9,c10,z3⟩:=HF.out w' hSw
       clear hSw
       go_simp
       first | done | with_reducible rfl
      simp only[Act.put,List.setIfInBounds_toArray,List.set_cons_zero,List.set_cons_succ])
   | (refine lin_skip (by rfl) ?_
      simp only[Act.put,List.setIfInBounds_toArray,List.set_cons_zero,List.set_cons_succ])
  refine lin_bound (fun K hK=> ?_)
  go_simp
  refine hK.out _ _ (HSt.out) ?_
  clear hK K
  try simp only[Act.put,List.setIfInBounds_toArray,List.set_cons_zero,List.set_cons_succ]
  repeat
   first
   | (refine lin_free (v:= ?_) (by rfl) ?_ ?_
      rotate_left
      ·intro w' hSw
       obtain⟨f0,f1,f2,f3,c0,c1,c2,c3,c4,c5,c6,c7,c8,c9,c10,z3⟩:=HF.out w' hSw
       clear hSw
       go_simp
       first | done | with_reducible rfl
      simp only[Act.put,List.setIfInBounds_toArray,List.set_cons_zero,List.set_cons_succ])
   | (refine lin_skip (by rfl) ?_
      simp only[Act.put,List.setIfInBounds_toArray,List.set_cons_zero,List.set_cons_succ])
  refine lin_bound (fun K hK=> ?_)
  go_simp
  refine hK.out _ _ (HSt.out) ?_
  clear hK K
  try simp only[Act.put,List.setIfInBounds_toArray,List.set_cons_zero,List.set_cons_succ]
  repeat
   first
   | (refine lin_free (v:= ?_) (by rfl) ?_ ?_
      rotate_left
      ·intro w' hSw
       obtain⟨f0,f1,f2,f3,c0,c1,c2,c3,c4,c5,c6,c7,c8,c9,c10,z3⟩:=HF.out w' hSw
       clear hSw
       go_simp
       first | done | with_reducible rfl
      simp only[Act.put,List.setIfInBounds_toArray,List.set_cons_zero,List.set_cons_succ])
   | (refine lin_skip (by rfl) ?_
      simp only[Act.put,List.setIfInBounds_toArray,List.set_cons_zero,List.set_cons_succ])
  refine NoPanic.normal ?_
  go_wp2
  go_ret
  exact⟨ret_b (by rw[HS.out]<;>simp),(below_alloc w _).trans (HSt.out.mono (by simp))⟩
 ·rcases q1 with _ | _
  ·go_enter Tryz.func170,Tryz.ntmps170
   go_wp2_with fail
   refine wp_region_lin default (fun w'=>Below (w.alloc (.cells #[.int .i64 (k:Int), .int .i64 x.at_, .string x.file, .int .i64 x.line] 57)).heap.size (w.alloc (.cells #[.int .i64 (k:Int), .int .i64 x.at_, .string x.file, .int .i64 x.line] 57)) w') [(0,true),(1,true),(2,true),(3,false),(4,false),(5,true),(6,true),(7,true),(8,true),(9,true),(10,true),(11,true),(12,true),(13,true),(14,true),(15,true),(16,false),(17,true),(18,true),(19,true),(20,true),(21,true),(22,true),(23,true),(24,true),(25,true),(26,true),(27,false),(28,true),(29,true),(30,true),(31,true),(32,true),(33,true),(34,true),(35,true),(36,true),(37,true),(38,true),(39,true)] (by kernel_rfl) (by kernel_rfl) rfl (by kernel_rfl) (by kernel_rfl) (Below.drew (Below.refl _ _)) ?_
   simp only[pick,List.getD_cons_zero,List.getD_cons_succ]
   repeat
    first
    | (refine lin_free (v:= ?_) (by rfl) ?_ ?_
       rotate_left
       ·intro w' hSw
        obtain⟨f0,f1,f2,f3,c0,c1,c2,c3,c4,c5,c6,c7,c8,c9,c10,z3⟩:=HF.out w' hSw
        clear hSw
        go_simp
        first | done | with_reducible rfl
       simp only[Act.put,List.setIfInBounds_toArray,List.set_cons_zero,List.set_cons_succ])
    | (refine lin_skip (by rfl) ?_
       simp only[Act.put,List.setIfInBounds_toArray,List.set_cons_zero,List.set_cons_succ])
   refine lin_bound (fun K hK=> ?_)
   go_simp
   refine hK.out _ _ (by go_grown) ?_
   skip
   clear hK K
   try simp only[Act.put,List.setIfInBounds_toArray,List.set_cons_zero,List.set_cons_succ]
   refine lin_bound (fun K hK=> ?_)
   go_simp
   refine(HC0.out _ (by go_grown) _ (rowD w _ 0)).mono ?_
   rintro e v1 ⟨rfl,hK1⟩
   have HSt:Hd (Below (w.alloc (.cells #[.int .i64 (k:Int), .int .i64 x.at_, .string x.file, .int .i64 x.line] 57)).heap.size (w.alloc (.cells #[.int .i64 (k:Int), .int .i64 x.at_, .string x.file, .int .i64 x.line] 57)) v1):=⟨(show Below (w.alloc (.cells #[.int .i64 (k:Int), .int .i64 x.at_, .string x.file, .int .i64 x.line] 57)).heap.size (w.alloc (.cells #[.int .i64 (k:Int), .int .i64 x.at_, .string x.file, .int .i64 x.line] 57)) _ by go_grown).trans (hK1.mono (by first | (simp;done) | (simp;omega)))⟩
   clear hK1
   refine hK.out _ _ HSt.out ?_
   clear hK K
   try simp only[Act.put,List.setIfInBounds_toArray,List.set_cons_zero,List.set_cons_succ]
   repeat
    first
    | (refine lin_free (v:= ?_) (by rfl) ?_ ?_
       rotate_left
       ·intro w' hSw
        obtain⟨f0,f1,f2,f3,c0,c1,c2,c3,c4,c5,c6,c7,c8,c9,c10,z3⟩:=HF.out w' hSw
        clear hSw
        go_simp
        first | done | with_reducible rfl
       simp only[Act.put,List.setIfInBounds_toArray,List.set_cons_zero,List.set_cons_succ])
    | (refine lin_skip (by rfl) ?_
       simp only[Act.put,List.setIfInBounds_toArray,List.set_cons_zero,List.set_cons_succ])
   refine lin_bound (fun K hK=> ?_)
   go_simp
   refine(HC1.out _).mono ?_
   rintro e w' ⟨rfl,rfl⟩
   refine hK.out _ _ HSt.out ?_
   clear hK K
   try simp only[Act.put,List.setIfInBounds_toArray,List.set_cons_zero,List.set_cons_succ]
   repeat
    first
    | (refine lin_free (v:= ?_) (by rfl) ?_ ?_
       rotate_left
       ·intro w' hSw
        obtain⟨f0,f1,f2,f3,c0,c1,c2,c3,c4,c5,c6,c7,c8,c9,c10,z3⟩:=HF.out w' hSw
        clear hSw
        go_simp
        first | done | with_reducible rfl
       simp only[Act.put,List.setIfInBounds_toArray,List.set_cons_zero,List.set_cons_succ])
    | (refine lin_skip (by rfl) ?_
       simp only[Act.put,List.setIfInBounds_toArray,List.set_cons_zero,List.set_cons_succ])
   refine lin_bound (fun K hK=> ?_)
   go_simp
   refine hK.out _ _ (HSt.out) ?_
   clear hK K
   try simp only[Act.put,List.setIfInBounds_toArray,List.set_cons_zero,List.set_cons_succ]
   repeat
    first
    | (refine lin_free (v:= ?_) (by rfl) ?_ ?_
       rotate_left
       ·intro w' hSw
        obtain⟨f0,f1,f2,f3,c0,c1,c2,c3,c4,c5,c6,c7,c8,c9,c10,z3⟩:=HF.out w' hSw
        clear hSw
        go_simp
        first | done | with_reducible rfl
       simp only[Act.put,List.setIfInBounds_toArray,List.set_cons_zero,List.set_cons_succ])
    | (refine lin_skip (by rfl) ?_
       simp only[Act.put,List.setIfInBounds_toArray,List.set_cons_zero,List.set_cons_succ])
   refine NoPanic.normal ?_
   go_wp2
   go_ret
   exact⟨ret_b (by rw[HS.out]<;>simp),(below_alloc w _).trans (HSt.out.mono (by simp))⟩
  ·rcases q2 with _ | _
   ·go_enter Tryz.func170,Tryz.ntmps170
    go_wp2_with fail
    refine wp_region_lin default (fun w'=>Below (w.alloc (.cells #[.int .i64 (k:Int), .int .i64 x.at_, .string x.file, .int .i64 x.line] 57)).heap.size (w.alloc (.cells #[.int .i64 (k:Int), .int .i64 x.at_, .string x.file, .int .i64 x.line] 57)) w') [(0,true),(1,true),(2,true),(3,false),(4,false),(5,true),(6,true),(7,true),(8,true),(9,true),(10,true),(11,true),(12,true),(13,true),(14,true),(15,true),(16,false),(17,true),(18,true),(19,true),(20,true),(21,true),(22,true),(23,true),(24,true),(25,true),(26,true),(27,false),(28,true),(29,true),(30,true),(31,true),(32,true),(33,true),(34,true),(35,true),(36,true),(37,true),(38,true),(39,true)] (by kernel_rfl) (by kernel_rfl) rfl (by kernel_rfl) (by kernel_rfl) (Below.drew (Below.refl _ _)) ?_
    simp only[pick,List.getD_cons_zero,List.getD_cons_succ]
    repeat
     first
     | (refine lin_free (v:= ?_) (by rfl) ?_ ?_
        rotate_left
        ·intro w' hSw
         obtain⟨f0,f1,f2,f3,c0,c1,c2,c3,c4,c5,c6,c7,c8,c9,c10,z3⟩:=HF.out w' hSw
         clear hSw
         go_simp
         first | done | with_reducible rfl
        simp only[Act.put,List.setIfInBounds_toArray,List.set_cons_zero,List.set_cons_succ])
     | (refine lin_skip (by rfl) ?_
        simp only[Act.put,List.setIfInBounds_toArray,List.set_cons_zero,List.set_cons_succ])
    refine lin_bound (fun K hK=> ?_)
    go_simp
    refine hK.out _ _ (by go_grown) ?_
    skip
    clear hK K
    try simp only[Act.put,List.setIfInBounds_toArray,List.set_cons_zero,List.set_cons_succ]
    refine lin_bound (fun K hK=> ?_)
    go_simp
    refine(HC0.out _ (by go_grown) _ (rowD w _ 0)).mono ?_
    rintro e v1 ⟨rfl,hK1⟩
    have HSt:Hd (Below (w.alloc (.cells #[.int .i64 (k:Int), .int .i64 x.at_, .string x.file, .int .i64 x.line] 57)).heap.size (w.alloc (.cells #[.int .i64 (k:Int), .int .i64 x.at_, .string x.file, .int .i64 x.line] 57)) v1):=⟨(show Below (w.alloc (.cells #[.int .i64 (k:Int), .int .i64 x.at_, .string x.file, .int .i64 x.line] 57)).heap.size (w.alloc (.cells #[.int .i64 (k:Int), .int .i64 x.at_, .string x.file, .int .i64 x.line] 57)) _ by go_grown).trans (hK1.mono (by first | (simp;done) | (simp;omega)))⟩
    clear hK1
    refine hK.out _ _ HSt.out ?_
    clear hK K
    try simp only[Act.put,List.setIfInBounds_toArray,List.set_cons_zero,List.set_cons_succ]
    repeat
     first
     | (refine lin_free (v:= ?_) (by rfl) ?_ ?_
        rotate_left
        ·intro w' hSw
         obtain⟨f0,f1,f2,f3,c0,c1,c2,c3,c4,c5,c6,c7,c8,c9,c10,z3⟩:=HF.out w' hSw
         clear hSw
         go_simp
         first | done | with_reducible rfl
        simp only[Act.put,List.setIfInBounds_toArray,List.set_cons_zero,List.set_cons_succ])
     | (refine lin_skip (by rfl) ?_
        simp only[Act.put,List.setIfInBounds_toArray,List.set_cons_zero,List.set_cons_succ])
    refine lin_bound (fun K hK=> ?_)
    go_simp
    refine(HC1.out _).mono ?_
    rintro e w' ⟨rfl,rfl⟩
    refine hK.out _ _ HSt.out ?_
    clear hK K
    try simp only[Act.put,List.setIfInBounds_toArray,List.set_cons_zero,List.set_cons_succ]
    repeat
     first
     | (refine lin_free (v:= ?_) (by rfl) ?_ ?_
        rotate_left
        ·intro w' hSw
         obtain⟨f0,f1,f2,f3,c0,c1,c2,c3,c4,c5,c6,c7,c8,c9,c10,z3⟩:=HF.out w' hSw
         clear hSw
         go_simp
         first | done | with_reducible rfl
        simp only[Act.put,List.setIfInBounds_toArray,List.set_cons_zero,List.set_cons_succ])
     | (refine lin_skip (by rfl) ?_
        simp only[Act.put,List.setIfInBounds_toArray,List.set_cons_zero,List.set_cons_succ])
    refine lin_bound (fun K hK=> ?_)
    go_simp
    refine hK.out _ _ (HSt.out) ?_
    clear hK K
    try simp only[Act.put,List.setIfInBounds_toArray,List.set_cons_zero,List.set_cons_succ]
    repeat
     first
     | (refine lin_free (v:= ?_) (by rfl) ?_ ?_
        rotate_left
        ·intro w' hSw
         obtain⟨f0,f1,f2,f3,c0,c1,c2,c3,c4,c5,c6,c7,c8,c9,c10,z3⟩:=HF.out w' hSw
         clear hSw
         go_simp
         first | done | with_reducible rfl
        simp only[Act.put,List.setIfInBounds_toArray,List.set_cons_zero,List.set_cons_succ])
     | (refine lin_skip (by rfl) ?_
        simp only[Act.put,List.setIfInBounds_toArray,List.set_cons_zero,List.set_cons_succ])
    refine NoPanic.normal ?_
    go_wp2
    go_ret
    exact⟨ret_b (by rw[HS.out]<;>simp),(below_alloc w _).trans (HSt.out.mono (by simp))⟩
   ·rcases q3 with _ | _
    ·go_enter Tryz.func170,Tryz.ntmps170
     go_wp2_with fail
     refine wp_region_lin default (fun w'=>Below (w.alloc (.cells #[.int .i64 (k:Int), .int .i64 x.at_, .string x.file, .int .i64 x.line] 57)).heap.size (w.alloc (.cells #[.int .i64 (k:Int), .int .i64 x.at_, .string x.file, .int .i64 x.line] 57)) w') [(0,true),(1,true),(2,true),(3,false),(4,false),(5,true),(6,true),(7,true),(8,true),(9,true),(10,true),(11,true),(12,true),(13,true),(14,true),(15,true),(16,false),(17,true),(18,true),(19,true),(20,true),(21,true),(22,true),(23,true),(24,true),(25,true),(26,true),(27,false),(28,true),(29,true),(30,true),(31,true),(32,true),(33,true),(34,true),(35,true),(36,true),(37,true),(38,true),(39,true)] (by kernel_rfl) (by kernel_rfl) rfl (by kernel_rfl) (by kernel_rfl) (Below.drew (Below.refl _ _)) ?_
     simp only[pick,List.getD_cons_zero,List.getD_cons_succ]
     repeat
      first
      | (refine lin_free (v:= ?_) (by rfl) ?_ ?_
         rotate_left
         ·intro w' hSw
          obtain⟨f0,f1,f2,f3,c0,c1,c2,c3,c4,c5,c6,c7,c8,c9,c10,z3⟩:=HF.out w' hSw
          clear hSw
          go_simp
          first | done | with_reducible rfl
         simp only[Act.put,List.setIfInBounds_toArray,List.set_cons_zero,List.set_cons_succ])
      | (refine lin_skip (by rfl) ?_
         simp only[Act.put,List.setIfInBounds_toArray,List.set_cons_zero,List.set_cons_succ])
     refine lin_bound (fun K hK=> ?_)
     go_simp
     refine hK.out _ _ (by go_grown) ?_
     skip
     clear hK K
     try simp only[Act.put,List.setIfInBounds_toArray,List.set_cons_zero,List.set_cons_succ]
     refine lin_bound (fun K hK=> ?_)
     go_simp
     refine(HC0.out _ (by go_grown) _ (rowD w _ 0)).mono ?_
     rintro e v1 ⟨rfl,hK1⟩
     have HSt:Hd (Below (w.alloc (.cells #[.int .i64 (k:Int), .int .i64 x.at_, .string x.file, .int .i64 x.line] 57)).heap.size (w.alloc (.cells #[.int .i64 (k:Int), .int .i64 x.at_, .string x.file, .int .i64 x.line] 57)) v1):=⟨(show Below (w.alloc (.cells #[.int .i64 (k:Int), .int .i64 x.at_, .string x.file, .int .i64 x.line] 57)).heap.size (w.alloc (.cells #[.int .i64 (k:Int), .int .i64 x.at_, .string x.file, .int .i64 x.line] 57)) _ by go_grown).trans (hK1.mono (by first | (simp;done) | (simp;omega)))⟩
     clear hK1
     refine hK.out _ _ HSt.out ?_
     clear hK K
     try simp only[Act.put,List.setIfInBounds_toArray,List.set_cons_zero,List.set_cons_succ]
     repeat
      first
      | (refine lin_free (v:= ?_) (by rfl) ?_ ?_
         rotate_left
         ·intro w' hSw
          obtain⟨f0,f1,f2,f3,c0,c1,c2,c3,c4,c5,c6,c7,c8,c9,c10,z3⟩:=HF.out w' hSw
          clear hSw
          go_simp
          first | done | with_reducible rfl
         simp only[Act.put,List.setIfInBounds_toArray,List.set_cons_zero,List.set_cons_succ])
      | (refine lin_skip (by rfl) ?_
         simp only[Act.put,List.setIfInBounds_toArray,List.set_cons_zero,List.set_cons_succ])
     refine lin_bound (fun K hK=> ?_)
     go_simp
     refine(HC1.out _).mono ?_
     rintro e w' ⟨rfl,rfl⟩
     refine hK.out _ _ HSt.out ?_
     clear hK K
     try simp only[Act.put,List.setIfInBounds_toArray,List.set_cons_zero,List.set_cons_succ]
     repeat
      first
      | (refine lin_free (v:= ?_) (by rfl) ?_ ?_
         rotate_left
         ·intro w' hSw
          obtain⟨f0,f1,f2,f3,c0,c1,c2,c3,c4,c5,c6,c7,c8,c9,c10,z3⟩:=HF.out w' hSw
          clear hSw
          go_simp
          first | done | with_reducible rfl
         simp only[Act.put,List.setIfInBounds_toArray,List.set_cons_zero,List.set_cons_succ])
      | (refine lin_skip (by rfl) ?_
         simp only[Act.put,List.setIfInBounds_toArray,List.set_cons_zero,List.set_cons_succ])
     refine lin_bound (fun K hK=> ?_)
     go_simp
     refine(HC3.out _).mono ?_
     rintro e w' ⟨rfl,rfl⟩
     refine hK.out _ _ HSt.out ?_
     clear hK K
     try simp only[Act.put,List.setIfInBounds_toArray,List.set_cons_zero,List.set_cons_succ]
     repeat
      first
      | (refine lin_free (v:= ?_) (by rfl) ?_ ?_
         rotate_left
         ·intro w' hSw
          obtain⟨f0,f1,f2,f3,c0,c1,c2,c3,c4,c5,c6,c7,c8,c9,c10,z3⟩:=HF.out w' hSw
          clear hSw
          go_simp
          first | done | with_reducible rfl
         simp only[Act.put,List.setIfInBounds_toArray,List.set_cons_zero,List.set_cons_succ])
      | (refine lin_skip (by rfl) ?_
         simp only[Act.put,List.setIfInBounds_toArray,List.set_cons_zero,List.set_cons_succ])
     refine NoPanic.normal ?_
     go_wp2
     go_ret
     exact⟨ret_b (by rw[HS.out]<;>simp),(below_alloc w _).trans (HSt.out.mono (by simp))⟩
    ·rcases q4 with _ | _
     ·go_enter Tryz.func170,Tryz.ntmps170
      go_wp2_with fail
      refine wp_region_lin default (fun w'=>Below (w.alloc (.cells #[.int .i64 (k:Int), .int .i64 x.at_, .string x.file, .int .i64 x.line] 57)).heap.size (w.alloc (.cells #[.int .i64 (k:Int), .int .i64 x.at_, .string x.file, .int .i64 x.line] 57)) w') [(0,true),(1,true),(2,true),(3,false),(4,false),(5,true),(6,true),(7,true),(8,true),(9,true),(10,true),(11,true),(12,true),(13,true),(14,true),(15,true),(16,false),(17,true),(18,true),(19,true),(20,true),(21,true),(22,true),(23,true),(24,true),(25,true),(26,true),(27,false),(28,true),(29,true),(30,true),(31,true),(32,true),(33,true),(34,true),(35,true),(36,true),(37,true),(38,true),(39,true)] (by kernel_rfl) (by kernel_rfl) rfl (by kernel_rfl) (by kernel_rfl) (Below.drew (Below.refl _ _)) ?_
      simp only[pick,List.getD_cons_zero,List.getD_cons_succ]
      repeat
       first
       | (refine lin_free (v:= ?_) (by rfl) ?_ ?_
          rotate_left
          ·intro w' hSw
           obtain⟨f0,f1,f2,f3,c0,c1,c2,c3,c4,c5,c6,c7,c8,c9,c10,z3⟩:=HF.out w' hSw
           clear hSw
           go_simp
           first | done | with_reducible rfl
          simp only[Act.put,List.setIfInBounds_toArray,List.set_cons_zero,List.set_cons_succ])
       | (refine lin_skip (by rfl) ?_
          simp only[Act.put,List.setIfInBounds_toArray,List.set_cons_zero,List.set_cons_succ])
      refine lin_bound (fun K hK=> ?_)
      go_simp
      refine hK.out _ _ (by go_grown) ?_
      skip
      clear hK K
      try simp only[Act.put,List.setIfInBounds_toArray,List.set_cons_zero,List.set_cons_succ]
      refine lin_bound (fun K hK=> ?_)
      go_simp
      refine(HC0.out _ (by go_grown) _ (rowD w _ 0)).mono ?_
      rintro e v1 ⟨rfl,hK1⟩
      have HSt:Hd (Below (w.alloc (.cells #[.int .i64 (k:Int), .int .i64 x.at_, .string x.file, .int .i64 x.line] 57)).heap.size (w.alloc (.cells #[.int .i64 (k:Int), .int .i64 x.at_, .string x.file, .int .i64 x.line] 57)) v1):=⟨(show Below (w.alloc (.cells #[.int .i64 (k:Int), .int .i64 x.at_, .string x.file, .int .i64 x.line] 57)).heap.size (w.alloc (.cells #[.int .i64 (k:Int), .int .i64 x.at_, .string x.file, .int .i64 x.line] 57)) _ by go_grown).trans (hK1.mono (by first | (simp;done) | (simp;omega)))⟩
      clear hK1
      refine hK.out _ _ HSt.out ?_
      clear hK K
      try simp only[Act.put,List.setIfInBounds_toArray,List.set_cons_zero,List.set_cons_succ]
      repeat
       first
       | (refine lin_free (v:= ?_) (by rfl) ?_ ?_
          rotate_left
          ·intro w' hSw
           obtain⟨f0,f1,f2,f3,c0,c1,c2,c3,c4,c5,c6,c7,c8,c9,c10,z3⟩:=HF.out w' hSw
           clear hSw
           go_simp
           first | done | with_reducible rfl
          simp only[Act.put,List.setIfInBounds_toArray,List.set_cons_zero,List.set_cons_succ])
       | (refine lin_skip (by rfl) ?_
          simp only[Act.put,List.setIfInBounds_toArray,List.set_cons_zero,List.set_cons_succ])
      refine lin_bound (fun K hK=> ?_)
      go_simp
      refine(HC1.out _).mono ?_
      rintro e w' ⟨rfl,rfl⟩
      refine hK.out _ _ HSt.out ?_
      clear hK K
      try simp only[Act.put,List.setIfInBounds_toArray,List.set_cons_zero,List.set_cons_succ]
      repeat
       first
       | (refine lin_free (v:= ?_) (by rfl) ?_ ?_
          rotate_left
          ·intro w' hSw
           obtain⟨f0,f1,f2,f3,c0,c1,c2,c3,c4,c5,c6,c7,c8,c9,c10,z3⟩:=HF.out w' hSw
           clear hSw
           go_simp
           first | done | with_reducible rfl
          simp only[Act.put,List.setIfInBounds_toArray,List.set_cons_zero,List.set_cons_succ])
       | (refine lin_skip (by rfl) ?_
          simp only[Act.put,List.setIfInBounds_toArray,List.set_cons_zero,List.set_cons_succ])
      refine lin_bound (fun K hK=> ?_)
      go_simp
      refine(HC3.out _).mono ?_
      rintro e w' ⟨rfl,rfl⟩
      refine hK.out _ _ HSt.out ?_
      clear hK K
      try simp only[Act.put,List.setIfInBounds_toArray,List.set_cons_zero,List.set_cons_succ]
      repeat
       first
       | (refine lin_free (v:= ?_) (by rfl) ?_ ?_
          rotate_left
          ·intro w' hSw
           obtain⟨f0,f1,f2,f3,c0,c1,c2,c3,c4,c5,c6,c7,c8,c9,c10,z3⟩:=HF.out w' hSw
           clear hSw
           go_simp
           first | done | with_reducible rfl
          simp only[Act.put,List.setIfInBounds_toArray,List.set_cons_zero,List.set_cons_succ])
       | (refine lin_skip (by rfl) ?_
          simp only[Act.put,List.setIfInBounds_toArray,List.set_cons_zero,List.set_cons_succ])
      refine NoPanic.normal ?_
      go_wp2
      go_ret
      exact⟨ret_b (by rw[HS.out]<;>simp),(below_alloc w _).trans (HSt.out.mono (by simp))⟩
     ·rcases q5 with _ | _
      ·go_enter Tryz.func170,Tryz.ntmps170
       go_wp2_with fail
       refine wp_region_lin default (fun w'=>Below (w.alloc (.cells #[.int .i64 (k:Int), .int .i64 x.at_, .string x.file, .int .i64 x.line] 57)).heap.size (w.alloc (.cells #[.int .i64 (k:Int), .int .i64 x.at_, .string x.file, .int .i64 x.line] 57)) w') [(0,true),(1,true),(2,true),(3,false),(4,false),(5,true),(6,true),(7,true),(8,true),(9,true),(10,true),(11,true),(12,true),(13,true),(14,true),(15,true),(16,false),(17,true),(18,true),(19,true),(20,true),(21,true),(22,true),(23,true),(24,true),(25,true),(26,true),(27,false),(28,true),(29,true),(30,true),(31,true),(32,true),(33,true),(34,true),(35,true),(36,true),(37,true),(38,true),(39,true)] (by kernel_rfl) (by kernel_rfl) rfl (by kernel_rfl) (by kernel_rfl) (Below.drew (Below.refl _ _)) ?_
       simp only[pick,List.getD_cons_zero,List.getD_cons_succ]
       repeat
        first
        | (refine lin_free (v:= ?_) (by rfl) ?_ ?_
           rotate_left
           ·intro w' hSw
            obtain⟨f0,f1,f2,f3,c0,c1,c2,c3,c4,c5,c6,c7,c8,c9,c10,z3⟩:=HF.out w' hSw
            clear hSw
            go_simp
            first | done | with_reducible rfl
           simp only[Act.put,List.setIfInBounds_toArray,List.set_cons_zero,List.set_cons_succ])
        | (refine lin_skip (by rfl) ?_
           simp only[Act.put,List.setIfInBounds_toArray,List.set_cons_zero,List.set_cons_succ])
       refine lin_bound (fun K hK=> ?_)
       go_simp
       refine hK.out _ _ (by go_grown) ?_
       skip
       clear hK K
       try simp only[Act.put,List.setIfInBounds_toArray,List.set_cons_zero,List.set_cons_succ]
       refine lin_bound (fun K hK=> ?_)
       go_simp
       refine(HC0.out _ (by go_grown) _ (rowD w _ 0)).mono ?_
       rintro e v1 ⟨rfl,hK1⟩
       have HSt:Hd (Below (w.alloc (.cells #[.int .i64 (k:Int), .int .i64 x.at_, .string x.file, .int .i64 x.line] 57)).heap.size (w.alloc (.cells #[.int .i64 (k:Int), .int .i64 x.at_, .string x.file, .int .i64 x.line] 57)) v1):=⟨(show Below (w.alloc (.cells #[.int .i64 (k:Int), .int .i64 x.at_, .string x.file, .int .i64 x.line] 57)).heap.size (w.alloc (.cells #[.int .i64 (k:Int), .int .i64 x.at_, .string x.file, .int .i64 x.line] 57)) _ by go_grown).trans (hK1.mono (by first | (simp;done) | (simp;omega)))⟩
       clear hK1
       refine hK.out _ _ HSt.out ?_
       clear hK K
       try simp only[Act.put,List.setIfInBounds_toArray,List.set_cons_zero,List.set_cons_succ]
       repeat
        first
        | (refine lin_free (v:= ?_) (by rfl) ?_ ?_
           rotate_left
           ·intro w' hSw
            obtain⟨f0,f1,f2,f3,c0,c1,c2,c3,c4,c5,c6,c7,c8,c9,c10,z3⟩:=HF.out w' hSw
            clear hSw
            go_simp
            first | done | with_reducible rfl
           simp only[Act.put,List.setIfInBounds_toArray,List.set_cons_zero,List.set_cons_succ])
        | (refine lin_skip (by rfl) ?_
           simp only[Act.put,List.setIfInBounds_toArray,List.set_cons_zero,List.set_cons_succ])
       refine lin_bound (fun K hK=> ?_)
       go_simp
       refine(HC1.out _).mono ?_
       rintro e w' ⟨rfl,rfl⟩
       refine hK.out _ _ HSt.out ?_
       clear hK K
       try simp only[Act.put,List.setIfInBounds_toArray,List.set_cons_zero,List.set_cons_succ]
       repeat
        first
        | (refine lin_free (v:= ?_) (by rfl) ?_ ?_
           rotate_left
           ·intro w' hSw
            obtain⟨f0,f1,f2,f3,c0,c1,c2,c3,c4,c5,c6,c7,c8,c9,c10,z3⟩:=HF.out w' hSw
            clear hSw
            go_simp
            first | done | with_reducible rfl
           simp only[Act.put,List.setIfInBounds_toArray,List.set_cons_zero,List.set_cons_succ])
        | (refine lin_skip (by rfl) ?_
           simp only[Act.put,List.setIfInBounds_toArray,List.set_cons_zero,List.set_cons_succ])
       refine lin_bound (fun K hK=> ?_)
       go_simp
       refine(HC3.out _).mono ?_
       rintro e w' ⟨rfl,rfl⟩
       refine hK.out _ _ HSt.out ?_
       clear hK K
       try simp only[Act.put,List.setIfInBounds_toArray,List.set_cons_zero,List.set_cons_succ]
       repeat
        first
        | (refine lin_free (v:= ?_) (by rfl) ?_ ?_
           rotate_left
           ·intro w' hSw
            obtain⟨f0,f1,f2,f3,c0,c1,c2,c3,c4,c5,c6,c7,c8,c9,c10,z3⟩:=HF.out w' hSw
            clear hSw
            go_simp
            first | done | with_reducible rfl
           simp only[Act.put,List.setIfInBounds_toArray,List.set_cons_zero,List.set_cons_succ])
        | (refine lin_skip (by rfl) ?_
           simp only[Act.put,List.setIfInBounds_toArray,List.set_cons_zero,List.set_cons_succ])
       refine NoPanic.normal ?_
       go_wp2
       go_ret
       exact⟨ret_b (by rw[HS.out]<;>simp),(below_alloc w _).trans (HSt.out.mono (by simp))⟩
      ·go_enter Tryz.func170,Tryz.ntmps170
       go_wp2_with fail
       refine wp_region_lin default (fun w'=>Below (w.alloc (.cells #[.int .i64 (k:Int), .int .i64 x.at_, .string x.file, .int .i64 x.line] 57)).heap.size (w.alloc (.cells #[.int .i64 (k:Int), .int .i64 x.at_, .string x.file, .int .i64 x.line] 57)) w') [(0,true),(1,true),(2,true),(3,false),(4,false),(5,true),(6,true),(7,true),(8,true),(9,true),(10,true),(11,true),(12,true),(13,true),(14,true),(15,true),(16,false),(17,true),(18,true),(19,true),(20,true),(21,true),(22,true),(23,true),(24,true),(25,true),(26,true),(27,false),(28,true),(29,true),(30,true),(31,true),(32,true),(33,true),(34,true),(35,true),(36,true),(37,true),(38,true),(39,true)] (by kernel_rfl) (by kernel_rfl) rfl (by kernel_rfl) (by kernel_rfl) (Below.drew (Below.refl _ _)) ?_
       simp only[pick,List.getD_cons_zero,List.getD_cons_succ]
       repeat
        first
        | (refine lin_free (v:= ?_) (by rfl) ?_ ?_
           rotate_left
           ·intro w' hSw
            obtain⟨f0,f1,f2,f3,c0,c1,c2,c3,c4,c5,c6,c7,c8,c9,c10,z3⟩:=HF.out w' hSw
            clear hSw
            go_simp
            first | done | with_reducible rfl
           simp only[Act.put,List.setIfInBounds_toArray,List.set_cons_zero,List.set_cons_succ])
        | (refine lin_skip (by rfl) ?_
           simp only[Act.put,List.setIfInBounds_toArray,List.set_cons_zero,List.set_cons_succ])
       refine lin_bound (fun K hK=> ?_)
       go_simp
       refine hK.out _ _ (by go_grown) ?_
       skip
       clear hK K
       try simp only[Act.put,List.setIfInBounds_toArray,List.set_cons_zero,List.set_cons_succ]
       refine lin_bound (fun K hK=> ?_)
       go_simp
       refine(HC0.out _ (by go_grown) _ (rowD w _ 0)).mono ?_
       rintro e v1 ⟨rfl,hK1⟩
       have HSt:Hd (Below (w.alloc (.cells #[.int .i64 (k:Int), .int .i64 x.at_, .string x.file, .int .i64 x.line] 57)).heap.size (w.alloc (.cells #[.int .i64 (k:Int), .int .i64 x.at_, .string x.file, .int .i64 x.line] 57)) v1):=⟨(show Below (w.alloc (.cells #[.int .i64 (k:Int), .int .i64 x.at_, .string x.file, .int .i64 x.line] 57)).heap.size (w.alloc (.cells #[.int .i64 (k:Int), .int .i64 x.at_, .string x.file, .int .i64 x.line] 57)) _ by go_grown).trans (hK1.mono (by first | (simp;done) | (simp;omega)))⟩
       clear hK1
       refine hK.out _ _ HSt.out ?_
       clear hK K
       try simp only[Act.put,List.setIfInBounds_toArray,List.set_cons_zero,List.set_cons_succ]
       repeat
        first
        | (refine lin_free (v:= ?_) (by rfl) ?_ ?_
           rotate_left
           ·intro w' hSw
            obtain⟨f0,f1,f2,f3,c0,c1,c2,c3,c4,c5,c6,c7,c8,c9,c10,z3⟩:=HF.out w' hSw
            clear hSw
            go_simp
            first | done | with_reducible rfl
           simp only[Act.put,List.setIfInBounds_toArray,List.set_cons_zero,List.set_cons_succ])
        | (refine lin_skip (by rfl) ?_
           simp only[Act.put,List.setIfInBounds_toArray,List.set_cons_zero,List.set_cons_succ])
       refine lin_bound (fun K hK=> ?_)
       go_simp
       refine(HC1.out _).mono ?_
       rintro e w' ⟨rfl,rfl⟩
       refine hK.out _ _ HSt.out ?_
       clear hK K
       try simp only[Act.put,List.setIfInBounds_toArray,List.set_cons_zero,List.set_cons_succ]
       repeat
        first
        | (refine lin_free (v:= ?_) (by rfl) ?_ ?_
           rotate_left
           ·intro w' hSw
            obtain⟨f0,f1,f2,f3,c0,c1,c2,c3,c4,c5,c6,c7,c8,c9,c10,z3⟩:=HF.out w' hSw
            clear hSw
            go_simp
            first | done | with_reducible rfl
           simp only[Act.put,List.setIfInBounds_toArray,List.set_cons_zero,List.set_cons_succ])
        | (refine lin_skip (by rfl) ?_
           simp only[Act.put,List.setIfInBounds_toArray,List.set_cons_zero,List.set_cons_succ])
       refine lin_bound (fun K hK=> ?_)
       go_simp
       refine(HC3.out _).mono ?_
       rintro e w' ⟨rfl,rfl⟩
       refine hK.out _ _ HSt.out ?_
       clear hK K
       try simp only[Act.put,List.setIfInBounds_toArray,List.set_cons_zero,List.set_cons_succ]
       repeat
        first
        | (refine lin_free (v:= ?_) (by rfl) ?_ ?_
           rotate_left
           ·intro w' hSw
            obtain⟨f0,f1,f2,f3,c0,c1,c2,c3,c4,c5,c6,c7,c8,c9,c10,z3⟩:=HF.out w' hSw
            clear hSw
            go_simp
            first | done | with_reducible rfl
           simp only[Act.put,List.setIfInBounds_toArray,List.set_cons_zero,List.set_cons_succ])
        | (refine lin_skip (by rfl) ?_
           simp only[Act.put,List.setIfInBounds_toArray,List.set_cons_zero,List.set_cons_succ])
       refine NoPanic.normal ?_
       go_wp2
       go_ret
       exact⟨ret_b (by rw[HS.out]<;>simp),(below_alloc w _).trans (HSt.out.mono (by simp))⟩
theorem olne1_any (w:World) (o:Ob) (x1 x2 x3 x4 x5 x6 x7 x8 x9 x10:Value) (b:Nat) (hb:ObC w b o x1 x2 x3 x4 x5 x6 x7 x8 x9 x10) (hA:o.At w x1 x2 x3 x4 x5 x6 x7 x8 x9 x10) (hk:o.Ok) (x:Lne) (hx:x.Ok):
 Calls Tryz.prog 170 #[.agg #[.int .i64 x.sec, .int .i64 x.at_, .string x.file, .int .i64 x.line], .pointer (some ⟨b,0,none⟩)] w fun e w'=>e= .returned (.bool (lneB o x))∧Below w.heap.size w w':=by
 by_cases hin:0≤x.sec∧x.sec< (o.secs.length:Int)
 ·obtain⟨k,hsec⟩:=Int.eq_ofNat_of_zero_le hin.1
  have:=olne1_in w o x1 x2 x3 x4 x5 x6 x7 x8 x9 x10 b hb hA hk x hx k hsec (by omega)
  rw[←hsec] at this
  exact this
 ·exact olne1_out w o x1 x2 x3 x4 x5 x6 x7 x8 x9 x10 b hb hA hk x hx hin
end Go.Proofs.YtfaepbjnpakghaaGreatDoor.W
