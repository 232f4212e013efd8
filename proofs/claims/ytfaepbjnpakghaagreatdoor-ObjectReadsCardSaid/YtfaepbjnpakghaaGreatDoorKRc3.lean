import Derived.Deep.MidRow
import Derived.Test.YtfaepbjnpakghaaGreatDoorKae
import Derived.Test.YtfaepbjnpakghaaGreatDoorKac
import Derived.Test.YtfaepbjnpakghaaGreatDoorKRc1
/- The walks of the functions that Read hands to read (printed by tools/gen_rcl.py). -/
namespace Go.Proofs.YtfaepbjnpakghaaGreatDoor.W
open Go.RowKit
set_option linter.unusedVariables false
set_option linter.unusedSimpArgs false
theorem Sym.rd_len (st:Rs):(Sym.rd st).2.rest.length≤st.rest.length:=by
 unfold Sym.rd
 dsimp only
 have h0:=text_rest st
 have h1:=text_rest (textD st).2
 have h2:=truth_len (textD (textD st).2).2
 have h3:=num_len (truthD (textD (textD st).2).2).2
 have h4:=num_len (numD (truthD (textD (textD st).2).2).2).2
 have h5:=num_len (numD (numD (truthD (textD (textD st).2).2).2).2).2
 have h6:=int_len (numD (numD (numD (truthD (textD (textD st).2).2).2).2).2).2
 have h7:=num_len (intD (numD (numD (numD (truthD (textD (textD st).2).2).2).2).2).2).2
 have h8:=num_len (numD (intD (numD (numD (numD (truthD (textD (textD st).2).2).2).2).2).2).2).2
 have h9:=num_len (numD (numD (intD (numD (numD (numD (truthD (textD (textD st).2).2).2).2).2).2).2).2).2
 omega
set_option maxRecDepth 100000 in
set_option maxHeartbeats 4000000 in
theorem rSym_any (w:World) (b br bv:Nat) (st:Rs) (h:OrW w b br bv st) (hl:st.rest.length≤1000000000):
 Calls Tryz.prog 38 #[.pointer (some ⟨bv,0,none⟩)] w fun e w'=>∃cs,e= .returned (.agg cs.toArray)∧Rdn Sym.E 10 b br bv w (Sym.rd st).1 (Sym.rd st).2 cs w':=by
 obtain⟨a0,ha0⟩:∃a,textD st=a:=⟨_,rfl⟩
 obtain⟨a1,ha1⟩:∃a,textD a0.2=a:=⟨_,rfl⟩
 obtain⟨a2,ha2⟩:∃a,truthD a1.2=a:=⟨_,rfl⟩
 obtain⟨a3,ha3⟩:∃a,numD a2.2=a:=⟨_,rfl⟩
 obtain⟨a4,ha4⟩:∃a,numD a3.2=a:=⟨_,rfl⟩
 obtain⟨a5,ha5⟩:∃a,numD a4.2=a:=⟨_,rfl⟩
 obtain⟨a6,ha6⟩:∃a,intD a5.2=a:=⟨_,rfl⟩
 obtain⟨a7,ha7⟩:∃a,numD a6.2=a:=⟨_,rfl⟩
 obtain⟨a8,ha8⟩:∃a,numD a7.2=a:=⟨_,rfl⟩
 obtain⟨a9,ha9⟩:∃a,numD a8.2=a:=⟨_,rfl⟩
 have hE:Sym.rd st=(⟨a0.1,a1.1,a2.1,a3.1,a4.1,a5.1,a6.1,a7.1,a8.1,a9.1⟩,a9.2):=by simp only[Sym.rd,ha0,ha1,ha2,ha3,ha4,ha5,ha6,ha7,ha8,ha9]
 rw[hE]
 have l0:=text_rest st
 rw[ha0] at l0
 have r0:=Nat.le_trans l0 hl
 have HC0:=Hd.mk (fun w1 (h1:OrW w1 b br bv st)=>oText_any h1 hl)
 rw[ha0] at HC0
 have l1:=text_rest a0.2
 rw[ha1] at l1
 have r1:=Nat.le_trans l1 r0
 have HC1:=Hd.mk (fun w1 (h1:OrW w1 b br bv a0.2)=>oText_any h1 r0)
 rw[ha1] at HC1
 have l2:=truth_len a1.2
 rw[ha2] at l2
 have r2:=Nat.le_trans l2 r1
 have HC2:=Hd.mk (fun w1 (h1:OrW w1 b br bv a1.2)=>oTruth_any h1 r1)
 rw[ha2] at HC2
 have l3:=num_len a2.2
 rw[ha3] at l3
 have r3:=Nat.le_trans l3 r2
 have HC3:=Hd.mk (fun w1 (h1:OrW w1 b br bv a2.2)=>oNum_any h1 r2)
 rw[ha3] at HC3
 have l4:=num_len a3.2
 rw[ha4] at l4
 have r4:=Nat.le_trans l4 r3
 have HC4:=Hd.mk (fun w1 (h1:OrW w1 b br bv a3.2)=>oNum_any h1 r3)
 rw[ha4] at HC4
 have l5:=num_len a4.2
 rw[ha5] at l5
 have r5:=Nat.le_trans l5 r4
 have HC5:=Hd.mk (fun w1 (h1:OrW w1 b br bv a4.2)=>oNum_any h1 r4)
 rw[ha5] at HC5
 have l6:=int_len a5.2
 rw[ha6] at l6
 have r6:=Nat.le_trans l6 r5
 have HC6:=Hd.mk (fun w1 (h1:OrW w1 b br bv a5.2)=>oInt_any h1 r5)
 rw[ha6] at HC6
 have l7:=num_len a6.2
 rw[ha7] at l7
 have r7:=Nat.le_trans l7 r6
 have HC7:=Hd.mk (fun w1 (h1:OrW w1 b br bv a6.2)=>oNum_any h1 r6)
 rw[ha7] at HC7
 have l8:=num_len a7.2
 rw[ha8] at l8
 have r8:=Nat.le_trans l8 r7
 have HC8:=Hd.mk (fun w1 (h1:OrW w1 b br bv a7.2)=>oNum_any h1 r7)
 rw[ha8] at HC8
 have l9:=num_len a8.2
 rw[ha9] at l9
 have r9:=Nat.le_trans l9 r8
 have HC9:=Hd.mk (fun w1 (h1:OrW w1 b br bv a8.2)=>oNum_any h1 r8)
 rw[ha9] at HC9
 have hX:=Blk.new w 55 [.string ⟨#[]⟩, .string ⟨#[]⟩, .bool false, .int .i64 0, .int .i64 0, .int .i64 0, .int .i64 0, .int .i64 0, .int .i64 0, .int .i64 0]
 have HB0:=Hd.mk hX
 have hS:((w.alloc (.cells #[.string ⟨#[]⟩, .string ⟨#[]⟩, .bool false, .int .i64 0, .int .i64 0, .int .i64 0, .int .i64 0, .int .i64 0, .int .i64 0, .int .i64 0] 55)).drew.cell? ⟨bv,0,none⟩=some (.pointer (some ⟨br,0,none⟩)))∧(w.alloc (.cells #[.string ⟨#[]⟩, .string ⟨#[]⟩, .bool false, .int .i64 0, .int .i64 0, .int .i64 0, .int .i64 0, .int .i64 0, .int .i64 0, .int .i64 0] 55)).drew.cell? ⟨br,0,none⟩=some (.pointer (some ⟨b,0,none⟩)):=⟨(h.alloc _).drew.var.at (j:=0) rfl,(h.alloc _).drew.own.at (j:=0) rfl⟩
 have HO:Hd (OrW (w.alloc (.cells #[.string ⟨#[]⟩, .string ⟨#[]⟩, .bool false, .int .i64 0, .int .i64 0, .int .i64 0, .int .i64 0, .int .i64 0, .int .i64 0, .int .i64 0] 55)).drew b br bv st):=⟨(h.alloc _).drew⟩
 have HK:Hd (Keeps (Two b br) w (w.alloc (.cells #[.string ⟨#[]⟩, .string ⟨#[]⟩, .bool false, .int .i64 0, .int .i64 0, .int .i64 0, .int .i64 0, .int .i64 0, .int .i64 0, .int .i64 0] 55)).drew):=⟨((Keeps.refl (Two b br) w).alloc _).drew⟩
 have HB:Hd (Blk (w.alloc (.cells #[.string ⟨#[]⟩, .string ⟨#[]⟩, .bool false, .int .i64 0, .int .i64 0, .int .i64 0, .int .i64 0, .int .i64 0, .int .i64 0, .int .i64 0] 55)).drew w.heap.size 55 [.string ⟨#[]⟩, .string ⟨#[]⟩, .bool false, .int .i64 0, .int .i64 0, .int .i64 0, .int .i64 0, .int .i64 0, .int .i64 0, .int .i64 0]):=⟨HB0.out.drew⟩
 have HL:Hd (b<w.heap.size∧br<w.heap.size∧bv<w.heap.size):=⟨⟨h.rd.blk.lt,h.own.lt,h.var.lt⟩⟩
 have HN2:Hd (b≠bv∧br≠bv):=⟨⟨h.ne2,h.ne3⟩⟩
 clear hX HB0 h hl hE l0 r0 ha0 l1 r1 ha1 l2 r2 ha2 l3 r3 ha3 l4 r4 ha4 l5 r5 ha5 l6 r6 ha6 l7 r7 ha7 l8 r8 ha8 l9 r9 ha9
 obtain⟨H,hH⟩:∃H,w.heap.size=H:=⟨_,rfl⟩
 have HHs:=Hd.mk hH
 go_enter Tryz.func38,Tryz.ntmps38
 go_wp2_with fail
 rw[hH] at HB
 obtain⟨W0,hW0⟩:∃W0,(w.alloc (.cells #[.string ⟨#[]⟩, .string ⟨#[]⟩, .bool false, .int .i64 0, .int .i64 0, .int .i64 0, .int .i64 0, .int .i64 0, .int .i64 0, .int .i64 0] 55)).drew=W0:=⟨_,rfl⟩
 rw[hW0] at HO HK HB hS
 refine wp_region_lin default (fun w'=>w'.cell? ⟨bv,0,none⟩=some (.pointer (some ⟨br,0,none⟩))∧w'.cell? ⟨br,0,none⟩=some (.pointer (some ⟨b,0,none⟩))) [(0,true),(1,true),(2,true),(3,true),(5,true),(6,true),(7,true),(8,true),(10,true),(12,true),(13,true),(14,true),(15,true),(17,true),(18,true),(19,true),(20,true),(22,true),(23,true),(24,true),(25,true),(27,true),(28,true),(29,true),(30,true),(32,true),(33,true),(34,true),(35,true),(37,true),(38,true),(39,true),(40,true),(42,true),(43,true),(44,true),(45,true),(4,false),(9,false),(11,false),(16,false),(21,false),(26,false),(31,false),(36,false),(41,false),(46,false),(47,true),(48,false)] (by kernel_rfl) (by kernel_rfl) rfl (by kernel_rfl) (by kernel_rfl) (by rw[hW0];exact hS) ?_
 rw[hW0]
 simp only[pick,List.getD_cons_zero,List.getD_cons_succ]
 clear hS hH hW0
 repeat
  refine lin_free (v:= ?_) (by rfl) ?_ ?_
  rotate_left
  ·intro w' hSw
   have d0:=hSw.1
   have d1:=hSw.2
   clear hSw
   go_simp
   first | done | with_reducible rfl
  simp only[Act.put,List.setIfInBounds_toArray,List.set_cons_zero,List.set_cons_succ]
 refine lin_bound (fun K hK=> ?_)
 go_simp
 refine(HC0.out W0 HO.out).mono ?_
 rintro e W1 ⟨rfl,h1,k1⟩
 have KS0:=Hd.mk k1
 have hb1:Blk W1 H 55 [.string ⟨#[]⟩, .string ⟨#[]⟩, .bool false, .int .i64 0, .int .i64 0, .int .i64 0, .int .i64 0, .int .i64 0, .int .i64 0, .int .i64 0]:=k1.blk HB.out (fun c=>by have h1:=HL.out.1;have h2:=HL.out.2.1;have h3:=HHs.out;rcases c with c | c<;>omega)
 refine hK.out _ _ ⟨h1.var.at (j:=0) rfl,h1.own.at (j:=0) rfl⟩ ?_
 have HB2:=Hd.mk hb1
 have HO2:=Hd.mk h1
 have HK2:=Hd.mk (HK.out.trans k1)
 clear hK K h1 k1 hb1 HB HO HK
 have HB:=HB2
 have HO:=HO2
 have HK:=HK2
 clear HB2 HO2 HK2
 refine lin_bound (fun K hK=> ?_)
 go_simp
 refine(HC1.out W1 HO.out).mono ?_
 rintro e W2 ⟨rfl,h1,k1⟩
 have KS1:=Hd.mk k1
 have hb1:Blk W2 H 55 [.string ⟨#[]⟩, .string ⟨#[]⟩, .bool false, .int .i64 0, .int .i64 0, .int .i64 0, .int .i64 0, .int .i64 0, .int .i64 0, .int .i64 0]:=k1.blk HB.out (fun c=>by have h1:=HL.out.1;have h2:=HL.out.2.1;have h3:=HHs.out;rcases c with c | c<;>omega)
 refine hK.out _ _ ⟨h1.var.at (j:=0) rfl,h1.own.at (j:=0) rfl⟩ ?_
 have HB2:=Hd.mk hb1
 have HO2:=Hd.mk h1
 have HK2:=Hd.mk (HK.out.trans k1)
 clear hK K h1 k1 hb1 HB HO HK
 have HB:=HB2
 have HO:=HO2
 have HK:=HK2
 clear HB2 HO2 HK2
 refine lin_bound (fun K hK=> ?_)
 go_simp
 refine(HC2.out W2 HO.out).mono ?_
 rintro e W3 ⟨rfl,h1,k1⟩
 have KS2:=Hd.mk k1
 have hb1:Blk W3 H 55 [.string ⟨#[]⟩, .string ⟨#[]⟩, .bool false, .int .i64 0, .int .i64 0, .int .i64 0, .int .i64 0, .int .i64 0, .int .i64 0, .int .i64 0]:=k1.blk HB.out (fun c=>by have h1:=HL.out.1;have h2:=HL.out.2.1;have h3:=HHs.out;rcases c with c | c<;>omega)
 refine hK.out _ _ ⟨h1.var.at (j:=0) rfl,h1.own.at (j:=0) rfl⟩ ?_
 have HB2:=Hd.mk hb1
 have HO2:=Hd.mk h1
 have HK2:=Hd.mk (HK.out.trans k1)
 clear hK K h1 k1 hb1 HB HO HK
 have HB:=HB2
 have HO:=HO2
 have HK:=HK2
 clear HB2 HO2 HK2
 refine lin_bound (fun K hK=> ?_)
 go_simp
 refine(HC3.out W3 HO.out).mono ?_
 rintro e W4 ⟨rfl,h1,k1⟩
 have KS3:=Hd.mk k1
 have hb1:Blk W4 H 55 [.string ⟨#[]⟩, .string ⟨#[]⟩, .bool false, .int .i64 0, .int .i64 0, .int .i64 0, .int .i64 0, .int .i64 0, .int .i64 0, .int .i64 0]:=k1.blk HB.out (fun c=>by have h1:=HL.out.1;have h2:=HL.out.2.1;have h3:=HHs.out;rcases c with c | c<;>omega)
 refine hK.out _ _ ⟨h1.var.at (j:=0) rfl,h1.own.at (j:=0) rfl⟩ ?_
 have HB2:=Hd.mk hb1
 have HO2:=Hd.mk h1
 have HK2:=Hd.mk (HK.out.trans k1)
 clear hK K h1 k1 hb1 HB HO HK
 have HB:=HB2
 have HO:=HO2
 have HK:=HK2
 clear HB2 HO2 HK2
 refine lin_bound (fun K hK=> ?_)
 go_simp
 refine(HC4.out W4 HO.out).mono ?_
 rintro e W5 ⟨rfl,h1,k1⟩
 have KS4:=Hd.mk k1
 have hb1:Blk W5 H 55 [.string ⟨#[]⟩, .string ⟨#[]⟩, .bool false, .int .i64 0, .int .i64 0, .int .i64 0, .int .i64 0, .int .i64 0, .int .i64 0, .int .i64 0]:=k1.blk HB.out (fun c=>by have h1:=HL.out.1;have h2:=HL.out.2.1;have h3:=HHs.out;rcases c with c | c<;>omega)
 refine hK.out _ _ ⟨h1.var.at (j:=0) rfl,h1.own.at (j:=0) rfl⟩ ?_
 have HB2:=Hd.mk hb1
 have HO2:=Hd.mk h1
 have HK2:=Hd.mk (HK.out.trans k1)
 clear hK K h1 k1 hb1 HB HO HK
 have HB:=HB2
 have HO:=HO2
 have HK:=HK2
 clear HB2 HO2 HK2
 refine lin_bound (fun K hK=> ?_)
 go_simp
 refine(HC5.out W5 HO.out).mono ?_
 rintro e W6 ⟨rfl,h1,k1⟩
 have KS5:=Hd.mk k1
 have hb1:Blk W6 H 55 [.string ⟨#[]⟩, .string ⟨#[]⟩, .bool false, .int .i64 0, .int .i64 0, .int .i64 0, .int .i64 0, .int .i64 0, .int .i64 0, .int .i64 0]:=k1.blk HB.out (fun c=>by have h1:=HL.out.1;have h2:=HL.out.2.1;have h3:=HHs.out;rcases c with c | c<;>omega)
 refine hK.out _ _ ⟨h1.var.at (j:=0) rfl,h1.own.at (j:=0) rfl⟩ ?_
 have HB2:=Hd.mk hb1
 have HO2:=Hd.mk h1
 have HK2:=Hd.mk (HK.out.trans k1)
 clear hK K h1 k1 hb1 HB HO HK
 have HB:=HB2
 have HO:=HO2
 have HK:=HK2
 clear HB2 HO2 HK2
 refine lin_bound (fun K hK=> ?_)
 go_simp
 refine(HC6.out W6 HO.out).mono ?_
 rintro e W7 ⟨rfl,h1,k1⟩
 have KS6:=Hd.mk k1
 have hb1:Blk W7 H 55 [.string ⟨#[]⟩, .string ⟨#[]⟩, .bool false, .int .i64 0, .int .i64 0, .int .i64 0, .int .i64 0, .int .i64 0, .int .i64 0, .int .i64 0]:=k1.blk HB.out (fun c=>by have h1:=HL.out.1;have h2:=HL.out.2.1;have h3:=HHs.out;rcases c with c | c<;>omega)
 refine hK.out _ _ ⟨h1.var.at (j:=0) rfl,h1.own.at (j:=0) rfl⟩ ?_
 have HB2:=Hd.mk hb1
 have HO2:=Hd.mk h1
 have HK2:=Hd.mk (HK.out.trans k1)
 clear hK K h1 k1 hb1 HB HO HK
 have HB:=HB2
 have HO:=HO2
 have HK:=HK2
 clear HB2 HO2 HK2
 refine lin_bound (fun K hK=> ?_)
 go_simp
 refine(HC7.out W7 HO.out).mono ?_
 rintro e W8 ⟨rfl,h1,k1⟩
 have KS7:=Hd.mk k1
 have hb1:Blk W8 H 55 [.string ⟨#[]⟩, .string ⟨#[]⟩, .bool false, .int .i64 0, .int .i64 0, .int .i64 0, .int .i64 0, .int .i64 0, .int .i64 0, .int .i64 0]:=k1.blk HB.out (fun c=>by have h1:=HL.out.1;have h2:=HL.out.2.1;have h3:=HHs.out;rcases c with c | c<;>omega)
 refine hK.out _ _ ⟨h1.var.at (j:=0) rfl,h1.own.at (j:=0) rfl⟩ ?_
 have HB2:=Hd.mk hb1
 have HO2:=Hd.mk h1
 have HK2:=Hd.mk (HK.out.trans k1)
 clear hK K h1 k1 hb1 HB HO HK
 have HB:=HB2
 have HO:=HO2
 have HK:=HK2
 clear HB2 HO2 HK2
 refine lin_bound (fun K hK=> ?_)
 go_simp
 refine(HC8.out W8 HO.out).mono ?_
 rintro e W9 ⟨rfl,h1,k1⟩
 have KS8:=Hd.mk k1
 have hb1:Blk W9 H 55 [.string ⟨#[]⟩, .string ⟨#[]⟩, .bool false, .int .i64 0, .int .i64 0, .int .i64 0, .int .i64 0, .int .i64 0, .int .i64 0, .int .i64 0]:=k1.blk HB.out (fun c=>by have h1:=HL.out.1;have h2:=HL.out.2.1;have h3:=HHs.out;rcases c with c | c<;>omega)
 refine hK.out _ _ ⟨h1.var.at (j:=0) rfl,h1.own.at (j:=0) rfl⟩ ?_
 have HB2:=Hd.mk hb1
 have HO2:=Hd.mk h1
 have HK2:=Hd.mk (HK.out.trans k1)
 clear hK K h1 k1 hb1 HB HO HK
 have HB:=HB2
 have HO:=HO2
 have HK:=HK2
 clear HB2 HO2 HK2
 refine lin_bound (fun K hK=> ?_)
 go_simp
 refine(HC9.out W9 HO.out).mono ?_
 rintro e W10 ⟨rfl,h1,k1⟩
 have KS9:=Hd.mk k1
 have hb1:Blk W10 H 55 [.string ⟨#[]⟩, .string ⟨#[]⟩, .bool false, .int .i64 0, .int .i64 0, .int .i64 0, .int .i64 0, .int .i64 0, .int .i64 0, .int .i64 0]:=k1.blk HB.out (fun c=>by have h1:=HL.out.1;have h2:=HL.out.2.1;have h3:=HHs.out;rcases c with c | c<;>omega)
 refine hK.out _ _ ⟨h1.var.at (j:=0) rfl,h1.own.at (j:=0) rfl⟩ ?_
 have HB2:=Hd.mk hb1
 have HO2:=Hd.mk h1
 have HK2:=Hd.mk (HK.out.trans k1)
 clear hK K h1 k1 hb1 HB HO HK
 have HB:=HB2
 have HO:=HO2
 have HK:=HK2
 clear HB2 HO2 HK2
 repeat
  refine lin_free (v:= ?_) (by rfl) ?_ ?_
  rotate_left
  ·intro w' hSw
   have d0:=hSw.1
   have d1:=hSw.2
   clear hSw
   go_simp
   first | done | with_reducible rfl
  simp only[Act.put,List.setIfInBounds_toArray,List.set_cons_zero,List.set_cons_succ]
 refine lin_bound (fun K hK=> ?_)
 have hb2:Blk (W10.setCells H 0 [.string a0.1, .string a1.1, .bool a2.1, .int .i64 a3.1, .int .i64 a4.1, .int .i64 a5.1, .int .i64 a6.1, .int .i64 a7.1, .int .i64 a8.1, .int .i64 a9.1]) H 55 [.string a0.1, .string a1.1, .bool a2.1, .int .i64 a3.1, .int .i64 a4.1, .int .i64 a5.1, .int .i64 a6.1, .int .i64 a7.1, .int .i64 a8.1, .int .i64 a9.1]:=by
  have:=Blk.setAll [.string a0.1, .string a1.1, .bool a2.1, .int .i64 a3.1, .int .i64 a4.1, .int .i64 a5.1, .int .i64 a6.1, .int .i64 a7.1, .int .i64 a8.1, .int .i64 a9.1] 0 [.string ⟨#[]⟩, .string ⟨#[]⟩, .bool false, .int .i64 0, .int .i64 0, .int .i64 0, .int .i64 0, .int .i64 0, .int .i64 0, .int .i64 0] HB.out rfl
  simpa using this
 have hk2:=keeps_setAll H [.string a0.1, .string a1.1, .bool a2.1, .int .i64 a3.1, .int .i64 a4.1, .int .i64 a5.1, .int .i64 a6.1, .int .i64 a7.1, .int .i64 a8.1, .int .i64 a9.1] 0 W10
 have hnb:∀g,g<w.heap.size→¬g=H:=fun g hg c=>by have:=HHs.out;omega
 have ho2:OrW (W10.setCells H 0 [.string a0.1, .string a1.1, .bool a2.1, .int .i64 a3.1, .int .i64 a4.1, .int .i64 a5.1, .int .i64 a6.1, .int .i64 a7.1, .int .i64 a8.1, .int .i64 a9.1]) b br bv a9.2:=HO.out.keep hk2 (hnb _ HL.out.1) (hnb _ HL.out.2.1) (hnb _ HL.out.2.2)
 have HB2:=Hd.mk hb2
 have HK2:Hd (Keeps (Two b br) w (W10.setCells H 0 [.string a0.1, .string a1.1, .bool a2.1, .int .i64 a3.1, .int .i64 a4.1, .int .i64 a5.1, .int .i64 a6.1, .int .i64 a7.1, .int .i64 a8.1, .int .i64 a9.1])):=⟨HK.out.new hk2 (fun g c=> .inr (by have:=HHs.out;omega))⟩
 have HO2:=Hd.mk ho2
 have HI:Hd ((Tryz.prog.info? 55).map (·.size)=some 10):=⟨by kernel_rfl⟩
 have HT:Hd (W10.there H 0 10):=⟨fun j hj=>⟨by
  rw[Nat.zero_add,HB.out.cell]
  have:j< [(0:Nat),(0:Nat),(0:Nat),(0:Nat),(0:Nat),(0:Nat),(0:Nat),(0:Nat),(0:Nat),(0:Nat)].length:=hj
  rcases j with _ | _ | _ | _ | _ | _ | _ | _ | _ | _ | j<;>first | rfl | (simp at this;omega),HB.out.free _⟩⟩
 have HKs:=Hd.mk hk2
 clear hb2 ho2 hnb hk2
 have HON:Hd (∀u∈([.string a0.1, .string a1.1, .bool a2.1, .int .i64 a3.1, .int .i64 a4.1, .int .i64 a5.1, .int .i64 a6.1, .int .i64 a7.1, .int .i64 a8.1, .int .i64 a9.1]:List Value),u.oneCell'=true):=⟨by intro u hu;simp only[List.mem_cons,List.not_mem_nil,or_false] at hu;rcases hu with rfl | rfl | rfl | rfl | rfl | rfl | rfl | rfl | rfl | rfl<;>rfl⟩
 refine wanted_step (by kernel_rfl) ?_
 refine wp_store_mid 55 _ _ rfl H 0 #[.string a0.1, .string a1.1, .bool a2.1, .int .i64 a3.1, .int .i64 a4.1, .int .i64 a5.1, .int .i64 a6.1, .int .i64 a7.1, .int .i64 a8.1, .int .i64 a9.1] rfl rfl HT.out HI.out (all_oneCell_toArray HON.out) ?_
 refine hK.out _ _ ⟨HO2.out.var.at (j:=0) rfl,HO2.out.own.at (j:=0) rfl⟩ ?_
 clear hK K
 refine NoPanic.normal ?_
 simp only[Exit.then,Act.put]
 rename_i Q0 K0 hret
 refine hret _ _ (Go.wp_ret ?_)
 show bodyPost _ _ _ _ _ _
 refine bodyPost_ret (results_cell_row rfl _ _ H 55 _ (0,0) _ rfl HB2.out.is Tryz.underlying55 rfl (by kernel_rfl)) rfl ?_
 exact⟨[.string a0.1, .string a1.1, .bool a2.1, .int .i64 a3.1, .int .i64 a4.1, .int .i64 a5.1, .int .i64 a6.1, .int .i64 a7.1, .int .i64 a8.1, .int .i64 a9.1],rfl,rfl,HON.out,Std.of (fun _=>rfl) _,HO2.out,HK2.out⟩
theorem rSym_fn {b br bv:Nat}:FnR Sym.E 10 Sym.rd b br bv 38 #[.pointer (some ⟨bv,0,none⟩)]:=
 ⟨enters_of Tryz.func38 rfl rfl,fun w st h hl=>rSym_any w b br bv st h hl,Sym.rd_len⟩
theorem Inl.rd_len (st:Rs):(Inl.rd st).2.rest.length≤st.rest.length:=by
 unfold Inl.rd
 dsimp only
 have h0:=num_len st
 have h1:=num_len (numD st).2
 have h2:=num_len (numD (numD st).2).2
 have h3:=text_rest (numD (numD (numD st).2).2).2
 have h4:=text_rest (textD (numD (numD (numD st).2).2).2).2
 have h5:=num_len (textD (textD (numD (numD (numD st).2).2).2).2).2
 omega
set_option maxRecDepth 100000 in
set_option maxHeartbeats 4000000 in
theorem rInl_any (w:World) (b br bv:Nat) (st:Rs) (h:OrW w b br bv st) (hl:st.rest.length≤1000000000):
 Calls Tryz.prog 50 #[.pointer (some ⟨bv,0,none⟩)] w fun e w'=>∃cs,e= .returned (.agg cs.toArray)∧Rdn Inl.E 6 b br bv w (Inl.rd st).1 (Inl.rd st).2 cs w':=by
 obtain⟨a0,ha0⟩:∃a,numD st=a:=⟨_,rfl⟩
 obtain⟨a1,ha1⟩:∃a,numD a0.2=a:=⟨_,rfl⟩
 obtain⟨a2,ha2⟩:∃a,numD a1.2=a:=⟨_,rfl⟩
 obtain⟨a3,ha3⟩:∃a,textD a2.2=a:=⟨_,rfl⟩
 obtain⟨a4,ha4⟩:∃a,textD a3.2=a:=⟨_,rfl⟩
 obtain⟨a5,ha5⟩:∃a,numD a4.2=a:=⟨_,rfl⟩
 have hE:Inl.rd st=(⟨a0.1,a1.1,a2.1,a3.1,a4.1,a5.1⟩,a5.2):=by simp only[Inl.rd,ha0,ha1,ha2,ha3,ha4,ha5]
 rw[hE]
 have l0:=num_len st
 rw[ha0] at l0
 have r0:=Nat.le_trans l0 hl
 have HC0:=Hd.mk (fun w1 (h1:OrW w1 b br bv st)=>oNum_any h1 hl)
 rw[ha0] at HC0
 have l1:=num_len a0.2
 rw[ha1] at l1
 have r1:=Nat.le_trans l1 r0
 have HC1:=Hd.mk (fun w1 (h1:OrW w1 b br bv a0.2)=>oNum_any h1 r0)
 rw[ha1] at HC1
 have l2:=num_len a1.2
 rw[ha2] at l2
 have r2:=Nat.le_trans l2 r1
 have HC2:=Hd.mk (fun w1 (h1:OrW w1 b br bv a1.2)=>oNum_any h1 r1)
 rw[ha2] at HC2
 have l3:=text_rest a2.2
 rw[ha3] at l3
 have r3:=Nat.le_trans l3 r2
 have HC3:=Hd.mk (fun w1 (h1:OrW w1 b br bv a2.2)=>oText_any h1 r2)
 rw[ha3] at HC3
 have l4:=text_rest a3.2
 rw[ha4] at l4
 have r4:=Nat.le_trans l4 r3
 have HC4:=Hd.mk (fun w1 (h1:OrW w1 b br bv a3.2)=>oText_any h1 r3)
 rw[ha4] at HC4
 have l5:=num_len a4.2
 rw[ha5] at l5
 have r5:=Nat.le_trans l5 r4
 have HC5:=Hd.mk (fun w1 (h1:OrW w1 b br bv a4.2)=>oNum_any h1 r4)
 rw[ha5] at HC5
 have hX:=Blk.new w 90 [.int .i64 0, .int .i64 0, .int .i64 0, .string ⟨#[]⟩, .string ⟨#[]⟩, .int .i64 0]
 have HB0:=Hd.mk hX
 have hS:((w.alloc (.cells #[.int .i64 0, .int .i64 0, .int .i64 0, .string ⟨#[]⟩, .string ⟨#[]⟩, .int .i64 0] 90)).drew.cell? ⟨bv,0,none⟩=some (.pointer (some ⟨br,0,none⟩)))∧(w.alloc (.cells #[.int .i64 0, .int .i64 0, .int .i64 0, .string ⟨#[]⟩, .string ⟨#[]⟩, .int .i64 0] 90)).drew.cell? ⟨br,0,none⟩=some (.pointer (some ⟨b,0,none⟩)):=⟨(h.alloc _).drew.var.at (j:=0) rfl,(h.alloc _).drew.own.at (j:=0) rfl⟩
 have HO:Hd (OrW (w.alloc (.cells #[.int .i64 0, .int .i64 0, .int .i64 0, .string ⟨#[]⟩, .string ⟨#[]⟩, .int .i64 0] 90)).drew b br bv st):=⟨(h.alloc _).drew⟩
 have HK:Hd (Keeps (Two b br) w (w.alloc (.cells #[.int .i64 0, .int .i64 0, .int .i64 0, .string ⟨#[]⟩, .string ⟨#[]⟩, .int .i64 0] 90)).drew):=⟨((Keeps.refl (Two b br) w).alloc _).drew⟩
 have HB:Hd (Blk (w.alloc (.cells #[.int .i64 0, .int .i64 0, .int .i64 0, .string ⟨#[]⟩, .string ⟨#[]⟩, .int .i64 0] 90)).drew w.heap.size 90 [.int .i64 0, .int .i64 0, .int .i64 0, .string ⟨#[]⟩, .string ⟨#[]⟩, .int .i64 0]):=⟨HB0.out.drew⟩
 have HL:Hd (b<w.heap.size∧br<w.heap.size∧bv<w.heap.size):=⟨⟨h.rd.blk.lt,h.own.lt,h.var.lt⟩⟩
 have HN2:Hd (b≠bv∧br≠bv):=⟨⟨h.ne2,h.ne3⟩⟩
 clear hX HB0 h hl hE l0 r0 ha0 l1 r1 ha1 l2 r2 ha2 l3 r3 ha3 l4 r4 ha4 l5 r5 ha5
 obtain⟨H,hH⟩:∃H,w.heap.size=H:=⟨_,rfl⟩
 have HHs:=Hd.mk hH
 go_enter Tryz.func50,Tryz.ntmps50
 go_wp2_with fail
 rw[hH] at HB
 obtain⟨W0,hW0⟩:∃W0,(w.alloc (.cells #[.int .i64 0, .int .i64 0, .int .i64 0, .string ⟨#[]⟩, .string ⟨#[]⟩, .int .i64 0] 90)).drew=W0:=⟨_,rfl⟩
 rw[hW0] at HO HK HB hS
 refine wp_region_lin default (fun w'=>w'.cell? ⟨bv,0,none⟩=some (.pointer (some ⟨br,0,none⟩))∧w'.cell? ⟨br,0,none⟩=some (.pointer (some ⟨b,0,none⟩))) [(0,true),(1,true),(2,true),(3,true),(5,true),(6,true),(7,true),(8,true),(10,true),(11,true),(12,true),(13,true),(15,true),(16,true),(17,true),(18,true),(20,true),(21,true),(22,true),(23,true),(25,true),(26,true),(27,true),(28,true),(4,false),(9,false),(14,false),(19,false),(24,false),(29,false),(30,true),(31,false)] (by kernel_rfl) (by kernel_rfl) rfl (by kernel_rfl) (by kernel_rfl) (by rw[hW0];exact hS) ?_
 rw[hW0]
 simp only[pick,List.getD_cons_zero,List.getD_cons_succ]
 clear hS hH hW0
 repeat
  refine lin_free (v:= ?_) (by rfl) ?_ ?_
  rotate_left
  ·intro w' hSw
   have d0:=hSw.1
   have d1:=hSw.2
   clear hSw
   go_simp
   first | done | with_reducible rfl
  simp only[Act.put,List.setIfInBounds_toArray,List.set_cons_zero,List.set_cons_succ]
 refine lin_bound (fun K hK=> ?_)
 go_simp
 refine(HC0.out W0 HO.out).mono ?_
 rintro e W1 ⟨rfl,h1,k1⟩
 have KS0:=Hd.mk k1
 have hb1:Blk W1 H 90 [.int .i64 0, .int .i64 0, .int .i64 0, .string ⟨#[]⟩, .string ⟨#[]⟩, .int .i64 0]:=k1.blk HB.out (fun c=>by have h1:=HL.out.1;have h2:=HL.out.2.1;have h3:=HHs.out;rcases c with c | c<;>omega)
 refine hK.out _ _ ⟨h1.var.at (j:=0) rfl,h1.own.at (j:=0) rfl⟩ ?_
 have HB2:=Hd.mk hb1
 have HO2:=Hd.mk h1
 have HK2:=Hd.mk (HK.out.trans k1)
 clear hK K h1 k1 hb1 HB HO HK
 have HB:=HB2
 have HO:=HO2
 have HK:=HK2
 clear HB2 HO2 HK2
 refine lin_bound (fun K hK=> ?_)
 go_simp
 refine(HC1.out W1 HO.out).mono ?_
 rintro e W2 ⟨rfl,h1,k1⟩
 have KS1:=Hd.mk k1
 have hb1:Blk W2 H 90 [.int .i64 0, .int .i64 0, .int .i64 0, .string ⟨#[]⟩, .string ⟨#[]⟩, .int .i64 0]:=k1.blk HB.out (fun c=>by have h1:=HL.out.1;have h2:=HL.out.2.1;have h3:=HHs.out;rcases c with c | c<;>omega)
 refine hK.out _ _ ⟨h1.var.at (j:=0) rfl,h1.own.at (j:=0) rfl⟩ ?_
 have HB2:=Hd.mk hb1
 have HO2:=Hd.mk h1
 have HK2:=Hd.mk (HK.out.trans k1)
 clear hK K h1 k1 hb1 HB HO HK
 have HB:=HB2
 have HO:=HO2
 have HK:=HK2
 clear HB2 HO2 HK2
 refine lin_bound (fun K hK=> ?_)
 go_simp
 refine(HC2.out W2 HO.out).mono ?_
 rintro e W3 ⟨rfl,h1,k1⟩
 have KS2:=Hd.mk k1
 have hb1:Blk W3 H 90 [.int .i64 0, .int .i64 0, .int .i64 0, .string ⟨#[]⟩, .string ⟨#[]⟩, .int .i64 0]:=k1.blk HB.out (fun c=>by have h1:=HL.out.1;have h2:=HL.out.2.1;have h3:=HHs.out;rcases c with c | c<;>omega)
 refine hK.out _ _ ⟨h1.var.at (j:=0) rfl,h1.own.at (j:=0) rfl⟩ ?_
 have HB2:=Hd.mk hb1
 have HO2:=Hd.mk h1
 have HK2:=Hd.mk (HK.out.trans k1)
 clear hK K h1 k1 hb1 HB HO HK
 have HB:=HB2
 have HO:=HO2
 have HK:=HK2
 clear HB2 HO2 HK2
 refine lin_bound (fun K hK=> ?_)
 go_simp
 refine(HC3.out W3 HO.out).mono ?_
 rintro e W4 ⟨rfl,h1,k1⟩
 have KS3:=Hd.mk k1
 have hb1:Blk W4 H 90 [.int .i64 0, .int .i64 0, .int .i64 0, .string ⟨#[]⟩, .string ⟨#[]⟩, .int .i64 0]:=k1.blk HB.out (fun c=>by have h1:=HL.out.1;have h2:=HL.out.2.1;have h3:=HHs.out;rcases c with c | c<;>omega)
 refine hK.out _ _ ⟨h1.var.at (j:=0) rfl,h1.own.at (j:=0) rfl⟩ ?_
 have HB2:=Hd.mk hb1
 have HO2:=Hd.mk h1
 have HK2:=Hd.mk (HK.out.trans k1)
 clear hK K h1 k1 hb1 HB HO HK
 have HB:=HB2
 have HO:=HO2
 have HK:=HK2
 clear HB2 HO2 HK2
 refine lin_bound (fun K hK=> ?_)
 go_simp
 refine(HC4.out W4 HO.out).mono ?_
 rintro e W5 ⟨rfl,h1,k1⟩
 have KS4:=Hd.mk k1
 have hb1:Blk W5 H 90 [.int .i64 0, .int .i64 0, .int .i64 0, .string ⟨#[]⟩, .string ⟨#[]⟩, .int .i64 0]:=k1.blk HB.out (fun c=>by have h1:=HL.out.1;have h2:=HL.out.2.1;have h3:=HHs.out;rcases c with c | c<;>omega)
 refine hK.out _ _ ⟨h1.var.at (j:=0) rfl,h1.own.at (j:=0) rfl⟩ ?_
 have HB2:=Hd.mk hb1
 have HO2:=Hd.mk h1
 have HK2:=Hd.mk (HK.out.trans k1)
 clear hK K h1 k1 hb1 HB HO HK
 have HB:=HB2
 have HO:=HO2
 have HK:=HK2
 clear HB2 HO2 HK2
 refine lin_bound (fun K hK=> ?_)
 go_simp
 refine(HC5.out W5 HO.out).mono ?_
 rintro e W6 ⟨rfl,h1,k1⟩
 have KS5:=Hd.mk k1
 have hb1:Blk W6 H 90 [.int .i64 0, .int .i64 0, .int .i64 0, .string ⟨#[]⟩, .string ⟨#[]⟩, .int .i64 0]:=k1.blk HB.out (fun c=>by have h1:=HL.out.1;have h2:=HL.out.2.1;have h3:=HHs.out;rcases c with c | c<;>omega)
 refine hK.out _ _ ⟨h1.var.at (j:=0) rfl,h1.own.at (j:=0) rfl⟩ ?_
 have HB2:=Hd.mk hb1
 have HO2:=Hd.mk h1
 have HK2:=Hd.mk (HK.out.trans k1)
 clear hK K h1 k1 hb1 HB HO HK
 have HB:=HB2
 have HO:=HO2
 have HK:=HK2
 clear HB2 HO2 HK2
 repeat
  refine lin_free (v:= ?_) (by rfl) ?_ ?_
  rotate_left
  ·intro w' hSw
   have d0:=hSw.1
   have d1:=hSw.2
   clear hSw
   go_simp
   first | done | with_reducible rfl
  simp only[Act.put,List.setIfInBounds_toArray,List.set_cons_zero,List.set_cons_succ]
 refine lin_bound (fun K hK=> ?_)
 have hb2:Blk (W6.setCells H 0 [.int .i64 a0.1, .int .i64 a1.1, .int .i64 a2.1, .string a3.1, .string a4.1, .int .i64 a5.1]) H 90 [.int .i64 a0.1, .int .i64 a1.1, .int .i64 a2.1, .string a3.1, .string a4.1, .int .i64 a5.1]:=by
  have:=Blk.setAll [.int .i64 a0.1, .int .i64 a1.1, .int .i64 a2.1, .string a3.1, .string a4.1, .int .i64 a5.1] 0 [.int .i64 0, .int .i64 0, .int .i64 0, .string ⟨#[]⟩, .string ⟨#[]⟩, .int .i64 0] HB.out rfl
  simpa using this
 have hk2:=keeps_setAll H [.int .i64 a0.1, .int .i64 a1.1, .int .i64 a2.1, .string a3.1, .string a4.1, .int .i64 a5.1] 0 W6
 have hnb:∀g,g<w.heap.size→¬g=H:=fun g hg c=>by have:=HHs.out;omega
 have ho2:OrW (W6.setCells H 0 [.int .i64 a0.1, .int .i64 a1.1, .int .i64 a2.1, .string a3.1, .string a4.1, .int .i64 a5.1]) b br bv a5.2:=HO.out.keep hk2 (hnb _ HL.out.1) (hnb _ HL.out.2.1) (hnb _ HL.out.2.2)
 have HB2:=Hd.mk hb2
 have HK2:Hd (Keeps (Two b br) w (W6.setCells H 0 [.int .i64 a0.1, .int .i64 a1.1, .int .i64 a2.1, .string a3.1, .string a4.1, .int .i64 a5.1])):=⟨HK.out.new hk2 (fun g c=> .inr (by have:=HHs.out;omega))⟩
 have HO2:=Hd.mk ho2
 have HI:Hd ((Tryz.prog.info? 90).map (·.size)=some 6):=⟨by kernel_rfl⟩
 have HT:Hd (W6.there H 0 6):=⟨fun j hj=>⟨by
  rw[Nat.zero_add,HB.out.cell]
  have:j< [(0:Nat),(0:Nat),(0:Nat),(0:Nat),(0:Nat),(0:Nat)].length:=hj
  rcases j with _ | _ | _ | _ | _ | _ | j<;>first | rfl | (simp at this;omega),HB.out.free _⟩⟩
 have HKs:=Hd.mk hk2
 clear hb2 ho2 hnb hk2
 have HON:Hd (∀u∈([.int .i64 a0.1, .int .i64 a1.1, .int .i64 a2.1, .string a3.1, .string a4.1, .int .i64 a5.1]:List Value),u.oneCell'=true):=⟨by intro u hu;simp only[List.mem_cons,List.not_mem_nil,or_false] at hu;rcases hu with rfl | rfl | rfl | rfl | rfl | rfl<;>rfl⟩
 refine wanted_step (by kernel_rfl) ?_
 refine wp_store_mid 90 _ _ rfl H 0 #[.int .i64 a0.1, .int .i64 a1.1, .int .i64 a2.1, .string a3.1, .string a4.1, .int .i64 a5.1] rfl rfl HT.out HI.out (all_oneCell_toArray HON.out) ?_
 refine hK.out _ _ ⟨HO2.out.var.at (j:=0) rfl,HO2.out.own.at (j:=0) rfl⟩ ?_
 clear hK K
 refine NoPanic.normal ?_
 simp only[Exit.then,Act.put]
 rename_i Q0 K0 hret
 refine hret _ _ (Go.wp_ret ?_)
 show bodyPost _ _ _ _ _ _
 refine bodyPost_ret (results_cell_row rfl _ _ H 90 _ (0,0) _ rfl HB2.out.is Tryz.underlying90 rfl (by kernel_rfl)) rfl ?_
 exact⟨[.int .i64 a0.1, .int .i64 a1.1, .int .i64 a2.1, .string a3.1, .string a4.1, .int .i64 a5.1],rfl,rfl,HON.out,Std.of (fun _=>rfl) _,HO2.out,HK2.out⟩
theorem rInl_fn {b br bv:Nat}:FnR Inl.E 6 Inl.rd b br bv 50 #[.pointer (some ⟨bv,0,none⟩)]:=
 ⟨enters_of Tryz.func50 rfl rfl,fun w st h hl=>rInl_any w b br bv st h hl,Inl.rd_len⟩
theorem Vrr.rd_len (st:Rs):(Vrr.rd st).2.rest.length≤st.rest.length:=by
 unfold Vrr.rd
 dsimp only
 have h0:=num_len st
 have h1:=num_len (numD st).2
 have h2:=num_len (numD (numD st).2).2
 have h3:=text_rest (numD (numD (numD st).2).2).2
 have h4:=num_len (textD (numD (numD (numD st).2).2).2).2
 have h5:=num_len (numD (textD (numD (numD (numD st).2).2).2).2).2
 omega
set_option maxRecDepth 100000 in
set_option maxHeartbeats 4000000 in
theorem rVrr_any (w:World) (b br bv:Nat) (st:Rs) (h:OrW w b br bv st) (hl:st.rest.length≤1000000000):
 Calls Tryz.prog 52 #[.pointer (some ⟨bv,0,none⟩)] w fun e w'=>∃cs,e= .returned (.agg cs.toArray)∧Rdn Vrr.E 6 b br bv w (Vrr.rd st).1 (Vrr.rd st).2 cs w':=by
 obtain⟨a0,ha0⟩:∃a,numD st=a:=⟨_,rfl⟩
 obtain⟨a1,ha1⟩:∃a,numD a0.2=a:=⟨_,rfl⟩
 obtain⟨a2,ha2⟩:∃a,numD a1.2=a:=⟨_,rfl⟩
 obtain⟨a3,ha3⟩:∃a,textD a2.2=a:=⟨_,rfl⟩
 obtain⟨a4,ha4⟩:∃a,numD a3.2=a:=⟨_,rfl⟩
 obtain⟨a5,ha5⟩:∃a,numD a4.2=a:=⟨_,rfl⟩
 have hE:Vrr.rd st=(⟨a0.1,a1.1,a2.1,a3.1,a4.1,a5.1⟩,a5.2):=by simp only[Vrr.rd,ha0,ha1,ha2,ha3,ha4,ha5]
 rw[hE]
 have l0:=num_len st
 rw[ha0] at l0
 have r0:=Nat.le_trans l0 hl
 have HC0:=Hd.mk (fun w1 (h1:OrW w1 b br bv st)=>oNum_any h1 hl)
 rw[ha0] at HC0
 have l1:=num_len a0.2
 rw[ha1] at l1
 have r1:=Nat.le_trans l1 r0
 have HC1:=Hd.mk (fun w1 (h1:OrW w1 b br bv a0.2)=>oNum_any h1 r0)
 rw[ha1] at HC1
 have l2:=num_len a1.2
 rw[ha2] at l2
 have r2:=Nat.le_trans l2 r1
 have HC2:=Hd.mk (fun w1 (h1:OrW w1 b br bv a1.2)=>oNum_any h1 r1)
 rw[ha2] at HC2
 have l3:=text_rest a2.2
 rw[ha3] at l3
 have r3:=Nat.le_trans l3 r2
 have HC3:=Hd.mk (fun w1 (h1:OrW w1 b br bv a2.2)=>oText_any h1 r2)
 rw[ha3] at HC3
 have l4:=num_len a3.2
 rw[ha4] at l4
 have r4:=Nat.le_trans l4 r3
 have HC4:=Hd.mk (fun w1 (h1:OrW w1 b br bv a3.2)=>oNum_any h1 r3)
 rw[ha4] at HC4
 have l5:=num_len a4.2
 rw[ha5] at l5
 have r5:=Nat.le_trans l5 r4
 have HC5:=Hd.mk (fun w1 (h1:OrW w1 b br bv a4.2)=>oNum_any h1 r4)
 rw[ha5] at HC5
 have hX:=Blk.new w 94 [.int .i64 0, .int .i64 0, .int .i64 0, .string ⟨#[]⟩, .int .i64 0, .int .i64 0]
 have HB0:=Hd.mk hX
 have hS:((w.alloc (.cells #[.int .i64 0, .int .i64 0, .int .i64 0, .string ⟨#[]⟩, .int .i64 0, .int .i64 0] 94)).drew.cell? ⟨bv,0,none⟩=some (.pointer (some ⟨br,0,none⟩)))∧(w.alloc (.cells #[.int .i64 0, .int .i64 0, .int .i64 0, .string ⟨#[]⟩, .int .i64 0, .int .i64 0] 94)).drew.cell? ⟨br,0,none⟩=some (.pointer (some ⟨b,0,none⟩)):=⟨(h.alloc _).drew.var.at (j:=0) rfl,(h.alloc _).drew.own.at (j:=0) rfl⟩
 have HO:Hd (OrW (w.alloc (.cells #[.int .i64 0, .int .i64 0, .int .i64 0, .string ⟨#[]⟩, .int .i64 0, .int .i64 0] 94)).drew b br bv st):=⟨(h.alloc _).drew⟩
 have HK:Hd (Keeps (Two b br) w (w.alloc (.cells #[.int .i64 0, .int .i64 0, .int .i64 0, .string ⟨#[]⟩, .int .i64 0, .int .i64 0] 94)).drew):=⟨((Keeps.refl (Two b br) w).alloc _).drew⟩
 have HB:Hd (Blk (w.alloc (.cells #[.int .i64 0, .int .i64 0, .int .i64 0, .string ⟨#[]⟩, .int .i64 0, .int .i64 0] 94)).drew w.heap.size 94 [.int .i64 0, .int .i64 0, .int .i64 0, .string ⟨#[]⟩, .int .i64 0, .int .i64 0]):=⟨HB0.out.drew⟩
 have HL:Hd (b<w.heap.size∧br<w.heap.size∧bv<w.heap.size):=⟨⟨h.rd.blk.lt,h.own.lt,h.var.lt⟩⟩
 have HN2:Hd (b≠bv∧br≠bv):=⟨⟨h.ne2,h.ne3⟩⟩
 clear hX HB0 h hl hE l0 r0 ha0 l1 r1 ha1 l2 r2 ha2 l3 r3 ha3 l4 r4 ha4 l5 r5 ha5
 obtain⟨H,hH⟩:∃H,w.heap.size=H:=⟨_,rfl⟩
 have HHs:=Hd.mk hH
 go_enter Tryz.func52,Tryz.ntmps52
 go_wp2_with fail
 rw[hH] at HB
 obtain⟨W0,hW0⟩:∃W0,(w.alloc (.cells #[.int .i64 0, .int .i64 0, .int .i64 0, .string ⟨#[]⟩, .int .i64 0, .int .i64 0] 94)).drew=W0:=⟨_,rfl⟩
 rw[hW0] at HO HK HB hS
 refine wp_region_lin default (fun w'=>w'.cell? ⟨bv,0,none⟩=some (.pointer (some ⟨br,0,none⟩))∧w'.cell? ⟨br,0,none⟩=some (.pointer (some ⟨b,0,none⟩))) [(0,true),(1,true),(2,true),(3,true),(5,true),(6,true),(7,true),(8,true),(10,true),(11,true),(12,true),(13,true),(15,true),(16,true),(17,true),(18,true),(20,true),(21,true),(22,true),(23,true),(25,true),(26,true),(27,true),(28,true),(4,false),(9,false),(14,false),(19,false),(24,false),(29,false),(30,true),(31,false)] (by kernel_rfl) (by kernel_rfl) rfl (by kernel_rfl) (by kernel_rfl) (by rw[hW0];exact hS) ?_
 rw[hW0]
 simp only[pick,List.getD_cons_zero,List.getD_cons_succ]
 clear hS hH hW0
 repeat
  refine lin_free (v:= ?_) (by rfl) ?_ ?_
  rotate_left
  ·intro w' hSw
   have d0:=hSw.1
   have d1:=hSw.2
   clear hSw
   go_simp
   first | done | with_reducible rfl
  simp only[Act.put,List.setIfInBounds_toArray,List.set_cons_zero,List.set_cons_succ]
 refine lin_bound (fun K hK=> ?_)
 go_simp
 refine(HC0.out W0 HO.out).mono ?_
 rintro e W1 ⟨rfl,h1,k1⟩
 have KS0:=Hd.mk k1
 have hb1:Blk W1 H 94 [.int .i64 0, .int .i64 0, .int .i64 0, .string ⟨#[]⟩, .int .i64 0, .int .i64 0]:=k1.blk HB.out (fun c=>by have h1:=HL.out.1;have h2:=HL.out.2.1;have h3:=HHs.out;rcases c with c | c<;>omega)
 refine hK.out _ _ ⟨h1.var.at (j:=0) rfl,h1.own.at (j:=0) rfl⟩ ?_
 have HB2:=Hd.mk hb1
 have HO2:=Hd.mk h1
 have HK2:=Hd.mk (HK.out.trans k1)
 clear hK K h1 k1 hb1 HB HO HK
 have HB:=HB2
 have HO:=HO2
 have HK:=HK2
 clear HB2 HO2 HK2
 refine lin_bound (fun K hK=> ?_)
 go_simp
 refine(HC1.out W1 HO.out).mono ?_
 rintro e W2 ⟨rfl,h1,k1⟩
 have KS1:=Hd.mk k1
 have hb1:Blk W2 H 94 [.int .i64 0, .int .i64 0, .int .i64 0, .string ⟨#[]⟩, .int .i64 0, .int .i64 0]:=k1.blk HB.out (fun c=>by have h1:=HL.out.1;have h2:=HL.out.2.1;have h3:=HHs.out;rcases c with c | c<;>omega)
 refine hK.out _ _ ⟨h1.var.at (j:=0) rfl,h1.own.at (j:=0) rfl⟩ ?_
 have HB2:=Hd.mk hb1
 have HO2:=Hd.mk h1
 have HK2:=Hd.mk (HK.out.trans k1)
 clear hK K h1 k1 hb1 HB HO HK
 have HB:=HB2
 have HO:=HO2
 have HK:=HK2
 clear HB2 HO2 HK2
 refine lin_bound (fun K hK=> ?_)
 go_simp
 refine(HC2.out W2 HO.out).mono ?_
 rintro e W3 ⟨rfl,h1,k1⟩
 have KS2:=Hd.mk k1
 have hb1:Blk W3 H 94 [.int .i64 0, .int .i64 0, .int .i64 0, .string ⟨#[]⟩, .int .i64 0, .int .i64 0]:=k1.blk HB.out (fun c=>by have h1:=HL.out.1;have h2:=HL.out.2.1;have h3:=HHs.out;rcases c with c | c<;>omega)
 refine hK.out _ _ ⟨h1.var.at (j:=0) rfl,h1.own.at (j:=0) rfl⟩ ?_
 have HB2:=Hd.mk hb1
 have HO2:=Hd.mk h1
 have HK2:=Hd.mk (HK.out.trans k1)
 clear hK K h1 k1 hb1 HB HO HK
 have HB:=HB2
 have HO:=HO2
 have HK:=HK2
 clear HB2 HO2 HK2
 refine lin_bound (fun K hK=> ?_)
 go_simp
 refine(HC3.out W3 HO.out).mono ?_
 rintro e W4 ⟨rfl,h1,k1⟩
 have KS3:=Hd.mk k1
 have hb1:Blk W4 H 94 [.int .i64 0, .int .i64 0, .int .i64 0, .string ⟨#[]⟩, .int .i64 0, .int .i64 0]:=k1.blk HB.out (fun c=>by have h1:=HL.out.1;have h2:=HL.out.2.1;have h3:=HHs.out;rcases c with c | c<;>omega)
 refine hK.out _ _ ⟨h1.var.at (j:=0) rfl,h1.own.at (j:=0) rfl⟩ ?_
 have HB2:=Hd.mk hb1
 have HO2:=Hd.mk h1
 have HK2:=Hd.mk (HK.out.trans k1)
 clear hK K h1 k1 hb1 HB HO HK
 have HB:=HB2
 have HO:=HO2
 have HK:=HK2
 clear HB2 HO2 HK2
 refine lin_bound (fun K hK=> ?_)
 go_simp
 refine(HC4.out W4 HO.out).mono ?_
 rintro e W5 ⟨rfl,h1,k1⟩
 have KS4:=Hd.mk k1
 have hb1:Blk W5 H 94 [.int .i64 0, .int .i64 0, .int .i64 0, .string ⟨#[]⟩, .int .i64 0, .int .i64 0]:=k1.blk HB.out (fun c=>by have h1:=HL.out.1;have h2:=HL.out.2.1;have h3:=HHs.out;rcases c with c | c<;>omega)
 refine hK.out _ _ ⟨h1.var.at (j:=0) rfl,h1.own.at (j:=0) rfl⟩ ?_
 have HB2:=Hd.mk hb1
 have HO2:=Hd.mk h1
 have HK2:=Hd.mk (HK.out.trans k1)
 clear hK K h1 k1 hb1 HB HO HK
 have HB:=HB2
 have HO:=HO2
 have HK:=HK2
 clear HB2 HO2 HK2
 refine lin_bound (fun K hK=> ?_)
 go_simp
 refine(HC5.out W5 HO.out).mono ?_
 rintro e W6 ⟨rfl,h1,k1⟩
 have KS5:=Hd.mk k1
 have hb1:Blk W6 H 94 [.int .i64 0, .int .i64 0, .int .i64 0, .string ⟨#[]⟩, .int .i64 0, .int .i64 0]:=k1.blk HB.out (fun c=>by have h1:=HL.out.1;have h2:=HL.out.2.1;have h3:=HHs.out;rcases c with c | c<;>omega)
 refine hK.out _ _ ⟨h1.var.at (j:=0) rfl,h1.own.at (j:=0) rfl⟩ ?_
 have HB2:=Hd.mk hb1
 have HO2:=Hd.mk h1
 have HK2:=Hd.mk (HK.out.trans k1)
 clear hK K h1 k1 hb1 HB HO HK
 have HB:=HB2
 have HO:=HO2
 have HK:=HK2
 clear HB2 HO2 HK2
 repeat
  refine lin_free (v:= ?_) (by rfl) ?_ ?_
  rotate_left
  ·intro w' hSw
   have d0:=hSw.1
   have d1:=hSw.2
   clear hSw
   go_simp
   first | done | with_reducible rfl
  simp only[Act.put,List.setIfInBounds_toArray,List.set_cons_zero,List.set_cons_succ]
 refine lin_bound (fun K hK=> ?_)
 have hb2:Blk (W6.setCells H 0 [.int .i64 a0.1, .int .i64 a1.1, .int .i64 a2.1, .string a3.1, .int .i64 a4.1, .int .i64 a5.1]) H 94 [.int .i64 a0.1, .int .i64 a1.1, .int .i64 a2.1, .string a3.1, .int .i64 a4.1, .int .i64 a5.1]:=by
  have:=Blk.setAll [.int .i64 a0.1, .int .i64 a1.1, .int .i64 a2.1, .string a3.1, .int .i64 a4.1, .int .i64 a5.1] 0 [.int .i64 0, .int .i64 0, .int .i64 0, .string ⟨#[]⟩, .int .i64 0, .int .i64 0] HB.out rfl
  simpa using this
 have hk2:=keeps_setAll H [.int .i64 a0.1, .int .i64 a1.1, .int .i64 a2.1, .string a3.1, .int .i64 a4.1, .int .i64 a5.1] 0 W6
 have hnb:∀g,g<w.heap.size→¬g=H:=fun g hg c=>by have:=HHs.out;omega
 have ho2:OrW (W6.setCells H 0 [.int .i64 a0.1, .int .i64 a1.1, .int .i64 a2.1, .string a3.1, .int .i64 a4.1, .int .i64 a5.1]) b br bv a5.2:=HO.out.keep hk2 (hnb _ HL.out.1) (hnb _ HL.out.2.1) (hnb _ HL.out.2.2)
 have HB2:=Hd.mk hb2
 have HK2:Hd (Keeps (Two b br) w (W6.setCells H 0 [.int .i64 a0.1, .int .i64 a1.1, .int .i64 a2.1, .string a3.1, .int .i64 a4.1, .int .i64 a5.1])):=⟨HK.out.new hk2 (fun g c=> .inr (by have:=HHs.out;omega))⟩
 have HO2:=Hd.mk ho2
 have HI:Hd ((Tryz.prog.info? 94).map (·.size)=some 6):=⟨by kernel_rfl⟩
 have HT:Hd (W6.there H 0 6):=⟨fun j hj=>⟨by
  rw[Nat.zero_add,HB.out.cell]
  have:j< [(0:Nat),(0:Nat),(0:Nat),(0:Nat),(0:Nat),(0:Nat)].length:=hj
  rcases j with _ | _ | _ | _ | _ | _ | j<;>first | rfl | (simp at this;omega),HB.out.free _⟩⟩
 have HKs:=Hd.mk hk2
 clear hb2 ho2 hnb hk2
 have HON:Hd (∀u∈([.int .i64 a0.1, .int .i64 a1.1, .int .i64 a2.1, .string a3.1, .int .i64 a4.1, .int .i64 a5.1]:List Value),u.oneCell'=true):=⟨by intro u hu;simp only[List.mem_cons,List.not_mem_nil,or_false] at hu;rcases hu with rfl | rfl | rfl | rfl | rfl | rfl<;>rfl⟩
 refine wanted_step (by kernel_rfl) ?_
 refine wp_store_mid 94 _ _ rfl H 0 #[.int .i64 a0.1, .int .i64 a1.1, .int .i64 a2.1, .string a3.1, .int .i64 a4.1, .int .i64 a5.1] rfl rfl HT.out HI.out (all_oneCell_toArray HON.out) ?_
 refine hK.out _ _ ⟨HO2.out.var.at (j:=0) rfl,HO2.out.own.at (j:=0) rfl⟩ ?_
 clear hK K
 refine NoPanic.normal ?_
 simp only[Exit.then,Act.put]
 rename_i Q0 K0 hret
 refine hret _ _ (Go.wp_ret ?_)
 show bodyPost _ _ _ _ _ _
 refine bodyPost_ret (results_cell_row rfl _ _ H 94 _ (0,0) _ rfl HB2.out.is Tryz.underlying94 rfl (by kernel_rfl)) rfl ?_
 exact⟨[.int .i64 a0.1, .int .i64 a1.1, .int .i64 a2.1, .string a3.1, .int .i64 a4.1, .int .i64 a5.1],rfl,rfl,HON.out,Std.of (fun _=>rfl) _,HO2.out,HK2.out⟩
theorem rVrr_fn {b br bv:Nat}:FnR Vrr.E 6 Vrr.rd b br bv 52 #[.pointer (some ⟨bv,0,none⟩)]:=
 ⟨enters_of Tryz.func52 rfl rfl,fun w st h hl=>rVrr_any w b br bv st h hl,Vrr.rd_len⟩
end Go.Proofs.YtfaepbjnpakghaaGreatDoor.W
