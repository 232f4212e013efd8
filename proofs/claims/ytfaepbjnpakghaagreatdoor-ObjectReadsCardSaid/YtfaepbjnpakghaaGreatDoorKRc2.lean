import Derived.Deep.MidRow
import Derived.Test.YtfaepbjnpakghaaGreatDoorKae
import Derived.Test.YtfaepbjnpakghaaGreatDoorKac
import Derived.Test.YtfaepbjnpakghaaGreatDoorKRc1
/- The walks of the functions that Read hands to read (printed by tools/gen_rcl.py). -/
namespace Go.Proofs.YtfaepbjnpakghaaGreatDoor.W
open Go.RowKit
set_option linter.unusedVariables false
set_option linter.unusedSimpArgs false
theorem Sec.rd_len (st:Rs):(Sec.rd st).2.rest.length≤st.rest.length:=by
 unfold Sec.rd
 dsimp only
 have h0:=text_rest st
 have h1:=num_len (textD st).2
 have h2:=num_len (numD (textD st).2).2
 have h3:=num_len (numD (numD (textD st).2).2).2
 have h4:=text_rest (numD (numD (numD (textD st).2).2).2).2
 have h5:=truth_len (textD (numD (numD (numD (textD st).2).2).2).2).2
 omega
set_option maxRecDepth 100000 in
set_option maxHeartbeats 4000000 in
theorem rSec_any (w:World) (b br bv:Nat) (st:Rs) (h:OrW w b br bv st) (hl:st.rest.length≤1000000000):
 Calls Tryz.prog 34 #[.pointer (some ⟨bv,0,none⟩)] w fun e w'=>∃cs,e= .returned (.agg cs.toArray)∧Rdn Sec.E 6 b br bv w (Sec.rd st).1 (Sec.rd st).2 cs w':=by
 obtain⟨a0,ha0⟩:∃a,textD st=a:=⟨_,rfl⟩
 obtain⟨a1,ha1⟩:∃a,numD a0.2=a:=⟨_,rfl⟩
 obtain⟨a2,ha2⟩:∃a,numD a1.2=a:=⟨_,rfl⟩
 obtain⟨a3,ha3⟩:∃a,numD a2.2=a:=⟨_,rfl⟩
 obtain⟨a4,ha4⟩:∃a,textD a3.2=a:=⟨_,rfl⟩
 obtain⟨a5,ha5⟩:∃a,truthD a4.2=a:=⟨_,rfl⟩
 have hE:Sec.rd st=(⟨a0.1,a1.1,a2.1,a3.1,a4.1,a5.1⟩,a5.2):=by simp only[Sec.rd,ha0,ha1,ha2,ha3,ha4,ha5]
 rw[hE]
 have l0:=text_rest st
 rw[ha0] at l0
 have r0:=Nat.le_trans l0 hl
 have HC0:=Hd.mk (fun w1 (h1:OrW w1 b br bv st)=>oText_any h1 hl)
 rw[ha0] at HC0
 have l1:=num_len a0.2
 rw[ha1] at l1
 have r1:=Nat.le_trans l1 r0
 have HC1:=Hd.mk (fun w1 (h1:OrW w1 b br bv a0.2)=>oNum_any h1 r0)
 rw[ha1] at HC1
 have l2:=num_len a1.2
 rw[ha2] at l2
 have r2:=Nat.le_trans l2 r1
 have HC2:=Hd.mk (fun w1 (h1:OrW w1 b br bv a1.2)=>oNum_any h1 r1)
 rw[ha2] at HC2
 have l3:=num_len a2.2
 rw[ha3] at l3
 have r3:=Nat.le_trans l3 r2
 have HC3:=Hd.mk (fun w1 (h1:OrW w1 b br bv a2.2)=>oNum_any h1 r2)
 rw[ha3] at HC3
 have l4:=text_rest a3.2
 rw[ha4] at l4
 have r4:=Nat.le_trans l4 r3
 have HC4:=Hd.mk (fun w1 (h1:OrW w1 b br bv a3.2)=>oText_any h1 r3)
 rw[ha4] at HC4
 have l5:=truth_len a4.2
 rw[ha5] at l5
 have r5:=Nat.le_trans l5 r4
 have HC5:=Hd.mk (fun w1 (h1:OrW w1 b br bv a4.2)=>oTruth_any h1 r4)
 rw[ha5] at HC5
 have hX:=Blk.new w 47 [.string ⟨#[]⟩, .int .i64 0, .int .i64 0, .int .i64 0, .string ⟨#[]⟩, .bool false]
 have HB0:=Hd.mk hX
 have hS:((w.alloc (.cells #[.string ⟨#[]⟩, .int .i64 0, .int .i64 0, .int .i64 0, .string ⟨#[]⟩, .bool false] 47)).drew.cell? ⟨bv,0,none⟩=some (.pointer (some ⟨br,0,none⟩)))∧(w.alloc (.cells #[.string ⟨#[]⟩, .int .i64 0, .int .i64 0, .int .i64 0, .string ⟨#[]⟩, .bool false] 47)).drew.cell? ⟨br,0,none⟩=some (.pointer (some ⟨b,0,none⟩)):=⟨(h.alloc _).drew.var.at (j:=0) rfl,(h.alloc _).drew.own.at (j:=0) rfl⟩
 have HO:Hd (OrW (w.alloc (.cells #[.string ⟨#[]⟩, .int .i64 0, .int .i64 0, .int .i64 0, .string ⟨#[]⟩, .bool false] 47)).drew b br bv st):=⟨(h.alloc _).drew⟩
 have HK:Hd (Keeps (Two b br) w (w.alloc (.cells #[.string ⟨#[]⟩, .int .i64 0, .int .i64 0, .int .i64 0, .string ⟨#[]⟩, .bool false] 47)).drew):=⟨((Keeps.refl (Two b br) w).alloc _).drew⟩
 have HB:Hd (Blk (w.alloc (.cells #[.string ⟨#[]⟩, .int .i64 0, .int .i64 0, .int .i64 0, .string ⟨#[]⟩, .bool false] 47)).drew w.heap.size 47 [.string ⟨#[]⟩, .int .i64 0, .int .i64 0, .int .i64 0, .string ⟨#[]⟩, .bool false]):=⟨HB0.out.drew⟩
 have HL:Hd (b<w.heap.size∧br<w.heap.size∧bv<w.heap.size):=⟨⟨h.rd.blk.lt,h.own.lt,h.var.lt⟩⟩
 have HN2:Hd (b≠bv∧br≠bv):=⟨⟨h.ne2,h.ne3⟩⟩
 clear hX HB0 h hl hE l0 r0 ha0 l1 r1 ha1 l2 r2 ha2 l3 r3 ha3 l4 r4 ha4 l5 r5 ha5
 obtain⟨H,hH⟩:∃H,w.heap.size=H:=⟨_,rfl⟩
 have HHs:=Hd.mk hH
 go_enter Tryz.func34,Tryz.ntmps34
 go_wp2_with fail
 rw[hH] at HB
 obtain⟨W0,hW0⟩:∃W0,(w.alloc (.cells #[.string ⟨#[]⟩, .int .i64 0, .int .i64 0, .int .i64 0, .string ⟨#[]⟩, .bool false] 47)).drew=W0:=⟨_,rfl⟩
 rw[hW0] at HO HK HB hS
 refine wp_region_lin default (fun w'=>w'.cell? ⟨bv,0,none⟩=some (.pointer (some ⟨br,0,none⟩))∧w'.cell? ⟨br,0,none⟩=some (.pointer (some ⟨b,0,none⟩))) [(0,true),(1,true),(2,true),(3,true),(5,true),(6,true),(7,true),(8,true),(10,true),(11,true),(12,true),(13,true),(15,true),(16,true),(17,true),(18,true),(20,true),(21,true),(22,true),(23,true),(25,true),(4,false),(9,false),(14,false),(19,false),(24,false),(26,false),(27,true),(28,false)] (by kernel_rfl) (by kernel_rfl) rfl (by kernel_rfl) (by kernel_rfl) (by rw[hW0];exact hS) ?_
 rw[hW0]
 simp only[pick,List.getD_cons_zero,List.getD_cons_succ]
 clear hS hH hW0
 repeat
  refine lin_free (v:= ?_) (by rfl) ?_ ?_
  rotate_left
  ·intro w' hSw
   have d0:=hSw.1
   have d1:=hSw.2
   clear hSw
   go_simp
   first | done | with_reducible rfl
  simp only[Act.put,List.setIfInBounds_toArray,List.set_cons_zero,List.set_cons_succ]
 refine lin_bound (fun K hK=> ?_)
 go_simp
 refine(HC0.out W0 HO.out).mono ?_
 rintro e W1 ⟨rfl,h1,k1⟩
 have KS0:=Hd.mk k1
 have hb1:Blk W1 H 47 [.string ⟨#[]⟩, .int .i64 0, .int .i64 0, .int .i64 0, .string ⟨#[]⟩, .bool false]:=k1.blk HB.out (fun c=>by have h1:=HL.out.1;have h2:=HL.out.2.1;have h3:=HHs.out;rcases c with c | c<;>omega)
 refine hK.out _ _ ⟨h1.var.at (j:=0) rfl,h1.own.at (j:=0) rfl⟩ ?_
 have HB2:=Hd.mk hb1
 have HO2:=Hd.mk h1
 have HK2:=Hd.mk (HK.out.trans k1)
 clear hK K h1 k1 hb1 HB HO HK
 have HB:=HB2
 have HO:=HO2
 have HK:=HK2
 clear HB2 HO2 HK2
 refine lin_bound (fun K hK=> ?_)
 go_simp
 refine(HC1.out W1 HO.out).mono ?_
 rintro e W2 ⟨rfl,h1,k1⟩
 have KS1:=Hd.mk k1
 have hb1:Blk W2 H 47 [.string ⟨#[]⟩, .int .i64 0, .int .i64 0, .int .i64 0, .string ⟨#[]⟩, .bool false]:=k1.blk HB.out (fun c=>by have h1:=HL.out.1;have h2:=HL.out.2.1;have h3:=HHs.out;rcases c with c | c<;>omega)
 refine hK.out _ _ ⟨h1.var.at (j:=0) rfl,h1.own.at (j:=0) rfl⟩ ?_
 have HB2:=Hd.mk hb1
 have HO2:=Hd.mk h1
 have HK2:=Hd.mk (HK.out.trans k1)
 clear hK K h1 k1 hb1 HB HO HK
 have HB:=HB2
 have HO:=HO2
 have HK:=HK2
 clear HB2 HO2 HK2
 refine lin_bound (fun K hK=> ?_)
 go_simp
 refine(HC2.out W2 HO.out).mono ?_
 rintro e W3 ⟨rfl,h1,k1⟩
 have KS2:=Hd.mk k1
 have hb1:Blk W3 H 47 [.string ⟨#[]⟩, .int .i64 0, .int .i64 0, .int .i64 0, .string ⟨#[]⟩, .bool false]:=k1.blk HB.out (fun c=>by have h1:=HL.out.1;have h2:=HL.out.2.1;have h3:=HHs.out;rcases c with c | c<;>omega)
 refine hK.out _ _ ⟨h1.var.at (j:=0) rfl,h1.own.at (j:=0) rfl⟩ ?_
 have HB2:=Hd.mk hb1
 have HO2:=Hd.mk h1
 have HK2:=Hd.mk (HK.out.trans k1)
 clear hK K h1 k1 hb1 HB HO HK
 have HB:=HB2
 have HO:=HO2
 have HK:=HK2
 clear HB2 HO2 HK2
 refine lin_bound (fun K hK=> ?_)
 go_simp
 refine(HC3.out W3 HO.out).mono ?_
 rintro e W4 ⟨rfl,h1,k1⟩
 have KS3:=Hd.mk k1
 have hb1:Blk W4 H 47 [.string ⟨#[]⟩, .int .i64 0, .int .i64 0, .int .i64 0, .string ⟨#[]⟩, .bool false]:=k1.blk HB.out (fun c=>by have h1:=HL.out.1;have h2:=HL.out.2.1;have h3:=HHs.out;rcases c with c | c<;>omega)
 refine hK.out _ _ ⟨h1.var.at (j:=0) rfl,h1.own.at (j:=0) rfl⟩ ?_
 have HB2:=Hd.mk hb1
 have HO2:=Hd.mk h1
 have HK2:=Hd.mk (HK.out.trans k1)
 clear hK K h1 k1 hb1 HB HO HK
 have HB:=HB2
 have HO:=HO2
 have HK:=HK2
 clear HB2 HO2 HK2
 refine lin_bound (fun K hK=> ?_)
 go_simp
 refine(HC4.out W4 HO.out).mono ?_
 rintro e W5 ⟨rfl,h1,k1⟩
 have KS4:=Hd.mk k1
 have hb1:Blk W5 H 47 [.string ⟨#[]⟩, .int .i64 0, .int .i64 0, .int .i64 0, .string ⟨#[]⟩, .bool false]:=k1.blk HB.out (fun c=>by have h1:=HL.out.1;have h2:=HL.out.2.1;have h3:=HHs.out;rcases c with c | c<;>omega)
 refine hK.out _ _ ⟨h1.var.at (j:=0) rfl,h1.own.at (j:=0) rfl⟩ ?_
 have HB2:=Hd.mk hb1
 have HO2:=Hd.mk h1
 have HK2:=Hd.mk (HK.out.trans k1)
 clear hK K h1 k1 hb1 HB HO HK
 have HB:=HB2
 have HO:=HO2
 have HK:=HK2
 clear HB2 HO2 HK2
 refine lin_bound (fun K hK=> ?_)
 go_simp
 refine(HC5.out W5 HO.out).mono ?_
 rintro e W6 ⟨rfl,h1,k1⟩
 have KS5:=Hd.mk k1
 have hb1:Blk W6 H 47 [.string ⟨#[]⟩, .int .i64 0, .int .i64 0, .int .i64 0, .string ⟨#[]⟩, .bool false]:=k1.blk HB.out (fun c=>by have h1:=HL.out.1;have h2:=HL.out.2.1;have h3:=HHs.out;rcases c with c | c<;>omega)
 refine hK.out _ _ ⟨h1.var.at (j:=0) rfl,h1.own.at (j:=0) rfl⟩ ?_
 have HB2:=Hd.mk hb1
 have HO2:=Hd.mk h1
 have HK2:=Hd.mk (HK.out.trans k1)
 clear hK K h1 k1 hb1 HB HO HK
 have HB:=HB2
 have HO:=HO2
 have HK:=HK2
 clear HB2 HO2 HK2
 repeat
  refine lin_free (v:= ?_) (by rfl) ?_ ?_
  rotate_left
  ·intro w' hSw
   have d0:=hSw.1
   have d1:=hSw.2
   clear hSw
   go_simp
   first | done | with_reducible rfl
  simp only[Act.put,List.setIfInBounds_toArray,List.set_cons_zero,List.set_cons_succ]
 refine lin_bound (fun K hK=> ?_)
 have hb2:Blk (W6.setCells H 0 [.string a0.1, .int .i64 a1.1, .int .i64 a2.1, .int .i64 a3.1, .string a4.1, .bool a5.1]) H 47 [.string a0.1, .int .i64 a1.1, .int .i64 a2.1, .int .i64 a3.1, .string a4.1, .bool a5.1]:=by
  have:=Blk.setAll [.string a0.1, .int .i64 a1.1, .int .i64 a2.1, .int .i64 a3.1, .string a4.1, .bool a5.1] 0 [.string ⟨#[]⟩, .int .i64 0, .int .i64 0, .int .i64 0, .string ⟨#[]⟩, .bool false] HB.out rfl
  simpa using this
 have hk2:=keeps_setAll H [.string a0.1, .int .i64 a1.1, .int .i64 a2.1, .int .i64 a3.1, .string a4.1, .bool a5.1] 0 W6
 have hnb:∀g,g<w.heap.size→¬g=H:=fun g hg c=>by have:=HHs.out;omega
 have ho2:OrW (W6.setCells H 0 [.string a0.1, .int .i64 a1.1, .int .i64 a2.1, .int .i64 a3.1, .string a4.1, .bool a5.1]) b br bv a5.2:=HO.out.keep hk2 (hnb _ HL.out.1) (hnb _ HL.out.2.1) (hnb _ HL.out.2.2)
 have HB2:=Hd.mk hb2
 have HK2:Hd (Keeps (Two b br) w (W6.setCells H 0 [.string a0.1, .int .i64 a1.1, .int .i64 a2.1, .int .i64 a3.1, .string a4.1, .bool a5.1])):=⟨HK.out.new hk2 (fun g c=> .inr (by have:=HHs.out;omega))⟩
 have HO2:=Hd.mk ho2
 have HI:Hd ((Tryz.prog.info? 47).map (·.size)=some 6):=⟨by kernel_rfl⟩
 have HT:Hd (W6.there H 0 6):=⟨fun j hj=>⟨by
  rw[Nat.zero_add,HB.out.cell]
  have:j< [(0:Nat),(0:Nat),(0:Nat),(0:Nat),(0:Nat),(0:Nat)].length:=hj
  rcases j with _ | _ | _ | _ | _ | _ | j<;>first | rfl | (simp at this;omega),HB.out.free _⟩⟩
 have HKs:=Hd.mk hk2
 clear hb2 ho2 hnb hk2
 have HON:Hd (∀u∈([.string a0.1, .int .i64 a1.1, .int .i64 a2.1, .int .i64 a3.1, .string a4.1, .bool a5.1]:List Value),u.oneCell'=true):=⟨by intro u hu;simp only[List.mem_cons,List.not_mem_nil,or_false] at hu;rcases hu with rfl | rfl | rfl | rfl | rfl | rfl<;>rfl⟩
 refine wanted_step (by kernel_rfl) ?_
 refine wp_store_mid 47 _ _ rfl H 0 #[.string a0.1, .int .i64 a1.1, .int .i64 a2.1, .int .i64 a3.1, .string a4.1, .bool a5.1] rfl rfl HT.out HI.out (all_oneCell_toArray HON.out) ?_
 refine hK.out _ _ ⟨HO2.out.var.at (j:=0) rfl,HO2.out.own.at (j:=0) rfl⟩ ?_
 clear hK K
 refine NoPanic.normal ?_
 simp only[Exit.then,Act.put]
 rename_i Q0 K0 hret
 refine hret _ _ (Go.wp_ret ?_)
 show bodyPost _ _ _ _ _ _
 refine bodyPost_ret (results_cell_row rfl _ _ H 47 _ (0,0) _ rfl HB2.out.is Tryz.underlying47 rfl (by kernel_rfl)) rfl ?_
 exact⟨[.string a0.1, .int .i64 a1.1, .int .i64 a2.1, .int .i64 a3.1, .string a4.1, .bool a5.1],rfl,rfl,HON.out,Std.of (fun _=>rfl) _,HO2.out,HK2.out⟩
theorem rSec_fn {b br bv:Nat}:FnR Sec.E 6 Sec.rd b br bv 34 #[.pointer (some ⟨bv,0,none⟩)]:=
 ⟨enters_of Tryz.func34 rfl rfl,fun w st h hl=>rSec_any w b br bv st h hl,Sec.rd_len⟩
theorem Lne.rd_len (st:Rs):(Lne.rd st).2.rest.length≤st.rest.length:=by
 unfold Lne.rd
 dsimp only
 have h0:=num_len st
 have h1:=num_len (numD st).2
 have h2:=text_rest (numD (numD st).2).2
 have h3:=num_len (textD (numD (numD st).2).2).2
 omega
set_option maxRecDepth 100000 in
set_option maxHeartbeats 4000000 in
theorem rLne_any (w:World) (b br bv:Nat) (st:Rs) (h:OrW w b br bv st) (hl:st.rest.length≤1000000000):
 Calls Tryz.prog 48 #[.pointer (some ⟨bv,0,none⟩)] w fun e w'=>∃cs,e= .returned (.agg cs.toArray)∧Rdn Lne.E 4 b br bv w (Lne.rd st).1 (Lne.rd st).2 cs w':=by
 obtain⟨a0,ha0⟩:∃a,numD st=a:=⟨_,rfl⟩
 obtain⟨a1,ha1⟩:∃a,numD a0.2=a:=⟨_,rfl⟩
 obtain⟨a2,ha2⟩:∃a,textD a1.2=a:=⟨_,rfl⟩
 obtain⟨a3,ha3⟩:∃a,numD a2.2=a:=⟨_,rfl⟩
 have hE:Lne.rd st=(⟨a0.1,a1.1,a2.1,a3.1⟩,a3.2):=by simp only[Lne.rd,ha0,ha1,ha2,ha3]
 rw[hE]
 have l0:=num_len st
 rw[ha0] at l0
 have r0:=Nat.le_trans l0 hl
 have HC0:=Hd.mk (fun w1 (h1:OrW w1 b br bv st)=>oNum_any h1 hl)
 rw[ha0] at HC0
 have l1:=num_len a0.2
 rw[ha1] at l1
 have r1:=Nat.le_trans l1 r0
 have HC1:=Hd.mk (fun w1 (h1:OrW w1 b br bv a0.2)=>oNum_any h1 r0)
 rw[ha1] at HC1
 have l2:=text_rest a1.2
 rw[ha2] at l2
 have r2:=Nat.le_trans l2 r1
 have HC2:=Hd.mk (fun w1 (h1:OrW w1 b br bv a1.2)=>oText_any h1 r1)
 rw[ha2] at HC2
 have l3:=num_len a2.2
 rw[ha3] at l3
 have r3:=Nat.le_trans l3 r2
 have HC3:=Hd.mk (fun w1 (h1:OrW w1 b br bv a2.2)=>oNum_any h1 r2)
 rw[ha3] at HC3
 have hX:=Blk.new w 57 [.int .i64 0, .int .i64 0, .string ⟨#[]⟩, .int .i64 0]
 have HB0:=Hd.mk hX
 have hS:((w.alloc (.cells #[.int .i64 0, .int .i64 0, .string ⟨#[]⟩, .int .i64 0] 57)).drew.cell? ⟨bv,0,none⟩=some (.pointer (some ⟨br,0,none⟩)))∧(w.alloc (.cells #[.int .i64 0, .int .i64 0, .string ⟨#[]⟩, .int .i64 0] 57)).drew.cell? ⟨br,0,none⟩=some (.pointer (some ⟨b,0,none⟩)):=⟨(h.alloc _).drew.var.at (j:=0) rfl,(h.alloc _).drew.own.at (j:=0) rfl⟩
 have HO:Hd (OrW (w.alloc (.cells #[.int .i64 0, .int .i64 0, .string ⟨#[]⟩, .int .i64 0] 57)).drew b br bv st):=⟨(h.alloc _).drew⟩
 have HK:Hd (Keeps (Two b br) w (w.alloc (.cells #[.int .i64 0, .int .i64 0, .string ⟨#[]⟩, .int .i64 0] 57)).drew):=⟨((Keeps.refl (Two b br) w).alloc _).drew⟩
 have HB:Hd (Blk (w.alloc (.cells #[.int .i64 0, .int .i64 0, .string ⟨#[]⟩, .int .i64 0] 57)).drew w.heap.size 57 [.int .i64 0, .int .i64 0, .string ⟨#[]⟩, .int .i64 0]):=⟨HB0.out.drew⟩
 have HL:Hd (b<w.heap.size∧br<w.heap.size∧bv<w.heap.size):=⟨⟨h.rd.blk.lt,h.own.lt,h.var.lt⟩⟩
 have HN2:Hd (b≠bv∧br≠bv):=⟨⟨h.ne2,h.ne3⟩⟩
 clear hX HB0 h hl hE l0 r0 ha0 l1 r1 ha1 l2 r2 ha2 l3 r3 ha3
 obtain⟨H,hH⟩:∃H,w.heap.size=H:=⟨_,rfl⟩
 have HHs:=Hd.mk hH
 go_enter Tryz.func48,Tryz.ntmps48
 go_wp2_with fail
 rw[hH] at HB
 obtain⟨W0,hW0⟩:∃W0,(w.alloc (.cells #[.int .i64 0, .int .i64 0, .string ⟨#[]⟩, .int .i64 0] 57)).drew=W0:=⟨_,rfl⟩
 rw[hW0] at HO HK HB hS
 refine wp_region_lin default (fun w'=>w'.cell? ⟨bv,0,none⟩=some (.pointer (some ⟨br,0,none⟩))∧w'.cell? ⟨br,0,none⟩=some (.pointer (some ⟨b,0,none⟩))) [(0,true),(1,true),(2,true),(3,true),(5,true),(6,true),(7,true),(8,true),(10,true),(11,true),(12,true),(13,true),(15,true),(16,true),(17,true),(18,true),(4,false),(9,false),(14,false),(19,false),(20,true),(21,false)] (by kernel_rfl) (by kernel_rfl) rfl (by kernel_rfl) (by kernel_rfl) (by rw[hW0];exact hS) ?_
 rw[hW0]
 simp only[pick,List.getD_cons_zero,List.getD_cons_succ]
 clear hS hH hW0
 repeat
  refine lin_free (v:= ?_) (by rfl) ?_ ?_
  rotate_left
  ·intro w' hSw
   have d0:=hSw.1
   have d1:=hSw.2
   clear hSw
   go_simp
   first | done | with_reducible rfl
  simp only[Act.put,List.setIfInBounds_toArray,List.set_cons_zero,List.set_cons_succ]
 refine lin_bound (fun K hK=> ?_)
 go_simp
 refine(HC0.out W0 HO.out).mono ?_
 rintro e W1 ⟨rfl,h1,k1⟩
 have KS0:=Hd.mk k1
 have hb1:Blk W1 H 57 [.int .i64 0, .int .i64 0, .string ⟨#[]⟩, .int .i64 0]:=k1.blk HB.out (fun c=>by have h1:=HL.out.1;have h2:=HL.out.2.1;have h3:=HHs.out;rcases c with c | c<;>omega)
 refine hK.out _ _ ⟨h1.var.at (j:=0) rfl,h1.own.at (j:=0) rfl⟩ ?_
 have HB2:=Hd.mk hb1
 have HO2:=Hd.mk h1
 have HK2:=Hd.mk (HK.out.trans k1)
 clear hK K h1 k1 hb1 HB HO HK
 have HB:=HB2
 have HO:=HO2
 have HK:=HK2
 clear HB2 HO2 HK2
 refine lin_bound (fun K hK=> ?_)
 go_simp
 refine(HC1.out W1 HO.out).mono ?_
 rintro e W2 ⟨rfl,h1,k1⟩
 have KS1:=Hd.mk k1
 have hb1:Blk W2 H 57 [.int .i64 0, .int .i64 0, .string ⟨#[]⟩, .int .i64 0]:=k1.blk HB.out (fun c=>by have h1:=HL.out.1;have h2:=HL.out.2.1;have h3:=HHs.out;rcases c with c | c<;>omega)
 refine hK.out _ _ ⟨h1.var.at (j:=0) rfl,h1.own.at (j:=0) rfl⟩ ?_
 have HB2:=Hd.mk hb1
 have HO2:=Hd.mk h1
 have HK2:=Hd.mk (HK.out.trans k1)
 clear hK K h1 k1 hb1 HB HO HK
 have HB:=HB2
 have HO:=HO2
 have HK:=HK2
 clear HB2 HO2 HK2
 refine lin_bound (fun K hK=> ?_)
 go_simp
 refine(HC2.out W2 HO.out).mono ?_
 rintro e W3 ⟨rfl,h1,k1⟩
 have KS2:=Hd.mk k1
 have hb1:Blk W3 H 57 [.int .i64 0, .int .i64 0, .string ⟨#[]⟩, .int .i64 0]:=k1.blk HB.out (fun c=>by have h1:=HL.out.1;have h2:=HL.out.2.1;have h3:=HHs.out;rcases c with c | c<;>omega)
 refine hK.out _ _ ⟨h1.var.at (j:=0) rfl,h1.own.at (j:=0) rfl⟩ ?_
 have HB2:=Hd.mk hb1
 have HO2:=Hd.mk h1
 have HK2:=Hd.mk (HK.out.trans k1)
 clear hK K h1 k1 hb1 HB HO HK
 have HB:=HB2
 have HO:=HO2
 have HK:=HK2
 clear HB2 HO2 HK2
 refine lin_bound (fun K hK=> ?_)
 go_simp
 refine(HC3.out W3 HO.out).mono ?_
 rintro e W4 ⟨rfl,h1,k1⟩
 have KS3:=Hd.mk k1
 have hb1:Blk W4 H 57 [.int .i64 0, .int .i64 0, .string ⟨#[]⟩, .int .i64 0]:=k1.blk HB.out (fun c=>by have h1:=HL.out.1;have h2:=HL.out.2.1;have h3:=HHs.out;rcases c with c | c<;>omega)
 refine hK.out _ _ ⟨h1.var.at (j:=0) rfl,h1.own.at (j:=0) rfl⟩ ?_
 have HB2:=Hd.mk hb1
 have HO2:=Hd.mk h1
 have HK2:=Hd.mk (HK.out.trans k1)
 clear hK K h1 k1 hb1 HB HO HK
 have HB:=HB2
 have HO:=HO2
 have HK:=HK2
 clear HB2 HO2 HK2
 repeat
  refine lin_free (v:= ?_) (by rfl) ?_ ?_
  rotate_left
  ·intro w' hSw
   have d0:=hSw.1
   have d1:=hSw.2
   clear hSw
   go_simp
   first | done | with_reducible rfl
  simp only[Act.put,List.setIfInBounds_toArray,List.set_cons_zero,List.set_cons_succ]
 refine lin_bound (fun K hK=> ?_)
 have hb2:Blk (W4.setCells H 0 [.int .i64 a0.1, .int .i64 a1.1, .string a2.1, .int .i64 a3.1]) H 57 [.int .i64 a0.1, .int .i64 a1.1, .string a2.1, .int .i64 a3.1]:=by
  have:=Blk.setAll [.int .i64 a0.1, .int .i64 a1.1, .string a2.1, .int .i64 a3.1] 0 [.int .i64 0, .int .i64 0, .string ⟨#[]⟩, .int .i64 0] HB.out rfl
  simpa using this
 have hk2:=keeps_setAll H [.int .i64 a0.1, .int .i64 a1.1, .string a2.1, .int .i64 a3.1] 0 W4
 have hnb:∀g,g<w.heap.size→¬g=H:=fun g hg c=>by have:=HHs.out;omega
 have ho2:OrW (W4.setCells H 0 [.int .i64 a0.1, .int .i64 a1.1, .string a2.1, .int .i64 a3.1]) b br bv a3.2:=HO.out.keep hk2 (hnb _ HL.out.1) (hnb _ HL.out.2.1) (hnb _ HL.out.2.2)
 have HB2:=Hd.mk hb2
 have HK2:Hd (Keeps (Two b br) w (W4.setCells H 0 [.int .i64 a0.1, .int .i64 a1.1, .string a2.1, .int .i64 a3.1])):=⟨HK.out.new hk2 (fun g c=> .inr (by have:=HHs.out;omega))⟩
 have HO2:=Hd.mk ho2
 have HI:Hd ((Tryz.prog.info? 57).map (·.size)=some 4):=⟨by kernel_rfl⟩
 have HT:Hd (W4.there H 0 4):=⟨fun j hj=>⟨by
  rw[Nat.zero_add,HB.out.cell]
  have:j< [(0:Nat),(0:Nat),(0:Nat),(0:Nat)].length:=hj
  rcases j with _ | _ | _ | _ | j<;>first | rfl | (simp at this;omega),HB.out.free _⟩⟩
 have HKs:=Hd.mk hk2
 clear hb2 ho2 hnb hk2
 have HON:Hd (∀u∈([.int .i64 a0.1, .int .i64 a1.1, .string a2.1, .int .i64 a3.1]:List Value),u.oneCell'=true):=⟨by intro u hu;simp only[List.mem_cons,List.not_mem_nil,or_false] at hu;rcases hu with rfl | rfl | rfl | rfl<;>rfl⟩
 refine wanted_step (by kernel_rfl) ?_
 refine wp_store_mid 57 _ _ rfl H 0 #[.int .i64 a0.1, .int .i64 a1.1, .string a2.1, .int .i64 a3.1] rfl rfl HT.out HI.out (all_oneCell_toArray HON.out) ?_
 refine hK.out _ _ ⟨HO2.out.var.at (j:=0) rfl,HO2.out.own.at (j:=0) rfl⟩ ?_
 clear hK K
 refine NoPanic.normal ?_
 simp only[Exit.then,Act.put]
 rename_i Q0 K0 hret
 refine hret _ _ (Go.wp_ret ?_)
 show bodyPost _ _ _ _ _ _
 refine bodyPost_ret (results_cell_row rfl _ _ H 57 _ (0,0) _ rfl HB2.out.is Tryz.underlying57 rfl (by kernel_rfl)) rfl ?_
 exact⟨[.int .i64 a0.1, .int .i64 a1.1, .string a2.1, .int .i64 a3.1],rfl,rfl,HON.out,Std.of (fun _=>rfl) _,HO2.out,HK2.out⟩
theorem rLne_fn {b br bv:Nat}:FnR Lne.E 4 Lne.rd b br bv 48 #[.pointer (some ⟨bv,0,none⟩)]:=
 ⟨enters_of Tryz.func48 rfl rfl,fun w st h hl=>rLne_any w b br bv st h hl,Lne.rd_len⟩
theorem Cnv.rd_len (st:Rs):(Cnv.rd st).2.rest.length≤st.rest.length:=by
 unfold Cnv.rd
 dsimp only
 have h0:=num_len st
 have h1:=text_rest (numD st).2
 have h2:=listD_len Pce.rd_len (textD (numD st).2).2
 have h3:=int_len ((listD Pce.rd) (textD (numD st).2).2).2
 omega
set_option maxRecDepth 100000 in
set_option maxHeartbeats 4000000 in
theorem rCnv_any (w:World) (b br bv:Nat) (st:Rs) (h:OrW w b br bv st) (hl:st.rest.length≤1000000000):
 Calls Tryz.prog 56 #[.pointer (some ⟨bv,0,none⟩)] w fun e w'=>∃cs,e= .returned (.agg cs.toArray)∧Rdn Cnv.E 4 b br bv w (Cnv.rd st).1 (Cnv.rd st).2 cs w':=by
 obtain⟨a0,ha0⟩:∃a,numD st=a:=⟨_,rfl⟩
 obtain⟨a1,ha1⟩:∃a,textD a0.2=a:=⟨_,rfl⟩
 obtain⟨a2,ha2⟩:∃a,(listD Pce.rd) a1.2=a:=⟨_,rfl⟩
 obtain⟨a3,ha3⟩:∃a,intD a2.2=a:=⟨_,rfl⟩
 have hE:Cnv.rd st=(⟨a0.1,a1.1,a2.1,a3.1⟩,a3.2):=by simp only[Cnv.rd,ha0,ha1,ha2,ha3]
 rw[hE]
 have l0:=num_len st
 rw[ha0] at l0
 have r0:=Nat.le_trans l0 hl
 have HC0:=Hd.mk (fun w1 (h1:OrW w1 b br bv st)=>oNum_any h1 hl)
 rw[ha0] at HC0
 have l1:=text_rest a0.2
 rw[ha1] at l1
 have r1:=Nat.le_trans l1 r0
 have HC1:=Hd.mk (fun w1 (h1:OrW w1 b br bv a0.2)=>oText_any h1 r0)
 rw[ha1] at HC1
 have l2:=listD_len Pce.rd_len a1.2
 rw[ha2] at l2
 have r2:=Nat.le_trans l2 r1
 have HC2:=Hd.mk (fun w1 (h1:OrW w1 b br bv a1.2)=>rdPce_any w1 b br bv a1.2 58 #[.pointer (some ⟨bv,0,none⟩)] h1 r1 rPce_fn)
 rw[ha2] at HC2
 have l3:=int_len a2.2
 rw[ha3] at l3
 have r3:=Nat.le_trans l3 r2
 have HC3:=Hd.mk (fun w1 (h1:OrW w1 b br bv a2.2)=>oInt_any h1 r2)
 rw[ha3] at HC3
 have hX:=Blk.new w 62 [.int .i64 0, .string ⟨#[]⟩, .slice none 0 0, .int .i64 0]
 have HB0:=Hd.mk hX
 have hS:((w.alloc (.cells #[.int .i64 0, .string ⟨#[]⟩, .slice none 0 0, .int .i64 0] 62)).drew.cell? ⟨bv,0,none⟩=some (.pointer (some ⟨br,0,none⟩)))∧(w.alloc (.cells #[.int .i64 0, .string ⟨#[]⟩, .slice none 0 0, .int .i64 0] 62)).drew.cell? ⟨br,0,none⟩=some (.pointer (some ⟨b,0,none⟩)):=⟨(h.alloc _).drew.var.at (j:=0) rfl,(h.alloc _).drew.own.at (j:=0) rfl⟩
 have HO:Hd (OrW (w.alloc (.cells #[.int .i64 0, .string ⟨#[]⟩, .slice none 0 0, .int .i64 0] 62)).drew b br bv st):=⟨(h.alloc _).drew⟩
 have HK:Hd (Keeps (Two b br) w (w.alloc (.cells #[.int .i64 0, .string ⟨#[]⟩, .slice none 0 0, .int .i64 0] 62)).drew):=⟨((Keeps.refl (Two b br) w).alloc _).drew⟩
 have HB:Hd (Blk (w.alloc (.cells #[.int .i64 0, .string ⟨#[]⟩, .slice none 0 0, .int .i64 0] 62)).drew w.heap.size 62 [.int .i64 0, .string ⟨#[]⟩, .slice none 0 0, .int .i64 0]):=⟨HB0.out.drew⟩
 have HL:Hd (b<w.heap.size∧br<w.heap.size∧bv<w.heap.size):=⟨⟨h.rd.blk.lt,h.own.lt,h.var.lt⟩⟩
 have HN2:Hd (b≠bv∧br≠bv):=⟨⟨h.ne2,h.ne3⟩⟩
 clear hX HB0 h hl hE l0 r0 ha0 l1 r1 ha1 l2 r2 ha2 l3 r3 ha3
 obtain⟨H,hH⟩:∃H,w.heap.size=H:=⟨_,rfl⟩
 have HHs:=Hd.mk hH
 go_enter Tryz.func56,Tryz.ntmps56
 go_wp2_with fail
 rw[hH] at HB
 obtain⟨W0,hW0⟩:∃W0,(w.alloc (.cells #[.int .i64 0, .string ⟨#[]⟩, .slice none 0 0, .int .i64 0] 62)).drew=W0:=⟨_,rfl⟩
 rw[hW0] at HO HK HB hS
 refine wp_region_lin default (fun w'=>w'.cell? ⟨bv,0,none⟩=some (.pointer (some ⟨br,0,none⟩))∧w'.cell? ⟨br,0,none⟩=some (.pointer (some ⟨b,0,none⟩))) [(0,true),(1,true),(2,true),(3,true),(5,true),(6,true),(7,true),(8,true),(10,true),(11,true),(13,true),(14,true),(15,true),(16,true),(4,false),(9,false),(12,false),(17,false),(18,true),(19,false)] (by kernel_rfl) (by kernel_rfl) rfl (by kernel_rfl) (by kernel_rfl) (by rw[hW0];exact hS) ?_
 rw[hW0]
 simp only[pick,List.getD_cons_zero,List.getD_cons_succ]
 clear hS hH hW0
 repeat
  refine lin_free (v:= ?_) (by rfl) ?_ ?_
  rotate_left
  ·intro w' hSw
   have d0:=hSw.1
   have d1:=hSw.2
   clear hSw
   go_simp
   first | done | with_reducible rfl
  simp only[Act.put,List.setIfInBounds_toArray,List.set_cons_zero,List.set_cons_succ]
 refine lin_bound (fun K hK=> ?_)
 go_simp
 refine(HC0.out W0 HO.out).mono ?_
 rintro e W1 ⟨rfl,h1,k1⟩
 have KS0:=Hd.mk k1
 have hb1:Blk W1 H 62 [.int .i64 0, .string ⟨#[]⟩, .slice none 0 0, .int .i64 0]:=k1.blk HB.out (fun c=>by have h1:=HL.out.1;have h2:=HL.out.2.1;have h3:=HHs.out;rcases c with c | c<;>omega)
 refine hK.out _ _ ⟨h1.var.at (j:=0) rfl,h1.own.at (j:=0) rfl⟩ ?_
 have HB2:=Hd.mk hb1
 have HO2:=Hd.mk h1
 have HK2:=Hd.mk (HK.out.trans k1)
 clear hK K h1 k1 hb1 HB HO HK
 have HB:=HB2
 have HO:=HO2
 have HK:=HK2
 clear HB2 HO2 HK2
 refine lin_bound (fun K hK=> ?_)
 go_simp
 refine(HC1.out W1 HO.out).mono ?_
 rintro e W2 ⟨rfl,h1,k1⟩
 have KS1:=Hd.mk k1
 have hb1:Blk W2 H 62 [.int .i64 0, .string ⟨#[]⟩, .slice none 0 0, .int .i64 0]:=k1.blk HB.out (fun c=>by have h1:=HL.out.1;have h2:=HL.out.2.1;have h3:=HHs.out;rcases c with c | c<;>omega)
 refine hK.out _ _ ⟨h1.var.at (j:=0) rfl,h1.own.at (j:=0) rfl⟩ ?_
 have HB2:=Hd.mk hb1
 have HO2:=Hd.mk h1
 have HK2:=Hd.mk (HK.out.trans k1)
 clear hK K h1 k1 hb1 HB HO HK
 have HB:=HB2
 have HO:=HO2
 have HK:=HK2
 clear HB2 HO2 HK2
 refine lin_bound (fun K hK=> ?_)
 go_simp
 refine(HC2.out W2 HO.out).mono ?_
 rintro e W3 ⟨v2,rfl,hv2,h1,k1⟩
 obtain⟨p2,c2,rfl⟩:=hv2.slice
 have HV2:=Hd.mk hv2
 have HWs2:Hd (H<W2.heap.size):=⟨HB.out.lt⟩
 clear hv2
 have KS2:=Hd.mk k1
 have hb1:Blk W3 H 62 [.int .i64 0, .string ⟨#[]⟩, .slice none 0 0, .int .i64 0]:=k1.blk HB.out (fun c=>by have h1:=HL.out.1;have h2:=HL.out.2.1;have h3:=HHs.out;rcases c with c | c<;>omega)
 refine hK.out _ _ ⟨h1.var.at (j:=0) rfl,h1.own.at (j:=0) rfl⟩ ?_
 have HB2:=Hd.mk hb1
 have HO2:=Hd.mk h1
 have HK2:=Hd.mk (HK.out.trans k1)
 clear hK K h1 k1 hb1 HB HO HK
 have HB:=HB2
 have HO:=HO2
 have HK:=HK2
 clear HB2 HO2 HK2
 refine lin_bound (fun K hK=> ?_)
 go_simp
 refine(HC3.out W3 HO.out).mono ?_
 rintro e W4 ⟨rfl,h1,k1⟩
 have KS3:=Hd.mk k1
 have hb1:Blk W4 H 62 [.int .i64 0, .string ⟨#[]⟩, .slice none 0 0, .int .i64 0]:=k1.blk HB.out (fun c=>by have h1:=HL.out.1;have h2:=HL.out.2.1;have h3:=HHs.out;rcases c with c | c<;>omega)
 refine hK.out _ _ ⟨h1.var.at (j:=0) rfl,h1.own.at (j:=0) rfl⟩ ?_
 have HB2:=Hd.mk hb1
 have HO2:=Hd.mk h1
 have HK2:=Hd.mk (HK.out.trans k1)
 clear hK K h1 k1 hb1 HB HO HK
 have HB:=HB2
 have HO:=HO2
 have HK:=HK2
 clear HB2 HO2 HK2
 repeat
  refine lin_free (v:= ?_) (by rfl) ?_ ?_
  rotate_left
  ·intro w' hSw
   have d0:=hSw.1
   have d1:=hSw.2
   clear hSw
   go_simp
   first | done | with_reducible rfl
  simp only[Act.put,List.setIfInBounds_toArray,List.set_cons_zero,List.set_cons_succ]
 refine lin_bound (fun K hK=> ?_)
 have hb2:Blk (W4.setCells H 0 [.int .i64 a0.1, .string a1.1, .slice p2 a2.1.length c2, .int .i64 a3.1]) H 62 [.int .i64 a0.1, .string a1.1, .slice p2 a2.1.length c2, .int .i64 a3.1]:=by
  have:=Blk.setAll [.int .i64 a0.1, .string a1.1, .slice p2 a2.1.length c2, .int .i64 a3.1] 0 [.int .i64 0, .string ⟨#[]⟩, .slice none 0 0, .int .i64 0] HB.out rfl
  simpa using this
 have hk2:=keeps_setAll H [.int .i64 a0.1, .string a1.1, .slice p2 a2.1.length c2, .int .i64 a3.1] 0 W4
 have hnb:∀g,g<w.heap.size→¬g=H:=fun g hg c=>by have:=HHs.out;omega
 have ho2:OrW (W4.setCells H 0 [.int .i64 a0.1, .string a1.1, .slice p2 a2.1.length c2, .int .i64 a3.1]) b br bv a3.2:=HO.out.keep hk2 (hnb _ HL.out.1) (hnb _ HL.out.2.1) (hnb _ HL.out.2.2)
 have HB2:=Hd.mk hb2
 have HK2:Hd (Keeps (Two b br) w (W4.setCells H 0 [.int .i64 a0.1, .string a1.1, .slice p2 a2.1.length c2, .int .i64 a3.1])):=⟨HK.out.new hk2 (fun g c=> .inr (by have:=HHs.out;omega))⟩
 have HO2:=Hd.mk ho2
 have HI:Hd ((Tryz.prog.info? 62).map (·.size)=some 4):=⟨by kernel_rfl⟩
 have HT:Hd (W4.there H 0 4):=⟨fun j hj=>⟨by
  rw[Nat.zero_add,HB.out.cell]
  have:j< [(0:Nat),(0:Nat),(0:Nat),(0:Nat)].length:=hj
  rcases j with _ | _ | _ | _ | j<;>first | rfl | (simp at this;omega),HB.out.free _⟩⟩
 have HKs:=Hd.mk hk2
 clear hb2 ho2 hnb hk2
 have HON:Hd (∀u∈([.int .i64 a0.1, .string a1.1, .slice p2 a2.1.length c2, .int .i64 a3.1]:List Value),u.oneCell'=true):=⟨by intro u hu;simp only[List.mem_cons,List.not_mem_nil,or_false] at hu;rcases hu with rfl | rfl | rfl | rfl<;>rfl⟩
 refine wanted_step (by kernel_rfl) ?_
 refine wp_store_mid 62 _ _ rfl H 0 #[.int .i64 a0.1, .string a1.1, .slice p2 a2.1.length c2, .int .i64 a3.1] rfl rfl HT.out HI.out (all_oneCell_toArray HON.out) ?_
 refine hK.out _ _ ⟨HO2.out.var.at (j:=0) rfl,HO2.out.own.at (j:=0) rfl⟩ ?_
 clear hK K
 refine NoPanic.normal ?_
 simp only[Exit.then,Act.put]
 rename_i Q0 K0 hret
 refine hret _ _ (Go.wp_ret ?_)
 show bodyPost _ _ _ _ _ _
 refine bodyPost_ret (results_cell_row rfl _ _ H 62 _ (0,0) _ rfl HB2.out.is Tryz.underlying62 rfl (by kernel_rfl)) rfl ?_
 have h2:Std (·<W2.heap.size) (fun w=>Rw 3 Pce.E w (.slice p2 a2.1.length c2) a2.1) W3:=HV2.out.std
 have hlt:∀g,Two b br g→g<W2.heap.size:=fun g c=>by have h1:=HL.out.1;have h2:=HL.out.2.1;have h3:=HHs.out;have h4:=HWs2.out;rcases c with rfl | rfl<;>omega
 have h3:=h2.keep (N2:=(·<W2.heap.size)) KS3.out (fun g _ c=>hlt g c) (fun _ _ c=>c)
 have hlast:=h3.keep (N2:=(·<w.heap.size)) HKs.out (fun g _ c=>by have h4:=HWs2.out;have h5:g=H:=c;show g<_;omega) (fun g _ c=>by have h3:=HHs.out;have h4:=HWs2.out;have h5:g<w.heap.size:=c;show g<_;omega)
 exact⟨[.int .i64 a0.1, .string a1.1, .slice p2 a2.1.length c2, .int .i64 a3.1],rfl,rfl,HON.out,fun w2 k2=>⟨.slice p2 a2.1.length c2,rfl,⟨hlast w2 k2⟩⟩,HO2.out,HK2.out⟩
theorem rCnv_fn {b br bv:Nat}:FnR Cnv.E 4 Cnv.rd b br bv 56 #[.pointer (some ⟨bv,0,none⟩)]:=
 ⟨enters_of Tryz.func56 rfl rfl,fun w st h hl=>rCnv_any w b br bv st h hl,Cnv.rd_len⟩
end Go.Proofs.YtfaepbjnpakghaaGreatDoor.W
