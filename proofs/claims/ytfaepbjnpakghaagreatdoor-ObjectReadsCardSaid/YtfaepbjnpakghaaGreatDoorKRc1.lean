import Derived.Deep.MidRow
import Derived.Test.YtfaepbjnpakghaaGreatDoorKae
import Derived.Test.YtfaepbjnpakghaaGreatDoorKac
import Derived.Test.YtfaepbjnpakghaaGreatDoorKRl1
/- The walks of the functions that Read hands to read (printed by tools/gen_rcl.py). -/
namespace Go.Proofs.YtfaepbjnpakghaaGreatDoor.W
open Go.RowKit
set_option linter.unusedVariables false
set_option linter.unusedSimpArgs false
theorem repD_len {α:Type} {d:Rs→α × Rs} (hd:∀st,(d st).2.rest.length≤st.rest.length):∀(n:Nat) (st:Rs),(repD d n st).2.rest.length≤st.rest.length
 | 0,st=>Nat.le_refl _
 | n+1,st=>Nat.le_trans (repD_len hd n (d st).2) (hd st)
theorem listD_len {α:Type} {d:Rs→α × Rs} (hd:∀st,(d st).2.rest.length≤st.rest.length) (st:Rs):(listD d st).2.rest.length≤st.rest.length:=by
 have:=num_len st
 unfold listD
 split
 ·exact this
 ·exact Nat.le_trans (repD_len hd _ _) this
theorem Pce.rd_len (st:Rs):(Pce.rd st).2.rest.length≤st.rest.length:=by
 unfold Pce.rd
 dsimp only
 have h0:=num_len st
 have h1:=num_len (numD st).2
 have h2:=num_len (numD (numD st).2).2
 omega
set_option maxRecDepth 100000 in
set_option maxHeartbeats 4000000 in
theorem rPce_any (w:World) (b br bv:Nat) (st:Rs) (h:OrW w b br bv st) (hl:st.rest.length≤1000000000):
 Calls Tryz.prog 58 #[.pointer (some ⟨bv,0,none⟩)] w fun e w'=>∃cs,e= .returned (.agg cs.toArray)∧Rdn Pce.E 3 b br bv w (Pce.rd st).1 (Pce.rd st).2 cs w':=by
 obtain⟨a0,ha0⟩:∃a,numD st=a:=⟨_,rfl⟩
 obtain⟨a1,ha1⟩:∃a,numD a0.2=a:=⟨_,rfl⟩
 obtain⟨a2,ha2⟩:∃a,numD a1.2=a:=⟨_,rfl⟩
 have hE:Pce.rd st=(⟨a0.1,a1.1,a2.1⟩,a2.2):=by simp only[Pce.rd,ha0,ha1,ha2]
 rw[hE]
 have l0:=num_len st
 rw[ha0] at l0
 have r0:=Nat.le_trans l0 hl
 have HC0:=Hd.mk (fun w1 (h1:OrW w1 b br bv st)=>oNum_any h1 hl)
 rw[ha0] at HC0
 have l1:=num_len a0.2
 rw[ha1] at l1
 have r1:=Nat.le_trans l1 r0
 have HC1:=Hd.mk (fun w1 (h1:OrW w1 b br bv a0.2)=>oNum_any h1 r0)
 rw[ha1] at HC1
 have l2:=num_len a1.2
 rw[ha2] at l2
 have r2:=Nat.le_trans l2 r1
 have HC2:=Hd.mk (fun w1 (h1:OrW w1 b br bv a1.2)=>oNum_any h1 r1)
 rw[ha2] at HC2
 have hX:=Blk.new w 103 [.int .i64 0, .int .i64 0, .int .i64 0]
 have HB0:=Hd.mk hX
 have hS:((w.alloc (.cells #[.int .i64 0, .int .i64 0, .int .i64 0] 103)).drew.cell? ⟨bv,0,none⟩=some (.pointer (some ⟨br,0,none⟩)))∧(w.alloc (.cells #[.int .i64 0, .int .i64 0, .int .i64 0] 103)).drew.cell? ⟨br,0,none⟩=some (.pointer (some ⟨b,0,none⟩)):=⟨(h.alloc _).drew.var.at (j:=0) rfl,(h.alloc _).drew.own.at (j:=0) rfl⟩
 have HO:Hd (OrW (w.alloc (.cells #[.int .i64 0, .int .i64 0, .int .i64 0] 103)).drew b br bv st):=⟨(h.alloc _).drew⟩
 have HK:Hd (Keeps (Two b br) w (w.alloc (.cells #[.int .i64 0, .int .i64 0, .int .i64 0] 103)).drew):=⟨((Keeps.refl (Two b br) w).alloc _).drew⟩
 have HB:Hd (Blk (w.alloc (.cells #[.int .i64 0, .int .i64 0, .int .i64 0] 103)).drew w.heap.size 103 [.int .i64 0, .int .i64 0, .int .i64 0]):=⟨HB0.out.drew⟩
 have HL:Hd (b<w.heap.size∧br<w.heap.size∧bv<w.heap.size):=⟨⟨h.rd.blk.lt,h.own.lt,h.var.lt⟩⟩
 have HN2:Hd (b≠bv∧br≠bv):=⟨⟨h.ne2,h.ne3⟩⟩
 clear hX HB0 h hl hE l0 r0 ha0 l1 r1 ha1 l2 r2 ha2
 obtain⟨H,hH⟩:∃H,w.heap.size=H:=⟨_,rfl⟩
 have HHs:=Hd.mk hH
 go_enter Tryz.func58,Tryz.ntmps58
 go_wp2_with fail
 rw[hH] at HB
 obtain⟨W0,hW0⟩:∃W0,(w.alloc (.cells #[.int .i64 0, .int .i64 0, .int .i64 0] 103)).drew=W0:=⟨_,rfl⟩
 rw[hW0] at HO HK HB hS
 refine wp_region_lin default (fun w'=>w'.cell? ⟨bv,0,none⟩=some (.pointer (some ⟨br,0,none⟩))∧w'.cell? ⟨br,0,none⟩=some (.pointer (some ⟨b,0,none⟩))) [(0,true),(1,true),(2,true),(3,true),(5,true),(6,true),(7,true),(8,true),(10,true),(11,true),(12,true),(13,true),(4,false),(9,false),(14,false),(15,true),(16,false)] (by kernel_rfl) (by kernel_rfl) rfl (by kernel_rfl) (by kernel_rfl) (by rw[hW0];exact hS) ?_
 rw[hW0]
 simp only[pick,List.getD_cons_zero,List.getD_cons_succ]
 clear hS hH hW0
 repeat
  refine lin_free (v:= ?_) (by rfl) ?_ ?_
  rotate_left
  ·intro w' hSw
   have d0:=hSw.1
   have d1:=hSw.2
   clear hSw
   go_simp
   first | done | with_reducible rfl
  simp only[Act.put,List.setIfInBounds_toArray,List.set_cons_zero,List.set_cons_succ]
 refine lin_bound (fun K hK=> ?_)
 go_simp
 refine(HC0.out W0 HO.out).mono ?_
 rintro e W1 ⟨rfl,h1,k1⟩
 have KS0:=Hd.mk k1
 have hb1:Blk W1 H 103 [.int .i64 0, .int .i64 0, .int .i64 0]:=k1.blk HB.out (fun c=>by have h1:=HL.out.1;have h2:=HL.out.2.1;have h3:=HHs.out;rcases c with c | c<;>omega)
 refine hK.out _ _ ⟨h1.var.at (j:=0) rfl,h1.own.at (j:=0) rfl⟩ ?_
 have HB2:=Hd.mk hb1
 have HO2:=Hd.mk h1
 have HK2:=Hd.mk (HK.out.trans k1)
 clear hK K h1 k1 hb1 HB HO HK
 have HB:=HB2
 have HO:=HO2
 have HK:=HK2
 clear HB2 HO2 HK2
 refine lin_bound (fun K hK=> ?_)
 go_simp
 refine(HC1.out W1 HO.out).mono ?_
 rintro e W2 ⟨rfl,h1,k1⟩
 have KS1:=Hd.mk k1
 have hb1:Blk W2 H 103 [.int .i64 0, .int .i64 0, .int .i64 0]:=k1.blk HB.out (fun c=>by have h1:=HL.out.1;have h2:=HL.out.2.1;have h3:=HHs.out;rcases c with c | c<;>omega)
 refine hK.out _ _ ⟨h1.var.at (j:=0) rfl,h1.own.at (j:=0) rfl⟩ ?_
 have HB2:=Hd.mk hb1
 have HO2:=Hd.mk h1
 have HK2:=Hd.mk (HK.out.trans k1)
 clear hK K h1 k1 hb1 HB HO HK
 have HB:=HB2
 have HO:=HO2
 have HK:=HK2
 clear HB2 HO2 HK2
 refine lin_bound (fun K hK=> ?_)
 go_simp
 refine(HC2.out W2 HO.out).mono ?_
 rintro e W3 ⟨rfl,h1,k1⟩
 have KS2:=Hd.mk k1
 have hb1:Blk W3 H 103 [.int .i64 0, .int .i64 0, .int .i64 0]:=k1.blk HB.out (fun c=>by have h1:=HL.out.1;have h2:=HL.out.2.1;have h3:=HHs.out;rcases c with c | c<;>omega)
 refine hK.out _ _ ⟨h1.var.at (j:=0) rfl,h1.own.at (j:=0) rfl⟩ ?_
 have HB2:=Hd.mk hb1
 have HO2:=Hd.mk h1
 have HK2:=Hd.mk (HK.out.trans k1)
 clear hK K h1 k1 hb1 HB HO HK
 have HB:=HB2
 have HO:=HO2
 have HK:=HK2
 clear HB2 HO2 HK2
 repeat
  refine lin_free (v:= ?_) (by rfl) ?_ ?_
  rotate_left
  ·intro w' hSw
   have d0:=hSw.1
   have d1:=hSw.2
   clear hSw
   go_simp
   first | done | with_reducible rfl
  simp only[Act.put,List.setIfInBounds_toArray,List.set_cons_zero,List.set_cons_succ]
 refine lin_bound (fun K hK=> ?_)
 have hb2:Blk (W3.setCells H 0 [.int .i64 a0.1, .int .i64 a1.1, .int .i64 a2.1]) H 103 [.int .i64 a0.1, .int .i64 a1.1, .int .i64 a2.1]:=by
  have:=Blk.setAll [.int .i64 a0.1, .int .i64 a1.1, .int .i64 a2.1] 0 [.int .i64 0, .int .i64 0, .int .i64 0] HB.out rfl
  simpa using this
 have hk2:=keeps_setAll H [.int .i64 a0.1, .int .i64 a1.1, .int .i64 a2.1] 0 W3
 have hnb:∀g,g<w.heap.size→¬g=H:=fun g hg c=>by have:=HHs.out;omega
 have ho2:OrW (W3.setCells H 0 [.int .i64 a0.1, .int .i64 a1.1, .int .i64 a2.1]) b br bv a2.2:=HO.out.keep hk2 (hnb _ HL.out.1) (hnb _ HL.out.2.1) (hnb _ HL.out.2.2)
 have HB2:=Hd.mk hb2
 have HK2:Hd (Keeps (Two b br) w (W3.setCells H 0 [.int .i64 a0.1, .int .i64 a1.1, .int .i64 a2.1])):=⟨HK.out.new hk2 (fun g c=> .inr (by have:=HHs.out;omega))⟩
 have HO2:=Hd.mk ho2
 have HI:Hd ((Tryz.prog.info? 103).map (·.size)=some 3):=⟨by kernel_rfl⟩
 have HT:Hd (W3.there H 0 3):=⟨fun j hj=>⟨by
  rw[Nat.zero_add,HB.out.cell]
  have:j< [(0:Nat),(0:Nat),(0:Nat)].length:=hj
  rcases j with _ | _ | _ | j<;>first | rfl | (simp at this;omega),HB.out.free _⟩⟩
 have HKs:=Hd.mk hk2
 clear hb2 ho2 hnb hk2
 have HON:Hd (∀u∈([.int .i64 a0.1, .int .i64 a1.1, .int .i64 a2.1]:List Value),u.oneCell'=true):=⟨by intro u hu;simp only[List.mem_cons,List.not_mem_nil,or_false] at hu;rcases hu with rfl | rfl | rfl<;>rfl⟩
 refine wanted_step (by kernel_rfl) ?_
 refine wp_store_mid 103 _ _ rfl H 0 #[.int .i64 a0.1, .int .i64 a1.1, .int .i64 a2.1] rfl rfl HT.out HI.out (all_oneCell_toArray HON.out) ?_
 refine hK.out _ _ ⟨HO2.out.var.at (j:=0) rfl,HO2.out.own.at (j:=0) rfl⟩ ?_
 clear hK K
 refine NoPanic.normal ?_
 simp only[Exit.then,Act.put]
 rename_i Q0 K0 hret
 refine hret _ _ (Go.wp_ret ?_)
 show bodyPost _ _ _ _ _ _
 refine bodyPost_ret (results_cell_row rfl _ _ H 103 _ (0,0) _ rfl HB2.out.is Tryz.underlying103 rfl (by kernel_rfl)) rfl ?_
 exact⟨[.int .i64 a0.1, .int .i64 a1.1, .int .i64 a2.1],rfl,rfl,HON.out,Std.of (fun _=>rfl) _,HO2.out,HK2.out⟩
theorem rPce_fn {b br bv:Nat}:FnR Pce.E 3 Pce.rd b br bv 58 #[.pointer (some ⟨bv,0,none⟩)]:=
 ⟨enters_of Tryz.func58 rfl rfl,fun w st h hl=>rPce_any w b br bv st h hl,Pce.rd_len⟩
theorem Ini.rd_len (st:Rs):(Ini.rd st).2.rest.length≤st.rest.length:=by
 unfold Ini.rd
 dsimp only
 have h0:=num_len st
 have h1:=int_len (numD st).2
 have h2:=truth_len (intD (numD st).2).2
 omega
set_option maxRecDepth 100000 in
set_option maxHeartbeats 4000000 in
theorem rIni_any (w:World) (b br bv:Nat) (st:Rs) (h:OrW w b br bv st) (hl:st.rest.length≤1000000000):
 Calls Tryz.prog 46 #[.pointer (some ⟨bv,0,none⟩)] w fun e w'=>∃cs,e= .returned (.agg cs.toArray)∧Rdn Ini.E 3 b br bv w (Ini.rd st).1 (Ini.rd st).2 cs w':=by
 obtain⟨a0,ha0⟩:∃a,numD st=a:=⟨_,rfl⟩
 obtain⟨a1,ha1⟩:∃a,intD a0.2=a:=⟨_,rfl⟩
 obtain⟨a2,ha2⟩:∃a,truthD a1.2=a:=⟨_,rfl⟩
 have hE:Ini.rd st=(⟨a0.1,a1.1,a2.1⟩,a2.2):=by simp only[Ini.rd,ha0,ha1,ha2]
 rw[hE]
 have l0:=num_len st
 rw[ha0] at l0
 have r0:=Nat.le_trans l0 hl
 have HC0:=Hd.mk (fun w1 (h1:OrW w1 b br bv st)=>oNum_any h1 hl)
 rw[ha0] at HC0
 have l1:=int_len a0.2
 rw[ha1] at l1
 have r1:=Nat.le_trans l1 r0
 have HC1:=Hd.mk (fun w1 (h1:OrW w1 b br bv a0.2)=>oInt_any h1 r0)
 rw[ha1] at HC1
 have l2:=truth_len a1.2
 rw[ha2] at l2
 have r2:=Nat.le_trans l2 r1
 have HC2:=Hd.mk (fun w1 (h1:OrW w1 b br bv a1.2)=>oTruth_any h1 r1)
 rw[ha2] at HC2
 have hX:=Blk.new w 84 [.int .i64 0, .int .i64 0, .bool false]
 have HB0:=Hd.mk hX
 have hS:((w.alloc (.cells #[.int .i64 0, .int .i64 0, .bool false] 84)).drew.cell? ⟨bv,0,none⟩=some (.pointer (some ⟨br,0,none⟩)))∧(w.alloc (.cells #[.int .i64 0, .int .i64 0, .bool false] 84)).drew.cell? ⟨br,0,none⟩=some (.pointer (some ⟨b,0,none⟩)):=⟨(h.alloc _).drew.var.at (j:=0) rfl,(h.alloc _).drew.own.at (j:=0) rfl⟩
 have HO:Hd (OrW (w.alloc (.cells #[.int .i64 0, .int .i64 0, .bool false] 84)).drew b br bv st):=⟨(h.alloc _).drew⟩
 have HK:Hd (Keeps (Two b br) w (w.alloc (.cells #[.int .i64 0, .int .i64 0, .bool false] 84)).drew):=⟨((Keeps.refl (Two b br) w).alloc _).drew⟩
 have HB:Hd (Blk (w.alloc (.cells #[.int .i64 0, .int .i64 0, .bool false] 84)).drew w.heap.size 84 [.int .i64 0, .int .i64 0, .bool false]):=⟨HB0.out.drew⟩
 have HL:Hd (b<w.heap.size∧br<w.heap.size∧bv<w.heap.size):=⟨⟨h.rd.blk.lt,h.own.lt,h.var.lt⟩⟩
 have HN2:Hd (b≠bv∧br≠bv):=⟨⟨h.ne2,h.ne3⟩⟩
 clear hX HB0 h hl hE l0 r0 ha0 l1 r1 ha1 l2 r2 ha2
 obtain⟨H,hH⟩:∃H,w.heap.size=H:=⟨_,rfl⟩
 have HHs:=Hd.mk hH
 go_enter Tryz.func46,Tryz.ntmps46
 go_wp2_with fail
 rw[hH] at HB
 obtain⟨W0,hW0⟩:∃W0,(w.alloc (.cells #[.int .i64 0, .int .i64 0, .bool false] 84)).drew=W0:=⟨_,rfl⟩
 rw[hW0] at HO HK HB hS
 refine wp_region_lin default (fun w'=>w'.cell? ⟨bv,0,none⟩=some (.pointer (some ⟨br,0,none⟩))∧w'.cell? ⟨br,0,none⟩=some (.pointer (some ⟨b,0,none⟩))) [(0,true),(1,true),(2,true),(3,true),(5,true),(6,true),(7,true),(8,true),(10,true),(4,false),(9,false),(11,false),(12,true),(13,false)] (by kernel_rfl) (by kernel_rfl) rfl (by kernel_rfl) (by kernel_rfl) (by rw[hW0];exact hS) ?_
 rw[hW0]
 simp only[pick,List.getD_cons_zero,List.getD_cons_succ]
 clear hS hH hW0
 repeat
  refine lin_free (v:= ?_) (by rfl) ?_ ?_
  rotate_left
  ·intro w' hSw
   have d0:=hSw.1
   have d1:=hSw.2
   clear hSw
   go_simp
   first | done | with_reducible rfl
  simp only[Act.put,List.setIfInBounds_toArray,List.set_cons_zero,List.set_cons_succ]
 refine lin_bound (fun K hK=> ?_)
 go_simp
 refine(HC0.out W0 HO.out).mono ?_
 rintro e W1 ⟨rfl,h1,k1⟩
 have KS0:=Hd.mk k1
 have hb1:Blk W1 H 84 [.int .i64 0, .int .i64 0, .bool false]:=k1.blk HB.out (fun c=>by have h1:=HL.out.1;have h2:=HL.out.2.1;have h3:=HHs.out;rcases c with c | c<;>omega)
 refine hK.out _ _ ⟨h1.var.at (j:=0) rfl,h1.own.at (j:=0) rfl⟩ ?_
 have HB2:=Hd.mk hb1
 have HO2:=Hd.mk h1
 have HK2:=Hd.mk (HK.out.trans k1)
 clear hK K h1 k1 hb1 HB HO HK
 have HB:=HB2
 have HO:=HO2
 have HK:=HK2
 clear HB2 HO2 HK2
 refine lin_bound (fun K hK=> ?_)
 go_simp
 refine(HC1.out W1 HO.out).mono ?_
 rintro e W2 ⟨rfl,h1,k1⟩
 have KS1:=Hd.mk k1
 have hb1:Blk W2 H 84 [.int .i64 0, .int .i64 0, .bool false]:=k1.blk HB.out (fun c=>by have h1:=HL.out.1;have h2:=HL.out.2.1;have h3:=HHs.out;rcases c with c | c<;>omega)
 refine hK.out _ _ ⟨h1.var.at (j:=0) rfl,h1.own.at (j:=0) rfl⟩ ?_
 have HB2:=Hd.mk hb1
 have HO2:=Hd.mk h1
 have HK2:=Hd.mk (HK.out.trans k1)
 clear hK K h1 k1 hb1 HB HO HK
 have HB:=HB2
 have HO:=HO2
 have HK:=HK2
 clear HB2 HO2 HK2
 refine lin_bound (fun K hK=> ?_)
 go_simp
 refine(HC2.out W2 HO.out).mono ?_
 rintro e W3 ⟨rfl,h1,k1⟩
 have KS2:=Hd.mk k1
 have hb1:Blk W3 H 84 [.int .i64 0, .int .i64 0, .bool false]:=k1.blk HB.out (fun c=>by have h1:=HL.out.1;have h2:=HL.out.2.1;have h3:=HHs.out;rcases c with c | c<;>omega)
 refine hK.out _ _ ⟨h1.var.at (j:=0) rfl,h1.own.at (j:=0) rfl⟩ ?_
 have HB2:=Hd.mk hb1
 have HO2:=Hd.mk h1
 have HK2:=Hd.mk (HK.out.trans k1)
 clear hK K h1 k1 hb1 HB HO HK
 have HB:=HB2
 have HO:=HO2
 have HK:=HK2
 clear HB2 HO2 HK2
 repeat
  refine lin_free (v:= ?_) (by rfl) ?_ ?_
  rotate_left
  ·intro w' hSw
   have d0:=hSw.1
   have d1:=hSw.2
   clear hSw
   go_simp
   first | done | with_reducible rfl
  simp only[Act.put,List.setIfInBounds_toArray,List.set_cons_zero,List.set_cons_succ]
 refine lin_bound (fun K hK=> ?_)
 have hb2:Blk (W3.setCells H 0 [.int .i64 a0.1, .int .i64 a1.1, .bool a2.1]) H 84 [.int .i64 a0.1, .int .i64 a1.1, .bool a2.1]:=by
  have:=Blk.setAll [.int .i64 a0.1, .int .i64 a1.1, .bool a2.1] 0 [.int .i64 0, .int .i64 0, .bool false] HB.out rfl
  simpa using this
 have hk2:=keeps_setAll H [.int .i64 a0.1, .int .i64 a1.1, .bool a2.1] 0 W3
 have hnb:∀g,g<w.heap.size→¬g=H:=fun g hg c=>by have:=HHs.out;omega
 have ho2:OrW (W3.setCells H 0 [.int .i64 a0.1, .int .i64 a1.1, .bool a2.1]) b br bv a2.2:=HO.out.keep hk2 (hnb _ HL.out.1) (hnb _ HL.out.2.1) (hnb _ HL.out.2.2)
 have HB2:=Hd.mk hb2
 have HK2:Hd (Keeps (Two b br) w (W3.setCells H 0 [.int .i64 a0.1, .int .i64 a1.1, .bool a2.1])):=⟨HK.out.new hk2 (fun g c=> .inr (by have:=HHs.out;omega))⟩
 have HO2:=Hd.mk ho2
 have HI:Hd ((Tryz.prog.info? 84).map (·.size)=some 3):=⟨by kernel_rfl⟩
 have HT:Hd (W3.there H 0 3):=⟨fun j hj=>⟨by
  rw[Nat.zero_add,HB.out.cell]
  have:j< [(0:Nat),(0:Nat),(0:Nat)].length:=hj
  rcases j with _ | _ | _ | j<;>first | rfl | (simp at this;omega),HB.out.free _⟩⟩
 have HKs:=Hd.mk hk2
 clear hb2 ho2 hnb hk2
 have HON:Hd (∀u∈([.int .i64 a0.1, .int .i64 a1.1, .bool a2.1]:List Value),u.oneCell'=true):=⟨by intro u hu;simp only[List.mem_cons,List.not_mem_nil,or_false] at hu;rcases hu with rfl | rfl | rfl<;>rfl⟩
 refine wanted_step (by kernel_rfl) ?_
 refine wp_store_mid 84 _ _ rfl H 0 #[.int .i64 a0.1, .int .i64 a1.1, .bool a2.1] rfl rfl HT.out HI.out (all_oneCell_toArray HON.out) ?_
 refine hK.out _ _ ⟨HO2.out.var.at (j:=0) rfl,HO2.out.own.at (j:=0) rfl⟩ ?_
 clear hK K
 refine NoPanic.normal ?_
 simp only[Exit.then,Act.put]
 rename_i Q0 K0 hret
 refine hret _ _ (Go.wp_ret ?_)
 show bodyPost _ _ _ _ _ _
 refine bodyPost_ret (results_cell_row rfl _ _ H 84 _ (0,0) _ rfl HB2.out.is Tryz.underlying84 rfl (by kernel_rfl)) rfl ?_
 exact⟨[.int .i64 a0.1, .int .i64 a1.1, .bool a2.1],rfl,rfl,HON.out,Std.of (fun _=>rfl) _,HO2.out,HK2.out⟩
theorem rIni_fn {b br bv:Nat}:FnR Ini.E 3 Ini.rd b br bv 46 #[.pointer (some ⟨bv,0,none⟩)]:=
 ⟨enters_of Tryz.func46 rfl rfl,fun w st h hl=>rIni_any w b br bv st h hl,Ini.rd_len⟩
theorem Grp.rd_len (st:Rs):(Grp.rd st).2.rest.length≤st.rest.length:=by
 unfold Grp.rd
 dsimp only
 have h0:=text_rest st
 have h1:=ints_len (textD st).2
 omega
set_option maxRecDepth 100000 in
set_option maxHeartbeats 4000000 in
theorem rGrp_any (w:World) (b br bv:Nat) (st:Rs) (h:OrW w b br bv st) (hl:st.rest.length≤1000000000):
 Calls Tryz.prog 43 #[.pointer (some ⟨bv,0,none⟩)] w fun e w'=>∃cs,e= .returned (.agg cs.toArray)∧Rdn Grp.E 2 b br bv w (Grp.rd st).1 (Grp.rd st).2 cs w':=by
 obtain⟨a0,ha0⟩:∃a,textD st=a:=⟨_,rfl⟩
 obtain⟨a1,ha1⟩:∃a,intsD a0.2=a:=⟨_,rfl⟩
 have hE:Grp.rd st=(⟨a0.1,a1.1⟩,a1.2):=by simp only[Grp.rd,ha0,ha1]
 rw[hE]
 have l0:=text_rest st
 rw[ha0] at l0
 have r0:=Nat.le_trans l0 hl
 have HC0:=Hd.mk (fun w1 (h1:OrW w1 b br bv st)=>oText_any h1 hl)
 rw[ha0] at HC0
 have l1:=ints_len a0.2
 rw[ha1] at l1
 have r1:=Nat.le_trans l1 r0
 have HC1:=Hd.mk (fun w1 (h1:OrW w1 b br bv a0.2)=>oNums_any h1 r0)
 rw[ha1] at HC1
 have hX:=Blk.new w 65 [.string ⟨#[]⟩, .slice none 0 0]
 have HB0:=Hd.mk hX
 have hS:((w.alloc (.cells #[.string ⟨#[]⟩, .slice none 0 0] 65)).drew.cell? ⟨bv,0,none⟩=some (.pointer (some ⟨br,0,none⟩)))∧(w.alloc (.cells #[.string ⟨#[]⟩, .slice none 0 0] 65)).drew.cell? ⟨br,0,none⟩=some (.pointer (some ⟨b,0,none⟩)):=⟨(h.alloc _).drew.var.at (j:=0) rfl,(h.alloc _).drew.own.at (j:=0) rfl⟩
 have HO:Hd (OrW (w.alloc (.cells #[.string ⟨#[]⟩, .slice none 0 0] 65)).drew b br bv st):=⟨(h.alloc _).drew⟩
 have HK:Hd (Keeps (Two b br) w (w.alloc (.cells #[.string ⟨#[]⟩, .slice none 0 0] 65)).drew):=⟨((Keeps.refl (Two b br) w).alloc _).drew⟩
 have HB:Hd (Blk (w.alloc (.cells #[.string ⟨#[]⟩, .slice none 0 0] 65)).drew w.heap.size 65 [.string ⟨#[]⟩, .slice none 0 0]):=⟨HB0.out.drew⟩
 have HL:Hd (b<w.heap.size∧br<w.heap.size∧bv<w.heap.size):=⟨⟨h.rd.blk.lt,h.own.lt,h.var.lt⟩⟩
 have HN2:Hd (b≠bv∧br≠bv):=⟨⟨h.ne2,h.ne3⟩⟩
 clear hX HB0 h hl hE l0 r0 ha0 l1 r1 ha1
 obtain⟨H,hH⟩:∃H,w.heap.size=H:=⟨_,rfl⟩
 have HHs:=Hd.mk hH
 go_enter Tryz.func43,Tryz.ntmps43
 go_wp2_with fail
 rw[hH] at HB
 obtain⟨W0,hW0⟩:∃W0,(w.alloc (.cells #[.string ⟨#[]⟩, .slice none 0 0] 65)).drew=W0:=⟨_,rfl⟩
 rw[hW0] at HO HK HB hS
 refine wp_region_lin default (fun w'=>w'.cell? ⟨bv,0,none⟩=some (.pointer (some ⟨br,0,none⟩))∧w'.cell? ⟨br,0,none⟩=some (.pointer (some ⟨b,0,none⟩))) [(0,true),(1,true),(2,true),(3,true),(5,true),(6,true),(7,true),(8,true),(4,false),(9,false),(10,true),(11,false)] (by kernel_rfl) (by kernel_rfl) rfl (by kernel_rfl) (by kernel_rfl) (by rw[hW0];exact hS) ?_
 rw[hW0]
 simp only[pick,List.getD_cons_zero,List.getD_cons_succ]
 clear hS hH hW0
 repeat
  refine lin_free (v:= ?_) (by rfl) ?_ ?_
  rotate_left
  ·intro w' hSw
   have d0:=hSw.1
   have d1:=hSw.2
   clear hSw
   go_simp
   first | done | with_reducible rfl
  simp only[Act.put,List.setIfInBounds_toArray,List.set_cons_zero,List.set_cons_succ]
 refine lin_bound (fun K hK=> ?_)
 go_simp
 refine(HC0.out W0 HO.out).mono ?_
 rintro e W1 ⟨rfl,h1,k1⟩
 have KS0:=Hd.mk k1
 have hb1:Blk W1 H 65 [.string ⟨#[]⟩, .slice none 0 0]:=k1.blk HB.out (fun c=>by have h1:=HL.out.1;have h2:=HL.out.2.1;have h3:=HHs.out;rcases c with c | c<;>omega)
 refine hK.out _ _ ⟨h1.var.at (j:=0) rfl,h1.own.at (j:=0) rfl⟩ ?_
 have HB2:=Hd.mk hb1
 have HO2:=Hd.mk h1
 have HK2:=Hd.mk (HK.out.trans k1)
 clear hK K h1 k1 hb1 HB HO HK
 have HB:=HB2
 have HO:=HO2
 have HK:=HK2
 clear HB2 HO2 HK2
 refine lin_bound (fun K hK=> ?_)
 go_simp
 refine(HC1.out W1 HO.out).mono ?_
 rintro e W2 ⟨v1,rfl,hv1,h1,k1⟩
 obtain⟨p1,c1,rfl⟩:∃p c,v1= .slice p a1.1.length c:=by
  obtain⟨p,c,h,_⟩:=hv1.slice0
  exact⟨p,c,by rw[h,List.length_map]⟩
 have HV1:=Hd.mk hv1
 have HWs1:Hd (H<W1.heap.size):=⟨HB.out.lt⟩
 clear hv1
 have KS1:=Hd.mk k1
 have hb1:Blk W2 H 65 [.string ⟨#[]⟩, .slice none 0 0]:=k1.blk HB.out (fun c=>by have h1:=HL.out.1;have h2:=HL.out.2.1;have h3:=HHs.out;rcases c with c | c<;>omega)
 refine hK.out _ _ ⟨h1.var.at (j:=0) rfl,h1.own.at (j:=0) rfl⟩ ?_
 have HB2:=Hd.mk hb1
 have HO2:=Hd.mk h1
 have HK2:=Hd.mk (HK.out.trans k1)
 clear hK K h1 k1 hb1 HB HO HK
 have HB:=HB2
 have HO:=HO2
 have HK:=HK2
 clear HB2 HO2 HK2
 repeat
  refine lin_free (v:= ?_) (by rfl) ?_ ?_
  rotate_left
  ·intro w' hSw
   have d0:=hSw.1
   have d1:=hSw.2
   clear hSw
   go_simp
   first | done | with_reducible rfl
  simp only[Act.put,List.setIfInBounds_toArray,List.set_cons_zero,List.set_cons_succ]
 refine lin_bound (fun K hK=> ?_)
 have hb2:Blk (W2.setCells H 0 [.string a0.1, .slice p1 a1.1.length c1]) H 65 [.string a0.1, .slice p1 a1.1.length c1]:=by
  have:=Blk.setAll [.string a0.1, .slice p1 a1.1.length c1] 0 [.string ⟨#[]⟩, .slice none 0 0] HB.out rfl
  simpa using this
 have hk2:=keeps_setAll H [.string a0.1, .slice p1 a1.1.length c1] 0 W2
 have hnb:∀g,g<w.heap.size→¬g=H:=fun g hg c=>by have:=HHs.out;omega
 have ho2:OrW (W2.setCells H 0 [.string a0.1, .slice p1 a1.1.length c1]) b br bv a1.2:=HO.out.keep hk2 (hnb _ HL.out.1) (hnb _ HL.out.2.1) (hnb _ HL.out.2.2)
 have HB2:=Hd.mk hb2
 have HK2:Hd (Keeps (Two b br) w (W2.setCells H 0 [.string a0.1, .slice p1 a1.1.length c1])):=⟨HK.out.new hk2 (fun g c=> .inr (by have:=HHs.out;omega))⟩
 have HO2:=Hd.mk ho2
 have HI:Hd ((Tryz.prog.info? 65).map (·.size)=some 2):=⟨by kernel_rfl⟩
 have HT:Hd (W2.there H 0 2):=⟨fun j hj=>⟨by
  rw[Nat.zero_add,HB.out.cell]
  have:j< [(0:Nat),(0:Nat)].length:=hj
  rcases j with _ | _ | j<;>first | rfl | (simp at this;omega),HB.out.free _⟩⟩
 have HKs:=Hd.mk hk2
 clear hb2 ho2 hnb hk2
 have HON:Hd (∀u∈([.string a0.1, .slice p1 a1.1.length c1]:List Value),u.oneCell'=true):=⟨by intro u hu;simp only[List.mem_cons,List.not_mem_nil,or_false] at hu;rcases hu with rfl | rfl<;>rfl⟩
 refine wanted_step (by kernel_rfl) ?_
 refine wp_store_mid 65 _ _ rfl H 0 #[.string a0.1, .slice p1 a1.1.length c1] rfl rfl HT.out HI.out (all_oneCell_toArray HON.out) ?_
 refine hK.out _ _ ⟨HO2.out.var.at (j:=0) rfl,HO2.out.own.at (j:=0) rfl⟩ ?_
 clear hK K
 refine NoPanic.normal ?_
 simp only[Exit.then,Act.put]
 rename_i Q0 K0 hret
 refine hret _ _ (Go.wp_ret ?_)
 show bodyPost _ _ _ _ _ _
 refine bodyPost_ret (results_cell_row rfl _ _ H 65 _ (0,0) _ rfl HB2.out.is Tryz.underlying65 rfl (by kernel_rfl)) rfl ?_
 have h1:Std (·<W1.heap.size) (fun w=>Rw 1 intE w (.slice p1 a1.1.length c1) a1.1) W2:=fun w2 k2=>Rw.of_own (HV1.out.keeps k2 (fun g hg c=>by have h1:=(HV1.out.lt hg).1;have h3:g<W1.heap.size:=c;omega)) (by simp) (fun i x u hx hu=>by rw[List.getElem?_map,hx] at hu;cases hu;rfl)
 have hlt:∀g,Two b br g→g<W1.heap.size:=fun g c=>by have h1:=HL.out.1;have h2:=HL.out.2.1;have h3:=HHs.out;have h4:=HWs1.out;rcases c with rfl | rfl<;>omega
 have hlast:=h1.keep (N2:=(·<w.heap.size)) HKs.out (fun g _ c=>by have h4:=HWs1.out;have h5:g=H:=c;show g<_;omega) (fun g _ c=>by have h3:=HHs.out;have h4:=HWs1.out;have h5:g<w.heap.size:=c;show g<_;omega)
 exact⟨[.string a0.1, .slice p1 a1.1.length c1],rfl,rfl,HON.out,fun w2 k2=>⟨.slice p1 a1.1.length c1,rfl,⟨hlast w2 k2⟩⟩,HO2.out,HK2.out⟩
theorem rGrp_fn {b br bv:Nat}:FnR Grp.E 2 Grp.rd b br bv 43 #[.pointer (some ⟨bv,0,none⟩)]:=
 ⟨enters_of Tryz.func43 rfl rfl,fun w st h hl=>rGrp_any w b br bv st h hl,Grp.rd_len⟩
theorem Rel.rd_len (st:Rs):(Rel.rd st).2.rest.length≤st.rest.length:=by
 unfold Rel.rd
 dsimp only
 have h0:=num_len st
 have h1:=num_len (numD st).2
 have h2:=num_len (numD (numD st).2).2
 have h3:=num_len (numD (numD (numD st).2).2).2
 have h4:=int_len (numD (numD (numD (numD st).2).2).2).2
 omega
set_option maxRecDepth 100000 in
set_option maxHeartbeats 4000000 in
theorem rRel_any (w:World) (b br bv:Nat) (st:Rs) (h:OrW w b br bv st) (hl:st.rest.length≤1000000000):
 Calls Tryz.prog 41 #[.pointer (some ⟨bv,0,none⟩)] w fun e w'=>∃cs,e= .returned (.agg cs.toArray)∧Rdn Rel.E 5 b br bv w (Rel.rd st).1 (Rel.rd st).2 cs w':=by
 obtain⟨a0,ha0⟩:∃a,numD st=a:=⟨_,rfl⟩
 obtain⟨a1,ha1⟩:∃a,numD a0.2=a:=⟨_,rfl⟩
 obtain⟨a2,ha2⟩:∃a,numD a1.2=a:=⟨_,rfl⟩
 obtain⟨a3,ha3⟩:∃a,numD a2.2=a:=⟨_,rfl⟩
 obtain⟨a4,ha4⟩:∃a,intD a3.2=a:=⟨_,rfl⟩
 have hE:Rel.rd st=(⟨a0.1,a1.1,a2.1,a3.1,a4.1⟩,a4.2):=by simp only[Rel.rd,ha0,ha1,ha2,ha3,ha4]
 rw[hE]
 have l0:=num_len st
 rw[ha0] at l0
 have r0:=Nat.le_trans l0 hl
 have HC0:=Hd.mk (fun w1 (h1:OrW w1 b br bv st)=>oNum_any h1 hl)
 rw[ha0] at HC0
 have l1:=num_len a0.2
 rw[ha1] at l1
 have r1:=Nat.le_trans l1 r0
 have HC1:=Hd.mk (fun w1 (h1:OrW w1 b br bv a0.2)=>oNum_any h1 r0)
 rw[ha1] at HC1
 have l2:=num_len a1.2
 rw[ha2] at l2
 have r2:=Nat.le_trans l2 r1
 have HC2:=Hd.mk (fun w1 (h1:OrW w1 b br bv a1.2)=>oNum_any h1 r1)
 rw[ha2] at HC2
 have l3:=num_len a2.2
 rw[ha3] at l3
 have r3:=Nat.le_trans l3 r2
 have HC3:=Hd.mk (fun w1 (h1:OrW w1 b br bv a2.2)=>oNum_any h1 r2)
 rw[ha3] at HC3
 have l4:=int_len a3.2
 rw[ha4] at l4
 have r4:=Nat.le_trans l4 r3
 have HC4:=Hd.mk (fun w1 (h1:OrW w1 b br bv a3.2)=>oInt_any h1 r3)
 rw[ha4] at HC4
 have hX:=Blk.new w 50 [.int .i64 0, .int .i64 0, .int .i64 0, .int .i64 0, .int .i64 0]
 have HB0:=Hd.mk hX
 have hS:((w.alloc (.cells #[.int .i64 0, .int .i64 0, .int .i64 0, .int .i64 0, .int .i64 0] 50)).drew.cell? ⟨bv,0,none⟩=some (.pointer (some ⟨br,0,none⟩)))∧(w.alloc (.cells #[.int .i64 0, .int .i64 0, .int .i64 0, .int .i64 0, .int .i64 0] 50)).drew.cell? ⟨br,0,none⟩=some (.pointer (some ⟨b,0,none⟩)):=⟨(h.alloc _).drew.var.at (j:=0) rfl,(h.alloc _).drew.own.at (j:=0) rfl⟩
 have HO:Hd (OrW (w.alloc (.cells #[.int .i64 0, .int .i64 0, .int .i64 0, .int .i64 0, .int .i64 0] 50)).drew b br bv st):=⟨(h.alloc _).drew⟩
 have HK:Hd (Keeps (Two b br) w (w.alloc (.cells #[.int .i64 0, .int .i64 0, .int .i64 0, .int .i64 0, .int .i64 0] 50)).drew):=⟨((Keeps.refl (Two b br) w).alloc _).drew⟩
 have HB:Hd (Blk (w.alloc (.cells #[.int .i64 0, .int .i64 0, .int .i64 0, .int .i64 0, .int .i64 0] 50)).drew w.heap.size 50 [.int .i64 0, .int .i64 0, .int .i64 0, .int .i64 0, .int .i64 0]):=⟨HB0.out.drew⟩
 have HL:Hd (b<w.heap.size∧br<w.heap.size∧bv<w.heap.size):=⟨⟨h.rd.blk.lt,h.own.lt,h.var.lt⟩⟩
 have HN2:Hd (b≠bv∧br≠bv):=⟨⟨h.ne2,h.ne3⟩⟩
 clear hX HB0 h hl hE l0 r0 ha0 l1 r1 ha1 l2 r2 ha2 l3 r3 ha3 l4 r4 ha4
 obtain⟨H,hH⟩:∃H,w.heap.size=H:=⟨_,rfl⟩
 have HHs:=Hd.mk hH
 go_enter Tryz.func41,Tryz.ntmps41
 go_wp2_with fail
 rw[hH] at HB
 obtain⟨W0,hW0⟩:∃W0,(w.alloc (.cells #[.int .i64 0, .int .i64 0, .int .i64 0, .int .i64 0, .int .i64 0] 50)).drew=W0:=⟨_,rfl⟩
 rw[hW0] at HO HK HB hS
 refine wp_region_lin default (fun w'=>w'.cell? ⟨bv,0,none⟩=some (.pointer (some ⟨br,0,none⟩))∧w'.cell? ⟨br,0,none⟩=some (.pointer (some ⟨b,0,none⟩))) [(0,true),(1,true),(2,true),(3,true),(5,true),(6,true),(7,true),(8,true),(10,true),(11,true),(12,true),(13,true),(15,true),(16,true),(17,true),(18,true),(20,true),(21,true),(22,true),(23,true),(4,false),(9,false),(14,false),(19,false),(24,false),(25,true),(26,false)] (by kernel_rfl) (by kernel_rfl) rfl (by kernel_rfl) (by kernel_rfl) (by rw[hW0];exact hS) ?_
 rw[hW0]
 simp only[pick,List.getD_cons_zero,List.getD_cons_succ]
 clear hS hH hW0
 repeat
  refine lin_free (v:= ?_) (by rfl) ?_ ?_
  rotate_left
  ·intro w' hSw
   have d0:=hSw.1
   have d1:=hSw.2
   clear hSw
   go_simp
   first | done | with_reducible rfl
  simp only[Act.put,List.setIfInBounds_toArray,List.set_cons_zero,List.set_cons_succ]
 refine lin_bound (fun K hK=> ?_)
 go_simp
 refine(HC0.out W0 HO.out).mono ?_
 rintro e W1 ⟨rfl,h1,k1⟩
 have KS0:=Hd.mk k1
 have hb1:Blk W1 H 50 [.int .i64 0, .int .i64 0, .int .i64 0, .int .i64 0, .int .i64 0]:=k1.blk HB.out (fun c=>by have h1:=HL.out.1;have h2:=HL.out.2.1;have h3:=HHs.out;rcases c with c | c<;>omega)
 refine hK.out _ _ ⟨h1.var.at (j:=0) rfl,h1.own.at (j:=0) rfl⟩ ?_
 have HB2:=Hd.mk hb1
 have HO2:=Hd.mk h1
 have HK2:=Hd.mk (HK.out.trans k1)
 clear hK K h1 k1 hb1 HB HO HK
 have HB:=HB2
 have HO:=HO2
 have HK:=HK2
 clear HB2 HO2 HK2
 refine lin_bound (fun K hK=> ?_)
 go_simp
 refine(HC1.out W1 HO.out).mono ?_
 rintro e W2 ⟨rfl,h1,k1⟩
 have KS1:=Hd.mk k1
 have hb1:Blk W2 H 50 [.int .i64 0, .int .i64 0, .int .i64 0, .int .i64 0, .int .i64 0]:=k1.blk HB.out (fun c=>by have h1:=HL.out.1;have h2:=HL.out.2.1;have h3:=HHs.out;rcases c with c | c<;>omega)
 refine hK.out _ _ ⟨h1.var.at (j:=0) rfl,h1.own.at (j:=0) rfl⟩ ?_
 have HB2:=Hd.mk hb1
 have HO2:=Hd.mk h1
 have HK2:=Hd.mk (HK.out.trans k1)
 clear hK K h1 k1 hb1 HB HO HK
 have HB:=HB2
 have HO:=HO2
 have HK:=HK2
 clear HB2 HO2 HK2
 refine lin_bound (fun K hK=> ?_)
 go_simp
 refine(HC2.out W2 HO.out).mono ?_
 rintro e W3 ⟨rfl,h1,k1⟩
 have KS2:=Hd.mk k1
 have hb1:Blk W3 H 50 [.int .i64 0, .int .i64 0, .int .i64 0, .int .i64 0, .int .i64 0]:=k1.blk HB.out (fun c=>by have h1:=HL.out.1;have h2:=HL.out.2.1;have h3:=HHs.out;rcases c with c | c<;>omega)
 refine hK.out _ _ ⟨h1.var.at (j:=0) rfl,h1.own.at (j:=0) rfl⟩ ?_
 have HB2:=Hd.mk hb1
 have HO2:=Hd.mk h1
 have HK2:=Hd.mk (HK.out.trans k1)
 clear hK K h1 k1 hb1 HB HO HK
 have HB:=HB2
 have HO:=HO2
 have HK:=HK2
 clear HB2 HO2 HK2
 refine lin_bound (fun K hK=> ?_)
 go_simp
 refine(HC3.out W3 HO.out).mono ?_
 rintro e W4 ⟨rfl,h1,k1⟩
 have KS3:=Hd.mk k1
 have hb1:Blk W4 H 50 [.int .i64 0, .int .i64 0, .int .i64 0, .int .i64 0, .int .i64 0]:=k1.blk HB.out (fun c=>by have h1:=HL.out.1;have h2:=HL.out.2.1;have h3:=HHs.out;rcases c with c | c<;>omega)
 refine hK.out _ _ ⟨h1.var.at (j:=0) rfl,h1.own.at (j:=0) rfl⟩ ?_
 have HB2:=Hd.mk hb1
 have HO2:=Hd.mk h1
 have HK2:=Hd.mk (HK.out.trans k1)
 clear hK K h1 k1 hb1 HB HO HK
 have HB:=HB2
 have HO:=HO2
 have HK:=HK2
 clear HB2 HO2 HK2
 refine lin_bound (fun K hK=> ?_)
 go_simp
 refine(HC4.out W4 HO.out).mono ?_
 rintro e W5 ⟨rfl,h1,k1⟩
 have KS4:=Hd.mk k1
 have hb1:Blk W5 H 50 [.int .i64 0, .int .i64 0, .int .i64 0, .int .i64 0, .int .i64 0]:=k1.blk HB.out (fun c=>by have h1:=HL.out.1;have h2:=HL.out.2.1;have h3:=HHs.out;rcases c with c | c<;>omega)
 refine hK.out _ _ ⟨h1.var.at (j:=0) rfl,h1.own.at (j:=0) rfl⟩ ?_
 have HB2:=Hd.mk hb1
 have HO2:=Hd.mk h1
 have HK2:=Hd.mk (HK.out.trans k1)
 clear hK K h1 k1 hb1 HB HO HK
 have HB:=HB2
 have HO:=HO2
 have HK:=HK2
 clear HB2 HO2 HK2
 repeat
  refine lin_free (v:= ?_) (by rfl) ?_ ?_
  rotate_left
  ·intro w' hSw
   have d0:=hSw.1
   have d1:=hSw.2
   clear hSw
   go_simp
   first | done | with_reducible rfl
  simp only[Act.put,List.setIfInBounds_toArray,List.set_cons_zero,List.set_cons_succ]
 refine lin_bound (fun K hK=> ?_)
 have hb2:Blk (W5.setCells H 0 [.int .i64 a0.1, .int .i64 a1.1, .int .i64 a2.1, .int .i64 a3.1, .int .i64 a4.1]) H 50 [.int .i64 a0.1, .int .i64 a1.1, .int .i64 a2.1, .int .i64 a3.1, .int .i64 a4.1]:=by
  have:=Blk.setAll [.int .i64 a0.1, .int .i64 a1.1, .int .i64 a2.1, .int .i64 a3.1, .int .i64 a4.1] 0 [.int .i64 0, .int .i64 0, .int .i64 0, .int .i64 0, .int .i64 0] HB.out rfl
  simpa using this
 have hk2:=keeps_setAll H [.int .i64 a0.1, .int .i64 a1.1, .int .i64 a2.1, .int .i64 a3.1, .int .i64 a4.1] 0 W5
 have hnb:∀g,g<w.heap.size→¬g=H:=fun g hg c=>by have:=HHs.out;omega
 have ho2:OrW (W5.setCells H 0 [.int .i64 a0.1, .int .i64 a1.1, .int .i64 a2.1, .int .i64 a3.1, .int .i64 a4.1]) b br bv a4.2:=HO.out.keep hk2 (hnb _ HL.out.1) (hnb _ HL.out.2.1) (hnb _ HL.out.2.2)
 have HB2:=Hd.mk hb2
 have HK2:Hd (Keeps (Two b br) w (W5.setCells H 0 [.int .i64 a0.1, .int .i64 a1.1, .int .i64 a2.1, .int .i64 a3.1, .int .i64 a4.1])):=⟨HK.out.new hk2 (fun g c=> .inr (by have:=HHs.out;omega))⟩
 have HO2:=Hd.mk ho2
 have HI:Hd ((Tryz.prog.info? 50).map (·.size)=some 5):=⟨by kernel_rfl⟩
 have HT:Hd (W5.there H 0 5):=⟨fun j hj=>⟨by
  rw[Nat.zero_add,HB.out.cell]
  have:j< [(0:Nat),(0:Nat),(0:Nat),(0:Nat),(0:Nat)].length:=hj
  rcases j with _ | _ | _ | _ | _ | j<;>first | rfl | (simp at this;omega),HB.out.free _⟩⟩
 have HKs:=Hd.mk hk2
 clear hb2 ho2 hnb hk2
 have HON:Hd (∀u∈([.int .i64 a0.1, .int .i64 a1.1, .int .i64 a2.1, .int .i64 a3.1, .int .i64 a4.1]:List Value),u.oneCell'=true):=⟨by intro u hu;simp only[List.mem_cons,List.not_mem_nil,or_false] at hu;rcases hu with rfl | rfl | rfl | rfl | rfl<;>rfl⟩
 refine wanted_step (by kernel_rfl) ?_
 refine wp_store_mid 50 _ _ rfl H 0 #[.int .i64 a0.1, .int .i64 a1.1, .int .i64 a2.1, .int .i64 a3.1, .int .i64 a4.1] rfl rfl HT.out HI.out (all_oneCell_toArray HON.out) ?_
 refine hK.out _ _ ⟨HO2.out.var.at (j:=0) rfl,HO2.out.own.at (j:=0) rfl⟩ ?_
 clear hK K
 refine NoPanic.normal ?_
 simp only[Exit.then,Act.put]
 rename_i Q0 K0 hret
 refine hret _ _ (Go.wp_ret ?_)
 show bodyPost _ _ _ _ _ _
 refine bodyPost_ret (results_cell_row rfl _ _ H 50 _ (0,0) _ rfl HB2.out.is Tryz.underlying50 rfl (by kernel_rfl)) rfl ?_
 exact⟨[.int .i64 a0.1, .int .i64 a1.1, .int .i64 a2.1, .int .i64 a3.1, .int .i64 a4.1],rfl,rfl,HON.out,Std.of (fun _=>rfl) _,HO2.out,HK2.out⟩
theorem rRel_fn {b br bv:Nat}:FnR Rel.E 5 Rel.rd b br bv 41 #[.pointer (some ⟨bv,0,none⟩)]:=
 ⟨enters_of Tryz.func41 rfl rfl,fun w st h hl=>rRel_any w b br bv st h hl,Rel.rd_len⟩
theorem Dep.rd_len (st:Rs):(Dep.rd st).2.rest.length≤st.rest.length:=by
 unfold Dep.rd
 dsimp only
 have h0:=num_len st
 have h1:=num_len (numD st).2
 have h2:=num_len (numD (numD st).2).2
 have h3:=num_len (numD (numD (numD st).2).2).2
 omega
set_option maxRecDepth 100000 in
set_option maxHeartbeats 4000000 in
theorem rDep_any (w:World) (b br bv:Nat) (st:Rs) (h:OrW w b br bv st) (hl:st.rest.length≤1000000000):
 Calls Tryz.prog 54 #[.pointer (some ⟨bv,0,none⟩)] w fun e w'=>∃cs,e= .returned (.agg cs.toArray)∧Rdn Dep.E 4 b br bv w (Dep.rd st).1 (Dep.rd st).2 cs w':=by
 obtain⟨a0,ha0⟩:∃a,numD st=a:=⟨_,rfl⟩
 obtain⟨a1,ha1⟩:∃a,numD a0.2=a:=⟨_,rfl⟩
 obtain⟨a2,ha2⟩:∃a,numD a1.2=a:=⟨_,rfl⟩
 obtain⟨a3,ha3⟩:∃a,numD a2.2=a:=⟨_,rfl⟩
 have hE:Dep.rd st=(⟨a0.1,a1.1,a2.1,a3.1⟩,a3.2):=by simp only[Dep.rd,ha0,ha1,ha2,ha3]
 rw[hE]
 have l0:=num_len st
 rw[ha0] at l0
 have r0:=Nat.le_trans l0 hl
 have HC0:=Hd.mk (fun w1 (h1:OrW w1 b br bv st)=>oNum_any h1 hl)
 rw[ha0] at HC0
 have l1:=num_len a0.2
 rw[ha1] at l1
 have r1:=Nat.le_trans l1 r0
 have HC1:=Hd.mk (fun w1 (h1:OrW w1 b br bv a0.2)=>oNum_any h1 r0)
 rw[ha1] at HC1
 have l2:=num_len a1.2
 rw[ha2] at l2
 have r2:=Nat.le_trans l2 r1
 have HC2:=Hd.mk (fun w1 (h1:OrW w1 b br bv a1.2)=>oNum_any h1 r1)
 rw[ha2] at HC2
 have l3:=num_len a2.2
 rw[ha3] at l3
 have r3:=Nat.le_trans l3 r2
 have HC3:=Hd.mk (fun w1 (h1:OrW w1 b br bv a2.2)=>oNum_any h1 r2)
 rw[ha3] at HC3
 have hX:=Blk.new w 98 [.int .i64 0, .int .i64 0, .int .i64 0, .int .i64 0]
 have HB0:=Hd.mk hX
 have hS:((w.alloc (.cells #[.int .i64 0, .int .i64 0, .int .i64 0, .int .i64 0] 98)).drew.cell? ⟨bv,0,none⟩=some (.pointer (some ⟨br,0,none⟩)))∧(w.alloc (.cells #[.int .i64 0, .int .i64 0, .int .i64 0, .int .i64 0] 98)).drew.cell? ⟨br,0,none⟩=some (.pointer (some ⟨b,0,none⟩)):=⟨(h.alloc _).drew.var.at (j:=0) rfl,(h.alloc _).drew.own.at (j:=0) rfl⟩
 have HO:Hd (OrW (w.alloc (.cells #[.int .i64 0, .int .i64 0, .int .i64 0, .int .i64 0] 98)).drew b br bv st):=⟨(h.alloc _).drew⟩
 have HK:Hd (Keeps (Two b br) w (w.alloc (.cells #[.int .i64 0, .int .i64 0, .int .i64 0, .int .i64 0] 98)).drew):=⟨((Keeps.refl (Two b br) w).alloc _).drew⟩
 have HB:Hd (Blk (w.alloc (.cells #[.int .i64 0, .int .i64 0, .int .i64 0, .int .i64 0] 98)).drew w.heap.size 98 [.int .i64 0, .int .i64 0, .int .i64 0, .int .i64 0]):=⟨HB0.out.drew⟩
 have HL:Hd (b<w.heap.size∧br<w.heap.size∧bv<w.heap.size):=⟨⟨h.rd.blk.lt,h.own.lt,h.var.lt⟩⟩
 have HN2:Hd (b≠bv∧br≠bv):=⟨⟨h.ne2,h.ne3⟩⟩
 clear hX HB0 h hl hE l0 r0 ha0 l1 r1 ha1 l2 r2 ha2 l3 r3 ha3
 obtain⟨H,hH⟩:∃H,w.heap.size=H:=⟨_,rfl⟩
 have HHs:=Hd.mk hH
 go_enter Tryz.func54,Tryz.ntmps54
 go_wp2_with fail
 rw[hH] at HB
 obtain⟨W0,hW0⟩:∃W0,(w.alloc (.cells #[.int .i64 0, .int .i64 0, .int .i64 0, .int .i64 0] 98)).drew=W0:=⟨_,rfl⟩
 rw[hW0] at HO HK HB hS
 refine wp_region_lin default (fun w'=>w'.cell? ⟨bv,0,none⟩=some (.pointer (some ⟨br,0,none⟩))∧w'.cell? ⟨br,0,none⟩=some (.pointer (some ⟨b,0,none⟩))) [(0,true),(1,true),(2,true),(3,true),(5,true),(6,true),(7,true),(8,true),(10,true),(11,true),(12,true),(13,true),(15,true),(16,true),(17,true),(18,true),(4,false),(9,false),(14,false),(19,false),(20,true),(21,false)] (by kernel_rfl) (by kernel_rfl) rfl (by kernel_rfl) (by kernel_rfl) (by rw[hW0];exact hS) ?_
 rw[hW0]
 simp only[pick,List.getD_cons_zero,List.getD_cons_succ]
 clear hS hH hW0
 repeat
  refine lin_free (v:= ?_) (by rfl) ?_ ?_
  rotate_left
  ·intro w' hSw
   have d0:=hSw.1
   have d1:=hSw.2
   clear hSw
   go_simp
   first | done | with_reducible rfl
  simp only[Act.put,List.setIfInBounds_toArray,List.set_cons_zero,List.set_cons_succ]
 refine lin_bound (fun K hK=> ?_)
 go_simp
 refine(HC0.out W0 HO.out).mono ?_
 rintro e W1 ⟨rfl,h1,k1⟩
 have KS0:=Hd.mk k1
 have hb1:Blk W1 H 98 [.int .i64 0, .int .i64 0, .int .i64 0, .int .i64 0]:=k1.blk HB.out (fun c=>by have h1:=HL.out.1;have h2:=HL.out.2.1;have h3:=HHs.out;rcases c with c | c<;>omega)
 refine hK.out _ _ ⟨h1.var.at (j:=0) rfl,h1.own.at (j:=0) rfl⟩ ?_
 have HB2:=Hd.mk hb1
 have HO2:=Hd.mk h1
 have HK2:=Hd.mk (HK.out.trans k1)
 clear hK K h1 k1 hb1 HB HO HK
 have HB:=HB2
 have HO:=HO2
 have HK:=HK2
 clear HB2 HO2 HK2
 refine lin_bound (fun K hK=> ?_)
 go_simp
 refine(HC1.out W1 HO.out).mono ?_
 rintro e W2 ⟨rfl,h1,k1⟩
 have KS1:=Hd.mk k1
 have hb1:Blk W2 H 98 [.int .i64 0, .int .i64 0, .int .i64 0, .int .i64 0]:=k1.blk HB.out (fun c=>by have h1:=HL.out.1;have h2:=HL.out.2.1;have h3:=HHs.out;rcases c with c | c<;>omega)
 refine hK.out _ _ ⟨h1.var.at (j:=0) rfl,h1.own.at (j:=0) rfl⟩ ?_
 have HB2:=Hd.mk hb1
 have HO2:=Hd.mk h1
 have HK2:=Hd.mk (HK.out.trans k1)
 clear hK K h1 k1 hb1 HB HO HK
 have HB:=HB2
 have HO:=HO2
 have HK:=HK2
 clear HB2 HO2 HK2
 refine lin_bound (fun K hK=> ?_)
 go_simp
 refine(HC2.out W2 HO.out).mono ?_
 rintro e W3 ⟨rfl,h1,k1⟩
 have KS2:=Hd.mk k1
 have hb1:Blk W3 H 98 [.int .i64 0, .int .i64 0, .int .i64 0, .int .i64 0]:=k1.blk HB.out (fun c=>by have h1:=HL.out.1;have h2:=HL.out.2.1;have h3:=HHs.out;rcases c with c | c<;>omega)
 refine hK.out _ _ ⟨h1.var.at (j:=0) rfl,h1.own.at (j:=0) rfl⟩ ?_
 have HB2:=Hd.mk hb1
 have HO2:=Hd.mk h1
 have HK2:=Hd.mk (HK.out.trans k1)
 clear hK K h1 k1 hb1 HB HO HK
 have HB:=HB2
 have HO:=HO2
 have HK:=HK2
 clear HB2 HO2 HK2
 refine lin_bound (fun K hK=> ?_)
 go_simp
 refine(HC3.out W3 HO.out).mono ?_
 rintro e W4 ⟨rfl,h1,k1⟩
 have KS3:=Hd.mk k1
 have hb1:Blk W4 H 98 [.int .i64 0, .int .i64 0, .int .i64 0, .int .i64 0]:=k1.blk HB.out (fun c=>by have h1:=HL.out.1;have h2:=HL.out.2.1;have h3:=HHs.out;rcases c with c | c<;>omega)
 refine hK.out _ _ ⟨h1.var.at (j:=0) rfl,h1.own.at (j:=0) rfl⟩ ?_
 have HB2:=Hd.mk hb1
 have HO2:=Hd.mk h1
 have HK2:=Hd.mk (HK.out.trans k1)
 clear hK K h1 k1 hb1 HB HO HK
 have HB:=HB2
 have HO:=HO2
 have HK:=HK2
 clear HB2 HO2 HK2
 repeat
  refine lin_free (v:= ?_) (by rfl) ?_ ?_
  rotate_left
  ·intro w' hSw
   have d0:=hSw.1
   have d1:=hSw.2
   clear hSw
   go_simp
   first | done | with_reducible rfl
  simp only[Act.put,List.setIfInBounds_toArray,List.set_cons_zero,List.set_cons_succ]
 refine lin_bound (fun K hK=> ?_)
 have hb2:Blk (W4.setCells H 0 [.int .i64 a0.1, .int .i64 a1.1, .int .i64 a2.1, .int .i64 a3.1]) H 98 [.int .i64 a0.1, .int .i64 a1.1, .int .i64 a2.1, .int .i64 a3.1]:=by
  have:=Blk.setAll [.int .i64 a0.1, .int .i64 a1.1, .int .i64 a2.1, .int .i64 a3.1] 0 [.int .i64 0, .int .i64 0, .int .i64 0, .int .i64 0] HB.out rfl
  simpa using this
 have hk2:=keeps_setAll H [.int .i64 a0.1, .int .i64 a1.1, .int .i64 a2.1, .int .i64 a3.1] 0 W4
 have hnb:∀g,g<w.heap.size→¬g=H:=fun g hg c=>by have:=HHs.out;omega
 have ho2:OrW (W4.setCells H 0 [.int .i64 a0.1, .int .i64 a1.1, .int .i64 a2.1, .int .i64 a3.1]) b br bv a3.2:=HO.out.keep hk2 (hnb _ HL.out.1) (hnb _ HL.out.2.1) (hnb _ HL.out.2.2)
 have HB2:=Hd.mk hb2
 have HK2:Hd (Keeps (Two b br) w (W4.setCells H 0 [.int .i64 a0.1, .int .i64 a1.1, .int .i64 a2.1, .int .i64 a3.1])):=⟨HK.out.new hk2 (fun g c=> .inr (by have:=HHs.out;omega))⟩
 have HO2:=Hd.mk ho2
 have HI:Hd ((Tryz.prog.info? 98).map (·.size)=some 4):=⟨by kernel_rfl⟩
 have HT:Hd (W4.there H 0 4):=⟨fun j hj=>⟨by
  rw[Nat.zero_add,HB.out.cell]
  have:j< [(0:Nat),(0:Nat),(0:Nat),(0:Nat)].length:=hj
  rcases j with _ | _ | _ | _ | j<;>first | rfl | (simp at this;omega),HB.out.free _⟩⟩
 have HKs:=Hd.mk hk2
 clear hb2 ho2 hnb hk2
 have HON:Hd (∀u∈([.int .i64 a0.1, .int .i64 a1.1, .int .i64 a2.1, .int .i64 a3.1]:List Value),u.oneCell'=true):=⟨by intro u hu;simp only[List.mem_cons,List.not_mem_nil,or_false] at hu;rcases hu with rfl | rfl | rfl | rfl<;>rfl⟩
 refine wanted_step (by kernel_rfl) ?_
 refine wp_store_mid 98 _ _ rfl H 0 #[.int .i64 a0.1, .int .i64 a1.1, .int .i64 a2.1, .int .i64 a3.1] rfl rfl HT.out HI.out (all_oneCell_toArray HON.out) ?_
 refine hK.out _ _ ⟨HO2.out.var.at (j:=0) rfl,HO2.out.own.at (j:=0) rfl⟩ ?_
 clear hK K
 refine NoPanic.normal ?_
 simp only[Exit.then,Act.put]
 rename_i Q0 K0 hret
 refine hret _ _ (Go.wp_ret ?_)
 show bodyPost _ _ _ _ _ _
 refine bodyPost_ret (results_cell_row rfl _ _ H 98 _ (0,0) _ rfl HB2.out.is Tryz.underlying98 rfl (by kernel_rfl)) rfl ?_
 exact⟨[.int .i64 a0.1, .int .i64 a1.1, .int .i64 a2.1, .int .i64 a3.1],rfl,rfl,HON.out,Std.of (fun _=>rfl) _,HO2.out,HK2.out⟩
theorem rDep_fn {b br bv:Nat}:FnR Dep.E 4 Dep.rd b br bv 54 #[.pointer (some ⟨bv,0,none⟩)]:=
 ⟨enters_of Tryz.func54 rfl rfl,fun w st h hl=>rDep_any w b br bv st h hl,Dep.rd_len⟩
end Go.Proofs.YtfaepbjnpakghaaGreatDoor.W
