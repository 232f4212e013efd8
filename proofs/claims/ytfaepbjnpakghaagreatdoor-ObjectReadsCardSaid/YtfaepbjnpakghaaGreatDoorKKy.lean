import Derived.Test.YtfaepbjnpakghaaGreatDoorKBy
import Derived.Test.YtfaepbjnpakghaaGreatDoorKFmO
import Derived.Test.YtfaepbjnpakghaaGreatDoorKForm3
import Derived.Test.YtfaepbjnpakghaaGreatDoorKab
/- The walks of Key, Find, Digest; the texts' encoding for long strings. -/
namespace Go.Proofs.YtfaepbjnpakghaaGreatDoor.W
open Go.RowKit
set_option linter.unusedVariables false
set_option linter.unusedSimpArgs false
set_option maxHeartbeats 1000000 in
theorem wtext_big (s:ByteArray) (hs:lenR s.size) (w:World):
 Calls Tryz.prog 89 #[.string s] w fun e w'=>e= .returned (.string ⟨(strL s).toArray⟩)∧Below w.heap.size w w':=by
 have hs:s.size≤140737488351232:=hs
 have hl:(⟨(numL s.size).toArray⟩:ByteArray).size≤10:=numL_len s.size
 have he:=Hd.mk (text_eq s)
 have HC:=Hd.mk (fun w=>wnum_any s.size (by omega) w)
 obtain⟨t,ht⟩:∃t:ByteArray,(⟨(numL s.size).toArray⟩:ByteArray)=t:=⟨_,rfl⟩
 rw[ht] at hl he HC
 unfold strL
 rw[←he.out]
 have hsum:¬9223372036854775807<t.size+s.size:=by omega
 clear ht
 go_enter Tryz.func89,Tryz.ntmps89
 go_wp2_with fail
 refine(HC.out _).mono ?_
 rintro e w1 ⟨rfl,hB⟩
 have HB:=Hd.mk hB
 clear hB
 go_wp2
 go_ret
 exact⟨rfl,HB.out⟩
set_option maxHeartbeats 1000000 in
theorem r2text_big (s:ByteArray) (hs:lenR s.size) (w:World):
 Calls Tryz.prog 126 #[.string s] w fun e w'=>e= .returned (.string ⟨(strL s).toArray⟩)∧Below w.heap.size w w':=by
 have hs:s.size≤140737488351232:=hs
 have hl:(⟨(numL s.size).toArray⟩:ByteArray).size≤10:=numL_len s.size
 have he:=Hd.mk (text_eq s)
 have HC:=Hd.mk (fun w=>r2num_any s.size (by omega) w)
 obtain⟨t,ht⟩:∃t:ByteArray,(⟨(numL s.size).toArray⟩:ByteArray)=t:=⟨_,rfl⟩
 rw[ht] at hl he HC
 unfold strL
 rw[←he.out]
 have hsum:¬9223372036854775807<t.size+s.size:=by omega
 clear ht
 go_enter Tryz.func126,Tryz.ntmps126
 go_wp2_with fail
 refine(HC.out _).mono ?_
 rintro e w1 ⟨rfl,hB⟩
 have HB:=Hd.mk hB
 clear hB
 go_wp2
 go_ret
 exact⟨rfl,HB.out⟩
theorem strL_len (s:ByteArray):(⟨(strL s).toArray⟩:ByteArray).size≤10+s.size:=text_len s
theorem hasB_some {o:Ob} {i:Int} (h:hasB o i=true):∃k:Nat,i=(k:Int)∧∃hk:k<o.secs.length,secOk o.secs[k]=true:=by
 unfold hasB at h
 split at h
 ·rename_i s hs
  have hi0:0≤i:=by
   rcases Int.lt_or_le i 0 with h | h
   ·rw[secAt_out (.inl h)] at hs;cases hs
   ·exact h
  obtain⟨k,rfl⟩:=Int.eq_ofNat_of_zero_le hi0
  have hk:k<o.secs.length:=by
   rcases Nat.lt_or_ge k o.secs.length with h | h
   ·exact h
   ·rw[secAt_out (.inr (by omega))] at hs;cases hs
  rw[secAt_in hk] at hs
  cases hs
  exact⟨k,rfl,hk,h⟩
 ·cases h
theorem keyO_out {o:Ob} {i:Int} (h:hasB o i=false):keyO o i=[]:=by
 unfold hasB at h;unfold keyO
 split at h
 ·rename_i s hs;rw[hs];simp[h]
 ·rename_i hs;rw[hs]
theorem keyO_in {o:Ob} {k:Nat} (hk:k<o.secs.length) (h:secOk o.secs[k]=true):keyO o (k:Int)=strL o.name++strL o.secs[k].name:=by
 unfold keyO
 rw[secAt_in hk]
 simp only
 rw[if_pos h]
set_option maxHeartbeats 2000000 in
set_option maxRecDepth 100000 in
theorem okey_any (w:World) (o:Ob) (x1 x2 x3 x4 x5 x6 x7 x8 x9 x10:Value) (i:Int) (hA:o.At w x1 x2 x3 x4 x5 x6 x7 x8 x9 x10) (hk:o.Ok):
 Calls Tryz.prog 23 #[.agg (o.arr x1 x2 x3 x4 x5 x6 x7 x8 x9 x10), .int .i64 i] w fun e w'=>e= .returned (.string ⟨(keyO o i).toArray⟩)∧Below w.heap.size w w':=by
 have hH:∀w1,Below w.heap.size w w1→Calls Tryz.prog 120 #[.agg (o.arr x1 x2 x3 x4 x5 x6 x7 x8 x9 x10), .int .i64 i] w1 fun e w'=>e= .returned (.bool (hasB o i))∧Below w1.heap.size w1 w':=fun w1 h=>ohas_any w1 o x1 x2 x3 x4 x5 x6 x7 x8 x9 x10 i (hA.below h) hk.secs
 have hS:=hA.secs
 rcases hB:hasB o i with _ | _
 ·rw[hB] at hH
  have HH:=Hd.mk hH
  rw[keyO_out hB]
  clear hA hk hS hB hH
  unfold Ob.arr at HH⊢
  go_enter Tryz.func23,Tryz.ntmps23
  go_wp2_with fail
  refine(HH.out _ (by go_grown)).mono ?_
  rintro e w1 ⟨rfl,hb1⟩
  have HB1:Hd (Below w.heap.size w w1):=⟨Below.trans (by go_grown) (hb1.mono (by simp))⟩
  clear hb1
  go_wp2
  go_ret
  exact⟨rfl,HB1.out⟩
 ·rw[hB] at hH
  have HH:=Hd.mk hH
  obtain⟨k,rfl,hkl,hok⟩:=hasB_some hB
  rw[keyO_in hkl hok]
  obtain⟨p,c,rfl⟩:=hS.slice
  obtain⟨g,of,cs,rfl,hg,hcl,hE,hc⟩:=hS.at rfl hkl
  have hsz:=(hk.secsI _ (List.getElem_mem hkl)).name
  have hnm:=hk.name
  obtain⟨s,hs⟩:∃s,o.secs[k]=s:=⟨_,rfl⟩
  rw[hs] at hE hsz⊢
  have hE':cs=s.cells:=hE
  subst hE'
  have hc0:=hc 0 _ rfl
  rw[Nat.add_zero] at hc0
  obtain⟨N,hN⟩:∃N,o.secs.length=N:=⟨_,rfl⟩
  rw[hN] at hkl
  have j0:(0:Int)≤(k:Int):=by omega
  have j1:(k:Int)< (N:Int):=by omega
  have HC1:=Hd.mk (fun w=>wtext_big o.name hnm w)
  have HC2:=Hd.mk (fun w=>wtext_big s.name hsz w)
  have z1:=strL_len o.name
  have z2:=strL_len s.name
  obtain⟨t1,ht1⟩:∃t:ByteArray,(⟨(strL o.name).toArray⟩:ByteArray)=t:=⟨_,rfl⟩
  obtain⟨t2,ht2⟩:∃t:ByteArray,(⟨(strL s.name).toArray⟩:ByteArray)=t:=⟨_,rfl⟩
  have he:(⟨(strL o.name++strL s.name).toArray⟩:ByteArray)=t1++t2:=by rw[←cat_toArray,ht1,ht2]
  rw[he]
  rw[ht1] at HC1 z1
  rw[ht2] at HC2 z2
  have hsum:¬9223372036854775807<t1.size+t2.size:=by unfold lenR at hsz hnm;omega
  unfold Ob.arr at HH⊢
  rw[hN] at HH⊢
  clear hA hk hS hB hH hE hcl hsz hnm hN z1 z2 ht1 ht2 he hs hok
  have HG:=Hd.mk (And.intro hc0 hg)
  clear hc hc0 hg
  go_enter Tryz.func23,Tryz.ntmps23
  go_wp2_with fail
  refine(HH.out _ (by go_grown)).mono ?_
  rintro e w1 ⟨rfl,hb1⟩
  have HB1:Hd (Below w.heap.size w w1):=⟨Below.trans (by go_grown) (hb1.mono (by simp))⟩
  have hf:∀w',Below w1.drew.heap.size w1.drew w'→w'.cell? ⟨w.heap.size,0,none⟩=some (.string o.name)∧w'.cell? ⟨w.heap.size,1,none⟩=some (.slice (some ⟨g,of,none⟩) N c)∧w'.cell? ⟨g,of+k*6,none⟩=some (.string s.name):=fun w' h=>by
   have hlt:w.heap.size<w1.heap.size:=Nat.lt_of_lt_of_le (by simp) hb1.size
   refine⟨(h.cell (p:=⟨w.heap.size,0,none⟩) hlt).trans ((hb1.cell (p:=⟨w.heap.size,0,none⟩) (by simp)).trans (by simp[go_sem])),(h.cell (p:=⟨w.heap.size,1,none⟩) hlt).trans ((hb1.cell (p:=⟨w.heap.size,1,none⟩) (by simp)).trans (by simp[go_sem])),?_⟩
   exact(h.cell (p:=⟨g,of+k*6,none⟩) (Nat.lt_of_lt_of_le HG.out.2 HB1.out.size)).trans ((HB1.out.cell (p:=⟨g,of+k*6,none⟩) HG.out.2).trans HG.out.1)
  have HF:=Hd.mk hf
  clear hf hb1
  go_wp2_with fail
  refine wp_region_lin default (fun w'=>Below w1.drew.heap.size w1.drew w') [(0,true),(1,true),(3,true),(4,true),(5,true),(6,true),(7,true),(8,true),(2,false),(9,false),(10,true),(11,true)] (by kernel_rfl) (by kernel_rfl) rfl (by kernel_rfl) (by kernel_rfl) (Below.refl _ _) ?_
  simp only[pick,List.getD_cons_zero,List.getD_cons_succ]
  repeat
   refine lin_free (v:= ?_) (by rfl) ?_ ?_
   rotate_left
   ·intro w' hSw
    obtain⟨d0,d1,d2⟩:=HF.out w' hSw
    clear hSw
    go_simp
    first | done | with_reducible rfl
   simp only[Act.put,List.setIfInBounds_toArray,List.set_cons_zero,List.set_cons_succ]
  refine lin_bound (fun K hK=> ?_)
  go_simp
  refine(HC1.out _).mono ?_
  rintro e w2 ⟨rfl,h2⟩
  refine hK.out _ _ h2 ?_
  have H2:=Hd.mk h2
  clear hK K h2
  refine lin_bound (fun K hK=> ?_)
  go_simp
  refine(HC2.out _).mono ?_
  rintro e w3 ⟨rfl,h3⟩
  have h23:Below w1.drew.heap.size w1.drew w3:=H2.out.trans (h3.mono H2.out.size)
  refine hK.out _ _ h23 ?_
  have H3:Hd (Below w.heap.size w w3):=⟨HB1.out.trans (((Below.drew (Below.refl w1.heap.size w1)).trans h23).mono HB1.out.size)⟩
  clear hK K h3 h23
  repeat
   refine lin_free (v:= ?_) (by rfl) ?_ ?_
   rotate_left
   ·intro w' hSw
    clear hSw
    go_simp
    first | done | with_reducible rfl
   simp only[Act.put,List.setIfInBounds_toArray,List.set_cons_zero,List.set_cons_succ]
  refine NoPanic.normal ?_
  go_wp2
  go_ret
  exact⟨rfl,H3.out⟩
def findP (nm vr:ByteArray) (s:Sym):Bool:=decide (s.name=nm)&&decide (s.version=vr)
theorem ofind1_any (w:World) (x:Sym) (b1 b2:Nat) (nm vr:ByteArray) (h1:w.cell? ⟨b1,0,none⟩=some (.string nm)) (h2:w.cell? ⟨b2,0,none⟩=some (.string vr)):
 Calls Tryz.prog 66 #[.agg #[.string x.name, .string x.version, .bool x.main, .int .i64 x.bind, .int .i64 x.vis, .int .i64 x.kind, .int .i64 x.sec, .int .i64 x.at_, .int .i64 x.size, .int .i64 x.align], .pointer (some ⟨b1,0,none⟩), .pointer (some ⟨b2,0,none⟩)] w fun e w'=>e= .returned (.bool (findP nm vr x))∧Below w.heap.size w w':=by
 have e1:=str_beq x.name nm
 have e2:=str_beq x.version vr
 have hf:findP nm vr x=(decide (x.name=nm)&&decide (x.version=vr)):=rfl
 have d1:∀ob,(w.alloc ob).cell? ⟨b1,0,none⟩=some (.string nm):=fun ob=>by rw[World.cell?_alloc_some _ _ _ (by rw[h1];rfl)];exact h1
 have d2:∀ob,(w.alloc ob).cell? ⟨b2,0,none⟩=some (.string vr):=fun ob=>by rw[World.cell?_alloc_some _ _ _ (by rw[h2];rfl)];exact h2
 obtain⟨q1,hq1⟩:∃q,decide (x.name=nm)=q:=⟨_,rfl⟩
 obtain⟨q2,hq2⟩:∃q,decide (x.version=vr)=q:=⟨_,rfl⟩
 rw[hq1] at e1 hf
 rw[hq2] at e2 hf
 have HF:=Hd.mk hf
 clear hf hq1 hq2 h1 h2
 rw[HF.out]
 rcases q1 with _ | _
 ·go_enter Tryz.func66,Tryz.ntmps66
  go_wp2
  go_ret
  exact⟨rfl,by go_grown⟩
 ·go_enter Tryz.func66,Tryz.ntmps66
  go_wp2
  go_ret
  exact⟨by rfl,by go_grown⟩
def findI (o:Ob) (nm vr:ByteArray):Int:=idxP (findP nm vr) o.syms
theorem findI_ge (o:Ob) (nm vr:ByteArray): -1≤findI o nm vr:=by unfold findI idxP;split<;>omega
set_option maxHeartbeats 1000000 in
theorem ofind_any (w:World) (o:Ob) (x1 x2 x3 x4 x5 x6 x7 x8 x9 x10:Value) (nm vr:ByteArray) (hA:o.At w x1 x2 x3 x4 x5 x6 x7 x8 x9 x10) (hk:o.Ok):
 Calls Tryz.prog 12 #[.agg (o.arr x1 x2 x3 x4 x5 x6 x7 x8 x9 x10), .string nm, .string vr] w fun e w'=>e= .returned (.tuple #[.int .i64 (max (findI o nm vr) 0), .bool (decide (0≤findI o nm vr))])∧Below w.heap.size w w':=by
 unfold Ob.arr
 have hX:∀w1 b1 b2,Below w.heap.size w w1→w1.cell? ⟨b1,0,none⟩=some (.string nm)→w1.cell? ⟨b2,0,none⟩=some (.string vr)→b1<w1.heap.size→b2<w1.heap.size→
  Calls Tryz.prog 65 #[x2, .func (.func 66) #[] #[.pointer (some ⟨b1,0,none⟩), .pointer (some ⟨b2,0,none⟩)]] w1 fun e w'=>e= .returned (.int .i64 (findI o nm vr))∧Below w1.heap.size w1 w':=fun w1 b1 b2 h h1 h2 l1 l2=>
  xfSym_any w1 x2 _ _ (hA.syms.below Sym.stays h) Sym.stays hk.syms ⟨enters_of Tryz.func66 rfl rfl,fun x hx w' hb cs hE=>by
   have hcs:cs=[.string x.name, .string x.version, .bool x.main, .int .i64 x.bind, .int .i64 x.vis, .int .i64 x.kind, .int .i64 x.sec, .int .i64 x.at_, .int .i64 x.size, .int .i64 x.align]:=hE
   subst hcs
   exact ofind1_any w' x b1 b2 nm vr ((hb.cell (p:=⟨b1,0,none⟩) l1).trans h1) ((hb.cell (p:=⟨b2,0,none⟩) l2).trans h2)⟩
 have hge:=findI_ge o nm vr
 obtain⟨p,c,rfl⟩:=hA.syms.slice
 obtain⟨N,hN⟩:∃N,o.syms.length=N:=⟨_,rfl⟩
 rw[hN] at hX⊢
 obtain⟨f,hf⟩:∃f,findI o nm vr=f:=⟨_,rfl⟩
 rw[hf] at hge hX⊢
 have HX:=Hd.mk hX
 clear hA hk hX hN hf
 by_cases h0:0≤f
 ·obtain⟨m,rfl⟩:=Int.eq_ofNat_of_zero_le h0
  have hm:max (m:Int) 0=(m:Int):=by omega
  have d0:decide ((0:Int)≤(m:Int))=true:=by simp
  rw[hm,d0]
  clear hge h0
  go_enter Tryz.func12,Tryz.ntmps12
  go_wp2_with fail
  refine(HX.out _ _ _ (by go_grown) (by simp[go_sem]) (by simp[go_sem]) (by simp) (by simp)).mono ?_
  rintro e w1 ⟨rfl,hb1⟩
  have HB1:Hd (Below w.heap.size w w1):=⟨Below.trans (by go_grown) (hb1.mono (by simp;omega))⟩
  clear hb1
  go_wp2
  go_ret2
  exact⟨rfl,HB1.out⟩
 ·obtain rfl:f= -1:=by omega
  have hm:max (-1:Int) 0=0:=by decide
  have d0:decide ((0:Int)≤-1)=false:=by decide
  rw[hm,d0]
  clear hge h0
  go_enter Tryz.func12,Tryz.ntmps12
  go_wp2_with fail
  refine(HX.out _ _ _ (by go_grown) (by simp[go_sem]) (by simp[go_sem]) (by simp) (by simp)).mono ?_
  rintro e w1 ⟨rfl,hb1⟩
  have HB1:Hd (Below w.heap.size w w1):=⟨Below.trans (by go_grown) (hb1.mono (by simp;omega))⟩
  clear hb1
  go_wp2
  go_ret2
  exact⟨rfl,HB1.out⟩
theorem odigest_any (w:World) (hT:Tabs w) (o:Ob) (x1 x2 x3 x4 x5 x6 x7 x8 x9 x10:Value) (hA:o.At w x1 x2 x3 x4 x5 x6 x7 x8 x9 x10) (hk:o.Ok) (hF:FormsAt w) (z:o.Sz) (hl:(bytesO o).length≤1000000):
 Calls Tryz.prog 19 #[.agg (o.arr x1 x2 x3 x4 x5 x6 x7 x8 x9 x10)] w fun e w'=>e= .returned (.string ⟨(sumL (bytesO o)).toArray⟩)∧Below w.heap.size w w':=by
 have HB:=Hd.mk (fun w1 (h:Below w.heap.size w w1)=>obytes_any w1 o x1 x2 x3 x4 x5 x6 x7 x8 x9 x10 (hA.below h) hk (hF.below h) z)
 have HS:=Hd.mk (fun w1 (h:Below w.heap.size w w1)=>sum_any ⟨(bytesO o).toArray⟩ w1 (hT.below h) hl)
 have he:(⟨(bytesO o).toArray⟩:ByteArray).data.toList=bytesO o:=rfl
 rw[he] at HS
 clear hT hA hk hF z hl he
 generalize bytesO o=B at HB HS⊢
 unfold Ob.arr at HB⊢
 generalize (⟨B.toArray⟩:ByteArray)=s at HB HS
 generalize (⟨(sumL B).toArray⟩:ByteArray)=d at HS⊢
 go_enter Tryz.func19,Tryz.ntmps19
 go_wp2_with fail
 refine(HB.out _ (by go_grown)).mono ?_
 rintro e w1 ⟨rfl,hb1⟩
 have HB1:Hd (Below w.heap.size w w1):=⟨Below.trans (by go_grown) (hb1.mono (by simp))⟩
 clear hb1
 go_wp2_with fail
 refine(HS.out _ HB1.out).mono ?_
 rintro e w2 ⟨rfl,hb2⟩
 have HB2:Hd (Below w.heap.size w w2):=⟨HB1.out.trans (hb2.mono HB1.out.size)⟩
 clear hb2
 go_wp2
 go_ret
 exact⟨rfl,HB2.out⟩
end Go.Proofs.YtfaepbjnpakghaaGreatDoor.W
