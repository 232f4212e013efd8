import Derived.Test.YtfaepbjnpakghaaGreatDoorKac
import Derived.Test.YtfaepbjnpakghaaGreatDoorKPv1
/- object.pairs at several types (printed by tools/gen_once.py). -/
namespace Go.Proofs.YtfaepbjnpakghaaGreatDoor.W
open Go.RowKit
set_option linter.unusedVariables false
set_option maxHeartbeats 40000000
set_option maxRecDepth 100000
theorem cellz6 {w:World} {g o:Nat} {a0 a1 a2 a3 a4 a5:Value} (hc:∀i u,[a0,a1,a2,a3,a4,a5][i]? =some u→w.cell? ⟨g,o+i,none⟩=some u):w.cell? ⟨g,o,none⟩=some a0∧w.cell? ⟨g,o+1,none⟩=some a1∧w.cell? ⟨g,o+2,none⟩=some a2∧w.cell? ⟨g,o+3,none⟩=some a3∧w.cell? ⟨g,o+4,none⟩=some a4∧w.cell? ⟨g,o+5,none⟩=some a5:=⟨hc 0 _ rfl,hc 1 _ rfl,hc 2 _ rfl,hc 3 _ rfl,hc 4 _ rfl,hc 5 _ rfl⟩
theorem cellz5 {w:World} {g o:Nat} {a0 a1 a2 a3 a4:Value} (hc:∀i u,[a0,a1,a2,a3,a4][i]? =some u→w.cell? ⟨g,o+i,none⟩=some u):w.cell? ⟨g,o,none⟩=some a0∧w.cell? ⟨g,o+1,none⟩=some a1∧w.cell? ⟨g,o+2,none⟩=some a2∧w.cell? ⟨g,o+3,none⟩=some a3∧w.cell? ⟨g,o+4,none⟩=some a4:=⟨hc 0 _ rfl,hc 1 _ rfl,hc 2 _ rfl,hc 3 _ rfl,hc 4 _ rfl⟩
theorem cellz4 {w:World} {g o:Nat} {a0 a1 a2 a3:Value} (hc:∀i u,[a0,a1,a2,a3][i]? =some u→w.cell? ⟨g,o+i,none⟩=some u):w.cell? ⟨g,o,none⟩=some a0∧w.cell? ⟨g,o+1,none⟩=some a1∧w.cell? ⟨g,o+2,none⟩=some a2∧w.cell? ⟨g,o+3,none⟩=some a3:=⟨hc 0 _ rfl,hc 1 _ rfl,hc 2 _ rfl,hc 3 _ rfl⟩
theorem cellz3 {w:World} {g o:Nat} {a0 a1 a2:Value} (hc:∀i u,[a0,a1,a2][i]? =some u→w.cell? ⟨g,o+i,none⟩=some u):w.cell? ⟨g,o,none⟩=some a0∧w.cell? ⟨g,o+1,none⟩=some a1∧w.cell? ⟨g,o+2,none⟩=some a2:=⟨hc 0 _ rfl,hc 1 _ rfl,hc 2 _ rfl⟩
def PrC (F m:Nat) (A:List Value→Value):Prop:=∀ {α:Type} {E:World→List Value→α→Prop} {p:α→α→Bool} {xs:List α} (w:World) (v:Value) (g:Nat) (lb:Array Value),Rw m E w v xs→Stays E→lenR xs.length→FnV2 A E p xs w g lb→Calls Tryz.prog F #[v, .func (.func g) #[] lb] w fun e w'=>e= .returned (.bool (pairsB p xs))∧Below w.heap.size w w'
theorem prs:PrC 158 5 aggA∧
 PrC 174 4 aggA∧
 PrC 184 6 aggA∧
 PrC 188 4 aggA∧
 PrC 193 3 aggA∧
 PrC 197 4 aggA:=by
 refine⟨?_,?_,?_,?_,?_,?_⟩
 all_goals as_aux_lemma=>
  intro α E p xs w v g lb hR hE hl hp
  obtain⟨pv,cv,rfl⟩:=hR.slice
  have HR:=Hd.mk hR
  have HP:=Hd.mk hp
  have eg:∀args w,(callFunc g args).run Tryz.prog w= .ok (.enter g args) w:=hp.ent
  clear hR hp
  unfold lenR at hl
  obtain⟨n,hn⟩:∃n,xs.length=n:=⟨_,rfl⟩
  rw[hn] at hl⊢
  first | go_enter Tryz.func158,Tryz.ntmps158 | go_enter Tryz.func174,Tryz.ntmps174 | go_enter Tryz.func184,Tryz.ntmps184 | go_enter Tryz.func188,Tryz.ntmps188 | go_enter Tryz.func193,Tryz.ntmps193 | go_enter Tryz.func197,Tryz.ntmps197
  go_wp2
  go_loopw [5] (fun i wr=>∃k:Nat,(k=0∨k+1≤n)∧i= .int .i64 ((k:Int)+1)∧Hd (∀j (h:j+1<xs.length),j<k→p (xs[j]'(by omega)) xs[j+1]=true)∧Hd (Below w.heap.size w wr)) (fun i _=>n+1-(intOf i).toNat)
  case atStart=>exact⟨0, .inl rfl,rfl,⟨fun j _ hj=>absurd hj (Nat.not_lt_zero _)⟩,⟨Below.refl _ _⟩⟩
  case round=>
   obtain⟨k,hk,rfl,HA,HK⟩:=hrel
   by_cases hlt:k+1<n
   ·have hd1:decide ((k:Int)+1< (n:Int))=true:=by simp;omega
    have hk1:k+1<xs.length:=hn▸hlt
    have hk0:k<xs.length:=by omega
    have r1:IntKind.i64.wrap ((k:Int)+1-1)=(k:Int):=by rw[Int.add_sub_cancel];exact IntWalk.i64_in _ (by omega)
    have r0:IntKind.i64.wrap (k:Int)=(k:Int):=IntWalk.i64_in _ (by omega)
    have i1:(0:Int)≤(k:Int):=by omega
    have i2:(k:Int)< (n:Int):=by omega
    have i3:(0:Int)≤(k:Int)+1:=by omega
    have i4:(k:Int)+1< (n:Int):=by omega
    have n1:((k:Int)+1).toNat=k+1:=by omega
    obtain⟨g0,of,cs,hpv,hg,hcl,hEc,hcc⟩:=(HR.out.below hE HK.out).at rfl (j:=k) hk0
    obtain⟨g1,of1,ds,hpv1,hg1,hdl,hEd,hdd⟩:=(HR.out.below hE HK.out).at rfl (j:=k+1) hk1
    subst hpv
    injection hpv1 with e1
    injection e1 with e1 e2 _
    subst e1 e2
    have HC:=Hd.mk (HP.out.at_ xs[k] (List.getElem_mem hk0) xs[k+1] (List.getElem_mem hk1) wr.drew (Below.drew HK.out) _ _ (hE _ _ _ _ (Below.drew (Below.refl _ _)) hEc) (hE _ _ _ _ (Below.drew (Below.refl _ _)) hEd))
    have hcb:=fun w' (h:Below wr.drew.heap.size wr.drew w') i u hu=>(h.cell (p:=⟨g0,_,none⟩) hg).trans (hcc i u hu)
    have hdb:=fun w' (h:Below wr.drew.heap.size wr.drew w') i u hu=>(h.cell (p:=⟨g0,_,none⟩) hg).trans (hdd i u hu)
    have HCb:=Hd.mk (And.intro hcl (And.intro hdl (And.intro hcb hdb)))
    first | obtain⟨u0,u1,u2,u3,u4,u5,rfl,c0,c1,c2,c3,c4,c5⟩:=clx6 hcl hcc | obtain⟨u0,u1,u2,u3,u4,rfl,c0,c1,c2,c3,c4⟩:=clx5 hcl hcc | obtain⟨u0,u1,u2,u3,rfl,c0,c1,c2,c3⟩:=clx4 hcl hcc | obtain⟨u0,u1,u2,rfl,c0,c1,c2⟩:=clx3 hcl hcc
    first | obtain⟨v0,v1,v2,v3,v4,v5,rfl,d0,d1,d2,d3,d4,d5⟩:=clx6 hdl hdd | obtain⟨v0,v1,v2,v3,v4,rfl,d0,d1,d2,d3,d4⟩:=clx5 hdl hdd | obtain⟨v0,v1,v2,v3,rfl,d0,d1,d2,d3⟩:=clx4 hdl hdd | obtain⟨v0,v1,v2,rfl,d0,d1,d2⟩:=clx3 hdl hdd
    dsimp only[aggA] at HC
    clear hcc hcl hEc hg hdd hdl hEd hg1 hcb hdb
    obtain⟨r,hr⟩:∃r,p xs[k] xs[k+1]=r:=⟨_,rfl⟩
    have HE:=Hd.mk hr
    rw[hr] at HC
    clear hr
    go_wp2_with fail
    refine wp_region_lin default (fun w'=>Below wr.drew.heap.size wr.drew w') [(0,true),(1,true),(2,true),(3,true),(4,true),(5,true),(6,true),(7,true),(8,true),(9,true),(10,false),(11,true)] (by kernel_rfl) (by kernel_rfl) rfl (by kernel_rfl) (by kernel_rfl) (Below.refl _ _) ?_
    first | clear c0 c1 c2 c3 c4 c5 d0 d1 d2 d3 d4 d5 | clear c0 c1 c2 c3 c4 d0 d1 d2 d3 d4 | clear c0 c1 c2 c3 d0 d1 d2 d3 | clear c0 c1 c2 d0 d1 d2
    simp only[pick,List.getD_cons_zero,List.getD_cons_succ]
    repeat
     refine lin_free (v:= ?_) (by rfl) ?_ ?_
     rotate_left
     ·intro w' hSw
      have h1:=HCb.out.2.2.1 w' hSw
      have h2:=HCb.out.2.2.2 w' hSw
      first | (obtain⟨c0,c1,c2,c3,c4,c5⟩:=cellz6 h1;obtain⟨d0,d1,d2,d3,d4,d5⟩:=cellz6 h2) | (obtain⟨c0,c1,c2,c3,c4⟩:=cellz5 h1;obtain⟨d0,d1,d2,d3,d4⟩:=cellz5 h2) | (obtain⟨c0,c1,c2,c3⟩:=cellz4 h1;obtain⟨d0,d1,d2,d3⟩:=cellz4 h2) | (obtain⟨c0,c1,c2⟩:=cellz3 h1;obtain⟨d0,d1,d2⟩:=cellz3 h2)
      clear h1 h2
      go_simp
      first | done | with_reducible rfl
     simp only[Act.put,List.setIfInBounds_toArray,List.set_cons_zero,List.set_cons_succ]
    refine lin_bound (fun K hK=> ?_)
    go_simp
    refine HC.out.mono ?_
    rintro e w2 ⟨rfl,hK2⟩
    refine hK.out _ _ hK2 ?_
    have HK2:=Hd.mk ((HK.out.trans (Below.drew (Below.refl _ _))).trans (hK2.mono HK.out.size))
    clear hK K hK2
    refine lin_free (v:= .bool (!r)) (by rfl) (fun w' _=>by go_simp) ?_
    refine NoPanic.normal ?_
    cases r with
    | false=>
      go_wp2
      go_ret
      exact⟨ret_b (pairs_bad hk1 HE.out).symm,HK2.out⟩
    | true=>
      go_wp2
      refine⟨⟨k+1, .inr hlt,by go_num,⟨fun j h hj=> ?_⟩,HK2⟩,by simp[intOf];omega⟩
      rcases Nat.lt_succ_iff_lt_or_eq.1 hj with h' | rfl
      ·exact HA.out j h h'
      ·exact HE.out
   ·have hd1:decide ((k:Int)+1< (n:Int))=false:=by simp;omega
    go_wp2
    go_ret
    exact⟨ret_b (pairs_of (fun j h=>HA.out j h (by omega))).symm,HK.out⟩
theorem prRel_any:PrC 158 5 aggA:=prs.1
theorem prLne_any:PrC 174 4 aggA:=prs.2.1
theorem prVrr_any:PrC 184 6 aggA:=prs.2.2.1
theorem prDep_any:PrC 188 4 aggA:=prs.2.2.2.1
theorem prPce_any:PrC 193 3 aggA:=prs.2.2.2.2.1
theorem prCnv_any:PrC 197 4 aggA:=prs.2.2.2.2.2
set_option maxRecDepth 100000 in
theorem prInt_any {α:Type} {E:World→List Value→α→Prop} {p:α→α→Bool} {xs:List α} (w:World) (v:Value) (g:Nat) (lb:Array Value) (hR:Rw 1 E w v xs) (hE:Stays E) (hl:lenR xs.length) (hp:FnV2 oneA E p xs w g lb):
 Calls Tryz.prog 161 #[v, .func (.func g) #[] lb] w fun e w'=>e= .returned (.bool (pairsB p xs))∧Below w.heap.size w w':=by
 obtain⟨pv,cv,rfl⟩:=hR.slice
 have HR:=Hd.mk hR
 have HP:=Hd.mk hp
 have eg:∀args w,(callFunc g args).run Tryz.prog w= .ok (.enter g args) w:=hp.ent
 clear hR hp
 unfold lenR at hl
 obtain⟨n,hn⟩:∃n,xs.length=n:=⟨_,rfl⟩
 rw[hn] at hl⊢
 go_enter Tryz.func161,Tryz.ntmps161
 go_wp2
 go_loopw [5] (fun i wr=>∃k:Nat,(k=0∨k+1≤n)∧i= .int .i64 ((k:Int)+1)∧Hd (∀j (h:j+1<xs.length),j<k→p (xs[j]'(by omega)) xs[j+1]=true)∧Hd (Below w.heap.size w wr)) (fun i _=>n+1-(intOf i).toNat)
 case atStart=>exact⟨0, .inl rfl,rfl,⟨fun j _ hj=>absurd hj (Nat.not_lt_zero _)⟩,⟨Below.refl _ _⟩⟩
 case round=>
  obtain⟨k,hk,rfl,HA,HK⟩:=hrel
  by_cases hlt:k+1<n
  ·have hd1:decide ((k:Int)+1< (n:Int))=true:=by simp;omega
   have hk1:k+1<xs.length:=hn▸hlt
   have hk0:k<xs.length:=by omega
   have r1:IntKind.i64.wrap ((k:Int)+1-1)=(k:Int):=by rw[Int.add_sub_cancel];exact IntWalk.i64_in _ (by omega)
   have r0:IntKind.i64.wrap (k:Int)=(k:Int):=IntWalk.i64_in _ (by omega)
   have i1:(0:Int)≤(k:Int):=by omega
   have i2:(k:Int)< (n:Int):=by omega
   have i3:(0:Int)≤(k:Int)+1:=by omega
   have i4:(k:Int)+1< (n:Int):=by omega
   have n1:((k:Int)+1).toNat=k+1:=by omega
   obtain⟨g0,of,cs,hpv,hg,hcl,hEc,hcc⟩:=(HR.out.below hE HK.out).at rfl (j:=k) hk0
   obtain⟨g1,of1,ds,hpv1,hg1,hdl,hEd,hdd⟩:=(HR.out.below hE HK.out).at rfl (j:=k+1) hk1
   subst hpv
   injection hpv1 with e1
   injection e1 with e1 e2 _
   subst e1 e2
   obtain⟨u0,rfl⟩:=len1 hcl
   obtain⟨v0,rfl⟩:=len1 hdl
   have HC:=Hd.mk (HP.out.at_ xs[k] (List.getElem_mem hk0) xs[k+1] (List.getElem_mem hk1) wr.drew (Below.drew HK.out) _ _ (hE _ _ _ _ (Below.drew (Below.refl _ _)) hEc) (hE _ _ _ _ (Below.drew (Below.refl _ _)) hEd))
   have hA:oneA [u0]=u0:=rfl
   have hB:oneA [v0]=v0:=rfl
   rw[hA,hB] at HC
   have c0:wr.cell? ⟨g0,of+k,none⟩=some u0:=by have:=hcc 0 _ rfl;rwa [Nat.mul_one] at this
   have d0:wr.cell? ⟨g0,of+(k+1),none⟩=some v0:=by have:=hdd 0 _ rfl;rwa [Nat.mul_one] at this
   have HS:Hd (∀w',Below wr.drew.heap.size wr.drew w'→w'.cell? ⟨g0,of+k,none⟩=some u0∧w'.cell? ⟨g0,of+(k+1),none⟩=some v0):=⟨fun w' h=>⟨(h.cell (p:=⟨g0,_,none⟩) hg).trans c0,(h.cell (p:=⟨g0,_,none⟩) hg).trans d0⟩⟩
   clear hcc hcl hEc hg hA hdd hdl hEd hg1 hB
   rcases he:p xs[k] xs[k+1] with _ | _
   ·have HE:=Hd.mk he
    rw[he] at HC
    clear he
    go_wp2_with fail
    refine wp_region_lin default (fun w'=>w'.cell? ⟨g0,of+k,none⟩=some u0∧w'.cell? ⟨g0,of+(k+1),none⟩=some v0) [(0,true),(1,true),(2,true),(3,true),(4,true),(5,true),(6,true),(7,true),(8,true),(9,true),(10,false),(11,true)] (by kernel_rfl) (by kernel_rfl) rfl (by kernel_rfl) (by kernel_rfl) ⟨c0,d0⟩ ?_
    clear c0 d0
    simp only[pick,List.getD_cons_zero,List.getD_cons_succ]
    repeat
     refine lin_free (v:= ?_) (by rfl) ?_ ?_
     rotate_left
     ·intro w' hSw
      obtain⟨c0,d0⟩:=hSw
      go_simp
      first | done | with_reducible rfl
     simp only[Act.put,List.setIfInBounds_toArray,List.set_cons_zero,List.set_cons_succ]
    refine lin_bound (fun K hK=> ?_)
    go_simp
    refine HC.out.mono ?_
    rintro e w2 ⟨rfl,hK2⟩
    have HK2:=Hd.mk ((HK.out.trans (Below.drew (Below.refl _ _))).trans (hK2.mono HK.out.size))
    refine hK.out _ _ (HS.out w2 hK2) ?_
    clear hK K hK2
    refine lin_free (v:= .bool true) (by rfl) (fun w' _=>by go_simp) ?_
    refine NoPanic.normal ?_
    go_wp2
    go_ret
    exact⟨ret_b (pairs_bad hk1 HE.out).symm,HK2.out⟩
   ·have HE:=Hd.mk he
    rw[he] at HC
    clear he
    go_wp2_with fail
    refine wp_region_lin default (fun w'=>w'.cell? ⟨g0,of+k,none⟩=some u0∧w'.cell? ⟨g0,of+(k+1),none⟩=some v0) [(0,true),(1,true),(2,true),(3,true),(4,true),(5,true),(6,true),(7,true),(8,true),(9,true),(10,false),(11,true)] (by kernel_rfl) (by kernel_rfl) rfl (by kernel_rfl) (by kernel_rfl) ⟨c0,d0⟩ ?_
    clear c0 d0
    simp only[pick,List.getD_cons_zero,List.getD_cons_succ]
    repeat
     refine lin_free (v:= ?_) (by rfl) ?_ ?_
     rotate_left
     ·intro w' hSw
      obtain⟨c0,d0⟩:=hSw
      go_simp
      first | done | with_reducible rfl
     simp only[Act.put,List.setIfInBounds_toArray,List.set_cons_zero,List.set_cons_succ]
    refine lin_bound (fun K hK=> ?_)
    go_simp
    refine HC.out.mono ?_
    rintro e w2 ⟨rfl,hK2⟩
    have HK2:=Hd.mk ((HK.out.trans (Below.drew (Below.refl _ _))).trans (hK2.mono HK.out.size))
    refine hK.out _ _ (HS.out w2 hK2) ?_
    clear hK K hK2
    refine lin_free (v:= .bool false) (by rfl) (fun w' _=>by go_simp) ?_
    refine NoPanic.normal ?_
    go_wp2
    refine⟨⟨k+1, .inr hlt,by go_num,⟨fun j h hj=> ?_⟩,HK2⟩,by simp[intOf];omega⟩
    rcases Nat.lt_succ_iff_lt_or_eq.1 hj with h' | rfl
    ·exact HA.out j h h'
    ·exact HE.out
  ·have hd1:decide ((k:Int)+1< (n:Int))=false:=by simp;omega
   go_wp2
   go_ret
   exact⟨ret_b (pairs_of (fun j h=>HA.out j h (by omega))).symm,HK.out⟩
end Go.Proofs.YtfaepbjnpakghaaGreatDoor.W
