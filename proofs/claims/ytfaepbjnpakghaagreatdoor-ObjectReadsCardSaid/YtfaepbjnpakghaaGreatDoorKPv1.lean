import Derived.Test.YtfaepbjnpakghaaGreatDoorKaf
/- slices.IndexFunc, slices.ContainsFunc, every, at several types (printed by tools/gen_once.py). -/
namespace Go.Proofs.YtfaepbjnpakghaaGreatDoor.W
open Go.RowKit
set_option linter.unusedVariables false
set_option maxHeartbeats 40000000
set_option maxRecDepth 100000
def XfC (F m:Nat) (A:List Value→Value):Prop:=∀ {α:Type} {E:World→List Value→α→Prop} {p:α→Bool} {xs:List α} (w:World) (v:Value) (g:Nat) (lb:Array Value),Rw m E w v xs→Stays E→lenR xs.length→FnV A E (fun x=> .bool (p x)) xs w g lb→Calls Tryz.prog F #[v, .func (.func g) #[] lb] w fun e w'=>e= .returned (.int .i64 (idxP p xs))∧Below w.heap.size w w'
def CfC (F m:Nat) (A:List Value→Value):Prop:=∀ {α:Type} {E:World→List Value→α→Prop} {p:α→Bool} {xs:List α} (w:World) (v:Value) (g:Nat) (lb:Array Value),Rw m E w v xs→Stays E→lenR xs.length→FnV A E (fun x=> .bool (p x)) xs w g lb→Calls Tryz.prog F #[v, .func (.func g) #[] lb] w fun e w'=>e= .returned (.bool (xs.any p))∧Below w.heap.size w w'
def EcC (F m:Nat) (A:List Value→Value):Prop:=∀ {α:Type} {E:World→List Value→α→Prop} {p:α→Bool} {xs:List α} (w:World) (g b:Nat) (lb:Array Value),FnV A E (fun x=> .bool (p x)) xs w g lb→w.cell? ⟨b,0,none⟩=some (.func (.func g) #[] lb)→Stays E→∀(x:α),x∈xs→∀cs:List Value,E w cs x→cs.length=m→
 Calls Tryz.prog F #[A cs, .pointer (some ⟨b,0,none⟩)] w fun e w'=>e= .returned (.bool (!p x))∧Below w.heap.size w w'
def EvC (F m:Nat) (A:List Value→Value):Prop:=∀ {α:Type} {E:World→List Value→α→Prop} {p:α→Bool} {xs:List α} (w:World) (v:Value) (g:Nat) (lb:Array Value),Rw m E w v xs→Stays E→(∀w cs x,E w cs x→cs.length=m)→lenR xs.length→FnV A E (fun x=> .bool (p x)) xs w g lb→Calls Tryz.prog F #[v, .func (.func g) #[] lb] w fun e w'=>e= .returned (.bool (xs.all p))∧Below w.heap.size w w'
theorem xfs:XfC 256 6 aggA∧
 XfC 65 10 aggA∧
 XfC 261 5 aggA∧
 XfC 263 3 aggA∧
 XfC 264 4 aggA∧
 XfC 265 6 aggA∧
 XfC 266 6 aggA∧
 XfC 267 4 aggA∧
 XfC 268 3 aggA∧
 XfC 269 4 aggA:=by
 refine⟨?_,?_,?_,?_,?_,?_,?_,?_,?_,?_⟩
 all_goals as_aux_lemma=>
  intro α E p xs w v g lb hR hE hl hp
  obtain⟨pv,cv,rfl⟩:=hR.slice
  have HR:=Hd.mk hR
  have HP:=Hd.mk hp
  have eg:∀args w,(callFunc g args).run Tryz.prog w= .ok (.enter g args) w:=hp.ent
  clear hR hp
  unfold lenR at hl
  obtain⟨n,hn⟩:∃n,xs.length=n:=⟨_,rfl⟩
  rw[hn] at hl⊢
  first | go_enter Tryz.func256,Tryz.ntmps256 | go_enter Tryz.func65,Tryz.ntmps65 | go_enter Tryz.func261,Tryz.ntmps261 | go_enter Tryz.func263,Tryz.ntmps263 | go_enter Tryz.func264,Tryz.ntmps264 | go_enter Tryz.func265,Tryz.ntmps265 | go_enter Tryz.func266,Tryz.ntmps266 | go_enter Tryz.func267,Tryz.ntmps267 | go_enter Tryz.func268,Tryz.ntmps268 | go_enter Tryz.func269,Tryz.ntmps269
  go_wp2
  go_loopw [8] (fun i wr=>∃k:Nat,k≤n∧i= .int .i64 k∧Hd (∀j (h:j<xs.length),j<k→p xs[j]=false)∧Hd (Below w.heap.size w wr)) (fun i _=>n-(intOf i).toNat)
  case atStart=>exact⟨0,Nat.zero_le _,rfl,⟨fun j _ hj=>absurd hj (Nat.not_lt_zero _)⟩,⟨Below.refl _ _⟩⟩
  case round=>
   obtain⟨k,hk,rfl,HA,HK⟩:=hrel
   by_cases hlt:k<n
   ·have hd1:decide ((k:Int)< (n:Int))=true:=by simp;omega
    have hkq:k<xs.length:=hn▸hlt
    obtain⟨g0,of,cs,hpv,hg,hcl,hEc,hcc⟩:=(HR.out.below hE HK.out).at rfl (j:=k) hkq
    subst hpv
    have HC:=Hd.mk (HP.out.at_ xs[k] (List.getElem_mem hkq) wr HK.out _ hEc)
    first | obtain⟨u0,u1,u2,u3,u4,u5,u6,u7,u8,u9,rfl,c0,c1,c2,c3,c4,c5,c6,c7,c8,c9⟩:=clx10 hcl hcc | obtain⟨u0,u1,u2,u3,u4,u5,rfl,c0,c1,c2,c3,c4,c5⟩:=clx6 hcl hcc | obtain⟨u0,u1,u2,u3,u4,rfl,c0,c1,c2,c3,c4⟩:=clx5 hcl hcc | obtain⟨u0,u1,u2,u3,rfl,c0,c1,c2,c3⟩:=clx4 hcl hcc | obtain⟨u0,u1,u2,rfl,c0,c1,c2⟩:=clx3 hcl hcc
    dsimp only[aggA] at HC
    clear hcc hcl hEc hg
    rcases he:p xs[k] with _ | _
    all_goals
     have HE:=Hd.mk he
     rw[he] at HC
     clear he
     go_wp2_with fail
     refine HC.out.mono ?_
     rintro e w2 ⟨rfl,hK2⟩
     have HK2:=Hd.mk (HK.out.trans (hK2.mono HK.out.size))
     clear hK2
     go_wp2
    ·refine⟨⟨k+1,hlt,by go_num,⟨fun j h hj=> ?_⟩,HK2⟩,by simp[intOf];omega⟩
     rcases Nat.lt_succ_iff_lt_or_eq.1 hj with h' | rfl
     ·exact HA.out j h h'
     ·exact HE.out
    ·go_ret
     exact⟨ret_i (idxP_hit hkq HE.out HA.out).symm,HK2.out⟩
   ·have hd1:decide ((k:Int)< (n:Int))=false:=by simp;omega
    go_wp2
    go_ret
    exact⟨ret_i (idxP_miss (fun j h=>HA.out j h (by omega))).symm,HK.out⟩
theorem xfSec_any:XfC 256 6 aggA:=xfs.1
theorem xfSym_any:XfC 65 10 aggA:=xfs.2.1
theorem xfRel_any:XfC 261 5 aggA:=xfs.2.2.1
theorem xfIni_any:XfC 263 3 aggA:=xfs.2.2.2.1
theorem xfLne_any:XfC 264 4 aggA:=xfs.2.2.2.2.1
theorem xfInl_any:XfC 265 6 aggA:=xfs.2.2.2.2.2.1
theorem xfVrr_any:XfC 266 6 aggA:=xfs.2.2.2.2.2.2.1
theorem xfDep_any:XfC 267 4 aggA:=xfs.2.2.2.2.2.2.2.1
theorem xfPce_any:XfC 268 3 aggA:=xfs.2.2.2.2.2.2.2.2.1
theorem xfCnv_any:XfC 269 4 aggA:=xfs.2.2.2.2.2.2.2.2.2
theorem cfs:(XfC 256 6 aggA→CfC 222 6 aggA)∧
 (XfC 65 10 aggA→CfC 224 10 aggA)∧
 (XfC 261 5 aggA→CfC 229 5 aggA)∧
 (XfC 263 3 aggA→CfC 233 3 aggA)∧
 (XfC 264 4 aggA→CfC 235 4 aggA)∧
 (XfC 265 6 aggA→CfC 237 6 aggA)∧
 (XfC 266 6 aggA→CfC 241 6 aggA)∧
 (XfC 267 4 aggA→CfC 243 4 aggA)∧
 (XfC 268 3 aggA→CfC 245 3 aggA)∧
 (XfC 269 4 aggA→CfC 247 4 aggA):=by
 refine⟨?_,?_,?_,?_,?_,?_,?_,?_,?_,?_⟩
 all_goals as_aux_lemma=>
  intro hx α E p xs w v g lb hR hE hl hp
  have HX:=Hd.mk (hx w v g lb hR hE hl hp)
  have HI:=Hd.mk (idxP_any p xs)
  clear hR hp hx
  generalize idxP p xs=r at HX HI
  first | go_enter Tryz.func222,Tryz.ntmps222 | go_enter Tryz.func224,Tryz.ntmps224 | go_enter Tryz.func229,Tryz.ntmps229 | go_enter Tryz.func233,Tryz.ntmps233 | go_enter Tryz.func235,Tryz.ntmps235 | go_enter Tryz.func237,Tryz.ntmps237 | go_enter Tryz.func241,Tryz.ntmps241 | go_enter Tryz.func243,Tryz.ntmps243 | go_enter Tryz.func245,Tryz.ntmps245 | go_enter Tryz.func247,Tryz.ntmps247
  go_wp2_with fail
  refine HX.out.mono ?_
  rintro e w2 ⟨rfl,hK2⟩
  have HK2:=Hd.mk hK2
  clear hK2
  go_wp2
  go_ret
  exact⟨ret_b HI.out,HK2.out⟩
theorem cfSec_any:CfC 222 6 aggA:=cfs.1 xfSec_any
theorem cfSym_any:CfC 224 10 aggA:=cfs.2.1 xfSym_any
theorem cfRel_any:CfC 229 5 aggA:=cfs.2.2.1 xfRel_any
theorem cfIni_any:CfC 233 3 aggA:=cfs.2.2.2.1 xfIni_any
theorem cfLne_any:CfC 235 4 aggA:=cfs.2.2.2.2.1 xfLne_any
theorem cfInl_any:CfC 237 6 aggA:=cfs.2.2.2.2.2.1 xfInl_any
theorem cfVrr_any:CfC 241 6 aggA:=cfs.2.2.2.2.2.2.1 xfVrr_any
theorem cfDep_any:CfC 243 4 aggA:=cfs.2.2.2.2.2.2.2.1 xfDep_any
theorem cfPce_any:CfC 245 3 aggA:=cfs.2.2.2.2.2.2.2.2.1 xfPce_any
theorem cfCnv_any:CfC 247 4 aggA:=cfs.2.2.2.2.2.2.2.2.2 xfCnv_any
theorem ecs:EcC 223 6 aggA∧
 EcC 225 10 aggA∧
 EcC 230 5 aggA∧
 EcC 234 3 aggA∧
 EcC 236 4 aggA∧
 EcC 238 6 aggA∧
 EcC 242 6 aggA∧
 EcC 244 4 aggA∧
 EcC 246 3 aggA∧
 EcC 248 4 aggA:=by
 refine⟨?_,?_,?_,?_,?_,?_,?_,?_,?_,?_⟩
 all_goals as_aux_lemma=>
  intro α E p xs w g b lb hp hb hS x hx cs hE hcl
  have eg:∀args w,(callFunc g args).run Tryz.prog w= .ok (.enter g args) w:=hp.ent
  have HC:=Hd.mk (fun o=>hp.at_ x hx (w.alloc o) (below_alloc w o) cs (hS w _ cs x (below_alloc w o) hE))
  have hb1:∀o,(w.alloc o).cell? ⟨b,0,none⟩=some (.func (.func g) #[] lb):=fun o=>by rw[(below_alloc w o).cell (p:=⟨b,0,none⟩) (World.block_lt_of_cell? w _ hb)];exact hb
  clear hp hE hb
  first | obtain⟨u0,u1,u2,u3,u4,u5,u6,u7,u8,u9,rfl⟩:=len10 hcl | obtain⟨u0,u1,u2,u3,u4,u5,rfl⟩:=len6 hcl | obtain⟨u0,u1,u2,u3,u4,rfl⟩:=len5 hcl | obtain⟨u0,u1,u2,u3,rfl⟩:=len4 hcl | obtain⟨u0,u1,u2,rfl⟩:=len3 hcl
  dsimp only[aggA] at HC⊢
  clear hcl
  first | go_enter Tryz.func223,Tryz.ntmps223 | go_enter Tryz.func225,Tryz.ntmps225 | go_enter Tryz.func230,Tryz.ntmps230 | go_enter Tryz.func234,Tryz.ntmps234 | go_enter Tryz.func236,Tryz.ntmps236 | go_enter Tryz.func238,Tryz.ntmps238 | go_enter Tryz.func242,Tryz.ntmps242 | go_enter Tryz.func244,Tryz.ntmps244 | go_enter Tryz.func246,Tryz.ntmps246 | go_enter Tryz.func248,Tryz.ntmps248
  go_wp2_with fail
  refine(HC.out _).mono ?_
  rintro e w2 ⟨rfl,hK2⟩
  have HK2:=Hd.mk (below_first hK2)
  clear hK2
  go_wp2
  go_ret
  exact⟨rfl,HK2.out⟩
theorem evSecc_any:EcC 223 6 aggA:=ecs.1
theorem evSymc_any:EcC 225 10 aggA:=ecs.2.1
theorem evRelc_any:EcC 230 5 aggA:=ecs.2.2.1
theorem evInic_any:EcC 234 3 aggA:=ecs.2.2.2.1
theorem evLnec_any:EcC 236 4 aggA:=ecs.2.2.2.2.1
theorem evInlc_any:EcC 238 6 aggA:=ecs.2.2.2.2.2.1
theorem evVrrc_any:EcC 242 6 aggA:=ecs.2.2.2.2.2.2.1
theorem evDepc_any:EcC 244 4 aggA:=ecs.2.2.2.2.2.2.2.1
theorem evPcec_any:EcC 246 3 aggA:=ecs.2.2.2.2.2.2.2.2.1
theorem evCnvc_any:EcC 248 4 aggA:=ecs.2.2.2.2.2.2.2.2.2
theorem evs:(CfC 222 6 aggA→EcC 223 6 aggA→Enters Tryz.prog 223→EvC 144 6 aggA)∧
 (CfC 224 10 aggA→EcC 225 10 aggA→Enters Tryz.prog 225→EvC 150 10 aggA)∧
 (CfC 229 5 aggA→EcC 230 5 aggA→Enters Tryz.prog 230→EvC 157 5 aggA)∧
 (CfC 233 3 aggA→EcC 234 3 aggA→Enters Tryz.prog 234→EvC 167 3 aggA)∧
 (CfC 235 4 aggA→EcC 236 4 aggA→Enters Tryz.prog 236→EvC 173 4 aggA)∧
 (CfC 237 6 aggA→EcC 238 6 aggA→Enters Tryz.prog 238→EvC 175 6 aggA)∧
 (CfC 241 6 aggA→EcC 242 6 aggA→Enters Tryz.prog 242→EvC 183 6 aggA)∧
 (CfC 243 4 aggA→EcC 244 4 aggA→Enters Tryz.prog 244→EvC 187 4 aggA)∧
 (CfC 245 3 aggA→EcC 246 3 aggA→Enters Tryz.prog 246→EvC 191 3 aggA)∧
 (CfC 247 4 aggA→EcC 248 4 aggA→Enters Tryz.prog 248→EvC 196 4 aggA):=by
 refine⟨?_,?_,?_,?_,?_,?_,?_,?_,?_,?_⟩
 all_goals as_aux_lemma=>
  intro hcf hec hen α E p xs w v g lb hR hE hEl hl hp
  have hS:=any_all p xs
  have HC:=Hd.mk (fun w1 (h1:Below w.heap.size w w1) b (hb:w1.cell? ⟨b,0,none⟩=some (.func (.func g) #[] lb))=>
   @hcf α E (fun x=> !p x) xs w1 v _ #[.pointer (some ⟨b,0,none⟩)] (hR.below hE h1) hE hl ⟨hen,fun x hx w2 h2 cs hEc=>
    hec w2 g b lb ((hp.below h1).below h2) (by have hlt:=World.block_lt_of_cell? w1 _ hb;rw[h2.cell (p:=⟨b,0,none⟩) hlt];exact hb) hE x hx cs hEc (hEl _ _ _ hEc)⟩)
  obtain⟨r,hr⟩:∃r,(xs.any fun x=> !p x)=r:=⟨_,rfl⟩
  rw[hr] at hS
  simp only[hr] at HC
  have HS:=Hd.mk hS
  clear hS hr hR hp hcf hec hen
  first | go_enter Tryz.func144,Tryz.ntmps144 | go_enter Tryz.func150,Tryz.ntmps150 | go_enter Tryz.func157,Tryz.ntmps157 | go_enter Tryz.func167,Tryz.ntmps167 | go_enter Tryz.func173,Tryz.ntmps173 | go_enter Tryz.func175,Tryz.ntmps175 | go_enter Tryz.func183,Tryz.ntmps183 | go_enter Tryz.func187,Tryz.ntmps187 | go_enter Tryz.func191,Tryz.ntmps191 | go_enter Tryz.func196,Tryz.ntmps196
  go_wp2_with fail
  refine(HC.out _ (by go_grown) _ (by simp[go_sem])).mono ?_
  rintro e w2 ⟨rfl,hK2⟩
  have HK2:=Hd.mk hK2
  clear hK2
  go_wp2
  go_ret
  exact⟨ret_b HS.out,(show Below w.heap.size w _ by go_grown).trans (HK2.out.mono (by simp))⟩
theorem evSec_any:EvC 144 6 aggA:=evs.1 cfSec_any evSecc_any (enters_of Tryz.func223 rfl rfl)
theorem evSym_any:EvC 150 10 aggA:=evs.2.1 cfSym_any evSymc_any (enters_of Tryz.func225 rfl rfl)
theorem evRel_any:EvC 157 5 aggA:=evs.2.2.1 cfRel_any evRelc_any (enters_of Tryz.func230 rfl rfl)
theorem evIni_any:EvC 167 3 aggA:=evs.2.2.2.1 cfIni_any evInic_any (enters_of Tryz.func234 rfl rfl)
theorem evLne_any:EvC 173 4 aggA:=evs.2.2.2.2.1 cfLne_any evLnec_any (enters_of Tryz.func236 rfl rfl)
theorem evInl_any:EvC 175 6 aggA:=evs.2.2.2.2.2.1 cfInl_any evInlc_any (enters_of Tryz.func238 rfl rfl)
theorem evVrr_any:EvC 183 6 aggA:=evs.2.2.2.2.2.2.1 cfVrr_any evVrrc_any (enters_of Tryz.func242 rfl rfl)
theorem evDep_any:EvC 187 4 aggA:=evs.2.2.2.2.2.2.2.1 cfDep_any evDepc_any (enters_of Tryz.func244 rfl rfl)
theorem evPce_any:EvC 191 3 aggA:=evs.2.2.2.2.2.2.2.2.1 cfPce_any evPcec_any (enters_of Tryz.func246 rfl rfl)
theorem evCnv_any:EvC 196 4 aggA:=evs.2.2.2.2.2.2.2.2.2 cfCnv_any evCnvc_any (enters_of Tryz.func248 rfl rfl)
theorem xfInt_any {α:Type} {E:World→List Value→α→Prop} {p:α→Bool} {xs:List α} (w:World) (v:Value) (g:Nat) (lb:Array Value) (hR:Rw 1 E w v xs) (hE:Stays E) (hl:lenR xs.length) (hp:FnV oneA E (fun x=> .bool (p x)) xs w g lb):
 Calls Tryz.prog 262 #[v, .func (.func g) #[] lb] w fun e w'=>e= .returned (.int .i64 (idxP p xs))∧Below w.heap.size w w':=by
 obtain⟨pv,cv,rfl⟩:=hR.slice
 have HR:=Hd.mk hR
 have HP:=Hd.mk hp
 have eg:∀args w,(callFunc g args).run Tryz.prog w= .ok (.enter g args) w:=hp.ent
 clear hR hp
 unfold lenR at hl
 obtain⟨n,hn⟩:∃n,xs.length=n:=⟨_,rfl⟩
 rw[hn] at hl⊢
 go_enter Tryz.func262,Tryz.ntmps262
 go_wp2
 go_loopw [8] (fun i wr=>∃k:Nat,k≤n∧i= .int .i64 k∧Hd (∀j (h:j<xs.length),j<k→p xs[j]=false)∧Hd (Below w.heap.size w wr)) (fun i _=>n-(intOf i).toNat)
 case atStart=>exact⟨0,Nat.zero_le _,rfl,⟨fun j _ hj=>absurd hj (Nat.not_lt_zero _)⟩,⟨Below.refl _ _⟩⟩
 case round=>
  obtain⟨k,hk,rfl,HA,HK⟩:=hrel
  by_cases hlt:k<n
  ·have hd1:decide ((k:Int)< (n:Int))=true:=by simp;omega
   have hkq:k<xs.length:=hn▸hlt
   obtain⟨g0,of,cs,hpv,hg,hcl,hEc,hcc⟩:=(HR.out.below hE HK.out).at rfl (j:=k) hkq
   subst hpv
   obtain⟨u0,rfl⟩:=len1 hcl
   have HC:=Hd.mk (HP.out.at_ xs[k] (List.getElem_mem hkq) wr HK.out _ hEc)
   have hA:oneA [u0]=u0:=rfl
   rw[hA] at HC
   have c0:wr.cell? ⟨g0,of+k,none⟩=some u0:=by have:=hcc 0 _ rfl;rwa [Nat.mul_one] at this
   clear hcc hcl hEc hg hA
   rcases he:p xs[k] with _ | _
   ·have HE:=Hd.mk he
    rw[he] at HC
    clear he
    go_wp2_with fail
    refine HC.out.mono ?_
    rintro e w2 ⟨rfl,hK2⟩
    have HK2:=Hd.mk (HK.out.trans (hK2.mono HK.out.size))
    clear hK2
    go_wp2
    refine⟨⟨k+1,hlt,by go_num,⟨fun j h hj=> ?_⟩,HK2⟩,by simp[intOf];omega⟩
    rcases Nat.lt_succ_iff_lt_or_eq.1 hj with h' | rfl
    ·exact HA.out j h h'
    ·exact HE.out
   ·have HE:=Hd.mk he
    rw[he] at HC
    clear he
    go_wp2_with fail
    refine HC.out.mono ?_
    rintro e w2 ⟨rfl,hK2⟩
    have HK2:=Hd.mk (HK.out.trans (hK2.mono HK.out.size))
    clear hK2
    go_wp2
    go_ret
    exact⟨ret_i (idxP_hit hkq HE.out HA.out).symm,HK2.out⟩
  ·have hd1:decide ((k:Int)< (n:Int))=false:=by simp;omega
   go_wp2
   go_ret
   exact⟨ret_i (idxP_miss (fun j h=>HA.out j h (by omega))).symm,HK.out⟩
theorem cfInt_any {α:Type} {E:World→List Value→α→Prop} {p:α→Bool} {xs:List α} (w:World) (v:Value) (g:Nat) (lb:Array Value) (hR:Rw 1 E w v xs) (hE:Stays E) (hl:lenR xs.length) (hp:FnV oneA E (fun x=> .bool (p x)) xs w g lb):
 Calls Tryz.prog 231 #[v, .func (.func g) #[] lb] w fun e w'=>e= .returned (.bool (xs.any p))∧Below w.heap.size w w':=by
 have HX:=Hd.mk (xfInt_any w v g lb hR hE hl hp)
 have HI:=Hd.mk (idxP_any p xs)
 clear hR hp
 generalize idxP p xs=r at HX HI
 go_enter Tryz.func231,Tryz.ntmps231
 go_wp2_with fail
 refine HX.out.mono ?_
 rintro e w2 ⟨rfl,hK2⟩
 have HK2:=Hd.mk hK2
 clear hK2
 go_wp2
 go_ret
 exact⟨ret_b HI.out,HK2.out⟩
theorem evIntc_any {α:Type} {E:World→List Value→α→Prop} {p:α→Bool} {xs:List α} (w:World) (g b:Nat) (lb:Array Value) (hp:FnV oneA E (fun x=> .bool (p x)) xs w g lb) (hb:w.cell? ⟨b,0,none⟩=some (.func (.func g) #[] lb)) (hS:Stays E) (x:α) (hx:x∈xs) (cs:List Value) (hE:E w cs x) (hcl:cs.length=1):
 Calls Tryz.prog 232 #[oneA cs, .pointer (some ⟨b,0,none⟩)] w fun e w'=>e= .returned (.bool (!p x))∧Below w.heap.size w w':=by
 have eg:∀args w,(callFunc g args).run Tryz.prog w= .ok (.enter g args) w:=hp.ent
 have HC:=Hd.mk (hp.at_ x hx w (Below.refl _ _) cs hE)
 have hb1:w.cell? ⟨b,0,none⟩=some (.func (.func g) #[] lb):=hb
 clear hp hE hb
 obtain⟨u0,rfl⟩:=len1 hcl
 have hA:oneA [u0]=u0:=rfl
 rw[hA] at HC⊢
 clear hA hcl
 go_enter Tryz.func232,Tryz.ntmps232
 go_wp2_with fail
 refine HC.out.mono ?_
 rintro e w2 ⟨rfl,hK2⟩
 have HK2:=Hd.mk hK2
 clear hK2
 go_wp2
 go_ret
 exact⟨rfl,HK2.out⟩
theorem evInt_any {α:Type} {E:World→List Value→α→Prop} {p:α→Bool} {xs:List α} (w:World) (v:Value) (g:Nat) (lb:Array Value) (hR:Rw 1 E w v xs) (hE:Stays E) (hEl:∀w cs x,E w cs x→cs.length=1) (hl:lenR xs.length) (hp:FnV oneA E (fun x=> .bool (p x)) xs w g lb):
 Calls Tryz.prog 159 #[v, .func (.func g) #[] lb] w fun e w'=>e= .returned (.bool (xs.all p))∧Below w.heap.size w w':=by
 have hS:=any_all p xs
 have HC:Hd (∀w1,Below w.heap.size w w1→∀b,w1.cell? ⟨b,0,none⟩=some (.func (.func g) #[] lb)→Calls Tryz.prog 231 #[v, .func (.func 232) #[] #[.pointer (some ⟨b,0,none⟩)]] w1 fun e w'=>e= .returned (.bool (xs.any fun x=> !p x))∧Below w1.heap.size w1 w'):=⟨fun w1 h1 b hb=>
  cfInt_any w1 v 232 #[.pointer (some ⟨b,0,none⟩)] (hR.below hE h1) hE hl ⟨enters_of Tryz.func232 rfl rfl,fun x hx w2 h2 cs hEc=>
   evIntc_any w2 g b lb ((hp.below h1).below h2) (by have hlt:=World.block_lt_of_cell? w1 _ hb;rw[h2.cell (p:=⟨b,0,none⟩) hlt];exact hb) hE x hx cs hEc (hEl _ _ _ hEc)⟩⟩
 obtain⟨r,hr⟩:∃r,(xs.any fun x=> !p x)=r:=⟨_,rfl⟩
 rw[hr] at hS HC
 have HS:=Hd.mk hS
 clear hS hr hR hp
 go_enter Tryz.func159,Tryz.ntmps159
 go_wp2_with fail
 refine(HC.out _ (by go_grown) _ (by simp[go_sem])).mono ?_
 rintro e w2 ⟨rfl,hK2⟩
 have HK2:=Hd.mk hK2
 clear hK2
 go_wp2
 go_ret
 exact⟨ret_b HS.out,(show Below w.heap.size w _ by go_grown).trans (HK2.out.mono (by simp))⟩
end Go.Proofs.YtfaepbjnpakghaaGreatDoor.W
