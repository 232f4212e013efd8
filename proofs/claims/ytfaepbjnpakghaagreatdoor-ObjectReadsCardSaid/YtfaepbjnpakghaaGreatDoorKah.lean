import Derived.Test.YtfaepbjnpakghaaGreatDoorShelf
import Derived.Deep.Cut
import Derived.Test.YtfaepbjnpakghaaGreatDoorKad
import Derived.Test.YtfaepbjnpakghaaGreatDoorKag
import Derived.Test.YtfaepbjnpakghaaGreatDoorKac
/- The walks of the closures of converts: fits, pieces (printed by tools/gen_cls.py). -/
namespace Go.Proofs.YtfaepbjnpakghaaGreatDoor.W
open Go.RowKit
set_option linter.unusedVariables false
theorem less_bytes:∀(x y:List UInt8),Op.bytesLess x y=decide (x<y)
 | [],[]=>by simp[Op.bytesLess]
 | a::x,[]=>by simp[Op.bytesLess]
 | [],b::y=>by simp[Op.bytesLess]
 | a::x,b::y=>by
   rw[Op.bytesLess,less_bytes x y]
   simp only[List.cons_lt_cons_iff]
   by_cases h1:a<b<;>by_cases h2:a=b<;>by_cases h3:x<y<;>simp[h1,h2,h3]
theorem ofits_any (w:World) (a n z:Int) (hz:I64 z):
 Calls Tryz.prog 190 #[.int .i64 a, .int .i64 n, .int .i64 z] w fun e w'=>e= .returned (.bool (fitsP a n z))∧Below w.heap.size w w':=by
 have hS:fitsP a n z=(decide ((0:Int)≤a)&&decide ((1:Int)≤n)&&decide (n≤z)&&decide (a≤wrap64 (z-n))):=by
  unfold fitsP
  by_cases h:1≤n∧n≤z
  ·rw[show wrap64 (z-n)=z-n from by unfold I64 at hz;unfold wrap64;omega]
  ·rcases Classical.not_and_iff_not_or_not.1 h with h | h
   ·rw[decide_eq_false h];simp
   ·rw[decide_eq_false h];simp
 obtain⟨q0,h0⟩:∃q,(decide ((0:Int)≤a))=q:=⟨_,rfl⟩
 rw[h0] at hS
 obtain⟨q1,h1⟩:∃q,(decide ((1:Int)≤n))=q:=⟨_,rfl⟩
 rw[h1] at hS
 obtain⟨q2,h2⟩:∃q,(decide (n≤z))=q:=⟨_,rfl⟩
 rw[h2] at hS
 obtain⟨q3,h3⟩:∃q,(decide (a≤wrap64 (z-n)))=q:=⟨_,rfl⟩
 rw[h3] at hS
 have HS:=Hd.mk hS
 clear hS
 go_enter Tryz.func190,Tryz.ntmps190
 rcases q0 with _ | _
 ·go_wp2
  go_ret
  exact⟨ret_b (by rw[HS.out]<;>simp),by go_grown⟩
 rcases q1 with _ | _
 ·go_wp2
  go_ret
  exact⟨ret_b (by rw[HS.out]<;>simp),by go_grown⟩
 rcases q2 with _ | _
 ·go_wp2
  go_ret
  exact⟨ret_b (by rw[HS.out]<;>simp),by go_grown⟩
 rcases q3 with _ | _
 ·go_wp2
  go_ret
  exact⟨ret_b (by rw[HS.out]<;>simp),by go_grown⟩
 go_wp2
 go_ret
 exact⟨ret_b (by rw[HS.out]<;>simp),by go_grown⟩
theorem opce_any (w:World) (x:Pce) (hx:x.Ok) (bf bz:Nat) (z:Int) (hz:I64 z) (hf:w.cell? ⟨bf,0,none⟩=some (.func (.func 190) #[] #[])) (hc:w.cell? ⟨bz,0,none⟩=some (.int .i64 z)):
 Calls Tryz.prog 192 #[.agg #[.int .i64 x.from_, .int .i64 x.size, .int .i64 x.to_], .pointer (some ⟨bf,0,none⟩), .pointer (some ⟨bz,0,none⟩)] w fun e w'=>e= .returned (.bool (pceB z x))∧Below w.heap.size w w':=by
 have HA:=Hd.mk (fun w=>ofits_any w x.from_ x.size 1048576 (by unfold I64;omega))
 have HB:=Hd.mk (fun w=>ofits_any w x.to_ x.size z hz)
 have hS:pceB z x=(fitsP x.from_ x.size 1048576&&fitsP x.to_ x.size z):=rfl
 obtain⟨q0,h0⟩:∃q,fitsP x.from_ x.size 1048576=q:=⟨_,rfl⟩
 obtain⟨q1,h1⟩:∃q,fitsP x.to_ x.size z=q:=⟨_,rfl⟩
 rw[h0] at HA hS
 rw[h1] at HB hS
 have HS:=Hd.mk hS
 clear hS h0 h1
 have hf1:∀o,(w.alloc o).cell? ⟨bf,0,none⟩=some (.func (.func 190) #[] #[]):=fun o=>by rw[(below_alloc w o).cell (p:=⟨bf,0,none⟩) (World.block_lt_of_cell? w _ hf)];exact hf
 have hc1:∀o,(w.alloc o).cell? ⟨bz,0,none⟩=some (.int .i64 z):=fun o=>by rw[(below_alloc w o).cell (p:=⟨bz,0,none⟩) (World.block_lt_of_cell? w _ hc)];exact hc
 have eg:∀args w,(callFunc 190 args).run Tryz.prog w= .ok (.enter 190 args) w:=enters_of Tryz.func190 rfl rfl
 clear hf hc
 rcases q0 with _ | _
 ·go_enter Tryz.func192,Tryz.ntmps192
  go_wp2_with fail
  refine(HA.out _).mono ?_
  rintro e w1 ⟨rfl,hK1⟩
  have HK1:=Hd.mk (below_first hK1)
  clear hK1
  go_wp2
  go_ret
  exact⟨ret_b (by rw[HS.out]<;>simp),HK1.out⟩
 ·go_enter Tryz.func192,Tryz.ntmps192
  go_wp2_with fail
  refine(HA.out _).mono ?_
  rintro e w1 ⟨rfl,hK1⟩
  have k0:w1.cell? ⟨w.heap.size,0,none⟩=some (.int .i64 x.from_):=(hK1.cell (p:=⟨w.heap.size,0,none⟩) (by simp)).trans (by simp[go_sem])
  have k1:w1.cell? ⟨w.heap.size,1,none⟩=some (.int .i64 x.size):=(hK1.cell (p:=⟨w.heap.size,1,none⟩) (by simp)).trans (by simp[go_sem])
  have k2:w1.cell? ⟨w.heap.size,2,none⟩=some (.int .i64 x.to_):=(hK1.cell (p:=⟨w.heap.size,2,none⟩) (by simp)).trans (by simp[go_sem])
  have k3:w1.cell? ⟨bf,0,none⟩=some (.func (.func 190) #[] #[]):=(hK1.cell (p:=⟨bf,0,none⟩) (World.block_lt_of_cell? _ _ (hf1 _))).trans (hf1 _)
  have k4:w1.cell? ⟨bz,0,none⟩=some (.int .i64 z):=(hK1.cell (p:=⟨bz,0,none⟩) (World.block_lt_of_cell? _ _ (hc1 _))).trans (hc1 _)
  have HK1:=Hd.mk (below_first hK1)
  clear hK1 hf1 hc1
  go_wp2_with fail
  refine(HB.out _).mono ?_
  rintro e w2 ⟨rfl,hK2⟩
  have HK2:=Hd.mk (HK1.out.trans (hK2.mono HK1.out.size))
  clear hK2
  go_wp2
  go_ret
  exact⟨ret_b (by rw[HS.out]<;>simp),HK2.out⟩
theorem ocnv2_any (w:World) (x y:Cnv) (hx:x.Ok) (hy:y.Ok) (vx vy:Value) (hvx:∃p n c,vx= .slice p n c) (hvy:∃p n c,vy= .slice p n c):
 Calls Tryz.prog 195 #[.agg #[.int .i64 x.sec, .string x.from_,vx, .int .i64 x.code], .agg #[.int .i64 y.sec, .string y.from_,vy, .int .i64 y.code]] w fun e w'=>e= .returned (.bool (cnvOrd x y))∧Below w.heap.size w w':=by
 obtain⟨p1,n1,c1,rfl⟩:=hvx
 obtain⟨p2,n2,c2,rfl⟩:=hvy
 have hS:cnvOrd x y=(decide (x.sec<y.sec) || ((x.sec==y.sec)&&decide (x.from_.data.toList<y.from_.data.toList))):=rfl
 have hlt:Op.bytesLess x.from_.toList y.from_.toList=decide (x.from_.data.toList<y.from_.data.toList):=by rw[less_bytes,_root_.Go.ByteArray.toList_eq,_root_.Go.ByteArray.toList_eq]
 rw[←hlt] at hS
 obtain⟨q0,h0⟩:∃q,decide (x.sec<y.sec)=q:=⟨_,rfl⟩
 obtain⟨q1,h1⟩:∃q,(x.sec==y.sec)=q:=⟨_,rfl⟩
 rw[h0,h1] at hS
 have HS:=Hd.mk hS
 clear hS hlt
 rcases q0 with _ | _
 ·rcases q1 with _ | _
  ·go_enter Tryz.func195,Tryz.ntmps195
   go_wp2
   go_ret
   exact⟨ret_b (by rw[HS.out]<;>simp),by go_grown⟩
  ·go_enter Tryz.func195,Tryz.ntmps195
   go_wp2
   go_ret
   exact⟨ret_b (by rw[HS.out]<;>simp),by go_grown⟩
 ·go_enter Tryz.func195,Tryz.ntmps195
  go_wp2
  go_ret
  exact⟨ret_b (by rw[HS.out]<;>simp),by go_grown⟩
end Go.Proofs.YtfaepbjnpakghaaGreatDoor.W
namespace Go.Proofs.YtfaepbjnpakghaaGreatDoor.W
open Go.RowKit
set_option linter.unusedVariables false
theorem nanS_any (s:ByteArray) (w:World):Calls Tryz.prog 240 #[.string s] w fun e w'=>e= .returned (.bool false)∧w=w':=by
 go_enter Tryz.func240,Tryz.ntmps240
 go_wp2
 go_ret
 exact⟨by simp,rfl⟩
theorem nanI_any (x:Int) (w:World):Calls Tryz.prog 239 #[.int .i64 x] w fun e w'=>e= .returned (.bool false)∧w=w':=by
 go_enter Tryz.func239,Tryz.ntmps239
 go_wp2
 go_ret
 exact⟨by simp,rfl⟩
def cmpL (a b:List UInt8):Int:=if a<b then -1 else if b<a then 1 else 0
theorem cmpI_any (x y:Int) (w:World):Calls Tryz.prog 179 #[.int .i64 x, .int .i64 y] w fun e w'=>e= .returned (.int .i64 (cmpI x y))∧w=w':=by
 have HN:=Hd.mk nanI_any
 have hS:cmpI x y=if decide (x<y) then -1 else if decide (y<x) then 1 else 0:=by simp[cmpI]
 obtain⟨q0,h0⟩:∃q,decide (x<y)=q:=⟨_,rfl⟩
 obtain⟨q1,h1⟩:∃q,decide (y<x)=q:=⟨_,rfl⟩
 rw[h0,h1] at hS
 have HS:=Hd.mk hS
 clear hS
 rcases q0 with _ | _
 ·rcases q1 with _ | _<;>
  ·go_enter Tryz.func179,Tryz.ntmps179
   go_wp2_with fail
   refine(HN.out _ _).mono ?_;rintro e w' ⟨rfl,rfl⟩
   go_wp2_with fail
   refine(HN.out _ _).mono ?_;rintro e w' ⟨rfl,rfl⟩
   go_wp2
   go_ret
   exact⟨ret_i (by rw[HS.out];rfl),rfl⟩
 ·go_enter Tryz.func179,Tryz.ntmps179
  go_wp2_with fail
  refine(HN.out _ _).mono ?_;rintro e w' ⟨rfl,rfl⟩
  go_wp2_with fail
  refine(HN.out _ _).mono ?_;rintro e w' ⟨rfl,rfl⟩
  go_wp2
  go_ret
  exact⟨ret_i (by rw[HS.out];rfl),rfl⟩
theorem bytes_tri:∀x y:List UInt8,¬x<y→x≠y→y<x
 | [],[],_,h=>absurd rfl h
 | [],b::y,h,_=>absurd (by simp) h
 | a::x,[],_,_=>by simp
 | a::x,b::y,h,hn=>by
   rw[List.cons_lt_cons_iff] at h⊢
   by_cases e:a=b
   ·subst e
    exact .inr ⟨rfl,bytes_tri x y (fun hl=>h (.inr ⟨rfl,hl⟩)) (fun he=>hn (by rw[he]))⟩
   ·refine .inl ?_
    have h1:¬a<b:=fun hl=>h (.inl hl)
    rw[UInt8.lt_iff_toNat_lt] at h1⊢
    have h2:a.toNat≠b.toNat:=fun he=>e (UInt8.toNat_inj.1 he)
    omega
theorem bytes_irr (x:List UInt8):¬x<x:=by
 induction x with
 | nil=>simp
 | cons a x ih=>rw[List.cons_lt_cons_iff];rintro(h | ⟨_,h⟩);exact absurd h (by rw[UInt8.lt_iff_toNat_lt];omega);exact ih h
theorem cmpS_any (x y:ByteArray) (w:World):Calls Tryz.prog 182 #[.string x, .string y] w fun e w'=>e= .returned (.int .i64 (cmpL x.data.toList y.data.toList))∧w=w':=by
 have HN:=Hd.mk nanS_any
 have hl:∀x y:ByteArray,Op.bytesLess x.toList y.toList=decide (x.data.toList<y.data.toList):=fun x y=>by rw[less_bytes,_root_.Go.ByteArray.toList_eq,_root_.Go.ByteArray.toList_eq]
 have hS:cmpL x.data.toList y.data.toList=if Op.bytesLess x.toList y.toList then -1 else if(x.toList==y.toList) then 0 else 1:=by
  rw[hl,_root_.Go.ByteArray.toList_eq,_root_.Go.ByteArray.toList_eq]
  unfold cmpL
  generalize x.data.toList=X
  generalize y.data.toList=Y
  by_cases h1:X<Y
  ·simp[h1]
  ·by_cases h2:X=Y
   ·have:=bytes_irr Y
    simp[h2,this]
   ·simp[h1,h2,bytes_tri _ _ h1 h2]
 obtain⟨q0,h0⟩:∃q,Op.bytesLess x.toList y.toList=q:=⟨_,rfl⟩
 obtain⟨q1,h1⟩:∃q,(x.toList==y.toList)=q:=⟨_,rfl⟩
 rw[h0,h1] at hS
 have HS:=Hd.mk hS
 clear hS hl
 rcases q0 with _ | _
 ·rcases q1 with _ | _<;>
  ·go_enter Tryz.func182,Tryz.ntmps182
   go_wp2_with fail
   refine(HN.out _ _).mono ?_;rintro e w' ⟨rfl,rfl⟩
   go_wp2_with fail
   refine(HN.out _ _).mono ?_;rintro e w' ⟨rfl,rfl⟩
   go_wp2
   go_ret
   exact⟨ret_i (by rw[HS.out];rfl),rfl⟩
 ·go_enter Tryz.func182,Tryz.ntmps182
  go_wp2_with fail
  refine(HN.out _ _).mono ?_;rintro e w' ⟨rfl,rfl⟩
  go_wp2_with fail
  refine(HN.out _ _).mono ?_;rintro e w' ⟨rfl,rfl⟩
  go_wp2
  go_ret
  exact⟨ret_i (by rw[HS.out];rfl),rfl⟩
def orL (ks:List Int):Int:=(ks.find? fun k=>decide (k≠0)).getD 0
theorem orL_hit {ks:List Int} {k:Nat} (h:k<ks.length) (hz:ks[k]≠0) (ha:∀j (h:j<ks.length),j<k→ks[j]=0):orL ks=ks[k]:=by
 unfold orL
 have:ks.find? (fun k=>decide (k≠0))=some ks[k]:=by
  rw[List.find?_eq_some_iff_getElem]
  exact⟨by simpa using hz,k,h,rfl,fun j hj=>by simpa using ha j (by omega) hj⟩
 rw[this];rfl
theorem orL_miss {ks:List Int} (ha:∀j (h:j<ks.length),ks[j]=0):orL ks=0:=by
 unfold orL
 have:ks.find? (fun k=>decide (k≠0))=none:=by
  rw[List.find?_eq_none]
  intro x hx
  obtain⟨j,hj,rfl⟩:=List.getElem_of_mem hx
  simpa using ha j hj
 rw[this];rfl
theorem cmpOr_any (w:World) (v:Value) (ks:List Int) (hl:lenR ks.length) (h:Rw 1 intE w v ks):Calls Tryz.prog 178 #[v] w fun e w'=>e= .returned (.int .i64 (orL ks))∧w=w':=by
 obtain⟨p,c,rfl⟩:=h.slice
 have H:=Hd.mk h
 clear h
 unfold lenR at hl
 obtain⟨n,hn⟩:∃n,ks.length=n:=⟨_,rfl⟩
 rw[hn] at hl⊢
 have HN:=Hd.mk hn
 rw[hn] at H
 clear hn
 go_enter Tryz.func178,Tryz.ntmps178
 go_wp2
 go_loop [8] (fun i=>∃k:Nat,k≤n∧i= .int .i64 k∧Hd (∀j (h:j<ks.length),j<k→ks[j]=0)) (fun i=>n-(intOf i).toNat)
 case atStart=>exact⟨0,Nat.zero_le _,rfl,⟨fun j _ hj=>absurd hj (Nat.not_lt_zero _)⟩⟩
 case round=>
  obtain⟨k,hk,rfl,HA⟩:=hrel
  by_cases hlt:k<n
  ·have hd1:decide ((k:Int)< (n:Int))=true:=by simp;omega
   have hkq:k<ks.length:=HN.out▸hlt
   obtain⟨g,o,cs,hp,hg,hcl,hE,hcc⟩:=H.out.at rfl (j:=k) hkq
   have hE':cs=[.int .i64 ks[k]]:=hE
   subst hE'
   subst hp
   have hc:w.cell? ⟨g,o+k,none⟩=some (.int .i64 ks[k]):=by have:=hcc 0 _ rfl;rwa [Nat.mul_one] at this
   obtain⟨z,hz⟩:∃z,ks[k]=z:=⟨_,rfl⟩
   rw[hz] at hc
   have HZ:=Hd.mk hz
   clear hcc hcl hE hg hz
   by_cases h0:z=0
   ·have e1:(z==0)=true:=by simp[h0]
    have e2:(z !=0)=false:=by simp[h0]
    have H0:=Hd.mk h0
    clear h0
    go_wp2
    go_round
    case rel=>exact⟨k+1,hlt,by go_num,⟨fun j h hj=>by
     rcases Nat.lt_succ_iff_lt_or_eq.1 hj with h' | rfl
     ·exact HA.out j h h'
     ·rw[HZ.out];exact H0.out⟩⟩
    case measure=>simp[intOf];omega
   ·have e1:(z==0)=false:=by simp[h0]
    have e2:(z !=0)=true:=by simp[h0]
    have H0:=Hd.mk h0
    clear h0
    go_wp2
    go_ret
    exact⟨ret_i (by rw[orL_hit hkq (by rw[HZ.out];exact H0.out) HA.out,HZ.out]),rfl⟩
  ·have hd1:decide ((k:Int)< (n:Int))=false:=by simp;omega
   go_wp2
   go_ret
   exact⟨ret_i (orL_miss (fun j h=>HA.out j h (by have:=HN.out;omega))).symm,rfl⟩
theorem vrr_or (x y:Vrr):decide (orL [cmpI x.sec y.sec,cmpI x.from_ y.from_,cmpI x.to_ y.to_,cmpL x.name.data.toList y.name.data.toList]<0)=vrrOrd x y:=by
 unfold vrrOrd orL
 have key:∀(a b:Int) (t:Bool) (r:List Int),decide (((cmpI a b::r).find? fun k=>decide (k≠0)).getD 0<0)=(decide (a<b) || decide (a=b)&&decide ((r.find? fun k=>decide (k≠0)).getD 0<0)):=by
  intro a b t r
  by_cases h1:a<b
  ·simp[cmpI,h1]
  ·by_cases h2:b<a
   ·have h3:¬a=b:=by omega
    simp[cmpI,h1,h2,h3]
   ·have h3:a=b:=by omega
    subst h3
    simp[cmpI]
 rw[key _ _ true,key _ _ true,key _ _ true]
 congr 5
 by_cases h1:x.name.data.toList<y.name.data.toList
 ·simp[cmpL,h1]
 ·by_cases h2:y.name.data.toList<x.name.data.toList
  ·simp[cmpL,h1,h2]
  ·simp[cmpL,h1,h2]
end Go.Proofs.YtfaepbjnpakghaaGreatDoor.W
namespace Go.Proofs.YtfaepbjnpakghaaGreatDoor.W
open Go.RowKit
set_option linter.unusedVariables false
theorem rowK (w:World) (o1 o2:Obj) (a b c d:Int):Rw 1 intE (((w.alloc o1).alloc o2).alloc (.cells #[.int .i64 a, .int .i64 b, .int .i64 c, .int .i64 d] 3)).drew (.slice (some ⟨w.heap.size+1+1,0,none⟩) 4 4) [a,b,c,d]:=by
 have:=(Rw.ints (ks:=[a,b,c,d]) (cap:=4) (Blk.new ((w.alloc o1).alloc o2) 3 [.int .i64 a, .int .i64 b, .int .i64 c, .int .i64 d])).below intE_stays (Below.drew (Below.refl _ _))
 rwa [show((w.alloc o1).alloc o2).heap.size=w.heap.size+1+1 from by simp] at this
set_option maxHeartbeats 4000000 in
set_option maxRecDepth 100000 in
theorem ovar2_any (w:World) (x y:Vrr):
 Calls Tryz.prog 181 #[.agg #[.int .i64 x.sec, .int .i64 x.from_, .int .i64 x.to_, .string x.name, .int .i64 x.where_, .int .i64 x.n], .agg #[.int .i64 y.sec, .int .i64 y.from_, .int .i64 y.to_, .string y.name, .int .i64 y.where_, .int .i64 y.n]] w fun e w'=>e= .returned (.bool (vrrOrd x y))∧Below w.heap.size w w':=by
 have HC1:=Hd.mk (fun w=>cmpI_any x.sec y.sec w)
 have HC2:=Hd.mk (fun w=>cmpI_any x.from_ y.from_ w)
 have HC3:=Hd.mk (fun w=>cmpI_any x.to_ y.to_ w)
 have HC4:=Hd.mk (fun w=>cmpS_any x.name y.name w)
 have hS:=vrr_or x y
 obtain⟨k1,h1⟩:∃k,cmpI x.sec y.sec=k:=⟨_,rfl⟩
 obtain⟨k2,h2⟩:∃k,cmpI x.from_ y.from_=k:=⟨_,rfl⟩
 obtain⟨k3,h3⟩:∃k,cmpI x.to_ y.to_=k:=⟨_,rfl⟩
 obtain⟨k4,h4⟩:∃k,cmpL x.name.data.toList y.name.data.toList=k:=⟨_,rfl⟩
 rw[h1] at HC1 hS
 rw[h2] at HC2 hS
 rw[h3] at HC3 hS
 rw[h4] at HC4 hS
 have HS:=Hd.mk hS
 have HO:=Hd.mk (fun(w:World) (v:Value) (hr:Rw 1 intE w v [k1,k2,k3,k4])=>cmpOr_any w v [k1,k2,k3,k4] (show(4:Nat)≤140737488351232 by decide) hr)
 clear hS h1 h2 h3 h4
 have HF:Hd (∀w',Below ((w.alloc (.cells #[.int .i64 x.sec, .int .i64 x.from_, .int .i64 x.to_, .string x.name, .int .i64 x.where_, .int .i64 x.n] 94)).alloc (.cells #[.int .i64 y.sec, .int .i64 y.from_, .int .i64 y.to_, .string y.name, .int .i64 y.where_, .int .i64 y.n] 94)).heap.size ((w.alloc (.cells #[.int .i64 x.sec, .int .i64 x.from_, .int .i64 x.to_, .string x.name, .int .i64 x.where_, .int .i64 x.n] 94)).alloc (.cells #[.int .i64 y.sec, .int .i64 y.from_, .int .i64 y.to_, .string y.name, .int .i64 y.where_, .int .i64 y.n] 94)) w'→w'.cell? ⟨w.heap.size,0,none⟩=some (.int .i64 x.sec)∧w'.cell? ⟨w.heap.size,1,none⟩=some (.int .i64 x.from_)∧w'.cell? ⟨w.heap.size,2,none⟩=some (.int .i64 x.to_)∧w'.cell? ⟨w.heap.size,3,none⟩=some (.string x.name)∧w'.cell? ⟨w.heap.size,4,none⟩=some (.int .i64 x.where_)∧w'.cell? ⟨w.heap.size,5,none⟩=some (.int .i64 x.n)∧w'.cell? ⟨w.heap.size+1,0,none⟩=some (.int .i64 y.sec)∧w'.cell? ⟨w.heap.size+1,1,none⟩=some (.int .i64 y.from_)∧w'.cell? ⟨w.heap.size+1,2,none⟩=some (.int .i64 y.to_)∧w'.cell? ⟨w.heap.size+1,3,none⟩=some (.string y.name)∧w'.cell? ⟨w.heap.size+1,4,none⟩=some (.int .i64 y.where_)∧w'.cell? ⟨w.heap.size+1,5,none⟩=some (.int .i64 y.n)):=⟨fun w' h=>⟨(h.cell (p:=⟨w.heap.size,0,none⟩) (by simp;omega)).trans (by simp[go_sem]),(h.cell (p:=⟨w.heap.size,1,none⟩) (by simp;omega)).trans (by simp[go_sem]),(h.cell (p:=⟨w.heap.size,2,none⟩) (by simp;omega)).trans (by simp[go_sem]),(h.cell (p:=⟨w.heap.size,3,none⟩) (by simp;omega)).trans (by simp[go_sem]),(h.cell (p:=⟨w.heap.size,4,none⟩) (by simp;omega)).trans (by simp[go_sem]),(h.cell (p:=⟨w.heap.size,5,none⟩) (by simp;omega)).trans (by simp[go_sem]),(h.cell (p:=⟨w.heap.size+1,0,none⟩) (by simp)).trans (by simp[go_sem]),(h.cell (p:=⟨w.heap.size+1,1,none⟩) (by simp)).trans (by simp[go_sem]),(h.cell (p:=⟨w.heap.size+1,2,none⟩) (by simp)).trans (by simp[go_sem]),(h.cell (p:=⟨w.heap.size+1,3,none⟩) (by simp)).trans (by simp[go_sem]),(h.cell (p:=⟨w.heap.size+1,4,none⟩) (by simp)).trans (by simp[go_sem]),(h.cell (p:=⟨w.heap.size+1,5,none⟩) (by simp)).trans (by simp[go_sem])⟩⟩
 go_enter Tryz.func181,Tryz.ntmps181
 go_wp2_with fail
 refine wp_region_lin default (fun w'=>Below ((w.alloc (.cells #[.int .i64 x.sec, .int .i64 x.from_, .int .i64 x.to_, .string x.name, .int .i64 x.where_, .int .i64 x.n] 94)).alloc (.cells #[.int .i64 y.sec, .int .i64 y.from_, .int .i64 y.to_, .string y.name, .int .i64 y.where_, .int .i64 y.n] 94)).heap.size ((w.alloc (.cells #[.int .i64 x.sec, .int .i64 x.from_, .int .i64 x.to_, .string x.name, .int .i64 x.where_, .int .i64 x.n] 94)).alloc (.cells #[.int .i64 y.sec, .int .i64 y.from_, .int .i64 y.to_, .string y.name, .int .i64 y.where_, .int .i64 y.n] 94)) w') [(0,true),(1,true),(2,true),(3,true),(5,true),(6,true),(7,true),(8,true),(10,true),(11,true),(12,true),(13,true),(15,true),(16,true),(17,true),(18,true),(4,false),(9,false),(14,false),(19,false),(20,false),(21,false),(22,true),(23,true)] (by kernel_rfl) (by kernel_rfl) rfl (by kernel_rfl) (by kernel_rfl) (Below.drew (Below.refl _ _)) ?_
 simp only[pick,List.getD_cons_zero,List.getD_cons_succ]
 repeat
  first
  | (refine lin_free (v:= ?_) (by rfl) ?_ ?_
     rotate_left
     ·intro w' hSw
      obtain⟨f0,f1,f2,f3,f4,f5,g0,g1,g2,g3,g4,g5⟩:=HF.out w' hSw
      clear hSw
      go_simp
      first | done | with_reducible rfl
     simp only[Act.put,List.setIfInBounds_toArray,List.set_cons_zero,List.set_cons_succ])
  | (refine lin_skip (by rfl) ?_
     simp only[Act.put,List.setIfInBounds_toArray,List.set_cons_zero,List.set_cons_succ])
 refine lin_bound (fun K hK=> ?_)
 go_simp
 refine(HC1.out _).mono ?_
 rintro e w' ⟨rfl,rfl⟩
 refine hK.out _ _ (Below.drew (Below.refl _ _)) ?_
 clear hK K
 try simp only[Act.put,List.setIfInBounds_toArray,List.set_cons_zero,List.set_cons_succ]
 refine lin_bound (fun K hK=> ?_)
 go_simp
 refine(HC2.out _).mono ?_
 rintro e w' ⟨rfl,rfl⟩
 refine hK.out _ _ (Below.drew (Below.refl _ _)) ?_
 clear hK K
 try simp only[Act.put,List.setIfInBounds_toArray,List.set_cons_zero,List.set_cons_succ]
 refine lin_bound (fun K hK=> ?_)
 go_simp
 refine(HC3.out _).mono ?_
 rintro e w' ⟨rfl,rfl⟩
 refine hK.out _ _ (Below.drew (Below.refl _ _)) ?_
 clear hK K
 try simp only[Act.put,List.setIfInBounds_toArray,List.set_cons_zero,List.set_cons_succ]
 refine lin_bound (fun K hK=> ?_)
 go_simp
 refine(HC4.out _).mono ?_
 rintro e w' ⟨rfl,rfl⟩
 refine hK.out _ _ (Below.drew (Below.refl _ _)) ?_
 clear hK K
 try simp only[Act.put,List.setIfInBounds_toArray,List.set_cons_zero,List.set_cons_succ]
 refine lin_bound (fun K hK=> ?_)
 go_simp
 refine hK.out _ _ (by go_grown) ?_
 clear hK K
 try simp only[Act.put,List.setIfInBounds_toArray,List.set_cons_zero,List.set_cons_succ]
 refine lin_bound (fun K hK=> ?_)
 go_simp
 refine(HO.out _ _ (rowK w _ _ _ _ _ _)).mono ?_
 rintro e w' ⟨rfl,rfl⟩
 refine hK.out _ _ (by go_grown) ?_
 clear hK K
 try simp only[Act.put,List.setIfInBounds_toArray,List.set_cons_zero,List.set_cons_succ]
 repeat
  first
  | (refine lin_free (v:= ?_) (by rfl) ?_ ?_
     rotate_left
     ·intro w' hSw
      obtain⟨f0,f1,f2,f3,f4,f5,g0,g1,g2,g3,g4,g5⟩:=HF.out w' hSw
      clear hSw
      go_simp
      first | done | with_reducible rfl
     simp only[Act.put,List.setIfInBounds_toArray,List.set_cons_zero,List.set_cons_succ])
  | (refine lin_skip (by rfl) ?_
     simp only[Act.put,List.setIfInBounds_toArray,List.set_cons_zero,List.set_cons_succ])
 refine NoPanic.normal ?_
 go_wp2
 go_ret
 exact⟨ret_b HS.out,by go_grown⟩
set_option maxHeartbeats 4000000 in
set_option maxRecDepth 100000 in
theorem orel2_any (w:World) (x y:Rel) (h64:I64 (x.at_+widthI x.kind)):
 Calls Tryz.prog 156 #[.agg #[.int .i64 x.sec, .int .i64 x.at_, .int .i64 x.kind, .int .i64 x.sym, .int .i64 x.add], .agg #[.int .i64 y.sec, .int .i64 y.at_, .int .i64 y.kind, .int .i64 y.sym, .int .i64 y.add]] w fun e w'=>e= .returned (.bool (relOrd x y))∧Below w.heap.size w w':=by
 have HW:=Hd.mk (fun w=>owidth_any x.kind w)
 have hw:IntKind.i64.wrap (x.at_+(widthI x.kind:Int))=x.at_+(widthI x.kind:Int):=IntWalk.i64_in _ (by unfold I64 at h64;omega)
 have hS:relOrd x y=(decide (x.sec<y.sec) || ((x.sec==y.sec)&&decide (x.at_+(widthI x.kind:Int)≤y.at_))):=rfl
 obtain⟨q0,h0⟩:∃q,decide (x.sec<y.sec)=q:=⟨_,rfl⟩
 obtain⟨q1,h1⟩:∃q,(x.sec==y.sec)=q:=⟨_,rfl⟩
 rw[h0,h1] at hS
 have HS:=Hd.mk hS
 clear hS h64
 obtain⟨d,hd⟩:∃d:Nat,widthI x.kind=d:=⟨_,rfl⟩
 rw[hd] at HW hw HS
 clear hd
 have HF:Hd (∀w',Below ((w.alloc (.cells #[.int .i64 x.sec, .int .i64 x.at_, .int .i64 x.kind, .int .i64 x.sym, .int .i64 x.add] 50)).alloc (.cells #[.int .i64 y.sec, .int .i64 y.at_, .int .i64 y.kind, .int .i64 y.sym, .int .i64 y.add] 50)).heap.size ((w.alloc (.cells #[.int .i64 x.sec, .int .i64 x.at_, .int .i64 x.kind, .int .i64 x.sym, .int .i64 x.add] 50)).alloc (.cells #[.int .i64 y.sec, .int .i64 y.at_, .int .i64 y.kind, .int .i64 y.sym, .int .i64 y.add] 50)) w'→w'.cell? ⟨w.heap.size,0,none⟩=some (.int .i64 x.sec)∧w'.cell? ⟨w.heap.size,1,none⟩=some (.int .i64 x.at_)∧w'.cell? ⟨w.heap.size,2,none⟩=some (.int .i64 x.kind)∧w'.cell? ⟨w.heap.size,3,none⟩=some (.int .i64 x.sym)∧w'.cell? ⟨w.heap.size,4,none⟩=some (.int .i64 x.add)∧w'.cell? ⟨w.heap.size+1,0,none⟩=some (.int .i64 y.sec)∧w'.cell? ⟨w.heap.size+1,1,none⟩=some (.int .i64 y.at_)∧w'.cell? ⟨w.heap.size+1,2,none⟩=some (.int .i64 y.kind)∧w'.cell? ⟨w.heap.size+1,3,none⟩=some (.int .i64 y.sym)∧w'.cell? ⟨w.heap.size+1,4,none⟩=some (.int .i64 y.add)):=⟨fun w' h=>⟨(h.cell (p:=⟨w.heap.size,0,none⟩) (by simp;omega)).trans (by simp[go_sem]),(h.cell (p:=⟨w.heap.size,1,none⟩) (by simp;omega)).trans (by simp[go_sem]),(h.cell (p:=⟨w.heap.size,2,none⟩) (by simp;omega)).trans (by simp[go_sem]),(h.cell (p:=⟨w.heap.size,3,none⟩) (by simp;omega)).trans (by simp[go_sem]),(h.cell (p:=⟨w.heap.size,4,none⟩) (by simp;omega)).trans (by simp[go_sem]),(h.cell (p:=⟨w.heap.size+1,0,none⟩) (by simp)).trans (by simp[go_sem]),(h.cell (p:=⟨w.heap.size+1,1,none⟩) (by simp)).trans (by simp[go_sem]),(h.cell (p:=⟨w.heap.size+1,2,none⟩) (by simp)).trans (by simp[go_sem]),(h.cell (p:=⟨w.heap.size+1,3,none⟩) (by simp)).trans (by simp[go_sem]),(h.cell (p:=⟨w.heap.size+1,4,none⟩) (by simp)).trans (by simp[go_sem])⟩⟩
 rcases q0 with _ | _
 rcases q1 with _ | _
 ·go_enter Tryz.func156,Tryz.ntmps156
  go_wp2_with fail
  refine wp_region_lin default (fun w'=>Below ((w.alloc (.cells #[.int .i64 x.sec, .int .i64 x.at_, .int .i64 x.kind, .int .i64 x.sym, .int .i64 x.add] 50)).alloc (.cells #[.int .i64 y.sec, .int .i64 y.at_, .int .i64 y.kind, .int .i64 y.sym, .int .i64 y.add] 50)).heap.size ((w.alloc (.cells #[.int .i64 x.sec, .int .i64 x.at_, .int .i64 x.kind, .int .i64 x.sym, .int .i64 x.add] 50)).alloc (.cells #[.int .i64 y.sec, .int .i64 y.at_, .int .i64 y.kind, .int .i64 y.sym, .int .i64 y.add] 50)) w') [(0,true),(1,true),(2,true),(3,true),(4,true),(5,true),(6,true),(7,true),(8,true),(9,true),(10,true),(11,true),(12,true),(13,true),(14,true),(15,true),(18,true),(19,true),(16,false),(17,true),(20,true),(21,true),(22,true),(23,true)] (by kernel_rfl) (by kernel_rfl) rfl (by kernel_rfl) (by kernel_rfl) (Below.drew (Below.refl _ _)) ?_
  simp only[pick,List.getD_cons_zero,List.getD_cons_succ]
  repeat
   first
   | (refine lin_free (v:= ?_) (by rfl) ?_ ?_
      rotate_left
      ·intro w' hSw
       obtain⟨f0,f1,f2,f3,f4,g0,g1,g2,g3,g4⟩:=HF.out w' hSw
       clear hSw
       go_simp
       first | done | with_reducible rfl
      simp only[Act.put,List.setIfInBounds_toArray,List.set_cons_zero,List.set_cons_succ])
   | (refine lin_skip (by rfl) ?_
      simp only[Act.put,List.setIfInBounds_toArray,List.set_cons_zero,List.set_cons_succ])
  refine lin_bound (fun K hK=> ?_)
  go_simp
  refine hK.out _ _ (Below.drew (Below.refl _ _)) ?_
  clear hK K
  try simp only[Act.put,List.setIfInBounds_toArray,List.set_cons_zero,List.set_cons_succ]
  repeat
   first
   | (refine lin_free (v:= ?_) (by rfl) ?_ ?_
      rotate_left
      ·intro w' hSw
       obtain⟨f0,f1,f2,f3,f4,g0,g1,g2,g3,g4⟩:=HF.out w' hSw
       clear hSw
       go_simp
       first | done | with_reducible rfl
      simp only[Act.put,List.setIfInBounds_toArray,List.set_cons_zero,List.set_cons_succ])
   | (refine lin_skip (by rfl) ?_
      simp only[Act.put,List.setIfInBounds_toArray,List.set_cons_zero,List.set_cons_succ])
  refine NoPanic.normal ?_
  go_wp2
  go_ret
  exact⟨ret_b (by rw[HS.out]<;>simp),by go_grown⟩
 ·go_enter Tryz.func156,Tryz.ntmps156
  go_wp2_with fail
  refine wp_region_lin default (fun w'=>Below ((w.alloc (.cells #[.int .i64 x.sec, .int .i64 x.at_, .int .i64 x.kind, .int .i64 x.sym, .int .i64 x.add] 50)).alloc (.cells #[.int .i64 y.sec, .int .i64 y.at_, .int .i64 y.kind, .int .i64 y.sym, .int .i64 y.add] 50)).heap.size ((w.alloc (.cells #[.int .i64 x.sec, .int .i64 x.at_, .int .i64 x.kind, .int .i64 x.sym, .int .i64 x.add] 50)).alloc (.cells #[.int .i64 y.sec, .int .i64 y.at_, .int .i64 y.kind, .int .i64 y.sym, .int .i64 y.add] 50)) w') [(0,true),(1,true),(2,true),(3,true),(4,true),(5,true),(6,true),(7,true),(8,true),(9,true),(10,true),(11,true),(12,true),(13,true),(14,true),(15,true),(18,true),(19,true),(16,false),(17,true),(20,true),(21,true),(22,true),(23,true)] (by kernel_rfl) (by kernel_rfl) rfl (by kernel_rfl) (by kernel_rfl) (Below.drew (Below.refl _ _)) ?_
  simp only[pick,List.getD_cons_zero,List.getD_cons_succ]
  repeat
   first
   | (refine lin_free (v:= ?_) (by rfl) ?_ ?_
      rotate_left
      ·intro w' hSw
       obtain⟨f0,f1,f2,f3,f4,g0,g1,g2,g3,g4⟩:=HF.out w' hSw
       clear hSw
       go_simp
       first | done | with_reducible rfl
      simp only[Act.put,List.setIfInBounds_toArray,List.set_cons_zero,List.set_cons_succ])
   | (refine lin_skip (by rfl) ?_
      simp only[Act.put,List.setIfInBounds_toArray,List.set_cons_zero,List.set_cons_succ])
  refine lin_bound (fun K hK=> ?_)
  go_simp
  refine(HW.out _).mono ?_
  rintro e w' ⟨rfl,rfl⟩
  refine hK.out _ _ (Below.drew (Below.refl _ _)) ?_
  clear hK K
  try simp only[Act.put,List.setIfInBounds_toArray,List.set_cons_zero,List.set_cons_succ]
  repeat
   first
   | (refine lin_free (v:= ?_) (by rfl) ?_ ?_
      rotate_left
      ·intro w' hSw
       obtain⟨f0,f1,f2,f3,f4,g0,g1,g2,g3,g4⟩:=HF.out w' hSw
       clear hSw
       go_simp
       first | done | with_reducible rfl
      simp only[Act.put,List.setIfInBounds_toArray,List.set_cons_zero,List.set_cons_succ])
   | (refine lin_skip (by rfl) ?_
      simp only[Act.put,List.setIfInBounds_toArray,List.set_cons_zero,List.set_cons_succ])
  refine NoPanic.normal ?_
  go_wp2
  go_ret
  exact⟨ret_b (by rw[HS.out]<;>simp),by go_grown⟩
 ·go_enter Tryz.func156,Tryz.ntmps156
  go_wp2_with fail
  refine wp_region_lin default (fun w'=>Below ((w.alloc (.cells #[.int .i64 x.sec, .int .i64 x.at_, .int .i64 x.kind, .int .i64 x.sym, .int .i64 x.add] 50)).alloc (.cells #[.int .i64 y.sec, .int .i64 y.at_, .int .i64 y.kind, .int .i64 y.sym, .int .i64 y.add] 50)).heap.size ((w.alloc (.cells #[.int .i64 x.sec, .int .i64 x.at_, .int .i64 x.kind, .int .i64 x.sym, .int .i64 x.add] 50)).alloc (.cells #[.int .i64 y.sec, .int .i64 y.at_, .int .i64 y.kind, .int .i64 y.sym, .int .i64 y.add] 50)) w') [(0,true),(1,true),(2,true),(3,true),(4,true),(5,true),(6,true),(7,true),(8,true),(9,true),(10,true),(11,true),(12,true),(13,true),(14,true),(15,true),(18,true),(19,true),(16,false),(17,true),(20,true),(21,true),(22,true),(23,true)] (by kernel_rfl) (by kernel_rfl) rfl (by kernel_rfl) (by kernel_rfl) (Below.drew (Below.refl _ _)) ?_
  simp only[pick,List.getD_cons_zero,List.getD_cons_succ]
  repeat
   first
   | (refine lin_free (v:= ?_) (by rfl) ?_ ?_
      rotate_left
      ·intro w' hSw
       obtain⟨f0,f1,f2,f3,f4,g0,g1,g2,g3,g4⟩:=HF.out w' hSw
       clear hSw
       go_simp
       first | done | with_reducible rfl
      simp only[Act.put,List.setIfInBounds_toArray,List.set_cons_zero,List.set_cons_succ])
   | (refine lin_skip (by rfl) ?_
      simp only[Act.put,List.setIfInBounds_toArray,List.set_cons_zero,List.set_cons_succ])
  refine lin_bound (fun K hK=> ?_)
  go_simp
  refine hK.out _ _ (Below.drew (Below.refl _ _)) ?_
  clear hK K
  try simp only[Act.put,List.setIfInBounds_toArray,List.set_cons_zero,List.set_cons_succ]
  repeat
   first
   | (refine lin_free (v:= ?_) (by rfl) ?_ ?_
      rotate_left
      ·intro w' hSw
       obtain⟨f0,f1,f2,f3,f4,g0,g1,g2,g3,g4⟩:=HF.out w' hSw
       clear hSw
       go_simp
       first | done | with_reducible rfl
      simp only[Act.put,List.setIfInBounds_toArray,List.set_cons_zero,List.set_cons_succ])
   | (refine lin_skip (by rfl) ?_
      simp only[Act.put,List.setIfInBounds_toArray,List.set_cons_zero,List.set_cons_succ])
  refine NoPanic.normal ?_
  go_wp2
  go_ret
  exact⟨ret_b (by rw[HS.out]<;>simp),by go_grown⟩
end Go.Proofs.YtfaepbjnpakghaaGreatDoor.W
