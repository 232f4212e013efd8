import Derived.Deep.Cut
import Derived.DeepKeys4
import Derived.Carry
import Derived.Test.YtfaepbjnpakghaaGreatDoorKaf
import Derived.Test.YtfaepbjnpakghaaGreatDoorKad
/- The walks of distinct at four types (printed by tools/gen_dist.py). -/
namespace Go.Proofs.YtfaepbjnpakghaaGreatDoor.W
open Go.RowKit Go.Maps Go.WideMaps
set_option linter.unusedVariables false
theorem dist_hit {α:Type} {kf:α→Lit} {xs:List α} {k:Nat} (h:k<xs.length) (hin:kf xs[k]∈(xs.take k).map kf):¬(xs.map kf).Nodup:=by
 intro hnd
 have e:xs.map kf=(xs.take k).map kf++kf xs[k]::(xs.drop (k+1)).map kf:=by
  rw[←List.map_cons,←List.drop_eq_getElem_cons h,←List.map_append,List.take_append_drop]
 rw[e,List.nodup_append] at hnd
 exact hnd.2.2 _ hin _ (by simp) rfl
theorem dist_step {α:Type} {kf:α→Lit} {xs:List α} {k:Nat} (h:k<xs.length) (ha:((xs.take k).map kf).Nodup) (hin:¬kf xs[k]∈(xs.take k).map kf):((xs.take (k+1)).map kf).Nodup:=by
 rw[List.take_succ_eq_append_getElem h,List.map_append,List.nodup_append]
 refine⟨ha,by simp,fun a ha' b hb e=> ?_⟩
 simp at hb
 subst hb
 exact hin (e▸ha')
theorem law_arr:KeyLaw Tryz.prog 173:=deep_law_laid (show laidOutB Tryz.prog=true by kernel_rfl) (m:=2) (by omega) (of_decide_eq_true (by kernel_rfl)) (by kernel_rfl) (by rw[Tryz.underlying173])
theorem dsSec_any {kv:Sec→Value} {kf:Sec→Lit} {xs:List Sec} (w:World) (v:Value) (g:Nat) (lb:Array Value) (hR:Rw 6 Sec.E w v xs) (hl:lenR xs.length) (hp:FnV aggA Sec.E kv xs w g lb) (hkf:∀x∈xs,keyOf Tryz.prog 9 (kv x)=some (kf x)):
 Calls Tryz.prog 145 #[v, .func (.func g) #[] lb] w fun e w'=>(∃r:Bool,e= .returned (.bool r)∧(r=true↔(xs.map kf).Nodup))∧Below w.heap.size w w':=by
 obtain⟨pv,cv,rfl⟩:=hR.slice
 have HR:=Hd.mk hR
 have HP:=Hd.mk hp
 have HKf:=Hd.mk hkf
 have K:Hd (Keyed Tryz.prog 9):=⟨string_keyed Tryz.underlying9⟩
 have eg:∀args w,(callFunc g args).run Tryz.prog w= .ok (.enter g args) w:=hp.ent
 clear hR hp hkf
 unfold lenR at hl
 obtain⟨n,hn⟩:∃n,xs.length=n:=⟨_,rfl⟩
 rw[hn] at hl⊢
 have HM:=Hd.mk (SetAt.made w 9)
 have HMB:Hd (Below w.heap.size w (w.alloc (.map #[] 0))):=⟨below_alloc w _⟩
 obtain⟨mb,hmb⟩:∃mb,w.heap.size=mb:=⟨_,rfl⟩
 rw[hmb] at HM
 have HMb:Hd (w.heap.size≤mb):=⟨by omega⟩
 have hmm:= @run_makeMap Tryz.prog
 go_enter Tryz.func145,Tryz.ntmps145
 go_wp2
 go_loopw [11] (fun i wr=>∃k:Nat,k≤n∧i= .int .i64 k∧Hd ((xs.take k).map kf).Nodup∧Hd (SetAt wr 9 mb ((xs.take k).map kf))∧Hd (Below w.heap.size w wr)) (fun i _=>n-(intOf i).toNat)
 case atStart=>exact⟨0,Nat.zero_le _,rfl,⟨List.Pairwise.nil⟩,HM,HMB⟩
 case round=>
  clear hmm HM HMB hmb
  obtain⟨k,hk,rfl,HA,HS,HK⟩:=hrel
  by_cases hlt:k<n
  ·have hd1:decide ((k:Int)< (n:Int))=true:=by simp;omega
   have hkq:k<xs.length:=hn▸hlt
   have j0:(0:Int)≤(k:Int):=by omega
   have j1:(k:Int)< (n:Int):=by omega
   obtain⟨g0,of,cs,hpv,hg,hcl,hEc,hcc⟩:=(HR.out.below Sec.stays HK.out).at rfl (j:=k) hkq
   subst hpv
   have hcw:∀w',Below wr.heap.size wr w'→Sec.E w' cs xs[k]:=fun w' h=>Sec.stays _ _ _ _ h hEc
   have hmem:=List.getElem_mem hkq
   have hcall:=HP.out.at_ xs[k] hmem
   have hkk:=HKf.out xs[k] hmem
   obtain⟨x,hx⟩:∃x,xs[k]=x:=⟨_,rfl⟩
   have HXX:=Hd.mk hx
   rw[hx] at hEc hcw hcall hkk
   have hcs:cs=[.string x.name, .int .i64 x.kind, .int .i64 x.align, .int .i64 x.size, .string x.bytes, .bool x.keep]:=hEc
   subst hcs
   have hA:aggA [.string x.name, .int .i64 x.kind, .int .i64 x.align, .int .i64 x.size, .string x.bytes, .bool x.keep]= .agg #[.string x.name, .int .i64 x.kind, .int .i64 x.align, .int .i64 x.size, .string x.bytes, .bool x.keep]:=rfl
   have HC:Hd (∀w',Below wr.heap.size wr w'→Calls Tryz.prog g (#[.agg #[.string x.name, .int .i64 x.kind, .int .i64 x.align, .int .i64 x.size, .string x.bytes, .bool x.keep]]++lb) w' fun e w2=>e= .returned (kv x)∧Below w'.heap.size w' w2):=⟨fun w' h=>hA▸hcall w' (HK.out.trans (h.mono HK.out.size)) _ (hcw w' h)⟩
   obtain⟨kz,hkz⟩:∃z,kv x=z:=⟨_,rfl⟩
   rw[hkz] at HC hkk
   obtain⟨l,hll⟩:∃l,kf x=l:=⟨_,rfl⟩
   rw[hll] at hkk
   have HKK:=Hd.mk hkk
   have HLL:Hd (kf xs[k]=l):=⟨by rw[hx];exact hll⟩
   have c0:wr.cell? ⟨g0,of+k*6,none⟩=some (.string x.name):=hcc 0 _ rfl
   have c1:wr.cell? ⟨g0,of+k*6+1,none⟩=some (.int .i64 x.kind):=hcc 1 _ rfl
   have c2:wr.cell? ⟨g0,of+k*6+2,none⟩=some (.int .i64 x.align):=hcc 2 _ rfl
   have c3:wr.cell? ⟨g0,of+k*6+3,none⟩=some (.int .i64 x.size):=hcc 3 _ rfl
   have c4:wr.cell? ⟨g0,of+k*6+4,none⟩=some (.string x.bytes):=hcc 4 _ rfl
   have c5:wr.cell? ⟨g0,of+k*6+5,none⟩=some (.bool x.keep):=hcc 5 _ rfl
   have hlen:((xs.take k).map kf).length<maxLen:=by rw[List.length_map,List.length_take];unfold maxLen;omega
   have HLen:=Hd.mk hlen
   clear hcc hcl hg hA hkz hkk hll hlen hcw hmem hcall hx hEc
   go_wp2_with fail
   refine(HC.out _ (below_alloc wr _)).mono ?_
   rintro e w2 ⟨rfl,hK2⟩
   have HS2:Hd (SetAt w2 9 mb ((xs.take k).map kf)):=⟨(HS.out.below (below_alloc wr _)).below hK2⟩
   have d0:w2.cell? ⟨wr.heap.size,0,none⟩=some (.string x.name):=(hK2.cell (p:=⟨wr.heap.size,0,none⟩) (by simp)).trans (by simp[go_sem])
   have d1:w2.cell? ⟨wr.heap.size,1,none⟩=some (.int .i64 x.kind):=(hK2.cell (p:=⟨wr.heap.size,1,none⟩) (by simp)).trans (by simp[go_sem])
   have d2:w2.cell? ⟨wr.heap.size,2,none⟩=some (.int .i64 x.align):=(hK2.cell (p:=⟨wr.heap.size,2,none⟩) (by simp)).trans (by simp[go_sem])
   have d3:w2.cell? ⟨wr.heap.size,3,none⟩=some (.int .i64 x.size):=(hK2.cell (p:=⟨wr.heap.size,3,none⟩) (by simp)).trans (by simp[go_sem])
   have d4:w2.cell? ⟨wr.heap.size,4,none⟩=some (.string x.bytes):=(hK2.cell (p:=⟨wr.heap.size,4,none⟩) (by simp)).trans (by simp[go_sem])
   have d5:w2.cell? ⟨wr.heap.size,5,none⟩=some (.bool x.keep):=(hK2.cell (p:=⟨wr.heap.size,5,none⟩) (by simp)).trans (by simp[go_sem])
   have HW2:Hd (Below wr.heap.size wr w2):=⟨below_first hK2⟩
   have HK2:Hd (Below w.heap.size w w2):=⟨HK.out.trans (HW2.out.mono HK.out.size)⟩
   clear hK2
   have hzv:(zeroValue 4).run Tryz.prog w2= .ok (.bool false) w2:=by kernel_rfl
   have HZv:=Hd.mk hzv
   clear hzv
   by_cases hin:l∈(xs.take k).map kf
   ·have hlk:=HS2.out.look_in K.out Tryz.underlying230 HZv.out HKK.out hin
    have HIn:=Hd.mk hin
    clear hin
    go_wp2
    go_ret
    exact⟨⟨false,rfl,by simp,fun hnd=>absurd hnd (dist_hit hkq (by rw[HLL.out];exact HIn.out))⟩,HK2.out⟩
   ·have hlk:=HS2.out.look_out K.out Tryz.underlying230 HZv.out HKK.out hin
    have HIn:=Hd.mk hin
    clear hin
    go_wp2_with fail
    refine(HC.out _ HW2.out).mono ?_
    rintro e w3 ⟨rfl,hK3⟩
    have HS3:Hd (SetAt w3 9 mb ((xs.take k).map kf)):=⟨HS2.out.below hK3⟩
    have HK3:Hd (Below w.heap.size w w3):=⟨HK2.out.trans (hK3.mono HK2.out.size)⟩
    clear hK3 hlk d0 d1 d2 d3 d4 d5
    obtain⟨w4,hup,hS4,hK4⟩:=HS3.out.store K.out Tryz.underlying230 HLen.out HKK.out
    have HS4:Hd (SetAt w4 9 mb ((xs.take (k+1)).map kf)):=⟨by rw[List.take_succ_eq_append_getElem hkq,List.map_append,List.map_cons,List.map_nil,HLL.out];exact hS4⟩
    have HK4:Hd (Below w.heap.size w w4):=⟨HK3.out.trans (hK4.below (by have:=HMb.out;have:=HK3.out.size;omega) (fun i hi e=>by have:=HMb.out;omega))⟩
    have HN4:Hd ((xs.take (k+1)).map kf).Nodup:=⟨dist_step hkq HA.out (by rw[HLL.out];exact HIn.out)⟩
    clear hS4 hK4
    go_wp2
    exact⟨⟨k+1,hlt,by go_num,HN4,HS4,HK4⟩,by simp[intOf];omega⟩
  ·have hd1:decide ((k:Int)< (n:Int))=false:=by simp;omega
   go_wp2
   go_ret
   refine⟨⟨true,rfl,fun _=> ?_,fun _=>rfl⟩,HK.out⟩
   have:=HA.out
   rwa [List.take_of_length_le (by omega)] at this
theorem dsSym_any {kv:Sym→Value} {kf:Sym→Lit} {xs:List Sym} (w:World) (v:Value) (g:Nat) (lb:Array Value) (hR:Rw 10 Sym.E w v xs) (hl:lenR xs.length) (hp:FnV aggA Sym.E kv xs w g lb) (hkf:∀x∈xs,keyOf Tryz.prog 173 (kv x)=some (kf x)):
 Calls Tryz.prog 151 #[v, .func (.func g) #[] lb] w fun e w'=>(∃r:Bool,e= .returned (.bool r)∧(r=true↔(xs.map kf).Nodup))∧Below w.heap.size w w':=by
 obtain⟨pv,cv,rfl⟩:=hR.slice
 have HR:=Hd.mk hR
 have HP:=Hd.mk hp
 have HKf:=Hd.mk hkf
 have K:Hd (Keyed Tryz.prog 173):=⟨Keyed.of_law law_arr⟩
 have eg:∀args w,(callFunc g args).run Tryz.prog w= .ok (.enter g args) w:=hp.ent
 clear hR hp hkf
 unfold lenR at hl
 obtain⟨n,hn⟩:∃n,xs.length=n:=⟨_,rfl⟩
 rw[hn] at hl⊢
 have HM:=Hd.mk (SetAt.made w 173)
 have HMB:Hd (Below w.heap.size w (w.alloc (.map #[] 0))):=⟨below_alloc w _⟩
 obtain⟨mb,hmb⟩:∃mb,w.heap.size=mb:=⟨_,rfl⟩
 rw[hmb] at HM
 have HMb:Hd (w.heap.size≤mb):=⟨by omega⟩
 have hmm:= @run_makeMap Tryz.prog
 go_enter Tryz.func151,Tryz.ntmps151
 go_wp2
 go_loopw [11] (fun i wr=>∃k:Nat,k≤n∧i= .int .i64 k∧Hd ((xs.take k).map kf).Nodup∧Hd (SetAt wr 173 mb ((xs.take k).map kf))∧Hd (Below w.heap.size w wr)) (fun i _=>n-(intOf i).toNat)
 case atStart=>exact⟨0,Nat.zero_le _,rfl,⟨List.Pairwise.nil⟩,HM,HMB⟩
 case round=>
  clear hmm HM HMB hmb
  obtain⟨k,hk,rfl,HA,HS,HK⟩:=hrel
  by_cases hlt:k<n
  ·have hd1:decide ((k:Int)< (n:Int))=true:=by simp;omega
   have hkq:k<xs.length:=hn▸hlt
   have j0:(0:Int)≤(k:Int):=by omega
   have j1:(k:Int)< (n:Int):=by omega
   obtain⟨g0,of,cs,hpv,hg,hcl,hEc,hcc⟩:=(HR.out.below Sym.stays HK.out).at rfl (j:=k) hkq
   subst hpv
   have hcw:∀w',Below wr.heap.size wr w'→Sym.E w' cs xs[k]:=fun w' h=>Sym.stays _ _ _ _ h hEc
   have hmem:=List.getElem_mem hkq
   have hcall:=HP.out.at_ xs[k] hmem
   have hkk:=HKf.out xs[k] hmem
   obtain⟨x,hx⟩:∃x,xs[k]=x:=⟨_,rfl⟩
   have HXX:=Hd.mk hx
   rw[hx] at hEc hcw hcall hkk
   have hcs:cs=[.string x.name, .string x.version, .bool x.main, .int .i64 x.bind, .int .i64 x.vis, .int .i64 x.kind, .int .i64 x.sec, .int .i64 x.at_, .int .i64 x.size, .int .i64 x.align]:=hEc
   subst hcs
   have hA:aggA [.string x.name, .string x.version, .bool x.main, .int .i64 x.bind, .int .i64 x.vis, .int .i64 x.kind, .int .i64 x.sec, .int .i64 x.at_, .int .i64 x.size, .int .i64 x.align]= .agg #[.string x.name, .string x.version, .bool x.main, .int .i64 x.bind, .int .i64 x.vis, .int .i64 x.kind, .int .i64 x.sec, .int .i64 x.at_, .int .i64 x.size, .int .i64 x.align]:=rfl
   have HC:Hd (∀w',Below wr.heap.size wr w'→Calls Tryz.prog g (#[.agg #[.string x.name, .string x.version, .bool x.main, .int .i64 x.bind, .int .i64 x.vis, .int .i64 x.kind, .int .i64 x.sec, .int .i64 x.at_, .int .i64 x.size, .int .i64 x.align]]++lb) w' fun e w2=>e= .returned (kv x)∧Below w'.heap.size w' w2):=⟨fun w' h=>hA▸hcall w' (HK.out.trans (h.mono HK.out.size)) _ (hcw w' h)⟩
   obtain⟨kz,hkz⟩:∃z,kv x=z:=⟨_,rfl⟩
   rw[hkz] at HC hkk
   obtain⟨l,hll⟩:∃l,kf x=l:=⟨_,rfl⟩
   rw[hll] at hkk
   have HKK:=Hd.mk hkk
   have HLL:Hd (kf xs[k]=l):=⟨by rw[hx];exact hll⟩
   have c0:wr.cell? ⟨g0,of+k*10,none⟩=some (.string x.name):=hcc 0 _ rfl
   have c1:wr.cell? ⟨g0,of+k*10+1,none⟩=some (.string x.version):=hcc 1 _ rfl
   have c2:wr.cell? ⟨g0,of+k*10+2,none⟩=some (.bool x.main):=hcc 2 _ rfl
   have c3:wr.cell? ⟨g0,of+k*10+3,none⟩=some (.int .i64 x.bind):=hcc 3 _ rfl
   have c4:wr.cell? ⟨g0,of+k*10+4,none⟩=some (.int .i64 x.vis):=hcc 4 _ rfl
   have c5:wr.cell? ⟨g0,of+k*10+5,none⟩=some (.int .i64 x.kind):=hcc 5 _ rfl
   have c6:wr.cell? ⟨g0,of+k*10+6,none⟩=some (.int .i64 x.sec):=hcc 6 _ rfl
   have c7:wr.cell? ⟨g0,of+k*10+7,none⟩=some (.int .i64 x.at_):=hcc 7 _ rfl
   have c8:wr.cell? ⟨g0,of+k*10+8,none⟩=some (.int .i64 x.size):=hcc 8 _ rfl
   have c9:wr.cell? ⟨g0,of+k*10+9,none⟩=some (.int .i64 x.align):=hcc 9 _ rfl
   have hlen:((xs.take k).map kf).length<maxLen:=by rw[List.length_map,List.length_take];unfold maxLen;omega
   have HLen:=Hd.mk hlen
   clear hcc hcl hg hA hkz hkk hll hlen hcw hmem hcall hx hEc
   go_wp2_with fail
   refine(HC.out _ (below_alloc wr _)).mono ?_
   rintro e w2 ⟨rfl,hK2⟩
   have HS2:Hd (SetAt w2 173 mb ((xs.take k).map kf)):=⟨(HS.out.below (below_alloc wr _)).below hK2⟩
   have d0:w2.cell? ⟨wr.heap.size,0,none⟩=some (.string x.name):=(hK2.cell (p:=⟨wr.heap.size,0,none⟩) (by simp)).trans (by simp[go_sem])
   have d1:w2.cell? ⟨wr.heap.size,1,none⟩=some (.string x.version):=(hK2.cell (p:=⟨wr.heap.size,1,none⟩) (by simp)).trans (by simp[go_sem])
   have d2:w2.cell? ⟨wr.heap.size,2,none⟩=some (.bool x.main):=(hK2.cell (p:=⟨wr.heap.size,2,none⟩) (by simp)).trans (by simp[go_sem])
   have d3:w2.cell? ⟨wr.heap.size,3,none⟩=some (.int .i64 x.bind):=(hK2.cell (p:=⟨wr.heap.size,3,none⟩) (by simp)).trans (by simp[go_sem])
   have d4:w2.cell? ⟨wr.heap.size,4,none⟩=some (.int .i64 x.vis):=(hK2.cell (p:=⟨wr.heap.size,4,none⟩) (by simp)).trans (by simp[go_sem])
   have d5:w2.cell? ⟨wr.heap.size,5,none⟩=some (.int .i64 x.kind):=(hK2.cell (p:=⟨wr.heap.size,5,none⟩) (by simp)).trans (by simp[go_sem])
   have d6:w2.cell? ⟨wr.heap.size,6,none⟩=some (.int .i64 x.sec):=(hK2.cell (p:=⟨wr.heap.size,6,none⟩) (by simp)).trans (by simp[go_sem])
   have d7:w2.cell? ⟨wr.heap.size,7,none⟩=some (.int .i64 x.at_):=(hK2.cell (p:=⟨wr.heap.size,7,none⟩) (by simp)).trans (by simp[go_sem])
   have d8:w2.cell? ⟨wr.heap.size,8,none⟩=some (.int .i64 x.size):=(hK2.cell (p:=⟨wr.heap.size,8,none⟩) (by simp)).trans (by simp[go_sem])
   have d9:w2.cell? ⟨wr.heap.size,9,none⟩=some (.int .i64 x.align):=(hK2.cell (p:=⟨wr.heap.size,9,none⟩) (by simp)).trans (by simp[go_sem])
   have HW2:Hd (Below wr.heap.size wr w2):=⟨below_first hK2⟩
   have HK2:Hd (Below w.heap.size w w2):=⟨HK.out.trans (HW2.out.mono HK.out.size)⟩
   clear hK2
   have hzv:(zeroValue 4).run Tryz.prog w2= .ok (.bool false) w2:=by kernel_rfl
   have HZv:=Hd.mk hzv
   clear hzv
   by_cases hin:l∈(xs.take k).map kf
   ·have hlk:=HS2.out.look_in K.out Tryz.underlying231 HZv.out HKK.out hin
    have HIn:=Hd.mk hin
    clear hin
    go_wp2
    go_ret
    exact⟨⟨false,rfl,by simp,fun hnd=>absurd hnd (dist_hit hkq (by rw[HLL.out];exact HIn.out))⟩,HK2.out⟩
   ·have hlk:=HS2.out.look_out K.out Tryz.underlying231 HZv.out HKK.out hin
    have HIn:=Hd.mk hin
    clear hin
    go_wp2_with fail
    refine(HC.out _ HW2.out).mono ?_
    rintro e w3 ⟨rfl,hK3⟩
    have HS3:Hd (SetAt w3 173 mb ((xs.take k).map kf)):=⟨HS2.out.below hK3⟩
    have HK3:Hd (Below w.heap.size w w3):=⟨HK2.out.trans (hK3.mono HK2.out.size)⟩
    clear hK3 hlk d0 d1 d2 d3 d4 d5 d6 d7 d8 d9
    obtain⟨w4,hup,hS4,hK4⟩:=HS3.out.store K.out Tryz.underlying231 HLen.out HKK.out
    have HS4:Hd (SetAt w4 173 mb ((xs.take (k+1)).map kf)):=⟨by rw[List.take_succ_eq_append_getElem hkq,List.map_append,List.map_cons,List.map_nil,HLL.out];exact hS4⟩
    have HK4:Hd (Below w.heap.size w w4):=⟨HK3.out.trans (hK4.below (by have:=HMb.out;have:=HK3.out.size;omega) (fun i hi e=>by have:=HMb.out;omega))⟩
    have HN4:Hd ((xs.take (k+1)).map kf).Nodup:=⟨dist_step hkq HA.out (by rw[HLL.out];exact HIn.out)⟩
    clear hS4 hK4
    go_wp2
    exact⟨⟨k+1,hlt,by go_num,HN4,HS4,HK4⟩,by simp[intOf];omega⟩
  ·have hd1:decide ((k:Int)< (n:Int))=false:=by simp;omega
   go_wp2
   go_ret
   refine⟨⟨true,rfl,fun _=> ?_,fun _=>rfl⟩,HK.out⟩
   have:=HA.out
   rwa [List.take_of_length_le (by omega)] at this
theorem dsGrp_any {kv:Grp→Value} {kf:Grp→Lit} {xs:List Grp} (w:World) (v:Value) (g:Nat) (lb:Array Value) (hR:Rw 2 Grp.E w v xs) (hl:lenR xs.length) (hp:FnV aggA Grp.E kv xs w g lb) (hkf:∀x∈xs,keyOf Tryz.prog 9 (kv x)=some (kf x)):
 Calls Tryz.prog 163 #[v, .func (.func g) #[] lb] w fun e w'=>(∃r:Bool,e= .returned (.bool r)∧(r=true↔(xs.map kf).Nodup))∧Below w.heap.size w w':=by
 obtain⟨pv,cv,rfl⟩:=hR.slice
 have HR:=Hd.mk hR
 have HP:=Hd.mk hp
 have HKf:=Hd.mk hkf
 have K:Hd (Keyed Tryz.prog 9):=⟨string_keyed Tryz.underlying9⟩
 have eg:∀args w,(callFunc g args).run Tryz.prog w= .ok (.enter g args) w:=hp.ent
 clear hR hp hkf
 unfold lenR at hl
 obtain⟨n,hn⟩:∃n,xs.length=n:=⟨_,rfl⟩
 rw[hn] at hl⊢
 have HM:=Hd.mk (SetAt.made w 9)
 have HMB:Hd (Below w.heap.size w (w.alloc (.map #[] 0))):=⟨below_alloc w _⟩
 obtain⟨mb,hmb⟩:∃mb,w.heap.size=mb:=⟨_,rfl⟩
 rw[hmb] at HM
 have HMb:Hd (w.heap.size≤mb):=⟨by omega⟩
 have hmm:= @run_makeMap Tryz.prog
 go_enter Tryz.func163,Tryz.ntmps163
 go_wp2
 go_loopw [11] (fun i wr=>∃k:Nat,k≤n∧i= .int .i64 k∧Hd ((xs.take k).map kf).Nodup∧Hd (SetAt wr 9 mb ((xs.take k).map kf))∧Hd (Below w.heap.size w wr)) (fun i _=>n-(intOf i).toNat)
 case atStart=>exact⟨0,Nat.zero_le _,rfl,⟨List.Pairwise.nil⟩,HM,HMB⟩
 case round=>
  clear hmm HM HMB hmb
  obtain⟨k,hk,rfl,HA,HS,HK⟩:=hrel
  by_cases hlt:k<n
  ·have hd1:decide ((k:Int)< (n:Int))=true:=by simp;omega
   have hkq:k<xs.length:=hn▸hlt
   have j0:(0:Int)≤(k:Int):=by omega
   have j1:(k:Int)< (n:Int):=by omega
   obtain⟨g0,of,cs,hpv,hg,hcl,hEc,hcc⟩:=(HR.out.below Grp.stays HK.out).at rfl (j:=k) hkq
   subst hpv
   have hcw:∀w',Below wr.heap.size wr w'→Grp.E w' cs xs[k]:=fun w' h=>Grp.stays _ _ _ _ h hEc
   have hmem:=List.getElem_mem hkq
   have hcall:=HP.out.at_ xs[k] hmem
   have hkk:=HKf.out xs[k] hmem
   obtain⟨x,hx⟩:∃x,xs[k]=x:=⟨_,rfl⟩
   have HXX:=Hd.mk hx
   rw[hx] at hEc hcw hcall hkk
   obtain⟨sv,rfl,hAt⟩:=hEc
   obtain⟨sp,sc,rfl⟩:=hAt.secs.slice
   clear hAt
   have hA:aggA [.string x.name, .slice sp x.secs.length sc]= .agg #[.string x.name, .slice sp x.secs.length sc]:=rfl
   have HC:Hd (∀w',Below wr.heap.size wr w'→Calls Tryz.prog g (#[.agg #[.string x.name, .slice sp x.secs.length sc]]++lb) w' fun e w2=>e= .returned (kv x)∧Below w'.heap.size w' w2):=⟨fun w' h=>hA▸hcall w' (HK.out.trans (h.mono HK.out.size)) _ (hcw w' h)⟩
   obtain⟨kz,hkz⟩:∃z,kv x=z:=⟨_,rfl⟩
   rw[hkz] at HC hkk
   obtain⟨l,hll⟩:∃l,kf x=l:=⟨_,rfl⟩
   rw[hll] at hkk
   have HKK:=Hd.mk hkk
   have HLL:Hd (kf xs[k]=l):=⟨by rw[hx];exact hll⟩
   have c0:wr.cell? ⟨g0,of+k*2,none⟩=some (.string x.name):=hcc 0 _ rfl
   have c1:wr.cell? ⟨g0,of+k*2+1,none⟩=some (.slice sp x.secs.length sc):=hcc 1 _ rfl
   have hlen:((xs.take k).map kf).length<maxLen:=by rw[List.length_map,List.length_take];unfold maxLen;omega
   have HLen:=Hd.mk hlen
   clear hcc hcl hg hA hkz hkk hll hlen hcw hmem hcall hx
   go_wp2_with fail
   refine(HC.out _ (below_alloc wr _)).mono ?_
   rintro e w2 ⟨rfl,hK2⟩
   have HS2:Hd (SetAt w2 9 mb ((xs.take k).map kf)):=⟨(HS.out.below (below_alloc wr _)).below hK2⟩
   have d0:w2.cell? ⟨wr.heap.size,0,none⟩=some (.string x.name):=(hK2.cell (p:=⟨wr.heap.size,0,none⟩) (by simp)).trans (by simp[go_sem])
   have d1:w2.cell? ⟨wr.heap.size,1,none⟩=some (.slice sp x.secs.length sc):=(hK2.cell (p:=⟨wr.heap.size,1,none⟩) (by simp)).trans (by simp[go_sem])
   have HW2:Hd (Below wr.heap.size wr w2):=⟨below_first hK2⟩
   have HK2:Hd (Below w.heap.size w w2):=⟨HK.out.trans (HW2.out.mono HK.out.size)⟩
   clear hK2
   have hzv:(zeroValue 4).run Tryz.prog w2= .ok (.bool false) w2:=by kernel_rfl
   have HZv:=Hd.mk hzv
   clear hzv
   by_cases hin:l∈(xs.take k).map kf
   ·have hlk:=HS2.out.look_in K.out Tryz.underlying230 HZv.out HKK.out hin
    have HIn:=Hd.mk hin
    clear hin
    go_wp2
    go_ret
    exact⟨⟨false,rfl,by simp,fun hnd=>absurd hnd (dist_hit hkq (by rw[HLL.out];exact HIn.out))⟩,HK2.out⟩
   ·have hlk:=HS2.out.look_out K.out Tryz.underlying230 HZv.out HKK.out hin
    have HIn:=Hd.mk hin
    clear hin
    go_wp2_with fail
    refine(HC.out _ HW2.out).mono ?_
    rintro e w3 ⟨rfl,hK3⟩
    have HS3:Hd (SetAt w3 9 mb ((xs.take k).map kf)):=⟨HS2.out.below hK3⟩
    have HK3:Hd (Below w.heap.size w w3):=⟨HK2.out.trans (hK3.mono HK2.out.size)⟩
    clear hK3 hlk d0 d1
    obtain⟨w4,hup,hS4,hK4⟩:=HS3.out.store K.out Tryz.underlying230 HLen.out HKK.out
    have HS4:Hd (SetAt w4 9 mb ((xs.take (k+1)).map kf)):=⟨by rw[List.take_succ_eq_append_getElem hkq,List.map_append,List.map_cons,List.map_nil,HLL.out];exact hS4⟩
    have HK4:Hd (Below w.heap.size w w4):=⟨HK3.out.trans (hK4.below (by have:=HMb.out;have:=HK3.out.size;omega) (fun i hi e=>by have:=HMb.out;omega))⟩
    have HN4:Hd ((xs.take (k+1)).map kf).Nodup:=⟨dist_step hkq HA.out (by rw[HLL.out];exact HIn.out)⟩
    clear hS4 hK4
    go_wp2
    exact⟨⟨k+1,hlt,by go_num,HN4,HS4,HK4⟩,by simp[intOf];omega⟩
  ·have hd1:decide ((k:Int)< (n:Int))=false:=by simp;omega
   go_wp2
   go_ret
   refine⟨⟨true,rfl,fun _=> ?_,fun _=>rfl⟩,HK.out⟩
   have:=HA.out
   rwa [List.take_of_length_le (by omega)] at this
theorem dsInt_any {kv:Int→Value} {kf:Int→Lit} {xs:List Int} (w:World) (v:Value) (g:Nat) (lb:Array Value) (hR:Rw 1 intE w v xs) (hl:lenR xs.length) (hp:FnV oneA intE kv xs w g lb) (hkf:∀x∈xs,keyOf Tryz.prog 3 (kv x)=some (kf x)):
 Calls Tryz.prog 165 #[v, .func (.func g) #[] lb] w fun e w'=>(∃r:Bool,e= .returned (.bool r)∧(r=true↔(xs.map kf).Nodup))∧Below w.heap.size w w':=by
 obtain⟨pv,cv,rfl⟩:=hR.slice
 have HR:=Hd.mk hR
 have HP:=Hd.mk hp
 have HKf:=Hd.mk hkf
 have K:Hd (Keyed Tryz.prog 3):=⟨int_keyed Tryz.underlying3⟩
 have eg:∀args w,(callFunc g args).run Tryz.prog w= .ok (.enter g args) w:=hp.ent
 clear hR hp hkf
 unfold lenR at hl
 obtain⟨n,hn⟩:∃n,xs.length=n:=⟨_,rfl⟩
 rw[hn] at hl⊢
 have HM:=Hd.mk (SetAt.made w 3)
 have HMB:Hd (Below w.heap.size w (w.alloc (.map #[] 0))):=⟨below_alloc w _⟩
 obtain⟨mb,hmb⟩:∃mb,w.heap.size=mb:=⟨_,rfl⟩
 rw[hmb] at HM
 have HMb:Hd (w.heap.size≤mb):=⟨by omega⟩
 have hmm:= @run_makeMap Tryz.prog
 go_enter Tryz.func165,Tryz.ntmps165
 go_wp2
 go_loopw [11] (fun i wr=>∃k:Nat,k≤n∧i= .int .i64 k∧Hd ((xs.take k).map kf).Nodup∧Hd (SetAt wr 3 mb ((xs.take k).map kf))∧Hd (Below w.heap.size w wr)) (fun i _=>n-(intOf i).toNat)
 case atStart=>exact⟨0,Nat.zero_le _,rfl,⟨List.Pairwise.nil⟩,HM,HMB⟩
 case round=>
  clear hmm HM HMB hmb
  obtain⟨k,hk,rfl,HA,HS,HK⟩:=hrel
  by_cases hlt:k<n
  ·have hd1:decide ((k:Int)< (n:Int))=true:=by simp;omega
   have hkq:k<xs.length:=hn▸hlt
   have j0:(0:Int)≤(k:Int):=by omega
   have j1:(k:Int)< (n:Int):=by omega
   obtain⟨g0,of,cs,hpv,hg,hcl,hEc,hcc⟩:=(HR.out.below intE_stays HK.out).at rfl (j:=k) hkq
   subst hpv
   have hcw:∀w',Below wr.heap.size wr w'→intE w' cs xs[k]:=fun w' h=>intE_stays _ _ _ _ h hEc
   have hmem:=List.getElem_mem hkq
   have hcall:=HP.out.at_ xs[k] hmem
   have hkk:=HKf.out xs[k] hmem
   obtain⟨x,hx⟩:∃x,xs[k]=x:=⟨_,rfl⟩
   have HXX:=Hd.mk hx
   rw[hx] at hEc hcw hcall hkk
   have hcs:cs=[.int .i64 x]:=hEc
   subst hcs
   have hA:oneA [.int .i64 x]= .int .i64 x:=rfl
   have HC:Hd (∀w',Below wr.heap.size wr w'→Calls Tryz.prog g (#[.int .i64 x]++lb) w' fun e w2=>e= .returned (kv x)∧Below w'.heap.size w' w2):=⟨fun w' h=>hA▸hcall w' (HK.out.trans (h.mono HK.out.size)) _ (hcw w' h)⟩
   obtain⟨kz,hkz⟩:∃z,kv x=z:=⟨_,rfl⟩
   rw[hkz] at HC hkk
   obtain⟨l,hll⟩:∃l,kf x=l:=⟨_,rfl⟩
   rw[hll] at hkk
   have HKK:=Hd.mk hkk
   have HLL:Hd (kf xs[k]=l):=⟨by rw[hx];exact hll⟩
   have c0:wr.cell? ⟨g0,of+k,none⟩=some (.int .i64 x):=by have:=hcc 0 _ rfl;rwa [Nat.mul_one] at this
   have hlen:((xs.take k).map kf).length<maxLen:=by rw[List.length_map,List.length_take];unfold maxLen;omega
   have HLen:=Hd.mk hlen
   clear hcc hcl hg hA hkz hkk hll hlen hcw hmem hcall hx hEc
   go_wp2_with fail
   refine(HC.out _ (Below.refl _ _)).mono ?_
   rintro e w2 ⟨rfl,hK2⟩
   have HS2:Hd (SetAt w2 3 mb ((xs.take k).map kf)):=⟨(HS.out).below hK2⟩
   have HW2:Hd (Below wr.heap.size wr w2):=⟨hK2⟩
   have HK2:Hd (Below w.heap.size w w2):=⟨HK.out.trans (HW2.out.mono HK.out.size)⟩
   clear hK2
   have hzv:(zeroValue 4).run Tryz.prog w2= .ok (.bool false) w2:=by kernel_rfl
   have HZv:=Hd.mk hzv
   clear hzv
   by_cases hin:l∈(xs.take k).map kf
   ·have hlk:=HS2.out.look_in K.out Tryz.underlying235 HZv.out HKK.out hin
    have HIn:=Hd.mk hin
    clear hin
    go_wp2
    go_ret
    exact⟨⟨false,rfl,by simp,fun hnd=>absurd hnd (dist_hit hkq (by rw[HLL.out];exact HIn.out))⟩,HK2.out⟩
   ·have hlk:=HS2.out.look_out K.out Tryz.underlying235 HZv.out HKK.out hin
    have HIn:=Hd.mk hin
    clear hin
    go_wp2_with fail
    refine(HC.out _ HW2.out).mono ?_
    rintro e w3 ⟨rfl,hK3⟩
    have HS3:Hd (SetAt w3 3 mb ((xs.take k).map kf)):=⟨HS2.out.below hK3⟩
    have HK3:Hd (Below w.heap.size w w3):=⟨HK2.out.trans (hK3.mono HK2.out.size)⟩
    clear hK3 hlk
    obtain⟨w4,hup,hS4,hK4⟩:=HS3.out.store K.out Tryz.underlying235 HLen.out HKK.out
    have HS4:Hd (SetAt w4 3 mb ((xs.take (k+1)).map kf)):=⟨by rw[List.take_succ_eq_append_getElem hkq,List.map_append,List.map_cons,List.map_nil,HLL.out];exact hS4⟩
    have HK4:Hd (Below w.heap.size w w4):=⟨HK3.out.trans (hK4.below (by have:=HMb.out;have:=HK3.out.size;omega) (fun i hi e=>by have:=HMb.out;omega))⟩
    have HN4:Hd ((xs.take (k+1)).map kf).Nodup:=⟨dist_step hkq HA.out (by rw[HLL.out];exact HIn.out)⟩
    clear hS4 hK4
    go_wp2
    exact⟨⟨k+1,hlt,by go_num,HN4,HS4,HK4⟩,by simp[intOf];omega⟩
  ·have hd1:decide ((k:Int)< (n:Int))=false:=by simp;omega
   go_wp2
   go_ret
   refine⟨⟨true,rfl,fun _=> ?_,fun _=>rfl⟩,HK.out⟩
   have:=HA.out
   rwa [List.take_of_length_le (by omega)] at this
end Go.Proofs.YtfaepbjnpakghaaGreatDoor.W
