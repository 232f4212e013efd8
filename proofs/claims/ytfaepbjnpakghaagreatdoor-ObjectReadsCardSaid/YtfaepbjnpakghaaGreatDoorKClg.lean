import Derived.Deep.Cut
import Derived.Test.YtfaepbjnpakghaaGreatDoorKad
import Derived.Test.YtfaepbjnpakghaaGreatDoorKah
import Derived.Test.YtfaepbjnpakghaaGreatDoorKac
/- The walk of the closure syms$1 (printed by tools/gen_cls.py). -/
namespace Go.Proofs.YtfaepbjnpakghaaGreatDoor.W
open Go.RowKit
set_option linter.unusedVariables false
theorem kinds_len (k:Int):lenR (kindsL k).length:=by
 unfold kindsL lenR
 split
 ·decide
 ·split<;>decide
theorem ver_eq (x:Sym):decide (x.version.size=0)=x.version.toList.isEmpty:=by
 by_cases h:x.version.size=0
 ·rw[decide_eq_true h,ba_empty h,_root_.Go.ByteArray.toList_eq];rfl
 ·rw[decide_eq_false h,nonempty_ba h]
theorem sym_fields_eq (x:Sym):symFields x=(nameB x.name&&(x.version.toList.isEmpty || nameB x.version)&&inB x.bind 4&&inB x.vis 3&&inB x.kind 3&&decide ((0:Int)≤x.at_)&&decide ((0:Int)≤x.size)):=by
 unfold symFields;rw[ver_eq]
theorem bne_not (a b:Int):decide (a≠b)=(a !=b):=by
 rw[Bool.eq_iff_iff];simp
theorem eq_nbne (a b:Int):decide (a=b)= !(a !=b):=by
 rw[Bool.eq_iff_iff];simp
theorem sym_spec (o:Ob) (x:Sym) (Z:Int) (hZ:sizeAt o x.sec=Z) (h64:I64 Z):symB o x=(if symFields x=true then(if(x.bind==3)=true then((x.sec== -1)&&(x.kind==1)&&x.version.toList.isEmpty&& !x.main&&(x.at_==0)&&decide ((1:Int)≤x.size)&&decide (x.size≤1048576)&&powB x.align)
 else if(x.sec== -1)=true then((x.bind !=0)&& !x.main&&(x.at_==0)&&(x.size==0)&&(x.align==0))
 else(isB o x.sec (kindsL x.kind)&& !(x.align !=0)&& !(x.main&&x.version.toList.isEmpty)&&(((x.bind !=0) || (x.version.toList.isEmpty&&(x.vis==0)))&&decide (x.at_≤Z)&&decide (x.size≤wrap64 (Z-x.at_))&&((x.kind !=0) || (x.at_.tmod 8==0))))) else false):=by
 unfold symB
 by_cases hF:symFields x=true
 ·rw[if_pos hF,if_pos hF]
  by_cases h3:x.bind=3
  ·rw[if_pos h3,if_pos (show(x.bind==3)=true by rw[h3];rfl)]
   unfold symCommon;rw[ver_eq];rfl
  ·rw[if_neg h3,if_neg (show ¬(x.bind==3)=true from fun h=>h3 (eq_of_beq h))]
   by_cases h1:x.sec= -1
   ·rw[if_pos h1,if_pos (show(x.sec== -1)=true by rw[h1];rfl)]
    unfold symRef;rw[bne_not];rfl
   ·rw[if_neg h1,if_neg (show ¬(x.sec== -1)=true from fun h=>h1 (eq_of_beq h))]
    have hat:(decide (x.at_≤Z)&&decide (x.size≤Z-x.at_))=(decide (x.at_≤Z)&&decide (x.size≤wrap64 (Z-x.at_))):=by
     by_cases h:x.at_≤Z
     ·have h0:0≤x.at_:=by
       unfold symFields at hF
       simp only[Bool.and_eq_true,decide_eq_true_eq] at hF
       exact hF.1.2
      rw[show wrap64 (Z-x.at_)=Z-x.at_ from by unfold I64 at h64;unfold wrap64;omega]
     ·rw[decide_eq_false h];rfl
    unfold symHere symRest symLocal
    have e:∀(A L K P Q R:Bool),(P&&Q)=(P&&R)→(A&&(L&&P&&Q&&K))=(A&&(L&&P&&R&&K)):=by decide
    rw[hZ,ver_eq,bne_not,bne_not,mod8,eq_nbne x.align]
    exact e _ _ _ _ _ _ hat
 ·rw[if_neg hF,if_neg hF]
theorem sizeAt_ok {o:Ob} (hk:o.Ok) (i:Int):I64 (sizeAt o i):=by
 unfold sizeAt secAt
 split
 ·rename_i s h
  split at h
  ·exact(hk.secsI s (List.mem_of_getElem? h)).size
  ·cases h
 ·unfold I64;omega
set_option maxHeartbeats 8000000 in
set_option maxRecDepth 100000 in
theorem osym1_any (w:World) (o:Ob) (x1 x2 x3 x4 x5 x6 x7 x8 x9 x10:Value) (b:Nat) (hb:ObC w b o x1 x2 x3 x4 x5 x6 x7 x8 x9 x10) (hA:o.At w x1 x2 x3 x4 x5 x6 x7 x8 x9 x10) (hk:o.Ok) (x:Sym) (hx:x.Ok):
 Calls Tryz.prog 147 #[.agg #[.string x.name, .string x.version, .bool x.main, .int .i64 x.bind, .int .i64 x.vis, .int .i64 x.kind, .int .i64 x.sec, .int .i64 x.at_, .int .i64 x.size, .int .i64 x.align], .pointer (some ⟨b,0,none⟩)] w fun e w'=>e= .returned (.bool (symB o x))∧Below w.heap.size w w':=by
 obtain⟨Z,hZ⟩:∃Z,sizeAt o x.sec=Z:=⟨_,rfl⟩
 have hI:=(fun(w1:World) (h:Below w.heap.size w w1) (kv:Value) (hr:Rw 1 intE w1 kv (kindsL x.kind))=>ois_any w1 o x1 x2 x3 x4 x5 x6 x7 x8 x9 x10 x.sec kv (kindsL x.kind) (hA.below h) hk.secs hr (kinds_len _))
 have hspec:=sym_spec o x Z hZ (hZ▸sizeAt_ok hk _)
 have hF:=sym_fields_eq x
 obtain⟨F,hFF⟩:∃F,symFields x=F:=⟨_,rfl⟩
 rw[hFF] at hF hspec
 obtain⟨I,hII⟩:∃I,isB o x.sec (kindsL x.kind)=I:=⟨_,rfl⟩
 rw[hII] at hI hspec
 have HI:=Hd.mk hI
 have HII:=Hd.mk hII
 clear hI hII hFF
 obtain⟨n0,hn0⟩:∃q,(nameB x.name)=q:=⟨_,rfl⟩
 have hcn0:=(fun w=>oname_any x.name w hx.name)
 rw[hn0] at hcn0
 have HCn0:=Hd.mk hcn0
 rw[hn0] at hF
 clear hcn0 hn0
 obtain⟨vE,hvE⟩:∃q,(x.version.toList.isEmpty)=q:=⟨_,rfl⟩
 rw[hvE] at hF hspec
 obtain⟨n1,hn1⟩:∃q,(nameB x.version)=q:=⟨_,rfl⟩
 have hcn1:=(fun w=>oname_any x.version w hx.version)
 rw[hn1] at hcn1
 have HCn1:=Hd.mk hcn1
 rw[hn1] at hF
 clear hcn1 hn1
 obtain⟨b4,hb4⟩:∃q,(inB x.bind 4)=q:=⟨_,rfl⟩
 have hcb4:=(fun w=>owithinB x.bind 4 w)
 rw[hb4] at hcb4
 have HCb4:=Hd.mk hcb4
 rw[hb4] at hF
 clear hcb4 hb4
 obtain⟨v3,hv3⟩:∃q,(inB x.vis 3)=q:=⟨_,rfl⟩
 have hcv3:=(fun w=>owithinB x.vis 3 w)
 rw[hv3] at hcv3
 have HCv3:=Hd.mk hcv3
 rw[hv3] at hF
 clear hcv3 hv3
 obtain⟨k3,hk3⟩:∃q,(inB x.kind 3)=q:=⟨_,rfl⟩
 have hck3:=(fun w=>owithinB x.kind 3 w)
 rw[hk3] at hck3
 have HCk3:=Hd.mk hck3
 rw[hk3] at hF
 clear hck3 hk3
 obtain⟨a0,ha0⟩:∃q,(decide ((0:Int)≤x.at_))=q:=⟨_,rfl⟩
 rw[ha0] at hF
 obtain⟨z0,hz0⟩:∃q,(decide ((0:Int)≤x.size))=q:=⟨_,rfl⟩
 rw[hz0] at hF
 obtain⟨e3,he3⟩:∃q,((x.bind==3))=q:=⟨_,rfl⟩
 rw[he3] at hspec
 obtain⟨m1,hm1⟩:∃q,((x.sec== -1))=q:=⟨_,rfl⟩
 rw[hm1] at hspec
 obtain⟨k1,hk1⟩:∃q,((x.kind==1))=q:=⟨_,rfl⟩
 rw[hk1] at hspec
 obtain⟨mB,hmB⟩:∃q,x.main=q:=⟨_,rfl⟩
 rw[hmB] at hspec⊢
 clear hmB
 obtain⟨at0,hat0⟩:∃q,((x.at_==0))=q:=⟨_,rfl⟩
 rw[hat0] at hspec
 obtain⟨z1,hz1⟩:∃q,(decide ((1:Int)≤x.size))=q:=⟨_,rfl⟩
 rw[hz1] at hspec
 obtain⟨zM,hzM⟩:∃q,(decide (x.size≤1048576))=q:=⟨_,rfl⟩
 rw[hzM] at hspec
 obtain⟨pw,hpw⟩:∃q,(powB x.align)=q:=⟨_,rfl⟩
 have hcpw:=(fun w=>power_any x.align w)
 rw[hpw] at hcpw
 have HCpw:=Hd.mk hcpw
 rw[hpw] at hspec
 clear hcpw hpw
 obtain⟨nb,hnb⟩:∃q,((x.bind !=0))=q:=⟨_,rfl⟩
 rw[hnb] at hspec
 obtain⟨zz,hzz⟩:∃q,((x.size==0))=q:=⟨_,rfl⟩
 rw[hzz] at hspec
 obtain⟨al,hal⟩:∃q,((x.align==0))=q:=⟨_,rfl⟩
 rw[hal] at hspec
 obtain⟨nal,hnal⟩:∃q,((x.align !=0))=q:=⟨_,rfl⟩
 rw[hnal] at hspec
 obtain⟨vs,hvs⟩:∃q,((x.vis==0))=q:=⟨_,rfl⟩
 rw[hvs] at hspec
 obtain⟨atZ,hatZ⟩:∃q,(decide (x.at_≤Z))=q:=⟨_,rfl⟩
 rw[hatZ] at hspec
 obtain⟨szZ,hszZ⟩:∃q,(decide (x.size≤wrap64 (Z-x.at_)))=q:=⟨_,rfl⟩
 rw[hszZ] at hspec
 obtain⟨nk,hnk⟩:∃q,((x.kind !=0))=q:=⟨_,rfl⟩
 rw[hnk] at hspec
 obtain⟨md,hmd⟩:∃q,((x.at_.tmod 8==0))=q:=⟨_,rfl⟩
 rw[hmd] at hspec
 have HF:=Hd.mk hF
 have HSp:=Hd.mk hspec
 have HZ:=Hd.mk hZ
 have HB:=Hd.mk hb
 have HA:=Hd.mk hA
 have HX:Hd (x.sec=x.sec):=⟨rfl⟩
 clear hF hspec hZ hA
 obtain⟨c0,c1,c2,c3,c4,c5,c6,c7,c8,c9,c10⟩:=hb.alloc (.cells #[.string x.name, .string x.version, .bool mB, .int .i64 x.bind, .int .i64 x.vis, .int .i64 x.kind, .int .i64 x.sec, .int .i64 x.at_, .int .i64 x.size, .int .i64 x.align] 55)
 clear hb
 go_enter Tryz.func147,Tryz.ntmps147
 go_upto_region 1 with(fail)
 go_cut [4] from 7 (fun s4 wx=>s4= .bool F∧wx=(w.alloc (.cells #[.string x.name, .string x.version, .bool mB, .int .i64 x.bind, .int .i64 x.vis, .int .i64 x.kind, .int .i64 x.sec, .int .i64 x.at_, .int .i64 x.size, .int .i64 x.align] 55)))
 case first=>
  rcases n0 with _ | _
  ·skip
   go_wp2_with fail
   refine(HCn0.out _).mono ?_
   rintro e w' ⟨rfl,rfl⟩
   go_wp2
   go_meet
   exact⟨by rw[HF.out]<;>simp,rfl⟩
  ·rcases vE with _ | _
   ·rcases n1 with _ | _
    ·skip
     go_wp2_with fail
     refine(HCn0.out _).mono ?_
     rintro e w' ⟨rfl,rfl⟩
     go_wp2_with fail
     refine(HCn1.out _).mono ?_
     rintro e w' ⟨rfl,rfl⟩
     go_wp2
     go_meet
     exact⟨by rw[HF.out]<;>simp,rfl⟩
    ·rcases b4 with _ | _
     ·skip
      go_wp2_with fail
      refine(HCn0.out _).mono ?_
      rintro e w' ⟨rfl,rfl⟩
      go_wp2_with fail
      refine(HCn1.out _).mono ?_
      rintro e w' ⟨rfl,rfl⟩
      go_wp2_with fail
      refine(HCb4.out _).mono ?_
      rintro e w' ⟨rfl,rfl⟩
      go_wp2
      go_meet
      exact⟨by rw[HF.out]<;>simp,rfl⟩
     ·rcases v3 with _ | _
      ·skip
       go_wp2_with fail
       refine(HCn0.out _).mono ?_
       rintro e w' ⟨rfl,rfl⟩
       go_wp2_with fail
       refine(HCn1.out _).mono ?_
       rintro e w' ⟨rfl,rfl⟩
       go_wp2_with fail
       refine(HCb4.out _).mono ?_
       rintro e w' ⟨rfl,rfl⟩
       go_wp2_with fail
       refine(HCv3.out _).mono ?_
       rintro e w' ⟨rfl,rfl⟩
       go_wp2
       go_meet
       exact⟨by rw[HF.out]<;>simp,rfl⟩
      ·rcases k3 with _ | _
       ·skip
        go_wp2_with fail
        refine(HCn0.out _).mono ?_
        rintro e w' ⟨rfl,rfl⟩
        go_wp2_with fail
        refine(HCn1.out _).mono ?_
        rintro e w' ⟨rfl,rfl⟩
        go_wp2_with fail
        refine(HCb4.out _).mono ?_
        rintro e w' ⟨rfl,rfl⟩
        go_wp2_with fail
        refine(HCv3.out _).mono ?_
        rintro e w' ⟨rfl,rfl⟩
        go_wp2_with fail
        refine(HCk3.out _).mono ?_
        rintro e w' ⟨rfl,rfl⟩
        go_wp2
        go_meet
        exact⟨by rw[HF.out]<;>simp,rfl⟩
       ·rcases a0 with _ | _
        ·skip
         go_wp2_with fail
         refine(HCn0.out _).mono ?_
         rintro e w' ⟨rfl,rfl⟩
         go_wp2_with fail
         refine(HCn1.out _).mono ?_
         rintro e w' ⟨rfl,rfl⟩
         go_wp2_with fail
         refine(HCb4.out _).mono ?_
         rintro e w' ⟨rfl,rfl⟩
         go_wp2_with fail
         refine(HCv3.out _).mono ?_
         rintro e w' ⟨rfl,rfl⟩
         go_wp2_with fail
         refine(HCk3.out _).mono ?_
         rintro e w' ⟨rfl,rfl⟩
         go_wp2
         go_meet
         exact⟨by rw[HF.out]<;>simp,rfl⟩
        ·skip
         go_wp2_with fail
         refine(HCn0.out _).mono ?_
         rintro e w' ⟨rfl,rfl⟩
         go_wp2_with fail
         refine(HCn1.out _).mono ?_
         rintro e w' ⟨rfl,rfl⟩
         go_wp2_with fail
         refine(HCb4.out _).mono ?_
         rintro e w' ⟨rfl,rfl⟩
         go_wp2_with fail
         refine(HCv3.out _).mono ?_
         rintro e w' ⟨rfl,rfl⟩
         go_wp2_with fail
         refine(HCk3.out _).mono ?_
         rintro e w' ⟨rfl,rfl⟩
         go_wp2
         go_meet
         exact⟨by rw[HF.out]<;>simp,rfl⟩
   ·rcases b4 with _ | _
    ·skip
     go_wp2_with fail
     refine(HCn0.out _).mono ?_
     rintro e w' ⟨rfl,rfl⟩
     go_wp2_with fail
     refine(HCb4.out _).mono ?_
     rintro e w' ⟨rfl,rfl⟩
     go_wp2
     go_meet
     exact⟨by rw[HF.out]<;>simp,rfl⟩
    ·rcases v3 with _ | _
     ·skip
      go_wp2_with fail
      refine(HCn0.out _).mono ?_
      rintro e w' ⟨rfl,rfl⟩
      go_wp2_with fail
      refine(HCb4.out _).mono ?_
      rintro e w' ⟨rfl,rfl⟩
      go_wp2_with fail
      refine(HCv3.out _).mono ?_
      rintro e w' ⟨rfl,rfl⟩
      go_wp2
      go_meet
      exact⟨by rw[HF.out]<;>simp,rfl⟩
     ·rcases k3 with _ | _
      ·skip
       go_wp2_with fail
       refine(HCn0.out _).mono ?_
       rintro e w' ⟨rfl,rfl⟩
       go_wp2_with fail
       refine(HCb4.out _).mono ?_
       rintro e w' ⟨rfl,rfl⟩
       go_wp2_with fail
       refine(HCv3.out _).mono ?_
       rintro e w' ⟨rfl,rfl⟩
       go_wp2_with fail
       refine(HCk3.out _).mono ?_
       rintro e w' ⟨rfl,rfl⟩
       go_wp2
       go_meet
       exact⟨by rw[HF.out]<;>simp,rfl⟩
      ·rcases a0 with _ | _
       ·skip
        go_wp2_with fail
        refine(HCn0.out _).mono ?_
        rintro e w' ⟨rfl,rfl⟩
        go_wp2_with fail
        refine(HCb4.out _).mono ?_
        rintro e w' ⟨rfl,rfl⟩
        go_wp2_with fail
        refine(HCv3.out _).mono ?_
        rintro e w' ⟨rfl,rfl⟩
        go_wp2_with fail
        refine(HCk3.out _).mono ?_
        rintro e w' ⟨rfl,rfl⟩
        go_wp2
        go_meet
        exact⟨by rw[HF.out]<;>simp,rfl⟩
       ·skip
        go_wp2_with fail
        refine(HCn0.out _).mono ?_
        rintro e w' ⟨rfl,rfl⟩
        go_wp2_with fail
        refine(HCb4.out _).mono ?_
        rintro e w' ⟨rfl,rfl⟩
        go_wp2_with fail
        refine(HCv3.out _).mono ?_
        rintro e w' ⟨rfl,rfl⟩
        go_wp2_with fail
        refine(HCk3.out _).mono ?_
        rintro e w' ⟨rfl,rfl⟩
        go_wp2
        go_meet
        exact⟨by rw[HF.out]<;>simp,rfl⟩
 case rest=>
  obtain⟨rfl,rfl⟩:=hcut
  clear HF HCn0 HCn1 HCb4 HCv3 HCk3
  rcases F with _ | _
  ·go_wp2
   go_ret
   exact⟨ret_b (by rw[HSp.out]<;>simp),by go_grown⟩
  rcases e3 with _ | _
  rotate_left
  ·rcases m1 with _ | _
   ·skip
    go_wp2
    go_ret
    exact⟨ret_b (by rw[HSp.out]<;>simp),by go_grown⟩
   ·rcases k1 with _ | _
    ·skip
     go_wp2
     go_ret
     exact⟨ret_b (by rw[HSp.out]<;>simp),by go_grown⟩
    ·rcases vE with _ | _
     ·skip
      go_wp2
      go_ret
      exact⟨ret_b (by rw[HSp.out]<;>simp),by go_grown⟩
     ·rcases mB with _ | _
      ·rcases at0 with _ | _
       ·skip
        go_wp2
        go_ret
        exact⟨ret_b (by rw[HSp.out]<;>simp),by go_grown⟩
       ·rcases z1 with _ | _
        ·skip
         go_wp2
         go_ret
         exact⟨ret_b (by rw[HSp.out]<;>simp),by go_grown⟩
        ·rcases zM with _ | _
         ·skip
          go_wp2
          go_ret
          exact⟨ret_b (by rw[HSp.out]<;>simp),by go_grown⟩
         ·skip
          go_wp2_with fail
          refine(HCpw.out _).mono ?_
          rintro e w' ⟨rfl,rfl⟩
          go_wp2
          go_ret
          exact⟨ret_b (by rw[HSp.out]<;>simp),by go_grown⟩
      ·skip
       go_wp2
       go_ret
       exact⟨ret_b (by rw[HSp.out]<;>simp),by go_grown⟩
  rcases m1 with _ | _
  rotate_left
  ·rcases nb with _ | _
   ·skip
    go_wp2
    go_ret
    exact⟨ret_b (by rw[HSp.out]<;>simp),by go_grown⟩
   ·rcases mB with _ | _
    ·rcases at0 with _ | _
     ·skip
      go_wp2
      go_ret
      exact⟨ret_b (by rw[HSp.out]<;>simp),by go_grown⟩
     ·rcases zz with _ | _
      ·skip
       go_wp2
       go_ret
       exact⟨ret_b (by rw[HSp.out]<;>simp),by go_grown⟩
      ·skip
       go_wp2
       go_ret
       exact⟨ret_b (by rw[HSp.out]<;>simp),by go_grown⟩
    ·skip
     go_wp2
     go_ret
     exact⟨ret_b (by rw[HSp.out]<;>simp),by go_grown⟩
  have HFc:Hd (∀w',Below (w.alloc (.cells #[.string x.name, .string x.version, .bool mB, .int .i64 x.bind, .int .i64 x.vis, .int .i64 x.kind, .int .i64 x.sec, .int .i64 x.at_, .int .i64 x.size, .int .i64 x.align] 55)).heap.size (w.alloc (.cells #[.string x.name, .string x.version, .bool mB, .int .i64 x.bind, .int .i64 x.vis, .int .i64 x.kind, .int .i64 x.sec, .int .i64 x.at_, .int .i64 x.size, .int .i64 x.align] 55)) w'→w'.cell? ⟨w.heap.size,0,none⟩=some (.string x.name)∧w'.cell? ⟨w.heap.size,1,none⟩=some (.string x.version)∧w'.cell? ⟨w.heap.size,2,none⟩=some (.bool mB)∧w'.cell? ⟨w.heap.size,3,none⟩=some (.int .i64 x.bind)∧w'.cell? ⟨w.heap.size,4,none⟩=some (.int .i64 x.vis)∧w'.cell? ⟨w.heap.size,5,none⟩=some (.int .i64 x.kind)∧w'.cell? ⟨w.heap.size,6,none⟩=some (.int .i64 x.sec)∧w'.cell? ⟨w.heap.size,7,none⟩=some (.int .i64 x.at_)∧w'.cell? ⟨w.heap.size,8,none⟩=some (.int .i64 x.size)∧w'.cell? ⟨w.heap.size,9,none⟩=some (.int .i64 x.align)∧w'.cell? ⟨b,0,none⟩=some (.string o.name)∧w'.cell? ⟨b,1,none⟩=some (x1)∧w'.cell? ⟨b,2,none⟩=some (x2)∧w'.cell? ⟨b,3,none⟩=some (x3)∧w'.cell? ⟨b,4,none⟩=some (x4)∧w'.cell? ⟨b,5,none⟩=some (x5)∧w'.cell? ⟨b,6,none⟩=some (x6)∧w'.cell? ⟨b,7,none⟩=some (x7)∧w'.cell? ⟨b,8,none⟩=some (x8)∧w'.cell? ⟨b,9,none⟩=some (x9)∧w'.cell? ⟨b,10,none⟩=some (x10)):=⟨fun w' h=>⟨(h.cell (p:=⟨w.heap.size,0,none⟩) (by simp)).trans (by simp[go_sem]),(h.cell (p:=⟨w.heap.size,1,none⟩) (by simp)).trans (by simp[go_sem]),(h.cell (p:=⟨w.heap.size,2,none⟩) (by simp)).trans (by simp[go_sem]),(h.cell (p:=⟨w.heap.size,3,none⟩) (by simp)).trans (by simp[go_sem]),(h.cell (p:=⟨w.heap.size,4,none⟩) (by simp)).trans (by simp[go_sem]),(h.cell (p:=⟨w.heap.size,5,none⟩) (by simp)).trans (by simp[go_sem]),(h.cell (p:=⟨w.heap.size,6,none⟩) (by simp)).trans (by simp[go_sem]),(h.cell (p:=⟨w.heap.size,7,none⟩) (by simp)).trans (by simp[go_sem]),(h.cell (p:=⟨w.heap.size,8,none⟩) (by simp)).trans (by simp[go_sem]),(h.cell (p:=⟨w.heap.size,9,none⟩) (by simp)).trans (by simp[go_sem]),(HB.out.below ((below_alloc w _).trans (h.mono (by simp)))).c0,(HB.out.below ((below_alloc w _).trans (h.mono (by simp)))).c1,(HB.out.below ((below_alloc w _).trans (h.mono (by simp)))).c2,(HB.out.below ((below_alloc w _).trans (h.mono (by simp)))).c3,(HB.out.below ((below_alloc w _).trans (h.mono (by simp)))).c4,(HB.out.below ((below_alloc w _).trans (h.mono (by simp)))).c5,(HB.out.below ((below_alloc w _).trans (h.mono (by simp)))).c6,(HB.out.below ((below_alloc w _).trans (h.mono (by simp)))).c7,(HB.out.below ((below_alloc w _).trans (h.mono (by simp)))).c8,(HB.out.below ((below_alloc w _).trans (h.mono (by simp)))).c9,(HB.out.below ((below_alloc w _).trans (h.mono (by simp)))).c10⟩⟩
  clear c0 c1 c2 c3 c4 c5 c6 c7 c8 c9 c10
  go_upto_region 8 with(fail)
  go_cut [117] from 118 (fun s8 wx=>s8= .bool (!I || nal || (mB&&vE))∧Hd (Below (w.alloc (.cells #[.string x.name, .string x.version, .bool mB, .int .i64 x.bind, .int .i64 x.vis, .int .i64 x.kind, .int .i64 x.sec, .int .i64 x.at_, .int .i64 x.size, .int .i64 x.align] 55)).heap.size (w.alloc (.cells #[.string x.name, .string x.version, .bool mB, .int .i64 x.bind, .int .i64 x.vis, .int .i64 x.kind, .int .i64 x.sec, .int .i64 x.at_, .int .i64 x.size, .int .i64 x.align] 55)) wx))
  case first=>
   rcases I with _ | _
   ·skip
    refine wp_region_lin default (fun w'=>Below (w.alloc (.cells #[.string x.name, .string x.version, .bool mB, .int .i64 x.bind, .int .i64 x.vis, .int .i64 x.kind, .int .i64 x.sec, .int .i64 x.at_, .int .i64 x.size, .int .i64 x.align] 55)).heap.size (w.alloc (.cells #[.string x.name, .string x.version, .bool mB, .int .i64 x.bind, .int .i64 x.vis, .int .i64 x.kind, .int .i64 x.sec, .int .i64 x.at_, .int .i64 x.size, .int .i64 x.align] 55)) w') [(0,true),(1,true),(2,true),(3,true),(4,true),(5,false),(6,false),(7,true),(8,true),(9,true),(10,true),(11,true),(12,true),(13,true),(14,true),(15,true),(16,true),(17,true),(18,true),(19,true),(20,true),(21,true),(22,true)] (by kernel_rfl) (by kernel_rfl) rfl (by kernel_rfl) (by kernel_rfl) (Below.drew (Below.refl _ _)) ?_
    simp only[pick,List.getD_cons_zero,List.getD_cons_succ]
    repeat
     first
     | (refine lin_free (v:= ?_) (by rfl) ?_ ?_
        rotate_left
        ·intro w' hSw
         obtain⟨f0,f1,f2,f3,f4,f5,f6,f7,f8,f9,c0,c1,c2,c3,c4,c5,c6,c7,c8,c9,c10⟩:=HFc.out w' hSw
         clear hSw
         go_simp
         first | done | with_reducible rfl
        simp only[Act.put,List.setIfInBounds_toArray,List.set_cons_zero,List.set_cons_succ])
     | (refine lin_skip (by rfl) ?_
        simp only[Act.put,List.setIfInBounds_toArray,List.set_cons_zero,List.set_cons_succ])
    refine lin_bound (fun K hK=> ?_)
    go_simp
    refine(okinds_any x.kind _).mono ?_
    rintro e v1 ⟨⟨kv,rfl,hkv⟩,hK1⟩
    have HSt:Hd (Below (w.alloc (.cells #[.string x.name, .string x.version, .bool mB, .int .i64 x.bind, .int .i64 x.vis, .int .i64 x.kind, .int .i64 x.sec, .int .i64 x.at_, .int .i64 x.size, .int .i64 x.align] 55)).heap.size (w.alloc (.cells #[.string x.name, .string x.version, .bool mB, .int .i64 x.bind, .int .i64 x.vis, .int .i64 x.kind, .int .i64 x.sec, .int .i64 x.at_, .int .i64 x.size, .int .i64 x.align] 55)) v1):=⟨(Below.drew (Below.refl _ _)).trans (hK1.mono (by simp))⟩
    have HKv:=Hd.mk hkv
    clear hK1 hkv
    refine hK.out _ _ HSt.out ?_
    clear hK K
    try simp only[Act.put,List.setIfInBounds_toArray,List.set_cons_zero,List.set_cons_succ]
    refine lin_bound (fun K hK=> ?_)
    go_simp
    refine(HI.out _ ((below_alloc w _).trans (HSt.out.mono (by simp))) _ HKv.out).mono ?_
    rintro e v2 ⟨rfl,hK2⟩
    have HSt2:Hd (Below (w.alloc (.cells #[.string x.name, .string x.version, .bool mB, .int .i64 x.bind, .int .i64 x.vis, .int .i64 x.kind, .int .i64 x.sec, .int .i64 x.at_, .int .i64 x.size, .int .i64 x.align] 55)).heap.size (w.alloc (.cells #[.string x.name, .string x.version, .bool mB, .int .i64 x.bind, .int .i64 x.vis, .int .i64 x.kind, .int .i64 x.sec, .int .i64 x.at_, .int .i64 x.size, .int .i64 x.align] 55)) v2):=⟨HSt.out.trans (hK2.mono HSt.out.size)⟩
    clear hK2
    refine hK.out _ _ HSt2.out ?_
    clear hK K
    try simp only[Act.put,List.setIfInBounds_toArray,List.set_cons_zero,List.set_cons_succ]
    repeat
     first
     | (refine lin_free (v:= ?_) (by rfl) ?_ ?_
        rotate_left
        ·intro w' hSw
         obtain⟨f0,f1,f2,f3,f4,f5,f6,f7,f8,f9,c0,c1,c2,c3,c4,c5,c6,c7,c8,c9,c10⟩:=HFc.out w' hSw
         clear hSw
         go_simp
         first | done | with_reducible rfl
        simp only[Act.put,List.setIfInBounds_toArray,List.set_cons_zero,List.set_cons_succ])
     | (refine lin_skip (by rfl) ?_
        simp only[Act.put,List.setIfInBounds_toArray,List.set_cons_zero,List.set_cons_succ])
    refine NoPanic.normal ?_
    go_wp2
    go_meet
    exact⟨by simp,HSt2⟩
   rcases nal with _ | _
   rotate_left
   ·skip
    refine wp_region_lin default (fun w'=>Below (w.alloc (.cells #[.string x.name, .string x.version, .bool mB, .int .i64 x.bind, .int .i64 x.vis, .int .i64 x.kind, .int .i64 x.sec, .int .i64 x.at_, .int .i64 x.size, .int .i64 x.align] 55)).heap.size (w.alloc (.cells #[.string x.name, .string x.version, .bool mB, .int .i64 x.bind, .int .i64 x.vis, .int .i64 x.kind, .int .i64 x.sec, .int .i64 x.at_, .int .i64 x.size, .int .i64 x.align] 55)) w') [(0,true),(1,true),(2,true),(3,true),(4,true),(5,false),(6,false),(7,true),(8,true),(9,true),(10,true),(11,true),(12,true),(13,true),(14,true),(15,true),(16,true),(17,true),(18,true),(19,true),(20,true),(21,true),(22,true)] (by kernel_rfl) (by kernel_rfl) rfl (by kernel_rfl) (by kernel_rfl) (Below.drew (Below.refl _ _)) ?_
    simp only[pick,List.getD_cons_zero,List.getD_cons_succ]
    repeat
     first
     | (refine lin_free (v:= ?_) (by rfl) ?_ ?_
        rotate_left
        ·intro w' hSw
         obtain⟨f0,f1,f2,f3,f4,f5,f6,f7,f8,f9,c0,c1,c2,c3,c4,c5,c6,c7,c8,c9,c10⟩:=HFc.out w' hSw
         clear hSw
         go_simp
         first | done | with_reducible rfl
        simp only[Act.put,List.setIfInBounds_toArray,List.set_cons_zero,List.set_cons_succ])
     | (refine lin_skip (by rfl) ?_
        simp only[Act.put,List.setIfInBounds_toArray,List.set_cons_zero,List.set_cons_succ])
    refine lin_bound (fun K hK=> ?_)
    go_simp
    refine(okinds_any x.kind _).mono ?_
    rintro e v1 ⟨⟨kv,rfl,hkv⟩,hK1⟩
    have HSt:Hd (Below (w.alloc (.cells #[.string x.name, .string x.version, .bool mB, .int .i64 x.bind, .int .i64 x.vis, .int .i64 x.kind, .int .i64 x.sec, .int .i64 x.at_, .int .i64 x.size, .int .i64 x.align] 55)).heap.size (w.alloc (.cells #[.string x.name, .string x.version, .bool mB, .int .i64 x.bind, .int .i64 x.vis, .int .i64 x.kind, .int .i64 x.sec, .int .i64 x.at_, .int .i64 x.size, .int .i64 x.align] 55)) v1):=⟨(Below.drew (Below.refl _ _)).trans (hK1.mono (by simp))⟩
    have HKv:=Hd.mk hkv
    clear hK1 hkv
    refine hK.out _ _ HSt.out ?_
    clear hK K
    try simp only[Act.put,List.setIfInBounds_toArray,List.set_cons_zero,List.set_cons_succ]
    refine lin_bound (fun K hK=> ?_)
    go_simp
    refine(HI.out _ ((below_alloc w _).trans (HSt.out.mono (by simp))) _ HKv.out).mono ?_
    rintro e v2 ⟨rfl,hK2⟩
    have HSt2:Hd (Below (w.alloc (.cells #[.string x.name, .string x.version, .bool mB, .int .i64 x.bind, .int .i64 x.vis, .int .i64 x.kind, .int .i64 x.sec, .int .i64 x.at_, .int .i64 x.size, .int .i64 x.align] 55)).heap.size (w.alloc (.cells #[.string x.name, .string x.version, .bool mB, .int .i64 x.bind, .int .i64 x.vis, .int .i64 x.kind, .int .i64 x.sec, .int .i64 x.at_, .int .i64 x.size, .int .i64 x.align] 55)) v2):=⟨HSt.out.trans (hK2.mono HSt.out.size)⟩
    clear hK2
    refine hK.out _ _ HSt2.out ?_
    clear hK K
    try simp only[Act.put,List.setIfInBounds_toArray,List.set_cons_zero,List.set_cons_succ]
    repeat
     first
     | (refine lin_free (v:= ?_) (by rfl) ?_ ?_
        rotate_left
        ·intro w' hSw
         obtain⟨f0,f1,f2,f3,f4,f5,f6,f7,f8,f9,c0,c1,c2,c3,c4,c5,c6,c7,c8,c9,c10⟩:=HFc.out w' hSw
         clear hSw
         go_simp
         first | done | with_reducible rfl
        simp only[Act.put,List.setIfInBounds_toArray,List.set_cons_zero,List.set_cons_succ])
     | (refine lin_skip (by rfl) ?_
        simp only[Act.put,List.setIfInBounds_toArray,List.set_cons_zero,List.set_cons_succ])
    refine NoPanic.normal ?_
    go_wp2
    go_meet
    exact⟨by simp,HSt2⟩
   rcases mB with _ | _
   ·skip
    refine wp_region_lin default (fun w'=>Below (w.alloc (.cells #[.string x.name, .string x.version, .bool false, .int .i64 x.bind, .int .i64 x.vis, .int .i64 x.kind, .int .i64 x.sec, .int .i64 x.at_, .int .i64 x.size, .int .i64 x.align] 55)).heap.size (w.alloc (.cells #[.string x.name, .string x.version, .bool false, .int .i64 x.bind, .int .i64 x.vis, .int .i64 x.kind, .int .i64 x.sec, .int .i64 x.at_, .int .i64 x.size, .int .i64 x.align] 55)) w') [(0,true),(1,true),(2,true),(3,true),(4,true),(5,false),(6,false),(7,true),(8,true),(9,true),(10,true),(11,true),(12,true),(13,true),(14,true),(15,true),(16,true),(17,true),(18,true),(19,true),(20,true),(21,true),(22,true)] (by kernel_rfl) (by kernel_rfl) rfl (by kernel_rfl) (by kernel_rfl) (Below.drew (Below.refl _ _)) ?_
    simp only[pick,List.getD_cons_zero,List.getD_cons_succ]
    repeat
     first
     | (refine lin_free (v:= ?_) (by rfl) ?_ ?_
        rotate_left
        ·intro w' hSw
         obtain⟨f0,f1,f2,f3,f4,f5,f6,f7,f8,f9,c0,c1,c2,c3,c4,c5,c6,c7,c8,c9,c10⟩:=HFc.out w' hSw
         clear hSw
         go_simp
         first | done | with_reducible rfl
        simp only[Act.put,List.setIfInBounds_toArray,List.set_cons_zero,List.set_cons_succ])
     | (refine lin_skip (by rfl) ?_
        simp only[Act.put,List.setIfInBounds_toArray,List.set_cons_zero,List.set_cons_succ])
    refine lin_bound (fun K hK=> ?_)
    go_simp
    refine(okinds_any x.kind _).mono ?_
    rintro e v1 ⟨⟨kv,rfl,hkv⟩,hK1⟩
    have HSt:Hd (Below (w.alloc (.cells #[.string x.name, .string x.version, .bool false, .int .i64 x.bind, .int .i64 x.vis, .int .i64 x.kind, .int .i64 x.sec, .int .i64 x.at_, .int .i64 x.size, .int .i64 x.align] 55)).heap.size (w.alloc (.cells #[.string x.name, .string x.version, .bool false, .int .i64 x.bind, .int .i64 x.vis, .int .i64 x.kind, .int .i64 x.sec, .int .i64 x.at_, .int .i64 x.size, .int .i64 x.align] 55)) v1):=⟨(Below.drew (Below.refl _ _)).trans (hK1.mono (by simp))⟩
    have HKv:=Hd.mk hkv
    clear hK1 hkv
    refine hK.out _ _ HSt.out ?_
    clear hK K
    try simp only[Act.put,List.setIfInBounds_toArray,List.set_cons_zero,List.set_cons_succ]
    refine lin_bound (fun K hK=> ?_)
    go_simp
    refine(HI.out _ ((below_alloc w _).trans (HSt.out.mono (by simp))) _ HKv.out).mono ?_
    rintro e v2 ⟨rfl,hK2⟩
    have HSt2:Hd (Below (w.alloc (.cells #[.string x.name, .string x.version, .bool false, .int .i64 x.bind, .int .i64 x.vis, .int .i64 x.kind, .int .i64 x.sec, .int .i64 x.at_, .int .i64 x.size, .int .i64 x.align] 55)).heap.size (w.alloc (.cells #[.string x.name, .string x.version, .bool false, .int .i64 x.bind, .int .i64 x.vis, .int .i64 x.kind, .int .i64 x.sec, .int .i64 x.at_, .int .i64 x.size, .int .i64 x.align] 55)) v2):=⟨HSt.out.trans (hK2.mono HSt.out.size)⟩
    clear hK2
    refine hK.out _ _ HSt2.out ?_
    clear hK K
    try simp only[Act.put,List.setIfInBounds_toArray,List.set_cons_zero,List.set_cons_succ]
    repeat
     first
     | (refine lin_free (v:= ?_) (by rfl) ?_ ?_
        rotate_left
        ·intro w' hSw
         obtain⟨f0,f1,f2,f3,f4,f5,f6,f7,f8,f9,c0,c1,c2,c3,c4,c5,c6,c7,c8,c9,c10⟩:=HFc.out w' hSw
         clear hSw
         go_simp
         first | done | with_reducible rfl
        simp only[Act.put,List.setIfInBounds_toArray,List.set_cons_zero,List.set_cons_succ])
     | (refine lin_skip (by rfl) ?_
        simp only[Act.put,List.setIfInBounds_toArray,List.set_cons_zero,List.set_cons_succ])
    refine NoPanic.normal ?_
    go_wp2
    go_meet
    exact⟨by simp,HSt2⟩
   rcases vE with _ | _
   ·skip
    refine wp_region_lin default (fun w'=>Below (w.alloc (.cells #[.string x.name, .string x.version, .bool true, .int .i64 x.bind, .int .i64 x.vis, .int .i64 x.kind, .int .i64 x.sec, .int .i64 x.at_, .int .i64 x.size, .int .i64 x.align] 55)).heap.size (w.alloc (.cells #[.string x.name, .string x.version, .bool true, .int .i64 x.bind, .int .i64 x.vis, .int .i64 x.kind, .int .i64 x.sec, .int .i64 x.at_, .int .i64 x.size, .int .i64 x.align] 55)) w') [(0,true),(1,true),(2,true),(3,true),(4,true),(5,false),(6,false),(7,true),(8,true),(9,true),(10,true),(11,true),(12,true),(13,true),(14,true),(15,true),(16,true),(17,true),(18,true),(19,true),(20,true),(21,true),(22,true)] (by kernel_rfl) (by kernel_rfl) rfl (by kernel_rfl) (by kernel_rfl) (Below.drew (Below.refl _ _)) ?_
    simp only[pick,List.getD_cons_zero,List.getD_cons_succ]
    repeat
     first
     | (refine lin_free (v:= ?_) (by rfl) ?_ ?_
        rotate_left
        ·intro w' hSw
         obtain⟨f0,f1,f2,f3,f4,f5,f6,f7,f8,f9,c0,c1,c2,c3,c4,c5,c6,c7,c8,c9,c10⟩:=HFc.out w' hSw
         clear hSw
         go_simp
         first | done | with_reducible rfl
        simp only[Act.put,List.setIfInBounds_toArray,List.set_cons_zero,List.set_cons_succ])
     | (refine lin_skip (by rfl) ?_
        simp only[Act.put,List.setIfInBounds_toArray,List.set_cons_zero,List.set_cons_succ])
    refine lin_bound (fun K hK=> ?_)
    go_simp
    refine(okinds_any x.kind _).mono ?_
    rintro e v1 ⟨⟨kv,rfl,hkv⟩,hK1⟩
    have HSt:Hd (Below (w.alloc (.cells #[.string x.name, .string x.version, .bool true, .int .i64 x.bind, .int .i64 x.vis, .int .i64 x.kind, .int .i64 x.sec, .int .i64 x.at_, .int .i64 x.size, .int .i64 x.align] 55)).heap.size (w.alloc (.cells #[.string x.name, .string x.version, .bool true, .int .i64 x.bind, .int .i64 x.vis, .int .i64 x.kind, .int .i64 x.sec, .int .i64 x.at_, .int .i64 x.size, .int .i64 x.align] 55)) v1):=⟨(Below.drew (Below.refl _ _)).trans (hK1.mono (by simp))⟩
    have HKv:=Hd.mk hkv
    clear hK1 hkv
    refine hK.out _ _ HSt.out ?_
    clear hK K
    try simp only[Act.put,List.setIfInBounds_toArray,List.set_cons_zero,List.set_cons_succ]
    refine lin_bound (fun K hK=> ?_)
    go_simp
    refine(HI.out _ ((below_alloc w _).trans (HSt.out.mono (by simp))) _ HKv.out).mono ?_
    rintro e v2 ⟨rfl,hK2⟩
    have HSt2:Hd (Below (w.alloc (.cells #[.string x.name, .string x.version, .bool true, .int .i64 x.bind, .int .i64 x.vis, .int .i64 x.kind, .int .i64 x.sec, .int .i64 x.at_, .int .i64 x.size, .int .i64 x.align] 55)).heap.size (w.alloc (.cells #[.string x.name, .string x.version, .bool true, .int .i64 x.bind, .int .i64 x.vis, .int .i64 x.kind, .int .i64 x.sec, .int .i64 x.at_, .int .i64 x.size, .int .i64 x.align] 55)) v2):=⟨HSt.out.trans (hK2.mono HSt.out.size)⟩
    clear hK2
    refine hK.out _ _ HSt2.out ?_
    clear hK K
    try simp only[Act.put,List.setIfInBounds_toArray,List.set_cons_zero,List.set_cons_succ]
    repeat
     first
     | (refine lin_free (v:= ?_) (by rfl) ?_ ?_
        rotate_left
        ·intro w' hSw
         obtain⟨f0,f1,f2,f3,f4,f5,f6,f7,f8,f9,c0,c1,c2,c3,c4,c5,c6,c7,c8,c9,c10⟩:=HFc.out w' hSw
         clear hSw
         go_simp
         first | done | with_reducible rfl
        simp only[Act.put,List.setIfInBounds_toArray,List.set_cons_zero,List.set_cons_succ])
     | (refine lin_skip (by rfl) ?_
        simp only[Act.put,List.setIfInBounds_toArray,List.set_cons_zero,List.set_cons_succ])
    refine NoPanic.normal ?_
    go_wp2
    go_meet
    exact⟨by simp,HSt2⟩
   ·skip
    refine wp_region_lin default (fun w'=>Below (w.alloc (.cells #[.string x.name, .string x.version, .bool true, .int .i64 x.bind, .int .i64 x.vis, .int .i64 x.kind, .int .i64 x.sec, .int .i64 x.at_, .int .i64 x.size, .int .i64 x.align] 55)).heap.size (w.alloc (.cells #[.string x.name, .string x.version, .bool true, .int .i64 x.bind, .int .i64 x.vis, .int .i64 x.kind, .int .i64 x.sec, .int .i64 x.at_, .int .i64 x.size, .int .i64 x.align] 55)) w') [(0,true),(1,true),(2,true),(3,true),(4,true),(5,false),(6,false),(7,true),(8,true),(9,true),(10,true),(11,true),(12,true),(13,true),(14,true),(15,true),(16,true),(17,true),(18,true),(19,true),(20,true),(21,true),(22,true)] (by kernel_rfl) (by kernel_rfl) rfl (by kernel_rfl) (by kernel_rfl) (Below.drew (Below.refl _ _)) ?_
    simp only[pick,List.getD_cons_zero,List.getD_cons_succ]
    repeat
     first
     | (refine lin_free (v:= ?_) (by rfl) ?_ ?_
        rotate_left
        ·intro w' hSw
         obtain⟨f0,f1,f2,f3,f4,f5,f6,f7,f8,f9,c0,c1,c2,c3,c4,c5,c6,c7,c8,c9,c10⟩:=HFc.out w' hSw
         clear hSw
         go_simp
         first | done | with_reducible rfl
        simp only[Act.put,List.setIfInBounds_toArray,List.set_cons_zero,List.set_cons_succ])
     | (refine lin_skip (by rfl) ?_
        simp only[Act.put,List.setIfInBounds_toArray,List.set_cons_zero,List.set_cons_succ])
    refine lin_bound (fun K hK=> ?_)
    go_simp
    refine(okinds_any x.kind _).mono ?_
    rintro e v1 ⟨⟨kv,rfl,hkv⟩,hK1⟩
    have HSt:Hd (Below (w.alloc (.cells #[.string x.name, .string x.version, .bool true, .int .i64 x.bind, .int .i64 x.vis, .int .i64 x.kind, .int .i64 x.sec, .int .i64 x.at_, .int .i64 x.size, .int .i64 x.align] 55)).heap.size (w.alloc (.cells #[.string x.name, .string x.version, .bool true, .int .i64 x.bind, .int .i64 x.vis, .int .i64 x.kind, .int .i64 x.sec, .int .i64 x.at_, .int .i64 x.size, .int .i64 x.align] 55)) v1):=⟨(Below.drew (Below.refl _ _)).trans (hK1.mono (by simp))⟩
    have HKv:=Hd.mk hkv
    clear hK1 hkv
    refine hK.out _ _ HSt.out ?_
    clear hK K
    try simp only[Act.put,List.setIfInBounds_toArray,List.set_cons_zero,List.set_cons_succ]
    refine lin_bound (fun K hK=> ?_)
    go_simp
    refine(HI.out _ ((below_alloc w _).trans (HSt.out.mono (by simp))) _ HKv.out).mono ?_
    rintro e v2 ⟨rfl,hK2⟩
    have HSt2:Hd (Below (w.alloc (.cells #[.string x.name, .string x.version, .bool true, .int .i64 x.bind, .int .i64 x.vis, .int .i64 x.kind, .int .i64 x.sec, .int .i64 x.at_, .int .i64 x.size, .int .i64 x.align] 55)).heap.size (w.alloc (.cells #[.string x.name, .string x.version, .bool true, .int .i64 x.bind, .int .i64 x.vis, .int .i64 x.kind, .int .i64 x.sec, .int .i64 x.at_, .int .i64 x.size, .int .i64 x.align] 55)) v2):=⟨HSt.out.trans (hK2.mono HSt.out.size)⟩
    clear hK2
    refine hK.out _ _ HSt2.out ?_
    clear hK K
    try simp only[Act.put,List.setIfInBounds_toArray,List.set_cons_zero,List.set_cons_succ]
    repeat
     first
     | (refine lin_free (v:= ?_) (by rfl) ?_ ?_
        rotate_left
        ·intro w' hSw
         obtain⟨f0,f1,f2,f3,f4,f5,f6,f7,f8,f9,c0,c1,c2,c3,c4,c5,c6,c7,c8,c9,c10⟩:=HFc.out w' hSw
         clear hSw
         go_simp
         first | done | with_reducible rfl
        simp only[Act.put,List.setIfInBounds_toArray,List.set_cons_zero,List.set_cons_succ])
     | (refine lin_skip (by rfl) ?_
        simp only[Act.put,List.setIfInBounds_toArray,List.set_cons_zero,List.set_cons_succ])
    refine NoPanic.normal ?_
    go_wp2
    go_meet
    exact⟨by simp,HSt2⟩
  case rest=>
   obtain⟨rfl,HBw⟩:=hcut
   obtain⟨B8,h8⟩:∃B8,(!I || nal || (mB&&vE))=B8:=⟨_,rfl⟩
   rw[h8]
   have H8:=Hd.mk h8
   clear h8
   rcases B8 with _ | _
   rotate_left
   ·go_wp2
    go_ret
    exact⟨ret_b (by rw[HSp.out];have:=H8.out;revert this;cases I<;>cases nal<;>cases mB<;>cases vE<;>simp),(below_alloc w _).trans (HBw.out.mono (by simp))⟩
   have hi:I=true:=by have:=H8.out;revert this;cases I<;>simp
   obtain⟨k,hk1,hsec,hzs⟩:∃k:Nat,k<o.secs.length∧x.sec=(k:Int)∧∀(h:k<o.secs.length),o.secs[k].size=Z:=by
    have hin:0≤x.sec∧x.sec< (o.secs.length:Int):=Classical.byContradiction fun hn=>by
     have:=HII.out;rw[is_out hn,hi] at this;cases this
    obtain⟨k,hsec⟩:=Int.eq_ofNat_of_zero_le hin.1
    refine⟨k,by omega,hsec,fun h=> ?_⟩
    have:=HZ.out
    rw[hsec,sizeAt_in h] at this
    exact this
   have hS0:=HA.out.secs
   obtain⟨p,c,hx1⟩:=hS0.slice
   obtain⟨g,of,cs,hp,hg,hcl,hE,hcc⟩:=hS0.at hx1 (j:=k) hk1
   have hE':cs=(o.secs[k]).cells:=hE
   have z3:wc.cell? ⟨g,of+k*6+3,none⟩=some (.int .i64 Z):=by
    rw[((((below_alloc w _).trans (HBw.out.mono (by simp))).cell (p:=⟨g,of+k*6+3,none⟩) hg))]
    refine hcc 3 _ ?_
    rw[hE',←hzs hk1];rfl
   obtain⟨f0,f1,f2,f3,f4,f5,f6,f7,f8,f9,c0,c1,c2,c3,c4,c5,c6,c7,c8,c9,c10⟩:=HFc.out _ HBw.out
   rw[hsec] at f6
   rw[hx1,hp] at c1
   obtain⟨N,hN⟩:∃N,o.secs.length=N:=⟨_,rfl⟩
   rw[hN] at c1
   have i1:(0:Int)≤(k:Int):=by omega
   have i2:(k:Int)< (N:Int):=by omega
   have HEnd:Hd (Below w.heap.size w wc):=⟨(below_alloc w _).trans (HBw.out.mono (by simp))⟩
   clear hS0 hcl hE hcc hE' hzs hp hx1 hg hN hk1 hsec hi c0 c2 c3 c4 c5 c6 c7 c8 c9 c10 HX
   go_upto_region 11 with(fail)
   go_cut [6] from 148 (fun s6 wx=>s6= .bool (nb || (vE&&vs))∧wx=wc)
   case first=>
    rcases nb with _ | _
    rotate_left
    ·go_wp2
     go_meet
     exact⟨by simp,rfl⟩
    rcases vE with _ | _
    ·go_wp2
     go_meet
     exact⟨by simp,rfl⟩
    ·go_wp2
     go_meet
     exact⟨by simp,rfl⟩
   case rest=>
    obtain⟨rfl,rfl⟩:=hcut
    obtain⟨B6,h6⟩:∃B6,(nb || (vE&&vs))=B6:=⟨_,rfl⟩
    rw[h6]
    have HSq:Hd (symB o x=(B6&&atZ&&szZ&&(nk || md))):=⟨by
     rw[HSp.out]
     have:=H8.out
     revert this h6
     cases I<;>cases nal<;>cases mB<;>cases vE<;>cases nb<;>cases vs<;>cases B6<;>simp⟩
    clear h6 HSp H8
    rcases B6 with _ | _
    ·go_wp2
     go_ret
     exact⟨ret_b (by rw[HSq.out]<;>simp),HEnd.out⟩
    rcases atZ with _ | _
    ·go_wp2
     go_ret
     exact⟨ret_b (by rw[HSq.out]<;>simp),HEnd.out⟩
    rcases szZ with _ | _
    ·go_wp2
     go_ret
     exact⟨ret_b (by rw[HSq.out]<;>simp),HEnd.out⟩
    rcases nk with _ | _
    ·go_wp2
     go_ret
     exact⟨ret_b (by rw[HSq.out]<;>simp),HEnd.out⟩
    ·go_wp2
     go_ret
     exact⟨ret_b (by rw[HSq.out]<;>simp),HEnd.out⟩
end Go.Proofs.YtfaepbjnpakghaaGreatDoor.W
