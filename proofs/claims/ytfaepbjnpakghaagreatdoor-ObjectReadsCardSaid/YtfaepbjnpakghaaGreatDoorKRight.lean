import Derived.Test.YtfaepbjnpakghaaGreatDoorShelf
import Derived.Lib.SlBytesConst
import Derived.Test.YtfaepbjnpakghaaGreatDoorKac
/- The walks of isa's field, imm, Right. -/
namespace Go.Proofs.YtfaepbjnpakghaaGreatDoor.W
open Go.RowKit
set_option linter.unusedVariables false
def i64R (x:Int):Prop:= -9223372036854775808≤x∧x≤9223372036854775807
theorem field9_0 (b:Nat) (w:World):Calls Tryz.prog 259 #[.pointer (some ⟨b,0,none⟩), .int .u8 65] w fun e w'=>e= .returned (.pointer (some ⟨b,1,none⟩))∧w=w':=by
 go_enter Tryz.func259,Tryz.ntmps259
 go_wp2
 go_ret
 exact⟨rfl,rfl⟩
theorem field9_1 (b:Nat) (w:World):Calls Tryz.prog 259 #[.pointer (some ⟨b,0,none⟩), .int .u8 66] w fun e w'=>e= .returned (.pointer (some ⟨b,2,none⟩))∧w=w':=by
 go_enter Tryz.func259,Tryz.ntmps259
 go_wp2
 go_ret
 exact⟨rfl,rfl⟩
theorem field9_2 (b:Nat) (w:World):Calls Tryz.prog 259 #[.pointer (some ⟨b,0,none⟩), .int .u8 67] w fun e w'=>e= .returned (.pointer (some ⟨b,3,none⟩))∧w=w':=by
 go_enter Tryz.func259,Tryz.ntmps259
 go_wp2
 go_ret
 exact⟨rfl,rfl⟩
theorem field9_3 (b:Nat) (w:World):Calls Tryz.prog 259 #[.pointer (some ⟨b,0,none⟩), .int .u8 73] w fun e w'=>e= .returned (.pointer (some ⟨b,4,none⟩))∧w=w':=by
 go_enter Tryz.func259,Tryz.ntmps259
 go_wp2
 go_ret
 exact⟨rfl,rfl⟩
def immB (op m:Int):Bool:=
 if op=19∨op=20∨op=21∨op=24∨op=25 then decide (m%8=0)&&fitsB m 32 true else if op=22 then decide (m%8=0)&&(decide (-512≤m)&&decide (m≤504))
 else if op=30 then decide (0≤m)&&decide (m<8) else fitsB m 32 true
theorem tmod8 (d:Int):d.tmod 8=0↔d%8=0:=by
 have h1:=Int.dvd_iff_emod_eq_zero (a:=8) (b:=d)
 have h2:=Int.dvd_iff_tmod_eq_zero (a:=8) (b:=d)
 exact h2.symm.trans h1
theorem imm_any (op a b c m:Int) (w:World) (hm:i64R m):Calls Tryz.prog 258 #[.agg #[.int .i64 op, .int .i64 a, .int .i64 b, .int .i64 c, .int .i64 m]] w fun e w'=>e= .returned (.bool (immB op m))∧Below w.heap.size w w':=by
 have HF:∀w,Hd (Calls Tryz.prog 271 #[.int .i64 m, .int .i64 32, .bool true] w fun e w'=>e= .returned (.bool (fitsB m 32 true))∧w=w'):=fun w=>⟨fits_any m 32 true w hm.1 hm.2⟩
 obtain⟨f,hf⟩:∃f,fitsB m 32 true=f:=⟨_,rfl⟩
 rw[hf] at HF
 obtain⟨q,hq⟩:∃q,decide (m%8=0)=q:=⟨_,rfl⟩
 have q1:(m.tmod 8==0)=q:=by rw[←hq,Bool.eq_iff_iff];simp[tmod8]
 have cases5:(op=19∨op=20∨op=21∨op=24∨op=25)∨op=22∨op=30∨(¬(op=19∨op=20∨op=21∨op=24∨op=25)∧¬op=22∧¬op=30):=by omega
 rcases cases5 with h | h | h | ⟨h1,h2,h3⟩
 ·have e:Hd (immB op m=(q&&f)):=⟨by unfold immB;rw[if_pos h,hq,hf]⟩
  rw[e.out]
  clear hq hf
  rcases h with rfl | rfl | rfl | rfl | rfl
  all_goals
   rcases q with _ | _
   ·go_enter Tryz.func258,Tryz.ntmps258
    go_wp2
    go_ret
    exact⟨rfl,by go_grown⟩
   ·go_enter Tryz.func258,Tryz.ntmps258
    go_wp2_with fail
    refine(HF _).out.mono ?_;rintro e w1 ⟨rfl,rfl⟩
    go_wp2
    go_ret
    exact⟨ret_b (by simp),by go_grown⟩
 ·subst h
  have e:Hd (immB 22 m=(q&&(decide (-512≤m)&&decide (m≤504)))):=⟨by rw[←hq];rfl⟩
  rw[e.out]
  clear hq hf HF
  rcases q with _ | _
  ·go_enter Tryz.func258,Tryz.ntmps258
   go_wp2
   go_ret
   exact⟨rfl,by go_grown⟩
  ·by_cases c1: -512≤m
   ·by_cases c2:m≤504
    ·have e2:Hd ((true&&(decide (-512≤m)&&decide (m≤504)))=true):=⟨by simp[c1,c2]⟩
     rw[e2.out]
     go_enter Tryz.func258,Tryz.ntmps258
     go_wp2
     go_ret
     exact⟨rfl,by go_grown⟩
    ·have e2:Hd ((true&&(decide (-512≤m)&&decide (m≤504)))=false):=⟨by simp[c1];omega⟩
     rw[e2.out]
     have c3:(m≤504)=False:=eq_false c2
     clear c2
     go_enter Tryz.func258,Tryz.ntmps258
     go_wp2
     go_ret
     exact⟨rfl,by go_grown⟩
   ·have e2:Hd ((true&&(decide (-512≤m)&&decide (m≤504)))=false):=⟨by simp[c1]⟩
    rw[e2.out]
    go_enter Tryz.func258,Tryz.ntmps258
    go_wp2
    go_ret
    exact⟨rfl,by go_grown⟩
 ·subst h
  have e:Hd (immB 30 m=(decide (0≤m)&&decide (m<8))):=⟨rfl⟩
  rw[e.out]
  clear hq hf HF
  by_cases c1:0≤m
  ·by_cases c2:m<8
   ·have e2:Hd ((decide (0≤m)&&decide (m<8))=true):=⟨by simp[c1,c2]⟩
    rw[e2.out]
    go_enter Tryz.func258,Tryz.ntmps258
    go_wp2
    go_ret
    exact⟨rfl,by go_grown⟩
   ·have e2:Hd ((decide (0≤m)&&decide (m<8))=false):=⟨by simp[c1];omega⟩
    rw[e2.out]
    go_enter Tryz.func258,Tryz.ntmps258
    go_wp2
    go_ret
    exact⟨rfl,by go_grown⟩
  ·have e2:Hd ((decide (0≤m)&&decide (m<8))=false):=⟨by simp[c1]⟩
   rw[e2.out]
   go_enter Tryz.func258,Tryz.ntmps258
   go_wp2
   go_ret
   exact⟨rfl,by go_grown⟩
 ·have e:Hd (immB op m=f):=⟨by unfold immB;rw[if_neg h1,if_neg h2,if_neg h3,hf]⟩
  rw[e.out]
  have z1:(op==19)=false:=by simp;omega
  have z2:(op==20)=false:=by simp;omega
  have z3:(op==21)=false:=by simp;omega
  have z4:(op==24)=false:=by simp;omega
  have z5:(op==25)=false:=by simp;omega
  have z6:(op==22)=false:=by simp;omega
  have z7:(op==30)=false:=by simp;omega
  clear hq hf h1 h2 h3
  go_enter Tryz.func258,Tryz.ntmps258
  go_wp2_with fail
  refine(HF _).out.mono ?_;rintro e w1 ⟨rfl,rfl⟩
  go_wp2
  go_ret
  exact⟨rfl,by go_grown⟩
def usedI (op:Nat) (ch:UInt8):Int:=Lib.indexByte (opersL op) ch
def okF (op:Nat) (ch:UInt8) (n:Int):Bool:=(decide (0≤usedI op ch) || decide (n=0))&&(decide (ch=73) || (decide (0≤n)&&decide (n≤15)))
def rightB (op a b c m:Int):Bool:=decide (1≤op∧op≤30)&&(immB op m&&(okF op.toNat 65 a&&(okF op.toNat 66 b&&(okF op.toNat 67 c&&okF op.toNat 73 m))))
theorem marked_cell (w:World) (C:Array Value) (e:TypeId) (fz:Nat × Nat) {v:Value} (j:Nat) (h:C[j]? =some v):(w.alloc (.cells C e fz)).cell? ⟨w.heap.size,j,none⟩=some v:=by
 have:(w.alloc (.cells C e fz)).heap[w.heap.size]? =some (.cells C e fz):=by
  show(w.heap.push _)[w.heap.size]? =_
  simp
 simp only[World.cell?,this]
 simpa using h
def okPre (n:Nat) (a b c m:Int):Nat→Bool
 | 0=>true
 | 1=>okF n 65 a
 | 2=>okF n 65 a&&okF n 66 b
 | 3=>okF n 65 a&&(okF n 66 b&&okF n 67 c)
 | _=>okF n 65 a&&(okF n 66 b&&(okF n 67 c&&okF n 73 m))
theorem idx_0 (n:Nat) (S:ByteArray) (hS:S.data.toList=opersL n) (w:World):Calls Tryz.prog 260 #[.string S, .int .u8 65] w fun e w'=>e= .returned (.int .i64 (usedI n 65))∧w=w':=
 (Tryz.strings_IndexByte S 65 w).mono fun e w' ⟨h1,h2⟩=>⟨by rw[h1,hS];rfl,h2.symm⟩
theorem idx_1 (n:Nat) (S:ByteArray) (hS:S.data.toList=opersL n) (w:World):Calls Tryz.prog 260 #[.string S, .int .u8 66] w fun e w'=>e= .returned (.int .i64 (usedI n 66))∧w=w':=
 (Tryz.strings_IndexByte S 66 w).mono fun e w' ⟨h1,h2⟩=>⟨by rw[h1,hS];rfl,h2.symm⟩
theorem idx_2 (n:Nat) (S:ByteArray) (hS:S.data.toList=opersL n) (w:World):Calls Tryz.prog 260 #[.string S, .int .u8 67] w fun e w'=>e= .returned (.int .i64 (usedI n 67))∧w=w':=
 (Tryz.strings_IndexByte S 67 w).mono fun e w' ⟨h1,h2⟩=>⟨by rw[h1,hS];rfl,h2.symm⟩
theorem idx_3 (n:Nat) (S:ByteArray) (hS:S.data.toList=opersL n) (w:World):Calls Tryz.prog 260 #[.string S, .int .u8 73] w fun e w'=>e= .returned (.int .i64 (usedI n 73))∧w=w':=
 (Tryz.strings_IndexByte S 73 w).mono fun e w' ⟨h1,h2⟩=>⟨by rw[h1,hS];rfl,h2.symm⟩
set_option maxHeartbeats 4000000 in
set_option maxRecDepth 100000 in
theorem right_any (op a b c m:Int) (w:World) (hT:FormsAt w) (hm:i64R m):Calls Tryz.prog 227 #[.agg #[.int .i64 op, .int .i64 a, .int .i64 b, .int .i64 c, .int .i64 m]] w fun e w'=>e= .returned (.bool (rightB op a b c m))∧Below w.heap.size w w':=by
 by_cases hop:1≤op∧op≤30
 ·obtain⟨n,rfl⟩:∃n:Nat,op=(n:Int):=⟨op.toNat,by omega⟩
  have hn:n<31:=by omega
  have o1:¬(n:Int)≤0:=by omega
  have o2:¬(31:Int)≤(n:Int):=by omega
  have i0:(0:Int)≤(n:Int):=by omega
  have i1:(n:Int)<31:=by omega
  have hbl:=Blk.new w 176 [.int .i64 (n:Int), .int .i64 a, .int .i64 b, .int .i64 c, .int .i64 m]
  obtain⟨wb,hwb⟩:∃wb,w.alloc (.cells #[.int .i64 (n:Int), .int .i64 a, .int .i64 b, .int .i64 c, .int .i64 m] 176)=wb:=⟨_,rfl⟩
  have HB:Hd (Blk wb w.heap.size 176 [.int .i64 (n:Int), .int .i64 a, .int .i64 b, .int .i64 c, .int .i64 m]):=⟨hwb▸hbl⟩
  have HBB:Hd (Below w.heap.size w wb):=⟨hwb▸(Below.refl _ _).alloc (Nat.le_refl _) _⟩
  have HI:=Hd.mk (imm_any (n:Int) a b c m wb hm)
  obtain⟨q,hq⟩:∃q,immB (n:Int) m=q:=⟨_,rfl⟩
  rw[hq] at HI
  obtain⟨hx,hhx⟩:∃hx,w.heap.size=hx:=⟨_,rfl⟩
  have HX:=Hd.mk hhx
  have HT:=Hd.mk hT
  have HR:Hd (rightB (n:Int) a b c m=(q&&(okF n 65 a&&(okF n 66 b&&(okF n 67 c&&okF n 73 m))))):=⟨by unfold rightB;rw[decide_eq_true hop,hq,Int.toNat_natCast];rfl⟩
  have b0:=HB.out.at (j:=0) rfl
  have b1:=HB.out.at (j:=1) rfl
  have b2:=HB.out.at (j:=2) rfl
  have b3:=HB.out.at (j:=3) rfl
  have b4:=HB.out.at (j:=4) rfl
  rw[hhx] at b0 b1 b2 b3 b4
  have HNN:=Hd.mk hn
  clear hT hm hop hbl hq hn
  rcases q with _ | _
  ·have e:Hd (rightB (n:Int) a b c m=false):=⟨by rw[HR.out];rfl⟩
   rw[e.out]
   go_enter Tryz.func227,Tryz.ntmps227
   go_wp2_with fail
   refine HI.out.mono ?_;rintro e w1 ⟨rfl,k1⟩
   have K1:=Hd.mk (Below.chain HBB.out k1);clear k1
   go_wp2
   go_ret
   exact⟨rfl,HX.out▸K1.out⟩
  ·have HR2:Hd (rightB (n:Int) a b c m=(okF n 65 a&&(okF n 66 b&&(okF n 67 c&&okF n 73 m)))):=⟨by rw[HR.out];rfl⟩
   go_enter Tryz.func227,Tryz.ntmps227
   go_wp2_with fail
   refine HI.out.mono ?_;rintro e w1 ⟨rfl,k1⟩
   have K1:=Hd.mk (Below.chain HBB.out k1)
   have HB1:=Hd.mk (HB.out.below k1 HB.out.lt)
   clear k1 b0 b1 b2 b3 b4
   have kc:=fun(w:World) (C:Array Value) (n c:Nat)=>Lib.run_convert_bytes_const (P:=Tryz.prog) w 142 5 C n c Tryz.underlying142 Tryz.underlying5
   go_wp2_with fail
   have kk:∀(j:Nat) (v:Value),w1.cell? ⟨hx,j,none⟩=some v→(w1.alloc (.cells #[.int .u8 65, .int .u8 66, .int .u8 67, .int .u8 73] 5 (4,5))).cell? ⟨hx,j,none⟩=some v:=fun j v h=>Lib.cell?_alloc_marked _ h
   have hc1:∀(j:Nat) (v:Value),[Value.int .i64 (n:Int), .int .i64 a, .int .i64 b, .int .i64 c, .int .i64 m][j]? =some v→w1.cell? ⟨hx,j,none⟩=some v:=fun j v h=>by rw[←HX.out];exact HB1.out.at h
   have b0:=kk 0 _ (hc1 0 _ rfl)
   have b1:=kk 1 _ (hc1 1 _ rfl)
   have b2:=kk 2 _ (hc1 2 _ rfl)
   have b3:=kk 3 _ (hc1 3 _ rfl)
   have b4:=kk 4 _ (hc1 4 _ rfl)
   have f1:(w1.alloc (.cells #[.int .u8 65, .int .u8 66, .int .u8 67, .int .u8 73] 5 (4,5))).cell? ⟨2,n*4+1,none⟩=some (.string ⟨(opersL n).toArray⟩):=Lib.cell?_alloc_marked _ ((HT.out.below K1.out).oper n HNN.out)
   obtain⟨S,hS⟩:∃S:ByteArray,(⟨(opersL n).toArray⟩:ByteArray)=S:=⟨_,rfl⟩
   have HS:Hd (S.data.toList=opersL n):=⟨by rw[←hS]⟩
   rw[hS] at f1
   have KE:Hd (Below hx w (w1.alloc (.cells #[.int .u8 65, .int .u8 66, .int .u8 67, .int .u8 73] 5 (4,5)))):=⟨HX.out▸K1.out.alloc K1.out.size _⟩
   have KE2:Hd (Below w.heap.size w (w1.alloc (.cells #[.int .u8 65, .int .u8 66, .int .u8 67, .int .u8 73] 5 (4,5)))):=⟨K1.out.alloc K1.out.size _⟩
   have d0:(w1.alloc (.cells #[.int .u8 65, .int .u8 66, .int .u8 67, .int .u8 73] 5 (4,5))).cell? ⟨w1.heap.size,0,none⟩=some (.int .u8 65):=marked_cell _ _ _ _ _ rfl
   have d1:(w1.alloc (.cells #[.int .u8 65, .int .u8 66, .int .u8 67, .int .u8 73] 5 (4,5))).cell? ⟨w1.heap.size,1,none⟩=some (.int .u8 66):=marked_cell _ _ _ _ _ rfl
   have d2:(w1.alloc (.cells #[.int .u8 65, .int .u8 66, .int .u8 67, .int .u8 73] 5 (4,5))).cell? ⟨w1.heap.size,2,none⟩=some (.int .u8 67):=marked_cell _ _ _ _ _ rfl
   have d3:(w1.alloc (.cells #[.int .u8 65, .int .u8 66, .int .u8 67, .int .u8 73] 5 (4,5))).cell? ⟨w1.heap.size,3,none⟩=some (.int .u8 73):=marked_cell _ _ _ _ _ rfl
   clear kk hc1 kc hS
   go_loop [23] (fun i=>∃k:Nat,k≤4∧i= .int .i64 k∧okPre n a b c m k=true) (fun i=>4-(intOf i).toNat)
   case atStart=>exact⟨0,by decide,rfl,rfl⟩
   case round=>
    obtain⟨k,hk,rfl,hp⟩:=hrel
    have HP:=Hd.mk hp;clear hp
    rcases(by omega:k=0∨k=1∨k=2∨k=3∨k=4) with rfl | rfl | rfl | rfl | rfl
    ·obtain⟨z,hz⟩:∃z,usedI n 65=z:=⟨_,rfl⟩
     have HIX:=fun w=>Hd.mk (idx_0 n S HS.out w)
     have HO:Hd (okF n 65 a=((decide (0≤z) || decide (a=0))&&(decide ((65:UInt8)=73) || (decide (0≤a)&&decide (a≤15))))):=⟨by rw[←hz];rfl⟩
     rw[hz] at HIX
     have HBad:Hd (okF n 65 a=false→rightB (n:Int) a b c m=false):=⟨fun h=>by rw[HR2.out,h];simp⟩
     have HGood:Hd (okF n 65 a=true→okPre n a b c m 1=true):=⟨fun h=>h⟩
     clear hz hk
     by_cases u:0≤z
     ·by_cases r1:a<0
      ·have r2:¬0≤a:=by omega
       have e:Hd (rightB (n:Int) a b c m=false):=⟨HBad.out (by rw[HO.out];simp[r2];first | done | decide | omega)⟩
       go_wp2_with fail
       refine(field9_0 hx _).mono ?_;rintro e wq ⟨rfl,rfl⟩
       go_wp2_with fail
       refine(HIX _).out.mono ?_;rintro e wq ⟨rfl,rfl⟩
       go_wp2
       go_ret
       exact⟨ret_b e.out.symm,by first | exact KE.out | exact KE2.out⟩
      ·have r1':0≤a:=by omega
       by_cases r2:15<a
       ·have r3:¬a≤15:=by omega
        have e:Hd (rightB (n:Int) a b c m=false):=⟨HBad.out (by rw[HO.out];simp[r3];first | done | decide | omega)⟩
        go_wp2_with fail
        refine(field9_0 hx _).mono ?_;rintro e wq ⟨rfl,rfl⟩
        go_wp2_with fail
        refine(HIX _).out.mono ?_;rintro e wq ⟨rfl,rfl⟩
        go_wp2
        go_ret
        exact⟨ret_b e.out.symm,by first | exact KE.out | exact KE2.out⟩
       ·have r3:a≤15:=by omega
        have e:Hd (okPre n a b c m 1=true):=⟨HGood.out (by rw[HO.out];simp[u,r1',r3])⟩
        go_wp2_with fail
        refine(field9_0 hx _).mono ?_;rintro e wq ⟨rfl,rfl⟩
        go_wp2_with fail
        refine(HIX _).out.mono ?_;rintro e wq ⟨rfl,rfl⟩
        go_wp2
        exact⟨⟨1,by decide,by go_num,e.out⟩,by simp[intOf]⟩
     ·by_cases f0:a=0
      ·have g1:(a !=0)=false:=by simp[f0]
       have g2:¬a<0:=by omega
       have g3:¬15<a:=by omega
       have HF0:=Hd.mk f0;clear f0
       have e:Hd (okPre n a b c m 1=true):=⟨HGood.out (by rw[HO.out];simp[HF0.out])⟩
       go_wp2_with fail
       refine(field9_0 hx _).mono ?_;rintro e wq ⟨rfl,rfl⟩
       go_wp2_with fail
       refine(HIX _).out.mono ?_;rintro e wq ⟨rfl,rfl⟩
       go_wp2
       exact⟨⟨1,by decide,by go_num,e.out⟩,by simp[intOf]⟩
      ·have g1:(a !=0)=true:=by simp[f0]
       have HF0:=Hd.mk f0;clear f0
       have e:Hd (rightB (n:Int) a b c m=false):=⟨HBad.out (by rw[HO.out];simp[u,HF0.out])⟩
       go_wp2_with fail
       refine(field9_0 hx _).mono ?_;rintro e wq ⟨rfl,rfl⟩
       go_wp2_with fail
       refine(HIX _).out.mono ?_;rintro e wq ⟨rfl,rfl⟩
       go_wp2
       go_ret
       exact⟨ret_b e.out.symm,by first | exact KE.out | exact KE2.out⟩
    ·obtain⟨z,hz⟩:∃z,usedI n 66=z:=⟨_,rfl⟩
     have HIX:=fun w=>Hd.mk (idx_1 n S HS.out w)
     have HO:Hd (okF n 66 b=((decide (0≤z) || decide (b=0))&&(decide ((66:UInt8)=73) || (decide (0≤b)&&decide (b≤15))))):=⟨by rw[←hz];rfl⟩
     rw[hz] at HIX
     have HBad:Hd (okF n 66 b=false→rightB (n:Int) a b c m=false):=⟨fun h=>by rw[HR2.out,h];simp⟩
     have HGood:Hd (okF n 66 b=true→okPre n a b c m 2=true):=⟨fun h=>by show(okF n 65 a&&okF n 66 b)=true;rw[h,show okF n 65 a=true from HP.out];rfl⟩
     clear hz hk
     by_cases u:0≤z
     ·by_cases r1:b<0
      ·have r2:¬0≤b:=by omega
       have e:Hd (rightB (n:Int) a b c m=false):=⟨HBad.out (by rw[HO.out];simp[r2];first | done | decide | omega)⟩
       go_wp2_with fail
       refine(field9_1 hx _).mono ?_;rintro e wq ⟨rfl,rfl⟩
       go_wp2_with fail
       refine(HIX _).out.mono ?_;rintro e wq ⟨rfl,rfl⟩
       go_wp2
       go_ret
       exact⟨ret_b e.out.symm,by first | exact KE.out | exact KE2.out⟩
      ·have r1':0≤b:=by omega
       by_cases r2:15<b
       ·have r3:¬b≤15:=by omega
        have e:Hd (rightB (n:Int) a b c m=false):=⟨HBad.out (by rw[HO.out];simp[r3];first | done | decide | omega)⟩
        go_wp2_with fail
        refine(field9_1 hx _).mono ?_;rintro e wq ⟨rfl,rfl⟩
        go_wp2_with fail
        refine(HIX _).out.mono ?_;rintro e wq ⟨rfl,rfl⟩
        go_wp2
        go_ret
        exact⟨ret_b e.out.symm,by first | exact KE.out | exact KE2.out⟩
       ·have r3:b≤15:=by omega
        have e:Hd (okPre n a b c m 2=true):=⟨HGood.out (by rw[HO.out];simp[u,r1',r3])⟩
        go_wp2_with fail
        refine(field9_1 hx _).mono ?_;rintro e wq ⟨rfl,rfl⟩
        go_wp2_with fail
        refine(HIX _).out.mono ?_;rintro e wq ⟨rfl,rfl⟩
        go_wp2
        exact⟨⟨2,by decide,by go_num,e.out⟩,by simp[intOf]⟩
     ·by_cases f0:b=0
      ·have g1:(b !=0)=false:=by simp[f0]
       have g2:¬b<0:=by omega
       have g3:¬15<b:=by omega
       have HF0:=Hd.mk f0;clear f0
       have e:Hd (okPre n a b c m 2=true):=⟨HGood.out (by rw[HO.out];simp[HF0.out])⟩
       go_wp2_with fail
       refine(field9_1 hx _).mono ?_;rintro e wq ⟨rfl,rfl⟩
       go_wp2_with fail
       refine(HIX _).out.mono ?_;rintro e wq ⟨rfl,rfl⟩
       go_wp2
       exact⟨⟨2,by decide,by go_num,e.out⟩,by simp[intOf]⟩
      ·have g1:(b !=0)=true:=by simp[f0]
       have HF0:=Hd.mk f0;clear f0
       have e:Hd (rightB (n:Int) a b c m=false):=⟨HBad.out (by rw[HO.out];simp[u,HF0.out])⟩
       go_wp2_with fail
       refine(field9_1 hx _).mono ?_;rintro e wq ⟨rfl,rfl⟩
       go_wp2_with fail
       refine(HIX _).out.mono ?_;rintro e wq ⟨rfl,rfl⟩
       go_wp2
       go_ret
       exact⟨ret_b e.out.symm,by first | exact KE.out | exact KE2.out⟩
    ·obtain⟨z,hz⟩:∃z,usedI n 67=z:=⟨_,rfl⟩
     have HIX:=fun w=>Hd.mk (idx_2 n S HS.out w)
     have HO:Hd (okF n 67 c=((decide (0≤z) || decide (c=0))&&(decide ((67:UInt8)=73) || (decide (0≤c)&&decide (c≤15))))):=⟨by rw[←hz];rfl⟩
     rw[hz] at HIX
     have HBad:Hd (okF n 67 c=false→rightB (n:Int) a b c m=false):=⟨fun h=>by rw[HR2.out,h];simp⟩
     have HGood:Hd (okF n 67 c=true→okPre n a b c m 3=true):=⟨fun h=>by have hq:=HP.out;simp only[okPre] at hq⊢;simp only[Bool.and_eq_true] at hq⊢;exact⟨hq.1,hq.2,h⟩⟩
     clear hz hk
     by_cases u:0≤z
     ·by_cases r1:c<0
      ·have r2:¬0≤c:=by omega
       have e:Hd (rightB (n:Int) a b c m=false):=⟨HBad.out (by rw[HO.out];simp[r2];first | done | decide | omega)⟩
       go_wp2_with fail
       refine(field9_2 hx _).mono ?_;rintro e wq ⟨rfl,rfl⟩
       go_wp2_with fail
       refine(HIX _).out.mono ?_;rintro e wq ⟨rfl,rfl⟩
       go_wp2
       go_ret
       exact⟨ret_b e.out.symm,by first | exact KE.out | exact KE2.out⟩
      ·have r1':0≤c:=by omega
       by_cases r2:15<c
       ·have r3:¬c≤15:=by omega
        have e:Hd (rightB (n:Int) a b c m=false):=⟨HBad.out (by rw[HO.out];simp[r3];first | done | decide | omega)⟩
        go_wp2_with fail
        refine(field9_2 hx _).mono ?_;rintro e wq ⟨rfl,rfl⟩
        go_wp2_with fail
        refine(HIX _).out.mono ?_;rintro e wq ⟨rfl,rfl⟩
        go_wp2
        go_ret
        exact⟨ret_b e.out.symm,by first | exact KE.out | exact KE2.out⟩
       ·have r3:c≤15:=by omega
        have e:Hd (okPre n a b c m 3=true):=⟨HGood.out (by rw[HO.out];simp[u,r1',r3])⟩
        go_wp2_with fail
        refine(field9_2 hx _).mono ?_;rintro e wq ⟨rfl,rfl⟩
        go_wp2_with fail
        refine(HIX _).out.mono ?_;rintro e wq ⟨rfl,rfl⟩
        go_wp2
        exact⟨⟨3,by decide,by go_num,e.out⟩,by simp[intOf]⟩
     ·by_cases f0:c=0
      ·have g1:(c !=0)=false:=by simp[f0]
       have g2:¬c<0:=by omega
       have g3:¬15<c:=by omega
       have HF0:=Hd.mk f0;clear f0
       have e:Hd (okPre n a b c m 3=true):=⟨HGood.out (by rw[HO.out];simp[HF0.out])⟩
       go_wp2_with fail
       refine(field9_2 hx _).mono ?_;rintro e wq ⟨rfl,rfl⟩
       go_wp2_with fail
       refine(HIX _).out.mono ?_;rintro e wq ⟨rfl,rfl⟩
       go_wp2
       exact⟨⟨3,by decide,by go_num,e.out⟩,by simp[intOf]⟩
      ·have g1:(c !=0)=true:=by simp[f0]
       have HF0:=Hd.mk f0;clear f0
       have e:Hd (rightB (n:Int) a b c m=false):=⟨HBad.out (by rw[HO.out];simp[u,HF0.out])⟩
       go_wp2_with fail
       refine(field9_2 hx _).mono ?_;rintro e wq ⟨rfl,rfl⟩
       go_wp2_with fail
       refine(HIX _).out.mono ?_;rintro e wq ⟨rfl,rfl⟩
       go_wp2
       go_ret
       exact⟨ret_b e.out.symm,by first | exact KE.out | exact KE2.out⟩
    ·obtain⟨z,hz⟩:∃z,usedI n 73=z:=⟨_,rfl⟩
     have HIX:=fun w=>Hd.mk (idx_3 n S HS.out w)
     have HO:Hd (okF n 73 m=((decide (0≤z) || decide (m=0))&&(decide ((73:UInt8)=73) || (decide (0≤m)&&decide (m≤15))))):=⟨by rw[←hz];rfl⟩
     rw[hz] at HIX
     have HBad:Hd (okF n 73 m=false→rightB (n:Int) a b c m=false):=⟨fun h=>by rw[HR2.out,h];simp⟩
     have HGood:Hd (okF n 73 m=true→okPre n a b c m 4=true):=⟨fun h=>by have hq:=HP.out;simp only[okPre] at hq⊢;simp only[Bool.and_eq_true] at hq⊢;exact⟨hq.1,hq.2.1,hq.2.2,h⟩⟩
     clear hz hk
     by_cases u:0≤z
     ·skip
      have e:Hd (okPre n a b c m 4=true):=⟨HGood.out (by rw[HO.out];simp[u])⟩
      go_wp2_with fail
      refine(field9_3 hx _).mono ?_;rintro e wq ⟨rfl,rfl⟩
      go_wp2_with fail
      refine(HIX _).out.mono ?_;rintro e wq ⟨rfl,rfl⟩
      go_wp2
      exact⟨⟨4,by decide,by go_num,e.out⟩,by simp[intOf]⟩
     ·by_cases f0:m=0
      ·have g1:(m !=0)=false:=by simp[f0]
       have g2:¬m<0:=by omega
       have g3:¬15<m:=by omega
       have HF0:=Hd.mk f0;clear f0
       have e:Hd (okPre n a b c m 4=true):=⟨HGood.out (by rw[HO.out];simp[HF0.out])⟩
       go_wp2_with fail
       refine(field9_3 hx _).mono ?_;rintro e wq ⟨rfl,rfl⟩
       go_wp2_with fail
       refine(HIX _).out.mono ?_;rintro e wq ⟨rfl,rfl⟩
       go_wp2
       exact⟨⟨4,by decide,by go_num,e.out⟩,by simp[intOf]⟩
      ·have g1:(m !=0)=true:=by simp[f0]
       have HF0:=Hd.mk f0;clear f0
       have e:Hd (rightB (n:Int) a b c m=false):=⟨HBad.out (by rw[HO.out];simp[u,HF0.out])⟩
       go_wp2_with fail
       refine(field9_3 hx _).mono ?_;rintro e wq ⟨rfl,rfl⟩
       go_wp2_with fail
       refine(HIX _).out.mono ?_;rintro e wq ⟨rfl,rfl⟩
       go_wp2
       go_ret
       exact⟨ret_b e.out.symm,by first | exact KE.out | exact KE2.out⟩
    ·have e:Hd (rightB (n:Int) a b c m=true):=⟨by rw[HR2.out];exact HP.out⟩
     go_wp2
     go_ret
     exact⟨ret_b e.out.symm,by first | exact KE.out | exact KE2.out⟩
 ·have e:Hd (rightB op a b c m=false):=⟨by unfold rightB;rw[decide_eq_false hop];rfl⟩
  rw[e.out]
  have h2:op≤0∨(¬op≤0∧31≤op):=by omega
  clear hop hT
  rcases h2 with h | ⟨h1,h2⟩
  ·go_enter Tryz.func227,Tryz.ntmps227
   go_wp2
   go_ret
   exact⟨rfl,by go_grown⟩
  ·go_enter Tryz.func227,Tryz.ntmps227
   go_wp2
   go_ret
   exact⟨rfl,by go_grown⟩
end Go.Proofs.YtfaepbjnpakghaaGreatDoor.W
