import Derived.Test.YtfaepbjnpakghaaGreatDoorCards
import Derived.Lib.LaidTab
import Derived.LaidSub
import Derived.LaidLaws
import Derived.Handy
import Derived.OrdersHeld
import Derived.Deep.RegionHeld3
import Derived.Lib.UnsafeStr
import Derived.Shelf.Strings.Search1
import Derived.Test.YtfaepbjnpakghaaGreatDoorShelf
import Derived.Deep.RegionHeld
import Derived.Deep.QuietTactic
import Derived.BigQuiet
import Derived.Test.YtfaepbjnpakghaaGreatDoorKab
import Derived.Test.YtfaepbjnpakghaaGreatDoorKaa
/- A package's variable of structs and arrays, cell by cell, out of what a row lists. No program. -/
namespace Go.Proofs.YtfaepbjnpakghaaGreatDoor.W
open Go.RowKit Go.ChangeShapes Go.WideShapes
set_option linter.unusedVariables false
section
variable {H:Type} {enc:TypeId × Value→H} {P:Program} {held:Bool}
def pieceB (rec:TypeId→DataW H→Option (List (TypeId × DataW H))) (P:Program) (tot:Nat):Nat→List (TypeId × Nat × DataW H)→Option (List (TypeId × DataW H))
 | _,[]=>some []
 | off,(t,o,d)::r=>if o=off∧o+P.cellsOf t≤tot then(rec t d).bind fun l=>if l.length=P.cellsOf t then(pieceB rec P tot (off+P.cellsOf t) r).map (l++ ·) else none else none
def structB (fs:List Field) (parts:List (DataW H)):List (TypeId × Nat × DataW H):=(fs.zip parts).map fun x=>(x.1.type,x.1.offset,x.2)
def arrayB (e:TypeId) (k:Nat) (parts:List (DataW H)):List (TypeId × Nat × DataW H):=parts.zipIdx.map fun x=>(e,x.2*k,x.1)
def leavesB (P:Program):Nat→TypeId→DataW H→Option (List (TypeId × DataW H))
 | 0,_,_=>none
 | n+1,t,d=>
   match P.underlying t,d with
   | some (.struct fs), .agg parts=>if fs.size=parts.length then pieceB (leavesB P n) P (P.cellsOf t) 0 (structB fs.toList parts) else none
   | some (.array m e), .agg parts=>if m=parts.length then pieceB (leavesB P n) P (P.cellsOf t) 0 (arrayB e (P.cellsOf e) parts) else none
   | some (.struct _),_ | some (.array _ _),_=>none
   | _,d=>if P.cellsOf t=1 then some [(t,d)] else none
def Leaf (enc:TypeId × Value→H) (P:Program) (held:Bool) (w:World) (c:Value) (x:TypeId × DataW H):Prop:=∃fuel ps,DataW.trod enc P w 0 (fun _=>true) held fuel x.1 [c]=some (x.2,ps)
theorem piece_ok {w:World} {rec:TypeId→DataW H→Option (List (TypeId × DataW H))}
 (hrec:∀t d l cs,(∃fuel ps,DataW.trod enc P w 0 (fun _=>true) held fuel t cs=some (d,ps))→rec t d=some l→cs.length=P.cellsOf t→∀(i:Nat) x,l[i]? =some x→∃c,cs[i]? =some c∧Leaf enc P held w c x) (cs:List Value):
 ∀(L:List (TypeId × Nat × DataW H)) (off:Nat) (ls:List (TypeId × DataW H)),pieceB rec P cs.length off L=some ls→
  (∀y∈L,∃fuel ps,DataW.trod enc P w 0 (fun _=>true) held fuel y.1 ((cs.drop y.2.1).take (P.cellsOf y.1))=some (y.2.2,ps))→
  ∀(i:Nat) x,ls[i]? =some x→∃c,cs[off+i]? =some c∧Leaf enc P held w c x
 | [],off,ls,h,_,i,x,hx=>by
   simp only[pieceB,Option.some.injEq] at h
   subst h
   simp at hx
 | (t,o,d)::r,off,ls,h,hL,i,x,hx=>by
   simp only[pieceB] at h
   split at h
   ·rename_i ho
    obtain⟨rfl,hb⟩:=ho
    obtain⟨l,hl,h⟩:=Option.bind_eq_some_iff.1 h
    split at h
    ·rename_i hlen
     obtain⟨ls',hls,rfl⟩:=Option.map_eq_some_iff.1 h
     have h2:=hL (t,o,d) (by simp)
     by_cases hi:i<l.length
     ·rw[List.getElem?_append_left hi] at hx
      obtain⟨c,hc,hf⟩:=hrec t d l _ h2 hl (by simp;omega) i x hx
      refine⟨c,?_,hf⟩
      simp only[List.getElem?_take,List.getElem?_drop] at hc
      rw[if_pos (by omega)] at hc
      exact hc
     ·rw[List.getElem?_append_right (by omega)] at hx
      obtain⟨c,hc,hf⟩:=piece_ok hrec cs r _ ls' hls (fun y hy=>hL y (by simp[hy])) (i-l.length) x hx
      refine⟨c,?_,hf⟩
      rw[←hc];congr 1;omega
    ·cases h
   ·cases h
theorem leaves_ok {w:World}:∀(n:Nat) (t:TypeId) (d:DataW H) (l:List (TypeId × DataW H)) (cs:List Value),(∃fuel ps,DataW.trod enc P w 0 (fun _=>true) held fuel t cs=some (d,ps))→leavesB P n t d=some l→cs.length=P.cellsOf t→
 ∀(i:Nat) x,l[i]? =some x→∃c,cs[i]? =some c∧Leaf enc P held w c x
 | 0,t,d,l,cs,_,h,_,i,x,hx=>by simp[leavesB] at h
 | n+1,t,d,l,cs,ht,h,hlen,i,x,hx=>by
   obtain⟨fuel,ps,ht⟩:=ht
   unfold leavesB at h
   split at h
   ·rename_i fs parts hu
    split at h
    ·rename_i hfs
     obtain⟨xs,m,_,hx',hl,hxl,hall⟩:=DataW.trod_struct hu ht
     injection hx' with hd _
     injection hd with hd
     rw[←hlen] at h
     obtain⟨c,hc,hf⟩:=piece_ok (leaves_ok n) cs _ 0 l h (fun y hy=>by
      unfold structB at hy
      obtain⟨⟨f,q⟩,hz,rfl⟩:=List.mem_map.1 hy
      obtain⟨j,hj,hj2⟩:=List.getElem_of_mem hz
      have h1:fs.toList[j]? =some f:=by
       have:=List.getElem?_eq_getElem hj
       rw[hj2,List.getElem?_zip_eq_some] at this
       exact this.1
      have h2:parts[j]? =some q:=by
       have:=List.getElem?_eq_getElem hj
       rw[hj2,List.getElem?_zip_eq_some] at this
       exact this.2
      have h3:=hall j f (by simpa using h1)
      rw[hd,List.getElem?_map] at h2
      obtain⟨y,hy,hq⟩:=Option.map_eq_some_iff.1 h2
      rw[hy] at h3
      exact⟨m,y.2,by rw[h3,←hq]⟩) i x hx
     rw[Nat.zero_add] at hc
     exact⟨c,hc,hf⟩
    ·cases h
   ·rename_i m e parts hu
    split at h
    ·rename_i hfs
     obtain⟨xs,k,_,hx',hl,hxl,hall⟩:=DataW.trod_array hu ht
     injection hx' with hd _
     injection hd with hd
     rw[←hlen] at h
     obtain⟨c,hc,hf⟩:=piece_ok (leaves_ok n) cs _ 0 l h (fun y hy=>by
      unfold arrayB at hy
      obtain⟨⟨q,j⟩,hz,rfl⟩:=List.mem_map.1 hy
      have h2:parts[j]? =some q:=by
       have:=List.mem_zipIdx_iff_getElem?.1 hz
       simpa using this
      have hj:j<m:=by
       have:=(List.getElem?_eq_some_iff.1 h2).1
       omega
      have h3:=hall j hj
      rw[hd,List.getElem?_map] at h2
      obtain⟨y,hy,hq⟩:=Option.map_eq_some_iff.1 h2
      rw[hy] at h3
      exact⟨k,y.2,by rw[h3,←hq]⟩) i x hx
     rw[Nat.zero_add] at hc
     exact⟨c,hc,hf⟩
    ·cases h
   ·cases h
   ·cases h
   ·split at h
    ·rename_i h1
     injection h with h
     subst h
     rw[h1] at hlen
     rcases i with _ | i
     ·simp at hx
      subst hx
      match cs,hlen with
      | [c],_=>exact⟨c,rfl,fuel,ps,ht⟩
     ·simp at hx
    ·cases h
end
theorem laid_leaves {P:Program} {W:World} {name:String} {d:DataW Unit} {rest:List (String × DataW Unit)} {g:Nat} {t:TypeId} {n m:Nat} {e:TypeId} {ls:List (TypeId × DataW Unit)}
 (hg:P.globalNamed name=some g) (hty:(P.globals[g]?).map (·.type)=some t) (ha:P.underlying t=some (.array m e)) (hl:leavesB P n t d=some ls) (h:laidMet P ((name,d)::rest) W):
 ∃cs t' fz,W.heap[g]? =some (.cells cs t' fz)∧∀(i:Nat) x,ls[i]? =some x→∃c,cs[i]? =some c∧Leaf (fun _=>()) P false W c x:=by
 obtain⟨ps,⟨g',t',cs,fuel,p,q,hg',ht',hvar,hd,_,_⟩,_⟩:=h
 obtain rfl:=Option.some.inj (hg.symm.trans hg')
 obtain rfl:=Option.some.inj (hty.symm.trans ht')
 have hb:∃t f,W.heap[g]? =some (.cells cs t f):=by
  simp only[World.var?,hg,Option.bind_some] at hvar
  split at hvar
  ·rename_i h'
   simp at hvar;subst hvar
   exact⟨_,_,h'⟩
  ·cases hvar
 obtain⟨t2,fz,hb⟩:=hb
 refine⟨cs,t2,fz,hb,fun i x hx=> ?_⟩
 obtain⟨_,_,_,_,hcl,_⟩:=DataW.trod_array ha hd
 obtain⟨c,hc,hf⟩:=leaves_ok n t d ls cs.toList ⟨fuel,p,hd⟩ hl hcl i x hx
 exact⟨c,by simpa using hc,hf⟩
theorem leaf_string {H:Type} {enc:TypeId × Value→H} {P:Program} {held:Bool} {w:World} {c:Value} {t:TypeId} {b:List UInt8} (ht:P.underlying t=some .string) (h:Leaf enc P held w c (t, .lit (.string b))):c= .string ⟨b.toArray⟩:=by
 obtain⟨fuel,ps,h⟩:=h
 obtain⟨s,h1,h2,_⟩:=DataW.trod_string ht h
 injection h2 with h2 _
 injection h2 with h2
 injection h2 with h2
 simp only[List.cons.injEq,and_true] at h1
 rw[h1,h2]
theorem leaf_int {H:Type} {enc:TypeId × Value→H} {P:Program} {held:Bool} {w:World} {c:Value} {t:TypeId} {k k':IntKind} {z:Int} (ht:P.underlying t=some (.int k)) (h:Leaf enc P held w c (t, .lit (.int k' z))):c= .int k z:=by
 obtain⟨fuel,ps,h⟩:=h
 obtain⟨n,h1,h2,_⟩:=DataW.trod_int ht h
 injection h2 with h2 _
 injection h2 with h2
 injection h2 with _ h2
 simp only[List.cons.injEq,and_true] at h1
 rw[h1,h2]
theorem leaf_nil {H:Type} {enc:TypeId × Value→H} {P:Program} {held:Bool} {w:World} {c:Value} {t e:TypeId} (ht:P.underlying t=some (.slice e)) (h:Leaf enc P held w c (t, .nil)):c= .slice none 0 0:=by
 obtain⟨fuel,ps,h⟩:=h
 rcases DataW.trod_slice ht h with⟨h1,_⟩ | ⟨a,len,cap,elems,rest,n,_,h1,h2,_⟩
 ·simpa using h1
 ·injection h2 with h2 _;cases h2
theorem leaf_ints {H:Type} {enc:TypeId × Value→H} {P:Program} {held:Bool} {w:World} {c:Value} {t e:TypeId} {k:IntKind} {ks:List Int} (ht:P.underlying t=some (.slice e)) (he:P.underlying e=some (.int k)) (hc:P.cellsOf e=1)
 (h:Leaf enc P held w c (t, .slice (ks.map fun z=> .lit (.int k z)) [])) (h0:0<ks.length):
 ∃g o cap,c= .slice (some ⟨g,o,none⟩) ks.length cap∧g<w.heap.size∧∀j z,ks[j]? =some z→w.cell? ⟨g,o+j,none⟩=some (.int k z):=by
 obtain⟨fuel,ps,h⟩:=h
 rcases open_ints ht he hc h with⟨_,hx⟩ | ⟨a,len,cap,zs,hcs,_,hl,hm,hz,hx,hcell,hwz⟩
 ·injection hx with hx _;cases hx
 ·injection hx with hx _
  injection hx with hx1 hx2
  have hlen:zs.drop len=[]:=by
   have:=congrArg List.length hx2
   simp[lits] at this
   exact List.drop_of_length_le (by omega)
  have htake:zs.take len=zs:=by
   have:=List.take_append_drop len zs
   rw[hlen,List.append_nil] at this
   exact this
  have hks:ks=zs:=by
   rw[htake] at hx1
   unfold lits at hx1
   have hinj:∀(l1 l2:List Int),(l1.map fun z=>(DataW.lit (.int k z):DataW H))=l2.map (fun n=> .lit (.int k n))→l1=l2:=by
    intro l1
    induction l1 with
    | nil=>intro l2 h;cases l2 with
      | nil=>rfl
      | cons _ _=>simp at h
    | cons x l1 ih=>intro l2 h;cases l2 with
      | nil=>simp at h
      | cons y l2=>
        simp only[List.map_cons,List.cons.injEq] at h
        obtain⟨hxy,hr⟩:=h
        injection hxy with hxy
        injection hxy with _ hxy
        rw[hxy,ih l2 hr]
   exact hinj ks zs hx1
  subst hks
  have hlk:len=ks.length:=by
   have:=congrArg List.length htake
   rw[List.length_take] at this
   simp only[if_true] at hz
   have:=congrArg List.length hlen
   rw[List.length_drop] at this
   simp at this
   omega
  simp only[List.cons.injEq,and_true] at hcs
  have c0:=hcell 0 h0
  have e0:a.add 0=a:=by simp[Addr.add]
  rw[e0] at c0
  have ha:=addr_none (spot_none c0)
  refine⟨a.block,a.off,cap,by rw[hcs,hlk,←ha],World.block_lt_of_cell? w a (by rw[c0]),fun j z hj=> ?_⟩
  have hjl:=(List.getElem?_eq_some_iff.1 hj).1
  have:=hcell j hjl
  rw[ha,add_none] at this
  rw[this]
  simp[List.getD_eq_getElem?_getD,hj]
end Go.Proofs.YtfaepbjnpakghaaGreatDoor.W
namespace Go.Proofs.YtfaepbjnpakghaaGreatDoor.W
open Go.RowKit
set_option linter.unusedVariables false
def formT:List (List (List UInt8)):=[
 [[],[],[],[]],
 [[110,111,112],[],[],[]],
 [[115,97,102,101],[],[],[]],
 [[115,101,116],[65,73],[],[65]],
 [[104,105,103,104],[65,73],[65],[65]],
 [[109,111,118,101],[65,66],[66],[65]],
 [[97,100,100],[65,66,67],[66,67],[65]],
 [[115,117,98],[65,66,67],[66,67],[65]],
 [[109,117,108],[65,66,67],[66,67],[65]],
 [[97,110,100],[65,66,67],[66,67],[65]],
 [[111,114],[65,66,67],[66,67],[65]],
 [[108,101,115,115],[65,66,67],[66,67],[65]],
 [[115,97,109,101],[65,66,67],[66,67],[65]],
 [[97,100,100,105],[65,66,73],[66],[65]],
 [[97,100,100,114],[65,73],[],[65]],
 [[108,111,97,100],[65,66,73],[66],[65]],
 [[98,121,116,101],[65,66,73],[66],[65]],
 [[115,116,111,114,101],[65,66,73],[65,66],[]],
 [[112,117,116],[65,66,73],[65,66],[]],
 [[106,117,109,112],[73],[],[]],
 [[122,101,114,111],[65,73],[65],[]],
 [[110,111,110,122,101,114,111],[65,73],[65],[]],
 [[99,97,108,108],[73],[83],[83]],
 [[99,97,108,108,114],[65],[65,83],[83]],
 [[99,97,108,108,115],[73],[83],[83]],
 [[106,117,109,112,115],[73],[],[]],
 [[114,101,116,117,114,110],[],[83],[83]],
 [[112,117,115,104],[65],[65,83],[83]],
 [[112,111,112],[65],[83],[65,83]],
 [[116,108,115],[65,66],[66],[65]],
 [[115,121,115],[73],[],[]]]
def formLeaves:List (TypeId × DataW Unit):=formT.flatten.map fun s=>(9, .lit (.string s))
set_option maxRecDepth 100000 in
theorem leaves_forms:leavesB Tryz.prog 4 252 (Rows.laid_linchpin_isa_forms:DataW Unit)=some formLeaves:=by kernel_rfl
theorem gF:Tryz.prog.globalNamed "linchpin/isa.forms" =some 2:=by kernel_rfl
theorem gFty:(Tryz.prog.globals[2]?).map (·.type)=some 252:=by kernel_rfl
structure FormsAt (W:World):Prop where
 is:∃(cs:Array Value) (t:TypeId) (fz:Nat × Nat),W.heap[2]? =some (.cells cs t fz)∧∀(i:Nat) (s:List UInt8),formT.flatten[i]? =some s→cs[i]? =some (Value.string ⟨s.toArray⟩)
theorem forms_of {W:World} {rest:List (String × DataW Unit)} (h:laidMet Tryz.prog (("linchpin/isa.forms",Rows.laid_linchpin_isa_forms)::rest) W):FormsAt W:=by
 obtain⟨cs,t,fz,hb,hc⟩:=laid_leaves gF gFty Tryz.underlying252 leaves_forms h
 refine⟨cs,t,fz,hb,fun i s hs=> ?_⟩
 obtain⟨c,h1,h2⟩:=hc i (9, .lit (.string s)) (by unfold formLeaves;rw[List.getElem?_map,hs];rfl)
 rw[h1,leaf_string Tryz.underlying9 h2]
theorem FormsAt.below {W w:World} (h:FormsAt W) (hb:Below W.heap.size W w):FormsAt w:=by
 obtain⟨cs,t,fz,h1,h2⟩:=h.is
 have hlt:2<W.heap.size:=by
  rcases Nat.lt_or_ge 2 W.heap.size with h' | h'
  ·exact h'
  ·rw[Array.getElem?_eq_none h'] at h1;cases h1
 exact⟨cs,t,fz,by rw[hb.block _ hlt,h1],h2⟩
def opersL (op:Nat):List UInt8:=(formT.flatten.getD (4*op+1) [])
theorem FormsAt.oper {W:World} (h:FormsAt W) (op:Nat) (ho:op<31):W.cell? ⟨2,op*4+1,none⟩=some (.string ⟨(opersL op).toArray⟩):=by
 obtain⟨cs,t,fz,h1,h2⟩:=h.is
 have hl:formT.flatten.length=124:=by decide+kernel
 have:=h2 (4*op+1) (opersL op) (by unfold opersL;rw[List.getD_eq_getElem?_getD,List.getElem?_eq_getElem (by omega)];rfl)
 simp only[World.cell?,h1]
 rw[show op*4+1=4*op+1 by omega]
 simpa using this
def formV:List Value:=formT.flatten.map fun s=> .string ⟨s.toArray⟩
end Go.Proofs.YtfaepbjnpakghaaGreatDoor.W
namespace Go.Proofs.YtfaepbjnpakghaaGreatDoor.W
open Go.RowKit
def le:List UInt8→Nat
 | []=>0
 | b::r=>b.toNat+256*le r
theorem le_lt (l:List UInt8):le l<256 ^ l.length:=by
 induction l with
 | nil=>simp[le]
 | cons b r ih=>have:=b.toNat_lt;simp only[le,List.length_cons,Nat.pow_succ];omega
theorem le_snoc (l:List UInt8) (b:UInt8):le (l++[b])=le l+256 ^ l.length*b.toNat:=by
 induction l with
 | nil=>simp[le]
 | cons x r ih=>simp only[List.cons_append,le,ih,List.length_cons,Nat.pow_succ];rw[Nat.mul_add,←Nat.mul_assoc,Nat.mul_comm 256 (256 ^ r.length)];omega
def cut (s:ByteArray) (a k:Nat):List UInt8:=(s.data.toList.drop a).take k
theorem cut_succ (s:ByteArray) (a k:Nat) (h:a+k<s.size):cut s a (k+1)=cut s a k++[s[a+k]]:=by
 unfold cut
 have hl:s.data.toList.length=s.size:=by simp
 rw[List.take_succ_eq_append_getElem (by rw[List.length_drop];omega)]
 simp;rfl
theorem cut_length (s:ByteArray) (a k:Nat) (h:a+k≤s.size):(cut s a k).length=k:=by
 have:s.data.toList.length=s.size:=by simp
 simp[cut];omega
theorem or_round (x b k:Nat) (hx:x<256 ^ k) (hb:b<256) (hk:k<8):
 bits .or .u64 (x:Int) (IntKind.u64.wrap (IntKind.u64.wrap (b:Int)*2 ^(8*k)))=((x+256 ^ k*b:Nat):Int):=by
 have e0:IntKind.u64.wrap (b:Int)=(b:Int):=by rw[IntKind.wrap_u64];omega
 have hp:256 ^ k*b<18446744073709551616∧256 ^ k≤72057594037927936:=by
  rcases(by omega:k=0∨k=1∨k=2∨k=3∨k=4∨k=5∨k=6∨k=7) with rfl | rfl | rfl | rfl | rfl | rfl | rfl | rfl<;>(constructor<;>omega)
 have e1:((b:Int)*2 ^(8*k))=((256 ^ k*b:Nat):Int):=by
  rw[show(256:Nat)=2 ^ 8 from rfl,←Nat.pow_mul];push_cast;exact Int.mul_comm _ _
 have e2:IntKind.u64.wrap ((256 ^ k*b:Nat):Int)=((256 ^ k*b:Nat):Int):=by rw[IntKind.wrap_u64];omega
 rw[e0,e1,e2,u64_or_nat _ _ (by omega) (by omega)]
 congr 1
 rw[Nat.or_comm,nat_join (8*k) _ _ ?_ ?_]
 ·omega
 ·rw[show(256:Nat)=2 ^ 8 from rfl,←Nat.pow_mul];exact Nat.mul_mod_right _ _
 ·rw[show(256:Nat)=2 ^ 8 from rfl,←Nat.pow_mul] at hx;exact hx
def getI (U k:Nat) (sg:Bool):Int:=if(sg || k==8)&&decide (2 ^(8*k-1)≤U) then(U:Int) -2 ^(8*k) else U
theorem get_signed (U k:Nat) (hU:U<256 ^ k) (hk:k=1∨k=2∨k=4∨k=8):
 wrap64 (IntKind.u64.wrap ((U:Int)*2 ^(64-8*k)))/2 ^(64-8*k)=getI U k true:=by
 rw[IntKind.wrap_u64]
 unfold wrap64 getI
 rcases hk with rfl | rfl | rfl | rfl<;>simp<;>split<;>omega
theorem get_unsigned (U k:Nat) (hU:U<256 ^ k) (hk:k=1∨k=2∨k=4∨k=8):wrap64 (U:Int)=getI U k false:=by
 unfold wrap64 getI
 rcases hk with rfl | rfl | rfl | rfl<;>simp<;>(try split)<;>omega
theorem fieldB_iff {n a size:Int}:fieldB n a size=true↔(size=1∨size=2∨size=4∨size=8)∧0≤a∧a≤n-size:=by
 simp[fieldB,or_assoc]
def getP (s:ByteArray) (a size:Int) (sg:Bool):Int × Bool:=
 if fieldB s.size a size then(getI (le (cut s a.toNat size.toNat)) size.toNat sg,true) else(0,false)
theorem ret_ib {a b:Int} {x y:Bool} (h:a=b) (h':x=y):Ending.returned (.tuple #[.int .i64 a, .bool x])= .returned (.tuple #[.int .i64 b, .bool y]):=by rw[h,h']
set_option maxHeartbeats 400000 in
theorem get_yes (s:ByteArray) (a k:Nat) (sg:Bool) (w:World) (hs:s.size≤maxLen) (h1:a+k≤s.size) (hk:k=1∨k=2∨k=4∨k=8) (hf:fieldB s.size a k=true):
 Calls Tryz.prog 226 #[.string s, .int .i64 a, .int .i64 k, .bool sg] w fun e w'=>e= .returned (.tuple #[.int .i64 (getI (le (cut s a k)) k sg), .bool true])∧w=w':=by
 unfold maxLen at hs
 have h2:k≤8:=by omega
 have HK:=Lib.hid hk
 clear hk
 have hU:=le_lt (cut s a k)
 rw[cut_length s a k h1] at hU
 go_enter Tryz.func226,Tryz.ntmps226
 go_wp2_with (go_at_call 257;refine(field_any _ _ _ _ (by unfold maxLen;omega)).mono ?_;rintro e w' ⟨rfl,rfl⟩;simp only[hf])
 go_loop [10,19] (fun v i=>∃j:Nat,j≤k∧i= .int .i64 j∧v= .int .u64 (le (cut s a j))) (fun _ i=>k-(intOf i).toNat)
 case atStart=>exact⟨0,Nat.zero_le _,rfl,rfl⟩
 case round=>
  obtain⟨j,hj,rfl,rfl⟩:=hrel
  by_cases hlt:j<k
  ·go_wp2
   go_round
   case rel=>exact⟨j+1,by omega,by go_num,by rw[or_round _ _ _ (by have:=le_lt (cut s a j);rwa [cut_length s a j (by omega)] at this) (s[a+j]).toNat_lt (by omega),cut_succ s a j (by omega),le_snoc,cut_length s a j (by omega)]⟩
   case measure=>simp[intOf];omega
  ·obtain rfl:j=k:=by omega
   cases sg
   all_goals go_wp2
   all_goals go_ret2
   ·exact⟨ret_ib (get_unsigned _ _ hU HK.out) rfl,rfl⟩
   ·exact⟨ret_ib (get_signed _ _ hU HK.out) rfl,rfl⟩
set_option maxHeartbeats 400000 in
theorem get_no (s:ByteArray) (a k:Int) (sg:Bool) (w:World) (hs:s.size≤maxLen) (hf:fieldB s.size a k=false):
 Calls Tryz.prog 226 #[.string s, .int .i64 a, .int .i64 k, .bool sg] w fun e w'=>e= .returned (.tuple #[.int .i64 0, .bool false])∧w=w':=by
 go_enter Tryz.func226,Tryz.ntmps226
 go_wp2_with (go_at_call 257;refine(field_any _ _ _ _ hs).mono ?_;rintro e w' ⟨rfl,rfl⟩;simp only[hf])
 go_ret2
 exact⟨rfl,rfl⟩
theorem get_any (s:ByteArray) (a k:Int) (sg:Bool) (w:World) (hs:s.size≤maxLen):
 Calls Tryz.prog 226 #[.string s, .int .i64 a, .int .i64 k, .bool sg] w fun e w'=>e= .returned (.tuple #[.int .i64 (getP s a k sg).1, .bool (getP s a k sg).2])∧w=w':=by
 unfold getP
 by_cases hf:fieldB s.size a k=true
 ·obtain⟨h1,h2,h3⟩:=fieldB_iff.1 hf
  obtain⟨a,rfl⟩:=Int.eq_ofNat_of_zero_le h2
  obtain⟨k,rfl⟩:=Int.eq_ofNat_of_zero_le (show 0≤k by omega)
  rw[if_pos hf]
  exact get_yes s a k sg w hs (by omega) (by omega) hf
 ·rw[if_neg hf]
  exact get_no s a k sg w hs (by simpa using hf)
theorem cut_cons (s:ByteArray) (a k:Nat) (h:a+k<s.size):cut s a (k+1)=s[a]::cut s (a+1) k:=by
 unfold cut
 have hl:s.data.toList.length=s.size:=by simp
 rw[List.drop_eq_getElem_cons (by omega),List.take_succ_cons]
 simp;rfl
theorem add_round (x b k:Nat) (hx:x<256 ^ k) (hb:b<256) (hk:k<8):
 IntKind.u64.wrap (IntKind.u64.wrap (256*(x:Int))+IntKind.u64.wrap (b:Int))=((b+256*x:Nat):Int):=by
 have hp:256 ^ k≤72057594037927936:=by
  rcases(by omega:k=0∨k=1∨k=2∨k=3∨k=4∨k=5∨k=6∨k=7) with rfl | rfl | rfl | rfl | rfl | rfl | rfl | rfl<;>omega
 simp only[IntKind.wrap_u64]
 omega
theorem mul_round (q:Nat) (h:q<7):wrap64 (256*256 ^ q)=((256 ^(q+1):Nat):Int):=by
 rcases(by omega:q=0∨q=1∨q=2∨q=3∨q=4∨q=5∨q=6) with rfl | rfl | rfl | rfl | rfl | rfl | rfl<;>decide+kernel
theorem rget_hi (U k:Nat) (hU:U<256 ^ k) (hk:k=1∨k=2∨k=4) (h:wrap64 ((256 ^ k:Int).tdiv 2)≤wrap64 (U:Int)):
 wrap64 (wrap64 (U:Int) -256 ^ k)=getI U k true:=by
 unfold wrap64 getI at*
 rcases hk with rfl | rfl | rfl<;>simp at* <;>(try split)<;>omega
theorem rget_lo (U k:Nat) (hU:U<256 ^ k) (hk:k=1∨k=2∨k=4) (h:wrap64 (U:Int)<wrap64 ((256 ^ k:Int).tdiv 2)):
 wrap64 (U:Int)=getI U k true:=by
 unfold wrap64 getI at*
 rcases hk with rfl | rfl | rfl<;>simp at* <;>(try split)<;>omega
end Go.Proofs.YtfaepbjnpakghaaGreatDoor.W
namespace Go.Proofs.YtfaepbjnpakghaaGreatDoor.W
open Go.RowKit
set_option linter.unusedVariables false
section
variable {P:Program} {ops:Array Oper} {Q:Exit→Act→World→Prop} {S:World→Prop}
def wpOrd (P:Program) (ops:Array Oper) (Q:Exit→Act→World→Prop) (S:World→Prop):List (Nat × Bool)→Act→World→Prop
 | [],a,w=>Q .normal a w
 | (i,true)::r,a,w=>∃o v,ops[i]? =some o∧YieldsIf P ops S o v a∧wpOrd P ops Q S r (a.put o.dst v) w
 | (i,false)::r,a,w=>wpOp P ops Q i (fun a' w'=>S w'∧wpOrd P ops Q S r a' w') a w
def ordB (ops:Array Oper):List (Nat × Bool)→Array Bool→Bool
 | [],listed=>(Region.ready .any ops listed).isEmpty
 | (i,true)::r,listed=>(Region.ready .any ops listed).contains i&&Region.free .any ops listed i&&ordB ops r (listed.setIfInBounds i true)
 | (i,false)::r,listed=>decide (Region.ready .any ops listed=[i])&&ordB ops r (listed.setIfInBounds i true)
theorem wpAnyH_of_ord (hsel:Region.noSelect ops=true) (hQ:∀c a w,¬Q (.panic c) a w):∀(l:List (Nat × Bool)) (listed:Array Bool) (a:Act) (w:World),
 ordB ops l listed=true→S w→wpOrd P ops Q S l a w→wpAnyH P .any ops Q S l.length listed a w
 | [],listed,a,w,hB,hS,h=>⟨by simpa [ordB] using hB,h⟩
 | (i,true)::r,listed,a,w,hB,hS,h=>by
   simp only[ordB,Bool.and_eq_true] at hB
   obtain⟨⟨hr,hf⟩,hB'⟩:=hB
   obtain⟨o,v,ho,hy,h'⟩:=h
   exact wpAnyH_take ho hsel hf hr (fun c a w hq=>absurd hq (hQ c _ w)) hy hS (wpAnyH_of_ord hsel hQ r _ _ w hB' hS h')
 | (i,false)::r,listed,a,w,hB,hS,h=>by
   simp only[ordB,Bool.and_eq_true,decide_eq_true_eq] at hB
   refine wpAnyH_all hB.1 (by simp) (fun j hj=> ?_)
   have hji:j=i:=by simpa using hj
   subst hji
   exact wpOp_mono (fun a' w' h'=>⟨h'.1,wpAnyH_of_ord hsel hQ r _ a' w' hB.2 h'.1 h'.2⟩) h
theorem wp_region_ord {id:Nat} {a:Act} {w:World} (S:World→Prop) (l:List (Nat × Bool)) (hm:P.follows .mixedOrders=true) (hsel:Region.noSelect ops=true) (hn:l.length=ops.size)
 (hB:ordB ops l (Array.replicate ops.size false)=true) (hS:S w.drew) (h:wpOrd P ops (NoPanic Q) S l a w.drew):(Code.region id ops true).wp P Q a w:=
 wp_region_noPanic (wp_region_held_drew (S:=S) hm hS (fun _=>by
  have:=wpAnyH_of_ord (S:=S) hsel (fun c a w h=>h) l _ a w.drew hB hS h
  rwa [hn] at this))
def wpLin (P:Program) (ops:Array Oper) (Q:Exit→Act→World→Prop) (S:World→Prop):List (Oper × Bool)→Act→World→Prop
 | [],a,w=>Q .normal a w
 | (o,true)::r,a,w=>∃v,YieldsIf P ops S o v a∧wpLin P ops Q S r (a.put o.dst v) w
 | (o,false)::r,a,w=>(if Region.wanted o (yielded ops a.tmps)=true then Oper.wp P o a w (fun a' w'=>S w'∧wpLin P ops Q S r a' w') Q else S w∧wpLin P ops Q S r (a.put o.dst undef) w)
def pick (d:Oper) (l:List Oper):List (Nat × Bool)→List (Oper × Bool)
 | []=> []
 | (i,b)::r=>(l.getD i d,b)::pick d l r
theorem ord_of_lin {d:Oper} {l:List Oper}:∀(r:List (Nat × Bool)) (a:Act) (w:World),(∀x∈r,x.1<l.length)→wpLin P l.toArray Q S (pick d l r) a w→wpOrd P l.toArray Q S r a w
 | [],a,w,_,h=>h
 | (i,true)::r,a,w,hi,h=>by
   obtain⟨v,hy,h'⟩:=h
   have hl:=hi (i,true) (by simp)
   have e:l.getD i d=l[i]:=by simp[List.getD_eq_getElem?_getD,hl]
   rw[e] at hy h'
   exact⟨l[i],v,by simp,hy,ord_of_lin r _ w (fun x hx=>hi x (List.mem_cons_of_mem _ hx)) h'⟩
 | (i,false)::r,a,w,hi,h=>by
   have hl:=hi (i,false) (by simp)
   have e:l.getD i d=l[i]:=by simp[List.getD_eq_getElem?_getD,hl]
   have h2:if Region.wanted (l.getD i d) (yielded l.toArray a.tmps)=true then Oper.wp P (l.getD i d) a w (fun a' w'=>S w'∧wpLin P l.toArray Q S (pick d l r) a' w') Q else S w∧wpLin P l.toArray Q S (pick d l r) (a.put (l.getD i d).dst undef) w:=h
   rw[e] at h2
   refine wpOp_step (o:=l[i]) (by simp) (fun K' hK=> ?_)
   have hK2:∀a' w',(S w'∧wpLin P l.toArray Q S (pick d l r) a' w')→K' a' w':=fun a' w' h'=>hK a' w' ⟨h'.1,ord_of_lin r a' w' (fun x hx=>hi x (List.mem_cons_of_mem _ hx)) h'.2⟩
   split
   ·rename_i hw
    rw[if_pos hw] at h2
    exact Oper.wp_mono (fun a' w' h'=>hK2 a' w' h') h2
   ·rename_i hw
    rw[if_neg hw] at h2
    exact hK2 _ _ h2
theorem wp_region_lin {id:Nat} {a:Act} {w:World} {l:List Oper} (d:Oper) (S:World→Prop) (r:List (Nat × Bool)) (hm:P.follows .mixedOrders=true) (hsel:Region.noSelect l.toArray=true) (hn:r.length=l.length)
 (hB:ordB l.toArray r (Array.replicate l.toArray.size false)=true) (hi:(r.all fun x=>decide (x.1<l.length))=true) (hS:S w.drew) (h:wpLin P l.toArray (NoPanic Q) S (pick d l r) a w.drew):(Code.region id l.toArray true).wp P Q a w:=
 wp_region_ord S r hm hsel (by simpa using hn) hB hS (ord_of_lin r a w.drew (fun x hx=>by simpa using List.all_eq_true.1 hi x hx) h)
theorem lin_free {o:Oper} {v:Value} {r:List (Oper × Bool)} {a:Act} {w:World} (hw:Region.wanted o (yielded ops a.tmps)=true)
 (hy:∀w',S w'→(execOp a.eval o).run P w'= .ok (.value v) w') (h:wpLin P ops Q S r (a.put o.dst v) w):wpLin P ops Q S ((o,true)::r) a w:=
 ⟨v, .inl ⟨hw,hy⟩,h⟩
theorem lin_skip {o:Oper} {r:List (Oper × Bool)} {a:Act} {w:World} (hw:Region.wanted o (yielded ops a.tmps)=false)
 (h:wpLin P ops Q S r (a.put o.dst undef) w):wpLin P ops Q S ((o,true)::r) a w:=
 ⟨undef, .inr ⟨hw,rfl⟩,h⟩
theorem lin_bound {o:Oper} {r:List (Oper × Bool)} {a:Act} {w:World}
 (h:∀K':Act→World→Prop,Hd (∀a w,S w→wpLin P ops Q S r a w→K' a w)→if Region.wanted o (yielded ops a.tmps)=true then Oper.wp P o a w K' Q else K' (a.put o.dst undef) w):
 wpLin P ops Q S ((o,false)::r) a w:=
 h _ ⟨fun a w hS hW=>⟨hS,hW⟩⟩
end
end Go.Proofs.YtfaepbjnpakghaaGreatDoor.W
namespace Go.Proofs.YtfaepbjnpakghaaGreatDoor.W
set_option linter.unusedVariables false
def digitL:List UInt8:=[48,49,50,51,52,53,54,55,56,57,97,98,99,100,101,102]
def digitS:ByteArray:=⟨#[48,49,50,51,52,53,54,55,56,57,97,98,99,100,101,102]⟩
def dig (n:Nat):UInt8:=digitL.getD n 0
def hexL (l:List UInt8):List UInt8:=l.flatMap fun b=> [dig (b.toNat/16),dig (b.toNat%16)]
theorem hexL_snoc (l:List UInt8) (b:UInt8):hexL (l++[b])=hexL l++[dig (b.toNat/16)]++[dig (b.toNat%16)]:=by simp[hexL]
theorem hexL_len (l:List UInt8):(hexL l).length=2*l.length:=by
 induction l with
 | nil=>rfl
 | cons b l ih=>simp only[hexL,List.flatMap_cons,List.length_append,List.length_cons,List.length_nil] at ih⊢;omega
theorem dig_at (n:Nat) (h:n<digitS.size):digitS[n]=dig n:=by
 have:∀m:Fin 16,digitS[m.val]'(by have:=m.isLt;exact this)=dig m.val:=by decide
 exact this ⟨n,h⟩
def hv (c:UInt8):Int:=Lib.indexByte digitL c
def unhexR:List UInt8→Option (List UInt8)
 | []=>some []
 | [_]=>none
 | a::b::r=>if hv a<0∨hv b<0 then none else(unhexR r).map (UInt8.ofNat (16*hv a+hv b).toNat:: ·)
def unhexS (l:List UInt8):List UInt8:=(unhexR l).getD []
def unhexB (l:List UInt8):Bool:=(unhexR l).isSome
theorem hv_bd (c:UInt8): -1≤hv c∧hv c<16:=by
 have:∀m:Fin 256,-1≤hv (UInt8.ofNat m.val)∧hv (UInt8.ofNat m.val)<16:=by decide+kernel
 have h:=this ⟨c.toNat,c.toNat_lt⟩
 rwa [show UInt8.ofNat c.toNat=c from UInt8.ofNat_toNat] at h
theorem unhex_odd:∀(l:List UInt8),l.length%2=1→unhexR l=none
 | [],h=>by simp at h
 | [_],_=>rfl
 | a::b::r,h=>by
   have ih:=unhex_odd r (by simp at h;omega)
   simp only[unhexR,ih,Option.map_none]
   split<;>rfl
theorem drop2 (s:ByteArray) (i:Nat) (h:i+1<s.size):s.data.toList.drop i=s[i]::s[i+1]::s.data.toList.drop (i+2):=by
 have hl:s.data.toList.length=s.size:=by simp
 rw[List.drop_eq_getElem_cons (by omega),List.drop_eq_getElem_cons (by omega)]
 rfl
theorem unhex_bad (l:List UInt8) (s:ByteArray) (j:Nat) {acc:List UInt8} (a b:UInt8) {h:j<s.size} {h':j+1<s.size}
 (hU:unhexR l=(unhexR (s.data.toList.drop j)).map (acc++ ·))
 (hd:s.data.toList.drop j=s[j]::s[j+1]::s.data.toList.drop (j+2)) (ha:s[j]=a) (hb:s[j+1]=b) (hbad:hv a<0∨hv b<0):unhexR l=none:=by
 rw[hd,ha,hb] at hU
 simp only[unhexR,if_pos hbad,Option.map_none] at hU
 exact hU
theorem unhex_good (l:List UInt8) (s:ByteArray) (j:Nat) (a b:UInt8) (acc:List UInt8) {h:j<s.size} {h':j+1<s.size}
 (hU:unhexR l=(unhexR (s.data.toList.drop j)).map (acc++ ·))
 (hd:s.data.toList.drop j=s[j]::s[j+1]::s.data.toList.drop (j+2)) (ha:s[j]=a) (hb:s[j+1]=b) (hbad:¬(hv a<0∨hv b<0)):
 unhexR l=(unhexR (s.data.toList.drop (j+2))).map ((acc++[UInt8.ofNat (16*hv a+hv b).toNat])++ ·):=by
 rw[hd,ha,hb] at hU
 simp only[unhexR,if_neg hbad,Option.map_map] at hU
 rw[hU]
 congr 1
 funext x
 simp
end Go.Proofs.YtfaepbjnpakghaaGreatDoor.W
namespace Go.Proofs.YtfaepbjnpakghaaGreatDoor.W
set_option linter.unusedVariables false
def bit1 (x:Nat):Nat:=if x%2=1 then x/2 ^^^ 2197175160 else x/2
def bitN (x:Nat):Nat→Nat
 | 0=>x
 | n+1=>bit1 (bitN x n)
def byte1 (x:Nat) (b:UInt8):Nat:=bitN (x ^^^ b.toNat) 8
def crcR (l:List UInt8):Nat:=l.foldl byte1 4294967295
def crcL (l:List UInt8):Nat:=4294967295 ^^^ crcR l
theorem bit1_low {x:Nat} (h:x<4294967296):bit1 x<4294967296:=by
 unfold bit1
 split
 ·exact Nat.xor_lt_two_pow (n:=32) (by omega) (by decide)
 ·omega
theorem bitN_low {x:Nat} (h:x<4294967296):∀n,bitN x n<4294967296
 | 0=>h
 | n+1=>bit1_low (bitN_low h n)
theorem byte1_low {x:Nat} (h:x<4294967296) (b:UInt8):byte1 x b<4294967296:=
 bitN_low (Nat.xor_lt_two_pow (n:=32) h (by have:=b.toNat_lt;omega)) 8
theorem fold_low:∀(l:List UInt8) {x:Nat},x<4294967296→l.foldl byte1 x<4294967296
 | [],_,h=>h
 | b::l,_,h=>fold_low l (byte1_low h b)
theorem crcR_low (l:List UInt8):crcR l<4294967296:=fold_low l (by decide)
theorem crcL_low (l:List UInt8):crcL l<4294967296:=Nat.xor_lt_two_pow (n:=32) (by decide) (crcR_low l)
theorem crcR_snoc (l:List UInt8) (b:UInt8):crcR (l++[b])=bitN (crcR l ^^^ b.toNat) 8:=by simp[crcR,byte1]
theorem take_snoc (s:ByteArray) (k:Nat) (h:k<s.size):s.data.toList.take (k+1)=s.data.toList.take k++[s[k]]:=by
 rw[List.take_succ_eq_append_getElem (by simpa using h)];rfl
end Go.Proofs.YtfaepbjnpakghaaGreatDoor.W
namespace Go.Proofs.YtfaepbjnpakghaaGreatDoor.W
open Go.RowKit
set_option linter.unusedVariables false
theorem bc_snoc (l:List UInt8) (b:UInt8):Lib.byteCells l++[.int .u8 (b.toNat:Int)]=Lib.byteCells (l++[b]):=by simp[Lib.byteCells]
theorem bc_len (l:List UInt8):(Lib.byteCells l).length=l.length:=by simp[Lib.byteCells]
theorem hex_put {B b:Nat} (l:List UInt8) (n:Nat) (h:n<16) {W:World} (hI:Lib.IsBuilder 152 5 B b (Lib.byteCells l++[.int .u8 ((digitS[n]'h).toNat:Int)]) W):
 Lib.IsBuilder 152 5 B b (Lib.byteCells (l++[dig n])) W:=by
 rw[dig_at n h,bc_snoc] at hI
 exact hI
end Go.Proofs.YtfaepbjnpakghaaGreatDoor.W
namespace Go.Proofs.YtfaepbjnpakghaaGreatDoor.W
open Go.RowKit
set_option linter.unusedVariables false
theorem num_byte (m:Nat):∃b:UInt8,UInt8.ofNat (m%128+128)=b∧IntKind.u8.wrap ((m%128:Nat):Int)=((m%128:Nat):Int)∧bits BinOp.or IntKind.u8 ((m%128:Nat):Int) 128=(b.toNat:Int)∧(m%128)+128=b.toNat:=by
 refine⟨_,rfl,?_,?_,?_⟩
 ·rw[IntKind.wrap_u8];omega
 ·have hb:(UInt8.ofNat (m%128+128)).toNat=m%128+128:=by simp;omega
  have:∀k:Fin 128,bits BinOp.or IntKind.u8 ((k.val:Nat):Int) 128=((k.val+128:Nat):Int):=by decide+kernel
  rw[hb]
  exact this ⟨m%128,Nat.mod_lt _ (by decide)⟩
 ·simp;omega
set_option maxHeartbeats 1000000 in
set_option maxRecDepth 100000 in
theorem wput_any (n:Nat) (hn:n<18446744073709551616) (w:World):
 Calls Tryz.prog 208 #[.slice none 0 0, .int .u64 n] w fun e w'=>∃v,e= .returned v∧Own w' w.heap.size 5 v (Lib.byteCells (numL n))∧Below w.heap.size w w':=by
 obtain⟨i0,hi,hz0,hz1,hz2⟩:=info_parts infoU8
 have HI:Hd (_∧_∧_∧_):=⟨⟨hi,hz0,hz1,hz2⟩⟩
 clear hi hz0 hz1 hz2
 go_enter Tryz.func208,Tryz.ntmps208
 go_wp2
 go_loopw [0,1] (fun v m wr=>∃(k f:Nat) (acc:List UInt8),k<128 ^(f+1)∧k<18446744073709551616∧acc.length+f=9∧m= .int .u64 k∧Own wr w.heap.size 5 v (Lib.byteCells acc)∧Below w.heap.size w wr∧Hd (numL n=acc++numF f k)) (fun _ m _=>match m with | .int _ k=>k.toNat | _=>0)
 case atStart=>exact⟨n,9,[],by omega,hn,rfl,rfl,Own.nil _ _ _,Below.refl _ _,⟨rfl⟩⟩
 case round=>
  obtain⟨k,f,acc,hk,hk64,hacc,rfl,hO,hB,hN⟩:=hrel
  have HO:=Hd.mk hO
  have HB:=Hd.mk hB
  have hsz:=hB.size
  have bl:=bc_len acc
  by_cases hlt:k<128
  ·have hd:decide (128≤(k:Int))=false:=by simp;omega
   have e1:numL n=acc++[UInt8.ofNat k]:=by rw[hN.out,numF_low f k hlt]
   have eb:((UInt8.ofNat k).toNat:Int)=(k:Int):=by have:(UInt8.ofNat k).toNat=k:=by simp;omega
                                                   omega
   have ew:IntKind.u8.wrap (k:Int)=(k:Int):=by rw[IntKind.wrap_u8];omega
   have E1:=Hd.mk e1
   clear e1 hO hB hN hk hk64
   go_wp2_with (at_builtin;refine wp_app1 rfl _ _ 142 rfl 5 Tryz.underlying142 HI.out.1 HI.out.2.1 HI.out.2.2.1 HI.out.2.2.2 rfl u0 _ _ _ rfl HO.out rfl rfl (by unfold maxLen;omega) (by omega) (by omega) ?_)
   intro v' w' hO' hK' _
   rw[←eb,bc_snoc,←E1.out] at hO'
   have HX:Hd (Own w' w.heap.size 5 v' (Lib.byteCells (numL n))∧Below w.heap.size w w'):=⟨hO',HB.out.trans (hK'.below hsz (fun g hg h=>by have:=(HO.out.lt h).1;omega))⟩
   clear hO' hK'
   go_wp2
   go_ret
   exact⟨_,rfl,HX.out⟩
  ·have hd:decide (128≤(k:Int))=true:=by simp;omega
   obtain⟨f',rfl,hk'⟩:=num_step hk hlt
   obtain⟨b,hb,b1,b2,b3⟩:=num_byte k
   have e1:numL n=(acc++[b])++numF f' (k/128):=by rw[hN.out,numF_more f' k hlt,hb];simp
   have E1:=Hd.mk e1
   obtain⟨r,hr⟩:∃r,k%128=r:=⟨_,rfl⟩
   obtain⟨q,hq⟩:∃q,k/128=q:=⟨_,rfl⟩
   rw[hr] at b1 b2
   rw[hq] at hk' E1
   have t1:(k:Int).tmod 128=(r:Int):=by rw[Int.tmod_eq_emod_of_nonneg (by omega)];omega
   have t2:(k:Int)%128=(r:Int):=by omega
   have t3:(k:Int).tdiv 128=(q:Int):=by rw[Int.tdiv_eq_ediv_of_nonneg (by omega)];omega
   have t4:(k:Int)/128=(q:Int):=by omega
   have t5:IntKind.u64.wrap (q:Int)=(q:Int):=by rw[IntKind.wrap_u64];omega
   have HQ:=Hd.mk (And.intro hk' (show q<18446744073709551616∧q<k by omega))
   clear e1 hO hB hN hk hk64 hb b3 hr hq hk'
   go_wp2_with (at_builtin;refine wp_app1 rfl _ _ 142 rfl 5 Tryz.underlying142 HI.out.1 HI.out.2.1 HI.out.2.2.1 HI.out.2.2.2 rfl u0 _ _ _ rfl HO.out rfl rfl (by unfold maxLen;omega) (by omega) (by omega) ?_)
   intro v' w' hO' hK' _
   rw[bc_snoc] at hO'
   have HX:Hd (Own w' w.heap.size 5 v' (Lib.byteCells (acc++[b]))∧Below w.heap.size w w'):=⟨hO',HB.out.trans (hK'.below hsz (fun g hg h=>by have:=(HO.out.lt h).1;omega))⟩
   clear hO' hK'
   go_wp2
   go_roundw
   case rel=>exact⟨q,f',acc++[b],HQ.out.1,HQ.out.2.1,by rw[List.length_append];show acc.length+1+f'=9;omega,rfl,HX.out.1,HX.out.2,E1⟩
   case measure=>exact HQ.out.2.2
set_option maxHeartbeats 1000000 in
theorem wnum_any (n:Nat) (hn:n≤9223372036854775807) (w:World):
 Calls Tryz.prog 124 #[.int .i64 n] w fun e w'=>e= .returned (.string ⟨(numL n).toArray⟩)∧Below w.heap.size w w':=by
 have hd:decide ((n:Int)<0)=false:=by simp
 have hc:IntKind.u64.wrap (n:Int)=(n:Int):=by rw[IntKind.wrap_u64];omega
 obtain⟨s,hs⟩:∃s:ByteArray,(⟨(numL n).toArray⟩:ByteArray)=s:=⟨_,rfl⟩
 have HC:Hd (∀w:World,Calls Tryz.prog 208 #[.slice none 0 0, .int .u64 n] w fun e w'=>∃v,e= .returned v∧(convert 142 9 v).run Tryz.prog w'= .ok (.string s) w'∧Below w.heap.size w w'):=⟨fun w=>(wput_any n (by omega) w).mono fun e w' ⟨v,he,hO,hB⟩=>⟨v,he,by rw[←hs];exact hO.back,hB⟩⟩
 rw[hs]
 clear hn hs
 go_enter Tryz.func124,Tryz.ntmps124
 go_wp2_with fail
 refine(HC.out _).mono ?_
 rintro e w1 ⟨v,rfl,hb,hB⟩
 have HB:=Hd.mk hB
 clear hB
 go_wp2
 go_ret
 exact⟨rfl,HB.out⟩
set_option maxHeartbeats 1000000 in
theorem wnum_neg (n:Int) (hn:n<0) (w:World):
 Calls Tryz.prog 124 #[.int .i64 n] w fun e w'=>e= .returned (.string ⟨#[]⟩)∧w=w':=by
 have hd:decide (n<0)=true:=by simpa using hn
 go_enter Tryz.func124,Tryz.ntmps124
 go_wp2
 go_ret
 exact⟨rfl,rfl⟩
theorem text_eq (s:ByteArray):(⟨(numL s.size).toArray⟩:ByteArray)++s=⟨(textL s.data.toList).toArray⟩:=by
 have e:s.data.toList.length=s.size:=by simp
 apply ByteArray.ext
 simp[ByteArray.data_append,textL,e]
set_option maxHeartbeats 1000000 in
theorem wtext_any (s:ByteArray) (hs:s.size≤1000000000) (w:World):
 Calls Tryz.prog 89 #[.string s] w fun e w'=>e= .returned (.string ⟨(textL s.data.toList).toArray⟩)∧Below w.heap.size w w':=by
 have hl:(⟨(numL s.size).toArray⟩:ByteArray).size≤10:=numL_len s.size
 have he:=Hd.mk (text_eq s)
 have HC:=Hd.mk (fun w=>wnum_any s.size (by omega) w)
 obtain⟨t,ht⟩:∃t:ByteArray,(⟨(numL s.size).toArray⟩:ByteArray)=t:=⟨_,rfl⟩
 rw[ht] at hl he HC
 rw[←he.out]
 have hsum:¬9223372036854775807<t.size+s.size:=by omega
 clear ht
 go_enter Tryz.func89,Tryz.ntmps89
 go_wp2_with fail
 refine(HC.out _).mono ?_
 rintro e w1 ⟨rfl,hB⟩
 have HB:=Hd.mk hB
 clear hB
 go_wp2
 go_ret
 exact⟨rfl,HB.out⟩
theorem ref_byte (m:Nat):∃b:UInt8,UInt8.ofNat (m%128+128)=b∧IntKind.u8.wrap ((m%128:Nat):Int)=((m%128:Nat):Int)∧IntKind.u8.wrap (((m%128:Nat):Int)+128)=(b.toNat:Int)∧((m%128:Nat):Int)+128=(b.toNat:Int):=by
 have hb:(UInt8.ofNat (m%128+128)).toNat=m%128+128:=by simp;omega
 refine⟨_,rfl,?_,?_,?_⟩
 ·rw[IntKind.wrap_u8];omega
 ·rw[IntKind.wrap_u8,hb];omega
 ·rw[hb];omega
set_option maxHeartbeats 1000000 in
set_option maxRecDepth 100000 in
theorem groups_any (n:Nat) (hn:n<18446744073709551616) (w:World):
 Calls Tryz.prog 251 #[.int .u64 n] w fun e w'=>e= .returned (.string ⟨(numL n).toArray⟩)∧Below w.heap.size w w':=by
 obtain⟨i0,hi,hz0,hz1,hz2⟩:=info_parts infoU8
 have HI:Hd (_∧_∧_∧_):=⟨⟨hi,hz0,hz1,hz2⟩⟩
 clear hi hz0 hz1 hz2
 obtain⟨s,hs⟩:∃s:ByteArray,(⟨(numL n).toArray⟩:ByteArray)=s:=⟨_,rfl⟩
 have HBk:Hd (∀W B v,Own W B 5 v (Lib.byteCells (numL n))→(convert 142 9 v).run Tryz.prog W= .ok (.string s) W):=⟨fun W B v h=>by rw[←hs];exact h.back⟩
 rw[hs]
 clear hs
 go_enter Tryz.func251,Tryz.ntmps251
 go_wp2
 go_loopw [0,3] (fun m v wr=>∃(k f:Nat) (acc:List UInt8),k<128 ^(f+1)∧k<18446744073709551616∧acc.length+f=9∧m= .int .u64 k∧Own wr w.heap.size 5 v (Lib.byteCells acc)∧Below w.heap.size w wr∧Hd (numL n=acc++numF f k)) (fun m _ _=>match m with | .int _ k=>k.toNat | _=>0)
 case atStart=>exact⟨n,9,[],by omega,hn,rfl,rfl,Own.nil _ _ _,Below.refl _ _,⟨rfl⟩⟩
 case round=>
  obtain⟨k,f,acc,hk,hk64,hacc,rfl,hO,hB,hN⟩:=hrel
  have HO:=Hd.mk hO
  have HB:=Hd.mk hB
  have hsz:=hB.size
  have bl:=bc_len acc
  by_cases hlt:k<128
  ·have hd:decide (128≤(k:Int))=false:=by simp;omega
   have e1:numL n=acc++[UInt8.ofNat k]:=by rw[hN.out,numF_low f k hlt]
   have eb:((UInt8.ofNat k).toNat:Int)=(k:Int):=by have:(UInt8.ofNat k).toNat=k:=by simp;omega
                                                   omega
   have ew:IntKind.u8.wrap (k:Int)=(k:Int):=by rw[IntKind.wrap_u8];omega
   have E1:=Hd.mk e1
   clear e1 hO hB hN hk hk64
   go_wp2_with (at_builtin;refine wp_app1 rfl _ _ 142 rfl 5 Tryz.underlying142 HI.out.1 HI.out.2.1 HI.out.2.2.1 HI.out.2.2.2 rfl u3 _ _ _ rfl HO.out rfl rfl (by unfold maxLen;omega) (by omega) (by omega) ?_)
   intro v' w' hO' hK' _
   rw[←eb,bc_snoc,←E1.out] at hO'
   have hback:=HBk.out _ _ _ hO'
   have HX:Hd (Below w.heap.size w w'):=⟨HB.out.trans (hK'.below hsz (fun g hg h=>by have:=(HO.out.lt h).1;omega))⟩
   clear hO' hK'
   go_wp2
   go_ret
   exact⟨rfl,HX.out⟩
  ·have hd:decide (128≤(k:Int))=true:=by simp;omega
   obtain⟨f',rfl,hk'⟩:=num_step hk hlt
   obtain⟨b,hb,b1,b2,b3⟩:=ref_byte k
   have e1:numL n=(acc++[b])++numF f' (k/128):=by rw[hN.out,numF_more f' k hlt,hb];simp
   have E1:=Hd.mk e1
   obtain⟨r,hr⟩:∃r,k%128=r:=⟨_,rfl⟩
   obtain⟨q,hq⟩:∃q,k/128=q:=⟨_,rfl⟩
   rw[hr] at b1 b2 b3
   rw[hq] at hk' E1
   have t1:(k:Int).tmod 128=(r:Int):=by rw[Int.tmod_eq_emod_of_nonneg (by omega)];omega
   have t2:(k:Int)%128=(r:Int):=by omega
   have t3:(k:Int).tdiv 128=(q:Int):=by rw[Int.tdiv_eq_ediv_of_nonneg (by omega)];omega
   have t4:(k:Int)/128=(q:Int):=by omega
   have t5:IntKind.u64.wrap (q:Int)=(q:Int):=by rw[IntKind.wrap_u64];omega
   have t6:IntKind.u8.wrap (b.toNat:Int)=(b.toNat:Int):=by have:=b.toNat_lt;rw[IntKind.wrap_u8];omega
   have HQ:=Hd.mk (And.intro hk' (show q<18446744073709551616∧q<k by omega))
   clear e1 hO hB hN hk hk64 hb hr hq hk'
   go_wp2_with (at_builtin;refine wp_app1 rfl _ _ 142 rfl 5 Tryz.underlying142 HI.out.1 HI.out.2.1 HI.out.2.2.1 HI.out.2.2.2 rfl u3 _ _ _ rfl HO.out rfl rfl (by unfold maxLen;omega) (by omega) (by omega) ?_)
   intro v' w' hO' hK' _
   rw[bc_snoc] at hO'
   have HX:Hd (Own w' w.heap.size 5 v' (Lib.byteCells (acc++[b]))∧Below w.heap.size w w'):=⟨hO',HB.out.trans (hK'.below hsz (fun g hg h=>by have:=(HO.out.lt h).1;omega))⟩
   clear hO' hK'
   go_wp2
   go_roundw
   case rel=>exact⟨q,f',acc++[b],HQ.out.1,HQ.out.2.1,by rw[List.length_append];show acc.length+1+f'=9;omega,rfl,HX.out.1,HX.out.2,E1⟩
   case measure=>exact HQ.out.2.2
set_option maxHeartbeats 1000000 in
theorem r2num_any (n:Nat) (hn:n≤9223372036854775807) (w:World):
 Calls Tryz.prog 216 #[.int .i64 n] w fun e w'=>e= .returned (.string ⟨(numL n).toArray⟩)∧Below w.heap.size w w':=by
 have hd:decide ((n:Int)<0)=false:=by simp
 have hc:IntKind.u64.wrap (n:Int)=(n:Int):=by rw[IntKind.wrap_u64];omega
 have HC:=Hd.mk (fun w=>groups_any n (by omega) w)
 obtain⟨s,hs⟩:∃s:ByteArray,(⟨(numL n).toArray⟩:ByteArray)=s:=⟨_,rfl⟩
 rw[hs] at HC⊢
 clear hn hs
 go_enter Tryz.func216,Tryz.ntmps216
 go_wp2_with fail
 refine(HC.out _).mono ?_
 rintro e w1 ⟨rfl,hB⟩
 have HB:=Hd.mk hB
 clear hB
 go_wp2
 go_ret
 exact⟨rfl,HB.out⟩
set_option maxHeartbeats 1000000 in
theorem r2num_neg (n:Int) (hn:n<0) (w:World):
 Calls Tryz.prog 216 #[.int .i64 n] w fun e w'=>e= .returned (.string ⟨#[]⟩)∧w=w':=by
 have hd:decide (n<0)=true:=by simpa using hn
 go_enter Tryz.func216,Tryz.ntmps216
 go_wp2
 go_ret
 exact⟨rfl,rfl⟩
set_option maxHeartbeats 1000000 in
theorem r2text_any (s:ByteArray) (hs:s.size≤1000000000) (w:World):
 Calls Tryz.prog 126 #[.string s] w fun e w'=>e= .returned (.string ⟨(textL s.data.toList).toArray⟩)∧Below w.heap.size w w':=by
 have hl:(⟨(numL s.size).toArray⟩:ByteArray).size≤10:=numL_len s.size
 have he:=Hd.mk (text_eq s)
 have HC:=Hd.mk (fun w=>r2num_any s.size (by omega) w)
 obtain⟨t,ht⟩:∃t:ByteArray,(⟨(numL s.size).toArray⟩:ByteArray)=t:=⟨_,rfl⟩
 rw[ht] at hl he HC
 rw[←he.out]
 have hsum:¬9223372036854775807<t.size+s.size:=by omega
 clear ht
 go_enter Tryz.func126,Tryz.ntmps126
 go_wp2_with fail
 refine(HC.out _).mono ?_
 rintro e w1 ⟨rfl,hB⟩
 have HB:=Hd.mk hB
 clear hB
 go_wp2
 go_ret
 exact⟨rfl,HB.out⟩
end Go.Proofs.YtfaepbjnpakghaaGreatDoor.W
namespace Go.Proofs.YtfaepbjnpakghaaGreatDoor.W
open Go.RowKit
set_option linter.unusedVariables false
theorem owithin_any (n u:Int) (w:World):Calls Tryz.prog 122 #[.int .i64 n, .int .i64 u] w fun e w'=>e= .returned (.bool (decide (0≤n∧n<u)))∧w=w':=by
 by_cases h0:0≤n
 ·by_cases h1:n<u
  ·go_enter Tryz.func122,Tryz.ntmps122
   go_wp2
   go_ret
   exact⟨ret_b (by rw[Bool.eq_iff_iff];simp;try omega),rfl⟩
  ·go_enter Tryz.func122,Tryz.ntmps122
   go_wp2
   go_ret
   exact⟨ret_b (by rw[Bool.eq_iff_iff];simp;try omega),rfl⟩
 ·go_enter Tryz.func122,Tryz.ntmps122
  go_wp2
  go_ret
  exact⟨ret_b (by rw[Bool.eq_iff_iff];simp;try omega),rfl⟩
theorem owidth_any (k:Int) (w:World):Calls Tryz.prog 121 #[.int .i64 k] w fun e w'=>e= .returned (.int .i64 (widthI k:Nat))∧w=w':=by
 by_cases h2:k=2
 ·subst h2
  go_enter Tryz.func121,Tryz.ntmps121
  go_wp2
  go_ret
  exact⟨rfl,rfl⟩
 ·by_cases h3:k=3
  ·subst h3
   go_enter Tryz.func121,Tryz.ntmps121
   go_wp2
   go_ret
   exact⟨rfl,rfl⟩
  ·have e:((widthI k:Nat):Int)=8:=by unfold widthI;rw[if_neg h2,if_neg h3];rfl
   rw[e]
   have d2:(k==2)=false:=by simpa using h2
   have d3:(k==3)=false:=by simpa using h3
   go_enter Tryz.func121,Tryz.ntmps121
   go_wp2
   go_ret
   exact⟨rfl,rfl⟩
theorem oops_any (k:Int) (w:World):Calls Tryz.prog 123 #[.int .i64 k] w fun e w'=>(∃v,e= .returned v∧((codeB k=false∧v= .slice none 0 0)∨(codeB k=true∧∃a n c,v= .slice (some a) n c)))∧Below w.heap.size w w':=by
 have hr:k=5∨k=6∨k=7∨k=8∨k=9∨k=10∨(¬k=5∧¬k=6∧¬k=7∧¬k=8∧¬k=9∧¬k=10):=by omega
 rcases hr with rfl | rfl | rfl | rfl | rfl | rfl | ⟨h5,h6,h7,h8,h9,h10⟩
 case inr.inr.inr.inr.inr.inr=>
  have d5:(k==5)=false:=by simpa using h5
  have d6:(k==6)=false:=by simpa using h6
  have d7:(k==7)=false:=by simpa using h7
  have d8:(k==8)=false:=by simpa using h8
  have d9:(k==9)=false:=by simpa using h9
  have d10:(k==10)=false:=by simpa using h10
  have hc:Hd (codeB k=false):=⟨decide_eq_false (by omega)⟩
  go_enter Tryz.func123,Tryz.ntmps123
  go_wp2
  go_ret
  exact⟨⟨_,rfl, .inl ⟨hc.out,rfl⟩⟩,Below.refl _ _⟩
 all_goals
  go_enter Tryz.func123,Tryz.ntmps123
  go_wp2
  go_ret
  exact⟨⟨_,rfl, .inr ⟨by decide,_,_,_,rfl⟩⟩,by go_grown⟩
theorem ohas_any (w:World) (o:Ob) (x1 x2 x3 x4 x5 x6 x7 x8 x9 x10:Value) (i:Int) (hA:o.At w x1 x2 x3 x4 x5 x6 x7 x8 x9 x10) (hl:lenR o.secs.length):
 Calls Tryz.prog 120 #[.agg (o.cells x1 x2 x3 x4 x5 x6 x7 x8 x9 x10).toArray, .int .i64 i] w fun e w'=>e= .returned (.bool (hasB o i))∧Below w.heap.size w w':=by
 have hcs:(o.cells x1 x2 x3 x4 x5 x6 x7 x8 x9 x10).toArray= #[.string o.name,x1,x2,x3,x4,x5,x6,x7,x8,x9,x10]:=rfl
 rw[hcs]
 have hS:=hA.secs
 obtain⟨p,c,rfl⟩:=hS.slice
 obtain⟨N,hN⟩:∃N,o.secs.length=N:=⟨_,rfl⟩
 unfold lenR at hl
 rw[hN] at hl⊢
 by_cases hin:0≤i∧i< (N:Int)
 ·obtain⟨k,rfl⟩:=Int.eq_ofNat_of_zero_le hin.1
  have hk:k<N:=by omega
  obtain⟨g,of,cs,rfl,hg,hcl,hE,hc⟩:=hS.at rfl (j:=k) (by omega)
  have hB:Hd (hasB o (k:Int)=secOk o.secs[k]):=⟨by unfold hasB;rw[secAt_in (by omega)]⟩
  rw[hB.out]
  obtain⟨s,hs⟩:∃s,o.secs[k]=s:=⟨_,rfl⟩
  rw[hs] at hE⊢
  have hE':cs=s.cells:=hE
  subst hE'
  have hcell:∀(o':Obj),True:=fun _=>trivial
  have c1:∀ob,(w.alloc ob).cell? ⟨g,of+k*6+1,none⟩=some (.int .i64 s.kind):=fun ob=>by rw[World.cell?_alloc_some _ _ _ (by rw[hc 1 _ rfl];rfl)];exact hc 1 _ rfl
  have c2:∀ob,(w.alloc ob).cell? ⟨g,of+k*6+2,none⟩=some (.int .i64 s.align):=fun ob=>by rw[World.cell?_alloc_some _ _ _ (by rw[hc 2 _ rfl];rfl)];exact hc 2 _ rfl
  have c3:∀ob,(w.alloc ob).cell? ⟨g,of+k*6+3,none⟩=some (.int .i64 s.size):=fun ob=>by rw[World.cell?_alloc_some _ _ _ (by rw[hc 3 _ rfl];rfl)];exact hc 3 _ rfl
  have hd:decide (0≤(k:Int)∧(k:Int)< (N:Int))=true:=by simp;omega
  have HW:=Hd.mk (fun w=>owithin_any (k:Int) (N:Int) w)
  rw[hd] at HW
  clear hc hE hA hS hcs hB hs hcell hd hN hin
  by_cases k1:0≤s.kind
  ·by_cases k2:0≤s.align
   ·have hr:Hd (secOk s=decide (0≤s.size)):=⟨by unfold secOk;rw[Bool.eq_iff_iff];simp[k1,k2]⟩
    rw[hr.out]
    go_enter Tryz.func120,Tryz.ntmps120
    go_wp2_with fail
    refine(HW.out _).mono ?_;rintro e w1 ⟨rfl,rfl⟩
    go_wp2
    go_ret
    exact⟨rfl,by go_grown⟩
   ·have hr:Hd (secOk s=false):=⟨by unfold secOk;exact decide_eq_false (fun h=>k2 h.2.1)⟩
    rw[hr.out]
    go_enter Tryz.func120,Tryz.ntmps120
    go_wp2_with fail
    refine(HW.out _).mono ?_;rintro e w1 ⟨rfl,rfl⟩
    go_wp2
    go_ret
    exact⟨rfl,by go_grown⟩
  ·have hr:Hd (secOk s=false):=⟨by unfold secOk;exact decide_eq_false (fun h=>k1 h.1)⟩
   rw[hr.out]
   go_enter Tryz.func120,Tryz.ntmps120
   go_wp2_with fail
   refine(HW.out _).mono ?_;rintro e w1 ⟨rfl,rfl⟩
   go_wp2
   go_ret
   exact⟨rfl,by go_grown⟩
 ·have hB:Hd (hasB o i=false):=⟨by unfold hasB;rw[secAt_out (by omega)]⟩
  rw[hB.out]
  have hd:decide (0≤i∧i< (N:Int))=false:=decide_eq_false hin
  have HW:=Hd.mk (fun w=>owithin_any i (N:Int) w)
  rw[hd] at HW
  clear hA hS hcs hB hd hN hin
  go_enter Tryz.func120,Tryz.ntmps120
  go_wp2_with fail
  refine(HW.out _).mono ?_;rintro e w1 ⟨rfl,rfl⟩
  go_wp2
  go_ret
  exact⟨rfl,by go_grown⟩
end Go.Proofs.YtfaepbjnpakghaaGreatDoor.W
