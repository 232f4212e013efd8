import Derived.Test.YtfaepbjnpakghaaGreatDoorRows
import Derived.WalkKit
import Derived.WalkLawsBesides
import Derived.WalkSpells
import Derived.WalkSmall
import Derived.Handy
import Derived.Lib.Hide
import Derived.Lib.Strings
import Derived.Maps.AppendAt
import Derived.Lib.Builder
import Derived.Laws.IdiomCopy
import Derived.Carry
import Derived.OpenShut
import Derived.Deep.Slices
/- Small laws on memory: a block known whole, a world that keeps all blocks but some. No program. -/
namespace Go.Proofs.YtfaepbjnpakghaaGreatDoor.W
open Go.RowKit
set_option linter.unusedVariables false
structure Blk (w:World) (b:Nat) (T:TypeId) (vs:List Value):Prop where
 is:w.heap[b]? =some (.cells vs.toArray T (0,0))
structure Hd (p:Prop):Prop where
 out:p
theorem Blk.lt {w:World} {b:Nat} {T:TypeId} {vs:List Value} (h:Blk w b T vs):b<w.heap.size:=by
 rcases Nat.lt_or_ge b w.heap.size with h' | h'
 ·exact h'
 ·have:=h.is
  rw[Array.getElem?_eq_none h'] at this;cases this
theorem Blk.cell {w:World} {b:Nat} {T:TypeId} {vs:List Value} (h:Blk w b T vs) (j:Nat):w.cell? ⟨b,j,none⟩=vs[j]? :=by
 simp[World.cell?,h.is]
theorem Blk.at {w:World} {b:Nat} {T:TypeId} {vs:List Value} (h:Blk w b T vs) {j:Nat} {v:Value} (hv:vs[j]? =some v):w.cell? ⟨b,j,none⟩=some v:=(h.cell j).trans hv
theorem Blk.free {w:World} {b:Nat} {T:TypeId} {vs:List Value} (h:Blk w b T vs) (j:Nat):w.frozen? ⟨b,j,none⟩=false:=by
 simp[World.frozen?,h.is]
theorem Blk.set {w:World} {b:Nat} {T:TypeId} {vs:List Value} (h:Blk w b T vs) (j:Nat) (v:Value):Blk (w.setCell ⟨b,j,none⟩ v) b T (vs.set j v):=by
 exact⟨by simp[World.setCell,Array.getElem?_modify,h.is]⟩
theorem Blk.other {w:World} {b:Nat} {T:TypeId} {vs:List Value} (h:Blk w b T vs) {a:Addr} (hne:a.block≠b) (v:Value):Blk (w.setCell a v) b T vs:=by
 exact⟨by simp[World.setCell,Array.getElem?_modify,h.is,hne]⟩
theorem Blk.alloc {w:World} {b:Nat} {T:TypeId} {vs:List Value} (h:Blk w b T vs) (o:Obj):Blk (w.alloc o) b T vs:=by
 have:=h.lt
 refine⟨?_⟩
 show(w.heap.push o)[b]? =_
 rw[Array.getElem?_push,if_neg (by omega),h.is]
theorem Blk.new (w:World) (T:TypeId) (vs:List Value):Blk (w.alloc (.cells vs.toArray T)) w.heap.size T vs:=by
 refine⟨?_⟩
 show(w.heap.push _)[w.heap.size]? =_
 simp
theorem Blk.drew {w:World} {b:Nat} {T:TypeId} {vs:List Value} (h:Blk w b T vs):Blk w.drew b T vs:=⟨h.is⟩
theorem Blk.drewN {w:World} {b:Nat} {T:TypeId} {vs:List Value} (h:Blk w b T vs) (n:Nat):Blk (w.drewN n) b T vs:=⟨h.is⟩
theorem Blk.below {w w':World} {B b:Nat} {T:TypeId} {vs:List Value} (h:Blk w b T vs) (hb:Below B w w') (hlt:b<B):Blk w' b T vs:=by
 exact⟨by rw[hb.block b hlt,h.is]⟩
structure Keeps (S:Nat→Prop) (w w':World):Prop where
 os:w'.os=w.os
 tape:w'.tape=w.tape
 output:w'.output=w.output
 size:w.heap.size≤w'.heap.size
 block:∀k,k<w.heap.size→¬S k→w'.heap[k]? =w.heap[k]?
theorem Keeps.refl (S:Nat→Prop) (w:World):Keeps S w w:=⟨rfl,rfl,rfl,Nat.le_refl _,fun _ _ _=>rfl⟩
theorem Keeps.trans {S:Nat→Prop} {a b c:World} (h:Keeps S a b) (k:Keeps S b c):Keeps S a c:=
 ⟨k.os.trans h.os,k.tape.trans h.tape,k.output.trans h.output,Nat.le_trans h.size k.size,fun i hi hs=>(k.block i (Nat.lt_of_lt_of_le hi h.size) hs).trans (h.block i hi hs)⟩
theorem Keeps.mono {S S':Nat→Prop} {a b:World} (h:Keeps S a b) (hs:∀k,k<a.heap.size→S k→S' k):Keeps S' a b:=
 ⟨h.os,h.tape,h.output,h.size,fun i hi hn=>h.block i hi (fun e=>hn (hs i hi e))⟩
theorem Keeps.drew {S:Nat→Prop} {a b:World} (h:Keeps S a b):Keeps S a b.drew:=⟨h.os,h.tape,h.output,h.size,h.block⟩
theorem Keeps.drewN {S:Nat→Prop} {a b:World} (h:Keeps S a b) (n:Nat):Keeps S a (b.drewN n):=⟨h.os,h.tape,h.output,h.size,h.block⟩
theorem Keeps.alloc {S:Nat→Prop} {a b:World} (h:Keeps S a b) (o:Obj):Keeps S a (b.alloc o):=
 ⟨h.os,h.tape,h.output,by have:=h.size;simp;omega,fun i hi hn=>by
  have hi':i<b.heap.size:=Nat.lt_of_lt_of_le hi h.size
  show(b.heap.push o)[i]? =_
  rw[Array.getElem?_push,if_neg (by omega)]
  exact h.block i hi hn⟩
theorem Keeps.setCell {S:Nat→Prop} {a b:World} (h:Keeps S a b) {p:Addr} (hp:a.heap.size≤p.block∨S p.block) (v:Value):Keeps S a (b.setCell p v):=
 ⟨h.os,h.tape,h.output,by have:=h.size;simp;omega,fun i hi hn=>by
  have hne:p.block≠i:=by
   rcases hp with hp | hp
   ·omega
   ·exact fun e=>hn (e▸hp)
  rw[←h.block i hi hn]
  simp[World.setCell,Array.getElem?_modify,hne]⟩
theorem Keeps.below {S:Nat→Prop} {a b:World} (h:Keeps S a b) {B:Nat} (hB:B≤a.heap.size) (hs:∀k,k<B→¬S k):Below B a b:=
 ⟨h.os,h.tape,h.output,h.size,fun k hk=>h.block k (Nat.lt_of_lt_of_le hk hB) (hs k hk)⟩
theorem Keeps.of_below {S:Nat→Prop} {a b:World} {B:Nat} (h:Below B a b) (hs:∀k,k<a.heap.size→B≤k→S k):Keeps S a b:=
 ⟨h.os,h.tape,h.output,h.size,fun i hi hn=>h.block i (by rcases Nat.lt_or_ge i B with x | x;exact x;exact absurd (hs i hi x) hn)⟩
theorem Keeps.blk {S:Nat→Prop} {w w':World} {b:Nat} {T:TypeId} {vs:List Value} (h:Keeps S w w') (hb:Blk w b T vs) (hs:¬S b):Blk w' b T vs:=by
 exact⟨by rw[h.block b hb.lt hs,hb.is]⟩
theorem Keeps.fresh {S:Nat→Prop} {n:Nat} {o:Obj} {w w':World} (h:Keeps (·=n) (w.alloc o) w') (hn:n=w.heap.size):Keeps S w w':=
 ⟨h.os,h.tape,h.output,by have:=h.size;simp at this;omega,fun i hi _=>by
  rw[h.block i (by simp;omega) (by omega)]
  show(w.heap.push o)[i]? =_
  rw[Array.getElem?_push,if_neg (by omega)]⟩
theorem Blk.cast {w:World} {b:Nat} {T:TypeId} {vs vs':List Value} (h:Blk w b T vs) (e:vs=vs'):Blk w b T vs':=e▸h
theorem Below.chain {w b c:World} (h:Below w.heap.size w b) (k:Below b.heap.size b c):Below w.heap.size w c:=h.trans (k.mono h.size)
theorem str_beq (a b:ByteArray):(a.toList==b.toList)=decide (a=b):=by
 rw[_root_.Go.ByteArray.toList_eq,_root_.Go.ByteArray.toList_eq]
 by_cases h:a=b
 ·subst h;simp
 ·have:¬a.data.toList=b.data.toList:=fun e=>h (by cases a;cases b;simp only[ByteArray.mk.injEq];exact Array.toList_inj.1 e)
  rw[decide_eq_false h,beq_eq_false_iff_ne]
  exact this
theorem ret_b {x y:Bool} (h:x=y):Ending.returned (.bool x)= .returned (.bool y):=by rw[h]
theorem ret_i {x y:Int} (h:x=y):Ending.returned (.int .i64 x)= .returned (.int .i64 y):=by rw[h]
theorem ret_s {x y:ByteArray} (h:x=y):Ending.returned (.string x)= .returned (.string y):=by rw[h]
end Go.Proofs.YtfaepbjnpakghaaGreatDoor.W
namespace Go.Proofs.YtfaepbjnpakghaaGreatDoor.W
open Go.RowKit
set_option linter.unusedVariables false
structure Own (w:World) (B:Nat) (e:TypeId) (v:Value) (xs:List Value):Prop where
 is:(v= .slice none 0 0∧xs=[])∨∃g cap,v= .slice (some ⟨g,0,none⟩) xs.length cap∧B≤g∧xs.length≤cap∧cap≤maxLen∧(∃cur fz,w.heap[g]? =some (.cells cur e fz)∧cur.size=cap)∧
  (∀j u,xs[j]? =some u→w.cell? ⟨g,j,none⟩=some u)∧(∀j,j<cap→w.frozen? ⟨g,j,none⟩=false)
theorem Own.nil (w:World) (B:Nat) (e:TypeId):Own w B e (.slice none 0 0) []:=⟨.inl ⟨rfl,rfl⟩⟩
theorem Own.lt {w:World} {B:Nat} {e:TypeId} {v:Value} {xs:List Value} (h:Own w B e v xs) {k:Nat} (hk:v.ownBlock=some k):B≤k∧k<w.heap.size:=by
 rcases h.is with⟨rfl,_⟩ | ⟨g,cap,rfl,hB,_,_,⟨cur,fz,hg,_⟩,_⟩
 ·cases hk
 ·have:g=k:=by simpa [Value.ownBlock] using hk
  subst this
  refine⟨hB,?_⟩
  rcases Nat.lt_or_ge g w.heap.size with h | h
  ·exact h
  ·rw[Array.getElem?_eq_none h] at hg;cases hg
theorem Own.keeps {S:Nat→Prop} {w w':World} {B:Nat} {e:TypeId} {v:Value} {xs:List Value} (h:Own w B e v xs) (k:Keeps S w w') (hs:∀g,v.ownBlock=some g→¬S g):Own w' B e v xs:=by
 have hlt:=fun {x}=>h.lt (k:=x)
 rcases h.is with h0 | ⟨g,cap,rfl,hB,hn,hm,⟨cur,fz,hg,hc⟩,hcell,hfr⟩
 ·exact⟨.inl h0⟩
 ·have hb:=k.block g (hlt rfl).2 (hs g rfl)
  exact⟨.inr ⟨g,cap,rfl,hB,hn,hm,⟨cur,fz,by rw[hb,hg],hc⟩,fun j u hj=>by rw[World.cell?_of_block hb];exact hcell j u hj,fun j hj=>by rw[World.frozen?_of_block hb];exact hfr j hj⟩⟩
theorem Own.alloc {w:World} {B:Nat} {e:TypeId} {v:Value} {xs:List Value} (h:Own w B e v xs) (o:Obj):Own (w.alloc o) B e v xs:=
 h.keeps ((Keeps.refl (fun _=>False) w).alloc o) (fun _ _ h=>h)
theorem Own.slice {w:World} {B:Nat} {e:TypeId} {v:Value} {xs:List Value} (h:Own w B e v xs) (h0:0<xs.length):∃g cap,v= .slice (some ⟨g,0,none⟩) xs.length cap:=by
 rcases h.is with⟨_,rfl⟩ | ⟨g,cap,rfl,_⟩
 ·simp at h0
 ·exact⟨g,cap,rfl⟩
theorem Own.cast {w:World} {B:Nat} {e:TypeId} {v:Value} {xs xs':List Value} (h:Own w B e v xs) (x:xs=xs'):Own w B e v xs':=x▸h
theorem Own.of_row {w:World} {B:Nat} {e:TypeId} {v:Value} {n:Nat} {xs:List Value} (h:w.ownsRow B e 1 v n xs):Own w B e v xs:=by
 have hl:=h.1
 rcases h.2 with⟨rfl,h0⟩ | ⟨g,cap,cur,rfl,hB,hg,hn,hm,hc,ht⟩
 ·exact⟨.inl ⟨rfl,List.eq_nil_of_length_eq_zero (by omega)⟩⟩
 ·have hln:xs.length=n:=by omega
  subst hln
  refine⟨.inr ⟨g,cap,rfl,hB,hn,hm,⟨cur,_,hg,by omega⟩,fun j u hj=> ?_,fun j _=>by simp[World.frozen?,hg]⟩⟩
  have:=h.cells (g:=g) rfl j u hj
  have ea:(⟨g,0,none⟩:Addr).add j=⟨g,j,none⟩:=by unfold Addr.add;split<;>simp_all
  rwa [ea] at this
theorem keeps_setCells {g:Nat}:∀(us:List Value) (o:Nat) (w:World),Keeps (fun k=>some g=some k) w (w.setCells g o us)
 | [],_,w=>Keeps.refl _ w
 | u::r,o,w=>by
   have h1:Keeps (fun k=>some g=some k) w (w.setCell ⟨g,o,none⟩ u):=(Keeps.refl (fun k=>some g=some k) w).setCell (p:=⟨g,o,none⟩) (.inr rfl) u
   exact h1.trans (keeps_setCells r (o+1) _)
theorem heap_setCells {g:Nat} {e:TypeId} {fz:Nat × Nat}:∀(us:List Value) (o:Nat) (w:World) (cur:Array Value),w.heap[g]? =some (.cells cur e fz)→∃cur',(w.setCells g o us).heap[g]? =some (.cells cur' e fz)∧cur'.size=cur.size
 | [],_,_,cur,h=>⟨cur,h,rfl⟩
 | u::r,o,w,cur,h=>by
   have h1:(w.setCell ⟨g,o,none⟩ u).heap[g]? =some (.cells (cur.setIfInBounds o u) e fz):=by simp[World.setCell,Array.getElem?_modify,h]
   obtain⟨c,hc,hs⟩:=heap_setCells r (o+1) _ _ h1
   exact⟨c,hc,by simpa using hs⟩
theorem run_app {P:Program} (w:World) (t ty e:TypeId) {i:TypeInfo} {z:Value} {bytes:Nat} (ht:P.underlying t=some (.slice e)) (hi:P.info? e=some i) (hz:i.zero=some z) (hsize:i.size=1) (hby:i.bytes=bytes) (hzs:z.cells.size=1)
 {B:Nat} (v:Value) (xs us:List Value) (hown:Own w B e v xs) (H c:Nat) (hus:∀j u,us[j]? =some u→w.cell? ⟨H,j,none⟩=some u) (h1:∀u∈us,u.oneCell'=true)
 (h63:xs.length+us.length≤maxLen) (hbytes:(xs.length+us.length)*bytes≤140737488355328) (hB:B≤w.heap.size):
 ∃v' w',(Builtin.append_ #[t,t] ty #[v, .slice (some ⟨H,0,none⟩) us.length c]).run P w= .ok v' w'∧Own w' B e v' (xs++us)∧Keeps (fun k=>v.ownBlock=some k) w w'∧(v'.ownBlock=v.ownBlock∨v'.ownBlock=some w.heap.size):=by
 have add0:∀(g j:Nat),(⟨g,0,none⟩:Addr).add j=⟨g,j,none⟩:=fun g j=>by unfold Addr.add;split<;>simp_all
 rcases hown.is with⟨rfl,rfl⟩ | ⟨g,cap,rfl,hg0,hn,hm,⟨cur,fz,hg,hcs⟩,hcell,hfr⟩
 ·obtain⟨v',w',hr,h2,h3,_,h5⟩:=run_append_own_at (P:=P) w B t ty e i z 1 bytes ht hi hz hsize hby hzs (by decide) (.slice none 0 0) 0 [] (World.ownsRow_nil w B e 1) ⟨H,0,none⟩ us.length c us (by omega) (fun j u hj=>by rw[add0];exact hus j u hj) h1 (by simpa using h63) (by simpa using hbytes) hB
  exact⟨v',w',hr,Own.of_row h2,⟨h3.os,h3.tape,h3.output,h3.size,fun k hk hn=>h3.block k hk (fun c=>hn c.symm)⟩,h5⟩
 ·by_cases hroom:xs.length+us.length≤cap
  ·have hf:=run_firstCells_some (P:=P) w 1 us.length ⟨H,0,none⟩ us.length c us (by omega) (fun j u hj=>by rw[add0];exact hus j u hj)
   have hsome:∀j,j<us.length→(w.cell? ⟨g,xs.length+0+j,none⟩).isSome=true:=fun j hj=>by
    have:xs.length+0+j<cur.size:=by omega
    simp[World.cell?,hg]
    omega
   have hst:=run_storeCells_cells (P:=P) g xs.length us 0 w hsome (fun j hj=>hfr _ (by omega)) h1
   refine⟨.slice (some ⟨g,0,none⟩) (xs.length+us.length) cap,w.setCells g xs.length us,?_,?_,keeps_setCells us _ w, .inl rfl⟩
   ·simp only[Nat.add_zero] at hst
    simp[Builtin.append_,run_underlying ht,sizeOf,typeInfo,hi,Builtin.lenOf,hroom,hsize,Addr.add_lit,hf,hst]
   ·obtain⟨cur',hg',hs'⟩:=heap_setCells us xs.length w cur hg
    refine⟨.inr ⟨g,cap,by rw[List.length_append],hg0,by rw[List.length_append];exact hroom,hm,⟨cur',fz,hg',by omega⟩,fun j u hj=> ?_,fun j hj=>by rw[World.frozen?_setCells];exact hfr j hj⟩⟩
    by_cases hlt:j<xs.length
    ·rw[World.cell?_setCells_out _ _ _ _ _ (fun _ _=> .inl hlt)]
     rw[List.getElem?_append_left hlt] at hj
     exact hcell j u hj
    ·rw[List.getElem?_append_right (by omega)] at hj
     have hju:j-xs.length<us.length:=(List.getElem?_eq_some_iff.1 hj).1
     have:=World.cell?_setCells_in g us xs.length w (fun k hk=>by simpa using hsome k hk) (j-xs.length) hju
     rw[show xs.length+(j-xs.length)=j by omega] at this
     rw[this]
     rw[List.getElem?_eq_getElem hju] at hj
     exact hj
  ·have hr:=run_append_grow (P:=P) w t ty e i z ht hi hz ⟨g,0,none⟩ xs.length cap xs (by rw[hsize];omega) (fun j u hj=>by rw[add0];exact hcell j u hj) ⟨H,0,none⟩ us.length c us (by rw[hsize];omega) (fun j u hj=>by rw[add0];exact hus j u hj) (by omega) (by simp only[maxLen] at h63;omega) (growslice_fits (by omega) (by rw[hby];exact hbytes))
   refine⟨_,_,hr,Own.of_row (n:=xs.length+us.length) ⟨by rw[List.length_append];omega, .inr ⟨w.heap.size,_,_,rfl,hB,heap_alloc_new w.drew _,grownCap_ge w _ cap e,grownCap_le_maxLen w _ cap e h63,?_,?_⟩⟩,((Keeps.refl _ w).drew).alloc _, .inr rfl⟩
   ·have hge:=grownCap_ge w (xs.length+us.length) cap e
    simp only[Array.size_append,List.size_toArray,size_zeroCells,hzs]
    omega
   ·simp only[Array.toList_append,List.append_assoc]
    rw[←List.append_assoc,show(xs.length+us.length)*1=(xs++us).length by rw[List.length_append];omega]
    exact List.take_left
theorem wp_app {P:Program} {ops:Array Oper} {rest:List Oper} {o:Oper} {a:Act} {Q:Exit→Act→World→Prop} (hgd:o.guard=none) (s x:Operand) (t:TypeId)
 (ho:o.op= .call {callee:= .builtin .append,args:= #[s,x],argTypes:= #[t,t]})
 (e:TypeId) {i:TypeInfo} {z:Value} {bytes:Nat} (ht:P.underlying t=some (.slice e)) (hi:P.info? e=some i) (hz:i.zero=some z) (hsize:i.size=1) (hby:i.bytes=bytes) (hzs:z.cells.size=1)
 {B:Nat} (v:Value) (xs us:List Value) (W:World) (hs:a.eval s=v) (hown:Own W B e v xs) (hx:a.eval x= .slice (some ⟨W.heap.size,0,none⟩) us.length us.length) (h1:∀u∈us,u.oneCell'=true)
 (hl:xs.length+us.length≤maxLen) (hlen:(xs.length+us.length)*bytes≤140737488355328) (hB:B≤W.heap.size)
 (h:∀v' w',Own w' B e v' (xs++us)→Keeps (fun k=>v.ownBlock=some k) W w'→(v'.ownBlock=v.ownBlock∨∃k,W.heap.size≤k∧v'.ownBlock=some k)→wpList P ops Q rest (a.put o.dst v') w'):
 wpList P ops Q (o::rest) a (W.alloc (.cells us.toArray e)):=by
 obtain⟨v',w',hr,h2,h3,h5⟩:=run_app (P:=P) (W.alloc (.cells us.toArray e)) t o.type e ht hi hz hsize hby hzs v xs us (hown.alloc _) W.heap.size us.length (fun j u hj=>by
  have hb:(W.alloc (.cells us.toArray e)).heap[W.heap.size]? =some (.cells us.toArray e (0,0)):=by
   show(W.heap.push _)[W.heap.size]? =_
   simp
  simp only[World.cell?,hb]
  simpa using hj) h1 hl hlen (by simp;omega)
 refine wpList_plain hgd fun K hK=> ?_
 unfold Oper.wp execOp
 simp only[ho,resolve,invoke,builtin,Sem.run_bind,Sem.run_pure,Result.andThen_ok,List.map_toArray,List.map_cons,List.map_nil,hs,hx,hr]
 refine hK _ _ (h v' w' h2 (((Keeps.refl _ W).alloc _).trans h3) ?_)
 rcases h5 with h5 | h5
 ·exact .inl h5
 ·exact .inr ⟨W.heap.size+1,by omega,by simpa using h5⟩
theorem wp_app1 {P:Program} {ops:Array Oper} {rest:List Oper} {o:Oper} {a:Act} {Q:Exit→Act→World→Prop} (hgd:o.guard=none) (s x:Operand) (t:TypeId)
 (ho:o.op= .call {callee:= .builtin .append,args:= #[s,x],argTypes:= #[t,t]})
 (e:TypeId) {i:TypeInfo} {z:Value} {bytes:Nat} (ht:P.underlying t=some (.slice e)) (hi:P.info? e=some i) (hz:i.zero=some z) (hsize:i.size=1) (hby:i.bytes=bytes) (hzs:z.cells.size=1)
 {B:Nat} (v:Value) (xs:List Value) (u:Value) (W:World) (hs:a.eval s=v) (hown:Own W B e v xs) (hx:a.eval x= .slice (some ⟨W.heap.size,0,none⟩) 1 1) (h1:u.oneCell'=true)
 (hl:xs.length+1≤maxLen) (hlen:(xs.length+1)*bytes≤140737488355328) (hB:B≤W.heap.size)
 (h:∀v' w',Own w' B e v' (xs++[u])→Keeps (fun k=>v.ownBlock=some k) W w'→(v'.ownBlock=v.ownBlock∨∃k,W.heap.size≤k∧v'.ownBlock=some k)→wpList P ops Q rest (a.put o.dst v') w'):
 wpList P ops Q (o::rest) a (W.alloc (.cells #[u] e)):=
 wp_app hgd s x t ho e ht hi hz hsize hby hzs v xs [u] W hs hown hx (fun y hy=>by simp at hy;subst hy;exact h1) hl hlen hB h
theorem step_app {P:Program} {ops:Array Oper} {o:Oper} {a:Act} {K:Act→World→Prop} {Q:Exit→Act→World→Prop} {E:Prop} (hgd:o.guard=none) (s x:Operand) (t:TypeId)
 (ho:o.op= .call {callee:= .builtin .append,args:= #[s,x],argTypes:= #[t,t]})
 (e:TypeId) {i:TypeInfo} {z:Value} {bytes:Nat} (ht:P.underlying t=some (.slice e)) (hi:P.info? e=some i) (hz:i.zero=some z) (hsize:i.size=1) (hby:i.bytes=bytes) (hzs:z.cells.size=1)
 {B:Nat} (v:Value) (xs us:List Value) (W:World) (H c:Nat) (hs:a.eval s=v) (hown:Own W B e v xs) (hx:a.eval x= .slice (some ⟨H,0,none⟩) us.length c) (hH:∃T f,W.heap[H]? =some (.cells us.toArray T f)) (h1:∀u∈us,u.oneCell'=true)
 (hl:xs.length+us.length≤maxLen) (hlen:(xs.length+us.length)*bytes≤140737488355328) (hB:B≤W.heap.size)
 (h:∀v' w',Own w' B e v' (xs++us)→Keeps (fun k=>v.ownBlock=some k) W w'→(v'.ownBlock=v.ownBlock∨∃k,W.heap.size≤k∧v'.ownBlock=some k)→K (a.put o.dst v') w'):
 if Region.wanted o (yielded ops a.tmps)=true then Oper.wp P o a W K Q else E:=by
 have hw:Region.wanted o (yielded ops a.tmps)=true:=by simp[Region.wanted,hgd]
 rw[if_pos hw]
 obtain⟨T,f,hT⟩:=hH
 obtain⟨v',w',hr,h2,h3,h5⟩:=run_app (P:=P) W t o.type e ht hi hz hsize hby hzs v xs us hown H c (fun j u hj=>by
  simp only[World.cell?,hT]
  simpa using hj) h1 hl hlen hB
 unfold Oper.wp execOp
 simp only[ho,resolve,invoke,builtin,Sem.run_bind,Sem.run_pure,Result.andThen_ok,List.map_toArray,List.map_cons,List.map_nil,hs,hx,hr]
 refine h v' w' h2 h3 ?_
 rcases h5 with h5 | h5
 ·exact .inl h5
 ·exact .inr ⟨W.heap.size,Nat.le_refl _,h5⟩
theorem step_app1 {P:Program} {ops:Array Oper} {o:Oper} {a:Act} {K:Act→World→Prop} {Q:Exit→Act→World→Prop} {E:Prop} (hgd:o.guard=none) (s x:Operand) (t:TypeId)
 (ho:o.op= .call {callee:= .builtin .append,args:= #[s,x],argTypes:= #[t,t]})
 (e:TypeId) {i:TypeInfo} {z:Value} {bytes:Nat} (ht:P.underlying t=some (.slice e)) (hi:P.info? e=some i) (hz:i.zero=some z) (hsize:i.size=1) (hby:i.bytes=bytes) (hzs:z.cells.size=1)
 {B:Nat} (v:Value) (xs:List Value) (u:Value) (W:World) (H c:Nat) (hs:a.eval s=v) (hown:Own W B e v xs) (hx:a.eval x= .slice (some ⟨H,0,none⟩) 1 c) (hH:∃T f,W.heap[H]? =some (.cells #[u] T f)) (h1:u.oneCell'=true)
 (hl:xs.length+1≤maxLen) (hlen:(xs.length+1)*bytes≤140737488355328) (hB:B≤W.heap.size)
 (h:∀v' w',Own w' B e v' (xs++[u])→Keeps (fun k=>v.ownBlock=some k) W w'→(v'.ownBlock=v.ownBlock∨∃k,W.heap.size≤k∧v'.ownBlock=some k)→K (a.put o.dst v') w'):
 if Region.wanted o (yielded ops a.tmps)=true then Oper.wp P o a W K Q else E:=
 step_app hgd s x t ho e ht hi hz hsize hby hzs v xs [u] W H c hs hown hx hH (fun y hy=>by simp at hy;subst hy;exact h1) hl hlen hB h
theorem infoU8:(Tryz.prog.info? 5).map (fun i=>(i.zero,i.size,i.bytes))=some (some (.int .u8 0),1,1):=by kernel_rfl
theorem back_nil (W:World):(convert 142 9 (.slice none 0 0)).run Tryz.prog W= .ok (.string ⟨#[]⟩) W:=by kernel_rfl
theorem Own.back {W:World} {B:Nat} {v:Value} {l:List UInt8} (h:Own W B 5 v (Lib.byteCells l)):(convert 142 9 v).run Tryz.prog W= .ok (.string ⟨l.toArray⟩) W:=by
 have hl:(Lib.byteCells l).length=l.length:=by simp[Lib.byteCells]
 rcases h.is with⟨rfl,h0⟩ | ⟨g,cap,rfl,_,_,_,_,hcell,_⟩
 ·have e:l=[]:=List.length_eq_zero_iff.1 (by rw[←hl,h0];rfl)
  subst e
  exact back_nil W
 ·rw[hl]
  exact run_convert_bytes_back (P:=Tryz.prog) W 142 9 5 ⟨g,0,none⟩ cap l Tryz.underlying142 Tryz.underlying5 Tryz.underlying9 (fun j hj=>by
   have ea:(⟨g,0,none⟩:Addr).add j=⟨g,j,none⟩:=by unfold Addr.add;split<;>simp_all
   rw[ea]
   refine hcell j _ ?_
   simp[Lib.byteCells,List.getElem?_eq_getElem hj])
theorem Own.of_string (w:World) (s:ByteArray) (cap:Nat) (hc:s.size≤cap) (hm:cap≤maxLen):
 Own (w.drew.alloc (.cells (bytesRow s cap) 5 ((bytesRow s cap).size,(bytesRow s cap).size+1))) w.heap.size 5 (.slice (some ⟨w.heap.size,0,none⟩) s.size cap) (Lib.byteCells s.data.toList):=by
 have hl:(Lib.byteCells s.data.toList).length=s.size:=by simp[Lib.byteCells]
 have hsz:(bytesRow s cap).size=cap:=by simp[bytesRow];omega
 have hb:(w.drew.alloc (.cells (bytesRow s cap) 5 ((bytesRow s cap).size,(bytesRow s cap).size+1))).heap[w.heap.size]? =some (.cells (bytesRow s cap) 5 ((bytesRow s cap).size,(bytesRow s cap).size+1)):=by
  show(w.heap.push _)[w.heap.size]? =_
  simp
 refine⟨.inr ⟨w.heap.size,cap,by rw[hl],Nat.le_refl _,by rw[hl];exact hc,hm,⟨_,_,hb,hsz⟩,fun j u hj=> ?_,fun j hj=> ?_⟩⟩
 ·have hj':j<s.size:=by rw[←hl];exact(List.getElem?_eq_some_iff.1 hj).1
  have h:=bytesRow_at s cap j hj'
  simp only[World.cell?,hb]
  rw[show(bytesRow s cap)[j]? =some u from by rw[h,←hj];simp[Lib.byteCells,hj']]
  rfl
 ·simp only[World.frozen?,hb];simp;omega
theorem i64_xor_nat (a b:Nat) (ha:a<9223372036854775808) (hb:b<9223372036854775808):bits .xor .i64 (a:Int) (b:Int)=((a ^^^ b:Nat):Int):=by
 have hx:a ^^^ b<2 ^ 63:=Nat.xor_lt_two_pow (by omega) (by omega)
 show IntKind.i64.wrap ((BitVec.ofInt 64 (a:Int)^^^ BitVec.ofInt 64 (b:Int)).toNat:Int)=_
 rw[BitVec.toNat_xor,ofInt_u64 a (by omega),ofInt_u64 b (by omega)]
 exact IntWalk.i64_in _ (by omega)
theorem u8_xor (a b:UInt8):bits BinOp.xor IntKind.u8 (a.toNat:Int) (b.toNat:Int)=((a ^^^ b).toNat:Int):=by
 rw[UInt8.toNat_xor]
 exact u8_xor_nat a.toNat b.toNat a.toNat_lt b.toNat_lt
end Go.Proofs.YtfaepbjnpakghaaGreatDoor.W
namespace Go.Proofs.YtfaepbjnpakghaaGreatDoor.W
open Go.RowKit Go.ChangeShapes Go.WideShapes
set_option linter.unusedVariables false
section
variable {H:Type} {enc:TypeId × Value→H} {P:Program}
def rowsB (P:Program) (ts:List TypeId):Bool:=ts.all fun t=>P.readableRec t&&decide (t<P.types.size)
theorem trodAll_below (hl:laidOutB P=true) {W W':World} (hb:Below W.heap.size W W'):∀ {ts:List TypeId} {vs:List Value} {ds:List (DataW H)} {ps:List MemPlace},rowsB P ts=true→
 DataW.TrodAll enc P W 0 (fun _=>true) true ts vs ds ps→(∀x∈ps,x.block<W.heap.size)→DataW.TrodAll enc P W' 0 (fun b=>decide (b<W.heap.size)) true ts vs ds ps
 | [],[],[],_,_,h,_=>h
 | [],_::_,_,_,_,h,_=>h.elim
 | [],[],_::_,_,_,h,_=>h.elim
 | _::_,[],_,_,_,h,_=>h.elim
 | _::_,_::_,[],_,_,h,_=>h.elim
 | t::ts,v::vs,d::ds,ps,hr,h,hlt=>by
   obtain⟨p,q,h1,h2,rfl⟩:=h
   simp only[rowsB,List.all_cons,Bool.and_eq_true,decide_eq_true_eq] at hr
   exact⟨p,q,Below.trod hl hr.1.1 hr.1.2 h1 hb (fun x hx=>hlt x (List.mem_append.2 (.inl hx))),trodAll_below hl hb (by simpa [rowsB] using hr.2) h2 (fun x hx=>hlt x (List.mem_append.2 (.inr hx))),rfl⟩
theorem spot_none {w:World} {a:Addr} {v:Value} (h:w.cell? a=some v):a.spot=none:=by
 unfold World.cell? at h
 split at h
 ·split at h
  ·cases h
  ·rename_i hs;simpa using hs
 ·cases h
theorem addr_none {a:Addr} (h:a.spot=none):a=⟨a.block,a.off,none⟩:=by
 cases a;simp at h;subst h;rfl
theorem add_none (g o j:Nat):(⟨g,o,none⟩:Addr).add j=⟨g,o+j,none⟩:=by unfold Addr.add;split<;>simp_all
theorem arg_ints_raw {W:World} {t e:TypeId} {k:IntKind} {v:Value} {d:DataW H} {p:List MemPlace} (ht:P.underlying t=some (.slice e)) (he:P.underlying e=some (.int k)) (hc:P.cellsOf e=1)
 (hok:∃a len cap,v= .slice a len cap) (h:DataW.Trod enc P W 0 (fun _=>true) true t v d p):
 ∃ks:List Int,((ks=[]∧(v= .slice none 0 0∨∃a c,v= .slice (some a) 0 c))∨(∃g o cap,v= .slice (some ⟨g,o,none⟩) ks.length cap∧g<W.heap.size∧∀j x,ks[j]? =some x→W.cell? ⟨g,o+j,none⟩=some (.int k x)))∧ks.length≤maxLen∧∀x∈ks,(Lit.int k x).wf=true:=by
 obtain⟨a0,len,cap,rfl⟩:=hok
 obtain⟨fuel,hf⟩:=h
 have hcells:(Value.slice a0 len cap).cells.toList=[.slice a0 len cap]:=rfl
 rw[hcells] at hf
 rcases open_ints ht he hc hf with⟨hcs,hx⟩ | ⟨a,len',cap',zs,hcs,_,hl,hm,hz,hx,hcell,hwz⟩
 ·simp only[List.cons.injEq,and_true] at hcs
  rw[hcs]
  exact⟨[], .inl ⟨rfl, .inl rfl⟩,by simp,by simp⟩
 ·simp only[List.cons.injEq,and_true] at hcs
  rw[hcs]
  simp only[if_true] at hz
  have hlen:(zs.take len').length=len':=by rw[List.length_take];omega
  refine⟨zs.take len',?_,by omega,fun x hx=>hwz x (List.mem_of_mem_take hx)⟩
  rcases Nat.eq_zero_or_pos len' with h0 | h0
  ·subst h0
   exact .inl ⟨by simp, .inr ⟨a,cap',rfl⟩⟩
  ·have c0:=hcell 0 (by omega)
   have e0:a.add 0=a:=by unfold Addr.add;simp
   rw[e0] at c0
   have ha:=addr_none (spot_none c0)
   refine .inr ⟨a.block,a.off,cap',by rw[hlen,←ha],World.block_lt_of_cell? W a (by rw[c0]),fun j x hj=> ?_⟩
   have hjl:=(List.getElem?_eq_some_iff.1 hj).1
   have:=hcell j (by omega)
   rw[ha,add_none] at this
   rw[this]
   rw[List.getElem?_take,if_pos (by omega)] at hj
   simp[List.getD_eq_getElem?_getD,hj]
end
end Go.Proofs.YtfaepbjnpakghaaGreatDoor.W
namespace Go.Proofs.YtfaepbjnpakghaaGreatDoor.W
open Go.RowKit
set_option linter.unusedVariables false
def I64 (x:Int):Prop:= -9223372036854775808≤x∧x≤9223372036854775807
def lenR (n:Nat):Prop:=n≤140737488351232
def Stays {α:Type} (E:World→List Value→α→Prop):Prop:=∀w w' cs x,Below w.heap.size w w'→E w cs x→E w' cs x
structure Rw {α:Type} (m:Nat) (E:World→List Value→α→Prop) (w:World) (v:Value) (xs:List α):Prop where
 is:(xs=[]∧(v= .slice none 0 0∨∃a c,v= .slice (some a) 0 c))∨(∃g o cap,v= .slice (some ⟨g,o,none⟩) xs.length cap∧g<w.heap.size∧
  ∀j x,xs[j]? =some x→∃cs,cs.length=m∧E w cs x∧∀i u,cs[i]? =some u→w.cell? ⟨g,o+j*m+i,none⟩=some u)
variable {α:Type} {m:Nat} {E:World→List Value→α→Prop} {w w':World} {v:Value} {xs:List α}
theorem Rw.nil (w:World):Rw m E w (.slice none 0 0) []:=⟨.inl ⟨rfl, .inl rfl⟩⟩
theorem Rw.slice (h:Rw m E w v xs):∃p c,v= .slice p xs.length c:=by
 rcases h.is with⟨rfl,rfl | ⟨a,c,rfl⟩⟩ | ⟨g,o,cap,rfl,_⟩
 ·exact⟨none,0,rfl⟩
 ·exact⟨some a,c,rfl⟩
 ·exact⟨_,cap,rfl⟩
theorem Rw.below (h:Rw m E w v xs) (hE:Stays E) (hb:Below w.heap.size w w'):Rw m E w' v xs:=by
 refine⟨h.is.imp_right ?_⟩
 rintro⟨g,o,cap,e,hg,hc⟩
 refine⟨g,o,cap,e,Nat.lt_of_lt_of_le hg hb.size,fun j x hx=> ?_⟩
 obtain⟨cs,h1,h2,h3⟩:=hc j x hx
 exact⟨cs,h1,hE w w' cs x hb h2,fun i u hu=>by rw[hb.cell (p:=⟨g,o+j*m+i,none⟩) hg];exact h3 i u hu⟩
theorem Stays.row {m:Nat} {E:World→List Value→α→Prop} (hE:Stays E):Stays (fun w cs (xs:List α)=>∃v,cs=[v]∧Rw m E w v xs):=by
 rintro w w' cs x hb ⟨v,rfl,h⟩
 exact⟨v,rfl,h.below hE hb⟩
theorem Rw.at (h:Rw m E w v xs) {p:Option Addr} {n c:Nat} (hv:v= .slice p n c) {j:Nat} (hj:j<xs.length):
 ∃g o cs,p=some ⟨g,o,none⟩∧g<w.heap.size∧cs.length=m∧E w cs xs[j]∧∀i u,cs[i]? =some u→w.cell? ⟨g,o+j*m+i,none⟩=some u:=by
 rcases h.is with⟨rfl,_⟩ | ⟨g,o,cap,e,hg,hc⟩
 ·simp at hj
 ·rw[hv] at e
  injection e with e1 _ _
  obtain⟨cs,h1,h2,h3⟩:=hc j _ (List.getElem?_eq_getElem hj)
  exact⟨g,o,cs,e1,hg,h1,h2,h3⟩
theorem Rw.take (h:Rw m E w v xs) {p:Option Addr} {l c n:Nat} (hv:v= .slice p l c) (hn:n≤xs.length):Rw m E w (.slice p n c) (xs.take n):=by
 rcases h.is with⟨rfl,h0⟩ | ⟨g,o,cap,e,hg,hc⟩
 ·have:n=0:=by simpa using hn
  subst this
  rcases h0 with h0 | ⟨a,c',h0⟩
  ·rw[hv] at h0;injection h0 with e1 e2 e3;subst e1;subst e3;exact⟨.inl ⟨by simp, .inl rfl⟩⟩
  ·rw[hv] at h0;injection h0 with e1 e2 e3;subst e1;subst e3;exact⟨.inl ⟨by simp, .inr ⟨a,c,rfl⟩⟩⟩
 ·rw[hv] at e
  injection e with e1 e2 e3
  subst e1;subst e3
  exact⟨.inr ⟨g,o,c,by rw[List.length_take,Nat.min_eq_left hn],hg,fun j x hx=>hc j x (by rw[List.getElem?_take] at hx;split at hx;exact hx;cases hx)⟩⟩
theorem Rw.of_own {B:Nat} {e:TypeId} {us:List Value} {xs:List α} (h:Own w B e v us) (hl:us.length=xs.length) (hE:∀(j:Nat) x u,xs[j]? =some x→us[j]? =some u→E w [u] x):Rw 1 E w v xs:=by
 rcases h.is with⟨rfl,rfl⟩ | ⟨g,cap,rfl,hg,hn,hm,⟨cur,fz,hb,_⟩,hc,_⟩
 ·have:xs=[]:=List.eq_nil_of_length_eq_zero hl.symm
  exact⟨.inl ⟨this, .inl rfl⟩⟩
 ·refine⟨.inr ⟨g,0,cap,by rw[hl],?_,fun j x hx=> ?_⟩⟩
  ·rcases Nat.lt_or_ge g w.heap.size with h' | h'
   ·exact h'
   ·rw[Array.getElem?_eq_none h'] at hb;cases hb
  ·have hj:j<us.length:=by rw[hl];exact(List.getElem?_eq_some_iff.1 hx).1
   refine⟨[us[j]],rfl,hE j x _ hx (List.getElem?_eq_getElem hj),fun i u hu=> ?_⟩
   cases i with
   | zero=>
     rw[Nat.zero_add,Nat.mul_one,Nat.add_zero]
     exact hc j u (by rw[List.getElem?_eq_getElem hj];simpa using hu)
   | succ i=>simp at hu
theorem Rw.of_blk {g:Nat} {T:TypeId} {us:List Value} {css:List (List Value)} (hb:Blk w g T us) (hu:us=css.flatten) (hl:css.length=xs.length) (hm:∀cs∈css,cs.length=m) (hE:∀(j:Nat) x cs,xs[j]? =some x→css[j]? =some cs→E w cs x) {cap:Nat}:Rw m E w (.slice (some ⟨g,0,none⟩) xs.length cap) xs:=by
 refine⟨.inr ⟨g,0,cap,rfl,hb.lt,fun j x hx=> ?_⟩⟩
 have hj:j<css.length:=by rw[hl];exact(List.getElem?_eq_some_iff.1 hx).1
 refine⟨css[j],hm _ (List.getElem_mem hj),hE j x _ hx (List.getElem?_eq_getElem hj),fun i u hi=> ?_⟩
 refine hb.at ?_
 rw[hu,Nat.zero_add]
 have key:∀(css:List (List Value)) (j i:Nat) (u:Value) (hj:j<css.length),(∀cs∈css,cs.length=m)→(css[j])[i]? =some u→css.flatten[j*m+i]? =some u:=by
  intro css
  induction css with
  | nil=>intro j i u hj;simp at hj
  | cons c r ih=>
    intro j i u hj hm hu
    have hc:=hm c (by simp)
    rw[List.flatten_cons]
    cases j with
    | zero=>
      have hi:i<c.length:=(List.getElem?_eq_some_iff.1 hu).1
      rw[Nat.zero_mul,Nat.zero_add,List.getElem?_append_left hi]
      exact hu
    | succ j=>
      rw[List.getElem?_append_right (by rw[hc,Nat.succ_mul];omega),hc,show(j+1)*m+i-m=j*m+i by rw[Nat.succ_mul];omega]
      exact ih j i u (by simpa using hj) (fun cs h=>hm cs (by simp[h])) (by simpa using hu)
 exact key css j i u hj hm hi
def intE (w:World) (cs:List Value) (x:Int):Prop:=cs=[.int .i64 x]
def strE (w:World) (cs:List Value) (x:ByteArray):Prop:=cs=[.string x]
def boolE (w:World) (cs:List Value) (x:Bool):Prop:=cs=[.bool x]
theorem intE_stays:Stays intE:=fun _ _ _ _ _ h=>h
theorem strE_stays:Stays strE:=fun _ _ _ _ _ h=>h
theorem boolE_stays:Stays boolE:=fun _ _ _ _ _ h=>h
theorem Rw.of_blk1 {g:Nat} {T:TypeId} {us:List Value} (hb:Blk w g T us) (hl:us.length=xs.length) (hE:∀(j:Nat) x u,xs[j]? =some x→us[j]? =some u→E w [u] x) {cap:Nat}:Rw 1 E w (.slice (some ⟨g,0,none⟩) xs.length cap) xs:=by
 refine⟨.inr ⟨g,0,cap,rfl,hb.lt,fun j x hx=> ?_⟩⟩
 have hj:j<us.length:=by rw[hl];exact(List.getElem?_eq_some_iff.1 hx).1
 refine⟨[us[j]],rfl,hE j x _ hx (List.getElem?_eq_getElem hj),fun i u hu=> ?_⟩
 cases i with
 | zero=>
   rw[Nat.zero_add,Nat.mul_one,Nat.add_zero]
   exact hb.at (by rw[List.getElem?_eq_getElem hj];simpa using hu)
 | succ i=>simp at hu
theorem Rw.ints {g:Nat} {T:TypeId} {ks:List Int} (hb:Blk w g T (ks.map fun k=> .int .i64 k)) {cap:Nat}:Rw 1 intE w (.slice (some ⟨g,0,none⟩) ks.length cap) ks:=
 Rw.of_blk1 hb (by simp) (fun j x u hx hu=>by rw[List.getElem?_map,hx] at hu;cases hu;rfl)
theorem Rw.strs {g:Nat} {T:TypeId} {ks:List ByteArray} (hb:Blk w g T (ks.map fun k=> .string k)) {cap:Nat}:Rw 1 strE w (.slice (some ⟨g,0,none⟩) ks.length cap) ks:=
 Rw.of_blk1 hb (by simp) (fun j x u hx hu=>by rw[List.getElem?_map,hx] at hu;cases hu;rfl)
theorem Rw.bools {g:Nat} {T:TypeId} {ks:List Bool} (hb:Blk w g T (ks.map fun k=> .bool k)) {cap:Nat}:Rw 1 boolE w (.slice (some ⟨g,0,none⟩) ks.length cap) ks:=
 Rw.of_blk1 hb (by simp) (fun j x u hx hu=>by rw[List.getElem?_map,hx] at hu;cases hu;rfl)
end Go.Proofs.YtfaepbjnpakghaaGreatDoor.W
namespace Go.Proofs.YtfaepbjnpakghaaGreatDoor.W
open Go.RowKit
set_option linter.unusedVariables false
structure Sec where
 name:ByteArray
 kind:Int
 align:Int
 size:Int
 bytes:ByteArray
 keep:Bool
deriving DecidableEq,Inhabited
def Sec.cells (x:Sec):List Value:=[.string x.name, .int .i64 x.kind, .int .i64 x.align, .int .i64 x.size, .string x.bytes, .bool x.keep]
structure Sec.Ok (x:Sec):Prop where
 name:lenR x.name.size
 kind:I64 x.kind
 align:I64 x.align
 size:I64 x.size
 bytes:lenR x.bytes.size
def Sec.E (w:World) (cs:List Value) (x:Sec):Prop:=cs=x.cells
theorem Sec.stays:Stays Sec.E:=fun _ _ _ _ _ h=>h
theorem Sec.cells_len (x:Sec):(x.cells).length=6:=rfl
structure Sym where
 name:ByteArray
 version:ByteArray
 main:Bool
 bind:Int
 vis:Int
 kind:Int
 sec:Int
 at_:Int
 size:Int
 align:Int
deriving DecidableEq,Inhabited
def Sym.cells (x:Sym):List Value:=[.string x.name, .string x.version, .bool x.main, .int .i64 x.bind, .int .i64 x.vis, .int .i64 x.kind, .int .i64 x.sec, .int .i64 x.at_, .int .i64 x.size, .int .i64 x.align]
structure Sym.Ok (x:Sym):Prop where
 name:lenR x.name.size
 version:lenR x.version.size
 bind:I64 x.bind
 vis:I64 x.vis
 kind:I64 x.kind
 sec:I64 x.sec
 at_:I64 x.at_
 size:I64 x.size
 align:I64 x.align
def Sym.E (w:World) (cs:List Value) (x:Sym):Prop:=cs=x.cells
theorem Sym.stays:Stays Sym.E:=fun _ _ _ _ _ h=>h
theorem Sym.cells_len (x:Sym):(x.cells).length=10:=rfl
structure Rel where
 sec:Int
 at_:Int
 kind:Int
 sym:Int
 add:Int
deriving DecidableEq,Inhabited
def Rel.cells (x:Rel):List Value:=[.int .i64 x.sec, .int .i64 x.at_, .int .i64 x.kind, .int .i64 x.sym, .int .i64 x.add]
structure Rel.Ok (x:Rel):Prop where
 sec:I64 x.sec
 at_:I64 x.at_
 kind:I64 x.kind
 sym:I64 x.sym
 add:I64 x.add
def Rel.E (w:World) (cs:List Value) (x:Rel):Prop:=cs=x.cells
theorem Rel.stays:Stays Rel.E:=fun _ _ _ _ _ h=>h
theorem Rel.cells_len (x:Rel):(x.cells).length=5:=rfl
structure Grp where
 name:ByteArray
 secs:List Int
deriving DecidableEq
def Grp.cells (x:Grp) (secsV:Value):List Value:=[.string x.name,secsV]
structure Grp.Ok (x:Grp):Prop where
 name:lenR x.name.size
 secs:lenR x.secs.length
 secsI:∀y∈x.secs,I64 y
structure Grp.At (w:World) (x:Grp) (secsV:Value):Prop where
 secs:Rw 1 intE w secsV x.secs
def Grp.E (w:World) (cs:List Value) (x:Grp):Prop:=∃secsV,cs=x.cells secsV∧x.At w secsV
theorem Grp.At.below {w w':World} {x:Grp} {secsV:Value} (h:x.At w secsV) (hb:Below w.heap.size w w'):x.At w' secsV:=
 ⟨h.secs.below intE_stays hb⟩
theorem Grp.stays:Stays Grp.E:=by
 rintro w w' cs x hb ⟨secsV,rfl,h⟩
 exact⟨secsV,rfl,h.below hb⟩
theorem Grp.cells_len (x:Grp) (secsV:Value):(x.cells secsV).length=2:=rfl
structure Ini where
 sym:Int
 order:Int
 last:Bool
deriving DecidableEq,Inhabited
def Ini.cells (x:Ini):List Value:=[.int .i64 x.sym, .int .i64 x.order, .bool x.last]
structure Ini.Ok (x:Ini):Prop where
 sym:I64 x.sym
 order:I64 x.order
def Ini.E (w:World) (cs:List Value) (x:Ini):Prop:=cs=x.cells
theorem Ini.stays:Stays Ini.E:=fun _ _ _ _ _ h=>h
theorem Ini.cells_len (x:Ini):(x.cells).length=3:=rfl
structure Lne where
 sec:Int
 at_:Int
 file:ByteArray
 line:Int
deriving DecidableEq,Inhabited
def Lne.cells (x:Lne):List Value:=[.int .i64 x.sec, .int .i64 x.at_, .string x.file, .int .i64 x.line]
structure Lne.Ok (x:Lne):Prop where
 sec:I64 x.sec
 at_:I64 x.at_
 file:lenR x.file.size
 line:I64 x.line
def Lne.E (w:World) (cs:List Value) (x:Lne):Prop:=cs=x.cells
theorem Lne.stays:Stays Lne.E:=fun _ _ _ _ _ h=>h
theorem Lne.cells_len (x:Lne):(x.cells).length=4:=rfl
structure Inl where
 sec:Int
 from_:Int
 to_:Int
 name:ByteArray
 file:ByteArray
 line:Int
deriving DecidableEq,Inhabited
def Inl.cells (x:Inl):List Value:=[.int .i64 x.sec, .int .i64 x.from_, .int .i64 x.to_, .string x.name, .string x.file, .int .i64 x.line]
structure Inl.Ok (x:Inl):Prop where
 sec:I64 x.sec
 from_:I64 x.from_
 to_:I64 x.to_
 name:lenR x.name.size
 file:lenR x.file.size
 line:I64 x.line
def Inl.E (w:World) (cs:List Value) (x:Inl):Prop:=cs=x.cells
theorem Inl.stays:Stays Inl.E:=fun _ _ _ _ _ h=>h
theorem Inl.cells_len (x:Inl):(x.cells).length=6:=rfl
structure Vrr where
 sec:Int
 from_:Int
 to_:Int
 name:ByteArray
 where_:Int
 n:Int
deriving DecidableEq,Inhabited
def Vrr.cells (x:Vrr):List Value:=[.int .i64 x.sec, .int .i64 x.from_, .int .i64 x.to_, .string x.name, .int .i64 x.where_, .int .i64 x.n]
structure Vrr.Ok (x:Vrr):Prop where
 sec:I64 x.sec
 from_:I64 x.from_
 to_:I64 x.to_
 name:lenR x.name.size
 where_:I64 x.where_
 n:I64 x.n
def Vrr.E (w:World) (cs:List Value) (x:Vrr):Prop:=cs=x.cells
theorem Vrr.stays:Stays Vrr.E:=fun _ _ _ _ _ h=>h
theorem Vrr.cells_len (x:Vrr):(x.cells).length=6:=rfl
structure Dep where
 sec:Int
 from_:Int
 to_:Int
 bytes:Int
deriving DecidableEq,Inhabited
def Dep.cells (x:Dep):List Value:=[.int .i64 x.sec, .int .i64 x.from_, .int .i64 x.to_, .int .i64 x.bytes]
structure Dep.Ok (x:Dep):Prop where
 sec:I64 x.sec
 from_:I64 x.from_
 to_:I64 x.to_
 bytes:I64 x.bytes
def Dep.E (w:World) (cs:List Value) (x:Dep):Prop:=cs=x.cells
theorem Dep.stays:Stays Dep.E:=fun _ _ _ _ _ h=>h
theorem Dep.cells_len (x:Dep):(x.cells).length=4:=rfl
structure Pce where
 from_:Int
 size:Int
 to_:Int
deriving DecidableEq,Inhabited
def Pce.cells (x:Pce):List Value:=[.int .i64 x.from_, .int .i64 x.size, .int .i64 x.to_]
structure Pce.Ok (x:Pce):Prop where
 from_:I64 x.from_
 size:I64 x.size
 to_:I64 x.to_
def Pce.E (w:World) (cs:List Value) (x:Pce):Prop:=cs=x.cells
theorem Pce.stays:Stays Pce.E:=fun _ _ _ _ _ h=>h
theorem Pce.cells_len (x:Pce):(x.cells).length=3:=rfl
structure Cnv where
 sec:Int
 from_:ByteArray
 pieces:List Pce
 code:Int
deriving DecidableEq
def Cnv.cells (x:Cnv) (piecesV:Value):List Value:=[.int .i64 x.sec, .string x.from_,piecesV, .int .i64 x.code]
structure Cnv.Ok (x:Cnv):Prop where
 sec:I64 x.sec
 from_:lenR x.from_.size
 pieces:lenR x.pieces.length
 piecesI:∀y∈x.pieces,y.Ok
 code:I64 x.code
structure Cnv.At (w:World) (x:Cnv) (piecesV:Value):Prop where
 pieces:Rw 3 Pce.E w piecesV x.pieces
def Cnv.E (w:World) (cs:List Value) (x:Cnv):Prop:=∃piecesV,cs=x.cells piecesV∧x.At w piecesV
theorem Cnv.At.below {w w':World} {x:Cnv} {piecesV:Value} (h:x.At w piecesV) (hb:Below w.heap.size w w'):x.At w' piecesV:=
 ⟨h.pieces.below Pce.stays hb⟩
theorem Cnv.stays:Stays Cnv.E:=by
 rintro w w' cs x hb ⟨piecesV,rfl,h⟩
 exact⟨piecesV,rfl,h.below hb⟩
theorem Cnv.cells_len (x:Cnv) (piecesV:Value):(x.cells piecesV).length=4:=rfl
structure Ob where
 name:ByteArray
 secs:List Sec
 syms:List Sym
 rels:List Rel
 groups:List Grp
 inits:List Ini
 lines:List Lne
 inlines:List Inl
 vars:List Vrr
 depths:List Dep
 converts:List Cnv
deriving DecidableEq
def Ob.cells (x:Ob) (secsV:Value) (symsV:Value) (relsV:Value) (groupsV:Value) (initsV:Value) (linesV:Value) (inlinesV:Value) (varsV:Value) (depthsV:Value) (convertsV:Value):List Value:=[.string x.name,secsV,symsV,relsV,groupsV,initsV,linesV,inlinesV,varsV,depthsV,convertsV]
structure Ob.Ok (x:Ob):Prop where
 name:lenR x.name.size
 secs:lenR x.secs.length
 secsI:∀y∈x.secs,y.Ok
 syms:lenR x.syms.length
 symsI:∀y∈x.syms,y.Ok
 rels:lenR x.rels.length
 relsI:∀y∈x.rels,y.Ok
 groups:lenR x.groups.length
 groupsI:∀y∈x.groups,y.Ok
 inits:lenR x.inits.length
 initsI:∀y∈x.inits,y.Ok
 lines:lenR x.lines.length
 linesI:∀y∈x.lines,y.Ok
 inlines:lenR x.inlines.length
 inlinesI:∀y∈x.inlines,y.Ok
 vars:lenR x.vars.length
 varsI:∀y∈x.vars,y.Ok
 depths:lenR x.depths.length
 depthsI:∀y∈x.depths,y.Ok
 converts:lenR x.converts.length
 convertsI:∀y∈x.converts,y.Ok
structure Ob.At (w:World) (x:Ob) (secsV:Value) (symsV:Value) (relsV:Value) (groupsV:Value) (initsV:Value) (linesV:Value) (inlinesV:Value) (varsV:Value) (depthsV:Value) (convertsV:Value):Prop where
 secs:Rw 6 Sec.E w secsV x.secs
 syms:Rw 10 Sym.E w symsV x.syms
 rels:Rw 5 Rel.E w relsV x.rels
 groups:Rw 2 Grp.E w groupsV x.groups
 inits:Rw 3 Ini.E w initsV x.inits
 lines:Rw 4 Lne.E w linesV x.lines
 inlines:Rw 6 Inl.E w inlinesV x.inlines
 vars:Rw 6 Vrr.E w varsV x.vars
 depths:Rw 4 Dep.E w depthsV x.depths
 converts:Rw 4 Cnv.E w convertsV x.converts
def Ob.E (w:World) (cs:List Value) (x:Ob):Prop:=∃secsV symsV relsV groupsV initsV linesV inlinesV varsV depthsV convertsV,cs=x.cells secsV symsV relsV groupsV initsV linesV inlinesV varsV depthsV convertsV∧x.At w secsV symsV relsV groupsV initsV linesV inlinesV varsV depthsV convertsV
theorem Ob.At.below {w w':World} {x:Ob} {secsV symsV relsV groupsV initsV linesV inlinesV varsV depthsV convertsV:Value} (h:x.At w secsV symsV relsV groupsV initsV linesV inlinesV varsV depthsV convertsV) (hb:Below w.heap.size w w'):x.At w' secsV symsV relsV groupsV initsV linesV inlinesV varsV depthsV convertsV:=
 ⟨h.secs.below Sec.stays hb,h.syms.below Sym.stays hb,h.rels.below Rel.stays hb,h.groups.below Grp.stays hb,h.inits.below Ini.stays hb,h.lines.below Lne.stays hb,h.inlines.below Inl.stays hb,h.vars.below Vrr.stays hb,h.depths.below Dep.stays hb,h.converts.below Cnv.stays hb⟩
theorem Ob.stays:Stays Ob.E:=by
 rintro w w' cs x hb ⟨secsV,symsV,relsV,groupsV,initsV,linesV,inlinesV,varsV,depthsV,convertsV,rfl,h⟩
 exact⟨secsV,symsV,relsV,groupsV,initsV,linesV,inlinesV,varsV,depthsV,convertsV,rfl,h.below hb⟩
theorem Ob.cells_len (x:Ob) (secsV:Value) (symsV:Value) (relsV:Value) (groupsV:Value) (initsV:Value) (linesV:Value) (inlinesV:Value) (varsV:Value) (depthsV:Value) (convertsV:Value):(x.cells secsV symsV relsV groupsV initsV linesV inlinesV varsV depthsV convertsV).length=11:=rfl
end Go.Proofs.YtfaepbjnpakghaaGreatDoor.W
namespace Go.Proofs.YtfaepbjnpakghaaGreatDoor.W
set_option linter.unusedVariables false
def numF:Nat→Nat→List UInt8
 | 0,n=> [UInt8.ofNat n]
 | f+1,n=>if n<128 then [UInt8.ofNat n] else UInt8.ofNat (n%128+128)::numF f (n/128)
def numL (n:Nat):List UInt8:=numF 9 n
def textL (s:List UInt8):List UInt8:=numL s.length++s
theorem numF_low (f n:Nat) (h:n<128):numF f n=[UInt8.ofNat n]:=by
 cases f with
 | zero=>rfl
 | succ f=>rw[numF,if_pos h]
theorem numF_more (f n:Nat) (h:¬n<128):numF (f+1) n=UInt8.ofNat (n%128+128)::numF f (n/128):=by
 rw[numF,if_neg h]
theorem numF_len:∀(f n:Nat),(numF f n).length≤f+1
 | 0,_=>Nat.le_refl _
 | f+1,n=>by
   rw[numF]
   split
   ·simp
   ·have:=numF_len f (n/128)
    simp;omega
theorem numF_pos:∀(f n:Nat),0< (numF f n).length
 | 0,_=>Nat.one_pos
 | f+1,n=>by rw[numF];split<;>simp
theorem numL_len (n:Nat):(numL n).length≤10:=numF_len 9 n
theorem textL_len (s:List UInt8):(textL s).length≤s.length+10:=by
 unfold textL;rw[List.length_append];have:=numL_len s.length;omega
theorem num_step {f m:Nat} (h:m<128 ^(f+1)) (h1:¬m<128):∃f',f=f'+1∧m/128<128 ^(f'+1):=by
 cases f with
 | zero=>simp at h;omega
 | succ f'=>exact⟨f',rfl,by rw[Nat.pow_succ] at h;omega⟩
end Go.Proofs.YtfaepbjnpakghaaGreatDoor.W
namespace Go.Proofs.YtfaepbjnpakghaaGreatDoor.W
def x64:Nat:=18446744073709551616
def nth (l:List Nat) (i:Nat):Nat:=l.getD i 0
def rotl (x n:Nat):Nat:=(x*2 ^ n%18446744073709551616) ||| (x/2 ^(64-n))
def turnL:List Nat:=[0,1,62,28,27,36,44,6,55,20,3,10,43,25,39,41,45,15,21,8,18,2,61,56,14]
def constL:List Nat:=[1,32898,9223372036854808714,9223372039002292224,32907,2147483649,9223372039002292353,9223372036854808585,138,136,2147516425,2147483658,2147516555,9223372036854775947,9223372036854808713,9223372036854808579,9223372036854808578,9223372036854775936,32778,9223372039002259466,9223372039002292353,9223372036854808704,2147483649,9223372039002292232]
def pfold (a:List Nat):Nat→List Nat
 | 0=> [0,0,0,0,0]
 | k+1=>(pfold a k).set (k%5) (nth (pfold a k) (k%5)^^^ nth a k)
def bIdx (k:Nat):Nat:=k/5+5*((2*(k%5)+3*(k/5))%5)
def bVal (a p:List Nat) (k:Nat):Nat:=rotl (nth a k ^^^(nth p ((k%5+4)%5)^^^ rotl (nth p ((k%5+1)%5)) 1)) (nth turnL k)
def bfold (a p:List Nat):Nat→List Nat
 | 0=>List.replicate 25 0
 | k+1=>(bfold a p k).set (bIdx k) (bVal a p k)
def cVal (b:List Nat) (k:Nat):Nat:=nth b k ^^^((18446744073709551615-nth b (k-k%5+(k%5+1)%5))&&&nth b (k-k%5+(k%5+2)%5))
def cfold (a b:List Nat):Nat→List Nat
 | 0=>a
 | k+1=>(cfold a b k).set k (cVal b k)
def roundS (a:List Nat) (c:Nat):List Nat:=
 (cfold a (bfold a (pfold a 25) 25) 25).set 0 (nth (cfold a (bfold a (pfold a 25) 25) 25) 0 ^^^ c)
def permN (a:List Nat):Nat→List Nat
 | 0=>a
 | r+1=>roundS (permN a r) (nth constL r)
def perm (a:List Nat):List Nat:=permN a 24
def absorbN (a:List Nat) (s:List UInt8):Nat→List Nat
 | 0=>a
 | k+1=>(absorbN a s k).set (k/8) (nth (absorbN a s k) (k/8)^^^((s.getD k 0).toNat*2 ^(8*(k%8))%18446744073709551616))
def absorbF (a:List Nat) (s:List UInt8):List Nat:=perm (absorbN a s s.length)
def blocksN (a:List Nat) (s:List UInt8):Nat→List Nat
 | 0=>a
 | n+1=>absorbF (blocksN a s n) ((s.drop (136*n)).take 136)
def zeros:List Nat:=List.replicate 25 0
def padL (r:List UInt8):List UInt8:=(List.range 136).map fun j=>if j<r.length then r.getD j 0 ||| (if j=135 then 128 else 0) else(if j=r.length then 6 else 0) ||| (if j=135 then 128 else 0)
def endState (s:List UInt8):List Nat:=absorbF (blocksN zeros s (s.length/136)) (padL (s.drop (136*(s.length/136))))
def outB (a:List Nat) (i:Nat):UInt8:=UInt8.ofNat (nth a (i/8)/2 ^(8*(i%8))%256)
def outN (a:List Nat) (n:Nat):List UInt8:=(List.range n).map (outB a)
def sumL (s:List UInt8):List UInt8:=outN (endState s) 32
def Low (l:List Nat):Prop:=∀j,nth l j<18446744073709551616
theorem Low.set {l:List Nat} (h:Low l) {v:Nat} (hv:v<18446744073709551616) (i:Nat):Low (l.set i v):=by
 intro j
 have:=h j
 unfold nth at*
 rw[List.getD_eq_getElem?_getD,List.getElem?_set]
 split
 ·split<;>simp[hv]
 ·simpa [List.getD_eq_getElem?_getD] using this
theorem xor_low {a b:Nat} (ha:a<18446744073709551616) (hb:b<18446744073709551616):a ^^^ b<18446744073709551616:=Nat.xor_lt_two_pow (n:=64) ha hb
theorem or_low {a b:Nat} (ha:a<18446744073709551616) (hb:b<18446744073709551616):a ||| b<18446744073709551616:=Nat.or_lt_two_pow (n:=64) ha hb
theorem and_low {a b:Nat} (hb:b<18446744073709551616):a&&&b<18446744073709551616:=Nat.lt_of_le_of_lt Nat.and_le_right hb
theorem rotl_low {x:Nat} (hx:x<18446744073709551616) (n:Nat):rotl x n<18446744073709551616:=
 or_low (Nat.mod_lt _ (by decide)) (Nat.lt_of_le_of_lt (Nat.div_le_self _ _) hx)
theorem pfold_low {a:List Nat} (h:Low a):∀k,Low (pfold a k)∧(pfold a k).length=5
 | 0=>⟨fun j=>by
  show nth (List.replicate 5 0) j<_
  unfold nth
  rw[List.getD_eq_getElem?_getD,List.getElem?_replicate]
  split<;>decide,rfl⟩
 | k+1=>⟨(pfold_low h k).1.set (xor_low ((pfold_low h k).1 _) (h _)) _,by simp[pfold,(pfold_low h k).2]⟩
theorem bVal_low {a p:List Nat} (ha:Low a) (hp:Low p) (k:Nat):bVal a p k<18446744073709551616:=
 rotl_low (xor_low (ha _) (xor_low (hp _) (rotl_low (hp _) _))) _
theorem bfold_low {a p:List Nat} (ha:Low a) (hp:Low p):∀k,Low (bfold a p k)∧(bfold a p k).length=25
 | 0=>⟨fun j=>by
  show nth (List.replicate 25 0) j<_
  unfold nth
  rw[List.getD_eq_getElem?_getD,List.getElem?_replicate]
  split<;>decide,rfl⟩
 | k+1=>⟨(bfold_low ha hp k).1.set (bVal_low ha hp k) _,by simp[bfold,(bfold_low ha hp k).2]⟩
theorem cVal_low {b:List Nat} (hb:Low b) (k:Nat):cVal b k<18446744073709551616:=xor_low (hb _) (and_low (hb _))
theorem cfold_low {a b:List Nat} (ha:Low a) (hb:Low b) (hl:a.length=25):∀k,Low (cfold a b k)∧(cfold a b k).length=25
 | 0=>⟨ha,hl⟩
 | k+1=>⟨(cfold_low ha hb hl k).1.set (cVal_low hb k) _,by simp[cfold,(cfold_low ha hb hl k).2]⟩
theorem const_low (r:Nat):nth constL r<18446744073709551616:=by
 unfold nth
 rw[List.getD_eq_getElem?_getD]
 rcases h:constL[r]? with _ | x
 ·decide
 ·have:∀y∈constL,y<18446744073709551616:=by decide
  exact this x (List.mem_of_getElem? h)
theorem roundS_low {a:List Nat} (ha:Low a) (hl:a.length=25) {c:Nat} (hc:c<18446744073709551616):Low (roundS a c)∧(roundS a c).length=25:=by
 have hp:=pfold_low ha 25
 have hb:=bfold_low ha hp.1 25
 have h:=cfold_low ha hb.1 hl 25
 exact⟨h.1.set (xor_low (h.1 _) hc) _,by simp[roundS,h.2]⟩
theorem permN_low {a:List Nat} (ha:Low a) (hl:a.length=25):∀r,Low (permN a r)∧(permN a r).length=25
 | 0=>⟨ha,hl⟩
 | r+1=>roundS_low (permN_low ha hl r).1 (permN_low ha hl r).2 (const_low r)
theorem absorbN_low {a:List Nat} (ha:Low a) (hl:a.length=25) (s:List UInt8):∀k,Low (absorbN a s k)∧(absorbN a s k).length=25
 | 0=>⟨ha,hl⟩
 | k+1=>⟨(absorbN_low ha hl s k).1.set (xor_low ((absorbN_low ha hl s k).1 _) (Nat.mod_lt _ (by decide))) _,by simp[absorbN,(absorbN_low ha hl s k).2]⟩
theorem absorbF_low {a:List Nat} (ha:Low a) (hl:a.length=25) (s:List UInt8):Low (absorbF a s)∧(absorbF a s).length=25:=by
 have h:=absorbN_low ha hl s s.length
 unfold absorbF perm
 exact permN_low h.1 h.2 24
theorem zeros_low:Low zeros∧zeros.length=25:=by
 refine⟨fun j=> ?_,rfl⟩
 unfold nth zeros
 rw[List.getD_eq_getElem?_getD,List.getElem?_replicate]
 split<;>decide
theorem blocksN_low {a:List Nat} (ha:Low a) (hl:a.length=25) (s:List UInt8):∀n,Low (blocksN a s n)∧(blocksN a s n).length=25
 | 0=>⟨ha,hl⟩
 | n+1=>absorbF_low (blocksN_low ha hl s n).1 (blocksN_low ha hl s n).2 _
theorem padL_length (r:List UInt8):(padL r).length=136:=by simp[padL]
def lanes (l:List Nat):List Value:=l.map fun(x:Nat)=>Value.int .u64 (x:Int)
theorem lanes_at {l:List Nat} {j:Nat} (h:j<l.length):(lanes l)[j]? =some (.int .u64 ((nth l j:Nat):Int)):=by
 unfold nth
 simp[lanes,List.getElem?_eq_getElem h,List.getD_eq_getElem?_getD]
theorem lanes_set (l:List Nat) (j v:Nat):(lanes l).set j (.int .u64 (v:Int))=lanes (l.set j v):=by
 simp[lanes,List.map_set]
end Go.Proofs.YtfaepbjnpakghaaGreatDoor.W
namespace Go.Proofs.YtfaepbjnpakghaaGreatDoor.W
open Go.RowKit
set_option linter.unusedVariables false
theorem rot_val (x k:Nat) (hx:x<18446744073709551616):bits BinOp.or IntKind.u64 (IntKind.u64.wrap ((x:Int)*2 ^ k)) ((x:Int)/2 ^(64-k))=((rotl x k:Nat):Int):=by
 have e1:IntKind.u64.wrap ((x:Int)*2 ^ k)=((x*2 ^ k%18446744073709551616:Nat):Int):=by
  rw[IntKind.wrap_u64,Int.natCast_emod,Int.natCast_mul,Int.natCast_pow];rfl
 have e2:(x:Int)/2 ^(64-k)=((x/2 ^(64-k):Nat):Int):=by
  rw[Int.natCast_ediv,Int.natCast_pow];rfl
 rw[e1,e2,u64_or_nat _ _ (Nat.mod_lt _ (by decide)) (Nat.lt_of_le_of_lt (Nat.div_le_self _ _) hx)]
 rfl
theorem ret_u {x y:Int} (h:x=y):Ending.returned (.int .u64 x)= .returned (.int .u64 y):=by rw[h]
set_option maxHeartbeats 400000 in
theorem rot_any (x k:Nat) (w:World) (hx:x<18446744073709551616) (hk:k<64):
 Calls Tryz.prog 254 #[.int .u64 x, .int .i64 k] w fun e w'=>e= .returned (.int .u64 (rotl x k:Nat))∧w=w':=by
 have hb:bits BinOp.and IntKind.u64 (k:Int) 63=(k:Int):=by
  rw[show(63:Int)=((63:Nat):Int) from rfl,u64_and_nat k 63 (by omega) (by decide),nat_mask6,Nat.mod_eq_of_lt hk]
 go_enter Tryz.func254,Tryz.ntmps254
 go_wp2
 go_ret
 exact⟨ret_u (rot_val x k hx),rfl⟩
end Go.Proofs.YtfaepbjnpakghaaGreatDoor.W
