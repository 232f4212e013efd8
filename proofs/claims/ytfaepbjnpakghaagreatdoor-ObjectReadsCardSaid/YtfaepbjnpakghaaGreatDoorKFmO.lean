import Derived.Test.YtfaepbjnpakghaaGreatDoorKaj
/- What ObjectForms says of right objects, in plain words. No program. -/
namespace Go.Proofs.YtfaepbjnpakghaaGreatDoor.W
set_option linter.unusedVariables false
theorem Cod.inj {α:Type} {e:α→List UInt8} {ok:α→Prop} {d:Rs→α × Rs} (c:Cod e ok d) {x y:α} (hx:ok x) (hy:ok y) (h:e x=e y):x=y:=by
 have h1:=c.fwd x [] false hx
 have h2:=c.fwd y [] false hy
 rw[h,h2] at h1
 injection h1 with h1 _
 exact h1.symm
theorem ba_list {a b:ByteArray} (h:a.data.toList=b.data.toList):a=b:=by
 cases a with | mk a=>cases b with | mk b=>exact congrArg _ (Array.toList_inj.1 h)
theorem shape_inj {k k' a a' z z':Int} {b b':ByteArray} (hk:natOk k) (hk':natOk k') (ha:natOk a) (ha':natOk a') (hz:natOk z) (hz':natOk z') (hb:strOk b) (hb':strOk b')
 (h:shapeL k.toNat a.toNat z.toNat b.data.toList=shapeL k'.toNat a'.toNat z'.toNat b'.data.toList):k=k'∧a=a'∧z=z'∧b=b':=by
 have c:=natCod.pair (natCod.pair (natCod.pair strCod))
 have:=c.inj (x:=(k,(a,(z,b)))) (y:=(k',(a',(z',b')))) ⟨hk,ha,hz,hb⟩ ⟨hk',ha',hz',hb'⟩ (by
  unfold shapeL at h
  simp only[natL,strL]
  rw[List.append_assoc,List.append_assoc,List.append_assoc,List.append_assoc] at h
  exact h)
 simp only[Prod.mk.injEq] at this
 exact this
theorem zeroAt_at {b:List UInt8} {a z:Nat} (h:a≤z) (hz:z≤b.length) (j:Nat):(zeroAt b a z)[j]? =if a≤j∧j<z then some 0 else b[j]? :=by
 unfold zeroAt
 by_cases h1:j<a
 ·rw[if_neg (by omega),List.append_assoc,List.getElem?_append_left (by simp;omega),List.getElem?_take,if_pos h1]
 ·by_cases h2:j<z
  ·rw[if_pos (by omega),List.append_assoc,List.getElem?_append_right (by simp;omega),List.getElem?_append_left (by simp;omega),List.getElem?_replicate,if_pos (by simp;omega)]
  ·rw[if_neg (by omega),List.append_assoc,List.getElem?_append_right (by simp;omega),List.getElem?_append_right (by simp;omega),List.getElem?_drop]
   congr 1
   simp;omega
def AgreeX (p:Nat) (b b':List UInt8):Prop:=b.length=b'.length∧∀j,j≠p→b[j]? =b'[j]?
theorem AgreeX.step {p:Nat} {b b':List UInt8} (h:AgreeX p b b') (sec:Int) (r:Rel):AgreeX p (plainStep sec b r) (plainStep sec b' r):=by
 refine⟨by rw[plainStep_len,plainStep_len,h.1],fun j hj=> ?_⟩
 unfold plainStep
 rw[←h.1]
 by_cases hh:relHit r sec b.length=true
 ·rw[if_pos hh,if_pos hh]
  obtain⟨h1,h2,_⟩:=relHit_le hh
  rw[zeroAt_at h1 h2,zeroAt_at h1 (h.1▸h2),h.2 j hj]
 ·rw[if_neg hh,if_neg hh];exact h.2 j hj
theorem AgreeX.hit {p:Nat} {b b':List UInt8} (h:AgreeX p b b') {sec:Int} {r:Rel} (hh:relHit r sec b.length=true) (h1:relFrom r≤p) (h2:p<relTo r):plainStep sec b r=plainStep sec b' r:=by
 apply List.ext_getElem?
 intro j
 by_cases hj:j=p
 ·subst hj
  unfold plainStep
  rw[←h.1,if_pos hh,if_pos hh]
  obtain⟨a1,a2,_⟩:=relHit_le hh
  rw[zeroAt_at a1 a2,zeroAt_at a1 (h.1▸a2),if_pos ⟨h1,h2⟩,if_pos ⟨h1,h2⟩]
 ·exact(h.step sec r).2 j hj
theorem plain_same {p:Nat} {sec:Int} {r:Rel} (h1:relFrom r≤p) (h2:p<relTo r):∀(rels:List Rel) (b b':List UInt8),AgreeX p b b'→r∈rels→relHit r sec b.length=true→plainL sec rels b=plainL sec rels b'
 | [],_,_,_,hm,_=>by cases hm
 | x::rels,b,b',h,hm,hh=>by
   show plainL sec rels (plainStep sec b x)=plainL sec rels (plainStep sec b' x)
   rcases List.mem_cons.1 hm with rfl | hm
   ·rw[h.hit hh h1 h2]
   ·exact plain_same h1 h2 rels _ _ (h.step sec x) hm (by rw[plainStep_len];exact hh)
theorem rel_hits {o:Ob} (h:RightO o) {r:Rel} (hr:r∈o.rels) {i:Nat} (hi:i<o.secs.length) (hs:r.sec=(i:Int)):relHit r (i:Int) o.secs[i].bytes.size=true:=by
 obtain⟨s,hx⟩:=rel_is (h.rel hr)
 have hsec:s=o.secs[i]:=by
  have:=hx.at_
  rw[hs,secAt_in hi] at this
  exact(Option.some.inj this).symm
 have hsz:s.kind=0∨s.kind=1:=by
  have:=hx.sec
  unfold isB at this
  rw[hx.at_] at this
  simpa using this
 have hB:=h.sec (List.getElem_mem hi)
 rw[←hsec] at hB
 unfold secB at hB
 simp only[Bool.and_eq_true,decide_eq_true_eq] at hB
 obtain⟨⟨⟨⟨⟨_,_⟩,_⟩,_⟩,hbs⟩,_⟩:=hB
 have hbs:(s.bytes.size:Int)=s.size:=by
  rw[hbs];unfold secBytes;rw[if_neg (by omega)]
 have hf:=hx.fits
 have hk:=of_decide_eq_true hx.kind
 unfold relHit
 rw[←hsec]
 exact decide_eq_true ⟨hs,⟨hk.1,hk.2⟩,hf.1,by rw[hbs];exact hf.2.2.1⟩
def secMark (o:Ob) (i:Nat) (b:ByteArray):Ob:= {o with secs:=o.secs.set i {(o.secs.getD i ⟨⟨#[]⟩,0,0,0,⟨#[]⟩,false⟩) with bytes:=b}}
theorem form_mark {o:Ob} (h:RightO o) {r:Rel} (hr:r∈o.rels) {i:Nat} (hi:i<o.secs.length) (hs:r.sec=(i:Int)) (hc:codeB r.kind=false) {b:ByteArray}
 (hb:b.data.toList=o.secs[i].bytes.data.toList.take r.at_.toNat++[122]++o.secs[i].bytes.data.toList.drop (r.at_.toNat+1)):formL (secMark o i b) (i:Int)=formL o (i:Int):=by
 have hhit:=rel_hits h hr hi hs
 obtain⟨l1,l2,l3,l4⟩:=relHit_le hhit
 have hw:=widthI_le r.kind
 have hfrom:relFrom r=r.at_.toNat:=by unfold relFrom;rw[hc];rfl
 have hto:relTo r=r.at_.toNat+widthI r.kind:=rfl
 obtain⟨x,hx⟩:∃x,o.secs[i]=x:=⟨_,rfl⟩
 have hlen:x.bytes.data.toList.length=x.bytes.size:=rfl
 rw[hx] at hb hhit l2
 have hD:o.secs.getD i ⟨⟨#[]⟩,0,0,0,⟨#[]⟩,false⟩=x:=by rw[List.getD_eq_getElem?_getD,List.getElem?_eq_getElem hi,hx];rfl
 have hsec:secAt (secMark o i b) (i:Int)=some {x with bytes:=b}:=by
  rw[secAt_in (by simpa [secMark] using hi)]
  simp only[secMark,hD]
  rw[List.getElem_set_self]
 have hbl:b.data.toList.length=x.bytes.data.toList.length:=by
  rw[hb]
  simp only[List.length_append,List.length_take,List.length_drop,List.length_cons,List.length_nil]
  omega
 have hag:AgreeX r.at_.toNat x.bytes.data.toList b.data.toList:=by
  refine⟨hbl.symm,fun j hj=> ?_⟩
  rw[hb]
  rcases Nat.lt_or_ge j r.at_.toNat with h1 | h1
  ·rw[List.append_assoc,List.getElem?_append_left (by rw[List.length_take];omega),List.getElem?_take,if_pos h1]
  ·rw[List.getElem?_append_right (by simp;omega),List.getElem?_drop]
   congr 1
   simp only[List.length_append,List.length_take,List.length_cons,List.length_nil]
   omega
 unfold formL
 rw[hsec,secAt_in hi,hx]
 dsimp only
 rw[show secOk {x with bytes:=b}=secOk x from rfl,show(secMark o i b).rels=o.rels from rfl,plain_same (by omega) (by omega) o.rels _ _ hag hr hhit]
def keyO (o:Ob) (i:Int):List UInt8:=match secAt o i with
 | some s=>if secOk s then strL o.name++strL s.name else []
 | none=> []
theorem RightO.secOk {o:Ob} (h:RightO o) {s:Sec} (hs:s∈o.secs):secOk s=true:=by
 have:=h.sec hs
 unfold secB at this
 simp only[Bool.and_eq_true] at this
 obtain⟨⟨⟨⟨⟨h1,h2⟩,h3⟩,h4⟩,h5⟩,h6⟩:=this
 unfold W.secOk
 exact decide_eq_true ⟨inB_pos h2,powB_pos h3,inB_pos h4⟩
theorem key_eq {o:Ob} (h:RightO o) (k:o.Ok) {n i:Nat} (hn:n<o.secs.length) (hi:i<o.secs.length):keyO o (n:Int)=keyO o (i:Int)↔n=i:=by
 refine⟨fun e=> ?_,fun e=>by rw[e]⟩
 unfold keyO at e
 rw[secAt_in hn,secAt_in hi] at e
 dsimp only at e
 rw[if_pos (h.secOk (List.getElem_mem hn)),if_pos (h.secOk (List.getElem_mem hi))] at e
 have e:=List.append_cancel_left e
 have hname:=strCod.inj (strOk_of (k.secsI _ (List.getElem_mem hn)).name) (strOk_of (k.secsI _ (List.getElem_mem hi)).name) e
 have hd:=h.secs
 unfold secsB distB at hd
 simp only[Bool.and_eq_true,decide_eq_true_eq] at hd
 have hnd:=hd.2
 have:=(List.getElem_inj (h:=hnd) (i:=n) (j:=i) (h₀:=by simpa using hn) (h₁:=by simpa using hi)).1 (by simpa using hname)
 exact this
end Go.Proofs.YtfaepbjnpakghaaGreatDoor.W
