import Derived.Test.YtfaepbjnpakghaaGreatDoorKaj
/- What makes a right object a wrong one, in plain words (ObjectRefuses). No program. -/
namespace Go.Proofs.YtfaepbjnpakghaaGreatDoor.W
set_option linter.unusedVariables false
theorem dist_bad {α κ:Type} [DecidableEq κ] {key:α→κ} {l:List α} {x:α} (hx:x∈l):distB key (l++[x])=false:=by
 refine decide_eq_false (fun h=> ?_)
 rw[List.map_append,List.nodup_append] at h
 exact h.2.2 (key x) (List.mem_map_of_mem hx) (key x) (by simp) rfl
theorem rels_bad {o:Ob} (h:relsB o=false):rightO o=false:=by unfold rightO;rw[h];simp
theorem syms_bad {o:Ob} (h:symsB o=false):rightO o=false:=by unfold rightO;rw[h];simp
theorem lines_bad {o:Ob} (h:linesB o=false):rightO o=false:=by unfold rightO;rw[h];simp
theorem depths_bad {o:Ob} (h:depthsB o=false):rightO o=false:=by unfold rightO;rw[h];simp
theorem width_is (k:Int):widthI k=4∨widthI k=2∨widthI k=8:=by
 unfold widthI
 split
 ·exact .inl rfl
 ·split
  ·exact .inr (.inl rfl)
  ·exact .inr (.inr rfl)
def relMoved (o:Ob) (i:Nat) (r:Rel) (n:Int):Ob:= {o with rels:=o.rels.set i {r with at_:=r.at_+n}}
theorem refuse_moved {o:Ob} (h:RightO o) {i:Nat} (hi:i<o.rels.length) {n:Int} (hn:n≠0) (h1: -(widthI o.rels[i].kind:Int)<n) (h2:n<widthI o.rels[i].kind):rightO (relMoved o i o.rels[i] n)=false:=by
 obtain⟨r,hr⟩:∃r,o.rels[i]=r:=⟨_,rfl⟩
 have hm:r∈o.rels:=hr▸List.getElem_mem hi
 rw[hr] at h1 h2⊢
 obtain⟨s,hs⟩:=rel_is (h.rel hm)
 have hf:=hs.fits
 refine rels_bad ?_
 unfold relsB
 rw[show(relMoved o i r n).rels=o.rels.set i {r with at_:=r.at_+n} from rfl,all_bad (x:= {r with at_:=r.at_+n}) (List.mem_set hi _) ?_];rfl
 unfold relB
 rw[show secAt (relMoved o i r n) r.sec=some s from hs.at_]
 have:relFit s {r with at_:=r.at_+n}=false:=by
  unfold relFit
  dsimp only
  rw[decide_eq_false (p:=(r.at_+n)%(widthI r.kind:Int)=0)]
  ·simp
  ·obtain⟨_,_,_,h4⟩:=hf
   rcases width_is r.kind with e | e | e<;>rw[e] at h1 h2 h4⊢<;>omega
 dsimp only
 rw[this];simp
def relSwap (o:Ob) (a b:Rel) (i:Nat):Ob:= {o with rels:=(o.rels.set i a).set (i-1) b}
theorem refuse_swap {o:Ob} (h:RightO o) {i:Nat} (h0:0<i) (hi:i<o.rels.length):rightO (relSwap o (o.rels[i-1]'(by omega)) o.rels[i] i)=false:=by
 refine rels_bad ?_
 obtain⟨k,rfl⟩:∃k,i=k+1:=⟨i-1,by omega⟩
 have hp:=h.rels
 unfold relsB at hp
 rw[Bool.and_eq_true] at hp
 have ho:=pairs_at o.rels k hi hp.2
 unfold relsB
 have hl:(relSwap o (o.rels[k+1-1]'(by omega)) o.rels[k+1] (k+1)).rels.length=o.rels.length:=by simp[relSwap]
 rw[pairs_bad (k:=k) (by rw[hl];exact hi) ?_];simp
 simp only[relSwap,Nat.add_sub_cancel]
 rw[List.getElem_set_self,List.getElem_set_ne (by omega),List.getElem_set_self]
 unfold relOrd at ho⊢
 simp only[Bool.or_eq_true,Bool.and_eq_true,decide_eq_true_eq] at ho
 have hw:=widthI_le o.rels[k].kind
 have hw1:=widthI_le o.rels[k+1].kind
 rw[Bool.or_eq_false_iff,Bool.and_eq_false_iff]
 refine⟨decide_eq_false (by omega),?_⟩
 by_cases he:(o.rels[k+1]).sec=o.rels[k].sec
 ·exact .inr (decide_eq_false (by omega))
 ·exact .inl (decide_eq_false he)
def symLong (o:Ob) (i:Nat) (s:Sym):Ob:= {o with syms:=o.syms.set i {s with size:=sizeAt o s.sec-s.at_+1}}
theorem refuse_long {o:Ob} {i:Nat} (hi:i<o.syms.length) (h0:0≤o.syms[i].sec):rightO (symLong o i o.syms[i])=false:=by
 refine syms_bad ?_
 obtain⟨s,hs⟩:∃s,o.syms[i]=s:=⟨_,rfl⟩
 rw[hs] at h0⊢
 unfold symsB
 rw[show(symLong o i s).syms=o.syms.set i {s with size:=sizeAt o s.sec-s.at_+1} from rfl,all_bad (x:= {s with size:=sizeAt o s.sec-s.at_+1}) (List.mem_set hi _) ?_];simp
 unfold symB
 split
 ·split
  ·unfold symCommon
   dsimp only
   rw[decide_eq_false (p:=s.sec= -1) (by omega)];simp
  ·dsimp only
   rw[if_neg (by omega)]
   have:symRest (sizeAt (symLong o i s) s.sec) {s with size:=sizeAt o s.sec-s.at_+1}=false:=by
    unfold symRest
    dsimp only
    rw[show sizeAt (symLong o i s) s.sec=sizeAt o s.sec from rfl,decide_eq_false (p:=sizeAt o s.sec-s.at_+1≤sizeAt o s.sec-s.at_) (by omega)];simp
   rw[this];simp
 ·rfl
def symTwice (o:Ob) (s:Sym):Ob:= {o with syms:=o.syms++[s]}
theorem refuse_twice {o:Ob} {i:Nat} (hi:i<o.syms.length):rightO (symTwice o o.syms[i])=false:=by
 refine syms_bad ?_
 unfold symsB
 rw[show(symTwice o o.syms[i]).syms=o.syms++[o.syms[i]] from rfl,dist_bad (List.getElem_mem hi)];simp
def lneOut (o:Ob) (i:Nat) (l:Lne):Ob:= {o with lines:=o.lines.set i {l with at_:=sizeAt o l.sec}}
theorem refuse_line {o:Ob} {i:Nat} (hi:i<o.lines.length):rightO (lneOut o i o.lines[i])=false:=by
 refine lines_bad ?_
 obtain⟨l,hl⟩:∃l,o.lines[i]=l:=⟨_,rfl⟩
 rw[hl]
 unfold linesB
 rw[show(lneOut o i l).lines=o.lines.set i {l with at_:=sizeAt o l.sec} from rfl,all_bad (x:= {l with at_:=sizeAt o l.sec}) (List.mem_set hi _) ?_];simp
 unfold lneB
 dsimp only
 rw[show sizeAt (lneOut o i l) l.sec=sizeAt o l.sec from rfl,show inB (sizeAt o l.sec) (sizeAt o l.sec)=false from decide_eq_false (by omega)];simp
def depTwice (o:Ob) (i:Nat):Ob:= {o with depths:=o.depths.take (i+1)++o.depths.drop i}
theorem refuse_depth {o:Ob} (h:RightO o) {i:Nat} (hi:i<o.depths.length):rightO (depTwice o i)=false:=by
 refine depths_bad ?_
 have hd:=h.dep (List.getElem_mem hi)
 unfold depB spanB at hd
 simp only[Bool.and_eq_true,decide_eq_true_eq] at hd
 unfold depthsB
 have hl:(depTwice o i).depths.length=o.depths.length+1:=by
  show(o.depths.take (i+1)++o.depths.drop i).length=_
  rw[List.length_append,List.length_take,List.length_drop];omega
 rw[pairs_bad (k:=i) (by rw[hl];omega) ?_];simp
 have e1:(depTwice o i).depths[i]'(by rw[hl];omega)=o.depths[i]:=by
  apply Option.some.inj
  rw[←List.getElem?_eq_getElem,←List.getElem?_eq_getElem]
  show(o.depths.take (i+1)++o.depths.drop i)[i]? =_
  rw[List.getElem?_append_left (by rw[List.length_take];omega),List.getElem?_take,if_pos (by omega)]
 have e2:(depTwice o i).depths[i+1]'(by rw[hl];omega)=o.depths[i]:=by
  apply Option.some.inj
  rw[←List.getElem?_eq_getElem,←List.getElem?_eq_getElem]
  show(o.depths.take (i+1)++o.depths.drop i)[i+1]? =_
  rw[List.getElem?_append_right (by rw[List.length_take];omega),List.getElem?_drop]
  congr 1
  rw[List.length_take];omega
 rw[e1,e2]
 unfold depOrd
 rw[decide_eq_false (p:=o.depths[i].sec<o.depths[i].sec) (by omega),decide_eq_false (p:=o.depths[i].to_≤o.depths[i].from_) (by omega)];simp
end Go.Proofs.YtfaepbjnpakghaaGreatDoor.W
