import Derived.Test.YtfaepbjnpakghaaGreatDoorKRfO
/- The stack of open functions and the pairs of the reference say the same of inlined functions, in plain words. No program. -/
namespace Go.Proofs.YtfaepbjnpakghaaGreatDoor.W
set_option linter.unusedVariables false
def crossB (a x:Inl):Bool:=decide (a.sec=x.sec)&&decide (x.from_<a.to_)&&decide (a.to_<x.to_)
theorem cross_not {a x:Inl}:crossB a x=false↔(a.sec=x.sec→x.from_<a.to_→x.to_≤a.to_):=by
 unfold crossB
 rw[Bool.and_eq_false_iff,Bool.and_eq_false_iff]
 simp only[decide_eq_false_iff_not]
 omega
theorem inlOrd_iff {a b:Inl}:inlOrd a b=true↔a.sec<b.sec∨a.sec=b.sec∧(a.from_<b.from_∨a.from_=b.from_∧b.to_≤a.to_):=by
 unfold inlOrd
 simp only[Bool.or_eq_true,Bool.and_eq_true,decide_eq_true_eq]
theorem pairs_all {α:Type} {p:α→α→Bool} (ht:∀a b c,p a b=true→p b c=true→p a c=true):∀l:List α,pairsB p l=true↔l.Pairwise (fun a b=>p a b=true)
 | []=>by simp[pairsB]
 | [a]=>by simp[pairsB]
 | a::b::l=>by
   rw[pairsB,Bool.and_eq_true,pairs_all ht (b::l),List.pairwise_cons (a:=a)]
   constructor
   ·rintro⟨h1,h2⟩
    refine⟨fun c hc=> ?_,h2⟩
    rcases List.mem_cons.1 hc with rfl | hc
    ·exact h1
    ·exact ht a b c h1 ((List.pairwise_cons.1 h2).1 c hc)
   ·rintro⟨h1,h2⟩
    exact⟨h1 b (by simp),h2⟩
theorem take_while_imp {α:Type} {p:α→Bool}:∀ {l:List α} {a:α},a∈l.takeWhile p→p a=true
 | [],a,h=>by simp at h
 | x::l,a,h=>by
   rw[List.takeWhile_cons] at h
   split at h
   ·rename_i hx
    rcases List.mem_cons.1 h with rfl | h
    ·exact hx
    ·exact take_while_imp h
   ·cases h
theorem nest_iff:∀(l st:List Inl),(∀a∈st,∀x∈l,inlOrd a x=true)→l.Pairwise (fun a b=>inlOrd a b=true)→st.Pairwise (fun t b=>t.sec=b.sec→t.to_≤b.to_)→
 (inlNest st l=true↔(∀a∈st,∀x∈l,crossB a x=false)∧l.Pairwise (fun a b=>crossB a b=false))
 | [],st,_,_,_=>by simp[inlNest]
 | x::l,st,ho,hp,hi=>by
   obtain⟨hp1,hp2⟩:=List.pairwise_cons.1 hp
   obtain⟨st',hst⟩:∃st',inlPop x st=st':=⟨_,rfl⟩
   have hsplit:st=st.takeWhile (fun a=>decide (a.sec≠x.sec) || decide (a.to_≤x.from_))++st':=by
    rw[←hst];unfold inlPop;exact(List.takeWhile_append_dropWhile).symm
   have hsub:∀a∈st',a∈st:=fun a ha=>by rw[hsplit];exact List.mem_append_right _ ha
   have hi':st'.Pairwise (fun t b=>t.sec=b.sec→t.to_≤b.to_):=by
    rw[hsplit,List.pairwise_append] at hi;exact hi.2.1
   have hgone:∀a∈st,a∉st'→(a.sec≠x.sec∨a.to_≤x.from_):=by
    intro a ha hn
    rw[hsplit] at ha
    rcases List.mem_append.1 ha with h | h
    ·have:=take_while_imp h
     simpa using this
    ·exact absurd h hn
   have hdead:∀a∈st,a∉st'→∀y∈x::l,crossB a y=false:=by
    intro a ha hn y hy
    have hg:=hgone a ha hn
    rw[cross_not]
    intro he hlt
    have h1:=inlOrd_iff.1 (ho a ha x (by simp))
    rcases List.mem_cons.1 hy with rfl | hy
    ·omega
    ·have h2:=inlOrd_iff.1 (hp1 y hy)
     omega
   have htop:∀t r,st'=t::r→t.sec=x.sec∧x.from_<t.to_:=by
    intro t r e
    have:(inlPop x st).head? =some t:=by rw[hst,e];rfl
    unfold inlPop at this
    have:=List.head?_dropWhile_not (fun a:Inl=>decide (a.sec≠x.sec) || decide (a.to_≤x.from_)) st
    rw[show(st.dropWhile fun a=>decide (a.sec≠x.sec) || decide (a.to_≤x.from_))=t::r from by rw[←e];exact hst] at this
    simp only[List.head?_cons] at this
    simpa using this
   rw[inlNest,hst,Bool.and_eq_true]
   have key:inlTop x st'=true↔∀a∈st',crossB a x=false:=by
    cases hs:st' with
    | nil=>simp[inlTop]
    | cons t r=>
      obtain⟨h1,h2⟩:=htop t r hs
      rw[hs] at hi'
      obtain⟨h3,_⟩:=List.pairwise_cons.1 hi'
      unfold inlTop
      rw[decide_eq_true_eq]
      constructor
      ·intro h a ha
       rw[cross_not]
       intro e1 e2
       rcases List.mem_cons.1 ha with rfl | ha
       ·exact h
       ·have:=h3 a ha (by omega);omega
      ·intro h
       exact cross_not.1 (h t (by simp)) h1 h2
   constructor
   ·rintro⟨h1,h2⟩
    have k1:=key.1 h1
    have hinv:(x::st').Pairwise (fun t b=>t.sec=b.sec→t.to_≤b.to_):=by
     refine List.pairwise_cons.2 ⟨fun b hb e=> ?_,hi'⟩
     have hb1:=cross_not.1 (k1 b hb)
     have hb2:=inlOrd_iff.1 (ho b (hsub b hb) x (by simp))
     rcases Int.lt_or_le x.from_ b.to_ with h | h
     ·exact hb1 e.symm h
     ·exfalso
      obtain⟨t,r,hs⟩:∃t r,st'=t::r:=by
       cases hs:st' with
       | nil=>rw[hs] at hb;cases hb
       | cons t r=>exact⟨t,r,rfl⟩
      obtain⟨g1,g2⟩:=htop t r hs
      rw[hs] at hi' hb
      rcases List.mem_cons.1 hb with rfl | hb
      ·omega
      ·have:=(List.pairwise_cons.1 hi').1 b hb (by omega);omega
    obtain⟨a1,a2⟩:=(nest_iff l (x::st') (fun a ha y hy=>by
     rcases List.mem_cons.1 ha with rfl | ha
     ·exact hp1 y hy
     ·exact ho a (hsub a ha) y (by simp[hy])) hp2 hinv).1 h2
    refine⟨fun a ha y hy=> ?_,List.pairwise_cons.2 ⟨fun y hy=>a1 x (by simp) y hy,a2⟩⟩
    by_cases hm:a∈st'
    ·rcases List.mem_cons.1 hy with rfl | hy
     ·exact k1 a hm
     ·exact a1 a (by simp[hm]) y hy
    ·exact hdead a ha hm y hy
   ·rintro⟨h1,h2⟩
    obtain⟨h3,h4⟩:=List.pairwise_cons.1 h2
    have k1:∀a∈st',crossB a x=false:=fun a ha=>h1 a (hsub a ha) x (by simp)
    have hinv:(x::st').Pairwise (fun t b=>t.sec=b.sec→t.to_≤b.to_):=by
     refine List.pairwise_cons.2 ⟨fun b hb e=> ?_,hi'⟩
     have hb1:=cross_not.1 (k1 b hb)
     rcases Int.lt_or_le x.from_ b.to_ with h | h
     ·exact hb1 e.symm h
     ·exfalso
      obtain⟨t,r,hs⟩:∃t r,st'=t::r:=by
       cases hs:st' with
       | nil=>rw[hs] at hb;cases hb
       | cons t r=>exact⟨t,r,rfl⟩
      obtain⟨g1,g2⟩:=htop t r hs
      rw[hs] at hi' hb
      rcases List.mem_cons.1 hb with rfl | hb
      ·omega
      ·have:=(List.pairwise_cons.1 hi').1 b hb (by omega);omega
    refine⟨key.2 k1,(nest_iff l (x::st') (fun a ha y hy=>by
     rcases List.mem_cons.1 ha with rfl | ha
     ·exact hp1 y hy
     ·exact ho a (hsub a ha) y (by simp[hy])) hp2 hinv).2 ⟨fun a ha y hy=> ?_,h4⟩⟩
    rcases List.mem_cons.1 ha with rfl | ha
    ·exact h3 y hy
    ·exact h1 a (hsub a ha) y (by simp[hy])
def inlPair (a x:Inl):Bool:=inlOrd a x&& !crossB a x
theorem inlines_same (o:Ob):inlinesB o=(o.inlines.all (inlB o)&&decide (o.inlines.Pairwise fun a x=>inlPair a x=true)):=by
 have ht:∀a b c:Inl,inlOrd a b=true→inlOrd b c=true→inlOrd a c=true:=by
  intro a b c h1 h2
  rw[inlOrd_iff] at h1 h2⊢
  omega
 unfold inlinesB
 rw[Bool.and_assoc]
 congr 1
 rw[Bool.eq_iff_iff,Bool.and_eq_true,pairs_all ht,decide_eq_true_eq]
 constructor
 ·rintro⟨h1,h2⟩
  have h3:=((nest_iff o.inlines [] (by simp) h1 List.Pairwise.nil).1 h2).2
  refine(h1.and h3).imp ?_
  rintro a b ⟨g1,g2⟩
  unfold inlPair;rw[g1,g2];rfl
 ·intro h
  have h1:o.inlines.Pairwise (fun a b=>inlOrd a b=true):=h.imp (fun {a b} g=>by unfold inlPair at g;rw[Bool.and_eq_true] at g;exact g.1)
  have h2:o.inlines.Pairwise (fun a b=>crossB a b=false):=h.imp (fun {a b} g=>by unfold inlPair at g;rw[Bool.and_eq_true,Bool.not_eq_true'] at g;exact g.2)
  exact⟨h1,(nest_iff o.inlines [] (by simp) h1 List.Pairwise.nil).2 ⟨by simp,h2⟩⟩
end Go.Proofs.YtfaepbjnpakghaaGreatDoor.W
