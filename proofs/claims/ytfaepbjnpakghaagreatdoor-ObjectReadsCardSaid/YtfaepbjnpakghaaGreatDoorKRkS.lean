import Derived.Test.YtfaepbjnpakghaaGreatDoorKBy
import Derived.Test.YtfaepbjnpakghaaGreatDoorKRc2
import Derived.Test.YtfaepbjnpakghaaGreatDoorKRc3
/- What is read is of moderate size (printed by tools/gen_rks.py). No program. -/
namespace Go.Proofs.YtfaepbjnpakghaaGreatDoor.W
set_option linter.unusedVariables false
theorem int_range (st:Rs):I64 (intD st).1:=by
 rw[intD_eq]
 have:=number_lt st
 unfold zag I64
 dsimp only
 split<;>omega
theorem num_range (st:Rs):I64 (numD st).1:=by
 have:=num_nonneg st
 unfold I64;omega
theorem repD_count {α:Type} (d:Rs→α × Rs):∀(n:Nat) (st:Rs),(repD d n st).1.length=n
 | 0,st=>rfl
 | n+1,st=>by rw[repD,List.length_cons,repD_count d n]
theorem repD_all {α:Type} {d:Rs→α × Rs} {p:α→Prop} {N:Nat} (hd:∀st,(d st).2.rest.length≤st.rest.length) (hp:∀st,st.rest.length≤N→p (d st).1):∀(n:Nat) (st:Rs),st.rest.length≤N→∀x∈(repD d n st).1,p x
 | 0,st,_,x,hx=>by cases hx
 | n+1,st,h,x,hx=>by
   rw[repD] at hx
   rcases List.mem_cons.1 hx with rfl | hx
   ·exact hp st h
   ·exact repD_all hd hp n (d st).2 (Nat.le_trans (hd st) h) x hx
theorem listD_count {α:Type} (d:Rs→α × Rs) (st:Rs):(listD d st).1.length≤st.rest.length:=by
 have:=num_len st
 unfold listD
 split
 ·exact Nat.zero_le _
 ·rw[repD_count];omega
theorem listD_all {α:Type} {d:Rs→α × Rs} {p:α→Prop} {N:Nat} (hd:∀st,(d st).2.rest.length≤st.rest.length) (hp:∀st,st.rest.length≤N→p (d st).1) (st:Rs) (h:st.rest.length≤N):∀x∈(listD d st).1,p x:=by
 have:=num_len st
 unfold listD
 split
 ·intro x hx;cases hx
 ·exact repD_all hd hp _ _ (Nat.le_trans this h)
theorem repD_sum {α:Type} {d:Rs→α × Rs} {f:α→Nat} (hd:∀st,f (d st).1+(d st).2.rest.length≤st.rest.length):∀(n:Nat) (st:Rs),((repD d n st).1.map f).sum+(repD d n st).2.rest.length≤st.rest.length
 | 0,st=>by simp[repD]
 | n+1,st=>by
   have h1:=hd st
   have h2:=repD_sum hd n (d st).2
   rw[repD]
   dsimp only
   rw[List.map_cons,List.sum_cons];omega
theorem listD_sum {α:Type} {d:Rs→α × Rs} {f:α→Nat} (hd:∀st,f (d st).1+(d st).2.rest.length≤st.rest.length) (st:Rs):((listD d st).1.map f).sum≤st.rest.length:=by
 have:=num_len st
 unfold listD
 split
 ·simp
 ·have:=repD_sum hd (numD st).1.toNat (numD st).2
  omega
theorem items_sum:∀(n:Nat) (st:Rs),(itemsD n st).2.bad=false→(itemsD n st).1.length+(itemsD n st).2.rest.length≤st.rest.length
 | 0,st,_=>by simp[itemsD]
 | n+1,st,h=>by
   rw[itemsD] at h⊢
   by_cases hb:st.bad=true
   ·rw[if_pos hb] at h⊢;simp
   ·rw[if_neg hb] at h⊢
    dsimp only at h⊢
    have h1:=items_sum n (intD st).2 h
    have h2:=int_less st (by
     rcases hq:(intD st).2.bad with _ | _
     ·rfl
     ·have:=items_stop n (intD st).2 (.inr hq)
      rw[this] at h
      rw[hq] at h;cases h)
    rw[List.length_cons];omega
theorem ints_sum (st:Rs):(intsD st).1.length+(intsD st).2.rest.length≤st.rest.length:=by
 have h0:=num_len st
 unfold intsD
 dsimp only
 by_cases hb:(itemsD (numD st).1.toNat (numD st).2).2.bad=true
 ·rw[if_pos hb]
  have:=items_len (numD st).1.toNat (numD st).2
  simp;omega
 ·rw[if_neg hb]
  have:=items_sum (numD st).1.toNat (numD st).2 (by simpa using hb)
  omega
theorem items_range:∀(n:Nat) (st:Rs),∀x∈(itemsD n st).1,I64 x
 | 0,st,x,hx=>by cases hx
 | n+1,st,x,hx=>by
   rw[itemsD] at hx
   split at hx
   ·cases hx
   ·rcases List.mem_cons.1 hx with rfl | hx
    ·exact int_range st
    ·exact items_range n _ x hx
theorem ints_range (st:Rs):∀x∈(intsD st).1,I64 x:=by
 unfold intsD
 dsimp only
 split
 ·intro x hx;cases hx
 ·exact items_range _ _
theorem lenR_of {n:Nat} {N:Nat} (h:n≤N) (hN:N≤1000000000):lenR n:=by unfold lenR;omega
theorem len_flat {α β:Type} (f:α→List β):∀xs:List α,(xs.flatMap f).length=(xs.map fun x=>(f x).length).sum
 | []=>rfl
 | x::r=>by rw[List.flatMap_cons,List.length_append,len_flat f r];simp
theorem Sec.rd_ok (st:Rs) (h:st.rest.length≤800000):(Sec.rd st).1.Ok:=by
 obtain⟨a0,ha0⟩:∃a,textD st=a:=⟨_,rfl⟩
 obtain⟨a1,ha1⟩:∃a,numD a0.2=a:=⟨_,rfl⟩
 obtain⟨a2,ha2⟩:∃a,numD a1.2=a:=⟨_,rfl⟩
 obtain⟨a3,ha3⟩:∃a,numD a2.2=a:=⟨_,rfl⟩
 obtain⟨a4,ha4⟩:∃a,textD a3.2=a:=⟨_,rfl⟩
 obtain⟨a5,ha5⟩:∃a,truthD a4.2=a:=⟨_,rfl⟩
 have hE:Sec.rd st=(⟨a0.1,a1.1,a2.1,a3.1,a4.1,a5.1⟩,a5.2):=by simp only[Sec.rd,ha0,ha1,ha2,ha3,ha4,ha5]
 rw[hE]
 have l0:=text_rest st
 have q0:=text_size st
 rw[ha0] at l0 q0
 have r0:=Nat.le_trans l0 h
 have l1:=num_len a0.2
 have q1:=num_range a0.2
 rw[ha1] at l1 q1
 have r1:=Nat.le_trans l1 r0
 have l2:=num_len a1.2
 have q2:=num_range a1.2
 rw[ha2] at l2 q2
 have r2:=Nat.le_trans l2 r1
 have l3:=num_len a2.2
 have q3:=num_range a2.2
 rw[ha3] at l3 q3
 have r3:=Nat.le_trans l3 r2
 have l4:=text_rest a3.2
 have q4:=text_size a3.2
 rw[ha4] at l4 q4
 have r4:=Nat.le_trans l4 r3
 have l5:=truth_len a4.2
 have q5:True:=trivial
 rw[ha5] at l5
 have r5:=Nat.le_trans l5 r4
 exact⟨lenR_of (Nat.le_trans q0 h) (by decide),q1,q2,q3,lenR_of (Nat.le_trans q4 r3) (by decide)⟩
theorem Sym.rd_ok (st:Rs) (h:st.rest.length≤800000):(Sym.rd st).1.Ok:=by
 obtain⟨a0,ha0⟩:∃a,textD st=a:=⟨_,rfl⟩
 obtain⟨a1,ha1⟩:∃a,textD a0.2=a:=⟨_,rfl⟩
 obtain⟨a2,ha2⟩:∃a,truthD a1.2=a:=⟨_,rfl⟩
 obtain⟨a3,ha3⟩:∃a,numD a2.2=a:=⟨_,rfl⟩
 obtain⟨a4,ha4⟩:∃a,numD a3.2=a:=⟨_,rfl⟩
 obtain⟨a5,ha5⟩:∃a,numD a4.2=a:=⟨_,rfl⟩
 obtain⟨a6,ha6⟩:∃a,intD a5.2=a:=⟨_,rfl⟩
 obtain⟨a7,ha7⟩:∃a,numD a6.2=a:=⟨_,rfl⟩
 obtain⟨a8,ha8⟩:∃a,numD a7.2=a:=⟨_,rfl⟩
 obtain⟨a9,ha9⟩:∃a,numD a8.2=a:=⟨_,rfl⟩
 have hE:Sym.rd st=(⟨a0.1,a1.1,a2.1,a3.1,a4.1,a5.1,a6.1,a7.1,a8.1,a9.1⟩,a9.2):=by simp only[Sym.rd,ha0,ha1,ha2,ha3,ha4,ha5,ha6,ha7,ha8,ha9]
 rw[hE]
 have l0:=text_rest st
 have q0:=text_size st
 rw[ha0] at l0 q0
 have r0:=Nat.le_trans l0 h
 have l1:=text_rest a0.2
 have q1:=text_size a0.2
 rw[ha1] at l1 q1
 have r1:=Nat.le_trans l1 r0
 have l2:=truth_len a1.2
 have q2:True:=trivial
 rw[ha2] at l2
 have r2:=Nat.le_trans l2 r1
 have l3:=num_len a2.2
 have q3:=num_range a2.2
 rw[ha3] at l3 q3
 have r3:=Nat.le_trans l3 r2
 have l4:=num_len a3.2
 have q4:=num_range a3.2
 rw[ha4] at l4 q4
 have r4:=Nat.le_trans l4 r3
 have l5:=num_len a4.2
 have q5:=num_range a4.2
 rw[ha5] at l5 q5
 have r5:=Nat.le_trans l5 r4
 have l6:=int_len a5.2
 have q6:=int_range a5.2
 rw[ha6] at l6 q6
 have r6:=Nat.le_trans l6 r5
 have l7:=num_len a6.2
 have q7:=num_range a6.2
 rw[ha7] at l7 q7
 have r7:=Nat.le_trans l7 r6
 have l8:=num_len a7.2
 have q8:=num_range a7.2
 rw[ha8] at l8 q8
 have r8:=Nat.le_trans l8 r7
 have l9:=num_len a8.2
 have q9:=num_range a8.2
 rw[ha9] at l9 q9
 have r9:=Nat.le_trans l9 r8
 exact⟨lenR_of (Nat.le_trans q0 h) (by decide),lenR_of (Nat.le_trans q1 r0) (by decide),q3,q4,q5,q6,q7,q8,q9⟩
theorem Rel.rd_ok (st:Rs) (h:st.rest.length≤800000):(Rel.rd st).1.Ok:=by
 obtain⟨a0,ha0⟩:∃a,numD st=a:=⟨_,rfl⟩
 obtain⟨a1,ha1⟩:∃a,numD a0.2=a:=⟨_,rfl⟩
 obtain⟨a2,ha2⟩:∃a,numD a1.2=a:=⟨_,rfl⟩
 obtain⟨a3,ha3⟩:∃a,numD a2.2=a:=⟨_,rfl⟩
 obtain⟨a4,ha4⟩:∃a,intD a3.2=a:=⟨_,rfl⟩
 have hE:Rel.rd st=(⟨a0.1,a1.1,a2.1,a3.1,a4.1⟩,a4.2):=by simp only[Rel.rd,ha0,ha1,ha2,ha3,ha4]
 rw[hE]
 have l0:=num_len st
 have q0:=num_range st
 rw[ha0] at l0 q0
 have r0:=Nat.le_trans l0 h
 have l1:=num_len a0.2
 have q1:=num_range a0.2
 rw[ha1] at l1 q1
 have r1:=Nat.le_trans l1 r0
 have l2:=num_len a1.2
 have q2:=num_range a1.2
 rw[ha2] at l2 q2
 have r2:=Nat.le_trans l2 r1
 have l3:=num_len a2.2
 have q3:=num_range a2.2
 rw[ha3] at l3 q3
 have r3:=Nat.le_trans l3 r2
 have l4:=int_len a3.2
 have q4:=int_range a3.2
 rw[ha4] at l4 q4
 have r4:=Nat.le_trans l4 r3
 exact⟨q0,q1,q2,q3,q4⟩
theorem Grp.rd_ok (st:Rs) (h:st.rest.length≤800000):(Grp.rd st).1.Ok:=by
 obtain⟨a0,ha0⟩:∃a,textD st=a:=⟨_,rfl⟩
 obtain⟨a1,ha1⟩:∃a,intsD a0.2=a:=⟨_,rfl⟩
 have hE:Grp.rd st=(⟨a0.1,a1.1⟩,a1.2):=by simp only[Grp.rd,ha0,ha1]
 rw[hE]
 have l0:=text_rest st
 have q0:=text_size st
 rw[ha0] at l0 q0
 have r0:=Nat.le_trans l0 h
 have l1:=ints_len a0.2
 have q1:=ints_sum a0.2
 have p1:=ints_range a0.2
 rw[ha1] at l1 q1 p1
 have r1:=Nat.le_trans l1 r0
 exact⟨lenR_of (Nat.le_trans q0 h) (by decide),lenR_of (Nat.le_trans (Nat.le_trans (Nat.le_add_right _ _) q1) r0) (by decide),p1⟩
theorem Ini.rd_ok (st:Rs) (h:st.rest.length≤800000):(Ini.rd st).1.Ok:=by
 obtain⟨a0,ha0⟩:∃a,numD st=a:=⟨_,rfl⟩
 obtain⟨a1,ha1⟩:∃a,intD a0.2=a:=⟨_,rfl⟩
 obtain⟨a2,ha2⟩:∃a,truthD a1.2=a:=⟨_,rfl⟩
 have hE:Ini.rd st=(⟨a0.1,a1.1,a2.1⟩,a2.2):=by simp only[Ini.rd,ha0,ha1,ha2]
 rw[hE]
 have l0:=num_len st
 have q0:=num_range st
 rw[ha0] at l0 q0
 have r0:=Nat.le_trans l0 h
 have l1:=int_len a0.2
 have q1:=int_range a0.2
 rw[ha1] at l1 q1
 have r1:=Nat.le_trans l1 r0
 have l2:=truth_len a1.2
 have q2:True:=trivial
 rw[ha2] at l2
 have r2:=Nat.le_trans l2 r1
 exact⟨q0,q1⟩
theorem Lne.rd_ok (st:Rs) (h:st.rest.length≤800000):(Lne.rd st).1.Ok:=by
 obtain⟨a0,ha0⟩:∃a,numD st=a:=⟨_,rfl⟩
 obtain⟨a1,ha1⟩:∃a,numD a0.2=a:=⟨_,rfl⟩
 obtain⟨a2,ha2⟩:∃a,textD a1.2=a:=⟨_,rfl⟩
 obtain⟨a3,ha3⟩:∃a,numD a2.2=a:=⟨_,rfl⟩
 have hE:Lne.rd st=(⟨a0.1,a1.1,a2.1,a3.1⟩,a3.2):=by simp only[Lne.rd,ha0,ha1,ha2,ha3]
 rw[hE]
 have l0:=num_len st
 have q0:=num_range st
 rw[ha0] at l0 q0
 have r0:=Nat.le_trans l0 h
 have l1:=num_len a0.2
 have q1:=num_range a0.2
 rw[ha1] at l1 q1
 have r1:=Nat.le_trans l1 r0
 have l2:=text_rest a1.2
 have q2:=text_size a1.2
 rw[ha2] at l2 q2
 have r2:=Nat.le_trans l2 r1
 have l3:=num_len a2.2
 have q3:=num_range a2.2
 rw[ha3] at l3 q3
 have r3:=Nat.le_trans l3 r2
 exact⟨q0,q1,lenR_of (Nat.le_trans q2 r1) (by decide),q3⟩
theorem Inl.rd_ok (st:Rs) (h:st.rest.length≤800000):(Inl.rd st).1.Ok:=by
 obtain⟨a0,ha0⟩:∃a,numD st=a:=⟨_,rfl⟩
 obtain⟨a1,ha1⟩:∃a,numD a0.2=a:=⟨_,rfl⟩
 obtain⟨a2,ha2⟩:∃a,numD a1.2=a:=⟨_,rfl⟩
 obtain⟨a3,ha3⟩:∃a,textD a2.2=a:=⟨_,rfl⟩
 obtain⟨a4,ha4⟩:∃a,textD a3.2=a:=⟨_,rfl⟩
 obtain⟨a5,ha5⟩:∃a,numD a4.2=a:=⟨_,rfl⟩
 have hE:Inl.rd st=(⟨a0.1,a1.1,a2.1,a3.1,a4.1,a5.1⟩,a5.2):=by simp only[Inl.rd,ha0,ha1,ha2,ha3,ha4,ha5]
 rw[hE]
 have l0:=num_len st
 have q0:=num_range st
 rw[ha0] at l0 q0
 have r0:=Nat.le_trans l0 h
 have l1:=num_len a0.2
 have q1:=num_range a0.2
 rw[ha1] at l1 q1
 have r1:=Nat.le_trans l1 r0
 have l2:=num_len a1.2
 have q2:=num_range a1.2
 rw[ha2] at l2 q2
 have r2:=Nat.le_trans l2 r1
 have l3:=text_rest a2.2
 have q3:=text_size a2.2
 rw[ha3] at l3 q3
 have r3:=Nat.le_trans l3 r2
 have l4:=text_rest a3.2
 have q4:=text_size a3.2
 rw[ha4] at l4 q4
 have r4:=Nat.le_trans l4 r3
 have l5:=num_len a4.2
 have q5:=num_range a4.2
 rw[ha5] at l5 q5
 have r5:=Nat.le_trans l5 r4
 exact⟨q0,q1,q2,lenR_of (Nat.le_trans q3 r2) (by decide),lenR_of (Nat.le_trans q4 r3) (by decide),q5⟩
theorem Vrr.rd_ok (st:Rs) (h:st.rest.length≤800000):(Vrr.rd st).1.Ok:=by
 obtain⟨a0,ha0⟩:∃a,numD st=a:=⟨_,rfl⟩
 obtain⟨a1,ha1⟩:∃a,numD a0.2=a:=⟨_,rfl⟩
 obtain⟨a2,ha2⟩:∃a,numD a1.2=a:=⟨_,rfl⟩
 obtain⟨a3,ha3⟩:∃a,textD a2.2=a:=⟨_,rfl⟩
 obtain⟨a4,ha4⟩:∃a,numD a3.2=a:=⟨_,rfl⟩
 obtain⟨a5,ha5⟩:∃a,numD a4.2=a:=⟨_,rfl⟩
 have hE:Vrr.rd st=(⟨a0.1,a1.1,a2.1,a3.1,a4.1,a5.1⟩,a5.2):=by simp only[Vrr.rd,ha0,ha1,ha2,ha3,ha4,ha5]
 rw[hE]
 have l0:=num_len st
 have q0:=num_range st
 rw[ha0] at l0 q0
 have r0:=Nat.le_trans l0 h
 have l1:=num_len a0.2
 have q1:=num_range a0.2
 rw[ha1] at l1 q1
 have r1:=Nat.le_trans l1 r0
 have l2:=num_len a1.2
 have q2:=num_range a1.2
 rw[ha2] at l2 q2
 have r2:=Nat.le_trans l2 r1
 have l3:=text_rest a2.2
 have q3:=text_size a2.2
 rw[ha3] at l3 q3
 have r3:=Nat.le_trans l3 r2
 have l4:=num_len a3.2
 have q4:=num_range a3.2
 rw[ha4] at l4 q4
 have r4:=Nat.le_trans l4 r3
 have l5:=num_len a4.2
 have q5:=num_range a4.2
 rw[ha5] at l5 q5
 have r5:=Nat.le_trans l5 r4
 exact⟨q0,q1,q2,lenR_of (Nat.le_trans q3 r2) (by decide),q4,q5⟩
theorem Dep.rd_ok (st:Rs) (h:st.rest.length≤800000):(Dep.rd st).1.Ok:=by
 obtain⟨a0,ha0⟩:∃a,numD st=a:=⟨_,rfl⟩
 obtain⟨a1,ha1⟩:∃a,numD a0.2=a:=⟨_,rfl⟩
 obtain⟨a2,ha2⟩:∃a,numD a1.2=a:=⟨_,rfl⟩
 obtain⟨a3,ha3⟩:∃a,numD a2.2=a:=⟨_,rfl⟩
 have hE:Dep.rd st=(⟨a0.1,a1.1,a2.1,a3.1⟩,a3.2):=by simp only[Dep.rd,ha0,ha1,ha2,ha3]
 rw[hE]
 have l0:=num_len st
 have q0:=num_range st
 rw[ha0] at l0 q0
 have r0:=Nat.le_trans l0 h
 have l1:=num_len a0.2
 have q1:=num_range a0.2
 rw[ha1] at l1 q1
 have r1:=Nat.le_trans l1 r0
 have l2:=num_len a1.2
 have q2:=num_range a1.2
 rw[ha2] at l2 q2
 have r2:=Nat.le_trans l2 r1
 have l3:=num_len a2.2
 have q3:=num_range a2.2
 rw[ha3] at l3 q3
 have r3:=Nat.le_trans l3 r2
 exact⟨q0,q1,q2,q3⟩
theorem Pce.rd_ok (st:Rs) (h:st.rest.length≤800000):(Pce.rd st).1.Ok:=by
 obtain⟨a0,ha0⟩:∃a,numD st=a:=⟨_,rfl⟩
 obtain⟨a1,ha1⟩:∃a,numD a0.2=a:=⟨_,rfl⟩
 obtain⟨a2,ha2⟩:∃a,numD a1.2=a:=⟨_,rfl⟩
 have hE:Pce.rd st=(⟨a0.1,a1.1,a2.1⟩,a2.2):=by simp only[Pce.rd,ha0,ha1,ha2]
 rw[hE]
 have l0:=num_len st
 have q0:=num_range st
 rw[ha0] at l0 q0
 have r0:=Nat.le_trans l0 h
 have l1:=num_len a0.2
 have q1:=num_range a0.2
 rw[ha1] at l1 q1
 have r1:=Nat.le_trans l1 r0
 have l2:=num_len a1.2
 have q2:=num_range a1.2
 rw[ha2] at l2 q2
 have r2:=Nat.le_trans l2 r1
 exact⟨q0,q1,q2⟩
theorem Cnv.rd_ok (st:Rs) (h:st.rest.length≤800000):(Cnv.rd st).1.Ok:=by
 obtain⟨a0,ha0⟩:∃a,numD st=a:=⟨_,rfl⟩
 obtain⟨a1,ha1⟩:∃a,textD a0.2=a:=⟨_,rfl⟩
 obtain⟨a2,ha2⟩:∃a,(listD Pce.rd) a1.2=a:=⟨_,rfl⟩
 obtain⟨a3,ha3⟩:∃a,intD a2.2=a:=⟨_,rfl⟩
 have hE:Cnv.rd st=(⟨a0.1,a1.1,a2.1,a3.1⟩,a3.2):=by simp only[Cnv.rd,ha0,ha1,ha2,ha3]
 rw[hE]
 have l0:=num_len st
 have q0:=num_range st
 rw[ha0] at l0 q0
 have r0:=Nat.le_trans l0 h
 have l1:=text_rest a0.2
 have q1:=text_size a0.2
 rw[ha1] at l1 q1
 have r1:=Nat.le_trans l1 r0
 have l2:=listD_len Pce.rd_len a1.2
 have q2:=listD_count Pce.rd a1.2
 have p2:=listD_all Pce.rd_len (fun st h=>Pce.rd_ok st h) a1.2 r1
 rw[ha2] at l2 q2 p2
 have r2:=Nat.le_trans l2 r1
 have l3:=int_len a2.2
 have q3:=int_range a2.2
 rw[ha3] at l3 q3
 have r3:=Nat.le_trans l3 r2
 exact⟨q0,lenR_of (Nat.le_trans q1 r0) (by decide),lenR_of (Nat.le_trans q2 r1) (by decide),p2,q3⟩
theorem Sec.rd_bytes (st:Rs) (h:st.rest.length≤800000):(Sec.rd st).1.bytes.size≤800000:=by
 unfold Sec.rd
 dsimp only
 have r0:=Nat.le_trans (text_rest st) h
 have r1:=Nat.le_trans (num_len (textD st).2) r0
 have r2:=Nat.le_trans (num_len (numD (textD st).2).2) r1
 have r3:=Nat.le_trans (num_len (numD (numD (textD st).2).2).2) r2
 exact Nat.le_trans (text_size (numD (numD (numD (textD st).2).2).2).2) r3
theorem Grp.rd_sum (st:Rs):(Grp.rd st).1.secs.length+(Grp.rd st).2.rest.length≤st.rest.length:=by
 unfold Grp.rd
 dsimp only
 have h1:=text_rest st
 have h2:=ints_sum (textD st).2
 omega
theorem Cnv.rd_pieces (st:Rs) (h:st.rest.length≤800000):(Cnv.rd st).1.pieces.length≤800000:=by
 unfold Cnv.rd
 dsimp only
 have h1:=num_len st
 have h2:=text_rest (numD st).2
 have h3:=listD_count Pce.rd (textD (numD st).2).2
 omega
theorem Ob.rd_ok (st:Rs) (h:st.rest.length≤800000):(Ob.rd st).1.Ok∧(∀s∈(Ob.rd st).1.secs,s.bytes.size≤800000)∧((Ob.rd st).1.groups.flatMap Grp.secs).length≤800000∧(Ob.rd st).1.inlines.length≤800000:=by
 obtain⟨a0,ha0⟩:∃a,textD st=a:=⟨_,rfl⟩
 obtain⟨a1,ha1⟩:∃a,(listD Sec.rd) a0.2=a:=⟨_,rfl⟩
 obtain⟨a2,ha2⟩:∃a,(listD Sym.rd) a1.2=a:=⟨_,rfl⟩
 obtain⟨a3,ha3⟩:∃a,(listD Rel.rd) a2.2=a:=⟨_,rfl⟩
 obtain⟨a4,ha4⟩:∃a,(listD Grp.rd) a3.2=a:=⟨_,rfl⟩
 obtain⟨a5,ha5⟩:∃a,(listD Ini.rd) a4.2=a:=⟨_,rfl⟩
 obtain⟨a6,ha6⟩:∃a,(listD Lne.rd) a5.2=a:=⟨_,rfl⟩
 obtain⟨a7,ha7⟩:∃a,(listD Inl.rd) a6.2=a:=⟨_,rfl⟩
 obtain⟨a8,ha8⟩:∃a,(listD Vrr.rd) a7.2=a:=⟨_,rfl⟩
 obtain⟨a9,ha9⟩:∃a,(listD Dep.rd) a8.2=a:=⟨_,rfl⟩
 obtain⟨a10,ha10⟩:∃a,(listD Cnv.rd) a9.2=a:=⟨_,rfl⟩
 have hE:Ob.rd st=(⟨a0.1,a1.1,a2.1,a3.1,a4.1,a5.1,a6.1,a7.1,a8.1,a9.1,a10.1⟩,a10.2):=by simp only[Ob.rd,ha0,ha1,ha2,ha3,ha4,ha5,ha6,ha7,ha8,ha9,ha10]
 rw[hE]
 have l0:=text_rest st
 have q0:=text_size st
 rw[ha0] at l0 q0
 have r0:=Nat.le_trans l0 h
 have l1:=listD_len Sec.rd_len a0.2
 have q1:=listD_count Sec.rd a0.2
 have p1:=listD_all Sec.rd_len (fun st h=>Sec.rd_ok st h) a0.2 r0
 have z1:=listD_all (p:=fun s=>s.bytes.size≤800000) Sec.rd_len (fun st h=>Sec.rd_bytes st h) a0.2 r0
 rw[ha1] at l1 q1 p1 z1
 have r1:=Nat.le_trans l1 r0
 have l2:=listD_len Sym.rd_len a1.2
 have q2:=listD_count Sym.rd a1.2
 have p2:=listD_all Sym.rd_len (fun st h=>Sym.rd_ok st h) a1.2 r1
 rw[ha2] at l2 q2 p2
 have r2:=Nat.le_trans l2 r1
 have l3:=listD_len Rel.rd_len a2.2
 have q3:=listD_count Rel.rd a2.2
 have p3:=listD_all Rel.rd_len (fun st h=>Rel.rd_ok st h) a2.2 r2
 rw[ha3] at l3 q3 p3
 have r3:=Nat.le_trans l3 r2
 have l4:=listD_len Grp.rd_len a3.2
 have q4:=listD_count Grp.rd a3.2
 have p4:=listD_all Grp.rd_len (fun st h=>Grp.rd_ok st h) a3.2 r3
 have z4:=listD_sum (d:=Grp.rd) (f:=fun g=>g.secs.length) Grp.rd_sum a3.2
 rw[ha4] at l4 q4 p4 z4
 have r4:=Nat.le_trans l4 r3
 have l5:=listD_len Ini.rd_len a4.2
 have q5:=listD_count Ini.rd a4.2
 have p5:=listD_all Ini.rd_len (fun st h=>Ini.rd_ok st h) a4.2 r4
 rw[ha5] at l5 q5 p5
 have r5:=Nat.le_trans l5 r4
 have l6:=listD_len Lne.rd_len a5.2
 have q6:=listD_count Lne.rd a5.2
 have p6:=listD_all Lne.rd_len (fun st h=>Lne.rd_ok st h) a5.2 r5
 rw[ha6] at l6 q6 p6
 have r6:=Nat.le_trans l6 r5
 have l7:=listD_len Inl.rd_len a6.2
 have q7:=listD_count Inl.rd a6.2
 have p7:=listD_all Inl.rd_len (fun st h=>Inl.rd_ok st h) a6.2 r6
 rw[ha7] at l7 q7 p7
 have r7:=Nat.le_trans l7 r6
 have l8:=listD_len Vrr.rd_len a7.2
 have q8:=listD_count Vrr.rd a7.2
 have p8:=listD_all Vrr.rd_len (fun st h=>Vrr.rd_ok st h) a7.2 r7
 rw[ha8] at l8 q8 p8
 have r8:=Nat.le_trans l8 r7
 have l9:=listD_len Dep.rd_len a8.2
 have q9:=listD_count Dep.rd a8.2
 have p9:=listD_all Dep.rd_len (fun st h=>Dep.rd_ok st h) a8.2 r8
 rw[ha9] at l9 q9 p9
 have r9:=Nat.le_trans l9 r8
 have l10:=listD_len Cnv.rd_len a9.2
 have q10:=listD_count Cnv.rd a9.2
 have p10:=listD_all Cnv.rd_len (fun st h=>Cnv.rd_ok st h) a9.2 r9
 rw[ha10] at l10 q10 p10
 have r10:=Nat.le_trans l10 r9
 exact⟨⟨lenR_of (Nat.le_trans q0 h) (by decide),lenR_of (Nat.le_trans q1 r0) (by decide),p1,lenR_of (Nat.le_trans q2 r1) (by decide),p2,lenR_of (Nat.le_trans q3 r2) (by decide),p3,lenR_of (Nat.le_trans q4 r3) (by decide),p4,lenR_of (Nat.le_trans q5 r4) (by decide),p5,lenR_of (Nat.le_trans q6 r5) (by decide),p6,lenR_of (Nat.le_trans q7 r6) (by decide),p7,lenR_of (Nat.le_trans q8 r7) (by decide),p8,lenR_of (Nat.le_trans q9 r8) (by decide),p9,lenR_of (Nat.le_trans q10 r9) (by decide),p10⟩,z1,by rw[len_flat];exact Nat.le_trans z4 r3,Nat.le_trans q7 r6⟩
def zeroOb:Ob:=⟨⟨#[]⟩,[],[],[],[],[],[],[],[],[],[]⟩
def readO (s:List UInt8):Ob:=(readL s).getD zeroOb
theorem readL_some {s:List UInt8} (h:okR (Ob.rd ⟨s,false,false⟩)=true):readL s=some (Ob.rd ⟨s,false,false⟩).1:=by unfold readL;rw[if_pos h]
theorem readL_none {s:List UInt8} (h:okR (Ob.rd ⟨s,false,false⟩)=false):readL s=none:=by unfold readL;rw[if_neg (by rw[h];decide)]
theorem okR_bad2 {p:Ob × Rs} (h:p.2.bad2=true):okR p=false:=by unfold okR;rw[h];rfl
theorem okR_done {p:Ob × Rs} (h:p.2.bad2=false):okR p=(p.2.done&&rightO p.1):=by unfold okR Rs.done;rw[h];rfl
end Go.Proofs.YtfaepbjnpakghaaGreatDoor.W
