import Derived.Test.YtfaepbjnpakghaaGreatDoorKag
/- The parts of an object: their bytes, and how they are read (the middle printed by tools/gen_codec.py). No program. -/
namespace Go.Proofs.YtfaepbjnpakghaaGreatDoor.W
set_option linter.unusedVariables false
def Sec.wr (x:Sec):List UInt8:=strL x.name++(natL x.kind++(natL x.align++(natL x.size++(strL x.bytes++boolL x.keep))))
def Sec.okc (x:Sec):Prop:=strOk x.name∧(natOk x.kind∧(natOk x.align∧(natOk x.size∧(strOk x.bytes∧anyOk x.keep))))
def Sec.rd (st:Rs):Sec × Rs:=
 let a1:=textD st
 let a2:=numD a1.2
 let a3:=numD a2.2
 let a4:=numD a3.2
 let a5:=textD a4.2
 let a6:=truthD a5.2
 (⟨a1.1,a2.1,a3.1,a4.1,a5.1,a6.1⟩,a6.2)
theorem Sec.cod:Cod Sec.wr Sec.okc Sec.rd where
 pos x:=by unfold Sec.wr;rw[List.length_append];have:=(strCod).pos x.name;omega
 fwd x r b h:=by
  obtain⟨h1,h2,h3,h4,h5,h6⟩:=h
  have e1:textD ⟨(strL x.name++(natL x.kind++(natL x.align++(natL x.size++(strL x.bytes++(boolL x.keep++r)))))),false,b⟩=(x.name,⟨(natL x.kind++(natL x.align++(natL x.size++(strL x.bytes++(boolL x.keep++r))))),false,b⟩):=(strCod).fwd x.name _ b h1
  have e2:numD ⟨(natL x.kind++(natL x.align++(natL x.size++(strL x.bytes++(boolL x.keep++r))))),false,b⟩=(x.kind,⟨(natL x.align++(natL x.size++(strL x.bytes++(boolL x.keep++r)))),false,b⟩):=(natCod).fwd x.kind _ b h2
  have e3:numD ⟨(natL x.align++(natL x.size++(strL x.bytes++(boolL x.keep++r)))),false,b⟩=(x.align,⟨(natL x.size++(strL x.bytes++(boolL x.keep++r))),false,b⟩):=(natCod).fwd x.align _ b h3
  have e4:numD ⟨(natL x.size++(strL x.bytes++(boolL x.keep++r))),false,b⟩=(x.size,⟨(strL x.bytes++(boolL x.keep++r)),false,b⟩):=(natCod).fwd x.size _ b h4
  have e5:textD ⟨(strL x.bytes++(boolL x.keep++r)),false,b⟩=(x.bytes,⟨(boolL x.keep++r),false,b⟩):=(strCod).fwd x.bytes _ b h5
  have e6:truthD ⟨(boolL x.keep++r),false,b⟩=(x.keep,⟨r,false,b⟩):=(boolCod).fwd x.keep _ b h6
  have hw:Sec.wr x++r=(strL x.name++(natL x.kind++(natL x.align++(natL x.size++(strL x.bytes++(boolL x.keep++r)))))):=by unfold Sec.wr;simp only[List.append_assoc]
  rw[hw]
  simp only[Sec.rd,e1,e2,e3,e4,e5,e6]
 back st k1 k2:=by
  obtain⟨a1,ha1⟩:∃a,textD st=a:=⟨_,rfl⟩
  obtain⟨a2,ha2⟩:∃a,numD a1.2=a:=⟨_,rfl⟩
  obtain⟨a3,ha3⟩:∃a,numD a2.2=a:=⟨_,rfl⟩
  obtain⟨a4,ha4⟩:∃a,numD a3.2=a:=⟨_,rfl⟩
  obtain⟨a5,ha5⟩:∃a,textD a4.2=a:=⟨_,rfl⟩
  obtain⟨a6,ha6⟩:∃a,truthD a5.2=a:=⟨_,rfl⟩
  have hr:Sec.rd st=(⟨a1.1,a2.1,a3.1,a4.1,a5.1,a6.1⟩,a6.2):=by simp only[Sec.rd,ha1,ha2,ha3,ha4,ha5,ha6]
  rw[hr] at k1 k2⊢
  dsimp only at k1 k2⊢
  obtain⟨p6,q6,r6,s6⟩:=(boolCod).back a5.2 (by rw[ha6];exact k1) (by rw[ha6];exact k2)
  rw[ha6] at p6 q6
  obtain⟨p5,q5,r5,s5⟩:=(strCod).back a4.2 (by rw[ha5];exact r6) (by rw[ha5];exact s6)
  rw[ha5] at p5 q5
  obtain⟨p4,q4,r4,s4⟩:=(natCod).back a3.2 (by rw[ha4];exact r5) (by rw[ha4];exact s5)
  rw[ha4] at p4 q4
  obtain⟨p3,q3,r3,s3⟩:=(natCod).back a2.2 (by rw[ha3];exact r4) (by rw[ha3];exact s4)
  rw[ha3] at p3 q3
  obtain⟨p2,q2,r2,s2⟩:=(natCod).back a1.2 (by rw[ha2];exact r3) (by rw[ha2];exact s3)
  rw[ha2] at p2 q2
  obtain⟨p1,q1,r1,s1⟩:=(strCod).back st (by rw[ha1];exact r2) (by rw[ha1];exact s2)
  rw[ha1] at p1 q1
  refine⟨?_,⟨q1,q2,q3,q4,q5,q6⟩,r1,s1⟩
  unfold Sec.wr
  rw[p1,p2,p3,p4,p5,p6]
  simp only[List.append_assoc]
def Sym.wr (x:Sym):List UInt8:=strL x.name++(strL x.version++(boolL x.main++(natL x.bind++(natL x.vis++(natL x.kind++(intL x.sec++(natL x.at_++(natL x.size++natL x.align))))))))
def Sym.okc (x:Sym):Prop:=strOk x.name∧(strOk x.version∧(anyOk x.main∧(natOk x.bind∧(natOk x.vis∧(natOk x.kind∧(I64 x.sec∧(natOk x.at_∧(natOk x.size∧natOk x.align))))))))
def Sym.rd (st:Rs):Sym × Rs:=
 let a1:=textD st
 let a2:=textD a1.2
 let a3:=truthD a2.2
 let a4:=numD a3.2
 let a5:=numD a4.2
 let a6:=numD a5.2
 let a7:=intD a6.2
 let a8:=numD a7.2
 let a9:=numD a8.2
 let a10:=numD a9.2
 (⟨a1.1,a2.1,a3.1,a4.1,a5.1,a6.1,a7.1,a8.1,a9.1,a10.1⟩,a10.2)
theorem Sym.cod:Cod Sym.wr Sym.okc Sym.rd where
 pos x:=by unfold Sym.wr;rw[List.length_append];have:=(strCod).pos x.name;omega
 fwd x r b h:=by
  obtain⟨h1,h2,h3,h4,h5,h6,h7,h8,h9,h10⟩:=h
  have e1:textD ⟨(strL x.name++(strL x.version++(boolL x.main++(natL x.bind++(natL x.vis++(natL x.kind++(intL x.sec++(natL x.at_++(natL x.size++(natL x.align++r)))))))))),false,b⟩=(x.name,⟨(strL x.version++(boolL x.main++(natL x.bind++(natL x.vis++(natL x.kind++(intL x.sec++(natL x.at_++(natL x.size++(natL x.align++r))))))))),false,b⟩):=(strCod).fwd x.name _ b h1
  have e2:textD ⟨(strL x.version++(boolL x.main++(natL x.bind++(natL x.vis++(natL x.kind++(intL x.sec++(natL x.at_++(natL x.size++(natL x.align++r))))))))),false,b⟩=(x.version,⟨(boolL x.main++(natL x.bind++(natL x.vis++(natL x.kind++(intL x.sec++(natL x.at_++(natL x.size++(natL x.align++r)))))))),false,b⟩):=(strCod).fwd x.version _ b h2
  have e3:truthD ⟨(boolL x.main++(natL x.bind++(natL x.vis++(natL x.kind++(intL x.sec++(natL x.at_++(natL x.size++(natL x.align++r)))))))),false,b⟩=(x.main,⟨(natL x.bind++(natL x.vis++(natL x.kind++(intL x.sec++(natL x.at_++(natL x.size++(natL x.align++r))))))),false,b⟩):=(boolCod).fwd x.main _ b h3
  have e4:numD ⟨(natL x.bind++(natL x.vis++(natL x.kind++(intL x.sec++(natL x.at_++(natL x.size++(natL x.align++r))))))),false,b⟩=(x.bind,⟨(natL x.vis++(natL x.kind++(intL x.sec++(natL x.at_++(natL x.size++(natL x.align++r)))))),false,b⟩):=(natCod).fwd x.bind _ b h4
  have e5:numD ⟨(natL x.vis++(natL x.kind++(intL x.sec++(natL x.at_++(natL x.size++(natL x.align++r)))))),false,b⟩=(x.vis,⟨(natL x.kind++(intL x.sec++(natL x.at_++(natL x.size++(natL x.align++r))))),false,b⟩):=(natCod).fwd x.vis _ b h5
  have e6:numD ⟨(natL x.kind++(intL x.sec++(natL x.at_++(natL x.size++(natL x.align++r))))),false,b⟩=(x.kind,⟨(intL x.sec++(natL x.at_++(natL x.size++(natL x.align++r)))),false,b⟩):=(natCod).fwd x.kind _ b h6
  have e7:intD ⟨(intL x.sec++(natL x.at_++(natL x.size++(natL x.align++r)))),false,b⟩=(x.sec,⟨(natL x.at_++(natL x.size++(natL x.align++r))),false,b⟩):=(intCod).fwd x.sec _ b h7
  have e8:numD ⟨(natL x.at_++(natL x.size++(natL x.align++r))),false,b⟩=(x.at_,⟨(natL x.size++(natL x.align++r)),false,b⟩):=(natCod).fwd x.at_ _ b h8
  have e9:numD ⟨(natL x.size++(natL x.align++r)),false,b⟩=(x.size,⟨(natL x.align++r),false,b⟩):=(natCod).fwd x.size _ b h9
  have e10:numD ⟨(natL x.align++r),false,b⟩=(x.align,⟨r,false,b⟩):=(natCod).fwd x.align _ b h10
  have hw:Sym.wr x++r=(strL x.name++(strL x.version++(boolL x.main++(natL x.bind++(natL x.vis++(natL x.kind++(intL x.sec++(natL x.at_++(natL x.size++(natL x.align++r)))))))))):=by unfold Sym.wr;simp only[List.append_assoc]
  rw[hw]
  simp only[Sym.rd,e1,e2,e3,e4,e5,e6,e7,e8,e9,e10]
 back st k1 k2:=by
  obtain⟨a1,ha1⟩:∃a,textD st=a:=⟨_,rfl⟩
  obtain⟨a2,ha2⟩:∃a,textD a1.2=a:=⟨_,rfl⟩
  obtain⟨a3,ha3⟩:∃a,truthD a2.2=a:=⟨_,rfl⟩
  obtain⟨a4,ha4⟩:∃a,numD a3.2=a:=⟨_,rfl⟩
  obtain⟨a5,ha5⟩:∃a,numD a4.2=a:=⟨_,rfl⟩
  obtain⟨a6,ha6⟩:∃a,numD a5.2=a:=⟨_,rfl⟩
  obtain⟨a7,ha7⟩:∃a,intD a6.2=a:=⟨_,rfl⟩
  obtain⟨a8,ha8⟩:∃a,numD a7.2=a:=⟨_,rfl⟩
  obtain⟨a9,ha9⟩:∃a,numD a8.2=a:=⟨_,rfl⟩
  obtain⟨a10,ha10⟩:∃a,numD a9.2=a:=⟨_,rfl⟩
  have hr:Sym.rd st=(⟨a1.1,a2.1,a3.1,a4.1,a5.1,a6.1,a7.1,a8.1,a9.1,a10.1⟩,a10.2):=by simp only[Sym.rd,ha1,ha2,ha3,ha4,ha5,ha6,ha7,ha8,ha9,ha10]
  rw[hr] at k1 k2⊢
  dsimp only at k1 k2⊢
  obtain⟨p10,q10,r10,s10⟩:=(natCod).back a9.2 (by rw[ha10];exact k1) (by rw[ha10];exact k2)
  rw[ha10] at p10 q10
  obtain⟨p9,q9,r9,s9⟩:=(natCod).back a8.2 (by rw[ha9];exact r10) (by rw[ha9];exact s10)
  rw[ha9] at p9 q9
  obtain⟨p8,q8,r8,s8⟩:=(natCod).back a7.2 (by rw[ha8];exact r9) (by rw[ha8];exact s9)
  rw[ha8] at p8 q8
  obtain⟨p7,q7,r7,s7⟩:=(intCod).back a6.2 (by rw[ha7];exact r8) (by rw[ha7];exact s8)
  rw[ha7] at p7 q7
  obtain⟨p6,q6,r6,s6⟩:=(natCod).back a5.2 (by rw[ha6];exact r7) (by rw[ha6];exact s7)
  rw[ha6] at p6 q6
  obtain⟨p5,q5,r5,s5⟩:=(natCod).back a4.2 (by rw[ha5];exact r6) (by rw[ha5];exact s6)
  rw[ha5] at p5 q5
  obtain⟨p4,q4,r4,s4⟩:=(natCod).back a3.2 (by rw[ha4];exact r5) (by rw[ha4];exact s5)
  rw[ha4] at p4 q4
  obtain⟨p3,q3,r3,s3⟩:=(boolCod).back a2.2 (by rw[ha3];exact r4) (by rw[ha3];exact s4)
  rw[ha3] at p3 q3
  obtain⟨p2,q2,r2,s2⟩:=(strCod).back a1.2 (by rw[ha2];exact r3) (by rw[ha2];exact s3)
  rw[ha2] at p2 q2
  obtain⟨p1,q1,r1,s1⟩:=(strCod).back st (by rw[ha1];exact r2) (by rw[ha1];exact s2)
  rw[ha1] at p1 q1
  refine⟨?_,⟨q1,q2,q3,q4,q5,q6,q7,q8,q9,q10⟩,r1,s1⟩
  unfold Sym.wr
  rw[p1,p2,p3,p4,p5,p6,p7,p8,p9,p10]
  simp only[List.append_assoc]
def Rel.wr (x:Rel):List UInt8:=natL x.sec++(natL x.at_++(natL x.kind++(natL x.sym++intL x.add)))
def Rel.okc (x:Rel):Prop:=natOk x.sec∧(natOk x.at_∧(natOk x.kind∧(natOk x.sym∧I64 x.add)))
def Rel.rd (st:Rs):Rel × Rs:=
 let a1:=numD st
 let a2:=numD a1.2
 let a3:=numD a2.2
 let a4:=numD a3.2
 let a5:=intD a4.2
 (⟨a1.1,a2.1,a3.1,a4.1,a5.1⟩,a5.2)
theorem Rel.cod:Cod Rel.wr Rel.okc Rel.rd where
 pos x:=by unfold Rel.wr;rw[List.length_append];have:=(natCod).pos x.sec;omega
 fwd x r b h:=by
  obtain⟨h1,h2,h3,h4,h5⟩:=h
  have e1:numD ⟨(natL x.sec++(natL x.at_++(natL x.kind++(natL x.sym++(intL x.add++r))))),false,b⟩=(x.sec,⟨(natL x.at_++(natL x.kind++(natL x.sym++(intL x.add++r)))),false,b⟩):=(natCod).fwd x.sec _ b h1
  have e2:numD ⟨(natL x.at_++(natL x.kind++(natL x.sym++(intL x.add++r)))),false,b⟩=(x.at_,⟨(natL x.kind++(natL x.sym++(intL x.add++r))),false,b⟩):=(natCod).fwd x.at_ _ b h2
  have e3:numD ⟨(natL x.kind++(natL x.sym++(intL x.add++r))),false,b⟩=(x.kind,⟨(natL x.sym++(intL x.add++r)),false,b⟩):=(natCod).fwd x.kind _ b h3
  have e4:numD ⟨(natL x.sym++(intL x.add++r)),false,b⟩=(x.sym,⟨(intL x.add++r),false,b⟩):=(natCod).fwd x.sym _ b h4
  have e5:intD ⟨(intL x.add++r),false,b⟩=(x.add,⟨r,false,b⟩):=(intCod).fwd x.add _ b h5
  have hw:Rel.wr x++r=(natL x.sec++(natL x.at_++(natL x.kind++(natL x.sym++(intL x.add++r))))):=by unfold Rel.wr;simp only[List.append_assoc]
  rw[hw]
  simp only[Rel.rd,e1,e2,e3,e4,e5]
 back st k1 k2:=by
  obtain⟨a1,ha1⟩:∃a,numD st=a:=⟨_,rfl⟩
  obtain⟨a2,ha2⟩:∃a,numD a1.2=a:=⟨_,rfl⟩
  obtain⟨a3,ha3⟩:∃a,numD a2.2=a:=⟨_,rfl⟩
  obtain⟨a4,ha4⟩:∃a,numD a3.2=a:=⟨_,rfl⟩
  obtain⟨a5,ha5⟩:∃a,intD a4.2=a:=⟨_,rfl⟩
  have hr:Rel.rd st=(⟨a1.1,a2.1,a3.1,a4.1,a5.1⟩,a5.2):=by simp only[Rel.rd,ha1,ha2,ha3,ha4,ha5]
  rw[hr] at k1 k2⊢
  dsimp only at k1 k2⊢
  obtain⟨p5,q5,r5,s5⟩:=(intCod).back a4.2 (by rw[ha5];exact k1) (by rw[ha5];exact k2)
  rw[ha5] at p5 q5
  obtain⟨p4,q4,r4,s4⟩:=(natCod).back a3.2 (by rw[ha4];exact r5) (by rw[ha4];exact s5)
  rw[ha4] at p4 q4
  obtain⟨p3,q3,r3,s3⟩:=(natCod).back a2.2 (by rw[ha3];exact r4) (by rw[ha3];exact s4)
  rw[ha3] at p3 q3
  obtain⟨p2,q2,r2,s2⟩:=(natCod).back a1.2 (by rw[ha2];exact r3) (by rw[ha2];exact s3)
  rw[ha2] at p2 q2
  obtain⟨p1,q1,r1,s1⟩:=(natCod).back st (by rw[ha1];exact r2) (by rw[ha1];exact s2)
  rw[ha1] at p1 q1
  refine⟨?_,⟨q1,q2,q3,q4,q5⟩,r1,s1⟩
  unfold Rel.wr
  rw[p1,p2,p3,p4,p5]
  simp only[List.append_assoc]
def Grp.wr (x:Grp):List UInt8:=strL x.name++(listL intL) x.secs
def Grp.okc (x:Grp):Prop:=strOk x.name∧(listOk I64) x.secs
def Grp.rd (st:Rs):Grp × Rs:=
 let a1:=textD st
 let a2:=intsD a1.2
 (⟨a1.1,a2.1⟩,a2.2)
theorem Grp.cod:Cod Grp.wr Grp.okc Grp.rd where
 pos x:=by unfold Grp.wr;rw[List.length_append];have:=(strCod).pos x.name;omega
 fwd x r b h:=by
  obtain⟨h1,h2⟩:=h
  have e1:textD ⟨(strL x.name++((listL intL) x.secs++r)),false,b⟩=(x.name,⟨((listL intL) x.secs++r),false,b⟩):=(strCod).fwd x.name _ b h1
  have e2:intsD ⟨((listL intL) x.secs++r),false,b⟩=(x.secs,⟨r,false,b⟩):=(intsCod).fwd x.secs _ b h2
  have hw:Grp.wr x++r=(strL x.name++((listL intL) x.secs++r)):=by unfold Grp.wr;simp only[List.append_assoc]
  rw[hw]
  simp only[Grp.rd,e1,e2]
 back st k1 k2:=by
  obtain⟨a1,ha1⟩:∃a,textD st=a:=⟨_,rfl⟩
  obtain⟨a2,ha2⟩:∃a,intsD a1.2=a:=⟨_,rfl⟩
  have hr:Grp.rd st=(⟨a1.1,a2.1⟩,a2.2):=by simp only[Grp.rd,ha1,ha2]
  rw[hr] at k1 k2⊢
  dsimp only at k1 k2⊢
  obtain⟨p2,q2,r2,s2⟩:=(intsCod).back a1.2 (by rw[ha2];exact k1) (by rw[ha2];exact k2)
  rw[ha2] at p2 q2
  obtain⟨p1,q1,r1,s1⟩:=(strCod).back st (by rw[ha1];exact r2) (by rw[ha1];exact s2)
  rw[ha1] at p1 q1
  refine⟨?_,⟨q1,q2⟩,r1,s1⟩
  unfold Grp.wr
  rw[p1,p2]
  simp only[List.append_assoc]
def Ini.wr (x:Ini):List UInt8:=natL x.sym++(intL x.order++boolL x.last)
def Ini.okc (x:Ini):Prop:=natOk x.sym∧(I64 x.order∧anyOk x.last)
def Ini.rd (st:Rs):Ini × Rs:=
 let a1:=numD st
 let a2:=intD a1.2
 let a3:=truthD a2.2
 (⟨a1.1,a2.1,a3.1⟩,a3.2)
theorem Ini.cod:Cod Ini.wr Ini.okc Ini.rd where
 pos x:=by unfold Ini.wr;rw[List.length_append];have:=(natCod).pos x.sym;omega
 fwd x r b h:=by
  obtain⟨h1,h2,h3⟩:=h
  have e1:numD ⟨(natL x.sym++(intL x.order++(boolL x.last++r))),false,b⟩=(x.sym,⟨(intL x.order++(boolL x.last++r)),false,b⟩):=(natCod).fwd x.sym _ b h1
  have e2:intD ⟨(intL x.order++(boolL x.last++r)),false,b⟩=(x.order,⟨(boolL x.last++r),false,b⟩):=(intCod).fwd x.order _ b h2
  have e3:truthD ⟨(boolL x.last++r),false,b⟩=(x.last,⟨r,false,b⟩):=(boolCod).fwd x.last _ b h3
  have hw:Ini.wr x++r=(natL x.sym++(intL x.order++(boolL x.last++r))):=by unfold Ini.wr;simp only[List.append_assoc]
  rw[hw]
  simp only[Ini.rd,e1,e2,e3]
 back st k1 k2:=by
  obtain⟨a1,ha1⟩:∃a,numD st=a:=⟨_,rfl⟩
  obtain⟨a2,ha2⟩:∃a,intD a1.2=a:=⟨_,rfl⟩
  obtain⟨a3,ha3⟩:∃a,truthD a2.2=a:=⟨_,rfl⟩
  have hr:Ini.rd st=(⟨a1.1,a2.1,a3.1⟩,a3.2):=by simp only[Ini.rd,ha1,ha2,ha3]
  rw[hr] at k1 k2⊢
  dsimp only at k1 k2⊢
  obtain⟨p3,q3,r3,s3⟩:=(boolCod).back a2.2 (by rw[ha3];exact k1) (by rw[ha3];exact k2)
  rw[ha3] at p3 q3
  obtain⟨p2,q2,r2,s2⟩:=(intCod).back a1.2 (by rw[ha2];exact r3) (by rw[ha2];exact s3)
  rw[ha2] at p2 q2
  obtain⟨p1,q1,r1,s1⟩:=(natCod).back st (by rw[ha1];exact r2) (by rw[ha1];exact s2)
  rw[ha1] at p1 q1
  refine⟨?_,⟨q1,q2,q3⟩,r1,s1⟩
  unfold Ini.wr
  rw[p1,p2,p3]
  simp only[List.append_assoc]
def Lne.wr (x:Lne):List UInt8:=natL x.sec++(natL x.at_++(strL x.file++natL x.line))
def Lne.okc (x:Lne):Prop:=natOk x.sec∧(natOk x.at_∧(strOk x.file∧natOk x.line))
def Lne.rd (st:Rs):Lne × Rs:=
 let a1:=numD st
 let a2:=numD a1.2
 let a3:=textD a2.2
 let a4:=numD a3.2
 (⟨a1.1,a2.1,a3.1,a4.1⟩,a4.2)
theorem Lne.cod:Cod Lne.wr Lne.okc Lne.rd where
 pos x:=by unfold Lne.wr;rw[List.length_append];have:=(natCod).pos x.sec;omega
 fwd x r b h:=by
  obtain⟨h1,h2,h3,h4⟩:=h
  have e1:numD ⟨(natL x.sec++(natL x.at_++(strL x.file++(natL x.line++r)))),false,b⟩=(x.sec,⟨(natL x.at_++(strL x.file++(natL x.line++r))),false,b⟩):=(natCod).fwd x.sec _ b h1
  have e2:numD ⟨(natL x.at_++(strL x.file++(natL x.line++r))),false,b⟩=(x.at_,⟨(strL x.file++(natL x.line++r)),false,b⟩):=(natCod).fwd x.at_ _ b h2
  have e3:textD ⟨(strL x.file++(natL x.line++r)),false,b⟩=(x.file,⟨(natL x.line++r),false,b⟩):=(strCod).fwd x.file _ b h3
  have e4:numD ⟨(natL x.line++r),false,b⟩=(x.line,⟨r,false,b⟩):=(natCod).fwd x.line _ b h4
  have hw:Lne.wr x++r=(natL x.sec++(natL x.at_++(strL x.file++(natL x.line++r)))):=by unfold Lne.wr;simp only[List.append_assoc]
  rw[hw]
  simp only[Lne.rd,e1,e2,e3,e4]
 back st k1 k2:=by
  obtain⟨a1,ha1⟩:∃a,numD st=a:=⟨_,rfl⟩
  obtain⟨a2,ha2⟩:∃a,numD a1.2=a:=⟨_,rfl⟩
  obtain⟨a3,ha3⟩:∃a,textD a2.2=a:=⟨_,rfl⟩
  obtain⟨a4,ha4⟩:∃a,numD a3.2=a:=⟨_,rfl⟩
  have hr:Lne.rd st=(⟨a1.1,a2.1,a3.1,a4.1⟩,a4.2):=by simp only[Lne.rd,ha1,ha2,ha3,ha4]
  rw[hr] at k1 k2⊢
  dsimp only at k1 k2⊢
  obtain⟨p4,q4,r4,s4⟩:=(natCod).back a3.2 (by rw[ha4];exact k1) (by rw[ha4];exact k2)
  rw[ha4] at p4 q4
  obtain⟨p3,q3,r3,s3⟩:=(strCod).back a2.2 (by rw[ha3];exact r4) (by rw[ha3];exact s4)
  rw[ha3] at p3 q3
  obtain⟨p2,q2,r2,s2⟩:=(natCod).back a1.2 (by rw[ha2];exact r3) (by rw[ha2];exact s3)
  rw[ha2] at p2 q2
  obtain⟨p1,q1,r1,s1⟩:=(natCod).back st (by rw[ha1];exact r2) (by rw[ha1];exact s2)
  rw[ha1] at p1 q1
  refine⟨?_,⟨q1,q2,q3,q4⟩,r1,s1⟩
  unfold Lne.wr
  rw[p1,p2,p3,p4]
  simp only[List.append_assoc]
def Inl.wr (x:Inl):List UInt8:=natL x.sec++(natL x.from_++(natL x.to_++(strL x.name++(strL x.file++natL x.line))))
def Inl.okc (x:Inl):Prop:=natOk x.sec∧(natOk x.from_∧(natOk x.to_∧(strOk x.name∧(strOk x.file∧natOk x.line))))
def Inl.rd (st:Rs):Inl × Rs:=
 let a1:=numD st
 let a2:=numD a1.2
 let a3:=numD a2.2
 let a4:=textD a3.2
 let a5:=textD a4.2
 let a6:=numD a5.2
 (⟨a1.1,a2.1,a3.1,a4.1,a5.1,a6.1⟩,a6.2)
theorem Inl.cod:Cod Inl.wr Inl.okc Inl.rd where
 pos x:=by unfold Inl.wr;rw[List.length_append];have:=(natCod).pos x.sec;omega
 fwd x r b h:=by
  obtain⟨h1,h2,h3,h4,h5,h6⟩:=h
  have e1:numD ⟨(natL x.sec++(natL x.from_++(natL x.to_++(strL x.name++(strL x.file++(natL x.line++r)))))),false,b⟩=(x.sec,⟨(natL x.from_++(natL x.to_++(strL x.name++(strL x.file++(natL x.line++r))))),false,b⟩):=(natCod).fwd x.sec _ b h1
  have e2:numD ⟨(natL x.from_++(natL x.to_++(strL x.name++(strL x.file++(natL x.line++r))))),false,b⟩=(x.from_,⟨(natL x.to_++(strL x.name++(strL x.file++(natL x.line++r)))),false,b⟩):=(natCod).fwd x.from_ _ b h2
  have e3:numD ⟨(natL x.to_++(strL x.name++(strL x.file++(natL x.line++r)))),false,b⟩=(x.to_,⟨(strL x.name++(strL x.file++(natL x.line++r))),false,b⟩):=(natCod).fwd x.to_ _ b h3
  have e4:textD ⟨(strL x.name++(strL x.file++(natL x.line++r))),false,b⟩=(x.name,⟨(strL x.file++(natL x.line++r)),false,b⟩):=(strCod).fwd x.name _ b h4
  have e5:textD ⟨(strL x.file++(natL x.line++r)),false,b⟩=(x.file,⟨(natL x.line++r),false,b⟩):=(strCod).fwd x.file _ b h5
  have e6:numD ⟨(natL x.line++r),false,b⟩=(x.line,⟨r,false,b⟩):=(natCod).fwd x.line _ b h6
  have hw:Inl.wr x++r=(natL x.sec++(natL x.from_++(natL x.to_++(strL x.name++(strL x.file++(natL x.line++r)))))):=by unfold Inl.wr;simp only[List.append_assoc]
  rw[hw]
  simp only[Inl.rd,e1,e2,e3,e4,e5,e6]
 back st k1 k2:=by
  obtain⟨a1,ha1⟩:∃a,numD st=a:=⟨_,rfl⟩
  obtain⟨a2,ha2⟩:∃a,numD a1.2=a:=⟨_,rfl⟩
  obtain⟨a3,ha3⟩:∃a,numD a2.2=a:=⟨_,rfl⟩
  obtain⟨a4,ha4⟩:∃a,textD a3.2=a:=⟨_,rfl⟩
  obtain⟨a5,ha5⟩:∃a,textD a4.2=a:=⟨_,rfl⟩
  obtain⟨a6,ha6⟩:∃a,numD a5.2=a:=⟨_,rfl⟩
  have hr:Inl.rd st=(⟨a1.1,a2.1,a3.1,a4.1,a5.1,a6.1⟩,a6.2):=by simp only[Inl.rd,ha1,ha2,ha3,ha4,ha5,ha6]
  rw[hr] at k1 k2⊢
  dsimp only at k1 k2⊢
  obtain⟨p6,q6,r6,s6⟩:=(natCod).back a5.2 (by rw[ha6];exact k1) (by rw[ha6];exact k2)
  rw[ha6] at p6 q6
  obtain⟨p5,q5,r5,s5⟩:=(strCod).back a4.2 (by rw[ha5];exact r6) (by rw[ha5];exact s6)
  rw[ha5] at p5 q5
  obtain⟨p4,q4,r4,s4⟩:=(strCod).back a3.2 (by rw[ha4];exact r5) (by rw[ha4];exact s5)
  rw[ha4] at p4 q4
  obtain⟨p3,q3,r3,s3⟩:=(natCod).back a2.2 (by rw[ha3];exact r4) (by rw[ha3];exact s4)
  rw[ha3] at p3 q3
  obtain⟨p2,q2,r2,s2⟩:=(natCod).back a1.2 (by rw[ha2];exact r3) (by rw[ha2];exact s3)
  rw[ha2] at p2 q2
  obtain⟨p1,q1,r1,s1⟩:=(natCod).back st (by rw[ha1];exact r2) (by rw[ha1];exact s2)
  rw[ha1] at p1 q1
  refine⟨?_,⟨q1,q2,q3,q4,q5,q6⟩,r1,s1⟩
  unfold Inl.wr
  rw[p1,p2,p3,p4,p5,p6]
  simp only[List.append_assoc]
def Vrr.wr (x:Vrr):List UInt8:=natL x.sec++(natL x.from_++(natL x.to_++(strL x.name++(natL x.where_++natL x.n))))
def Vrr.okc (x:Vrr):Prop:=natOk x.sec∧(natOk x.from_∧(natOk x.to_∧(strOk x.name∧(natOk x.where_∧natOk x.n))))
def Vrr.rd (st:Rs):Vrr × Rs:=
 let a1:=numD st
 let a2:=numD a1.2
 let a3:=numD a2.2
 let a4:=textD a3.2
 let a5:=numD a4.2
 let a6:=numD a5.2
 (⟨a1.1,a2.1,a3.1,a4.1,a5.1,a6.1⟩,a6.2)
theorem Vrr.cod:Cod Vrr.wr Vrr.okc Vrr.rd where
 pos x:=by unfold Vrr.wr;rw[List.length_append];have:=(natCod).pos x.sec;omega
 fwd x r b h:=by
  obtain⟨h1,h2,h3,h4,h5,h6⟩:=h
  have e1:numD ⟨(natL x.sec++(natL x.from_++(natL x.to_++(strL x.name++(natL x.where_++(natL x.n++r)))))),false,b⟩=(x.sec,⟨(natL x.from_++(natL x.to_++(strL x.name++(natL x.where_++(natL x.n++r))))),false,b⟩):=(natCod).fwd x.sec _ b h1
  have e2:numD ⟨(natL x.from_++(natL x.to_++(strL x.name++(natL x.where_++(natL x.n++r))))),false,b⟩=(x.from_,⟨(natL x.to_++(strL x.name++(natL x.where_++(natL x.n++r)))),false,b⟩):=(natCod).fwd x.from_ _ b h2
  have e3:numD ⟨(natL x.to_++(strL x.name++(natL x.where_++(natL x.n++r)))),false,b⟩=(x.to_,⟨(strL x.name++(natL x.where_++(natL x.n++r))),false,b⟩):=(natCod).fwd x.to_ _ b h3
  have e4:textD ⟨(strL x.name++(natL x.where_++(natL x.n++r))),false,b⟩=(x.name,⟨(natL x.where_++(natL x.n++r)),false,b⟩):=(strCod).fwd x.name _ b h4
  have e5:numD ⟨(natL x.where_++(natL x.n++r)),false,b⟩=(x.where_,⟨(natL x.n++r),false,b⟩):=(natCod).fwd x.where_ _ b h5
  have e6:numD ⟨(natL x.n++r),false,b⟩=(x.n,⟨r,false,b⟩):=(natCod).fwd x.n _ b h6
  have hw:Vrr.wr x++r=(natL x.sec++(natL x.from_++(natL x.to_++(strL x.name++(natL x.where_++(natL x.n++r)))))):=by unfold Vrr.wr;simp only[List.append_assoc]
  rw[hw]
  simp only[Vrr.rd,e1,e2,e3,e4,e5,e6]
 back st k1 k2:=by
  obtain⟨a1,ha1⟩:∃a,numD st=a:=⟨_,rfl⟩
  obtain⟨a2,ha2⟩:∃a,numD a1.2=a:=⟨_,rfl⟩
  obtain⟨a3,ha3⟩:∃a,numD a2.2=a:=⟨_,rfl⟩
  obtain⟨a4,ha4⟩:∃a,textD a3.2=a:=⟨_,rfl⟩
  obtain⟨a5,ha5⟩:∃a,numD a4.2=a:=⟨_,rfl⟩
  obtain⟨a6,ha6⟩:∃a,numD a5.2=a:=⟨_,rfl⟩
  have hr:Vrr.rd st=(⟨a1.1,a2.1,a3.1,a4.1,a5.1,a6.1⟩,a6.2):=by simp only[Vrr.rd,ha1,ha2,ha3,ha4,ha5,ha6]
  rw[hr] at k1 k2⊢
  dsimp only at k1 k2⊢
  obtain⟨p6,q6,r6,s6⟩:=(natCod).back a5.2 (by rw[ha6];exact k1) (by rw[ha6];exact k2)
  rw[ha6] at p6 q6
  obtain⟨p5,q5,r5,s5⟩:=(natCod).back a4.2 (by rw[ha5];exact r6) (by rw[ha5];exact s6)
  rw[ha5] at p5 q5
  obtain⟨p4,q4,r4,s4⟩:=(strCod).back a3.2 (by rw[ha4];exact r5) (by rw[ha4];exact s5)
  rw[ha4] at p4 q4
  obtain⟨p3,q3,r3,s3⟩:=(natCod).back a2.2 (by rw[ha3];exact r4) (by rw[ha3];exact s4)
  rw[ha3] at p3 q3
  obtain⟨p2,q2,r2,s2⟩:=(natCod).back a1.2 (by rw[ha2];exact r3) (by rw[ha2];exact s3)
  rw[ha2] at p2 q2
  obtain⟨p1,q1,r1,s1⟩:=(natCod).back st (by rw[ha1];exact r2) (by rw[ha1];exact s2)
  rw[ha1] at p1 q1
  refine⟨?_,⟨q1,q2,q3,q4,q5,q6⟩,r1,s1⟩
  unfold Vrr.wr
  rw[p1,p2,p3,p4,p5,p6]
  simp only[List.append_assoc]
def Dep.wr (x:Dep):List UInt8:=natL x.sec++(natL x.from_++(natL x.to_++natL x.bytes))
def Dep.okc (x:Dep):Prop:=natOk x.sec∧(natOk x.from_∧(natOk x.to_∧natOk x.bytes))
def Dep.rd (st:Rs):Dep × Rs:=
 let a1:=numD st
 let a2:=numD a1.2
 let a3:=numD a2.2
 let a4:=numD a3.2
 (⟨a1.1,a2.1,a3.1,a4.1⟩,a4.2)
theorem Dep.cod:Cod Dep.wr Dep.okc Dep.rd where
 pos x:=by unfold Dep.wr;rw[List.length_append];have:=(natCod).pos x.sec;omega
 fwd x r b h:=by
  obtain⟨h1,h2,h3,h4⟩:=h
  have e1:numD ⟨(natL x.sec++(natL x.from_++(natL x.to_++(natL x.bytes++r)))),false,b⟩=(x.sec,⟨(natL x.from_++(natL x.to_++(natL x.bytes++r))),false,b⟩):=(natCod).fwd x.sec _ b h1
  have e2:numD ⟨(natL x.from_++(natL x.to_++(natL x.bytes++r))),false,b⟩=(x.from_,⟨(natL x.to_++(natL x.bytes++r)),false,b⟩):=(natCod).fwd x.from_ _ b h2
  have e3:numD ⟨(natL x.to_++(natL x.bytes++r)),false,b⟩=(x.to_,⟨(natL x.bytes++r),false,b⟩):=(natCod).fwd x.to_ _ b h3
  have e4:numD ⟨(natL x.bytes++r),false,b⟩=(x.bytes,⟨r,false,b⟩):=(natCod).fwd x.bytes _ b h4
  have hw:Dep.wr x++r=(natL x.sec++(natL x.from_++(natL x.to_++(natL x.bytes++r)))):=by unfold Dep.wr;simp only[List.append_assoc]
  rw[hw]
  simp only[Dep.rd,e1,e2,e3,e4]
 back st k1 k2:=by
  obtain⟨a1,ha1⟩:∃a,numD st=a:=⟨_,rfl⟩
  obtain⟨a2,ha2⟩:∃a,numD a1.2=a:=⟨_,rfl⟩
  obtain⟨a3,ha3⟩:∃a,numD a2.2=a:=⟨_,rfl⟩
  obtain⟨a4,ha4⟩:∃a,numD a3.2=a:=⟨_,rfl⟩
  have hr:Dep.rd st=(⟨a1.1,a2.1,a3.1,a4.1⟩,a4.2):=by simp only[Dep.rd,ha1,ha2,ha3,ha4]
  rw[hr] at k1 k2⊢
  dsimp only at k1 k2⊢
  obtain⟨p4,q4,r4,s4⟩:=(natCod).back a3.2 (by rw[ha4];exact k1) (by rw[ha4];exact k2)
  rw[ha4] at p4 q4
  obtain⟨p3,q3,r3,s3⟩:=(natCod).back a2.2 (by rw[ha3];exact r4) (by rw[ha3];exact s4)
  rw[ha3] at p3 q3
  obtain⟨p2,q2,r2,s2⟩:=(natCod).back a1.2 (by rw[ha2];exact r3) (by rw[ha2];exact s3)
  rw[ha2] at p2 q2
  obtain⟨p1,q1,r1,s1⟩:=(natCod).back st (by rw[ha1];exact r2) (by rw[ha1];exact s2)
  rw[ha1] at p1 q1
  refine⟨?_,⟨q1,q2,q3,q4⟩,r1,s1⟩
  unfold Dep.wr
  rw[p1,p2,p3,p4]
  simp only[List.append_assoc]
def Pce.wr (x:Pce):List UInt8:=natL x.from_++(natL x.size++natL x.to_)
def Pce.okc (x:Pce):Prop:=natOk x.from_∧(natOk x.size∧natOk x.to_)
def Pce.rd (st:Rs):Pce × Rs:=
 let a1:=numD st
 let a2:=numD a1.2
 let a3:=numD a2.2
 (⟨a1.1,a2.1,a3.1⟩,a3.2)
theorem Pce.cod:Cod Pce.wr Pce.okc Pce.rd where
 pos x:=by unfold Pce.wr;rw[List.length_append];have:=(natCod).pos x.from_;omega
 fwd x r b h:=by
  obtain⟨h1,h2,h3⟩:=h
  have e1:numD ⟨(natL x.from_++(natL x.size++(natL x.to_++r))),false,b⟩=(x.from_,⟨(natL x.size++(natL x.to_++r)),false,b⟩):=(natCod).fwd x.from_ _ b h1
  have e2:numD ⟨(natL x.size++(natL x.to_++r)),false,b⟩=(x.size,⟨(natL x.to_++r),false,b⟩):=(natCod).fwd x.size _ b h2
  have e3:numD ⟨(natL x.to_++r),false,b⟩=(x.to_,⟨r,false,b⟩):=(natCod).fwd x.to_ _ b h3
  have hw:Pce.wr x++r=(natL x.from_++(natL x.size++(natL x.to_++r))):=by unfold Pce.wr;simp only[List.append_assoc]
  rw[hw]
  simp only[Pce.rd,e1,e2,e3]
 back st k1 k2:=by
  obtain⟨a1,ha1⟩:∃a,numD st=a:=⟨_,rfl⟩
  obtain⟨a2,ha2⟩:∃a,numD a1.2=a:=⟨_,rfl⟩
  obtain⟨a3,ha3⟩:∃a,numD a2.2=a:=⟨_,rfl⟩
  have hr:Pce.rd st=(⟨a1.1,a2.1,a3.1⟩,a3.2):=by simp only[Pce.rd,ha1,ha2,ha3]
  rw[hr] at k1 k2⊢
  dsimp only at k1 k2⊢
  obtain⟨p3,q3,r3,s3⟩:=(natCod).back a2.2 (by rw[ha3];exact k1) (by rw[ha3];exact k2)
  rw[ha3] at p3 q3
  obtain⟨p2,q2,r2,s2⟩:=(natCod).back a1.2 (by rw[ha2];exact r3) (by rw[ha2];exact s3)
  rw[ha2] at p2 q2
  obtain⟨p1,q1,r1,s1⟩:=(natCod).back st (by rw[ha1];exact r2) (by rw[ha1];exact s2)
  rw[ha1] at p1 q1
  refine⟨?_,⟨q1,q2,q3⟩,r1,s1⟩
  unfold Pce.wr
  rw[p1,p2,p3]
  simp only[List.append_assoc]
def Cnv.wr (x:Cnv):List UInt8:=natL x.sec++(strL x.from_++((listL Pce.wr) x.pieces++intL x.code))
def Cnv.okc (x:Cnv):Prop:=natOk x.sec∧(strOk x.from_∧((listOk Pce.okc) x.pieces∧I64 x.code))
def Cnv.rd (st:Rs):Cnv × Rs:=
 let a1:=numD st
 let a2:=textD a1.2
 let a3:=(listD Pce.rd) a2.2
 let a4:=intD a3.2
 (⟨a1.1,a2.1,a3.1,a4.1⟩,a4.2)
theorem Cnv.cod:Cod Cnv.wr Cnv.okc Cnv.rd where
 pos x:=by unfold Cnv.wr;rw[List.length_append];have:=(natCod).pos x.sec;omega
 fwd x r b h:=by
  obtain⟨h1,h2,h3,h4⟩:=h
  have e1:numD ⟨(natL x.sec++(strL x.from_++((listL Pce.wr) x.pieces++(intL x.code++r)))),false,b⟩=(x.sec,⟨(strL x.from_++((listL Pce.wr) x.pieces++(intL x.code++r))),false,b⟩):=(natCod).fwd x.sec _ b h1
  have e2:textD ⟨(strL x.from_++((listL Pce.wr) x.pieces++(intL x.code++r))),false,b⟩=(x.from_,⟨((listL Pce.wr) x.pieces++(intL x.code++r)),false,b⟩):=(strCod).fwd x.from_ _ b h2
  have e3:(listD Pce.rd) ⟨((listL Pce.wr) x.pieces++(intL x.code++r)),false,b⟩=(x.pieces,⟨(intL x.code++r),false,b⟩):=((listCod Pce.cod)).fwd x.pieces _ b h3
  have e4:intD ⟨(intL x.code++r),false,b⟩=(x.code,⟨r,false,b⟩):=(intCod).fwd x.code _ b h4
  have hw:Cnv.wr x++r=(natL x.sec++(strL x.from_++((listL Pce.wr) x.pieces++(intL x.code++r)))):=by unfold Cnv.wr;simp only[List.append_assoc]
  rw[hw]
  simp only[Cnv.rd,e1,e2,e3,e4]
 back st k1 k2:=by
  obtain⟨a1,ha1⟩:∃a,numD st=a:=⟨_,rfl⟩
  obtain⟨a2,ha2⟩:∃a,textD a1.2=a:=⟨_,rfl⟩
  obtain⟨a3,ha3⟩:∃a,(listD Pce.rd) a2.2=a:=⟨_,rfl⟩
  obtain⟨a4,ha4⟩:∃a,intD a3.2=a:=⟨_,rfl⟩
  have hr:Cnv.rd st=(⟨a1.1,a2.1,a3.1,a4.1⟩,a4.2):=by simp only[Cnv.rd,ha1,ha2,ha3,ha4]
  rw[hr] at k1 k2⊢
  dsimp only at k1 k2⊢
  obtain⟨p4,q4,r4,s4⟩:=(intCod).back a3.2 (by rw[ha4];exact k1) (by rw[ha4];exact k2)
  rw[ha4] at p4 q4
  obtain⟨p3,q3,r3,s3⟩:=((listCod Pce.cod)).back a2.2 (by rw[ha3];exact r4) (by rw[ha3];exact s4)
  rw[ha3] at p3 q3
  obtain⟨p2,q2,r2,s2⟩:=(strCod).back a1.2 (by rw[ha2];exact r3) (by rw[ha2];exact s3)
  rw[ha2] at p2 q2
  obtain⟨p1,q1,r1,s1⟩:=(natCod).back st (by rw[ha1];exact r2) (by rw[ha1];exact s2)
  rw[ha1] at p1 q1
  refine⟨?_,⟨q1,q2,q3,q4⟩,r1,s1⟩
  unfold Cnv.wr
  rw[p1,p2,p3,p4]
  simp only[List.append_assoc]
def Ob.wr (x:Ob):List UInt8:=strL x.name++((listL Sec.wr) x.secs++((listL Sym.wr) x.syms++((listL Rel.wr) x.rels++((listL Grp.wr) x.groups++((listL Ini.wr) x.inits++((listL Lne.wr) x.lines++((listL Inl.wr) x.inlines++((listL Vrr.wr) x.vars++((listL Dep.wr) x.depths++(listL Cnv.wr) x.converts)))))))))
def Ob.okc (x:Ob):Prop:=strOk x.name∧((listOk Sec.okc) x.secs∧((listOk Sym.okc) x.syms∧((listOk Rel.okc) x.rels∧((listOk Grp.okc) x.groups∧((listOk Ini.okc) x.inits∧((listOk Lne.okc) x.lines∧((listOk Inl.okc) x.inlines∧((listOk Vrr.okc) x.vars∧((listOk Dep.okc) x.depths∧(listOk Cnv.okc) x.converts)))))))))
def Ob.rd (st:Rs):Ob × Rs:=
 let a1:=textD st
 let a2:=(listD Sec.rd) a1.2
 let a3:=(listD Sym.rd) a2.2
 let a4:=(listD Rel.rd) a3.2
 let a5:=(listD Grp.rd) a4.2
 let a6:=(listD Ini.rd) a5.2
 let a7:=(listD Lne.rd) a6.2
 let a8:=(listD Inl.rd) a7.2
 let a9:=(listD Vrr.rd) a8.2
 let a10:=(listD Dep.rd) a9.2
 let a11:=(listD Cnv.rd) a10.2
 (⟨a1.1,a2.1,a3.1,a4.1,a5.1,a6.1,a7.1,a8.1,a9.1,a10.1,a11.1⟩,a11.2)
theorem Ob.cod:Cod Ob.wr Ob.okc Ob.rd where
 pos x:=by unfold Ob.wr;rw[List.length_append];have:=(strCod).pos x.name;omega
 fwd x r b h:=by
  obtain⟨h1,h2,h3,h4,h5,h6,h7,h8,h9,h10,h11⟩:=h
  have e1:textD ⟨(strL x.name++((listL Sec.wr) x.secs++((listL Sym.wr) x.syms++((listL Rel.wr) x.rels++((listL Grp.wr) x.groups++((listL Ini.wr) x.inits++((listL Lne.wr) x.lines++((listL Inl.wr) x.inlines++((listL Vrr.wr) x.vars++((listL Dep.wr) x.depths++((listL Cnv.wr) x.converts++r))))))))))),false,b⟩=(x.name,⟨((listL Sec.wr) x.secs++((listL Sym.wr) x.syms++((listL Rel.wr) x.rels++((listL Grp.wr) x.groups++((listL Ini.wr) x.inits++((listL Lne.wr) x.lines++((listL Inl.wr) x.inlines++((listL Vrr.wr) x.vars++((listL Dep.wr) x.depths++((listL Cnv.wr) x.converts++r)))))))))),false,b⟩):=(strCod).fwd x.name _ b h1
  have e2:(listD Sec.rd) ⟨((listL Sec.wr) x.secs++((listL Sym.wr) x.syms++((listL Rel.wr) x.rels++((listL Grp.wr) x.groups++((listL Ini.wr) x.inits++((listL Lne.wr) x.lines++((listL Inl.wr) x.inlines++((listL Vrr.wr) x.vars++((listL Dep.wr) x.depths++((listL Cnv.wr) x.converts++r)))))))))),false,b⟩=(x.secs,⟨((listL Sym.wr) x.syms++((listL Rel.wr) x.rels++((listL Grp.wr) x.groups++((listL Ini.wr) x.inits++((listL Lne.wr) x.lines++((listL Inl.wr) x.inlines++((listL Vrr.wr) x.vars++((listL Dep.wr) x.depths++((listL Cnv.wr) x.converts++r))))))))),false,b⟩):=((listCod Sec.cod)).fwd x.secs _ b h2
  have e3:(listD Sym.rd) ⟨((listL Sym.wr) x.syms++((listL Rel.wr) x.rels++((listL Grp.wr) x.groups++((listL Ini.wr) x.inits++((listL Lne.wr) x.lines++((listL Inl.wr) x.inlines++((listL Vrr.wr) x.vars++((listL Dep.wr) x.depths++((listL Cnv.wr) x.converts++r))))))))),false,b⟩=(x.syms,⟨((listL Rel.wr) x.rels++((listL Grp.wr) x.groups++((listL Ini.wr) x.inits++((listL Lne.wr) x.lines++((listL Inl.wr) x.inlines++((listL Vrr.wr) x.vars++((listL Dep.wr) x.depths++((listL Cnv.wr) x.converts++r)))))))),false,b⟩):=((listCod Sym.cod)).fwd x.syms _ b h3
  have e4:(listD Rel.rd) ⟨((listL Rel.wr) x.rels++((listL Grp.wr) x.groups++((listL Ini.wr) x.inits++((listL Lne.wr) x.lines++((listL Inl.wr) x.inlines++((listL Vrr.wr) x.vars++((listL Dep.wr) x.depths++((listL Cnv.wr) x.converts++r)))))))),false,b⟩=(x.rels,⟨((listL Grp.wr) x.groups++((listL Ini.wr) x.inits++((listL Lne.wr) x.lines++((listL Inl.wr) x.inlines++((listL Vrr.wr) x.vars++((listL Dep.wr) x.depths++((listL Cnv.wr) x.converts++r))))))),false,b⟩):=((listCod Rel.cod)).fwd x.rels _ b h4
  have e5:(listD Grp.rd) ⟨((listL Grp.wr) x.groups++((listL Ini.wr) x.inits++((listL Lne.wr) x.lines++((listL Inl.wr) x.inlines++((listL Vrr.wr) x.vars++((listL Dep.wr) x.depths++((listL Cnv.wr) x.converts++r))))))),false,b⟩=(x.groups,⟨((listL Ini.wr) x.inits++((listL Lne.wr) x.lines++((listL Inl.wr) x.inlines++((listL Vrr.wr) x.vars++((listL Dep.wr) x.depths++((listL Cnv.wr) x.converts++r)))))),false,b⟩):=((listCod Grp.cod)).fwd x.groups _ b h5
  have e6:(listD Ini.rd) ⟨((listL Ini.wr) x.inits++((listL Lne.wr) x.lines++((listL Inl.wr) x.inlines++((listL Vrr.wr) x.vars++((listL Dep.wr) x.depths++((listL Cnv.wr) x.converts++r)))))),false,b⟩=(x.inits,⟨((listL Lne.wr) x.lines++((listL Inl.wr) x.inlines++((listL Vrr.wr) x.vars++((listL Dep.wr) x.depths++((listL Cnv.wr) x.converts++r))))),false,b⟩):=((listCod Ini.cod)).fwd x.inits _ b h6
  have e7:(listD Lne.rd) ⟨((listL Lne.wr) x.lines++((listL Inl.wr) x.inlines++((listL Vrr.wr) x.vars++((listL Dep.wr) x.depths++((listL Cnv.wr) x.converts++r))))),false,b⟩=(x.lines,⟨((listL Inl.wr) x.inlines++((listL Vrr.wr) x.vars++((listL Dep.wr) x.depths++((listL Cnv.wr) x.converts++r)))),false,b⟩):=((listCod Lne.cod)).fwd x.lines _ b h7
  have e8:(listD Inl.rd) ⟨((listL Inl.wr) x.inlines++((listL Vrr.wr) x.vars++((listL Dep.wr) x.depths++((listL Cnv.wr) x.converts++r)))),false,b⟩=(x.inlines,⟨((listL Vrr.wr) x.vars++((listL Dep.wr) x.depths++((listL Cnv.wr) x.converts++r))),false,b⟩):=((listCod Inl.cod)).fwd x.inlines _ b h8
  have e9:(listD Vrr.rd) ⟨((listL Vrr.wr) x.vars++((listL Dep.wr) x.depths++((listL Cnv.wr) x.converts++r))),false,b⟩=(x.vars,⟨((listL Dep.wr) x.depths++((listL Cnv.wr) x.converts++r)),false,b⟩):=((listCod Vrr.cod)).fwd x.vars _ b h9
  have e10:(listD Dep.rd) ⟨((listL Dep.wr) x.depths++((listL Cnv.wr) x.converts++r)),false,b⟩=(x.depths,⟨((listL Cnv.wr) x.converts++r),false,b⟩):=((listCod Dep.cod)).fwd x.depths _ b h10
  have e11:(listD Cnv.rd) ⟨((listL Cnv.wr) x.converts++r),false,b⟩=(x.converts,⟨r,false,b⟩):=((listCod Cnv.cod)).fwd x.converts _ b h11
  have hw:Ob.wr x++r=(strL x.name++((listL Sec.wr) x.secs++((listL Sym.wr) x.syms++((listL Rel.wr) x.rels++((listL Grp.wr) x.groups++((listL Ini.wr) x.inits++((listL Lne.wr) x.lines++((listL Inl.wr) x.inlines++((listL Vrr.wr) x.vars++((listL Dep.wr) x.depths++((listL Cnv.wr) x.converts++r))))))))))):=by unfold Ob.wr;simp only[List.append_assoc]
  rw[hw]
  simp only[Ob.rd,e1,e2,e3,e4,e5,e6,e7,e8,e9,e10,e11]
 back st k1 k2:=by
  obtain⟨a1,ha1⟩:∃a,textD st=a:=⟨_,rfl⟩
  obtain⟨a2,ha2⟩:∃a,(listD Sec.rd) a1.2=a:=⟨_,rfl⟩
  obtain⟨a3,ha3⟩:∃a,(listD Sym.rd) a2.2=a:=⟨_,rfl⟩
  obtain⟨a4,ha4⟩:∃a,(listD Rel.rd) a3.2=a:=⟨_,rfl⟩
  obtain⟨a5,ha5⟩:∃a,(listD Grp.rd) a4.2=a:=⟨_,rfl⟩
  obtain⟨a6,ha6⟩:∃a,(listD Ini.rd) a5.2=a:=⟨_,rfl⟩
  obtain⟨a7,ha7⟩:∃a,(listD Lne.rd) a6.2=a:=⟨_,rfl⟩
  obtain⟨a8,ha8⟩:∃a,(listD Inl.rd) a7.2=a:=⟨_,rfl⟩
  obtain⟨a9,ha9⟩:∃a,(listD Vrr.rd) a8.2=a:=⟨_,rfl⟩
  obtain⟨a10,ha10⟩:∃a,(listD Dep.rd) a9.2=a:=⟨_,rfl⟩
  obtain⟨a11,ha11⟩:∃a,(listD Cnv.rd) a10.2=a:=⟨_,rfl⟩
  have hr:Ob.rd st=(⟨a1.1,a2.1,a3.1,a4.1,a5.1,a6.1,a7.1,a8.1,a9.1,a10.1,a11.1⟩,a11.2):=by simp only[Ob.rd,ha1,ha2,ha3,ha4,ha5,ha6,ha7,ha8,ha9,ha10,ha11]
  rw[hr] at k1 k2⊢
  dsimp only at k1 k2⊢
  obtain⟨p11,q11,r11,s11⟩:=((listCod Cnv.cod)).back a10.2 (by rw[ha11];exact k1) (by rw[ha11];exact k2)
  rw[ha11] at p11 q11
  obtain⟨p10,q10,r10,s10⟩:=((listCod Dep.cod)).back a9.2 (by rw[ha10];exact r11) (by rw[ha10];exact s11)
  rw[ha10] at p10 q10
  obtain⟨p9,q9,r9,s9⟩:=((listCod Vrr.cod)).back a8.2 (by rw[ha9];exact r10) (by rw[ha9];exact s10)
  rw[ha9] at p9 q9
  obtain⟨p8,q8,r8,s8⟩:=((listCod Inl.cod)).back a7.2 (by rw[ha8];exact r9) (by rw[ha8];exact s9)
  rw[ha8] at p8 q8
  obtain⟨p7,q7,r7,s7⟩:=((listCod Lne.cod)).back a6.2 (by rw[ha7];exact r8) (by rw[ha7];exact s8)
  rw[ha7] at p7 q7
  obtain⟨p6,q6,r6,s6⟩:=((listCod Ini.cod)).back a5.2 (by rw[ha6];exact r7) (by rw[ha6];exact s7)
  rw[ha6] at p6 q6
  obtain⟨p5,q5,r5,s5⟩:=((listCod Grp.cod)).back a4.2 (by rw[ha5];exact r6) (by rw[ha5];exact s6)
  rw[ha5] at p5 q5
  obtain⟨p4,q4,r4,s4⟩:=((listCod Rel.cod)).back a3.2 (by rw[ha4];exact r5) (by rw[ha4];exact s5)
  rw[ha4] at p4 q4
  obtain⟨p3,q3,r3,s3⟩:=((listCod Sym.cod)).back a2.2 (by rw[ha3];exact r4) (by rw[ha3];exact s4)
  rw[ha3] at p3 q3
  obtain⟨p2,q2,r2,s2⟩:=((listCod Sec.cod)).back a1.2 (by rw[ha2];exact r3) (by rw[ha2];exact s3)
  rw[ha2] at p2 q2
  obtain⟨p1,q1,r1,s1⟩:=(strCod).back st (by rw[ha1];exact r2) (by rw[ha1];exact s2)
  rw[ha1] at p1 q1
  refine⟨?_,⟨q1,q2,q3,q4,q5,q6,q7,q8,q9,q10,q11⟩,r1,s1⟩
  unfold Ob.wr
  rw[p1,p2,p3,p4,p5,p6,p7,p8,p9,p10,p11]
  simp only[List.append_assoc]
def bytesO (o:Ob):List UInt8:=if rightO o then Ob.wr o else []
def okR (p:Ob × Rs):Bool:= !p.2.bad2&& !p.2.bad&&decide (p.2.rest=[])&&rightO p.1
def readL (s:List UInt8):Option Ob:=if okR (Ob.rd ⟨s,false,false⟩) then some (Ob.rd ⟨s,false,false⟩).1 else none
theorem read_wr (o:Ob) (h:rightO o=true) (ho:o.okc):readL (Ob.wr o)=some o:=by
 have:=Ob.cod.fwd o [] false ho
 rw[List.append_nil] at this
 unfold readL okR
 rw[this]
 simp[h]
theorem read_is {s:List UInt8} {o:Ob} (h:readL s=some o):rightO o=true∧s=Ob.wr o:=by
 unfold readL at h
 split at h
 ·rename_i hk
  cases h
  unfold okR at hk
  simp only[Bool.and_eq_true,Bool.not_eq_true',decide_eq_true_eq] at hk
  obtain⟨⟨⟨h1,h2⟩,h3⟩,h4⟩:=hk
  refine⟨h4,?_⟩
  have:=(Ob.cod.back _ h2 h1).1
  rw[h3,List.append_nil] at this
  exact this
 ·cases h
theorem read_none:readL []=none:=by
 unfold readL
 rw[if_neg]
 intro h
 unfold okR at h
 simp only[Bool.and_eq_true,Bool.not_eq_true',decide_eq_true_eq] at h
 obtain⟨⟨⟨h1,h2⟩,h3⟩,h4⟩:=h
 have:=(Ob.cod.back _ h2 h1).1
 have hp:=Ob.cod.pos (Ob.rd ⟨[],false,false⟩).1
 rw[h3,List.append_nil] at this
 rw[←this] at hp
 simp at hp
end Go.Proofs.YtfaepbjnpakghaaGreatDoor.W
