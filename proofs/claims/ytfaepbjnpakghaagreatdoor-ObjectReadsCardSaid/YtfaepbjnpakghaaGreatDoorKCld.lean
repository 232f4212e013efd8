import Derived.Test.YtfaepbjnpakghaaGreatDoorKad
import Derived.Test.YtfaepbjnpakghaaGreatDoorKag
/- The walk of the closure secs$1 (printed by tools/gen_cls.py). -/
namespace Go.Proofs.YtfaepbjnpakghaaGreatDoor.W
open Go.RowKit
set_option linter.unusedVariables false
theorem osec1_k2 (w:World) (x:Sec) (hx:x.Ok) (e0:(x.kind==0)=false) (e2:(x.kind==2)=true) (e4:(x.kind==4)=false) (n0:(x.kind !=0)=true):
 Calls Tryz.prog 142 #[.agg #[.string x.name, .int .i64 x.kind, .int .i64 x.align, .int .i64 x.size, .string x.bytes, .bool x.keep]] w fun e w'=>e= .returned (.bool (secB x))∧Below w.heap.size w w':=by
 have hS:secB x=(nameB x.name&&inB x.kind 5&&powB x.align&&inB x.size 1048577&&((x.bytes.size:Int)==0)&&true):=by
  have e0:=ne_of_beq_false e0
  have e2:=eq_of_beq e2
  have e4:=ne_of_beq_false e4
  have hB:secBytes x=0:=by
   unfold secBytes;simp[e2]
  have hC:secCode x=true:=by
   unfold secCode;simp[e0]
  unfold secB;rw[hB,hC];rfl
 have hc0:=(fun w=>oname_any x.name w hx.name)
 have hc1:=(fun w=>owithinB x.kind 5 w)
 have hc2:=(fun w=>power_any x.align w)
 have hc3:=(fun w=>owithinB x.size 1048577 w)
 obtain⟨q0,h0⟩:∃q,(nameB x.name)=q:=⟨_,rfl⟩
 rw[h0] at hc0 hS
 have HC0:=Hd.mk hc0
 have HQ0:=Hd.mk h0
 clear hc0 h0
 obtain⟨q1,h1⟩:∃q,(inB x.kind 5)=q:=⟨_,rfl⟩
 rw[h1] at hc1 hS
 have HC1:=Hd.mk hc1
 have HQ1:=Hd.mk h1
 clear hc1 h1
 obtain⟨q2,h2⟩:∃q,(powB x.align)=q:=⟨_,rfl⟩
 rw[h2] at hc2 hS
 have HC2:=Hd.mk hc2
 have HQ2:=Hd.mk h2
 clear hc2 h2
 obtain⟨q3,h3⟩:∃q,(inB x.size 1048577)=q:=⟨_,rfl⟩
 rw[h3] at hc3 hS
 have HC3:=Hd.mk hc3
 have HQ3:=Hd.mk h3
 clear hc3 h3
 obtain⟨q4,h4⟩:∃q,(((x.bytes.size:Int)==0))=q:=⟨_,rfl⟩
 rw[h4] at hS
 have HS:=Hd.mk hS
 clear hS
 go_enter Tryz.func142,Tryz.ntmps142
 go_wp2_with fail
 refine(HC0.out _).mono ?_
 rintro e w' ⟨rfl,rfl⟩
 rcases q0 with _ | _
 ·go_wp2
  go_ret
  exact⟨ret_b (by rw[HS.out]<;>simp),by go_grown⟩
 go_wp2_with fail
 refine(HC1.out _).mono ?_
 rintro e w' ⟨rfl,rfl⟩
 rcases q1 with _ | _
 ·go_wp2
  go_ret
  exact⟨ret_b (by rw[HS.out]<;>simp),by go_grown⟩
 go_wp2_with fail
 refine(HC2.out _).mono ?_
 rintro e w' ⟨rfl,rfl⟩
 rcases q2 with _ | _
 ·go_wp2
  go_ret
  exact⟨ret_b (by rw[HS.out]<;>simp),by go_grown⟩
 go_wp2_with fail
 refine(HC3.out _).mono ?_
 rintro e w' ⟨rfl,rfl⟩
 rcases q3 with _ | _
 ·go_wp2
  go_ret
  exact⟨ret_b (by rw[HS.out]<;>simp),by go_grown⟩
 rcases q4 with _ | _
 ·go_wp2
  go_ret
  exact⟨ret_b (by rw[HS.out]<;>simp),by go_grown⟩
 go_wp2
 go_ret
 exact⟨ret_b (by rw[HS.out]<;>simp),by go_grown⟩
theorem osec1_k4 (w:World) (x:Sec) (hx:x.Ok) (e0:(x.kind==0)=false) (e2:(x.kind==2)=false) (e4:(x.kind==4)=true) (n0:(x.kind !=0)=true):
 Calls Tryz.prog 142 #[.agg #[.string x.name, .int .i64 x.kind, .int .i64 x.align, .int .i64 x.size, .string x.bytes, .bool x.keep]] w fun e w'=>e= .returned (.bool (secB x))∧Below w.heap.size w w':=by
 have hS:secB x=(nameB x.name&&inB x.kind 5&&powB x.align&&inB x.size 1048577&&((x.bytes.size:Int)==0)&&true):=by
  have e0:=ne_of_beq_false e0
  have e2:=ne_of_beq_false e2
  have e4:=eq_of_beq e4
  have hB:secBytes x=0:=by
   unfold secBytes;simp[e4]
  have hC:secCode x=true:=by
   unfold secCode;simp[e0]
  unfold secB;rw[hB,hC];rfl
 have hc0:=(fun w=>oname_any x.name w hx.name)
 have hc1:=(fun w=>owithinB x.kind 5 w)
 have hc2:=(fun w=>power_any x.align w)
 have hc3:=(fun w=>owithinB x.size 1048577 w)
 obtain⟨q0,h0⟩:∃q,(nameB x.name)=q:=⟨_,rfl⟩
 rw[h0] at hc0 hS
 have HC0:=Hd.mk hc0
 have HQ0:=Hd.mk h0
 clear hc0 h0
 obtain⟨q1,h1⟩:∃q,(inB x.kind 5)=q:=⟨_,rfl⟩
 rw[h1] at hc1 hS
 have HC1:=Hd.mk hc1
 have HQ1:=Hd.mk h1
 clear hc1 h1
 obtain⟨q2,h2⟩:∃q,(powB x.align)=q:=⟨_,rfl⟩
 rw[h2] at hc2 hS
 have HC2:=Hd.mk hc2
 have HQ2:=Hd.mk h2
 clear hc2 h2
 obtain⟨q3,h3⟩:∃q,(inB x.size 1048577)=q:=⟨_,rfl⟩
 rw[h3] at hc3 hS
 have HC3:=Hd.mk hc3
 have HQ3:=Hd.mk h3
 clear hc3 h3
 obtain⟨q4,h4⟩:∃q,(((x.bytes.size:Int)==0))=q:=⟨_,rfl⟩
 rw[h4] at hS
 have HS:=Hd.mk hS
 clear hS
 go_enter Tryz.func142,Tryz.ntmps142
 go_wp2_with fail
 refine(HC0.out _).mono ?_
 rintro e w' ⟨rfl,rfl⟩
 rcases q0 with _ | _
 ·go_wp2
  go_ret
  exact⟨ret_b (by rw[HS.out]<;>simp),by go_grown⟩
 go_wp2_with fail
 refine(HC1.out _).mono ?_
 rintro e w' ⟨rfl,rfl⟩
 rcases q1 with _ | _
 ·go_wp2
  go_ret
  exact⟨ret_b (by rw[HS.out]<;>simp),by go_grown⟩
 go_wp2_with fail
 refine(HC2.out _).mono ?_
 rintro e w' ⟨rfl,rfl⟩
 rcases q2 with _ | _
 ·go_wp2
  go_ret
  exact⟨ret_b (by rw[HS.out]<;>simp),by go_grown⟩
 go_wp2_with fail
 refine(HC3.out _).mono ?_
 rintro e w' ⟨rfl,rfl⟩
 rcases q3 with _ | _
 ·go_wp2
  go_ret
  exact⟨ret_b (by rw[HS.out]<;>simp),by go_grown⟩
 rcases q4 with _ | _
 ·go_wp2
  go_ret
  exact⟨ret_b (by rw[HS.out]<;>simp),by go_grown⟩
 go_wp2
 go_ret
 exact⟨ret_b (by rw[HS.out]<;>simp),by go_grown⟩
theorem osec1_ko (w:World) (x:Sec) (hx:x.Ok) (e0:(x.kind==0)=false) (e2:(x.kind==2)=false) (e4:(x.kind==4)=false) (n0:(x.kind !=0)=true):
 Calls Tryz.prog 142 #[.agg #[.string x.name, .int .i64 x.kind, .int .i64 x.align, .int .i64 x.size, .string x.bytes, .bool x.keep]] w fun e w'=>e= .returned (.bool (secB x))∧Below w.heap.size w w':=by
 have hS:secB x=(nameB x.name&&inB x.kind 5&&powB x.align&&inB x.size 1048577&&((x.bytes.size:Int)==x.size)&&true):=by
  have e0:=ne_of_beq_false e0
  have e2:=ne_of_beq_false e2
  have e4:=ne_of_beq_false e4
  have hB:secBytes x=x.size:=by
   unfold secBytes;simp[e2,e4]
  have hC:secCode x=true:=by
   unfold secCode;simp[e0]
  unfold secB;rw[hB,hC];rfl
 have hc0:=(fun w=>oname_any x.name w hx.name)
 have hc1:=(fun w=>owithinB x.kind 5 w)
 have hc2:=(fun w=>power_any x.align w)
 have hc3:=(fun w=>owithinB x.size 1048577 w)
 obtain⟨q0,h0⟩:∃q,(nameB x.name)=q:=⟨_,rfl⟩
 rw[h0] at hc0 hS
 have HC0:=Hd.mk hc0
 have HQ0:=Hd.mk h0
 clear hc0 h0
 obtain⟨q1,h1⟩:∃q,(inB x.kind 5)=q:=⟨_,rfl⟩
 rw[h1] at hc1 hS
 have HC1:=Hd.mk hc1
 have HQ1:=Hd.mk h1
 clear hc1 h1
 obtain⟨q2,h2⟩:∃q,(powB x.align)=q:=⟨_,rfl⟩
 rw[h2] at hc2 hS
 have HC2:=Hd.mk hc2
 have HQ2:=Hd.mk h2
 clear hc2 h2
 obtain⟨q3,h3⟩:∃q,(inB x.size 1048577)=q:=⟨_,rfl⟩
 rw[h3] at hc3 hS
 have HC3:=Hd.mk hc3
 have HQ3:=Hd.mk h3
 clear hc3 h3
 obtain⟨q4,h4⟩:∃q,(((x.bytes.size:Int)==x.size))=q:=⟨_,rfl⟩
 rw[h4] at hS
 have HS:=Hd.mk hS
 clear hS
 go_enter Tryz.func142,Tryz.ntmps142
 go_wp2_with fail
 refine(HC0.out _).mono ?_
 rintro e w' ⟨rfl,rfl⟩
 rcases q0 with _ | _
 ·go_wp2
  go_ret
  exact⟨ret_b (by rw[HS.out]<;>simp),by go_grown⟩
 go_wp2_with fail
 refine(HC1.out _).mono ?_
 rintro e w' ⟨rfl,rfl⟩
 rcases q1 with _ | _
 ·go_wp2
  go_ret
  exact⟨ret_b (by rw[HS.out]<;>simp),by go_grown⟩
 go_wp2_with fail
 refine(HC2.out _).mono ?_
 rintro e w' ⟨rfl,rfl⟩
 rcases q2 with _ | _
 ·go_wp2
  go_ret
  exact⟨ret_b (by rw[HS.out]<;>simp),by go_grown⟩
 go_wp2_with fail
 refine(HC3.out _).mono ?_
 rintro e w' ⟨rfl,rfl⟩
 rcases q3 with _ | _
 ·go_wp2
  go_ret
  exact⟨ret_b (by rw[HS.out]<;>simp),by go_grown⟩
 rcases q4 with _ | _
 ·go_wp2
  go_ret
  exact⟨ret_b (by rw[HS.out]<;>simp),by go_grown⟩
 go_wp2
 go_ret
 exact⟨ret_b (by rw[HS.out]<;>simp),by go_grown⟩
theorem osec1_k0a (w:World) (x:Sec) (hx:x.Ok) (e0:(x.kind==0)=true) (e2:(x.kind==2)=false) (e4:(x.kind==4)=false) (n0:(x.kind !=0)=false) (a8:decide ((8:Int)≤x.align)=false):
 Calls Tryz.prog 142 #[.agg #[.string x.name, .int .i64 x.kind, .int .i64 x.align, .int .i64 x.size, .string x.bytes, .bool x.keep]] w fun e w'=>e= .returned (.bool (secB x))∧Below w.heap.size w w':=by
 have hS:secB x=(nameB x.name&&inB x.kind 5&&powB x.align&&inB x.size 1048577&&((x.bytes.size:Int)==x.size)&&false):=by
  have e0:=eq_of_beq e0
  have e2:=ne_of_beq_false e2
  have e4:=ne_of_beq_false e4
  have hB:secBytes x=x.size:=by
   unfold secBytes;simp[e2,e4]
  have hC:secCode x=false:=by
   unfold secCode;simp[e0,of_decide_eq_false a8]
  unfold secB;rw[hB,hC];rfl
 have hc0:=(fun w=>oname_any x.name w hx.name)
 have hc1:=(fun w=>owithinB x.kind 5 w)
 have hc2:=(fun w=>power_any x.align w)
 have hc3:=(fun w=>owithinB x.size 1048577 w)
 obtain⟨q0,h0⟩:∃q,(nameB x.name)=q:=⟨_,rfl⟩
 rw[h0] at hc0 hS
 have HC0:=Hd.mk hc0
 have HQ0:=Hd.mk h0
 clear hc0 h0
 obtain⟨q1,h1⟩:∃q,(inB x.kind 5)=q:=⟨_,rfl⟩
 rw[h1] at hc1 hS
 have HC1:=Hd.mk hc1
 have HQ1:=Hd.mk h1
 clear hc1 h1
 obtain⟨q2,h2⟩:∃q,(powB x.align)=q:=⟨_,rfl⟩
 rw[h2] at hc2 hS
 have HC2:=Hd.mk hc2
 have HQ2:=Hd.mk h2
 clear hc2 h2
 obtain⟨q3,h3⟩:∃q,(inB x.size 1048577)=q:=⟨_,rfl⟩
 rw[h3] at hc3 hS
 have HC3:=Hd.mk hc3
 have HQ3:=Hd.mk h3
 clear hc3 h3
 obtain⟨q4,h4⟩:∃q,(((x.bytes.size:Int)==x.size))=q:=⟨_,rfl⟩
 rw[h4] at hS
 have HS:=Hd.mk hS
 clear hS
 go_enter Tryz.func142,Tryz.ntmps142
 go_wp2_with fail
 refine(HC0.out _).mono ?_
 rintro e w' ⟨rfl,rfl⟩
 rcases q0 with _ | _
 ·go_wp2
  go_ret
  exact⟨ret_b (by rw[HS.out]<;>simp),by go_grown⟩
 go_wp2_with fail
 refine(HC1.out _).mono ?_
 rintro e w' ⟨rfl,rfl⟩
 rcases q1 with _ | _
 ·go_wp2
  go_ret
  exact⟨ret_b (by rw[HS.out]<;>simp),by go_grown⟩
 go_wp2_with fail
 refine(HC2.out _).mono ?_
 rintro e w' ⟨rfl,rfl⟩
 rcases q2 with _ | _
 ·go_wp2
  go_ret
  exact⟨ret_b (by rw[HS.out]<;>simp),by go_grown⟩
 go_wp2_with fail
 refine(HC3.out _).mono ?_
 rintro e w' ⟨rfl,rfl⟩
 rcases q3 with _ | _
 ·go_wp2
  go_ret
  exact⟨ret_b (by rw[HS.out]<;>simp),by go_grown⟩
 rcases q4 with _ | _
 ·go_wp2
  go_ret
  exact⟨ret_b (by rw[HS.out]<;>simp),by go_grown⟩
 go_wp2
 go_ret
 exact⟨ret_b (by rw[HS.out]<;>simp),by go_grown⟩
theorem osec1_k0b (w:World) (x:Sec) (hx:x.Ok) (e0:(x.kind==0)=true) (e2:(x.kind==2)=false) (e4:(x.kind==4)=false) (n0:(x.kind !=0)=false) (a8:decide ((8:Int)≤x.align)=true) (s8:(x.size.tmod 8==0)=false):
 Calls Tryz.prog 142 #[.agg #[.string x.name, .int .i64 x.kind, .int .i64 x.align, .int .i64 x.size, .string x.bytes, .bool x.keep]] w fun e w'=>e= .returned (.bool (secB x))∧Below w.heap.size w w':=by
 have hS:secB x=(nameB x.name&&inB x.kind 5&&powB x.align&&inB x.size 1048577&&((x.bytes.size:Int)==x.size)&&false):=by
  have e0:=eq_of_beq e0
  have e2:=ne_of_beq_false e2
  have e4:=ne_of_beq_false e4
  have hB:secBytes x=x.size:=by
   unfold secBytes;simp[e2,e4]
  have hC:secCode x=false:=by
   unfold secCode;simp[e0,mod8,s8]
  unfold secB;rw[hB,hC];rfl
 have hc0:=(fun w=>oname_any x.name w hx.name)
 have hc1:=(fun w=>owithinB x.kind 5 w)
 have hc2:=(fun w=>power_any x.align w)
 have hc3:=(fun w=>owithinB x.size 1048577 w)
 obtain⟨q0,h0⟩:∃q,(nameB x.name)=q:=⟨_,rfl⟩
 rw[h0] at hc0 hS
 have HC0:=Hd.mk hc0
 have HQ0:=Hd.mk h0
 clear hc0 h0
 obtain⟨q1,h1⟩:∃q,(inB x.kind 5)=q:=⟨_,rfl⟩
 rw[h1] at hc1 hS
 have HC1:=Hd.mk hc1
 have HQ1:=Hd.mk h1
 clear hc1 h1
 obtain⟨q2,h2⟩:∃q,(powB x.align)=q:=⟨_,rfl⟩
 rw[h2] at hc2 hS
 have HC2:=Hd.mk hc2
 have HQ2:=Hd.mk h2
 clear hc2 h2
 obtain⟨q3,h3⟩:∃q,(inB x.size 1048577)=q:=⟨_,rfl⟩
 rw[h3] at hc3 hS
 have HC3:=Hd.mk hc3
 have HQ3:=Hd.mk h3
 clear hc3 h3
 obtain⟨q4,h4⟩:∃q,(((x.bytes.size:Int)==x.size))=q:=⟨_,rfl⟩
 rw[h4] at hS
 have HS:=Hd.mk hS
 clear hS
 go_enter Tryz.func142,Tryz.ntmps142
 go_wp2_with fail
 refine(HC0.out _).mono ?_
 rintro e w' ⟨rfl,rfl⟩
 rcases q0 with _ | _
 ·go_wp2
  go_ret
  exact⟨ret_b (by rw[HS.out]<;>simp),by go_grown⟩
 go_wp2_with fail
 refine(HC1.out _).mono ?_
 rintro e w' ⟨rfl,rfl⟩
 rcases q1 with _ | _
 ·go_wp2
  go_ret
  exact⟨ret_b (by rw[HS.out]<;>simp),by go_grown⟩
 go_wp2_with fail
 refine(HC2.out _).mono ?_
 rintro e w' ⟨rfl,rfl⟩
 rcases q2 with _ | _
 ·go_wp2
  go_ret
  exact⟨ret_b (by rw[HS.out]<;>simp),by go_grown⟩
 go_wp2_with fail
 refine(HC3.out _).mono ?_
 rintro e w' ⟨rfl,rfl⟩
 rcases q3 with _ | _
 ·go_wp2
  go_ret
  exact⟨ret_b (by rw[HS.out]<;>simp),by go_grown⟩
 rcases q4 with _ | _
 ·go_wp2
  go_ret
  exact⟨ret_b (by rw[HS.out]<;>simp),by go_grown⟩
 go_wp2
 go_ret
 exact⟨ret_b (by rw[HS.out]<;>simp),by go_grown⟩
theorem osec1_k0c (w:World) (x:Sec) (hx:x.Ok) (e0:(x.kind==0)=true) (e2:(x.kind==2)=false) (e4:(x.kind==4)=false) (n0:(x.kind !=0)=false) (a8:decide ((8:Int)≤x.align)=true) (s8:(x.size.tmod 8==0)=true):
 Calls Tryz.prog 142 #[.agg #[.string x.name, .int .i64 x.kind, .int .i64 x.align, .int .i64 x.size, .string x.bytes, .bool x.keep]] w fun e w'=>e= .returned (.bool (secB x))∧Below w.heap.size w w':=by
 have hS:secB x=(nameB x.name&&inB x.kind 5&&powB x.align&&inB x.size 1048577&&((x.bytes.size:Int)==x.size)&&true):=by
  have e0:=eq_of_beq e0
  have e2:=ne_of_beq_false e2
  have e4:=ne_of_beq_false e4
  have hB:secBytes x=x.size:=by
   unfold secBytes;simp[e2,e4]
  have hC:secCode x=true:=by
   unfold secCode;simp[e0,mod8,s8,of_decide_eq_true a8]
  unfold secB;rw[hB,hC];rfl
 have hc0:=(fun w=>oname_any x.name w hx.name)
 have hc1:=(fun w=>owithinB x.kind 5 w)
 have hc2:=(fun w=>power_any x.align w)
 have hc3:=(fun w=>owithinB x.size 1048577 w)
 obtain⟨q0,h0⟩:∃q,(nameB x.name)=q:=⟨_,rfl⟩
 rw[h0] at hc0 hS
 have HC0:=Hd.mk hc0
 have HQ0:=Hd.mk h0
 clear hc0 h0
 obtain⟨q1,h1⟩:∃q,(inB x.kind 5)=q:=⟨_,rfl⟩
 rw[h1] at hc1 hS
 have HC1:=Hd.mk hc1
 have HQ1:=Hd.mk h1
 clear hc1 h1
 obtain⟨q2,h2⟩:∃q,(powB x.align)=q:=⟨_,rfl⟩
 rw[h2] at hc2 hS
 have HC2:=Hd.mk hc2
 have HQ2:=Hd.mk h2
 clear hc2 h2
 obtain⟨q3,h3⟩:∃q,(inB x.size 1048577)=q:=⟨_,rfl⟩
 rw[h3] at hc3 hS
 have HC3:=Hd.mk hc3
 have HQ3:=Hd.mk h3
 clear hc3 h3
 obtain⟨q4,h4⟩:∃q,(((x.bytes.size:Int)==x.size))=q:=⟨_,rfl⟩
 rw[h4] at hS
 have HS:=Hd.mk hS
 clear hS
 go_enter Tryz.func142,Tryz.ntmps142
 go_wp2_with fail
 refine(HC0.out _).mono ?_
 rintro e w' ⟨rfl,rfl⟩
 rcases q0 with _ | _
 ·go_wp2
  go_ret
  exact⟨ret_b (by rw[HS.out]<;>simp),by go_grown⟩
 go_wp2_with fail
 refine(HC1.out _).mono ?_
 rintro e w' ⟨rfl,rfl⟩
 rcases q1 with _ | _
 ·go_wp2
  go_ret
  exact⟨ret_b (by rw[HS.out]<;>simp),by go_grown⟩
 go_wp2_with fail
 refine(HC2.out _).mono ?_
 rintro e w' ⟨rfl,rfl⟩
 rcases q2 with _ | _
 ·go_wp2
  go_ret
  exact⟨ret_b (by rw[HS.out]<;>simp),by go_grown⟩
 go_wp2_with fail
 refine(HC3.out _).mono ?_
 rintro e w' ⟨rfl,rfl⟩
 rcases q3 with _ | _
 ·go_wp2
  go_ret
  exact⟨ret_b (by rw[HS.out]<;>simp),by go_grown⟩
 rcases q4 with _ | _
 ·go_wp2
  go_ret
  exact⟨ret_b (by rw[HS.out]<;>simp),by go_grown⟩
 go_wp2
 go_ret
 exact⟨ret_b (by rw[HS.out]<;>simp),by go_grown⟩
theorem osec1_any (w:World) (x:Sec) (hx:x.Ok):
 Calls Tryz.prog 142 #[.agg #[.string x.name, .int .i64 x.kind, .int .i64 x.align, .int .i64 x.size, .string x.bytes, .bool x.keep]] w fun e w'=>e= .returned (.bool (secB x))∧Below w.heap.size w w':=by
 by_cases h2:x.kind=2
 ·exact osec1_k2 w x hx (by simp[h2]) (by simp[h2]) (by simp[h2]) (by simp[h2])
 by_cases h4:x.kind=4
 ·exact osec1_k4 w x hx (by simp[h4]) (by simp[h4]) (by simp[h4]) (by simp[h4])
 by_cases h0:x.kind=0
 ·rcases a8:decide ((8:Int)≤x.align) with _ | _
  ·exact osec1_k0a w x hx (by simp[h0]) (by simp[h0]) (by simp[h0]) (by simp[h0]) a8
  ·rcases s8:(x.size.tmod 8==0) with _ | _
   ·exact osec1_k0b w x hx (by simp[h0]) (by simp[h0]) (by simp[h0]) (by simp[h0]) a8 s8
   ·exact osec1_k0c w x hx (by simp[h0]) (by simp[h0]) (by simp[h0]) (by simp[h0]) a8 s8
 ·exact osec1_ko w x hx (by simp[h0]) (by simp[h2]) (by simp[h4]) (by simp[h0])
end Go.Proofs.YtfaepbjnpakghaaGreatDoor.W
