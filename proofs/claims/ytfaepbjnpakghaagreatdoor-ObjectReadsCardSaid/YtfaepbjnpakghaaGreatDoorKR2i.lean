import Derived.Test.YtfaepbjnpakghaaGreatDoorKKy
/- The reference's Int. -/
namespace Go.Proofs.YtfaepbjnpakghaaGreatDoor.W
open Go.RowKit
set_option linter.unusedVariables false
set_option linter.unusedSimpArgs false
theorem r2int_any (x:Int) (h:I64 x) (w:World):Calls Tryz.prog 211 #[.int .i64 x] w fun e w'=>e= .returned (.string ⟨(intL x).toArray⟩)∧Below w.heap.size w w':=by
 unfold I64 at h
 by_cases h0:x<0
 ·obtain⟨m,rfl⟩:∃m:Nat,x= -(m:Int) -1:=⟨(-x-1).toNat,by omega⟩
  have hz:intL (-(m:Int) -1)=numL (2*m+1):=by
   unfold intL zig
   rw[if_neg (by omega)]
   congr 1
   omega
  have HG:=Hd.mk (groups_any (2*m+1) (by omega) w)
  rw[hz]
  have d0:decide (-(m:Int) -1<0)=true:=by simp;omega
  have e1:IntKind.i64.wrap (-(m:Int) -1+1)= -(m:Int):=by rw[IntWalk.i64_in _ (by omega)];omega
  have e2: -(m:Int) -1+1= -(m:Int):=by omega
  have e3:wrap64 (-(m:Int))= -(m:Int):=by unfold wrap64;omega
  have e3':IntKind.i64.wrap (-(m:Int))= -(m:Int):=IntWalk.i64_in _ (by omega)
  have e4:IntKind.i64.wrap (m:Int)=(m:Int):=IntWalk.i64_in _ (by omega)
  have e5:wrap64 (m:Int)=(m:Int):=by unfold wrap64;omega
  have e6:IntKind.u64.wrap (m:Int)=(m:Int):=by rw[IntKind.wrap_u64];omega
  have e7:IntKind.u64.wrap (2*(m:Int))=((2*m:Nat):Int):=by rw[IntKind.wrap_u64];omega
  have e8:IntKind.u64.wrap (((2*m:Nat):Int)+1)=((2*m+1:Nat):Int):=by rw[IntKind.wrap_u64];omega
  have e9:IntKind.u64.wrap (2*(m:Int)+1)=((2*m+1:Nat):Int):=by rw[IntKind.wrap_u64];omega
  clear h h0 hz
  go_enter Tryz.func211,Tryz.ntmps211
  go_wp2_with fail
  refine HG.out.mono ?_
  rintro e w1 ⟨rfl,hB⟩
  have HB:=Hd.mk hB
  clear hB
  go_wp2
  go_ret
  exact⟨rfl,HB.out⟩
 ·obtain⟨m,rfl⟩:=Int.eq_ofNat_of_zero_le (by omega:0≤x)
  have hz:intL (m:Int)=numL (2*m):=by
   unfold intL zig
   rw[if_pos (by omega),Int.toNat_natCast]
  have HG:=Hd.mk (groups_any (2*m) (by omega) w)
  rw[hz]
  have d0:decide ((m:Int)<0)=false:=by simp
  have e6:IntKind.u64.wrap (m:Int)=(m:Int):=by rw[IntKind.wrap_u64];omega
  have e7:IntKind.u64.wrap (2*(m:Int))=((2*m:Nat):Int):=by rw[IntKind.wrap_u64];omega
  clear h h0 hz
  go_enter Tryz.func211,Tryz.ntmps211
  go_wp2_with fail
  refine HG.out.mono ?_
  rintro e w1 ⟨rfl,hB⟩
  have HB:=Hd.mk hB
  clear hB
  go_wp2
  go_ret
  exact⟨rfl,HB.out⟩
end Go.Proofs.YtfaepbjnpakghaaGreatDoor.W
