import Derived.Deep.Cut
import Derived.Test.YtfaepbjnpakghaaGreatDoorKad
import Derived.Test.YtfaepbjnpakghaaGreatDoorKac
import Derived.Test.YtfaepbjnpakghaaGreatDoorKRound
/- The walk of object.Form. -/
namespace Go.Proofs.YtfaepbjnpakghaaGreatDoor.W
open Go.RowKit
set_option linter.unusedVariables false
def setMany {α:Type}:List α→Nat→List α→List α
 | l,_,[]=>l
 | l,o,u::us=>setMany (l.set o u) (o+1) us
theorem setMany_len {α:Type}:∀(us l:List α) (o:Nat),(setMany l o us).length=l.length
 | [],_,_=>rfl
 | u::us,l,o=>by rw[setMany,setMany_len us];simp
theorem setMany_at {α:Type}:∀(us l:List α) (o j:Nat),o+us.length≤l.length→(setMany l o us)[j]? =if o≤j∧j<o+us.length then us[j-o]? else l[j]?
 | [],l,o,j,_=>by rw[setMany,if_neg (by simp)]
 | u::us,l,o,j,h=>by
   simp only[List.length_cons] at h
   rw[setMany,setMany_at us (l.set o u) (o+1) j (by simp;omega)]
   by_cases h1:o+1≤j∧j<o+1+us.length
   ·rw[if_pos h1,if_pos ⟨by omega,by simp only[List.length_cons];omega⟩,show j-o=(j-(o+1))+1 by omega];rfl
   ·rw[if_neg h1,List.getElem?_set]
    by_cases h2:o=j
    ·subst h2
     rw[if_pos rfl,if_pos (by omega),if_pos ⟨Nat.le_refl _,by simp⟩,Nat.sub_self];rfl
    ·rw[if_neg h2,if_neg (by simp only[List.length_cons];omega)]
theorem setMany_zero (l:List UInt8) (a z:Nat) (h:a≤z) (hz:z≤l.length):setMany (Lib.byteCells l) a (Lib.byteCells (List.replicate (z-a) 0))=Lib.byteCells (zeroAt l a z):=by
 have bl:∀l:List UInt8,(Lib.byteCells l).length=l.length:=bc_len
 apply List.ext_getElem?
 intro j
 rw[setMany_at _ _ _ _ (by rw[bl,bl];simp;omega)]
 have hb:∀(l:List UInt8) (j:Nat),(Lib.byteCells l)[j]? =l[j]?.map (fun(b:UInt8)=>Value.int .u8 (b.toNat:Int)):=fun l j=>by simp[Lib.byteCells]
 rw[hb,hb,hb,bl]
 simp only[List.length_replicate,zeroAt]
 by_cases h1:j<a
 ·rw[if_neg (by omega),List.append_assoc,List.getElem?_append_left (by simp;omega),List.getElem?_take,if_pos h1]
 ·by_cases h2:j<z
  ·rw[if_pos (by omega),List.append_assoc,List.getElem?_append_right (by simp;omega),List.getElem?_append_left (by simp;omega)]
   congr 2
   simp;omega
  ·rw[if_neg (by omega),List.append_assoc,List.getElem?_append_right (by simp;omega),List.getElem?_append_right (by simp;omega),List.getElem?_drop]
   congr 2
   simp;omega
theorem Own.setMany {B:Nat} {e:TypeId} {g n cap:Nat}:∀(us:List Value) (l:List Value) (w:World) (o:Nat),Own w B e (.slice (some ⟨g,0,none⟩) n cap) l→Own (w.setCells g o us) B e (.slice (some ⟨g,0,none⟩) n cap) (setMany l o us)
 | [],_,_,_,h=>h
 | u::us,l,w,o,h=>Own.setMany us _ _ _ (h.setAt u (j:=o))
theorem run_clear_bytes {w:World} {B g n cap c:Nat} {l:List UInt8} (ty:TypeId) (h:Own w B 5 (.slice (some ⟨g,0,none⟩) n cap) (Lib.byteCells l)) (a z:Nat) (ha:a≤z) (hz:z≤l.length):
 ∃w',(Builtin.clear_ #[142] ty #[.slice (some ⟨g,a,none⟩) (z-a) c]).run Tryz.prog w= .ok (.tuple #[]) w'∧Own w' B 5 (.slice (some ⟨g,0,none⟩) n cap) (Lib.byteCells (zeroAt l a z))∧Keeps (·=g) w w':=by
 have hO:=Own.setMany (Lib.byteCells (List.replicate (z-a) 0)) _ w a h
 rw[setMany_zero l a z ha hz] at hO
 refine⟨_,?_,hO,(keeps_setCells _ a w).mono (fun k _ e=>by injection e with e;exact e.symm)⟩
 have hzv:∀w,(zeroValue 5).run Tryz.prog w= .ok (.int .u8 0) w:=Tryz.zeroValue5
 rcases Nat.eq_zero_or_pos (z-a) with h0 | h0
 ·rw[h0]
  simp[Builtin.clear_,run_underlying Tryz.underlying142,Lib.byteCells,World.setCells]
 ·obtain⟨m,hm⟩:∃m,z-a=m+1:=⟨z-a-1,by omega⟩
  have hzc:(Builtin.zeroCells (Value.int .u8 0).cells (z-a)).toList=Lib.byteCells (List.replicate (z-a) 0):=by
   apply List.ext_getElem?
   intro j
   simp only[Builtin.zeroCells,Lib.byteCells,Value.cells]
   by_cases hj:j<z-a
   ·simp[hj,Nat.mod_one]
   ·simp[hj]
  have hst:=run_storeCells_cells (P:=Tryz.prog) g a (Lib.byteCells (List.replicate (z-a) 0)) 0 w (fun j hj=>by
   have hj':j<z-a:=by simpa [Lib.byteCells] using hj
   have:=h.cellAt (j:=a+j) (u:= .int .u8 ((l.getD (a+j) 0).toNat:Int)) (byteCells_at (by omega))
   rw[Nat.add_zero,this];rfl) (fun j hj=>by
   have hj':j<z-a:=by simpa [Lib.byteCells] using hj
   rw[Nat.add_zero]
   exact h.freeAt (by rw[bc_len];omega)) (fun v hv=>by simp[Lib.byteCells] at hv;rw[hv.2];rfl)
  simp only[Nat.add_zero] at hst
  rw[←hzc] at hst⊢
  rw[hm] at hst⊢
  simp only[Builtin.clear_]
  simp[run_underlying Tryz.underlying142,hzv,hst]
end Go.Proofs.YtfaepbjnpakghaaGreatDoor.W
