/-
  Hexadecimal in plain words.
-/
import Derived.Test.YtimbhnnidohmaaaDoorL
import Derived.Lib.UnsafeStr
import Derived.Shelf.Strings.Search1
namespace Go.Proofs.YtimbhnnidohmaaaDoor.W
set_option linter.unusedVariables false

def digitL : List UInt8 := [48, 49, 50, 51, 52, 53, 54, 55, 56, 57, 97, 98, 99, 100, 101, 102]
def digitS : ByteArray := ⟨#[48, 49, 50, 51, 52, 53, 54, 55, 56, 57, 97, 98, 99, 100, 101, 102]⟩
def dig (n : Nat) : UInt8 := digitL.getD n 0
def hexL (l : List UInt8) : List UInt8 := l.flatMap fun b => [dig (b.toNat / 16), dig (b.toNat % 16)]
theorem hexL_snoc (l : List UInt8) (b : UInt8) : hexL (l ++ [b]) = hexL l ++ [dig (b.toNat / 16)] ++ [dig (b.toNat % 16)] := by simp [hexL]
theorem hexL_len (l : List UInt8) : (hexL l).length = 2 * l.length := by
  induction l with
  | nil => rfl
  | cons b l ih => simp only [hexL, List.flatMap_cons, List.length_append, List.length_cons, List.length_nil] at ih ⊢; omega

theorem dig_at (n : Nat) (h : n < digitS.size) : digitS[n] = dig n := by
  have : ∀ m : Fin 16, digitS[m.val]'(by have := m.isLt; exact this) = dig m.val := by decide
  exact this ⟨n, h⟩

/-- the number of a digit, or -1 -/
def hv (c : UInt8) : Int := Lib.indexByte digitL c
def unhexR : List UInt8 → Option (List UInt8)
  | [] => some []
  | [_] => none
  | a :: b :: r => if hv a < 0 ∨ hv b < 0 then none else (unhexR r).map (UInt8.ofNat (16 * hv a + hv b).toNat :: ·)
def unhexS (l : List UInt8) : List UInt8 := (unhexR l).getD []
def unhexB (l : List UInt8) : Bool := (unhexR l).isSome

theorem hv_bd (c : UInt8) : -1 ≤ hv c ∧ hv c < 16 := by
  have : ∀ m : Fin 256, -1 ≤ hv (UInt8.ofNat m.val) ∧ hv (UInt8.ofNat m.val) < 16 := by decide +kernel
  have h := this ⟨c.toNat, c.toNat_lt⟩
  rwa [show UInt8.ofNat c.toNat = c from UInt8.ofNat_toNat] at h

theorem unhex_odd : ∀ (l : List UInt8), l.length % 2 = 1 → unhexR l = none
  | [], h => by simp at h
  | [_], _ => rfl
  | a :: b :: r, h => by
    have ih := unhex_odd r (by simp at h; omega)
    simp only [unhexR, ih, Option.map_none]
    split <;> rfl

theorem drop2 (s : ByteArray) (i : Nat) (h : i + 1 < s.size) : s.data.toList.drop i = s[i] :: s[i + 1] :: s.data.toList.drop (i + 2) := by
  have hl : s.data.toList.length = s.size := by simp
  rw [List.drop_eq_getElem_cons (by omega), List.drop_eq_getElem_cons (by omega)]
  rfl

theorem unhex_bad (l : List UInt8) (s : ByteArray) (j : Nat) {acc : List UInt8} (a b : UInt8) {h : j < s.size} {h' : j + 1 < s.size}
    (hU : unhexR l = (unhexR (s.data.toList.drop j)).map (acc ++ ·))
    (hd : s.data.toList.drop j = s[j] :: s[j + 1] :: s.data.toList.drop (j + 2)) (ha : s[j] = a) (hb : s[j + 1] = b) (hbad : hv a < 0 ∨ hv b < 0) : unhexR l = none := by
  rw [hd, ha, hb] at hU
  simp only [unhexR, if_pos hbad, Option.map_none] at hU
  exact hU

theorem unhex_good (l : List UInt8) (s : ByteArray) (j : Nat) (a b : UInt8) (acc : List UInt8) {h : j < s.size} {h' : j + 1 < s.size}
    (hU : unhexR l = (unhexR (s.data.toList.drop j)).map (acc ++ ·))
    (hd : s.data.toList.drop j = s[j] :: s[j + 1] :: s.data.toList.drop (j + 2)) (ha : s[j] = a) (hb : s[j + 1] = b) (hbad : ¬ (hv a < 0 ∨ hv b < 0)) :
    unhexR l = (unhexR (s.data.toList.drop (j + 2))).map ((acc ++ [UInt8.ofNat (16 * hv a + hv b).toNat]) ++ ·) := by
  rw [hd, ha, hb] at hU
  simp only [unhexR, if_neg hbad, Option.map_map] at hU
  rw [hU]
  congr 1
  funext x
  simp

end Go.Proofs.YtimbhnnidohmaaaDoor.W
