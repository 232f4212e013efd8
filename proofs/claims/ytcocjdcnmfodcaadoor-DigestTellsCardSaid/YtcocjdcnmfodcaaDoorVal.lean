/-
  The examples' values, reckoned by the kernel.
-/
import Derived.Test.YtcocjdcnmfodcaaDoorP
import Derived.Test.YtcocjdcnmfodcaaDoorCrcP
import Derived.Test.YtcocjdcnmfodcaaDoorHexP
namespace Go.Proofs.YtcocjdcnmfodcaaDoor.W
set_option linter.unusedVariables false

def abcL : List UInt8 := [51, 97, 57, 56, 53, 100, 97, 55, 52, 102, 101, 50, 50, 53, 98, 50, 48, 52, 53, 99, 49, 55, 50, 100, 54, 98, 100, 51, 57, 48, 98, 100, 56, 53, 53, 102, 48, 56, 54, 101, 51, 101, 57, 100, 53, 50, 53, 98, 52, 54, 98, 102, 101, 50, 52, 53, 49, 49, 52, 51, 49, 53, 51, 50]
def emptyL : List UInt8 := "a7ffc6f8bf1ed76651c14756a061d662f580ff4de43b49fa82d80a4b80f8434a".toList.map fun c => UInt8.ofNat c.toNat
theorem v_abc : hexL (sumL [97, 98, 99]) = abcL := by decide +kernel
theorem v_empty : hexL (sumL []) = emptyL := by decide +kernel
theorem v_crc : crcL [49, 50, 51, 52, 53, 54, 55, 56, 57] = 3808858755 := by decide +kernel
theorem v_crc0 : crcL [] = 0 := by decide +kernel
theorem v_one : unhexB [48, 65] = false := by decide +kernel
theorem v_two : unhexB [48, 97] = true := by decide +kernel
theorem v_s : unhexS [48, 97] = [10] := by decide +kernel

end Go.Proofs.YtcocjdcnmfodcaaDoor.W
