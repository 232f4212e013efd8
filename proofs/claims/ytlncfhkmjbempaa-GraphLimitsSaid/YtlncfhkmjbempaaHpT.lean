/-
  The heap's methods, called through the interface.
-/
import Derived.Test.YtlncfhkmjbempaaGf
import Derived.Deep.Cut
namespace Go.Proofs.Ytlncfhkmjbempaa.W
open Go.RowKit
set_option linter.unusedVariables false

theorem m_push (h : Nat) (w : World) : (method 222 48 (.pointer (some ⟨h, 0, none⟩)) "Push").run Try.prog w = .ok (94, .pointer (some ⟨h, 0, none⟩)) w := by kernel_rfl
theorem m_pop (h : Nat) (w : World) : (method 222 48 (.pointer (some ⟨h, 0, none⟩)) "Pop").run Try.prog w = .ok (93, .pointer (some ⟨h, 0, none⟩)) w := by kernel_rfl
/-- a method of the slice itself, called through the pointer in the interface: the slice is loaded -/
theorem m_val {nm : String} {f : FuncId} (hq : (Try.prog.info? 48).map (fun i => (i.methods.find? (·.name == nm)).map fun m => (m.path, m.func)) = some (some (#[], some (f, false))))
    (h m c : Nat) (p : Option Addr) (w : World) (hc : w.cell? ⟨h, 0, none⟩ = some (.slice p m c)) : (method 222 48 (.pointer (some ⟨h, 0, none⟩)) nm).run Try.prog w = .ok (f, .slice p m c) w := by
  obtain ⟨i, hi, h2⟩ := Option.map_eq_some_iff.1 hq
  obtain ⟨mm, hm, h3⟩ := Option.map_eq_some_iff.1 h2
  simp only [Prod.mk.injEq] at h3
  obtain ⟨h4, h5⟩ := h3
  have e2 : (Place.get 48 (.val (.pointer (some ⟨h, 0, none⟩)))).run Try.prog w = .ok (.pointer (some ⟨h, 0, none⟩)) w := rfl
  have e3 : ∀ nm, (Builtin.ssaWrapNilChk_ #[48] 48 #[.pointer (some ⟨h, 0, none⟩), strVal "", strVal nm]).run Try.prog w = .ok (.pointer (some ⟨h, 0, none⟩)) w := fun _ => rfl
  have e4 : (typeInfo 48).run Try.prog w = .ok i w := by simp [typeInfo, hi]
  show (method (221 + 1) _ _ _).run _ _ = _
  unfold method
  simp [e4, hm, h4, h5, follow]
  unfold receiverAt
  generalize (nm.splitOn ".").getLastD nm = nn
  simp [go_sem, e2, e3, hc]
theorem m_len (h m c : Nat) (p : Option Addr) (w : World) (hc : w.cell? ⟨h, 0, none⟩ = some (.slice p m c)) : (method 222 48 (.pointer (some ⟨h, 0, none⟩)) "Len").run Try.prog w = .ok (91, .slice p m c) w := m_val (by kernel_rfl) h m c p w hc
theorem m_less (h m c : Nat) (p : Option Addr) (w : World) (hc : w.cell? ⟨h, 0, none⟩ = some (.slice p m c)) : (method 222 48 (.pointer (some ⟨h, 0, none⟩)) "Less").run Try.prog w = .ok (92, .slice p m c) w := m_val (by kernel_rfl) h m c p w hc
theorem m_swap (h m c : Nat) (p : Option Addr) (w : World) (hc : w.cell? ⟨h, 0, none⟩ = some (.slice p m c)) : (method 222 48 (.pointer (some ⟨h, 0, none⟩)) "Swap").run Try.prog w = .ok (95, .slice p m c) w := m_val (by kernel_rfl) h m c p w hc

end Go.Proofs.Ytlncfhkmjbempaa.W
