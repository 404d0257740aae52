/- The arguments of 'roadlaw5.ValueWritten' as data; no conditions. -/
import Derived.Test.YtomjghlaoncpbaaVr
import Derived.Test.YtomjghlaoncpbaaTy
import Derived.Test.YtomjghlaoncpbaaVal
set_option linter.unusedVariables false
set_option maxRecDepth 100000
namespace Go.Proofs.Ytomjghlaoncpbaa.valueWritten
open Go.RowKit Go.Proofs.YtomjghlaoncpbaaV
abbrev e67 := eVal
abbrev o67 := oVal
theorem d67 (n : Nat) : Dec Try.prog 67 e67 o67 n := dVal n
theorem p67 (x : Val) : 1 ≤ vszL (e67 x) := pVal x
theorem args {xs : List V} (h : TyAll Try.prog [67] xs) (hs : vszL xs ≤ 1048576) : ∃ (x0 : Val), xs = [.agg (e67 x0)] ∧ o67 x0 := by
  obtain ⟨y0, r0, rfl, h0, rfl⟩ := h
  simp only [vszL] at hs
  obtain ⟨x0, rfl, q0⟩ := dec_agg (by kernel_rfl) d67 h0 (by show vsz _ ≤ 1048576; omega)
  exact ⟨x0, rfl, q0⟩
end Go.Proofs.Ytomjghlaoncpbaa.valueWritten
