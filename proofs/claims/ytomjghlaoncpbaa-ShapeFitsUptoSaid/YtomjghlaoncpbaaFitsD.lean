/- The arguments of 'roadlaw5.ShapeFits' as data; no conditions. -/
import Derived.Test.YtomjghlaoncpbaaVr
import Derived.Test.YtomjghlaoncpbaaTy
import Derived.Test.YtomjghlaoncpbaaPrgD
import Derived.Test.YtomjghlaoncpbaaPrg
set_option linter.unusedVariables false
set_option maxRecDepth 100000
namespace Go.Proofs.Ytomjghlaoncpbaa.shapeFits
open Go.RowKit Go.Proofs.YtomjghlaoncpbaaV
abbrev e67 := eVal
abbrev o67 := oVal
theorem d67 (n : Nat) : Dec Try.prog 67 e67 o67 n := dVal n
theorem p67 (x : Val) : 1 ≤ vszL (e67 x) := pVal x
theorem args {xs : List V} (h : TyAll Try.prog [62, 65, 67] xs) (hs : vszL xs ≤ 1048576) : ∃ (x0 : D62) (x1 : Typ) (x2 : Val), xs = [.agg (e62 x0), .agg (e65 x1), .agg (e67 x2)] ∧ o62 x0 ∧ o65 x1 ∧ o67 x2 := by
  obtain ⟨y0, r0, rfl, h0, y1, r1, rfl, h1, y2, r2, rfl, h2, rfl⟩ := h
  simp only [vszL] at hs
  obtain ⟨x0, rfl, q0⟩ := dec_agg (by kernel_rfl) d62 h0 (by show vsz _ ≤ 1048576; omega)
  obtain ⟨x1, rfl, q1⟩ := dec_agg (by kernel_rfl) d65 h1 (by show vsz _ ≤ 1048576; omega)
  obtain ⟨x2, rfl, q2⟩ := dec_agg (by kernel_rfl) d67 h2 (by show vsz _ ≤ 1048576; omega)
  exact ⟨x0, x1, x2, rfl, q0, q1, q2⟩
end Go.Proofs.Ytomjghlaoncpbaa.shapeFits
