/- The arguments of 'roadlaw5.ShapeLeast' as data; no conditions. -/
import Derived.Test.YtomjghlaoncpbaaVr
import Derived.Test.YtomjghlaoncpbaaTy
import Derived.Test.YtomjghlaoncpbaaPrgD
import Derived.Test.YtomjghlaoncpbaaPrg
set_option linter.unusedVariables false
set_option maxRecDepth 100000
namespace Go.Proofs.Ytomjghlaoncpbaa.shapeLeast
open Go.RowKit Go.Proofs.YtomjghlaoncpbaaV

theorem args {xs : List V} (h : TyAll Try.prog [62, 65] xs) (hs : vszL xs ≤ 1048576) : ∃ (x0 : D62) (x1 : Typ), xs = [.agg (e62 x0), .agg (e65 x1)] ∧ o62 x0 ∧ o65 x1 := by
  obtain ⟨y0, r0, rfl, h0, y1, r1, rfl, h1, rfl⟩ := h
  simp only [vszL] at hs
  obtain ⟨x0, rfl, q0⟩ := dec_agg (by kernel_rfl) d62 h0 (by show vsz _ ≤ 1048576; omega)
  obtain ⟨x1, rfl, q1⟩ := dec_agg (by kernel_rfl) d65 h1 (by show vsz _ ≤ 1048576; omega)
  exact ⟨x0, x1, rfl, q0, q1⟩
end Go.Proofs.Ytomjghlaoncpbaa.shapeLeast
