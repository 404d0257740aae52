/- The arguments of 'roadlaw5.SolveChecks' as data; no conditions. -/
import Derived.Test.YtomjghlaoncpbaaVr
import Derived.Test.YtomjghlaoncpbaaTy
set_option linter.unusedVariables false
set_option maxRecDepth 100000
namespace Go.Proofs.Ytomjghlaoncpbaa.solveChecks
open Go.RowKit Go.Proofs.YtomjghlaoncpbaaV
def e9 (x : (List UInt8)) : List V := [.str x]
def o9 (x : (List UInt8)) : Prop := x.length ≤ bulk
theorem d9 (n : Nat) : Dec Try.prog 9 e9 o9 n := dec_str (by kernel_rfl)
theorem p9 (x : (List UInt8)) : 1 ≤ vszL (e9 x) := by simp only [e9, vszL, vsz]; omega
def e3 (x : Int) : List V := [.int .i64 x]
def o3 (x : Int) : Prop := IntKind.i64.min ≤ x ∧ x ≤ IntKind.i64.max
theorem d3 (n : Nat) : Dec Try.prog 3 e3 o3 n := dec_int (by kernel_rfl)
theorem p3 (x : Int) : 1 ≤ vszL (e3 x) := by simp only [e3, vszL, vsz]; omega
abbrev D115 := (List UInt8) × Int × Int
def e115 (x : D115) : List V := [.str x.1, .int .i64 x.2.1, .int .i64 x.2.2]
def o115 (x : D115) : Prop := o9 x.1 ∧ o3 x.2.1 ∧ o3 x.2.2
theorem d115 (n : Nat) : Dec Try.prog 115 e115 o115 n := by
  intro cs hv hb
  obtain ⟨m, rfl, h⟩ := dec_struct (ts := [9, 3, 3]) (by kernel_rfl) hv
  obtain ⟨a0, r0, rfl, _, h0, a1, r1, rfl, _, h1, a2, r2, rfl, _, h2, rfl⟩ := h
  simp only [vszL_append] at hb
  obtain ⟨x0, rfl, q0⟩ := d9 m _ h0 (by omega)
  obtain ⟨x1, rfl, q1⟩ := d3 m _ h1 (by omega)
  obtain ⟨x2, rfl, q2⟩ := d3 m _ h2 (by omega)
  exact ⟨(x0, x1, x2), rfl, q0, q1, q2⟩
theorem p115 (x : D115) : 1 ≤ vszL (e115 x) := by simp only [e115, vszL, vsz]; omega
abbrev D55 := List D115 × Bool
def e55 (x : D55) : List V := [.sl (x.1.map e115) x.2 .no]
def o55 (x : D55) : Prop := OkS o115 x
theorem d55 (n : Nat) : Dec Try.prog 55 e55 o55 n := dec_slice (el := 115) (by kernel_rfl) p115 (fun m _ => d115 m)
theorem p55 (x : D55) : 1 ≤ vszL (e55 x) := by simp only [e55, vszL, vsz]; omega
abbrev D108 := (List UInt8) × Int × D55
def e108 (x : D108) : List V := [.str x.1, .int .i64 x.2.1, .sl (x.2.2.1.map e115) x.2.2.2 .no]
def o108 (x : D108) : Prop := o9 x.1 ∧ o3 x.2.1 ∧ o55 x.2.2
theorem d108 (n : Nat) : Dec Try.prog 108 e108 o108 n := by
  intro cs hv hb
  obtain ⟨m, rfl, h⟩ := dec_struct (ts := [9, 3, 55]) (by kernel_rfl) hv
  obtain ⟨a0, r0, rfl, _, h0, a1, r1, rfl, _, h1, a2, r2, rfl, _, h2, rfl⟩ := h
  simp only [vszL_append] at hb
  obtain ⟨x0, rfl, q0⟩ := d9 m _ h0 (by omega)
  obtain ⟨x1, rfl, q1⟩ := d3 m _ h1 (by omega)
  obtain ⟨x2, rfl, q2⟩ := d55 m _ h2 (by omega)
  exact ⟨(x0, x1, x2), rfl, q0, q1, q2⟩
theorem p108 (x : D108) : 1 ≤ vszL (e108 x) := by simp only [e108, vszL, vsz]; omega
abbrev D106 := List D108 × Bool
def e106 (x : D106) : List V := [.sl (x.1.map e108) x.2 .no]
def o106 (x : D106) : Prop := OkS o108 x
theorem d106 (n : Nat) : Dec Try.prog 106 e106 o106 n := dec_slice (el := 108) (by kernel_rfl) p108 (fun m _ => d108 m)
theorem p106 (x : D106) : 1 ≤ vszL (e106 x) := by simp only [e106, vszL, vsz]; omega
def e56 (x : V) : List V := [x]
def o56 (_ : V) : Prop := True
theorem d56 (n : Nat) : Dec Try.prog 56 e56 o56 n := dec_cell (el := 175) (by kernel_rfl)
def e57 (x : V) : List V := [x]
def o57 (_ : V) : Prop := True
theorem d57 (n : Nat) : Dec Try.prog 57 e57 o57 n := dec_cell (el := 179) (by kernel_rfl)
def e58 (x : V) : List V := [x]
def o58 (_ : V) : Prop := True
theorem d58 (n : Nat) : Dec Try.prog 58 e58 o58 n := dec_cell (el := 181) (by kernel_rfl)
def e59 (x : V) : List V := [x]
def o59 (_ : V) : Prop := True
theorem d59 (n : Nat) : Dec Try.prog 59 e59 o59 n := dec_cell (el := 247) (by kernel_rfl)
def e60 (x : V) : List V := [x]
def o60 (_ : V) : Prop := True
theorem d60 (n : Nat) : Dec Try.prog 60 e60 o60 n := dec_cell (el := 123) (by kernel_rfl)
abbrev D62 := (List UInt8) × Int × D55 × V × V × V × V × V
def e62 (x : D62) : List V := [.str x.1, .int .i64 x.2.1, .sl (x.2.2.1.1.map e115) x.2.2.1.2 .no, x.2.2.2.1, x.2.2.2.2.1, x.2.2.2.2.2.1, x.2.2.2.2.2.2.1, x.2.2.2.2.2.2.2]
def o62 (x : D62) : Prop := o9 x.1 ∧ o3 x.2.1 ∧ o55 x.2.2.1 ∧ o56 x.2.2.2.1 ∧ o57 x.2.2.2.2.1 ∧ o58 x.2.2.2.2.2.1 ∧ o59 x.2.2.2.2.2.2.1 ∧ o60 x.2.2.2.2.2.2.2
theorem d62 (n : Nat) : Dec Try.prog 62 e62 o62 n := by
  intro cs hv hb
  obtain ⟨m, rfl, h⟩ := dec_struct (ts := [9, 3, 55, 56, 57, 58, 59, 60]) (by kernel_rfl) hv
  obtain ⟨a0, r0, rfl, _, h0, a1, r1, rfl, _, h1, a2, r2, rfl, _, h2, a3, r3, rfl, _, h3, a4, r4, rfl, _, h4, a5, r5, rfl, _, h5, a6, r6, rfl, _, h6, a7, r7, rfl, _, h7, rfl⟩ := h
  simp only [vszL_append] at hb
  obtain ⟨x0, rfl, q0⟩ := d9 m _ h0 (by omega)
  obtain ⟨x1, rfl, q1⟩ := d3 m _ h1 (by omega)
  obtain ⟨x2, rfl, q2⟩ := d55 m _ h2 (by omega)
  obtain ⟨x3, rfl, q3⟩ := d56 m _ h3 (by omega)
  obtain ⟨x4, rfl, q4⟩ := d57 m _ h4 (by omega)
  obtain ⟨x5, rfl, q5⟩ := d58 m _ h5 (by omega)
  obtain ⟨x6, rfl, q6⟩ := d59 m _ h6 (by omega)
  obtain ⟨x7, rfl, q7⟩ := d60 m _ h7 (by omega)
  exact ⟨(x0, x1, x2, x3, x4, x5, x6, x7), rfl, q0, q1, q2, q3, q4, q5, q6, q7⟩
theorem p62 (x : D62) : 1 ≤ vszL (e62 x) := by simp only [e62, vszL, vsz]; omega
theorem args {xs : List V} (h : TyAll Try.prog [106, 55, 62] xs) (hs : vszL xs ≤ 1048576) : ∃ (x0 : D106) (x1 : D55) (x2 : D62), xs = [.sl (x0.1.map e108) x0.2 .no, .sl (x1.1.map e115) x1.2 .no, .agg (e62 x2)] ∧ o106 x0 ∧ o55 x1 ∧ o62 x2 := by
  obtain ⟨y0, r0, rfl, h0, y1, r1, rfl, h1, y2, r2, rfl, h2, rfl⟩ := h
  simp only [vszL] at hs
  obtain ⟨x0, g0, q0⟩ := dec_one (by kernel_rfl) d106 h0 (by show vsz _ ≤ 1048576; omega)
  obtain ⟨x1, g1, q1⟩ := dec_one (by kernel_rfl) d55 h1 (by show vsz _ ≤ 1048576; omega)
  obtain ⟨x2, rfl, q2⟩ := dec_agg (by kernel_rfl) d62 h2 (by show vsz _ ≤ 1048576; omega)
  cases g0
  cases g1
  exact ⟨x0, x1, x2, rfl, q0, q1, q2⟩
end Go.Proofs.Ytomjghlaoncpbaa.solveChecks
