/- The arguments of 'roadlaw5.SolveRight' as data; no conditions. -/
import Derived.Test.YtomjghlaoncpbaaVr
import Derived.Test.YtomjghlaoncpbaaTy
set_option linter.unusedVariables false
set_option maxRecDepth 100000
namespace Go.Proofs.Ytomjghlaoncpbaa.solveRight
open Go.RowKit Go.Proofs.YtomjghlaoncpbaaV
def e9 (x : (List UInt8)) : List V := [.str x]
def o9 (x : (List UInt8)) : Prop := x.length ≤ bulk
theorem d9 (n : Nat) : Dec Try.prog 9 e9 o9 n := dec_str (by kernel_rfl)
theorem p9 (x : (List UInt8)) : 1 ≤ vszL (e9 x) := by simp only [e9, vszL, vsz]; omega
def e3 (x : Int) : List V := [.int .i64 x]
def o3 (x : Int) : Prop := IntKind.i64.min ≤ x ∧ x ≤ IntKind.i64.max
theorem d3 (n : Nat) : Dec Try.prog 3 e3 o3 n := dec_int (by kernel_rfl)
theorem p3 (x : Int) : 1 ≤ vszL (e3 x) := by simp only [e3, vszL, vsz]; omega
abbrev D115 := (List UInt8) × Int × Int
def e115 (x : D115) : List V := [.str x.1, .int .i64 x.2.1, .int .i64 x.2.2]
def o115 (x : D115) : Prop := o9 x.1 ∧ o3 x.2.1 ∧ o3 x.2.2
theorem d115 (n : Nat) : Dec Try.prog 115 e115 o115 n := by
  intro cs hv hb
  obtain ⟨m, rfl, h⟩ := dec_struct (ts := [9, 3, 3]) (by kernel_rfl) hv
  obtain ⟨a0, r0, rfl, _, h0, a1, r1, rfl, _, h1, a2, r2, rfl, _, h2, rfl⟩ := h
  simp only [vszL_append] at hb
  obtain ⟨x0, rfl, q0⟩ := d9 m _ h0 (by omega)
  obtain ⟨x1, rfl, q1⟩ := d3 m _ h1 (by omega)
  obtain ⟨x2, rfl, q2⟩ := d3 m _ h2 (by omega)
  exact ⟨(x0, x1, x2), rfl, q0, q1, q2⟩
theorem p115 (x : D115) : 1 ≤ vszL (e115 x) := by simp only [e115, vszL, vsz]; omega
abbrev D55 := List D115 × Bool
def e55 (x : D55) : List V := [.sl (x.1.map e115) x.2 .no]
def o55 (x : D55) : Prop := OkS o115 x
theorem d55 (n : Nat) : Dec Try.prog 55 e55 o55 n := dec_slice (el := 115) (by kernel_rfl) p115 (fun m _ => d115 m)
theorem p55 (x : D55) : 1 ≤ vszL (e55 x) := by simp only [e55, vszL, vsz]; omega
abbrev D108 := (List UInt8) × Int × D55
def e108 (x : D108) : List V := [.str x.1, .int .i64 x.2.1, .sl (x.2.2.1.map e115) x.2.2.2 .no]
def o108 (x : D108) : Prop := o9 x.1 ∧ o3 x.2.1 ∧ o55 x.2.2
theorem d108 (n : Nat) : Dec Try.prog 108 e108 o108 n := by
  intro cs hv hb
  obtain ⟨m, rfl, h⟩ := dec_struct (ts := [9, 3, 55]) (by kernel_rfl) hv
  obtain ⟨a0, r0, rfl, _, h0, a1, r1, rfl, _, h1, a2, r2, rfl, _, h2, rfl⟩ := h
  simp only [vszL_append] at hb
  obtain ⟨x0, rfl, q0⟩ := d9 m _ h0 (by omega)
  obtain ⟨x1, rfl, q1⟩ := d3 m _ h1 (by omega)
  obtain ⟨x2, rfl, q2⟩ := d55 m _ h2 (by omega)
  exact ⟨(x0, x1, x2), rfl, q0, q1, q2⟩
theorem p108 (x : D108) : 1 ≤ vszL (e108 x) := by simp only [e108, vszL, vsz]; omega
abbrev D106 := List D108 × Bool
def e106 (x : D106) : List V := [.sl (x.1.map e108) x.2 .no]
def o106 (x : D106) : Prop := OkS o108 x
theorem d106 (n : Nat) : Dec Try.prog 106 e106 o106 n := dec_slice (el := 108) (by kernel_rfl) p108 (fun m _ => d108 m)
theorem p106 (x : D106) : 1 ≤ vszL (e106 x) := by simp only [e106, vszL, vsz]; omega
abbrev D229 := (List UInt8) × Int
def e229 (x : D229) : List V := [.str x.1, .int .i64 x.2]
def o229 (x : D229) : Prop := o9 x.1 ∧ o3 x.2
theorem d229 (n : Nat) : Dec Try.prog 229 e229 o229 n := by
  intro cs hv hb
  obtain ⟨m, rfl, h⟩ := dec_struct (ts := [9, 3]) (by kernel_rfl) hv
  obtain ⟨a0, r0, rfl, _, h0, a1, r1, rfl, _, h1, rfl⟩ := h
  simp only [vszL_append] at hb
  obtain ⟨x0, rfl, q0⟩ := d9 m _ h0 (by omega)
  obtain ⟨x1, rfl, q1⟩ := d3 m _ h1 (by omega)
  exact ⟨(x0, x1), rfl, q0, q1⟩
theorem p229 (x : D229) : 1 ≤ vszL (e229 x) := by simp only [e229, vszL, vsz]; omega
abbrev D152 := List D229 × Bool
def e152 (x : D152) : List V := [.sl (x.1.map e229) x.2 .no]
def o152 (x : D152) : Prop := OkS o229 x
theorem d152 (n : Nat) : Dec Try.prog 152 e152 o152 n := dec_slice (el := 229) (by kernel_rfl) p229 (fun m _ => d229 m)
theorem p152 (x : D152) : 1 ≤ vszL (e152 x) := by simp only [e152, vszL, vsz]; omega
theorem args {xs : List V} (h : TyAll Try.prog [106, 55, 152] xs) (hs : vszL xs ≤ 1048576) : ∃ (x0 : D106) (x1 : D55) (x2 : D152), xs = [.sl (x0.1.map e108) x0.2 .no, .sl (x1.1.map e115) x1.2 .no, .sl (x2.1.map e229) x2.2 .no] ∧ o106 x0 ∧ o55 x1 ∧ o152 x2 := by
  obtain ⟨y0, r0, rfl, h0, y1, r1, rfl, h1, y2, r2, rfl, h2, rfl⟩ := h
  simp only [vszL] at hs
  obtain ⟨x0, g0, q0⟩ := dec_one (by kernel_rfl) d106 h0 (by show vsz _ ≤ 1048576; omega)
  obtain ⟨x1, g1, q1⟩ := dec_one (by kernel_rfl) d55 h1 (by show vsz _ ≤ 1048576; omega)
  obtain ⟨x2, g2, q2⟩ := dec_one (by kernel_rfl) d152 h2 (by show vsz _ ≤ 1048576; omega)
  cases g0
  cases g1
  cases g2
  exact ⟨x0, x1, x2, rfl, q0, q1, q2⟩
end Go.Proofs.Ytomjghlaoncpbaa.solveRight
