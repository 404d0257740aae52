/- The arguments of 'roadlaw5.RenewTurns' as data; no conditions. -/
import Derived.Test.YtomjghlaoncpbaaVr
import Derived.Test.YtomjghlaoncpbaaTy
import Derived.Test.YtomjghlaoncpbaaVal
set_option linter.unusedVariables false
set_option maxRecDepth 100000
namespace Go.Proofs.Ytomjghlaoncpbaa.renewTurns
open Go.RowKit Go.Proofs.YtomjghlaoncpbaaV
def e9 (x : (List UInt8)) : List V := [.str x]
def o9 (x : (List UInt8)) : Prop := x.length ≤ bulk
theorem d9 (n : Nat) : Dec Try.prog 9 e9 o9 n := dec_str (by kernel_rfl)
theorem p9 (x : (List UInt8)) : 1 ≤ vszL (e9 x) := by simp only [e9, vszL, vsz]; omega
abbrev e67 := eVal
abbrev o67 := oVal
theorem d67 (n : Nat) : Dec Try.prog 67 e67 o67 n := dVal n
theorem p67 (x : Val) : 1 ≤ vszL (e67 x) := pVal x
abbrev D37 := List Val × Bool
def e37 (x : D37) : List V := [.sl (x.1.map e67) x.2 .no]
def o37 (x : D37) : Prop := OkS o67 x
theorem d37 (n : Nat) : Dec Try.prog 37 e37 o37 n := dec_slice (el := 67) (by kernel_rfl) p67 (fun m _ => d67 m)
theorem p37 (x : D37) : 1 ≤ vszL (e37 x) := by simp only [e37, vszL, vsz]; omega
def e3 (x : Int) : List V := [.int .i64 x]
def o3 (x : Int) : Prop := IntKind.i64.min ≤ x ∧ x ≤ IntKind.i64.max
theorem d3 (n : Nat) : Dec Try.prog 3 e3 o3 n := dec_int (by kernel_rfl)
theorem p3 (x : Int) : 1 ≤ vszL (e3 x) := by simp only [e3, vszL, vsz]; omega
abbrev D165 := Int × Val
def e165 (x : D165) : List V := [.int .i64 x.1, .int .i64 x.2.kind, .int .i64 x.2.num, .str x.2.text, .sl (x.2.args.map eVal) x.2.nl .no]
def o165 (x : D165) : Prop := o3 x.1 ∧ o67 x.2
theorem d165 (n : Nat) : Dec Try.prog 165 e165 o165 n := by
  intro cs hv hb
  obtain ⟨m, rfl, h⟩ := dec_struct (ts := [3, 67]) (by kernel_rfl) hv
  obtain ⟨a0, r0, rfl, _, h0, a1, r1, rfl, _, h1, rfl⟩ := h
  simp only [vszL_append] at hb
  obtain ⟨x0, rfl, q0⟩ := d3 m _ h0 (by omega)
  obtain ⟨x1, rfl, q1⟩ := d67 m _ h1 (by omega)
  exact ⟨(x0, x1), by simp only [e165, e3, e67, eVal_eq, List.cons_append, List.nil_append, List.append_nil], q0, q1⟩
theorem p165 (x : D165) : 1 ≤ vszL (e165 x) := by simp only [e165, vszL, vsz]; omega
abbrev D38 := List D165 × Bool
def e38 (x : D38) : List V := [.sl (x.1.map e165) x.2 .no]
def o38 (x : D38) : Prop := OkS o165 x
theorem d38 (n : Nat) : Dec Try.prog 38 e38 o38 n := dec_slice (el := 165) (by kernel_rfl) p165 (fun m _ => d165 m)
theorem p38 (x : D38) : 1 ≤ vszL (e38 x) := by simp only [e38, vszL, vsz]; omega
abbrev D40 := (List UInt8) × D37 × D38
def e40 (x : D40) : List V := [.str x.1, .sl (x.2.1.1.map e67) x.2.1.2 .no, .sl (x.2.2.1.map e165) x.2.2.2 .no]
def o40 (x : D40) : Prop := o9 x.1 ∧ o37 x.2.1 ∧ o38 x.2.2
theorem d40 (n : Nat) : Dec Try.prog 40 e40 o40 n := by
  intro cs hv hb
  obtain ⟨m, rfl, h⟩ := dec_struct (ts := [9, 37, 38]) (by kernel_rfl) hv
  obtain ⟨a0, r0, rfl, _, h0, a1, r1, rfl, _, h1, a2, r2, rfl, _, h2, rfl⟩ := h
  simp only [vszL_append] at hb
  obtain ⟨x0, rfl, q0⟩ := d9 m _ h0 (by omega)
  obtain ⟨x1, rfl, q1⟩ := d37 m _ h1 (by omega)
  obtain ⟨x2, rfl, q2⟩ := d38 m _ h2 (by omega)
  exact ⟨(x0, x1, x2), rfl, q0, q1, q2⟩
theorem p40 (x : D40) : 1 ≤ vszL (e40 x) := by simp only [e40, vszL, vsz]; omega
abbrev D162 := Int × Val
def e162 (x : D162) : List V := [.int .i64 x.1, .int .i64 x.2.kind, .int .i64 x.2.num, .str x.2.text, .sl (x.2.args.map eVal) x.2.nl .no]
def o162 (x : D162) : Prop := o3 x.1 ∧ o67 x.2
theorem d162 (n : Nat) : Dec Try.prog 162 e162 o162 n := by
  intro cs hv hb
  obtain ⟨m, rfl, h⟩ := dec_struct (ts := [3, 67]) (by kernel_rfl) hv
  obtain ⟨a0, r0, rfl, _, h0, a1, r1, rfl, _, h1, rfl⟩ := h
  simp only [vszL_append] at hb
  obtain ⟨x0, rfl, q0⟩ := d3 m _ h0 (by omega)
  obtain ⟨x1, rfl, q1⟩ := d67 m _ h1 (by omega)
  exact ⟨(x0, x1), by simp only [e162, e3, e67, eVal_eq, List.cons_append, List.nil_append, List.append_nil], q0, q1⟩
theorem p162 (x : D162) : 1 ≤ vszL (e162 x) := by simp only [e162, vszL, vsz]; omega
abbrev D46 := List D162 × Bool
def e46 (x : D46) : List V := [.sl (x.1.map e162) x.2 .no]
def o46 (x : D46) : Prop := OkS o162 x
theorem d46 (n : Nat) : Dec Try.prog 46 e46 o46 n := dec_slice (el := 162) (by kernel_rfl) p162 (fun m _ => d162 m)
theorem p46 (x : D46) : 1 ≤ vszL (e46 x) := by simp only [e46, vszL, vsz]; omega
abbrev D47 := List Int × Bool
def e47 (x : D47) : List V := [.sl (x.1.map e3) x.2 .no]
def o47 (x : D47) : Prop := OkS o3 x
theorem d47 (n : Nat) : Dec Try.prog 47 e47 o47 n := dec_slice (el := 3) (by kernel_rfl) p3 (fun m _ => d3 m)
theorem p47 (x : D47) : 1 ≤ vszL (e47 x) := by simp only [e47, vszL, vsz]; omega
abbrev D49 := (List UInt8) × Int × D46 × D47
def e49 (x : D49) : List V := [.str x.1, .int .i64 x.2.1, .sl (x.2.2.1.1.map e162) x.2.2.1.2 .no, .sl (x.2.2.2.1.map e3) x.2.2.2.2 .no]
def o49 (x : D49) : Prop := o9 x.1 ∧ o3 x.2.1 ∧ o46 x.2.2.1 ∧ o47 x.2.2.2
theorem d49 (n : Nat) : Dec Try.prog 49 e49 o49 n := by
  intro cs hv hb
  obtain ⟨m, rfl, h⟩ := dec_struct (ts := [9, 3, 46, 47]) (by kernel_rfl) hv
  obtain ⟨a0, r0, rfl, _, h0, a1, r1, rfl, _, h1, a2, r2, rfl, _, h2, a3, r3, rfl, _, h3, rfl⟩ := h
  simp only [vszL_append] at hb
  obtain ⟨x0, rfl, q0⟩ := d9 m _ h0 (by omega)
  obtain ⟨x1, rfl, q1⟩ := d3 m _ h1 (by omega)
  obtain ⟨x2, rfl, q2⟩ := d46 m _ h2 (by omega)
  obtain ⟨x3, rfl, q3⟩ := d47 m _ h3 (by omega)
  exact ⟨(x0, x1, x2, x3), rfl, q0, q1, q2, q3⟩
theorem p49 (x : D49) : 1 ≤ vszL (e49 x) := by simp only [e49, vszL, vsz]; omega
abbrev D41 := List D49 × Bool
def e41 (x : D41) : List V := [.sl (x.1.map e49) x.2 .no]
def o41 (x : D41) : Prop := OkS o49 x
theorem d41 (n : Nat) : Dec Try.prog 41 e41 o41 n := dec_slice (el := 49) (by kernel_rfl) p49 (fun m _ => d49 m)
theorem p41 (x : D41) : 1 ≤ vszL (e41 x) := by simp only [e41, vszL, vsz]; omega
abbrev D43 := D41
def e43 (x : D43) : List V := [.sl (x.1.map e49) x.2 .no]
def o43 (x : D43) : Prop := o41 x
theorem d43 (n : Nat) : Dec Try.prog 43 e43 o43 n := by
  intro cs hv hb
  obtain ⟨m, rfl, h⟩ := dec_struct (ts := [41]) (by kernel_rfl) hv
  obtain ⟨a0, r0, rfl, _, h0, rfl⟩ := h
  simp only [vszL_append] at hb
  obtain ⟨x0, rfl, q0⟩ := d41 m _ h0 (by omega)
  exact ⟨x0, rfl, q0⟩
theorem p43 (x : D43) : 1 ≤ vszL (e43 x) := by simp only [e43, vszL, vsz]; omega
theorem args {xs : List V} (h : TyAll Try.prog [40, 43] xs) (hs : vszL xs ≤ 1048576) : ∃ (x0 : D40) (x1 : D43), xs = [.agg (e40 x0), .agg (e43 x1)] ∧ o40 x0 ∧ o43 x1 := by
  obtain ⟨y0, r0, rfl, h0, y1, r1, rfl, h1, rfl⟩ := h
  simp only [vszL] at hs
  obtain ⟨x0, rfl, q0⟩ := dec_agg (by kernel_rfl) d40 h0 (by show vsz _ ≤ 1048576; omega)
  obtain ⟨x1, rfl, q1⟩ := dec_agg (by kernel_rfl) d43 h1 (by show vsz _ ≤ 1048576; omega)
  exact ⟨x0, x1, rfl, q0, q1⟩
end Go.Proofs.Ytomjghlaoncpbaa.renewTurns
