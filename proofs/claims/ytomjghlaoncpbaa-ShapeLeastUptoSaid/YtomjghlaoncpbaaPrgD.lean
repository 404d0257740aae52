/- Types as data; no conditions. -/
import Derived.Test.YtomjghlaoncpbaaVr
import Derived.Test.YtomjghlaoncpbaaTy
import Derived.Test.YtomjghlaoncpbaaPrg
set_option linter.unusedVariables false
set_option linter.unusedSimpArgs false
set_option maxRecDepth 100000
namespace Go.Proofs.Ytomjghlaoncpbaa
open Go.RowKit Go.Proofs.YtomjghlaoncpbaaV
def e9 (x : (List UInt8)) : List V := [.str x]
def o9 (x : (List UInt8)) : Prop := x.length ≤ bulk
theorem d9 (n : Nat) : Dec Try.prog 9 e9 o9 n := dec_str (by kernel_rfl)
theorem p9 (x : (List UInt8)) : 1 ≤ vszL (e9 x) := by simp only [e9, vszL, vsz]; omega
def e3 (x : Int) : List V := [.int .i64 x]
def o3 (x : Int) : Prop := IntKind.i64.min ≤ x ∧ x ≤ IntKind.i64.max
theorem d3 (n : Nat) : Dec Try.prog 3 e3 o3 n := dec_int (by kernel_rfl)
theorem p3 (x : Int) : 1 ≤ vszL (e3 x) := by simp only [e3, vszL, vsz]; omega
abbrev D115 := (List UInt8) × Int × Int
def e115 (x : D115) : List V := [.str x.1, .int .i64 x.2.1, .int .i64 x.2.2]
def o115 (x : D115) : Prop := o9 x.1 ∧ o3 x.2.1 ∧ o3 x.2.2
theorem d115 (n : Nat) : Dec Try.prog 115 e115 o115 n := by
  intro cs hv hb
  obtain ⟨m, rfl, h⟩ := dec_struct (ts := [9, 3, 3]) (by kernel_rfl) hv
  obtain ⟨a0, r0, rfl, _, h0, a1, r1, rfl, _, h1, a2, r2, rfl, _, h2, rfl⟩ := h
  simp only [vszL_append] at hb
  obtain ⟨x0, rfl, q0⟩ := d9 m _ h0 (by omega)
  obtain ⟨x1, rfl, q1⟩ := d3 m _ h1 (by omega)
  obtain ⟨x2, rfl, q2⟩ := d3 m _ h2 (by omega)
  exact ⟨(x0, x1, x2), rfl, q0, q1, q2⟩
theorem p115 (x : D115) : 1 ≤ vszL (e115 x) := by simp only [e115, vszL, vsz]; omega
abbrev D55 := List D115 × Bool
def e55 (x : D55) : List V := [.sl (x.1.map e115) x.2 .no]
def o55 (x : D55) : Prop := OkS o115 x
theorem d55 (n : Nat) : Dec Try.prog 55 e55 o55 n := dec_slice (el := 115) (by kernel_rfl) p115 (fun m _ => d115 m)
theorem p55 (x : D55) : 1 ≤ vszL (e55 x) := by simp only [e55, vszL, vsz]; omega
abbrev e30 := eNmL
abbrev o30 := oNmL
theorem d30 (n : Nat) : Dec Try.prog 30 e30 o30 n := dNmL n
theorem p30 (x : Nms) : 1 ≤ vszL (e30 x) := pNmL x
abbrev e63 := eTypL
abbrev o63 := oTypL
theorem d63 (n : Nat) : Dec Try.prog 63 e63 o63 n := dTypL n
theorem p63 (x : Typs) : 1 ≤ vszL (e63 x) := pTypL x
abbrev D177 := (List UInt8) × Typs
def e177 (x : D177) : List V := [.str x.1, .sl (x.2.1.map eTyp) x.2.2 .no]
def o177 (x : D177) : Prop := o9 x.1 ∧ o63 x.2
theorem d177 (n : Nat) : Dec Try.prog 177 e177 o177 n := by
  intro cs hv hb
  obtain ⟨m, rfl, h⟩ := dec_struct (ts := [9, 63]) (by kernel_rfl) hv
  obtain ⟨a0, r0, rfl, _, h0, a1, r1, rfl, _, h1, rfl⟩ := h
  simp only [vszL_append] at hb
  obtain ⟨x0, rfl, q0⟩ := d9 m _ h0 (by omega)
  obtain ⟨x1, rfl, q1⟩ := d63 m _ h1 (by omega)
  exact ⟨(x0, x1), by simp only [e177, e9, e63, eVal_eq, eTyp_eq, eEx_eq, cTyp, cEx, eTypL, eNmL, List.cons_append, List.nil_append, List.append_nil], q0, q1⟩
theorem p177 (x : D177) : 1 ≤ vszL (e177 x) := by simp only [e177, vszL, vsz]; omega
abbrev D173 := List D177 × Bool
def e173 (x : D173) : List V := [.sl (x.1.map e177) x.2 .no]
def o173 (x : D173) : Prop := OkS o177 x
theorem d173 (n : Nat) : Dec Try.prog 173 e173 o173 n := dec_slice (el := 177) (by kernel_rfl) p177 (fun m _ => d177 m)
theorem p173 (x : D173) : 1 ≤ vszL (e173 x) := by simp only [e173, vszL, vsz]; omega
abbrev D175 := (List UInt8) × Nms × D173
def e175 (x : D175) : List V := [.str x.1, .sl (x.2.1.1.map eNm) x.2.1.2 .no, .sl (x.2.2.1.map e177) x.2.2.2 .no]
def o175 (x : D175) : Prop := o9 x.1 ∧ o30 x.2.1 ∧ o173 x.2.2
theorem d175 (n : Nat) : Dec Try.prog 175 e175 o175 n := by
  intro cs hv hb
  obtain ⟨m, rfl, h⟩ := dec_struct (ts := [9, 30, 173]) (by kernel_rfl) hv
  obtain ⟨a0, r0, rfl, _, h0, a1, r1, rfl, _, h1, a2, r2, rfl, _, h2, rfl⟩ := h
  simp only [vszL_append] at hb
  obtain ⟨x0, rfl, q0⟩ := d9 m _ h0 (by omega)
  obtain ⟨x1, rfl, q1⟩ := d30 m _ h1 (by omega)
  obtain ⟨x2, rfl, q2⟩ := d173 m _ h2 (by omega)
  exact ⟨(x0, x1, x2), by simp only [e175, e9, e30, e173, eVal_eq, eTyp_eq, eEx_eq, cTyp, cEx, eTypL, eNmL, List.cons_append, List.nil_append, List.append_nil], q0, q1, q2⟩
theorem p175 (x : D175) : 1 ≤ vszL (e175 x) := by simp only [e175, vszL, vsz]; omega
abbrev D56 := List D175 × Bool
def e56 (x : D56) : List V := [.sl (x.1.map e175) x.2 .no]
def o56 (x : D56) : Prop := OkS o175 x
theorem d56 (n : Nat) : Dec Try.prog 56 e56 o56 n := dec_slice (el := 175) (by kernel_rfl) p175 (fun m _ => d175 m)
theorem p56 (x : D56) : 1 ≤ vszL (e56 x) := by simp only [e56, vszL, vsz]; omega
abbrev e65 := eTyp
abbrev o65 := oTyp
theorem d65 (n : Nat) : Dec Try.prog 65 e65 o65 n := dTyp n
theorem p65 (x : Typ) : 1 ≤ vszL (e65 x) := pTyp x
abbrev e121 := eEx
abbrev o121 := oEx
theorem d121 (n : Nat) : Dec Try.prog 121 e121 o121 n := dEx n
theorem p121 (x : Ex) : 1 ≤ vszL (e121 x) := pEx x
abbrev D247 := (List UInt8) × Nms × Nms × Typs × Typ × Ex
def e247 (x : D247) : List V := [.str x.1, .sl (x.2.1.1.map eNm) x.2.1.2 .no, .sl (x.2.2.1.1.map eNm) x.2.2.1.2 .no, .sl (x.2.2.2.1.1.map eTyp) x.2.2.2.1.2 .no, .int .i64 x.2.2.2.2.1.kind, .str x.2.2.2.2.1.name, .sl (x.2.2.2.2.1.args.map eTyp) x.2.2.2.2.1.nl .no, .int .i64 x.2.2.2.2.2.kind, .int .i64 x.2.2.2.2.2.num, .str x.2.2.2.2.2.text, .sl (x.2.2.2.2.2.names.1.map eNm) x.2.2.2.2.2.names.2 .no, .sl (x.2.2.2.2.2.types.1.map eTyp) x.2.2.2.2.2.types.2 .no, .sl (x.2.2.2.2.2.args.map eEx) x.2.2.2.2.2.anl .no, .sl (x.2.2.2.2.2.arms.map eArm) x.2.2.2.2.2.mnl .no, .int .i64 x.2.2.2.2.2.pos]
def o247 (x : D247) : Prop := o9 x.1 ∧ o30 x.2.1 ∧ o30 x.2.2.1 ∧ o63 x.2.2.2.1 ∧ o65 x.2.2.2.2.1 ∧ o121 x.2.2.2.2.2
theorem d247 (n : Nat) : Dec Try.prog 247 e247 o247 n := by
  intro cs hv hb
  obtain ⟨m, rfl, h⟩ := dec_struct (ts := [9, 30, 30, 63, 65, 121]) (by kernel_rfl) hv
  obtain ⟨a0, r0, rfl, _, h0, a1, r1, rfl, _, h1, a2, r2, rfl, _, h2, a3, r3, rfl, _, h3, a4, r4, rfl, _, h4, a5, r5, rfl, _, h5, rfl⟩ := h
  simp only [vszL_append] at hb
  obtain ⟨x0, rfl, q0⟩ := d9 m _ h0 (by omega)
  obtain ⟨x1, rfl, q1⟩ := d30 m _ h1 (by omega)
  obtain ⟨x2, rfl, q2⟩ := d30 m _ h2 (by omega)
  obtain ⟨x3, rfl, q3⟩ := d63 m _ h3 (by omega)
  obtain ⟨x4, rfl, q4⟩ := d65 m _ h4 (by omega)
  obtain ⟨x5, rfl, q5⟩ := d121 m _ h5 (by omega)
  exact ⟨(x0, x1, x2, x3, x4, x5), by simp only [e247, e9, e30, e30, e63, e65, e121, eVal_eq, eTyp_eq, eEx_eq, cTyp, cEx, eTypL, eNmL, List.cons_append, List.nil_append, List.append_nil], q0, q1, q2, q3, q4, q5⟩
theorem p247 (x : D247) : 1 ≤ vszL (e247 x) := by simp only [e247, vszL, vsz]; omega
abbrev D59 := List D247 × Bool
def e59 (x : D59) : List V := [.sl (x.1.map e247) x.2 .no]
def o59 (x : D59) : Prop := OkS o247 x
theorem d59 (n : Nat) : Dec Try.prog 59 e59 o59 n := dec_slice (el := 247) (by kernel_rfl) p247 (fun m _ => d247 m)
theorem p59 (x : D59) : 1 ≤ vszL (e59 x) := by simp only [e59, vszL, vsz]; omega
abbrev D179 := (List UInt8) × D59
def e179 (x : D179) : List V := [.str x.1, .sl (x.2.1.map e247) x.2.2 .no]
def o179 (x : D179) : Prop := o9 x.1 ∧ o59 x.2
theorem d179 (n : Nat) : Dec Try.prog 179 e179 o179 n := by
  intro cs hv hb
  obtain ⟨m, rfl, h⟩ := dec_struct (ts := [9, 59]) (by kernel_rfl) hv
  obtain ⟨a0, r0, rfl, _, h0, a1, r1, rfl, _, h1, rfl⟩ := h
  simp only [vszL_append] at hb
  obtain ⟨x0, rfl, q0⟩ := d9 m _ h0 (by omega)
  obtain ⟨x1, rfl, q1⟩ := d59 m _ h1 (by omega)
  exact ⟨(x0, x1), rfl, q0, q1⟩
theorem p179 (x : D179) : 1 ≤ vszL (e179 x) := by simp only [e179, vszL, vsz]; omega
abbrev D57 := List D179 × Bool
def e57 (x : D57) : List V := [.sl (x.1.map e179) x.2 .no]
def o57 (x : D57) : Prop := OkS o179 x
theorem d57 (n : Nat) : Dec Try.prog 57 e57 o57 n := dec_slice (el := 179) (by kernel_rfl) p179 (fun m _ => d179 m)
theorem p57 (x : D57) : 1 ≤ vszL (e57 x) := by simp only [e57, vszL, vsz]; omega
abbrev D181 := (List UInt8) × (List UInt8) × D59
def e181 (x : D181) : List V := [.str x.1, .str x.2.1, .sl (x.2.2.1.map e247) x.2.2.2 .no]
def o181 (x : D181) : Prop := o9 x.1 ∧ o9 x.2.1 ∧ o59 x.2.2
theorem d181 (n : Nat) : Dec Try.prog 181 e181 o181 n := by
  intro cs hv hb
  obtain ⟨m, rfl, h⟩ := dec_struct (ts := [9, 9, 59]) (by kernel_rfl) hv
  obtain ⟨a0, r0, rfl, _, h0, a1, r1, rfl, _, h1, a2, r2, rfl, _, h2, rfl⟩ := h
  simp only [vszL_append] at hb
  obtain ⟨x0, rfl, q0⟩ := d9 m _ h0 (by omega)
  obtain ⟨x1, rfl, q1⟩ := d9 m _ h1 (by omega)
  obtain ⟨x2, rfl, q2⟩ := d59 m _ h2 (by omega)
  exact ⟨(x0, x1, x2), rfl, q0, q1, q2⟩
theorem p181 (x : D181) : 1 ≤ vszL (e181 x) := by simp only [e181, vszL, vsz]; omega
abbrev D58 := List D181 × Bool
def e58 (x : D58) : List V := [.sl (x.1.map e181) x.2 .no]
def o58 (x : D58) : Prop := OkS o181 x
theorem d58 (n : Nat) : Dec Try.prog 58 e58 o58 n := dec_slice (el := 181) (by kernel_rfl) p181 (fun m _ => d181 m)
theorem p58 (x : D58) : 1 ≤ vszL (e58 x) := by simp only [e58, vszL, vsz]; omega
abbrev D123 := (List UInt8) × Nms × Typs × Typ × Ex
def e123 (x : D123) : List V := [.str x.1, .sl (x.2.1.1.map eNm) x.2.1.2 .no, .sl (x.2.2.1.1.map eTyp) x.2.2.1.2 .no, .int .i64 x.2.2.2.1.kind, .str x.2.2.2.1.name, .sl (x.2.2.2.1.args.map eTyp) x.2.2.2.1.nl .no, .int .i64 x.2.2.2.2.kind, .int .i64 x.2.2.2.2.num, .str x.2.2.2.2.text, .sl (x.2.2.2.2.names.1.map eNm) x.2.2.2.2.names.2 .no, .sl (x.2.2.2.2.types.1.map eTyp) x.2.2.2.2.types.2 .no, .sl (x.2.2.2.2.args.map eEx) x.2.2.2.2.anl .no, .sl (x.2.2.2.2.arms.map eArm) x.2.2.2.2.mnl .no, .int .i64 x.2.2.2.2.pos]
def o123 (x : D123) : Prop := o9 x.1 ∧ o30 x.2.1 ∧ o63 x.2.2.1 ∧ o65 x.2.2.2.1 ∧ o121 x.2.2.2.2
theorem d123 (n : Nat) : Dec Try.prog 123 e123 o123 n := by
  intro cs hv hb
  obtain ⟨m, rfl, h⟩ := dec_struct (ts := [9, 30, 63, 65, 121]) (by kernel_rfl) hv
  obtain ⟨a0, r0, rfl, _, h0, a1, r1, rfl, _, h1, a2, r2, rfl, _, h2, a3, r3, rfl, _, h3, a4, r4, rfl, _, h4, rfl⟩ := h
  simp only [vszL_append] at hb
  obtain ⟨x0, rfl, q0⟩ := d9 m _ h0 (by omega)
  obtain ⟨x1, rfl, q1⟩ := d30 m _ h1 (by omega)
  obtain ⟨x2, rfl, q2⟩ := d63 m _ h2 (by omega)
  obtain ⟨x3, rfl, q3⟩ := d65 m _ h3 (by omega)
  obtain ⟨x4, rfl, q4⟩ := d121 m _ h4 (by omega)
  exact ⟨(x0, x1, x2, x3, x4), by simp only [e123, e9, e30, e63, e65, e121, eVal_eq, eTyp_eq, eEx_eq, cTyp, cEx, eTypL, eNmL, List.cons_append, List.nil_append, List.append_nil], q0, q1, q2, q3, q4⟩
theorem p123 (x : D123) : 1 ≤ vszL (e123 x) := by simp only [e123, vszL, vsz]; omega
abbrev D60 := List D123 × Bool
def e60 (x : D60) : List V := [.sl (x.1.map e123) x.2 .no]
def o60 (x : D60) : Prop := OkS o123 x
theorem d60 (n : Nat) : Dec Try.prog 60 e60 o60 n := dec_slice (el := 123) (by kernel_rfl) p123 (fun m _ => d123 m)
theorem p60 (x : D60) : 1 ≤ vszL (e60 x) := by simp only [e60, vszL, vsz]; omega
abbrev D62 := (List UInt8) × Int × D55 × D56 × D57 × D58 × D59 × D60
def e62 (x : D62) : List V := [.str x.1, .int .i64 x.2.1, .sl (x.2.2.1.1.map e115) x.2.2.1.2 .no, .sl (x.2.2.2.1.1.map e175) x.2.2.2.1.2 .no, .sl (x.2.2.2.2.1.1.map e179) x.2.2.2.2.1.2 .no, .sl (x.2.2.2.2.2.1.1.map e181) x.2.2.2.2.2.1.2 .no, .sl (x.2.2.2.2.2.2.1.1.map e247) x.2.2.2.2.2.2.1.2 .no, .sl (x.2.2.2.2.2.2.2.1.map e123) x.2.2.2.2.2.2.2.2 .no]
def o62 (x : D62) : Prop := o9 x.1 ∧ o3 x.2.1 ∧ o55 x.2.2.1 ∧ o56 x.2.2.2.1 ∧ o57 x.2.2.2.2.1 ∧ o58 x.2.2.2.2.2.1 ∧ o59 x.2.2.2.2.2.2.1 ∧ o60 x.2.2.2.2.2.2.2
theorem d62 (n : Nat) : Dec Try.prog 62 e62 o62 n := by
  intro cs hv hb
  obtain ⟨m, rfl, h⟩ := dec_struct (ts := [9, 3, 55, 56, 57, 58, 59, 60]) (by kernel_rfl) hv
  obtain ⟨a0, r0, rfl, _, h0, a1, r1, rfl, _, h1, a2, r2, rfl, _, h2, a3, r3, rfl, _, h3, a4, r4, rfl, _, h4, a5, r5, rfl, _, h5, a6, r6, rfl, _, h6, a7, r7, rfl, _, h7, rfl⟩ := h
  simp only [vszL_append] at hb
  obtain ⟨x0, rfl, q0⟩ := d9 m _ h0 (by omega)
  obtain ⟨x1, rfl, q1⟩ := d3 m _ h1 (by omega)
  obtain ⟨x2, rfl, q2⟩ := d55 m _ h2 (by omega)
  obtain ⟨x3, rfl, q3⟩ := d56 m _ h3 (by omega)
  obtain ⟨x4, rfl, q4⟩ := d57 m _ h4 (by omega)
  obtain ⟨x5, rfl, q5⟩ := d58 m _ h5 (by omega)
  obtain ⟨x6, rfl, q6⟩ := d59 m _ h6 (by omega)
  obtain ⟨x7, rfl, q7⟩ := d60 m _ h7 (by omega)
  exact ⟨(x0, x1, x2, x3, x4, x5, x6, x7), rfl, q0, q1, q2, q3, q4, q5, q6, q7⟩
theorem p62 (x : D62) : 1 ≤ vszL (e62 x) := by simp only [e62, vszL, vsz]; omega
end Go.Proofs.Ytomjghlaoncpbaa
