/- api.Type, api.Pat, api.Expr as data; what is known of any of them of no more bulk than a statement allows. No conditions. -/
import Derived.Test.YtomjghlaoncpbaaVal
set_option linter.unusedSimpArgs false
set_option linter.unusedVariables false
namespace Go.Proofs.Ytomjghlaoncpbaa
open Go.Proofs.YtomjghlaoncpbaaV
set_option maxRecDepth 100000
/-! ### types -/
inductive Typ where
  | mk (kind : Int) (name : List UInt8) (args : List Typ) (nl : Bool)
namespace Typ
def kind : Typ → Int | mk k _ _ _ => k
def name : Typ → List UInt8 | mk _ n _ _ => n
def args : Typ → List Typ | mk _ _ a _ => a
def nl : Typ → Bool | mk _ _ _ b => b
end Typ
instance : Inhabited Typ := ⟨.mk 0 [] [] true⟩
mutual
def eTyp : Typ → List V | .mk k n ar nl => [.int .i64 k, .str n, .sl (eTyps ar) nl .no]
def eTyps : List Typ → List (List V) | [] => [] | v :: vs => eTyp v :: eTyps vs
end
mutual
def Typ.sz : Typ → Nat | .mk _ _ ar _ => 1 + tszs ar
def tszs : List Typ → Nat | [] => 0 | v :: vs => v.sz + tszs vs
end
theorem eTyps_map : ∀ vs, eTyps vs = vs.map eTyp
  | [] => rfl
  | v :: vs => by rw [eTyps, eTyps_map vs]; rfl
abbrev cTyp (v : Typ) : List V := [.int .i64 v.kind, .str v.name, .sl (v.args.map eTyp) v.nl .no]
theorem eTyp_eq (v : Typ) : eTyp v = cTyp v := by
  cases v; rw [eTyp, eTyps_map]; rfl
theorem tszs_mem {v : Typ} : ∀ {vs : List Typ}, v ∈ vs → v.sz ≤ tszs vs
  | u :: vs, h => by
    simp only [tszs]
    rcases List.mem_cons.1 h with rfl | h
    · omega
    · have := tszs_mem h; omega
theorem Typ.sz_eq (v : Typ) : v.sz = 1 + tszs v.args := by cases v; rw [Typ.sz]; rfl
theorem tszs_append : ∀ a b : List Typ, tszs (a ++ b) = tszs a + tszs b
  | [], b => by simp [tszs]
  | v :: a, b => by simp only [List.cons_append, tszs, tszs_append a b]; omega
theorem tszs_len : ∀ vs : List Typ, vs.length ≤ tszs vs
  | [] => by simp [tszs]
  | v :: vs => by have := tszs_len vs; have := v.sz_eq; simp only [tszs, List.length_cons]; omega
theorem Typ.sz_args {v a : Typ} (h : a ∈ v.args) : a.sz < v.sz := by have := tszs_mem h; have := v.sz_eq; omega
inductive OkTyp : Typ → Prop
  | mk {k : Int} {t : List UInt8} {ar : List Typ} {nl : Bool} (hk : IntKind.i64.min ≤ k ∧ k ≤ IntKind.i64.max) (ht : t.length ≤ bulk) (hnl : nl = true → ar = []) (hl : ar.length ≤ bulk) (ha : ∀ a ∈ ar, OkTyp a) : OkTyp (.mk k t ar nl)
theorem OkTyp.name {v : Typ} (h : OkTyp v) : v.name.length ≤ bulk := by cases h; assumption
theorem OkTyp.len {v : Typ} (h : OkTyp v) : v.args.length ≤ bulk := by cases h; assumption
theorem OkTyp.nil {v : Typ} (h : OkTyp v) : v.nl = true → v.args = [] := by cases h; assumption
theorem OkTyp.arg {v a : Typ} (h : OkTyp v) (ha : a ∈ v.args) : OkTyp a := by cases h; rename_i ha'; exact ha' a ha
theorem OkTyp.kind {v : Typ} (h : OkTyp v) : IntKind.i64.min ≤ v.kind ∧ v.kind ≤ IntKind.i64.max := by cases h; assumption
def oTyp (v : Typ) : Prop := OkTyp v ∧ v.sz ≤ bulk
theorem oTyp.arg {v a : Typ} (h : oTyp v) (ha : a ∈ v.args) : oTyp a := ⟨h.1.arg ha, Nat.le_trans (Nat.le_of_lt (Typ.sz_args ha)) h.2⟩
mutual
theorem tsz_le : ∀ v : Typ, v.sz ≤ vszL (eTyp v)
  | .mk k n ar nl => by have := tszs_le ar; simp only [Typ.sz, eTyp, vszL, vsz]; omega
theorem tszs_le : ∀ vs : List Typ, tszs vs ≤ vszLL (eTyps vs)
  | [] => by simp [tszs]
  | v :: vs => by have := tsz_le v; have := tszs_le vs; simp only [tszs, eTyps, vszLL]; omega
end
theorem pTyp (v : Typ) : 1 ≤ vszL (eTyp v) := by have := tsz_le v; have := v.sz_eq; omega
theorem dTyp0 : ∀ n, Dec Try.prog 65 eTyp OkTyp n := by
  intro n
  induction n using Nat.strongRecOn with
  | _ n ih =>
    intro cs hv hb
    obtain ⟨m, rfl, h⟩ := dec_struct (ts := [3, 9, 63]) (by kernel_rfl) hv
    obtain ⟨a0, r0, rfl, _, h0, a2, r2, rfl, _, h2, a3, r3, rfl, _, h3, rfl⟩ := h
    simp only [vszL_append] at hb
    obtain ⟨x0, rfl, q0⟩ := dec_int (n := m) (k := .i64) (by kernel_rfl) _ h0 (by omega)
    obtain ⟨x2, rfl, q2⟩ := dec_str (n := m) (by kernel_rfl) _ h2 (by omega)
    obtain ⟨x3, rfl, q3, q4, q5⟩ := dec_slice (n := m) (el := 65) (by kernel_rfl) pTyp (fun k hk => ih k (by omega)) _ h3 (by omega)
    exact ⟨.mk x0 x2 x3.1 x3.2, by rw [eTyp_eq]; rfl, .mk q0 q2 q3 q4 q5⟩
theorem dTyp (n : Nat) : Dec Try.prog 65 eTyp oTyp n := fun cs hv hb => by
  obtain ⟨x, rfl, h⟩ := dTyp0 n cs hv hb
  exact ⟨x, rfl, h, Nat.le_trans (tsz_le x) hb⟩
/-- Lists of types. -/
abbrev Typs := List Typ × Bool
def eTypL (x : Typs) : List V := [.sl (x.1.map eTyp) x.2 .no]
def oTypL (x : Typs) : Prop := (x.2 = true → x.1 = []) ∧ tszs x.1 ≤ bulk ∧ ∀ t ∈ x.1, OkTyp t
theorem pTypL (x : Typs) : 1 ≤ vszL (eTypL x) := by simp only [eTypL, vszL, vsz]; omega
theorem dTypL (n : Nat) : Dec Try.prog 63 eTypL oTypL n := fun cs hv hb => by
  obtain ⟨x, rfl, h1, h2, h3⟩ := dec_slice (el := 65) (by kernel_rfl) pTyp (fun k _ => dTyp0 k) cs hv hb
  refine ⟨x, rfl, h1, ?_, h3⟩
  have := tszs_le x.1
  rw [eTyps_map] at this
  simp only [vszL, vsz] at hb
  omega
theorem oTypL.mem {x : Typs} (h : oTypL x) {t : Typ} (ht : t ∈ x.1) : oTyp t := ⟨h.2.2 t ht, Nat.le_trans (tszs_mem ht) h.2.1⟩
theorem oTypL.len {x : Typs} (h : oTypL x) : x.1.length ≤ bulk := Nat.le_trans (tszs_len _) h.2.1
/-! ### patterns -/
inductive Pat where
  | mk (kind num : Int) (text : List UInt8) (args : List Pat) (nl : Bool)
namespace Pat
def kind : Pat → Int | mk k _ _ _ _ => k
def num : Pat → Int | mk _ n _ _ _ => n
def text : Pat → List UInt8 | mk _ _ t _ _ => t
def args : Pat → List Pat | mk _ _ _ a _ => a
def nl : Pat → Bool | mk _ _ _ _ b => b
end Pat
instance : Inhabited Pat := ⟨.mk 0 0 [] [] true⟩
mutual
def ePat : Pat → List V | .mk k n t ar nl => [.int .i64 k, .int .i64 n, .str t, .sl (ePats ar) nl .no]
def ePats : List Pat → List (List V) | [] => [] | v :: vs => ePat v :: ePats vs
end
mutual
def Pat.sz : Pat → Nat | .mk _ _ _ ar _ => 1 + pszs ar
def pszs : List Pat → Nat | [] => 0 | v :: vs => v.sz + pszs vs
end
theorem ePats_map : ∀ vs, ePats vs = vs.map ePat
  | [] => rfl
  | v :: vs => by rw [ePats, ePats_map vs]; rfl
abbrev cPat (v : Pat) : List V := [.int .i64 v.kind, .int .i64 v.num, .str v.text, .sl (v.args.map ePat) v.nl .no]
theorem ePat_eq (v : Pat) : ePat v = cPat v := by
  cases v; rw [ePat, ePats_map]; rfl
theorem pszs_mem {v : Pat} : ∀ {vs : List Pat}, v ∈ vs → v.sz ≤ pszs vs
  | u :: vs, h => by
    simp only [pszs]
    rcases List.mem_cons.1 h with rfl | h
    · omega
    · have := pszs_mem h; omega
theorem Pat.sz_eq (v : Pat) : v.sz = 1 + pszs v.args := by cases v; rw [Pat.sz]; rfl
theorem pszs_append : ∀ a b : List Pat, pszs (a ++ b) = pszs a + pszs b
  | [], b => by simp [pszs]
  | v :: a, b => by simp only [List.cons_append, pszs, pszs_append a b]; omega
theorem pszs_len : ∀ vs : List Pat, vs.length ≤ pszs vs
  | [] => by simp [pszs]
  | v :: vs => by have := pszs_len vs; have := v.sz_eq; simp only [pszs, List.length_cons]; omega
theorem Pat.sz_args {v a : Pat} (h : a ∈ v.args) : a.sz < v.sz := by have := pszs_mem h; have := v.sz_eq; omega
inductive OkPat : Pat → Prop
  | mk {k n : Int} {t : List UInt8} {ar : List Pat} {nl : Bool} (hk : IntKind.i64.min ≤ k ∧ k ≤ IntKind.i64.max) (hn : IntKind.i64.min ≤ n ∧ n ≤ IntKind.i64.max) (ht : t.length ≤ bulk) (hnl : nl = true → ar = []) (hl : ar.length ≤ bulk) (ha : ∀ a ∈ ar, OkPat a) : OkPat (.mk k n t ar nl)
theorem OkPat.text {v : Pat} (h : OkPat v) : v.text.length ≤ bulk := by cases h; assumption
theorem OkPat.len {v : Pat} (h : OkPat v) : v.args.length ≤ bulk := by cases h; assumption
theorem OkPat.arg {v a : Pat} (h : OkPat v) (ha : a ∈ v.args) : OkPat a := by cases h; rename_i ha'; exact ha' a ha
mutual
theorem psz_le : ∀ v : Pat, v.sz ≤ vszL (ePat v)
  | .mk k n t ar nl => by have := pszs_le ar; simp only [Pat.sz, ePat, vszL, vsz]; omega
theorem pszs_le : ∀ vs : List Pat, pszs vs ≤ vszLL (ePats vs)
  | [] => by simp [pszs]
  | v :: vs => by have := psz_le v; have := pszs_le vs; simp only [pszs, ePats, vszLL]; omega
end
theorem pPat (v : Pat) : 1 ≤ vszL (ePat v) := by have := psz_le v; have := v.sz_eq; omega
theorem dPat0 : ∀ n, Dec Try.prog 135 ePat OkPat n := by
  intro n
  induction n using Nat.strongRecOn with
  | _ n ih =>
    intro cs hv hb
    obtain ⟨m, rfl, h⟩ := dec_struct (ts := [3, 3, 9, 133]) (by kernel_rfl) hv
    obtain ⟨a0, r0, rfl, _, h0, a1, r1, rfl, _, h1, a2, r2, rfl, _, h2, a3, r3, rfl, _, h3, rfl⟩ := h
    simp only [vszL_append] at hb
    obtain ⟨x0, rfl, q0⟩ := dec_int (n := m) (k := .i64) (by kernel_rfl) _ h0 (by omega)
    obtain ⟨x1, rfl, q1⟩ := dec_int (n := m) (k := .i64) (by kernel_rfl) _ h1 (by omega)
    obtain ⟨x2, rfl, q2⟩ := dec_str (n := m) (by kernel_rfl) _ h2 (by omega)
    obtain ⟨x3, rfl, q3, q4, q5⟩ := dec_slice (n := m) (el := 135) (by kernel_rfl) pPat (fun k hk => ih k (by omega)) _ h3 (by omega)
    exact ⟨.mk x0 x1 x2 x3.1 x3.2, by rw [ePat_eq]; rfl, .mk q0 q1 q2 q3 q4 q5⟩
/-! ### expressions -/
def eNm (s : List UInt8) : List V := [.str s]
theorem pNm (s : List UInt8) : 1 ≤ vszL (eNm s) := by simp only [eNm, vszL, vsz]; omega
abbrev Nms := List (List UInt8) × Bool
def eNmL (x : Nms) : List V := [.sl (x.1.map eNm) x.2 .no]
def oNmL (x : Nms) : Prop := (x.2 = true → x.1 = []) ∧ x.1.length ≤ bulk ∧ ∀ s ∈ x.1, s.length ≤ bulk
theorem pNmL (x : Nms) : 1 ≤ vszL (eNmL x) := by simp only [eNmL, vszL, vsz]; omega
theorem dNmL (n : Nat) : Dec Try.prog 30 eNmL oNmL n := dec_slice (el := 9) (by kernel_rfl) pNm (fun k _ => dec_str (by kernel_rfl))
mutual
inductive Ex where
  | mk (kind num : Int) (text : List UInt8) (names : Nms) (types : Typs) (args : List Ex) (anl : Bool) (arms : List Arm) (mnl : Bool) (at_ : Int)
inductive Arm where
  | mk (pat : Pat) (body : Ex)
end
namespace Ex
def kind : Ex → Int | mk k _ _ _ _ _ _ _ _ _ => k
def num : Ex → Int | mk _ n _ _ _ _ _ _ _ _ => n
def text : Ex → List UInt8 | mk _ _ t _ _ _ _ _ _ _ => t
def names : Ex → Nms | mk _ _ _ n _ _ _ _ _ _ => n
def types : Ex → Typs | mk _ _ _ _ t _ _ _ _ _ => t
def args : Ex → List Ex | mk _ _ _ _ _ a _ _ _ _ => a
def anl : Ex → Bool | mk _ _ _ _ _ _ b _ _ _ => b
def arms : Ex → List Arm | mk _ _ _ _ _ _ _ m _ _ => m
def mnl : Ex → Bool | mk _ _ _ _ _ _ _ _ b _ => b
def pos : Ex → Int | mk _ _ _ _ _ _ _ _ _ a => a
end Ex
namespace Arm
def pat : Arm → Pat | mk p _ => p
def body : Arm → Ex | mk _ b => b
end Arm
instance : Inhabited Ex := ⟨.mk 0 0 [] ([], true) ([], true) [] true [] true 0⟩
mutual
def eEx : Ex → List V | .mk k n t nm ty ar anl ms mnl p => [.int .i64 k, .int .i64 n, .str t, .sl (nm.1.map eNm) nm.2 .no, .sl (ty.1.map eTyp) ty.2 .no, .sl (eExs ar) anl .no, .sl (eArms ms) mnl .no, .int .i64 p]
def eExs : List Ex → List (List V) | [] => [] | v :: vs => eEx v :: eExs vs
def eArm : Arm → List V | .mk p b => ePat p ++ eEx b
def eArms : List Arm → List (List V) | [] => [] | v :: vs => eArm v :: eArms vs
end
theorem eExs_map : ∀ vs, eExs vs = vs.map eEx
  | [] => rfl
  | v :: vs => by rw [eExs, eExs_map vs]; rfl
theorem eArms_map : ∀ vs, eArms vs = vs.map eArm
  | [] => rfl
  | v :: vs => by rw [eArms, eArms_map vs]; rfl
abbrev cEx (v : Ex) : List V := [.int .i64 v.kind, .int .i64 v.num, .str v.text, .sl (v.names.1.map eNm) v.names.2 .no, .sl (v.types.1.map eTyp) v.types.2 .no, .sl (v.args.map eEx) v.anl .no, .sl (v.arms.map eArm) v.mnl .no, .int .i64 v.pos]
theorem eEx_eq (v : Ex) : eEx v = cEx v := by
  cases v; rw [eEx, eExs_map, eArms_map]; rfl
theorem eArm_eq (m : Arm) : eArm m = cPat m.pat ++ cEx m.body := by
  cases m; rw [eArm, ePat_eq, eEx_eq]; rfl
mutual
def Ex.sz : Ex → Nat | .mk _ _ _ _ _ ar _ ms _ _ => 1 + exszs ar + amszs ms
def exszs : List Ex → Nat | [] => 0 | v :: vs => v.sz + exszs vs
def Arm.sz : Arm → Nat | .mk p b => p.sz + b.sz
def amszs : List Arm → Nat | [] => 0 | v :: vs => v.sz + amszs vs
end
theorem Ex.sz_eq (v : Ex) : v.sz = 1 + exszs v.args + amszs v.arms := by cases v; rw [Ex.sz]; rfl
theorem Arm.sz_eq (v : Arm) : v.sz = v.pat.sz + v.body.sz := by cases v; rw [Arm.sz]; rfl
theorem exszs_append : ∀ a b : List Ex, exszs (a ++ b) = exszs a + exszs b
  | [], b => by simp [exszs]
  | v :: a, b => by simp only [List.cons_append, exszs, exszs_append a b]; omega
theorem exszs_len : ∀ vs : List Ex, vs.length ≤ exszs vs
  | [] => by simp [exszs]
  | v :: vs => by have := exszs_len vs; have := v.sz_eq; simp only [exszs, List.length_cons]; omega
theorem amszs_len : ∀ vs : List Arm, vs.length ≤ amszs vs
  | [] => by simp [amszs]
  | v :: vs => by have := amszs_len vs; have := v.sz_eq; have := v.pat.sz_eq; simp only [amszs, List.length_cons]; omega
inductive OkEx : Ex → Prop
  | mk {k n : Int} {t : List UInt8} {nm : Nms} {ty : Typs} {ar : List Ex} {anl : Bool} {ms : List Arm} {mnl : Bool} {p : Int} (hk : IntKind.i64.min ≤ k ∧ k ≤ IntKind.i64.max) (hn : IntKind.i64.min ≤ n ∧ n ≤ IntKind.i64.max) (ht : t.length ≤ bulk) (hnm : oNmL nm) (hty : oTypL ty) (hnl : anl = true → ar = []) (hl : ar.length ≤ bulk) (ha : ∀ a ∈ ar, OkEx a) (hml : mnl = true → ms = []) (hmn : ms.length ≤ bulk) (hp : ∀ m ∈ ms, OkPat m.pat) (hm : ∀ m ∈ ms, OkEx m.body) (hat : IntKind.i64.min ≤ p ∧ p ≤ IntKind.i64.max) : OkEx (.mk k n t nm ty ar anl ms mnl p)
theorem OkEx.types {v : Ex} (h : OkEx v) : oTypL v.types := by cases h; assumption
theorem OkEx.names {v : Ex} (h : OkEx v) : oNmL v.names := by cases h; assumption
theorem OkEx.text {v : Ex} (h : OkEx v) : v.text.length ≤ bulk := by cases h; assumption
theorem OkEx.kind {v : Ex} (h : OkEx v) : IntKind.i64.min ≤ v.kind ∧ v.kind ≤ IntKind.i64.max := by cases h; assumption
theorem OkEx.num {v : Ex} (h : OkEx v) : IntKind.i64.min ≤ v.num ∧ v.num ≤ IntKind.i64.max := by cases h; assumption
theorem OkEx.pos {v : Ex} (h : OkEx v) : IntKind.i64.min ≤ v.pos ∧ v.pos ≤ IntKind.i64.max := by cases h; assumption
theorem OkEx.len {v : Ex} (h : OkEx v) : v.args.length ≤ bulk := by cases h; assumption
theorem OkEx.mlen {v : Ex} (h : OkEx v) : v.arms.length ≤ bulk := by cases h; assumption
theorem OkEx.nil {v : Ex} (h : OkEx v) : v.anl = true → v.args = [] := by cases h; assumption
theorem OkEx.arg {v a : Ex} (h : OkEx v) (ha : a ∈ v.args) : OkEx a := by cases h; rename_i ha' _ _ _ _ _; exact ha' a ha
theorem OkEx.pat {v : Ex} {m : Arm} (h : OkEx v) (hm : m ∈ v.arms) : OkPat m.pat := by cases h; rename_i h1 h2 h3; exact h1 m hm
theorem OkEx.body {v : Ex} {m : Arm} (h : OkEx v) (hm : m ∈ v.arms) : OkEx m.body := by cases h; rename_i h1 h2 h3; exact h2 m hm
def oEx (v : Ex) : Prop := OkEx v ∧ v.sz ≤ bulk
mutual
theorem exsz_le : ∀ v : Ex, v.sz ≤ vszL (eEx v)
  | .mk k n t nm ty ar anl ms mnl p => by have := exszs_le ar; have := amszs_le ms; simp only [Ex.sz, eEx, vszL, vsz]; omega
theorem exszs_le : ∀ vs : List Ex, exszs vs ≤ vszLL (eExs vs)
  | [] => by simp [exszs]
  | v :: vs => by have := exsz_le v; have := exszs_le vs; simp only [exszs, eExs, vszLL]; omega
theorem amsz_le : ∀ v : Arm, v.sz ≤ vszL (eArm v)
  | .mk p b => by have := psz_le p; have := exsz_le b; simp only [Arm.sz, eArm, vszL_append]; omega
theorem amszs_le : ∀ vs : List Arm, amszs vs ≤ vszLL (eArms vs)
  | [] => by simp [amszs]
  | v :: vs => by have := amsz_le v; have := amszs_le vs; simp only [amszs, eArms, vszLL]; omega
end
theorem pEx (v : Ex) : 1 ≤ vszL (eEx v) := by have := exsz_le v; have := v.sz_eq; omega
theorem pArm (v : Arm) : 1 ≤ vszL (eArm v) := by have := amsz_le v; have := v.sz_eq; have := v.pat.sz_eq; omega
theorem dEx0 : ∀ n, Dec Try.prog 121 eEx OkEx n := by
  intro n
  induction n using Nat.strongRecOn with
  | _ n ih =>
    intro cs hv hb
    obtain ⟨m, rfl, h⟩ := dec_struct (ts := [3, 3, 9, 30, 63, 118, 119, 3]) (by kernel_rfl) hv
    obtain ⟨a0, r0, rfl, _, h0, a1, r1, rfl, _, h1, a2, r2, rfl, _, h2, a3, r3, rfl, _, h3, a4, r4, rfl, _, h4, a5, r5, rfl, _, h5, a6, r6, rfl, _, h6, a7, r7, rfl, _, h7, rfl⟩ := h
    simp only [vszL_append] at hb
    obtain ⟨x0, rfl, q0⟩ := dec_int (n := m) (k := .i64) (by kernel_rfl) _ h0 (by omega)
    obtain ⟨x1, rfl, q1⟩ := dec_int (n := m) (k := .i64) (by kernel_rfl) _ h1 (by omega)
    obtain ⟨x2, rfl, q2⟩ := dec_str (n := m) (by kernel_rfl) _ h2 (by omega)
    obtain ⟨x3, rfl, q3⟩ := dNmL m _ h3 (by omega)
    obtain ⟨x4, rfl, q4⟩ := dTypL m _ h4 (by omega)
    obtain ⟨x5, rfl, q5, q6, q7⟩ := dec_slice (n := m) (el := 121) (by kernel_rfl) pEx (fun k hk => ih k (by omega)) _ h5 (by omega)
    obtain ⟨x6, rfl, q8, q9, q10⟩ := dec_slice (n := m) (el := 249) (e := eArm) (o := fun m => OkPat m.pat ∧ OkEx m.body) (by kernel_rfl) pArm (fun k hk => by
      intro cs hv hb
      obtain ⟨m2, rfl, h⟩ := dec_struct (ts := [135, 121]) (by kernel_rfl) hv
      obtain ⟨a0, r0, rfl, _, h0, a1, r1, rfl, _, h1, rfl⟩ := h
      simp only [vszL_append] at hb
      obtain ⟨x0, rfl, q0⟩ := dPat0 m2 _ h0 (by omega)
      obtain ⟨x1, rfl, q1⟩ := ih m2 (by omega) _ h1 (by omega)
      exact ⟨.mk x0 x1, by rw [eArm, List.append_nil], q0, q1⟩) _ h6 (by omega)
    obtain ⟨x7, rfl, q11⟩ := dec_int (n := m) (k := .i64) (by kernel_rfl) _ h7 (by omega)
    exact ⟨.mk x0 x1 x2 x3 x4 x5.1 x5.2 x6.1 x6.2 x7, by rw [eEx_eq]; rfl, .mk q0 q1 q2 q3 q4 q5 q6 q7 q8 q9 (fun m hm => (q10 m hm).1) (fun m hm => (q10 m hm).2) q11⟩
theorem dEx (n : Nat) : Dec Try.prog 121 eEx oEx n := fun cs hv hb => by
  obtain ⟨x, rfl, h⟩ := dEx0 n cs hv hb
  exact ⟨x, rfl, h, Nat.le_trans (exsz_le x) hb⟩
end Go.Proofs.Ytomjghlaoncpbaa
