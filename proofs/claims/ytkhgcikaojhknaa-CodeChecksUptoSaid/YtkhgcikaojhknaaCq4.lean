/- Part 4 of a proof laid in parts; each part's own comment says what it proves and under which conditions. -/
import Derived.Test.YtkhgcikaojhknaaCq3
/- api.Type, api.Pat, api.Expr as data; what is known of any of them of no more bulk than a statement allows. No conditions. -/
set_option linter.unusedSimpArgs false
set_option linter.unusedVariables false
namespace Go.Proofs.Ytkhgcikaojhknaa
open Go.Proofs.YtkhgcikaojhknaaV
set_option maxRecDepth 100000
/-! ### types -/
inductive Typ where
  | mk (kind : Int) (name : List UInt8) (args : List Typ) (nl : Bool)
namespace Typ
def kind : Typ → Int | mk k _ _ _ => k
def name : Typ → List UInt8 | mk _ n _ _ => n
def args : Typ → List Typ | mk _ _ a _ => a
def nl : Typ → Bool | mk _ _ _ b => b
end Typ
instance : Inhabited Typ := ⟨.mk 0 [] [] true⟩
mutual
def eTyp : Typ → List V | .mk k n ar nl => [.int .i64 k, .str n, .sl (eTyps ar) nl .no]
def eTyps : List Typ → List (List V) | [] => [] | v :: vs => eTyp v :: eTyps vs
end
mutual
def Typ.sz : Typ → Nat | .mk _ _ ar _ => 1 + tszs ar
def tszs : List Typ → Nat | [] => 0 | v :: vs => v.sz + tszs vs
end
theorem eTyps_map : ∀ vs, eTyps vs = vs.map eTyp
  | [] => rfl
  | v :: vs => by rw [eTyps, eTyps_map vs]; rfl
abbrev cTyp (v : Typ) : List V := [.int .i64 v.kind, .str v.name, .sl (v.args.map eTyp) v.nl .no]
theorem eTyp_eq (v : Typ) : eTyp v = cTyp v := by
  cases v; rw [eTyp, eTyps_map]; rfl
theorem tszs_mem {v : Typ} : ∀ {vs : List Typ}, v ∈ vs → v.sz ≤ tszs vs
  | u :: vs, h => by
    simp only [tszs]
    rcases List.mem_cons.1 h with rfl | h
    · omega
    · have := tszs_mem h; omega
theorem Typ.sz_eq (v : Typ) : v.sz = 1 + tszs v.args := by cases v; rw [Typ.sz]; rfl
theorem tszs_append : ∀ a b : List Typ, tszs (a ++ b) = tszs a + tszs b
  | [], b => by simp [tszs]
  | v :: a, b => by simp only [List.cons_append, tszs, tszs_append a b]; omega
theorem tszs_len : ∀ vs : List Typ, vs.length ≤ tszs vs
  | [] => by simp [tszs]
  | v :: vs => by have := tszs_len vs; have := v.sz_eq; simp only [tszs, List.length_cons]; omega
theorem Typ.sz_args {v a : Typ} (h : a ∈ v.args) : a.sz < v.sz := by have := tszs_mem h; have := v.sz_eq; omega
inductive OkTyp : Typ → Prop
  | mk {k : Int} {t : List UInt8} {ar : List Typ} {nl : Bool} (hk : IntKind.i64.min ≤ k ∧ k ≤ IntKind.i64.max) (ht : t.length ≤ bulk) (hnl : nl = true → ar = []) (hl : ar.length ≤ bulk) (ha : ∀ a ∈ ar, OkTyp a) : OkTyp (.mk k t ar nl)
theorem OkTyp.name {v : Typ} (h : OkTyp v) : v.name.length ≤ bulk := by cases h; assumption
theorem OkTyp.len {v : Typ} (h : OkTyp v) : v.args.length ≤ bulk := by cases h; assumption
theorem OkTyp.nil {v : Typ} (h : OkTyp v) : v.nl = true → v.args = [] := by cases h; assumption
theorem OkTyp.arg {v a : Typ} (h : OkTyp v) (ha : a ∈ v.args) : OkTyp a := by cases h; rename_i ha'; exact ha' a ha
theorem OkTyp.kind {v : Typ} (h : OkTyp v) : IntKind.i64.min ≤ v.kind ∧ v.kind ≤ IntKind.i64.max := by cases h; assumption
def oTyp (v : Typ) : Prop := OkTyp v ∧ v.sz ≤ bulk
theorem oTyp.arg {v a : Typ} (h : oTyp v) (ha : a ∈ v.args) : oTyp a := ⟨h.1.arg ha, Nat.le_trans (Nat.le_of_lt (Typ.sz_args ha)) h.2⟩
mutual
theorem tsz_le : ∀ v : Typ, v.sz ≤ vszL (eTyp v)
  | .mk k n ar nl => by have := tszs_le ar; simp only [Typ.sz, eTyp, vszL, vsz]; omega
theorem tszs_le : ∀ vs : List Typ, tszs vs ≤ vszLL (eTyps vs)
  | [] => by simp [tszs]
  | v :: vs => by have := tsz_le v; have := tszs_le vs; simp only [tszs, eTyps, vszLL]; omega
end
theorem pTyp (v : Typ) : 1 ≤ vszL (eTyp v) := by have := tsz_le v; have := v.sz_eq; omega
theorem dTyp0 : ∀ n, Dec Try.prog 171 eTyp OkTyp n := by
  intro n
  induction n using Nat.strongRecOn with
  | _ n ih =>
    intro cs hv hb
    obtain ⟨m, rfl, h⟩ := dec_struct (ts := [3, 9, 136]) (by kernel_rfl) hv
    obtain ⟨a0, r0, rfl, _, h0, a2, r2, rfl, _, h2, a3, r3, rfl, _, h3, rfl⟩ := h
    simp only [vszL_append] at hb
    obtain ⟨x0, rfl, q0⟩ := dec_int (n := m) (k := .i64) (by kernel_rfl) _ h0 (by omega)
    obtain ⟨x2, rfl, q2⟩ := dec_str (n := m) (by kernel_rfl) _ h2 (by omega)
    obtain ⟨x3, rfl, q3, q4, q5⟩ := dec_slice (n := m) (el := 171) (by kernel_rfl) pTyp (fun k hk => ih k (by omega)) _ h3 (by omega)
    exact ⟨.mk x0 x2 x3.1 x3.2, by rw [eTyp_eq]; rfl, .mk q0 q2 q3 q4 q5⟩
theorem dTyp (n : Nat) : Dec Try.prog 171 eTyp oTyp n := fun cs hv hb => by
  obtain ⟨x, rfl, h⟩ := dTyp0 n cs hv hb
  exact ⟨x, rfl, h, Nat.le_trans (tsz_le x) hb⟩
/-- Lists of types. -/
abbrev Typs := List Typ × Bool
def eTypL (x : Typs) : List V := [.sl (x.1.map eTyp) x.2 .no]
def oTypL (x : Typs) : Prop := (x.2 = true → x.1 = []) ∧ tszs x.1 ≤ bulk ∧ ∀ t ∈ x.1, OkTyp t
theorem pTypL (x : Typs) : 1 ≤ vszL (eTypL x) := by simp only [eTypL, vszL, vsz]; omega
theorem dTypL (n : Nat) : Dec Try.prog 136 eTypL oTypL n := fun cs hv hb => by
  obtain ⟨x, rfl, h1, h2, h3⟩ := dec_slice (el := 171) (by kernel_rfl) pTyp (fun k _ => dTyp0 k) cs hv hb
  refine ⟨x, rfl, h1, ?_, h3⟩
  have := tszs_le x.1
  rw [eTyps_map] at this
  simp only [vszL, vsz] at hb
  omega
theorem oTypL.mem {x : Typs} (h : oTypL x) {t : Typ} (ht : t ∈ x.1) : oTyp t := ⟨h.2.2 t ht, Nat.le_trans (tszs_mem ht) h.2.1⟩
theorem oTypL.len {x : Typs} (h : oTypL x) : x.1.length ≤ bulk := Nat.le_trans (tszs_len _) h.2.1
/-! ### patterns -/
inductive Pat where
  | mk (kind num : Int) (text : List UInt8) (args : List Pat) (nl : Bool)
namespace Pat
def kind : Pat → Int | mk k _ _ _ _ => k
def num : Pat → Int | mk _ n _ _ _ => n
def text : Pat → List UInt8 | mk _ _ t _ _ => t
def args : Pat → List Pat | mk _ _ _ a _ => a
def nl : Pat → Bool | mk _ _ _ _ b => b
end Pat
instance : Inhabited Pat := ⟨.mk 0 0 [] [] true⟩
mutual
def ePat : Pat → List V | .mk k n t ar nl => [.int .i64 k, .int .i64 n, .str t, .sl (ePats ar) nl .no]
def ePats : List Pat → List (List V) | [] => [] | v :: vs => ePat v :: ePats vs
end
mutual
def Pat.sz : Pat → Nat | .mk _ _ _ ar _ => 1 + pszs ar
def pszs : List Pat → Nat | [] => 0 | v :: vs => v.sz + pszs vs
end
theorem ePats_map : ∀ vs, ePats vs = vs.map ePat
  | [] => rfl
  | v :: vs => by rw [ePats, ePats_map vs]; rfl
abbrev cPat (v : Pat) : List V := [.int .i64 v.kind, .int .i64 v.num, .str v.text, .sl (v.args.map ePat) v.nl .no]
theorem ePat_eq (v : Pat) : ePat v = cPat v := by
  cases v; rw [ePat, ePats_map]; rfl
theorem pszs_mem {v : Pat} : ∀ {vs : List Pat}, v ∈ vs → v.sz ≤ pszs vs
  | u :: vs, h => by
    simp only [pszs]
    rcases List.mem_cons.1 h with rfl | h
    · omega
    · have := pszs_mem h; omega
theorem Pat.sz_eq (v : Pat) : v.sz = 1 + pszs v.args := by cases v; rw [Pat.sz]; rfl
theorem pszs_append : ∀ a b : List Pat, pszs (a ++ b) = pszs a + pszs b
  | [], b => by simp [pszs]
  | v :: a, b => by simp only [List.cons_append, pszs, pszs_append a b]; omega
theorem pszs_len : ∀ vs : List Pat, vs.length ≤ pszs vs
  | [] => by simp [pszs]
  | v :: vs => by have := pszs_len vs; have := v.sz_eq; simp only [pszs, List.length_cons]; omega
theorem Pat.sz_args {v a : Pat} (h : a ∈ v.args) : a.sz < v.sz := by have := pszs_mem h; have := v.sz_eq; omega
inductive OkPat : Pat → Prop
  | mk {k n : Int} {t : List UInt8} {ar : List Pat} {nl : Bool} (hk : IntKind.i64.min ≤ k ∧ k ≤ IntKind.i64.max) (hn : IntKind.i64.min ≤ n ∧ n ≤ IntKind.i64.max) (ht : t.length ≤ bulk) (hnl : nl = true → ar = []) (hl : ar.length ≤ bulk) (ha : ∀ a ∈ ar, OkPat a) : OkPat (.mk k n t ar nl)
theorem OkPat.text {v : Pat} (h : OkPat v) : v.text.length ≤ bulk := by cases h; assumption
theorem OkPat.len {v : Pat} (h : OkPat v) : v.args.length ≤ bulk := by cases h; assumption
theorem OkPat.arg {v a : Pat} (h : OkPat v) (ha : a ∈ v.args) : OkPat a := by cases h; rename_i ha'; exact ha' a ha
mutual
theorem psz_le : ∀ v : Pat, v.sz ≤ vszL (ePat v)
  | .mk k n t ar nl => by have := pszs_le ar; simp only [Pat.sz, ePat, vszL, vsz]; omega
theorem pszs_le : ∀ vs : List Pat, pszs vs ≤ vszLL (ePats vs)
  | [] => by simp [pszs]
  | v :: vs => by have := psz_le v; have := pszs_le vs; simp only [pszs, ePats, vszLL]; omega
end
theorem pPat (v : Pat) : 1 ≤ vszL (ePat v) := by have := psz_le v; have := v.sz_eq; omega
theorem dPat0 : ∀ n, Dec Try.prog 87 ePat OkPat n := by
  intro n
  induction n using Nat.strongRecOn with
  | _ n ih =>
    intro cs hv hb
    obtain ⟨m, rfl, h⟩ := dec_struct (ts := [3, 3, 9, 80]) (by kernel_rfl) hv
    obtain ⟨a0, r0, rfl, _, h0, a1, r1, rfl, _, h1, a2, r2, rfl, _, h2, a3, r3, rfl, _, h3, rfl⟩ := h
    simp only [vszL_append] at hb
    obtain ⟨x0, rfl, q0⟩ := dec_int (n := m) (k := .i64) (by kernel_rfl) _ h0 (by omega)
    obtain ⟨x1, rfl, q1⟩ := dec_int (n := m) (k := .i64) (by kernel_rfl) _ h1 (by omega)
    obtain ⟨x2, rfl, q2⟩ := dec_str (n := m) (by kernel_rfl) _ h2 (by omega)
    obtain ⟨x3, rfl, q3, q4, q5⟩ := dec_slice (n := m) (el := 87) (by kernel_rfl) pPat (fun k hk => ih k (by omega)) _ h3 (by omega)
    exact ⟨.mk x0 x1 x2 x3.1 x3.2, by rw [ePat_eq]; rfl, .mk q0 q1 q2 q3 q4 q5⟩
/-! ### expressions -/
def eNm (s : List UInt8) : List V := [.str s]
theorem pNm (s : List UInt8) : 1 ≤ vszL (eNm s) := by simp only [eNm, vszL, vsz]; omega
abbrev Nms := List (List UInt8) × Bool
def eNmL (x : Nms) : List V := [.sl (x.1.map eNm) x.2 .no]
def oNmL (x : Nms) : Prop := (x.2 = true → x.1 = []) ∧ x.1.length ≤ bulk ∧ ∀ s ∈ x.1, s.length ≤ bulk
theorem pNmL (x : Nms) : 1 ≤ vszL (eNmL x) := by simp only [eNmL, vszL, vsz]; omega
theorem dNmL (n : Nat) : Dec Try.prog 50 eNmL oNmL n := dec_slice (el := 9) (by kernel_rfl) pNm (fun k _ => dec_str (by kernel_rfl))
mutual
inductive Ex where
  | mk (kind num : Int) (text : List UInt8) (names : Nms) (types : Typs) (args : List Ex) (anl : Bool) (arms : List Arm) (mnl : Bool) (at_ : Int)
inductive Arm where
  | mk (pat : Pat) (body : Ex)
end
namespace Ex
def kind : Ex → Int | mk k _ _ _ _ _ _ _ _ _ => k
def num : Ex → Int | mk _ n _ _ _ _ _ _ _ _ => n
def text : Ex → List UInt8 | mk _ _ t _ _ _ _ _ _ _ => t
def names : Ex → Nms | mk _ _ _ n _ _ _ _ _ _ => n
def types : Ex → Typs | mk _ _ _ _ t _ _ _ _ _ => t
def args : Ex → List Ex | mk _ _ _ _ _ a _ _ _ _ => a
def anl : Ex → Bool | mk _ _ _ _ _ _ b _ _ _ => b
def arms : Ex → List Arm | mk _ _ _ _ _ _ _ m _ _ => m
def mnl : Ex → Bool | mk _ _ _ _ _ _ _ _ b _ => b
def pos : Ex → Int | mk _ _ _ _ _ _ _ _ _ a => a
end Ex
namespace Arm
def pat : Arm → Pat | mk p _ => p
def body : Arm → Ex | mk _ b => b
end Arm
instance : Inhabited Ex := ⟨.mk 0 0 [] ([], true) ([], true) [] true [] true 0⟩
mutual
def eEx : Ex → List V | .mk k n t nm ty ar anl ms mnl p => [.int .i64 k, .int .i64 n, .str t, .sl (nm.1.map eNm) nm.2 .no, .sl (ty.1.map eTyp) ty.2 .no, .sl (eExs ar) anl .no, .sl (eArms ms) mnl .no, .int .i64 p]
def eExs : List Ex → List (List V) | [] => [] | v :: vs => eEx v :: eExs vs
def eArm : Arm → List V | .mk p b => ePat p ++ eEx b
def eArms : List Arm → List (List V) | [] => [] | v :: vs => eArm v :: eArms vs
end
theorem eExs_map : ∀ vs, eExs vs = vs.map eEx
  | [] => rfl
  | v :: vs => by rw [eExs, eExs_map vs]; rfl
theorem eArms_map : ∀ vs, eArms vs = vs.map eArm
  | [] => rfl
  | v :: vs => by rw [eArms, eArms_map vs]; rfl
abbrev cEx (v : Ex) : List V := [.int .i64 v.kind, .int .i64 v.num, .str v.text, .sl (v.names.1.map eNm) v.names.2 .no, .sl (v.types.1.map eTyp) v.types.2 .no, .sl (v.args.map eEx) v.anl .no, .sl (v.arms.map eArm) v.mnl .no, .int .i64 v.pos]
theorem eEx_eq (v : Ex) : eEx v = cEx v := by
  cases v; rw [eEx, eExs_map, eArms_map]; rfl
theorem eArm_eq (m : Arm) : eArm m = cPat m.pat ++ cEx m.body := by
  cases m; rw [eArm, ePat_eq, eEx_eq]; rfl
mutual
def Ex.sz : Ex → Nat | .mk _ _ _ _ _ ar _ ms _ _ => 1 + exszs ar + amszs ms
def exszs : List Ex → Nat | [] => 0 | v :: vs => v.sz + exszs vs
def Arm.sz : Arm → Nat | .mk p b => p.sz + b.sz
def amszs : List Arm → Nat | [] => 0 | v :: vs => v.sz + amszs vs
end
theorem Ex.sz_eq (v : Ex) : v.sz = 1 + exszs v.args + amszs v.arms := by cases v; rw [Ex.sz]; rfl
theorem Arm.sz_eq (v : Arm) : v.sz = v.pat.sz + v.body.sz := by cases v; rw [Arm.sz]; rfl
theorem exszs_append : ∀ a b : List Ex, exszs (a ++ b) = exszs a + exszs b
  | [], b => by simp [exszs]
  | v :: a, b => by simp only [List.cons_append, exszs, exszs_append a b]; omega
theorem exszs_len : ∀ vs : List Ex, vs.length ≤ exszs vs
  | [] => by simp [exszs]
  | v :: vs => by have := exszs_len vs; have := v.sz_eq; simp only [exszs, List.length_cons]; omega
theorem amszs_len : ∀ vs : List Arm, vs.length ≤ amszs vs
  | [] => by simp [amszs]
  | v :: vs => by have := amszs_len vs; have := v.sz_eq; have := v.pat.sz_eq; simp only [amszs, List.length_cons]; omega
inductive OkEx : Ex → Prop
  | mk {k n : Int} {t : List UInt8} {nm : Nms} {ty : Typs} {ar : List Ex} {anl : Bool} {ms : List Arm} {mnl : Bool} {p : Int} (hk : IntKind.i64.min ≤ k ∧ k ≤ IntKind.i64.max) (hn : IntKind.i64.min ≤ n ∧ n ≤ IntKind.i64.max) (ht : t.length ≤ bulk) (hnm : oNmL nm) (hty : oTypL ty) (hnl : anl = true → ar = []) (hl : ar.length ≤ bulk) (ha : ∀ a ∈ ar, OkEx a) (hml : mnl = true → ms = []) (hmn : ms.length ≤ bulk) (hp : ∀ m ∈ ms, OkPat m.pat) (hm : ∀ m ∈ ms, OkEx m.body) (hat : IntKind.i64.min ≤ p ∧ p ≤ IntKind.i64.max) : OkEx (.mk k n t nm ty ar anl ms mnl p)
theorem OkEx.types {v : Ex} (h : OkEx v) : oTypL v.types := by cases h; assumption
theorem OkEx.names {v : Ex} (h : OkEx v) : oNmL v.names := by cases h; assumption
theorem OkEx.text {v : Ex} (h : OkEx v) : v.text.length ≤ bulk := by cases h; assumption
theorem OkEx.kind {v : Ex} (h : OkEx v) : IntKind.i64.min ≤ v.kind ∧ v.kind ≤ IntKind.i64.max := by cases h; assumption
theorem OkEx.num {v : Ex} (h : OkEx v) : IntKind.i64.min ≤ v.num ∧ v.num ≤ IntKind.i64.max := by cases h; assumption
theorem OkEx.pos {v : Ex} (h : OkEx v) : IntKind.i64.min ≤ v.pos ∧ v.pos ≤ IntKind.i64.max := by cases h; assumption
theorem OkEx.len {v : Ex} (h : OkEx v) : v.args.length ≤ bulk := by cases h; assumption
theorem OkEx.mlen {v : Ex} (h : OkEx v) : v.arms.length ≤ bulk := by cases h; assumption
theorem OkEx.nil {v : Ex} (h : OkEx v) : v.anl = true → v.args = [] := by cases h; assumption
theorem OkEx.arg {v a : Ex} (h : OkEx v) (ha : a ∈ v.args) : OkEx a := by cases h; rename_i ha' _ _ _ _ _; exact ha' a ha
theorem OkEx.pat {v : Ex} {m : Arm} (h : OkEx v) (hm : m ∈ v.arms) : OkPat m.pat := by cases h; rename_i h1 h2 h3; exact h1 m hm
theorem OkEx.body {v : Ex} {m : Arm} (h : OkEx v) (hm : m ∈ v.arms) : OkEx m.body := by cases h; rename_i h1 h2 h3; exact h2 m hm
def oEx (v : Ex) : Prop := OkEx v ∧ v.sz ≤ bulk
mutual
theorem exsz_le : ∀ v : Ex, v.sz ≤ vszL (eEx v)
  | .mk k n t nm ty ar anl ms mnl p => by have := exszs_le ar; have := amszs_le ms; simp only [Ex.sz, eEx, vszL, vsz]; omega
theorem exszs_le : ∀ vs : List Ex, exszs vs ≤ vszLL (eExs vs)
  | [] => by simp [exszs]
  | v :: vs => by have := exsz_le v; have := exszs_le vs; simp only [exszs, eExs, vszLL]; omega
theorem amsz_le : ∀ v : Arm, v.sz ≤ vszL (eArm v)
  | .mk p b => by have := psz_le p; have := exsz_le b; simp only [Arm.sz, eArm, vszL_append]; omega
theorem amszs_le : ∀ vs : List Arm, amszs vs ≤ vszLL (eArms vs)
  | [] => by simp [amszs]
  | v :: vs => by have := amsz_le v; have := amszs_le vs; simp only [amszs, eArms, vszLL]; omega
end
theorem pEx (v : Ex) : 1 ≤ vszL (eEx v) := by have := exsz_le v; have := v.sz_eq; omega
theorem pArm (v : Arm) : 1 ≤ vszL (eArm v) := by have := amsz_le v; have := v.sz_eq; have := v.pat.sz_eq; omega
theorem dEx0 : ∀ n, Dec Try.prog 140 eEx OkEx n := by
  intro n
  induction n using Nat.strongRecOn with
  | _ n ih =>
    intro cs hv hb
    obtain ⟨m, rfl, h⟩ := dec_struct (ts := [3, 3, 9, 50, 136, 137, 138, 3]) (by kernel_rfl) hv
    obtain ⟨a0, r0, rfl, _, h0, a1, r1, rfl, _, h1, a2, r2, rfl, _, h2, a3, r3, rfl, _, h3, a4, r4, rfl, _, h4, a5, r5, rfl, _, h5, a6, r6, rfl, _, h6, a7, r7, rfl, _, h7, rfl⟩ := h
    simp only [vszL_append] at hb
    obtain ⟨x0, rfl, q0⟩ := dec_int (n := m) (k := .i64) (by kernel_rfl) _ h0 (by omega)
    obtain ⟨x1, rfl, q1⟩ := dec_int (n := m) (k := .i64) (by kernel_rfl) _ h1 (by omega)
    obtain ⟨x2, rfl, q2⟩ := dec_str (n := m) (by kernel_rfl) _ h2 (by omega)
    obtain ⟨x3, rfl, q3⟩ := dNmL m _ h3 (by omega)
    obtain ⟨x4, rfl, q4⟩ := dTypL m _ h4 (by omega)
    obtain ⟨x5, rfl, q5, q6, q7⟩ := dec_slice (n := m) (el := 140) (by kernel_rfl) pEx (fun k hk => ih k (by omega)) _ h5 (by omega)
    obtain ⟨x6, rfl, q8, q9, q10⟩ := dec_slice (n := m) (el := 144) (e := eArm) (o := fun m => OkPat m.pat ∧ OkEx m.body) (by kernel_rfl) pArm (fun k hk => by
      intro cs hv hb
      obtain ⟨m2, rfl, h⟩ := dec_struct (ts := [87, 140]) (by kernel_rfl) hv
      obtain ⟨a0, r0, rfl, _, h0, a1, r1, rfl, _, h1, rfl⟩ := h
      simp only [vszL_append] at hb
      obtain ⟨x0, rfl, q0⟩ := dPat0 m2 _ h0 (by omega)
      obtain ⟨x1, rfl, q1⟩ := ih m2 (by omega) _ h1 (by omega)
      exact ⟨.mk x0 x1, by rw [eArm, List.append_nil], q0, q1⟩) _ h6 (by omega)
    obtain ⟨x7, rfl, q11⟩ := dec_int (n := m) (k := .i64) (by kernel_rfl) _ h7 (by omega)
    exact ⟨.mk x0 x1 x2 x3 x4 x5.1 x5.2 x6.1 x6.2 x7, by rw [eEx_eq]; rfl, .mk q0 q1 q2 q3 q4 q5 q6 q7 q8 q9 (fun m hm => (q10 m hm).1) (fun m hm => (q10 m hm).2) q11⟩
theorem dEx (n : Nat) : Dec Try.prog 140 eEx oEx n := fun cs hv hb => by
  obtain ⟨x, rfl, h⟩ := dEx0 n cs hv hb
  exact ⟨x, rfl, h, Nat.le_trans (exsz_le x) hb⟩
end Go.Proofs.Ytkhgcikaojhknaa

/- slices.Index of texts: what it answers; the condition: fewer than 2^63 elements. -/
set_option linter.unusedSimpArgs false
set_option linter.unusedVariables false
namespace Go.Proofs.Ytkhgcikaojhknaa
open Go.Proofs.YtkhgcikaojhknaaV
set_option maxHeartbeats 400000
set_option maxRecDepth 100000
theorem q_IndexStr (xs : List (List UInt8)) (nl : Bool) (t : Tag) (s : List UInt8) (hx : (xs.length : Int) ≤ 9223372036854775807) :
    Quiet Try.prog 283 [.sl (xs.map eNm) nl t, .str s] (.int .i64 (ixI (xs.findIdx? fun x => decide (s = x)))) := by
  refine Quiet.weak fun G => ?_
  refine acall_body (rs := [.tmp 4]) Try.func283 rfl rfl Try.ntmps283 (by kernel_rfl) (Nat.le_of_ble_eq_true rfl) ?_
  refine aw_sr rfl ?_
  simp only [go_sem, reduceIte, Nat.reduceEqDiff, Nat.reduceAdd, Nat.reduceMul, Nat.reduceSub, Nat.reduceLeDiff, Nat.reduceLT, reduceCtorEq]
  refine aw_seq fun K1 hK1 => ?_
  refine aw_sr rfl ?_
  simp only [go_sem, reduceIte, Nat.reduceEqDiff, Nat.reduceAdd, Nat.reduceMul, Nat.reduceSub, Nat.reduceLeDiff, Nat.reduceLT, reduceCtorEq]
  refine aw_range xs.length (S := Unit) (fun _ _ => [(0, .sl (xs.map eNm) nl t), (1, .str s)]) (fun _ _ => G) (fun i _ => ∀ j (h : j < xs.length), j < i → decide (s = xs[j]) = false) () hx ?_ (fun _ _ h => h) (fun j _ h => absurd h (by omega)) rfl (fun _ _ => rfl) ?_ ?_ (by decide)
  · simp only [go_sem, reduceIte, Nat.reduceEqDiff, Nat.reduceAdd, Nat.reduceMul, Nat.reduceSub, Nat.reduceLeDiff, Nat.reduceLT, reduceCtorEq, Int.natCast_zero]
  · intro i _ hi he
    refine aw_sr rfl ?_
    simp only [go_sem, reduceIte, Nat.reduceEqDiff, Nat.reduceAdd, Nat.reduceMul, Nat.reduceSub, Nat.reduceLeDiff, Nat.reduceLT, reduceCtorEq]
    refine aw_sr rfl ?_
    simp only [go_sem, reduceIte, Nat.reduceEqDiff, Nat.reduceAdd, Nat.reduceMul, Nat.reduceSub, Nat.reduceLeDiff, Nat.reduceLT, reduceCtorEq, getD_map hi, eNm]
    refine ⟨⟨by omega, by omega, wid_map (g := eNm) (fun _ => rfl) _⟩, ?_⟩
    refine aw_if rfl (fun h => ?_) (fun h => ?_)
    · refine aw_sr rfl ?_
      simp only [go_sem, reduceIte, Nat.reduceEqDiff, Nat.reduceAdd, Nat.reduceMul, Nat.reduceSub, Nat.reduceLeDiff, Nat.reduceLT, reduceCtorEq]
      refine aw_ret ⟨trivial, _, rfl, ?_, fun _ _ h => h⟩
      rw [ixI_at hi h (fun j hj => he j (by omega) hj)]
      exact Vle.refl _
    · refine aw_skip ⟨(), fun j hj hlt => ?_, ?_, fun _ _ h => h⟩
      · by_cases e : j = i
        · subst e; exact h
        · exact he j hj (by omega)
      simp only [go_sem, reduceIte, Nat.reduceEqDiff, Nat.reduceAdd, Nat.reduceMul, Nat.reduceSub, Nat.reduceLeDiff, Nat.reduceLT, reduceCtorEq]
  · intro _ he
    refine hK1 _ _ ?_
    refine aw_sr rfl ?_
    simp only [go_sem, reduceIte, Nat.reduceEqDiff, Nat.reduceAdd, Nat.reduceMul, Nat.reduceSub, Nat.reduceLeDiff, Nat.reduceLT, reduceCtorEq]
    refine aw_ret ⟨trivial, _, rfl, ?_, fun _ _ h => h⟩
    rw [ixI_none (fun j hj => he j hj hj)]
    exact Vle.refl _
end Go.Proofs.Ytkhgcikaojhknaa

/- Patterns of a code: how many nodes they have and how many names they bind, by both texts; operators. Conditions: the patterns are data of no more than 1048576 values and letters. -/
set_option linter.unusedSimpArgs false
set_option linter.unusedVariables false
namespace Go.Proofs.Ytkhgcikaojhknaa
open Go.Proofs.YtkhgcikaojhknaaV
set_option maxHeartbeats 400000
set_option maxRecDepth 100000
theorem wid_ePat (ps : List Pat) : wid 4 (ps.map ePat) := wid_map (g := ePat) (fun _ => by rw [ePat_eq]; rfl) _
theorem q_nodes : ∀ (n : Nat) (p : Pat) (most : Int), p.sz ≤ n → OkPat p → QI Try.prog 45 [.agg (cPat p), .int .i64 most] := by
  intro n
  induction n with
  | zero => intro p most h; have := p.sz_eq; omega
  | succ n ih =>
  intro p most hn hp
  have hpl : p.args.length ≤ 1048576 := hp.len
  refine QI.weak fun G => ?_
  refine acall_body (rs := [.tmp 4]) Try.func45 rfl rfl Try.ntmps45 (by kernel_rfl) (Nat.le_of_ble_eq_true rfl) ?_
  refine aw_sr rfl ?_  -- r0 @low.go:44
  simp only [go_sem, reduceIte, Nat.reduceEqDiff, Nat.reduceAdd, Nat.reduceMul, Nat.reduceSub, Nat.reduceLeDiff, Nat.reduceLT, reduceCtorEq]
  intro b2 hb2
  refine aw_box1 hb2 fun B1 hs1 h2 => ?_
  have hsB := hs1
  refine aw_sr rfl ?_  -- r1 @low.go:45
  simp only [go_sem, reduceIte, Nat.reduceEqDiff, Nat.reduceAdd, Nat.reduceMul, Nat.reduceSub, Nat.reduceLeDiff, Nat.reduceLT, reduceCtorEq]
  refine aw_seq fun K2 hK2 => ?_
  refine aw_sr rfl ?_  -- r2 @low.go:46
  simp only [go_sem, reduceIte, Nat.reduceEqDiff, Nat.reduceAdd, Nat.reduceMul, Nat.reduceSub, Nat.reduceLeDiff, Nat.reduceLT, reduceCtorEq, h2]
  refine aw_range p.args.length (S := Int) (fun i st => [(1, .int .i64 most), (5, .int .i64 st), (9, .sl (p.args.map ePat) p.nl .no)]) (fun _ _ => B1) (fun i _ => True) 1 (by omega) ?_ (fun _ _ h => h) trivial rfl (fun _ _ => rfl) ?_ ?_ (by decide)
  · simp only [go_sem, reduceIte, Nat.reduceEqDiff, Nat.reduceAdd, Nat.reduceMul, Nat.reduceSub, Nat.reduceLeDiff, Nat.reduceLT, reduceCtorEq, Int.natCast_zero]
  · intro i m0 hi he
    have ham : p.args[i] ∈ p.args := List.getElem_mem hi
    refine aw_sr rfl ?_  -- r4 @low.go:46
    simp only [go_sem, reduceIte, Nat.reduceEqDiff, Nat.reduceAdd, Nat.reduceMul, Nat.reduceSub, Nat.reduceLeDiff, Nat.reduceLT, reduceCtorEq, getD_map hi, ePat_eq]
    refine ⟨⟨by omega, by omega, wid_ePat _⟩, ?_⟩
    intro b7 hb7
    refine aw_box1 hb7 fun B2 hs2 h7 => ?_
    refine aw_seq fun K3 hK3 => ?_
    refine aw_sr rfl ?_  -- r5 @low.go:47
    simp only [go_sem, reduceIte, Nat.reduceEqDiff, Nat.reduceAdd, Nat.reduceMul, Nat.reduceSub, Nat.reduceLeDiff, Nat.reduceLT, reduceCtorEq]
    refine aw_if rfl (fun h => ?_) (fun h => ?_)
    · refine aw_sr rfl ?_  -- r6 @low.go:48
      simp only [go_sem, reduceIte, Nat.reduceEqDiff, Nat.reduceAdd, Nat.reduceMul, Nat.reduceSub, Nat.reduceLeDiff, Nat.reduceLT, reduceCtorEq]
      exact aw_ret ⟨trivial, _, rfl, ⟨_, Vle.refl _⟩, sub_trans hsB hs2⟩
    refine aw_skip (hK3 _ _ ?_)
    refine aw_rg rfl ?_  -- r7 @low.go:50
    simp only [go_sem, reduceIte, Nat.reduceEqDiff, Nat.reduceAdd, Nat.reduceMul, Nat.reduceSub, Nat.reduceLeDiff, Nat.reduceLT, reduceCtorEq, h7]
    refine goA_qi (ih p.args[i] _ (by have := Pat.sz_args ham; omega) (hp.arg ham)) fun m => ?_
    simp only [go_sem, reduceIte, Nat.reduceEqDiff, Nat.reduceAdd, Nat.reduceMul, Nat.reduceSub, Nat.reduceLeDiff, Nat.reduceLT, reduceCtorEq]
    refine ⟨IntKind.i64.wrap (m0 + m), ?_, hs2⟩
    simp only [go_sem, reduceIte, Nat.reduceEqDiff, Nat.reduceAdd, Nat.reduceMul, Nat.reduceSub, Nat.reduceLeDiff, Nat.reduceLT, reduceCtorEq]
  intro m0 he
  refine hK2 _ _ ?_
  refine aw_sr rfl ?_  -- r9 @low.go:52
  simp only [go_sem, reduceIte, Nat.reduceEqDiff, Nat.reduceAdd, Nat.reduceMul, Nat.reduceSub, Nat.reduceLeDiff, Nat.reduceLT, reduceCtorEq]
  exact aw_ret ⟨trivial, _, rfl, ⟨_, Vle.refl _⟩, hsB⟩
def oPat (v : Pat) : Prop := OkPat v ∧ v.sz ≤ bulk
theorem dPat (n : Nat) : Dec Try.prog 87 ePat oPat n := by
  intro cs hv hb
  obtain ⟨x, rfl, hx⟩ := dPat0 n cs hv hb
  exact ⟨x, rfl, hx, Nat.le_trans (psz_le x) hb⟩
mutual
/-- How many names a pattern binds. -/
def bindsF : Pat → Nat
  | .mk k _ _ ar _ => if k = 2 then 1 else if k = 6 then bindsFs ar else 0
def bindsFs : List Pat → Nat
  | [] => 0
  | p :: ps => bindsF p + bindsFs ps
end
theorem bindsF_eq (p : Pat) : bindsF p = if p.kind = 2 then 1 else if p.kind = 6 then bindsFs p.args else 0 := by cases p; rfl
theorem bindsFs_append : ∀ a b : List Pat, bindsFs (a ++ b) = bindsFs a + bindsFs b
  | [], b => by simp [bindsFs]
  | p :: a, b => by simp only [List.cons_append, bindsFs, bindsFs_append a b]; omega
mutual
theorem binds_le : ∀ p : Pat, bindsF p ≤ p.sz
  | .mk k n t ar nl => by
    rw [bindsF, Pat.sz]
    have := bindss_le ar
    split
    · omega
    · split <;> omega
theorem bindss_le : ∀ ps : List Pat, bindsFs ps ≤ pszs ps
  | [] => by simp [bindsFs]
  | p :: ps => by rw [bindsFs, pszs]; have := binds_le p; have := bindss_le ps; omega
end
theorem q_Binds : ∀ (n : Nat) (p : Pat), p.sz ≤ n → n ≤ 1048576 → OkPat p → Quiet Try.prog 289 [.agg (cPat p)] (.int .i64 (bindsF p)) := by
  intro n
  induction n with
  | zero => intro p h; have := p.sz_eq; omega
  | succ n ih =>
  intro p hn hn2 hp
  have hpl : p.args.length ≤ 1048576 := hp.len
  have hsz := p.sz_eq
  have hE := bindsF_eq p
  refine Quiet.weak fun G => ?_
  refine acall_body (rs := [.tmp 2]) Try.func289 rfl rfl Try.ntmps289 (by kernel_rfl) (Nat.le_of_ble_eq_true rfl) ?_
  refine aw_sr rfl ?_  -- r0 @code.go:132
  simp only [go_sem, reduceIte, Nat.reduceEqDiff, Nat.reduceAdd, Nat.reduceMul, Nat.reduceSub, Nat.reduceLeDiff, Nat.reduceLT, reduceCtorEq]
  intro b1 hb1
  refine aw_box1 hb1 fun B1 hs1 h1 => ?_
  have hsB := hs1
  refine aw_seq fun K4 hK4 => ?_
  refine aw_sr rfl ?_  -- r1 @code.go:133
  simp only [go_sem, reduceIte, Nat.reduceEqDiff, Nat.reduceAdd, Nat.reduceMul, Nat.reduceSub, Nat.reduceLeDiff, Nat.reduceLT, reduceCtorEq, h1]
  refine aw_if rfl (fun h => ?_) (fun h => ?_)
  · have h : p.kind = 2 := by simpa using h
    refine aw_sr rfl ?_  -- r2 @code.go:134
    simp only [go_sem, reduceIte, Nat.reduceEqDiff, Nat.reduceAdd, Nat.reduceMul, Nat.reduceSub, Nat.reduceLeDiff, Nat.reduceLT, reduceCtorEq]
    refine aw_ret ⟨trivial, _, rfl, ?_, hsB⟩
    rw [hE, if_pos h]
    exact Vle.refl _
  have h2 : ¬ p.kind = 2 := by simpa using h
  rw [if_neg h2] at hE
  refine aw_skip (hK4 _ _ ?_)
  refine aw_sr rfl ?_  -- r3 @code.go:136
  simp only [go_sem, reduceIte, Nat.reduceEqDiff, Nat.reduceAdd, Nat.reduceMul, Nat.reduceSub, Nat.reduceLeDiff, Nat.reduceLT, reduceCtorEq]
  refine aw_mid (fun f' G' => FSub [(3, .int .i64 (bindsF p))] f' ∧ G' = B1) ?_ ?_
  · -- 2 ways
    refine aw_sr rfl ?_  -- r4 @code.go:137
    simp only [go_sem, reduceIte, Nat.reduceEqDiff, Nat.reduceAdd, Nat.reduceMul, Nat.reduceSub, Nat.reduceLeDiff, Nat.reduceLT, reduceCtorEq, h1]
    refine aw_if rfl (fun h => ?_) (fun h => ?_)
    · have h : p.kind = 6 := by simpa using h
      rw [if_pos h] at hE
      refine aw_sr rfl ?_  -- r5 @code.go:138
      simp only [go_sem, reduceIte, Nat.reduceEqDiff, Nat.reduceAdd, Nat.reduceMul, Nat.reduceSub, Nat.reduceLeDiff, Nat.reduceLT, reduceCtorEq, h1]
      refine aw_range p.args.length (S := Unit) (fun i _ => [(3, .int .i64 (bindsFs (p.args.take i))), (13, .sl (p.args.map ePat) p.nl .no)]) (fun _ _ => B1) (fun i _ => True) () (by omega) ?_ (fun _ _ h => h) trivial rfl (fun _ _ => rfl) ?_ ?_ (by decide)
      · simp only [go_sem, reduceIte, Nat.reduceEqDiff, Nat.reduceAdd, Nat.reduceMul, Nat.reduceSub, Nat.reduceLeDiff, Nat.reduceLT, reduceCtorEq, Int.natCast_zero]
        rfl
      · intro i _ hi he
        have ham : p.args[i] ∈ p.args := List.getElem_mem hi
        have h3 := Pat.sz_args ham
        have h4 := bindss_le (p.args.take (i + 1))
        have h5 : pszs (p.args.take (i + 1)) ≤ pszs p.args := by
          conv => rhs; rw [← List.take_append_drop (i + 1) p.args, pszs_append]
          omega
        have hstep : bindsFs (p.args.take (i + 1)) = bindsFs (p.args.take i) + bindsF p.args[i] := by
          rw [List.take_succ_eq_append_getElem hi, bindsFs_append]; simp [bindsFs]
        have hw : IntKind.i64.wrap ((bindsFs (p.args.take i) : Int) + (bindsF p.args[i] : Int)) = (bindsFs (p.args.take (i + 1)) : Nat) := by
          rw [wrap64 (by omega) (by omega), hstep]; omega
        refine aw_sr rfl ?_  -- r7 @code.go:138
        simp only [go_sem, reduceIte, Nat.reduceEqDiff, Nat.reduceAdd, Nat.reduceMul, Nat.reduceSub, Nat.reduceLeDiff, Nat.reduceLT, reduceCtorEq, getD_map hi, ePat_eq]
        refine ⟨⟨by omega, by omega, wid_ePat _⟩, ?_⟩
        intro b5 hb5
        refine aw_box1 hb5 fun B2 hs2 h5 => ?_
        refine aw_rg rfl ?_  -- r8 @code.go:139
        simp only [go_sem, reduceIte, Nat.reduceEqDiff, Nat.reduceAdd, Nat.reduceMul, Nat.reduceSub, Nat.reduceLeDiff, Nat.reduceLT, reduceCtorEq, h5]
        refine goA_q (ih p.args[i] (by omega) (by omega) (hp.arg ham)) ?_
        simp only [go_sem, reduceIte, Nat.reduceEqDiff, Nat.reduceAdd, Nat.reduceMul, Nat.reduceSub, Nat.reduceLeDiff, Nat.reduceLT, reduceCtorEq, hw]
        refine ⟨(), ?_, hs2⟩
        simp only [go_sem, reduceIte, Nat.reduceEqDiff, Nat.reduceAdd, Nat.reduceMul, Nat.reduceSub, Nat.reduceLeDiff, Nat.reduceLT, reduceCtorEq]
      intro _ he
      rw [List.take_length, ← hE]
      exact ⟨rfl, rfl⟩
    · have h : ¬ p.kind = 6 := by simpa using h
      rw [if_neg h] at hE
      rw [hE]
      exact aw_skip ⟨rfl, rfl⟩
  intro f' G' ⟨hf, hg⟩
  rw [hg]
  refine AW.of_fsub hf ?_
  refine aw_sr rfl ?_  -- r10 @code.go:142
  simp only [go_sem, reduceIte, Nat.reduceEqDiff, Nat.reduceAdd, Nat.reduceMul, Nat.reduceSub, Nat.reduceLeDiff, Nat.reduceLT, reduceCtorEq]
  exact aw_ret ⟨trivial, _, rfl, Vle.refl _, hsB⟩
/-- The reference's: by a queue. -/
theorem q_rBinds (p : Pat) (hn : p.sz ≤ 1048576) (hp : OkPat p) : Quiet Try.prog 229 [.agg (cPat p)] (.int .i64 (bindsF p)) := by
  refine Quiet.weak fun G => ?_
  refine acall_body (rs := [.tmp 2]) Try.func229 rfl rfl Try.ntmps229 (by kernel_rfl) (Nat.le_of_ble_eq_true rfl) ?_
  refine aw_sr rfl ?_  -- r0 @low.go:121
  simp only [go_sem, reduceIte, Nat.reduceEqDiff, Nat.reduceAdd, Nat.reduceMul, Nat.reduceSub, Nat.reduceLeDiff, Nat.reduceLT, reduceCtorEq]
  intro b1 hb1
  refine aw_box1 hb1 fun B1 hs1 h1 => ?_
  have hsB := hs1
  refine aw_sr rfl ?_  -- r1 @low.go:122
  simp only [go_sem, reduceIte, Nat.reduceEqDiff, Nat.reduceAdd, Nat.reduceMul, Nat.reduceSub, Nat.reduceLeDiff, Nat.reduceLT, reduceCtorEq]
  refine aw_sr rfl ?_  -- r2 @low.go:123
  simp only [go_sem, reduceIte, Nat.reduceEqDiff, Nat.reduceAdd, Nat.reduceMul, Nat.reduceSub, Nat.reduceLeDiff, Nat.reduceLT, reduceCtorEq, h1]
  refine aw_seq fun K5 hK5 => ?_
  refine aw_block ?_  -- 0
  refine aw_lph (S := {s : Nat × List Pat × Tag × Heap // s.1 + bindsFs s.2.1 = bindsF p ∧ pszs s.2.1 ≤ p.sz ∧ (∀ q ∈ s.2.1, OkPat q) ∧ Rm G s.2.2.2 4 s.2.2.1 ∧ Sub G s.2.2.2}) (fun s => [(3, .int .i64 s.1.1), (4, .sl (s.1.2.1.map ePat) false s.1.2.2.1)]) (fun s => s.1.2.2.2) (fun s => pszs s.1.2.1)
    ⟨(0, [p], .full, B1), by simp [bindsFs], by simp [pszs], by simpa using hp, Rm.start _ _ _, hsB⟩ ?_ (fun _ _ h => h) ?_
  · simp only [go_sem, reduceIte, Nat.reduceEqDiff, Nat.reduceAdd, Nat.reduceMul, Nat.reduceSub, Nat.reduceLeDiff, Nat.reduceLT, reduceCtorEq, Int.natCast_zero]
    rw [List.map_cons, ePat_eq]; rfl
  intro ⟨⟨n, todo, tg, H⟩, hsum, hpz, hok, hr, hs⟩
  simp only at hsum hpz hok hr hs ⊢
  have hle : todo.length ≤ 1048576 := by
    have h1 : ∀ l : List Pat, l.length ≤ pszs l := fun l => by
      induction l with
      | nil => simp [pszs]
      | cons a l ih => rw [pszs, List.length_cons]; have := a.sz_eq; omega
    have := h1 todo
    omega
  refine aw_seq fun K6 hK6 => ?_
  refine aw_sr rfl ?_  -- r3 @low.go:124
  simp only [go_sem, reduceIte, Nat.reduceEqDiff, Nat.reduceAdd, Nat.reduceMul, Nat.reduceSub, Nat.reduceLeDiff, Nat.reduceLT, reduceCtorEq]
  refine aw_if rfl (fun h => ?_) (fun h => ?_)
  · obtain ⟨q, rest, rfl⟩ : ∃ q rest, todo = q :: rest := by
      cases todo with
      | nil => simp at h
      | cons q rest => exact ⟨q, rest, rfl⟩
    have hq := hok q (by simp)
    have hle' : rest.length + 1 ≤ 1048576 := by simpa using hle
    have hql : q.args.length ≤ 1048576 := hq.len
    have hqsz := q.sz_eq
    simp only [pszs] at hpz
    rw [bindsFs, bindsF_eq q] at hsum
    have hbn := binds_le p
    refine aw_skip (hK6 _ _ ?_)
    refine aw_block ?_  -- 1
    refine aw_sr rfl ?_  -- r4 @low.go:125
    simp only [go_sem, reduceIte, Nat.reduceEqDiff, Nat.reduceAdd, Nat.reduceMul, Nat.reduceSub, Nat.reduceLeDiff, Nat.reduceLT, reduceCtorEq, List.map_cons, ePat_eq, Int.toNat_zero, List.getD_cons_zero]
    refine ⟨⟨by omega, by omega, by rw [← ePat_eq, ← List.map_cons]; exact wid_ePat _⟩, ?_⟩
    intro b5 hb5
    refine aw_box1 hb5 fun B2 hs2 h5 => ?_
    replace hr := hr.sub hs2
    replace hs := sub_trans hs hs2
    refine aw_sr rfl ?_  -- r5 @low.go:126
    simp only [go_sem, reduceIte, Nat.reduceEqDiff, Nat.reduceAdd, Nat.reduceMul, Nat.reduceSub, Nat.reduceLeDiff, Nat.reduceLT, reduceCtorEq, toNat1, take_map_len, hr.slice]
    refine ⟨⟨⟨by omega, by omega⟩, by rw [← ePat_eq, ← List.map_cons]; exact wid_ePat _⟩, ?_⟩
    have hsum' : n + (if q.kind = 2 then 1 else 0) + bindsFs (rest ++ (if q.kind = 6 then q.args else [])) = bindsF p := by
      rw [bindsFs_append]
      by_cases h2 : q.kind = 2
      · rw [if_pos h2] at hsum ⊢
        rw [if_neg (by omega)]
        simp [bindsFs]; omega
      · rw [if_neg h2] at hsum ⊢
        by_cases h6 : q.kind = 6
        · rw [if_pos h6] at hsum ⊢; omega
        · rw [if_neg h6] at hsum ⊢; simp [bindsFs]; omega
    refine aw_mid (fun f' G' => FSub [(3, .int .i64 ((n + (if q.kind = 2 then 1 else 0) : Nat) : Int)), (4, .sl (rest.map ePat) false tg), (5, .ptr b5 0)] f' ∧ G' = B2) ?_ ?_
    · refine aw_sr rfl ?_  -- r6 @low.go:127
      simp only [go_sem, reduceIte, Nat.reduceEqDiff, Nat.reduceAdd, Nat.reduceMul, Nat.reduceSub, Nat.reduceLeDiff, Nat.reduceLT, reduceCtorEq, h5]
      refine aw_if rfl (fun h => ?_) (fun h => ?_)
      · have h : q.kind = 2 := by simpa using h
        refine aw_rg rfl ?_  -- r7 @low.go:128
        simp only [go_sem, reduceIte, Nat.reduceEqDiff, Nat.reduceAdd, Nat.reduceMul, Nat.reduceSub, Nat.reduceLeDiff, Nat.reduceLT, reduceCtorEq, show IntKind.i64.wrap ((n : Int) + 1) = ((n + (if q.kind = 2 then 1 else 0) : Nat) : Int) by rw [if_pos h, wrap64 (by omega) (by omega)]; omega]
        exact ⟨⟨rfl, rfl, rfl⟩, rfl⟩
      · have h : ¬ q.kind = 2 := by simpa using h
        rw [if_neg h]
        exact aw_skip ⟨⟨rfl, rfl, rfl⟩, rfl⟩
    intro f' G' ⟨hf, hg⟩
    rw [hg]
    refine AW.of_fsub hf ?_
    refine aw_sr rfl ?_  -- r8 @low.go:130
    simp only [go_sem, reduceIte, Nat.reduceEqDiff, Nat.reduceAdd, Nat.reduceMul, Nat.reduceSub, Nat.reduceLeDiff, Nat.reduceLT, reduceCtorEq, h5]
    refine aw_if rfl (fun h => ?_) (fun h => ?_)
    · have h : q.kind = 6 := by simpa using h
      rw [if_pos h] at hsum'
      refine aw_rg rfl ?_  -- r9 @low.go:131
      simp only [go_sem, reduceIte, Nat.reduceEqDiff, Nat.reduceAdd, Nat.reduceMul, Nat.reduceSub, Nat.reduceLeDiff, Nat.reduceLT, reduceCtorEq, h5]
      refine goP_rm hr hs ?_ fun t' H' hr' hs' hg => ?_
      · exact ⟨rfl, rfl, by decide, wid_ePat _, wid_ePat _, sca_map (g := ePat) (fun a => by rw [ePat_eq]; simp [scalarV]) _, by simp; omega, by simp; omega⟩
      simp only [go_sem, reduceIte, Nat.reduceEqDiff, Nat.reduceAdd, Nat.reduceMul, Nat.reduceSub, Nat.reduceLeDiff, Nat.reduceLT, reduceCtorEq, Bool.false_and, ← List.map_append]
      refine ⟨⟨(n + (if q.kind = 2 then 1 else 0), rest ++ q.args, t', H'), hsum', by simp only [pszs_append]; omega, ?_, hr', hs'⟩, ?_, ?_, sub_rfl⟩
      · intro a ha
        rcases List.mem_append.1 ha with ha | ha
        · exact hok a (by simp [ha])
        · exact hq.arg ha
      · simp only [pszs, pszs_append]; omega
      · simp only [go_sem, reduceIte, Nat.reduceEqDiff, Nat.reduceAdd, Nat.reduceMul, Nat.reduceSub, Nat.reduceLeDiff, Nat.reduceLT, reduceCtorEq]
    · have h : ¬ q.kind = 6 := by simpa using h
      rw [if_neg h, List.append_nil] at hsum'
      refine aw_skip ⟨⟨(n + (if q.kind = 2 then 1 else 0), rest, tg, B2), hsum', by show pszs rest ≤ _; omega, fun a ha => hok a (by simp [ha]), hr, hs⟩, ?_, ?_, sub_rfl⟩
      · simp only [pszs]; omega
      · simp only [go_sem, reduceIte, Nat.reduceEqDiff, Nat.reduceAdd, Nat.reduceMul, Nat.reduceSub, Nat.reduceLeDiff, Nat.reduceLT, reduceCtorEq]
  have hnil : todo = [] := by
    cases todo with
    | nil => rfl
    | cons q rest => simp at h
  subst hnil
  refine aw_exit ?_  -- 0
  refine hK5 _ _ ?_
  refine aw_sr rfl ?_  -- r10 @low.go:134
  simp only [go_sem, reduceIte, Nat.reduceEqDiff, Nat.reduceAdd, Nat.reduceMul, Nat.reduceSub, Nat.reduceLeDiff, Nat.reduceLT, reduceCtorEq]
  refine aw_ret ⟨trivial, _, rfl, ?_, hs⟩
  rw [← hsum]
  exact Vle.refl _
/-! ### operators -/
def opNames : List (List UInt8) := [[43], [45], [42], [47], [37], [60], [61], [94], [110, 111, 116]]
theorem q_Names : Quiet Try.prog 274 [] (.sl (opNames.map eNm) false .no) := by
  refine Quiet.weak fun G => ?_
  refine acall_body (rs := [.tmp 0]) Try.func274 rfl rfl Try.ntmps274 (by kernel_rfl) (Nat.le_of_ble_eq_true rfl) ?_
  refine aw_sr rfl ?_
  simp only [go_sem, reduceIte, Nat.reduceEqDiff, Nat.reduceAdd, Nat.reduceMul, Nat.reduceSub, Nat.reduceLeDiff, Nat.reduceLT, reduceCtorEq]
  refine aw_sr rfl ?_
  simp only [go_sem, reduceIte, Nat.reduceEqDiff, Nat.reduceAdd, Nat.reduceMul, Nat.reduceSub, Nat.reduceLeDiff, Nat.reduceLT, reduceCtorEq]
  exact aw_ret ⟨trivial, _, rfl, Vle.untag, sub_rfl⟩
/-- The number of an operator. -/
def opV : Option Nat → V
  | none => .tup [.int .i64 0, .int .i64 4]
  | some i => .tup [.int .i64 (i : Nat), .int .i64 0]
end Go.Proofs.Ytkhgcikaojhknaa

/- The arguments of 'roadlaw1.CodeChecks' as data; no conditions. -/
set_option linter.unusedVariables false
set_option linter.unusedSimpArgs false
set_option maxRecDepth 100000
namespace Go.Proofs.Ytkhgcikaojhknaa.codeChecks
open Go.RowKit Go.Proofs.YtkhgcikaojhknaaV
abbrev e50 := eNmL
abbrev o50 := oNmL
theorem d50 (n : Nat) : Dec Try.prog 50 e50 o50 n := dNmL n
theorem p50 (x : Nms) : 1 ≤ vszL (e50 x) := pNmL x
def e3 (x : Int) : List V := [.int .i64 x]
def o3 (x : Int) : Prop := IntKind.i64.min ≤ x ∧ x ≤ IntKind.i64.max
theorem d3 (n : Nat) : Dec Try.prog 3 e3 o3 n := dec_int (by kernel_rfl)
theorem p3 (x : Int) : 1 ≤ vszL (e3 x) := by simp only [e3, vszL, vsz]; omega
abbrev D31 := List Int × Bool
def e31 (x : D31) : List V := [.sl (x.1.map e3) x.2 .no]
def o31 (x : D31) : Prop := OkS o3 x
theorem d31 (n : Nat) : Dec Try.prog 31 e31 o31 n := dec_slice (el := 3) (by kernel_rfl) p3 (fun m _ => d3 m)
theorem p31 (x : D31) : 1 ≤ vszL (e31 x) := by simp only [e31, vszL, vsz]; omega
def e9 (x : (List UInt8)) : List V := [.str x]
def o9 (x : (List UInt8)) : Prop := x.length ≤ bulk
theorem d9 (n : Nat) : Dec Try.prog 9 e9 o9 n := dec_str (by kernel_rfl)
theorem p9 (x : (List UInt8)) : 1 ≤ vszL (e9 x) := by simp only [e9, vszL, vsz]; omega
abbrev D148 := Int × Int × Int × Int × D31
def e148 (x : D148) : List V := [.int .i64 x.1, .int .i64 x.2.1, .int .i64 x.2.2.1, .int .i64 x.2.2.2.1, .sl (x.2.2.2.2.1.map e3) x.2.2.2.2.2 .no]
def o148 (x : D148) : Prop := o3 x.1 ∧ o3 x.2.1 ∧ o3 x.2.2.1 ∧ o3 x.2.2.2.1 ∧ o31 x.2.2.2.2
theorem d148 (n : Nat) : Dec Try.prog 148 e148 o148 n := by
  intro cs hv hb
  obtain ⟨m, rfl, h⟩ := dec_struct (ts := [3, 3, 3, 3, 31]) (by kernel_rfl) hv
  obtain ⟨a0, r0, rfl, _, h0, a1, r1, rfl, _, h1, a2, r2, rfl, _, h2, a3, r3, rfl, _, h3, a4, r4, rfl, _, h4, rfl⟩ := h
  simp only [vszL_append] at hb
  obtain ⟨x0, rfl, q0⟩ := d3 m _ h0 (by omega)
  obtain ⟨x1, rfl, q1⟩ := d3 m _ h1 (by omega)
  obtain ⟨x2, rfl, q2⟩ := d3 m _ h2 (by omega)
  obtain ⟨x3, rfl, q3⟩ := d3 m _ h3 (by omega)
  obtain ⟨x4, rfl, q4⟩ := d31 m _ h4 (by omega)
  exact ⟨(x0, x1, x2, x3, x4), rfl, q0, q1, q2, q3, q4⟩
theorem p148 (x : D148) : 1 ≤ vszL (e148 x) := by simp only [e148, vszL, vsz]; omega
abbrev D149 := List D148 × Bool
def e149 (x : D149) : List V := [.sl (x.1.map e148) x.2 .no]
def o149 (x : D149) : Prop := OkS o148 x
theorem d149 (n : Nat) : Dec Try.prog 149 e149 o149 n := dec_slice (el := 148) (by kernel_rfl) p148 (fun m _ => d148 m)
theorem p149 (x : D149) : 1 ≤ vszL (e149 x) := by simp only [e149, vszL, vsz]; omega
abbrev D151 := (List UInt8) × Int × Int × Int × D149
def e151 (x : D151) : List V := [.str x.1, .int .i64 x.2.1, .int .i64 x.2.2.1, .int .i64 x.2.2.2.1, .sl (x.2.2.2.2.1.map e148) x.2.2.2.2.2 .no]
def o151 (x : D151) : Prop := o9 x.1 ∧ o3 x.2.1 ∧ o3 x.2.2.1 ∧ o3 x.2.2.2.1 ∧ o149 x.2.2.2.2
theorem d151 (n : Nat) : Dec Try.prog 151 e151 o151 n := by
  intro cs hv hb
  obtain ⟨m, rfl, h⟩ := dec_struct (ts := [9, 3, 3, 3, 149]) (by kernel_rfl) hv
  obtain ⟨a0, r0, rfl, _, h0, a1, r1, rfl, _, h1, a2, r2, rfl, _, h2, a3, r3, rfl, _, h3, a4, r4, rfl, _, h4, rfl⟩ := h
  simp only [vszL_append] at hb
  obtain ⟨x0, rfl, q0⟩ := d9 m _ h0 (by omega)
  obtain ⟨x1, rfl, q1⟩ := d3 m _ h1 (by omega)
  obtain ⟨x2, rfl, q2⟩ := d3 m _ h2 (by omega)
  obtain ⟨x3, rfl, q3⟩ := d3 m _ h3 (by omega)
  obtain ⟨x4, rfl, q4⟩ := d149 m _ h4 (by omega)
  exact ⟨(x0, x1, x2, x3, x4), rfl, q0, q1, q2, q3, q4⟩
theorem p151 (x : D151) : 1 ≤ vszL (e151 x) := by simp only [e151, vszL, vsz]; omega
abbrev D51 := List D151 × Bool
def e51 (x : D51) : List V := [.sl (x.1.map e151) x.2 .no]
def o51 (x : D51) : Prop := OkS o151 x
theorem d51 (n : Nat) : Dec Try.prog 51 e51 o51 n := dec_slice (el := 151) (by kernel_rfl) p151 (fun m _ => d151 m)
theorem p51 (x : D51) : 1 ≤ vszL (e51 x) := by simp only [e51, vszL, vsz]; omega
def e4 (x : Bool) : List V := [.bool x]
def o4 (x : Bool) : Prop := True
theorem d4 (n : Nat) : Dec Try.prog 4 e4 o4 n := dec_bool (by kernel_rfl)
theorem p4 (x : Bool) : 1 ≤ vszL (e4 x) := by simp only [e4, vszL, vsz]; omega
abbrev D299 := (List UInt8) × Int × Int × Bool
def e299 (x : D299) : List V := [.str x.1, .int .i64 x.2.1, .int .i64 x.2.2.1, .bool x.2.2.2]
def o299 (x : D299) : Prop := o9 x.1 ∧ o3 x.2.1 ∧ o3 x.2.2.1 ∧ o4 x.2.2.2
theorem d299 (n : Nat) : Dec Try.prog 299 e299 o299 n := by
  intro cs hv hb
  obtain ⟨m, rfl, h⟩ := dec_struct (ts := [9, 3, 3, 4]) (by kernel_rfl) hv
  obtain ⟨a0, r0, rfl, _, h0, a1, r1, rfl, _, h1, a2, r2, rfl, _, h2, a3, r3, rfl, _, h3, rfl⟩ := h
  simp only [vszL_append] at hb
  obtain ⟨x0, rfl, q0⟩ := d9 m _ h0 (by omega)
  obtain ⟨x1, rfl, q1⟩ := d3 m _ h1 (by omega)
  obtain ⟨x2, rfl, q2⟩ := d3 m _ h2 (by omega)
  obtain ⟨x3, rfl, q3⟩ := d4 m _ h3 (by omega)
  exact ⟨(x0, x1, x2, x3), rfl, q0, q1, q2, q3⟩
theorem p299 (x : D299) : 1 ≤ vszL (e299 x) := by simp only [e299, vszL, vsz]; omega
abbrev D52 := List D299 × Bool
def e52 (x : D52) : List V := [.sl (x.1.map e299) x.2 .no]
def o52 (x : D52) : Prop := OkS o299 x
theorem d52 (n : Nat) : Dec Try.prog 52 e52 o52 n := dec_slice (el := 299) (by kernel_rfl) p299 (fun m _ => d299 m)
theorem p52 (x : D52) : 1 ≤ vszL (e52 x) := by simp only [e52, vszL, vsz]; omega
abbrev D75 := (List UInt8) × (List UInt8) × Int
def e75 (x : D75) : List V := [.str x.1, .str x.2.1, .int .i64 x.2.2]
def o75 (x : D75) : Prop := o9 x.1 ∧ o9 x.2.1 ∧ o3 x.2.2
theorem d75 (n : Nat) : Dec Try.prog 75 e75 o75 n := by
  intro cs hv hb
  obtain ⟨m, rfl, h⟩ := dec_struct (ts := [9, 9, 3]) (by kernel_rfl) hv
  obtain ⟨a0, r0, rfl, _, h0, a1, r1, rfl, _, h1, a2, r2, rfl, _, h2, rfl⟩ := h
  simp only [vszL_append] at hb
  obtain ⟨x0, rfl, q0⟩ := d9 m _ h0 (by omega)
  obtain ⟨x1, rfl, q1⟩ := d9 m _ h1 (by omega)
  obtain ⟨x2, rfl, q2⟩ := d3 m _ h2 (by omega)
  exact ⟨(x0, x1, x2), rfl, q0, q1, q2⟩
theorem p75 (x : D75) : 1 ≤ vszL (e75 x) := by simp only [e75, vszL, vsz]; omega
abbrev D53 := List D75 × Bool
def e53 (x : D53) : List V := [.sl (x.1.map e75) x.2 .no]
def o53 (x : D53) : Prop := OkS o75 x
theorem d53 (n : Nat) : Dec Try.prog 53 e53 o53 n := dec_slice (el := 75) (by kernel_rfl) p75 (fun m _ => d75 m)
theorem p53 (x : D53) : 1 ≤ vszL (e53 x) := by simp only [e53, vszL, vsz]; omega
abbrev D301 := (List UInt8) × (List UInt8) × Int
def e301 (x : D301) : List V := [.str x.1, .str x.2.1, .int .i64 x.2.2]
def o301 (x : D301) : Prop := o9 x.1 ∧ o9 x.2.1 ∧ o3 x.2.2
theorem d301 (n : Nat) : Dec Try.prog 301 e301 o301 n := by
  intro cs hv hb
  obtain ⟨m, rfl, h⟩ := dec_struct (ts := [9, 9, 3]) (by kernel_rfl) hv
  obtain ⟨a0, r0, rfl, _, h0, a1, r1, rfl, _, h1, a2, r2, rfl, _, h2, rfl⟩ := h
  simp only [vszL_append] at hb
  obtain ⟨x0, rfl, q0⟩ := d9 m _ h0 (by omega)
  obtain ⟨x1, rfl, q1⟩ := d9 m _ h1 (by omega)
  obtain ⟨x2, rfl, q2⟩ := d3 m _ h2 (by omega)
  exact ⟨(x0, x1, x2), rfl, q0, q1, q2⟩
theorem p301 (x : D301) : 1 ≤ vszL (e301 x) := by simp only [e301, vszL, vsz]; omega
abbrev D54 := List D301 × Bool
def e54 (x : D54) : List V := [.sl (x.1.map e301) x.2 .no]
def o54 (x : D54) : Prop := OkS o301 x
theorem d54 (n : Nat) : Dec Try.prog 54 e54 o54 n := dec_slice (el := 301) (by kernel_rfl) p301 (fun m _ => d301 m)
theorem p54 (x : D54) : 1 ≤ vszL (e54 x) := by simp only [e54, vszL, vsz]; omega
abbrev e87 := ePat
abbrev o87 := oPat
theorem d87 (n : Nat) : Dec Try.prog 87 e87 o87 n := dPat n
theorem p87 (x : Pat) : 1 ≤ vszL (e87 x) := pPat x
abbrev D80 := List Pat × Bool
def e80 (x : D80) : List V := [.sl (x.1.map e87) x.2 .no]
def o80 (x : D80) : Prop := OkS o87 x
theorem d80 (n : Nat) : Dec Try.prog 80 e80 o80 n := dec_slice (el := 87) (by kernel_rfl) p87 (fun m _ => d87 m)
theorem p80 (x : D80) : 1 ≤ vszL (e80 x) := by simp only [e80, vszL, vsz]; omega
abbrev D55 := List D80 × Bool
def e55 (x : D55) : List V := [.sl (x.1.map e80) x.2 .no]
def o55 (x : D55) : Prop := OkS o80 x
theorem d55 (n : Nat) : Dec Try.prog 55 e55 o55 n := dec_slice (el := 80) (by kernel_rfl) p80 (fun m _ => d80 m)
theorem p55 (x : D55) : 1 ≤ vszL (e55 x) := by simp only [e55, vszL, vsz]; omega
abbrev D57 := Nms × D31 × D51 × D52 × D53 × D54 × D55
def e57 (x : D57) : List V := [.sl (x.1.1.map eNm) x.1.2 .no, .sl (x.2.1.1.map e3) x.2.1.2 .no, .sl (x.2.2.1.1.map e151) x.2.2.1.2 .no, .sl (x.2.2.2.1.1.map e299) x.2.2.2.1.2 .no, .sl (x.2.2.2.2.1.1.map e75) x.2.2.2.2.1.2 .no, .sl (x.2.2.2.2.2.1.1.map e301) x.2.2.2.2.2.1.2 .no, .sl (x.2.2.2.2.2.2.1.map e80) x.2.2.2.2.2.2.2 .no]
def o57 (x : D57) : Prop := o50 x.1 ∧ o31 x.2.1 ∧ o51 x.2.2.1 ∧ o52 x.2.2.2.1 ∧ o53 x.2.2.2.2.1 ∧ o54 x.2.2.2.2.2.1 ∧ o55 x.2.2.2.2.2.2
theorem d57 (n : Nat) : Dec Try.prog 57 e57 o57 n := by
  intro cs hv hb
  obtain ⟨m, rfl, h⟩ := dec_struct (ts := [50, 31, 51, 52, 53, 54, 55]) (by kernel_rfl) hv
  obtain ⟨a0, r0, rfl, _, h0, a1, r1, rfl, _, h1, a2, r2, rfl, _, h2, a3, r3, rfl, _, h3, a4, r4, rfl, _, h4, a5, r5, rfl, _, h5, a6, r6, rfl, _, h6, rfl⟩ := h
  simp only [vszL_append] at hb
  obtain ⟨x0, rfl, q0⟩ := d50 m _ h0 (by omega)
  obtain ⟨x1, rfl, q1⟩ := d31 m _ h1 (by omega)
  obtain ⟨x2, rfl, q2⟩ := d51 m _ h2 (by omega)
  obtain ⟨x3, rfl, q3⟩ := d52 m _ h3 (by omega)
  obtain ⟨x4, rfl, q4⟩ := d53 m _ h4 (by omega)
  obtain ⟨x5, rfl, q5⟩ := d54 m _ h5 (by omega)
  obtain ⟨x6, rfl, q6⟩ := d55 m _ h6 (by omega)
  exact ⟨(x0, x1, x2, x3, x4, x5, x6), by simp only [e57, e50, e31, e51, e52, e53, e54, e55, eVal_eq, eTyp_eq, eEx_eq, ePat_eq, cTyp, cEx, cPat, eTypL, eNmL, List.cons_append, List.nil_append, List.append_nil], q0, q1, q2, q3, q4, q5, q6⟩
theorem p57 (x : D57) : 1 ≤ vszL (e57 x) := by simp only [e57, vszL, vsz]; omega
theorem args {xs : List V} (h : TyAll Try.prog [57] xs) (hs : vszL xs ≤ 1048576) : ∃ (x0 : D57), xs = [.agg (e57 x0)] ∧ o57 x0 := by
  obtain ⟨y0, r0, rfl, h0, rfl⟩ := h
  simp only [vszL] at hs
  obtain ⟨x0, rfl, q0⟩ := dec_agg (by kernel_rfl) d57 h0 (by show vsz _ ≤ 1048576; omega)
  exact ⟨x0, rfl, q0⟩
end Go.Proofs.Ytkhgcikaojhknaa.codeChecks

/- Arms out of numbers, by both texts: what they answer. Condition: fewer than 2^20 numbers. -/
set_option linter.unusedSimpArgs false
set_option linter.unusedVariables false
namespace Go.Proofs.Ytkhgcikaojhknaa
open Go.Proofs.YtkhgcikaojhknaaV
set_option maxHeartbeats 400000
set_option maxRecDepth 100000
def eI (n : Int) : List V := [.int .i64 n]
theorem wid_eI (xs : List Int) : wid 1 (xs.map eI) := wid_map (g := eI) (fun _ => rfl) _
theorem sca_eI (xs : List Int) : sca (xs.map eI) := sca_map (g := eI) (fun a x hx => by simp [eI] at hx; subst hx; rfl) _
abbrev Ar := Int × List Int
def eAr (a : Ar) : List V := [.int .i64 a.1, .sl (a.2.map eI) a.2.isEmpty .no]
theorem wid_eAr (xs : List Ar) : wid 2 (xs.map eAr) := wid_map (g := eAr) (fun _ => rfl) _
def gatN : Nat → List Int → Option (List Ar)
  | _, [] => some []
  | _, [_] => none
  | 0, _ :: _ :: _ => none
  | n + 1, a :: k :: l => if k < 0 ∨ (l.length : Int) < k then none else (gatN n (l.drop k.toNat)).map ((a, l.take k.toNat) :: ·)
theorem gatN_eq : ∀ (n m : Nat) (l : List Int), l.length ≤ n → l.length ≤ m → gatN n l = gatN m l
  | n, m, [], _, _ => by cases n <;> cases m <;> rfl
  | n, m, [_], _, _ => by cases n <;> cases m <;> rfl
  | 0, m, _ :: _ :: _, h, _ => by simp at h
  | n + 1, 0, _ :: _ :: _, _, h => by simp at h
  | n + 1, m + 1, a :: k :: l, h, h' => by
    rw [gatN, gatN]
    split
    · rfl
    · simp only [List.length_cons] at h h'
      rw [gatN_eq n m (l.drop k.toNat) (by rw [List.length_drop]; omega) (by rw [List.length_drop]; omega)]
/-- Arms spread out as numbers, taken together again. -/
def gatF (l : List Int) : Option (List Ar) := gatN l.length l
theorem gatF_nil : gatF [] = some [] := rfl
theorem gatF_one (a : Int) : gatF [a] = none := rfl
theorem gatF_bad {a k : Int} {l : List Int} (h : k < 0 ∨ (l.length : Int) < k) : gatF (a :: k :: l) = none := by
  show gatN (l.length + 1 + 1) _ = _
  rw [gatN, if_pos h]
theorem gatF_step {a k : Int} {l : List Int} (h : ¬ (k < 0 ∨ (l.length : Int) < k)) : gatF (a :: k :: l) = (gatF (l.drop k.toNat)).map ((a, l.take k.toNat) :: ·) := by
  show gatN (l.length + 1 + 1) _ = _
  rw [gatN, if_neg h, gatN_eq _ (l.drop k.toNat).length _ (by rw [List.length_drop]; omega) (Nat.le_refl _)]; rfl
def gatV (no yes : V) : Option (List Ar) → V
  | none => .tup [.sl [] true .no, no]
  | some l => .tup [.sl (l.map eAr) l.isEmpty .no, yes]
theorem take_eI (xs : List Int) (n : Nat) : (xs.map eI).take n = (xs.take n).map eI := by rw [List.map_take]
theorem drop_eI (xs : List Int) (n : Nat) : (xs.map eI).drop n = (xs.drop n).map eI := by rw [List.map_drop]
theorem getD_eI {xs : List Int} {i : Nat} (h : i < xs.length) : (xs.map eI).getD i [] = [.int .i64 xs[i]] := getD_map h
theorem q_Gather (l0 : List Int) (nl0 : Bool) (tg0 : Tag) (hl0 : l0.length ≤ 1048576) : Quiet Try.prog 272 [.sl (l0.map eI) nl0 tg0] (gatV (.int .i64 3) (.int .i64 0) (gatF l0)) := by
  refine Quiet.weak fun G => ?_
  refine acall_body (rs := [.tmp 2, .tmp 3]) Try.func272 rfl rfl Try.ntmps272 (by kernel_rfl) (Nat.le_of_ble_eq_true rfl) ?_
  refine aw_sr rfl ?_  -- r0 @code.go:118
  simp only [go_sem, reduceIte, Nat.reduceEqDiff, Nat.reduceAdd, Nat.reduceMul, Nat.reduceSub, Nat.reduceLeDiff, Nat.reduceLT, reduceCtorEq]
  refine aw_sr rfl ?_  -- r1 @code.go:119
  simp only [go_sem, reduceIte, Nat.reduceEqDiff, Nat.reduceAdd, Nat.reduceMul, Nat.reduceSub, Nat.reduceLeDiff, Nat.reduceLT, reduceCtorEq]
  refine aw_seq fun K1 hK1 => ?_
  refine aw_block ?_  -- 0
  refine aw_lph (S := {s : List Int × Bool × Tag × List Ar × Tag × Heap // s.1.length ≤ l0.length ∧ gatF l0 = (gatF s.1).map (s.2.2.2.1 ++ ·) ∧ s.2.2.2.1.length + s.1.length ≤ l0.length ∧ Rm G s.2.2.2.2.2 2 s.2.2.2.2.1 ∧ Sub G s.2.2.2.2.2}) (fun s => [(0, .sl (s.1.1.map eI) s.1.2.1 s.1.2.2.1), (4, .sl (s.1.2.2.2.1.map eAr) s.1.2.2.2.1.isEmpty s.1.2.2.2.2.1)]) (fun s => s.1.2.2.2.2.2) (fun s => s.1.1.length)
    ⟨(l0, nl0, tg0, [], .full, G), Nat.le_refl _, by cases gatF l0 <;> rfl, by simp, Rm.start _ _ _, sub_rfl⟩ ?_ (fun _ _ h => h) ?_
  · simp only [go_sem, reduceIte, Nat.reduceEqDiff, Nat.reduceAdd, Nat.reduceMul, Nat.reduceSub, Nat.reduceLeDiff, Nat.reduceLT, reduceCtorEq]
  intro ⟨⟨l, nl, tg, out, ot, H⟩, hle, hres, hsum, hr, hs⟩
  simp only at hle hres hsum hr hs ⊢
  refine aw_seq fun K2 hK2 => ?_
  refine aw_sr rfl ?_  -- r2 @code.go:120
  simp only [go_sem, reduceIte, Nat.reduceEqDiff, Nat.reduceAdd, Nat.reduceMul, Nat.reduceSub, Nat.reduceLeDiff, Nat.reduceLT, reduceCtorEq]
  refine aw_if rfl (fun h => ?_) (fun h => ?_)
  · refine aw_skip (hK2 _ _ ?_)
    refine aw_block ?_  -- 1
    refine aw_seq fun K3 hK3 => ?_
    refine aw_srq [(0,true),(1,true),(2,true),(3,true),(4,true),(5,true),(6,true),(7,true),(8,true),(9,true),(10,true),(11,true),(12,true),(13,true),(14,true),(15,true),(16,true),(17,true)] rfl rfl ?_  -- r3 @code.go:121
    match l, h, hle, hres, hsum with
    | [a], _, hle, hres, hsum =>
      simp only [go_sem, reduceIte, Nat.reduceEqDiff, Nat.reduceAdd, Nat.reduceMul, Nat.reduceSub, Nat.reduceLeDiff, Nat.reduceLT, reduceCtorEq, List.map_cons, List.map_nil, eI, show decide (((1 : Nat) : Int) < 2) = true from rfl, Bool.false_eq_true, false_implies, true_and, show Int.toNat 1 = 1 from rfl, List.getD_cons_succ, Bool.true_or]
      refine aw_if (b := true) rfl (fun h => ?_) (fun h => by cases h)
      refine aw_sr rfl ?_  -- r4 @code.go:122
      simp only [go_sem, reduceIte, Nat.reduceEqDiff, Nat.reduceAdd, Nat.reduceMul, Nat.reduceSub, Nat.reduceLeDiff, Nat.reduceLT, reduceCtorEq]
      refine aw_ret ⟨trivial, _, rfl, ?_, hs⟩
      rw [hres, gatF_one]
      exact Vle.tupL (.cons Vle.untag (.cons (Vle.refl _) .nil))
    | a :: k :: l, _, hle, hres, hsum =>
      have hl2 : decide ((((l.length + 1 + 1) : Nat) : Int) < 2) = false := decide_eq_false (by omega)
      simp only [go_sem, reduceIte, Nat.reduceEqDiff, Nat.reduceAdd, Nat.reduceMul, Nat.reduceSub, Nat.reduceLeDiff, Nat.reduceLT, reduceCtorEq, List.map_cons, eI, hl2, true_implies, show Int.toNat 1 = 1 from rfl, List.getD_cons_succ, List.getD_cons_zero, Bool.false_or]
      have hwd : wid 1 ([V.int .i64 a] :: [V.int .i64 k] :: l.map eI) := wid_eI (a :: k :: l)
      simp only [List.length_cons] at hle hsum
      refine ⟨⟨by omega, by omega, hwd⟩, fun _ => ⟨by omega, by omega, hwd⟩, ?_⟩
      have hsub : IntKind.i64.wrap (((l.length + 1 + 1 : Nat) : Int) - 2) = (l.length : Nat) := by rw [wrap64 (by omega) (by omega)]; omega
      refine aw_if rfl (fun h => ?_) (fun h => ?_)
      · have hb : k < 0 ∨ (l.length : Int) < k := by
          rw [hsub] at h
          simpa using h
        refine aw_sr rfl ?_  -- r4 @code.go:122
        simp only [go_sem, reduceIte, Nat.reduceEqDiff, Nat.reduceAdd, Nat.reduceMul, Nat.reduceSub, Nat.reduceLeDiff, Nat.reduceLT, reduceCtorEq]
        refine aw_ret ⟨trivial, _, rfl, ?_, hs⟩
        rw [hres, gatF_bad hb]
        exact Vle.tupL (.cons Vle.untag (.cons (Vle.refl _) .nil))
      have hb : ¬ (k < 0 ∨ (l.length : Int) < k) := by
        rw [hsub] at h
        simpa using h
      have hk0 : 0 ≤ k ∧ k ≤ l.length := by omega
      rw [gatF_step hb] at hres
      have hadd : IntKind.i64.wrap (2 + k) = 2 + k := wrap64 (by omega) (by omega)
      have hnat : (2 + k).toNat = k.toNat + 2 := by omega
      refine aw_skip (hK3 _ _ ?_)
      refine aw_sr rfl ?_  -- r5 @code.go:124
      simp only [go_sem, reduceIte, Nat.reduceEqDiff, Nat.reduceAdd, Nat.reduceMul, Nat.reduceSub, Nat.reduceLeDiff, Nat.reduceLT, reduceCtorEq, toNat1, List.getD_cons_succ, List.getD_cons_zero]
      refine ⟨⟨by omega, by omega, hwd⟩, ?_⟩
      refine aw_srd [(0,true),(1,true),(2,true),(3,true),(4,true),(5,true),(6,true),(7,true),(8,false),(9,true),(10,true),(11,false),(12,true)] mixed rfl (by kernel_rfl) ?_  -- r6 @code.go:125
      simp only [go_sem, reduceIte, Nat.reduceEqDiff, Nat.reduceAdd, Nat.reduceMul, Nat.reduceSub, Nat.reduceLeDiff, Nat.reduceLT, reduceCtorEq, Int.toNat_zero, List.getD_cons_zero, hadd, hnat, toNat2, take_eI]
      refine ⟨⟨by omega, by omega, hwd⟩, ⟨⟨⟨by omega, by omega⟩, by omega, by omega⟩, hwd⟩, ?_⟩
      refine goP_rm (G := G) (Rm.start _ _ _) hs ?_ fun t1 H1 hr1 hs1 hg1 => ?_
      · exact ⟨rfl, rfl, by decide, by simp [wid], wid_eI _, sca_eI _, by simp; omega, by simp; omega⟩
      simp only [go_sem, reduceIte, Nat.reduceEqDiff, Nat.reduceAdd, Nat.reduceMul, Nat.reduceSub, Nat.reduceLeDiff, Nat.reduceLT, reduceCtorEq, List.nil_append, Bool.true_and]
      refine goP_rm (hg1.rm hr (Dis.full' _)) hs1 ?_ fun t2 H2 hr2 hs2 hg2 => ?_
      · exact ⟨rfl, rfl, by decide, wid_eAr _, wid_one rfl, sca_one rfl, by simp; omega, by simp; omega⟩
      simp only [go_sem, reduceIte, Nat.reduceEqDiff, Nat.reduceAdd, Nat.reduceMul, Nat.reduceSub, Nat.reduceLeDiff, Nat.reduceLT, reduceCtorEq]
      have hout : VleLL (out.map eAr ++ [[V.int .i64 a, V.sl ((l.take k.toNat).map eI) ((l.take k.toNat).map eI).isEmpty t1]]) ((out ++ [(a, l.take k.toNat)]).map eAr) := by
        rw [List.map_append]
        refine VleLL.snoc ?_ _
        rw [List.isEmpty_map]
        exact .cons (Vle.refl _) (.cons Vle.untag .nil)
      have hne : (out ++ [(a, l.take k.toNat)]).isEmpty = false := by cases out <;> rfl
      refine AW.of_fle (g := [(0, .sl ([V.int .i64 a] :: [V.int .i64 k] :: l.map eI) nl tg), (5, .int .i64 k), (4, .sl ((out ++ [(a, l.take k.toNat)]).map eAr) false t2)]) ⟨fle_same rfl, fle_same rfl, ⟨_, rfl, ?_⟩, trivial⟩ ?_
      · exact Vle.slT hout
      refine aw_rg rfl ?_  -- r7 @code.go:126
      simp only [go_sem, reduceIte, Nat.reduceEqDiff, Nat.reduceAdd, Nat.reduceMul, Nat.reduceSub, Nat.reduceLeDiff, Nat.reduceLT, reduceCtorEq, hadd, hnat, take_map_len, drop_eI]
      refine ⟨⟨⟨by omega, by omega⟩, hwd⟩, ?_⟩
      refine ⟨⟨(l.drop k.toNat, nl, sliceTag tg 1 (k.toNat + 2) (l.length + 1 + 1) (l.length + 1 + 1), out ++ [(a, l.take k.toNat)], t2, H2), by rw [List.length_drop]; omega, ?_, by rw [List.length_drop, List.length_append, List.length_singleton]; omega, hr2, hs2⟩, by show (l.drop k.toNat).length < _; rw [List.length_drop]; omega, ?_, sub_rfl⟩
      · rw [hres, Option.map_map]
        congr 1
        funext z
        simp
      · simp only [go_sem, reduceIte, Nat.reduceEqDiff, Nat.reduceAdd, Nat.reduceMul, Nat.reduceSub, Nat.reduceLeDiff, Nat.reduceLT, reduceCtorEq, hne]
  have hnil : l = [] := by
    cases l with
    | nil => rfl
    | cons a l => simp at h
  subst hnil
  refine aw_exit ?_  -- 0
  refine hK1 _ _ ?_
  refine aw_sr rfl ?_  -- r8 @code.go:128
  simp only [go_sem, reduceIte, Nat.reduceEqDiff, Nat.reduceAdd, Nat.reduceMul, Nat.reduceSub, Nat.reduceLeDiff, Nat.reduceLT, reduceCtorEq]
  refine aw_ret ⟨trivial, _, rfl, ?_, hs⟩
  rw [hres, gatF_nil]
  simp only [Option.map_some, List.append_nil]
  exact Vle.tupL (.cons Vle.untag (.cons (Vle.refl _) .nil))
theorem q_Split (l0 : List Int) (nl0 : Bool) (tg0 : Tag) (hl0 : l0.length ≤ 1048576) : Quiet Try.prog 228 [.sl (l0.map eI) nl0 tg0] (gatV (.bool false) (.bool true) (gatF l0)) := by
  refine Quiet.weak fun G => ?_
  refine acall_body (rs := [.tmp 2, .tmp 3]) Try.func228 rfl rfl Try.ntmps228 (by kernel_rfl) (Nat.le_of_ble_eq_true rfl) ?_
  refine aw_sr rfl ?_  -- r0 @low.go:68
  simp only [go_sem, reduceIte, Nat.reduceEqDiff, Nat.reduceAdd, Nat.reduceMul, Nat.reduceSub, Nat.reduceLeDiff, Nat.reduceLT, reduceCtorEq]
  refine aw_sr rfl ?_  -- r1 @low.go:69
  simp only [go_sem, reduceIte, Nat.reduceEqDiff, Nat.reduceAdd, Nat.reduceMul, Nat.reduceSub, Nat.reduceLeDiff, Nat.reduceLT, reduceCtorEq]
  refine aw_seq fun K1 hK1 => ?_
  refine aw_sr rfl ?_  -- r2 @low.go:70
  simp only [go_sem, reduceIte, Nat.reduceEqDiff, Nat.reduceAdd, Nat.reduceMul, Nat.reduceSub, Nat.reduceLeDiff, Nat.reduceLT, reduceCtorEq]
  refine aw_block ?_  -- 0
  refine aw_lph (S := {s : Nat × List Ar × Tag × Heap // s.1 ≤ l0.length ∧ gatF l0 = (gatF (l0.drop s.1)).map (s.2.1 ++ ·) ∧ s.2.1.length ≤ s.1 ∧ Rm G s.2.2.2 2 s.2.2.1 ∧ Sub G s.2.2.2}) (fun s => [(0, .sl (l0.map eI) nl0 tg0), (4, .sl (s.1.2.1.map eAr) s.1.2.1.isEmpty s.1.2.2.1), (5, .int .i64 s.1.1)]) (fun s => s.1.2.2.2) (fun s => l0.length - s.1.1)
    ⟨(0, [], .full, G), by simp, by simp only [List.drop_zero]; cases gatF l0 <;> rfl, by simp, Rm.start _ _ _, sub_rfl⟩ ?_ (fun _ _ h => h) ?_
  · simp only [go_sem, reduceIte, Nat.reduceEqDiff, Nat.reduceAdd, Nat.reduceMul, Nat.reduceSub, Nat.reduceLeDiff, Nat.reduceLT, reduceCtorEq, Int.natCast_zero]
  intro ⟨⟨at_, out, ot, H⟩, hle, hres, hsum, hr, hs⟩
  simp only at hle hres hsum hr hs ⊢
  refine aw_seq fun K2 hK2 => ?_
  refine aw_sr rfl ?_  -- r3 @low.go:70
  simp only [go_sem, reduceIte, Nat.reduceEqDiff, Nat.reduceAdd, Nat.reduceMul, Nat.reduceSub, Nat.reduceLeDiff, Nat.reduceLT, reduceCtorEq]
  refine aw_if rfl (fun h => ?_) (fun h => ?_)
  · have hlt : at_ < l0.length := by simpa using h
    have hw1 : IntKind.i64.wrap ((at_ : Int) + 1) = ((at_ + 1 : Nat) : Int) := by rw [wrap64 (by omega) (by omega)]; omega
    have hw2 : IntKind.i64.wrap (IntKind.i64.wrap ((l0.length : Int) - (at_ : Int)) - 2) = (l0.length : Int) - at_ - 2 := by
      rw [wrap64 (n := (l0.length : Int) - (at_ : Int)) (by omega) (by omega), wrap64 (by omega) (by omega)]
    have hd1 : l0.drop at_ = l0[at_] :: l0.drop (at_ + 1) := List.drop_eq_getElem_cons hlt
    refine aw_skip (hK2 _ _ ?_)
    refine aw_block ?_  -- 1
    refine aw_seq fun K3 hK3 => ?_
    refine aw_srq [(0,true),(1,true),(2,true),(3,true),(4,true),(5,true),(6,true),(7,true),(8,true),(9,true),(10,true),(11,true),(12,true),(13,true),(14,true),(15,true),(16,true),(17,true),(18,true),(19,true),(20,true),(21,true),(22,true),(23,true),(24,true),(25,true)] rfl rfl ?_  -- r4 @low.go:71
    by_cases hlt2 : at_ + 1 < l0.length
    · have hd2 : l0.drop (at_ + 1) = l0[at_ + 1] :: l0.drop (at_ + 2) := List.drop_eq_getElem_cons hlt2
      have hge : decide (((l0.length : Nat) : Int) ≤ ((at_ + 1 : Nat) : Int)) = false := decide_eq_false (by omega)
      have hlen : (l0.drop (at_ + 2)).length = l0.length - (at_ + 2) := List.length_drop
      rw [hd1, hd2] at hres
      generalize hk : l0[at_ + 1] = k at hres
      generalize ha : l0[at_] = a at hres
      simp only [go_sem, reduceIte, Nat.reduceEqDiff, Nat.reduceAdd, Nat.reduceMul, Nat.reduceSub, Nat.reduceLeDiff, Nat.reduceLT, reduceCtorEq, hw1, hge, hw2, getD_eI hlt2, hk, Bool.not_false, true_implies, Bool.false_or]
      refine ⟨⟨by omega, by omega, wid_eI _⟩, fun _ => ⟨by omega, by omega, wid_eI _⟩, ?_⟩
      refine aw_if rfl (fun h => ?_) (fun h => ?_)
      · have hb : k < 0 ∨ ((l0.drop (at_ + 2)).length : Int) < k := by
          simp only [Bool.or_eq_true, decide_eq_true_eq] at h
          omega
        refine aw_sr rfl ?_  -- r5 @low.go:72
        simp only [go_sem, reduceIte, Nat.reduceEqDiff, Nat.reduceAdd, Nat.reduceMul, Nat.reduceSub, Nat.reduceLeDiff, Nat.reduceLT, reduceCtorEq]
        refine aw_ret ⟨trivial, _, rfl, ?_, hs⟩
        rw [hres, gatF_bad hb]
        exact Vle.tupL (.cons Vle.untag (.cons (Vle.refl _) .nil))
      have hb : ¬ (k < 0 ∨ ((l0.drop (at_ + 2)).length : Int) < k) := by
        simp only [Bool.or_eq_false_iff, decide_eq_false_iff_not] at h
        omega
      rw [gatF_step hb] at hres
      refine aw_skip (hK3 _ _ ?_)
      refine aw_sr rfl ?_  -- r6 @low.go:74
      simp only [go_sem, reduceIte, Nat.reduceEqDiff, Nat.reduceAdd, Nat.reduceMul, Nat.reduceSub, Nat.reduceLeDiff, Nat.reduceLT, reduceCtorEq, getD_eI hlt, ha]
      refine ⟨⟨by omega, by omega, wid_eI _⟩, ?_⟩
      intro b6 hb6
      have hG6 := sub_none hs hb6
      refine aw_box1 hb6 fun B1 hs1 h6 => ?_
      replace hr := hr.sub hs1
      replace hs := sub_trans hs hs1
      refine aw_seq fun K4 hK4 => ?_
      refine aw_sr rfl ?_  -- r7 @low.go:75
      simp only [go_sem, reduceIte, Nat.reduceEqDiff, Nat.reduceAdd, Nat.reduceMul, Nat.reduceSub, Nat.reduceLeDiff, Nat.reduceLT, reduceCtorEq, getD_eI hlt2, hk, hw1]
      refine ⟨⟨by omega, by omega, wid_eI _⟩, ?_⟩
      have hk2 : (k.toNat : Int) = k := by omega
      refine aw_range k.toNat (S := Bool × Tag × Heap) (fun i st => [(0, .sl (l0.map eI) nl0 tg0), (4, .sl (out.map eAr) out.isEmpty ot), (5, .int .i64 at_), (6, .ptr b6 0)]) (fun _ st => st.2.2)
        (fun i st => Rm G st.2.2 1 st.2.1 ∧ Rm G st.2.2 2 ot ∧ Dis st.2.1 ot ∧ Sub G st.2.2 ∧ hget st.2.2 b6 = some (.vars [.int .i64 a, .sl (((l0.drop (at_ + 2)).take i).map eI) st.1 st.2.1]) ∧ st.1 = ((l0.drop (at_ + 2)).take i).isEmpty)
        (true, .full, B1) (by omega) ?_ (fun _ _ h => h) ⟨Rm.start _ _ _, hr, Dis.full' _, hs, by simpa using h6, by simp⟩ rfl (fun _ _ => rfl) ?_ ?_ (by decide)
      · simp only [go_sem, reduceIte, Nat.reduceEqDiff, Nat.reduceAdd, Nat.reduceMul, Nat.reduceSub, Nat.reduceLeDiff, Nat.reduceLT, reduceCtorEq, Int.natCast_zero, hk2]
      · intro i ⟨nl2, t2, H2⟩ hi ⟨hr1, hr2, hd, hs, h6, hnl⟩
        simp only at hr1 hr2 hd hs h6 hnl ⊢
        have hlt3 : at_ + 2 + i < l0.length := by omega
        have hlt4 : i < (l0.drop (at_ + 2)).length := by omega
        have hw3 : IntKind.i64.wrap (IntKind.i64.wrap ((at_ : Int) + 2) + (i : Int)) = ((at_ + 2 + i : Nat) : Int) := by
          rw [wrap64 (n := (at_ : Int) + 2) (by omega) (by omega), wrap64 (by omega) (by omega)]; omega
        have happ : ((l0.drop (at_ + 2)).take i).map eI ++ [[V.int .i64 l0[at_ + 2 + i]]] = ((l0.drop (at_ + 2)).take (i + 1)).map eI := by
          rw [List.take_succ_eq_append_getElem hlt4, List.map_append, List.getElem_drop]; rfl
        refine aw_sr rfl ?_  -- r9 @low.go:75
        simp only [go_sem, reduceIte, Nat.reduceEqDiff, Nat.reduceAdd, Nat.reduceMul, Nat.reduceSub, Nat.reduceLeDiff, Nat.reduceLT, reduceCtorEq]
        refine aw_rgd [(0,true),(1,true),(2,true),(3,true),(4,true),(5,true),(6,true),(7,true),(8,true),(9,true),(10,false),(11,true),(12,false)] mixed rfl (by kernel_rfl) ?_  -- r10 @low.go:76
        simp only [go_sem, reduceIte, Nat.reduceEqDiff, Nat.reduceAdd, Nat.reduceMul, Nat.reduceSub, Nat.reduceLeDiff, Nat.reduceLT, reduceCtorEq, h6, hw3, getD_eI hlt3]
        refine ⟨⟨by omega, by omega, wid_eI _⟩, ?_⟩
        refine goP_rm hr1 hs ?_ fun t' H' hr' hs' hg => ?_
        · exact ⟨rfl, rfl, by decide, wid_eI _, wid_one rfl, sca_one rfl, by simp; omega, by simp; omega⟩
        obtain ⟨hr3, hd3⟩ := hg.2 _ _ _ hr2 hd
        simp only [go_sem, reduceIte, Nat.reduceEqDiff, Nat.reduceAdd, Nat.reduceMul, Nat.reduceSub, Nat.reduceLeDiff, Nat.reduceLT, reduceCtorEq, hg.vars h6, Bool.and_false, happ]
        refine ⟨(false, t', hset H' b6 (.vars [.int .i64 a, .sl (((l0.drop (at_ + 2)).take (i + 1)).map eI) false t'])), ⟨hr'.hset (hg.vars h6) (fun _ _ e => by cases e), hr3.hset (hg.vars h6) (fun _ _ e => by cases e), hd3, sub_hset_fresh hG6 hs', hget_hset_self (hg.vars h6), ?_⟩, ?_, sub_rfl⟩
        · cases hq : l0.drop (at_ + 2) with
          | nil => rw [hq] at hlt4; simp at hlt4
          | cons x y => rfl
        · simp only [go_sem, reduceIte, Nat.reduceEqDiff, Nat.reduceAdd, Nat.reduceMul, Nat.reduceSub, Nat.reduceLeDiff, Nat.reduceLT, reduceCtorEq]
      intro ⟨nl2, t2, H2⟩ ⟨hr1, hr2, hd, hs, h6, hnl⟩
      simp only at hr1 hr2 hd hs h6 hnl ⊢
      refine hK4 _ _ ?_
      refine aw_sr rfl ?_  -- r12 @low.go:78
      simp only [go_sem, reduceIte, Nat.reduceEqDiff, Nat.reduceAdd, Nat.reduceMul, Nat.reduceSub, Nat.reduceLeDiff, Nat.reduceLT, reduceCtorEq, h6]
      refine goP_rm hr2 hs ?_ fun t3 H3 hr3 hs3 hg3 => ?_
      · exact ⟨rfl, rfl, by decide, wid_eAr _, wid_one rfl, sca_one rfl, by simp; omega, by simp; omega⟩
      simp only [go_sem, reduceIte, Nat.reduceEqDiff, Nat.reduceAdd, Nat.reduceMul, Nat.reduceSub, Nat.reduceLeDiff, Nat.reduceLT, reduceCtorEq, Bool.and_false]
      have hout : VleLL (out.map eAr ++ [[V.int .i64 a, V.sl (((l0.drop (at_ + 2)).take k.toNat).map eI) nl2 t2]]) ((out ++ [(a, (l0.drop (at_ + 2)).take k.toNat)]).map eAr) := by
        rw [List.map_append, hnl]
        exact VleLL.snoc (.cons (Vle.refl _) (.cons Vle.untag .nil)) _
      have hne : (out ++ [(a, (l0.drop (at_ + 2)).take k.toNat)]).isEmpty = false := by cases out <;> rfl
      refine AW.of_fle (g := [(0, .sl (l0.map eI) nl0 tg0), (5, .int .i64 at_), (4, .sl ((out ++ [(a, (l0.drop (at_ + 2)).take k.toNat)]).map eAr) false t3)]) ⟨fle_same rfl, fle_same rfl, ⟨_, rfl, Vle.slT hout⟩, trivial⟩ ?_
      have hw4 : IntKind.i64.wrap ((at_ : Int) + IntKind.i64.wrap (2 + k)) = ((at_ + 2 + k.toNat : Nat) : Int) := by
        rw [wrap64 (n := 2 + k) (by omega) (by omega), wrap64 (by omega) (by omega)]; omega
      refine aw_rg rfl ?_  -- r13 @low.go:79
      simp only [go_sem, reduceIte, Nat.reduceEqDiff, Nat.reduceAdd, Nat.reduceMul, Nat.reduceSub, Nat.reduceLeDiff, Nat.reduceLT, reduceCtorEq, hw1, getD_eI hlt2, hk, hw4]
      refine ⟨⟨by omega, by omega, wid_eI _⟩, ?_⟩
      refine ⟨⟨(at_ + 2 + k.toNat, out ++ [(a, (l0.drop (at_ + 2)).take k.toNat)], t3, H3), by omega, ?_, by rw [List.length_append, List.length_singleton]; omega, hr3, hs3⟩, by show l0.length - (at_ + 2 + k.toNat) < _; omega, ?_, sub_rfl⟩
      · rw [hres, Option.map_map, List.drop_drop]
        congr 1
        funext z
        simp
      · simp only [go_sem, reduceIte, Nat.reduceEqDiff, Nat.reduceAdd, Nat.reduceMul, Nat.reduceSub, Nat.reduceLeDiff, Nat.reduceLT, reduceCtorEq, hne]
    · have hge : decide (((l0.length : Nat) : Int) ≤ ((at_ + 1 : Nat) : Int)) = true := decide_eq_true (by omega)
      have hd2 : l0.drop (at_ + 1) = [] := List.drop_eq_nil_of_le (by omega)
      rw [hd1, hd2] at hres
      have hout : (l0.map eI).getD (at_ + 1) [] = [] := by
        rw [List.getD_eq_getElem?_getD, List.getElem?_eq_none (by rw [List.length_map]; omega)]; rfl
      simp only [go_sem, reduceIte, Nat.reduceEqDiff, Nat.reduceAdd, Nat.reduceMul, Nat.reduceSub, Nat.reduceLeDiff, Nat.reduceLT, reduceCtorEq, hw1, hge, hw2, hout, Bool.not_true, Bool.false_eq_true, false_implies, true_and, Bool.true_or]
      refine aw_if (b := true) rfl (fun h => ?_) (fun h => by cases h)
      refine aw_sr rfl ?_  -- r5 @low.go:72
      simp only [go_sem, reduceIte, Nat.reduceEqDiff, Nat.reduceAdd, Nat.reduceMul, Nat.reduceSub, Nat.reduceLeDiff, Nat.reduceLT, reduceCtorEq]
      refine aw_ret ⟨trivial, _, rfl, ?_, hs⟩
      rw [hres, gatF_one]
      exact Vle.tupL (.cons Vle.untag (.cons (Vle.refl _) .nil))
  have hall : at_ = l0.length := by simp at h; omega
  subst hall
  refine aw_exit ?_  -- 0
  refine hK1 _ _ ?_
  refine aw_sr rfl ?_  -- r14 @low.go:81
  simp only [go_sem, reduceIte, Nat.reduceEqDiff, Nat.reduceAdd, Nat.reduceMul, Nat.reduceSub, Nat.reduceLeDiff, Nat.reduceLT, reduceCtorEq]
  refine aw_ret ⟨trivial, _, rfl, ?_, hs⟩
  rw [hres, List.drop_length, gatF_nil]
  simp only [Option.map_some, List.append_nil]
  exact Vle.tupL (.cons Vle.untag (.cons (Vle.refl _) .nil))
end Go.Proofs.Ytkhgcikaojhknaa

/- What an instruction reads and writes, by both texts. Condition: fewer than 2^20 arguments. -/
set_option linter.unusedSimpArgs false
set_option linter.unusedVariables false
namespace Go.Proofs.Ytkhgcikaojhknaa
open Go.Proofs.YtkhgcikaojhknaaV
set_option maxHeartbeats 400000
set_option maxRecDepth 100000
abbrev cIns (op a b c : Int) (args : List Int) (nl : Bool) : List V := [.int .i64 op, .int .i64 a, .int .i64 b, .int .i64 c, .sl (args.map eI) nl .no]
theorem no_if {c : Bool} (h : c = false) : ¬ c = true := by rw [h]; exact Bool.false_ne_true
def ints (xs : List Int) : V := .sl (xs.map eI) xs.isEmpty .no
def readsF (op a b : Int) (args : List Int) : List Int :=
  if ([2, 20, 21] : List Int).any (fun v => decide (op = v)) = true then [b]
  else if ([4, 11, 18, 19, 23, 24, 25, 26, 27] : List Int).any (fun v => decide (op = v)) = true then [a]
  else if ([5, 6, 7, 8, 10, 12, 15] : List Int).any (fun v => decide (op = v)) = true then args
  else if ([9] : List Int).any (fun v => decide (op = v)) = true then b :: args
  else if ([13, 22] : List Int).any (fun v => decide (op = v)) = true then [a, b]
  else []
theorem q_cReads (op a b c : Int) (args : List Int) (nl : Bool) (hl : args.length ≤ 1048576) : Quiet Try.prog 220 [.agg (cIns op a b c args nl)] (ints (readsF op a b args)) := by
  refine Quiet.weak fun G => ?_
  refine acall_body (rs := [.tmp 2]) Try.func220 rfl rfl Try.ntmps220 (by kernel_rfl) (Nat.le_of_ble_eq_true rfl) ?_
  refine aw_sr rfl ?_  -- r0 @code.go:163
  simp only [go_sem, reduceIte, Nat.reduceEqDiff, Nat.reduceAdd, Nat.reduceMul, Nat.reduceSub, Nat.reduceLeDiff, Nat.reduceLT, reduceCtorEq]
  intro b1 hb1
  refine aw_box1 hb1 fun B1 hsB h1 => ?_
  refine aw_seq fun K1 hK1 => ?_
  refine aw_sr rfl ?_  -- r1 @code.go:164
  simp only [go_sem, reduceIte, Nat.reduceEqDiff, Nat.reduceAdd, Nat.reduceMul, Nat.reduceSub, Nat.reduceLeDiff, Nat.reduceLT, reduceCtorEq, h1]
  refine aw_block ?_  -- 0
  have hE : readsF op a b args = readsF op a b args := rfl
  conv at hE => lhs; unfold readsF
  refine aw_chain rfl rfl rfl rfl rfl ?_  -- t4 is one of [2, 20, 21]
  refine aw_if rfl (fun h => ?_) (fun h => ?_)
  · rw [if_pos h] at hE
    refine aw_sr rfl ?_  -- r5 @code.go:166
    simp only [go_sem, reduceIte, Nat.reduceEqDiff, Nat.reduceAdd, Nat.reduceMul, Nat.reduceSub, Nat.reduceLeDiff, Nat.reduceLT, reduceCtorEq, h1]
    refine aw_ret ⟨trivial, _, rfl, ?_, hsB⟩
    rw [← hE]; exact Vle.untag
  rw [if_neg (no_if h)] at hE
  refine aw_chain rfl rfl rfl rfl rfl ?_  -- t4 is one of [4, 11, 18, 19, 23, 24, 25, 26, 27]
  refine aw_if rfl (fun h => ?_) (fun h => ?_)
  · rw [if_pos h] at hE
    refine aw_sr rfl ?_  -- r15 @code.go:168
    simp only [go_sem, reduceIte, Nat.reduceEqDiff, Nat.reduceAdd, Nat.reduceMul, Nat.reduceSub, Nat.reduceLeDiff, Nat.reduceLT, reduceCtorEq, h1]
    refine aw_ret ⟨trivial, _, rfl, ?_, hsB⟩
    rw [← hE]; exact Vle.untag
  rw [if_neg (no_if h)] at hE
  refine aw_chain rfl rfl rfl rfl rfl ?_  -- t4 is one of [5, 6, 7, 8, 10, 12, 15]
  refine aw_if rfl (fun h => ?_) (fun h => ?_)
  · rw [if_pos h] at hE
    refine aw_sr rfl ?_  -- r23 @code.go:170
    simp only [go_sem, reduceIte, Nat.reduceEqDiff, Nat.reduceAdd, Nat.reduceMul, Nat.reduceSub, Nat.reduceLeDiff, Nat.reduceLT, reduceCtorEq, h1]
    refine goP_rm (G := G) (Rm.start _ _ _) hsB ?_ fun t1 H1 hr1 hs1 hg1 => ?_
    · exact ⟨rfl, rfl, by decide, by simp [wid], wid_eI _, sca_eI _, by simp; omega, by simp; omega⟩
    simp only [go_sem, reduceIte, Nat.reduceEqDiff, Nat.reduceAdd, Nat.reduceMul, Nat.reduceSub, Nat.reduceLeDiff, Nat.reduceLT, reduceCtorEq, List.nil_append, Bool.true_and]
    refine aw_ret ⟨trivial, _, rfl, ?_, hs1⟩
    rw [← hE, List.isEmpty_map]; exact Vle.untag
  rw [if_neg (no_if h)] at hE
  refine aw_chain rfl rfl rfl rfl rfl ?_  -- t4 is one of [9]
  refine aw_if rfl (fun h => ?_) (fun h => ?_)
  · rw [if_pos h] at hE
    refine aw_sr rfl ?_  -- r25 @code.go:172
    simp only [go_sem, reduceIte, Nat.reduceEqDiff, Nat.reduceAdd, Nat.reduceMul, Nat.reduceSub, Nat.reduceLeDiff, Nat.reduceLT, reduceCtorEq, h1]
    refine goP_rm (G := G) (Rm.start _ _ _) hsB ?_ fun t1 H1 hr1 hs1 hg1 => ?_
    · exact ⟨rfl, rfl, by decide, wid_one rfl, wid_eI _, sca_eI _, by simp; omega, by simp; omega⟩
    simp only [go_sem, reduceIte, Nat.reduceEqDiff, Nat.reduceAdd, Nat.reduceMul, Nat.reduceSub, Nat.reduceLeDiff, Nat.reduceLT, reduceCtorEq, Bool.false_and]
    refine aw_ret ⟨trivial, _, rfl, ?_, hs1⟩
    rw [← hE]; exact Vle.untag
  rw [if_neg (no_if h)] at hE
  refine aw_chain rfl rfl rfl rfl rfl ?_  -- t4 is one of [13, 22]
  refine aw_if rfl (fun h => ?_) (fun h => ?_)
  · rw [if_pos h] at hE
    refine aw_sr rfl ?_  -- r28 @code.go:174
    simp only [go_sem, reduceIte, Nat.reduceEqDiff, Nat.reduceAdd, Nat.reduceMul, Nat.reduceSub, Nat.reduceLeDiff, Nat.reduceLT, reduceCtorEq, h1]
    refine aw_ret ⟨trivial, _, rfl, ?_, hsB⟩
    rw [← hE]; exact Vle.untag
  rw [if_neg (no_if h)] at hE
  refine aw_skip (hK1 _ _ ?_)
  refine aw_sr rfl ?_  -- r29 @code.go:176
  simp only [go_sem, reduceIte, Nat.reduceEqDiff, Nat.reduceAdd, Nat.reduceMul, Nat.reduceSub, Nat.reduceLeDiff, Nat.reduceLT, reduceCtorEq]
  refine aw_ret ⟨trivial, _, rfl, ?_, hsB⟩
  rw [← hE]; exact Vle.untag
/-- The reference's shape of an operation. -/
def shapesF (op : Int) : List UInt8 × Bool × Bool :=
  if ([1, 14] : List Int).any (fun v => decide (op = v)) = true then ([], true, false)
  else if ([2, 20, 21] : List Int).any (fun v => decide (op = v)) = true then ([98], true, false)
  else if ([5, 6, 7, 8, 10, 12] : List Int).any (fun v => decide (op = v)) = true then ([42], true, false)
  else if ([9] : List Int).any (fun v => decide (op = v)) = true then ([98, 42], true, false)
  else if ([13, 22] : List Int).any (fun v => decide (op = v)) = true then ([97, 98], false, false)
  else if ([4, 11, 19, 23, 24, 26, 27] : List Int).any (fun v => decide (op = v)) = true then ([97], false, false)
  else if ([18, 25] : List Int).any (fun v => decide (op = v)) = true then ([97], false, true)
  else if ([15] : List Int).any (fun v => decide (op = v)) = true then ([42], false, true)
  else if ([17] : List Int).any (fun v => decide (op = v)) = true then ([], false, true)
  else ([], false, false)
def cShape (x : List UInt8 × Bool × Bool) : List V := [.str x.1, .bool x.2.1, .bool x.2.2]
theorem q_shapes (op : Int) : Quiet Try.prog 226 [.int .i64 op] (.agg (cShape (shapesF op))) := by
  refine Quiet.weak fun G => ?_
  refine acall_body (rs := [.cell 2 402]) Try.func226 rfl rfl Try.ntmps226 (by kernel_rfl) (Nat.le_of_ble_eq_true rfl) ?_
  refine aw_sr rfl ?_  -- r0 @low.go:19
  simp only [go_sem, reduceIte, Nat.reduceEqDiff, Nat.reduceAdd, Nat.reduceMul, Nat.reduceSub, Nat.reduceLeDiff, Nat.reduceLT, reduceCtorEq]
  intro b2 hb2
  refine aw_box1 hb2 fun B1 hsB h2 => ?_
  refine aw_seq fun K1 hK1 => ?_
  refine aw_sr rfl ?_  -- r1 @low.go:20
  simp only [go_sem, reduceIte, Nat.reduceEqDiff, Nat.reduceAdd, Nat.reduceMul, Nat.reduceSub, Nat.reduceLeDiff, Nat.reduceLT, reduceCtorEq]
  refine aw_block ?_  -- 0
  have hE : shapesF op = shapesF op := rfl
  conv at hE => lhs; unfold shapesF
  refine aw_chain rfl rfl rfl rfl rfl ?_
  refine aw_if rfl (fun h => ?_) (fun h => ?_)
  · rw [if_pos h] at hE
    refine aw_sr rfl ?_
    simp only [go_sem, reduceIte, Nat.reduceEqDiff, Nat.reduceAdd, Nat.reduceMul, Nat.reduceSub, Nat.reduceLeDiff, Nat.reduceLT, reduceCtorEq, h2]
    refine aw_ret ⟨trivial, [.agg (cShape (shapesF op))], ?_, Vle.refl _, sub_hset_fresh hb2 hsB⟩
    rw [← hE]
    simp only [go_sem, reduceIte, Nat.reduceEqDiff, Nat.reduceAdd, Nat.reduceMul, Nat.reduceSub, Nat.reduceLeDiff, Nat.reduceLT, reduceCtorEq, resL, resOf, hget_hset_self h2, cShape]
  rw [if_neg (no_if h)] at hE
  refine aw_chain rfl rfl rfl rfl rfl ?_
  refine aw_if rfl (fun h => ?_) (fun h => ?_)
  · rw [if_pos h] at hE
    refine aw_sr rfl ?_
    simp only [go_sem, reduceIte, Nat.reduceEqDiff, Nat.reduceAdd, Nat.reduceMul, Nat.reduceSub, Nat.reduceLeDiff, Nat.reduceLT, reduceCtorEq, h2]
    refine aw_ret ⟨trivial, [.agg (cShape (shapesF op))], ?_, Vle.refl _, sub_hset_fresh hb2 hsB⟩
    rw [← hE]
    simp only [go_sem, reduceIte, Nat.reduceEqDiff, Nat.reduceAdd, Nat.reduceMul, Nat.reduceSub, Nat.reduceLeDiff, Nat.reduceLT, reduceCtorEq, resL, resOf, hget_hset_self h2, cShape]
  rw [if_neg (no_if h)] at hE
  refine aw_chain rfl rfl rfl rfl rfl ?_
  refine aw_if rfl (fun h => ?_) (fun h => ?_)
  · rw [if_pos h] at hE
    refine aw_sr rfl ?_
    simp only [go_sem, reduceIte, Nat.reduceEqDiff, Nat.reduceAdd, Nat.reduceMul, Nat.reduceSub, Nat.reduceLeDiff, Nat.reduceLT, reduceCtorEq, h2]
    refine aw_ret ⟨trivial, [.agg (cShape (shapesF op))], ?_, Vle.refl _, sub_hset_fresh hb2 hsB⟩
    rw [← hE]
    simp only [go_sem, reduceIte, Nat.reduceEqDiff, Nat.reduceAdd, Nat.reduceMul, Nat.reduceSub, Nat.reduceLeDiff, Nat.reduceLT, reduceCtorEq, resL, resOf, hget_hset_self h2, cShape]
  rw [if_neg (no_if h)] at hE
  refine aw_chain rfl rfl rfl rfl rfl ?_
  refine aw_if rfl (fun h => ?_) (fun h => ?_)
  · rw [if_pos h] at hE
    refine aw_sr rfl ?_
    simp only [go_sem, reduceIte, Nat.reduceEqDiff, Nat.reduceAdd, Nat.reduceMul, Nat.reduceSub, Nat.reduceLeDiff, Nat.reduceLT, reduceCtorEq, h2]
    refine aw_ret ⟨trivial, [.agg (cShape (shapesF op))], ?_, Vle.refl _, sub_hset_fresh hb2 hsB⟩
    rw [← hE]
    simp only [go_sem, reduceIte, Nat.reduceEqDiff, Nat.reduceAdd, Nat.reduceMul, Nat.reduceSub, Nat.reduceLeDiff, Nat.reduceLT, reduceCtorEq, resL, resOf, hget_hset_self h2, cShape]
  rw [if_neg (no_if h)] at hE
  refine aw_chain rfl rfl rfl rfl rfl ?_
  refine aw_if rfl (fun h => ?_) (fun h => ?_)
  · rw [if_pos h] at hE
    refine aw_sr rfl ?_
    simp only [go_sem, reduceIte, Nat.reduceEqDiff, Nat.reduceAdd, Nat.reduceMul, Nat.reduceSub, Nat.reduceLeDiff, Nat.reduceLT, reduceCtorEq, h2]
    refine aw_ret ⟨trivial, [.agg (cShape (shapesF op))], ?_, Vle.refl _, sub_hset_fresh hb2 hsB⟩
    rw [← hE]
    simp only [go_sem, reduceIte, Nat.reduceEqDiff, Nat.reduceAdd, Nat.reduceMul, Nat.reduceSub, Nat.reduceLeDiff, Nat.reduceLT, reduceCtorEq, resL, resOf, hget_hset_self h2, cShape]
  rw [if_neg (no_if h)] at hE
  refine aw_chain rfl rfl rfl rfl rfl ?_
  refine aw_if rfl (fun h => ?_) (fun h => ?_)
  · rw [if_pos h] at hE
    refine aw_sr rfl ?_
    simp only [go_sem, reduceIte, Nat.reduceEqDiff, Nat.reduceAdd, Nat.reduceMul, Nat.reduceSub, Nat.reduceLeDiff, Nat.reduceLT, reduceCtorEq, h2]
    refine aw_ret ⟨trivial, [.agg (cShape (shapesF op))], ?_, Vle.refl _, sub_hset_fresh hb2 hsB⟩
    rw [← hE]
    simp only [go_sem, reduceIte, Nat.reduceEqDiff, Nat.reduceAdd, Nat.reduceMul, Nat.reduceSub, Nat.reduceLeDiff, Nat.reduceLT, reduceCtorEq, resL, resOf, hget_hset_self h2, cShape]
  rw [if_neg (no_if h)] at hE
  refine aw_chain rfl rfl rfl rfl rfl ?_
  refine aw_if rfl (fun h => ?_) (fun h => ?_)
  · rw [if_pos h] at hE
    refine aw_sr rfl ?_
    simp only [go_sem, reduceIte, Nat.reduceEqDiff, Nat.reduceAdd, Nat.reduceMul, Nat.reduceSub, Nat.reduceLeDiff, Nat.reduceLT, reduceCtorEq, h2]
    refine aw_ret ⟨trivial, [.agg (cShape (shapesF op))], ?_, Vle.refl _, sub_hset_fresh hb2 hsB⟩
    rw [← hE]
    simp only [go_sem, reduceIte, Nat.reduceEqDiff, Nat.reduceAdd, Nat.reduceMul, Nat.reduceSub, Nat.reduceLeDiff, Nat.reduceLT, reduceCtorEq, resL, resOf, hget_hset_self h2, cShape]
  rw [if_neg (no_if h)] at hE
  refine aw_chain rfl rfl rfl rfl rfl ?_
  refine aw_if rfl (fun h => ?_) (fun h => ?_)
  · rw [if_pos h] at hE
    refine aw_sr rfl ?_
    simp only [go_sem, reduceIte, Nat.reduceEqDiff, Nat.reduceAdd, Nat.reduceMul, Nat.reduceSub, Nat.reduceLeDiff, Nat.reduceLT, reduceCtorEq, h2]
    refine aw_ret ⟨trivial, [.agg (cShape (shapesF op))], ?_, Vle.refl _, sub_hset_fresh hb2 hsB⟩
    rw [← hE]
    simp only [go_sem, reduceIte, Nat.reduceEqDiff, Nat.reduceAdd, Nat.reduceMul, Nat.reduceSub, Nat.reduceLeDiff, Nat.reduceLT, reduceCtorEq, resL, resOf, hget_hset_self h2, cShape]
  rw [if_neg (no_if h)] at hE
  refine aw_chain rfl rfl rfl rfl rfl ?_
  refine aw_if rfl (fun h => ?_) (fun h => ?_)
  · rw [if_pos h] at hE
    refine aw_sr rfl ?_
    simp only [go_sem, reduceIte, Nat.reduceEqDiff, Nat.reduceAdd, Nat.reduceMul, Nat.reduceSub, Nat.reduceLeDiff, Nat.reduceLT, reduceCtorEq, h2]
    refine aw_ret ⟨trivial, [.agg (cShape (shapesF op))], ?_, Vle.refl _, sub_hset_fresh hb2 hsB⟩
    rw [← hE]
    simp only [go_sem, reduceIte, Nat.reduceEqDiff, Nat.reduceAdd, Nat.reduceMul, Nat.reduceSub, Nat.reduceLeDiff, Nat.reduceLT, reduceCtorEq, resL, resOf, hget_hset_self h2, cShape]
  rw [if_neg (no_if h)] at hE
  refine aw_skip (hK1 _ _ ?_)
  refine aw_sr rfl ?_  -- r36 @low.go:40
  simp only [go_sem, reduceIte, Nat.reduceEqDiff, Nat.reduceAdd, Nat.reduceMul, Nat.reduceSub, Nat.reduceLeDiff, Nat.reduceLT, reduceCtorEq, h2]
  refine aw_ret ⟨trivial, [.agg (cShape (shapesF op))], ?_, Vle.refl _, sub_hset_fresh hb2 hsB⟩
  rw [← hE]
  simp only [go_sem, reduceIte, Nat.reduceEqDiff, Nat.reduceAdd, Nat.reduceMul, Nat.reduceSub, Nat.reduceLeDiff, Nat.reduceLT, reduceCtorEq, resL, resOf, hget_hset_self h2, cShape]
theorem rd_out {vs : List Int} {op : Int} (h : vs.all (fun v => decide (1 ≤ v ∧ v ≤ 27)) = true) (ho : ¬ (1 ≤ op ∧ op ≤ 27)) : vs.any (fun v => decide (op = v)) = false := by
  rw [List.any_eq_false]
  intro v hv e
  rw [List.all_eq_true] at h
  have := h v hv
  simp only [decide_eq_true_eq] at this e
  exact ho (by omega)
theorem op_cases {p : Int → Prop} (op : Int) (h1 : p 1) (h2 : p 2) (h3 : p 3) (h4 : p 4) (h5 : p 5) (h6 : p 6) (h7 : p 7) (h8 : p 8) (h9 : p 9) (h10 : p 10) (h11 : p 11) (h12 : p 12) (h13 : p 13) (h14 : p 14) (h15 : p 15) (h16 : p 16) (h17 : p 17) (h18 : p 18) (h19 : p 19) (h20 : p 20) (h21 : p 21) (h22 : p 22) (h23 : p 23) (h24 : p 24) (h25 : p 25) (h26 : p 26) (h27 : p 27) (hn : ¬ (1 ≤ op ∧ op ≤ 27) → p op) : p op := by
  by_cases h : 1 ≤ op ∧ op ≤ 27
  · have : op = 1 ∨ op = 2 ∨ op = 3 ∨ op = 4 ∨ op = 5 ∨ op = 6 ∨ op = 7 ∨ op = 8 ∨ op = 9 ∨ op = 10 ∨ op = 11 ∨ op = 12 ∨ op = 13 ∨ op = 14 ∨ op = 15 ∨ op = 16 ∨ op = 17 ∨ op = 18 ∨ op = 19 ∨ op = 20 ∨ op = 21 ∨ op = 22 ∨ op = 23 ∨ op = 24 ∨ op = 25 ∨ op = 26 ∨ op = 27 := by omega
    rcases this with rfl | rfl | rfl | rfl | rfl | rfl | rfl | rfl | rfl | rfl | rfl | rfl | rfl | rfl | rfl | rfl | rfl | rfl | rfl | rfl | rfl | rfl | rfl | rfl | rfl | rfl | rfl <;> assumption
  · exact hn h
def letF (a b : Int) (args : List Int) (c : UInt8) : List Int := if c = 97 then [a] else if c = 98 then [b] else args
theorem shapes_out {op : Int} (h : ¬ (1 ≤ op ∧ op ≤ 27)) : shapesF op = ([], false, false) := by
  unfold shapesF
  simp only [rd_out (vs := [1, 14]) rfl h, rd_out (vs := [2, 20, 21]) rfl h, rd_out (vs := [5, 6, 7, 8, 10, 12]) rfl h, rd_out (vs := [9]) rfl h, rd_out (vs := [13, 22]) rfl h, rd_out (vs := [4, 11, 19, 23, 24, 26, 27]) rfl h, rd_out (vs := [18, 25]) rfl h, rd_out (vs := [15]) rfl h, rd_out (vs := [17]) rfl h, Bool.false_eq_true, if_false]
theorem reads_out {op a b : Int} {args : List Int} (h : ¬ (1 ≤ op ∧ op ≤ 27)) : readsF op a b args = [] := by
  unfold readsF
  simp only [rd_out (vs := [2, 20, 21]) rfl h, rd_out (vs := [4, 11, 18, 19, 23, 24, 25, 26, 27]) rfl h, rd_out (vs := [5, 6, 7, 8, 10, 12, 15]) rfl h, rd_out (vs := [9]) rfl h, rd_out (vs := [13, 22]) rfl h, Bool.false_eq_true, if_false]
theorem reads_same (op a b : Int) (args : List Int) : (shapesF op).1.flatMap (letF a b args) = readsF op a b args := by
  refine op_cases (p := fun op => (shapesF op).1.flatMap (letF a b args) = readsF op a b args) op ?_ ?_ ?_ ?_ ?_ ?_ ?_ ?_ ?_ ?_ ?_ ?_ ?_ ?_ ?_ ?_ ?_ ?_ ?_ ?_ ?_ ?_ ?_ ?_ ?_ ?_ ?_ (fun h => ?_)
  all_goals first | (rw [shapes_out h, reads_out h]; rfl) | (show List.flatMap _ _ = _; simp [shapesF, readsF, letF])
theorem ascii_shapes (op : Int) : ∀ c ∈ (shapesF op).1, c.toNat < 128 := by
  refine op_cases (p := fun op => ∀ c ∈ (shapesF op).1, c.toNat < 128) op ?_ ?_ ?_ ?_ ?_ ?_ ?_ ?_ ?_ ?_ ?_ ?_ ?_ ?_ ?_ ?_ ?_ ?_ ?_ ?_ ?_ ?_ ?_ ?_ ?_ ?_ ?_ (fun h => ?_)
  all_goals first | (rw [shapes_out h]; intro c hc; cases hc) | (simp [shapesF])
end Go.Proofs.Ytkhgcikaojhknaa

/- What an instruction writes, its arms, and where it goes on, by both texts. Conditions: fewer than 2^20 arguments; a place of at most 2^40. -/
set_option linter.unusedSimpArgs false
set_option linter.unusedVariables false
namespace Go.Proofs.Ytkhgcikaojhknaa
open Go.Proofs.YtkhgcikaojhknaaV
set_option maxHeartbeats 400000
set_option maxRecDepth 100000
theorem isEmpty_app {A : Type} (a b : List A) : (a ++ b).isEmpty = (a.isEmpty && b.isEmpty) := by cases a <;> rfl
theorem q_rReads (op a b c : Int) (args : List Int) (nl : Bool) (hl : args.length ≤ 1048576) : Quiet Try.prog 225 [.agg (cIns op a b c args nl)] (ints (readsF op a b args)) := by
  have hasc := ascii_shapes op
  have hsl : (shapesF op).1.length ≤ 2 := by
    refine op_cases (p := fun op => (shapesF op).1.length ≤ 2) op ?_ ?_ ?_ ?_ ?_ ?_ ?_ ?_ ?_ ?_ ?_ ?_ ?_ ?_ ?_ ?_ ?_ ?_ ?_ ?_ ?_ ?_ ?_ ?_ ?_ ?_ ?_ (fun h => ?_)
    all_goals first | (rw [shapes_out h]; decide) | decide
  rw [← reads_same]
  have hsh := q_shapes op
  generalize shapesF op = sh at hasc hsl hsh
  obtain ⟨str, wr, en⟩ := sh
  simp only at hasc hsl ⊢
  refine Quiet.weak fun G => ?_
  refine acall_body (rs := [.tmp 2]) Try.func225 rfl rfl Try.ntmps225 (by kernel_rfl) (Nat.le_of_ble_eq_true rfl) ?_
  refine aw_sr rfl ?_  -- r0 @low.go:44
  simp only [go_sem, reduceIte, Nat.reduceEqDiff, Nat.reduceAdd, Nat.reduceMul, Nat.reduceSub, Nat.reduceLeDiff, Nat.reduceLT, reduceCtorEq]
  intro b1 hb1
  refine aw_box1 hb1 fun B1 hsB h1 => ?_
  refine aw_sr rfl ?_  -- r1 @low.go:45
  simp only [go_sem, reduceIte, Nat.reduceEqDiff, Nat.reduceAdd, Nat.reduceMul, Nat.reduceSub, Nat.reduceLeDiff, Nat.reduceLT, reduceCtorEq]
  refine aw_seq fun K1 hK1 => ?_
  refine aw_sr rfl ?_  -- r2 @low.go:46
  simp only [go_sem, reduceIte, Nat.reduceEqDiff, Nat.reduceAdd, Nat.reduceMul, Nat.reduceSub, Nat.reduceLeDiff, Nat.reduceLT, reduceCtorEq, h1]
  refine goA_q hsh ?_
  simp only [go_sem, reduceIte, Nat.reduceEqDiff, Nat.reduceAdd, Nat.reduceMul, Nat.reduceSub, Nat.reduceLeDiff, Nat.reduceLT, reduceCtorEq, cShape]
  intro bi hbi
  have n1 := ne_fresh h1 hbi
  have hGi := sub_none hsB hbi
  refine aw_box1 hbi fun B2 hs2 hit => ?_
  replace h1 := hs2 _ _ h1
  replace hsB := sub_trans hsB hs2
  refine aw_block ?_  -- 0
  refine aw_lph (S := {s : Nat × Tag × Heap // s.1 ≤ str.length ∧ Rm G s.2.2 1 s.2.1 ∧ Sub G s.2.2 ∧ hget s.2.2 b1 = some (.vars (cIns op a b c args nl)) ∧ hget s.2.2 bi = some (.siter str s.1)}) (fun s => [(1, .ptr b1 0), (3, .sl (((str.take s.1.1).flatMap (letF a b args)).map eI) ((str.take s.1.1).flatMap (letF a b args)).isEmpty s.1.2.1), (10, .ptr bi 0)]) (fun s => s.1.2.2) (fun s => str.length - s.1.1)
    ⟨(0, .full, B2), Nat.zero_le _, Rm.start _ _ _, hsB, h1, hit⟩ ?_ (fun _ _ h => h) ?_
  · simp only [go_sem, reduceIte, Nat.reduceEqDiff, Nat.reduceAdd, Nat.reduceMul, Nat.reduceSub, Nat.reduceLeDiff, Nat.reduceLT, reduceCtorEq]
    rfl
  intro ⟨⟨n, tg, H⟩, hn, hr, hs, h1, hit⟩
  simp only at hn hr hs h1 hit ⊢
  refine aw_sr rfl ?_  -- r3 @low.go:46
  simp only [go_sem, reduceIte, Nat.reduceEqDiff, Nat.reduceAdd, Nat.reduceMul, Nat.reduceSub, Nat.reduceLeDiff, Nat.reduceLT, reduceCtorEq, hit]
  refine goNs_by (fun hlt => ⟨hasc _ (List.getElem_mem hlt), ?_⟩) (fun hlt => ?_)
  · simp only [go_sem, reduceIte, Nat.reduceEqDiff, Nat.reduceAdd, Nat.reduceMul, Nat.reduceSub, Nat.reduceLeDiff, Nat.reduceLT, reduceCtorEq]
    obtain ⟨C, hC⟩ : ∃ C, C = hset H bi (.siter str (n + 1)) := ⟨_, rfl⟩
    have c1 : hget C b1 = some (.vars (cIns op a b c args nl)) := by rw [hC]; exact hset_keep h1 n1
    have ci : hget C bi = some (.siter str (n + 1)) := by rw [hC]; exact hget_hset_self hit
    have cs : Sub G C := by rw [hC]; exact sub_hset_fresh hGi hs
    have cr : Rm G C 1 tg := by rw [hC]; exact hr.hset hit (fun _ _ e => by cases e)
    refine AW.of_hsub (by rw [hC]; exact sub_rfl) (G := C) ?_
    clear hC
    have hfl : (str.take (n + 1)).flatMap (letF a b args) = (str.take n).flatMap (letF a b args) ++ letF a b args str[n] := by
      rw [List.take_succ_eq_append_getElem hlt, List.flatMap_append]; simp
    have hbl : ((str.take n).flatMap (letF a b args)).length ≤ 2 * 1048576 := by
      have h1 : ∀ c, (letF a b args c).length ≤ 1048576 := fun c => by
        unfold letF; split
        · simp
        · split
          · simp
          · exact hl
      match hq : str.take n with
      | [] => simp
      | [x] => simp only [List.flatMap_cons, List.flatMap_nil, List.append_nil]; have := h1 x; omega
      | [x, y] => simp only [List.flatMap_cons, List.flatMap_nil, List.append_nil, List.length_append]; have := h1 x; have := h1 y; omega
      | x :: y :: z :: l =>
        have : (str.take n).length ≤ 2 := by rw [List.length_take]; omega
        rw [hq] at this; simp at this
    refine aw_seq fun K2 hK2 => ?_
    refine aw_if rfl (fun h => ?_) (fun h => by cases h)
    refine aw_skip (hK2 _ _ ?_)
    refine aw_block ?_  -- 1
    refine aw_sr rfl ?_  -- r4 @low.go:46
    simp only [go_sem, reduceIte, Nat.reduceEqDiff, Nat.reduceAdd, Nat.reduceMul, Nat.reduceSub, Nat.reduceLeDiff, Nat.reduceLT, reduceCtorEq]
    refine aw_sr rfl ?_  -- r5 @low.go:47
    simp only [go_sem, reduceIte, Nat.reduceEqDiff, Nat.reduceAdd, Nat.reduceMul, Nat.reduceSub, Nat.reduceLeDiff, Nat.reduceLT, reduceCtorEq]
    refine aw_block ?_  -- 2
    generalize hx : str[n] = x at hfl
    have hxa : ∀ k : Nat, k < 256 → (((x.toNat : Nat) : Int) = (k : Nat) ↔ x = UInt8.ofNat k) := fun k hk => by
      constructor
      · intro e
        have : x.toNat = k := by omega
        rw [← this]; simp
      · intro e; subst e; simp; omega
    refine aw_chain rfl rfl rfl rfl rfl ?_  -- t14 is one of [97]
    refine aw_if rfl (fun h => ?_) (fun h => ?_)
    · have hxx : x = 97 := (hxa 97 (by decide)).1 (by simpa using h)
      have hlet : letF a b args x = [a] := by rw [hxx]; rfl
      rw [hlet] at hfl
      refine aw_rg rfl ?_  -- r8 @low.go:49
      simp only [go_sem, reduceIte, Nat.reduceEqDiff, Nat.reduceAdd, Nat.reduceMul, Nat.reduceSub, Nat.reduceLeDiff, Nat.reduceLT, reduceCtorEq, c1]
      refine goP_rm cr cs ?_ fun t' H' hr' hs' hg => ?_
      · exact ⟨rfl, rfl, by decide, wid_eI _, wid_one rfl, sca_one rfl, by simp only [List.length_map, List.length_append, List.length_cons, List.length_nil, List.length_take, List.length_drop]; omega, by simp only [List.length_map, List.length_append, List.length_cons, List.length_nil, List.length_take, List.length_drop]; omega⟩
      simp only [go_sem, reduceIte, Nat.reduceEqDiff, Nat.reduceAdd, Nat.reduceMul, Nat.reduceSub, Nat.reduceLeDiff, Nat.reduceLT, reduceCtorEq, Bool.and_false]
      refine ⟨⟨(n + 1, t', H'), hlt, hr', hs', hg.vars c1, hg.1 _ _ ci (fun _ _ e => by cases e)⟩, by show str.length - (n + 1) < _; omega, ?_, sub_rfl⟩
      rw [hfl]
      refine ⟨rfl, ?_, rfl⟩
      rw [List.map_append]
      simp [fget, eI]
    refine aw_chain rfl rfl rfl rfl rfl ?_  -- t14 is one of [98]
    refine aw_if rfl (fun h => ?_) (fun h => ?_)
    · have hxx : x = 98 := (hxa 98 (by decide)).1 (by simpa using h)
      have hlet : letF a b args x = [b] := by rw [hxx]; rfl
      rw [hlet] at hfl
      refine aw_rg rfl ?_  -- r10
      simp only [go_sem, reduceIte, Nat.reduceEqDiff, Nat.reduceAdd, Nat.reduceMul, Nat.reduceSub, Nat.reduceLeDiff, Nat.reduceLT, reduceCtorEq, c1]
      refine goP_rm cr cs ?_ fun t' H' hr' hs' hg => ?_
      · exact ⟨rfl, rfl, by decide, wid_eI _, wid_one rfl, sca_one rfl, by simp only [List.length_map, List.length_append, List.length_cons, List.length_nil, List.length_take, List.length_drop]; omega, by simp only [List.length_map, List.length_append, List.length_cons, List.length_nil, List.length_take, List.length_drop]; omega⟩
      simp only [go_sem, reduceIte, Nat.reduceEqDiff, Nat.reduceAdd, Nat.reduceMul, Nat.reduceSub, Nat.reduceLeDiff, Nat.reduceLT, reduceCtorEq, Bool.and_false]
      refine ⟨⟨(n + 1, t', H'), hlt, hr', hs', hg.vars c1, hg.1 _ _ ci (fun _ _ e => by cases e)⟩, by show str.length - (n + 1) < _; omega, ?_, sub_rfl⟩
      rw [hfl]
      refine ⟨rfl, ?_, rfl⟩
      rw [List.map_append]
      simp [fget, eI]
    · rename_i h97
      have hlet : letF a b args x = args := by
        unfold letF
        rw [if_neg, if_neg]
        · intro e; rw [(hxa 98 (by decide)).2 e] at h; simp at h
        · intro e; rw [(hxa 97 (by decide)).2 e] at h97; simp at h97
      rw [hlet] at hfl
      refine aw_rg rfl ?_  -- r6
      simp only [go_sem, reduceIte, Nat.reduceEqDiff, Nat.reduceAdd, Nat.reduceMul, Nat.reduceSub, Nat.reduceLeDiff, Nat.reduceLT, reduceCtorEq, c1]
      refine goP_rm cr cs ?_ fun t' H' hr' hs' hg => ?_
      · exact ⟨rfl, rfl, by decide, wid_eI _, wid_eI _, sca_eI _, by simp only [List.length_map, List.length_append, List.length_cons, List.length_nil, List.length_take, List.length_drop]; omega, by simp only [List.length_map, List.length_append, List.length_cons, List.length_nil, List.length_take, List.length_drop]; omega⟩
      simp only [go_sem, reduceIte, Nat.reduceEqDiff, Nat.reduceAdd, Nat.reduceMul, Nat.reduceSub, Nat.reduceLeDiff, Nat.reduceLT, reduceCtorEq]
      refine ⟨⟨(n + 1, t', H'), hlt, hr', hs', hg.vars c1, hg.1 _ _ ci (fun _ _ e => by cases e)⟩, by show str.length - (n + 1) < _; omega, ?_, sub_rfl⟩
      rw [hfl]
      refine ⟨rfl, ?_, rfl⟩
      rw [List.map_append]
      simp [fget, isEmpty_app]
  · have hend : n = str.length := by omega
    subst hend
    simp only [go_sem, reduceIte, Nat.reduceEqDiff, Nat.reduceAdd, Nat.reduceMul, Nat.reduceSub, Nat.reduceLeDiff, Nat.reduceLT, reduceCtorEq]
    refine aw_seq fun K2 hK2 => ?_
    refine aw_if (b := false) rfl (fun h => by cases h) (fun h => ?_)
    refine aw_exit ?_  -- 0
    refine hK1 _ _ ?_
    refine aw_sr rfl ?_  -- r11 @low.go:56
    simp only [go_sem, reduceIte, Nat.reduceEqDiff, Nat.reduceAdd, Nat.reduceMul, Nat.reduceSub, Nat.reduceLeDiff, Nat.reduceLT, reduceCtorEq, List.take_length]
    exact aw_ret ⟨trivial, _, rfl, Vle.untag, hs⟩
/-! ### Writes -/
def writesB (op : Int) : Bool := ([1, 2, 5, 6, 7, 8, 9, 10, 12, 14, 20, 21] : List Int).any (fun v => decide (op = v))
theorem writes_same (op : Int) : (shapesF op).2.1 = writesB op := by
  refine op_cases (p := fun op => (shapesF op).2.1 = writesB op) op ?_ ?_ ?_ ?_ ?_ ?_ ?_ ?_ ?_ ?_ ?_ ?_ ?_ ?_ ?_ ?_ ?_ ?_ ?_ ?_ ?_ ?_ ?_ ?_ ?_ ?_ ?_ (fun h => ?_)
  all_goals first | (rw [shapes_out h]; exact (rd_out (vs := [1, 2, 5, 6, 7, 8, 9, 10, 12, 14, 20, 21]) rfl h).symm) | decide
def writesF (op a : Int) : Int := if writesB op = true then a else -1
theorem q_writes (op : Int) : Quiet Try.prog 221 [.int .i64 op] (.bool (writesB op)) := by
  refine Quiet.weak fun G => ?_
  refine acall_body (rs := [.tmp 2]) Try.func221 rfl rfl Try.ntmps221 (by kernel_rfl) (Nat.le_of_ble_eq_true rfl) ?_
  refine aw_sr rfl ?_  -- r0 @code.go:154
  simp only [go_sem, reduceIte, Nat.reduceEqDiff, Nat.reduceAdd, Nat.reduceMul, Nat.reduceSub, Nat.reduceLeDiff, Nat.reduceLT, reduceCtorEq]
  refine aw_seq fun K1 hK1 => ?_
  refine aw_sr rfl ?_  -- r1 @code.go:155
  simp only [go_sem, reduceIte, Nat.reduceEqDiff, Nat.reduceAdd, Nat.reduceMul, Nat.reduceSub, Nat.reduceLeDiff, Nat.reduceLT, reduceCtorEq]
  refine aw_block ?_  -- 0
  refine aw_chain rfl rfl rfl rfl rfl ?_
  refine aw_if rfl (fun h => ?_) (fun h => ?_)
  · refine aw_sr rfl ?_  -- r14 @code.go:157
    simp only [go_sem, reduceIte, Nat.reduceEqDiff, Nat.reduceAdd, Nat.reduceMul, Nat.reduceSub, Nat.reduceLeDiff, Nat.reduceLT, reduceCtorEq]
    refine aw_ret ⟨trivial, _, rfl, ?_, sub_rfl⟩
    rw [show writesB op = true from h]; exact Vle.refl _
  refine aw_skip (hK1 _ _ ?_)
  refine aw_sr rfl ?_  -- r15 @code.go:159
  simp only [go_sem, reduceIte, Nat.reduceEqDiff, Nat.reduceAdd, Nat.reduceMul, Nat.reduceSub, Nat.reduceLeDiff, Nat.reduceLT, reduceCtorEq]
  refine aw_ret ⟨trivial, _, rfl, ?_, sub_rfl⟩
  rw [show writesB op = false from h]; exact Vle.refl _
/-! ### Arms -/
def ars (xs : List Ar) : V := .sl (xs.map eAr) xs.isEmpty .no
def armsF (op : Int) (args : List Int) : List Ar := if op = 11 then (gatF args).getD [] else if op = 16 then (match args with | [] => [] | _ :: l => (gatF l).getD []) else []
theorem gatV_fst (no yes : V) (x : Option (List Ar)) : ∃ y, gatV no yes x = .tup [ars (x.getD []), y] := by
  cases x with
  | none => exact ⟨no, rfl⟩
  | some l => exact ⟨yes, rfl⟩
theorem q_cArms (op a b c : Int) (args : List Int) (nl : Bool) (hl : args.length ≤ 1048576) : Quiet Try.prog 222 [.agg (cIns op a b c args nl)] (ars (armsF op args)) := by
  refine Quiet.weak fun G => ?_
  refine acall_body (rs := [.tmp 2]) Try.func222 rfl rfl Try.ntmps222 (by kernel_rfl) (Nat.le_of_ble_eq_true rfl) ?_
  refine aw_sr rfl ?_  -- r0 @code.go:180
  simp only [go_sem, reduceIte, Nat.reduceEqDiff, Nat.reduceAdd, Nat.reduceMul, Nat.reduceSub, Nat.reduceLeDiff, Nat.reduceLT, reduceCtorEq]
  intro b1 hb1
  refine aw_box1 hb1 fun B1 hsB h1 => ?_
  refine aw_sr rfl ?_  -- r1 @code.go:181
  simp only [go_sem, reduceIte, Nat.reduceEqDiff, Nat.reduceAdd, Nat.reduceMul, Nat.reduceSub, Nat.reduceLeDiff, Nat.reduceLT, reduceCtorEq, h1]
  refine aw_mid (fun f' G' => ∃ l nl' tg, l.length ≤ 1048576 ∧ armsF op args = (gatF l).getD [] ∧ FSub [(3, .sl (l.map eI) nl' tg)] f' ∧ G' = B1) ?_ ?_
  · -- 2 ways
    refine aw_sr rfl ?_  -- r2 @code.go:182
    simp only [go_sem, reduceIte, Nat.reduceEqDiff, Nat.reduceAdd, Nat.reduceMul, Nat.reduceSub, Nat.reduceLeDiff, Nat.reduceLT, reduceCtorEq, h1]
    refine aw_block ?_  -- 0
    refine aw_chain rfl rfl rfl rfl rfl ?_  -- t9 is one of [11]
    refine aw_if rfl (fun h => ?_) (fun h => ?_)
    · have h : op = 11 := by simpa using h
      exact aw_skip ⟨args, nl, .no, hl, by unfold armsF; rw [if_pos h], rfl, rfl⟩
    · have h11 : ¬ op = 11 := by simpa using h
      refine aw_chain rfl rfl rfl rfl rfl ?_  -- t9 is one of [16]
      refine aw_if rfl (fun h => ?_) (fun h => ?_)
      · have h16 : op = 16 := by simpa using h
        refine aw_seq fun K1 hK1 => ?_
        refine aw_sr rfl ?_  -- r6 @code.go:185
        simp only [go_sem, reduceIte, Nat.reduceEqDiff, Nat.reduceAdd, Nat.reduceMul, Nat.reduceSub, Nat.reduceLeDiff, Nat.reduceLT, reduceCtorEq]
        cases args with
        | nil =>
          refine aw_if rfl (fun h => ?_) (fun h => by simp at h)
          refine aw_sr rfl ?_  -- r7 @code.go:186
          simp only [go_sem, reduceIte, Nat.reduceEqDiff, Nat.reduceAdd, Nat.reduceMul, Nat.reduceSub, Nat.reduceLeDiff, Nat.reduceLT, reduceCtorEq]
          refine aw_ret ⟨trivial, _, rfl, ?_, hsB⟩
          have : armsF op [] = [] := by unfold armsF; rw [if_neg h11, if_pos h16]
          rw [this]; exact Vle.untag
        | cons x l =>
          refine aw_if rfl (fun h => by simp at h; omega) (fun h => ?_)
          refine aw_skip (hK1 _ _ ?_)
          refine aw_rg rfl ?_  -- r8 @code.go:188
          simp only [go_sem, reduceIte, Nat.reduceEqDiff, Nat.reduceAdd, Nat.reduceMul, Nat.reduceSub, Nat.reduceLeDiff, Nat.reduceLT, reduceCtorEq, List.map_cons, toNat1, take_map_len]
          simp only [List.length_cons] at hl
          refine ⟨⟨⟨by omega, by omega⟩, wid_eI (x :: l)⟩, l, nl, _, by omega, ?_, rfl, rfl⟩
          unfold armsF; rw [if_neg h11, if_pos h16]
      · have h16 : ¬ op = 16 := by simpa using h
        refine aw_sr rfl ?_  -- r3 @code.go:190
        simp only [go_sem, reduceIte, Nat.reduceEqDiff, Nat.reduceAdd, Nat.reduceMul, Nat.reduceSub, Nat.reduceLeDiff, Nat.reduceLT, reduceCtorEq]
        refine aw_ret ⟨trivial, _, rfl, ?_, hsB⟩
        have : armsF op args = [] := by unfold armsF; rw [if_neg h11, if_neg h16]
        rw [this]; exact Vle.untag
  intro f' G' ⟨l, nl', tg, hll, hE, hf, hg⟩
  rw [hg, hE]
  refine AW.of_fsub hf ?_
  obtain ⟨y, hy⟩ := gatV_fst (.int .i64 3) (.int .i64 0) (gatF l)
  have hq := q_Gather l nl' tg hll
  rw [hy] at hq
  refine aw_sr rfl ?_  -- r9 @code.go:192
  simp only [go_sem, reduceIte, Nat.reduceEqDiff, Nat.reduceAdd, Nat.reduceMul, Nat.reduceSub, Nat.reduceLeDiff, Nat.reduceLT, reduceCtorEq]
  refine goA_q hq ?_
  simp only [go_sem, reduceIte, Nat.reduceEqDiff, Nat.reduceAdd, Nat.reduceMul, Nat.reduceSub, Nat.reduceLeDiff, Nat.reduceLT, reduceCtorEq]
  refine aw_sr rfl ?_  -- r10 @code.go:193
  simp only [go_sem, reduceIte, Nat.reduceEqDiff, Nat.reduceAdd, Nat.reduceMul, Nat.reduceSub, Nat.reduceLeDiff, Nat.reduceLT, reduceCtorEq]
  exact aw_ret ⟨trivial, _, rfl, Vle.refl _, hsB⟩
theorem q_rArms (op a b c : Int) (args : List Int) (nl : Bool) (hl : args.length ≤ 1048576) : Quiet Try.prog 227 [.agg (cIns op a b c args nl)] (ars (armsF op args)) := by
  refine Quiet.weak fun G => ?_
  refine acall_body (rs := [.tmp 2]) Try.func227 rfl rfl Try.ntmps227 (by kernel_rfl) (Nat.le_of_ble_eq_true rfl) ?_
  refine aw_sr rfl ?_  -- r0 @low.go:85
  simp only [go_sem, reduceIte, Nat.reduceEqDiff, Nat.reduceAdd, Nat.reduceMul, Nat.reduceSub, Nat.reduceLeDiff, Nat.reduceLT, reduceCtorEq]
  intro b1 hb1
  refine aw_box1 hb1 fun B1 hsB h1 => ?_
  refine aw_sr rfl ?_  -- r1 @low.go:86
  simp only [go_sem, reduceIte, Nat.reduceEqDiff, Nat.reduceAdd, Nat.reduceMul, Nat.reduceSub, Nat.reduceLeDiff, Nat.reduceLT, reduceCtorEq, h1]
  refine aw_mid (fun f' G' => ∃ l nl' tg, l.length ≤ 1048576 ∧ armsF op args = (gatF l).getD [] ∧ FSub [(3, .sl (l.map eI) nl' tg)] f' ∧ G' = B1) ?_ ?_
  · -- 2 ways
    refine aw_sr rfl ?_  -- r2 @low.go:87
    simp only [go_sem, reduceIte, Nat.reduceEqDiff, Nat.reduceAdd, Nat.reduceMul, Nat.reduceSub, Nat.reduceLeDiff, Nat.reduceLT, reduceCtorEq, h1]
    refine aw_if rfl (fun h => ?_) (fun h => ?_)
    · have hh : op = 16 ∧ 0 < args.length := by simpa using h
      obtain ⟨h16, hpos⟩ := hh
      cases args with
      | nil => simp at hpos
      | cons x l =>
        refine aw_rg rfl ?_  -- r3 @low.go:88
        simp only [go_sem, reduceIte, Nat.reduceEqDiff, Nat.reduceAdd, Nat.reduceMul, Nat.reduceSub, Nat.reduceLeDiff, Nat.reduceLT, reduceCtorEq, List.map_cons, toNat1, take_map_len]
        simp only [List.length_cons] at hl
        refine ⟨⟨⟨by omega, by omega⟩, wid_eI (x :: l)⟩, l, nl, _, by omega, ?_, rfl, rfl⟩
        unfold armsF; rw [if_neg (by omega), if_pos h16]
    · have hh : ¬ (op = 16 ∧ 0 < args.length) := by
        intro ⟨q1, q2⟩; simp [q1] at h; rw [h] at q2; simp at q2
      refine aw_sr rfl ?_  -- r4 @low.go:89
      simp only [go_sem, reduceIte, Nat.reduceEqDiff, Nat.reduceAdd, Nat.reduceMul, Nat.reduceSub, Nat.reduceLeDiff, Nat.reduceLT, reduceCtorEq, h1]
      refine aw_if rfl (fun h => ?_) (fun h => ?_)
      · have h11 : ¬ op = 11 := by simpa using h
        refine aw_sr rfl ?_  -- r5 @low.go:90
        simp only [go_sem, reduceIte, Nat.reduceEqDiff, Nat.reduceAdd, Nat.reduceMul, Nat.reduceSub, Nat.reduceLeDiff, Nat.reduceLT, reduceCtorEq]
        refine aw_ret ⟨trivial, _, rfl, ?_, hsB⟩
        have : armsF op args = [] := by
          unfold armsF
          rw [if_neg h11]
          split
          · rename_i h16
            cases args with
            | nil => rfl
            | cons x l => exact absurd ⟨h16, by simp⟩ hh
          · rfl
        rw [this]; exact Vle.untag
      · have h11 : op = 11 := by simpa using h
        exact aw_skip ⟨args, nl, .no, hl, by unfold armsF; rw [if_pos h11], rfl, rfl⟩
  intro f' G' ⟨l, nl', tg, hll, hE, hf, hg⟩
  rw [hg, hE]
  refine AW.of_fsub hf ?_
  obtain ⟨y, hy⟩ := gatV_fst (.bool false) (.bool true) (gatF l)
  have hq := q_Split l nl' tg hll
  rw [hy] at hq
  refine aw_sr rfl ?_  -- r6 @low.go:92
  simp only [go_sem, reduceIte, Nat.reduceEqDiff, Nat.reduceAdd, Nat.reduceMul, Nat.reduceSub, Nat.reduceLeDiff, Nat.reduceLT, reduceCtorEq]
  refine goA_q hq ?_
  simp only [go_sem, reduceIte, Nat.reduceEqDiff, Nat.reduceAdd, Nat.reduceMul, Nat.reduceSub, Nat.reduceLeDiff, Nat.reduceLT, reduceCtorEq]
  refine aw_sr rfl ?_  -- r7 @low.go:93
  simp only [go_sem, reduceIte, Nat.reduceEqDiff, Nat.reduceAdd, Nat.reduceMul, Nat.reduceSub, Nat.reduceLeDiff, Nat.reduceLT, reduceCtorEq]
  exact aw_ret ⟨trivial, _, rfl, Vle.refl _, hsB⟩
/-! ### Next -/
def firstA (op : Int) (args : List Int) : List Int := match args with | [] => [] | x :: _ => if op = 16 ∧ 0 ≤ x then [x] else []
def nextF (op a b c at_ : Int) (args : List Int) : List Int :=
  if op = 3 then [a] else if op = 4 then [at_ + 1, b] else if op = 27 then [at_ + 1, c]
  else if op = 11 ∨ op = 16 then firstA op args ++ (armsF op args).map (·.1)
  else if op = 15 ∨ op = 17 ∨ op = 18 ∨ op = 25 then [] else [at_ + 1]
theorem gat_len : ∀ (n : Nat) (l : List Int) (x : List Ar), gatN n l = some x → x.length ≤ l.length
  | n, [], x, h => by cases n <;> (simp [gatN] at h; subst h; simp)
  | n, [_], x, h => by cases n <;> simp [gatN] at h
  | 0, _ :: _ :: _, x, h => by simp [gatN] at h
  | n + 1, a :: k :: l, x, h => by
    rw [gatN] at h
    split at h
    · cases h
    · rw [Option.map_eq_some_iff] at h
      obtain ⟨y, hy, rfl⟩ := h
      have := gat_len n _ y hy
      rw [List.length_drop] at this
      simp only [List.length_cons]
      omega
theorem arms_len (op : Int) (args : List Int) : (armsF op args).length ≤ args.length := by
  have key : ∀ l : List Int, ((gatF l).getD []).length ≤ l.length := fun l => by
    cases h : gatF l with
    | none => simp
    | some x => exact gat_len _ _ _ h
  unfold armsF
  split
  · exact key args
  · split
    · split
      · simp
      · rename_i x l; have := key l; simp only [List.length_cons]; omega
    · simp
theorem first_len (op : Int) (args : List Int) : (firstA op args).length ≤ 1 := by
  unfold firstA; split
  · simp
  · split <;> simp
end Go.Proofs.Ytkhgcikaojhknaa

/- Where an instruction goes on, by both texts. Conditions: fewer than 2^20 arguments; a place of at most 2^40. -/
set_option linter.unusedSimpArgs false
set_option linter.unusedVariables false
namespace Go.Proofs.Ytkhgcikaojhknaa
open Go.Proofs.YtkhgcikaojhknaaV
set_option maxHeartbeats 400000
set_option maxRecDepth 100000
theorem q_cNext (op a b c at_ : Int) (args : List Int) (nl : Bool) (hl : args.length ≤ 1048576) (h0 : 0 ≤ at_) (h1 : at_ ≤ 1099511627776) : Quiet Try.prog 219 [.agg (cIns op a b c args nl), .int .i64 at_] (ints (nextF op a b c at_ args)) := by
  have hw : IntKind.i64.wrap (at_ + 1) = at_ + 1 := wrap64 (by omega) (by omega)
  have hal := arms_len op args
  have hfl := first_len op args
  refine Quiet.weak fun G => ?_
  refine acall_body (rs := [.tmp 4]) Try.func219 rfl rfl Try.ntmps219 (by kernel_rfl) (Nat.le_of_ble_eq_true rfl) ?_
  refine aw_sr rfl ?_  -- r0 @code.go:197
  simp only [go_sem, reduceIte, Nat.reduceEqDiff, Nat.reduceAdd, Nat.reduceMul, Nat.reduceSub, Nat.reduceLeDiff, Nat.reduceLT, reduceCtorEq]
  intro b2 hb2
  refine aw_box1 hb2 fun B1 hsB h2 => ?_
  refine aw_seq fun K1 hK1 => ?_
  refine aw_sr rfl ?_  -- r1 @code.go:198
  simp only [go_sem, reduceIte, Nat.reduceEqDiff, Nat.reduceAdd, Nat.reduceMul, Nat.reduceSub, Nat.reduceLeDiff, Nat.reduceLT, reduceCtorEq, h2]
  refine aw_block ?_  -- 0
  refine aw_chain rfl rfl rfl rfl rfl ?_  -- t9 is one of [3]
  refine aw_if rfl (fun h => ?_) (fun h => ?_)
  · have h : op = 3 := by simpa using h
    refine aw_sr rfl ?_  -- r3 @code.go:200
    simp only [go_sem, reduceIte, Nat.reduceEqDiff, Nat.reduceAdd, Nat.reduceMul, Nat.reduceSub, Nat.reduceLeDiff, Nat.reduceLT, reduceCtorEq, h2]
    refine aw_ret ⟨trivial, _, rfl, ?_, hsB⟩
    unfold nextF; rw [if_pos h]; exact Vle.untag
  have k3 : ¬ op = 3 := by simpa using h
  refine aw_chain rfl rfl rfl rfl rfl ?_  -- t9 is one of [4]
  refine aw_if rfl (fun h => ?_) (fun h => ?_)
  · have h : op = 4 := by simpa using h
    refine aw_sr rfl ?_  -- r5 @code.go:202
    simp only [go_sem, reduceIte, Nat.reduceEqDiff, Nat.reduceAdd, Nat.reduceMul, Nat.reduceSub, Nat.reduceLeDiff, Nat.reduceLT, reduceCtorEq, h2, hw]
    refine aw_ret ⟨trivial, _, rfl, ?_, hsB⟩
    unfold nextF; rw [if_neg k3, if_pos h]; exact Vle.untag
  have k4 : ¬ op = 4 := by simpa using h
  refine aw_chain rfl rfl rfl rfl rfl ?_  -- t9 is one of [27]
  refine aw_if rfl (fun h => ?_) (fun h => ?_)
  · have h : op = 27 := by simpa using h
    refine aw_sr rfl ?_  -- r7 @code.go:204
    simp only [go_sem, reduceIte, Nat.reduceEqDiff, Nat.reduceAdd, Nat.reduceMul, Nat.reduceSub, Nat.reduceLeDiff, Nat.reduceLT, reduceCtorEq, h2, hw]
    refine aw_ret ⟨trivial, _, rfl, ?_, hsB⟩
    unfold nextF; rw [if_neg k3, if_neg k4, if_pos h]; exact Vle.untag
  have k27 : ¬ op = 27 := by simpa using h
  refine aw_chain rfl rfl rfl rfl rfl ?_  -- t9 is one of [11, 16]
  refine aw_if rfl (fun h => ?_) (fun h => ?_)
  · have hm : op = 11 ∨ op = 16 := by simpa using h
    have hE : nextF op a b c at_ args = firstA op args ++ (armsF op args).map (·.1) := by unfold nextF; rw [if_neg k3, if_neg k4, if_neg k27, if_pos hm]
    rw [hE]
    refine aw_sr rfl ?_  -- r10 @code.go:206
    simp only [go_sem, reduceIte, Nat.reduceEqDiff, Nat.reduceAdd, Nat.reduceMul, Nat.reduceSub, Nat.reduceLeDiff, Nat.reduceLT, reduceCtorEq]
    refine aw_mid (fun f' G' => ∃ tg, Rm G G' 1 tg ∧ Sub G G' ∧ hget G' b2 = some (.vars (cIns op a b c args nl)) ∧ FSub [(5, .sl ((firstA op args).map eI) (firstA op args).isEmpty tg), (2, .ptr b2 0)] f') ?_ ?_
    · -- 2 ways
      refine aw_srq [(0,true),(1,true),(2,true),(3,true),(4,true),(5,true),(6,true),(7,true),(8,true),(9,true),(10,true),(11,true),(12,true),(13,true),(14,true),(15,true)] rfl rfl ?_  -- r11 @code.go:207
      cases args with
      | nil =>
        simp only [go_sem, reduceIte, Nat.reduceEqDiff, Nat.reduceAdd, Nat.reduceMul, Nat.reduceSub, Nat.reduceLeDiff, Nat.reduceLT, reduceCtorEq, h2, List.map_nil, show decide ((0 : Int) < ((0 : Nat) : Int)) = false from rfl, Bool.and_false, Bool.false_and, Bool.false_eq_true, false_implies, true_and]
        refine aw_if (b := false) rfl (fun h => by cases h) (fun h => ?_)
        exact aw_skip ⟨.full, Rm.start _ _ _, hsB, h2, rfl, rfl⟩
      | cons x l =>
        have hpos : decide ((0 : Int) < ((l.length + 1 : Nat) : Int)) = true := decide_eq_true (by omega)
        simp only [List.length_cons] at hl
        simp only [go_sem, reduceIte, Nat.reduceEqDiff, Nat.reduceAdd, Nat.reduceMul, Nat.reduceSub, Nat.reduceLeDiff, Nat.reduceLT, reduceCtorEq, h2, List.map_cons, hpos, Bool.and_true, Int.toNat_zero, List.getD_cons_zero, eI]
        refine ⟨fun _ => ⟨by omega, by omega, wid_eI (x :: l)⟩, ?_⟩
        refine aw_if rfl (fun h => ?_) (fun h => ?_)
        · have hh : op = 16 ∧ 0 ≤ x := by simpa using h
          have hF : firstA op (x :: l) = [x] := if_pos hh
          refine aw_rg rfl ?_  -- r12 @code.go:208
          simp only [go_sem, reduceIte, Nat.reduceEqDiff, Nat.reduceAdd, Nat.reduceMul, Nat.reduceSub, Nat.reduceLeDiff, Nat.reduceLT, reduceCtorEq, h2, List.map_cons, Int.toNat_zero, List.getD_cons_zero, eI]
          refine ⟨⟨by omega, by omega, wid_eI (x :: l)⟩, ?_⟩
          refine goP_rm (G := G) (Rm.start _ _ _) hsB ?_ fun t1 H1 hr1 hs1 hg1 => ?_
          · exact ⟨rfl, rfl, by decide, by simp [wid], wid_one rfl, sca_one rfl, by simp only [List.length_map, List.length_append, List.length_cons, List.length_nil, List.length_take, List.length_drop]; omega, by simp only [List.length_map, List.length_append, List.length_cons, List.length_nil, List.length_take, List.length_drop]; omega⟩
          simp only [go_sem, reduceIte, Nat.reduceEqDiff, Nat.reduceAdd, Nat.reduceMul, Nat.reduceSub, Nat.reduceLeDiff, Nat.reduceLT, reduceCtorEq, List.nil_append, Bool.and_false]
          rw [hF]
          exact ⟨t1, hr1, hs1, hg1.vars h2, rfl, rfl⟩
        · have hh : ¬ (op = 16 ∧ 0 ≤ x) := by
            intro ⟨q1, q2⟩; rw [decide_eq_true q1, decide_eq_true q2] at h; cases h
          have hF : firstA op (x :: l) = [] := if_neg hh
          rw [hF]
          exact aw_skip ⟨.full, Rm.start _ _ _, hsB, h2, rfl, rfl⟩
    intro f' G' ⟨tg, hr, hs, h2, hf⟩
    refine AW.of_fsub hf ?_
    refine aw_seq fun K2 hK2 => ?_
    refine aw_sr rfl ?_  -- r13 @code.go:210
    simp only [go_sem, reduceIte, Nat.reduceEqDiff, Nat.reduceAdd, Nat.reduceMul, Nat.reduceSub, Nat.reduceLeDiff, Nat.reduceLT, reduceCtorEq, h2]
    refine goA_q (q_cArms op a b c args nl hl) ?_
    simp only [go_sem, reduceIte, Nat.reduceEqDiff, Nat.reduceAdd, Nat.reduceMul, Nat.reduceSub, Nat.reduceLeDiff, Nat.reduceLT, reduceCtorEq, ars]
    generalize armsF op args = as_ at *
    refine aw_range as_.length (S := Tag × Heap) (fun i st => [(5, .sl ((firstA op args ++ (as_.take i).map (·.1)).map eI) (firstA op args ++ (as_.take i).map (·.1)).isEmpty st.1), (56, .sl (as_.map eAr) as_.isEmpty .no)]) (fun _ st => st.2) (fun i st => Rm G st.2 1 st.1 ∧ Sub G st.2) (tg, G') (by omega) ?_ (fun _ _ h => h) ⟨hr, hs⟩ rfl (fun _ _ => rfl) ?_ ?_ (by decide)
    · simp only [go_sem, reduceIte, Nat.reduceEqDiff, Nat.reduceAdd, Nat.reduceMul, Nat.reduceSub, Nat.reduceLeDiff, Nat.reduceLT, reduceCtorEq, Int.natCast_zero, List.take_zero, List.map_nil, List.append_nil]
    · intro i ⟨t2, H⟩ hi ⟨hr, hs⟩
      simp only at hr hs ⊢
      refine aw_sr rfl ?_  -- r15 @code.go:210
      simp only [go_sem, reduceIte, Nat.reduceEqDiff, Nat.reduceAdd, Nat.reduceMul, Nat.reduceSub, Nat.reduceLeDiff, Nat.reduceLT, reduceCtorEq, getD_map hi, eAr]
      refine ⟨⟨by omega, by omega, wid_eAr _⟩, ?_⟩
      intro b7 hb7
      refine aw_box1 hb7 fun B2 hs2 h7 => ?_
      refine aw_rg rfl ?_  -- r16 @code.go:211
      simp only [go_sem, reduceIte, Nat.reduceEqDiff, Nat.reduceAdd, Nat.reduceMul, Nat.reduceSub, Nat.reduceLeDiff, Nat.reduceLT, reduceCtorEq, h7]
      refine goP_rm (hr.sub hs2) (sub_trans hs hs2) ?_ fun t' H' hr' hs' hg => ?_
      · exact ⟨rfl, rfl, by decide, wid_eI _, wid_one rfl, sca_one rfl, by simp only [List.length_map, List.length_append, List.length_cons, List.length_nil, List.length_take, List.length_drop]; omega, by simp only [List.length_map, List.length_append, List.length_cons, List.length_nil, List.length_take, List.length_drop]; omega⟩
      simp only [go_sem, reduceIte, Nat.reduceEqDiff, Nat.reduceAdd, Nat.reduceMul, Nat.reduceSub, Nat.reduceLeDiff, Nat.reduceLT, reduceCtorEq, Bool.and_false]
      refine ⟨(t', H'), ⟨hr', hs'⟩, ?_, sub_rfl⟩
      have happ : (firstA op args ++ (as_.take (i + 1)).map (·.1)) = (firstA op args ++ (as_.take i).map (·.1)) ++ [as_[i].1] := by
        rw [List.take_succ_eq_append_getElem hi, List.map_append, List.append_assoc]; rfl
      have hne : ((firstA op args ++ (as_.take i).map (·.1)) ++ [as_[i].1]).isEmpty = false := by rw [isEmpty_app]; simp
      rw [happ]
      simp only [go_sem, reduceIte, Nat.reduceEqDiff, Nat.reduceAdd, Nat.reduceMul, Nat.reduceSub, Nat.reduceLeDiff, Nat.reduceLT, reduceCtorEq, hne, List.map_append, List.map_cons, List.map_nil, eI]
    intro ⟨t2, H⟩ ⟨hr, hs⟩
    refine hK2 _ _ ?_
    refine aw_sr rfl ?_  -- r18 @code.go:213
    simp only [go_sem, reduceIte, Nat.reduceEqDiff, Nat.reduceAdd, Nat.reduceMul, Nat.reduceSub, Nat.reduceLeDiff, Nat.reduceLT, reduceCtorEq, List.take_length]
    exact aw_ret ⟨trivial, _, rfl, Vle.untag, hs⟩
  have km : ¬ (op = 11 ∨ op = 16) := by simpa using h
  refine aw_chain rfl rfl rfl rfl rfl ?_  -- t9 is one of [15, 17, 18, 25]
  refine aw_if rfl (fun h => ?_) (fun h => ?_)
  · have h : op = 15 ∨ op = 17 ∨ op = 18 ∨ op = 25 := by simpa using h
    refine aw_sr rfl ?_  -- r23 @code.go:215
    simp only [go_sem, reduceIte, Nat.reduceEqDiff, Nat.reduceAdd, Nat.reduceMul, Nat.reduceSub, Nat.reduceLeDiff, Nat.reduceLT, reduceCtorEq]
    refine aw_ret ⟨trivial, _, rfl, ?_, hsB⟩
    unfold nextF; rw [if_neg k3, if_neg k4, if_neg k27, if_neg km, if_pos h]; exact Vle.untag
  have ke : ¬ (op = 15 ∨ op = 17 ∨ op = 18 ∨ op = 25) := by simpa using h
  refine aw_skip (hK1 _ _ ?_)
  refine aw_sr rfl ?_  -- r24 @code.go:217
  simp only [go_sem, reduceIte, Nat.reduceEqDiff, Nat.reduceAdd, Nat.reduceMul, Nat.reduceSub, Nat.reduceLeDiff, Nat.reduceLT, reduceCtorEq, hw]
  refine aw_ret ⟨trivial, _, rfl, ?_, hsB⟩
  unfold nextF; rw [if_neg k3, if_neg k4, if_neg k27, if_neg km, if_neg ke]; exact Vle.untag
theorem ends_same (op : Int) : (shapesF op).2.2 = true ↔ (op = 15 ∨ op = 17 ∨ op = 18 ∨ op = 25) := by
  refine op_cases (p := fun op => (shapesF op).2.2 = true ↔ (op = 15 ∨ op = 17 ∨ op = 18 ∨ op = 25)) op ?_ ?_ ?_ ?_ ?_ ?_ ?_ ?_ ?_ ?_ ?_ ?_ ?_ ?_ ?_ ?_ ?_ ?_ ?_ ?_ ?_ ?_ ?_ ?_ ?_ ?_ ?_ (fun h => ?_)
  all_goals first | (rw [shapes_out h]; simp; omega) | decide
theorem q_rNext (op a b c at_ : Int) (args : List Int) (nl : Bool) (hl : args.length ≤ 1048576) (h0 : 0 ≤ at_) (h1 : at_ ≤ 1099511627776) : Quiet Try.prog 224 [.agg (cIns op a b c args nl), .int .i64 at_] (ints (nextF op a b c at_ args)) := by
  have hw : IntKind.i64.wrap (at_ + 1) = at_ + 1 := wrap64 (by omega) (by omega)
  have hal := arms_len op args
  have hfl := first_len op args
  refine Quiet.weak fun G => ?_
  refine acall_body (rs := [.tmp 4]) Try.func224 rfl rfl Try.ntmps224 (by kernel_rfl) (Nat.le_of_ble_eq_true rfl) ?_
  refine aw_sr rfl ?_  -- r0 @low.go:97
  simp only [go_sem, reduceIte, Nat.reduceEqDiff, Nat.reduceAdd, Nat.reduceMul, Nat.reduceSub, Nat.reduceLeDiff, Nat.reduceLT, reduceCtorEq]
  intro b2 hb2
  refine aw_box1 hb2 fun B1 hsB h2 => ?_
  refine aw_seq fun K1 hK1 => ?_
  refine aw_block ?_  -- 0
  refine aw_sr rfl ?_  -- r1 @low.go:99
  simp only [go_sem, reduceIte, Nat.reduceEqDiff, Nat.reduceAdd, Nat.reduceMul, Nat.reduceSub, Nat.reduceLeDiff, Nat.reduceLT, reduceCtorEq, h2]
  refine aw_if rfl (fun h => ?_) (fun h => ?_)
  · have h : op = 3 := by simpa using h
    refine aw_sr rfl ?_  -- r2 @low.go:100
    simp only [go_sem, reduceIte, Nat.reduceEqDiff, Nat.reduceAdd, Nat.reduceMul, Nat.reduceSub, Nat.reduceLeDiff, Nat.reduceLT, reduceCtorEq, h2]
    refine aw_ret ⟨trivial, _, rfl, ?_, hsB⟩
    unfold nextF; rw [if_pos h]; exact Vle.untag
  have k3 : ¬ op = 3 := by simpa using h
  refine aw_sr rfl ?_  -- r3 @low.go:101
  simp only [go_sem, reduceIte, Nat.reduceEqDiff, Nat.reduceAdd, Nat.reduceMul, Nat.reduceSub, Nat.reduceLeDiff, Nat.reduceLT, reduceCtorEq, h2]
  refine aw_if rfl (fun h => ?_) (fun h => ?_)
  · have h : op = 4 := by simpa using h
    refine aw_sr rfl ?_  -- r4 @low.go:102
    simp only [go_sem, reduceIte, Nat.reduceEqDiff, Nat.reduceAdd, Nat.reduceMul, Nat.reduceSub, Nat.reduceLeDiff, Nat.reduceLT, reduceCtorEq, h2, hw]
    refine aw_ret ⟨trivial, _, rfl, ?_, hsB⟩
    unfold nextF; rw [if_neg k3, if_pos h]; exact Vle.untag
  have k4 : ¬ op = 4 := by simpa using h
  refine aw_sr rfl ?_  -- r5 @low.go:103
  simp only [go_sem, reduceIte, Nat.reduceEqDiff, Nat.reduceAdd, Nat.reduceMul, Nat.reduceSub, Nat.reduceLeDiff, Nat.reduceLT, reduceCtorEq, h2]
  refine aw_if rfl (fun h => ?_) (fun h => ?_)
  · have h : op = 27 := by simpa using h
    refine aw_sr rfl ?_  -- r6 @low.go:104
    simp only [go_sem, reduceIte, Nat.reduceEqDiff, Nat.reduceAdd, Nat.reduceMul, Nat.reduceSub, Nat.reduceLeDiff, Nat.reduceLT, reduceCtorEq, h2, hw]
    refine aw_ret ⟨trivial, _, rfl, ?_, hsB⟩
    unfold nextF; rw [if_neg k3, if_neg k4, if_pos h]; exact Vle.untag
  have k27 : ¬ op = 27 := by simpa using h
  refine aw_sr rfl ?_  -- r7 @low.go:105
  simp only [go_sem, reduceIte, Nat.reduceEqDiff, Nat.reduceAdd, Nat.reduceMul, Nat.reduceSub, Nat.reduceLeDiff, Nat.reduceLT, reduceCtorEq, h2]
  refine goA_q (q_shapes op) ?_
  simp only [go_sem, reduceIte, Nat.reduceEqDiff, Nat.reduceAdd, Nat.reduceMul, Nat.reduceSub, Nat.reduceLeDiff, Nat.reduceLT, reduceCtorEq, cShape]
  refine aw_if rfl (fun h => ?_) (fun h => ?_)
  · have h := (ends_same op).1 h
    refine aw_sr rfl ?_  -- r8 @low.go:106
    simp only [go_sem, reduceIte, Nat.reduceEqDiff, Nat.reduceAdd, Nat.reduceMul, Nat.reduceSub, Nat.reduceLeDiff, Nat.reduceLT, reduceCtorEq]
    refine aw_ret ⟨trivial, _, rfl, ?_, hsB⟩
    unfold nextF; rw [if_neg k3, if_neg k4, if_neg k27, if_neg (by omega), if_pos h]; exact Vle.untag
  have ke : ¬ (op = 15 ∨ op = 17 ∨ op = 18 ∨ op = 25) := fun q => by rw [(ends_same op).2 q] at h; cases h
  refine aw_sr rfl ?_  -- r9 @low.go:107
  simp only [go_sem, reduceIte, Nat.reduceEqDiff, Nat.reduceAdd, Nat.reduceMul, Nat.reduceSub, Nat.reduceLeDiff, Nat.reduceLT, reduceCtorEq, h2]
  refine aw_if rfl (fun h => ?_) (fun h => ?_)
  · have hm : op = 11 ∨ op = 16 := by simpa using h
    have hE : nextF op a b c at_ args = firstA op args ++ (armsF op args).map (·.1) := by unfold nextF; rw [if_neg k3, if_neg k4, if_neg k27, if_pos hm]
    rw [hE]
    refine aw_sr rfl ?_  -- r10 @low.go:108
    simp only [go_sem, reduceIte, Nat.reduceEqDiff, Nat.reduceAdd, Nat.reduceMul, Nat.reduceSub, Nat.reduceLeDiff, Nat.reduceLT, reduceCtorEq]
    refine aw_mid (fun f' G' => ∃ tg, Rm G G' 1 tg ∧ Sub G G' ∧ hget G' b2 = some (.vars (cIns op a b c args nl)) ∧ FSub [(5, .sl ((firstA op args).map eI) (firstA op args).isEmpty tg), (2, .ptr b2 0)] f') ?_ ?_
    · -- 2 ways
      refine aw_srq [(0,true),(1,true),(2,true),(3,true),(4,true),(5,true),(6,true),(7,true),(8,true),(9,true),(10,true),(11,true),(12,true),(13,true),(14,true),(15,true)] rfl rfl ?_  -- r11 @low.go:109
      cases args with
      | nil =>
        simp only [go_sem, reduceIte, Nat.reduceEqDiff, Nat.reduceAdd, Nat.reduceMul, Nat.reduceSub, Nat.reduceLeDiff, Nat.reduceLT, reduceCtorEq, h2, List.map_nil, show decide ((0 : Int) < ((0 : Nat) : Int)) = false from rfl, Bool.and_false, Bool.false_and, Bool.false_eq_true, false_implies, true_and]
        refine aw_if (b := false) rfl (fun h => by cases h) (fun h => ?_)
        exact aw_skip ⟨.full, Rm.start _ _ _, hsB, h2, rfl, rfl⟩
      | cons x l =>
        have hpos : decide ((0 : Int) < ((l.length + 1 : Nat) : Int)) = true := decide_eq_true (by omega)
        simp only [List.length_cons] at hl
        simp only [go_sem, reduceIte, Nat.reduceEqDiff, Nat.reduceAdd, Nat.reduceMul, Nat.reduceSub, Nat.reduceLeDiff, Nat.reduceLT, reduceCtorEq, h2, List.map_cons, hpos, Bool.and_true, Int.toNat_zero, List.getD_cons_zero, eI]
        refine ⟨fun _ => ⟨by omega, by omega, wid_eI (x :: l)⟩, ?_⟩
        refine aw_if rfl (fun h => ?_) (fun h => ?_)
        · have hh : op = 16 ∧ 0 ≤ x := by simp at h; omega
          have hF : firstA op (x :: l) = [x] := if_pos hh
          refine aw_rg rfl ?_  -- r12 @low.go:110
          simp only [go_sem, reduceIte, Nat.reduceEqDiff, Nat.reduceAdd, Nat.reduceMul, Nat.reduceSub, Nat.reduceLeDiff, Nat.reduceLT, reduceCtorEq, h2, List.map_cons, Int.toNat_zero, List.getD_cons_zero, eI]
          refine ⟨⟨by omega, by omega, wid_eI (x :: l)⟩, ?_⟩
          rw [hF]
          exact ⟨.full, Rm.start _ _ _, hsB, h2, rfl, rfl⟩
        · have hh : ¬ (op = 16 ∧ 0 ≤ x) := by
            intro ⟨q1, q2⟩; simp [q1] at h; omega
          have hF : firstA op (x :: l) = [] := if_neg hh
          rw [hF]
          exact aw_skip ⟨.full, Rm.start _ _ _, hsB, h2, rfl, rfl⟩
    intro f' G' ⟨tg, hr, hs, h2, hf⟩
    refine AW.of_fsub hf ?_
    refine aw_seq fun K2 hK2 => ?_
    refine aw_sr rfl ?_  -- r13 @low.go:112
    simp only [go_sem, reduceIte, Nat.reduceEqDiff, Nat.reduceAdd, Nat.reduceMul, Nat.reduceSub, Nat.reduceLeDiff, Nat.reduceLT, reduceCtorEq, h2]
    refine goA_q (q_rArms op a b c args nl hl) ?_
    simp only [go_sem, reduceIte, Nat.reduceEqDiff, Nat.reduceAdd, Nat.reduceMul, Nat.reduceSub, Nat.reduceLeDiff, Nat.reduceLT, reduceCtorEq, ars]
    generalize armsF op args = as_ at *
    refine aw_range as_.length (S := Tag × Heap) (fun i st => [(5, .sl ((firstA op args ++ (as_.take i).map (·.1)).map eI) (firstA op args ++ (as_.take i).map (·.1)).isEmpty st.1), (69, .sl (as_.map eAr) as_.isEmpty .no)]) (fun _ st => st.2) (fun i st => Rm G st.2 1 st.1 ∧ Sub G st.2) (tg, G') (by omega) ?_ (fun _ _ h => h) ⟨hr, hs⟩ rfl (fun _ _ => rfl) ?_ ?_ (by decide)
    · simp only [go_sem, reduceIte, Nat.reduceEqDiff, Nat.reduceAdd, Nat.reduceMul, Nat.reduceSub, Nat.reduceLeDiff, Nat.reduceLT, reduceCtorEq, Int.natCast_zero, List.take_zero, List.map_nil, List.append_nil]
    · intro i ⟨t2, H⟩ hi ⟨hr, hs⟩
      simp only at hr hs ⊢
      refine aw_sr rfl ?_  -- r15 @low.go:112
      simp only [go_sem, reduceIte, Nat.reduceEqDiff, Nat.reduceAdd, Nat.reduceMul, Nat.reduceSub, Nat.reduceLeDiff, Nat.reduceLT, reduceCtorEq, getD_map hi, eAr]
      refine ⟨⟨by omega, by omega, wid_eAr _⟩, ?_⟩
      intro b7 hb7
      refine aw_box1 hb7 fun B2 hs2 h7 => ?_
      refine aw_rg rfl ?_  -- r16 @low.go:113
      simp only [go_sem, reduceIte, Nat.reduceEqDiff, Nat.reduceAdd, Nat.reduceMul, Nat.reduceSub, Nat.reduceLeDiff, Nat.reduceLT, reduceCtorEq, h7]
      refine goP_rm (hr.sub hs2) (sub_trans hs hs2) ?_ fun t' H' hr' hs' hg => ?_
      · exact ⟨rfl, rfl, by decide, wid_eI _, wid_one rfl, sca_one rfl, by simp only [List.length_map, List.length_append, List.length_cons, List.length_nil, List.length_take, List.length_drop]; omega, by simp only [List.length_map, List.length_append, List.length_cons, List.length_nil, List.length_take, List.length_drop]; omega⟩
      simp only [go_sem, reduceIte, Nat.reduceEqDiff, Nat.reduceAdd, Nat.reduceMul, Nat.reduceSub, Nat.reduceLeDiff, Nat.reduceLT, reduceCtorEq, Bool.and_false]
      refine ⟨(t', H'), ⟨hr', hs'⟩, ?_, sub_rfl⟩
      have happ : (firstA op args ++ (as_.take (i + 1)).map (·.1)) = (firstA op args ++ (as_.take i).map (·.1)) ++ [as_[i].1] := by
        rw [List.take_succ_eq_append_getElem hi, List.map_append, List.append_assoc]; rfl
      have hne : ((firstA op args ++ (as_.take i).map (·.1)) ++ [as_[i].1]).isEmpty = false := by rw [isEmpty_app]; simp
      rw [happ]
      simp only [go_sem, reduceIte, Nat.reduceEqDiff, Nat.reduceAdd, Nat.reduceMul, Nat.reduceSub, Nat.reduceLeDiff, Nat.reduceLT, reduceCtorEq, hne, List.map_append, List.map_cons, List.map_nil, eI]
    intro ⟨t2, H⟩ ⟨hr, hs⟩
    refine hK2 _ _ ?_
    refine aw_sr rfl ?_  -- r18 @low.go:115
    simp only [go_sem, reduceIte, Nat.reduceEqDiff, Nat.reduceAdd, Nat.reduceMul, Nat.reduceSub, Nat.reduceLeDiff, Nat.reduceLT, reduceCtorEq, List.take_length]
    exact aw_ret ⟨trivial, _, rfl, Vle.untag, hs⟩
  have km : ¬ (op = 11 ∨ op = 16) := by simpa using h
  refine aw_skip (hK1 _ _ ?_)
  refine aw_sr rfl ?_  -- r19 @low.go:117
  simp only [go_sem, reduceIte, Nat.reduceEqDiff, Nat.reduceAdd, Nat.reduceMul, Nat.reduceSub, Nat.reduceLeDiff, Nat.reduceLT, reduceCtorEq, hw]
  refine aw_ret ⟨trivial, _, rfl, ?_, hsB⟩
  unfold nextF; rw [if_neg k3, if_neg k4, if_neg k27, if_neg km, if_neg ke]; exact Vle.untag
end Go.Proofs.Ytkhgcikaojhknaa

/- Lists of numbers and of arms, compared. Condition: fewer than 2^63 elements. -/
set_option linter.unusedSimpArgs false
set_option linter.unusedVariables false
namespace Go.Proofs.Ytkhgcikaojhknaa
open Go.Proofs.YtkhgcikaojhknaaV
set_option maxHeartbeats 400000
set_option maxRecDepth 100000
theorem q_EqualI (xs ys : List Int) (n1 n2 : Bool) (t1 t2 : Tag) (hx : (xs.length : Int) ≤ 9223372036854775807) : Quiet Try.prog 22 [.sl (xs.map eI) n1 t1, .sl (ys.map eI) n2 t2] (.bool (decide (xs = ys))) := by
  intro G
  refine acall_body (rs := [.tmp 4]) Try.func22 rfl rfl Try.ntmps22 (by kernel_rfl) (Nat.le_of_ble_eq_true rfl) ?_
  refine aw_sr rfl ?_
  simp only [go_sem, reduceIte, Nat.reduceEqDiff, Nat.reduceAdd, Nat.reduceMul, Nat.reduceSub, Nat.reduceLeDiff, Nat.reduceLT, reduceCtorEq]
  refine aw_seq fun K2 hK2 => ?_
  refine aw_sr rfl ?_
  simp only [go_sem, reduceIte, Nat.reduceEqDiff, Nat.reduceAdd, Nat.reduceMul, Nat.reduceSub, Nat.reduceLeDiff, Nat.reduceLT, reduceCtorEq]
  refine aw_if rfl (fun h => ?_) (fun h => ?_)
  · refine aw_sr rfl ?_
    simp only [go_sem, reduceIte, Nat.reduceEqDiff, Nat.reduceAdd, Nat.reduceMul, Nat.reduceSub, Nat.reduceLeDiff, Nat.reduceLT, reduceCtorEq]
    refine aw_ret ⟨trivial, _, rfl, ?_⟩
    simp only [decide_eq_true_eq, ne_eq, Int.natCast_inj] at h
    refine ⟨?_, rfl⟩
    rw [decide_eq_false (fun e => h (by rw [e]))]
    rfl
  · refine aw_skip (hK2 _ _ ?_)
    have hl : xs.length = ys.length := by simpa [Int.natCast_inj] using h
    refine aw_seq fun K3 hK3 => ?_
    refine aw_sr rfl ?_
    simp only [go_sem, reduceIte, Nat.reduceEqDiff, Nat.reduceAdd, Nat.reduceMul, Nat.reduceSub, Nat.reduceLeDiff, Nat.reduceLT, reduceCtorEq]
    refine aw_range xs.length (S := Unit) (fun _ _ => [(0, .sl (xs.map eI) n1 t1), (1, .sl (ys.map eI) n2 t2)]) (fun _ _ => G) (fun i _ => xs.take i = ys.take i) () hx ?_ (fun _ _ h => h) rfl rfl (fun _ _ => rfl) ?_ ?_ (by decide)
    · simp only [go_sem, reduceIte, Nat.reduceEqDiff, Nat.reduceAdd, Nat.reduceMul, Nat.reduceSub, Nat.reduceLeDiff, Nat.reduceLT, reduceCtorEq]
    · intro i _ hi he
      refine aw_sr rfl ?_
      simp only [go_sem, reduceIte, Nat.reduceEqDiff, Nat.reduceAdd, Nat.reduceMul, Nat.reduceSub, Nat.reduceLeDiff, Nat.reduceLT, reduceCtorEq]
      refine aw_srd [(0,true),(1,true),(2,true),(3,true),(4,true),(5,true),(6,true),(7,true),(8,true)] mixed rfl (by kernel_rfl) ?_
      simp only [go_sem, reduceIte, Nat.reduceEqDiff, Nat.reduceAdd, Nat.reduceMul, Nat.reduceSub, Nat.reduceLeDiff, Nat.reduceLT, reduceCtorEq, getD_map hi, getD_map (hl ▸ hi), eI]
      refine ⟨⟨by omega, by omega, wid_map (g := eI) (fun _ => rfl) _⟩, ⟨by omega, by omega, wid_map (g := eI) (fun _ => rfl) _⟩, ?_⟩
      refine aw_if rfl (fun h => ?_) (fun h => ?_)
      · refine aw_sr rfl ?_
        simp only [go_sem, reduceIte, Nat.reduceEqDiff, Nat.reduceAdd, Nat.reduceMul, Nat.reduceSub, Nat.reduceLeDiff, Nat.reduceLT, reduceCtorEq]
        refine aw_ret ⟨trivial, _, rfl, ?_⟩
        refine ⟨?_, rfl⟩
        have h : ¬ xs[i] = ys[i]'(hl ▸ hi) := by simpa using h
        rw [decide_eq_false (fun e => h (by subst e; rfl))]
        rfl
      · have h : xs[i] = ys[i]'(hl ▸ hi) := by simpa using h
        refine aw_skip ⟨(), ?_, ?_, fun _ _ h => h⟩
        · rw [List.take_succ_eq_append_getElem hi, List.take_succ_eq_append_getElem (hl ▸ hi), he, h]
        · simp only [go_sem, reduceIte, Nat.reduceEqDiff, Nat.reduceAdd, Nat.reduceMul, Nat.reduceSub, Nat.reduceLeDiff, Nat.reduceLT, reduceCtorEq]
    · intro _ he
      refine hK3 _ _ ?_
      refine aw_sr rfl ?_
      simp only [go_sem, reduceIte, Nat.reduceEqDiff, Nat.reduceAdd, Nat.reduceMul, Nat.reduceSub, Nat.reduceLeDiff, Nat.reduceLT, reduceCtorEq]
      refine aw_ret ⟨trivial, _, rfl, ?_⟩
      rw [List.take_length, hl, List.take_length] at he
      subst he
      rw [decide_eq_true rfl]
      exact ⟨rfl, rfl⟩
theorem eqF_same {A : Type} [DecidableEq A] : ∀ xs ys : List A, eqF (fun a b => decide (a = b)) xs ys = decide (xs = ys)
  | [], [] => rfl
  | [], _ :: _ => by simp [eqF]
  | _ :: _, [] => by simp [eqF]
  | x :: xs, y :: ys => by rw [eqF_cons, eqF_same xs ys]; simp
theorem gat_regs : ∀ (n : Nat) (l : List Int) (x : List Ar), gatN n l = some x → ∀ a ∈ x, a.2.length ≤ l.length
  | n, [], x, h => by cases n <;> (simp [gatN] at h; subst h; simp)
  | n, [_], x, h => by cases n <;> simp [gatN] at h
  | 0, _ :: _ :: _, x, h => by simp [gatN] at h
  | n + 1, a :: k :: l, x, h => by
    rw [gatN] at h
    split at h
    · cases h
    · rw [Option.map_eq_some_iff] at h
      obtain ⟨y, hy, rfl⟩ := h
      intro b hb
      simp only [List.length_cons]
      rcases List.mem_cons.1 hb with rfl | hb
      · rw [List.length_take]; omega
      · have := gat_regs n _ y hy b hb
        rw [List.length_drop] at this
        omega
theorem gatF_regs (l : List Int) : ∀ a ∈ (gatF l).getD [], a.2.length ≤ l.length := by
  cases h : gatF l with
  | none => simp
  | some x => exact gat_regs _ _ _ h
theorem gatF_len (l : List Int) : ((gatF l).getD []).length ≤ l.length := by
  cases h : gatF l with
  | none => simp
  | some x => exact gat_len _ _ _ h
theorem arms_regs (op : Int) (args : List Int) : ∀ a ∈ armsF op args, a.2.length ≤ args.length := by
  unfold armsF
  split
  · exact gatF_regs args
  · split
    · split
      · simp
      · rename_i x l; intro a ha; have := gatF_regs l a ha; simp only [List.length_cons]; omega
    · simp
end Go.Proofs.Ytkhgcikaojhknaa

/- The registers that an instruction reads, as a slice of nobody else's. No conditions but sizes. -/
set_option linter.unusedSimpArgs false
set_option linter.unusedVariables false
namespace Go.Proofs.Ytkhgcikaojhknaa
open Go.Proofs.YtkhgcikaojhknaaV
set_option maxHeartbeats 400000
set_option maxRecDepth 100000
/-- A call that makes a slice; the room behind it is nobody else's. -/
def Made (P : Go.Program) (n : Nat) (g : Go.FuncId) (args : List V) (es : List (List V)) (nl : Bool) : Prop := ∀ G, ACall P g args (fun y G' => ∃ t, y = .sl es nl t ∧ Rm G G' n t ∧ Sub G G') G
theorem allT_next {A : Type} {q : A → Bool} {xs : List A} {i : Nat} (h : (xs.take i).all q = true) (hi : i < xs.length) (he : q xs[i] = true) : (xs.take (i + 1)).all q = true := by
  rw [List.take_succ_eq_append_getElem hi, List.all_append, h]; simp [he]
theorem allT_not {A : Type} {q : A → Bool} {xs : List A} {i : Nat} (hi : i < xs.length) (he : q xs[i] = false) : xs.all q = false := by
  rw [List.all_eq_false]; exact ⟨_, List.getElem_mem hi, by simp [he]⟩
theorem flat_len {A : Type} {g : A → List Int} {m : Nat} : ∀ {xs : List A}, (∀ a ∈ xs, (g a).length ≤ m) → (xs.flatMap g).length ≤ xs.length * m
  | [], _ => by simp
  | x :: xs, h => by
    have h1 := h x (by simp)
    have h2 := flat_len (xs := xs) (fun a ha => h a (by simp [ha]))
    rw [List.flatMap_cons, List.length_append, List.length_cons, Nat.add_mul]
    omega
theorem m_cReads (op a b c : Int) (args : List Int) (nl : Bool) (hl : args.length ≤ 1048576) : Made Try.prog 1 220 [.agg (cIns op a b c args nl)] ((readsF op a b args).map eI) (readsF op a b args).isEmpty := by
  intro G
  refine acall_body (rs := [.tmp 2]) Try.func220 rfl rfl Try.ntmps220 (by kernel_rfl) (Nat.le_of_ble_eq_true rfl) ?_
  refine aw_sr rfl ?_  -- r0 @code.go:163
  simp only [go_sem, reduceIte, Nat.reduceEqDiff, Nat.reduceAdd, Nat.reduceMul, Nat.reduceSub, Nat.reduceLeDiff, Nat.reduceLT, reduceCtorEq]
  intro b1 hb1
  refine aw_box1 hb1 fun B1 hsB h1 => ?_
  refine aw_seq fun K1 hK1 => ?_
  refine aw_sr rfl ?_  -- r1 @code.go:164
  simp only [go_sem, reduceIte, Nat.reduceEqDiff, Nat.reduceAdd, Nat.reduceMul, Nat.reduceSub, Nat.reduceLeDiff, Nat.reduceLT, reduceCtorEq, h1]
  refine aw_block ?_  -- 0
  have hE : readsF op a b args = readsF op a b args := rfl
  conv at hE => lhs; unfold readsF
  refine aw_chain rfl rfl rfl rfl rfl ?_  -- t4 is one of [2, 20, 21]
  refine aw_if rfl (fun h => ?_) (fun h => ?_)
  · rw [if_pos h] at hE
    refine aw_sr rfl ?_  -- r5 @code.go:166
    simp only [go_sem, reduceIte, Nat.reduceEqDiff, Nat.reduceAdd, Nat.reduceMul, Nat.reduceSub, Nat.reduceLeDiff, Nat.reduceLT, reduceCtorEq, h1]
    refine aw_ret ⟨trivial, _, rfl, ?_⟩
    rw [← hE]; exact ⟨.full, rfl, Rm.start _ _ _, hsB⟩
  rw [if_neg (no_if h)] at hE
  refine aw_chain rfl rfl rfl rfl rfl ?_  -- t4 is one of [4, 11, 18, 19, 23, 24, 25, 26, 27]
  refine aw_if rfl (fun h => ?_) (fun h => ?_)
  · rw [if_pos h] at hE
    refine aw_sr rfl ?_  -- r15 @code.go:168
    simp only [go_sem, reduceIte, Nat.reduceEqDiff, Nat.reduceAdd, Nat.reduceMul, Nat.reduceSub, Nat.reduceLeDiff, Nat.reduceLT, reduceCtorEq, h1]
    refine aw_ret ⟨trivial, _, rfl, ?_⟩
    rw [← hE]; exact ⟨.full, rfl, Rm.start _ _ _, hsB⟩
  rw [if_neg (no_if h)] at hE
  refine aw_chain rfl rfl rfl rfl rfl ?_  -- t4 is one of [5, 6, 7, 8, 10, 12, 15]
  refine aw_if rfl (fun h => ?_) (fun h => ?_)
  · rw [if_pos h] at hE
    refine aw_sr rfl ?_  -- r23 @code.go:170
    simp only [go_sem, reduceIte, Nat.reduceEqDiff, Nat.reduceAdd, Nat.reduceMul, Nat.reduceSub, Nat.reduceLeDiff, Nat.reduceLT, reduceCtorEq, h1]
    refine goP_rm (G := G) (Rm.start _ _ _) hsB ?_ fun t1 H1 hr1 hs1 hg1 => ?_
    · exact ⟨rfl, rfl, by decide, by simp [wid], wid_eI _, sca_eI _, by simp; omega, by simp; omega⟩
    simp only [go_sem, reduceIte, Nat.reduceEqDiff, Nat.reduceAdd, Nat.reduceMul, Nat.reduceSub, Nat.reduceLeDiff, Nat.reduceLT, reduceCtorEq, List.nil_append, Bool.true_and]
    refine aw_ret ⟨trivial, _, rfl, ?_⟩
    rw [← hE, List.isEmpty_map]; exact ⟨t1, rfl, hr1, hs1⟩
  rw [if_neg (no_if h)] at hE
  refine aw_chain rfl rfl rfl rfl rfl ?_  -- t4 is one of [9]
  refine aw_if rfl (fun h => ?_) (fun h => ?_)
  · rw [if_pos h] at hE
    refine aw_sr rfl ?_  -- r25 @code.go:172
    simp only [go_sem, reduceIte, Nat.reduceEqDiff, Nat.reduceAdd, Nat.reduceMul, Nat.reduceSub, Nat.reduceLeDiff, Nat.reduceLT, reduceCtorEq, h1]
    refine goP_rm (G := G) (Rm.start _ _ _) hsB ?_ fun t1 H1 hr1 hs1 hg1 => ?_
    · exact ⟨rfl, rfl, by decide, wid_one rfl, wid_eI _, sca_eI _, by simp; omega, by simp; omega⟩
    simp only [go_sem, reduceIte, Nat.reduceEqDiff, Nat.reduceAdd, Nat.reduceMul, Nat.reduceSub, Nat.reduceLeDiff, Nat.reduceLT, reduceCtorEq, Bool.false_and]
    refine aw_ret ⟨trivial, _, rfl, ?_⟩
    rw [← hE]; exact ⟨t1, rfl, hr1, hs1⟩
  rw [if_neg (no_if h)] at hE
  refine aw_chain rfl rfl rfl rfl rfl ?_  -- t4 is one of [13, 22]
  refine aw_if rfl (fun h => ?_) (fun h => ?_)
  · rw [if_pos h] at hE
    refine aw_sr rfl ?_  -- r28 @code.go:174
    simp only [go_sem, reduceIte, Nat.reduceEqDiff, Nat.reduceAdd, Nat.reduceMul, Nat.reduceSub, Nat.reduceLeDiff, Nat.reduceLT, reduceCtorEq, h1]
    refine aw_ret ⟨trivial, _, rfl, ?_⟩
    rw [← hE]; exact ⟨.full, rfl, Rm.start _ _ _, hsB⟩
  rw [if_neg (no_if h)] at hE
  refine aw_skip (hK1 _ _ ?_)
  refine aw_sr rfl ?_  -- r29 @code.go:176
  simp only [go_sem, reduceIte, Nat.reduceEqDiff, Nat.reduceAdd, Nat.reduceMul, Nat.reduceSub, Nat.reduceLeDiff, Nat.reduceLT, reduceCtorEq]
  refine aw_ret ⟨trivial, _, rfl, ?_⟩
  rw [← hE]; exact ⟨.full, rfl, Rm.start _ _ _, hsB⟩
theorem m_rReads (op a b c : Int) (args : List Int) (nl : Bool) (hl : args.length ≤ 1048576) : Made Try.prog 1 225 [.agg (cIns op a b c args nl)] ((readsF op a b args).map eI) (readsF op a b args).isEmpty := by
  have hasc := ascii_shapes op
  have hsl : (shapesF op).1.length ≤ 2 := by
    refine op_cases (p := fun op => (shapesF op).1.length ≤ 2) op ?_ ?_ ?_ ?_ ?_ ?_ ?_ ?_ ?_ ?_ ?_ ?_ ?_ ?_ ?_ ?_ ?_ ?_ ?_ ?_ ?_ ?_ ?_ ?_ ?_ ?_ ?_ (fun h => ?_)
    all_goals first | (rw [shapes_out h]; decide) | decide
  rw [← reads_same]
  have hsh := q_shapes op
  generalize shapesF op = sh at hasc hsl hsh
  obtain ⟨str, wr, en⟩ := sh
  simp only at hasc hsl ⊢
  intro G
  refine acall_body (rs := [.tmp 2]) Try.func225 rfl rfl Try.ntmps225 (by kernel_rfl) (Nat.le_of_ble_eq_true rfl) ?_
  refine aw_sr rfl ?_  -- r0 @low.go:44
  simp only [go_sem, reduceIte, Nat.reduceEqDiff, Nat.reduceAdd, Nat.reduceMul, Nat.reduceSub, Nat.reduceLeDiff, Nat.reduceLT, reduceCtorEq]
  intro b1 hb1
  refine aw_box1 hb1 fun B1 hsB h1 => ?_
  refine aw_sr rfl ?_  -- r1 @low.go:45
  simp only [go_sem, reduceIte, Nat.reduceEqDiff, Nat.reduceAdd, Nat.reduceMul, Nat.reduceSub, Nat.reduceLeDiff, Nat.reduceLT, reduceCtorEq]
  refine aw_seq fun K1 hK1 => ?_
  refine aw_sr rfl ?_  -- r2 @low.go:46
  simp only [go_sem, reduceIte, Nat.reduceEqDiff, Nat.reduceAdd, Nat.reduceMul, Nat.reduceSub, Nat.reduceLeDiff, Nat.reduceLT, reduceCtorEq, h1]
  refine goA_q hsh ?_
  simp only [go_sem, reduceIte, Nat.reduceEqDiff, Nat.reduceAdd, Nat.reduceMul, Nat.reduceSub, Nat.reduceLeDiff, Nat.reduceLT, reduceCtorEq, cShape]
  intro bi hbi
  have n1 := ne_fresh h1 hbi
  have hGi := sub_none hsB hbi
  refine aw_box1 hbi fun B2 hs2 hit => ?_
  replace h1 := hs2 _ _ h1
  replace hsB := sub_trans hsB hs2
  refine aw_block ?_  -- 0
  refine aw_lph (S := {s : Nat × Tag × Heap // s.1 ≤ str.length ∧ Rm G s.2.2 1 s.2.1 ∧ Sub G s.2.2 ∧ hget s.2.2 b1 = some (.vars (cIns op a b c args nl)) ∧ hget s.2.2 bi = some (.siter str s.1)}) (fun s => [(1, .ptr b1 0), (3, .sl (((str.take s.1.1).flatMap (letF a b args)).map eI) ((str.take s.1.1).flatMap (letF a b args)).isEmpty s.1.2.1), (10, .ptr bi 0)]) (fun s => s.1.2.2) (fun s => str.length - s.1.1)
    ⟨(0, .full, B2), Nat.zero_le _, Rm.start _ _ _, hsB, h1, hit⟩ ?_ (fun _ _ h => h) ?_
  · simp only [go_sem, reduceIte, Nat.reduceEqDiff, Nat.reduceAdd, Nat.reduceMul, Nat.reduceSub, Nat.reduceLeDiff, Nat.reduceLT, reduceCtorEq]
    rfl
  intro ⟨⟨n, tg, H⟩, hn, hr, hs, h1, hit⟩
  simp only at hn hr hs h1 hit ⊢
  refine aw_sr rfl ?_  -- r3 @low.go:46
  simp only [go_sem, reduceIte, Nat.reduceEqDiff, Nat.reduceAdd, Nat.reduceMul, Nat.reduceSub, Nat.reduceLeDiff, Nat.reduceLT, reduceCtorEq, hit]
  refine goNs_by (fun hlt => ⟨hasc _ (List.getElem_mem hlt), ?_⟩) (fun hlt => ?_)
  · simp only [go_sem, reduceIte, Nat.reduceEqDiff, Nat.reduceAdd, Nat.reduceMul, Nat.reduceSub, Nat.reduceLeDiff, Nat.reduceLT, reduceCtorEq]
    obtain ⟨C, hC⟩ : ∃ C, C = hset H bi (.siter str (n + 1)) := ⟨_, rfl⟩
    have c1 : hget C b1 = some (.vars (cIns op a b c args nl)) := by rw [hC]; exact hset_keep h1 n1
    have ci : hget C bi = some (.siter str (n + 1)) := by rw [hC]; exact hget_hset_self hit
    have cs : Sub G C := by rw [hC]; exact sub_hset_fresh hGi hs
    have cr : Rm G C 1 tg := by rw [hC]; exact hr.hset hit (fun _ _ e => by cases e)
    refine AW.of_hsub (by rw [hC]; exact sub_rfl) (G := C) ?_
    clear hC
    have hfl : (str.take (n + 1)).flatMap (letF a b args) = (str.take n).flatMap (letF a b args) ++ letF a b args str[n] := by
      rw [List.take_succ_eq_append_getElem hlt, List.flatMap_append]; simp
    have hbl : ((str.take n).flatMap (letF a b args)).length ≤ 2 * 1048576 := by
      have h1 : ∀ c, (letF a b args c).length ≤ 1048576 := fun c => by
        unfold letF; split
        · simp
        · split
          · simp
          · exact hl
      match hq : str.take n with
      | [] => simp
      | [x] => simp only [List.flatMap_cons, List.flatMap_nil, List.append_nil]; have := h1 x; omega
      | [x, y] => simp only [List.flatMap_cons, List.flatMap_nil, List.append_nil, List.length_append]; have := h1 x; have := h1 y; omega
      | x :: y :: z :: l =>
        have : (str.take n).length ≤ 2 := by rw [List.length_take]; omega
        rw [hq] at this; simp at this
    refine aw_seq fun K2 hK2 => ?_
    refine aw_if rfl (fun h => ?_) (fun h => by cases h)
    refine aw_skip (hK2 _ _ ?_)
    refine aw_block ?_  -- 1
    refine aw_sr rfl ?_  -- r4 @low.go:46
    simp only [go_sem, reduceIte, Nat.reduceEqDiff, Nat.reduceAdd, Nat.reduceMul, Nat.reduceSub, Nat.reduceLeDiff, Nat.reduceLT, reduceCtorEq]
    refine aw_sr rfl ?_  -- r5 @low.go:47
    simp only [go_sem, reduceIte, Nat.reduceEqDiff, Nat.reduceAdd, Nat.reduceMul, Nat.reduceSub, Nat.reduceLeDiff, Nat.reduceLT, reduceCtorEq]
    refine aw_block ?_  -- 2
    generalize hx : str[n] = x at hfl
    have hxa : ∀ k : Nat, k < 256 → (((x.toNat : Nat) : Int) = (k : Nat) ↔ x = UInt8.ofNat k) := fun k hk => by
      constructor
      · intro e
        have : x.toNat = k := by omega
        rw [← this]; simp
      · intro e; subst e; simp; omega
    refine aw_chain rfl rfl rfl rfl rfl ?_  -- t14 is one of [97]
    refine aw_if rfl (fun h => ?_) (fun h => ?_)
    · have hxx : x = 97 := (hxa 97 (by decide)).1 (by simpa using h)
      have hlet : letF a b args x = [a] := by rw [hxx]; rfl
      rw [hlet] at hfl
      refine aw_rg rfl ?_  -- r8 @low.go:49
      simp only [go_sem, reduceIte, Nat.reduceEqDiff, Nat.reduceAdd, Nat.reduceMul, Nat.reduceSub, Nat.reduceLeDiff, Nat.reduceLT, reduceCtorEq, c1]
      refine goP_rm cr cs ?_ fun t' H' hr' hs' hg => ?_
      · exact ⟨rfl, rfl, by decide, wid_eI _, wid_one rfl, sca_one rfl, by simp only [List.length_map, List.length_append, List.length_cons, List.length_nil, List.length_take, List.length_drop]; omega, by simp only [List.length_map, List.length_append, List.length_cons, List.length_nil, List.length_take, List.length_drop]; omega⟩
      simp only [go_sem, reduceIte, Nat.reduceEqDiff, Nat.reduceAdd, Nat.reduceMul, Nat.reduceSub, Nat.reduceLeDiff, Nat.reduceLT, reduceCtorEq, Bool.and_false]
      refine ⟨⟨(n + 1, t', H'), hlt, hr', hs', hg.vars c1, hg.1 _ _ ci (fun _ _ e => by cases e)⟩, by show str.length - (n + 1) < _; omega, ?_, sub_rfl⟩
      rw [hfl]
      refine ⟨rfl, ?_, rfl⟩
      rw [List.map_append]
      simp [fget, eI]
    refine aw_chain rfl rfl rfl rfl rfl ?_  -- t14 is one of [98]
    refine aw_if rfl (fun h => ?_) (fun h => ?_)
    · have hxx : x = 98 := (hxa 98 (by decide)).1 (by simpa using h)
      have hlet : letF a b args x = [b] := by rw [hxx]; rfl
      rw [hlet] at hfl
      refine aw_rg rfl ?_  -- r10
      simp only [go_sem, reduceIte, Nat.reduceEqDiff, Nat.reduceAdd, Nat.reduceMul, Nat.reduceSub, Nat.reduceLeDiff, Nat.reduceLT, reduceCtorEq, c1]
      refine goP_rm cr cs ?_ fun t' H' hr' hs' hg => ?_
      · exact ⟨rfl, rfl, by decide, wid_eI _, wid_one rfl, sca_one rfl, by simp only [List.length_map, List.length_append, List.length_cons, List.length_nil, List.length_take, List.length_drop]; omega, by simp only [List.length_map, List.length_append, List.length_cons, List.length_nil, List.length_take, List.length_drop]; omega⟩
      simp only [go_sem, reduceIte, Nat.reduceEqDiff, Nat.reduceAdd, Nat.reduceMul, Nat.reduceSub, Nat.reduceLeDiff, Nat.reduceLT, reduceCtorEq, Bool.and_false]
      refine ⟨⟨(n + 1, t', H'), hlt, hr', hs', hg.vars c1, hg.1 _ _ ci (fun _ _ e => by cases e)⟩, by show str.length - (n + 1) < _; omega, ?_, sub_rfl⟩
      rw [hfl]
      refine ⟨rfl, ?_, rfl⟩
      rw [List.map_append]
      simp [fget, eI]
    · rename_i h97
      have hlet : letF a b args x = args := by
        unfold letF
        rw [if_neg, if_neg]
        · intro e; rw [(hxa 98 (by decide)).2 e] at h; simp at h
        · intro e; rw [(hxa 97 (by decide)).2 e] at h97; simp at h97
      rw [hlet] at hfl
      refine aw_rg rfl ?_  -- r6
      simp only [go_sem, reduceIte, Nat.reduceEqDiff, Nat.reduceAdd, Nat.reduceMul, Nat.reduceSub, Nat.reduceLeDiff, Nat.reduceLT, reduceCtorEq, c1]
      refine goP_rm cr cs ?_ fun t' H' hr' hs' hg => ?_
      · exact ⟨rfl, rfl, by decide, wid_eI _, wid_eI _, sca_eI _, by simp only [List.length_map, List.length_append, List.length_cons, List.length_nil, List.length_take, List.length_drop]; omega, by simp only [List.length_map, List.length_append, List.length_cons, List.length_nil, List.length_take, List.length_drop]; omega⟩
      simp only [go_sem, reduceIte, Nat.reduceEqDiff, Nat.reduceAdd, Nat.reduceMul, Nat.reduceSub, Nat.reduceLeDiff, Nat.reduceLT, reduceCtorEq]
      refine ⟨⟨(n + 1, t', H'), hlt, hr', hs', hg.vars c1, hg.1 _ _ ci (fun _ _ e => by cases e)⟩, by show str.length - (n + 1) < _; omega, ?_, sub_rfl⟩
      rw [hfl]
      refine ⟨rfl, ?_, rfl⟩
      rw [List.map_append]
      simp [fget, isEmpty_app]
  · have hend : n = str.length := by omega
    subst hend
    simp only [go_sem, reduceIte, Nat.reduceEqDiff, Nat.reduceAdd, Nat.reduceMul, Nat.reduceSub, Nat.reduceLeDiff, Nat.reduceLT, reduceCtorEq]
    refine aw_seq fun K2 hK2 => ?_
    refine aw_if (b := false) rfl (fun h => by cases h) (fun h => ?_)
    refine aw_exit ?_  -- 0
    refine hK1 _ _ ?_
    refine aw_sr rfl ?_  -- r11 @low.go:56
    simp only [go_sem, reduceIte, Nat.reduceEqDiff, Nat.reduceAdd, Nat.reduceMul, Nat.reduceSub, Nat.reduceLeDiff, Nat.reduceLT, reduceCtorEq, List.take_length]
    exact aw_ret ⟨trivial, _, rfl, _, rfl, hr, hs⟩
end Go.Proofs.Ytkhgcikaojhknaa

/- Codes as data; what is wrong with what an instruction leads to, the program's. No conditions but sizes. -/
set_option linter.unusedSimpArgs false
set_option linter.unusedVariables false
namespace Go.Proofs.Ytkhgcikaojhknaa
open Go.Proofs.YtkhgcikaojhknaaV
set_option maxHeartbeats 400000
set_option maxRecDepth 100000
abbrev InsD := Int × Int × Int × Int × (List Int × Bool)
def eIns (x : InsD) : List V := [.int .i64 x.1, .int .i64 x.2.1, .int .i64 x.2.2.1, .int .i64 x.2.2.2.1, .sl (x.2.2.2.2.1.map eI) x.2.2.2.2.2 .no]
theorem eIns_eq (x : InsD) : eIns x = cIns x.1 x.2.1 x.2.2.1 x.2.2.2.1 x.2.2.2.2.1 x.2.2.2.2.2 := rfl
abbrev FunD := List UInt8 × Int × Int × Int × (List InsD × Bool)
abbrev cFun (x : FunD) : List V := [.str x.1, .int .i64 x.2.1, .int .i64 x.2.2.1, .int .i64 x.2.2.2.1, .sl (x.2.2.2.2.1.map eIns) x.2.2.2.2.2 .no]
def eFun (x : FunD) : List V := cFun x
abbrev ActD := List UInt8 × Int × Int × Bool
abbrev cActD (x : ActD) : List V := [.str x.1, .int .i64 x.2.1, .int .i64 x.2.2.1, .bool x.2.2.2]
def eActD (x : ActD) : List V := cActD x
abbrev ImpD := List UInt8 × List UInt8 × Int
abbrev cImpD (x : ImpD) : List V := [.str x.1, .str x.2.1, .int .i64 x.2.2]
def eImpD (x : ImpD) : List V := cImpD x
abbrev PatL := List Pat × Bool
def ePatL (x : PatL) : List V := [.sl (x.1.map ePat) x.2 .no]
abbrev CodeD := (List (List UInt8) × Bool) × (List Int × Bool) × (List FunD × Bool) × (List ActD × Bool) × (List ImpD × Bool) × (List ImpD × Bool) × (List PatL × Bool)
abbrev cCode (x : CodeD) : List V := [.sl (x.1.1.map eNm) x.1.2 .no, .sl (x.2.1.1.map eI) x.2.1.2 .no, .sl (x.2.2.1.1.map eFun) x.2.2.1.2 .no, .sl (x.2.2.2.1.1.map eActD) x.2.2.2.1.2 .no, .sl (x.2.2.2.2.1.1.map eImpD) x.2.2.2.2.1.2 .no, .sl (x.2.2.2.2.2.1.1.map eImpD) x.2.2.2.2.2.1.2 .no, .sl (x.2.2.2.2.2.2.1.map ePatL) x.2.2.2.2.2.2.2 .no]
abbrev CodeD.texts (c : CodeD) := c.1.1
abbrev CodeD.nums (c : CodeD) := c.2.1.1
abbrev CodeD.funs (c : CodeD) := c.2.2.1.1
abbrev CodeD.acts (c : CodeD) := c.2.2.2.1.1
abbrev CodeD.imps (c : CodeD) := c.2.2.2.2.1.1
abbrev CodeD.maks (c : CodeD) := c.2.2.2.2.2.1.1
abbrev CodeD.pats (c : CodeD) := c.2.2.2.2.2.2.1
def OkFunD (f : FunD) : Prop := f.2.2.2.2.1.length ≤ 1048576 ∧ (∀ i ∈ f.2.2.2.2.1, i.2.2.2.2.1.length ≤ 1048576)
def OkCode (c : CodeD) : Prop := c.texts.length ≤ 1048576 ∧ c.nums.length ≤ 1048576 ∧ c.funs.length ≤ 1048576 ∧ c.acts.length ≤ 1048576 ∧ c.imps.length ≤ 1048576 ∧ c.maks.length ≤ 1048576 ∧ c.pats.length ≤ 1048576 ∧
  (∀ f ∈ c.funs, OkFunD f) ∧ ∀ l ∈ c.pats, l.1.length ≤ 1048576 ∧ ∀ p ∈ l.1, OkPat p ∧ p.sz ≤ 1048576
/-- Is it a place of so many? -/
def withinB (n m : Int) : Bool := decide (0 ≤ n) && decide (n < m)
theorem withinB_true {n m : Int} (h : withinB n m = true) : 0 ≤ n ∧ n < m := by simpa [withinB] using h
theorem withinB_pos {n m : Int} (h : 0 ≤ n ∧ n < m) : withinB n m = true := by simpa [withinB] using h
theorem withinB_neg {n m : Int} (h : ¬ (0 ≤ n ∧ n < m)) : withinB n m = false := by
  cases e : withinB n m with
  | false => rfl
  | true => exact absurd (withinB_true e) h
theorem q_within (n m : Int) : Quiet Try.prog 273 [.int .i64 n, .int .i64 m] (.bool (withinB n m)) := by
  refine Quiet.weak fun G => ?_
  refine acall_body (rs := [.tmp 4]) Try.func273 rfl rfl Try.ntmps273 (by kernel_rfl) (Nat.le_of_ble_eq_true rfl) ?_
  refine aw_sr rfl ?_  -- r0 @check.go:73
  simp only [go_sem, reduceIte, Nat.reduceEqDiff, Nat.reduceAdd, Nat.reduceMul, Nat.reduceSub, Nat.reduceLeDiff, Nat.reduceLT, reduceCtorEq]
  refine aw_sr rfl ?_  -- r1 @check.go:73
  simp only [go_sem, reduceIte, Nat.reduceEqDiff, Nat.reduceAdd, Nat.reduceMul, Nat.reduceSub, Nat.reduceLeDiff, Nat.reduceLT, reduceCtorEq]
  refine aw_ret ⟨trivial, _, rfl, ?_, sub_rfl⟩
  exact Vle.refl _
theorem q_in (n m : Int) : Quiet Try.prog 146 [.int .i64 n, .int .i64 m] (.bool (withinB n m)) := by
  refine Quiet.weak fun G => ?_
  refine acall_body (rs := [.tmp 4]) Try.func146 rfl rfl Try.ntmps146 (by kernel_rfl) (Nat.le_of_ble_eq_true rfl) ?_
  refine aw_sr rfl ?_  -- r0 @low.go:137
  simp only [go_sem, reduceIte, Nat.reduceEqDiff, Nat.reduceAdd, Nat.reduceMul, Nat.reduceSub, Nat.reduceLeDiff, Nat.reduceLT, reduceCtorEq]
  refine aw_sr rfl ?_  -- r1 @low.go:137
  simp only [go_sem, reduceIte, Nat.reduceEqDiff, Nat.reduceAdd, Nat.reduceMul, Nat.reduceSub, Nat.reduceLeDiff, Nat.reduceLT, reduceCtorEq]
  exact aw_ret ⟨trivial, _, rfl, Vle.refl _, sub_rfl⟩
/-- The arms of a match, or a receive; nothing: it can't be one. -/
def lateF (op k : Int) (args : List Int) : Option (List Int) :=
  if op = 16 then (match args with | [] => none | x :: l => if k < -1 ∨ ¬ (0 ≤ x ↔ 0 ≤ k) ∨ x < -1 then none else some l) else some args
def fitB (as_ : List Ar) (ps : List Pat) : Bool := decide (as_.length = ps.length) && (as_.zip ps).all (fun p => decide (p.1.2.length = bindsF p.2))
def armsB (ps : List Pat) (op k : Int) (args : List Int) : Bool :=
  match lateF op k args with
  | none => false
  | some l => match gatF l with
    | none => false
    | some as_ => fitB as_ ps
theorem q_arms (c : CodeD) (hc : OkCode c) (op a b k : Int) (args : List Int) (nl : Bool) (hl : args.length ≤ 1048576) (hb : 0 ≤ b ∧ b < c.pats.length) :
    Quiet Try.prog 275 [.agg (cCode c), .agg (cIns op a b k args nl)] (.bool (armsB (c.pats[b.toNat]'(by omega)).1 op k args)) := by
  have hbn : b.toNat < c.pats.length := by omega
  have hps := hc.2.2.2.2.2.2.2.2 _ (List.getElem_mem hbn)
  generalize hpl : c.pats[b.toNat] = pl at hps ⊢
  have hgp : (c.pats.map ePatL).getD b.toNat [] = ePatL pl := by rw [getD_map hbn, hpl]
  have hpl2 : c.pats.length ≤ 1048576 := hc.2.2.2.2.2.2.1
  have hwp : wid 1 (c.pats.map ePatL) := wid_map (g := ePatL) (fun _ => rfl) _
  refine Quiet.weak fun G => ?_
  refine acall_body (rs := [.tmp 4]) Try.func275 rfl rfl Try.ntmps275 (by kernel_rfl) (Nat.le_of_ble_eq_true rfl) ?_
  refine aw_sr rfl ?_  -- r0 @check.go:105
  simp only [go_sem, reduceIte, Nat.reduceEqDiff, Nat.reduceAdd, Nat.reduceMul, Nat.reduceSub, Nat.reduceLeDiff, Nat.reduceLT, reduceCtorEq]
  intro b2 hb2
  intro b3 hb3
  refine aw_box2 hb2 hb3 fun B1 hs1 h2 h3 _ _ => ?_
  have hsB := hs1
  refine aw_sr rfl ?_  -- r1 @check.go:106
  simp only [go_sem, reduceIte, Nat.reduceEqDiff, Nat.reduceAdd, Nat.reduceMul, Nat.reduceSub, Nat.reduceLeDiff, Nat.reduceLT, reduceCtorEq, h3]
  refine aw_mid (fun f' G' => ∃ l nl' tg, l.length ≤ 1048576 ∧ lateF op k args = some l ∧ FSub [(5, .sl (l.map eI) nl' tg), (2, .ptr b2 0), (3, .ptr b3 0)] f' ∧ G' = B1) ?_ ?_
  · -- 2 ways
    refine aw_sr rfl ?_  -- r2 @check.go:107
    simp only [go_sem, reduceIte, Nat.reduceEqDiff, Nat.reduceAdd, Nat.reduceMul, Nat.reduceSub, Nat.reduceLeDiff, Nat.reduceLT, reduceCtorEq, h3]
    refine aw_if rfl (fun h => ?_) (fun h => ?_)
    · have h16 : op = 16 := by simpa using h
      refine aw_seq fun K15 hK15 => ?_
      refine aw_srd [(0,true),(1,true),(2,true),(3,true),(4,true),(5,true),(6,true),(7,true),(8,true),(9,true),(10,true),(11,true),(12,true),(13,true),(14,true),(15,true),(16,true),(17,true),(18,true),(19,true),(20,true),(21,true),(22,true),(23,true)] mixed rfl (by kernel_rfl) ?_
      cases args with
      | nil =>
        simp only [go_sem, reduceIte, Nat.reduceEqDiff, Nat.reduceAdd, Nat.reduceMul, Nat.reduceSub, Nat.reduceLeDiff, Nat.reduceLT, reduceCtorEq, h3]
        repeat refine ⟨by simp, ?_⟩
        refine aw_if rfl (fun h => ?_) (fun h => by simp at h)
        refine aw_sr rfl ?_
        simp only [go_sem, reduceIte, Nat.reduceEqDiff, Nat.reduceAdd, Nat.reduceMul, Nat.reduceSub, Nat.reduceLeDiff, Nat.reduceLT, reduceCtorEq]
        refine aw_ret ⟨trivial, _, rfl, ?_, hsB⟩
        rw [show armsB pl.1 op k [] = false by unfold armsB lateF; rw [if_pos h16]]
        exact Vle.refl _
      | cons x l =>
        have hgx : ((x :: l).map eI).getD (Int.toNat 0) [] = [.int .i64 x] := rfl
        simp only [List.length_cons] at hl
        simp only [go_sem, reduceIte, Nat.reduceEqDiff, Nat.reduceAdd, Nat.reduceMul, Nat.reduceSub, Nat.reduceLeDiff, Nat.reduceLT, reduceCtorEq, h3, hgx, List.length_cons]
        refine ⟨fun _ => ⟨by omega, by omega, wid_eI _⟩, fun _ => ⟨by omega, by omega, wid_eI _⟩, ?_⟩
        refine aw_if rfl (fun h => ?_) (fun h => ?_)
        · refine aw_sr rfl ?_
          simp only [go_sem, reduceIte, Nat.reduceEqDiff, Nat.reduceAdd, Nat.reduceMul, Nat.reduceSub, Nat.reduceLeDiff, Nat.reduceLT, reduceCtorEq]
          refine aw_ret ⟨trivial, _, rfl, ?_, hsB⟩
          have hlt : lateF op k (x :: l) = none := by
            unfold lateF
            rw [if_pos h16]
            simp only
            rw [if_pos]
            simp only [Bool.or_eq_true, decide_eq_true_eq] at h
            rcases h with ((h | h) | h) | h
            · omega
            · exact .inl h
            · refine .inr (.inl fun e => ?_)
              have : decide (0 ≤ x) = decide (0 ≤ k) := by rw [Bool.eq_iff_iff]; simpa using e
              rw [this] at h
              cases hd : decide (0 ≤ k) <;> rw [hd] at h <;> cases h
            · exact .inr (.inr h)
          rw [show armsB pl.1 op k (x :: l) = false by unfold armsB; rw [hlt]]
          exact Vle.refl _
        refine aw_skip (hK15 _ _ ?_)
        refine aw_rg rfl ?_
        simp only [go_sem, reduceIte, Nat.reduceEqDiff, Nat.reduceAdd, Nat.reduceMul, Nat.reduceSub, Nat.reduceLeDiff, Nat.reduceLT, reduceCtorEq, List.map_cons, toNat1, take_map_len]
        refine ⟨⟨⟨by omega, by omega⟩, wid_eI (x :: l)⟩, ⟨l, _, _, by omega, ?_, ⟨rfl, rfl, rfl⟩, rfl⟩⟩
        simp only [Bool.or_eq_false_iff, decide_eq_false_iff_not] at h
        obtain ⟨⟨⟨g1, g2⟩, g3⟩, g4⟩ := h
        unfold lateF
        rw [if_pos h16]
        simp only
        rw [if_neg]
        rintro (e | e | e)
        · exact g2 e
        · refine e ?_
          cases h1 : decide (0 ≤ x) <;> cases h2 : decide (0 ≤ k) <;> rw [h1, h2] at g3 <;> simp at g3 h1 h2 ⊢ <;> omega
        · exact g4 e
    · have h16 : ¬ op = 16 := by simpa using h
      refine aw_skip ⟨args, nl, .no, hl, by unfold lateF; rw [if_neg h16], ⟨rfl, rfl, rfl⟩, rfl⟩
  intro f' G' ⟨l, nl', tg, hll, hlate, hf, hg⟩
  rw [hg]
  refine AW.of_fsub hf ?_
  have hA : armsB pl.1 op k args = match gatF l with | none => false | some as_ => fitB as_ pl.1 := by unfold armsB; rw [hlate]
  refine aw_sr rfl ?_  -- r6 @check.go:113
  simp only [go_sem, reduceIte, Nat.reduceEqDiff, Nat.reduceAdd, Nat.reduceMul, Nat.reduceSub, Nat.reduceLeDiff, Nat.reduceLT, reduceCtorEq]
  refine goA_q (q_Gather l nl' tg hll) ?_
  cases hgf : gatF l with
  | none =>
    rw [hgf] at hA
    simp only at hA
    simp only [go_sem, reduceIte, Nat.reduceEqDiff, Nat.reduceAdd, Nat.reduceMul, Nat.reduceSub, Nat.reduceLeDiff, Nat.reduceLT, reduceCtorEq, gatV]
    refine aw_seq fun K16 hK16 => ?_
    refine aw_srq [(0,true),(1,true),(2,true),(3,true),(4,true),(5,true),(6,true),(7,true),(8,true),(9,true),(10,true),(11,true),(12,true),(13,true)] rfl rfl ?_
    simp only [go_sem, reduceIte, Nat.reduceEqDiff, Nat.reduceAdd, Nat.reduceMul, Nat.reduceSub, Nat.reduceLeDiff, Nat.reduceLT, reduceCtorEq, h2, h3, hgp, ePatL]
    refine ⟨fun _ => ⟨by omega, hb.2, hwp⟩, ?_⟩
    refine aw_if rfl (fun h => ?_) (fun h => by simp at h)
    refine aw_sr rfl ?_
    simp only [go_sem, reduceIte, Nat.reduceEqDiff, Nat.reduceAdd, Nat.reduceMul, Nat.reduceSub, Nat.reduceLeDiff, Nat.reduceLT, reduceCtorEq]
    refine aw_ret ⟨trivial, _, rfl, ?_, hsB⟩
    rw [hA]
    exact Vle.refl _
  | some as_ =>
    have hal := gatF_len l
    rw [hgf] at hA hal
    simp only at hA
    have hal : as_.length ≤ 1048576 := Nat.le_trans hal hll
    simp only [go_sem, reduceIte, Nat.reduceEqDiff, Nat.reduceAdd, Nat.reduceMul, Nat.reduceSub, Nat.reduceLeDiff, Nat.reduceLT, reduceCtorEq, gatV]
    refine aw_seq fun K16 hK16 => ?_
    refine aw_sr rfl ?_
    simp only [go_sem, reduceIte, Nat.reduceEqDiff, Nat.reduceAdd, Nat.reduceMul, Nat.reduceSub, Nat.reduceLeDiff, Nat.reduceLT, reduceCtorEq, h2, h3, hgp, ePatL]
    refine ⟨fun _ => ⟨by omega, hb.2, hwp⟩, ?_⟩
    refine aw_if rfl (fun h => ?_) (fun h => ?_)
    · refine aw_sr rfl ?_
      simp only [go_sem, reduceIte, Nat.reduceEqDiff, Nat.reduceAdd, Nat.reduceMul, Nat.reduceSub, Nat.reduceLeDiff, Nat.reduceLT, reduceCtorEq]
      refine aw_ret ⟨trivial, _, rfl, ?_, hsB⟩
      have h : ¬ as_.length = pl.1.length := by
        have : ¬ (as_.length : Int) = (pl.1.length : Int) := by simpa using h
        omega
      rw [hA, fitB, decide_eq_false h]
      exact Vle.refl _
    have hlen : as_.length = pl.1.length := by
      have : ¬ ((as_.length : Int) ≠ (pl.1.length : Int)) := by simpa using h
      omega
    refine aw_skip (hK16 _ _ ?_)
    refine aw_seq fun K17 hK17 => ?_
    refine aw_sr rfl ?_  -- r9 @check.go:117
    simp only [go_sem, reduceIte, Nat.reduceEqDiff, Nat.reduceAdd, Nat.reduceMul, Nat.reduceSub, Nat.reduceLeDiff, Nat.reduceLT, reduceCtorEq]
    refine aw_range as_.length (S := Unit) (fun i _ => [(2, .ptr b2 0), (3, .ptr b3 0), (60, .sl (as_.map eAr) as_.isEmpty .no)]) (fun _ _ => B1) (fun i _ => ((as_.take i).zip (pl.1.take i)).all (fun p => decide (p.1.2.length = bindsF p.2)) = true) () (by omega) ?_ (fun _ _ h => h) rfl rfl (fun _ _ => rfl) ?_ ?_ (by decide)
    · simp only [go_sem, reduceIte, Nat.reduceEqDiff, Nat.reduceAdd, Nat.reduceMul, Nat.reduceSub, Nat.reduceLeDiff, Nat.reduceLT, reduceCtorEq, Int.natCast_zero]
    · intro i _ hi he
      have hi2 : i < pl.1.length := hlen ▸ hi
      have hpi := hps.2 _ (List.getElem_mem hi2)
      refine aw_sr rfl ?_  -- r11 @check.go:117
      simp only [go_sem, reduceIte, Nat.reduceEqDiff, Nat.reduceAdd, Nat.reduceMul, Nat.reduceSub, Nat.reduceLeDiff, Nat.reduceLT, reduceCtorEq, getD_map hi, eAr]
      refine ⟨⟨by omega, by omega, wid_eAr _⟩, ?_⟩
      intro b9 hb9
      refine aw_box1 hb9 fun B2 hs2 h9 => ?_
      replace h2 := hs2 _ _ h2
      replace h3 := hs2 _ _ h3
      refine aw_srd [(0,true),(1,true),(2,true),(3,true),(4,true),(5,true),(6,true),(7,true),(8,true),(9,true),(10,true),(11,true),(12,true),(13,true)] mixed rfl (by kernel_rfl) ?_  -- r12 @check.go:118
      simp only [go_sem, reduceIte, Nat.reduceEqDiff, Nat.reduceAdd, Nat.reduceMul, Nat.reduceSub, Nat.reduceLeDiff, Nat.reduceLT, reduceCtorEq, h2, h3, h9, hgp, ePatL, getD_map hi2, ePat_eq, Int.toNat_natCast]
      refine ⟨⟨by omega, hb.2, hwp⟩, ⟨by omega, by omega, wid_ePat _⟩, ?_⟩
      refine goQ_by (q_Binds _ pl.1[i] hpi.2 (Nat.le_refl _) hpi.1) ?_
      simp only [go_sem, reduceIte, Nat.reduceEqDiff, Nat.reduceAdd, Nat.reduceMul, Nat.reduceSub, Nat.reduceLeDiff, Nat.reduceLT, reduceCtorEq]
      refine aw_if rfl (fun h => ?_) (fun h => ?_)
      · refine aw_sr rfl ?_  -- r13 @check.go:119
        simp only [go_sem, reduceIte, Nat.reduceEqDiff, Nat.reduceAdd, Nat.reduceMul, Nat.reduceSub, Nat.reduceLeDiff, Nat.reduceLT, reduceCtorEq]
        refine aw_ret ⟨trivial, _, rfl, ?_, sub_trans hsB hs2⟩
        have h : ¬ as_[i].2.length = bindsF pl.1[i] := by
          have : ¬ (as_[i].2.length : Int) = (bindsF pl.1[i] : Int) := by simpa using h
          omega
        rw [hA, fitB, all_zip_not (q := fun p : Ar × Pat => decide (p.1.2.length = bindsF p.2)) hi hi2 (decide_eq_false h), Bool.and_false]
        exact Vle.refl _
      have h : as_[i].2.length = bindsF pl.1[i] := by
        have : ¬ ((as_[i].2.length : Int) ≠ (bindsF pl.1[i] : Int)) := by simpa using h
        omega
      refine aw_skip ⟨(), all_zip_next (q := fun p : Ar × Pat => decide (p.1.2.length = bindsF p.2)) he hi hi2 (decide_eq_true h), ?_, hs2⟩
      simp only [go_sem, reduceIte, Nat.reduceEqDiff, Nat.reduceAdd, Nat.reduceMul, Nat.reduceSub, Nat.reduceLeDiff, Nat.reduceLT, reduceCtorEq]
    intro _ he
    refine hK17 _ _ ?_
    refine aw_sr rfl ?_  -- r15 @check.go:122
    simp only [go_sem, reduceIte, Nat.reduceEqDiff, Nat.reduceAdd, Nat.reduceMul, Nat.reduceSub, Nat.reduceLeDiff, Nat.reduceLT, reduceCtorEq]
    refine aw_ret ⟨trivial, _, rfl, ?_, hsB⟩
    rw [List.take_length, hlen, List.take_length] at he
    rw [hA, fitB, decide_eq_true hlen, he]
    exact Vle.refl _
end Go.Proofs.Ytkhgcikaojhknaa

/- What is wrong with what an instruction leads to, the program's. No conditions but sizes. -/
set_option linter.unusedSimpArgs false
set_option linter.unusedVariables false
namespace Go.Proofs.Ytkhgcikaojhknaa
open Go.Proofs.YtkhgcikaojhknaaV
set_option maxHeartbeats 400000
set_option maxRecDepth 100000
/-- What stands at a place, if it is one. -/
def atI {A : Type} (xs : List A) (i : Int) : Option A := if 0 ≤ i then xs[i.toNat]? else none
theorem atI_cases {A : Type} (xs : List A) (i : Int) : (∃ h : i.toNat < xs.length, withinB i xs.length = true ∧ 0 ≤ i ∧ i < xs.length ∧ atI xs i = some xs[i.toNat]) ∨ (withinB i xs.length = false ∧ atI xs i = none) := by
  by_cases h : 0 ≤ i ∧ i < xs.length
  · have hn : i.toNat < xs.length := by omega
    exact .inl ⟨hn, withinB_pos h, h.1, h.2, by rw [atI, if_pos h.1, List.getElem?_eq_getElem hn]⟩
  · refine .inr ⟨withinB_neg h, ?_⟩
    unfold atI
    split
    · exact List.getElem?_eq_none (by omega)
    · rfl
theorem getD_or {A : Type} (e : A → List V) (xs : List A) (n : Nat) : (xs.map e).getD n [] = [] ∨ ∃ d, (xs.map e).getD n [] = e d := by
  by_cases h : n < xs.length
  · exact .inr ⟨_, getD_map h⟩
  · exact .inl (by rw [List.getD_eq_getElem?_getD, List.getElem?_eq_none (by simpa using h)]; rfl)
/-- What an instruction leads to is there. -/
def insB (c : CodeD) (op b k : Int) (args : List Int) : Bool :=
  if op = 1 then decide (b = 1) || (decide (b = 3) && withinB k 2) || (decide (b = 2) && withinB k c.nums.length) || (decide (b = 4) && withinB k c.texts.length)
  else if op = 5 then (withinB b 8 && decide (args.length = 2)) || (decide (b = 8) && decide (args.length = 1))
  else if op = 6 then (match atI c.funs b with | none => false | some f => decide (f.2.2.1 = 0) && decide ((args.length : Int) = f.2.1))
  else if op = 8 then (match atI c.funs b with | none => false | some f => decide ((args.length : Int) = f.2.2.1))
  else if op = 7 then withinB b c.texts.length && decide (0 < args.length)
  else if op = 10 ∨ op = 17 then withinB b c.texts.length
  else if op = 27 then withinB b c.texts.length
  else if op = 12 then (match atI c.acts b with | none => false | some a => decide ((args.length : Int) = a.2.1))
  else if op = 11 ∨ op = 16 then (match atI c.pats b with | none => false | some ps => armsB ps.1 op k args)
  else true
theorem q_ins (c : CodeD) (hc : OkCode c) (f : List V) (hfl : f.length = 5) (op a b k : Int) (args : List Int) (nl : Bool) (hl : args.length ≤ 1048576) :
    Quiet Try.prog 223 [.agg (cCode c), .agg f, .agg (cIns op a b k args nl)] (.int .i64 (if insB c op b k args = true then 0 else 3)) := by
  have hlf : c.funs.length ≤ 1048576 := hc.2.2.1
  have hla : c.acts.length ≤ 1048576 := hc.2.2.2.1
  have hwf : wid 5 (c.funs.map eFun) := wid_map (g := eFun) (fun _ => rfl) _
  have hwa : wid 4 (c.acts.map eActD) := wid_map (g := eActD) (fun _ => rfl) _
  have hO : ((opNames.length : Nat) : Int) = 9 := rfl
  have hW : IntKind.i64.wrap (9 - 1) = 8 := by decide
  refine Quiet.weak fun G => ?_
  refine acall_body (rs := [.tmp 6]) Try.func223 rfl rfl Try.ntmps223 (by kernel_rfl) (Nat.le_of_ble_eq_true rfl) ?_
  refine aw_sr rfl ?_  -- r0 @check.go:76
  simp only [go_sem, reduceIte, Nat.reduceEqDiff, Nat.reduceAdd, Nat.reduceMul, Nat.reduceSub, Nat.reduceLeDiff, Nat.reduceLT, reduceCtorEq]
  intro b3 hb3
  intro b4 hb4
  intro b5 hb5
  refine aw_box3 hb3 hb4 hb5 fun B1 hs1 h3 h4 h5 _ _ _ _ _ _ => ?_
  have hsB := hs1
  refine aw_sr rfl ?_  -- r1 @check.go:77
  simp only [go_sem, reduceIte, Nat.reduceEqDiff, Nat.reduceAdd, Nat.reduceMul, Nat.reduceSub, Nat.reduceLeDiff, Nat.reduceLT, reduceCtorEq]
  refine aw_mid (fun f' G' => FSub [(7, .bool (insB c op b k args))] f' ∧ Sub G G') ?_ ?_
  · -- 10 ways
    refine aw_sr rfl ?_  -- r2 @check.go:78
    simp only [go_sem, reduceIte, Nat.reduceEqDiff, Nat.reduceAdd, Nat.reduceMul, Nat.reduceSub, Nat.reduceLeDiff, Nat.reduceLT, reduceCtorEq, h5]
    refine aw_block ?_  -- 0
    refine aw_chain rfl rfl rfl rfl rfl ?_  -- t9 is one of [1]
    refine aw_if rfl (fun h => ?_) (fun h => ?_)
    · have h : op = 1 := by simpa using h
      refine aw_rg rfl ?_  -- r4 @check.go:80
      simp only [go_sem, reduceIte, Nat.reduceEqDiff, Nat.reduceAdd, Nat.reduceMul, Nat.reduceSub, Nat.reduceLeDiff, Nat.reduceLT, reduceCtorEq, h3, h5]
      refine goH_q (fun hg => q_within _ _) ?_
      simp only [go_sem, reduceIte, Nat.reduceEqDiff, Nat.reduceAdd, Nat.reduceMul, Nat.reduceSub, Nat.reduceLeDiff, Nat.reduceLT, reduceCtorEq, h3, h5]
      refine goH_q (fun hg => q_within _ _) ?_
      simp only [go_sem, reduceIte, Nat.reduceEqDiff, Nat.reduceAdd, Nat.reduceMul, Nat.reduceSub, Nat.reduceLeDiff, Nat.reduceLT, reduceCtorEq, h3, h5]
      refine goH_q (fun hg => q_within _ _) ?_
      simp only [go_sem, reduceIte, Nat.reduceEqDiff, Nat.reduceAdd, Nat.reduceMul, Nat.reduceSub, Nat.reduceLeDiff, Nat.reduceLT, reduceCtorEq, h3, h5]
      refine ⟨?_, hsB⟩
      show some (V.bool _) = some (V.bool _)
      unfold insB
      rw [if_pos h]
    · have h1 : ¬ op = 1 := by simpa using h
      refine aw_chain rfl rfl rfl rfl rfl ?_  -- [5]
      refine aw_if rfl (fun h => ?_) (fun h => ?_)
      · have h : op = 5 := by simpa using h
        refine aw_rgd [(0,true),(1,true),(2,true),(3,true),(4,true),(5,true),(6,true),(7,true),(8,true),(9,true),(10,true),(11,true),(12,true),(13,true),(14,true),(15,true),(16,true),(17,true),(18,true),(19,true),(20,true),(21,true),(22,true),(23,true),(24,true),(25,true),(26,true),(27,true),(28,true),(29,true),(30,true),(31,true),(32,true),(33,true)] mixed rfl (by kernel_rfl) ?_
        simp only [go_sem, reduceIte, Nat.reduceEqDiff, Nat.reduceAdd, Nat.reduceMul, Nat.reduceSub, Nat.reduceLeDiff, Nat.reduceLT, reduceCtorEq, h5]
        refine goQ_by q_Names ?_
        simp only [go_sem, reduceIte, Nat.reduceEqDiff, Nat.reduceAdd, Nat.reduceMul, Nat.reduceSub, Nat.reduceLeDiff, Nat.reduceLT, reduceCtorEq, h5, hO, hW]
        refine goQ_by (q_within _ _) ?_
        simp only [go_sem, reduceIte, Nat.reduceEqDiff, Nat.reduceAdd, Nat.reduceMul, Nat.reduceSub, Nat.reduceLeDiff, Nat.reduceLT, reduceCtorEq, h5, hO, hW]
        refine goQg_by (fun hg => q_Names) ?_
        simp only [go_sem, reduceIte, Nat.reduceEqDiff, Nat.reduceAdd, Nat.reduceMul, Nat.reduceSub, Nat.reduceLeDiff, Nat.reduceLT, reduceCtorEq, h5, hO, hW]
        refine goQg_by (fun hg => q_Names) ?_
        simp only [go_sem, reduceIte, Nat.reduceEqDiff, Nat.reduceAdd, Nat.reduceMul, Nat.reduceSub, Nat.reduceLeDiff, Nat.reduceLT, reduceCtorEq, h5, hO, hW]
        refine ⟨?_, hsB⟩
        show some (V.bool _) = some (V.bool _)
        unfold insB
        rw [if_neg h1, if_pos h]
        congr 2
        rw [Bool.eq_iff_iff]
        simp only [withinB, Bool.and_eq_true, Bool.or_eq_true, decide_eq_true_eq]
        omega
      · have h5' : ¬ op = 5 := by simpa using h
        refine aw_chain rfl rfl rfl rfl rfl ?_  -- [6]
        refine aw_if rfl (fun h => ?_) (fun h => ?_)
        · have h : op = 6 := by simpa using h
          have hI : insB c op b k args = (match atI c.funs b with | none => false | some f => decide (f.2.2.1 = 0) && decide ((args.length : Int) = f.2.1)) := by unfold insB; rw [if_neg h1, if_neg h5', if_pos h]
          refine aw_rgd [(0,true),(1,true),(2,true),(3,true),(4,true),(5,true),(6,true),(7,true),(8,true),(9,true),(10,true),(11,true),(12,true),(13,true),(14,true),(15,true),(16,true),(17,true),(18,true),(19,true),(20,true),(21,true),(22,true),(23,true),(24,true),(25,true),(26,true),(27,true),(28,true),(29,true)] mixed rfl (by kernel_rfl) ?_
          rcases atI_cases c.funs b with ⟨hn, hw, hb0, hb1, ha⟩ | ⟨hw, ha⟩
          · rw [ha] at hI
            simp only [go_sem, reduceIte, Nat.reduceEqDiff, Nat.reduceAdd, Nat.reduceMul, Nat.reduceSub, Nat.reduceLeDiff, Nat.reduceLT, reduceCtorEq, h3, h5]
            refine goQ_by (q_within _ _) ?_
            simp only [go_sem, reduceIte, Nat.reduceEqDiff, Nat.reduceAdd, Nat.reduceMul, Nat.reduceSub, Nat.reduceLeDiff, Nat.reduceLT, reduceCtorEq, h3, h5, hw, getD_map hn, eFun]
            refine ⟨fun _ => ⟨hb0, hb1, hwf⟩, fun _ => ⟨hb0, hb1, hwf⟩, ?_⟩
            refine ⟨?_, hsB⟩
            show some (V.bool _) = some (V.bool _)
            rw [hI]
          · rw [ha] at hI
            simp only [go_sem, reduceIte, Nat.reduceEqDiff, Nat.reduceAdd, Nat.reduceMul, Nat.reduceSub, Nat.reduceLeDiff, Nat.reduceLT, reduceCtorEq, h3, h5]
            refine goQ_by (q_within _ _) ?_
            rcases getD_or eFun c.funs b.toNat with hg | ⟨d, hg⟩
            all_goals
              simp only [go_sem, reduceIte, Nat.reduceEqDiff, Nat.reduceAdd, Nat.reduceMul, Nat.reduceSub, Nat.reduceLeDiff, Nat.reduceLT, reduceCtorEq, h3, h5, hw, hg, eFun]
              repeat first | refine ⟨fun e => e.elim, ?_⟩ | refine ⟨rfl, ?_⟩
              refine ⟨?_, hsB⟩
              show some (V.bool _) = some (V.bool _)
              rw [hI]
        · have h6 : ¬ op = 6 := by simpa using h
          refine aw_chain rfl rfl rfl rfl rfl ?_  -- [8]
          refine aw_if rfl (fun h => ?_) (fun h => ?_)
          · have h : op = 8 := by simpa using h
            have hI : insB c op b k args = (match atI c.funs b with | none => false | some f => decide ((args.length : Int) = f.2.2.1)) := by unfold insB; rw [if_neg h1, if_neg h5', if_neg h6, if_pos h]
            refine aw_rgd [(0,true),(1,true),(2,true),(3,true),(4,true),(5,true),(6,true),(7,true),(8,true),(9,true),(10,true),(11,true),(12,true),(13,true),(14,true),(15,true),(16,true),(17,true),(18,true),(19,true)] mixed rfl (by kernel_rfl) ?_
            rcases atI_cases c.funs b with ⟨hn, hw, hb0, hb1, ha⟩ | ⟨hw, ha⟩
            · rw [ha] at hI
              simp only [go_sem, reduceIte, Nat.reduceEqDiff, Nat.reduceAdd, Nat.reduceMul, Nat.reduceSub, Nat.reduceLeDiff, Nat.reduceLT, reduceCtorEq, h3, h5]
              refine goQ_by (q_within _ _) ?_
              simp only [go_sem, reduceIte, Nat.reduceEqDiff, Nat.reduceAdd, Nat.reduceMul, Nat.reduceSub, Nat.reduceLeDiff, Nat.reduceLT, reduceCtorEq, h3, h5, hw, getD_map hn, eFun]
              refine ⟨fun _ => ⟨hb0, hb1, hwf⟩, ?_⟩
              refine ⟨?_, hsB⟩
              show some (V.bool _) = some (V.bool _)
              rw [hI]
            · rw [ha] at hI
              simp only [go_sem, reduceIte, Nat.reduceEqDiff, Nat.reduceAdd, Nat.reduceMul, Nat.reduceSub, Nat.reduceLeDiff, Nat.reduceLT, reduceCtorEq, h3, h5]
              refine goQ_by (q_within _ _) ?_
              rcases getD_or eFun c.funs b.toNat with hg | ⟨d, hg⟩
              all_goals
                simp only [go_sem, reduceIte, Nat.reduceEqDiff, Nat.reduceAdd, Nat.reduceMul, Nat.reduceSub, Nat.reduceLeDiff, Nat.reduceLT, reduceCtorEq, h3, h5, hw, hg, eFun]
                repeat first | refine ⟨fun e => e.elim, ?_⟩ | refine ⟨rfl, ?_⟩
                refine ⟨?_, hsB⟩
                show some (V.bool _) = some (V.bool _)
                rw [hI]
          · have h8 : ¬ op = 8 := by simpa using h
            refine aw_chain rfl rfl rfl rfl rfl ?_  -- [7]
            refine aw_if rfl (fun h => ?_) (fun h => ?_)
            · have h : op = 7 := by simpa using h
              refine aw_rg rfl ?_
              simp only [go_sem, reduceIte, Nat.reduceEqDiff, Nat.reduceAdd, Nat.reduceMul, Nat.reduceSub, Nat.reduceLeDiff, Nat.reduceLT, reduceCtorEq, h3, h5]
              refine goA_q (q_within _ _) ?_
              simp only [go_sem, reduceIte, Nat.reduceEqDiff, Nat.reduceAdd, Nat.reduceMul, Nat.reduceSub, Nat.reduceLeDiff, Nat.reduceLT, reduceCtorEq, h3, h5]
              refine ⟨?_, hsB⟩
              show some (V.bool _) = some (V.bool _)
              unfold insB
              rw [if_neg h1, if_neg h5', if_neg h6, if_neg h8, if_pos h]
              congr 3
              simp
            · have h7 : ¬ op = 7 := by simpa using h
              refine aw_chain rfl rfl rfl rfl rfl ?_  -- [10, 17]
              refine aw_if rfl (fun h => ?_) (fun h => ?_)
              · have h : op = 10 ∨ op = 17 := by simpa using h
                refine aw_rg rfl ?_
                simp only [go_sem, reduceIte, Nat.reduceEqDiff, Nat.reduceAdd, Nat.reduceMul, Nat.reduceSub, Nat.reduceLeDiff, Nat.reduceLT, reduceCtorEq, h3, h5]
                refine goA_q (q_within _ _) ?_
                simp only [go_sem, reduceIte, Nat.reduceEqDiff, Nat.reduceAdd, Nat.reduceMul, Nat.reduceSub, Nat.reduceLeDiff, Nat.reduceLT, reduceCtorEq, h3, h5]
                refine ⟨?_, hsB⟩
                show some (V.bool _) = some (V.bool _)
                unfold insB
                rw [if_neg h1, if_neg h5', if_neg h6, if_neg h8, if_neg h7, if_pos h]
              · have h10 : ¬ (op = 10 ∨ op = 17) := by simpa using h
                refine aw_chain rfl rfl rfl rfl rfl ?_  -- [27]
                refine aw_if rfl (fun h => ?_) (fun h => ?_)
                · have h : op = 27 := by simpa using h
                  refine aw_rg rfl ?_
                  simp only [go_sem, reduceIte, Nat.reduceEqDiff, Nat.reduceAdd, Nat.reduceMul, Nat.reduceSub, Nat.reduceLeDiff, Nat.reduceLT, reduceCtorEq, h3, h5]
                  refine goA_q (q_within _ _) ?_
                  simp only [go_sem, reduceIte, Nat.reduceEqDiff, Nat.reduceAdd, Nat.reduceMul, Nat.reduceSub, Nat.reduceLeDiff, Nat.reduceLT, reduceCtorEq, h3, h5]
                  refine ⟨?_, hsB⟩
                  show some (V.bool _) = some (V.bool _)
                  unfold insB
                  rw [if_neg h1, if_neg h5', if_neg h6, if_neg h8, if_neg h7, if_neg h10, if_pos h]
                · have h27 : ¬ op = 27 := by simpa using h
                  refine aw_chain rfl rfl rfl rfl rfl ?_  -- [12]
                  refine aw_if rfl (fun h => ?_) (fun h => ?_)
                  · have h : op = 12 := by simpa using h
                    have hI : insB c op b k args = (match atI c.acts b with | none => false | some a => decide ((args.length : Int) = a.2.1)) := by unfold insB; rw [if_neg h1, if_neg h5', if_neg h6, if_neg h8, if_neg h7, if_neg h10, if_neg h27, if_pos h]
                    refine aw_rgd [(0,true),(1,true),(2,true),(3,true),(4,true),(5,true),(6,true),(7,true),(8,true),(9,true),(10,true),(11,true),(12,true),(13,true),(14,true),(15,true),(16,true),(17,true),(18,true),(19,true)] mixed rfl (by kernel_rfl) ?_
                    rcases atI_cases c.acts b with ⟨hn, hw, hb0, hb1, ha⟩ | ⟨hw, ha⟩
                    · rw [ha] at hI
                      simp only [go_sem, reduceIte, Nat.reduceEqDiff, Nat.reduceAdd, Nat.reduceMul, Nat.reduceSub, Nat.reduceLeDiff, Nat.reduceLT, reduceCtorEq, h3, h5]
                      refine goQ_by (q_within _ _) ?_
                      simp only [go_sem, reduceIte, Nat.reduceEqDiff, Nat.reduceAdd, Nat.reduceMul, Nat.reduceSub, Nat.reduceLeDiff, Nat.reduceLT, reduceCtorEq, h3, h5, hw, getD_map hn, eActD]
                      refine ⟨fun _ => ⟨hb0, hb1, hwa⟩, ?_⟩
                      refine ⟨?_, hsB⟩
                      show some (V.bool _) = some (V.bool _)
                      rw [hI]
                    · rw [ha] at hI
                      simp only [go_sem, reduceIte, Nat.reduceEqDiff, Nat.reduceAdd, Nat.reduceMul, Nat.reduceSub, Nat.reduceLeDiff, Nat.reduceLT, reduceCtorEq, h3, h5]
                      refine goQ_by (q_within _ _) ?_
                      rcases getD_or eActD c.acts b.toNat with hg | ⟨d, hg⟩
                      all_goals
                        simp only [go_sem, reduceIte, Nat.reduceEqDiff, Nat.reduceAdd, Nat.reduceMul, Nat.reduceSub, Nat.reduceLeDiff, Nat.reduceLT, reduceCtorEq, h3, h5, hw, hg, eActD]
                        repeat first | refine ⟨fun e => e.elim, ?_⟩ | refine ⟨rfl, ?_⟩
                        refine ⟨?_, hsB⟩
                        show some (V.bool _) = some (V.bool _)
                        rw [hI]
                  · have h12 : ¬ op = 12 := by simpa using h
                    refine aw_chain rfl rfl rfl rfl rfl ?_  -- [11, 16]
                    refine aw_if rfl (fun h => ?_) (fun h => ?_)
                    · have h : op = 11 ∨ op = 16 := by simpa using h
                      have hI : insB c op b k args = (match atI c.pats b with | none => false | some ps => armsB ps.1 op k args) := by unfold insB; rw [if_neg h1, if_neg h5', if_neg h6, if_neg h8, if_neg h7, if_neg h10, if_neg h27, if_neg h12, if_pos h]
                      refine aw_rg rfl ?_
                      simp only [go_sem, reduceIte, Nat.reduceEqDiff, Nat.reduceAdd, Nat.reduceMul, Nat.reduceSub, Nat.reduceLeDiff, Nat.reduceLT, reduceCtorEq, h3, h5]
                      refine goA_q (q_within _ _) ?_
                      rcases atI_cases c.pats b with ⟨hn, hw, hb0, hb1, ha⟩ | ⟨hw, ha⟩
                      · rw [ha] at hI
                        simp only [go_sem, reduceIte, Nat.reduceEqDiff, Nat.reduceAdd, Nat.reduceMul, Nat.reduceSub, Nat.reduceLeDiff, Nat.reduceLT, reduceCtorEq, h3, h5, hw]
                        refine goH_q (fun _ => q_arms c hc op a b k args nl hl ⟨hb0, hb1⟩) ?_
                        simp only [go_sem, reduceIte, Nat.reduceEqDiff, Nat.reduceAdd, Nat.reduceMul, Nat.reduceSub, Nat.reduceLeDiff, Nat.reduceLT, reduceCtorEq, h3, h5]
                        refine ⟨?_, hsB⟩
                        show some (V.bool _) = some (V.bool _)
                        rw [hI]
                      · rw [ha] at hI
                        simp only [go_sem, reduceIte, Nat.reduceEqDiff, Nat.reduceAdd, Nat.reduceMul, Nat.reduceSub, Nat.reduceLeDiff, Nat.reduceLT, reduceCtorEq, h3, h5, hw]
                        refine goH_q (x := .bool false) (fun e => by cases e) ?_
                        simp only [go_sem, reduceIte, Nat.reduceEqDiff, Nat.reduceAdd, Nat.reduceMul, Nat.reduceSub, Nat.reduceLeDiff, Nat.reduceLT, reduceCtorEq, h3, h5]
                        refine ⟨?_, hsB⟩
                        show some (V.bool _) = some (V.bool _)
                        rw [hI]
                    · have h11 : ¬ (op = 11 ∨ op = 16) := by simpa using h
                      refine aw_skip ⟨?_, hsB⟩
                      show some (V.bool _) = some (V.bool _)
                      unfold insB
                      rw [if_neg h1, if_neg h5', if_neg h6, if_neg h8, if_neg h7, if_neg h10, if_neg h27, if_neg h12, if_neg h11]
  intro f' G' ⟨hf, hg⟩
  refine AW.of_fsub hf ?_
  refine aw_seq fun K14 hK14 => ?_
  refine aw_sr rfl ?_  -- r23 @check.go:98
  simp only [go_sem, reduceIte, Nat.reduceEqDiff, Nat.reduceAdd, Nat.reduceMul, Nat.reduceSub, Nat.reduceLeDiff, Nat.reduceLT, reduceCtorEq]
  refine aw_if rfl (fun h => ?_) (fun h => ?_)
  · refine aw_sr rfl ?_  -- r24 @check.go:99
    simp only [go_sem, reduceIte, Nat.reduceEqDiff, Nat.reduceAdd, Nat.reduceMul, Nat.reduceSub, Nat.reduceLeDiff, Nat.reduceLT, reduceCtorEq]
    refine aw_ret ⟨trivial, _, rfl, ?_, hg⟩
    rw [if_neg (by intro e; rw [e] at h; cases h)]
    exact Vle.refl _
  refine aw_skip (hK14 _ _ ?_)
  refine aw_sr rfl ?_  -- r25 @check.go:101
  simp only [go_sem, reduceIte, Nat.reduceEqDiff, Nat.reduceAdd, Nat.reduceMul, Nat.reduceSub, Nat.reduceLeDiff, Nat.reduceLT, reduceCtorEq]
  refine aw_ret ⟨trivial, _, rfl, ?_, hg⟩
  rw [if_pos (by cases e : insB c op b k args <;> rw [e] at h <;> first | rfl | cases h)]
  exact Vle.refl _
end Go.Proofs.Ytkhgcikaojhknaa

/- What is wrong with a function of a code, the program's. No conditions but sizes. -/
set_option linter.unusedSimpArgs false
set_option linter.unusedVariables false
namespace Go.Proofs.Ytkhgcikaojhknaa
open Go.Proofs.YtkhgcikaojhknaaV
set_option maxHeartbeats 400000
set_option maxRecDepth 100000
/-- The registers of an instruction. -/
def regsF (x : InsD) : List Int := readsF x.1 x.2.1 x.2.2.1 x.2.2.2.2.1 ++ (if writesB x.1 = true then [x.2.1] else []) ++ (armsF x.1 x.2.2.2.2.1).flatMap (·.2)
/-- An instruction that may stand at a place of a function. -/
def fineI (c : CodeD) (len regs : Int) (at_ : Int) (x : InsD) : Bool :=
  decide (1 ≤ x.1 ∧ x.1 ≤ 27) && ((nextF x.1 x.2.1 x.2.2.1 x.2.2.2.1 at_ x.2.2.2.2.1).all (fun n => withinB n len) && ((regsF x).all (fun r => withinB r regs) && insB c x.1 x.2.2.1 x.2.2.2.1 x.2.2.2.2.1))
def fineIs (c : CodeD) (len regs : Int) : Int → List InsD → Bool
  | _, [] => true
  | k, x :: l => fineI c len regs k x && fineIs c len regs (k + 1) l
theorem fineIs_take {c : CodeD} {len regs : Int} : ∀ {l : List InsD} {k : Int} {i : Nat} (h : i < l.length), fineIs c len regs k (l.take i) = true → fineI c len regs (k + i) l[i] = true → fineIs c len regs k (l.take (i + 1)) = true
  | x :: l, k, 0, _, _, h2 => by
    simp only [List.take_succ_cons, List.take_zero, fineIs, Bool.and_true]
    simpa using h2
  | x :: l, k, i + 1, h, h1, h2 => by
    simp only [List.take_succ_cons, fineIs, Bool.and_eq_true] at h1 ⊢
    refine ⟨h1.1, fineIs_take (by simpa using h) h1.2 ?_⟩
    rw [show k + 1 + (i : Int) = k + ((i + 1 : Nat) : Int) by omega]
    exact h2
theorem fineIs_not {c : CodeD} {len regs : Int} : ∀ {l : List InsD} {k : Int} {i : Nat} (h : i < l.length), fineI c len regs (k + i) l[i] = false → fineIs c len regs k l = false
  | x :: l, k, 0, _, h2 => by
    rw [fineIs, show fineI c len regs k x = false by simpa using h2, Bool.false_and]
  | x :: l, k, i + 1, h, h2 => by
    rw [fineIs, fineIs_not (i := i) (by simpa using h) (by rw [show k + 1 + (i : Int) = k + ((i + 1 : Nat) : Int) by omega]; exact h2), Bool.and_false]
/-- What is wrong with a function. -/
def funF (c : CodeD) (f : FunD) : Int :=
  if 4000 < (f.2.2.2.2.1.length : Int) ∨ 2000 < f.2.2.2.1 then 2
  else if f.2.1 < 0 ∨ f.2.2.1 < 0 ∨ 2000 < f.2.1 ∨ 2000 < f.2.2.1 ∨ f.2.2.2.1 < f.2.1 + f.2.2.1 ∨ f.2.2.2.2.1.length = 0 then 3
  else if fineIs c f.2.2.2.2.1.length f.2.2.2.1 0 f.2.2.2.2.1 = true then 0 else 3
theorem wid_eIns (xs : List InsD) : wid 5 (xs.map eIns) := wid_map (g := eIns) (fun _ => rfl) _
theorem reads_len (op a b : Int) (args : List Int) : (readsF op a b args).length ≤ args.length + 2 := by
  unfold readsF
  repeat' split
  all_goals first | (simp; done) | (simp; omega) | omega
theorem next_len (op a b c at_ : Int) (args : List Int) : (nextF op a b c at_ args).length ≤ args.length + 2 := by
  have := arms_len op args
  have := first_len op args
  unfold nextF
  repeat' split
  all_goals first | (simp; done) | (simp; omega) | omega
theorem q_fun (c : CodeD) (hc : OkCode c) (f : FunD) (hf : OkFunD f) :
    Quiet Try.prog 145 [.agg (cCode c), .agg (cFun f)] (.int .i64 (funF c f)) := by
  obtain ⟨hfl, hfa⟩ := hf
  refine Quiet.weak fun G => ?_
  refine acall_body (rs := [.tmp 4]) Try.func145 rfl rfl Try.ntmps145 (by kernel_rfl) (Nat.le_of_ble_eq_true rfl) ?_
  refine aw_sr rfl ?_  -- r0 @check.go:37
  simp only [go_sem, reduceIte, Nat.reduceEqDiff, Nat.reduceAdd, Nat.reduceMul, Nat.reduceSub, Nat.reduceLeDiff, Nat.reduceLT, reduceCtorEq]
  intro b2 hb2
  intro b3 hb3
  refine aw_box2 hb2 hb3 fun B1 hs1 h2 h3 _ _ => ?_
  have hsB := hs1
  refine aw_seq fun K7 hK7 => ?_
  refine aw_sr rfl ?_  -- r1 @check.go:38
  simp only [go_sem, reduceIte, Nat.reduceEqDiff, Nat.reduceAdd, Nat.reduceMul, Nat.reduceSub, Nat.reduceLeDiff, Nat.reduceLT, reduceCtorEq, h3]
  refine aw_if rfl (fun h => ?_) (fun h => ?_)
  · refine aw_sr rfl ?_  -- r2 @check.go:39
    simp only [go_sem, reduceIte, Nat.reduceEqDiff, Nat.reduceAdd, Nat.reduceMul, Nat.reduceSub, Nat.reduceLeDiff, Nat.reduceLT, reduceCtorEq]
    refine aw_ret ⟨trivial, _, rfl, ?_, hsB⟩
    simp only [Bool.or_eq_true, decide_eq_true_eq] at h
    rw [funF, if_pos h]
    exact Vle.refl _
  simp only [Bool.or_eq_false_iff, decide_eq_false_iff_not] at h
  have hF1 : ¬ (4000 < (f.2.2.2.2.1.length : Int) ∨ 2000 < f.2.2.2.1) := by omega
  refine aw_skip (hK7 _ _ ?_)
  refine aw_seq fun K8 hK8 => ?_
  refine aw_sr rfl ?_  -- r3 @check.go:41
  simp only [go_sem, reduceIte, Nat.reduceEqDiff, Nat.reduceAdd, Nat.reduceMul, Nat.reduceSub, Nat.reduceLeDiff, Nat.reduceLT, reduceCtorEq, h3]
  refine aw_if rfl (fun h => ?_) (fun h => ?_)
  · refine aw_sr rfl ?_  -- r4 @check.go:42
    simp only [go_sem, reduceIte, Nat.reduceEqDiff, Nat.reduceAdd, Nat.reduceMul, Nat.reduceSub, Nat.reduceLeDiff, Nat.reduceLT, reduceCtorEq]
    refine aw_ret ⟨trivial, _, rfl, ?_, hsB⟩
    simp only [Bool.or_eq_true, decide_eq_true_eq] at h
    rw [funF, if_neg hF1, if_pos]
    · exact Vle.refl _
    by_cases hr : (0 ≤ f.2.1 ∧ f.2.1 ≤ 2000) ∧ (0 ≤ f.2.2.1 ∧ f.2.2.1 ≤ 2000)
    · rw [wrap64 (by omega) (by omega)] at h
      omega
    · omega
  simp only [Bool.or_eq_false_iff, decide_eq_false_iff_not] at h
  have hr : (0 ≤ f.2.1 ∧ f.2.1 ≤ 2000) ∧ (0 ≤ f.2.2.1 ∧ f.2.2.1 ≤ 2000) := by omega
  rw [wrap64 (by omega) (by omega)] at h
  have hF2 : ¬ (f.2.1 < 0 ∨ f.2.2.1 < 0 ∨ 2000 < f.2.1 ∨ 2000 < f.2.2.1 ∨ f.2.2.2.1 < f.2.1 + f.2.2.1 ∨ f.2.2.2.2.1.length = 0) := by omega
  have hF : funF c f = if fineIs c f.2.2.2.2.1.length f.2.2.2.1 0 f.2.2.2.2.1 = true then 0 else 3 := by rw [funF, if_neg hF1, if_neg hF2]
  have hbad : ∀ {i : Nat} (hi : i < f.2.2.2.2.1.length), fineI c f.2.2.2.2.1.length f.2.2.2.1 i f.2.2.2.2.1[i] = false → Vle (oneOf [V.int .i64 3]) (.int .i64 (funF c f)) := by
    intro i hi h
    rw [hF, fineIs_not hi (by rw [Int.zero_add]; exact h)]
    exact Vle.refl _
  refine aw_skip (hK8 _ _ ?_)
  refine aw_seq fun K9 hK9 => ?_
  refine aw_sr rfl ?_  -- r5 @check.go:44
  simp only [go_sem, reduceIte, Nat.reduceEqDiff, Nat.reduceAdd, Nat.reduceMul, Nat.reduceSub, Nat.reduceLeDiff, Nat.reduceLT, reduceCtorEq, h3]
  refine aw_range f.2.2.2.2.1.length (S := Unit) (fun i _ => [(2, .ptr b2 0), (3, .ptr b3 0), (59, .sl (f.2.2.2.2.1.map eIns) f.2.2.2.2.2 .no)]) (fun _ _ => B1) (fun i _ => fineIs c f.2.2.2.2.1.length f.2.2.2.1 0 (f.2.2.2.2.1.take i) = true) () (by omega) ?_ (fun _ _ h => h) rfl rfl (fun _ _ => rfl) ?_ ?_ (by decide)
  · simp only [go_sem, reduceIte, Nat.reduceEqDiff, Nat.reduceAdd, Nat.reduceMul, Nat.reduceSub, Nat.reduceLeDiff, Nat.reduceLT, reduceCtorEq, Int.natCast_zero]
  · intro i _ hi he
    have hm := List.getElem_mem hi
    have hal := hfa _ hm
    have hbad := hbad hi
    have hnext := fineIs_take (k := 0) (c := c) (len := f.2.2.2.2.1.length) (regs := f.2.2.2.1) hi he
    rw [Int.zero_add] at hnext
    refine aw_sr rfl ?_  -- r7 @check.go:44
    simp only [go_sem, reduceIte, Nat.reduceEqDiff, Nat.reduceAdd, Nat.reduceMul, Nat.reduceSub, Nat.reduceLeDiff, Nat.reduceLT, reduceCtorEq, getD_map hi, eIns]
    refine ⟨⟨by omega, by omega, wid_eIns _⟩, ?_⟩
    generalize f.2.2.2.2.1[i] = x at hm hal hbad hnext ⊢
    obtain ⟨op, xa, xb, xc, args, nl⟩ := x
    simp only at hal ⊢
    intro b6 hb6
    refine aw_box1 hb6 fun B2 hs2 h6 => ?_
    have h26 := hs2 _ _ h2
    have h36 := hs2 _ _ h3
    have hsC := sub_trans hsB hs2
    refine aw_seq fun K10 hK10 => ?_
    refine aw_sr rfl ?_  -- r8 @check.go:45
    simp only [go_sem, reduceIte, Nat.reduceEqDiff, Nat.reduceAdd, Nat.reduceMul, Nat.reduceSub, Nat.reduceLeDiff, Nat.reduceLT, reduceCtorEq, h6]
    refine aw_if rfl (fun h => ?_) (fun h => ?_)
    · refine aw_sr rfl ?_  -- r9 @check.go:46
      simp only [go_sem, reduceIte, Nat.reduceEqDiff, Nat.reduceAdd, Nat.reduceMul, Nat.reduceSub, Nat.reduceLeDiff, Nat.reduceLT, reduceCtorEq]
      refine aw_ret ⟨trivial, _, rfl, hbad ?_, hsC⟩
      simp only [Bool.or_eq_true, decide_eq_true_eq] at h
      unfold fineI
      rw [decide_eq_false (by simp only; omega), Bool.false_and]
    simp only [Bool.or_eq_false_iff, decide_eq_false_iff_not] at h
    have hop : decide (1 ≤ op ∧ op ≤ 27) = true := decide_eq_true (by omega)
    refine aw_skip (hK10 _ _ ?_)
    refine aw_seq fun K11 hK11 => ?_
    refine aw_sr rfl ?_  -- r10 @check.go:48
    simp only [go_sem, reduceIte, Nat.reduceEqDiff, Nat.reduceAdd, Nat.reduceMul, Nat.reduceSub, Nat.reduceLeDiff, Nat.reduceLT, reduceCtorEq, h6]
    have hnl := next_len op xa xb xc i args
    refine goA_q (q_cNext op xa xb xc i args nl hal (by omega) (by omega)) ?_
    simp only [go_sem, reduceIte, Nat.reduceEqDiff, Nat.reduceAdd, Nat.reduceMul, Nat.reduceSub, Nat.reduceLeDiff, Nat.reduceLT, reduceCtorEq, ints]
    refine aw_range (nextF op xa xb xc i args).length (S := Unit) (fun j _ => [(60, .int .i64 (f.2.2.2.2.1.length : Nat)), (61, .int .i64 (i : Nat)), (2, .ptr b2 0), (3, .ptr b3 0), (6, .ptr b6 0), (59, .sl (f.2.2.2.2.1.map eIns) f.2.2.2.2.2 .no), (76, .sl ((nextF op xa xb xc i args).map eI) (nextF op xa xb xc i args).isEmpty .no)]) (fun _ _ => B2) (fun j _ => ((nextF op xa xb xc i args).take j).all (fun n => withinB n f.2.2.2.2.1.length) = true) () (by omega) ?_ (fun _ _ h => h) rfl rfl (fun _ _ => rfl) ?_ ?_ (by decide)
    · simp only [go_sem, reduceIte, Nat.reduceEqDiff, Nat.reduceAdd, Nat.reduceMul, Nat.reduceSub, Nat.reduceLeDiff, Nat.reduceLT, reduceCtorEq, Int.natCast_zero]
    · intro j _ hj he2
      refine aw_sr rfl ?_  -- r12 @check.go:48
      simp only [go_sem, reduceIte, Nat.reduceEqDiff, Nat.reduceAdd, Nat.reduceMul, Nat.reduceSub, Nat.reduceLeDiff, Nat.reduceLT, reduceCtorEq, getD_eI hj]
      refine ⟨⟨by omega, by omega, wid_eI _⟩, ?_⟩
      refine aw_sr rfl ?_  -- r13 @check.go:49
      simp only [go_sem, reduceIte, Nat.reduceEqDiff, Nat.reduceAdd, Nat.reduceMul, Nat.reduceSub, Nat.reduceLeDiff, Nat.reduceLT, reduceCtorEq, h36]
      refine aw_if rfl (fun h => ?_) (fun h => ?_)
      · refine aw_sr rfl ?_  -- r14 @check.go:50
        simp only [go_sem, reduceIte, Nat.reduceEqDiff, Nat.reduceAdd, Nat.reduceMul, Nat.reduceSub, Nat.reduceLeDiff, Nat.reduceLT, reduceCtorEq]
        refine aw_ret ⟨trivial, _, rfl, hbad ?_, hsC⟩
        simp only [Bool.or_eq_true, decide_eq_true_eq] at h
        unfold fineI
        rw [allT_not (q := fun n => withinB n f.2.2.2.2.1.length) hj (withinB_neg (by omega)), Bool.false_and, Bool.and_false]
      simp only [Bool.or_eq_false_iff, decide_eq_false_iff_not] at h
      refine aw_skip ⟨(), allT_next (q := fun n => withinB n f.2.2.2.2.1.length) he2 hj (withinB_pos (by omega)), ?_, fun _ _ h => h⟩
      simp only [go_sem, reduceIte, Nat.reduceEqDiff, Nat.reduceAdd, Nat.reduceMul, Nat.reduceSub, Nat.reduceLeDiff, Nat.reduceLT, reduceCtorEq]
    intro _ he2
    rw [List.take_length] at he2
    refine hK11 _ _ ?_
    refine aw_sr rfl ?_  -- r16 @check.go:53
    simp only [go_sem, reduceIte, Nat.reduceEqDiff, Nat.reduceAdd, Nat.reduceMul, Nat.reduceSub, Nat.reduceLeDiff, Nat.reduceLT, reduceCtorEq, h6]
    refine goA_by (m_cReads op xa xb xc args nl hal B2) fun y G3 hy => ?_
    obtain ⟨t0, rfl, hr0, hs0⟩ := hy
    simp only [go_sem, reduceIte, Nat.reduceEqDiff, Nat.reduceAdd, Nat.reduceMul, Nat.reduceSub, Nat.reduceLeDiff, Nat.reduceLT, reduceCtorEq]
    have hrl := reads_len op xa xb args
    have hall := arms_len op args
    have harr := arms_regs op args
    generalize hr1 : readsF op xa xb args = r1 at hrl ⊢
    refine aw_mid (fun f' G' => ∃ nl2 t2, FSub [(9, .sl ((r1 ++ (if writesB op = true then [xa] else [])).map eI) nl2 t2), (2, .ptr b2 0), (3, .ptr b3 0), (6, .ptr b6 0), (59, .sl (f.2.2.2.2.1.map eIns) f.2.2.2.2.2 .no), (60, .int .i64 (f.2.2.2.2.1.length : Nat)), (61, .int .i64 (i : Nat))] f' ∧ Rm B2 G' 1 t2 ∧ Sub B2 G') ?_ ?_
    · -- 2 ways
      refine aw_sr rfl ?_  -- r17 @check.go:54
      simp only [go_sem, reduceIte, Nat.reduceEqDiff, Nat.reduceAdd, Nat.reduceMul, Nat.reduceSub, Nat.reduceLeDiff, Nat.reduceLT, reduceCtorEq, hs0 _ _ h6]
      refine goA_q (q_writes op) ?_
      simp only [go_sem, reduceIte, Nat.reduceEqDiff, Nat.reduceAdd, Nat.reduceMul, Nat.reduceSub, Nat.reduceLeDiff, Nat.reduceLT, reduceCtorEq]
      refine aw_if rfl (fun h => ?_) (fun h => ?_)
      · refine aw_rg rfl ?_  -- r18 @check.go:55
        simp only [go_sem, reduceIte, Nat.reduceEqDiff, Nat.reduceAdd, Nat.reduceMul, Nat.reduceSub, Nat.reduceLeDiff, Nat.reduceLT, reduceCtorEq, hs0 _ _ h6]
        refine goP_rm hr0 hs0 ?_ fun t1 H1 hr1 hs1 hg1 => ?_
        · exact ⟨rfl, rfl, by decide, wid_eI _, wid_one rfl, sca_one rfl, by simp; omega, by simp; omega⟩
        simp only [go_sem, reduceIte, Nat.reduceEqDiff, Nat.reduceAdd, Nat.reduceMul, Nat.reduceSub, Nat.reduceLeDiff, Nat.reduceLT, reduceCtorEq]
        refine ⟨false, t1, ⟨?_, rfl, rfl, rfl, rfl, rfl, rfl⟩, hr1, hs1⟩
        rw [if_pos h, List.map_append]; rfl
      · refine aw_skip ⟨r1.isEmpty, t0, ⟨?_, rfl, rfl, rfl, rfl, rfl, rfl⟩, hr0, hs0⟩
        rw [if_neg (no_if h), List.append_nil]; rfl
    intro f' B3 ⟨nl2, t2, hf, hr2, hs3⟩
    refine AW.of_fsub hf ?_
    have hx0 : (r1 ++ (if writesB op = true then [xa] else [])).length ≤ args.length + 3 := by
      rw [List.length_append]; split <;> simp <;> omega
    have hregs : regsF (op, xa, xb, xc, args, nl) = r1 ++ (if writesB op = true then [xa] else []) ++ (armsF op args).flatMap (·.2) := by unfold regsF; simp only; rw [hr1]
    generalize hr3 : r1 ++ (if writesB op = true then [xa] else []) = r3 at hx0 hregs ⊢
    refine aw_seq fun K12 hK12 => ?_
    refine aw_sr rfl ?_  -- r19 @check.go:57
    simp only [go_sem, reduceIte, Nat.reduceEqDiff, Nat.reduceAdd, Nat.reduceMul, Nat.reduceSub, Nat.reduceLeDiff, Nat.reduceLT, reduceCtorEq, hs3 _ _ h6]
    refine goA_q (q_cArms op xa xb xc args nl hal) ?_
    simp only [go_sem, reduceIte, Nat.reduceEqDiff, Nat.reduceAdd, Nat.reduceMul, Nat.reduceSub, Nat.reduceLeDiff, Nat.reduceLT, reduceCtorEq, ars]
    generalize hAA : armsF op args = AA at hall harr hregs ⊢
    have hflat : ∀ k, ((AA.take k).flatMap (·.2)).length ≤ 1048576 * 1048576 := fun k => by
      have h1 := flat_len (m := 1048576) (g := (·.2)) (xs := AA.take k) (fun a ha => Nat.le_trans (harr a (List.mem_of_mem_take ha)) hal)
      have h2 : (AA.take k).length ≤ 1048576 := by rw [List.length_take]; omega
      exact Nat.le_trans h1 (Nat.mul_le_mul_right _ h2)
    refine aw_range AA.length (S := Bool × Tag × Heap) (fun k s => [(9, .sl ((r3 ++ (AA.take k).flatMap (·.2)).map eI) s.1 s.2.1), (2, .ptr b2 0), (3, .ptr b3 0), (6, .ptr b6 0), (59, .sl (f.2.2.2.2.1.map eIns) f.2.2.2.2.2 .no), (60, .int .i64 (f.2.2.2.2.1.length : Nat)), (61, .int .i64 (i : Nat)), (103, .sl (AA.map eAr) AA.isEmpty .no)]) (fun _ s => s.2.2) (fun k s => Rm B2 s.2.2 1 s.2.1 ∧ Sub B2 s.2.2) (nl2, t2, B3) (by omega) ?_ (fun _ _ h => h) ⟨hr2, hs3⟩ rfl (fun _ _ => rfl) ?_ ?_ (by decide)
    · simp only [go_sem, reduceIte, Nat.reduceEqDiff, Nat.reduceAdd, Nat.reduceMul, Nat.reduceSub, Nat.reduceLeDiff, Nat.reduceLT, reduceCtorEq, Int.natCast_zero, List.take_zero, List.flatMap_nil, List.append_nil]
    · intro k ⟨nl4, t4, B4⟩ hk ⟨hr4, hs4⟩
      simp only at hr4 hs4 ⊢
      have hkl := harr _ (List.getElem_mem hk)
      refine aw_sr rfl ?_  -- r21 @check.go:57
      simp only [go_sem, reduceIte, Nat.reduceEqDiff, Nat.reduceAdd, Nat.reduceMul, Nat.reduceSub, Nat.reduceLeDiff, Nat.reduceLT, reduceCtorEq, getD_map hk, eAr]
      refine ⟨⟨by omega, by omega, wid_eAr _⟩, ?_⟩
      intro b11 hb11
      refine aw_box1 hb11 fun B5 hs5 h11 => ?_
      refine aw_rg rfl ?_  -- r22 @check.go:58
      simp only [go_sem, reduceIte, Nat.reduceEqDiff, Nat.reduceAdd, Nat.reduceMul, Nat.reduceSub, Nat.reduceLeDiff, Nat.reduceLT, reduceCtorEq, h11]
      refine goP_rm (hr4.sub hs5) (sub_trans hs4 hs5) ?_ fun t1 H1 hr6 hs6 hg6 => ?_
      · have := hflat k
        exact ⟨rfl, rfl, by decide, wid_eI _, wid_eI _, sca_eI _, by simp only [List.length_map, List.length_append, List.length_cons, List.length_nil, List.length_take, List.length_drop]; omega, by simp only [List.length_map, List.length_append, List.length_cons, List.length_nil, List.length_take, List.length_drop]; omega⟩
      simp only [go_sem, reduceIte, Nat.reduceEqDiff, Nat.reduceAdd, Nat.reduceMul, Nat.reduceSub, Nat.reduceLeDiff, Nat.reduceLT, reduceCtorEq]
      refine ⟨(nl4 && (AA[k].2.map eI).isEmpty, t1, H1), ⟨hr6, hs6⟩, ⟨rfl, rfl, ?_, rfl, rfl, rfl, rfl, rfl, rfl, rfl⟩, sub_rfl⟩
      show some _ = some _
      rw [List.take_succ_eq_append_getElem hk, List.flatMap_append, List.flatMap_singleton, ← List.append_assoc, List.map_append (l₁ := r3 ++ _)]
    intro ⟨nl4, t4, B4⟩ ⟨hr4, hs4⟩
    simp only at hr4 hs4 ⊢
    rw [List.take_length, ← hregs]
    have hRl : (regsF (op, xa, xb, xc, args, nl)).length ≤ 1048579 + 1048576 * 1048576 := by
      have := hflat AA.length
      rw [List.take_length] at this
      rw [hregs, List.length_append]; omega
    refine hK12 _ _ ?_
    refine aw_seq fun K13 hK13 => ?_
    refine aw_sr rfl ?_  -- r24 @check.go:60
    simp only [go_sem, reduceIte, Nat.reduceEqDiff, Nat.reduceAdd, Nat.reduceMul, Nat.reduceSub, Nat.reduceLeDiff, Nat.reduceLT, reduceCtorEq]
    generalize hRR : regsF (op, xa, xb, xc, args, nl) = RR at hRl ⊢
    refine aw_range RR.length (S := Unit) (fun k _ => [(2, .ptr b2 0), (3, .ptr b3 0), (6, .ptr b6 0), (59, .sl (f.2.2.2.2.1.map eIns) f.2.2.2.2.2 .no), (60, .int .i64 (f.2.2.2.2.1.length : Nat)), (61, .int .i64 (i : Nat)), (114, .sl (RR.map eI) nl4 t4)]) (fun _ _ => B4) (fun k _ => (RR.take k).all (fun r => withinB r f.2.2.2.1) = true) () (by omega) ?_ (fun _ _ h => h) rfl rfl (fun _ _ => rfl) ?_ ?_ (by decide)
    · simp only [go_sem, reduceIte, Nat.reduceEqDiff, Nat.reduceAdd, Nat.reduceMul, Nat.reduceSub, Nat.reduceLeDiff, Nat.reduceLT, reduceCtorEq, Int.natCast_zero]
    · intro k _ hk he3
      refine aw_sr rfl ?_  -- r26 @check.go:60
      simp only [go_sem, reduceIte, Nat.reduceEqDiff, Nat.reduceAdd, Nat.reduceMul, Nat.reduceSub, Nat.reduceLeDiff, Nat.reduceLT, reduceCtorEq, getD_eI hk]
      refine ⟨⟨by omega, by omega, wid_eI _⟩, ?_⟩
      refine aw_sr rfl ?_  -- r27 @check.go:61
      simp only [go_sem, reduceIte, Nat.reduceEqDiff, Nat.reduceAdd, Nat.reduceMul, Nat.reduceSub, Nat.reduceLeDiff, Nat.reduceLT, reduceCtorEq, hs4 _ _ h36]
      refine aw_if rfl (fun h => ?_) (fun h => ?_)
      · refine aw_sr rfl ?_  -- r28 @check.go:62
        simp only [go_sem, reduceIte, Nat.reduceEqDiff, Nat.reduceAdd, Nat.reduceMul, Nat.reduceSub, Nat.reduceLeDiff, Nat.reduceLT, reduceCtorEq]
        refine aw_ret ⟨trivial, _, rfl, hbad ?_, sub_trans hsC hs4⟩
        simp only [Bool.or_eq_true, decide_eq_true_eq] at h
        unfold fineI
        rw [hRR, allT_not (q := fun n => withinB n f.2.2.2.1) hk (withinB_neg (by omega)), Bool.false_and, Bool.and_false, Bool.and_false]
      simp only [Bool.or_eq_false_iff, decide_eq_false_iff_not] at h
      refine aw_skip ⟨(), allT_next (q := fun n => withinB n f.2.2.2.1) he3 hk (withinB_pos (by omega)), ?_, fun _ _ h => h⟩
      simp only [go_sem, reduceIte, Nat.reduceEqDiff, Nat.reduceAdd, Nat.reduceMul, Nat.reduceSub, Nat.reduceLeDiff, Nat.reduceLT, reduceCtorEq]
    intro _ he3
    rw [List.take_length] at he3
    refine hK13 _ _ ?_
    refine aw_sr rfl ?_  -- r30 @check.go:65
    simp only [go_sem, reduceIte, Nat.reduceEqDiff, Nat.reduceAdd, Nat.reduceMul, Nat.reduceSub, Nat.reduceLeDiff, Nat.reduceLT, reduceCtorEq, hs4 _ _ h26, hs4 _ _ h36, hs4 _ _ h6]
    refine goA_q (q_ins c hc (cFun f) rfl op xa xb xc args nl hal) ?_
    simp only [go_sem, reduceIte, Nat.reduceEqDiff, Nat.reduceAdd, Nat.reduceMul, Nat.reduceSub, Nat.reduceLeDiff, Nat.reduceLT, reduceCtorEq]
    refine aw_sr rfl ?_  -- r31 @check.go:65
    simp only [go_sem, reduceIte, Nat.reduceEqDiff, Nat.reduceAdd, Nat.reduceMul, Nat.reduceSub, Nat.reduceLeDiff, Nat.reduceLT, reduceCtorEq]
    refine aw_if rfl (fun h => ?_) (fun h => ?_)
    · refine aw_sr rfl ?_  -- r32 @check.go:66
      simp only [go_sem, reduceIte, Nat.reduceEqDiff, Nat.reduceAdd, Nat.reduceMul, Nat.reduceSub, Nat.reduceLeDiff, Nat.reduceLT, reduceCtorEq]
      have h : insB c op xb xc args = false := by
        cases e : insB c op xb xc args with
        | false => rfl
        | true => rw [e] at h; simp at h
      refine aw_ret ⟨trivial, _, rfl, ?_, sub_trans hsC hs4⟩
      rw [h]
      refine hbad ?_
      unfold fineI
      simp only
      rw [h, Bool.and_false, Bool.and_false, Bool.and_false]
    have h : insB c op xb xc args = true := by
      cases e : insB c op xb xc args with
      | true => rfl
      | false => rw [e] at h; simp at h
    refine aw_skip ⟨(), hnext ?_, ?_, sub_trans hs2 hs4⟩
    · unfold fineI
      simp only
      rw [hop, he2, hRR, he3, h]; rfl
    simp only [go_sem, reduceIte, Nat.reduceEqDiff, Nat.reduceAdd, Nat.reduceMul, Nat.reduceSub, Nat.reduceLeDiff, Nat.reduceLT, reduceCtorEq]
  intro _ he
  rw [List.take_length] at he
  refine hK9 _ _ ?_
  refine aw_sr rfl ?_  -- r34 @check.go:69
  simp only [go_sem, reduceIte, Nat.reduceEqDiff, Nat.reduceAdd, Nat.reduceMul, Nat.reduceSub, Nat.reduceLeDiff, Nat.reduceLT, reduceCtorEq]
  refine aw_ret ⟨trivial, _, rfl, ?_, hsB⟩
  rw [hF, if_pos he]
  exact Vle.refl _
end Go.Proofs.Ytkhgcikaojhknaa

/- What is wrong with a code, the program's. No conditions but sizes. -/
set_option linter.unusedSimpArgs false
set_option linter.unusedVariables false
namespace Go.Proofs.Ytkhgcikaojhknaa
open Go.Proofs.YtkhgcikaojhknaaV
set_option maxHeartbeats 400000
set_option maxRecDepth 100000
/-- Does a function begin with a receive? -/
def topB (l : List InsD) : Bool := match l with | [] => false | x :: _ => decide (x.1 = 16)
def actB (c : CodeD) (a : ActD) : Bool := match atI c.funs a.2.2.1 with
  | none => false
  | some f => decide (0 ≤ a.2.1) && (decide (f.2.1 = a.2.1) && (decide (f.2.2.1 = 0) && (!a.2.2.2 || topB f.2.2.2.2.1)))
def impB (c : CodeD) (i : ImpD) : Bool := match atI c.funs i.2.2 with
  | none => false
  | some f => decide (f.2.2.1 = 0)
/-- The first of them that is not 0. -/
def frst {A : Type} (g : A → Int) : List A → Int
  | [] => 0
  | x :: l => if g x = 0 then frst g l else g x
theorem frst_take {A : Type} {g : A → Int} : ∀ {l : List A} {i : Nat} (h : i < l.length), frst g (l.take i) = 0 → g l[i] = 0 → frst g (l.take (i + 1)) = 0
  | x :: l, 0, _, _, h2 => by
    simp only [List.take_succ_cons, List.take_zero, frst]
    rw [if_pos (by simpa using h2)]
  | x :: l, i + 1, h, h1, h2 => by
    simp only [List.take_succ_cons, frst] at h1 ⊢
    by_cases e : g x = 0
    · rw [if_pos e] at h1 ⊢
      exact frst_take (by simpa using h) h1 h2
    · rw [if_neg e] at h1; exact absurd h1 e
theorem frst_at {A : Type} {g : A → Int} : ∀ {l : List A} {i : Nat} (h : i < l.length), frst g (l.take i) = 0 → g l[i] ≠ 0 → frst g l = g l[i]
  | x :: l, 0, _, _, h2 => by
    rw [frst, if_neg (by simpa using h2)]; rfl
  | x :: l, i + 1, h, h1, h2 => by
    simp only [List.take_succ_cons, frst] at h1 ⊢
    by_cases e : g x = 0
    · rw [if_pos e] at h1 ⊢
      exact frst_at (by simpa using h) h1 h2
    · rw [if_neg e] at h1; exact absurd h1 e
/-- What is wrong with a code. -/
def codeF (c : CodeD) : Int :=
  if 1000 < (c.2.2.1.1.length : Int) ∨ 4000 < (c.1.1.length : Int) ∨ 4000 < (c.2.1.1.length : Int) ∨ 2000 < (c.2.2.2.2.2.2.1.length : Int) then 2
  else if c.2.2.2.1.1.all (actB c) = false then 3
  else if c.2.2.2.2.1.1.all (impB c) = false then 3
  else if c.2.2.2.2.2.1.1.all (fun m => decide (0 ≤ m.2.2)) = false then 3
  else frst (funF c) c.2.2.1.1
theorem q_Check (c : CodeD) (hc : OkCode c) : Quiet Try.prog 72 [.agg (cCode c)] (.int .i64 (codeF c)) := by
  have hlf : c.2.2.1.1.length ≤ 1048576 := hc.2.2.1
  have hla : c.2.2.2.1.1.length ≤ 1048576 := hc.2.2.2.1
  have hli : c.2.2.2.2.1.1.length ≤ 1048576 := hc.2.2.2.2.1
  have hlm : c.2.2.2.2.2.1.1.length ≤ 1048576 := hc.2.2.2.2.2.1
  have hwf : wid 5 (c.2.2.1.1.map eFun) := wid_map (g := eFun) (fun _ => rfl) _
  have hwa : wid 4 (c.2.2.2.1.1.map eActD) := wid_map (g := eActD) (fun _ => rfl) _
  have hwi : wid 3 (c.2.2.2.2.1.1.map eImpD) := wid_map (g := eImpD) (fun _ => rfl) _
  have hwm : wid 3 (c.2.2.2.2.2.1.1.map eImpD) := wid_map (g := eImpD) (fun _ => rfl) _
  refine Quiet.weak fun G => ?_
  refine acall_body (rs := [.tmp 2]) Try.func72 rfl rfl Try.ntmps72 (by kernel_rfl) (Nat.le_of_ble_eq_true rfl) ?_
  refine aw_sr rfl ?_  -- r0 @check.go:6
  simp only [go_sem, reduceIte, Nat.reduceEqDiff, Nat.reduceAdd, Nat.reduceMul, Nat.reduceSub, Nat.reduceLeDiff, Nat.reduceLT, reduceCtorEq]
  intro b1 hb1
  refine aw_box1 hb1 fun B1 hs1 h1 => ?_
  have hsB := hs1
  refine aw_seq fun K1 hK1 => ?_
  refine aw_sr rfl ?_  -- r1 @check.go:7
  simp only [go_sem, reduceIte, Nat.reduceEqDiff, Nat.reduceAdd, Nat.reduceMul, Nat.reduceSub, Nat.reduceLeDiff, Nat.reduceLT, reduceCtorEq, h1]
  refine aw_if rfl (fun h => ?_) (fun h => ?_)
  · refine aw_sr rfl ?_  -- r2 @check.go:8
    simp only [go_sem, reduceIte, Nat.reduceEqDiff, Nat.reduceAdd, Nat.reduceMul, Nat.reduceSub, Nat.reduceLeDiff, Nat.reduceLT, reduceCtorEq]
    refine aw_ret ⟨trivial, _, rfl, ?_, hsB⟩
    simp only [Bool.or_eq_true, decide_eq_true_eq] at h
    rw [codeF, if_pos (by omega)]
    exact Vle.refl _
  simp only [Bool.or_eq_false_iff, decide_eq_false_iff_not] at h
  have hF1 : ¬ (1000 < (c.2.2.1.1.length : Int) ∨ 4000 < (c.1.1.length : Int) ∨ 4000 < (c.2.1.1.length : Int) ∨ 2000 < (c.2.2.2.2.2.2.1.length : Int)) := by omega
  refine aw_skip (hK1 _ _ ?_)
  refine aw_seq fun K2 hK2 => ?_
  refine aw_sr rfl ?_  -- r3 @check.go:10
  simp only [go_sem, reduceIte, Nat.reduceEqDiff, Nat.reduceAdd, Nat.reduceMul, Nat.reduceSub, Nat.reduceLeDiff, Nat.reduceLT, reduceCtorEq, h1]
  refine aw_range c.2.2.2.1.1.length (S := Unit) (fun i _ => [(1, .ptr b1 0), (36, .sl (c.2.2.2.1.1.map eActD) c.2.2.2.1.2 .no)]) (fun _ _ => B1) (fun i _ => (c.2.2.2.1.1.take i).all (actB c) = true) () (by omega) ?_ (fun _ _ h => h) rfl rfl (fun _ _ => rfl) ?_ ?_ (by decide)
  · simp only [go_sem, reduceIte, Nat.reduceEqDiff, Nat.reduceAdd, Nat.reduceMul, Nat.reduceSub, Nat.reduceLeDiff, Nat.reduceLT, reduceCtorEq, Int.natCast_zero]
  · intro i _ hi he
    have hbad : actB c c.2.2.2.1.1[i] = false → Vle (oneOf [V.int .i64 3]) (.int .i64 (codeF c)) := by
      intro h
      rw [codeF, if_neg hF1, if_pos (allT_not hi h)]
      exact Vle.refl _
    have hnext := allT_next (q := actB c) he hi
    refine aw_sr rfl ?_  -- r5 @check.go:10
    simp only [go_sem, reduceIte, Nat.reduceEqDiff, Nat.reduceAdd, Nat.reduceMul, Nat.reduceSub, Nat.reduceLeDiff, Nat.reduceLT, reduceCtorEq, getD_map hi, eActD]
    refine ⟨⟨by omega, by omega, hwa⟩, ?_⟩
    generalize c.2.2.2.1.1[i] = a at hbad hnext ⊢
    intro b4 hb4
    refine aw_box1 hb4 fun B2 hs2 h4 => ?_
    have h14 := hs2 _ _ h1
    have hsC := sub_trans hsB hs2
    refine aw_seq fun K3 hK3 => ?_
    refine aw_srd [(0,true),(1,true),(2,true),(3,true),(4,true),(5,true),(6,true),(7,true),(8,true),(9,true),(10,true),(11,true),(12,true),(13,true),(14,true),(15,true),(16,true),(17,true),(18,true),(19,true),(20,true),(21,true),(22,true),(23,true),(24,true),(25,true),(26,true),(27,true),(28,true),(29,true),(30,true),(31,true),(32,true),(33,true),(34,true),(35,true),(36,true),(37,true)] mixed rfl (by kernel_rfl) ?_
    rcases atI_cases c.2.2.1.1 a.2.2.1 with ⟨hn, hw, hb0, hb1', ha⟩ | ⟨hw, ha⟩
    · have hA : actB c a = (decide (0 ≤ a.2.1) && (decide (c.2.2.1.1[a.2.2.1.toNat].2.1 = a.2.1) && (decide (c.2.2.1.1[a.2.2.1.toNat].2.2.1 = 0) && (!a.2.2.2 || topB c.2.2.1.1[a.2.2.1.toNat].2.2.2.2.1)))) := by unfold actB; rw [ha]
      have hgf : (c.2.2.1.1.map eFun).getD a.2.2.1.toNat [] = eFun c.2.2.1.1[a.2.2.1.toNat] := getD_map hn
      have hokf := hc.2.2.2.2.2.2.2.1 _ (List.getElem_mem hn)
      generalize c.2.2.1.1[a.2.2.1.toNat] = f at hA hgf hokf
      simp only [go_sem, reduceIte, Nat.reduceEqDiff, Nat.reduceAdd, Nat.reduceMul, Nat.reduceSub, Nat.reduceLeDiff, Nat.reduceLT, reduceCtorEq, h14, h4, hgf, eFun]
      refine ⟨fun _ => ⟨hb0, hb1', hwf⟩, fun _ => ⟨hb0, hb1', hwf⟩, ?_⟩
      refine aw_if rfl (fun h => ?_) (fun h => ?_)
      · refine aw_sr rfl ?_  -- r7 @check.go:12
        simp only [go_sem, reduceIte, Nat.reduceEqDiff, Nat.reduceAdd, Nat.reduceMul, Nat.reduceSub, Nat.reduceLeDiff, Nat.reduceLT, reduceCtorEq]
        refine aw_ret ⟨trivial, _, rfl, hbad ?_, hsC⟩
        simp only [Bool.or_eq_true, decide_eq_true_eq] at h
        rw [hA]
        cases e : (decide (0 ≤ a.2.1) && (decide (f.2.1 = a.2.1) && (decide (f.2.2.1 = 0) && (!a.2.2.2 || topB f.2.2.2.2.1)))) with
        | false => rfl
        | true =>
          simp only [Bool.and_eq_true, decide_eq_true_eq] at e
          omega
      simp only [Bool.or_eq_false_iff, decide_eq_false_iff_not] at h
      refine aw_skip (hK3 _ _ ?_)
      refine aw_sr rfl ?_  -- r8 @check.go:14
      simp only [go_sem, reduceIte, Nat.reduceEqDiff, Nat.reduceAdd, Nat.reduceMul, Nat.reduceSub, Nat.reduceLeDiff, Nat.reduceLT, reduceCtorEq, h14, h4, hgf, eFun]
      refine ⟨⟨hb0, hb1', hwf⟩, ?_⟩
      intro b5 hb5
      refine aw_box1 hb5 fun B3 hs3 h5 => ?_
      have h45 := hs3 _ _ h4
      have hsD := sub_trans hsC hs3
      have hA2 : actB c a = (!a.2.2.2 || topB f.2.2.2.2.1) := by
        rw [hA, decide_eq_true (show 0 ≤ a.2.1 by omega), decide_eq_true (show f.2.1 = a.2.1 by omega), decide_eq_true (show f.2.2.1 = 0 by omega)]; rfl
      refine aw_srq [(0,true),(1,true),(2,true),(3,true),(4,true),(5,true),(6,true),(7,true),(8,true),(9,true),(10,true),(11,true),(12,true),(13,true),(14,true),(15,true)] rfl rfl ?_  -- r9 @check.go:14
      obtain ⟨fn, fp, fh, fr, fi, fl⟩ := f
      obtain ⟨hfl, _⟩ := hokf
      simp only at hfl hA2 h5
      cases fi with
      | nil =>
        have hz : decide (((0 : Nat) : Int) = 0) = true := rfl
        simp only [go_sem, reduceIte, Nat.reduceEqDiff, Nat.reduceAdd, Nat.reduceMul, Nat.reduceSub, Nat.reduceLeDiff, Nat.reduceLT, reduceCtorEq, h45, h5, hz]
        repeat first | refine ⟨fun e => absurd e (by simp), ?_⟩ | refine ⟨by simp, ?_⟩
        refine aw_if rfl (fun h => ?_) (fun h => ?_)
        · refine aw_sr rfl ?_
          simp only [go_sem, reduceIte, Nat.reduceEqDiff, Nat.reduceAdd, Nat.reduceMul, Nat.reduceSub, Nat.reduceLeDiff, Nat.reduceLT, reduceCtorEq]
          refine aw_ret ⟨trivial, _, rfl, hbad ?_, hsD⟩
          have h : a.2.2.2 = true := by simpa using h
          rw [hA2, h]; rfl
        have h : a.2.2.2 = false := by simpa using h
        refine aw_skip ⟨(), hnext (by rw [hA2, h]; rfl), ?_, sub_trans hs2 hs3⟩
        simp only [go_sem, reduceIte, Nat.reduceEqDiff, Nat.reduceAdd, Nat.reduceMul, Nat.reduceSub, Nat.reduceLeDiff, Nat.reduceLT, reduceCtorEq]
      | cons x l =>
        have hgx : ((x :: l).map eIns).getD (Int.toNat 0) [] = eIns x := rfl
        simp only [List.length_cons] at hfl
        simp only [go_sem, reduceIte, Nat.reduceEqDiff, Nat.reduceAdd, Nat.reduceMul, Nat.reduceSub, Nat.reduceLeDiff, Nat.reduceLT, reduceCtorEq, h45, h5, hgx, eIns, List.length_cons]
        refine ⟨fun _ => ⟨by omega, by omega, wid_eIns (x :: l)⟩, ?_⟩
        refine aw_if rfl (fun h => ?_) (fun h => ?_)
        · refine aw_sr rfl ?_  -- r10 @check.go:15
          simp only [go_sem, reduceIte, Nat.reduceEqDiff, Nat.reduceAdd, Nat.reduceMul, Nat.reduceSub, Nat.reduceLeDiff, Nat.reduceLT, reduceCtorEq]
          refine aw_ret ⟨trivial, _, rfl, hbad ?_, hsD⟩
          simp only [Bool.and_eq_true, Bool.or_eq_true, decide_eq_true_eq] at h
          rw [hA2, h.1]
          have : ¬ x.1 = 16 := by omega
          simp [topB, this]
        refine aw_skip ⟨(), hnext ?_, ?_, sub_trans hs2 hs3⟩
        · rw [hA2]
          cases e : a.2.2.2 with
          | false => rfl
          | true =>
            rw [e] at h
            have h : x.1 = 16 := by
              simp only [Bool.true_and, Bool.or_eq_false_iff, decide_eq_false_iff_not] at h
              omega
            simp [topB, h]
        simp only [go_sem, reduceIte, Nat.reduceEqDiff, Nat.reduceAdd, Nat.reduceMul, Nat.reduceSub, Nat.reduceLeDiff, Nat.reduceLT, reduceCtorEq]
    · have hA : actB c a = false := by unfold actB; rw [ha]
      have hneg : ¬ (0 ≤ a.2.2.1 ∧ a.2.2.1 < (c.2.2.1.1.length : Int)) := fun e => by rw [withinB_pos e] at hw; cases hw
      have hdd : decide (a.2.2.1 < 0) = true ∨ (decide (a.2.2.1 < 0) = false ∧ decide ((c.2.2.1.1.length : Int) ≤ a.2.2.1) = true) := by
        simp only [decide_eq_true_eq, decide_eq_false_iff_not]; omega
      rcases getD_or eFun c.2.2.1.1 a.2.2.1.toNat with hg | ⟨d, hg⟩
      all_goals
        rcases hdd with d1 | ⟨d1, d2⟩
        · simp only [go_sem, reduceIte, Nat.reduceEqDiff, Nat.reduceAdd, Nat.reduceMul, Nat.reduceSub, Nat.reduceLeDiff, Nat.reduceLT, reduceCtorEq, h14, h4, hg, eFun, d1]
          repeat first | refine ⟨fun e => absurd e (by simp), ?_⟩ | refine ⟨by simp, ?_⟩
          refine aw_if (b := true) rfl (fun h => ?_) (fun h => by cases h)
          refine aw_sr rfl ?_
          simp only [go_sem, reduceIte, Nat.reduceEqDiff, Nat.reduceAdd, Nat.reduceMul, Nat.reduceSub, Nat.reduceLeDiff, Nat.reduceLT, reduceCtorEq]
          exact aw_ret ⟨trivial, _, rfl, hbad hA, hsC⟩
        · simp only [go_sem, reduceIte, Nat.reduceEqDiff, Nat.reduceAdd, Nat.reduceMul, Nat.reduceSub, Nat.reduceLeDiff, Nat.reduceLT, reduceCtorEq, h14, h4, hg, eFun, d1, d2]
          repeat first | refine ⟨fun e => absurd e (by simp), ?_⟩ | refine ⟨by simp, ?_⟩
          refine aw_if (b := true) rfl (fun h => ?_) (fun h => by cases h)
          refine aw_sr rfl ?_
          simp only [go_sem, reduceIte, Nat.reduceEqDiff, Nat.reduceAdd, Nat.reduceMul, Nat.reduceSub, Nat.reduceLeDiff, Nat.reduceLT, reduceCtorEq]
          exact aw_ret ⟨trivial, _, rfl, hbad hA, hsC⟩
  intro _ he
  rw [List.take_length] at he
  refine hK2 _ _ ?_
  have hF2 : ¬ c.2.2.2.1.1.all (actB c) = false := by rw [he]; decide
  refine aw_seq fun K4 hK4 => ?_
  refine aw_sr rfl ?_  -- r12 @check.go:18
  simp only [go_sem, reduceIte, Nat.reduceEqDiff, Nat.reduceAdd, Nat.reduceMul, Nat.reduceSub, Nat.reduceLeDiff, Nat.reduceLT, reduceCtorEq, h1]
  refine aw_range c.2.2.2.2.1.1.length (S := Unit) (fun i _ => [(1, .ptr b1 0), (104, .sl (c.2.2.2.2.1.1.map eImpD) c.2.2.2.2.1.2 .no)]) (fun _ _ => B1) (fun i _ => (c.2.2.2.2.1.1.take i).all (impB c) = true) () (by omega) ?_ (fun _ _ h => h) rfl rfl (fun _ _ => rfl) ?_ ?_ (by decide)
  · simp only [go_sem, reduceIte, Nat.reduceEqDiff, Nat.reduceAdd, Nat.reduceMul, Nat.reduceSub, Nat.reduceLeDiff, Nat.reduceLT, reduceCtorEq, Int.natCast_zero]
  · intro i _ hi he
    have hbad : impB c c.2.2.2.2.1.1[i] = false → Vle (oneOf [V.int .i64 3]) (.int .i64 (codeF c)) := by
      intro h
      rw [codeF, if_neg hF1, if_neg hF2, if_pos (allT_not hi h)]
      exact Vle.refl _
    have hnext := allT_next (q := impB c) he hi
    refine aw_sr rfl ?_  -- r14 @check.go:18
    simp only [go_sem, reduceIte, Nat.reduceEqDiff, Nat.reduceAdd, Nat.reduceMul, Nat.reduceSub, Nat.reduceLeDiff, Nat.reduceLT, reduceCtorEq, getD_map hi, eImpD]
    refine ⟨⟨by omega, by omega, hwi⟩, ?_⟩
    generalize c.2.2.2.2.1.1[i] = a at hbad hnext ⊢
    intro b7 hb7
    refine aw_box1 hb7 fun B2 hs2 h7 => ?_
    have h17 := hs2 _ _ h1
    refine aw_srq [(0,true),(1,true),(2,true),(3,true),(4,true),(5,true),(6,true),(7,true),(8,true),(9,true),(10,true),(11,true),(12,true),(13,true),(14,true),(15,true),(16,true),(17,true),(18,true),(19,true),(20,true)] rfl rfl ?_  -- r15 @check.go:19
    rcases atI_cases c.2.2.1.1 a.2.2 with ⟨hn, hw, hb0, hb1', ha⟩ | ⟨hw, ha⟩
    · have hA : impB c a = decide (c.2.2.1.1[a.2.2.toNat].2.2.1 = 0) := by unfold impB; rw [ha]
      simp only [go_sem, reduceIte, Nat.reduceEqDiff, Nat.reduceAdd, Nat.reduceMul, Nat.reduceSub, Nat.reduceLeDiff, Nat.reduceLT, reduceCtorEq, h17, h7, getD_map hn, eFun]
      refine ⟨fun _ => ⟨hb0, hb1', hwf⟩, ?_⟩
      refine aw_if rfl (fun h => ?_) (fun h => ?_)
      · refine aw_sr rfl ?_  -- r16 @check.go:20
        simp only [go_sem, reduceIte, Nat.reduceEqDiff, Nat.reduceAdd, Nat.reduceMul, Nat.reduceSub, Nat.reduceLeDiff, Nat.reduceLT, reduceCtorEq]
        refine aw_ret ⟨trivial, _, rfl, hbad ?_, sub_trans hsB hs2⟩
        simp only [Bool.or_eq_true, decide_eq_true_eq] at h
        rw [hA, decide_eq_false (by omega)]
      simp only [Bool.or_eq_false_iff, decide_eq_false_iff_not] at h
      refine aw_skip ⟨(), hnext ?_, ?_, hs2⟩
      · rw [hA, decide_eq_true (by omega)]
      simp only [go_sem, reduceIte, Nat.reduceEqDiff, Nat.reduceAdd, Nat.reduceMul, Nat.reduceSub, Nat.reduceLeDiff, Nat.reduceLT, reduceCtorEq]
    · have hA : impB c a = false := by unfold impB; rw [ha]
      have hneg : ¬ (0 ≤ a.2.2 ∧ a.2.2 < (c.2.2.1.1.length : Int)) := fun e => by rw [withinB_pos e] at hw; cases hw
      have hdd : decide (a.2.2 < 0) = true ∨ (decide (a.2.2 < 0) = false ∧ decide ((c.2.2.1.1.length : Int) ≤ a.2.2) = true) := by
        simp only [decide_eq_true_eq, decide_eq_false_iff_not]; omega
      rcases getD_or eFun c.2.2.1.1 a.2.2.toNat with hg | ⟨d, hg⟩
      all_goals
        rcases hdd with d1 | ⟨d1, d2⟩
        · simp only [go_sem, reduceIte, Nat.reduceEqDiff, Nat.reduceAdd, Nat.reduceMul, Nat.reduceSub, Nat.reduceLeDiff, Nat.reduceLT, reduceCtorEq, h17, h7, hg, eFun, d1]
          repeat first | refine ⟨fun e => absurd e (by simp), ?_⟩ | refine ⟨by simp, ?_⟩
          refine aw_if (b := true) rfl (fun h => ?_) (fun h => by cases h)
          refine aw_sr rfl ?_
          simp only [go_sem, reduceIte, Nat.reduceEqDiff, Nat.reduceAdd, Nat.reduceMul, Nat.reduceSub, Nat.reduceLeDiff, Nat.reduceLT, reduceCtorEq]
          exact aw_ret ⟨trivial, _, rfl, hbad hA, sub_trans hsB hs2⟩
        · simp only [go_sem, reduceIte, Nat.reduceEqDiff, Nat.reduceAdd, Nat.reduceMul, Nat.reduceSub, Nat.reduceLeDiff, Nat.reduceLT, reduceCtorEq, h17, h7, hg, eFun, d1, d2]
          repeat first | refine ⟨fun e => absurd e (by simp), ?_⟩ | refine ⟨by simp, ?_⟩
          refine aw_if (b := true) rfl (fun h => ?_) (fun h => by cases h)
          refine aw_sr rfl ?_
          simp only [go_sem, reduceIte, Nat.reduceEqDiff, Nat.reduceAdd, Nat.reduceMul, Nat.reduceSub, Nat.reduceLeDiff, Nat.reduceLT, reduceCtorEq]
          exact aw_ret ⟨trivial, _, rfl, hbad hA, sub_trans hsB hs2⟩
  intro _ he
  rw [List.take_length] at he
  refine hK4 _ _ ?_
  have hF3 : ¬ c.2.2.2.2.1.1.all (impB c) = false := by rw [he]; decide
  refine aw_seq fun K5 hK5 => ?_
  refine aw_sr rfl ?_  -- r18 @check.go:23
  simp only [go_sem, reduceIte, Nat.reduceEqDiff, Nat.reduceAdd, Nat.reduceMul, Nat.reduceSub, Nat.reduceLeDiff, Nat.reduceLT, reduceCtorEq, h1]
  refine aw_range c.2.2.2.2.2.1.1.length (S := Unit) (fun i _ => [(1, .ptr b1 0), (133, .sl (c.2.2.2.2.2.1.1.map eImpD) c.2.2.2.2.2.1.2 .no)]) (fun _ _ => B1) (fun i _ => (c.2.2.2.2.2.1.1.take i).all (fun m => decide (0 ≤ m.2.2)) = true) () (by omega) ?_ (fun _ _ h => h) rfl rfl (fun _ _ => rfl) ?_ ?_ (by decide)
  · simp only [go_sem, reduceIte, Nat.reduceEqDiff, Nat.reduceAdd, Nat.reduceMul, Nat.reduceSub, Nat.reduceLeDiff, Nat.reduceLT, reduceCtorEq, Int.natCast_zero]
  · intro i _ hi he
    have hbad : decide (0 ≤ c.2.2.2.2.2.1.1[i].2.2) = false → Vle (oneOf [V.int .i64 3]) (.int .i64 (codeF c)) := by
      intro h
      rw [codeF, if_neg hF1, if_neg hF2, if_neg hF3, if_pos (allT_not (q := fun m : ImpD => decide (0 ≤ m.2.2)) hi h)]
      exact Vle.refl _
    have hnext := allT_next (q := fun m : ImpD => decide (0 ≤ m.2.2)) he hi
    refine aw_sr rfl ?_  -- r20 @check.go:23
    simp only [go_sem, reduceIte, Nat.reduceEqDiff, Nat.reduceAdd, Nat.reduceMul, Nat.reduceSub, Nat.reduceLeDiff, Nat.reduceLT, reduceCtorEq, getD_map hi, eImpD]
    refine ⟨⟨by omega, by omega, hwm⟩, ?_⟩
    generalize c.2.2.2.2.2.1.1[i] = a at hbad hnext ⊢
    intro b9 hb9
    refine aw_box1 hb9 fun B2 hs2 h9 => ?_
    refine aw_sr rfl ?_  -- r21 @check.go:24
    simp only [go_sem, reduceIte, Nat.reduceEqDiff, Nat.reduceAdd, Nat.reduceMul, Nat.reduceSub, Nat.reduceLeDiff, Nat.reduceLT, reduceCtorEq, h9]
    refine aw_if rfl (fun h => ?_) (fun h => ?_)
    · refine aw_sr rfl ?_  -- r22 @check.go:25
      simp only [go_sem, reduceIte, Nat.reduceEqDiff, Nat.reduceAdd, Nat.reduceMul, Nat.reduceSub, Nat.reduceLeDiff, Nat.reduceLT, reduceCtorEq]
      rw [decide_eq_true_eq] at h
      exact aw_ret ⟨trivial, _, rfl, hbad (decide_eq_false (by omega)), sub_trans hsB hs2⟩
    rw [decide_eq_false_iff_not] at h
    refine aw_skip ⟨(), hnext (decide_eq_true (by omega)), ?_, hs2⟩
    simp only [go_sem, reduceIte, Nat.reduceEqDiff, Nat.reduceAdd, Nat.reduceMul, Nat.reduceSub, Nat.reduceLeDiff, Nat.reduceLT, reduceCtorEq]
  intro _ he
  rw [List.take_length] at he
  refine hK5 _ _ ?_
  have hF4 : ¬ c.2.2.2.2.2.1.1.all (fun m => decide (0 ≤ m.2.2)) = false := by rw [he]; decide
  have hF : codeF c = frst (funF c) c.2.2.1.1 := by rw [codeF, if_neg hF1, if_neg hF2, if_neg hF3, if_neg hF4]
  refine aw_seq fun K6 hK6 => ?_
  refine aw_sr rfl ?_  -- r24 @check.go:28
  simp only [go_sem, reduceIte, Nat.reduceEqDiff, Nat.reduceAdd, Nat.reduceMul, Nat.reduceSub, Nat.reduceLeDiff, Nat.reduceLT, reduceCtorEq, h1]
  refine aw_range c.2.2.1.1.length (S := Unit) (fun i _ => [(1, .ptr b1 0), (144, .sl (c.2.2.1.1.map eFun) c.2.2.1.2 .no)]) (fun _ _ => B1) (fun i _ => frst (funF c) (c.2.2.1.1.take i) = 0) () (by omega) ?_ (fun _ _ h => h) rfl rfl (fun _ _ => rfl) ?_ ?_ (by decide)
  · simp only [go_sem, reduceIte, Nat.reduceEqDiff, Nat.reduceAdd, Nat.reduceMul, Nat.reduceSub, Nat.reduceLeDiff, Nat.reduceLT, reduceCtorEq, Int.natCast_zero]
  · intro i _ hi he
    have hokf := hc.2.2.2.2.2.2.2.1 _ (List.getElem_mem hi)
    have hbad := frst_at (g := funF c) hi he
    have hnext := frst_take (g := funF c) hi he
    refine aw_sr rfl ?_  -- r26 @check.go:28
    simp only [go_sem, reduceIte, Nat.reduceEqDiff, Nat.reduceAdd, Nat.reduceMul, Nat.reduceSub, Nat.reduceLeDiff, Nat.reduceLT, reduceCtorEq, getD_map hi, eFun]
    refine ⟨⟨by omega, by omega, hwf⟩, ?_⟩
    generalize c.2.2.1.1[i] = f at hbad hnext hokf ⊢
    intro b11 hb11
    refine aw_box1 hb11 fun B2 hs2 h11 => ?_
    have h111 := hs2 _ _ h1
    refine aw_sr rfl ?_  -- r27 @check.go:29
    simp only [go_sem, reduceIte, Nat.reduceEqDiff, Nat.reduceAdd, Nat.reduceMul, Nat.reduceSub, Nat.reduceLeDiff, Nat.reduceLT, reduceCtorEq, h111, h11]
    refine goA_q (q_fun c hc f hokf) ?_
    simp only [go_sem, reduceIte, Nat.reduceEqDiff, Nat.reduceAdd, Nat.reduceMul, Nat.reduceSub, Nat.reduceLeDiff, Nat.reduceLT, reduceCtorEq]
    refine aw_sr rfl ?_  -- r28 @check.go:29
    simp only [go_sem, reduceIte, Nat.reduceEqDiff, Nat.reduceAdd, Nat.reduceMul, Nat.reduceSub, Nat.reduceLeDiff, Nat.reduceLT, reduceCtorEq]
    refine aw_if rfl (fun h => ?_) (fun h => ?_)
    · refine aw_sr rfl ?_  -- r29 @check.go:30
      simp only [go_sem, reduceIte, Nat.reduceEqDiff, Nat.reduceAdd, Nat.reduceMul, Nat.reduceSub, Nat.reduceLeDiff, Nat.reduceLT, reduceCtorEq]
      refine aw_ret ⟨trivial, _, rfl, ?_, sub_trans hsB hs2⟩
      rw [hF, hbad (by simpa using h)]
      exact Vle.refl _
    refine aw_skip ⟨(), hnext (by simpa using h), ?_, hs2⟩
    simp only [go_sem, reduceIte, Nat.reduceEqDiff, Nat.reduceAdd, Nat.reduceMul, Nat.reduceSub, Nat.reduceLeDiff, Nat.reduceLT, reduceCtorEq]
  intro _ he
  rw [List.take_length] at he
  refine hK6 _ _ ?_
  refine aw_sr rfl ?_  -- r31 @check.go:33
  simp only [go_sem, reduceIte, Nat.reduceEqDiff, Nat.reduceAdd, Nat.reduceMul, Nat.reduceSub, Nat.reduceLeDiff, Nat.reduceLT, reduceCtorEq]
  refine aw_ret ⟨trivial, _, rfl, ?_, hsB⟩
  rw [hF, he]
  exact Vle.refl _
end Go.Proofs.Ytkhgcikaojhknaa
