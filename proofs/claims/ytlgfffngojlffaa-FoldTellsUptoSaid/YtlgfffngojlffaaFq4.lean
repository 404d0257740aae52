/- Part 4 of a proof laid in parts; each part's own comment says what it proves and under which conditions. -/
import Derived.Test.YtlgfffngojlffaaFq3
/- api.Type, api.Pat, api.Expr as data; what is known of any of them of no more bulk than a statement allows. No conditions. -/
set_option linter.unusedSimpArgs false
set_option linter.unusedVariables false
namespace Go.Proofs.Ytlgfffngojlffaa
open Go.Proofs.YtlgfffngojlffaaV
set_option maxRecDepth 100000
/-! ### types -/
inductive Typ where
  | mk (kind : Int) (name : List UInt8) (args : List Typ) (nl : Bool)
namespace Typ
def kind : Typ → Int | mk k _ _ _ => k
def name : Typ → List UInt8 | mk _ n _ _ => n
def args : Typ → List Typ | mk _ _ a _ => a
def nl : Typ → Bool | mk _ _ _ b => b
end Typ
instance : Inhabited Typ := ⟨.mk 0 [] [] true⟩
mutual
def eTyp : Typ → List V | .mk k n ar nl => [.int .i64 k, .str n, .sl (eTyps ar) nl .no]
def eTyps : List Typ → List (List V) | [] => [] | v :: vs => eTyp v :: eTyps vs
end
mutual
def Typ.sz : Typ → Nat | .mk _ _ ar _ => 1 + tszs ar
def tszs : List Typ → Nat | [] => 0 | v :: vs => v.sz + tszs vs
end
theorem eTyps_map : ∀ vs, eTyps vs = vs.map eTyp
  | [] => rfl
  | v :: vs => by rw [eTyps, eTyps_map vs]; rfl
abbrev cTyp (v : Typ) : List V := [.int .i64 v.kind, .str v.name, .sl (v.args.map eTyp) v.nl .no]
theorem eTyp_eq (v : Typ) : eTyp v = cTyp v := by
  cases v; rw [eTyp, eTyps_map]; rfl
theorem tszs_mem {v : Typ} : ∀ {vs : List Typ}, v ∈ vs → v.sz ≤ tszs vs
  | u :: vs, h => by
    simp only [tszs]
    rcases List.mem_cons.1 h with rfl | h
    · omega
    · have := tszs_mem h; omega
theorem Typ.sz_eq (v : Typ) : v.sz = 1 + tszs v.args := by cases v; rw [Typ.sz]; rfl
theorem tszs_append : ∀ a b : List Typ, tszs (a ++ b) = tszs a + tszs b
  | [], b => by simp [tszs]
  | v :: a, b => by simp only [List.cons_append, tszs, tszs_append a b]; omega
theorem tszs_len : ∀ vs : List Typ, vs.length ≤ tszs vs
  | [] => by simp [tszs]
  | v :: vs => by have := tszs_len vs; have := v.sz_eq; simp only [tszs, List.length_cons]; omega
theorem Typ.sz_args {v a : Typ} (h : a ∈ v.args) : a.sz < v.sz := by have := tszs_mem h; have := v.sz_eq; omega
inductive OkTyp : Typ → Prop
  | mk {k : Int} {t : List UInt8} {ar : List Typ} {nl : Bool} (hk : IntKind.i64.min ≤ k ∧ k ≤ IntKind.i64.max) (ht : t.length ≤ bulk) (hnl : nl = true → ar = []) (hl : ar.length ≤ bulk) (ha : ∀ a ∈ ar, OkTyp a) : OkTyp (.mk k t ar nl)
theorem OkTyp.name {v : Typ} (h : OkTyp v) : v.name.length ≤ bulk := by cases h; assumption
theorem OkTyp.len {v : Typ} (h : OkTyp v) : v.args.length ≤ bulk := by cases h; assumption
theorem OkTyp.nil {v : Typ} (h : OkTyp v) : v.nl = true → v.args = [] := by cases h; assumption
theorem OkTyp.arg {v a : Typ} (h : OkTyp v) (ha : a ∈ v.args) : OkTyp a := by cases h; rename_i ha'; exact ha' a ha
theorem OkTyp.kind {v : Typ} (h : OkTyp v) : IntKind.i64.min ≤ v.kind ∧ v.kind ≤ IntKind.i64.max := by cases h; assumption
def oTyp (v : Typ) : Prop := OkTyp v ∧ v.sz ≤ bulk
theorem oTyp.arg {v a : Typ} (h : oTyp v) (ha : a ∈ v.args) : oTyp a := ⟨h.1.arg ha, Nat.le_trans (Nat.le_of_lt (Typ.sz_args ha)) h.2⟩
mutual
theorem tsz_le : ∀ v : Typ, v.sz ≤ vszL (eTyp v)
  | .mk k n ar nl => by have := tszs_le ar; simp only [Typ.sz, eTyp, vszL, vsz]; omega
theorem tszs_le : ∀ vs : List Typ, tszs vs ≤ vszLL (eTyps vs)
  | [] => by simp [tszs]
  | v :: vs => by have := tsz_le v; have := tszs_le vs; simp only [tszs, eTyps, vszLL]; omega
end
theorem pTyp (v : Typ) : 1 ≤ vszL (eTyp v) := by have := tsz_le v; have := v.sz_eq; omega
theorem dTyp0 : ∀ n, Dec Try.prog 45 eTyp OkTyp n := by
  intro n
  induction n using Nat.strongRecOn with
  | _ n ih =>
    intro cs hv hb
    obtain ⟨m, rfl, h⟩ := dec_struct (ts := [3, 9, 43]) (by kernel_rfl) hv
    obtain ⟨a0, r0, rfl, _, h0, a2, r2, rfl, _, h2, a3, r3, rfl, _, h3, rfl⟩ := h
    simp only [vszL_append] at hb
    obtain ⟨x0, rfl, q0⟩ := dec_int (n := m) (k := .i64) (by kernel_rfl) _ h0 (by omega)
    obtain ⟨x2, rfl, q2⟩ := dec_str (n := m) (by kernel_rfl) _ h2 (by omega)
    obtain ⟨x3, rfl, q3, q4, q5⟩ := dec_slice (n := m) (el := 45) (by kernel_rfl) pTyp (fun k hk => ih k (by omega)) _ h3 (by omega)
    exact ⟨.mk x0 x2 x3.1 x3.2, by rw [eTyp_eq]; rfl, .mk q0 q2 q3 q4 q5⟩
theorem dTyp (n : Nat) : Dec Try.prog 45 eTyp oTyp n := fun cs hv hb => by
  obtain ⟨x, rfl, h⟩ := dTyp0 n cs hv hb
  exact ⟨x, rfl, h, Nat.le_trans (tsz_le x) hb⟩
/-- Lists of types. -/
abbrev Typs := List Typ × Bool
def eTypL (x : Typs) : List V := [.sl (x.1.map eTyp) x.2 .no]
def oTypL (x : Typs) : Prop := (x.2 = true → x.1 = []) ∧ tszs x.1 ≤ bulk ∧ ∀ t ∈ x.1, OkTyp t
theorem pTypL (x : Typs) : 1 ≤ vszL (eTypL x) := by simp only [eTypL, vszL, vsz]; omega
theorem dTypL (n : Nat) : Dec Try.prog 43 eTypL oTypL n := fun cs hv hb => by
  obtain ⟨x, rfl, h1, h2, h3⟩ := dec_slice (el := 45) (by kernel_rfl) pTyp (fun k _ => dTyp0 k) cs hv hb
  refine ⟨x, rfl, h1, ?_, h3⟩
  have := tszs_le x.1
  rw [eTyps_map] at this
  simp only [vszL, vsz] at hb
  omega
theorem oTypL.mem {x : Typs} (h : oTypL x) {t : Typ} (ht : t ∈ x.1) : oTyp t := ⟨h.2.2 t ht, Nat.le_trans (tszs_mem ht) h.2.1⟩
theorem oTypL.len {x : Typs} (h : oTypL x) : x.1.length ≤ bulk := Nat.le_trans (tszs_len _) h.2.1
/-! ### patterns -/
inductive Pat where
  | mk (kind num : Int) (text : List UInt8) (args : List Pat) (nl : Bool)
namespace Pat
def kind : Pat → Int | mk k _ _ _ _ => k
def num : Pat → Int | mk _ n _ _ _ => n
def text : Pat → List UInt8 | mk _ _ t _ _ => t
def args : Pat → List Pat | mk _ _ _ a _ => a
def nl : Pat → Bool | mk _ _ _ _ b => b
end Pat
instance : Inhabited Pat := ⟨.mk 0 0 [] [] true⟩
mutual
def ePat : Pat → List V | .mk k n t ar nl => [.int .i64 k, .int .i64 n, .str t, .sl (ePats ar) nl .no]
def ePats : List Pat → List (List V) | [] => [] | v :: vs => ePat v :: ePats vs
end
mutual
def Pat.sz : Pat → Nat | .mk _ _ _ ar _ => 1 + pszs ar
def pszs : List Pat → Nat | [] => 0 | v :: vs => v.sz + pszs vs
end
theorem ePats_map : ∀ vs, ePats vs = vs.map ePat
  | [] => rfl
  | v :: vs => by rw [ePats, ePats_map vs]; rfl
abbrev cPat (v : Pat) : List V := [.int .i64 v.kind, .int .i64 v.num, .str v.text, .sl (v.args.map ePat) v.nl .no]
theorem ePat_eq (v : Pat) : ePat v = cPat v := by
  cases v; rw [ePat, ePats_map]; rfl
theorem pszs_mem {v : Pat} : ∀ {vs : List Pat}, v ∈ vs → v.sz ≤ pszs vs
  | u :: vs, h => by
    simp only [pszs]
    rcases List.mem_cons.1 h with rfl | h
    · omega
    · have := pszs_mem h; omega
theorem Pat.sz_eq (v : Pat) : v.sz = 1 + pszs v.args := by cases v; rw [Pat.sz]; rfl
theorem pszs_append : ∀ a b : List Pat, pszs (a ++ b) = pszs a + pszs b
  | [], b => by simp [pszs]
  | v :: a, b => by simp only [List.cons_append, pszs, pszs_append a b]; omega
theorem pszs_len : ∀ vs : List Pat, vs.length ≤ pszs vs
  | [] => by simp [pszs]
  | v :: vs => by have := pszs_len vs; have := v.sz_eq; simp only [pszs, List.length_cons]; omega
theorem Pat.sz_args {v a : Pat} (h : a ∈ v.args) : a.sz < v.sz := by have := pszs_mem h; have := v.sz_eq; omega
inductive OkPat : Pat → Prop
  | mk {k n : Int} {t : List UInt8} {ar : List Pat} {nl : Bool} (hk : IntKind.i64.min ≤ k ∧ k ≤ IntKind.i64.max) (hn : IntKind.i64.min ≤ n ∧ n ≤ IntKind.i64.max) (ht : t.length ≤ bulk) (hnl : nl = true → ar = []) (hl : ar.length ≤ bulk) (ha : ∀ a ∈ ar, OkPat a) : OkPat (.mk k n t ar nl)
theorem OkPat.text {v : Pat} (h : OkPat v) : v.text.length ≤ bulk := by cases h; assumption
theorem OkPat.len {v : Pat} (h : OkPat v) : v.args.length ≤ bulk := by cases h; assumption
theorem OkPat.arg {v a : Pat} (h : OkPat v) (ha : a ∈ v.args) : OkPat a := by cases h; rename_i ha'; exact ha' a ha
mutual
theorem psz_le : ∀ v : Pat, v.sz ≤ vszL (ePat v)
  | .mk k n t ar nl => by have := pszs_le ar; simp only [Pat.sz, ePat, vszL, vsz]; omega
theorem pszs_le : ∀ vs : List Pat, pszs vs ≤ vszLL (ePats vs)
  | [] => by simp [pszs]
  | v :: vs => by have := psz_le v; have := pszs_le vs; simp only [pszs, ePats, vszLL]; omega
end
theorem pPat (v : Pat) : 1 ≤ vszL (ePat v) := by have := psz_le v; have := v.sz_eq; omega
theorem dPat0 : ∀ n, Dec Try.prog 80 ePat OkPat n := by
  intro n
  induction n using Nat.strongRecOn with
  | _ n ih =>
    intro cs hv hb
    obtain ⟨m, rfl, h⟩ := dec_struct (ts := [3, 3, 9, 73]) (by kernel_rfl) hv
    obtain ⟨a0, r0, rfl, _, h0, a1, r1, rfl, _, h1, a2, r2, rfl, _, h2, a3, r3, rfl, _, h3, rfl⟩ := h
    simp only [vszL_append] at hb
    obtain ⟨x0, rfl, q0⟩ := dec_int (n := m) (k := .i64) (by kernel_rfl) _ h0 (by omega)
    obtain ⟨x1, rfl, q1⟩ := dec_int (n := m) (k := .i64) (by kernel_rfl) _ h1 (by omega)
    obtain ⟨x2, rfl, q2⟩ := dec_str (n := m) (by kernel_rfl) _ h2 (by omega)
    obtain ⟨x3, rfl, q3, q4, q5⟩ := dec_slice (n := m) (el := 80) (by kernel_rfl) pPat (fun k hk => ih k (by omega)) _ h3 (by omega)
    exact ⟨.mk x0 x1 x2 x3.1 x3.2, by rw [ePat_eq]; rfl, .mk q0 q1 q2 q3 q4 q5⟩
/-! ### expressions -/
def eNm (s : List UInt8) : List V := [.str s]
theorem pNm (s : List UInt8) : 1 ≤ vszL (eNm s) := by simp only [eNm, vszL, vsz]; omega
abbrev Nms := List (List UInt8) × Bool
def eNmL (x : Nms) : List V := [.sl (x.1.map eNm) x.2 .no]
def oNmL (x : Nms) : Prop := (x.2 = true → x.1 = []) ∧ x.1.length ≤ bulk ∧ ∀ s ∈ x.1, s.length ≤ bulk
theorem pNmL (x : Nms) : 1 ≤ vszL (eNmL x) := by simp only [eNmL, vszL, vsz]; omega
theorem dNmL (n : Nat) : Dec Try.prog 59 eNmL oNmL n := dec_slice (el := 9) (by kernel_rfl) pNm (fun k _ => dec_str (by kernel_rfl))
mutual
inductive Ex where
  | mk (kind num : Int) (text : List UInt8) (names : Nms) (types : Typs) (args : List Ex) (anl : Bool) (arms : List Arm) (mnl : Bool) (at_ : Int)
inductive Arm where
  | mk (pat : Pat) (body : Ex)
end
namespace Ex
def kind : Ex → Int | mk k _ _ _ _ _ _ _ _ _ => k
def num : Ex → Int | mk _ n _ _ _ _ _ _ _ _ => n
def text : Ex → List UInt8 | mk _ _ t _ _ _ _ _ _ _ => t
def names : Ex → Nms | mk _ _ _ n _ _ _ _ _ _ => n
def types : Ex → Typs | mk _ _ _ _ t _ _ _ _ _ => t
def args : Ex → List Ex | mk _ _ _ _ _ a _ _ _ _ => a
def anl : Ex → Bool | mk _ _ _ _ _ _ b _ _ _ => b
def arms : Ex → List Arm | mk _ _ _ _ _ _ _ m _ _ => m
def mnl : Ex → Bool | mk _ _ _ _ _ _ _ _ b _ => b
def pos : Ex → Int | mk _ _ _ _ _ _ _ _ _ a => a
end Ex
namespace Arm
def pat : Arm → Pat | mk p _ => p
def body : Arm → Ex | mk _ b => b
end Arm
instance : Inhabited Ex := ⟨.mk 0 0 [] ([], true) ([], true) [] true [] true 0⟩
mutual
def eEx : Ex → List V | .mk k n t nm ty ar anl ms mnl p => [.int .i64 k, .int .i64 n, .str t, .sl (nm.1.map eNm) nm.2 .no, .sl (ty.1.map eTyp) ty.2 .no, .sl (eExs ar) anl .no, .sl (eArms ms) mnl .no, .int .i64 p]
def eExs : List Ex → List (List V) | [] => [] | v :: vs => eEx v :: eExs vs
def eArm : Arm → List V | .mk p b => ePat p ++ eEx b
def eArms : List Arm → List (List V) | [] => [] | v :: vs => eArm v :: eArms vs
end
theorem eExs_map : ∀ vs, eExs vs = vs.map eEx
  | [] => rfl
  | v :: vs => by rw [eExs, eExs_map vs]; rfl
theorem eArms_map : ∀ vs, eArms vs = vs.map eArm
  | [] => rfl
  | v :: vs => by rw [eArms, eArms_map vs]; rfl
abbrev cEx (v : Ex) : List V := [.int .i64 v.kind, .int .i64 v.num, .str v.text, .sl (v.names.1.map eNm) v.names.2 .no, .sl (v.types.1.map eTyp) v.types.2 .no, .sl (v.args.map eEx) v.anl .no, .sl (v.arms.map eArm) v.mnl .no, .int .i64 v.pos]
theorem eEx_eq (v : Ex) : eEx v = cEx v := by
  cases v; rw [eEx, eExs_map, eArms_map]; rfl
theorem eArm_eq (m : Arm) : eArm m = cPat m.pat ++ cEx m.body := by
  cases m; rw [eArm, ePat_eq, eEx_eq]; rfl
mutual
def Ex.sz : Ex → Nat | .mk _ _ _ _ _ ar _ ms _ _ => 1 + exszs ar + amszs ms
def exszs : List Ex → Nat | [] => 0 | v :: vs => v.sz + exszs vs
def Arm.sz : Arm → Nat | .mk p b => p.sz + b.sz
def amszs : List Arm → Nat | [] => 0 | v :: vs => v.sz + amszs vs
end
theorem Ex.sz_eq (v : Ex) : v.sz = 1 + exszs v.args + amszs v.arms := by cases v; rw [Ex.sz]; rfl
theorem Arm.sz_eq (v : Arm) : v.sz = v.pat.sz + v.body.sz := by cases v; rw [Arm.sz]; rfl
theorem exszs_append : ∀ a b : List Ex, exszs (a ++ b) = exszs a + exszs b
  | [], b => by simp [exszs]
  | v :: a, b => by simp only [List.cons_append, exszs, exszs_append a b]; omega
theorem exszs_len : ∀ vs : List Ex, vs.length ≤ exszs vs
  | [] => by simp [exszs]
  | v :: vs => by have := exszs_len vs; have := v.sz_eq; simp only [exszs, List.length_cons]; omega
theorem amszs_len : ∀ vs : List Arm, vs.length ≤ amszs vs
  | [] => by simp [amszs]
  | v :: vs => by have := amszs_len vs; have := v.sz_eq; have := v.pat.sz_eq; simp only [amszs, List.length_cons]; omega
inductive OkEx : Ex → Prop
  | mk {k n : Int} {t : List UInt8} {nm : Nms} {ty : Typs} {ar : List Ex} {anl : Bool} {ms : List Arm} {mnl : Bool} {p : Int} (hk : IntKind.i64.min ≤ k ∧ k ≤ IntKind.i64.max) (hn : IntKind.i64.min ≤ n ∧ n ≤ IntKind.i64.max) (ht : t.length ≤ bulk) (hnm : oNmL nm) (hty : oTypL ty) (hnl : anl = true → ar = []) (hl : ar.length ≤ bulk) (ha : ∀ a ∈ ar, OkEx a) (hml : mnl = true → ms = []) (hmn : ms.length ≤ bulk) (hp : ∀ m ∈ ms, OkPat m.pat) (hm : ∀ m ∈ ms, OkEx m.body) (hat : IntKind.i64.min ≤ p ∧ p ≤ IntKind.i64.max) : OkEx (.mk k n t nm ty ar anl ms mnl p)
theorem OkEx.types {v : Ex} (h : OkEx v) : oTypL v.types := by cases h; assumption
theorem OkEx.names {v : Ex} (h : OkEx v) : oNmL v.names := by cases h; assumption
theorem OkEx.text {v : Ex} (h : OkEx v) : v.text.length ≤ bulk := by cases h; assumption
theorem OkEx.kind {v : Ex} (h : OkEx v) : IntKind.i64.min ≤ v.kind ∧ v.kind ≤ IntKind.i64.max := by cases h; assumption
theorem OkEx.num {v : Ex} (h : OkEx v) : IntKind.i64.min ≤ v.num ∧ v.num ≤ IntKind.i64.max := by cases h; assumption
theorem OkEx.pos {v : Ex} (h : OkEx v) : IntKind.i64.min ≤ v.pos ∧ v.pos ≤ IntKind.i64.max := by cases h; assumption
theorem OkEx.len {v : Ex} (h : OkEx v) : v.args.length ≤ bulk := by cases h; assumption
theorem OkEx.mlen {v : Ex} (h : OkEx v) : v.arms.length ≤ bulk := by cases h; assumption
theorem OkEx.nil {v : Ex} (h : OkEx v) : v.anl = true → v.args = [] := by cases h; assumption
theorem OkEx.arg {v a : Ex} (h : OkEx v) (ha : a ∈ v.args) : OkEx a := by cases h; rename_i ha' _ _ _ _ _; exact ha' a ha
theorem OkEx.pat {v : Ex} {m : Arm} (h : OkEx v) (hm : m ∈ v.arms) : OkPat m.pat := by cases h; rename_i h1 h2 h3; exact h1 m hm
theorem OkEx.body {v : Ex} {m : Arm} (h : OkEx v) (hm : m ∈ v.arms) : OkEx m.body := by cases h; rename_i h1 h2 h3; exact h2 m hm
def oEx (v : Ex) : Prop := OkEx v ∧ v.sz ≤ bulk
mutual
theorem exsz_le : ∀ v : Ex, v.sz ≤ vszL (eEx v)
  | .mk k n t nm ty ar anl ms mnl p => by have := exszs_le ar; have := amszs_le ms; simp only [Ex.sz, eEx, vszL, vsz]; omega
theorem exszs_le : ∀ vs : List Ex, exszs vs ≤ vszLL (eExs vs)
  | [] => by simp [exszs]
  | v :: vs => by have := exsz_le v; have := exszs_le vs; simp only [exszs, eExs, vszLL]; omega
theorem amsz_le : ∀ v : Arm, v.sz ≤ vszL (eArm v)
  | .mk p b => by have := psz_le p; have := exsz_le b; simp only [Arm.sz, eArm, vszL_append]; omega
theorem amszs_le : ∀ vs : List Arm, amszs vs ≤ vszLL (eArms vs)
  | [] => by simp [amszs]
  | v :: vs => by have := amsz_le v; have := amszs_le vs; simp only [amszs, eArms, vszLL]; omega
end
theorem pEx (v : Ex) : 1 ≤ vszL (eEx v) := by have := exsz_le v; have := v.sz_eq; omega
theorem pArm (v : Arm) : 1 ≤ vszL (eArm v) := by have := amsz_le v; have := v.sz_eq; have := v.pat.sz_eq; omega
theorem dEx0 : ∀ n, Dec Try.prog 63 eEx OkEx n := by
  intro n
  induction n using Nat.strongRecOn with
  | _ n ih =>
    intro cs hv hb
    obtain ⟨m, rfl, h⟩ := dec_struct (ts := [3, 3, 9, 59, 43, 60, 61, 3]) (by kernel_rfl) hv
    obtain ⟨a0, r0, rfl, _, h0, a1, r1, rfl, _, h1, a2, r2, rfl, _, h2, a3, r3, rfl, _, h3, a4, r4, rfl, _, h4, a5, r5, rfl, _, h5, a6, r6, rfl, _, h6, a7, r7, rfl, _, h7, rfl⟩ := h
    simp only [vszL_append] at hb
    obtain ⟨x0, rfl, q0⟩ := dec_int (n := m) (k := .i64) (by kernel_rfl) _ h0 (by omega)
    obtain ⟨x1, rfl, q1⟩ := dec_int (n := m) (k := .i64) (by kernel_rfl) _ h1 (by omega)
    obtain ⟨x2, rfl, q2⟩ := dec_str (n := m) (by kernel_rfl) _ h2 (by omega)
    obtain ⟨x3, rfl, q3⟩ := dNmL m _ h3 (by omega)
    obtain ⟨x4, rfl, q4⟩ := dTypL m _ h4 (by omega)
    obtain ⟨x5, rfl, q5, q6, q7⟩ := dec_slice (n := m) (el := 63) (by kernel_rfl) pEx (fun k hk => ih k (by omega)) _ h5 (by omega)
    obtain ⟨x6, rfl, q8, q9, q10⟩ := dec_slice (n := m) (el := 102) (e := eArm) (o := fun m => OkPat m.pat ∧ OkEx m.body) (by kernel_rfl) pArm (fun k hk => by
      intro cs hv hb
      obtain ⟨m2, rfl, h⟩ := dec_struct (ts := [80, 63]) (by kernel_rfl) hv
      obtain ⟨a0, r0, rfl, _, h0, a1, r1, rfl, _, h1, rfl⟩ := h
      simp only [vszL_append] at hb
      obtain ⟨x0, rfl, q0⟩ := dPat0 m2 _ h0 (by omega)
      obtain ⟨x1, rfl, q1⟩ := ih m2 (by omega) _ h1 (by omega)
      exact ⟨.mk x0 x1, by rw [eArm, List.append_nil], q0, q1⟩) _ h6 (by omega)
    obtain ⟨x7, rfl, q11⟩ := dec_int (n := m) (k := .i64) (by kernel_rfl) _ h7 (by omega)
    exact ⟨.mk x0 x1 x2 x3 x4 x5.1 x5.2 x6.1 x6.2 x7, by rw [eEx_eq]; rfl, .mk q0 q1 q2 q3 q4 q5 q6 q7 q8 q9 (fun m hm => (q10 m hm).1) (fun m hm => (q10 m hm).2) q11⟩
theorem dEx (n : Nat) : Dec Try.prog 63 eEx oEx n := fun cs hv hb => by
  obtain ⟨x, rfl, h⟩ := dEx0 n cs hv hb
  exact ⟨x, rfl, h, Nat.le_trans (exsz_le x) hb⟩
end Go.Proofs.Ytlgfffngojlffaa

/- slices.Index of texts: what it answers; the condition: fewer than 2^63 elements. -/
set_option linter.unusedSimpArgs false
set_option linter.unusedVariables false
namespace Go.Proofs.Ytlgfffngojlffaa
open Go.Proofs.YtlgfffngojlffaaV
set_option maxHeartbeats 400000
set_option maxRecDepth 100000
theorem q_IndexStr (xs : List (List UInt8)) (nl : Bool) (t : Tag) (s : List UInt8) (hx : (xs.length : Int) ≤ 9223372036854775807) :
    Quiet Try.prog 196 [.sl (xs.map eNm) nl t, .str s] (.int .i64 (ixI (xs.findIdx? fun x => decide (s = x)))) := by
  refine Quiet.weak fun G => ?_
  refine acall_body (rs := [.tmp 4]) Try.func196 rfl rfl Try.ntmps196 (by kernel_rfl) (Nat.le_of_ble_eq_true rfl) ?_
  refine aw_sr rfl ?_
  simp only [go_sem, reduceIte, Nat.reduceEqDiff, Nat.reduceAdd, Nat.reduceMul, Nat.reduceSub, Nat.reduceLeDiff, Nat.reduceLT, reduceCtorEq]
  refine aw_seq fun K1 hK1 => ?_
  refine aw_sr rfl ?_
  simp only [go_sem, reduceIte, Nat.reduceEqDiff, Nat.reduceAdd, Nat.reduceMul, Nat.reduceSub, Nat.reduceLeDiff, Nat.reduceLT, reduceCtorEq]
  refine aw_range xs.length (S := Unit) (fun _ _ => [(0, .sl (xs.map eNm) nl t), (1, .str s)]) (fun _ _ => G) (fun i _ => ∀ j (h : j < xs.length), j < i → decide (s = xs[j]) = false) () hx ?_ (fun _ _ h => h) (fun j _ h => absurd h (by omega)) rfl (fun _ _ => rfl) ?_ ?_ (by decide)
  · simp only [go_sem, reduceIte, Nat.reduceEqDiff, Nat.reduceAdd, Nat.reduceMul, Nat.reduceSub, Nat.reduceLeDiff, Nat.reduceLT, reduceCtorEq, Int.natCast_zero]
  · intro i _ hi he
    refine aw_sr rfl ?_
    simp only [go_sem, reduceIte, Nat.reduceEqDiff, Nat.reduceAdd, Nat.reduceMul, Nat.reduceSub, Nat.reduceLeDiff, Nat.reduceLT, reduceCtorEq]
    refine aw_sr rfl ?_
    simp only [go_sem, reduceIte, Nat.reduceEqDiff, Nat.reduceAdd, Nat.reduceMul, Nat.reduceSub, Nat.reduceLeDiff, Nat.reduceLT, reduceCtorEq, getD_map hi, eNm]
    refine ⟨⟨by omega, by omega, wid_map (g := eNm) (fun _ => rfl) _⟩, ?_⟩
    refine aw_if rfl (fun h => ?_) (fun h => ?_)
    · refine aw_sr rfl ?_
      simp only [go_sem, reduceIte, Nat.reduceEqDiff, Nat.reduceAdd, Nat.reduceMul, Nat.reduceSub, Nat.reduceLeDiff, Nat.reduceLT, reduceCtorEq]
      refine aw_ret ⟨trivial, _, rfl, ?_, fun _ _ h => h⟩
      rw [ixI_at hi h (fun j hj => he j (by omega) hj)]
      exact Vle.refl _
    · refine aw_skip ⟨(), fun j hj hlt => ?_, ?_, fun _ _ h => h⟩
      · by_cases e : j = i
        · subst e; exact h
        · exact he j hj (by omega)
      simp only [go_sem, reduceIte, Nat.reduceEqDiff, Nat.reduceAdd, Nat.reduceMul, Nat.reduceSub, Nat.reduceLeDiff, Nat.reduceLT, reduceCtorEq]
  · intro _ he
    refine hK1 _ _ ?_
    refine aw_sr rfl ?_
    simp only [go_sem, reduceIte, Nat.reduceEqDiff, Nat.reduceAdd, Nat.reduceMul, Nat.reduceSub, Nat.reduceLeDiff, Nat.reduceLT, reduceCtorEq]
    refine aw_ret ⟨trivial, _, rfl, ?_, fun _ _ h => h⟩
    rw [ixI_none (fun j hj => he j hj hj)]
    exact Vle.refl _
end Go.Proofs.Ytlgfffngojlffaa

/- Patterns of a code: how many nodes they have and how many names they bind, by both texts; operators. Conditions: the patterns are data of no more than 1048576 values and letters. -/
set_option linter.unusedSimpArgs false
set_option linter.unusedVariables false
namespace Go.Proofs.Ytlgfffngojlffaa
open Go.Proofs.YtlgfffngojlffaaV
set_option maxHeartbeats 400000
set_option maxRecDepth 100000
theorem wid_ePat (ps : List Pat) : wid 4 (ps.map ePat) := wid_map (g := ePat) (fun _ => by rw [ePat_eq]; rfl) _
theorem q_nodes : ∀ (n : Nat) (p : Pat) (most : Int), p.sz ≤ n → OkPat p → QI Try.prog 36 [.agg (cPat p), .int .i64 most] := by
  intro n
  induction n with
  | zero => intro p most h; have := p.sz_eq; omega
  | succ n ih =>
  intro p most hn hp
  have hpl : p.args.length ≤ 1048576 := hp.len
  refine QI.weak fun G => ?_
  refine acall_body (rs := [.tmp 4]) Try.func36 rfl rfl Try.ntmps36 (by kernel_rfl) (Nat.le_of_ble_eq_true rfl) ?_
  refine aw_sr rfl ?_  -- r0 @low.go:44
  simp only [go_sem, reduceIte, Nat.reduceEqDiff, Nat.reduceAdd, Nat.reduceMul, Nat.reduceSub, Nat.reduceLeDiff, Nat.reduceLT, reduceCtorEq]
  intro b2 hb2
  refine aw_box1 hb2 fun B1 hs1 h2 => ?_
  have hsB := hs1
  refine aw_sr rfl ?_  -- r1 @low.go:45
  simp only [go_sem, reduceIte, Nat.reduceEqDiff, Nat.reduceAdd, Nat.reduceMul, Nat.reduceSub, Nat.reduceLeDiff, Nat.reduceLT, reduceCtorEq]
  refine aw_seq fun K2 hK2 => ?_
  refine aw_sr rfl ?_  -- r2 @low.go:46
  simp only [go_sem, reduceIte, Nat.reduceEqDiff, Nat.reduceAdd, Nat.reduceMul, Nat.reduceSub, Nat.reduceLeDiff, Nat.reduceLT, reduceCtorEq, h2]
  refine aw_range p.args.length (S := Int) (fun i st => [(1, .int .i64 most), (5, .int .i64 st), (9, .sl (p.args.map ePat) p.nl .no)]) (fun _ _ => B1) (fun i _ => True) 1 (by omega) ?_ (fun _ _ h => h) trivial rfl (fun _ _ => rfl) ?_ ?_ (by decide)
  · simp only [go_sem, reduceIte, Nat.reduceEqDiff, Nat.reduceAdd, Nat.reduceMul, Nat.reduceSub, Nat.reduceLeDiff, Nat.reduceLT, reduceCtorEq, Int.natCast_zero]
  · intro i m0 hi he
    have ham : p.args[i] ∈ p.args := List.getElem_mem hi
    refine aw_sr rfl ?_  -- r4 @low.go:46
    simp only [go_sem, reduceIte, Nat.reduceEqDiff, Nat.reduceAdd, Nat.reduceMul, Nat.reduceSub, Nat.reduceLeDiff, Nat.reduceLT, reduceCtorEq, getD_map hi, ePat_eq]
    refine ⟨⟨by omega, by omega, wid_ePat _⟩, ?_⟩
    intro b7 hb7
    refine aw_box1 hb7 fun B2 hs2 h7 => ?_
    refine aw_seq fun K3 hK3 => ?_
    refine aw_sr rfl ?_  -- r5 @low.go:47
    simp only [go_sem, reduceIte, Nat.reduceEqDiff, Nat.reduceAdd, Nat.reduceMul, Nat.reduceSub, Nat.reduceLeDiff, Nat.reduceLT, reduceCtorEq]
    refine aw_if rfl (fun h => ?_) (fun h => ?_)
    · refine aw_sr rfl ?_  -- r6 @low.go:48
      simp only [go_sem, reduceIte, Nat.reduceEqDiff, Nat.reduceAdd, Nat.reduceMul, Nat.reduceSub, Nat.reduceLeDiff, Nat.reduceLT, reduceCtorEq]
      exact aw_ret ⟨trivial, _, rfl, ⟨_, Vle.refl _⟩, sub_trans hsB hs2⟩
    refine aw_skip (hK3 _ _ ?_)
    refine aw_rg rfl ?_  -- r7 @low.go:50
    simp only [go_sem, reduceIte, Nat.reduceEqDiff, Nat.reduceAdd, Nat.reduceMul, Nat.reduceSub, Nat.reduceLeDiff, Nat.reduceLT, reduceCtorEq, h7]
    refine goA_qi (ih p.args[i] _ (by have := Pat.sz_args ham; omega) (hp.arg ham)) fun m => ?_
    simp only [go_sem, reduceIte, Nat.reduceEqDiff, Nat.reduceAdd, Nat.reduceMul, Nat.reduceSub, Nat.reduceLeDiff, Nat.reduceLT, reduceCtorEq]
    refine ⟨IntKind.i64.wrap (m0 + m), ?_, hs2⟩
    simp only [go_sem, reduceIte, Nat.reduceEqDiff, Nat.reduceAdd, Nat.reduceMul, Nat.reduceSub, Nat.reduceLeDiff, Nat.reduceLT, reduceCtorEq]
  intro m0 he
  refine hK2 _ _ ?_
  refine aw_sr rfl ?_  -- r9 @low.go:52
  simp only [go_sem, reduceIte, Nat.reduceEqDiff, Nat.reduceAdd, Nat.reduceMul, Nat.reduceSub, Nat.reduceLeDiff, Nat.reduceLT, reduceCtorEq]
  exact aw_ret ⟨trivial, _, rfl, ⟨_, Vle.refl _⟩, hsB⟩
def oPat (v : Pat) : Prop := OkPat v ∧ v.sz ≤ bulk
theorem dPat (n : Nat) : Dec Try.prog 80 ePat oPat n := by
  intro cs hv hb
  obtain ⟨x, rfl, hx⟩ := dPat0 n cs hv hb
  exact ⟨x, rfl, hx, Nat.le_trans (psz_le x) hb⟩
mutual
/-- How many names a pattern binds. -/
def bindsF : Pat → Nat
  | .mk k _ _ ar _ => if k = 2 then 1 else if k = 6 then bindsFs ar else 0
def bindsFs : List Pat → Nat
  | [] => 0
  | p :: ps => bindsF p + bindsFs ps
end
theorem bindsF_eq (p : Pat) : bindsF p = if p.kind = 2 then 1 else if p.kind = 6 then bindsFs p.args else 0 := by cases p; rfl
theorem bindsFs_append : ∀ a b : List Pat, bindsFs (a ++ b) = bindsFs a + bindsFs b
  | [], b => by simp [bindsFs]
  | p :: a, b => by simp only [List.cons_append, bindsFs, bindsFs_append a b]; omega
mutual
theorem binds_le : ∀ p : Pat, bindsF p ≤ p.sz
  | .mk k n t ar nl => by
    rw [bindsF, Pat.sz]
    have := bindss_le ar
    split
    · omega
    · split <;> omega
theorem bindss_le : ∀ ps : List Pat, bindsFs ps ≤ pszs ps
  | [] => by simp [bindsFs]
  | p :: ps => by rw [bindsFs, pszs]; have := binds_le p; have := bindss_le ps; omega
end
/-! ### operators -/
def opNames : List (List UInt8) := [[43], [45], [42], [47], [37], [60], [61], [94], [110, 111, 116]]
/-- The number of an operator. -/
def opV : Option Nat → V
  | none => .tup [.int .i64 0, .int .i64 4]
  | some i => .tup [.int .i64 (i : Nat), .int .i64 0]
end Go.Proofs.Ytlgfffngojlffaa

/- The arguments of 'roadlaw1.FoldTells' as data; no conditions. -/
set_option linter.unusedVariables false
set_option linter.unusedSimpArgs false
set_option maxRecDepth 100000
namespace Go.Proofs.Ytlgfffngojlffaa.foldTells
open Go.RowKit Go.Proofs.YtlgfffngojlffaaV
abbrev e63 := eEx
abbrev o63 := oEx
theorem d63 (n : Nat) : Dec Try.prog 63 e63 o63 n := dEx n
theorem p63 (x : Ex) : 1 ≤ vszL (e63 x) := pEx x
theorem args {xs : List V} (h : TyAll Try.prog [63] xs) (hs : vszL xs ≤ 1048576) : ∃ (x0 : Ex), xs = [.agg (e63 x0)] ∧ o63 x0 := by
  obtain ⟨y0, r0, rfl, h0, rfl⟩ := h
  simp only [vszL] at hs
  obtain ⟨x0, rfl, q0⟩ := dec_agg (by kernel_rfl) d63 h0 (by show vsz _ ≤ 1048576; omega)
  exact ⟨x0, rfl, q0⟩
end Go.Proofs.Ytlgfffngojlffaa.foldTells

/- Expressions: how many arguments one needs; literals. No conditions but sizes. -/
set_option linter.unusedSimpArgs false
set_option linter.unusedVariables false
namespace Go.Proofs.Ytlgfffngojlffaa
open Go.Proofs.YtlgfffngojlffaaV
set_option maxHeartbeats 400000
set_option maxRecDepth 100000
abbrev isOne (k : Int) (vs : List Int) : Bool := vs.any (fun v => decide (k = v))
def needsF (k num : Int) (n : Nat) : Int :=
  if isOne k [1, 2, 3, 4, 5, 16] = true then 0
  else if isOne k [6, 15, 23] = true then 2
  else if isOne k [7] = true then 3
  else if isOne k [10, 13, 19, 20, 21, 22, 24, 25] = true then 1
  else if isOne k [18] = true then (if 0 ≤ num then 1 else 0)
  else if isOne k [11] = true then (if 1 ≤ n then (n : Int) else 1)
  else if isOne k [8, 9, 12, 14, 17] = true then n
  else -1
theorem ne_true {b : Bool} (h : b = false) : ¬ b = true := by rw [h]; decide
theorem q_Needs (e : Ex) : Quiet Try.prog 257 [.agg (cEx e)] (.int .i64 (needsF e.kind e.num e.args.length)) := by
  refine Quiet.weak fun G => ?_
  refine acall_body (rs := [.tmp 2]) Try.func257 rfl rfl Try.ntmps257 (by kernel_rfl) (Nat.le_of_ble_eq_true rfl) ?_
  refine aw_sr rfl ?_  -- r0 @tree.go:86
  simp only [go_sem, reduceIte, Nat.reduceEqDiff, Nat.reduceAdd, Nat.reduceMul, Nat.reduceSub, Nat.reduceLeDiff, Nat.reduceLT, reduceCtorEq]
  intro b1 hb1
  refine aw_box1 hb1 fun B1 hs1 h1 => ?_
  have hsB := hs1
  have hE : needsF e.kind e.num e.args.length = needsF e.kind e.num e.args.length := rfl
  conv at hE => lhs; unfold needsF
  refine aw_seq fun K1 hK1 => ?_
  refine aw_sr rfl ?_  -- r1 @tree.go:87
  simp only [go_sem, reduceIte, Nat.reduceEqDiff, Nat.reduceAdd, Nat.reduceMul, Nat.reduceSub, Nat.reduceLeDiff, Nat.reduceLT, reduceCtorEq, h1]
  refine aw_block ?_  -- 0
  refine aw_chain rfl rfl rfl rfl rfl ?_  -- t4 is one of [1, 2, 3, 4, 5, 16]
  refine aw_if rfl (fun h => ?_) (fun h => ?_)
  · rw [if_pos h] at hE
    refine aw_sr rfl ?_  -- r8 @tree.go:89
    simp only [go_sem, reduceIte, Nat.reduceEqDiff, Nat.reduceAdd, Nat.reduceMul, Nat.reduceSub, Nat.reduceLeDiff, Nat.reduceLT, reduceCtorEq]
    refine aw_ret ⟨trivial, _, rfl, ?_, hsB⟩
    rw [← hE]; exact Vle.refl _
  rw [if_neg (ne_true h)] at hE
  refine aw_chain rfl rfl rfl rfl rfl ?_  -- t4 is one of [6, 15, 23]
  refine aw_if rfl (fun h => ?_) (fun h => ?_)
  · rw [if_pos h] at hE
    refine aw_sr rfl ?_  -- r12 @tree.go:91
    simp only [go_sem, reduceIte, Nat.reduceEqDiff, Nat.reduceAdd, Nat.reduceMul, Nat.reduceSub, Nat.reduceLeDiff, Nat.reduceLT, reduceCtorEq]
    refine aw_ret ⟨trivial, _, rfl, ?_, hsB⟩
    rw [← hE]; exact Vle.refl _
  rw [if_neg (ne_true h)] at hE
  refine aw_chain rfl rfl rfl rfl rfl ?_  -- t4 is one of [7]
  refine aw_if rfl (fun h => ?_) (fun h => ?_)
  · rw [if_pos h] at hE
    refine aw_sr rfl ?_  -- r14 @tree.go:93
    simp only [go_sem, reduceIte, Nat.reduceEqDiff, Nat.reduceAdd, Nat.reduceMul, Nat.reduceSub, Nat.reduceLeDiff, Nat.reduceLT, reduceCtorEq]
    refine aw_ret ⟨trivial, _, rfl, ?_, hsB⟩
    rw [← hE]; exact Vle.refl _
  rw [if_neg (ne_true h)] at hE
  refine aw_chain rfl rfl rfl rfl rfl ?_  -- t4 is one of [10, 13, 19, 20, 21, 22, 24, 25]
  refine aw_if rfl (fun h => ?_) (fun h => ?_)
  · rw [if_pos h] at hE
    refine aw_sr rfl ?_  -- r23 @tree.go:95
    simp only [go_sem, reduceIte, Nat.reduceEqDiff, Nat.reduceAdd, Nat.reduceMul, Nat.reduceSub, Nat.reduceLeDiff, Nat.reduceLT, reduceCtorEq]
    refine aw_ret ⟨trivial, _, rfl, ?_, hsB⟩
    rw [← hE]; exact Vle.refl _
  rw [if_neg (ne_true h)] at hE
  refine aw_chain rfl rfl rfl rfl rfl ?_  -- t4 is one of [18]
  refine aw_if rfl (fun h => ?_) (fun h => ?_)
  · rw [if_pos h] at hE
    refine aw_seq fun K2 hK2 => ?_
    refine aw_sr rfl ?_  -- r25 @tree.go:97
    simp only [go_sem, reduceIte, Nat.reduceEqDiff, Nat.reduceAdd, Nat.reduceMul, Nat.reduceSub, Nat.reduceLeDiff, Nat.reduceLT, reduceCtorEq, h1]
    refine aw_if rfl (fun h => ?_) (fun h => ?_)
    · refine aw_sr rfl ?_  -- r26 @tree.go:98
      simp only [go_sem, reduceIte, Nat.reduceEqDiff, Nat.reduceAdd, Nat.reduceMul, Nat.reduceSub, Nat.reduceLeDiff, Nat.reduceLT, reduceCtorEq]
      refine aw_ret ⟨trivial, _, rfl, ?_, hsB⟩
      rw [← hE, if_pos (by simpa using h)]; exact Vle.refl _
    refine aw_skip (hK2 _ _ ?_)
    refine aw_sr rfl ?_  -- r27 @tree.go:100
    simp only [go_sem, reduceIte, Nat.reduceEqDiff, Nat.reduceAdd, Nat.reduceMul, Nat.reduceSub, Nat.reduceLeDiff, Nat.reduceLT, reduceCtorEq]
    refine aw_ret ⟨trivial, _, rfl, ?_, hsB⟩
    rw [← hE, if_neg (by simpa using h)]; exact Vle.refl _
  rw [if_neg (ne_true h)] at hE
  refine aw_chain rfl rfl rfl rfl rfl ?_  -- t4 is one of [11]
  refine aw_if rfl (fun h => ?_) (fun h => ?_)
  · rw [if_pos h] at hE
    refine aw_sr rfl ?_  -- r29 @tree.go:102
    simp only [go_sem, reduceIte, Nat.reduceEqDiff, Nat.reduceAdd, Nat.reduceMul, Nat.reduceSub, Nat.reduceLeDiff, Nat.reduceLT, reduceCtorEq, h1]
    refine aw_ret ⟨trivial, _, rfl, ?_, hsB⟩
    rw [← hE]
    show Vle (V.int .i64 (if (e.args.length : Int) > 1 then (e.args.length : Int) else 1)) _
    by_cases hn : (e.args.length : Int) > 1
    · rw [if_pos hn, if_pos (by omega)]; exact Vle.refl _
    · rw [if_neg hn]
      by_cases h1 : 1 ≤ e.args.length
      · rw [if_pos h1, show e.args.length = 1 by omega]; exact Vle.refl _
      · rw [if_neg h1]; exact Vle.refl _
  rw [if_neg (ne_true h)] at hE
  refine aw_chain rfl rfl rfl rfl rfl ?_  -- t4 is one of [8, 9, 12, 14, 17]
  refine aw_if rfl (fun h => ?_) (fun h => ?_)
  · rw [if_pos h] at hE
    refine aw_sr rfl ?_  -- r35 @tree.go:104
    simp only [go_sem, reduceIte, Nat.reduceEqDiff, Nat.reduceAdd, Nat.reduceMul, Nat.reduceSub, Nat.reduceLeDiff, Nat.reduceLT, reduceCtorEq, h1]
    refine aw_ret ⟨trivial, _, rfl, ?_, hsB⟩
    rw [← hE]; exact Vle.refl _
  rw [if_neg (ne_true h)] at hE
  refine aw_skip (hK1 _ _ ?_)
  refine aw_sr rfl ?_  -- r36 @tree.go:106
  simp only [go_sem, reduceIte, Nat.reduceEqDiff, Nat.reduceAdd, Nat.reduceMul, Nat.reduceSub, Nat.reduceLeDiff, Nat.reduceLT, reduceCtorEq]
  refine aw_ret ⟨trivial, _, rfl, ?_, hsB⟩
  rw [← hE]; exact Vle.refl _
end Go.Proofs.Ytlgfffngojlffaa

/- Arms out of numbers, by both texts: what they answer. Condition: fewer than 2^20 numbers. -/
set_option linter.unusedSimpArgs false
set_option linter.unusedVariables false
namespace Go.Proofs.Ytlgfffngojlffaa
open Go.Proofs.YtlgfffngojlffaaV
set_option maxHeartbeats 400000
set_option maxRecDepth 100000
def eI (n : Int) : List V := [.int .i64 n]
theorem wid_eI (xs : List Int) : wid 1 (xs.map eI) := wid_map (g := eI) (fun _ => rfl) _
theorem sca_eI (xs : List Int) : sca (xs.map eI) := sca_map (g := eI) (fun a x hx => by simp [eI] at hx; subst hx; rfl) _
abbrev Ar := Int × List Int
def eAr (a : Ar) : List V := [.int .i64 a.1, .sl (a.2.map eI) a.2.isEmpty .no]
theorem wid_eAr (xs : List Ar) : wid 2 (xs.map eAr) := wid_map (g := eAr) (fun _ => rfl) _
def gatN : Nat → List Int → Option (List Ar)
  | _, [] => some []
  | _, [_] => none
  | 0, _ :: _ :: _ => none
  | n + 1, a :: k :: l => if k < 0 ∨ (l.length : Int) < k then none else (gatN n (l.drop k.toNat)).map ((a, l.take k.toNat) :: ·)
theorem gatN_eq : ∀ (n m : Nat) (l : List Int), l.length ≤ n → l.length ≤ m → gatN n l = gatN m l
  | n, m, [], _, _ => by cases n <;> cases m <;> rfl
  | n, m, [_], _, _ => by cases n <;> cases m <;> rfl
  | 0, m, _ :: _ :: _, h, _ => by simp at h
  | n + 1, 0, _ :: _ :: _, _, h => by simp at h
  | n + 1, m + 1, a :: k :: l, h, h' => by
    rw [gatN, gatN]
    split
    · rfl
    · simp only [List.length_cons] at h h'
      rw [gatN_eq n m (l.drop k.toNat) (by rw [List.length_drop]; omega) (by rw [List.length_drop]; omega)]
/-- Arms spread out as numbers, taken together again. -/
def gatF (l : List Int) : Option (List Ar) := gatN l.length l
theorem gatF_nil : gatF [] = some [] := rfl
theorem gatF_one (a : Int) : gatF [a] = none := rfl
theorem gatF_bad {a k : Int} {l : List Int} (h : k < 0 ∨ (l.length : Int) < k) : gatF (a :: k :: l) = none := by
  show gatN (l.length + 1 + 1) _ = _
  rw [gatN, if_pos h]
theorem gatF_step {a k : Int} {l : List Int} (h : ¬ (k < 0 ∨ (l.length : Int) < k)) : gatF (a :: k :: l) = (gatF (l.drop k.toNat)).map ((a, l.take k.toNat) :: ·) := by
  show gatN (l.length + 1 + 1) _ = _
  rw [gatN, if_neg h, gatN_eq _ (l.drop k.toNat).length _ (by rw [List.length_drop]; omega) (Nat.le_refl _)]; rfl
def gatV (no yes : V) : Option (List Ar) → V
  | none => .tup [.sl [] true .no, no]
  | some l => .tup [.sl (l.map eAr) l.isEmpty .no, yes]
theorem take_eI (xs : List Int) (n : Nat) : (xs.map eI).take n = (xs.take n).map eI := by rw [List.map_take]
theorem drop_eI (xs : List Int) (n : Nat) : (xs.map eI).drop n = (xs.drop n).map eI := by rw [List.map_drop]
theorem getD_eI {xs : List Int} {i : Nat} (h : i < xs.length) : (xs.map eI).getD i [] = [.int .i64 xs[i]] := getD_map h
end Go.Proofs.Ytlgfffngojlffaa

/- What an instruction reads and writes, by both texts. Condition: fewer than 2^20 arguments. -/
set_option linter.unusedSimpArgs false
set_option linter.unusedVariables false
namespace Go.Proofs.Ytlgfffngojlffaa
open Go.Proofs.YtlgfffngojlffaaV
set_option maxHeartbeats 400000
set_option maxRecDepth 100000
abbrev cIns (op a b c : Int) (args : List Int) (nl : Bool) : List V := [.int .i64 op, .int .i64 a, .int .i64 b, .int .i64 c, .sl (args.map eI) nl .no]
theorem no_if {c : Bool} (h : c = false) : ¬ c = true := by rw [h]; exact Bool.false_ne_true
def ints (xs : List Int) : V := .sl (xs.map eI) xs.isEmpty .no
def readsF (op a b : Int) (args : List Int) : List Int :=
  if ([2, 20, 21] : List Int).any (fun v => decide (op = v)) = true then [b]
  else if ([4, 11, 18, 19, 23, 24, 25, 26, 27] : List Int).any (fun v => decide (op = v)) = true then [a]
  else if ([5, 6, 7, 8, 10, 12, 15] : List Int).any (fun v => decide (op = v)) = true then args
  else if ([9] : List Int).any (fun v => decide (op = v)) = true then b :: args
  else if ([13, 22] : List Int).any (fun v => decide (op = v)) = true then [a, b]
  else []
/-- The reference's shape of an operation. -/
def shapesF (op : Int) : List UInt8 × Bool × Bool :=
  if ([1, 14] : List Int).any (fun v => decide (op = v)) = true then ([], true, false)
  else if ([2, 20, 21] : List Int).any (fun v => decide (op = v)) = true then ([98], true, false)
  else if ([5, 6, 7, 8, 10, 12] : List Int).any (fun v => decide (op = v)) = true then ([42], true, false)
  else if ([9] : List Int).any (fun v => decide (op = v)) = true then ([98, 42], true, false)
  else if ([13, 22] : List Int).any (fun v => decide (op = v)) = true then ([97, 98], false, false)
  else if ([4, 11, 19, 23, 24, 26, 27] : List Int).any (fun v => decide (op = v)) = true then ([97], false, false)
  else if ([18, 25] : List Int).any (fun v => decide (op = v)) = true then ([97], false, true)
  else if ([15] : List Int).any (fun v => decide (op = v)) = true then ([42], false, true)
  else if ([17] : List Int).any (fun v => decide (op = v)) = true then ([], false, true)
  else ([], false, false)
def cShape (x : List UInt8 × Bool × Bool) : List V := [.str x.1, .bool x.2.1, .bool x.2.2]
theorem rd_out {vs : List Int} {op : Int} (h : vs.all (fun v => decide (1 ≤ v ∧ v ≤ 27)) = true) (ho : ¬ (1 ≤ op ∧ op ≤ 27)) : vs.any (fun v => decide (op = v)) = false := by
  rw [List.any_eq_false]
  intro v hv e
  rw [List.all_eq_true] at h
  have := h v hv
  simp only [decide_eq_true_eq] at this e
  exact ho (by omega)
theorem op_cases {p : Int → Prop} (op : Int) (h1 : p 1) (h2 : p 2) (h3 : p 3) (h4 : p 4) (h5 : p 5) (h6 : p 6) (h7 : p 7) (h8 : p 8) (h9 : p 9) (h10 : p 10) (h11 : p 11) (h12 : p 12) (h13 : p 13) (h14 : p 14) (h15 : p 15) (h16 : p 16) (h17 : p 17) (h18 : p 18) (h19 : p 19) (h20 : p 20) (h21 : p 21) (h22 : p 22) (h23 : p 23) (h24 : p 24) (h25 : p 25) (h26 : p 26) (h27 : p 27) (hn : ¬ (1 ≤ op ∧ op ≤ 27) → p op) : p op := by
  by_cases h : 1 ≤ op ∧ op ≤ 27
  · have : op = 1 ∨ op = 2 ∨ op = 3 ∨ op = 4 ∨ op = 5 ∨ op = 6 ∨ op = 7 ∨ op = 8 ∨ op = 9 ∨ op = 10 ∨ op = 11 ∨ op = 12 ∨ op = 13 ∨ op = 14 ∨ op = 15 ∨ op = 16 ∨ op = 17 ∨ op = 18 ∨ op = 19 ∨ op = 20 ∨ op = 21 ∨ op = 22 ∨ op = 23 ∨ op = 24 ∨ op = 25 ∨ op = 26 ∨ op = 27 := by omega
    rcases this with rfl | rfl | rfl | rfl | rfl | rfl | rfl | rfl | rfl | rfl | rfl | rfl | rfl | rfl | rfl | rfl | rfl | rfl | rfl | rfl | rfl | rfl | rfl | rfl | rfl | rfl | rfl <;> assumption
  · exact hn h
def letF (a b : Int) (args : List Int) (c : UInt8) : List Int := if c = 97 then [a] else if c = 98 then [b] else args
theorem shapes_out {op : Int} (h : ¬ (1 ≤ op ∧ op ≤ 27)) : shapesF op = ([], false, false) := by
  unfold shapesF
  simp only [rd_out (vs := [1, 14]) rfl h, rd_out (vs := [2, 20, 21]) rfl h, rd_out (vs := [5, 6, 7, 8, 10, 12]) rfl h, rd_out (vs := [9]) rfl h, rd_out (vs := [13, 22]) rfl h, rd_out (vs := [4, 11, 19, 23, 24, 26, 27]) rfl h, rd_out (vs := [18, 25]) rfl h, rd_out (vs := [15]) rfl h, rd_out (vs := [17]) rfl h, Bool.false_eq_true, if_false]
theorem reads_out {op a b : Int} {args : List Int} (h : ¬ (1 ≤ op ∧ op ≤ 27)) : readsF op a b args = [] := by
  unfold readsF
  simp only [rd_out (vs := [2, 20, 21]) rfl h, rd_out (vs := [4, 11, 18, 19, 23, 24, 25, 26, 27]) rfl h, rd_out (vs := [5, 6, 7, 8, 10, 12, 15]) rfl h, rd_out (vs := [9]) rfl h, rd_out (vs := [13, 22]) rfl h, Bool.false_eq_true, if_false]
theorem reads_same (op a b : Int) (args : List Int) : (shapesF op).1.flatMap (letF a b args) = readsF op a b args := by
  refine op_cases (p := fun op => (shapesF op).1.flatMap (letF a b args) = readsF op a b args) op ?_ ?_ ?_ ?_ ?_ ?_ ?_ ?_ ?_ ?_ ?_ ?_ ?_ ?_ ?_ ?_ ?_ ?_ ?_ ?_ ?_ ?_ ?_ ?_ ?_ ?_ ?_ (fun h => ?_)
  all_goals first | (rw [shapes_out h, reads_out h]; rfl) | (show List.flatMap _ _ = _; simp [shapesF, readsF, letF])
theorem ascii_shapes (op : Int) : ∀ c ∈ (shapesF op).1, c.toNat < 128 := by
  refine op_cases (p := fun op => ∀ c ∈ (shapesF op).1, c.toNat < 128) op ?_ ?_ ?_ ?_ ?_ ?_ ?_ ?_ ?_ ?_ ?_ ?_ ?_ ?_ ?_ ?_ ?_ ?_ ?_ ?_ ?_ ?_ ?_ ?_ ?_ ?_ ?_ (fun h => ?_)
  all_goals first | (rw [shapes_out h]; intro c hc; cases hc) | (simp [shapesF])
end Go.Proofs.Ytlgfffngojlffaa

/- What an instruction writes, its arms, and where it goes on, by both texts. Conditions: fewer than 2^20 arguments; a place of at most 2^40. -/
set_option linter.unusedSimpArgs false
set_option linter.unusedVariables false
namespace Go.Proofs.Ytlgfffngojlffaa
open Go.Proofs.YtlgfffngojlffaaV
set_option maxHeartbeats 400000
set_option maxRecDepth 100000
theorem isEmpty_app {A : Type} (a b : List A) : (a ++ b).isEmpty = (a.isEmpty && b.isEmpty) := by cases a <;> rfl
/-! ### Writes -/
def writesB (op : Int) : Bool := ([1, 2, 5, 6, 7, 8, 9, 10, 12, 14, 20, 21] : List Int).any (fun v => decide (op = v))
theorem writes_same (op : Int) : (shapesF op).2.1 = writesB op := by
  refine op_cases (p := fun op => (shapesF op).2.1 = writesB op) op ?_ ?_ ?_ ?_ ?_ ?_ ?_ ?_ ?_ ?_ ?_ ?_ ?_ ?_ ?_ ?_ ?_ ?_ ?_ ?_ ?_ ?_ ?_ ?_ ?_ ?_ ?_ (fun h => ?_)
  all_goals first | (rw [shapes_out h]; exact (rd_out (vs := [1, 2, 5, 6, 7, 8, 9, 10, 12, 14, 20, 21]) rfl h).symm) | decide
def writesF (op a : Int) : Int := if writesB op = true then a else -1
/-! ### Arms -/
def ars (xs : List Ar) : V := .sl (xs.map eAr) xs.isEmpty .no
def armsF (op : Int) (args : List Int) : List Ar := if op = 11 then (gatF args).getD [] else if op = 16 then (match args with | [] => [] | _ :: l => (gatF l).getD []) else []
theorem gatV_fst (no yes : V) (x : Option (List Ar)) : ∃ y, gatV no yes x = .tup [ars (x.getD []), y] := by
  cases x with
  | none => exact ⟨no, rfl⟩
  | some l => exact ⟨yes, rfl⟩
/-! ### Next -/
def firstA (op : Int) (args : List Int) : List Int := match args with | [] => [] | x :: _ => if op = 16 ∧ 0 ≤ x then [x] else []
def nextF (op a b c at_ : Int) (args : List Int) : List Int :=
  if op = 3 then [a] else if op = 4 then [at_ + 1, b] else if op = 27 then [at_ + 1, c]
  else if op = 11 ∨ op = 16 then firstA op args ++ (armsF op args).map (·.1)
  else if op = 15 ∨ op = 17 ∨ op = 18 ∨ op = 25 then [] else [at_ + 1]
theorem gat_len : ∀ (n : Nat) (l : List Int) (x : List Ar), gatN n l = some x → x.length ≤ l.length
  | n, [], x, h => by cases n <;> (simp [gatN] at h; subst h; simp)
  | n, [_], x, h => by cases n <;> simp [gatN] at h
  | 0, _ :: _ :: _, x, h => by simp [gatN] at h
  | n + 1, a :: k :: l, x, h => by
    rw [gatN] at h
    split at h
    · cases h
    · rw [Option.map_eq_some_iff] at h
      obtain ⟨y, hy, rfl⟩ := h
      have := gat_len n _ y hy
      rw [List.length_drop] at this
      simp only [List.length_cons]
      omega
theorem arms_len (op : Int) (args : List Int) : (armsF op args).length ≤ args.length := by
  have key : ∀ l : List Int, ((gatF l).getD []).length ≤ l.length := fun l => by
    cases h : gatF l with
    | none => simp
    | some x => exact gat_len _ _ _ h
  unfold armsF
  split
  · exact key args
  · split
    · split
      · simp
      · rename_i x l; have := key l; simp only [List.length_cons]; omega
    · simp
theorem first_len (op : Int) (args : List Int) : (firstA op args).length ≤ 1 := by
  unfold firstA; split
  · simp
  · split <;> simp
end Go.Proofs.Ytlgfffngojlffaa

/- Where an instruction goes on, by both texts. Conditions: fewer than 2^20 arguments; a place of at most 2^40. -/
set_option linter.unusedSimpArgs false
set_option linter.unusedVariables false
namespace Go.Proofs.Ytlgfffngojlffaa
open Go.Proofs.YtlgfffngojlffaaV
set_option maxHeartbeats 400000
set_option maxRecDepth 100000
theorem ends_same (op : Int) : (shapesF op).2.2 = true ↔ (op = 15 ∨ op = 17 ∨ op = 18 ∨ op = 25) := by
  refine op_cases (p := fun op => (shapesF op).2.2 = true ↔ (op = 15 ∨ op = 17 ∨ op = 18 ∨ op = 25)) op ?_ ?_ ?_ ?_ ?_ ?_ ?_ ?_ ?_ ?_ ?_ ?_ ?_ ?_ ?_ ?_ ?_ ?_ ?_ ?_ ?_ ?_ ?_ ?_ ?_ ?_ ?_ (fun h => ?_)
  all_goals first | (rw [shapes_out h]; simp; omega) | decide
end Go.Proofs.Ytlgfffngojlffaa

/- Lists of numbers and of arms, compared. Condition: fewer than 2^63 elements. -/
set_option linter.unusedSimpArgs false
set_option linter.unusedVariables false
namespace Go.Proofs.Ytlgfffngojlffaa
open Go.Proofs.YtlgfffngojlffaaV
set_option maxHeartbeats 400000
set_option maxRecDepth 100000
theorem q_EqualI (xs ys : List Int) (n1 n2 : Bool) (t1 t2 : Tag) (hx : (xs.length : Int) ≤ 9223372036854775807) : Quiet Try.prog 20 [.sl (xs.map eI) n1 t1, .sl (ys.map eI) n2 t2] (.bool (decide (xs = ys))) := by
  intro G
  refine acall_body (rs := [.tmp 4]) Try.func20 rfl rfl Try.ntmps20 (by kernel_rfl) (Nat.le_of_ble_eq_true rfl) ?_
  refine aw_sr rfl ?_
  simp only [go_sem, reduceIte, Nat.reduceEqDiff, Nat.reduceAdd, Nat.reduceMul, Nat.reduceSub, Nat.reduceLeDiff, Nat.reduceLT, reduceCtorEq]
  refine aw_seq fun K2 hK2 => ?_
  refine aw_sr rfl ?_
  simp only [go_sem, reduceIte, Nat.reduceEqDiff, Nat.reduceAdd, Nat.reduceMul, Nat.reduceSub, Nat.reduceLeDiff, Nat.reduceLT, reduceCtorEq]
  refine aw_if rfl (fun h => ?_) (fun h => ?_)
  · refine aw_sr rfl ?_
    simp only [go_sem, reduceIte, Nat.reduceEqDiff, Nat.reduceAdd, Nat.reduceMul, Nat.reduceSub, Nat.reduceLeDiff, Nat.reduceLT, reduceCtorEq]
    refine aw_ret ⟨trivial, _, rfl, ?_⟩
    simp only [decide_eq_true_eq, ne_eq, Int.natCast_inj] at h
    refine ⟨?_, rfl⟩
    rw [decide_eq_false (fun e => h (by rw [e]))]
    rfl
  · refine aw_skip (hK2 _ _ ?_)
    have hl : xs.length = ys.length := by simpa [Int.natCast_inj] using h
    refine aw_seq fun K3 hK3 => ?_
    refine aw_sr rfl ?_
    simp only [go_sem, reduceIte, Nat.reduceEqDiff, Nat.reduceAdd, Nat.reduceMul, Nat.reduceSub, Nat.reduceLeDiff, Nat.reduceLT, reduceCtorEq]
    refine aw_range xs.length (S := Unit) (fun _ _ => [(0, .sl (xs.map eI) n1 t1), (1, .sl (ys.map eI) n2 t2)]) (fun _ _ => G) (fun i _ => xs.take i = ys.take i) () hx ?_ (fun _ _ h => h) rfl rfl (fun _ _ => rfl) ?_ ?_ (by decide)
    · simp only [go_sem, reduceIte, Nat.reduceEqDiff, Nat.reduceAdd, Nat.reduceMul, Nat.reduceSub, Nat.reduceLeDiff, Nat.reduceLT, reduceCtorEq]
    · intro i _ hi he
      refine aw_sr rfl ?_
      simp only [go_sem, reduceIte, Nat.reduceEqDiff, Nat.reduceAdd, Nat.reduceMul, Nat.reduceSub, Nat.reduceLeDiff, Nat.reduceLT, reduceCtorEq]
      refine aw_srd [(0,true),(1,true),(2,true),(3,true),(4,true),(5,true),(6,true),(7,true),(8,true)] mixed rfl (by kernel_rfl) ?_
      simp only [go_sem, reduceIte, Nat.reduceEqDiff, Nat.reduceAdd, Nat.reduceMul, Nat.reduceSub, Nat.reduceLeDiff, Nat.reduceLT, reduceCtorEq, getD_map hi, getD_map (hl ▸ hi), eI]
      refine ⟨⟨by omega, by omega, wid_map (g := eI) (fun _ => rfl) _⟩, ⟨by omega, by omega, wid_map (g := eI) (fun _ => rfl) _⟩, ?_⟩
      refine aw_if rfl (fun h => ?_) (fun h => ?_)
      · refine aw_sr rfl ?_
        simp only [go_sem, reduceIte, Nat.reduceEqDiff, Nat.reduceAdd, Nat.reduceMul, Nat.reduceSub, Nat.reduceLeDiff, Nat.reduceLT, reduceCtorEq]
        refine aw_ret ⟨trivial, _, rfl, ?_⟩
        refine ⟨?_, rfl⟩
        have h : ¬ xs[i] = ys[i]'(hl ▸ hi) := by simpa using h
        rw [decide_eq_false (fun e => h (by subst e; rfl))]
        rfl
      · have h : xs[i] = ys[i]'(hl ▸ hi) := by simpa using h
        refine aw_skip ⟨(), ?_, ?_, fun _ _ h => h⟩
        · rw [List.take_succ_eq_append_getElem hi, List.take_succ_eq_append_getElem (hl ▸ hi), he, h]
        · simp only [go_sem, reduceIte, Nat.reduceEqDiff, Nat.reduceAdd, Nat.reduceMul, Nat.reduceSub, Nat.reduceLeDiff, Nat.reduceLT, reduceCtorEq]
    · intro _ he
      refine hK3 _ _ ?_
      refine aw_sr rfl ?_
      simp only [go_sem, reduceIte, Nat.reduceEqDiff, Nat.reduceAdd, Nat.reduceMul, Nat.reduceSub, Nat.reduceLeDiff, Nat.reduceLT, reduceCtorEq]
      refine aw_ret ⟨trivial, _, rfl, ?_⟩
      rw [List.take_length, hl, List.take_length] at he
      subst he
      rw [decide_eq_true rfl]
      exact ⟨rfl, rfl⟩
theorem eqF_same {A : Type} [DecidableEq A] : ∀ xs ys : List A, eqF (fun a b => decide (a = b)) xs ys = decide (xs = ys)
  | [], [] => rfl
  | [], _ :: _ => by simp [eqF]
  | _ :: _, [] => by simp [eqF]
  | x :: xs, y :: ys => by rw [eqF_cons, eqF_same xs ys]; simp
theorem gat_regs : ∀ (n : Nat) (l : List Int) (x : List Ar), gatN n l = some x → ∀ a ∈ x, a.2.length ≤ l.length
  | n, [], x, h => by cases n <;> (simp [gatN] at h; subst h; simp)
  | n, [_], x, h => by cases n <;> simp [gatN] at h
  | 0, _ :: _ :: _, x, h => by simp [gatN] at h
  | n + 1, a :: k :: l, x, h => by
    rw [gatN] at h
    split at h
    · cases h
    · rw [Option.map_eq_some_iff] at h
      obtain ⟨y, hy, rfl⟩ := h
      intro b hb
      simp only [List.length_cons]
      rcases List.mem_cons.1 hb with rfl | hb
      · rw [List.length_take]; omega
      · have := gat_regs n _ y hy b hb
        rw [List.length_drop] at this
        omega
theorem gatF_regs (l : List Int) : ∀ a ∈ (gatF l).getD [], a.2.length ≤ l.length := by
  cases h : gatF l with
  | none => simp
  | some x => exact gat_regs _ _ _ h
theorem gatF_len (l : List Int) : ((gatF l).getD []).length ≤ l.length := by
  cases h : gatF l with
  | none => simp
  | some x => exact gat_len _ _ _ h
theorem arms_regs (op : Int) (args : List Int) : ∀ a ∈ armsF op args, a.2.length ≤ args.length := by
  unfold armsF
  split
  · exact gatF_regs args
  · split
    · split
      · simp
      · rename_i x l; intro a ha; have := gatF_regs l a ha; simp only [List.length_cons]; omega
    · simp
end Go.Proofs.Ytlgfffngojlffaa

/- The registers that an instruction reads, as a slice of nobody else's. No conditions but sizes. -/
set_option linter.unusedSimpArgs false
set_option linter.unusedVariables false
namespace Go.Proofs.Ytlgfffngojlffaa
open Go.Proofs.YtlgfffngojlffaaV
set_option maxHeartbeats 400000
set_option maxRecDepth 100000
/-- A call that makes a slice; the room behind it is nobody else's. -/
def Made (P : Go.Program) (n : Nat) (g : Go.FuncId) (args : List V) (es : List (List V)) (nl : Bool) : Prop := ∀ G, ACall P g args (fun y G' => ∃ t, y = .sl es nl t ∧ Rm G G' n t ∧ Sub G G') G
theorem allT_next {A : Type} {q : A → Bool} {xs : List A} {i : Nat} (h : (xs.take i).all q = true) (hi : i < xs.length) (he : q xs[i] = true) : (xs.take (i + 1)).all q = true := by
  rw [List.take_succ_eq_append_getElem hi, List.all_append, h]; simp [he]
theorem allT_not {A : Type} {q : A → Bool} {xs : List A} {i : Nat} (hi : i < xs.length) (he : q xs[i] = false) : xs.all q = false := by
  rw [List.all_eq_false]; exact ⟨_, List.getElem_mem hi, by simp [he]⟩
theorem flat_len {A : Type} {g : A → List Int} {m : Nat} : ∀ {xs : List A}, (∀ a ∈ xs, (g a).length ≤ m) → (xs.flatMap g).length ≤ xs.length * m
  | [], _ => by simp
  | x :: xs, h => by
    have h1 := h x (by simp)
    have h2 := flat_len (xs := xs) (fun a ha => h a (by simp [ha]))
    rw [List.flatMap_cons, List.length_append, List.length_cons, Nat.add_mul]
    omega
end Go.Proofs.Ytlgfffngojlffaa

/- Free names of an expression. No conditions but sizes. -/
set_option linter.unusedSimpArgs false
set_option linter.unusedVariables false
namespace Go.Proofs.Ytlgfffngojlffaa
open Go.Proofs.YtlgfffngojlffaaV
set_option maxHeartbeats 400000
set_option maxRecDepth 100000
theorem isE_append {A : Type} (a b : List A) : (a ++ b).isEmpty = (a.isEmpty && b.isEmpty) := by cases a <;> simp
theorem wid_nm (l : List (List UInt8)) : wid 1 (l.map eNm) := wid_map (g := eNm) (fun _ => rfl) _
theorem wid_pat (l : List Pat) : wid 4 (l.map ePat) := wid_map (g := ePat) (fun _ => by simp [ePat_eq]) _
theorem wid_ex (l : List Ex) : wid 8 (l.map eEx) := wid_map (g := eEx) (fun _ => by simp [eEx_eq]) _
theorem wid_arm (l : List Arm) : wid 12 (l.map eArm) := wid_map (g := eArm) (fun _ => by simp [eArm_eq]) _
theorem q_ContainsS (xs : List (List UInt8)) (nl : Bool) (t : Tag) (s : List UInt8) (hx : (xs.length : Int) ≤ 9223372036854775807) : Quiet Try.prog 258 [.sl (xs.map eNm) nl t, .str s] (.bool (xs.any fun x => decide (s = x))) := by
  have hq := q_IndexStr xs nl t s hx
  refine Quiet.weak fun G => ?_
  refine acall_body (rs := [.tmp 4]) Try.func258 rfl rfl Try.ntmps258 (by kernel_rfl) (Nat.le_of_ble_eq_true rfl) ?_
  refine aw_sr rfl ?_  -- r0 @slices.go:117
  simp only [go_sem, reduceIte, Nat.reduceEqDiff, Nat.reduceAdd, Nat.reduceMul, Nat.reduceSub, Nat.reduceLeDiff, Nat.reduceLT, reduceCtorEq]
  refine aw_sr rfl ?_  -- r1 @slices.go:118
  simp only [go_sem, reduceIte, Nat.reduceEqDiff, Nat.reduceAdd, Nat.reduceMul, Nat.reduceSub, Nat.reduceLeDiff, Nat.reduceLT, reduceCtorEq]
  refine goA_q hq ?_
  simp only [go_sem, reduceIte, Nat.reduceEqDiff, Nat.reduceAdd, Nat.reduceMul, Nat.reduceSub, Nat.reduceLeDiff, Nat.reduceLT, reduceCtorEq]
  refine aw_ret ⟨trivial, _, rfl, ?_, sub_rfl⟩
  have e : decide (ixI (xs.findIdx? fun x => decide (s = x)) ≥ 0) = xs.any fun x => decide (s = x) := by
    cases h : xs.findIdx? fun x => decide (s = x) with
    | none =>
      rw [List.findIdx?_eq_none_iff] at h
      rw [List.any_eq_false.2 (fun x hx => by simpa using h x hx)]
      rfl
    | some i =>
      obtain ⟨h1, h2, _⟩ := List.findIdx?_eq_some_iff_getElem.1 h
      rw [List.any_eq_true.2 ⟨_, List.getElem_mem h1, h2⟩]
      simp [ixI]
  rw [← e]
  exact Vle.refl _
theorem sca_nm (l : List (List UInt8)) : sca (l.map eNm) := sca_map (g := eNm) (fun a x hx => by simp [eNm] at hx; subst hx; rfl) _
theorem m_CloneS (xs : List (List UInt8)) (nl : Bool) (t : Tag) (hl : xs.length ≤ 4398046511104) (hnl : nl = true → xs = []) : Made Try.prog 1 92 [.sl (xs.map eNm) nl t] (xs.map eNm) nl := by
  intro G
  refine acall_body (rs := [.tmp 2]) Try.func92 rfl rfl Try.ntmps92 (by kernel_rfl) (Nat.le_of_ble_eq_true rfl) ?_
  refine aw_sr rfl ?_  -- r0 @slices.go:355
  simp only [go_sem, reduceIte, Nat.reduceEqDiff, Nat.reduceAdd, Nat.reduceMul, Nat.reduceSub, Nat.reduceLeDiff, Nat.reduceLT, reduceCtorEq]
  refine aw_seq fun K1 hK1 => ?_
  refine aw_sr rfl ?_  -- r1 @slices.go:357
  simp only [go_sem, reduceIte, Nat.reduceEqDiff, Nat.reduceAdd, Nat.reduceMul, Nat.reduceSub, Nat.reduceLeDiff, Nat.reduceLT, reduceCtorEq]
  refine aw_if rfl (fun h => ?_) (fun h => ?_)
  · refine aw_sr rfl ?_  -- r2 @slices.go:358
    simp only [go_sem, reduceIte, Nat.reduceEqDiff, Nat.reduceAdd, Nat.reduceMul, Nat.reduceSub, Nat.reduceLeDiff, Nat.reduceLT, reduceCtorEq]
    refine aw_ret ⟨trivial, _, rfl, ?_⟩
    rw [hnl h, h]; exact ⟨.full, rfl, Rm.start _ _ _, sub_rfl⟩
  refine aw_skip (hK1 _ _ ?_)
  refine aw_sr rfl ?_  -- r3 @slices.go:362
  simp only [go_sem, reduceIte, Nat.reduceEqDiff, Nat.reduceAdd, Nat.reduceMul, Nat.reduceSub, Nat.reduceLeDiff, Nat.reduceLT, reduceCtorEq]
  refine goP_rm (G := G) (Rm.start _ _ _) sub_rfl ?_ fun t1 H1 hr1 hs1 hg1 => ?_
  · exact ⟨rfl, rfl, by decide, by simp [wid], wid_nm _, sca_nm _, by simp; omega, by simp; omega⟩
  simp only [go_sem, reduceIte, Nat.reduceEqDiff, Nat.reduceAdd, Nat.reduceMul, Nat.reduceSub, Nat.reduceLeDiff, Nat.reduceLT, reduceCtorEq]
  refine aw_ret ⟨trivial, _, rfl, ?_⟩
  have h : nl = false := by simpa using h
  rw [h]
  exact ⟨t1, rfl, hr1, hs1⟩
/-! ### names that a pattern binds -/
mutual
def boundF : Pat → List (List UInt8) | .mk k n t ar nl => if k = 2 then [t] else if k = 6 then boundsF ar else []
def boundsF : List Pat → List (List UInt8) | [] => [] | p :: ps => boundF p ++ boundsF ps
end
theorem boundF_eq (p : Pat) : boundF p = if p.kind = 2 then [p.text] else if p.kind = 6 then boundsF p.args else [] := by cases p; rw [boundF]; rfl
theorem boundsF_append : ∀ a b : List Pat, boundsF (a ++ b) = boundsF a ++ boundsF b
  | [], b => by simp [boundsF]
  | p :: a, b => by rw [List.cons_append, boundsF, boundsF, boundsF_append a b, List.append_assoc]
mutual
theorem boundF_len : ∀ p : Pat, (boundF p).length ≤ p.sz
  | .mk k n t ar nl => by
    have := boundsF_len ar
    rw [boundF, Pat.sz]
    split
    · simp
    · split
      · omega
      · simp
theorem boundsF_len : ∀ l : List Pat, (boundsF l).length ≤ pszs l
  | [] => by simp [boundsF]
  | p :: l => by have := boundF_len p; have := boundsF_len l; rw [boundsF, pszs, List.length_append]; omega
end
theorem pszs_take {l : List Pat} {i : Nat} : pszs (l.take i) ≤ pszs l := by
  have h := List.take_append_drop i l
  have h2 : pszs l = pszs (l.take i) + pszs (l.drop i) := by rw [← pszs_append, h]
  omega
theorem q_Bound : ∀ (n : Nat) (p : Pat), p.sz ≤ n → OkPat p → p.sz ≤ bulk → Quiet Try.prog 259 [.agg (cPat p)] (.sl ((boundF p).map eNm) (boundF p).isEmpty .no) := by
  intro n
  induction n with
  | zero => intro p h; have := p.sz_eq; omega
  | succ n ih =>
  intro p hn hp hsz
  have hlen := hp.len
  have g3 : bulk = 1048576 := rfl
  have hE := boundF_eq p
  refine Quiet.weak fun G => ?_
  refine acall_body (rs := [.tmp 2]) Try.func259 rfl rfl Try.ntmps259 (by kernel_rfl) (Nat.le_of_ble_eq_true rfl) ?_
  refine aw_sr rfl ?_  -- r0 @tree.go:71
  simp only [go_sem, reduceIte, Nat.reduceEqDiff, Nat.reduceAdd, Nat.reduceMul, Nat.reduceSub, Nat.reduceLeDiff, Nat.reduceLT, reduceCtorEq]
  intro b1 hb1
  refine aw_box1 hb1 fun B1 hs1 h1 => ?_
  have hsB := hs1
  refine aw_seq fun K6 hK6 => ?_
  refine aw_sr rfl ?_  -- r1 @tree.go:72
  simp only [go_sem, reduceIte, Nat.reduceEqDiff, Nat.reduceAdd, Nat.reduceMul, Nat.reduceSub, Nat.reduceLeDiff, Nat.reduceLT, reduceCtorEq, h1]
  refine aw_block ?_  -- 0
  refine aw_chain rfl rfl rfl rfl rfl ?_  -- t7 is one of [2]
  refine aw_if rfl (fun h => ?_) (fun h => ?_)
  · have hk : p.kind = 2 := by simpa using h
    rw [if_pos hk] at hE
    refine aw_sr rfl ?_  -- r3 @tree.go:74
    simp only [go_sem, reduceIte, Nat.reduceEqDiff, Nat.reduceAdd, Nat.reduceMul, Nat.reduceSub, Nat.reduceLeDiff, Nat.reduceLT, reduceCtorEq, h1]
    refine aw_ret ⟨trivial, _, rfl, ?_, hsB⟩
    rw [hE]; exact Vle.untag
  have hk2 : ¬ p.kind = 2 := by simpa using h
  rw [if_neg hk2] at hE
  refine aw_chain rfl rfl rfl rfl rfl ?_  -- t7 is one of [6]
  refine aw_if rfl (fun h => ?_) (fun h => ?_)
  · have hk : p.kind = 6 := by simpa using h
    rw [if_pos hk] at hE
    refine aw_sr rfl ?_  -- r5 @tree.go:76
    simp only [go_sem, reduceIte, Nat.reduceEqDiff, Nat.reduceAdd, Nat.reduceMul, Nat.reduceSub, Nat.reduceLeDiff, Nat.reduceLT, reduceCtorEq]
    refine aw_seq fun K7 hK7 => ?_
    refine aw_sr rfl ?_  -- r6 @tree.go:77
    simp only [go_sem, reduceIte, Nat.reduceEqDiff, Nat.reduceAdd, Nat.reduceMul, Nat.reduceSub, Nat.reduceLeDiff, Nat.reduceLT, reduceCtorEq, h1]
    refine aw_range p.args.length (S := Tag × Heap) (fun i s => [(3, .sl ((boundsF (p.args.take i)).map eNm) (boundsF (p.args.take i)).isEmpty s.1), (16, .sl (p.args.map ePat) p.nl .no)]) (fun _ s => s.2) (fun i s => Rm G s.2 1 s.1 ∧ Sub G s.2) (.full, B1) (by omega) ?_ (fun _ _ h => h) ⟨Rm.start _ _ _, hsB⟩ rfl (fun _ _ => rfl) ?_ ?_ (by decide)
    · simp only [go_sem, reduceIte, Nat.reduceEqDiff, Nat.reduceAdd, Nat.reduceMul, Nat.reduceSub, Nat.reduceLeDiff, Nat.reduceLT, reduceCtorEq, Int.natCast_zero, List.take_zero, boundsF, List.map_nil, List.isEmpty_nil]
    · intro i ⟨t, H⟩ hi ⟨hr, hs⟩
      simp only at hr hs ⊢
      have hm := List.getElem_mem hi
      have hsa := Pat.sz_args hm
      have hsu : boundsF (p.args.take (i + 1)) = boundsF (p.args.take i) ++ boundF p.args[i] := by
        rw [List.take_succ_eq_append_getElem hi, boundsF_append]; simp [boundsF]
      have hl1 := boundsF_len (p.args.take i)
      have hl2 := pszs_take (l := p.args) (i := i)
      have hl3 := boundF_len p.args[i]
      have hl4 := p.sz_eq
      have hop := hp.arg hm
      refine aw_sr rfl ?_  -- r8 @tree.go:77
      simp only [go_sem, reduceIte, Nat.reduceEqDiff, Nat.reduceAdd, Nat.reduceMul, Nat.reduceSub, Nat.reduceLeDiff, Nat.reduceLT, reduceCtorEq, getD_map hi, ePat_eq]
      refine ⟨⟨by omega, by omega, wid_pat _⟩, ?_⟩
      generalize p.args[i] = a at hsa hsu hl3 hop ⊢
      intro b5 hb5
      refine aw_box1 hb5 fun B2 hs2 h5 => ?_
      refine aw_rg rfl ?_  -- r9 @tree.go:78
      simp only [go_sem, reduceIte, Nat.reduceEqDiff, Nat.reduceAdd, Nat.reduceMul, Nat.reduceSub, Nat.reduceLeDiff, Nat.reduceLT, reduceCtorEq, h5]
      refine goA_q (ih a (by omega) hop (by omega)) ?_
      simp only [go_sem, reduceIte, Nat.reduceEqDiff, Nat.reduceAdd, Nat.reduceMul, Nat.reduceSub, Nat.reduceLeDiff, Nat.reduceLT, reduceCtorEq, h5]
      refine goP_rm (hr.sub hs2) (sub_trans hs hs2) ?_ fun t1 H1 hr1 hs1 hg1 => ?_
      · exact ⟨rfl, rfl, by decide, wid_nm _, wid_nm _, sca_nm _, by simp only [List.length_map]; omega, by simp only [List.length_map]; omega⟩
      simp only [go_sem, reduceIte, Nat.reduceEqDiff, Nat.reduceAdd, Nat.reduceMul, Nat.reduceSub, Nat.reduceLeDiff, Nat.reduceLT, reduceCtorEq]
      refine ⟨(t1, H1), ⟨hr1, hs1⟩, ⟨rfl, rfl, ?_, rfl⟩, sub_rfl⟩
      show some _ = some _
      rw [hsu, List.map_append, isE_append, List.isEmpty_map]
    intro ⟨t, H⟩ ⟨hr, hs⟩
    simp only at hr hs ⊢
    rw [List.take_length]
    refine hK7 _ _ ?_
    refine aw_sr rfl ?_  -- r11 @tree.go:80
    simp only [go_sem, reduceIte, Nat.reduceEqDiff, Nat.reduceAdd, Nat.reduceMul, Nat.reduceSub, Nat.reduceLeDiff, Nat.reduceLT, reduceCtorEq]
    refine aw_ret ⟨trivial, _, rfl, ?_, hs⟩
    rw [hE]; exact Vle.untag
  have hk6 : ¬ p.kind = 6 := by simpa using h
  rw [if_neg hk6] at hE
  refine aw_skip (hK6 _ _ ?_)
  refine aw_sr rfl ?_  -- r12 @tree.go:82
  simp only [go_sem, reduceIte, Nat.reduceEqDiff, Nat.reduceAdd, Nat.reduceMul, Nat.reduceSub, Nat.reduceLeDiff, Nat.reduceLT, reduceCtorEq]
  refine aw_ret ⟨trivial, _, rfl, ?_, hsB⟩
  rw [hE]; exact Vle.untag
end Go.Proofs.Ytlgfffngojlffaa

/- Free names of an expression, as the program finds them. No conditions but sizes. -/
set_option linter.unusedSimpArgs false
set_option linter.unusedVariables false
namespace Go.Proofs.Ytlgfffngojlffaa
open Go.Proofs.YtlgfffngojlffaaV
set_option maxHeartbeats 400000
set_option maxRecDepth 100000
abbrev Ns := List (List UInt8)
/-- Names that mean something within a part. -/
def innerF (k : Int) (t : List UInt8) (nm : Ns) (i : Nat) (ws : Ns) : Ns := if k = 10 then ws ++ nm else if k = 6 ∧ i = 1 then ws ++ [t] else ws
mutual
def freeF : Ex → Ns → Ns → Ns
  | .mk k num t nm ty ar anl ms mnl p, ws, os =>
    if needsF k num ar.length < 0 then os
    else if k = 5 then (if (ws.any fun x => decide (t = x)) = false ∧ (os.any fun x => decide (t = x)) = false then os ++ [t] else os)
    else if (ar.length : Int) < needsF k num ar.length then freesF 0 [] [] ws ar 0 ar.length os
    else if k = 13 ∨ k = 18 then freesM ws ms (freesF k t nm.1 ws ar 0 (needsF k num ar.length).toNat os) else freesF k t nm.1 ws ar 0 (needsF k num ar.length).toNat os
def freesF (k : Int) (t : List UInt8) (nm : Ns) (ws : Ns) : List Ex → Nat → Nat → Ns → Ns
  | [], _, _, os => os
  | x :: xs, i, n, os => if i < n then freesF k t nm ws xs (i + 1) n (freeF x (innerF k t nm i ws) os) else os
def freeA (ws : Ns) : Arm → Ns → Ns
  | .mk p b, os => freeF b (ws ++ boundF p) os
def freesM (ws : Ns) : List Arm → Ns → Ns
  | [], os => os
  | m :: ms, os => freesM ws ms (freeA ws m os)
end
theorem freeF_eq (e : Ex) (ws os : Ns) : freeF e ws os =
    if needsF e.kind e.num e.args.length < 0 then os
    else if e.kind = 5 then (if (ws.any fun x => decide (e.text = x)) = false ∧ (os.any fun x => decide (e.text = x)) = false then os ++ [e.text] else os)
    else if (e.args.length : Int) < needsF e.kind e.num e.args.length then freesF 0 [] [] ws e.args 0 e.args.length os
    else if e.kind = 13 ∨ e.kind = 18 then freesM ws e.arms (freesF e.kind e.text e.names.1 ws e.args 0 (needsF e.kind e.num e.args.length).toNat os) else freesF e.kind e.text e.names.1 ws e.args 0 (needsF e.kind e.num e.args.length).toNat os := by
  cases e; rw [freeF]; rfl
theorem freeA_eq (ws : Ns) (m : Arm) (os : Ns) : freeA ws m os = freeF m.body (ws ++ boundF m.pat) os := by cases m; rw [freeA]; rfl
mutual
theorem freeF_len : ∀ (e : Ex) (ws os : Ns), (freeF e ws os).length ≤ os.length + e.sz
  | .mk k num t nm ty ar anl ms mnl p, ws, os => by
    have h1 := freesF_len 0 [] [] ws ar 0 ar.length os
    have h2 := freesF_len k t nm.1 ws ar 0 (needsF k num ar.length).toNat os
    have h3 := freesM_len ws ms (freesF k t nm.1 ws ar 0 (needsF k num ar.length).toNat os)
    rw [freeF, Ex.sz]
    split
    · omega
    · split
      · split
        · simp only [List.length_append, List.length_cons, List.length_nil]; omega
        · omega
      · split
        · omega
        · split
          · omega
          · omega
theorem freesF_len (k : Int) (t : List UInt8) (nm : Ns) (ws : Ns) : ∀ (l : List Ex) (i n : Nat) (os : Ns), (freesF k t nm ws l i n os).length ≤ os.length + exszs l
  | [], _, _, os => by rw [freesF]; omega
  | x :: xs, i, n, os => by
    rw [freesF, exszs]
    split
    · have h1 := freeF_len x (innerF k t nm i ws) os
      have h2 := freesF_len k t nm ws xs (i + 1) n (freeF x (innerF k t nm i ws) os)
      omega
    · omega
theorem freeA_len (ws : Ns) : ∀ (m : Arm) (os : Ns), (freeA ws m os).length ≤ os.length + m.sz
  | .mk p b, os => by
    have h1 := freeF_len b (ws ++ boundF p) os
    rw [freeA, Arm.sz]; omega
theorem freesM_len (ws : Ns) : ∀ (l : List Arm) (os : Ns), (freesM ws l os).length ≤ os.length + amszs l
  | [], os => by rw [freesM]; omega
  | m :: ms, os => by
    rw [freesM, amszs]
    have h1 := freeA_len ws m os
    have h2 := freesM_len ws ms (freeA ws m os)
    omega
end
theorem freesF_next {k : Int} {t : List UInt8} {nm ws : Ns} {l : List Ex} {i n : Nat} {os : Ns} (hi : i < l.length) (hn : i < n) : freesF k t nm ws (l.drop i) i n os = freesF k t nm ws (l.drop (i + 1)) (i + 1) n (freeF l[i] (innerF k t nm i ws) os) := by
  rw [List.drop_eq_getElem_cons hi, freesF, if_pos hn]
theorem freesF_end {k : Int} {t : List UInt8} {nm ws : Ns} {l : List Ex} {n : Nat} {os : Ns} : freesF k t nm ws (l.drop n) n n os = os := by
  cases l.drop n with
  | nil => rw [freesF]
  | cons x xs => rw [freesF, if_neg (Nat.lt_irrefl _)]
theorem freesM_next {ws : Ns} {l : List Arm} {i : Nat} {os : Ns} (hi : i < l.length) : freesM ws (l.drop i) os = freesM ws (l.drop (i + 1)) (freeA ws l[i] os) := by
  rw [List.drop_eq_getElem_cons hi, freesM]
theorem exszs_drop {l : List Ex} {i : Nat} (hi : i < l.length) : exszs (l.drop i) = l[i].sz + exszs (l.drop (i + 1)) := by
  rw [List.drop_eq_getElem_cons hi, exszs]
theorem amszs_drop {l : List Arm} {i : Nat} (hi : i < l.length) : amszs (l.drop i) = l[i].sz + amszs (l.drop (i + 1)) := by
  rw [List.drop_eq_getElem_cons hi, amszs]
theorem exszs_mem {v : Ex} : ∀ {vs : List Ex}, v ∈ vs → v.sz ≤ exszs vs
  | u :: vs, h => by
    simp only [exszs]
    rcases List.mem_cons.1 h with rfl | h
    · omega
    · have := exszs_mem h; omega
theorem amszs_mem {v : Arm} : ∀ {vs : List Arm}, v ∈ vs → v.sz ≤ amszs vs
  | u :: vs, h => by
    simp only [amszs]
    rcases List.mem_cons.1 h with rfl | h
    · omega
    · have := amszs_mem h; omega
theorem Ex.sz_arg {v a : Ex} (h : a ∈ v.args) : a.sz < v.sz := by have := exszs_mem h; have := v.sz_eq; omega
theorem Ex.sz_arm {v : Ex} {m : Arm} (h : m ∈ v.arms) : m.pat.sz + m.body.sz < v.sz := by have := amszs_mem h; have := v.sz_eq; have := m.sz_eq; omega
theorem room_ws {a e w : Nat} (h : a < e) (hw : w + e * 2097152 ≤ 4398046511104) : w + 1048576 + a * 2097152 ≤ 4398046511104 := by omega
theorem needs_le (k num : Int) (n : Nat) : needsF k num n ≤ 3 ∨ needsF k num n ≤ n := by
  unfold needsF
  repeat' split
  all_goals omega
theorem a_free : ∀ (n : Nat) (e : Ex), e.sz ≤ n → OkEx e → e.sz ≤ bulk → ∀ (ws os : Ns) (tw t : Tag) (G0 G : Heap), ws.length + e.sz * 2097152 ≤ 4398046511104 → os.length + e.sz ≤ 4398046511104 → Rm G0 G 1 t → Sub G0 G →
    ACall Try.prog 206 [.agg (cEx e), .sl (ws.map eNm) ws.isEmpty tw, .sl (os.map eNm) os.isEmpty t] (fun y G' => ∃ t', y = .sl ((freeF e ws os).map eNm) (freeF e ws os).isEmpty t' ∧ Rm G0 G' 1 t' ∧ Sub G0 G' ∧ Stable G G') G := by
  intro n
  induction n with
  | zero => intro e h; have := e.sz_eq; omega
  | succ n ih =>
  intro e hn he hsz ws os tw t G0 G hw ho hr hs
  have hlen := he.len
  have hml := he.mlen
  have hsq := e.sz_eq
  have hnm := he.names.2.1
  have g3 : bulk = 1048576 := rfl
  have hE := freeF_eq e ws os
  refine acall_body (rs := [.tmp 6]) Try.func206 rfl rfl Try.ntmps206 (by kernel_rfl) (Nat.le_of_ble_eq_true rfl) ?_
  refine aw_sr rfl ?_  -- r0 @tree.go:113
  simp only [go_sem, reduceIte, Nat.reduceEqDiff, Nat.reduceAdd, Nat.reduceMul, Nat.reduceSub, Nat.reduceLeDiff, Nat.reduceLT, reduceCtorEq]
  intro b3 hb3
  refine aw_box1 hb3 fun B1 hs1 h3 => ?_
  have hst : Stable G B1 := fun b o h _ => hs1 b o h
  replace hr := hr.sub hs1
  have hsB := sub_trans hs hs1
  refine aw_sr rfl ?_  -- r1 @tree.go:114
  simp only [go_sem, reduceIte, Nat.reduceEqDiff, Nat.reduceAdd, Nat.reduceMul, Nat.reduceSub, Nat.reduceLeDiff, Nat.reduceLT, reduceCtorEq, h3]
  refine goA_q (q_Needs e) ?_
  have hnl := needs_le e.kind e.num e.args.length
  simp only [go_sem, reduceIte, Nat.reduceEqDiff, Nat.reduceAdd, Nat.reduceMul, Nat.reduceSub, Nat.reduceLeDiff, Nat.reduceLT, reduceCtorEq, h3]
  refine aw_seq fun K3 hK3 => ?_
  refine aw_block ?_  -- 0
  refine aw_sr rfl ?_  -- r2 @tree.go:116
  simp only [go_sem, reduceIte, Nat.reduceEqDiff, Nat.reduceAdd, Nat.reduceMul, Nat.reduceSub, Nat.reduceLeDiff, Nat.reduceLT, reduceCtorEq]
  refine aw_if rfl (fun h => ?_) (fun h => ?_)
  · have h : needsF e.kind e.num e.args.length < 0 := by simpa using h
    rw [if_pos h] at hE
    refine aw_sr rfl ?_  -- r3 @tree.go:117
    simp only [go_sem, reduceIte, Nat.reduceEqDiff, Nat.reduceAdd, Nat.reduceMul, Nat.reduceSub, Nat.reduceLeDiff, Nat.reduceLT, reduceCtorEq]
    refine aw_ret ⟨trivial, _, rfl, t, ?_, hr, hsB, hst⟩
    rw [hE]; rfl
  have hn0 : ¬ needsF e.kind e.num e.args.length < 0 := by simpa using h
  rw [if_neg hn0] at hE
  refine aw_sr rfl ?_  -- r4 @tree.go:118
  simp only [go_sem, reduceIte, Nat.reduceEqDiff, Nat.reduceAdd, Nat.reduceMul, Nat.reduceSub, Nat.reduceLeDiff, Nat.reduceLT, reduceCtorEq, h3]
  refine aw_if rfl (fun h => ?_) (fun h => ?_)
  · have h : e.kind = 5 := by simpa using h
    rw [if_pos h] at hE
    refine aw_mid (fun f' G' => ∃ t', FSub [(2, .sl ((freeF e ws os).map eNm) (freeF e ws os).isEmpty t')] f' ∧ Rm G0 G' 1 t' ∧ Sub G0 G' ∧ Stable G G') ?_ ?_
    · refine aw_sr rfl ?_  -- r5 @tree.go:119
      simp only [go_sem, reduceIte, Nat.reduceEqDiff, Nat.reduceAdd, Nat.reduceMul, Nat.reduceSub, Nat.reduceLeDiff, Nat.reduceLT, reduceCtorEq, h3]
      refine goA_q (q_ContainsS ws _ _ _ (by omega)) ?_
      simp only [go_sem, reduceIte, Nat.reduceEqDiff, Nat.reduceAdd, Nat.reduceMul, Nat.reduceSub, Nat.reduceLeDiff, Nat.reduceLT, reduceCtorEq, h3]
      refine goH_q (fun hg => q_ContainsS os _ _ _ (by omega)) ?_
      simp only [go_sem, reduceIte, Nat.reduceEqDiff, Nat.reduceAdd, Nat.reduceMul, Nat.reduceSub, Nat.reduceLeDiff, Nat.reduceLT, reduceCtorEq, h3]
      refine aw_if rfl (fun h => ?_) (fun h => ?_)
      · have h : (ws.any fun x => decide (e.text = x)) = false ∧ (os.any fun x => decide (e.text = x)) = false := by simpa using h
        rw [if_pos h] at hE
        refine aw_rg rfl ?_  -- r6 @tree.go:120
        simp only [go_sem, reduceIte, Nat.reduceEqDiff, Nat.reduceAdd, Nat.reduceMul, Nat.reduceSub, Nat.reduceLeDiff, Nat.reduceLT, reduceCtorEq, h3]
        refine goP_rm hr hsB ?_ fun t1 H1 hr1 hs1 hg1 => ?_
        · exact ⟨rfl, rfl, by decide, wid_nm _, wid_one rfl, by simp [sca, scalarV], by simp only [List.length_map, List.length_cons, List.length_nil]; omega, by simp only [List.length_map, List.length_cons, List.length_nil]; omega⟩
        simp only [go_sem, reduceIte, Nat.reduceEqDiff, Nat.reduceAdd, Nat.reduceMul, Nat.reduceSub, Nat.reduceLeDiff, Nat.reduceLT, reduceCtorEq]
        refine ⟨t1, ?_, hr1, hs1, hst.trans hg1.1⟩
        rw [hE, List.map_append, isE_append, show [e.text].isEmpty = false from rfl, Bool.and_false]
        rfl
      · have h : ¬ ((ws.any fun x => decide (e.text = x)) = false ∧ (os.any fun x => decide (e.text = x)) = false) := by simpa using h
        rw [if_neg h] at hE
        refine aw_skip ⟨t, ?_, hr, hsB, hst⟩
        rw [hE]
        simp only [go_sem, reduceIte, Nat.reduceEqDiff, Nat.reduceAdd, Nat.reduceMul, Nat.reduceSub, Nat.reduceLeDiff, Nat.reduceLT, reduceCtorEq]
    intro f' G' ⟨t', hf, hr', hs', hst'⟩
    refine AW.of_fsub hf ?_
    refine aw_sr rfl ?_  -- r7 @tree.go:122
    simp only [go_sem, reduceIte, Nat.reduceEqDiff, Nat.reduceAdd, Nat.reduceMul, Nat.reduceSub, Nat.reduceLeDiff, Nat.reduceLT, reduceCtorEq]
    exact aw_ret ⟨trivial, _, rfl, t', rfl, hr', hs', hst'⟩
  have hk5 : ¬ e.kind = 5 := by simpa using h
  rw [if_neg hk5] at hE
  refine aw_sr rfl ?_  -- r8 @tree.go:123
  simp only [go_sem, reduceIte, Nat.reduceEqDiff, Nat.reduceAdd, Nat.reduceMul, Nat.reduceSub, Nat.reduceLeDiff, Nat.reduceLT, reduceCtorEq, h3]
  refine aw_if rfl (fun h => ?_) (fun h => ?_)
  · have h : (e.args.length : Int) < needsF e.kind e.num e.args.length := by simpa using h
    rw [if_pos h] at hE
    refine aw_seq fun K4 hK4 => ?_
    refine aw_sr rfl ?_  -- r9 @tree.go:124
    simp only [go_sem, reduceIte, Nat.reduceEqDiff, Nat.reduceAdd, Nat.reduceMul, Nat.reduceSub, Nat.reduceLeDiff, Nat.reduceLT, reduceCtorEq, h3]
    refine aw_range e.args.length (S := Ns × Tag × Heap) (fun i s => [(1, .sl (ws.map eNm) ws.isEmpty tw), (2, .sl (s.1.map eNm) s.1.isEmpty s.2.1), (50, .sl (e.args.map eEx) e.anl .no)]) (fun _ s => s.2.2)
      (fun i s => freesF 0 [] [] ws (e.args.drop i) i e.args.length s.1 = freeF e ws os ∧ s.1.length + exszs (e.args.drop i) ≤ 4398046511104 ∧ Rm G0 s.2.2 1 s.2.1 ∧ Sub G0 s.2.2 ∧ Stable G s.2.2) (os, t, B1) (by omega) ?_ (fun _ _ h => h) ⟨by rw [hE, List.drop_zero], by show os.length + exszs (e.args.drop 0) ≤ _; rw [List.drop_zero]; omega, hr, hsB, hst⟩ rfl (fun _ _ => rfl) ?_ ?_ (by decide)
    · simp only [go_sem, reduceIte, Nat.reduceEqDiff, Nat.reduceAdd, Nat.reduceMul, Nat.reduceSub, Nat.reduceLeDiff, Nat.reduceLT, reduceCtorEq, Int.natCast_zero]
    · intro i ⟨o1, t1, H⟩ hi ⟨hi1, hi2, hr1, hs1, hst1⟩
      simp only at hi1 hi2 hr1 hs1 hst1 ⊢
      have hm := List.getElem_mem hi
      have hsa := Ex.sz_arg hm
      rw [freesF_next hi (by omega)] at hi1
      rw [exszs_drop hi] at hi2
      have hoa := he.arg hm
      refine aw_sr rfl ?_  -- r11 @tree.go:124
      simp only [go_sem, reduceIte, Nat.reduceEqDiff, Nat.reduceAdd, Nat.reduceMul, Nat.reduceSub, Nat.reduceLeDiff, Nat.reduceLT, reduceCtorEq, getD_map hi, eEx_eq]
      refine ⟨⟨by omega, by omega, wid_ex _⟩, ?_⟩
      generalize e.args[i] = a at hi1 hi2 hsa hoa ⊢
      rw [show innerF 0 [] [] i ws = ws from by simp [innerF]] at hi1
      intro b9 hb9
      refine aw_box1 hb9 fun B2 hs2 h9 => ?_
      refine aw_rg rfl ?_  -- r12 @tree.go:125
      simp only [go_sem, reduceIte, Nat.reduceEqDiff, Nat.reduceAdd, Nat.reduceMul, Nat.reduceSub, Nat.reduceLeDiff, Nat.reduceLT, reduceCtorEq, h9]
      refine goA_by (ih a (by omega) hoa (by omega) ws o1 tw t1 G0 B2 (Nat.le_trans (Nat.add_le_add_right (Nat.le_add_right _ _) _) (room_ws hsa hw)) (by omega) (hr1.sub hs2) (sub_trans hs1 hs2)) fun y G3 hy => ?_
      obtain ⟨t3, rfl, hr3, hs3, hst3⟩ := hy
      have hfl := freeF_len a ws o1
      simp only [go_sem, reduceIte, Nat.reduceEqDiff, Nat.reduceAdd, Nat.reduceMul, Nat.reduceSub, Nat.reduceLeDiff, Nat.reduceLT, reduceCtorEq]
      refine ⟨(freeF a ws o1, t3, G3), ⟨hi1, by simp only; omega, hr3, hs3, Stable.trans (Stable.trans hst1 (fun b o h _ => hs2 b o h)) hst3⟩, ?_, sub_rfl⟩
      simp only [go_sem, reduceIte, Nat.reduceEqDiff, Nat.reduceAdd, Nat.reduceMul, Nat.reduceSub, Nat.reduceLeDiff, Nat.reduceLT, reduceCtorEq]
    intro ⟨o1, t1, H⟩ ⟨hi1, hi2, hr1, hs1, hst1⟩
    simp only at hi1 hi2 hr1 hs1 hst1 ⊢
    rw [freesF_end] at hi1
    refine hK4 _ _ ?_
    refine aw_sr rfl ?_  -- r14 @tree.go:127
    simp only [go_sem, reduceIte, Nat.reduceEqDiff, Nat.reduceAdd, Nat.reduceMul, Nat.reduceSub, Nat.reduceLeDiff, Nat.reduceLT, reduceCtorEq]
    exact aw_ret ⟨trivial, _, rfl, t1, by rw [hi1]; rfl, hr1, hs1, hst1⟩
  have hnn : ¬ (e.args.length : Int) < needsF e.kind e.num e.args.length := by simpa using h
  rw [if_neg hnn] at hE
  refine aw_skip (hK3 _ _ ?_)
  refine aw_seq fun K5 hK5 => ?_
  obtain ⟨m, hme⟩ : ∃ m : Nat, needsF e.kind e.num e.args.length = (m : Int) := ⟨(needsF e.kind e.num e.args.length).toNat, by omega⟩
  rw [hme] at hnn hE ⊢
  rw [Int.toNat_natCast] at hE
  have hml2 : m ≤ e.args.length := by omega
  refine aw_sr rfl ?_  -- r15 @tree.go:129
  simp only [go_sem, reduceIte, Nat.reduceEqDiff, Nat.reduceAdd, Nat.reduceMul, Nat.reduceSub, Nat.reduceLeDiff, Nat.reduceLT, reduceCtorEq, h3]
  refine ⟨⟨by omega, wid_ex _⟩, ?_⟩
  refine aw_range m (S := Ns × Tag × Heap) (fun i s => [(1, .sl (ws.map eNm) ws.isEmpty tw), (2, .sl (s.1.map eNm) s.1.isEmpty s.2.1), (3, .ptr b3 0), (65, .sl ((e.args.take m).map eEx) e.anl .no)]) (fun _ s => s.2.2)
      (fun i s => freesF e.kind e.text e.names.1 ws (e.args.drop i) i m s.1 = freesF e.kind e.text e.names.1 ws e.args 0 m os ∧ s.1.length + exszs (e.args.drop i) ≤ os.length + exszs e.args ∧ Rm G0 s.2.2 1 s.2.1 ∧ Sub G0 s.2.2 ∧ Stable G s.2.2 ∧ hget s.2.2 b3 = some (.vars (cEx e))) (os, t, B1) (by omega) ?_ (fun _ _ h => h) ⟨by rw [List.drop_zero], by show os.length + exszs (e.args.drop 0) ≤ _; rw [List.drop_zero]; omega, hr, hsB, hst, h3⟩ rfl (fun _ _ => rfl) ?_ ?_ (by decide)
  · simp only [go_sem, reduceIte, Nat.reduceEqDiff, Nat.reduceAdd, Nat.reduceMul, Nat.reduceSub, Nat.reduceLeDiff, Nat.reduceLT, reduceCtorEq, Int.natCast_zero]
    exact ⟨by rw [List.length_take, List.length_map, Nat.min_eq_left hml2], by rw [List.map_take]; simp [sliceTag]⟩
  · intro i ⟨o1, t1, H⟩ hi ⟨hi1, hi2, hr1, hs1, hst1, h3'⟩
    simp only at hi1 hi2 hr1 hs1 hst1 h3' ⊢
    have hie : i < e.args.length := by omega
    have hm := List.getElem_mem hie
    have hsa := Ex.sz_arg hm
    rw [freesF_next hie hi] at hi1
    rw [exszs_drop hie] at hi2
    have hoa := he.arg hm
    refine aw_sr rfl ?_  -- r17 @tree.go:129
    simp only [go_sem, reduceIte, Nat.reduceEqDiff, Nat.reduceAdd, Nat.reduceMul, Nat.reduceSub, Nat.reduceLeDiff, Nat.reduceLT, reduceCtorEq, getD_map (show i < (e.args.take m).length by rw [List.length_take]; omega), List.getElem_take, eEx_eq]
    refine ⟨⟨by omega, by rw [List.length_take]; omega, wid_ex _⟩, ?_⟩
    generalize e.args[i] = a at hi1 hi2 hsa hoa ⊢
    intro b11 hb11
    refine aw_box1 hb11 fun B2 hs2 h11 => ?_
    replace h3' := hs2 _ _ h3'
    refine aw_sr rfl ?_  -- r18 @tree.go:130
    simp only [go_sem, reduceIte, Nat.reduceEqDiff, Nat.reduceAdd, Nat.reduceMul, Nat.reduceSub, Nat.reduceLeDiff, Nat.reduceLT, reduceCtorEq]
    refine aw_mid (fun f' G' => ∃ t5, FSub [(12, .sl ((if e.kind = 6 ∧ i = 1 then ws ++ [e.text] else ws).map eNm) (if e.kind = 6 ∧ i = 1 then ws ++ [e.text] else ws).isEmpty t5), (1, .sl (ws.map eNm) ws.isEmpty tw), (2, .sl (o1.map eNm) o1.isEmpty t1), (3, .ptr b3 0), (11, .ptr b11 0), (65, .sl ((e.args.take m).map eEx) e.anl .no), (66, .int .i64 m), (67, .int .i64 i)] f' ∧ Sub B2 G') ?_ ?_
    · refine aw_sr rfl ?_  -- r19 @tree.go:131
      simp only [go_sem, reduceIte, Nat.reduceEqDiff, Nat.reduceAdd, Nat.reduceMul, Nat.reduceSub, Nat.reduceLeDiff, Nat.reduceLT, reduceCtorEq, h3']
      refine aw_if rfl (fun h => ?_) (fun h => ?_)
      · have h : e.kind = 6 ∧ i = 1 := by simp at h; exact ⟨h.1, by omega⟩
        rw [if_pos h]
        refine aw_rgt [(0,true),(1,false),(2,true),(3,false),(4,true),(5,false),(6,true)] (.fork2 [(0,true),(2,true)] 1 3 (.leaf [(3,false),(4,true),(5,false),(6,true)]) (.leaf [(4,true),(1,false),(5,false),(6,true)])) mixed rfl (by kernel_rfl) ?_  -- r20 @tree.go:132
        simp only [go_sem, reduceIte, Nat.reduceEqDiff, Nat.reduceAdd, Nat.reduceMul, Nat.reduceSub, Nat.reduceLeDiff, Nat.reduceLT, reduceCtorEq, goTr, h3']
        repeat' first
          | (refine goA_by (m_CloneS ws _ _ (by omega) (by simp) B2) fun y G3 hy => ?_
             obtain ⟨t5, rfl, hr5, hs5⟩ := hy
             have k3 := hs5 _ _ h3'
             simp only [go_sem, reduceIte, Nat.reduceEqDiff, Nat.reduceAdd, Nat.reduceMul, Nat.reduceSub, Nat.reduceLeDiff, Nat.reduceLT, reduceCtorEq, goTr, k3])
          | (refine goP_rm hr5 hs5 ⟨rfl, rfl, by decide, wid_nm _, wid_one rfl, by simp [sca, scalarV], by simp only [List.length_map, List.length_cons, List.length_nil]; omega, by simp only [List.length_map, List.length_cons, List.length_nil]; omega⟩ fun t6 H6 hr6 hs6 hg6 => ?_
             simp only [go_sem, reduceIte, Nat.reduceEqDiff, Nat.reduceAdd, Nat.reduceMul, Nat.reduceSub, Nat.reduceLeDiff, Nat.reduceLT, reduceCtorEq]
             refine ⟨t6, ⟨?_, rfl, rfl, rfl, rfl, rfl, rfl, rfl⟩, hs6⟩
             rw [List.map_append, isE_append, show [e.text].isEmpty = false from rfl, Bool.and_false]
             rfl)
          | refine And.intro ?_ ?_
      · have h : ¬ (e.kind = 6 ∧ i = 1) := fun ⟨h1, h2⟩ => by simp [h1, h2] at h
        rw [if_neg h]
        refine aw_skip ?_
        exact ⟨tw, ⟨rfl, rfl, rfl, rfl, rfl, rfl, rfl, rfl⟩, sub_rfl⟩
    intro f' G' ⟨t5, hf, hs5⟩
    refine AW.of_fsub hf ?_
    have hii : innerF e.kind e.text e.names.1 i ws = if e.kind = 10 then ws ++ e.names.1 else if e.kind = 6 ∧ i = 1 then ws ++ [e.text] else ws := rfl
    have hil : (innerF e.kind e.text e.names.1 i ws).length ≤ ws.length + 1048576 := by
      rw [hii]; split
      · rw [List.length_append]; omega
      · split
        · simp only [List.length_append, List.length_cons, List.length_nil]; omega
        · omega
    generalize hin : (if e.kind = 6 ∧ i = 1 then ws ++ [e.text] else ws) = in1 at hii ⊢
    refine aw_mid (fun f' G' => ∃ t5, FSub [(12, .sl ((innerF e.kind e.text e.names.1 i ws).map eNm) (innerF e.kind e.text e.names.1 i ws).isEmpty t5), (1, .sl (ws.map eNm) ws.isEmpty tw), (2, .sl (o1.map eNm) o1.isEmpty t1), (3, .ptr b3 0), (11, .ptr b11 0), (65, .sl ((e.args.take m).map eEx) e.anl .no), (66, .int .i64 m), (67, .int .i64 i)] f' ∧ Sub B2 G') ?_ ?_
    · have h3'' := hs5 _ _ h3'
      refine aw_sr rfl ?_  -- r21 @tree.go:134
      simp only [go_sem, reduceIte, Nat.reduceEqDiff, Nat.reduceAdd, Nat.reduceMul, Nat.reduceSub, Nat.reduceLeDiff, Nat.reduceLT, reduceCtorEq, h3'']
      refine aw_if rfl (fun h => ?_) (fun h => ?_)
      · have h : e.kind = 10 := by simpa using h
        rw [if_pos h] at hii
        refine aw_rgt [(0,true),(1,false),(2,true),(3,false),(4,false),(5,true)] (.fork2 [(0,true),(2,true)] 1 3 (.leaf [(3,false),(4,false),(5,true)]) (.leaf [(1,false),(4,false),(5,true)])) mixed rfl (by kernel_rfl) ?_  -- r22 @tree.go:135
        simp only [go_sem, reduceIte, Nat.reduceEqDiff, Nat.reduceAdd, Nat.reduceMul, Nat.reduceSub, Nat.reduceLeDiff, Nat.reduceLT, reduceCtorEq, goTr, h3'']
        repeat' first
          | (refine goA_by (m_CloneS ws _ _ (by omega) (by simp) _) fun y G3 hy => ?_
             obtain ⟨t6, rfl, hr6, hs6⟩ := hy
             have k3 := hs6 _ _ h3''
             simp only [go_sem, reduceIte, Nat.reduceEqDiff, Nat.reduceAdd, Nat.reduceMul, Nat.reduceSub, Nat.reduceLeDiff, Nat.reduceLT, reduceCtorEq, goTr, k3])
          | (refine goP_rm hr6 hs6 ⟨rfl, rfl, by decide, wid_nm _, wid_nm _, sca_nm _, by simp only [List.length_map]; omega, by simp only [List.length_map]; omega⟩ fun t7 H7 hr7 hs7 hg7 => ?_
             simp only [go_sem, reduceIte, Nat.reduceEqDiff, Nat.reduceAdd, Nat.reduceMul, Nat.reduceSub, Nat.reduceLeDiff, Nat.reduceLT, reduceCtorEq]
             refine ⟨t7, ⟨?_, rfl, rfl, rfl, rfl, rfl, rfl, rfl⟩, sub_trans hs5 hs7⟩
             rw [hii, List.map_append, isE_append]
             simp only [List.isEmpty_map]
             rfl)
          | refine And.intro ?_ ?_
      · have h : ¬ e.kind = 10 := by simpa using h
        rw [if_neg h] at hii
        refine aw_skip ?_
        exact ⟨t5, ⟨by rw [hii]; rfl, rfl, rfl, rfl, rfl, rfl, rfl, rfl⟩, hs5⟩
    intro f' G' ⟨t6, hf, hs6⟩
    refine AW.of_fsub hf ?_
    generalize innerF e.kind e.text e.names.1 i ws = inn at hi1 hil ⊢
    refine aw_rg rfl ?_  -- r23 @tree.go:137
    simp only [go_sem, reduceIte, Nat.reduceEqDiff, Nat.reduceAdd, Nat.reduceMul, Nat.reduceSub, Nat.reduceLeDiff, Nat.reduceLT, reduceCtorEq, hs6 _ _ h11]
    refine goA_by (ih a (by omega) hoa (by omega) inn o1 t6 t1 G0 G' (Nat.le_trans (Nat.add_le_add_right hil _) (room_ws hsa hw)) (by omega) ((hr1.sub hs2).sub hs6) (sub_trans (sub_trans hs1 hs2) hs6)) fun y G3 hy => ?_
    obtain ⟨t3, rfl, hr3, hs3, hst3⟩ := hy
    have hfl := freeF_len a inn o1
    simp only [go_sem, reduceIte, Nat.reduceEqDiff, Nat.reduceAdd, Nat.reduceMul, Nat.reduceSub, Nat.reduceLeDiff, Nat.reduceLT, reduceCtorEq]
    refine ⟨(freeF a inn o1, t3, G3), ⟨hi1, by simp only; omega, hr3, hs3, Stable.trans (Stable.trans hst1 (fun b o h _ => hs6 _ _ (hs2 b o h))) hst3, hst3 _ _ (hs6 _ _ h3') (fun _ _ q => by cases q)⟩, ?_, sub_rfl⟩
    simp only [go_sem, reduceIte, Nat.reduceEqDiff, Nat.reduceAdd, Nat.reduceMul, Nat.reduceSub, Nat.reduceLeDiff, Nat.reduceLT, reduceCtorEq]
  intro ⟨o1, t1, H⟩ ⟨hi1, hi2, hr1, hs1, hst1, h3'⟩
  simp only at hi1 hi2 hr1 hs1 hst1 h3' ⊢
  rw [freesF_end] at hi1
  rw [← hi1] at hE
  refine hK5 _ _ ?_
  refine aw_mid (fun f' G' => ∃ t', FSub [(2, .sl ((freeF e ws os).map eNm) (freeF e ws os).isEmpty t')] f' ∧ Rm G0 G' 1 t' ∧ Sub G0 G' ∧ Stable G G') ?_ ?_
  · refine aw_sr rfl ?_  -- r25 @tree.go:139
    simp only [go_sem, reduceIte, Nat.reduceEqDiff, Nat.reduceAdd, Nat.reduceMul, Nat.reduceSub, Nat.reduceLeDiff, Nat.reduceLT, reduceCtorEq, h3']
    refine aw_if rfl (fun h => ?_) (fun h => ?_)
    · have h : e.kind = 13 ∨ e.kind = 18 := by simpa using h
      rw [if_pos h] at hE
      refine aw_sr rfl ?_  -- r26 @tree.go:140
      simp only [go_sem, reduceIte, Nat.reduceEqDiff, Nat.reduceAdd, Nat.reduceMul, Nat.reduceSub, Nat.reduceLeDiff, Nat.reduceLT, reduceCtorEq, h3']
      refine aw_range e.arms.length (S := Ns × Tag × Heap) (fun i s => [(1, .sl (ws.map eNm) ws.isEmpty tw), (2, .sl (s.1.map eNm) s.1.isEmpty s.2.1), (108, .sl (e.arms.map eArm) e.mnl .no)]) (fun _ s => s.2.2)
        (fun i s => freesM ws (e.arms.drop i) s.1 = freeF e ws os ∧ s.1.length + amszs (e.arms.drop i) ≤ 4398046511104 ∧ Rm G0 s.2.2 1 s.2.1 ∧ Sub G0 s.2.2 ∧ Stable G s.2.2) (o1, t1, H) (by omega) ?_ (fun _ _ h => h) ⟨by rw [hE, List.drop_zero], by have := exszs_len (e.args.drop m); show o1.length + amszs (e.arms.drop 0) ≤ _; rw [List.drop_zero]; omega, hr1, hs1, hst1⟩ rfl (fun _ _ => rfl) ?_ ?_ (by decide)
      · simp only [go_sem, reduceIte, Nat.reduceEqDiff, Nat.reduceAdd, Nat.reduceMul, Nat.reduceSub, Nat.reduceLeDiff, Nat.reduceLT, reduceCtorEq, Int.natCast_zero]
      · intro i ⟨o2, t2, H2⟩ hi ⟨hj1, hj2, hr2, hs2, hst2⟩
        simp only at hj1 hj2 hr2 hs2 hst2 ⊢
        have hm := List.getElem_mem hi
        have hsa := Ex.sz_arm hm
        rw [freesM_next hi, freeA_eq] at hj1
        rw [amszs_drop hi, Arm.sz_eq] at hj2
        have hoa := he.body hm
        have hop := he.pat hm
        refine aw_sr rfl ?_  -- r28 @tree.go:140
        simp only [go_sem, reduceIte, Nat.reduceEqDiff, Nat.reduceAdd, Nat.reduceMul, Nat.reduceSub, Nat.reduceLeDiff, Nat.reduceLT, reduceCtorEq, getD_map hi, eArm_eq]
        refine ⟨⟨by omega, by omega, wid_arm _⟩, ?_⟩
        generalize e.arms[i].pat = p at hj1 hj2 hsa hop ⊢
        generalize e.arms[i].body = a at hj1 hj2 hsa hoa ⊢
        have hbl := boundF_len p
        intro b14 hb14
        refine aw_box1 hb14 fun B2 hs2' h14 => ?_
        have hbe : ((boundF p).map eNm).isEmpty = (boundF p).isEmpty := List.isEmpty_map
        have hws : (ws ++ boundF p).length ≤ ws.length + 1048576 := by rw [List.length_append]; omega
        refine aw_rgt [(0,true),(1,false),(2,true),(3,false),(4,true),(5,false),(6,true),(7,false),(8,true),(9,false),(10,true)]
          (.fork3 [(0,true),(2,true),(4,true),(8,true)] 1 3 5 (.fork2 [] 3 5 (.leaf [(5,false),(6,true),(7,false),(9,false),(10,true)]) (.leaf [(3,false),(6,true),(7,false),(9,false),(10,true)])) (.fork2 [] 1 5 (.leaf [(5,false),(6,true),(7,false),(9,false),(10,true)]) (.fork2 [(6,true)] 1 7 (.leaf [(7,false),(9,false),(10,true)]) (.leaf [(1,false),(9,false),(10,true)]))) (.fork2 [] 1 3 (.leaf [(3,false),(6,true),(7,false),(9,false),(10,true)]) (.fork2 [(6,true)] 1 7 (.leaf [(7,false),(9,false),(10,true)]) (.leaf [(1,false),(9,false),(10,true)])))) mixed rfl (by kernel_rfl) ?_  -- r29 @tree.go:141
        simp only [go_sem, reduceIte, Nat.reduceEqDiff, Nat.reduceAdd, Nat.reduceMul, Nat.reduceSub, Nat.reduceLeDiff, Nat.reduceLT, reduceCtorEq, goTr, h14]
        repeat' first
          | (refine goA_by (m_CloneS ws _ _ (by omega) (by simp) B2) fun y G3 hy => ?_
             obtain ⟨t5, rfl, hr5, hs5⟩ := hy
             have k14 := hs5 _ _ h14
             simp only [go_sem, reduceIte, Nat.reduceEqDiff, Nat.reduceAdd, Nat.reduceMul, Nat.reduceSub, Nat.reduceLeDiff, Nat.reduceLT, reduceCtorEq, goTr, k14])
          | (refine goQ_by (q_Bound p.sz p (Nat.le_refl _) hop (by omega)) ?_
             simp only [go_sem, reduceIte, Nat.reduceEqDiff, Nat.reduceAdd, Nat.reduceMul, Nat.reduceSub, Nat.reduceLeDiff, Nat.reduceLT, reduceCtorEq, goTr, k14])
          | (refine goP_rm hr5 hs5 ⟨rfl, rfl, by decide, wid_nm _, wid_nm _, sca_nm _, by simp only [List.length_map]; omega, by simp only [List.length_map]; omega⟩ fun t6 H6 hr6 hs6 hg6 => ?_
             have m14 := hs6 _ _ h14
             simp only [go_sem, reduceIte, Nat.reduceEqDiff, Nat.reduceAdd, Nat.reduceMul, Nat.reduceSub, Nat.reduceLeDiff, Nat.reduceLT, reduceCtorEq, goTr, m14])
          | (have hq := ih a (by omega) hoa (by omega) (ws ++ boundF p) o2 t6 t2 G0 H6 (Nat.le_trans (Nat.add_le_add_right hws _) (room_ws (Nat.lt_of_le_of_lt (Nat.le_add_left _ _) hsa) hw)) (by omega) ((hr2.sub hs2').sub hs6) (sub_trans (sub_trans hs2 hs2') hs6)
             rw [List.map_append, isE_append, ← hbe] at hq
             refine goA_by hq fun y G7 hy => ?_
             obtain ⟨t7, rfl, hr7, hs7, hst7⟩ := hy
             have hfl := freeF_len a (ws ++ boundF p) o2
             simp only [go_sem, reduceIte, Nat.reduceEqDiff, Nat.reduceAdd, Nat.reduceMul, Nat.reduceSub, Nat.reduceLeDiff, Nat.reduceLT, reduceCtorEq]
             refine ⟨(freeF a (ws ++ boundF p) o2, t7, G7), ⟨hj1, by simp only; omega, hr7, hs7, Stable.trans (Stable.trans hst2 (fun b o h _ => hs6 _ _ (hs2' b o h))) hst7⟩, ?_, sub_rfl⟩
             simp only [go_sem, reduceIte, Nat.reduceEqDiff, Nat.reduceAdd, Nat.reduceMul, Nat.reduceSub, Nat.reduceLeDiff, Nat.reduceLT, reduceCtorEq])
          | refine And.intro ?_ ?_
      intro ⟨o2, t2, H2⟩ ⟨hj1, hj2, hr2, hs2, hst2⟩
      simp only at hj1 hj2 hr2 hs2 hst2 ⊢
      rw [List.drop_length, freesM] at hj1
      refine ⟨t2, ?_, hr2, hs2, hst2⟩
      rw [← hj1]
      simp only [go_sem, reduceIte, Nat.reduceEqDiff, Nat.reduceAdd, Nat.reduceMul, Nat.reduceSub, Nat.reduceLeDiff, Nat.reduceLT, reduceCtorEq]
    · have h : ¬ (e.kind = 13 ∨ e.kind = 18) := by simpa using h
      rw [if_neg h] at hE
      refine aw_skip ⟨t1, ?_, hr1, hs1, hst1⟩
      rw [hE]
      simp only [go_sem, reduceIte, Nat.reduceEqDiff, Nat.reduceAdd, Nat.reduceMul, Nat.reduceSub, Nat.reduceLeDiff, Nat.reduceLT, reduceCtorEq]
  intro f' G' ⟨t', hf, hr', hs', hst'⟩
  refine AW.of_fsub hf ?_
  refine aw_sr rfl ?_  -- r31 @tree.go:144
  simp only [go_sem, reduceIte, Nat.reduceEqDiff, Nat.reduceAdd, Nat.reduceMul, Nat.reduceSub, Nat.reduceLeDiff, Nat.reduceLT, reduceCtorEq]
  exact aw_ret ⟨trivial, _, rfl, t', rfl, hr', hs', hst'⟩
end Go.Proofs.Ytlgfffngojlffaa

/- Folding: literals, truths, two literals; no free names. No conditions but sizes. -/
set_option linter.unusedSimpArgs false
set_option linter.unusedVariables false
namespace Go.Proofs.Ytlgfffngojlffaa
open Go.Proofs.YtlgfffngojlffaaV
set_option maxHeartbeats 400000
set_option maxRecDepth 100000
theorem q_Free (e : Ex) (he : OkEx e) (hsz : e.sz ≤ bulk) : Quiet Try.prog 105 [.agg (cEx e)] (.sl ((freeF e [] []).map eNm) (freeF e [] []).isEmpty .no) := by
  have g3 : bulk = 1048576 := rfl
  refine Quiet.weak fun G => ?_
  refine acall_body (rs := [.tmp 2]) Try.func105 rfl rfl Try.ntmps105 (by kernel_rfl) (Nat.le_of_ble_eq_true rfl) ?_
  refine aw_sr rfl ?_  -- r0 @tree.go:110
  simp only [go_sem, reduceIte, Nat.reduceEqDiff, Nat.reduceAdd, Nat.reduceMul, Nat.reduceSub, Nat.reduceLeDiff, Nat.reduceLT, reduceCtorEq]
  intro b1 hb1
  refine aw_box1 hb1 fun B1 hs1 h1 => ?_
  refine aw_sr rfl ?_  -- r1 @tree.go:110
  simp only [go_sem, reduceIte, Nat.reduceEqDiff, Nat.reduceAdd, Nat.reduceMul, Nat.reduceSub, Nat.reduceLeDiff, Nat.reduceLT, reduceCtorEq, h1]
  refine goA_by (a_free e.sz e (Nat.le_refl _) he hsz [] [] .full .full G B1 (by simp only [List.length_nil]; omega) (by simp only [List.length_nil]; omega) (Rm.start _ _ _) hs1) fun y G3 hy => ?_
  obtain ⟨t3, rfl, hr3, hs3, hst3⟩ := hy
  simp only [go_sem, reduceIte, Nat.reduceEqDiff, Nat.reduceAdd, Nat.reduceMul, Nat.reduceSub, Nat.reduceLeDiff, Nat.reduceLT, reduceCtorEq]
  refine aw_ret ⟨trivial, _, rfl, ?_, hs3⟩
  exact Vle.untag
def litF (x : Ex) : Bool := decide (x.kind = 2) || (decide (x.kind = 3) && (decide (x.num = 0) || decide (x.num = 1))) || decide (x.kind = 4)
theorem q_literal (e : Ex) : Quiet Try.prog 104 [.agg (cEx e)] (.bool (litF e)) := by
  refine Quiet.weak fun G => ?_
  refine acall_body (rs := [.tmp 2]) Try.func104 rfl rfl Try.ntmps104 (by kernel_rfl) (Nat.le_of_ble_eq_true rfl) ?_
  refine aw_sr rfl ?_  -- r0 @fold.go:10
  simp only [go_sem, reduceIte, Nat.reduceEqDiff, Nat.reduceAdd, Nat.reduceMul, Nat.reduceSub, Nat.reduceLeDiff, Nat.reduceLT, reduceCtorEq]
  intro b1 hb1
  refine aw_box1 hb1 fun B1 hs1 h1 => ?_
  refine aw_sr rfl ?_  -- r1 @fold.go:11
  simp only [go_sem, reduceIte, Nat.reduceEqDiff, Nat.reduceAdd, Nat.reduceMul, Nat.reduceSub, Nat.reduceLeDiff, Nat.reduceLT, reduceCtorEq, h1]
  refine aw_ret ⟨trivial, _, rfl, ?_, hs1⟩
  exact Vle.refl _
def lit (k n : Int) (t : List UInt8) : Ex := .mk k n t ([], true) ([], true) [] true [] true 0
theorem vle_lit (k n : Int) (t : List UInt8) : Vle (V.agg [.int .i64 k, .int .i64 n, .str t, .sl [] true .full, .sl [] true .full, .sl [] true .full, .sl [] true .full, .int .i64 0]) (.agg (cEx (lit k n t))) :=
  Vle.aggL (.cons (Vle.refl _) (.cons (Vle.refl _) (.cons (Vle.refl _) (.cons Vle.untag (.cons Vle.untag (.cons Vle.untag (.cons Vle.untag (.cons (Vle.refl _) .nil))))))))
def truthF (b : Bool) : Ex := lit 3 (if b = true then 1 else 0) []
theorem q_truth (b : Bool) : Quiet Try.prog 106 [.bool b] (.agg (cEx (truthF b))) := by
  refine Quiet.weak fun G => ?_
  refine acall_body (rs := [.cell 2 63]) Try.func106 rfl rfl Try.ntmps106 (by kernel_rfl) (Nat.le_of_ble_eq_true rfl) ?_
  refine aw_sr rfl ?_  -- r0 @fold.go:15
  simp only [go_sem, reduceIte, Nat.reduceEqDiff, Nat.reduceAdd, Nat.reduceMul, Nat.reduceSub, Nat.reduceLeDiff, Nat.reduceLT, reduceCtorEq]
  intro b2 hb2
  refine aw_box1 hb2 fun B1 hs1 h2 => ?_
  refine aw_seq fun K8 hK8 => ?_
  refine aw_sr rfl ?_  -- r1 @fold.go:16
  simp only [go_sem, reduceIte, Nat.reduceEqDiff, Nat.reduceAdd, Nat.reduceMul, Nat.reduceSub, Nat.reduceLeDiff, Nat.reduceLT, reduceCtorEq]
  refine aw_if rfl (fun h => ?_) (fun h => ?_)
  · refine aw_sr rfl ?_  -- r2 @fold.go:17
    simp only [go_sem, reduceIte, Nat.reduceEqDiff, Nat.reduceAdd, Nat.reduceMul, Nat.reduceSub, Nat.reduceLeDiff, Nat.reduceLT, reduceCtorEq, h2]
    refine aw_ret ⟨trivial, ?_⟩
    simp only [go_sem, reduceIte, Nat.reduceEqDiff, Nat.reduceAdd, Nat.reduceMul, Nat.reduceSub, Nat.reduceLeDiff, Nat.reduceLT, reduceCtorEq, resL, resOf, hget_hset_self h2]
    refine ⟨_, rfl, ?_, sub_hset_fresh hb2 hs1⟩
    rw [truthF, if_pos h]; exact vle_lit _ _ _
  refine aw_skip (hK8 _ _ ?_)
  refine aw_sr rfl ?_  -- r3 @fold.go:19
  simp only [go_sem, reduceIte, Nat.reduceEqDiff, Nat.reduceAdd, Nat.reduceMul, Nat.reduceSub, Nat.reduceLeDiff, Nat.reduceLT, reduceCtorEq, h2]
  refine aw_ret ⟨trivial, ?_⟩
  simp only [go_sem, reduceIte, Nat.reduceEqDiff, Nat.reduceAdd, Nat.reduceMul, Nat.reduceSub, Nat.reduceLeDiff, Nat.reduceLT, reduceCtorEq, resL, resOf, hget_hset_self h2]
  refine ⟨_, rfl, ?_, sub_hset_fresh hb2 hs1⟩
  rw [truthF, if_neg (ne_true h)]; exact vle_lit _ _ _
theorem hset_cons (k b : Nat) (u x : AObj) (G : Heap) : hset ((k, u) :: G) b x = if k = b then (k, x) :: G else (k, u) :: hset G b x := rfl
theorem toNat0 : Int.toNat 0 = 0 := rfl
def twoF (x a b : Ex) : Ex :=
  if x.text = [61] then truthF (decide (a.num = b.num) && decide (a.text = b.text))
  else if a.kind = 4 ∧ x.text = [94] ∧ a.text.length + b.text.length ≤ 64 then lit 4 0 (a.text ++ b.text)
  else if ¬ a.kind = 2 then x
  else if x.text = [43] then lit 2 (IntKind.i64.wrap (a.num + b.num)) []
  else if x.text = [45] then lit 2 (IntKind.i64.wrap (a.num - b.num)) []
  else if x.text = [42] then lit 2 (IntKind.i64.wrap (a.num * b.num)) []
  else if x.text = [60] then truthF (decide (a.num < b.num))
  else if x.text = [47] then (if b.num = 0 then x else lit 2 (IntKind.i64.wrap (a.num.tdiv b.num)) [])
  else if x.text = [37] then (if b.num = 0 then x else lit 2 (a.num.tmod b.num) [])
  else x
theorem q_two (x a b : Ex) (hx : x.args = [a, b]) (ha : a.text.length ≤ 1048576) (hb : b.text.length ≤ 1048576) : Quiet Try.prog 107 [.agg (cEx x)] (.agg (cEx (twoF x a b))) := by
  have hE : twoF x a b = twoF x a b := rfl
  conv at hE => lhs; unfold twoF
  have ew : IntKind.i64.wrap ((a.text.length : Int) + (b.text.length : Int)) = (a.text.length : Int) + (b.text.length : Int) := wrap64 (by omega) (by omega)
  refine Quiet.weak fun G => ?_
  refine acall_body (rs := [.cell 2 63]) Try.func107 rfl rfl Try.ntmps107 (by kernel_rfl) (Nat.le_of_ble_eq_true rfl) ?_
  refine aw_sr rfl ?_  -- r0 @fold.go:52
  simp only [go_sem, reduceIte, Nat.reduceEqDiff, Nat.reduceAdd, Nat.reduceMul, Nat.reduceSub, Nat.reduceLeDiff, Nat.reduceLT, reduceCtorEq]
  intro b1 hb1
  intro b2 hb2
  refine aw_box2 hb1 hb2 fun B1 hs1 h1 h2 _ _ => ?_
  have hsB := hs1
  refine aw_mid (fun f' G' => ∃ b3 b4, FSub [(1, .ptr b1 0), (2, .ptr b2 0), (3, .ptr b3 0), (4, .ptr b4 0)] f' ∧ Sub B1 G' ∧ hget G' b3 = some (.vars (cEx a)) ∧ hget G' b4 = some (.vars (cEx b))) ?_ ?_
  · have hwid : wid 8 [cEx a, cEx b] := by simp [wid]
    refine aw_rgt [(0,true),(1,true),(2,true),(3,true),(4,true),(5,false),(6,true),(7,false),(8,false),(9,false),(10,false),(11,false)]
      (.fork3 [(0,true),(1,true),(2,true),(3,true),(4,true)] 5 8 9 (.fork3 [(6,true)] 7 8 9 (.fork2 [] 8 9 (.leaf [(9,false),(10,false),(11,false)]) (.leaf [(8,false),(10,false),(11,false)])) (.fork2 [] 7 9 (.leaf [(9,false),(10,false),(11,false)]) (.fork2 [] 7 10 (.leaf [(10,false),(11,false)]) (.leaf [(7,false),(11,false)]))) (.fork2 [] 7 8 (.leaf [(8,false),(10,false),(11,false)]) (.fork2 [] 7 10 (.leaf [(10,false),(11,false)]) (.leaf [(7,false),(11,false)])))) (.fork2 [] 5 9 (.fork2 [(6,true)] 7 9 (.leaf [(9,false),(10,false),(11,false)]) (.fork2 [] 7 10 (.leaf [(10,false),(11,false)]) (.leaf [(7,false),(11,false)]))) (.fork2 [] 5 10 (.fork2 [(6,true)] 7 10 (.leaf [(10,false),(11,false)]) (.leaf [(7,false),(11,false)])) (.leaf [(5,false),(6,true),(7,false),(11,false)]))) (.fork2 [] 5 8 (.fork2 [(6,true)] 7 8 (.leaf [(8,false),(10,false),(11,false)]) (.fork2 [] 7 10 (.leaf [(10,false),(11,false)]) (.leaf [(7,false),(11,false)]))) (.fork2 [] 5 10 (.fork2 [(6,true)] 7 10 (.leaf [(10,false),(11,false)]) (.leaf [(7,false),(11,false)])) (.leaf [(5,false),(6,true),(7,false),(11,false)])))) mixed rfl (by kernel_rfl) ?_  -- r1 @fold.go:53
    simp only [go_sem, reduceIte, Nat.reduceEqDiff, Nat.reduceAdd, Nat.reduceMul, Nat.reduceSub, Nat.reduceLeDiff, Nat.reduceLT, reduceCtorEq, goTr, h1, hx, eEx_eq, List.map_cons, List.map_nil, toNat0, toNat1, List.getD_cons_zero, List.getD_cons_succ]
    repeat' first
      | (intro bp hbp
         have n1 : ¬ b1 = bp := ne_fresh h1 hbp
         have n1' : ¬ bp = b1 := fun e => n1 e.symm
         simp only [go_sem, reduceIte, Nat.reduceEqDiff, Nat.reduceAdd, Nat.reduceMul, Nat.reduceSub, Nat.reduceLeDiff, Nat.reduceLT, reduceCtorEq, goTr, h1, hx, eEx_eq, List.map_cons, List.map_nil, toNat0, toNat1, List.getD_cons_zero, List.getD_cons_succ, hget_cons, hset_cons, n1, n1'])
      | (intro bq hbq
         obtain ⟨n3, hbq'⟩ := fresh_cons hbq
         have n3' := fun e => n3 (Eq.symm e)
         have n2 : ¬ b1 = bq := ne_fresh h1 hbq'
         have n2' : ¬ bq = b1 := fun e => n2 e.symm
         simp only [go_sem, reduceIte, Nat.reduceEqDiff, Nat.reduceAdd, Nat.reduceMul, Nat.reduceSub, Nat.reduceLeDiff, Nat.reduceLT, reduceCtorEq, goTr, h1, hx, eEx_eq, List.map_cons, List.map_nil, toNat0, toNat1, List.getD_cons_zero, List.getD_cons_succ, hget_cons, hset_cons, n1, n1', n2, n2', n3, n3'])
      | exact hwid
      | decide
      | (refine ⟨_, _, ⟨rfl, rfl, rfl, rfl⟩, sub_fresh hbq' (sub_tail hbp), ?_, ?_⟩ <;> simp [hget_cons, n3, n3'])
      | refine And.intro ?_ ?_
  intro f' B2 ⟨b3, b4, hf, hs2, h3, h4⟩
  refine AW.of_fsub hf ?_
  obtain ⟨_, hb2'⟩ := fresh_cons hb2
  replace h1 := hs2 _ _ h1
  replace h2 := hs2 _ _ h2
  refine aw_seq fun K9 hK9 => ?_
  refine aw_block ?_  -- 0
  refine aw_sr rfl ?_  -- r2 @fold.go:55
  simp only [go_sem, reduceIte, Nat.reduceEqDiff, Nat.reduceAdd, Nat.reduceMul, Nat.reduceSub, Nat.reduceLeDiff, Nat.reduceLT, reduceCtorEq, h1]
  refine aw_if rfl (fun h => ?_) (fun h => ?_)
  · have h : x.text = [61] := by simpa using h
    rw [if_pos h] at hE
    refine aw_sr rfl ?_  -- r3 @fold.go:56
    simp only [go_sem, reduceIte, Nat.reduceEqDiff, Nat.reduceAdd, Nat.reduceMul, Nat.reduceSub, Nat.reduceLeDiff, Nat.reduceLT, reduceCtorEq, h2, h3, h4]
    refine goA_q (q_truth _) ?_
    simp only [go_sem, reduceIte, Nat.reduceEqDiff, Nat.reduceAdd, Nat.reduceMul, Nat.reduceSub, Nat.reduceLeDiff, Nat.reduceLT, reduceCtorEq, h2, h3, h4]
    refine aw_ret ⟨trivial, ?_⟩
    simp only [go_sem, reduceIte, Nat.reduceEqDiff, Nat.reduceAdd, Nat.reduceMul, Nat.reduceSub, Nat.reduceLeDiff, Nat.reduceLT, reduceCtorEq, resL, resOf, hget_hset_self h2]
    refine ⟨_, rfl, ?_, sub_hset_fresh hb2' (sub_trans hsB hs2)⟩
    rw [← hE]; exact Vle.refl _
  have h61 : ¬ x.text = [61] := by simpa using h
  rw [if_neg h61] at hE
  refine aw_sr rfl ?_  -- r4 @fold.go:57
  simp only [go_sem, reduceIte, Nat.reduceEqDiff, Nat.reduceAdd, Nat.reduceMul, Nat.reduceSub, Nat.reduceLeDiff, Nat.reduceLT, reduceCtorEq, h1, h3, h4]
  refine aw_if rfl (fun h => ?_) (fun h => ?_)
  · have h : a.kind = 4 ∧ x.text = [94] ∧ a.text.length + b.text.length ≤ 64 := by
      simp [ew] at h; exact ⟨h.1.1, h.1.2, by omega⟩
    rw [if_pos h] at hE
    refine aw_sr rfl ?_  -- r5 @fold.go:58
    simp only [go_sem, reduceIte, Nat.reduceEqDiff, Nat.reduceAdd, Nat.reduceMul, Nat.reduceSub, Nat.reduceLeDiff, Nat.reduceLT, reduceCtorEq, h2, h3, h4]
    refine ⟨by omega, ?_⟩
    refine aw_ret ⟨trivial, ?_⟩
    simp only [go_sem, reduceIte, Nat.reduceEqDiff, Nat.reduceAdd, Nat.reduceMul, Nat.reduceSub, Nat.reduceLeDiff, Nat.reduceLT, reduceCtorEq, resL, resOf, hget_hset_self h2]
    refine ⟨_, rfl, ?_, sub_hset_fresh hb2' (sub_trans hsB hs2)⟩
    rw [← hE]; exact vle_lit _ _ _
  have h94 : ¬ (a.kind = 4 ∧ x.text = [94] ∧ a.text.length + b.text.length ≤ 64) := fun ⟨g1, g2, g3⟩ => by
    simp [ew, g1, g2] at h; omega
  rw [if_neg h94] at hE
  refine aw_sr rfl ?_  -- r6 @fold.go:59
  simp only [go_sem, reduceIte, Nat.reduceEqDiff, Nat.reduceAdd, Nat.reduceMul, Nat.reduceSub, Nat.reduceLeDiff, Nat.reduceLT, reduceCtorEq, h3]
  refine aw_if rfl (fun h => ?_) (fun h => ?_)
  · have h : ¬ a.kind = 2 := by simpa using h
    rw [if_pos h] at hE
    refine aw_sr rfl ?_  -- r7 @fold.go:60
    simp only [go_sem, reduceIte, Nat.reduceEqDiff, Nat.reduceAdd, Nat.reduceMul, Nat.reduceSub, Nat.reduceLeDiff, Nat.reduceLT, reduceCtorEq, h1, h2]
    refine aw_ret ⟨trivial, ?_⟩
    simp only [go_sem, reduceIte, Nat.reduceEqDiff, Nat.reduceAdd, Nat.reduceMul, Nat.reduceSub, Nat.reduceLeDiff, Nat.reduceLT, reduceCtorEq, resL, resOf, hget_hset_self h2]
    refine ⟨_, rfl, ?_, sub_hset_fresh hb2' (sub_trans hsB hs2)⟩
    rw [← hE]; exact Vle.refl _
  have h2k : ¬ ¬ a.kind = 2 := by simpa using h
  rw [if_neg h2k] at hE
  refine aw_skip (hK9 _ _ ?_)
  refine aw_sr rfl ?_  -- r8 @fold.go:62
  simp only [go_sem, reduceIte, Nat.reduceEqDiff, Nat.reduceAdd, Nat.reduceMul, Nat.reduceSub, Nat.reduceLeDiff, Nat.reduceLT, reduceCtorEq, h3]
  refine aw_mid (fun f' G' => ∃ n, FSub [(2, .ptr b2 0), (5, .int .i64 n)] f' ∧ G' = B2 ∧ twoF x a b = lit 2 n []) ?_ ?_
  · refine aw_sr rfl ?_  -- r9 @fold.go:63
    simp only [go_sem, reduceIte, Nat.reduceEqDiff, Nat.reduceAdd, Nat.reduceMul, Nat.reduceSub, Nat.reduceLeDiff, Nat.reduceLT, reduceCtorEq, h1]
    refine aw_block ?_  -- 1
    refine aw_sr rfl ?_  -- r11
    simp only [go_sem, reduceIte, Nat.reduceEqDiff, Nat.reduceAdd, Nat.reduceMul, Nat.reduceSub, Nat.reduceLeDiff, Nat.reduceLT, reduceCtorEq]
    refine aw_if rfl (fun h => ?_) (fun h => ?_)
    · have h : x.text = [43] := by simpa using h
      rw [if_pos h] at hE
      refine aw_rg rfl ?_  -- r12
      simp only [go_sem, reduceIte, Nat.reduceEqDiff, Nat.reduceAdd, Nat.reduceMul, Nat.reduceSub, Nat.reduceLeDiff, Nat.reduceLT, reduceCtorEq, h4]
      exact ⟨_, ⟨rfl, rfl⟩, rfl, hE.symm⟩
    have h43 : ¬ x.text = [43] := by simpa using h
    rw [if_neg h43] at hE
    refine aw_sr rfl ?_  -- r13
    simp only [go_sem, reduceIte, Nat.reduceEqDiff, Nat.reduceAdd, Nat.reduceMul, Nat.reduceSub, Nat.reduceLeDiff, Nat.reduceLT, reduceCtorEq]
    refine aw_if rfl (fun h => ?_) (fun h => ?_)
    · have h : x.text = [45] := by simpa using h
      rw [if_pos h] at hE
      refine aw_rg rfl ?_  -- r14
      simp only [go_sem, reduceIte, Nat.reduceEqDiff, Nat.reduceAdd, Nat.reduceMul, Nat.reduceSub, Nat.reduceLeDiff, Nat.reduceLT, reduceCtorEq, h4]
      exact ⟨_, ⟨rfl, rfl⟩, rfl, hE.symm⟩
    have h45 : ¬ x.text = [45] := by simpa using h
    rw [if_neg h45] at hE
    refine aw_sr rfl ?_  -- r15
    simp only [go_sem, reduceIte, Nat.reduceEqDiff, Nat.reduceAdd, Nat.reduceMul, Nat.reduceSub, Nat.reduceLeDiff, Nat.reduceLT, reduceCtorEq]
    refine aw_if rfl (fun h => ?_) (fun h => ?_)
    · have h : x.text = [42] := by simpa using h
      rw [if_pos h] at hE
      refine aw_rg rfl ?_  -- r16
      simp only [go_sem, reduceIte, Nat.reduceEqDiff, Nat.reduceAdd, Nat.reduceMul, Nat.reduceSub, Nat.reduceLeDiff, Nat.reduceLT, reduceCtorEq, h4]
      exact ⟨_, ⟨rfl, rfl⟩, rfl, hE.symm⟩
    have h42 : ¬ x.text = [42] := by simpa using h
    rw [if_neg h42] at hE
    refine aw_sr rfl ?_  -- r17 @fold.go:70
    simp only [go_sem, reduceIte, Nat.reduceEqDiff, Nat.reduceAdd, Nat.reduceMul, Nat.reduceSub, Nat.reduceLeDiff, Nat.reduceLT, reduceCtorEq]
    refine aw_if rfl (fun h => ?_) (fun h => ?_)
    · have h : x.text = [60] := by simpa using h
      rw [if_pos h] at hE
      refine aw_sr rfl ?_  -- r18 @fold.go:71
      simp only [go_sem, reduceIte, Nat.reduceEqDiff, Nat.reduceAdd, Nat.reduceMul, Nat.reduceSub, Nat.reduceLeDiff, Nat.reduceLT, reduceCtorEq, h2, h3, h4]
      refine goA_q (q_truth _) ?_
      simp only [go_sem, reduceIte, Nat.reduceEqDiff, Nat.reduceAdd, Nat.reduceMul, Nat.reduceSub, Nat.reduceLeDiff, Nat.reduceLT, reduceCtorEq, h2, h3, h4]
      refine aw_ret ⟨trivial, ?_⟩
      simp only [go_sem, reduceIte, Nat.reduceEqDiff, Nat.reduceAdd, Nat.reduceMul, Nat.reduceSub, Nat.reduceLeDiff, Nat.reduceLT, reduceCtorEq, resL, resOf, hget_hset_self h2]
      refine ⟨_, rfl, ?_, sub_hset_fresh hb2' (sub_trans hsB hs2)⟩
      rw [← hE]; exact Vle.refl _
    have h60 : ¬ x.text = [60] := by simpa using h
    rw [if_neg h60] at hE
    refine aw_mid (fun f' G' => FSub [(92, .bool (decide (x.text = [47]) || decide (x.text = [37]))), (1, .ptr b1 0), (2, .ptr b2 0), (4, .ptr b4 0), (5, .int .i64 a.num)] f' ∧ G' = B2) ?_ ?_
    · refine aw_sr rfl ?_  -- r19 @fold.go:72
      simp only [go_sem, reduceIte, Nat.reduceEqDiff, Nat.reduceAdd, Nat.reduceMul, Nat.reduceSub, Nat.reduceLeDiff, Nat.reduceLT, reduceCtorEq]
      refine aw_if rfl (fun h => ?_) (fun h => ?_)
      · refine aw_skip ⟨⟨?_, rfl, rfl, rfl, rfl⟩, rfl⟩
        have h : x.text = [47] := by simpa using h
        show some (V.bool (decide (x.text = [47]))) = _
        rw [h]; rfl
      · have h : ¬ x.text = [47] := by simpa using h
        refine aw_rg rfl ?_  -- r20 @fold.go:72
        simp only [go_sem, reduceIte, Nat.reduceEqDiff, Nat.reduceAdd, Nat.reduceMul, Nat.reduceSub, Nat.reduceLeDiff, Nat.reduceLT, reduceCtorEq]
        refine ⟨⟨?_, rfl, rfl, rfl, rfl⟩, rfl⟩
        show some (V.bool (decide (x.text = [37]))) = _
        rw [decide_eq_false h, Bool.false_or]
    intro f' G' ⟨hf, hg⟩
    rw [hg]
    refine AW.of_fsub hf ?_
    refine aw_if rfl (fun h => ?_) (fun h => ?_)
    · refine aw_seq fun K10 hK10 => ?_
      refine aw_sr rfl ?_  -- r21 @fold.go:73
      simp only [go_sem, reduceIte, Nat.reduceEqDiff, Nat.reduceAdd, Nat.reduceMul, Nat.reduceSub, Nat.reduceLeDiff, Nat.reduceLT, reduceCtorEq, h4]
      refine aw_if rfl (fun h0 => ?_) (fun h0 => ?_)
      · have h0 : b.num = 0 := by simpa using h0
        have hE2 : x = twoF x a b := by
          by_cases h47 : x.text = [47]
          · rw [if_pos h47, if_pos h0] at hE; exact hE
          · have h37 : x.text = [37] := by simpa [h47] using h
            rw [if_neg h47, if_pos h37, if_pos h0] at hE; exact hE
        refine aw_sr rfl ?_  -- r22 @fold.go:74
        simp only [go_sem, reduceIte, Nat.reduceEqDiff, Nat.reduceAdd, Nat.reduceMul, Nat.reduceSub, Nat.reduceLeDiff, Nat.reduceLT, reduceCtorEq, h1, h2]
        refine aw_ret ⟨trivial, ?_⟩
        simp only [go_sem, reduceIte, Nat.reduceEqDiff, Nat.reduceAdd, Nat.reduceMul, Nat.reduceSub, Nat.reduceLeDiff, Nat.reduceLT, reduceCtorEq, resL, resOf, hget_hset_self h2]
        refine ⟨_, rfl, ?_, sub_hset_fresh hb2' (sub_trans hsB hs2)⟩
        rw [← hE2]; exact Vle.refl _
      have h0 : ¬ b.num = 0 := by simpa using h0
      refine aw_skip (hK10 _ _ ?_)
      refine aw_sr rfl ?_  -- r23 @fold.go:76
      simp only [go_sem, reduceIte, Nat.reduceEqDiff, Nat.reduceAdd, Nat.reduceMul, Nat.reduceSub, Nat.reduceLeDiff, Nat.reduceLT, reduceCtorEq, h1]
      refine aw_if rfl (fun h47 => ?_) (fun h47 => ?_)
      · have h47 : x.text = [47] := by simpa using h47
        rw [if_pos h47, if_neg h0] at hE
        refine aw_rg rfl ?_  -- r24 @fold.go:77
        simp only [go_sem, reduceIte, Nat.reduceEqDiff, Nat.reduceAdd, Nat.reduceMul, Nat.reduceSub, Nat.reduceLeDiff, Nat.reduceLT, reduceCtorEq, h4]
        exact ⟨h0, _, ⟨rfl, rfl⟩, rfl, hE.symm⟩
      · have h47 : ¬ x.text = [47] := by simpa using h47
        have h37 : x.text = [37] := by simpa [h47] using h
        rw [if_neg h47, if_pos h37, if_neg h0] at hE
        refine aw_rg rfl ?_  -- r25 @fold.go:79
        simp only [go_sem, reduceIte, Nat.reduceEqDiff, Nat.reduceAdd, Nat.reduceMul, Nat.reduceSub, Nat.reduceLeDiff, Nat.reduceLT, reduceCtorEq, h4]
        exact ⟨h0, _, ⟨rfl, rfl⟩, rfl, hE.symm⟩
    · have h : ¬ x.text = [47] ∧ ¬ x.text = [37] := by simpa using h
      rw [if_neg h.1, if_neg h.2] at hE
      refine aw_sr rfl ?_  -- r10 @fold.go:82
      simp only [go_sem, reduceIte, Nat.reduceEqDiff, Nat.reduceAdd, Nat.reduceMul, Nat.reduceSub, Nat.reduceLeDiff, Nat.reduceLT, reduceCtorEq, h1, h2]
      refine aw_ret ⟨trivial, ?_⟩
      simp only [go_sem, reduceIte, Nat.reduceEqDiff, Nat.reduceAdd, Nat.reduceMul, Nat.reduceSub, Nat.reduceLeDiff, Nat.reduceLT, reduceCtorEq, resL, resOf, hget_hset_self h2]
      refine ⟨_, rfl, ?_, sub_hset_fresh hb2' (sub_trans hsB hs2)⟩
      rw [← hE]; exact Vle.refl _
  intro f' G' ⟨n, hf, hg, hn⟩
  rw [hg]
  refine AW.of_fsub hf ?_
  refine aw_sr rfl ?_  -- r26 @fold.go:84
  simp only [go_sem, reduceIte, Nat.reduceEqDiff, Nat.reduceAdd, Nat.reduceMul, Nat.reduceSub, Nat.reduceLeDiff, Nat.reduceLT, reduceCtorEq, h2]
  refine aw_ret ⟨trivial, ?_⟩
  simp only [go_sem, reduceIte, Nat.reduceEqDiff, Nat.reduceAdd, Nat.reduceMul, Nat.reduceSub, Nat.reduceLeDiff, Nat.reduceLT, reduceCtorEq, resL, resOf, hget_hset_self h2]
  refine ⟨_, rfl, ?_, sub_hset_fresh hb2' (sub_trans hsB hs2)⟩
  rw [hn]; exact vle_lit _ _ _
end Go.Proofs.Ytlgfffngojlffaa

/- Folding: the parts. No conditions but sizes. -/
set_option linter.unusedSimpArgs false
set_option linter.unusedVariables false
namespace Go.Proofs.Ytlgfffngojlffaa
open Go.Proofs.YtlgfffngojlffaaV
set_option maxHeartbeats 400000
set_option maxRecDepth 100000
/-- What is made of an expression whose parts are folded. -/
def fold1 (x : Ex) : Ex :=
  match x.args with
  | c :: y :: z :: _ => if x.kind = 7 ∧ c.kind = 3 ∧ litF c = true then (if c.num = 1 then (if (freeF z [] []).isEmpty = true then y else x) else if (freeF y [] []).isEmpty = true then z else x) else x
  | [a] => if x.kind = 8 ∧ x.text = [110, 111, 116] ∧ a.kind = 3 ∧ litF a = true then truthF (decide (a.num = 0)) else x
  | [a, b] => if x.kind = 8 ∧ litF a = true ∧ a.kind = b.kind ∧ litF b = true then twoF x a b else x
  | [] => x
def nmB (b : Bool) (x : Nms) : Nms := if b = true then (x.1, x.1.isEmpty) else x
def tyB (b : Bool) (x : Typs) : Typs := if b = true then (x.1, x.1.isEmpty) else x
mutual
def fldF (b : Bool) : Ex → Ex | .mk k n t nm ty ar anl ms mnl p => fold1 (.mk k n t (nmB b nm) (tyB b ty) (fldsF b ar) ar.isEmpty (fldM b ms) ms.isEmpty p)
def fldsF (b : Bool) : List Ex → List Ex | [] => [] | x :: xs => fldF b x :: fldsF b xs
def fldA (b : Bool) : Arm → Arm | .mk p x => .mk p (fldF b x)
def fldM (b : Bool) : List Arm → List Arm | [] => [] | m :: ms => fldA b m :: fldM b ms
end
theorem fldsF_map (b : Bool) : ∀ l, fldsF b l = l.map (fldF b)
  | [] => rfl
  | x :: l => by rw [fldsF, fldsF_map b l]; rfl
theorem fldM_map (b : Bool) : ∀ l, fldM b l = l.map (fldA b)
  | [] => rfl
  | x :: l => by rw [fldM, fldM_map b l]; rfl
/-- An expression of whose parts each is folded. -/
def prtF (b : Bool) (e : Ex) : Ex := .mk e.kind e.num e.text (nmB b e.names) (tyB b e.types) (e.args.map (fldF b)) e.args.isEmpty (e.arms.map (fldA b)) e.arms.isEmpty e.pos
theorem fldF_eq (b : Bool) (e : Ex) : fldF b e = fold1 (prtF b e) := by cases e; rw [fldF, fldsF_map, fldM_map]; rfl
theorem fldA_eq (b : Bool) (m : Arm) : fldA b m = .mk m.pat (fldF b m.body) := by cases m; rw [fldA]; rfl
theorem wid_typ (l : List Typ) : wid 3 (l.map eTyp) := wid_map (g := eTyp) (fun _ => by simp [eTyp_eq]) _
theorem sca_typ (l : List Typ) : sca (l.map eTyp) := sca_map (g := eTyp) (fun a x hx => by simp [eTyp_eq] at hx; rcases hx with rfl | rfl | rfl <;> rfl) _
theorem sca_ex1 (a : Ex) : sca [cEx a] := by simp [sca, scalarV]
theorem sca_arm1 (a : Arm) : sca [cPat a.pat ++ cEx a.body] := by simp [sca, scalarV]
theorem set_facts {H1 H2 : Heap} {b : Nat} {x y : AObj} (h : hset H1 b x = H2) (hb : hget H1 b = some y) : hget H2 b = some x ∧ (∀ b' o, hget H1 b' = some o → ¬ b' = b → hget H2 b' = some o) ∧ (∀ G, hget G b = none → Sub G H1 → Sub G H2) ∧ (∀ G n t, (∀ e c, y ≠ .top e c) → Rm G H1 n t → Rm G H2 n t) := by
  subst h
  exact ⟨hget_hset_self hb, fun b' o h hn => hset_keep h hn, fun G h hs => sub_hset_fresh h hs, fun G n t hy hr => hr.hset hb hy⟩
theorem q_FParts (e : Ex) (he : OkEx e) (hA : ∀ a ∈ e.args, Quiet Try.prog 45 [.agg (cEx a)] (.agg (cEx (fldF true a)))) (hM : ∀ m ∈ e.arms, Quiet Try.prog 45 [.agg (cEx m.body)] (.agg (cEx (fldF true m.body)))) :
    Quiet Try.prog 49 [.agg (cEx e)] (.agg (cEx (prtF true e))) := by
  have g3 : bulk = 1048576 := rfl
  have hl1 := he.len
  have hl2 := he.mlen
  have hl3 := he.names.2.1
  have hl4 := oTypL.len he.types
  refine Quiet.weak fun G => ?_
  refine acall_body (rs := [.cell 2 63]) Try.func49 rfl rfl Try.ntmps49 (by kernel_rfl) (Nat.le_of_ble_eq_true rfl) ?_
  refine aw_sr rfl ?_  -- r0 @fold.go:23
  simp only [go_sem, reduceIte, Nat.reduceEqDiff, Nat.reduceAdd, Nat.reduceMul, Nat.reduceSub, Nat.reduceLeDiff, Nat.reduceLT, reduceCtorEq]
  intro b1 hb1
  intro b2 hb2
  refine aw_box2 hb1 hb2 fun B1 hs1 h1 h2 _ _ => ?_
  obtain ⟨_, hb2'⟩ := fresh_cons hb2
  refine aw_sr rfl ?_  -- r1 @fold.go:24
  simp only [go_sem, reduceIte, Nat.reduceEqDiff, Nat.reduceAdd, Nat.reduceMul, Nat.reduceSub, Nat.reduceLeDiff, Nat.reduceLT, reduceCtorEq, h1]
  intro b3 hb3
  have hbG : hget G b3 = none := by
    cases q : hget G b3 with
    | none => rfl
    | some o => have := hs1 _ _ q; rw [hb3] at this; cases this
  have n13 : ¬ b1 = b3 := ne_fresh h1 hb3
  have n23 : ¬ b2 = b3 := ne_fresh h2 hb3
  refine aw_box1 hb3 fun B2 hs2 h3 => ?_
  replace h1 := hs2 _ _ h1
  replace h2 := hs2 _ _ h2
  have hsB := sub_trans hs1 hs2
  refine aw_sr rfl ?_  -- r2 @fold.go:25
  simp only [go_sem, reduceIte, Nat.reduceEqDiff, Nat.reduceAdd, Nat.reduceMul, Nat.reduceSub, Nat.reduceLeDiff, Nat.reduceLT, reduceCtorEq, h1, h3]
  refine goP_rm (G := G) (Rm.start _ _ _) hsB ⟨rfl, rfl, by decide, by simp [wid], wid_nm _, sca_nm _, by simp only [List.length_map, List.length_nil]; omega, by simp only [List.length_map, List.length_nil]; omega⟩ fun t1 H1 hr1 hs1' hg1 => ?_
  have k1 := hg1.vars h1
  have k2 := hg1.vars h2
  have k3 := hg1.vars h3
  simp only [go_sem, reduceIte, Nat.reduceEqDiff, Nat.reduceAdd, Nat.reduceMul, Nat.reduceSub, Nat.reduceLeDiff, Nat.reduceLT, reduceCtorEq, k1, k3]
  generalize hH2 : hset H1 b3 _ = H2
  obtain ⟨m3, hk, hG, hR⟩ := set_facts hH2 k3
  replace h1 := hk _ _ k1 n13
  replace h2 := hk _ _ k2 n23
  have hsB2 := hG _ hbG hs1'
  refine aw_sr rfl ?_  -- r3 @fold.go:26
  simp only [go_sem, reduceIte, Nat.reduceEqDiff, Nat.reduceAdd, Nat.reduceMul, Nat.reduceSub, Nat.reduceLeDiff, Nat.reduceLT, reduceCtorEq, h1, m3]
  refine goP_rm (G := G) (Rm.start _ _ _) hsB2 ⟨rfl, rfl, by decide, by simp [wid], wid_typ _, sca_typ _, by simp only [List.length_map, List.length_nil]; omega, by simp only [List.length_map, List.length_nil]; omega⟩ fun t2 H3 hr2 hs3 hg2 => ?_
  have k1 := hg2.vars h1
  have k2 := hg2.vars h2
  have k3 := hg2.vars m3
  simp only [go_sem, reduceIte, Nat.reduceEqDiff, Nat.reduceAdd, Nat.reduceMul, Nat.reduceSub, Nat.reduceLeDiff, Nat.reduceLT, reduceCtorEq, k1, k3]
  generalize hH4 : hset H3 b3 _ = H4
  obtain ⟨m3, hk, hG, hR⟩ := set_facts hH4 k3
  replace h1 := hk _ _ k1 n13
  replace h2 := hk _ _ k2 n23
  have hsB4 := hG _ hbG hs3
  refine aw_sr rfl ?_  -- r4 @fold.go:27
  simp only [go_sem, reduceIte, Nat.reduceEqDiff, Nat.reduceAdd, Nat.reduceMul, Nat.reduceSub, Nat.reduceLeDiff, Nat.reduceLT, reduceCtorEq, m3]
  generalize hH5 : hset H4 b3 _ = H5
  obtain ⟨m3, hk, hG, hR⟩ := set_facts hH5 m3
  replace h1 := hk _ _ h1 n13
  replace h2 := hk _ _ h2 n23
  have hsB5 := hG _ hbG hsB4
  simp only [go_sem, reduceIte, Nat.reduceEqDiff, Nat.reduceAdd, Nat.reduceMul, Nat.reduceSub, Nat.reduceLeDiff, Nat.reduceLT, reduceCtorEq, m3]
  generalize hH6 : hset H5 b3 _ = H6
  obtain ⟨m3, hk, hG, hR⟩ := set_facts hH6 m3
  replace h1 := hk _ _ h1 n13
  replace h2 := hk _ _ h2 n23
  have hsB6 := hG _ hbG hsB5
  rw [List.isEmpty_map, List.isEmpty_map] at m3
  clear hH2 hH4 hH5 hH6 hk hG hR k1 k2 k3
  refine aw_seq fun K1 hK1 => ?_
  refine aw_sr rfl ?_  -- r5 @fold.go:28
  simp only [go_sem, reduceIte, Nat.reduceEqDiff, Nat.reduceAdd, Nat.reduceMul, Nat.reduceSub, Nat.reduceLeDiff, Nat.reduceLT, reduceCtorEq, h1]
  refine aw_range e.args.length (S := Tag × Heap) (fun i _ => [(1, .ptr b1 0), (2, .ptr b2 0), (3, .ptr b3 0), (20, .sl (e.args.map eEx) e.anl .no)]) (fun _ s => s.2)
    (fun i s => Rm G s.2 8 s.1 ∧ Sub G s.2 ∧ hget s.2 b1 = some (.vars (cEx e)) ∧ (∃ z, hget s.2 b2 = some (.vars z) ∧ z.length = 8) ∧ hget s.2 b3 = some (.vars [.int .i64 e.kind, .int .i64 e.num, .str e.text, .sl (e.names.1.map eNm) e.names.1.isEmpty t1, .sl (e.types.1.map eTyp) e.types.1.isEmpty t2, .sl (((e.args.take i).map (fldF true)).map eEx) (e.args.take i).isEmpty s.1, .sl [] true .full, .int .i64 e.pos])) (.full, H6) (by omega) ?_ (fun _ _ h => h) ⟨Rm.start _ _ _, hsB6, h1, ⟨_, h2, rfl⟩, by simp only [List.take_zero, List.map_nil, List.isEmpty_nil]; exact m3⟩ rfl (fun _ _ => rfl) ?_ ?_ (by decide)
  · simp only [go_sem, reduceIte, Nat.reduceEqDiff, Nat.reduceAdd, Nat.reduceMul, Nat.reduceSub, Nat.reduceLeDiff, Nat.reduceLT, reduceCtorEq, Int.natCast_zero]
  · intro i ⟨t, H⟩ hi ⟨hr, hs, j1, ⟨z, j2, hz⟩, j3⟩
    simp only at hr hs j1 j2 j3 ⊢
    have hm := List.getElem_mem hi
    have hq := hA _ hm
    have htk : e.args.take (i + 1) = e.args.take i ++ [e.args[i]] := List.take_succ_eq_append_getElem hi
    refine aw_sr rfl ?_  -- r7 @fold.go:28
    simp only [go_sem, reduceIte, Nat.reduceEqDiff, Nat.reduceAdd, Nat.reduceMul, Nat.reduceSub, Nat.reduceLeDiff, Nat.reduceLT, reduceCtorEq, getD_map hi, eEx_eq]
    refine ⟨⟨by omega, by omega, wid_ex _⟩, ?_⟩
    generalize e.args[i] = a at hq htk ⊢
    intro b5 hb5
    have n53 : ¬ b3 = b5 := ne_fresh j3 hb5
    refine aw_box1 hb5 fun B7 hs7 h5 => ?_
    refine aw_rgd [(0,true),(1,true),(2,true),(3,true),(4,true),(5,false),(6,true),(7,false)] mixed rfl (by kernel_rfl) ?_  -- r8 @fold.go:29
    simp only [go_sem, reduceIte, Nat.reduceEqDiff, Nat.reduceAdd, Nat.reduceMul, Nat.reduceSub, Nat.reduceLeDiff, Nat.reduceLT, reduceCtorEq, hs7 _ _ j3, h5]
    refine goQ_by hq ?_
    simp only [go_sem, reduceIte, Nat.reduceEqDiff, Nat.reduceAdd, Nat.reduceMul, Nat.reduceSub, Nat.reduceLeDiff, Nat.reduceLT, reduceCtorEq, hs7 _ _ j3, h5]
    refine goP_rm (hr.sub hs7) (sub_trans hs hs7) ⟨rfl, rfl, by decide, wid_ex _, wid_one (by simp), sca_ex1 _, by simp only [List.length_map, List.length_take, List.length_cons, List.length_nil]; omega, by simp only [List.length_map, List.length_take, List.length_cons, List.length_nil]; omega⟩ fun t8 H8 hr8 hs8 hg8 => ?_
    have k3 := hg8.vars (hs7 _ _ j3)
    have k1 := hg8.vars (hs7 _ _ j1)
    have k2 := hg8.vars (hs7 _ _ j2)
    simp only [go_sem, reduceIte, Nat.reduceEqDiff, Nat.reduceAdd, Nat.reduceMul, Nat.reduceSub, Nat.reduceLeDiff, Nat.reduceLT, reduceCtorEq, k3]
    generalize hH9 : hset H8 b3 _ = H9
    obtain ⟨m3, hk, hG, hR⟩ := set_facts hH9 k3
    refine ⟨(t8, H9), ⟨hR _ _ _ (fun _ _ q => by cases q) hr8, hG _ hbG hs8, hk _ _ k1 n13, ⟨_, hk _ _ k2 n23, hz⟩, ?_⟩, ?_, sub_rfl⟩
    · rw [htk, List.map_append, List.map_append, isE_append]
      simp only [List.map_cons, List.map_nil, eEx_eq, List.isEmpty_cons, Bool.and_false]
      exact m3
    · simp only [go_sem, reduceIte, Nat.reduceEqDiff, Nat.reduceAdd, Nat.reduceMul, Nat.reduceSub, Nat.reduceLeDiff, Nat.reduceLT, reduceCtorEq]
  intro ⟨t, H⟩ ⟨hr, hs, j1, ⟨z, j2, hz⟩, j3⟩
  simp only at hr hs j1 j2 j3 ⊢
  rw [List.take_length] at j3
  refine hK1 _ _ ?_
  refine aw_seq fun K2 hK2 => ?_
  refine aw_sr rfl ?_  -- r10 @fold.go:31
  simp only [go_sem, reduceIte, Nat.reduceEqDiff, Nat.reduceAdd, Nat.reduceMul, Nat.reduceSub, Nat.reduceLeDiff, Nat.reduceLT, reduceCtorEq, j1]
  refine aw_range e.arms.length (S := Tag × Heap) (fun i _ => [(2, .ptr b2 0), (3, .ptr b3 0), (35, .sl (e.arms.map eArm) e.mnl .no)]) (fun _ s => s.2)
    (fun i s => Rm G s.2 12 s.1 ∧ Sub G s.2 ∧ (∃ z, hget s.2 b2 = some (.vars z) ∧ z.length = 8) ∧ hget s.2 b3 = some (.vars [.int .i64 e.kind, .int .i64 e.num, .str e.text, .sl (e.names.1.map eNm) e.names.1.isEmpty t1, .sl (e.types.1.map eTyp) e.types.1.isEmpty t2, .sl ((e.args.map (fldF true)).map eEx) e.args.isEmpty t, .sl (((e.arms.take i).map (fldA true)).map eArm) (e.arms.take i).isEmpty s.1, .int .i64 e.pos])) (.full, H) (by omega) ?_ (fun _ _ h => h) ⟨Rm.start _ _ _, hs, ⟨_, j2, hz⟩, by simp only [List.take_zero, List.map_nil, List.isEmpty_nil]; exact j3⟩ rfl (fun _ _ => rfl) ?_ ?_ (by decide)
  · simp only [go_sem, reduceIte, Nat.reduceEqDiff, Nat.reduceAdd, Nat.reduceMul, Nat.reduceSub, Nat.reduceLeDiff, Nat.reduceLT, reduceCtorEq, Int.natCast_zero]
  · intro i ⟨t4, H4⟩ hi ⟨hr, hs, ⟨z, j2, hz⟩, j3⟩
    simp only at hr hs j2 j3 ⊢
    have hm := List.getElem_mem hi
    have hq := hM _ hm
    have htk : e.arms.take (i + 1) = e.arms.take i ++ [e.arms[i]] := List.take_succ_eq_append_getElem hi
    have hfa := fldA_eq true e.arms[i]
    refine aw_sr rfl ?_  -- r12 @fold.go:31
    simp only [go_sem, reduceIte, Nat.reduceEqDiff, Nat.reduceAdd, Nat.reduceMul, Nat.reduceSub, Nat.reduceLeDiff, Nat.reduceLT, reduceCtorEq, getD_map hi, eArm_eq]
    refine ⟨⟨by omega, by omega, wid_arm _⟩, ?_⟩
    generalize hga : e.arms[i] = ga at hq htk hfa ⊢
    intro b7 hb7
    refine aw_box1 hb7 fun B7 hs7 h7 => ?_
    refine aw_rgd [(0,true),(1,true),(2,true),(3,true),(4,true),(5,true),(6,true),(7,true),(8,true),(9,false),(10,true),(11,false)] mixed rfl (by kernel_rfl) ?_  -- r13 @fold.go:32
    simp only [go_sem, reduceIte, Nat.reduceEqDiff, Nat.reduceAdd, Nat.reduceMul, Nat.reduceSub, Nat.reduceLeDiff, Nat.reduceLT, reduceCtorEq, hs7 _ _ j3, h7]
    refine goQ_by hq ?_
    simp only [go_sem, reduceIte, Nat.reduceEqDiff, Nat.reduceAdd, Nat.reduceMul, Nat.reduceSub, Nat.reduceLeDiff, Nat.reduceLT, reduceCtorEq, hs7 _ _ j3, h7]
    refine goP_rm (hr.sub hs7) (sub_trans hs hs7) ⟨rfl, rfl, by decide, wid_arm _, wid_one (by simp), by simp [sca, scalarV], by simp only [List.length_map, List.length_take, List.length_cons, List.length_nil]; omega, by simp only [List.length_map, List.length_take, List.length_cons, List.length_nil]; omega⟩ fun t8 H8 hr8 hs8 hg8 => ?_
    have k3 := hg8.vars (hs7 _ _ j3)
    have k2 := hg8.vars (hs7 _ _ j2)
    simp only [go_sem, reduceIte, Nat.reduceEqDiff, Nat.reduceAdd, Nat.reduceMul, Nat.reduceSub, Nat.reduceLeDiff, Nat.reduceLT, reduceCtorEq, k3]
    generalize hH9 : hset H8 b3 _ = H9
    obtain ⟨m3, hk, hG, hR⟩ := set_facts hH9 k3
    refine ⟨(t8, H9), ⟨hR _ _ _ (fun _ _ q => by cases q) hr8, hG _ hbG hs8, ⟨_, hk _ _ k2 n23, hz⟩, ?_⟩, ?_, sub_rfl⟩
    · rw [htk, List.map_append, List.map_append, isE_append]
      simp only [List.map_cons, List.map_nil, hfa, eArm_eq, List.isEmpty_cons, Bool.and_false]
      exact m3
    · simp only [go_sem, reduceIte, Nat.reduceEqDiff, Nat.reduceAdd, Nat.reduceMul, Nat.reduceSub, Nat.reduceLeDiff, Nat.reduceLT, reduceCtorEq]
  intro ⟨t4, H4⟩ ⟨hr, hs, ⟨z, j2, hz⟩, j3⟩
  simp only at hr hs j2 j3 ⊢
  rw [List.take_length] at j3
  refine hK2 _ _ ?_
  refine aw_sr rfl ?_  -- r15 @fold.go:34
  obtain ⟨z0, z1, z2, z3, z4, z5, z6, z7, rfl⟩ : ∃ a b c d e f g h, z = [a, b, c, d, e, f, g, h] := by
    rcases z with _ | ⟨a, _ | ⟨b, _ | ⟨c, _ | ⟨d, _ | ⟨e, _ | ⟨f, _ | ⟨g, _ | ⟨h, _ | ⟨_, _⟩⟩⟩⟩⟩⟩⟩⟩⟩ <;> simp at hz
    exact ⟨_, _, _, _, _, _, _, _, rfl⟩
  simp only [go_sem, reduceIte, Nat.reduceEqDiff, Nat.reduceAdd, Nat.reduceMul, Nat.reduceSub, Nat.reduceLeDiff, Nat.reduceLT, reduceCtorEq, j2, j3]
  refine aw_ret ⟨trivial, ?_⟩
  simp only [go_sem, reduceIte, Nat.reduceEqDiff, Nat.reduceAdd, Nat.reduceMul, Nat.reduceSub, Nat.reduceLeDiff, Nat.reduceLT, reduceCtorEq, resL, resOf, hget_hset_self j2]
  refine ⟨_, rfl, ?_, sub_hset_fresh hb2' hs⟩
  exact Vle.aggL (.cons (Vle.refl _) (.cons (Vle.refl _) (.cons (Vle.refl _) (.cons Vle.untag (.cons Vle.untag (.cons Vle.untag (.cons Vle.untag (.cons (Vle.refl _) .nil))))))))
end Go.Proofs.Ytlgfffngojlffaa

/- Folding: an expression. No conditions but sizes. -/
set_option linter.unusedSimpArgs false
set_option linter.unusedVariables false
namespace Go.Proofs.Ytlgfffngojlffaa
open Go.Proofs.YtlgfffngojlffaaV
set_option maxHeartbeats 400000
set_option maxRecDepth 100000
def g7 (x : Ex) : Bool := match x.args with
  | c :: y :: z :: _ => decide (x.kind = 7) && (decide (c.kind = 3) && (litF c && (if c.num = 1 then (freeF z [] []).isEmpty else (freeF y [] []).isEmpty)))
  | _ => false
theorem le30 : decide ((3 : Int) ≤ ((0 : Nat) : Int)) = false := rfl
theorem le31 : decide ((3 : Int) ≤ ((0 + 1 : Nat) : Int)) = false := rfl
theorem le32 : decide ((3 : Int) ≤ ((0 + 1 + 1 : Nat) : Int)) = false := rfl
theorem goG_no {P : Go.Program} {ops : List Oper} {x : R} {q : Bool} {d : Option Tmp} {op : Op} {r : Go.Proofs.YtlgfffngojlffaaV.Rest} {f : Go.Proofs.YtlgfffngojlffaaV.Frame} {G : Heap} {K : Kf} (h : ∀ v, go P ops r (fput f d (.opt false v)) G K) : goG P ops x false q d op r f G K := by
  unfold goG
  split
  · exact ⟨fun e => (by cases e), h _⟩
  · split
    · exact ⟨fun e => (by cases e), fun _ => ⟨.any, h _⟩⟩
    · split
      · split
        · exact ⟨.any, fun e => (by cases e), h _⟩
        · exact ⟨rfl, h _⟩
      · exact ⟨rfl, h _⟩
theorem goQg_no {P : Go.Program} {ops : List Oper} {n : FuncId} {xs : List V} {d : Option Tmp} {r : Go.Proofs.YtlgfffngojlffaaV.Rest} {f : Go.Proofs.YtlgfffngojlffaaV.Frame} {G : Heap} {K : Kf} (h : ∀ v, go P ops r (fput f d (.opt false v)) G K) : goQg P ops n xs false d r f G K := ⟨.any, fun e => (by cases e), h _⟩
theorem w10 : IntKind.i64.wrap (1 + 0) = 1 := by decide
theorem w11 : IntKind.i64.wrap (1 + 1) = 2 := by decide
theorem goH_no {P : Go.Program} {ops : List Oper} {n : FuncId} {xs : List V} {d : Option Tmp} {r : Go.Proofs.YtlgfffngojlffaaV.Rest} {f : Go.Proofs.YtlgfffngojlffaaV.Frame} {G : Heap} {K : Kf} (h : ∀ v, go P ops r (fput f d (.opt false v)) G K) : goH P ops n xs false d r f G K := ⟨fun e => (by cases e), fun _ => ⟨.any, h _⟩⟩
theorem lit3 {c : Ex} (hk : c.kind = 3) : litF c = true ↔ c.num = 0 ∨ c.num = 1 := by simp [litF, hk]
theorem len_isE {A : Type} (l : List A) : decide (((l.length : Nat) : Int) = 0) = l.isEmpty := by cases l <;> simp <;> omega
theorem g7_off {x : Ex} (h : ¬ x.kind = 7) : g7 x = false := by
  unfold g7
  split
  · simp [h]
  · rfl
def g8 (x : Ex) : Bool := match x.args with
  | [a] => decide (x.kind = 8) && (decide (x.text = [110, 111, 116]) && (decide (a.kind = 3) && litF a))
  | _ => false
def g9 (x : Ex) : Bool := match x.args with
  | [a, b] => decide (x.kind = 8) && (litF a && (decide (a.kind = b.kind) && litF b))
  | _ => false
theorem fold1_7 {x : Ex} (h : g7 x = true) : ∃ c y z l, x.args = c :: y :: z :: l ∧ ((c.num = 1 ∧ fold1 x = y) ∨ (c.num = 0 ∧ fold1 x = z)) := by
  unfold g7 at h
  split at h
  · rename_i c y z l hxa
    simp only [Bool.and_eq_true, decide_eq_true_eq] at h
    obtain ⟨h1, h2, h3, h4⟩ := h
    refine ⟨c, y, z, l, hxa, ?_⟩
    unfold fold1
    rw [hxa]
    simp only [h1, h2, h3, and_self, if_true]
    rcases (lit3 h2).1 h3 with n0 | n0
    · rw [n0] at h4
      have h4 : (freeF y [] []).isEmpty = true := by simpa using h4
      exact .inr ⟨n0, by simp [n0, h4]⟩
    · rw [n0] at h4
      have h4 : (freeF z [] []).isEmpty = true := by simpa using h4
      exact .inl ⟨n0, by simp [n0, h4]⟩
  · cases h
theorem fold1_8 {x : Ex} (h : g8 x = true) : ∃ a, x.args = [a] ∧ fold1 x = truthF (decide (a.num = 0)) := by
  unfold g8 at h
  split at h
  · rename_i a hxa
    simp only [Bool.and_eq_true, decide_eq_true_eq] at h
    obtain ⟨h1, h2, h3, h4⟩ := h
    refine ⟨a, hxa, ?_⟩
    unfold fold1
    rw [hxa]
    simp [h1, h2, h3, h4]
  · cases h
theorem fold1_9 {x : Ex} (h : g9 x = true) : ∃ a b, x.args = [a, b] ∧ fold1 x = twoF x a b := by
  unfold g9 at h
  split at h
  · rename_i a b hxa
    simp only [Bool.and_eq_true, decide_eq_true_eq] at h
    obtain ⟨h1, h2, h3, h4⟩ := h
    refine ⟨a, b, hxa, ?_⟩
    unfold fold1
    rw [hxa]
    simp [h1, h2, h3, h4]
  · cases h
theorem fold1_0 {x : Ex} (h7 : g7 x = false) (h8 : g8 x = false) (h9 : g9 x = false) : fold1 x = x := by
  unfold fold1
  split
  · rename_i c y z l hxa
    split
    · rename_i h
      simp only [g7, hxa, h.1, h.2.1, h.2.2, decide_true, Bool.true_and] at h7
      split
      · rename_i n0
        rw [if_pos n0] at h7
        rw [if_neg (by rw [h7]; decide)]
      · rename_i n0
        rw [if_neg n0] at h7
        rw [if_neg (by rw [h7]; decide)]
    · rfl
  · rename_i a hxa
    split
    · rename_i h
      simp [g8, hxa, h.1, h.2.1, h.2.2.1, h.2.2.2] at h8
    · rfl
  · rename_i a b hxa
    split
    · rename_i h
      simp [g9, hxa, h.1, h.2.1, h.2.2.1, h.2.2.2] at h9
    · rfl
  · rfl
theorem g8_off {x : Ex} (h : ¬ x.kind = 8) : g8 x = false := by
  unfold g8
  split
  · simp [h]
  · rfl
theorem g8_off2 {x : Ex} (h : ¬ x.args.length = 1) : g8 x = false := by
  unfold g8
  split
  · rename_i hxa; rw [hxa] at h; simp at h
  · rfl
theorem g9_off {x : Ex} (h : ¬ x.kind = 8) : g9 x = false := by
  unfold g9
  split
  · simp [h]
  · rfl
theorem g9_off2 {x : Ex} (h : ¬ x.args.length = 2) : g9 x = false := by
  unfold g9
  split
  · rename_i hxa; rw [hxa] at h; simp at h
  · rfl
theorem eq11 : decide (((0 + 1 : Nat) : Int) = 1) = true := rfl
theorem eq22 : decide (((0 + 1 + 1 : Nat) : Int) = 2) = true := rfl
theorem lt01 : ((0 : Int) < ((0 + 1 : Nat) : Int)) = True := by simp
theorem lt02 : ((0 : Int) < ((0 + 1 + 1 : Nat) : Int)) = True := by simp
theorem lt12 : ((1 : Int) < ((0 + 1 + 1 : Nat) : Int)) = True := by simp
theorem w20 : IntKind.i64.wrap (2 - 0) = 2 := by decide
theorem w21 : IntKind.i64.wrap (2 - 1) = 1 := by decide
theorem q_FExpr1 (e x : Ex) (hk : x.kind = e.kind) (ht : x.text = e.text) (hx : OkEx x) (hsz : x.sz ≤ bulk) (hP : Quiet Try.prog 49 [.agg (cEx e)] (.agg (cEx x))) :
    Quiet Try.prog 45 [.agg (cEx e)] (.agg (cEx (fold1 x))) := by
  have g3 : bulk = 1048576 := rfl
  have hl := hx.len
  refine Quiet.weak fun G => ?_
  refine acall_body (rs := [.cell 2 63]) Try.func45 rfl rfl Try.ntmps45 (by kernel_rfl) (Nat.le_of_ble_eq_true rfl) ?_
  refine aw_sr rfl ?_  -- r0 @fold.go:38
  simp only [go_sem, reduceIte, Nat.reduceEqDiff, Nat.reduceAdd, Nat.reduceMul, Nat.reduceSub, Nat.reduceLeDiff, Nat.reduceLT, reduceCtorEq]
  intro b1 hb1
  intro b2 hb2
  refine aw_box2 hb1 hb2 fun B1 hs1 h1 h2 _ _ => ?_
  obtain ⟨_, hb2'⟩ := fresh_cons hb2
  refine aw_sr rfl ?_  -- r1 @fold.go:39
  simp only [go_sem, reduceIte, Nat.reduceEqDiff, Nat.reduceAdd, Nat.reduceMul, Nat.reduceSub, Nat.reduceLeDiff, Nat.reduceLT, reduceCtorEq, h1]
  refine goA_q hP ?_
  simp only [go_sem, reduceIte, Nat.reduceEqDiff, Nat.reduceAdd, Nat.reduceMul, Nat.reduceSub, Nat.reduceLeDiff, Nat.reduceLT, reduceCtorEq, h1]
  intro b3 hb3
  refine aw_box1 hb3 fun B2 hs2 h3 => ?_
  replace h1 := hs2 _ _ h1
  replace h2 := hs2 _ _ h2
  have hsB := sub_trans hs1 hs2
  refine aw_seq fun K3 hK3 => ?_
  refine aw_block ?_  -- 0
  refine aw_mid (fun f' G' => FSub [(1, .ptr b1 0), (2, .ptr b2 0), (3, .ptr b3 0), (6, .bool (g7 x))] f' ∧ G' = B2) ?_ ?_
  · by_cases k7 : x.kind = 7
    · have k7e : e.kind = 7 := hk ▸ k7
      rcases hxa : x.args with _ | ⟨c, _ | ⟨y, _ | ⟨z, l⟩⟩⟩
      · refine aw_rgd [(0,true),(1,true),(2,true),(3,true),(4,true),(5,true),(6,true),(7,true),(8,true),(9,true),(10,true),(11,true),(12,true),(13,true),(14,true),(15,true),(16,true),(17,true),(18,true),(19,true),(20,true),(21,true),(22,true),(23,true),(24,true),(25,true),(26,true),(27,true),(28,true),(29,true),(30,true),(31,true),(32,true),(33,true),(34,true),(35,true),(36,true),(37,true),(38,true),(39,true)] mixed rfl (by kernel_rfl) ?_  -- r2 @fold.go:41
        simp only [go_sem, reduceIte, Nat.reduceEqDiff, Nat.reduceAdd, Nat.reduceMul, Nat.reduceSub, Nat.reduceLeDiff, Nat.reduceLT, reduceCtorEq, h1, h3, k7e, hxa, List.map_nil, le30, false_imp_iff]
        repeat' first
          | (refine goG_no fun v => ?_
             simp only [go_sem, reduceIte, Nat.reduceEqDiff, Nat.reduceAdd, Nat.reduceMul, Nat.reduceSub, Nat.reduceLeDiff, Nat.reduceLT, reduceCtorEq, h1, h3, false_imp_iff])
          | (refine goQg_no fun v => ?_
             simp only [go_sem, reduceIte, Nat.reduceEqDiff, Nat.reduceAdd, Nat.reduceMul, Nat.reduceSub, Nat.reduceLeDiff, Nat.reduceLT, reduceCtorEq, h1, h3, false_imp_iff])
        exact ⟨⟨rfl, rfl, rfl, by simp [g7, hxa]; rfl⟩, rfl⟩
      · refine aw_rgd [(0,true),(1,true),(2,true),(3,true),(4,true),(5,true),(6,true),(7,true),(8,true),(9,true),(10,true),(11,true),(12,true),(13,true),(14,true),(15,true),(16,true),(17,true),(18,true),(19,true),(20,true),(21,true),(22,true),(23,true),(24,true),(25,true),(26,true),(27,true),(28,true),(29,true),(30,true),(31,true),(32,true),(33,true),(34,true),(35,true),(36,true),(37,true),(38,true),(39,true)] mixed rfl (by kernel_rfl) ?_  -- r2 @fold.go:41
        simp only [go_sem, reduceIte, Nat.reduceEqDiff, Nat.reduceAdd, Nat.reduceMul, Nat.reduceSub, Nat.reduceLeDiff, Nat.reduceLT, reduceCtorEq, h1, h3, k7e, hxa, List.map_cons, List.map_nil, le31, false_imp_iff]
        repeat' first
          | (refine goG_no fun v => ?_
             simp only [go_sem, reduceIte, Nat.reduceEqDiff, Nat.reduceAdd, Nat.reduceMul, Nat.reduceSub, Nat.reduceLeDiff, Nat.reduceLT, reduceCtorEq, h1, h3, false_imp_iff])
          | (refine goQg_no fun v => ?_
             simp only [go_sem, reduceIte, Nat.reduceEqDiff, Nat.reduceAdd, Nat.reduceMul, Nat.reduceSub, Nat.reduceLeDiff, Nat.reduceLT, reduceCtorEq, h1, h3, false_imp_iff])
        exact ⟨⟨rfl, rfl, rfl, by simp [g7, hxa]; rfl⟩, rfl⟩
      · refine aw_rgd [(0,true),(1,true),(2,true),(3,true),(4,true),(5,true),(6,true),(7,true),(8,true),(9,true),(10,true),(11,true),(12,true),(13,true),(14,true),(15,true),(16,true),(17,true),(18,true),(19,true),(20,true),(21,true),(22,true),(23,true),(24,true),(25,true),(26,true),(27,true),(28,true),(29,true),(30,true),(31,true),(32,true),(33,true),(34,true),(35,true),(36,true),(37,true),(38,true),(39,true)] mixed rfl (by kernel_rfl) ?_  -- r2 @fold.go:41
        simp only [go_sem, reduceIte, Nat.reduceEqDiff, Nat.reduceAdd, Nat.reduceMul, Nat.reduceSub, Nat.reduceLeDiff, Nat.reduceLT, reduceCtorEq, h1, h3, k7e, hxa, List.map_cons, List.map_nil, le32, false_imp_iff]
        repeat' first
          | (refine goG_no fun v => ?_
             simp only [go_sem, reduceIte, Nat.reduceEqDiff, Nat.reduceAdd, Nat.reduceMul, Nat.reduceSub, Nat.reduceLeDiff, Nat.reduceLT, reduceCtorEq, h1, h3, false_imp_iff])
          | (refine goQg_no fun v => ?_
             simp only [go_sem, reduceIte, Nat.reduceEqDiff, Nat.reduceAdd, Nat.reduceMul, Nat.reduceSub, Nat.reduceLeDiff, Nat.reduceLT, reduceCtorEq, h1, h3, false_imp_iff])
        exact ⟨⟨rfl, rfl, rfl, by simp [g7, hxa]; rfl⟩, rfl⟩
      · have hw : wid 8 (cEx c :: cEx y :: cEx z :: List.map eEx l) := by have := wid_ex x.args; rw [hxa] at this; simpa [eEx_eq] using this
        have hle : decide ((3 : Int) ≤ ((l.length + 1 + 1 + 1 : Nat) : Int)) = true := by simp; omega
        have hl0 : ((0 : Int) < ((l.length + 1 + 1 + 1 : Nat) : Int)) = True := by simp; omega
        have hl1 : ((1 : Int) < ((l.length + 1 + 1 + 1 : Nat) : Int)) = True := by simp; omega
        have hl2 : ((2 : Int) < ((l.length + 1 + 1 + 1 : Nat) : Int)) = True := by simp; omega
        have hmy : y ∈ x.args := by rw [hxa]; simp
        have hmz : z ∈ x.args := by rw [hxa]; simp
        have hqc := q_literal c
        have hqy := q_Free y (hx.arg hmy) (Nat.le_trans (Nat.le_of_lt (Ex.sz_arg hmy)) hsz)
        have hqz := q_Free z (hx.arg hmz) (Nat.le_trans (Nat.le_of_lt (Ex.sz_arg hmz)) hsz)
        by_cases k3 : c.kind = 3
        · by_cases hc : litF c = true
          · rcases (lit3 k3).1 hc with n0 | n0
            · simp only [cEx, k3, n0] at hqc
              refine aw_rgd [(0,true),(1,true),(2,true),(3,true),(4,true),(5,true),(6,true),(7,true),(8,true),(9,true),(10,true),(11,true),(12,true),(13,true),(14,true),(15,true),(16,true),(17,true),(18,true),(19,true),(20,true),(21,true),(22,true),(23,true),(24,true),(25,true),(26,true),(27,true),(28,true),(29,true),(30,true),(31,true),(32,true),(33,true),(34,true),(35,true),(36,true),(37,true),(38,true),(39,true)] mixed rfl (by kernel_rfl) ?_  -- r2 @fold.go:41
              simp only [go_sem, reduceIte, Nat.reduceEqDiff, Nat.reduceAdd, Nat.reduceMul, Nat.reduceSub, Nat.reduceLeDiff, Nat.reduceLT, reduceCtorEq, h1, h3, k7e, hxa, k3, hc, eEx_eq, List.map_cons, toNat0, toNat1, toNat2, List.getD_cons_zero, List.getD_cons_succ, hle, hl0, hl1, hl2, hw, Int.le_refl, w10, w11, true_imp_iff, false_imp_iff, n0]
              refine goQg_by (fun _ => hqc) ?_
              simp only [go_sem, reduceIte, Nat.reduceEqDiff, Nat.reduceAdd, Nat.reduceMul, Nat.reduceSub, Nat.reduceLeDiff, Nat.reduceLT, reduceCtorEq, h1, h3, k7e, hxa, k3, hc, eEx_eq, List.map_cons, toNat0, toNat1, toNat2, List.getD_cons_zero, List.getD_cons_succ, hle, hl0, hl1, hl2, hw, Int.le_refl, w10, w11, true_imp_iff, false_imp_iff, n0]
              refine ⟨by decide, ?_⟩
              refine goQg_by (fun _ => hqy) ?_
              simp only [go_sem, reduceIte, Nat.reduceEqDiff, Nat.reduceAdd, Nat.reduceMul, Nat.reduceSub, Nat.reduceLeDiff, Nat.reduceLT, reduceCtorEq, h1, h3, k7e, hxa, k3, hc, eEx_eq, List.map_cons, toNat0, toNat1, toNat2, List.getD_cons_zero, List.getD_cons_succ, hle, hl0, hl1, hl2, hw, Int.le_refl, w10, w11, true_imp_iff, false_imp_iff, n0]
              refine ⟨⟨rfl, rfl, rfl, ?_⟩, rfl⟩
              have hg : g7 x = (freeF y [] []).isEmpty := by simp [g7, hxa, k7, k3, hc, n0]
              rw [hg, ← len_isE]; rfl
            · simp only [cEx, k3, n0] at hqc
              refine aw_rgd [(0,true),(1,true),(2,true),(3,true),(4,true),(5,true),(6,true),(7,true),(8,true),(9,true),(10,true),(11,true),(12,true),(13,true),(14,true),(15,true),(16,true),(17,true),(18,true),(19,true),(20,true),(21,true),(22,true),(23,true),(24,true),(25,true),(26,true),(27,true),(28,true),(29,true),(30,true),(31,true),(32,true),(33,true),(34,true),(35,true),(36,true),(37,true),(38,true),(39,true)] mixed rfl (by kernel_rfl) ?_  -- r2 @fold.go:41
              simp only [go_sem, reduceIte, Nat.reduceEqDiff, Nat.reduceAdd, Nat.reduceMul, Nat.reduceSub, Nat.reduceLeDiff, Nat.reduceLT, reduceCtorEq, h1, h3, k7e, hxa, k3, hc, eEx_eq, List.map_cons, toNat0, toNat1, toNat2, List.getD_cons_zero, List.getD_cons_succ, hle, hl0, hl1, hl2, hw, Int.le_refl, w10, w11, true_imp_iff, false_imp_iff, n0]
              refine goQg_by (fun _ => hqc) ?_
              simp only [go_sem, reduceIte, Nat.reduceEqDiff, Nat.reduceAdd, Nat.reduceMul, Nat.reduceSub, Nat.reduceLeDiff, Nat.reduceLT, reduceCtorEq, h1, h3, k7e, hxa, k3, hc, eEx_eq, List.map_cons, toNat0, toNat1, toNat2, List.getD_cons_zero, List.getD_cons_succ, hle, hl0, hl1, hl2, hw, Int.le_refl, w10, w11, true_imp_iff, false_imp_iff, n0]
              refine ⟨by decide, ?_⟩
              refine goQg_by (fun _ => hqz) ?_
              simp only [go_sem, reduceIte, Nat.reduceEqDiff, Nat.reduceAdd, Nat.reduceMul, Nat.reduceSub, Nat.reduceLeDiff, Nat.reduceLT, reduceCtorEq, h1, h3, k7e, hxa, k3, hc, eEx_eq, List.map_cons, toNat0, toNat1, toNat2, List.getD_cons_zero, List.getD_cons_succ, hle, hl0, hl1, hl2, hw, Int.le_refl, w10, w11, true_imp_iff, false_imp_iff, n0]
              refine ⟨⟨rfl, rfl, rfl, ?_⟩, rfl⟩
              have hg : g7 x = (freeF z [] []).isEmpty := by simp [g7, hxa, k7, k3, hc, n0]
              rw [hg, ← len_isE]; rfl
          · have hc : litF c = false := by simpa using hc
            refine aw_rgd [(0,true),(1,true),(2,true),(3,true),(4,true),(5,true),(6,true),(7,true),(8,true),(9,true),(10,true),(11,true),(12,true),(13,true),(14,true),(15,true),(16,true),(17,true),(18,true),(19,true),(20,true),(21,true),(22,true),(23,true),(24,true),(25,true),(26,true),(27,true),(28,true),(29,true),(30,true),(31,true),(32,true),(33,true),(34,true),(35,true),(36,true),(37,true),(38,true),(39,true)] mixed rfl (by kernel_rfl) ?_  -- r2 @fold.go:41
            simp only [cEx, k3] at hqc
            simp only [go_sem, reduceIte, Nat.reduceEqDiff, Nat.reduceAdd, Nat.reduceMul, Nat.reduceSub, Nat.reduceLeDiff, Nat.reduceLT, reduceCtorEq, h1, h3, k7e, hxa, k3, hc, eEx_eq, List.map_cons, toNat0, toNat1, toNat2, List.getD_cons_zero, List.getD_cons_succ, hle, hl0, hl1, hl2, hw, Int.le_refl, w10, w11, true_imp_iff, false_imp_iff]
            refine goQg_by (fun _ => hqc) ?_
            simp only [go_sem, reduceIte, Nat.reduceEqDiff, Nat.reduceAdd, Nat.reduceMul, Nat.reduceSub, Nat.reduceLeDiff, Nat.reduceLT, reduceCtorEq, h1, h3, k7e, hxa, k3, hc, eEx_eq, List.map_cons, toNat0, toNat1, toNat2, List.getD_cons_zero, List.getD_cons_succ, hle, hl0, hl1, hl2, hw, Int.le_refl, w10, w11, true_imp_iff, false_imp_iff]
            repeat' first
              | (refine goG_no fun v => ?_
                 simp only [go_sem, reduceIte, Nat.reduceEqDiff, Nat.reduceAdd, Nat.reduceMul, Nat.reduceSub, Nat.reduceLeDiff, Nat.reduceLT, reduceCtorEq, h1, h3, k7e, hxa, k3, hc, eEx_eq, List.map_cons, toNat0, toNat1, toNat2, List.getD_cons_zero, List.getD_cons_succ, hle, hl0, hl1, hl2, hw, Int.le_refl, w10, w11, true_imp_iff, false_imp_iff])
              | (refine goQg_no fun v => ?_
                 simp only [go_sem, reduceIte, Nat.reduceEqDiff, Nat.reduceAdd, Nat.reduceMul, Nat.reduceSub, Nat.reduceLeDiff, Nat.reduceLT, reduceCtorEq, h1, h3, k7e, hxa, k3, hc, eEx_eq, List.map_cons, toNat0, toNat1, toNat2, List.getD_cons_zero, List.getD_cons_succ, hle, hl0, hl1, hl2, hw, Int.le_refl, w10, w11, true_imp_iff, false_imp_iff])
            refine ⟨⟨rfl, rfl, rfl, ?_⟩, rfl⟩
            have hg : g7 x = false := by simp [g7, hxa, k7, k3, hc]
            rw [hg]; rfl
        · have k3' := decide_eq_false k3
          refine aw_rgd [(0,true),(1,true),(2,true),(3,true),(4,true),(5,true),(6,true),(7,true),(8,true),(9,true),(10,true),(11,true),(12,true),(13,true),(14,true),(15,true),(16,true),(17,true),(18,true),(19,true),(20,true),(21,true),(22,true),(23,true),(24,true),(25,true),(26,true),(27,true),(28,true),(29,true),(30,true),(31,true),(32,true),(33,true),(34,true),(35,true),(36,true),(37,true),(38,true),(39,true)] mixed rfl (by kernel_rfl) ?_  -- r2 @fold.go:41
          simp only [go_sem, reduceIte, Nat.reduceEqDiff, Nat.reduceAdd, Nat.reduceMul, Nat.reduceSub, Nat.reduceLeDiff, Nat.reduceLT, reduceCtorEq, h1, h3, k7e, hxa, k3, eEx_eq, List.map_cons, toNat0, toNat1, toNat2, List.getD_cons_zero, List.getD_cons_succ, hle, hl0, hl1, hl2, hw, Int.le_refl, w10, w11, true_imp_iff, false_imp_iff, k3']
          repeat' first
            | (refine goG_no fun v => ?_
               simp only [go_sem, reduceIte, Nat.reduceEqDiff, Nat.reduceAdd, Nat.reduceMul, Nat.reduceSub, Nat.reduceLeDiff, Nat.reduceLT, reduceCtorEq, h1, h3, k7e, hxa, k3, eEx_eq, List.map_cons, toNat0, toNat1, toNat2, List.getD_cons_zero, List.getD_cons_succ, hle, hl0, hl1, hl2, hw, Int.le_refl, w10, w11, true_imp_iff, false_imp_iff, k3'])
            | (refine goQg_no fun v => ?_
               simp only [go_sem, reduceIte, Nat.reduceEqDiff, Nat.reduceAdd, Nat.reduceMul, Nat.reduceSub, Nat.reduceLeDiff, Nat.reduceLT, reduceCtorEq, h1, h3, k7e, hxa, k3, eEx_eq, List.map_cons, toNat0, toNat1, toNat2, List.getD_cons_zero, List.getD_cons_succ, hle, hl0, hl1, hl2, hw, Int.le_refl, w10, w11, true_imp_iff, false_imp_iff, k3'])
          refine ⟨⟨rfl, rfl, rfl, ?_⟩, rfl⟩
          have hg : g7 x = false := by simp [g7, hxa, k7, k3]
          rw [hg]; rfl
    · have k7e : ¬ e.kind = 7 := hk ▸ k7
      refine aw_rgd [(0,true),(1,true),(2,true),(3,true),(4,true),(5,true),(6,true),(7,true),(8,true),(9,true),(10,true),(11,true),(12,true),(13,true),(14,true),(15,true),(16,true),(17,true),(18,true),(19,true),(20,true),(21,true),(22,true),(23,true),(24,true),(25,true),(26,true),(27,true),(28,true),(29,true),(30,true),(31,true),(32,true),(33,true),(34,true),(35,true),(36,true),(37,true),(38,true),(39,true)] mixed rfl (by kernel_rfl) ?_  -- r2 @fold.go:41
      simp only [go_sem, reduceIte, Nat.reduceEqDiff, Nat.reduceAdd, Nat.reduceMul, Nat.reduceSub, Nat.reduceLeDiff, Nat.reduceLT, reduceCtorEq, h1, h3, k7e, decide_eq_false k7e, false_imp_iff]
      repeat' first
        | (refine goG_no fun v => ?_
           simp only [go_sem, reduceIte, Nat.reduceEqDiff, Nat.reduceAdd, Nat.reduceMul, Nat.reduceSub, Nat.reduceLeDiff, Nat.reduceLT, reduceCtorEq, h1, h3, false_imp_iff])
        | (refine goQg_no fun v => ?_
           simp only [go_sem, reduceIte, Nat.reduceEqDiff, Nat.reduceAdd, Nat.reduceMul, Nat.reduceSub, Nat.reduceLeDiff, Nat.reduceLT, reduceCtorEq, h1, h3, false_imp_iff])
      refine ⟨⟨rfl, rfl, rfl, ?_⟩, rfl⟩
      rw [g7_off k7]; rfl
  intro f' G' ⟨hf, hg⟩
  rw [hg]
  refine AW.of_fsub hf ?_
  refine aw_if rfl (fun h => ?_) (fun h7 => ?_)
  · obtain ⟨c, y, z, l, hxa, hf1⟩ := fold1_7 h
    have hw : wid 8 (cEx c :: cEx y :: cEx z :: List.map eEx l) := by have := wid_ex x.args; rw [hxa] at this; simpa [eEx_eq] using this
    have hl0 : ((0 : Int) < ((l.length + 1 + 1 + 1 : Nat) : Int)) = True := by simp; omega
    have hl1 : ((1 : Int) < ((l.length + 1 + 1 + 1 : Nat) : Int)) = True := by simp; omega
    have hl2 : ((2 : Int) < ((l.length + 1 + 1 + 1 : Nat) : Int)) = True := by simp; omega
    rcases hf1 with ⟨n0, hf1⟩ | ⟨n0, hf1⟩
    · skip
      refine aw_srd [(0,true),(1,true),(2,true),(3,true),(4,true),(5,true),(6,true),(7,true),(8,true),(9,true),(10,false)] mixed rfl (by kernel_rfl) ?_  -- r3 @fold.go:42
      simp only [go_sem, reduceIte, Nat.reduceEqDiff, Nat.reduceAdd, Nat.reduceMul, Nat.reduceSub, Nat.reduceLeDiff, Nat.reduceLT, reduceCtorEq, h2, h3, hxa, eEx_eq, List.map_cons, toNat0, toNat1, toNat2, List.getD_cons_zero, List.getD_cons_succ, hl0, hl1, hl2, hw, Int.le_refl, w20, w21, n0]
      refine ⟨by decide, ?_⟩
      refine aw_ret ⟨trivial, ?_⟩
      simp only [go_sem, reduceIte, Nat.reduceEqDiff, Nat.reduceAdd, Nat.reduceMul, Nat.reduceSub, Nat.reduceLeDiff, Nat.reduceLT, reduceCtorEq, resL, resOf, hget_hset_self h2]
      refine ⟨_, rfl, ?_, sub_hset_fresh hb2' hsB⟩
      rw [hf1]; exact Vle.refl _
    · skip
      refine aw_srd [(0,true),(1,true),(2,true),(3,true),(4,true),(5,true),(6,true),(7,true),(8,true),(9,true),(10,false)] mixed rfl (by kernel_rfl) ?_  -- r3 @fold.go:42
      simp only [go_sem, reduceIte, Nat.reduceEqDiff, Nat.reduceAdd, Nat.reduceMul, Nat.reduceSub, Nat.reduceLeDiff, Nat.reduceLT, reduceCtorEq, h2, h3, hxa, eEx_eq, List.map_cons, toNat0, toNat1, toNat2, List.getD_cons_zero, List.getD_cons_succ, hl0, hl1, hl2, hw, Int.le_refl, w20, w21, n0]
      refine ⟨by decide, ?_⟩
      refine aw_ret ⟨trivial, ?_⟩
      simp only [go_sem, reduceIte, Nat.reduceEqDiff, Nat.reduceAdd, Nat.reduceMul, Nat.reduceSub, Nat.reduceLeDiff, Nat.reduceLT, reduceCtorEq, resL, resOf, hget_hset_self h2]
      refine ⟨_, rfl, ?_, sub_hset_fresh hb2' hsB⟩
      rw [hf1]; exact Vle.refl _
  refine aw_mid (fun f' G' => FSub [(1, .ptr b1 0), (2, .ptr b2 0), (3, .ptr b3 0), (56, .bool (g8 x))] f' ∧ G' = B2) ?_ ?_
  · by_cases k8 : x.kind = 8
    · have k8e : e.kind = 8 := hk ▸ k8
      by_cases hl1 : x.args.length = 1
      · obtain ⟨a, hxa⟩ := List.length_eq_one_iff.1 hl1
        have hw : wid 8 [cEx a] := by simp [wid]
        have hqa := q_literal a
        by_cases kt : x.text = [110, 111, 116]
        · have kte : e.text = [110, 111, 116] := ht ▸ kt
          by_cases k3 : a.kind = 3
          · simp only [cEx, k3] at hqa
            refine aw_rg rfl ?_  -- r4
            simp only [go_sem, reduceIte, Nat.reduceEqDiff, Nat.reduceAdd, Nat.reduceMul, Nat.reduceSub, Nat.reduceLeDiff, Nat.reduceLT, reduceCtorEq, h1, h3, k8e, hxa, eEx_eq, List.map_cons, List.map_nil, toNat0, toNat1, List.getD_cons_zero, List.getD_cons_succ, Int.le_refl, eq11, lt01, hw, true_imp_iff, false_imp_iff, kte, k3]
            refine goH_q (fun _ => hqa) ?_
            simp only [go_sem, reduceIte, Nat.reduceEqDiff, Nat.reduceAdd, Nat.reduceMul, Nat.reduceSub, Nat.reduceLeDiff, Nat.reduceLT, reduceCtorEq, h1, h3, k8e, hxa, eEx_eq, List.map_cons, List.map_nil, toNat0, toNat1, List.getD_cons_zero, List.getD_cons_succ, Int.le_refl, eq11, lt01, hw, true_imp_iff, false_imp_iff, kte, k3]
            refine ⟨⟨rfl, rfl, rfl, ?_⟩, rfl⟩
            have hg : g8 x = litF a := by simp [g8, hxa, k8, kt, k3]
            rw [hg]; rfl
          · have k3' := decide_eq_false k3
            refine aw_rg rfl ?_  -- r4
            simp only [go_sem, reduceIte, Nat.reduceEqDiff, Nat.reduceAdd, Nat.reduceMul, Nat.reduceSub, Nat.reduceLeDiff, Nat.reduceLT, reduceCtorEq, h1, h3, k8e, hxa, eEx_eq, List.map_cons, List.map_nil, toNat0, toNat1, List.getD_cons_zero, List.getD_cons_succ, Int.le_refl, eq11, lt01, hw, true_imp_iff, false_imp_iff, kte, k3, k3']
            repeat' first
              | (refine goG_no fun v => ?_
                 simp only [go_sem, reduceIte, Nat.reduceEqDiff, Nat.reduceAdd, Nat.reduceMul, Nat.reduceSub, Nat.reduceLeDiff, Nat.reduceLT, reduceCtorEq, h1, h3, k8e, hxa, eEx_eq, List.map_cons, List.map_nil, toNat0, toNat1, List.getD_cons_zero, List.getD_cons_succ, Int.le_refl, eq11, lt01, hw, true_imp_iff, false_imp_iff, kte, k3, k3'])
              | (refine goQg_no fun v => ?_
                 simp only [go_sem, reduceIte, Nat.reduceEqDiff, Nat.reduceAdd, Nat.reduceMul, Nat.reduceSub, Nat.reduceLeDiff, Nat.reduceLT, reduceCtorEq, h1, h3, k8e, hxa, eEx_eq, List.map_cons, List.map_nil, toNat0, toNat1, List.getD_cons_zero, List.getD_cons_succ, Int.le_refl, eq11, lt01, hw, true_imp_iff, false_imp_iff, kte, k3, k3'])
              | (refine goH_no fun v => ?_
                 simp only [go_sem, reduceIte, Nat.reduceEqDiff, Nat.reduceAdd, Nat.reduceMul, Nat.reduceSub, Nat.reduceLeDiff, Nat.reduceLT, reduceCtorEq, h1, h3, k8e, hxa, eEx_eq, List.map_cons, List.map_nil, toNat0, toNat1, List.getD_cons_zero, List.getD_cons_succ, Int.le_refl, eq11, lt01, hw, true_imp_iff, false_imp_iff, kte, k3, k3'])
            refine ⟨⟨rfl, rfl, rfl, ?_⟩, rfl⟩
            have hg : g8 x = false := by simp [g8, hxa, k3]
            rw [hg]; rfl
        · have kte : ¬ e.text = [110, 111, 116] := ht ▸ kt
          have kt' := decide_eq_false kte
          refine aw_rg rfl ?_  -- r4
          simp only [go_sem, reduceIte, Nat.reduceEqDiff, Nat.reduceAdd, Nat.reduceMul, Nat.reduceSub, Nat.reduceLeDiff, Nat.reduceLT, reduceCtorEq, h1, h3, k8e, hxa, eEx_eq, List.map_cons, List.map_nil, toNat0, toNat1, List.getD_cons_zero, List.getD_cons_succ, Int.le_refl, eq11, lt01, hw, true_imp_iff, false_imp_iff, kte, kt']
          repeat' first
            | (refine goG_no fun v => ?_
               simp only [go_sem, reduceIte, Nat.reduceEqDiff, Nat.reduceAdd, Nat.reduceMul, Nat.reduceSub, Nat.reduceLeDiff, Nat.reduceLT, reduceCtorEq, h1, h3, k8e, hxa, eEx_eq, List.map_cons, List.map_nil, toNat0, toNat1, List.getD_cons_zero, List.getD_cons_succ, Int.le_refl, eq11, lt01, hw, true_imp_iff, false_imp_iff, kte, kt'])
            | (refine goQg_no fun v => ?_
               simp only [go_sem, reduceIte, Nat.reduceEqDiff, Nat.reduceAdd, Nat.reduceMul, Nat.reduceSub, Nat.reduceLeDiff, Nat.reduceLT, reduceCtorEq, h1, h3, k8e, hxa, eEx_eq, List.map_cons, List.map_nil, toNat0, toNat1, List.getD_cons_zero, List.getD_cons_succ, Int.le_refl, eq11, lt01, hw, true_imp_iff, false_imp_iff, kte, kt'])
            | (refine goH_no fun v => ?_
               simp only [go_sem, reduceIte, Nat.reduceEqDiff, Nat.reduceAdd, Nat.reduceMul, Nat.reduceSub, Nat.reduceLeDiff, Nat.reduceLT, reduceCtorEq, h1, h3, k8e, hxa, eEx_eq, List.map_cons, List.map_nil, toNat0, toNat1, List.getD_cons_zero, List.getD_cons_succ, Int.le_refl, eq11, lt01, hw, true_imp_iff, false_imp_iff, kte, kt'])
          refine ⟨⟨rfl, rfl, rfl, ?_⟩, rfl⟩
          have hg : g8 x = false := by simp [g8, hxa, kt]
          rw [hg]; rfl
      · have hl1' : decide (((x.args.length : Nat) : Int) = 1) = false := decide_eq_false (by omega)
        refine aw_rg rfl ?_  -- r4
        simp only [go_sem, reduceIte, Nat.reduceEqDiff, Nat.reduceAdd, Nat.reduceMul, Nat.reduceSub, Nat.reduceLeDiff, Nat.reduceLT, reduceCtorEq, h1, h3, true_imp_iff, false_imp_iff, k8e, hl1']
        repeat' first
          | (refine goG_no fun v => ?_
             simp only [go_sem, reduceIte, Nat.reduceEqDiff, Nat.reduceAdd, Nat.reduceMul, Nat.reduceSub, Nat.reduceLeDiff, Nat.reduceLT, reduceCtorEq, h1, h3, true_imp_iff, false_imp_iff, k8e, hl1'])
          | (refine goQg_no fun v => ?_
             simp only [go_sem, reduceIte, Nat.reduceEqDiff, Nat.reduceAdd, Nat.reduceMul, Nat.reduceSub, Nat.reduceLeDiff, Nat.reduceLT, reduceCtorEq, h1, h3, true_imp_iff, false_imp_iff, k8e, hl1'])
          | (refine goH_no fun v => ?_
             simp only [go_sem, reduceIte, Nat.reduceEqDiff, Nat.reduceAdd, Nat.reduceMul, Nat.reduceSub, Nat.reduceLeDiff, Nat.reduceLT, reduceCtorEq, h1, h3, true_imp_iff, false_imp_iff, k8e, hl1'])
        refine ⟨⟨rfl, rfl, rfl, ?_⟩, rfl⟩
        rw [g8_off2 hl1]; rfl
    · have k8e : ¬ e.kind = 8 := hk ▸ k8
      have k8' := decide_eq_false k8e
      refine aw_rg rfl ?_  -- r4
      simp only [go_sem, reduceIte, Nat.reduceEqDiff, Nat.reduceAdd, Nat.reduceMul, Nat.reduceSub, Nat.reduceLeDiff, Nat.reduceLT, reduceCtorEq, h1, h3, true_imp_iff, false_imp_iff, k8e, k8']
      repeat' first
        | (refine goG_no fun v => ?_
           simp only [go_sem, reduceIte, Nat.reduceEqDiff, Nat.reduceAdd, Nat.reduceMul, Nat.reduceSub, Nat.reduceLeDiff, Nat.reduceLT, reduceCtorEq, h1, h3, true_imp_iff, false_imp_iff, k8e, k8'])
        | (refine goQg_no fun v => ?_
           simp only [go_sem, reduceIte, Nat.reduceEqDiff, Nat.reduceAdd, Nat.reduceMul, Nat.reduceSub, Nat.reduceLeDiff, Nat.reduceLT, reduceCtorEq, h1, h3, true_imp_iff, false_imp_iff, k8e, k8'])
        | (refine goH_no fun v => ?_
           simp only [go_sem, reduceIte, Nat.reduceEqDiff, Nat.reduceAdd, Nat.reduceMul, Nat.reduceSub, Nat.reduceLeDiff, Nat.reduceLT, reduceCtorEq, h1, h3, true_imp_iff, false_imp_iff, k8e, k8'])
      refine ⟨⟨rfl, rfl, rfl, ?_⟩, rfl⟩
      rw [g8_off k8]; rfl
  intro f' G' ⟨hf, hg⟩
  rw [hg]
  refine AW.of_fsub hf ?_
  refine aw_if rfl (fun h => ?_) (fun h8 => ?_)
  · obtain ⟨a, hxa, hf1⟩ := fold1_8 h
    have hw : wid 8 [cEx a] := by simp [wid]
    refine aw_sr rfl ?_  -- r5 @fold.go:44
    simp only [go_sem, reduceIte, Nat.reduceEqDiff, Nat.reduceAdd, Nat.reduceMul, Nat.reduceSub, Nat.reduceLeDiff, Nat.reduceLT, reduceCtorEq, h2, h3, hxa, eEx_eq, List.map_cons, List.map_nil, toNat0, List.getD_cons_zero, List.getD_cons_succ, Int.le_refl, lt01, hw]
    refine goA_q (q_truth _) ?_
    simp only [go_sem, reduceIte, Nat.reduceEqDiff, Nat.reduceAdd, Nat.reduceMul, Nat.reduceSub, Nat.reduceLeDiff, Nat.reduceLT, reduceCtorEq, h2, h3]
    refine aw_ret ⟨trivial, ?_⟩
    simp only [go_sem, reduceIte, Nat.reduceEqDiff, Nat.reduceAdd, Nat.reduceMul, Nat.reduceSub, Nat.reduceLeDiff, Nat.reduceLT, reduceCtorEq, resL, resOf, hget_hset_self h2]
    refine ⟨_, rfl, ?_, sub_hset_fresh hb2' hsB⟩
    rw [hf1]; exact Vle.refl _
  refine aw_mid (fun f' G' => FSub [(1, .ptr b1 0), (2, .ptr b2 0), (3, .ptr b3 0), (93, .bool (g9 x))] f' ∧ G' = B2) ?_ ?_
  · by_cases k8 : x.kind = 8
    · have k8e : e.kind = 8 := hk ▸ k8
      by_cases hl1 : x.args.length = 2
      · obtain ⟨a, b, hxa⟩ : ∃ a b, x.args = [a, b] := by
          rcases hxa : x.args with _ | ⟨a, _ | ⟨b, _ | ⟨c, l⟩⟩⟩ <;> rw [hxa] at hl1 <;> simp at hl1
          exact ⟨a, b, rfl⟩
        have hw : wid 8 [cEx a, cEx b] := by simp [wid]
        have hqa := q_literal a
        have hqb := q_literal b
        by_cases ha : litF a = true
        · by_cases hab : a.kind = b.kind
          · have hab' := decide_eq_true hab
            refine aw_rgd [(0,true),(1,true),(2,true),(3,true),(4,true),(5,true),(6,true),(7,true),(8,true),(9,true),(10,true),(11,true),(12,true),(13,true),(14,true),(15,true),(16,true),(17,true),(18,true),(19,true),(20,true),(21,true),(22,true),(23,true),(24,true),(25,true),(26,true),(27,true),(28,true),(29,true),(30,true),(31,true),(32,true),(33,true),(34,true),(35,true),(36,true)] mixed rfl (by kernel_rfl) ?_  -- r6
            simp only [go_sem, reduceIte, Nat.reduceEqDiff, Nat.reduceAdd, Nat.reduceMul, Nat.reduceSub, Nat.reduceLeDiff, Nat.reduceLT, reduceCtorEq, h1, h3, k8e, hxa, eEx_eq, List.map_cons, List.map_nil, toNat0, toNat1, List.getD_cons_zero, List.getD_cons_succ, Int.le_refl, eq22, lt02, lt12, hw, true_imp_iff, false_imp_iff]
            refine goQg_by (fun _ => hqa) ?_
            simp only [go_sem, reduceIte, Nat.reduceEqDiff, Nat.reduceAdd, Nat.reduceMul, Nat.reduceSub, Nat.reduceLeDiff, Nat.reduceLT, reduceCtorEq, h1, h3, k8e, hxa, eEx_eq, List.map_cons, List.map_nil, toNat0, toNat1, List.getD_cons_zero, List.getD_cons_succ, Int.le_refl, eq22, lt02, lt12, hw, true_imp_iff, false_imp_iff, ha, hab']
            refine ⟨by decide, by decide, ?_⟩
            refine goQg_by (fun _ => hqb) ?_
            simp only [go_sem, reduceIte, Nat.reduceEqDiff, Nat.reduceAdd, Nat.reduceMul, Nat.reduceSub, Nat.reduceLeDiff, Nat.reduceLT, reduceCtorEq, h1, h3, k8e, hxa, eEx_eq, List.map_cons, List.map_nil, toNat0, toNat1, List.getD_cons_zero, List.getD_cons_succ, Int.le_refl, eq22, lt02, lt12, hw, true_imp_iff, false_imp_iff, ha, hab']
            refine ⟨⟨rfl, rfl, rfl, ?_⟩, rfl⟩
            have hg : g9 x = litF b := by simp [g9, hxa, k8, ha, hab]
            rw [hg]; rfl
          · have hab' := decide_eq_false hab
            refine aw_rgd [(0,true),(1,true),(2,true),(3,true),(4,true),(5,true),(6,true),(7,true),(8,true),(9,true),(10,true),(11,true),(12,true),(13,true),(14,true),(15,true),(16,true),(17,true),(18,true),(19,true),(20,true),(21,true),(22,true),(23,true),(24,true),(25,true),(26,true),(27,true),(28,true),(29,true),(30,true),(31,true),(32,true),(33,true),(34,true),(35,true),(36,true)] mixed rfl (by kernel_rfl) ?_  -- r6
            simp only [go_sem, reduceIte, Nat.reduceEqDiff, Nat.reduceAdd, Nat.reduceMul, Nat.reduceSub, Nat.reduceLeDiff, Nat.reduceLT, reduceCtorEq, h1, h3, k8e, hxa, eEx_eq, List.map_cons, List.map_nil, toNat0, toNat1, List.getD_cons_zero, List.getD_cons_succ, Int.le_refl, eq22, lt02, lt12, hw, true_imp_iff, false_imp_iff]
            refine goQg_by (fun _ => hqa) ?_
            simp only [go_sem, reduceIte, Nat.reduceEqDiff, Nat.reduceAdd, Nat.reduceMul, Nat.reduceSub, Nat.reduceLeDiff, Nat.reduceLT, reduceCtorEq, h1, h3, k8e, hxa, eEx_eq, List.map_cons, List.map_nil, toNat0, toNat1, List.getD_cons_zero, List.getD_cons_succ, Int.le_refl, eq22, lt02, lt12, hw, true_imp_iff, false_imp_iff, ha, hab']
            refine ⟨by decide, ?_⟩
            repeat' first
              | (refine goG_no fun v => ?_
                 simp only [go_sem, reduceIte, Nat.reduceEqDiff, Nat.reduceAdd, Nat.reduceMul, Nat.reduceSub, Nat.reduceLeDiff, Nat.reduceLT, reduceCtorEq, h1, h3, k8e, hxa, eEx_eq, List.map_cons, List.map_nil, toNat0, toNat1, List.getD_cons_zero, List.getD_cons_succ, Int.le_refl, eq22, lt02, lt12, hw, true_imp_iff, false_imp_iff, ha, hab'])
              | (refine goQg_no fun v => ?_
                 simp only [go_sem, reduceIte, Nat.reduceEqDiff, Nat.reduceAdd, Nat.reduceMul, Nat.reduceSub, Nat.reduceLeDiff, Nat.reduceLT, reduceCtorEq, h1, h3, k8e, hxa, eEx_eq, List.map_cons, List.map_nil, toNat0, toNat1, List.getD_cons_zero, List.getD_cons_succ, Int.le_refl, eq22, lt02, lt12, hw, true_imp_iff, false_imp_iff, ha, hab'])
              | (refine goH_no fun v => ?_
                 simp only [go_sem, reduceIte, Nat.reduceEqDiff, Nat.reduceAdd, Nat.reduceMul, Nat.reduceSub, Nat.reduceLeDiff, Nat.reduceLT, reduceCtorEq, h1, h3, k8e, hxa, eEx_eq, List.map_cons, List.map_nil, toNat0, toNat1, List.getD_cons_zero, List.getD_cons_succ, Int.le_refl, eq22, lt02, lt12, hw, true_imp_iff, false_imp_iff, ha, hab'])
            refine ⟨⟨rfl, rfl, rfl, ?_⟩, rfl⟩
            have hg : g9 x = false := by simp [g9, hxa, hab]
            rw [hg]; rfl
        · have ha : litF a = false := by simpa using ha
          refine aw_rgd [(0,true),(1,true),(2,true),(3,true),(4,true),(5,true),(6,true),(7,true),(8,true),(9,true),(10,true),(11,true),(12,true),(13,true),(14,true),(15,true),(16,true),(17,true),(18,true),(19,true),(20,true),(21,true),(22,true),(23,true),(24,true),(25,true),(26,true),(27,true),(28,true),(29,true),(30,true),(31,true),(32,true),(33,true),(34,true),(35,true),(36,true)] mixed rfl (by kernel_rfl) ?_  -- r6
          simp only [go_sem, reduceIte, Nat.reduceEqDiff, Nat.reduceAdd, Nat.reduceMul, Nat.reduceSub, Nat.reduceLeDiff, Nat.reduceLT, reduceCtorEq, h1, h3, k8e, hxa, eEx_eq, List.map_cons, List.map_nil, toNat0, toNat1, List.getD_cons_zero, List.getD_cons_succ, Int.le_refl, eq22, lt02, lt12, hw, true_imp_iff, false_imp_iff]
          refine goQg_by (fun _ => hqa) ?_
          simp only [go_sem, reduceIte, Nat.reduceEqDiff, Nat.reduceAdd, Nat.reduceMul, Nat.reduceSub, Nat.reduceLeDiff, Nat.reduceLT, reduceCtorEq, h1, h3, k8e, hxa, eEx_eq, List.map_cons, List.map_nil, toNat0, toNat1, List.getD_cons_zero, List.getD_cons_succ, Int.le_refl, eq22, lt02, lt12, hw, true_imp_iff, false_imp_iff, ha]
          repeat' first
            | (refine goG_no fun v => ?_
               simp only [go_sem, reduceIte, Nat.reduceEqDiff, Nat.reduceAdd, Nat.reduceMul, Nat.reduceSub, Nat.reduceLeDiff, Nat.reduceLT, reduceCtorEq, h1, h3, k8e, hxa, eEx_eq, List.map_cons, List.map_nil, toNat0, toNat1, List.getD_cons_zero, List.getD_cons_succ, Int.le_refl, eq22, lt02, lt12, hw, true_imp_iff, false_imp_iff, ha])
            | (refine goQg_no fun v => ?_
               simp only [go_sem, reduceIte, Nat.reduceEqDiff, Nat.reduceAdd, Nat.reduceMul, Nat.reduceSub, Nat.reduceLeDiff, Nat.reduceLT, reduceCtorEq, h1, h3, k8e, hxa, eEx_eq, List.map_cons, List.map_nil, toNat0, toNat1, List.getD_cons_zero, List.getD_cons_succ, Int.le_refl, eq22, lt02, lt12, hw, true_imp_iff, false_imp_iff, ha])
            | (refine goH_no fun v => ?_
               simp only [go_sem, reduceIte, Nat.reduceEqDiff, Nat.reduceAdd, Nat.reduceMul, Nat.reduceSub, Nat.reduceLeDiff, Nat.reduceLT, reduceCtorEq, h1, h3, k8e, hxa, eEx_eq, List.map_cons, List.map_nil, toNat0, toNat1, List.getD_cons_zero, List.getD_cons_succ, Int.le_refl, eq22, lt02, lt12, hw, true_imp_iff, false_imp_iff, ha])
          refine ⟨⟨rfl, rfl, rfl, ?_⟩, rfl⟩
          have hg : g9 x = false := by simp [g9, hxa, ha]
          rw [hg]; rfl
      · have hl1' : decide (((x.args.length : Nat) : Int) = 2) = false := decide_eq_false (by omega)
        refine aw_rgd [(0,true),(1,true),(2,true),(3,true),(4,true),(5,true),(6,true),(7,true),(8,true),(9,true),(10,true),(11,true),(12,true),(13,true),(14,true),(15,true),(16,true),(17,true),(18,true),(19,true),(20,true),(21,true),(22,true),(23,true),(24,true),(25,true),(26,true),(27,true),(28,true),(29,true),(30,true),(31,true),(32,true),(33,true),(34,true),(35,true),(36,true)] mixed rfl (by kernel_rfl) ?_  -- r6
        simp only [go_sem, reduceIte, Nat.reduceEqDiff, Nat.reduceAdd, Nat.reduceMul, Nat.reduceSub, Nat.reduceLeDiff, Nat.reduceLT, reduceCtorEq, h1, h3, true_imp_iff, false_imp_iff, k8e, hl1']
        repeat' first
          | (refine goG_no fun v => ?_
             simp only [go_sem, reduceIte, Nat.reduceEqDiff, Nat.reduceAdd, Nat.reduceMul, Nat.reduceSub, Nat.reduceLeDiff, Nat.reduceLT, reduceCtorEq, h1, h3, true_imp_iff, false_imp_iff, k8e, hl1'])
          | (refine goQg_no fun v => ?_
             simp only [go_sem, reduceIte, Nat.reduceEqDiff, Nat.reduceAdd, Nat.reduceMul, Nat.reduceSub, Nat.reduceLeDiff, Nat.reduceLT, reduceCtorEq, h1, h3, true_imp_iff, false_imp_iff, k8e, hl1'])
          | (refine goH_no fun v => ?_
             simp only [go_sem, reduceIte, Nat.reduceEqDiff, Nat.reduceAdd, Nat.reduceMul, Nat.reduceSub, Nat.reduceLeDiff, Nat.reduceLT, reduceCtorEq, h1, h3, true_imp_iff, false_imp_iff, k8e, hl1'])
        refine ⟨⟨rfl, rfl, rfl, ?_⟩, rfl⟩
        rw [g9_off2 hl1]; rfl
    · have k8e : ¬ e.kind = 8 := hk ▸ k8
      have k8' := decide_eq_false k8e
      refine aw_rgd [(0,true),(1,true),(2,true),(3,true),(4,true),(5,true),(6,true),(7,true),(8,true),(9,true),(10,true),(11,true),(12,true),(13,true),(14,true),(15,true),(16,true),(17,true),(18,true),(19,true),(20,true),(21,true),(22,true),(23,true),(24,true),(25,true),(26,true),(27,true),(28,true),(29,true),(30,true),(31,true),(32,true),(33,true),(34,true),(35,true),(36,true)] mixed rfl (by kernel_rfl) ?_  -- r6
      simp only [go_sem, reduceIte, Nat.reduceEqDiff, Nat.reduceAdd, Nat.reduceMul, Nat.reduceSub, Nat.reduceLeDiff, Nat.reduceLT, reduceCtorEq, h1, h3, true_imp_iff, false_imp_iff, k8e, k8']
      repeat' first
        | (refine goG_no fun v => ?_
           simp only [go_sem, reduceIte, Nat.reduceEqDiff, Nat.reduceAdd, Nat.reduceMul, Nat.reduceSub, Nat.reduceLeDiff, Nat.reduceLT, reduceCtorEq, h1, h3, true_imp_iff, false_imp_iff, k8e, k8'])
        | (refine goQg_no fun v => ?_
           simp only [go_sem, reduceIte, Nat.reduceEqDiff, Nat.reduceAdd, Nat.reduceMul, Nat.reduceSub, Nat.reduceLeDiff, Nat.reduceLT, reduceCtorEq, h1, h3, true_imp_iff, false_imp_iff, k8e, k8'])
        | (refine goH_no fun v => ?_
           simp only [go_sem, reduceIte, Nat.reduceEqDiff, Nat.reduceAdd, Nat.reduceMul, Nat.reduceSub, Nat.reduceLeDiff, Nat.reduceLT, reduceCtorEq, h1, h3, true_imp_iff, false_imp_iff, k8e, k8'])
      refine ⟨⟨rfl, rfl, rfl, ?_⟩, rfl⟩
      rw [g9_off k8]; rfl
  intro f' G' ⟨hf, hg⟩
  rw [hg]
  refine AW.of_fsub hf ?_
  refine aw_if rfl (fun h => ?_) (fun h9 => ?_)
  · obtain ⟨a, b, hxa, hf1⟩ := fold1_9 h
    have hta := (hx.arg (show a ∈ x.args by rw [hxa]; simp)).text
    have htb := (hx.arg (show b ∈ x.args by rw [hxa]; simp)).text
    refine aw_sr rfl ?_  -- r7 @fold.go:46
    simp only [go_sem, reduceIte, Nat.reduceEqDiff, Nat.reduceAdd, Nat.reduceMul, Nat.reduceSub, Nat.reduceLeDiff, Nat.reduceLT, reduceCtorEq, h2, h3]
    refine goA_q (q_two x a b hxa hta htb) ?_
    simp only [go_sem, reduceIte, Nat.reduceEqDiff, Nat.reduceAdd, Nat.reduceMul, Nat.reduceSub, Nat.reduceLeDiff, Nat.reduceLT, reduceCtorEq, h2, h3]
    refine aw_ret ⟨trivial, ?_⟩
    simp only [go_sem, reduceIte, Nat.reduceEqDiff, Nat.reduceAdd, Nat.reduceMul, Nat.reduceSub, Nat.reduceLeDiff, Nat.reduceLT, reduceCtorEq, resL, resOf, hget_hset_self h2]
    refine ⟨_, rfl, ?_, sub_hset_fresh hb2' hsB⟩
    rw [hf1]; exact Vle.refl _
  refine aw_skip (hK3 _ _ ?_)
  refine aw_sr rfl ?_  -- r8 @fold.go:48
  simp only [go_sem, reduceIte, Nat.reduceEqDiff, Nat.reduceAdd, Nat.reduceMul, Nat.reduceSub, Nat.reduceLeDiff, Nat.reduceLT, reduceCtorEq, h2, h3]
  refine aw_ret ⟨trivial, ?_⟩
  simp only [go_sem, reduceIte, Nat.reduceEqDiff, Nat.reduceAdd, Nat.reduceMul, Nat.reduceSub, Nat.reduceLeDiff, Nat.reduceLT, reduceCtorEq, resL, resOf, hget_hset_self h2]
  refine ⟨_, rfl, ?_, sub_hset_fresh hb2' hsB⟩
  rw [fold1_0 h7 h8 h9]; exact Vle.refl _
end Go.Proofs.Ytlgfffngojlffaa

/- What is folded is no larger; fold.Expr of any expression. No conditions but sizes. -/
set_option linter.unusedSimpArgs false
set_option linter.unusedVariables false
namespace Go.Proofs.Ytlgfffngojlffaa
open Go.Proofs.YtlgfffngojlffaaV
set_option maxHeartbeats 400000
set_option maxRecDepth 100000
theorem rg64 {n : Int} (h1 : -9223372036854775808 ≤ n) (h2 : n ≤ 9223372036854775807) : IntKind.i64.min ≤ n ∧ n ≤ IntKind.i64.max := ⟨h1, h2⟩
theorem ok_lit {k n : Int} {t : List UInt8} (hk : IntKind.i64.min ≤ k ∧ k ≤ IntKind.i64.max) (hn : IntKind.i64.min ≤ n ∧ n ≤ IntKind.i64.max) (ht : t.length ≤ bulk) : OkEx (lit k n t) :=
  .mk hk hn ht ⟨fun _ => rfl, by decide, fun s h => by cases h⟩ ⟨fun _ => rfl, by decide, fun s h => by cases h⟩ (fun _ => rfl) (by decide) (fun a h => by cases h) (fun _ => rfl) (by decide) (fun m h => by cases h) (fun m h => by cases h) (by decide)
theorem sz_lit (k n : Int) (t : List UInt8) : (lit k n t).sz = 1 := by rw [Ex.sz_eq]; rfl
theorem tmod_rg {a b : Int} (h : IntKind.i64.min ≤ a ∧ a ≤ IntKind.i64.max) : IntKind.i64.min ≤ a.tmod b ∧ a.tmod b ≤ IntKind.i64.max := by
  have h1 : -9223372036854775808 ≤ a := h.1
  have h2 : a ≤ 9223372036854775807 := h.2
  have hn : (a.tmod b).natAbs ≤ a.natAbs := by rw [Int.natAbs_tmod]; exact Nat.mod_le _ _
  rcases Int.le_total 0 a with h0 | h0
  · have := Int.tmod_nonneg b h0
    exact rg64 (by omega) (by omega)
  · have h3 : 0 ≤ (-a).tmod b := Int.tmod_nonneg b (by omega)
    rw [Int.neg_tmod] at h3
    exact rg64 (by omega) (by omega)
theorem ok_truth (b : Bool) : OkEx (truthF b) := ok_lit (by decide) (by cases b <;> decide) (by decide)
theorem sz_truth (b : Bool) : (truthF b).sz = 1 := sz_lit _ _ _
theorem wrap_rg (n : Int) : IntKind.i64.min ≤ IntKind.i64.wrap n ∧ IntKind.i64.wrap n ≤ IntKind.i64.max := by
  have h1 : IntKind.i64.min = -9223372036854775808 := rfl
  have h2 : IntKind.i64.max = 9223372036854775807 := rfl
  rw [h1, h2]
  unfold IntKind.wrap
  simp only [IntKind.bits, IntKind.signed]
  simp
  try omega
theorem two_cases (x a b : Ex) (ha : OkEx a) : twoF x a b = x ∨ ∃ k n t, twoF x a b = lit k n t ∧ OkEx (lit k n t) := by
  have g3 : bulk = 1048576 := rfl
  unfold twoF
  by_cases h9 : x.text = [61]
  · rw [if_pos h9]; exact .inr ⟨_, _, _, rfl, ok_truth _⟩
  rw [if_neg h9]
  by_cases h8 : a.kind = 4 ∧ x.text = [94] ∧ a.text.length + b.text.length ≤ 64
  · rw [if_pos h8]; exact .inr ⟨_, _, _, rfl, ok_lit (by decide) (by decide) (by rw [List.length_append]; omega)⟩
  rw [if_neg h8]
  by_cases h7 : ¬ a.kind = 2
  · rw [if_pos h7]; exact .inl rfl
  rw [if_neg h7]
  by_cases h6 : x.text = [43]
  · rw [if_pos h6]; exact .inr ⟨_, _, _, rfl, ok_lit (by decide) (wrap_rg _) (by decide)⟩
  rw [if_neg h6]
  by_cases h5 : x.text = [45]
  · rw [if_pos h5]; exact .inr ⟨_, _, _, rfl, ok_lit (by decide) (wrap_rg _) (by decide)⟩
  rw [if_neg h5]
  by_cases h4 : x.text = [42]
  · rw [if_pos h4]; exact .inr ⟨_, _, _, rfl, ok_lit (by decide) (wrap_rg _) (by decide)⟩
  rw [if_neg h4]
  by_cases h3 : x.text = [60]
  · rw [if_pos h3]; exact .inr ⟨_, _, _, rfl, ok_truth _⟩
  rw [if_neg h3]
  by_cases h2 : x.text = [47]
  · rw [if_pos h2]
    by_cases h0 : b.num = 0
    · rw [if_pos h0]; exact .inl rfl
    · rw [if_neg h0]; exact .inr ⟨_, _, _, rfl, ok_lit (by decide) (wrap_rg _) (by decide)⟩
  rw [if_neg h2]
  by_cases h1 : x.text = [37]
  · rw [if_pos h1]
    by_cases h0 : b.num = 0
    · rw [if_pos h0]; exact .inl rfl
    · rw [if_neg h0]; exact .inr ⟨_, _, _, rfl, ok_lit (by decide) (tmod_rg ha.num) (by decide)⟩
  rw [if_neg h1]
  exact .inl rfl
/-- What a folding answers: itself, an argument, or a literal. -/
theorem fold1_cases (x : Ex) (hx : OkEx x) : fold1 x = x ∨ fold1 x ∈ x.args ∨ ∃ k n t, fold1 x = lit k n t ∧ OkEx (lit k n t) := by
  cases h7 : g7 x with
  | true =>
    obtain ⟨c, y, z, l, hxa, h⟩ := fold1_7 h7
    rcases h with ⟨_, h⟩ | ⟨_, h⟩
    · exact .inr (.inl (by rw [h, hxa]; simp))
    · exact .inr (.inl (by rw [h, hxa]; simp))
  | false =>
    cases h8 : g8 x with
    | true =>
      obtain ⟨a, hxa, h⟩ := fold1_8 h8
      exact .inr (.inr ⟨_, _, _, h, ok_truth _⟩)
    | false =>
      cases h9 : g9 x with
      | true =>
        obtain ⟨a, b, hxa, h⟩ := fold1_9 h9
        rw [h]
        rcases two_cases x a b (hx.arg (by rw [hxa]; simp)) with h2 | h2
        · exact .inl h2
        · exact .inr (.inr h2)
      | false => exact .inl (fold1_0 h7 h8 h9)
theorem ok_fold1 {x : Ex} (hx : OkEx x) : OkEx (fold1 x) := by
  rcases fold1_cases x hx with h | h | ⟨k, n, t, h, ho⟩
  · rw [h]; exact hx
  · exact hx.arg h
  · rw [h]; exact ho
theorem sz_fold1 {x : Ex} (hx : OkEx x) : (fold1 x).sz ≤ x.sz := by
  rcases fold1_cases x hx with h | h | ⟨k, n, t, h, ho⟩
  · rw [h]; exact Nat.le_refl _
  · exact Nat.le_of_lt (Ex.sz_arg h)
  · rw [h, sz_lit, x.sz_eq]; omega
theorem exszs_map {g : Ex → Ex} : ∀ {l : List Ex}, (∀ a ∈ l, (g a).sz ≤ a.sz) → exszs (l.map g) ≤ exszs l
  | [], _ => Nat.le_refl _
  | a :: l, h => by
    have h1 := h a (by simp)
    have h2 := exszs_map (l := l) (fun a ha => h a (by simp [ha]))
    simp only [List.map_cons, exszs]; omega
theorem amszs_map {g : Arm → Arm} : ∀ {l : List Arm}, (∀ a ∈ l, (g a).sz ≤ a.sz) → amszs (l.map g) ≤ amszs l
  | [], _ => Nat.le_refl _
  | a :: l, h => by
    have h1 := h a (by simp)
    have h2 := amszs_map (l := l) (fun a ha => h a (by simp [ha]))
    simp only [List.map_cons, amszs]; omega
theorem isEmpty_nil {A : Type} {l : List A} (h : l.isEmpty = true) : l = [] := by cases l <;> simp_all
theorem ok_prt (b : Bool) {e : Ex} (he : OkEx e) (hA : ∀ a ∈ e.args, OkEx (fldF b a)) (hM : ∀ m ∈ e.arms, OkEx (fldF b m.body)) : OkEx (prtF b e) := by
  refine .mk he.kind he.num he.text ?_ ?_ ?_ ?_ ?_ ?_ ?_ ?_ ?_ he.pos
  · unfold nmB; split
    · exact ⟨fun h => isEmpty_nil h, he.names.2⟩
    · exact he.names
  · unfold tyB; split
    · exact ⟨fun h => isEmpty_nil h, he.types.2⟩
    · exact he.types
  · intro h; rw [isEmpty_nil h]; rfl
  · rw [List.length_map]; exact he.len
  · intro a ha
    obtain ⟨y, hy, rfl⟩ := List.mem_map.1 ha
    exact hA y hy
  · intro h; rw [isEmpty_nil h]; rfl
  · rw [List.length_map]; exact he.mlen
  · intro m hm
    obtain ⟨y, hy, rfl⟩ := List.mem_map.1 hm
    rw [show (fldA b y).pat = y.pat from by rw [fldA_eq]; rfl]; exact he.pat hy
  · intro m hm
    obtain ⟨y, hy, rfl⟩ := List.mem_map.1 hm
    rw [show (fldA b y).body = fldF b y.body from by rw [fldA_eq]; rfl]; exact hM y hy
theorem sz_prt (b : Bool) {e : Ex} (hA : ∀ a ∈ e.args, (fldF b a).sz ≤ a.sz) (hM : ∀ m ∈ e.arms, (fldF b m.body).sz ≤ m.body.sz) : (prtF b e).sz ≤ e.sz := by
  have h1 := exszs_map hA
  have h2 : amszs (e.arms.map (fldA b)) ≤ amszs e.arms := amszs_map fun m hm => by
    have := hM m hm
    rw [fldA_eq, Arm.sz_eq, m.sz_eq]; show m.pat.sz + (fldF b m.body).sz ≤ _; omega
  rw [Ex.sz_eq, e.sz_eq]
  show 1 + exszs (e.args.map (fldF b)) + amszs (e.arms.map (fldA b)) ≤ _
  omega
theorem ok_fld (b : Bool) : ∀ (n : Nat) (e : Ex), e.sz ≤ n → OkEx e → OkEx (fldF b e) ∧ (fldF b e).sz ≤ e.sz := by
  intro n
  induction n with
  | zero => intro e h; have := e.sz_eq; omega
  | succ n ih =>
  intro e hn he
  have hA := fun a (ha : a ∈ e.args) => ih a (by have := Ex.sz_arg ha; omega) (he.arg ha)
  have hM := fun m (hm : m ∈ e.arms) => ih m.body (by have := Ex.sz_arm hm; omega) (he.body hm)
  have hp := ok_prt b he (fun a ha => (hA a ha).1) (fun m hm => (hM m hm).1)
  have hs := sz_prt b (fun a ha => (hA a ha).2) (fun m hm => (hM m hm).2)
  rw [fldF_eq]
  exact ⟨ok_fold1 hp, Nat.le_trans (sz_fold1 hp) hs⟩
theorem q_FExpr : ∀ (n : Nat) (e : Ex), e.sz ≤ n → OkEx e → e.sz ≤ bulk → Quiet Try.prog 45 [.agg (cEx e)] (.agg (cEx (fldF true e))) := by
  intro n
  induction n with
  | zero => intro e h; have := e.sz_eq; omega
  | succ n ih =>
  intro e hn he hsz
  have hA := fun a (ha : a ∈ e.args) => ih a (by have := Ex.sz_arg ha; omega) (he.arg ha) (by have := Ex.sz_arg ha; omega)
  have hM := fun m (hm : m ∈ e.arms) => ih m.body (by have := Ex.sz_arm hm; omega) (he.body hm) (by have := Ex.sz_arm hm; omega)
  have hp := ok_prt true he (fun a ha => (ok_fld true _ a (Nat.le_refl _) (he.arg ha)).1) (fun m hm => (ok_fld true _ m.body (Nat.le_refl _) (he.body hm)).1)
  have hs := sz_prt true (e := e) (fun a ha => (ok_fld true _ a (Nat.le_refl _) (he.arg ha)).2) (fun m hm => (ok_fld true _ m.body (Nat.le_refl _) (he.body hm)).2)
  rw [fldF_eq]
  exact q_FExpr1 e (prtF true e) rfl rfl hp (Nat.le_trans hs hsz) (q_FParts e he hA hM)
end Go.Proofs.Ytlgfffngojlffaa

/- Folding, the reference's: its small functions. No conditions but sizes. -/
set_option linter.unusedSimpArgs false
set_option linter.unusedVariables false
namespace Go.Proofs.Ytlgfffngojlffaa
open Go.Proofs.YtlgfffngojlffaaV
set_option maxHeartbeats 400000
set_option maxRecDepth 100000
theorem QuietOn.qon {P : Go.Program} {b : Nat} {cs : List V} {G : Heap} {g : FuncId} {args : List V} {x : V} (h : QuietOn P [(b, .vars cs)] g args x) (hb : hget G b = some (.vars cs)) : QOn P G g args x := fun G' hs => h G' (sub_one (hs _ _ hb (fun _ _ q => by cases q)))
theorem q_known (b3 : Nat) (v0 v1 v2 v3 v4 v6 v7 : V) (l : List Ex) (nl : Bool) (ta : Tag) (i : Nat) (hi : i < l.length) (hl : l.length ≤ 1048576) : QuietOn Try.prog [(b3, .vars [v0, v1, v2, v3, v4, .sl (l.map eEx) nl ta, v6, v7])] 108 [.int .i64 (i : Nat), .ptr b3 0] (.bool (litF l[i])) := by
  refine QuietOn.weak fun G hG => ?_
  have h3 := hG _ _ (hget_self _ _ _)
  refine acall_body (rs := [.tmp 3]) Try.func108 rfl rfl Try.ntmps108 (by kernel_rfl) (Nat.le_of_ble_eq_true rfl) ?_
  refine aw_sr rfl ?_  -- r0 @low.go:484
  simp only [go_sem, reduceIte, Nat.reduceEqDiff, Nat.reduceAdd, Nat.reduceMul, Nat.reduceSub, Nat.reduceLeDiff, Nat.reduceLT, reduceCtorEq]
  refine aw_sr rfl ?_  -- r1 @low.go:485
  simp only [go_sem, reduceIte, Nat.reduceEqDiff, Nat.reduceAdd, Nat.reduceMul, Nat.reduceSub, Nat.reduceLeDiff, Nat.reduceLT, reduceCtorEq, h3, getD_map hi, eEx_eq]
  refine ⟨⟨by omega, by omega, wid_ex _⟩, ?_⟩
  generalize l[i] = a
  intro b4 hb4
  refine aw_box1 hb4 fun B1 hs1 h4 => ?_
  refine aw_sr rfl ?_  -- r2 @low.go:486
  simp only [go_sem, reduceIte, Nat.reduceEqDiff, Nat.reduceAdd, Nat.reduceMul, Nat.reduceSub, Nat.reduceLeDiff, Nat.reduceLT, reduceCtorEq, h4]
  refine aw_ret ⟨trivial, _, rfl, ?_, hs1⟩
  have e : litF a = (decide (a.kind = 2) || decide (a.kind = 4) || decide (a.kind = 3) && (decide (a.num = 0) || decide (a.num = 1))) := by
    unfold litF
    by_cases h2 : a.kind = 2
    · simp [h2]
    · by_cases h4 : a.kind = 4
      · simp [h4]
      · simp [h2, h4]
  rw [e]
  exact Vle.refl _
theorem q_flag (b : Bool) : Quiet Try.prog 109 [.bool b] (.agg (cEx (truthF b))) := by
  refine Quiet.weak fun G => ?_
  refine acall_body (rs := [.cell 2 63]) Try.func109 rfl rfl Try.ntmps109 (by kernel_rfl) (Nat.le_of_ble_eq_true rfl) ?_
  refine aw_sr rfl ?_  -- r0 @low.go:488
  simp only [go_sem, reduceIte, Nat.reduceEqDiff, Nat.reduceAdd, Nat.reduceMul, Nat.reduceSub, Nat.reduceLeDiff, Nat.reduceLT, reduceCtorEq]
  intro b2 hb2
  refine aw_box1 hb2 fun B1 hs1 h2 => ?_
  refine aw_sr rfl ?_  -- r1 @low.go:489
  simp only [go_sem, reduceIte, Nat.reduceEqDiff, Nat.reduceAdd, Nat.reduceMul, Nat.reduceSub, Nat.reduceLeDiff, Nat.reduceLT, reduceCtorEq]
  intro b3 hb3
  have n23 : ¬ b2 = b3 := ne_fresh h2 hb3
  have hbG : hget G b3 = none := by
    cases q : hget G b3 with
    | none => rfl
    | some o => have := hs1 _ _ q; rw [hb3] at this; cases this
  refine aw_box1 hb3 fun B2 hs2 h3 => ?_
  replace h2 := hs2 _ _ h2
  have hsB := sub_trans hs1 hs2
  refine aw_mid (fun f' G' => FSub [(2, .ptr b2 0), (3, .ptr b3 0)] f' ∧ Sub G G' ∧ (∃ z, hget G' b2 = some (.vars z) ∧ z.length = 8) ∧ hget G' b3 = some (.vars [.int .i64 3, .int .i64 (if b = true then 1 else 0), .str [], .sl [] true .full, .sl [] true .full, .sl [] true .full, .sl [] true .full, .int .i64 0])) ?_ ?_
  · refine aw_sr rfl ?_  -- r2 @low.go:490
    simp only [go_sem, reduceIte, Nat.reduceEqDiff, Nat.reduceAdd, Nat.reduceMul, Nat.reduceSub, Nat.reduceLeDiff, Nat.reduceLT, reduceCtorEq]
    refine aw_if rfl (fun h => ?_) (fun h => ?_)
    · refine aw_rg rfl ?_  -- r3 @low.go:491
      simp only [go_sem, reduceIte, Nat.reduceEqDiff, Nat.reduceAdd, Nat.reduceMul, Nat.reduceSub, Nat.reduceLeDiff, Nat.reduceLT, reduceCtorEq, h3]
      refine ⟨⟨rfl, rfl⟩, sub_hset_fresh hbG hsB, ⟨_, hset_keep h2 n23, rfl⟩, ?_⟩
      rw [if_pos h]; exact hget_hset_self h3
    · refine aw_skip ⟨⟨rfl, rfl⟩, hsB, ⟨_, h2, rfl⟩, ?_⟩
      rw [if_neg (ne_true h)]; exact h3
  intro f' G' ⟨hf, hs, ⟨z, j2, hz⟩, j3⟩
  refine AW.of_fsub hf ?_
  obtain ⟨z0, z1, z2, z3, z4, z5, z6, z7, rfl⟩ : ∃ a b c d e f g h, z = [a, b, c, d, e, f, g, h] := by
    rcases z with _ | ⟨a, _ | ⟨b, _ | ⟨c, _ | ⟨d, _ | ⟨e, _ | ⟨f, _ | ⟨g, _ | ⟨h, _ | ⟨_, _⟩⟩⟩⟩⟩⟩⟩⟩⟩ <;> simp at hz
    exact ⟨_, _, _, _, _, _, _, _, rfl⟩
  refine aw_sr rfl ?_  -- r4 @low.go:493
  simp only [go_sem, reduceIte, Nat.reduceEqDiff, Nat.reduceAdd, Nat.reduceMul, Nat.reduceSub, Nat.reduceLeDiff, Nat.reduceLT, reduceCtorEq, j2, j3]
  refine aw_ret ⟨trivial, ?_⟩
  simp only [go_sem, reduceIte, Nat.reduceEqDiff, Nat.reduceAdd, Nat.reduceMul, Nat.reduceSub, Nat.reduceLeDiff, Nat.reduceLT, reduceCtorEq, resL, resOf, hget_hset_self j2]
  refine ⟨_, rfl, ?_, sub_hset_fresh hb2 hs⟩
  exact vle_lit _ _ _
theorem q_number (n : Int) : Quiet Try.prog 110 [.int .i64 n] (.agg (cEx (lit 2 n []))) := by
  refine Quiet.weak fun G => ?_
  refine acall_body (rs := [.cell 2 63]) Try.func110 rfl rfl Try.ntmps110 (by kernel_rfl) (Nat.le_of_ble_eq_true rfl) ?_
  refine aw_sr rfl ?_  -- r0 @low.go:513
  simp only [go_sem, reduceIte, Nat.reduceEqDiff, Nat.reduceAdd, Nat.reduceMul, Nat.reduceSub, Nat.reduceLeDiff, Nat.reduceLT, reduceCtorEq]
  intro b2 hb2
  refine aw_box1 hb2 fun B1 hs1 h2 => ?_
  refine aw_sr rfl ?_  -- r1 @low.go:513
  simp only [go_sem, reduceIte, Nat.reduceEqDiff, Nat.reduceAdd, Nat.reduceMul, Nat.reduceSub, Nat.reduceLeDiff, Nat.reduceLT, reduceCtorEq, h2]
  refine aw_ret ⟨trivial, ?_⟩
  simp only [go_sem, reduceIte, Nat.reduceEqDiff, Nat.reduceAdd, Nat.reduceMul, Nat.reduceSub, Nat.reduceLeDiff, Nat.reduceLT, reduceCtorEq, resL, resOf, hget_hset_self h2]
  refine ⟨_, rfl, ?_, sub_hset_fresh hb2 hs1⟩
  exact vle_lit _ _ _
end Go.Proofs.Ytlgfffngojlffaa

/- Folding, the reference's: its parts. No conditions but sizes. -/
set_option linter.unusedSimpArgs false
set_option linter.unusedVariables false
namespace Go.Proofs.Ytlgfffngojlffaa
open Go.Proofs.YtlgfffngojlffaaV
set_option maxHeartbeats 400000
set_option maxRecDepth 100000
theorem buf_len {P : Go.Program} {G0 H : Heap} {n : Nat} {es : List (List V)} {X : V} {t : TypeId} (h : Buf G0 H n es X) (ht : kindIs P t isSliceT = true) (G : Heap) : lenV P G t X = ok (.int .i64 ((es.length : Nat) : Int)) := by
  rcases h with ⟨rfl, rfl⟩ | ⟨_, b, c, rfl, _⟩
  · simp [lenV, ht, ok]
  · simp [lenV, ht, ok]
theorem Dom.st {G H1 H2 : Heap} {b : Nat} {x : AObj} (h : Dom G H1) (e : hset H1 b x = H2) : Dom G H2 := by subst e; exact h.hset
theorem arm_cells (p : Pat) (x : Ex) : eArm (.mk p x) = cPat p ++ cEx x := eArm_eq _
theorem set8 (P c : List V) (hc : c.length = 8) (q : List V) (hq : q.length = 8) : setMany (P ++ (q ++ [])) P.length c = P ++ (c ++ []) := setMany_append _ _ _ _ (by rw [hc, hq])
theorem Buf.put2 {G0 H : Heap} {n : Nat} {es : List (List V)} {b c : Nat} {cs y1 : List V} (hw : wid n es) (hc : es.length < c) (hl : cs.length = n) (h1 : y1.length = n) (hb : hget H b = some (.vars (setMany (es.flatten ++ (y1 ++ pad (c - (es.length + 1)) n)) (es.length * n) cs))) (hg : hget G0 b = none) :
    Buf G0 H n (es ++ [cs]) (.ms b 0 (es.length + 1) c) := by
  refine .inr ⟨by simp, b, c, by simp, by simp; omega, by simp [hw, hl], ?_, hg⟩
  rw [hb]
  congr 2
  rw [← wid_flat hw, setMany_append _ _ _ _ (by rw [h1, hl]), List.flatten_append, List.flatten_singleton, List.append_assoc, List.length_append, List.length_singleton]
theorem two_facts {H : Heap} {b b3 : Nat} {x y o1 o2 : AObj} (hb : hget H b = some o1) (h3 : hget H b3 = some o2) (hn : ¬ b3 = b) :
    hget (hset (hset H b x) b3 y) b = some x ∧ hget (hset (hset H b x) b3 y) b3 = some y ∧ (∀ k o, ¬ k = b → ¬ k = b3 → hget H k = some o → hget (hset (hset H b x) b3 y) k = some o) ∧ ∀ G0, Dom G0 H → Dom G0 (hset (hset H b x) b3 y) :=
  ⟨hset_keep (hget_hset_self hb) (fun e => hn e.symm), hget_hset_self (hset_keep h3 hn), fun k o h1 h2 h => hset_keep (hset_keep h h1) h2, fun G0 h => h.hset.hset⟩
theorem two_facts2 {H : Heap} {b b3 : Nat} {x y o1 o2 : AObj} (hb : hget H b = some o1) (h3 : hget H b3 = some o2) (hn : ¬ b3 = b) :
    hget (hset (hset H b3 y) b x) b = some x ∧ hget (hset (hset H b3 y) b x) b3 = some y ∧ (∀ k o, ¬ k = b → ¬ k = b3 → hget H k = some o → hget (hset (hset H b3 y) b x) k = some o) ∧ ∀ G0, Dom G0 H → Dom G0 (hset (hset H b3 y) b x) :=
  ⟨hget_hset_self (hset_keep hb (fun e => hn e.symm)), hset_keep (hget_hset_self h3) hn, fun k o h1 h2 h => hset_keep (hset_keep h h2) h1, fun G0 h => h.hset.hset⟩
theorem q_known0 (b3 : Nat) {x c : Ex} {l : List Ex} (hxa : x.args = c :: l) (hl : x.args.length ≤ 1048576) : QuietOn Try.prog [(b3, .vars (cEx x))] 108 [.int .i64 0, .ptr b3 0] (.bool (litF c)) := by
  have h0 : 0 < x.args.length := by rw [hxa]; simp
  have := q_known b3 (.int .i64 x.kind) (.int .i64 x.num) (.str x.text) (.sl (x.names.1.map eNm) x.names.2 .no) (.sl (x.types.1.map eTyp) x.types.2 .no) (.sl (x.arms.map eArm) x.mnl .no) (.int .i64 x.pos) x.args x.anl .no 0 h0 hl
  have e : x.args[0] = c := by simp [hxa]
  rw [e] at this
  exact this
theorem q_known1 (b3 : Nat) {x c d : Ex} {l : List Ex} (hxa : x.args = c :: d :: l) (hl : x.args.length ≤ 1048576) : QuietOn Try.prog [(b3, .vars (cEx x))] 108 [.int .i64 1, .ptr b3 0] (.bool (litF d)) := by
  have h0 : 1 < x.args.length := by rw [hxa]; simp
  have := q_known b3 (.int .i64 x.kind) (.int .i64 x.num) (.str x.text) (.sl (x.names.1.map eNm) x.names.2 .no) (.sl (x.types.1.map eTyp) x.types.2 .no) (.sl (x.arms.map eArm) x.mnl .no) (.int .i64 x.pos) x.args x.anl .no 1 h0 hl
  have e : x.args[1] = d := by simp [hxa]
  rw [e] at this
  exact this
end Go.Proofs.Ytlgfffngojlffaa
