/- api.Value as data; what is known of any value of that type and of no more bulk than a statement allows. No conditions. -/
import Derived.Test.YtomjghlaoncpbaaVr
import Derived.Test.YtomjghlaoncpbaaTy
set_option linter.unusedSimpArgs false
set_option linter.unusedVariables false
namespace Go.Proofs.Ytomjghlaoncpbaa
open Go.Proofs.YtomjghlaoncpbaaV
set_option maxRecDepth 100000
inductive Val where
  | mk (kind num : Int) (text : List UInt8) (args : List Val) (nl : Bool)
namespace Val
def kind : Val → Int | mk k _ _ _ _ => k
def num : Val → Int | mk _ n _ _ _ => n
def text : Val → List UInt8 | mk _ _ t _ _ => t
def args : Val → List Val | mk _ _ _ a _ => a
def nl : Val → Bool | mk _ _ _ _ b => b
end Val
instance : Inhabited Val := ⟨.mk 0 0 [] [] true⟩
mutual
def eVal : Val → List V | .mk k n t ar nl => [.int .i64 k, .int .i64 n, .str t, .sl (eVals ar) nl .no]
def eVals : List Val → List (List V) | [] => [] | v :: vs => eVal v :: eVals vs
end
mutual
/-- How many values. -/
def Val.sz : Val → Nat | .mk _ _ _ ar _ => 1 + szs ar
def szs : List Val → Nat | [] => 0 | v :: vs => v.sz + szs vs
end
theorem eVals_map : ∀ vs, eVals vs = vs.map eVal
  | [] => rfl
  | v :: vs => by rw [eVals, eVals_map vs]; rfl
theorem eVal_eq (v : Val) : eVal v = [.int .i64 v.kind, .int .i64 v.num, .str v.text, .sl (v.args.map eVal) v.nl .no] := by
  cases v; rw [eVal, eVals_map]; rfl
theorem szs_mem {v : Val} : ∀ {vs : List Val}, v ∈ vs → v.sz ≤ szs vs
  | u :: vs, h => by
    simp only [szs]
    rcases List.mem_cons.1 h with rfl | h
    · omega
    · have := szs_mem h; omega
theorem Val.sz_eq (v : Val) : v.sz = 1 + szs v.args := by cases v; rw [Val.sz]; rfl
theorem szs_append : ∀ a b : List Val, szs (a ++ b) = szs a + szs b
  | [], b => by simp [szs]
  | v :: a, b => by simp only [List.cons_append, szs, szs_append a b]; omega
theorem szs_len : ∀ vs : List Val, vs.length ≤ szs vs
  | [] => by simp [szs]
  | v :: vs => by have := szs_len vs; have := v.sz_eq; simp only [szs, List.length_cons]; omega
theorem Val.sz_args {v a : Val} (h : a ∈ v.args) : a.sz < v.sz := by have := szs_mem h; have := v.sz_eq; omega
/-- What any value keeps to. -/
inductive OkVal : Val → Prop
  | mk {k n : Int} {t : List UInt8} {ar : List Val} {nl : Bool} (hk : IntKind.i64.min ≤ k ∧ k ≤ IntKind.i64.max) (hn : IntKind.i64.min ≤ n ∧ n ≤ IntKind.i64.max) (ht : t.length ≤ bulk) (hnl : nl = true → ar = []) (hl : ar.length ≤ bulk) (ha : ∀ a ∈ ar, OkVal a) : OkVal (.mk k n t ar nl)
theorem OkVal.text {v : Val} (h : OkVal v) : v.text.length ≤ bulk := by cases h; assumption
theorem OkVal.len {v : Val} (h : OkVal v) : v.args.length ≤ bulk := by cases h; assumption
theorem OkVal.nil {v : Val} (h : OkVal v) : v.nl = true → v.args = [] := by cases h; assumption
theorem OkVal.arg {v a : Val} (h : OkVal v) (ha : a ∈ v.args) : OkVal a := by cases h; rename_i ha'; exact ha' a ha
theorem OkVal.kind {v : Val} (h : OkVal v) : IntKind.i64.min ≤ v.kind ∧ v.kind ≤ IntKind.i64.max := by cases h; assumption
theorem OkVal.num {v : Val} (h : OkVal v) : IntKind.i64.min ≤ v.num ∧ v.num ≤ IntKind.i64.max := by cases h; assumption
def oVal (v : Val) : Prop := OkVal v ∧ v.sz ≤ bulk
theorem oVal.arg {v a : Val} (h : oVal v) (ha : a ∈ v.args) : oVal a := ⟨h.1.arg ha, Nat.le_trans (Nat.le_of_lt (Val.sz_args ha)) h.2⟩
mutual
theorem sz_le : ∀ v : Val, v.sz ≤ vszL (eVal v)
  | .mk k n t ar nl => by have := szs_le ar; simp only [Val.sz, eVal, vszL, vsz]; omega
theorem szs_le : ∀ vs : List Val, szs vs ≤ vszLL (eVals vs)
  | [] => by simp [szs]
  | v :: vs => by have := sz_le v; have := szs_le vs; simp only [szs, eVals, vszLL]; omega
end
theorem pVal (v : Val) : 1 ≤ vszL (eVal v) := by have := sz_le v; have := v.sz_eq; omega
theorem dVal0 : ∀ n, Dec Try.prog 67 eVal OkVal n := by
  intro n
  induction n using Nat.strongRecOn with
  | _ n ih =>
    intro cs hv hb
    obtain ⟨m, rfl, h⟩ := dec_struct (ts := [3, 3, 9, 37]) (by kernel_rfl) hv
    obtain ⟨a0, r0, rfl, _, h0, a1, r1, rfl, _, h1, a2, r2, rfl, _, h2, a3, r3, rfl, _, h3, rfl⟩ := h
    simp only [vszL_append] at hb
    obtain ⟨x0, rfl, q0⟩ := dec_int (n := m) (k := .i64) (by kernel_rfl) _ h0 (by omega)
    obtain ⟨x1, rfl, q1⟩ := dec_int (n := m) (k := .i64) (by kernel_rfl) _ h1 (by omega)
    obtain ⟨x2, rfl, q2⟩ := dec_str (n := m) (by kernel_rfl) _ h2 (by omega)
    obtain ⟨x3, rfl, q3, q4, q5⟩ := dec_slice (n := m) (el := 67) (by kernel_rfl) pVal (fun k hk => ih k (by omega)) _ h3 (by omega)
    exact ⟨.mk x0 x1 x2 x3.1 x3.2, by rw [eVal_eq]; rfl, .mk q0 q1 q2 q3 q4 q5⟩
theorem dVal (n : Nat) : Dec Try.prog 67 eVal oVal n := fun cs hv hb => by
  obtain ⟨x, rfl, h⟩ := dVal0 n cs hv hb
  exact ⟨x, rfl, h, Nat.le_trans (sz_le x) hb⟩
mutual
/-- The same but for nil where there is nothing. -/
def sameV : Val → Val → Bool | .mk k n t ar _, .mk k' n' t' ar' _ => decide (k = k') && decide (n = n') && decide (t = t') && sameVs ar ar'
def sameVs : List Val → List Val → Bool
  | [], [] => true
  | v :: vs, u :: us => sameV v u && sameVs vs us
  | _, _ => false
end
/-- slices.EqualFunc -/
def eqF {A B : Type} (f : A → B → Bool) (xs : List A) (ys : List B) : Bool := decide (xs.length = ys.length) && (xs.zip ys).all fun p => f p.1 p.2
theorem eqF_cons {A B : Type} (f : A → B → Bool) (x : A) (y : B) (xs : List A) (ys : List B) : eqF f (x :: xs) (y :: ys) = (f x y && eqF f xs ys) := by
  simp [eqF, Bool.and_left_comm]
theorem sameVs_eq : ∀ vs us, sameVs vs us = eqF sameV vs us
  | [], [] => rfl
  | [], _ :: _ => by simp [sameVs, eqF]
  | _ :: _, [] => by simp [sameVs, eqF]
  | v :: vs, u :: us => by rw [sameVs, sameVs_eq vs us, eqF_cons]
theorem sameV_eq (v u : Val) : sameV v u = (decide (v.kind = u.kind) && decide (v.num = u.num) && decide (v.text = u.text) && eqF sameV v.args u.args) := by
  cases v; cases u; rw [sameV, sameVs_eq]; rfl
mutual
theorem sameV_refl : ∀ v, sameV v v = true
  | .mk k n t ar nl => by simp [sameV, sameVs_refl ar]
theorem sameVs_refl : ∀ vs, sameVs vs vs = true
  | [] => rfl
  | v :: vs => by simp [sameVs, sameV_refl v, sameVs_refl vs]
end
mutual
/-- A value's copy. -/
def cpV : Val → Val | .mk k n t ar _ => .mk k n t (cpVs ar) ar.isEmpty
def cpVs : List Val → List Val | [] => [] | v :: vs => cpV v :: cpVs vs
end
theorem cpVs_map : ∀ vs, cpVs vs = vs.map cpV
  | [] => rfl
  | v :: vs => by rw [cpVs, cpVs_map vs]; rfl
theorem cpV_eq (v : Val) : cpV v = .mk v.kind v.num v.text (v.args.map cpV) v.args.isEmpty := by cases v; rw [cpV, cpVs_map]; rfl
mutual
theorem same_cp : ∀ v, sameV (cpV v) v = true
  | .mk k n t ar nl => by simp [cpV, sameV, sames_cp ar]
theorem sames_cp : ∀ vs, sameVs (cpVs vs) vs = true
  | [] => rfl
  | v :: vs => by simp [cpVs, sameVs, same_cp v, sames_cp vs]
end
end Go.Proofs.Ytomjghlaoncpbaa
