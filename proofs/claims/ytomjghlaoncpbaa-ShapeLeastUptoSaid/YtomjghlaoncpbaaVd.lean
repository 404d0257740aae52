/-
  What an operation that touches no memory answers, as a function of values.
-/
import Derived.Test.YtomjghlaoncpbaaVc
import Derived.Laws.StructEq
import Derived.WalkSpells
import Derived.Lib.SlBytesRow
namespace Go.Proofs.YtomjghlaoncpbaaV
open Go.RowKit
set_option linter.unusedVariables false
set_option linter.unusedSimpArgs false

def ofConst : Value → Option V
  | .bool b => some (.bool b)
  | .int k n => some (.int k n)
  | .string s => some (.str s.data.toList)
  | .pointer none => some .nilp
  | .slice none 0 0 => some (.sl [] true .full)
  | .map none => some .nilm
  | .nilFunc => some .nilf
  | .nilIface => some .nili
  | _ => none
def ev (f : FF) : Operand → Option V
  | .tmp t => f t
  | .const v => ofConst v
  | .func g => some (.func (.func g) [] [])
  | .global _ => none
theorem Rep.nilsl (M : PM) : Rep M (.sl [] true .full) (.slice none 0 0) :=
  .sl [] true .full none 0 0 0 (fun _ _ => undef) rfl (Nat.le_refl _) rfl (fun _ => rfl) (fun _ h => by cases h) (fun i h => absurd h (by simp)) (fun _ h => by cases h) (fun i h => absurd h (by simp)) rfl
theorem ofConst_rep (M : PM) {v : Value} {x : V} (h : ofConst v = some x) : Rep M x v := by
  unfold ofConst at h
  split at h <;> cases h
  · exact .bool _
  · exact .int _ _
  · rename_i s; exact .str s.data.toList
  · exact .nilp
  · exact Rep.nilsl M
  · exact .nilm
  · exact .nilf
  · exact .nili
theorem ev_rep {M : PM} {f : FF} {a : Act} (hf : RepG M f a.tmps) {x : Operand} {X : V} (h : ev f x = some X) : Rep M X (a.eval x) := by
  cases x with
  | tmp t => exact hf.get h
  | const v => exact ofConst_rep M h
  | func g => cases h; exact .func (.func g) [] [] #[] #[] rfl rfl (fun i h => absurd h (by simp)) (fun i h => absurd h (by simp))
  | global g => cases h

/-- A condition that the reader owes, and the value. -/
abbrev R := Option (Prop × V)
def ok (x : V) : R := some (True, x)

def kindIs (P : Program) (t : TypeId) (p : TypeDesc → Bool) : Bool := match P.underlying t with | some d => p d | none => false
def isBoolT : TypeDesc → Bool | .bool => true | _ => false
def isSliceT : TypeDesc → Bool | .slice _ => true | _ => false
def isMapT : TypeDesc → Bool | .map _ _ => true | _ => false
def isPtrT : TypeDesc → Bool | .pointer _ => true | _ => false
def isFuncT : TypeDesc → Bool | .func _ _ _ => true | _ => false

def binI (op : BinOp) (k : IntKind) (a b : Int) : R :=
  match op with
  | .add => ok (.int k (k.wrap (a + b)))
  | .sub => ok (.int k (k.wrap (a - b)))
  | .mul => ok (.int k (k.wrap (a * b)))
  | .quo => some (b ≠ 0, .int k (k.wrap (a.tdiv b)))
  | .rem => some (b ≠ 0, .int k (a.tmod b))
  | .and => ok (.int k (bits .and k a b))
  | .or => ok (.int k (bits .or k a b))
  | .xor => ok (.int k (bits .xor k a b))
  | .andNot => ok (.int k (bits .andNot k a b))
  | .eql => ok (.bool (decide (a = b)))
  | .neq => ok (.bool (decide (a ≠ b)))
  | .lss => ok (.bool (decide (a < b)))
  | .leq => ok (.bool (decide (a ≤ b)))
  | .gtr => ok (.bool (decide (b < a)))
  | .geq => ok (.bool (decide (b ≤ a)))
  | .shl => some (0 ≤ b, .int k (k.wrap (a * 2 ^ (Nat.min b.toNat k.bits))))
  | .shr => some (0 ≤ b, .int k (a.fdiv (2 ^ (Nat.min b.toNat k.bits))))
def binS (op : BinOp) (a b : List UInt8) : R :=
  match op with
  | .add => some (((a.length + b.length : Nat) : Int) ≤ 9223372036854775807, .str (a ++ b))
  | .eql => ok (.bool (decide (a = b)))
  | .neq => ok (.bool (decide (a ≠ b)))
  | .lss => ok (.bool (Op.bytesLess a b))
  | .leq => ok (.bool (Op.bytesLess a b || decide (a = b)))
  | .gtr => ok (.bool (!(Op.bytesLess a b || decide (a = b))))
  | .geq => ok (.bool (!Op.bytesLess a b))
  | _ => none
def binV (P : Program) (op : BinOp) (t : TypeId) : V → V → R
  | .int k a, .int k' b => match op with
    | .shl => binI .shl k a b
    | .shr => binI .shr k a b
    | _ => if k = k' then binI op k a b else none
  | .str a, .str b => binS op a b
  | .bool a, .bool b => if kindIs P t isBoolT then (match op with | .eql => ok (.bool (a == b)) | .neq => ok (.bool (!(a == b))) | _ => none) else none
  | .sl _ nl _, .sl [] true .full => if kindIs P t isSliceT then (match op with | .eql => ok (.bool nl) | .neq => ok (.bool (!nl)) | _ => none) else none
  | .ms _ _ _ _, .sl [] true .full => if kindIs P t isSliceT then (match op with | .eql => ok (.bool false) | .neq => ok (.bool true) | _ => none) else none
  | .nilp, .nilp => if kindIs P t isPtrT then (match op with | .eql => ok (.bool true) | .neq => ok (.bool false) | _ => none) else none
  | .ptr _ _, .nilp => if kindIs P t isPtrT then (match op with | .eql => ok (.bool false) | .neq => ok (.bool true) | _ => none) else none
  | .lp _ _, .nilp => if kindIs P t isPtrT then (match op with | .eql => ok (.bool false) | .neq => ok (.bool true) | _ => none) else none
  | .nilm, .nilm => if kindIs P t isMapT then (match op with | .eql => ok (.bool true) | .neq => ok (.bool false) | _ => none) else none
  | .map _, .nilm => if kindIs P t isMapT then (match op with | .eql => ok (.bool false) | .neq => ok (.bool true) | _ => none) else none
  | .nilf, .nilf => if kindIs P t isFuncT then (match op with | .eql => ok (.bool true) | .neq => ok (.bool false) | _ => none) else none
  | .func _ _ _, .nilf => if kindIs P t isFuncT then (match op with | .eql => ok (.bool false) | .neq => ok (.bool true) | _ => none) else none
  | _, _ => none

section
variable {P : Program} {w : World}
theorem kindIs_some {t : TypeId} {p : TypeDesc → Bool} (h : kindIs P t p = true) : ∃ d, P.underlying t = some d ∧ p d = true := by
  unfold kindIs at h
  split at h
  · exact ⟨_, by assumption, h⟩
  · cases h
theorem run_binI {op : BinOp} {t : TypeId} {k k' : IntKind} {a b : Int} {C : Prop} {x : V} (hk : k = k' ∨ op = .shl ∨ op = .shr) (h : binI op k a b = some (C, x)) (hC : C) :
    ∃ v, (binOp op t (.int k a) (.int k' b)).run P w = .ok v w ∧ ∀ M, Rep M x v := by
  cases op <;> simp only [binI, ok, Option.some.injEq, Prod.mk.injEq] at h <;> obtain ⟨rfl, rfl⟩ := h <;>
    first
    | (rcases hk with rfl | hk | hk
       · refine ⟨_, ?_, fun M => .int _ _⟩
         simp [binOp, Op.intArith, intBits_and, intBits_or, intBits_xor, intBits_andNot]
       · cases hk
       · cases hk)
    | (rcases hk with rfl | hk | hk
       · refine ⟨_, ?_, fun M => .int _ _⟩
         simp [binOp, Op.intDiv, hC]
       · cases hk
       · cases hk)
    | (rcases hk with rfl | hk | hk
       · refine ⟨_, ?_, fun M => .bool _⟩
         simp [binOp, Op.intCmp] <;> first | rfl | (congr 1; rw [Bool.eq_iff_iff]; simp; done)
       · cases hk
       · cases hk)
    | (refine ⟨_, ?_, fun M => .int _ _⟩
       have : ¬ b < 0 := by omega
       simp [binOp, Op.shift, this]; done)
theorem bytes_toList (a : List UInt8) : (⟨a.toArray⟩ : ByteArray).toList = a := by rw [Lib.toList_data]
theorem run_binS {op : BinOp} {t : TypeId} {a b : List UInt8} {C : Prop} {x : V} (h : binS op a b = some (C, x)) (hC : C) :
    ∃ v, (binOp op t (.string ⟨a.toArray⟩) (.string ⟨b.toArray⟩)).run P w = .ok v w ∧ ∀ M, Rep M x v := by
  have hs : ∀ l : List UInt8, (⟨l.toArray⟩ : ByteArray).size = l.length := fun l => by simp [ByteArray.size]
  cases op <;> simp only [binS, ok, Option.some.injEq, Prod.mk.injEq, reduceCtorEq] at h <;> obtain ⟨rfl, rfl⟩ := h
  case add =>
    refine ⟨.string ⟨(a ++ b).toArray⟩, ?_, fun M => .str _⟩
    have h1 : ¬ (((a.length + b.length : Nat) : Int) > IntKind.i64.max) := by simp only [show IntKind.i64.max = 9223372036854775807 from rfl]; omega
    simp only [binOp, Op.stringOp, hs, h1, if_false, Sem.run_pure]
    congr 2
  all_goals
    refine ⟨_, ?_, fun M => .bool _⟩
    have he : (a == b) = decide (a = b) := by rw [Bool.eq_iff_iff]; simp
    simp [binOp, Op.stringOp, bytes_toList, he]
theorem sl_nil_inv {M : PM} {t : Tag} {v : Value} (h : Rep M (.sl [] true t) v) : ∃ l c, v = .slice none l c := by
  cases h with
  | sl es nl t a len cap sz g hl hc hn hz hs he hm hr ht =>
    cases a with
    | none => exact ⟨_, _, rfl⟩
    | some ad => simp at hn
theorem sl_inv {M : PM} {es : List (List V)} {nl : Bool} {t : Tag} {v : Value} (h : Rep M (.sl es nl t) v) : ∃ a c, v = .slice a es.length c ∧ es.length ≤ c ∧ nl = a.isNone := by
  cases h with
  | sl es nl t a len cap sz g hl hc hn hz hs he hm hr ht => subst hl; exact ⟨a, cap, rfl, hc, hn⟩
theorem lp_inv {M : PM} {cs : List V} {o : Nat} {v : Value} (h : Rep M (.lp cs o) v) : ∃ ad, v = .pointer (some ad) := by
  cases h; exact ⟨_, rfl⟩
theorem func_inv {M : PM} {fn : Fn} {xs ys : List V} {v : Value} (h : Rep M (.func fn xs ys) v) : ∃ us vs : Array Value, v = .func fn us vs ∧ RepL M xs us.toList ∧ RepL M ys vs.toList := by
  cases h with
  | func fn xs ys us vs h1 h2 r1 r2 => exact ⟨us, vs, rfl, RepL.ofArr h1 r1, RepL.ofArr h2 r2⟩
theorem run_eqlV {t : TypeId} {u v : Value} {b : Bool} (hb : binOp .eql t u v = (do pure (.bool (← Op.equal t u v)))) (h : ∀ d, (Op.equalIn (d + 1) t u v).run P w = .ok b w) : (binOp .eql t u v).run P w = .ok (.bool b) w := by
  have : (Op.equal t u v).run P w = .ok b w := h 9999
  simp only [hb, Sem.run_bind, this, Result.andThen_ok, Sem.run_pure]
theorem run_neqV {t : TypeId} {u v : Value} {b : Bool} (hb : binOp .neq t u v = (do pure (.bool (!(← Op.equal t u v))))) (h : ∀ d, (Op.equalIn (d + 1) t u v).run P w = .ok b w) : (binOp .neq t u v).run P w = .ok (.bool !b) w := by
  have : (Op.equal t u v).run P w = .ok b w := h 9999
  simp only [hb, Sem.run_bind, this, Result.andThen_ok, Sem.run_pure]
set_option maxHeartbeats 4000000 in
theorem run_binV {M : PM} {op : BinOp} {t : TypeId} {A B : V} {u v : Value} {C : Prop} {x : V} (h : binV P op t A B = some (C, x)) (hC : C) (hA : Rep M A u) (hB : Rep M B v) :
    ∃ r, (binOp op t u v).run P w = .ok r w ∧ ∀ M, Rep M x r := by
  unfold binV at h
  split at h
  case h_1 k a k' b =>
    obtain rfl := hA.int_inv
    obtain rfl := hB.int_inv
    split at h
    · exact run_binI (.inr (.inl rfl)) h hC
    · exact run_binI (.inr (.inr rfl)) h hC
    · split at h
      · exact run_binI (.inl (by assumption)) h hC
      · cases h
  case h_2 a b =>
    obtain rfl := hA.str_inv
    obtain rfl := hB.str_inv
    exact run_binS h hC
  case h_3 a b =>
    obtain rfl := hA.bool_inv
    obtain rfl := hB.bool_inv
    split at h
    · rename_i hk
      obtain ⟨d, hd, hk⟩ := kindIs_some hk
      cases d <;> simp [isBoolT] at hk
      cases op <;> simp only [ok, Option.some.injEq, Prod.mk.injEq, reduceCtorEq] at h <;> obtain ⟨rfl, rfl⟩ := h
      · exact ⟨_, run_eql_bool w t a b hd, fun M => .bool _⟩
      · exact ⟨_, run_neq_bool w t a b hd, fun M => .bool _⟩
    · cases h
  case h_4 es nl tg =>
    obtain ⟨a, c, rfl, hc, rfl⟩ := sl_inv hA
    obtain ⟨l2, c2, rfl⟩ := sl_nil_inv hB
    split at h
    · rename_i hk
      obtain ⟨d, hd, hk⟩ := kindIs_some hk
      cases d <;> simp [isSliceT] at hk
      cases op <;> simp only [ok, Option.some.injEq, Prod.mk.injEq, reduceCtorEq] at h <;> obtain ⟨rfl, rfl⟩ := h
      · exact ⟨_, run_eqlV (b := a.isNone) rfl (fun d => by cases a <;> simp [Op.equalIn, run_underlying hd]), fun M => .bool _⟩
      · exact ⟨_, run_neqV (b := a.isNone) rfl (fun d => by cases a <;> simp [Op.equalIn, run_underlying hd]), fun M => .bool _⟩
    · cases h
  case h_5 =>
    obtain ⟨rfl, hc⟩ := hA.ms_inv
    obtain ⟨l2, c2, rfl⟩ := sl_nil_inv hB
    split at h
    · rename_i hk
      obtain ⟨d, hd, hk⟩ := kindIs_some hk
      cases d <;> simp [isSliceT] at hk
      cases op <;> simp only [ok, Option.some.injEq, Prod.mk.injEq, reduceCtorEq] at h <;> obtain ⟨rfl, rfl⟩ := h
      · exact ⟨_, run_eqlV (b := false) rfl (fun d => by simp [Op.equalIn, run_underlying hd]), fun M => .bool _⟩
      · exact ⟨_, run_neqV (b := false) rfl (fun d => by simp [Op.equalIn, run_underlying hd]), fun M => .bool _⟩
    · cases h
  case h_6 =>
    obtain rfl := hA.nilp_inv
    obtain rfl := hB.nilp_inv
    split at h
    · rename_i hk
      obtain ⟨d, hd, hk⟩ := kindIs_some hk
      cases d <;> simp [isPtrT] at hk
      cases op <;> simp only [ok, Option.some.injEq, Prod.mk.injEq, reduceCtorEq] at h <;> obtain ⟨rfl, rfl⟩ := h
      · exact ⟨_, run_eqlV (b := true) rfl (fun d => by simp [Op.equalIn, run_underlying hd]), fun M => .bool _⟩
      · exact ⟨_, run_neqV (b := true) rfl (fun d => by simp [Op.equalIn, run_underlying hd]), fun M => .bool _⟩
    · cases h
  case h_7 =>
    obtain rfl := hA.ptr_inv
    obtain rfl := hB.nilp_inv
    split at h
    · rename_i hk
      obtain ⟨d, hd, hk⟩ := kindIs_some hk
      cases d <;> simp [isPtrT] at hk
      cases op <;> simp only [ok, Option.some.injEq, Prod.mk.injEq, reduceCtorEq] at h <;> obtain ⟨rfl, rfl⟩ := h
      · exact ⟨_, run_eqlV (b := false) rfl (fun d => by simp [Op.equalIn, run_underlying hd]), fun M => .bool _⟩
      · exact ⟨_, run_neqV (b := false) rfl (fun d => by simp [Op.equalIn, run_underlying hd]), fun M => .bool _⟩
    · cases h
  case h_8 =>
    obtain ⟨ad, rfl⟩ := lp_inv hA
    obtain rfl := hB.nilp_inv
    split at h
    · rename_i hk
      obtain ⟨d, hd, hk⟩ := kindIs_some hk
      cases d <;> simp [isPtrT] at hk
      cases op <;> simp only [ok, Option.some.injEq, Prod.mk.injEq, reduceCtorEq] at h <;> obtain ⟨rfl, rfl⟩ := h
      · exact ⟨_, run_eqlV (b := false) rfl (fun d => by simp [Op.equalIn, run_underlying hd]), fun M => .bool _⟩
      · exact ⟨_, run_neqV (b := false) rfl (fun d => by simp [Op.equalIn, run_underlying hd]), fun M => .bool _⟩
    · cases h
  case h_9 =>
    obtain rfl := hA.nilm_inv
    obtain rfl := hB.nilm_inv
    split at h
    · rename_i hk
      obtain ⟨d, hd, hk⟩ := kindIs_some hk
      cases d <;> simp [isMapT] at hk
      cases op <;> simp only [ok, Option.some.injEq, Prod.mk.injEq, reduceCtorEq] at h <;> obtain ⟨rfl, rfl⟩ := h
      · exact ⟨_, run_eqlV (b := true) rfl (fun d => by simp [Op.equalIn, run_underlying hd]), fun M => .bool _⟩
      · exact ⟨_, run_neqV (b := true) rfl (fun d => by simp [Op.equalIn, run_underlying hd]), fun M => .bool _⟩
    · cases h
  case h_10 =>
    obtain rfl := hA.map_inv
    obtain rfl := hB.nilm_inv
    split at h
    · rename_i hk
      obtain ⟨d, hd, hk⟩ := kindIs_some hk
      cases d <;> simp [isMapT] at hk
      cases op <;> simp only [ok, Option.some.injEq, Prod.mk.injEq, reduceCtorEq] at h <;> obtain ⟨rfl, rfl⟩ := h
      · exact ⟨_, run_eqlV (b := false) rfl (fun d => by simp [Op.equalIn, run_underlying hd]), fun M => .bool _⟩
      · exact ⟨_, run_neqV (b := false) rfl (fun d => by simp [Op.equalIn, run_underlying hd]), fun M => .bool _⟩
    · cases h
  case h_11 =>
    obtain rfl := hA.nilf_inv
    obtain rfl := hB.nilf_inv
    split at h
    · rename_i hk
      obtain ⟨d, hd, hk⟩ := kindIs_some hk
      cases d <;> simp [isFuncT] at hk
      cases op <;> simp only [ok, Option.some.injEq, Prod.mk.injEq, reduceCtorEq] at h <;> obtain ⟨rfl, rfl⟩ := h
      · exact ⟨_, run_eqlV (b := true) rfl (fun d => by simp [Op.equalIn, run_underlying hd]), fun M => .bool _⟩
      · exact ⟨_, run_neqV (b := true) rfl (fun d => by simp [Op.equalIn, run_underlying hd]), fun M => .bool _⟩
    · cases h
  case h_12 =>
    obtain ⟨us, vs, rfl, _, _⟩ := func_inv hA
    obtain rfl := hB.nilf_inv
    split at h
    · rename_i hk
      obtain ⟨d, hd, hk⟩ := kindIs_some hk
      cases d <;> simp [isFuncT] at hk
      cases op <;> simp only [ok, Option.some.injEq, Prod.mk.injEq, reduceCtorEq] at h <;> obtain ⟨rfl, rfl⟩ := h
      · exact ⟨_, run_eqlV (b := false) rfl (fun d => by simp [Op.equalIn, run_underlying hd]), fun M => .bool _⟩
      · exact ⟨_, run_neqV (b := false) rfl (fun d => by simp [Op.equalIn, run_underlying hd]), fun M => .bool _⟩
    · cases h
  case h_13 => cases h
end
end Go.Proofs.YtomjghlaoncpbaaV
