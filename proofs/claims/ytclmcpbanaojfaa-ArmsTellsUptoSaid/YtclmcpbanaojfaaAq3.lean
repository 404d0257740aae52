/- Part 3 of a proof laid in parts; each part's own comment says what it proves and under which conditions. -/
import Derived.Test.YtclmcpbanaojfaaAq2
import Derived.ChangeSame
import Derived.Carry
import Derived.Below
import Derived.Test.YtclmcpbanaojfaaRows
import Derived.Laws.StandIn
import Derived.Lib.BytesEntry
import Derived.Lib.SlBytesConst
import Derived.Sort.Grow
/-
  How a region is walked: one operation at a time.
-/
namespace Go.Proofs.YtclmcpbanaojfaaV
open Go.RowKit
set_option linter.unusedVariables false
set_option linter.unusedSimpArgs false

/-- What of a region is yet to be walked. -/
inductive Rest where
  | t (os : List Oper)
  | d (σ : List (Nat × Bool))
def go (P : Program) (ops : List Oper) : Rest → Frame → Heap → Kf → Prop
  | .t os, f, G, K => rg P ops os f G K
  | .d σ, f, G, K => rgD P ops σ f G K
section
variable {P : Program} {ops : List Oper} {f : Frame} {G : Heap} {K : Kf} {q : Bool} {d : Option Tmp} {op : Op} {r : Rest}
/-- The operation is known to be carried out; its answer, if it writes nothing. -/
def goR (P : Program) (ops : List Oper) (x : R) (q : Bool) (d : Option Tmp) (op : Op) (r : Rest) (f : Frame) (G : Heap) (K : Kf) : Prop :=
  match x with
  | some (C, x) => C ∧ go P ops r (fput f d x) G K
  | none => match q with
    | false => fx P (fget f) G op (fun x G => go P ops r (fput f d x) G K)
    | true => match op with
      | .call { callee := .value c, args := as_, argTypes := _ } => match callee (fget f) c, evL (fget f) as_.toList with
        | some (g, xs, ys), some zs => ∃ x, QOn P G g (xs ++ zs ++ ys) x ∧ go P ops r (fput f d x) G K
        | _, _ => False
      | _ => False
/-- The same under a guard. -/
def goG (P : Program) (ops : List Oper) (x : R) (g q : Bool) (d : Option Tmp) (op : Op) (r : Rest) (f : Frame) (G : Heap) (K : Kf) : Prop :=
  match x with
  | some (C, x) => (g = true → C) ∧ go P ops r (fput f d (.opt g x)) G K
  | none => match q with
    | false => (g = true → fx P (unF g (fget f)) G op (fun x G => go P ops r (fput f d (.opt g x)) G K)) ∧ (g = false → ∃ x, go P ops r (fput f d (.opt g x)) G K)
    | true => match op with
      | .call { callee := .value c, args := as_, argTypes := _ } => match callee (unF g (fget f)) c, evL (unF g (fget f)) as_.toList with
        | some (h, xs, ys), some zs => ∃ x, (g = true → QOn P G h (xs ++ zs ++ ys) x) ∧ go P ops r (fput f d (.opt g x)) G K
        | _, _ => g = false ∧ go P ops r (fput f d (.opt g .any)) G K
      | _ => g = false ∧ go P ops r (fput f d (.opt g .any)) G K
def goV (P : Program) (ops : List Oper) (v : Option Bool) (q : Bool) (d : Option Tmp) (op : Op) (r : Rest) (f : Frame) (G : Heap) (K : Kf) : Prop :=
  match v with
  | some g => goG P ops (qv P (unF g (fget f)) G op) g q d op r f G K
  | none => False
def goT (P : Program) (ops : List Oper) (t : Option Tmp) (want : Bool) (q : Bool) (d : Option Tmp) (op : Op) (r : Rest) (f : Frame) (G : Heap) (K : Kf) : Prop :=
  match t with
  | some t => goV P ops ((fget f t).bind (gcond want)) q d op r f G K
  | none => False
def goO (P : Program) (ops : List Oper) (o : Option Oper) (q : Bool) (r : Rest) (f : Frame) (G : Heap) (K : Kf) : Prop :=
  match o with
  | some ⟨d, op, _, _, _, none⟩ => goR P ops (qv P (fget f) G op) q d op r f G K
  | some ⟨d, op, _, _, _, some (j, want)⟩ => goT P ops (gtmp ops j) want q d op r f G K
  | none => False
theorem stepV_goR : stepV P (fget f) G op (fun x G => go P ops r (fput f d x) G K) = goR P ops (qv P (fget f) G op) false d op r f G K := by
  unfold stepV goR
  cases qv P (fget f) G op with
  | none => rfl
  | some p => rfl
theorem quietK_goR : quietK P (fget f) G op (fun x G => go P ops r (fput f d x) G K) = goR P ops (qv P (fget f) G op) true d op r f G K := by
  unfold quietK goR
  cases qv P (fget f) G op with
  | none => rfl
  | some p => rfl
theorem semK_goR : semK P q (fget f) G op (fun x G => go P ops r (fput f d x) G K) = goR P ops (qv P (fget f) G op) q d op r f G K := by
  cases q
  · exact stepV_goR
  · exact quietK_goR
theorem gstep_goG {g : Bool} : gstep P g (fget f) G op (fun x G => go P ops r (fput f d x) G K) = goG P ops (qv P (unF g (fget f)) G op) g false d op r f G K := by
  unfold gstep goG
  cases qv P (unF g (fget f)) G op with
  | none => rfl
  | some p => rfl
theorem quietG_goG {g : Bool} : quietG P g (fget f) G op (fun x G => go P ops r (fput f d x) G K) = goG P ops (qv P (unF g (fget f)) G op) g true d op r f G K := by
  unfold quietG goG
  cases qv P (unF g (fget f)) G op with
  | none => rfl
  | some p => rfl
theorem semG_goG {g : Bool} : semG P q g (fget f) G op (fun x G => go P ops r (fput f d x) G K) = goG P ops (qv P (unF g (fget f)) G op) g q d op r f G K := by
  cases q
  · exact gstep_goG
  · exact quietG_goG
@[go_sem] theorem go_nil : go P ops (.t []) f G K = K f G := rfl
@[go_sem] theorem go_dnil : go P ops (.d []) f G K = K f G := rfl
@[go_sem] theorem go_op (ty : TypeId) (pos : String) (aft : Array Edge) (os : List Oper) : go P ops (.t (⟨d, op, ty, pos, aft, none⟩ :: os)) f G K = goR P ops (qv P (fget f) G op) false d op (.t os) f G K :=
  stepV_goR (r := .t os)
@[go_sem] theorem go_gd (ty : TypeId) (pos : String) (aft : Array Edge) (j : Nat) (want : Bool) (os : List Oper) : go P ops (.t (⟨d, op, ty, pos, aft, some (j, want)⟩ :: os)) f G K = goT P ops (gtmp ops j) want false d op (.t os) f G K := by
  show rg P ops _ f G K = _
  unfold rg
  simp only [goT]
  cases gtmp ops j with
  | none => rfl
  | some t =>
    simp only [goV]
    cases (fget f t).bind (gcond want) with
    | none => rfl
    | some g => exact gstep_goG (r := .t os)
/-- The operation of that number. -/
def pk (l : List Oper) (i : Nat) : Option Oper := l[i]?
@[go_sem] theorem pk_0 (o : Oper) (l : List Oper) : pk (o :: l) 0 = some o := rfl
@[go_sem] theorem pk_s (o : Oper) (l : List Oper) (i : Nat) : pk (o :: l) (i + 1) = pk l i := by simp [pk]
@[congr] theorem pk_cg {l : List Oper} {i i' : Nat} (h : i = i') : pk l i = pk l i' := h ▸ rfl
@[go_sem] theorem gtmp_0 (op : Op) (ty : TypeId) (pos : String) (aft : Array Edge) (g : Option (Nat × Bool)) (l : List Oper) : gtmp (⟨d, op, ty, pos, aft, g⟩ :: l) 0 = d := rfl
@[go_sem] theorem gtmp_s (o : Oper) (l : List Oper) (i : Nat) : gtmp (o :: l) (i + 1) = gtmp l i := by simp [gtmp]
@[congr] theorem gtmp_cg {l : List Oper} {i i' : Nat} (h : i = i') : gtmp l i = gtmp l i' := h ▸ rfl
@[go_sem] theorem go_d (i : Nat) (σ : List (Nat × Bool)) : go P ops (.d ((i, q) :: σ)) f G K = goO P ops (pk ops i) q (.d σ) f G K := by
  unfold pk
  show rgD P ops _ f G K = _
  unfold rgD goO
  cases ops[i]? with
  | none => rfl
  | some o =>
    obtain ⟨d, op, ty, pos, aft, g⟩ := o
    cases g with
    | none => exact semK_goR (r := .d σ)
    | some jw =>
      obtain ⟨j, want⟩ := jw
      simp only [goT]
      cases gtmp ops j with
      | none => rfl
      | some t =>
        simp only [goV]
        cases (fget f t).bind (gcond want) with
        | none => rfl
        | some g => exact semG_goG (r := .d σ)
@[go_sem] theorem goO_some (ty : TypeId) (pos : String) (aft : Array Edge) : goO P ops (some ⟨d, op, ty, pos, aft, none⟩) q r f G K = goR P ops (qv P (fget f) G op) q d op r f G K := rfl
@[go_sem] theorem goO_gd (ty : TypeId) (pos : String) (aft : Array Edge) (j : Nat) (want : Bool) : goO P ops (some ⟨d, op, ty, pos, aft, some (j, want)⟩) q r f G K = goT P ops (gtmp ops j) want q d op r f G K := rfl
@[go_sem] theorem goT_some (t : Tmp) (want : Bool) : goT P ops (some t) want q d op r f G K = goV P ops ((fget f t).bind (gcond want)) q d op r f G K := rfl
@[go_sem] theorem goV_some (g : Bool) : goV P ops (some g) q d op r f G K = goG P ops (qv P (unF g (fget f)) G op) g q d op r f G K := rfl
@[go_sem] theorem goG_some (C : Prop) (x : V) (g : Bool) : goG P ops (some (C, x)) g q d op r f G K = ((g = true → C) ∧ go P ops r (fput f d (.opt g x)) G K) := rfl
/-- A guarded operation that writes, or calls a function that does: one by one. -/
def goF (P : Program) (ops : List Oper) (g : Bool) (d : Option Tmp) (op : Op) (r : Rest) (f : Frame) (G : Heap) (K : Kf) : Prop := fx P (unF g (fget f)) G op (fun x G => go P ops r (fput f d (.opt g x)) G K)
theorem goG_split (g : Bool) (h1 : g = true → goF P ops g d op r f G K) (h2 : g = false → go P ops r (fput f d (.opt g .any)) G K) : goG P ops none g false d op r f G K := ⟨h1, fun e => ⟨_, h2 e⟩⟩
@[go_sem] theorem goR_some (C : Prop) (x : V) : goR P ops (some (C, x)) q d op r f G K = (C ∧ go P ops r (fput f d x) G K) := rfl

/-! ### what makes, writes, calls -/
def goNew (P : Program) (ops : List Oper) (z : Option V) (d : Option Tmp) (r : Rest) (f : Frame) (G : Heap) (K : Kf) : Prop :=
  match z with
  | some z => plainV z = true ∧ ∀ b, hget G b = none → go P ops r (fput f d (.ptr b 0)) ((b, .vars (cellsV z)) :: G) K
  | none => False
@[go_sem] theorem goR_alloc (t : TypeId) : goR P ops none false d (.alloc t) r f G K = goNew P ops (tzero P t) d r f G K := by
  simp only [goR, fx, goNew]
  cases tzero P t <;> rfl
@[go_sem] theorem goR_box (t : TypeId) (x : Operand) : goR P ops none false d (.box t x) r f G K = goNew P ops (ev (fget f) x) d r f G K := by
  simp only [goR, fx, goNew]
  cases ev (fget f) x <;> rfl
@[go_sem] theorem goNew_some (z : V) : goNew P ops (some z) d r f G K = (plainV z = true ∧ ∀ b, hget G b = none → go P ops r (fput f d (.ptr b 0)) ((b, .vars (cellsV z)) :: G) K) := rfl
def goSt2 (P : Program) (ops : List Oper) (o : Option AObj) (b z : Nat) (X : V) (n : Nat) (d : Option Tmp) (r : Rest) (f : Frame) (G : Heap) (K : Kf) : Prop :=
  match o with
  | some (.vars cs) => (plainV X = true ∧ (cellsV X).all scalarV = true ∧ (cellsV X).length = n ∧ z + n ≤ cs.length) ∧ go P ops r (fput f d .any) (hset G b (.vars (setMany cs z (cellsV X)))) K
  | _ => False
def goSt (P : Program) (ops : List Oper) (p x : Option V) (n : Option Nat) (d : Option Tmp) (r : Rest) (f : Frame) (G : Heap) (K : Kf) : Prop :=
  match p, x, n with
  | some (.ptr b z), some X, some n => goSt2 P ops (hget G b) b z X n d r f G K
  | _, _, _ => False
@[go_sem] theorem goR_store (t : TypeId) (p x : Operand) : goR P ops none false d (.store t p x) r f G K = goSt P ops (ev (fget f) p) (ev (fget f) x) (tsz P t) d r f G K := by
  simp only [goR, fx, goSt]
  cases ev (fget f) p with
  | none => rfl
  | some p => cases p <;> first | rfl | (cases ev (fget f) x <;> first | rfl | (cases tsz P t <;> first | rfl | (simp only [goSt2]; rename_i b z X n; cases hget G b <;> first | rfl | (rename_i o; cases o <;> rfl))))
@[go_sem] theorem goSt_some (b z : Nat) (X : V) (n : Nat) : goSt P ops (some (.ptr b z)) (some X) (some n) d r f G K = goSt2 P ops (hget G b) b z X n d r f G K := rfl
@[go_sem] theorem goSt2_some (b z : Nat) (X : V) (n : Nat) (cs : List V) : goSt2 P ops (some (.vars cs)) b z X n d r f G K = ((plainV X = true ∧ (cellsV X).all scalarV = true ∧ (cellsV X).length = n ∧ z + n ≤ cs.length) ∧ go P ops r (fput f d .any) (hset G b (.vars (setMany cs z (cellsV X)))) K) := rfl
/-- A call: by what it does, or (quiet) by its answer alone. -/
def goA (P : Program) (ops : List Oper) (g : FuncId) (xs : List V) (d : Option Tmp) (r : Rest) (f : Frame) (G : Heap) (K : Kf) : Prop := ACall P g xs (fun x G => go P ops r (fput f d x) G K) G
def goQ (P : Program) (ops : List Oper) (g : FuncId) (xs : List V) (d : Option Tmp) (r : Rest) (f : Frame) (G : Heap) (K : Kf) : Prop := ∃ x, QOn P G g xs x ∧ go P ops r (fput f d x) G K
def goC (P : Program) (ops : List Oper) (q : Bool) (c : Option (FuncId × List V × List V)) (zs : Option (List V)) (d : Option Tmp) (r : Rest) (f : Frame) (G : Heap) (K : Kf) : Prop :=
  match c, zs with
  | some (g, xs, ys), some zs => match q with | true => goQ P ops g (xs ++ zs ++ ys) d r f G K | false => goA P ops g (xs ++ zs ++ ys) d r f G K
  | _, _ => False
@[go_sem] theorem goR_call (c : Operand) (as_ : Array Operand) (ts : Array TypeId) : goR P ops none q d (.call { callee := .value c, args := as_, argTypes := ts }) r f G K = goC P ops q (callee (fget f) c) (evL (fget f) as_.toList) d r f G K := by
  cases q <;> simp only [goR, fx, goC, goA, goQ] <;> rfl
@[go_sem] theorem goC_q (g : FuncId) (xs ys zs : List V) : goC P ops true (some (g, xs, ys)) (some zs) d r f G K = goQ P ops g (xs ++ zs ++ ys) d r f G K := rfl
@[go_sem] theorem goC_a (g : FuncId) (xs ys zs : List V) : goC P ops false (some (g, xs, ys)) (some zs) d r f G K = goA P ops g (xs ++ zs ++ ys) d r f G K := rfl
theorem goQ_by {g : FuncId} {xs : List V} {x : V} (h : Quiet P g xs x) (hk : go P ops r (fput f d x) G K) : goQ P ops g xs d r f G K := ⟨x, h.qon G, hk⟩
theorem goQ_on {g : FuncId} {xs : List V} {x : V} (h : QOn P G g xs x) (hk : go P ops r (fput f d x) G K) : goQ P ops g xs d r f G K := ⟨x, h, hk⟩
theorem goA_q {g : FuncId} {xs : List V} {x : V} (h : Quiet P g xs x) (hk : go P ops r (fput f d x) G K) : goA P ops g xs d r f G K := h.call hk
theorem goA_by {g : FuncId} {xs : List V} {Q : V → Heap → Prop} (h : ACall P g xs Q G) (hk : ∀ x G, Q x G → go P ops r (fput f d x) G K) : goA P ops g xs d r f G K := h.mono hk
/-- A guarded quiet call. -/
def goQg (P : Program) (ops : List Oper) (n : FuncId) (xs : List V) (g : Bool) (d : Option Tmp) (r : Rest) (f : Frame) (G : Heap) (K : Kf) : Prop := ∃ x, (g = true → QOn P G n xs x) ∧ go P ops r (fput f d (.opt g x)) G K
def goCg (P : Program) (ops : List Oper) (c : Option (FuncId × List V × List V)) (zs : Option (List V)) (g : Bool) (d : Option Tmp) (r : Rest) (f : Frame) (G : Heap) (K : Kf) : Prop :=
  match c, zs with
  | some (h, xs, ys), some zs => goQg P ops h (xs ++ zs ++ ys) g d r f G K
  | _, _ => g = false ∧ go P ops r (fput f d (.opt g .any)) G K
@[go_sem] theorem goG_call (g : Bool) (c : Operand) (as_ : Array Operand) (ts : Array TypeId) : goG P ops none g true d (.call { callee := .value c, args := as_, argTypes := ts }) r f G K = goCg P ops (callee (unF g (fget f)) c) (evL (unF g (fget f)) as_.toList) g d r f G K := by
  simp only [goG, goCg, goQg]
@[go_sem] theorem goCg_some (g : Bool) (h : FuncId) (xs ys zs : List V) : goCg P ops (some (h, xs, ys)) (some zs) g d r f G K = goQg P ops h (xs ++ zs ++ ys) g d r f G K := rfl
/-- A guarded call in an ordered region. -/
def goH (P : Program) (ops : List Oper) (n : FuncId) (xs : List V) (g : Bool) (d : Option Tmp) (r : Rest) (f : Frame) (G : Heap) (K : Kf) : Prop := (g = true → ACall P n xs (fun x G => go P ops r (fput f d (.opt g x)) G K) G) ∧ (g = false → ∃ x, go P ops r (fput f d (.opt g x)) G K)
def goCh (P : Program) (ops : List Oper) (c : Option (FuncId × List V × List V)) (zs : Option (List V)) (g : Bool) (d : Option Tmp) (r : Rest) (f : Frame) (G : Heap) (K : Kf) : Prop :=
  match c, zs with
  | some (h, xs, ys), some zs => goH P ops h (xs ++ zs ++ ys) g d r f G K
  | _, _ => g = false ∧ ∃ x, go P ops r (fput f d (.opt g x)) G K
@[go_sem] theorem goG_callh (g : Bool) (c : Operand) (as_ : Array Operand) (ts : Array TypeId) : goG P ops none g false d (.call { callee := .value c, args := as_, argTypes := ts }) r f G K = goCh P ops (callee (unF g (fget f)) c) (evL (unF g (fget f)) as_.toList) g d r f G K := by
  simp only [goG, goCh, goH, fx]
  cases callee (unF g (fget f)) c with
  | none => cases g <;> simp
  | some p => cases evL (unF g (fget f)) as_.toList with
    | none => cases g <;> simp
    | some zs => rfl
@[go_sem] theorem goCh_some (g : Bool) (h : FuncId) (xs ys zs : List V) : goCh P ops (some (h, xs, ys)) (some zs) g d r f G K = goH P ops h (xs ++ zs ++ ys) g d r f G K := rfl
theorem goH_q {n : FuncId} {xs : List V} {g : Bool} {x : V} (h : g = true → Quiet P n xs x) (hk : go P ops r (fput f d (.opt g x)) G K) : goH P ops n xs g d r f G K := ⟨fun e => (h e).call hk, fun e => ⟨x, hk⟩⟩
theorem goH_by {n : FuncId} {xs : List V} {g : Bool} {Q : V → Heap → Prop} (h : g = true → ACall P n xs Q G) (hk : ∀ x G, Q x G → go P ops r (fput f d (.opt g x)) G K) (hf : g = false → go P ops r (fput f d (.opt g .any)) G K) : goH P ops n xs g d r f G K := ⟨fun e => (h e).mono hk, fun e => ⟨_, hf e⟩⟩
def goAg (P : Program) (ops : List Oper) (n : FuncId) (xs : List V) (g : Bool) (d : Option Tmp) (r : Rest) (f : Frame) (G : Heap) (K : Kf) : Prop := ACall P n xs (fun x G => go P ops r (fput f d (.opt g x)) G K) G
def goFC (P : Program) (ops : List Oper) (c : Option (FuncId × List V × List V)) (zs : Option (List V)) (g : Bool) (d : Option Tmp) (r : Rest) (f : Frame) (G : Heap) (K : Kf) : Prop :=
  match c, zs with
  | some (h, xs, ys), some zs => goAg P ops h (xs ++ zs ++ ys) g d r f G K
  | _, _ => False
@[go_sem] theorem goF_call (g : Bool) (c : Operand) (as_ : Array Operand) (ts : Array TypeId) : goF P ops g d (.call { callee := .value c, args := as_, argTypes := ts }) r f G K = goFC P ops (callee (unF g (fget f)) c) (evL (unF g (fget f)) as_.toList) g d r f G K := by
  simp only [goF, fx, goFC, goAg]
  rfl
@[go_sem] theorem goFC_some (g : Bool) (h : FuncId) (xs ys zs : List V) : goFC P ops (some (h, xs, ys)) (some zs) g d r f G K = goAg P ops h (xs ++ zs ++ ys) g d r f G K := rfl
theorem goAg_q {n : FuncId} {xs : List V} {g : Bool} {x : V} (h : Quiet P n xs x) (hk : go P ops r (fput f d (.opt g x)) G K) : goAg P ops n xs g d r f G K := h.call hk
theorem goAg_by {n : FuncId} {xs : List V} {g : Bool} {Q : V → Heap → Prop} (h : ACall P n xs Q G) (hk : ∀ x G, Q x G → go P ops r (fput f d (.opt g x)) G K) : goAg P ops n xs g d r f G K := h.mono hk
theorem goQg_by {n : FuncId} {xs : List V} {g : Bool} {x : V} (h : g = true → Quiet P n xs x) (hk : go P ops r (fput f d (.opt g x)) G K) : goQg P ops n xs g d r f G K := ⟨x, fun e => (h e).qon G, hk⟩
theorem goQg_on {n : FuncId} {xs : List V} {g : Bool} {x : V} (h : g = true → QOn P G n xs x) (hk : go P ops r (fput f d (.opt g x)) G K) : goQg P ops n xs g d r f G K := ⟨x, h, hk⟩
/-- Append. -/
def goP (P : Program) (ops : List Oper) (c : Prop) (n : Nat) (es ys : List (List V)) (nl : Bool) (t : Tag) (d : Option Tmp) (r : Rest) (f : Frame) (G : Heap) (K : Kf) : Prop :=
  c ∧ (appK G n es ys nl t (fun x G => go P ops r (fput f d x) G K) ∨ appN G n es ys t (fun x G => go P ops r (fput f d x) G K))
def goP2 (P : Program) (ops : List Oper) (ty : TypeId) (Y : V) (es : List (List V)) (nl : Bool) (t : Tag) (n : Nat) (ys : Option (List (List V))) (k : Option Nat) (z : Option V) (d : Option Tmp) (r : Rest) (f : Frame) (G : Heap) (K : Kf) : Prop :=
  match ys, k, z with
  | some ys, some k, some z => goP P ops (appC n k z es ys) n es ys nl t d r f G K
  | none, some k, some z => appZ P G n k z ty Y es t (fun x G => go P ops r (fput f d x) G K)
  | _, _, _ => False
def goPm (P : Program) (ops : List Oper) (b o len cap n : Nat) (ys : Option (List (List V))) (k : Option Nat) (z : Option V) (d : Option Tmp) (r : Rest) (f : Frame) (G : Heap) (K : Kf) : Prop :=
  match ys, k, z with
  | some ys, some k, some z => appM G n k z b o len cap ys (fun x G => go P ops r (fput f d x) G K)
  | _, _, _ => False
def goP1 (P : Program) (ops : List Oper) (x y : Option V) (s : Option (TypeId × Nat)) (ty : TypeId) (d : Option Tmp) (r : Rest) (f : Frame) (G : Heap) (K : Kf) : Prop :=
  match x, y, s with
  | some (.sl es nl t), some Y, some (e, n) => goP2 P ops ty Y es nl t n (srcV P ty Y) (tbytes P e) (tzero P e) d r f G K
  | some (.ms b o len cap), some Y, some (e, n) => goPm P ops b o len cap n (srcV P ty Y) (tbytes P e) (tzero P e) d r f G K
  | _, _, _ => False
@[go_sem] theorem goR_append (x y : Operand) (tx ty : TypeId) : goR P ops none false d (.call { callee := .builtin .append, args := #[x, y], argTypes := #[tx, ty] }) r f G K = goP1 P ops (ev (fget f) x) (ev (fget f) y) (tslice P tx) ty d r f G K := by
  simp only [goR, fx, goP1]
  cases ev (fget f) x with
  | none => rfl
  | some X => cases X <;> first | rfl | (cases ev (fget f) y <;> first | rfl | (cases tslice P tx <;> first | rfl | (rename_i p; obtain ⟨e, n⟩ := p; simp only [goP2, goPm]; rename_i Y; cases srcV P ty Y <;> first | rfl | (cases tbytes P e <;> first | rfl | (cases tzero P e <;> rfl)))))
@[go_sem] theorem goP1_some (es : List (List V)) (nl : Bool) (t : Tag) (Y : V) (e n : Nat) (ty : TypeId) : goP1 P ops (some (.sl es nl t)) (some Y) (some (e, n)) ty d r f G K = goP2 P ops ty Y es nl t n (srcV P ty Y) (tbytes P e) (tzero P e) d r f G K := rfl
@[go_sem] theorem goP2_some (ty : TypeId) (Y : V) (es : List (List V)) (nl : Bool) (t : Tag) (n : Nat) (ys : List (List V)) (k : Nat) (z : V) : goP2 P ops ty Y es nl t n (some ys) (some k) (some z) d r f G K = goP P ops (appC n k z es ys) n es ys nl t d r f G K := rfl
def goM2 (P : Program) (ops : List Oper) (l c : Int) (n : Nat) (k : Option Nat) (z : Option V) (d : Option Tmp) (r : Rest) (f : Frame) (G : Heap) (K : Kf) : Prop :=
  match k, z with
  | some k, some z => (plainV z = true ∧ (cellsV z).length = n ∧ 0 ≤ l ∧ l ≤ c ∧ c * k ≤ 281474976710656 ∧ c ≤ 9223372036854775807) ∧ ∀ b, hget G b = none → go P ops r (fput f d (.ms b 0 l.toNat c.toNat)) ((b, .vars (List.replicate c.toNat (cellsV z)).flatten) :: G) K
  | _, _ => False
def goM1 (P : Program) (ops : List Oper) (l c : Option V) (s : Option (TypeId × Nat)) (d : Option Tmp) (r : Rest) (f : Frame) (G : Heap) (K : Kf) : Prop :=
  match l, c, s with
  | some (.int _ l), some (.int _ c), some (e, n) => goM2 P ops l c n (tbytes P e) (tzero P e) d r f G K
  | _, _, _ => False
@[go_sem] theorem goR_make (t : TypeId) (l c : Operand) : goR P ops none false d (.makeSlice t l c) r f G K = goM1 P ops (ev (fget f) l) (ev (fget f) c) (tslice P t) d r f G K := by
  simp only [goR, fx, goM1]
  cases ev (fget f) l with
  | none => rfl
  | some L => cases L <;> first | rfl | (cases ev (fget f) c with
    | none => rfl
    | some C => cases C <;> first | rfl | (cases tslice P t <;> first | rfl | (rename_i p; obtain ⟨e, n⟩ := p; simp only [goM2]; cases tbytes P e <;> first | rfl | (cases tzero P e <;> rfl))))
@[go_sem] theorem goM1_some (k1 k2 : IntKind) (l c : Int) (e n : Nat) : goM1 P ops (some (.int k1 l)) (some (.int k2 c)) (some (e, n)) d r f G K = goM2 P ops l c n (tbytes P e) (tzero P e) d r f G K := rfl
@[go_sem] theorem goM2_some (l c : Int) (n k : Nat) (z : V) : goM2 P ops l c n (some k) (some z) d r f G K = ((plainV z = true ∧ (cellsV z).length = n ∧ 0 ≤ l ∧ l ≤ c ∧ c * k ≤ 281474976710656 ∧ c ≤ 9223372036854775807) ∧ ∀ b, hget G b = none → go P ops r (fput f d (.ms b 0 l.toNat c.toNat)) ((b, .vars (List.replicate c.toNat (cellsV z)).flatten) :: G) K) := rfl

/-! ### where simp looks -/
/-- Where the guard is not met and the answer is not known. -/
@[go_sem] theorem goG_offFieldAddr (g : Bool) (s : TypeId) (x : Operand) (i : Nat) : goG P ops none g true d (.fieldAddr s x i) r f G K = (g = false ∧ go P ops r (fput f d (.opt g .any)) G K) := rfl
@[go_sem] theorem goG_offLoad (g : Bool) (s : TypeId) (x : Operand) : goG P ops none g true d (.load s x) r f G K = (g = false ∧ go P ops r (fput f d (.opt g .any)) G K) := rfl
@[go_sem] theorem goG_offIndexAddr (g : Bool) (s : TypeId) (x i : Operand) : goG P ops none g true d (.indexAddr s x i) r f G K = (g = false ∧ go P ops r (fput f d (.opt g .any)) G K) := rfl
@[go_sem] theorem goG_offBinOp (g : Bool) (op : BinOp) (s s2 : TypeId) (x y : Operand) : goG P ops none g true d (.binOp op s x y s2) r f G K = (g = false ∧ go P ops r (fput f d (.opt g .any)) G K) := rfl
@[go_sem] theorem goG_offUnOp (g : Bool) (op : UnOp) (s : TypeId) (x : Operand) : goG P ops none g true d (.unOp op s x) r f G K = (g = false ∧ go P ops r (fput f d (.opt g .any)) G K) := rfl
@[go_sem] theorem goG_offLookup (g : Bool) (s : TypeId) (x i : Operand) (c : Bool) : goG P ops none g true d (.lookup s x i c) r f G K = (g = false ∧ go P ops r (fput f d (.opt g .any)) G K) := rfl
@[go_sem] theorem goG_offBuiltin (g : Bool) (b : Builtin) (as_ : Array Operand) (ts : Array TypeId) : goG P ops none g true d (.call { callee := .builtin b, args := as_, argTypes := ts }) r f G K = (g = false ∧ go P ops r (fput f d (.opt g .any)) G K) := rfl
@[go_sem] theorem goG_offField (g : Bool) (s : TypeId) (x : Operand) (i : Nat) : goG P ops none g true d (.field s x i) r f G K = (g = false ∧ go P ops r (fput f d (.opt g .any)) G K) := rfl
@[go_sem] theorem goG_offIndex (g : Bool) (s : TypeId) (x i : Operand) : goG P ops none g true d (.index s x i) r f G K = (g = false ∧ go P ops r (fput f d (.opt g .any)) G K) := rfl
@[go_sem] theorem goG_offExtract (g : Bool) (x : Operand) (i : Nat) : goG P ops none g true d (.extract x i) r f G K = (g = false ∧ go P ops r (fput f d (.opt g .any)) G K) := rfl
@[go_sem] theorem goG_offNilCheck (g : Bool) (x : Operand) : goG P ops none g true d (.nilCheck x) r f G K = (g = false ∧ go P ops r (fput f d (.opt g .any)) G K) := rfl
@[go_sem] theorem goG_offConvert (g : Bool) (s t : TypeId) (x : Operand) : goG P ops none g true d (.convert s t x) r f G K = (g = false ∧ go P ops r (fput f d (.opt g .any)) G K) := rfl
/-- A map that is made, and what is put into one. -/
@[go_sem] theorem goR_makeMap (t : TypeId) : goR P ops none false d (.makeMap t none) r f G K = (∀ b, hget G b = none → go P ops r (fput f d (.map b)) ((b, .map []) :: G) K) := by
  simp only [goR, fx]
def goU3 (P : Program) (ops : List Oper) (rr : Option (Option (Nat × V))) (kvs : List (V × V)) (b : Nat) (KK X : V) (s : Bool) (d : Option Tmp) (r : Rest) (f : Frame) (G : Heap) (K : Kf) : Prop :=
  match rr with
  | some r' => s = true ∧ go P ops r (fput f d .any) (hset G b (.map (mput kvs KK X r'))) K
  | none => False
def goU4 (P : Program) (ops : List Oper) (rr : Option (Option (Nat × V))) (kvs : List (V × V)) (b i : Nat) (todo : List Nat) (cur : Option Nat) (KK X : V) (s : Bool) (d : Option Tmp) (r : Rest) (f : Frame) (G : Heap) (K : Kf) : Prop :=
  match rr with
  | some (some (j, _)) => s = true ∧ go P ops r (fput f d .any) (hset G b (.mapr (kvs.set j (KK, X)) i todo cur)) K
  | _ => False
def goU2 (P : Program) (ops : List Oper) (o : Option AObj) (b : Nat) (KK X : V) (s : Bool) (d : Option Tmp) (r : Rest) (f : Frame) (G : Heap) (K : Kf) : Prop :=
  match o with
  | some (.map kvs) => goU3 P ops (mfind KK kvs 0) kvs b KK X s d r f G K
  | some (.mapr kvs i todo cur) => goU4 P ops (mfind KK kvs 0) kvs b i todo cur KK X s d r f G K
  | _ => False
def goU (P : Program) (ops : List Oper) (m k x : Option V) (tm : Option (TypeId × V)) (d : Option Tmp) (r : Rest) (f : Frame) (G : Heap) (K : Kf) : Prop :=
  match m, k, x, tm with
  | some (.map b), some KK, some X, some (kt, _) => goU2 P ops (hget G b) b KK X (simpleKey P kt KK) d r f G K
  | _, _, _, _ => False
@[go_sem] theorem goR_mapUpdate (t : TypeId) (m k x : Operand) : goR P ops none false d (.mapUpdate t m k x) r f G K = goU P ops (ev (fget f) m) (ev (fget f) k) (ev (fget f) x) (tmap P t) d r f G K := by
  simp only [goR, fx, goU]
  cases ev (fget f) m with
  | none => rfl
  | some mv => cases mv <;> first | rfl | (cases ev (fget f) k <;> first | rfl | (cases ev (fget f) x <;> first | rfl | (cases tmap P t with
    | none => rfl
    | some kz => obtain ⟨kt, z⟩ := kz; simp only [goU2]; rename_i b KK X; cases hget G b <;> first | rfl | (rename_i o; cases o <;> first | rfl | (simp only [goU3]; rename_i kvs; cases mfind KK kvs 0 <;> rfl) | (simp only [goU4]; rename_i kvs i0 td cu; cases mfind KK kvs 0 <;> first | rfl | (rename_i oo; cases oo <;> rfl))))))
@[go_sem] theorem goR_insert (t : TypeId) (m k x : Operand) : goR P ops none false d (.insert t m k x) r f G K = goU P ops (ev (fget f) m) (ev (fget f) k) (ev (fget f) x) (tmap P t) d r f G K := by
  simp only [goR, fx, goU]
  cases ev (fget f) m with
  | none => rfl
  | some mv => cases mv <;> first | rfl | (cases ev (fget f) k <;> first | rfl | (cases ev (fget f) x <;> first | rfl | (cases tmap P t with
    | none => rfl
    | some kz => obtain ⟨kt, z⟩ := kz; simp only [goU2]; rename_i b KK X; cases hget G b <;> first | rfl | (rename_i o; cases o <;> first | rfl | (simp only [goU3]; rename_i kvs; cases mfind KK kvs 0 <;> rfl) | (simp only [goU4]; rename_i kvs i0 td cu; cases mfind KK kvs 0 <;> first | rfl | (rename_i oo; cases oo <;> rfl))))))
@[go_sem] theorem goU_some (b : Nat) (KK X : V) (kt : TypeId) (z : V) : goU P ops (some (.map b)) (some KK) (some X) (some (kt, z)) d r f G K = goU2 P ops (hget G b) b KK X (simpleKey P kt KK) d r f G K := rfl
@[go_sem] theorem goU2_some (kvs : List (V × V)) (b : Nat) (KK X : V) (s : Bool) : goU2 P ops (some (.map kvs)) b KK X s d r f G K = goU3 P ops (mfind KK kvs 0) kvs b KK X s d r f G K := rfl
@[go_sem] theorem goU2_r (kvs : List (V × V)) (b i : Nat) (todo : List Nat) (cur : Option Nat) (KK X : V) (s : Bool) : goU2 P ops (some (.mapr kvs i todo cur)) b KK X s d r f G K = goU4 P ops (mfind KK kvs 0) kvs b i todo cur KK X s d r f G K := rfl
@[go_sem] theorem goU4_some (j : Nat) (x0 : V) (kvs : List (V × V)) (b i : Nat) (todo : List Nat) (cur : Option Nat) (KK X : V) (s : Bool) : goU4 P ops (some (some (j, x0))) kvs b i todo cur KK X s d r f G K = (s = true ∧ go P ops r (fput f d .any) (hset G b (.mapr (kvs.set j (KK, X)) i todo cur)) K) := rfl
@[go_sem] theorem goU3_some (r' : Option (Nat × V)) (kvs : List (V × V)) (b : Nat) (KK X : V) (s : Bool) : goU3 P ops (some r') kvs b KK X s d r f G K = (s = true ∧ go P ops r (fput f d .any) (hset G b (.map (mput kvs KK X r'))) K) := rfl
def goIt1 (P : Program) (ops : List Oper) (o : Option AObj) (m : Nat) (b : Bool) (d : Option Tmp) (r : Rest) (f : Frame) (G : Heap) (K : Kf) : Prop :=
  match o with
  | some (.map kvs) => b = true ∧ ∀ i, hget G i = none → go P ops r (fput f d (.ptr i 0)) ((i, .miter m) :: hset G m (.mapr kvs i (List.range kvs.length) none)) K
  | _ => False
def goIt (P : Program) (ops : List Oper) (x : Option V) (bs bm : Bool) (d : Option Tmp) (r : Rest) (f : Frame) (G : Heap) (K : Kf) : Prop :=
  match x with
  | some (.str s) => bs = true ∧ ∀ b, hget G b = none → go P ops r (fput f d (.ptr b 0)) ((b, .siter s 0) :: G) K
  | some (.map m) => goIt1 P ops (hget G m) m bm d r f G K
  | _ => False
/-- A walk over a text or a map begins. -/
@[go_sem] theorem goR_range (t : TypeId) (x : Operand) : goR P ops none false d (.range t x) r f G K = goIt P ops (ev (fget f) x) (isStr P t) (kindIs P t isMapT) d r f G K := by
  simp only [goR, fx, goIt]
  cases ev (fget f) x with
  | none => rfl
  | some X => cases X <;> first | rfl | (simp only [goIt1]; rename_i m; cases hget G m <;> first | rfl | (rename_i o; cases o <;> rfl))
@[go_sem] theorem goIt_str (s : List UInt8) (bs bm : Bool) : goIt P ops (some (.str s)) bs bm d r f G K = (bs = true ∧ ∀ b, hget G b = none → go P ops r (fput f d (.ptr b 0)) ((b, .siter s 0) :: G) K) := rfl
@[go_sem] theorem goIt_map (m : Nat) (bs bm : Bool) : goIt P ops (some (.map m)) bs bm d r f G K = goIt1 P ops (hget G m) m bm d r f G K := rfl
@[go_sem] theorem goIt1_map (kvs : List (V × V)) (m : Nat) (b : Bool) : goIt1 P ops (some (.map kvs)) m b d r f G K = (b = true ∧ ∀ i, hget G i = none → go P ops r (fput f d (.ptr i 0)) ((i, .miter m) :: hset G m (.mapr kvs i (List.range kvs.length) none)) K) := rfl
@[congr] theorem goIt_cg {x x' : Option V} {bs bs' bm bm' : Bool} (h : x = x') (h2 : bs = bs') (h3 : bm = bm') : goIt P ops x bs bm d r f G K = goIt P ops x' bs' bm' d r f G K := by subst h h2 h3; rfl
@[congr] theorem goIt1_cg {x x' : Option AObj} {m : Nat} {b b' : Bool} (h : x = x') (h2 : b = b') : goIt1 P ops x m b d r f G K = goIt1 P ops x' m b' d r f G K := by subst h h2; rfl
/-- The next letter: it is taken up by goNs_by. -/
def goNs (P : Program) (ops : List Oper) (s : List UInt8) (pos i : Nat) (d : Option Tmp) (r : Rest) (f : Frame) (G : Heap) (K : Kf) : Prop :=
  (∀ h : pos < s.length, s[pos].toNat < 128 ∧ go P ops r (fput f d (.tup [.bool true, .int .i64 pos, .int .i32 (s[pos].toNat : Nat)])) (hset G i (.siter s (pos + 1))) K) ∧ (¬ pos < s.length → go P ops r (fput f d (.tup [.bool false])) G K)
/-- The next entry: it is taken up by goNm_by. -/
def goNm (P : Program) (ops : List Oper) (kvs : List (V × V)) (todo : List Nat) (i m : Nat) (d : Option Tmp) (r : Rest) (f : Frame) (G : Heap) (K : Kf) : Prop :=
  (todo = [] → go P ops r (fput f d (.tup [.bool false])) G K) ∧ ∀ j, j ∈ todo → ∀ h : j < kvs.length, go P ops r (fput f d (.tup [.bool true, (kvs[j]).1, (kvs[j]).2])) (hset G m (.mapr kvs i (todo.erase j) (some j))) K
def goNx2 (P : Program) (ops : List Oper) (o : Option AObj) (i m : Nat) (str : Bool) (d : Option Tmp) (r : Rest) (f : Frame) (G : Heap) (K : Kf) : Prop :=
  match o with
  | some (.mapr kvs i' todo _) => (str = false ∧ i' = i) ∧ goNm P ops kvs todo i m d r f G K
  | _ => False
def goNx1 (P : Program) (ops : List Oper) (o : Option AObj) (i : Nat) (str : Bool) (d : Option Tmp) (r : Rest) (f : Frame) (G : Heap) (K : Kf) : Prop :=
  match o with
  | some (.siter s pos) => str = true ∧ goNs P ops s pos i d r f G K
  | some (.miter m) => goNx2 P ops (hget G m) i m str d r f G K
  | _ => False
def goNx (P : Program) (ops : List Oper) (x : Option V) (str : Bool) (d : Option Tmp) (r : Rest) (f : Frame) (G : Heap) (K : Kf) : Prop :=
  match x with
  | some (.ptr i o) => o = 0 ∧ goNx1 P ops (hget G i) i str d r f G K
  | _ => False
@[go_sem] theorem goR_next (x : Operand) (str : Bool) : goR P ops none false d (.next x str) r f G K = goNx P ops (ev (fget f) x) str d r f G K := by
  simp only [goR, fx, goNx]
  cases ev (fget f) x with
  | none => rfl
  | some X => cases X <;> first | rfl | (simp only [goNx1]; rename_i i o; cases hget G i <;> first | rfl | (rename_i ob; cases ob <;> first | rfl | (simp only [goNx2]; rename_i m; cases hget G m <;> first | rfl | (rename_i o2; cases o2 <;> first | rfl | (simp only [goNm, and_assoc])))))
@[go_sem] theorem goNx_ptr (i o : Nat) (str : Bool) : goNx P ops (some (.ptr i o)) str d r f G K = (o = 0 ∧ goNx1 P ops (hget G i) i str d r f G K) := rfl
@[go_sem] theorem goNx1_s (s : List UInt8) (pos i : Nat) (str : Bool) : goNx1 P ops (some (.siter s pos)) i str d r f G K = (str = true ∧ goNs P ops s pos i d r f G K) := rfl
@[go_sem] theorem goNx1_m (m i : Nat) (str : Bool) : goNx1 P ops (some (.miter m)) i str d r f G K = goNx2 P ops (hget G m) i m str d r f G K := rfl
@[go_sem] theorem goNx2_m (kvs : List (V × V)) (todo : List Nat) (i' i m : Nat) (c : Option Nat) (str : Bool) : goNx2 P ops (some (.mapr kvs i' todo c)) i m str d r f G K = ((str = false ∧ i' = i) ∧ goNm P ops kvs todo i m d r f G K) := rfl
@[congr] theorem goNx_cg {x x' : Option V} {str : Bool} (h : x = x') : goNx P ops x str d r f G K = goNx P ops x' str d r f G K := by subst h; rfl
@[congr] theorem goNx1_cg {x x' : Option AObj} {i : Nat} {str : Bool} (h : x = x') : goNx1 P ops x i str d r f G K = goNx1 P ops x' i str d r f G K := by subst h; rfl
@[congr] theorem goNx2_cg {x x' : Option AObj} {i m : Nat} {str : Bool} (h : x = x') : goNx2 P ops x i m str d r f G K = goNx2 P ops x' i m str d r f G K := by subst h; rfl
@[congr] theorem goNs_cg {s s' : List UInt8} {pos i : Nat} (h : s = s') : goNs P ops s pos i d r f G K = goNs P ops s' pos i d r f G K := by subst h; rfl
@[congr] theorem goNm_cg {kvs : List (V × V)} {todo todo' : List Nat} {i m : Nat} (h : todo = todo') : goNm P ops kvs todo i m d r f G K = goNm P ops kvs todo' i m d r f G K := by subst h; rfl
theorem goNs_by {s : List UInt8} {pos i : Nat} (h1 : ∀ h : pos < s.length, s[pos].toNat < 128 ∧ go P ops r (fput f d (.tup [.bool true, .int .i64 pos, .int .i32 (s[pos].toNat : Nat)])) (hset G i (.siter s (pos + 1))) K) (h2 : ¬ pos < s.length → go P ops r (fput f d (.tup [.bool false])) G K) : goNs P ops s pos i d r f G K := ⟨h1, h2⟩
theorem goNm_by {kvs : List (V × V)} {todo : List Nat} {i m : Nat} (h1 : todo = [] → go P ops r (fput f d (.tup [.bool false])) G K) (h2 : ∀ j, j ∈ todo → ∀ h : j < kvs.length, go P ops r (fput f d (.tup [.bool true, (kvs[j]).1, (kvs[j]).2])) (hset G m (.mapr kvs i (todo.erase j) (some j))) K) : goNm P ops kvs todo i m d r f G K := ⟨h1, h2⟩
@[congr] theorem goU_cg {m m' k k' x x' : Option V} {tm tm' : Option (TypeId × V)} (h : m = m') (h2 : k = k') (h3 : x = x') (h4 : tm = tm') : goU P ops m k x tm d r f G K = goU P ops m' k' x' tm' d r f G K := by subst h h2 h3 h4; rfl
@[congr] theorem goU2_cg {o o' : Option AObj} {b : Nat} {KK X : V} {s s' : Bool} (h : o = o') (h2 : s = s') : goU2 P ops o b KK X s d r f G K = goU2 P ops o' b KK X s' d r f G K := by subst h h2; rfl
@[congr] theorem goU4_cg {rr rr' : Option (Option (Nat × V))} {kvs : List (V × V)} {b i : Nat} {todo : List Nat} {cur : Option Nat} {KK X : V} {s s' : Bool} (h : rr = rr') (h2 : s = s') : goU4 P ops rr kvs b i todo cur KK X s d r f G K = goU4 P ops rr' kvs b i todo cur KK X s' d r f G K := by subst h h2; rfl
@[congr] theorem goU3_cg {rr rr' : Option (Option (Nat × V))} {kvs : List (V × V)} {b : Nat} {KK X : V} {s s' : Bool} (h : rr = rr') (h2 : s = s') : goU3 P ops rr kvs b KK X s d r f G K = goU3 P ops rr' kvs b KK X s' d r f G K := by subst h h2; rfl
@[congr] theorem go_cg {f' : Frame} (h : f = f') : go P ops r f G K = go P ops r f' G K := h ▸ rfl
@[congr] theorem goR_cg {x x' : R} (h : x = x') : goR P ops x q d op r f G K = goR P ops x' q d op r f G K := h ▸ rfl
@[congr] theorem goG_cg {x x' : R} {g : Bool} (h : x = x') : goG P ops x g q d op r f G K = goG P ops x' g q d op r f G K := h ▸ rfl
@[congr] theorem goV_cg {x x' : Option Bool} (h : x = x') : goV P ops x q d op r f G K = goV P ops x' q d op r f G K := h ▸ rfl
@[congr] theorem goQg_cg {n : FuncId} {g : Bool} {xs xs' : List V} (h : xs = xs') : goQg P ops n xs g d r f G K = goQg P ops n xs' g d r f G K := h ▸ rfl
@[congr] theorem goAg_cg {n : FuncId} {g : Bool} {xs xs' : List V} (h : xs = xs') : goAg P ops n xs g d r f G K = goAg P ops n xs' g d r f G K := h ▸ rfl
@[congr] theorem goCg_cg {g : Bool} {c c' : Option (FuncId × List V × List V)} {z z' : Option (List V)} (h : c = c') (h2 : z = z') : goCg P ops c z g d r f G K = goCg P ops c' z' g d r f G K := by subst h h2; rfl
@[congr] theorem goFC_cg {g : Bool} {c c' : Option (FuncId × List V × List V)} {z z' : Option (List V)} (h : c = c') (h2 : z = z') : goFC P ops c z g d r f G K = goFC P ops c' z' g d r f G K := by subst h h2; rfl
@[congr] theorem goH_cg {n : FuncId} {g : Bool} {xs xs' : List V} (h : xs = xs') : goH P ops n xs g d r f G K = goH P ops n xs' g d r f G K := h ▸ rfl
@[congr] theorem goCh_cg {g : Bool} {c c' : Option (FuncId × List V × List V)} {z z' : Option (List V)} (h : c = c') (h2 : z = z') : goCh P ops c z g d r f G K = goCh P ops c' z' g d r f G K := by subst h h2; rfl
@[congr] theorem goF_cg {g : Bool} : goF P ops g d op r f G K = goF P ops g d op r f G K := rfl
@[congr] theorem goT_cg {x x' : Option Tmp} {want : Bool} (h : x = x') : goT P ops x want q d op r f G K = goT P ops x' want q d op r f G K := h ▸ rfl
@[congr] theorem goO_cg {x x' : Option Oper} (h : x = x') : goO P ops x q r f G K = goO P ops x' q r f G K := h ▸ rfl
@[congr] theorem goNew_cg {x x' : Option V} (h : x = x') : goNew P ops x d r f G K = goNew P ops x' d r f G K := h ▸ rfl
@[congr] theorem goSt_cg {x x' y y' : Option V} {n n' : Option Nat} (h : x = x') (h2 : y = y') (h3 : n = n') : goSt P ops x y n d r f G K = goSt P ops x' y' n' d r f G K := by subst h h2 h3; rfl
@[congr] theorem goSt2_cg {x x' : Option AObj} {b z n : Nat} {X : V} (h : x = x') : goSt2 P ops x b z X n d r f G K = goSt2 P ops x' b z X n d r f G K := h ▸ rfl
@[congr] theorem goA_cg {g : FuncId} {xs xs' : List V} (h : xs = xs') : goA P ops g xs d r f G K = goA P ops g xs' d r f G K := h ▸ rfl
@[congr] theorem goQ_cg {g : FuncId} {xs xs' : List V} (h : xs = xs') : goQ P ops g xs d r f G K = goQ P ops g xs' d r f G K := h ▸ rfl
@[congr] theorem goC_cg {c c' : Option (FuncId × List V × List V)} {z z' : Option (List V)} (h : c = c') (h2 : z = z') : goC P ops q c z d r f G K = goC P ops q c' z' d r f G K := by subst h h2; rfl
@[congr] theorem goP_cg {c c' : Prop} {n : Nat} {es ys : List (List V)} {nl : Bool} {t : Tag} (h : c = c') : goP P ops c n es ys nl t d r f G K = goP P ops c' n es ys nl t d r f G K := h ▸ rfl
@[congr] theorem goP1_cg {x x' y y' : Option V} {s s' : Option (TypeId × Nat)} {ty : TypeId} (h : x = x') (h2 : y = y') (h3 : s = s') : goP1 P ops x y s ty d r f G K = goP1 P ops x' y' s' ty d r f G K := by subst h h2 h3; rfl
@[congr] theorem goP2_cg {ty : TypeId} {Y : V} {es : List (List V)} {nl : Bool} {t : Tag} {n : Nat} {ys ys' : Option (List (List V))} {k k' : Option Nat} {z z' : Option V} (h : ys = ys') (h2 : k = k') (h3 : z = z') : goP2 P ops ty Y es nl t n ys k z d r f G K = goP2 P ops ty Y es nl t n ys' k' z' d r f G K := by subst h h2 h3; rfl
@[congr] theorem goM1_cg {x x' y y' : Option V} {s s' : Option (TypeId × Nat)} (h : x = x') (h2 : y = y') (h3 : s = s') : goM1 P ops x y s d r f G K = goM1 P ops x' y' s' d r f G K := by subst h h2 h3; rfl
@[congr] theorem goM2_cg {l c : Int} {n : Nat} {k k' : Option Nat} {z z' : Option V} (h2 : k = k') (h3 : z = z') : goM2 P ops l c n k z d r f G K = goM2 P ops l c n k' z' d r f G K := by subst h2 h3; rfl

/-! ### the entries -/
/-- Each variable of the first is so in the second. -/
def FSub : Frame → Frame → Prop
  | [], _ => True
  | (i, v) :: g, f => fget f i = some v ∧ FSub g f
def HSub : Heap → Heap → Prop
  | [], _ => True
  | (b, o) :: g, G => hget G b = some o ∧ HSub g G
theorem FSub.ok : ∀ {g f : Frame}, FSub g f → ∀ i v, fget g i = some v → fget f i = some v
  | [], f, h, i, v, hi => by simp [fget] at hi
  | (j, u) :: g, f, h, i, v, hi => by
    rw [fget] at hi
    split at hi
    · rename_i e; subst e; cases hi; exact h.1
    · exact FSub.ok h.2 i v hi
theorem HSub.ok : ∀ {g f : Heap}, HSub g f → ∀ i v, hget g i = some v → hget f i = some v
  | [], f, h, i, v, hi => by simp [hget] at hi
  | (j, u) :: g, f, h, i, v, hi => by
    rw [hget] at hi
    split at hi
    · rename_i e; subst e; cases hi; exact h.1
    · exact HSub.ok h.2 i v hi
/-- A loop that leaves the heap as it is. -/
theorem aw_lp {P : Program} {N : Nat} {Q : Cont} {f : Frame} {G : Heap} {c : Code} {S : Type} (F : S → Frame) (μ : S → Nat) (s0 : S) (hf : FSub (F s0) f)
    (round : ∀ s, AW P N c (thenK (fun f' G' => ∃ s', μ s' < μ s ∧ FSub (F s') f' ∧ G' = G) Q) (F s) G) : AW P N (.loop c) Q f G :=
  aw_loop F (fun _ => G) μ s0 hf.ok (fun _ _ h => h) fun s => (round s).mono fun e f' G' h => by
    cases e with
    | normal => obtain ⟨s', h1, h2, rfl⟩ := h; exact ⟨s', h1, h2.ok, fun _ _ h => h⟩
    | _ => exact h
/-- A loop that changes the heap. -/
theorem aw_lph {P : Program} {N : Nat} {Q : Cont} {f : Frame} {G : Heap} {c : Code} {S : Type} (F : S → Frame) (H : S → Heap) (μ : S → Nat) (s0 : S) (hf : FSub (F s0) f) (hG : ∀ b o, hget (H s0) b = some o → hget G b = some o)
    (round : ∀ s, AW P N c (thenK (fun f' G' => ∃ s', μ s' < μ s ∧ FSub (F s') f' ∧ ∀ b o, hget (H s') b = some o → hget G' b = some o) Q) (F s) (H s)) : AW P N (.loop c) Q f G :=
  aw_loop F H μ s0 hf.ok hG fun s => (round s).mono fun e f' G' h => by
    cases e with
    | normal => obtain ⟨s', h1, h2, h3⟩ := h; exact ⟨s', h1, h2.ok, h3⟩
    | _ => exact h
variable {N : Nat} {Q : Cont} {f : Frame}
/-- A region ahead of the rest. -/
theorem aw_sr {id : Nat} {l : List Oper} {y : Code} (hd : l.all (dstOk N) = true) (h : go P l (.t l) f G (fun f G => AW P N y Q f G)) : AW P N (.seq (.region id l.toArray false) y) Q f G :=
  aw_seq' (aw_region hd h)
theorem aw_srd {id : Nat} {l : List Oper} {y : Code} (σ : List (Nat × Bool)) (hmx : P.follows .mixedOrders = true) (hd : l.all (dstOk N) = true) (ho : ordOk l.toArray σ = true) (h : go P l (.d σ) f G (fun f G => AW P N y Q f G)) : AW P N (.seq (.region id l.toArray true) y) Q f G :=
  aw_seq' (aw_region_draw σ hmx hd ho h)
/-- What is known between two pieces. -/
theorem aw_mid {x y : Code} (R : Frame → Heap → Prop) (h1 : AW P N x (thenK R Q) f G) (h2 : ∀ f G, R f G → AW P N y Q f G) : AW P N (.seq x y) Q f G :=
  aw_seq fun K hK => h1.mono fun e f G h => by cases e <;> first | exact hK _ _ (h2 _ _ h) | exact h
theorem aw_rg {id : Nat} {l : List Oper} (hd : l.all (dstOk N) = true) (h : go P l (.t l) f G (fun f G => Q .normal f G)) : AW P N (.region id l.toArray false) Q f G := aw_region hd h
theorem aw_rgd {id : Nat} {l : List Oper} (σ : List (Nat × Bool)) (hmx : P.follows .mixedOrders = true) (hd : l.all (dstOk N) = true) (ho : ordOk l.toArray σ = true) (h : go P l (.d σ) f G (fun f G => Q .normal f G)) : AW P N (.region id l.toArray true) Q f G := aw_region_draw σ hmx hd ho h
end
attribute [go_sem] cellsAt List.getElem?_cons_zero List.getElem?_cons_succ List.drop_succ_cons List.drop_zero List.take_succ_cons List.take_zero List.take_nil List.length_cons List.length_nil Int.toNat_natCast List.length_map FSub Option.some.injEq List.toList_toArray
attribute [go_sem] if_true if_false true_and and_true Bool.not_true Bool.not_false fargs cellsV
@[go_sem] theorem keyCells2 (j k k' : IntKind) (a b : Int) : keyCells j 2 [.int k a, .int k' b] = (k == j && (k' == j && true)) := rfl
attribute [go_sem] List.getElem?_nil List.map_nil List.getD_nil lookV lkF lkR simpleKey eqS eqFs eqK qv entV ev evL evO ofConst ofConst0 ofConstL ok lenV capV binV binI binS convV addrAt loadV fieldV bnd msb fillC fillE callee
theorem getD_map {α : Type} {e : α → List V} {xs : List α} {i : Nat} (h : i < xs.length) : (xs.map e).getD i [] = e xs[i] := by
  rw [List.getD_eq_getElem?_getD, List.getElem?_map, List.getElem?_eq_getElem h]; rfl
theorem take_next {α : Type} {xs ys : List α} {i : Nat} (h : xs.take i = ys.take i) (hx : i < xs.length) (hy : i < ys.length) (he : xs[i] = ys[i]) : xs.take (i + 1) = ys.take (i + 1) := by
  rw [List.take_succ_eq_append_getElem hx, List.take_succ_eq_append_getElem hy, h, he]
section
variable {g t : Bool}
@[go_sem] theorem unF_app (f : FF) (i : Nat) : unF g f i = (f i).map (unopt g) := rfl
@[go_sem] theorem unopt_opt (x : V) : unopt g (.opt g x) = x := by cases g <;> rfl
@[go_sem] theorem unopt_opt2 (y : Bool) : unopt t (unopt g (.opt (g && t) (.bool y))) = .bool y := by cases g <;> cases t <;> rfl
@[go_sem] theorem unopt_opt3 (y : Bool) : unopt t (unopt true (.opt t (.bool y))) = .bool y := by cases t <;> rfl
@[go_sem] theorem unopt_any : unopt g .any = .any := rfl
@[go_sem] theorem unopt_bool (b : Bool) : unopt g (.bool b) = .bool b := rfl
@[go_sem] theorem unopt_int (k : IntKind) (n : Int) : unopt g (.int k n) = .int k n := rfl
@[go_sem] theorem unopt_str (s : List UInt8) : unopt g (.str s) = .str s := rfl
@[go_sem] theorem unopt_nilp : unopt g .nilp = .nilp := rfl
@[go_sem] theorem unopt_ptr (b o : Nat) : unopt g (.ptr b o) = .ptr b o := rfl
@[go_sem] theorem unopt_lp (cs : List V) (o : Nat) : unopt g (.lp cs o) = .lp cs o := rfl
@[go_sem] theorem unopt_sl (es : List (List V)) (nl : Bool) (t : Tag) : unopt g (.sl es nl t) = .sl es nl t := rfl
@[go_sem] theorem unopt_ms (b o l c : Nat) : unopt g (.ms b o l c) = .ms b o l c := rfl
@[go_sem] theorem unopt_nilm : unopt g .nilm = .nilm := rfl
@[go_sem] theorem unopt_map (b : Nat) : unopt g (.map b) = .map b := rfl
@[go_sem] theorem unopt_func (fn : Fn) (xs ys : List V) : unopt g (.func fn xs ys) = .func fn xs ys := rfl
@[go_sem] theorem unopt_nilf : unopt g .nilf = .nilf := rfl
@[go_sem] theorem unopt_iface (t : TypeId) (x : V) : unopt g (.iface t x) = .iface t x := rfl
@[go_sem] theorem unopt_nili : unopt g .nili = .nili := rfl
@[go_sem] theorem unopt_agg (cs : List V) : unopt g (.agg cs) = .agg cs := rfl
@[go_sem] theorem unopt_tup (cs : List V) : unopt g (.tup cs) = .tup cs := rfl
@[go_sem] theorem gcond_bt (b : Bool) : gcond true (.bool b) = some b := by simp [gcond]
@[go_sem] theorem gcond_bf (b : Bool) : gcond false (.bool b) = some (!b) := by simp [gcond]
@[go_sem] theorem gcond_ot (b : Bool) : gcond true (.opt g (.bool b)) = some (g && b) := by simp [gcond]
@[go_sem] theorem gcond_off (want : Bool) (x : V) : gcond want (.opt false x) = some false := by cases x <;> rfl
@[go_sem] theorem gcond_of (b : Bool) : gcond false (.opt g (.bool b)) = some (g && !b) := by simp [gcond]
@[go_sem] theorem pickV_and (a : Bool) : pickV t (.bool a) (.bool false) = .bool (t && a) := by cases t <;> rfl
@[go_sem] theorem pickV_or (a : Bool) : pickV t (.bool true) (.bool a) = .bool (t || a) := by cases t <;> rfl
theorem pickV_bb (a b : Bool) : pickV t (.bool a) (.bool b) = .bool (if t then a else b) := rfl
end
attribute [go_sem] Option.map_some Option.map_none Option.bind_some Option.bind_none Option.getD_some Option.getD_none Bool.not_not Bool.true_and Bool.and_true Bool.false_and Bool.and_false Bool.true_or Bool.or_true Bool.false_or Bool.or_false
@[go_sem] theorem fput_s (f : Frame) (i : Nat) (v : V) : fput f (some i) v = (i, v) :: f := rfl
@[go_sem] theorem fput_n (f : Frame) (v : V) : fput f none v = f := rfl
@[go_sem] theorem fget_c (f : Frame) (i j : Nat) (v : V) : fget ((i, v) :: f) j = if i = j then some v else fget f j := rfl
end Go.Proofs.YtclmcpbanaojfaaV

/-
  Loops over the numbers below n, as 'range' makes them.
-/
namespace Go.Proofs.YtclmcpbanaojfaaV
open Go.RowKit
set_option linter.unusedVariables false
set_option linter.unusedSimpArgs false

theorem wrap64 {n : Int} (h1 : -9223372036854775808 ≤ n) (h2 : n ≤ 9223372036854775807) : IntKind.i64.wrap n = n := by
  unfold IntKind.wrap; simp only [IntKind.bits, IntKind.signed]; simp; omega
/-- What a loop's body owes its ends: the next round (next), the code behind the loop (done). -/
def rangeK (A B : Nat) (next done : Frame → Heap → Prop) (Q : Cont) : Cont
  | .normal, f, G => next f G
  | .exit id, f, G => if id = B then next f G else if id = A then done f G else Q (.exit id) f G
  | e, f, G => Q e f G
theorem rangeK_next {A B : Nat} {next done : Frame → Heap → Prop} {Q : Cont} {f : Frame} {G : Heap} (h : next f G) : rangeK A B next done Q .normal f G := h
theorem rangeK_cont {A B : Nat} {next done : Frame → Heap → Prop} {Q : Cont} {f : Frame} {G : Heap} (h : next f G) : rangeK A B next done Q (.exit B) f G := by simp [rangeK, h]
theorem rangeK_break {A B : Nat} {next done : Frame → Heap → Prop} {Q : Cont} {f : Frame} {G : Heap} (hn : A ≠ B) (h : done f G) : rangeK A B next done Q (.exit A) f G := by simp [rangeK, hn, h]
theorem FSub.put {g f : Frame} (h : FSub g f) {i j : Nat} {x y : V} (hk : g.all (fun p => p.1 != i && p.1 != j) = true) : FSub g ((i, x) :: (j, y) :: f) := by
  induction g with
  | nil => trivial
  | cons p g ih =>
    obtain ⟨k, v⟩ := p
    simp only [List.all_cons, Bool.and_eq_true, bne_iff_ne, ne_eq] at hk
    refine ⟨?_, ih h.2 (by simpa using hk.2)⟩
    rw [fget, if_neg (Ne.symm hk.1.1), fget, if_neg (Ne.symm hk.1.2)]
    exact h.1
theorem FSub.put1 {g f : Frame} (h : FSub g f) {i : Nat} {x : V} (hk : g.all (fun p => p.1 != i) = true) : FSub g ((i, x) :: f) := by
  induction g with
  | nil => trivial
  | cons p g ih =>
    obtain ⟨k, v⟩ := p
    simp only [List.all_cons, Bool.and_eq_true, bne_iff_ne, ne_eq] at hk
    refine ⟨?_, ih h.2 (by simpa using hk.2)⟩
    rw [fget, if_neg (Ne.symm hk.1)]
    exact h.1
theorem FSub.refl' {g f : Frame} (h : ∀ i v, fget g i = some v → fget f i = some v) (hn : (g.map (·.1)).Nodup) : FSub g f := by
  induction g with
  | nil => trivial
  | cons p g ih =>
    obtain ⟨k, v⟩ := p
    simp only [List.map_cons, List.nodup_cons] at hn
    refine ⟨h k v (by rw [fget, if_pos rfl]), ih (fun i u hi => h i u ?_) hn.2⟩
    rw [fget]
    split
    · rename_i e; subst e
      exfalso
      apply hn.1
      clear ih h hn
      induction g with
      | nil => cases hi
      | cons q g ih =>
        obtain ⟨j, z⟩ := q
        rw [fget] at hi
        split at hi
        · rename_i e; subst e; simp
        · exact List.mem_cons_of_mem _ (ih hi)
    · exact hi
section
variable {P : Program} {N : Nat} {Q : Cont} {f : Frame} {G : Heap}
/-- A loop over 0 … n-1. F i s, H i s: what is kept at the head of round i (but the counter and n); I: what holds there. -/
theorem aw_range {A B tI tN c tJ r1 r2 : Nat} {it t1 t2 t3 t4 t5 : TypeId} {p1 p2 p3 : String} {a1 a2 a3 : Array Edge} {y : Code} (n : Nat) {S : Type} (F : Nat → S → Frame) (H : Nat → S → Heap) (I : Nat → S → Prop) (s0 : S)
    (hn : (n : Int) ≤ 9223372036854775807)
    (hF : FSub ((tI, .int .i64 0) :: (tN, .int .i64 n) :: F 0 s0) f) (hG : ∀ b o, hget (H 0 s0) b = some o → hget G b = some o) (h0 : I 0 s0)
    (hk : (tN != tI && tN != tJ && (c < N) && (tI < N) && (tJ < N)) = true) (hk2 : ∀ i s, (F i s).all (fun p => p.1 != tI && p.1 != tJ) = true)
    (round : ∀ i s, i < n → I i s → AW P N y (rangeK A B (fun f' G' => ∃ s', I (i + 1) s' ∧ FSub ((tI, .int .i64 i) :: (tN, .int .i64 n) :: F (i + 1) s') f' ∧ ∀ b o, hget (H (i + 1) s') b = some o → hget G' b = some o) (fun f' G' => Q .normal f' G') Q) ((c, .bool true) :: (tI, .int .i64 i) :: (tN, .int .i64 n) :: F i s) (H i s))
    (last : ∀ s, I n s → Q .normal ((c, .bool false) :: (tI, .int .i64 n) :: (tN, .int .i64 n) :: F n s) (H n s)) (hAB : A ≠ B) :
    AW P N (.block A (.loop (.seq (.region r1 [⟨some c, .binOp .lss it (.tmp tI) (.tmp tN) t1, t2, p1, a1, none⟩].toArray false) (.seq (.cond (.tmp c) .skip (.exit A)) (.seq (.block B y) (.region r2 [⟨some tJ, .binOp .add t5 (.tmp tI) (.const (.int .i64 1)) t3, t4, p2, a2, none⟩, ⟨some tI, .move (.tmp tJ), t4, p3, a3, none⟩].toArray false)))))) Q f G := by
  simp only [Bool.and_eq_true, bne_iff_ne, ne_eq, decide_eq_true_eq] at hk
  obtain ⟨⟨⟨⟨k1, k2⟩, k3⟩, k4⟩, k5⟩ := hk
  refine aw_block ?_
  refine aw_lph (S := {p : Nat × S // p.1 ≤ n ∧ I p.1 p.2}) (fun p => (tI, .int .i64 p.1.1) :: (tN, .int .i64 n) :: F p.1.1 p.1.2) (fun p => H p.1.1 p.1.2) (fun p => n - p.1.1) ⟨(0, s0), Nat.zero_le _, h0⟩ hF hG ?_
  intro ⟨⟨i, s⟩, hi, hI⟩
  simp only at hi hI ⊢
  refine aw_sr (by simp [dstOk, k3]) ?_
  have hNI : ¬ (tI = tN) := fun e => k1 e.symm
  simp only [go_sem, reduceIte, hNI, Int.ofNat_lt]
  refine aw_seq fun K hK => ?_
  refine aw_if (b := decide (i < n)) (by rw [fget, if_pos rfl]) (fun h => ?_) (fun h => ?_)
  · refine aw_skip (hK _ _ ?_)
    have hlt : i < n := by simpa using h
    rw [h]
    refine aw_mid (fun f' G' => ∃ s', I (i + 1) s' ∧ FSub ((tI, .int .i64 i) :: (tN, .int .i64 n) :: F (i + 1) s') f' ∧ ∀ b o, hget (H (i + 1) s') b = some o → hget G' b = some o) ?_ ?_
    · refine aw_block ((round i s hlt hI).mono fun e f' G' he => ?_)
      cases e with
      | normal => exact he
      | exit id =>
        simp only [rangeK] at he
        by_cases e1 : id = B
        · rw [if_pos e1] at he; subst e1; simp only [inBlockK, if_true]; exact he
        · rw [if_neg e1] at he
          by_cases e2 : id = A
          · rw [if_pos e2] at he; subst e2; simp only [inBlockK, if_neg e1, thenK, if_true]; exact he
          · rw [if_neg e2] at he; simp only [inBlockK, if_neg e1, thenK, if_neg e2]; exact he
      | ret => exact he
      | goto l => exact he
      | panic ch => exact he
      | outgrown => exact he
    · intro f' G' ⟨s', g1, g2, g3⟩
      refine aw_rg (by simp [dstOk, k4, k5]) ?_
      have g2' := g2.1
      have hw : IntKind.i64.wrap ((i : Int) + 1) = ((i + 1 : Nat) : Int) := by rw [wrap64 (by omega) (by omega)]; rfl
      simp only [go_sem, reduceIte, g2', hw]
      refine ⟨⟨(i + 1, s'), by simp only; omega, g1⟩, by simp only; omega, ⟨by rw [fget, if_pos rfl], ?_⟩, g3⟩
      refine FSub.put (g := (tN, .int .i64 n) :: F (i + 1) s') g2.2 ?_
      simp only [List.all_cons, Bool.and_eq_true, bne_iff_ne, ne_eq]
      exact ⟨⟨k1, k2⟩, hk2 _ _⟩
  · have hge : i = n := by have : ¬ i < n := by simpa using h
                           omega
    subst hge
    rw [h]
    refine aw_exit ?_
    have := last s hI
    simp only [thenK, inBlockK, if_true]
    exact this
end
end Go.Proofs.YtclmcpbanaojfaaV

/-
  What a call is handed, as values: out of the reading that a statement gives.
-/
namespace Go.Proofs.YtclmcpbanaojfaaV
open Go.RowKit
set_option linter.unusedVariables false
set_option linter.unusedSimpArgs false

/-- The memory that a call meets. -/
def M0 (W : World) : PM := fun b o => W.cell? ⟨b, o, none⟩
/-- Cells one behind the other, each part of its type. -/
def TyL (T : TypeId → List V → Prop) (P : Program) : List TypeId → List V → Prop
  | [], xs => xs = []
  | t :: ts, xs => ∃ a b, xs = a ++ b ∧ a.length = P.cellsOf t ∧ T t a ∧ TyL T P ts b
/-- The fields lie one behind the other. -/
def tilesB (P : Program) : Nat → List Field → Nat → Bool
  | o, [], n => o == n
  | o, f :: fs, n => f.offset == o && tilesB P (o + P.cellsOf f.type) fs n
def TyV (P : Program) : Nat → TypeId → List V → Prop
  | 0, _, _ => False
  | n + 1, t, xs => match P.underlying t with
    | some .bool => ∃ b, xs = [.bool b]
    | some (.int k) => ∃ m, xs = [.int k m] ∧ k.min ≤ m ∧ m ≤ k.max
    | some .string => ∃ s, xs = [.str s] ∧ s.length ≤ maxLen
    | some (.pointer e) => P.cellsOf e ≠ 0 → xs = [.nilp] ∨ ∃ cs, xs = [.lp cs 0] ∧ cs.length = P.cellsOf e ∧ TyV P n e cs
    | some (.slice e) => P.cellsOf e ≠ 0 → ∃ es nl, xs = [.sl es nl .no] ∧ es.length ≤ maxLen ∧ (nl = true → es = []) ∧ ∀ x ∈ es, x.length = P.cellsOf e ∧ TyV P n e x
    | some (.struct fs) => tilesB P 0 fs.toList (P.cellsOf t) = true → TyL (TyV P n) P (fs.toList.map (·.type)) xs
    | some (.array m e) => m * P.cellsOf e = P.cellsOf t → TyL (TyV P n) P (List.replicate m e) xs
    | _ => True

theorem exists_list {A : Type} {p : Nat → A → Prop} : ∀ {n : Nat}, (∀ i, i < n → ∃ x, p i x) → ∃ l : List A, l.length = n ∧ ∀ i (h : i < l.length), p i l[i]
  | 0, _ => ⟨[], rfl, fun i h => absurd h (by simp)⟩
  | n + 1, h => by
    obtain ⟨l, h1, h2⟩ := exists_list (n := n) (fun i hi => h i (by omega))
    obtain ⟨x, hx⟩ := h n (by omega)
    refine ⟨l ++ [x], by simp [h1], fun i hi => ?_⟩
    rcases Nat.lt_or_ge i l.length with q | q
    · rw [List.getElem_append_left q]; exact h2 i q
    · have : i = n := by simp at hi; omega
      subst this
      rw [List.getElem_append_right q]; simpa [h1] using hx
theorem mapM_some {A B : Type} {f : A → Option B} : ∀ {l : List A} {ys : List B}, l.mapM f = some ys → ys.length = l.length ∧ ∀ i (h : i < l.length), ∃ y, ys[i]? = some y ∧ f l[i] = some y
  | [], ys, h => by simp at h; subst h; exact ⟨rfl, fun i h => absurd h (by simp)⟩
  | a :: l, ys, h => by
    rw [List.mapM_cons] at h
    cases ha : f a with
    | none => simp [ha] at h
    | some y =>
      cases hl : l.mapM f with
      | none => simp [ha, hl] at h
      | some zs =>
        simp [ha, hl] at h
        subst h
        obtain ⟨h1, h2⟩ := mapM_some hl
        refine ⟨by simp [h1], fun i hi => ?_⟩
        cases i with
        | zero => exact ⟨y, rfl, ha⟩
        | succ i => simpa using h2 i (by simpa using hi)
theorem cells_some {w : World} {b : Nat} {a : Addr} {n : Nat} {row : List Value} (h : w.cells? b a n = some row) : row.length = n ∧ ∀ i, i < n → w.cell? (a.add i) = row[i]? := by
  unfold World.cells? at h
  split at h
  · obtain ⟨h1, h2⟩ := mapM_some h
    refine ⟨by simpa using h1, fun i hi => ?_⟩
    obtain ⟨y, hy, hy2⟩ := h2 i (by simpa using hi)
    rw [hy]; simpa using hy2
  · cases h
theorem spot_none {w : World} {a : Addr} {v : Value} (h : w.cell? a = some v) : a.spot = none := by
  unfold World.cell? at h
  split at h
  · split at h
    · cases h
    · rename_i hs; simpa using hs
  · cases h
theorem any_rep (M : PM) : ∀ cs : List Value, RepL M (cs.map fun _ => V.any) cs
  | [] => RepL.nil
  | _ :: cs => RepL.cons (.any _) (any_rep M cs)
mutual
/-- How many values and letters a value holds. -/
def vsz : V → Nat
  | .str s => s.length + 1
  | .sl es _ _ => vszLL es + 1
  | .lp cs _ => vszL cs + 1
  | .agg cs => vszL cs
  | .any => 0
  | _ => 1
def vszL : List V → Nat
  | [] => 0
  | x :: xs => vsz x + vszL xs
def vszLL : List (List V) → Nat
  | [] => 0
  | x :: xs => vszL x + vszLL xs
end
theorem vszL_append (xs ys : List V) : vszL (xs ++ ys) = vszL xs + vszL ys := by
  induction xs with
  | nil => simp [vszL]
  | cons x xs ih => simp only [List.cons_append, vszL, ih]; omega
theorem vszL_any (cs : List Value) : vszL (cs.map fun _ => V.any) = 0 := by
  induction cs with
  | nil => rfl
  | cons c cs ih => simp [vszL, vsz, ih]
theorem vszLL_le {H : Type} : ∀ (es : List (List V)) (ds : List (DataW H)), es.length = ds.length → (∀ (i : Nat) (e : List V) (d : DataW H), es[i]? = some e → ds[i]? = some d → vszL e ≤ Ytclmcpbanaojfaa.Rows.uptoBulk d) → vszLL es ≤ Ytclmcpbanaojfaa.Rows.uptoBulkAll ds
  | [], ds, _, _ => Nat.zero_le _
  | e :: es, [], h, _ => by simp at h
  | e :: es, d :: ds, h, hp => by
    have h1 := hp 0 e d rfl rfl
    have h2 := vszLL_le es ds (by simpa using h) (fun i e d he hd => hp (i + 1) e d (by simpa using he) (by simpa using hd))
    simp only [vszLL, Ytclmcpbanaojfaa.Rows.uptoBulkAll]
    omega
section
variable {H : Type} {enc : TypeId × Value → H} {P : Program} {W : World}
theorem RepL.get' {M : PM} {cs : List V} {vs : List Value} (h : RepL M cs vs) {i : Nat} (hi : i < cs.length) {v : Value} (hv : vs[i]? = some v) : Rep M cs[i] v := by
  have := h.2 i hi
  rw [List.getD_eq_getElem?_getD, hv] at this
  exact this
theorem lp_of {a : Addr} {row : List Value} {cs : List V} (hr : RepL (M0 W) cs row) (ha : a.spot = none) (hc : ∀ i, i < row.length → W.cell? (a.add i) = row[i]?) : Rep (M0 W) (.lp cs 0) (.pointer (some a)) := by
  obtain ⟨b, z, s⟩ := a
  simp only at ha
  subst ha
  refine .lp cs 0 b z (fun i => row.getD i undef) (fun i hi => ?_) (fun i hi => ?_)
  · have := hc i (by rw [← hr.1]; exact hi)
    rw [Addr.add_lit] at this
    show W.cell? ⟨b, z + i, none⟩ = _
    rw [this, List.getD_eq_getElem?_getD, List.getElem?_eq_getElem (by rw [← hr.1]; exact hi)]; rfl
  · exact hr.2 i hi
theorem parts_rep {cs : List Value} {T : TypeId → List V → Prop} : ∀ (fs : List Field) (ds : List (DataW H)) (o : Nat), tilesB P o fs cs.length = true → ds.length = fs.length →
    (∀ (i : Nat) f d, fs[i]? = some f → ds[i]? = some d → ∃ xs, RepL (M0 W) xs ((cs.drop f.offset).take (P.cellsOf f.type)) ∧ T f.type xs ∧ vszL xs ≤ Ytclmcpbanaojfaa.Rows.uptoBulk d) → ∃ xs, RepL (M0 W) xs (cs.drop o) ∧ TyL T P (fs.map (·.type)) xs ∧ vszL xs ≤ Ytclmcpbanaojfaa.Rows.uptoBulkAll ds
  | [], ds, o, ht, _, _ => by
    simp only [tilesB, beq_iff_eq] at ht
    subst ht
    exact ⟨[], by simpa using RepL.nil, rfl, Nat.zero_le _⟩
  | f :: fs, [], o, ht, hl, _ => by simp at hl
  | f :: fs, d :: ds, o, ht, hl, h => by
    simp only [tilesB, Bool.and_eq_true, beq_iff_eq] at ht
    obtain ⟨rfl, ht⟩ := ht
    obtain ⟨xs, h1, h2, h5⟩ := h 0 f d rfl rfl
    obtain ⟨ys, h3, h4, h6⟩ := parts_rep fs ds _ ht (by simpa using hl) (fun i g e hg he => h (i + 1) g e (by simpa using hg) (by simpa using he))
    have hle : ∀ (fs : List Field) (o : Nat), tilesB P o fs cs.length = true → o ≤ cs.length := by
      intro fs
      induction fs with
      | nil => intro o h; simp only [tilesB, beq_iff_eq] at h; omega
      | cons g gs ih => intro o h; simp only [tilesB, Bool.and_eq_true, beq_iff_eq] at h; have := ih _ h.2; omega
    have hl := hle _ _ ht
    refine ⟨xs ++ ys, ?_, ⟨xs, ys, rfl, ?_, h2, h4⟩, by rw [vszL_append]; simp only [Ytclmcpbanaojfaa.Rows.uptoBulkAll]; omega⟩
    · have : cs.drop f.offset = (cs.drop f.offset).take (P.cellsOf f.type) ++ cs.drop (f.offset + P.cellsOf f.type) := by
        rw [← List.drop_drop, List.take_append_drop]
      rw [this]
      exact h1.append h3
    · have e1 := h1.1
      rw [List.length_take, List.length_drop] at e1
      show xs.length = P.cellsOf f.type
      omega
/-- What was read is a value, of its type. -/
theorem trod_rep : ∀ (fuel : Nat) {t : TypeId} {cs : List Value} {d : DataW H} {ps : List MemPlace}, DataW.trod enc P W 0 (fun _ => true) true fuel t cs = some (d, ps) → ∃ xs, RepL (M0 W) xs cs ∧ TyV P fuel t xs ∧ vszL xs ≤ Ytclmcpbanaojfaa.Rows.uptoBulk d
  | 0, t, cs, d, ps, h => by simp [DataW.trod] at h
  | n + 1, t, cs, d, ps, h => by
    unfold DataW.trod at h
    unfold TyV
    split at h
    · rename_i b hu; rw [hu]; cases h; exact ⟨[.bool b], RepL.cons (.bool b) RepL.nil, ⟨b, rfl⟩, by simp [vszL, vsz, Ytclmcpbanaojfaa.Rows.uptoBulk]⟩
    · rename_i k k' m hu
      rw [hu]
      split at h
      · rename_i hc
        obtain ⟨rfl, hwf⟩ := hc
        cases h
        refine ⟨[.int k' m], RepL.cons (.int _ _) RepL.nil, ⟨m, rfl, ?_⟩, by simp [vszL, vsz, Ytclmcpbanaojfaa.Rows.uptoBulk]⟩
        simpa [Lit.wf] using hwf
      · cases h
    · rename_i hu; rw [hu]; exact ⟨_, any_rep _ _, trivial, by rw [vszL_any]; exact Nat.zero_le _⟩
    · rename_i s hu
      rw [hu]
      split at h
      · rename_i hs
        cases h
        refine ⟨[.str s.data.toList], RepL.cons ?_ RepL.nil, ⟨_, rfl, by rw [Array.length_toList]; exact hs⟩, by simp [vszL, vsz, Ytclmcpbanaojfaa.Rows.uptoBulk]⟩
        have := Rep.str (M := M0 W) s.data.toList
        simpa using this
      · cases h
    · rename_i hu; rw [hu]; cases h; exact ⟨[.nilp], RepL.cons .nilp RepL.nil, fun _ => .inl rfl, by simp [vszL, vsz, Ytclmcpbanaojfaa.Rows.uptoBulk]⟩
    · rename_i e a hu
      rw [hu]
      cases hc : W.cells? 0 a (P.cellsOf e) with
      | none => rw [hc] at h; simp at h
      | some row =>
        rw [hc] at h
        simp only [Option.bind_some, Option.map_eq_some_iff] at h
        obtain ⟨⟨d', ps'⟩, h1, hd⟩ := h
        cases hd
        obtain ⟨xs, h2, h3, h4⟩ := trod_rep n h1
        obtain ⟨g1, g2⟩ := cells_some hc
        by_cases h0 : P.cellsOf e = 0
        · exact ⟨_, any_rep _ _, fun q => absurd h0 q, by rw [vszL_any]; exact Nat.zero_le _⟩
        · have hsp : a.spot = none := by
            have := g2 0 (by omega)
            rw [List.getElem?_eq_getElem (by omega)] at this
            have := spot_none this
            simpa [Addr.add] using this
          exact ⟨[.lp xs 0], RepL.cons (lp_of h2 hsp (fun i hi => g2 i (by omega))) RepL.nil, fun _ => .inr ⟨xs, rfl, by rw [h2.1, g1], h3⟩, by simp only [vszL, vsz, Ytclmcpbanaojfaa.Rows.uptoBulk]; omega⟩
    · rename_i hu
      rw [hu]
      cases h
      refine ⟨[.sl [] true .no], RepL.cons (.sl [] true .no none 0 0 0 (fun _ _ => undef) rfl (Nat.le_refl _) rfl (fun _ => rfl) (fun _ h => by cases h) (fun i h => absurd h (by simp)) (fun _ h => by cases h) (fun i h => absurd h (by simp)) trivial) RepL.nil, fun _ => ⟨[], true, rfl, by simp, fun _ => rfl, fun x hx => by cases hx⟩, by simp [vszL, vsz, vszLL, Ytclmcpbanaojfaa.Rows.uptoBulk]⟩
    · rename_i e a len cap hu
      rw [hu]
      by_cases h0 : P.cellsOf e = 0
      · exact ⟨_, any_rep _ _, fun q => absurd h0 q, by rw [vszL_any]; exact Nat.zero_le _⟩
      simp only at h
      split at h
      · rename_i hc
        obtain ⟨_, hlc, hcm⟩ := hc
        cases hel : (List.range len).mapM (fun i => (W.cells? 0 (a.add (i * P.cellsOf e)) (P.cellsOf e)).bind (DataW.trod enc P W 0 (fun _ => true) true n e)) with
        | none => rw [hel] at h; simp at h
        | some elems =>
          rw [hel] at h
          cases hre : (List.range (cap - len)).mapM (fun j => (W.cells? 0 (a.add ((len + j) * P.cellsOf e)) (P.cellsOf e)).bind (DataW.trod enc P W 0 (fun _ => true) true n e)) with
          | none => simp only [Option.bind_some, if_true] at h; rw [hre] at h; cases h
          | some rest =>
            simp only [Option.bind_some, if_true] at h
            rw [hre] at h
            cases h
            have hall : ∀ i, i < cap → ∃ row y, W.cells? 0 (a.add (i * P.cellsOf e)) (P.cellsOf e) = some row ∧ DataW.trod enc P W 0 (fun _ => true) true n e row = some y := by
              intro i hi
              have key : ∃ y, (W.cells? 0 (a.add (i * P.cellsOf e)) (P.cellsOf e)).bind (DataW.trod enc P W 0 (fun _ => true) true n e) = some y := by
                rcases Nat.lt_or_ge i len with q | q
                · obtain ⟨y, _, hy⟩ := (mapM_some hel).2 i (by simpa using q)
                  exact ⟨y, by simpa using hy⟩
                · obtain ⟨y, _, hy⟩ := (mapM_some hre).2 (i - len) (by simp; omega)
                  have e1 : len + (i - len) = i := by omega
                  simp only [List.getElem_range, e1] at hy
                  exact ⟨y, hy⟩
              obtain ⟨y, hy⟩ := key
              cases hr : W.cells? 0 (a.add (i * P.cellsOf e)) (P.cellsOf e) with
              | none => rw [hr] at hy; cases hy
              | some row => rw [hr] at hy; exact ⟨row, y, rfl, hy⟩
            have hsp : 0 < cap → a.spot = none := fun hc0 => by
              obtain ⟨row, y, h1, _⟩ := hall 0 hc0
              obtain ⟨g1, g2⟩ := cells_some h1
              have := g2 0 (by omega)
              rw [List.getElem?_eq_getElem (by omega)] at this
              have := spot_none this
              simpa [Addr.add] using this
            obtain ⟨es, hes, hes2⟩ := exists_list (n := len) (p := fun i x => x.length = P.cellsOf e ∧ TyV P n e x ∧ (∀ d, (elems.map (·.1))[i]? = some d → vszL x ≤ Ytclmcpbanaojfaa.Rows.uptoBulk d) ∧ ∀ j (hj : j < x.length), ∃ v, W.cell? ⟨a.block, a.off + (i * P.cellsOf e + j), none⟩ = some v ∧ Rep (M0 W) x[j] v) fun i hi => by
              obtain ⟨row, ⟨d', ps'⟩, h1, h2⟩ := hall i (by omega)
              obtain ⟨xs, h3, h4, h5⟩ := trod_rep n h2
              obtain ⟨g1, g2⟩ := cells_some h1
              have hlx : xs.length = P.cellsOf e := by rw [h3.1, g1]
              have hdd : ∀ d, (elems.map (·.1))[i]? = some d → vszL xs ≤ Ytclmcpbanaojfaa.Rows.uptoBulk d := fun d hd => by
                obtain ⟨y, hy1, hy2⟩ := (mapM_some hel).2 i (by simpa using hi)
                simp only [List.getElem_range] at hy2
                rw [h1, Option.bind_some, h2] at hy2
                cases hy2
                rw [List.getElem?_map, hy1] at hd
                cases hd
                exact h5
              refine ⟨xs, hlx, h4, hdd, fun j hj => ?_⟩
              have hj2 : j < row.length := by rw [← h3.1]; exact hj
              have hc := g2 j (by omega)
              rw [List.getElem?_eq_getElem hj2] at hc
              have hs := hsp (by omega)
              obtain ⟨ab, ao, asp⟩ := a
              simp only at hs
              subst hs
              rw [Addr.add_lit, Addr.add_lit, Nat.add_assoc] at hc
              exact ⟨_, hc, RepL.get' h3 hj (List.getElem?_eq_getElem hj2)⟩
            refine ⟨[.sl es false .no], RepL.cons (.sl es false .no (some a) len cap (P.cellsOf e) (fun i j => (W.cell? ⟨a.block, a.off + (i * P.cellsOf e + j), none⟩).getD undef) hes.symm hlc rfl (fun h => by cases h) (fun ad h => by cases h; exact hsp) (fun i hi => (hes2 i hi).1) (fun ad h i hi j hj => ?_) (fun i hi j hj => ?_) trivial) RepL.nil, fun _ => ⟨es, false, rfl, by omega, (fun h => by cases h), fun x hx => ?_⟩, ?_⟩
            · cases h
              obtain ⟨v, hv, _⟩ := (hes2 i hi).2.2.2 j (by rw [(hes2 i hi).1]; exact hj)
              show W.cell? _ = _
              rw [hv]; rfl
            · obtain ⟨v, hv, hr⟩ := (hes2 i hi).2.2.2 j hj
              simp only [hv, Option.getD_some]
              exact hr
            · obtain ⟨i, hi, rfl⟩ := List.getElem_of_mem hx
              exact ⟨(hes2 i hi).1, (hes2 i hi).2.1⟩
            · have := vszLL_le es (elems.map (·.1)) (by rw [hes, List.length_map, (mapM_some hel).1]; simp) (fun i x dd hx hd => by
                obtain ⟨hi, rfl⟩ := List.getElem?_eq_some_iff.1 hx
                exact (hes2 i hi).2.2.1 dd hd)
              simp only [vszL, vsz, Ytclmcpbanaojfaa.Rows.uptoBulk]
              omega
      · cases h
    · rename_i cs x1 cs2 fs hu
      rw [hu]
      split at h
      · rename_i hlen
        cases hm : fs.toList.mapM (fun f => DataW.trod enc P W 0 (fun _ => true) true n f.type ((cs.drop f.offset).take (P.cellsOf f.type))) with
        | none => rw [hm] at h; cases h
        | some ys =>
          by_cases ht : tilesB P 0 fs.toList (P.cellsOf t) = true
          · obtain ⟨xs, h1, h2, h3⟩ := parts_rep (W := W) (cs := cs) (T := TyV P n) fs.toList (ys.map (·.1)) 0 (by rw [hlen]; exact ht) (by rw [List.length_map, (mapM_some hm).1]) (fun i f d hf hd => by
              obtain ⟨hi, rfl⟩ := List.getElem?_eq_some_iff.1 hf
              obtain ⟨⟨d', ps'⟩, hy1, hy⟩ := (mapM_some hm).2 i hi
              rw [List.getElem?_map, hy1] at hd
              cases hd
              exact trod_rep n hy)
            rw [hm] at h
            cases h
            exact ⟨xs, by simpa using h1, fun _ => h2, by simp only [Ytclmcpbanaojfaa.Rows.uptoBulk]; omega⟩
          · exact ⟨_, any_rep _ _, fun q => absurd q ht, by rw [vszL_any]; exact Nat.zero_le _⟩
      · cases h
    · rename_i cs x1 cs2 m e hu
      rw [hu]
      split at h
      · rename_i hlen
        cases hm : (List.range m).mapM (fun i => DataW.trod enc P W 0 (fun _ => true) true n e ((cs.drop (i * P.cellsOf e)).take (P.cellsOf e))) with
        | none => rw [hm] at h; cases h
        | some ys =>
          by_cases ht : m * P.cellsOf e = P.cellsOf t
          · have key : ∀ k i, i + k = m → ∃ xs, RepL (M0 W) xs (cs.drop (i * P.cellsOf e)) ∧ TyL (TyV P n) P (List.replicate k e) xs ∧ vszL xs ≤ Ytclmcpbanaojfaa.Rows.uptoBulkAll ((ys.map (·.1)).drop i) := by
              intro k
              induction k with
              | zero => intro i hi; refine ⟨[], ?_, rfl, Nat.zero_le _⟩; have : i = m := by omega
                        subst this; rw [ht, ← hlen, List.drop_length]; exact RepL.nil
              | succ k ih =>
                intro i hi
                obtain ⟨zs, h3, h4, h6⟩ := ih (i + 1) (by omega)
                obtain ⟨⟨d', ps'⟩, hy1, hy⟩ := (mapM_some hm).2 i (by simp; omega)
                obtain ⟨xs, h1, h2, h5⟩ := trod_rep n hy
                simp only [List.getElem_range] at h1
                have hdr : (ys.map (·.1)).drop i = d' :: (ys.map (·.1)).drop (i + 1) := by
                  obtain ⟨hi1, hi2⟩ := List.getElem?_eq_some_iff.1 hy1
                  rw [List.drop_eq_getElem_cons (by simpa using hi1), List.getElem_map, hi2]
                have e2 : (i + 1) * P.cellsOf e = i * P.cellsOf e + P.cellsOf e := by rw [Nat.add_mul]; simp
                have e3 : (i + 1) * P.cellsOf e ≤ cs.length := by rw [hlen, ← ht]; exact Nat.mul_le_mul_right _ (by omega)
                refine ⟨xs ++ zs, ?_, ⟨xs, zs, rfl, ?_, h2, h4⟩, by rw [vszL_append, hdr]; simp only [Ytclmcpbanaojfaa.Rows.uptoBulkAll]; omega⟩
                · have : cs.drop (i * P.cellsOf e) = (cs.drop (i * P.cellsOf e)).take (P.cellsOf e) ++ cs.drop ((i + 1) * P.cellsOf e) := by
                    rw [e2, ← List.drop_drop, List.take_append_drop]
                  rw [this]
                  exact h1.append h3
                · have e1 := h1.1
                  rw [List.length_take, List.length_drop] at e1
                  omega
            obtain ⟨xs, h1, h2, h3⟩ := key m 0 (by omega)
            rw [hm] at h
            cases h
            exact ⟨xs, by simpa using h1, fun _ => h2, by simp only [Ytclmcpbanaojfaa.Rows.uptoBulk]; simp only [List.drop_zero] at h3; omega⟩
          · exact ⟨_, any_rep _ _, fun q => absurd q ht, by rw [vszL_any]; exact Nat.zero_le _⟩
      · cases h
    all_goals first
      | (exfalso; cases h; done)
      | (refine ⟨_, any_rep _ _, ?_, by rw [vszL_any]; exact Nat.zero_le _⟩; split <;> first | trivial | (exfalso; simp_all))
/-- One value of a type. -/
def isAggT (P : Program) (t : TypeId) : Bool := match P.underlying t with | some (.struct _) | some (.array _ _) => true | _ => false
def TyA (P : Program) (t : TypeId) (x : V) : Prop := ∃ n cs, TyV P n t cs ∧ ((isAggT P t = true ∧ x = .agg cs) ∨ (isAggT P t = false ∧ cs = [x]))
def TyAll (P : Program) : List TypeId → List V → Prop
  | [], xs => xs = []
  | t :: ts, xs => ∃ y ys, xs = y :: ys ∧ TyA P t y ∧ TyAll P ts ys
theorem agg_ok {base : Nat} {t : TypeId} {v : Value} (h : Value.okWide P W .any base t v) : isAggT P t = true ↔ ∃ cs, v = .agg cs := by
  cases hu : P.underlying t with
  | none => simp [Value.okWide, hu, Cell.okWide, Cell.ok] at h
  | some d => cases d <;> cases v <;> simp_all [Value.okWide, Cell.okWide, Cell.ok, isAggT]
theorem trod_one {base : Nat} {t : TypeId} {v : Value} {d : DataW H} {ps : List MemPlace} (hok : Value.okWide P W .any base t v) (h : DataW.Trod enc P W 0 (fun _ => true) true t v d ps) : ∃ x, Rep (M0 W) x v ∧ TyA P t x ∧ vsz x ≤ Ytclmcpbanaojfaa.Rows.uptoBulk d := by
  obtain ⟨n, h⟩ := h
  obtain ⟨xs, h1, h2, h5⟩ := trod_rep n h
  by_cases ha : ∃ cs, v = .agg cs
  · obtain ⟨cs, rfl⟩ := ha
    refine ⟨.agg xs, .agg xs cs ?_ (fun i hi => ?_), ⟨n, xs, h2, .inl ⟨(agg_ok hok).2 ⟨cs, rfl⟩, rfl⟩⟩, by simpa [vsz] using h5⟩
    · have := h1.1; simpa [Value.cells] using this.symm
    · have := h1.2 i hi
      simpa [Value.cells, List.getD_eq_getElem?_getD, Array.getD_eq_getD_getElem?] using this
  · have hc : v.cells.toList = [v] := by cases v <;> first | rfl | (exact absurd ⟨_, rfl⟩ ha)
    rw [hc] at h1
    have hl := h1.1
    match xs, hl, h1, h2, h5 with
    | [x], _, h1, h2, h5 =>
      refine ⟨x, h1.2 0 (by simp), ⟨n, [x], h2, .inr ⟨by cases hg : isAggT P t with | false => rfl | true => exact absurd ((agg_ok hok).1 hg) ha, rfl⟩⟩, by simpa [vszL] using h5⟩
theorem trod_all {base : Nat} : ∀ {ts : List TypeId} {vs : List Value} {ds : List (DataW H)} {ps : List MemPlace}, (∀ (j : Nat) t v, ts[j]? = some t → vs[j]? = some v → Value.okWide P W .any base t v) → DataW.TrodAll enc P W 0 (fun _ => true) true ts vs ds ps → ∃ xs, RepL (M0 W) xs vs ∧ TyAll P ts xs ∧ vszL xs ≤ Ytclmcpbanaojfaa.Rows.uptoBulkAll ds
  | [], [], [], ps, _, h => ⟨[], RepL.nil, rfl, Nat.zero_le _⟩
  | t :: ts, v :: vs, d :: ds, ps, hok, h => by
    obtain ⟨p, q, h1, h2, _⟩ := h
    obtain ⟨x, hx, tx, sx⟩ := trod_one (hok 0 t v rfl rfl) h1
    obtain ⟨xs, hxs, txs, sxs⟩ := trod_all (fun j t v ht hv => hok (j + 1) t v (by simpa using ht) (by simpa using hv)) h2
    exact ⟨x :: xs, RepL.cons hx hxs, ⟨x, xs, rfl, tx, txs⟩, by simp only [vszL, Ytclmcpbanaojfaa.Rows.uptoBulkAll]; omega⟩
  | [], _ :: _, _, _, _, h => h.elim
  | [], [], _ :: _, _, _, h => h.elim
  | _ :: _, [], _, _, _, h => h.elim
  | _ :: _, _ :: _, [], _, _, h => h.elim
theorem trod_stays (hl : laidOutB P = true) {W' : World} (hb : Below W.heap.size W W') : ∀ {ts : List TypeId} {vs : List Value} {ds : List (DataW H)} {ps : List MemPlace}, (ts.all fun t => P.readableRec t && decide (t < P.types.size)) = true →
    DataW.TrodAll enc P W 0 (fun _ => true) true ts vs ds ps → DataW.TrodAll enc P W' 0 (fun b => decide (b < W.heap.size)) true ts vs ds ps
  | [], [], [], ps, _, h => h
  | t :: ts, v :: vs, d :: ds, ps, ha, h => by
    obtain ⟨p, q, h1, h2, h3⟩ := h
    simp only [List.all_cons, Bool.and_eq_true, decide_eq_true_eq] at ha
    exact ⟨p, q, Below.trod hl ha.1.1 ha.1.2 h1 hb (by obtain ⟨m, hm⟩ := h1; exact DataW.trod_lt m _ _ _ hm), trod_stays hl hb ha.2 h2, h3⟩
  | [], _ :: _, _, _, _, h => h.elim
  | [], [], _ :: _, _, _, h => h.elim
  | _ :: _, [], _, _, _, h => h.elim
  | _ :: _, _ :: _, [], _, _, h => h.elim
/-- From the logic's word of a call to the machine's. -/
theorem ACall.calls {g : FuncId} {args : List V} {Q : V → Heap → Prop} (h : ACall P g args Q []) {fn : Func} {c : Code} (hf : P.funcs[g]? = some fn) (hb : fn.body = some c) (hname : (fn.name == "runtime.NumGoroutine") = false) {vs : Array Value} (hr : RepL (M0 W) args vs.toList) :
    Calls P g vs W fun e W' => ∃ v, e = .returned v ∧ Below W.heap.size W W' ∧ ∃ M' x G', Rep M' x v ∧ Q x G' := by
  have hm : Mem ⟨W.heap.size, W⟩ (M0 W) [] W := ⟨Below.refl _ _, Nat.le_refl _, fun b o v hv => hv, fun b o ho => by simp [hget] at ho⟩
  have hcall : (callFunc g vs).run P W = .ok (.enter g vs) W := by
    simp only [callFunc, Sem.run_bind, run_program, Result.andThen_ok, hf, hname, hb, Bool.false_eq_true, if_false, Option.isNone_some, Sem.run_pure]
  have h1 := h _ _ _ vs hm hr ⟨some 0, .move (.const undef), 0, "", #[], none⟩ ⟨#[undef], []⟩ (fun a w => ∃ v, a.tmps[0]? = some v ∧ APost ⟨W.heap.size, W⟩ (M0 W) Q v w) (fun _ _ _ => False) (fun v w' hv => ⟨v, by simp [Act.put], hv⟩)
  rw [hcall, Oper.upon_enter] at h1
  refine h1.mono fun e W' he => ?_
  cases e with
  | returned v =>
    obtain ⟨v', h2, M', G', x, k1, k2, k3, k4⟩ := he
    have : v' = v := by simpa [Act.put] using h2.symm
    subst this
    exact ⟨_, rfl, k2.below, M', x, G', k3, k4⟩
  | panicked ch => exact he.elim
  | outgrown => obtain ⟨a, w, hf⟩ := he; exact hf.elim
end
end Go.Proofs.YtclmcpbanaojfaaV

/-
  Answers of which less is told; room behind slices that grow; functions without a body.
-/
namespace Go.Proofs.YtclmcpbanaojfaaV
open Go.RowKit
set_option linter.unusedVariables false
set_option linter.unusedSimpArgs false

/-- What the first tells, the second tells, too. -/
def Vle (x y : V) : Prop := ∀ M v, Rep M x v → Rep M y v
theorem Vle.refl (x : V) : Vle x x := fun _ _ h => h
theorem Vle.untag {es : List (List V)} {nl : Bool} {t : Tag} : Vle (.sl es nl t) (.sl es nl .no) := fun _ _ h => h.untag
theorem Vle.tup {xs ys : List V} (hl : xs.length = ys.length) (h : ∀ i (hi : i < xs.length), Vle xs[i] (ys[i]'(by omega))) : Vle (.tup xs) (.tup ys) := fun M v hr => by
  cases hr with
  | tup cs vs h1 r => exact .tup ys vs (by omega) (fun i hi => h i (by omega) M _ (r i (by omega)))
section
variable {P : Program} {g : FuncId} {args : List V} {G : Heap}
theorem ACall.weak {Q : V → Heap → Prop} (h : ACall P g args (fun x G' => ∃ y G2, Vle x y ∧ (∀ b o, hget G2 b = some o → hget G' b = some o) ∧ Q y G2) G) : ACall P g args Q G :=
  fun E M w vs hm hr => (h E M w vs hm hr).mono fun v w' ⟨M', G', x, h1, h2, h3, y, G2, h4, h5, h6⟩ => ⟨M', G2, y, h1, h2.sub h5, h4 _ _ h3, h6⟩
theorem Quiet.weak {x : V} (h : ∀ G, ACall P g args (fun y G' => Vle y x ∧ ∀ b o, hget G b = some o → hget G' b = some o) G) : Quiet P g args x :=
  fun G => ACall.weak ((h G).mono fun y G' ⟨h1, h2⟩ => ⟨x, G, h1, h2, rfl, rfl⟩)
theorem acall_extern {Q : V → Heap → Prop} {fn : Func} {e : Array Value → Sem Value} (hf : P.funcs[g]? = some fn) (hname : (fn.name == "runtime.NumGoroutine") = false) (hb : fn.body.isNone = true) (hn : Extern.findNext fn = none) (he : Extern.find fn = some e)
    (h : ∀ E M w (vs : Array Value), Mem E M G w → RepL M args vs.toList → ∃ M' G' w' v x, (e vs).run P w = .ok v w' ∧ M.le M' ∧ Mem E M' G' w' ∧ Rep M' x v ∧ Q x G') : ACall P g args Q G := by
  intro E M w vs hm hr o a next Q' hq
  obtain ⟨M', G', w', v, x, h1, h2, h3, h4, h5⟩ := h E M w vs hm hr
  rw [run_callFunc_extern hf hname hb hn he, h1, Result.andThen_ok, Oper.upon_value]
  exact hq v w' ⟨M', G', x, h2, h3, h4, h5⟩
/-- internal/bytealg.IndexByte -/
theorem quiet_indexByte {fn : Func} {l : List UInt8} {nl : Bool} {t : Tag} {c : Int} (hf : P.funcs[g]? = some fn) (hname : (fn.name == "runtime.NumGoroutine") = false) (hb : fn.body.isNone = true) (hn : Extern.findNext fn = none) (he : Extern.find fn = some Extern.BytealgIndexByte.indexByte) :
    Quiet P g [.sl (bytesV l) nl t, .int .u8 c] (.int .i64 (Lib.indexByte l c.toNat.toUInt8)) := by
  intro G
  refine acall_extern hf hname hb hn he fun E M w vs hm hr => ?_
  obtain ⟨vs⟩ := vs
  match vs, hr with
  | [], hr => exact absurd hr.1 (by simp)
  | [_], hr => exact absurd hr.1 (by simp)
  | _ :: _ :: _ :: _, hr => exact absurd hr.1 (by simp)
  | [u, v], hr =>
    have h1 : Rep M (.sl (bytesV l) nl t) u := hr.head
    have h2 : v = .int .u8 c := hr.tail.head.int_inv
    subst h2
    refine ⟨M, G, w, .int .i64 (Lib.indexByte l c.toNat.toUInt8), _, ?_, M.le_refl, hm, .int _ _, rfl, rfl⟩
    rcases sl_cells hm h1 with ⟨hnil, a0, c0, rfl⟩ | ⟨b, z, c0, sz, rfl, hc, _, hlen, hmem, _⟩
    · have : l = [] := by cases l with | nil => rfl | cons b l => simp [bytesV] at hnil
      subst this
      cases a0 with
      | none => rfl
      | some a0 => rfl
    · have hx : (l.map fun b => ((b.toNat : Nat) : Int)).length = (bytesV l).length := by simp
      have := Lib.run_indexByteSlice (P := P) w b z (bytesV l).length c0 (l.map fun b => ((b.toNat : Nat) : Int)) hx (fun i hi => by
        have hi' : i < l.length := by simpa using hi
        obtain ⟨g, hg1, hg2⟩ := hmem i hi
        have e1 : (bytesV l)[i] = [V.int .u8 ((l[i].toNat : Nat) : Int)] := by simp [bytesV]
        have hs1 : sz = 1 := by rw [← hlen i hi, e1]; rfl
        subst hs1
        have hc1 := hm.pm _ _ _ (hg1 0 (by omega))
        simp only [Nat.mul_one, Nat.add_zero] at hc1
        have hg3 := hg2 0 (by rw [e1]; simp)
        have hg4 : g 0 = .int .u8 ((l[i].toNat : Nat) : Int) := by
          have : (bytesV l)[i][0]'(by rw [e1]; simp) = V.int .u8 ((l[i].toNat : Nat) : Int) := by simp [e1]
          rw [this] at hg3
          exact hg3.int_inv
        rw [hc1, hg4]
        simp [List.getD_eq_getElem?_getD, hi']) c
      rw [this]
      congr 3
      rw [Lib.bytesOf, List.map_map]
      conv => lhs; rw [show (l.map _) = l.map id from List.map_congr_left (fun b _ => by simp)]
      simp
end

/-! ### room -/
theorem hdel_none {G : Heap} {b : Nat} (h : hget G b = none) : hdel G b = G := by
  induction G with
  | nil => rfl
  | cons p G ih =>
    obtain ⟨k, u⟩ := p
    rw [hget] at h
    split at h
    · cases h
    · rename_i e; rw [hdel, if_neg e, ih h]
/-- A slice that this call has made, and what it may yet write behind it. -/
def Room (G : Heap) (n : Nat) (t : Tag) (H : Heap) : Prop := (t = .full ∧ H = G) ∨ ∃ b e c, t = .top n b e c ∧ hget G b = none ∧ H = (b, .top e c) :: G
theorem Room.start (G : Heap) (n : Nat) : Room G n .full G := .inl ⟨rfl, rfl⟩
theorem Room.sub {G H : Heap} {n : Nat} {t : Tag} (h : Room G n t H) : ∀ b o, hget G b = some o → hget H b = some o := by
  intro b o ho
  rcases h with ⟨_, rfl⟩ | ⟨b', e, c, _, hn, rfl⟩
  · exact ho
  · rw [hget, if_neg]
    · exact ho
    · intro e; subst e; rw [hn] at ho; cases ho
section
variable {P : Program} {ops : List Oper} {f : Frame} {G H : Heap} {K : Kf} {d : Option Tmp} {r : Rest}
theorem goP_room {n k : Nat} {z : V} {es ys : List (List V)} {nl : Bool} {t : Tag} (hr : Room G n t H) (hc : appC n k z es ys)
    (h : ∀ t' H', Room G n t' H' → go P ops r (fput f d (.sl (es ++ ys) (nl && ys.isEmpty) t')) H' K) : goP P ops (appC n k z es ys) n es ys nl t d r f H K := by
  refine ⟨hc, .inl ⟨fun hy => ?_, fun hy => ?_⟩⟩
  · subst hy
    have := h t H hr
    simpa using this
  · have he : ys.isEmpty = false := by cases ys with | nil => exact absurd rfl hy | cons a l => rfl
    rw [he, Bool.and_false] at h
    rcases hr with ⟨rfl, rfl⟩ | ⟨b, e, c, rfl, hn, rfl⟩
    · exact fun b e c hb => h _ _ (.inr ⟨b, e, c, rfl, hb, rfl⟩)
    · refine ⟨⟨rfl, by rw [hget, if_pos rfl]⟩, fun b' e' c' hb => ?_⟩
      have hd : hdel ((b, .top e c) :: G) b = G := by rw [hdel, if_pos rfl, hdel_none hn]
      rw [hd]
      refine h _ _ (.inr ⟨b', e', c', rfl, ?_, rfl⟩)
      rcases hb with hb | rfl
      · rw [hget] at hb; split at hb
        · cases hb
        · exact hb
      · exact hn
/-- The same where nothing is written behind it any more. -/
theorem goP_new {n k : Nat} {z : V} {es ys : List (List V)} {nl : Bool} (hc : appC n k z es ys)
    (h : ∀ t' H', Room H n t' H' → go P ops r (fput f d (.sl (es ++ ys) (nl && ys.isEmpty) t')) H' K) : goP P ops (appC n k z es ys) n es ys nl .full d r f H K := goP_room (Room.start H n) hc h
end
theorem all_zip_next {A B : Type} {q : A × B → Bool} {xs : List A} {ys : List B} {i : Nat} (h : ((xs.take i).zip (ys.take i)).all q = true) (hx : i < xs.length) (hy : i < ys.length) (he : q (xs[i], ys[i]) = true) : ((xs.take (i + 1)).zip (ys.take (i + 1))).all q = true := by
  rw [List.take_succ_eq_append_getElem hx, List.take_succ_eq_append_getElem hy, List.zip_append (by simp; omega), List.all_append, h]
  simp [he]
theorem all_zip_not {A B : Type} {q : A × B → Bool} {xs : List A} {ys : List B} {i : Nat} (hx : i < xs.length) (hy : i < ys.length) (he : q (xs[i], ys[i]) = false) : (xs.zip ys).all q = false := by
  rw [List.all_eq_false]
  refine ⟨(xs[i], ys[i]), ?_, by simp [he]⟩
  have hz : i < (xs.zip ys).length := by simp; omega
  have : (xs.zip ys)[i] = (xs[i], ys[i]) := by simp
  rw [← this]; exact List.getElem_mem hz
theorem take_bytesV (l : List UInt8) (n : Nat) : (bytesV l).take n = bytesV (l.take n) := by simp [bytesV, List.map_take]
theorem drop_bytesV (l : List UInt8) (n : Nat) : (bytesV l).drop n = bytesV (l.drop n) := by simp [bytesV, List.map_drop]
theorem AW.of_fsub {P : Program} {N : Nat} {Q : Cont} {f g : Frame} {G : Heap} {c : Code} (h : FSub g f) (h2 : AW P N c Q g G) : AW P N c Q f G := h2.sub h.ok (fun _ _ h => h)
theorem AW.of_hsub {P : Program} {N : Nat} {Q : Cont} {f : Frame} {G H : Heap} {c : Code} (h : ∀ b o, hget G b = some o → hget H b = some o) (h2 : AW P N c Q f G) : AW P N c Q f H := h2.sub (fun _ _ h => h) h
theorem one_bytesV (x : UInt8) : [[V.int .u8 ((x.toNat : Nat) : Int)]] = bytesV [x] := rfl
theorem getD_bytes {l : List UInt8} {i : Nat} (h : i < l.length) : (bytesV l).getD i [] = [V.int .u8 ((l[i].toNat : Nat) : Int)] := by
  rw [getD_bytesV l i h]
  congr 3
  rw [List.getD_eq_getElem?_getD, List.getElem?_eq_getElem h]; rfl
theorem pickV_true (x y : V) : pickV true x y = x := by unfold pickV; split <;> rfl
theorem pickV_false (x y : V) : pickV false x y = y := by unfold pickV; split <;> rfl
/-- A whole number's last byte. -/
def u8 (n : Int) : UInt8 := UInt8.ofNat (IntKind.u8.wrap n).toNat
theorem wrap_u8 (n : Int) : IntKind.u8.wrap n = n % 256 := by unfold IntKind.wrap; simp only [IntKind.bits, IntKind.signed]; simp
theorem u8_cast (n : Int) : ((u8 n).toNat : Int) = IntKind.u8.wrap n := by
  unfold u8
  rw [wrap_u8]
  simp only [UInt8.toNat_ofNat']
  omega
theorem two_bytesV (m n : Int) : [[V.int .u8 (IntKind.u8.wrap m)], [V.int .u8 (IntKind.u8.wrap n)]] = bytesV [u8 m, u8 n] := by
  simp only [bytesV, List.map_cons, List.map_nil, u8_cast]
theorem app_bytesV (a b : List UInt8) : bytesV a ++ bytesV b = bytesV (a ++ b) := by simp [bytesV]
theorem isEmpty_bytesV (l : List UInt8) : (bytesV l).isEmpty = l.isEmpty := by cases l <;> rfl
theorem vle2 {a b c d : V} (h1 : Vle a c) (h2 : Vle b d) : Vle (oneOf [a, b]) (.tup [c, d]) := Vle.tup (xs := [a, b]) (ys := [c, d]) rfl (fun i hi => by
  match i with
  | 0 => exact h1
  | 1 => exact h2
  | n + 2 => simp at hi; omega)
/-- A region that begins with a []byte of constant bytes, turned to itself. -/
theorem aw_lit {P : Program} {N : Nat} {Q : Cont} {f : Frame} {G : Heap} {id d1 d2 len : Nat} {t e n ty1 ty2 : Nat} {ps : Array (Nat × Operand)} {p1 p2 : String} {a1 a2 : Array Edge} {os : List Oper} {z : V} (es : List (List V))
    (hd : List.all (⟨some d1, .buildSlice t len ps, ty1, p1, a1, none⟩ :: ⟨some d2, .convert t t (.tmp d1), ty2, p2, a2, none⟩ :: os) (dstOk N) = true) (ht : tslice P t = some (e, n)) (hz : tzero P e = some z) (hp : plainV z = true) (hzn : (cellsV z).length = n) (hlen : len * n ≤ 16777216)
    (hu : isU8s P t = true) (hfill : fillE n (fget f) (List.replicate len (cellsV z)) ps.toList = some es)
    (h : go P (⟨some d1, .buildSlice t len ps, ty1, p1, a1, none⟩ :: ⟨some d2, .convert t t (.tmp d1), ty2, p2, a2, none⟩ :: os) (.t os) ((d2, .sl es false .full) :: (d1, .sl es false .full) :: f) G (fun f G => Q .normal f G)) :
    AW P N (.region id (⟨some d1, .buildSlice t len ps, ty1, p1, a1, none⟩ :: ⟨some d2, .convert t t (.tmp d1), ty2, p2, a2, none⟩ :: os).toArray false) Q f G := by
  intro E M w a hm hr hn hdf
  refine wp_region_list (P := P) ?_
  simp only [List.all_cons, Bool.and_eq_true] at hd
  obtain ⟨hd1, hd2, hd3⟩ := hd
  obtain ⟨arr, h1, h2, h3, h4⟩ := buildSlice_ok hm hr ht hz hp hzn hlen hfill
  obtain ⟨e2, he1, he2⟩ := isU8s_info hu
  have : e2 = e := by have := (tslice_info ht).1; rw [he1] at this; cases this; rfl
  subst this
  obtain ⟨q1, q2, q3⟩ := put_frame (o := ⟨some d1, .buildSlice t len ps, ty1, p1, a1, none⟩) (hr.mono h1) hn hdf hd1 h3
  obtain ⟨r1, r2, r3⟩ := put_frame (o := ⟨some d2, .convert t t (.tmp d1), ty2, p2, a2, none⟩) q1 q2 q3 hd2 h3
  have hrun1 : (execOp a.eval ⟨some d1, .buildSlice t len ps, ty1, p1, a1, none⟩).run P w = .ok (.value (.slice (some ⟨w.heap.size, 0, none⟩) len len)) (w.alloc (.cells arr e2)) := by
    simp only [execOp, Sem.run_bind, h4, Result.andThen_ok, Sem.run_pure]
  have hev : (a.put (some d1) (.slice (some ⟨w.heap.size, 0, none⟩) len len)).eval (.tmp d1) = .slice (some ⟨w.heap.size, 0, none⟩) len len := by
    have hlt : d1 < a.tmps.size := by rw [hn]; simpa [dstOk] using hd1
    simp [Act.eval, Act.put, hlt]
  have hrun2 : (execOp (a.put (some d1) (.slice (some ⟨w.heap.size, 0, none⟩) len len)).eval ⟨some d2, .convert t t (.tmp d1), ty2, p2, a2, none⟩).run P (w.alloc (.cells arr e2)) = .ok (.value (.slice (some ⟨w.heap.size, 0, none⟩) len len)) (w.alloc (.cells arr e2 (arr.size, arr.size + 1))) := by
    simp only [execOp, hev, Sem.run_bind, Lib.run_convert_bytes_const w t e2 arr len len he1 he2, Result.andThen_ok, Sem.run_pure]
  unfold wpList
  rw [if_pos (by simp [Region.wanted])]
  refine .inl ?_
  unfold Oper.wp
  rw [hrun1, Oper.upon_value]
  unfold wpList
  rw [if_pos (by simp [Region.wanted])]
  refine .inl ?_
  unfold Oper.wp
  rw [hrun2, Oper.upon_value]
  refine rg_ok (N := N) (K := fun f G => Q .normal f G) (f := (d2, .sl es false .full) :: (d1, .sl es false .full) :: f) h hd3 (h2 (arr.size, arr.size + 1)) ?_ r2 r3 fun M' f' G' a' w' k1 k2 k3 k4 k5 k6 => ⟨M', f', G', PM.le_trans h1 k1, k2, k3, k4, k5, k6⟩
  have e1 := fget_fput ((d1, V.sl es false .full) :: f) (some d2) (.sl es false .full)
  have e0 := fget_fput f (some d1) (.sl es false .full)
  show RepG _ (fget (fput (fput f (some d1) (.sl es false .full)) (some d2) (.sl es false .full))) _
  rw [fget_fput, fget_fput]
  exact r1
theorem aw_slit {P : Program} {N : Nat} {Q : Cont} {f : Frame} {G : Heap} {id d1 d2 len : Nat} {t e n ty1 ty2 : Nat} {ps : Array (Nat × Operand)} {p1 p2 : String} {a1 a2 : Array Edge} {os : List Oper} {z : V} {y : Code} (es : List (List V))
    (hd : List.all (⟨some d1, .buildSlice t len ps, ty1, p1, a1, none⟩ :: ⟨some d2, .convert t t (.tmp d1), ty2, p2, a2, none⟩ :: os) (dstOk N) = true) (ht : tslice P t = some (e, n)) (hz : tzero P e = some z) (hp : plainV z = true) (hzn : (cellsV z).length = n) (hlen : len * n ≤ 16777216)
    (hu : isU8s P t = true) (hfill : fillE n (fget f) (List.replicate len (cellsV z)) ps.toList = some es)
    (h : go P (⟨some d1, .buildSlice t len ps, ty1, p1, a1, none⟩ :: ⟨some d2, .convert t t (.tmp d1), ty2, p2, a2, none⟩ :: os) (.t os) ((d2, .sl es false .full) :: (d1, .sl es false .full) :: f) G (fun f G => AW P N y Q f G)) :
    AW P N (.seq (.region id (⟨some d1, .buildSlice t len ps, ty1, p1, a1, none⟩ :: ⟨some d2, .convert t t (.tmp d1), ty2, p2, a2, none⟩ :: os).toArray false) y) Q f G :=
  aw_seq' (aw_lit es hd ht hz hp hzn hlen hu hfill h)
theorem u8_mod (n : Int) : u8 (n % 256) = u8 n := by unfold u8; rw [wrap_u8, wrap_u8, Int.emod_emod_of_dvd _ (by decide)]
theorem or_bytes {x y : Nat} (hx : x < 256) (hy : y < 256) : bits BinOp.or IntKind.i64 (((x * 256 : Nat) : Nat) : Int) ((y : Nat) : Int) = ((x * 256 + y : Nat) : Int) := by
  unfold bits
  have h64 : IntKind.i64.bits = 64 := rfl
  simp only [h64, BitVec.ofInt_natCast, BitVec.toNat_or, BitVec.toNat_ofNat]
  rw [Nat.mod_eq_of_lt (by omega), Nat.mod_eq_of_lt (by omega)]
  have := Nat.shiftLeft_add_eq_or_of_lt (i := 8) (b := y) (by omega) x
  rw [Nat.shiftLeft_eq] at this
  rw [show x * 256 = x * 2 ^ 8 from rfl, ← this, wrap64 (by omega) (by omega)]
theorem wid_one {n : Nat} {e : List V} (h : e.length = n) : wid n [e] := fun x hx => by simp at hx; subst hx; exact h
theorem sca_one {e : List V} (h : e.all scalarV = true) : sca [e] := fun x hx => by simp at hx; subst hx; simpa using h
theorem sca_bytes (l : List UInt8) : sca (bytesV l) := by
  intro e he x hx
  obtain ⟨b, _, rfl⟩ := List.mem_map.1 he
  simp at hx; subst hx; rfl
theorem wid_bytes (l : List UInt8) : wid 1 (bytesV l) := wid_map (g := fun b : UInt8 => [V.int .u8 (b.toNat : Int)]) (fun _ => rfl) l
attribute [go_sem] plainV List.replicate_zero List.replicate_succ List.set_cons_zero List.set_cons_succ setMany List.nil_append List.append_nil List.cons_append List.isEmpty_nil List.isEmpty_cons oneOf
attribute [go_sem] app_bytesV isEmpty_bytesV two_bytesV one_bytesV take_bytesV drop_bytesV unb_bytesV length_bytesV eq_self srcV decide_true decide_false ite_self implies_true pickV_true pickV_false
end Go.Proofs.YtclmcpbanaojfaaV

/-
  Arguments of a statement as data: out of what is known of a value of a type.
-/
namespace Go.Proofs.YtclmcpbanaojfaaV
open Go.RowKit
set_option linter.unusedVariables false
set_option linter.unusedSimpArgs false
/-- A struct's fields' types. -/
def tstruct (P : Program) (t : TypeId) : Option (List TypeId) := match P.underlying t with | some (.struct fs) => if tilesB P 0 fs.toList (P.cellsOf t) then some (fs.toList.map (·.type)) else none | _ => none
/-- A slice's elements' type. -/
def tslc (P : Program) (t : TypeId) : Option TypeId := match P.underlying t with | some (.slice e) => if P.cellsOf e = 0 then none else some e | _ => none
abbrev bulk : Nat := 1048576
theorem le_bulk {n : Nat} (h : n ≤ bulk) : (n : Int) ≤ 9223372036854775807 := by have : n ≤ 1048576 := h; omega
/-- Whatever is of the type, and of no more than that bulk, is a piece of data. -/
def Dec (P : Program) (t : TypeId) {D : Type} (e : D → List V) (o : D → Prop) (n : Nat) : Prop := ∀ cs, TyV P n t cs → vszL cs ≤ bulk → ∃ x, cs = e x ∧ o x
section
variable {P : Program} {t el : TypeId} {n : Nat}
theorem dec_bool (h : kindIs P t isBoolT = true) : Dec P t (fun b : Bool => [V.bool b]) (fun _ => True) n := by
  intro cs hv _
  cases n with
  | zero => exact hv.elim
  | succ n =>
    obtain ⟨d, hd, hk⟩ := kindIs_some h
    cases d <;> simp [isBoolT] at hk
    unfold TyV at hv
    rw [hd] at hv
    obtain ⟨b, rfl⟩ := hv
    exact ⟨b, rfl, trivial⟩
theorem dec_int {k : IntKind} (h : intKindOf P t = some k) : Dec P t (fun m : Int => [V.int k m]) (fun m => k.min ≤ m ∧ m ≤ k.max) n := by
  intro cs hv _
  cases n with
  | zero => exact hv.elim
  | succ n =>
    have hu : P.underlying t = some (.int k) := by
      unfold intKindOf at h
      split at h
      · rename_i k2 hk2; cases h; exact hk2
      · cases h
    unfold TyV at hv
    rw [hu] at hv
    obtain ⟨m, rfl, h1, h2⟩ := hv
    exact ⟨m, rfl, h1, h2⟩
theorem dec_str (h : isStr P t = true) : Dec P t (fun s : List UInt8 => [V.str s]) (fun s => s.length ≤ bulk) n := by
  intro cs hv hb
  cases n with
  | zero => exact hv.elim
  | succ n =>
    unfold TyV at hv
    rw [isStr_info h] at hv
    obtain ⟨s, rfl, h1⟩ := hv
    simp only [vszL, vsz] at hb
    exact ⟨s, rfl, by show s.length ≤ bulk; omega⟩
theorem tslc_info (h : tslc P t = some el) : P.underlying t = some (.slice el) ∧ P.cellsOf el ≠ 0 := by
  unfold tslc at h
  split at h
  · rename_i e hu
    split at h
    · cases h
    · cases h; exact ⟨hu, by assumption⟩
  · cases h
theorem dec_raw {cs : List V} (h : tslc P t = some el) (hv : TyV P (n + 1) t cs) : ∃ es nl, cs = [.sl es nl .no] ∧ (nl = true → es = []) ∧ ∀ x ∈ es, x.length = P.cellsOf el ∧ TyV P n el x := by
  obtain ⟨hu, hc⟩ := tslc_info h
  unfold TyV at hv
  rw [hu] at hv
  obtain ⟨es, nl, rfl, _, h2, h3⟩ := hv hc
  exact ⟨es, nl, rfl, h2, h3⟩
theorem vszLL_mem {x : List V} : ∀ {es : List (List V)}, x ∈ es → vszL x ≤ vszLL es
  | e :: es, h => by
    simp only [vszLL]
    rcases List.mem_cons.1 h with rfl | h
    · omega
    · have := vszLL_mem h; omega
theorem vszLL_len {D : Type} {e : D → List V} (hp : ∀ x, 1 ≤ vszL (e x)) : ∀ xs : List D, xs.length ≤ vszLL (xs.map e)
  | [] => by simp [vszLL]
  | x :: xs => by simp only [List.map_cons, vszLL, List.length_cons]; have := hp x; have := vszLL_len hp xs; omega
theorem dec_list {D : Type} {e : D → List V} {o : D → Prop} {Q : List V → Prop} : ∀ {es : List (List V)}, (∀ x ∈ es, Q x → ∃ d, x = e d ∧ o d) → (∀ x ∈ es, Q x) → ∃ xs : List D, es = xs.map e ∧ ∀ y ∈ xs, o y
  | [], _, _ => ⟨[], rfl, fun y h => by cases h⟩
  | x :: es, ih, h => by
    obtain ⟨d, rfl, hd⟩ := ih x (by simp) (h x (by simp))
    obtain ⟨xs, rfl, ho⟩ := dec_list (es := es) (fun y hy => ih y (by simp [hy])) (fun y hy => h y (by simp [hy]))
    exact ⟨d :: xs, rfl, fun y hy => (List.mem_cons.1 hy).elim (fun q => q ▸ hd) (ho y)⟩
/-- What a slice's data owes. -/
def OkS {D : Type} (o : D → Prop) (x : List D × Bool) : Prop := (x.2 = true → x.1 = []) ∧ x.1.length ≤ bulk ∧ ∀ y ∈ x.1, o y
theorem dec_slice {D : Type} {e : D → List V} {o : D → Prop} (h : tslc P t = some el) (hp : ∀ x, 1 ≤ vszL (e x)) (ih : ∀ m, m < n → Dec P el e o m) : Dec P t (fun x : List D × Bool => [.sl (x.1.map e) x.2 .no]) (OkS o) n := by
  intro cs hv hb
  cases n with
  | zero => exact hv.elim
  | succ n =>
    obtain ⟨es, nl, rfl, h2, h3⟩ := dec_raw h hv
    have hb' : vszLL es + 1 ≤ bulk := by simpa [vszL, vsz] using hb
    obtain ⟨xs, rfl, ho⟩ := dec_list (es := es) (e := e) (o := o) (Q := fun x => TyV P n el x) (fun x hx hq => ih n (by omega) x hq (by have := vszLL_mem hx; omega)) (fun x hx => (h3 x hx).2)
    have := vszLL_len hp xs
    exact ⟨(xs, nl), rfl, fun e => by simpa using h2 e, by show xs.length ≤ bulk; omega, ho⟩
theorem sz_bytesV (b : List UInt8) : vszLL (bytesV b) = b.length := by
  induction b with
  | nil => rfl
  | cons x b ih =>
    have : bytesV (x :: b) = [V.int .u8 (x.toNat : Int)] :: bytesV b := rfl
    rw [this]
    simp only [vszLL, vszL, vsz, ih, List.length_cons]
    omega
theorem dec_bytes (h : tslc P t = some el) (hk : intKindOf P el = some .u8) : Dec P t (fun x : List UInt8 × Bool => [.sl (bytesV x.1) x.2 .no]) (fun x => (x.2 = true → x.1 = []) ∧ x.1.length ≤ bulk) n := by
  intro cs hv hb
  obtain ⟨⟨xs, nl⟩, rfl, h1, h2, h3⟩ := dec_slice (e := fun m : Int => [V.int .u8 m]) h (fun _ => by simp [vszL, vsz]) (fun m _ => dec_int hk) cs hv hb
  have he : xs.map (fun m : Int => [V.int .u8 m]) = bytesV (xs.map fun m => UInt8.ofNat m.toNat) := by
    simp only [bytesV, List.map_map]
    refine List.map_congr_left fun m hm => ?_
    obtain ⟨g1, g2⟩ := h3 m hm
    have g1 : 0 ≤ m := g1
    have g2 : m ≤ 255 := g2
    have : ((UInt8.ofNat m.toNat).toNat : Int) = m := by rw [UInt8.toNat_ofNat']; omega
    simp only [Function.comp_apply, this]
  refine ⟨(xs.map (fun m => UInt8.ofNat m.toNat), nl), by simp only [he], fun e => ?_, by simpa using h2⟩
  have := h1 e
  simp only at this
  rw [this]; rfl
theorem dec_struct {ts : List TypeId} {cs : List V} (h : tstruct P t = some ts) (hv : TyV P n t cs) : ∃ m, n = m + 1 ∧ TyL (TyV P m) P ts cs := by
  cases n with
  | zero => exact hv.elim
  | succ n =>
    unfold tstruct at h
    split at h
    · rename_i fs hu
      split at h
      · rename_i ht
        cases h
        unfold TyV at hv
        rw [hu] at hv
        exact ⟨n, rfl, hv ht⟩
      · cases h
    · cases h
/-- One cell, whatever it holds. -/
theorem dec_cell (h : tslc P t = some el) : Dec P t (fun x : V => [x]) (fun _ => True) n := by
  intro cs hv _
  cases n with
  | zero => exact hv.elim
  | succ n =>
    obtain ⟨es, nl, rfl, _⟩ := dec_raw h hv
    exact ⟨_, rfl, trivial⟩
theorem dec_one {D : Type} {e : D → List V} {o : D → Prop} {y : V} (ha : isAggT P t = false) (ih : ∀ n, Dec P t e o n) (h : TyA P t y) (hb : vsz y ≤ bulk) : ∃ x, e x = [y] ∧ o x := by
  obtain ⟨n, cs, h1, ⟨h2, _⟩ | ⟨_, rfl⟩⟩ := h
  · rw [ha] at h2; cases h2
  · obtain ⟨x, hx, ho⟩ := ih n _ h1 (by simpa [vszL] using hb)
    exact ⟨x, hx.symm, ho⟩
theorem dec_agg {D : Type} {e : D → List V} {o : D → Prop} {y : V} (ha : isAggT P t = true) (ih : ∀ n, Dec P t e o n) (h : TyA P t y) (hb : vsz y ≤ bulk) : ∃ x, y = .agg (e x) ∧ o x := by
  obtain ⟨n, cs, h1, ⟨_, rfl⟩ | ⟨h2, _⟩⟩ := h
  · obtain ⟨x, rfl, ho⟩ := ih n _ h1 (by simpa [vsz] using hb)
    exact ⟨x, rfl, ho⟩
  · rw [ha] at h2; cases h2
end
end Go.Proofs.YtclmcpbanaojfaaV

/-
  Room beside other objects; a slice that was made and filled is, when nothing is written to it any more, a slice like any other.
-/
namespace Go.Proofs.YtclmcpbanaojfaaV
open Go.RowKit
set_option linter.unusedVariables false
set_option linter.unusedSimpArgs false
abbrev Sub (G H : Heap) : Prop := ∀ b o, hget G b = some o → hget H b = some o
theorem hget_cons_ne {k b : Nat} {o : AObj} {G : Heap} (h : ¬ k = b) : hget ((k, o) :: G) b = hget G b := by rw [hget_cons, if_neg h]
theorem none_cons {k b : Nat} {o : AObj} {G : Heap} (h : hget ((k, o) :: G) b = none) : ¬ k = b ∧ hget G b = none := by
  rw [hget_cons] at h
  split at h
  · cases h
  · exact ⟨by assumption, h⟩
theorem hset_ne {k b : Nat} {o x : AObj} {G : Heap} (h : ¬ k = b) : hset ((k, o) :: G) b x = (k, o) :: hset G b x := by rw [hset, if_neg h]
attribute [go_sem] hget_cons_ne hset_ne not_false_eq_true
theorem fresh_cons {k b : Nat} {o : AObj} {G : Heap} (h : hget ((k, o) :: G) b = none) : ¬ b = k ∧ hget G b = none := ⟨fun e => (none_cons h).1 e.symm, (none_cons h).2⟩
theorem sub_swap {a b : Nat} {x y : AObj} {G : Heap} (h : ¬ a = b) : Sub ((a, x) :: (b, y) :: G) ((b, y) :: (a, x) :: G) := by
  intro k o hk
  rw [hget_cons] at hk
  split at hk
  · rename_i e
    subst e
    rw [hget_cons_ne (fun e => h e.symm), hget_cons, if_pos rfl]; exact hk
  · rename_i e
    rw [hget_cons] at hk ⊢
    split at hk
    · rename_i e2; rw [if_pos e2]; exact hk
    · rename_i e2; rw [if_neg e2, hget_cons_ne e]; exact hk
theorem sub_tail {b : Nat} {x : AObj} {G : Heap} (h : hget G b = none) : Sub G ((b, x) :: G) := by
  intro k o hk
  rw [hget_cons_ne]
  · exact hk
  · intro e; subst e; rw [h] at hk; cases hk
theorem sub_fresh {b : Nat} {x : AObj} {G H : Heap} (h : hget G b = none) (hs : Sub G H) : Sub G ((b, x) :: H) := by
  intro k o hk
  rw [hget_cons_ne]
  · exact hs _ _ hk
  · intro e; subst e; rw [h] at hk; cases hk
theorem sub_rfl {G : Heap} : Sub G G := fun _ _ h => h
theorem hget_hset_ne {b k : Nat} {x : AObj} (hk : ¬ k = b) : ∀ {G : Heap}, hget (hset G b x) k = hget G k
  | [] => rfl
  | (j, u) :: G => by
    rw [hset]
    by_cases e : j = b
    · rw [if_pos e, hget_cons_ne (fun q => hk (q.symm.trans e)), hget_cons_ne (fun q => hk (q.symm.trans e))]
    · rw [if_neg e, hget_cons, hget_cons, hget_hset_ne hk]
theorem sub_hset {G H : Heap} {b : Nat} {x : AObj} (hs : Sub G H) : Sub (hset G b x) (hset H b x) := by
  intro k o h
  by_cases e : k = b
  · subst e
    cases hg : hget G k with
    | none =>
      rcases hget_hset h with ⟨_, rfl⟩ | ⟨h1, _⟩
      · exfalso
        have : ∀ {G : Heap}, hget G k = none → hget (hset G k o) k = none := by
          intro G
          induction G with
          | nil => intro _; rfl
          | cons p G ih =>
            intro hn
            obtain ⟨j, u⟩ := p
            obtain ⟨n1, n2⟩ := none_cons hn
            rw [hset, if_neg n1, hget_cons_ne n1]
            exact ih n2
        rw [this hg] at h; cases h
      · exact absurd rfl h1
    | some u =>
      rw [hget_hset_self hg] at h
      rw [hget_hset_self (hs _ _ hg)]; exact h
  · rw [hget_hset_ne e] at h ⊢; exact hs _ _ h
theorem sub_hset_fresh {G H : Heap} {b : Nat} {x : AObj} (h : hget G b = none) (hs : Sub G H) : Sub G (hset H b x) := by
  intro k o hk
  rw [hget_hset_ne]
  · exact hs _ _ hk
  · intro e; subst e; rw [h] at hk; cases hk
theorem sub_none {G H : Heap} {b : Nat} (h : Sub G H) (hb : hget H b = none) : hget G b = none := by
  cases hg : hget G b with
  | none => rfl
  | some o => rw [h _ _ hg] at hb; cases hb
theorem sub_trans {A B C : Heap} (h : Sub A B) (k : Sub B C) : Sub A C := fun b o x => k b o (h b o x)
theorem sub_both {b : Nat} {x : AObj} {G H : Heap} (h : Sub G H) : Sub ((b, x) :: G) ((b, x) :: H) := by
  intro k o hk
  rw [hget_cons] at hk ⊢
  split at hk
  · rename_i e; rw [if_pos e]; exact hk
  · rename_i e; rw [if_neg e]; exact h _ _ hk
/-- Another object is there. -/
theorem Room.push {G H : Heap} {n : Nat} {t : Tag} {b : Nat} {o : AObj} (h : Room G n t H) (hb : hget H b = none) : ∃ H2, Room ((b, o) :: G) n t H2 ∧ Sub H2 ((b, o) :: H) := by
  rcases h with ⟨rfl, rfl⟩ | ⟨b1, e, c, rfl, hn, rfl⟩
  · exact ⟨_, .inl ⟨rfl, rfl⟩, fun _ _ h => h⟩
  · obtain ⟨h1, h2⟩ := none_cons hb
    exact ⟨(b1, .top e c) :: (b, o) :: G, .inr ⟨b1, e, c, rfl, by rw [hget_cons_ne (fun e => h1 e.symm)]; exact hn, rfl⟩, sub_swap h1⟩
/-- And no more. -/
theorem Room.pop {G H : Heap} {n : Nat} {t : Tag} {b : Nat} {o : AObj} (h : Room ((b, o) :: G) n t H) (hb : hget G b = none) : ∃ H2, Room G n t H2 ∧ Sub H2 H := by
  rcases h with ⟨rfl, rfl⟩ | ⟨b1, e, c, rfl, hn, rfl⟩
  · exact ⟨_, .inl ⟨rfl, rfl⟩, sub_tail hb⟩
  · obtain ⟨h1, h2⟩ := none_cons hn
    exact ⟨(b1, .top e c) :: G, .inr ⟨b1, e, c, rfl, h2, rfl⟩, sub_both (sub_tail hb)⟩

theorem Room.sub_none {G H : Heap} {n : Nat} {t : Tag} {b : Nat} (h : Room G n t H) (hb : hget H b = none) : hget G b = none := by
  cases hg : hget G b with
  | none => rfl
  | some o => rw [h.sub _ _ hg] at hb; cases hb

/-- The variable beside the room is written. -/
theorem Room.put {G H : Heap} {n : Nat} {t : Tag} {b : Nat} {o x : AObj} (h : Room ((b, o) :: G) n t H) : Room ((b, x) :: G) n t (hset H b x) := by
  rcases h with ⟨rfl, rfl⟩ | ⟨b1, e, c, rfl, hn, rfl⟩
  · exact .inl ⟨rfl, by simp [hset]⟩
  · obtain ⟨h1, h2⟩ := none_cons hn
    refine .inr ⟨b1, e, c, rfl, ?_, ?_⟩
    · rw [hget_cons_ne h1]; exact h2
    · have : ¬ b1 = b := fun e => h1 e.symm
      simp [hset, this]
/-- A call that leaves a heap as it was, if that heap knows what H0 knows, and answers x. -/
def QuietOn (P : Program) (H0 : Heap) (g : FuncId) (args : List V) (x : V) : Prop := ∀ G, Sub H0 G → ACall P g args (fun y G' => y = x ∧ G' = G) G
theorem Quiet.on {P : Program} {H0 : Heap} {g : FuncId} {args : List V} {x : V} (h : Quiet P g args x) : QuietOn P H0 g args x := fun G _ => h G
theorem QuietOn.weak {P : Program} {H0 : Heap} {g : FuncId} {args : List V} {x : V} (h : ∀ G, Sub H0 G → ACall P g args (fun y G' => Vle y x ∧ Sub G G') G) : QuietOn P H0 g args x :=
  fun G hs => ACall.weak ((h G hs).mono fun y G' ⟨h1, h2⟩ => ⟨x, G, h1, h2, rfl, rfl⟩)
theorem QuietOn.mono {P : Program} {H0 H1 : Heap} {g : FuncId} {args : List V} {x : V} (h : QuietOn P H0 g args x) (hs : Sub H0 H1) : QuietOn P H1 g args x := fun G h1 => h G fun b o k => h1 b o (hs b o k)
section
variable {P : Program} {ops : List Oper} {d : Option Tmp} {r : Rest} {f : Frame} {G H0 : Heap} {K : Kf}
theorem goA_on {g : FuncId} {xs : List V} {x : V} (h : QuietOn P H0 g xs x) (hs : Sub H0 G) (hk : go P ops r (fput f d x) G K) : goA P ops g xs d r f G K :=
  (h G hs).mono fun y G' ⟨h1, h2⟩ => by subst h1; subst h2; exact hk
theorem goH_on {n : FuncId} {xs : List V} {g : Bool} {x : V} (h : g = true → QuietOn P H0 n xs x) (hs : Sub H0 G) (hk : go P ops r (fput f d (.opt g x)) G K) : goH P ops n xs g d r f G K :=
  ⟨fun e => (h e G hs).mono fun y G' ⟨h1, h2⟩ => by subst h1; subst h2; exact hk, fun e => ⟨x, hk⟩⟩
end
theorem sub_one {b : Nat} {o : AObj} {G : Heap} (h : hget G b = some o) : Sub [(b, o)] G := by
  intro b' o' hk
  rw [hget_cons] at hk
  split at hk
  · rename_i e; subst e; cases hk; exact h
  · cases hk

/-- Cell by cell weaker. -/
inductive VleL : List V → List V → Prop
  | nil : VleL [] []
  | cons {x y : V} {xs ys : List V} (h : Vle x y) (hs : VleL xs ys) : VleL (x :: xs) (y :: ys)
theorem VleL.rep {xs ys : List V} (h : VleL xs ys) : ∀ {M : PM} {vs : List Value}, RepL M xs vs → RepL M ys vs := by
  induction h with
  | nil => exact fun h => h
  | cons h hs ih =>
    intro M vs hr
    cases vs with
    | nil => exact absurd hr.1 (by simp)
    | cons v vs => exact RepL.cons (h _ _ hr.head) (ih hr.tail)
theorem Vle.aggL {xs ys : List V} (h : VleL xs ys) : Vle (.agg xs) (.agg ys) := fun M v hr => by
  obtain ⟨vs, rfl, hl⟩ := hr.agg_inv
  have := (h.rep hl).agg
  simpa using this
theorem Vle.tupL {xs ys : List V} (h : VleL xs ys) : Vle (.tup xs) (.tup ys) := fun M v hr => by
  obtain ⟨vs, rfl, hl⟩ := hr.tup_inv
  have := (h.rep hl).tup
  simpa using this
theorem VleL.refl : ∀ xs : List V, VleL xs xs
  | [] => .nil
  | x :: xs => .cons (Vle.refl x) (VleL.refl xs)

theorem VleL.at {xs ys : List V} (h : VleL xs ys) : xs.length = ys.length ∧ ∀ i (h1 : i < xs.length) (h2 : i < ys.length), Vle xs[i] ys[i] := by
  induction h with
  | nil => exact ⟨rfl, fun i h1 => absurd h1 (by simp)⟩
  | cons h hs ih =>
    refine ⟨by simp [ih.1], fun i h1 h2 => ?_⟩
    cases i with
    | zero => exact h
    | succ i => exact ih.2 i (by simpa using h1) (by simpa using h2)
inductive VleLL : List (List V) → List (List V) → Prop
  | nil : VleLL [] []
  | cons {x y : List V} {xs ys : List (List V)} (h : VleL x y) (hs : VleLL xs ys) : VleLL (x :: xs) (y :: ys)
theorem VleLL.at {xs ys : List (List V)} (h : VleLL xs ys) : xs.length = ys.length ∧ ∀ i (h1 : i < xs.length) (h2 : i < ys.length), VleL xs[i] ys[i] := by
  induction h with
  | nil => exact ⟨rfl, fun i h1 => absurd h1 (by simp)⟩
  | cons h hs ih =>
    refine ⟨by simp [ih.1], fun i h1 h2 => ?_⟩
    cases i with
    | zero => exact h
    | succ i => exact ih.2 i (by simpa using h1) (by simpa using h2)
/-- A slice whose elements are weaker. -/
theorem Vle.slE {es fs : List (List V)} {nl : Bool} {t : Tag} (h : VleLL es fs) : Vle (.sl es nl t) (.sl fs nl .no) := fun M v hr => by
  obtain ⟨hl0, hh⟩ := h.at
  cases hr with
  | sl es nl t a len cap sz g hl hc hn hz hs he hm hr ht =>
    refine .sl fs nl .no a len cap sz g (by omega) hc hn hz hs (fun i hi => ?_) (fun ad h i hi => hm ad h i (by omega)) (fun i hi j hj => ?_) trivial
    · rw [← (hh i (by omega) hi).at.1]; exact he i (by omega)
    · obtain ⟨e1, e2⟩ := (hh i (by omega) hi).at
      exact e2 j (by omega) hj _ _ (hr i (by omega) j (by omega))
/-- Weaker arguments. -/
theorem ACall.args {P : Program} {g : FuncId} {xs ys : List V} {Q : V → Heap → Prop} {G : Heap} (h : ACall P g ys Q G) (hl : VleL xs ys) : ACall P g xs Q G :=
  fun E M w vs hm hr => h E M w vs hm (hl.rep hr)
theorem Quiet.args {P : Program} {g : FuncId} {xs ys : List V} {x : V} (h : Quiet P g ys x) (hl : VleL xs ys) : Quiet P g xs x := fun G => (h G).args hl

theorem Room.base {B B' H : Heap} {n : Nat} {t : Tag} (h : Room B n t H) (hs : Sub B' B) : ∃ H', Room B' n t H' ∧ Sub H' H := by
  rcases h with ⟨rfl, rfl⟩ | ⟨b1, e, c, rfl, hn, rfl⟩
  · exact ⟨B', .inl ⟨rfl, rfl⟩, hs⟩
  · exact ⟨(b1, .top e c) :: B', .inr ⟨b1, e, c, rfl, Go.Proofs.YtclmcpbanaojfaaV.sub_none hs hn, rfl⟩, sub_both hs⟩
/-- In a heap stands a variable of one slice of n-celled elements, which may be appended to; and all of base. -/
def WOk (base : Heap) (b n : Nat) (es : List (List V)) (G : Heap) : Prop := hget base b = none ∧ ∃ nl t H, (nl = true → es = []) ∧ Room ((b, .vars [.sl es nl t]) :: base) n t H ∧ Sub H G
theorem WOk.sub {base : Heap} {b n : Nat} {es : List (List V)} {G G' : Heap} (h : WOk base b n es G) (hs : Sub G G') : WOk base b n es G' := by
  obtain ⟨h0, nl, t, H, hnl, h1, h2⟩ := h
  exact ⟨h0, nl, t, H, hnl, h1, sub_trans h2 hs⟩
/-- Another object stands beside it. -/
theorem WOk.push {base : Heap} {b n : Nat} {es : List (List V)} {G : Heap} (h : WOk base b n es G) {b2 : Nat} {o : AObj} (hb : hget G b2 = none) : WOk ((b2, o) :: base) b n es ((b2, o) :: G) := by
  obtain ⟨h0, nl, t, H, hnl, h1, h2⟩ := h
  have hbH := Go.Proofs.YtclmcpbanaojfaaV.sub_none h2 hb
  have hbb := h1.sub_none hbH
  obtain ⟨n1, n2⟩ := fresh_cons hbb
  obtain ⟨H2, h3, h4⟩ := h1.push (o := o) hbH
  obtain ⟨H3, h5, h6⟩ := h3.base (B' := (b, .vars [.sl es nl t]) :: (b2, o) :: base) (sub_swap (fun e => n1 e.symm))
  exact ⟨by rw [hget_cons_ne n1]; exact h0, nl, t, H3, hnl, h5, sub_trans h6 (sub_trans h4 (sub_both h2))⟩
theorem WOk.base {base base' : Heap} {b n : Nat} {es : List (List V)} {G : Heap} (h : WOk base b n es G) (hs : Sub base' base) : WOk base' b n es G := by
  obtain ⟨h0, nl, t, H, hnl, h1, h2⟩ := h
  obtain ⟨H2, h3, h4⟩ := h1.base (sub_both hs)
  exact ⟨Go.Proofs.YtclmcpbanaojfaaV.sub_none hs h0, nl, t, H2, hnl, h3, sub_trans h4 h2⟩
theorem WOk.old {base : Heap} {b n : Nat} {es : List (List V)} {G : Heap} (h : WOk base b n es G) : Sub base G := by
  obtain ⟨h0, nl, t, H, hnl, h1, h2⟩ := h
  exact sub_trans (sub_trans (sub_tail h0) h1.sub) h2

/-! ### an answer may be turned -/
def Turn (x : V) (G : Heap) (y : V) (G2 : Heap) : Prop := ∀ E M w v, Mem E M G w → Rep M x v → ∃ M', M.le M' ∧ Mem E M' G2 w ∧ Rep M' y v
theorem ACall.turn {P : Program} {g : FuncId} {args : List V} {Q : V → Heap → Prop} {G : Heap} (h : ACall P g args (fun x G' => ∃ y G2, Turn x G' y G2 ∧ Q y G2) G) : ACall P g args Q G :=
  fun E M w vs hm hr => (h E M w vs hm hr).mono fun v w' ⟨M', G', x, h1, h2, h3, y, G2, h4, h5⟩ => by
    obtain ⟨M2, k1, k2, k3⟩ := h4 E M' w' v h2 h3
    exact ⟨M2, G2, y, PM.le_trans h1 k1, k2, k3, h5⟩
/-- Which block's slice is turned, where it stands. -/
inductive Fz (b n c : Nat) (es : List (List V)) : V → V → Prop
  | same (x : V) : Fz b n c es x x
  | ms (t : Tag) (ht : t = .no) : Fz b n c es (.ms b 0 n c) (.sl es false t)
  | agg (xs ys : List V) (hl : xs.length = ys.length) (h : ∀ i (hi : i < xs.length), Fz b n c es xs[i] (ys.getD i .any)) : Fz b n c es (.agg xs) (.agg ys)
  | tup (xs ys : List V) (hl : xs.length = ys.length) (h : ∀ i (hi : i < xs.length), Fz b n c es xs[i] (ys.getD i .any)) : Fz b n c es (.tup xs) (.tup ys)
theorem Fz.rep {M M' : PM} {b n c : Nat} {es : List (List V)} (hM : M.le M') (hs : ∀ v, Rep M (.ms b 0 n c) v → Rep M' (.sl es false .no) v) {x y : V} (h : Fz b n c es x y) : ∀ {v : Value}, Rep M x v → Rep M' y v := by
  induction h with
  | same x => exact fun hr => hr.mono hM
  | ms t ht => subst ht; exact fun hr => hs _ hr
  | agg xs ys hl h ih =>
    intro v hr
    cases hr with
    | agg _ vs h1 r =>
      refine .agg ys vs (by omega) fun i hi => ?_
      have := ih i (by omega) (r i (by omega))
      rw [List.getD_eq_getElem?_getD, List.getElem?_eq_getElem hi] at this
      exact this
  | tup xs ys hl h ih =>
    intro v hr
    cases hr with
    | tup _ vs h1 r =>
      refine .tup ys vs (by omega) fun i hi => ?_
      have := ih i (by omega) (r i (by omega))
      rw [List.getD_eq_getElem?_getD, List.getElem?_eq_getElem hi] at this
      exact this
theorem turn_ms {G : Heap} {b n c sz : Nat} {es : List (List V)} {x y : V} (hb : hget G b = none) (hn : es.length = n) (hw : wid sz es) (h : Fz b n c es x y) : Turn x ((b, .vars es.flatten) :: G) y G := by
  intro E M w v hm hr
  obtain ⟨hB, arr, T, fr, h1, h2, h3, h4, h5⟩ := hm.obj b _ (hget_self b _ G)
  let M' : PM := fun b' o => if b' = b then (if o < es.flatten.length then arr[o]? else none) else M b' o
  have hM : M.le M' := fun b' o v hv => by
    show (if b' = b then _ else _) = _
    rw [if_neg]
    · exact hv
    · intro e; subst e; rw [h5 o] at hv; cases hv
  have hself : ∀ o, o < es.flatten.length → M' b o = some (arr.getD o undef) := fun o ho => by
    show (if b = b then _ else _) = _
    rw [if_pos rfl, if_pos ho, Array.getD_eq_getD_getElem?, Array.getElem?_eq_getElem (by omega)]; rfl
  have hmem : Mem E M' G w := by
    refine ⟨hm.below, hm.base, fun b' o v hv => ?_, fun b' ob hob => ?_⟩
    · by_cases e : b' = b
      · subst e
        have hv : (if b' = b' then (if o < es.flatten.length then arr[o]? else none) else M b' o) = some v := hv
        rw [if_pos rfl] at hv
        split at hv
        · simp only [World.cell?, h1]; simpa using hv
        · cases hv
      · have hv : (if b' = b then (if o < es.flatten.length then arr[o]? else none) else M b' o) = some v := hv
        rw [if_neg e] at hv
        exact hm.pm _ _ _ hv
    · have hne : ¬ b = b' := by intro e; subst e; rw [hb] at hob; cases hob
      obtain ⟨g1, g2⟩ := hm.obj b' ob (by rw [hget_cons_ne hne]; exact hob)
      refine ⟨g1, g2.grow hM fun i => ?_⟩
      show (if b' = b then _ else _) = _
      rw [if_neg (fun e => hne e.symm)]
  refine ⟨M', hM, hmem, h.rep hM (fun u hu => ?_) hr⟩
  obtain ⟨rfl, hc⟩ := hu.ms_inv
  have hl : RepL M' es.flatten ((List.range es.flatten.length).map fun i => arr.getD i undef) := by
    refine ⟨by simp, fun i hi => ?_⟩
    rw [List.getD_eq_getElem?_getD, List.getElem?_map, List.getElem?_range hi]
    exact (h3 i hi).mono hM
  have := rep_sl_of_flat (M := M') (b := b) (z := 0) (cap := c) (t := .no) hl hw (fun i v hv => by
    have hi : i < es.flatten.length := by
      rcases Nat.lt_or_ge i es.flatten.length with q | q
      · exact q
      · rw [List.getElem?_eq_none (by simpa using q)] at hv; cases hv
    rw [List.getElem?_map, List.getElem?_range hi] at hv
    cases hv
    rw [Nat.zero_add]
    exact hself i hi) (by omega) trivial
  rw [hn] at this
  exact this
theorem Turn.refl (x : V) (G : Heap) : Turn x G x G := fun E M w v hm hr => ⟨M, M.le_refl, hm, hr⟩
theorem Turn.sub {x y : V} {G G0 G2 : Heap} (h : Turn x G y G2) (hs : Sub G G0) : Turn x G0 y G2 := fun E M w v hm hr => h E M w v (hm.sub hs) hr
theorem Quiet.turn {P : Program} {g : FuncId} {args : List V} {x : V} (h : ∀ G, ACall P g args (fun y0 G0 => ∃ y G2, Turn y0 G0 y G2 ∧ Vle y x ∧ Sub G G2) G) : Quiet P g args x :=
  Quiet.weak fun G => (h G).turn
theorem VleL.append {a b c d : List V} (h : VleL a c) (k : VleL b d) : VleL (a ++ b) (c ++ d) := by
  induction h with
  | nil => exact k
  | cons h hs ih => exact .cons h ih
theorem VleL.flat {es fs : List (List V)} (h : VleLL es fs) : VleL es.flatten fs.flatten := by
  induction h with
  | nil => exact .nil
  | cons h hs ih => exact h.append ih
theorem VleLL.replicate {x y : List V} (h : VleL x y) : ∀ n, VleLL (List.replicate n x) (List.replicate n y)
  | 0 => .nil
  | n + 1 => .cons h (VleLL.replicate h n)
/-- Of a variable less is known. -/
theorem AW.vars_weak {P : Program} {N : Nat} {Q : Cont} {f : Frame} {G : Heap} {c : Code} {b : Nat} {cs ds : List V} (hl : VleL cs ds) (h : AW P N c Q f ((b, .vars ds) :: G)) : AW P N c Q f ((b, .vars cs) :: G) := by
  intro E M w a hm hr hn hd
  refine h E M w a ⟨hm.below, hm.base, hm.pm, fun b' o ho => ?_⟩ hr hn hd
  rw [hget_cons] at ho
  split at ho
  · rename_i e
    subst e
    cases ho
    obtain ⟨g1, arr, T, fr, h1, h2, h3, h4, h5⟩ := hm.obj b _ (hget_self b _ G)
    obtain ⟨e1, e2⟩ := hl.at
    exact ⟨g1, arr, T, fr, h1, by omega, fun i hi => e2 i (by omega) hi _ _ (h3 i (by omega)), by rw [← e1]; exact h4, h5⟩
  · rename_i e
    exact hm.obj b' o (by rw [hget_cons_ne e]; exact ho)
theorem setMany_append : ∀ (c a b d : List V), b.length = c.length → setMany (a ++ (b ++ d)) a.length c = a ++ (c ++ d)
  | [], a, b, d, h => by
    have : b = [] := List.eq_nil_of_length_eq_zero h
    subst this; rfl
  | x :: xs, a, [], d, h => by simp at h
  | x :: xs, a, y :: ys, d, h => by
    have ih := setMany_append xs (a ++ [x]) ys d (by simpa using h)
    rw [setMany]
    have e : (a ++ (y :: ys ++ d)).set a.length x = a ++ [x] ++ (ys ++ d) := by simp
    rw [e]
    have e2 : a.length + 1 = (a ++ [x]).length := by simp
    rw [e2, ih]
    simp
theorem setMany_flatten {k n : Nat} {es : List (List V)} {c : List V} (hw : wid k es) (hc : c.length = k) (hn : n < es.length) : setMany es.flatten (n * k) c = (es.set n c).flatten := by
  have h1 : es.flatten = (es.take n).flatten ++ (es[n] ++ (es.drop (n + 1)).flatten) := by
    have e : es = es.take n ++ (es[n] :: es.drop (n + 1)) := by rw [← List.drop_eq_getElem_cons hn, List.take_append_drop]
    have e2 := congrArg List.flatten e
    rw [List.flatten_append, List.flatten_cons] at e2
    exact e2
  have h2 : (es.take n).flatten.length = n * k := by
    rw [flatten_length (n := k) (wid_take hw n), List.length_take, Nat.min_eq_left (by omega)]
  have h3 : (es.set n c).flatten = (es.take n).flatten ++ (c ++ (es.drop (n + 1)).flatten) := by
    rw [List.set_eq_take_append_cons_drop, if_pos hn]
    simp
  rw [h1, ← h2, setMany_append c _ _ _ (by rw [hc]; exact hw _ (List.getElem_mem hn)), h3]
theorem map_range_set {A : Type} (n i : Nat) (g : Nat → A) (x : A) : ((List.range n).map g).set i x = (List.range n).map fun j => if j = i then x else g j := by
  apply List.ext_getElem
  · simp
  · intro j h1 h2
    rw [List.getElem_set]
    simp only [List.getElem_map, List.getElem_range]
    by_cases e : i = j
    · rw [if_pos e, if_pos e.symm]
    · rw [if_neg e, if_neg (fun q => e q.symm)]
end Go.Proofs.YtclmcpbanaojfaaV

/-
  What the walks of functions share: rules for the standing simp call, calls that answer some boolean.
-/
namespace Go.Proofs.YtclmcpbanaojfaaV
set_option linter.unusedVariables false
theorem hset_at {G : Heap} {b : Nat} {o x : AObj} : hset ((b, o) :: G) b x = (b, x) :: G := by simp [hset]
attribute [go_sem] hget_self hset_at List.all_cons List.all_nil scalarV Nat.zero_add
theorem hsub_at {G : Heap} {b : Nat} {o : AObj} (h : hget G b = none) : ∀ b' o', hget G b' = some o' → hget ((b, o) :: G) b' = some o' := sub_tail h
/-- slices.IndexFunc's answer. -/
def ixI : Option Nat → Int | none => -1 | some i => i
theorem ixI_at {A : Type} {f : A → Bool} {xs : List A} {i : Nat} (hi : i < xs.length) (h : f xs[i] = true) (hb : ∀ j (hj : j < i), f xs[j] = false) : ixI (xs.findIdx? f) = (i : Int) := by
  have e : xs.findIdx? f = some i := List.findIdx?_eq_some_iff_getElem.2 ⟨hi, h, fun j hj => by rw [hb j hj]; simp⟩
  rw [e]; rfl
theorem ixI_none {A : Type} {f : A → Bool} {xs : List A} (h : ∀ j (hj : j < xs.length), f xs[j] = false) : ixI (xs.findIdx? f) = -1 := by
  have e : xs.findIdx? f = none := List.findIdx?_eq_none_iff.2 fun x hx => by
    obtain ⟨j, hj, rfl⟩ := List.getElem_of_mem hx
    exact h j hj
  rw [e]; rfl
/-! Calls that answer a boolean, whichever, and change nothing. -/
def QB (P : Program) (g : FuncId) (args : List V) : Prop := ∀ G, ACall P g args (fun y G' => (∃ b, y = .bool b) ∧ G' = G) G
theorem QB.weak {P : Program} {g : FuncId} {args : List V} (h : ∀ G, ACall P g args (fun y G' => (∃ b, Vle y (.bool b)) ∧ Sub G G') G) : QB P g args :=
  fun G => ACall.weak ((h G).mono fun y G' ⟨⟨b, h1⟩, h2⟩ => ⟨.bool b, G, h1, h2, ⟨b, rfl⟩, rfl⟩)
theorem Quiet.qb {P : Program} {g : FuncId} {args : List V} {b : Bool} (h : Quiet P g args (.bool b)) : QB P g args := fun G => (h G).mono fun y G' ⟨h1, h2⟩ => ⟨⟨b, h1⟩, h2⟩
section
variable {P : Program} {ops : List Oper} {d : Option Tmp} {r : Rest} {f : Frame} {G : Heap} {K : Kf}
theorem goA_qb {g : FuncId} {xs : List V} (h : QB P g xs) (hk : ∀ b, go P ops r (fput f d (.bool b)) G K) : goA P ops g xs d r f G K :=
  goA_by (h G) fun y G' ⟨⟨b, h1⟩, h2⟩ => by subst h1; subst h2; exact hk b
theorem goH_qb {n : FuncId} {xs : List V} {g : Bool} (h : g = true → QB P n xs) (hk : ∀ b, go P ops r (fput f d (.opt g (.bool b))) G K) : goH P ops n xs g d r f G K :=
  ⟨fun e => (h e G).mono fun y G' ⟨⟨b, h1⟩, h2⟩ => by subst h1; subst h2; exact hk b, fun e => ⟨_, hk true⟩⟩
end
/-- Two slices with room of their own: which of them stands first does not matter. -/
theorem Room.swap {G B H : Heap} {n m : Nat} {t s : Tag} (h : Room B n t H) (k : Room G m s B) : ∃ B' H', Room B' m s H' ∧ Room G n t B' ∧ Sub H' H := by
  rcases h with ⟨rfl, rfl⟩ | ⟨b1, e1, c1, rfl, h1, rfl⟩
  · exact ⟨G, H, k, .inl ⟨rfl, rfl⟩, fun _ _ h => h⟩
  · rcases k with ⟨rfl, rfl⟩ | ⟨b2, e2, c2, rfl, h2, rfl⟩
    · exact ⟨_, _, .inl ⟨rfl, rfl⟩, .inr ⟨b1, e1, c1, rfl, h1, rfl⟩, fun _ _ h => h⟩
    · obtain ⟨n1, n2⟩ := fresh_cons h1
      exact ⟨(b1, .top e1 c1) :: G, (b2, .top e2 c2) :: (b1, .top e1 c1) :: G, .inr ⟨b2, e2, c2, rfl, by rw [hget_cons_ne n1]; exact h2, rfl⟩, .inr ⟨b1, e1, c1, rfl, n2, rfl⟩, sub_swap (fun e => n1 e.symm)⟩
/-! ### regions that may be walked in two orders: two operations are ready, and each may be the first -/
section
variable {P : Program} {ops : Array Oper} {qs : Nat → Bool} {N : Nat}
theorem anyA_firstD {K : Kq} {i : Nat} {oi : Oper} {x : V} (hi : ops[i]? = some oi) (hqi : qs i = true) (D : Nat → Bool) (hD : ∀ j oj, D j = true → ops[j]? = some oj → ∃ e ∈ oj.after, Region.binds .any e = true ∧ (e.on = i ∨ D e.on = true)) : ∀ (n : Nat) (listed : Array Bool) (f : FF) (G : Heap),
    (∀ j, D j = true → listed[j]? = some false) → (∀ j oj, ops[j]? = some oj → j ≠ i → D j = false → listed.getD j true = false → (∀ e ∈ oj.after, Region.binds .any e = true → e.on ≠ i) → oi.apart ops oj = true ∧ commB (qs j) oi oj = true) →
    i ∈ Region.ready .any ops listed → Ans1 P ops oi f G x → anyA P ops qs K n (listed.setIfInBounds i true) (upd f oi.dst x) G → anyA P ops qs K (n + 1) listed f G := by
  intro n
  induction n with
  | zero =>
    intro listed f G _ _ hr hy H
    refine ⟨fun h => (by rw [h] at hr; cases hr), fun j hj => ?_⟩
    by_cases hji : j = i
    · subst hji; exact hy.aOp hi hqi H
    · have := ready_mono hj hji
      rw [H.1] at this
      cases this
  | succ n ih =>
    intro listed f G hdl hfree hr hy H
    refine ⟨fun h => (by rw [h] at hr; cases hr), fun j hj => ?_⟩
    by_cases hji : j = i
    · subst hji; exact hy.aOp hi hqi H
    · have h1 := H.2 j (ready_mono hj hji)
      obtain ⟨hjun, oj, hoj, hall⟩ := mem_ready.1 hj
      have hnot : ∀ e ∈ oj.after, Region.binds .any e = true → e.on ≠ i := fun e he hb heq => by
        have h1 := hall e he hb
        have h0 := (mem_ready.1 hr).1
        rw [heq] at h1
        rcases Nat.lt_or_ge i listed.size with h' | h'
        · simp [h'] at h0 h1; rw [h0] at h1; cases h1
        · simp [Array.getElem?_eq_none h'] at h1
      have hDj : D j = false := by
        cases hq : D j with
        | false => rfl
        | true =>
          obtain ⟨e, he, hb, hc⟩ := hD j oj hq hoj
          rcases hc with hc | hc
          · exact absurd hc (hnot e he hb)
          · have g1 := hall e he hb
            have g2 := hdl _ hc
            obtain ⟨h', g3⟩ := Array.getElem?_eq_some_iff.1 g2
            simp [h'] at g1
            rw [g3] at g1; cases g1
      obtain ⟨hap, hcm⟩ := hfree j oj hoj hji hDj hjun hnot
      have hdl' : ∀ k, D k = true → (listed.setIfInBounds j true)[k]? = some false := fun k hk => by
        by_cases e : j = k
        · subst e; rw [hDj] at hk; cases hk
        · rw [Array.getElem?_setIfInBounds_ne e]; exact hdl k hk
      have h2 := aOp_put (i := i) hoj hap hcm hy h1
      have hfree' : ∀ k ok, ops[k]? = some ok → k ≠ i → D k = false → (listed.setIfInBounds j true).getD k true = false → (∀ e ∈ ok.after, Region.binds .any e = true → e.on ≠ i) → oi.apart ops ok = true ∧ commB (qs k) oi ok = true := fun k ok hk hki hdk hun hno => by
        refine hfree k ok hk hki hdk ?_ hno
        by_cases hjk : j = k
        · subst hjk; exact hjun
        · rw [getD_set_ne true hjk] at hun; exact hun
      refine aOp_mono (fun f' G' h3 => ih (listed.setIfInBounds j true) f' G' hdl' hfree' (ready_mono hr (Ne.symm hji)) h3.1 ?_) h2
      rw [Array.setIfInBounds_comm _ _ hji]
      exact h3.2
end
/-- What can only be walked behind an operation. -/
def lateOf (ops : Array Oper) (i : Nat) : List Nat := (List.range ops.size).foldl (fun D j => match ops[j]? with
  | some oj => if oj.after.any (fun e => Region.binds .any e && (e.on == i || D.contains e.on)) then j :: D else D
  | none => D) []
def freeC (ops : Array Oper) (qs : Nat → Bool) (listed : Array Bool) (i : Nat) : Bool :=
  let D := lateOf ops i
  D.all (fun j => listed[j]? == some false && match ops[j]? with | some oj => oj.after.any (fun e => Region.binds .any e && (e.on == i || D.contains e.on)) | none => true) &&
  match ops[i]? with
  | none => false
  | some oi => (List.range ops.size).all fun j => j == i || D.contains j || listed.getD j true || match ops[j]? with
      | some oj => oj.after.any (fun e => Region.binds .any e && e.on == i) || (oi.apart ops oj && commB (qs j) oi oj)
      | none => true
def ordPre (ops : Array Oper) (qs : Nat → Bool) (E : Array Bool → Bool) : List (Nat × Bool) → Array Bool → Bool
  | [], listed => E listed
  | (i, q) :: σ, listed => (Region.ready .any ops listed).contains i && (qs i == q) && (if q then freeC ops qs listed i else Region.ready .any ops listed == [i]) && ordPre ops qs E σ (listed.setIfInBounds i true)
section
variable {P : Program} {N : Nat} {Q : Cont} {f : Frame} {G : Heap}
theorem rgD_anyP {ops : List Oper} {qs : Nat → Bool} {E : Array Bool → Bool} {K : Kf} {K' : Kq} {m : Nat} (hE : ∀ listed f G, E listed = true → K f G → anyA P ops.toArray qs K' m listed (fget f) G) : ∀ {σ : List (Nat × Bool)} {listed : Array Bool} {f : Frame} {G : Heap}, ordPre ops.toArray qs E σ listed = true → rgD P ops σ f G K →
    anyA P ops.toArray qs K' (σ.length + m) listed (fget f) G
  | [], listed, f, G, ho, h => by rw [List.length_nil, Nat.zero_add]; exact hE _ _ _ ho h
  | (i, q) :: σ, listed, f, G, ho, h => by
    rw [show ((i, q) :: σ).length + m = (σ.length + m) + 1 by simp only [List.length_cons]; omega]
    simp only [ordPre, Bool.and_eq_true, beq_iff_eq] at ho
    obtain ⟨⟨⟨hr, hqs⟩, hcase⟩, hrest⟩ := ho
    have hr' : i ∈ Region.ready .any ops.toArray listed := by simpa using hr
    unfold rgD at h
    cases ho' : ops[i]? with
    | none => rw [ho'] at h; exact h.elim
    | some o =>
      rw [ho'] at h
      simp only at h
      have hoA : ops.toArray[i]? = some o := by simpa using ho'
      have hrest' : ∀ x G', rgD P ops σ (fput f o.dst x) G' K → anyA P ops.toArray qs K' (σ.length + m) (listed.setIfInBounds i true) (upd (fget f) o.dst x) G' := fun x G' hk => by
        have := rgD_anyP hE hrest hk
        rw [fget_fput] at this; exact this
      cases q with
      | true =>
        simp only [if_true] at hcase
        simp only [freeC, hoA, Bool.and_eq_true] at hcase
        obtain ⟨hc1, hc2⟩ := hcase
        have hdl : ∀ j, (lateOf ops.toArray i).contains j = true → listed[j]? = some false := fun j hj => by
          have := List.all_eq_true.1 hc1 j (by simpa using hj)
          simp only [Bool.and_eq_true, beq_iff_eq] at this
          exact this.1
        have hD : ∀ j oj, (lateOf ops.toArray i).contains j = true → ops.toArray[j]? = some oj → ∃ e ∈ oj.after, Region.binds .any e = true ∧ (e.on = i ∨ (lateOf ops.toArray i).contains e.on = true) := fun j oj hj ho => by
          have := List.all_eq_true.1 hc1 j (by simpa using hj)
          simp only [Bool.and_eq_true, beq_iff_eq] at this
          have h2 := this.2
          rw [ho] at h2
          obtain ⟨e, he, hb⟩ := Array.any_eq_true'.1 h2
          simp only [Bool.and_eq_true, Bool.or_eq_true, beq_iff_eq] at hb
          exact ⟨e, he, hb.1, hb.2⟩
        have hfree : ∀ j oj, ops.toArray[j]? = some oj → j ≠ i → (lateOf ops.toArray i).contains j = false → listed.getD j true = false → (∀ e ∈ oj.after, Region.binds .any e = true → e.on ≠ i) → o.apart ops.toArray oj = true ∧ commB (qs j) o oj = true := by
          intro j oj hj hne hnd hun hno
          have h1 := List.all_eq_true.1 hc2 j (List.mem_range.2 (Array.getElem?_eq_some_iff.1 hj).1)
          simp only [hj, Bool.or_eq_true, beq_iff_eq, hne, false_or, hnd, hun, Bool.false_eq_true, Bool.and_eq_true] at h1
          rcases h1 with h1 | h1
          · obtain ⟨e, he, hb⟩ := Array.any_eq_true'.1 h1
            simp only [Bool.and_eq_true, beq_iff_eq] at hb
            exact absurd hb.2 (hno e he hb.1)
          · exact h1
        cases hg : o.guard with
        | none =>
          rw [hg] at h
          have h : quietK P (fget f) G o.op (fun x G => rgD P ops σ (fput f o.dst x) G K) := h
          obtain ⟨x, h1, h2⟩ := quietK_ev h
          refine anyA_firstD hoA hqs _ hD (σ.length + m) listed (fget f) G hdl hfree hr' (x := x) ?_ (hrest' _ _ h2)
          unfold Ans1; rw [hg]; exact h1
        | some jw =>
          obtain ⟨j, want⟩ := jw
          rw [hg] at h
          simp only at h
          split at h
          · rename_i d hgt
            have hgtA : (ops.toArray[j]?).bind (·.dst) = some d := by unfold gtmp at hgt; simpa using hgt
            split at h
            · rename_i g hb
              have h : quietG P g (fget f) G o.op (fun x G => rgD P ops σ (fput f o.dst x) G K) := h
              obtain ⟨x, h1, h2⟩ := quietG_ev h
              refine anyA_firstD hoA hqs _ hD (σ.length + m) listed (fget f) G hdl hfree hr' (x := .opt g x) ?_ (hrest' _ _ h2)
              unfold Ans1; rw [hg]; simp only; rw [hgtA]; simp only; rw [hb]; exact ⟨x, rfl, h1⟩
            · exact h.elim
          · exact h.elim
      | false =>
        simp only [Bool.false_eq_true, if_false, beq_iff_eq] at hcase
        refine ⟨fun h0 => (by rw [h0] at hr'; cases hr'), fun k hk => ?_⟩
        have hki : k = i := by rw [hcase] at hk; simpa using hk
        subst hki
        unfold aOp
        rw [hoA]
        refine gsem_mono (fun x G' hk => hrest' x G' hk) ?_
        unfold gsem
        cases hg : o.guard with
        | none =>
          rw [hg] at h
          simp only [sem, hqs, Bool.false_eq_true, if_false]
          exact h
        | some jw =>
          obtain ⟨j, want⟩ := jw
          rw [hg] at h
          simp only at h ⊢
          split at h
          · rename_i d hgt
            have hgtA : (ops.toArray[j]?).bind (·.dst) = some d := by unfold gtmp at hgt; simpa using hgt
            rw [hgtA]
            simp only
            split at h
            · rename_i g hb
              try simp only [hb]
              simp only [gs, hqs, Bool.false_eq_true, if_false]
              exact h
            · exact h.elim
          · exact h.elim

def ordC (ops : Array Oper) (σ : List (Nat × Bool)) : Bool := (σ.length == ops.size) && ordPre ops (qOf σ) (fun listed => (Region.ready .any ops listed).isEmpty) σ (Array.replicate ops.size false)
theorem aw_region_drawC {id : Nat} {ops : List Oper} (σ : List (Nat × Bool)) (hmx : P.follows .mixedOrders = true) (hd : ops.all (dstOk N) = true) (ho : ordC ops.toArray σ = true) (h : rgD P ops σ f G (fun f G => Q .normal f G)) : AW P N (.region id ops.toArray true) Q f G := by
  intro E M w a hm hr hn hdf
  simp only [ordC, Bool.and_eq_true, beq_iff_eq] at ho
  have hany := rgD_anyP (K' := fun φ G => ∃ f : Frame, fget f = φ ∧ Q .normal f G) (m := 0) (fun listed f G he hk => ⟨by simpa using he, f, rfl, hk⟩) ho.2 h
  refine wp_region_any hmx ?_
  rw [← ho.1]
  refine anyA_ok (N := N) (E := E) (M := M) (fun i o hi => ?_) (by rw [ho.1]; rw [ho.1] at hany; exact hany) hm.drew hr hn hdf fun M' f' G' a' w' k1 k2 k3 k4 k5 k6 => ?_
  · have := List.all_eq_true.1 hd o (by simp at hi; exact List.mem_of_getElem? hi)
    exact this
  · obtain ⟨f2, rfl, hq⟩ := k6
    exact ⟨M', f2, G', k1, k2, k3, k4, k5, hq⟩
theorem aw_srdC {id : Nat} {l : List Oper} {y : Code} (σ : List (Nat × Bool)) (hmx : P.follows .mixedOrders = true) (hd : l.all (dstOk N) = true) (ho : ordC l.toArray σ = true) (h : go P l (.d σ) f G (fun f G => AW P N y Q f G)) : AW P N (.seq (.region id l.toArray true) y) Q f G :=
  aw_seq' (aw_region_drawC σ hmx hd ho h)
theorem aw_rgdC {id : Nat} {l : List Oper} (σ : List (Nat × Bool)) (hmx : P.follows .mixedOrders = true) (hd : l.all (dstOk N) = true) (ho : ordC l.toArray σ = true) (h : go P l (.d σ) f G (fun f G => Q .normal f G)) : AW P N (.region id l.toArray true) Q f G := aw_region_drawC σ hmx hd ho h
theorem rgD_one {ops : List Oper} {qs : Nat → Bool} {i n : Nat} {τ : List (Nat × Bool)} {K : Kf} {K' : Kq} {listed : Array Bool} (hqs : qs i = false) (h : rgD P ops ((i, false) :: τ) f G K) (hr : ∀ f G, rgD P ops τ f G K → anyA P ops.toArray qs K' n listed (fget f) G) :
    aOp P ops.toArray qs i (anyA P ops.toArray qs K' n listed) (fget f) G := by
  unfold rgD at h
  cases ho' : ops[i]? with
  | none => rw [ho'] at h; exact h.elim
  | some o =>
    rw [ho'] at h
    simp only at h
    have hoA : ops.toArray[i]? = some o := by simpa using ho'
    unfold aOp
    rw [hoA]
    have hrest' : ∀ x G', rgD P ops τ (fput f o.dst x) G' K → anyA P ops.toArray qs K' n listed (upd (fget f) o.dst x) G' := fun x G' hk => by
      have := hr _ _ hk
      rw [fget_fput] at this; exact this
    refine gsem_mono (fun x G' hk => hrest' x G' hk) ?_
    unfold gsem
    cases hg : o.guard with
    | none =>
      rw [hg] at h
      simp only [sem, hqs, Bool.false_eq_true, if_false]
      exact h
    | some jw =>
      obtain ⟨j, want⟩ := jw
      rw [hg] at h
      simp only at h ⊢
      split at h
      · rename_i d hgt
        have hgtA : (ops.toArray[j]?).bind (·.dst) = some d := by unfold gtmp at hgt; simpa using hgt
        rw [hgtA]
        simp only
        split at h
        · rename_i g hb
          try simp only [hb]
          simp only [gs, hqs, Bool.false_eq_true, if_false]
          exact h
        · exact h.elim
      · exact h.elim
def ordFork (ops : Array Oper) (σ : List (Nat × Bool)) (i j : Nat) (τ1 τ2 : List (Nat × Bool)) : Bool :=
  let qs := qOf (σ ++ (i, false) :: (j, false) :: (τ1 ++ τ2))
  (σ.length + (τ1.length + 1) == ops.size) && (τ1.length == τ2.length) && (qs i == false) && (qs j == false) &&
    ordPre ops qs (fun listed => Region.ready .any ops listed == [i, j] && ordFrom ops qs τ1 (listed.setIfInBounds i true) && ordFrom ops qs τ2 (listed.setIfInBounds j true)) σ (Array.replicate ops.size false)
theorem aw_region_fork {id : Nat} {ops : List Oper} (σ : List (Nat × Bool)) (i j : Nat) (τ1 τ2 : List (Nat × Bool)) (hmx : P.follows .mixedOrders = true) (hd : ops.all (dstOk N) = true) (ho : ordFork ops.toArray σ i j τ1 τ2 = true)
    (h : rgD P ops σ f G (fun f G => rgD P ops ((i, false) :: τ1) f G (fun f G => Q .normal f G) ∧ rgD P ops ((j, false) :: τ2) f G (fun f G => Q .normal f G))) : AW P N (.region id ops.toArray true) Q f G := by
  intro E M w a hm hr hn hdf
  simp only [ordFork, Bool.and_eq_true, beq_iff_eq] at ho
  obtain ⟨⟨⟨⟨o1, o2⟩, o3⟩, o4⟩, o5⟩ := ho
  have hany := rgD_anyP (K' := fun φ G => ∃ f : Frame, fget f = φ ∧ Q .normal f G) (m := τ1.length + 1) (fun listed f G he hk => by
    simp only [Bool.and_eq_true, beq_iff_eq] at he
    obtain ⟨⟨e1, e2⟩, e3⟩ := he
    refine ⟨fun h0 => (by rw [e1] at h0; cases h0), fun k hk' => ?_⟩
    rw [e1] at hk'
    rcases List.mem_cons.1 hk' with rfl | hk'
    · exact rgD_one o3 hk.1 fun f G hh => rgD_any e2 hh
    · rw [List.mem_singleton] at hk'
      subst hk'
      exact rgD_one o4 hk.2 fun f G hh => by have := rgD_any e3 hh; rw [← o2] at this; exact this) o5 h
  refine wp_region_any hmx ?_
  rw [← o1]
  refine anyA_ok (N := N) (E := E) (M := M) (fun i o hi => ?_) (by rw [o1]; rw [o1] at hany; exact hany) hm.drew hr hn hdf fun M' f' G' a' w' k1 k2 k3 k4 k5 k6 => ?_
  · have := List.all_eq_true.1 hd o (by simp at hi; exact List.mem_of_getElem? hi)
    exact this
  · obtain ⟨f2, rfl, hq⟩ := k6
    exact ⟨M', f2, G', k1, k2, k3, k4, k5, hq⟩
theorem aw_rgf {id : Nat} {l : List Oper} (σ : List (Nat × Bool)) (i j : Nat) (τ1 τ2 : List (Nat × Bool)) (hmx : P.follows .mixedOrders = true) (hd : l.all (dstOk N) = true) (ho : ordFork l.toArray σ i j τ1 τ2 = true)
    (h : go P l (.d σ) f G (fun f G => go P l (.d ((i, false) :: τ1)) f G (fun f G => Q .normal f G) ∧ go P l (.d ((j, false) :: τ2)) f G (fun f G => Q .normal f G))) : AW P N (.region id l.toArray true) Q f G := aw_region_fork σ i j τ1 τ2 hmx hd ho h
end
end Go.Proofs.YtclmcpbanaojfaaV

/-
  Variables that a call has just made: named, and the heap behind them as one heap.
-/
namespace Go.Proofs.YtclmcpbanaojfaaV
set_option linter.unusedVariables false
set_option linter.unusedSimpArgs false
section
variable {P : Program} {N : Nat} {Q : Cont} {f : Frame} {G : Heap} {c : Code}
theorem aw_box1 {a : Nat} {X : AObj} (ha : hget G a = none) (h : ∀ B, Sub G B → hget B a = some X → AW P N c Q f B) : AW P N c Q f ((a, X) :: G) :=
  h _ (sub_tail ha) (hget_self _ _ _)
theorem aw_box2 {a b : Nat} {X Y : AObj} (ha : hget G a = none) (hb : hget ((a, X) :: G) b = none) (h : ∀ B, Sub G B → hget B a = some X → hget B b = some Y → ¬ a = b → ¬ b = a → AW P N c Q f B) : AW P N c Q f ((b, Y) :: (a, X) :: G) := by
  obtain ⟨n1, hb'⟩ := fresh_cons hb
  exact h _ (sub_fresh hb' (sub_tail ha)) (by rw [hget_cons_ne n1, hget_self]) (hget_self _ _ _) (fun e => n1 e.symm) n1
theorem aw_box3 {a b c' : Nat} {X Y Z : AObj} (ha : hget G a = none) (hb : hget ((a, X) :: G) b = none) (hc : hget ((b, Y) :: (a, X) :: G) c' = none)
    (h : ∀ B, Sub G B → hget B a = some X → hget B b = some Y → hget B c' = some Z → ¬ a = b → ¬ b = a → ¬ a = c' → ¬ c' = a → ¬ b = c' → ¬ c' = b → AW P N c Q f B) : AW P N c Q f ((c', Z) :: (b, Y) :: (a, X) :: G) := by
  obtain ⟨n1, hb'⟩ := fresh_cons hb
  obtain ⟨n2, hc'⟩ := fresh_cons hc
  obtain ⟨n3, hc''⟩ := fresh_cons hc'
  exact h _ (sub_fresh hc'' (sub_fresh hb' (sub_tail ha))) (by rw [hget_cons_ne n3, hget_cons_ne n1, hget_self]) (by rw [hget_cons_ne n2, hget_self]) (hget_self _ _ _) (fun e => n1 e.symm) n1 (fun e => n3 e.symm) n3 (fun e => n2 e.symm) n2
theorem aw_box4 {a b c' d : Nat} {X Y Z W : AObj} (ha : hget G a = none) (hb : hget ((a, X) :: G) b = none) (hc : hget ((b, Y) :: (a, X) :: G) c' = none) (hd : hget ((c', Z) :: (b, Y) :: (a, X) :: G) d = none)
    (h : ∀ B, Sub G B → hget B a = some X → hget B b = some Y → hget B c' = some Z → hget B d = some W → AW P N c Q f B) : AW P N c Q f ((d, W) :: (c', Z) :: (b, Y) :: (a, X) :: G) := by
  obtain ⟨n1, hb'⟩ := fresh_cons hb
  obtain ⟨n2, hc'⟩ := fresh_cons hc
  obtain ⟨n3, hc''⟩ := fresh_cons hc'
  obtain ⟨m1, hd1⟩ := fresh_cons hd
  obtain ⟨m2, hd2⟩ := fresh_cons hd1
  obtain ⟨m3, hd3⟩ := fresh_cons hd2
  exact h _ (sub_fresh hd3 (sub_fresh hc'' (sub_fresh hb' (sub_tail ha)))) (by rw [hget_cons_ne m3, hget_cons_ne n3, hget_cons_ne n1, hget_self]) (by rw [hget_cons_ne m2, hget_cons_ne n2, hget_self]) (by rw [hget_cons_ne m1, hget_self]) (hget_self _ _ _)
end
/-! ### a slice of this call's own making that grows: said of the heap as it is -/
/-- Room behind a slice, in heap H, beyond what G knows. -/
def Rm (G H : Heap) (n : Nat) (t : Tag) : Prop := t = .full ∨ ∃ b e c, t = .top n b e c ∧ hget H b = some (.top e c) ∧ hget G b = none
/-- Two slices have room apart. -/
def Dis (t t2 : Tag) : Prop := ∀ n b e c n2 e2 c2, t = .top n b e c → t2 = .top n2 b e2 c2 → False
/-- Behind an append: variables stay; so does the room of others. -/
def Grow (H : Heap) (t : Tag) (H' : Heap) (t' : Tag) : Prop := Stable H H' ∧ ∀ G n t2, Rm G H n t2 → Dis t t2 → Rm G H' n t2 ∧ Dis t' t2
theorem Rm.start (G H : Heap) (n : Nat) : Rm G H n .full := .inl rfl
theorem Rm.sub {G H H' : Heap} {n : Nat} {t : Tag} (h : Rm G H n t) (hs : Sub H H') : Rm G H' n t := by
  rcases h with h | ⟨b, e, c, h1, h2, h3⟩
  · exact .inl h
  · exact .inr ⟨b, e, c, h1, hs _ _ h2, h3⟩
theorem Rm.base {G G' H : Heap} {n : Nat} {t : Tag} (h : Rm G H n t) (hs : Sub G' G) : Rm G' H n t := by
  rcases h with h | ⟨b, e, c, h1, h2, h3⟩
  · exact .inl h
  · exact .inr ⟨b, e, c, h1, h2, sub_none hs h3⟩
theorem Rm.hset {G H : Heap} {n : Nat} {t : Tag} {b : Nat} {x o : AObj} (h : Rm G H n t) (hb : hget H b = some o) (ho : ∀ e c, o ≠ .top e c) : Rm G (hset H b x) n t := by
  rcases h with h | ⟨b', e, c, h1, h2, h3⟩
  · exact .inl h
  · refine .inr ⟨b', e, c, h1, ?_, h3⟩
    rw [hget_hset_ne (fun q => ?_)]
    · exact h2
    · subst q; rw [hb] at h2; exact ho e c (Option.some.inj h2)
theorem Dis.full (t : Tag) : Dis t .full := fun _ _ _ _ _ _ _ _ h => by cases h
theorem Dis.full' (t : Tag) : Dis .full t := fun _ _ _ _ _ _ _ h => by cases h
theorem Dis.symm {t s : Tag} (h : Dis t s) : Dis s t := fun n b e c n2 e2 c2 h1 h2 => h n2 b e2 c2 n e c h2 h1
theorem Grow.vars {H H' : Heap} {t t' : Tag} (h : Grow H t H' t') {b : Nat} {cs : List V} (hb : hget H b = some (.vars cs)) : hget H' b = some (.vars cs) := h.1 _ _ hb (fun _ _ q => by cases q)
theorem Grow.map {H H' : Heap} {t t' : Tag} (h : Grow H t H' t') {b : Nat} {cs : List (V × V)} (hb : hget H b = some (.map cs)) : hget H' b = some (.map cs) := h.1 _ _ hb (fun _ _ q => by cases q)
theorem Grow.rm {H H' : Heap} {t t' : Tag} (h : Grow H t H' t') {G : Heap} {n : Nat} {t2 : Tag} (h2 : Rm G H n t2) (hd : Dis t t2) : Rm G H' n t2 := (h.2 G n t2 h2 hd).1
section
variable {P : Program} {ops : List Oper} {f : Frame} {G H : Heap} {K : Kf} {d : Option Tmp} {r : Rest}
theorem goP_rm {n k : Nat} {z : V} {es ys : List (List V)} {nl : Bool} {t : Tag} (hr : Rm G H n t) (hs : Sub G H) (hc : appC n k z es ys)
    (h : ∀ t' H', Rm G H' n t' → Sub G H' → Grow H t H' t' → go P ops r (fput f d (.sl (es ++ ys) (nl && ys.isEmpty) t')) H' K) : goP P ops (appC n k z es ys) n es ys nl t d r f H K := by
  refine ⟨hc, .inl ⟨fun hy => ?_, fun hy => ?_⟩⟩
  · subst hy
    have := h t H hr hs ⟨Stable.refl H, fun G n t2 h2 hd => ⟨h2, hd⟩⟩
    simpa using this
  · have he : ys.isEmpty = false := by cases ys with | nil => exact absurd rfl hy | cons a l => rfl
    rw [he, Bool.and_false] at h
    rcases hr with rfl | ⟨b, e, c, rfl, hn, hgn⟩
    · intro b e c hb
      refine h _ _ (.inr ⟨b, e, c, rfl, hget_self _ _ _, sub_none hs hb⟩) (sub_fresh (sub_none hs hb) hs) ⟨Stable.cons hb, fun G2 n2 t2 h2 hd => ⟨h2.sub (sub_tail hb), ?_⟩⟩
      intro m b' e' c' n3 e3 c3 h3 h4
      cases h3
      rcases h2 with h2 | ⟨b2, e2, c2, h5, h6, _⟩
      · rw [h2] at h4; cases h4
      · rw [h5] at h4; cases h4; rw [hb] at h6; cases h6
    · refine ⟨⟨rfl, hn⟩, fun b' e' c' hb => ?_⟩
      have hkeep : ∀ x o, x ≠ b → hget H x = some o → hget ((b', AObj.top e' c') :: hdel H b) x = some o := by
        intro x o hx ho
        rw [hget_cons]
        split
        · rename_i q
          rcases hb with hb | rfl
          · rw [q, ho] at hb; cases hb
          · exact absurd q.symm hx
        · rw [hget_hdel_ne hx]; exact ho
      have hg' : hget G b' = none := by
        rcases hb with hb | rfl
        · exact sub_none hs hb
        · exact hgn
      refine h _ _ (.inr ⟨b', e', c', rfl, hget_self _ _ _, hg'⟩) (fun x o ho => ?_) ⟨fun x o ho hno => ?_, fun G2 n2 t2 h2 hd => ?_⟩
      · exact hkeep x o (fun q => by subst q; rw [hgn] at ho; cases ho) (hs _ _ ho)
      · exact hkeep x o (fun q => by subst q; rw [hn] at ho; exact hno e c (Option.some.inj ho).symm) ho
      · rcases h2 with h2 | ⟨b2, e2, c2, h5, h6, h7⟩
        · exact ⟨.inl h2, by rw [h2]; exact Dis.full _⟩
        · have hne : b2 ≠ b := fun q => by subst q; exact hd _ _ _ _ _ _ _ rfl h5
          refine ⟨.inr ⟨b2, e2, c2, h5, hkeep b2 _ hne h6, h7⟩, ?_⟩
          intro m b3 e3 c3 n4 e4 c4 h8 h9
          cases h8
          rw [h5] at h9
          cases h9
          rcases hb with hb | rfl
          · rw [h6] at hb; cases hb
          · exact hne rfl
end
/-! ### a region in its own order, some of its operations known to write nothing -/
section
variable {P : Program} {N : Nat} {Q : Cont} {f : Frame} {G : Heap}
theorem quietG_gstep {g : Bool} {f : FF} {G : Heap} {op : Op} {K : Kv} (h : quietG P g f G op K) : gstep P g f G op K := by
  unfold quietG at h
  unfold gstep
  cases hq : qv P (unF g f) G op with
  | some p => rw [hq] at h; exact h
  | none =>
    rw [hq] at h
    simp only at h ⊢
    cases g with
    | false =>
      refine ⟨fun e => (by cases e), fun _ => ?_⟩
      split at h
      · split at h
        · obtain ⟨x, _, hk⟩ := h; exact ⟨x, hk⟩
        · exact ⟨_, h.2⟩
      · exact ⟨_, h.2⟩
    | true =>
      refine ⟨fun _ => ?_, fun e => (by cases e)⟩
      split at h
      · rename_i c as_ ts
        split at h
        · rename_i g' xs ys zs h1 h2
          obtain ⟨x, hx, hk⟩ := h
          simp only [fx, h1, h2]
          exact (hx rfl).call hk
        · exact absurd h.1 (by simp)
      · exact absurd h.1 (by simp)
theorem stepV_of_quiet {f : FF} {G : Heap} {op : Op} {K : Kv} (h : quietK P f G op K) : stepV P f G op K := by
  obtain ⟨x, hq, hk⟩ := quietK_ev h
  exact hq.step hk
theorem rgD_rg {l : List Oper} {K : Kf} : ∀ (os : List Oper) (n : Nat) (σ : List (Nat × Bool)) (f : Frame) (G : Heap), l.drop n = os → σ.map (·.1) = (List.range os.length).map (· + n) → rgD P l σ f G K → rg P l os f G K
  | [], n, [], f, G, _, _, h => h
  | [], n, _ :: _, f, G, _, hs, _ => by simp at hs
  | o :: os, n, [], f, G, _, hs, _ => by simp [List.range_succ_eq_map] at hs
  | o :: os, n, (i, q) :: σ, f, G, hd, hs, h => by
    have hin : i = n ∧ σ.map (·.1) = (List.range os.length).map (· + (n + 1)) := by
      rw [List.length_cons, List.range_succ_eq_map, List.map_cons, List.map_cons] at hs
      simp only [List.cons.injEq, Nat.zero_add, List.map_map] at hs
      refine ⟨hs.1, hs.2.trans (List.map_congr_left fun a _ => ?_)⟩
      simp only [Function.comp_apply]; omega
    obtain ⟨rfl, hs'⟩ := hin
    have ho : l[i]? = some o := by
      have := congrArg (·[0]?) hd
      simpa using this
    have hd' : l.drop (i + 1) = os := by
      have := congrArg (·.drop 1) hd
      simpa using this
    unfold rgD at h
    unfold rg
    rw [ho] at h
    simp only at h
    cases hg : o.guard with
    | none =>
      rw [hg] at h
      simp only at h ⊢
      have h' : stepV P (fget f) G o.op (fun x G => rgD P l σ (fput f o.dst x) G K) := by
        cases q with
        | true => exact stepV_of_quiet h
        | false => exact h
      exact stepV_mono (fun x G hk => rgD_rg os (i + 1) σ _ G hd' hs' hk) h'
    | some jw =>
      obtain ⟨j, want⟩ := jw
      rw [hg] at h
      cases hgt : gtmp l j with
      | none => simp only [hgt] at h
      | some d =>
        simp only [hgt] at h ⊢
        cases hv : (fget f d).bind (gcond want) with
        | none => simp only [hv] at h
        | some g =>
          simp only [hv] at h ⊢
          have h' : gstep P g (fget f) G o.op (fun x G => rgD P l σ (fput f o.dst x) G K) := by
            cases q with
            | true => exact quietG_gstep h
            | false => exact h
          exact gstep_mono (fun x G hk => rgD_rg os (i + 1) σ _ G hd' hs' hk) h'
theorem aw_rgq {id : Nat} {l : List Oper} (σ : List (Nat × Bool)) (hd : l.all (dstOk N) = true) (hs : (σ.map (·.1) == List.range l.length) = true) (h : go P l (.d σ) f G (fun f G => Q .normal f G)) : AW P N (.region id l.toArray false) Q f G :=
  aw_region hd (rgD_rg l 0 σ f G rfl (by simpa using hs) h)
theorem aw_srq {id : Nat} {l : List Oper} {y : Code} (σ : List (Nat × Bool)) (hd : l.all (dstOk N) = true) (hs : (σ.map (·.1) == List.range l.length) = true) (h : go P l (.d σ) f G (fun f G => AW P N y Q f G)) : AW P N (.seq (.region id l.toArray false) y) Q f G :=
  aw_seq' (aw_rgq σ hd hs h)
end
theorem ne_fresh {G : Heap} {b b' : Nat} {o : AObj} (h : hget G b = some o) (hb : hget G b' = none) : ¬ b = b' := fun e => by subst e; rw [h] at hb; cases hb
theorem hset_keep {G : Heap} {b b' : Nat} {x o : AObj} (h : hget G b = some o) (hn : ¬ b = b') : hget (hset G b' x) b = some o := by rw [hget_hset_ne hn]; exact h
section
variable {P : Program} {N : Nat} {Q : Cont} {f : Frame} {G : Heap}
theorem aw_srf {id : Nat} {l : List Oper} {y : Code} (σ : List (Nat × Bool)) (i j : Nat) (τ1 τ2 : List (Nat × Bool)) (hmx : P.follows .mixedOrders = true) (hd : l.all (dstOk N) = true) (ho : ordFork l.toArray σ i j τ1 τ2 = true)
    (h : go P l (.d σ) f G (fun f G => go P l (.d ((i, false) :: τ1)) f G (fun f G => AW P N y Q f G) ∧ go P l (.d ((j, false) :: τ2)) f G (fun f G => AW P N y Q f G))) : AW P N (.seq (.region id l.toArray true) y) Q f G :=
  aw_seq' (aw_rgf σ i j τ1 τ2 hmx hd ho h)
end
/-! ### 'case a, b, c:' of a switch over a whole number -/
def chain1 : Code → Option (Tmp × Tmp × Tmp × IntKind × Int)
  | .region _ ops false => match ops.toList with
    | [⟨some d, .binOp .eql _ (.tmp x) (.const (.int k v)) _, _, _, _, none⟩, ⟨some t, .assign (.tmp d'), _, _, _, none⟩] => if d = d' then some (d, t, x, k, v) else none
    | _ => none
  | _ => none
def chainOf : Code → Option (Tmp × Tmp × IntKind × List Int × List Tmp)
  | .seq c (.cond (.tmp t') .skip rest) => match chain1 c, chainOf rest with
    | some (d, t, x, k, v), some (t2, x2, k2, vs, ds) => if t = t' ∧ t = t2 ∧ x = x2 ∧ k = k2 then some (t, x, k, v :: vs, d :: ds) else none
    | _, _ => none
  | c => match chain1 c with
    | some (d, t, x, k, v) => some (t, x, k, [v], [d])
    | none => none
section
variable {P : Program} {N : Nat} {Q : Cont} {f : Frame} {G : Heap}
theorem aw_chain1 {c : Code} {d t x : Tmp} {k : IntKind} {v n : Int} (hc : chain1 c = some (d, t, x, k, v)) (hd : d < N) (ht : t < N) (hx : fget f x = some (.int k n))
    (h : Q .normal ((t, .bool (decide (n = v))) :: (d, .bool (decide (n = v))) :: f) G) : AW P N c Q f G := by
  unfold chain1 at hc
  split at hc
  · rename_i id ops
    split at hc
    · rename_i d0 ty x0 k0 v0 ty2 t1 p1 a1 t0 d' t2 p2 a2 hl
      split at hc
      · rename_i hdd
        cases hc
        obtain rfl := hdd.symm
        have ho : ops = [⟨some d', .binOp .eql ty (.tmp x) (.const (.int k v)) ty2, t1, p1, a1, none⟩, ⟨some t, .assign (.tmp d'), t2, p2, a2, none⟩].toArray := by
          rw [← hl]
        rw [ho]
        refine aw_region (by simp [dstOk, hd, ht]) ?_
        simp only [rg, stepV, qv, ev, hx, ofConst, binV, if_true, binI, ok, fput, fget, true_and]
        exact h
      · cases hc
    · cases hc
  · cases hc
theorem aw_chain0 : ∀ {c : Code} {t x : Tmp} {k : IntKind} {vs : List Int} {ds : List Tmp} {n : Int} {f : Frame} {Q : Cont}, chainOf c = some (t, x, k, vs, ds) → (t :: ds).all (fun d => decide (d < N)) = true → (t :: ds).all (fun d => decide (d ≠ x)) = true → fget f x = some (.int k n) →
    (∀ f', (∀ i, (t :: ds).all (fun d => decide (d ≠ i)) = true → fget f' i = fget f i) → fget f' t = some (.bool (vs.any fun v => decide (n = v))) → Q .normal f' G) → AW P N c Q f G
  | .seq c (.cond (.tmp t') .skip rest), t, x, k, vs, ds, n, f, Q, hc, hN, hx, hn, h => by
    unfold chainOf at hc
    split at hc
    · rename_i d t1 x1 k1 v t2 x2 k2 vs2 ds2 h1 h2
      split at hc
      · rename_i he
        obtain ⟨rfl, rfl, rfl, rfl⟩ := he
        cases hc
        simp only [List.all_cons, Bool.and_eq_true, decide_eq_true_eq] at hN hx
        refine aw_seq fun K hK => aw_chain1 h1 hN.2.1 hN.1 hn (hK _ _ ?_)
        refine aw_if (b := decide (n = v)) (by simp [fget]) (fun e => aw_skip ?_) (fun e => ?_)
        · refine h _ (fun i hi => ?_) ?_
          · simp only [List.all_cons, Bool.and_eq_true, decide_eq_true_eq] at hi
            simp only [fget]
            rw [if_neg hi.1, if_neg hi.2.1]
          · simp only [fget, if_true, List.any_cons, e, Bool.true_or]
        · refine aw_chain0 (n := n) h2 (by rw [List.all_cons, Bool.and_eq_true]; exact ⟨decide_eq_true hN.1, hN.2.2⟩) (by rw [List.all_cons, Bool.and_eq_true]; exact ⟨decide_eq_true hx.1, hx.2.2⟩) ?_ fun f' hf ht => h f' (fun i hi => ?_) ?_
          · simp only [fget]; rw [if_neg hx.1, if_neg hx.2.1]; exact hn
          · simp only [List.all_cons, Bool.and_eq_true, decide_eq_true_eq] at hi
            rw [hf i (by rw [List.all_cons, Bool.and_eq_true]; exact ⟨decide_eq_true hi.1, hi.2.2⟩)]
            simp only [fget]
            rw [if_neg hi.1, if_neg hi.2.1]
          · rw [ht, List.any_cons, e, Bool.false_or]
      · cases hc
    · cases hc
  | .region a b e, t, x, k, vs, ds, n, f, Q, hc, hN, hx, hn, h => by
    unfold chainOf at hc
    split at hc
    · rename_i d t1 x1 k1 v h1
      cases hc
      simp only [List.all_cons, Bool.and_eq_true, decide_eq_true_eq] at hN hx
      refine aw_chain1 h1 hN.2.1 hN.1 hn (h _ (fun i hi => ?_) ?_)
      · simp only [List.all_cons, Bool.and_eq_true, decide_eq_true_eq] at hi
        simp only [fget]
        rw [if_neg hi.1, if_neg hi.2.1]
      · simp [fget]
    · cases hc
/-- The chain, and what follows it. -/
theorem aw_chain {c y : Code} {t x : Tmp} {k : IntKind} {vs : List Int} {ds : List Tmp} {n : Int} (hc : chainOf c = some (t, x, k, vs, ds)) (hN : (t :: ds).all (fun d => decide (d < N)) = true) (hx : (t :: ds).all (fun d => decide (d ≠ x)) = true)
    (hd : ds.all (fun d => (fget f d).isNone) = true) (hn : fget f x = some (.int k n)) (h : AW P N y Q ((t, .bool (vs.any fun v => decide (n = v))) :: f) G) : AW P N (.seq c y) Q f G := by
  refine aw_seq fun K hK => aw_chain0 hc hN hx hn fun f' hf ht => hK _ _ (h.sub (fun i v hv => ?_) (fun _ _ q => q))
  rw [fget] at hv
  split at hv
  · rename_i e; subst e; rw [ht]; exact hv
  · rename_i hne
    rw [hf i]
    · exact hv
    · rw [List.all_cons, Bool.and_eq_true]
      refine ⟨by simpa using hne, ?_⟩
      rw [List.all_eq_true] at hd ⊢
      intro d hm
      have := hd d hm
      rw [decide_eq_true_eq]
      intro e; subst e; rw [hv] at this; cases this
end
/-- A map is walked over no more. -/
theorem AW.unr {P : Program} {N : Nat} {Q : Cont} {f : Frame} {G : Heap} {c : Code} {m r : Nat} {kvs : List (V × V)} {todo : List Nat} {cur : Option Nat} (hb : hget G m = some (.mapr kvs r todo cur)) (h : AW P N c Q f (hset G m (.map kvs))) : AW P N c Q f G :=
  fun E M w a hm hr hn hd => h E M w a (hm.unr hb) hr hn hd
/-- Some whole number, whichever, and nothing changes. -/
def QI (P : Program) (g : FuncId) (args : List V) : Prop := ∀ G, ACall P g args (fun y G' => (∃ m, y = .int .i64 m) ∧ G' = G) G
theorem QI.weak {P : Program} {g : FuncId} {args : List V} (h : ∀ G, ACall P g args (fun y G' => (∃ m, Vle y (.int .i64 m)) ∧ Sub G G') G) : QI P g args :=
  fun G => ACall.weak ((h G).mono fun y G' ⟨⟨m, h1⟩, h2⟩ => ⟨.int .i64 m, G, h1, h2, ⟨m, rfl⟩, rfl⟩)
section
variable {P : Program} {ops : List Oper} {d : Option Tmp} {r : Rest} {f : Frame} {G : Heap} {K : Kf}
theorem goA_qi {g : FuncId} {xs : List V} (h : QI P g xs) (hk : ∀ m, go P ops r (fput f d (.int .i64 m)) G K) : goA P ops g xs d r f G K :=
  goA_by (h G) fun y G' ⟨⟨m, h1⟩, h2⟩ => by subst h1; subst h2; exact hk m
theorem goH_qi {n : FuncId} {xs : List V} {g : Bool} (h : g = true → QI P n xs) (hk : ∀ m, go P ops r (fput f d (.opt g (.int .i64 m))) G K) : goH P ops n xs g d r f G K :=
  ⟨fun e => (h e G).mono fun y G' ⟨⟨m, h1⟩, h2⟩ => by subst h1; subst h2; exact hk m, fun e => ⟨_, hk 0⟩⟩
end
/-! ### less is told of what stands in a frame, or in a variable -/
theorem Vle.slT {es fs : List (List V)} {nl : Bool} {t : Tag} (h : VleLL es fs) : Vle (.sl es nl t) (.sl fs nl t) := fun M v hr => by
  obtain ⟨hl0, hh⟩ := h.at
  cases hr with
  | sl es nl t a len cap sz g hl hc hn hz hs he hm hr ht =>
    refine .sl fs nl t a len cap sz g (by omega) hc hn hz hs (fun i hi => ?_) (fun ad h i hi => hm ad h i (by omega)) (fun i hi j hj => ?_) ht
    · rw [← (hh i (by omega) hi).at.1]; exact he i (by omega)
    · obtain ⟨e1, e2⟩ := (hh i (by omega) hi).at
      exact e2 j (by omega) hj _ _ (hr i (by omega) j (by omega))
theorem VleLL.refl : ∀ xs : List (List V), VleLL xs xs
  | [] => .nil
  | x :: xs => .cons (VleL.refl x) (VleLL.refl xs)
theorem VleLL.snoc {x y : List V} (h : VleL x y) : ∀ xs : List (List V), VleLL (xs ++ [x]) (xs ++ [y])
  | [] => .cons h .nil
  | a :: xs => .cons (VleL.refl a) (VleLL.snoc h xs)
def FLe : Frame → Frame → Prop
  | [], _ => True
  | (k, v) :: g, f => (∃ u, fget f k = some u ∧ Vle u v) ∧ FLe g f
theorem FLe.ok : ∀ {g f : Frame}, FLe g f → ∀ i v, fget g i = some v → ∃ u, fget f i = some u ∧ Vle u v
  | [], f, _, i, v, hv => by cases hv
  | (k, x) :: g, f, h, i, v, hv => by
    rw [fget] at hv
    split at hv
    · rename_i e; subst e; cases hv; exact h.1
    · exact FLe.ok h.2 i v hv
theorem AW.of_fle {P : Program} {N : Nat} {Q : Cont} {g f : Frame} {G : Heap} {c : Code} (h : FLe g f) (k : AW P N c Q g G) : AW P N c Q f G :=
  fun E M w a hm hr hn hd => k E M w a hm (fun i v hv => by
    obtain ⟨u, hu, hle⟩ := h.ok i v hv
    obtain ⟨h1, h2⟩ := hr i u hu
    exact ⟨h1, hle _ _ h2⟩) hn hd
theorem fle_same {f : Frame} {k : Nat} {v : V} (h : fget f k = some v) : ∃ u, fget f k = some u ∧ Vle u v := ⟨v, h, Vle.refl v⟩
theorem AW.hle {P : Program} {N : Nat} {Q : Cont} {f : Frame} {G : Heap} {c : Code} {b : Nat} {cs ds : List V} (hb : hget G b = some (.vars cs)) (hl : VleL cs ds) (h : AW P N c Q f (hset G b (.vars ds))) : AW P N c Q f G := by
  intro E M w a hm hr hn hd
  refine h E M w a ⟨hm.below, hm.base, hm.pm, fun b' o ho => ?_⟩ hr hn hd
  rcases hget_hset ho with ⟨rfl, rfl⟩ | ⟨hne, ho⟩
  · obtain ⟨g1, arr, T, fr, h1, h2, h3, h4, h5⟩ := hm.obj _ _ hb
    obtain ⟨e1, e2⟩ := hl.at
    exact ⟨g1, arr, T, fr, h1, by omega, fun i hi => e2 i (by omega) hi _ _ (h3 i (by omega)), by rw [← e1]; exact h4, h5⟩
  · exact hm.obj b' o ho
theorem Rm.slice {G H : Heap} {sz : Nat} {t : Tag} (h : Rm G H sz t) (l n : Nat) : sliceTag t sz l n n = t := by
  rcases h with rfl | ⟨b, e, c, rfl, _⟩
  · simp [sliceTag]
  · simp [sliceTag]
theorem toNat1 : Int.toNat 1 = 1 := rfl
theorem toNat2 : Int.toNat 2 = 2 := rfl
theorem take_map_len {A : Type} (g : A → List V) (l : List A) : (l.map g).take l.length = l.map g := by
  rw [← List.length_map (f := g), List.take_length]
theorem none_sub {G H : Heap} {b : Nat} (h : Sub G H) (hb : hget H b = none) : hget G b = none := sub_none h hb
end Go.Proofs.YtclmcpbanaojfaaV

/-
  Regions whose order is drawn and whose operations may not change places: a tree of orders.
-/
namespace Go.Proofs.YtclmcpbanaojfaaV
open Go.RowKit
set_option linter.unusedVariables false
set_option linter.unusedSimpArgs false
/-- A tree of orders: first some that may be first; then one of two, or of three. -/
inductive OT where
  | leaf (σ : List (Nat × Bool))
  | fork2 (σ : List (Nat × Bool)) (i j : Nat) (t u : OT)
  | fork3 (σ : List (Nat × Bool)) (i j k : Nat) (t u v : OT)
def OT.len : OT → Nat
  | .leaf σ => σ.length
  | .fork2 σ _ _ t _ => σ.length + (t.len + 1)
  | .fork3 σ _ _ _ t _ _ => σ.length + (t.len + 1)
def ordT (ops : Array Oper) (qs : Nat → Bool) : OT → Array Bool → Bool
  | .leaf σ, listed => ordPre ops qs (fun l => (Region.ready .any ops l).isEmpty) σ listed
  | .fork2 σ i j t u, listed => (t.len == u.len) && (qs i == false) && (qs j == false) && ordPre ops qs (fun l => Region.ready .any ops l == [i, j] && ordT ops qs t (l.setIfInBounds i true) && ordT ops qs u (l.setIfInBounds j true)) σ listed
  | .fork3 σ i j k t u v, listed => (t.len == u.len) && (t.len == v.len) && (qs i == false) && (qs j == false) && (qs k == false) && ordPre ops qs (fun l => Region.ready .any ops l == [i, j, k] && ordT ops qs t (l.setIfInBounds i true) && ordT ops qs u (l.setIfInBounds j true) && ordT ops qs v (l.setIfInBounds k true)) σ listed
def goTr (P : Program) (ops : List Oper) : OT → Frame → Heap → Kf → Prop
  | .leaf σ, f, G, K => go P ops (.d σ) f G K
  | .fork2 σ i j t u, f, G, K => go P ops (.d σ) f G (fun f G => go P ops (.d [(i, false)]) f G (fun f G => goTr P ops t f G K) ∧ go P ops (.d [(j, false)]) f G (fun f G => goTr P ops u f G K))
  | .fork3 σ i j k t u v, f, G, K => go P ops (.d σ) f G (fun f G => go P ops (.d [(i, false)]) f G (fun f G => goTr P ops t f G K) ∧ go P ops (.d [(j, false)]) f G (fun f G => goTr P ops u f G K) ∧ go P ops (.d [(k, false)]) f G (fun f G => goTr P ops v f G K))
section
variable {P : Program} {N : Nat} {Q : Cont} {f : Frame} {G : Heap}
theorem goTr_any {ops : List Oper} {qs : Nat → Bool} {K : Kf} : ∀ {t : OT} {listed : Array Bool} {f : Frame} {G : Heap}, ordT ops.toArray qs t listed = true → goTr P ops t f G K →
    anyA P ops.toArray qs (fun φ G => ∃ f : Frame, fget f = φ ∧ K f G) t.len listed (fget f) G
  | .leaf σ, listed, f, G, ho, h => by
    refine rgD_anyP (m := 0) (fun l f G he hk => ?_) ho h
    exact ⟨by simpa using he, f, rfl, hk⟩
  | .fork2 σ i j t u, listed, f, G, ho, h => by
    simp only [ordT, Bool.and_eq_true, beq_iff_eq] at ho
    obtain ⟨⟨⟨o1, o2⟩, o3⟩, o4⟩ := ho
    refine rgD_anyP (m := t.len + 1) (fun l f G he hk => ?_) o4 h
    simp only [Bool.and_eq_true, beq_iff_eq] at he
    obtain ⟨⟨e1, e2⟩, e3⟩ := he
    refine ⟨fun h0 => (by rw [e1] at h0; cases h0), fun k hk' => ?_⟩
    rw [e1] at hk'
    rcases List.mem_cons.1 hk' with rfl | hk'
    · exact rgD_one o2 hk.1 fun f G hh => goTr_any e2 hh
    · rw [List.mem_singleton] at hk'
      subst hk'
      exact rgD_one o3 hk.2 fun f G hh => by have := goTr_any e3 hh; rw [← o1] at this; exact this
  | .fork3 σ i j k t u v, listed, f, G, ho, h => by
    simp only [ordT, Bool.and_eq_true, beq_iff_eq] at ho
    obtain ⟨⟨⟨⟨⟨o1, o0⟩, o2⟩, o3⟩, o5⟩, o4⟩ := ho
    refine rgD_anyP (m := t.len + 1) (fun l f G he hk => ?_) o4 h
    simp only [Bool.and_eq_true, beq_iff_eq] at he
    obtain ⟨⟨⟨e1, e2⟩, e3⟩, e4⟩ := he
    refine ⟨fun h0 => (by rw [e1] at h0; cases h0), fun m hk' => ?_⟩
    rw [e1] at hk'
    rcases List.mem_cons.1 hk' with rfl | hk'
    · exact rgD_one o2 hk.1 fun f G hh => goTr_any e2 hh
    rcases List.mem_cons.1 hk' with rfl | hk'
    · exact rgD_one o3 hk.2.1 fun f G hh => by have := goTr_any e3 hh; rw [← o1] at this; exact this
    · rw [List.mem_singleton] at hk'
      subst hk'
      exact rgD_one o5 hk.2.2 fun f G hh => by have := goTr_any e4 hh; rw [← o0] at this; exact this
theorem aw_rgt {id : Nat} {l : List Oper} (qs : List (Nat × Bool)) (t : OT) (hmx : P.follows .mixedOrders = true) (hd : l.all (dstOk N) = true) (ho : (t.len == l.length && ordT l.toArray (qOf qs) t (Array.replicate l.toArray.size false)) = true)
    (h : goTr P l t f G (fun f G => Q .normal f G)) : AW P N (.region id l.toArray true) Q f G := by
  intro E M w a hm hr hn hdf
  simp only [Bool.and_eq_true, beq_iff_eq] at ho
  obtain ⟨o1, o2⟩ := ho
  have hany := goTr_any o2 h
  have o3 : t.len = l.toArray.size := by simpa using o1
  refine wp_region_any hmx ?_
  refine anyA_ok (N := N) (E := E) (M := M) (fun i o hi => ?_) (by rw [o3] at hany; exact hany) hm.drew hr hn hdf fun M' f' G' a' w' k1 k2 k3 k4 k5 k6 => ?_
  · have := List.all_eq_true.1 hd o (by simp at hi; exact List.mem_of_getElem? hi)
    exact this
  · obtain ⟨f2, rfl, hq⟩ := k6
    exact ⟨M', f2, G', k1, k2, k3, k4, k5, hq⟩
theorem aw_srt {id : Nat} {l : List Oper} {y : Code} (qs : List (Nat × Bool)) (t : OT) (hmx : P.follows .mixedOrders = true) (hd : l.all (dstOk N) = true) (ho : (t.len == l.length && ordT l.toArray (qOf qs) t (Array.replicate l.toArray.size false)) = true)
    (h : goTr P l t f G (fun f G => AW P N y Q f G)) : AW P N (.seq (.region id l.toArray true) y) Q f G :=
  aw_seq' (aw_rgt qs t hmx hd ho h)
theorem goG_offPick {ops : List Oper} {d : Option Tmp} {r : Rest} {K : Kf} (g : Bool) (c x y : Operand) : goG P ops none g true d (.pick c x y) r f G K = (g = false ∧ go P ops r (fput f d (.opt g .any)) G K) := rfl
attribute [go_sem] goG_offPick
end
end Go.Proofs.YtclmcpbanaojfaaV

/-
  A slice of the call's own that grows by elements which are written behind the append.
-/
namespace Go.Proofs.YtclmcpbanaojfaaV
open Go.RowKit
set_option linter.unusedVariables false
set_option linter.unusedSimpArgs false

/-- What is known is there yet. -/
def Dom (G H : Heap) : Prop := ∀ b, hget H b = none → hget G b = none
theorem Dom.refl (G : Heap) : Dom G G := fun _ h => h
theorem Dom.sub {G H H' : Heap} (h : Dom G H) (hs : Sub H H') : Dom G H' := fun b hb => h b (sub_none hs hb)
theorem Dom.hset {G H : Heap} (h : Dom G H) {b : Nat} {x : AObj} : Dom G (hset H b x) := fun k hk => by
  refine h k ?_
  by_cases e : k = b
  · subst e
    cases q : hget H k with
    | none => rfl
    | some o => rw [hget_hset_self q] at hk; cases hk
  · rw [hget_hset_ne e] at hk; exact hk
theorem Dom.kb {G H : Heap} (h : Dom G H) {br : Nat} {o : AObj} {H' : Heap} (hk : ∀ b o, ¬ b = br → hget H b = some o → hget H' b = some o) (hb : hget H' br = some o) : Dom G H' := fun b hb' => by
  refine h b ?_
  cases q : hget H b with
  | none => rfl
  | some x =>
    by_cases e : b = br
    · subst e; rw [hb] at hb'; cases hb'
    · rw [hk b x e q] at hb'; cases hb'
def pad (k n : Nat) : List V := List.replicate (k * n) .any
theorem pad_length (k n : Nat) : (pad k n).length = k * n := by simp [pad]
theorem wid_flat {n : Nat} {es : List (List V)} (h : wid n es) : es.flatten.length = es.length * n := flatten_length h
/-- X: no slice yet, or one that is written yet, of these elements. -/
def Buf (G0 H : Heap) (n : Nat) (es : List (List V)) (X : V) : Prop :=
  (es = [] ∧ X = .sl [] true .full) ∨ (es ≠ [] ∧ ∃ b c, X = .ms b 0 es.length c ∧ es.length ≤ c ∧ wid n es ∧ hget H b = some (.vars (es.flatten ++ pad (c - es.length) n)) ∧ hget G0 b = none)
theorem Buf.start (G0 H : Heap) (n : Nat) : Buf G0 H n [] (.sl [] true .full) := .inl ⟨rfl, rfl⟩
theorem Buf.sub {G0 H H' : Heap} {n : Nat} {es : List (List V)} {X : V} (h : Buf G0 H n es X) (hs : Sub H H') : Buf G0 H' n es X := by
  rcases h with h | ⟨h1, b, c, h2, h3, h4, h5, h6⟩
  · exact .inl h
  · exact .inr ⟨h1, b, c, h2, h3, h4, hs _ _ h5, h6⟩
theorem Buf.base {G0 G1 H : Heap} {n : Nat} {es : List (List V)} {X : V} (h : Buf G0 H n es X) (hs : Sub G1 G0) : Buf G1 H n es X := by
  rcases h with h | ⟨h1, b, c, h2, h3, h4, h5, h6⟩
  · exact .inl h
  · exact .inr ⟨h1, b, c, h2, h3, h4, h5, sub_none hs h6⟩
/-- Another variable, that stood there ahead, is written. -/
theorem Buf.hset {G0 H : Heap} {n : Nat} {es : List (List V)} {X : V} {b : Nat} {x o : AObj} (h : Buf G0 H n es X) (hb : hget G0 b = some o) : Buf G0 (hset H b x) n es X := by
  rcases h with h | ⟨h1, b', c, h2, h3, h4, h5, h6⟩
  · exact .inl h
  · exact .inr ⟨h1, b', c, h2, h3, h4, hset_keep h5 (fun e => by subst e; rw [hb] at h6; cases h6), h6⟩
theorem Buf.plain {G0 H : Heap} {n : Nat} {es : List (List V)} {X : V} (h : Buf G0 H n es X) : plainV X = true ∧ scalarV X = true ∧ cellsV X = [X] := by
  rcases h with ⟨_, rfl⟩ | ⟨_, b, c, rfl, _⟩ <;> exact ⟨rfl, rfl, rfl⟩
/-- The element behind is written. -/
theorem Buf.put {G0 H : Heap} {n : Nat} {es : List (List V)} {b c : Nat} {cs y1 : List V} (hw : wid n es) (hc : es.length < c) (hl : cs.length = n) (h1 : y1.length = n) (hb : hget H b = some (.vars (es.flatten ++ (y1 ++ pad (c - (es.length + 1)) n)))) (hg : hget G0 b = none) :
    Buf G0 (Go.Proofs.YtclmcpbanaojfaaV.hset H b (.vars (setMany (es.flatten ++ (y1 ++ pad (c - (es.length + 1)) n)) (es.length * n) cs))) n (es ++ [cs]) (.ms b 0 (es.length + 1) c) := by
  refine .inr ⟨by simp, b, c, by simp, by simp; omega, by simp [hw, hl], ?_, hg⟩
  rw [hget_hset_self hb]
  congr 2
  rw [← wid_flat hw, setMany_append _ _ _ _ (by rw [h1, hl]), List.flatten_append, List.flatten_singleton, List.append_assoc, List.length_append, List.length_singleton]
section
variable {P : Program} {ops : List Oper} {d : Option Tmp} {r : Rest} {f : Frame} {G0 H : Heap} {K : Kf}
theorem pad_succ {a b n : Nat} (h : a = b + 1) : pad a n = List.replicate n V.any ++ pad b n := by
  rw [pad, pad, h, Nat.add_mul, Nat.one_mul, Nat.add_comm, List.replicate_append_replicate]
/-- An element is appended that is written then. -/
theorem goP1_buf {X Y : V} {e n k : Nat} {ty : TypeId} {es : List (List V)} {y0 : List V} {z : V} (hB : Buf G0 H n es X) (hs : Dom G0 H) (hsrc : srcV P ty Y = some [y0]) (hk : tbytes P e = some k) (hz : tzero P e = some z)
    (hc : plainV z = true ∧ (cellsV z).length = n ∧ 0 < n ∧ y0.length = n ∧ y0.all scalarV = true ∧ (es.length + 1) * k ≤ 140737488355328 ∧ es.length + 1 ≤ 9223372036854775807)
    (h : ∀ b c H' y1, Sub H H' → hget G0 b = none → es.length < c → wid n es → y1.length = n → hget H' b = some (.vars (es.flatten ++ (y1 ++ pad (c - (es.length + 1)) n))) → go P ops r (fput f d (.ms b 0 (es.length + 1) c)) H' K) :
    goP1 P ops (some X) (some Y) (some (e, n)) ty d r f H K := by
  obtain ⟨c1, c2, c3, c4, c5, c6, c7⟩ := hc
  have hw1 : wid n [y0] := wid_one c4
  have hs1 : sca [y0] := sca_one c5
  rcases hB with ⟨rfl, rfl⟩ | ⟨hne, b, c, rfl, hlc, hw, hb, hg⟩
  · show goP2 P ops ty Y [] true .full n (srcV P ty Y) (tbytes P e) (tzero P e) d r f H K
    rw [hsrc, hk, hz]
    refine ⟨⟨c1, c2, c3, by simp, hw1, hs1, by simpa using c6, by simp⟩, .inr ⟨rfl, rfl, by simp, fun b c hb hc => ?_⟩⟩
    refine h b c _ y0 (sub_tail hb) (hs b hb) hc (by simp) c4 ?_
    rw [hget_self, List.flatten_singleton]; rfl
  · show goPm P ops b 0 es.length c n (srcV P ty Y) (tbytes P e) (tzero P e) d r f H K
    rw [hsrc, hk, hz]
    have hfl := wid_flat hw
    have hpl : (pad (c - es.length) n).length = (c - es.length) * n := pad_length _ _
    refine ⟨⟨c1, c2, c3, hw1, hs1, c6, c7, by simp⟩, _, hb, ?_, fun i h1 h2 => ?_, fun hle => ?_, fun hlt b' c' hb' hc' => ?_⟩
    · rw [List.length_append, hfl, hpl, ← Nat.add_mul, Nat.zero_add, show es.length + (c - es.length) = c by omega]; exact Nat.le_refl _
    · rw [Nat.zero_add, List.getElem?_append_right (by omega), pad, List.getElem?_replicate, if_pos]
      rw [hfl, Nat.sub_mul]; omega
    · have hle : es.length + 1 ≤ c := hle
      refine h b c H (List.replicate n .any) sub_rfl hg hle hw (by simp) ?_
      rw [← pad_succ (show c - es.length = (c - (es.length + 1)) + 1 by omega)]; exact hb
    · have hlt : c < es.length + 1 := hlt
      have hcc : c = es.length := by omega
      subst hcc
      have hc' : es.length + 1 ≤ c' := hc'
      refine h b' c' _ (List.replicate n .any) (sub_tail hb') (hs b' hb') hc' hw (by simp) ?_
      rw [← pad_succ (show c' - es.length = (c' - (es.length + 1)) + 1 by omega), hget_self, List.drop_zero, ← hfl, List.take_left, pad]
end
/-- It is written no more. -/
theorem turn_buf {H : Heap} {b n c sz : Nat} {es : List (List V)} {rest : List V} {x y : V} (hb : hget H b = some (.vars (es.flatten ++ rest))) (hn : es.length = n) (hw : wid sz es) (h : Fz b n c es x y) : Turn x H y (hdel H b) := by
  have h1 : Turn x ((b, .vars es.flatten) :: hdel H b) y (hdel H b) := by
    refine turn_ms ?_ hn hw h
    cases e : hget (hdel H b) b with
    | none => rfl
    | some o => exact absurd rfl (hget_hdel e).1
  intro E M w v hm hr
  refine h1 E M w v ⟨hm.below, hm.base, hm.pm, fun b' o ho => ?_⟩ hr
  rw [hget_cons] at ho
  split at ho
  · rename_i e
    subst e
    cases ho
    obtain ⟨hB, arr, T, fr, g1, g2, g3, g4, g5⟩ := hm.obj _ _ hb
    rw [List.length_append] at g2 g4
    refine ⟨hB, arr, T, fr, g1, by omega, fun i hi => ?_, fun i q1 q2 => g4 i q1 (by omega), g5⟩
    have := g3 i (by rw [List.length_append]; omega)
    rw [List.getElem_append_left hi] at this
    exact this
  · exact hm.obj _ _ (hget_hdel ho).2
/-- A variable's slice is written no more. -/
theorem AW.freeze {P : Program} {N : Nat} {Q : Cont} {f : Frame} {c : Code} {G0 H : Heap} {n b3 : Nat} {es : List (List V)} {X : V} {pre post : List V} (hB : Buf G0 H n es X) (h3 : hget H b3 = some (.vars (pre ++ X :: post))) (hg3 : ¬ hget G0 b3 = none)
    (h : ∀ H2, (∀ b o, ¬ b = b3 → ¬ hget G0 b = none → hget H b = some o → hget H2 b = some o) → hget H2 b3 = some (.vars (pre ++ .sl es es.isEmpty .no :: post)) → AW P N c Q f H2) : AW P N c Q f H := by
  rcases hB with ⟨rfl, rfl⟩ | ⟨h1, b, cp, rfl, hlc, hw, hb, hg⟩
  · refine AW.hle (ds := pre ++ .sl [] true .no :: post) h3 ?_ (h _ (fun b o hn _ ho => hset_keep ho hn) (hget_hset_self h3))
    exact (VleL.refl pre).append (.cons Vle.untag (VleL.refl post))
  · have hne : ¬ b = b3 := fun e => hg3 (by rw [← e]; exact hg)
    have hie : es.isEmpty = false := by cases es with | nil => exact absurd rfl h1 | cons a l => rfl
    have h3' : hget (hdel H b) b3 = some (.vars (pre ++ .ms b 0 es.length cp :: post)) := by rw [hget_hdel_ne (fun e => hne e.symm)]; exact h3
    have hA := h (hset (hdel H b) b3 (.vars (pre ++ .sl es es.isEmpty .no :: post))) (fun k o hn hk ho => hset_keep (by rw [hget_hdel_ne (fun e => by subst e; exact hk hg)]; exact ho) hn) (hget_hset_self h3')
    intro E M w a hm hf hs hd
    obtain ⟨hB3, arr3, T3, fr3, u1, u2, u3, u4, u5⟩ := hm.obj _ _ h3
    have hf1 : ∀ (k : Nat) (hk : k < (V.ms b 0 es.length cp :: post).length), Fz b es.length cp es (V.ms b 0 es.length cp :: post)[k] ((V.sl es false .no :: post)[k]?.getD V.any) := by
      intro k hk
      cases k with
      | zero => exact .ms _ rfl
      | succ k =>
        have hlt2 : k < post.length := by simp at hk; omega
        simp only [List.getElem_cons_succ, List.getElem?_cons_succ]
        rw [List.getElem?_eq_getElem hlt2]; exact .same _
    have hT := turn_buf (sz := n) (c := cp) (x := .agg (pre ++ .ms b 0 es.length cp :: post)) (y := .agg (pre ++ .sl es false .no :: post)) hb rfl hw (.agg _ _ (by simp) fun i hi => by
      rw [List.getD_eq_getElem?_getD]
      by_cases hlt : i < pre.length
      · rw [List.getElem_append_left hlt, List.getElem?_append_left hlt, List.getElem?_eq_getElem hlt]; exact .same _
      · rw [List.getElem_append_right (by omega), List.getElem?_append_right (by omega)]
        exact hf1 _ _)
    have hr3 : Rep M (.agg (pre ++ .ms b 0 es.length cp :: post)) (.agg (arr3.extract 0 (pre ++ V.ms b 0 es.length cp :: post).length)) := by
      refine .agg _ _ (by simp only [Array.size_extract]; omega) fun i hi => ?_
      have := u3 i hi
      rw [Array.getD_eq_getD_getElem?] at this ⊢
      rw [Array.getElem?_extract, if_pos (by omega), Nat.zero_add]; exact this
    obtain ⟨M', g1, g2, g3⟩ := hT E M w _ hm hr3
    have hm2 : Mem E M' (hset (hdel H b) b3 (.vars (pre ++ .sl es es.isEmpty .no :: post))) w := by
      refine ⟨g2.below, g2.base, g2.pm, fun k o ho => ?_⟩
      rcases hget_hset ho with ⟨rfl, rfl⟩ | ⟨hn, ho⟩
      · obtain ⟨_, arr4, T4, fr4, v1, v2, v3, v4, v5⟩ := g2.obj _ _ h3'
        rw [u1] at v1
        cases v1
        rw [hie]
        refine ⟨hB3, arr3, T3, fr3, u1, by simpa using v2, fun i hi => ?_, by simpa using v4, v5⟩
        obtain ⟨vs, e1, e2⟩ := g3.agg_inv
        cases e1
        have := e2.2 i hi
        rw [List.getD_eq_getElem?_getD, Array.getElem?_toList, Array.getElem?_extract] at this
        have hi' : i < (pre ++ V.ms b 0 es.length cp :: post).length := by simpa using hi
        rw [if_pos (by omega), Nat.zero_add] at this
        rw [Array.getD_eq_getD_getElem?]; exact this
      · exact g2.obj _ _ ho
    exact wp_mono (hA E M' w a hm2 (hf.mono g1) hs hd) (fun e a w => lift_mono g1 e a w)
end Go.Proofs.YtclmcpbanaojfaaV

/-
  Room that is made ahead of what is put there: append of so many zeros, cut to nothing.
-/
namespace Go.Proofs.YtclmcpbanaojfaaV
open Go.RowKit
set_option linter.unusedVariables false
set_option linter.unusedSimpArgs false
section
variable {P : Program} {ops : List Oper} {d : Option Tmp} {r : Rest} {f : Frame} {G : Heap} {K : Kf}
theorem goP2_make {ty : TypeId} {m : Int} {nl : Bool} {n k : Nat} {z : V} (hc : kindIs P ty isIntT = true ∧ 0 < m ∧ m * k ≤ 140737488355328 ∧ m ≤ 9223372036854775807 ∧ plainV z = true ∧ (cellsV z).length = n ∧ 0 < n)
    (h : ∀ b c, hget G b = none → m.toNat ≤ c → go P ops r (fput f d (.ms b 0 m.toNat c)) ((b, .vars (List.replicate (c * n) .any)) :: G) K) : goP2 P ops ty (.int .i64 m) [] nl .full n none (some k) (some z) d r f G K :=
  ⟨⟨hc.1, rfl, rfl, hc.2.1, hc.2.2.1, hc.2.2.2.1, hc.2.2.2.2.1, hc.2.2.2.2.2.1, hc.2.2.2.2.2.2⟩, h⟩
end
/-- Room of the call's own, none of which is filled. -/
theorem turn_top {G : Heap} {b c n : Nat} {cs : List V} (hl : c * n ≤ cs.length) : Turn (.ms b 0 0 c) ((b, .vars cs) :: G) (.sl [] false (.top n b 0 (c * n))) ((b, .top 0 (c * n)) :: G) := by
  intro E M w v hm hr
  obtain ⟨hB, arr, T, fr, h1, h2, h3, h4, h5⟩ := hm.obj b _ (hget_self b _ G)
  refine ⟨M, M.le_refl, ⟨hm.below, hm.base, hm.pm, fun b' ob hob => ?_⟩, ?_⟩
  · rw [hget_cons] at hob
    split at hob
    · rename_i e
      subst e
      cases hob
      exact ⟨hB, arr, T, fr, h1, by omega, fun i q1 q2 => h4 i q1 (by omega), fun o _ => h5 o⟩
    · rename_i e
      exact hm.obj b' ob (by rw [hget_cons_ne e]; exact hob)
  · obtain ⟨rfl, hc⟩ := hr.ms_inv
    exact .sl [] false _ _ 0 c n (fun _ _ => undef) rfl (Nat.zero_le _) rfl (fun h => by cases h) (fun ad h _ => by cases h; rfl) (fun i h => absurd h (by simp)) (fun _ _ i h => absurd h (by simp)) (fun i h => absurd h (by simp))
      ⟨rfl, _, rfl, .inr ⟨rfl, by simp, by simp⟩⟩
end Go.Proofs.YtclmcpbanaojfaaV

/-
  The kit's contracts as calls of this logic; a row whose cells a call turned.
-/
namespace Go.Proofs.YtclmcpbanaojfaaV
open Go.RowKit Go.Sort
set_option linter.unusedVariables false
set_option linter.unusedSimpArgs false
theorem ACall.of_calls {P : Program} {g : FuncId} {args : List V} {Q : V → Heap → Prop} {G : Heap} {fn : Func} {c : Code} (hf : P.funcs[g]? = some fn) (hb : fn.body = some c) (hname : (fn.name == "runtime.NumGoroutine") = false)
    (h : ∀ E M w (vs : Array Value), Mem E M G w → RepL M args vs.toList → Calls P g vs w (fun e w' => ∃ v, e = .returned v ∧ APost E M Q v w')) : ACall P g args Q G := by
  intro E M w vs hm hrep o a next Q' hn
  have hcall : (callFunc g vs).run P w = .ok (.enter g vs) w := by
    simp only [callFunc, Sem.run_bind, run_program, Result.andThen_ok, hf, hname, hb, Bool.false_eq_true, if_false, Option.isNone_some, Sem.run_pure]
  rw [hcall, Oper.upon_enter]
  refine (h E M w vs hm hrep).mono ?_
  rintro e w' ⟨v, rfl, hp⟩
  exact hn v w' hp
section
variable {E : Env} {M : PM} {G : Heap} {w : World}
/-- A row of the call's own holds other cells; else only blocks came and draws were made. -/
theorem Mem.change (hm : Mem E M G w) {b : Nat} {cs cs' : List V} {w' : World} (hb : hget G b = some (.vars cs)) (hbel : Below E.B E.w0 w') (hk : ∀ k x, k ≠ b → w.heap[k]? = some x → w'.heap[k]? = some x) (hl : cs'.length ≤ cs.length)
    (hrow : ∀ arr T fr, w.heap[b]? = some (.cells arr T fr) → (∀ i (h : i < cs.length), Rep M cs[i] (arr.getD i undef)) → cs.length ≤ arr.size → ∃ arr', w'.heap[b]? = some (.cells arr' T fr) ∧ cs'.length ≤ arr'.size ∧ ∀ i (h : i < cs'.length), Rep M cs'[i] (arr'.getD i undef)) :
    Mem E M (hset G b (.vars cs')) w' := by
  obtain ⟨hB, arr, T, fr, h2, h3, h4, h5, h6⟩ := hm.obj b _ hb
  obtain ⟨arr', k1, k2, k3⟩ := hrow arr T fr h2 h4 h3
  refine ⟨hbel, hm.base, fun b' o' u hu => ?_, fun b' ob hob => ?_⟩
  · have hne : b' ≠ b := by intro e; subst e; rw [h6] at hu; cases hu
    have hc := hm.pm _ _ _ hu
    cases hw : w.heap[b']? with
    | none => simp [World.cell?, hw] at hc
    | some x => rw [World.cell?_of_block (w := w) (a := ⟨b', o', none⟩) (by rw [hw]; exact hk _ _ hne hw)]; exact hc
  · rcases hget_hset hob with ⟨rfl, rfl⟩ | ⟨hn, ho⟩
    · exact ⟨hB, arr', T, fr, k1, k2, k3, fun i q1 q2 => h5 i q1 (by omega), h6⟩
    · refine ⟨(hm.obj _ _ ho).1, ?_⟩
      have hok := (hm.obj _ _ ho).2
      cases ob with
      | vars cs' => obtain ⟨arr', T', fr', g1, r⟩ := hok; exact ⟨arr', T', fr', hk _ _ hn g1, r⟩
      | top e c => obtain ⟨arr', T', fr', g1, r⟩ := hok; exact ⟨arr', T', fr', hk _ _ hn g1, r⟩
      | map kvs => obtain ⟨es, ck, g1, r⟩ := hok; exact ⟨es, ck, hk _ _ hn g1, r⟩
      | siter s pos => exact hk _ _ hn hok
      | miter m => obtain ⟨s1, s2, s3, g1⟩ := hok; exact ⟨s1, s2, s3, hk _ _ hn g1⟩
      | mapr kvs r todo cur => obtain ⟨es2, ck2, s1, s2, g1, g2, rr⟩ := hok; exact ⟨es2, ck2, s1, s2, hk _ _ hn g1, hk _ _ (fun e => by subst e; rw [h2] at g2; cases g2) g2, rr⟩
theorem heap_putRow_ne (w : World) {b k : Nat} (o : Nat) (F : Array Value) (h : k ≠ b) : (putRow id w b o F).heap[k]? = w.heap[k]? := by
  unfold putRow mapBlock
  simp only [Array.getElem?_modify, if_neg (fun e => h (Eq.symm e))]
theorem heap_putRow_at (w : World) {b : Nat} (F : Array Value) {arr : Array Value} {T : TypeId} {fr : Nat × Nat} (h : w.heap[b]? = some (.cells arr T fr)) : (putRow id w b 0 F).heap[b]? = some (.cells (putCells id 0 F arr) T fr) := by
  unfold putRow mapBlock
  simp only [Array.getElem?_modify, if_pos, h, Option.map_some, onCells]
theorem putCells_get (F arr : Array Value) (i : Nat) (hi : i < arr.size) : (putCells id 0 F arr).getD i undef = if i < F.size then F.getD i undef else arr.getD i undef := by
  rw [Array.getD_eq_getD_getElem?, Array.getD_eq_getD_getElem?, Array.getD_eq_getD_getElem?]
  simp only [putCells, Array.getElem?_mapIdx, Array.getElem?_eq_getElem hi, Option.map_some, Option.getD_some, Nat.zero_le, true_and, Nat.zero_add, Nat.sub_zero, id]
  split
  · rename_i h; rw [Array.getElem?_eq_getElem h, getElem!_pos F i h]; rfl
  · rfl
/-- Behind a sort. -/
theorem Mem.sorted (hm : Mem E M G w) {b : Nat} {cs cs' : List V} {F : Array Value} (m : Nat) (os : Array Obj) (hb : hget G b = some (.vars (cs ++ cs'))) {ds : List V} (hd : ds.length = cs.length) (hF : F.size = ds.length) (hr : ∀ i (h : i < ds.length), Rep M ds[i] (F.getD i undef)) :
    Mem E M (hset G b (.vars (ds ++ cs'))) (grow (putRow id (Sort.ahead w m) b 0 F) os) := by
  obtain ⟨hB, arr, T, fr, h2, h3, h4, h5, h6⟩ := hm.obj b _ hb
  have hlt : b < w.heap.size := by
    rcases Nat.lt_or_ge b w.heap.size with q | q
    · exact q
    · rw [Array.getElem?_eq_none q] at h2; cases h2
  have hsz : (putRow id (Sort.ahead w m) b 0 F).heap.size = w.heap.size := by unfold putRow mapBlock; simp [Sort.ahead]
  have hg : ∀ k x, (putRow id (Sort.ahead w m) b 0 F).heap[k]? = some x → (grow (putRow id (Sort.ahead w m) b 0 F) os).heap[k]? = some x := fun k x hx => by
    have hk : k < (putRow id (Sort.ahead w m) b 0 F).heap.size := by
      rcases Nat.lt_or_ge k (putRow id (Sort.ahead w m) b 0 F).heap.size with q | q
      · exact q
      · rw [Array.getElem?_eq_none q] at hx; cases hx
    show ((putRow id (Sort.ahead w m) b 0 F).heap ++ os)[k]? = some x
    rw [Array.getElem?_append_left hk]; exact hx
  refine hm.change hb ?_ (fun k x hk hx => hg _ _ (by rw [heap_putRow_ne _ _ _ hk]; exact hx)) (by simp; omega) fun arr2 T2 fr2 e1 e2 e3 => ?_
  · have hb0 := hm.below
    refine ⟨hb0.os, hb0.tape, hb0.output, ?_, fun k hk => ?_⟩
    · have := hb0.size
      show _ ≤ ((putRow id (Sort.ahead w m) b 0 F).heap ++ os).size
      rw [Array.size_append, hsz]; omega
    · have hs := hm.size
      show ((putRow id (Sort.ahead w m) b 0 F).heap ++ os)[k]? = _
      rw [Array.getElem?_append_left (by rw [hsz]; omega), heap_putRow_ne _ _ _ (by omega)]
      exact hb0.block k hk
  · refine ⟨_, hg _ _ (heap_putRow_at (Sort.ahead w m) F e1), ?_, fun i hi => ?_⟩
    · unfold putCells; rw [Array.size_mapIdx]; simp only [List.length_append] at e3 ⊢; omega
    · have hi2 : i < arr2.size := by simp only [List.length_append] at e3 hi; omega
      rw [putCells_get _ _ _ hi2]
      by_cases h : i < ds.length
      · rw [if_pos (by omega), List.getElem_append_left h]; exact hr i h
      · rw [if_neg (by omega), List.getElem_append_right (by omega)]
        have := e2 i (by simp only [List.length_append] at hi ⊢; omega)
        rw [List.getElem_append_right (by omega)] at this
        simp only [hd]; exact this
end
end Go.Proofs.YtclmcpbanaojfaaV

/-
  An append to a row of the call's own that tells what is appended: in a region of one order.
-/
namespace Go.Proofs.YtclmcpbanaojfaaV
open Go.RowKit
set_option linter.unusedVariables false
set_option linter.unusedSimpArgs false
section
variable {P : Program} {E : Env} {M : PM} {G : Heap} {w : World}
/-- An append to a slice that is written yet: all is told. -/
theorem append_known {tx ty rt e : TypeId} {n k b o len cap : Nat} {ys : List (List V)} {u y : Value} {Y : V} {z : V} {cs : List V} (hm : Mem E M G w) (hr : Rep M (.ms b o len cap) u) (hy : Rep M Y y) (ht : tslice P tx = some (e, n)) (hsrc : srcV P ty Y = some ys)
    (hk : tbytes P e = some k) (hz : tzero P e = some z) (hzp : plainV z = true) (hzl : (cellsV z).length = n) (hn : 0 < n) (hwy : wid n ys) (hsy : sca ys) (hsize : (len + ys.length) * k ≤ 140737488355328) (hsize2 : len + ys.length ≤ 9223372036854775807) (hne : ys ≠ [])
    (hb : hget G b = some (.vars cs)) (hcap : o + cap * n ≤ cs.length) :
    ∃ w' v, (Builtin.append_ #[tx, ty] rt #[u, y]).run P w = .ok v w' ∧
      ((len + ys.length ≤ cap ∧ Rep M (.ms b o (len + ys.length) cap) v ∧ Mem E M (hset G b (.vars (setMany cs (o + len * n) ys.flatten))) w') ∨
       (cap < len + ys.length ∧ ∃ b' c, hget G b' = none ∧ len + ys.length ≤ c ∧ Rep M (.ms b' 0 (len + ys.length) c) v ∧ Mem E M ((b', .vars (((cs.drop o).take (len * n) ++ ys.flatten) ++ List.replicate ((c - (len + ys.length)) * n) .any)) :: G) w')) := by
  obtain ⟨news, hnews, hs⟩ := src_ok hm hy hsrc hwy hsy hn
  obtain ⟨hu, hsz⟩ := tslice_info ht
  obtain ⟨i, hi, hin⟩ := tsz_info hsz
  obtain ⟨i2, zv, hi2, hzv, hzr⟩ := tzero_info hz
  have : i2 = i := by rw [hi] at hi2; exact (Option.some.inj hi2).symm
  subst this
  have hbytes : i2.bytes = k := by unfold tbytes at hk; rw [hi] at hk; simpa using hk
  have hnl : news.length = ys.length * n := by rw [← hnews.1, flatten_length hwy]
  have hypos : 0 < ys.length := List.length_pos_iff.2 hne
  obtain ⟨rfl, hlc⟩ := hr.ms_inv
  by_cases hroom : len + ys.length ≤ cap
  · obtain ⟨hB, arr, T, fr, k1, k2, k3, k4, k5⟩ := hm.obj _ _ hb
    have hfit : len * n + news.length ≤ cap * n := by rw [hnl, ← Nat.add_mul]; exact Nat.mul_le_mul_right _ hroom
    have hcell : ∀ j, j < news.length → (w.cell? ⟨b, o + len * i2.size + j, none⟩).isSome = true := fun j hj => by
      rw [hin]
      unfold World.cell?
      simp only [k1, Option.isSome_none, Bool.false_eq_true, if_false]
      rw [Array.getElem?_eq_getElem (by omega)]; rfl
    have hfz : ∀ j, j < news.length → w.frozen? ⟨b, o + len * i2.size + j, none⟩ = false := fun j hj => by
      rw [hin]
      unfold World.frozen?
      simp only [k1]
      have := k4 (o + len * n + j) (by omega) (by omega)
      simp only [Bool.and_eq_false_iff, decide_eq_false_iff_not]
      by_cases q : fr.1 ≤ o + len * n + j
      · right; intro q2; exact this ⟨q, q2⟩
      · left; exact q
    have hrun := run_append_room_src (P := P) w tx ty rt e i2 hu hi b o len cap y ys.length news (by rw [hin]; exact hs) hroom hcell hfz
    rw [hin] at hrun
    have hst := run_storeCells_cells (P := P) b (o + len * n) news 0 w (by simpa [hin] using hcell) (by simpa [hin] using hfz) hs.one
    have hall : ys.flatten.all scalarV = true := by
      rw [List.all_eq_true]
      intro x hx
      obtain ⟨e, he, hxe⟩ := List.mem_flatten.1 hx
      exact hsy e he x hxe
    obtain ⟨w2, g1, g2⟩ := Mem.storeCells (P := P) hnews hall hm hb (o + len * n) 0 (by have := flatten_length hwy; rw [hnl] at hfit; omega)
    rw [g1] at hst
    simp only [Nat.add_zero, Result.ok.injEq, true_and] at hst
    subst hst
    exact ⟨_, _, hrun, .inl ⟨hroom, .ms _ _ _ _ hroom, g2⟩⟩
  · have hzc := plainV_cells hzp (hzr M)
    have hzsz : zv.cells.size = n := by have := hzc.1; rw [hzl] at this; simpa using this.symm
    have hCR := hm.cellsRep_vars hb
    have hCR := (hCR.drop o).take (len * n)
    rw [Nat.zero_add] at hCR
    obtain ⟨olds, holds, hcells⟩ := hCR
    have hlencap : len * n ≤ cap * n := Nat.mul_le_mul_right _ hlc
    have holdl : olds.length = len * n := by rw [← holds.1, List.length_take, List.length_drop]; omega
    have hfirst : (Builtin.firstCells i2.size len (.slice (some ⟨b, o, none⟩) len cap)).run P w.drew = .ok olds.toArray w.drew :=
      run_firstCells_some w.drew i2.size len ⟨b, o, none⟩ len cap olds (by rw [holdl, hin]) (fun j v hj => by
        rw [Addr.add_lit]
        exact hcells j v hj)
    have hrun := run_append_grow_src (P := P) w tx ty rt e i2 zv hu hi hzv (some ⟨b, o, none⟩) len cap olds hfirst y ys.length news (by rw [hin]; exact hs) (by omega) (by omega) (growslice_fits (by omega) (by rw [hbytes]; exact hsize))
    have hcge := grownCap_ge w (len + ys.length) cap e
    have hvl : (olds ++ news).length = (len + ys.length) * n := by rw [List.length_append, holdl, hnl, Nat.add_mul]
    have hasz : ((olds ++ news).toArray ++ Builtin.zeroCells zv.cells (grownCap w (len + ys.length) cap e - (len + ys.length))).size = grownCap w (len + ys.length) cap e * n := by
      rw [Array.size_append, size_zeroCells, hzsz, List.size_toArray, hvl, ← Nat.add_mul]; congr 1; omega
    have hfl : ys.flatten.length = ys.length * n := flatten_length hwy
    have hol : ((cs.drop o).take (len * n)).length = len * n := by rw [holds.1, holdl]
    have hcl : (((cs.drop o).take (len * n) ++ ys.flatten) ++ List.replicate ((grownCap w (len + ys.length) cap e - (len + ys.length)) * n) V.any).length = grownCap w (len + ys.length) cap e * n := by
      rw [List.length_append, List.length_append, hol, hfl, List.length_replicate, ← Nat.add_mul, ← Nat.add_mul]; congr 1; omega
    obtain ⟨q1, q2⟩ := hm.new_row ((olds ++ news).toArray ++ Builtin.zeroCells zv.cells (grownCap w (len + ys.length) cap e - (len + ys.length))) e (cs := ((cs.drop o).take (len * n) ++ ys.flatten) ++ List.replicate ((grownCap w (len + ys.length) cap e - (len + ys.length)) * n) .any) (by rw [hcl, hasz]; exact Nat.le_refl _) (fun i hi => by
      have hRL := holds.append hnews
      by_cases hlt : i < ((cs.drop o).take (len * n) ++ ys.flatten).length
      · rw [List.getElem_append_left hlt]
        have := hRL.2 i hlt
        rw [List.getD_eq_getElem?_getD] at this
        rw [Array.getD_eq_getD_getElem?]
        have h2 : i < (olds ++ news).length := by rw [← hRL.1]; exact hlt
        rw [Array.getElem?_append_left (by simpa using h2), List.getElem?_toArray]
        exact this
      · rw [List.getElem_append_right (by omega), List.getElem_replicate]; exact .any _)
    exact ⟨_, _, hrun, .inr ⟨by omega, _, _, q1, hcge, .ms _ _ _ _ hcge, q2⟩⟩
end
section
variable {P : Program} {N : Nat}
theorem rgA_ok {ops rest : List Oper} {E : Env} {Q' : Exit → Act → World → Prop} : ∀ {l : List Oper} {f : Frame} {G : Heap} {K : Kf} {M : PM} {w : World} {a : Act}, rg P ops l f G K → l.all (dstOk N) = true → Mem E M G w → RepF M f a.tmps → a.tmps.size = N → a.defers = [] →
    (∀ M' f' G' (a' : Act) w', M.le M' → Mem E M' G' w' → RepF M' f' a'.tmps → a'.tmps.size = N → a'.defers = [] → K f' G' → wpList P ops.toArray Q' rest a' w') → wpList P ops.toArray Q' (l ++ rest) a w
  | [], f, G, K, M, w, a, h, ha, hm, hf, hn, hd, hq => hq M f G a w M.le_refl hm hf hn hd (by simpa [rg] using h)
  | o :: os, f, G, K, M, w, a, h, ha, hm, hf, hn, hd, hq => by
    simp only [List.all_cons, Bool.and_eq_true] at ha
    unfold rg at h
    rw [List.cons_append]
    unfold wpList
    cases hg : o.guard with
    | none =>
      rw [hg] at h
      rw [if_pos (by simp [Region.wanted, hg])]
      exact .inl (stepV_ok (N := N) h hm hf hf hn hd ha.1 fun M' x G' a' w' k1 k2 k3 k4 k5 k6 =>
        rgA_ok k6 ha.2 k2 (by rw [RepF, fget_fput]; exact k3) k4 k5 fun M2 f2 G2 a2 w2 j1 j2 j3 j4 j5 j6 => hq M2 f2 G2 a2 w2 (PM.le_trans k1 j1) j2 j3 j4 j5 j6)
    | some jw =>
      obtain ⟨j, want⟩ := jw
      rw [hg] at h
      simp only at h
      split at h
      · rename_i d hgt
        split at h
        · rename_i g hv
          have hw := wanted_of hf hg hgt hv
          rw [hw]
          cases g with
          | true =>
            rw [if_pos rfl]
            exact .inl (stepV_ok (N := N) (gstep_true h) hm (unF_rep hf) hf hn hd ha.1 fun M' x G' a' w' k1 k2 k3 k4 k5 k6 =>
              rgA_ok k6 ha.2 k2 (by rw [RepF, fget_fput]; exact k3.optT) k4 k5 fun M2 f2 G2 a2 w2 j1 j2 j3 j4 j5 j6 => hq M2 f2 G2 a2 w2 (PM.le_trans k1 j1) j2 j3 j4 j5 j6)
          | false =>
            rw [if_neg (by simp)]
            obtain ⟨x, h2⟩ := gstep_false h
            obtain ⟨q1, q2, q3⟩ := put_frame hf hn hd ha.1 (Rep.optF (M := M) x)
            exact rgA_ok h2 ha.2 hm (by rw [RepF, fget_fput]; exact q1) q2 q3 hq
        · exact h.elim
      · exact h.elim
/-- What an append to an own row answers, all told. -/
def appL (P : Program) (x y : Option V) (s : Option (TypeId × Nat)) (ty : TypeId) (G : Heap) (K : Kv) : Prop :=
  match x, y, s with
  | some (.ms b o len cap), some Y, some (e, n) => match srcV P ty Y, tbytes P e, tzero P e with
    | some ys, some k, some z => (plainV z = true ∧ (cellsV z).length = n ∧ 0 < n ∧ wid n ys ∧ sca ys ∧ (len + ys.length) * k ≤ 140737488355328 ∧ len + ys.length ≤ 9223372036854775807 ∧ ys ≠ []) ∧
      ∃ cs, hget G b = some (.vars cs) ∧ o + cap * n ≤ cs.length ∧ (len + ys.length ≤ cap → K (.ms b o (len + ys.length) cap) (hset G b (.vars (setMany cs (o + len * n) ys.flatten)))) ∧
        (cap < len + ys.length → ∀ b' c, hget G b' = none → len + ys.length ≤ c → K (.ms b' 0 (len + ys.length) c) ((b', .vars (((cs.drop o).take (len * n) ++ ys.flatten) ++ List.replicate ((c - (len + ys.length)) * n) .any)) :: G))
    | _, _, _ => False
  | _, _, _ => False
/-- Operation k of a region is such an append. -/
theorem aw_sra {l : List Oper} {Q : Cont} {f : Frame} {G : Heap} {id : Nat} {c : Code} (k : Nat) {l1 l2 : List Oper} {d : Option Tmp} {x y : Operand} {tx ty t : TypeId} {pos : String} {aft : Array Edge}
    (hl : l = l1 ++ (⟨d, .call { callee := .builtin .append, args := #[x, y], argTypes := #[tx, ty] }, t, pos, aft, none⟩ :: l2)) (hd : l.all (dstOk N) = true)
    (h : go P l (.t l1) f G (fun f G => appL P (ev (fget f) x) (ev (fget f) y) (tslice P tx) ty G (fun z G => go P l (.t l2) (fput f d z) G (fun f G => AW P N c Q f G)))) : AW P N (.seq (.region id l.toArray false) c) Q f G := by
  refine aw_seq' ?_
  intro E M w a hm hr hn hdf
  refine wp_region_list (P := P) (ops := l.toArray) ?_
  simp only
  have hd2 : l1.all (dstOk N) = true ∧ dstOk N ⟨d, .call { callee := .builtin .append, args := #[x, y], argTypes := #[tx, ty] }, t, pos, aft, none⟩ = true ∧ l2.all (dstOk N) = true := by
    rw [hl, List.all_append, List.all_cons, Bool.and_eq_true, Bool.and_eq_true] at hd; exact ⟨hd.1, hd.2.1, hd.2.2⟩
  have hstep : wpList P l.toArray (lift E M N (thenK (AW P N c Q) Q)) (l1 ++ (⟨d, .call { callee := .builtin .append, args := #[x, y], argTypes := #[tx, ty] }, t, pos, aft, none⟩ :: l2)) a w := by
    refine rgA_ok (ops := l) h hd2.1 hm hr hn hdf fun M' f' G' a' w' k1 k2 k3 k4 k5 kL => ?_
    unfold wpList
    rw [if_pos (by simp [Region.wanted])]
    refine .inl ?_
    unfold appL at kL
    split at kL
    · rename_i b oo len cap Y e n hx hy ht
      split at kL
      · rename_i ys k2' z hsrc hk hz
        obtain ⟨⟨c1, c2, c3, c4, c5, c6, c7, c8⟩, cs, d1, d2, d3, d4⟩ := kL
        obtain ⟨w2, v, r2, r3⟩ := append_known (rt := t) k2 (ev_rep k3 hx) (ev_rep k3 hy) ht hsrc hk hz c1 c2 c3 c4 c5 c6 c7 c8 d1 d2
        have hrun : (execOp a'.eval ⟨d, .call { callee := .builtin .append, args := #[x, y], argTypes := #[tx, ty] }, t, pos, aft, none⟩).run P w' = .ok (.value v) w2 := by
          simp only [execOp, resolve, invoke, builtin, Sem.run_bind, Sem.run_pure, Result.andThen_ok, List.map_toArray, List.map_cons, List.map_nil, r2]
        unfold Oper.wp
        rw [hrun, Oper.upon_value]
        rcases r3 with ⟨g1, g2, g3⟩ | ⟨g1, b', c', g2, g3, g4, g5⟩
        · obtain ⟨q1, q2, q3⟩ := put_frame k3 k4 k5 hd2.2.1 g2
          exact rg_ok (d3 g1) hd2.2.2 g3 (by rw [RepF, fget_fput]; exact q1) q2 q3 fun M2 f2 G2 a2 w3 j1 j2 j3 j4 j5 j6 => ⟨M2, f2, G2, PM.le_trans k1 j1, j2, j3, j4, j5, j6⟩
        · obtain ⟨q1, q2, q3⟩ := put_frame k3 k4 k5 hd2.2.1 g4
          exact rg_ok (d4 g1 _ _ g2 g3) hd2.2.2 g5 (by rw [RepF, fget_fput]; exact q1) q2 q3 fun M2 f2 G2 a2 w3 j1 j2 j3 j4 j5 j6 => ⟨M2, f2, G2, PM.le_trans k1 j1, j2, j3, j4, j5, j6⟩
      · exact kL.elim
    · exact kL.elim
  rw [← hl] at hstep
  exact hstep
end
end Go.Proofs.YtclmcpbanaojfaaV

/-
  One operation of a region told by hand; an append to a slice of the call's own that is told whole.
-/
namespace Go.Proofs.YtclmcpbanaojfaaV
open Go.RowKit
set_option linter.unusedVariables false
set_option linter.unusedSimpArgs false
section
variable {P : Program} {N : Nat}
/-- What one operation answers. -/
def Step (P : Program) (o : Oper) (f : Frame) (G : Heap) (S : V → Heap → Prop) : Prop :=
  ∀ E M w (a : Act), Mem E M G w → RepF M f a.tmps → ∃ v w' M' x G', (execOp a.eval o).run P w = .ok (.value v) w' ∧ M.le M' ∧ S x G' ∧ Rep M' x v ∧ Mem E M' G' w'
/-- Operation k of a region of one order is told by hand. -/
theorem aw_rgk {l : List Oper} {Q : Cont} {f : Frame} {G : Heap} {id : Nat} (k : Nat) {o : Oper} (hl : l[k]? = some o) (hg : o.guard = none) (hd : l.all (dstOk N) = true)
    (h : go P l (.t (l.take k)) f G (fun f G => ∃ S, Step P o f G S ∧ ∀ x G', S x G' → go P l (.t (l.drop (k + 1))) (fput f o.dst x) G' (fun f G => Q .normal f G))) : AW P N (.region id l.toArray false) Q f G := by
  intro E M w a hm hr hn hdf
  refine wp_region_list (P := P) (ops := l.toArray) ?_
  simp only
  have hsp : l = l.take k ++ (o :: l.drop (k + 1)) := by
    obtain ⟨hk, rfl⟩ := List.getElem?_eq_some_iff.1 hl
    rw [← List.drop_eq_getElem_cons hk, List.take_append_drop]
  have hd2 : (l.take k).all (dstOk N) = true ∧ dstOk N o = true ∧ (l.drop (k + 1)).all (dstOk N) = true := by
    rw [hsp, List.all_append, List.all_cons, Bool.and_eq_true, Bool.and_eq_true] at hd; exact ⟨hd.1, hd.2.1, hd.2.2⟩
  have hstep : wpList P l.toArray (lift E M N Q) (l.take k ++ (o :: l.drop (k + 1))) a w := by
    refine rgA_ok (ops := l) h hd2.1 hm hr hn hdf fun M' f' G' a' w' k1 k2 k3 k4 k5 kL => ?_
    obtain ⟨S, hS, hK⟩ := kL
    obtain ⟨v, w2, M2, x, G2, hrun, m1, m2, m3, m4⟩ := hS E M' w' a' k2 k3
    unfold wpList
    rw [if_pos (by simp [Region.wanted, hg])]
    refine .inl ?_
    unfold Oper.wp
    rw [hrun, Oper.upon_value]
    obtain ⟨q1, q2, q3⟩ := put_frame (k3.mono m1) k4 k5 hd2.2.1 m3
    exact rg_ok (hK x G2 m2) hd2.2.2 m4 (by rw [RepF, fget_fput]; exact q1) q2 q3 fun M3 f2 G3 a2 w3 j1 j2 j3 j4 j5 j6 => ⟨M3, f2, G3, PM.le_trans k1 (PM.le_trans m1 j1), j2, j3, j4, j5, j6⟩
  rw [← hsp] at hstep
  exact hstep
theorem aw_srk {l : List Oper} {Q : Cont} {f : Frame} {G : Heap} {id : Nat} {c : Code} (k : Nat) {o : Oper} (hl : l[k]? = some o) (hg : o.guard = none) (hd : l.all (dstOk N) = true)
    (h : go P l (.t (l.take k)) f G (fun f G => ∃ S, Step P o f G S ∧ ∀ x G', S x G' → go P l (.t (l.drop (k + 1))) (fput f o.dst x) G' (fun f G => AW P N c Q f G))) : AW P N (.seq (.region id l.toArray false) c) Q f G :=
  aw_seq' (aw_rgk k hl hg hd h)
/-- A slice of the call's own: more elements. -/
theorem step_buf {G0 H : Heap} {n : Nat} {es : List (List V)} {X Y z : V} {f : Frame} {d : Option Tmp} {x y : Operand} {tx ty t e : TypeId} {pos : String} {aft : Array Edge} {gd : Option (Nat × Bool)} {ys : List (List V)} {k : Nat}
    (hB : Buf G0 H n es X) (hD : Dom G0 H) (hx : ev (fget f) x = some X) (hy : ev (fget f) y = some Y) (ht : tslice P tx = some (e, n)) (hsrc : srcV P ty Y = some ys) (hk : tbytes P e = some k) (hz : tzero P e = some z)
    (hc : plainV z = true ∧ (cellsV z).length = n ∧ 0 < n ∧ wid n ys ∧ sca ys ∧ (es.length + ys.length) * k ≤ 140737488355328 ∧ es.length + ys.length ≤ 9223372036854775807 ∧ ys ≠ []) :
    Step P ⟨d, .call { callee := .builtin .append, args := #[x, y], argTypes := #[tx, ty] }, t, pos, aft, gd⟩ f H (fun X' H' => Buf G0 H' n (es ++ ys) X' ∧ Dom G0 H' ∧ ∀ b, ¬ hget G0 b = none → hget H' b = hget H b) := by
  obtain ⟨c1, c2, c3, c4, c5, c6, c7, c8⟩ := hc
  intro E M w a hm hr
  have hne : es ++ ys ≠ [] := by simp [c8]
  rcases hB with ⟨rfl, rfl⟩ | ⟨h1, b, c, rfl, hlc, hw, hb, hg⟩
  · obtain ⟨w', v, b, c, r1, r2, r3, r4, r5⟩ := append_first (rt := t) hm (ev_rep hr hx) (ev_rep hr hy) ht hsrc hk hz c1 c2 c3 c4 c5 (by simpa using c6) (by simpa using c7) c8
    have hrun : (execOp a.eval ⟨d, .call { callee := .builtin .append, args := #[x, y], argTypes := #[tx, ty] }, t, pos, aft, gd⟩).run P w = .ok (.value v) w' := by
      simp only [execOp, resolve, invoke, builtin, Sem.run_bind, Sem.run_pure, Result.andThen_ok, List.map_toArray, List.map_cons, List.map_nil, r1]
    refine ⟨v, w', M, .ms b 0 ys.length c, _, hrun, M.le_refl, ⟨.inr ⟨hne, b, c, by simp, by simpa using r3, by simpa using c4, ?_, hD b r2⟩, hD.sub (sub_tail r2), fun k hk => ?_⟩, r4, r5⟩
    · rw [hget_self, List.nil_append, pad]
    · rw [hget_cons_ne (fun e => by subst e; exact hk (hD _ r2))]
  · have hfl := wid_flat hw
    have hyl := wid_flat c4
    have hpl : (pad (c - es.length) n).length = (c - es.length) * n := pad_length _ _
    obtain ⟨w', v, r1, r2⟩ := append_known (rt := t) hm (ev_rep hr hx) (ev_rep hr hy) ht hsrc hk hz c1 c2 c3 c4 c5 c6 c7 c8 hb (by rw [List.length_append, hfl, hpl, ← Nat.add_mul, Nat.zero_add, show es.length + (c - es.length) = c by omega]; exact Nat.le_refl _)
    have hrun : (execOp a.eval ⟨d, .call { callee := .builtin .append, args := #[x, y], argTypes := #[tx, ty] }, t, pos, aft, gd⟩).run P w = .ok (.value v) w' := by
      simp only [execOp, resolve, invoke, builtin, Sem.run_bind, Sem.run_pure, Result.andThen_ok, List.map_toArray, List.map_cons, List.map_nil, r1]
    rcases r2 with ⟨g1, g2, g3⟩ | ⟨g1, b', c', g2, g3, g4, g5⟩
    · refine ⟨v, w', M, .ms b 0 (es.length + ys.length) c, _, hrun, M.le_refl, ⟨.inr ⟨hne, b, c, by simp, by simpa using g1, by simp [hw, c4], ?_, hg⟩, hD.hset, fun k hk => ?_⟩, g2, g3⟩
      · rw [hget_hset_self hb]
        congr 2
        have hp : pad (c - es.length) n = List.replicate (ys.length * n) .any ++ pad (c - (es ++ ys).length) n := by
          rw [pad, pad, List.replicate_append_replicate, ← Nat.add_mul, List.length_append]; congr 2; omega
        rw [hp, Nat.zero_add, ← hfl, setMany_append _ _ _ _ (by rw [List.length_replicate, hyl]), List.flatten_append, List.append_assoc]
      · rw [hget_hset_ne (fun e => by subst e; exact hk hg)]
    · refine ⟨v, w', M, .ms b' 0 (es.length + ys.length) c', _, hrun, M.le_refl, ⟨.inr ⟨hne, b', c', by simp, by simpa using g3, by simp [hw, c4], ?_, hD b' g2⟩, hD.sub (sub_tail g2), fun k hk => ?_⟩, g4, g5⟩
      · rw [hget_self, List.drop_zero, ← hfl, List.take_left, List.flatten_append, pad, List.length_append]
      · rw [hget_cons_ne (fun e => by subst e; exact hk (hD _ g2))]
/-- An element of it is written. -/
theorem Buf.set {G0 H : Heap} {n : Nat} {es : List (List V)} {b l c : Nat} {cs : List V} (hB : Buf G0 H n es (.ms b 0 l c)) {i : Nat} (hi : i < es.length) (hl : cs.length = n) :
    hget H b = some (.vars (es.flatten ++ pad (c - es.length) n)) ∧ ¬ (hget H b = none) ∧ hget G0 b = none ∧ l = es.length ∧ Buf G0 (Go.Proofs.YtclmcpbanaojfaaV.hset H b (.vars ((es.set i cs).flatten ++ pad (c - es.length) n))) n (es.set i cs) (.ms b 0 l c) := by
  rcases hB with ⟨_, h⟩ | ⟨h1, b', c', h2, h3, h4, h5, h6⟩
  · cases h
  · injection h2 with e1 _ e3 e4
    subst e1 e3 e4
    refine ⟨h5, by rw [h5]; simp, h6, rfl, .inr ⟨fun e => h1 (by simpa using e), b, c, by simp, by simpa using h3, fun a ha => (List.mem_or_eq_of_mem_set ha).elim (h4 a) (fun q => q ▸ hl), ?_, h6⟩⟩
    rw [hget_hset_self h5, List.length_set]
/-- There is an element yet. -/
theorem Buf.ms {G0 H : Heap} {n : Nat} {es : List (List V)} {X : V} (hB : Buf G0 H n es X) (h : es ≠ []) : ∃ b c, X = .ms b 0 es.length c ∧ es.length ≤ c := by
  rcases hB with ⟨h1, _⟩ | ⟨h1, b, c, h2, h3, _⟩
  · exact absurd h1 h
  · exact ⟨b, c, h2, h3⟩
/-- The last element: what it holds, and one cell of it is written. -/
theorem Buf.last {G0 H : Heap} {n : Nat} {es : List (List V)} {row : List V} {b l c : Nat} (hB : Buf G0 H n (es ++ [row]) (.ms b 0 l c)) :
    ∃ cs, hget H b = some (.vars cs) ∧ hget G0 b = none ∧ l = es.length + 1 ∧ (∀ j x, row[j]? = some x → cs[es.length * n + j]? = some x) ∧ (es.length * n + n ≤ cs.length) ∧
      ∀ j x, j < n → Buf G0 (Go.Proofs.YtclmcpbanaojfaaV.hset H b (.vars (setMany cs (es.length * n + j) [x]))) n (es ++ [row.set j x]) (.ms b 0 l c) := by
  rcases hB with ⟨h, _⟩ | ⟨h1, b', c', h2, h3, h4, h5, h6⟩
  · simp at h
  · injection h2 with e1 _ e3 e4
    subst e1 e4
    rw [wid_append] at h4
    have hr : row.length = n := h4.2 row (by simp)
    have hf := wid_flat h4.1
    have hcs : (es ++ [row]).flatten ++ pad (c - (es ++ [row]).length) n = es.flatten ++ (row ++ pad (c - (es ++ [row]).length) n) := by rw [List.flatten_append, List.flatten_singleton, List.append_assoc]
    rw [hcs] at h5
    refine ⟨_, h5, h6, by rw [e3]; simp, fun j x hx => ?_, ?_, fun j x hj => ?_⟩
    · obtain ⟨hj, _⟩ := List.getElem?_eq_some_iff.1 hx
      rw [← hf, List.getElem?_append_right (by omega), Nat.add_sub_cancel_left, List.getElem?_append_left hj]; exact hx
    · rw [List.length_append, List.length_append, hf, hr]; omega
    · refine .inr ⟨by simp, b, c, by rw [e3]; simp, by simpa using h3, by rw [wid_append]; exact ⟨h4.1, by simpa using hr⟩, ?_, h6⟩
      rw [hget_hset_self h5]
      congr 2
      show (es.flatten ++ (row ++ pad (c - (es ++ [row]).length) n)).set (es.length * n + j) x = _
      rw [← hf, List.set_append_right _ _ (by omega), Nat.add_sub_cancel_left, List.set_append_left _ _ (by omega), List.flatten_append, List.flatten_singleton, List.append_assoc]
      simp
end
end Go.Proofs.YtclmcpbanaojfaaV

/-
  delete and clear: of a map, and of a row of the call's own.
-/
namespace Go.Proofs.YtclmcpbanaojfaaV
open Go.RowKit
set_option linter.unusedVariables false
set_option linter.unusedSimpArgs false
/-- What a map is behind a delete. -/
def mdel (kvs : List (V × V)) : Option (Nat × V) → List (V × V)
  | some (i, _) => kvs.eraseIdx i
  | none => kvs
section
variable {P : Program} {E : Env} {M : PM} {G : Heap} {w : World}
theorem getD_eraseIdx (es : Array MapEntry) (i j : Nat) : (es.eraseIdxIfInBounds i).getD j default = if j < i then es.getD j default else es.getD (j + 1) default := by
  rw [Array.getD_eq_getD_getElem?, Array.getD_eq_getD_getElem?, Array.getD_eq_getD_getElem?, ← Array.getElem?_toList, ← Array.getElem?_toList, ← Array.getElem?_toList, Array.toList_eraseIdxIfInBounds, List.getElem?_eraseIdx]
  split <;> rfl
theorem del_ok {t kt tk ty : TypeId} {z K : V} {k : Value} {b : Nat} {kvs : List (V × V)} {r : Option (Nat × V)} (hm : Mem E M G w) (hb : hget G b = some (.map kvs)) (ht : tmap P t = some (kt, z)) (hs : simpleKey P kt K = true) (hK : Rep M K k) (hf : mfind K kvs 0 = some r) :
    ∃ w', (Builtin.delete_ #[t, tk] ty #[.map (some b), k]).run P w = .ok (.tuple #[]) w' ∧ Mem E M (hset G b (.map (mdel kvs r))) w' := by
  obtain ⟨e, hu, hz⟩ := tmap_info ht
  obtain ⟨hbits, hck, hfind⟩ := simpleKey_ok hs hK
  obtain ⟨hB, es, ck, h1, h2, h3, h4, h5⟩ := hm.obj b _ hb
  obtain ⟨l1, l2⟩ := obj_list h2 h3
  rcases hfind l1 l2 hf w with ⟨rfl, q2⟩ | ⟨j, y, v', e', rfl, q2, q3, q4, q5, q6⟩
  · refine ⟨_, ?_, hm.setMap hb (es' := es) (ck' := ck) h2 h3 h4 h5⟩
    simp only [Builtin.delete_, List.getElem?_toArray, List.getElem?_cons_zero, List.getElem?_cons_succ, Sem.run_bind, run_underlying hu, Result.andThen_ok, MapKept.run_getObj_map h1, hck, q2, MapKept.run_setObj_map _ h1, Sem.run_pure]
  · have hjs : j < es.size := by omega
    have hsz : (es.eraseIdxIfInBounds j).size = es.size - 1 := by
      rw [← Array.length_toList, Array.toList_eraseIdxIfInBounds, List.length_eraseIdx, Array.length_toList, if_pos hjs]
    refine ⟨_, ?_, hm.setMap hb (es' := es.eraseIdxIfInBounds j) (ck' := ck) ?_ (fun i hi => ?_) (fun i i' hi hi' hij => ?_) (fun i hi => ?_)⟩
    · simp only [Builtin.delete_, List.getElem?_toArray, List.getElem?_cons_zero, List.getElem?_cons_succ, Sem.run_bind, run_underlying hu, Result.andThen_ok, MapKept.run_getObj_map h1, hck, q2, MapKept.run_setObj_map _ h1, Sem.run_pure]
    · rw [hsz, mdel, List.length_eraseIdx, if_pos q6, h2]
    · simp only [mdel, List.length_eraseIdx, if_pos q6] at hi
      have hg : ∀ (h : i < (kvs.eraseIdx j).length), (kvs.eraseIdx j)[i] = if h' : i < j then kvs[i]'(by omega) else kvs[i + 1]'(by omega) := fun h => List.getElem_eraseIdx h
      have hlen : i < (kvs.eraseIdx j).length := by rw [List.length_eraseIdx, if_pos q6]; exact hi
      rw [show (mdel kvs (some (j, y)))[i] = (kvs.eraseIdx j)[i] from rfl, hg hlen, getD_eraseIdx]
      by_cases hij : i < j
      · rw [dif_pos hij, if_pos hij]; exact h3 i (by omega)
      · rw [dif_neg hij, if_neg hij]; exact h3 (i + 1) (by omega)
    · rw [hsz] at hi hi'
      rw [getD_eraseIdx, getD_eraseIdx] at hij
      split at hij <;> split at hij
      · exact h4 i i' (by omega) (by omega) hij
      · have := h4 i (i' + 1) (by omega) (by omega) hij; omega
      · have := h4 (i + 1) i' (by omega) (by omega) hij; omega
      · have := h4 (i + 1) (i' + 1) (by omega) (by omega) hij; omega
    · rw [hsz] at hi
      rw [getD_eraseIdx]
      split
      · exact h5 i (by omega)
      · exact h5 (i + 1) (by omega)
theorem clearMap_ok {t kt ty : TypeId} {z : V} {b : Nat} {kvs : List (V × V)} (hm : Mem E M G w) (hb : hget G b = some (.map kvs)) (ht : tmap P t = some (kt, z)) :
    ∃ w', (Builtin.clear_ #[t] ty #[.map (some b)]).run P w = .ok (.tuple #[]) w' ∧ Mem E M (hset G b (.map [])) w' := by
  obtain ⟨e, hu, hz⟩ := tmap_info ht
  obtain ⟨hB, es, ck, h1, h2, h3, h4, h5⟩ := hm.obj b _ hb
  refine ⟨_, ?_, hm.setMap hb (es' := #[]) (ck' := ck) (kvs' := []) rfl (fun i hi => by simp at hi) (fun i j hi => by simp at hi) (fun i hi => by simp at hi)⟩
  simp only [Builtin.clear_, List.getElem?_toArray, List.getElem?_cons_zero, Sem.run_bind, run_underlying hu, Result.andThen_ok, MapKept.run_getObj_map h1, MapKept.run_setObj_map _ h1, Sem.run_pure]
theorem clearRow_ok {t e ty : TypeId} {z : V} {n b o len cap : Nat} {cs : List V} (hm : Mem E M G w) (hb : hget G b = some (.vars cs)) (ht : tslice P t = some (e, n)) (hz : tzero P e = some z) (hp : plainV z = true) (hzn : (cellsV z).length = n) (hs : (cellsV z).all scalarV = true) (ho : o + len * n ≤ cs.length) :
    ∃ w', (Builtin.clear_ #[t] ty #[.slice (some ⟨b, o, none⟩) len cap]).run P w = .ok (.tuple #[]) w' ∧ Mem E M (hset G b (.vars (setMany cs o (List.replicate len (cellsV z)).flatten))) w' := by
  obtain ⟨hu, hsz⟩ := tslice_info ht
  obtain ⟨zv, hzv, hzr⟩ := run_zeroValue hz w
  by_cases h0 : len = 0
  · subst h0
    refine ⟨w, ?_, ?_⟩
    · simp only [Builtin.clear_, List.getElem?_toArray, List.getElem?_cons_zero, Sem.run_bind, run_underlying hu, Result.andThen_ok, Sem.run_pure]
    · simp only [List.replicate_zero, List.flatten_nil, setMany]
      rw [hset_same hb]; exact hm
  · have hzc := plainV_cells hp (hzr M)
    have hfill := zero_fill (len := len) (zs := zv.cells) hzc hzn (fun _ => rfl)
    have hzs : zv.cells.size = n := by have := hzc.1; rw [hzn] at this; simpa using this.symm
    have hfl : (List.replicate len (cellsV z)).flatten.length = len * n := by
      rw [flatten_length (n := n) (fun e he => by rw [(List.mem_replicate.1 he).2]; exact hzn)]; simp
    have hall : (List.replicate len (cellsV z)).flatten.all scalarV = true := by
      rw [List.all_eq_true]
      intro x hx
      obtain ⟨l, hl, hxl⟩ := List.mem_flatten.1 hx
      rw [(List.mem_replicate.1 hl).2] at hxl
      exact List.all_eq_true.1 hs x hxl
    obtain ⟨w', g1, g2⟩ := Mem.storeCells (P := P) hfill hall hm hb o 0 (by rw [hfl]; omega)
    refine ⟨w', ?_, g2⟩
    obtain ⟨m, rfl⟩ : ∃ m, len = m + 1 := ⟨len - 1, by omega⟩
    have hze : Builtin.zeroCells zv.cells (m + 1) = (Array.range ((m + 1) * n)).map (fun i => zv.cells[i % zv.cells.size]!) := by
      unfold Builtin.zeroCells; rw [hzs]
    simp only [Builtin.clear_, List.getElem?_toArray, List.getElem?_cons_zero, Sem.run_bind, run_underlying hu, Result.andThen_ok, hzv, hze, g1, Sem.run_pure]
end
section
variable {P : Program} {f f' : FF} {G : Heap} {op : Op} {S : V → Heap → Prop}
/-- What one operation answers, by what its operands are. -/
def StepF (P : Program) (op : Op) (f : FF) (G : Heap) (S : V → Heap → Prop) : Prop :=
  ∀ E M w (a : Act) (o : Oper), o.op = op → Mem E M G w → (∀ y ∈ op.operands, ∀ v, ev f y = some v → Rep M v (a.eval y)) →
    ∃ v w' M' x G', (execOp a.eval o).run P w = .ok (.value v) w' ∧ M.le M' ∧ S x G' ∧ Rep M' x v ∧ Mem E M' G' w'
theorem StepF.congr (h : StepF P op f G S) (he : ∀ y ∈ op.operands, ev f y = ev f' y) : StepF P op f' G S := fun E M w a o ho hm hr => h E M w a o ho hm fun y hy v hv => hr y hy v (by rw [← he y hy]; exact hv)
theorem StepF.step {f : Frame} {o : Oper} (h : StepF P o.op (fget f) G S) : Step P o f G S := fun E M w a hm hr => h E M w a o rfl hm fun y hy v hv => ev_rep hr hv
def wild (P : Program) (op : Op) (f : FF) (G : Heap) (K : Kv) : Prop := ∃ S, StepF P op f G S ∧ ∀ x G', S x G' → K x G'
theorem wild.mk {K : Kv} (h : StepF P op f G S) (hk : ∀ x G', S x G' → K x G') : wild P op f G K := ⟨S, h, hk⟩
end
section
variable {P : Program} {G : Heap} {f : FF} {x y : Operand} {tx ty : TypeId}
theorem stepF_delete {b : Nat} {kvs : List (V × V)} {K z : V} {kt : TypeId} {r : Option (Nat × V)} (hb : hget G b = some (.map kvs)) (hx : ev f x = some (.map b)) (hy : ev f y = some K) (ht : tmap P tx = some (kt, z)) (hs : simpleKey P kt K = true) (hf : mfind K kvs 0 = some r) :
    StepF P (.call { callee := .builtin .delete, args := #[x, y], argTypes := #[tx, ty] }) f G (fun _ H => H = hset G b (.map (mdel kvs r))) := by
  intro E M w a op_ hop_ hm hr
  have e1 : a.eval x = .map (some b) := (hr x (by simp [Op.operands, Call.operands]) _ hx).map_inv
  obtain ⟨w', r1, r2⟩ := del_ok (tk := ty) (ty := op_.type) hm hb ht hs (hr y (by simp [Op.operands, Call.operands]) _ hy) hf
  refine ⟨.tuple #[], w', M, .any, _, ?_, M.le_refl, rfl, .any _, r2⟩
  simp only [execOp, hop_, resolve, invoke, builtin, Sem.run_bind, Sem.run_pure, Result.andThen_ok, List.map_toArray, List.map_cons, List.map_nil, e1, r1]
theorem stepF_clearMap {b : Nat} {kvs : List (V × V)} {z : V} {kt : TypeId} (hb : hget G b = some (.map kvs)) (hx : ev f x = some (.map b)) (ht : tmap P tx = some (kt, z)) :
    StepF P (.call { callee := .builtin .clear, args := #[x], argTypes := #[tx] }) f G (fun _ H => H = hset G b (.map [])) := by
  intro E M w a op_ hop_ hm hr
  have e1 : a.eval x = .map (some b) := (hr x (by simp [Op.operands, Call.operands]) _ hx).map_inv
  obtain ⟨w', r1, r2⟩ := clearMap_ok (ty := op_.type) hm hb ht
  refine ⟨.tuple #[], w', M, .any, _, ?_, M.le_refl, rfl, .any _, r2⟩
  simp only [execOp, hop_, resolve, invoke, builtin, Sem.run_bind, Sem.run_pure, Result.andThen_ok, List.map_toArray, List.map_cons, List.map_nil, e1, r1]
theorem stepF_clearRow {b o len cap n : Nat} {cs : List V} {z : V} {e : TypeId} (hb : hget G b = some (.vars cs)) (hx : ev f x = some (.ms b o len cap)) (ht : tslice P tx = some (e, n)) (hz : tzero P e = some z) (hp : plainV z = true) (hzn : (cellsV z).length = n) (hs : (cellsV z).all scalarV = true) (ho : o + len * n ≤ cs.length) :
    StepF P (.call { callee := .builtin .clear, args := #[x], argTypes := #[tx] }) f G (fun _ H => H = hset G b (.vars (setMany cs o (List.replicate len (cellsV z)).flatten))) := by
  intro E M w a op_ hop_ hm hr
  obtain ⟨e1, _⟩ := (hr x (by simp [Op.operands, Call.operands]) _ hx).ms_inv
  obtain ⟨w', r1, r2⟩ := clearRow_ok (ty := op_.type) (cap := cap) hm hb ht hz hp hzn hs ho
  refine ⟨.tuple #[], w', M, .any, _, ?_, M.le_refl, rfl, .any _, r2⟩
  simp only [execOp, hop_, resolve, invoke, builtin, Sem.run_bind, Sem.run_pure, Result.andThen_ok, List.map_toArray, List.map_cons, List.map_nil, e1, r1]
/-- An append of a part of a row of the call's own, into room. -/
theorem stepF_appendRow {b o len cap n b2 o2 l2 c2 : Nat} {cs cs2 : List V} {e : TypeId} (hx : ev f x = some (.ms b o len cap)) (hy : ev f y = some (.ms b2 o2 l2 c2)) (ht : tslice P tx = some (e, n)) (hk : kindIs P ty isSliceT = true) (hn : 0 < n)
    (hb : hget G b = some (.vars cs)) (hcap : o + cap * n ≤ cs.length) (hb2 : hget G b2 = some (.vars cs2)) (ho2 : o2 + l2 * n ≤ cs2.length) (hall : ((cs2.drop o2).take (l2 * n)).all scalarV = true) (hroom : len + l2 ≤ cap) :
    StepF P (.call { callee := .builtin .append, args := #[x, y], argTypes := #[tx, ty] }) f G (fun X H => X = .ms b o (len + l2) cap ∧ H = hset G b (.vars (setMany cs (o + len * n) ((cs2.drop o2).take (l2 * n))))) := by
  intro E M w a op_ hop_ hm hr
  obtain ⟨e1, hlc⟩ := (hr x (by simp [Op.operands, Call.operands]) _ hx).ms_inv
  obtain ⟨e2, hlc2⟩ := (hr y (by simp [Op.operands, Call.operands]) _ hy).ms_inv
  obtain ⟨hu, hsz⟩ := tslice_info ht
  obtain ⟨i, hi, hin⟩ := tsz_info hsz
  obtain ⟨dd, hd, hk⟩ := kindIs_some hk
  cases dd <;> simp [isSliceT] at hk
  have hfl : ((cs2.drop o2).take (l2 * n)).length = l2 * n := by rw [List.length_take, List.length_drop]; omega
  have hCR := ((hm.cellsRep_vars hb2).drop o2).take (l2 * n)
  rw [Nat.zero_add] at hCR
  obtain ⟨news, hrep, hcells⟩ := hCR
  have hnl : news.length = l2 * n := by rw [← hrep.1, hfl]
  have hs : Src P n ty (a.eval y) l2 news w := by
    rw [e2]
    refine Src.ofSlice w hd ⟨b2, o2, none⟩ l2 c2 news hnl (fun j u hj => by rw [Addr.add_lit]; exact hcells j u hj) (fun u hu => ?_)
    obtain ⟨j, hj, rfl⟩ := List.getElem_of_mem hu
    have hj2 : j < ((cs2.drop o2).take (l2 * n)).length := by rw [hrep.1]; exact hj
    have hR := hrep.2 j hj2
    rw [List.getD_eq_getElem?_getD, List.getElem?_eq_getElem hj] at hR
    exact scalar_one (List.all_eq_true.1 hall _ (List.getElem_mem hj2)) hR
  obtain ⟨hB, arr, T, fr, k1, k2, k3, k4, k5⟩ := hm.obj _ _ hb
  have hfit : len * n + news.length ≤ cap * n := by rw [hnl, ← Nat.add_mul]; exact Nat.mul_le_mul_right _ hroom
  have hcell : ∀ j, j < news.length → (w.cell? ⟨b, o + len * i.size + j, none⟩).isSome = true := fun j hj => by
    rw [hin]
    unfold World.cell?
    simp only [k1, Option.isSome_none, Bool.false_eq_true, if_false]
    rw [Array.getElem?_eq_getElem (by omega)]; rfl
  have hfz : ∀ j, j < news.length → w.frozen? ⟨b, o + len * i.size + j, none⟩ = false := fun j hj => by
    rw [hin]
    unfold World.frozen?
    simp only [k1]
    have := k4 (o + len * n + j) (by omega) (by omega)
    simp only [Bool.and_eq_false_iff, decide_eq_false_iff_not]
    by_cases q : fr.1 ≤ o + len * n + j
    · right; intro q2; exact this ⟨q, q2⟩
    · left; exact q
  have hrun := run_append_room_src (P := P) w tx ty op_.type e i hu hi b o len cap (a.eval y) l2 news (by rw [hin]; exact hs) hroom hcell hfz
  rw [hin] at hrun
  have hst := run_storeCells_cells (P := P) b (o + len * n) news 0 w (by simpa [hin] using hcell) (by simpa [hin] using hfz) hs.one
  obtain ⟨w2, g1, g2⟩ := Mem.storeCells (P := P) hrep hall hm hb (o + len * n) 0 (by rw [hfl]; rw [hnl] at hfit; omega)
  rw [g1] at hst
  simp only [Nat.add_zero, Result.ok.injEq, true_and] at hst
  subst hst
  rw [Nat.add_zero] at g2
  refine ⟨_, _, M, .ms b o (len + l2) cap, _, ?_, M.le_refl, ⟨rfl, rfl⟩, .ms _ _ _ _ hroom, g2⟩
  simp only [execOp, hop_, resolve, invoke, builtin, Sem.run_bind, Sem.run_pure, Result.andThen_ok, List.map_toArray, List.map_cons, List.map_nil, e1, hrun]
end
/-- What is known behind a store into a variable of the call's own. -/
theorem hset_facts {H1 H2 : Heap} {b : Nat} {x y : AObj} (h : hset H1 b x = H2) (hb : hget H1 b = some y) : hget H2 b = some x ∧ (∀ b' o, hget H1 b' = some o → ¬ b' = b → hget H2 b' = some o) ∧ (∀ G, hget G b = none → Sub G H1 → Sub G H2) ∧ (∀ G n t, (∀ e c, y ≠ .top e c) → Rm G H1 n t → Rm G H2 n t) := by
  subst h
  exact ⟨hget_hset_self hb, fun b' o h hn => hset_keep h hn, fun G h hs => sub_hset_fresh h hs, fun G n t hy hr => hr.hset hb hy⟩
end Go.Proofs.YtclmcpbanaojfaaV
