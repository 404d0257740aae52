/-
  How a region is walked: one operation at a time.
-/
import Derived.Test.YtomjghlaoncpbaaVm
namespace Go.Proofs.YtomjghlaoncpbaaV
open Go.RowKit
set_option linter.unusedVariables false
set_option linter.unusedSimpArgs false

/-- What of a region is yet to be walked. -/
inductive Rest where
  | t (os : List Oper)
  | d (σ : List (Nat × Bool))
def go (P : Program) (ops : List Oper) : Rest → Frame → Heap → Kf → Prop
  | .t os, f, G, K => rg P ops os f G K
  | .d σ, f, G, K => rgD P ops σ f G K
section
variable {P : Program} {ops : List Oper} {f : Frame} {G : Heap} {K : Kf} {q : Bool} {d : Option Tmp} {op : Op} {r : Rest}
/-- The operation is known to be carried out; its answer, if it writes nothing. -/
def goR (P : Program) (ops : List Oper) (x : R) (q : Bool) (d : Option Tmp) (op : Op) (r : Rest) (f : Frame) (G : Heap) (K : Kf) : Prop :=
  match x with
  | some (C, x) => C ∧ go P ops r (fput f d x) G K
  | none => match q with
    | false => fx P (fget f) G op (fun x G => go P ops r (fput f d x) G K)
    | true => match op with
      | .call { callee := .value c, args := as, argTypes := _ } => match callee (fget f) c, evL (fget f) as.toList with
        | some (g, xs, ys), some zs => ∃ x, QOn P G g (xs ++ zs ++ ys) x ∧ go P ops r (fput f d x) G K
        | _, _ => False
      | _ => False
/-- The same under a guard. -/
def goG (P : Program) (ops : List Oper) (x : R) (g q : Bool) (d : Option Tmp) (op : Op) (r : Rest) (f : Frame) (G : Heap) (K : Kf) : Prop :=
  match x with
  | some (C, x) => (g = true → C) ∧ go P ops r (fput f d (.opt g x)) G K
  | none => match q with
    | false => (g = true → fx P (unF g (fget f)) G op (fun x G => go P ops r (fput f d (.opt g x)) G K)) ∧ (g = false → ∃ x, go P ops r (fput f d (.opt g x)) G K)
    | true => match op with
      | .call { callee := .value c, args := as, argTypes := _ } => match callee (unF g (fget f)) c, evL (unF g (fget f)) as.toList with
        | some (h, xs, ys), some zs => ∃ x, (g = true → QOn P G h (xs ++ zs ++ ys) x) ∧ go P ops r (fput f d (.opt g x)) G K
        | _, _ => g = false ∧ go P ops r (fput f d (.opt g .any)) G K
      | _ => g = false ∧ go P ops r (fput f d (.opt g .any)) G K
def goV (P : Program) (ops : List Oper) (v : Option Bool) (q : Bool) (d : Option Tmp) (op : Op) (r : Rest) (f : Frame) (G : Heap) (K : Kf) : Prop :=
  match v with
  | some g => goG P ops (qv P (unF g (fget f)) G op) g q d op r f G K
  | none => False
def goT (P : Program) (ops : List Oper) (t : Option Tmp) (want : Bool) (q : Bool) (d : Option Tmp) (op : Op) (r : Rest) (f : Frame) (G : Heap) (K : Kf) : Prop :=
  match t with
  | some t => goV P ops ((fget f t).bind (gcond want)) q d op r f G K
  | none => False
def goO (P : Program) (ops : List Oper) (o : Option Oper) (q : Bool) (r : Rest) (f : Frame) (G : Heap) (K : Kf) : Prop :=
  match o with
  | some ⟨d, op, _, _, _, none⟩ => goR P ops (qv P (fget f) G op) q d op r f G K
  | some ⟨d, op, _, _, _, some (j, want)⟩ => goT P ops (gtmp ops j) want q d op r f G K
  | none => False
theorem stepV_goR : stepV P (fget f) G op (fun x G => go P ops r (fput f d x) G K) = goR P ops (qv P (fget f) G op) false d op r f G K := by
  unfold stepV goR
  cases qv P (fget f) G op with
  | none => rfl
  | some p => rfl
theorem quietK_goR : quietK P (fget f) G op (fun x G => go P ops r (fput f d x) G K) = goR P ops (qv P (fget f) G op) true d op r f G K := by
  unfold quietK goR
  cases qv P (fget f) G op with
  | none => rfl
  | some p => rfl
theorem semK_goR : semK P q (fget f) G op (fun x G => go P ops r (fput f d x) G K) = goR P ops (qv P (fget f) G op) q d op r f G K := by
  cases q
  · exact stepV_goR
  · exact quietK_goR
theorem gstep_goG {g : Bool} : gstep P g (fget f) G op (fun x G => go P ops r (fput f d x) G K) = goG P ops (qv P (unF g (fget f)) G op) g false d op r f G K := by
  unfold gstep goG
  cases qv P (unF g (fget f)) G op with
  | none => rfl
  | some p => rfl
theorem quietG_goG {g : Bool} : quietG P g (fget f) G op (fun x G => go P ops r (fput f d x) G K) = goG P ops (qv P (unF g (fget f)) G op) g true d op r f G K := by
  unfold quietG goG
  cases qv P (unF g (fget f)) G op with
  | none => rfl
  | some p => rfl
theorem semG_goG {g : Bool} : semG P q g (fget f) G op (fun x G => go P ops r (fput f d x) G K) = goG P ops (qv P (unF g (fget f)) G op) g q d op r f G K := by
  cases q
  · exact gstep_goG
  · exact quietG_goG
@[go_sem] theorem go_nil : go P ops (.t []) f G K = K f G := rfl
@[go_sem] theorem go_dnil : go P ops (.d []) f G K = K f G := rfl
@[go_sem] theorem go_op (ty : TypeId) (pos : String) (aft : Array Edge) (os : List Oper) : go P ops (.t (⟨d, op, ty, pos, aft, none⟩ :: os)) f G K = goR P ops (qv P (fget f) G op) false d op (.t os) f G K :=
  stepV_goR (r := .t os)
@[go_sem] theorem go_gd (ty : TypeId) (pos : String) (aft : Array Edge) (j : Nat) (want : Bool) (os : List Oper) : go P ops (.t (⟨d, op, ty, pos, aft, some (j, want)⟩ :: os)) f G K = goT P ops (gtmp ops j) want false d op (.t os) f G K := by
  show rg P ops _ f G K = _
  unfold rg
  simp only [goT]
  cases gtmp ops j with
  | none => rfl
  | some t =>
    simp only [goV]
    cases (fget f t).bind (gcond want) with
    | none => rfl
    | some g => exact gstep_goG (r := .t os)
/-- The operation of that number. -/
def pk (l : List Oper) (i : Nat) : Option Oper := l[i]?
@[go_sem] theorem pk_0 (o : Oper) (l : List Oper) : pk (o :: l) 0 = some o := rfl
@[go_sem] theorem pk_s (o : Oper) (l : List Oper) (i : Nat) : pk (o :: l) (i + 1) = pk l i := by simp [pk]
@[congr] theorem pk_cg {l : List Oper} {i i' : Nat} (h : i = i') : pk l i = pk l i' := h ▸ rfl
@[go_sem] theorem gtmp_0 (op : Op) (ty : TypeId) (pos : String) (aft : Array Edge) (g : Option (Nat × Bool)) (l : List Oper) : gtmp (⟨d, op, ty, pos, aft, g⟩ :: l) 0 = d := rfl
@[go_sem] theorem gtmp_s (o : Oper) (l : List Oper) (i : Nat) : gtmp (o :: l) (i + 1) = gtmp l i := by simp [gtmp]
@[congr] theorem gtmp_cg {l : List Oper} {i i' : Nat} (h : i = i') : gtmp l i = gtmp l i' := h ▸ rfl
@[go_sem] theorem go_d (i : Nat) (σ : List (Nat × Bool)) : go P ops (.d ((i, q) :: σ)) f G K = goO P ops (pk ops i) q (.d σ) f G K := by
  unfold pk
  show rgD P ops _ f G K = _
  unfold rgD goO
  cases ops[i]? with
  | none => rfl
  | some o =>
    obtain ⟨d, op, ty, pos, aft, g⟩ := o
    cases g with
    | none => exact semK_goR (r := .d σ)
    | some jw =>
      obtain ⟨j, want⟩ := jw
      simp only [goT]
      cases gtmp ops j with
      | none => rfl
      | some t =>
        simp only [goV]
        cases (fget f t).bind (gcond want) with
        | none => rfl
        | some g => exact semG_goG (r := .d σ)
@[go_sem] theorem goO_some (ty : TypeId) (pos : String) (aft : Array Edge) : goO P ops (some ⟨d, op, ty, pos, aft, none⟩) q r f G K = goR P ops (qv P (fget f) G op) q d op r f G K := rfl
@[go_sem] theorem goO_gd (ty : TypeId) (pos : String) (aft : Array Edge) (j : Nat) (want : Bool) : goO P ops (some ⟨d, op, ty, pos, aft, some (j, want)⟩) q r f G K = goT P ops (gtmp ops j) want q d op r f G K := rfl
@[go_sem] theorem goT_some (t : Tmp) (want : Bool) : goT P ops (some t) want q d op r f G K = goV P ops ((fget f t).bind (gcond want)) q d op r f G K := rfl
@[go_sem] theorem goV_some (g : Bool) : goV P ops (some g) q d op r f G K = goG P ops (qv P (unF g (fget f)) G op) g q d op r f G K := rfl
@[go_sem] theorem goG_some (C : Prop) (x : V) (g : Bool) : goG P ops (some (C, x)) g q d op r f G K = ((g = true → C) ∧ go P ops r (fput f d (.opt g x)) G K) := rfl
/-- A guarded operation that writes, or calls a function that does: one by one. -/
def goF (P : Program) (ops : List Oper) (g : Bool) (d : Option Tmp) (op : Op) (r : Rest) (f : Frame) (G : Heap) (K : Kf) : Prop := fx P (unF g (fget f)) G op (fun x G => go P ops r (fput f d (.opt g x)) G K)
theorem goG_split (g : Bool) (h1 : g = true → goF P ops g d op r f G K) (h2 : g = false → go P ops r (fput f d (.opt g .any)) G K) : goG P ops none g false d op r f G K := ⟨h1, fun e => ⟨_, h2 e⟩⟩
@[go_sem] theorem goR_some (C : Prop) (x : V) : goR P ops (some (C, x)) q d op r f G K = (C ∧ go P ops r (fput f d x) G K) := rfl

/-! ### what makes, writes, calls -/
def goNew (P : Program) (ops : List Oper) (z : Option V) (d : Option Tmp) (r : Rest) (f : Frame) (G : Heap) (K : Kf) : Prop :=
  match z with
  | some z => plainV z = true ∧ ∀ b, hget G b = none → go P ops r (fput f d (.ptr b 0)) ((b, .vars (cellsV z)) :: G) K
  | none => False
@[go_sem] theorem goR_alloc (t : TypeId) : goR P ops none false d (.alloc t) r f G K = goNew P ops (tzero P t) d r f G K := by
  simp only [goR, fx, goNew]
  cases tzero P t <;> rfl
@[go_sem] theorem goR_box (t : TypeId) (x : Operand) : goR P ops none false d (.box t x) r f G K = goNew P ops (ev (fget f) x) d r f G K := by
  simp only [goR, fx, goNew]
  cases ev (fget f) x <;> rfl
@[go_sem] theorem goNew_some (z : V) : goNew P ops (some z) d r f G K = (plainV z = true ∧ ∀ b, hget G b = none → go P ops r (fput f d (.ptr b 0)) ((b, .vars (cellsV z)) :: G) K) := rfl
def goSt2 (P : Program) (ops : List Oper) (o : Option AObj) (b z : Nat) (X : V) (n : Nat) (d : Option Tmp) (r : Rest) (f : Frame) (G : Heap) (K : Kf) : Prop :=
  match o with
  | some (.vars cs) => (plainV X = true ∧ (cellsV X).all scalarV = true ∧ (cellsV X).length = n ∧ z + n ≤ cs.length) ∧ go P ops r (fput f d .any) (hset G b (.vars (setMany cs z (cellsV X)))) K
  | _ => False
def goSt (P : Program) (ops : List Oper) (p x : Option V) (n : Option Nat) (d : Option Tmp) (r : Rest) (f : Frame) (G : Heap) (K : Kf) : Prop :=
  match p, x, n with
  | some (.ptr b z), some X, some n => goSt2 P ops (hget G b) b z X n d r f G K
  | _, _, _ => False
@[go_sem] theorem goR_store (t : TypeId) (p x : Operand) : goR P ops none false d (.store t p x) r f G K = goSt P ops (ev (fget f) p) (ev (fget f) x) (tsz P t) d r f G K := by
  simp only [goR, fx, goSt]
  cases ev (fget f) p with
  | none => rfl
  | some p => cases p <;> first | rfl | (cases ev (fget f) x <;> first | rfl | (cases tsz P t <;> first | rfl | (simp only [goSt2]; rename_i b z X n; cases hget G b <;> first | rfl | (rename_i o; cases o <;> rfl))))
@[go_sem] theorem goSt_some (b z : Nat) (X : V) (n : Nat) : goSt P ops (some (.ptr b z)) (some X) (some n) d r f G K = goSt2 P ops (hget G b) b z X n d r f G K := rfl
@[go_sem] theorem goSt2_some (b z : Nat) (X : V) (n : Nat) (cs : List V) : goSt2 P ops (some (.vars cs)) b z X n d r f G K = ((plainV X = true ∧ (cellsV X).all scalarV = true ∧ (cellsV X).length = n ∧ z + n ≤ cs.length) ∧ go P ops r (fput f d .any) (hset G b (.vars (setMany cs z (cellsV X)))) K) := rfl
/-- A call: by what it does, or (quiet) by its answer alone. -/
def goA (P : Program) (ops : List Oper) (g : FuncId) (xs : List V) (d : Option Tmp) (r : Rest) (f : Frame) (G : Heap) (K : Kf) : Prop := ACall P g xs (fun x G => go P ops r (fput f d x) G K) G
def goQ (P : Program) (ops : List Oper) (g : FuncId) (xs : List V) (d : Option Tmp) (r : Rest) (f : Frame) (G : Heap) (K : Kf) : Prop := ∃ x, QOn P G g xs x ∧ go P ops r (fput f d x) G K
def goC (P : Program) (ops : List Oper) (q : Bool) (c : Option (FuncId × List V × List V)) (zs : Option (List V)) (d : Option Tmp) (r : Rest) (f : Frame) (G : Heap) (K : Kf) : Prop :=
  match c, zs with
  | some (g, xs, ys), some zs => match q with | true => goQ P ops g (xs ++ zs ++ ys) d r f G K | false => goA P ops g (xs ++ zs ++ ys) d r f G K
  | _, _ => False
@[go_sem] theorem goR_call (c : Operand) (as : Array Operand) (ts : Array TypeId) : goR P ops none q d (.call { callee := .value c, args := as, argTypes := ts }) r f G K = goC P ops q (callee (fget f) c) (evL (fget f) as.toList) d r f G K := by
  cases q <;> simp only [goR, fx, goC, goA, goQ] <;> rfl
@[go_sem] theorem goC_q (g : FuncId) (xs ys zs : List V) : goC P ops true (some (g, xs, ys)) (some zs) d r f G K = goQ P ops g (xs ++ zs ++ ys) d r f G K := rfl
@[go_sem] theorem goC_a (g : FuncId) (xs ys zs : List V) : goC P ops false (some (g, xs, ys)) (some zs) d r f G K = goA P ops g (xs ++ zs ++ ys) d r f G K := rfl
theorem goQ_by {g : FuncId} {xs : List V} {x : V} (h : Quiet P g xs x) (hk : go P ops r (fput f d x) G K) : goQ P ops g xs d r f G K := ⟨x, h.qon G, hk⟩
theorem goQ_on {g : FuncId} {xs : List V} {x : V} (h : QOn P G g xs x) (hk : go P ops r (fput f d x) G K) : goQ P ops g xs d r f G K := ⟨x, h, hk⟩
theorem goA_q {g : FuncId} {xs : List V} {x : V} (h : Quiet P g xs x) (hk : go P ops r (fput f d x) G K) : goA P ops g xs d r f G K := h.call hk
theorem goA_by {g : FuncId} {xs : List V} {Q : V → Heap → Prop} (h : ACall P g xs Q G) (hk : ∀ x G, Q x G → go P ops r (fput f d x) G K) : goA P ops g xs d r f G K := h.mono hk
/-- A guarded quiet call. -/
def goQg (P : Program) (ops : List Oper) (n : FuncId) (xs : List V) (g : Bool) (d : Option Tmp) (r : Rest) (f : Frame) (G : Heap) (K : Kf) : Prop := ∃ x, (g = true → QOn P G n xs x) ∧ go P ops r (fput f d (.opt g x)) G K
def goCg (P : Program) (ops : List Oper) (c : Option (FuncId × List V × List V)) (zs : Option (List V)) (g : Bool) (d : Option Tmp) (r : Rest) (f : Frame) (G : Heap) (K : Kf) : Prop :=
  match c, zs with
  | some (h, xs, ys), some zs => goQg P ops h (xs ++ zs ++ ys) g d r f G K
  | _, _ => g = false ∧ go P ops r (fput f d (.opt g .any)) G K
@[go_sem] theorem goG_call (g : Bool) (c : Operand) (as : Array Operand) (ts : Array TypeId) : goG P ops none g true d (.call { callee := .value c, args := as, argTypes := ts }) r f G K = goCg P ops (callee (unF g (fget f)) c) (evL (unF g (fget f)) as.toList) g d r f G K := by
  simp only [goG, goCg, goQg]
@[go_sem] theorem goCg_some (g : Bool) (h : FuncId) (xs ys zs : List V) : goCg P ops (some (h, xs, ys)) (some zs) g d r f G K = goQg P ops h (xs ++ zs ++ ys) g d r f G K := rfl
/-- A guarded call in an ordered region. -/
def goH (P : Program) (ops : List Oper) (n : FuncId) (xs : List V) (g : Bool) (d : Option Tmp) (r : Rest) (f : Frame) (G : Heap) (K : Kf) : Prop := (g = true → ACall P n xs (fun x G => go P ops r (fput f d (.opt g x)) G K) G) ∧ (g = false → ∃ x, go P ops r (fput f d (.opt g x)) G K)
def goCh (P : Program) (ops : List Oper) (c : Option (FuncId × List V × List V)) (zs : Option (List V)) (g : Bool) (d : Option Tmp) (r : Rest) (f : Frame) (G : Heap) (K : Kf) : Prop :=
  match c, zs with
  | some (h, xs, ys), some zs => goH P ops h (xs ++ zs ++ ys) g d r f G K
  | _, _ => g = false ∧ ∃ x, go P ops r (fput f d (.opt g x)) G K
@[go_sem] theorem goG_callh (g : Bool) (c : Operand) (as : Array Operand) (ts : Array TypeId) : goG P ops none g false d (.call { callee := .value c, args := as, argTypes := ts }) r f G K = goCh P ops (callee (unF g (fget f)) c) (evL (unF g (fget f)) as.toList) g d r f G K := by
  simp only [goG, goCh, goH, fx]
  cases callee (unF g (fget f)) c with
  | none => cases g <;> simp
  | some p => cases evL (unF g (fget f)) as.toList with
    | none => cases g <;> simp
    | some zs => rfl
@[go_sem] theorem goCh_some (g : Bool) (h : FuncId) (xs ys zs : List V) : goCh P ops (some (h, xs, ys)) (some zs) g d r f G K = goH P ops h (xs ++ zs ++ ys) g d r f G K := rfl
theorem goH_q {n : FuncId} {xs : List V} {g : Bool} {x : V} (h : g = true → Quiet P n xs x) (hk : go P ops r (fput f d (.opt g x)) G K) : goH P ops n xs g d r f G K := ⟨fun e => (h e).call hk, fun e => ⟨x, hk⟩⟩
theorem goH_by {n : FuncId} {xs : List V} {g : Bool} {Q : V → Heap → Prop} (h : g = true → ACall P n xs Q G) (hk : ∀ x G, Q x G → go P ops r (fput f d (.opt g x)) G K) (hf : g = false → go P ops r (fput f d (.opt g .any)) G K) : goH P ops n xs g d r f G K := ⟨fun e => (h e).mono hk, fun e => ⟨_, hf e⟩⟩
def goAg (P : Program) (ops : List Oper) (n : FuncId) (xs : List V) (g : Bool) (d : Option Tmp) (r : Rest) (f : Frame) (G : Heap) (K : Kf) : Prop := ACall P n xs (fun x G => go P ops r (fput f d (.opt g x)) G K) G
def goFC (P : Program) (ops : List Oper) (c : Option (FuncId × List V × List V)) (zs : Option (List V)) (g : Bool) (d : Option Tmp) (r : Rest) (f : Frame) (G : Heap) (K : Kf) : Prop :=
  match c, zs with
  | some (h, xs, ys), some zs => goAg P ops h (xs ++ zs ++ ys) g d r f G K
  | _, _ => False
@[go_sem] theorem goF_call (g : Bool) (c : Operand) (as : Array Operand) (ts : Array TypeId) : goF P ops g d (.call { callee := .value c, args := as, argTypes := ts }) r f G K = goFC P ops (callee (unF g (fget f)) c) (evL (unF g (fget f)) as.toList) g d r f G K := by
  simp only [goF, fx, goFC, goAg]
  rfl
@[go_sem] theorem goFC_some (g : Bool) (h : FuncId) (xs ys zs : List V) : goFC P ops (some (h, xs, ys)) (some zs) g d r f G K = goAg P ops h (xs ++ zs ++ ys) g d r f G K := rfl
theorem goAg_q {n : FuncId} {xs : List V} {g : Bool} {x : V} (h : Quiet P n xs x) (hk : go P ops r (fput f d (.opt g x)) G K) : goAg P ops n xs g d r f G K := h.call hk
theorem goAg_by {n : FuncId} {xs : List V} {g : Bool} {Q : V → Heap → Prop} (h : ACall P n xs Q G) (hk : ∀ x G, Q x G → go P ops r (fput f d (.opt g x)) G K) : goAg P ops n xs g d r f G K := h.mono hk
theorem goQg_by {n : FuncId} {xs : List V} {g : Bool} {x : V} (h : g = true → Quiet P n xs x) (hk : go P ops r (fput f d (.opt g x)) G K) : goQg P ops n xs g d r f G K := ⟨x, fun e => (h e).qon G, hk⟩
theorem goQg_on {n : FuncId} {xs : List V} {g : Bool} {x : V} (h : g = true → QOn P G n xs x) (hk : go P ops r (fput f d (.opt g x)) G K) : goQg P ops n xs g d r f G K := ⟨x, h, hk⟩
/-- Append. -/
def goP (P : Program) (ops : List Oper) (c : Prop) (n : Nat) (es ys : List (List V)) (nl : Bool) (t : Tag) (d : Option Tmp) (r : Rest) (f : Frame) (G : Heap) (K : Kf) : Prop :=
  c ∧ appK G n es ys nl t (fun x G => go P ops r (fput f d x) G K)
def goP2 (P : Program) (ops : List Oper) (es : List (List V)) (nl : Bool) (t : Tag) (n : Nat) (ys : Option (List (List V))) (k : Option Nat) (z : Option V) (d : Option Tmp) (r : Rest) (f : Frame) (G : Heap) (K : Kf) : Prop :=
  match ys, k, z with
  | some ys, some k, some z => goP P ops (appC n k z es ys) n es ys nl t d r f G K
  | _, _, _ => False
def goP1 (P : Program) (ops : List Oper) (x y : Option V) (s : Option (TypeId × Nat)) (ty : TypeId) (d : Option Tmp) (r : Rest) (f : Frame) (G : Heap) (K : Kf) : Prop :=
  match x, y, s with
  | some (.sl es nl t), some Y, some (e, n) => goP2 P ops es nl t n (srcV P ty Y) (tbytes P e) (tzero P e) d r f G K
  | _, _, _ => False
@[go_sem] theorem goR_append (x y : Operand) (tx ty : TypeId) : goR P ops none false d (.call { callee := .builtin .append, args := #[x, y], argTypes := #[tx, ty] }) r f G K = goP1 P ops (ev (fget f) x) (ev (fget f) y) (tslice P tx) ty d r f G K := by
  simp only [goR, fx, goP1]
  cases ev (fget f) x with
  | none => rfl
  | some X => cases X <;> first | rfl | (cases ev (fget f) y <;> first | rfl | (cases tslice P tx <;> first | rfl | (rename_i p; obtain ⟨e, n⟩ := p; simp only [goP2]; rename_i Y; cases srcV P ty Y <;> first | rfl | (cases tbytes P e <;> first | rfl | (cases tzero P e <;> rfl)))))
@[go_sem] theorem goP1_some (es : List (List V)) (nl : Bool) (t : Tag) (Y : V) (e n : Nat) (ty : TypeId) : goP1 P ops (some (.sl es nl t)) (some Y) (some (e, n)) ty d r f G K = goP2 P ops es nl t n (srcV P ty Y) (tbytes P e) (tzero P e) d r f G K := rfl
@[go_sem] theorem goP2_some (es : List (List V)) (nl : Bool) (t : Tag) (n : Nat) (ys : List (List V)) (k : Nat) (z : V) : goP2 P ops es nl t n (some ys) (some k) (some z) d r f G K = goP P ops (appC n k z es ys) n es ys nl t d r f G K := rfl
def goM2 (P : Program) (ops : List Oper) (l c : Int) (n : Nat) (k : Option Nat) (z : Option V) (d : Option Tmp) (r : Rest) (f : Frame) (G : Heap) (K : Kf) : Prop :=
  match k, z with
  | some k, some z => (plainV z = true ∧ (cellsV z).length = n ∧ 0 ≤ l ∧ l ≤ c ∧ c * k ≤ 281474976710656 ∧ c ≤ 9223372036854775807) ∧ ∀ b, hget G b = none → go P ops r (fput f d (.ms b 0 l.toNat c.toNat)) ((b, .vars (List.replicate c.toNat (cellsV z)).flatten) :: G) K
  | _, _ => False
def goM1 (P : Program) (ops : List Oper) (l c : Option V) (s : Option (TypeId × Nat)) (d : Option Tmp) (r : Rest) (f : Frame) (G : Heap) (K : Kf) : Prop :=
  match l, c, s with
  | some (.int _ l), some (.int _ c), some (e, n) => goM2 P ops l c n (tbytes P e) (tzero P e) d r f G K
  | _, _, _ => False
@[go_sem] theorem goR_make (t : TypeId) (l c : Operand) : goR P ops none false d (.makeSlice t l c) r f G K = goM1 P ops (ev (fget f) l) (ev (fget f) c) (tslice P t) d r f G K := by
  simp only [goR, fx, goM1]
  cases ev (fget f) l with
  | none => rfl
  | some L => cases L <;> first | rfl | (cases ev (fget f) c with
    | none => rfl
    | some C => cases C <;> first | rfl | (cases tslice P t <;> first | rfl | (rename_i p; obtain ⟨e, n⟩ := p; simp only [goM2]; cases tbytes P e <;> first | rfl | (cases tzero P e <;> rfl))))
@[go_sem] theorem goM1_some (k1 k2 : IntKind) (l c : Int) (e n : Nat) : goM1 P ops (some (.int k1 l)) (some (.int k2 c)) (some (e, n)) d r f G K = goM2 P ops l c n (tbytes P e) (tzero P e) d r f G K := rfl
@[go_sem] theorem goM2_some (l c : Int) (n k : Nat) (z : V) : goM2 P ops l c n (some k) (some z) d r f G K = ((plainV z = true ∧ (cellsV z).length = n ∧ 0 ≤ l ∧ l ≤ c ∧ c * k ≤ 281474976710656 ∧ c ≤ 9223372036854775807) ∧ ∀ b, hget G b = none → go P ops r (fput f d (.ms b 0 l.toNat c.toNat)) ((b, .vars (List.replicate c.toNat (cellsV z)).flatten) :: G) K) := rfl

/-! ### where simp looks -/
/-- Where the guard is not met and the answer is not known. -/
@[go_sem] theorem goG_offFieldAddr (g : Bool) (s : TypeId) (x : Operand) (i : Nat) : goG P ops none g true d (.fieldAddr s x i) r f G K = (g = false ∧ go P ops r (fput f d (.opt g .any)) G K) := rfl
@[go_sem] theorem goG_offLoad (g : Bool) (s : TypeId) (x : Operand) : goG P ops none g true d (.load s x) r f G K = (g = false ∧ go P ops r (fput f d (.opt g .any)) G K) := rfl
@[go_sem] theorem goG_offIndexAddr (g : Bool) (s : TypeId) (x i : Operand) : goG P ops none g true d (.indexAddr s x i) r f G K = (g = false ∧ go P ops r (fput f d (.opt g .any)) G K) := rfl
@[go_sem] theorem goG_offBinOp (g : Bool) (op : BinOp) (s s2 : TypeId) (x y : Operand) : goG P ops none g true d (.binOp op s x y s2) r f G K = (g = false ∧ go P ops r (fput f d (.opt g .any)) G K) := rfl
@[go_sem] theorem goG_offUnOp (g : Bool) (op : UnOp) (s : TypeId) (x : Operand) : goG P ops none g true d (.unOp op s x) r f G K = (g = false ∧ go P ops r (fput f d (.opt g .any)) G K) := rfl
@[go_sem] theorem goG_offLookup (g : Bool) (s : TypeId) (x i : Operand) (c : Bool) : goG P ops none g true d (.lookup s x i c) r f G K = (g = false ∧ go P ops r (fput f d (.opt g .any)) G K) := rfl
@[go_sem] theorem goG_offBuiltin (g : Bool) (b : Builtin) (as : Array Operand) (ts : Array TypeId) : goG P ops none g true d (.call { callee := .builtin b, args := as, argTypes := ts }) r f G K = (g = false ∧ go P ops r (fput f d (.opt g .any)) G K) := rfl
@[go_sem] theorem goG_offField (g : Bool) (s : TypeId) (x : Operand) (i : Nat) : goG P ops none g true d (.field s x i) r f G K = (g = false ∧ go P ops r (fput f d (.opt g .any)) G K) := rfl
@[go_sem] theorem goG_offIndex (g : Bool) (s : TypeId) (x i : Operand) : goG P ops none g true d (.index s x i) r f G K = (g = false ∧ go P ops r (fput f d (.opt g .any)) G K) := rfl
@[go_sem] theorem goG_offExtract (g : Bool) (x : Operand) (i : Nat) : goG P ops none g true d (.extract x i) r f G K = (g = false ∧ go P ops r (fput f d (.opt g .any)) G K) := rfl
@[go_sem] theorem goG_offNilCheck (g : Bool) (x : Operand) : goG P ops none g true d (.nilCheck x) r f G K = (g = false ∧ go P ops r (fput f d (.opt g .any)) G K) := rfl
@[go_sem] theorem goG_offConvert (g : Bool) (s t : TypeId) (x : Operand) : goG P ops none g true d (.convert s t x) r f G K = (g = false ∧ go P ops r (fput f d (.opt g .any)) G K) := rfl
/-- A map that is made, and what is put into one. -/
@[go_sem] theorem goR_makeMap (t : TypeId) : goR P ops none false d (.makeMap t none) r f G K = (∀ b, hget G b = none → go P ops r (fput f d (.map b)) ((b, .map []) :: G) K) := by
  simp only [goR, fx]
def goU3 (P : Program) (ops : List Oper) (rr : Option (Option (Nat × V))) (kvs : List (V × V)) (b : Nat) (KK X : V) (s : Bool) (d : Option Tmp) (r : Rest) (f : Frame) (G : Heap) (K : Kf) : Prop :=
  match rr with
  | some r' => s = true ∧ go P ops r (fput f d .any) (hset G b (.map (mput kvs KK X r'))) K
  | none => False
def goU2 (P : Program) (ops : List Oper) (o : Option AObj) (b : Nat) (KK X : V) (s : Bool) (d : Option Tmp) (r : Rest) (f : Frame) (G : Heap) (K : Kf) : Prop :=
  match o with
  | some (.map kvs) => goU3 P ops (mfind KK kvs 0) kvs b KK X s d r f G K
  | _ => False
def goU (P : Program) (ops : List Oper) (m k x : Option V) (tm : Option (TypeId × V)) (d : Option Tmp) (r : Rest) (f : Frame) (G : Heap) (K : Kf) : Prop :=
  match m, k, x, tm with
  | some (.map b), some KK, some X, some (kt, _) => goU2 P ops (hget G b) b KK X (simpleKey P kt KK) d r f G K
  | _, _, _, _ => False
@[go_sem] theorem goR_mapUpdate (t : TypeId) (m k x : Operand) : goR P ops none false d (.mapUpdate t m k x) r f G K = goU P ops (ev (fget f) m) (ev (fget f) k) (ev (fget f) x) (tmap P t) d r f G K := by
  simp only [goR, fx, goU]
  cases ev (fget f) m with
  | none => rfl
  | some mv => cases mv <;> first | rfl | (cases ev (fget f) k <;> first | rfl | (cases ev (fget f) x <;> first | rfl | (cases tmap P t with
    | none => rfl
    | some kz => obtain ⟨kt, z⟩ := kz; simp only [goU2]; rename_i b KK X; cases hget G b <;> first | rfl | (rename_i o; cases o <;> first | rfl | (simp only [goU3]; rename_i kvs; cases mfind KK kvs 0 <;> rfl)))))
@[go_sem] theorem goR_insert (t : TypeId) (m k x : Operand) : goR P ops none false d (.insert t m k x) r f G K = goU P ops (ev (fget f) m) (ev (fget f) k) (ev (fget f) x) (tmap P t) d r f G K := by
  simp only [goR, fx, goU]
  cases ev (fget f) m with
  | none => rfl
  | some mv => cases mv <;> first | rfl | (cases ev (fget f) k <;> first | rfl | (cases ev (fget f) x <;> first | rfl | (cases tmap P t with
    | none => rfl
    | some kz => obtain ⟨kt, z⟩ := kz; simp only [goU2]; rename_i b KK X; cases hget G b <;> first | rfl | (rename_i o; cases o <;> first | rfl | (simp only [goU3]; rename_i kvs; cases mfind KK kvs 0 <;> rfl)))))
@[go_sem] theorem goU_some (b : Nat) (KK X : V) (kt : TypeId) (z : V) : goU P ops (some (.map b)) (some KK) (some X) (some (kt, z)) d r f G K = goU2 P ops (hget G b) b KK X (simpleKey P kt KK) d r f G K := rfl
@[go_sem] theorem goU2_some (kvs : List (V × V)) (b : Nat) (KK X : V) (s : Bool) : goU2 P ops (some (.map kvs)) b KK X s d r f G K = goU3 P ops (mfind KK kvs 0) kvs b KK X s d r f G K := rfl
@[go_sem] theorem goU3_some (r' : Option (Nat × V)) (kvs : List (V × V)) (b : Nat) (KK X : V) (s : Bool) : goU3 P ops (some r') kvs b KK X s d r f G K = (s = true ∧ go P ops r (fput f d .any) (hset G b (.map (mput kvs KK X r'))) K) := rfl
@[congr] theorem goU_cg {m m' k k' x x' : Option V} {tm tm' : Option (TypeId × V)} (h : m = m') (h2 : k = k') (h3 : x = x') (h4 : tm = tm') : goU P ops m k x tm d r f G K = goU P ops m' k' x' tm' d r f G K := by subst h h2 h3 h4; rfl
@[congr] theorem goU2_cg {o o' : Option AObj} {b : Nat} {KK X : V} {s s' : Bool} (h : o = o') (h2 : s = s') : goU2 P ops o b KK X s d r f G K = goU2 P ops o' b KK X s' d r f G K := by subst h h2; rfl
@[congr] theorem goU3_cg {rr rr' : Option (Option (Nat × V))} {kvs : List (V × V)} {b : Nat} {KK X : V} {s s' : Bool} (h : rr = rr') (h2 : s = s') : goU3 P ops rr kvs b KK X s d r f G K = goU3 P ops rr' kvs b KK X s' d r f G K := by subst h h2; rfl
@[congr] theorem go_cg {f' : Frame} (h : f = f') : go P ops r f G K = go P ops r f' G K := h ▸ rfl
@[congr] theorem goR_cg {x x' : R} (h : x = x') : goR P ops x q d op r f G K = goR P ops x' q d op r f G K := h ▸ rfl
@[congr] theorem goG_cg {x x' : R} {g : Bool} (h : x = x') : goG P ops x g q d op r f G K = goG P ops x' g q d op r f G K := h ▸ rfl
@[congr] theorem goV_cg {x x' : Option Bool} (h : x = x') : goV P ops x q d op r f G K = goV P ops x' q d op r f G K := h ▸ rfl
@[congr] theorem goQg_cg {n : FuncId} {g : Bool} {xs xs' : List V} (h : xs = xs') : goQg P ops n xs g d r f G K = goQg P ops n xs' g d r f G K := h ▸ rfl
@[congr] theorem goAg_cg {n : FuncId} {g : Bool} {xs xs' : List V} (h : xs = xs') : goAg P ops n xs g d r f G K = goAg P ops n xs' g d r f G K := h ▸ rfl
@[congr] theorem goCg_cg {g : Bool} {c c' : Option (FuncId × List V × List V)} {z z' : Option (List V)} (h : c = c') (h2 : z = z') : goCg P ops c z g d r f G K = goCg P ops c' z' g d r f G K := by subst h h2; rfl
@[congr] theorem goFC_cg {g : Bool} {c c' : Option (FuncId × List V × List V)} {z z' : Option (List V)} (h : c = c') (h2 : z = z') : goFC P ops c z g d r f G K = goFC P ops c' z' g d r f G K := by subst h h2; rfl
@[congr] theorem goH_cg {n : FuncId} {g : Bool} {xs xs' : List V} (h : xs = xs') : goH P ops n xs g d r f G K = goH P ops n xs' g d r f G K := h ▸ rfl
@[congr] theorem goCh_cg {g : Bool} {c c' : Option (FuncId × List V × List V)} {z z' : Option (List V)} (h : c = c') (h2 : z = z') : goCh P ops c z g d r f G K = goCh P ops c' z' g d r f G K := by subst h h2; rfl
@[congr] theorem goF_cg {g : Bool} : goF P ops g d op r f G K = goF P ops g d op r f G K := rfl
@[congr] theorem goT_cg {x x' : Option Tmp} {want : Bool} (h : x = x') : goT P ops x want q d op r f G K = goT P ops x' want q d op r f G K := h ▸ rfl
@[congr] theorem goO_cg {x x' : Option Oper} (h : x = x') : goO P ops x q r f G K = goO P ops x' q r f G K := h ▸ rfl
@[congr] theorem goNew_cg {x x' : Option V} (h : x = x') : goNew P ops x d r f G K = goNew P ops x' d r f G K := h ▸ rfl
@[congr] theorem goSt_cg {x x' y y' : Option V} {n n' : Option Nat} (h : x = x') (h2 : y = y') (h3 : n = n') : goSt P ops x y n d r f G K = goSt P ops x' y' n' d r f G K := by subst h h2 h3; rfl
@[congr] theorem goSt2_cg {x x' : Option AObj} {b z n : Nat} {X : V} (h : x = x') : goSt2 P ops x b z X n d r f G K = goSt2 P ops x' b z X n d r f G K := h ▸ rfl
@[congr] theorem goA_cg {g : FuncId} {xs xs' : List V} (h : xs = xs') : goA P ops g xs d r f G K = goA P ops g xs' d r f G K := h ▸ rfl
@[congr] theorem goQ_cg {g : FuncId} {xs xs' : List V} (h : xs = xs') : goQ P ops g xs d r f G K = goQ P ops g xs' d r f G K := h ▸ rfl
@[congr] theorem goC_cg {c c' : Option (FuncId × List V × List V)} {z z' : Option (List V)} (h : c = c') (h2 : z = z') : goC P ops q c z d r f G K = goC P ops q c' z' d r f G K := by subst h h2; rfl
@[congr] theorem goP_cg {c c' : Prop} {n : Nat} {es ys : List (List V)} {nl : Bool} {t : Tag} (h : c = c') : goP P ops c n es ys nl t d r f G K = goP P ops c' n es ys nl t d r f G K := h ▸ rfl
@[congr] theorem goP1_cg {x x' y y' : Option V} {s s' : Option (TypeId × Nat)} {ty : TypeId} (h : x = x') (h2 : y = y') (h3 : s = s') : goP1 P ops x y s ty d r f G K = goP1 P ops x' y' s' ty d r f G K := by subst h h2 h3; rfl
@[congr] theorem goP2_cg {es : List (List V)} {nl : Bool} {t : Tag} {n : Nat} {ys ys' : Option (List (List V))} {k k' : Option Nat} {z z' : Option V} (h : ys = ys') (h2 : k = k') (h3 : z = z') : goP2 P ops es nl t n ys k z d r f G K = goP2 P ops es nl t n ys' k' z' d r f G K := by subst h h2 h3; rfl
@[congr] theorem goM1_cg {x x' y y' : Option V} {s s' : Option (TypeId × Nat)} (h : x = x') (h2 : y = y') (h3 : s = s') : goM1 P ops x y s d r f G K = goM1 P ops x' y' s' d r f G K := by subst h h2 h3; rfl
@[congr] theorem goM2_cg {l c : Int} {n : Nat} {k k' : Option Nat} {z z' : Option V} (h2 : k = k') (h3 : z = z') : goM2 P ops l c n k z d r f G K = goM2 P ops l c n k' z' d r f G K := by subst h2 h3; rfl

/-! ### the entries -/
/-- Each variable of the first is so in the second. -/
def FSub : Frame → Frame → Prop
  | [], _ => True
  | (i, v) :: g, f => fget f i = some v ∧ FSub g f
def HSub : Heap → Heap → Prop
  | [], _ => True
  | (b, o) :: g, G => hget G b = some o ∧ HSub g G
theorem FSub.ok : ∀ {g f : Frame}, FSub g f → ∀ i v, fget g i = some v → fget f i = some v
  | [], f, h, i, v, hi => by simp [fget] at hi
  | (j, u) :: g, f, h, i, v, hi => by
    rw [fget] at hi
    split at hi
    · rename_i e; subst e; cases hi; exact h.1
    · exact FSub.ok h.2 i v hi
theorem HSub.ok : ∀ {g f : Heap}, HSub g f → ∀ i v, hget g i = some v → hget f i = some v
  | [], f, h, i, v, hi => by simp [hget] at hi
  | (j, u) :: g, f, h, i, v, hi => by
    rw [hget] at hi
    split at hi
    · rename_i e; subst e; cases hi; exact h.1
    · exact HSub.ok h.2 i v hi
/-- A loop that leaves the heap as it is. -/
theorem aw_lp {P : Program} {N : Nat} {Q : Cont} {f : Frame} {G : Heap} {c : Code} {S : Type} (F : S → Frame) (μ : S → Nat) (s0 : S) (hf : FSub (F s0) f)
    (round : ∀ s, AW P N c (thenK (fun f' G' => ∃ s', μ s' < μ s ∧ FSub (F s') f' ∧ G' = G) Q) (F s) G) : AW P N (.loop c) Q f G :=
  aw_loop F (fun _ => G) μ s0 hf.ok (fun _ _ h => h) fun s => (round s).mono fun e f' G' h => by
    cases e with
    | normal => obtain ⟨s', h1, h2, rfl⟩ := h; exact ⟨s', h1, h2.ok, fun _ _ h => h⟩
    | _ => exact h
/-- A loop that changes the heap. -/
theorem aw_lph {P : Program} {N : Nat} {Q : Cont} {f : Frame} {G : Heap} {c : Code} {S : Type} (F : S → Frame) (H : S → Heap) (μ : S → Nat) (s0 : S) (hf : FSub (F s0) f) (hG : ∀ b o, hget (H s0) b = some o → hget G b = some o)
    (round : ∀ s, AW P N c (thenK (fun f' G' => ∃ s', μ s' < μ s ∧ FSub (F s') f' ∧ ∀ b o, hget (H s') b = some o → hget G' b = some o) Q) (F s) (H s)) : AW P N (.loop c) Q f G :=
  aw_loop F H μ s0 hf.ok hG fun s => (round s).mono fun e f' G' h => by
    cases e with
    | normal => obtain ⟨s', h1, h2, h3⟩ := h; exact ⟨s', h1, h2.ok, h3⟩
    | _ => exact h
variable {N : Nat} {Q : Cont} {f : Frame}
/-- A region ahead of the rest. -/
theorem aw_sr {id : Nat} {l : List Oper} {y : Code} (hd : l.all (dstOk N) = true) (h : go P l (.t l) f G (fun f G => AW P N y Q f G)) : AW P N (.seq (.region id l.toArray false) y) Q f G :=
  aw_seq' (aw_region hd h)
theorem aw_srd {id : Nat} {l : List Oper} {y : Code} (σ : List (Nat × Bool)) (hmx : P.follows .mixedOrders = true) (hd : l.all (dstOk N) = true) (ho : ordOk l.toArray σ = true) (h : go P l (.d σ) f G (fun f G => AW P N y Q f G)) : AW P N (.seq (.region id l.toArray true) y) Q f G :=
  aw_seq' (aw_region_draw σ hmx hd ho h)
/-- What is known between two pieces. -/
theorem aw_mid {x y : Code} (R : Frame → Heap → Prop) (h1 : AW P N x (thenK R Q) f G) (h2 : ∀ f G, R f G → AW P N y Q f G) : AW P N (.seq x y) Q f G :=
  aw_seq fun K hK => h1.mono fun e f G h => by cases e <;> first | exact hK _ _ (h2 _ _ h) | exact h
theorem aw_rg {id : Nat} {l : List Oper} (hd : l.all (dstOk N) = true) (h : go P l (.t l) f G (fun f G => Q .normal f G)) : AW P N (.region id l.toArray false) Q f G := aw_region hd h
theorem aw_rgd {id : Nat} {l : List Oper} (σ : List (Nat × Bool)) (hmx : P.follows .mixedOrders = true) (hd : l.all (dstOk N) = true) (ho : ordOk l.toArray σ = true) (h : go P l (.d σ) f G (fun f G => Q .normal f G)) : AW P N (.region id l.toArray true) Q f G := aw_region_draw σ hmx hd ho h
end
attribute [go_sem] cellsAt List.getElem?_cons_zero List.getElem?_cons_succ List.drop_succ_cons List.drop_zero List.take_succ_cons List.take_zero List.take_nil List.length_cons List.length_nil Int.toNat_natCast List.length_map FSub Option.some.injEq List.toList_toArray
attribute [go_sem] if_true if_false true_and and_true Bool.not_true Bool.not_false fargs cellsV
attribute [go_sem] List.getElem?_nil List.map_nil List.getD_nil lookV lkF lkR simpleKey eqS eqFs eqK qv ev evL evO ofConst ok lenV binV binI binS convV addrAt loadV fieldV bnd fillC fillE callee
theorem getD_map {α : Type} {e : α → List V} {xs : List α} {i : Nat} (h : i < xs.length) : (xs.map e).getD i [] = e xs[i] := by
  rw [List.getD_eq_getElem?_getD, List.getElem?_map, List.getElem?_eq_getElem h]; rfl
theorem take_next {α : Type} {xs ys : List α} {i : Nat} (h : xs.take i = ys.take i) (hx : i < xs.length) (hy : i < ys.length) (he : xs[i] = ys[i]) : xs.take (i + 1) = ys.take (i + 1) := by
  rw [List.take_succ_eq_append_getElem hx, List.take_succ_eq_append_getElem hy, h, he]
section
variable {g t : Bool}
@[go_sem] theorem unF_app (f : FF) (i : Nat) : unF g f i = (f i).map (unopt g) := rfl
@[go_sem] theorem unopt_opt (x : V) : unopt g (.opt g x) = x := by cases g <;> rfl
@[go_sem] theorem unopt_opt2 (y : Bool) : unopt t (unopt g (.opt (g && t) (.bool y))) = .bool y := by cases g <;> cases t <;> rfl
@[go_sem] theorem unopt_opt3 (y : Bool) : unopt t (unopt true (.opt t (.bool y))) = .bool y := by cases t <;> rfl
@[go_sem] theorem unopt_any : unopt g .any = .any := rfl
@[go_sem] theorem unopt_bool (b : Bool) : unopt g (.bool b) = .bool b := rfl
@[go_sem] theorem unopt_int (k : IntKind) (n : Int) : unopt g (.int k n) = .int k n := rfl
@[go_sem] theorem unopt_str (s : List UInt8) : unopt g (.str s) = .str s := rfl
@[go_sem] theorem unopt_nilp : unopt g .nilp = .nilp := rfl
@[go_sem] theorem unopt_ptr (b o : Nat) : unopt g (.ptr b o) = .ptr b o := rfl
@[go_sem] theorem unopt_lp (cs : List V) (o : Nat) : unopt g (.lp cs o) = .lp cs o := rfl
@[go_sem] theorem unopt_sl (es : List (List V)) (nl : Bool) (t : Tag) : unopt g (.sl es nl t) = .sl es nl t := rfl
@[go_sem] theorem unopt_ms (b o l c : Nat) : unopt g (.ms b o l c) = .ms b o l c := rfl
@[go_sem] theorem unopt_nilm : unopt g .nilm = .nilm := rfl
@[go_sem] theorem unopt_map (b : Nat) : unopt g (.map b) = .map b := rfl
@[go_sem] theorem unopt_func (fn : Fn) (xs ys : List V) : unopt g (.func fn xs ys) = .func fn xs ys := rfl
@[go_sem] theorem unopt_nilf : unopt g .nilf = .nilf := rfl
@[go_sem] theorem unopt_iface (t : TypeId) (x : V) : unopt g (.iface t x) = .iface t x := rfl
@[go_sem] theorem unopt_nili : unopt g .nili = .nili := rfl
@[go_sem] theorem unopt_agg (cs : List V) : unopt g (.agg cs) = .agg cs := rfl
@[go_sem] theorem unopt_tup (cs : List V) : unopt g (.tup cs) = .tup cs := rfl
@[go_sem] theorem gcond_bt (b : Bool) : gcond true (.bool b) = some b := by simp [gcond]
@[go_sem] theorem gcond_bf (b : Bool) : gcond false (.bool b) = some (!b) := by simp [gcond]
@[go_sem] theorem gcond_ot (b : Bool) : gcond true (.opt g (.bool b)) = some (g && b) := by simp [gcond]
@[go_sem] theorem gcond_of (b : Bool) : gcond false (.opt g (.bool b)) = some (g && !b) := by simp [gcond]
@[go_sem] theorem pickV_and (a : Bool) : pickV t (.bool a) (.bool false) = .bool (t && a) := by cases t <;> rfl
@[go_sem] theorem pickV_or (a : Bool) : pickV t (.bool true) (.bool a) = .bool (t || a) := by cases t <;> rfl
theorem pickV_bb (a b : Bool) : pickV t (.bool a) (.bool b) = .bool (if t then a else b) := rfl
end
attribute [go_sem] Option.map_some Option.map_none Option.bind_some Option.bind_none Option.getD_some Option.getD_none Bool.not_not Bool.true_and Bool.and_true Bool.false_and Bool.and_false Bool.true_or Bool.or_true Bool.false_or Bool.or_false
@[go_sem] theorem fput_s (f : Frame) (i : Nat) (v : V) : fput f (some i) v = (i, v) :: f := rfl
@[go_sem] theorem fput_n (f : Frame) (v : V) : fput f none v = f := rfl
@[go_sem] theorem fget_c (f : Frame) (i j : Nat) (v : V) : fget ((i, v) :: f) j = if i = j then some v else fget f j := rfl
end Go.Proofs.YtomjghlaoncpbaaV
