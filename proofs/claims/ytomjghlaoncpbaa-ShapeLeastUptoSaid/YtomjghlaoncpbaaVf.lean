/-
  The operations that write nothing, as one function 'qv', and that the machine's answers are its.
-/
import Derived.Test.YtomjghlaoncpbaaVe
namespace Go.Proofs.YtomjghlaoncpbaaV
open Go.RowKit
set_option linter.unusedVariables false
set_option linter.unusedSimpArgs false

/-- Each element takes n cells. -/
def wid (n : Nat) (es : List (List V)) : Prop := ∀ e ∈ es, e.length = n
@[simp] theorem wid_nil (n : Nat) : wid n [] = True := by simp [wid]
@[simp] theorem wid_cons (n : Nat) (e : List V) (es : List (List V)) : wid n (e :: es) = (e.length = n ∧ wid n es) := by simp [wid]
@[simp] theorem wid_append (n : Nat) (a b : List (List V)) : wid n (a ++ b) = (wid n a ∧ wid n b) := by
  simp only [wid, List.mem_append, eq_iff_iff]
  exact ⟨fun h => ⟨fun e he => h e (.inl he), fun e he => h e (.inr he)⟩, fun h e he => he.elim (h.1 e) (h.2 e)⟩
@[simp] theorem wid_bytesV (l : List UInt8) : wid 1 (bytesV l) = True := by simp [wid, bytesV]
theorem wid_take {n : Nat} {es : List (List V)} (h : wid n es) (k : Nat) : wid n (es.take k) := fun e he => h e (List.mem_of_mem_take he)
theorem wid_drop {n : Nat} {es : List (List V)} (h : wid n es) (k : Nat) : wid n (es.drop k) := fun e he => h e (List.mem_of_mem_drop he)
theorem wid_map {A : Type} {n : Nat} {g : A → List V} (h : ∀ x, (g x).length = n) (l : List A) : wid n (l.map g) := fun e he => by
  obtain ⟨x, _, rfl⟩ := List.mem_map.1 he; exact h x
def pickV (t : Bool) : V → V → V
  | .bool a, .bool b => .bool (if t then a else b)
  | x, y => if t then x else y
/-- A value that stands there where the guard holds. -/
def unopt (g : Bool) : V → V
  | .opt b x => if !g || b then x else .opt b x
  | v => v
def unF (g : Bool) (f : FF) : FF := fun i => (f i).map (unopt g)
/-- Whether a guard on such a value is met. -/
def gcond (want : Bool) : V → Option Bool
  | .bool b => some (b == want)
  | .opt g (.bool b) => some (g && (b == want))
  | _ => none
def evL (f : FF) : List Operand → Option (List V)
  | [] => some []
  | o :: os => match ev f o, evL f os with | some x, some xs => some (x :: xs) | _, _ => none
def setMany (cs : List V) (off : Nat) : List V → List V
  | [] => cs
  | x :: xs => setMany (cs.set off x) (off + 1) xs
def plainV : V → Bool
  | .tup _ => false
  | .any => false
  | .opt _ _ => false
  | _ => true
def fillC (place : Nat → Option (Nat × Nat)) (f : FF) (cs : List V) : List (Nat × Operand) → Option (List V)
  | [] => some cs
  | (i, o) :: ps => match place i, ev f o with
    | some (off, n), some x => if plainV x && decide ((cellsV x).length = n) && decide (off + n ≤ cs.length) then fillC place f (setMany cs off (cellsV x)) ps else none
    | _, _ => none
def fillE (sz : Nat) (f : FF) (es : List (List V)) : List (Nat × Operand) → Option (List (List V))
  | [] => some es
  | (i, o) :: ps => match ev f o with
    | some x => if plainV x && decide ((cellsV x).length = sz) && decide (i < es.length) then fillE sz f (es.set i (cellsV x)) ps else none
    | none => none
def sliceTag (t : Tag) (sz l h n : Nat) : Tag :=
  match t with
  | .no => .no
  | .full => if h = n then .full else .no
  | .top s b e c => if h = n then (if s = sz then .top s b e c else .no) else .no
def bnd (lo hi : Option V) (n : Nat) : Option (Prop × Nat × Nat) :=
  match lo, hi with
  | none, none => some (True, 0, n)
  | some (.int _ l), none => some (0 ≤ l ∧ l ≤ n, l.toNat, n)
  | none, some (.int _ h) => some (0 ≤ h ∧ h ≤ n, 0, h.toNat)
  | some (.int _ l), some (.int _ h) => some ((0 ≤ h ∧ h ≤ n) ∧ 0 ≤ l ∧ l ≤ h, l.toNat, h.toNat)
  | _, _ => none
def evO (f : FF) : Option Operand → Option (Option V)
  | none => some none
  | some o => match ev f o with | some x => some (some x) | none => none
def intKindOf (P : Program) (t : TypeId) : Option IntKind := match P.underlying t with | some (.int k) => some k | _ => none
def isStr (P : Program) (t : TypeId) : Bool := match P.underlying t with | some .string => true | _ => false
def isU8s (P : Program) (t : TypeId) : Bool := match P.underlying t with | some (.slice e) => (match P.underlying e with | some (.int .u8) => true | _ => false) | _ => false
def isIfaceT : TypeDesc → Bool | .interface _ => true | _ => false
def convV (P : Program) (src dst : TypeId) : V → R
  | .int _ n => match intKindOf P dst with | some k => if (P.underlying src).isSome then ok (.int k (k.wrap n)) else none | none => none
  | .str s => if isStr P dst then (if (P.underlying src).isSome then ok (.str s) else none) else if isU8s P dst then (if isStr P src then ok (.sl (bytesV s) false .no) else none) else none
  | .sl es nl t => if isStr P dst && isU8s P src then some (es = bytesV (unb es), .str (unb es)) else none
  | _ => none
def addrAt (P : Program) (t : TypeId) (x : V) (i : Int) : R :=
  match x with
  | .sl es nl tg => match tslice P t with
    | some (_, n) => some (0 ≤ i ∧ i < es.length ∧ wid n es, .lp (es.getD i.toNat []) 0)
    | none => none
  | .ms b o len cap => match tslice P t with
    | some (_, n) => some (0 ≤ i ∧ i < len, .ptr b (o + i.toNat * n))
    | none => none
  | .ptr b o => match tarray P t with
    | some (l, _, n) => some ((0 ≤ i ∧ i < l) ∧ 1 < l, .ptr b (o + i.toNat * n))
    | none => none
  | _ => none
def loadV (P : Program) (G : Heap) (t : TypeId) : V → Option V
  | .ptr b o => match hget G b with | some (.vars cs) => cellsAt P t cs o | _ => none
  | .lp cs o => cellsAt P t cs o
  | _ => none
def lenV (P : Program) (G : Heap) (t : TypeId) : V → R
  | .str s => if isStr P t then ok (.int .i64 s.length) else none
  | .sl es _ _ => if kindIs P t isSliceT then ok (.int .i64 es.length) else none
  | .ms _ _ l _ => if kindIs P t isSliceT then ok (.int .i64 l) else none
  | .nilm => if kindIs P t isMapT then ok (.int .i64 0) else none
  | .map b => if kindIs P t isMapT then (match hget G b with | some (.map kvs) => ok (.int .i64 kvs.length) | _ => none) else none
  | _ => none
def fieldV (P : Program) (s : TypeId) (i : Nat) : V → R
  | .agg cs => match tfield P s i with
    | some (off, t, n) => match cellsAt P t cs off with | some x => ok x | none => none
    | none => none
  | _ => none

def placesL (P : Program) : List Field → Option (List (Nat × Nat))
  | [] => some []
  | fd :: fs => match tsz P fd.type, placesL P fs with | some n, some l => some ((fd.offset, n) :: l) | _, _ => none
/-- Where the parts of a struct or an array lie. -/
def tplaces (P : Program) (t : TypeId) : Option (List (Nat × Nat)) :=
  match P.underlying t with
  | some (.struct fs) => placesL P fs.toList
  | some (.array l e) => match tsz P e with | some n => some ((List.range l).map fun i => (i * n, n)) | none => none
  | _ => none
/-- What kind of simple type: 0 a truth, 1 a whole number, 2 a text. -/
def kindN (P : Program) (t : TypeId) : Option Nat := match P.underlying t with
  | some .bool => some 0
  | some (.int _) => some 1
  | some .string => some 2
  | _ => none
def eqK : Option Nat → V → V → Option Bool
  | some 0, .bool a, .bool b => some (a == b)
  | some 1, .int k a, .int k' b => if k = k' then some (decide (a = b)) else none
  | some 2, .str a, .str b => some (decide (a = b))
  | _, _, _ => none
def eqFs (P : Program) (cs ds : List V) : List (Nat × TypeId) → Option Bool
  | [] => some true
  | (o, t) :: fs => match cellsAt P t cs o, cellsAt P t ds o with
    | some x, some y => match eqK (kindN P t) x y, eqFs P cs ds fs with
      | some a, some b => some (a && b)
      | _, _ => none
    | _, _ => none
/-- A struct's parts, if '==' looks at each of them and at nothing else. -/
def flatS (P : Program) (t : TypeId) : Option (List (Nat × TypeId)) := match P.underlying t with
  | some (.struct fs) => if (!P.stoodInHeld t && !P.eqGuardType P.depth t && fs.toList.all (fun f => f.name != "_")) = true then some (fs.toList.map fun f => (f.offset, f.type)) else none
  | _ => none
/-- '==' and '!=' of two structs. -/
def eqS (P : Program) (op : BinOp) (t : TypeId) (cs ds : List V) : R := match flatS P t with
  | some fs => match eqFs P cs ds fs with
    | some r => match op with | .eql => ok (.bool r) | .neq => ok (.bool (!r)) | _ => none
    | none => none
  | none => none
/-- A map's key's type, and what stands where nothing was put. -/
def tmap (P : Program) (t : TypeId) : Option (TypeId × V) := match P.underlying t with
  | some (.map k e) => match tzero P e with | some z => some (k, z) | none => none
  | _ => none
/-- Keys that are texts or whole numbers. -/
def simpleKey (P : Program) (k : TypeId) : V → Bool
  | .str _ => isStr P k
  | .int j _ => match intKindOf P k with | some j' => j == j' | none => false
  | _ => false
def keyEq : V → V → Option Bool
  | .str a, .str b => some (decide (a = b))
  | .int k a, .int k' b => if k = k' then some (decide (a = b)) else none
  | _, _ => none
/-- Where a key stands, and what is put there. -/
def mfind (K : V) : List (V × V) → Nat → Option (Option (Nat × V))
  | [], _ => some none
  | (k, x) :: l, i => match keyEq K k with
    | some true => some (some (i, x))
    | some false => mfind K l (i + 1)
    | none => none
def mput (kvs : List (V × V)) (K X : V) : Option (Nat × V) → List (V × V)
  | some (i, _) => kvs.set i (K, X)
  | none => kvs ++ [(K, X)]
def lkR (okk : Bool) (x : V) (b : Bool) : V := if okk then .tup [x, .bool b] else x
def lkF (okk : Bool) (z : V) : Option (Option (Nat × V)) → R
  | some (some (_, v)) => ok (lkR okk v true)
  | some none => ok (lkR okk z false)
  | none => none
def lookV (G : Heap) (K z : V) (okk : Bool) : V → R
  | .nilm => ok (lkR okk z false)
  | .map b => match hget G b with | some (.map kvs) => lkF okk z (mfind K kvs 0) | _ => none
  | _ => none
def qv (P : Program) (f : FF) (G : Heap) : Op → R
  | .move x => match ev f x with | some X => ok X | none => none
  | .assign x => match ev f x with | some X => ok X | none => none
  | .pick c a b => match ev f c with
    | some (.bool t) => ok (pickV t (unopt t ((ev f a).getD .any)) (unopt (!t) ((ev f b).getD .any)))
    | _ => none
  | .nilCheck x => match ev f x with
    | some (.ptr b o) => ok (.ptr b o)
    | some (.lp cs o) => ok (.lp cs o)
    | some (.func (.func g) xs ys) => ok (.func (.func g) xs ys)
    | _ => none
  | .binOp op t x y _ => match ev f x, ev f y with | some (.agg cs), some (.agg ds) => eqS P op t cs ds | some X, some Y => binV P op t X Y | _, _ => none
  | .unOp op t x => match ev f x with
    | some (.int k n) => (match op with | .neg => ok (.int k (k.wrap (0 - n))) | .xor => ok (.int k (bits .xor k (if k.signed then -1 else k.max) n)) | _ => none)
    | some (.bool b) => (match op with | .not => ok (.bool (!b)) | _ => none)
    | _ => none
  | .convert src dst x => match ev f x with | some X => convV P src dst X | none => none
  | .makeInterface t x => match ev f x with | some X => if kindIs P t (fun d => !isIfaceT d) then ok (.iface t X) else none | none => none
  | .makeFunc fn xs ys => match evL f xs.toList, evL f ys.toList with | some X, some Y => ok (.func fn X Y) | _, _ => none
  | .slice t x lo hi mx => match evO f mx, ev f x, evO f lo, evO f hi with
    | some (some (.int _ k)), some (.sl es nl tg), some none, some (some (.int _ h)) => match tslice P t with
      | some _ => some (h = 0 ∧ k = 0, .sl [] nl .full)
      | none => none
    | some none, some (.str s), some l, some h => if isStr P t then (match bnd l h s.length with | some (C, l, h) => some (C, .str ((s.take h).drop l)) | none => none) else none
    | some none, some (.sl es nl tg), some l, some h => match tslice P t, bnd l h es.length with
      | some (_, n), some (C, l, h) => some (C ∧ wid n es, .sl ((es.take h).drop l) nl (sliceTag tg n l h es.length))
      | _, _ => none
    | _, _, _, _ => none
  | .fieldAddr s x i => match ev f x, tfield P s i with
    | some (.ptr b o), some (off, _, n) => if n = 0 then none else ok (.ptr b (o + off))
    | some (.lp cs o), some (off, _, n) => if n = 0 then none else ok (.lp cs (o + off))
    | _, _ => none
  | .field s x i => match ev f x with | some X => fieldV P s i X | none => none
  | .indexAddr t x i => match ev f x, ev f i with | some X, some (.int _ n) => addrAt P t X n | _, _ => none
  | .index t x i => match ev f x, ev f i with
    | some (.str s), some (.int _ n) => if isStr P t then some (0 ≤ n ∧ n < s.length, .int .u8 ((s.getD n.toNat 0).toNat : Int)) else none
    | some (.agg cs), some (.int _ n) => match tarray P t with
      | some (l, e, 1) => (match tagg P e with | some false => some ((0 ≤ n ∧ n < l) ∧ cs.length = l, cs.getD n.toNat .any) | _ => none)
      | _ => none
    | _, _ => none
  | .extract x i => match ev f x with | some (.tup xs) => (match xs[i]? with | some X => ok X | none => none) | _ => none
  | .load t a => match ev f a with | some X => (match loadV P G t X with | some Y => ok Y | none => none) | none => none
  | .lookup t x k okk => match ev f x, ev f k, tmap P t with
    | some X, some K, some (kt, z) => if simpleKey P kt K then lookV G K z okk X else none
    | _, _, _ => none
  | .build t ps => match tzero P t, tplaces P t with
    | some (.agg cs), some pl => (match fillC (fun i => pl[i]?) f cs ps.toList with | some cs => ok (.agg cs) | none => none)
    | _, _ => none
  | .buildSlice t len ps => match tslice P t with
    | some (e, n) => match tzero P e with
      | some z => if plainV z && decide ((cellsV z).length = n) && decide (len * n ≤ 16777216) then (match fillE n f (List.replicate len (cellsV z)) ps.toList with | some es => ok (.sl es false .full) | none => none) else none
      | none => none
    | none => none
  | .call { callee := .builtin b, args := as, argTypes := ts } => match b, as.toList, ts.toList with
    | .len, [x], t :: _ => (match ev f x with | some X => lenV P G t X | none => none)
    | .min, [x, y], _ => (match ev f x, ev f y with | some (.int k a), some (.int k' b) => if k = k' then ok (.int k (if b < a then b else a)) else none | _, _ => none)
    | .max, [x, y], _ => (match ev f x, ev f y with | some (.int k a), some (.int k' b) => if k = k' then ok (.int k (if b > a then b else a)) else none | _, _ => none)
    | _, _, _ => none
  | _ => none
end Go.Proofs.YtomjghlaoncpbaaV
