/- Part 1 of a proof laid in parts; each part's own comment says what it proves and under which conditions. -/
import Derived.Tactics
import Derived.Below
import Derived.Laws.World
import Derived.Laws.Append
import Derived.KernelRfl
import Derived.RowKit3
import Derived.Laws.IdiomCopy
import Derived.Laws.StructEq
import Derived.WalkSpells
import Derived.Lib.SlBytesRow
import Derived.ChangeKeysEq
import Derived.MapKept
import Derived.WideKeyRuns
import Derived.Maps.RangeRun
import Derived.Laws.RangeString
import Derived.Lib.ConvBytes
import Derived.Laws.BytesString
import Derived.Deep.AppendSrc
/-
  Values without memory, and how they stand to the machine's values: the base of a small logic for calls.
-/
namespace Go.Proofs.YtclmcpbanaojfaaV
open Go.RowKit
set_option linter.unusedVariables false
set_option linter.unusedSimpArgs false

/-- What is known of the room behind a slice's elements. -/
inductive Tag where
  | no
  | full
  | top (s b e c : Nat)

/-- A value as a function of data: a slice IS its elements (each a list of cells); what is written lies in the heap. -/
inductive V where
  | any
  | bool (b : Bool)
  | int (k : IntKind) (n : Int)
  | str (s : List UInt8)
  | nilp
  | ptr (b o : Nat)
  | lp (cs : List V) (o : Nat)
  | sl (es : List (List V)) (nl : Bool) (t : Tag)
  | ms (b o len cap : Nat)
  | nilm
  | map (b : Nat)
  | func (fn : Fn) (first captured : List V)
  | nilf
  | iface (t : TypeId) (v : V)
  | nili
  | agg (cs : List V)
  | tup (vs : List V)
  | opt (b : Bool) (x : V)

/-- Memory that never turns any more. -/
abbrev PM := Nat → Nat → Option Value
def PM.le (M M' : PM) : Prop := ∀ b o v, M b o = some v → M' b o = some v
theorem PM.le_refl (M : PM) : M.le M := fun _ _ _ h => h
theorem PM.le_trans {A B C : PM} (h : A.le B) (k : B.le C) : A.le C := fun b o v x => k b o v (h b o v x)

def TagOk (t : Tag) (a : Option Addr) (len cap sz : Nat) : Prop :=
  match t with
  | .no => True
  | .full => len = cap
  | .top s b e c => s = sz ∧ ∃ ad, a = some ad ∧ (len = cap ∨ (ad.block = b ∧ ad.off + len * sz = e ∧ ad.off + cap * sz = c))

inductive Rep (M : PM) : V → Value → Prop
  | any (v : Value) : Rep M .any v
  | bool (b : Bool) : Rep M (.bool b) (.bool b)
  | int (k : IntKind) (n : Int) : Rep M (.int k n) (.int k n)
  | str (s : List UInt8) : Rep M (.str s) (.string ⟨s.toArray⟩)
  | nilp : Rep M .nilp (.pointer none)
  | ptr (b o : Nat) : Rep M (.ptr b o) (.pointer (some ⟨b, o, none⟩))
  | lp (cs : List V) (o b z : Nat) (g : Nat → Value) (hm : ∀ i, i < cs.length → M b (z + i) = some (g i))
      (hr : ∀ i (h : i < cs.length), Rep M cs[i] (g i)) : Rep M (.lp cs o) (.pointer (some ⟨b, z + o, none⟩))
  | sl (es : List (List V)) (nl : Bool) (t : Tag) (a : Option Addr) (len cap sz : Nat) (g : Nat → Nat → Value)
      (hl : len = es.length) (hc : len ≤ cap) (hn : nl = a.isNone) (hz : a = none → cap = 0) (hs : ∀ ad, a = some ad → 0 < cap → ad.spot = none)
      (he : ∀ i (h : i < es.length), (es[i]).length = sz)
      (hm : ∀ ad, a = some ad → ∀ i, i < es.length → ∀ j, j < sz → M ad.block (ad.off + (i * sz + j)) = some (g i j))
      (hr : ∀ i (h : i < es.length) j (k : j < (es[i]).length), Rep M (es[i])[j] (g i j))
      (ht : TagOk t a len cap sz) : Rep M (.sl es nl t) (.slice a len cap)
  | ms (b o len cap : Nat) (hc : len ≤ cap) : Rep M (.ms b o len cap) (.slice (some ⟨b, o, none⟩) len cap)
  | nilm : Rep M .nilm (.map none)
  | map (b : Nat) : Rep M (.map b) (.map (some b))
  | func (fn : Fn) (xs ys : List V) (us vs : Array Value) (h1 : us.size = xs.length) (h2 : vs.size = ys.length)
      (r1 : ∀ i (h : i < xs.length), Rep M xs[i] (us.getD i undef)) (r2 : ∀ i (h : i < ys.length), Rep M ys[i] (vs.getD i undef)) : Rep M (.func fn xs ys) (.func fn us vs)
  | nilf : Rep M .nilf .nilFunc
  | iface (t : TypeId) (x : V) (v : Value) (h : Rep M x v) : Rep M (.iface t x) (.iface t v)
  | nili : Rep M .nili .nilIface
  | agg (cs : List V) (vs : Array Value) (h : vs.size = cs.length) (r : ∀ i (h : i < cs.length), Rep M cs[i] (vs.getD i undef)) : Rep M (.agg cs) (.agg vs)
  | tup (cs : List V) (vs : Array Value) (h : vs.size = cs.length) (r : ∀ i (h : i < cs.length), Rep M cs[i] (vs.getD i undef)) : Rep M (.tup cs) (.tuple vs)
  | optT (x : V) (v : Value) (h : Rep M x v) : Rep M (.opt true x) v
  | optF (x : V) : Rep M (.opt false x) undef

theorem Rep.mono {M M' : PM} {x : V} {v : Value} (h : Rep M x v) (hM : M.le M') : Rep M' x v := by
  induction h with
  | any v => exact .any v
  | bool b => exact .bool b
  | int k n => exact .int k n
  | str s => exact .str s
  | nilp => exact .nilp
  | ptr b o => exact .ptr b o
  | lp cs o b z g hm hr ih => exact .lp cs o b z g (fun i h => hM _ _ _ (hm i h)) ih
  | sl es nl t a len cap sz g hl hc hn hz hs he hm hr ht ih => exact .sl es nl t a len cap sz g hl hc hn hz hs he (fun ad ha i hi j hj => hM _ _ _ (hm ad ha i hi j hj)) ih ht
  | ms b o len cap hc => exact .ms b o len cap hc
  | nilm => exact .nilm
  | map b => exact .map b
  | func fn xs ys us vs h1 h2 r1 r2 i1 i2 => exact .func fn xs ys us vs h1 h2 i1 i2
  | nilf => exact .nilf
  | iface t x v h ih => exact .iface t x v ih
  | nili => exact .nili
  | agg cs vs h r ih => exact .agg cs vs h ih
  | tup cs vs h r ih => exact .tup cs vs h ih
  | optT x v h ih => exact .optT x v ih
  | optF x => exact .optF x

/-- What is known of the room may be forgotten. -/
theorem Rep.untag {M : PM} {es : List (List V)} {nl : Bool} {t : Tag} {v : Value} (h : Rep M (.sl es nl t) v) : Rep M (.sl es nl .no) v := by
  cases h with
  | sl es nl t a len cap sz g hl hc hn hz hs he hm hr ht => exact .sl es nl .no a len cap sz g hl hc hn hz hs he hm hr trivial

/-- A list of values, cell by cell. -/
def RepL (M : PM) (cs : List V) (vs : List Value) : Prop := cs.length = vs.length ∧ ∀ i (h : i < cs.length), Rep M cs[i] (vs.getD i undef)
theorem RepL.nil {M : PM} : RepL M [] [] := ⟨rfl, fun i h => absurd h (by simp)⟩
theorem RepL.cons {M : PM} {c : V} {v : Value} {cs : List V} {vs : List Value} (h : Rep M c v) (k : RepL M cs vs) : RepL M (c :: cs) (v :: vs) := by
  refine ⟨by simp [k.1], fun i hi => ?_⟩
  cases i with
  | zero => exact h
  | succ i => exact k.2 i (by simpa using hi)
theorem RepL.head {M : PM} {c : V} {v : Value} {cs : List V} {vs : List Value} (h : RepL M (c :: cs) (v :: vs)) : Rep M c v := h.2 0 (by simp)
theorem RepL.tail {M : PM} {c : V} {v : Value} {cs : List V} {vs : List Value} (h : RepL M (c :: cs) (v :: vs)) : RepL M cs vs :=
  ⟨by simpa using h.1, fun i hi => h.2 (i + 1) (by simpa using hi)⟩
theorem RepL.mono {M M' : PM} {cs : List V} {vs : List Value} (h : RepL M cs vs) (hM : M.le M') : RepL M' cs vs := ⟨h.1, fun i hi => (h.2 i hi).mono hM⟩
theorem RepL.append {M : PM} {a b : List V} {x y : List Value} (h : RepL M a x) (k : RepL M b y) : RepL M (a ++ b) (x ++ y) := by
  refine ⟨by simp [h.1, k.1], fun i hi => ?_⟩
  rw [List.getD_eq_getElem?_getD]
  by_cases hlt : i < a.length
  · rw [List.getElem_append_left hlt, List.getElem?_append_left (by rw [← h.1]; exact hlt), ← List.getD_eq_getElem?_getD]; exact h.2 i hlt
  · have hge : a.length ≤ i := by omega
    rw [List.getElem_append_right hge, List.getElem?_append_right (by rw [← h.1]; exact hge), ← List.getD_eq_getElem?_getD, ← h.1]
    exact k.2 (i - a.length) (by simp at hi; omega)
theorem RepL.get {M : PM} {cs : List V} {vs : List Value} (h : RepL M cs vs) {i : Nat} {c : V} (hc : cs[i]? = some c) : ∃ v, vs[i]? = some v ∧ Rep M c v := by
  obtain ⟨hi, rfl⟩ := List.getElem?_eq_some_iff.1 hc
  have hi' : i < vs.length := by rw [← h.1]; exact hi
  have := h.2 i hi
  exact ⟨vs[i], List.getElem?_eq_getElem hi', by rw [List.getD_eq_getElem?_getD, List.getElem?_eq_getElem hi'] at this; exact this⟩
theorem RepL.drop {M : PM} {cs : List V} {vs : List Value} (h : RepL M cs vs) (n : Nat) : RepL M (cs.drop n) (vs.drop n) := by
  refine ⟨by simp [h.1], fun i hi => ?_⟩
  have := h.2 (n + i) (by simp at hi; omega)
  rw [List.getD_eq_getElem?_getD] at this ⊢
  rw [List.getElem?_drop, List.getElem_drop]; exact this
theorem RepL.take {M : PM} {cs : List V} {vs : List Value} (h : RepL M cs vs) (n : Nat) : RepL M (cs.take n) (vs.take n) := by
  refine ⟨by simp [h.1], fun i hi => ?_⟩
  have hi' : i < n ∧ i < cs.length := by simp at hi; omega
  have := h.2 i hi'.2
  rw [List.getD_eq_getElem?_getD] at this ⊢
  rw [List.getElem?_take_of_lt hi'.1, List.getElem_take]; exact this
theorem RepL.set {M : PM} {cs : List V} {vs : List Value} (h : RepL M cs vs) (i : Nat) {c : V} {v : Value} (k : Rep M c v) : RepL M (cs.set i c) (vs.set i v) := by
  refine ⟨by simp [h.1], fun j hj => ?_⟩
  have hj' : j < cs.length := by simpa using hj
  rw [List.getD_eq_getElem?_getD, List.getElem_set]
  by_cases e : i = j
  · subst e; rw [if_pos rfl, List.getElem?_set_self (by rw [← h.1]; exact hj')]; exact k
  · rw [if_neg e, List.getElem?_set_ne e]
    have := h.2 j hj'
    rw [List.getD_eq_getElem?_getD] at this; exact this

/-! ### the heap of what may be written -/
inductive AObj where
  | vars (cs : List V)
  | top (e c : Nat)
  | map (kvs : List (V × V))
  | siter (s : List UInt8) (pos : Nat)
  | miter (m : Nat)
  | mapr (kvs : List (V × V)) (r : Nat) (todo : List Nat) (cur : Option Nat)

abbrev Heap := List (Nat × AObj)
def hget : Heap → Nat → Option AObj
  | [], _ => none
  | (k, o) :: G, b => if k = b then some o else hget G b
def hset : Heap → Nat → AObj → Heap
  | [], _, _ => []
  | (k, o) :: G, b, x => if k = b then (k, x) :: G else (k, o) :: hset G b x
def hdel : Heap → Nat → Heap
  | [], _ => []
  | (k, o) :: G, b => if k = b then hdel G b else (k, o) :: hdel G b
theorem hget_cons (k : Nat) (o : AObj) (G : Heap) (b : Nat) : hget ((k, o) :: G) b = if k = b then some o else hget G b := rfl
theorem hget_self (k : Nat) (o : AObj) (G : Heap) : hget ((k, o) :: G) k = some o := by simp [hget]
theorem hget_hset {G : Heap} {b b' : Nat} {x o : AObj} (h : hget (hset G b x) b' = some o) : (b' = b ∧ o = x) ∨ (b' ≠ b ∧ hget G b' = some o) := by
  induction G with
  | nil => simp [hset, hget] at h
  | cons p G ih =>
    obtain ⟨k, u⟩ := p
    simp only [hset] at h
    by_cases e : k = b
    · subst e
      rw [if_pos rfl] at h
      simp only [hget] at h ⊢
      by_cases e' : k = b'
      · subst e'; simp at h; exact .inl ⟨rfl, h.symm⟩
      · rw [if_neg e'] at h ⊢; exact .inr ⟨fun q => e' q.symm, h⟩
    · rw [if_neg e] at h
      simp only [hget] at h ⊢
      by_cases e' : k = b'
      · subst e'; rw [if_pos rfl] at h ⊢; exact .inr ⟨fun q => e q, h⟩
      · rw [if_neg e'] at h ⊢; exact ih h
theorem hget_hdel {G : Heap} {b b' : Nat} {o : AObj} (h : hget (hdel G b) b' = some o) : b' ≠ b ∧ hget G b' = some o := by
  induction G with
  | nil => simp [hdel, hget] at h
  | cons p G ih =>
    obtain ⟨k, u⟩ := p
    simp only [hdel] at h
    by_cases e : k = b
    · subst e
      rw [if_pos rfl] at h
      obtain ⟨h1, h2⟩ := ih h
      exact ⟨h1, by simp only [hget]; rw [if_neg (fun q => h1 q.symm)]; exact h2⟩
    · rw [if_neg e] at h
      simp only [hget] at h ⊢
      by_cases e' : k = b'
      · subst e'; rw [if_pos rfl] at h ⊢; exact ⟨e, h⟩
      · rw [if_neg e'] at h ⊢; exact ih h

structure Env where
  B : Nat
  w0 : World

def unfrozen (fr : Nat × Nat) (lo hi : Nat) : Prop := ∀ i, lo ≤ i → i < hi → ¬ (fr.1 ≤ i ∧ i < fr.2)

def ObjOk (M : PM) (w : World) (b : Nat) : AObj → Prop
  | .vars cs => ∃ arr T fr, w.heap[b]? = some (.cells arr T fr) ∧ cs.length ≤ arr.size ∧ (∀ i (h : i < cs.length), Rep M cs[i] (arr.getD i undef)) ∧ unfrozen fr 0 cs.length ∧ ∀ o, M b o = none
  | .top e c => ∃ arr T fr, w.heap[b]? = some (.cells arr T fr) ∧ c ≤ arr.size ∧ unfrozen fr e c ∧ ∀ o, e ≤ o → M b o = none
  | .map kvs => ∃ es clock, w.heap[b]? = some (.map es clock) ∧ es.size = kvs.length ∧ (∀ i (h : i < kvs.length), Rep M (kvs[i]).1 (es.getD i default).key ∧ Rep M (kvs[i]).2 (es.getD i default).val) ∧
      (∀ i j, i < es.size → j < es.size → (es.getD i default).born = (es.getD j default).born → i = j) ∧ ∀ i, i < es.size → (es.getD i default).born < clock
  | .siter s pos => w.heap[b]? = some (.stringIter ⟨s.toArray⟩ pos)
  | .miter m => ∃ since seen stepped, w.heap[b]? = some (.mapIter (some m) since seen stepped)
  | .mapr kvs r todo cur => ∃ es clock since seen, w.heap[b]? = some (.map es clock) ∧ w.heap[r]? = some (.mapIter (some b) since seen clock) ∧ es.size = kvs.length ∧ (∀ i (h : i < kvs.length), Rep M (kvs[i]).1 (es.getD i default).key ∧ Rep M (kvs[i]).2 (es.getD i default).val) ∧
      (∀ i j, i < es.size → j < es.size → (es.getD i default).born = (es.getD j default).born → i = j) ∧ since ≤ clock ∧ (∀ i, i < es.size → (es.getD i default).born < since) ∧ todo.Nodup ∧
      (∀ i, i ∈ todo ↔ i < es.size ∧ seen.contains (es.getD i default).born = false) ∧ ∀ c, cur = some c → c < es.size ∧ ∃ sn : Array Nat, seen = sn.push (es.getD c default).born

structure Mem (E : Env) (M : PM) (G : Heap) (w : World) : Prop where
  below : Below E.B E.w0 w
  base : E.B ≤ E.w0.heap.size
  pm : ∀ b o v, M b o = some v → w.cell? ⟨b, o, none⟩ = some v
  obj : ∀ b o, hget G b = some o → E.B ≤ b ∧ ObjOk M w b o

theorem Mem.size {E : Env} {M : PM} {G : Heap} {w : World} (h : Mem E M G w) : E.B ≤ w.heap.size := Nat.le_trans h.base h.below.size
/-- Fewer objects are known. -/
theorem Mem.sub {E : Env} {M : PM} {G G' : Heap} {w : World} (h : Mem E M G w) (hs : ∀ b o, hget G' b = some o → hget G b = some o) : Mem E M G' w :=
  ⟨h.below, h.base, h.pm, fun b o k => h.obj b o (hs b o k)⟩
theorem ObjOk.blocks {M : PM} {w w' : World} {b : Nat} {o : AObj} (h : ObjOk M w b o) (hb : ∀ (k : Nat) (x : Obj), w.heap[k]? = some x → w'.heap[k]? = some x) : ObjOk M w' b o := by
  cases o with
  | vars cs => obtain ⟨arr, T, fr, h1, r⟩ := h; exact ⟨arr, T, fr, hb _ _ h1, r⟩
  | top e c => obtain ⟨arr, T, fr, h1, r⟩ := h; exact ⟨arr, T, fr, hb _ _ h1, r⟩
  | map kvs => obtain ⟨es, ck, h1, r⟩ := h; exact ⟨es, ck, hb _ _ h1, r⟩
  | siter s pos => exact hb _ _ h
  | miter m => obtain ⟨s1, s2, s3, h1⟩ := h; exact ⟨s1, s2, s3, hb _ _ h1⟩
  | mapr kvs r todo cur => obtain ⟨es, ck, s1, s2, h1, h2, r⟩ := h; exact ⟨es, ck, s1, s2, hb _ _ h1, hb _ _ h2, r⟩
/-- The world went on, and no block that lay turned. -/
theorem Mem.blocks {E : Env} {M : PM} {G : Heap} {w w' : World} (h : Mem E M G w) (hb : Below w.heap.size w w') : Mem E M G w' := by
  have hk : ∀ (k : Nat) (x : Obj), w.heap[k]? = some x → w'.heap[k]? = some x := fun k x hx => by
    have : k < w.heap.size := by
      rcases Nat.lt_or_ge k w.heap.size with q | q
      · exact q
      · rw [Array.getElem?_eq_none q] at hx; cases hx
    rw [hb.block k this]; exact hx
  refine ⟨h.below.trans (hb.mono h.size), h.base, fun b o v hv => ?_, fun b o ho => ⟨(h.obj b o ho).1, ObjOk.blocks (h.obj b o ho).2 hk⟩⟩
  have := h.pm b o v hv
  rw [hb.cell (p := ⟨b, o, none⟩) (World.block_lt_of_cell? (w := w) (a := ⟨b, o, none⟩) this)]; exact this
theorem Mem.drew {E : Env} {M : PM} {G : Heap} {w : World} (h : Mem E M G w) : Mem E M G w.drew := h.blocks ((Below.refl _ _).drew)
theorem Mem.alloc {E : Env} {M : PM} {G : Heap} {w : World} (h : Mem E M G w) (o : Obj) : Mem E M G (w.alloc o) := h.blocks ((Below.refl _ _).alloc (Nat.le_refl _) o)

/-! ### frames -/
abbrev Frame := List (Nat × V)
def fget : Frame → Nat → Option V
  | [], _ => none
  | (k, v) :: f, i => if k = i then some v else fget f i
def fput (f : Frame) (d : Option Tmp) (v : V) : Frame := match d with | some i => (i, v) :: f | none => f
def fkeep (f : Frame) : List Nat → Frame
  | [] => []
  | k :: ks => match fget f k with | some v => (k, v) :: fkeep f ks | none => fkeep f ks
/-- A frame as a function. -/
abbrev FF := Nat → Option V
def upd (f : FF) (d : Option Tmp) (v : V) : FF := match d with | some i => fun j => if i = j then some v else f j | none => f
def RepG (M : PM) (f : FF) (t : Array Value) : Prop := ∀ i v, f i = some v → i < t.size ∧ Rep M v (t.getD i undef)
theorem RepG.mono {M M' : PM} {f : FF} {t : Array Value} (h : RepG M f t) (hM : M.le M') : RepG M' f t := fun i v k => ⟨(h i v k).1, (h i v k).2.mono hM⟩
abbrev RepF (M : PM) (f : Frame) (t : Array Value) : Prop := RepG M (fget f) t
theorem fget_fput (f : Frame) (d : Option Tmp) (v : V) : fget (fput f d v) = upd (fget f) d v := by
  cases d <;> rfl
theorem RepG.sub {M : PM} {f f' : FF} {t : Array Value} (h : RepG M f t) (hs : ∀ i v, f' i = some v → f i = some v) : RepG M f' t := fun i v k => h i v (hs i v k)
theorem fkeep_sub (f : Frame) : ∀ (ks : List Nat) (i : Nat) (v : V), fget (fkeep f ks) i = some v → fget f i = some v
  | [], i, v, h => by simp [fkeep, fget] at h
  | k :: ks, i, v, h => by
    simp only [fkeep] at h
    split at h
    · rename_i u hu
      simp only [fget] at h
      by_cases e : k = i
      · subst e; rw [if_pos rfl] at h; rw [hu]; exact h
      · rw [if_neg e] at h; exact fkeep_sub f ks i v h
    · exact fkeep_sub f ks i v h
theorem RepG.put {M : PM} {f : FF} {t : Array Value} (h : RepG M f t) {d : Nat} (hd : d < t.size) {x : V} {v : Value} (hx : Rep M x v) : RepG M (upd f (some d) x) (t.setIfInBounds d v) := by
  intro i u k
  simp only [upd] at k
  by_cases e : d = i
  · subst e
    rw [if_pos rfl] at k; cases k
    refine ⟨by simpa using hd, ?_⟩
    simpa [Array.getD_eq_getD_getElem?, Array.getElem?_setIfInBounds, hd] using hx
  · rw [if_neg e] at k
    refine ⟨by simpa using (h i u k).1, ?_⟩
    have := (h i u k).2
    simpa [Array.getD_eq_getD_getElem?, Array.getElem?_setIfInBounds, e] using this
end Go.Proofs.YtclmcpbanaojfaaV

/-
  What a piece of code, and a call, do to values and to the heap of what may be written: the rules of control.
-/
namespace Go.Proofs.YtclmcpbanaojfaaV
open Go.RowKit
set_option linter.unusedVariables false
set_option linter.unusedSimpArgs false

abbrev Cont := Exit → Frame → Heap → Prop
/-- The post of a piece of code, said of the machine's frame and world. -/
def lift (E : Env) (M : PM) (N : Nat) (Q : Cont) : Exit → Act → World → Prop := fun e a w =>
  ∃ M' f G, M.le M' ∧ Mem E M' G w ∧ RepF M' f a.tmps ∧ a.tmps.size = N ∧ a.defers = [] ∧ Q e f G
theorem lift_mono {E : Env} {M M' : PM} {N : Nat} {Q : Cont} (hM : M.le M') (e : Exit) (a : Act) (w : World) (h : lift E M' N Q e a w) : lift E M N Q e a w := by
  obtain ⟨M2, f, G, h1, r⟩ := h
  exact ⟨M2, f, G, PM.le_trans hM h1, r⟩
theorem lift_imp {E : Env} {M : PM} {N : Nat} {Q Q' : Cont} (hq : ∀ e f G, Q e f G → Q' e f G) (e : Exit) (a : Act) (w : World) (h : lift E M N Q e a w) : lift E M N Q' e a w := by
  obtain ⟨M2, f, G, h1, h2, h3, h4, h5, h6⟩ := h
  exact ⟨M2, f, G, h1, h2, h3, h4, h5, hq _ _ _ h6⟩

def AW (P : Program) (N : Nat) (c : Code) (Q : Cont) (f : Frame) (G : Heap) : Prop :=
  ∀ E M w (a : Act), Mem E M G w → RepF M f a.tmps → a.tmps.size = N → a.defers = [] → c.wp P (lift E M N Q) a w

section
variable {P : Program} {N : Nat} {Q : Cont} {f : Frame} {G : Heap}
theorem AW.mono {c : Code} {Q' : Cont} (h : AW P N c Q f G) (hq : ∀ e f G, Q e f G → Q' e f G) : AW P N c Q' f G :=
  fun E M w a hm hf hn hd => wp_mono (h E M w a hm hf hn hd) (lift_imp hq)
/-- Less is known of the frame and of the heap. -/
theorem AW.sub {c : Code} {f' : Frame} {G' : Heap} (hf : ∀ i v, fget f' i = some v → fget f i = some v) (hG : ∀ b o, hget G' b = some o → hget G b = some o) (h : AW P N c Q f' G') : AW P N c Q f G :=
  fun E M w a hm hr hn hd => h E M w a (hm.sub hG) (hr.sub hf) hn hd
theorem AW.keep {c : Code} (ks : List Nat) (h : AW P N c Q (fkeep f ks) G) : AW P N c Q f G := h.sub (fkeep_sub f ks) (fun _ _ h => h)

def thenK (K : Frame → Heap → Prop) (Q : Cont) : Cont
  | .normal, f, G => K f G
  | e, f, G => Q e f G
def inBlockK (id : Nat) (Q : Cont) : Cont
  | .exit id', f, G => if id' = id then Q .normal f G else Q (.exit id') f G
  | e, f, G => Q e f G

theorem aw_skip (h : Q .normal f G) : AW P N .skip Q f G := fun E M w a hm hr hn hd => wp_skip ⟨M, f, G, M.le_refl, hm, hr, hn, hd, h⟩
theorem aw_label {l : Nat} (h : Q .normal f G) : AW P N (.label l) Q f G := fun E M w a hm hr hn hd => wp_label ⟨M, f, G, M.le_refl, hm, hr, hn, hd, h⟩
theorem aw_exit {id : Nat} (h : Q (.exit id) f G) : AW P N (.exit id) Q f G := fun E M w a hm hr hn hd => wp_exit ⟨M, f, G, M.le_refl, hm, hr, hn, hd, h⟩
theorem aw_ret (h : Q .ret f G) : AW P N .ret Q f G := fun E M w a hm hr hn hd => wp_ret ⟨M, f, G, M.le_refl, hm, hr, hn, hd, h⟩
theorem aw_seq' {x y : Code} (h : AW P N x (thenK (AW P N y Q) Q) f G) : AW P N (.seq x y) Q f G := by
  intro E M w a hm hr hn hd
  refine wp_seq (wp_mono (h E M w a hm hr hn hd) ?_)
  intro e a' w' hl
  obtain ⟨M', f', G', h1, h2, h3, h4, h5, h6⟩ := hl
  cases e with
  | normal => exact wp_mono (h6 E M' w' a' h2 h3 h4 h5) (fun e a w => lift_mono h1 e a w)
  | _ => exact ⟨M', f', G', h1, h2, h3, h4, h5, h6⟩
theorem aw_seq {x y : Code} (h : ∀ K : Frame → Heap → Prop, (∀ f G, AW P N y Q f G → K f G) → AW P N x (thenK K Q) f G) : AW P N (.seq x y) Q f G :=
  aw_seq' (h _ fun _ _ h => h)
theorem aw_cond {c : Operand} {x y : Code} {b : Bool} (hc : ∀ M (t : Array Value), RepF M f t → ∀ ds, (Act.mk t ds).eval c = .bool b) (ht : b = true → AW P N x Q f G) (he : b = false → AW P N y Q f G) :
    AW P N (.cond c x y) Q f G := by
  intro E M w a hm hr hn hd
  refine wp_cond_split (t := b) ?_ (fun h => ht h E M w a hm hr hn hd) (fun h => he h E M w a hm hr hn hd)
  exact hc M a.tmps hr a.defers
theorem aw_if {i : Nat} {x y : Code} {b : Bool} (hc : fget f i = some (.bool b)) (ht : b = true → AW P N x Q f G) (he : b = false → AW P N y Q f G) : AW P N (.cond (.tmp i) x y) Q f G :=
  aw_cond (b := b) (fun M t hr ds => by
    obtain ⟨h1, h2⟩ := hr i _ hc
    have h3 : t.getD i undef = .bool b := by cases h : t.getD i undef <;> rw [h] at h2 <;> cases h2; rfl
    exact h3) ht he
theorem aw_block {id : Nat} {c : Code} (h : AW P N c (inBlockK id Q) f G) : AW P N (.block id c) Q f G := by
  intro E M w a hm hr hn hd
  refine wp_block (wp_mono (h E M w a hm hr hn hd) ?_)
  intro e a' w' hl
  obtain ⟨M', f', G', h1, h2, h3, h4, h5, h6⟩ := hl
  cases e with
  | exit id' =>
    simp only [inBlockK] at h6
    by_cases e : id' = id
    · rw [if_pos e] at h6; simp only [Exit.inBlock, e, if_true]; exact ⟨M', f', G', h1, h2, h3, h4, h5, h6⟩
    · rw [if_neg e] at h6; simp only [Exit.inBlock, e, if_false]; exact ⟨M', f', G', h1, h2, h3, h4, h5, h6⟩
  | _ => exact ⟨M', f', G', h1, h2, h3, h4, h5, h6⟩

/-- A loop: at each round's head the frame and the heap are those of some 's', and 'μ s' goes down. -/
theorem aw_loop {c : Code} {S : Type} (F : S → Frame) (H : S → Heap) (μ : S → Nat) (s0 : S)
    (hf : ∀ i v, fget (F s0) i = some v → fget f i = some v) (hG : ∀ b o, hget (H s0) b = some o → hget G b = some o)
    (round : ∀ s, AW P N c (thenK (fun f' G' => ∃ s', μ s' < μ s ∧ (∀ i v, fget (F s') i = some v → fget f' i = some v) ∧ ∀ b o, hget (H s') b = some o → hget G' b = some o) Q) (F s) (H s)) :
    AW P N (.loop c) Q f G := by
  intro E M w a hm hr hn hd
  let I : Act → World → Prop := fun a w => ∃ s M', M.le M' ∧ Mem E M' (H s) w ∧ RepF M' (F s) a.tmps ∧ a.tmps.size = N ∧ a.defers = []
  let Bd : Act → World → Nat → Prop := fun a w k => ∃ s M', M.le M' ∧ Mem E M' (H s) w ∧ RepF M' (F s) a.tmps ∧ a.tmps.size = N ∧ a.defers = [] ∧ μ s = k
  intro b k cs
  have key : ∀ n a w, Bd a w n → ∃ e a' w', lift E M N Q e a' w' ∧ Arrives P (lone (b.at a (.code c :: .inLoop c :: k)) cs w) b k cs e a' w' := by
    intro n
    induction n using Nat.strongRecOn with
    | _ n ih =>
      intro a w hI
      obtain ⟨s, M1, h1, h2, h3, h4, h5, h6⟩ := hI
      obtain ⟨e, a1, w1, hq, harr⟩ := round s E M1 w a h2 h3 h4 h5 b (.inLoop c :: k) cs
      obtain ⟨M2, f2, G2, g1, g2, g3, g4, g5, g6⟩ := hq
      cases e with
      | normal =>
        obtain ⟨s', hlt, q1, q2⟩ := g6
        obtain ⟨e2, a2, w2, hq2, harr2⟩ := ih (μ s') (h6 ▸ hlt) a1 w1 ⟨s', M2, PM.le_trans h1 g1, g2.sub q2, g3.sub q1, g4, g5, rfl⟩
        exact ⟨e2, a2, w2, hq2, .of_steps (Steps.trans harr (.one step_inLoop)) harr2⟩
      | exit id => exact ⟨_, a1, w1, ⟨M2, f2, G2, PM.le_trans h1 g1, g2, g3, g4, g5, g6⟩, .pass (x := .inLoop c) rfl (fun _ _ => .inl (by simp)) harr⟩
      | goto l => exact ⟨_, a1, w1, ⟨M2, f2, G2, PM.le_trans h1 g1, g2, g3, g4, g5, g6⟩, .pass (x := .inLoop c) rfl (fun _ _ => .inl (by simp)) harr⟩
      | ret => exact ⟨_, a1, w1, ⟨M2, f2, G2, PM.le_trans h1 g1, g2, g3, g4, g5, g6⟩, .pass (x := .inLoop c) rfl (fun _ _ => .inl (by simp)) harr⟩
      | panic ch => exact ⟨_, a1, w1, ⟨M2, f2, G2, PM.le_trans h1 g1, g2, g3, g4, g5, g6⟩, .pass (x := .inLoop c) rfl (fun _ _ => .inl (by simp)) harr⟩
      | outgrown => exact ⟨_, a1, w1, ⟨M2, f2, G2, PM.le_trans h1 g1, g2, g3, g4, g5, g6⟩, .pass (x := .inLoop c) rfl (fun _ _ => .inl (by simp)) harr⟩
  obtain ⟨e, a', w', hq, harr⟩ := key (μ s0) a w ⟨s0, M, M.le_refl, hm.sub hG, hr.sub hf, hn, hd, rfl⟩
  exact ⟨e, a', w', hq, .of_steps (.one step_loop) harr⟩
end

/-! ### calls -/
/-- The call of function 'g', as an operation meets it, comes back with R. -/
def CallsTo (P : Program) (g : FuncId) (vs : Array Value) (w : World) (R : Value → World → Prop) : Prop :=
  ∀ (o : Oper) (a : Act) (next : Act → World → Prop) (Q : Exit → Act → World → Prop), (∀ v w', R v w' → next (a.put o.dst v) w') → o.upon P a next Q ((callFunc g vs).run P w)
def APost (E : Env) (M : PM) (Q : V → Heap → Prop) : Value → World → Prop := fun v w => ∃ M' G x, M.le M' ∧ Mem E M' G w ∧ Rep M' x v ∧ Q x G
def ACall (P : Program) (g : FuncId) (args : List V) (Q : V → Heap → Prop) (G : Heap) : Prop :=
  ∀ E M w (vs : Array Value), Mem E M G w → RepL M args vs.toList → CallsTo P g vs w (APost E M Q)
theorem CallsTo.mono {P : Program} {g : FuncId} {vs : Array Value} {w : World} {R R' : Value → World → Prop} (h : CallsTo P g vs w R) (hr : ∀ v w', R v w' → R' v w') : CallsTo P g vs w R' :=
  fun o a next Q hn => h o a next Q (fun v w' k => hn v w' (hr v w' k))
theorem ACall.mono {P : Program} {g : FuncId} {args : List V} {Q Q' : V → Heap → Prop} {G : Heap} (h : ACall P g args Q G) (hq : ∀ x G, Q x G → Q' x G) : ACall P g args Q' G :=
  fun E M w vs hm hr => (h E M w vs hm hr).mono fun v w' ⟨M', G', x, h1, h2, h3, h4⟩ => ⟨M', G', x, h1, h2, h3, hq _ _ h4⟩
theorem ACall.sub {P : Program} {g : FuncId} {args : List V} {Q : V → Heap → Prop} {G G' : Heap} (hG : ∀ b o, hget G' b = some o → hget G b = some o) (h : ACall P g args Q G') : ACall P g args Q G :=
  fun E M w vs hm hr => h E M w vs (hm.sub hG) hr
/-- A call that leaves the heap as it was, whatever it is, and answers x. -/
def Quiet (P : Program) (g : FuncId) (args : List V) (x : V) : Prop := ∀ G, ACall P g args (fun y G' => y = x ∧ G' = G) G
theorem Quiet.call {P : Program} {g : FuncId} {args : List V} {x : V} (h : Quiet P g args x) {Q : V → Heap → Prop} {G : Heap} (hq : Q x G) : ACall P g args Q G :=
  (h G).mono fun y G' ⟨h1, h2⟩ => by subst h1; subst h2; exact hq

def fargs : Nat → List V → Frame
  | _, [] => []
  | i, a :: as_ => (i, a) :: fargs (i + 1) as_
theorem fget_fargs : ∀ (as_ : List V) (k i : Nat) (v : V), fget (fargs k as_) i = some v → k ≤ i ∧ as_[i - k]? = some v
  | [], k, i, v, h => by simp [fargs, fget] at h
  | a :: as_, k, i, v, h => by
    simp only [fargs, fget] at h
    by_cases e : k = i
    · subst e; rw [if_pos rfl] at h; exact ⟨Nat.le_refl _, by simpa using h⟩
    · rw [if_neg e] at h
      obtain ⟨h1, h2⟩ := fget_fargs as_ (k + 1) i v h
      refine ⟨by omega, ?_⟩
      have : i - k = (i - (k + 1)) + 1 := by omega
      rw [this]; simpa using h2

/-- A variable's cells, as a value. -/
def tsz (P : Program) (t : TypeId) : Option Nat := (P.info? t).map (·.size)
def tagg (P : Program) (t : TypeId) : Option Bool := match P.underlying t with | some (.struct _) | some (.array _ _) => some true | some _ => some false | none => none
def cellsAt (P : Program) (t : TypeId) (cs : List V) (o : Nat) : Option V :=
  match tagg P t, tsz P t with
  | some true, some n => if o + n ≤ cs.length then some (.agg ((cs.drop o).take n)) else none
  | some false, some _ => cs[o]?
  | _, _ => none
def resOf (P : Program) (f : Frame) (G : Heap) : ResultVar → Option V
  | .tmp t => fget f t
  | .cell t ty => match fget f t with
    | some (.ptr b o) => match hget G b with
      | some (.vars cs) => cellsAt P ty cs o
      | _ => none
    | _ => none
def resL (P : Program) (f : Frame) (G : Heap) : List ResultVar → Option (List V)
  | [] => some []
  | r :: rs => match resOf P f G r, resL P f G rs with
    | some x, some xs => some (x :: xs)
    | _, _ => none
def oneOf : List V → V
  | [x] => x
  | xs => .tup xs
def retQ (P : Program) (rs : List ResultVar) (Q : V → Heap → Prop) : Cont := fun e f G => (match e with | .normal => True | .ret => True | _ => False) ∧ ∃ xs, resL P f G rs = some xs ∧ Q (oneOf xs) G
end Go.Proofs.YtclmcpbanaojfaaV

/-
  Loads, results, and how a function is entered.
-/
namespace Go.Proofs.YtclmcpbanaojfaaV
open Go.RowKit
set_option linter.unusedVariables false
set_option linter.unusedSimpArgs false

/-- The cells from place z of block b on read as cs. -/
def CellsRep (M : PM) (w : World) (b z : Nat) (cs : List V) : Prop := ∃ vs, RepL M cs vs ∧ ∀ (i : Nat) (v : Value), vs[i]? = some v → w.cell? ⟨b, z + i, none⟩ = some v
theorem CellsRep.drop {M : PM} {w : World} {b z : Nat} {cs : List V} (h : CellsRep M w b z cs) (n : Nat) : CellsRep M w b (z + n) (cs.drop n) := by
  obtain ⟨vs, h1, h2⟩ := h
  exact ⟨vs.drop n, h1.drop n, fun i v hv => by rw [List.getElem?_drop] at hv; have := h2 _ _ hv; rwa [← Nat.add_assoc] at this⟩
theorem CellsRep.take {M : PM} {w : World} {b z : Nat} {cs : List V} (h : CellsRep M w b z cs) (n : Nat) : CellsRep M w b z (cs.take n) := by
  obtain ⟨vs, h1, h2⟩ := h
  refine ⟨vs.take n, h1.take n, fun i v hv => h2 i v ?_⟩
  rw [List.getElem?_take] at hv
  split at hv
  · exact hv
  · cases hv
section
variable {P : Program} {M : PM} {w : World} {b z : Nat} {cs : List V}
theorem CellsRep.get (h : CellsRep M w b z cs) {i : Nat} {c : V} (hc : cs[i]? = some c) : ∃ v, w.cell? ⟨b, z + i, none⟩ = some v ∧ Rep M c v := by
  obtain ⟨vs, h1, h2⟩ := h
  obtain ⟨v, hv, hr⟩ := h1.get hc
  exact ⟨v, h2 i v hv, hr⟩
theorem run_loadCells_rep (h : CellsRep M w b z cs) : ∃ vs, RepL M cs vs ∧ (loadCells ⟨b, z, none⟩ cs.length).run P w = .ok vs.toArray w := by
  obtain ⟨vs, h1, h2⟩ := h
  refine ⟨vs, h1, ?_⟩
  rw [h1.1]
  exact run_loadCells_list w _ vs fun j v hv => by rw [Addr.add_lit]; exact h2 j v hv
theorem RepL.agg {vs : List Value} (h : RepL M cs vs) : Rep M (.agg cs) (.agg vs.toArray) := by
  refine .agg cs _ (by simp [h.1]) fun i hi => ?_
  have := h.2 i hi
  rw [List.getD_eq_getElem?_getD] at this
  simpa [Array.getD_eq_getD_getElem?] using this
theorem RepL.tup {vs : List Value} (h : RepL M cs vs) : Rep M (.tup cs) (.tuple vs.toArray) := by
  refine .tup cs _ (by simp [h.1]) fun i hi => ?_
  have := h.2 i hi
  rw [List.getD_eq_getElem?_getD] at this
  simpa [Array.getD_eq_getD_getElem?] using this
theorem RepL.ofArr {vs : Array Value} (h : vs.size = cs.length) (r : ∀ i (hi : i < cs.length), Rep M cs[i] (vs.getD i undef)) : RepL M cs vs.toList := by
  refine ⟨by simp [h], fun i hi => ?_⟩
  have := r i hi
  rw [Array.getD_eq_getD_getElem?] at this
  simpa [List.getD_eq_getElem?_getD] using this
theorem tsz_info {t : TypeId} {n : Nat} (h : tsz P t = some n) : ∃ i, P.info? t = some i ∧ i.size = n := by
  unfold tsz at h
  cases hi : P.info? t with
  | none => simp [hi] at h
  | some i => exact ⟨i, rfl, by simpa [hi] using h⟩
theorem run_sizeOf {t : TypeId} {n : Nat} (h : tsz P t = some n) : (sizeOf t).run P w = .ok n w := by
  obtain ⟨i, hi, rfl⟩ := tsz_info h
  simp [sizeOf, typeInfo, hi]
theorem run_isAgg {t : TypeId} {g : Bool} (h : tagg P t = some g) : (isAgg t).run P w = .ok g w := by
  unfold tagg at h
  cases hu : P.underlying t with
  | none => simp [hu] at h
  | some d => simp only [isAgg, Sem.run_bind, run_underlying hu, Result.andThen_ok]; cases d <;> simp [hu] at h <;> subst h <;> rfl
theorem run_loadVar_rep {t : TypeId} {o : Nat} {x : V} (h : CellsRep M w b z cs) (hc : cellsAt P t cs o = some x) : ∃ v, (loadVar t ⟨b, z + o, none⟩).run P w = .ok v w ∧ Rep M x v := by
  unfold cellsAt at hc
  split at hc
  · rename_i n hg hs
    split at hc
    · rename_i hlen
      cases hc
      have h' := (h.drop o).take n
      obtain ⟨vs, r, hl⟩ := run_loadCells_rep (P := P) h'
      have he : ((cs.drop o).take n).length = n := by simp; omega
      rw [he] at hl
      exact ⟨_, by simp only [loadVar, Sem.run_bind, run_isAgg hg, run_sizeOf hs, Result.andThen_ok, hl, if_true, Sem.run_pure], r.agg⟩
    · cases hc
  · rename_i n hg hs
    obtain ⟨v, hv, hr⟩ := h.get hc
    refine ⟨v, ?_, hr⟩
    simp only [loadVar, Sem.run_bind, run_isAgg hg, Result.andThen_ok, Bool.false_eq_true, if_false, run_load, hv]
  · cases hc
end
theorem Mem.cellsRep_vars {E : Env} {M : PM} {G : Heap} {w : World} (h : Mem E M G w) {b : Nat} {cs : List V} (hb : hget G b = some (.vars cs)) : CellsRep M w b 0 cs := by
  obtain ⟨_, arr, T, fr, h1, h2, h3, _⟩ := h.obj b _ hb
  refine ⟨arr.toList.take cs.length, ⟨by simp; omega, fun i hi => ?_⟩, fun i v hv => ?_⟩
  · have := h3 i hi
    rw [Array.getD_eq_getD_getElem?] at this
    rw [List.getD_eq_getElem?_getD, List.getElem?_take_of_lt hi]; simpa using this
  · rw [List.getElem?_take] at hv
    split at hv
    · simp only [World.cell?, h1, Nat.zero_add]; simpa using hv
    · cases hv
theorem Rep.lp_cells {E : Env} {M : PM} {G : Heap} {w : World} (h : Mem E M G w) {cs : List V} {o : Nat} {v : Value} (hr : Rep M (.lp cs o) v) : ∃ b z, v = .pointer (some ⟨b, z + o, none⟩) ∧ CellsRep M w b z cs := by
  cases hr with
  | lp cs o b z g hm hr =>
    refine ⟨b, z, rfl, (List.range cs.length).map g, ⟨by simp, fun i hi => ?_⟩, fun i v hv => ?_⟩
    · have := hr i hi
      rw [List.getD_eq_getElem?_getD]; simpa [hi] using this
    · have hi : i < cs.length := by
        rcases Nat.lt_or_ge i cs.length with q | q
        · exact q
        · rw [List.getElem?_eq_none (by simpa using q)] at hv; cases hv
      have := h.pm _ _ _ (hm i hi)
      rw [this]
      simpa [hi] using hv

/-! ### results -/
theorem RepG.get {M : PM} {f : FF} {t : Array Value} (h : RepG M f t) {i : Nat} {x : V} (hx : f i = some x) : Rep M x (t.getD i undef) := (h i x hx).2
theorem Rep.ptr_inv {M : PM} {b o : Nat} {v : Value} (h : Rep M (.ptr b o) v) : v = .pointer (some ⟨b, o, none⟩) := by cases h; rfl
theorem Rep.bool_inv {M : PM} {b : Bool} {v : Value} (h : Rep M (.bool b) v) : v = .bool b := by cases h; rfl
theorem Rep.int_inv {M : PM} {k : IntKind} {n : Int} {v : Value} (h : Rep M (.int k n) v) : v = .int k n := by cases h; rfl
theorem Rep.str_inv {M : PM} {s : List UInt8} {v : Value} (h : Rep M (.str s) v) : v = .string ⟨s.toArray⟩ := by cases h; rfl
theorem Rep.nilp_inv {M : PM} {v : Value} (h : Rep M .nilp v) : v = .pointer none := by cases h; rfl
theorem Rep.nilm_inv {M : PM} {v : Value} (h : Rep M .nilm v) : v = .map none := by cases h; rfl
theorem Rep.map_inv {M : PM} {b : Nat} {v : Value} (h : Rep M (.map b) v) : v = .map (some b) := by cases h; rfl
theorem Rep.nili_inv {M : PM} {v : Value} (h : Rep M .nili v) : v = .nilIface := by cases h; rfl
theorem Rep.nilf_inv {M : PM} {v : Value} (h : Rep M .nilf v) : v = .nilFunc := by cases h; rfl
theorem Rep.ms_inv {M : PM} {b o l c : Nat} {v : Value} (h : Rep M (.ms b o l c) v) : v = .slice (some ⟨b, o, none⟩) l c ∧ l ≤ c := by cases h; exact ⟨rfl, by assumption⟩
theorem Rep.iface_inv {M : PM} {t : TypeId} {x : V} {v : Value} (h : Rep M (.iface t x) v) : ∃ u, v = .iface t u ∧ Rep M x u := by cases h; exact ⟨_, rfl, by assumption⟩
theorem Rep.agg_inv {M : PM} {cs : List V} {v : Value} (h : Rep M (.agg cs) v) : ∃ vs : Array Value, v = .agg vs ∧ RepL M cs vs.toList := by
  cases h with
  | agg _ vs h r => exact ⟨vs, rfl, RepL.ofArr h r⟩
theorem Rep.tup_inv {M : PM} {cs : List V} {v : Value} (h : Rep M (.tup cs) v) : ∃ vs : Array Value, v = .tuple vs ∧ RepL M cs vs.toList := by
  cases h with
  | tup _ vs h r => exact ⟨vs, rfl, RepL.ofArr h r⟩

def resSem (t : Array Value) : ResultVar → Sem Value
  | .tmp i => pure (t.getD i undef)
  | .cell a ty => do loadVar ty (← asAddr (t.getD a undef))
theorem results_eq (fn : Func) (t : Array Value) : results fn t = (do let vs ← fn.results.mapM (resSem t); pure (if h : vs.size = 1 then vs[0] else .tuple vs)) := by
  have : (fun r : ResultVar => (match r with | .tmp i => pure (t.getD i undef) | .cell a ty => (do loadVar ty (← asAddr (t.getD a undef)) : Sem Value))) = resSem t := by
    funext r
    cases r <;> rfl
  rw [← this]
  rfl
theorem run_resOne {P : Program} {E : Env} {M : PM} {G : Heap} {w : World} {f : Frame} {t : Array Value} (hm : Mem E M G w) (hf : RepF M f t) {r : ResultVar} {x : V} (h : resOf P f G r = some x) :
    ∃ v, (resSem t r).run P w = .ok v w ∧ Rep M x v := by
  cases r with
  | tmp i => exact ⟨_, rfl, hf.get h⟩
  | cell a ty =>
    simp only [resOf] at h
    split at h
    · rename_i b o hp
      split at h
      · rename_i cs hb
        have he := (hf.get hp).ptr_inv
        obtain ⟨v, hv, hr⟩ := run_loadVar_rep (P := P) (hm.cellsRep_vars hb) h
        rw [Nat.zero_add] at hv
        exact ⟨v, by simp only [resSem, he, asAddr, Sem.run_bind, Sem.run_pure, Result.andThen_ok, hv], hr⟩
      · cases h
    · cases h
theorem run_resL {P : Program} {E : Env} {M : PM} {G : Heap} {w : World} {f : Frame} {t : Array Value} (hm : Mem E M G w) (hf : RepF M f t) : ∀ {rs : List ResultVar} {xs : List V}, resL P f G rs = some xs →
    ∃ vs, RepL M xs vs ∧ Sem.run P (rs.mapM (resSem t)) w = .ok vs w
  | [], xs, h => by simp [resL] at h; subst h; exact ⟨[], RepL.nil, rfl⟩
  | r :: rs, xs, h => by
    simp only [resL] at h
    split at h
    · rename_i x ys h1 h2
      cases h
      obtain ⟨v, hv, hr⟩ := run_resOne (P := P) hm hf h1
      obtain ⟨vs, hrs, hvs⟩ := run_resL hm hf h2
      refine ⟨v :: vs, RepL.cons hr hrs, ?_⟩
      simp only [List.mapM_cons, Sem.run_bind, Sem.run_pure]
      rw [hv]
      simp only [Result.andThen_ok, hvs]
    · cases h
theorem run_results {P : Program} {E : Env} {M : PM} {G : Heap} {w : World} {f : Frame} {t : Array Value} (hm : Mem E M G w) (hf : RepF M f t) {fn : Func} {rs : List ResultVar} (he : fn.results = rs.toArray) {xs : List V} (h : resL P f G rs = some xs) :
    ∃ v, (results fn t).run P w = .ok v w ∧ Rep M (oneOf xs) v := by
  obtain ⟨vs, hrs, hvs⟩ := run_resL (P := P) hm hf h
  have hrun : (results fn t).run P w = .ok (if h : vs.toArray.size = 1 then vs.toArray[0] else .tuple vs.toArray) w := by
    rw [results_eq]
    simp only [he, List.mapM_toArray, Sem.run_bind, Sem.run_map, hvs, Result.andThen_ok, Sem.run_pure]
  refine ⟨_, hrun, ?_⟩
  match xs, vs, hrs with
  | [], [], hrs => exact hrs.tup
  | [x], [v], hrs => exact hrs.head
  | x :: y :: xs, v :: u :: vs, hrs => exact hrs.tup
  | [], _ :: _, hrs => exact absurd hrs.1 (by simp)
  | _ :: _, [], hrs => exact absurd hrs.1 (by simp)
  | [_], _ :: _ :: _, hrs => exact absurd hrs.1 (by simp)
  | _ :: _ :: _, [_], hrs => exact absurd hrs.1 (by simp)

theorem acall_body {P : Program} {g : FuncId} {args : List V} {Q : V → Heap → Prop} {G : Heap} {fn : Func} {c : Code} {rs : List ResultVar} {N : Nat} (hf : P.funcs[g]? = some fn) (hb : fn.body = some c) (hr : fn.results = rs.toArray) (hN : fn.ntmps = N)
    (hname : (fn.name == "runtime.NumGoroutine") = false) (ha : args.length ≤ N) (h : AW P N c (retQ P rs Q) (fargs 0 args) G) : ACall P g args Q G := by
  intro E M w vs hm hrep o a next Q' hn
  have hlen : vs.size = args.length := by have := hrep.1; simp at this; exact this.symm
  have hcall : (callFunc g vs).run P w = .ok (.enter g vs) w := by
    simp only [callFunc, Sem.run_bind, run_program, Result.andThen_ok, hf, hname, hb, Bool.false_eq_true, if_false, Option.isNone_some, Sem.run_pure]
  rw [hcall, Oper.upon_enter]
  have hc : Calls P g vs w (fun e w' => ∃ v, e = .returned v ∧ APost E M Q v w') := by
    refine calls_of_wp hf hb ?_
    have hsz : (vs ++ Array.replicate (fn.ntmps - vs.size) undef).size = N := by simp [hN, hlen]; omega
    have hfr : RepF M (fargs 0 args) (vs ++ Array.replicate (fn.ntmps - vs.size) undef) := by
      intro i x hx
      obtain ⟨_, h2⟩ := fget_fargs args 0 i x hx
      obtain ⟨v, hv, hrx⟩ := hrep.get (i := i) (c := x) (by simpa using h2)
      have hi : i < vs.size := by
        rcases Nat.lt_or_ge i vs.size with q | q
        · exact q
        · simp at hv; rw [Array.getElem?_eq_none q] at hv; cases hv
      refine ⟨by omega, ?_⟩
      rw [Array.getD_eq_getD_getElem?, Array.getElem?_append_left hi]
      simp at hv; rw [hv]; exact hrx
    refine wp_mono (h E M w _ hm hfr hsz rfl) ?_
    intro e a' w' hl
    obtain ⟨M', f', G', h1, h2, h3, h4, h5, h6, xs, hxs, hq⟩ := hl
    obtain ⟨v, hv, hrv⟩ := run_results (P := P) h2 h3 hr hxs
    cases e with
    | normal => exact ⟨h5, v, hv, v, rfl, M', G', _, h1, h2, hrv, hq⟩
    | ret => exact ⟨h5, v, hv, v, rfl, M', G', _, h1, h2, hrv, hq⟩
    | _ => exact h6.elim
  refine hc.mono ?_
  rintro e w' ⟨v, rfl, hp⟩
  exact hn v w' hp
end Go.Proofs.YtclmcpbanaojfaaV

/-
  What an operation that touches no memory answers, as a function of values.
-/
namespace Go.Proofs.YtclmcpbanaojfaaV
open Go.RowKit
set_option linter.unusedVariables false
set_option linter.unusedSimpArgs false

def ofConst0 : Value → Option V
  | .bool b => some (.bool b)
  | .int k n => some (.int k n)
  | .string s => some (.str s.data.toList)
  | .pointer none => some .nilp
  | .slice none 0 0 => some (.sl [] true .full)
  | .map none => some .nilm
  | .nilFunc => some .nilf
  | .nilIface => some .nili
  | _ => none
def ofConstL : List Value → Option (List V)
  | [] => some []
  | v :: vs => match ofConst0 v, ofConstL vs with | some x, some xs => some (x :: xs) | _, _ => none
def ofConst : Value → Option V
  | .bool b => some (.bool b)
  | .int k n => some (.int k n)
  | .string s => some (.str s.data.toList)
  | .pointer none => some .nilp
  | .slice none 0 0 => some (.sl [] true .full)
  | .map none => some .nilm
  | .nilFunc => some .nilf
  | .nilIface => some .nili
  | .agg cs => match ofConstL cs.toList with | some xs => some (.agg xs) | none => none
  | _ => none
def ev (f : FF) : Operand → Option V
  | .tmp t => f t
  | .const v => ofConst v
  | .func g => some (.func (.func g) [] [])
  | .global _ => none
theorem Rep.nilsl (M : PM) : Rep M (.sl [] true .full) (.slice none 0 0) :=
  .sl [] true .full none 0 0 0 (fun _ _ => undef) rfl (Nat.le_refl _) rfl (fun _ => rfl) (fun _ h => by cases h) (fun i h => absurd h (by simp)) (fun _ h => by cases h) (fun i h => absurd h (by simp)) rfl
theorem ofConst0_rep (M : PM) {v : Value} {x : V} (h : ofConst0 v = some x) : Rep M x v := by
  unfold ofConst0 at h
  split at h <;> cases h
  · exact .bool _
  · exact .int _ _
  · rename_i s; exact .str s.data.toList
  · exact .nilp
  · exact Rep.nilsl M
  · exact .nilm
  · exact .nilf
  · exact .nili
theorem ofConstL_rep (M : PM) : ∀ {vs : List Value} {xs : List V}, ofConstL vs = some xs → RepL M xs vs
  | [], xs, h => by simp [ofConstL] at h; subst h; exact RepL.nil
  | v :: vs, xs, h => by
    simp only [ofConstL] at h
    split at h
    · rename_i x ys h1 h2; cases h; exact RepL.cons (ofConst0_rep M h1) (ofConstL_rep M h2)
    · cases h
theorem ofConst_rep (M : PM) {v : Value} {x : V} (h : ofConst v = some x) : Rep M x v := by
  unfold ofConst at h
  split at h
  case h_9 cs =>
    split at h
    · rename_i xs hx
      cases h
      have := (ofConstL_rep M hx).agg
      simpa using this
    · cases h
  all_goals cases h
  · exact .bool _
  · exact .int _ _
  · rename_i s; exact .str s.data.toList
  · exact .nilp
  · exact Rep.nilsl M
  · exact .nilm
  · exact .nilf
  · exact .nili
theorem ev_rep {M : PM} {f : FF} {a : Act} (hf : RepG M f a.tmps) {x : Operand} {X : V} (h : ev f x = some X) : Rep M X (a.eval x) := by
  cases x with
  | tmp t => exact hf.get h
  | const v => exact ofConst_rep M h
  | func g => cases h; exact .func (.func g) [] [] #[] #[] rfl rfl (fun i h => absurd h (by simp)) (fun i h => absurd h (by simp))
  | global g => cases h

/-- A condition that the reader owes, and the value. -/
abbrev R := Option (Prop × V)
def ok (x : V) : R := some (True, x)

def kindIs (P : Program) (t : TypeId) (p : TypeDesc → Bool) : Bool := match P.underlying t with | some d => p d | none => false
def isBoolT : TypeDesc → Bool | .bool => true | _ => false
def isSliceT : TypeDesc → Bool | .slice _ => true | _ => false
def isMapT : TypeDesc → Bool | .map _ _ => true | _ => false
def isPtrT : TypeDesc → Bool | .pointer _ => true | _ => false
def isFuncT : TypeDesc → Bool | .func _ _ _ => true | _ => false

def binI (op : BinOp) (k : IntKind) (a b : Int) : R :=
  match op with
  | .add => ok (.int k (k.wrap (a + b)))
  | .sub => ok (.int k (k.wrap (a - b)))
  | .mul => ok (.int k (k.wrap (a * b)))
  | .quo => some (b ≠ 0, .int k (k.wrap (a.tdiv b)))
  | .rem => some (b ≠ 0, .int k (a.tmod b))
  | .and => ok (.int k (bits .and k a b))
  | .or => ok (.int k (bits .or k a b))
  | .xor => ok (.int k (bits .xor k a b))
  | .andNot => ok (.int k (bits .andNot k a b))
  | .eql => ok (.bool (decide (a = b)))
  | .neq => ok (.bool (decide (a ≠ b)))
  | .lss => ok (.bool (decide (a < b)))
  | .leq => ok (.bool (decide (a ≤ b)))
  | .gtr => ok (.bool (decide (b < a)))
  | .geq => ok (.bool (decide (b ≤ a)))
  | .shl => some (0 ≤ b, .int k (k.wrap (a * 2 ^ (Nat.min b.toNat k.bits))))
  | .shr => some (0 ≤ b, .int k (a.fdiv (2 ^ (Nat.min b.toNat k.bits))))
def binS (op : BinOp) (a b : List UInt8) : R :=
  match op with
  | .add => some (((a.length + b.length : Nat) : Int) ≤ 9223372036854775807, .str (a ++ b))
  | .eql => ok (.bool (decide (a = b)))
  | .neq => ok (.bool (decide (a ≠ b)))
  | .lss => ok (.bool (Op.bytesLess a b))
  | .leq => ok (.bool (Op.bytesLess a b || decide (a = b)))
  | .gtr => ok (.bool (!(Op.bytesLess a b || decide (a = b))))
  | .geq => ok (.bool (!Op.bytesLess a b))
  | _ => none
def binV (P : Program) (op : BinOp) (t : TypeId) : V → V → R
  | .int k a, .int k' b => match op with
    | .shl => binI .shl k a b
    | .shr => binI .shr k a b
    | _ => if k = k' then binI op k a b else none
  | .str a, .str b => binS op a b
  | .bool a, .bool b => if kindIs P t isBoolT then (match op with | .eql => ok (.bool (a == b)) | .neq => ok (.bool (!(a == b))) | _ => none) else none
  | .sl _ nl _, .sl [] true .full => if kindIs P t isSliceT then (match op with | .eql => ok (.bool nl) | .neq => ok (.bool (!nl)) | _ => none) else none
  | .ms _ _ _ _, .sl [] true .full => if kindIs P t isSliceT then (match op with | .eql => ok (.bool false) | .neq => ok (.bool true) | _ => none) else none
  | .nilp, .nilp => if kindIs P t isPtrT then (match op with | .eql => ok (.bool true) | .neq => ok (.bool false) | _ => none) else none
  | .ptr _ _, .nilp => if kindIs P t isPtrT then (match op with | .eql => ok (.bool false) | .neq => ok (.bool true) | _ => none) else none
  | .lp _ _, .nilp => if kindIs P t isPtrT then (match op with | .eql => ok (.bool false) | .neq => ok (.bool true) | _ => none) else none
  | .nilm, .nilm => if kindIs P t isMapT then (match op with | .eql => ok (.bool true) | .neq => ok (.bool false) | _ => none) else none
  | .map _, .nilm => if kindIs P t isMapT then (match op with | .eql => ok (.bool false) | .neq => ok (.bool true) | _ => none) else none
  | .nilf, .nilf => if kindIs P t isFuncT then (match op with | .eql => ok (.bool true) | .neq => ok (.bool false) | _ => none) else none
  | .func _ _ _, .nilf => if kindIs P t isFuncT then (match op with | .eql => ok (.bool false) | .neq => ok (.bool true) | _ => none) else none
  | _, _ => none

section
variable {P : Program} {w : World}
theorem kindIs_some {t : TypeId} {p : TypeDesc → Bool} (h : kindIs P t p = true) : ∃ d, P.underlying t = some d ∧ p d = true := by
  unfold kindIs at h
  split at h
  · exact ⟨_, by assumption, h⟩
  · cases h
theorem run_binI {op : BinOp} {t : TypeId} {k k' : IntKind} {a b : Int} {C : Prop} {x : V} (hk : k = k' ∨ op = .shl ∨ op = .shr) (h : binI op k a b = some (C, x)) (hC : C) :
    ∃ v, (binOp op t (.int k a) (.int k' b)).run P w = .ok v w ∧ ∀ M, Rep M x v := by
  cases op <;> simp only [binI, ok, Option.some.injEq, Prod.mk.injEq] at h <;> obtain ⟨rfl, rfl⟩ := h <;>
    first
    | (rcases hk with rfl | hk | hk
       · refine ⟨_, ?_, fun M => .int _ _⟩
         simp [binOp, Op.intArith, intBits_and, intBits_or, intBits_xor, intBits_andNot]
       · cases hk
       · cases hk)
    | (rcases hk with rfl | hk | hk
       · refine ⟨_, ?_, fun M => .int _ _⟩
         simp [binOp, Op.intDiv, hC]
       · cases hk
       · cases hk)
    | (rcases hk with rfl | hk | hk
       · refine ⟨_, ?_, fun M => .bool _⟩
         simp [binOp, Op.intCmp] <;> first | rfl | (congr 1; rw [Bool.eq_iff_iff]; simp; done)
       · cases hk
       · cases hk)
    | (refine ⟨_, ?_, fun M => .int _ _⟩
       have : ¬ b < 0 := by omega
       simp [binOp, Op.shift, this]; done)
theorem bytes_toList (a : List UInt8) : (⟨a.toArray⟩ : ByteArray).toList = a := by rw [Lib.toList_data]
theorem run_binS {op : BinOp} {t : TypeId} {a b : List UInt8} {C : Prop} {x : V} (h : binS op a b = some (C, x)) (hC : C) :
    ∃ v, (binOp op t (.string ⟨a.toArray⟩) (.string ⟨b.toArray⟩)).run P w = .ok v w ∧ ∀ M, Rep M x v := by
  have hs : ∀ l : List UInt8, (⟨l.toArray⟩ : ByteArray).size = l.length := fun l => by simp [ByteArray.size]
  cases op <;> simp only [binS, ok, Option.some.injEq, Prod.mk.injEq, reduceCtorEq] at h <;> obtain ⟨rfl, rfl⟩ := h
  case add =>
    refine ⟨.string ⟨(a ++ b).toArray⟩, ?_, fun M => .str _⟩
    have h1 : ¬ (((a.length + b.length : Nat) : Int) > IntKind.i64.max) := by simp only [show IntKind.i64.max = 9223372036854775807 from rfl]; omega
    simp only [binOp, Op.stringOp, hs, h1, if_false, Sem.run_pure]
    congr 2
  all_goals
    refine ⟨_, ?_, fun M => .bool _⟩
    have he : (a == b) = decide (a = b) := by rw [Bool.eq_iff_iff]; simp
    simp [binOp, Op.stringOp, bytes_toList, he]
theorem sl_nil_inv {M : PM} {t : Tag} {v : Value} (h : Rep M (.sl [] true t) v) : ∃ l c, v = .slice none l c := by
  cases h with
  | sl es nl t a len cap sz g hl hc hn hz hs he hm hr ht =>
    cases a with
    | none => exact ⟨_, _, rfl⟩
    | some ad => simp at hn
theorem sl_inv {M : PM} {es : List (List V)} {nl : Bool} {t : Tag} {v : Value} (h : Rep M (.sl es nl t) v) : ∃ a c, v = .slice a es.length c ∧ es.length ≤ c ∧ nl = a.isNone := by
  cases h with
  | sl es nl t a len cap sz g hl hc hn hz hs he hm hr ht => subst hl; exact ⟨a, cap, rfl, hc, hn⟩
theorem lp_inv {M : PM} {cs : List V} {o : Nat} {v : Value} (h : Rep M (.lp cs o) v) : ∃ ad, v = .pointer (some ad) := by
  cases h; exact ⟨_, rfl⟩
theorem func_inv {M : PM} {fn : Fn} {xs ys : List V} {v : Value} (h : Rep M (.func fn xs ys) v) : ∃ us vs : Array Value, v = .func fn us vs ∧ RepL M xs us.toList ∧ RepL M ys vs.toList := by
  cases h with
  | func fn xs ys us vs h1 h2 r1 r2 => exact ⟨us, vs, rfl, RepL.ofArr h1 r1, RepL.ofArr h2 r2⟩
theorem run_eqlV {t : TypeId} {u v : Value} {b : Bool} (hb : binOp .eql t u v = (do pure (.bool (← Op.equal t u v)))) (h : ∀ d, (Op.equalIn (d + 1) t u v).run P w = .ok b w) : (binOp .eql t u v).run P w = .ok (.bool b) w := by
  have : (Op.equal t u v).run P w = .ok b w := h 9999
  simp only [hb, Sem.run_bind, this, Result.andThen_ok, Sem.run_pure]
theorem run_neqV {t : TypeId} {u v : Value} {b : Bool} (hb : binOp .neq t u v = (do pure (.bool (!(← Op.equal t u v))))) (h : ∀ d, (Op.equalIn (d + 1) t u v).run P w = .ok b w) : (binOp .neq t u v).run P w = .ok (.bool !b) w := by
  have : (Op.equal t u v).run P w = .ok b w := h 9999
  simp only [hb, Sem.run_bind, this, Result.andThen_ok, Sem.run_pure]
set_option maxHeartbeats 4000000 in
theorem run_binV {M : PM} {op : BinOp} {t : TypeId} {A B : V} {u v : Value} {C : Prop} {x : V} (h : binV P op t A B = some (C, x)) (hC : C) (hA : Rep M A u) (hB : Rep M B v) :
    ∃ r, (binOp op t u v).run P w = .ok r w ∧ ∀ M, Rep M x r := by
  unfold binV at h
  split at h
  case h_1 k a k' b =>
    obtain rfl := hA.int_inv
    obtain rfl := hB.int_inv
    split at h
    · exact run_binI (.inr (.inl rfl)) h hC
    · exact run_binI (.inr (.inr rfl)) h hC
    · split at h
      · exact run_binI (.inl (by assumption)) h hC
      · cases h
  case h_2 a b =>
    obtain rfl := hA.str_inv
    obtain rfl := hB.str_inv
    exact run_binS h hC
  case h_3 a b =>
    obtain rfl := hA.bool_inv
    obtain rfl := hB.bool_inv
    split at h
    · rename_i hk
      obtain ⟨d, hd, hk⟩ := kindIs_some hk
      cases d <;> simp [isBoolT] at hk
      cases op <;> simp only [ok, Option.some.injEq, Prod.mk.injEq, reduceCtorEq] at h <;> obtain ⟨rfl, rfl⟩ := h
      · exact ⟨_, run_eql_bool w t a b hd, fun M => .bool _⟩
      · exact ⟨_, run_neq_bool w t a b hd, fun M => .bool _⟩
    · cases h
  case h_4 es nl tg =>
    obtain ⟨a, c, rfl, hc, rfl⟩ := sl_inv hA
    obtain ⟨l2, c2, rfl⟩ := sl_nil_inv hB
    split at h
    · rename_i hk
      obtain ⟨d, hd, hk⟩ := kindIs_some hk
      cases d <;> simp [isSliceT] at hk
      cases op <;> simp only [ok, Option.some.injEq, Prod.mk.injEq, reduceCtorEq] at h <;> obtain ⟨rfl, rfl⟩ := h
      · exact ⟨_, run_eqlV (b := a.isNone) rfl (fun d => by cases a <;> simp [Op.equalIn, run_underlying hd]), fun M => .bool _⟩
      · exact ⟨_, run_neqV (b := a.isNone) rfl (fun d => by cases a <;> simp [Op.equalIn, run_underlying hd]), fun M => .bool _⟩
    · cases h
  case h_5 =>
    obtain ⟨rfl, hc⟩ := hA.ms_inv
    obtain ⟨l2, c2, rfl⟩ := sl_nil_inv hB
    split at h
    · rename_i hk
      obtain ⟨d, hd, hk⟩ := kindIs_some hk
      cases d <;> simp [isSliceT] at hk
      cases op <;> simp only [ok, Option.some.injEq, Prod.mk.injEq, reduceCtorEq] at h <;> obtain ⟨rfl, rfl⟩ := h
      · exact ⟨_, run_eqlV (b := false) rfl (fun d => by simp [Op.equalIn, run_underlying hd]), fun M => .bool _⟩
      · exact ⟨_, run_neqV (b := false) rfl (fun d => by simp [Op.equalIn, run_underlying hd]), fun M => .bool _⟩
    · cases h
  case h_6 =>
    obtain rfl := hA.nilp_inv
    obtain rfl := hB.nilp_inv
    split at h
    · rename_i hk
      obtain ⟨d, hd, hk⟩ := kindIs_some hk
      cases d <;> simp [isPtrT] at hk
      cases op <;> simp only [ok, Option.some.injEq, Prod.mk.injEq, reduceCtorEq] at h <;> obtain ⟨rfl, rfl⟩ := h
      · exact ⟨_, run_eqlV (b := true) rfl (fun d => by simp [Op.equalIn, run_underlying hd]), fun M => .bool _⟩
      · exact ⟨_, run_neqV (b := true) rfl (fun d => by simp [Op.equalIn, run_underlying hd]), fun M => .bool _⟩
    · cases h
  case h_7 =>
    obtain rfl := hA.ptr_inv
    obtain rfl := hB.nilp_inv
    split at h
    · rename_i hk
      obtain ⟨d, hd, hk⟩ := kindIs_some hk
      cases d <;> simp [isPtrT] at hk
      cases op <;> simp only [ok, Option.some.injEq, Prod.mk.injEq, reduceCtorEq] at h <;> obtain ⟨rfl, rfl⟩ := h
      · exact ⟨_, run_eqlV (b := false) rfl (fun d => by simp [Op.equalIn, run_underlying hd]), fun M => .bool _⟩
      · exact ⟨_, run_neqV (b := false) rfl (fun d => by simp [Op.equalIn, run_underlying hd]), fun M => .bool _⟩
    · cases h
  case h_8 =>
    obtain ⟨ad, rfl⟩ := lp_inv hA
    obtain rfl := hB.nilp_inv
    split at h
    · rename_i hk
      obtain ⟨d, hd, hk⟩ := kindIs_some hk
      cases d <;> simp [isPtrT] at hk
      cases op <;> simp only [ok, Option.some.injEq, Prod.mk.injEq, reduceCtorEq] at h <;> obtain ⟨rfl, rfl⟩ := h
      · exact ⟨_, run_eqlV (b := false) rfl (fun d => by simp [Op.equalIn, run_underlying hd]), fun M => .bool _⟩
      · exact ⟨_, run_neqV (b := false) rfl (fun d => by simp [Op.equalIn, run_underlying hd]), fun M => .bool _⟩
    · cases h
  case h_9 =>
    obtain rfl := hA.nilm_inv
    obtain rfl := hB.nilm_inv
    split at h
    · rename_i hk
      obtain ⟨d, hd, hk⟩ := kindIs_some hk
      cases d <;> simp [isMapT] at hk
      cases op <;> simp only [ok, Option.some.injEq, Prod.mk.injEq, reduceCtorEq] at h <;> obtain ⟨rfl, rfl⟩ := h
      · exact ⟨_, run_eqlV (b := true) rfl (fun d => by simp [Op.equalIn, run_underlying hd]), fun M => .bool _⟩
      · exact ⟨_, run_neqV (b := true) rfl (fun d => by simp [Op.equalIn, run_underlying hd]), fun M => .bool _⟩
    · cases h
  case h_10 =>
    obtain rfl := hA.map_inv
    obtain rfl := hB.nilm_inv
    split at h
    · rename_i hk
      obtain ⟨d, hd, hk⟩ := kindIs_some hk
      cases d <;> simp [isMapT] at hk
      cases op <;> simp only [ok, Option.some.injEq, Prod.mk.injEq, reduceCtorEq] at h <;> obtain ⟨rfl, rfl⟩ := h
      · exact ⟨_, run_eqlV (b := false) rfl (fun d => by simp [Op.equalIn, run_underlying hd]), fun M => .bool _⟩
      · exact ⟨_, run_neqV (b := false) rfl (fun d => by simp [Op.equalIn, run_underlying hd]), fun M => .bool _⟩
    · cases h
  case h_11 =>
    obtain rfl := hA.nilf_inv
    obtain rfl := hB.nilf_inv
    split at h
    · rename_i hk
      obtain ⟨d, hd, hk⟩ := kindIs_some hk
      cases d <;> simp [isFuncT] at hk
      cases op <;> simp only [ok, Option.some.injEq, Prod.mk.injEq, reduceCtorEq] at h <;> obtain ⟨rfl, rfl⟩ := h
      · exact ⟨_, run_eqlV (b := true) rfl (fun d => by simp [Op.equalIn, run_underlying hd]), fun M => .bool _⟩
      · exact ⟨_, run_neqV (b := true) rfl (fun d => by simp [Op.equalIn, run_underlying hd]), fun M => .bool _⟩
    · cases h
  case h_12 =>
    obtain ⟨us, vs, rfl, _, _⟩ := func_inv hA
    obtain rfl := hB.nilf_inv
    split at h
    · rename_i hk
      obtain ⟨d, hd, hk⟩ := kindIs_some hk
      cases d <;> simp [isFuncT] at hk
      cases op <;> simp only [ok, Option.some.injEq, Prod.mk.injEq, reduceCtorEq] at h <;> obtain ⟨rfl, rfl⟩ := h
      · exact ⟨_, run_eqlV (b := false) rfl (fun d => by simp [Op.equalIn, run_underlying hd]), fun M => .bool _⟩
      · exact ⟨_, run_neqV (b := false) rfl (fun d => by simp [Op.equalIn, run_underlying hd]), fun M => .bool _⟩
    · cases h
  case h_13 => cases h
end
end Go.Proofs.YtclmcpbanaojfaaV

/-
  What an operation that writes nothing answers: reads of memory, literals, conversions.
-/
namespace Go.Proofs.YtclmcpbanaojfaaV
open Go.RowKit
set_option linter.unusedVariables false
set_option linter.unusedSimpArgs false

/-! ### new memory that never turns -/
def PM.add (M : PM) (b : Nat) (arr : Array Value) : PM := fun b' o => if b' = b then arr[o]? else M b' o
theorem Mem.none_new {E : Env} {M : PM} {G : Heap} {w : World} (h : Mem E M G w) {b : Nat} (hb : w.heap.size ≤ b) (o : Nat) : M b o = none := by
  cases hq : M b o with
  | none => rfl
  | some v =>
    have := World.block_lt_of_cell? (w := w) (a := ⟨b, o, none⟩) (h.pm _ _ _ hq)
    simp at this; omega
theorem Mem.le_add {E : Env} {M : PM} {G : Heap} {w : World} (h : Mem E M G w) (arr : Array Value) : M.le (M.add w.heap.size arr) := by
  intro b o v hv
  unfold PM.add
  rw [if_neg]
  · exact hv
  · intro e
    rw [h.none_new (b := b) (by omega)] at hv; cases hv
theorem ObjOk.lt {M : PM} {w : World} {b : Nat} {o : AObj} (h : ObjOk M w b o) : b < w.heap.size := by
  have key : ∀ x : Obj, w.heap[b]? = some x → b < w.heap.size := fun x hx => by
    rcases Nat.lt_or_ge b w.heap.size with q | q
    · exact q
    · rw [Array.getElem?_eq_none q] at hx; cases hx
  cases o with
  | vars cs => obtain ⟨arr, T, fr, h1, r⟩ := h; exact key _ h1
  | top e c => obtain ⟨arr, T, fr, h1, r⟩ := h; exact key _ h1
  | map kvs => obtain ⟨es, ck, h1, r⟩ := h; exact key _ h1
  | siter s pos => exact key _ h
  | miter m => obtain ⟨s1, s2, s3, h1⟩ := h; exact key _ h1
  | mapr kvs r todo cur => obtain ⟨es, ck, s1, s2, h1, _⟩ := h; exact key _ h1
/-- The memory that is known grows, apart from what may be written. -/
theorem ObjOk.grow {M M' : PM} {w : World} {b : Nat} {o : AObj} (h : ObjOk M w b o) (hM : M.le M') (hn : ∀ i, M' b i = M b i) : ObjOk M' w b o := by
  cases o with
  | vars cs => obtain ⟨arr, T, fr, h1, h2, h3, h4, h5⟩ := h; exact ⟨arr, T, fr, h1, h2, fun i hi => (h3 i hi).mono hM, h4, fun o => by rw [hn]; exact h5 o⟩
  | top e c => obtain ⟨arr, T, fr, h1, h2, h3, h4⟩ := h; exact ⟨arr, T, fr, h1, h2, h3, fun o ho => by rw [hn]; exact h4 o ho⟩
  | map kvs => obtain ⟨es, ck, h1, h2, h3, h4⟩ := h; exact ⟨es, ck, h1, h2, fun i hi => ⟨(h3 i hi).1.mono hM, (h3 i hi).2.mono hM⟩, h4⟩
  | siter s pos => exact h
  | miter m => exact h
  | mapr kvs r todo cur => obtain ⟨es, ck, s1, s2, h1, h2, h3, h4, r⟩ := h; exact ⟨es, ck, s1, s2, h1, h2, h3, fun i hi => ⟨(h4 i hi).1.mono hM, (h4 i hi).2.mono hM⟩, r⟩
theorem Mem.lit {E : Env} {M : PM} {G : Heap} {w : World} (h : Mem E M G w) (arr : Array Value) (T : TypeId) (fr : Nat × Nat) : Mem E (M.add w.heap.size arr) G (w.alloc (.cells arr T fr)) := by
  have ha := h.alloc (.cells arr T fr)
  refine ⟨ha.below, ha.base, fun b o v hv => ?_, fun b o ho => ⟨(ha.obj b o ho).1, ?_⟩⟩
  · unfold PM.add at hv
    by_cases e : b = w.heap.size
    · subst e
      rw [if_pos rfl] at hv
      have hh : (w.alloc (.cells arr T fr)).heap[w.heap.size]? = some (.cells arr T fr) := by show (w.heap.push _)[w.heap.size]? = _; simp
      unfold World.cell?
      simp only [hh, Option.isSome_none, Bool.false_eq_true, if_false]
      exact hv
    · rw [if_neg e] at hv; exact ha.pm _ _ _ hv
  · have hlt := (h.obj b o ho).2.lt
    exact ObjOk.grow (ha.obj b o ho).2 (h.le_add arr) (fun i => by unfold PM.add; rw [if_neg (by omega)])

/-! ### the types' facts -/
def tfield (P : Program) (s : TypeId) (i : Nat) : Option (Nat × TypeId × Nat) :=
  match P.underlying s with
  | some (.struct fs) => match fs[i]? with
    | some fd => match tsz P fd.type with | some n => some (fd.offset, fd.type, n) | none => none
    | none => none
  | _ => none
def tslice (P : Program) (t : TypeId) : Option (TypeId × Nat) :=
  match P.underlying t with
  | some (.slice e) => match tsz P e with | some n => some (e, n) | none => none
  | _ => none
def tarray (P : Program) (t : TypeId) : Option (Nat × TypeId × Nat) :=
  match P.underlying t with
  | some (.array l e) => match tsz P e with | some n => some (l, e, n) | none => none
  | _ => none
def zeroC : List Value → Option (List V)
  | [] => some []
  | v :: vs => match ofConst v, zeroC vs with | some x, some xs => some (x :: xs) | _, _ => none
def zeroV : Value → Option V
  | .agg cs => match zeroC cs.toList with | some xs => some (.agg xs) | none => none
  | v => ofConst v
def tzero (P : Program) (t : TypeId) : Option V := match P.info? t with | some i => (match i.zero with | some z => zeroV z | none => none) | none => none
def cellsV : V → List V
  | .agg cs => cs
  | x => [x]
theorem zeroC_rep (M : PM) : ∀ {vs : List Value} {xs : List V}, zeroC vs = some xs → RepL M xs vs
  | [], xs, h => by simp [zeroC] at h; subst h; exact RepL.nil
  | v :: vs, xs, h => by
    simp only [zeroC] at h
    split at h
    · rename_i x ys h1 h2; cases h; exact RepL.cons (ofConst_rep M h1) (zeroC_rep M h2)
    · cases h
theorem zeroV_rep (M : PM) {v : Value} {x : V} (h : zeroV v = some x) : Rep M x v := by
  unfold zeroV at h
  split at h
  · split at h
    · rename_i cs xs hx
      cases h
      have := (zeroC_rep M hx).agg
      simpa using this
    · cases h
  · exact ofConst_rep M h
theorem tzero_info {P : Program} {t : TypeId} {x : V} (h : tzero P t = some x) : ∃ i z, P.info? t = some i ∧ i.zero = some z ∧ ∀ M, Rep M x z := by
  unfold tzero at h
  split at h
  · rename_i i hi
    split at h
    · rename_i z hz; exact ⟨i, z, hi, hz, fun M => zeroV_rep M h⟩
    · cases h
  · cases h
theorem run_zeroValue {P : Program} {t : TypeId} {x : V} (h : tzero P t = some x) (w : World) : ∃ z, (zeroValue t).run P w = .ok z w ∧ ∀ M, Rep M x z := by
  obtain ⟨i, z, hi, hz, hr⟩ := tzero_info h
  exact ⟨z, by simp [zeroValue, typeInfo, hi, hz], hr⟩
/-- The cells of a value. -/
theorem Rep.cells {M : PM} {x : V} {v : Value} (h : Rep M x v) (ha : ∀ t, x ≠ .tup t) (hany : x ≠ .any) (hop : ∀ b y, x ≠ .opt b y) : RepL M (cellsV x) v.cells.toList := by
  cases h with
  | optT y v h => exact absurd rfl (hop _ _)
  | optF y => exact absurd rfl (hop _ _)
  | any v => exact absurd rfl hany
  | agg cs vs h r => exact RepL.ofArr h r
  | tup cs vs h r => exact absurd rfl (ha cs)
  | bool b => exact RepL.cons (.bool b) RepL.nil
  | int k n => exact RepL.cons (.int k n) RepL.nil
  | str s => exact RepL.cons (.str s) RepL.nil
  | nilp => exact RepL.cons .nilp RepL.nil
  | ptr b o => exact RepL.cons (.ptr b o) RepL.nil
  | lp cs o b z g hm hr => exact RepL.cons (.lp cs o b z g hm hr) RepL.nil
  | sl es nl t a len cap sz g hl hc hn hz hs he hm hr ht => exact RepL.cons (.sl es nl t a len cap sz g hl hc hn hz hs he hm hr ht) RepL.nil
  | ms b o len cap hc => exact RepL.cons (.ms b o len cap hc) RepL.nil
  | nilm => exact RepL.cons .nilm RepL.nil
  | map b => exact RepL.cons (.map b) RepL.nil
  | func fn xs ys us vs h1 h2 r1 r2 => exact RepL.cons (.func fn xs ys us vs h1 h2 r1 r2) RepL.nil
  | nilf => exact RepL.cons .nilf RepL.nil
  | iface t x v h => exact RepL.cons (.iface t x v h) RepL.nil
  | nili => exact RepL.cons .nili RepL.nil

/-! ### bytes -/
def bytesV (l : List UInt8) : List (List V) := l.map fun b => [V.int .u8 (b.toNat : Int)]
def unb (es : List (List V)) : List UInt8 := es.map fun e => match e with | [.int _ n] => UInt8.ofNat n.toNat | _ => 0
@[simp] theorem unb_bytesV (l : List UInt8) : unb (bytesV l) = l := by
  unfold unb bytesV
  rw [List.map_map]
  conv => rhs; rw [← List.map_id l]
  apply List.map_congr_left
  intro b _
  simp
@[simp] theorem length_bytesV (l : List UInt8) : (bytesV l).length = l.length := by simp [bytesV]
theorem getD_bytesV (l : List UInt8) (i : Nat) (h : i < l.length) : (bytesV l).getD i [] = [V.int .u8 ((l.getD i 0).toNat : Int)] := by
  simp [bytesV, h]

/-- A slice's elements in memory, from place z of block b on. -/
theorem sl_cells {E : Env} {M : PM} {G : Heap} {w : World} (h : Mem E M G w) {es : List (List V)} {nl : Bool} {t : Tag} {v : Value} (hr : Rep M (.sl es nl t) v) :
    (es = [] ∧ ∃ a c, v = .slice a 0 c) ∨ ∃ b z c sz, v = .slice (some ⟨b, z, none⟩) es.length c ∧ es.length ≤ c ∧ nl = false ∧ (∀ i (hi : i < es.length), (es[i]).length = sz) ∧
      (∀ i (hi : i < es.length), ∃ g : Nat → Value, (∀ j, j < sz → M b (z + i * sz + j) = some (g j)) ∧ ∀ j (hj : j < (es[i]).length), Rep M (es[i])[j] (g j)) ∧ TagOk t (some ⟨b, z, none⟩) es.length c sz := by
  cases hr with
  | sl es nl t a len cap sz g hl hc hn hz hs he hm hr ht =>
    subst hl
    cases a with
    | none =>
      have h0 := hz rfl
      subst h0
      have : es = [] := List.eq_nil_of_length_eq_zero (by omega)
      subst this
      exact .inl ⟨rfl, none, 0, rfl⟩
    | some ad =>
      rcases Nat.eq_zero_or_pos cap with h0 | h0
      · have : es = [] := List.eq_nil_of_length_eq_zero (by omega)
        subst this
        exact .inl ⟨rfl, _, _, rfl⟩
      obtain ⟨b, z, sp⟩ := ad
      have hsp := hs _ rfl h0
      simp only at hsp
      subst hsp
      refine .inr ⟨b, z, cap, sz, rfl, hc, hn, he, fun i hi => ⟨g i, fun j hj => ?_, fun j hj => hr i hi j hj⟩, ht⟩
      have := hm _ rfl i hi j hj
      simpa [Nat.add_assoc] using this
end Go.Proofs.YtclmcpbanaojfaaV

/-
  The operations that write nothing, as one function 'qv', and that the machine's answers are its.
-/
namespace Go.Proofs.YtclmcpbanaojfaaV
open Go.RowKit
set_option linter.unusedVariables false
set_option linter.unusedSimpArgs false

/-- Each element takes n cells. -/
def wid (n : Nat) (es : List (List V)) : Prop := ∀ e ∈ es, e.length = n
@[simp] theorem wid_nil (n : Nat) : wid n [] = True := by simp [wid]
@[simp] theorem wid_cons (n : Nat) (e : List V) (es : List (List V)) : wid n (e :: es) = (e.length = n ∧ wid n es) := by simp [wid]
@[simp] theorem wid_append (n : Nat) (a b : List (List V)) : wid n (a ++ b) = (wid n a ∧ wid n b) := by
  simp only [wid, List.mem_append, eq_iff_iff]
  exact ⟨fun h => ⟨fun e he => h e (.inl he), fun e he => h e (.inr he)⟩, fun h e he => he.elim (h.1 e) (h.2 e)⟩
@[simp] theorem wid_bytesV (l : List UInt8) : wid 1 (bytesV l) = True := by simp [wid, bytesV]
theorem wid_take {n : Nat} {es : List (List V)} (h : wid n es) (k : Nat) : wid n (es.take k) := fun e he => h e (List.mem_of_mem_take he)
theorem wid_drop {n : Nat} {es : List (List V)} (h : wid n es) (k : Nat) : wid n (es.drop k) := fun e he => h e (List.mem_of_mem_drop he)
theorem wid_map {A : Type} {n : Nat} {g : A → List V} (h : ∀ x, (g x).length = n) (l : List A) : wid n (l.map g) := fun e he => by
  obtain ⟨x, _, rfl⟩ := List.mem_map.1 he; exact h x
def pickV (t : Bool) : V → V → V
  | .bool a, .bool b => .bool (if t then a else b)
  | x, y => if t then x else y
/-- A value that stands there where the guard holds. -/
def unopt (g : Bool) : V → V
  | .opt b x => if !g || b then x else .opt b x
  | v => v
def unF (g : Bool) (f : FF) : FF := fun i => (f i).map (unopt g)
/-- Whether a guard on such a value is met. -/
def gcond (want : Bool) : V → Option Bool
  | .bool b => some (b == want)
  | .opt g (.bool b) => some (g && (b == want))
  | .opt false _ => some false
  | _ => none
def evL (f : FF) : List Operand → Option (List V)
  | [] => some []
  | o :: os => match ev f o, evL f os with | some x, some xs => some (x :: xs) | _, _ => none
def setMany (cs : List V) (off : Nat) : List V → List V
  | [] => cs
  | x :: xs => setMany (cs.set off x) (off + 1) xs
def plainV : V → Bool
  | .tup _ => false
  | .any => false
  | .opt _ _ => false
  | _ => true
def fillC (place : Nat → Option (Nat × Nat)) (f : FF) (cs : List V) : List (Nat × Operand) → Option (List V)
  | [] => some cs
  | (i, o) :: ps => match place i, ev f o with
    | some (off, n), some x => if plainV x && decide ((cellsV x).length = n) && decide (off + n ≤ cs.length) then fillC place f (setMany cs off (cellsV x)) ps else none
    | _, _ => none
def fillE (sz : Nat) (f : FF) (es : List (List V)) : List (Nat × Operand) → Option (List (List V))
  | [] => some es
  | (i, o) :: ps => match ev f o with
    | some x => if plainV x && decide ((cellsV x).length = sz) && decide (i < es.length) then fillE sz f (es.set i (cellsV x)) ps else none
    | none => none
def sliceTag (t : Tag) (sz l h n : Nat) : Tag :=
  match t with
  | .no => .no
  | .full => if h = n then .full else .no
  | .top s b e c => if h = n then (if s = sz then .top s b e c else .no) else .no
def bnd (lo hi : Option V) (n : Nat) : Option (Prop × Nat × Nat) :=
  match lo, hi with
  | none, none => some (True, 0, n)
  | some (.int _ l), none => some (0 ≤ l ∧ l ≤ n, l.toNat, n)
  | none, some (.int _ h) => some (0 ≤ h ∧ h ≤ n, 0, h.toNat)
  | some (.int _ l), some (.int _ h) => some ((0 ≤ h ∧ h ≤ n) ∧ 0 ≤ l ∧ l ≤ h, l.toNat, h.toNat)
  | _, _ => none
/-- The bounds of a slice of a row of the call's own. -/
def msb (len c : Nat) : Option V → Option V → Option V → Option (Int × Int × Int)
  | none, none, none => some (0, (len : Int), (c : Int))
  | some (.int _ l), none, none => some (l, (len : Int), (c : Int))
  | none, some (.int _ h), none => some (0, h, (c : Int))
  | some (.int _ l), some (.int _ h), none => some (l, h, (c : Int))
  | none, some (.int _ h), some (.int _ m) => some (0, h, m)
  | some (.int _ l), some (.int _ h), some (.int _ m) => some (l, h, m)
  | _, _, _ => none
def evO (f : FF) : Option Operand → Option (Option V)
  | none => some none
  | some o => match ev f o with | some x => some (some x) | none => none
def intKindOf (P : Program) (t : TypeId) : Option IntKind := match P.underlying t with | some (.int k) => some k | _ => none
def isStr (P : Program) (t : TypeId) : Bool := match P.underlying t with | some .string => true | _ => false
def isU8s (P : Program) (t : TypeId) : Bool := match P.underlying t with | some (.slice e) => (match P.underlying e with | some (.int .u8) => true | _ => false) | _ => false
def isIfaceT : TypeDesc → Bool | .interface _ => true | _ => false
def convV (P : Program) (src dst : TypeId) : V → R
  | .int _ n => match intKindOf P dst with | some k => if (P.underlying src).isSome then ok (.int k (k.wrap n)) else none | none => none
  | .str s => if isStr P dst then (if (P.underlying src).isSome then ok (.str s) else none) else if isU8s P dst then (if isStr P src then ok (.sl (bytesV s) false .no) else none) else none
  | .sl es nl t => if isStr P dst && isU8s P src then some (es = bytesV (unb es), .str (unb es)) else none
  | _ => none
def addrAt (P : Program) (t : TypeId) (x : V) (i : Int) : R :=
  match x with
  | .sl es nl tg => match tslice P t with
    | some (_, n) => some (0 ≤ i ∧ i < es.length ∧ wid n es, .lp (es.getD i.toNat []) 0)
    | none => none
  | .ms b o len cap => match tslice P t with
    | some (_, n) => some (0 ≤ i ∧ i < len, .ptr b (o + i.toNat * n))
    | none => none
  | .ptr b o => match tarray P t with
    | some (l, _, n) => some ((0 ≤ i ∧ i < l) ∧ 1 < l, .ptr b (o + i.toNat * n))
    | none => none
  | _ => none
def loadV (P : Program) (G : Heap) (t : TypeId) : V → Option V
  | .ptr b o => match hget G b with | some (.vars cs) => cellsAt P t cs o | _ => none
  | .lp cs o => cellsAt P t cs o
  | _ => none
def lenV (P : Program) (G : Heap) (t : TypeId) : V → R
  | .str s => if isStr P t then ok (.int .i64 s.length) else none
  | .sl es _ _ => if kindIs P t isSliceT then ok (.int .i64 es.length) else none
  | .ms _ _ l _ => if kindIs P t isSliceT then ok (.int .i64 l) else none
  | .nilm => if kindIs P t isMapT then ok (.int .i64 0) else none
  | .map b => if kindIs P t isMapT then (match hget G b with | some (.map kvs) => ok (.int .i64 kvs.length) | some (.mapr kvs _ _ _) => ok (.int .i64 kvs.length) | _ => none) else none
  | _ => none
def capV (P : Program) (t : TypeId) : V → R
  | .sl es _ .full => if kindIs P t isSliceT then ok (.int .i64 es.length) else none
  | .ms _ _ _ c => if kindIs P t isSliceT then ok (.int .i64 c) else none
  | _ => none
def fieldV (P : Program) (s : TypeId) (i : Nat) : V → R
  | .agg cs => match tfield P s i with
    | some (off, t, n) => match cellsAt P t cs off with | some x => ok x | none => none
    | none => none
  | _ => none

def placesL (P : Program) : List Field → Option (List (Nat × Nat))
  | [] => some []
  | fd :: fs => match tsz P fd.type, placesL P fs with | some n, some l => some ((fd.offset, n) :: l) | _, _ => none
/-- Where the parts of a struct or an array lie. -/
def tplaces (P : Program) (t : TypeId) : Option (List (Nat × Nat)) :=
  match P.underlying t with
  | some (.struct fs) => placesL P fs.toList
  | some (.array l e) => match tsz P e with | some n => some ((List.range l).map fun i => (i * n, n)) | none => none
  | _ => none
/-- What kind of simple type: 0 a truth, 1 a whole number, 2 a text. -/
def kindN (P : Program) (t : TypeId) : Option Nat := match P.underlying t with
  | some .bool => some 0
  | some (.int _) => some 1
  | some .string => some 2
  | _ => none
def eqK : Option Nat → V → V → Option Bool
  | some 0, .bool a, .bool b => some (a == b)
  | some 1, .int k a, .int k' b => if k = k' then some (decide (a = b)) else none
  | some 2, .str a, .str b => some (decide (a = b))
  | _, _, _ => none
def eqFs (P : Program) (cs ds : List V) : List (Nat × TypeId) → Option Bool
  | [] => some true
  | (o, t) :: fs => match cellsAt P t cs o, cellsAt P t ds o with
    | some x, some y => match eqK (kindN P t) x y, eqFs P cs ds fs with
      | some a, some b => some (a && b)
      | _, _ => none
    | _, _ => none
/-- A struct's parts, if '==' looks at each of them and at nothing else. -/
def flatS (P : Program) (t : TypeId) : Option (List (Nat × TypeId)) := match P.underlying t with
  | some (.struct fs) => if (!P.stoodInHeld t && !P.eqGuardType P.depth t && fs.toList.all (fun f => f.name != "_")) = true then some (fs.toList.map fun f => (f.offset, f.type)) else none
  | some (.array l e) => match tsz P e with
    | some n => if (!P.eqGuardType P.depth t) = true then some ((List.range l).map fun i => (i * n, e)) else none
    | none => none
  | _ => none
/-- '==' and '!=' of two structs. -/
def eqS (P : Program) (op : BinOp) (t : TypeId) (cs ds : List V) : R := match flatS P t with
  | some fs => match eqFs P cs ds fs with
    | some r => match op with | .eql => ok (.bool r) | .neq => ok (.bool (!r)) | _ => none
    | none => none
  | none => none
/-- A map's key's type, and what stands where nothing was put. -/
def tmap (P : Program) (t : TypeId) : Option (TypeId × V) := match P.underlying t with
  | some (.map k e) => match tzero P e with | some z => some (k, z) | none => none
  | _ => none
/-- Arrays of whole numbers as keys: of which kind, and how many. -/
def keyArr (P : Program) (k : TypeId) : Option (IntKind × Nat) := match P.underlying k with
  | some (.array l e) => match intKindOf P e, tsz P e with | some j, some 1 => some (j, l) | _, _ => none
  | _ => none
def keyCells (j : IntKind) : Nat → List V → Bool
  | 0, [] => true
  | n + 1, .int k _ :: cs => k == j && keyCells j n cs
  | _, _ => false
/-- Keys that are texts, whole numbers, or arrays of these. -/
def simpleKey (P : Program) (k : TypeId) : V → Bool
  | .str _ => isStr P k
  | .int j _ => match intKindOf P k with | some j' => j == j' | none => false
  | .agg cs => match keyArr P k with | some (j, l) => keyCells j l cs | none => false
  | _ => false
def eqInts : List V → List V → Option Bool
  | [], [] => some true
  | .int k a :: cs, .int k' b :: ds => if k = k' then (match eqInts cs ds with | some r => some (decide (a = b) && r) | none => none) else none
  | _, _ => none
def keyEq : V → V → Option Bool
  | .str a, .str b => some (decide (a = b))
  | .int k a, .int k' b => if k = k' then some (decide (a = b)) else none
  | .agg cs, .agg ds => eqInts cs ds
  | _, _ => none
/-- Where a key stands, and what is put there. -/
def mfind (K : V) : List (V × V) → Nat → Option (Option (Nat × V))
  | [], _ => some none
  | (k, x) :: l, i => match keyEq K k with
    | some true => some (some (i, x))
    | some false => mfind K l (i + 1)
    | none => none
def mput (kvs : List (V × V)) (K X : V) : Option (Nat × V) → List (V × V)
  | some (i, _) => kvs.set i (K, X)
  | none => kvs ++ [(K, X)]
def lkR (okk : Bool) (x : V) (b : Bool) : V := if okk then .tup [x, .bool b] else x
def lkF (okk : Bool) (z : V) : Option (Option (Nat × V)) → R
  | some (some (_, v)) => ok (lkR okk v true)
  | some none => ok (lkR okk z false)
  | none => none
def lookV (G : Heap) (K z : V) (okk : Bool) : V → R
  | .nilm => ok (lkR okk z false)
  | .map b => match hget G b with | some (.map kvs) => lkF okk z (mfind K kvs 0) | some (.mapr kvs _ _ _) => lkF okk z (mfind K kvs 0) | _ => none
  | _ => none
/-- The key and the value that a map's walk has come to. -/
def entV (G : Heap) : V → R
  | .ptr r o => if o = 0 then (match hget G r with
    | some (.miter m) => match hget G m with
      | some (.mapr kvs r' _ (some c)) => if r' = r then (match kvs[c]? with | some (k, v) => ok (.tup [k, v]) | none => none) else none
      | _ => none
    | _ => none) else none
  | _ => none
def qv (P : Program) (f : FF) (G : Heap) : Op → R
  | .move x => match ev f x with | some X => ok X | none => none
  | .assign x => match ev f x with | some X => ok X | none => none
  | .pick c a b => match ev f c with
    | some (.bool t) => ok (pickV t (unopt t ((ev f a).getD .any)) (unopt (!t) ((ev f b).getD .any)))
    | _ => none
  | .nilCheck x => match ev f x with
    | some (.ptr b o) => ok (.ptr b o)
    | some (.lp cs o) => ok (.lp cs o)
    | some (.func (.func g) xs ys) => ok (.func (.func g) xs ys)
    | _ => none
  | .binOp op t x y _ => match ev f x, ev f y with | some (.agg cs), some (.agg ds) => eqS P op t cs ds | some X, some Y => binV P op t X Y | _, _ => none
  | .unOp op t x => match ev f x with
    | some (.int k n) => (match op with | .neg => ok (.int k (k.wrap (0 - n))) | .xor => ok (.int k (bits .xor k (if k.signed then -1 else k.max) n)) | _ => none)
    | some (.bool b) => (match op with | .not => ok (.bool (!b)) | _ => none)
    | _ => none
  | .convert src dst x => match ev f x with | some X => convV P src dst X | none => none
  | .makeInterface t x => match ev f x with | some X => if kindIs P t (fun d => !isIfaceT d) then ok (.iface t X) else none | none => none
  | .makeFunc fn xs ys => match evL f xs.toList, evL f ys.toList with | some X, some Y => ok (.func fn X Y) | _, _ => none
  | .slice t x lo hi mx => match evO f mx, ev f x, evO f lo, evO f hi with
    | some (some (.int _ k)), some (.sl es nl tg), some none, some (some (.int _ h)) => match tslice P t with
      | some _ => some (h = 0 ∧ k = 0, .sl [] nl .full)
      | none => none
    | some none, some (.str s), some l, some h => if isStr P t then (match bnd l h s.length with | some (C, l, h) => some (C, .str ((s.take h).drop l)) | none => none) else none
    | some none, some (.sl es nl tg), some l, some h => match tslice P t, bnd l h es.length with
      | some (_, n), some (C, l, h) => some (C ∧ wid n es, .sl ((es.take h).drop l) nl (sliceTag tg n l h es.length))
      | _, _ => none
    | some none, some (.ms b o _ c), some none, some (some (.int _ h)) => match tslice P t with
      | some _ => some (0 ≤ h ∧ h ≤ c, .ms b o h.toNat c)
      | none => none
    | some m, some (.ms b o len c), some l, some h => match tslice P t, msb len c l h m with
      | some (_, n), some (l, h, m) => some (0 ≤ l ∧ l ≤ h ∧ h ≤ m ∧ m ≤ c, .ms b (if m = l then o else o + l.toNat * n) (h - l).toNat (m - l).toNat)
      | _, _ => none
    | _, _, _, _ => none
  | .fieldAddr s x i => match ev f x, tfield P s i with
    | some (.ptr b o), some (off, _, n) => if n = 0 then none else ok (.ptr b (o + off))
    | some (.lp cs o), some (off, _, n) => if n = 0 then none else ok (.lp cs (o + off))
    | _, _ => none
  | .field s x i => match ev f x with | some X => fieldV P s i X | none => none
  | .indexAddr t x i => match ev f x, ev f i with | some X, some (.int _ n) => addrAt P t X n | _, _ => none
  | .index t x i => match ev f x, ev f i with
    | some (.str s), some (.int _ n) => if isStr P t then some (0 ≤ n ∧ n < s.length, .int .u8 ((s.getD n.toNat 0).toNat : Int)) else none
    | some (.agg cs), some (.int _ n) => match tarray P t with
      | some (l, e, 1) => (match tagg P e with | some false => some ((0 ≤ n ∧ n < l) ∧ cs.length = l, cs.getD n.toNat .any) | _ => none)
      | _ => none
    | _, _ => none
  | .extract x i => match ev f x with | some (.tup xs) => (match xs[i]? with | some X => ok X | none => none) | _ => none
  | .load t a => match ev f a with | some X => (match loadV P G t X with | some Y => ok Y | none => none) | none => none
  | .lookup t x k okk => match ev f x, ev f k, tmap P t with
    | some X, some K, some (kt, z) => if simpleKey P kt K then lookV G K z okk X else none
    | _, _, _ => none
  | .entry x => match ev f x with | some X => entV G X | none => none
  | .build t ps => match tzero P t, tplaces P t with
    | some (.agg cs), some pl => (match fillC (fun i => pl[i]?) f cs ps.toList with | some cs => ok (.agg cs) | none => none)
    | _, _ => none
  | .buildSlice t len ps => match tslice P t with
    | some (e, n) => match tzero P e with
      | some z => if plainV z && decide ((cellsV z).length = n) && decide (len * n ≤ 16777216) then (match fillE n f (List.replicate len (cellsV z)) ps.toList with | some es => ok (.sl es false .full) | none => none) else none
      | none => none
    | none => none
  | .call { callee := .builtin b, args := as_, argTypes := ts } => match b, as_.toList, ts.toList with
    | .len, [x], t :: _ => (match ev f x with | some X => lenV P G t X | none => none)
    | .cap, [x], t :: _ => (match ev f x with | some X => capV P t X | none => none)
    | .min, [x, y], _ => (match ev f x, ev f y with | some (.int k a), some (.int k' b) => if k = k' then ok (.int k (if b < a then b else a)) else none | _, _ => none)
    | .max, [x, y], _ => (match ev f x, ev f y with | some (.int k a), some (.int k' b) => if k = k' then ok (.int k (if b > a then b else a)) else none | _, _ => none)
    | _, _, _ => none
  | _ => none
end Go.Proofs.YtclmcpbanaojfaaV

/-
  That 'qv' tells what the machine answers: the pieces.
-/
namespace Go.Proofs.YtclmcpbanaojfaaV
open Go.RowKit
set_option linter.unusedVariables false
set_option linter.unusedSimpArgs false

section
variable {P : Program} {E : Env} {M : PM} {G : Heap} {w : World} {f : FF} {a : Act}

theorem pickV_rep {t : Bool} {x y : V} {u v : Value} (hx : t = true → Rep M x u) (hy : t = false → Rep M y v) : Rep M (pickV t x y) (if t then u else v) := by
  unfold pickV
  split
  · cases t
    · obtain rfl := (hy rfl).bool_inv; exact .bool _
    · obtain rfl := (hx rfl).bool_inv; exact .bool _
  · cases t
    · exact hy rfl
    · exact hx rfl
theorem unopt_rep {x : V} {v : Value} (h : Rep M x v) : Rep M (unopt true x) v := by
  unfold unopt
  split
  · cases h with
    | optT y v h => simpa using h
    | optF y => simpa using Rep.optF _
  · exact h
theorem unF_rep {t : Array Value} (h : RepG M f t) : RepG M (unF true f) t := by
  intro i u hu
  simp only [unF, Option.map_eq_some_iff] at hu
  obtain ⟨x, h1, rfl⟩ := hu
  exact ⟨(h i x h1).1, unopt_rep (h i x h1).2⟩
theorem getD_rep {o : Operand} (hf : RepG M f a.tmps) : Rep M ((ev f o).getD .any) (a.eval o) := by
  cases h : ev f o with
  | none => exact .any _
  | some x => exact ev_rep hf h
theorem evL_rep (hf : RepG M f a.tmps) : ∀ {os : List Operand} {xs : List V}, evL f os = some xs → RepL M xs (os.map a.eval)
  | [], xs, h => by simp [evL] at h; subst h; exact RepL.nil
  | o :: os, xs, h => by
    simp only [evL] at h
    split at h
    · rename_i x ys h1 h2; cases h; exact RepL.cons (ev_rep hf h1) (evL_rep hf h2)
    · cases h
theorem RepL.func {fn : Fn} {xs ys : List V} {us vs : Array Value} (h1 : RepL M xs us.toList) (h2 : RepL M ys vs.toList) : Rep M (.func fn xs ys) (.func fn us vs) := by
  refine .func fn xs ys us vs (by have := h1.1; simp at this; exact this.symm) (by have := h2.1; simp at this; exact this.symm) (fun i hi => ?_) (fun i hi => ?_)
  · have := h1.2 i hi; rw [Array.getD_eq_getD_getElem?]; simpa [List.getD_eq_getElem?_getD] using this
  · have := h2.2 i hi; rw [Array.getD_eq_getD_getElem?]; simpa [List.getD_eq_getElem?_getD] using this

/-! ### literals -/
theorem setMany_rep : ∀ {xs : List V} {us : List Value} (hx : RepL M xs us) {cs : List V} {vs : Array Value} (off k : Nat), RepL M cs vs.toList →
    RepL M (setMany cs (off + k) xs) ((us.zipIdx k).foldl (fun cs (c, j) => cs.setIfInBounds (off + j) c) vs).toList
  | [], us, hx, cs, vs, off, k, h => by
    have : us = [] := List.eq_nil_of_length_eq_zero hx.1.symm
    subst this; exact h
  | x :: xs, [], hx, cs, vs, off, k, h => absurd hx.1 (by simp)
  | x :: xs, u :: us, hx, cs, vs, off, k, h => by
    simp only [setMany, List.zipIdx_cons, List.foldl_cons]
    have h' : RepL M (cs.set (off + k) x) (vs.setIfInBounds (off + k) u).toList := by
      simpa using h.set (off + k) hx.head
    exact setMany_rep hx.tail off (k + 1) h'
theorem setMany_length : ∀ (xs cs : List V) (off : Nat), (setMany cs off xs).length = cs.length
  | [], cs, off => rfl
  | x :: xs, cs, off => by simp [setMany, setMany_length xs]
theorem plainV_cells {x : V} {v : Value} (hp : plainV x = true) (h : Rep M x v) : RepL M (cellsV x) v.cells.toList :=
  h.cells (fun t e => by subst e; simp [plainV] at hp) (fun e => by subst e; simp [plainV] at hp) (fun b y e => by subst e; simp [plainV] at hp)
theorem fillC_rep {place : Nat → Option (Nat × Nat)} (hf : RepG M f a.tmps) : ∀ {ps : List (Nat × Operand)} {cs cs' : List V} {vs : Array Value}, fillC place f cs ps = some cs' → RepL M cs vs.toList →
    ∃ vs', Instr.fill place vs (ps.map fun (i, x) => (i, a.eval x)) = some vs' ∧ RepL M cs' vs'.toList
  | [], cs, cs', vs, h, hr => by simp [fillC] at h; subst h; exact ⟨vs, rfl, hr⟩
  | (i, o) :: ps, cs, cs', vs, h, hr => by
    simp only [fillC] at h
    split at h
    · rename_i off n x hp hx
      split at h
      · rename_i hc
        simp only [Bool.and_eq_true, decide_eq_true_eq] at hc
        obtain ⟨⟨hpl, hn⟩, hlen⟩ := hc
        have hxr := plainV_cells hpl (ev_rep hf hx)
        have hset := setMany_rep hxr off 0 hr
        rw [Nat.add_zero] at hset
        obtain ⟨vs', h1, h2⟩ := fillC_rep hf h hset
        refine ⟨vs', ?_, h2⟩
        have e1 : (a.eval o).cells.size = n := by have := hxr.1; rw [hn] at this; simpa using this.symm
        have e2 : cs.length = vs.size := by have := hr.1; simpa using this
        simp only [List.map_cons, Instr.fill, hp, e1]
        rw [if_neg (by simp; omega), ← h1]
        congr 1
        rw [← Array.foldl_toList]
        simp
      · cases h
    · cases h
theorem flatten_set : ∀ (es : List (List V)) (sz i : Nat) (c : List V), (∀ e ∈ es, e.length = sz) → c.length = sz → i < es.length → (es.set i c).flatten = setMany es.flatten (i * sz) c := by
  have aux : ∀ (c pre mid post : List V), mid.length = c.length → setMany (pre ++ (mid ++ post)) pre.length c = pre ++ (c ++ post) := by
    intro c
    induction c with
    | nil => intro pre mid post h; have : mid = [] := List.eq_nil_of_length_eq_zero h; subst this; rfl
    | cons x c ih =>
      intro pre mid post h
      match mid, h with
      | m :: mid, h =>
        have := ih (pre ++ [x]) mid post (by simpa using h)
        simp only [setMany, List.cons_append]
        rw [List.set_append_right _ _ (Nat.le_refl _), Nat.sub_self, List.set_cons_zero]
        simp only [List.append_assoc, List.singleton_append, List.length_append, List.length_singleton] at this
        exact this
  intro es
  induction es with
  | nil => intro sz i c _ _ hi; simp at hi
  | cons e es ih =>
    intro sz i c he hc hi
    cases i with
    | zero =>
      have := aux c [] e es.flatten (by rw [he e (by simp), hc])
      simpa using this.symm
    | succ i =>
      have hi' : i < es.length := by simpa using hi
      simp only [List.set_cons_succ, List.flatten_cons]
      rw [ih sz i c (fun e h => he e (by simp [h])) hc hi']
      have hel : e.length = sz := he e (by simp)
      have aux2 : ∀ (c cs : List V) (pre : List V) (k : Nat), setMany (pre ++ cs) (pre.length + k) c = pre ++ setMany cs k c := by
        intro c
        induction c with
        | nil => intro cs pre k; rfl
        | cons x c ih2 =>
          intro cs pre k
          simp only [setMany]
          rw [List.set_append_right _ _ (by omega), Nat.add_sub_cancel_left, Nat.add_assoc]
          exact ih2 _ _ _
      have := aux2 c es.flatten e (i * sz)
      rw [hel] at this
      rw [show (i + 1) * sz = sz + i * sz by rw [Nat.add_mul]; omega]
      exact this.symm
theorem fillE_rep {n : Nat} (hf : RepG M f a.tmps) : ∀ {ps : List (Nat × Operand)} {es es' : List (List V)} {vs : Array Value}, fillE n f es ps = some es' → (∀ e ∈ es, e.length = n) → RepL M es.flatten vs.toList →
    ∃ vs', Instr.fill (fun i => some (i * n, n)) vs (ps.map fun (i, x) => (i, a.eval x)) = some vs' ∧ RepL M es'.flatten vs'.toList ∧ (∀ e ∈ es', e.length = n) ∧ es'.length = es.length
  | [], es, es', vs, h, he, hr => by simp [fillE] at h; subst h; exact ⟨vs, rfl, hr, he, rfl⟩
  | (i, o) :: ps, es, es', vs, h, he, hr => by
    simp only [fillE] at h
    split at h
    · rename_i x hx
      split at h
      · rename_i hc
        simp only [Bool.and_eq_true, decide_eq_true_eq] at hc
        obtain ⟨⟨hpl, hn⟩, hlen⟩ := hc
        have hxr := plainV_cells hpl (ev_rep hf hx)
        have hset := setMany_rep hxr (i * n) 0 hr
        rw [Nat.add_zero, ← flatten_set es n i _ he hn hlen] at hset
        obtain ⟨vs', h1, h2, h3, h4⟩ := fillE_rep hf h (fun e hm => by
          rcases List.mem_or_eq_of_mem_set hm with q | q
          · exact he e q
          · rw [q]; exact hn) hset
        refine ⟨vs', ?_, h2, h3, by simpa using h4⟩
        have e1 : (a.eval o).cells.size = n := by have := hxr.1; rw [hn] at this; simpa using this.symm
        have e3 : es.flatten.length = es.length * n := by
          have : ∀ l : List (List V), (∀ e ∈ l, e.length = n) → l.flatten.length = l.length * n := by
            intro l
            induction l with
            | nil => intro _; simp
            | cons e l ih => intro hh; rw [List.flatten_cons, List.length_append, ih (fun e h => hh e (by simp [h])), hh e (by simp), List.length_cons, Nat.add_mul]; omega
          exact this es he
        have e2 : es.length * n = vs.size := by have := hr.1; rw [e3] at this; simpa using this
        have e4 : i * n + n ≤ es.length * n := by rw [← Nat.succ_mul]; exact Nat.mul_le_mul_right _ hlen
        simp only [List.map_cons, Instr.fill, e1]
        rw [if_neg (by simp; omega), ← h1]
        congr 1
        rw [← Array.foldl_toList]
        simp
      · cases h
    · cases h
end
end Go.Proofs.YtclmcpbanaojfaaV

/-
  That 'qv' tells what the machine answers.
-/
namespace Go.Proofs.YtclmcpbanaojfaaV
open Go.RowKit
set_option linter.unusedVariables false
set_option linter.unusedSimpArgs false

section
variable {P : Program} {E : Env} {M : PM} {G : Heap} {w : World} {f : FF} {a : Act}
/-- The machine's answer to an operation that writes nothing. -/
def Ans (P : Program) (E : Env) (M : PM) (G : Heap) (w : World) (s : Sem Value) (x : V) : Prop := ∃ M' w' v, M.le M' ∧ Mem E M' G w' ∧ Rep M' x v ∧ s.run P w = .ok v w'
theorem Ans.pure {s : Sem Value} {x : V} {v : Value} (hm : Mem E M G w) (hr : Rep M x v) (h : s.run P w = .ok v w) : Ans P E M G w s x := ⟨M, w, v, M.le_refl, hm, hr, h⟩

theorem ans_extract {t : V} {u : Value} {i : Nat} {xs : List V} {x : V} (hm : Mem E M G w) (hr : Rep M (.tup xs) u) (hx : xs[i]? = some x) : Ans P E M G w (Instr.extract u i) x := by
  obtain ⟨vs, rfl, hl⟩ := hr.tup_inv
  obtain ⟨v, hv, hrv⟩ := hl.get hx
  refine .pure hm hrv ?_
  simp only [Array.getElem?_toList] at hv
  simp [Instr.extract, hv]
theorem ans_loadV {t : TypeId} {X x : V} {u : Value} (hm : Mem E M G w) (hr : Rep M X u) (h : loadV P G t X = some x) : Ans P E M G w (Instr.loadAt t u) x := by
  unfold loadV at h
  split at h
  · rename_i b o
    obtain rfl := hr.ptr_inv
    split at h
    · rename_i cs hb
      obtain ⟨v, hv, hrv⟩ := run_loadVar_rep (P := P) (hm.cellsRep_vars hb) h
      rw [Nat.zero_add] at hv
      exact .pure hm hrv (by simp [Instr.loadAt, Instr.sureAddr, hv])
    · cases h
  · rename_i cs o
    obtain ⟨b, z, rfl, hc⟩ := hr.lp_cells hm
    obtain ⟨v, hv, hrv⟩ := run_loadVar_rep (P := P) hc h
    exact .pure hm hrv (by simp [Instr.loadAt, Instr.sureAddr, hv])
  · cases h
theorem tfield_info {s : TypeId} {i off n : Nat} {t : TypeId} (h : tfield P s i = some (off, t, n)) : ∃ fs fd, P.underlying s = some (.struct fs) ∧ fs[i]? = some fd ∧ fd.offset = off ∧ fd.type = t ∧ tsz P t = some n := by
  unfold tfield at h
  split at h
  · rename_i fs hu
    split at h
    · rename_i fd hfd
      split at h
      · rename_i n' hn
        cases h
        exact ⟨fs, fd, hu, hfd, rfl, rfl, hn⟩
      · cases h
    · cases h
  · cases h
theorem tslice_info {t e : TypeId} {n : Nat} (h : tslice P t = some (e, n)) : P.underlying t = some (.slice e) ∧ tsz P e = some n := by
  unfold tslice at h
  split at h
  · rename_i e' hu
    split at h
    · rename_i n' hn; cases h; exact ⟨hu, hn⟩
    · cases h
  · cases h
theorem tarray_info {t e : TypeId} {l n : Nat} (h : tarray P t = some (l, e, n)) : P.underlying t = some (.array l e) ∧ tsz P e = some n := by
  unfold tarray at h
  split at h
  · rename_i l' e' hu
    split at h
    · rename_i n' hn; cases h; exact ⟨hu, hn⟩
    · cases h
  · cases h
theorem ans_fieldAt_ptr {s : TypeId} {i off n b o : Nat} {t : TypeId} {u : Value} (hm : Mem E M G w) (hr : Rep M (.ptr b o) u) (h : tfield P s i = some (off, t, n)) (hn : n ≠ 0) : Ans P E M G w (Instr.fieldAt s u i) (.ptr b (o + off)) := by
  obtain rfl := hr.ptr_inv
  obtain ⟨fs, fd, hu, hfd, rfl, rfl, hs⟩ := tfield_info h
  refine .pure hm (.ptr b (o + fd.offset)) ?_
  simp [Instr.fieldAt, run_underlying hu, hfd, Instr.sureAddr, fieldPlace, run_sizeOf hs, hn, Addr.add_lit]
theorem ans_fieldAt_lp {s : TypeId} {i off n o : Nat} {cs : List V} {t : TypeId} {u : Value} (hm : Mem E M G w) (hr : Rep M (.lp cs o) u) (h : tfield P s i = some (off, t, n)) (hn : n ≠ 0) : Ans P E M G w (Instr.fieldAt s u i) (.lp cs (o + off)) := by
  cases hr with
  | lp cs o b z g hmm hr =>
    obtain ⟨fs, fd, hu, hfd, rfl, rfl, hs⟩ := tfield_info h
    refine .pure hm (.lp cs (o + fd.offset) b z g hmm hr) ?_
    simp [Instr.fieldAt, run_underlying hu, hfd, Instr.sureAddr, fieldPlace, run_sizeOf hs, hn, Addr.add_lit, Nat.add_assoc]
theorem run_part {t : TypeId} {cs : List V} {vs : Array Value} {off : Nat} {x : V} (hl : RepL M cs vs.toList) (h : cellsAt P t cs off = some x) : ∃ v, (part t vs off).run P w = .ok v w ∧ Rep M x v := by
  unfold cellsAt at h
  split at h
  · rename_i n hg hs
    split at h
    · rename_i hlen
      cases h
      refine ⟨.agg (vs.extract off (off + n)), by simp only [part, Sem.run_bind, run_isAgg hg, run_sizeOf hs, Result.andThen_ok, if_true, Sem.run_pure], ?_⟩
      have := ((hl.drop off).take n).agg
      have e : ((vs.toList.drop off).take n).toArray = vs.extract off (off + n) := by
        apply Array.ext'
        simp [List.take_drop, Nat.add_comm]
      rw [e] at this; exact this
    · cases h
  · rename_i n hg hs
    obtain ⟨v, hv, hr⟩ := hl.get h
    simp only [Array.getElem?_toList] at hv
    exact ⟨v, by simp only [part, Sem.run_bind, run_isAgg hg, Result.andThen_ok, Bool.false_eq_true, if_false, hv, Sem.run_pure], hr⟩
  · cases h
theorem ans_field {s : TypeId} {i : Nat} {X x : V} {u : Value} {C : Prop} (hm : Mem E M G w) (hr : Rep M X u) (h : fieldV P s i X = some (C, x)) : Ans P E M G w (Instr.field s u i) x := by
  unfold fieldV at h
  split at h
  · rename_i cs
    obtain ⟨vs, rfl, hl⟩ := hr.agg_inv
    split at h
    · rename_i off t n ht
      split at h
      · rename_i y hy
        simp only [ok, Option.some.injEq, Prod.mk.injEq] at h
        obtain ⟨_, rfl⟩ := h
        obtain ⟨fs, fd, hu, hfd, rfl, rfl, hs⟩ := tfield_info ht
        obtain ⟨v, hv, hrv⟩ := run_part (P := P) (w := w) hl hy
        exact .pure hm hrv (by simp [Instr.field, run_underlying hu, hfd, asAgg, hv])
      · cases h
    · cases h
  · cases h
theorem ans_indexAt {t : TypeId} {X x : V} {u : Value} {k : IntKind} {i : Int} {C : Prop} (hm : Mem E M G w) (hr : Rep M X u) (h : addrAt P t X i = some (C, x)) (hC : C) : Ans P E M G w (Instr.indexAt t u (.int k i)) x := by
  unfold addrAt at h
  split at h
  · rename_i es nl tg
    split at h
    · rename_i e n ht
      obtain ⟨hu, hs⟩ := tslice_info ht
      simp only [Option.some.injEq, Prod.mk.injEq] at h
      obtain ⟨rfl, rfl⟩ := h
      obtain ⟨h0, h1, hwid⟩ := hC
      obtain ⟨j, rfl⟩ := Int.eq_ofNat_of_zero_le h0
      have hj : j < es.length := by omega
      rcases sl_cells hm hr with ⟨rfl, _⟩ | ⟨b, z, c, sz, rfl, hc, _, he, hmem, _⟩
      · simp at hj
      · obtain ⟨g, hg1, hg2⟩ := hmem j hj
        have hgd : es.getD j [] = es[j] := by simp [hj]
        have hz : sz = n := by rw [← he j hj]; exact hwid _ (List.getElem_mem hj)
        subst hz
        rw [Int.toNat_natCast, hgd]
        refine .pure hm (.lp es[j] 0 b (z + j * sz) g ?_ (fun i hi => hg2 i hi)) ?_
        · intro i hi
          exact hg1 i (by rw [he j hj] at hi; exact hi)
        · have h1' : (j : Int) < (es.length : Int) := h1
          simp [Instr.indexAt, asIntOf, run_underlying hu, run_sizeOf hs, h1', Addr.add_lit, hj]
    · cases h
  · rename_i b o len cap
    obtain ⟨rfl, hc⟩ := hr.ms_inv
    split at h
    · rename_i e n ht
      obtain ⟨hu, hs⟩ := tslice_info ht
      simp only [Option.some.injEq, Prod.mk.injEq] at h
      obtain ⟨rfl, rfl⟩ := h
      refine .pure hm (.ptr _ _) ?_
      simp [Instr.indexAt, asIntOf, run_underlying hu, run_sizeOf hs, hC.1, hC.2, Addr.add_lit]
    · cases h
  · rename_i b o
    obtain rfl := hr.ptr_inv
    split at h
    · rename_i l e n ht
      obtain ⟨hu, hs⟩ := tarray_info ht
      simp only [Option.some.injEq, Prod.mk.injEq] at h
      obtain ⟨rfl, rfl⟩ := h
      obtain ⟨⟨h0, h1⟩, h2⟩ := hC
      refine .pure hm (.ptr _ _) ?_
      simp [Instr.indexAt, asIntOf, run_underlying hu, run_sizeOf hs, h0, h1, Instr.sureAddr, Addr.add_lit]
    · cases h
  · cases h

theorem ans_lenV {t ty : TypeId} {ts : List TypeId} {X x : V} {u : Value} {C : Prop} (hm : Mem E M G w) (hr : Rep M X u) (h : lenV P G t X = some (C, x)) : Ans P E M G w (Builtin.len_ (t :: ts).toArray ty #[u]) x := by
  unfold lenV at h
  split at h
  · rename_i s
    obtain rfl := hr.str_inv
    split at h
    · rename_i hs
      simp only [ok, Option.some.injEq, Prod.mk.injEq] at h
      obtain ⟨_, rfl⟩ := h
      have hu : P.underlying t = some .string := by unfold isStr at hs; split at hs <;> simp_all
      refine .pure hm (.int .i64 _) ?_
      have hsz : (ByteArray.mk s.toArray).size = s.length := by show s.toArray.size = _; simp
      simp [Builtin.len_, run_underlying hu, goInt, hsz]
    · cases h
  · rename_i es nl tg
    obtain ⟨ad, c, rfl, hc, rfl⟩ := sl_inv hr
    split at h
    · rename_i hk
      simp only [ok, Option.some.injEq, Prod.mk.injEq] at h
      obtain ⟨_, rfl⟩ := h
      obtain ⟨d, hd, hk⟩ := kindIs_some hk
      cases d <;> simp [isSliceT] at hk
      refine .pure hm (.int .i64 _) ?_
      simp [Builtin.len_, run_underlying hd, goInt]
    · cases h
  · rename_i b o l c
    obtain ⟨rfl, hc⟩ := hr.ms_inv
    split at h
    · rename_i hk
      simp only [ok, Option.some.injEq, Prod.mk.injEq] at h
      obtain ⟨_, rfl⟩ := h
      obtain ⟨d, hd, hk⟩ := kindIs_some hk
      cases d <;> simp [isSliceT] at hk
      refine .pure hm (.int .i64 _) ?_
      simp [Builtin.len_, run_underlying hd, goInt]
    · cases h
  · obtain rfl := hr.nilm_inv
    split at h
    · rename_i hk
      simp only [ok, Option.some.injEq, Prod.mk.injEq] at h
      obtain ⟨_, rfl⟩ := h
      obtain ⟨d, hd, hk⟩ := kindIs_some hk
      cases d <;> simp [isMapT] at hk
      refine .pure hm (.int .i64 _) ?_
      simp [Builtin.len_, run_underlying hd, goInt]
    · cases h
  · rename_i b
    obtain rfl := hr.map_inv
    split at h
    · rename_i hk
      split at h
      · rename_i kvs hb
        simp only [ok, Option.some.injEq, Prod.mk.injEq] at h
        obtain ⟨_, rfl⟩ := h
        obtain ⟨d, hd, hk⟩ := kindIs_some hk
        cases d <;> simp [isMapT] at hk
        obtain ⟨_, es, ck, h1, h2, _⟩ := hm.obj b _ hb
        refine .pure hm (.int .i64 _) ?_
        simp [Builtin.len_, run_underlying hd, goInt, getObj, Sem.run, h1, h2]
      · rename_i kvs r0 td0 cu0 hb
        simp only [ok, Option.some.injEq, Prod.mk.injEq] at h
        obtain ⟨_, rfl⟩ := h
        obtain ⟨d, hd, hk⟩ := kindIs_some hk
        cases d <;> simp [isMapT] at hk
        obtain ⟨_, es, ck, _, _, h1, _, h2, _⟩ := hm.obj b _ hb
        refine .pure hm (.int .i64 _) ?_
        simp [Builtin.len_, run_underlying hd, goInt, getObj, Sem.run, h1, h2]
      · cases h
    · cases h
  · cases h
theorem isStr_info {t : TypeId} (h : isStr P t = true) : P.underlying t = some .string := by
  unfold isStr at h; split at h <;> simp_all
theorem isU8s_info {t : TypeId} (h : isU8s P t = true) : ∃ e, P.underlying t = some (.slice e) ∧ P.underlying e = some (.int .u8) := by
  unfold isU8s at h
  split at h
  · rename_i e hu
    split at h
    · exact ⟨e, hu, by assumption⟩
    · cases h
  · cases h
theorem ans_index_str {t ty : TypeId} {s : List UInt8} {u : Value} {k : IntKind} {n : Int} (hm : Mem E M G w) (hr : Rep M (.str s) u) (ht : isStr P t = true) (h0 : 0 ≤ n) (h1 : n < s.length) :
    Ans P E M G w (Instr.index t u (.int k n)) (.int .u8 ((s.getD n.toNat 0).toNat : Int)) := by
  obtain rfl := hr.str_inv
  obtain ⟨j, rfl⟩ := Int.eq_ofNat_of_zero_le h0
  have hj : j < s.length := by omega
  have hsz : (ByteArray.mk s.toArray).size = s.length := by show s.toArray.size = _; simp
  have hg : (ByteArray.mk s.toArray)[j]? = some s[j] := by
    have : j < (ByteArray.mk s.toArray).size := by omega
    rw [getElem?_pos (ByteArray.mk s.toArray) j this]; rfl
  refine .pure hm (.int .u8 _) ?_
  simp [Instr.index, asIntOf, run_underlying (isStr_info ht), hg, hj]
def OptRep (M : PM) : Option V → Option Value → Prop
  | none, none => True
  | some x, some v => Rep M x v
  | _, _ => False
theorem run_sliceBounds {isSlice : Bool} {len cap : Nat} {lo hi : Option V} {ulo uhi : Option Value} {C : Prop} {l h : Nat} (hb : bnd lo hi len = some (C, l, h)) (hC : C) (hc : len ≤ cap)
    (h1 : OptRep M lo ulo) (h2 : OptRep M hi uhi) :
    (Instr.sliceBounds isSlice len cap ulo uhi none).run P w = .ok (l, h, cap) w ∧ l ≤ h ∧ h ≤ len := by
  unfold bnd at hb
  split at hb
  · simp only [Option.some.injEq, Prod.mk.injEq] at hb
    obtain ⟨rfl, rfl, rfl⟩ := hb
    cases ulo <;> simp only [OptRep] at h1
    cases uhi <;> simp only [OptRep] at h2
    exact ⟨by simp [Instr.sliceBounds], Nat.zero_le _, Nat.le_refl _⟩
  · rename_i k lv
    simp only [Option.some.injEq, Prod.mk.injEq] at hb
    obtain ⟨rfl, rfl, rfl⟩ := hb
    cases ulo <;> simp only [OptRep] at h1
    cases uhi <;> simp only [OptRep] at h2
    obtain rfl := h1.int_inv
    refine ⟨by simp [Instr.sliceBounds, Instr.sliceBound, asIntOf, hC.1, hC.2], by omega, Nat.le_refl _⟩
  · rename_i k hv
    simp only [Option.some.injEq, Prod.mk.injEq] at hb
    obtain ⟨rfl, rfl, rfl⟩ := hb
    cases ulo <;> simp only [OptRep] at h1
    cases uhi <;> simp only [OptRep] at h2
    obtain rfl := h2.int_inv
    have : hv ≤ (cap : Int) := by omega
    refine ⟨by simp [Instr.sliceBounds, Instr.sliceBound, asIntOf, hC.1, this], Nat.zero_le _, by omega⟩
  · rename_i k lv k' hv
    simp only [Option.some.injEq, Prod.mk.injEq] at hb
    obtain ⟨rfl, rfl, rfl⟩ := hb
    cases ulo <;> simp only [OptRep] at h1
    cases uhi <;> simp only [OptRep] at h2
    obtain rfl := h1.int_inv
    obtain rfl := h2.int_inv
    obtain ⟨⟨h3, h4⟩, h5, h6⟩ := hC
    have e1 : hv ≤ (cap : Int) := by omega
    have e2 : lv ≤ max hv 0 := by omega
    refine ⟨by simp [Instr.sliceBounds, Instr.sliceBound, asIntOf, h3, h5, h6, e1, e2], by omega, by omega⟩
  · cases hb
theorem evO_rep {o : Option Operand} {X : Option V} (hf : RepG M f a.tmps) (h : evO f o = some X) : OptRep M X (o.map a.eval) := by
  cases o with
  | none => simp [evO] at h; subst h; trivial
  | some o =>
    simp only [evO] at h
    split at h
    · rename_i x hx; cases h; exact ev_rep hf hx
    · cases h
theorem evO_none {o : Option Operand} (h : evO f o = some none) : o = none := by
  cases o with
  | none => rfl
  | some o =>
    simp only [evO] at h
    split at h
    · cases h
    · cases h
theorem ans_slice_str {t : TypeId} {s : List UInt8} {u : Value} {lo hi : Option V} {ulo uhi : Option Value} {C : Prop} {l h : Nat} (hm : Mem E M G w) (hr : Rep M (.str s) u) (ht : isStr P t = true) (hb : bnd lo hi s.length = some (C, l, h)) (hC : C)
    (h1 : OptRep M lo ulo) (h2 : OptRep M hi uhi) :
    Ans P E M G w (Instr.sliceAt t u ulo uhi none) (.str ((s.take h).drop l)) := by
  obtain rfl := hr.str_inv
  obtain ⟨hrun, hl, hh⟩ := run_sliceBounds (P := P) (w := w) (isSlice := false) hb hC (Nat.le_refl _) h1 h2
  refine .pure hm (.str _) ?_
  have hsz : (ByteArray.mk s.toArray).size = s.length := by show s.toArray.size = _; simp
  simp only [Instr.sliceAt, Instr.slice, Sem.run_bind, run_underlying (isStr_info ht), Result.andThen_ok, Option.isSome_none, Bool.false_eq_true, if_false, hsz, hrun, Sem.run_pure]
  congr 2
  apply ByteArray.ext
  apply Array.ext'
  simp [ByteArray.data_extract, List.take_drop]
  rw [show l + (h - l) = h by omega]
theorem ans_slice_sl {t e : TypeId} {n : Nat} {es : List (List V)} {nl : Bool} {tg : Tag} {u : Value} {lo hi : Option V} {ulo uhi : Option Value} {C : Prop} {l h : Nat} (hm : Mem E M G w) (hr : Rep M (.sl es nl tg) u) (ht : tslice P t = some (e, n)) (hb : bnd lo hi es.length = some (C, l, h)) (hC : C) (hw : wid n es)
    (h1 : OptRep M lo ulo) (h2 : OptRep M hi uhi) :
    Ans P E M G w (Instr.sliceAt t u ulo uhi none) (.sl ((es.take h).drop l) nl (sliceTag tg n l h es.length)) := by
  obtain ⟨hu, hs⟩ := tslice_info ht
  cases hr with
  | sl es nl tg ad len cap sz g hl hc hn hz hsp he hmm hrr htag =>
    subst hl
    obtain ⟨hrun, hl', hh'⟩ := run_sliceBounds (P := P) (w := w) (isSlice := true) hb hC hc h1 h2
    have hrun2 : (Instr.sliceAt t (.slice ad es.length cap) ulo uhi none).run P w = .ok (.slice (if cap = l then ad else ad.map (·.add (l * n))) (h - l) (cap - l)) w := by
      simp only [Instr.sliceAt, Instr.slice, Sem.run_bind, run_underlying hu, Result.andThen_ok, hrun, run_sizeOf hs, Sem.run_pure]
    refine .pure hm ?_ hrun2
    have hsz : es ≠ [] → sz = n := fun hne => by
      cases es with
      | nil => exact absurd rfl hne
      | cons e0 es => rw [← he 0 (by simp)]; exact hw _ (by simp)
    have hlen : ((es.take h).drop l).length = h - l := by simp; omega
    have hge : ∀ i (hi : i < ((es.take h).drop l).length), ((es.take h).drop l)[i] = es[l + i]'(by simp at hi; omega) := fun i hi => by simp
    refine .sl _ nl _ _ _ _ n (fun i j => g (l + i) j) hlen.symm (by omega) ?_ ?_ ?_ ?_ ?_ ?_ ?_
    · rw [hn]; split
      · rfl
      · cases ad <;> rfl
    · intro hnone
      have : ad = none := by
        split at hnone
        · exact hnone
        · cases ad with
          | none => rfl
          | some x => cases hnone
      have := hz this; omega
    · intro ad' ha'
      split at ha'
      · exact fun q => hsp _ ha' (by omega)
      · cases ad with
        | none => cases ha'
        | some x =>
          have := hsp x rfl
          simp only [Option.map_some, Option.some.injEq] at ha'
          subst ha'
          intro q
          unfold Addr.add; split
          · exact this (by omega)
          · rfl
    · intro i hi
      rw [hge i hi, he]
      exact hsz (fun e => by subst e; simp at hi)
    · intro ad' ha' i hi j hj
      have hi2 : l + i < es.length := by rw [hlen] at hi; omega
      have hne : es ≠ [] := fun e => by subst e; simp at hi2
      have hszn := hsz hne
      cases ad with
      | none => exact absurd (hz rfl) (by omega)
      | some x =>
        have hxs := hsp x rfl (by omega)
        obtain ⟨xb, xo, xs⟩ := x
        simp only at hxs
        subst hxs
        have hm' := hmm _ rfl (l + i) hi2 j (by omega)
        have hb' : ad' = ⟨xb, xo + l * n, none⟩ := by
          split at ha'
          · omega
          · simp only [Option.map_some, Option.some.injEq, Addr.add_lit] at ha'; exact ha'.symm
        subst hb'
        subst hszn
        simp only at hm' ⊢
        rw [← hm']
        congr 1
        rw [Nat.add_mul]; omega
    · intro i hi j hj
      have hi2 : l + i < es.length := by rw [hlen] at hi; omega
      have := hge i hi
      have hj2 : j < (es[l + i]).length := by rw [← this]; exact hj
      have hR := hrr (l + i) hi2 j hj2
      have e2 : ((es.take h).drop l)[i][j] = es[l + i][j] := by simp
      rw [e2]; exact hR
    · unfold sliceTag
      split
      · trivial
      · split
        · rename_i hh
          simp only [TagOk] at htag ⊢
          omega
        · trivial
      · rename_i s b e c
        split
        · rename_i hh
          split
          · rename_i hsn
            subst hsn
            obtain ⟨rfl, x, rfl, htag⟩ := htag
            by_cases hcl : cap = l
            · rw [if_pos hcl]
              exact ⟨rfl, _, rfl, .inl (by omega)⟩
            · have hxs := hsp x rfl (by omega)
              obtain ⟨xb, xo, xs⟩ := x
              simp only at hxs htag
              subst hxs
              rw [if_neg hcl]
              refine ⟨rfl, ⟨xb, xo + l * s, none⟩, by simp [Addr.add_lit], ?_⟩
              rcases htag with htag | ⟨h3, h4, h5⟩
              · exact .inl (by omega)
              · have key : ∀ c', l ≤ c' → xo + l * s + (c' - l) * s = xo + c' * s := fun c' hc' => by rw [Nat.add_assoc, ← Nat.add_mul]; congr 2; omega
                exact .inr ⟨h3, by rw [key h hl', hh]; exact h4, by rw [key cap (by omega)]; exact h5⟩
          · trivial
        · trivial
/-- s[:0:0] -/
theorem ans_slice_zero {t e : TypeId} {n : Nat} {es : List (List V)} {nl : Bool} {tg : Tag} {u : Value} {k1 k2 : IntKind} (hm : Mem E M G w) (hr : Rep M (.sl es nl tg) u) (ht : tslice P t = some (e, n)) :
    Ans P E M G w (Instr.sliceAt t u none (some (.int k1 0)) (some (.int k2 0))) (.sl [] nl .full) := by
  obtain ⟨hu, hs⟩ := tslice_info ht
  cases hr with
  | sl es nl tg ad len cap sz g hl hc hn hz hsp he hmm hrr htag =>
    have hb : (Instr.sliceBounds true len cap none (some (.int k1 0)) (some (.int k2 0))).run P w = .ok (0, 0, 0) w := by
      simp [Instr.sliceBounds, Instr.sliceBound, asIntOf]
    have hrun2 : (Instr.sliceAt t (.slice ad len cap) none (some (.int k1 0)) (some (.int k2 0))).run P w = .ok (.slice ad 0 0) w := by
      simp only [Instr.sliceAt, Instr.slice, Sem.run_bind, run_underlying hu, Result.andThen_ok, hb, run_sizeOf hs, Sem.run_pure]
      rfl
    exact .pure hm (.sl [] nl .full ad 0 0 0 (fun _ _ => undef) rfl (Nat.le_refl _) hn (fun _ => rfl) (fun _ _ h => absurd h (by omega)) (fun i h => absurd h (by simp)) (fun _ _ i h => absurd h (by simp)) (fun i h => absurd h (by simp)) rfl) hrun2
theorem ans_slice_ms {t e : TypeId} {n b o len cap : Nat} {u : Value} {k : IntKind} {h : Int} (hm : Mem E M G w) (hr : Rep M (.ms b o len cap) u) (ht : tslice P t = some (e, n)) (h0 : 0 ≤ h) (h1 : h ≤ cap) :
    Ans P E M G w (Instr.sliceAt t u none (some (.int k h)) none) (.ms b o h.toNat cap) := by
  obtain ⟨hu, hs⟩ := tslice_info ht
  obtain ⟨rfl, hlc⟩ := hr.ms_inv
  have hb : (Instr.sliceBounds true len cap none (some (.int k h)) none).run P w = .ok (0, h.toNat, cap) w := by
    simp [Instr.sliceBounds, Instr.sliceBound, asIntOf, h0, h1]
  have hrun2 : (Instr.sliceAt t (.slice (some ⟨b, o, none⟩) len cap) none (some (.int k h)) none).run P w = .ok (.slice (some ⟨b, o, none⟩) h.toNat cap) w := by
    simp only [Instr.sliceAt, Instr.slice, Sem.run_bind, run_underlying hu, Result.andThen_ok, hb, run_sizeOf hs, Sem.run_pure]
    congr 2
    split
    · rfl
    · simp [Addr.add_lit]
  exact .pure hm (.ms b o h.toNat cap (by omega)) hrun2
theorem run_sliceBound {k : IntKind} {i : Int} {y : Nat} {code : BoundsCode} (h0 : 0 ≤ i) (h1 : i ≤ y) : (Instr.sliceBound (.int k i) y code).run P w = .ok i.toNat w := by
  simp [Instr.sliceBound, asIntOf, h0, h1]
theorem OptRep.int {k : IntKind} {i : Int} {u : Option Value} (h : OptRep M (some (.int k i)) u) : u = some (.int k i) := by
  cases u with
  | none => exact h.elim
  | some u => rw [Rep.int_inv (show Rep M (.int _ _) u from h)]
theorem OptRep.none {u : Option Value} (h : OptRep M Option.none u) : u = Option.none := by
  cases u with
  | none => rfl
  | some u => exact h.elim
theorem ans_slice_ms2 {t e : TypeId} {n b o len cap : Nat} {u : Value} {lo hi mx : Option V} {ulo uhi umx : Option Value} {l h m : Int} (hm : Mem E M G w) (hr : Rep M (.ms b o len cap) u) (ht : tslice P t = some (e, n)) (hb : msb len cap lo hi mx = some (l, h, m))
    (hC : 0 ≤ l ∧ l ≤ h ∧ h ≤ m ∧ m ≤ cap) (h1 : OptRep M lo ulo) (h2 : OptRep M hi uhi) (h3 : OptRep M mx umx) :
    Ans P E M G w (Instr.sliceAt t u ulo uhi umx) (.ms b (if m = l then o else o + l.toNat * n) (h - l).toNat (m - l).toNat) := by
  obtain ⟨hu, hs⟩ := tslice_info ht
  obtain ⟨rfl, hlc⟩ := hr.ms_inv
  obtain ⟨c0, c1, c2, c3⟩ := hC
  have hb2 : (Instr.sliceBounds true len cap ulo uhi umx).run P w = .ok (l.toNat, h.toNat, m.toNat) w := by
    unfold msb at hb
    split at hb
    · cases hb
      rw [h1.none, h2.none, h3.none]
      simp [Instr.sliceBounds]
    · cases hb
      rw [h1.int, h2.none, h3.none]
      simp only [Instr.sliceBounds, Sem.run_bind, Sem.run_pure, Result.andThen_ok, run_sliceBound c0 c1]; simp
    · cases hb
      rw [h1.none, h2.int, h3.none]
      simp only [Instr.sliceBounds, Sem.run_bind, Sem.run_pure, Result.andThen_ok, run_sliceBound c1 c2]; simp
    · cases hb
      rw [h1.int, h2.int, h3.none]
      simp only [Instr.sliceBounds, Sem.run_bind, Sem.run_pure, Result.andThen_ok, run_sliceBound (show 0 ≤ h by omega) c2, run_sliceBound (y := h.toNat) c0 (by omega)]; simp
    · cases hb
      rw [h1.none, h2.int, h3.int]
      simp only [Instr.sliceBounds, Sem.run_bind, Sem.run_pure, Result.andThen_ok, run_sliceBound (show 0 ≤ m by omega) c3, run_sliceBound (y := m.toNat) c1 (by omega)]; simp
    · cases hb
      rw [h1.int, h2.int, h3.int]
      simp only [Instr.sliceBounds, Sem.run_bind, Sem.run_pure, Result.andThen_ok, run_sliceBound (show 0 ≤ m by omega) c3, run_sliceBound (y := m.toNat) (show 0 ≤ h by omega) (by omega), run_sliceBound (y := h.toNat) c0 (by omega)]
    · cases hb
  have hrun2 : (Instr.sliceAt t (.slice (some ⟨b, o, none⟩) len cap) ulo uhi umx).run P w = .ok (.slice (some ⟨b, if m = l then o else o + l.toNat * n, none⟩) (h - l).toNat (m - l).toNat) w := by
    simp only [Instr.sliceAt, Instr.slice, Sem.run_bind, run_underlying hu, Result.andThen_ok, hb2, run_sizeOf hs, Sem.run_pure]
    rw [show (h - l).toNat = h.toNat - l.toNat by omega, show (m - l).toNat = m.toNat - l.toNat by omega]
    congr 2
    by_cases e : m = l
    · rw [if_pos e, if_pos (by omega)]
    · rw [if_neg e, if_neg (by omega)]; simp [Addr.add_lit]
  exact .pure hm (.ms b _ _ _ (by omega)) hrun2
theorem ans_capV {t ty : TypeId} {ts : List TypeId} {X x : V} {u : Value} {C : Prop} (hm : Mem E M G w) (hr : Rep M X u) (h : capV P t X = some (C, x)) : Ans P E M G w (Builtin.cap_ (t :: ts).toArray ty #[u]) x := by
  unfold capV at h
  split at h
  · rename_i es nl
    split at h
    · rename_i hk
      simp only [ok, Option.some.injEq, Prod.mk.injEq] at h
      obtain ⟨_, rfl⟩ := h
      obtain ⟨d, hd, hk⟩ := kindIs_some hk
      cases d <;> simp [isSliceT] at hk
      cases hr with
      | sl es nl t a len cap sz g h1 h2 h3 h4 h5 h6 h7 h8 h9 =>
        have h9 : len = cap := h9
        have h1 : len = es.length := h1
        refine .pure hm (.int .i64 _) ?_
        simp [Builtin.cap_, run_underlying hd, goInt, ← h9, h1]
    · cases h
  · rename_i b o l c
    split at h
    · rename_i hk
      simp only [ok, Option.some.injEq, Prod.mk.injEq] at h
      obtain ⟨_, rfl⟩ := h
      obtain ⟨d, hd, hk⟩ := kindIs_some hk
      cases d <;> simp [isSliceT] at hk
      obtain ⟨rfl, hlc⟩ := hr.ms_inv
      refine .pure hm (.int .i64 _) ?_
      simp [Builtin.cap_, run_underlying hd, goInt]
    · cases h
  · cases h
end
end Go.Proofs.YtclmcpbanaojfaaV

/-
  That 'qv' tells what the machine answers: literals, conversions, and all of it together.
-/
namespace Go.Proofs.YtclmcpbanaojfaaV
open Go.RowKit
set_option linter.unusedVariables false
set_option linter.unusedSimpArgs false

theorem flatten_get {A : Type} {n : Nat} : ∀ {es : List (List A)} (he : ∀ e ∈ es, e.length = n) {i j : Nat} (hi : i < es.length) (hj : j < (es[i]).length), es.flatten[i * n + j]? = some (es[i])[j]
  | [], he, i, j, hi, hj => by simp at hi
  | e :: es, he, 0, j, hi, hj => by
    simp only [List.flatten_cons, Nat.zero_mul, Nat.zero_add]
    have hj' : j < e.length := hj
    rw [List.getElem?_append_left hj', List.getElem?_eq_getElem hj']
    rfl
  | e :: es, he, i + 1, j, hi, hj => by
    simp only [List.flatten_cons]
    have hl : e.length = n := he e (by simp)
    rw [List.getElem?_append_right (by rw [hl, Nat.add_mul]; omega), hl, show (i + 1) * n + j - n = i * n + j by rw [Nat.add_mul]; omega]
    exact flatten_get (es := es) (fun e h => he e (by simp [h])) (by simpa using hi) hj
theorem flatten_length {A : Type} {n : Nat} : ∀ {es : List (List A)} (he : ∀ e ∈ es, e.length = n), es.flatten.length = es.length * n
  | [], _ => by simp
  | e :: es, he => by rw [List.flatten_cons, List.length_append, flatten_length (fun e h => he e (by simp [h])), he e (by simp), List.length_cons, Nat.add_mul]; omega
/-- A slice's value out of its cells. -/
theorem rep_sl_of_flat {M : PM} {es : List (List V)} {n : Nat} {vs : List Value} {b z cap : Nat} {t : Tag} (hl : RepL M es.flatten vs) (he : ∀ e ∈ es, e.length = n) (hm : ∀ (i : Nat) (v : Value), vs[i]? = some v → M b (z + i) = some v)
    (hc : es.length ≤ cap) (ht : TagOk t (some ⟨b, z, none⟩) es.length cap n) : Rep M (.sl es false t) (.slice (some ⟨b, z, none⟩) es.length cap) := by
  have hget : ∀ i (hi : i < es.length) j (hj : j < (es[i]).length), ∃ v, vs[i * n + j]? = some v ∧ Rep M (es[i])[j] v := fun i hi j hj => hl.get (flatten_get he hi hj)
  refine .sl es false t _ _ cap n (fun i j => vs.getD (i * n + j) undef) rfl hc rfl (by intro h; cases h) (fun ad h => by cases h; exact fun _ => rfl) (fun i hi => he _ (List.getElem_mem hi)) ?_ ?_ ht
  · intro ad had i hi j hj
    cases had
    have hjl : j < (es[i]).length := by rw [he _ (List.getElem_mem hi)]; exact hj
    obtain ⟨v, hv, _⟩ := hget i hi j hjl
    rw [List.getD_eq_getElem?_getD, hv]
    exact hm _ _ hv
  · intro i hi j hj
    obtain ⟨v, hv, hr⟩ := hget i hi j hj
    show Rep M _ (vs.getD (i * n + j) undef)
    rw [List.getD_eq_getElem?_getD, hv]
    exact hr
theorem PM.add_self {M : PM} {b : Nat} {arr : Array Value} {i : Nat} {v : Value} (h : arr[i]? = some v) : (M.add b arr) b i = some v := by unfold PM.add; rw [if_pos rfl]; exact h

theorem freeze_last (w : World) (arr : Array Value) (T : TypeId) (n : Nat) : (w.alloc (.cells arr T)).freeze ⟨w.heap.size, n, none⟩ 1 = w.alloc (.cells arr T (n, n + 1)) := by
  unfold World.freeze
  rw [if_neg (by omega)]
  show ({ w.alloc (.cells arr T) with heap := (w.heap.push (.cells arr T)).modify w.heap.size _ } : World) = { w with heap := w.heap.push (.cells arr T (n, n + 1)) }
  have : (w.heap.push (.cells arr T)).modify w.heap.size (fun
      | .cells c elem (lo, hi) => .cells c elem (if lo == hi then (n, n + 1) else (min lo n, max hi (n + 1)))
      | o => o) = w.heap.push (.cells arr T (n, n + 1)) := by
    apply Array.ext
    · simp
    · intro i h1 h2
      rw [Array.getElem_modify]
      split
      · rename_i e; subst e; simp
      · rw [Array.getElem_push, Array.getElem_push]
        split
        · rfl
        · rename_i hne hlt; simp at h2; omega
  rw [← this]
  rfl

section
variable {P : Program} {E : Env} {M : PM} {G : Heap} {w : World} {f : FF} {a : Act}
theorem zero_fill {n len : Nat} {z : V} {zv : Value} {zs : Array Value} (hzc : RepL M (cellsV z) zv.cells.toList) (hzn : (cellsV z).length = n) (hzs2 : len * n ≠ 0 → zs = zv.cells) :
    RepL M (List.replicate len (cellsV z)).flatten (((Array.range (len * n)).map (fun i => zs[i % zs.size]!)).toList) := by
  have hzsz : zv.cells.size = n := by have := hzc.1; rw [hzn] at this; simpa using this.symm
  by_cases h0 : len * n = 0
  · rw [h0]
    have : (List.replicate len (cellsV z)).flatten = [] := List.eq_nil_of_length_eq_zero (by rw [flatten_length (n := n) (fun e he => by rw [(List.mem_replicate.1 he).2]; exact hzn)]; simpa using h0)
    have h2 : ((Array.range 0).map (fun i => zs[i % zs.size]!)).toList = [] := by simp
    rw [this, h2]
    exact RepL.nil
  · rw [hzs2 h0]
    have hn0 : 0 < n := Nat.pos_of_ne_zero (fun q => h0 (by rw [q]; simp))
    have hall : ∀ e ∈ List.replicate len (cellsV z), e.length = n := fun e he => by rw [(List.mem_replicate.1 he).2]; exact hzn
    refine ⟨by rw [flatten_length hall]; simp, fun i hi => ?_⟩
    have hi2 : i < len * n := by rw [flatten_length hall] at hi; simpa using hi
    have hdiv : i / n < len := by rw [Nat.div_lt_iff_lt_mul hn0]; exact hi2
    have hmod : i % n < n := Nat.mod_lt _ hn0
    have hq : (List.replicate len (cellsV z)).flatten[(i / n) * n + i % n]? = some ((cellsV z)[i % n]'(by rw [hzn]; exact hmod)) := by
      have := flatten_get hall (i := i / n) (j := i % n) (by simpa using hdiv) (by simp [hzn]; exact hmod)
      rw [this]; simp
    have hdm : (i / n) * n + i % n = i := by rw [Nat.mul_comm]; exact Nat.div_add_mod i n
    rw [hdm] at hq
    have hq' : (List.replicate len (cellsV z)).flatten[i] = (cellsV z)[i % n]'(by rw [hzn]; exact hmod) := by
      have := List.getElem?_eq_getElem hi
      rw [this] at hq; exact Option.some.inj hq
    rw [hq']
    have hr := hzc.2 (i % n) (by rw [hzn]; exact hmod)
    rw [List.getD_eq_getElem?_getD] at hr ⊢
    simp only [Array.getElem?_toList] at hr
    obtain ⟨x, hx⟩ : ∃ x, zv.cells[i % n]? = some x := ⟨_, Array.getElem?_eq_getElem (by rw [hzsz]; exact hmod)⟩
    have e1 : ((Array.range (len * n)).map (fun i => zv.cells[i % zv.cells.size]!)).toList[i]? = some x := by
      simp only [Array.getElem?_toList, Array.getElem?_map, Array.getElem?_range, hi2, if_true, Option.map_some, hzsz]
      rw [getElem!_def, hx]
    rw [e1]
    rw [hx] at hr
    exact hr

theorem buildSlice_ok {t e : TypeId} {n len : Nat} {ps : Array (Nat × Operand)} {z : V} {es : List (List V)} (hm : Mem E M G w) (hf : RepG M f a.tmps) (ht : tslice P t = some (e, n)) (hz : tzero P e = some z) (hp : plainV z = true) (hzn : (cellsV z).length = n)
    (hlen : len * n ≤ 16777216) (h : fillE n f (List.replicate len (cellsV z)) ps.toList = some es) : ∃ arr, M.le (M.add w.heap.size arr) ∧ (∀ fr, Mem E (M.add w.heap.size arr) G (w.alloc (.cells arr e fr))) ∧ Rep (M.add w.heap.size arr) (.sl es false .full) (.slice (some ⟨w.heap.size, 0, none⟩) len len) ∧ (Instr.buildSlice t len (ps.map fun (i, x) => (i, a.eval x))).run P w = .ok (.slice (some ⟨w.heap.size, 0, none⟩) len len) (w.alloc (.cells arr e)) := by
  obtain ⟨hu, hs⟩ := tslice_info ht
  obtain ⟨zv, hzv, hzr⟩ := run_zeroValue hz w
  have hzc := plainV_cells hp (hzr M)
  have hzsz : zv.cells.size = n := by have := hzc.1; rw [hzn] at this; simpa using this.symm
  have hlim : ¬ (len * n > 2 ^ 24) := by simpa using hlen
  have hz0 : ∃ zs : Array Value, ((if len * n = 0 then Pure.pure #[] else do let x ← zeroValue e; Pure.pure x.cells : Sem (Array Value))).run P w = .ok zs w ∧ (len * n ≠ 0 → zs = zv.cells) := by
    by_cases h0 : len * n = 0
    · exact ⟨#[], by rw [if_pos h0]; rfl, fun q => absurd h0 q⟩
    · refine ⟨zv.cells, ?_, fun _ => rfl⟩
      rw [if_neg h0]
      simp only [Sem.run_bind, hzv, Result.andThen_ok, Sem.run_pure]
  obtain ⟨zs, hzs1, hzs2⟩ := hz0
  have hinit := zero_fill (M := M) (len := len) hzc hzn hzs2
  obtain ⟨arr, harr, hl, he, hlen'⟩ := fillE_rep hf h (fun e he => by rw [(List.mem_replicate.1 he).2]; exact hzn) hinit
  have hle := hm.le_add arr
  refine ⟨arr, hle, fun fr => hm.lit arr e fr, ?_, ?_⟩
  · have hl2 : es.length = len := by simpa using hlen'
    have := rep_sl_of_flat (b := w.heap.size) (z := 0) (cap := len) (t := .full) (hl.mono hle) he (fun i v hv => by rw [Nat.zero_add]; exact PM.add_self (by simpa using hv)) (by omega) hl2
    rw [hl2] at this
    exact this
  · simp only [Instr.buildSlice, Sem.run_bind, run_underlying hu, Result.andThen_ok, run_sizeOf hs, hlim, if_false, hzs1]
    have hps : (ps.map fun (i, x) => (i, a.eval x)).toList = ps.toList.map fun (i, x) => (i, a.eval x) := by simp
    by_cases h0 : len * n = 0
    · rw [if_pos h0] at hzs1 ⊢
      simp only [Sem.run_pure, Result.ok.injEq, and_true] at hzs1
      subst hzs1
      simp only [Sem.run_bind, Sem.run_pure, Result.andThen_ok]
      rw [hps, harr]
      rfl
    · rw [if_neg h0] at hzs1 ⊢
      simp only [Sem.run_bind, hzv, Sem.run_pure, Result.andThen_ok, Result.ok.injEq, and_true] at hzs1
      subst hzs1
      simp only [Sem.run_bind, hzv, Sem.run_pure, Result.andThen_ok]
      rw [hps, harr]
      rfl
theorem ans_buildSlice {t e : TypeId} {n len : Nat} {ps : Array (Nat × Operand)} {z : V} {es : List (List V)} (hm : Mem E M G w) (hf : RepG M f a.tmps) (ht : tslice P t = some (e, n)) (hz : tzero P e = some z) (hp : plainV z = true) (hzn : (cellsV z).length = n)
    (hlen : len * n ≤ 16777216) (h : fillE n f (List.replicate len (cellsV z)) ps.toList = some es) : Ans P E M G w (Instr.buildSlice t len (ps.map fun (i, x) => (i, a.eval x))) (.sl es false .full) := by
  obtain ⟨arr, h1, h2, h3, h4⟩ := buildSlice_ok hm hf ht hz hp hzn hlen h
  exact ⟨_, _, _, h1, h2 (0, 0), h3, h4⟩
end
end Go.Proofs.YtclmcpbanaojfaaV

/-
  Two structs of whole numbers, texts and truths: alike where all parts are.
-/
namespace Go.Proofs.YtclmcpbanaojfaaV
open Go.RowKit
set_option linter.unusedVariables false
set_option linter.unusedSimpArgs false
section
variable {P : Program} {w : World} {M : PM}
theorem run_eqK {t : TypeId} {x y : V} {u v : Value} {r : Bool} {d : Nat} (h : eqK (kindN P t) x y = some r) (hx : Rep M x u) (hy : Rep M y v) : (Op.equalIn (d + 1) t u v).run P w = .ok r w := by
  unfold eqK at h
  split at h
  · rename_i a b hk
    obtain rfl := hx.bool_inv
    obtain rfl := hy.bool_inv
    cases h
    have hu : P.underlying t = some .bool := by
      unfold kindN at hk
      split at hk <;> first | assumption | cases hk
    exact run_equalIn_bool' w d t a b hu
  · rename_i k a k' b hk
    obtain rfl := hx.int_inv
    obtain rfl := hy.int_inv
    split at h
    · rename_i e
      subst e
      cases h
      have hu : ∃ k2, P.underlying t = some (.int k2) := by
        unfold kindN at hk
        split at hk <;> first | (exact ⟨_, by assumption⟩) | cases hk
      obtain ⟨k2, hu⟩ := hu
      rw [run_equalIn_int w d t k k2 a b hu]
      congr 1
    · cases h
  · rename_i a b hk
    obtain rfl := hx.str_inv
    obtain rfl := hy.str_inv
    cases h
    have hu : P.underlying t = some .string := by
      unfold kindN at hk
      split at hk <;> first | assumption | cases hk
    rw [run_equalIn_string w d t _ _ hu]
    have e : ∀ l : List UInt8, (ByteArray.mk l.toArray).toList = l := fun l => by
      simp
    rw [e, e]
    congr 1
    rw [Bool.eq_iff_iff]
    simp
  · cases h
theorem run_eqFs {cs ds : List V} {us vs : Array Value} {d : Nat} (hc : RepL M cs us.toList) (hd : RepL M ds vs.toList) : ∀ {fs : List Field} {r : Bool}, fs.all (fun f => f.name != "_") = true → eqFs P cs ds (fs.map fun f => (f.offset, f.type)) = some r → (Op.eqFields (d + 1) us vs fs).run P w = .ok r w
  | [], r, _, h => by cases h; rfl
  | f :: fs, r, hn, h => by
    simp only [List.all_cons, Bool.and_eq_true, bne_iff_ne] at hn
    simp only [List.map_cons, eqFs] at h
    split at h
    · rename_i x y hx hy
      split at h
      · rename_i a b ha hb
        cases h
        obtain ⟨u, hu, ru⟩ := run_part (P := P) (w := w) hc hx
        obtain ⟨v, hv, rv⟩ := run_part (P := P) (w := w) hd hy
        have h1 := run_eqK (w := w) (d := d) ha ru rv
        have h2 := run_eqFs (d := d) hc hd hn.2 hb
        simp only [Op.eqFields, hn.1, ne_eq, not_false_eq_true, if_true, Sem.run_bind, hu, hv, h1, Result.andThen_ok]
        cases a
        · simp
        · simpa using h2
      · cases h
    · cases h
theorem run_eqIts {cs ds : List V} {us vs : Array Value} {d c : Nat} {e : TypeId} (hc : RepL M cs us.toList) (hd : RepL M ds vs.toList) : ∀ {is : List Nat} {r : Bool}, eqFs P cs ds (is.map fun i => (i * c, e)) = some r → (Op.eqItems (d + 1) e c us vs is).run P w = .ok r w
  | [], r, h => by cases h; rfl
  | i :: is, r, h => by
    simp only [List.map_cons, eqFs] at h
    split at h
    · rename_i x y hx hy
      split at h
      · rename_i a b ha hb
        cases h
        obtain ⟨u, hu, ru⟩ := run_part (P := P) (w := w) hc hx
        obtain ⟨v, hv, rv⟩ := run_part (P := P) (w := w) hd hy
        have h1 := run_eqK (w := w) (d := d) ha ru rv
        have h2 := run_eqIts (d := d) hc hd hb
        simp only [Op.eqItems, Sem.run_bind, hu, hv, h1, Result.andThen_ok]
        cases a
        · simp
        · simpa using h2
      · cases h
    · cases h
theorem run_eqS {t : TypeId} {fs : List (Nat × TypeId)} {cs ds : List V} {u v : Value} {r : Bool} (hf : flatS P t = some fs) (h : eqFs P cs ds fs = some r) (hu : Rep M (.agg cs) u) (hv : Rep M (.agg ds) v) :
    (∃ p q, u = .agg p ∧ v = .agg q) ∧ P.eqGuardType P.depth t = false ∧ (binOp .eql t u v).run P w = .ok (.bool r) w ∧ (binOp .neq t u v).run P w = .ok (.bool (!r)) w := by
  obtain ⟨us, rfl, hc⟩ := hu.agg_inv
  obtain ⟨vs, rfl, hd⟩ := hv.agg_inv
  unfold flatS at hf
  split at hf
  · rename_i fl hul
    split at hf
    · rename_i hb
      simp only [Bool.and_eq_true, Bool.not_eq_true'] at hb
      obtain ⟨⟨hb1, hb2⟩, hb3⟩ := hb
      cases hf
      have hrun := run_eqFs (P := P) (w := w) (d := 9998) hc hd hb3 h
      have hfl : P.fieldsOf t = fl := by simp [Program.fieldsOf, hul]
      have heq : (Op.equalIn 10000 t (.agg us) (.agg vs)).run P w = .ok r w := by
        rw [run_equalIn_struct w 9999 t us vs (by rw [hfl]; exact hul) hb1, hfl]
        exact hrun
      refine ⟨⟨us, vs, rfl, rfl⟩, hb2, ?_, ?_⟩
      · rw [run_eql_struct, heq]; rfl
      · rw [run_neq_struct, heq]; rfl
    · cases hf
  · rename_i l e hul
    split at hf
    · rename_i n hn
      split at hf
      · rename_i hb
        simp only [Bool.not_eq_true'] at hb
        cases hf
        obtain ⟨i, hi, hin⟩ := tsz_info hn
        have hce : P.cellsOf e = n := by unfold Program.cellsOf; rw [hi, ← hin]; rfl
        have hrun := run_eqIts (P := P) (w := w) (d := 9998) hc hd h
        have heq : (Op.equalIn 10000 t (.agg us) (.agg vs)).run P w = .ok r w := by
          rw [run_equalIn_array w 9999 us vs hul hi, hce]
          exact hrun
        refine ⟨⟨us, vs, rfl, rfl⟩, hb, ?_, ?_⟩
        · rw [run_eql_struct, heq]; rfl
        · rw [run_neq_struct, heq]; rfl
      · cases hf
    · cases hf
  · cases hf
end
end Go.Proofs.YtclmcpbanaojfaaV

/-
  Arrays of whole numbers as a map's keys: a key is one, and two of them are compared.
-/
namespace Go.Proofs.YtclmcpbanaojfaaV
open Go.RowKit
set_option linter.unusedVariables false
set_option linter.unusedSimpArgs false
section
variable {P : Program} {w : World} {M : PM}
theorem keyCells_ok {j : IntKind} : ∀ {l : Nat} {cs : List V} {us : List Value}, keyCells j l cs = true → RepL M cs us → us.length = l ∧ ∀ i (h : i < us.length), ∃ n, us[i] = .int j n
  | 0, [], us, _, hr => by
    have := hr.1
    exact ⟨by simpa using this.symm, fun i h => by simp at this; rw [← this] at h; simp at h⟩
  | n + 1, .int k a :: cs, [], h, hr => by simpa using hr.1
  | n + 1, .int k a :: cs, u :: us, h, hr => by
    simp only [keyCells, Bool.and_eq_true, beq_iff_eq] at h
    obtain ⟨rfl, h⟩ := h
    obtain ⟨h1, h2⟩ := keyCells_ok h hr.tail
    refine ⟨by simp [h1], fun i hi => ?_⟩
    cases i with
    | zero => exact ⟨a, hr.head.int_inv⟩
    | succ i => exact h2 i (by simpa using hi)
theorem eqInts_ok {j : IntKind} : ∀ {l : Nat} {cs ds : List V} {us vs : List Value} {b : Bool}, keyCells j l cs = true → eqInts cs ds = some b → RepL M cs us → RepL M ds vs →
    vs.length = l ∧ (∀ i (h : i < vs.length), ∃ n, vs[i] = .int j n) ∧ (b = true ↔ us = vs)
  | 0, [], [], us, vs, b, _, h, hu, hv => by
    have e1 := hu.1
    have e2 := hv.1
    simp only [List.length_nil] at e1 e2
    have e1 := List.length_eq_zero_iff.1 e1.symm
    have e2 := List.length_eq_zero_iff.1 e2.symm
    subst e1 e2
    cases h
    exact ⟨rfl, fun i h => by simp at h, by simp⟩
  | n + 1, .int k a :: cs, [], us, vs, b, hk, h, hu, hv => by simp [eqInts] at h
  | n + 1, .int k a :: cs, d :: ds, [], vs, b, hk, h, hu, hv => by simpa using hu.1
  | n + 1, .int k a :: cs, d :: ds, u :: us, [], b, hk, h, hu, hv => by simpa using hv.1
  | n + 1, .int k a :: cs, d :: ds, u :: us, v :: vs, b, hk, h, hu, hv => by
    simp only [keyCells, Bool.and_eq_true, beq_iff_eq] at hk
    obtain ⟨rfl, hk⟩ := hk
    obtain rfl := hu.head.int_inv
    cases d <;> simp only [eqInts] at h <;> try (cases h; done)
    rename_i k' a'
    obtain rfl := hv.head.int_inv
    split at h
    · rename_i e
      subst e
      split at h
      · rename_i r hr
        cases h
        obtain ⟨h1, h2, h3⟩ := eqInts_ok hk hr hu.tail hv.tail
        refine ⟨by simp [h1], fun i hi => ?_, ?_⟩
        · cases i with
          | zero => exact ⟨_, rfl⟩
          | succ i => exact h2 i (by simpa using hi)
        · simp only [Bool.and_eq_true, decide_eq_true_eq, List.cons.injEq, Value.int.injEq, true_and, h3]
      · cases h
    · cases h
theorem run_intItems {e : TypeId} {j : IntKind} {us vs : Array Value} {d : Nat} (hu : P.underlying e = some (.int j)) (h1 : ∀ i, i < us.size → ∃ n, us[i]? = some (.int j n)) (h2 : ∀ i, i < us.size → ∃ n, vs[i]? = some (.int j n)) :
    ∀ is : List Nat, (∀ i ∈ is, i < us.size) → ∃ r, (Op.eqItems (d + 1) e 1 us vs is).run P w = .ok r w ∧ (r = true ↔ ∀ i ∈ is, us[i]? = vs[i]?)
  | [], _ => ⟨true, by simp [Op.eqItems], by simp⟩
  | i :: is, h => by
    have hp : P.plainKey e = true := by simp [Program.plainKey, hu]
    obtain ⟨a, ha⟩ := h1 i (h i (by simp))
    obtain ⟨b, hb⟩ := h2 i (h i (by simp))
    have p1 := run_part_plain (P := P) w hp (off := i * 1) (by rw [Nat.mul_one]; exact ha)
    have p2 := run_part_plain (P := P) w hp (off := i * 1) (by rw [Nat.mul_one]; exact hb)
    have p3 := run_equalIn_int (P := P) w d e j j a b hu
    obtain ⟨r, h3, h4⟩ := run_intItems hu h1 h2 is fun x hx => h x (by simp [hx])
    by_cases hab : a = b
    · refine ⟨r, ?_, ?_⟩
      · simp only [Op.eqItems, Sem.run_bind, p1, p2, p3, Result.andThen_ok]
        simpa [hab] using h3
      · rw [h4, List.forall_mem_cons, ha, hb, hab]; simp
    · refine ⟨false, ?_, ?_⟩
      · simp only [Op.eqItems, Sem.run_bind, p1, p2, p3, Result.andThen_ok]
        simp [hab]
      · rw [List.forall_mem_cons, ha, hb]; simp [hab]
theorem keyArr_info {kt : TypeId} {j : IntKind} {l : Nat} (h : keyArr P kt = some (j, l)) : ∃ e i, P.underlying kt = some (.array l e) ∧ P.underlying e = some (.int j) ∧ P.info? e = some i ∧ P.cellsOf e = 1 := by
  unfold keyArr at h
  split at h
  · rename_i l' e hu
    split at h
    · rename_i j' h1 h2
      cases h
      obtain ⟨i, hi, hin⟩ := tsz_info h2
      refine ⟨e, i, hu, ?_, hi, by unfold Program.cellsOf; rw [hi]; exact hin⟩
      unfold intKindOf at h1
      split at h1
      · rename_i k2 hk2; cases h1; exact hk2
      · cases h1
    · cases h
  · cases h
theorem run_checkArr {kt e : TypeId} {j : IntKind} {l : Nat} {i : TypeInfo} {us : Array Value} (hk : P.underlying kt = some (.array l e)) (hu : P.underlying e = some (.int j)) (hi : P.info? e = some i) (hc : P.cellsOf e = 1) (hl : us.size = l) (h1 : ∀ i, i < us.size → ∃ n, us[i]? = some (.int j n)) (em : Bool) (n : Nat) :
    (Instr.checkKey em (n + 2) kt (.agg us)).run P w = .ok () w := by
  have hp : P.plainKey e = true := by simp [Program.plainKey, hu]
  rw [Instr.checkKey]
  simp only [Sem.run_bind, run_underlying hk, Result.andThen_ok]
  simp only [Std.Legacy.Range.forIn_eq_forIn_range', Std.Legacy.Range.size, Nat.sub_zero, Nat.add_one_sub_one, Nat.div_one]
  have key : ∀ x ∈ List.range' 0 l, x < us.size := fun x hx => by rw [List.mem_range'_1] at hx; omega
  generalize List.range' 0 l = is at key
  induction is with
  | nil => simp
  | cons y is ih =>
    obtain ⟨a, ha⟩ := h1 y (key y (by simp))
    have p1 := run_part_plain (P := P) w hp (off := y * P.cellsOf e) (by rw [hc, Nat.mul_one]; exact ha)
    have p2 : (Instr.checkKey em (n + 1) e (.int j a)).run P w = .ok () w := by simp [Instr.checkKey, run_underlying hu]
    simp only [List.forIn_cons, Sem.run_bind, Go.run_sizeOf w hi, Result.andThen_ok, p1, p2, Sem.run_pure]
    have h9 := ih fun x hx => key x (by simp [hx])
    simp only [Sem.run_bind, Sem.run_pure] at h9 ⊢
    exact h9
theorem sameBits_ints {j : IntKind} : ∀ (us : List Value), (∀ i (h : i < us.length), ∃ n, us[i] = .int j n) → ((us.zip us).all fun (x, y) => Instr.sameBits 9999 x y) = true
  | [], _ => rfl
  | u :: us, h => by
    obtain ⟨n, hn⟩ := h 0 (by simp)
    simp only [List.getElem_cons_zero] at hn
    subst hn
    rw [List.zip_cons_cons, List.all_cons, sameBits_ints us fun i hi => h (i + 1) (by simpa using hi)]
    simp [Instr.sameBits]
end
end Go.Proofs.YtclmcpbanaojfaaV

/-
  Maps whose keys are texts or whole numbers: looked up, put, made.
-/
namespace Go.Proofs.YtclmcpbanaojfaaV
open Go.RowKit
set_option linter.unusedVariables false
set_option linter.unusedSimpArgs false
section
variable {P : Program} {E : Env} {M : PM} {G : Heap} {w : World}
theorem beq_bytes (a b : List UInt8) : ((⟨a.toArray⟩ : ByteArray) == (⟨b.toArray⟩ : ByteArray)) = decide (a = b) := by
  rw [beq_toListBytes, bytes_toList, bytes_toList, Bool.eq_iff_iff]; simp
theorem tmap_info {t kt : TypeId} {z : V} (h : tmap P t = some (kt, z)) : ∃ e, P.underlying t = some (.map kt e) ∧ tzero P e = some z := by
  unfold tmap at h
  split at h
  · rename_i k e hu
    split at h
    · rename_i z' hz; cases h; exact ⟨e, hu, hz⟩
    · cases h
  · cases h
/-- A key is one, and how two of them are compared. -/
theorem plainKey_ok {kt : TypeId} {K : V} {k : Value} (hna : ∀ cs, K ≠ .agg cs) (h : simpleKey P kt K = true) (hr : Rep M K k) : ∃ d, P.underlying kt = some d ∧ MapKept.IsKey d k ∧ Instr.sameBits 10000 k k = true ∧
    ∀ {K' : V} {k' : Value} {b : Bool}, keyEq K K' = some b → Rep M K' k' → Instr.sameNow d k k' = some b ∧ (b = true → k' = k) := by
  unfold simpleKey at h
  split at h
  · rename_i s
    obtain rfl := hr.str_inv
    refine ⟨.string, isStr_info h, trivial, by simp [Instr.sameBits, beq_bytes], fun {K' k' b} hk hr' => ?_⟩
    unfold keyEq at hk
    split at hk
    · rename_i a c e1
      cases e1
      obtain rfl := hr'.str_inv
      cases hk
      refine ⟨?_, fun e => ?_⟩
      · simp only [Instr.sameNow, beq_bytes]
      · have : s = c := by simpa using e
        rw [this]
    · rename_i e1; cases e1
    · rename_i e1; cases e1
    · cases hk
  · rename_i j n
    obtain rfl := hr.int_inv
    split at h
    · rename_i j' hj
      have e : j = j' := by simpa using h
      subst e
      have hu : P.underlying kt = some (.int j) := by
        unfold intKindOf at hj
        split at hj
        · rename_i k2 hk2; cases hj; exact hk2
        · cases hj
      refine ⟨.int j, hu, rfl, by simp [Instr.sameBits], fun {K' k' b} hk hr' => ?_⟩
      unfold keyEq at hk
      split at hk
      · rename_i e1; cases e1
      · rename_i k1 a k2 c e1
        cases e1
        obtain rfl := hr'.int_inv
        split at hk
        · rename_i e2
          subst e2
          cases hk
          refine ⟨?_, fun e => ?_⟩
          · simp only [Instr.sameNow, if_true, Option.some.injEq]
            rw [Bool.eq_iff_iff]
            simp
          · have : n = c := by simpa using e
            rw [this]
        · cases hk
      · rename_i e1; cases e1
      · cases hk
    · cases h
  · exact absurd rfl (hna _)
  · cases h
/-- The machine finds what mfind finds. -/
theorem findNow_ok {d : TypeDesc} {K : V} {k : Value} (hk : ∀ {K' : V} {k' : Value} {b : Bool}, keyEq K K' = some b → Rep M K' k' → Instr.sameNow d k k' = some b ∧ (b = true → k' = k)) :
    ∀ {kvs : List (V × V)} {es : List MapEntry} {i : Nat} {r : Option (Nat × V)}, kvs.length = es.length → (∀ j (h : j < kvs.length), Rep M (kvs[j]).1 (es.getD j default).key ∧ Rep M (kvs[j]).2 (es.getD j default).val) → mfind K kvs i = some r →
      (r = none ∧ Instr.findNow d k es i = some none) ∨ ∃ j x v e, r = some (i + j, x) ∧ Instr.findNow d k es i = some (some (i + j, v)) ∧ Rep M x v ∧ es[j]? = some e ∧ e.key = k ∧ j < kvs.length
  | [], [], i, r, _, _, h => by simp only [mfind, Option.some.injEq] at h; subst h; exact .inl ⟨rfl, rfl⟩
  | [], _ :: _, i, r, hl, _, _ => by simp at hl
  | _ :: _, [], i, r, hl, _, _ => by simp at hl
  | (K', X) :: kvs, e :: es, i, r, hl, hr, h => by
    have h0 := hr 0 (by simp)
    simp only [mfind] at h
    split at h
    · rename_i hb
      simp only [Option.some.injEq] at h
      subst h
      obtain ⟨g1, g2⟩ := hk hb h0.1
      refine .inr ⟨0, X, e.val, e, rfl, ?_, h0.2, rfl, g2 rfl, by simp⟩
      have g1 : Instr.sameNow d k e.key = some true := g1
      simp only [Instr.findNow, g1, Nat.add_zero]
    · rename_i hb
      obtain ⟨g1, _⟩ := hk hb h0.1
      have g1 : Instr.sameNow d k e.key = some false := g1
      rcases findNow_ok hk (by simpa using hl) (fun j hj => hr (j + 1) (by simpa using hj)) h with ⟨q1, q2⟩ | ⟨j, x, v, e', q1, q2, q3, q4, q5, q6⟩
      · exact .inl ⟨q1, by simp only [Instr.findNow, g1]; exact q2⟩
      · exact .inr ⟨j + 1, x, v, e', by rw [q1]; congr 2; omega, by simp only [Instr.findNow, g1]; rw [q2]; congr 3; omega, q3, q4, q5, by simp; omega⟩
    · cases h
/-- The same where the machine has to ask. -/
theorem findAsking_ok {kt : TypeId} {K : V} {k : Value} (hk : ∀ {K' : V} {k' : Value} {b : Bool}, keyEq K K' = some b → Rep M K' k' → (Op.equal kt k k').run P w = .ok b w ∧ (b = true → k' = k)) :
    ∀ {kvs : List (V × V)} {es : List MapEntry} {i : Nat} {r : Option (Nat × V)}, kvs.length = es.length → (∀ j (h : j < kvs.length), Rep M (kvs[j]).1 (es.getD j default).key ∧ Rep M (kvs[j]).2 (es.getD j default).val) → mfind K kvs i = some r →
      (r = none ∧ (Instr.findAsking kt k es i).run P w = .ok none w) ∨ ∃ j x v e, r = some (i + j, x) ∧ (Instr.findAsking kt k es i).run P w = .ok (some (i + j, v)) w ∧ Rep M x v ∧ es[j]? = some e ∧ e.key = k ∧ j < kvs.length
  | [], [], i, r, _, _, h => by simp only [mfind, Option.some.injEq] at h; subst h; exact .inl ⟨rfl, by simp [Instr.findAsking]⟩
  | [], _ :: _, i, r, hl, _, _ => by simp at hl
  | _ :: _, [], i, r, hl, _, _ => by simp at hl
  | (K', X) :: kvs, e :: es, i, r, hl, hr, h => by
    have h0 := hr 0 (by simp)
    simp only [mfind] at h
    split at h
    · rename_i hb
      simp only [Option.some.injEq] at h
      subst h
      obtain ⟨g1, g2⟩ := hk hb h0.1
      refine .inr ⟨0, X, e.val, e, rfl, ?_, h0.2, rfl, g2 rfl, by simp⟩
      have g1 : (Op.equal kt k e.key).run P w = .ok true w := g1
      simp only [Instr.findAsking, Sem.run_bind, g1, Result.andThen_ok, if_true, Sem.run_pure, Nat.add_zero]
    · rename_i hb
      obtain ⟨g1, _⟩ := hk hb h0.1
      have g1 : (Op.equal kt k e.key).run P w = .ok false w := g1
      have g3 : (Instr.findAsking kt k (e :: es) i).run P w = (Instr.findAsking kt k es (i + 1)).run P w := by
        simp only [Instr.findAsking, Sem.run_bind, g1, Result.andThen_ok, Bool.false_eq_true, if_false]
      rcases findAsking_ok hk (by simpa using hl) (fun j hj => hr (j + 1) (by simpa using hj)) h with ⟨q1, q2⟩ | ⟨j, x, v, e', q1, q2, q3, q4, q5, q6⟩
      · exact .inl ⟨q1, by rw [g3]; exact q2⟩
      · exact .inr ⟨j + 1, x, v, e', by rw [q1]; congr 2; omega, by rw [g3, q2]; congr 3; omega, q3, q4, q5, by simp; omega⟩
    · cases h
/-- A key is one, and the machine finds what mfind finds. -/
theorem simpleKey_ok {kt : TypeId} {K : V} {k : Value} (h : simpleKey P kt K = true) (hr : Rep M K k) : Instr.sameBits 10000 k k = true ∧ (∀ (e : Bool) (w : World), (Instr.checkKey e 10000 kt k).run P w = .ok () w) ∧
    ∀ {kvs : List (V × V)} {es : List MapEntry} {r : Option (Nat × V)}, kvs.length = es.length → (∀ j (h : j < kvs.length), Rep M (kvs[j]).1 (es.getD j default).key ∧ Rep M (kvs[j]).2 (es.getD j default).val) → mfind K kvs 0 = some r → ∀ w : World,
      (r = none ∧ (Instr.findKey kt k es).run P w = .ok none w) ∨ ∃ j x v e, r = some (j, x) ∧ (Instr.findKey kt k es).run P w = .ok (some (j, v)) w ∧ Rep M x v ∧ es[j]? = some e ∧ e.key = k ∧ j < kvs.length := by
  by_cases hna : ∀ cs, K ≠ .agg cs
  · obtain ⟨d, hd, hkey, hbits, hcmp⟩ := plainKey_ok hna h hr
    refine ⟨hbits, fun e w => MapKept.run_checkKey hd hkey e 9999, fun l1 l2 hmf w => ?_⟩
    rcases findNow_ok hcmp l1 l2 hmf with ⟨q1, q2⟩ | ⟨j, y, v, e', q1, q2, q3⟩
    · exact .inl ⟨q1, MapKept.run_findKey hd q2⟩
    · rw [Nat.zero_add] at q1 q2
      exact .inr ⟨j, y, v, e', q1, MapKept.run_findKey hd q2, q3⟩
  · have hag : ∃ cs, K = .agg cs := Classical.byContradiction fun hh => hna fun cs e => hh ⟨cs, e⟩
    obtain ⟨cs, rfl⟩ := hag
    obtain ⟨us, rfl, hc⟩ := hr.agg_inv
    simp only [simpleKey] at h
    split at h
    · rename_i j l hka
      obtain ⟨e, i, hu1, hu2, hi, hcell⟩ := keyArr_info hka
      obtain ⟨k1, k2⟩ := keyCells_ok h hc
      have k1' : us.size = l := by simpa using k1
      have k2' : ∀ i, i < us.size → ∃ n, us[i]? = some (.int j n) := fun i hi => by
        obtain ⟨n, hn⟩ := k2 i (by simpa using hi)
        exact ⟨n, by rw [Array.getElem?_eq_getElem hi]; simpa using hn⟩
      refine ⟨?_, fun em w => run_checkArr hu1 hu2 hi hcell k1' k2' em 9998, fun l1 l2 hmf w => ?_⟩
      · have := sameBits_ints us.toList k2
        simp only [Instr.sameBits, beq_self_eq_true, Bool.true_and]
        exact this
      · rw [run_findKey_eq w (by rw [hu1])]
        have hcmp : ∀ {K' : V} {k' : Value} {b : Bool}, keyEq (.agg cs) K' = some b → Rep M K' k' → (Op.equal kt (.agg us) k').run P w = .ok b w ∧ (b = true → k' = .agg us) := fun {K' k' b} hk hr' => by
          cases K' <;> simp only [keyEq] at hk <;> try (cases hk; done)
          rename_i ds
          obtain ⟨vs, rfl, hd⟩ := hr'.agg_inv
          obtain ⟨e1, e2, e3⟩ := eqInts_ok h hk hc hd
          have e1' : vs.size = l := by simpa using e1
          have e2' : ∀ i, i < us.size → ∃ n, vs[i]? = some (.int j n) := fun i hi => by
            obtain ⟨n, hn⟩ := e2 i (by simp; omega)
            exact ⟨n, by rw [Array.getElem?_eq_getElem (by omega)]; simpa using hn⟩
          obtain ⟨r, r1, r2⟩ := run_intItems (P := P) (w := w) (d := 9998) hu2 k2' e2' (List.range l) fun i hi => by rw [List.mem_range] at hi; omega
          have hrun : (Op.equal kt (.agg us) (.agg vs)).run P w = .ok r w := by
            show (Op.equalIn 10000 kt (.agg us) (.agg vs)).run P w = _
            rw [run_equalIn_array w 9999 us vs hu1 hi, hcell]
            exact r1
          have hrb : r = b := by
            rw [Bool.eq_iff_iff, r2, e3]
            constructor
            · intro hh
              apply List.ext_getElem? fun i => ?_
              by_cases hi : i < l
              · have := hh i (by simpa using hi)
                simpa using this
              · rw [List.getElem?_eq_none (by simp; omega), List.getElem?_eq_none (by simp; omega)]
            · intro hh i _
              have : us = vs := by
                apply Array.toList_inj.1 hh
              rw [this]
          rw [hrb] at hrun
          refine ⟨hrun, fun hb => ?_⟩
          have := e3.1 hb
          rw [Array.toList_inj.1 this]
        rcases findAsking_ok hcmp l1 l2 hmf with ⟨q1, q2⟩ | ⟨j2, y, v, e', q1, q2, q3⟩
        · exact .inl ⟨q1, q2⟩
        · rw [Nat.zero_add] at q1 q2
          exact .inr ⟨j2, y, v, e', q1, q2, q3⟩
    · cases h
theorem obj_list {kvs : List (V × V)} {es : Array MapEntry} (h : es.size = kvs.length) (hr : ∀ i (h : i < kvs.length), Rep M (kvs[i]).1 (es.getD i default).key ∧ Rep M (kvs[i]).2 (es.getD i default).val) :
    kvs.length = es.toList.length ∧ ∀ j (h : j < kvs.length), Rep M (kvs[j]).1 (es.toList.getD j default).key ∧ Rep M (kvs[j]).2 (es.toList.getD j default).val := by
  refine ⟨by simp [h], fun j hj => ?_⟩
  have := hr j hj
  rw [Array.getD_eq_getD_getElem?] at this
  rw [List.getD_eq_getElem?_getD, Array.getElem?_toList]; exact this
theorem lkR_rep {okk b : Bool} {x : V} {v : Value} (hr : Rep M x v) : Rep M (lkR okk x b) (if okk then .tuple #[v, .bool b] else v) := by
  cases okk
  · exact hr
  · exact RepL.tup (vs := [v, .bool b]) (.cons hr (.cons (.bool b) .nil))
theorem ans_lookup {t kt : TypeId} {K X z x : V} {k u : Value} {okk : Bool} {C : Prop} (hm : Mem E M G w) (ht : tmap P t = some (kt, z)) (hs : simpleKey P kt K = true) (hK : Rep M K k) (hX : Rep M X u) (h : lookV G K z okk X = some (C, x)) :
    Ans P E M G w (Instr.lookup t u k okk) x := by
  obtain ⟨e, hu, hz⟩ := tmap_info ht
  obtain ⟨_, hck, hfind⟩ := simpleKey_ok hs hK
  obtain ⟨zv, hzv, hzr⟩ := run_zeroValue hz w
  unfold lookV at h
  split at h
  · obtain rfl := hX.nilm_inv
    simp only [ok, Option.some.injEq, Prod.mk.injEq] at h
    obtain ⟨_, rfl⟩ := h
    refine .pure hm (lkR_rep (b := false) (hzr M)) ?_
    have hf : (Instr.findKey kt k []).run P w = .ok none w := by
      rcases hfind (kvs := []) (es := []) rfl (fun j h => absurd h (by simp)) rfl w with ⟨_, h⟩ | ⟨j, x, v, e, h, _⟩
      · exact h
      · cases h
    simp only [Instr.lookup, Sem.run_bind, run_underlying hu, Result.andThen_ok, Sem.run_pure, hck, hf, hzv]
  · rename_i b
    obtain rfl := hX.map_inv
    split at h
    · rename_i kvs hb
      obtain ⟨_, es, ck, h1, h2, h3, _⟩ := hm.obj b _ hb
      obtain ⟨l1, l2⟩ := obj_list h2 h3
      cases hmf : mfind K kvs 0 with
      | none => rw [hmf] at h; cases h
      | some r =>
        rw [hmf] at h
        rcases hfind l1 l2 hmf w with ⟨rfl, q2⟩ | ⟨j, y, v, e', rfl, q2, q3, _⟩
        · simp only [lkF, ok, Option.some.injEq, Prod.mk.injEq] at h
          obtain ⟨_, rfl⟩ := h
          refine .pure hm (lkR_rep (b := false) (hzr M)) ?_
          have hf : (Instr.findKey kt k es.toList).run P w = .ok none w := q2
          simp only [Instr.lookup, Sem.run_bind, run_underlying hu, Result.andThen_ok, Sem.run_pure, MapKept.run_getObj_map h1, hck, hf, hzv]
        · simp only [lkF, ok, Option.some.injEq, Prod.mk.injEq] at h
          obtain ⟨_, rfl⟩ := h
          refine .pure hm (lkR_rep (b := true) q3) ?_
          have hf : (Instr.findKey kt k es.toList).run P w = .ok (some (j, v)) w := q2
          simp only [Instr.lookup, Sem.run_bind, run_underlying hu, Result.andThen_ok, Sem.run_pure, MapKept.run_getObj_map h1, hck, hf]
    · rename_i kvs r0 td0 cu0 hb
      obtain ⟨_, es, ck, _, _, h1, _, h2, h3, _⟩ := hm.obj b _ hb
      obtain ⟨l1, l2⟩ := obj_list h2 h3
      cases hmf : mfind K kvs 0 with
      | none => rw [hmf] at h; cases h
      | some r =>
        rw [hmf] at h
        rcases hfind l1 l2 hmf w with ⟨rfl, q2⟩ | ⟨j, y, v, e', rfl, q2, q3, _⟩
        · simp only [lkF, ok, Option.some.injEq, Prod.mk.injEq] at h
          obtain ⟨_, rfl⟩ := h
          refine .pure hm (lkR_rep (b := false) (hzr M)) ?_
          have hf : (Instr.findKey kt k es.toList).run P w = .ok none w := q2
          simp only [Instr.lookup, Sem.run_bind, run_underlying hu, Result.andThen_ok, Sem.run_pure, MapKept.run_getObj_map h1, hck, hf, hzv]
        · simp only [lkF, ok, Option.some.injEq, Prod.mk.injEq] at h
          obtain ⟨_, rfl⟩ := h
          refine .pure hm (lkR_rep (b := true) q3) ?_
          have hf : (Instr.findKey kt k es.toList).run P w = .ok (some (j, v)) w := q2
          simp only [Instr.lookup, Sem.run_bind, run_underlying hu, Result.andThen_ok, Sem.run_pure, MapKept.run_getObj_map h1, hck, hf]
    · cases h
  · cases h
theorem Mem.setMap (hm : Mem E M G w) {b : Nat} {kvs kvs' : List (V × V)} (hb : hget G b = some (.map kvs)) {es' : Array MapEntry} {ck' : Nat} (h2 : es'.size = kvs'.length)
    (h3 : ∀ i (h : i < kvs'.length), Rep M (kvs'[i]).1 (es'.getD i default).key ∧ Rep M (kvs'[i]).2 (es'.getD i default).val)
    (h4 : ∀ i j, i < es'.size → j < es'.size → (es'.getD i default).born = (es'.getD j default).born → i = j) (h5 : ∀ i, i < es'.size → (es'.getD i default).born < ck') :
    Mem E M (hset G b (.map kvs')) { w with heap := w.heap.setIfInBounds b (.map es' ck') } := by
  obtain ⟨hB, es, ck, h1, _⟩ := hm.obj b _ hb
  obtain ⟨k1, k2⟩ := MapKept.heap_set (o' := .map es' ck') h1
  have hcell : ∀ b' o v, w.cell? ⟨b', o, none⟩ = some v → ({ w with heap := w.heap.setIfInBounds b (.map es' ck') } : World).cell? ⟨b', o, none⟩ = some v := fun b' o v hv => by
    have hne : b' ≠ b := by
      intro e
      subst e
      unfold World.cell? at hv
      simp only [h1] at hv
      cases hv
    rw [World.cell?_of_block (w := w) (a := ⟨b', o, none⟩) (k2 _ hne)]
    exact hv
  refine ⟨⟨hm.below.os, hm.below.tape, hm.below.output, by simpa using hm.below.size, fun k hk => ?_⟩, hm.base, fun b' o v hv => hcell _ _ _ (hm.pm _ _ _ hv), fun b' ob hob => ?_⟩
  · show (w.heap.setIfInBounds b (.map es' ck'))[k]? = _
    rw [k2 k (by omega)]; exact hm.below.block k hk
  · rcases hget_hset hob with ⟨rfl, rfl⟩ | ⟨hne, hob⟩
    · exact ⟨hB, es', ck', k1, h2, h3, h4, h5⟩
    · refine ⟨(hm.obj _ _ hob).1, ?_⟩
      have hok := (hm.obj _ _ hob).2
      cases ob with
      | vars cs' => obtain ⟨arr', T', fr', g1, r⟩ := hok; exact ⟨arr', T', fr', by show (w.heap.setIfInBounds b (.map es' ck'))[b']? = _; rw [k2 _ hne]; exact g1, r⟩
      | top e c => obtain ⟨arr', T', fr', g1, r⟩ := hok; exact ⟨arr', T', fr', by show (w.heap.setIfInBounds b (.map es' ck'))[b']? = _; rw [k2 _ hne]; exact g1, r⟩
      | map kvs => obtain ⟨es, ck, g1, r⟩ := hok; exact ⟨es, ck, by show (w.heap.setIfInBounds b (.map es' ck'))[b']? = _; rw [k2 _ hne]; exact g1, r⟩
      | siter s pos => show (w.heap.setIfInBounds b (.map es' ck'))[b']? = _; rw [k2 _ hne]; exact hok
      | miter m => obtain ⟨s1, s2, s3, g1⟩ := hok; exact ⟨s1, s2, s3, by show (w.heap.setIfInBounds b (.map es' ck'))[b']? = _; rw [k2 _ hne]; exact g1⟩
      | mapr kvs r todo cur =>
        obtain ⟨es2, ck2, s1, s2, g1, g2, rr⟩ := hok
        exact ⟨es2, ck2, s1, s2, by show (w.heap.setIfInBounds b (.map es' ck'))[b']? = _; rw [k2 _ hne]; exact g1, by show (w.heap.setIfInBounds b (.map es' ck'))[r]? = _; rw [k2 _ (fun e => by subst e; rw [h1] at g2; cases g2)]; exact g2, rr⟩
theorem put_ok {t kt : TypeId} {z K X : V} {k v : Value} {b : Nat} {kvs : List (V × V)} {r : Option (Nat × V)} (hm : Mem E M G w) (hb : hget G b = some (.map kvs)) (ht : tmap P t = some (kt, z)) (hs : simpleKey P kt K = true) (hK : Rep M K k) (hX : Rep M X v) (hf : mfind K kvs 0 = some r) :
    ∃ w', (Instr.mapUpdate t (.map (some b)) k v).run P w = .ok () w' ∧ Mem E M (hset G b (.map (mput kvs K X r))) w' := by
  obtain ⟨e, hu, hz⟩ := tmap_info ht
  obtain ⟨hbits, hck, hfind⟩ := simpleKey_ok hs hK
  obtain ⟨hB, es, ck, h1, h2, h3, h4, h5⟩ := hm.obj b _ hb
  obtain ⟨l1, l2⟩ := obj_list h2 h3
  rcases hfind l1 l2 hf w with ⟨rfl, q2⟩ | ⟨j, y, v', e', hr0, q2, q3, q4, q5, q6⟩
  · refine ⟨_, ?_, hm.setMap hb (es' := es.push { key := k, val := v, born := ck }) (ck' := ck + 1) (by simp [mput, h2]) (fun i hi => ?_) (fun i j hi hj hij => ?_) (fun i hi => ?_)⟩
    · have hfk : (Instr.findKey kt k es.toList).run P w = .ok none w := q2
      simp only [Instr.mapUpdate, Sem.run_bind, run_underlying hu, Result.andThen_ok, MapKept.run_getObj_map h1, hck, hfk, MapKept.run_setObj_map _ h1]
    · simp only [mput] at hi ⊢
      by_cases hlt : i < kvs.length
      · rw [Array.getD_eq_getD_getElem?, Array.getElem?_push_lt (by omega), List.getElem_append_left hlt]
        have := h3 i hlt
        rw [Array.getD_eq_getD_getElem?, Array.getElem?_eq_getElem (by omega)] at this
        exact this
      · have e0 : i = kvs.length := by simp at hi; omega
        subst e0
        have hpush : (es.push { key := k, val := v, born := ck })[kvs.length]? = some { key := k, val := v, born := ck } := by rw [← h2]; exact Array.getElem?_push_size
        rw [Array.getD_eq_getD_getElem?, hpush]
        simp only [List.getElem_append_right (Nat.le_refl _), Nat.sub_self, List.getElem_cons_zero]
        exact ⟨hK, hX⟩
    · have key : ∀ i, i < (es.push { key := k, val := v, born := ck }).size → (i < es.size ∧ ((es.push { key := k, val := v, born := ck }).getD i default).born = (es.getD i default).born) ∨ (i = es.size ∧ ((es.push { key := k, val := v, born := ck }).getD i default).born = ck) := fun i hi => by
        rw [Array.size_push] at hi
        by_cases hlt : i < es.size
        · left
          refine ⟨hlt, ?_⟩
          rw [Array.getD_eq_getD_getElem?, Array.getElem?_push_lt hlt, Array.getD_eq_getD_getElem?, Array.getElem?_eq_getElem hlt]
        · right
          have e0 : i = es.size := by omega
          subst e0
          exact ⟨rfl, by rw [Array.getD_eq_getD_getElem?, Array.getElem?_push_size]; rfl⟩
      rcases key i hi with ⟨g1, g2⟩ | ⟨g1, g2⟩ <;> rcases key j hj with ⟨g3, g4⟩ | ⟨g3, g4⟩
      · exact h4 i j g1 g3 (by rw [← g2, ← g4]; exact hij)
      · have := h5 i g1; omega
      · have := h5 j g3; omega
      · omega
    · rw [Array.size_push] at hi
      by_cases hlt : i < es.size
      · rw [Array.getD_eq_getD_getElem?, Array.getElem?_push_lt hlt]
        have := h5 i hlt
        rw [Array.getD_eq_getD_getElem?, Array.getElem?_eq_getElem hlt] at this
        exact Nat.lt_succ_of_lt this
      · have e0 : i = es.size := by omega
        subst e0
        rw [Array.getD_eq_getD_getElem?, Array.getElem?_push_size]; exact Nat.lt_succ_self _
  · subst hr0
    have hjs : j < es.size := by omega
    have hmod : ∀ i, i < es.size → (es.modify (j) fun e => { e with key := k, val := v }).getD i default = if i = j then { es.getD i default with key := k, val := v } else es.getD i default := fun i hi => by
      rw [Array.getD_eq_getD_getElem?, Array.getD_eq_getD_getElem?, Array.getElem?_modify]
      by_cases e0 : j = i
      · subst e0
        rw [if_pos rfl, if_pos rfl, Array.getElem?_eq_getElem hi]; rfl
      · rw [if_neg e0, if_neg (fun q => e0 q.symm)]
    have hborn : ∀ i, i < es.size → ((es.modify (j) fun e => { e with key := k, val := v }).getD i default).born = (es.getD i default).born := fun i hi => by
      rw [hmod i hi]; split <;> rfl
    refine ⟨_, ?_, hm.setMap hb (es' := es.modify (j) fun e => { e with key := k, val := v }) (ck' := ck) (by simp [mput, h2]) (fun i hi => ?_) (fun i j' hi hj hij => ?_) (fun i hi => ?_)⟩
    · have hfk : (Instr.findKey kt k es.toList).run P w = .ok (some (j, v')) w := q2
      have hold : ((es[j]?).map (·.key)).getD k = k := by
        have : es[j]? = some e' := by rw [← Array.getElem?_toList]; exact q4
        rw [this]; exact q5
      simp only [Instr.mapUpdate, Sem.run_bind, run_underlying hu, Result.andThen_ok, MapKept.run_getObj_map h1, hck, hfk, hold, Instr.keyThatStays, hbits, if_true, Sem.run_pure, MapKept.run_setObj_map _ h1]
    · simp only [mput, List.length_set] at hi ⊢
      rw [hmod i (by omega), List.getElem_set]
      by_cases e0 : j = i
      · subst e0
        rw [if_pos rfl, if_pos rfl]; exact ⟨hK, hX⟩
      · rw [if_neg e0, if_neg (fun q => e0 q.symm)]; exact h3 i hi
    · rw [Array.size_modify] at hi hj
      rw [hborn i hi, hborn j' hj] at hij
      exact h4 i j' hi hj hij
    · rw [Array.size_modify] at hi
      rw [hborn i hi]; exact h5 i hi
theorem Mem.new_map (hm : Mem E M G w) : hget G w.heap.size = none ∧ Mem E M ((w.heap.size, .map []) :: G) (w.alloc (.map #[] 0)) := by
  have hG : hget G w.heap.size = none := by
    cases hq : hget G w.heap.size with
    | none => rfl
    | some o => have := (hm.obj _ _ hq).2.lt; omega
  have ha := hm.alloc (.map #[] 0)
  refine ⟨hG, ha.below, ha.base, ha.pm, fun b o ho => ?_⟩
  rw [hget_cons] at ho
  by_cases e : w.heap.size = b
  · subst e
    rw [if_pos rfl] at ho
    cases ho
    exact ⟨hm.size, #[], 0, by show (w.heap.push _)[w.heap.size]? = _; simp, rfl, fun i h => absurd h (by simp), fun i j h => absurd h (by simp), fun i h => absurd h (by simp)⟩
  · rw [if_neg e] at ho
    exact ha.obj b o ho
end
end Go.Proofs.YtclmcpbanaojfaaV

/-
  Iterators over texts of small letters, and over maps.
-/
namespace Go.Proofs.YtclmcpbanaojfaaV
open Go.RowKit
set_option linter.unusedVariables false
set_option linter.unusedSimpArgs false
section
variable {P : Program} {E : Env} {M : PM} {G : Heap} {w : World}
theorem Mem.fresh (hm : Mem E M G w) : hget G w.heap.size = none := by
  cases hq : hget G w.heap.size with
  | none => rfl
  | some o => have := (hm.obj _ _ hq).2.lt; omega
theorem alloc_at (w : World) (o : Obj) : (w.alloc o).heap[w.heap.size]? = some o := by show (w.heap.push _)[w.heap.size]? = _; simp
theorem Mem.new_siter (hm : Mem E M G w) (s : List UInt8) : Mem E M ((w.heap.size, .siter s 0) :: G) (w.alloc (.stringIter ⟨s.toArray⟩ 0)) := by
  have ha := hm.alloc (.stringIter ⟨s.toArray⟩ 0)
  refine ⟨ha.below, ha.base, ha.pm, fun b o ho => ?_⟩
  rw [hget_cons] at ho
  by_cases e : w.heap.size = b
  · subst e
    rw [if_pos rfl] at ho
    cases ho
    exact ⟨hm.size, alloc_at w _⟩
  · rw [if_neg e] at ho
    exact ha.obj b o ho
/-- What lies in a block that holds no cells may turn. -/
theorem Mem.setIter (hm : Mem E M G w) {r : Nat} {o o' : Obj} (hB : E.B ≤ r) (h1 : w.heap[r]? = some o) (hnc : ∀ arr T fr, o ≠ .cells arr T fr) {G' : Heap}
    (hobj : ∀ b x, hget G' b = some x → E.B ≤ b ∧ ObjOk M { w with heap := w.heap.setIfInBounds r o' } b x) : Mem E M G' { w with heap := w.heap.setIfInBounds r o' } := by
  obtain ⟨k1, k2⟩ := MapKept.heap_set (o' := o') h1
  have hcell : ∀ b' p v, w.cell? ⟨b', p, none⟩ = some v → ({ w with heap := w.heap.setIfInBounds r o' } : World).cell? ⟨b', p, none⟩ = some v := fun b' p v hv => by
    have hne : b' ≠ r := by
      intro e
      subst e
      unfold World.cell? at hv
      simp only [h1] at hv
      cases o <;> first | (cases hv; done) | exact absurd rfl (hnc _ _ _)
    rw [World.cell?_of_block (w := w) (a := ⟨b', p, none⟩) (k2 _ hne)]
    exact hv
  refine ⟨⟨hm.below.os, hm.below.tape, hm.below.output, by simpa using hm.below.size, fun k hk => ?_⟩, hm.base, fun b' p v hv => hcell _ _ _ (hm.pm _ _ _ hv), hobj⟩
  show (w.heap.setIfInBounds r o')[k]? = _
  rw [k2 k (by omega)]; exact hm.below.block k hk
theorem next_str (hm : Mem E M G w) {b pos : Nat} {s : List UInt8} (hb : hget G b = some (.siter s pos)) (ty : TypeId) :
    (∀ h : pos < s.length, s[pos].toNat < 128 → ∃ w', (Instr.next (.pointer (some ⟨b, 0, none⟩)) true ty).run P w = .ok (.tuple #[.bool true, .int .i64 pos, .int .i32 (s[pos].toNat : Nat)]) w' ∧ Mem E M (hset G b (.siter s (pos + 1))) w') ∧
    (¬ pos < s.length → (Instr.next (.pointer (some ⟨b, 0, none⟩)) true ty).run P w = .ok (.tuple #[.bool false]) w) := by
  obtain ⟨hB, h1⟩ := hm.obj b _ hb
  have h1 : w.heap[b]? = some (.stringIter ⟨s.toArray⟩ pos) := h1
  have hsz : (⟨s.toArray⟩ : ByteArray).size = s.length := by simp [ByteArray.size]
  refine ⟨fun h ha => ?_, fun h => ?_⟩
  · have h' : pos < (⟨s.toArray⟩ : ByteArray).size := by rw [hsz]; exact h
    have hget : (⟨s.toArray⟩ : ByteArray)[pos]'h' = s[pos] := by
      show s.toArray[pos]'_ = _
      simp
    have hdec := decode_ascii ⟨s.toArray⟩ pos h' (by rw [hget]; exact ha)
    rw [hget] at hdec
    have hk := MapKept.heap_set (o' := .stringIter ⟨s.toArray⟩ (pos + 1)) h1
    refine ⟨{ w with heap := w.heap.setIfInBounds b (.stringIter ⟨s.toArray⟩ (pos + 1)) }, ?_, ?_⟩
    · simp only [Instr.next, getObj, setObj, Sem.run_bind, Sem.run, h1, Result.andThen, h', if_true, hdec]
      simp [goInt, Sem.run]
    · refine hm.setIter hB h1 (fun _ _ _ e => by cases e) fun b' x hx => ?_
      rcases hget_hset hx with ⟨rfl, rfl⟩ | ⟨hne, hx⟩
      · exact ⟨hB, hk.1⟩
      · refine ⟨(hm.obj _ _ hx).1, ?_⟩
        have hok := (hm.obj _ _ hx).2
        cases x with
        | vars cs' => obtain ⟨arr', T', fr', g1, r⟩ := hok; exact ⟨arr', T', fr', by rw [← g1]; exact hk.2 _ hne, r⟩
        | top e c => obtain ⟨arr', T', fr', g1, r⟩ := hok; exact ⟨arr', T', fr', by rw [← g1]; exact hk.2 _ hne, r⟩
        | map kvs => obtain ⟨es, ck, g1, r⟩ := hok; exact ⟨es, ck, by rw [← g1]; exact hk.2 _ hne, r⟩
        | siter s pos => exact (hk.2 _ hne).trans hok
        | miter m => obtain ⟨s1, s2, s3, g1⟩ := hok; exact ⟨s1, s2, s3, by rw [← g1]; exact hk.2 _ hne⟩
        | mapr kvs r todo cur =>
          obtain ⟨es2, ck2, s1, s2, g1, g2, rr⟩ := hok
          exact ⟨es2, ck2, s1, s2, by rw [← g1]; exact hk.2 _ hne, by rw [← g2]; exact hk.2 _ (fun e => by subst e; rw [h1] at g2; cases g2), rr⟩
  · have h' : ¬ pos < (⟨s.toArray⟩ : ByteArray).size := by rw [hsz]; exact h
    simp [Instr.next, getObj, Sem.run, h1, h']
/-- A map is walked over no more. -/
theorem Mem.unr (hm : Mem E M G w) {m r : Nat} {kvs : List (V × V)} {todo : List Nat} {cur : Option Nat} (hb : hget G m = some (.mapr kvs r todo cur)) : Mem E M (hset G m (.map kvs)) w := by
  refine ⟨hm.below, hm.base, hm.pm, fun b x hx => ?_⟩
  rcases hget_hset hx with ⟨rfl, rfl⟩ | ⟨hne, hx⟩
  · obtain ⟨hB, es, ck, s1, s2, h1, h2, h3, h4, h5, h6, h7, _⟩ := hm.obj _ _ hb
    exact ⟨hB, es, ck, h1, h3, h4, h5, fun i hi => Nat.lt_of_lt_of_le (h7 i hi) h6⟩
  · exact hm.obj b x hx
theorem range_map (hm : Mem E M G w) {m : Nat} {kvs : List (V × V)} (hb : hget G m = some (.map kvs)) {t : TypeId} (ht : kindIs P t isMapT = true) :
    ∃ w', (Instr.range t (.map (some m))).run P w = .ok (.pointer (some ⟨w.heap.size, 0, none⟩)) w' ∧ Mem E M ((w.heap.size, .miter m) :: hset G m (.mapr kvs w.heap.size (List.range kvs.length) none)) w' := by
  obtain ⟨d, hd, hk⟩ := kindIs_some ht
  cases d <;> simp [isMapT] at hk
  rename_i k e
  obtain ⟨hB, es, ck, h1, h2, h3, h4, h5⟩ := hm.obj m _ hb
  refine ⟨_, run_range_map w t k e m es ck hd h1, ?_⟩
  have ha := hm.alloc (.mapIter (some m) ck #[] ck)
  refine ⟨ha.below, ha.base, ha.pm, fun b x hx => ?_⟩
  rw [hget_cons] at hx
  split at hx
  · rename_i e; subst e; cases hx
    exact ⟨hm.size, ck, #[], ck, alloc_at w _⟩
  · rename_i hne
    have hlt : m < w.heap.size := (hm.obj m _ hb).2.lt
    rcases hget_hset hx with ⟨rfl, rfl⟩ | ⟨hne, hx⟩
    · refine ⟨hB, es, ck, ck, #[], ?_, alloc_at w _, h2, h3, h4, Nat.le_refl _, h5, List.nodup_range, fun i => ?_, fun c hc => by cases hc⟩
      · have := (ha.obj b _ hb).2
        show (w.heap.push _)[b]? = _
        rw [Array.getElem?_push_lt hlt, ← h1, Array.getElem?_eq_getElem hlt]
      · rw [List.mem_range, h2]; simp
    · exact ha.obj b x hx
theorem mem_todo {es : Array MapEntry} {e : MapEntry} (h : e ∈ es.toList) : ∃ i, i < es.size ∧ es.getD i default = e := by
  obtain ⟨i, hi, rfl⟩ := List.getElem_of_mem h
  have hi' : i < es.size := by simpa using hi
  exact ⟨i, hi', by rw [Array.getD_eq_getD_getElem?, Array.getElem?_eq_getElem hi']; simp⟩
theorem next_map (hm : Mem E M G w) {m r : Nat} {kvs : List (V × V)} {todo : List Nat} {cur : Option Nat} (hr : hget G r = some (.miter m)) (hb : hget G m = some (.mapr kvs r todo cur)) (ty : TypeId) :
    (todo = [] ∧ (Instr.next (.pointer (some ⟨r, 0, none⟩)) false ty).run P w = .ok (.tuple #[.bool false]) w) ∨
    ∃ i, i ∈ todo ∧ ∃ (h : i < kvs.length) (w' : World) (k v : Value), (Instr.next (.pointer (some ⟨r, 0, none⟩)) false ty).run P w = .ok (.tuple #[.bool true, k, v]) w' ∧ Rep M (kvs[i]).1 k ∧ Rep M (kvs[i]).2 v ∧ Mem E M (hset G m (.mapr kvs r (todo.erase i) (some i))) w' := by
  obtain ⟨hBr, _⟩ := hm.obj r _ hr
  obtain ⟨hB, es, ck, since, seen, h1, h2, h3, h4, h5, h6, h7, h8, h9, h10⟩ := hm.obj m _ hb
  have hold : ∀ x ∈ es.toList, x.born < since := fun x hx => by
    obtain ⟨i, hi, rfl⟩ := mem_todo hx
    exact h7 i hi
  rcases run_next_at (P := P) w ty r m since ck seen es ck h2 h1 hold h6 with ⟨q1, q2⟩ | ⟨e, he, w1, hw1, q2⟩
  · refine .inl ⟨?_, q2⟩
    rw [List.eq_nil_iff_forall_not_mem]
    intro i hi
    obtain ⟨hi1, hi2⟩ := (h9 i).1 hi
    have hmem : es.getD i default ∈ (leftOf es seen) := by
      unfold leftOf
      rw [Array.mem_filter]
      refine ⟨?_, by rw [hi2]; rfl⟩
      rw [Array.getD_eq_getD_getElem?, Array.getElem?_eq_getElem hi1]
      simp
    have : 0 < (leftOf es seen).size := Array.size_pos_of_mem hmem
    omega
  · have he' : e ∈ es.toList ∧ seen.contains e.born = false := by
      unfold leftOf at he
      have := Array.mem_filter.1 (Array.mem_def.2 he)
      exact ⟨Array.mem_def.1 this.1, by simpa using this.2⟩
    obtain ⟨i, hi, hie⟩ := mem_todo he'.1
    have hit : i ∈ todo := (h9 i).2 ⟨hi, by rw [hie]; exact he'.2⟩
    have hik : i < kvs.length := by omega
    refine .inr ⟨i, hit, hik, _, e.key, e.val, q2, by rw [← hie]; exact (h4 i hik).1, by rw [← hie]; exact (h4 i hik).2, ?_⟩
    have hm1 : Mem E M G w1 := by rcases hw1 with rfl | rfl
                                  · exact hm
                                  · exact hm.drew
    have hw1h : w1.heap = w.heap := by rcases hw1 with rfl | rfl <;> rfl
    have h2' : w1.heap[r]? = some (.mapIter (some m) since seen ck) := by rw [hw1h]; exact h2
    have h1' : w1.heap[m]? = some (.map es ck) := by rw [hw1h]; exact h1
    have hk := MapKept.heap_set (o' := .mapIter (some m) since (seen.push e.born) ck) h2'
    have hmr : m ≠ r := fun q => by subst q; rw [h1] at h2; cases h2
    refine hm1.setIter hBr h2' (fun _ _ _ e => by cases e) fun b x hx => ?_
    rcases hget_hset hx with ⟨rfl, rfl⟩ | ⟨hne, hx⟩
    · refine ⟨hB, es, ck, since, seen.push e.born, (hk.2 _ hmr).trans h1', hk.1, h3, h4, h5, h6, h7, h8.erase i, fun j => ?_, fun c hc => ?_⟩
      · rw [h8.mem_erase_iff, h9 j]
        constructor
        · rintro ⟨hji, hj1, hj2⟩
          refine ⟨hj1, ?_⟩
          rw [Array.contains_push, hj2, Bool.false_or]
          rw [beq_eq_false_iff_ne]
          intro q
          exact hji (h5 j i hj1 hi (by rw [hie]; exact q))
        · rintro ⟨hj1, hj2⟩
          rw [Array.contains_push, Bool.or_eq_false_iff, beq_eq_false_iff_ne] at hj2
          exact ⟨fun q => by subst q; exact hj2.2 (by rw [hie]), hj1, hj2.1⟩
      · cases hc
        exact ⟨hi, seen, by rw [hie]⟩
    · refine ⟨(hm1.obj _ _ hx).1, ?_⟩
      have hok := (hm1.obj _ _ hx).2
      cases x with
      | vars cs' => obtain ⟨arr', T', fr', g1, rr⟩ := hok; exact ⟨arr', T', fr', by rw [← g1]; exact hk.2 _ (fun q => by subst q; rw [h2'] at g1; cases g1), rr⟩
      | top e c => obtain ⟨arr', T', fr', g1, rr⟩ := hok; exact ⟨arr', T', fr', by rw [← g1]; exact hk.2 _ (fun q => by subst q; rw [h2'] at g1; cases g1), rr⟩
      | map kvs => obtain ⟨es, ck, g1, rr⟩ := hok; exact ⟨es, ck, by rw [← g1]; exact hk.2 _ (fun q => by subst q; rw [h2'] at g1; cases g1), rr⟩
      | siter s pos => exact (hk.2 _ (fun q => by subst q; have hok' : w1.heap[b]? = some (.stringIter ⟨s.toArray⟩ pos) := hok; rw [h2'] at hok'; cases hok')).trans hok
      | miter m2 =>
        obtain ⟨s1, s2, s3, g1⟩ := hok
        by_cases q : b = r
        · subst q
          rw [h2'] at g1
          simp only [Option.some.injEq, Obj.mapIter.injEq] at g1
          obtain ⟨rfl, _⟩ := g1
          exact ⟨_, _, _, hk.1⟩
        · exact ⟨s1, s2, s3, by rw [← g1]; exact hk.2 _ q⟩
      | mapr kvs2 r2 todo2 cur2 =>
        obtain ⟨es2, ck2, s1, s2, g1, g2, rr⟩ := hok
        refine ⟨es2, ck2, s1, s2, by rw [← g1]; exact hk.2 _ (fun q => by subst q; rw [h2'] at g1; cases g1), ?_, rr⟩
        by_cases q : r2 = r
        · subst q
          rw [h2'] at g2
          simp only [Option.some.injEq, Obj.mapIter.injEq] at g2
          exact absurd g2.1.symm hne
        · rw [← g2]; exact hk.2 _ q
/-- At a key that is there a map that is walked over may be written. -/
theorem put_okr {t kt : TypeId} {z K X x0 : V} {k v : Value} {b r j0 : Nat} {kvs : List (V × V)} {todo : List Nat} {cur : Option Nat} (hm : Mem E M G w) (hb : hget G b = some (.mapr kvs r todo cur)) (ht : tmap P t = some (kt, z)) (hs : simpleKey P kt K = true) (hK : Rep M K k) (hX : Rep M X v) (hf : mfind K kvs 0 = some (some (j0, x0))) :
    ∃ w', (Instr.mapUpdate t (.map (some b)) k v).run P w = .ok () w' ∧ Mem E M (hset G b (.mapr (kvs.set j0 (K, X)) r todo cur)) w' := by
  obtain ⟨e, hu, hz⟩ := tmap_info ht
  obtain ⟨hbits, hck, hfind⟩ := simpleKey_ok hs hK
  obtain ⟨hB, es, ck, since, seen, h1, hr, h2, h3, h4, h6, h7, h8, h9, h10⟩ := hm.obj b _ hb
  obtain ⟨l1, l2⟩ := obj_list h2 h3
  rcases hfind l1 l2 hf w with ⟨q, _⟩ | ⟨j, y, v', e', hr0, q2, q3, q4, q5, q6⟩
  · cases q
  simp only [Option.some.injEq, Prod.mk.injEq] at hr0
  obtain ⟨rfl, rfl⟩ := hr0
  have hjs : j0 < es.size := by omega
  have hmod : ∀ i, i < es.size → (es.modify (j0) fun e => { e with key := k, val := v }).getD i default = if i = j0 then { es.getD i default with key := k, val := v } else es.getD i default := fun i hi => by
    rw [Array.getD_eq_getD_getElem?, Array.getD_eq_getD_getElem?, Array.getElem?_modify]
    by_cases e0 : j0 = i
    · subst e0
      rw [if_pos rfl, if_pos rfl, Array.getElem?_eq_getElem hi]; rfl
    · rw [if_neg e0, if_neg (fun q => e0 q.symm)]
  have hborn : ∀ i, i < es.size → ((es.modify (j0) fun e => { e with key := k, val := v }).getD i default).born = (es.getD i default).born := fun i hi => by
    rw [hmod i hi]; split <;> rfl
  have hk := MapKept.heap_set (o' := .map (es.modify (j0) fun e => { e with key := k, val := v }) ck) h1
  refine ⟨_, ?_, hm.setIter (r := b) (o' := .map (es.modify (j0) fun e => { e with key := k, val := v }) ck) hB h1 (fun _ _ _ e => by cases e) fun b' x hx => ?_⟩
  · have hfk : (Instr.findKey kt k es.toList).run P w = .ok (some (j0, v')) w := q2
    have hold : ((es[j0]?).map (·.key)).getD k = k := by
      have : es[j0]? = some e' := by rw [← Array.getElem?_toList]; exact q4
      rw [this]; exact q5
    simp only [Instr.mapUpdate, Sem.run_bind, run_underlying hu, Result.andThen_ok, MapKept.run_getObj_map h1, hck, hfk, hold, Instr.keyThatStays, hbits, if_true, Sem.run_pure, MapKept.run_setObj_map _ h1]
  · rcases hget_hset hx with ⟨rfl, rfl⟩ | ⟨hne, hx⟩
    · refine ⟨hB, _, ck, since, seen, hk.1, (hk.2 _ (fun q => by subst q; rw [h1] at hr; cases hr)).trans hr, by simp [h2], fun i hi => ?_, fun i j' hi hj hij => ?_, h6, fun i hi => ?_, h8, fun i => ?_, fun c hc => ?_⟩
      · rw [List.length_set] at hi
        rw [hmod i (by omega), List.getElem_set]
        by_cases e0 : j0 = i
        · subst e0
          rw [if_pos rfl, if_pos rfl]; exact ⟨hK, hX⟩
        · rw [if_neg e0, if_neg (fun q => e0 q.symm)]; exact h3 i hi
      · rw [Array.size_modify] at hi hj
        rw [hborn i hi, hborn j' hj] at hij
        exact h4 i j' hi hj hij
      · rw [Array.size_modify] at hi
        rw [hborn i hi]; exact h7 i hi
      · rw [h9 i, Array.size_modify]
        exact ⟨fun ⟨a1, a2⟩ => ⟨a1, by rw [hborn i a1]; exact a2⟩, fun ⟨a1, a2⟩ => ⟨a1, by rw [hborn i a1] at a2; exact a2⟩⟩
      · obtain ⟨a1, sn, a2⟩ := h10 c hc
        exact ⟨by rw [Array.size_modify]; exact a1, sn, by rw [hborn c a1]; exact a2⟩
    · refine ⟨(hm.obj _ _ hx).1, ?_⟩
      have hok := (hm.obj _ _ hx).2
      cases x with
      | vars cs' => obtain ⟨arr', T', fr', g1, rr⟩ := hok; exact ⟨arr', T', fr', by rw [← g1]; exact hk.2 _ hne, rr⟩
      | top e c => obtain ⟨arr', T', fr', g1, rr⟩ := hok; exact ⟨arr', T', fr', by rw [← g1]; exact hk.2 _ hne, rr⟩
      | map kvs => obtain ⟨es, ck, g1, rr⟩ := hok; exact ⟨es, ck, by rw [← g1]; exact hk.2 _ hne, rr⟩
      | siter s pos => exact (hk.2 _ hne).trans hok
      | miter m => obtain ⟨s1, s2, s3, g1⟩ := hok; exact ⟨s1, s2, s3, by rw [← g1]; exact hk.2 _ hne⟩
      | mapr kvs r todo cur =>
        obtain ⟨es2, ck2, s1, s2, g1, g2, rr⟩ := hok
        exact ⟨es2, ck2, s1, s2, by rw [← g1]; exact hk.2 _ hne, by rw [← g2]; exact hk.2 _ (fun e => by subst e; rw [h1] at g2; cases g2), rr⟩
theorem ans_entry {X x : V} {u : Value} {C : Prop} (hm : Mem E M G w) (hX : Rep M X u) (h : entV G X = some (C, x)) : Ans P E M G w (Instr.entry u) x := by
  unfold entV at h
  split at h
  · rename_i r o
    obtain rfl := hX.ptr_inv
    split at h
    · rename_i h0
      subst h0
      split at h
      · rename_i m hr
        split at h
        · rename_i kvs r' todo c hb
          split at h
          · rename_i hrr
            subst hrr
            split at h
            · rename_i k v hkv
              simp only [ok, Option.some.injEq, Prod.mk.injEq] at h
              obtain ⟨_, rfl⟩ := h
              obtain ⟨hB, es, ck, since, seen, h1, h2, h3, h4, h5, h6, h7, h8, h9, h10⟩ := hm.obj m _ hb
              obtain ⟨hc, sn, rfl⟩ := h10 c rfl
              have hck : c < kvs.length := by omega
              have he : es.getD c default ∈ es.toList := by
                rw [Array.getD_eq_getD_getElem?, Array.getElem?_eq_getElem hc]; simp
              have hn : (es.toList.map (·.born)).Nodup := by
                rw [List.nodup_iff_pairwise_ne, List.pairwise_iff_getElem]
                intro i j hi hj hij
                have hi' : i < es.size := by simpa using hi
                have hj' : j < es.size := by simpa using hj
                intro q
                have := h5 i j hi' hj' (by
                  rw [Array.getD_eq_getD_getElem?, Array.getElem?_eq_getElem hi', Array.getD_eq_getD_getElem?, Array.getElem?_eq_getElem hj']
                  simpa using q)
                omega
              have hrun := run_entry_at (P := P) w r' m since sn es ck (es.getD c default) h2 h1 he hn
              have hkv' : kvs[c] = (k, v) := by rw [List.getElem?_eq_getElem hck] at hkv; exact Option.some.inj hkv
              have h4c := h4 c hck
              rw [hkv'] at h4c
              exact .pure hm (RepL.tup (.cons h4c.1 (.cons h4c.2 .nil))) hrun
            · cases h
          · cases h
        · cases h
      · cases h
    · cases h
  · cases h
end
end Go.Proofs.YtclmcpbanaojfaaV

/-
  That 'qv' tells what the machine answers: all operations together.
-/
namespace Go.Proofs.YtclmcpbanaojfaaV
open Go.RowKit
set_option linter.unusedVariables false
set_option linter.unusedSimpArgs false

section
variable {P : Program} {E : Env} {M : PM} {G : Heap} {w : World} {f : FF} {a : Act}
theorem run_places : ∀ {l : List Field} {pl : List (Nat × Nat)}, placesL P l = some pl → (l.mapM (fun fd => (do Pure.pure (fd.offset, ← sizeOf fd.type) : Sem (Nat × Nat)))).run P w = .ok pl w
  | [], pl, h => by simp [placesL] at h; subst h; rfl
  | fd :: l, pl, h => by
    simp only [placesL] at h
    split at h
    · rename_i n pl' h1 h2
      cases h
      simp only [List.mapM_cons, Sem.run_bind, run_sizeOf h1, Result.andThen_ok, Sem.run_pure, run_places h2]
    · cases h
theorem fill_weaken {p q : Nat → Option (Nat × Nat)} (hpq : ∀ i x, p i = some x → q i = some x) : ∀ {ps : List (Nat × Value)} {cs cs' : Array Value}, Instr.fill p cs ps = some cs' → Instr.fill q cs ps = some cs'
  | [], cs, cs', h => h
  | (i, v) :: ps, cs, cs', h => by
    simp only [Instr.fill] at h ⊢
    split at h
    · cases h
    · rename_i off n hp
      rw [hpq i _ hp]
      simp only
      split at h
      · cases h
      · rename_i hc
        rw [if_neg hc]
        exact fill_weaken hpq h
theorem ans_build {t : TypeId} {ps : Array (Nat × Operand)} {cs cs' : List V} {pl : List (Nat × Nat)} (hm : Mem E M G w) (hf : RepG M f a.tmps) (hz : tzero P t = some (.agg cs)) (hp : tplaces P t = some pl)
    (h : fillC (fun i => pl[i]?) f cs ps.toList = some cs') : Ans P E M G w (Instr.build t (ps.map fun (i, x) => (i, a.eval x))) (.agg cs') := by
  obtain ⟨zv, hzv, hzr⟩ := run_zeroValue hz w
  obtain ⟨zs, rfl, hzl⟩ := (hzr M).agg_inv
  have hps : (ps.map fun (i, x) => (i, a.eval x)).toList = ps.toList.map fun (i, x) => (i, a.eval x) := by simp
  have hcs : (Value.agg zs).cells = zs := rfl
  obtain ⟨vs', h1, h2⟩ := fillC_rep hf h hzl
  refine .pure hm (h2.agg) ?_
  unfold tplaces at hp
  split at hp
  · rename_i fs hu
    have hrun : (fs.mapM (fun fd => (do Pure.pure (fd.offset, ← sizeOf fd.type) : Sem (Nat × Nat)))).run P w = .ok pl.toArray w := by
      have := run_places (w := w) hp
      rw [← Array.toArray_toList (xs := fs), List.mapM_toArray, Sem.run_map, this]
      rfl
    simp only [Instr.build, Sem.run_bind, hzv, Result.andThen_ok, run_underlying hu, hps, hcs]
    rw [hrun]
    simp only [Result.andThen_ok]
    have e : (fun i : Nat => pl.toArray[i]?) = fun i => pl[i]? := by funext i; simp
    rw [e, h1]
    simp
  · rename_i l e hu
    split at hp
    · rename_i n hs
      simp only [Option.some.injEq] at hp
      have h1' := fill_weaken (q := fun i => some (i * n, n)) (fun i x hx => by
        subst hp
        rw [List.getElem?_map] at hx
        cases hq : (List.range l)[i]? with
        | none => rw [hq] at hx; cases hx
        | some k =>
          rw [hq] at hx
          have : i = k := by
            obtain ⟨_, e⟩ := List.getElem?_eq_some_iff.1 hq
            rw [List.getElem_range] at e; exact e
          subst this
          exact hx) h1
      simp only [Instr.build, Sem.run_bind, hzv, Result.andThen_ok, run_underlying hu, run_sizeOf hs, hps, hcs, h1']
      simp
    · cases hp
  · cases hp

theorem ans_conv {src dst : TypeId} {X x : V} {u : Value} {C : Prop} (hm : Mem E M G w) (hr : Rep M X u) (h : convV P src dst X = some (C, x)) (hC : C) : Ans P E M G w (convert src dst u) x := by
  unfold convV at h
  split at h
  · rename_i k n
    obtain rfl := hr.int_inv
    split at h
    · rename_i k' hk
      split at h
      · rename_i hs
        simp only [ok, Option.some.injEq, Prod.mk.injEq] at h
        obtain ⟨_, rfl⟩ := h
        obtain ⟨d, hd⟩ := Option.isSome_iff_exists.1 hs
        have hu : P.underlying dst = some (.int k') := by
          unfold intKindOf at hk
          split at hk
          · rename_i k2 hk2; cases hk; exact hk2
          · cases hk
        refine .pure hm (.int k' _) ?_
        simp only [convert, Sem.run_bind, run_underlying hd, run_underlying hu, Result.andThen_ok]
        rfl
      · cases h
    · cases h
  · rename_i s
    obtain rfl := hr.str_inv
    split at h
    · rename_i hs
      split at h
      · rename_i hsrc
        simp only [ok, Option.some.injEq, Prod.mk.injEq] at h
        obtain ⟨_, rfl⟩ := h
        obtain ⟨d, hd⟩ := Option.isSome_iff_exists.1 hsrc
        refine .pure hm (.str s) ?_
        simp only [convert, Sem.run_bind, run_underlying hd, run_underlying (isStr_info hs), Result.andThen_ok]
        rfl
      · cases h
    · split at h
      · rename_i hu8
        split at h
        · rename_i hsrc
          simp only [ok, Option.some.injEq, Prod.mk.injEq] at h
          obtain ⟨_, rfl⟩ := h
          obtain ⟨e, he1, he2⟩ := isU8s_info hu8
          have hsz : (ByteArray.mk s.toArray).size = s.length := by show s.toArray.size = _; simp
          have hcap : s.length ≤ grownCap w (ByteArray.mk s.toArray).size 0 e := by have := grownCap_ge w (ByteArray.mk s.toArray).size 0 e; omega
          have hrun := Lib.run_convert_string_bytes w src dst e (ByteArray.mk s.toArray) (isStr_info hsrc) he1 he2
          have hwd : Lib.bytesWorld w e (ByteArray.mk s.toArray) = w.drew.alloc (.cells (Lib.bytesCells w e (ByteArray.mk s.toArray)) e ((Lib.bytesCells w e (ByteArray.mk s.toArray)).size, (Lib.bytesCells w e (ByteArray.mk s.toArray)).size + 1)) :=
            freeze_last w.drew _ e _
          rw [hwd] at hrun
          have hle := (hm.drew).le_add (w := w.drew) (Lib.bytesCells w e (ByteArray.mk s.toArray))
          refine ⟨_, _, _, hle, (hm.drew).lit (w := w.drew) _ e _, ?_, hrun⟩
          have hl : RepL (M.add w.drew.heap.size (Lib.bytesCells w e (ByteArray.mk s.toArray))) (bytesV s).flatten (s.map fun b => Value.int .u8 (b.toNat : Int)) := by
            generalize (M.add w.drew.heap.size (Lib.bytesCells w e (ByteArray.mk s.toArray))) = M2
            clear hrun hwd hle hcap hsz hr
            induction s with
            | nil => exact RepL.nil
            | cons b l ih => exact RepL.cons (.int .u8 _) ih
          have hwid : ∀ e ∈ bytesV s, e.length = 1 := by simp [bytesV]
          have := rep_sl_of_flat (b := w.drew.heap.size) (z := 0) (cap := grownCap w (ByteArray.mk s.toArray).size 0 e) (t := .no) hl hwid (fun i v hv => by
            rw [Nat.zero_add]
            refine PM.add_self ?_
            have hi : i < s.length := by
              rcases Nat.lt_or_ge i s.length with q | q
              · exact q
              · rw [List.getElem?_eq_none (by simpa using q)] at hv; cases hv
            unfold Lib.bytesCells
            rw [Array.getElem?_append_left (by simpa using hi)]
            simpa using hv) (by simpa using hcap) trivial
          rw [length_bytesV] at this
          rw [hsz] at this ⊢
          exact this
        · cases h
      · cases h
  · rename_i es nl tg
    split at h
    · rename_i hc
      simp only [Bool.and_eq_true] at hc
      obtain ⟨hs, hu8⟩ := hc
      simp only [Option.some.injEq, Prod.mk.injEq] at h
      obtain ⟨rfl, rfl⟩ := h
      obtain ⟨e, he1, he2⟩ := isU8s_info hu8
      have hvals : ∀ (l : List UInt8) (vs : List Value), RepL M (bytesV l).flatten vs → vs = (l.map fun b => ((b.toNat : Nat) : Int)).map (Value.int .u8) := by
        intro l
        induction l with
        | nil => intro vs hv; exact List.eq_nil_of_length_eq_zero hv.1.symm
        | cons b l ih =>
          intro vs hv
          match vs, hv with
          | [], hv => exact absurd hv.1 (by simp [bytesV])
          | v :: vs, hv =>
            have hb : v = .int .u8 (b.toNat : Int) := (RepL.head (c := V.int .u8 (b.toNat : Int)) hv).int_inv
            rw [hb, ih vs (RepL.tail (c := V.int .u8 (b.toNat : Int)) hv)]
            rfl
      have hfold : ∀ (l : List UInt8) (acc : ByteArray), ((l.map fun b => ((b.toNat : Nat) : Int)).foldl (fun r n => r.push (UInt8.ofNat n.toNat)) acc) = ⟨acc.data ++ l.toArray⟩ := by
        intro l
        induction l with
        | nil => intro acc; simp
        | cons b l ih =>
          intro acc
          simp only [List.map_cons, List.foldl_cons, Int.toNat_natCast, UInt8.ofNat_toNat]
          rw [ih]
          apply ByteArray.ext
          simp [ByteArray.push]
      rcases sl_cells hm hr with ⟨hnil, a0, c, rfl⟩ | ⟨b, z, c, sz, rfl, hc, _, he, hmem, _⟩
      · subst hnil
        refine .pure hm (.str _) ?_
        simp only [convert, Sem.run_bind, run_underlying he1, run_underlying he2, run_underlying (isStr_info hs), Result.andThen_ok, Conv.bytesToString]
        cases a0 with
        | none => rfl
        | some a0 => first | rfl | (simp [loadCells]; done) | (simp [loadCells]; rfl)
      · have hlen : (unb es).length = es.length := by simp [unb]
        have hw1 : ∀ e ∈ es, e.length = 1 := by rw [hC]; simp [bytesV]
        have hcells : CellsRep M w b z es.flatten := by
          refine ⟨(List.range es.length).map (fun i => ((w.cell? ⟨b, z + i, none⟩).getD undef)), ⟨by rw [flatten_length hw1]; simp, fun i hi => ?_⟩, fun i v hv => ?_⟩
          · have hi' : i < es.length := by rw [flatten_length hw1] at hi; omega
            obtain ⟨g, hg1, hg2⟩ := hmem i hi'
            have hs1 : sz = 1 := by rw [← he i hi']; exact hw1 _ (List.getElem_mem hi')
            subst hs1
            have h0 : 0 < (es[i]).length := by rw [he i hi']; omega
            have hfl := flatten_get hw1 hi' h0
            simp only [Nat.mul_one, Nat.add_zero] at hfl
            have e1 : es.flatten[i] = (es[i])[0] := by
              rw [List.getElem?_eq_getElem hi] at hfl; exact Option.some.inj hfl
            have hm0 := hm.pm _ _ _ (hg1 0 (by omega))
            simp only [Nat.mul_one, Nat.add_zero] at hm0
            rw [e1, List.getD_eq_getElem?_getD]
            simp only [List.getElem?_map, List.getElem?_range hi', Option.map_some, Option.getD_some, hm0]
            exact hg2 0 h0
          · rw [List.getElem?_map] at hv
            cases hq : (List.range es.length)[i]? with
            | none => rw [hq] at hv; cases hv
            | some k =>
              have hk : i < es.length ∧ k = i := by
                obtain ⟨h1, h2⟩ := List.getElem?_eq_some_iff.1 hq
                exact ⟨by simpa using h1, by simpa using h2.symm⟩
              obtain ⟨hi', rfl⟩ := hk
              obtain ⟨g, hg1, hg2⟩ := hmem k hi'
              have hs1 : sz = 1 := by rw [← he k hi']; exact hw1 _ (List.getElem_mem hi')
              subst hs1
              have hm0 := hm.pm _ _ _ (hg1 0 (by omega))
              simp only [Nat.mul_one, Nat.add_zero] at hm0
              rw [hq, Option.map_some, hm0] at hv
              simp only [Option.getD_some, Option.some.injEq] at hv
              rw [hm0, hv]
        obtain ⟨vs, hvs, hl⟩ := run_loadCells_rep (P := P) hcells
        rw [flatten_length hw1, Nat.mul_one] at hl
        rw [hC] at hvs
        rw [hvals _ _ hvs] at hl
        have hrun := run_bytesToString (P := P) w ⟨b, z, none⟩ es.length c _ hl
        rw [hfold] at hrun
        refine .pure hm (.str (unb es)) ?_
        rw [run_convert_bytes_string w src dst e _ _ _ he1 he2 (isStr_info hs), hrun]
        congr 2
        apply ByteArray.ext
        simp
    · cases h
  · cases h

theorem eqGuard_ok {op : BinOp} {t : TypeId} {x y : Operand} {A B : V} {u v : Value} {C : Prop} {r : V} (h : binV P op t A B = some (C, r)) (hA : Rep M A u) (hB : Rep M B v) : (eqGuard op t x y u v).run P w = .ok () w := by
  have hno : ¬ (u = .nilIface ∧ v = .nilIface) ∧ ¬ (∃ p q, u = .agg p ∧ v = .agg q) := by
    unfold binV at h
    split at h <;> first
      | (cases hA; refine ⟨?_, ?_⟩
         · rintro ⟨h1, h2⟩; cases h1
         · rintro ⟨p, q, h1, h2⟩; cases h1)
      | cases h
  unfold eqGuard
  repeat' split
  all_goals first
    | rfl
    | exact absurd ⟨rfl, rfl⟩ hno.1
    | exact absurd ⟨_, _, rfl, rfl⟩ hno.2

theorem ans_binOp {op : BinOp} {t : TypeId} {x y : Operand} {A B : V} {u v : Value} {C : Prop} {r : V} (hm : Mem E M G w) (h : binV P op t A B = some (C, r)) (hC : C) (hA : Rep M A u) (hB : Rep M B v) :
    Ans P E M G w (do eqGuard op t x y u v; binOp op t u v) r := by
  obtain ⟨z, hz, hr⟩ := run_binV (w := w) h hC hA hB
  refine .pure hm (hr M) ?_
  simp only [Sem.run_bind, eqGuard_ok h hA hB, Result.andThen_ok, hz]
theorem ans_makeInterface {t : TypeId} {X : V} {u : Value} (hm : Mem E M G w) (hr : Rep M X u) (hk : kindIs P t (fun d => !isIfaceT d) = true) : Ans P E M G w (Instr.makeInterface t u) (.iface t X) := by
  obtain ⟨d, hd, hk⟩ := kindIs_some hk
  refine .pure hm (.iface t X u hr) ?_
  simp only [Instr.makeInterface, Sem.run_bind, run_underlying hd, Result.andThen_ok]
  cases d <;> simp [isIfaceT] at hk <;> rfl
theorem ans_index_arr {t e : TypeId} {l : Nat} {cs : List V} {u : Value} {k : IntKind} {n : Int} (hm : Mem E M G w) (hr : Rep M (.agg cs) u) (ht : tarray P t = some (l, e, 1)) (hg : tagg P e = some false) (h0 : 0 ≤ n) (h1 : n < l) (hl : cs.length = l) :
    Ans P E M G w (Instr.index t u (.int k n)) (cs.getD n.toNat .any) := by
  obtain ⟨vs, rfl, hrl⟩ := hr.agg_inv
  obtain ⟨hu, hs⟩ := tarray_info ht
  obtain ⟨j, rfl⟩ := Int.eq_ofNat_of_zero_le h0
  have hj : j < cs.length := by omega
  obtain ⟨v, hv, hrv⟩ := run_part (P := P) (w := w) (t := e) (off := j * 1) (x := cs.getD j .any) hrl (by
    unfold cellsAt; simp only [hg, hs, Nat.mul_one]; simp [hj])
  refine .pure hm hrv ?_
  have h1' : (j : Int) < (l : Int) := h1
  simp only [Instr.index, asIntOf, Sem.run_bind, Sem.run_pure, Result.andThen_ok, run_underlying hu, run_sizeOf hs, Int.toNat_natCast]
  rw [if_pos ⟨h0, h1'⟩]
  simp only [Sem.run_bind, run_sizeOf hs, Result.andThen_ok, hv]
theorem run_min2 {k : IntKind} {x y : Int} : (Builtin.min2 (.int k x) (.int k y)).run P w = .ok (.int k (if y < x then y else x)) w := rfl
theorem run_max2 {k : IntKind} {x y : Int} : (Builtin.max2 (.int k x) (.int k y)).run P w = .ok (.int k (if y > x then y else x)) w := rfl

/-- An operation's answer, as the machine's step bears it. -/
theorem Ans.value {s : Sem Value} {x : V} {o : Oper} (h : Ans P E M G w s x) (he : execOp a.eval o = (do Pure.pure (.value (← s)))) :
    ∃ M' w' v, M.le M' ∧ Mem E M' G w' ∧ Rep M' x v ∧ (execOp a.eval o).run P w = .ok (.value v) w' := by
  obtain ⟨M', w', v, h1, h2, h3, h4⟩ := h
  exact ⟨M', w', v, h1, h2, h3, by rw [he]; simp only [Sem.run_bind, h4, Result.andThen_ok, Sem.run_pure]⟩

set_option maxHeartbeats 4000000 in
theorem qv_ok {o : Oper} {C : Prop} {x : V} (h : qv P f G o.op = some (C, x)) (hC : C) (hm : Mem E M G w) (hf : RepG M f a.tmps) :
    ∃ M' w' v, M.le M' ∧ Mem E M' G w' ∧ Rep M' x v ∧ (execOp a.eval o).run P w = .ok (.value v) w' := by
  obtain ⟨dst, op, ty, pos, after, guard⟩ := o
  simp only at h
  cases op <;> simp only [qv] at h <;> try (cases h; done)
  case move X =>
    split at h
    · rename_i y hy
      simp only [ok, Option.some.injEq, Prod.mk.injEq] at h
      obtain ⟨_, rfl⟩ := h
      exact ⟨M, w, _, M.le_refl, hm, ev_rep hf hy, rfl⟩
    · cases h
  case assign X =>
    split at h
    · rename_i y hy
      simp only [ok, Option.some.injEq, Prod.mk.injEq] at h
      obtain ⟨_, rfl⟩ := h
      exact ⟨M, w, _, M.le_refl, hm, ev_rep hf hy, rfl⟩
    · cases h
  case pick c p q =>
    split at h
    · rename_i t ht
      simp only [ok, Option.some.injEq, Prod.mk.injEq] at h
      obtain ⟨_, rfl⟩ := h
      have hc := (ev_rep hf ht).bool_inv
      refine ⟨M, w, _, M.le_refl, hm, pickV_rep (fun e => by subst e; exact unopt_rep (getD_rep hf)) (fun e => by subst e; exact unopt_rep (getD_rep hf)), ?_⟩
      simp only [execOp, hc, asBool, Sem.run_bind, Sem.run_pure, Result.andThen_ok]
    · cases h
  case nilCheck X =>
    split at h
    · rename_i b oo hx
      simp only [ok, Option.some.injEq, Prod.mk.injEq] at h
      obtain ⟨_, rfl⟩ := h
      have hc := ev_rep hf hx
      have := hc.ptr_inv
      refine ⟨M, w, _, M.le_refl, hm, hc, ?_⟩
      simp only [execOp, this]; rfl
    · rename_i cs oo hx
      simp only [ok, Option.some.injEq, Prod.mk.injEq] at h
      obtain ⟨_, rfl⟩ := h
      have hc := ev_rep hf hx
      obtain ⟨ad, he⟩ := lp_inv hc
      refine ⟨M, w, _, M.le_refl, hm, hc, ?_⟩
      simp only [execOp, he]; rfl
    · rename_i g xs ys hx
      simp only [ok, Option.some.injEq, Prod.mk.injEq] at h
      obtain ⟨_, rfl⟩ := h
      have hc := ev_rep hf hx
      obtain ⟨us, vs, he, _, _⟩ := func_inv hc
      refine ⟨M, w, _, M.le_refl, hm, hc, ?_⟩
      simp only [execOp, he]; rfl
    · cases h
  case binOp op t x y yt =>
    split at h
    · rename_i cs ds hx hy
      unfold eqS at h
      split at h
      · rename_i fs hfs
        split at h
        · rename_i r hr
          obtain ⟨⟨p, q, e1, e2⟩, hg, h1, h2⟩ := run_eqS (w := w) hfs hr (ev_rep hf hx) (ev_rep hf hy)
          have hgd : (eqGuard op t x y (a.eval x) (a.eval y)).run P w = .ok () w := by rw [e1, e2]; exact run_eqGuard_agg w op t x y p q hg
          cases op <;> simp only [ok, Option.some.injEq, Prod.mk.injEq, reduceCtorEq] at h <;> obtain ⟨_, rfl⟩ := h
          · exact (Ans.pure (s := do eqGuard .eql t x y (a.eval x) (a.eval y); binOp .eql t (a.eval x) (a.eval y)) hm (.bool r) (by simp only [Sem.run_bind, hgd, Result.andThen_ok, h1])).value rfl
          · exact (Ans.pure (s := do eqGuard .neq t x y (a.eval x) (a.eval y); binOp .neq t (a.eval x) (a.eval y)) hm (.bool (!r)) (by simp only [Sem.run_bind, hgd, Result.andThen_ok, h2])).value rfl
        · cases h
      · cases h
    · rename_i X Y _ hx hy
      exact (ans_binOp hm h hC (ev_rep hf hx) (ev_rep hf hy)).value rfl
    · cases h
  case unOp op t x =>
    split at h
    · rename_i k n hx
      have he := (ev_rep hf hx).int_inv
      cases op <;> simp only [ok, Option.some.injEq, Prod.mk.injEq, reduceCtorEq] at h <;> obtain ⟨_, rfl⟩ := h
      · exact (Ans.pure (s := Op.unary .neg (a.eval x)) hm (.int k _) (by rw [he]; rfl)).value rfl
      · exact (Ans.pure (s := Op.unary .xor (a.eval x)) hm (.int k _) (by rw [he]; rfl)).value rfl
    · rename_i b hx
      have he := (ev_rep hf hx).bool_inv
      cases op <;> simp only [ok, Option.some.injEq, Prod.mk.injEq, reduceCtorEq] at h <;> obtain ⟨_, rfl⟩ := h
      exact (Ans.pure (s := Op.unary .not (a.eval x)) hm (.bool _) (by rw [he]; rfl)).value rfl
    · cases h
  case convert src dst x =>
    split at h
    · rename_i X hx
      exact (ans_conv hm (ev_rep hf hx) h hC).value rfl
    · cases h
  case makeInterface t x =>
    split at h
    · rename_i X hx
      split at h
      · rename_i hk
        simp only [ok, Option.some.injEq, Prod.mk.injEq] at h
        obtain ⟨_, rfl⟩ := h
        exact (ans_makeInterface hm (ev_rep hf hx) hk).value rfl
      · cases h
    · cases h
  case makeFunc fn xs ys =>
    split at h
    · rename_i X Y hx hy
      simp only [ok, Option.some.injEq, Prod.mk.injEq] at h
      obtain ⟨_, rfl⟩ := h
      have h1 := evL_rep hf hx
      have h2 := evL_rep hf hy
      exact (Ans.pure (s := Instr.makeFunc fn (xs.map a.eval) (ys.map a.eval)) hm (RepL.func (by simpa using h1) (by simpa using h2)) rfl).value rfl
    · cases h
  case entry x =>
    split at h
    · rename_i X hx
      exact (ans_entry hm (ev_rep hf hx) h).value rfl
    · cases h
  case lookup t x k okk =>
    split at h
    · rename_i X K kt z hx hk ht
      split at h
      · rename_i hs
        exact (ans_lookup hm ht hs (ev_rep hf hk) (ev_rep hf hx) h).value rfl
      · cases h
    · cases h
  case slice t x lo hi mx =>
    split at h
    · rename_i k kv es nl tg kh hv hmx hx hlo hhi
      split at h
      · rename_i en ht
        simp only [Option.some.injEq, Prod.mk.injEq] at h
        obtain ⟨rfl, rfl⟩ := h
        obtain ⟨rfl, rfl⟩ := hC
        obtain rfl := evO_none hlo
        have e1 := evO_rep hf hmx
        have e2 := evO_rep hf hhi
        cases mx with
        | none => exact e1.elim
        | some mx =>
          cases hi with
          | none => exact e2.elim
          | some hi =>
            have e1 := Rep.int_inv (show Rep M (.int _ _) (a.eval mx) from e1)
            have e2 := Rep.int_inv (show Rep M (.int _ _) (a.eval hi) from e2)
            have := ans_slice_zero (k1 := kh) (k2 := k) hm (ev_rep hf hx) (e := en.1) (n := en.2) ht
            rw [← e1, ← e2] at this
            exact this.value rfl
      · cases h
    · rename_i s l hh hmx hx hlo hhi
      obtain rfl := evO_none hmx
      split at h
      · rename_i hs
        split at h
        · rename_i C' l' h' hb
          simp only [Option.some.injEq, Prod.mk.injEq] at h
          obtain ⟨rfl, rfl⟩ := h
          exact (ans_slice_str hm (ev_rep hf hx) hs hb hC (evO_rep hf hlo) (evO_rep hf hhi)).value rfl
        · cases h
      · cases h
    · rename_i es nl tg l hh hmx hx hlo hhi
      obtain rfl := evO_none hmx
      split at h
      · rename_i e n C' l' h' ht hb
        simp only [Option.some.injEq, Prod.mk.injEq] at h
        obtain ⟨rfl, rfl⟩ := h
        exact (ans_slice_sl hm (ev_rep hf hx) ht hb hC.1 hC.2 (evO_rep hf hlo) (evO_rep hf hhi)).value rfl
      · cases h
    · rename_i b o l0 cp kh hv hmx hx hlo hhi
      obtain rfl := evO_none hmx
      obtain rfl := evO_none hlo
      split at h
      · rename_i en ht
        simp only [Option.some.injEq, Prod.mk.injEq] at h
        obtain ⟨rfl, rfl⟩ := h
        have e2 := evO_rep hf hhi
        cases hi with
        | none => exact e2.elim
        | some hi =>
          have e2 := Rep.int_inv (show Rep M (.int _ _) (a.eval hi) from e2)
          have := ans_slice_ms (k := kh) hm (ev_rep hf hx) (e := en.1) (n := en.2) ht hC.1 hC.2
          rw [← e2] at this
          exact this.value rfl
      · cases h
    · rename_i m' b o len c l' h' hmx hx hlo hhi
      split at h
      · rename_i e n l2 h2 m2 ht hb
        simp only [Option.some.injEq, Prod.mk.injEq] at h
        obtain ⟨rfl, rfl⟩ := h
        exact (ans_slice_ms2 hm (ev_rep hf hx) ht hb hC (evO_rep hf hlo) (evO_rep hf hhi) (evO_rep hf hmx)).value rfl
      · cases h
    · cases h
  case fieldAddr s x i =>
    split at h
    · rename_i b oo off t n hx ht
      split at h
      · cases h
      · rename_i hn
        simp only [ok, Option.some.injEq, Prod.mk.injEq] at h
        obtain ⟨_, rfl⟩ := h
        exact (ans_fieldAt_ptr hm (ev_rep hf hx) ht hn).value rfl
    · rename_i cs oo off t n hx ht
      split at h
      · cases h
      · rename_i hn
        simp only [ok, Option.some.injEq, Prod.mk.injEq] at h
        obtain ⟨_, rfl⟩ := h
        exact (ans_fieldAt_lp hm (ev_rep hf hx) ht hn).value rfl
    · cases h
  case field s x i =>
    split at h
    · rename_i X hx
      exact (ans_field hm (ev_rep hf hx) h).value rfl
    · cases h
  case indexAddr t x i =>
    split at h
    · rename_i X k n hx hi
      have he := (ev_rep hf hi).int_inv
      exact (ans_indexAt (k := k) hm (ev_rep hf hx) h hC).value (by simp only [execOp, he])
    · cases h
  case index t x i =>
    split at h
    · rename_i s k n hx hi
      have he := (ev_rep hf hi).int_inv
      split at h
      · rename_i hs
        simp only [Option.some.injEq, Prod.mk.injEq] at h
        obtain ⟨rfl, rfl⟩ := h
        exact (ans_index_str (k := k) (ty := ty) hm (ev_rep hf hx) hs hC.1 hC.2).value (by simp only [execOp, he])
      · cases h
    · rename_i cs k n hx hi
      have he := (ev_rep hf hi).int_inv
      split at h
      · rename_i l e ht
        split at h
        · rename_i hg
          simp only [Option.some.injEq, Prod.mk.injEq] at h
          obtain ⟨rfl, rfl⟩ := h
          exact (ans_index_arr (k := k) hm (ev_rep hf hx) ht hg hC.1.1 hC.1.2 hC.2).value (by simp only [execOp, he])
        · cases h
      · cases h
    · cases h
  case extract x i =>
    split at h
    · rename_i xs hx
      split at h
      · rename_i X hX
        simp only [ok, Option.some.injEq, Prod.mk.injEq] at h
        obtain ⟨_, rfl⟩ := h
        exact (ans_extract (t := .any) hm (ev_rep hf hx) hX).value rfl
      · cases h
    · cases h
  case load t ad =>
    split at h
    · rename_i X hx
      split at h
      · rename_i Y hY
        simp only [ok, Option.some.injEq, Prod.mk.injEq] at h
        obtain ⟨_, rfl⟩ := h
        exact (ans_loadV hm (ev_rep hf hx) hY).value rfl
      · cases h
    · cases h
  case build t ps =>
    split at h
    · rename_i cs pl hz hp
      split at h
      · rename_i cs' hcs
        simp only [ok, Option.some.injEq, Prod.mk.injEq] at h
        obtain ⟨_, rfl⟩ := h
        exact (ans_build hm hf hz hp hcs).value rfl
      · cases h
    · cases h
  case buildSlice t len ps =>
    split at h
    · rename_i e n ht
      split at h
      · rename_i z hz
        split at h
        · rename_i hc
          simp only [Bool.and_eq_true, decide_eq_true_eq] at hc
          split at h
          · rename_i es hes
            simp only [ok, Option.some.injEq, Prod.mk.injEq] at h
            obtain ⟨_, rfl⟩ := h
            exact (ans_buildSlice hm hf ht hz hc.1.1 hc.1.2 hc.2 hes).value rfl
          · cases h
        · cases h
      · cases h
    · cases h
  case call c =>
    obtain ⟨callee, args, argTypes⟩ := c
    cases callee <;> simp only [reduceCtorEq] at h
    rename_i b
    split at h
    · rename_i x t ts hargs hts
      split at h
      · rename_i X hx
        have h1 : args = #[x] := by apply Array.ext'; simpa using hargs
        have h2 : argTypes = (t :: ts).toArray := by apply Array.ext'; simpa using hts
        subst h1; subst h2
        refine (ans_lenV (ty := ty) (ts := ts) hm (ev_rep hf hx) h).value ?_
        simp [execOp, resolve, invoke, builtin]
      · cases h
    · rename_i x t ts hargs hts
      split at h
      · rename_i X hx
        have h1 : args = #[x] := by apply Array.ext'; simpa using hargs
        have h2 : argTypes = (t :: ts).toArray := by apply Array.ext'; simpa using hts
        subst h1; subst h2
        refine (ans_capV (ty := ty) (ts := ts) hm (ev_rep hf hx) h).value ?_
        simp [execOp, resolve, invoke, builtin]
      · cases h
    · rename_i x y hargs
      split at h
      · rename_i k p k' q hx hy
        split at h
        · rename_i hk
          subst hk
          simp only [ok, Option.some.injEq, Prod.mk.injEq] at h
          obtain ⟨_, rfl⟩ := h
          have e1 := (ev_rep hf hx).int_inv
          have e2 := (ev_rep hf hy).int_inv
          have h1 : args = #[x, y] := by apply Array.ext'; simpa using hargs
          subst h1
          refine (Ans.pure (s := Builtin.min_ argTypes ty #[a.eval x, a.eval y]) hm (.int k _) ?_).value (by simp [execOp, resolve, invoke, builtin])
          rw [e1, e2]
          simp only [Builtin.min_, List.foldlM_cons, List.foldlM_nil, Sem.run_bind, run_min2, Result.andThen_ok, Sem.run_pure]
        · cases h
      · cases h
    · rename_i x y hargs
      split at h
      · rename_i k p k' q hx hy
        split at h
        · rename_i hk
          subst hk
          simp only [ok, Option.some.injEq, Prod.mk.injEq] at h
          obtain ⟨_, rfl⟩ := h
          have e1 := (ev_rep hf hx).int_inv
          have e2 := (ev_rep hf hy).int_inv
          have h1 : args = #[x, y] := by apply Array.ext'; simpa using hargs
          subst h1
          refine (Ans.pure (s := Builtin.max_ argTypes ty #[a.eval x, a.eval y]) hm (.int k _) ?_).value (by simp [execOp, resolve, invoke, builtin])
          rw [e1, e2]
          simp only [Builtin.max_, List.foldlM_cons, List.foldlM_nil, Sem.run_bind, run_max2, Result.andThen_ok, Sem.run_pure]
        · cases h
      · cases h
    · cases h
end
end Go.Proofs.YtclmcpbanaojfaaV

/-
  append, and make: what becomes of memory.
-/
namespace Go.Proofs.YtclmcpbanaojfaaV
open Go.RowKit
set_option linter.unusedVariables false
set_option linter.unusedSimpArgs false

def scalarV : V → Bool
  | .agg _ => false
  | .tup _ => false
  | .any => false
  | .opt _ _ => false
  | _ => true
theorem scalar_one {M : PM} {x : V} {v : Value} (h : scalarV x = true) (hr : Rep M x v) : v.oneCell' = true := by
  cases hr <;> first | rfl | (simp [scalarV] at h)
/-- No cell is a struct. -/
def sca (es : List (List V)) : Prop := ∀ e ∈ es, ∀ x ∈ e, scalarV x = true
@[simp] theorem sca_nil : sca [] = True := by simp [sca]
@[simp] theorem sca_cons (e : List V) (es : List (List V)) : sca (e :: es) = ((∀ x ∈ e, scalarV x = true) ∧ sca es) := by simp [sca]
@[simp] theorem sca_append (a b : List (List V)) : sca (a ++ b) = (sca a ∧ sca b) := by
  simp only [sca, List.mem_append, eq_iff_iff]
  exact ⟨fun h => ⟨fun e he => h e (.inl he), fun e he => h e (.inr he)⟩, fun h e he => he.elim (h.1 e) (h.2 e)⟩
@[simp] theorem sca_bytesV (l : List UInt8) : sca (bytesV l) = True := by simp [sca, bytesV, scalarV]
theorem sca_map {A : Type} {g : A → List V} (h : ∀ a, ∀ x ∈ g a, scalarV x = true) (l : List A) : sca (l.map g) := fun e he => by
  obtain ⟨x, _, rfl⟩ := List.mem_map.1 he; exact h x

/-- Cells from 'lo' on of block b are known from now on. -/
def PM.addR (M : PM) (b lo : Nat) (vs : List Value) : PM := fun b' o => if b' = b ∧ lo ≤ o ∧ o < lo + vs.length then vs[o - lo]? else M b' o
theorem PM.addR_in {M : PM} {b lo : Nat} {vs : List Value} {i : Nat} {v : Value} (h : vs[i]? = some v) : (M.addR b lo vs) b (lo + i) = some v := by
  have hi : i < vs.length := by
    rcases Nat.lt_or_ge i vs.length with q | q
    · exact q
    · rw [List.getElem?_eq_none q] at h; cases h
  unfold PM.addR
  rw [if_pos ⟨rfl, by omega, by omega⟩, Nat.add_sub_cancel_left]; exact h
theorem PM.le_addR {M : PM} {b lo : Nat} {vs : List Value} (h : ∀ o, lo ≤ o → M b o = none) : M.le (M.addR b lo vs) := by
  intro b' o v hv
  unfold PM.addR
  rw [if_neg]
  · exact hv
  · rintro ⟨rfl, h1, _⟩; rw [h o h1] at hv; cases hv

def tbytes (P : Program) (t : TypeId) : Option Nat := (P.info? t).map (·.bytes)

section
variable {P : Program} {E : Env} {M : PM} {G : Heap} {w : World}
/-- What is appended, as elements. -/
def srcV (P : Program) (t : TypeId) : V → Option (List (List V))
  | .sl ys _ _ => if kindIs P t isSliceT then some ys else none
  | .str s => if isStr P t then some (bytesV s) else none
  | _ => none
theorem src_ok {t : TypeId} {Y : V} {y : Value} {ys : List (List V)} {n : Nat} (hm : Mem E M G w) (hr : Rep M Y y) (h : srcV P t Y = some ys) (hw : wid n ys) (hs : sca ys) (hn : 0 < n) :
    ∃ news, RepL M ys.flatten news ∧ Src P n t y ys.length news w := by
  unfold srcV at h
  split at h
  · rename_i ys' nl tg
    split at h
    · rename_i hk
      cases h
      obtain ⟨d, hd, hk⟩ := kindIs_some hk
      cases d <;> simp [isSliceT] at hk
      rcases sl_cells hm hr with ⟨rfl, a0, c, rfl⟩ | ⟨b, z, c, sz, rfl, hc, _, he, hmem, _⟩
      · cases a0 with
        | none => exact ⟨[], RepL.nil, Src.ofNil w hd c⟩
        | some a0 => exact ⟨[], RepL.nil, Src.ofSlice w hd a0 0 c [] (by simp) (fun j u h => by simp at h) (fun u h => by simp at h)⟩
      · have hcells : CellsRep M w b z ys.flatten := by
          refine ⟨(List.range (ys.length * n)).map (fun i => ((w.cell? ⟨b, z + i, none⟩).getD undef)), ⟨by rw [flatten_length hw]; simp, fun i hi => ?_⟩, fun i v hv => ?_⟩
          · have hi' : i < ys.length * n := by rw [flatten_length hw] at hi; exact hi
            have hq : i / n < ys.length := by rw [Nat.div_lt_iff_lt_mul hn]; exact hi'
            have hr' : i % n < n := Nat.mod_lt _ hn
            obtain ⟨g, hg1, hg2⟩ := hmem (i / n) hq
            have hs1 : sz = n := by rw [← he _ hq]; exact hw _ (List.getElem_mem hq)
            subst hs1
            have h0 : i % sz < (ys[i / sz]).length := by rw [he _ hq]; exact hr'
            have hfl := flatten_get hw hq h0
            have hdm : i / sz * sz + i % sz = i := by rw [Nat.mul_comm]; exact Nat.div_add_mod i sz
            rw [hdm] at hfl
            have e1 : ys.flatten[i] = (ys[i / sz])[i % sz] := by
              rw [List.getElem?_eq_getElem hi] at hfl; exact Option.some.inj hfl
            have hm0 := hm.pm _ _ _ (hg1 (i % sz) hr')
            rw [Nat.add_assoc, hdm] at hm0
            rw [e1, List.getD_eq_getElem?_getD]
            simp only [List.getElem?_map, List.getElem?_range hi', Option.map_some, Option.getD_some, hm0]
            exact hg2 _ h0
          · rw [List.getElem?_map] at hv
            cases hq0 : (List.range (ys.length * n))[i]? with
            | none => rw [hq0] at hv; cases hv
            | some k =>
              obtain ⟨h1, h2⟩ := List.getElem?_eq_some_iff.1 hq0
              have hi' : i < ys.length * n := by simpa using h1
              have : k = i := by simpa using h2.symm
              subst this
              have hq : k / n < ys.length := by rw [Nat.div_lt_iff_lt_mul hn]; exact hi'
              have hr' : k % n < n := Nat.mod_lt _ hn
              obtain ⟨g, hg1, hg2⟩ := hmem (k / n) hq
              have hs1 : sz = n := by rw [← he _ hq]; exact hw _ (List.getElem_mem hq)
              subst hs1
              have hdm : k / sz * sz + k % sz = k := by rw [Nat.mul_comm]; exact Nat.div_add_mod k sz
              have hm0 := hm.pm _ _ _ (hg1 (k % sz) hr')
              rw [Nat.add_assoc, hdm] at hm0
              rw [hq0, Option.map_some, hm0] at hv
              simp only [Option.getD_some, Option.some.injEq] at hv
              rw [hm0, hv]
        obtain ⟨news, hrep, hcell⟩ := hcells
        refine ⟨news, hrep, Src.ofSlice w hd ⟨b, z, none⟩ ys.length c news (by rw [← hrep.1, flatten_length hw]) (fun j u hj => by rw [Addr.add_lit]; exact hcell j u hj) (fun u hu => ?_)⟩
        obtain ⟨i, hi, rfl⟩ := List.getElem_of_mem hu
        have hi2 : i < ys.flatten.length := by rw [hrep.1]; exact hi
        have hR := hrep.2 i hi2
        rw [List.getD_eq_getElem?_getD, List.getElem?_eq_getElem hi] at hR
        have hmem2 : ys.flatten[i] ∈ ys.flatten := List.getElem_mem hi2
        obtain ⟨e, he1, he2⟩ := List.mem_flatten.1 hmem2
        exact scalar_one (hs e he1 _ he2) hR
    · cases h
  · rename_i s
    obtain rfl := hr.str_inv
    split at h
    · rename_i hst
      cases h
      have h1 : n = 1 ∨ s = [] := by
        cases s with
        | nil => exact .inr rfl
        | cons b s => left; have := hw [V.int .u8 (b.toNat : Int)] (by simp [bytesV]); simpa using this.symm
      have hl : ∀ l : List UInt8, RepL M (bytesV l).flatten (l.map fun b => Value.int .u8 (b.toNat : Int)) := by
        intro l
        induction l with
        | nil => exact RepL.nil
        | cons b l ih => exact RepL.cons (.int .u8 _) ih
      have hsz : (ByteArray.mk s.toArray).size = s.length := by show s.toArray.size = _; simp
      rcases h1 with rfl | rfl
      · have := Src.ofString w (isStr_info hst) (ByteArray.mk s.toArray)
        rw [hsz] at this
        rw [length_bytesV]
        exact ⟨_, hl s, by simpa [byteCells] using this⟩
      · refine ⟨[], RepL.nil, ⟨.inr (isStr_info hst), fun _ => rfl, ?_, ?_, by simp [bytesV], fun _ h => by cases h⟩⟩ <;> simp [Builtin.firstCells, bytesV]
    · cases h
  · cases h

theorem oneCell_flat {ys : List (List V)} {news : List Value} (hs : sca ys) (hrep : RepL M ys.flatten news) : ∀ u ∈ news, u.oneCell' = true := by
  intro u hu
  obtain ⟨i, hi, rfl⟩ := List.getElem_of_mem hu
  have hi2 : i < ys.flatten.length := by rw [hrep.1]; exact hi
  have hR := hrep.2 i hi2
  rw [List.getD_eq_getElem?_getD, List.getElem?_eq_getElem hi] at hR
  obtain ⟨e, he1, he2⟩ := List.mem_flatten.1 (List.getElem_mem hi2)
  exact scalar_one (hs e he1 _ he2) hR
end
end Go.Proofs.YtclmcpbanaojfaaV

/-
  append: in place where there is room, or into a new row.
-/
namespace Go.Proofs.YtclmcpbanaojfaaV
open Go.RowKit
set_option linter.unusedVariables false
set_option linter.unusedSimpArgs false

section
variable {P : Program} {E : Env} {M : PM} {G : Heap} {w : World}
theorem heap_setCell_vars (w : World) {b : Nat} {arr : Array Value} {T : TypeId} {fr : Nat × Nat} (h : w.heap[b]? = some (.cells arr T fr)) (o : Nat) (v : Value) :
    (w.setCell ⟨b, o, none⟩ v).heap[b]? = some (.cells (arr.setIfInBounds o v) T fr) := by
  unfold World.setCell
  simp only [Array.getElem?_modify]
  rw [if_pos trivial, h]
  rfl
theorem heap_setCell_ne (w : World) {b b' : Nat} (h : b' ≠ b) (o : Nat) (v : Value) : (w.setCell ⟨b, o, none⟩ v).heap[b']? = w.heap[b']? := by
  unfold World.setCell
  simp only [Array.getElem?_modify]
  rw [if_neg (fun e => h e.symm)]
theorem setCells_below {B : Nat} : ∀ (vs : List Value) {w0 w : World} (b o : Nat), Below B w0 w → B ≤ b → Below B w0 (w.setCells b o vs)
  | [], w0, w, b, o, h, hB => h
  | v :: vs, w0, w, b, o, h, hB => setCells_below vs b (o + 1) (h.setCell (p := ⟨b, o, none⟩) hB v) hB
theorem setCells_ne : ∀ (vs : List Value) {w : World} {b b' : Nat} (o : Nat), b' ≠ b → (w.setCells b o vs).heap[b']? = w.heap[b']?
  | [], w, b, b', o, h => rfl
  | v :: vs, w, b, b', o, h => by
    show ((w.setCell ⟨b, o, none⟩ v).setCells b (o + 1) vs).heap[b']? = _
    rw [setCells_ne vs (o + 1) h, heap_setCell_ne w h]
theorem setCells_at : ∀ (vs : List Value) {w : World} {b : Nat} {arr : Array Value} {T : TypeId} {fr : Nat × Nat} (o : Nat), w.heap[b]? = some (.cells arr T fr) → o + vs.length ≤ arr.size →
    ∃ arr', (w.setCells b o vs).heap[b]? = some (.cells arr' T fr) ∧ arr'.size = arr.size ∧ (∀ (i : Nat) (v : Value), vs[i]? = some v → arr'[o + i]? = some v) ∧ ∀ (i : Nat), i < o ∨ o + vs.length ≤ i → arr'[i]? = arr[i]?
  | [], w, b, arr, T, fr, o, h, hs => ⟨arr, h, rfl, fun i v hv => by simp at hv, fun i _ => rfl⟩
  | v :: vs, w, b, arr, T, fr, o, h, hs => by
    simp only [List.length_cons] at hs
    obtain ⟨arr', h1, h2, h3, h4⟩ := setCells_at vs (o + 1) (heap_setCell_vars w h o v) (by simp; omega)
    refine ⟨arr', h1, by simpa using h2, fun i u hu => ?_, fun i hi => ?_⟩
    · cases i with
      | zero =>
        have := h4 o (.inl (by omega))
        rw [Nat.add_zero, this]
        simp at hu; subst hu
        rw [Array.getElem?_setIfInBounds]
        simp; omega
      | succ i =>
        have := h3 i u (by simpa using hu)
        rw [show o + (i + 1) = o + 1 + i by omega]; exact this
    · simp only [List.length_cons] at hi
      rw [h4 i (by omega), Array.getElem?_setIfInBounds_ne (by omega)]

/-- The memory behind an append in place. -/
theorem Mem.room (hm : Mem E M G w) {b e c : Nat} (hb : hget G b = some (.top e c)) {news : List Value} (hfit : e + news.length ≤ c) :
    M.le (M.addR b e news) ∧ Mem E (M.addR b e news) ((b, .top (e + news.length) c) :: hdel G b) (w.setCells b e news) := by
  obtain ⟨hB, arr, T, fr, h2, h3, h4, h5⟩ := hm.obj b _ hb
  have hle : M.le (M.addR b e news) := PM.le_addR h5
  obtain ⟨arr', k1, k2, k3, k4⟩ := setCells_at news e h2 (by omega)
  refine ⟨hle, setCells_below news b e hm.below hB, hm.base, fun b' o' u hu => ?_, fun b' ob hob => ?_⟩
  · unfold PM.addR at hu
    split at hu
    · rename_i hc
      obtain ⟨rfl, hc1, hc2⟩ := hc
      unfold World.cell?
      simp only [k1, Option.isSome_none, Bool.false_eq_true, if_false]
      have := k3 _ _ hu
      rwa [show e + (o' - e) = o' by omega] at this
    · rename_i hc
      have hold := hm.pm _ _ _ hu
      by_cases hbb : b' = b
      · subst hbb
        unfold World.cell? at hold ⊢
        simp only [h2, k1, Option.isSome_none, Bool.false_eq_true, if_false] at hold ⊢
        have hlt : o' < e := by
          rcases Nat.lt_or_ge o' e with q | q
          · exact q
          · rw [h5 o' q] at hu; cases hu
        rw [k4 o' (.inl hlt)]; exact hold
      · rw [World.cell?_of_block (w := w) (a := ⟨b', o', none⟩) (setCells_ne news e hbb)]; exact hold
  · rw [hget_cons] at hob
    by_cases hbb : b = b'
    · subst hbb
      rw [if_pos rfl] at hob
      cases hob
      refine ⟨hB, arr', T, fr, k1, by omega, fun i h1 h2 => h4 i (by omega) h2, fun o ho => ?_⟩
      unfold PM.addR
      rw [if_neg (by omega)]; exact h5 o (by omega)
    · rw [if_neg hbb] at hob
      obtain ⟨hne, hob⟩ := hget_hdel hob
      refine ⟨(hm.obj _ _ hob).1, ?_⟩
      have hok := ObjOk.grow (hm.obj _ _ hob).2 hle (fun i => by unfold PM.addR; rw [if_neg (by rintro ⟨q, _⟩; exact hne q)])
      have hk : ∀ (k : Nat), k ≠ b → (w.setCells b e news).heap[k]? = w.heap[k]? := fun k hk => setCells_ne news e hk
      cases ob with
      | vars cs' => obtain ⟨arr', T', fr', g1, r⟩ := hok; exact ⟨arr', T', fr', by rw [hk _ hne]; exact g1, r⟩
      | top e c => obtain ⟨arr', T', fr', g1, r⟩ := hok; exact ⟨arr', T', fr', by rw [hk _ hne]; exact g1, r⟩
      | map kvs => obtain ⟨es, ck, g1, r⟩ := hok; exact ⟨es, ck, by rw [hk _ hne]; exact g1, r⟩
      | siter s pos => show _ = _; rw [hk _ hne]; exact hok
      | miter m => obtain ⟨s1, s2, s3, g1⟩ := hok; exact ⟨s1, s2, s3, by rw [hk _ hne]; exact g1⟩
      | mapr kvs r todo cur => obtain ⟨es2, ck2, s1, s2, g1, g2, rr⟩ := hok; exact ⟨es2, ck2, s1, s2, by rw [hk _ hne]; exact g1, by rw [hk _ (fun e => by subst e; rw [h2] at g2; cases g2)]; exact g2, rr⟩

/-- The memory behind an append into a new row. -/
theorem Mem.grown (hm : Mem E M G w) {vs : List Value} {arr : Array Value} (T : TypeId) {c : Nat} (hvs : ∀ (i : Nat) (v : Value), vs[i]? = some v → arr[i]? = some v) (hc : c ≤ arr.size) (hlen : vs.length ≤ c) :
    M.le (M.addR w.heap.size 0 vs) ∧ hget G w.heap.size = none ∧ Mem E (M.addR w.heap.size 0 vs) ((w.heap.size, .top vs.length c) :: G) (w.drew.alloc (.cells arr T)) := by
  have hG : hget G w.heap.size = none := by
    cases hq : hget G w.heap.size with
    | none => rfl
    | some o => have := (hm.obj _ _ hq).2.lt; omega
  have hle : M.le (M.addR w.heap.size 0 vs) := PM.le_addR fun o _ => hm.none_new (Nat.le_refl _) o
  have ha := (hm.drew).alloc (.cells arr T)
  have hh : (w.drew.alloc (.cells arr T)).heap[w.heap.size]? = some (.cells arr T) := by show (w.heap.push _)[w.heap.size]? = _; simp
  refine ⟨hle, hG, ha.below, ha.base, fun b' o' u hu => ?_, fun b' ob hob => ?_⟩
  · unfold PM.addR at hu
    split at hu
    · rename_i hc
      obtain ⟨rfl, hc1, hc2⟩ := hc
      unfold World.cell?
      simp only [hh, Option.isSome_none, Bool.false_eq_true, if_false]
      exact hvs _ _ (by simpa using hu)
    · exact ha.pm _ _ _ hu
  · rw [hget_cons] at hob
    by_cases hbb : w.heap.size = b'
    · subst hbb
      rw [if_pos rfl] at hob
      cases hob
      refine ⟨hm.size, arr, T, (0, 0), hh, hc, fun i h1 h2 q => by omega, fun o ho => ?_⟩
      unfold PM.addR
      rw [if_neg (by omega)]; exact hm.none_new (Nat.le_refl _) o
    · rw [if_neg hbb] at hob
      exact ⟨(ha.obj _ _ hob).1, ObjOk.grow (ha.obj _ _ hob).2 hle (fun i => by unfold PM.addR; rw [if_neg (by rintro ⟨q, _⟩; exact hbb q.symm)])⟩

theorem append_nothing {tx ty rt e : TypeId} {n : Nat} {es : List (List V)} {nl : Bool} {t : Tag} {u y : Value} (hr : Rep M (.sl es nl t) u) (ht : tslice P tx = some (e, n)) (hs : Src P n ty y 0 [] w) :
    (Builtin.append_ #[tx, ty] rt #[u, y]).run P w = .ok u w := by
  obtain ⟨a, c, rfl, hc, hn⟩ := sl_inv hr
  obtain ⟨hu, hsz⟩ := tslice_info ht
  obtain ⟨i, hi, rfl⟩ := tsz_info hsz
  rcases hs.kind with ⟨e', hk⟩ | hk <;> cases a <;>
    simp [Builtin.append_, run_underlying hu, run_underlying hk, sizeOf, typeInfo, hi, hs.len, hc, hs.cells, storeCells]

theorem append_ok {tx ty rt e : TypeId} {n k : Nat} {es ys : List (List V)} {nl : Bool} {t : Tag} {u y : Value} {Y : V} {z : V} (hm : Mem E M G w) (hr : Rep M (.sl es nl t) u) (hy : Rep M Y y) (ht : tslice P tx = some (e, n)) (hsrc : srcV P ty Y = some ys)
    (hk : tbytes P e = some k) (hz : tzero P e = some z) (hzp : plainV z = true) (hzl : (cellsV z).length = n) (hn : 0 < n) (hwe : wid n es) (hwy : wid n ys) (hsy : sca ys) (hsize : (es.length + ys.length) * k ≤ 140737488355328) (hsize2 : es.length + ys.length ≤ 9223372036854775807)
    (htop : ys ≠ [] → match t with | .full => True | .top s b e c => s = n ∧ hget G b = some (.top e c) | .no => False) :
    ∃ M' w' v, M.le M' ∧ (Builtin.append_ #[tx, ty] rt #[u, y]).run P w = .ok v w' ∧
      ((ys = [] ∧ M' = M ∧ w' = w ∧ v = u) ∨
       (ys ≠ [] ∧ ∃ b' e' c', Rep M' (.sl (es ++ ys) false (.top n b' e' c')) v ∧
          ((hget G b' = none ∧ Mem E M' ((b', .top e' c') :: G) w') ∨ (∃ s e0, t = .top s b' e0 c' ∧ Mem E M' ((b', .top e' c') :: hdel G b') w')))) := by
  obtain ⟨news, hnews, hs⟩ := src_ok hm hy hsrc hwy hsy hn
  by_cases hnil : ys = []
  · subst hnil
    have hne : news = [] := List.eq_nil_of_length_eq_zero hnews.1.symm
    subst hne
    exact ⟨M, w, u, M.le_refl, append_nothing hr ht hs, .inl ⟨rfl, rfl, rfl, rfl⟩⟩
  · have htop' := htop hnil
    obtain ⟨hu, hsz⟩ := tslice_info ht
    obtain ⟨i, hi, hin⟩ := tsz_info hsz
    obtain ⟨i2, zv, hi2, hzv, hzr⟩ := tzero_info hz
    have : i2 = i := by rw [hi] at hi2; exact (Option.some.inj hi2).symm
    subst this
    have hbytes : i2.bytes = k := by unfold tbytes at hk; rw [hi] at hk; simpa using hk
    have hnl : news.length = ys.length * n := by rw [← hnews.1, flatten_length hwy]
    have hypos : 0 < ys.length := List.length_pos_iff.2 hnil
    cases hr with
    | sl es nl t a len cap sz g hl hc hnn hz0 hsp he hmm hrr htag =>
      subst hl
      have hflat : ∃ olds, RepL M es.flatten olds ∧ (∀ (j : Nat) (v : Value), olds[j]? = some v → ∃ ad, a = some ad ∧ M ad.block (ad.off + j) = some v) ∧ olds.length = es.length * n := by
        by_cases hes : es = []
        · subst hes
          exact ⟨[], RepL.nil, fun j v h => by simp at h, by simp⟩
        · have hszn : sz = n := by
            cases es with
            | nil => exact absurd rfl hes
            | cons e0 es => rw [← he 0 (by simp)]; exact hwe _ (by simp)
          subst hszn
          refine ⟨(List.range (es.length * sz)).map (fun i => g (i / sz) (i % sz)), ⟨by rw [flatten_length hwe]; simp, fun i hi => ?_⟩, fun j v hj => ?_, by simp⟩
          · have hi' : i < es.length * sz := by rw [flatten_length hwe] at hi; exact hi
            have hq : i / sz < es.length := by rw [Nat.div_lt_iff_lt_mul hn]; exact hi'
            have hr' : i % sz < sz := Nat.mod_lt _ hn
            have h0 : i % sz < (es[i / sz]).length := by rw [he _ hq]; exact hr'
            have hfl := flatten_get hwe hq h0
            have hdm : i / sz * sz + i % sz = i := by rw [Nat.mul_comm]; exact Nat.div_add_mod i sz
            rw [hdm] at hfl
            have e1 : es.flatten[i] = (es[i / sz])[i % sz] := by
              rw [List.getElem?_eq_getElem hi] at hfl; exact Option.some.inj hfl
            rw [e1, List.getD_eq_getElem?_getD]
            simp only [List.getElem?_map, List.getElem?_range hi', Option.map_some, Option.getD_some]
            exact hrr _ hq _ h0
          · rw [List.getElem?_map] at hj
            cases hq0 : (List.range (es.length * sz))[j]? with
            | none => rw [hq0] at hj; cases hj
            | some k =>
              obtain ⟨h1, h2⟩ := List.getElem?_eq_some_iff.1 hq0
              have hi' : j < es.length * sz := by simpa using h1
              have : k = j := by simpa using h2.symm
              subst this
              have hq : k / sz < es.length := by rw [Nat.div_lt_iff_lt_mul hn]; exact hi'
              have hr' : k % sz < sz := Nat.mod_lt _ hn
              cases a with
              | none =>
                have h0 : es.length = 0 := by have := hz0 rfl; omega
                rw [h0] at hq; exact absurd hq (Nat.not_lt_zero _)
              | some ad =>
                refine ⟨ad, rfl, ?_⟩
                have := hmm ad rfl _ hq _ hr'
                rw [show k / sz * sz + k % sz = k by rw [Nat.mul_comm]; exact Nat.div_add_mod k sz] at this
                rw [hq0] at hj
                simp only [Option.map_some, Option.some.injEq] at hj
                rw [this, hj]
      obtain ⟨olds, hold, holdm, holdl⟩ := hflat
      by_cases hroom : es.length + ys.length ≤ cap
      · -- in place
        have hneq : es.length ≠ cap := by omega
        cases t with
        | no => exact htop'.elim
        | full => exact absurd htag hneq
        | top s b e0 c0 =>
          obtain ⟨hs1, hg⟩ := htop'
          obtain ⟨hs2, ad, rfl, htag⟩ := htag
          rcases htag with htag | ⟨h3, h4, h5⟩
          · exact absurd htag hneq
          · have hads := hsp ad rfl (by omega)
            obtain ⟨ab, ao, asp⟩ := ad
            simp only at hads h3 h4 h5
            subst hads
            subst h3
            have hsn : sz = n := by omega
            subst hsn
            obtain ⟨hB, arr, T, fr, k1, k2, k3, k4⟩ := hm.obj _ _ hg
            have hfit : e0 + news.length ≤ c0 := by rw [hnl, ← h4, ← h5, Nat.add_assoc, ← Nat.add_mul]; exact Nat.add_le_add_left (Nat.mul_le_mul_right _ hroom) _
            have hcell : ∀ j, j < news.length → (w.cell? ⟨ab, ao + es.length * i2.size + j, none⟩).isSome = true := fun j hj => by
              rw [hin, h4]
              unfold World.cell?
              simp only [k1, Option.isSome_none, Bool.false_eq_true, if_false]
              rw [Array.getElem?_eq_getElem (by omega)]; rfl
            have hfz : ∀ j, j < news.length → w.frozen? ⟨ab, ao + es.length * i2.size + j, none⟩ = false := fun j hj => by
              rw [hin, h4]
              unfold World.frozen?
              simp only [k1]
              have := k3 (e0 + j) (by omega) (by omega)
              simp only [Bool.and_eq_false_iff, decide_eq_false_iff_not]
              by_cases q : fr.1 ≤ e0 + j
              · right; intro q2; exact this ⟨q, q2⟩
              · left; exact q
            have hrun := run_append_room_src (P := P) w tx ty rt e i2 hu hi ab ao es.length cap y ys.length news (by rw [hin]; exact hs) hroom hcell hfz
            rw [hin, h4] at hrun
            obtain ⟨q1, q2⟩ := hm.room hg hfit
            refine ⟨_, _, _, q1, hrun, .inr ⟨hnil, ab, e0 + news.length, c0, ?_, .inr ⟨s, e0, rfl, q2⟩⟩⟩
            have hl2 : RepL (M.addR ab e0 news) (es ++ ys).flatten (olds ++ news) := by
              rw [List.flatten_append]; exact (hold.mono q1).append (hnews.mono q1)
            have hw2 : ∀ e ∈ es ++ ys, e.length = sz := fun e he => by
              rcases List.mem_append.1 he with q | q
              · exact hwe e q
              · exact hwy e q
            have := rep_sl_of_flat (b := ab) (z := ao) (cap := cap) (t := .top sz ab (e0 + news.length) c0) hl2 hw2 (fun j v hj => by
              rw [List.getElem?_append] at hj
              split at hj
              · obtain ⟨ad', had, hmv⟩ := holdm j v hj
                cases had
                exact q1 _ _ _ hmv
              · rename_i hge
                have := PM.addR_in (M := M) (b := ab) (lo := e0) hj
                have e3 : e0 + (j - olds.length) = ao + j := by rw [holdl] at hge ⊢; rw [← h4]; clear this hj; omega
                rw [e3] at this
                exact this) (by simp; omega)
              ⟨rfl, _, rfl, .inr ⟨rfl, by show ao + (es ++ ys).length * sz = _; rw [List.length_append, Nat.add_mul, hnl]; omega, h5⟩⟩
            simpa using this
      · -- a new row
        have hzc := plainV_cells hzp (hzr M)
        have hzsz : zv.cells.size = n := by have := hzc.1; rw [hzl] at this; simpa using this.symm
        have hfirst : (Builtin.firstCells i2.size es.length (.slice a es.length cap)).run P w.drew = .ok olds.toArray w.drew := by
          cases a with
          | none =>
            have h0 := hz0 rfl
            have : olds = [] := List.eq_nil_of_length_eq_zero (by rw [holdl]; have : es.length = 0 := by omega
                                                                  rw [this]; simp)
            subst this
            exact run_firstCells_none w.drew _ _ _ _
          | some ad =>
            rcases Nat.eq_zero_or_pos cap with hc0 | hc0
            · have : olds = [] := List.eq_nil_of_length_eq_zero (by rw [holdl]; have : es.length = 0 := by omega
                                                                    rw [this]; simp)
              subst this
              exact run_firstCells_some w.drew i2.size es.length ad es.length cap [] (by rw [holdl, hin]) (fun j v hj => by simp at hj)
            have hads := hsp ad rfl hc0
            obtain ⟨ab, ao, asp⟩ := ad
            simp only at hads
            subst hads
            exact run_firstCells_some w.drew i2.size es.length ⟨ab, ao, none⟩ es.length cap olds (by rw [holdl, hin]) (fun j v hj => by
              obtain ⟨ad', had, hmv⟩ := holdm j v hj
              cases had
              rw [Addr.add_lit]
              exact hm.pm _ _ _ hmv)
        have hrun := run_append_grow_src (P := P) w tx ty rt e i2 zv hu hi hzv a es.length cap olds hfirst y ys.length news (by rw [hin]; exact hs) (by omega) (by omega) (growslice_fits (by omega) (by rw [hbytes]; exact hsize))
        have hcge := grownCap_ge w (es.length + ys.length) cap e
        have hvl : (olds ++ news).length = (es.length + ys.length) * n := by rw [List.length_append, holdl, hnl, Nat.add_mul]
        have hasz : ((olds ++ news).toArray ++ Builtin.zeroCells zv.cells (grownCap w (es.length + ys.length) cap e - (es.length + ys.length))).size = grownCap w (es.length + ys.length) cap e * n := by
          rw [Array.size_append, size_zeroCells, hzsz, List.size_toArray, hvl, ← Nat.add_mul]; congr 1; omega
        obtain ⟨q1, q2, q3⟩ := hm.grown (vs := olds ++ news) (arr := (olds ++ news).toArray ++ Builtin.zeroCells zv.cells (grownCap w (es.length + ys.length) cap e - (es.length + ys.length))) e (c := grownCap w (es.length + ys.length) cap e * n) (fun j v hj => by
          have hj2 : j < (olds ++ news).toArray.size := by
            rcases Nat.lt_or_ge j (olds ++ news).length with q | q
            · simpa using q
            · rw [List.getElem?_eq_none q] at hj; cases hj
          rw [Array.getElem?_append_left hj2]; simpa using hj) (by rw [hasz]; exact Nat.le_refl _) (by rw [hvl]; exact Nat.mul_le_mul_right _ hcge)
        refine ⟨_, _, _, q1, hrun, .inr ⟨hnil, w.heap.size, (olds ++ news).length, grownCap w (es.length + ys.length) cap e * n, ?_, .inl ⟨q2, q3⟩⟩⟩
        have hl2 : RepL (M.addR w.heap.size 0 (olds ++ news)) (es ++ ys).flatten (olds ++ news) := by
          rw [List.flatten_append]; exact (hold.mono q1).append (hnews.mono q1)
        have hw2 : ∀ e ∈ es ++ ys, e.length = n := fun e he => by
          rcases List.mem_append.1 he with q | q
          · exact hwe e q
          · exact hwy e q
        have := rep_sl_of_flat (b := w.heap.size) (z := 0) (cap := grownCap w (es.length + ys.length) cap e) (t := .top n w.heap.size (olds ++ news).length (grownCap w (es.length + ys.length) cap e * n)) hl2 hw2
          (fun j v hj => PM.addR_in hj) (by simpa using hcge) ⟨rfl, _, rfl, .inr ⟨rfl, by rw [hvl]; simp, by simp⟩⟩
        simpa using this
end
end Go.Proofs.YtclmcpbanaojfaaV
