/-
  Values without memory, and how they stand to the machine's values: the base of a small logic for calls.
-/
import Derived.Tactics
import Derived.Below
import Derived.Laws.World
import Derived.Laws.Append
import Derived.KernelRfl
import Derived.RowKit3
namespace Go.Proofs.YtomjghlaoncpbaaV
open Go.RowKit
set_option linter.unusedVariables false
set_option linter.unusedSimpArgs false

/-- What is known of the room behind a slice's elements. -/
inductive Tag where
  | no
  | full
  | top (s b e c : Nat)

/-- A value as a function of data: a slice IS its elements (each a list of cells); what is written lies in the heap. -/
inductive V where
  | any
  | bool (b : Bool)
  | int (k : IntKind) (n : Int)
  | str (s : List UInt8)
  | nilp
  | ptr (b o : Nat)
  | lp (cs : List V) (o : Nat)
  | sl (es : List (List V)) (nl : Bool) (t : Tag)
  | ms (b o len cap : Nat)
  | nilm
  | map (b : Nat)
  | func (fn : Fn) (first captured : List V)
  | nilf
  | iface (t : TypeId) (v : V)
  | nili
  | agg (cs : List V)
  | tup (vs : List V)
  | opt (b : Bool) (x : V)

/-- Memory that never turns any more. -/
abbrev PM := Nat → Nat → Option Value
def PM.le (M M' : PM) : Prop := ∀ b o v, M b o = some v → M' b o = some v
theorem PM.le_refl (M : PM) : M.le M := fun _ _ _ h => h
theorem PM.le_trans {A B C : PM} (h : A.le B) (k : B.le C) : A.le C := fun b o v x => k b o v (h b o v x)

def TagOk (t : Tag) (a : Option Addr) (len cap sz : Nat) : Prop :=
  match t with
  | .no => True
  | .full => len = cap
  | .top s b e c => s = sz ∧ ∃ ad, a = some ad ∧ (len = cap ∨ (ad.block = b ∧ ad.off + len * sz = e ∧ ad.off + cap * sz = c))

inductive Rep (M : PM) : V → Value → Prop
  | any (v : Value) : Rep M .any v
  | bool (b : Bool) : Rep M (.bool b) (.bool b)
  | int (k : IntKind) (n : Int) : Rep M (.int k n) (.int k n)
  | str (s : List UInt8) : Rep M (.str s) (.string ⟨s.toArray⟩)
  | nilp : Rep M .nilp (.pointer none)
  | ptr (b o : Nat) : Rep M (.ptr b o) (.pointer (some ⟨b, o, none⟩))
  | lp (cs : List V) (o b z : Nat) (g : Nat → Value) (hm : ∀ i, i < cs.length → M b (z + i) = some (g i))
      (hr : ∀ i (h : i < cs.length), Rep M cs[i] (g i)) : Rep M (.lp cs o) (.pointer (some ⟨b, z + o, none⟩))
  | sl (es : List (List V)) (nl : Bool) (t : Tag) (a : Option Addr) (len cap sz : Nat) (g : Nat → Nat → Value)
      (hl : len = es.length) (hc : len ≤ cap) (hn : nl = a.isNone) (hz : a = none → cap = 0) (hs : ∀ ad, a = some ad → 0 < cap → ad.spot = none)
      (he : ∀ i (h : i < es.length), (es[i]).length = sz)
      (hm : ∀ ad, a = some ad → ∀ i, i < es.length → ∀ j, j < sz → M ad.block (ad.off + (i * sz + j)) = some (g i j))
      (hr : ∀ i (h : i < es.length) j (k : j < (es[i]).length), Rep M (es[i])[j] (g i j))
      (ht : TagOk t a len cap sz) : Rep M (.sl es nl t) (.slice a len cap)
  | ms (b o len cap : Nat) (hc : len ≤ cap) : Rep M (.ms b o len cap) (.slice (some ⟨b, o, none⟩) len cap)
  | nilm : Rep M .nilm (.map none)
  | map (b : Nat) : Rep M (.map b) (.map (some b))
  | func (fn : Fn) (xs ys : List V) (us vs : Array Value) (h1 : us.size = xs.length) (h2 : vs.size = ys.length)
      (r1 : ∀ i (h : i < xs.length), Rep M xs[i] (us.getD i undef)) (r2 : ∀ i (h : i < ys.length), Rep M ys[i] (vs.getD i undef)) : Rep M (.func fn xs ys) (.func fn us vs)
  | nilf : Rep M .nilf .nilFunc
  | iface (t : TypeId) (x : V) (v : Value) (h : Rep M x v) : Rep M (.iface t x) (.iface t v)
  | nili : Rep M .nili .nilIface
  | agg (cs : List V) (vs : Array Value) (h : vs.size = cs.length) (r : ∀ i (h : i < cs.length), Rep M cs[i] (vs.getD i undef)) : Rep M (.agg cs) (.agg vs)
  | tup (cs : List V) (vs : Array Value) (h : vs.size = cs.length) (r : ∀ i (h : i < cs.length), Rep M cs[i] (vs.getD i undef)) : Rep M (.tup cs) (.tuple vs)
  | optT (x : V) (v : Value) (h : Rep M x v) : Rep M (.opt true x) v
  | optF (x : V) : Rep M (.opt false x) undef

theorem Rep.mono {M M' : PM} {x : V} {v : Value} (h : Rep M x v) (hM : M.le M') : Rep M' x v := by
  induction h with
  | any v => exact .any v
  | bool b => exact .bool b
  | int k n => exact .int k n
  | str s => exact .str s
  | nilp => exact .nilp
  | ptr b o => exact .ptr b o
  | lp cs o b z g hm hr ih => exact .lp cs o b z g (fun i h => hM _ _ _ (hm i h)) ih
  | sl es nl t a len cap sz g hl hc hn hz hs he hm hr ht ih => exact .sl es nl t a len cap sz g hl hc hn hz hs he (fun ad ha i hi j hj => hM _ _ _ (hm ad ha i hi j hj)) ih ht
  | ms b o len cap hc => exact .ms b o len cap hc
  | nilm => exact .nilm
  | map b => exact .map b
  | func fn xs ys us vs h1 h2 r1 r2 i1 i2 => exact .func fn xs ys us vs h1 h2 i1 i2
  | nilf => exact .nilf
  | iface t x v h ih => exact .iface t x v ih
  | nili => exact .nili
  | agg cs vs h r ih => exact .agg cs vs h ih
  | tup cs vs h r ih => exact .tup cs vs h ih
  | optT x v h ih => exact .optT x v ih
  | optF x => exact .optF x

/-- What is known of the room may be forgotten. -/
theorem Rep.untag {M : PM} {es : List (List V)} {nl : Bool} {t : Tag} {v : Value} (h : Rep M (.sl es nl t) v) : Rep M (.sl es nl .no) v := by
  cases h with
  | sl es nl t a len cap sz g hl hc hn hz hs he hm hr ht => exact .sl es nl .no a len cap sz g hl hc hn hz hs he hm hr trivial

/-- A list of values, cell by cell. -/
def RepL (M : PM) (cs : List V) (vs : List Value) : Prop := cs.length = vs.length ∧ ∀ i (h : i < cs.length), Rep M cs[i] (vs.getD i undef)
theorem RepL.nil {M : PM} : RepL M [] [] := ⟨rfl, fun i h => absurd h (by simp)⟩
theorem RepL.cons {M : PM} {c : V} {v : Value} {cs : List V} {vs : List Value} (h : Rep M c v) (k : RepL M cs vs) : RepL M (c :: cs) (v :: vs) := by
  refine ⟨by simp [k.1], fun i hi => ?_⟩
  cases i with
  | zero => exact h
  | succ i => exact k.2 i (by simpa using hi)
theorem RepL.head {M : PM} {c : V} {v : Value} {cs : List V} {vs : List Value} (h : RepL M (c :: cs) (v :: vs)) : Rep M c v := h.2 0 (by simp)
theorem RepL.tail {M : PM} {c : V} {v : Value} {cs : List V} {vs : List Value} (h : RepL M (c :: cs) (v :: vs)) : RepL M cs vs :=
  ⟨by simpa using h.1, fun i hi => h.2 (i + 1) (by simpa using hi)⟩
theorem RepL.mono {M M' : PM} {cs : List V} {vs : List Value} (h : RepL M cs vs) (hM : M.le M') : RepL M' cs vs := ⟨h.1, fun i hi => (h.2 i hi).mono hM⟩
theorem RepL.append {M : PM} {a b : List V} {x y : List Value} (h : RepL M a x) (k : RepL M b y) : RepL M (a ++ b) (x ++ y) := by
  refine ⟨by simp [h.1, k.1], fun i hi => ?_⟩
  rw [List.getD_eq_getElem?_getD]
  by_cases hlt : i < a.length
  · rw [List.getElem_append_left hlt, List.getElem?_append_left (by rw [← h.1]; exact hlt), ← List.getD_eq_getElem?_getD]; exact h.2 i hlt
  · have hge : a.length ≤ i := by omega
    rw [List.getElem_append_right hge, List.getElem?_append_right (by rw [← h.1]; exact hge), ← List.getD_eq_getElem?_getD, ← h.1]
    exact k.2 (i - a.length) (by simp at hi; omega)
theorem RepL.get {M : PM} {cs : List V} {vs : List Value} (h : RepL M cs vs) {i : Nat} {c : V} (hc : cs[i]? = some c) : ∃ v, vs[i]? = some v ∧ Rep M c v := by
  obtain ⟨hi, rfl⟩ := List.getElem?_eq_some_iff.1 hc
  have hi' : i < vs.length := by rw [← h.1]; exact hi
  have := h.2 i hi
  exact ⟨vs[i], List.getElem?_eq_getElem hi', by rw [List.getD_eq_getElem?_getD, List.getElem?_eq_getElem hi'] at this; exact this⟩
theorem RepL.drop {M : PM} {cs : List V} {vs : List Value} (h : RepL M cs vs) (n : Nat) : RepL M (cs.drop n) (vs.drop n) := by
  refine ⟨by simp [h.1], fun i hi => ?_⟩
  have := h.2 (n + i) (by simp at hi; omega)
  rw [List.getD_eq_getElem?_getD] at this ⊢
  rw [List.getElem?_drop, List.getElem_drop]; exact this
theorem RepL.take {M : PM} {cs : List V} {vs : List Value} (h : RepL M cs vs) (n : Nat) : RepL M (cs.take n) (vs.take n) := by
  refine ⟨by simp [h.1], fun i hi => ?_⟩
  have hi' : i < n ∧ i < cs.length := by simp at hi; omega
  have := h.2 i hi'.2
  rw [List.getD_eq_getElem?_getD] at this ⊢
  rw [List.getElem?_take_of_lt hi'.1, List.getElem_take]; exact this
theorem RepL.set {M : PM} {cs : List V} {vs : List Value} (h : RepL M cs vs) (i : Nat) {c : V} {v : Value} (k : Rep M c v) : RepL M (cs.set i c) (vs.set i v) := by
  refine ⟨by simp [h.1], fun j hj => ?_⟩
  have hj' : j < cs.length := by simpa using hj
  rw [List.getD_eq_getElem?_getD, List.getElem_set]
  by_cases e : i = j
  · subst e; rw [if_pos rfl, List.getElem?_set_self (by rw [← h.1]; exact hj')]; exact k
  · rw [if_neg e, List.getElem?_set_ne e]
    have := h.2 j hj'
    rw [List.getD_eq_getElem?_getD] at this; exact this

/-! ### the heap of what may be written -/
inductive AObj where
  | vars (cs : List V)
  | top (e c : Nat)
  | map (kvs : List (V × V))
  | siter (s : ByteArray) (pos : Nat)
  | miter (m : Nat) (todo : List Nat)

abbrev Heap := List (Nat × AObj)
def hget : Heap → Nat → Option AObj
  | [], _ => none
  | (k, o) :: G, b => if k = b then some o else hget G b
def hset : Heap → Nat → AObj → Heap
  | [], _, _ => []
  | (k, o) :: G, b, x => if k = b then (k, x) :: G else (k, o) :: hset G b x
def hdel : Heap → Nat → Heap
  | [], _ => []
  | (k, o) :: G, b => if k = b then hdel G b else (k, o) :: hdel G b
theorem hget_cons (k : Nat) (o : AObj) (G : Heap) (b : Nat) : hget ((k, o) :: G) b = if k = b then some o else hget G b := rfl
theorem hget_self (k : Nat) (o : AObj) (G : Heap) : hget ((k, o) :: G) k = some o := by simp [hget]
theorem hget_hset {G : Heap} {b b' : Nat} {x o : AObj} (h : hget (hset G b x) b' = some o) : (b' = b ∧ o = x) ∨ (b' ≠ b ∧ hget G b' = some o) := by
  induction G with
  | nil => simp [hset, hget] at h
  | cons p G ih =>
    obtain ⟨k, u⟩ := p
    simp only [hset] at h
    by_cases e : k = b
    · subst e
      rw [if_pos rfl] at h
      simp only [hget] at h ⊢
      by_cases e' : k = b'
      · subst e'; simp at h; exact .inl ⟨rfl, h.symm⟩
      · rw [if_neg e'] at h ⊢; exact .inr ⟨fun q => e' q.symm, h⟩
    · rw [if_neg e] at h
      simp only [hget] at h ⊢
      by_cases e' : k = b'
      · subst e'; rw [if_pos rfl] at h ⊢; exact .inr ⟨fun q => e q, h⟩
      · rw [if_neg e'] at h ⊢; exact ih h
theorem hget_hdel {G : Heap} {b b' : Nat} {o : AObj} (h : hget (hdel G b) b' = some o) : b' ≠ b ∧ hget G b' = some o := by
  induction G with
  | nil => simp [hdel, hget] at h
  | cons p G ih =>
    obtain ⟨k, u⟩ := p
    simp only [hdel] at h
    by_cases e : k = b
    · subst e
      rw [if_pos rfl] at h
      obtain ⟨h1, h2⟩ := ih h
      exact ⟨h1, by simp only [hget]; rw [if_neg (fun q => h1 q.symm)]; exact h2⟩
    · rw [if_neg e] at h
      simp only [hget] at h ⊢
      by_cases e' : k = b'
      · subst e'; rw [if_pos rfl] at h ⊢; exact ⟨e, h⟩
      · rw [if_neg e'] at h ⊢; exact ih h

structure Env where
  B : Nat
  w0 : World

def unfrozen (fr : Nat × Nat) (lo hi : Nat) : Prop := ∀ i, lo ≤ i → i < hi → ¬ (fr.1 ≤ i ∧ i < fr.2)

def ObjOk (M : PM) (w : World) (b : Nat) : AObj → Prop
  | .vars cs => ∃ arr T fr, w.heap[b]? = some (.cells arr T fr) ∧ cs.length ≤ arr.size ∧ (∀ i (h : i < cs.length), Rep M cs[i] (arr.getD i undef)) ∧ unfrozen fr 0 cs.length ∧ ∀ o, M b o = none
  | .top e c => ∃ arr T fr, w.heap[b]? = some (.cells arr T fr) ∧ c ≤ arr.size ∧ unfrozen fr e c ∧ ∀ o, e ≤ o → M b o = none
  | .map kvs => ∃ es clock, w.heap[b]? = some (.map es clock) ∧ es.size = kvs.length ∧ (∀ i (h : i < kvs.length), Rep M (kvs[i]).1 (es.getD i default).key ∧ Rep M (kvs[i]).2 (es.getD i default).val) ∧
      (∀ i j, i < es.size → j < es.size → (es.getD i default).born = (es.getD j default).born → i = j) ∧ ∀ i, i < es.size → (es.getD i default).born < clock
  | .siter s pos => w.heap[b]? = some (.stringIter s pos)
  | .miter m todo => ∃ since seen stepped, w.heap[b]? = some (.mapIter (some m) since seen stepped)

structure Mem (E : Env) (M : PM) (G : Heap) (w : World) : Prop where
  below : Below E.B E.w0 w
  base : E.B ≤ E.w0.heap.size
  pm : ∀ b o v, M b o = some v → w.cell? ⟨b, o, none⟩ = some v
  obj : ∀ b o, hget G b = some o → E.B ≤ b ∧ ObjOk M w b o

theorem Mem.size {E : Env} {M : PM} {G : Heap} {w : World} (h : Mem E M G w) : E.B ≤ w.heap.size := Nat.le_trans h.base h.below.size
/-- Fewer objects are known. -/
theorem Mem.sub {E : Env} {M : PM} {G G' : Heap} {w : World} (h : Mem E M G w) (hs : ∀ b o, hget G' b = some o → hget G b = some o) : Mem E M G' w :=
  ⟨h.below, h.base, h.pm, fun b o k => h.obj b o (hs b o k)⟩
theorem ObjOk.blocks {M : PM} {w w' : World} {b : Nat} {o : AObj} (h : ObjOk M w b o) (hb : ∀ (k : Nat) (x : Obj), w.heap[k]? = some x → w'.heap[k]? = some x) : ObjOk M w' b o := by
  cases o with
  | vars cs => obtain ⟨arr, T, fr, h1, r⟩ := h; exact ⟨arr, T, fr, hb _ _ h1, r⟩
  | top e c => obtain ⟨arr, T, fr, h1, r⟩ := h; exact ⟨arr, T, fr, hb _ _ h1, r⟩
  | map kvs => obtain ⟨es, ck, h1, r⟩ := h; exact ⟨es, ck, hb _ _ h1, r⟩
  | siter s pos => exact hb _ _ h
  | miter m todo => obtain ⟨s1, s2, s3, h1⟩ := h; exact ⟨s1, s2, s3, hb _ _ h1⟩
/-- The world went on, and no block that lay turned. -/
theorem Mem.blocks {E : Env} {M : PM} {G : Heap} {w w' : World} (h : Mem E M G w) (hb : Below w.heap.size w w') : Mem E M G w' := by
  have hk : ∀ (k : Nat) (x : Obj), w.heap[k]? = some x → w'.heap[k]? = some x := fun k x hx => by
    have : k < w.heap.size := by
      rcases Nat.lt_or_ge k w.heap.size with q | q
      · exact q
      · rw [Array.getElem?_eq_none q] at hx; cases hx
    rw [hb.block k this]; exact hx
  refine ⟨h.below.trans (hb.mono h.size), h.base, fun b o v hv => ?_, fun b o ho => ⟨(h.obj b o ho).1, ObjOk.blocks (h.obj b o ho).2 hk⟩⟩
  have := h.pm b o v hv
  rw [hb.cell (p := ⟨b, o, none⟩) (World.block_lt_of_cell? (w := w) (a := ⟨b, o, none⟩) this)]; exact this
theorem Mem.drew {E : Env} {M : PM} {G : Heap} {w : World} (h : Mem E M G w) : Mem E M G w.drew := h.blocks ((Below.refl _ _).drew)
theorem Mem.alloc {E : Env} {M : PM} {G : Heap} {w : World} (h : Mem E M G w) (o : Obj) : Mem E M G (w.alloc o) := h.blocks ((Below.refl _ _).alloc (Nat.le_refl _) o)

/-! ### frames -/
abbrev Frame := List (Nat × V)
def fget : Frame → Nat → Option V
  | [], _ => none
  | (k, v) :: f, i => if k = i then some v else fget f i
def fput (f : Frame) (d : Option Tmp) (v : V) : Frame := match d with | some i => (i, v) :: f | none => f
def fkeep (f : Frame) : List Nat → Frame
  | [] => []
  | k :: ks => match fget f k with | some v => (k, v) :: fkeep f ks | none => fkeep f ks
/-- A frame as a function. -/
abbrev FF := Nat → Option V
def upd (f : FF) (d : Option Tmp) (v : V) : FF := match d with | some i => fun j => if i = j then some v else f j | none => f
def RepG (M : PM) (f : FF) (t : Array Value) : Prop := ∀ i v, f i = some v → i < t.size ∧ Rep M v (t.getD i undef)
theorem RepG.mono {M M' : PM} {f : FF} {t : Array Value} (h : RepG M f t) (hM : M.le M') : RepG M' f t := fun i v k => ⟨(h i v k).1, (h i v k).2.mono hM⟩
abbrev RepF (M : PM) (f : Frame) (t : Array Value) : Prop := RepG M (fget f) t
theorem fget_fput (f : Frame) (d : Option Tmp) (v : V) : fget (fput f d v) = upd (fget f) d v := by
  cases d <;> rfl
theorem RepG.sub {M : PM} {f f' : FF} {t : Array Value} (h : RepG M f t) (hs : ∀ i v, f' i = some v → f i = some v) : RepG M f' t := fun i v k => h i v (hs i v k)
theorem fkeep_sub (f : Frame) : ∀ (ks : List Nat) (i : Nat) (v : V), fget (fkeep f ks) i = some v → fget f i = some v
  | [], i, v, h => by simp [fkeep, fget] at h
  | k :: ks, i, v, h => by
    simp only [fkeep] at h
    split at h
    · rename_i u hu
      simp only [fget] at h
      by_cases e : k = i
      · subst e; rw [if_pos rfl] at h; rw [hu]; exact h
      · rw [if_neg e] at h; exact fkeep_sub f ks i v h
    · exact fkeep_sub f ks i v h
theorem RepG.put {M : PM} {f : FF} {t : Array Value} (h : RepG M f t) {d : Nat} (hd : d < t.size) {x : V} {v : Value} (hx : Rep M x v) : RepG M (upd f (some d) x) (t.setIfInBounds d v) := by
  intro i u k
  simp only [upd] at k
  by_cases e : d = i
  · subst e
    rw [if_pos rfl] at k; cases k
    refine ⟨by simpa using hd, ?_⟩
    simpa [Array.getD_eq_getD_getElem?, Array.getElem?_setIfInBounds, hd] using hx
  · rw [if_neg e] at k
    refine ⟨by simpa using (h i u k).1, ?_⟩
    have := (h i u k).2
    simpa [Array.getD_eq_getD_getElem?, Array.getElem?_setIfInBounds, e] using this
end Go.Proofs.YtomjghlaoncpbaaV
