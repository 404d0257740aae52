/-
  What an operation that writes nothing answers: reads of memory, literals, conversions.
-/
import Derived.Test.YtomjghlaoncpbaaVd
namespace Go.Proofs.YtomjghlaoncpbaaV
open Go.RowKit
set_option linter.unusedVariables false
set_option linter.unusedSimpArgs false

/-! ### new memory that never turns -/
def PM.add (M : PM) (b : Nat) (arr : Array Value) : PM := fun b' o => if b' = b then arr[o]? else M b' o
theorem Mem.none_new {E : Env} {M : PM} {G : Heap} {w : World} (h : Mem E M G w) {b : Nat} (hb : w.heap.size ≤ b) (o : Nat) : M b o = none := by
  cases hq : M b o with
  | none => rfl
  | some v =>
    have := World.block_lt_of_cell? (w := w) (a := ⟨b, o, none⟩) (h.pm _ _ _ hq)
    simp at this; omega
theorem Mem.le_add {E : Env} {M : PM} {G : Heap} {w : World} (h : Mem E M G w) (arr : Array Value) : M.le (M.add w.heap.size arr) := by
  intro b o v hv
  unfold PM.add
  rw [if_neg]
  · exact hv
  · intro e
    rw [h.none_new (b := b) (by omega)] at hv; cases hv
theorem ObjOk.lt {M : PM} {w : World} {b : Nat} {o : AObj} (h : ObjOk M w b o) : b < w.heap.size := by
  have key : ∀ x : Obj, w.heap[b]? = some x → b < w.heap.size := fun x hx => by
    rcases Nat.lt_or_ge b w.heap.size with q | q
    · exact q
    · rw [Array.getElem?_eq_none q] at hx; cases hx
  cases o with
  | vars cs => obtain ⟨arr, T, fr, h1, r⟩ := h; exact key _ h1
  | top e c => obtain ⟨arr, T, fr, h1, r⟩ := h; exact key _ h1
  | map kvs => obtain ⟨es, ck, h1, r⟩ := h; exact key _ h1
  | siter s pos => exact key _ h
  | miter m todo => obtain ⟨s1, s2, s3, h1⟩ := h; exact key _ h1
/-- The memory that is known grows, apart from what may be written. -/
theorem ObjOk.grow {M M' : PM} {w : World} {b : Nat} {o : AObj} (h : ObjOk M w b o) (hM : M.le M') (hn : ∀ i, M' b i = M b i) : ObjOk M' w b o := by
  cases o with
  | vars cs => obtain ⟨arr, T, fr, h1, h2, h3, h4, h5⟩ := h; exact ⟨arr, T, fr, h1, h2, fun i hi => (h3 i hi).mono hM, h4, fun o => by rw [hn]; exact h5 o⟩
  | top e c => obtain ⟨arr, T, fr, h1, h2, h3, h4⟩ := h; exact ⟨arr, T, fr, h1, h2, h3, fun o ho => by rw [hn]; exact h4 o ho⟩
  | map kvs => obtain ⟨es, ck, h1, h2, h3, h4⟩ := h; exact ⟨es, ck, h1, h2, fun i hi => ⟨(h3 i hi).1.mono hM, (h3 i hi).2.mono hM⟩, h4⟩
  | siter s pos => exact h
  | miter m todo => exact h
theorem Mem.lit {E : Env} {M : PM} {G : Heap} {w : World} (h : Mem E M G w) (arr : Array Value) (T : TypeId) (fr : Nat × Nat) : Mem E (M.add w.heap.size arr) G (w.alloc (.cells arr T fr)) := by
  have ha := h.alloc (.cells arr T fr)
  refine ⟨ha.below, ha.base, fun b o v hv => ?_, fun b o ho => ⟨(ha.obj b o ho).1, ?_⟩⟩
  · unfold PM.add at hv
    by_cases e : b = w.heap.size
    · subst e
      rw [if_pos rfl] at hv
      have hh : (w.alloc (.cells arr T fr)).heap[w.heap.size]? = some (.cells arr T fr) := by show (w.heap.push _)[w.heap.size]? = _; simp
      unfold World.cell?
      simp only [hh, Option.isSome_none, Bool.false_eq_true, if_false]
      exact hv
    · rw [if_neg e] at hv; exact ha.pm _ _ _ hv
  · have hlt := (h.obj b o ho).2.lt
    exact ObjOk.grow (ha.obj b o ho).2 (h.le_add arr) (fun i => by unfold PM.add; rw [if_neg (by omega)])

/-! ### the types' facts -/
def tfield (P : Program) (s : TypeId) (i : Nat) : Option (Nat × TypeId × Nat) :=
  match P.underlying s with
  | some (.struct fs) => match fs[i]? with
    | some fd => match tsz P fd.type with | some n => some (fd.offset, fd.type, n) | none => none
    | none => none
  | _ => none
def tslice (P : Program) (t : TypeId) : Option (TypeId × Nat) :=
  match P.underlying t with
  | some (.slice e) => match tsz P e with | some n => some (e, n) | none => none
  | _ => none
def tarray (P : Program) (t : TypeId) : Option (Nat × TypeId × Nat) :=
  match P.underlying t with
  | some (.array l e) => match tsz P e with | some n => some (l, e, n) | none => none
  | _ => none
def zeroC : List Value → Option (List V)
  | [] => some []
  | v :: vs => match ofConst v, zeroC vs with | some x, some xs => some (x :: xs) | _, _ => none
def zeroV : Value → Option V
  | .agg cs => match zeroC cs.toList with | some xs => some (.agg xs) | none => none
  | v => ofConst v
def tzero (P : Program) (t : TypeId) : Option V := match P.info? t with | some i => (match i.zero with | some z => zeroV z | none => none) | none => none
def cellsV : V → List V
  | .agg cs => cs
  | x => [x]
theorem zeroC_rep (M : PM) : ∀ {vs : List Value} {xs : List V}, zeroC vs = some xs → RepL M xs vs
  | [], xs, h => by simp [zeroC] at h; subst h; exact RepL.nil
  | v :: vs, xs, h => by
    simp only [zeroC] at h
    split at h
    · rename_i x ys h1 h2; cases h; exact RepL.cons (ofConst_rep M h1) (zeroC_rep M h2)
    · cases h
theorem zeroV_rep (M : PM) {v : Value} {x : V} (h : zeroV v = some x) : Rep M x v := by
  unfold zeroV at h
  split at h
  · split at h
    · rename_i cs xs hx
      cases h
      have := (zeroC_rep M hx).agg
      simpa using this
    · cases h
  · exact ofConst_rep M h
theorem tzero_info {P : Program} {t : TypeId} {x : V} (h : tzero P t = some x) : ∃ i z, P.info? t = some i ∧ i.zero = some z ∧ ∀ M, Rep M x z := by
  unfold tzero at h
  split at h
  · rename_i i hi
    split at h
    · rename_i z hz; exact ⟨i, z, hi, hz, fun M => zeroV_rep M h⟩
    · cases h
  · cases h
theorem run_zeroValue {P : Program} {t : TypeId} {x : V} (h : tzero P t = some x) (w : World) : ∃ z, (zeroValue t).run P w = .ok z w ∧ ∀ M, Rep M x z := by
  obtain ⟨i, z, hi, hz, hr⟩ := tzero_info h
  exact ⟨z, by simp [zeroValue, typeInfo, hi, hz], hr⟩
/-- The cells of a value. -/
theorem Rep.cells {M : PM} {x : V} {v : Value} (h : Rep M x v) (ha : ∀ t, x ≠ .tup t) (hany : x ≠ .any) (hop : ∀ b y, x ≠ .opt b y) : RepL M (cellsV x) v.cells.toList := by
  cases h with
  | optT y v h => exact absurd rfl (hop _ _)
  | optF y => exact absurd rfl (hop _ _)
  | any v => exact absurd rfl hany
  | agg cs vs h r => exact RepL.ofArr h r
  | tup cs vs h r => exact absurd rfl (ha cs)
  | bool b => exact RepL.cons (.bool b) RepL.nil
  | int k n => exact RepL.cons (.int k n) RepL.nil
  | str s => exact RepL.cons (.str s) RepL.nil
  | nilp => exact RepL.cons .nilp RepL.nil
  | ptr b o => exact RepL.cons (.ptr b o) RepL.nil
  | lp cs o b z g hm hr => exact RepL.cons (.lp cs o b z g hm hr) RepL.nil
  | sl es nl t a len cap sz g hl hc hn hz hs he hm hr ht => exact RepL.cons (.sl es nl t a len cap sz g hl hc hn hz hs he hm hr ht) RepL.nil
  | ms b o len cap hc => exact RepL.cons (.ms b o len cap hc) RepL.nil
  | nilm => exact RepL.cons .nilm RepL.nil
  | map b => exact RepL.cons (.map b) RepL.nil
  | func fn xs ys us vs h1 h2 r1 r2 => exact RepL.cons (.func fn xs ys us vs h1 h2 r1 r2) RepL.nil
  | nilf => exact RepL.cons .nilf RepL.nil
  | iface t x v h => exact RepL.cons (.iface t x v h) RepL.nil
  | nili => exact RepL.cons .nili RepL.nil

/-! ### bytes -/
def bytesV (l : List UInt8) : List (List V) := l.map fun b => [V.int .u8 (b.toNat : Int)]
def unb (es : List (List V)) : List UInt8 := es.map fun e => match e with | [.int _ n] => UInt8.ofNat n.toNat | _ => 0
@[simp] theorem unb_bytesV (l : List UInt8) : unb (bytesV l) = l := by
  unfold unb bytesV
  rw [List.map_map]
  conv => rhs; rw [← List.map_id l]
  apply List.map_congr_left
  intro b _
  simp
@[simp] theorem length_bytesV (l : List UInt8) : (bytesV l).length = l.length := by simp [bytesV]
theorem getD_bytesV (l : List UInt8) (i : Nat) (h : i < l.length) : (bytesV l).getD i [] = [V.int .u8 ((l.getD i 0).toNat : Int)] := by
  simp [bytesV, h]

/-- A slice's elements in memory, from place z of block b on. -/
theorem sl_cells {E : Env} {M : PM} {G : Heap} {w : World} (h : Mem E M G w) {es : List (List V)} {nl : Bool} {t : Tag} {v : Value} (hr : Rep M (.sl es nl t) v) :
    (es = [] ∧ ∃ a c, v = .slice a 0 c) ∨ ∃ b z c sz, v = .slice (some ⟨b, z, none⟩) es.length c ∧ es.length ≤ c ∧ nl = false ∧ (∀ i (hi : i < es.length), (es[i]).length = sz) ∧
      (∀ i (hi : i < es.length), ∃ g : Nat → Value, (∀ j, j < sz → M b (z + i * sz + j) = some (g j)) ∧ ∀ j (hj : j < (es[i]).length), Rep M (es[i])[j] (g j)) ∧ TagOk t (some ⟨b, z, none⟩) es.length c sz := by
  cases hr with
  | sl es nl t a len cap sz g hl hc hn hz hs he hm hr ht =>
    subst hl
    cases a with
    | none =>
      have h0 := hz rfl
      subst h0
      have : es = [] := List.eq_nil_of_length_eq_zero (by omega)
      subst this
      exact .inl ⟨rfl, none, 0, rfl⟩
    | some ad =>
      rcases Nat.eq_zero_or_pos cap with h0 | h0
      · have : es = [] := List.eq_nil_of_length_eq_zero (by omega)
        subst this
        exact .inl ⟨rfl, _, _, rfl⟩
      obtain ⟨b, z, sp⟩ := ad
      have hsp := hs _ rfl h0
      simp only at hsp
      subst hsp
      refine .inr ⟨b, z, cap, sz, rfl, hc, hn, he, fun i hi => ⟨g i, fun j hj => ?_, fun j hj => hr i hi j hj⟩, ht⟩
      have := hm _ rfl i hi j hj
      simpa [Nat.add_assoc] using this
end Go.Proofs.YtomjghlaoncpbaaV
