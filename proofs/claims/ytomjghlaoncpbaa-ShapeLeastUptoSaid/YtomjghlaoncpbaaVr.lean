/-
  Arguments of a statement as data: out of what is known of a value of a type.
-/
import Derived.Test.YtomjghlaoncpbaaVp
import Derived.Test.YtomjghlaoncpbaaVq
namespace Go.Proofs.YtomjghlaoncpbaaV
open Go.RowKit
set_option linter.unusedVariables false
set_option linter.unusedSimpArgs false
/-- A struct's fields' types. -/
def tstruct (P : Program) (t : TypeId) : Option (List TypeId) := match P.underlying t with | some (.struct fs) => if tilesB P 0 fs.toList (P.cellsOf t) then some (fs.toList.map (·.type)) else none | _ => none
/-- A slice's elements' type. -/
def tslc (P : Program) (t : TypeId) : Option TypeId := match P.underlying t with | some (.slice e) => if P.cellsOf e = 0 then none else some e | _ => none
abbrev bulk : Nat := 1048576
theorem le_bulk {n : Nat} (h : n ≤ bulk) : (n : Int) ≤ 9223372036854775807 := by have : n ≤ 1048576 := h; omega
/-- Whatever is of the type, and of no more than that bulk, is a piece of data. -/
def Dec (P : Program) (t : TypeId) {D : Type} (e : D → List V) (o : D → Prop) (n : Nat) : Prop := ∀ cs, TyV P n t cs → vszL cs ≤ bulk → ∃ x, cs = e x ∧ o x
section
variable {P : Program} {t el : TypeId} {n : Nat}
theorem dec_bool (h : kindIs P t isBoolT = true) : Dec P t (fun b : Bool => [V.bool b]) (fun _ => True) n := by
  intro cs hv _
  cases n with
  | zero => exact hv.elim
  | succ n =>
    obtain ⟨d, hd, hk⟩ := kindIs_some h
    cases d <;> simp [isBoolT] at hk
    unfold TyV at hv
    rw [hd] at hv
    obtain ⟨b, rfl⟩ := hv
    exact ⟨b, rfl, trivial⟩
theorem dec_int {k : IntKind} (h : intKindOf P t = some k) : Dec P t (fun m : Int => [V.int k m]) (fun m => k.min ≤ m ∧ m ≤ k.max) n := by
  intro cs hv _
  cases n with
  | zero => exact hv.elim
  | succ n =>
    have hu : P.underlying t = some (.int k) := by
      unfold intKindOf at h
      split at h
      · rename_i k2 hk2; cases h; exact hk2
      · cases h
    unfold TyV at hv
    rw [hu] at hv
    obtain ⟨m, rfl, h1, h2⟩ := hv
    exact ⟨m, rfl, h1, h2⟩
theorem dec_str (h : isStr P t = true) : Dec P t (fun s : List UInt8 => [V.str s]) (fun s => s.length ≤ bulk) n := by
  intro cs hv hb
  cases n with
  | zero => exact hv.elim
  | succ n =>
    unfold TyV at hv
    rw [isStr_info h] at hv
    obtain ⟨s, rfl, h1⟩ := hv
    simp only [vszL, vsz] at hb
    exact ⟨s, rfl, by show s.length ≤ bulk; omega⟩
theorem tslc_info (h : tslc P t = some el) : P.underlying t = some (.slice el) ∧ P.cellsOf el ≠ 0 := by
  unfold tslc at h
  split at h
  · rename_i e hu
    split at h
    · cases h
    · cases h; exact ⟨hu, by assumption⟩
  · cases h
theorem dec_raw {cs : List V} (h : tslc P t = some el) (hv : TyV P (n + 1) t cs) : ∃ es nl, cs = [.sl es nl .no] ∧ (nl = true → es = []) ∧ ∀ x ∈ es, x.length = P.cellsOf el ∧ TyV P n el x := by
  obtain ⟨hu, hc⟩ := tslc_info h
  unfold TyV at hv
  rw [hu] at hv
  obtain ⟨es, nl, rfl, _, h2, h3⟩ := hv hc
  exact ⟨es, nl, rfl, h2, h3⟩
theorem vszLL_mem {x : List V} : ∀ {es : List (List V)}, x ∈ es → vszL x ≤ vszLL es
  | e :: es, h => by
    simp only [vszLL]
    rcases List.mem_cons.1 h with rfl | h
    · omega
    · have := vszLL_mem h; omega
theorem vszLL_len {D : Type} {e : D → List V} (hp : ∀ x, 1 ≤ vszL (e x)) : ∀ xs : List D, xs.length ≤ vszLL (xs.map e)
  | [] => by simp [vszLL]
  | x :: xs => by simp only [List.map_cons, vszLL, List.length_cons]; have := hp x; have := vszLL_len hp xs; omega
theorem dec_list {D : Type} {e : D → List V} {o : D → Prop} {Q : List V → Prop} : ∀ {es : List (List V)}, (∀ x ∈ es, Q x → ∃ d, x = e d ∧ o d) → (∀ x ∈ es, Q x) → ∃ xs : List D, es = xs.map e ∧ ∀ y ∈ xs, o y
  | [], _, _ => ⟨[], rfl, fun y h => by cases h⟩
  | x :: es, ih, h => by
    obtain ⟨d, rfl, hd⟩ := ih x (by simp) (h x (by simp))
    obtain ⟨xs, rfl, ho⟩ := dec_list (es := es) (fun y hy => ih y (by simp [hy])) (fun y hy => h y (by simp [hy]))
    exact ⟨d :: xs, rfl, fun y hy => (List.mem_cons.1 hy).elim (fun q => q ▸ hd) (ho y)⟩
/-- What a slice's data owes. -/
def OkS {D : Type} (o : D → Prop) (x : List D × Bool) : Prop := (x.2 = true → x.1 = []) ∧ x.1.length ≤ bulk ∧ ∀ y ∈ x.1, o y
theorem dec_slice {D : Type} {e : D → List V} {o : D → Prop} (h : tslc P t = some el) (hp : ∀ x, 1 ≤ vszL (e x)) (ih : ∀ m, m < n → Dec P el e o m) : Dec P t (fun x : List D × Bool => [.sl (x.1.map e) x.2 .no]) (OkS o) n := by
  intro cs hv hb
  cases n with
  | zero => exact hv.elim
  | succ n =>
    obtain ⟨es, nl, rfl, h2, h3⟩ := dec_raw h hv
    have hb' : vszLL es + 1 ≤ bulk := by simpa [vszL, vsz] using hb
    obtain ⟨xs, rfl, ho⟩ := dec_list (es := es) (e := e) (o := o) (Q := fun x => TyV P n el x) (fun x hx hq => ih n (by omega) x hq (by have := vszLL_mem hx; omega)) (fun x hx => (h3 x hx).2)
    have := vszLL_len hp xs
    exact ⟨(xs, nl), rfl, fun e => by simpa using h2 e, by show xs.length ≤ bulk; omega, ho⟩
theorem sz_bytesV (b : List UInt8) : vszLL (bytesV b) = b.length := by
  induction b with
  | nil => rfl
  | cons x b ih =>
    have : bytesV (x :: b) = [V.int .u8 (x.toNat : Int)] :: bytesV b := rfl
    rw [this]
    simp only [vszLL, vszL, vsz, ih, List.length_cons]
    omega
theorem dec_bytes (h : tslc P t = some el) (hk : intKindOf P el = some .u8) : Dec P t (fun x : List UInt8 × Bool => [.sl (bytesV x.1) x.2 .no]) (fun x => (x.2 = true → x.1 = []) ∧ x.1.length ≤ bulk) n := by
  intro cs hv hb
  obtain ⟨⟨xs, nl⟩, rfl, h1, h2, h3⟩ := dec_slice (e := fun m : Int => [V.int .u8 m]) h (fun _ => by simp [vszL, vsz]) (fun m _ => dec_int hk) cs hv hb
  have he : xs.map (fun m : Int => [V.int .u8 m]) = bytesV (xs.map fun m => UInt8.ofNat m.toNat) := by
    simp only [bytesV, List.map_map]
    refine List.map_congr_left fun m hm => ?_
    obtain ⟨g1, g2⟩ := h3 m hm
    have g1 : 0 ≤ m := g1
    have g2 : m ≤ 255 := g2
    have : ((UInt8.ofNat m.toNat).toNat : Int) = m := by rw [UInt8.toNat_ofNat']; omega
    simp only [Function.comp_apply, this]
  refine ⟨(xs.map (fun m => UInt8.ofNat m.toNat), nl), by simp only [he], fun e => ?_, by simpa using h2⟩
  have := h1 e
  simp only at this
  rw [this]; rfl
theorem dec_struct {ts : List TypeId} {cs : List V} (h : tstruct P t = some ts) (hv : TyV P n t cs) : ∃ m, n = m + 1 ∧ TyL (TyV P m) P ts cs := by
  cases n with
  | zero => exact hv.elim
  | succ n =>
    unfold tstruct at h
    split at h
    · rename_i fs hu
      split at h
      · rename_i ht
        cases h
        unfold TyV at hv
        rw [hu] at hv
        exact ⟨n, rfl, hv ht⟩
      · cases h
    · cases h
/-- One cell, whatever it holds. -/
theorem dec_cell (h : tslc P t = some el) : Dec P t (fun x : V => [x]) (fun _ => True) n := by
  intro cs hv _
  cases n with
  | zero => exact hv.elim
  | succ n =>
    obtain ⟨es, nl, rfl, _⟩ := dec_raw h hv
    exact ⟨_, rfl, trivial⟩
theorem dec_one {D : Type} {e : D → List V} {o : D → Prop} {y : V} (ha : isAggT P t = false) (ih : ∀ n, Dec P t e o n) (h : TyA P t y) (hb : vsz y ≤ bulk) : ∃ x, e x = [y] ∧ o x := by
  obtain ⟨n, cs, h1, ⟨h2, _⟩ | ⟨_, rfl⟩⟩ := h
  · rw [ha] at h2; cases h2
  · obtain ⟨x, hx, ho⟩ := ih n _ h1 (by simpa [vszL] using hb)
    exact ⟨x, hx.symm, ho⟩
theorem dec_agg {D : Type} {e : D → List V} {o : D → Prop} {y : V} (ha : isAggT P t = true) (ih : ∀ n, Dec P t e o n) (h : TyA P t y) (hb : vsz y ≤ bulk) : ∃ x, y = .agg (e x) ∧ o x := by
  obtain ⟨n, cs, h1, ⟨_, rfl⟩ | ⟨h2, _⟩⟩ := h
  · obtain ⟨x, rfl, ho⟩ := ih n _ h1 (by simpa [vsz] using hb)
    exact ⟨x, rfl, ho⟩
  · rw [ha] at h2; cases h2
end
end Go.Proofs.YtomjghlaoncpbaaV
