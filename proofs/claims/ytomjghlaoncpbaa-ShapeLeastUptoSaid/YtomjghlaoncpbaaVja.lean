/-
  append, and make: what becomes of memory.
-/
import Derived.Test.YtomjghlaoncpbaaVj
import Derived.Deep.AppendSrc
namespace Go.Proofs.YtomjghlaoncpbaaV
open Go.RowKit
set_option linter.unusedVariables false
set_option linter.unusedSimpArgs false

def scalarV : V → Bool
  | .agg _ => false
  | .tup _ => false
  | .any => false
  | .opt _ _ => false
  | _ => true
theorem scalar_one {M : PM} {x : V} {v : Value} (h : scalarV x = true) (hr : Rep M x v) : v.oneCell' = true := by
  cases hr <;> first | rfl | (simp [scalarV] at h)
/-- No cell is a struct. -/
def sca (es : List (List V)) : Prop := ∀ e ∈ es, ∀ x ∈ e, scalarV x = true
@[simp] theorem sca_nil : sca [] = True := by simp [sca]
@[simp] theorem sca_cons (e : List V) (es : List (List V)) : sca (e :: es) = ((∀ x ∈ e, scalarV x = true) ∧ sca es) := by simp [sca]
@[simp] theorem sca_append (a b : List (List V)) : sca (a ++ b) = (sca a ∧ sca b) := by
  simp only [sca, List.mem_append, eq_iff_iff]
  exact ⟨fun h => ⟨fun e he => h e (.inl he), fun e he => h e (.inr he)⟩, fun h e he => he.elim (h.1 e) (h.2 e)⟩
@[simp] theorem sca_bytesV (l : List UInt8) : sca (bytesV l) = True := by simp [sca, bytesV, scalarV]
theorem sca_map {A : Type} {g : A → List V} (h : ∀ a, ∀ x ∈ g a, scalarV x = true) (l : List A) : sca (l.map g) := fun e he => by
  obtain ⟨x, _, rfl⟩ := List.mem_map.1 he; exact h x

/-- Cells from 'lo' on of block b are known from now on. -/
def PM.addR (M : PM) (b lo : Nat) (vs : List Value) : PM := fun b' o => if b' = b ∧ lo ≤ o ∧ o < lo + vs.length then vs[o - lo]? else M b' o
theorem PM.addR_in {M : PM} {b lo : Nat} {vs : List Value} {i : Nat} {v : Value} (h : vs[i]? = some v) : (M.addR b lo vs) b (lo + i) = some v := by
  have hi : i < vs.length := by
    rcases Nat.lt_or_ge i vs.length with q | q
    · exact q
    · rw [List.getElem?_eq_none q] at h; cases h
  unfold PM.addR
  rw [if_pos ⟨rfl, by omega, by omega⟩, Nat.add_sub_cancel_left]; exact h
theorem PM.le_addR {M : PM} {b lo : Nat} {vs : List Value} (h : ∀ o, lo ≤ o → M b o = none) : M.le (M.addR b lo vs) := by
  intro b' o v hv
  unfold PM.addR
  rw [if_neg]
  · exact hv
  · rintro ⟨rfl, h1, _⟩; rw [h o h1] at hv; cases hv

def tbytes (P : Program) (t : TypeId) : Option Nat := (P.info? t).map (·.bytes)

section
variable {P : Program} {E : Env} {M : PM} {G : Heap} {w : World}
/-- What is appended, as elements. -/
def srcV (P : Program) (t : TypeId) : V → Option (List (List V))
  | .sl ys _ _ => if kindIs P t isSliceT then some ys else none
  | .str s => if isStr P t then some (bytesV s) else none
  | _ => none
theorem src_ok {t : TypeId} {Y : V} {y : Value} {ys : List (List V)} {n : Nat} (hm : Mem E M G w) (hr : Rep M Y y) (h : srcV P t Y = some ys) (hw : wid n ys) (hs : sca ys) (hn : 0 < n) :
    ∃ news, RepL M ys.flatten news ∧ Src P n t y ys.length news w := by
  unfold srcV at h
  split at h
  · rename_i ys' nl tg
    split at h
    · rename_i hk
      cases h
      obtain ⟨d, hd, hk⟩ := kindIs_some hk
      cases d <;> simp [isSliceT] at hk
      rcases sl_cells hm hr with ⟨rfl, a0, c, rfl⟩ | ⟨b, z, c, sz, rfl, hc, _, he, hmem, _⟩
      · cases a0 with
        | none => exact ⟨[], RepL.nil, Src.ofNil w hd c⟩
        | some a0 => exact ⟨[], RepL.nil, Src.ofSlice w hd a0 0 c [] (by simp) (fun j u h => by simp at h) (fun u h => by simp at h)⟩
      · have hcells : CellsRep M w b z ys.flatten := by
          refine ⟨(List.range (ys.length * n)).map (fun i => ((w.cell? ⟨b, z + i, none⟩).getD undef)), ⟨by rw [flatten_length hw]; simp, fun i hi => ?_⟩, fun i v hv => ?_⟩
          · have hi' : i < ys.length * n := by rw [flatten_length hw] at hi; exact hi
            have hq : i / n < ys.length := by rw [Nat.div_lt_iff_lt_mul hn]; exact hi'
            have hr' : i % n < n := Nat.mod_lt _ hn
            obtain ⟨g, hg1, hg2⟩ := hmem (i / n) hq
            have hs1 : sz = n := by rw [← he _ hq]; exact hw _ (List.getElem_mem hq)
            subst hs1
            have h0 : i % sz < (ys[i / sz]).length := by rw [he _ hq]; exact hr'
            have hfl := flatten_get hw hq h0
            have hdm : i / sz * sz + i % sz = i := by rw [Nat.mul_comm]; exact Nat.div_add_mod i sz
            rw [hdm] at hfl
            have e1 : ys.flatten[i] = (ys[i / sz])[i % sz] := by
              rw [List.getElem?_eq_getElem hi] at hfl; exact Option.some.inj hfl
            have hm0 := hm.pm _ _ _ (hg1 (i % sz) hr')
            rw [Nat.add_assoc, hdm] at hm0
            rw [e1, List.getD_eq_getElem?_getD]
            simp only [List.getElem?_map, List.getElem?_range hi', Option.map_some, Option.getD_some, hm0]
            exact hg2 _ h0
          · rw [List.getElem?_map] at hv
            cases hq0 : (List.range (ys.length * n))[i]? with
            | none => rw [hq0] at hv; cases hv
            | some k =>
              obtain ⟨h1, h2⟩ := List.getElem?_eq_some_iff.1 hq0
              have hi' : i < ys.length * n := by simpa using h1
              have : k = i := by simpa using h2.symm
              subst this
              have hq : k / n < ys.length := by rw [Nat.div_lt_iff_lt_mul hn]; exact hi'
              have hr' : k % n < n := Nat.mod_lt _ hn
              obtain ⟨g, hg1, hg2⟩ := hmem (k / n) hq
              have hs1 : sz = n := by rw [← he _ hq]; exact hw _ (List.getElem_mem hq)
              subst hs1
              have hdm : k / sz * sz + k % sz = k := by rw [Nat.mul_comm]; exact Nat.div_add_mod k sz
              have hm0 := hm.pm _ _ _ (hg1 (k % sz) hr')
              rw [Nat.add_assoc, hdm] at hm0
              rw [hq0, Option.map_some, hm0] at hv
              simp only [Option.getD_some, Option.some.injEq] at hv
              rw [hm0, hv]
        obtain ⟨news, hrep, hcell⟩ := hcells
        refine ⟨news, hrep, Src.ofSlice w hd ⟨b, z, none⟩ ys.length c news (by rw [← hrep.1, flatten_length hw]) (fun j u hj => by rw [Addr.add_lit]; exact hcell j u hj) (fun u hu => ?_)⟩
        obtain ⟨i, hi, rfl⟩ := List.getElem_of_mem hu
        have hi2 : i < ys.flatten.length := by rw [hrep.1]; exact hi
        have hR := hrep.2 i hi2
        rw [List.getD_eq_getElem?_getD, List.getElem?_eq_getElem hi] at hR
        have hmem2 : ys.flatten[i] ∈ ys.flatten := List.getElem_mem hi2
        obtain ⟨e, he1, he2⟩ := List.mem_flatten.1 hmem2
        exact scalar_one (hs e he1 _ he2) hR
    · cases h
  · rename_i s
    obtain rfl := hr.str_inv
    split at h
    · rename_i hst
      cases h
      have h1 : n = 1 ∨ s = [] := by
        cases s with
        | nil => exact .inr rfl
        | cons b s => left; have := hw [V.int .u8 (b.toNat : Int)] (by simp [bytesV]); simpa using this.symm
      have hl : ∀ l : List UInt8, RepL M (bytesV l).flatten (l.map fun b => Value.int .u8 (b.toNat : Int)) := by
        intro l
        induction l with
        | nil => exact RepL.nil
        | cons b l ih => exact RepL.cons (.int .u8 _) ih
      have hsz : (ByteArray.mk s.toArray).size = s.length := by show s.toArray.size = _; simp
      rcases h1 with rfl | rfl
      · have := Src.ofString w (isStr_info hst) (ByteArray.mk s.toArray)
        rw [hsz] at this
        rw [length_bytesV]
        exact ⟨_, hl s, by simpa [byteCells] using this⟩
      · refine ⟨[], RepL.nil, ⟨.inr (isStr_info hst), fun _ => rfl, ?_, ?_, by simp [bytesV], fun _ h => by cases h⟩⟩ <;> simp [Builtin.firstCells, bytesV]
    · cases h
  · cases h

theorem oneCell_flat {ys : List (List V)} {news : List Value} (hs : sca ys) (hrep : RepL M ys.flatten news) : ∀ u ∈ news, u.oneCell' = true := by
  intro u hu
  obtain ⟨i, hi, rfl⟩ := List.getElem_of_mem hu
  have hi2 : i < ys.flatten.length := by rw [hrep.1]; exact hi
  have hR := hrep.2 i hi2
  rw [List.getD_eq_getElem?_getD, List.getElem?_eq_getElem hi] at hR
  obtain ⟨e, he1, he2⟩ := List.mem_flatten.1 (List.getElem_mem hi2)
  exact scalar_one (hs e he1 _ he2) hR
end
end Go.Proofs.YtomjghlaoncpbaaV
