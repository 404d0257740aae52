/-
  What a call is handed, as values: out of the reading that a statement gives.
-/
import Derived.Test.YtomjghlaoncpbaaVo
import Derived.ChangeSame
import Derived.Carry
import Derived.Below
import Derived.Test.YtomjghlaoncpbaaRows
namespace Go.Proofs.YtomjghlaoncpbaaV
open Go.RowKit
set_option linter.unusedVariables false
set_option linter.unusedSimpArgs false

/-- The memory that a call meets. -/
def M0 (W : World) : PM := fun b o => W.cell? ⟨b, o, none⟩
/-- Cells one behind the other, each part of its type. -/
def TyL (T : TypeId → List V → Prop) (P : Program) : List TypeId → List V → Prop
  | [], xs => xs = []
  | t :: ts, xs => ∃ a b, xs = a ++ b ∧ a.length = P.cellsOf t ∧ T t a ∧ TyL T P ts b
/-- The fields lie one behind the other. -/
def tilesB (P : Program) : Nat → List Field → Nat → Bool
  | o, [], n => o == n
  | o, f :: fs, n => f.offset == o && tilesB P (o + P.cellsOf f.type) fs n
def TyV (P : Program) : Nat → TypeId → List V → Prop
  | 0, _, _ => False
  | n + 1, t, xs => match P.underlying t with
    | some .bool => ∃ b, xs = [.bool b]
    | some (.int k) => ∃ m, xs = [.int k m] ∧ k.min ≤ m ∧ m ≤ k.max
    | some .string => ∃ s, xs = [.str s] ∧ s.length ≤ maxLen
    | some (.pointer e) => P.cellsOf e ≠ 0 → xs = [.nilp] ∨ ∃ cs, xs = [.lp cs 0] ∧ cs.length = P.cellsOf e ∧ TyV P n e cs
    | some (.slice e) => P.cellsOf e ≠ 0 → ∃ es nl, xs = [.sl es nl .no] ∧ es.length ≤ maxLen ∧ (nl = true → es = []) ∧ ∀ x ∈ es, x.length = P.cellsOf e ∧ TyV P n e x
    | some (.struct fs) => tilesB P 0 fs.toList (P.cellsOf t) = true → TyL (TyV P n) P (fs.toList.map (·.type)) xs
    | some (.array m e) => m * P.cellsOf e = P.cellsOf t → TyL (TyV P n) P (List.replicate m e) xs
    | _ => True

theorem exists_list {A : Type} {p : Nat → A → Prop} : ∀ {n : Nat}, (∀ i, i < n → ∃ x, p i x) → ∃ l : List A, l.length = n ∧ ∀ i (h : i < l.length), p i l[i]
  | 0, _ => ⟨[], rfl, fun i h => absurd h (by simp)⟩
  | n + 1, h => by
    obtain ⟨l, h1, h2⟩ := exists_list (n := n) (fun i hi => h i (by omega))
    obtain ⟨x, hx⟩ := h n (by omega)
    refine ⟨l ++ [x], by simp [h1], fun i hi => ?_⟩
    rcases Nat.lt_or_ge i l.length with q | q
    · rw [List.getElem_append_left q]; exact h2 i q
    · have : i = n := by simp at hi; omega
      subst this
      rw [List.getElem_append_right q]; simpa [h1] using hx
theorem mapM_some {A B : Type} {f : A → Option B} : ∀ {l : List A} {ys : List B}, l.mapM f = some ys → ys.length = l.length ∧ ∀ i (h : i < l.length), ∃ y, ys[i]? = some y ∧ f l[i] = some y
  | [], ys, h => by simp at h; subst h; exact ⟨rfl, fun i h => absurd h (by simp)⟩
  | a :: l, ys, h => by
    rw [List.mapM_cons] at h
    cases ha : f a with
    | none => simp [ha] at h
    | some y =>
      cases hl : l.mapM f with
      | none => simp [ha, hl] at h
      | some zs =>
        simp [ha, hl] at h
        subst h
        obtain ⟨h1, h2⟩ := mapM_some hl
        refine ⟨by simp [h1], fun i hi => ?_⟩
        cases i with
        | zero => exact ⟨y, rfl, ha⟩
        | succ i => simpa using h2 i (by simpa using hi)
theorem cells_some {w : World} {b : Nat} {a : Addr} {n : Nat} {row : List Value} (h : w.cells? b a n = some row) : row.length = n ∧ ∀ i, i < n → w.cell? (a.add i) = row[i]? := by
  unfold World.cells? at h
  split at h
  · obtain ⟨h1, h2⟩ := mapM_some h
    refine ⟨by simpa using h1, fun i hi => ?_⟩
    obtain ⟨y, hy, hy2⟩ := h2 i (by simpa using hi)
    rw [hy]; simpa using hy2
  · cases h
theorem spot_none {w : World} {a : Addr} {v : Value} (h : w.cell? a = some v) : a.spot = none := by
  unfold World.cell? at h
  split at h
  · split at h
    · cases h
    · rename_i hs; simpa using hs
  · cases h
theorem any_rep (M : PM) : ∀ cs : List Value, RepL M (cs.map fun _ => V.any) cs
  | [] => RepL.nil
  | _ :: cs => RepL.cons (.any _) (any_rep M cs)
mutual
/-- How many values and letters a value holds. -/
def vsz : V → Nat
  | .str s => s.length + 1
  | .sl es _ _ => vszLL es + 1
  | .lp cs _ => vszL cs + 1
  | .agg cs => vszL cs
  | .any => 0
  | _ => 1
def vszL : List V → Nat
  | [] => 0
  | x :: xs => vsz x + vszL xs
def vszLL : List (List V) → Nat
  | [] => 0
  | x :: xs => vszL x + vszLL xs
end
theorem vszL_append (xs ys : List V) : vszL (xs ++ ys) = vszL xs + vszL ys := by
  induction xs with
  | nil => simp [vszL]
  | cons x xs ih => simp only [List.cons_append, vszL, ih]; omega
theorem vszL_any (cs : List Value) : vszL (cs.map fun _ => V.any) = 0 := by
  induction cs with
  | nil => rfl
  | cons c cs ih => simp [vszL, vsz, ih]
theorem vszLL_le {H : Type} : ∀ (es : List (List V)) (ds : List (DataW H)), es.length = ds.length → (∀ (i : Nat) (e : List V) (d : DataW H), es[i]? = some e → ds[i]? = some d → vszL e ≤ Ytomjghlaoncpbaa.Rows.uptoBulk d) → vszLL es ≤ Ytomjghlaoncpbaa.Rows.uptoBulkAll ds
  | [], ds, _, _ => Nat.zero_le _
  | e :: es, [], h, _ => by simp at h
  | e :: es, d :: ds, h, hp => by
    have h1 := hp 0 e d rfl rfl
    have h2 := vszLL_le es ds (by simpa using h) (fun i e d he hd => hp (i + 1) e d (by simpa using he) (by simpa using hd))
    simp only [vszLL, Ytomjghlaoncpbaa.Rows.uptoBulkAll]
    omega
section
variable {H : Type} {enc : TypeId × Value → H} {P : Program} {W : World}
theorem RepL.get' {M : PM} {cs : List V} {vs : List Value} (h : RepL M cs vs) {i : Nat} (hi : i < cs.length) {v : Value} (hv : vs[i]? = some v) : Rep M cs[i] v := by
  have := h.2 i hi
  rw [List.getD_eq_getElem?_getD, hv] at this
  exact this
theorem lp_of {a : Addr} {row : List Value} {cs : List V} (hr : RepL (M0 W) cs row) (ha : a.spot = none) (hc : ∀ i, i < row.length → W.cell? (a.add i) = row[i]?) : Rep (M0 W) (.lp cs 0) (.pointer (some a)) := by
  obtain ⟨b, z, s⟩ := a
  simp only at ha
  subst ha
  refine .lp cs 0 b z (fun i => row.getD i undef) (fun i hi => ?_) (fun i hi => ?_)
  · have := hc i (by rw [← hr.1]; exact hi)
    rw [Addr.add_lit] at this
    show W.cell? ⟨b, z + i, none⟩ = _
    rw [this, List.getD_eq_getElem?_getD, List.getElem?_eq_getElem (by rw [← hr.1]; exact hi)]; rfl
  · exact hr.2 i hi
theorem parts_rep {cs : List Value} {T : TypeId → List V → Prop} : ∀ (fs : List Field) (ds : List (DataW H)) (o : Nat), tilesB P o fs cs.length = true → ds.length = fs.length →
    (∀ (i : Nat) f d, fs[i]? = some f → ds[i]? = some d → ∃ xs, RepL (M0 W) xs ((cs.drop f.offset).take (P.cellsOf f.type)) ∧ T f.type xs ∧ vszL xs ≤ Ytomjghlaoncpbaa.Rows.uptoBulk d) → ∃ xs, RepL (M0 W) xs (cs.drop o) ∧ TyL T P (fs.map (·.type)) xs ∧ vszL xs ≤ Ytomjghlaoncpbaa.Rows.uptoBulkAll ds
  | [], ds, o, ht, _, _ => by
    simp only [tilesB, beq_iff_eq] at ht
    subst ht
    exact ⟨[], by simpa using RepL.nil, rfl, Nat.zero_le _⟩
  | f :: fs, [], o, ht, hl, _ => by simp at hl
  | f :: fs, d :: ds, o, ht, hl, h => by
    simp only [tilesB, Bool.and_eq_true, beq_iff_eq] at ht
    obtain ⟨rfl, ht⟩ := ht
    obtain ⟨xs, h1, h2, h5⟩ := h 0 f d rfl rfl
    obtain ⟨ys, h3, h4, h6⟩ := parts_rep fs ds _ ht (by simpa using hl) (fun i g e hg he => h (i + 1) g e (by simpa using hg) (by simpa using he))
    have hle : ∀ (fs : List Field) (o : Nat), tilesB P o fs cs.length = true → o ≤ cs.length := by
      intro fs
      induction fs with
      | nil => intro o h; simp only [tilesB, beq_iff_eq] at h; omega
      | cons g gs ih => intro o h; simp only [tilesB, Bool.and_eq_true, beq_iff_eq] at h; have := ih _ h.2; omega
    have hl := hle _ _ ht
    refine ⟨xs ++ ys, ?_, ⟨xs, ys, rfl, ?_, h2, h4⟩, by rw [vszL_append]; simp only [Ytomjghlaoncpbaa.Rows.uptoBulkAll]; omega⟩
    · have : cs.drop f.offset = (cs.drop f.offset).take (P.cellsOf f.type) ++ cs.drop (f.offset + P.cellsOf f.type) := by
        rw [← List.drop_drop, List.take_append_drop]
      rw [this]
      exact h1.append h3
    · have e1 := h1.1
      rw [List.length_take, List.length_drop] at e1
      show xs.length = P.cellsOf f.type
      omega
/-- What was read is a value, of its type. -/
theorem trod_rep : ∀ (fuel : Nat) {t : TypeId} {cs : List Value} {d : DataW H} {ps : List MemPlace}, DataW.trod enc P W 0 (fun _ => true) true fuel t cs = some (d, ps) → ∃ xs, RepL (M0 W) xs cs ∧ TyV P fuel t xs ∧ vszL xs ≤ Ytomjghlaoncpbaa.Rows.uptoBulk d
  | 0, t, cs, d, ps, h => by simp [DataW.trod] at h
  | n + 1, t, cs, d, ps, h => by
    unfold DataW.trod at h
    unfold TyV
    split at h
    · rename_i b hu; rw [hu]; cases h; exact ⟨[.bool b], RepL.cons (.bool b) RepL.nil, ⟨b, rfl⟩, by simp [vszL, vsz, Ytomjghlaoncpbaa.Rows.uptoBulk]⟩
    · rename_i k k' m hu
      rw [hu]
      split at h
      · rename_i hc
        obtain ⟨rfl, hwf⟩ := hc
        cases h
        refine ⟨[.int k' m], RepL.cons (.int _ _) RepL.nil, ⟨m, rfl, ?_⟩, by simp [vszL, vsz, Ytomjghlaoncpbaa.Rows.uptoBulk]⟩
        simpa [Lit.wf] using hwf
      · cases h
    · rename_i hu; rw [hu]; exact ⟨_, any_rep _ _, trivial, by rw [vszL_any]; exact Nat.zero_le _⟩
    · rename_i s hu
      rw [hu]
      split at h
      · rename_i hs
        cases h
        refine ⟨[.str s.data.toList], RepL.cons ?_ RepL.nil, ⟨_, rfl, by rw [Array.length_toList]; exact hs⟩, by simp [vszL, vsz, Ytomjghlaoncpbaa.Rows.uptoBulk]⟩
        have := Rep.str (M := M0 W) s.data.toList
        simpa using this
      · cases h
    · rename_i hu; rw [hu]; cases h; exact ⟨[.nilp], RepL.cons .nilp RepL.nil, fun _ => .inl rfl, by simp [vszL, vsz, Ytomjghlaoncpbaa.Rows.uptoBulk]⟩
    · rename_i e a hu
      rw [hu]
      cases hc : W.cells? 0 a (P.cellsOf e) with
      | none => rw [hc] at h; simp at h
      | some row =>
        rw [hc] at h
        simp only [Option.bind_some, Option.map_eq_some_iff] at h
        obtain ⟨⟨d', ps'⟩, h1, hd⟩ := h
        cases hd
        obtain ⟨xs, h2, h3, h4⟩ := trod_rep n h1
        obtain ⟨g1, g2⟩ := cells_some hc
        by_cases h0 : P.cellsOf e = 0
        · exact ⟨_, any_rep _ _, fun q => absurd h0 q, by rw [vszL_any]; exact Nat.zero_le _⟩
        · have hsp : a.spot = none := by
            have := g2 0 (by omega)
            rw [List.getElem?_eq_getElem (by omega)] at this
            have := spot_none this
            simpa [Addr.add] using this
          exact ⟨[.lp xs 0], RepL.cons (lp_of h2 hsp (fun i hi => g2 i (by omega))) RepL.nil, fun _ => .inr ⟨xs, rfl, by rw [h2.1, g1], h3⟩, by simp only [vszL, vsz, Ytomjghlaoncpbaa.Rows.uptoBulk]; omega⟩
    · rename_i hu
      rw [hu]
      cases h
      refine ⟨[.sl [] true .no], RepL.cons (.sl [] true .no none 0 0 0 (fun _ _ => undef) rfl (Nat.le_refl _) rfl (fun _ => rfl) (fun _ h => by cases h) (fun i h => absurd h (by simp)) (fun _ h => by cases h) (fun i h => absurd h (by simp)) trivial) RepL.nil, fun _ => ⟨[], true, rfl, by simp, fun _ => rfl, fun x hx => by cases hx⟩, by simp [vszL, vsz, vszLL, Ytomjghlaoncpbaa.Rows.uptoBulk]⟩
    · rename_i e a len cap hu
      rw [hu]
      by_cases h0 : P.cellsOf e = 0
      · exact ⟨_, any_rep _ _, fun q => absurd h0 q, by rw [vszL_any]; exact Nat.zero_le _⟩
      simp only at h
      split at h
      · rename_i hc
        obtain ⟨_, hlc, hcm⟩ := hc
        cases hel : (List.range len).mapM (fun i => (W.cells? 0 (a.add (i * P.cellsOf e)) (P.cellsOf e)).bind (DataW.trod enc P W 0 (fun _ => true) true n e)) with
        | none => rw [hel] at h; simp at h
        | some elems =>
          rw [hel] at h
          cases hre : (List.range (cap - len)).mapM (fun j => (W.cells? 0 (a.add ((len + j) * P.cellsOf e)) (P.cellsOf e)).bind (DataW.trod enc P W 0 (fun _ => true) true n e)) with
          | none => simp only [Option.bind_some, if_true] at h; rw [hre] at h; cases h
          | some rest =>
            simp only [Option.bind_some, if_true] at h
            rw [hre] at h
            cases h
            have hall : ∀ i, i < cap → ∃ row y, W.cells? 0 (a.add (i * P.cellsOf e)) (P.cellsOf e) = some row ∧ DataW.trod enc P W 0 (fun _ => true) true n e row = some y := by
              intro i hi
              have key : ∃ y, (W.cells? 0 (a.add (i * P.cellsOf e)) (P.cellsOf e)).bind (DataW.trod enc P W 0 (fun _ => true) true n e) = some y := by
                rcases Nat.lt_or_ge i len with q | q
                · obtain ⟨y, _, hy⟩ := (mapM_some hel).2 i (by simpa using q)
                  exact ⟨y, by simpa using hy⟩
                · obtain ⟨y, _, hy⟩ := (mapM_some hre).2 (i - len) (by simp; omega)
                  have e1 : len + (i - len) = i := by omega
                  simp only [List.getElem_range, e1] at hy
                  exact ⟨y, hy⟩
              obtain ⟨y, hy⟩ := key
              cases hr : W.cells? 0 (a.add (i * P.cellsOf e)) (P.cellsOf e) with
              | none => rw [hr] at hy; cases hy
              | some row => rw [hr] at hy; exact ⟨row, y, rfl, hy⟩
            have hsp : 0 < cap → a.spot = none := fun hc0 => by
              obtain ⟨row, y, h1, _⟩ := hall 0 hc0
              obtain ⟨g1, g2⟩ := cells_some h1
              have := g2 0 (by omega)
              rw [List.getElem?_eq_getElem (by omega)] at this
              have := spot_none this
              simpa [Addr.add] using this
            obtain ⟨es, hes, hes2⟩ := exists_list (n := len) (p := fun i x => x.length = P.cellsOf e ∧ TyV P n e x ∧ (∀ d, (elems.map (·.1))[i]? = some d → vszL x ≤ Ytomjghlaoncpbaa.Rows.uptoBulk d) ∧ ∀ j (hj : j < x.length), ∃ v, W.cell? ⟨a.block, a.off + (i * P.cellsOf e + j), none⟩ = some v ∧ Rep (M0 W) x[j] v) fun i hi => by
              obtain ⟨row, ⟨d', ps'⟩, h1, h2⟩ := hall i (by omega)
              obtain ⟨xs, h3, h4, h5⟩ := trod_rep n h2
              obtain ⟨g1, g2⟩ := cells_some h1
              have hlx : xs.length = P.cellsOf e := by rw [h3.1, g1]
              have hdd : ∀ d, (elems.map (·.1))[i]? = some d → vszL xs ≤ Ytomjghlaoncpbaa.Rows.uptoBulk d := fun d hd => by
                obtain ⟨y, hy1, hy2⟩ := (mapM_some hel).2 i (by simpa using hi)
                simp only [List.getElem_range] at hy2
                rw [h1, Option.bind_some, h2] at hy2
                cases hy2
                rw [List.getElem?_map, hy1] at hd
                cases hd
                exact h5
              refine ⟨xs, hlx, h4, hdd, fun j hj => ?_⟩
              have hj2 : j < row.length := by rw [← h3.1]; exact hj
              have hc := g2 j (by omega)
              rw [List.getElem?_eq_getElem hj2] at hc
              have hs := hsp (by omega)
              obtain ⟨ab, ao, asp⟩ := a
              simp only at hs
              subst hs
              rw [Addr.add_lit, Addr.add_lit, Nat.add_assoc] at hc
              exact ⟨_, hc, RepL.get' h3 hj (List.getElem?_eq_getElem hj2)⟩
            refine ⟨[.sl es false .no], RepL.cons (.sl es false .no (some a) len cap (P.cellsOf e) (fun i j => (W.cell? ⟨a.block, a.off + (i * P.cellsOf e + j), none⟩).getD undef) hes.symm hlc rfl (fun h => by cases h) (fun ad h => by cases h; exact hsp) (fun i hi => (hes2 i hi).1) (fun ad h i hi j hj => ?_) (fun i hi j hj => ?_) trivial) RepL.nil, fun _ => ⟨es, false, rfl, by omega, (fun h => by cases h), fun x hx => ?_⟩, ?_⟩
            · cases h
              obtain ⟨v, hv, _⟩ := (hes2 i hi).2.2.2 j (by rw [(hes2 i hi).1]; exact hj)
              show W.cell? _ = _
              rw [hv]; rfl
            · obtain ⟨v, hv, hr⟩ := (hes2 i hi).2.2.2 j hj
              simp only [hv, Option.getD_some]
              exact hr
            · obtain ⟨i, hi, rfl⟩ := List.getElem_of_mem hx
              exact ⟨(hes2 i hi).1, (hes2 i hi).2.1⟩
            · have := vszLL_le es (elems.map (·.1)) (by rw [hes, List.length_map, (mapM_some hel).1]; simp) (fun i x dd hx hd => by
                obtain ⟨hi, rfl⟩ := List.getElem?_eq_some_iff.1 hx
                exact (hes2 i hi).2.2.1 dd hd)
              simp only [vszL, vsz, Ytomjghlaoncpbaa.Rows.uptoBulk]
              omega
      · cases h
    · rename_i cs x1 cs2 fs hu
      rw [hu]
      split at h
      · rename_i hlen
        cases hm : fs.toList.mapM (fun f => DataW.trod enc P W 0 (fun _ => true) true n f.type ((cs.drop f.offset).take (P.cellsOf f.type))) with
        | none => rw [hm] at h; cases h
        | some ys =>
          by_cases ht : tilesB P 0 fs.toList (P.cellsOf t) = true
          · obtain ⟨xs, h1, h2, h3⟩ := parts_rep (W := W) (cs := cs) (T := TyV P n) fs.toList (ys.map (·.1)) 0 (by rw [hlen]; exact ht) (by rw [List.length_map, (mapM_some hm).1]) (fun i f d hf hd => by
              obtain ⟨hi, rfl⟩ := List.getElem?_eq_some_iff.1 hf
              obtain ⟨⟨d', ps'⟩, hy1, hy⟩ := (mapM_some hm).2 i hi
              rw [List.getElem?_map, hy1] at hd
              cases hd
              exact trod_rep n hy)
            rw [hm] at h
            cases h
            exact ⟨xs, by simpa using h1, fun _ => h2, by simp only [Ytomjghlaoncpbaa.Rows.uptoBulk]; omega⟩
          · exact ⟨_, any_rep _ _, fun q => absurd q ht, by rw [vszL_any]; exact Nat.zero_le _⟩
      · cases h
    · rename_i cs x1 cs2 m e hu
      rw [hu]
      split at h
      · rename_i hlen
        cases hm : (List.range m).mapM (fun i => DataW.trod enc P W 0 (fun _ => true) true n e ((cs.drop (i * P.cellsOf e)).take (P.cellsOf e))) with
        | none => rw [hm] at h; cases h
        | some ys =>
          by_cases ht : m * P.cellsOf e = P.cellsOf t
          · have key : ∀ k i, i + k = m → ∃ xs, RepL (M0 W) xs (cs.drop (i * P.cellsOf e)) ∧ TyL (TyV P n) P (List.replicate k e) xs ∧ vszL xs ≤ Ytomjghlaoncpbaa.Rows.uptoBulkAll ((ys.map (·.1)).drop i) := by
              intro k
              induction k with
              | zero => intro i hi; refine ⟨[], ?_, rfl, Nat.zero_le _⟩; have : i = m := by omega
                        subst this; rw [ht, ← hlen, List.drop_length]; exact RepL.nil
              | succ k ih =>
                intro i hi
                obtain ⟨zs, h3, h4, h6⟩ := ih (i + 1) (by omega)
                obtain ⟨⟨d', ps'⟩, hy1, hy⟩ := (mapM_some hm).2 i (by simp; omega)
                obtain ⟨xs, h1, h2, h5⟩ := trod_rep n hy
                simp only [List.getElem_range] at h1
                have hdr : (ys.map (·.1)).drop i = d' :: (ys.map (·.1)).drop (i + 1) := by
                  obtain ⟨hi1, hi2⟩ := List.getElem?_eq_some_iff.1 hy1
                  rw [List.drop_eq_getElem_cons (by simpa using hi1), List.getElem_map, hi2]
                have e2 : (i + 1) * P.cellsOf e = i * P.cellsOf e + P.cellsOf e := by rw [Nat.add_mul]; simp
                have e3 : (i + 1) * P.cellsOf e ≤ cs.length := by rw [hlen, ← ht]; exact Nat.mul_le_mul_right _ (by omega)
                refine ⟨xs ++ zs, ?_, ⟨xs, zs, rfl, ?_, h2, h4⟩, by rw [vszL_append, hdr]; simp only [Ytomjghlaoncpbaa.Rows.uptoBulkAll]; omega⟩
                · have : cs.drop (i * P.cellsOf e) = (cs.drop (i * P.cellsOf e)).take (P.cellsOf e) ++ cs.drop ((i + 1) * P.cellsOf e) := by
                    rw [e2, ← List.drop_drop, List.take_append_drop]
                  rw [this]
                  exact h1.append h3
                · have e1 := h1.1
                  rw [List.length_take, List.length_drop] at e1
                  omega
            obtain ⟨xs, h1, h2, h3⟩ := key m 0 (by omega)
            rw [hm] at h
            cases h
            exact ⟨xs, by simpa using h1, fun _ => h2, by simp only [Ytomjghlaoncpbaa.Rows.uptoBulk]; simp only [List.drop_zero] at h3; omega⟩
          · exact ⟨_, any_rep _ _, fun q => absurd q ht, by rw [vszL_any]; exact Nat.zero_le _⟩
      · cases h
    all_goals first
      | (exfalso; cases h; done)
      | (refine ⟨_, any_rep _ _, ?_, by rw [vszL_any]; exact Nat.zero_le _⟩; split <;> first | trivial | (exfalso; simp_all))
/-- One value of a type. -/
def isAggT (P : Program) (t : TypeId) : Bool := match P.underlying t with | some (.struct _) | some (.array _ _) => true | _ => false
def TyA (P : Program) (t : TypeId) (x : V) : Prop := ∃ n cs, TyV P n t cs ∧ ((isAggT P t = true ∧ x = .agg cs) ∨ (isAggT P t = false ∧ cs = [x]))
def TyAll (P : Program) : List TypeId → List V → Prop
  | [], xs => xs = []
  | t :: ts, xs => ∃ y ys, xs = y :: ys ∧ TyA P t y ∧ TyAll P ts ys
theorem agg_ok {base : Nat} {t : TypeId} {v : Value} (h : Value.okWide P W .any base t v) : isAggT P t = true ↔ ∃ cs, v = .agg cs := by
  cases hu : P.underlying t with
  | none => simp [Value.okWide, hu, Cell.okWide, Cell.ok] at h
  | some d => cases d <;> cases v <;> simp_all [Value.okWide, Cell.okWide, Cell.ok, isAggT]
theorem trod_one {base : Nat} {t : TypeId} {v : Value} {d : DataW H} {ps : List MemPlace} (hok : Value.okWide P W .any base t v) (h : DataW.Trod enc P W 0 (fun _ => true) true t v d ps) : ∃ x, Rep (M0 W) x v ∧ TyA P t x ∧ vsz x ≤ Ytomjghlaoncpbaa.Rows.uptoBulk d := by
  obtain ⟨n, h⟩ := h
  obtain ⟨xs, h1, h2, h5⟩ := trod_rep n h
  by_cases ha : ∃ cs, v = .agg cs
  · obtain ⟨cs, rfl⟩ := ha
    refine ⟨.agg xs, .agg xs cs ?_ (fun i hi => ?_), ⟨n, xs, h2, .inl ⟨(agg_ok hok).2 ⟨cs, rfl⟩, rfl⟩⟩, by simpa [vsz] using h5⟩
    · have := h1.1; simpa [Value.cells] using this.symm
    · have := h1.2 i hi
      simpa [Value.cells, List.getD_eq_getElem?_getD, Array.getD_eq_getD_getElem?] using this
  · have hc : v.cells.toList = [v] := by cases v <;> first | rfl | (exact absurd ⟨_, rfl⟩ ha)
    rw [hc] at h1
    have hl := h1.1
    match xs, hl, h1, h2, h5 with
    | [x], _, h1, h2, h5 =>
      refine ⟨x, h1.2 0 (by simp), ⟨n, [x], h2, .inr ⟨by cases hg : isAggT P t with | false => rfl | true => exact absurd ((agg_ok hok).1 hg) ha, rfl⟩⟩, by simpa [vszL] using h5⟩
theorem trod_all {base : Nat} : ∀ {ts : List TypeId} {vs : List Value} {ds : List (DataW H)} {ps : List MemPlace}, (∀ (j : Nat) t v, ts[j]? = some t → vs[j]? = some v → Value.okWide P W .any base t v) → DataW.TrodAll enc P W 0 (fun _ => true) true ts vs ds ps → ∃ xs, RepL (M0 W) xs vs ∧ TyAll P ts xs ∧ vszL xs ≤ Ytomjghlaoncpbaa.Rows.uptoBulkAll ds
  | [], [], [], ps, _, h => ⟨[], RepL.nil, rfl, Nat.zero_le _⟩
  | t :: ts, v :: vs, d :: ds, ps, hok, h => by
    obtain ⟨p, q, h1, h2, _⟩ := h
    obtain ⟨x, hx, tx, sx⟩ := trod_one (hok 0 t v rfl rfl) h1
    obtain ⟨xs, hxs, txs, sxs⟩ := trod_all (fun j t v ht hv => hok (j + 1) t v (by simpa using ht) (by simpa using hv)) h2
    exact ⟨x :: xs, RepL.cons hx hxs, ⟨x, xs, rfl, tx, txs⟩, by simp only [vszL, Ytomjghlaoncpbaa.Rows.uptoBulkAll]; omega⟩
  | [], _ :: _, _, _, _, h => h.elim
  | [], [], _ :: _, _, _, h => h.elim
  | _ :: _, [], _, _, _, h => h.elim
  | _ :: _, _ :: _, [], _, _, h => h.elim
theorem trod_stays (hl : laidOutB P = true) {W' : World} (hb : Below W.heap.size W W') : ∀ {ts : List TypeId} {vs : List Value} {ds : List (DataW H)} {ps : List MemPlace}, (ts.all fun t => P.readableRec t && decide (t < P.types.size)) = true →
    DataW.TrodAll enc P W 0 (fun _ => true) true ts vs ds ps → DataW.TrodAll enc P W' 0 (fun b => decide (b < W.heap.size)) true ts vs ds ps
  | [], [], [], ps, _, h => h
  | t :: ts, v :: vs, d :: ds, ps, ha, h => by
    obtain ⟨p, q, h1, h2, h3⟩ := h
    simp only [List.all_cons, Bool.and_eq_true, decide_eq_true_eq] at ha
    exact ⟨p, q, Below.trod hl ha.1.1 ha.1.2 h1 hb (by obtain ⟨m, hm⟩ := h1; exact DataW.trod_lt m _ _ _ hm), trod_stays hl hb ha.2 h2, h3⟩
  | [], _ :: _, _, _, _, h => h.elim
  | [], [], _ :: _, _, _, h => h.elim
  | _ :: _, [], _, _, _, h => h.elim
  | _ :: _, _ :: _, [], _, _, h => h.elim
/-- From the logic's word of a call to the machine's. -/
theorem ACall.calls {g : FuncId} {args : List V} {Q : V → Heap → Prop} (h : ACall P g args Q []) {fn : Func} {c : Code} (hf : P.funcs[g]? = some fn) (hb : fn.body = some c) (hname : (fn.name == "runtime.NumGoroutine") = false) {vs : Array Value} (hr : RepL (M0 W) args vs.toList) :
    Calls P g vs W fun e W' => ∃ v, e = .returned v ∧ Below W.heap.size W W' ∧ ∃ M' x G', Rep M' x v ∧ Q x G' := by
  have hm : Mem ⟨W.heap.size, W⟩ (M0 W) [] W := ⟨Below.refl _ _, Nat.le_refl _, fun b o v hv => hv, fun b o ho => by simp [hget] at ho⟩
  have hcall : (callFunc g vs).run P W = .ok (.enter g vs) W := by
    simp only [callFunc, Sem.run_bind, run_program, Result.andThen_ok, hf, hname, hb, Bool.false_eq_true, if_false, Option.isNone_some, Sem.run_pure]
  have h1 := h _ _ _ vs hm hr ⟨some 0, .move (.const undef), 0, "", #[], none⟩ ⟨#[undef], []⟩ (fun a w => ∃ v, a.tmps[0]? = some v ∧ APost ⟨W.heap.size, W⟩ (M0 W) Q v w) (fun _ _ _ => False) (fun v w' hv => ⟨v, by simp [Act.put], hv⟩)
  rw [hcall, Oper.upon_enter] at h1
  refine h1.mono fun e W' he => ?_
  cases e with
  | returned v =>
    obtain ⟨v', h2, M', G', x, k1, k2, k3, k4⟩ := he
    have : v' = v := by simpa [Act.put] using h2.symm
    subst this
    exact ⟨_, rfl, k2.below, M', x, G', k3, k4⟩
  | panicked ch => exact he.elim
  | outgrown => obtain ⟨a, w, hf⟩ := he; exact hf.elim
end
end Go.Proofs.YtomjghlaoncpbaaV
