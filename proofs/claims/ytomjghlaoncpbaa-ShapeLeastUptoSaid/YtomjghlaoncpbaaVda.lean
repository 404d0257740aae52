/-
  Two structs of whole numbers, texts and truths: alike where all parts are.
-/
import Derived.Test.YtomjghlaoncpbaaVh
import Derived.Laws.StructEq
namespace Go.Proofs.YtomjghlaoncpbaaV
open Go.RowKit
set_option linter.unusedVariables false
set_option linter.unusedSimpArgs false
section
variable {P : Program} {w : World} {M : PM}
theorem run_eqK {t : TypeId} {x y : V} {u v : Value} {r : Bool} {d : Nat} (h : eqK (kindN P t) x y = some r) (hx : Rep M x u) (hy : Rep M y v) : (Op.equalIn (d + 1) t u v).run P w = .ok r w := by
  unfold eqK at h
  split at h
  · rename_i a b hk
    obtain rfl := hx.bool_inv
    obtain rfl := hy.bool_inv
    cases h
    have hu : P.underlying t = some .bool := by
      unfold kindN at hk
      split at hk <;> first | assumption | cases hk
    exact run_equalIn_bool' w d t a b hu
  · rename_i k a k' b hk
    obtain rfl := hx.int_inv
    obtain rfl := hy.int_inv
    split at h
    · rename_i e
      subst e
      cases h
      have hu : ∃ k2, P.underlying t = some (.int k2) := by
        unfold kindN at hk
        split at hk <;> first | (exact ⟨_, by assumption⟩) | cases hk
      obtain ⟨k2, hu⟩ := hu
      rw [run_equalIn_int w d t k k2 a b hu]
      congr 1
    · cases h
  · rename_i a b hk
    obtain rfl := hx.str_inv
    obtain rfl := hy.str_inv
    cases h
    have hu : P.underlying t = some .string := by
      unfold kindN at hk
      split at hk <;> first | assumption | cases hk
    rw [run_equalIn_string w d t _ _ hu]
    have e : ∀ l : List UInt8, (ByteArray.mk l.toArray).toList = l := fun l => by
      simp
    rw [e, e]
    congr 1
    rw [Bool.eq_iff_iff]
    simp
  · cases h
theorem run_eqFs {cs ds : List V} {us vs : Array Value} {d : Nat} (hc : RepL M cs us.toList) (hd : RepL M ds vs.toList) : ∀ {fs : List Field} {r : Bool}, fs.all (fun f => f.name != "_") = true → eqFs P cs ds (fs.map fun f => (f.offset, f.type)) = some r → (Op.eqFields (d + 1) us vs fs).run P w = .ok r w
  | [], r, _, h => by cases h; rfl
  | f :: fs, r, hn, h => by
    simp only [List.all_cons, Bool.and_eq_true, bne_iff_ne] at hn
    simp only [List.map_cons, eqFs] at h
    split at h
    · rename_i x y hx hy
      split at h
      · rename_i a b ha hb
        cases h
        obtain ⟨u, hu, ru⟩ := run_part (P := P) (w := w) hc hx
        obtain ⟨v, hv, rv⟩ := run_part (P := P) (w := w) hd hy
        have h1 := run_eqK (w := w) (d := d) ha ru rv
        have h2 := run_eqFs (d := d) hc hd hn.2 hb
        simp only [Op.eqFields, hn.1, ne_eq, not_false_eq_true, if_true, Sem.run_bind, hu, hv, h1, Result.andThen_ok]
        cases a
        · simp
        · simpa using h2
      · cases h
    · cases h
theorem run_eqS {t : TypeId} {fs : List (Nat × TypeId)} {cs ds : List V} {u v : Value} {r : Bool} (hf : flatS P t = some fs) (h : eqFs P cs ds fs = some r) (hu : Rep M (.agg cs) u) (hv : Rep M (.agg ds) v) :
    (∃ p q, u = .agg p ∧ v = .agg q) ∧ P.eqGuardType P.depth t = false ∧ (binOp .eql t u v).run P w = .ok (.bool r) w ∧ (binOp .neq t u v).run P w = .ok (.bool (!r)) w := by
  obtain ⟨us, rfl, hc⟩ := hu.agg_inv
  obtain ⟨vs, rfl, hd⟩ := hv.agg_inv
  unfold flatS at hf
  split at hf
  · rename_i fl hul
    split at hf
    · rename_i hb
      simp only [Bool.and_eq_true, Bool.not_eq_true'] at hb
      obtain ⟨⟨hb1, hb2⟩, hb3⟩ := hb
      cases hf
      have hrun := run_eqFs (P := P) (w := w) (d := 9998) hc hd hb3 h
      have hfl : P.fieldsOf t = fl := by simp [Program.fieldsOf, hul]
      have heq : (Op.equalIn 10000 t (.agg us) (.agg vs)).run P w = .ok r w := by
        rw [run_equalIn_struct w 9999 t us vs (by rw [hfl]; exact hul) hb1, hfl]
        exact hrun
      refine ⟨⟨us, vs, rfl, rfl⟩, hb2, ?_, ?_⟩
      · rw [run_eql_struct, heq]; rfl
      · rw [run_neq_struct, heq]; rfl
    · cases hf
  · cases hf
end
end Go.Proofs.YtomjghlaoncpbaaV
