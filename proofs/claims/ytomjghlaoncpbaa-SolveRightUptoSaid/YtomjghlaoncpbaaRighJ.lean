import Derived.Test.YtomjghlaoncpbaaSolveO
import Derived.Test.YtomjghlaoncpbaaRighD
set_option linter.unusedSimpArgs false
set_option linter.unusedVariables false
namespace Go.Proofs.Ytomjghlaoncpbaa
open Go.Proofs.YtomjghlaoncpbaaV
set_option maxHeartbeats 400000
set_option maxRecDepth 100000
theorem usesF_ok : ∀ {us : List Us}, usesF us = 0 → ∀ u ∈ us, isName u.1 = true ∧ 1 ≤ u.2.1
  | [], _, _, h => by cases h
  | u :: us, h, x, hx => by
    rw [usesF] at h
    split at h
    · cases h
    rename_i h1
    split at h
    · cases h
    rename_i h2
    rcases List.mem_cons.1 hx with rfl | hx
    · refine ⟨by simpa using h1, ?_⟩
      simp only [useBad, Bool.or_eq_true, decide_eq_true_eq, not_or] at h2
      omega
    · exact usesF_ok h x hx
theorem wantsF_ok {us : List Us} (h : wantsF us = 0) : us.length ≤ 5 ∧ ∀ u ∈ us, isName u.1 = true ∧ 1 ≤ u.2.1 := by
  unfold wantsF at h
  split at h
  · cases h
  · exact ⟨by omega, usesF_ok h⟩
def ltM (a b : Mo) : Prop := Op.bytesLess a.1 b.1 = true ∨ (a.1 = b.1 ∧ a.2.1 < b.2.1)
theorem ltM_trans {a b c : Mo} (h : ltM a b) (k : ltM b c) : ltM a c := by
  rcases h with h | ⟨h1, h2⟩ <;> rcases k with k | ⟨k1, k2⟩
  · exact .inl (less_trans h k)
  · exact .inl (by rw [← k1]; exact h)
  · exact .inl (by rw [h1]; exact k)
  · exact .inr ⟨h1.trans k1, by omega⟩
theorem ordR_lt {a b : Mo} (h : ordR a b = false) : ltM a b := by
  simp only [ordR, Bool.or_eq_false_iff, Bool.not_eq_false', Bool.or_eq_true, decide_eq_true_eq, Bool.and_eq_false_iff, decide_eq_false_iff_not] at h
  obtain ⟨h1 | h1, h2⟩ := h
  · exact .inl h1
  · rcases h2 with h2 | h2
    · exact absurd h1 h2
    · exact .inr ⟨h1, by omega⟩
theorem chkF_ok : ∀ {l : List Mo} {p : Option Mo}, chkF ordR p l = 0 → (∀ m ∈ l, wantsF m.2.2.1 = 0) ∧ (∀ q, p = some q → ∀ m ∈ l, ltM q m) ∧ l.Pairwise ltM
  | [], _, _ => ⟨by simp, by simp, .nil⟩
  | m :: l, p, h => by
    rw [chkF] at h
    split at h
    · cases h
    split at h
    · cases h
    split at h
    · contradiction
    rename_i h3
    split at h
    · cases h
    rename_i h4
    obtain ⟨i1, i2, i3⟩ := chkF_ok h
    have h3' : wantsF m.2.2.1 = 0 := by simpa using h3
    refine ⟨fun x hx => ?_, fun q hq x hx => ?_, .cons (i2 m rfl) i3⟩
    · rcases List.mem_cons.1 hx with rfl | hx
      · exact h3'
      · exact i1 x hx
    · subst hq
      have h5 : ltM q m := ordR_lt (by simpa [prevBad] using h4)
      rcases List.mem_cons.1 hx with rfl | hx
      · exact h5
      · exact ltM_trans h5 (i2 m rfl x hx)
theorem name_ne {s : List UInt8} (h : isName s = true) : s ≠ [] := by
  rintro rfl
  simp [isName] at h
theorem runR_ok {ver : List UInt8 → Option Int} {l : List Mo} (hl : ∀ m ∈ l, ∀ u ∈ m.2.2.1, isName u.1 = true) : ∀ {k : Nat} {way : List Us} {seen S : List (List UInt8)}, runR ver l k way seen = some S → seen.Nodup → (∀ s ∈ seen, s ≠ [] ∧ ver s ≠ none) → (∀ u ∈ way, isName u.1 = true) → S.Nodup ∧ ∀ s ∈ S, s ≠ [] ∧ ver s ≠ none
  | 0, _, _, _, h, _, _, _ => by rw [runR] at h; cases h
  | k + 1, [], seen, S, h, h1, h2, _ => by rw [runR] at h; cases h; exact ⟨h1, h2⟩
  | k + 1, u :: way, seen, S, h, h1, h2, h3 => by
    rw [runR] at h
    split at h
    · cases h
    rename_i v hv
    split at h
    · cases h
    split at h
    · exact runR_ok hl h h1 h2 fun x hx => h3 x (by simp [hx])
    rename_i hn
    split at h
    · cases h
    rename_i m hm
    have hml : m ∈ l := List.mem_of_find?_eq_some hm
    refine runR_ok hl h ?_ ?_ ?_
    · rw [List.nodup_append]
      exact ⟨h1, by simp, fun a ha b hb e => hn (by rw [List.mem_singleton] at hb; rw [← hb, ← e]; exact ha)⟩
    · intro s hs
      rcases List.mem_append.1 hs with hs | hs
      · exact h2 s hs
      · rw [List.mem_singleton.1 hs]
        exact ⟨name_ne (h3 u (by simp)), by rw [hv]; simp⟩
    · intro x hx
      rcases List.mem_append.1 hx with hx | hx
      · exact h3 x (by simp [hx])
      · exact hl m hml x hx
theorem fill {A : Type} [DecidableEq A] : ∀ {S T : List A}, S.Nodup → (∀ s ∈ S, s ∈ T) → T.length ≤ S.length → T.Nodup ∧ ∀ t ∈ T, t ∈ S
  | [], T, _, _, h => by
    cases T with
    | nil => exact ⟨.nil, by simp⟩
    | cons a T => simp at h
  | s :: S, T, hn, hs, hl => by
    obtain ⟨A', B, rfl⟩ := List.append_of_mem (hs s (by simp))
    obtain ⟨hn1, hn2⟩ := List.nodup_cons.1 hn
    obtain ⟨i1, i2⟩ := fill (S := S) (T := A' ++ B) hn2 (fun x hx => by
      have := hs x (by simp [hx])
      simp only [List.mem_append, List.mem_cons] at this ⊢
      rcases this with h | rfl | h
      · exact .inl h
      · exact absurd hx hn1
      · exact .inr h) (by simp only [List.length_append, List.length_cons] at hl ⊢; omega)
    have hp : List.Perm (A' ++ s :: B) (s :: (A' ++ B)) := List.perm_middle
    refine ⟨hp.nodup_iff.2 (List.nodup_cons.2 ⟨fun h => hn1 (i2 s h), i1⟩), fun t ht => ?_⟩
    rcases List.mem_cons.1 (hp.mem_iff.1 ht) with rfl | h
    · simp
    · exact List.mem_cons_of_mem _ (i2 t h)
theorem sort_iff {ps : List Pk} : sortF ps = true ↔ ∀ i, i + 1 < ps.length → Op.bytesLess (ps.getD (i + 1) default).1 (ps.getD i default).1 = false := by
  unfold sortF
  rw [List.all_eq_true]
  constructor
  · intro h i hi
    have := h i (List.mem_range.2 (by omega))
    simp only [Bool.not_eq_true', decide_eq_false_iff_not] at this
    rw [← Bool.not_eq_true, ← (solveChecks.cmp_less _ _).1]
    exact this
  · intro h i hi
    have := h i (by have := List.mem_range.1 hi; omega)
    simp only [Bool.not_eq_true', decide_eq_false_iff_not]
    rw [(solveChecks.cmp_less _ _).1, this]
    simp
theorem strict_of : ∀ {ps : List Pk} {last : List UInt8}, sortF ps = true → (ps.map (·.1)).Nodup → (∀ p, ps.head? = some p → Op.bytesLess p.1 last = false ∧ p.1 ≠ last) → strictF last ps = true
  | [], _, _, _, _ => rfl
  | p :: ps, last, h1, h2, h3 => by
    obtain ⟨g1, g2⟩ := h3 p rfl
    rw [strictF, g1, decide_eq_false g2]
    simp only [Bool.or_self, Bool.not_false, Bool.true_and]
    rw [sort_iff] at h1
    refine strict_of (sort_iff.2 fun i hi => ?_) (List.nodup_cons.1 h2).2 fun q hq => ?_
    · have := h1 (i + 1) (by simp; omega)
      simpa using this
    · cases ps with
      | nil => cases hq
      | cons r ps =>
        cases hq
        have := h1 0 (by simp)
        refine ⟨by simpa using this, fun e => ?_⟩
        have := (List.nodup_cons.1 h2).1
        exact this (by simp [e])
theorem sort_of : ∀ {ps : List Pk} {last : List UInt8}, strictF last ps = true → sortF ps = true
  | [], _, _ => rfl
  | [p], _, _ => rfl
  | p :: q :: ps, last, h => by
    rw [strictF, Bool.and_eq_true] at h
    have ih := sort_of h.2
    have h2 := h.2
    rw [strictF, Bool.and_eq_true, Bool.not_eq_true', Bool.or_eq_false_iff] at h2
    rw [sort_iff] at ih ⊢
    intro i hi
    cases i with
    | zero => simpa using h2.1.1
    | succ i =>
      have := ih i (by simp at hi ⊢; omega)
      simpa using this
theorem right_same {l : List Mo} {root : List Us} {ps : List Pk} (h1 : chkF ordR none l = 0) (h2 : wantsF root = 0) :
    rightF l root ps = (if strictF [] ps = false then false else match runR (verP ps) l (root.length + 6 * ps.length + 1) root [] with | none => false | some seen => decide (seen.length = ps.length)) := by
  obtain ⟨c1, _, _⟩ := chkF_ok h1
  obtain ⟨_, w2⟩ := wantsF_ok h2
  unfold rightF
  cases hr : runR (verP ps) l (root.length + 6 * ps.length + 1) root [] with
  | none => simp
  | some S =>
    simp only
    cases hs : strictF [] ps with
    | true => rw [sort_of hs]; simp
    | false =>
      simp only [if_true]
      obtain ⟨r1, r2⟩ := runR_ok (fun m hm u hu => ((wantsF_ok (c1 m hm)).2 u hu).1) hr .nil (by simp) fun u hu => (w2 u hu).1
      by_cases hl : S.length = ps.length
      · cases hsf : sortF ps with
        | false => simp
        | true =>
          exfalso
          obtain ⟨f1, f2⟩ := fill (T := ps.map (·.1)) r1 (fun s hs => by
            have := (r2 s hs).2
            unfold verP at this
            cases hf : ps.find? (fun p => decide (p.1 = s)) with
            | none => rw [hf] at this; exact absurd rfl this
            | some p =>
              have hp : p.1 = s := by simpa using List.find?_some hf
              exact List.mem_map.2 ⟨p, List.mem_of_find?_eq_some hf, hp⟩) (by simp; omega)
          have := strict_of (last := []) hsf f1 fun p hp => ⟨by cases p.1 <;> rfl, (r2 p.1 (f2 p.1 (List.mem_map.2 ⟨p, List.mem_of_mem_head? hp, rfl⟩))).1⟩
          rw [hs] at this; cases this
      · simp [hl]
namespace solveRight
theorem law (x0 : D106) (x1 : D55) (x2 : D152) (q0 : o106 x0) (q1 : o55 x1) (q2 : o152 x2) : Quiet Try.prog 14 [.sl (x0.1.map e108) x0.2 .no, .sl (x1.1.map e115) x1.2 .no, .sl (x2.1.map e229) x2.2 .no] (.bool true) := by
  have hms : ∀ m ∈ x0.1, OkMo m := fun m hm => by
    obtain ⟨g1, _, _, g2, g3⟩ := q0.2.2 m hm
    exact ⟨le_bulk g1, g2, fun u hu => le_bulk (g3 u hu).1⟩
  have h1 := q_Check x0.1 x0.2 .no q0.2.1 hms
  rw [show (fun a b => decide (0 ≤ ordF a b)) = ordR from funext fun a => funext fun b => solveChecks.ord_same a b] at h1
  have h2 := q_RegisterFault x0.1 x0.2 .no q0.2.1 hms
  have hu : ∀ u ∈ x1.1, (u.1.length : Int) ≤ 9223372036854775807 := fun u hu => le_bulk (q1.2.2 u hu).1
  have hz : ∀ {l : List Mo}, (if 30 < l.length then (2 : Int) else chkF ordR none l) = 0 → chkF ordR none l = 0 := fun h => by
    split at h
    · cases h
    · exact h
  have hA := q_Right x0.1 x0.2 x1.1 x1.2 x2.1 x2.2 q0.2.1 hms q1.2.1 q1.1 hu q2.2.1 _ h1 (fun h m hm => (wantsF_ok ((chkF_ok (hz h)).1 m hm)).1)
  have hB := q_refRight x0.1 x0.2 x1.1 x1.2 x2.1 x2.2 q0.2.1 hms q1.2.1 hu q2.2.1 _ h2 (fun h => by
    obtain ⟨c1, _, c3⟩ := chkF_ok (hz h)
    refine ⟨fun m hm => (wantsF_ok (c1 m hm)).1, fun m hm u hu => ((wantsF_ok (c1 m hm)).2 u hu).2, c3.imp fun {a b} hab he => ?_⟩
    rcases hab with h | ⟨_, h⟩
    · rw [he.1, less_irrefl] at h; cases h
    · omega) (fun h u hu => ((wantsF_ok h).2 u hu).2)
  have hC := q_Right [] true [] true [] true (by simp) (by simp) (by simp) (by simp) (by simp) (by simp) _ (q_Check [] true .no (by simp) (by simp)) (by simp)
  refine Quiet.weak fun G => ?_
  refine acall_body (rs := [.tmp 6]) Try.func14 rfl rfl Try.ntmps14 (by kernel_rfl) (Nat.le_of_ble_eq_true rfl) ?_
  refine aw_sr rfl ?_
  simp only [go_sem, reduceIte, Nat.reduceEqDiff, Nat.reduceAdd, Nat.reduceMul, Nat.reduceSub, Nat.reduceLeDiff, Nat.reduceLT, reduceCtorEq]
  refine aw_sr rfl ?_
  simp only [go_sem, reduceIte, Nat.reduceEqDiff, Nat.reduceAdd, Nat.reduceMul, Nat.reduceSub, Nat.reduceLeDiff, Nat.reduceLT, reduceCtorEq]
  refine goA_q hA ?_
  simp only [go_sem, reduceIte, Nat.reduceEqDiff, Nat.reduceAdd, Nat.reduceMul, Nat.reduceSub, Nat.reduceLeDiff, Nat.reduceLT, reduceCtorEq]
  refine goA_q hB ?_
  simp only [go_sem, reduceIte, Nat.reduceEqDiff, Nat.reduceAdd, Nat.reduceMul, Nat.reduceSub, Nat.reduceLeDiff, Nat.reduceLT, reduceCtorEq]
  refine goH_q (fun hg => hC.args (.cons Vle.untag (.cons Vle.untag (.cons Vle.untag .nil)))) ?_
  simp only [go_sem, reduceIte, Nat.reduceEqDiff, Nat.reduceAdd, Nat.reduceMul, Nat.reduceSub, Nat.reduceLeDiff, Nat.reduceLT, reduceCtorEq]
  refine aw_ret ⟨trivial, _, rfl, ?_, fun _ _ h => h⟩
  have e1 : (if chkF (fun a b => decide (0 ≤ ordF a b)) none [] ≠ 0 ∨ wantsF [] ≠ 0 then false else rightF [] [] []) = true := rfl
  rw [e1]
  by_cases hb : (if 30 < x0.1.length then (2 : Int) else chkF ordR none x0.1) ≠ 0 ∨ wantsF x1.1 ≠ 0
  · rw [if_pos hb, if_pos hb]; exact Vle.refl _
  · rw [if_neg hb, if_neg hb]
    simp only [not_or, ne_eq, Decidable.not_not] at hb
    rw [right_same (hz hb.1) hb.2]
    cases strictF [] x2.1 with
    | false => exact Vle.refl _
    | true =>
      cases runR (verP x2.1) x0.1 (x1.1.length + 6 * x2.1.length + 1) x1.1 [] with
      | none => exact Vle.refl _
      | some S =>
        simp only [Bool.true_eq_false, if_false, beq_self_eq_true, Bool.and_true]
        exact Vle.refl _
end solveRight
end Go.Proofs.Ytomjghlaoncpbaa
