import Derived.Test.YtomjghlaoncpbaaShapM
import Derived.Test.YtomjghlaoncpbaaShapG
import Derived.Test.YtomjghlaoncpbaaLeastD
import Derived.Test.YtomjghlaoncpbaaValB
set_option linter.unusedSimpArgs false
set_option linter.unusedVariables false
namespace Go.Proofs.Ytomjghlaoncpbaa.shapeLeast
open Go.Proofs.YtomjghlaoncpbaaV
set_option maxHeartbeats 400000
set_option maxRecDepth 100000
theorem okLeaf (k : Int) : OkVal (.mk (leafK k) 0 [] [] true) := by
  refine .mk ?_ (by decide) (by decide) (fun _ => rfl) (by decide) (fun a h => by cases h)
  unfold leafK; split
  · decide
  split
  · decide
  split <;> decide
theorem okZ : OkVal zVal := .mk (by decide) (by decide) (by decide) (fun _ => rfl) (by decide) (fun a h => by cases h)
theorem okS (p : Prgm) (hp : o56 p.2.2.2.1) (d : Int) (F : Typ → Val × Bool) (t : Typ) (ht : OkTyp t) (hF : ∀ a, OkTyp a → OkVal (F a).1) : OkVal (firstS p d F t).1 := by
  unfold firstS
  split
  · exact okLeaf _
  split
  · split
    · rename_i a ha
      split
      · exact okZ
      · exact .mk (by decide) (by decide) (by decide) (fun e => by cases e) (by show 1 ≤ 1048576; decide) (fun v hv => by
          rw [List.mem_singleton] at hv
          subst hv
          exact hF a (ht.arg (by rw [ha]; simp)))
    · exact okZ
  split
  · split
    · exact okZ
    · rename_i m hm
      have hmem := List.mem_of_find?_eq_some hm
      have hsome := List.find?_some hm
      have hname : m.1.length ≤ bulk := by
        cases hdf : dataF p t.name with
        | none => rw [hdf] at hmem; simp [zDat] at hmem
        | some d0 =>
          rw [hdf] at hmem
          exact ((hp.2.2 d0 (List.mem_of_find?_eq_some hdf)).2.2.2.2 m hmem).1
      simp only
      cases hg : gsF p (d - 1) F t m.1 with
      | none => rw [hg] at hsome; cases hsome
      | some l =>
        simp only [Option.getD_some]
        unfold gsF at hg
        cases hmk : makesF p t m.1 with
        | none => rw [hmk] at hg; cases hg
        | some ts =>
          obtain ⟨h6, hts⟩ := makesF_ok hp ht hmk
          rw [hmk] at hg
          simp only at hg
          split at hg
          · cases hg
          · unfold allF at hg
            split at hg
            · cases hg
              refine .mk (by decide) (by decide) hname (fun e => ?_) (by rw [List.length_map]; exact Nat.le_trans h6 (by decide)) (fun v hv => ?_)
              · rwa [List.isEmpty_iff] at e
              · obtain ⟨a, ha, rfl⟩ := List.mem_map.1 hv
                exact hF a (hts a ha)
            · cases hg
  · exact okZ
theorem okP (p : Prgm) (hp : o56 p.2.2.2.1) : ∀ (n : Nat) (t : Typ), OkTyp t → OkVal (firstP p n t).1
  | 0, t, ht => okS p hp 0 _ t ht fun _ _ => okZ
  | n + 1, t, ht => okS p hp _ _ t ht fun a ha => okP p hp n a ha
theorem okLeast {f : Nat → Val × Bool} (h : ∀ n, OkVal (f n).1) : OkVal (leastF f).1 := by
  unfold leastF
  split
  · exact h _
  · exact okZ
theorem law (p : Prgm) (t : Typ) (q0 : o62 p) (q1 : o65 t) : Quiet Try.prog 9 [.agg (e62 p), .agg (e65 t)] (.bool true) := by
  have hps := q_ProgramSmall p q0
  obtain ⟨_, _, _, o4, _⟩ := q0
  have hF := q_First p o4 t q1.1
  have hR := q_ShapeFirst p o4 t q1.1
  rw [show (fun n => firstR p n [] t) = fun n => firstP p n t from funext fun n => (first_same p n t [] t rfl).symm] at hR
  have hA := q_First zPrg zPrg_ok (.mk 3 [] [] true) (.mk (by decide) (by decide) (fun _ => rfl) (by decide) (fun a h => by cases h))
  rw [show leastF (fun n => firstP zPrg n (.mk 3 [] [] true)) = (.mk 4 0 [] [] true, 0) by rfl] at hA
  have hok := okLeast (f := fun n => firstP p n t) fun n => okP p o4 n t q1.1
  generalize leastF (fun n => firstP p n t) = X at hF hR hok
  have hS := q_sameValue X.1 X.1 hok
  rw [sameV_refl] at hS
  refine Quiet.weak fun G => ?_
  refine acall_body (rs := [.tmp 4]) Try.func9 rfl rfl Try.ntmps9 (by kernel_rfl) (Nat.le_of_ble_eq_true rfl) ?_
  refine aw_sr rfl ?_  -- r0 @high.go:162
  simp only [go_sem, reduceIte, Nat.reduceEqDiff, Nat.reduceAdd, Nat.reduceMul, Nat.reduceSub, Nat.reduceLeDiff, Nat.reduceLT, reduceCtorEq]
  intro b2 hb2 b3 hb3
  refine aw_box2 hb2 hb3 fun B1 hs1 h2 h3 _ _ => ?_
  have hsB := hs1
  rw [show e65 t = cTyp t from eTyp_eq t] at h3
  refine aw_seq fun K1 hK1 => ?_
  refine aw_sr rfl ?_  -- r1 @high.go:163
  simp only [go_sem, reduceIte, Nat.reduceEqDiff, Nat.reduceAdd, Nat.reduceMul, Nat.reduceSub, Nat.reduceLeDiff, Nat.reduceLT, reduceCtorEq]
  refine goA_q (Quiet.args hA ?_) ?_
  · repeat (first | exact .nil | refine .cons (Vle.refl _) ?_ | refine .cons Vle.untag ?_ | refine .cons (Vle.aggL ?_) ?_ | refine .cons (Vle.slE ?_) ?_)
  simp only [go_sem, reduceIte, Nat.reduceEqDiff, Nat.reduceAdd, Nat.reduceMul, Nat.reduceSub, Nat.reduceLeDiff, Nat.reduceLT, reduceCtorEq, leastV]
  intro b5 hb5
  refine aw_box1 hb5 fun B2 hs2 h5 => ?_
  replace h2 := hs2 _ _ h2
  replace h3 := hs2 _ _ h3
  replace hsB := sub_trans hsB hs2
  refine aw_srq [(0,true),(1,true),(2,true),(3,true),(4,true),(5,true),(6,true)] rfl rfl ?_  -- r2 @high.go:163
  simp only [go_sem, reduceIte, Nat.reduceEqDiff, Nat.reduceAdd, Nat.reduceMul, Nat.reduceSub, Nat.reduceLeDiff, Nat.reduceLT, reduceCtorEq, h5]
  refine aw_if rfl (fun h => absurd h (by decide)) (fun h => ?_)
  refine aw_skip (hK1 _ _ ?_)
  refine aw_seq fun K2 hK2 => ?_
  refine aw_sr rfl ?_  -- r4 @high.go:166
  simp only [go_sem, reduceIte, Nat.reduceEqDiff, Nat.reduceAdd, Nat.reduceMul, Nat.reduceSub, Nat.reduceLeDiff, Nat.reduceLT, reduceCtorEq, h2, h3, e62, cTyp]
  refine goA_qb hps fun b1 => ?_
  simp only [go_sem, reduceIte, Nat.reduceEqDiff, Nat.reduceAdd, Nat.reduceMul, Nat.reduceSub, Nat.reduceLeDiff, Nat.reduceLT, reduceCtorEq, h3, cTyp]
  refine goH_qb (fun hg => q_TypesSmall1 t q1.2) fun b2 => ?_
  simp only [go_sem, reduceIte, Nat.reduceEqDiff, Nat.reduceAdd, Nat.reduceMul, Nat.reduceSub, Nat.reduceLeDiff, Nat.reduceLT, reduceCtorEq]
  refine aw_if rfl (fun h => ?_) (fun h => ?_)
  · refine aw_sr rfl ?_  -- r5 @high.go:167
    simp only [go_sem, reduceIte, Nat.reduceEqDiff, Nat.reduceAdd, Nat.reduceMul, Nat.reduceSub, Nat.reduceLeDiff, Nat.reduceLT, reduceCtorEq]
    exact aw_ret ⟨trivial, _, rfl, Vle.refl _, hsB⟩
  refine aw_skip (hK2 _ _ ?_)
  refine aw_sr rfl ?_  -- r6 @high.go:169
  simp only [go_sem, reduceIte, Nat.reduceEqDiff, Nat.reduceAdd, Nat.reduceMul, Nat.reduceSub, Nat.reduceLeDiff, Nat.reduceLT, reduceCtorEq, h2, h3, e62, cTyp]
  refine goA_q hF ?_
  simp only [go_sem, reduceIte, Nat.reduceEqDiff, Nat.reduceAdd, Nat.reduceMul, Nat.reduceSub, Nat.reduceLeDiff, Nat.reduceLT, reduceCtorEq, leastV, cV]
  intro b7 hb7
  refine aw_box1 hb7 fun B3 hs3 h7 => ?_
  replace h2 := hs3 _ _ h2
  replace h3 := hs3 _ _ h3
  replace hsB := sub_trans hsB hs3
  refine aw_sr rfl ?_  -- r7 @high.go:170
  simp only [go_sem, reduceIte, Nat.reduceEqDiff, Nat.reduceAdd, Nat.reduceMul, Nat.reduceSub, Nat.reduceLeDiff, Nat.reduceLT, reduceCtorEq, h2, h3, e62, cTyp]
  refine goA_q hR ?_
  simp only [go_sem, reduceIte, Nat.reduceEqDiff, Nat.reduceAdd, Nat.reduceMul, Nat.reduceSub, Nat.reduceLeDiff, Nat.reduceLT, reduceCtorEq, leastV, cV]
  intro b9 hb9
  refine aw_box1 hb9 fun B4 hs4 h9 => ?_
  replace h7 := hs4 _ _ h7
  replace hsB := sub_trans hsB hs4
  refine aw_sr rfl ?_  -- r8 @high.go:171
  simp only [go_sem, reduceIte, Nat.reduceEqDiff, Nat.reduceAdd, Nat.reduceMul, Nat.reduceSub, Nat.reduceLeDiff, Nat.reduceLT, reduceCtorEq, h7, h9]
  refine goA_q hS ?_
  simp only [go_sem, reduceIte, Nat.reduceEqDiff, Nat.reduceAdd, Nat.reduceMul, Nat.reduceSub, Nat.reduceLeDiff, Nat.reduceLT, reduceCtorEq]
  exact aw_ret ⟨trivial, _, rfl, Vle.refl _, hsB⟩
end Go.Proofs.Ytomjghlaoncpbaa.shapeLeast
