import Derived.Test.YtomjghlaoncpbaaShapG
import Derived.Test.YtomjghlaoncpbaaFitsD
import Derived.Test.YtomjghlaoncpbaaValB
set_option linter.unusedSimpArgs false
set_option linter.unusedVariables false
namespace Go.Proofs.Ytomjghlaoncpbaa.shapeFits
open Go.Proofs.YtomjghlaoncpbaaV
set_option maxHeartbeats 400000
set_option maxRecDepth 100000
theorem law (p : Prgm) (t : Typ) (v : Val) (q0 : o62 p) (q1 : o65 t) (q2 : oVal v) : Quiet Try.prog 5 [.agg (e62 p), .agg (e65 t), .agg (eVal v)] (.bool true) := by
  have hps := q_ProgramSmall p q0
  obtain ⟨_, _, _, o4, _⟩ := q0
  have hF := q_Fits p t v v.sz o4 (Nat.le_refl _) q1.1 q2.1
  have hR := q_rFits p t v v.sz o4 (Nat.le_refl _) q1.1 q2.1
  have hA := q_Fits zPrg (.mk 1 [] [] true) (.mk 2 5 [] [] true) 1 zPrg_ok (by decide) (.mk (by decide) (by decide) (fun _ => rfl) (by decide) (fun a h => by cases h)) (.mk (by decide) (by decide) (by decide) (fun _ => rfl) (by decide) (fun a h => by cases h))
  rw [show fitsF zPrg 1 [] (.mk 1 [] [] true) (.mk 2 5 [] [] true) = true by rfl] at hA
  refine Quiet.weak fun G => ?_
  refine acall_body (rs := [.tmp 6]) Try.func5 rfl rfl Try.ntmps5 (by kernel_rfl) (Nat.le_of_ble_eq_true rfl) ?_
  refine aw_sr rfl ?_
  simp only [go_sem, reduceIte, Nat.reduceEqDiff, Nat.reduceAdd, Nat.reduceMul, Nat.reduceSub, Nat.reduceLeDiff, Nat.reduceLT, reduceCtorEq]
  intro b3 hb3 b4 hb4 b5 hb5
  refine aw_box3 hb3 hb4 hb5 fun B hsB h3 h4 h5 _ _ _ _ _ _ => ?_
  rw [eC] at h5
  rw [show e65 t = cTyp t from eTyp_eq t] at h4
  refine aw_seq fun K1 hK1 => ?_
  refine aw_sr rfl ?_
  simp only [go_sem, reduceIte, Nat.reduceEqDiff, Nat.reduceAdd, Nat.reduceMul, Nat.reduceSub, Nat.reduceLeDiff, Nat.reduceLT, reduceCtorEq]
  refine goA_q (Quiet.args hA ?_) ?_
  · repeat (first | exact .nil | refine .cons (Vle.refl _) ?_ | refine .cons Vle.untag ?_ | refine .cons (Vle.aggL ?_) ?_ | refine .cons (Vle.slE ?_) ?_)
  simp only [go_sem, reduceIte, Nat.reduceEqDiff, Nat.reduceAdd, Nat.reduceMul, Nat.reduceSub, Nat.reduceLeDiff, Nat.reduceLT, reduceCtorEq]
  refine aw_if rfl (fun h => by simp at h) (fun h => ?_)
  refine aw_skip (hK1 _ _ ?_)
  refine aw_seq fun K2 hK2 => ?_
  refine aw_sr rfl ?_
  simp only [go_sem, reduceIte, Nat.reduceEqDiff, Nat.reduceAdd, Nat.reduceMul, Nat.reduceSub, Nat.reduceLeDiff, Nat.reduceLT, reduceCtorEq, h3, h4, h5, e62, cTyp]
  refine goA_qb hps fun b1 => ?_
  simp only [go_sem, reduceIte, Nat.reduceEqDiff, Nat.reduceAdd, Nat.reduceMul, Nat.reduceSub, Nat.reduceLeDiff, Nat.reduceLT, reduceCtorEq, h4, cTyp]
  refine goH_qb (fun hg => q_TypesSmall1 t q1.2) fun b2 => ?_
  simp only [go_sem, reduceIte, Nat.reduceEqDiff, Nat.reduceAdd, Nat.reduceMul, Nat.reduceSub, Nat.reduceLeDiff, Nat.reduceLT, reduceCtorEq, h5, cV]
  refine goH_q (fun hg => q_ValueSmall v q2.2) ?_
  simp only [go_sem, reduceIte, Nat.reduceEqDiff, Nat.reduceAdd, Nat.reduceMul, Nat.reduceSub, Nat.reduceLeDiff, Nat.reduceLT, reduceCtorEq]
  refine aw_if rfl (fun h => ?_) (fun h => ?_)
  · refine aw_sr rfl ?_
    simp only [go_sem, reduceIte, Nat.reduceEqDiff, Nat.reduceAdd, Nat.reduceMul, Nat.reduceSub, Nat.reduceLeDiff, Nat.reduceLT, reduceCtorEq]
    exact aw_ret ⟨trivial, _, rfl, Vle.refl _, hsB⟩
  refine aw_skip (hK2 _ _ ?_)
  refine aw_srd [(0,true),(1,true),(2,true),(3,true),(4,true),(5,true),(6,true),(7,true),(8,true),(9,true)] mixed rfl (by kernel_rfl) ?_
  simp only [go_sem, reduceIte, Nat.reduceEqDiff, Nat.reduceAdd, Nat.reduceMul, Nat.reduceSub, Nat.reduceLeDiff, Nat.reduceLT, reduceCtorEq, h3, h4, h5, e62, cTyp, cV]
  refine goQ_by hF ?_
  simp only [go_sem, reduceIte, Nat.reduceEqDiff, Nat.reduceAdd, Nat.reduceMul, Nat.reduceSub, Nat.reduceLeDiff, Nat.reduceLT, reduceCtorEq, h3, h4, h5, e62, cTyp, cV]
  refine goQ_by hR ?_
  simp only [go_sem, reduceIte, Nat.reduceEqDiff, Nat.reduceAdd, Nat.reduceMul, Nat.reduceSub, Nat.reduceLeDiff, Nat.reduceLT, reduceCtorEq]
  refine aw_ret ⟨trivial, _, rfl, ?_, hsB⟩
  rw [beq_self_eq_true]; exact Vle.refl _
end Go.Proofs.Ytomjghlaoncpbaa.shapeFits
