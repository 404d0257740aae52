import Derived.Test.YtomjghlaoncpbaaSolveE
set_option linter.unusedSimpArgs false
set_option linter.unusedVariables false
namespace Go.Proofs.Ytomjghlaoncpbaa
open Go.Proofs.YtomjghlaoncpbaaV
set_option maxHeartbeats 400000
set_option maxRecDepth 100000
theorem q_Of (nm : List UInt8) (ver : Int) (us : List (List UInt8 × Int × Int)) (nl : Bool) (t : Tag) (c3 c4 c5 c6 c7 : V) (hl : us.length ≤ 1048576) (hnl : nl = true → us = []) : Quiet Try.prog 55 [.agg [.str nm, .int .i64 ver, .sl (us.map eUse) nl t, c3, c4, c5, c6, c7]] (.agg [.str nm, .int .i64 ver, .sl (us.map eUse) nl .no]) := by
  refine Quiet.weak fun G => ?_
  refine acall_body (rs := [.cell 2 108]) Try.func55 rfl rfl Try.ntmps55 (by kernel_rfl) (Nat.le_of_ble_eq_true rfl) ?_
  refine aw_sr rfl ?_
  simp only [go_sem, reduceIte, Nat.reduceEqDiff, Nat.reduceAdd, Nat.reduceMul, Nat.reduceSub, Nat.reduceLeDiff, Nat.reduceLT, reduceCtorEq]
  intro b hb b2 hb2
  have hne : ¬ b2 = b := by intro e; subst e; rw [hget_cons, if_pos rfl] at hb2; cases hb2
  refine aw_srd [(0,true),(1,true),(2,true),(3,true),(4,true),(5,true),(6,true),(7,true),(8,false)] mixed rfl (by kernel_rfl) ?_
  simp only [go_sem, reduceIte, Nat.reduceEqDiff, Nat.reduceAdd, Nat.reduceMul, Nat.reduceSub, Nat.reduceLeDiff, Nat.reduceLT, reduceCtorEq, hget_cons, hne, Nat.zero_add]
  refine goQ_by (q_CloneUse us nl t hl hnl) ?_
  simp only [go_sem, reduceIte, Nat.reduceEqDiff, Nat.reduceAdd, Nat.reduceMul, Nat.reduceSub, Nat.reduceLeDiff, Nat.reduceLT, reduceCtorEq, hget_cons, hne]
  refine aw_ret ⟨trivial, [.agg [.str nm, .int .i64 ver, .sl (us.map eUse) nl .no]], ?_, Vle.refl _, fun b' o' h => hsub_cons hb2 _ _ (hsub_cons hb _ _ h)⟩
  simp only [go_sem, reduceIte, Nat.reduceEqDiff, Nat.reduceAdd, Nat.reduceMul, Nat.reduceSub, Nat.reduceLeDiff, Nat.reduceLT, reduceCtorEq, resL, resOf, hget_cons]
end Go.Proofs.Ytomjghlaoncpbaa
