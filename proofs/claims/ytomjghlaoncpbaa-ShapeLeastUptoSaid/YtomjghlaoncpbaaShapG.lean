import Derived.Test.YtomjghlaoncpbaaShapF
import Derived.Test.YtomjghlaoncpbaaVu
set_option linter.unusedSimpArgs false
set_option linter.unusedVariables false
namespace Go.Proofs.Ytomjghlaoncpbaa
open Go.Proofs.YtomjghlaoncpbaaV
set_option maxHeartbeats 400000
set_option maxRecDepth 100000
/-- shape.Fits -/
theorem q_Fits (p : Prgm) (t : Typ) (v : Val) (n : Nat) (hp : o56 p.2.2.2.1) (hn : v.sz ≤ n) (ht : OkTyp t) (hv : OkVal v) : Quiet Try.prog 29 [.agg (cPrg p), .agg (cTyp t), .agg (cV v)] (.bool (fitsF p n [] t v)) := by
  refine Quiet.weak fun G => ?_
  refine acall_body (rs := [.tmp 6]) Try.func29 rfl rfl Try.ntmps29 (by kernel_rfl) (Nat.le_of_ble_eq_true rfl) ?_
  refine aw_sr rfl ?_
  simp only [go_sem, reduceIte, Nat.reduceEqDiff, Nat.reduceAdd, Nat.reduceMul, Nat.reduceSub, Nat.reduceLeDiff, Nat.reduceLT, reduceCtorEq]
  intro b3 hb3 b4 hb4 b5 hb5
  refine aw_box3 hb3 hb4 hb5 fun B hsB h3 h4 h5 _ _ _ _ _ _ => ?_
  refine aw_sr rfl ?_
  simp only [go_sem, reduceIte, Nat.reduceEqDiff, Nat.reduceAdd, Nat.reduceMul, Nat.reduceSub, Nat.reduceLeDiff, Nat.reduceLT, reduceCtorEq, h3, h4, h5, e62, cTyp, cV]
  refine goA_q (Quiet.args (q_fits p hp n [] t v hn (fun _ h => by cases h) ht hv) ?_) ?_
  · refine .cons (Vle.aggL ?_) (VleL.refl _)
    refine .cons (Vle.refl _) (.cons (Vle.refl _) (.cons (Vle.refl _) (.cons Vle.untag (.cons Vle.untag .nil))))
  simp only [go_sem, reduceIte, Nat.reduceEqDiff, Nat.reduceAdd, Nat.reduceMul, Nat.reduceSub, Nat.reduceLeDiff, Nat.reduceLT, reduceCtorEq]
  exact aw_ret ⟨trivial, _, rfl, Vle.refl _, hsB⟩
/-- The reference's. -/
theorem q_rFits (p : Prgm) (t : Typ) (v : Val) (n : Nat) (hp : o56 p.2.2.2.1) (hn : v.sz ≤ n) (ht : OkTyp t) (hv : OkVal v) : Quiet Try.prog 33 [.agg (cPrg p), .agg (cTyp t), .agg (cV v)] (.bool (fitsF p n [] t v)) := by
  refine Quiet.weak fun G => ?_
  refine acall_body (rs := [.tmp 6]) Try.func33 rfl rfl Try.ntmps33 (by kernel_rfl) (Nat.le_of_ble_eq_true rfl) ?_
  refine aw_sr rfl ?_
  simp only [go_sem, reduceIte, Nat.reduceEqDiff, Nat.reduceAdd, Nat.reduceMul, Nat.reduceSub, Nat.reduceLeDiff, Nat.reduceLT, reduceCtorEq]
  intro b3 hb3 b4 hb4 b5 hb5
  refine aw_box3 hb3 hb4 hb5 fun B hsB h3 h4 h5 _ _ _ _ _ _ => ?_
  refine aw_sr rfl ?_
  simp only [go_sem, reduceIte, Nat.reduceEqDiff, Nat.reduceAdd, Nat.reduceMul, Nat.reduceSub, Nat.reduceLeDiff, Nat.reduceLT, reduceCtorEq, h3, h4, h5, e62, cTyp, cV]
  refine goA_by (a_fits p hp n [] t v .nilp B hn (fun _ h => by cases h) ht hv rfl) fun y G2 hy => ?_
  obtain ⟨rfl, rfl⟩ := hy
  simp only [go_sem, reduceIte, Nat.reduceEqDiff, Nat.reduceAdd, Nat.reduceMul, Nat.reduceSub, Nat.reduceLeDiff, Nat.reduceLT, reduceCtorEq]
  exact aw_ret ⟨trivial, _, rfl, Vle.refl _, hsB⟩
/-- The empty program. -/
def zPrg : Prgm := ([], 0, ([], true), ([], true), ([], true), ([], true), ([], true), ([], true))
theorem zPrg_ok : o56 zPrg.2.2.2.1 := ⟨fun _ => rfl, by decide, fun d h => by cases h⟩
end Go.Proofs.Ytomjghlaoncpbaa
