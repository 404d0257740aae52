import Derived.Test.YtomjghlaoncpbaaSolveI
import Derived.Test.YtomjghlaoncpbaaSolveD0
set_option linter.unusedSimpArgs false
set_option linter.unusedVariables false
namespace Go.Proofs.Ytomjghlaoncpbaa.solveChecks
open Go.Proofs.YtomjghlaoncpbaaV
set_option maxHeartbeats 400000
set_option maxRecDepth 100000
theorem cmp_less : ∀ a b : List UInt8, (Lib.compareBytes a b < 0 ↔ Op.bytesLess a b = true) ∧ (Lib.compareBytes a b = 0 ↔ a = b)
  | [], [] => by simp [Lib.compareBytes, Op.bytesLess]
  | [], _ :: _ => by simp [Lib.compareBytes, Op.bytesLess]
  | _ :: _, [] => by simp [Lib.compareBytes, Op.bytesLess]
  | a :: l, b :: bs => by
    have ih := cmp_less l bs
    simp only [Lib.compareBytes, Op.bytesLess]
    by_cases h1 : a < b
    · have : ¬ a = b := fun e => by subst e; exact absurd h1 (UInt8.lt_irrefl a)
      simp [h1, this]
    · by_cases h2 : b < a
      · have : ¬ a = b := fun e => by subst e; exact absurd h2 (UInt8.lt_irrefl a)
        simp [h1, h2, this]
      · have : a = b := by
          have g1 : ¬ a.toNat < b.toNat := h1
          have g2 : ¬ b.toNat < a.toNat := h2
          exact UInt8.toNat_inj.1 (by omega)
        subst this
        simpa [h1] using ih
theorem ord_same (a b : Mo) : decide (0 ≤ ordF a b) = ordR a b := by
  obtain ⟨h1, h2⟩ := cmp_less a.1 b.1
  unfold ordF ordR orF orF orF cmpI
  by_cases e : a.1 = b.1
  · have e0 := h2.2 e
    have hl : Op.bytesLess a.1 b.1 = false := by
      rw [← Bool.not_eq_true, ← h1]; omega
    rw [if_pos e0, hl, decide_eq_true e]
    split <;> split <;> first | (simp; omega) | simp
    all_goals split <;> simp <;> omega
  · have e0 : ¬ Lib.compareBytes a.1 b.1 = 0 := fun q => e (h2.1 q)
    rw [if_neg e0, decide_eq_false e]
    cases hl : Op.bytesLess a.1 b.1
    · have : ¬ Lib.compareBytes a.1 b.1 < 0 := by rw [h1, hl]; simp
      simp; omega
    · have : Lib.compareBytes a.1 b.1 < 0 := h1.2 hl
      simp; omega
theorem law (x0 : D106) (x1 : D55) (x2 : D62) (q0 : o106 x0) (q1 : o55 x1) (q2 : o62 x2) : Quiet Try.prog 11 [.sl (x0.1.map e108) x0.2 .no, .sl (x1.1.map e115) x1.2 .no, .agg (e62 x2)] (.bool true) := by
  have hms : ∀ m ∈ x0.1, OkMo m := fun m hm => by
    obtain ⟨g1, _, _, g2, g3⟩ := q0.2.2 m hm
    exact ⟨le_bulk g1, g2, fun u hu => le_bulk (g3 u hu).1⟩
  have h1 := q_Check x0.1 x0.2 .no q0.2.1 hms
  have h2 := q_RegisterFault x0.1 x0.2 .no q0.2.1 hms
  rw [show (fun a b => decide (0 ≤ ordF a b)) = ordR from funext fun a => funext fun b => ord_same a b] at h1
  have hu : ∀ u ∈ x1.1, (u.1.length : Int) ≤ 9223372036854775807 := fun u hu => le_bulk (q1.2.2 u hu).1
  have h3 := q_Wants x1.1 x1.2 .no q1.2.1 hu
  have h4 := q_UsesFault x1.1 x1.2 .no q1.2.1 hu
  obtain ⟨nm, ver, ⟨us, unl⟩, c3, c4, c5, c6, c7⟩ := x2
  obtain ⟨g1, _, ⟨g2, g3, g4⟩, _⟩ := q2
  have hn : (nm.length : Int) ≤ 9223372036854775807 := le_bulk g1
  refine Quiet.weak fun G => ?_
  refine acall_body (rs := [.tmp 6]) Try.func11 rfl rfl Try.ntmps11 (by kernel_rfl) (Nat.le_of_ble_eq_true rfl) ?_
  refine aw_sr rfl ?_
  simp only [go_sem, reduceIte, Nat.reduceEqDiff, Nat.reduceAdd, Nat.reduceMul, Nat.reduceSub, Nat.reduceLeDiff, Nat.reduceLT, reduceCtorEq, e62]
  intro b hb
  refine aw_sr rfl ?_
  simp only [go_sem, reduceIte, Nat.reduceEqDiff, Nat.reduceAdd, Nat.reduceMul, Nat.reduceSub, Nat.reduceLeDiff, Nat.reduceLT, reduceCtorEq]
  refine goA_q (q_Of nm ver us unl .no c3 c4 c5 c6 c7 g3 g2) ?_
  simp only [go_sem, reduceIte, Nat.reduceEqDiff, Nat.reduceAdd, Nat.reduceMul, Nat.reduceSub, Nat.reduceLeDiff, Nat.reduceLT, reduceCtorEq]
  intro b2 hb2
  have hne : ¬ b2 = b := by intro e; subst e; rw [hget_cons, if_pos rfl] at hb2; cases hb2
  refine aw_srd [(0,true),(1,true),(2,true),(3,true),(4,true),(5,true),(6,true),(7,true),(8,true),(9,true),(10,true),(11,true),(12,true),(13,true),(14,true),(15,true),(16,true),(17,true),(18,true),(19,true),(20,true),(21,true),(22,true),(23,true),(24,true),(25,true),(26,true),(27,true),(28,true),(29,true),(30,true),(31,true),(32,true),(33,true),(34,true),(35,true),(36,true),(37,true),(38,true),(39,true),(40,true),(41,true),(42,true),(43,true),(44,true),(45,true)] mixed rfl (by kernel_rfl) ?_
  simp only [go_sem, reduceIte, Nat.reduceEqDiff, Nat.reduceAdd, Nat.reduceMul, Nat.reduceSub, Nat.reduceLeDiff, Nat.reduceLT, reduceCtorEq, hget_cons, hne]
  refine goQ_by h1 ?_
  simp only [go_sem, reduceIte, Nat.reduceEqDiff, Nat.reduceAdd, Nat.reduceMul, Nat.reduceSub, Nat.reduceLeDiff, Nat.reduceLT, reduceCtorEq, hget_cons, hne]
  refine goQ_by h2 ?_
  simp only [go_sem, reduceIte, Nat.reduceEqDiff, Nat.reduceAdd, Nat.reduceMul, Nat.reduceSub, Nat.reduceLeDiff, Nat.reduceLT, reduceCtorEq, hget_cons, hne]
  refine goQg_by (fun _ => h3) ?_
  simp only [go_sem, reduceIte, Nat.reduceEqDiff, Nat.reduceAdd, Nat.reduceMul, Nat.reduceSub, Nat.reduceLeDiff, Nat.reduceLT, reduceCtorEq, hget_cons, hne]
  refine goQg_by (fun _ => h4) ?_
  simp only [go_sem, reduceIte, Nat.reduceEqDiff, Nat.reduceAdd, Nat.reduceMul, Nat.reduceSub, Nat.reduceLeDiff, Nat.reduceLT, reduceCtorEq, hget_cons, hne]
  refine goQg_by (fun _ => q_Name nm hn) ?_
  simp only [go_sem, reduceIte, Nat.reduceEqDiff, Nat.reduceAdd, Nat.reduceMul, Nat.reduceSub, Nat.reduceLeDiff, Nat.reduceLT, reduceCtorEq, hget_cons, hne]
  refine goQg_by (fun _ => q_ModuleName nm hn) ?_
  simp only [go_sem, reduceIte, Nat.reduceEqDiff, Nat.reduceAdd, Nat.reduceMul, Nat.reduceSub, Nat.reduceLeDiff, Nat.reduceLT, reduceCtorEq, hget_cons, hne]
  refine goQg_by (fun _ => q_EqualUse us us unl unl .no .no (le_bulk g3)) ?_
  simp only [go_sem, reduceIte, Nat.reduceEqDiff, Nat.reduceAdd, Nat.reduceMul, Nat.reduceSub, Nat.reduceLeDiff, Nat.reduceLT, reduceCtorEq, hget_cons, hne]
  refine goQg_by (fun _ => q_Name [97] (by decide)) ?_
  simp only [go_sem, reduceIte, Nat.reduceEqDiff, Nat.reduceAdd, Nat.reduceMul, Nat.reduceSub, Nat.reduceLeDiff, Nat.reduceLT, reduceCtorEq, hget_cons, hne]
  refine aw_ret ⟨trivial, _, rfl, ?_, fun b' o' h => hsub_cons hb2 _ _ (hsub_cons hb _ _ h)⟩
  rw [show isName [97] = true by decide, beq_self_eq_true]
  exact Vle.refl _
end Go.Proofs.Ytomjghlaoncpbaa.solveChecks
