import Derived.Test.YtomjghlaoncpbaaSolveH
set_option linter.unusedSimpArgs false
set_option linter.unusedVariables false
namespace Go.Proofs.Ytomjghlaoncpbaa
open Go.Proofs.YtomjghlaoncpbaaV
set_option maxHeartbeats 400000
set_option maxRecDepth 100000
/-- Two modules that follow each other in no order, as the reference asks it. -/
def ordR (a b : Mo) : Bool := !(Op.bytesLess a.1 b.1 || decide (a.1 = b.1)) || (decide (a.1 = b.1) && decide (b.2.1 ≤ a.2.1))
theorem q_RegisterFault (ms : List Mo) (nl : Bool) (t : Tag) (hl : ms.length ≤ 1048576) (ho : ∀ m ∈ ms, OkMo m) : Quiet Try.prog 57 [.sl (ms.map eMo) nl t] (.int .i64 (if 30 < ms.length then 2 else chkF ordR none ms)) := by
  refine Quiet.weak fun G => ?_
  refine acall_body (rs := [.tmp 2]) Try.func57 rfl rfl Try.ntmps57 (by kernel_rfl) (Nat.le_of_ble_eq_true rfl) ?_
  refine aw_sr rfl ?_
  simp only [go_sem, reduceIte, Nat.reduceEqDiff, Nat.reduceAdd, Nat.reduceMul, Nat.reduceSub, Nat.reduceLeDiff, Nat.reduceLT, reduceCtorEq]
  refine aw_seq fun K1 hK1 => ?_
  refine aw_sr rfl ?_
  simp only [go_sem, reduceIte, Nat.reduceEqDiff, Nat.reduceAdd, Nat.reduceMul, Nat.reduceSub, Nat.reduceLeDiff, Nat.reduceLT, reduceCtorEq]
  refine aw_if rfl (fun h => ?_) (fun h => ?_)
  · have h5 : 30 < ms.length := by
      have : (30 : Int) < (ms.length : Int) := by simpa using h
      omega
    refine aw_sr rfl ?_
    simp only [go_sem, reduceIte, Nat.reduceEqDiff, Nat.reduceAdd, Nat.reduceMul, Nat.reduceSub, Nat.reduceLeDiff, Nat.reduceLT, reduceCtorEq]
    refine aw_ret ⟨trivial, _, rfl, ?_, fun _ _ h => h⟩
    rw [if_pos h5]
    exact Vle.refl _
  · have h5 : ¬ 30 < ms.length := by
      have : (ms.length : Int) ≤ 30 := by simpa using h
      omega
    refine aw_skip (hK1 _ _ ?_)
    refine aw_seq fun K2 hK2 => ?_
    refine aw_sr rfl ?_
    simp only [go_sem, reduceIte, Nat.reduceEqDiff, Nat.reduceAdd, Nat.reduceMul, Nat.reduceSub, Nat.reduceLeDiff, Nat.reduceLT, reduceCtorEq]
    refine aw_range ms.length (S := Unit) (fun _ _ => [(9, .sl (ms.map eMo) nl t), (0, .sl (ms.map eMo) nl t)]) (fun _ _ => G) (fun i _ => chkF ordR (prevOf ms i) (ms.drop i) = chkF ordR none ms) () (by omega) ?_ (fun _ _ h => h) rfl rfl (fun _ _ => rfl) ?_ ?_ (by decide)
    · simp only [go_sem, reduceIte, Nat.reduceEqDiff, Nat.reduceAdd, Nat.reduceMul, Nat.reduceSub, Nat.reduceLeDiff, Nat.reduceLT, reduceCtorEq, Int.natCast_zero]
    · intro i _ hi he
      have hm := ho _ (List.getElem_mem hi)
      rw [List.drop_eq_getElem_cons hi, chkF] at he
      refine aw_sr rfl ?_
      simp only [go_sem, reduceIte, Nat.reduceEqDiff, Nat.reduceAdd, Nat.reduceMul, Nat.reduceSub, Nat.reduceLeDiff, Nat.reduceLT, reduceCtorEq, getD_map hi, eMo]
      refine ⟨⟨by omega, by omega, wid_map (g := eMo) (fun _ => rfl) _⟩, fun b hb => ?_⟩
      refine aw_seq fun K3 hK3 => ?_
      refine aw_sr rfl ?_
      simp only [go_sem, reduceIte, Nat.reduceEqDiff, Nat.reduceAdd, Nat.reduceMul, Nat.reduceSub, Nat.reduceLeDiff, Nat.reduceLT, reduceCtorEq]
      refine goA_q (q_ModuleName _ hm.name) ?_
      simp only [go_sem, reduceIte, Nat.reduceEqDiff, Nat.reduceAdd, Nat.reduceMul, Nat.reduceSub, Nat.reduceLeDiff, Nat.reduceLT, reduceCtorEq]
      refine aw_if rfl (fun h => ?_) (fun h => ?_)
      · refine aw_sr rfl ?_
        simp only [go_sem, reduceIte, Nat.reduceEqDiff, Nat.reduceAdd, Nat.reduceMul, Nat.reduceSub, Nat.reduceLeDiff, Nat.reduceLT, reduceCtorEq]
        refine aw_ret ⟨trivial, _, rfl, ?_, hsub_cons hb⟩
        rw [if_pos (by simpa using h)] at he
        rw [if_neg h5, ← he]
        exact Vle.refl _
      · rw [if_neg (by simpa using h)] at he
        refine aw_skip (hK3 _ _ ?_)
        refine aw_seq fun K4 hK4 => ?_
        refine aw_sr rfl ?_
        simp only [go_sem, reduceIte, Nat.reduceEqDiff, Nat.reduceAdd, Nat.reduceMul, Nat.reduceSub, Nat.reduceLeDiff, Nat.reduceLT, reduceCtorEq]
        refine aw_if rfl (fun h => ?_) (fun h => ?_)
        · refine aw_sr rfl ?_
          simp only [go_sem, reduceIte, Nat.reduceEqDiff, Nat.reduceAdd, Nat.reduceMul, Nat.reduceSub, Nat.reduceLeDiff, Nat.reduceLT, reduceCtorEq]
          refine aw_ret ⟨trivial, _, rfl, ?_, hsub_cons hb⟩
          rw [if_pos (by simpa using h)] at he
          rw [if_neg h5, ← he]
          exact Vle.refl _
        · rw [if_neg (by simpa using h)] at he
          refine aw_skip (hK4 _ _ ?_)
          refine aw_seq fun K5 hK5 => ?_
          refine aw_sr rfl ?_
          simp only [go_sem, reduceIte, Nat.reduceEqDiff, Nat.reduceAdd, Nat.reduceMul, Nat.reduceSub, Nat.reduceLeDiff, Nat.reduceLT, reduceCtorEq]
          refine goA_q (q_UsesFault _ _ _ hm.len hm.uses) ?_
          simp only [go_sem, reduceIte, Nat.reduceEqDiff, Nat.reduceAdd, Nat.reduceMul, Nat.reduceSub, Nat.reduceLeDiff, Nat.reduceLT, reduceCtorEq]
          refine aw_sr rfl ?_
          simp only [go_sem, reduceIte, Nat.reduceEqDiff, Nat.reduceAdd, Nat.reduceMul, Nat.reduceSub, Nat.reduceLeDiff, Nat.reduceLT, reduceCtorEq]
          refine aw_if rfl (fun h => ?_) (fun h => ?_)
          · refine aw_sr rfl ?_
            simp only [go_sem, reduceIte, Nat.reduceEqDiff, Nat.reduceAdd, Nat.reduceMul, Nat.reduceSub, Nat.reduceLeDiff, Nat.reduceLT, reduceCtorEq]
            refine aw_ret ⟨trivial, _, rfl, ?_, hsub_cons hb⟩
            rw [if_pos (by simpa [wantsF] using h)] at he
            rw [if_neg h5, ← he]
            exact Vle.refl _
          · rw [if_neg (by simpa [wantsF] using h)] at he
            refine aw_skip (hK5 _ _ ?_)
            refine aw_srd [(0,true),(1,true),(2,true),(3,true),(4,true),(5,true),(6,true),(7,true),(8,true),(9,true),(10,true),(11,true),(12,true),(13,true),(14,true),(15,true),(16,true),(17,true),(18,true),(19,true),(20,true),(21,true),(22,true),(23,true),(24,true),(25,true),(26,true),(27,true),(28,true),(29,true),(30,true),(31,true),(32,true),(33,true),(34,true)] mixed rfl (by kernel_rfl) ?_
            have hi' : i - 1 < ms.length := by omega
            simp only [go_sem, reduceIte, Nat.reduceEqDiff, Nat.reduceAdd, Nat.reduceMul, Nat.reduceSub, Nat.reduceLeDiff, Nat.reduceLT, reduceCtorEq, pred_nat i (by omega), getD_map hi', eMo]
            have hb1 : decide ((0 : Int) < (i : Int)) = true → 0 ≤ IntKind.i64.wrap ((i : Int) - 1) := fun hg => by
              have : 0 < i := by simpa using hg
              rw [wrap64 (by omega) (by omega)]; omega
            have hb2 : IntKind.i64.wrap ((i : Int) - 1) < (ms.length : Int) := by rw [wrap64 (by omega) (by omega)]; omega
            refine ⟨fun hg => ⟨hb1 hg, hb2, wid_map (g := eMo) (fun _ => rfl) _⟩, fun hg => ⟨hb1 (by simp only [Bool.and_eq_true] at hg; exact hg.1), hb2, wid_map (g := eMo) (fun _ => rfl) _⟩, fun hg => ⟨hb1 (by simp only [Bool.and_eq_true] at hg; exact hg.1.1), hb2, wid_map (g := eMo) (fun _ => rfl) _⟩, ?_⟩
            have hp : prevBad ordR (prevOf ms i) ms[i] = (decide (0 < (i : Int)) && ordR ms[i - 1] ms[i]) := by
              unfold prevOf prevBad
              by_cases h0 : 0 < i
              · rw [if_pos h0, List.getElem?_eq_getElem hi']
                simp [h0]
              · rw [if_neg h0]
                simp [h0]
            rw [hp] at he
            refine aw_if rfl (fun h => ?_) (fun h => ?_)
            · refine aw_sr rfl ?_
              simp only [go_sem, reduceIte, Nat.reduceEqDiff, Nat.reduceAdd, Nat.reduceMul, Nat.reduceSub, Nat.reduceLeDiff, Nat.reduceLT, reduceCtorEq]
              refine aw_ret ⟨trivial, _, rfl, ?_, hsub_cons hb⟩
              rw [if_pos (by simpa [ordR] using h)] at he
              rw [if_neg h5, ← he]
              exact Vle.refl _
            · rw [if_neg (by simpa [ordR] using h)] at he
              refine aw_skip ⟨(), ?_, ?_, hsub_cons hb⟩
              · rw [← he]; unfold prevOf; rw [if_pos (by omega), Nat.add_sub_cancel, List.getElem?_eq_getElem hi]
              simp only [go_sem, reduceIte, Nat.reduceEqDiff, Nat.reduceAdd, Nat.reduceMul, Nat.reduceSub, Nat.reduceLeDiff, Nat.reduceLT, reduceCtorEq]
    · intro _ he
      refine hK2 _ _ ?_
      refine aw_sr rfl ?_
      simp only [go_sem, reduceIte, Nat.reduceEqDiff, Nat.reduceAdd, Nat.reduceMul, Nat.reduceSub, Nat.reduceLeDiff, Nat.reduceLT, reduceCtorEq]
      refine aw_ret ⟨trivial, _, rfl, ?_, fun _ _ h => h⟩
      rw [if_neg h5, ← he, List.drop_length, chkF]
      exact Vle.refl _
end Go.Proofs.Ytomjghlaoncpbaa
