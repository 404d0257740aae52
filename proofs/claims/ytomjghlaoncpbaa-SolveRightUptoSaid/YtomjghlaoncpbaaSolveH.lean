import Derived.Test.YtomjghlaoncpbaaSolveG
set_option linter.unusedSimpArgs false
set_option linter.unusedVariables false
namespace Go.Proofs.Ytomjghlaoncpbaa
open Go.Proofs.YtomjghlaoncpbaaV
set_option maxHeartbeats 400000
set_option maxRecDepth 100000
def wantsF (us : List (List UInt8 × Int × Int)) : Int := if 5 < us.length then 2 else usesF us
/-- What is wrong with a register, where 'le' holds of two that follow each other in no order. -/
def prevBad (le : Mo → Mo → Bool) (p : Option Mo) (m : Mo) : Bool := match p with | none => false | some q => le q m
def chkF (le : Mo → Mo → Bool) : Option Mo → List Mo → Int
  | _, [] => 0
  | p, m :: ms => if isName m.1 = false then 11 else if (decide (m.2.1 < 1) || decide (9999 < m.2.1)) = true then 1 else if wantsF m.2.2.1 ≠ 0 then wantsF m.2.2.1 else
    if prevBad le p m = true then 21 else chkF le (some m) ms
def prevOf (ms : List Mo) (i : Nat) : Option Mo := if 0 < i then ms[i - 1]? else none
structure OkMo (m : Mo) : Prop where
  name : (m.1.length : Int) ≤ 9223372036854775807
  len : m.2.2.1.length ≤ 1048576
  uses : ∀ u ∈ m.2.2.1, (u.1.length : Int) ≤ 9223372036854775807
theorem pred_nat (i : Nat) (h : (i : Int) ≤ 9223372036854775807) : (IntKind.i64.wrap ((i : Int) - 1)).toNat = i - 1 := by
  rw [wrap64 (by omega) (by omega)]; omega
theorem q_Check (ms : List Mo) (nl : Bool) (t : Tag) (hl : ms.length ≤ 1048576) (ho : ∀ m ∈ ms, OkMo m) : Quiet Try.prog 56 [.sl (ms.map eMo) nl t] (.int .i64 (if 30 < ms.length then 2 else chkF (fun a b => decide (0 ≤ ordF a b)) none ms)) := by
  refine Quiet.weak fun G => ?_
  refine acall_body (rs := [.tmp 2]) Try.func56 rfl rfl Try.ntmps56 (by kernel_rfl) (Nat.le_of_ble_eq_true rfl) ?_
  refine aw_sr rfl ?_
  simp only [go_sem, reduceIte, Nat.reduceEqDiff, Nat.reduceAdd, Nat.reduceMul, Nat.reduceSub, Nat.reduceLeDiff, Nat.reduceLT, reduceCtorEq]
  refine aw_seq fun K1 hK1 => ?_
  refine aw_sr rfl ?_
  simp only [go_sem, reduceIte, Nat.reduceEqDiff, Nat.reduceAdd, Nat.reduceMul, Nat.reduceSub, Nat.reduceLeDiff, Nat.reduceLT, reduceCtorEq]
  refine aw_if rfl (fun h => ?_) (fun h => ?_)
  · have h5 : 30 < ms.length := by
      have : (30 : Int) < (ms.length : Int) := by simpa using h
      omega
    refine aw_sr rfl ?_
    simp only [go_sem, reduceIte, Nat.reduceEqDiff, Nat.reduceAdd, Nat.reduceMul, Nat.reduceSub, Nat.reduceLeDiff, Nat.reduceLT, reduceCtorEq]
    refine aw_ret ⟨trivial, _, rfl, ?_, fun _ _ h => h⟩
    rw [if_pos h5]
    exact Vle.refl _
  · have h5 : ¬ 30 < ms.length := by
      have : (ms.length : Int) ≤ 30 := by simpa using h
      omega
    refine aw_skip (hK1 _ _ ?_)
    refine aw_seq fun K2 hK2 => ?_
    refine aw_sr rfl ?_
    simp only [go_sem, reduceIte, Nat.reduceEqDiff, Nat.reduceAdd, Nat.reduceMul, Nat.reduceSub, Nat.reduceLeDiff, Nat.reduceLT, reduceCtorEq]
    refine aw_range ms.length (S := Unit) (fun _ _ => [(9, .sl (ms.map eMo) nl t), (0, .sl (ms.map eMo) nl t)]) (fun _ _ => G) (fun i _ => chkF (fun a b => decide (0 ≤ ordF a b)) (prevOf ms i) (ms.drop i) = chkF (fun a b => decide (0 ≤ ordF a b)) none ms) () (by omega) ?_ (fun _ _ h => h) rfl rfl (fun _ _ => rfl) ?_ ?_ (by decide)
    · simp only [go_sem, reduceIte, Nat.reduceEqDiff, Nat.reduceAdd, Nat.reduceMul, Nat.reduceSub, Nat.reduceLeDiff, Nat.reduceLT, reduceCtorEq, Int.natCast_zero]
    · intro i _ hi he
      have hm := ho _ (List.getElem_mem hi)
      rw [List.drop_eq_getElem_cons hi, chkF] at he
      refine aw_sr rfl ?_
      simp only [go_sem, reduceIte, Nat.reduceEqDiff, Nat.reduceAdd, Nat.reduceMul, Nat.reduceSub, Nat.reduceLeDiff, Nat.reduceLT, reduceCtorEq, getD_map hi, eMo]
      refine ⟨⟨by omega, by omega, wid_map (g := eMo) (fun _ => rfl) _⟩, fun b hb => ?_⟩
      refine aw_seq fun K3 hK3 => ?_
      refine aw_sr rfl ?_
      simp only [go_sem, reduceIte, Nat.reduceEqDiff, Nat.reduceAdd, Nat.reduceMul, Nat.reduceSub, Nat.reduceLeDiff, Nat.reduceLT, reduceCtorEq]
      refine goA_q (q_Name _ hm.name) ?_
      simp only [go_sem, reduceIte, Nat.reduceEqDiff, Nat.reduceAdd, Nat.reduceMul, Nat.reduceSub, Nat.reduceLeDiff, Nat.reduceLT, reduceCtorEq]
      refine aw_if rfl (fun h => ?_) (fun h => ?_)
      · refine aw_sr rfl ?_
        simp only [go_sem, reduceIte, Nat.reduceEqDiff, Nat.reduceAdd, Nat.reduceMul, Nat.reduceSub, Nat.reduceLeDiff, Nat.reduceLT, reduceCtorEq]
        refine aw_ret ⟨trivial, _, rfl, ?_, hsub_cons hb⟩
        rw [if_pos (by simpa using h)] at he
        rw [if_neg h5, ← he]
        exact Vle.refl _
      · rw [if_neg (by simpa using h)] at he
        refine aw_skip (hK3 _ _ ?_)
        refine aw_seq fun K4 hK4 => ?_
        refine aw_sr rfl ?_
        simp only [go_sem, reduceIte, Nat.reduceEqDiff, Nat.reduceAdd, Nat.reduceMul, Nat.reduceSub, Nat.reduceLeDiff, Nat.reduceLT, reduceCtorEq]
        refine aw_if rfl (fun h => ?_) (fun h => ?_)
        · refine aw_sr rfl ?_
          simp only [go_sem, reduceIte, Nat.reduceEqDiff, Nat.reduceAdd, Nat.reduceMul, Nat.reduceSub, Nat.reduceLeDiff, Nat.reduceLT, reduceCtorEq]
          refine aw_ret ⟨trivial, _, rfl, ?_, hsub_cons hb⟩
          rw [if_pos (by simpa using h)] at he
          rw [if_neg h5, ← he]
          exact Vle.refl _
        · rw [if_neg (by simpa using h)] at he
          refine aw_skip (hK4 _ _ ?_)
          refine aw_seq fun K5 hK5 => ?_
          refine aw_sr rfl ?_
          simp only [go_sem, reduceIte, Nat.reduceEqDiff, Nat.reduceAdd, Nat.reduceMul, Nat.reduceSub, Nat.reduceLeDiff, Nat.reduceLT, reduceCtorEq]
          refine goA_q (q_Wants _ _ _ hm.len hm.uses) ?_
          simp only [go_sem, reduceIte, Nat.reduceEqDiff, Nat.reduceAdd, Nat.reduceMul, Nat.reduceSub, Nat.reduceLeDiff, Nat.reduceLT, reduceCtorEq]
          refine aw_sr rfl ?_
          simp only [go_sem, reduceIte, Nat.reduceEqDiff, Nat.reduceAdd, Nat.reduceMul, Nat.reduceSub, Nat.reduceLeDiff, Nat.reduceLT, reduceCtorEq]
          refine aw_if rfl (fun h => ?_) (fun h => ?_)
          · refine aw_sr rfl ?_
            simp only [go_sem, reduceIte, Nat.reduceEqDiff, Nat.reduceAdd, Nat.reduceMul, Nat.reduceSub, Nat.reduceLeDiff, Nat.reduceLT, reduceCtorEq]
            refine aw_ret ⟨trivial, _, rfl, ?_, hsub_cons hb⟩
            rw [if_pos (by simpa [wantsF] using h)] at he
            rw [if_neg h5, ← he]
            exact Vle.refl _
          · rw [if_neg (by simpa [wantsF] using h)] at he
            refine aw_skip (hK5 _ _ ?_)
            refine aw_srd [(0,true),(1,true),(2,true),(3,true),(4,true),(5,true),(6,true),(7,true),(8,true),(9,true),(10,true),(11,true)] mixed rfl (by kernel_rfl) ?_
            have hi' : i - 1 < ms.length := by omega
            simp only [go_sem, reduceIte, Nat.reduceEqDiff, Nat.reduceAdd, Nat.reduceMul, Nat.reduceSub, Nat.reduceLeDiff, Nat.reduceLT, reduceCtorEq, pred_nat i (by omega), getD_map hi', eMo]
            refine ⟨fun hg => ⟨?_, ?_, wid_map (g := eMo) (fun _ => rfl) _⟩, ?_⟩
            · have : 0 < i := by simpa using hg
              rw [wrap64 (by omega) (by omega)]; omega
            · rw [wrap64 (by omega) (by omega)]; omega
            have hq := q_order (ms[i - 1]) (ms[i])
            refine goQg_by (fun hg => hq) ?_
            simp only [go_sem, reduceIte, Nat.reduceEqDiff, Nat.reduceAdd, Nat.reduceMul, Nat.reduceSub, Nat.reduceLeDiff, Nat.reduceLT, reduceCtorEq]
            have hp : prevBad (fun a b => decide (0 ≤ ordF a b)) (prevOf ms i) ms[i] = (decide (0 < (i : Int)) && decide (0 ≤ ordF ms[i - 1] ms[i])) := by
              unfold prevOf prevBad
              by_cases h0 : 0 < i
              · rw [if_pos h0, List.getElem?_eq_getElem hi']
                have : (0 : Int) < i := by omega
                simp [h0]
              · rw [if_neg h0]
                have : ¬ (0 : Int) < i := by omega
                simp [h0]
            rw [hp] at he
            refine aw_if rfl (fun h => ?_) (fun h => ?_)
            · refine aw_sr rfl ?_
              simp only [go_sem, reduceIte, Nat.reduceEqDiff, Nat.reduceAdd, Nat.reduceMul, Nat.reduceSub, Nat.reduceLeDiff, Nat.reduceLT, reduceCtorEq]
              refine aw_ret ⟨trivial, _, rfl, ?_, hsub_cons hb⟩
              rw [if_pos (by simpa using h)] at he
              rw [if_neg h5, ← he]
              exact Vle.refl _
            · rw [if_neg (by simpa using h)] at he
              refine aw_skip ⟨(), ?_, ?_, hsub_cons hb⟩
              · rw [← he]; unfold prevOf; rw [if_pos (by omega), Nat.add_sub_cancel, List.getElem?_eq_getElem hi]
              simp only [go_sem, reduceIte, Nat.reduceEqDiff, Nat.reduceAdd, Nat.reduceMul, Nat.reduceSub, Nat.reduceLeDiff, Nat.reduceLT, reduceCtorEq]
    · intro _ he
      refine hK2 _ _ ?_
      refine aw_sr rfl ?_
      simp only [go_sem, reduceIte, Nat.reduceEqDiff, Nat.reduceAdd, Nat.reduceMul, Nat.reduceSub, Nat.reduceLeDiff, Nat.reduceLT, reduceCtorEq]
      refine aw_ret ⟨trivial, _, rfl, ?_, fun _ _ h => h⟩
      rw [if_neg h5, ← he, List.drop_length, chkF]
      exact Vle.refl _
end Go.Proofs.Ytomjghlaoncpbaa
