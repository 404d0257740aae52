import Derived.Test.YtomjghlaoncpbaaSolveB
set_option linter.unusedSimpArgs false
set_option linter.unusedVariables false
namespace Go.Proofs.Ytomjghlaoncpbaa
open Go.Proofs.YtomjghlaoncpbaaV
set_option maxHeartbeats 400000
set_option maxRecDepth 100000
def useBad (u : List UInt8 × Int × Int) : Bool := decide (u.2.1 < 1) || decide (9999 < u.2.2) || decide (u.2.2 < u.2.1)
/-- What is wrong with uses: the first that is wrong says it. -/
def usesF : List (List UInt8 × Int × Int) → Int
  | [] => 0
  | u :: us => if isName u.1 = false then 11 else if useBad u = true then 1 else usesF us
theorem hsub_cons {G : Heap} {b : Nat} {o : AObj} (h : hget G b = none) : ∀ b' o', hget G b' = some o' → hget ((b, o) :: G) b' = some o' := by
  intro b' o' h'
  rw [hget_cons, if_neg]
  · exact h'
  · intro e; subst e; rw [h] at h'; cases h'
theorem hset_self {G : Heap} {b : Nat} {o x : AObj} : hset ((b, o) :: G) b x = (b, x) :: G := by simp [hset]
attribute [go_sem] hget_self hset_self List.all_cons List.all_nil scalarV Nat.zero_add
theorem q_Wants (us : List (List UInt8 × Int × Int)) (nl : Bool) (t : Tag) (hl : us.length ≤ 1048576) (hn : ∀ u ∈ us, (u.1.length : Int) ≤ 9223372036854775807) : Quiet Try.prog 58 [.sl (us.map eUse) nl t] (.int .i64 (if 5 < us.length then 2 else usesF us)) := by
  refine Quiet.weak fun G => ?_
  refine acall_body (rs := [.tmp 2]) Try.func58 rfl rfl Try.ntmps58 (by kernel_rfl) (Nat.le_of_ble_eq_true rfl) ?_
  refine aw_sr rfl ?_
  simp only [go_sem, reduceIte, Nat.reduceEqDiff, Nat.reduceAdd, Nat.reduceMul, Nat.reduceSub, Nat.reduceLeDiff, Nat.reduceLT, reduceCtorEq]
  refine aw_seq fun K hK => ?_
  refine aw_sr rfl ?_
  simp only [go_sem, reduceIte, Nat.reduceEqDiff, Nat.reduceAdd, Nat.reduceMul, Nat.reduceSub, Nat.reduceLeDiff, Nat.reduceLT, reduceCtorEq]
  refine aw_if rfl (fun h => ?_) (fun h => ?_)
  · have h5 : 5 < us.length := by
      have : (5 : Int) < (us.length : Int) := by simpa using h
      omega
    refine aw_sr rfl ?_
    simp only [go_sem, reduceIte, Nat.reduceEqDiff, Nat.reduceAdd, Nat.reduceMul, Nat.reduceSub, Nat.reduceLeDiff, Nat.reduceLT, reduceCtorEq]
    refine aw_ret ⟨trivial, _, rfl, ?_, fun _ _ h => h⟩
    rw [if_pos h5]
    exact Vle.refl _
  · have h5 : ¬ 5 < us.length := by
      have : (us.length : Int) ≤ 5 := by simpa using h
      omega
    refine aw_skip (hK _ _ ?_)
    refine aw_seq fun K2 hK2 => ?_
    refine aw_sr rfl ?_
    simp only [go_sem, reduceIte, Nat.reduceEqDiff, Nat.reduceAdd, Nat.reduceMul, Nat.reduceSub, Nat.reduceLeDiff, Nat.reduceLT, reduceCtorEq]
    refine aw_range us.length (S := Unit) (fun _ _ => [(8, .sl (us.map eUse) nl t)]) (fun _ _ => G) (fun i _ => usesF (us.drop i) = usesF us) () (by omega) ?_ (fun _ _ h => h) rfl rfl (fun _ _ => rfl) ?_ ?_ (by decide)
    · simp only [go_sem, reduceIte, Nat.reduceEqDiff, Nat.reduceAdd, Nat.reduceMul, Nat.reduceSub, Nat.reduceLeDiff, Nat.reduceLT, reduceCtorEq, Int.natCast_zero]
    · intro i _ hi he
      rw [List.drop_eq_getElem_cons hi, usesF] at he
      refine aw_sr rfl ?_
      simp only [go_sem, reduceIte, Nat.reduceEqDiff, Nat.reduceAdd, Nat.reduceMul, Nat.reduceSub, Nat.reduceLeDiff, Nat.reduceLT, reduceCtorEq, getD_map hi, eUse]
      refine ⟨⟨by omega, by omega, wid_map (g := eUse) (fun _ => rfl) _⟩, fun b hb => ?_⟩
      refine aw_seq fun K3 hK3 => ?_
      refine aw_sr rfl ?_
      simp only [go_sem, reduceIte, Nat.reduceEqDiff, Nat.reduceAdd, Nat.reduceMul, Nat.reduceSub, Nat.reduceLeDiff, Nat.reduceLT, reduceCtorEq]
      refine goA_q (q_Name _ (hn _ (List.getElem_mem hi))) ?_
      simp only [go_sem, reduceIte, Nat.reduceEqDiff, Nat.reduceAdd, Nat.reduceMul, Nat.reduceSub, Nat.reduceLeDiff, Nat.reduceLT, reduceCtorEq]
      refine aw_if rfl (fun h => ?_) (fun h => ?_)
      · have hnm : isName us[i].1 = false := by simpa using h
        rw [if_pos hnm] at he
        refine aw_sr rfl ?_
        simp only [go_sem, reduceIte, Nat.reduceEqDiff, Nat.reduceAdd, Nat.reduceMul, Nat.reduceSub, Nat.reduceLeDiff, Nat.reduceLT, reduceCtorEq]
        refine aw_ret ⟨trivial, _, rfl, ?_, hsub_cons hb⟩
        rw [if_neg h5, ← he]
        exact Vle.refl _
      · have hnm : ¬ isName us[i].1 = false := by simpa using h
        rw [if_neg hnm] at he
        refine aw_skip (hK3 _ _ ?_)
        refine aw_sr rfl ?_
        simp only [go_sem, reduceIte, Nat.reduceEqDiff, Nat.reduceAdd, Nat.reduceMul, Nat.reduceSub, Nat.reduceLeDiff, Nat.reduceLT, reduceCtorEq]
        refine aw_if rfl (fun h => ?_) (fun h => ?_)
        · have hb2 : useBad us[i] = true := by simpa [useBad] using h
          rw [if_pos hb2] at he
          refine aw_sr rfl ?_
          simp only [go_sem, reduceIte, Nat.reduceEqDiff, Nat.reduceAdd, Nat.reduceMul, Nat.reduceSub, Nat.reduceLeDiff, Nat.reduceLT, reduceCtorEq]
          refine aw_ret ⟨trivial, _, rfl, ?_, hsub_cons hb⟩
          rw [if_neg h5, ← he]
          exact Vle.refl _
        · have hb2 : ¬ useBad us[i] = true := by simpa [useBad] using h
          rw [if_neg hb2] at he
          refine aw_skip ⟨(), he, ?_, hsub_cons hb⟩
          simp only [go_sem, reduceIte, Nat.reduceEqDiff, Nat.reduceAdd, Nat.reduceMul, Nat.reduceSub, Nat.reduceLeDiff, Nat.reduceLT, reduceCtorEq]
    · intro _ he
      refine hK2 _ _ ?_
      refine aw_sr rfl ?_
      simp only [go_sem, reduceIte, Nat.reduceEqDiff, Nat.reduceAdd, Nat.reduceMul, Nat.reduceSub, Nat.reduceLeDiff, Nat.reduceLT, reduceCtorEq]
      refine aw_ret ⟨trivial, _, rfl, ?_, fun _ _ h => h⟩
      rw [if_neg h5, ← he, List.drop_length]
      exact Vle.refl _
end Go.Proofs.Ytomjghlaoncpbaa
