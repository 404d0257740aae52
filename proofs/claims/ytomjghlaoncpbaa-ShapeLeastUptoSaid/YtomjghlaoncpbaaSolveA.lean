import Derived.Test.YtomjghlaoncpbaaVq
import Derived.Test.YtomjghlaoncpbaaTy
set_option linter.unusedSimpArgs false
set_option linter.unusedVariables false
namespace Go.Proofs.Ytomjghlaoncpbaa
open Go.Proofs.YtomjghlaoncpbaaV
set_option maxHeartbeats 400000
set_option maxRecDepth 100000
/-- A letter that no name has at place i. -/
def badAt (i : Nat) (c : UInt8) : Bool := (decide ((c.toNat : Int) < 97) || decide ((c.toNat : Int) > 122)) && (decide ((i : Int) = 0) || (decide ((c.toNat : Int) ≠ 95) && (decide ((c.toNat : Int) < 48) || decide ((c.toNat : Int) > 57))))
def isName (s : List UInt8) : Bool := (List.range s.length).all (fun i => !badAt i (s.getD i 0)) && (decide ((s.length : Int) ≥ 1) && decide ((s.length : Int) ≤ 16))
theorem q_Name (s : List UInt8) (hs : (s.length : Int) ≤ 9223372036854775807) : Quiet Try.prog 60 [.str s] (.bool (isName s)) := by
  intro G
  refine acall_body (rs := [.tmp 2]) Try.func60 rfl rfl Try.ntmps60 (by kernel_rfl) (Nat.le_of_ble_eq_true rfl) ?_
  refine aw_sr rfl ?_
  simp only [go_sem, reduceIte, Nat.reduceEqDiff, Nat.reduceAdd, Nat.reduceMul, Nat.reduceSub, Nat.reduceLeDiff, Nat.reduceLT, reduceCtorEq]
  refine aw_seq fun K hK => ?_
  refine aw_sr rfl ?_
  simp only [go_sem, reduceIte, Nat.reduceEqDiff, Nat.reduceAdd, Nat.reduceMul, Nat.reduceSub, Nat.reduceLeDiff, Nat.reduceLT, reduceCtorEq]
  refine aw_range s.length (S := Unit) (fun _ _ => [(0, .str s)]) (fun _ _ => G) (fun i _ => (List.range i).all (fun i => !badAt i (s.getD i 0)) = true) () hs ?_ (fun _ _ h => h) rfl rfl (fun _ _ => rfl) ?_ ?_ (by decide)
  · simp only [go_sem, reduceIte, Nat.reduceEqDiff, Nat.reduceAdd, Nat.reduceMul, Nat.reduceSub, Nat.reduceLeDiff, Nat.reduceLT, reduceCtorEq, Int.natCast_zero]
  · intro i _ hi he
    refine aw_sr rfl ?_
    simp only [go_sem, reduceIte, Nat.reduceEqDiff, Nat.reduceAdd, Nat.reduceMul, Nat.reduceSub, Nat.reduceLeDiff, Nat.reduceLT, reduceCtorEq]
    refine aw_sr rfl ?_
    simp only [go_sem, reduceIte, Nat.reduceEqDiff, Nat.reduceAdd, Nat.reduceMul, Nat.reduceSub, Nat.reduceLeDiff, Nat.reduceLT, reduceCtorEq]
    refine ⟨⟨by omega, by omega⟩, ?_⟩
    refine aw_sr rfl ?_
    simp only [go_sem, reduceIte, Nat.reduceEqDiff, Nat.reduceAdd, Nat.reduceMul, Nat.reduceSub, Nat.reduceLeDiff, Nat.reduceLT, reduceCtorEq]
    refine aw_if rfl (fun h => ?_) (fun h => ?_)
    · have hb : badAt i (s.getD i 0) = true := h
      refine aw_sr rfl ?_
      simp only [go_sem, reduceIte, Nat.reduceEqDiff, Nat.reduceAdd, Nat.reduceMul, Nat.reduceSub, Nat.reduceLeDiff, Nat.reduceLT, reduceCtorEq]
      refine aw_ret ⟨trivial, _, rfl, ?_, rfl⟩
      have : (List.range s.length).all (fun i => !badAt i (s.getD i 0)) = false := by
        rw [List.all_eq_false]
        exact ⟨i, by simpa using hi, by simp only [hb]; decide⟩
      simp only [isName, this, Bool.false_and]
      rfl
    · have hb : badAt i (s.getD i 0) = false := h
      refine aw_skip ⟨(), ?_, ?_, fun _ _ h => h⟩
      · rw [List.all_append, he]; simp only [List.all_cons, List.all_nil, hb]; rfl
      · simp only [go_sem, reduceIte, Nat.reduceEqDiff, Nat.reduceAdd, Nat.reduceMul, Nat.reduceSub, Nat.reduceLeDiff, Nat.reduceLT, reduceCtorEq]
  · intro _ he
    refine hK _ _ ?_
    refine aw_sr rfl ?_
    simp only [go_sem, reduceIte, Nat.reduceEqDiff, Nat.reduceAdd, Nat.reduceMul, Nat.reduceSub, Nat.reduceLeDiff, Nat.reduceLT, reduceCtorEq]
    refine aw_ret ⟨trivial, _, rfl, ?_, rfl⟩
    simp only [isName, he, Bool.true_and]
    rfl
end Go.Proofs.Ytomjghlaoncpbaa
