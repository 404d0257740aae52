import Derived.Test.YtomjghlaoncpbaaSolveA
set_option linter.unusedSimpArgs false
set_option linter.unusedVariables false
namespace Go.Proofs.Ytomjghlaoncpbaa
open Go.Proofs.YtomjghlaoncpbaaV
set_option maxHeartbeats 400000
set_option maxRecDepth 100000
/-- api.Use: a name, a low version, a high one. -/
def eUse (u : List UInt8 × Int × Int) : List V := [.str u.1, .int .i64 u.2.1, .int .i64 u.2.2]
theorem q_EqualUse (xs ys : List (List UInt8 × Int × Int)) (n1 n2 : Bool) (t1 t2 : Tag) (hx : (xs.length : Int) ≤ 9223372036854775807) : Quiet Try.prog 62 [.sl (xs.map eUse) n1 t1, .sl (ys.map eUse) n2 t2] (.bool (decide (xs = ys))) := by
  intro G
  refine acall_body (rs := [.tmp 4]) Try.func62 rfl rfl Try.ntmps62 (by kernel_rfl) (Nat.le_of_ble_eq_true rfl) ?_
  refine aw_sr rfl ?_
  simp only [go_sem, reduceIte, Nat.reduceEqDiff, Nat.reduceAdd, Nat.reduceMul, Nat.reduceSub, Nat.reduceLeDiff, Nat.reduceLT, reduceCtorEq]
  refine aw_seq fun K2 hK2 => ?_
  refine aw_sr rfl ?_
  simp only [go_sem, reduceIte, Nat.reduceEqDiff, Nat.reduceAdd, Nat.reduceMul, Nat.reduceSub, Nat.reduceLeDiff, Nat.reduceLT, reduceCtorEq]
  refine aw_if rfl (fun h => ?_) (fun h => ?_)
  · refine aw_sr rfl ?_
    simp only [go_sem, reduceIte, Nat.reduceEqDiff, Nat.reduceAdd, Nat.reduceMul, Nat.reduceSub, Nat.reduceLeDiff, Nat.reduceLT, reduceCtorEq]
    refine aw_ret ⟨trivial, _, rfl, ?_⟩
    simp only [decide_eq_true_eq, ne_eq, Int.natCast_inj] at h
    refine ⟨?_, rfl⟩
    rw [decide_eq_false (fun e => h (by rw [e]))]
    rfl
  · refine aw_skip (hK2 _ _ ?_)
    have hl : xs.length = ys.length := by simpa [Int.natCast_inj] using h
    refine aw_seq fun K3 hK3 => ?_
    refine aw_sr rfl ?_
    simp only [go_sem, reduceIte, Nat.reduceEqDiff, Nat.reduceAdd, Nat.reduceMul, Nat.reduceSub, Nat.reduceLeDiff, Nat.reduceLT, reduceCtorEq]
    refine aw_range xs.length (S := Unit) (fun _ _ => [(0, .sl (xs.map eUse) n1 t1), (1, .sl (ys.map eUse) n2 t2)]) (fun _ _ => G) (fun i _ => xs.take i = ys.take i) () hx ?_ (fun _ _ h => h) rfl rfl (fun _ _ => rfl) ?_ ?_ (by decide)
    · simp only [go_sem, reduceIte, Nat.reduceEqDiff, Nat.reduceAdd, Nat.reduceMul, Nat.reduceSub, Nat.reduceLeDiff, Nat.reduceLT, reduceCtorEq]
    · intro i _ hi he
      refine aw_sr rfl ?_
      simp only [go_sem, reduceIte, Nat.reduceEqDiff, Nat.reduceAdd, Nat.reduceMul, Nat.reduceSub, Nat.reduceLeDiff, Nat.reduceLT, reduceCtorEq]
      refine aw_srd [(0,true),(1,true),(2,true),(3,true),(4,true),(5,true),(6,true),(7,true),(8,true)] mixed rfl (by kernel_rfl) ?_
      simp only [go_sem, reduceIte, Nat.reduceEqDiff, Nat.reduceAdd, Nat.reduceMul, Nat.reduceSub, Nat.reduceLeDiff, Nat.reduceLT, reduceCtorEq, getD_map hi, getD_map (hl ▸ hi), eUse]
      refine ⟨⟨by omega, by omega, wid_map (g := eUse) (fun _ => rfl) _⟩, ⟨by omega, by omega, wid_map (g := eUse) (fun _ => rfl) _⟩, ?_⟩
      have hh : (decide (xs[i].1 = (ys[i]'(hl ▸ hi)).1) && (decide (xs[i].2.1 = (ys[i]'(hl ▸ hi)).2.1) && decide (xs[i].2.2 = (ys[i]'(hl ▸ hi)).2.2))) = decide (xs[i] = ys[i]'(hl ▸ hi)) := by
        rw [Bool.eq_iff_iff]
        simp [Prod.ext_iff]
      refine aw_if rfl (fun h => ?_) (fun h => ?_)
      · refine aw_sr rfl ?_
        simp only [go_sem, reduceIte, Nat.reduceEqDiff, Nat.reduceAdd, Nat.reduceMul, Nat.reduceSub, Nat.reduceLeDiff, Nat.reduceLT, reduceCtorEq]
        refine aw_ret ⟨trivial, _, rfl, ?_⟩
        refine ⟨?_, rfl⟩
        rw [hh] at h
        have h : ¬ xs[i] = ys[i]'(hl ▸ hi) := by simpa using h
        rw [decide_eq_false (fun e => h (by subst e; rfl))]
        rfl
      · rw [hh] at h
        refine aw_skip ⟨(), take_next he hi (hl ▸ hi) (by simpa using h), ?_, fun _ _ h => h⟩
        simp only [go_sem, reduceIte, Nat.reduceEqDiff, Nat.reduceAdd, Nat.reduceMul, Nat.reduceSub, Nat.reduceLeDiff, Nat.reduceLT, reduceCtorEq]
    · intro _ he
      refine hK3 _ _ ?_
      refine aw_sr rfl ?_
      simp only [go_sem, reduceIte, Nat.reduceEqDiff, Nat.reduceAdd, Nat.reduceMul, Nat.reduceSub, Nat.reduceLeDiff, Nat.reduceLT, reduceCtorEq]
      refine aw_ret ⟨trivial, _, rfl, ?_⟩
      refine ⟨?_, rfl⟩
      rw [decide_eq_true]
      · rfl
      · rw [List.take_length, hl, List.take_length] at he; exact he
theorem sca_use (us : List (List UInt8 × Int × Int)) : sca (us.map eUse) := by
  intro e he x hx
  obtain ⟨u, _, rfl⟩ := List.mem_map.1 he
  simp only [eUse, List.mem_cons, List.not_mem_nil, or_false] at hx
  rcases hx with rfl | rfl | rfl <;> rfl
theorem q_CloneUse (us : List (List UInt8 × Int × Int)) (nl : Bool) (t : Tag) (hl : us.length ≤ 1048576) (hnl : nl = true → us = []) : Quiet Try.prog 114 [.sl (us.map eUse) nl t] (.sl (us.map eUse) nl .no) := by
  refine Quiet.weak fun G => ?_
  refine acall_body (rs := [.tmp 2]) Try.func114 rfl rfl Try.ntmps114 (by kernel_rfl) (Nat.le_of_ble_eq_true rfl) ?_
  refine aw_sr rfl ?_
  simp only [go_sem, reduceIte, Nat.reduceEqDiff, Nat.reduceAdd, Nat.reduceMul, Nat.reduceSub, Nat.reduceLeDiff, Nat.reduceLT, reduceCtorEq]
  refine aw_seq fun K hK => ?_
  refine aw_sr rfl ?_
  simp only [go_sem, reduceIte, Nat.reduceEqDiff, Nat.reduceAdd, Nat.reduceMul, Nat.reduceSub, Nat.reduceLeDiff, Nat.reduceLT, reduceCtorEq]
  refine aw_if rfl (fun h => ?_) (fun h => ?_)
  · refine aw_sr rfl ?_
    simp only [go_sem, reduceIte, Nat.reduceEqDiff, Nat.reduceAdd, Nat.reduceMul, Nat.reduceSub, Nat.reduceLeDiff, Nat.reduceLT, reduceCtorEq]
    refine aw_ret ⟨trivial, _, rfl, ?_, fun _ _ h => h⟩
    rw [h, hnl h]
    exact Vle.untag
  · refine aw_skip (hK _ _ ?_)
    refine aw_sr rfl ?_
    simp only [go_sem, reduceIte, Nat.reduceEqDiff, Nat.reduceAdd, Nat.reduceMul, Nat.reduceSub, Nat.reduceLeDiff, Nat.reduceLT, reduceCtorEq]
    refine goP_new ?_ fun t' H' hr => ?_
    · exact ⟨rfl, rfl, by decide, by simp, wid_map (g := eUse) (fun _ => rfl) _, sca_use _, by simp; omega, by simp; omega⟩
    simp only [go_sem, reduceIte, Nat.reduceEqDiff, Nat.reduceAdd, Nat.reduceMul, Nat.reduceSub, Nat.reduceLeDiff, Nat.reduceLT, reduceCtorEq]
    refine aw_ret ⟨trivial, _, rfl, ?_, hr.sub⟩
    rw [h]
    exact Vle.untag
end Go.Proofs.Ytomjghlaoncpbaa
