import Derived.Test.YtomjghlaoncpbaaValD
set_option linter.unusedSimpArgs false
set_option linter.unusedVariables false
namespace Go.Proofs.Ytomjghlaoncpbaa
open Go.Proofs.YtomjghlaoncpbaaV
set_option maxHeartbeats 400000
set_option maxRecDepth 100000
theorem zM_le : Vle (.agg [.str [], .int .i64 0, .sl [] true .full, .sl [] true .full]) (.agg (cMov ([], 0, ([], true), ([], true)))) :=
  Vle.aggL (.cons (Vle.refl _) (.cons (Vle.refl _) (.cons Vle.untag (.cons Vle.untag .nil))))
def zM : Mov := ([], 0, ([], true), ([], true))
def badM (m : Mov) : Bool := (decide (m.2.1 < 0) || decide (1000 < m.2.1)) || m.2.2.2.1.any (badN m) || m.2.2.1.1.any (badF m)
def findF (w : Wy) (a : List UInt8) : Mov × Int := match w.1.find? (fun m => decide (m.1 = a)) with
  | none => (zM, 4)
  | some m => if badM m = true then (zM, 3) else (m, 0)
abbrev pairM (p : Mov × Int) : V := .tup [.agg (cMov p.1), .int .i64 p.2]
theorem q_find (w : Wy) (a : List UInt8) (hw : w.1.length ≤ bulk) (hm : ∀ m ∈ w.1, m.2.2.1.1.length ≤ bulk ∧ m.2.2.2.1.length ≤ bulk) : Quiet Try.prog 136 [.agg (cWy w), .str a] (pairM (findF w a)) := by
  refine Quiet.weak fun G => ?_
  refine acall_body (rs := [.cell 4 49, .tmp 5]) Try.func136 rfl rfl Try.ntmps136 (by kernel_rfl) (Nat.le_of_ble_eq_true rfl) ?_
  refine aw_sr rfl ?_
  simp only [go_sem, reduceIte, Nat.reduceEqDiff, Nat.reduceAdd, Nat.reduceMul, Nat.reduceSub, Nat.reduceLeDiff, Nat.reduceLT, reduceCtorEq]
  intro b2 hb2 b3 hb3 b4 hb4
  obtain ⟨n43, n42'⟩ := fresh_cons hb4
  obtain ⟨n42, n4⟩ := fresh_cons n42'
  obtain ⟨n32, n3⟩ := fresh_cons hb3
  refine aw_sr rfl ?_
  simp only [go_sem, reduceIte, Nat.reduceEqDiff, Nat.reduceAdd, Nat.reduceMul, Nat.reduceSub, Nat.reduceLeDiff, Nat.reduceLT, reduceCtorEq, n43, n42, n32]
  refine goA_on (q_IndexFuncM [(b3, .vars [.str a])] 163 [] [.ptr b3 0] (fun m => decide (m.1 = a)) w.1 w.2 .no (le_bulk hw) fun m _ => q_find1 m b3 a) (sub_one (by rw [hget_cons_ne n43, hget_self])) ?_
  simp only [go_sem, reduceIte, Nat.reduceEqDiff, Nat.reduceAdd, Nat.reduceMul, Nat.reduceSub, Nat.reduceLeDiff, Nat.reduceLT, reduceCtorEq]
  refine aw_seq fun K1 hK1 => ?_
  refine aw_sr rfl ?_
  simp only [go_sem, reduceIte, Nat.reduceEqDiff, Nat.reduceAdd, Nat.reduceMul, Nat.reduceSub, Nat.reduceLeDiff, Nat.reduceLT, reduceCtorEq]
  cases hfd : w.1.find? (fun m => decide (m.1 = a)) with
  | none =>
    have hi : idxF (fun m : Mov => decide (m.1 = a)) w.1 = -1 := idxF_none fun j hj => by
      have := List.find?_eq_none.1 hfd _ (List.getElem_mem hj)
      simpa using this
    rw [hi]
    refine aw_if rfl (fun h => ?_) (fun h => by cases h)
    refine aw_sr rfl ?_
    simp only [go_sem, reduceIte, Nat.reduceEqDiff, Nat.reduceAdd, Nat.reduceMul, Nat.reduceSub, Nat.reduceLeDiff, Nat.reduceLT, reduceCtorEq]
    refine aw_ret ⟨trivial, [.agg [.str [], .int .i64 0, .sl [] true .full, .sl [] true .full], .int .i64 4], ?_, ?_, ?_⟩
    · simp only [go_sem, reduceIte, Nat.reduceEqDiff, Nat.reduceAdd, Nat.reduceMul, Nat.reduceSub, Nat.reduceLeDiff, Nat.reduceLT, reduceCtorEq, resL, resOf]
    · rw [findF, hfd]; exact Vle.tupL (.cons zM_le (.cons (Vle.refl _) .nil))
    · exact fun b' o' h => sub_tail hb4 _ _ (sub_tail hb3 _ _ (sub_tail hb2 _ _ h))
  | some m =>
    obtain ⟨hp, i, hi, hmi, hbef⟩ := List.find?_eq_some_iff_getElem.1 hfd
    have hx : idxF (fun m : Mov => decide (m.1 = a)) w.1 = (i : Int) := idxF_at hi (by rw [hmi]; exact hp) fun j hj => by simpa using hbef j hj
    rw [hx]
    have hneg : decide ((i : Int) < 0) = false := by simp
    rw [hneg]
    refine aw_if rfl (fun h => by cases h) (fun h => ?_)
    refine aw_skip (hK1 _ _ ?_)
    refine aw_sr rfl ?_
    simp only [go_sem, reduceIte, Nat.reduceEqDiff, Nat.reduceAdd, Nat.reduceMul, Nat.reduceSub, Nat.reduceLeDiff, Nat.reduceLT, reduceCtorEq, n43, n42, n32, getD_map hi, hmi, eMov]
    refine ⟨⟨by omega, by omega, wid_map (g := eMov) (fun _ => rfl) _⟩, fun b7 hb7 => ?_⟩
    obtain ⟨n74, hb7'⟩ := fresh_cons hb7
    obtain ⟨n73, hb7''⟩ := fresh_cons hb7'
    obtain ⟨n72, n7⟩ := fresh_cons hb7''
    refine aw_sr rfl ?_
    simp only [go_sem, reduceIte, Nat.reduceEqDiff, Nat.reduceAdd, Nat.reduceMul, Nat.reduceSub, Nat.reduceLeDiff, Nat.reduceLT, reduceCtorEq]
    intro b8 hb8
    obtain ⟨n87, _⟩ := fresh_cons hb8
    have hok := hm m (by rw [← hmi]; exact List.getElem_mem hi)
    refine aw_seq fun K2 hK2 => ?_
    refine aw_sr rfl ?_
    simp only [go_sem, reduceIte, Nat.reduceEqDiff, Nat.reduceAdd, Nat.reduceMul, Nat.reduceSub, Nat.reduceLeDiff, Nat.reduceLT, reduceCtorEq, n87]
    refine goH_on (fun _ => q_ContainsFuncN [(b7, .vars (cMov m))] 164 [] [.ptr b7 0] (badN m) m.2.2.2.1 m.2.2.2.2 .no (le_bulk hok.2) fun n _ => q_find2 m b7 n) (sub_one (by rw [hget_cons_ne n87, hget_self])) ?_
    simp only [go_sem, reduceIte, Nat.reduceEqDiff, Nat.reduceAdd, Nat.reduceMul, Nat.reduceSub, Nat.reduceLeDiff, Nat.reduceLT, reduceCtorEq, n87]
    refine goH_on (fun _ => q_ContainsFuncF [(b7, .vars (cMov m)), (b8, .vars [.func (.func 164) [] [.ptr b7 0]])] 167 [] [.ptr b8 0] (badF m) m.2.2.1.1 m.2.2.1.2 .no (le_bulk hok.1) fun n _ => q_find3 m b7 b8 n fun e => n87 e.symm) ?_ ?_
    · intro b' o' hk
      rw [hget_cons] at hk
      split at hk
      · rename_i e; subst e; cases hk; rw [hget_cons_ne n87, hget_self]
      · rw [hget_cons] at hk
        split at hk
        · rename_i e; subst e; cases hk; rw [hget_self]
        · cases hk
    simp only [go_sem, reduceIte, Nat.reduceEqDiff, Nat.reduceAdd, Nat.reduceMul, Nat.reduceSub, Nat.reduceLeDiff, Nat.reduceLT, reduceCtorEq, n87]
    have e84 : ¬ b8 = b4 := fun e => by subst e; rw [hget_cons_ne n74, hget_self] at hb8; cases hb8
    have hs : Sub G ((b8, .vars [.func (.func 164) [] [.ptr b7 0]]) :: (b7, .vars (cMov m)) :: (b4, .vars [.str [], .int .i64 0, .sl [] true .full, .sl [] true .full]) :: (b3, .vars [.str a]) :: (b2, .vars (cWy w)) :: G) := fun b' o' h => sub_tail hb8 _ _ (sub_tail hb7 _ _ (sub_tail hb4 _ _ (sub_tail hb3 _ _ (sub_tail hb2 _ _ h))))
    have hs2 : ∀ x, Sub G ((b8, .vars [.func (.func 164) [] [.ptr b7 0]]) :: (b7, .vars (cMov m)) :: (b4, x) :: (b3, .vars [.str a]) :: (b2, .vars (cWy w)) :: G) := fun x b' o' h => by
      have hne : ¬ b4 = b' := by intro e; subst e; rw [n4] at h; cases h
      have := hs b' o' h
      simp only [hget_cons, hne, if_false] at this ⊢
      exact this
    refine aw_if rfl (fun h => ?_) (fun h => ?_)
    · refine aw_sr rfl ?_
      simp only [go_sem, reduceIte, Nat.reduceEqDiff, Nat.reduceAdd, Nat.reduceMul, Nat.reduceSub, Nat.reduceLeDiff, Nat.reduceLT, reduceCtorEq, e84, n74]
      refine aw_ret ⟨trivial, [.agg [.str [], .int .i64 0, .sl [] true .full, .sl [] true .full], .int .i64 3], ?_, ?_, hs2 _⟩
      · simp only [go_sem, reduceIte, Nat.reduceEqDiff, Nat.reduceAdd, Nat.reduceMul, Nat.reduceSub, Nat.reduceLeDiff, Nat.reduceLT, reduceCtorEq, resL, resOf, e84, n74]
      · rw [findF, hfd]
        simp only
        rw [if_pos (by simpa [badM, Bool.or_assoc] using h)]
        exact Vle.tupL (.cons zM_le (.cons (Vle.refl _) .nil))
    · refine aw_skip (hK2 _ _ ?_)
      refine aw_sr rfl ?_
      simp only [go_sem, reduceIte, Nat.reduceEqDiff, Nat.reduceAdd, Nat.reduceMul, Nat.reduceSub, Nat.reduceLeDiff, Nat.reduceLT, reduceCtorEq, e84, n74, n87]
      refine aw_ret ⟨trivial, [.agg (cMov m), .int .i64 0], ?_, ?_, hs2 _⟩
      · simp only [go_sem, reduceIte, Nat.reduceEqDiff, Nat.reduceAdd, Nat.reduceMul, Nat.reduceSub, Nat.reduceLeDiff, Nat.reduceLT, reduceCtorEq, resL, resOf, e84, n74]
      · rw [findF, hfd]
        simp only
        rw [if_neg (by simpa [badM, Bool.or_assoc] using h)]
        exact Vle.refl _
end Go.Proofs.Ytomjghlaoncpbaa
