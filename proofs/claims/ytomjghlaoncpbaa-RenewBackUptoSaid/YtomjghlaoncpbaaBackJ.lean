import Derived.Test.YtomjghlaoncpbaaValK
import Derived.Test.YtomjghlaoncpbaaTurnJ
import Derived.Test.YtomjghlaoncpbaaBackD
set_option linter.unusedSimpArgs false
set_option linter.unusedVariables false
namespace Go.Proofs.Ytomjghlaoncpbaa
open Go.Proofs.YtomjghlaoncpbaaV
set_option maxHeartbeats 400000
set_option maxRecDepth 100000
theorem back_same (s : Sav) (rest : List Val) (p : Mov × Int) : sameSav (backF cpV (fun _ => false) s rest p).1 (backF id List.isEmpty s rest p).1 = true := by
  unfold backF
  split
  · rfl
  · split
    · rfl
    · simp only [sameSav]
      rw [eqF_cp]
      simp [eqF]
theorem back_err (g : Val → Val) (nl : List Nat → Bool) (s : Sav) (rest : List Val) (p : Mov × Int) : (backF g nl s rest p).2 = (backF cpV (fun _ => false) s rest p).2 := by
  unfold backF
  split
  · rfl
  · split <;> rfl
theorem upF_ok {ps : List (Int × Val)} (h : ∀ p ∈ ps, OkVal p.2) (i : Nat) : ∀ {v : Val}, OkVal v → OkVal (upF ps i v) := by
  induction ps with
  | nil => exact fun hv => hv
  | cons p ps ih =>
    intro v hv
    have : upF (p :: ps) i v = upF ps i (if p.1 = (i : Int) then p.2 else v) := rfl
    rw [this]
    refine ih (fun q hq => h q (by simp [hq])) ?_
    split
    · exact h p (by simp)
    · exact hv
namespace renewBack
theorem law (s : Sav) (w : Wy) (r : List Val × Bool) (q0 : o40 s) (q1 : o43 w) (q2 : o37 r) : Quiet Try.prog 4 [.agg (cSav s), .agg (cWy w), .sl (r.1.map eVal) r.2 .no] (.bool true) := by
  obtain ⟨_, ⟨_, a1, a2⟩, ⟨_, a3, a4⟩⟩ := q0
  obtain ⟨_, c1, c2⟩ := q1
  obtain ⟨_, d1, d2⟩ := q2
  have hm : ∀ m ∈ w.1, m.2.2.1.1.length ≤ bulk ∧ m.2.2.2.1.length ≤ bulk := fun m h => ⟨(c2 m h).2.2.1.2.1, (c2 m h).2.2.2.2.1⟩
  have hfv : ∀ m ∈ w.1, ∀ f ∈ m.2.2.1.1, oVal f.2 := fun m h f hf => ((c2 m h).2.2.1.2.2 f hf).2
  have hsv : ∀ v ∈ s.2.1.1, oVal v := a2
  have hrv : ∀ v ∈ r.1, oVal v := d2
  have hiv : ∀ x ∈ s.2.2.1, oVal x.2 := fun x hx => (a4 x hx).2
  have hsmall := q_SavedSmall s a1 a3 (fun v h => (hsv v h).2) (fun x h => (hiv x h).2)
  have hway := q_way w c1 (fun m h => (hm m h).1) (fun m h f hf => (hfv m h f hf).2)
  have hvs := q_ValuesSmall r.1 r.2 .no d1 (fun v h => (hrv v h).2)
  have hback := q_Back s w r.1 r.2 .no c1 hm a1 d1 (fun v h => (hsv v h).2) (fun v h => (hrv v h).2)
  have href := q_refBack s w r.1 r.2 .no c1 hm a1 d1
  have hA := q_Back ([65], ([], true), ([], true)) ([([65], 0, ([], true), ([], true))], false) [] true .full (by decide) (by intro m h; simp at h; subst h; decide) (by decide) (by decide) (by intro v h; simp at h) (by intro v h; simp at h)
  have hAe : backF cpV (fun _ => false) ([65], ([], true), ([], true)) [] (stF ([65], ([], true), ([], true)) ([([65], 0, ([], true), ([], true))], false) false) = (([65], ([], false), ([], true)), 0) := by rfl
  rw [hAe] at hA
  have hAq : Quiet Try.prog 23 [.agg [.str [65], .sl [] true .full, .sl [] true .full], .agg [.sl [[.str [65], .int .i64 0, .sl [] true .full, .sl [] true .full]] false .full], .sl [] true .full] (.tup [.agg (cSav ([65], ([], false), ([], true))), .int .i64 0]) :=
    hA.args (.cons (Vle.aggL (.cons (Vle.refl _) (.cons Vle.untag (.cons Vle.untag .nil)))) (.cons (Vle.aggL (.cons (Vle.slE (.cons (.cons (Vle.refl _) (.cons (Vle.refl _) (.cons Vle.untag (.cons Vle.untag .nil)))) .nil)) .nil)) (.cons (Vle.refl _) .nil)))
  have hsame := back_same s r.1 (stF s w false)
  have ok1 : ∀ v ∈ (backF cpV (fun _ => false) s r.1 (stF s w false)).1.2.1.1, OkVal v := by
    unfold backF
    split
    · intro v h; simp [zS] at h
    · split
      · intro v h; simp [zS] at h
      · intro v h
        simp only [List.mem_map] at h
        obtain ⟨i, _, rfl⟩ := h
        refine OkVal.cp (upF_ok (fun p hp => ?_) i (upF_ok (fun p hp => ?_) i OkVal.default))
        · have := (List.of_mem_zip (a := p.1) (b := p.2) hp).2
          exact (hrv _ this).1
        · simp only [psF, List.mem_map] at hp
          obtain ⟨q, hq, rfl⟩ := hp
          exact (hsv _ (List.of_mem_zip (a := q.1) (b := q.2) hq).2).1
  have len1 : ((backF cpV (fun _ => false) s r.1 (stF s w false)).1.2.1.1.length : Int) ≤ 9223372036854775807 := by
    unfold backF
    split
    · simp [zS]
    · rename_i he
      split
      · simp [zS]
      · have hk := stF_ok (s := s) (w := w) (old := false) (by simpa using he)
        have := (badM_facts hk.1).1
        simp only [List.length_map, List.length_range]
        omega
  have inp1 : (backF cpV (fun _ => false) s r.1 (stF s w false)).1.2.2.1 = [] := by unfold backF; split <;> (try split) <;> rfl
  rw [back_err] at href
  generalize (backF cpV (fun _ => false) s r.1 (stF s w false)).1 = X at *
  generalize (backF id List.isEmpty s r.1 (stF s w false)).1 = Y at *
  generalize (backF cpV (fun _ => false) s r.1 (stF s w false)).2 = e at *
  have hS := q_sameSaved X Y len1 (by rw [inp1]; decide) ok1 (by rw [inp1]; intro x h; cases h)
  rw [hsame] at hS
  refine Quiet.weak fun G => ?_
  refine acall_body (rs := [.tmp 6]) Try.func4 rfl rfl Try.ntmps4 (by kernel_rfl) (Nat.le_of_ble_eq_true rfl) ?_
  refine aw_sr rfl ?_
  simp only [go_sem, reduceIte, Nat.reduceEqDiff, Nat.reduceAdd, Nat.reduceMul, Nat.reduceSub, Nat.reduceLeDiff, Nat.reduceLT, reduceCtorEq]
  intro b3 hb3 b4 hb4
  obtain ⟨n43, n4⟩ := fresh_cons hb4
  refine aw_seq fun K1 hK1 => ?_
  refine aw_sr rfl ?_
  simp only [go_sem, reduceIte, Nat.reduceEqDiff, Nat.reduceAdd, Nat.reduceMul, Nat.reduceSub, Nat.reduceLeDiff, Nat.reduceLT, reduceCtorEq]
  refine goA_q hAq ?_
  simp only [go_sem, reduceIte, Nat.reduceEqDiff, Nat.reduceAdd, Nat.reduceMul, Nat.reduceSub, Nat.reduceLeDiff, Nat.reduceLT, reduceCtorEq]
  intro b7 hb7
  obtain ⟨n74, hx⟩ := fresh_cons hb7
  obtain ⟨n73, n7⟩ := fresh_cons hx
  refine aw_sr rfl ?_
  simp only [go_sem, reduceIte, Nat.reduceEqDiff, Nat.reduceAdd, Nat.reduceMul, Nat.reduceSub, Nat.reduceLeDiff, Nat.reduceLT, reduceCtorEq]
  refine aw_if rfl (fun h => by simp at h) (fun h => ?_)
  refine aw_skip (hK1 _ _ ?_)
  refine aw_seq fun K2 hK2 => ?_
  refine aw_sr rfl ?_
  simp only [go_sem, reduceIte, Nat.reduceEqDiff, Nat.reduceAdd, Nat.reduceMul, Nat.reduceSub, Nat.reduceLeDiff, Nat.reduceLT, reduceCtorEq, n74, n73, n43]
  refine goA_q hsmall ?_
  simp only [go_sem, reduceIte, Nat.reduceEqDiff, Nat.reduceAdd, Nat.reduceMul, Nat.reduceSub, Nat.reduceLeDiff, Nat.reduceLT, reduceCtorEq, n74, n73, n43]
  refine goH_q (fun hg => hway) ?_
  simp only [go_sem, reduceIte, Nat.reduceEqDiff, Nat.reduceAdd, Nat.reduceMul, Nat.reduceSub, Nat.reduceLeDiff, Nat.reduceLT, reduceCtorEq]
  refine goH_q (fun hg => hvs) ?_
  simp only [go_sem, reduceIte, Nat.reduceEqDiff, Nat.reduceAdd, Nat.reduceMul, Nat.reduceSub, Nat.reduceLeDiff, Nat.reduceLT, reduceCtorEq]
  refine aw_if rfl (fun h => ?_) (fun h => ?_)
  · refine aw_sr rfl ?_
    simp only [go_sem, reduceIte, Nat.reduceEqDiff, Nat.reduceAdd, Nat.reduceMul, Nat.reduceSub, Nat.reduceLeDiff, Nat.reduceLT, reduceCtorEq]
    exact aw_ret ⟨trivial, _, rfl, Vle.refl _, sub_fresh n7 (sub_fresh n4 (sub_fresh hb3 sub_rfl))⟩
  · refine aw_skip (hK2 _ _ ?_)
    refine aw_sr rfl ?_
    simp only [go_sem, reduceIte, Nat.reduceEqDiff, Nat.reduceAdd, Nat.reduceMul, Nat.reduceSub, Nat.reduceLeDiff, Nat.reduceLT, reduceCtorEq, n74, n73, n43]
    refine goA_q hback ?_
    simp only [go_sem, reduceIte, Nat.reduceEqDiff, Nat.reduceAdd, Nat.reduceMul, Nat.reduceSub, Nat.reduceLeDiff, Nat.reduceLT, reduceCtorEq]
    intro b9 hb9
    obtain ⟨n97, hx⟩ := fresh_cons hb9
    obtain ⟨n94, hx⟩ := fresh_cons hx
    obtain ⟨n93, n9⟩ := fresh_cons hx
    refine aw_sr rfl ?_
    simp only [go_sem, reduceIte, Nat.reduceEqDiff, Nat.reduceAdd, Nat.reduceMul, Nat.reduceSub, Nat.reduceLeDiff, Nat.reduceLT, reduceCtorEq, n97, n94, n93, n74, n73, n43]
    refine goA_q href ?_
    simp only [go_sem, reduceIte, Nat.reduceEqDiff, Nat.reduceAdd, Nat.reduceMul, Nat.reduceSub, Nat.reduceLeDiff, Nat.reduceLT, reduceCtorEq]
    intro b11 hb11
    obtain ⟨n119, hx⟩ := fresh_cons hb11
    obtain ⟨n117, hx⟩ := fresh_cons hx
    obtain ⟨n114, hx⟩ := fresh_cons hx
    obtain ⟨n113, n11⟩ := fresh_cons hx
    refine aw_sr rfl ?_
    simp only [go_sem, reduceIte, Nat.reduceEqDiff, Nat.reduceAdd, Nat.reduceMul, Nat.reduceSub, Nat.reduceLeDiff, Nat.reduceLT, reduceCtorEq, n119]
    refine goA_q hS ?_
    simp only [go_sem, reduceIte, Nat.reduceEqDiff, Nat.reduceAdd, Nat.reduceMul, Nat.reduceSub, Nat.reduceLeDiff, Nat.reduceLT, reduceCtorEq]
    exact aw_ret ⟨trivial, _, rfl, Vle.refl _, sub_fresh n11 (sub_fresh n9 (sub_fresh n7 (sub_fresh n4 (sub_fresh hb3 sub_rfl))))⟩
end renewBack
end Go.Proofs.Ytomjghlaoncpbaa
