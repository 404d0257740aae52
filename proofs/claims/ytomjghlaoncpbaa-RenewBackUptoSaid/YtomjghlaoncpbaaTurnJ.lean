import Derived.Test.YtomjghlaoncpbaaValI
import Derived.Test.YtomjghlaoncpbaaTurnD
set_option linter.unusedSimpArgs false
set_option linter.unusedVariables false
namespace Go.Proofs.Ytomjghlaoncpbaa
open Go.Proofs.YtomjghlaoncpbaaV
set_option maxHeartbeats 400000
set_option maxRecDepth 100000
theorem OkVal.cp {v : Val} (h : OkVal v) : OkVal (cpV v) := by
  induction h with
  | mk hk hn ht hnl hl ha ih =>
    rw [cpV_eq]
    refine .mk hk hn ht (fun e => ?_) (by rw [List.length_map]; exact hl) fun a ha' => ?_
    · have e : _ = [] := List.isEmpty_iff.1 e
      rw [e]; rfl
    · obtain ⟨x, hx, rfl⟩ := List.mem_map.1 ha'
      exact ih x hx
theorem OkVal.default : OkVal default := .mk (by decide) (by decide) (by simp) (fun _ => rfl) (by simp) (by simp)
theorem eqF_cp {A : Type} (f : A → Val) : ∀ xs : List A, eqF sameV (xs.map fun x => cpV (f x)) (xs.map fun x => id (f x)) = true
  | [] => rfl
  | x :: xs => by rw [List.map_cons, List.map_cons, eqF_cons, eqF_cp f xs, id, same_cp]; rfl
theorem eqF_refl : ∀ xs : List Val, eqF sameV xs xs = true
  | [] => rfl
  | x :: xs => by rw [eqF_cons, eqF_refl xs, sameV_refl]; rfl
theorem turn_same (s : Sav) (p : Mov × Int) : sameSav (turnF cpV s p).1 (turnF id s p).1 = true := by
  unfold turnF
  split
  · rfl
  · simp only [sameSav, outS]
    rw [eqF_cp]
    simp [eqF]
theorem rest_same (s : Sav) (p : Mov × Int) : eqF sameV (restF cpV s p).1.1 (restF id s p).1.1 = true := by
  unfold restF
  split
  · rfl
  · exact eqF_cp _ _
theorem turn_err (g : Val → Val) (s : Sav) (p : Mov × Int) : (turnF g s p).2 = p.2 := by
  unfold turnF
  split
  · rfl
  · rename_i h; simp at h; exact h.symm
theorem rest_err (g : Val → Val) (s : Sav) (p : Mov × Int) : (restF g s p).2 = p.2 := by
  unfold restF
  split
  · rfl
  · rename_i h; simp at h; exact h.symm
namespace renewTurns
theorem law (s : Sav) (w : Wy) (q0 : o40 s) (q1 : o43 w) : Quiet Try.prog 6 [.agg (cSav s), .agg (cWy w)] (.bool true) := by
  obtain ⟨_, ⟨_, a1, a2⟩, ⟨_, a3, a4⟩⟩ := q0
  obtain ⟨_, c1, c2⟩ := q1
  have hm : ∀ m ∈ w.1, m.2.2.1.1.length ≤ bulk ∧ m.2.2.2.1.length ≤ bulk := fun m h => ⟨(c2 m h).2.2.1.2.1, (c2 m h).2.2.2.2.1⟩
  have hfv : ∀ m ∈ w.1, ∀ f ∈ m.2.2.1.1, oVal f.2 := fun m h f hf => ((c2 m h).2.2.1.2.2 f hf).2
  have hsv : ∀ v ∈ s.2.1.1, oVal v := a2
  have hiv : ∀ x ∈ s.2.2.1, oVal x.2 := fun x hx => (a4 x hx).2
  have hsmall := q_SavedSmall s a1 a3 (fun v h => (hsv v h).2) (fun x h => (hiv x h).2)
  have hway := q_way w c1 (fun m h => (hm m h).1) (fun m h f hf => (hfv m h f hf).2)
  have hturn := q_Turn s w c1 hm a1 (fun v h => (hsv v h).2) (fun m h f hf => (hfv m h f hf).2)
  have hrest := q_Rest s w c1 hm a1 (fun v h => (hsv v h).2)
  have href := q_RenewTurn s w c1 hm a1
  have hA := q_Turn ([65], ([], true), ([], true)) ([([65], 0, ([], true), ([], true))], false) (by decide) (by intro m h; simp at h; subst h; decide) (by decide) (by intro v h; simp at h) (by intro m h f hf; simp at h; subst h; simp at hf)
  have hAe : turnF cpV ([65], ([], true), ([], true)) (stF ([65], ([], true), ([], true)) ([([65], 0, ([], true), ([], true))], false) true) = (([65], ([], true), ([], true)), 0) := by rfl
  rw [hAe] at hA
  have hAq : Quiet Try.prog 34 [.agg [.str [65], .sl [] true .full, .sl [] true .full], .agg [.sl [[.str [65], .int .i64 0, .sl [] true .full, .sl [] true .full]] false .full]] (.tup [.agg (cSav ([65], ([], true), ([], true))), .int .i64 0]) :=
    hA.args (.cons (Vle.aggL (.cons (Vle.refl _) (.cons Vle.untag (.cons Vle.untag .nil)))) (.cons (Vle.aggL (.cons (Vle.slE (.cons (.cons (Vle.refl _) (.cons (Vle.refl _) (.cons Vle.untag (.cons Vle.untag .nil)))) .nil)) .nil)) .nil))
  have hst : stF s w true = stF s w true := rfl
  have hsame := turn_same s (stF s w true)
  have hrs := rest_same s (stF s w true)
  have ok1 : ∀ v ∈ (turnF cpV s (stF s w true)).1.2.1.1, OkVal v := by
    unfold turnF
    split
    · intro v h; simp [zS] at h
    · rename_i he
      have hk := stF_ok (s := s) (w := w) (old := true) (by simpa using he)
      intro v h
      simp only [outS, List.mem_map] at h
      obtain ⟨f, hf, rfl⟩ := h
      refine OkVal.cp ?_
      unfold srcF
      split
      · by_cases hlt : f.1.toNat < s.2.1.1.length
        · rw [getD_get hlt]; exact (hsv _ (List.getElem_mem hlt)).1
        · rw [List.getD_eq_getElem?_getD, List.getElem?_eq_none (by omega)]; exact OkVal.default
      · exact (hfv _ hk.2.2 f hf).1
  have len1 : ((turnF cpV s (stF s w true)).1.2.1.1.length : Int) ≤ 9223372036854775807 := by
    unfold turnF
    split
    · simp [zS]
    · rename_i he
      have hk := stF_ok (s := s) (w := w) (old := true) (by simpa using he)
      have := le_bulk (hm _ hk.2.2).1
      simpa [outS] using this
  have inp1 : (turnF cpV s (stF s w true)).1.2.2.1 = [] := by unfold turnF; split <;> rfl
  have ok2 : ∀ v ∈ (restF cpV s (stF s w true)).1.1, OkVal v := by
    unfold restF
    split
    · intro v h; simp at h
    · intro v h
      simp only [lostF, List.mem_map] at h
      obtain ⟨n, hn, rfl⟩ := h
      refine OkVal.cp ?_
      by_cases hlt : n.toNat < s.2.1.1.length
      · rw [getD_get hlt]; exact (hsv _ (List.getElem_mem hlt)).1
      · rw [List.getD_eq_getElem?_getD, List.getElem?_eq_none (by omega)]; exact OkVal.default
  have len2 : ((restF cpV s (stF s w true)).1.1.length : Int) ≤ 9223372036854775807 := by
    unfold restF
    split
    · simp [zS]
    · rename_i he
      have hk := stF_ok (s := s) (w := w) (old := true) (by simpa using he)
      have := le_bulk (hm _ hk.2.2).2
      simpa [lostF] using this
  rw [turn_err] at hturn href
  rw [rest_err] at hrest
  generalize (turnF cpV s (stF s w true)).1 = X at *
  generalize (turnF id s (stF s w true)).1 = Y at *
  generalize (restF cpV s (stF s w true)).1 = L at *
  generalize (restF id s (stF s w true)).1 = R at *
  generalize (stF s w true).2 = e at *
  have hS := q_sameSaved X Y len1 (by rw [inp1]; decide) ok1 (by rw [inp1]; intro x h; cases h)
  have hE := q_sameValues L.1 R.1 L.2 R.2 .no .no len2 ok2
  rw [hsame] at hS
  rw [hrs] at hE
  refine Quiet.weak fun G => ?_
  refine acall_body (rs := [.tmp 4]) Try.func6 rfl rfl Try.ntmps6 (by kernel_rfl) (Nat.le_of_ble_eq_true rfl) ?_
  refine aw_sr rfl ?_
  simp only [go_sem, reduceIte, Nat.reduceEqDiff, Nat.reduceAdd, Nat.reduceMul, Nat.reduceSub, Nat.reduceLeDiff, Nat.reduceLT, reduceCtorEq]
  intro b2 hb2 b3 hb3
  obtain ⟨n32, n3⟩ := fresh_cons hb3
  refine aw_seq fun K1 hK1 => ?_
  refine aw_sr rfl ?_
  simp only [go_sem, reduceIte, Nat.reduceEqDiff, Nat.reduceAdd, Nat.reduceMul, Nat.reduceSub, Nat.reduceLeDiff, Nat.reduceLT, reduceCtorEq]
  refine goA_q hAq ?_
  simp only [go_sem, reduceIte, Nat.reduceEqDiff, Nat.reduceAdd, Nat.reduceMul, Nat.reduceSub, Nat.reduceLeDiff, Nat.reduceLT, reduceCtorEq]
  intro b5 hb5
  obtain ⟨n53, hx⟩ := fresh_cons hb5
  obtain ⟨n52, n5⟩ := fresh_cons hx
  refine aw_sr rfl ?_
  simp only [go_sem, reduceIte, Nat.reduceEqDiff, Nat.reduceAdd, Nat.reduceMul, Nat.reduceSub, Nat.reduceLeDiff, Nat.reduceLT, reduceCtorEq]
  refine aw_if rfl (fun h => by simp at h) (fun h => ?_)
  refine aw_skip (hK1 _ _ ?_)
  refine aw_seq fun K2 hK2 => ?_
  refine aw_sr rfl ?_
  simp only [go_sem, reduceIte, Nat.reduceEqDiff, Nat.reduceAdd, Nat.reduceMul, Nat.reduceSub, Nat.reduceLeDiff, Nat.reduceLT, reduceCtorEq, n53, n52, n32]
  refine goA_q hsmall ?_
  simp only [go_sem, reduceIte, Nat.reduceEqDiff, Nat.reduceAdd, Nat.reduceMul, Nat.reduceSub, Nat.reduceLeDiff, Nat.reduceLT, reduceCtorEq, n53, n52, n32]
  refine goH_q (fun hg => hway) ?_
  simp only [go_sem, reduceIte, Nat.reduceEqDiff, Nat.reduceAdd, Nat.reduceMul, Nat.reduceSub, Nat.reduceLeDiff, Nat.reduceLT, reduceCtorEq]
  refine aw_if rfl (fun h => ?_) (fun h => ?_)
  · refine aw_sr rfl ?_
    simp only [go_sem, reduceIte, Nat.reduceEqDiff, Nat.reduceAdd, Nat.reduceMul, Nat.reduceSub, Nat.reduceLeDiff, Nat.reduceLT, reduceCtorEq]
    exact aw_ret ⟨trivial, _, rfl, Vle.refl _, sub_fresh n5 (sub_fresh n3 (sub_fresh hb2 sub_rfl))⟩
  · refine aw_skip (hK2 _ _ ?_)
    refine aw_sr rfl ?_
    simp only [go_sem, reduceIte, Nat.reduceEqDiff, Nat.reduceAdd, Nat.reduceMul, Nat.reduceSub, Nat.reduceLeDiff, Nat.reduceLT, reduceCtorEq, n53, n52, n32]
    refine goA_q hturn ?_
    simp only [go_sem, reduceIte, Nat.reduceEqDiff, Nat.reduceAdd, Nat.reduceMul, Nat.reduceSub, Nat.reduceLeDiff, Nat.reduceLT, reduceCtorEq]
    intro b7 hb7
    obtain ⟨n75, hx⟩ := fresh_cons hb7
    obtain ⟨n73, hx⟩ := fresh_cons hx
    obtain ⟨n72, n7⟩ := fresh_cons hx
    refine aw_sr rfl ?_
    simp only [go_sem, reduceIte, Nat.reduceEqDiff, Nat.reduceAdd, Nat.reduceMul, Nat.reduceSub, Nat.reduceLeDiff, Nat.reduceLT, reduceCtorEq, n75, n73, n72, n53, n52, n32]
    refine goA_q hrest ?_
    simp only [go_sem, reduceIte, Nat.reduceEqDiff, Nat.reduceAdd, Nat.reduceMul, Nat.reduceSub, Nat.reduceLeDiff, Nat.reduceLT, reduceCtorEq]
    refine aw_sr rfl ?_
    simp only [go_sem, reduceIte, Nat.reduceEqDiff, Nat.reduceAdd, Nat.reduceMul, Nat.reduceSub, Nat.reduceLeDiff, Nat.reduceLT, reduceCtorEq, n75, n73, n72, n53, n52, n32]
    refine goA_q href ?_
    simp only [go_sem, reduceIte, Nat.reduceEqDiff, Nat.reduceAdd, Nat.reduceMul, Nat.reduceSub, Nat.reduceLeDiff, Nat.reduceLT, reduceCtorEq]
    intro b11 hb11
    obtain ⟨n117, hx⟩ := fresh_cons hb11
    obtain ⟨n115, hx⟩ := fresh_cons hx
    obtain ⟨n113, hx⟩ := fresh_cons hx
    obtain ⟨n112, n11⟩ := fresh_cons hx
    refine aw_sr rfl ?_
    simp only [go_sem, reduceIte, Nat.reduceEqDiff, Nat.reduceAdd, Nat.reduceMul, Nat.reduceSub, Nat.reduceLeDiff, Nat.reduceLT, reduceCtorEq, n117, n75]
    refine goA_q hS ?_
    simp only [go_sem, reduceIte, Nat.reduceEqDiff, Nat.reduceAdd, Nat.reduceMul, Nat.reduceSub, Nat.reduceLeDiff, Nat.reduceLT, reduceCtorEq]
    refine goH_q (fun hg => hE) ?_
    simp only [go_sem, reduceIte, Nat.reduceEqDiff, Nat.reduceAdd, Nat.reduceMul, Nat.reduceSub, Nat.reduceLeDiff, Nat.reduceLT, reduceCtorEq]
    exact aw_ret ⟨trivial, _, rfl, Vle.refl _, sub_fresh n11 (sub_fresh n7 (sub_fresh n5 (sub_fresh n3 (sub_fresh hb2 sub_rfl))))⟩
end renewTurns
end Go.Proofs.Ytomjghlaoncpbaa
