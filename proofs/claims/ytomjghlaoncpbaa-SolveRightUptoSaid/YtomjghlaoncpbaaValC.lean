import Derived.Test.YtomjghlaoncpbaaValB
import Derived.Test.YtomjghlaoncpbaaSolveG
set_option linter.unusedSimpArgs false
set_option linter.unusedVariables false
namespace Go.Proofs.Ytomjghlaoncpbaa
open Go.Proofs.YtomjghlaoncpbaaV
set_option maxHeartbeats 400000
set_option maxRecDepth 100000
theorem all_take_next {A : Type} {q : A → Bool} {xs : List A} {i : Nat} (h : (xs.take i).all q = true) (hi : i < xs.length) (he : q xs[i] = true) : (xs.take (i + 1)).all q = true := by
  rw [List.take_succ_eq_append_getElem hi, List.all_append, h]; simp [he]
theorem all_not {A : Type} {q : A → Bool} {xs : List A} {i : Nat} (hi : i < xs.length) (he : q xs[i] = false) : xs.all q = false := by
  rw [List.all_eq_false]; exact ⟨_, List.getElem_mem hi, by simp [he]⟩
theorem q_ValuesSmall (vs : List Val) (nl : Bool) (t : Tag) (hl : vs.length ≤ 1048576) (hv : ∀ v ∈ vs, v.sz ≤ bulk) : Quiet Try.prog 26 [.sl (vs.map eVal) nl t] (.bool (vs.all smallV)) := by
  refine Quiet.weak fun G => ?_
  refine acall_body (rs := [.tmp 2]) Try.func26 rfl rfl Try.ntmps26 (by kernel_rfl) (Nat.le_of_ble_eq_true rfl) ?_
  refine aw_sr rfl ?_
  simp only [go_sem, reduceIte, Nat.reduceEqDiff, Nat.reduceAdd, Nat.reduceMul, Nat.reduceSub, Nat.reduceLeDiff, Nat.reduceLT, reduceCtorEq]
  refine aw_seq fun K6 hK6 => ?_
  refine aw_sr rfl ?_
  simp only [go_sem, reduceIte, Nat.reduceEqDiff, Nat.reduceAdd, Nat.reduceMul, Nat.reduceSub, Nat.reduceLeDiff, Nat.reduceLT, reduceCtorEq]
  refine aw_range vs.length (S := Unit) (fun _ _ => [(5, .sl (vs.map eVal) nl t)]) (fun _ _ => G) (fun i _ => (vs.take i).all smallV = true) () (by omega) ?_ (fun _ _ h => h) rfl rfl (fun _ _ => rfl) ?_ ?_ (by decide)
  · simp only [go_sem, reduceIte, Nat.reduceEqDiff, Nat.reduceAdd, Nat.reduceMul, Nat.reduceSub, Nat.reduceLeDiff, Nat.reduceLT, reduceCtorEq, Int.natCast_zero]
  · intro i _ hi he
    refine aw_sr rfl ?_
    simp only [go_sem, reduceIte, Nat.reduceEqDiff, Nat.reduceAdd, Nat.reduceMul, Nat.reduceSub, Nat.reduceLeDiff, Nat.reduceLT, reduceCtorEq, getD_map hi, eC, cV]
    refine ⟨⟨by omega, by omega, wid_eVal _⟩, fun b hb => ?_⟩
    refine aw_sr rfl ?_
    simp only [go_sem, reduceIte, Nat.reduceEqDiff, Nat.reduceAdd, Nat.reduceMul, Nat.reduceSub, Nat.reduceLeDiff, Nat.reduceLT, reduceCtorEq]
    refine goA_q (q_ValueSmall vs[i] (hv _ (List.getElem_mem hi))) ?_
    simp only [go_sem, reduceIte, Nat.reduceEqDiff, Nat.reduceAdd, Nat.reduceMul, Nat.reduceSub, Nat.reduceLeDiff, Nat.reduceLT, reduceCtorEq]
    refine aw_if rfl (fun h => ?_) (fun h => ?_)
    · refine aw_sr rfl ?_
      simp only [go_sem, reduceIte, Nat.reduceEqDiff, Nat.reduceAdd, Nat.reduceMul, Nat.reduceSub, Nat.reduceLeDiff, Nat.reduceLT, reduceCtorEq]
      refine aw_ret ⟨trivial, _, rfl, ?_, hsub_cons hb⟩
      rw [all_not hi (by simpa using h)]
      exact Vle.refl _
    · refine aw_skip ⟨(), all_take_next he hi (by simpa using h), ?_, hsub_cons hb⟩
      simp only [go_sem, reduceIte, Nat.reduceEqDiff, Nat.reduceAdd, Nat.reduceMul, Nat.reduceSub, Nat.reduceLeDiff, Nat.reduceLT, reduceCtorEq]
  · intro _ he
    refine hK6 _ _ ?_
    refine aw_sr rfl ?_
    simp only [go_sem, reduceIte, Nat.reduceEqDiff, Nat.reduceAdd, Nat.reduceMul, Nat.reduceSub, Nat.reduceLeDiff, Nat.reduceLT, reduceCtorEq]
    refine aw_ret ⟨trivial, _, rfl, ?_, fun _ _ h => h⟩
    rw [List.take_length] at he
    rw [he]
    exact Vle.refl _
def smallS (s : Sav) : Bool := s.2.2.1.all (fun x => smallV x.2) && s.2.1.1.all smallV
theorem q_SavedSmall (s : Sav) (h1 : s.2.1.1.length ≤ 1048576) (h2 : s.2.2.1.length ≤ 1048576) (hv1 : ∀ v ∈ s.2.1.1, v.sz ≤ bulk) (hv2 : ∀ v ∈ s.2.2.1, v.2.sz ≤ bulk) : Quiet Try.prog 24 [.agg (cSav s)] (.bool (smallS s)) := by
  have hq := q_ValuesSmall s.2.1.1 s.2.1.2 .no h1 hv1
  refine Quiet.weak fun G => ?_
  refine acall_body (rs := [.tmp 2]) Try.func24 rfl rfl Try.ntmps24 (by kernel_rfl) (Nat.le_of_ble_eq_true rfl) ?_
  refine aw_sr rfl ?_
  simp only [go_sem, reduceIte, Nat.reduceEqDiff, Nat.reduceAdd, Nat.reduceMul, Nat.reduceSub, Nat.reduceLeDiff, Nat.reduceLT, reduceCtorEq]
  intro b0 hb0
  refine aw_seq fun K6 hK6 => ?_
  refine aw_sr rfl ?_
  simp only [go_sem, reduceIte, Nat.reduceEqDiff, Nat.reduceAdd, Nat.reduceMul, Nat.reduceSub, Nat.reduceLeDiff, Nat.reduceLT, reduceCtorEq]
  refine aw_range s.2.2.1.length (S := Unit) (fun _ _ => [(6, .sl (s.2.2.1.map eIn) s.2.2.2 .no), (1, .ptr b0 0)]) (fun _ _ => (b0, .vars (cSav s)) :: G) (fun i _ => (s.2.2.1.take i).all (fun x => smallV x.2) = true) () (by omega) ?_ (fun _ _ h => h) rfl rfl (fun _ _ => rfl) ?_ ?_ (by decide)
  · simp only [go_sem, reduceIte, Nat.reduceEqDiff, Nat.reduceAdd, Nat.reduceMul, Nat.reduceSub, Nat.reduceLeDiff, Nat.reduceLT, reduceCtorEq, Int.natCast_zero]
  · intro i _ hi he
    refine aw_sr rfl ?_
    simp only [go_sem, reduceIte, Nat.reduceEqDiff, Nat.reduceAdd, Nat.reduceMul, Nat.reduceSub, Nat.reduceLeDiff, Nat.reduceLT, reduceCtorEq, getD_map hi, eIn, cIn, cV]
    refine ⟨⟨by omega, by omega, wid_map (g := eIn) (fun _ => rfl) _⟩, fun b hb => ?_⟩
    refine aw_sr rfl ?_
    simp only [go_sem, reduceIte, Nat.reduceEqDiff, Nat.reduceAdd, Nat.reduceMul, Nat.reduceSub, Nat.reduceLeDiff, Nat.reduceLT, reduceCtorEq]
    refine goA_q (q_ValueSmall s.2.2.1[i].2 (hv2 _ (List.getElem_mem hi))) ?_
    simp only [go_sem, reduceIte, Nat.reduceEqDiff, Nat.reduceAdd, Nat.reduceMul, Nat.reduceSub, Nat.reduceLeDiff, Nat.reduceLT, reduceCtorEq]
    refine aw_if rfl (fun h => ?_) (fun h => ?_)
    · refine aw_sr rfl ?_
      simp only [go_sem, reduceIte, Nat.reduceEqDiff, Nat.reduceAdd, Nat.reduceMul, Nat.reduceSub, Nat.reduceLeDiff, Nat.reduceLT, reduceCtorEq]
      refine aw_ret ⟨trivial, _, rfl, ?_, fun b' o' h => hsub_cons hb _ _ (hsub_cons hb0 _ _ h)⟩
      rw [smallS, all_not (q := fun x => smallV x.2) hi (by simpa using h)]
      exact Vle.refl _
    · refine aw_skip ⟨(), all_take_next (q := fun x => smallV x.2) he hi (by simpa using h), ?_, hsub_cons hb⟩
      simp only [go_sem, reduceIte, Nat.reduceEqDiff, Nat.reduceAdd, Nat.reduceMul, Nat.reduceSub, Nat.reduceLeDiff, Nat.reduceLT, reduceCtorEq]
  · intro _ he
    refine hK6 _ _ ?_
    refine aw_sr rfl ?_
    simp only [go_sem, reduceIte, Nat.reduceEqDiff, Nat.reduceAdd, Nat.reduceMul, Nat.reduceSub, Nat.reduceLeDiff, Nat.reduceLT, reduceCtorEq]
    refine goA_q hq ?_
    simp only [go_sem, reduceIte, Nat.reduceEqDiff, Nat.reduceAdd, Nat.reduceMul, Nat.reduceSub, Nat.reduceLeDiff, Nat.reduceLT, reduceCtorEq]
    refine aw_ret ⟨trivial, _, rfl, ?_, hsub_cons hb0⟩
    rw [List.take_length] at he
    rw [smallS, he, Bool.true_and]
    exact Vle.refl _
/-- A field of a new state; a move; a way. -/
abbrev Fld := Int × Val
abbrev cFld (x : Fld) : List V := .int .i64 x.1 :: cV x.2
def eFld (x : Fld) : List V := cFld x
abbrev Mov := List UInt8 × Int × (List Fld × Bool) × (List Int × Bool)
abbrev cMov (m : Mov) : List V := [.str m.1, .int .i64 m.2.1, .sl (m.2.2.1.1.map eFld) m.2.2.1.2 .no, .sl (m.2.2.2.1.map eInt) m.2.2.2.2 .no]
def eMov (m : Mov) : List V := cMov m
abbrev Wy := List Mov × Bool
abbrev cWy (w : Wy) : List V := [.sl (w.1.map eMov) w.2 .no]
def smallM (m : Mov) : Bool := m.2.2.1.1.all fun f => smallV f.2
theorem q_way (w : Wy) (h1 : w.1.length ≤ 1048576) (h2 : ∀ m ∈ w.1, m.2.2.1.1.length ≤ 1048576) (hv : ∀ m ∈ w.1, ∀ f ∈ m.2.2.1.1, f.2.sz ≤ bulk) : Quiet Try.prog 25 [.agg (cWy w)] (.bool (w.1.all smallM)) := by
  refine Quiet.weak fun G => ?_
  refine acall_body (rs := [.tmp 2]) Try.func25 rfl rfl Try.ntmps25 (by kernel_rfl) (Nat.le_of_ble_eq_true rfl) ?_
  refine aw_sr rfl ?_
  simp only [go_sem, reduceIte, Nat.reduceEqDiff, Nat.reduceAdd, Nat.reduceMul, Nat.reduceSub, Nat.reduceLeDiff, Nat.reduceLT, reduceCtorEq]
  intro b0 hb0
  refine aw_seq fun K8 hK8 => ?_
  refine aw_sr rfl ?_
  simp only [go_sem, reduceIte, Nat.reduceEqDiff, Nat.reduceAdd, Nat.reduceMul, Nat.reduceSub, Nat.reduceLeDiff, Nat.reduceLT, reduceCtorEq]
  refine aw_range w.1.length (S := Unit) (fun _ _ => [(8, .sl (w.1.map eMov) w.2 .no)]) (fun _ _ => G) (fun i _ => (w.1.take i).all smallM = true) () (by omega) ?_ (hsub_cons hb0) rfl rfl (fun _ _ => rfl) ?_ ?_ (by decide)
  · simp only [go_sem, reduceIte, Nat.reduceEqDiff, Nat.reduceAdd, Nat.reduceMul, Nat.reduceSub, Nat.reduceLeDiff, Nat.reduceLT, reduceCtorEq, Int.natCast_zero]
  · intro i _ hi he
    have hm := h2 _ (List.getElem_mem hi)
    refine aw_sr rfl ?_
    simp only [go_sem, reduceIte, Nat.reduceEqDiff, Nat.reduceAdd, Nat.reduceMul, Nat.reduceSub, Nat.reduceLeDiff, Nat.reduceLT, reduceCtorEq, getD_map hi, eMov]
    refine ⟨⟨by omega, by omega, wid_map (g := eMov) (fun _ => rfl) _⟩, fun b hb => ?_⟩
    refine aw_sr rfl ?_
    simp only [go_sem, reduceIte, Nat.reduceEqDiff, Nat.reduceAdd, Nat.reduceMul, Nat.reduceSub, Nat.reduceLeDiff, Nat.reduceLT, reduceCtorEq]
    refine aw_range w.1[i].2.2.1.1.length (S := Unit) (fun _ _ => [(15, .sl (w.1[i].2.2.1.1.map eFld) w.1[i].2.2.1.2 .no), (8, .sl (w.1.map eMov) w.2 .no), (10, .int .i64 i), (9, .int .i64 w.1.length)]) (fun _ _ => G) (fun j _ => (w.1[i].2.2.1.1.take j).all (fun f => smallV f.2) = true) () (by omega) ?_ (hsub_cons hb) rfl rfl (fun _ _ => rfl) ?_ ?_ (by decide)
    · simp only [go_sem, reduceIte, Nat.reduceEqDiff, Nat.reduceAdd, Nat.reduceMul, Nat.reduceSub, Nat.reduceLeDiff, Nat.reduceLT, reduceCtorEq, Int.natCast_zero]
    · intro j _ hj hej
      refine aw_sr rfl ?_
      simp only [go_sem, reduceIte, Nat.reduceEqDiff, Nat.reduceAdd, Nat.reduceMul, Nat.reduceSub, Nat.reduceLeDiff, Nat.reduceLT, reduceCtorEq, getD_map hj, eFld, cFld, cV]
      refine ⟨⟨by omega, by omega, wid_map (g := eFld) (fun _ => rfl) _⟩, fun b2 hb2 => ?_⟩
      refine aw_sr rfl ?_
      simp only [go_sem, reduceIte, Nat.reduceEqDiff, Nat.reduceAdd, Nat.reduceMul, Nat.reduceSub, Nat.reduceLeDiff, Nat.reduceLT, reduceCtorEq]
      refine goA_q (q_ValueSmall w.1[i].2.2.1.1[j].2 (hv _ (List.getElem_mem hi) _ (List.getElem_mem hj))) ?_
      simp only [go_sem, reduceIte, Nat.reduceEqDiff, Nat.reduceAdd, Nat.reduceMul, Nat.reduceSub, Nat.reduceLeDiff, Nat.reduceLT, reduceCtorEq]
      refine aw_if rfl (fun h => ?_) (fun h => ?_)
      · refine aw_sr rfl ?_
        simp only [go_sem, reduceIte, Nat.reduceEqDiff, Nat.reduceAdd, Nat.reduceMul, Nat.reduceSub, Nat.reduceLeDiff, Nat.reduceLT, reduceCtorEq]
        refine aw_ret ⟨trivial, _, rfl, ?_, hsub_cons hb2⟩
        have hs : smallM w.1[i] = false := by
          unfold smallM
          exact all_not (q := fun f : Fld => smallV f.2) hj (by simpa using h)
        rw [all_not (q := smallM) hi hs]
        exact Vle.refl _
      · refine aw_skip ⟨(), all_take_next (q := fun f => smallV f.2) hej hj (by simpa using h), ?_, hsub_cons hb2⟩
        simp only [go_sem, reduceIte, Nat.reduceEqDiff, Nat.reduceAdd, Nat.reduceMul, Nat.reduceSub, Nat.reduceLeDiff, Nat.reduceLT, reduceCtorEq]
    · intro _ hej
      rw [List.take_length] at hej
      refine ⟨(), all_take_next (q := smallM) he hi hej, ?_, fun _ _ h => h⟩
      simp only [go_sem, reduceIte, Nat.reduceEqDiff, Nat.reduceAdd, Nat.reduceMul, Nat.reduceSub, Nat.reduceLeDiff, Nat.reduceLT, reduceCtorEq]
  · intro _ he
    refine hK8 _ _ ?_
    refine aw_sr rfl ?_
    simp only [go_sem, reduceIte, Nat.reduceEqDiff, Nat.reduceAdd, Nat.reduceMul, Nat.reduceSub, Nat.reduceLeDiff, Nat.reduceLT, reduceCtorEq]
    refine aw_ret ⟨trivial, _, rfl, ?_, fun _ _ h => h⟩
    rw [List.take_length] at he
    rw [he]
    exact Vle.refl _
end Go.Proofs.Ytomjghlaoncpbaa
