import Derived.Test.YtomjghlaoncpbaaPrgB
set_option linter.unusedSimpArgs false
set_option linter.unusedVariables false
namespace Go.Proofs.Ytomjghlaoncpbaa
open Go.Proofs.YtomjghlaoncpbaaV
set_option maxHeartbeats 400000
set_option maxRecDepth 100000
abbrev Fnc := D247
abbrev Prgm := D62
abbrev eFnc := e247
abbrev eData := e175
abbrev eMake := e177
abbrev eActor := e123
abbrev cPrg (p : Prgm) : List V := e62 p
theorem q_TypesSmall1 (t : Typ) (ht : t.sz ≤ bulk) : QB Try.prog 31 [.sl [cTyp t] false .full] := by
  have := q_TypesSmall [t] false .full (by simpa [tszs] using ht)
  rw [List.map_cons, eTyp_eq] at this
  exact this
theorem q_funcsSmall (x : D59) (tg : Tag) (hx : o59 x) : QB Try.prog 99 [.sl (x.1.map eFnc) x.2 tg] := by
  refine QB.weak fun G => ?_
  have hl : x.1.length ≤ 1048576 := hx.2.1
  refine acall_body (rs := [.tmp 2]) Try.func99 rfl rfl Try.ntmps99 (by kernel_rfl) (Nat.le_of_ble_eq_true rfl) ?_
  refine aw_sr rfl ?_
  simp only [go_sem, reduceIte, Nat.reduceEqDiff, Nat.reduceAdd, Nat.reduceMul, Nat.reduceSub, Nat.reduceLeDiff, Nat.reduceLT, reduceCtorEq]
  refine aw_seq fun K1 hK1 => ?_
  refine aw_sr rfl ?_
  simp only [go_sem, reduceIte, Nat.reduceEqDiff, Nat.reduceAdd, Nat.reduceMul, Nat.reduceSub, Nat.reduceLeDiff, Nat.reduceLT, reduceCtorEq]
  refine aw_range x.1.length (S := Unit) (fun _ _ => [(5, .sl (x.1.map eFnc) x.2 tg)]) (fun _ _ => G) (fun i _ => True) () (by omega) ?_ (fun _ _ h => h) trivial rfl (fun _ _ => rfl) ?_ ?_ (by decide)
  · simp only [go_sem, reduceIte, Nat.reduceEqDiff, Nat.reduceAdd, Nat.reduceMul, Nat.reduceSub, Nat.reduceLeDiff, Nat.reduceLT, reduceCtorEq, Int.natCast_zero]
  · intro i _ hi _
    generalize hf : x.1[i] = f
    obtain ⟨_, _, _, o4, o5, o6⟩ := hx.2.2 f (by rw [← hf]; exact List.getElem_mem hi)
    refine aw_sr rfl ?_
    simp only [go_sem, reduceIte, Nat.reduceEqDiff, Nat.reduceAdd, Nat.reduceMul, Nat.reduceSub, Nat.reduceLeDiff, Nat.reduceLT, reduceCtorEq, getD_map hi, hf, e247]
    refine ⟨⟨by omega, by omega, wid_map (g := eFnc) (fun _ => rfl) _⟩, fun b hb => ?_⟩
    refine aw_sr rfl ?_
    simp only [go_sem, reduceIte, Nat.reduceEqDiff, Nat.reduceAdd, Nat.reduceMul, Nat.reduceSub, Nat.reduceLeDiff, Nat.reduceLT, reduceCtorEq]
    refine goA_qb (q_TypesSmall _ _ _ o4.2.1) fun b1 => ?_
    simp only [go_sem, reduceIte, Nat.reduceEqDiff, Nat.reduceAdd, Nat.reduceMul, Nat.reduceSub, Nat.reduceLeDiff, Nat.reduceLT, reduceCtorEq]
    refine goH_qb (fun _ => q_TypesSmall1 f.2.2.2.2.1 o5.2) fun b2 => ?_
    simp only [go_sem, reduceIte, Nat.reduceEqDiff, Nat.reduceAdd, Nat.reduceMul, Nat.reduceSub, Nat.reduceLeDiff, Nat.reduceLT, reduceCtorEq]
    refine goH_qb (fun _ => q_exprSmall f.2.2.2.2.2 o6) fun b3 => ?_
    simp only [go_sem, reduceIte, Nat.reduceEqDiff, Nat.reduceAdd, Nat.reduceMul, Nat.reduceSub, Nat.reduceLeDiff, Nat.reduceLT, reduceCtorEq]
    refine aw_if rfl (fun h => ?_) (fun h => ?_)
    · refine aw_sr rfl ?_
      simp only [go_sem, reduceIte, Nat.reduceEqDiff, Nat.reduceAdd, Nat.reduceMul, Nat.reduceSub, Nat.reduceLeDiff, Nat.reduceLT, reduceCtorEq]
      exact aw_ret ⟨trivial, _, rfl, ⟨_, Vle.refl _⟩, hsub_at hb⟩
    · refine aw_skip ⟨(), ?_, hsub_at hb⟩
      simp only [go_sem, reduceIte, Nat.reduceEqDiff, Nat.reduceAdd, Nat.reduceMul, Nat.reduceSub, Nat.reduceLeDiff, Nat.reduceLT, reduceCtorEq]
  · intro _ _
    refine hK1 _ _ ?_
    refine aw_sr rfl ?_
    simp only [go_sem, reduceIte, Nat.reduceEqDiff, Nat.reduceAdd, Nat.reduceMul, Nat.reduceSub, Nat.reduceLeDiff, Nat.reduceLT, reduceCtorEq]
    exact aw_ret ⟨trivial, _, rfl, ⟨_, Vle.refl _⟩, fun _ _ h => h⟩
theorem q_ProgramSmall (p : Prgm) (hp : o62 p) : QB Try.prog 30 [.agg (cPrg p)] := by
  refine QB.weak fun G => ?_
  obtain ⟨_, _, _, o4, o5, o6, o7, o8⟩ := hp
  have h4 : p.2.2.2.1.1.length ≤ 1048576 := o4.2.1
  have h5 : p.2.2.2.2.1.1.length ≤ 1048576 := o5.2.1
  have h6 : p.2.2.2.2.2.1.1.length ≤ 1048576 := o6.2.1
  have h7 : p.2.2.2.2.2.2.1.1.length ≤ 1048576 := o7.2.1
  have h8 : p.2.2.2.2.2.2.2.1.length ≤ 1048576 := o8.2.1
  refine acall_body (rs := [.tmp 2]) Try.func30 rfl rfl Try.ntmps30 (by kernel_rfl) (Nat.le_of_ble_eq_true rfl) ?_
  refine aw_sr rfl ?_
  simp only [go_sem, reduceIte, Nat.reduceEqDiff, Nat.reduceAdd, Nat.reduceMul, Nat.reduceSub, Nat.reduceLeDiff, Nat.reduceLT, reduceCtorEq]
  intro b hb
  have hsb : Sub G ((b, .vars (cPrg p)) :: G) := sub_tail hb
  refine aw_seq fun K1 hK1 => ?_
  refine aw_sr rfl ?_
  simp only [go_sem, reduceIte, Nat.reduceEqDiff, Nat.reduceAdd, Nat.reduceMul, Nat.reduceSub, Nat.reduceLeDiff, Nat.reduceLT, reduceCtorEq, e62]
  refine goH_qb (fun _ => q_funcsSmall p.2.2.2.2.2.2.1 .no o7) fun b1 => ?_
  simp only [go_sem, reduceIte, Nat.reduceEqDiff, Nat.reduceAdd, Nat.reduceMul, Nat.reduceSub, Nat.reduceLeDiff, Nat.reduceLT, reduceCtorEq]
  refine aw_if rfl (fun h => ?_) (fun h => ?_)
  · refine aw_sr rfl ?_
    simp only [go_sem, reduceIte, Nat.reduceEqDiff, Nat.reduceAdd, Nat.reduceMul, Nat.reduceSub, Nat.reduceLeDiff, Nat.reduceLT, reduceCtorEq]
    exact aw_ret ⟨trivial, _, rfl, ⟨_, Vle.refl _⟩, hsb⟩
  refine aw_skip (hK1 _ _ ?_)
  refine aw_seq fun K2 hK2 => ?_
  refine aw_sr rfl ?_
  simp only [go_sem, reduceIte, Nat.reduceEqDiff, Nat.reduceAdd, Nat.reduceMul, Nat.reduceSub, Nat.reduceLeDiff, Nat.reduceLT, reduceCtorEq, e62]
  refine aw_range p.2.2.2.1.1.length (S := Unit) (fun _ _ => [(40, .sl (p.2.2.2.1.1.map e175) p.2.2.2.1.2 .no), (1, .ptr b 0)]) (fun _ _ => (b, .vars (cPrg p)) :: G) (fun i _ => True) () (by omega) ?_ (fun _ _ h => h) trivial rfl (fun _ _ => rfl) ?_ ?_ (by decide)
  · simp only [go_sem, reduceIte, Nat.reduceEqDiff, Nat.reduceAdd, Nat.reduceMul, Nat.reduceSub, Nat.reduceLeDiff, Nat.reduceLT, reduceCtorEq, Int.natCast_zero]
  · intro i _ hi _
    generalize hf : p.2.2.2.1.1[i] = f
    have of := o4.2.2 f (by rw [← hf]; exact List.getElem_mem hi)
    refine aw_sr rfl ?_
    simp only [go_sem, reduceIte, Nat.reduceEqDiff, Nat.reduceAdd, Nat.reduceMul, Nat.reduceSub, Nat.reduceLeDiff, Nat.reduceLT, reduceCtorEq, getD_map hi, hf, e175]
    refine ⟨⟨by omega, by omega, wid_map (g := e175) (fun _ => rfl) _⟩, fun b2 hb2 => ?_⟩
    refine aw_sr rfl ?_
    simp only [go_sem, reduceIte, Nat.reduceEqDiff, Nat.reduceAdd, Nat.reduceMul, Nat.reduceSub, Nat.reduceLeDiff, Nat.reduceLT, reduceCtorEq]
    have hl2 : f.2.2.1.length ≤ 1048576 := of.2.2.2.1
    refine aw_range f.2.2.1.length (S := Unit) (fun _ _ => [(47, .sl (f.2.2.1.map e177) f.2.2.2 .no), (42, .int .i64 i), (41, .int .i64 p.2.2.2.1.1.length), (40, .sl (p.2.2.2.1.1.map e175) p.2.2.2.1.2 .no), (1, .ptr b 0)]) (fun _ _ => (b, .vars (cPrg p)) :: G) (fun j _ => True) () (by omega) ?_ (hsub_at hb2) trivial rfl (fun _ _ => rfl) ?_ ?_ (by decide)
    · simp only [go_sem, reduceIte, Nat.reduceEqDiff, Nat.reduceAdd, Nat.reduceMul, Nat.reduceSub, Nat.reduceLeDiff, Nat.reduceLT, reduceCtorEq, Int.natCast_zero]
    · intro j _ hj _
      generalize hm : f.2.2.1[j] = m
      have om := of.2.2.2.2 m (by rw [← hm]; exact List.getElem_mem hj)
      refine aw_sr rfl ?_
      simp only [go_sem, reduceIte, Nat.reduceEqDiff, Nat.reduceAdd, Nat.reduceMul, Nat.reduceSub, Nat.reduceLeDiff, Nat.reduceLT, reduceCtorEq, getD_map hj, hm, e177]
      refine ⟨⟨by omega, by omega, wid_map (g := e177) (fun _ => rfl) _⟩, fun b3 hb3 => ?_⟩
      refine aw_sr rfl ?_
      simp only [go_sem, reduceIte, Nat.reduceEqDiff, Nat.reduceAdd, Nat.reduceMul, Nat.reduceSub, Nat.reduceLeDiff, Nat.reduceLT, reduceCtorEq]
      refine goA_qb (q_TypesSmall _ _ _ om.2.2.1) fun b1 => ?_
      simp only [go_sem, reduceIte, Nat.reduceEqDiff, Nat.reduceAdd, Nat.reduceMul, Nat.reduceSub, Nat.reduceLeDiff, Nat.reduceLT, reduceCtorEq]
      refine aw_if rfl (fun h => ?_) (fun h => ?_)
      · refine aw_sr rfl ?_
        simp only [go_sem, reduceIte, Nat.reduceEqDiff, Nat.reduceAdd, Nat.reduceMul, Nat.reduceSub, Nat.reduceLeDiff, Nat.reduceLT, reduceCtorEq]
        exact aw_ret ⟨trivial, _, rfl, ⟨_, Vle.refl _⟩, sub_trans hsb (sub_tail hb3)⟩
      · refine aw_skip ⟨(), ?_, hsub_at hb3⟩
        simp only [go_sem, reduceIte, Nat.reduceEqDiff, Nat.reduceAdd, Nat.reduceMul, Nat.reduceSub, Nat.reduceLeDiff, Nat.reduceLT, reduceCtorEq]
    · intro _ _
      refine ⟨(), ?_, fun _ _ h => h⟩
      simp only [go_sem, reduceIte, Nat.reduceEqDiff, Nat.reduceAdd, Nat.reduceMul, Nat.reduceSub, Nat.reduceLeDiff, Nat.reduceLT, reduceCtorEq]
  intro _ _
  refine hK2 _ _ ?_
  refine aw_seq fun K3 hK3 => ?_
  refine aw_sr rfl ?_
  simp only [go_sem, reduceIte, Nat.reduceEqDiff, Nat.reduceAdd, Nat.reduceMul, Nat.reduceSub, Nat.reduceLeDiff, Nat.reduceLT, reduceCtorEq, e62]
  refine aw_range p.2.2.2.2.1.1.length (S := Unit) (fun _ _ => [(60, .sl (p.2.2.2.2.1.1.map e179) p.2.2.2.2.1.2 .no), (1, .ptr b 0)]) (fun _ _ => (b, .vars (cPrg p)) :: G) (fun i _ => True) () (by omega) ?_ (fun _ _ h => h) trivial rfl (fun _ _ => rfl) ?_ ?_ (by decide)
  · simp only [go_sem, reduceIte, Nat.reduceEqDiff, Nat.reduceAdd, Nat.reduceMul, Nat.reduceSub, Nat.reduceLeDiff, Nat.reduceLT, reduceCtorEq, Int.natCast_zero]
  · intro i _ hi _
    generalize hf : p.2.2.2.2.1.1[i] = f
    have of := o5.2.2 f (by rw [← hf]; exact List.getElem_mem hi)
    refine aw_sr rfl ?_
    simp only [go_sem, reduceIte, Nat.reduceEqDiff, Nat.reduceAdd, Nat.reduceMul, Nat.reduceSub, Nat.reduceLeDiff, Nat.reduceLT, reduceCtorEq, getD_map hi, hf, e179]
    refine ⟨⟨by omega, by omega, wid_map (g := e179) (fun _ => rfl) _⟩, fun b2 hb2 => ?_⟩
    refine aw_sr rfl ?_
    simp only [go_sem, reduceIte, Nat.reduceEqDiff, Nat.reduceAdd, Nat.reduceMul, Nat.reduceSub, Nat.reduceLeDiff, Nat.reduceLT, reduceCtorEq]
    refine goA_qb (q_funcsSmall f.2 .no of.2) fun b1 => ?_
    simp only [go_sem, reduceIte, Nat.reduceEqDiff, Nat.reduceAdd, Nat.reduceMul, Nat.reduceSub, Nat.reduceLeDiff, Nat.reduceLT, reduceCtorEq]
    refine aw_if rfl (fun h => ?_) (fun h => ?_)
    · refine aw_sr rfl ?_
      simp only [go_sem, reduceIte, Nat.reduceEqDiff, Nat.reduceAdd, Nat.reduceMul, Nat.reduceSub, Nat.reduceLeDiff, Nat.reduceLT, reduceCtorEq]
      exact aw_ret ⟨trivial, _, rfl, ⟨_, Vle.refl _⟩, sub_trans hsb (sub_tail hb2)⟩
    · refine aw_skip ⟨(), ?_, hsub_at hb2⟩
      simp only [go_sem, reduceIte, Nat.reduceEqDiff, Nat.reduceAdd, Nat.reduceMul, Nat.reduceSub, Nat.reduceLeDiff, Nat.reduceLT, reduceCtorEq]
  intro _ _
  refine hK3 _ _ ?_
  refine aw_seq fun K4 hK4 => ?_
  refine aw_sr rfl ?_
  simp only [go_sem, reduceIte, Nat.reduceEqDiff, Nat.reduceAdd, Nat.reduceMul, Nat.reduceSub, Nat.reduceLeDiff, Nat.reduceLT, reduceCtorEq, e62]
  refine aw_range p.2.2.2.2.2.1.1.length (S := Unit) (fun _ _ => [(72, .sl (p.2.2.2.2.2.1.1.map e181) p.2.2.2.2.2.1.2 .no), (1, .ptr b 0)]) (fun _ _ => (b, .vars (cPrg p)) :: G) (fun i _ => True) () (by omega) ?_ (fun _ _ h => h) trivial rfl (fun _ _ => rfl) ?_ ?_ (by decide)
  · simp only [go_sem, reduceIte, Nat.reduceEqDiff, Nat.reduceAdd, Nat.reduceMul, Nat.reduceSub, Nat.reduceLeDiff, Nat.reduceLT, reduceCtorEq, Int.natCast_zero]
  · intro i _ hi _
    generalize hf : p.2.2.2.2.2.1.1[i] = f
    have of := o6.2.2 f (by rw [← hf]; exact List.getElem_mem hi)
    refine aw_sr rfl ?_
    simp only [go_sem, reduceIte, Nat.reduceEqDiff, Nat.reduceAdd, Nat.reduceMul, Nat.reduceSub, Nat.reduceLeDiff, Nat.reduceLT, reduceCtorEq, getD_map hi, hf, e181]
    refine ⟨⟨by omega, by omega, wid_map (g := e181) (fun _ => rfl) _⟩, fun b2 hb2 => ?_⟩
    refine aw_sr rfl ?_
    simp only [go_sem, reduceIte, Nat.reduceEqDiff, Nat.reduceAdd, Nat.reduceMul, Nat.reduceSub, Nat.reduceLeDiff, Nat.reduceLT, reduceCtorEq]
    refine goA_qb (q_funcsSmall f.2.2 .no of.2.2) fun b1 => ?_
    simp only [go_sem, reduceIte, Nat.reduceEqDiff, Nat.reduceAdd, Nat.reduceMul, Nat.reduceSub, Nat.reduceLeDiff, Nat.reduceLT, reduceCtorEq]
    refine aw_if rfl (fun h => ?_) (fun h => ?_)
    · refine aw_sr rfl ?_
      simp only [go_sem, reduceIte, Nat.reduceEqDiff, Nat.reduceAdd, Nat.reduceMul, Nat.reduceSub, Nat.reduceLeDiff, Nat.reduceLT, reduceCtorEq]
      exact aw_ret ⟨trivial, _, rfl, ⟨_, Vle.refl _⟩, sub_trans hsb (sub_tail hb2)⟩
    · refine aw_skip ⟨(), ?_, hsub_at hb2⟩
      simp only [go_sem, reduceIte, Nat.reduceEqDiff, Nat.reduceAdd, Nat.reduceMul, Nat.reduceSub, Nat.reduceLeDiff, Nat.reduceLT, reduceCtorEq]
  intro _ _
  refine hK4 _ _ ?_
  refine aw_seq fun K5 hK5 => ?_
  refine aw_sr rfl ?_
  simp only [go_sem, reduceIte, Nat.reduceEqDiff, Nat.reduceAdd, Nat.reduceMul, Nat.reduceSub, Nat.reduceLeDiff, Nat.reduceLT, reduceCtorEq, e62]
  refine aw_range p.2.2.2.2.2.2.2.1.length (S := Unit) (fun _ _ => [(84, .sl (p.2.2.2.2.2.2.2.1.map e123) p.2.2.2.2.2.2.2.2 .no), (1, .ptr b 0)]) (fun _ _ => (b, .vars (cPrg p)) :: G) (fun i _ => True) () (by omega) ?_ (fun _ _ h => h) trivial rfl (fun _ _ => rfl) ?_ ?_ (by decide)
  · simp only [go_sem, reduceIte, Nat.reduceEqDiff, Nat.reduceAdd, Nat.reduceMul, Nat.reduceSub, Nat.reduceLeDiff, Nat.reduceLT, reduceCtorEq, Int.natCast_zero]
  · intro i _ hi _
    generalize hf : p.2.2.2.2.2.2.2.1[i] = f
    have of := o8.2.2 f (by rw [← hf]; exact List.getElem_mem hi)
    refine aw_sr rfl ?_
    simp only [go_sem, reduceIte, Nat.reduceEqDiff, Nat.reduceAdd, Nat.reduceMul, Nat.reduceSub, Nat.reduceLeDiff, Nat.reduceLT, reduceCtorEq, getD_map hi, hf, e123]
    refine ⟨⟨by omega, by omega, wid_map (g := e123) (fun _ => rfl) _⟩, fun b2 hb2 => ?_⟩
    refine aw_sr rfl ?_
    simp only [go_sem, reduceIte, Nat.reduceEqDiff, Nat.reduceAdd, Nat.reduceMul, Nat.reduceSub, Nat.reduceLeDiff, Nat.reduceLT, reduceCtorEq]
    refine goA_qb (q_TypesSmall _ _ _ of.2.2.1.2.1) fun b1 => ?_
    simp only [go_sem, reduceIte, Nat.reduceEqDiff, Nat.reduceAdd, Nat.reduceMul, Nat.reduceSub, Nat.reduceLeDiff, Nat.reduceLT, reduceCtorEq]
    refine goH_qb (fun _ => q_TypesSmall1 f.2.2.2.1 of.2.2.2.1.2) fun b2 => ?_
    simp only [go_sem, reduceIte, Nat.reduceEqDiff, Nat.reduceAdd, Nat.reduceMul, Nat.reduceSub, Nat.reduceLeDiff, Nat.reduceLT, reduceCtorEq]
    refine goH_qb (fun _ => q_exprSmall f.2.2.2.2 of.2.2.2.2) fun b3 => ?_
    simp only [go_sem, reduceIte, Nat.reduceEqDiff, Nat.reduceAdd, Nat.reduceMul, Nat.reduceSub, Nat.reduceLeDiff, Nat.reduceLT, reduceCtorEq]
    refine aw_if rfl (fun h => ?_) (fun h => ?_)
    · refine aw_sr rfl ?_
      simp only [go_sem, reduceIte, Nat.reduceEqDiff, Nat.reduceAdd, Nat.reduceMul, Nat.reduceSub, Nat.reduceLeDiff, Nat.reduceLT, reduceCtorEq]
      exact aw_ret ⟨trivial, _, rfl, ⟨_, Vle.refl _⟩, sub_trans hsb (sub_tail hb2)⟩
    · refine aw_skip ⟨(), ?_, hsub_at hb2⟩
      simp only [go_sem, reduceIte, Nat.reduceEqDiff, Nat.reduceAdd, Nat.reduceMul, Nat.reduceSub, Nat.reduceLeDiff, Nat.reduceLT, reduceCtorEq]
  intro _ _
  refine hK5 _ _ ?_
  refine aw_sr rfl ?_
  simp only [go_sem, reduceIte, Nat.reduceEqDiff, Nat.reduceAdd, Nat.reduceMul, Nat.reduceSub, Nat.reduceLeDiff, Nat.reduceLT, reduceCtorEq]
  exact aw_ret ⟨trivial, _, rfl, ⟨_, Vle.refl _⟩, hsb⟩
end Go.Proofs.Ytomjghlaoncpbaa
