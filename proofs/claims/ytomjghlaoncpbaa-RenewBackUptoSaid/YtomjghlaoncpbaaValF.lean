import Derived.Test.YtomjghlaoncpbaaValE
set_option linter.unusedSimpArgs false
set_option linter.unusedVariables false
namespace Go.Proofs.Ytomjghlaoncpbaa
open Go.Proofs.YtomjghlaoncpbaaV
set_option maxHeartbeats 400000
set_option maxRecDepth 100000
def needN (m : Mov) (old : Bool) : Int := if old then m.2.1 else (m.2.2.1.1.length : Int)
def stF (s : Sav) (w : Wy) (old : Bool) : Mov × Int :=
  if (findF w s.1).2 ≠ 0 then (zM, (findF w s.1).2) else
  if (s.2.1.1.length : Int) ≠ needN (findF w s.1).1 old then (zM, 1) else if (s.2.2.1.length : Int) > 0 then (zM, 8) else ((findF w s.1).1, 0)
theorem q_start (s : Sav) (w : Wy) (old : Bool) (hw : w.1.length ≤ bulk) (hm : ∀ m ∈ w.1, m.2.2.1.1.length ≤ bulk ∧ m.2.2.2.1.length ≤ bulk) : Quiet Try.prog 93 [.agg (cSav s), .agg (cWy w), .bool old] (pairM (stF s w old)) := by
  have hq := q_find w s.1 hw hm
  unfold stF
  generalize findF w s.1 = p at hq
  obtain ⟨m, e⟩ := p
  refine Quiet.weak fun G => ?_
  refine acall_body (rs := [.cell 6 49, .tmp 7]) Try.func93 rfl rfl Try.ntmps93 (by kernel_rfl) (Nat.le_of_ble_eq_true rfl) ?_
  refine aw_sr rfl ?_
  simp only [go_sem, reduceIte, Nat.reduceEqDiff, Nat.reduceAdd, Nat.reduceMul, Nat.reduceSub, Nat.reduceLeDiff, Nat.reduceLT, reduceCtorEq]
  intro b3 hb3 b4 hb4 b6 hb6
  obtain ⟨n64, hb6'⟩ := fresh_cons hb6
  obtain ⟨n63, n6⟩ := fresh_cons hb6'
  obtain ⟨n43, n4⟩ := fresh_cons hb4
  refine aw_sr rfl ?_
  simp only [go_sem, reduceIte, Nat.reduceEqDiff, Nat.reduceAdd, Nat.reduceMul, Nat.reduceSub, Nat.reduceLeDiff, Nat.reduceLT, reduceCtorEq, n64, n63, n43]
  refine goA_q hq ?_
  simp only [go_sem, reduceIte, Nat.reduceEqDiff, Nat.reduceAdd, Nat.reduceMul, Nat.reduceSub, Nat.reduceLeDiff, Nat.reduceLT, reduceCtorEq, n64, n63, n43]
  intro b8 hb8
  obtain ⟨n86, hb8'⟩ := fresh_cons hb8
  obtain ⟨n84, hb8''⟩ := fresh_cons hb8'
  obtain ⟨n83, n8⟩ := fresh_cons hb8''
  refine aw_seq fun K3 hK3 => ?_
  refine aw_sr rfl ?_
  simp only [go_sem, reduceIte, Nat.reduceEqDiff, Nat.reduceAdd, Nat.reduceMul, Nat.reduceSub, Nat.reduceLeDiff, Nat.reduceLT, reduceCtorEq]
  refine aw_if rfl (fun h => ?_) (fun h => ?_)
  · refine aw_sr rfl ?_
    simp only [go_sem, reduceIte, Nat.reduceEqDiff, Nat.reduceAdd, Nat.reduceMul, Nat.reduceSub, Nat.reduceLeDiff, Nat.reduceLT, reduceCtorEq, n86, n84, n83, n64, n63, n43]
    refine aw_ret ⟨trivial, [.agg [.str [], .int .i64 0, .sl [] true .full, .sl [] true .full], .int .i64 e], ?_, ?_, sub_fresh n8 (sub_fresh n6 (sub_fresh n4 (sub_fresh hb3 sub_rfl)))⟩
    · simp only [go_sem, reduceIte, Nat.reduceEqDiff, Nat.reduceAdd, Nat.reduceMul, Nat.reduceSub, Nat.reduceLeDiff, Nat.reduceLT, reduceCtorEq, resL, resOf, n86]
    · have h : e ≠ 0 := by simpa using h
      rw [if_pos h]
      exact Vle.tupL (.cons zM_le (.cons (Vle.refl _) .nil))
  · have h : e = 0 := by simpa using h
    subst h
    have h0 : ¬ ((0 : Int) ≠ 0) := by simp
    refine aw_skip (hK3 _ _ ?_)
    refine aw_sr rfl ?_
    simp only [go_sem, reduceIte, Nat.reduceEqDiff, Nat.reduceAdd, Nat.reduceMul, Nat.reduceSub, Nat.reduceLeDiff, Nat.reduceLT, reduceCtorEq, n86, n84, n83, n64, n63, n43]
    refine aw_mid (fun f' G' => FSub [(10, .int .i64 (needN m old)), (3, .ptr b3 0), (8, .ptr b8 0), (6, .ptr b6 0)] f' ∧ G' = (b8, .vars (cMov m)) :: (b6, .vars [.str [], .int .i64 0, .sl [] true .full, .sl [] true .full]) :: (b4, .vars (cWy w)) :: (b3, .vars (cSav s)) :: G) ?_ ?_
    · refine aw_sr rfl ?_
      simp only [go_sem, reduceIte, Nat.reduceEqDiff, Nat.reduceAdd, Nat.reduceMul, Nat.reduceSub, Nat.reduceLeDiff, Nat.reduceLT, reduceCtorEq]
      refine aw_if rfl (fun h => ?_) (fun h => ?_)
      · refine aw_rg rfl ?_
        simp only [go_sem, reduceIte, Nat.reduceEqDiff, Nat.reduceAdd, Nat.reduceMul, Nat.reduceSub, Nat.reduceLeDiff, Nat.reduceLT, reduceCtorEq]
        exact ⟨by simp only [go_sem, reduceIte, Nat.reduceEqDiff, Nat.reduceAdd, Nat.reduceMul, Nat.reduceSub, Nat.reduceLeDiff, Nat.reduceLT, reduceCtorEq, needN, h], rfl⟩
      · refine aw_skip ⟨?_, rfl⟩
        simp only [go_sem, reduceIte, Nat.reduceEqDiff, Nat.reduceAdd, Nat.reduceMul, Nat.reduceSub, Nat.reduceLeDiff, Nat.reduceLT, reduceCtorEq, needN, h, Bool.false_eq_true]
    · rintro f' G' ⟨hf, rfl⟩
      refine AW.of_fsub hf ?_
      refine aw_seq fun K4 hK4 => ?_
      refine aw_block ?_
      refine aw_sr rfl ?_
      simp only [go_sem, reduceIte, Nat.reduceEqDiff, Nat.reduceAdd, Nat.reduceMul, Nat.reduceSub, Nat.reduceLeDiff, Nat.reduceLT, reduceCtorEq, n86, n84, n83, n64, n63, n43]
      refine aw_if rfl (fun h => ?_) (fun h => ?_)
      · refine aw_sr rfl ?_
        simp only [go_sem, reduceIte, Nat.reduceEqDiff, Nat.reduceAdd, Nat.reduceMul, Nat.reduceSub, Nat.reduceLeDiff, Nat.reduceLT, reduceCtorEq, n86, n84, n83, n64, n63, n43]
        refine aw_ret ⟨trivial, [.agg [.str [], .int .i64 0, .sl [] true .full, .sl [] true .full], .int .i64 1], ?_, ?_, sub_fresh n8 (sub_fresh n6 (sub_fresh n4 (sub_fresh hb3 sub_rfl)))⟩
        · simp only [go_sem, reduceIte, Nat.reduceEqDiff, Nat.reduceAdd, Nat.reduceMul, Nat.reduceSub, Nat.reduceLeDiff, Nat.reduceLT, reduceCtorEq, resL, resOf, n86]
        · rw [if_neg h0, if_pos (by simpa using h)]
          exact Vle.tupL (.cons zM_le (.cons (Vle.refl _) .nil))
      · have h1 : ¬ ((s.2.1.1.length : Int) ≠ needN m old) := by simpa using h
        refine aw_sr rfl ?_
        simp only [go_sem, reduceIte, Nat.reduceEqDiff, Nat.reduceAdd, Nat.reduceMul, Nat.reduceSub, Nat.reduceLeDiff, Nat.reduceLT, reduceCtorEq, n86, n84, n83, n64, n63, n43]
        refine aw_if rfl (fun h => ?_) (fun h => ?_)
        · refine aw_sr rfl ?_
          simp only [go_sem, reduceIte, Nat.reduceEqDiff, Nat.reduceAdd, Nat.reduceMul, Nat.reduceSub, Nat.reduceLeDiff, Nat.reduceLT, reduceCtorEq, n86, n84, n83, n64, n63, n43]
          refine aw_ret ⟨trivial, [.agg [.str [], .int .i64 0, .sl [] true .full, .sl [] true .full], .int .i64 8], ?_, ?_, sub_fresh n8 (sub_fresh n6 (sub_fresh n4 (sub_fresh hb3 sub_rfl)))⟩
          · simp only [go_sem, reduceIte, Nat.reduceEqDiff, Nat.reduceAdd, Nat.reduceMul, Nat.reduceSub, Nat.reduceLeDiff, Nat.reduceLT, reduceCtorEq, resL, resOf, n86]
          · rw [if_neg h0, if_neg h1, if_pos (by simpa using h)]
            exact Vle.tupL (.cons zM_le (.cons (Vle.refl _) .nil))
        · have h2 : ¬ ((s.2.2.1.length : Int) > 0) := by simpa using h
          refine aw_skip (hK4 _ _ ?_)
          refine aw_sr rfl ?_
          simp only [go_sem, reduceIte, Nat.reduceEqDiff, Nat.reduceAdd, Nat.reduceMul, Nat.reduceSub, Nat.reduceLeDiff, Nat.reduceLT, reduceCtorEq, n86, n84, n83, n64, n63, n43]
          refine aw_ret ⟨trivial, [.agg (cMov m), .int .i64 0], ?_, ?_, sub_fresh n8 (sub_fresh n6 (sub_fresh n4 (sub_fresh hb3 sub_rfl)))⟩
          · simp only [go_sem, reduceIte, Nat.reduceEqDiff, Nat.reduceAdd, Nat.reduceMul, Nat.reduceSub, Nat.reduceLeDiff, Nat.reduceLT, reduceCtorEq, resL, resOf, n86]
          · rw [if_neg h0, if_neg h1, if_neg h2]; exact Vle.refl _
/-! copies -/
theorem q_copied0 : ∀ (n : Nat) (v : Val), v.sz ≤ n → v.sz ≤ bulk → Quiet Try.prog 94 [.agg (cV v)] (.agg (cV (cpV v))) := by
  intro n
  induction n with
  | zero => intro v h; have := v.sz_eq; omega
  | succ n ih =>
    intro v h hv
    have hl : v.args.length ≤ 1048576 := by have := szs_len v.args; have := v.sz_eq; have : v.sz ≤ 1048576 := hv; omega
    refine Quiet.weak fun G => ?_
    refine acall_body (rs := [.cell 2 67]) Try.func94 rfl rfl Try.ntmps94 (by kernel_rfl) (Nat.le_of_ble_eq_true rfl) ?_
    refine aw_sr rfl ?_
    simp only [go_sem, reduceIte, Nat.reduceEqDiff, Nat.reduceAdd, Nat.reduceMul, Nat.reduceSub, Nat.reduceLeDiff, Nat.reduceLT, reduceCtorEq]
    intro b1 hb1 b2 hb2
    obtain ⟨n21, n2⟩ := fresh_cons hb2
    refine aw_sr rfl ?_
    simp only [go_sem, reduceIte, Nat.reduceEqDiff, Nat.reduceAdd, Nat.reduceMul, Nat.reduceSub, Nat.reduceLeDiff, Nat.reduceLT, reduceCtorEq, n21]
    intro b3 hb3
    obtain ⟨n32, hb3'⟩ := fresh_cons hb3
    obtain ⟨n31, n3⟩ := fresh_cons hb3'
    refine aw_seq fun K1 hK1 => ?_
    refine aw_sr rfl ?_
    simp only [go_sem, reduceIte, Nat.reduceEqDiff, Nat.reduceAdd, Nat.reduceMul, Nat.reduceSub, Nat.reduceLeDiff, Nat.reduceLT, reduceCtorEq, n21, n32, n31]
    refine aw_range v.args.length (S := Bool × Tag × Heap) (fun i s => [(14, .sl (v.args.map eVal) v.nl .no), (3, .ptr b3 0), (2, .ptr b2 0)]) (fun _ s => s.2.2)
      (fun i s => Room ((b3, .vars [.int .i64 v.kind, .int .i64 v.num, .str v.text, .sl (((v.args.take i).map cpV).map eVal) s.1 s.2.1]) :: (b2, .vars [.int .i64 0, .int .i64 0, .str [], .sl [] true .full]) :: (b1, .vars (cV v)) :: G) 4 s.2.1 s.2.2 ∧ s.1 = (v.args.take i).isEmpty)
      (true, .full, _) (by omega) ?_ (fun _ _ h => h) ⟨by simpa using Room.start _ 4, by simp⟩ rfl (fun _ _ => rfl) ?_ ?_ (by decide)
    · simp only [go_sem, reduceIte, Nat.reduceEqDiff, Nat.reduceAdd, Nat.reduceMul, Nat.reduceSub, Nat.reduceLeDiff, Nat.reduceLT, reduceCtorEq, Int.natCast_zero]
    · intro i ⟨nl2, t2, H⟩ hi ⟨he, hnl⟩
      simp only at he hnl ⊢
      refine aw_sr rfl ?_
      simp only [go_sem, reduceIte, Nat.reduceEqDiff, Nat.reduceAdd, Nat.reduceMul, Nat.reduceSub, Nat.reduceLeDiff, Nat.reduceLT, reduceCtorEq, getD_map hi, eC, cV]
      refine ⟨⟨by omega, by omega, wid_eVal _⟩, fun b5 hb5 => ?_⟩
      obtain ⟨H2, hr2, hs2⟩ := he.push (o := .vars (cV v.args[i])) hb5
      refine AW.of_hsub hs2 ?_
      have n5 := he.sub_none hb5
      obtain ⟨n53, _⟩ := fresh_cons n5
      have hg5 : hget H2 b5 = some (.vars (cV v.args[i])) := hr2.sub _ _ (hget_self _ _ _)
      have hg3 : hget H2 b3 = some (.vars [.int .i64 v.kind, .int .i64 v.num, .str v.text, .sl (((v.args.take i).map cpV).map eVal) nl2 t2]) := hr2.sub _ _ (by rw [hget_cons_ne n53, hget_self])
      refine aw_rgd [(0,true),(1,true),(2,true),(3,true),(4,true),(5,false),(6,true),(7,false)] mixed rfl (by kernel_rfl) ?_
      simp only [go_sem, reduceIte, Nat.reduceEqDiff, Nat.reduceAdd, Nat.reduceMul, Nat.reduceSub, Nat.reduceLeDiff, Nat.reduceLT, reduceCtorEq, hg5, hg3, cV]
      refine goQ_by (ih v.args[i] (by have := Val.sz_args (List.getElem_mem hi); omega) (Nat.le_trans (Nat.le_of_lt (Val.sz_args (List.getElem_mem hi))) hv)) ?_
      simp only [go_sem, reduceIte, Nat.reduceEqDiff, Nat.reduceAdd, Nat.reduceMul, Nat.reduceSub, Nat.reduceLeDiff, Nat.reduceLT, reduceCtorEq]
      have happ : ((v.args.take i).map cpV).map eVal ++ [cV (cpV v.args[i])] = ((v.args.take (i + 1)).map cpV).map eVal := by
        rw [List.take_succ_eq_append_getElem hi, List.map_append, List.map_append, List.map_cons, List.map_cons, List.map_nil, List.map_nil, eC]
      refine goP_room hr2 ?_ fun t' H' hr => ?_
      · exact ⟨rfl, rfl, by decide, wid_eVal _, wid_one rfl, sca_one rfl, by simp; omega, by simp; omega⟩
      have hg3' : hget H' b3 = some (.vars [.int .i64 v.kind, .int .i64 v.num, .str v.text, .sl (((v.args.take i).map cpV).map eVal) nl2 t2]) := hr.sub _ _ (by rw [hget_cons_ne n53, hget_self])
      simp only [go_sem, reduceIte, Nat.reduceEqDiff, Nat.reduceAdd, Nat.reduceMul, Nat.reduceSub, Nat.reduceLeDiff, Nat.reduceLT, reduceCtorEq, happ, hg3', Bool.and_false]
      obtain ⟨H3, hr3, hs3⟩ := hr.pop n5
      refine ⟨(false, t', hset H3 b3 (.vars [.int .i64 v.kind, .int .i64 v.num, .str v.text, .sl (((v.args.take (i + 1)).map cpV).map eVal) false t'])), ⟨hr3.put, ?_⟩, ?_, sub_hset hs3⟩
      · exact (List.isEmpty_eq_false_iff.2 fun e => by have e2 := congrArg List.length e; rw [List.length_take, List.length_nil] at e2; omega).symm
      simp only [go_sem, reduceIte, Nat.reduceEqDiff, Nat.reduceAdd, Nat.reduceMul, Nat.reduceSub, Nat.reduceLeDiff, Nat.reduceLT, reduceCtorEq]
    · intro ⟨nl2, t2, H⟩ ⟨he, hnl⟩
      simp only at he hnl ⊢
      refine hK1 _ _ ?_
      have hg3 : hget H b3 = some (.vars [.int .i64 v.kind, .int .i64 v.num, .str v.text, .sl ((v.args.map cpV).map eVal) nl2 t2]) := by
        have := he.sub _ _ (hget_self _ _ _)
        rwa [List.take_length] at this
      refine aw_sr rfl ?_
      have hg2 : hget H b2 = some (.vars [.int .i64 0, .int .i64 0, .str [], .sl [] true .full]) := he.sub _ _ (by rw [hget_cons_ne n32, hget_self])
      simp only [go_sem, reduceIte, Nat.reduceEqDiff, Nat.reduceAdd, Nat.reduceMul, Nat.reduceSub, Nat.reduceLeDiff, Nat.reduceLT, reduceCtorEq, hg3, hg2]
      refine aw_ret ⟨trivial, [.agg [.int .i64 v.kind, .int .i64 v.num, .str v.text, .sl ((v.args.map cpV).map eVal) nl2 t2]], ?_, ?_, sub_hset_fresh n2 fun b' o' h => he.sub _ _ (sub_fresh n3 (sub_fresh n2 (sub_fresh hb1 sub_rfl)) _ _ h)⟩
      · simp only [go_sem, reduceIte, Nat.reduceEqDiff, Nat.reduceAdd, Nat.reduceMul, Nat.reduceSub, Nat.reduceLeDiff, Nat.reduceLT, reduceCtorEq, resL, resOf, hget_hset_self hg2]
      · rw [List.take_length] at hnl
        rw [cpV_eq, hnl]
        exact Vle.aggL (.cons (Vle.refl _) (.cons (Vle.refl _) (.cons (Vle.refl _) (.cons Vle.untag .nil))))
end Go.Proofs.Ytomjghlaoncpbaa
