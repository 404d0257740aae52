/- Part 5 of a proof laid in parts; each part's own comment says what it proves and under which conditions. -/
import Derived.Test.YtkhgcikaojhknaaCq4
import Derived.Test.YtkhgcikaojhknaaCq3
import Derived.Test.YtkhgcikaojhknaaRows
import Derived.WalkKit
import Derived.ProofKit
import Derived.OpenShut
import Derived.JoinedCond
/- What is wrong with an instruction, the reference's. No conditions but sizes. -/
set_option linter.unusedSimpArgs false
set_option linter.unusedVariables false
namespace Go.Proofs.Ytkhgcikaojhknaa
open Go.Proofs.YtkhgcikaojhknaaV
set_option maxHeartbeats 400000
set_option maxRecDepth 100000
theorem eq_sw (a b : Int) : decide (a = b) = decide (b = a) := by rw [Bool.eq_iff_iff]; simp only [decide_eq_true_eq]; exact eq_comm
theorem q_right (c : CodeD) (hc : OkCode c) (f : FunD) (hf : OkFunD f) (x : InsD) (i : Int) (hal : x.2.2.2.2.1.length ≤ 1048576) (h0 : 0 ≤ i) (h9 : i ≤ 1099511627776) :
    Quiet Try.prog 147 [.agg (cCode c), .agg (cFun f), .agg (eIns x), .int .i64 i] (.bool (fineI c f.2.2.2.2.1.length f.2.2.2.1 i x)) := by
  obtain ⟨op, xa, xb, xc, args, nl⟩ := x
  simp only at hal
  obtain ⟨hfl, hfa⟩ := hf
  have hFI : fineI c f.2.2.2.2.1.length f.2.2.2.1 i (op, xa, xb, xc, args, nl) = (decide (1 ≤ op ∧ op ≤ 27) && ((nextF op xa xb xc i args).all (fun n => withinB n f.2.2.2.2.1.length) && ((regsF (op, xa, xb, xc, args, nl)).all (fun r => withinB r f.2.2.2.1) && insB c op xb xc args))) := rfl
  generalize fineI c f.2.2.2.2.1.length f.2.2.2.1 i (op, xa, xb, xc, args, nl) = FI at hFI ⊢
  have hlf : c.2.2.1.1.length ≤ 1048576 := hc.2.2.1
  have hla : c.2.2.2.1.1.length ≤ 1048576 := hc.2.2.2.1
  have hlp : c.2.2.2.2.2.2.1.length ≤ 1048576 := hc.2.2.2.2.2.2.1
  have hwf : wid 5 (c.2.2.1.1.map eFun) := wid_map (g := eFun) (fun _ => rfl) _
  have hwa : wid 4 (c.2.2.2.1.1.map eActD) := wid_map (g := eActD) (fun _ => rfl) _
  have hwp : wid 1 (c.2.2.2.2.2.2.1.map ePatL) := wid_map (g := ePatL) (fun _ => rfl) _
  refine Quiet.weak fun G => ?_
  refine acall_body (rs := [.tmp 8]) Try.func147 rfl rfl Try.ntmps147 (by kernel_rfl) (Nat.le_of_ble_eq_true rfl) ?_
  refine aw_sr rfl ?_  -- r0 @low.go:179
  simp only [go_sem, reduceIte, Nat.reduceEqDiff, Nat.reduceAdd, Nat.reduceMul, Nat.reduceSub, Nat.reduceLeDiff, Nat.reduceLT, reduceCtorEq, eIns]
  intro b4 hb4
  intro b5 hb5
  intro b6 hb6
  refine aw_box3 hb4 hb5 hb6 fun B1 hs1 h4 h5 h6 _ _ _ _ _ _ => ?_
  have hsB := hs1
  refine aw_seq fun K26 hK26 => ?_
  refine aw_sr rfl ?_  -- r1 @low.go:180
  simp only [go_sem, reduceIte, Nat.reduceEqDiff, Nat.reduceAdd, Nat.reduceMul, Nat.reduceSub, Nat.reduceLeDiff, Nat.reduceLT, reduceCtorEq, h6]
  refine aw_if rfl (fun h => ?_) (fun h => ?_)
  · refine aw_sr rfl ?_  -- r2 @low.go:181
    simp only [go_sem, reduceIte, Nat.reduceEqDiff, Nat.reduceAdd, Nat.reduceMul, Nat.reduceSub, Nat.reduceLeDiff, Nat.reduceLT, reduceCtorEq]
    refine aw_ret ⟨trivial, _, rfl, ?_, hsB⟩
    simp only [Bool.or_eq_true, decide_eq_true_eq] at h
    rw [hFI, decide_eq_false (by omega), Bool.false_and]
    exact Vle.refl _
  simp only [Bool.or_eq_false_iff, decide_eq_false_iff_not] at h
  rw [decide_eq_true (by omega), Bool.true_and] at hFI
  refine aw_skip (hK26 _ _ ?_)
  refine aw_seq fun K27 hK27 => ?_
  refine aw_sr rfl ?_  -- r3 @low.go:183
  simp only [go_sem, reduceIte, Nat.reduceEqDiff, Nat.reduceAdd, Nat.reduceMul, Nat.reduceSub, Nat.reduceLeDiff, Nat.reduceLT, reduceCtorEq, h6]
  have hnl := next_len op xa xb xc i args
  refine goA_q (q_rNext op xa xb xc i args nl hal h0 h9) ?_
  simp only [go_sem, reduceIte, Nat.reduceEqDiff, Nat.reduceAdd, Nat.reduceMul, Nat.reduceSub, Nat.reduceLeDiff, Nat.reduceLT, reduceCtorEq, ints]
  refine aw_range (nextF op xa xb xc i args).length (S := Unit) (fun j _ => [(4, .ptr b4 0), (5, .ptr b5 0), (6, .ptr b6 0), (32, .sl ((nextF op xa xb xc i args).map eI) (nextF op xa xb xc i args).isEmpty .no)]) (fun _ _ => B1) (fun j _ => ((nextF op xa xb xc i args).take j).all (fun n => withinB n f.2.2.2.2.1.length) = true) () (by omega) ?_ (fun _ _ h => h) rfl rfl (fun _ _ => rfl) ?_ ?_ (by decide)
  · simp only [go_sem, reduceIte, Nat.reduceEqDiff, Nat.reduceAdd, Nat.reduceMul, Nat.reduceSub, Nat.reduceLeDiff, Nat.reduceLT, reduceCtorEq, Int.natCast_zero]
  · intro j _ hj he2
    refine aw_sr rfl ?_  -- r5 @low.go:183
    simp only [go_sem, reduceIte, Nat.reduceEqDiff, Nat.reduceAdd, Nat.reduceMul, Nat.reduceSub, Nat.reduceLeDiff, Nat.reduceLT, reduceCtorEq, getD_eI hj]
    refine ⟨⟨by omega, by omega, wid_eI _⟩, ?_⟩
    refine aw_sr rfl ?_  -- r6 @low.go:184
    simp only [go_sem, reduceIte, Nat.reduceEqDiff, Nat.reduceAdd, Nat.reduceMul, Nat.reduceSub, Nat.reduceLeDiff, Nat.reduceLT, reduceCtorEq, h5]
    refine goA_q (q_in _ _) ?_
    simp only [go_sem, reduceIte, Nat.reduceEqDiff, Nat.reduceAdd, Nat.reduceMul, Nat.reduceSub, Nat.reduceLeDiff, Nat.reduceLT, reduceCtorEq]
    refine aw_if rfl (fun h => ?_) (fun h => ?_)
    · refine aw_sr rfl ?_  -- r7 @low.go:185
      simp only [go_sem, reduceIte, Nat.reduceEqDiff, Nat.reduceAdd, Nat.reduceMul, Nat.reduceSub, Nat.reduceLeDiff, Nat.reduceLT, reduceCtorEq]
      refine aw_ret ⟨trivial, _, rfl, ?_, hsB⟩
      rw [hFI, allT_not (q := fun n => withinB n f.2.2.2.2.1.length) hj (by simpa using h), Bool.false_and]
      exact Vle.refl _
    refine aw_skip ⟨(), allT_next (q := fun n => withinB n f.2.2.2.2.1.length) he2 hj (by simpa using h), ?_, fun _ _ h => h⟩
    simp only [go_sem, reduceIte, Nat.reduceEqDiff, Nat.reduceAdd, Nat.reduceMul, Nat.reduceSub, Nat.reduceLeDiff, Nat.reduceLT, reduceCtorEq]
  intro _ he2
  rw [List.take_length] at he2
  rw [he2, Bool.true_and] at hFI
  refine hK27 _ _ ?_
  refine aw_sr rfl ?_  -- r9 @low.go:188
  simp only [go_sem, reduceIte, Nat.reduceEqDiff, Nat.reduceAdd, Nat.reduceMul, Nat.reduceSub, Nat.reduceLeDiff, Nat.reduceLT, reduceCtorEq, h6]
  refine goA_by (m_rReads op xa xb xc args nl hal B1) fun y G3 hy => ?_
  obtain ⟨t0, rfl, hr0, hs0⟩ := hy
  simp only [go_sem, reduceIte, Nat.reduceEqDiff, Nat.reduceAdd, Nat.reduceMul, Nat.reduceSub, Nat.reduceLeDiff, Nat.reduceLT, reduceCtorEq]
  have hrl := reads_len op xa xb args
  have hall := arms_len op args
  have harr := arms_regs op args
  generalize hr1 : readsF op xa xb args = r1 at hrl ⊢
  refine aw_mid (fun f' G' => ∃ nl2 t2, FSub [(11, .sl ((r1 ++ (if writesB op = true then [xa] else [])).map eI) nl2 t2), (4, .ptr b4 0), (5, .ptr b5 0), (6, .ptr b6 0)] f' ∧ Rm B1 G' 1 t2 ∧ Sub B1 G') ?_ ?_
  · -- 2 ways
    refine aw_sr rfl ?_  -- r10
    simp only [go_sem, reduceIte, Nat.reduceEqDiff, Nat.reduceAdd, Nat.reduceMul, Nat.reduceSub, Nat.reduceLeDiff, Nat.reduceLT, reduceCtorEq, hs0 _ _ h6]
    refine goA_q (q_shapes op) ?_
    simp only [go_sem, reduceIte, Nat.reduceEqDiff, Nat.reduceAdd, Nat.reduceMul, Nat.reduceSub, Nat.reduceLeDiff, Nat.reduceLT, reduceCtorEq, cShape, writes_same]
    refine aw_if rfl (fun h => ?_) (fun h => ?_)
    · refine aw_rg rfl ?_  -- r11
      simp only [go_sem, reduceIte, Nat.reduceEqDiff, Nat.reduceAdd, Nat.reduceMul, Nat.reduceSub, Nat.reduceLeDiff, Nat.reduceLT, reduceCtorEq, hs0 _ _ h6]
      refine goP_rm hr0 hs0 ?_ fun t1 H1 hr1 hs1 hg1 => ?_
      · exact ⟨rfl, rfl, by decide, wid_eI _, wid_one rfl, sca_one rfl, by simp; omega, by simp; omega⟩
      simp only [go_sem, reduceIte, Nat.reduceEqDiff, Nat.reduceAdd, Nat.reduceMul, Nat.reduceSub, Nat.reduceLeDiff, Nat.reduceLT, reduceCtorEq]
      refine ⟨false, t1, ⟨?_, rfl, rfl, rfl⟩, hr1, hs1⟩
      rw [if_pos h, List.map_append]; rfl
    · refine aw_skip ⟨r1.isEmpty, t0, ⟨?_, rfl, rfl, rfl⟩, hr0, hs0⟩
      rw [if_neg (no_if h), List.append_nil]; rfl
  intro f' B3 ⟨nl2, t2, hf, hr2, hs3⟩
  refine AW.of_fsub hf ?_
  have hx0 : (r1 ++ (if writesB op = true then [xa] else [])).length ≤ args.length + 3 := by
    rw [List.length_append]; split <;> simp <;> omega
  have hregs : regsF (op, xa, xb, xc, args, nl) = r1 ++ (if writesB op = true then [xa] else []) ++ (armsF op args).flatMap (·.2) := by unfold regsF; simp only; rw [hr1]
  generalize hr3 : r1 ++ (if writesB op = true then [xa] else []) = r3 at hx0 hregs ⊢
  refine aw_seq fun K28 hK28 => ?_
  refine aw_sr rfl ?_  -- r12
  simp only [go_sem, reduceIte, Nat.reduceEqDiff, Nat.reduceAdd, Nat.reduceMul, Nat.reduceSub, Nat.reduceLeDiff, Nat.reduceLT, reduceCtorEq, hs3 _ _ h6]
  refine goA_q (q_rArms op xa xb xc args nl hal) ?_
  simp only [go_sem, reduceIte, Nat.reduceEqDiff, Nat.reduceAdd, Nat.reduceMul, Nat.reduceSub, Nat.reduceLeDiff, Nat.reduceLT, reduceCtorEq, ars]
  generalize hAA : armsF op args = AA at hall harr hregs ⊢
  have hflat : ∀ k, ((AA.take k).flatMap (·.2)).length ≤ 1048576 * 1048576 := fun k => by
    have h1 := flat_len (m := 1048576) (g := (·.2)) (xs := AA.take k) (fun a ha => Nat.le_trans (harr a (List.mem_of_mem_take ha)) hal)
    have h2 : (AA.take k).length ≤ 1048576 := by rw [List.length_take]; omega
    exact Nat.le_trans h1 (Nat.mul_le_mul_right _ h2)
  refine aw_range AA.length (S := Bool × Tag × Heap) (fun k s => [(11, .sl ((r3 ++ (AA.take k).flatMap (·.2)).map eI) s.1 s.2.1), (4, .ptr b4 0), (5, .ptr b5 0), (6, .ptr b6 0), (57, .sl (AA.map eAr) AA.isEmpty .no)]) (fun _ s => s.2.2) (fun k s => Rm B1 s.2.2 1 s.2.1 ∧ Sub B1 s.2.2) (nl2, t2, B3) (by omega) ?_ (fun _ _ h => h) ⟨hr2, hs3⟩ rfl (fun _ _ => rfl) ?_ ?_ (by decide)
  · simp only [go_sem, reduceIte, Nat.reduceEqDiff, Nat.reduceAdd, Nat.reduceMul, Nat.reduceSub, Nat.reduceLeDiff, Nat.reduceLT, reduceCtorEq, Int.natCast_zero, List.take_zero, List.flatMap_nil, List.append_nil]
  · intro k ⟨nl4, t4, B4⟩ hk ⟨hr4, hs4⟩
    simp only at hr4 hs4 ⊢
    have hkl := harr _ (List.getElem_mem hk)
    refine aw_sr rfl ?_  -- r14
    simp only [go_sem, reduceIte, Nat.reduceEqDiff, Nat.reduceAdd, Nat.reduceMul, Nat.reduceSub, Nat.reduceLeDiff, Nat.reduceLT, reduceCtorEq, getD_map hk, eAr]
    refine ⟨⟨by omega, by omega, wid_eAr _⟩, ?_⟩
    intro b13 hb13
    refine aw_box1 hb13 fun B5 hs5 h13 => ?_
    refine aw_rg rfl ?_  -- r15
    simp only [go_sem, reduceIte, Nat.reduceEqDiff, Nat.reduceAdd, Nat.reduceMul, Nat.reduceSub, Nat.reduceLeDiff, Nat.reduceLT, reduceCtorEq, h13]
    refine goP_rm (hr4.sub hs5) (sub_trans hs4 hs5) ?_ fun t1 H1 hr6 hs6 hg6 => ?_
    · have := hflat k
      exact ⟨rfl, rfl, by decide, wid_eI _, wid_eI _, sca_eI _, by simp only [List.length_map, List.length_append, List.length_cons, List.length_nil, List.length_take, List.length_drop]; omega, by simp only [List.length_map, List.length_append, List.length_cons, List.length_nil, List.length_take, List.length_drop]; omega⟩
    simp only [go_sem, reduceIte, Nat.reduceEqDiff, Nat.reduceAdd, Nat.reduceMul, Nat.reduceSub, Nat.reduceLeDiff, Nat.reduceLT, reduceCtorEq]
    refine ⟨(nl4 && (AA[k].2.map eI).isEmpty, t1, H1), ⟨hr6, hs6⟩, ⟨rfl, rfl, ?_, rfl, rfl, rfl, rfl⟩, sub_rfl⟩
    show some _ = some _
    rw [List.take_succ_eq_append_getElem hk, List.flatMap_append, List.flatMap_singleton, ← List.append_assoc, List.map_append (l₁ := r3 ++ _)]
  intro ⟨nl4, t4, B4⟩ ⟨hr4, hs4⟩
  simp only at hr4 hs4 ⊢
  rw [List.take_length, ← hregs]
  have hRl : (regsF (op, xa, xb, xc, args, nl)).length ≤ 1048579 + 1048576 * 1048576 := by
    have := hflat AA.length
    rw [List.take_length] at this
    rw [hregs, List.length_append]; omega
  refine hK28 _ _ ?_
  refine aw_seq fun K29 hK29 => ?_
  refine aw_sr rfl ?_  -- r17
  simp only [go_sem, reduceIte, Nat.reduceEqDiff, Nat.reduceAdd, Nat.reduceMul, Nat.reduceSub, Nat.reduceLeDiff, Nat.reduceLT, reduceCtorEq]
  generalize hRR : regsF (op, xa, xb, xc, args, nl) = RR at hRl hFI ⊢
  have hsC := sub_trans hsB hs4
  replace h4 := hs4 _ _ h4
  replace h5 := hs4 _ _ h5
  replace h6 := hs4 _ _ h6
  refine aw_range RR.length (S := Unit) (fun k _ => [(4, .ptr b4 0), (5, .ptr b5 0), (6, .ptr b6 0), (68, .sl (RR.map eI) nl4 t4)]) (fun _ _ => B4) (fun k _ => (RR.take k).all (fun r => withinB r f.2.2.2.1) = true) () (by omega) ?_ (fun _ _ h => h) rfl rfl (fun _ _ => rfl) ?_ ?_ (by decide)
  · simp only [go_sem, reduceIte, Nat.reduceEqDiff, Nat.reduceAdd, Nat.reduceMul, Nat.reduceSub, Nat.reduceLeDiff, Nat.reduceLT, reduceCtorEq, Int.natCast_zero]
  · intro k _ hk he3
    refine aw_sr rfl ?_  -- r19
    simp only [go_sem, reduceIte, Nat.reduceEqDiff, Nat.reduceAdd, Nat.reduceMul, Nat.reduceSub, Nat.reduceLeDiff, Nat.reduceLT, reduceCtorEq, getD_eI hk]
    refine ⟨⟨by omega, by omega, wid_eI _⟩, ?_⟩
    refine aw_sr rfl ?_  -- r20
    simp only [go_sem, reduceIte, Nat.reduceEqDiff, Nat.reduceAdd, Nat.reduceMul, Nat.reduceSub, Nat.reduceLeDiff, Nat.reduceLT, reduceCtorEq, h5]
    refine goA_q (q_in _ _) ?_
    simp only [go_sem, reduceIte, Nat.reduceEqDiff, Nat.reduceAdd, Nat.reduceMul, Nat.reduceSub, Nat.reduceLeDiff, Nat.reduceLT, reduceCtorEq]
    refine aw_if rfl (fun h => ?_) (fun h => ?_)
    · refine aw_sr rfl ?_  -- r21
      simp only [go_sem, reduceIte, Nat.reduceEqDiff, Nat.reduceAdd, Nat.reduceMul, Nat.reduceSub, Nat.reduceLeDiff, Nat.reduceLT, reduceCtorEq]
      refine aw_ret ⟨trivial, _, rfl, ?_, hsC⟩
      rw [hFI, allT_not (q := fun n => withinB n f.2.2.2.1) hk (by simpa using h), Bool.false_and]
      exact Vle.refl _
    refine aw_skip ⟨(), allT_next (q := fun n => withinB n f.2.2.2.1) he3 hk (by simpa using h), ?_, fun _ _ h => h⟩
    simp only [go_sem, reduceIte, Nat.reduceEqDiff, Nat.reduceAdd, Nat.reduceMul, Nat.reduceSub, Nat.reduceLeDiff, Nat.reduceLT, reduceCtorEq]
  intro _ he3
  rw [List.take_length] at he3
  rw [he3, Bool.true_and] at hFI
  refine hK29 _ _ ?_
  refine aw_sr rfl ?_  -- r23 @low.go:200
  simp only [go_sem, reduceIte, Nat.reduceEqDiff, Nat.reduceAdd, Nat.reduceMul, Nat.reduceSub, Nat.reduceLeDiff, Nat.reduceLT, reduceCtorEq, h6]
  refine aw_mid (fun f' G' => FI = true ∧ Sub G G') ?_ ?_
  · -- 2 ways
    refine aw_sr rfl ?_  -- r24 @low.go:201
    simp only [go_sem, reduceIte, Nat.reduceEqDiff, Nat.reduceAdd, Nat.reduceMul, Nat.reduceSub, Nat.reduceLeDiff, Nat.reduceLT, reduceCtorEq, h6]
    refine aw_block ?_  -- 6
    refine aw_chain rfl rfl rfl rfl rfl ?_  -- t84 is one of [1]
    refine aw_if rfl (fun h => ?_) (fun h => ?_)
    · have h : op = 1 := by simpa using h
      have hI : FI = (decide (xb = 1) || (decide (xb = 3) && withinB xc 2) || (decide (xb = 2) && withinB xc c.2.1.1.length) || (decide (xb = 4) && withinB xc c.1.1.length)) := by rw [hFI]; unfold insB; rw [if_pos h]
      refine aw_seq fun K30 hK30 => ?_
      refine aw_sr rfl ?_  -- r26 @low.go:203
      simp only [go_sem, reduceIte, Nat.reduceEqDiff, Nat.reduceAdd, Nat.reduceMul, Nat.reduceSub, Nat.reduceLeDiff, Nat.reduceLT, reduceCtorEq, h6]
      refine aw_block ?_  -- 7
      refine aw_chain rfl rfl rfl rfl rfl ?_  -- t88 is one of [1]
      refine aw_if rfl (fun h => ?_) (fun h => ?_)
      · have h : xb = 1 := by simpa using h
        refine aw_sr rfl ?_  -- r28 @low.go:205
        simp only [go_sem, reduceIte, Nat.reduceEqDiff, Nat.reduceAdd, Nat.reduceMul, Nat.reduceSub, Nat.reduceLeDiff, Nat.reduceLT, reduceCtorEq]
        refine aw_ret ⟨trivial, _, rfl, ?_, hsC⟩
        rw [hI]; subst h
        exact Vle.refl _
      have g1 : ¬ xb = 1 := by simpa using h
      refine aw_chain rfl rfl rfl rfl rfl ?_  -- t88 is one of [3]
      refine aw_if rfl (fun h => ?_) (fun h => ?_)
      · have h : xb = 3 := by simpa using h
        refine aw_sr rfl ?_  -- r30 @low.go:207
        simp only [go_sem, reduceIte, Nat.reduceEqDiff, Nat.reduceAdd, Nat.reduceMul, Nat.reduceSub, Nat.reduceLeDiff, Nat.reduceLT, reduceCtorEq, h6]
        refine goA_q (q_in _ _) ?_
        simp only [go_sem, reduceIte, Nat.reduceEqDiff, Nat.reduceAdd, Nat.reduceMul, Nat.reduceSub, Nat.reduceLeDiff, Nat.reduceLT, reduceCtorEq]
        refine aw_ret ⟨trivial, _, rfl, ?_, hsC⟩
        rw [hI]; subst h
        simp
        exact Vle.refl _
      have g3 : ¬ xb = 3 := by simpa using h
      refine aw_chain rfl rfl rfl rfl rfl ?_  -- t88 is one of [2]
      refine aw_if rfl (fun h => ?_) (fun h => ?_)
      · have h : xb = 2 := by simpa using h
        refine aw_sr rfl ?_  -- r32 @low.go:209
        simp only [go_sem, reduceIte, Nat.reduceEqDiff, Nat.reduceAdd, Nat.reduceMul, Nat.reduceSub, Nat.reduceLeDiff, Nat.reduceLT, reduceCtorEq, h4, h6]
        refine goA_q (q_in _ _) ?_
        simp only [go_sem, reduceIte, Nat.reduceEqDiff, Nat.reduceAdd, Nat.reduceMul, Nat.reduceSub, Nat.reduceLeDiff, Nat.reduceLT, reduceCtorEq]
        refine aw_ret ⟨trivial, _, rfl, ?_, hsC⟩
        rw [hI]; subst h
        simp
        exact Vle.refl _
      have g2 : ¬ xb = 2 := by simpa using h
      refine aw_chain rfl rfl rfl rfl rfl ?_  -- t88 is one of [4]
      refine aw_if rfl (fun h => ?_) (fun h => ?_)
      · have h : xb = 4 := by simpa using h
        refine aw_sr rfl ?_  -- r34 @low.go:211
        simp only [go_sem, reduceIte, Nat.reduceEqDiff, Nat.reduceAdd, Nat.reduceMul, Nat.reduceSub, Nat.reduceLeDiff, Nat.reduceLT, reduceCtorEq, h4, h6]
        refine goA_q (q_in _ _) ?_
        simp only [go_sem, reduceIte, Nat.reduceEqDiff, Nat.reduceAdd, Nat.reduceMul, Nat.reduceSub, Nat.reduceLeDiff, Nat.reduceLT, reduceCtorEq]
        refine aw_ret ⟨trivial, _, rfl, ?_, hsC⟩
        rw [hI]; subst h
        simp
        exact Vle.refl _
      have g4 : ¬ xb = 4 := by simpa using h
      refine aw_skip (hK30 _ _ ?_)
      refine aw_sr rfl ?_  -- r35 @low.go:213
      simp only [go_sem, reduceIte, Nat.reduceEqDiff, Nat.reduceAdd, Nat.reduceMul, Nat.reduceSub, Nat.reduceLeDiff, Nat.reduceLT, reduceCtorEq]
      refine aw_ret ⟨trivial, _, rfl, ?_, hsC⟩
      rw [hI, decide_eq_false g1, decide_eq_false g2, decide_eq_false g3, decide_eq_false g4]
      exact Vle.refl _
    have h1 : ¬ op = 1 := by simpa using h
    refine aw_chain rfl rfl rfl rfl rfl ?_  -- t84 is one of [5]
    refine aw_if rfl (fun h => ?_) (fun h => ?_)
    · have h : op = 5 := by simpa using h
      have hI : FI = ((withinB xb 8 && decide (args.length = 2)) || (decide (xb = 8) && decide (args.length = 1))) := by rw [hFI]; unfold insB; rw [if_neg h1, if_pos h]
      refine aw_srq [(0,true),(1,true),(2,true),(3,true),(4,true),(5,true),(6,true),(7,true),(8,true),(9,true),(10,true),(11,true),(12,true),(13,true),(14,true),(15,true),(16,true)] rfl rfl ?_  -- r37 @low.go:215
      simp only [go_sem, reduceIte, Nat.reduceEqDiff, Nat.reduceAdd, Nat.reduceMul, Nat.reduceSub, Nat.reduceLeDiff, Nat.reduceLT, reduceCtorEq, h6]
      refine goQ_by (q_in _ _) ?_
      simp only [go_sem, reduceIte, Nat.reduceEqDiff, Nat.reduceAdd, Nat.reduceMul, Nat.reduceSub, Nat.reduceLeDiff, Nat.reduceLT, reduceCtorEq, h6]
      refine aw_ret ⟨trivial, _, rfl, ?_, hsC⟩
      rw [hI]
      rw [show decide (args.length = 2) = decide ((args.length : Int) = 2) by rw [Bool.eq_iff_iff]; simp only [decide_eq_true_eq]; omega, show decide (args.length = 1) = decide ((args.length : Int) = 1) by rw [Bool.eq_iff_iff]; simp only [decide_eq_true_eq]; omega]
      exact Vle.refl _
    have h5' : ¬ op = 5 := by simpa using h
    refine aw_chain rfl rfl rfl rfl rfl ?_  -- t84 is one of [6]
    refine aw_if rfl (fun h => ?_) (fun h => ?_)
    · have h : op = 6 := by simpa using h
      have hI : FI = (match atI c.funs xb with | none => false | some f => decide (f.2.2.1 = 0) && decide ((args.length : Int) = f.2.1)) := by rw [hFI]; unfold insB; rw [if_neg h1, if_neg h5', if_pos h]; rfl
      refine aw_srq [(0,true),(1,true),(2,true),(3,true),(4,true),(5,true),(6,true),(7,true),(8,true),(9,true),(10,true),(11,true),(12,true),(13,true),(14,true),(15,true),(16,true),(17,true),(18,true),(19,true),(20,true),(21,true),(22,true),(23,true),(24,true),(25,true),(26,true),(27,true)] rfl rfl ?_  -- r39 @low.go:217
      rcases atI_cases c.funs xb with ⟨hn, hw, hb0, hb1, ha⟩ | ⟨hw, ha⟩
      · rw [ha] at hI
        simp only at hI
        simp only [go_sem, reduceIte, Nat.reduceEqDiff, Nat.reduceAdd, Nat.reduceMul, Nat.reduceSub, Nat.reduceLeDiff, Nat.reduceLT, reduceCtorEq, h4, h6]
        refine goQ_by (q_in _ _) ?_
        simp only [go_sem, reduceIte, Nat.reduceEqDiff, Nat.reduceAdd, Nat.reduceMul, Nat.reduceSub, Nat.reduceLeDiff, Nat.reduceLT, reduceCtorEq, h4, h6, hw, getD_map hn, eFun]
        refine ⟨fun _ => ⟨hb0, hb1, hwf⟩, fun _ => ⟨hb0, hb1, hwf⟩, ?_⟩
        refine aw_ret ⟨trivial, _, rfl, ?_, hsC⟩
        rw [hI, eq_sw (args.length : Int)]
        exact Vle.refl _
      · rw [ha] at hI
        simp only at hI
        simp only [go_sem, reduceIte, Nat.reduceEqDiff, Nat.reduceAdd, Nat.reduceMul, Nat.reduceSub, Nat.reduceLeDiff, Nat.reduceLT, reduceCtorEq, h4, h6]
        refine goQ_by (q_in _ _) ?_
        rcases getD_or eFun c.funs xb.toNat with hg | ⟨d, hg⟩
        all_goals
          simp only [go_sem, reduceIte, Nat.reduceEqDiff, Nat.reduceAdd, Nat.reduceMul, Nat.reduceSub, Nat.reduceLeDiff, Nat.reduceLT, reduceCtorEq, h4, h6, hw, hg, eFun]
          repeat first | refine ⟨fun e => e.elim, ?_⟩ | refine ⟨rfl, ?_⟩
          refine aw_ret ⟨trivial, _, rfl, ?_, hsC⟩
          rw [hI]
          exact Vle.refl _
    have h6' : ¬ op = 6 := by simpa using h
    refine aw_chain rfl rfl rfl rfl rfl ?_  -- t84 is one of [8]
    refine aw_if rfl (fun h => ?_) (fun h => ?_)
    · have h : op = 8 := by simpa using h
      have hI : FI = (match atI c.funs xb with | none => false | some f => decide ((args.length : Int) = f.2.2.1)) := by rw [hFI]; unfold insB; rw [if_neg h1, if_neg h5', if_neg h6', if_pos h]; rfl
      refine aw_srq [(0,true),(1,true),(2,true),(3,true),(4,true),(5,true),(6,true),(7,true),(8,true),(9,true),(10,true),(11,true),(12,true),(13,true),(14,true),(15,true),(16,true),(17,true)] rfl rfl ?_  -- r41 @low.go:219
      rcases atI_cases c.funs xb with ⟨hn, hw, hb0, hb1, ha⟩ | ⟨hw, ha⟩
      · rw [ha] at hI
        simp only at hI
        simp only [go_sem, reduceIte, Nat.reduceEqDiff, Nat.reduceAdd, Nat.reduceMul, Nat.reduceSub, Nat.reduceLeDiff, Nat.reduceLT, reduceCtorEq, h4, h6]
        refine goQ_by (q_in _ _) ?_
        simp only [go_sem, reduceIte, Nat.reduceEqDiff, Nat.reduceAdd, Nat.reduceMul, Nat.reduceSub, Nat.reduceLeDiff, Nat.reduceLT, reduceCtorEq, h4, h6, hw, getD_map hn, eFun]
        refine ⟨fun _ => ⟨hb0, hb1, hwf⟩, ?_⟩
        refine aw_ret ⟨trivial, _, rfl, ?_, hsC⟩
        rw [hI, eq_sw (args.length : Int)]
        exact Vle.refl _
      · rw [ha] at hI
        simp only at hI
        simp only [go_sem, reduceIte, Nat.reduceEqDiff, Nat.reduceAdd, Nat.reduceMul, Nat.reduceSub, Nat.reduceLeDiff, Nat.reduceLT, reduceCtorEq, h4, h6]
        refine goQ_by (q_in _ _) ?_
        rcases getD_or eFun c.funs xb.toNat with hg | ⟨d, hg⟩
        all_goals
          simp only [go_sem, reduceIte, Nat.reduceEqDiff, Nat.reduceAdd, Nat.reduceMul, Nat.reduceSub, Nat.reduceLeDiff, Nat.reduceLT, reduceCtorEq, h4, h6, hw, hg, eFun]
          repeat first | refine ⟨fun e => e.elim, ?_⟩ | refine ⟨rfl, ?_⟩
          refine aw_ret ⟨trivial, _, rfl, ?_, hsC⟩
          rw [hI]
          exact Vle.refl _
    have h8 : ¬ op = 8 := by simpa using h
    refine aw_chain rfl rfl rfl rfl rfl ?_  -- t84 is one of [7]
    refine aw_if rfl (fun h => ?_) (fun h => ?_)
    · have h : op = 7 := by simpa using h
      refine aw_sr rfl ?_  -- r43 @low.go:221
      simp only [go_sem, reduceIte, Nat.reduceEqDiff, Nat.reduceAdd, Nat.reduceMul, Nat.reduceSub, Nat.reduceLeDiff, Nat.reduceLT, reduceCtorEq, h4, h6]
      refine goA_q (q_in _ _) ?_
      simp only [go_sem, reduceIte, Nat.reduceEqDiff, Nat.reduceAdd, Nat.reduceMul, Nat.reduceSub, Nat.reduceLeDiff, Nat.reduceLT, reduceCtorEq]
      refine aw_ret ⟨trivial, _, rfl, ?_, hsC⟩
      rw [hFI]
      unfold insB
      rw [if_neg h1, if_neg h5', if_neg h6', if_neg h8, if_pos h, show decide (0 < args.length) = decide ((0 : Int) < (args.length : Int)) by rw [Bool.eq_iff_iff]; simp only [decide_eq_true_eq]; omega]
      exact Vle.refl _
    have h7 : ¬ op = 7 := by simpa using h
    refine aw_chain rfl rfl rfl rfl rfl ?_  -- t84 is one of [10, 17]
    refine aw_if rfl (fun h => ?_) (fun h => ?_)
    · have h : op = 10 ∨ op = 17 := by simpa using h
      refine aw_sr rfl ?_  -- r46 @low.go:223
      simp only [go_sem, reduceIte, Nat.reduceEqDiff, Nat.reduceAdd, Nat.reduceMul, Nat.reduceSub, Nat.reduceLeDiff, Nat.reduceLT, reduceCtorEq, h4, h6]
      refine goA_q (q_in _ _) ?_
      simp only [go_sem, reduceIte, Nat.reduceEqDiff, Nat.reduceAdd, Nat.reduceMul, Nat.reduceSub, Nat.reduceLeDiff, Nat.reduceLT, reduceCtorEq]
      refine aw_ret ⟨trivial, _, rfl, ?_, hsC⟩
      rw [hFI]
      unfold insB
      rw [if_neg h1, if_neg h5', if_neg h6', if_neg h8, if_neg h7, if_pos h]
      exact Vle.refl _
    have h10 : ¬ (op = 10 ∨ op = 17) := by simpa using h
    refine aw_chain rfl rfl rfl rfl rfl ?_  -- t84 is one of [27]
    refine aw_if rfl (fun h => ?_) (fun h => ?_)
    · have h : op = 27 := by simpa using h
      refine aw_sr rfl ?_  -- r48 @low.go:225
      simp only [go_sem, reduceIte, Nat.reduceEqDiff, Nat.reduceAdd, Nat.reduceMul, Nat.reduceSub, Nat.reduceLeDiff, Nat.reduceLT, reduceCtorEq, h4, h6]
      refine goA_q (q_in _ _) ?_
      simp only [go_sem, reduceIte, Nat.reduceEqDiff, Nat.reduceAdd, Nat.reduceMul, Nat.reduceSub, Nat.reduceLeDiff, Nat.reduceLT, reduceCtorEq]
      refine aw_ret ⟨trivial, _, rfl, ?_, hsC⟩
      rw [hFI]
      unfold insB
      rw [if_neg h1, if_neg h5', if_neg h6', if_neg h8, if_neg h7, if_neg h10, if_pos h]
      exact Vle.refl _
    have h27 : ¬ op = 27 := by simpa using h
    refine aw_chain rfl rfl rfl rfl rfl ?_  -- t84 is one of [12]
    refine aw_if rfl (fun h => ?_) (fun h => ?_)
    · have h : op = 12 := by simpa using h
      have hI : FI = (match atI c.acts xb with | none => false | some a => decide ((args.length : Int) = a.2.1)) := by rw [hFI]; unfold insB; rw [if_neg h1, if_neg h5', if_neg h6', if_neg h8, if_neg h7, if_neg h10, if_neg h27, if_pos h]; rfl
      refine aw_srq [(0,true),(1,true),(2,true),(3,true),(4,true),(5,true),(6,true),(7,true),(8,true),(9,true),(10,true),(11,true),(12,true),(13,true),(14,true),(15,true),(16,true),(17,true)] rfl rfl ?_  -- r50 @low.go:227
      rcases atI_cases c.acts xb with ⟨hn, hw, hb0, hb1, ha⟩ | ⟨hw, ha⟩
      · rw [ha] at hI
        simp only at hI
        simp only [go_sem, reduceIte, Nat.reduceEqDiff, Nat.reduceAdd, Nat.reduceMul, Nat.reduceSub, Nat.reduceLeDiff, Nat.reduceLT, reduceCtorEq, h4, h6]
        refine goQ_by (q_in _ _) ?_
        simp only [go_sem, reduceIte, Nat.reduceEqDiff, Nat.reduceAdd, Nat.reduceMul, Nat.reduceSub, Nat.reduceLeDiff, Nat.reduceLT, reduceCtorEq, h4, h6, hw, getD_map hn, eActD]
        refine ⟨fun _ => ⟨hb0, hb1, hwa⟩, ?_⟩
        refine aw_ret ⟨trivial, _, rfl, ?_, hsC⟩
        rw [hI, eq_sw (args.length : Int)]
        exact Vle.refl _
      · rw [ha] at hI
        simp only at hI
        simp only [go_sem, reduceIte, Nat.reduceEqDiff, Nat.reduceAdd, Nat.reduceMul, Nat.reduceSub, Nat.reduceLeDiff, Nat.reduceLT, reduceCtorEq, h4, h6]
        refine goQ_by (q_in _ _) ?_
        rcases getD_or eActD c.acts xb.toNat with hg | ⟨d, hg⟩
        all_goals
          simp only [go_sem, reduceIte, Nat.reduceEqDiff, Nat.reduceAdd, Nat.reduceMul, Nat.reduceSub, Nat.reduceLeDiff, Nat.reduceLT, reduceCtorEq, h4, h6, hw, hg, eActD]
          repeat first | refine ⟨fun e => e.elim, ?_⟩ | refine ⟨rfl, ?_⟩
          refine aw_ret ⟨trivial, _, rfl, ?_, hsC⟩
          rw [hI]
          exact Vle.refl _
    have h12 : ¬ op = 12 := by simpa using h
    refine aw_chain rfl rfl rfl rfl rfl ?_  -- t84 is one of [11, 16]
    refine aw_if rfl (fun h => ?_) (fun h => ?_)
    · have h : op = 11 ∨ op = 16 := by simpa using h
      have hI : FI = (match atI c.pats xb with | none => false | some ps => armsB ps.1 op xc args) := by rw [hFI]; unfold insB; rw [if_neg h1, if_neg h5', if_neg h6', if_neg h8, if_neg h7, if_neg h10, if_neg h27, if_neg h12, if_pos h]; rfl
      refine aw_sr rfl ?_  -- r53 @low.go:229
      simp only [go_sem, reduceIte, Nat.reduceEqDiff, Nat.reduceAdd, Nat.reduceMul, Nat.reduceSub, Nat.reduceLeDiff, Nat.reduceLT, reduceCtorEq, h6]
      refine aw_mid (fun f' G' => ∃ l nl' tg, l.length ≤ 1048576 ∧ lateF op xc args = some l ∧ FSub [(17, .sl (l.map eI) nl' tg), (4, .ptr b4 0), (6, .ptr b6 0)] f' ∧ G' = B4) ?_ ?_
      · -- 2 ways
        refine aw_sr rfl ?_  -- r54 @low.go:230
        simp only [go_sem, reduceIte, Nat.reduceEqDiff, Nat.reduceAdd, Nat.reduceMul, Nat.reduceSub, Nat.reduceLeDiff, Nat.reduceLT, reduceCtorEq, h6]
        refine aw_if rfl (fun h => ?_) (fun h => ?_)
        · have h16 : op = 16 := by simpa using h
          have hnone : lateF op xc args = none → FI = false := by
            intro e
            rw [hI]
            cases atI c.pats xb with
            | none => rfl
            | some ps => simp only [armsB, e]
          refine aw_seq fun K31 hK31 => ?_
          refine aw_srd [(0,true),(1,true),(2,true),(3,true),(4,true),(5,true),(6,true),(7,true),(8,true),(9,true),(10,true),(11,true),(12,true),(13,true),(14,true),(15,true),(16,true),(17,true),(18,true),(19,true),(20,true),(21,true),(22,true)] mixed rfl (by kernel_rfl) ?_
          cases args with
          | nil =>
            have hz : decide (((0 : Nat) : Int) = 0) = true := rfl
            simp only [go_sem, reduceIte, Nat.reduceEqDiff, Nat.reduceAdd, Nat.reduceMul, Nat.reduceSub, Nat.reduceLeDiff, Nat.reduceLT, reduceCtorEq, h6, hz]
            repeat first | refine ⟨fun e => absurd e (by simp), ?_⟩ | refine ⟨by simp, ?_⟩
            refine aw_if (b := true) rfl (fun h => ?_) (fun h => by cases h)
            refine aw_sr rfl ?_
            simp only [go_sem, reduceIte, Nat.reduceEqDiff, Nat.reduceAdd, Nat.reduceMul, Nat.reduceSub, Nat.reduceLeDiff, Nat.reduceLT, reduceCtorEq]
            refine aw_ret ⟨trivial, _, rfl, ?_, hsC⟩
            rw [hnone (by unfold lateF; rw [if_pos h16])]
            exact Vle.refl _
          | cons x l =>
            have hgx : ((x :: l).map eI).getD (Int.toNat 0) [] = [.int .i64 x] := rfl
            simp only [List.length_cons] at hal
            simp only [go_sem, reduceIte, Nat.reduceEqDiff, Nat.reduceAdd, Nat.reduceMul, Nat.reduceSub, Nat.reduceLeDiff, Nat.reduceLT, reduceCtorEq, h6, hgx, List.length_cons]
            refine ⟨fun _ => ⟨by omega, by omega, wid_eI (x :: l)⟩, fun _ => ⟨by omega, by omega, wid_eI (x :: l)⟩, ?_⟩
            have hiff : lateF op xc (x :: l) = if xc < -1 ∨ ¬ (0 ≤ x ↔ 0 ≤ xc) ∨ x < -1 then none else some l := by unfold lateF; rw [if_pos h16]
            refine aw_if rfl (fun h => ?_) (fun h => ?_)
            · refine aw_sr rfl ?_
              simp only [go_sem, reduceIte, Nat.reduceEqDiff, Nat.reduceAdd, Nat.reduceMul, Nat.reduceSub, Nat.reduceLeDiff, Nat.reduceLT, reduceCtorEq]
              refine aw_ret ⟨trivial, _, rfl, ?_, hsC⟩
              rw [hnone ?_]
              · exact Vle.refl _
              rw [hiff, if_pos]
              simp only [Bool.or_eq_true, decide_eq_true_eq] at h
              rcases h with ((h | h) | h) | h
              · omega
              · exact .inl h
              · exact .inr (.inr h)
              · by_cases hx : x < -1
                · exact .inr (.inr hx)
                by_cases hc1 : xc < -1
                · exact .inl hc1
                refine .inr (.inl fun e => ?_)
                have : decide (x = -1) = decide (xc = -1) := by
                  rw [Bool.eq_iff_iff]; simp only [decide_eq_true_eq]; omega
                rw [this] at h
                cases hd : decide (xc = -1) <;> rw [hd] at h <;> cases h
            refine aw_skip (hK31 _ _ ?_)
            refine aw_rg rfl ?_  -- r57 @low.go:234
            simp only [go_sem, reduceIte, Nat.reduceEqDiff, Nat.reduceAdd, Nat.reduceMul, Nat.reduceSub, Nat.reduceLeDiff, Nat.reduceLT, reduceCtorEq, List.map_cons, toNat1, take_map_len]
            refine ⟨⟨⟨by omega, by omega⟩, wid_eI (x :: l)⟩, ⟨l, _, _, by omega, ?_, ⟨rfl, rfl, rfl⟩, rfl⟩⟩
            simp only [Bool.or_eq_false_iff, decide_eq_false_iff_not] at h
            obtain ⟨⟨⟨g1, g2⟩, g3⟩, g4⟩ := h
            rw [hiff, if_neg]
            rintro (e | e | e)
            · exact g2 e
            · refine e ?_
              cases h1 : decide (x = -1) <;> cases h2 : decide (xc = -1) <;> rw [h1, h2] at g4 <;> simp at g4 h1 h2 ⊢ <;> omega
            · exact g3 e
        · have h16 : ¬ op = 16 := by simpa using h
          refine aw_skip ⟨args, nl, .no, hal, by unfold lateF; rw [if_neg h16], ⟨rfl, rfl, rfl⟩, rfl⟩
      intro f' G' ⟨l, nl', tg, hll, hlate, hf, hg⟩
      rw [hg]
      refine AW.of_fsub hf ?_
      refine aw_sr rfl ?_  -- r58 @low.go:236
      simp only [go_sem, reduceIte, Nat.reduceEqDiff, Nat.reduceAdd, Nat.reduceMul, Nat.reduceSub, Nat.reduceLeDiff, Nat.reduceLT, reduceCtorEq]
      refine goA_q (q_Split l nl' tg hll) ?_
      cases hgf : gatF l with
      | none =>
        have hFf : FI = false := by
          rw [hI]
          cases atI c.pats xb with
          | none => rfl
          | some ps => simp only [armsB, hlate, hgf]
        simp only [go_sem, reduceIte, Nat.reduceEqDiff, Nat.reduceAdd, Nat.reduceMul, Nat.reduceSub, Nat.reduceLeDiff, Nat.reduceLT, reduceCtorEq, gatV]
        refine aw_seq fun K32 hK32 => ?_
        refine aw_srq [(0,true),(1,true),(2,true),(3,true),(4,true),(5,true),(6,true),(7,true),(8,true),(9,true),(10,true),(11,true),(12,true),(13,true),(14,true),(15,true),(16,true),(17,true),(18,true),(19,true),(20,true),(21,true),(22,true)] rfl rfl ?_  -- r59 @low.go:237
        rcases getD_or ePatL c.pats xb.toNat with hg | ⟨d, hg⟩
        all_goals
          simp only [go_sem, reduceIte, Nat.reduceEqDiff, Nat.reduceAdd, Nat.reduceMul, Nat.reduceSub, Nat.reduceLeDiff, Nat.reduceLT, reduceCtorEq, h4, h6, hg, ePatL]
          refine goQg_by (x := .bool true) (fun e => by cases e) ?_
          simp only [go_sem, reduceIte, Nat.reduceEqDiff, Nat.reduceAdd, Nat.reduceMul, Nat.reduceSub, Nat.reduceLeDiff, Nat.reduceLT, reduceCtorEq, h4, h6, hg, ePatL]
          repeat first | refine ⟨fun e => absurd e (by simp), ?_⟩ | refine ⟨by simp, ?_⟩
          refine aw_if (b := true) rfl (fun h => ?_) (fun h => by cases h)
          refine aw_sr rfl ?_
          simp only [go_sem, reduceIte, Nat.reduceEqDiff, Nat.reduceAdd, Nat.reduceMul, Nat.reduceSub, Nat.reduceLeDiff, Nat.reduceLT, reduceCtorEq]
          refine aw_ret ⟨trivial, _, rfl, ?_, hsC⟩
          rw [hFf]
          exact Vle.refl _
      | some as_ =>
        have hal2 := gatF_len l
        rw [hgf] at hal2
        have hal2 : as_.length ≤ 1048576 := Nat.le_trans hal2 hll
        simp only [go_sem, reduceIte, Nat.reduceEqDiff, Nat.reduceAdd, Nat.reduceMul, Nat.reduceSub, Nat.reduceLeDiff, Nat.reduceLT, reduceCtorEq, gatV]
        refine aw_seq fun K32 hK32 => ?_
        refine aw_srq [(0,true),(1,true),(2,true),(3,true),(4,true),(5,true),(6,true),(7,true),(8,true),(9,true),(10,true),(11,true),(12,true),(13,true),(14,true),(15,true),(16,true),(17,true),(18,true),(19,true),(20,true),(21,true),(22,true)] rfl rfl ?_  -- r59 @low.go:237
        rcases atI_cases c.pats xb with ⟨hn, hw, hb0, hb1, ha⟩ | ⟨hw, ha⟩
        · have hps := hc.2.2.2.2.2.2.2.2 _ (List.getElem_mem hn)
          have hgp : (c.pats.map ePatL).getD xb.toNat [] = ePatL c.pats[xb.toNat] := getD_map hn
          generalize c.pats[xb.toNat] = pl at hps ha hgp
          have hA : FI = fitB as_ pl.1 := by
            rw [hI, ha]
            simp only [armsB, hlate, hgf]
          simp only [go_sem, reduceIte, Nat.reduceEqDiff, Nat.reduceAdd, Nat.reduceMul, Nat.reduceSub, Nat.reduceLeDiff, Nat.reduceLT, reduceCtorEq, h4, h6, hgp, ePatL]
          refine goQg_by (fun _ => q_in _ _) ?_
          simp only [go_sem, reduceIte, Nat.reduceEqDiff, Nat.reduceAdd, Nat.reduceMul, Nat.reduceSub, Nat.reduceLeDiff, Nat.reduceLT, reduceCtorEq, h4, h6, hgp, ePatL, hw]
          refine ⟨fun _ => ⟨hb0, hb1, hwp⟩, ?_⟩
          refine aw_if rfl (fun h => ?_) (fun h => ?_)
          · refine aw_sr rfl ?_
            simp only [go_sem, reduceIte, Nat.reduceEqDiff, Nat.reduceAdd, Nat.reduceMul, Nat.reduceSub, Nat.reduceLeDiff, Nat.reduceLT, reduceCtorEq]
            refine aw_ret ⟨trivial, _, rfl, ?_, hsC⟩
            have h : ¬ as_.length = pl.1.length := by
              have : ¬ (as_.length : Int) = (pl.1.length : Int) := by simpa using h
              omega
            rw [hA, fitB, decide_eq_false h]
            exact Vle.refl _
          have hlen : as_.length = pl.1.length := by
            have : ¬ ((as_.length : Int) ≠ (pl.1.length : Int)) := by simpa using h
            omega
          refine aw_skip (hK32 _ _ ?_)
          refine aw_sr rfl ?_  -- r61
          simp only [go_sem, reduceIte, Nat.reduceEqDiff, Nat.reduceAdd, Nat.reduceMul, Nat.reduceSub, Nat.reduceLeDiff, Nat.reduceLT, reduceCtorEq]
          refine aw_range as_.length (S := Unit) (fun i _ => [(4, .ptr b4 0), (6, .ptr b6 0), (287, .sl (as_.map eAr) as_.isEmpty .no)]) (fun _ _ => B4) (fun i _ => ((as_.take i).zip (pl.1.take i)).all (fun p => decide (p.1.2.length = bindsF p.2)) = true) () (by omega) ?_ (fun _ _ h => h) rfl rfl (fun _ _ => rfl) ?_ ?_ (by decide)
          · simp only [go_sem, reduceIte, Nat.reduceEqDiff, Nat.reduceAdd, Nat.reduceMul, Nat.reduceSub, Nat.reduceLeDiff, Nat.reduceLT, reduceCtorEq, Int.natCast_zero]
          · intro i _ hi he
            have hi2 : i < pl.1.length := hlen ▸ hi
            have hpi := hps.2 _ (List.getElem_mem hi2)
            refine aw_sr rfl ?_  -- r63
            simp only [go_sem, reduceIte, Nat.reduceEqDiff, Nat.reduceAdd, Nat.reduceMul, Nat.reduceSub, Nat.reduceLeDiff, Nat.reduceLT, reduceCtorEq, getD_map hi, eAr]
            refine ⟨⟨by omega, by omega, wid_eAr _⟩, ?_⟩
            intro b21 hb21
            refine aw_box1 hb21 fun B5 hs5 h21 => ?_
            have h45 := hs5 _ _ h4
            have h65 := hs5 _ _ h6
            refine aw_srd [(0,true),(1,true),(2,true),(3,true),(4,true),(5,true),(6,true),(7,true),(8,true),(9,true),(10,true),(11,true),(12,true),(13,true)] mixed rfl (by kernel_rfl) ?_  -- r64
            simp only [go_sem, reduceIte, Nat.reduceEqDiff, Nat.reduceAdd, Nat.reduceMul, Nat.reduceSub, Nat.reduceLeDiff, Nat.reduceLT, reduceCtorEq, h45, h65, h21, hgp, ePatL, getD_map hi2, ePat_eq, Int.toNat_natCast]
            refine ⟨⟨hb0, hb1, hwp⟩, ⟨by omega, by omega, wid_ePat _⟩, ?_⟩
            refine goQ_by (q_rBinds pl.1[i] hpi.2 hpi.1) ?_
            simp only [go_sem, reduceIte, Nat.reduceEqDiff, Nat.reduceAdd, Nat.reduceMul, Nat.reduceSub, Nat.reduceLeDiff, Nat.reduceLT, reduceCtorEq]
            refine aw_if rfl (fun h => ?_) (fun h => ?_)
            · refine aw_sr rfl ?_
              simp only [go_sem, reduceIte, Nat.reduceEqDiff, Nat.reduceAdd, Nat.reduceMul, Nat.reduceSub, Nat.reduceLeDiff, Nat.reduceLT, reduceCtorEq]
              refine aw_ret ⟨trivial, _, rfl, ?_, sub_trans hsC hs5⟩
              have h : ¬ as_[i].2.length = bindsF pl.1[i] := by
                have : ¬ (as_[i].2.length : Int) = (bindsF pl.1[i] : Int) := by simpa using h
                omega
              rw [hA, fitB, all_zip_not (q := fun p : Ar × Pat => decide (p.1.2.length = bindsF p.2)) hi hi2 (decide_eq_false h), Bool.and_false]
              exact Vle.refl _
            have h : as_[i].2.length = bindsF pl.1[i] := by
              have : ¬ ((as_[i].2.length : Int) ≠ (bindsF pl.1[i] : Int)) := by simpa using h
              omega
            refine aw_skip ⟨(), all_zip_next (q := fun p : Ar × Pat => decide (p.1.2.length = bindsF p.2)) he hi hi2 (decide_eq_true h), ?_, hs5⟩
            simp only [go_sem, reduceIte, Nat.reduceEqDiff, Nat.reduceAdd, Nat.reduceMul, Nat.reduceSub, Nat.reduceLeDiff, Nat.reduceLT, reduceCtorEq]
          intro _ he
          refine ⟨?_, hsC⟩
          rw [List.take_length, hlen, List.take_length] at he
          rw [hA, fitB, decide_eq_true hlen, he]; rfl
        · have hFf : FI = false := by rw [hI, ha]
          rcases getD_or ePatL c.pats xb.toNat with hg | ⟨d, hg⟩
          all_goals
            simp only [go_sem, reduceIte, Nat.reduceEqDiff, Nat.reduceAdd, Nat.reduceMul, Nat.reduceSub, Nat.reduceLeDiff, Nat.reduceLT, reduceCtorEq, h4, h6, hg, ePatL]
            refine goQg_by (fun _ => q_in _ _) ?_
            simp only [go_sem, reduceIte, Nat.reduceEqDiff, Nat.reduceAdd, Nat.reduceMul, Nat.reduceSub, Nat.reduceLeDiff, Nat.reduceLT, reduceCtorEq, h4, h6, hg, ePatL, hw]
            repeat first | refine ⟨fun e => absurd e (by simp), ?_⟩ | refine ⟨by simp, ?_⟩
            refine aw_if (b := true) rfl (fun h => ?_) (fun h => by cases h)
            refine aw_sr rfl ?_
            simp only [go_sem, reduceIte, Nat.reduceEqDiff, Nat.reduceAdd, Nat.reduceMul, Nat.reduceSub, Nat.reduceLeDiff, Nat.reduceLT, reduceCtorEq]
            refine aw_ret ⟨trivial, _, rfl, ?_, hsC⟩
            rw [hFf]
            exact Vle.refl _
    · have h11 : ¬ (op = 11 ∨ op = 16) := by simpa using h
      refine aw_skip ⟨?_, hsC⟩
      rw [hFI]
      unfold insB
      rw [if_neg h1, if_neg h5', if_neg h6', if_neg h8, if_neg h7, if_neg h10, if_neg h27, if_neg h12, if_neg h11]
  intro f' G' ⟨hf, hg⟩
  refine AW.of_fsub (g := []) trivial ?_
  refine aw_sr rfl ?_  -- r67 @low.go:246
  simp only [go_sem, reduceIte, Nat.reduceEqDiff, Nat.reduceAdd, Nat.reduceMul, Nat.reduceSub, Nat.reduceLeDiff, Nat.reduceLT, reduceCtorEq]
  refine aw_ret ⟨trivial, _, rfl, ?_, hg⟩
  rw [hf]
  exact Vle.refl _
end Go.Proofs.Ytkhgcikaojhknaa

/- What is wrong with a code, the reference's; the law. No conditions but sizes. -/
set_option linter.unusedSimpArgs false
set_option linter.unusedVariables false
namespace Go.Proofs.Ytkhgcikaojhknaa
open Go.Proofs.YtkhgcikaojhknaaV
set_option maxHeartbeats 400000
set_option maxRecDepth 100000
theorem q_Fault (c : CodeD) (hc : OkCode c) : Quiet Try.prog 73 [.agg (cCode c)] (.int .i64 (codeF c)) := by
  have hlf : c.2.2.1.1.length ≤ 1048576 := hc.2.2.1
  have hla : c.2.2.2.1.1.length ≤ 1048576 := hc.2.2.2.1
  have hli : c.2.2.2.2.1.1.length ≤ 1048576 := hc.2.2.2.2.1
  have hlm : c.2.2.2.2.2.1.1.length ≤ 1048576 := hc.2.2.2.2.2.1
  have hwf : wid 5 (c.2.2.1.1.map eFun) := wid_map (g := eFun) (fun _ => rfl) _
  have hwa : wid 4 (c.2.2.2.1.1.map eActD) := wid_map (g := eActD) (fun _ => rfl) _
  have hwi : wid 3 (c.2.2.2.2.1.1.map eImpD) := wid_map (g := eImpD) (fun _ => rfl) _
  have hwm : wid 3 (c.2.2.2.2.2.1.1.map eImpD) := wid_map (g := eImpD) (fun _ => rfl) _
  refine Quiet.weak fun G => ?_
  refine acall_body (rs := [.tmp 2]) Try.func73 rfl rfl Try.ntmps73 (by kernel_rfl) (Nat.le_of_ble_eq_true rfl) ?_
  refine aw_sr rfl ?_  -- r0 @low.go:140
  simp only [go_sem, reduceIte, Nat.reduceEqDiff, Nat.reduceAdd, Nat.reduceMul, Nat.reduceSub, Nat.reduceLeDiff, Nat.reduceLT, reduceCtorEq]
  intro b1 hb1
  refine aw_box1 hb1 fun B1 hs1 h1 => ?_
  have hsB := hs1
  refine aw_seq fun K18 hK18 => ?_
  refine aw_sr rfl ?_  -- r1 @low.go:141
  simp only [go_sem, reduceIte, Nat.reduceEqDiff, Nat.reduceAdd, Nat.reduceMul, Nat.reduceSub, Nat.reduceLeDiff, Nat.reduceLT, reduceCtorEq, h1]
  refine aw_if rfl (fun h => ?_) (fun h => ?_)
  · refine aw_sr rfl ?_  -- r2 @low.go:142
    simp only [go_sem, reduceIte, Nat.reduceEqDiff, Nat.reduceAdd, Nat.reduceMul, Nat.reduceSub, Nat.reduceLeDiff, Nat.reduceLT, reduceCtorEq]
    refine aw_ret ⟨trivial, _, rfl, ?_, hsB⟩
    simp only [Bool.or_eq_true, decide_eq_true_eq] at h
    rw [codeF, if_pos (by omega)]
    exact Vle.refl _
  simp only [Bool.or_eq_false_iff, decide_eq_false_iff_not] at h
  have hF1 : ¬ (1000 < (c.2.2.1.1.length : Int) ∨ 4000 < (c.1.1.length : Int) ∨ 4000 < (c.2.1.1.length : Int) ∨ 2000 < (c.2.2.2.2.2.2.1.length : Int)) := by omega
  refine aw_skip (hK18 _ _ ?_)
  refine aw_seq fun K19 hK19 => ?_
  refine aw_sr rfl ?_  -- r3 @low.go:144
  simp only [go_sem, reduceIte, Nat.reduceEqDiff, Nat.reduceAdd, Nat.reduceMul, Nat.reduceSub, Nat.reduceLeDiff, Nat.reduceLT, reduceCtorEq, h1]
  refine aw_range c.2.2.2.1.1.length (S := Unit) (fun i _ => [(1, .ptr b1 0), (37, .sl (c.2.2.2.1.1.map eActD) c.2.2.2.1.2 .no)]) (fun _ _ => B1) (fun i _ => (c.2.2.2.1.1.take i).all (actB c) = true) () (by omega) ?_ (fun _ _ h => h) rfl rfl (fun _ _ => rfl) ?_ ?_ (by decide)
  · simp only [go_sem, reduceIte, Nat.reduceEqDiff, Nat.reduceAdd, Nat.reduceMul, Nat.reduceSub, Nat.reduceLeDiff, Nat.reduceLT, reduceCtorEq, Int.natCast_zero]
  · intro i _ hi he
    have hbad : actB c c.2.2.2.1.1[i] = false → Vle (oneOf [V.int .i64 3]) (.int .i64 (codeF c)) := by
      intro h
      rw [codeF, if_neg hF1, if_pos (allT_not hi h)]
      exact Vle.refl _
    have hnext := allT_next (q := actB c) he hi
    refine aw_sr rfl ?_  -- r5 @low.go:144
    simp only [go_sem, reduceIte, Nat.reduceEqDiff, Nat.reduceAdd, Nat.reduceMul, Nat.reduceSub, Nat.reduceLeDiff, Nat.reduceLT, reduceCtorEq, getD_map hi, eActD]
    refine ⟨⟨by omega, by omega, hwa⟩, ?_⟩
    generalize c.2.2.2.1.1[i] = a at hbad hnext ⊢
    intro b4 hb4
    refine aw_box1 hb4 fun B2 hs2 h4 => ?_
    have h14 := hs2 _ _ h1
    have hsC := sub_trans hsB hs2
    refine aw_seq fun K20 hK20 => ?_
    refine aw_sr rfl ?_  -- r6 @low.go:145
    simp only [go_sem, reduceIte, Nat.reduceEqDiff, Nat.reduceAdd, Nat.reduceMul, Nat.reduceSub, Nat.reduceLeDiff, Nat.reduceLT, reduceCtorEq, h14, h4]
    refine goA_q (q_in _ _) ?_
    simp only [go_sem, reduceIte, Nat.reduceEqDiff, Nat.reduceAdd, Nat.reduceMul, Nat.reduceSub, Nat.reduceLeDiff, Nat.reduceLT, reduceCtorEq, h14, h4]
    refine aw_if rfl (fun h => ?_) (fun h => ?_)
    · refine aw_sr rfl ?_  -- r7 @low.go:146
      simp only [go_sem, reduceIte, Nat.reduceEqDiff, Nat.reduceAdd, Nat.reduceMul, Nat.reduceSub, Nat.reduceLeDiff, Nat.reduceLT, reduceCtorEq]
      refine aw_ret ⟨trivial, _, rfl, hbad ?_, hsC⟩
      unfold actB
      rcases atI_cases c.funs a.2.2.1 with ⟨hn, hw, hb0, hb1', ha⟩ | ⟨hw, ha⟩
      · rw [hw] at h
        simp only [Bool.not_true, Bool.false_or, decide_eq_true_eq] at h
        rw [ha]
        simp only
        rw [decide_eq_false (by omega), Bool.false_and]
      · rw [ha]
    rcases atI_cases c.funs a.2.2.1 with ⟨hn, hw, hb0, hb1', ha⟩ | ⟨hw, ha⟩
    · rw [hw] at h
      simp only [Bool.not_true, Bool.false_or, decide_eq_false_iff_not] at h
      have hA : actB c a = (decide (c.funs[a.2.2.1.toNat].2.1 = a.2.1) && (decide (c.funs[a.2.2.1.toNat].2.2.1 = 0) && (!a.2.2.2 || topB c.funs[a.2.2.1.toNat].2.2.2.2.1))) := by
        unfold actB; rw [ha]; simp only; rw [decide_eq_true (show 0 ≤ a.2.1 by omega), Bool.true_and]
      have hgf : (c.2.2.1.1.map eFun).getD a.2.2.1.toNat [] = eFun c.funs[a.2.2.1.toNat] := getD_map hn
      have hokf := hc.2.2.2.2.2.2.2.1 _ (List.getElem_mem hn)
      generalize c.funs[a.2.2.1.toNat] = f at hA hgf hokf
      refine aw_skip (hK20 _ _ ?_)
      refine aw_sr rfl ?_  -- r8 @low.go:148
      simp only [go_sem, reduceIte, Nat.reduceEqDiff, Nat.reduceAdd, Nat.reduceMul, Nat.reduceSub, Nat.reduceLeDiff, Nat.reduceLT, reduceCtorEq, h14, h4, hgf, eFun]
      refine ⟨⟨hb0, hb1', hwf⟩, ?_⟩
      intro b5 hb5
      refine aw_box1 hb5 fun B3 hs3 h5 => ?_
      have h45 := hs3 _ _ h4
      have hsD := sub_trans hsC hs3
      refine aw_srq [(0,true),(1,true),(2,true),(3,true),(4,true),(5,true),(6,true),(7,true),(8,true),(9,true),(10,true),(11,true),(12,true),(13,true),(14,true),(15,true),(16,true),(17,true),(18,true),(19,true),(20,true),(21,true),(22,true),(23,true),(24,true),(25,true),(26,true),(27,true)] rfl rfl ?_  -- r9 @low.go:149
      obtain ⟨fn, fp, fh, fr, fi, fl⟩ := f
      obtain ⟨hfl, _⟩ := hokf
      simp only at hfl hA h5
      cases fi with
      | nil =>
        have hz : decide (((0 : Nat) : Int) < 1) = true := rfl
        simp only [go_sem, reduceIte, Nat.reduceEqDiff, Nat.reduceAdd, Nat.reduceMul, Nat.reduceSub, Nat.reduceLeDiff, Nat.reduceLT, reduceCtorEq, h45, h5, hz]
        repeat first | refine ⟨fun e => absurd e (by simp), ?_⟩ | refine ⟨by simp, ?_⟩
        refine aw_if rfl (fun h => ?_) (fun h => ?_)
        · refine aw_sr rfl ?_
          simp only [go_sem, reduceIte, Nat.reduceEqDiff, Nat.reduceAdd, Nat.reduceMul, Nat.reduceSub, Nat.reduceLeDiff, Nat.reduceLT, reduceCtorEq]
          refine aw_ret ⟨trivial, _, rfl, hbad ?_, hsD⟩
          simp only [Bool.or_eq_true, decide_eq_true_eq] at h
          rw [hA]
          rcases h with (h | h) | h
          · rw [decide_eq_false h, Bool.false_and]
          · rw [decide_eq_false h, Bool.false_and, Bool.and_false]
          · rw [h]; simp [topB]
        simp only [Bool.or_eq_false_iff, decide_eq_false_iff_not, Decidable.not_not] at h
        refine aw_skip ⟨(), hnext (by rw [hA, decide_eq_true h.1.1, decide_eq_true h.1.2, h.2]; rfl), ?_, sub_trans hs2 hs3⟩
        simp only [go_sem, reduceIte, Nat.reduceEqDiff, Nat.reduceAdd, Nat.reduceMul, Nat.reduceSub, Nat.reduceLeDiff, Nat.reduceLT, reduceCtorEq]
      | cons x l =>
        have hgx : ((x :: l).map eIns).getD (Int.toNat 0) [] = eIns x := rfl
        simp only [List.length_cons] at hfl
        simp only [go_sem, reduceIte, Nat.reduceEqDiff, Nat.reduceAdd, Nat.reduceMul, Nat.reduceSub, Nat.reduceLeDiff, Nat.reduceLT, reduceCtorEq, h45, h5, hgx, eIns, List.length_cons]
        refine ⟨fun _ => ⟨by omega, by omega, wid_eIns (x :: l)⟩, ?_⟩
        refine aw_if rfl (fun h => ?_) (fun h => ?_)
        · refine aw_sr rfl ?_
          simp only [go_sem, reduceIte, Nat.reduceEqDiff, Nat.reduceAdd, Nat.reduceMul, Nat.reduceSub, Nat.reduceLeDiff, Nat.reduceLT, reduceCtorEq]
          refine aw_ret ⟨trivial, _, rfl, hbad ?_, hsD⟩
          simp only [Bool.and_eq_true, Bool.or_eq_true, decide_eq_true_eq] at h
          rw [hA]
          rcases h with (h | h) | h
          · rw [decide_eq_false h, Bool.false_and]
          · rw [decide_eq_false h, Bool.false_and, Bool.and_false]
          · rw [h.1]
            have : ¬ x.1 = 16 := by omega
            simp [topB, this]
        simp only [Bool.or_eq_false_iff, decide_eq_false_iff_not, Decidable.not_not] at h
        refine aw_skip ⟨(), hnext ?_, ?_, sub_trans hs2 hs3⟩
        · rw [hA, decide_eq_true h.1.1, decide_eq_true h.1.2]
          cases e : a.2.2.2 with
          | false => rfl
          | true =>
            have h := h.2
            rw [e] at h
            have h : x.1 = 16 := by
              simp only [Bool.true_and, Bool.or_eq_false_iff, decide_eq_false_iff_not] at h
              omega
            simp [topB, h]
        simp only [go_sem, reduceIte, Nat.reduceEqDiff, Nat.reduceAdd, Nat.reduceMul, Nat.reduceSub, Nat.reduceLeDiff, Nat.reduceLT, reduceCtorEq]
    · rw [hw] at h
      simp at h
  intro _ he
  rw [List.take_length] at he
  refine hK19 _ _ ?_
  have hF2 : ¬ c.2.2.2.1.1.all (actB c) = false := by rw [he]; decide
  refine aw_seq fun K21 hK21 => ?_
  refine aw_sr rfl ?_  -- r12
  simp only [go_sem, reduceIte, Nat.reduceEqDiff, Nat.reduceAdd, Nat.reduceMul, Nat.reduceSub, Nat.reduceLeDiff, Nat.reduceLT, reduceCtorEq, h1]
  refine aw_range c.2.2.2.2.1.1.length (S := Unit) (fun i _ => [(1, .ptr b1 0), (91, .sl (c.2.2.2.2.1.1.map eImpD) c.2.2.2.2.1.2 .no)]) (fun _ _ => B1) (fun i _ => (c.2.2.2.2.1.1.take i).all (impB c) = true) () (by omega) ?_ (fun _ _ h => h) rfl rfl (fun _ _ => rfl) ?_ ?_ (by decide)
  · simp only [go_sem, reduceIte, Nat.reduceEqDiff, Nat.reduceAdd, Nat.reduceMul, Nat.reduceSub, Nat.reduceLeDiff, Nat.reduceLT, reduceCtorEq, Int.natCast_zero]
  · intro i _ hi he
    have hbad : impB c c.2.2.2.2.1.1[i] = false → Vle (oneOf [V.int .i64 3]) (.int .i64 (codeF c)) := by
      intro h
      rw [codeF, if_neg hF1, if_neg hF2, if_pos (allT_not hi h)]
      exact Vle.refl _
    have hnext := allT_next (q := impB c) he hi
    refine aw_sr rfl ?_  -- r14
    simp only [go_sem, reduceIte, Nat.reduceEqDiff, Nat.reduceAdd, Nat.reduceMul, Nat.reduceSub, Nat.reduceLeDiff, Nat.reduceLT, reduceCtorEq, getD_map hi, eImpD]
    refine ⟨⟨by omega, by omega, hwi⟩, ?_⟩
    generalize c.2.2.2.2.1.1[i] = a at hbad hnext ⊢
    intro b7 hb7
    refine aw_box1 hb7 fun B2 hs2 h7 => ?_
    have h17 := hs2 _ _ h1
    refine aw_srq [(0,true),(1,true),(2,true),(3,true),(4,true),(5,true),(6,true),(7,true),(8,true),(9,true),(10,true),(11,true),(12,true),(13,true),(14,true),(15,true),(16,true)] rfl rfl ?_  -- r15
    rcases atI_cases c.funs a.2.2 with ⟨hn, hw, hb0, hb1', ha⟩ | ⟨hw, ha⟩
    · have hA : impB c a = decide (c.funs[a.2.2.toNat].2.2.1 = 0) := by unfold impB; rw [ha]
      have hgf : (c.2.2.1.1.map eFun).getD a.2.2.toNat [] = eFun c.funs[a.2.2.toNat] := getD_map hn
      generalize c.funs[a.2.2.toNat] = f at hA hgf
      simp only [go_sem, reduceIte, Nat.reduceEqDiff, Nat.reduceAdd, Nat.reduceMul, Nat.reduceSub, Nat.reduceLeDiff, Nat.reduceLT, reduceCtorEq, h17, h7]
      refine goQ_by (q_in _ _) ?_
      simp only [go_sem, reduceIte, Nat.reduceEqDiff, Nat.reduceAdd, Nat.reduceMul, Nat.reduceSub, Nat.reduceLeDiff, Nat.reduceLT, reduceCtorEq, h17, h7, hw, hgf, eFun]
      refine ⟨fun _ => ⟨hb0, hb1', hwf⟩, ?_⟩
      refine aw_if rfl (fun h => ?_) (fun h => ?_)
      · refine aw_sr rfl ?_  -- r16
        simp only [go_sem, reduceIte, Nat.reduceEqDiff, Nat.reduceAdd, Nat.reduceMul, Nat.reduceSub, Nat.reduceLeDiff, Nat.reduceLT, reduceCtorEq]
        refine aw_ret ⟨trivial, _, rfl, hbad ?_, sub_trans hsB hs2⟩
        simp only [decide_eq_true_eq] at h
        rw [hA, decide_eq_false h]
      simp only [decide_eq_false_iff_not, Decidable.not_not] at h
      refine aw_skip ⟨(), hnext ?_, ?_, hs2⟩
      · rw [hA, decide_eq_true h]
      simp only [go_sem, reduceIte, Nat.reduceEqDiff, Nat.reduceAdd, Nat.reduceMul, Nat.reduceSub, Nat.reduceLeDiff, Nat.reduceLT, reduceCtorEq]
    · have hA : impB c a = false := by unfold impB; rw [ha]
      rcases getD_or eFun c.2.2.1.1 a.2.2.toNat with hg | ⟨d, hg⟩
      all_goals
        simp only [go_sem, reduceIte, Nat.reduceEqDiff, Nat.reduceAdd, Nat.reduceMul, Nat.reduceSub, Nat.reduceLeDiff, Nat.reduceLT, reduceCtorEq, h17, h7, hg, eFun]
        refine goQ_by (q_in _ _) ?_
        simp only [go_sem, reduceIte, Nat.reduceEqDiff, Nat.reduceAdd, Nat.reduceMul, Nat.reduceSub, Nat.reduceLeDiff, Nat.reduceLT, reduceCtorEq, h17, h7, hw, hg, eFun]
        repeat first | refine ⟨fun e => absurd e (by simp), ?_⟩ | refine ⟨by simp, ?_⟩
        refine aw_if (b := true) rfl (fun h => ?_) (fun h => by cases h)
        refine aw_sr rfl ?_
        simp only [go_sem, reduceIte, Nat.reduceEqDiff, Nat.reduceAdd, Nat.reduceMul, Nat.reduceSub, Nat.reduceLeDiff, Nat.reduceLT, reduceCtorEq]
        exact aw_ret ⟨trivial, _, rfl, hbad hA, sub_trans hsB hs2⟩
  intro _ he
  rw [List.take_length] at he
  refine hK21 _ _ ?_
  have hF3 : ¬ c.2.2.2.2.1.1.all (impB c) = false := by rw [he]; decide
  refine aw_seq fun K22 hK22 => ?_
  refine aw_sr rfl ?_  -- r18
  simp only [go_sem, reduceIte, Nat.reduceEqDiff, Nat.reduceAdd, Nat.reduceMul, Nat.reduceSub, Nat.reduceLeDiff, Nat.reduceLT, reduceCtorEq, h1]
  refine aw_range c.2.2.2.2.2.1.1.length (S := Unit) (fun i _ => [(1, .ptr b1 0), (116, .sl (c.2.2.2.2.2.1.1.map eImpD) c.2.2.2.2.2.1.2 .no)]) (fun _ _ => B1) (fun i _ => (c.2.2.2.2.2.1.1.take i).all (fun m => decide (0 ≤ m.2.2)) = true) () (by omega) ?_ (fun _ _ h => h) rfl rfl (fun _ _ => rfl) ?_ ?_ (by decide)
  · simp only [go_sem, reduceIte, Nat.reduceEqDiff, Nat.reduceAdd, Nat.reduceMul, Nat.reduceSub, Nat.reduceLeDiff, Nat.reduceLT, reduceCtorEq, Int.natCast_zero]
  · intro i _ hi he
    have hbad : decide (0 ≤ c.2.2.2.2.2.1.1[i].2.2) = false → Vle (oneOf [V.int .i64 3]) (.int .i64 (codeF c)) := by
      intro h
      rw [codeF, if_neg hF1, if_neg hF2, if_neg hF3, if_pos (allT_not (q := fun m : ImpD => decide (0 ≤ m.2.2)) hi h)]
      exact Vle.refl _
    have hnext := allT_next (q := fun m : ImpD => decide (0 ≤ m.2.2)) he hi
    refine aw_sr rfl ?_  -- r20
    simp only [go_sem, reduceIte, Nat.reduceEqDiff, Nat.reduceAdd, Nat.reduceMul, Nat.reduceSub, Nat.reduceLeDiff, Nat.reduceLT, reduceCtorEq, getD_map hi, eImpD]
    refine ⟨⟨by omega, by omega, hwm⟩, ?_⟩
    generalize c.2.2.2.2.2.1.1[i] = a at hbad hnext ⊢
    intro b9 hb9
    refine aw_box1 hb9 fun B2 hs2 h9 => ?_
    refine aw_sr rfl ?_  -- r21
    simp only [go_sem, reduceIte, Nat.reduceEqDiff, Nat.reduceAdd, Nat.reduceMul, Nat.reduceSub, Nat.reduceLeDiff, Nat.reduceLT, reduceCtorEq, h9]
    refine aw_if rfl (fun h => ?_) (fun h => ?_)
    · refine aw_sr rfl ?_  -- r22
      simp only [go_sem, reduceIte, Nat.reduceEqDiff, Nat.reduceAdd, Nat.reduceMul, Nat.reduceSub, Nat.reduceLeDiff, Nat.reduceLT, reduceCtorEq]
      rw [decide_eq_true_eq] at h
      exact aw_ret ⟨trivial, _, rfl, hbad (decide_eq_false (by omega)), sub_trans hsB hs2⟩
    rw [decide_eq_false_iff_not] at h
    refine aw_skip ⟨(), hnext (decide_eq_true (by omega)), ?_, hs2⟩
    simp only [go_sem, reduceIte, Nat.reduceEqDiff, Nat.reduceAdd, Nat.reduceMul, Nat.reduceSub, Nat.reduceLeDiff, Nat.reduceLT, reduceCtorEq]
  intro _ he
  rw [List.take_length] at he
  refine hK22 _ _ ?_
  have hF4 : ¬ c.2.2.2.2.2.1.1.all (fun m => decide (0 ≤ m.2.2)) = false := by rw [he]; decide
  have hF : codeF c = frst (funF c) c.2.2.1.1 := by rw [codeF, if_neg hF1, if_neg hF2, if_neg hF3, if_neg hF4]
  refine aw_seq fun K23 hK23 => ?_
  refine aw_sr rfl ?_  -- r24
  simp only [go_sem, reduceIte, Nat.reduceEqDiff, Nat.reduceAdd, Nat.reduceMul, Nat.reduceSub, Nat.reduceLeDiff, Nat.reduceLT, reduceCtorEq, h1]
  refine aw_range c.2.2.1.1.length (S := Unit) (fun i _ => [(1, .ptr b1 0), (127, .sl (c.2.2.1.1.map eFun) c.2.2.1.2 .no)]) (fun _ _ => B1) (fun i _ => frst (funF c) (c.2.2.1.1.take i) = 0) () (by omega) ?_ (fun _ _ h => h) rfl rfl (fun _ _ => rfl) ?_ ?_ (by decide)
  · simp only [go_sem, reduceIte, Nat.reduceEqDiff, Nat.reduceAdd, Nat.reduceMul, Nat.reduceSub, Nat.reduceLeDiff, Nat.reduceLT, reduceCtorEq, Int.natCast_zero]
  · intro i _ hi he
    have hokf := hc.2.2.2.2.2.2.2.1 _ (List.getElem_mem hi)
    have hbad := frst_at (g := funF c) hi he
    have hnext := frst_take (g := funF c) hi he
    refine aw_sr rfl ?_  -- r26
    simp only [go_sem, reduceIte, Nat.reduceEqDiff, Nat.reduceAdd, Nat.reduceMul, Nat.reduceSub, Nat.reduceLeDiff, Nat.reduceLT, reduceCtorEq, getD_map hi, eFun]
    refine ⟨⟨by omega, by omega, hwf⟩, ?_⟩
    generalize c.2.2.1.1[i] = f at hbad hnext hokf ⊢
    have hfl := hokf.1
    intro b11 hb11
    refine aw_box1 hb11 fun B2 hs2 h11 => ?_
    have h111 := hs2 _ _ h1
    have hsC := sub_trans hsB hs2
    refine aw_seq fun K24 hK24 => ?_
    refine aw_sr rfl ?_  -- r27
    simp only [go_sem, reduceIte, Nat.reduceEqDiff, Nat.reduceAdd, Nat.reduceMul, Nat.reduceSub, Nat.reduceLeDiff, Nat.reduceLT, reduceCtorEq, h11]
    refine aw_if rfl (fun h => ?_) (fun h => ?_)
    · refine aw_sr rfl ?_  -- r28
      simp only [go_sem, reduceIte, Nat.reduceEqDiff, Nat.reduceAdd, Nat.reduceMul, Nat.reduceSub, Nat.reduceLeDiff, Nat.reduceLT, reduceCtorEq]
      simp only [Bool.or_eq_true, decide_eq_true_eq] at h
      have hv : funF c f = 2 := by rw [funF, if_pos (by omega)]
      refine aw_ret ⟨trivial, _, rfl, ?_, hsC⟩
      rw [hF, hbad (by rw [hv]; decide), hv]
      exact Vle.refl _
    simp only [Bool.or_eq_false_iff, decide_eq_false_iff_not] at h
    have g1 : ¬ (4000 < (f.2.2.2.2.1.length : Int) ∨ 2000 < f.2.2.2.1) := by omega
    refine aw_skip (hK24 _ _ ?_)
    refine aw_seq fun K25 hK25 => ?_
    refine aw_sr rfl ?_  -- r29
    simp only [go_sem, reduceIte, Nat.reduceEqDiff, Nat.reduceAdd, Nat.reduceMul, Nat.reduceSub, Nat.reduceLeDiff, Nat.reduceLT, reduceCtorEq, h11]
    refine goA_q (q_in _ _) ?_
    simp only [go_sem, reduceIte, Nat.reduceEqDiff, Nat.reduceAdd, Nat.reduceMul, Nat.reduceSub, Nat.reduceLeDiff, Nat.reduceLT, reduceCtorEq, h11]
    refine goH_q (fun hg => q_in _ _) ?_
    simp only [go_sem, reduceIte, Nat.reduceEqDiff, Nat.reduceAdd, Nat.reduceMul, Nat.reduceSub, Nat.reduceLeDiff, Nat.reduceLT, reduceCtorEq, h11]
    have hthree : funF c f = 3 → Vle (oneOf [V.int .i64 3]) (.int .i64 (codeF c)) := fun hv => by
      rw [hF, hbad (by rw [hv]; decide), hv]
      exact Vle.refl _
    refine aw_if rfl (fun h => ?_) (fun h => ?_)
    · refine aw_sr rfl ?_  -- r30
      simp only [go_sem, reduceIte, Nat.reduceEqDiff, Nat.reduceAdd, Nat.reduceMul, Nat.reduceSub, Nat.reduceLeDiff, Nat.reduceLT, reduceCtorEq]
      refine aw_ret ⟨trivial, _, rfl, hthree ?_, hsC⟩
      rw [funF, if_neg g1, if_pos]
      by_cases hr : (0 ≤ f.2.1 ∧ f.2.1 < 2001) ∧ (0 ≤ f.2.2.1 ∧ f.2.2.1 < 2001)
      · rw [withinB_pos hr.1, withinB_pos hr.2, wrap64 (by omega) (by omega)] at h
        simp only [Bool.not_true, Bool.false_or, Bool.or_eq_true, decide_eq_true_eq] at h
        omega
      · omega
    have hr : (0 ≤ f.2.1 ∧ f.2.1 < 2001) ∧ (0 ≤ f.2.2.1 ∧ f.2.2.1 < 2001) := by
      simp only [Bool.or_eq_false_iff, Bool.not_eq_false'] at h
      exact ⟨withinB_true h.1.1.1, withinB_true h.1.1.2⟩
    rw [withinB_pos hr.1, withinB_pos hr.2, wrap64 (by omega) (by omega)] at h
    simp only [Bool.not_true, Bool.false_or, Bool.or_eq_false_iff, decide_eq_false_iff_not] at h
    have g2 : ¬ (f.2.1 < 0 ∨ f.2.2.1 < 0 ∨ 2000 < f.2.1 ∨ 2000 < f.2.2.1 ∨ f.2.2.2.1 < f.2.1 + f.2.2.1 ∨ f.2.2.2.2.1.length = 0) := by omega
    have hv : funF c f = if fineIs c f.2.2.2.2.1.length f.2.2.2.1 0 f.2.2.2.2.1 = true then 0 else 3 := by rw [funF, if_neg g1, if_neg g2]
    refine aw_skip (hK25 _ _ ?_)
    refine aw_sr rfl ?_  -- r31
    simp only [go_sem, reduceIte, Nat.reduceEqDiff, Nat.reduceAdd, Nat.reduceMul, Nat.reduceSub, Nat.reduceLeDiff, Nat.reduceLT, reduceCtorEq, h11]
    refine aw_range f.2.2.2.2.1.length (S := Unit) (fun j _ => [(127, .sl (c.2.2.1.1.map eFun) c.2.2.1.2 .no), (128, .int .i64 (c.2.2.1.1.length : Nat)), (129, .int .i64 (i : Nat)), (1, .ptr b1 0), (11, .ptr b11 0), (169, .sl (f.2.2.2.2.1.map eIns) f.2.2.2.2.2 .no)]) (fun _ _ => B2) (fun j _ => fineIs c f.2.2.2.2.1.length f.2.2.2.1 0 (f.2.2.2.2.1.take j) = true) () (by omega) ?_ (fun _ _ h => h) rfl rfl (fun _ _ => rfl) ?_ ?_ (by decide)
    · simp only [go_sem, reduceIte, Nat.reduceEqDiff, Nat.reduceAdd, Nat.reduceMul, Nat.reduceSub, Nat.reduceLeDiff, Nat.reduceLT, reduceCtorEq, Int.natCast_zero]
    · intro j _ hj he2
      have hal := hokf.2 _ (List.getElem_mem hj)
      have hb2 : fineI c f.2.2.2.2.1.length f.2.2.2.1 j f.2.2.2.2.1[j] = false → funF c f = 3 := fun h => by
        rw [hv, fineIs_not hj (by rw [Int.zero_add]; exact h)]; rfl
      have hn2 := fineIs_take (k := 0) (c := c) (len := f.2.2.2.2.1.length) (regs := f.2.2.2.1) hj he2
      rw [Int.zero_add] at hn2
      refine aw_sr rfl ?_  -- r33
      simp only [go_sem, reduceIte, Nat.reduceEqDiff, Nat.reduceAdd, Nat.reduceMul, Nat.reduceSub, Nat.reduceLeDiff, Nat.reduceLT, reduceCtorEq, getD_map hj, eIns]
      refine ⟨⟨by omega, by omega, wid_eIns _⟩, ?_⟩
      generalize f.2.2.2.2.1[j] = x at hal hb2 hn2 ⊢
      intro b13 hb13
      refine aw_box1 hb13 fun B3 hs3 h13 => ?_
      have h112 := hs3 _ _ h111
      have h12 := hs3 _ _ h11
      refine aw_sr rfl ?_  -- r34
      simp only [go_sem, reduceIte, Nat.reduceEqDiff, Nat.reduceAdd, Nat.reduceMul, Nat.reduceSub, Nat.reduceLeDiff, Nat.reduceLT, reduceCtorEq, h112, h12, h13]
      refine goA_q (q_right c hc f hokf x j hal (by omega) (by omega)) ?_
      simp only [go_sem, reduceIte, Nat.reduceEqDiff, Nat.reduceAdd, Nat.reduceMul, Nat.reduceSub, Nat.reduceLeDiff, Nat.reduceLT, reduceCtorEq]
      refine aw_if rfl (fun h => ?_) (fun h => ?_)
      · refine aw_sr rfl ?_  -- r35
        simp only [go_sem, reduceIte, Nat.reduceEqDiff, Nat.reduceAdd, Nat.reduceMul, Nat.reduceSub, Nat.reduceLeDiff, Nat.reduceLT, reduceCtorEq]
        exact aw_ret ⟨trivial, _, rfl, hthree (hb2 (by simpa using h)), sub_trans hsC hs3⟩
      refine aw_skip ⟨(), hn2 (by simpa using h), ?_, hs3⟩
      simp only [go_sem, reduceIte, Nat.reduceEqDiff, Nat.reduceAdd, Nat.reduceMul, Nat.reduceSub, Nat.reduceLeDiff, Nat.reduceLT, reduceCtorEq]
    intro _ he2
    rw [List.take_length] at he2
    refine ⟨(), hnext (by rw [hv, if_pos he2]), ?_, hs2⟩
    simp only [go_sem, reduceIte, Nat.reduceEqDiff, Nat.reduceAdd, Nat.reduceMul, Nat.reduceSub, Nat.reduceLeDiff, Nat.reduceLT, reduceCtorEq]
  intro _ he
  rw [List.take_length] at he
  refine hK23 _ _ ?_
  refine aw_sr rfl ?_  -- r38
  simp only [go_sem, reduceIte, Nat.reduceEqDiff, Nat.reduceAdd, Nat.reduceMul, Nat.reduceSub, Nat.reduceLeDiff, Nat.reduceLT, reduceCtorEq]
  refine aw_ret ⟨trivial, _, rfl, ?_, hsB⟩
  rw [hF, he]
  exact Vle.refl _
end Go.Proofs.Ytkhgcikaojhknaa

/- The law CodeChecks. No conditions but sizes. -/
set_option linter.unusedSimpArgs false
set_option linter.unusedVariables false
namespace Go.Proofs.Ytkhgcikaojhknaa
open Go.Proofs.YtkhgcikaojhknaaV
set_option maxHeartbeats 400000
set_option maxRecDepth 100000
theorem q_smallC (c : CodeD) (hc : OkCode c) : QB Try.prog 31 [.agg (cCode c)] := by
  have hlf : c.2.2.1.1.length ≤ 1048576 := hc.2.2.1
  have hlp : c.2.2.2.2.2.2.1.length ≤ 1048576 := hc.2.2.2.2.2.2.1
  have hwf : wid 5 (c.2.2.1.1.map eFun) := wid_map (g := eFun) (fun _ => rfl) _
  have hwp : wid 1 (c.2.2.2.2.2.2.1.map ePatL) := wid_map (g := ePatL) (fun _ => rfl) _
  refine QB.weak fun G => ?_
  refine acall_body (rs := [.tmp 2]) Try.func31 rfl rfl Try.ntmps31 (by kernel_rfl) (Nat.le_of_ble_eq_true rfl) ?_
  refine aw_sr rfl ?_  -- r0 @low.go:24
  simp only [go_sem, reduceIte, Nat.reduceEqDiff, Nat.reduceAdd, Nat.reduceMul, Nat.reduceSub, Nat.reduceLeDiff, Nat.reduceLT, reduceCtorEq]
  intro b1 hb1
  refine aw_box1 hb1 fun B1 hs1 h1 => ?_
  have hsB := hs1
  refine aw_sr rfl ?_  -- r1 @low.go:25
  simp only [go_sem, reduceIte, Nat.reduceEqDiff, Nat.reduceAdd, Nat.reduceMul, Nat.reduceSub, Nat.reduceLeDiff, Nat.reduceLT, reduceCtorEq, h1]
  generalize IntKind.i64.wrap _ = n0
  refine aw_seq fun K33 hK33 => ?_
  refine aw_sr rfl ?_  -- r2 @low.go:26
  simp only [go_sem, reduceIte, Nat.reduceEqDiff, Nat.reduceAdd, Nat.reduceMul, Nat.reduceSub, Nat.reduceLeDiff, Nat.reduceLT, reduceCtorEq, h1]
  refine aw_range c.2.2.1.1.length (S := Int) (fun i n => [(1, .ptr b1 0), (3, .int .i64 n), (36, .sl (c.2.2.1.1.map eFun) c.2.2.1.2 .no)]) (fun _ _ => B1) (fun i _ => True) n0 (by omega) ?_ (fun _ _ h => h) trivial rfl (fun _ _ => rfl) ?_ ?_ (by decide)
  · simp only [go_sem, reduceIte, Nat.reduceEqDiff, Nat.reduceAdd, Nat.reduceMul, Nat.reduceSub, Nat.reduceLeDiff, Nat.reduceLT, reduceCtorEq, Int.natCast_zero]
  · intro i n hi _
    have hokf := hc.2.2.2.2.2.2.2.1 _ (List.getElem_mem hi)
    refine aw_sr rfl ?_  -- r4 @low.go:26
    simp only [go_sem, reduceIte, Nat.reduceEqDiff, Nat.reduceAdd, Nat.reduceMul, Nat.reduceSub, Nat.reduceLeDiff, Nat.reduceLT, reduceCtorEq, getD_map hi, eFun]
    refine ⟨⟨by omega, by omega, hwf⟩, ?_⟩
    generalize c.2.2.1.1[i] = f at hokf ⊢
    have hfl := hokf.1
    intro b5 hb5
    refine aw_box1 hb5 fun B2 hs2 h5 => ?_
    have h15 := hs2 _ _ h1
    refine aw_sr rfl ?_  -- r5 @low.go:27
    simp only [go_sem, reduceIte, Nat.reduceEqDiff, Nat.reduceAdd, Nat.reduceMul, Nat.reduceSub, Nat.reduceLeDiff, Nat.reduceLT, reduceCtorEq, h5]
    generalize IntKind.i64.wrap (n + _) = n1
    refine aw_seq fun K34 hK34 => ?_
    refine aw_sr rfl ?_  -- r6 @low.go:28
    simp only [go_sem, reduceIte, Nat.reduceEqDiff, Nat.reduceAdd, Nat.reduceMul, Nat.reduceSub, Nat.reduceLeDiff, Nat.reduceLT, reduceCtorEq, h5]
    refine aw_range f.2.2.2.2.1.length (S := Int) (fun j m => [(3, .int .i64 m), (36, .sl (c.2.2.1.1.map eFun) c.2.2.1.2 .no), (37, .int .i64 (c.2.2.1.1.length : Nat)), (38, .int .i64 (i : Nat)), (1, .ptr b1 0), (5, .ptr b5 0), (49, .sl (f.2.2.2.2.1.map eIns) f.2.2.2.2.2 .no)]) (fun _ _ => B2) (fun j _ => True) n1 (by omega) ?_ (fun _ _ h => h) trivial rfl (fun _ _ => rfl) ?_ ?_ (by decide)
    · simp only [go_sem, reduceIte, Nat.reduceEqDiff, Nat.reduceAdd, Nat.reduceMul, Nat.reduceSub, Nat.reduceLeDiff, Nat.reduceLT, reduceCtorEq, Int.natCast_zero]
    · intro j m hj _
      refine aw_sr rfl ?_  -- r8 @low.go:28
      simp only [go_sem, reduceIte, Nat.reduceEqDiff, Nat.reduceAdd, Nat.reduceMul, Nat.reduceSub, Nat.reduceLeDiff, Nat.reduceLT, reduceCtorEq, getD_map hj, eIns]
      refine ⟨⟨by omega, by omega, wid_eIns _⟩, ?_⟩
      intro b7 hb7
      refine aw_box1 hb7 fun B3 hs3 h7 => ?_
      refine aw_rg rfl ?_  -- r9 @low.go:29
      simp only [go_sem, reduceIte, Nat.reduceEqDiff, Nat.reduceAdd, Nat.reduceMul, Nat.reduceSub, Nat.reduceLeDiff, Nat.reduceLT, reduceCtorEq, h7]
      refine ⟨IntKind.i64.wrap (m + (f.2.2.2.2.1[j].2.2.2.2.1.length : Int)), ⟨rfl, rfl, rfl, rfl, rfl, rfl, rfl, rfl, rfl⟩, hs3⟩
    intro m _
    refine hK34 _ _ ?_
    refine aw_sr rfl ?_  -- r11 @low.go:31
    simp only [go_sem, reduceIte, Nat.reduceEqDiff, Nat.reduceAdd, Nat.reduceMul, Nat.reduceSub, Nat.reduceLeDiff, Nat.reduceLT, reduceCtorEq, h5]
    refine aw_if rfl (fun h => ?_) (fun h => ?_)
    · refine aw_sr rfl ?_  -- r12 @low.go:32
      simp only [go_sem, reduceIte, Nat.reduceEqDiff, Nat.reduceAdd, Nat.reduceMul, Nat.reduceSub, Nat.reduceLeDiff, Nat.reduceLT, reduceCtorEq]
      exact aw_ret ⟨trivial, _, rfl, ⟨_, Vle.refl _⟩, sub_trans hsB hs2⟩
    refine aw_skip ⟨m, ?_, hs2⟩
    simp only [go_sem, reduceIte, Nat.reduceEqDiff, Nat.reduceAdd, Nat.reduceMul, Nat.reduceSub, Nat.reduceLeDiff, Nat.reduceLT, reduceCtorEq]
  intro n _
  refine hK33 _ _ ?_
  refine aw_seq fun K35 hK35 => ?_
  refine aw_sr rfl ?_  -- r14 @low.go:35
  simp only [go_sem, reduceIte, Nat.reduceEqDiff, Nat.reduceAdd, Nat.reduceMul, Nat.reduceSub, Nat.reduceLeDiff, Nat.reduceLT, reduceCtorEq, h1]
  refine aw_range c.2.2.2.2.2.2.1.length (S := Int) (fun i n => [(3, .int .i64 n), (66, .sl (c.2.2.2.2.2.2.1.map ePatL) c.2.2.2.2.2.2.2 .no)]) (fun _ _ => B1) (fun i _ => True) n (by omega) ?_ (fun _ _ h => h) trivial rfl (fun _ _ => rfl) ?_ ?_ (by decide)
  · simp only [go_sem, reduceIte, Nat.reduceEqDiff, Nat.reduceAdd, Nat.reduceMul, Nat.reduceSub, Nat.reduceLeDiff, Nat.reduceLT, reduceCtorEq, Int.natCast_zero]
  · intro i n hi _
    have hps := hc.2.2.2.2.2.2.2.2 _ (List.getElem_mem hi)
    refine aw_sr rfl ?_  -- r16 @low.go:35
    simp only [go_sem, reduceIte, Nat.reduceEqDiff, Nat.reduceAdd, Nat.reduceMul, Nat.reduceSub, Nat.reduceLeDiff, Nat.reduceLT, reduceCtorEq, getD_map hi, ePatL]
    refine ⟨⟨by omega, by omega, hwp⟩, ?_⟩
    generalize c.2.2.2.2.2.2.1[i] = pl at hps ⊢
    refine aw_sr rfl ?_  -- r17 @low.go:36
    simp only [go_sem, reduceIte, Nat.reduceEqDiff, Nat.reduceAdd, Nat.reduceMul, Nat.reduceSub, Nat.reduceLeDiff, Nat.reduceLT, reduceCtorEq]
    refine aw_range pl.1.length (S := Int) (fun j m => [(3, .int .i64 m), (66, .sl (c.2.2.2.2.2.2.1.map ePatL) c.2.2.2.2.2.2.2 .no), (67, .int .i64 (c.2.2.2.2.2.2.1.length : Nat)), (68, .int .i64 (i : Nat)), (72, .sl (pl.1.map ePat) pl.2 .no)]) (fun _ _ => B1) (fun j _ => True) n (by omega) ?_ (fun _ _ h => h) trivial rfl (fun _ _ => rfl) ?_ ?_ (by decide)
    · simp only [go_sem, reduceIte, Nat.reduceEqDiff, Nat.reduceAdd, Nat.reduceMul, Nat.reduceSub, Nat.reduceLeDiff, Nat.reduceLT, reduceCtorEq, Int.natCast_zero]
    · intro j m hj _
      have hpj := hps.2 _ (List.getElem_mem hj)
      refine aw_sr rfl ?_  -- r19 @low.go:36
      simp only [go_sem, reduceIte, Nat.reduceEqDiff, Nat.reduceAdd, Nat.reduceMul, Nat.reduceSub, Nat.reduceLeDiff, Nat.reduceLT, reduceCtorEq, getD_map hj, ePat_eq]
      refine ⟨⟨by omega, by omega, wid_ePat _⟩, ?_⟩
      intro b11 hb11
      refine aw_box1 hb11 fun B2 hs2 h11 => ?_
      refine aw_rg rfl ?_  -- r20 @low.go:37
      simp only [go_sem, reduceIte, Nat.reduceEqDiff, Nat.reduceAdd, Nat.reduceMul, Nat.reduceSub, Nat.reduceLeDiff, Nat.reduceLT, reduceCtorEq, h11]
      refine goA_qi (q_nodes _ pl.1[j] 200 (Nat.le_refl _) hpj.1) fun k => ?_
      simp only [go_sem, reduceIte, Nat.reduceEqDiff, Nat.reduceAdd, Nat.reduceMul, Nat.reduceSub, Nat.reduceLeDiff, Nat.reduceLT, reduceCtorEq]
      refine ⟨IntKind.i64.wrap (m + k), ⟨rfl, rfl, rfl, rfl, rfl, rfl, rfl⟩, hs2⟩
    intro m _
    refine ⟨m, ?_, sub_rfl⟩
    simp only [go_sem, reduceIte, Nat.reduceEqDiff, Nat.reduceAdd, Nat.reduceMul, Nat.reduceSub, Nat.reduceLeDiff, Nat.reduceLT, reduceCtorEq]
  intro n _
  refine hK35 _ _ ?_
  refine aw_sr rfl ?_  -- r23 @low.go:40
  simp only [go_sem, reduceIte, Nat.reduceEqDiff, Nat.reduceAdd, Nat.reduceMul, Nat.reduceSub, Nat.reduceLeDiff, Nat.reduceLT, reduceCtorEq]
  exact aw_ret ⟨trivial, _, rfl, ⟨_, Vle.refl _⟩, hsB⟩
/-- A code of one function that answers nothing at all. -/
def oneC : CodeD := (([], true), ([], true), ([([], 0, 0, 1, ([(1, 0, 1, 0, ([], true)), (25, 0, 0, 0, ([], true))], false))], false), ([], true), ([], true), ([], true), ([], true))
theorem oneC_ok : OkCode oneC := by
  refine ⟨by decide, by decide, by decide, by decide, by decide, by decide, by decide, fun f hf => ?_, fun l hl => by cases hl⟩
  rw [List.mem_singleton.1 hf]
  refine ⟨by decide, fun i hi => ?_⟩
  rcases List.mem_cons.1 hi with rfl | hi
  · decide
  · rw [List.mem_singleton.1 hi]; decide
theorem oneC_fine : codeF oneC = 0 := by decide
def badC : CodeD := (([], true), ([], true), ([([], 0, 0, 0, ([], true))], false), ([], true), ([], true), ([], true), ([], true))
theorem badC_ok : OkCode badC := by
  refine ⟨by decide, by decide, by decide, by decide, by decide, by decide, by decide, fun f hf => ?_, fun l hl => by cases hl⟩
  rw [List.mem_singleton.1 hf]
  exact ⟨by decide, fun i hi => by cases hi⟩
theorem badC_bad : codeF badC = 3 := by decide
theorem Quiet.le {P : Go.Program} {g : Go.FuncId} {as_ bs : List V} {x : V} (h : Quiet P g bs x) (hl : VleL as_ bs) : Quiet P g as_ x := fun G E M w vs hm hr => h G E M w vs hm (hl.rep hr)
namespace codeChecks
theorem law0 (c : CodeD) (hc : OkCode c) : Quiet Try.prog 10 [.agg (cCode c)] (.bool true) := by
  have h0 := q_Check oneC oneC_ok
  rw [oneC_fine] at h0
  refine Quiet.weak fun G => ?_
  refine acall_body (rs := [.tmp 2]) Try.func10 rfl rfl Try.ntmps10 (by kernel_rfl) (Nat.le_of_ble_eq_true rfl) ?_
  refine aw_sr rfl ?_  -- r0 @low.go:94
  simp only [go_sem, reduceIte, Nat.reduceEqDiff, Nat.reduceAdd, Nat.reduceMul, Nat.reduceSub, Nat.reduceLeDiff, Nat.reduceLT, reduceCtorEq]
  intro b1 hb1
  refine aw_box1 hb1 fun B1 hs1 h1 => ?_
  have hsB := hs1
  refine aw_seq fun K36 hK36 => ?_
  refine aw_sr rfl ?_  -- r1 @low.go:95
  simp only [go_sem, reduceIte, Nat.reduceEqDiff, Nat.reduceAdd, Nat.reduceMul, Nat.reduceSub, Nat.reduceLeDiff, Nat.reduceLT, reduceCtorEq, h1]
  refine goA_qb (q_smallC c hc) fun sm => ?_
  simp only [go_sem, reduceIte, Nat.reduceEqDiff, Nat.reduceAdd, Nat.reduceMul, Nat.reduceSub, Nat.reduceLeDiff, Nat.reduceLT, reduceCtorEq]
  refine aw_if rfl (fun h => ?_) (fun h => ?_)
  · refine aw_sr rfl ?_  -- r2 @low.go:96
    simp only [go_sem, reduceIte, Nat.reduceEqDiff, Nat.reduceAdd, Nat.reduceMul, Nat.reduceSub, Nat.reduceLeDiff, Nat.reduceLT, reduceCtorEq]
    exact aw_ret ⟨trivial, _, rfl, Vle.refl _, hsB⟩
  refine aw_skip (hK36 _ _ ?_)
  refine aw_sr rfl ?_  -- r3 @low.go:98
  simp only [go_sem, reduceIte, Nat.reduceEqDiff, Nat.reduceAdd, Nat.reduceMul, Nat.reduceSub, Nat.reduceLeDiff, Nat.reduceLT, reduceCtorEq]
  intro b3 hb3
  refine aw_box1 hb3 fun B2 hs2 h3 => ?_
  have ne31 : ¬ b1 = b3 := ne_fresh h1 hb3
  replace h1 := hs2 _ _ h1
  have hG3 := sub_none hsB hb3
  replace hsB := sub_trans hsB hs2
  refine AW.hle (ds := cCode oneC) h3 (.cons Vle.untag (.cons Vle.untag (.cons (Vle.slE (.cons (.cons (Vle.refl _) (.cons (Vle.refl _) (.cons (Vle.refl _) (.cons (Vle.refl _) (.cons (Vle.slE (.cons (.cons (Vle.refl _) (.cons (Vle.refl _) (.cons (Vle.refl _) (.cons (Vle.refl _) (.cons Vle.untag .nil))))) (.cons (.cons (Vle.refl _) (.cons (Vle.refl _) (.cons (Vle.refl _) (.cons (Vle.refl _) (.cons Vle.untag .nil))))) .nil))) .nil))))) .nil)) (.cons Vle.untag (.cons Vle.untag (.cons Vle.untag (.cons Vle.untag .nil))))))) ?_
  have h3' := hget_hset_self (y := .vars (cCode oneC)) h3
  have h1' := hset_keep (x := .vars (cCode oneC)) h1 ne31
  replace hsB := sub_hset_fresh (x := .vars (cCode oneC)) hG3 hsB
  generalize hset B2 b3 (.vars (cCode oneC)) = B4 at h3' h1' hsB ⊢
  refine aw_srd [(0,true),(1,true),(2,true),(3,true),(4,true),(5,true),(6,true),(7,true),(8,true),(9,true),(10,true),(11,true),(12,true),(13,true),(14,true),(15,true),(16,true),(17,true)] mixed rfl (by kernel_rfl) ?_  -- r4 @low.go:99
  simp only [go_sem, reduceIte, Nat.reduceEqDiff, Nat.reduceAdd, Nat.reduceMul, Nat.reduceSub, Nat.reduceLeDiff, Nat.reduceLT, reduceCtorEq, h1', h3']
  refine goQ_by h0 ?_
  simp only [go_sem, reduceIte, Nat.reduceEqDiff, Nat.reduceAdd, Nat.reduceMul, Nat.reduceSub, Nat.reduceLeDiff, Nat.reduceLT, reduceCtorEq, h1', h3']
  have h9 := q_Check badC badC_ok
  rw [badC_bad] at h9
  refine goQg_by (fun _ => Quiet.le h9 (.cons (Vle.aggL (.cons Vle.untag (.cons Vle.untag (.cons (Vle.slE (.cons (.cons (Vle.refl _) (.cons (Vle.refl _) (.cons (Vle.refl _) (.cons (Vle.refl _) (.cons Vle.untag .nil))))) .nil)) (.cons Vle.untag (.cons Vle.untag (.cons Vle.untag (.cons Vle.untag .nil)))))))) .nil)) ?_
  simp only [go_sem, reduceIte, Nat.reduceEqDiff, Nat.reduceAdd, Nat.reduceMul, Nat.reduceSub, Nat.reduceLeDiff, Nat.reduceLT, reduceCtorEq, h1', h3']
  refine goQg_by (fun _ => q_Check c hc) ?_
  simp only [go_sem, reduceIte, Nat.reduceEqDiff, Nat.reduceAdd, Nat.reduceMul, Nat.reduceSub, Nat.reduceLeDiff, Nat.reduceLT, reduceCtorEq, h1', h3']
  refine goQg_by (fun _ => q_Fault c hc) ?_
  simp only [go_sem, reduceIte, Nat.reduceEqDiff, Nat.reduceAdd, Nat.reduceMul, Nat.reduceSub, Nat.reduceLeDiff, Nat.reduceLT, reduceCtorEq, h1', h3']
  refine aw_ret ⟨trivial, _, rfl, ?_, hsB⟩
  simp [oneOf]
  exact Vle.refl _
end codeChecks
end Go.Proofs.Ytkhgcikaojhknaa

/- The law CodeChecks for what comes in. No conditions but sizes. -/
set_option linter.unusedSimpArgs false
set_option linter.unusedVariables false
namespace Go.Proofs.Ytkhgcikaojhknaa.codeChecks
open Go.Proofs.YtkhgcikaojhknaaV
set_option maxRecDepth 100000
theorem law (x0 : D57) (q0 : o57 x0) : Quiet Try.prog 10 [.agg (e57 x0)] (.bool true) := by
  obtain ⟨q1, q2, q3, q4, q5, q6, q7⟩ := q0
  have hok : OkCode x0 := by
    refine ⟨q1.2.1, q2.2.1, q3.2.1, q4.2.1, q5.2.1, q6.2.1, q7.2.1, fun f hf => ?_, fun l hl => ?_⟩
    · obtain ⟨_, _, _, _, h5⟩ := q3.2.2 f hf
      refine ⟨h5.2.1, fun i hi => ?_⟩
      obtain ⟨_, _, _, _, h6⟩ := h5.2.2 i hi
      exact h6.2.1
    · have h5 := q7.2.2 l hl
      exact ⟨h5.2.1, fun p hp => h5.2.2 p hp⟩
  exact law0 x0 hok
end Go.Proofs.Ytkhgcikaojhknaa.codeChecks

/- 'roadlaw1.CodeChecks' returns true for every input whose bulk is at most 1048576 values and letters (the statement's own bound): what is told to be wrong with a code is what the reference tells. No other condition. -/
set_option linter.unusedSimpArgs false
set_option linter.unusedVariables false
set_option maxRecDepth 100000
namespace Go.Proofs.Ytkhgcikaojhknaa.codeChecks
open Go.ChangeShapes Go.WideShapes Go.ChangeAt Go.RowKit
open Go.Proofs.YtkhgcikaojhknaaV
theorem own : ownKnob Try.prog.godebug = none := by kernel_rfl
theorem laidOut : laidOutB Try.prog = true := by kernel_rfl
theorem uBool : Try.prog.underlying 4 = some .bool := by kernel_rfl
theorem typed {xs : List V} (h : TyAll Try.prog [57] xs) (hs : vszL xs ≤ 1048576) : Quiet Try.prog 10 xs (.bool true) := by
  obtain ⟨x0, rfl, q0⟩ := args h hs
  exact law x0 q0
theorem contract (H : Type) (enc : TypeId × Value → H) (W : World) (base : Nat) (args : Array Value) (ds gs : List (DataW H)) (before : List MemPlace)
    (hval : ∀ (j : Nat) t v, Try.f10.params[j]? = some t → args[j]? = some v → Value.okWide Try.prog W .any base t v)
    (hW : DataW.Whole enc Try.prog Try.f10.params.toList Rows.codeChecksSpec.vars false W args.toList ds gs before) (hk : Rows.uptoSmall H (ds ++ gs) = true) :
    Calls Try.prog 10 args W fun e W' => ∃ v, e = .returned v ∧ Rows.codeChecksSpec.post enc Try.prog Try.f10 false true false false W args v W' := by
  have hW' := hW
  obtain ⟨p, q, hA0, hV, rfl, hfz, hnd⟩ := hW
  have hA : DataW.TrodAll enc Try.prog W 0 (fun _ => true) true Try.f10.params.toList args.toList ds p := hA0
  obtain ⟨rfl, rfl⟩ := trodVars_none hV
  rw [Try.params10] at hA hval
  obtain ⟨xs, hr, ht, hs⟩ := trod_all (fun j t v hj hv => hval j t v (by simpa using hj) (by simpa using hv)) hA
  have hk' : Rows.uptoBulkAll (ds ++ []) ≤ 1048576 := of_decide_eq_true hk
  rw [List.append_nil] at hk'
  have hq := typed ht (Nat.le_trans hs hk')
  refine (ACall.calls (hq []) Try.func10 rfl rfl hr).mono fun e W' ⟨v, he, bel, M', x, G', hx, hxe, _⟩ => ?_
  subst hxe
  have hv := hx.bool_inv
  subst he hv
  have hst := trod_stays laidOut bel (by kernel_rfl) hA
  obtain ⟨v0, vs0, d0, ds0, p0, q0, hargs, rfl, rfl, h0, r0⟩ := trodAll_cons hA
  obtain ⟨rfl, rfl, rfl⟩ := trodAll_nil r0
  exact ⟨_, rfl, _, _, _, [], _, [], hW', trodAll_mk1 (shut_bool uBool _), hst, rfl, bel.frame _, fun h => by cases h⟩
set_option maxRecDepth 100000 in
theorem lifted (os : Os) (started : os.Started) (H : Type) (enc : TypeId × Value → H) (F : Stop.Interp) :
    ReturnsInHanded {} Try.checked os 10 .any ((Rows.OpenSpec.upto Rows.codeChecksSpec).pre6 enc Try.prog Try.f10 Rows.codeChecksUptoRow.domain false) (((Rows.OpenSpec.upto Rows.codeChecksSpec).at F).post enc Try.prog Try.f10 false true false false) := by
  refine returnsInHanded_of_cond (C := Try.checked) (s := Rows.OpenSpec.upto Rows.codeChecksSpec) (k := Rows.uptoSmall) rfl own started (by kernel_rfl) Try.func10
    (OpenSpec.witness (enc := enc) (C := Try.checked) (s := Rows.OpenSpec.upto Rows.codeChecksSpec) (k := Rows.uptoSmall) rfl false ⟨#[], #[(.agg #[(.slice none 0 0), (.slice none 0 0), (.slice none 0 0), (.slice none 0 0), (.slice none 0 0), (.slice none 0 0), (.slice none 0 0)])], []⟩ 8 (by kernel_rfl) (by kernel_rfl) (by kernel_rfl)
      (x := ([(.agg [.nil, .nil, .nil, .nil, .nil, .nil, .nil])], [], [])) (by kernel_rfl) rfl (by kernel_rfl)) ?_
  intro W base args ds gs before hval hW _ hk _
  exact contract H enc W base args ds gs before hval hW hk
set_option maxHeartbeats 4000000 in
theorem joined : joinedFacts Try.pinned.checked.prog 10 Try.f10 (Rows.OpenSpec.upto Rows.codeChecksSpec).bare Rows.codeChecksUptoRow = true := by
  unfold joinedFacts
  simp only [Bool.and_eq_true]
  repeat' apply And.intro
  all_goals (as_aux_lemma => kernel_rfl)
theorem over : Rows.codeChecksUptoRow.holds Try.pinned (Rows.OpenSpec.upto Rows.codeChecksSpec) :=
  OpenClaim.holds_of_cond 10 Try.f10 rfl rfl rfl rfl rfl rfl rfl ⟨rfl, rfl, rfl, rfl, rfl⟩ rfl rfl rfl rfl rfl (by kernel_rfl) Try.func10 joined
    (of_decide_eq_true (by kernel_rfl)) (by unfold Func.isWrapper; first | (rw [if_pos (by decide +kernel)]; kernel_rfl) | (rw [if_neg (by decide +kernel)]; exact ⟨rfl, rfl⟩))
    (fun os started H enc _ F => lifted os started H enc F)
theorem proved : Rows.CodeChecksUptoSaid := over
#print axioms proved
end Go.Proofs.Ytkhgcikaojhknaa.codeChecks
