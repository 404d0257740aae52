import Derived.Test.YtomjghlaoncpbaaValF
set_option linter.unusedSimpArgs false
set_option linter.unusedVariables false
namespace Go.Proofs.Ytomjghlaoncpbaa
open Go.Proofs.YtomjghlaoncpbaaV
set_option maxHeartbeats 400000
set_option maxRecDepth 100000
theorem badM_lost {m : Mov} {n : Int} (h : n ∈ m.2.2.2.1) (hb : badN m n = true) : badM m = true := by
  have : m.2.2.2.1.any (badN m) = true := List.any_eq_true.2 ⟨n, h, hb⟩
  simp [badM, this]
theorem badM_count {m : Mov} (h : (decide (m.2.1 < 0) || decide (1000 < m.2.1)) = true) : badM m = true := by
  simp only [badM, h, Bool.true_or]
theorem badM_field {m : Mov} {f : Fld} (h : f ∈ m.2.2.1.1) (hb : (decide (f.1 < -1) || decide (f.1 ≥ m.2.1)) = true) : badM m = true := by
  by_cases hc : (decide (m.2.1 < 0) || decide (1000 < m.2.1)) = true
  · exact badM_count hc
  · have hb2 : badF m f = true := by
      simp only [badF, badN, Bool.or_eq_true, Bool.and_eq_true, decide_eq_true_eq] at hb hc ⊢
      omega
    have : m.2.2.1.1.any (badF m) = true := List.any_eq_true.2 ⟨f, h, hb2⟩
    simp [badM, this]
theorem badM_not {m : Mov} (h1 : ∀ n ∈ m.2.2.2.1, badN m n = false) (h2 : ∀ f ∈ m.2.2.1.1, (decide (f.1 < -1) || decide (f.1 ≥ m.2.1)) = false) (h3 : (decide (m.2.1 < 0) || decide (1000 < m.2.1)) = false) : badM m = false := by
  have e1 : m.2.2.2.1.any (badN m) = false := List.any_eq_false.2 fun n hn => by rw [h1 n hn]; simp
  have e2 : m.2.2.1.1.any (badF m) = false := List.any_eq_false.2 fun f hf => by
    have := h2 f hf
    simp only [badF, badN, Bool.or_eq_false_iff, Bool.and_eq_true, Bool.or_eq_true, decide_eq_true_eq, decide_eq_false_iff_not] at this ⊢
    omega
  simp only [badM, h3, e1, e2, Bool.or_false]
theorem mem_take_succ {A : Type} {P : A → Prop} {xs : List A} {i : Nat} (h : ∀ x ∈ xs.take i, P x) (hi : i < xs.length) (hp : P xs[i]) : ∀ x ∈ xs.take (i + 1), P x := by
  intro x hx
  rw [List.take_succ_eq_append_getElem hi, List.mem_append] at hx
  rcases hx with hx | hx
  · exact h x hx
  · simp at hx; subst hx; exact hp
abbrev zMl : List V := [.str [], .int .i64 0, .sl [] true .full, .sl [] true .full]
theorem q_renewed (s : Sav) (w : Wy) (old : Bool) (hw : w.1.length ≤ bulk) (hm : ∀ m ∈ w.1, m.2.2.1.1.length ≤ bulk ∧ m.2.2.2.1.length ≤ bulk) : Quiet Try.prog 95 [.agg (cSav s), .agg (cWy w), .bool old] (pairM (stF s w old)) := by
  refine Quiet.weak fun G => ?_
  refine acall_body (rs := [.cell 6 49, .tmp 7]) Try.func95 rfl rfl Try.ntmps95 (by kernel_rfl) (Nat.le_of_ble_eq_true rfl) ?_
  refine aw_sr rfl ?_
  simp only [go_sem, reduceIte, Nat.reduceEqDiff, Nat.reduceAdd, Nat.reduceMul, Nat.reduceSub, Nat.reduceLeDiff, Nat.reduceLT, reduceCtorEq]
  intro b3 hb3 b4 hb4 b6 hb6
  obtain ⟨n64, hb6'⟩ := fresh_cons hb6
  obtain ⟨n63, n6⟩ := fresh_cons hb6'
  obtain ⟨n43, n4⟩ := fresh_cons hb4
  have hw' : w.1.length ≤ 1048576 := hw
  refine aw_seq fun K1 hK1 => ?_
  refine aw_sr rfl ?_
  simp only [go_sem, reduceIte, Nat.reduceEqDiff, Nat.reduceAdd, Nat.reduceMul, Nat.reduceSub, Nat.reduceLeDiff, Nat.reduceLT, reduceCtorEq, n64, n63, n43]
  refine aw_range w.1.length (S := Unit) (fun _ _ => [(15, .sl (w.1.map eMov) w.2 .no), (3, .ptr b3 0), (6, .ptr b6 0), (2, .bool old)]) (fun _ _ => (b6, .vars zMl) :: (b4, .vars (cWy w)) :: (b3, .vars (cSav s)) :: G) (fun i _ => ∀ m ∈ w.1.take i, ¬ m.1 = s.1) () (by omega) ?_ (fun _ _ h => h) (by simp) rfl (fun _ _ => rfl) ?_ ?_ (by decide)
  · simp only [go_sem, reduceIte, Nat.reduceEqDiff, Nat.reduceAdd, Nat.reduceMul, Nat.reduceSub, Nat.reduceLeDiff, Nat.reduceLT, reduceCtorEq, Int.natCast_zero]
  · intro i _ hi he
    have hmi := hm _ (List.getElem_mem hi)
    have hmf : w.1[i].2.2.1.1.length ≤ 1048576 := hmi.1
    have hml : w.1[i].2.2.2.1.length ≤ 1048576 := hmi.2
    refine aw_sr rfl ?_
    simp only [go_sem, reduceIte, Nat.reduceEqDiff, Nat.reduceAdd, Nat.reduceMul, Nat.reduceSub, Nat.reduceLeDiff, Nat.reduceLT, reduceCtorEq, getD_map hi, eMov]
    refine ⟨⟨by omega, by omega, wid_map (g := eMov) (fun _ => rfl) _⟩, fun b9 hb9 => ?_⟩
    obtain ⟨n96, hb9'⟩ := fresh_cons hb9
    obtain ⟨n94, hb9''⟩ := fresh_cons hb9'
    obtain ⟨n93, n9⟩ := fresh_cons hb9''
    refine aw_seq fun K2 hK2 => ?_
    refine aw_sr rfl ?_
    simp only [go_sem, reduceIte, Nat.reduceEqDiff, Nat.reduceAdd, Nat.reduceMul, Nat.reduceSub, Nat.reduceLeDiff, Nat.reduceLT, reduceCtorEq, n96, n94, n93, n64, n63, n43]
    refine aw_if rfl (fun h => ?_) (fun h => ?_)
    · refine aw_exit ?_
      refine ⟨(), mem_take_succ he hi (by simpa using h), ?_, sub_fresh (by rw [hget_cons_ne (fun e => n96 e.symm), hget_cons_ne (fun e => n94 e.symm), hget_cons_ne (fun e => n93 e.symm)]; exact n9) sub_rfl⟩
      simp only [go_sem, reduceIte, Nat.reduceEqDiff, Nat.reduceAdd, Nat.reduceMul, Nat.reduceSub, Nat.reduceLeDiff, Nat.reduceLT, reduceCtorEq]
    · have hname : w.1[i].1 = s.1 := by simpa using h
      have hfind : w.1.find? (fun m => decide (m.1 = s.1)) = some w.1[i] := by
        rw [List.find?_eq_some_iff_getElem]
        refine ⟨by simpa using hname, i, hi, rfl, fun j hj => ?_⟩
        have := he w.1[j] (List.mem_take_iff_getElem.2 ⟨j, by omega, rfl⟩)
        simpa using this
      have hres : findF w s.1 = if badM w.1[i] = true then (zM, 3) else (w.1[i], 0) := by rw [findF, hfind]
      have hbad : badM w.1[i] = true → stF s w old = (zM, 3) := fun hb => by
        rw [stF, hres, if_pos hb, if_pos (by decide)]
      refine aw_skip (hK2 _ _ ?_)
      refine aw_seq fun K3 hK3 => ?_
      refine aw_sr rfl ?_
      simp only [go_sem, reduceIte, Nat.reduceEqDiff, Nat.reduceAdd, Nat.reduceMul, Nat.reduceSub, Nat.reduceLeDiff, Nat.reduceLT, reduceCtorEq, n96, n94, n93, n64, n63, n43]
      refine aw_range w.1[i].2.2.2.1.length (S := Unit) (fun _ _ => [(27, .sl (w.1[i].2.2.2.1.map eInt) w.1[i].2.2.2.2 .no), (3, .ptr b3 0), (6, .ptr b6 0), (9, .ptr b9 0), (2, .bool old)]) (fun _ _ => (b9, .vars (cMov w.1[i])) :: (b6, .vars zMl) :: (b4, .vars (cWy w)) :: (b3, .vars (cSav s)) :: G) (fun j _ => ∀ n ∈ w.1[i].2.2.2.1.take j, badN w.1[i] n = false) () (by omega) ?_ (fun _ _ h => h) (by simp) rfl (fun _ _ => rfl) ?_ ?_ (by decide)
      · simp only [go_sem, reduceIte, Nat.reduceEqDiff, Nat.reduceAdd, Nat.reduceMul, Nat.reduceSub, Nat.reduceLeDiff, Nat.reduceLT, reduceCtorEq, Int.natCast_zero]
      · intro j _ hj hej
        refine aw_sr rfl ?_
        simp only [go_sem, reduceIte, Nat.reduceEqDiff, Nat.reduceAdd, Nat.reduceMul, Nat.reduceSub, Nat.reduceLeDiff, Nat.reduceLT, reduceCtorEq, getD_map hj, eInt]
        refine ⟨⟨by omega, by omega, wid_map (g := eInt) (fun _ => rfl) _⟩, ?_⟩
        refine aw_sr rfl ?_
        simp only [go_sem, reduceIte, Nat.reduceEqDiff, Nat.reduceAdd, Nat.reduceMul, Nat.reduceSub, Nat.reduceLeDiff, Nat.reduceLT, reduceCtorEq]
        refine aw_if rfl (fun h => ?_) (fun h => ?_)
        · refine aw_sr rfl ?_
          simp only [go_sem, reduceIte, Nat.reduceEqDiff, Nat.reduceAdd, Nat.reduceMul, Nat.reduceSub, Nat.reduceLeDiff, Nat.reduceLT, reduceCtorEq, n96, n94, n93, n64, n63, n43]
          refine aw_ret ⟨trivial, [.agg zMl, .int .i64 3], ?_, ?_, sub_fresh n9 (sub_fresh n6 (sub_fresh n4 (sub_fresh hb3 sub_rfl)))⟩
          · simp only [go_sem, reduceIte, Nat.reduceEqDiff, Nat.reduceAdd, Nat.reduceMul, Nat.reduceSub, Nat.reduceLeDiff, Nat.reduceLT, reduceCtorEq, resL, resOf, n96]
          · rw [hbad (badM_lost (List.getElem_mem hj) (by simpa [badN] using h))]
            exact Vle.tupL (.cons zM_le (.cons (Vle.refl _) .nil))
        · refine aw_skip ⟨(), mem_take_succ hej hj (by simpa [badN] using h), ?_, fun _ _ h => h⟩
          simp only [go_sem, reduceIte, Nat.reduceEqDiff, Nat.reduceAdd, Nat.reduceMul, Nat.reduceSub, Nat.reduceLeDiff, Nat.reduceLT, reduceCtorEq]
      · intro _ hlost
        rw [List.take_length] at hlost
        refine hK3 _ _ ?_
        refine aw_seq fun K4 hK4 => ?_
        refine aw_sr rfl ?_
        simp only [go_sem, reduceIte, Nat.reduceEqDiff, Nat.reduceAdd, Nat.reduceMul, Nat.reduceSub, Nat.reduceLeDiff, Nat.reduceLT, reduceCtorEq, n96, n94, n93, n64, n63, n43]
        refine aw_range w.1[i].2.2.1.1.length (S := Unit) (fun _ _ => [(44, .sl (w.1[i].2.2.1.1.map eFld) w.1[i].2.2.1.2 .no), (3, .ptr b3 0), (6, .ptr b6 0), (9, .ptr b9 0), (2, .bool old)]) (fun _ _ => (b9, .vars (cMov w.1[i])) :: (b6, .vars zMl) :: (b4, .vars (cWy w)) :: (b3, .vars (cSav s)) :: G) (fun j _ => ∀ f ∈ w.1[i].2.2.1.1.take j, (decide (f.1 < -1) || decide (f.1 ≥ w.1[i].2.1)) = false) () (by omega) ?_ (fun _ _ h => h) (by simp) rfl (fun _ _ => rfl) ?_ ?_ (by decide)
        · simp only [go_sem, reduceIte, Nat.reduceEqDiff, Nat.reduceAdd, Nat.reduceMul, Nat.reduceSub, Nat.reduceLeDiff, Nat.reduceLT, reduceCtorEq, Int.natCast_zero]
        · intro j _ hj hej
          refine aw_sr rfl ?_
          simp only [go_sem, reduceIte, Nat.reduceEqDiff, Nat.reduceAdd, Nat.reduceMul, Nat.reduceSub, Nat.reduceLeDiff, Nat.reduceLT, reduceCtorEq, getD_map hj, eFld, cFld, cV]
          refine ⟨⟨by omega, by omega, wid_map (g := eFld) (fun _ => rfl) _⟩, fun b13 hb13 => ?_⟩
          obtain ⟨n139, hb13'⟩ := fresh_cons hb13
          obtain ⟨n136, hb13''⟩ := fresh_cons hb13'
          obtain ⟨n134, hb13'''⟩ := fresh_cons hb13''
          obtain ⟨n133, n13⟩ := fresh_cons hb13'''
          refine aw_sr rfl ?_
          simp only [go_sem, reduceIte, Nat.reduceEqDiff, Nat.reduceAdd, Nat.reduceMul, Nat.reduceSub, Nat.reduceLeDiff, Nat.reduceLT, reduceCtorEq, n139, n136, n96]
          refine aw_if rfl (fun h => ?_) (fun h => ?_)
          · refine aw_sr rfl ?_
            simp only [go_sem, reduceIte, Nat.reduceEqDiff, Nat.reduceAdd, Nat.reduceMul, Nat.reduceSub, Nat.reduceLeDiff, Nat.reduceLT, reduceCtorEq, n139, n136, n134, n133, n96, n94, n93, n64, n63, n43]
            refine aw_ret ⟨trivial, [.agg zMl, .int .i64 3], ?_, ?_, sub_fresh n13 (sub_fresh n9 (sub_fresh n6 (sub_fresh n4 (sub_fresh hb3 sub_rfl))))⟩
            · simp only [go_sem, reduceIte, Nat.reduceEqDiff, Nat.reduceAdd, Nat.reduceMul, Nat.reduceSub, Nat.reduceLeDiff, Nat.reduceLT, reduceCtorEq, resL, resOf, n96, n136]
            · rw [hbad (badM_field (List.getElem_mem hj) (by simpa using h))]
              exact Vle.tupL (.cons zM_le (.cons (Vle.refl _) .nil))
          · refine aw_skip ⟨(), mem_take_succ hej hj (by simpa using h), ?_, sub_fresh hb13 sub_rfl⟩
            simp only [go_sem, reduceIte, Nat.reduceEqDiff, Nat.reduceAdd, Nat.reduceMul, Nat.reduceSub, Nat.reduceLeDiff, Nat.reduceLT, reduceCtorEq]
        · intro _ hfields
          rw [List.take_length] at hfields
          refine hK4 _ _ ?_
          refine aw_seq fun K5 hK5 => ?_
          refine aw_sr rfl ?_
          simp only [go_sem, reduceIte, Nat.reduceEqDiff, Nat.reduceAdd, Nat.reduceMul, Nat.reduceSub, Nat.reduceLeDiff, Nat.reduceLT, reduceCtorEq]
          refine aw_if rfl (fun h => ?_) (fun h => ?_)
          · refine aw_sr rfl ?_
            simp only [go_sem, reduceIte, Nat.reduceEqDiff, Nat.reduceAdd, Nat.reduceMul, Nat.reduceSub, Nat.reduceLeDiff, Nat.reduceLT, reduceCtorEq, n96, n94, n93, n64, n63, n43]
            refine aw_ret ⟨trivial, [.agg zMl, .int .i64 3], ?_, ?_, sub_fresh n9 (sub_fresh n6 (sub_fresh n4 (sub_fresh hb3 sub_rfl)))⟩
            · simp only [go_sem, reduceIte, Nat.reduceEqDiff, Nat.reduceAdd, Nat.reduceMul, Nat.reduceSub, Nat.reduceLeDiff, Nat.reduceLT, reduceCtorEq, resL, resOf, n96]
            · rw [hbad (badM_count (by simpa using h))]
              exact Vle.tupL (.cons zM_le (.cons (Vle.refl _) .nil))
          · have hgood : findF w s.1 = (w.1[i], 0) := by
              rw [hres, badM_not hlost hfields (by simpa using h)]; rfl
            have h0 : ¬ ((0 : Int) ≠ 0) := by simp
            refine aw_skip (hK5 _ _ ?_)
            refine aw_seq fun K6 hK6 => ?_
            refine aw_sr rfl ?_
            simp only [go_sem, reduceIte, Nat.reduceEqDiff, Nat.reduceAdd, Nat.reduceMul, Nat.reduceSub, Nat.reduceLeDiff, Nat.reduceLT, reduceCtorEq, n96, n94, n93, n64, n63, n43]
            have hn : (old && decide ((s.2.1.1.length : Int) ≠ w.1[i].2.1) || !old && decide ((s.2.1.1.length : Int) ≠ (w.1[i].2.2.1.1.length : Int))) = decide ((s.2.1.1.length : Int) ≠ needN w.1[i] old) := by cases old <;> simp [needN]
            refine aw_if rfl (fun h => ?_) (fun h => ?_)
            · refine aw_sr rfl ?_
              simp only [go_sem, reduceIte, Nat.reduceEqDiff, Nat.reduceAdd, Nat.reduceMul, Nat.reduceSub, Nat.reduceLeDiff, Nat.reduceLT, reduceCtorEq, n96, n94, n93, n64, n63, n43]
              refine aw_ret ⟨trivial, [.agg zMl, .int .i64 1], ?_, ?_, sub_fresh n9 (sub_fresh n6 (sub_fresh n4 (sub_fresh hb3 sub_rfl)))⟩
              · simp only [go_sem, reduceIte, Nat.reduceEqDiff, Nat.reduceAdd, Nat.reduceMul, Nat.reduceSub, Nat.reduceLeDiff, Nat.reduceLT, reduceCtorEq, resL, resOf, n96]
              · have h' := hn.symm.trans h
                rw [stF, hgood, if_neg h0, if_pos (by simpa using h')]
                exact Vle.tupL (.cons zM_le (.cons (Vle.refl _) .nil))
            · have h' : ¬ ((s.2.1.1.length : Int) ≠ needN w.1[i] old) := by
                have h' := hn.symm.trans h
                simpa using h'
              refine aw_skip (hK6 _ _ ?_)
              refine aw_seq fun K7 hK7 => ?_
              refine aw_sr rfl ?_
              simp only [go_sem, reduceIte, Nat.reduceEqDiff, Nat.reduceAdd, Nat.reduceMul, Nat.reduceSub, Nat.reduceLeDiff, Nat.reduceLT, reduceCtorEq, n96, n94, n93, n64, n63, n43]
              refine aw_if rfl (fun h => ?_) (fun h => ?_)
              · refine aw_sr rfl ?_
                simp only [go_sem, reduceIte, Nat.reduceEqDiff, Nat.reduceAdd, Nat.reduceMul, Nat.reduceSub, Nat.reduceLeDiff, Nat.reduceLT, reduceCtorEq, n96, n94, n93, n64, n63, n43]
                refine aw_ret ⟨trivial, [.agg zMl, .int .i64 8], ?_, ?_, sub_fresh n9 (sub_fresh n6 (sub_fresh n4 (sub_fresh hb3 sub_rfl)))⟩
                · simp only [go_sem, reduceIte, Nat.reduceEqDiff, Nat.reduceAdd, Nat.reduceMul, Nat.reduceSub, Nat.reduceLeDiff, Nat.reduceLT, reduceCtorEq, resL, resOf, n96]
                · have h8 : (s.2.2.1.length : Int) > 0 := by
                    have : (s.2.2.1.length : Int) ≠ 0 := by simpa using h
                    omega
                  rw [stF, hgood, if_neg h0, if_neg h', if_pos h8]
                  exact Vle.tupL (.cons zM_le (.cons (Vle.refl _) .nil))
              · refine aw_skip (hK7 _ _ ?_)
                refine aw_sr rfl ?_
                simp only [go_sem, reduceIte, Nat.reduceEqDiff, Nat.reduceAdd, Nat.reduceMul, Nat.reduceSub, Nat.reduceLeDiff, Nat.reduceLT, reduceCtorEq, n96, n94, n93, n64, n63, n43]
                refine aw_ret ⟨trivial, [.agg (cMov w.1[i]), .int .i64 0], ?_, ?_, sub_fresh n9 (sub_fresh n6 (sub_fresh n4 (sub_fresh hb3 sub_rfl)))⟩
                · simp only [go_sem, reduceIte, Nat.reduceEqDiff, Nat.reduceAdd, Nat.reduceMul, Nat.reduceSub, Nat.reduceLeDiff, Nat.reduceLT, reduceCtorEq, resL, resOf, n96]
                · have h8 : ¬ (s.2.2.1.length : Int) > 0 := by
                    have : (s.2.2.1.length : Int) = 0 := by simpa using h
                    omega
                  rw [stF, hgood, if_neg h0, if_neg h', if_neg h8]
                  exact Vle.refl _
  · intro _ he
    rw [List.take_length] at he
    refine hK1 _ _ ?_
    refine aw_sr rfl ?_
    simp only [go_sem, reduceIte, Nat.reduceEqDiff, Nat.reduceAdd, Nat.reduceMul, Nat.reduceSub, Nat.reduceLeDiff, Nat.reduceLT, reduceCtorEq, n64, n63, n43]
    refine aw_ret ⟨trivial, [.agg zMl, .int .i64 4], ?_, ?_, sub_fresh n6 (sub_fresh n4 (sub_fresh hb3 sub_rfl))⟩
    · simp only [go_sem, reduceIte, Nat.reduceEqDiff, Nat.reduceAdd, Nat.reduceMul, Nat.reduceSub, Nat.reduceLeDiff, Nat.reduceLT, reduceCtorEq, resL, resOf]
    · have hfind : w.1.find? (fun m => decide (m.1 = s.1)) = none := List.find?_eq_none.2 fun m hm => by simpa using he m hm
      rw [stF, findF, hfind, if_pos (by decide)]
      exact Vle.tupL (.cons zM_le (.cons (Vle.refl _) .nil))
end Go.Proofs.Ytomjghlaoncpbaa
