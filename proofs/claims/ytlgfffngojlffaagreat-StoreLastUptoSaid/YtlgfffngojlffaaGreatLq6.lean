/- Part 6 of a proof laid in parts; each part's own comment says what it proves and under which conditions. -/
import Derived.Test.YtlgfffngojlffaaGreatLq5
import Derived.Test.YtlgfffngojlffaaGreatLq4
import Derived.Test.YtlgfffngojlffaaGreatLq3
/- Snapshots: what is wrong with one, the reference's. No conditions but sizes. -/
set_option linter.unusedSimpArgs false
set_option linter.unusedVariables false
namespace Go.Proofs.YtlgfffngojlffaaGreat
open Go.Proofs.YtlgfffngojlffaaGreatV
set_option maxHeartbeats 400000
set_option maxRecDepth 100000
def lastP (l : List Pcl) (i : Nat) : Int := match pAt none l i with | none => 0 | some q => q.1
def lastW (l : List Wyt) (i : Nat) : Int := match pAt none l i with | none => -1 | some q => 10 * q.1 + q.2.1
theorem pAt_next {A : Type} {l : List A} {i : Nat} (hi : i < l.length) : pAt none l (i + 1) = some l[i] := by
  unfold pAt; rw [if_neg (by omega), show i + 1 - 1 = i by omega, List.getElem?_eq_getElem hi]
theorem q_SnapFault (x : Snp) (ho : OkSnp x) : Quiet Tryz.prog 23 [.agg (cSnp x)] (.int .i64 (checkN x)) := by
  obtain ⟨o1, o2, o3, o4, o5⟩ := ho
  refine Quiet.weak fun G => ?_
  refine acall_body (rs := [.tmp 2]) Tryz.func23 rfl rfl Tryz.ntmps23 (by kernel_rfl) (Nat.le_of_ble_eq_true rfl) ?_
  refine aw_sr rfl ?_  -- r0 @keep.go:250
  simp only [go_sem, reduceIte, Nat.reduceEqDiff, Nat.reduceAdd, Nat.reduceMul, Nat.reduceSub, Nat.reduceLeDiff, Nat.reduceLT, reduceCtorEq]
  intro b1 hb1
  refine aw_box1 hb1 fun B1 hs1 h1 => ?_
  have hsB := hs1
  refine aw_seq fun K21 hK21 => ?_
  refine aw_sr rfl ?_  -- r1 @keep.go:251
  simp only [go_sem, reduceIte, Nat.reduceEqDiff, Nat.reduceAdd, Nat.reduceMul, Nat.reduceSub, Nat.reduceLeDiff, Nat.reduceLT, reduceCtorEq, h1]
  refine aw_if rfl (fun h => ?_) (fun h => ?_)
  · refine aw_sr rfl ?_  -- r2 @keep.go:252
    simp only [go_sem, reduceIte, Nat.reduceEqDiff, Nat.reduceAdd, Nat.reduceMul, Nat.reduceSub, Nat.reduceLeDiff, Nat.reduceLT, reduceCtorEq]
    refine aw_ret ⟨trivial, _, rfl, ?_, hsB⟩
    simp only [Bool.or_eq_true, decide_eq_true_eq] at h
    rw [checkN, if_pos (by omega)]
    exact Vle.refl _
  simp only [Bool.or_eq_false_iff, decide_eq_false_iff_not] at h
  have g1 : ¬ (100 < x.2.1.1.length ∨ 60 < x.2.2.1.length) := by omega
  refine aw_skip (hK21 _ _ ?_)
  refine aw_seq fun K22 hK22 => ?_
  refine aw_sr rfl ?_  -- r3 @keep.go:254
  simp only [go_sem, reduceIte, Nat.reduceEqDiff, Nat.reduceAdd, Nat.reduceMul, Nat.reduceSub, Nat.reduceLeDiff, Nat.reduceLT, reduceCtorEq, h1]
  refine aw_if rfl (fun h => ?_) (fun h => ?_)
  · refine aw_sr rfl ?_  -- r4 @keep.go:255
    simp only [go_sem, reduceIte, Nat.reduceEqDiff, Nat.reduceAdd, Nat.reduceMul, Nat.reduceSub, Nat.reduceLeDiff, Nat.reduceLT, reduceCtorEq]
    refine aw_ret ⟨trivial, _, rfl, ?_, hsB⟩
    rw [decide_eq_true_eq] at h
    rw [checkN, if_neg g1, if_pos h]
    exact Vle.refl _
  rw [decide_eq_false_iff_not] at h
  have g2 := h
  refine aw_skip (hK22 _ _ ?_)
  refine aw_sr rfl ?_  -- r5 @keep.go:257
  simp only [go_sem, reduceIte, Nat.reduceEqDiff, Nat.reduceAdd, Nat.reduceMul, Nat.reduceSub, Nat.reduceLeDiff, Nat.reduceLT, reduceCtorEq]
  refine aw_seq fun K23 hK23 => ?_
  refine aw_sr rfl ?_  -- r6 @keep.go:258
  simp only [go_sem, reduceIte, Nat.reduceEqDiff, Nat.reduceAdd, Nat.reduceMul, Nat.reduceSub, Nat.reduceLeDiff, Nat.reduceLT, reduceCtorEq, h1]
  refine aw_range x.2.1.1.length (S := Unit) (fun i _ => [(1, .ptr b1 0), (3, .int .i64 (lastP x.2.1.1 i)), (26, .sl (x.2.1.1.map ePcl) x.2.1.2 .no)]) (fun _ _ => B1) (fun i _ => scanF pclF none (x.2.1.1.take i) = 0) () (by omega) ?_ (fun _ _ h => h) rfl rfl (fun _ _ => rfl) ?_ ?_ (by decide)
  · simp only [go_sem, reduceIte, Nat.reduceEqDiff, Nat.reduceAdd, Nat.reduceMul, Nat.reduceSub, Nat.reduceLeDiff, Nat.reduceLT, reduceCtorEq, Int.natCast_zero]
    rfl
  · intro i _ hi he
    have hop := o3 _ (List.getElem_mem hi)
    have hnext := scan_next hi he
    have hhit := scan_hit hi he
    have hbad : ∀ {e : Int}, pclF (pAt none x.2.1.1 i) x.2.1.1[i] = e → e ≠ 0 → Vle (oneOf [V.int .i64 e]) (.int .i64 (checkN x)) := by
      intro e h0 h
      have h1 : pclF (pAt none x.2.1.1 i) x.2.1.1[i] ≠ 0 := by rw [h0]; exact h
      rw [checkN, if_neg g1, if_neg g2, hhit h1, if_pos h1, h0]
      exact Vle.refl _
    have hgi := getD_map (e := ePcl) hi
    have hln : lastP x.2.1.1 (i + 1) = (x.2.1.1[i]).1 := by unfold lastP; rw [pAt_next hi]
    have hprev : 0 < i → ∃ q : Pcl, pAt none x.2.1.1 i = some q := fun hp => ⟨x.2.1.1[i - 1], by unfold pAt; rw [if_neg (by omega), List.getElem?_eq_getElem (by omega)]⟩
    refine aw_sr rfl ?_  -- r8 @keep.go:258
    simp only [go_sem, reduceIte, Nat.reduceEqDiff, Nat.reduceAdd, Nat.reduceMul, Nat.reduceSub, Nat.reduceLeDiff, Nat.reduceLT, reduceCtorEq, hgi, ePcl, hln]
    refine ⟨⟨by omega, by omega, wid_ePcl _⟩, ?_⟩
    generalize x.2.1.1[i] = p at hop hnext hhit hbad hln ⊢
    intro b5 hb5
    refine aw_box1 hb5 fun B2 hs2 h5 => ?_
    have hsC := sub_trans hsB hs2
    refine aw_seq fun K24 hK24 => ?_
    refine aw_sr rfl ?_  -- r9 @keep.go:259
    simp only [go_sem, reduceIte, Nat.reduceEqDiff, Nat.reduceAdd, Nat.reduceMul, Nat.reduceSub, Nat.reduceLeDiff, Nat.reduceLT, reduceCtorEq, h5]
    refine goA_q (q_ParcelFault p hop) ?_
    simp only [go_sem, reduceIte, Nat.reduceEqDiff, Nat.reduceAdd, Nat.reduceMul, Nat.reduceSub, Nat.reduceLeDiff, Nat.reduceLT, reduceCtorEq, h5]
    refine aw_sr rfl ?_  -- r10 @keep.go:259
    simp only [go_sem, reduceIte, Nat.reduceEqDiff, Nat.reduceAdd, Nat.reduceMul, Nat.reduceSub, Nat.reduceLeDiff, Nat.reduceLT, reduceCtorEq]
    refine aw_if rfl (fun h => ?_) (fun h => ?_)
    · refine aw_sr rfl ?_  -- r11 @keep.go:260
      simp only [go_sem, reduceIte, Nat.reduceEqDiff, Nat.reduceAdd, Nat.reduceMul, Nat.reduceSub, Nat.reduceLeDiff, Nat.reduceLT, reduceCtorEq]
      have h : checkP p ≠ 0 := by simpa using h
      exact aw_ret ⟨trivial, _, rfl, hbad (by unfold pclF; rw [if_pos h]) h, hsC⟩
    have hcp : ¬ checkP p ≠ 0 := by simpa using h
    refine aw_skip (hK24 _ _ ?_)
    refine aw_seq fun K25 hK25 => ?_
    refine aw_sr rfl ?_  -- r12 @keep.go:262
    simp only [go_sem, reduceIte, Nat.reduceEqDiff, Nat.reduceAdd, Nat.reduceMul, Nat.reduceSub, Nat.reduceLeDiff, Nat.reduceLT, reduceCtorEq, h5]
    have hval : pclF (pAt none x.2.1.1 i) p = if (decide ((0 : Int) < (i : Int)) && decide (p.1 ≤ lastP x.2.1.1 i)) = true then 21 else 0 := by
      cases Nat.eq_zero_or_pos i with
      | inl hi0 =>
        subst hi0
        unfold pclF; rw [if_neg hcp]; rfl
      | inr hi0 =>
        obtain ⟨q, hq1⟩ := hprev hi0
        unfold lastP
        unfold pclF; rw [hq1, if_neg hcp, decide_eq_true (show (0 : Int) < (i : Int) by omega), Bool.true_and]
        simp only [decide_eq_true_eq]
    refine aw_if rfl (fun h => ?_) (fun h => ?_)
    · refine aw_sr rfl ?_  -- r13 @keep.go:263
      simp only [go_sem, reduceIte, Nat.reduceEqDiff, Nat.reduceAdd, Nat.reduceMul, Nat.reduceSub, Nat.reduceLeDiff, Nat.reduceLT, reduceCtorEq]
      exact aw_ret ⟨trivial, _, rfl, hbad (by rw [hval, if_pos h]) (by decide), hsC⟩
    refine aw_skip (hK25 _ _ ?_)
    refine aw_rg rfl ?_  -- r14 @keep.go:265
    simp only [go_sem, reduceIte, Nat.reduceEqDiff, Nat.reduceAdd, Nat.reduceMul, Nat.reduceSub, Nat.reduceLeDiff, Nat.reduceLT, reduceCtorEq, h5]
    refine ⟨(), hnext (by rw [hval, if_neg (by rw [h]; decide)]), ?_, hs2⟩
    simp only [go_sem, reduceIte, Nat.reduceEqDiff, Nat.reduceAdd, Nat.reduceMul, Nat.reduceSub, Nat.reduceLeDiff, Nat.reduceLT, reduceCtorEq]
  intro _ he
  rw [List.take_length] at he
  have g3 : ¬ scanF pclF none x.2.1.1 ≠ 0 := fun e => e he
  have hN : checkN x = scanF wyF none x.2.2.1 := by rw [checkN, if_neg g1, if_neg g2, if_neg g3]
  refine hK23 _ _ ?_
  refine aw_sr rfl ?_  -- r16 @keep.go:267
  simp only [go_sem, reduceIte, Nat.reduceEqDiff, Nat.reduceAdd, Nat.reduceMul, Nat.reduceSub, Nat.reduceLeDiff, Nat.reduceLT, reduceCtorEq]
  refine aw_seq fun K26 hK26 => ?_
  refine aw_sr rfl ?_  -- r17 @keep.go:268
  simp only [go_sem, reduceIte, Nat.reduceEqDiff, Nat.reduceAdd, Nat.reduceMul, Nat.reduceSub, Nat.reduceLeDiff, Nat.reduceLT, reduceCtorEq, h1]
  refine aw_range x.2.2.1.length (S := Unit) (fun i _ => [(3, .int .i64 (lastW x.2.2.1 i)), (50, .sl (x.2.2.1.map eWyt) x.2.2.2 .no)]) (fun _ _ => B1) (fun i _ => scanF wyF none (x.2.2.1.take i) = 0 ∧ ∀ q, pAt none x.2.2.1 i = some q → (1 ≤ q.1 ∧ q.1 ≤ 8) ∧ 1 ≤ q.2.1 ∧ q.2.1 ≤ 8) () (by omega) ?_ (fun _ _ h => h) ⟨rfl, fun q hq => by cases hq⟩ rfl (fun _ _ => rfl) ?_ ?_ (by decide)
  · simp only [go_sem, reduceIte, Nat.reduceEqDiff, Nat.reduceAdd, Nat.reduceMul, Nat.reduceSub, Nat.reduceLeDiff, Nat.reduceLT, reduceCtorEq, Int.natCast_zero]
    rfl
  · intro i _ hi ⟨he, hq⟩
    have hop := o5 _ (List.getElem_mem hi)
    have hnext := scan_next hi he
    have hhit := scan_hit hi he
    have hgi := getD_map (e := eWyt) hi
    have hln : lastW x.2.2.1 (i + 1) = 10 * (x.2.2.1[i]).1 + (x.2.2.1[i]).2.1 := by unfold lastW; rw [pAt_next hi]
    have hpn : ∀ q, pAt none x.2.2.1 (i + 1) = some q → q = x.2.2.1[i] := fun q h => by rw [pAt_next hi] at h; exact (Option.some.inj h).symm
    refine aw_sr rfl ?_  -- r19 @keep.go:268
    simp only [go_sem, reduceIte, Nat.reduceEqDiff, Nat.reduceAdd, Nat.reduceMul, Nat.reduceSub, Nat.reduceLeDiff, Nat.reduceLT, reduceCtorEq, hgi, eWyt, hln]
    refine ⟨⟨by omega, by omega, wid_eWyt _⟩, ?_⟩
    generalize x.2.2.1[i] = w at hop hnext hhit hln hpn ⊢
    obtain ⟨p1, p2, p3, p4⟩ := hop
    have hbad : ∀ {e : Int}, wyF (pAt none x.2.2.1 i) w = e → e ≠ 0 → Vle (oneOf [V.int .i64 e]) (.int .i64 (checkN x)) := by
      intro e h0 h
      have h1 : wyF (pAt none x.2.2.1 i) w ≠ 0 := by rw [h0]; exact h
      rw [hN, hhit h1, h0]
      exact Vle.refl _
    intro b8 hb8
    refine aw_box1 hb8 fun B2 hs2 h8 => ?_
    have hsC := sub_trans hsB hs2
    refine aw_seq fun K27 hK27 => ?_
    refine aw_sr rfl ?_  -- r20 @keep.go:269
    simp only [go_sem, reduceIte, Nat.reduceEqDiff, Nat.reduceAdd, Nat.reduceMul, Nat.reduceSub, Nat.reduceLeDiff, Nat.reduceLT, reduceCtorEq, h8]
    refine aw_if rfl (fun h => ?_) (fun h => ?_)
    · refine aw_sr rfl ?_  -- r21 @keep.go:270
      simp only [go_sem, reduceIte, Nat.reduceEqDiff, Nat.reduceAdd, Nat.reduceMul, Nat.reduceSub, Nat.reduceLeDiff, Nat.reduceLT, reduceCtorEq]
      simp only [Bool.or_eq_true, decide_eq_true_eq] at h
      exact aw_ret ⟨trivial, _, rfl, hbad (by rw [wyF, if_pos (by omega)]) (by decide), hsC⟩
    simp only [Bool.or_eq_false_iff, decide_eq_false_iff_not] at h
    have f1 : ¬ (w.1 < 1 ∨ 8 < w.1 ∨ w.2.1 < 1 ∨ 8 < w.2.1 ∨ w.1 = w.2.1) := by omega
    refine aw_skip (hK27 _ _ ?_)
    refine aw_seq fun K28 hK28 => ?_
    refine aw_sr rfl ?_  -- r22 @keep.go:272
    simp only [go_sem, reduceIte, Nat.reduceEqDiff, Nat.reduceAdd, Nat.reduceMul, Nat.reduceSub, Nat.reduceLeDiff, Nat.reduceLT, reduceCtorEq, h8]
    refine aw_if rfl (fun h => ?_) (fun h => ?_)
    · refine aw_sr rfl ?_  -- r23 @keep.go:273
      simp only [go_sem, reduceIte, Nat.reduceEqDiff, Nat.reduceAdd, Nat.reduceMul, Nat.reduceSub, Nat.reduceLeDiff, Nat.reduceLT, reduceCtorEq]
      rw [decide_eq_true_eq] at h
      exact aw_ret ⟨trivial, _, rfl, hbad (by rw [wyF, if_neg f1, if_pos (by omega)]) (by decide), hsC⟩
    rw [decide_eq_false_iff_not] at h
    have f2 : ¬ 100 < w.2.2.1.length := by omega
    have hw10 : IntKind.i64.wrap (10 * w.1) = 10 * w.1 := wrap64 (by omega) (by omega)
    have hw11 : IntKind.i64.wrap (10 * w.1 + w.2.1) = 10 * w.1 + w.2.1 := wrap64 (by omega) (by omega)
    have hwb : decide (10 * w.1 + w.2.1 ≤ lastW x.2.2.1 i) = wyB (pAt none x.2.2.1 i) w := by
      unfold lastW
      cases hp : pAt none x.2.2.1 i with
      | none => simp only [wyB]; rw [decide_eq_false_iff_not]; omega
      | some q =>
        have := hq q hp
        simp only [wyB]
        rw [Bool.eq_iff_iff]
        simp only [Bool.or_eq_true, Bool.and_eq_true, decide_eq_true_eq]
        omega
    refine aw_skip (hK28 _ _ ?_)
    refine aw_seq fun K29 hK29 => ?_
    refine aw_sr rfl ?_  -- r24 @keep.go:275
    simp only [go_sem, reduceIte, Nat.reduceEqDiff, Nat.reduceAdd, Nat.reduceMul, Nat.reduceSub, Nat.reduceLeDiff, Nat.reduceLT, reduceCtorEq, h8, hw10, hw11, hwb]
    refine aw_if rfl (fun h => ?_) (fun h => ?_)
    · refine aw_sr rfl ?_  -- r25 @keep.go:276
      simp only [go_sem, reduceIte, Nat.reduceEqDiff, Nat.reduceAdd, Nat.reduceMul, Nat.reduceSub, Nat.reduceLeDiff, Nat.reduceLT, reduceCtorEq]
      exact aw_ret ⟨trivial, _, rfl, hbad (by rw [wyF, if_neg f1, if_neg f2, if_pos h]) (by decide), hsC⟩
    have hW : wyF (pAt none x.2.2.1 i) w = firstF checkL w.2.2.1 := by rw [wyF, if_neg f1, if_neg f2, if_neg (by rw [h]; decide)]
    refine aw_skip (hK29 _ _ ?_)
    refine aw_sr rfl ?_  -- r26 @keep.go:278
    simp only [go_sem, reduceIte, Nat.reduceEqDiff, Nat.reduceAdd, Nat.reduceMul, Nat.reduceSub, Nat.reduceLeDiff, Nat.reduceLT, reduceCtorEq, h8, hw10, hw11]
    refine aw_sr rfl ?_  -- r27 @keep.go:279
    simp only [go_sem, reduceIte, Nat.reduceEqDiff, Nat.reduceAdd, Nat.reduceMul, Nat.reduceSub, Nat.reduceLeDiff, Nat.reduceLT, reduceCtorEq, h8]
    refine aw_range w.2.2.1.length (S := Unit) (fun j _ => [(3, .int .i64 (10 * w.1 + w.2.1)), (50, .sl (x.2.2.1.map eWyt) x.2.2.2 .no), (51, .int .i64 (x.2.2.1.length : Nat)), (52, .int .i64 (i : Nat)), (100, .sl (w.2.2.1.map eLt) w.2.2.2 .no)]) (fun _ _ => B2) (fun j _ => firstF checkL (w.2.2.1.take j) = 0) () (by omega) ?_ (fun _ _ h => h) rfl rfl (fun _ _ => rfl) ?_ ?_ (by decide)
    · simp only [go_sem, reduceIte, Nat.reduceEqDiff, Nat.reduceAdd, Nat.reduceMul, Nat.reduceSub, Nat.reduceLeDiff, Nat.reduceLT, reduceCtorEq, Int.natCast_zero]
    · intro j _ hj he2
      have hol := p4 _ (List.getElem_mem hj)
      have hn2 := firstF_next hj he2
      have hh2 := firstF_hit hj he2
      refine aw_sr rfl ?_  -- r29 @keep.go:279
      simp only [go_sem, reduceIte, Nat.reduceEqDiff, Nat.reduceAdd, Nat.reduceMul, Nat.reduceSub, Nat.reduceLeDiff, Nat.reduceLT, reduceCtorEq, getD_map hj, eLt]
      refine ⟨⟨by omega, by omega, wid_eLt _⟩, ?_⟩
      generalize w.2.2.1[j] = l at hol hn2 hh2 ⊢
      intro b10 hb10
      refine aw_box1 hb10 fun B3 hs3 h10 => ?_
      refine aw_sr rfl ?_  -- r30 @keep.go:280
      simp only [go_sem, reduceIte, Nat.reduceEqDiff, Nat.reduceAdd, Nat.reduceMul, Nat.reduceSub, Nat.reduceLeDiff, Nat.reduceLT, reduceCtorEq, h10]
      refine goA_q (q_LetterFault l hol.2.2.2.2.2 hol.2.2.2.2.1) ?_
      simp only [go_sem, reduceIte, Nat.reduceEqDiff, Nat.reduceAdd, Nat.reduceMul, Nat.reduceSub, Nat.reduceLeDiff, Nat.reduceLT, reduceCtorEq, h10]
      refine aw_sr rfl ?_  -- r31 @keep.go:280
      simp only [go_sem, reduceIte, Nat.reduceEqDiff, Nat.reduceAdd, Nat.reduceMul, Nat.reduceSub, Nat.reduceLeDiff, Nat.reduceLT, reduceCtorEq]
      refine aw_if rfl (fun h => ?_) (fun h => ?_)
      · refine aw_sr rfl ?_  -- r32 @keep.go:281
        simp only [go_sem, reduceIte, Nat.reduceEqDiff, Nat.reduceAdd, Nat.reduceMul, Nat.reduceSub, Nat.reduceLeDiff, Nat.reduceLT, reduceCtorEq]
        have h : ¬ checkL l = 0 := by simpa using h
        exact aw_ret ⟨trivial, _, rfl, hbad (by rw [hW, hh2 h]) h, sub_trans hsC hs3⟩
      refine aw_skip ⟨(), hn2 (by simpa using h), ?_, hs3⟩
      simp only [go_sem, reduceIte, Nat.reduceEqDiff, Nat.reduceAdd, Nat.reduceMul, Nat.reduceSub, Nat.reduceLeDiff, Nat.reduceLT, reduceCtorEq]
    intro _ he2
    rw [List.take_length] at he2
    refine ⟨(), ⟨hnext (by rw [hW, he2]), fun q h => by rw [hpn q h]; omega⟩, ?_, hs2⟩
    simp only [go_sem, reduceIte, Nat.reduceEqDiff, Nat.reduceAdd, Nat.reduceMul, Nat.reduceSub, Nat.reduceLeDiff, Nat.reduceLT, reduceCtorEq]
  intro _ ⟨he, _⟩
  rw [List.take_length] at he
  refine hK26 _ _ ?_
  refine aw_sr rfl ?_  -- r35 @keep.go:285
  simp only [go_sem, reduceIte, Nat.reduceEqDiff, Nat.reduceAdd, Nat.reduceMul, Nat.reduceSub, Nat.reduceLeDiff, Nat.reduceLT, reduceCtorEq]
  refine aw_ret ⟨trivial, _, rfl, ?_, hsB⟩
  rw [hN, he]
  exact Vle.refl _
end Go.Proofs.YtlgfffngojlffaaGreat

set_option linter.unusedSimpArgs false
set_option linter.unusedVariables false
namespace Go.Proofs.YtlgfffngojlffaaGreat
open Go.Proofs.YtlgfffngojlffaaGreatV
set_option maxHeartbeats 400000
set_option maxRecDepth 100000
def packR : List (List UInt8) → Option (List UInt8)
  | [] => some []
  | b :: l => if 65535 < b.length then none else (packR l).map fun r => u8 ((b.length : Int) / 256) :: u8 b.length :: (b ++ r)
def packV (e : Bool) : Option (List UInt8) → V
  | some r => .tup [.sl (bytesV r) e .no, .int .i64 0]
  | none => .tup [.sl [] true .no, .int .i64 2]
def sumL (l : List (List UInt8)) : Nat := (l.map fun b => b.length + 2).sum
structure PackS where
  out : List UInt8
  ot : Tag
  H : Heap
theorem q_Pack (xs : List (List UInt8 × Bool)) (nl : Bool) (t : Tag) (hx : xs.length ≤ 1048576) (hs : sumL (xs.map (·.1)) ≤ 140737488355328) : Quiet Tryz.prog 79 [.sl (xs.map ePc) nl t] (packV xs.isEmpty (packR (xs.map (·.1)))) := by
  refine Quiet.weak fun G => ?_
  refine acall_body (rs := [.tmp 2, .tmp 3]) Tryz.func79 rfl rfl Tryz.ntmps79 (by kernel_rfl) (Nat.le_of_ble_eq_true rfl) ?_
  refine aw_sr rfl ?_
  simp only [go_sem, reduceIte, Nat.reduceEqDiff, Nat.reduceAdd, Nat.reduceMul, Nat.reduceSub, Nat.reduceLeDiff, Nat.reduceLT, reduceCtorEq]
  refine aw_sr rfl ?_
  simp only [go_sem, reduceIte, Nat.reduceEqDiff, Nat.reduceAdd, Nat.reduceMul, Nat.reduceSub, Nat.reduceLeDiff, Nat.reduceLT, reduceCtorEq]
  refine aw_seq fun K hK => ?_
  refine aw_sr rfl ?_
  simp only [go_sem, reduceIte, Nat.reduceEqDiff, Nat.reduceAdd, Nat.reduceMul, Nat.reduceSub, Nat.reduceLeDiff, Nat.reduceLT, reduceCtorEq]
  refine aw_range xs.length (S := PackS) (fun i s => [(7, .sl (xs.map ePc) nl t), (4, .sl (bytesV s.out) (decide (i = 0)) s.ot), (3, .int .i64 0)]) (fun i s => s.H) (fun i s => (packR ((xs.map (·.1)).drop i)).map (s.out ++ ·) = packR (xs.map (·.1)) ∧ Room G 1 s.ot s.H ∧ s.out.length + sumL ((xs.map (·.1)).drop i) = sumL (xs.map (·.1)) ∧ (i = 0 → s.out = [])) ⟨[], .full, G⟩ (by omega) ?_ (fun _ _ h => h) ⟨by simp, Room.start G 1, by simp, fun _ => rfl⟩ rfl (fun _ _ => rfl) ?_ ?_ (by decide)
  · simp only [go_sem, reduceIte, Nat.reduceEqDiff, Nat.reduceAdd, Nat.reduceMul, Nat.reduceSub, Nat.reduceLeDiff, Nat.reduceLT, reduceCtorEq, Int.natCast_zero]
    simp [bytesV]
  · rintro i ⟨out, ot, H⟩ hi ⟨i1, i2, i3, i4⟩
    simp only at i1 i2 i3 i4 ⊢
    have hi' : i < (xs.map (·.1)).length := by simpa using hi
    have hd : (xs.map (·.1)).drop i = xs[i].1 :: (xs.map (·.1)).drop (i + 1) := by rw [List.drop_eq_getElem_cons hi', List.getElem_map]
    rw [hd] at i1 i3
    have hsum : sumL (xs[i].1 :: (xs.map (·.1)).drop (i + 1)) = xs[i].1.length + 2 + sumL ((xs.map (·.1)).drop (i + 1)) := by simp [sumL]
    rw [hsum] at i3
    refine aw_sr rfl ?_
    simp only [go_sem, reduceIte, Nat.reduceEqDiff, Nat.reduceAdd, Nat.reduceMul, Nat.reduceSub, Nat.reduceLeDiff, Nat.reduceLT, reduceCtorEq, getD_map hi, ePc]
    refine ⟨⟨by omega, by omega, wid_map (g := ePc) (fun _ => rfl) _⟩, ?_⟩
    refine aw_seq fun K2 hK2 => ?_
    refine aw_sr rfl ?_
    simp only [go_sem, reduceIte, Nat.reduceEqDiff, Nat.reduceAdd, Nat.reduceMul, Nat.reduceSub, Nat.reduceLeDiff, Nat.reduceLT, reduceCtorEq]
    refine aw_if rfl (fun h => ?_) (fun h => ?_)
    · have hc : 65535 < xs[i].1.length := by
        have : (65535 : Int) < (xs[i].1.length : Int) := by simpa using h
        omega
      refine aw_sr rfl ?_
      simp only [go_sem, reduceIte, Nat.reduceEqDiff, Nat.reduceAdd, Nat.reduceMul, Nat.reduceSub, Nat.reduceLeDiff, Nat.reduceLT, reduceCtorEq]
      refine aw_ret ⟨trivial, _, rfl, ?_, i2.sub⟩
      rw [← i1, packR, if_pos hc]
      exact vle2 Vle.untag (Vle.refl _)
    · have hc : ¬ 65535 < xs[i].1.length := by
        have : (xs[i].1.length : Int) ≤ 65535 := by simpa using h
        omega
      refine aw_skip (hK2 _ _ ?_)
      refine aw_rg rfl ?_
      simp only [go_sem, reduceIte, Nat.reduceEqDiff, Nat.reduceAdd, Nat.reduceMul, Nat.reduceSub, Nat.reduceLeDiff, Nat.reduceLT, reduceCtorEq]
      refine ⟨by omega, ?_⟩
      refine goP_room i2 ?_ fun t' H' hr => ?_
      · exact ⟨rfl, rfl, by decide, wid_bytes _, wid_bytes _, sca_bytes _, by simp; omega, by simp; omega⟩
      simp only [go_sem, reduceIte, Nat.reduceEqDiff, Nat.reduceAdd, Nat.reduceMul, Nat.reduceSub, Nat.reduceLeDiff, Nat.reduceLT, reduceCtorEq, Bool.and_false]
      refine goP_room hr ?_ fun t2 H2 hr2 => ?_
      · exact ⟨rfl, rfl, by decide, wid_bytes _, wid_bytes _, sca_bytes _, by simp; omega, by simp; omega⟩
      simp only [go_sem, reduceIte, Nat.reduceEqDiff, Nat.reduceAdd, Nat.reduceMul, Nat.reduceSub, Nat.reduceLeDiff, Nat.reduceLT, reduceCtorEq, Bool.false_and]
      have h256 : (xs[i].1.length : Int).fdiv (2 ^ (Int.toNat 8).min 64) = (xs[i].1.length : Int) / 256 := by
        show Int.fdiv _ 256 = _
        rw [Int.fdiv_eq_ediv_of_nonneg _ (by decide)]
      refine ⟨⟨out ++ [u8 ((xs[i].1.length : Int) / 256), u8 xs[i].1.length] ++ xs[i].1, t2, H2⟩, ⟨?_, hr2, ?_, fun e => e.elim⟩, ?_, fun _ _ h => h⟩
      · rw [← i1, packR, if_neg hc]
        cases packR ((xs.map (·.1)).drop (i + 1)) with
        | none => rfl
        | some r => simp
      · simp only [List.length_append, List.length_cons, List.length_nil]; omega
      · simp only [go_sem, reduceIte, Nat.reduceEqDiff, Nat.reduceAdd, Nat.reduceMul, Nat.reduceSub, Nat.reduceLeDiff, Nat.reduceLT, reduceCtorEq, h256]
  · rintro ⟨out, ot, H⟩ ⟨i1, i2, i3, i4⟩
    simp only at i1 i2 i3 i4 ⊢
    refine hK _ _ ?_
    have he : decide (xs.length = 0) = xs.isEmpty := by cases xs <;> simp
    have h0 : sumL ([] : List (List UInt8)) = 0 := rfl
    have hd : (xs.map (·.1)).drop xs.length = [] := by rw [List.drop_eq_nil_iff]; simp
    rw [hd] at i1 i3
    rw [h0] at i3
    refine aw_sr rfl ?_
    simp only [go_sem, reduceIte, Nat.reduceEqDiff, Nat.reduceAdd, Nat.reduceMul, Nat.reduceSub, Nat.reduceLeDiff, Nat.reduceLT, reduceCtorEq, he]
    refine goA_q (q_Clone _ _ _ (by omega) (fun e => i4 (by simpa using e))) ?_
    simp only [go_sem, reduceIte, Nat.reduceEqDiff, Nat.reduceAdd, Nat.reduceMul, Nat.reduceSub, Nat.reduceLeDiff, Nat.reduceLT, reduceCtorEq]
    refine aw_ret ⟨trivial, _, rfl, ?_, i2.sub⟩
    rw [← i1]
    simp only [packR, Option.map_some, List.append_nil]
    exact vle2 Vle.untag (Vle.refl _)
def packV2 : Option (List UInt8) → V
  | some r => .tup [.sl (bytesV r) false .no, .int .i64 0]
  | none => .tup [.sl [] true .full, .int .i64 2]
theorem q_Packed (xs : List (List UInt8 × Bool)) (nl : Bool) (t : Tag) (hx : xs.length ≤ 1048576) (hs : sumL (xs.map (·.1)) ≤ 140737488355328) : Quiet Tryz.prog 26 [.sl (xs.map ePc) nl t] (packV2 (packR (xs.map (·.1)))) := by
  intro G
  refine acall_body (rs := [.tmp 2, .tmp 3]) Tryz.func26 rfl rfl Tryz.ntmps26 (by kernel_rfl) (Nat.le_of_ble_eq_true rfl) ?_
  refine aw_sr rfl ?_
  simp only [go_sem, reduceIte, Nat.reduceEqDiff, Nat.reduceAdd, Nat.reduceMul, Nat.reduceSub, Nat.reduceLeDiff, Nat.reduceLT, reduceCtorEq]
  refine aw_sr rfl ?_
  simp only [go_sem, reduceIte, Nat.reduceEqDiff, Nat.reduceAdd, Nat.reduceMul, Nat.reduceSub, Nat.reduceLeDiff, Nat.reduceLT, reduceCtorEq]
  refine aw_seq fun K hK => ?_
  refine aw_sr rfl ?_
  simp only [go_sem, reduceIte, Nat.reduceEqDiff, Nat.reduceAdd, Nat.reduceMul, Nat.reduceSub, Nat.reduceLeDiff, Nat.reduceLT, reduceCtorEq]
  refine aw_range xs.length (S := List UInt8) (fun i s => [(7, .sl (xs.map ePc) nl t), (4, .str s), (3, .int .i64 0)]) (fun i s => G) (fun i s => (packR ((xs.map (·.1)).drop i)).map (s ++ ·) = packR (xs.map (·.1)) ∧ s.length + sumL ((xs.map (·.1)).drop i) = sumL (xs.map (·.1))) [] (by omega) ?_ (fun _ _ h => h) ⟨by simp, by simp⟩ rfl (fun _ _ => rfl) ?_ ?_ (by decide)
  · simp only [go_sem, reduceIte, Nat.reduceEqDiff, Nat.reduceAdd, Nat.reduceMul, Nat.reduceSub, Nat.reduceLeDiff, Nat.reduceLT, reduceCtorEq, Int.natCast_zero]
  · rintro i out hi ⟨i1, i3⟩
    have hi' : i < (xs.map (·.1)).length := by simpa using hi
    have hd : (xs.map (·.1)).drop i = xs[i].1 :: (xs.map (·.1)).drop (i + 1) := by rw [List.drop_eq_getElem_cons hi', List.getElem_map]
    rw [hd] at i1 i3
    have hsum : sumL (xs[i].1 :: (xs.map (·.1)).drop (i + 1)) = xs[i].1.length + 2 + sumL ((xs.map (·.1)).drop (i + 1)) := by simp [sumL]
    rw [hsum] at i3
    refine aw_sr rfl ?_
    simp only [go_sem, reduceIte, Nat.reduceEqDiff, Nat.reduceAdd, Nat.reduceMul, Nat.reduceSub, Nat.reduceLeDiff, Nat.reduceLT, reduceCtorEq, getD_map hi, ePc]
    refine ⟨⟨by omega, by omega, wid_map (g := ePc) (fun _ => rfl) _⟩, ?_⟩
    refine aw_seq fun K2 hK2 => ?_
    refine aw_sr rfl ?_
    simp only [go_sem, reduceIte, Nat.reduceEqDiff, Nat.reduceAdd, Nat.reduceMul, Nat.reduceSub, Nat.reduceLeDiff, Nat.reduceLT, reduceCtorEq]
    refine aw_if rfl (fun h => ?_) (fun h => ?_)
    · have hc : 65535 < xs[i].1.length := by
        have : (65536 : Int) ≤ (xs[i].1.length : Int) := by simpa using h
        omega
      refine aw_sr rfl ?_
      simp only [go_sem, reduceIte, Nat.reduceEqDiff, Nat.reduceAdd, Nat.reduceMul, Nat.reduceSub, Nat.reduceLeDiff, Nat.reduceLT, reduceCtorEq]
      refine aw_ret ⟨trivial, _, rfl, ?_, rfl⟩
      rw [← i1, packR, if_pos hc]
      rfl
    · have hc : ¬ 65535 < xs[i].1.length := by
        have : (xs[i].1.length : Int) < 65536 := by simpa using h
        omega
      refine aw_skip (hK2 _ _ ?_)
      refine aw_rg rfl ?_
      simp only [go_sem, reduceIte, Nat.reduceEqDiff, Nat.reduceAdd, Nat.reduceMul, Nat.reduceSub, Nat.reduceLeDiff, Nat.reduceLT, reduceCtorEq]
      refine ⟨by decide, by decide, by omega, by omega, ?_⟩
      have hq : IntKind.i64.wrap ((xs[i].1.length : Int).tdiv 256) = (xs[i].1.length : Int) / 256 := by rw [Int.tdiv_eq_ediv_of_nonneg (by omega), wrap64 (by omega) (by omega)]
      have hm : u8 ((xs[i].1.length : Int).tmod 256) = u8 (xs[i].1.length : Int) := by rw [Int.tmod_eq_emod_of_nonneg (by omega), u8_mod]
      refine ⟨out ++ u8 ((xs[i].1.length : Int) / 256) :: u8 xs[i].1.length :: xs[i].1, ⟨?_, ?_⟩, ?_, fun _ _ h => h⟩
      · rw [← i1, packR, if_neg hc]
        cases packR ((xs.map (·.1)).drop (i + 1)) with
        | none => rfl
        | some r => simp
      · simp only [List.length_append, List.length_cons, List.length_nil]; omega
      · simp only [go_sem, reduceIte, Nat.reduceEqDiff, Nat.reduceAdd, Nat.reduceMul, Nat.reduceSub, Nat.reduceLeDiff, Nat.reduceLT, reduceCtorEq, hq, hm]
  · rintro out ⟨i1, i3⟩
    refine hK _ _ ?_
    have h0 : sumL ([] : List (List UInt8)) = 0 := rfl
    have hd : (xs.map (·.1)).drop xs.length = [] := by rw [List.drop_eq_nil_iff]; simp
    rw [hd] at i1 i3
    rw [h0] at i3
    refine aw_sr rfl ?_
    simp only [go_sem, reduceIte, Nat.reduceEqDiff, Nat.reduceAdd, Nat.reduceMul, Nat.reduceSub, Nat.reduceLeDiff, Nat.reduceLT, reduceCtorEq]
    refine aw_ret ⟨trivial, _, rfl, ?_, rfl⟩
    rw [← i1]
    simp only [packR, Option.map_some, List.append_nil]
    rfl
end Go.Proofs.YtlgfffngojlffaaGreat

/- Snapshots as bytes: parts, eight bytes, letters: the program's. No conditions but sizes. -/
set_option linter.unusedSimpArgs false
set_option linter.unusedVariables false
namespace Go.Proofs.YtlgfffngojlffaaGreat
open Go.Proofs.YtlgfffngojlffaaGreatV
set_option maxHeartbeats 400000
set_option maxRecDepth 100000
/-- The lowest bytes of a number, the highest one first. -/
def beB : Nat → Int → List UInt8
  | 0, _ => []
  | k + 1, n => beB k (n / 256) ++ [u8 n]
theorem beB_len : ∀ (k : Nat) (n : Int), (beB k n).length = k
  | 0, _ => rfl
  | k + 1, n => by rw [beB, List.length_append, beB_len k]; rfl
theorem a_eight (n : Int) (hn : 0 ≤ n) (G : Heap) : ACall Tryz.prog 42 [.int .i64 n] (fun y G' => ∃ t, y = .sl (bytesV (beB 8 n)) false t ∧ Rm G G' 1 t ∧ Sub G G') G := by
  refine acall_body (rs := [.tmp 2]) Tryz.func42 rfl rfl Tryz.ntmps42 (by kernel_rfl) (Nat.le_of_ble_eq_true rfl) ?_
  refine aw_sr rfl ?_  -- r0 @store.go:78
  simp only [go_sem, reduceIte, Nat.reduceEqDiff, Nat.reduceAdd, Nat.reduceMul, Nat.reduceSub, Nat.reduceLeDiff, Nat.reduceLT, reduceCtorEq]
  refine aw_sr rfl ?_  -- r1 @store.go:79
  simp only [go_sem, reduceIte, Nat.reduceEqDiff, Nat.reduceAdd, Nat.reduceMul, Nat.reduceSub, Nat.reduceLeDiff, Nat.reduceLT, reduceCtorEq]
  refine aw_seq fun K10 hK10 => ?_
  refine aw_sr rfl ?_  -- r2 @store.go:80
  simp only [go_sem, reduceIte, Nat.reduceEqDiff, Nat.reduceAdd, Nat.reduceMul, Nat.reduceSub, Nat.reduceLeDiff, Nat.reduceLT, reduceCtorEq]
  refine aw_block ?_  -- 0
  refine aw_lph (S := {s : Nat × Tag × Heap // s.1 ≤ 8 ∧ Rm G s.2.2 1 s.2.1 ∧ Sub G s.2.2}) (fun s => [(0, .int .i64 n), (3, .sl (bytesV (beB s.1.1 (n / 256 ^ (8 - s.1.1)))) (decide (s.1.1 = 0)) s.1.2.1), (4, .int .i64 (56 - 8 * (s.1.1 : Int)))]) (fun s => s.1.2.2) (fun s => 8 - s.1.1) ⟨(0, .full, G), by omega, Rm.start _ _ _, sub_rfl⟩ ?_ (fun _ _ h => h) ?_
  · simp only [go_sem, reduceIte, Nat.reduceEqDiff, Nat.reduceAdd, Nat.reduceMul, Nat.reduceSub, Nat.reduceLeDiff, Nat.reduceLT, reduceCtorEq]
    exact ⟨rfl, rfl⟩
  intro ⟨⟨k, t, H⟩, hk, hr, hs⟩
  simp only at hk hr hs ⊢
  refine aw_seq fun K11 hK11 => ?_
  refine aw_sr rfl ?_  -- r3 @store.go:80
  simp only [go_sem, reduceIte, Nat.reduceEqDiff, Nat.reduceAdd, Nat.reduceMul, Nat.reduceSub, Nat.reduceLeDiff, Nat.reduceLT, reduceCtorEq]
  refine aw_if rfl (fun h => ?_) (fun h => ?_)
  · have hk8 : k < 8 := by rw [decide_eq_true_eq] at h; omega
    have hsh : n.fdiv (2 ^ (Nat.min (56 - 8 * (k : Int)).toNat 64)) = n / 256 ^ (7 - k) := by
      have hb : IntKind.i64.bits = 64 := rfl
      have e1 : (56 - 8 * (k : Int)).toNat = 8 * (7 - k) := by omega
      rw [e1, show Nat.min (8 * (7 - k)) 64 = 8 * (7 - k) from Nat.min_eq_left (by omega), Int.pow_mul, Int.fdiv_eq_ediv_of_nonneg _ (by exact Int.pow_nonneg (by decide))]
      rfl
    have hdiv : n / 256 ^ (8 - k) = n / 256 ^ (7 - k) / 256 := by
      rw [Int.ediv_ediv_of_nonneg (Int.pow_nonneg (by decide)), ← Int.pow_succ]
      show _ = n / 256 ^ (7 - k + 1)
      rw [show 7 - k + 1 = 8 - k by omega]
    refine aw_skip (hK11 _ _ ?_)
    refine aw_seq fun K12 hK12 => ?_
    refine aw_block ?_  -- 1
    refine aw_rg rfl ?_  -- r5 @store.go:81
    simp only [go_sem, reduceIte, Nat.reduceEqDiff, Nat.reduceAdd, Nat.reduceMul, Nat.reduceSub, Nat.reduceLeDiff, Nat.reduceLT, reduceCtorEq, hsh]
    refine ⟨by omega, ?_⟩
    refine goP_rm hr hs ?_ fun t1 H1 hr1 hs1 hg1 => ?_
    · have := beB_len k (n / 256 ^ (8 - k))
      exact ⟨rfl, rfl, by decide, wid_bytes _, wid_one rfl, sca_one rfl, by simp; omega, by simp; omega⟩
    simp only [go_sem, reduceIte, Nat.reduceEqDiff, Nat.reduceAdd, Nat.reduceMul, Nat.reduceSub, Nat.reduceLeDiff, Nat.reduceLT, reduceCtorEq]
    refine hK12 _ _ ?_
    refine aw_rg rfl ?_  -- r4 @store.go:80
    simp only [go_sem, reduceIte, Nat.reduceEqDiff, Nat.reduceAdd, Nat.reduceMul, Nat.reduceSub, Nat.reduceLeDiff, Nat.reduceLT, reduceCtorEq]
    refine ⟨⟨(k + 1, t1, H1), by omega, hr1, hs1⟩, by show 8 - (k + 1) < 8 - k; omega, ⟨rfl, ?_, ?_⟩, sub_rfl⟩
    · show some _ = some (V.sl (bytesV (beB (k + 1) (n / 256 ^ (8 - (k + 1))))) (decide (k + 1 = 0)) t1)
      rw [show 8 - (k + 1) = 7 - k by omega, beB, ← hdiv, ← app_bytesV, ← one_u8]
      simp
    · show some (V.int .i64 (IntKind.i64.wrap (56 - 8 * (k : Int) - 8))) = some (V.int .i64 (56 - 8 * ((k + 1 : Nat) : Int)))
      rw [wrap64 (by omega) (by omega)]; congr 2; omega
  · have hk8 : k = 8 := by rw [decide_eq_false_iff_not] at h; omega
    subst hk8
    refine aw_exit ?_  -- 0
    refine hK10 _ _ ?_
    refine aw_sr rfl ?_  -- r6 @store.go:83
    simp only [go_sem, reduceIte, Nat.reduceEqDiff, Nat.reduceAdd, Nat.reduceMul, Nat.reduceSub, Nat.reduceLeDiff, Nat.reduceLT, reduceCtorEq]
    refine aw_ret ⟨trivial, _, rfl, t, ?_, hr, hs⟩
    simp [oneOf]
/-- A part: how long it is, and it. -/
def partB (b : List UInt8) : List UInt8 := [u8 ((b.length : Int) / 16777216), u8 ((b.length : Int) / 65536), u8 ((b.length : Int) / 256), u8 (b.length : Int)] ++ b
theorem cons_bytesV (a : Int) (l : List UInt8) : [V.int .u8 (IntKind.u8.wrap a)] :: bytesV l = bytesV (u8 a :: l) := by simp only [bytesV, List.map_cons, u8_cast]
theorem q_part (b : List UInt8) (nl : Bool) (t : Tag) (hb : b.length ≤ 1099511627776) : Quiet Tryz.prog 22 [.sl (bytesV b) nl t] (.sl (bytesV (partB b)) false .no) := by
  have h64 : IntKind.i64.bits = 64 := rfl
  have e1 : ((b.length : Nat) : Int).fdiv (2 ^ (Nat.min (Int.toNat 24) 64)) = (b.length : Int) / 16777216 := by rw [Int.fdiv_eq_ediv_of_nonneg _ (by decide)]; rfl
  have e2 : ((b.length : Nat) : Int).fdiv (2 ^ (Nat.min (Int.toNat 16) 64)) = (b.length : Int) / 65536 := by rw [Int.fdiv_eq_ediv_of_nonneg _ (by decide)]; rfl
  have e3 : ((b.length : Nat) : Int).fdiv (2 ^ (Nat.min (Int.toNat 8) 64)) = (b.length : Int) / 256 := by rw [Int.fdiv_eq_ediv_of_nonneg _ (by decide)]; rfl
  refine Quiet.weak fun G => ?_
  refine acall_body (rs := [.tmp 2]) Tryz.func22 rfl rfl Tryz.ntmps22 (by kernel_rfl) (Nat.le_of_ble_eq_true rfl) ?_
  refine aw_sr rfl ?_  -- r0 @store.go:104
  simp only [go_sem, reduceIte, Nat.reduceEqDiff, Nat.reduceAdd, Nat.reduceMul, Nat.reduceSub, Nat.reduceLeDiff, Nat.reduceLT, reduceCtorEq]
  refine aw_sr rfl ?_  -- r1 @store.go:105
  simp only [go_sem, reduceIte, Nat.reduceEqDiff, Nat.reduceAdd, Nat.reduceMul, Nat.reduceSub, Nat.reduceLeDiff, Nat.reduceLT, reduceCtorEq]
  refine aw_sr rfl ?_  -- r2 @store.go:106
  simp only [go_sem, reduceIte, Nat.reduceEqDiff, Nat.reduceAdd, Nat.reduceMul, Nat.reduceSub, Nat.reduceLeDiff, Nat.reduceLT, reduceCtorEq, e1, e2, e3, cons_bytesV]
  refine ⟨by decide, by decide, by decide, ?_⟩
  refine goP_rm (G := G) (Rm.start _ _ _) sub_rfl ?_ fun t1 H1 hr1 hs1 hg1 => ?_
  · exact ⟨rfl, rfl, by decide, wid_bytes _, wid_bytes _, sca_bytes _, by simp; omega, by simp; omega⟩
  simp only [go_sem, reduceIte, Nat.reduceEqDiff, Nat.reduceAdd, Nat.reduceMul, Nat.reduceSub, Nat.reduceLeDiff, Nat.reduceLT, reduceCtorEq]
  refine aw_ret ⟨trivial, _, rfl, ?_, hs1⟩
  exact Vle.untag
end Go.Proofs.YtlgfffngojlffaaGreat

/- Snapshots as bytes: the program's. No conditions but sizes. -/
set_option linter.unusedSimpArgs false
set_option linter.unusedVariables false
namespace Go.Proofs.YtlgfffngojlffaaGreat
open Go.Proofs.YtlgfffngojlffaaGreatV
set_option maxHeartbeats 400000
set_option maxRecDepth 100000
/-- A letter too long for a piece. -/
def bigL (l : Lt) : Bool := decide (65535 < (encL l).length)
def pk (l : Lt) : List UInt8 := u8 (((encL l).length : Int) / 256) :: u8 ((encL l).length : Int) :: encL l
def wayB (w : Wyt) : List UInt8 := u8 w.1 :: u8 w.2.1 :: w.2.2.1.flatMap pk
def wayR (w : Wyt) : (List UInt8 × Bool) × Int := if w.2.2.1.any bigL = true then (([], true), 2) else ((wayB w, false), 0)
/-- A snapshot as bytes. -/
def snapB (x : Snp) : List UInt8 := (beB 8 x.1 ++ [u8 (x.2.1.1.length : Int), u8 (x.2.2.1.length : Int)]) ++ (x.2.1.1.flatMap (fun p => partB (encP p)) ++ x.2.2.1.flatMap (fun w => partB (wayB w)))
def bigW (w : Wyt) : Bool := w.2.2.1.any bigL
def snapR (x : Snp) : (List UInt8 × Bool) × Int := if checkN x ≠ 0 then (([], true), checkN x) else if x.2.2.1.any bigW = true then (([], true), 2) else ((snapB x, false), 0)
theorem scan_zero {A : Type} {g : Option A → A → Int} : ∀ {l : List A} {p : Option A}, scanF g p l = 0 → ∀ x ∈ l, ∃ q, g q x = 0
  | y :: l, p, h, x, hx => by
    rw [scanF] at h
    by_cases e : g p y = 0
    · rw [if_pos e] at h
      rcases List.mem_cons.1 hx with rfl | hx
      · exact ⟨p, e⟩
      · exact scan_zero h x hx
    · rw [if_neg e] at h; exact absurd h e
theorem wyF_good {p : Option Wyt} {w : Wyt} (h : wyF p w = 0) : ((1 ≤ w.1 ∧ w.1 ≤ 8) ∧ 1 ≤ w.2.1 ∧ w.2.1 ≤ 8) ∧ w.2.2.1.length ≤ 100 ∧ ∀ l ∈ w.2.2.1, checkL l = 0 := by
  unfold wyF at h
  split at h
  · cases h
  · split at h
    · cases h
    · split at h
      · cases h
      · exact ⟨by omega, by omega, firstF_zero.1 h⟩
theorem checkN_good {x : Snp} (h : checkN x = 0) : (x.2.1.1.length ≤ 100 ∧ x.2.2.1.length ≤ 60) ∧ 0 ≤ x.1 ∧ (∀ p ∈ x.2.1.1, checkP p = 0) ∧ ∀ w ∈ x.2.2.1, w.2.2.1.length ≤ 100 ∧ ∀ l ∈ w.2.2.1, checkL l = 0 := by
  unfold checkN at h
  split at h
  · cases h
  · split at h
    · cases h
    · split at h
      · rename_i h3; exact absurd h h3
      · rename_i h1 h2 h3
        refine ⟨by omega, by omega, fun p hp => ?_, fun w hw => ?_⟩
        · obtain ⟨q, hq⟩ := scan_zero (Decidable.not_not.1 h3) p hp
          unfold pclF at hq
          split at hq
          · rename_i h5; exact absurd hq h5
          · rename_i h5; exact Decidable.not_not.1 h5
        · obtain ⟨q, hq⟩ := scan_zero h w hw
          exact (wyF_good hq).2
theorem pk_len {l : Lt} (h : bigL l = false) : (pk l).length ≤ 65537 := by
  simp only [bigL, decide_eq_false_iff_not] at h
  simp only [pk, List.length_cons]; omega
theorem pack_one (l : Lt) : packR [encL l] = if bigL l = true then none else some (pk l) := by
  simp only [packR, bigL, pk, decide_eq_true_eq]
  split
  · rfl
  · simp
theorem any_takeF {A : Type} {q : A → Bool} {xs : List A} (h : xs.any q = false) {x : A} (hx : x ∈ xs) : q x = false := by
  have := List.any_eq_false.1 h x hx; simpa using this
theorem q_letters (w : Wyt) (ho : OkWyt w) (hl : w.2.2.1.length ≤ 100) (hc : ∀ l ∈ w.2.2.1, checkL l = 0) : Quiet Tryz.prog 44 [.agg (cWyt w)] (pairB (wayR w)) := by
  obtain ⟨o1, o2, o3, o4⟩ := ho
  refine Quiet.weak fun G => ?_
  refine acall_body (rs := [.tmp 2, .tmp 3]) Tryz.func44 rfl rfl Tryz.ntmps44 (by kernel_rfl) (Nat.le_of_ble_eq_true rfl) ?_
  refine aw_sr rfl ?_  -- r0 @store.go:87
  simp only [go_sem, reduceIte, Nat.reduceEqDiff, Nat.reduceAdd, Nat.reduceMul, Nat.reduceSub, Nat.reduceLeDiff, Nat.reduceLT, reduceCtorEq]
  intro b1 hb1
  refine aw_box1 hb1 fun B1 hs1 h1 => ?_
  have hsB := hs1
  refine aw_sr rfl ?_  -- r1 @store.go:88
  simp only [go_sem, reduceIte, Nat.reduceEqDiff, Nat.reduceAdd, Nat.reduceMul, Nat.reduceSub, Nat.reduceLeDiff, Nat.reduceLT, reduceCtorEq, h1]
  refine aw_seq fun K13 hK13 => ?_
  refine aw_sr rfl ?_  -- r2 @store.go:89
  simp only [go_sem, reduceIte, Nat.reduceEqDiff, Nat.reduceAdd, Nat.reduceMul, Nat.reduceSub, Nat.reduceLeDiff, Nat.reduceLT, reduceCtorEq, h1]
  refine aw_range w.2.2.1.length (S := Tag × Heap) (fun i s => [(4, .sl (bytesV (u8 w.1 :: u8 w.2.1 :: (w.2.2.1.take i).flatMap pk)) false s.1), (18, .sl (w.2.2.1.map eLt) w.2.2.2 .no)]) (fun _ s => s.2) (fun i s => (w.2.2.1.take i).any bigL = false ∧ Rm G s.2 1 s.1 ∧ Sub G s.2) (.full, B1) (by omega) ?_ (fun _ _ h => h) ⟨rfl, Rm.start _ _ _, hsB⟩ rfl (fun _ _ => rfl) ?_ ?_ (by decide)
  · simp only [go_sem, reduceIte, Nat.reduceEqDiff, Nat.reduceAdd, Nat.reduceMul, Nat.reduceSub, Nat.reduceLeDiff, Nat.reduceLT, reduceCtorEq, Int.natCast_zero, List.take_zero, List.flatMap_nil]
  · intro i ⟨t, H⟩ hi ⟨he, hr, hs⟩
    simp only at hr hs ⊢
    have hm := List.getElem_mem hi
    have hol := o4 _ hm
    have hcl := hc _ hm
    have hbl : ((w.2.2.1.take i).flatMap pk).length ≤ 6553700 := by
      have h1 := flatM_len (g := pk) (xs := w.2.2.1.take i) (m := 65537) (fun l hl => pk_len (any_takeF he hl))
      have h2 : (w.2.2.1.take i).length ≤ 100 := by rw [List.length_take]; omega
      have h3 : (w.2.2.1.take i).length * 65537 ≤ 100 * 65537 := Nat.mul_le_mul_right _ h2
      omega
    have htk : (w.2.2.1.take (i + 1)).flatMap pk = (w.2.2.1.take i).flatMap pk ++ pk w.2.2.1[i] := by
      rw [List.take_succ_eq_append_getElem hi, List.flatMap_append]; simp
    have hat := any_at (q := bigL) hi
    have hat2 := any_take (q := bigL) he hi
    refine aw_sr rfl ?_  -- r4 @store.go:89
    simp only [go_sem, reduceIte, Nat.reduceEqDiff, Nat.reduceAdd, Nat.reduceMul, Nat.reduceSub, Nat.reduceLeDiff, Nat.reduceLT, reduceCtorEq, getD_map hi, eLt]
    refine ⟨⟨by omega, by omega, wid_eLt _⟩, ?_⟩
    generalize w.2.2.1[i] = l at hol hcl htk hat hat2 ⊢
    have hel := encL_len hol hcl
    intro b6 hb6
    refine aw_box1 hb6 fun B2 hs2 h6 => ?_
    have hsC := sub_trans hs hs2
    replace hr := hr.sub hs2
    refine aw_sr rfl ?_  -- r5 @store.go:90
    simp only [go_sem, reduceIte, Nat.reduceEqDiff, Nat.reduceAdd, Nat.reduceMul, Nat.reduceSub, Nat.reduceLeDiff, Nat.reduceLT, reduceCtorEq, h6]
    refine goA_q (q_Letter l hol) ?_
    rw [letterF, if_neg (by rw [hcl]; simp)]
    simp only [go_sem, reduceIte, Nat.reduceEqDiff, Nat.reduceAdd, Nat.reduceMul, Nat.reduceSub, Nat.reduceLeDiff, Nat.reduceLT, reduceCtorEq]
    refine aw_seq fun K14 hK14 => ?_
    refine aw_sr rfl ?_  -- r6 @store.go:91
    simp only [go_sem, reduceIte, Nat.reduceEqDiff, Nat.reduceAdd, Nat.reduceMul, Nat.reduceSub, Nat.reduceLeDiff, Nat.reduceLT, reduceCtorEq]
    refine aw_if rfl (fun h => by simp at h) (fun h => ?_)
    refine aw_skip (hK14 _ _ ?_)
    refine aw_sr rfl ?_  -- r8 @store.go:94
    simp only [go_sem, reduceIte, Nat.reduceEqDiff, Nat.reduceAdd, Nat.reduceMul, Nat.reduceSub, Nat.reduceLeDiff, Nat.reduceLT, reduceCtorEq]
    refine goA_q (q_Pack [(encL l, false)] false .full (by show 1 ≤ 1048576; omega) (by simp [sumL]; omega)) ?_
    rw [show packV ([(encL l, false)] : List (List UInt8 × Bool)).isEmpty (packR (([(encL l, false)] : List (List UInt8 × Bool)).map (·.1))) = packV false (packR [encL l]) from rfl, pack_one]
    cases hbg : bigL l with
    | true =>
      simp only [go_sem, reduceIte, Nat.reduceEqDiff, Nat.reduceAdd, Nat.reduceMul, Nat.reduceSub, Nat.reduceLeDiff, Nat.reduceLT, reduceCtorEq, if_true, packV]
      refine aw_seq fun K15 hK15 => ?_
      refine aw_sr rfl ?_  -- r9
      simp only [go_sem, reduceIte, Nat.reduceEqDiff, Nat.reduceAdd, Nat.reduceMul, Nat.reduceSub, Nat.reduceLeDiff, Nat.reduceLT, reduceCtorEq]
      refine aw_if rfl (fun h => ?_) (fun h => by simp at h)
      refine aw_sr rfl ?_  -- r10
      simp only [go_sem, reduceIte, Nat.reduceEqDiff, Nat.reduceAdd, Nat.reduceMul, Nat.reduceSub, Nat.reduceLeDiff, Nat.reduceLT, reduceCtorEq]
      refine aw_ret ⟨trivial, _, rfl, ?_, hsC⟩
      rw [wayR, if_pos (hat hbg)]
      exact Vle.tupL (.cons Vle.untag (.cons (Vle.refl _) .nil))
    | false =>
      have hpl := pk_len hbg
      simp only [go_sem, reduceIte, Nat.reduceEqDiff, Nat.reduceAdd, Nat.reduceMul, Nat.reduceSub, Nat.reduceLeDiff, Nat.reduceLT, reduceCtorEq, packV]
      refine aw_seq fun K15 hK15 => ?_
      refine aw_sr rfl ?_  -- r9
      simp only [go_sem, reduceIte, Nat.reduceEqDiff, Nat.reduceAdd, Nat.reduceMul, Nat.reduceSub, Nat.reduceLeDiff, Nat.reduceLT, reduceCtorEq]
      refine aw_if rfl (fun h => by simp at h) (fun h => ?_)
      refine aw_skip (hK15 _ _ ?_)
      refine aw_rg rfl ?_  -- r11
      simp only [go_sem, reduceIte, Nat.reduceEqDiff, Nat.reduceAdd, Nat.reduceMul, Nat.reduceSub, Nat.reduceLeDiff, Nat.reduceLT, reduceCtorEq]
      refine goP_rm hr hsC ?_ fun t1 H1 hr1 hs1 hg1 => ?_
      · exact ⟨rfl, rfl, by decide, wid_bytes _, wid_bytes _, sca_bytes _, by simp only [length_bytesV, List.length_cons]; omega, by simp only [length_bytesV, List.length_cons]; omega⟩
      simp only [go_sem, reduceIte, Nat.reduceEqDiff, Nat.reduceAdd, Nat.reduceMul, Nat.reduceSub, Nat.reduceLeDiff, Nat.reduceLT, reduceCtorEq]
      refine ⟨(t1, H1), ⟨hat2 hbg, hr1, hs1⟩, ⟨rfl, rfl, ?_, rfl⟩, sub_rfl⟩
      show some _ = some _
      rw [htk]
      try rfl
  intro ⟨t, H⟩ ⟨he, hr, hs⟩
  simp only at hr hs ⊢
  rw [List.take_length] at he ⊢
  refine hK13 _ _ ?_
  refine aw_sr rfl ?_  -- r13
  simp only [go_sem, reduceIte, Nat.reduceEqDiff, Nat.reduceAdd, Nat.reduceMul, Nat.reduceSub, Nat.reduceLeDiff, Nat.reduceLT, reduceCtorEq]
  refine aw_ret ⟨trivial, _, rfl, ?_, hs⟩
  rw [wayR, if_neg (by rw [he]; decide)]
  exact Vle.tupL (.cons Vle.untag (.cons (Vle.refl _) .nil))
end Go.Proofs.YtlgfffngojlffaaGreat

/- Snapshots as bytes: the program's. No conditions but sizes. -/
set_option linter.unusedSimpArgs false
set_option linter.unusedVariables false
namespace Go.Proofs.YtlgfffngojlffaaGreat
open Go.Proofs.YtlgfffngojlffaaGreatV
set_option maxHeartbeats 400000
set_option maxRecDepth 100000
theorem partB_len (b : List UInt8) : (partB b).length = b.length + 4 := by simp [partB]
def pparts (l : List Pcl) : List UInt8 := l.flatMap (fun p => partB (encP p))
def wparts (l : List Wyt) : List UInt8 := l.flatMap (fun w => partB (wayB w))
theorem pparts_succ {l : List Pcl} {i : Nat} (h : i < l.length) : pparts (l.take (i + 1)) = pparts (l.take i) ++ partB (encP l[i]) := by
  rw [pparts, List.take_succ_eq_append_getElem h, List.flatMap_append]; simp [pparts]
theorem wparts_succ {l : List Wyt} {i : Nat} (h : i < l.length) : wparts (l.take (i + 1)) = wparts (l.take i) ++ partB (wayB l[i]) := by
  rw [wparts, List.take_succ_eq_append_getElem h, List.flatMap_append]; simp [wparts]
theorem pparts_len {l : List Pcl} (ho : ∀ p ∈ l, OkPcl p) (hc : ∀ p ∈ l, checkP p = 0) (hl : l.length ≤ 100) : (pparts l).length ≤ 520000000400 := by
  have h1 := flatM_len (g := fun p => partB (encP p)) (xs := l) (m := 5200000004) (fun p hp => by rw [partB_len]; have := encP_len (ho p hp) (hc p hp); omega)
  have h2 : l.length * 5200000004 ≤ 100 * 5200000004 := Nat.mul_le_mul_right _ hl
  exact Nat.le_trans h1 (by omega)
theorem wayB_len {w : Wyt} (hl : w.2.2.1.length ≤ 100) (hb : w.2.2.1.any bigL = false) : (wayB w).length ≤ 6553702 := by
  have h1 := flatM_len (g := pk) (xs := w.2.2.1) (m := 65537) (fun l hl => pk_len (any_takeF hb hl))
  have h3 : w.2.2.1.length * 65537 ≤ 100 * 65537 := Nat.mul_le_mul_right _ hl
  simp only [wayB, List.length_cons]; omega
theorem wparts_len {l : List Wyt} (hl : l.length ≤ 60) (hw : ∀ w ∈ l, w.2.2.1.length ≤ 100) (hb : l.any bigW = false) : (wparts l).length ≤ 393222360 := by
  have h1 := flatM_len (g := fun w => partB (wayB w)) (xs := l) (m := 6553706) (fun w hp => by rw [partB_len]; have := wayB_len (hw w hp) (any_takeF (q := bigW) hb hp); omega)
  have h2 : l.length * 6553706 ≤ 60 * 6553706 := Nat.mul_le_mul_right _ hl
  exact Nat.le_trans h1 (by omega)
theorem snapB_eq (x : Snp) : snapB x = (beB 8 x.1 ++ [u8 (x.2.1.1.length : Int), u8 (x.2.2.1.length : Int)]) ++ (pparts x.2.1.1 ++ wparts x.2.2.1) := rfl
theorem q_SBytes (x : Snp) (ho : OkSnp x) : Quiet Tryz.prog 20 [.agg (cSnp x)] (pairB (snapR x)) := by
  have hq := q_SCheck x ho
  obtain ⟨o1, o2, o3, o4, o5⟩ := ho
  refine Quiet.weak fun G => ?_
  refine acall_body (rs := [.tmp 2, .tmp 3]) Tryz.func20 rfl rfl Tryz.ntmps20 (by kernel_rfl) (Nat.le_of_ble_eq_true rfl) ?_
  refine aw_sr rfl ?_  -- r0 @store.go:110
  simp only [go_sem, reduceIte, Nat.reduceEqDiff, Nat.reduceAdd, Nat.reduceMul, Nat.reduceSub, Nat.reduceLeDiff, Nat.reduceLT, reduceCtorEq]
  intro b1 hb1
  refine aw_box1 hb1 fun B1 hs1 h1 => ?_
  have hsB := hs1
  refine aw_seq fun K16 hK16 => ?_
  refine aw_sr rfl ?_  -- r1 @store.go:111
  simp only [go_sem, reduceIte, Nat.reduceEqDiff, Nat.reduceAdd, Nat.reduceMul, Nat.reduceSub, Nat.reduceLeDiff, Nat.reduceLT, reduceCtorEq, h1]
  refine goA_q hq ?_
  simp only [go_sem, reduceIte, Nat.reduceEqDiff, Nat.reduceAdd, Nat.reduceMul, Nat.reduceSub, Nat.reduceLeDiff, Nat.reduceLT, reduceCtorEq, h1]
  refine aw_sr rfl ?_  -- r2 @store.go:111
  simp only [go_sem, reduceIte, Nat.reduceEqDiff, Nat.reduceAdd, Nat.reduceMul, Nat.reduceSub, Nat.reduceLeDiff, Nat.reduceLT, reduceCtorEq]
  refine aw_if rfl (fun h => ?_) (fun h => ?_)
  · refine aw_sr rfl ?_  -- r3 @store.go:112
    simp only [go_sem, reduceIte, Nat.reduceEqDiff, Nat.reduceAdd, Nat.reduceMul, Nat.reduceSub, Nat.reduceLeDiff, Nat.reduceLT, reduceCtorEq]
    refine aw_ret ⟨trivial, _, rfl, ?_, hsB⟩
    rw [snapR, if_pos (by simpa using h)]
    exact Vle.tupL (.cons Vle.untag (.cons (Vle.refl _) .nil))
  have hc : checkN x = 0 := by simpa using h
  obtain ⟨⟨c1, c2⟩, c3, c4, c5⟩ := checkN_good hc
  have c4' := o3
  have hR : snapR x = if x.2.2.1.any bigW = true then (([], true), 2) else ((snapB x, false), 0) := by rw [snapR, if_neg (by simpa using hc)]
  refine aw_skip (hK16 _ _ ?_)
  refine aw_mid (fun f' G' => ∃ t, FSub [(1, .ptr b1 0), (5, .sl (bytesV (beB 8 x.1 ++ [u8 (x.2.1.1.length : Int), u8 (x.2.2.1.length : Int)])) false t)] f' ∧ Rm B1 G' 1 t ∧ Sub B1 G') ?_ ?_
  · refine aw_rgt [(0,true),(1,true),(2,false),(3,true),(4,false),(5,false),(6,true),(7,true),(8,false),(9,false),(10,true),(11,true),(12,false),(13,true)]
      (.fork3 [(0,true),(1,true),(3,true),(7,true)] 2 4 8 (.fork2 [] 4 8 (.fork2 [] 5 8 (.leaf [(6,true),(8,false),(9,false),(10,true),(11,true),(12,false),(13,true)]) (.fork2 [] 5 9 (.leaf [(6,true),(9,false),(10,true),(11,true),(12,false),(13,true)]) (.leaf [(10,true),(5,false),(6,true),(11,true),(12,false),(13,true)]))) (.fork2 [] 4 9 (.fork2 [] 5 9 (.leaf [(6,true),(9,false),(10,true),(11,true),(12,false),(13,true)]) (.leaf [(10,true),(5,false),(6,true),(11,true),(12,false),(13,true)])) (.leaf [(10,true),(4,false),(5,false),(6,true),(11,true),(12,false),(13,true)]))) (.fork3 [] 2 5 8 (.fork2 [] 5 8 (.leaf [(6,true),(8,false),(9,false),(10,true),(11,true),(12,false),(13,true)]) (.fork2 [] 5 9 (.leaf [(6,true),(9,false),(10,true),(11,true),(12,false),(13,true)]) (.leaf [(10,true),(5,false),(6,true),(11,true),(12,false),(13,true)]))) (.fork2 [(6,true)] 2 8 (.leaf [(8,false),(9,false),(10,true),(11,true),(12,false),(13,true)]) (.fork2 [] 2 9 (.leaf [(9,false),(10,true),(11,true),(12,false),(13,true)]) (.leaf [(10,true),(11,true),(2,false),(12,false),(13,true)]))) (.fork3 [] 2 5 9 (.fork2 [] 5 9 (.leaf [(6,true),(9,false),(10,true),(11,true),(12,false),(13,true)]) (.leaf [(10,true),(5,false),(6,true),(11,true),(12,false),(13,true)])) (.fork2 [(6,true)] 2 9 (.leaf [(9,false),(10,true),(11,true),(12,false),(13,true)]) (.leaf [(10,true),(11,true),(2,false),(12,false),(13,true)])) (.fork2 [(10,true)] 2 5 (.leaf [(5,false),(6,true),(11,true),(12,false),(13,true)]) (.leaf [(6,true),(11,true),(2,false),(12,false),(13,true)])))) (.fork3 [] 2 4 9 (.fork2 [] 4 9 (.fork2 [] 5 9 (.leaf [(6,true),(9,false),(10,true),(11,true),(12,false),(13,true)]) (.leaf [(10,true),(5,false),(6,true),(11,true),(12,false),(13,true)])) (.leaf [(10,true),(4,false),(5,false),(6,true),(11,true),(12,false),(13,true)])) (.fork3 [] 2 5 9 (.fork2 [] 5 9 (.leaf [(6,true),(9,false),(10,true),(11,true),(12,false),(13,true)]) (.leaf [(10,true),(5,false),(6,true),(11,true),(12,false),(13,true)])) (.fork2 [(6,true)] 2 9 (.leaf [(9,false),(10,true),(11,true),(12,false),(13,true)]) (.leaf [(10,true),(11,true),(2,false),(12,false),(13,true)])) (.fork2 [(10,true)] 2 5 (.leaf [(5,false),(6,true),(11,true),(12,false),(13,true)]) (.leaf [(6,true),(11,true),(2,false),(12,false),(13,true)]))) (.fork2 [(10,true)] 2 4 (.leaf [(4,false),(5,false),(6,true),(11,true),(12,false),(13,true)]) (.fork2 [] 2 5 (.leaf [(5,false),(6,true),(11,true),(12,false),(13,true)]) (.leaf [(6,true),(11,true),(2,false),(12,false),(13,true)]))))) mixed rfl (by kernel_rfl) ?_
    simp only [go_sem, reduceIte, Nat.reduceEqDiff, Nat.reduceAdd, Nat.reduceMul, Nat.reduceSub, Nat.reduceLeDiff, Nat.reduceLT, reduceCtorEq, goTr, h1]
    repeat' first
      | (refine goA_by (a_eight x.1 c3 B1) fun y G3 hy => ?_
         obtain ⟨t0, rfl, hr0, hs0⟩ := hy
         have h13 := hs0 _ _ h1
         simp only [go_sem, reduceIte, Nat.reduceEqDiff, Nat.reduceAdd, Nat.reduceMul, Nat.reduceSub, Nat.reduceLeDiff, Nat.reduceLT, reduceCtorEq, goTr, h13])
      | (refine goP_rm hr0 hs0 ⟨rfl, rfl, by decide, wid_bytes _, wid_bytes _, sca_bytes _, by simp only [length_bytesV, beB_len, List.length_cons, List.length_nil]; omega, by simp only [length_bytesV, beB_len, List.length_cons, List.length_nil]; omega⟩ fun t1 H1 hr1 hs1 hg1 => ?_
         simp only [go_sem, reduceIte, Nat.reduceEqDiff, Nat.reduceAdd, Nat.reduceMul, Nat.reduceSub, Nat.reduceLeDiff, Nat.reduceLT, reduceCtorEq]
         exact ⟨t1, ⟨rfl, rfl⟩, hr1, hs1⟩)
      | refine And.intro ?_ ?_
  intro f' B2 ⟨t, hf, hr, hs⟩
  refine AW.of_fsub hf ?_
  have h12 := hs _ _ h1
  have hpl := pparts_len c4' c4 c1
  refine aw_seq fun K17 hK17 => ?_
  refine aw_sr rfl ?_  -- r5 @store.go:115
  simp only [go_sem, reduceIte, Nat.reduceEqDiff, Nat.reduceAdd, Nat.reduceMul, Nat.reduceSub, Nat.reduceLeDiff, Nat.reduceLT, reduceCtorEq, h12]
  refine aw_range x.2.1.1.length (S := Tag × Heap) (fun i s => [(1, .ptr b1 0), (5, .sl (bytesV ((beB 8 x.1 ++ [u8 (x.2.1.1.length : Int), u8 (x.2.2.1.length : Int)]) ++ pparts (x.2.1.1.take i))) false s.1), (33, .sl (x.2.1.1.map ePcl) x.2.1.2 .no)]) (fun _ s => s.2) (fun i s => Rm B1 s.2 1 s.1 ∧ Sub B1 s.2) (t, B2) (by omega) ?_ (fun _ _ h => h) ⟨hr, hs⟩ rfl (fun _ _ => rfl) ?_ ?_ (by decide)
  · simp only [go_sem, reduceIte, Nat.reduceEqDiff, Nat.reduceAdd, Nat.reduceMul, Nat.reduceSub, Nat.reduceLeDiff, Nat.reduceLT, reduceCtorEq, Int.natCast_zero, List.take_zero, pparts, List.flatMap_nil, List.append_nil]
  · intro i ⟨t3, H⟩ hi ⟨hr3, hs3⟩
    simp only at hr3 hs3 ⊢
    have hm := List.getElem_mem hi
    have hop := o3 _ hm
    have hcp := c4 _ hm
    have hle : (pparts (x.2.1.1.take i)).length ≤ (pparts x.2.1.1).length := flatM_take _ i
    have hsu := pparts_succ hi
    refine aw_sr rfl ?_  -- r7 @store.go:115
    simp only [go_sem, reduceIte, Nat.reduceEqDiff, Nat.reduceAdd, Nat.reduceMul, Nat.reduceSub, Nat.reduceLeDiff, Nat.reduceLT, reduceCtorEq, getD_map hi, ePcl]
    refine ⟨⟨by omega, by omega, wid_ePcl _⟩, ?_⟩
    generalize x.2.1.1[i] = p at hop hcp hsu ⊢
    have hel := encP_len hop hcp
    intro b7 hb7
    refine aw_box1 hb7 fun B4 hs4 h7 => ?_
    refine aw_sr rfl ?_  -- r8 @store.go:116
    simp only [go_sem, reduceIte, Nat.reduceEqDiff, Nat.reduceAdd, Nat.reduceMul, Nat.reduceSub, Nat.reduceLeDiff, Nat.reduceLT, reduceCtorEq, h7]
    refine goA_q (q_Parcel p hop) ?_
    rw [parcelF, if_neg (by rw [hcp]; simp)]
    simp only [go_sem, reduceIte, Nat.reduceEqDiff, Nat.reduceAdd, Nat.reduceMul, Nat.reduceSub, Nat.reduceLeDiff, Nat.reduceLT, reduceCtorEq]
    refine aw_seq fun K18 hK18 => ?_
    refine aw_sr rfl ?_  -- r9 @store.go:117
    simp only [go_sem, reduceIte, Nat.reduceEqDiff, Nat.reduceAdd, Nat.reduceMul, Nat.reduceSub, Nat.reduceLeDiff, Nat.reduceLT, reduceCtorEq]
    refine aw_if rfl (fun h => by simp at h) (fun h => ?_)
    refine aw_skip (hK18 _ _ ?_)
    refine aw_rg rfl ?_  -- r11 @store.go:120
    simp only [go_sem, reduceIte, Nat.reduceEqDiff, Nat.reduceAdd, Nat.reduceMul, Nat.reduceSub, Nat.reduceLeDiff, Nat.reduceLT, reduceCtorEq]
    refine goA_q (q_part _ _ _ (by omega)) ?_
    simp only [go_sem, reduceIte, Nat.reduceEqDiff, Nat.reduceAdd, Nat.reduceMul, Nat.reduceSub, Nat.reduceLeDiff, Nat.reduceLT, reduceCtorEq]
    have hpb := partB_len (encP p)
    refine goP_rm (hr3.sub hs4) (sub_trans hs3 hs4) ?_ fun t1 H1 hr1 hs1 hg1 => ?_
    · exact ⟨rfl, rfl, by decide, wid_bytes _, wid_bytes _, sca_bytes _, by simp only [length_bytesV, List.length_append, beB_len, List.length_cons, List.length_nil]; omega, by simp only [length_bytesV, List.length_append, beB_len, List.length_cons, List.length_nil]; omega⟩
    simp only [go_sem, reduceIte, Nat.reduceEqDiff, Nat.reduceAdd, Nat.reduceMul, Nat.reduceSub, Nat.reduceLeDiff, Nat.reduceLT, reduceCtorEq]
    refine ⟨(t1, H1), ⟨hr1, hs1⟩, ⟨rfl, rfl, rfl, ?_, rfl⟩, sub_rfl⟩
    show some _ = some _
    rw [hsu, ← List.append_assoc]
  intro ⟨t3, H⟩ ⟨hr3, hs3⟩
  simp only at hr3 hs3 ⊢
  rw [List.take_length]
  refine hK17 _ _ ?_
  refine aw_seq fun K19 hK19 => ?_
  refine aw_sr rfl ?_  -- r13 @store.go:122
  simp only [go_sem, reduceIte, Nat.reduceEqDiff, Nat.reduceAdd, Nat.reduceMul, Nat.reduceSub, Nat.reduceLeDiff, Nat.reduceLT, reduceCtorEq, hs3 _ _ h1]
  refine aw_range x.2.2.1.length (S := Tag × Heap) (fun i s => [(5, .sl (bytesV ((beB 8 x.1 ++ [u8 (x.2.1.1.length : Int), u8 (x.2.2.1.length : Int)]) ++ (pparts x.2.1.1 ++ wparts (x.2.2.1.take i)))) false s.1), (53, .sl (x.2.2.1.map eWyt) x.2.2.2 .no)]) (fun _ s => s.2) (fun i s => (x.2.2.1.take i).any bigW = false ∧ Rm B1 s.2 1 s.1 ∧ Sub B1 s.2) (t3, H) (by omega) ?_ (fun _ _ h => h) ⟨rfl, hr3, hs3⟩ rfl (fun _ _ => rfl) ?_ ?_ (by decide)
  · simp only [go_sem, reduceIte, Nat.reduceEqDiff, Nat.reduceAdd, Nat.reduceMul, Nat.reduceSub, Nat.reduceLeDiff, Nat.reduceLT, reduceCtorEq, Int.natCast_zero, List.take_zero, wparts, List.flatMap_nil, List.append_nil]
  · intro i ⟨t5, H5⟩ hi ⟨he, hr5, hs5⟩
    simp only at hr5 hs5 ⊢
    have hm := List.getElem_mem hi
    have hop := o5 _ hm
    have hcw := c5 _ hm
    have hle : (wparts (x.2.2.1.take i)).length ≤ 393222360 := wparts_len (by rw [List.length_take]; omega) (fun w hw => (c5 w (List.mem_of_mem_take hw)).1) he
    have hsu := wparts_succ hi
    have hat := any_at (q := bigW) hi
    have hat2 := any_take (q := bigW) he hi
    refine aw_sr rfl ?_  -- r15 @store.go:122
    simp only [go_sem, reduceIte, Nat.reduceEqDiff, Nat.reduceAdd, Nat.reduceMul, Nat.reduceSub, Nat.reduceLeDiff, Nat.reduceLT, reduceCtorEq, getD_map hi, eWyt]
    refine ⟨⟨by omega, by omega, wid_eWyt _⟩, ?_⟩
    generalize x.2.2.1[i] = w at hop hcw hsu hat hat2 ⊢
    intro b11 hb11
    refine aw_box1 hb11 fun B4 hs4 h11 => ?_
    refine aw_sr rfl ?_  -- r16 @store.go:123
    simp only [go_sem, reduceIte, Nat.reduceEqDiff, Nat.reduceAdd, Nat.reduceMul, Nat.reduceSub, Nat.reduceLeDiff, Nat.reduceLT, reduceCtorEq, h11]
    refine goA_q (q_letters w hop hcw.1 hcw.2) ?_
    cases hbg : bigW w with
    | true =>
      rw [wayR, if_pos (show w.2.2.1.any bigL = true from hbg)]
      simp only [go_sem, reduceIte, Nat.reduceEqDiff, Nat.reduceAdd, Nat.reduceMul, Nat.reduceSub, Nat.reduceLeDiff, Nat.reduceLT, reduceCtorEq]
      refine aw_seq fun K20 hK20 => ?_
      refine aw_sr rfl ?_  -- r17
      simp only [go_sem, reduceIte, Nat.reduceEqDiff, Nat.reduceAdd, Nat.reduceMul, Nat.reduceSub, Nat.reduceLeDiff, Nat.reduceLT, reduceCtorEq]
      refine aw_if rfl (fun h => ?_) (fun h => by simp at h)
      refine aw_sr rfl ?_  -- r18
      simp only [go_sem, reduceIte, Nat.reduceEqDiff, Nat.reduceAdd, Nat.reduceMul, Nat.reduceSub, Nat.reduceLeDiff, Nat.reduceLT, reduceCtorEq]
      refine aw_ret ⟨trivial, _, rfl, ?_, sub_trans hsB (sub_trans hs5 hs4)⟩
      rw [hR, if_pos (hat hbg)]
      exact Vle.tupL (.cons Vle.untag (.cons (Vle.refl _) .nil))
    | false =>
      have hwl := wayB_len hcw.1 hbg
      have hpb := partB_len (wayB w)
      rw [wayR, if_neg (by rw [show w.2.2.1.any bigL = false from hbg]; decide)]
      simp only [go_sem, reduceIte, Nat.reduceEqDiff, Nat.reduceAdd, Nat.reduceMul, Nat.reduceSub, Nat.reduceLeDiff, Nat.reduceLT, reduceCtorEq]
      refine aw_seq fun K20 hK20 => ?_
      refine aw_sr rfl ?_  -- r17
      simp only [go_sem, reduceIte, Nat.reduceEqDiff, Nat.reduceAdd, Nat.reduceMul, Nat.reduceSub, Nat.reduceLeDiff, Nat.reduceLT, reduceCtorEq]
      refine aw_if rfl (fun h => by simp at h) (fun h => ?_)
      refine aw_skip (hK20 _ _ ?_)
      refine aw_rg rfl ?_  -- r19
      simp only [go_sem, reduceIte, Nat.reduceEqDiff, Nat.reduceAdd, Nat.reduceMul, Nat.reduceSub, Nat.reduceLeDiff, Nat.reduceLT, reduceCtorEq]
      refine goA_q (q_part _ _ _ (by omega)) ?_
      simp only [go_sem, reduceIte, Nat.reduceEqDiff, Nat.reduceAdd, Nat.reduceMul, Nat.reduceSub, Nat.reduceLeDiff, Nat.reduceLT, reduceCtorEq]
      refine goP_rm (hr5.sub hs4) (sub_trans hs5 hs4) ?_ fun t1 H1 hr1 hs1 hg1 => ?_
      · exact ⟨rfl, rfl, by decide, wid_bytes _, wid_bytes _, sca_bytes _, by simp only [length_bytesV, List.length_append, beB_len, List.length_cons, List.length_nil]; omega, by simp only [length_bytesV, List.length_append, beB_len, List.length_cons, List.length_nil]; omega⟩
      simp only [go_sem, reduceIte, Nat.reduceEqDiff, Nat.reduceAdd, Nat.reduceMul, Nat.reduceSub, Nat.reduceLeDiff, Nat.reduceLT, reduceCtorEq]
      refine ⟨(t1, H1), ⟨hat2 hbg, hr1, hs1⟩, ⟨rfl, rfl, ?_, rfl⟩, sub_rfl⟩
      show some _ = some _
      rw [hsu]; simp only [List.append_assoc]
  intro ⟨t5, H5⟩ ⟨he, hr5, hs5⟩
  simp only at hr5 hs5 ⊢
  rw [List.take_length] at he ⊢
  have hwl := wparts_len c2 (fun w hw => (c5 w hw).1) he
  rw [← snapB_eq]
  have hsl : (snapB x).length ≤ 530000000000 := by
    rw [snapB_eq]; simp only [List.length_append, beB_len, List.length_cons, List.length_nil]; omega
  refine hK19 _ _ ?_
  refine aw_sr rfl ?_  -- r21
  simp only [go_sem, reduceIte, Nat.reduceEqDiff, Nat.reduceAdd, Nat.reduceMul, Nat.reduceSub, Nat.reduceLeDiff, Nat.reduceLT, reduceCtorEq]
  refine goA_q (q_Clone (snapB x) false t5 (by omega) (fun e => by cases e)) ?_
  simp only [go_sem, reduceIte, Nat.reduceEqDiff, Nat.reduceAdd, Nat.reduceMul, Nat.reduceSub, Nat.reduceLeDiff, Nat.reduceLT, reduceCtorEq]
  refine aw_ret ⟨trivial, _, rfl, ?_, sub_trans hsB hs5⟩
  rw [hR, if_neg (by rw [he]; decide)]
  exact Vle.refl _
end Go.Proofs.YtlgfffngojlffaaGreat

/- Snapshots as bytes: the reference's. No conditions but sizes. -/
set_option linter.unusedSimpArgs false
set_option linter.unusedVariables false
namespace Go.Proofs.YtlgfffngojlffaaGreat
open Go.Proofs.YtlgfffngojlffaaGreatV
set_option maxHeartbeats 400000
set_option maxRecDepth 100000
theorem tdiv_len (n : Nat) (k : Nat) : ((n : Nat) : Int).tdiv (k : Int) = (n : Int) / (k : Int) := Int.tdiv_eq_ediv_of_nonneg (by omega)
theorem q_long (b : List UInt8) (hb : b.length ≤ 1099511627776) : Quiet Tryz.prog 25 [.str b] (.str (partB b)) := by
  have e1 : ((b.length : Nat) : Int).tdiv 16777216 = (b.length : Int) / 16777216 := tdiv_len _ 16777216
  have e2 : ((b.length : Nat) : Int).tdiv 65536 = (b.length : Int) / 65536 := tdiv_len _ 65536
  have e3 : ((b.length : Nat) : Int).tdiv 256 = (b.length : Int) / 256 := tdiv_len _ 256
  have w1 : IntKind.i64.wrap ((b.length : Int) / 16777216) = (b.length : Int) / 16777216 := wrap64 (by omega) (by omega)
  have w2 : IntKind.i64.wrap ((b.length : Int) / 65536) = (b.length : Int) / 65536 := wrap64 (by omega) (by omega)
  have w3 : IntKind.i64.wrap ((b.length : Int) / 256) = (b.length : Int) / 256 := wrap64 (by omega) (by omega)
  refine Quiet.weak fun G => ?_
  refine acall_body (rs := [.tmp 2]) Tryz.func25 rfl rfl Tryz.ntmps25 (by kernel_rfl) (Nat.le_of_ble_eq_true rfl) ?_
  refine aw_sr rfl ?_  -- r0 @keep.go:289
  simp only [go_sem, reduceIte, Nat.reduceEqDiff, Nat.reduceAdd, Nat.reduceMul, Nat.reduceSub, Nat.reduceLeDiff, Nat.reduceLT, reduceCtorEq]
  refine aw_sr rfl ?_  -- r1 @keep.go:290
  simp only [go_sem, reduceIte, Nat.reduceEqDiff, Nat.reduceAdd, Nat.reduceMul, Nat.reduceSub, Nat.reduceLeDiff, Nat.reduceLT, reduceCtorEq]
  refine aw_sr rfl ?_  -- r2 @keep.go:291
  simp only [go_sem, reduceIte, Nat.reduceEqDiff, Nat.reduceAdd, Nat.reduceMul, Nat.reduceSub, Nat.reduceLeDiff, Nat.reduceLT, reduceCtorEq, e1, e2, e3, w1, w2, w3, cons_bytesV]
  refine ⟨by decide, by decide, by decide, by omega, ?_⟩
  refine aw_ret ⟨trivial, _, rfl, ?_, sub_rfl⟩
  exact Vle.refl _
theorem beB_front : ∀ (k : Nat) (n : Int), 0 ≤ n → beB (k + 1) n = u8 (n / 256 ^ k) :: beB k n
  | 0, n, h => by simp [beB]
  | k + 1, n, h => by
    rw [beB, beB_front k (n / 256) (by omega), beB, Int.ediv_ediv_of_nonneg (by decide), List.cons_append]
    congr 3
    rw [Int.mul_comm, ← Int.pow_succ]
theorem q_SnapBytes (x : Snp) (ho : OkSnp x) : Quiet Tryz.prog 9 [.agg (cSnp x)] (pairB (snapR x)) := by
  have hq := q_SnapFault x ho
  obtain ⟨o1, o2, o3, o4, o5⟩ := ho
  refine Quiet.weak fun G => ?_
  refine acall_body (rs := [.tmp 2, .tmp 3]) Tryz.func9 rfl rfl Tryz.ntmps9 (by kernel_rfl) (Nat.le_of_ble_eq_true rfl) ?_
  refine aw_sr rfl ?_  -- r0 @keep.go:295
  simp only [go_sem, reduceIte, Nat.reduceEqDiff, Nat.reduceAdd, Nat.reduceMul, Nat.reduceSub, Nat.reduceLeDiff, Nat.reduceLT, reduceCtorEq]
  intro b1 hb1
  refine aw_box1 hb1 fun B1 hs1 h1 => ?_
  have hsB := hs1
  refine aw_seq fun K30 hK30 => ?_
  refine aw_sr rfl ?_  -- r1 @keep.go:296
  simp only [go_sem, reduceIte, Nat.reduceEqDiff, Nat.reduceAdd, Nat.reduceMul, Nat.reduceSub, Nat.reduceLeDiff, Nat.reduceLT, reduceCtorEq, h1]
  refine goA_q hq ?_
  simp only [go_sem, reduceIte, Nat.reduceEqDiff, Nat.reduceAdd, Nat.reduceMul, Nat.reduceSub, Nat.reduceLeDiff, Nat.reduceLT, reduceCtorEq, h1]
  refine aw_sr rfl ?_  -- r2 @keep.go:296
  simp only [go_sem, reduceIte, Nat.reduceEqDiff, Nat.reduceAdd, Nat.reduceMul, Nat.reduceSub, Nat.reduceLeDiff, Nat.reduceLT, reduceCtorEq]
  refine aw_if rfl (fun h => ?_) (fun h => ?_)
  · refine aw_sr rfl ?_  -- r3 @keep.go:297
    simp only [go_sem, reduceIte, Nat.reduceEqDiff, Nat.reduceAdd, Nat.reduceMul, Nat.reduceSub, Nat.reduceLeDiff, Nat.reduceLT, reduceCtorEq]
    refine aw_ret ⟨trivial, _, rfl, ?_, hsB⟩
    rw [snapR, if_pos (by simpa using h)]
    exact Vle.tupL (.cons Vle.untag (.cons (Vle.refl _) .nil))
  have hc : checkN x = 0 := by simpa using h
  obtain ⟨⟨c1, c2⟩, c3, c4, c5⟩ := checkN_good hc
  have hpl := pparts_len o3 c4 c1
  have hR : snapR x = if x.2.2.1.any bigW = true then (([], true), 2) else ((snapB x, false), 0) := by rw [snapR, if_neg (by simpa using hc)]
  have r1 := i64_range o1
  refine aw_skip (hK30 _ _ ?_)
  refine aw_sr rfl ?_  -- r4 @keep.go:299
  simp only [go_sem, reduceIte, Nat.reduceEqDiff, Nat.reduceAdd, Nat.reduceMul, Nat.reduceSub, Nat.reduceLeDiff, Nat.reduceLT, reduceCtorEq]
  refine aw_seq fun K31 hK31 => ?_
  refine aw_srd [(0,true),(1,true),(2,true),(3,true)] mixed rfl (by kernel_rfl) ?_  -- r5 @keep.go:300
  simp only [go_sem, reduceIte, Nat.reduceEqDiff, Nat.reduceAdd, Nat.reduceMul, Nat.reduceSub, Nat.reduceLeDiff, Nat.reduceLT, reduceCtorEq, h1]
  refine aw_block ?_  -- 0
  refine aw_lph (S := {k : Nat // k ≤ 8}) (fun s => [(1, .ptr b1 0), (5, .str (beB s.1 x.1)), (6, .int .i64 ((s.1 : Nat) : Int)), (7, .int .i64 (x.1 / 256 ^ s.1))]) (fun _ => B1) (fun s => 8 - s.1) ⟨0, by omega⟩ ?_ (fun _ _ h => h) ?_
  · simp only [go_sem, reduceIte, Nat.reduceEqDiff, Nat.reduceAdd, Nat.reduceMul, Nat.reduceSub, Nat.reduceLeDiff, Nat.reduceLT, reduceCtorEq, Int.natCast_zero]
    simp [beB]
  intro ⟨k, hk⟩
  simp only at hk ⊢
  have hd0 : 0 ≤ x.1 / 256 ^ k := Int.ediv_nonneg c3 (Int.pow_nonneg (by decide))
  have hd1 : x.1 / 256 ^ k ≤ x.1 := Int.ediv_le_self _ c3
  generalize hd : x.1 / 256 ^ k = d at hd0 hd1
  refine aw_seq fun K32 hK32 => ?_
  refine aw_sr rfl ?_  -- r6 @keep.go:300
  simp only [go_sem, reduceIte, Nat.reduceEqDiff, Nat.reduceAdd, Nat.reduceMul, Nat.reduceSub, Nat.reduceLeDiff, Nat.reduceLT, reduceCtorEq]
  refine aw_if rfl (fun h => ?_) (fun h => ?_)
  · have hk8 : k < 8 := by rw [decide_eq_true_eq] at h; omega
    have em : d.tmod 256 = d % 256 := Int.tmod_eq_emod_of_nonneg hd0
    have ed : d.tdiv 256 = d / 256 := Int.tdiv_eq_ediv_of_nonneg hd0
    have ew : IntKind.i64.wrap (d % 256) = d % 256 := wrap64 (by omega) (by omega)
    have ew2 : IntKind.i64.wrap (d / 256) = d / 256 := wrap64 (by omega) (by omega)
    have hbl := beB_len k x.1
    refine aw_skip (hK32 _ _ ?_)
    refine aw_seq fun K33 hK33 => ?_
    refine aw_block ?_  -- 1
    refine aw_sr rfl ?_  -- r8 @keep.go:301
    simp only [go_sem, reduceIte, Nat.reduceEqDiff, Nat.reduceAdd, Nat.reduceMul, Nat.reduceSub, Nat.reduceLeDiff, Nat.reduceLT, reduceCtorEq, em, ew, one_u8, u8_mod]
    refine ⟨by decide, by omega, ?_⟩
    refine aw_rg rfl ?_  -- r9 @keep.go:302
    simp only [go_sem, reduceIte, Nat.reduceEqDiff, Nat.reduceAdd, Nat.reduceMul, Nat.reduceSub, Nat.reduceLeDiff, Nat.reduceLT, reduceCtorEq, ed, ew2]
    refine ⟨by decide, ?_⟩
    refine hK33 _ _ ?_
    refine aw_rg rfl ?_  -- r7 @keep.go:300
    simp only [go_sem, reduceIte, Nat.reduceEqDiff, Nat.reduceAdd, Nat.reduceMul, Nat.reduceSub, Nat.reduceLeDiff, Nat.reduceLT, reduceCtorEq]
    refine ⟨⟨k + 1, by omega⟩, by simp only; omega, ⟨rfl, ?_, ?_, ?_⟩, sub_rfl⟩
    · show some _ = some _
      rw [beB_front k x.1 c3, hd]
    · show some _ = some _
      simp only [Int.natCast_add, Int.natCast_one]
      rw [wrap64 (by omega) (by omega)]
    · show some _ = some _
      rw [← hd, Int.ediv_ediv_of_nonneg (Int.pow_nonneg (by decide)), ← Int.pow_succ]
  · have hk8 : k = 8 := by rw [decide_eq_false_iff_not] at h; omega
    subst hk8
    refine aw_exit ?_  -- 0
    refine hK31 _ _ ?_
    have hb8 := beB_len 8 x.1
    refine aw_sr rfl ?_  -- r10 @keep.go:304
    simp only [go_sem, reduceIte, Nat.reduceEqDiff, Nat.reduceAdd, Nat.reduceMul, Nat.reduceSub, Nat.reduceLeDiff, Nat.reduceLT, reduceCtorEq, h1, cons_bytesV]
    refine ⟨by omega, ?_⟩
    refine aw_seq fun K34 hK34 => ?_
    refine aw_sr rfl ?_  -- r11 @keep.go:305
    simp only [go_sem, reduceIte, Nat.reduceEqDiff, Nat.reduceAdd, Nat.reduceMul, Nat.reduceSub, Nat.reduceLeDiff, Nat.reduceLT, reduceCtorEq, h1]
    refine aw_range x.2.1.1.length (S := Unit) (fun i _ => [(1, .ptr b1 0), (8, .str ((beB 8 x.1 ++ [u8 (x.2.1.1.length : Int), u8 (x.2.2.1.length : Int)]) ++ pparts (x.2.1.1.take i))), (53, .sl (x.2.1.1.map ePcl) x.2.1.2 .no)]) (fun _ _ => B1) (fun i _ => True) () (by omega) ?_ (fun _ _ h => h) trivial rfl (fun _ _ => rfl) ?_ ?_ (by decide)
    · simp only [go_sem, reduceIte, Nat.reduceEqDiff, Nat.reduceAdd, Nat.reduceMul, Nat.reduceSub, Nat.reduceLeDiff, Nat.reduceLT, reduceCtorEq, Int.natCast_zero, List.take_zero, pparts, List.flatMap_nil, List.append_nil]
    · intro i _ hi he
      have hm := List.getElem_mem hi
      have hop := o3 _ hm
      have hcp := c4 _ hm
      have hle : (pparts (x.2.1.1.take i)).length ≤ (pparts x.2.1.1).length := flatM_take _ i
      have hsu := pparts_succ hi
      refine aw_sr rfl ?_  -- r13 @keep.go:305
      simp only [go_sem, reduceIte, Nat.reduceEqDiff, Nat.reduceAdd, Nat.reduceMul, Nat.reduceSub, Nat.reduceLeDiff, Nat.reduceLT, reduceCtorEq, getD_map hi, ePcl]
      refine ⟨⟨by omega, by omega, wid_ePcl _⟩, ?_⟩
      generalize x.2.1.1[i] = p at hop hcp hsu ⊢
      have hel := encP_len hop hcp
      intro b10 hb10
      refine aw_box1 hb10 fun B2 hs2 h10 => ?_
      refine aw_sr rfl ?_  -- r14 @keep.go:306
      simp only [go_sem, reduceIte, Nat.reduceEqDiff, Nat.reduceAdd, Nat.reduceMul, Nat.reduceSub, Nat.reduceLeDiff, Nat.reduceLT, reduceCtorEq, h10]
      refine goA_q (q_ParcelBytes p hop) ?_
      rw [parcelF, if_neg (by rw [hcp]; simp)]
      simp only [go_sem, reduceIte, Nat.reduceEqDiff, Nat.reduceAdd, Nat.reduceMul, Nat.reduceSub, Nat.reduceLeDiff, Nat.reduceLT, reduceCtorEq]
      refine aw_rg rfl ?_  -- r15 @keep.go:307
      simp only [go_sem, reduceIte, Nat.reduceEqDiff, Nat.reduceAdd, Nat.reduceMul, Nat.reduceSub, Nat.reduceLeDiff, Nat.reduceLT, reduceCtorEq]
      refine goA_q (q_long _ (by omega)) ?_
      have hpb := partB_len (encP p)
      simp only [go_sem, reduceIte, Nat.reduceEqDiff, Nat.reduceAdd, Nat.reduceMul, Nat.reduceSub, Nat.reduceLeDiff, Nat.reduceLT, reduceCtorEq]
      refine ⟨by simp only [List.length_append, List.length_cons, List.length_nil]; omega, (), ?_, hs2⟩
      simp only [go_sem, reduceIte, Nat.reduceEqDiff, Nat.reduceAdd, Nat.reduceMul, Nat.reduceSub, Nat.reduceLeDiff, Nat.reduceLT, reduceCtorEq, hsu, List.append_assoc]
    intro _ he
    rw [List.take_length]
    refine hK34 _ _ ?_
    refine aw_seq fun K35 hK35 => ?_
    refine aw_sr rfl ?_  -- r17 @keep.go:309
    simp only [go_sem, reduceIte, Nat.reduceEqDiff, Nat.reduceAdd, Nat.reduceMul, Nat.reduceSub, Nat.reduceLeDiff, Nat.reduceLT, reduceCtorEq, h1]
    refine aw_range x.2.2.1.length (S := Unit) (fun i _ => [(8, .str ((beB 8 x.1 ++ [u8 (x.2.1.1.length : Int), u8 (x.2.2.1.length : Int)]) ++ (pparts x.2.1.1 ++ wparts (x.2.2.1.take i)))), (71, .sl (x.2.2.1.map eWyt) x.2.2.2 .no)]) (fun _ _ => B1) (fun i _ => (x.2.2.1.take i).any bigW = false) () (by omega) ?_ (fun _ _ h => h) rfl rfl (fun _ _ => rfl) ?_ ?_ (by decide)
    · simp only [go_sem, reduceIte, Nat.reduceEqDiff, Nat.reduceAdd, Nat.reduceMul, Nat.reduceSub, Nat.reduceLeDiff, Nat.reduceLT, reduceCtorEq, Int.natCast_zero, List.take_zero, wparts, List.flatMap_nil, List.append_nil]
    · intro i _ hi he
      have hm := List.getElem_mem hi
      have hop := o5 _ hm
      have hcw := c5 _ hm
      have hle : (wparts (x.2.2.1.take i)).length ≤ 393222360 := wparts_len (by rw [List.length_take]; omega) (fun w hw => (c5 w (List.mem_of_mem_take hw)).1) he
      have hsu := wparts_succ hi
      have hat := any_at (q := bigW) hi
      have hat2 := any_take (q := bigW) he hi
      refine aw_sr rfl ?_  -- r19 @keep.go:309
      simp only [go_sem, reduceIte, Nat.reduceEqDiff, Nat.reduceAdd, Nat.reduceMul, Nat.reduceSub, Nat.reduceLeDiff, Nat.reduceLT, reduceCtorEq, getD_map hi, eWyt]
      refine ⟨⟨by omega, by omega, wid_eWyt _⟩, ?_⟩
      generalize x.2.2.1[i] = w at hop hcw hsu hat hat2 ⊢
      obtain ⟨p1, p2, p3, p4⟩ := hop
      intro b14 hb14
      refine aw_box1 hb14 fun B2 hs2 h14 => ?_
      refine aw_sr rfl ?_  -- r20 @keep.go:310
      simp only [go_sem, reduceIte, Nat.reduceEqDiff, Nat.reduceAdd, Nat.reduceMul, Nat.reduceSub, Nat.reduceLeDiff, Nat.reduceLT, reduceCtorEq, h14, cons_bytesV]
      refine aw_seq fun K36 hK36 => ?_
      refine aw_sr rfl ?_  -- r21 @keep.go:311
      simp only [go_sem, reduceIte, Nat.reduceEqDiff, Nat.reduceAdd, Nat.reduceMul, Nat.reduceSub, Nat.reduceLeDiff, Nat.reduceLT, reduceCtorEq, h14]
      refine aw_range w.2.2.1.length (S := Unit) (fun j _ => [(8, .str ((beB 8 x.1 ++ [u8 (x.2.1.1.length : Int), u8 (x.2.2.1.length : Int)]) ++ (pparts x.2.1.1 ++ wparts (x.2.2.1.take i)))), (15, .str (u8 w.1 :: u8 w.2.1 :: (w.2.2.1.take j).flatMap pk)), (71, .sl (x.2.2.1.map eWyt) x.2.2.2 .no), (72, .int .i64 (x.2.2.1.length : Nat)), (73, .int .i64 (i : Nat)), (86, .sl (w.2.2.1.map eLt) w.2.2.2 .no)]) (fun _ _ => B2) (fun j _ => (w.2.2.1.take j).any bigL = false) () (by omega) ?_ (fun _ _ h => h) rfl rfl (fun _ _ => rfl) ?_ ?_ (by decide)
      · simp only [go_sem, reduceIte, Nat.reduceEqDiff, Nat.reduceAdd, Nat.reduceMul, Nat.reduceSub, Nat.reduceLeDiff, Nat.reduceLT, reduceCtorEq, Int.natCast_zero, List.take_zero, List.flatMap_nil]
      · intro j _ hj he2
        have hm2 := List.getElem_mem hj
        have hol := p4 _ hm2
        have hcl := hcw.2 _ hm2
        have hbl : ((w.2.2.1.take j).flatMap pk).length ≤ 6553700 := by
          have h1 := flatM_len (g := pk) (xs := w.2.2.1.take j) (m := 65537) (fun l hl => pk_len (any_takeF he2 hl))
          have h2 : (w.2.2.1.take j).length ≤ 100 := by rw [List.length_take]; omega
          have h3 : (w.2.2.1.take j).length * 65537 ≤ 100 * 65537 := Nat.mul_le_mul_right _ h2
          omega
        have htk : (w.2.2.1.take (j + 1)).flatMap pk = (w.2.2.1.take j).flatMap pk ++ pk w.2.2.1[j] := by
          rw [List.take_succ_eq_append_getElem hj, List.flatMap_append]; simp
        have hatl := any_at (q := bigL) hj
        have hatl2 := any_take (q := bigL) he2 hj
        refine aw_sr rfl ?_  -- r23 @keep.go:311
        simp only [go_sem, reduceIte, Nat.reduceEqDiff, Nat.reduceAdd, Nat.reduceMul, Nat.reduceSub, Nat.reduceLeDiff, Nat.reduceLT, reduceCtorEq, getD_map hj, eLt]
        refine ⟨⟨by omega, by omega, wid_eLt _⟩, ?_⟩
        generalize w.2.2.1[j] = l at hol hcl htk hatl hatl2 ⊢
        have hel := encL_len hol hcl
        intro b17 hb17
        refine aw_box1 hb17 fun B3 hs3 h17 => ?_
        refine aw_sr rfl ?_  -- r24 @keep.go:312
        simp only [go_sem, reduceIte, Nat.reduceEqDiff, Nat.reduceAdd, Nat.reduceMul, Nat.reduceSub, Nat.reduceLeDiff, Nat.reduceLT, reduceCtorEq, h17]
        refine goA_q (q_letterText l hol hcl) ?_
        simp only [go_sem, reduceIte, Nat.reduceEqDiff, Nat.reduceAdd, Nat.reduceMul, Nat.reduceSub, Nat.reduceLeDiff, Nat.reduceLT, reduceCtorEq, h17]
        refine goA_q (Quiet.args (q_Packed [(encL l, false)] false .no (by show 1 ≤ 1048576; omega) (by simp [sumL]; omega)) (.cons (Vle.slE (.cons (.cons Vle.untag .nil) .nil)) .nil)) ?_
        rw [show packR (([(encL l, false)] : List (List UInt8 × Bool)).map (·.1)) = packR [encL l] from rfl, pack_one]
        cases hbg : bigL l with
        | true =>
          simp only [go_sem, reduceIte, Nat.reduceEqDiff, Nat.reduceAdd, Nat.reduceMul, Nat.reduceSub, Nat.reduceLeDiff, Nat.reduceLT, reduceCtorEq, if_true, packV2]
          refine aw_seq fun K37 hK37 => ?_
          refine aw_sr rfl ?_  -- r25
          simp only [go_sem, reduceIte, Nat.reduceEqDiff, Nat.reduceAdd, Nat.reduceMul, Nat.reduceSub, Nat.reduceLeDiff, Nat.reduceLT, reduceCtorEq]
          refine aw_if rfl (fun h => ?_) (fun h => by simp at h)
          refine aw_sr rfl ?_  -- r26
          simp only [go_sem, reduceIte, Nat.reduceEqDiff, Nat.reduceAdd, Nat.reduceMul, Nat.reduceSub, Nat.reduceLeDiff, Nat.reduceLT, reduceCtorEq]
          refine aw_ret ⟨trivial, _, rfl, ?_, sub_trans hsB (sub_trans hs2 hs3)⟩
          rw [hR, if_pos (hat (hatl hbg))]
          exact Vle.tupL (.cons Vle.untag (.cons (Vle.refl _) .nil))
        | false =>
          have hpl2 := pk_len hbg
          simp only [go_sem, reduceIte, Nat.reduceEqDiff, Nat.reduceAdd, Nat.reduceMul, Nat.reduceSub, Nat.reduceLeDiff, Nat.reduceLT, reduceCtorEq, packV2]
          refine aw_seq fun K37 hK37 => ?_
          refine aw_sr rfl ?_  -- r25
          simp only [go_sem, reduceIte, Nat.reduceEqDiff, Nat.reduceAdd, Nat.reduceMul, Nat.reduceSub, Nat.reduceLeDiff, Nat.reduceLT, reduceCtorEq]
          refine aw_if rfl (fun h => by simp at h) (fun h => ?_)
          refine aw_skip (hK37 _ _ ?_)
          refine aw_rg rfl ?_  -- r27
          simp only [go_sem, reduceIte, Nat.reduceEqDiff, Nat.reduceAdd, Nat.reduceMul, Nat.reduceSub, Nat.reduceLeDiff, Nat.reduceLT, reduceCtorEq]
          refine ⟨by omega, (), hatl2 hbg, ?_, hs3⟩
          simp only [go_sem, reduceIte, Nat.reduceEqDiff, Nat.reduceAdd, Nat.reduceMul, Nat.reduceSub, Nat.reduceLeDiff, Nat.reduceLT, reduceCtorEq, htk]
      intro _ he2
      rw [List.take_length] at he2 ⊢
      refine hK36 _ _ ?_
      have hwl := wayB_len hcw.1 he2
      have hpb := partB_len (wayB w)
      refine aw_rg rfl ?_  -- r29 @keep.go:318
      simp only [go_sem, reduceIte, Nat.reduceEqDiff, Nat.reduceAdd, Nat.reduceMul, Nat.reduceSub, Nat.reduceLeDiff, Nat.reduceLT, reduceCtorEq]
      refine goA_q (q_long (wayB w) (by omega)) ?_
      simp only [go_sem, reduceIte, Nat.reduceEqDiff, Nat.reduceAdd, Nat.reduceMul, Nat.reduceSub, Nat.reduceLeDiff, Nat.reduceLT, reduceCtorEq]
      refine ⟨by simp only [List.length_append, List.length_cons, List.length_nil]; omega, (), hat2 he2, ?_, hs2⟩
      simp only [go_sem, reduceIte, Nat.reduceEqDiff, Nat.reduceAdd, Nat.reduceMul, Nat.reduceSub, Nat.reduceLeDiff, Nat.reduceLT, reduceCtorEq, hsu, List.append_assoc]
    intro _ he
    rw [List.take_length] at he ⊢
    rw [← snapB_eq]
    refine hK35 _ _ ?_
    refine aw_sr rfl ?_  -- r31 @keep.go:320
    simp only [go_sem, reduceIte, Nat.reduceEqDiff, Nat.reduceAdd, Nat.reduceMul, Nat.reduceSub, Nat.reduceLeDiff, Nat.reduceLT, reduceCtorEq]
    refine aw_ret ⟨trivial, _, rfl, ?_, hsB⟩
    rw [hR, if_neg (by rw [he]; decide)]
    exact Vle.tupL (.cons Vle.untag (.cons (Vle.refl _) .nil))
end Go.Proofs.YtlgfffngojlffaaGreat

/- The law StoreWritten. No conditions but sizes. -/
set_option linter.unusedSimpArgs false
set_option linter.unusedVariables false
namespace Go.Proofs.YtlgfffngojlffaaGreat
open Go.Proofs.YtlgfffngojlffaaGreatV
set_option maxHeartbeats 400000
set_option maxRecDepth 100000
/-- As it may come in. -/
def SmWyt (w : Wyt) : Prop := (IntKind.i64.min ≤ w.1 ∧ w.1 ≤ IntKind.i64.max) ∧ (IntKind.i64.min ≤ w.2.1 ∧ w.2.1 ≤ IntKind.i64.max) ∧ OkS OkLt w.2.2
def SmPcl (x : Pcl) : Prop := (IntKind.i64.min ≤ x.1 ∧ x.1 ≤ IntKind.i64.max) ∧ OS x.2.1 ∧ OkS OkLt x.2.2.1 ∧ (IntKind.i64.min ≤ x.2.2.2.1 ∧ x.2.2.2.1 ≤ IntKind.i64.max) ∧ OkS (fun n : Int => IntKind.i64.min ≤ n ∧ n ≤ IntKind.i64.max) x.2.2.2.2.1 ∧ OkS (fun n : Int => IntKind.i64.min ≤ n ∧ n ≤ IntKind.i64.max) x.2.2.2.2.2
def SmSnp (x : Snp) : Prop := (IntKind.i64.min ≤ x.1 ∧ x.1 ≤ IntKind.i64.max) ∧ OkS SmPcl x.2.1 ∧ OkS SmWyt x.2.2
theorem le4 {n : Nat} (h : n ≤ bulk) : n ≤ 4194304 := by have : bulk = 1048576 := rfl; omega
theorem SmPcl.ok {x : Pcl} (h : SmPcl x) : OkPcl x := ⟨h.1, h.2.1.small.ok, le4 h.2.2.1.2.1, h.2.2.1.2.2, h.2.2.2.1, le4 h.2.2.2.2.1.2.1, h.2.2.2.2.1.2.2, le4 h.2.2.2.2.2.2.1, h.2.2.2.2.2.2.2⟩
theorem SmSnp.ok {x : Snp} (h : SmSnp x) : OkSnp x := ⟨h.1, le4 h.2.1.2.1, fun p hp => (h.2.1.2.2 p hp).ok, le4 h.2.2.2.1, fun w hw => ⟨(h.2.2.2.2 w hw).1, (h.2.2.2.2 w hw).2.1, le4 (h.2.2.2.2 w hw).2.2.2.1, (h.2.2.2.2 w hw).2.2.2.2⟩⟩
theorem q_smallN (x : Snp) (ho : SmSnp x) : QB Tryz.prog 7 [.agg (cSnp x)] := by
  obtain ⟨o1, ⟨_, o2, o3⟩, _, o4, o5⟩ := ho
  have g3 : bulk = 1048576 := rfl
  refine QB.weak fun G => ?_
  refine acall_body (rs := [.tmp 2]) Tryz.func7 rfl rfl Tryz.ntmps7 (by kernel_rfl) (Nat.le_of_ble_eq_true rfl) ?_
  refine aw_sr rfl ?_  -- r0 @low.go:287
  simp only [go_sem, reduceIte, Nat.reduceEqDiff, Nat.reduceAdd, Nat.reduceMul, Nat.reduceSub, Nat.reduceLeDiff, Nat.reduceLT, reduceCtorEq]
  intro b1 hb1
  refine aw_box1 hb1 fun B1 hs1 h1 => ?_
  have hsB := hs1
  refine aw_seq fun K38 hK38 => ?_
  refine aw_sr rfl ?_  -- r1 @low.go:288
  simp only [go_sem, reduceIte, Nat.reduceEqDiff, Nat.reduceAdd, Nat.reduceMul, Nat.reduceSub, Nat.reduceLeDiff, Nat.reduceLT, reduceCtorEq, h1]
  refine aw_range x.2.1.1.length (S := Unit) (fun i _ => [(1, .ptr b1 0), (10, .sl (x.2.1.1.map ePcl) x.2.1.2 .no)]) (fun _ _ => B1) (fun i _ => True) () (by omega) ?_ (fun _ _ h => h) trivial rfl (fun _ _ => rfl) ?_ ?_ (by decide)
  · simp only [go_sem, reduceIte, Nat.reduceEqDiff, Nat.reduceAdd, Nat.reduceMul, Nat.reduceSub, Nat.reduceLeDiff, Nat.reduceLT, reduceCtorEq, Int.natCast_zero]
  · intro i _ hi he
    have hop := o3 _ (List.getElem_mem hi)
    refine aw_sr rfl ?_  -- r3 @low.go:288
    simp only [go_sem, reduceIte, Nat.reduceEqDiff, Nat.reduceAdd, Nat.reduceMul, Nat.reduceSub, Nat.reduceLeDiff, Nat.reduceLT, reduceCtorEq, getD_map hi, ePcl]
    refine ⟨⟨by omega, by omega, wid_ePcl _⟩, ?_⟩
    generalize x.2.1.1[i] = p at hop ⊢
    have hsm := hop.2.1.small
    intro b4 hb4
    refine aw_box1 hb4 fun B2 hs2 h4 => ?_
    refine aw_sr rfl ?_  -- r4 @low.go:289
    simp only [go_sem, reduceIte, Nat.reduceEqDiff, Nat.reduceAdd, Nat.reduceMul, Nat.reduceSub, Nat.reduceLeDiff, Nat.reduceLT, reduceCtorEq, h4]
    refine goA_q (q_ParcelSmall p hop.2.2.1.2.1 (fun l hl => (hop.2.2.1.2.2 l hl).2.2.2.2.2.2) hsm.2.1 hsm.2.2.2.1 (fun v hv => (hsm.2.2.1 v hv).2) (fun i hi => (hsm.2.2.2.2 i hi).2)) ?_
    simp only [go_sem, reduceIte, Nat.reduceEqDiff, Nat.reduceAdd, Nat.reduceMul, Nat.reduceSub, Nat.reduceLeDiff, Nat.reduceLT, reduceCtorEq, h4]
    refine aw_if rfl (fun h => ?_) (fun h => ?_)
    · refine aw_sr rfl ?_  -- r5 @low.go:290
      simp only [go_sem, reduceIte, Nat.reduceEqDiff, Nat.reduceAdd, Nat.reduceMul, Nat.reduceSub, Nat.reduceLeDiff, Nat.reduceLT, reduceCtorEq]
      exact aw_ret ⟨trivial, _, rfl, ⟨_, Vle.refl _⟩, sub_trans hsB hs2⟩
    refine aw_skip ⟨(), ?_, hs2⟩
    simp only [go_sem, reduceIte, Nat.reduceEqDiff, Nat.reduceAdd, Nat.reduceMul, Nat.reduceSub, Nat.reduceLeDiff, Nat.reduceLT, reduceCtorEq]
  intro _ he
  refine hK38 _ _ ?_
  refine aw_seq fun K39 hK39 => ?_
  refine aw_sr rfl ?_  -- r7 @low.go:293
  simp only [go_sem, reduceIte, Nat.reduceEqDiff, Nat.reduceAdd, Nat.reduceMul, Nat.reduceSub, Nat.reduceLeDiff, Nat.reduceLT, reduceCtorEq, h1]
  refine aw_range x.2.2.1.length (S := Unit) (fun i _ => [(21, .sl (x.2.2.1.map eWyt) x.2.2.2 .no)]) (fun _ _ => B1) (fun i _ => True) () (by omega) ?_ (fun _ _ h => h) trivial rfl (fun _ _ => rfl) ?_ ?_ (by decide)
  · simp only [go_sem, reduceIte, Nat.reduceEqDiff, Nat.reduceAdd, Nat.reduceMul, Nat.reduceSub, Nat.reduceLeDiff, Nat.reduceLT, reduceCtorEq, Int.natCast_zero]
  · intro i _ hi he
    have hop := o5 _ (List.getElem_mem hi)
    refine aw_sr rfl ?_  -- r9 @low.go:293
    simp only [go_sem, reduceIte, Nat.reduceEqDiff, Nat.reduceAdd, Nat.reduceMul, Nat.reduceSub, Nat.reduceLeDiff, Nat.reduceLT, reduceCtorEq, getD_map hi, eWyt]
    refine ⟨⟨by omega, by omega, wid_eWyt _⟩, ?_⟩
    generalize x.2.2.1[i] = w at hop ⊢
    obtain ⟨_, _, _, p2, p3⟩ := hop
    intro b6 hb6
    refine aw_box1 hb6 fun B2 hs2 h6 => ?_
    refine aw_sr rfl ?_  -- r10 @low.go:294
    simp only [go_sem, reduceIte, Nat.reduceEqDiff, Nat.reduceAdd, Nat.reduceMul, Nat.reduceSub, Nat.reduceLeDiff, Nat.reduceLT, reduceCtorEq, h6]
    refine aw_range w.2.2.1.length (S := Unit) (fun j _ => [(21, .sl (x.2.2.1.map eWyt) x.2.2.2 .no), (22, .int .i64 (x.2.2.1.length : Nat)), (23, .int .i64 (i : Nat)), (28, .sl (w.2.2.1.map eLt) w.2.2.2 .no)]) (fun _ _ => B2) (fun i _ => True) () (by omega) ?_ (fun _ _ h => h) trivial rfl (fun _ _ => rfl) ?_ ?_ (by decide)
    · simp only [go_sem, reduceIte, Nat.reduceEqDiff, Nat.reduceAdd, Nat.reduceMul, Nat.reduceSub, Nat.reduceLeDiff, Nat.reduceLT, reduceCtorEq, Int.natCast_zero]
    · intro j _ hj he2
      have hol := p3 _ (List.getElem_mem hj)
      refine aw_sr rfl ?_  -- r12 @low.go:294
      simp only [go_sem, reduceIte, Nat.reduceEqDiff, Nat.reduceAdd, Nat.reduceMul, Nat.reduceSub, Nat.reduceLeDiff, Nat.reduceLT, reduceCtorEq, getD_map hj, eLt]
      refine ⟨⟨by omega, by omega, wid_eLt _⟩, ?_⟩
      generalize w.2.2.1[j] = l at hol ⊢
      intro b8 hb8
      refine aw_box1 hb8 fun B3 hs3 h8 => ?_
      refine aw_sr rfl ?_  -- r13 @low.go:295
      simp only [go_sem, reduceIte, Nat.reduceEqDiff, Nat.reduceAdd, Nat.reduceMul, Nat.reduceSub, Nat.reduceLeDiff, Nat.reduceLT, reduceCtorEq, h8]
      refine goA_q (q_ValueSmall l.2.2.2.2.2 hol.2.2.2.2.2.2) ?_
      simp only [go_sem, reduceIte, Nat.reduceEqDiff, Nat.reduceAdd, Nat.reduceMul, Nat.reduceSub, Nat.reduceLeDiff, Nat.reduceLT, reduceCtorEq, h8]
      refine aw_if rfl (fun h => ?_) (fun h => ?_)
      · refine aw_sr rfl ?_  -- r14 @low.go:296
        simp only [go_sem, reduceIte, Nat.reduceEqDiff, Nat.reduceAdd, Nat.reduceMul, Nat.reduceSub, Nat.reduceLeDiff, Nat.reduceLT, reduceCtorEq]
        exact aw_ret ⟨trivial, _, rfl, ⟨_, Vle.refl _⟩, sub_trans hsB (sub_trans hs2 hs3)⟩
      refine aw_skip ⟨(), ?_, hs3⟩
      simp only [go_sem, reduceIte, Nat.reduceEqDiff, Nat.reduceAdd, Nat.reduceMul, Nat.reduceSub, Nat.reduceLeDiff, Nat.reduceLT, reduceCtorEq]
    intro _ he2
    refine ⟨(), ?_, hs2⟩
    simp only [go_sem, reduceIte, Nat.reduceEqDiff, Nat.reduceAdd, Nat.reduceMul, Nat.reduceSub, Nat.reduceLeDiff, Nat.reduceLT, reduceCtorEq]
  intro _ he
  refine hK39 _ _ ?_
  refine aw_sr rfl ?_  -- r17 @low.go:300
  simp only [go_sem, reduceIte, Nat.reduceEqDiff, Nat.reduceAdd, Nat.reduceMul, Nat.reduceSub, Nat.reduceLeDiff, Nat.reduceLT, reduceCtorEq]
  exact aw_ret ⟨trivial, _, rfl, ⟨_, Vle.refl _⟩, hsB⟩
def zSnp : Snp := (0, ([], true), ([], true))
theorem zSnp_ok : OkSnp zSnp := ⟨by decide, by decide, (fun p hp => by cases hp), by decide, (fun p hp => by cases hp)⟩
theorem zSnp_bytes : (snapR zSnp).2 = 0 ∧ (snapR zSnp).1.1.length = 10 := by
  have : snapR zSnp = ((snapB zSnp, false), 0) := by unfold snapR; rw [if_neg (by decide), if_neg (by decide)]
  rw [this]
  exact ⟨rfl, by decide⟩
namespace storeWritten
end storeWritten
end Go.Proofs.YtlgfffngojlffaaGreat

/- What is written is told apart: no two that are well formed are written alike. No conditions. -/
set_option linter.unusedSimpArgs false
set_option linter.unusedVariables false
namespace Go.Proofs.YtlgfffngojlffaaGreat
open Go.Proofs.YtlgfffngojlffaaGreatV
set_option maxHeartbeats 400000
set_option maxRecDepth 100000
/-- What begins alike is the same, and so is what follows. -/
def Inj {A : Type} (f : A → List UInt8) (P : A → Prop) : Prop := ∀ x y r s, P x → P y → f x ++ r = f y ++ s → x = y ∧ r = s
theorem flat_inj {A : Type} {f : A → List UInt8} {P : A → Prop} (h : Inj f P) : ∀ {l m : List A} {r s : List UInt8}, (∀ x ∈ l, P x) → (∀ x ∈ m, P x) → l.length = m.length → l.flatMap f ++ r = m.flatMap f ++ s → l = m ∧ r = s
  | [], [], r, s, _, _, _, he => ⟨rfl, by simpa using he⟩
  | [], y :: m, r, s, _, _, hl, _ => by simp at hl
  | x :: l, [], r, s, _, _, hl, _ => by simp at hl
  | x :: l, y :: m, r, s, h1, h2, hl, he => by
    rw [List.flatMap_cons, List.flatMap_cons, List.append_assoc, List.append_assoc] at he
    obtain ⟨rfl, e⟩ := h _ _ _ _ (h1 x (by simp)) (h2 y (by simp)) he
    obtain ⟨rfl, e2⟩ := flat_inj h (fun a ha => h1 a (by simp [ha])) (fun a ha => h2 a (by simp [ha])) (by simpa using hl) e
    exact ⟨rfl, e2⟩
theorem natB_inj : ∀ (k : Nat) (a b : Nat) (r s : List UInt8), a < 128 ^ k → natB a ++ r = natB b ++ s → a = b ∧ r = s
  | 0, a, b, r, s, h, he => by
    have ha : a = 0 := by simpa using h
    subst ha
    by_cases hb : b < 128
    · rw [natB_small (by decide), natB_small hb] at he
      simp only [List.cons_append, List.nil_append, List.cons.injEq] at he
      obtain ⟨e1, e2⟩ := he
      have := congrArg UInt8.toNat e1
      simp only [UInt8.toNat_ofNat'] at this
      exact ⟨by omega, e2⟩
    · rw [natB_small (by decide), natB_big hb] at he
      simp only [List.cons_append, List.nil_append, List.cons.injEq] at he
      have := congrArg UInt8.toNat he.1
      simp only [UInt8.toNat_ofNat'] at this
      omega
  | k + 1, a, b, r, s, h, he => by
    by_cases ha : a < 128 <;> by_cases hb : b < 128
    · rw [natB_small ha, natB_small hb] at he
      simp only [List.cons_append, List.nil_append, List.cons.injEq] at he
      have := congrArg UInt8.toNat he.1
      simp only [UInt8.toNat_ofNat'] at this
      exact ⟨by omega, he.2⟩
    · rw [natB_small ha, natB_big hb] at he
      simp only [List.cons_append, List.nil_append, List.cons.injEq] at he
      have := congrArg UInt8.toNat he.1
      simp only [UInt8.toNat_ofNat'] at this
      omega
    · rw [natB_big ha, natB_small hb] at he
      simp only [List.cons_append, List.nil_append, List.cons.injEq] at he
      have := congrArg UInt8.toNat he.1
      simp only [UInt8.toNat_ofNat'] at this
      omega
    · rw [natB_big ha, natB_big hb] at he
      simp only [List.cons_append, List.cons.injEq] at he
      have := congrArg UInt8.toNat he.1
      simp only [UInt8.toNat_ofNat'] at this
      obtain ⟨e1, e2⟩ := natB_inj k _ _ _ _ (by rw [Nat.div_lt_iff_lt_mul (by decide)]; rw [Nat.pow_succ] at h; exact h) he.2
      exact ⟨by omega, e2⟩
theorem nat_inj {a b : Nat} {r s : List UInt8} (he : natB a ++ r = natB b ++ s) : a = b ∧ r = s := natB_inj a a b r s (Nat.lt_pow_self (by decide)) he
theorem num_inj {a b : Int} (h : numN a = numN b) : a = b := by
  unfold numN at h
  split at h <;> split at h <;> omega
theorem text_inj : Inj textB (fun _ => True) := by
  intro x y r s _ _ h
  rw [textB, textB, List.append_assoc, List.append_assoc] at h
  obtain ⟨e1, e2⟩ := nat_inj h
  exact List.append_inj e2 e1
theorem u8_inj {a b : Int} (ha : 0 ≤ a ∧ a ≤ 255) (hb : 0 ≤ b ∧ b ≤ 255) (h : u8 a = u8 b) : a = b := by
  have e1 := u8_nat ha
  have e2 := u8_nat hb
  rw [h] at e1
  omega
theorem encVs_flat : ∀ l : List Val, encVs l = l.flatMap encV
  | [] => rfl
  | v :: l => by rw [encVs, encVs_flat l, List.flatMap_cons]
theorem encRs_flat : ∀ l : List Rcv, encRs l = l.flatMap encR
  | [] => rfl
  | v :: l => by rw [encRs, encRs_flat l, List.flatMap_cons]
theorem encV_inj0 : ∀ n : Nat, Inj encV (fun v => Fine v ∧ v.sz ≤ n) := by
  intro n
  induction n with
  | zero => intro x y r s hx; have := x.sz_eq; omega
  | succ n ih =>
    intro x y r s hx hy h
    rw [hx.1.eq, hy.1.eq] at h ⊢
    have f1 := hx.1
    have f2 := hy.1
    have z1 := hx.2
    have z2 := hy.2
    rw [encV, encV, List.cons_append, List.cons_append, List.append_assoc, List.append_assoc, List.append_assoc, List.append_assoc, List.append_assoc, List.append_assoc] at h
    obtain ⟨e1, h⟩ := List.cons.inj h
    obtain ⟨e2, h⟩ := nat_inj h
    obtain ⟨e3, h⟩ := text_inj _ _ _ _ trivial trivial h
    obtain ⟨e4, h⟩ := nat_inj h
    rw [encVs_flat, encVs_flat] at h
    obtain ⟨e5, h⟩ := flat_inj ih (fun a ha => ⟨f1.arg ha, by have := Val.sz_args ha; omega⟩) (fun a ha => ⟨f2.arg ha, by have := Val.sz_args ha; omega⟩) e4 h
    refine ⟨?_, h⟩
    rw [u8_inj f1.kind f2.kind e1, num_inj e2, e3, e5]
theorem encV_inj : Inj encV Fine := fun x y r s hx hy h => encV_inj0 (max x.sz y.sz) x y r s ⟨hx, by omega⟩ ⟨hy, by omega⟩ h
theorem encR_inj : Inj encR (fun i => (0 ≤ i.1 ∧ i.1 ≤ 255) ∧ Fine i.2 ∧ (i.1 = 3 → i.2 = Val.zero)) := by
  intro x y r s hx hy h
  obtain ⟨xk, xv⟩ := x
  obtain ⟨yk, yv⟩ := y
  obtain ⟨h1, h2, h3⟩ := hx
  obtain ⟨g1, g2, g3⟩ := hy
  simp only at h1 h2 h3 g1 g2 g3
  rw [encR, encR, List.cons_append, List.cons_append] at h
  obtain ⟨e1, h⟩ := List.cons.inj h
  have e2 := u8_inj h1 g1 e1
  subst e2
  by_cases hk : xk = 3
  · rw [if_pos hk, if_pos hk] at h
    exact ⟨by rw [h3 hk, g3 hk], h⟩
  · rw [if_neg hk, if_neg hk] at h
    obtain ⟨e3, h⟩ := encV_inj _ _ _ _ h2 g2 h
    exact ⟨by rw [e3], h⟩
theorem encS_inj : Inj encS GoodS := by
  intro x y r s hx hy h
  rw [encS, encS] at h
  simp only [List.append_assoc] at h
  obtain ⟨e1, h⟩ := text_inj _ _ _ _ trivial trivial h
  obtain ⟨e2, h⟩ := nat_inj h
  rw [encVs_flat, encVs_flat] at h
  obtain ⟨e3, h⟩ := flat_inj encV_inj (fun a ha => (hx.state ha).1) (fun a ha => (hy.state ha).1) e2 h
  obtain ⟨e4, h⟩ := nat_inj h
  rw [encRs_flat, encRs_flat] at h
  obtain ⟨e5, h⟩ := flat_inj encR_inj (fun a ha => ⟨(hx.input ha).1, (hx.1.2.2.2.2.1 a ha).2.1, (hx.input ha).2.2⟩) (fun a ha => ⟨(hy.input ha).1, (hy.1.2.2.2.2.1 a ha).2.1, (hy.input ha).2.2⟩) e4 h
  refine ⟨?_, h⟩
  have n1 := hx.1.2.2.2.1
  have n2 := hy.1.2.2.2.1
  have n3 := hx.1.2.2.2.2.2.2
  have n4 := hy.1.2.2.2.2.2.2
  obtain ⟨xa, ⟨xs, xn⟩, xi, xm⟩ := x
  obtain ⟨ya, ⟨ys, yn⟩, yi, ym⟩ := y
  simp only at e1 e3 e5 n1 n2 n3 n4
  rw [n1, n2, n3, n4, e1, e3, e5]
theorem toNat_inj {a b : Int} (ha : 0 ≤ a) (hb : 0 ≤ b) (h : a.toNat = b.toNat) : a = b := by omega
theorem encL_inj : Inj encL GoodL := by
  intro x y r s hx hy h
  have hv := hx.value
  have gv := hy.value
  obtain ⟨p1, p2, p3⟩ := hx.nums
  obtain ⟨q1, q2, q3⟩ := hy.nums
  have k1 := hx.1.1
  have k2 := hy.1.1
  obtain ⟨xk, xf, xt, xn, xs, xv⟩ := x
  obtain ⟨yk, yf, yt, yn, ys, yv⟩ := y
  simp only at hv gv p1 p2 p3 q1 q2 q3 k1 k2
  rw [encL, encL, List.cons_append, List.cons_append] at h
  simp only [List.append_assoc] at h
  obtain ⟨e1, h⟩ := List.cons.inj h
  have e1 := u8_inj k1 k2 e1
  subst e1
  obtain ⟨e2, h⟩ := nat_inj h
  obtain ⟨e3, h⟩ := nat_inj h
  obtain ⟨e4, h⟩ := nat_inj h
  obtain ⟨e5, h⟩ := text_inj _ _ _ _ trivial trivial h
  have e2 := toNat_inj p1 q1 e2
  have e3 := toNat_inj p2 q2 e3
  have e4 := toNat_inj p3 q3 e4
  rw [tailL, tailL] at h
  by_cases hk : xk = 1
  · rw [if_pos hk, if_pos hk] at h
    obtain ⟨e6, h⟩ := encV_inj _ _ _ _ (hv.1 hk).1 (gv.1 hk).1 h
    exact ⟨by rw [e2, e3, e4, e5, e6], h⟩
  · rw [if_neg hk, if_neg hk] at h
    exact ⟨by rw [e2, e3, e4, e5, hv.2 hk, gv.2 hk], h⟩
theorem encNs_inj : Inj encNs (fun l => ∀ n ∈ l, InI n ∧ 1 ≤ n) := by
  intro x y r s hx hy h
  rw [encNs, encNs, List.append_assoc, List.append_assoc] at h
  obtain ⟨e1, h⟩ := nat_inj h
  refine flat_inj (P := fun n : Int => 1 ≤ n) ?_ (fun n hn => (hx n hn).2) (fun n hn => (hy n hn).2) e1 h
  intro a b r s ha hb h
  obtain ⟨e, h⟩ := nat_inj h
  exact ⟨toNat_inj (Int.le_trans (by decide) ha) (Int.le_trans (by decide) hb) e, h⟩
theorem encP_inj : Inj encP GoodP := by
  intro x y r s hx hy h
  have c1 := (checkP_good hx.2).1
  have c2 := (checkP_good hy.2).1
  rw [encP, encP] at h
  simp only [List.append_assoc] at h
  obtain ⟨e1, h⟩ := nat_inj h
  obtain ⟨e2, h⟩ := encS_inj _ _ _ _ hx.saved hy.saved h
  obtain ⟨e3, h⟩ := nat_inj h
  obtain ⟨e4, h⟩ := flat_inj encL_inj (fun a ha => hx.letter ha) (fun a ha => hy.letter ha) e3 h
  obtain ⟨e5, h⟩ := nat_inj h
  obtain ⟨e6, h⟩ := encNs_inj _ _ _ _ (fun n hn => hx.watch hn) (fun n hn => hy.watch hn) h
  obtain ⟨e7, h⟩ := encNs_inj _ _ _ _ (fun n hn => hx.link hn) (fun n hn => hy.link hn) h
  refine ⟨?_, h⟩
  have n1 := hx.1.2.2.1.2.2
  have n2 := hx.1.2.2.2.2.1.2.2
  have n3 := hx.1.2.2.2.2.2.2.2
  have m1 := hy.1.2.2.1.2.2
  have m2 := hy.1.2.2.2.2.1.2.2
  have m3 := hy.1.2.2.2.2.2.2.2
  have e1 := toNat_inj (Int.le_trans (by decide) c1.1) (Int.le_trans (by decide) c2.1) e1
  have e5 := num_inj e5
  obtain ⟨zr, zs, ⟨zb, zbn⟩, zt, ⟨zw, zwn⟩, zl, zln⟩ := x
  obtain ⟨yr, ys, ⟨yb, ybn⟩, yt, ⟨yw, ywn⟩, yl, yln⟩ := y
  simp only at e1 e2 e4 e5 e6 e7 n1 n2 n3 m1 m2 m3
  rw [n1, n2, n3, m1, m2, m3, e1, e2, e4, e5, e6, e7]
theorem readPF_enc {p : Pcl} (h : GoodP p) : readPF (encP p) = (p, 0) := readPF_yes h rfl fun x hx he => (encP_inj p x [] [] h hx (by rw [he])).1
theorem readLF_enc {p : Lt} (h : GoodL p) : readLF (encL p) = (p, 0) := readLF_yes h rfl fun x hx he => (encL_inj p x [] [] h hx (by rw [he])).1
theorem readLF_ok {b : List UInt8} (h : (readLF b).2 = 0) : GoodL (readLF b).1 ∧ encL (readLF b).1 = b := by
  unfold readLF at h ⊢
  split
  · rename_i he; exact he.choose_spec
  · rename_i he; rw [dif_neg he] at h; cases h
end Go.Proofs.YtlgfffngojlffaaGreat

set_option linter.unusedSimpArgs false
set_option linter.unusedVariables false
namespace Go.Proofs.YtlgfffngojlffaaGreat
open Go.Proofs.YtlgfffngojlffaaGreatV
set_option maxHeartbeats 400000
set_option maxRecDepth 100000
/-- How far a piece goes. -/
def cutAt (b : List UInt8) : Nat := let n := min b.length 32; let i := Lib.indexByte (b.take n) 10; if 0 ≤ i then i.toNat + 1 else n
theorem indexByte_bounds (l : List UInt8) (c : UInt8) : -1 ≤ Lib.indexByte l c ∧ Lib.indexByte l c < l.length ∨ Lib.indexByte l c = -1 := by
  induction l with
  | nil => right; rfl
  | cons b l ih =>
    simp only [Lib.indexByte, List.length_cons]
    split
    · left; constructor <;> omega
    · split
      · right; rfl
      · rename_i h; left
        rcases ih with ih | ih
        · constructor <;> omega
        · simp [ih] at h
theorem cutAt_pos {b : List UInt8} (h : b ≠ []) : 0 < cutAt b ∧ cutAt b ≤ b.length := by
  have hl : 0 < b.length := List.length_pos_iff.2 h
  have := indexByte_bounds (b.take (min b.length 32)) 10
  simp only [List.length_take] at this
  unfold cutAt
  simp only
  split <;> omega
def cutL (b : List UInt8) : List (List UInt8) := if h : b = [] then [] else b.take (cutAt b) :: cutL (b.drop (cutAt b))
termination_by b.length
decreasing_by have := cutAt_pos h; simp only [List.length_drop]; omega
structure CutS where
  rest : List UInt8
  t : Tag
  out : List (List UInt8)
  ot : Tag
  H : Heap
def cutsR (now : List UInt8) : List UInt8 → List (List UInt8)
  | [] => if now = [] then [] else [now]
  | c :: b => if c = 10 ∨ (now ++ [c]).length = 32 then (now ++ [c]) :: cutsR [] b else cutsR (now ++ [c]) b
structure CutsS where
  out : List (List UInt8)
  now : List UInt8
  ot : Tag
  H : Heap
end Go.Proofs.YtlgfffngojlffaaGreat

set_option linter.unusedSimpArgs false
set_option linter.unusedVariables false
namespace Go.Proofs.YtlgfffngojlffaaGreat
open Go.Proofs.YtlgfffngojlffaaGreatV
set_option maxHeartbeats 400000
set_option maxRecDepth 100000
def scanL : List UInt8 → List (List UInt8) × Nat
  | x :: y :: r => if r.length < x.toNat * 256 + y.toNat then ([], 0) else (r.take (x.toNat * 256 + y.toNat) :: (scanL (r.drop (x.toNat * 256 + y.toNat))).1, 2 + (x.toNat * 256 + y.toNat) + (scanL (r.drop (x.toNat * 256 + y.toNat))).2)
  | _ => ([], 0)
termination_by l => l.length
decreasing_by all_goals (simp only [List.length_cons, List.length_drop]; omega)
structure ScanS where
  out : List (List UInt8)
  at' : Nat
  ot : Tag
  H : Heap
def ScanI (b : List UInt8) (out : List (List UInt8)) (at' : Nat) : Prop := out ++ (scanL (b.drop at')).1 = (scanL b).1 ∧ at' + (scanL (b.drop at')).2 = (scanL b).2 ∧ at' ≤ b.length ∧ out.length ≤ at'
theorem q_Scan (b : List UInt8) (nl : Bool) (t : Tag) (hb : b.length ≤ 1048576) (hnl : nl = true → b = []) : Quiet Tryz.prog 60 [.sl (bytesV b) nl t] (.tup [.sl ((scanL b).1.map fun p => ePc (p, nl)) (scanL b).1.isEmpty .no, .int .i64 (scanL b).2]) := by
  refine Quiet.weak fun G => ?_
  refine acall_body (rs := [.tmp 2, .tmp 3]) Tryz.func60 rfl rfl Tryz.ntmps60 (by kernel_rfl) (Nat.le_of_ble_eq_true rfl) ?_
  refine aw_sr rfl ?_
  simp only [go_sem, reduceIte, Nat.reduceEqDiff, Nat.reduceAdd, Nat.reduceMul, Nat.reduceSub, Nat.reduceLeDiff, Nat.reduceLT, reduceCtorEq]
  refine aw_sr rfl ?_
  simp only [go_sem, reduceIte, Nat.reduceEqDiff, Nat.reduceAdd, Nat.reduceMul, Nat.reduceSub, Nat.reduceLeDiff, Nat.reduceLT, reduceCtorEq]
  refine aw_sr rfl ?_
  simp only [go_sem, reduceIte, Nat.reduceEqDiff, Nat.reduceAdd, Nat.reduceMul, Nat.reduceSub, Nat.reduceLeDiff, Nat.reduceLT, reduceCtorEq]
  refine aw_mid (fun f' G' => ∃ ot, Room G 1 ot G' ∧ FSub [(4, .sl ((scanL b).1.map fun p => ePc (p, nl)) (scanL b).1.isEmpty ot), (5, .int .i64 (scanL b).2)] f') ?_ ?_
  · refine aw_block ?_
    refine aw_lph (S := {s : ScanS // ScanI b s.out s.at' ∧ Room G 1 s.ot s.H}) (fun s => [(0, .sl (bytesV b) nl t), (4, .sl (s.1.out.map fun p => ePc (p, nl)) s.1.out.isEmpty s.1.ot), (5, .int .i64 s.1.at')]) (fun s => s.1.H) (fun s => b.length - s.1.at') ⟨⟨[], 0, .full, G⟩, ⟨rfl, by simp, Nat.zero_le _, Nat.le_refl _⟩, Room.start G 1⟩ ?_ (fun _ _ h => h) ?_
    · simp only [go_sem, reduceIte, Nat.reduceEqDiff, Nat.reduceAdd, Nat.reduceMul, Nat.reduceSub, Nat.reduceLeDiff, Nat.reduceLT, reduceCtorEq, List.map_nil, Int.natCast_zero]
    · intro ⟨⟨out, at', ot, H⟩, ⟨i1, i2, i3, i4⟩, i5⟩
      simp only at i1 i2 i3 i4 i5 ⊢
      have hw : IntKind.i64.wrap ((b.length : Int) - at') = (b.length : Int) - at' := wrap64 (by omega) (by omega)
      refine aw_seq fun K2 hK2 => ?_
      refine aw_sr rfl ?_
      simp only [go_sem, reduceIte, Nat.reduceEqDiff, Nat.reduceAdd, Nat.reduceMul, Nat.reduceSub, Nat.reduceLeDiff, Nat.reduceLT, reduceCtorEq, hw]
      refine aw_if rfl (fun h => ?_) (fun h => ?_)
      · have hlt : at' + 2 ≤ b.length := by
          have : (2 : Int) ≤ (b.length : Int) - at' := by simpa using h
          omega
        refine aw_skip (hK2 _ _ ?_)
        have hw1 : IntKind.i64.wrap ((at' : Int) + 1) = ((at' + 1 : Nat) : Int) := by rw [wrap64 (by omega) (by omega)]; rfl
        refine aw_block ?_
        refine aw_srd [(0,true),(1,true),(2,true),(3,true),(4,true),(5,true),(6,true),(7,true),(8,true),(9,true),(10,true),(11,true),(12,true),(13,true)] mixed rfl (by kernel_rfl) ?_
        simp only [go_sem, reduceIte, Nat.reduceEqDiff, Nat.reduceAdd, Nat.reduceMul, Nat.reduceSub, Nat.reduceLeDiff, Nat.reduceLT, reduceCtorEq, hw1, getD_bytes (show at' < b.length by omega), getD_bytes (show at' + 1 < b.length by omega)]
        have hx := b[at'].toNat_lt
        have hy := b[at' + 1].toNat_lt
        have hor : bits BinOp.or IntKind.i64 (IntKind.i64.wrap (IntKind.i64.wrap (b[at'].toNat : Int) * 2 ^ (Int.toNat 8).min 64)) (IntKind.i64.wrap (b[at' + 1].toNat : Int)) = ((b[at'].toNat * 256 + b[at' + 1].toNat : Nat) : Int) := by
          have h256 : ((2 : Int) ^ (Int.toNat 8).min 64) = 256 := by decide
          rw [h256, wrap64 (n := (b[at'].toNat : Int)) (by omega) (by omega), wrap64 (n := (b[at' + 1].toNat : Int)) (by omega) (by omega), wrap64 (by omega) (by omega)]
          exact or_bytes (by omega) (by omega)
        rw [hor]
        have hd : b.drop at' = b[at'] :: b[at' + 1] :: b.drop (at' + 2) := by rw [List.drop_eq_getElem_cons (by omega), List.drop_eq_getElem_cons (by omega)]
        rw [hd, scanL] at i1 i2
        have hdl : (b.drop (at' + 2)).length = b.length - (at' + 2) := by simp
        generalize hn : b[at'].toNat * 256 + b[at' + 1].toNat = n at *
        refine ⟨⟨by omega, by omega, wid_bytes _⟩, by decide, ⟨by omega, by omega, wid_bytes _⟩, ?_⟩
        have hw2 : IntKind.i64.wrap ((b.length : Int) - at' - 2) = (b.length : Int) - at' - 2 := wrap64 (by omega) (by omega)
        refine aw_seq fun K3 hK3 => ?_
        refine aw_sr rfl ?_
        simp only [go_sem, reduceIte, Nat.reduceEqDiff, Nat.reduceAdd, Nat.reduceMul, Nat.reduceSub, Nat.reduceLeDiff, Nat.reduceLT, reduceCtorEq, hw, hw2]
        refine aw_if rfl (fun h => ?_) (fun h => ?_)
        · have hc : (b.drop (at' + 2)).length < n := by
            have : (b.length : Int) - at' - 2 < n := by simpa using h
            omega
          rw [if_pos hc] at i1 i2
          refine aw_exit ?_
          refine ⟨ot, i5, ?_⟩
          simp only [List.append_nil, Nat.add_zero] at i1 i2
          simp only [go_sem, reduceIte, Nat.reduceEqDiff, Nat.reduceAdd, Nat.reduceMul, Nat.reduceSub, Nat.reduceLeDiff, Nat.reduceLT, reduceCtorEq, i1, i2]
        · have hc : ¬ (b.drop (at' + 2)).length < n := by
            have : (n : Int) ≤ (b.length : Int) - at' - 2 := by simpa using h
            omega
          rw [if_neg hc] at i1 i2
          refine aw_skip (hK3 _ _ ?_)
          have hw3 : IntKind.i64.wrap ((at' : Int) + 2) = ((at' + 2 : Nat) : Int) := by rw [wrap64 (by omega) (by omega)]; rfl
          have hw4 : IntKind.i64.wrap (((at' + 2 : Nat) : Int) + n) = ((at' + 2 + n : Nat) : Int) := by rw [wrap64 (by omega) (by omega)]; rfl
          have hw5 : IntKind.i64.wrap (2 + (n : Int)) = ((2 + n : Nat) : Int) := by rw [wrap64 (by omega) (by omega)]; rfl
          have hw6 : IntKind.i64.wrap ((at' : Int) + ((2 + n : Nat) : Int)) = ((at' + (2 + n) : Nat) : Int) := by rw [wrap64 (by omega) (by omega)]; rfl
          refine aw_sr rfl ?_
          simp only [go_sem, reduceIte, Nat.reduceEqDiff, Nat.reduceAdd, Nat.reduceMul, Nat.reduceSub, Nat.reduceLeDiff, Nat.reduceLT, reduceCtorEq, hw3, hw4]
          refine ⟨⟨⟨by omega, by omega, by omega⟩, wid_bytes _⟩, ?_⟩
          refine goA_q (q_Clone _ _ _ (by simp; omega) (fun e => by rw [hnl e] at hlt; simp at hlt)) ?_
          simp only [go_sem, reduceIte, Nat.reduceEqDiff, Nat.reduceAdd, Nat.reduceMul, Nat.reduceSub, Nat.reduceLeDiff, Nat.reduceLT, reduceCtorEq]
          refine goP_room i5 ?_ fun t' H' hr => ?_
          · exact ⟨rfl, rfl, by decide, wid_map (g := fun p => ePc (p, nl)) (fun _ => rfl) _, wid_one rfl, sca_one rfl, by simp; omega, by simp; omega⟩
          simp only [go_sem, reduceIte, Nat.reduceEqDiff, Nat.reduceAdd, Nat.reduceMul, Nat.reduceSub, Nat.reduceLeDiff, Nat.reduceLT, reduceCtorEq, Bool.and_false]
          refine aw_rg rfl ?_
          simp only [go_sem, reduceIte, Nat.reduceEqDiff, Nat.reduceAdd, Nat.reduceMul, Nat.reduceSub, Nat.reduceLeDiff, Nat.reduceLT, reduceCtorEq, hw5, hw6]
          have hcut : (b.take (at' + 2 + n)).drop (at' + 2) = (b.drop (at' + 2)).take n := by rw [List.drop_take]; congr 1; omega
          have hdd : (b.drop (at' + 2)).drop n = b.drop (at' + (2 + n)) := by rw [List.drop_drop]; congr 1; omega
          rw [hdd] at i1 i2
          refine ⟨⟨⟨out ++ [(b.drop (at' + 2)).take n], at' + (2 + n), t', H'⟩, ⟨by simpa using i1, by simp only; omega, by simp only; omega, by simp; omega⟩, hr⟩, by simp only; omega, ?_, fun _ _ h => h⟩
          simp only [go_sem, reduceIte, Nat.reduceEqDiff, Nat.reduceAdd, Nat.reduceMul, Nat.reduceSub, Nat.reduceLeDiff, Nat.reduceLT, reduceCtorEq, hcut]
          simp [ePc]
      · have hge : ¬ at' + 2 ≤ b.length := by
          have : (b.length : Int) - at' < 2 := by simpa using h
          omega
        refine aw_exit ⟨ot, i5, ?_⟩
        have hs : scanL (b.drop at') = ([], 0) := by
          have hl : (b.drop at').length < 2 := by simp; omega
          match b.drop at', hl with
          | [], _ => simp [scanL]
          | [x], _ => simp [scanL]
        rw [hs] at i1 i2
        simp only [List.append_nil, Nat.add_zero] at i1 i2
        simp only [go_sem, reduceIte, Nat.reduceEqDiff, Nat.reduceAdd, Nat.reduceMul, Nat.reduceSub, Nat.reduceLeDiff, Nat.reduceLT, reduceCtorEq, i1, i2]
  · rintro f' G' ⟨ot, hr, hf⟩
    refine AW.of_fsub hf ?_
    refine aw_sr rfl ?_
    simp only [go_sem, reduceIte, Nat.reduceEqDiff, Nat.reduceAdd, Nat.reduceMul, Nat.reduceSub, Nat.reduceLeDiff, Nat.reduceLT, reduceCtorEq]
    exact aw_ret ⟨trivial, _, rfl, vle2 Vle.untag (Vle.refl _), hr.sub⟩
theorem q_Scanned (b : List UInt8) (nl : Bool) (t : Tag) (hb : b.length ≤ 1048576) : Quiet Tryz.prog 35 [.sl (bytesV b) nl t] (.tup [.sl ((scanL b).1.map eStr) (scanL b).1.isEmpty .no, .int .i64 (scanL b).2]) := by
  refine Quiet.weak fun G => ?_
  refine acall_body (rs := [.tmp 2, .tmp 3]) Tryz.func35 rfl rfl Tryz.ntmps35 (by kernel_rfl) (Nat.le_of_ble_eq_true rfl) ?_
  refine aw_sr rfl ?_
  simp only [go_sem, reduceIte, Nat.reduceEqDiff, Nat.reduceAdd, Nat.reduceMul, Nat.reduceSub, Nat.reduceLeDiff, Nat.reduceLT, reduceCtorEq]
  refine aw_sr rfl ?_
  simp only [go_sem, reduceIte, Nat.reduceEqDiff, Nat.reduceAdd, Nat.reduceMul, Nat.reduceSub, Nat.reduceLeDiff, Nat.reduceLT, reduceCtorEq]
  refine aw_sr rfl ?_
  simp only [go_sem, reduceIte, Nat.reduceEqDiff, Nat.reduceAdd, Nat.reduceMul, Nat.reduceSub, Nat.reduceLeDiff, Nat.reduceLT, reduceCtorEq]
  refine aw_mid (fun f' G' => ∃ ot, Room G 1 ot G' ∧ FSub [(4, .sl ((scanL b).1.map eStr) (scanL b).1.isEmpty ot), (5, .int .i64 (scanL b).2)] f') ?_ ?_
  · refine aw_block ?_
    refine aw_lph (S := {s : ScanS // ScanI b s.out s.at' ∧ Room G 1 s.ot s.H}) (fun s => [(0, .sl (bytesV b) nl t), (4, .sl (s.1.out.map eStr) s.1.out.isEmpty s.1.ot), (5, .int .i64 s.1.at')]) (fun s => s.1.H) (fun s => b.length - s.1.at') ⟨⟨[], 0, .full, G⟩, ⟨rfl, by simp, Nat.zero_le _, Nat.le_refl _⟩, Room.start G 1⟩ ?_ (fun _ _ h => h) ?_
    · simp only [go_sem, reduceIte, Nat.reduceEqDiff, Nat.reduceAdd, Nat.reduceMul, Nat.reduceSub, Nat.reduceLeDiff, Nat.reduceLT, reduceCtorEq, List.map_nil, Int.natCast_zero]
    · intro ⟨⟨out, at', ot, H⟩, ⟨i1, i2, i3, i4⟩, i5⟩
      simp only at i1 i2 i3 i4 i5 ⊢
      have hw3 : IntKind.i64.wrap ((at' : Int) + 2) = ((at' + 2 : Nat) : Int) := by rw [wrap64 (by omega) (by omega)]; rfl
      refine aw_seq fun K2 hK2 => ?_
      refine aw_sr rfl ?_
      simp only [go_sem, reduceIte, Nat.reduceEqDiff, Nat.reduceAdd, Nat.reduceMul, Nat.reduceSub, Nat.reduceLeDiff, Nat.reduceLT, reduceCtorEq, hw3]
      refine aw_if rfl (fun h => ?_) (fun h => ?_)
      · have hlt : at' + 2 ≤ b.length := by
          have : ((at' + 2 : Nat) : Int) ≤ (b.length : Int) := of_decide_eq_true h
          omega
        refine aw_skip (hK2 _ _ ?_)
        have hw1 : IntKind.i64.wrap ((at' : Int) + 1) = ((at' + 1 : Nat) : Int) := by rw [wrap64 (by omega) (by omega)]; rfl
        refine aw_block ?_
        refine aw_srd [(0,true),(1,true),(2,true),(3,true),(4,true),(5,true),(6,true),(7,true),(8,true),(9,true),(10,true),(11,true),(12,true),(13,true)] mixed rfl (by kernel_rfl) ?_
        simp only [go_sem, reduceIte, Nat.reduceEqDiff, Nat.reduceAdd, Nat.reduceMul, Nat.reduceSub, Nat.reduceLeDiff, Nat.reduceLT, reduceCtorEq, hw1, getD_bytes (show at' < b.length by omega), getD_bytes (show at' + 1 < b.length by omega)]
        have hx := b[at'].toNat_lt
        have hy := b[at' + 1].toNat_lt
        have hor : IntKind.i64.wrap (IntKind.i64.wrap (256 * IntKind.i64.wrap (b[at'].toNat : Int)) + IntKind.i64.wrap (b[at' + 1].toNat : Int)) = ((b[at'].toNat * 256 + b[at' + 1].toNat : Nat) : Int) := by
          rw [wrap64 (n := (b[at'].toNat : Int)) (by omega) (by omega), wrap64 (n := (b[at' + 1].toNat : Int)) (by omega) (by omega), wrap64 (n := 256 * (b[at'].toNat : Int)) (by omega) (by omega), wrap64 (by omega) (by omega)]
          omega
        have h65 : b[at'].toNat * 256 + b[at' + 1].toNat < 65536 := by omega
        rw [hor]
        have hd : b.drop at' = b[at'] :: b[at' + 1] :: b.drop (at' + 2) := by rw [List.drop_eq_getElem_cons (by omega), List.drop_eq_getElem_cons (by omega)]
        rw [hd, scanL] at i1 i2
        have hdl : (b.drop (at' + 2)).length = b.length - (at' + 2) := by simp
        generalize hn : b[at'].toNat * 256 + b[at' + 1].toNat = n at *
        refine ⟨⟨by omega, by omega, wid_bytes _⟩, ⟨by omega, by omega, wid_bytes _⟩, ?_⟩
        have hw4 : IntKind.i64.wrap (((at' + 2 : Nat) : Int) + n) = ((at' + 2 + n : Nat) : Int) := by rw [wrap64 (by omega) (by omega)]; rfl
        refine aw_seq fun K3 hK3 => ?_
        refine aw_sr rfl ?_
        simp only [go_sem, reduceIte, Nat.reduceEqDiff, Nat.reduceAdd, Nat.reduceMul, Nat.reduceSub, Nat.reduceLeDiff, Nat.reduceLT, reduceCtorEq, hw3, hw4]
        refine aw_if rfl (fun h => ?_) (fun h => ?_)
        · have hc : (b.drop (at' + 2)).length < n := by
            have : (b.length : Int) < ((at' + 2 + n : Nat) : Int) := of_decide_eq_true h
            omega
          rw [if_pos hc] at i1 i2
          refine aw_exit ?_
          refine ⟨ot, i5, ?_⟩
          simp only [List.append_nil, Nat.add_zero] at i1 i2
          simp only [go_sem, reduceIte, Nat.reduceEqDiff, Nat.reduceAdd, Nat.reduceMul, Nat.reduceSub, Nat.reduceLeDiff, Nat.reduceLT, reduceCtorEq, i1, i2]
        · have hc : ¬ (b.drop (at' + 2)).length < n := by
            have : ¬ (b.length : Int) < ((at' + 2 + n : Nat) : Int) := of_decide_eq_false h
            omega
          rw [if_neg hc] at i1 i2
          refine aw_skip (hK3 _ _ ?_)
          have hw5 : IntKind.i64.wrap (2 + (n : Int)) = ((2 + n : Nat) : Int) := by rw [wrap64 (by omega) (by omega)]; rfl
          have hw6 : IntKind.i64.wrap ((at' : Int) + ((2 + n : Nat) : Int)) = ((at' + (2 + n) : Nat) : Int) := by rw [wrap64 (by omega) (by omega)]; rfl
          refine aw_sr rfl ?_
          simp only [go_sem, reduceIte, Nat.reduceEqDiff, Nat.reduceAdd, Nat.reduceMul, Nat.reduceSub, Nat.reduceLeDiff, Nat.reduceLT, reduceCtorEq, hw3, hw4]
          refine ⟨⟨⟨by omega, by omega, by omega⟩, wid_bytes _⟩, ?_⟩
          refine goP_room i5 ?_ fun t' H' hr => ?_
          · exact ⟨rfl, rfl, by decide, wid_map (g := eStr) (fun _ => rfl) _, wid_one rfl, sca_one rfl, by simp; omega, by simp; omega⟩
          simp only [go_sem, reduceIte, Nat.reduceEqDiff, Nat.reduceAdd, Nat.reduceMul, Nat.reduceSub, Nat.reduceLeDiff, Nat.reduceLT, reduceCtorEq, Bool.and_false]
          refine aw_rg rfl ?_
          simp only [go_sem, reduceIte, Nat.reduceEqDiff, Nat.reduceAdd, Nat.reduceMul, Nat.reduceSub, Nat.reduceLeDiff, Nat.reduceLT, reduceCtorEq, hw5, hw6]
          have hcut : (b.take (at' + 2 + n)).drop (at' + 2) = (b.drop (at' + 2)).take n := by rw [List.drop_take]; congr 1; omega
          have hdd : (b.drop (at' + 2)).drop n = b.drop (at' + (2 + n)) := by rw [List.drop_drop]; congr 1; omega
          rw [hdd] at i1 i2
          refine ⟨⟨⟨out ++ [(b.drop (at' + 2)).take n], at' + (2 + n), t', H'⟩, ⟨by simpa using i1, by simp only; omega, by simp only; omega, by simp; omega⟩, hr⟩, by simp only; omega, ?_, fun _ _ h => h⟩
          simp only [go_sem, reduceIte, Nat.reduceEqDiff, Nat.reduceAdd, Nat.reduceMul, Nat.reduceSub, Nat.reduceLeDiff, Nat.reduceLT, reduceCtorEq, hcut]
          simp [eStr]
      · have hge : ¬ at' + 2 ≤ b.length := by
          have : ¬ ((at' + 2 : Nat) : Int) ≤ (b.length : Int) := of_decide_eq_false h
          omega
        refine aw_exit ⟨ot, i5, ?_⟩
        have hs : scanL (b.drop at') = ([], 0) := by
          have hl : (b.drop at').length < 2 := by simp; omega
          match b.drop at', hl with
          | [], _ => simp [scanL]
          | [x], _ => simp [scanL]
        rw [hs] at i1 i2
        simp only [List.append_nil, Nat.add_zero] at i1 i2
        simp only [go_sem, reduceIte, Nat.reduceEqDiff, Nat.reduceAdd, Nat.reduceMul, Nat.reduceSub, Nat.reduceLeDiff, Nat.reduceLT, reduceCtorEq, i1, i2]
  · rintro f' G' ⟨ot, hr, hf⟩
    refine AW.of_fsub hf ?_
    refine aw_sr rfl ?_
    simp only [go_sem, reduceIte, Nat.reduceEqDiff, Nat.reduceAdd, Nat.reduceMul, Nat.reduceSub, Nat.reduceLeDiff, Nat.reduceLT, reduceCtorEq]
    exact aw_ret ⟨trivial, _, rfl, vle2 Vle.untag (Vle.refl _), hr.sub⟩
end Go.Proofs.YtlgfffngojlffaaGreat

set_option linter.unusedSimpArgs false
set_option linter.unusedVariables false
namespace Go.Proofs.YtlgfffngojlffaaGreat
open Go.Proofs.YtlgfffngojlffaaGreatV
set_option maxHeartbeats 400000
set_option maxRecDepth 100000
/-- Where a piece that has begun ends. -/
def cutK (k : Nat) (b : List UInt8) : Nat := let n := min b.length k; let i := Lib.indexByte (b.take n) 10; if 0 ≤ i then i.toNat + 1 else n
theorem indexByte_cons (c : UInt8) (l : List UInt8) : 0 ≤ Lib.indexByte (c :: l) 10 ↔ (c = 10 ∨ 0 ≤ Lib.indexByte l 10) := by
  have := indexByte_bounds l 10
  simp only [Lib.indexByte]
  split
  · rename_i h; simp at h; simp [h]
  · rename_i h
    have hc : c ≠ 10 := by simpa using h
    split
    · rename_i h2; have h2 : Lib.indexByte l 10 = -1 := by simpa using h2
      simp [h2, hc]
    · rename_i h2
      have h2 : Lib.indexByte l 10 ≠ -1 := by simpa using h2
      constructor
      · intro e; right; omega
      · rintro (e | e)
        · exact absurd e hc
        · omega
theorem cutK_cons (k : Nat) (c : UInt8) (b : List UInt8) : cutK (k + 1) (c :: b) = if c = 10 then 1 else 1 + cutK k b := by
  have hm : min (c :: b).length (k + 1) = min b.length k + 1 := by simp only [List.length_cons]; omega
  unfold cutK
  simp only [hm, List.take_succ_cons]
  have hb := indexByte_bounds (b.take (min b.length k)) 10
  by_cases hc : c = 10
  · rw [if_pos hc, if_pos ((indexByte_cons _ _).2 (.inl hc))]
    subst hc
    simp [Lib.indexByte]
  · rw [if_neg hc]
    by_cases h0 : 0 ≤ Lib.indexByte (b.take (min b.length k)) 10
    · rw [if_pos ((indexByte_cons _ _).2 (.inr h0)), if_pos h0]
      have hc' : (c == 10) = false := by simpa using hc
      have hn : (Lib.indexByte (b.take (min b.length k)) 10 == -1) = false := by simp; omega
      simp only [Lib.indexByte, hc', hn, Bool.false_eq_true, if_false]
      omega
    · rw [if_neg h0, if_neg (fun e => by rcases (indexByte_cons _ _).1 e with e | e; exact hc e; exact h0 e)]
      omega
theorem cutsR_eq : ∀ (b now : List UInt8), now.length < 32 → cutsR now b = if b = [] then (if now = [] then [] else [now]) else (now ++ b.take (cutK (32 - now.length) b)) :: cutsR [] (b.drop (cutK (32 - now.length) b))
  | [], now, h => by simp [cutsR]
  | c :: b, now, h => by
    rw [if_neg (by simp), cutsR]
    have hk : 32 - now.length = (31 - now.length) + 1 := by omega
    rw [hk, cutK_cons]
    by_cases hc : c = 10
    · simp [hc]
    · rw [if_neg hc]
      by_cases hf : (now ++ [c]).length = 32
      · rw [if_pos (.inr hf)]
        have : 31 - now.length = 0 := by simp only [List.length_append, List.length_cons, List.length_nil] at hf; omega
        rw [this]
        have hz : cutK 0 b = 0 := by simp [cutK, Lib.indexByte]
        rw [hz]
        simp
      · rw [if_neg (by rintro (e | e); exact hc e; exact hf e), cutsR_eq b (now ++ [c]) (by simp only [List.length_append, List.length_cons, List.length_nil] at hf ⊢; omega)]
        have hl : 32 - (now ++ [c]).length = 31 - now.length := by simp only [List.length_append, List.length_cons, List.length_nil]; omega
        rw [hl, Nat.add_comm 1, List.take_succ_cons, List.drop_succ_cons]
        by_cases hb : b = []
        · subst hb
          simp [cutsR]
        · rw [if_neg hb]
          simp
theorem cut_same : ∀ (n : Nat) (b : List UInt8), b.length ≤ n → cutL b = cutsR [] b := by
  intro n
  induction n with
  | zero => intro b h; have : b = [] := List.eq_nil_of_length_eq_zero (by omega)
            subst this; simp [cutL, cutsR]
  | succ n ih =>
    intro b h
    rw [cutsR_eq b [] (by simp), cutL]
    by_cases hb : b = []
    · simp [hb]
    · have hp := cutAt_pos hb
      rw [dif_neg hb, if_neg hb]
      have : cutK (32 - ([] : List UInt8).length) b = cutAt b := rfl
      rw [this, ih _ (by simp; omega)]
      rfl
end Go.Proofs.YtlgfffngojlffaaGreat

set_option linter.unusedSimpArgs false
set_option linter.unusedVariables false
namespace Go.Proofs.YtlgfffngojlffaaGreat
open Go.Proofs.YtlgfffngojlffaaGreatV
set_option maxHeartbeats 400000
set_option maxRecDepth 100000
theorem cut_const : (cutL [97, 10, 98]).length = 2 := by
  rw [cut_same 3 _ (by decide)]
  decide
theorem map_pc (l : List (List UInt8)) (nl : Bool) : l.map (fun p => ePc (p, nl)) = (l.map fun p => (p, nl)).map ePc := by simp
theorem packV_eq (e : Bool) (o : Option (List UInt8)) : packV e o = .tup [.sl (bytesV (o.getD [])) (o.isNone || e) .no, .int .i64 (if o.isSome then 0 else 2)] := by cases o <;> simp [packV, bytesV]
theorem packV2_eq (o : Option (List UInt8)) : packV2 o = .tup [.sl (bytesV (o.getD [])) o.isNone (if o.isSome then .no else .full), .int .i64 (if o.isSome then 0 else 2)] := by cases o <;> simp [packV2, bytesV]
theorem cutL_len : ∀ b : List UInt8, (cutL b).length ≤ b.length := by
  have : ∀ n (b : List UInt8), b.length ≤ n → (cutL b).length ≤ b.length := by
    intro n
    induction n with
    | zero => intro b h; have : b = [] := List.eq_nil_of_length_eq_zero (by omega)
              subst this; simp [cutL]
    | succ n ih =>
      intro b h
      rw [cutL]
      by_cases hb : b = []
      · simp [hb]
      · have hp := cutAt_pos hb
        rw [dif_neg hb]
        have := ih (b.drop (cutAt b)) (by simp; omega)
        simp only [List.length_cons, List.length_drop] at this ⊢
        omega
  exact fun b => this _ b (Nat.le_refl _)
theorem scanL_len : ∀ b : List UInt8, (scanL b).1.length ≤ b.length := by
  have : ∀ n (b : List UInt8), b.length ≤ n → (scanL b).1.length ≤ b.length := by
    intro n
    induction n with
    | zero => intro b h; have : b = [] := List.eq_nil_of_length_eq_zero (by omega)
              subst this; simp [scanL]
    | succ n ih =>
      intro b h
      match b, h with
      | [], _ => simp [scanL]
      | [_], _ => simp [scanL]
      | x :: y :: r, h =>
        rw [scanL]
        split
        · simp
        · simp only [List.length_cons] at h ⊢
          have := ih (r.drop (x.toNat * 256 + y.toNat)) (by simp only [List.length_drop]; omega)
          simp only [List.length_drop] at this
          omega
  exact fun b => this _ b (Nat.le_refl _)
end Go.Proofs.YtlgfffngojlffaaGreat

/- Parts, ways and snapshots as they are read of bytes: plain facts. No conditions. -/
set_option linter.unusedSimpArgs false
set_option linter.unusedVariables false
namespace Go.Proofs.YtlgfffngojlffaaGreat
open Go.Proofs.YtlgfffngojlffaaGreatV
set_option maxHeartbeats 400000
set_option maxRecDepth 100000
theorem orI_hi {x y m : Nat} (hx : x < 2 ^ m) (h : y * 2 ^ m + x < 2 ^ 63) : bits BinOp.or IntKind.i64 ((y * 2 ^ m : Nat) : Int) ((x : Nat) : Int) = ((y * 2 ^ m + x : Nat) : Int) := by
  unfold bits
  simp only [show IntKind.i64.bits = 64 from rfl, BitVec.ofInt_natCast, BitVec.toNat_or, BitVec.toNat_ofNat]
  have h63 : (2 : Nat) ^ 63 = 9223372036854775808 := rfl
  have h64 : (2 : Nat) ^ 64 = 18446744073709551616 := rfl
  rw [Nat.mod_eq_of_lt (show x < 2 ^ 64 by omega), Nat.mod_eq_of_lt (show y * 2 ^ m < 2 ^ 64 by omega)]
  have := Nat.shiftLeft_add_eq_or_of_lt hx y
  rw [Nat.shiftLeft_eq] at this
  rw [← this, wrap64 (by omega) (by omega)]
/-- The number in the first four bytes. -/
def n4 (b : List UInt8) : Nat := (((b.getD 0 0).toNat * 256 + (b.getD 1 0).toNat) * 256 + (b.getD 2 0).toNat) * 256 + (b.getD 3 0).toNat
theorem n4_or (b : List UInt8) : bits BinOp.or IntKind.i64 (bits BinOp.or IntKind.i64 (bits BinOp.or IntKind.i64 (((b.getD 0 0).toNat * 2 ^ 24 : Nat) : Int) (((b.getD 1 0).toNat * 2 ^ 16 : Nat) : Int)) (((b.getD 2 0).toNat * 2 ^ 8 : Nat) : Int)) (((b.getD 3 0).toNat : Nat) : Int) = ((n4 b : Nat) : Int) := by
  have h0 := (b.getD 0 0).toNat_lt
  have h1 := (b.getD 1 0).toNat_lt
  have h2 := (b.getD 2 0).toNat_lt
  have h3 := (b.getD 3 0).toNat_lt
  unfold n4
  generalize (b.getD 0 0).toNat = x at *
  generalize (b.getD 1 0).toNat = y at *
  generalize (b.getD 2 0).toNat = z at *
  generalize (b.getD 3 0).toNat = w at *
  have e24 : (2 : Nat) ^ 24 = 16777216 := rfl
  have e16 : (2 : Nat) ^ 16 = 65536 := rfl
  have e8 : (2 : Nat) ^ 8 = 256 := rfl
  have e63 : (2 : Nat) ^ 63 = 9223372036854775808 := rfl
  rw [orI_hi (m := 24) (by omega) (by omega), show x * 2 ^ 24 + y * 2 ^ 16 = (x * 256 + y) * 2 ^ 16 by omega, orI_hi (m := 16) (by omega) (by omega), show (x * 256 + y) * 2 ^ 16 + z * 2 ^ 8 = ((x * 256 + y) * 256 + z) * 2 ^ 8 by omega, orI_hi (m := 8) (by omega) (by omega)]
theorem n4_lt (b : List UInt8) : n4 b < 4294967296 := by
  have h0 := (b.getD 0 0).toNat_lt
  have h1 := (b.getD 1 0).toNat_lt
  have h2 := (b.getD 2 0).toNat_lt
  have h3 := (b.getD 3 0).toNat_lt
  unfold n4
  omega
theorem u8_toNat (n : Nat) : (u8 (n : Int)).toNat = n % 256 := by
  have := u8_cast (n : Int)
  rw [wrap_u8] at this
  omega
theorem n4_part (p r : List UInt8) (h : p.length < 4294967296) : n4 (partB p ++ r) = p.length := by
  have e : n4 (partB p ++ r) = (((u8 (((p.length / 16777216 : Nat) : Nat) : Int)).toNat * 256 + (u8 (((p.length / 65536 : Nat) : Nat) : Int)).toNat) * 256 + (u8 (((p.length / 256 : Nat) : Nat) : Int)).toNat) * 256 + (u8 ((p.length : Nat) : Int)).toNat := rfl
  rw [e, u8_toNat, u8_toNat, u8_toNat, u8_toNat]
  omega
theorem part_drop4 (p r : List UInt8) : (partB p ++ r).drop 4 = p ++ r := rfl
/-- Parts, each with how long it is ahead. -/
def splitL (b : List UInt8) : Option (List (List UInt8)) :=
  if h0 : b = [] then some [] else if h1 : b.length < 4 then none else if b.length - 4 < n4 b then none else (splitL (b.drop (4 + n4 b))).map fun l => (b.drop 4).take (n4 b) :: l
termination_by b.length
decreasing_by simp; omega
/-- So many parts; whether that is all. -/
def partsP : List UInt8 → Nat → Option (List (List UInt8) × Bool)
  | b, 0 => some ([], decide (b.length = 0))
  | b, k + 1 => if b.length < 4 then none else if b.length - 4 < n4 b then none else (partsP (b.drop (4 + n4 b)) k).map fun q => ((b.drop 4).take (n4 b) :: q.1, q.2)
theorem part_rest (p r : List UInt8) (h : p.length < 4294967296) : (partB p ++ r).drop (4 + n4 (partB p ++ r)) = r ∧ ((partB p ++ r).drop 4).take (n4 (partB p ++ r)) = p ∧ ¬ (partB p ++ r).length < 4 ∧ ¬ (partB p ++ r).length - 4 < n4 (partB p ++ r) := by
  have hn := n4_part p r h
  have hl := partB_len p
  refine ⟨?_, ?_, ?_, ?_⟩
  · rw [← List.drop_drop, part_drop4, hn, List.drop_left]
  · rw [part_drop4, hn, List.take_left]
  · rw [List.length_append]; omega
  · rw [hn, List.length_append]; omega
theorem splitL_enc : ∀ (ps : List (List UInt8)), (∀ p ∈ ps, p.length < 4294967296) → splitL (ps.flatMap partB) = some ps
  | [], _ => by rw [List.flatMap_nil, splitL, dif_pos rfl]
  | p :: ps, h => by
    obtain ⟨e1, e2, e3, e4⟩ := part_rest p (ps.flatMap partB) (h p (by simp))
    rw [List.flatMap_cons, splitL, dif_neg (by rw [partB]; simp), dif_neg e3, if_neg e4, e1, e2, splitL_enc ps (fun q hq => h q (by simp [hq]))]
    rfl
theorem partsP_enc : ∀ (ps : List (List UInt8)), (∀ p ∈ ps, p.length < 4294967296) → partsP (ps.flatMap partB) ps.length = some (ps, true)
  | [], _ => rfl
  | p :: ps, h => by
    obtain ⟨e1, e2, e3, e4⟩ := part_rest p (ps.flatMap partB) (h p (by simp))
    rw [List.flatMap_cons, List.length_cons, partsP, if_neg e3, if_neg e4, e1, e2, partsP_enc ps (fun q hq => h q (by simp [hq]))]
    rfl
theorem splitL_len : ∀ (n : Nat) (b : List UInt8), b.length ≤ n → ∀ l, splitL b = some l → l.length ≤ b.length ∧ ∀ x ∈ l, x.length ≤ b.length
  | n, b, hn, l, h => by
    rw [splitL] at h
    split at h
    · cases h; simp
    · split at h
      · cases h
      · split at h
        · cases h
        · rename_i h0 h1 h2
          cases n with
          | zero => omega
          | succ n =>
            cases e : splitL (b.drop (4 + n4 b)) with
            | none => rw [e] at h; cases h
            | some q =>
              rw [e] at h
              cases h
              obtain ⟨i1, i2⟩ := splitL_len n _ (by simp; omega) q e
              rw [List.length_drop] at i1 i2
              refine ⟨by rw [List.length_cons]; omega, fun x hx => ?_⟩
              rcases List.mem_cons.1 hx with rfl | hx
              · simp; omega
              · have := i2 x hx; omega
theorem partsP_len : ∀ (k : Nat) (b : List UInt8) (q : List (List UInt8) × Bool), partsP b k = some q → q.1.length = k ∧ q.1.length ≤ b.length ∧ ∀ x ∈ q.1, x.length ≤ b.length
  | 0, b, q, h => by cases h; simp
  | k + 1, b, q, h => by
    rw [partsP] at h
    split at h
    · cases h
    · split at h
      · cases h
      · rename_i h1 h2
        cases e : partsP (b.drop (4 + n4 b)) k with
        | none => rw [e] at h; cases h
        | some r =>
          rw [e] at h
          cases h
          obtain ⟨i1, i2, i3⟩ := partsP_len k _ r e
          rw [List.length_drop] at i2 i3
          refine ⟨by rw [List.length_cons, i1], by rw [List.length_cons]; omega, fun x hx => ?_⟩
          rcases List.mem_cons.1 hx with rfl | hx
          · simp; omega
          · have := i3 x hx; omega
/-! ### ways -/
theorem scanL_enc : ∀ ls : List Lt, (∀ l ∈ ls, (encL l).length ≤ 65535) → scanL (ls.flatMap pk) = (ls.map encL, (ls.flatMap pk).length)
  | [], _ => by simp [scanL]
  | l :: ls, h => by
    have hl := h l (by simp)
    have ih := scanL_enc ls (fun x hx => h x (by simp [hx]))
    have e1 : (u8 (((encL l).length : Int) / 256)).toNat = (encL l).length / 256 % 256 := u8_toNat ((encL l).length / 256)
    have e2 : (u8 ((encL l).length : Int)).toNat = (encL l).length % 256 := u8_toNat _
    have en : (u8 (((encL l).length : Int) / 256)).toNat * 256 + (u8 ((encL l).length : Int)).toNat = (encL l).length := by rw [e1, e2]; omega
    rw [List.flatMap_cons, pk, List.cons_append, List.cons_append, scanL, en, if_neg (by rw [List.length_append]; omega), List.drop_left, List.take_left, ih]
    simp only [List.map_cons, List.length_cons, List.length_append, Prod.mk.injEq, true_and]
    omega
noncomputable def okL (b : List UInt8) : Bool := decide ((readLF b).2 = 0)
def at0 (x : List UInt8) (i : Nat) : Int := (((x.getD i 0).toNat : Nat) : Int)
theorem at0_range (x : List UInt8) (i : Nat) : 0 ≤ at0 x i ∧ at0 x i ≤ 255 := by
  have := (x.getD i 0).toNat_lt
  unfold at0
  omega
/-- A way that is read of a piece. -/
noncomputable def wayF (x : List UInt8) : Option Wyt :=
  if x.length < 2 then none else if (scanL (x.drop 2)).1.all okL = true then some (at0 x 0, at0 x 1, ((scanL (x.drop 2)).1.map fun b => (readLF b).1), (scanL (x.drop 2)).1.isEmpty) else none
def FineW (w : Wyt) : Prop := (0 ≤ w.1 ∧ w.1 ≤ 255) ∧ (0 ≤ w.2.1 ∧ w.2.1 ≤ 255) ∧ (∀ l ∈ w.2.2.1, GoodL l) ∧ w.2.2.1.length ≤ 4000000 ∧ w.2.2.2 = w.2.2.1.isEmpty
theorem byteI {n : Int} (h : 0 ≤ n ∧ n ≤ 255) : InI n := ⟨Int.le_trans (by decide) h.1, Int.le_trans h.2 (by decide)⟩
theorem FineW.ok {w : Wyt} (h : FineW w) : OkWyt w := ⟨byteI h.1, byteI h.2.1, by have := h.2.2.2.1; omega, fun l hl => (h.2.2.1 l hl).1.ok⟩
theorem wayF_fine {x : List UInt8} {w : Wyt} (hx : x.length ≤ bulk) (h : wayF x = some w) : FineW w := by
  have g3 : bulk = 1048576 := rfl
  unfold wayF at h
  split at h
  · cases h
  · split at h
    · rename_i h1 h2
      cases h
      have hl := scanL_len (x.drop 2)
      rw [List.length_drop] at hl
      refine ⟨at0_range _ _, at0_range _ _, fun l hl => ?_, by show (List.map _ _).length ≤ _; rw [List.length_map]; omega, by show _ = (List.map _ _).isEmpty; cases (scanL (x.drop 2)).1 <;> rfl⟩
      obtain ⟨b, hb, rfl⟩ := List.mem_map.1 hl
      rw [List.all_eq_true] at h2
      exact (readLF_ok (of_decide_eq_true (h2 b hb))).1
    · cases h
theorem wayF_enc {w : Wyt} (h : FineW w) (hb : bigW w = false) : wayF (wayB w) = some w ∧ (scanL ((wayB w).drop 2)).2 = (wayB w).length - 2 := by
  have hd : (wayB w).drop 2 = w.2.2.1.flatMap pk := rfl
  have hs := scanL_enc w.2.2.1 (fun l hl => by
    have := any_takeF hb hl
    unfold bigL at this
    have := of_decide_eq_false this
    omega)
  have hmap : (w.2.2.1.map encL).map (fun b => (readLF b).1) = w.2.2.1 := by
    rw [List.map_map]
    conv => rhs; rw [← List.map_id w.2.2.1]
    exact List.map_congr_left fun l hl => by rw [Function.comp, readLF_enc (h.2.2.1 l hl)]; rfl
  have hall : (w.2.2.1.map encL).all okL = true := by
    rw [List.all_eq_true]
    intro b hb
    obtain ⟨l, hl, rfl⟩ := List.mem_map.1 hb
    rw [okL, readLF_enc (h.2.2.1 l hl)]; rfl
  refine ⟨?_, ?_⟩
  · unfold wayF
    rw [if_neg (by rw [wayB]; simp), hd, hs, if_pos hall, hmap]
    obtain ⟨f, t, ls, nl⟩ := w
    have e1 : at0 (wayB (f, t, ls, nl)) 0 = f := u8_nat h.1
    have e2 : at0 (wayB (f, t, ls, nl)) 1 = t := u8_nat h.2.1
    have e3 : nl = ls.isEmpty := h.2.2.2.2
    rw [e1, e2, e3]
    cases ls <;> rfl
  · rw [hd, hs]
    show (w.2.2.1.flatMap pk).length = (u8 w.1 :: u8 w.2.1 :: w.2.2.1.flatMap pk).length - 2
    simp
/-! ### snapshots -/
def FineN (x : Snp) : Prop := InI x.1 ∧ ((∀ p ∈ x.2.1.1, GoodP p) ∧ x.2.1.1.length ≤ 4000000 ∧ x.2.1.2 = x.2.1.1.isEmpty) ∧ (∀ w ∈ x.2.2.1, FineW w) ∧ x.2.2.1.length ≤ 4000000 ∧ x.2.2.2 = x.2.2.1.isEmpty
theorem FineN.ok {x : Snp} (h : FineN x) : OkSnp x := ⟨h.1, by have := h.2.1.2.1; omega, fun p hp => (h.2.1.1 p hp).1.ok, by have := h.2.2.2.1; omega, fun w hw => (h.2.2.1 w hw).ok⟩
def GoodN (x : Snp) : Prop := FineN x ∧ checkN x = 0 ∧ x.2.2.1.any bigW = false
theorem FineN.zero : FineN zSnp := ⟨by decide, ⟨(fun p h => by cases h), by decide, rfl⟩, (fun p h => by cases h), by decide, rfl⟩
open Classical in
/-- What is read of bytes. -/
noncomputable def readNF (b : List UInt8) : Snp × Int := if h : ∃ x, GoodN x ∧ snapB x = b then (h.choose, 0) else (zSnp, 3)
abbrev pairN (p : Snp × Int) : V := .tup [.agg (cSnp p.1), .int .i64 p.2]
theorem readNF_no {b : List UInt8} (h : ∀ x, GoodN x → ¬ snapB x = b) : readNF b = (zSnp, 3) := by
  unfold readNF; rw [dif_neg]; exact fun ⟨x, h1, h2⟩ => h x h1 h2
theorem readNF_yes {b : List UInt8} {v : Snp} (h1 : GoodN v) (h2 : snapB v = b) (h : ∀ x, GoodN x → snapB x = b → v = x) : readNF b = (v, 0) := by
  unfold readNF
  have he : ∃ x, GoodN x ∧ snapB x = b := ⟨v, h1, h2⟩
  rw [dif_pos he, ← h _ he.choose_spec.1 he.choose_spec.2]
theorem readNF_fine (b : List UInt8) : FineN (readNF b).1 := by
  unfold readNF
  split
  · rename_i h; exact h.choose_spec.1.1
  · exact FineN.zero
/-- The pieces of a snapshot. -/
def piecesN (z : Snp) : List (List UInt8) := z.2.1.1.map encP ++ z.2.2.1.map wayB
theorem pieces_flat (z : Snp) : (piecesN z).flatMap partB = pparts z.2.1.1 ++ wparts z.2.2.1 := by
  rw [piecesN, List.flatMap_append, List.flatMap_map, List.flatMap_map]; rfl
theorem mem_flat_len {A : Type} {f : A → List UInt8} : ∀ {l : List A} {x : A}, x ∈ l → (f x).length ≤ (l.flatMap f).length
  | y :: l, x, h => by
    rw [List.flatMap_cons, List.length_append]
    rcases List.mem_cons.1 h with rfl | h
    · omega
    · have := mem_flat_len (f := f) h; omega
theorem snap_cut {z : Snp} {b : List UInt8} (h : GoodN z) (hb : snapB z = b) (hl : b.length ≤ bulk) : 10 ≤ b.length ∧ b.take 8 = beB 8 z.1 ∧ at0 b 8 = (z.2.1.1.length : Int) ∧ at0 b 9 = (z.2.2.1.length : Int) ∧ splitL (b.drop 10) = some (piecesN z) ∧ partsP (b.drop 10) (z.2.1.1.length + z.2.2.1.length) = some (piecesN z, true) := by
  have g3 : bulk = 1048576 := rfl
  obtain ⟨⟨c1, c2⟩, c3, _, _⟩ := checkN_good h.2.1
  have h8 := beB_len 8 z.1
  rw [snapB_eq, ← pieces_flat] at hb
  have hsm : ∀ p ∈ piecesN z, p.length < 4294967296 := fun p hp => by
    have h1 := mem_flat_len (f := partB) hp
    have h2 := partB_len p
    have h3 := congrArg List.length hb
    simp only [List.length_append] at h3
    omega
  have e1 : b.take 8 = beB 8 z.1 := by
    rw [← hb, List.append_assoc, List.take_append_of_le_length (by omega), List.take_of_length_le (by omega)]
  have e2 : b.drop 8 = u8 (z.2.1.1.length : Int) :: u8 (z.2.2.1.length : Int) :: (piecesN z).flatMap partB := by
    rw [← hb, List.append_assoc]
    exact List.drop_left' h8
  have e3 : b.drop 10 = (piecesN z).flatMap partB := by
    have := congrArg (List.drop 2) e2
    rw [List.drop_drop] at this
    exact this
  have hg : ∀ i, at0 b (8 + i) = at0 (b.drop 8) i := fun i => by
    unfold at0
    rw [List.getD_eq_getElem?_getD, List.getD_eq_getElem?_getD, List.getElem?_drop]
  have hlen : 10 ≤ b.length := by
    have := congrArg List.length e2
    rw [List.length_drop, List.length_cons, List.length_cons] at this
    omega
  refine ⟨hlen, e1, ?_, ?_, ?_, ?_⟩
  · rw [show 8 = 8 + 0 from rfl, hg 0, e2]
    exact u8_nat ⟨by omega, by omega⟩
  · rw [show 9 = 8 + 1 from rfl, hg 1, e2]
    exact u8_nat ⟨by omega, by omega⟩
  · rw [e3, splitL_enc _ hsm]
  · rw [e3, show z.2.1.1.length + z.2.2.1.length = (piecesN z).length by rw [piecesN, List.length_append, List.length_map, List.length_map], partsP_enc _ hsm]
theorem piece_par {z : Snp} (h : GoodN z) {i : Nat} (hi : i < (piecesN z).length) (hp : i < z.2.1.1.length) : readPF (piecesN z)[i] = (z.2.1.1[i], 0) := by
  have : (piecesN z)[i] = encP z.2.1.1[i] := by
    simp only [piecesN]
    rw [List.getElem_append_left (by simpa using hp), List.getElem_map]
  rw [this, readPF_enc (h.1.2.1.1 _ (List.getElem_mem hp))]
theorem piece_way {z : Snp} (h : GoodN z) {i : Nat} (hi : i < (piecesN z).length) (hp : ¬ i < z.2.1.1.length) (hq : i - z.2.1.1.length < z.2.2.1.length) : wayF (piecesN z)[i] = some z.2.2.1[i - z.2.1.1.length] ∧ (scanL ((piecesN z)[i].drop 2)).2 = (piecesN z)[i].length - 2 := by
  have : (piecesN z)[i] = wayB z.2.2.1[i - z.2.1.1.length] := by
    simp only [piecesN]
    rw [List.getElem_append_right (by simpa using hp), List.getElem_map]
    simp only [List.length_map]
  rw [this]
  exact wayF_enc (h.1.2.2.1 _ (List.getElem_mem hq)) (any_takeF h.2.2 (List.getElem_mem hq))
/-! ### the time -/
theorem beB_get : ∀ (k : Nat) (n : Int) (i : Nat), 0 ≤ n → i < k → (beB k n)[i]? = some (u8 (n / 256 ^ (k - 1 - i)))
  | 0, n, i, _, h => by omega
  | k + 1, n, 0, hn, h => by rw [beB_front k n hn]; simp
  | k + 1, n, i + 1, hn, h => by
    rw [beB_front k n hn, List.getElem?_cons_succ, beB_get k n i hn (by omega)]
    congr 4; omega
theorem time_step {n : Int} (hn : 0 ≤ n) (hx : n ≤ 9223372036854775807) {i : Nat} (hi : i < 8) {b : List UInt8} (hb : b.take 8 = beB 8 n) (t : Int) (ht : t = n / 256 ^ (8 - i)) : 0 ≤ t ∧ t * 256 + at0 b i = n / 256 ^ (8 - (i + 1)) ∧ t * 256 + at0 b i ≤ 9223372036854775807 := by
  have hg := beB_get 8 n i hn hi
  rw [← hb, List.getElem?_take_of_lt hi] at hg
  have ha : at0 b i = n / 256 ^ (7 - i) % 256 := by
    unfold at0
    rw [List.getD_eq_getElem?_getD, hg, Option.getD_some, u8_cast, wrap_u8]
  have hp : (0 : Int) ≤ 256 ^ (7 - i) := Int.pow_nonneg (by decide)
  have hq : n / 256 ^ (8 - i) = n / 256 ^ (7 - i) / 256 := by
    rw [Int.ediv_ediv_of_nonneg hp, ← Int.pow_succ]
    congr 2; omega
  have h0 : 0 ≤ n / 256 ^ (7 - i) := Int.ediv_nonneg hn hp
  have hle : n / 256 ^ (7 - i) ≤ n := Int.ediv_le_self _ hn
  rw [ht, hq, ha, show 8 - (i + 1) = 7 - i by omega]
  generalize n / 256 ^ (7 - i) = m at *
  omega
end Go.Proofs.YtlgfffngojlffaaGreat

/- Numbers and parcels, read: the program's. No conditions. -/
set_option linter.unusedSimpArgs false
set_option linter.unusedVariables false
namespace Go.Proofs.YtlgfffngojlffaaGreat
open Go.Proofs.YtlgfffngojlffaaGreatV
set_option maxHeartbeats 400000
set_option maxRecDepth 100000
theorem map_snocN (l : List Int) (a : Int) : l.map eNo ++ [[V.int .i64 a]] = (l ++ [a]).map eNo := by rw [List.map_append, List.map_cons, List.map_nil]; rfl
theorem map_snocL (l : List Lt) (a : Lt) : l.map eLt ++ [cLt a] = (l ++ [a]).map eLt := by rw [List.map_append, List.map_cons, List.map_nil]; rfl
theorem isEmpty_snoc {A : Type} (l : List A) (a : A) : (l ++ [a]).isEmpty = false := by cases l <;> rfl
theorem a_rnumbers (br : Nat) (nl : Bool) (rest : List UInt8) (bad : Bool) (left : Int) (G : Heap) (hl : rest.length ≤ 1099511627776) (hG : Rd G br nl rest bad left) :
    ACall Tryz.prog 58 [.ptr br 0] (numbersQ br nl rest bad G) G := by
  have hG' : hget G br = some (.vars [.sl (bytesV rest) nl .no, .bool bad, .int .i64 left]) := hG
  refine ACall.weak ?_
  refine acall_body (rs := [.tmp 2]) Tryz.func58 rfl rfl Tryz.ntmps58 (by kernel_rfl) (Nat.le_of_ble_eq_true rfl) ?_
  refine aw_sr rfl ?_  -- r0 @parcel.go:129
  simp only [go_sem, reduceIte, Nat.reduceEqDiff, Nat.reduceAdd, Nat.reduceMul, Nat.reduceSub, Nat.reduceLeDiff, Nat.reduceLT, reduceCtorEq]
  refine aw_sr rfl ?_  -- r1 @parcel.go:130
  simp only [go_sem, reduceIte, Nat.reduceEqDiff, Nat.reduceAdd, Nat.reduceMul, Nat.reduceSub, Nat.reduceLeDiff, Nat.reduceLT, reduceCtorEq]
  refine aw_seq fun K1 hK1 => ?_
  refine aw_sr rfl ?_  -- r2 @parcel.go:131
  simp only [go_sem, reduceIte, Nat.reduceEqDiff, Nat.reduceAdd, Nat.reduceMul, Nat.reduceSub, Nat.reduceLeDiff, Nat.reduceLT, reduceCtorEq]
  refine goA_by (a_rmany br nl rest bad left 1000 G (by decide) (by omega) hG) fun y G2 hy => ?_
  obtain ⟨m0, rest2, bad2, hm0, rfl, hR4, k4, hl2, hc2⟩ := hy
  simp only [go_sem, reduceIte, Nat.reduceEqDiff, Nat.reduceAdd, Nat.reduceMul, Nat.reduceSub, Nat.reduceLeDiff, Nat.reduceLT, reduceCtorEq]
  refine aw_block ?_  -- 0
  refine aw_lph (S := {s : List Int × Nat × Tag × List UInt8 × Bool × Heap // (∀ a ∈ s.1, InI a) ∧ s.1.length + s.2.1 ≤ 1000 ∧ Rd s.2.2.2.2.2 br nl s.2.2.2.1 s.2.2.2.2.1 left ∧ Rm (off br G) s.2.2.2.2.2 1 s.2.2.1 ∧ KB br G s.2.2.2.2.2 ∧ s.2.2.2.1.length ≤ rest.length ∧
      ∀ (z : List Int) (r : List UInt8), rest = encNs z ++ r → (∀ n ∈ z, InI n ∧ 1 ≤ n) → z.length ≤ 1000 → bad = false → s.2.2.2.2.1 = false ∧ s.1 = z.take s.1.length ∧ s.1.length + s.2.1 = z.length ∧ s.2.2.2.1 = encI (z.drop s.1.length) ++ r})
    (fun s => [(0, .ptr br 0), (3, .sl (s.1.1.map eNo) s.1.1.isEmpty s.1.2.2.1), (4, .int .i64 ((s.1.2.1 : Nat) : Int))]) (fun s => s.1.2.2.2.2.2) (fun s => s.1.2.1)
    ⟨([], m0, .full, rest2, bad2, G2), by simp, by simpa using hm0, hR4, Rm.start _ _ _, k4, by show rest2.length ≤ _; omega, ?_⟩ ?_ (fun _ _ h => h) ?_
  · intro z r h1 h2 h3 h4
    rw [encNs, List.append_assoc] at h1
    obtain ⟨b1', b2', b3'⟩ := hc2 _ _ h1 h3 h4
    refine ⟨b3', rfl, ?_, b2'⟩
    show 0 + m0 = _; omega
  · simp only [go_sem, reduceIte, Nat.reduceEqDiff, Nat.reduceAdd, Nat.reduceMul, Nat.reduceSub, Nat.reduceLeDiff, Nat.reduceLT, reduceCtorEq]
  intro ⟨⟨as_, m, t, rs, bd, H⟩, i1, i2, i5, i7, i9, i10, i11⟩
  simp only at i1 i2 i5 i7 i9 i10 i11 ⊢
  have i5' : hget H br = some (.vars [.sl (bytesV rs) nl .no, .bool bd, .int .i64 left]) := i5
  refine aw_seq fun K2 hK2 => ?_
  refine aw_sr rfl ?_  -- r3 @parcel.go:131
  simp only [go_sem, reduceIte, Nat.reduceEqDiff, Nat.reduceAdd, Nat.reduceMul, Nat.reduceSub, Nat.reduceLeDiff, Nat.reduceLT, reduceCtorEq, i5']
  refine aw_if rfl (fun h => ?_) (fun h => ?_)
  · have hmb : 0 < m ∧ bd = false := by
      rw [Bool.and_eq_true] at h
      obtain ⟨q1, q2⟩ := h
      rw [decide_eq_true_eq] at q1
      exact ⟨by omega, by simpa using q2⟩
    obtain ⟨hm, rfl⟩ := hmb
    refine aw_skip (hK2 _ _ ?_)
    refine aw_seq fun K3 hK3 => ?_
    refine aw_block ?_  -- 1
    refine aw_rg rfl ?_  -- r5 @parcel.go:132
    simp only [go_sem, reduceIte, Nat.reduceEqDiff, Nat.reduceAdd, Nat.reduceMul, Nat.reduceSub, Nat.reduceLeDiff, Nat.reduceLT, reduceCtorEq]
    refine goA_by (a_rnatural br nl rs false left H (by omega) i5) fun y G1 hy => ?_
    obtain ⟨n, rs', bd', hn, rfl, j1, jk, j2, j6⟩ := hy
    have kr := Rm.kb i7 jk i5'
    simp only [go_sem, reduceIte, Nat.reduceEqDiff, Nat.reduceAdd, Nat.reduceMul, Nat.reduceSub, Nat.reduceLeDiff, Nat.reduceLT, reduceCtorEq]
    refine goP_rm kr (i9.trans jk).off ?_ fun t1 H1 hr1 hs1 hg1 => ?_
    · exact ⟨rfl, rfl, by decide, wid_eNo _, wid_one rfl, sca_one rfl, by simp; omega, by simp; omega⟩
    simp only [go_sem, reduceIte, Nat.reduceEqDiff, Nat.reduceAdd, Nat.reduceMul, Nat.reduceSub, Nat.reduceLeDiff, Nat.reduceLT, reduceCtorEq, Bool.and_false]
    rw [map_snocN as_]
    refine hK3 _ _ ?_
    refine aw_rg rfl ?_  -- r4 @parcel.go:131
    simp only [go_sem, reduceIte, Nat.reduceEqDiff, Nat.reduceAdd, Nat.reduceMul, Nat.reduceSub, Nat.reduceLeDiff, Nat.reduceLT, reduceCtorEq]
    refine ⟨⟨(as_ ++ [IntKind.i64.wrap ((n : Nat) : Int)], m - 1, t1, rs', bd', H1), ?_, ?_, hg1.vars j1, hr1, KB.on hs1, Nat.le_trans j2 i10, ?_⟩, ?_, ⟨rfl, ?_, ?_⟩, sub_rfl⟩
    · intro a ha
      rcases List.mem_append.1 ha with ha | ha
      · exact i1 a ha
      · rw [List.mem_singleton.1 ha]; exact wrapI_range _
    · show (as_ ++ [IntKind.i64.wrap ((n : Nat) : Int)]).length + (m - 1) ≤ 1000
      rw [List.length_append, List.length_singleton]; omega
    · intro z r h1 h2 h3 h4
      obtain ⟨p1, p5, p6, p7⟩ := i11 z r h1 h2 h3 h4
      have hk : as_.length < z.length := by omega
      obtain ⟨g1, g2⟩ := h2 _ (List.getElem_mem hk)
      have g3 := i64_range g1
      rw [encI_drop hk, List.append_assoc] at p7
      obtain ⟨q1, q2, q3⟩ := j6 _ _ p7 (by omega) rfl
      have hw : IntKind.i64.wrap ((n : Nat) : Int) = z[as_.length] := i64_nat (by omega) g1 q1
      refine ⟨q3, ?_, ?_, ?_⟩
      · show as_ ++ [IntKind.i64.wrap ((n : Nat) : Int)] = z.take (as_ ++ [IntKind.i64.wrap ((n : Nat) : Int)]).length
        rw [List.length_append, List.length_singleton, List.take_succ_eq_append_getElem hk, ← p5, hw]
      · show (as_ ++ [IntKind.i64.wrap ((n : Nat) : Int)]).length + (m - 1) = z.length
        rw [List.length_append, List.length_singleton]; omega
      · show rs' = encI (z.drop (as_ ++ [IntKind.i64.wrap ((n : Nat) : Int)]).length) ++ _
        rw [List.length_append, List.length_singleton]; exact q2
    · show m - 1 < m; omega
    · show some _ = some (V.sl ((as_ ++ [IntKind.i64.wrap ((n : Nat) : Int)]).map eNo) (as_ ++ [IntKind.i64.wrap ((n : Nat) : Int)]).isEmpty t1)
      rw [isEmpty_snoc]
    · show some (V.int .i64 (IntKind.i64.wrap ((m : Int) - 1))) = some (V.int .i64 ((m - 1 : Nat) : Int))
      rw [wrap64 (by omega) (by omega)]; congr 2; omega
  · refine aw_exit ?_  -- 0
    refine hK1 _ _ ?_
    refine aw_sr rfl ?_  -- r6 @parcel.go:134
    simp only [go_sem, reduceIte, Nat.reduceEqDiff, Nat.reduceAdd, Nat.reduceMul, Nat.reduceSub, Nat.reduceLeDiff, Nat.reduceLT, reduceCtorEq]
    refine aw_ret ⟨trivial, _, rfl, .sl (as_.map eNo) as_.isEmpty .no, H, Vle.untag, sub_rfl, as_, rs, bd, left, i1, by show as_.length ≤ _; omega, rfl, i5, i9, i10, ?_⟩
    intro z r h1 h2 h3 h4
    obtain ⟨p1, p5, p6, p7⟩ := i11 z r h1 h2 h3 h4
    have hm0 : m = 0 := by
      rw [p1] at h
      by_cases hlt : (0 : Int) < (m : Int)
      · rw [decide_eq_true hlt] at h; exact absurd h (by decide)
      · omega
    have hlen : as_.length = z.length := by omega
    rw [hlen, List.take_length] at p5
    rw [hlen, List.drop_length, encI, List.flatMap_nil, List.nil_append] at p7
    exact ⟨p5, p7, p1⟩
end Go.Proofs.YtlgfffngojlffaaGreat

/- ReadParcel: what is read of bytes is what they were written for; other bytes are none of a parcel's. No conditions. -/
set_option linter.unusedSimpArgs false
set_option linter.unusedVariables false
namespace Go.Proofs.YtlgfffngojlffaaGreat
open Go.Proofs.YtlgfffngojlffaaGreatV
set_option maxHeartbeats 400000
set_option maxRecDepth 100000
theorem q_ReadParcel (b : List UInt8) (nl : Bool) (hb : b.length ≤ bulk) : Quiet Tryz.prog 30 [.sl (bytesV b) nl .no] (pairP (readPF b)) := by
  have hbl : b.length ≤ 1048576 := hb
  refine Quiet.weak fun G => ?_
  refine acall_body (rs := [.cell 2 48, .tmp 3]) Tryz.func30 rfl rfl Tryz.ntmps30 (by kernel_rfl) (Nat.le_of_ble_eq_true rfl) ?_
  refine aw_sr rfl ?_  -- r0 @parcel.go:156
  simp only [go_sem, reduceIte, Nat.reduceEqDiff, Nat.reduceAdd, Nat.reduceMul, Nat.reduceSub, Nat.reduceLeDiff, Nat.reduceLT, reduceCtorEq]
  intro b2 hb2
  refine aw_box1 hb2 fun B1 hs1 h2 => ?_
  refine aw_sr rfl ?_  -- r1 @parcel.go:157
  simp only [go_sem, reduceIte, Nat.reduceEqDiff, Nat.reduceAdd, Nat.reduceMul, Nat.reduceSub, Nat.reduceLeDiff, Nat.reduceLT, reduceCtorEq]
  intro br hbr
  have ne2 : ¬ b2 = br := fun e => ne_fresh h2 hbr e
  have hGr : hget G br = none := none_sub hs1 hbr
  refine aw_box1 hbr fun B2 hs2 hR => ?_
  replace h2 := hs2 _ _ h2
  have hR0 : Rd B2 br nl b false 0 := hR
  refine aw_sr rfl ?_  -- r2 @parcel.go:158
  simp only [go_sem, reduceIte, Nat.reduceEqDiff, Nat.reduceAdd, Nat.reduceMul, Nat.reduceSub, Nat.reduceLeDiff, Nat.reduceLT, reduceCtorEq]
  refine goA_by (a_rnatural br nl b false 0 B2 (by omega) hR0) fun y G1 hy => ?_
  obtain ⟨n0, rest1, bad1, hn0, rfl, hR1, k1, hl1, hc1⟩ := hy
  have h21 := k1 _ _ ne2 h2
  simp only [go_sem, reduceIte, Nat.reduceEqDiff, Nat.reduceAdd, Nat.reduceMul, Nat.reduceSub, Nat.reduceLeDiff, Nat.reduceLT, reduceCtorEq]
  intro b5 hb5
  have ne5 : ¬ b5 = br := fun e => ne_fresh hR1 hb5 e.symm
  have ne52 : ¬ b5 = b2 := fun e => ne_fresh h21 hb5 e.symm
  have hG5 : hget B2 b5 = none := k1.none ne5 hb5
  refine aw_box1 hb5 fun H1 hs3 h5 => ?_
  have hR2 : Rd H1 br nl rest1 bad1 0 := hs3 _ _ hR1
  replace h21 := hs3 _ _ h21
  have kk1 : KB br B2 H1 := k1.sub hs3
  refine aw_sr rfl ?_  -- r3 @parcel.go:159
  simp only [go_sem, reduceIte, Nat.reduceEqDiff, Nat.reduceAdd, Nat.reduceMul, Nat.reduceSub, Nat.reduceLeDiff, Nat.reduceLT, reduceCtorEq]
  refine goA_by (a_rsaved br nl rest1 bad1 0 H1 (by omega) hR2) fun y G2 hy => ?_
  obtain ⟨sv, rest2, bad2, left2, hsv, rfl, hR3, k2, hl2, hc2⟩ := hy
  have h52 := k2 _ _ ne5 h5
  have h22 := k2 _ _ ne2 h21
  simp only [go_sem, reduceIte, Nat.reduceEqDiff, Nat.reduceAdd, Nat.reduceMul, Nat.reduceSub, Nat.reduceLeDiff, Nat.reduceLT, reduceCtorEq, h52]
  generalize hH2 : hset G2 b5 _ = H2
  obtain ⟨h5, hk, hK, _, _⟩ := st_facts hH2 h52 (fun _ _ e => by cases e)
  have hR4 : Rd H2 br nl rest2 bad2 left2 := hk _ _ (fun e => ne5 e.symm) hR3
  replace h22 := hk _ _ (fun e => ne52 e.symm) h22
  have kk2 : KB br B2 H2 := hK _ _ hG5 (kk1.trans k2)
  clear hK hk hH2
  refine aw_seq fun K4 hK4 => ?_
  refine aw_sr rfl ?_  -- r4 @parcel.go:160
  simp only [go_sem, reduceIte, Nat.reduceEqDiff, Nat.reduceAdd, Nat.reduceMul, Nat.reduceSub, Nat.reduceLeDiff, Nat.reduceLT, reduceCtorEq]
  refine goA_by (a_rmany br nl rest2 bad2 left2 60 H2 (by decide) (by omega) hR4) fun y G3 hy => ?_
  obtain ⟨m0, rest3, bad3, hm0, rfl, hR5, k3, hl3, hc3⟩ := hy
  have h53 := k3 _ _ ne5 h5
  have h23 := k3 _ _ ne2 h22
  simp only [go_sem, reduceIte, Nat.reduceEqDiff, Nat.reduceAdd, Nat.reduceMul, Nat.reduceSub, Nat.reduceLeDiff, Nat.reduceLT, reduceCtorEq]
  have hcan0 : ∀ (z : Pcl) (r : List UInt8), b = encP z ++ r → GoodP z → bad3 = false ∧ IntKind.i64.wrap ((n0 : Nat) : Int) = z.1 ∧ sv = z.2.1 ∧ m0 = z.2.2.1.1.length ∧ rest3 = encLs z.2.2.1.1 ++ (natB (numN z.2.2.2.1) ++ (encNs z.2.2.2.2.1.1 ++ (encNs z.2.2.2.2.2.1 ++ r))) := by
    intro z r h1 h2
    obtain ⟨c1, c2, c3, c4, c5, c6⟩ := checkP_good h2.2
    have o1 := i64_range h2.1.1
    rw [encP] at h1
    simp only [List.append_assoc] at h1
    obtain ⟨a1, a2, a3⟩ := hc1 _ _ h1 (by omega) rfl
    obtain ⟨b1', b2', b3'⟩ := hc2 _ _ a2 h2.saved a3
    obtain ⟨d1, d2, d3⟩ := hc3 _ _ b2' c2.1 b3'
    exact ⟨d3, i64_nat (by omega) h2.1.1 a1, b1', d1, d2⟩
  refine aw_block ?_  -- 0
  refine aw_lph (S := {s : List Lt × Nat × Tag × List UInt8 × Bool × Int × Heap // (∀ a ∈ s.1, FineL a) ∧ s.1.length + s.2.1 ≤ 60 ∧ Rd s.2.2.2.2.2.2 br nl s.2.2.2.1 s.2.2.2.2.1 s.2.2.2.2.2.1 ∧
      hget s.2.2.2.2.2.2 b5 = some (.vars (pcC (IntKind.i64.wrap ((n0 : Nat) : Int)) sv (.sl (s.1.map eLt) s.1.isEmpty s.2.2.1) 0 (.sl [] true .full) (.sl [] true .full))) ∧ Rm (off br B2) s.2.2.2.2.2.2 9 s.2.2.1 ∧
      hget s.2.2.2.2.2.2 b2 = some (.vars pcZ) ∧ KB br B2 s.2.2.2.2.2.2 ∧ s.2.2.2.1.length ≤ b.length ∧
      ∀ (z : Pcl) (r : List UInt8), b = encP z ++ r → GoodP z → s.2.2.2.2.1 = false ∧ IntKind.i64.wrap ((n0 : Nat) : Int) = z.1 ∧ sv = z.2.1 ∧ s.1 = z.2.2.1.1.take s.1.length ∧ s.1.length + s.2.1 = z.2.2.1.1.length ∧ s.2.2.2.1 = encLs (z.2.2.1.1.drop s.1.length) ++ (natB (numN z.2.2.2.1) ++ (encNs z.2.2.2.2.1.1 ++ (encNs z.2.2.2.2.2.1 ++ r)))})
    (fun s => [(0, .sl (bytesV b) nl .no), (2, .ptr b2 0), (4, .ptr br 0), (5, .ptr b5 0), (6, .int .i64 ((s.1.2.1 : Nat) : Int))]) (fun s => s.1.2.2.2.2.2.2) (fun s => s.1.2.1)
    ⟨([], m0, .full, rest3, bad3, left2, G3), by simp, by simpa using hm0, hR5, h53, Rm.start _ _ _, h23, kk2.trans k3, by show rest3.length ≤ _; omega, ?_⟩ ?_ (fun _ _ h => h) ?_
  · intro z r h1 h2
    obtain ⟨a1, a2, a3, a4, a5⟩ := hcan0 z r h1 h2
    exact ⟨a1, a2, a3, rfl, by show 0 + m0 = _; omega, a5⟩
  · simp only [go_sem, reduceIte, Nat.reduceEqDiff, Nat.reduceAdd, Nat.reduceMul, Nat.reduceSub, Nat.reduceLeDiff, Nat.reduceLT, reduceCtorEq]
  intro ⟨⟨as_, m, t, rs, bd, lf, H⟩, i1, i2, i5, i6, i7, i8, i9, i10, i11⟩
  simp only at i1 i2 i5 i6 i7 i8 i9 i10 i11 ⊢
  have i5' : hget H br = some (.vars [.sl (bytesV rs) nl .no, .bool bd, .int .i64 lf]) := i5
  refine aw_seq fun K5 hK5 => ?_
  refine aw_sr rfl ?_  -- r5 @parcel.go:160
  simp only [go_sem, reduceIte, Nat.reduceEqDiff, Nat.reduceAdd, Nat.reduceMul, Nat.reduceSub, Nat.reduceLeDiff, Nat.reduceLT, reduceCtorEq, i5']
  refine aw_if rfl (fun h => ?_) (fun h => ?_)
  · have hmb : 0 < m ∧ bd = false := by
      rw [Bool.and_eq_true] at h
      obtain ⟨q1, q2⟩ := h
      rw [decide_eq_true_eq] at q1
      exact ⟨by omega, by simpa using q2⟩
    obtain ⟨hm, rfl⟩ := hmb
    refine aw_skip (hK5 _ _ ?_)
    refine aw_seq fun K6 hK6 => ?_
    refine aw_block ?_  -- 1
    refine aw_rgf [(0,true),(2,true)] 1 3 [(3,false),(4,true),(5,false),(6,true),(7,false)] [(4,true),(1,false),(5,false),(6,true),(7,false)] mixed rfl (by kernel_rfl) ?_  -- r7 @parcel.go:161
    simp only [go_sem, reduceIte, Nat.reduceEqDiff, Nat.reduceAdd, Nat.reduceMul, Nat.reduceSub, Nat.reduceLeDiff, Nat.reduceLT, reduceCtorEq, i6]
    refine ⟨?_, ?_⟩
    all_goals
      refine goA_by (a_rletter br nl rs false lf H (by omega) i5) fun y G1 hy => ?_
      obtain ⟨v, rs', bd', left', hv, rfl, j1, jk, j2, j6⟩ := hy
      have k6 := jk _ _ ne5 i6
      have k8 := jk _ _ ne2 i8
      have kr := Rm.kb i7 jk i5'
      simp only [go_sem, reduceIte, Nat.reduceEqDiff, Nat.reduceAdd, Nat.reduceMul, Nat.reduceSub, Nat.reduceLeDiff, Nat.reduceLT, reduceCtorEq, k6]
      refine goP_rm kr (i9.trans jk).off ?_ fun t1 H1 hr1 hs1 hg1 => ?_
      · exact ⟨rfl, rfl, by decide, wid_eLt _, wid_one rfl, sca_one rfl, by simp; omega, by simp; omega⟩
      simp only [go_sem, reduceIte, Nat.reduceEqDiff, Nat.reduceAdd, Nat.reduceMul, Nat.reduceSub, Nat.reduceLeDiff, Nat.reduceLT, reduceCtorEq, hg1.vars k6, Bool.and_false]
      rw [map_snocL as_ v]
      refine hK6 _ _ ?_
      refine aw_rg rfl ?_  -- r6 @parcel.go:160
      simp only [go_sem, reduceIte, Nat.reduceEqDiff, Nat.reduceAdd, Nat.reduceMul, Nat.reduceSub, Nat.reduceLeDiff, Nat.reduceLT, reduceCtorEq]
      generalize hH3 : hset H1 b5 _ = H3
      obtain ⟨u5, hk, hK, hRm, _⟩ := st_facts hH3 (hg1.vars k6) (fun _ _ e => by cases e)
      refine ⟨⟨(as_ ++ [v], m - 1, t1, rs', bd', left', H3), ?_, ?_, hk _ _ (fun e => ne5 e.symm) (hg1.vars j1), ?_, hRm _ _ _ hr1, hk _ _ (fun e => ne52 e.symm) (hg1.vars k8), hK _ _ hG5 (KB.on hs1), Nat.le_trans j2 i10, ?_⟩, ?_, ⟨rfl, rfl, rfl, rfl, ?_⟩, sub_rfl⟩
      · intro a ha
        rcases List.mem_append.1 ha with ha | ha
        · exact i1 a ha
        · rw [List.mem_singleton.1 ha]; exact hv
      · show (as_ ++ [v]).length + (m - 1) ≤ 60
        rw [List.length_append, List.length_singleton]; omega
      · rw [isEmpty_snoc]; exact u5
      · intro z r h1 h2
        obtain ⟨p1, p2, p3, p5, p6, p7⟩ := i11 z r h1 h2
        have hk : as_.length < z.2.2.1.1.length := by omega
        have hg := h2.letter (List.getElem_mem hk)
        rw [encLs_drop hk, List.append_assoc] at p7
        obtain ⟨q1, q2, q3⟩ := j6 _ _ p7 hg rfl
        refine ⟨q3, p2, p3, ?_, ?_, ?_⟩
        · show as_ ++ [v] = z.2.2.1.1.take (as_ ++ [v]).length
          rw [List.length_append, List.length_singleton, List.take_succ_eq_append_getElem hk, ← p5, q1]
        · show (as_ ++ [v]).length + (m - 1) = z.2.2.1.1.length
          rw [List.length_append, List.length_singleton]; omega
        · show rs' = encLs (z.2.2.1.1.drop (as_ ++ [v]).length) ++ _
          rw [List.length_append, List.length_singleton]; exact q2
      · show m - 1 < m; omega
      · show some (V.int .i64 (IntKind.i64.wrap ((m : Int) - 1))) = some (V.int .i64 ((m - 1 : Nat) : Int))
        rw [wrap64 (by omega) (by omega)]; congr 2; omega
  · refine aw_exit ?_  -- 0
    refine hK4 _ _ ?_
    have hcan : ∀ (z : Pcl) (r : List UInt8), b = encP z ++ r → GoodP z → bd = false ∧ IntKind.i64.wrap ((n0 : Nat) : Int) = z.1 ∧ sv = z.2.1 ∧ as_ = z.2.2.1.1 ∧ rs = natB (numN z.2.2.2.1) ++ (encNs z.2.2.2.2.1.1 ++ (encNs z.2.2.2.2.2.1 ++ r)) := by
      intro z r h1 h2
      obtain ⟨p1, p2, p3, p5, p6, p7⟩ := i11 z r h1 h2
      have hm0 : m = 0 := by
        rw [p1] at h
        by_cases hlt : (0 : Int) < (m : Int)
        · rw [decide_eq_true hlt] at h; exact absurd h (by decide)
        · omega
      have hlen : as_.length = z.2.2.1.1.length := by omega
      rw [hlen, List.take_length] at p5
      rw [hlen, List.drop_length, encLs, List.flatMap_nil, List.nil_append] at p7
      exact ⟨p1, p2, p3, p5, p7⟩
    refine aw_sr rfl ?_  -- r8 @parcel.go:163
    simp only [go_sem, reduceIte, Nat.reduceEqDiff, Nat.reduceAdd, Nat.reduceMul, Nat.reduceSub, Nat.reduceLeDiff, Nat.reduceLT, reduceCtorEq]
    refine goA_by (a_rnum br nl rs bd lf H (by omega) i5) fun y G5 hy => ?_
    obtain ⟨tk, rest5, bad5, htk, rfl, hR5, k5, hl5, hc5⟩ := hy
    have h55 := k5 _ _ ne5 i6
    have h25 := k5 _ _ ne2 i8
    simp only [go_sem, reduceIte, Nat.reduceEqDiff, Nat.reduceAdd, Nat.reduceMul, Nat.reduceSub, Nat.reduceLeDiff, Nat.reduceLT, reduceCtorEq, h55]
    generalize hH5 : hset G5 b5 _ = H5
    obtain ⟨h5, hk, hK, _, _⟩ := st_facts hH5 h55 (fun _ _ e => by cases e)
    have hR6 : Rd H5 br nl rest5 bad5 lf := hk _ _ (fun e => ne5 e.symm) hR5
    replace h25 := hk _ _ (fun e => ne52 e.symm) h25
    have kk5 : KB br B2 H5 := hK _ _ hG5 (i9.trans k5)
    clear hK hk hH5
    refine aw_sr rfl ?_  -- r9 @parcel.go:164
    simp only [go_sem, reduceIte, Nat.reduceEqDiff, Nat.reduceAdd, Nat.reduceMul, Nat.reduceSub, Nat.reduceLeDiff, Nat.reduceLT, reduceCtorEq]
    refine goA_by (a_rnumbers br nl rest5 bad5 lf H5 (by omega) hR6) fun y G6 hy => ?_
    obtain ⟨wa, rest6, bad6, left6, hwa, hwl, rfl, hR7, k6, hl6, hc6⟩ := hy
    have h56 := k6 _ _ ne5 h5
    have h26 := k6 _ _ ne2 h25
    simp only [go_sem, reduceIte, Nat.reduceEqDiff, Nat.reduceAdd, Nat.reduceMul, Nat.reduceSub, Nat.reduceLeDiff, Nat.reduceLT, reduceCtorEq, h56]
    generalize hH6 : hset G6 b5 _ = H6
    obtain ⟨h5, hk, hK, _, _⟩ := st_facts hH6 h56 (fun _ _ e => by cases e)
    have hR8 : Rd H6 br nl rest6 bad6 left6 := hk _ _ (fun e => ne5 e.symm) hR7
    replace h26 := hk _ _ (fun e => ne52 e.symm) h26
    have kk6 : KB br B2 H6 := hK _ _ hG5 (kk5.trans k6)
    clear hK hk hH6
    refine aw_sr rfl ?_  -- r10 @parcel.go:165
    simp only [go_sem, reduceIte, Nat.reduceEqDiff, Nat.reduceAdd, Nat.reduceMul, Nat.reduceSub, Nat.reduceLeDiff, Nat.reduceLT, reduceCtorEq]
    refine goA_by (a_rnumbers br nl rest6 bad6 left6 H6 (by omega) hR8) fun y G7 hy => ?_
    obtain ⟨li, rest7, bad7, left7, hli, hll, rfl, hR9, k7, hl7, hc7⟩ := hy
    have h57 := k7 _ _ ne5 h5
    have h27 := k7 _ _ ne2 h26
    simp only [go_sem, reduceIte, Nat.reduceEqDiff, Nat.reduceAdd, Nat.reduceMul, Nat.reduceSub, Nat.reduceLeDiff, Nat.reduceLT, reduceCtorEq, h57]
    generalize hH7 : hset G7 b5 _ = H7
    obtain ⟨h5, hk, hK, _, _⟩ := st_facts hH7 h57 (fun _ _ e => by cases e)
    have hR10 : Rd H7 br nl rest7 bad7 left7 := hk _ _ (fun e => ne5 e.symm) hR9
    replace h27 := hk _ _ (fun e => ne52 e.symm) h27
    have kk7 : KB br B2 H7 := hK _ _ hG5 (kk6.trans k7)
    clear hK hk hH7
    have hv : FineP (IntKind.i64.wrap ((n0 : Nat) : Int), sv, (as_, as_.isEmpty), tk, (wa, wa.isEmpty), (li, li.isEmpty)) :=
      ⟨wrapI_range _, hsv, ⟨i1, by show as_.length ≤ _; omega, rfl⟩, htk, ⟨hwa, by show wa.length ≤ _; omega, rfl⟩, hli, by show li.length ≤ _; omega, rfl⟩
    have hcanz : ∀ z, GoodP z → encP z = b → (IntKind.i64.wrap ((n0 : Nat) : Int), sv, (as_, as_.isEmpty), tk, (wa, wa.isEmpty), (li, li.isEmpty)) = z ∧ rest7 = [] ∧ bad7 = false := by
      intro z hz hzb
      obtain ⟨p1, p2, p3, p4, p5⟩ := hcan z [] (by rw [List.append_nil]; exact hzb.symm) hz
      obtain ⟨q1, q2, q3, q4, q5, q6⟩ := checkP_good hz.2
      obtain ⟨a1, a2, a3⟩ := hc5 _ _ p5 hz.1.2.2.2.1 p1
      obtain ⟨b1', b2', b3'⟩ := hc6 _ _ a2 (fun n hn => hz.watch hn) q2.2.1 a3
      obtain ⟨d1, d2, d3⟩ := hc7 _ _ b2' (fun n hn => hz.link hn) q2.2.2 b3'
      refine ⟨?_, d2, d3⟩
      obtain ⟨zr, zs, ⟨zb, zbn⟩, zt, ⟨zw, zwn⟩, zl, zln⟩ := z
      have e1 := hz.1.2.2.1.2.2
      have e2 := hz.1.2.2.2.2.1.2.2
      have e3 := hz.1.2.2.2.2.2.2.2
      simp only at p2 p3 p4 a1 b1' d1 e1 e2 e3
      rw [e1, e2, e3, p2, p3, p4, a1, b1', d1]
    have hsG : Sub G H7 := fun x o hx => kk7 _ _ (fun e => by rw [e, hGr] at hx; cases hx) (hs2 _ _ (hs1 _ _ hx))
    refine AW.hle (ds := cPcl (IntKind.i64.wrap ((n0 : Nat) : Int), sv, (as_, as_.isEmpty), tk, (wa, wa.isEmpty), (li, li.isEmpty))) h5 (by repeat (first | exact .nil | refine .cons (Vle.refl _) ?_ | refine .cons Vle.untag ?_ | refine .cons (Vle.aggL ?_) ?_ | refine .cons (Vle.slE ?_) ?_)) ?_
    generalize hH8 : hset H7 b5 _ = H8
    obtain ⟨h5, hk, _, _, hS⟩ := st_facts hH8 h5 (fun _ _ e => by cases e)
    have hR11 : Rd H8 br nl rest7 bad7 left7 := hk _ _ (fun e => ne5 e.symm) hR10
    replace h27 := hk _ _ (fun e => ne52 e.symm) h27
    replace hsG := hS _ (none_sub (sub_trans hs1 hs2) hG5) hsG
    clear hS hk hH8
    generalize hvv : ((IntKind.i64.wrap ((n0 : Nat) : Int), sv, (as_, as_.isEmpty), tk, (wa, wa.isEmpty), (li, li.isEmpty)) : Pcl) = v at hv hcanz h5
    refine aw_sr rfl ?_  -- r11 @parcel.go:166
    simp only [go_sem, reduceIte, Nat.reduceEqDiff, Nat.reduceAdd, Nat.reduceMul, Nat.reduceSub, Nat.reduceLeDiff, Nat.reduceLT, reduceCtorEq, h5]
    refine goA_q (q_Parcel v hv.ok) ?_
    simp only [go_sem, reduceIte, Nat.reduceEqDiff, Nat.reduceAdd, Nat.reduceMul, Nat.reduceSub, Nat.reduceLeDiff, Nat.reduceLT, reduceCtorEq]
    refine aw_seq fun K7 hK7 => ?_
    refine aw_sr rfl ?_  -- r12 @parcel.go:167
    simp only [go_sem, reduceIte, Nat.reduceEqDiff, Nat.reduceAdd, Nat.reduceMul, Nat.reduceSub, Nat.reduceLeDiff, Nat.reduceLT, reduceCtorEq]
    refine goA_by (a_rdone br nl rest7 bad7 left7 b (parcelF v).1.1 nl (parcelF v).1.2 (parcelF v).2 H8 hR11) fun y G4 hy => ?_
    obtain ⟨rfl, rfl⟩ := hy
    simp only [go_sem, reduceIte, Nat.reduceEqDiff, Nat.reduceAdd, Nat.reduceMul, Nat.reduceSub, Nat.reduceLeDiff, Nat.reduceLT, reduceCtorEq]
    refine aw_if rfl (fun h => ?_) (fun h => ?_)
    · refine aw_sr rfl ?_  -- r13 @parcel.go:168
      simp only [go_sem, reduceIte, Nat.reduceEqDiff, Nat.reduceAdd, Nat.reduceMul, Nat.reduceSub, Nat.reduceLeDiff, Nat.reduceLT, reduceCtorEq, h27]
      have h24 := hget_hset_self (y := .vars pcZ) h27
      refine aw_ret ⟨trivial, ?_⟩
      simp only [go_sem, reduceIte, Nat.reduceEqDiff, Nat.reduceAdd, Nat.reduceMul, Nat.reduceSub, Nat.reduceLeDiff, Nat.reduceLT, reduceCtorEq, resL, resOf, h24]
      refine ⟨_, rfl, ?_, sub_hset_fresh hb2 hsG⟩
      rw [readPF_no]
      · exact Vle.tupL (.cons (Vle.aggL (by repeat (first | exact .nil | refine .cons (Vle.refl _) ?_ | refine .cons Vle.untag ?_ | refine .cons (Vle.aggL ?_) ?_ | refine .cons (Vle.slE ?_) ?_))) (.cons (Vle.refl _) .nil))
      · intro x hx hxb
        obtain ⟨q1, q2, q3⟩ := hcanz x hx hxb
        subst q1
        refine absurd h ?_
        rw [parcelF, if_neg (by rw [hx.2]; simp)]
        simp [q2, q3, hxb]
    refine aw_skip (hK7 _ _ ?_)
    refine aw_sr rfl ?_  -- r14 @parcel.go:170
    simp only [go_sem, reduceIte, Nat.reduceEqDiff, Nat.reduceAdd, Nat.reduceMul, Nat.reduceSub, Nat.reduceLeDiff, Nat.reduceLT, reduceCtorEq, h27, h5]
    have h24 := hget_hset_self (y := .vars (cPcl v)) h27
    refine aw_ret ⟨trivial, ?_⟩
    simp only [go_sem, reduceIte, Nat.reduceEqDiff, Nat.reduceAdd, Nat.reduceMul, Nat.reduceSub, Nat.reduceLeDiff, Nat.reduceLT, reduceCtorEq, resL, resOf, h24]
    refine ⟨_, rfl, ?_, sub_hset_fresh hb2 hsG⟩
    have hd : bad7 = false ∧ rest7 = [] ∧ (parcelF v).2 = 0 ∧ b = (parcelF v).1.1 := by simpa using h
    obtain ⟨d1, d2, d3, d4⟩ := hd
    have hc : checkP v = 0 := by
      by_cases hc : checkP v = 0
      · exact hc
      · rw [parcelF, if_pos hc] at d3; exact absurd d3 hc
    rw [parcelF, if_neg (by rw [hc]; simp)] at d4
    rw [readPF_yes (v := v)]
    · exact Vle.refl _
    · exact ⟨hv, hc⟩
    · exact d4.symm
    · intro x hx hxb
      exact (hcanz x hx hxb).1
end Go.Proofs.YtlgfffngojlffaaGreat

/- ParcelOf: as ReadParcel; the reference's. No conditions. -/
set_option linter.unusedSimpArgs false
set_option linter.unusedVariables false
namespace Go.Proofs.YtlgfffngojlffaaGreat
open Go.Proofs.YtlgfffngojlffaaGreatV
set_option maxHeartbeats 400000
set_option maxRecDepth 100000
theorem natI {n : Nat} (h : n < 9223372036854775808) : InI ((n : Nat) : Int) := nat_range h
theorem q_ParcelOf (b : List UInt8) (nl : Bool) (hb : b.length ≤ bulk) : Quiet Tryz.prog 34 [.sl (bytesV b) nl .no] (pairP (readPF b)) := by
  have hbl : b.length ≤ 1048576 := hb
  refine Quiet.weak fun G => ?_
  refine acall_body (rs := [.cell 2 48, .tmp 3]) Tryz.func34 rfl rfl Tryz.ntmps34 (by kernel_rfl) (Nat.le_of_ble_eq_true rfl) ?_
  refine aw_sr rfl ?_  -- r0 @value.go:377
  simp only [go_sem, reduceIte, Nat.reduceEqDiff, Nat.reduceAdd, Nat.reduceMul, Nat.reduceSub, Nat.reduceLeDiff, Nat.reduceLT, reduceCtorEq]
  intro b2 hb2
  refine aw_box1 hb2 fun B1 hs1 h2 => ?_
  refine aw_sr rfl ?_  -- r1 @value.go:378
  simp only [go_sem, reduceIte, Nat.reduceEqDiff, Nat.reduceAdd, Nat.reduceMul, Nat.reduceSub, Nat.reduceLeDiff, Nat.reduceLT, reduceCtorEq]
  intro br hbr
  have ne2 : ¬ b2 = br := fun e => ne_fresh h2 hbr e
  have hGr : hget G br = none := none_sub hs1 hbr
  refine aw_box1 hbr fun B2 hs2 hR => ?_
  replace h2 := hs2 _ _ h2
  have hR0 : Tk B2 br nl b true := hR
  refine aw_sr rfl ?_  -- r2 @value.go:379
  simp only [go_sem, reduceIte, Nat.reduceEqDiff, Nat.reduceAdd, Nat.reduceMul, Nat.reduceSub, Nat.reduceLeDiff, Nat.reduceLT, reduceCtorEq]
  refine goA_by (a_tnat br nl b true B2 (by omega) hR0) fun y G1 hy => ?_
  obtain ⟨n0, rest1, bad1, hn0, rfl, hR1, k1, hl1, ho1, hc1⟩ := hy
  have h21 := k1 _ _ ne2 h2
  simp only [go_sem, reduceIte, Nat.reduceEqDiff, Nat.reduceAdd, Nat.reduceMul, Nat.reduceSub, Nat.reduceLeDiff, Nat.reduceLT, reduceCtorEq]
  intro b5 hb5
  have ne5 : ¬ b5 = br := fun e => ne_fresh hR1 hb5 e.symm
  have ne52 : ¬ b5 = b2 := fun e => ne_fresh h21 hb5 e.symm
  have hG5 : hget B2 b5 = none := k1.none ne5 hb5
  refine aw_box1 hb5 fun H1 hs3 h5 => ?_
  have hR2 : Tk H1 br nl rest1 bad1 := hs3 _ _ hR1
  replace h21 := hs3 _ _ h21
  have kk1 : KB br B2 H1 := k1.sub hs3
  refine aw_sr rfl ?_  -- r3 @value.go:380
  simp only [go_sem, reduceIte, Nat.reduceEqDiff, Nat.reduceAdd, Nat.reduceMul, Nat.reduceSub, Nat.reduceLeDiff, Nat.reduceLT, reduceCtorEq]
  refine goA_by (a_tsaved br nl rest1 bad1 H1 (by omega) hR2) fun y G2 hy => ?_
  obtain ⟨sv, rest2, bad2, hsv, rfl, hR3, k2, hl2, ho2, hc2⟩ := hy
  have h52 := k2 _ _ ne5 h5
  have h22 := k2 _ _ ne2 h21
  simp only [go_sem, reduceIte, Nat.reduceEqDiff, Nat.reduceAdd, Nat.reduceMul, Nat.reduceSub, Nat.reduceLeDiff, Nat.reduceLT, reduceCtorEq, h52]
  generalize hH2 : hset G2 b5 _ = H2
  obtain ⟨h5, hk, hK, _, _⟩ := st_facts hH2 h52 (fun _ _ e => by cases e)
  have hR4 : Tk H2 br nl rest2 bad2 := hk _ _ (fun e => ne5 e.symm) hR3
  replace h22 := hk _ _ (fun e => ne52 e.symm) h22
  have kk2 : KB br B2 H2 := hK _ _ hG5 (kk1.trans k2)
  clear hK hk hH2
  refine aw_seq fun K4 hK4 => ?_
  refine aw_sr rfl ?_  -- r4 @value.go:381
  simp only [go_sem, reduceIte, Nat.reduceEqDiff, Nat.reduceAdd, Nat.reduceMul, Nat.reduceSub, Nat.reduceLeDiff, Nat.reduceLT, reduceCtorEq]
  refine goA_by (a_tnat br nl rest2 bad2 H2 (by omega) hR4) fun y G3 hy => ?_
  obtain ⟨m0, rest3, bad3, hm0, rfl, hR5, k3, hl3, ho3, hc3⟩ := hy
  have h53 := k3 _ _ ne5 h5
  have h23 := k3 _ _ ne2 h22
  simp only [go_sem, reduceIte, Nat.reduceEqDiff, Nat.reduceAdd, Nat.reduceMul, Nat.reduceSub, Nat.reduceLeDiff, Nat.reduceLT, reduceCtorEq]
  have hcan0 : ∀ (z : Pcl) (r : List UInt8), b = encP z ++ r → GoodP z → bad3 = true ∧ ((n0 : Nat) : Int) = z.1 ∧ sv = z.2.1 ∧ m0 = z.2.2.1.1.length ∧ rest3 = encLs z.2.2.1.1 ++ (natB (numN z.2.2.2.1) ++ (encNs z.2.2.2.2.1.1 ++ (encNs z.2.2.2.2.2.1 ++ r))) := by
    intro z r h1 h2
    obtain ⟨c1, c2, c3, c4, c5, c6⟩ := checkP_good h2.2
    have o1 := i64_range h2.1.1
    rw [encP] at h1
    simp only [List.append_assoc] at h1
    obtain ⟨a1, a2, a3⟩ := hc1 _ _ h1 (by omega) rfl
    obtain ⟨b1', b2', b3'⟩ := hc2 _ _ a2 h2.saved a3
    obtain ⟨d1, d2, d3⟩ := hc3 _ _ b2' (by omega) b3'
    exact ⟨d3, by omega, b1', d1, d2⟩
  refine aw_block ?_  -- 0
  refine aw_lph (S := {s : List Lt × Nat × Tag × List UInt8 × Bool × Heap // (∀ a ∈ s.1, FineL a) ∧ s.2.1 < 9223372036854775808 ∧ s.1.length + s.2.2.2.1.length + b2n s.2.2.2.2.1 ≤ b.length + 1 ∧ Tk s.2.2.2.2.2 br nl s.2.2.2.1 s.2.2.2.2.1 ∧
      hget s.2.2.2.2.2 b5 = some (.vars (pcC ((n0 : Nat) : Int) sv (.sl (s.1.map eLt) s.1.isEmpty s.2.2.1) 0 (.sl [] true .full) (.sl [] true .full))) ∧ Rm (off br B2) s.2.2.2.2.2 9 s.2.2.1 ∧
      hget s.2.2.2.2.2 b2 = some (.vars pcZ) ∧ KB br B2 s.2.2.2.2.2 ∧ s.2.2.2.1.length ≤ b.length ∧
      ∀ (z : Pcl) (r : List UInt8), b = encP z ++ r → GoodP z → s.2.2.2.2.1 = true ∧ ((n0 : Nat) : Int) = z.1 ∧ sv = z.2.1 ∧ s.1 = z.2.2.1.1.take s.1.length ∧ s.1.length + s.2.1 = z.2.2.1.1.length ∧ s.2.2.2.1 = encLs (z.2.2.1.1.drop s.1.length) ++ (natB (numN z.2.2.2.1) ++ (encNs z.2.2.2.2.1.1 ++ (encNs z.2.2.2.2.2.1 ++ r)))})
    (fun s => [(0, .sl (bytesV b) nl .no), (2, .ptr b2 0), (4, .ptr br 0), (5, .ptr b5 0), (6, .int .i64 ((s.1.2.1 : Nat) : Int))]) (fun s => s.1.2.2.2.2.2) (fun s => s.1.2.1)
    ⟨([], m0, .full, rest3, bad3, G3), by simp, hm0, by have := b2n_le bad3; show 0 + rest3.length + b2n bad3 ≤ _; omega, hR5, h53, Rm.start _ _ _, h23, kk2.trans k3, by show rest3.length ≤ _; omega, ?_⟩ ?_ (fun _ _ h => h) ?_
  · intro z r h1 h2
    obtain ⟨a1, a2, a3, a4, a5⟩ := hcan0 z r h1 h2
    exact ⟨a1, a2, a3, rfl, by show 0 + m0 = _; omega, a5⟩
  · simp only [go_sem, reduceIte, Nat.reduceEqDiff, Nat.reduceAdd, Nat.reduceMul, Nat.reduceSub, Nat.reduceLeDiff, Nat.reduceLT, reduceCtorEq]
  intro ⟨⟨as_, m, t, rs, bd, H⟩, i1, i2, i3, i5, i6, i7, i8, i9, i10, i11⟩
  simp only at i1 i2 i3 i5 i6 i7 i8 i9 i10 i11 ⊢
  have i5' : hget H br = some (.vars [.sl (bytesV rs) nl .no, .bool bd]) := i5
  refine aw_seq fun K5 hK5 => ?_
  refine aw_sr rfl ?_  -- r5 @value.go:381
  simp only [go_sem, reduceIte, Nat.reduceEqDiff, Nat.reduceAdd, Nat.reduceMul, Nat.reduceSub, Nat.reduceLeDiff, Nat.reduceLT, reduceCtorEq, i5']
  refine aw_if rfl (fun h => ?_) (fun h => ?_)
  · have hmb : 0 < m ∧ bd = true := by
      rw [Bool.and_eq_true] at h
      obtain ⟨q1, q2⟩ := h
      rw [decide_eq_true_eq] at q1
      exact ⟨by omega, by simpa using q2⟩
    obtain ⟨hm, rfl⟩ := hmb
    have i3' : as_.length + rs.length + 1 ≤ b.length + 1 := i3
    refine aw_skip (hK5 _ _ ?_)
    refine aw_seq fun K6 hK6 => ?_
    refine aw_block ?_  -- 1
    refine aw_rgf [(0,true),(2,true)] 1 3 [(3,false),(4,true),(5,false),(6,true),(7,false)] [(4,true),(1,false),(5,false),(6,true),(7,false)] mixed rfl (by kernel_rfl) ?_  -- r7 @value.go:382
    simp only [go_sem, reduceIte, Nat.reduceEqDiff, Nat.reduceAdd, Nat.reduceMul, Nat.reduceSub, Nat.reduceLeDiff, Nat.reduceLT, reduceCtorEq, i6]
    refine ⟨?_, ?_⟩
    all_goals
      refine goA_by (a_tletter br nl rs true H (by omega) i5) fun y G1 hy => ?_
      obtain ⟨v, rs', bd', hv, rfl, j1, jk, j2, j7, j6⟩ := hy
      have k6 := jk _ _ ne5 i6
      have k8 := jk _ _ ne2 i8
      have kr := Rm.kb i7 jk i5'
      simp only [go_sem, reduceIte, Nat.reduceEqDiff, Nat.reduceAdd, Nat.reduceMul, Nat.reduceSub, Nat.reduceLeDiff, Nat.reduceLT, reduceCtorEq, k6]
      refine goP_rm kr (i9.trans jk).off ?_ fun t1 H1 hr1 hs1 hg1 => ?_
      · exact ⟨rfl, rfl, by decide, wid_eLt _, wid_one rfl, sca_one rfl, by simp; omega, by simp; omega⟩
      simp only [go_sem, reduceIte, Nat.reduceEqDiff, Nat.reduceAdd, Nat.reduceMul, Nat.reduceSub, Nat.reduceLeDiff, Nat.reduceLT, reduceCtorEq, hg1.vars k6, Bool.and_false]
      rw [map_snocL as_ v]
      refine hK6 _ _ ?_
      refine aw_rg rfl ?_  -- r6 @value.go:381
      simp only [go_sem, reduceIte, Nat.reduceEqDiff, Nat.reduceAdd, Nat.reduceMul, Nat.reduceSub, Nat.reduceLeDiff, Nat.reduceLT, reduceCtorEq]
      generalize hH3 : hset H1 b5 _ = H3
      obtain ⟨u5, hk, hK, hRm, _⟩ := st_facts hH3 (hg1.vars k6) (fun _ _ e => by cases e)
      refine ⟨⟨(as_ ++ [v], m - 1, t1, rs', bd', H3), ?_, ?_, ?_, hk _ _ (fun e => ne5 e.symm) (hg1.vars j1), ?_, hRm _ _ _ hr1, hk _ _ (fun e => ne52 e.symm) (hg1.vars k8), hK _ _ hG5 (KB.on hs1), Nat.le_trans j2 i10, ?_⟩, ?_, ⟨rfl, rfl, rfl, rfl, ?_⟩, sub_rfl⟩
      · intro a ha
        rcases List.mem_append.1 ha with ha | ha
        · exact i1 a ha
        · rw [List.mem_singleton.1 ha]; exact hv
      · show m - 1 < 9223372036854775808; omega
      · show (as_ ++ [v]).length + rs'.length + b2n bd' ≤ b.length + 1
        rw [List.length_append, List.length_singleton]
        cases bd' with
        | false => show as_.length + 1 + rs'.length + 0 ≤ _; omega
        | true => have := (j7 rfl).2; show as_.length + 1 + rs'.length + 1 ≤ _; omega
      · rw [isEmpty_snoc]; exact u5
      · intro z r h1 h2
        obtain ⟨p1, p2, p3, p5, p6, p7⟩ := i11 z r h1 h2
        have hk : as_.length < z.2.2.1.1.length := by omega
        have hg := h2.letter (List.getElem_mem hk)
        rw [encLs_drop hk, List.append_assoc] at p7
        obtain ⟨q1, q2, q3⟩ := j6 _ _ p7 hg rfl
        refine ⟨q3, p2, p3, ?_, ?_, ?_⟩
        · show as_ ++ [v] = z.2.2.1.1.take (as_ ++ [v]).length
          rw [List.length_append, List.length_singleton, List.take_succ_eq_append_getElem hk, ← p5, q1]
        · show (as_ ++ [v]).length + (m - 1) = z.2.2.1.1.length
          rw [List.length_append, List.length_singleton]; omega
        · show rs' = encLs (z.2.2.1.1.drop (as_ ++ [v]).length) ++ _
          rw [List.length_append, List.length_singleton]; exact q2
      · show m - 1 < m; omega
      · show some (V.int .i64 (IntKind.i64.wrap ((m : Int) - 1))) = some (V.int .i64 ((m - 1 : Nat) : Int))
        rw [wrap64 (by omega) (by omega)]; congr 2; omega
  · refine aw_exit ?_  -- 0
    refine hK4 _ _ ?_
    have i3' : as_.length + rs.length ≤ b.length + 1 := by omega
    have hcan : ∀ (z : Pcl) (r : List UInt8), b = encP z ++ r → GoodP z → bd = true ∧ ((n0 : Nat) : Int) = z.1 ∧ sv = z.2.1 ∧ as_ = z.2.2.1.1 ∧ rs = natB (numN z.2.2.2.1) ++ (encNs z.2.2.2.2.1.1 ++ (encNs z.2.2.2.2.2.1 ++ r)) := by
      intro z r h1 h2
      obtain ⟨p1, p2, p3, p5, p6, p7⟩ := i11 z r h1 h2
      have hm0 : m = 0 := by
        rw [p1] at h
        by_cases hlt : (0 : Int) < (m : Int)
        · rw [decide_eq_true hlt] at h; exact absurd h (by decide)
        · omega
      have hlen : as_.length = z.2.2.1.1.length := by omega
      rw [hlen, List.take_length] at p5
      rw [hlen, List.drop_length, encLs, List.flatMap_nil, List.nil_append] at p7
      exact ⟨p1, p2, p3, p5, p7⟩
    refine aw_sr rfl ?_  -- r8 @value.go:384
    simp only [go_sem, reduceIte, Nat.reduceEqDiff, Nat.reduceAdd, Nat.reduceMul, Nat.reduceSub, Nat.reduceLeDiff, Nat.reduceLT, reduceCtorEq]
    refine goA_by (a_tnum br nl rs bd H (by omega) i5) fun y G5 hy => ?_
    obtain ⟨tk, rest5, bad5, htk, rfl, hR5, k5, hl5, ho5, hc5⟩ := hy
    have h55 := k5 _ _ ne5 i6
    have h25 := k5 _ _ ne2 i8
    simp only [go_sem, reduceIte, Nat.reduceEqDiff, Nat.reduceAdd, Nat.reduceMul, Nat.reduceSub, Nat.reduceLeDiff, Nat.reduceLT, reduceCtorEq, h55]
    generalize hH5 : hset G5 b5 _ = H5
    obtain ⟨h5, hk, hK, _, _⟩ := st_facts hH5 h55 (fun _ _ e => by cases e)
    have hR6 : Tk H5 br nl rest5 bad5 := hk _ _ (fun e => ne5 e.symm) hR5
    replace h25 := hk _ _ (fun e => ne52 e.symm) h25
    have kk5 : KB br B2 H5 := hK _ _ hG5 (i9.trans k5)
    clear hK hk hH5
    have hcan5 : ∀ z, GoodP z → encP z = b → bad5 = true ∧ ((n0 : Nat) : Int) = z.1 ∧ sv = z.2.1 ∧ as_ = z.2.2.1.1 ∧ tk = z.2.2.2.1 ∧ rest5 = encNs z.2.2.2.2.1.1 ++ (encNs z.2.2.2.2.2.1 ++ []) := by
      intro z hz hzb
      obtain ⟨p1, p2, p3, p4, p5⟩ := hcan z [] (by rw [List.append_nil]; exact hzb.symm) hz
      obtain ⟨a1, a2, a3⟩ := hc5 _ _ p5 hz.1.2.2.2.1 p1
      exact ⟨a3, p2, p3, p4, a1, a2⟩
    refine aw_seq fun K11 hK11 => ?_
    refine aw_sr rfl ?_  -- r9
    simp only [go_sem, reduceIte, Nat.reduceEqDiff, Nat.reduceAdd, Nat.reduceMul, Nat.reduceSub, Nat.reduceLeDiff, Nat.reduceLT, reduceCtorEq]
    refine goA_by (a_tnat br nl rest5 bad5 H5 (by omega) hR6) fun y GA7 hy => ?_
    obtain ⟨m7, rest7, bad7, hm7, rfl, hR7, k7, hl7, ho7, hc7⟩ := hy
    have h57 := k7 _ _ ne5 h5
    have h27 := k7 _ _ ne2 h25
    simp only [go_sem, reduceIte, Nat.reduceEqDiff, Nat.reduceAdd, Nat.reduceMul, Nat.reduceSub, Nat.reduceLeDiff, Nat.reduceLT, reduceCtorEq]
    refine aw_block ?_  -- 2
    refine aw_lph (S := {s : List Int × Nat × Tag × List UInt8 × Bool × Heap // (∀ a ∈ s.1, InI a) ∧ s.2.1 < 9223372036854775808 ∧ s.1.length + s.2.2.2.1.length + b2n s.2.2.2.2.1 ≤ b.length + 1 ∧ Tk s.2.2.2.2.2 br nl s.2.2.2.1 s.2.2.2.2.1 ∧
        hget s.2.2.2.2.2 b5 = some (.vars (pcC ((n0 : Nat) : Int) sv (.sl (as_.map eLt) as_.isEmpty t) tk (.sl (s.1.map eNo) s.1.isEmpty s.2.2.1) (.sl [] true .full))) ∧ Rm (off br B2) s.2.2.2.2.2 1 s.2.2.1 ∧
        hget s.2.2.2.2.2 b2 = some (.vars pcZ) ∧ KB br B2 s.2.2.2.2.2 ∧ s.2.2.2.1.length ≤ b.length ∧
        ∀ z, GoodP z → encP z = b → s.2.2.2.2.1 = true ∧ ((n0 : Nat) : Int) = z.1 ∧ sv = z.2.1 ∧ as_ = z.2.2.1.1 ∧ tk = z.2.2.2.1 ∧ s.1 = (z.2.2.2.2.1.1).take s.1.length ∧ s.1.length + s.2.1 = (z.2.2.2.2.1.1).length ∧ s.2.2.2.1 = encI ((z.2.2.2.2.1.1).drop s.1.length) ++ (encNs z.2.2.2.2.2.1 ++ [])})
      (fun s => [(0, .sl (bytesV b) nl .no), (2, .ptr b2 0), (4, .ptr br 0), (5, .ptr b5 0), (7, .int .i64 ((s.1.2.1 : Nat) : Int))]) (fun s => s.1.2.2.2.2.2) (fun s => s.1.2.1)
      ⟨([], m7, .full, rest7, bad7, GA7), by simp, hm7, by have := b2n_le bad7; show 0 + rest7.length + b2n bad7 ≤ _; omega, hR7, h57, Rm.start _ _ _, h27, kk5.trans k7, by show rest7.length ≤ _; omega, ?_⟩ ?_ (fun _ _ h => h) ?_
    · intro z hz hzb
      obtain ⟨a1, e1, e2, e3, e4, aE⟩ := hcan5 z hz hzb
      rw [encNs, List.append_assoc] at aE
      obtain ⟨q1, q2, q3⟩ := checkP_good hz.2
      obtain ⟨d1, d2, d3⟩ := hc7 _ _ aE (by omega) a1
      exact ⟨d3, e1, e2, e3, e4, rfl, by show 0 + m7 = _; omega, d2⟩
    · simp only [go_sem, reduceIte, Nat.reduceEqDiff, Nat.reduceAdd, Nat.reduceMul, Nat.reduceSub, Nat.reduceLeDiff, Nat.reduceLT, reduceCtorEq]
    intro ⟨⟨wa, mm, t7, rs7, bd7, H7⟩, i17, i27, i37, i57, i67, i77, i87, i97, iA7, iB7⟩
    simp only at i17 i27 i37 i57 i67 i77 i87 i97 iA7 iB7 ⊢
    have i5'7 : hget H7 br = some (.vars [.sl (bytesV rs7) nl .no, .bool bd7]) := i57
    refine aw_seq fun K12 hK12 => ?_
    refine aw_sr rfl ?_  -- r10
    simp only [go_sem, reduceIte, Nat.reduceEqDiff, Nat.reduceAdd, Nat.reduceMul, Nat.reduceSub, Nat.reduceLeDiff, Nat.reduceLT, reduceCtorEq, i5'7]
    refine aw_if rfl (fun h => ?_) (fun h => ?_)
    · have hmb : 0 < mm ∧ bd7 = true := by
        rw [Bool.and_eq_true] at h
        obtain ⟨q1, q2⟩ := h
        rw [decide_eq_true_eq] at q1
        exact ⟨by omega, by simpa using q2⟩
      obtain ⟨hm, rfl⟩ := hmb
      have i3' : wa.length + rs7.length + 1 ≤ b.length + 1 := i37
      refine aw_skip (hK12 _ _ ?_)
      refine aw_seq fun K13 hK13 => ?_
      refine aw_block ?_  -- 3
      refine aw_rgf [(0,true),(2,true)] 1 3 [(3,false),(4,true),(5,false),(6,true),(7,false)] [(4,true),(1,false),(5,false),(6,true),(7,false)] mixed rfl (by kernel_rfl) ?_  -- r12
      simp only [go_sem, reduceIte, Nat.reduceEqDiff, Nat.reduceAdd, Nat.reduceMul, Nat.reduceSub, Nat.reduceLeDiff, Nat.reduceLT, reduceCtorEq, i67]
      refine ⟨?_, ?_⟩
      all_goals
        refine goA_by (a_tnat br nl rs7 true H7 (by omega) i57) fun y G1 hy => ?_
        obtain ⟨v, rs', bd', hv, rfl, j1, jk, j2, j7, j6⟩ := hy
        have k6 := jk _ _ ne5 i67
        have k8 := jk _ _ ne2 i87
        have kr := Rm.kb i77 jk i5'7
        simp only [go_sem, reduceIte, Nat.reduceEqDiff, Nat.reduceAdd, Nat.reduceMul, Nat.reduceSub, Nat.reduceLeDiff, Nat.reduceLT, reduceCtorEq, k6]
        refine goP_rm kr (i97.trans jk).off ?_ fun t1 H1 hr1 hs1 hg1 => ?_
        · exact ⟨rfl, rfl, by decide, wid_eNo _, wid_one rfl, sca_one rfl, by simp; omega, by simp; omega⟩
        simp only [go_sem, reduceIte, Nat.reduceEqDiff, Nat.reduceAdd, Nat.reduceMul, Nat.reduceSub, Nat.reduceLeDiff, Nat.reduceLT, reduceCtorEq, hg1.vars k6, Bool.and_false]
        rw [map_snocN wa]
        refine hK13 _ _ ?_
        refine aw_rg rfl ?_  -- r11
        simp only [go_sem, reduceIte, Nat.reduceEqDiff, Nat.reduceAdd, Nat.reduceMul, Nat.reduceSub, Nat.reduceLeDiff, Nat.reduceLT, reduceCtorEq]
        generalize hH3 : hset H1 b5 _ = H3
        obtain ⟨u5, hk, hK, hRm, _⟩ := st_facts hH3 (hg1.vars k6) (fun _ _ e => by cases e)
        refine ⟨⟨(wa ++ [((v : Nat) : Int)], mm - 1, t1, rs', bd', H3), ?_, ?_, ?_, hk _ _ (fun e => ne5 e.symm) (hg1.vars j1), ?_, hRm _ _ _ hr1, hk _ _ (fun e => ne52 e.symm) (hg1.vars k8), hK _ _ hG5 (KB.on hs1), Nat.le_trans j2 iA7, ?_⟩, ?_, ⟨rfl, rfl, rfl, rfl, ?_⟩, sub_rfl⟩
        · intro a ha
          rcases List.mem_append.1 ha with ha | ha
          · exact i17 a ha
          · rw [List.mem_singleton.1 ha]; exact natI hv
        · show mm - 1 < 9223372036854775808; omega
        · show (wa ++ [((v : Nat) : Int)]).length + rs'.length + b2n bd' ≤ b.length + 1
          rw [List.length_append, List.length_singleton]
          cases bd' with
          | false => show wa.length + 1 + rs'.length + 0 ≤ _; omega
          | true => have := (j7 rfl).2; show wa.length + 1 + rs'.length + 1 ≤ _; omega
        · rw [isEmpty_snoc]; exact u5
        · intro z hz hzb
          obtain ⟨p1, e1, e2, e3, e4, aE, aF, aG⟩ := iB7 z hz hzb
          have hk : wa.length < (z.2.2.2.2.1.1).length := by omega
          have hgg := hz.watch (List.getElem_mem hk)
          have hgr := i64_range hgg.1
          rw [encI_drop hk, List.append_assoc] at aG
          obtain ⟨q1, q2, q3⟩ := j6 _ _ aG (by omega) rfl
          have hv2 : ((v : Nat) : Int) = (z.2.2.2.2.1.1)[wa.length] := by omega
          refine ⟨q3, e1, e2, e3, e4, ?_, ?_, ?_⟩
          · show wa ++ [((v : Nat) : Int)] = (z.2.2.2.2.1.1).take (wa ++ [((v : Nat) : Int)]).length
            rw [List.length_append, List.length_singleton, List.take_succ_eq_append_getElem hk, ← aE, hv2]
          · show (wa ++ [((v : Nat) : Int)]).length + (mm - 1) = (z.2.2.2.2.1.1).length
            rw [List.length_append, List.length_singleton]; omega
          · show rs' = encI ((z.2.2.2.2.1.1).drop (wa ++ [((v : Nat) : Int)]).length) ++ _
            rw [List.length_append, List.length_singleton]; exact q2
        · show mm - 1 < mm; omega
        · show some (V.int .i64 (IntKind.i64.wrap ((mm : Int) - 1))) = some (V.int .i64 ((mm - 1 : Nat) : Int))
          rw [wrap64 (by omega) (by omega)]; congr 2; omega
    · refine aw_exit ?_
      refine hK11 _ _ ?_
      have i3'7 : wa.length + rs7.length ≤ b.length + 1 := by omega
      have hcanw : ∀ z, GoodP z → encP z = b → bd7 = true ∧ ((n0 : Nat) : Int) = z.1 ∧ sv = z.2.1 ∧ as_ = z.2.2.1.1 ∧ tk = z.2.2.2.1 ∧ wa = z.2.2.2.2.1.1 ∧ rs7 = encNs z.2.2.2.2.2.1 ++ [] := by
        intro z hz hzb
        obtain ⟨p1, e1, e2, e3, e4, aE, aF, aG⟩ := iB7 z hz hzb
        have hm0 : mm = 0 := by
          rw [p1] at h
          by_cases hlt : (0 : Int) < (mm : Int)
          · rw [decide_eq_true hlt] at h; exact absurd h (by decide)
          · omega
        have hlen : wa.length = (z.2.2.2.2.1.1).length := by omega
        rw [hlen, List.take_length] at aE
        rw [hlen, List.drop_length, encI, List.flatMap_nil, List.nil_append] at aG
        exact ⟨p1, e1, e2, e3, e4, aE, aG⟩
      refine aw_seq fun K14 hK14 => ?_
      refine aw_sr rfl ?_  -- r13
      simp only [go_sem, reduceIte, Nat.reduceEqDiff, Nat.reduceAdd, Nat.reduceMul, Nat.reduceSub, Nat.reduceLeDiff, Nat.reduceLT, reduceCtorEq]
      refine goA_by (a_tnat br nl rs7 bd7 H7 (by omega) i57) fun y GA8 hy => ?_
      obtain ⟨m8, rest8, bad8, hm8, rfl, hR8, k8, hl8, ho8, hc8⟩ := hy
      have h58 := k8 _ _ ne5 i67
      have h28 := k8 _ _ ne2 i87
      simp only [go_sem, reduceIte, Nat.reduceEqDiff, Nat.reduceAdd, Nat.reduceMul, Nat.reduceSub, Nat.reduceLeDiff, Nat.reduceLT, reduceCtorEq]
      refine aw_block ?_  -- 4
      refine aw_lph (S := {s : List Int × Nat × Tag × List UInt8 × Bool × Heap // (∀ a ∈ s.1, InI a) ∧ s.2.1 < 9223372036854775808 ∧ s.1.length + s.2.2.2.1.length + b2n s.2.2.2.2.1 ≤ b.length + 1 ∧ Tk s.2.2.2.2.2 br nl s.2.2.2.1 s.2.2.2.2.1 ∧
          hget s.2.2.2.2.2 b5 = some (.vars (pcC ((n0 : Nat) : Int) sv (.sl (as_.map eLt) as_.isEmpty t) tk (.sl (wa.map eNo) wa.isEmpty t7) (.sl (s.1.map eNo) s.1.isEmpty s.2.2.1))) ∧ Rm (off br B2) s.2.2.2.2.2 1 s.2.2.1 ∧
          hget s.2.2.2.2.2 b2 = some (.vars pcZ) ∧ KB br B2 s.2.2.2.2.2 ∧ s.2.2.2.1.length ≤ b.length ∧
          ∀ z, GoodP z → encP z = b → s.2.2.2.2.1 = true ∧ ((n0 : Nat) : Int) = z.1 ∧ sv = z.2.1 ∧ as_ = z.2.2.1.1 ∧ tk = z.2.2.2.1 ∧ wa = z.2.2.2.2.1.1 ∧ s.1 = (z.2.2.2.2.2.1).take s.1.length ∧ s.1.length + s.2.1 = (z.2.2.2.2.2.1).length ∧ s.2.2.2.1 = encI ((z.2.2.2.2.2.1).drop s.1.length) ++ []})
        (fun s => [(0, .sl (bytesV b) nl .no), (2, .ptr b2 0), (4, .ptr br 0), (5, .ptr b5 0), (8, .int .i64 ((s.1.2.1 : Nat) : Int))]) (fun s => s.1.2.2.2.2.2) (fun s => s.1.2.1)
        ⟨([], m8, .full, rest8, bad8, GA8), by simp, hm8, by have := b2n_le bad8; show 0 + rest8.length + b2n bad8 ≤ _; omega, hR8, h58, Rm.start _ _ _, h28, i97.trans k8, by show rest8.length ≤ _; omega, ?_⟩ ?_ (fun _ _ h => h) ?_
      · intro z hz hzb
        obtain ⟨a1, e1, e2, e3, e4, e5, aE⟩ := hcanw z hz hzb
        rw [encNs, List.append_assoc] at aE
        obtain ⟨q1, q2, q3⟩ := checkP_good hz.2
        obtain ⟨d1, d2, d3⟩ := hc8 _ _ aE (by omega) a1
        exact ⟨d3, e1, e2, e3, e4, e5, rfl, by show 0 + m8 = _; omega, d2⟩
      · simp only [go_sem, reduceIte, Nat.reduceEqDiff, Nat.reduceAdd, Nat.reduceMul, Nat.reduceSub, Nat.reduceLeDiff, Nat.reduceLT, reduceCtorEq]
      intro ⟨⟨li, mm, t8, rs8, bd8, H8⟩, i18, i28, i38, i58, i68, i78, i88, i98, iA8, iB8⟩
      simp only at i18 i28 i38 i58 i68 i78 i88 i98 iA8 iB8 ⊢
      have i5'8 : hget H8 br = some (.vars [.sl (bytesV rs8) nl .no, .bool bd8]) := i58
      refine aw_seq fun K15 hK15 => ?_
      refine aw_sr rfl ?_  -- r14
      simp only [go_sem, reduceIte, Nat.reduceEqDiff, Nat.reduceAdd, Nat.reduceMul, Nat.reduceSub, Nat.reduceLeDiff, Nat.reduceLT, reduceCtorEq, i5'8]
      refine aw_if rfl (fun h => ?_) (fun h => ?_)
      · have hmb : 0 < mm ∧ bd8 = true := by
          rw [Bool.and_eq_true] at h
          obtain ⟨q1, q2⟩ := h
          rw [decide_eq_true_eq] at q1
          exact ⟨by omega, by simpa using q2⟩
        obtain ⟨hm, rfl⟩ := hmb
        have i3' : li.length + rs8.length + 1 ≤ b.length + 1 := i38
        refine aw_skip (hK15 _ _ ?_)
        refine aw_seq fun K16 hK16 => ?_
        refine aw_block ?_  -- 5
        refine aw_rgf [(0,true),(2,true)] 1 3 [(3,false),(4,true),(5,false),(6,true),(7,false)] [(4,true),(1,false),(5,false),(6,true),(7,false)] mixed rfl (by kernel_rfl) ?_  -- r16
        simp only [go_sem, reduceIte, Nat.reduceEqDiff, Nat.reduceAdd, Nat.reduceMul, Nat.reduceSub, Nat.reduceLeDiff, Nat.reduceLT, reduceCtorEq, i68]
        refine ⟨?_, ?_⟩
        all_goals
          refine goA_by (a_tnat br nl rs8 true H8 (by omega) i58) fun y G1 hy => ?_
          obtain ⟨v, rs', bd', hv, rfl, j1, jk, j2, j7, j6⟩ := hy
          have k6 := jk _ _ ne5 i68
          have k8 := jk _ _ ne2 i88
          have kr := Rm.kb i78 jk i5'8
          simp only [go_sem, reduceIte, Nat.reduceEqDiff, Nat.reduceAdd, Nat.reduceMul, Nat.reduceSub, Nat.reduceLeDiff, Nat.reduceLT, reduceCtorEq, k6]
          refine goP_rm kr (i98.trans jk).off ?_ fun t1 H1 hr1 hs1 hg1 => ?_
          · exact ⟨rfl, rfl, by decide, wid_eNo _, wid_one rfl, sca_one rfl, by simp; omega, by simp; omega⟩
          simp only [go_sem, reduceIte, Nat.reduceEqDiff, Nat.reduceAdd, Nat.reduceMul, Nat.reduceSub, Nat.reduceLeDiff, Nat.reduceLT, reduceCtorEq, hg1.vars k6, Bool.and_false]
          rw [map_snocN li]
          refine hK16 _ _ ?_
          refine aw_rg rfl ?_  -- r15
          simp only [go_sem, reduceIte, Nat.reduceEqDiff, Nat.reduceAdd, Nat.reduceMul, Nat.reduceSub, Nat.reduceLeDiff, Nat.reduceLT, reduceCtorEq]
          generalize hH3 : hset H1 b5 _ = H3
          obtain ⟨u5, hk, hK, hRm, _⟩ := st_facts hH3 (hg1.vars k6) (fun _ _ e => by cases e)
          refine ⟨⟨(li ++ [((v : Nat) : Int)], mm - 1, t1, rs', bd', H3), ?_, ?_, ?_, hk _ _ (fun e => ne5 e.symm) (hg1.vars j1), ?_, hRm _ _ _ hr1, hk _ _ (fun e => ne52 e.symm) (hg1.vars k8), hK _ _ hG5 (KB.on hs1), Nat.le_trans j2 iA8, ?_⟩, ?_, ⟨rfl, rfl, rfl, rfl, ?_⟩, sub_rfl⟩
          · intro a ha
            rcases List.mem_append.1 ha with ha | ha
            · exact i18 a ha
            · rw [List.mem_singleton.1 ha]; exact natI hv
          · show mm - 1 < 9223372036854775808; omega
          · show (li ++ [((v : Nat) : Int)]).length + rs'.length + b2n bd' ≤ b.length + 1
            rw [List.length_append, List.length_singleton]
            cases bd' with
            | false => show li.length + 1 + rs'.length + 0 ≤ _; omega
            | true => have := (j7 rfl).2; show li.length + 1 + rs'.length + 1 ≤ _; omega
          · rw [isEmpty_snoc]; exact u5
          · intro z hz hzb
            obtain ⟨p1, e1, e2, e3, e4, e5, aE, aF, aG⟩ := iB8 z hz hzb
            have hk : li.length < (z.2.2.2.2.2.1).length := by omega
            have hgg := hz.link (List.getElem_mem hk)
            have hgr := i64_range hgg.1
            rw [encI_drop hk, List.append_assoc] at aG
            obtain ⟨q1, q2, q3⟩ := j6 _ _ aG (by omega) rfl
            have hv2 : ((v : Nat) : Int) = (z.2.2.2.2.2.1)[li.length] := by omega
            refine ⟨q3, e1, e2, e3, e4, e5, ?_, ?_, ?_⟩
            · show li ++ [((v : Nat) : Int)] = (z.2.2.2.2.2.1).take (li ++ [((v : Nat) : Int)]).length
              rw [List.length_append, List.length_singleton, List.take_succ_eq_append_getElem hk, ← aE, hv2]
            · show (li ++ [((v : Nat) : Int)]).length + (mm - 1) = (z.2.2.2.2.2.1).length
              rw [List.length_append, List.length_singleton]; omega
            · show rs' = encI ((z.2.2.2.2.2.1).drop (li ++ [((v : Nat) : Int)]).length) ++ _
              rw [List.length_append, List.length_singleton]; exact q2
          · show mm - 1 < mm; omega
          · show some (V.int .i64 (IntKind.i64.wrap ((mm : Int) - 1))) = some (V.int .i64 ((mm - 1 : Nat) : Int))
            rw [wrap64 (by omega) (by omega)]; congr 2; omega
      · refine aw_exit ?_
        refine hK14 _ _ ?_
        have i3'8 : li.length + rs8.length ≤ b.length + 1 := by omega
        have hcanl : ∀ z, GoodP z → encP z = b → bd8 = true ∧ ((n0 : Nat) : Int) = z.1 ∧ sv = z.2.1 ∧ as_ = z.2.2.1.1 ∧ tk = z.2.2.2.1 ∧ wa = z.2.2.2.2.1.1 ∧ li = z.2.2.2.2.2.1 ∧ rs8 = [] := by
          intro z hz hzb
          obtain ⟨p1, e1, e2, e3, e4, e5, aE, aF, aG⟩ := iB8 z hz hzb
          have hm0 : mm = 0 := by
            rw [p1] at h
            by_cases hlt : (0 : Int) < (mm : Int)
            · rw [decide_eq_true hlt] at h; exact absurd h (by decide)
            · omega
          have hlen : li.length = (z.2.2.2.2.2.1).length := by omega
          rw [hlen, List.take_length] at aE
          rw [hlen, List.drop_length, encI, List.flatMap_nil, List.nil_append] at aG
          exact ⟨p1, e1, e2, e3, e4, e5, aE, aG⟩
        have hv : FineP (((n0 : Nat) : Int), sv, (as_, as_.isEmpty), tk, (wa, wa.isEmpty), (li, li.isEmpty)) :=
          ⟨natI hn0, hsv, ⟨i1, by show as_.length ≤ _; omega, rfl⟩, htk, ⟨i17, by show wa.length ≤ _; omega, rfl⟩, i18, by show li.length ≤ _; omega, rfl⟩
        have hcanz : ∀ z, GoodP z → encP z = b → (((n0 : Nat) : Int), sv, (as_, as_.isEmpty), tk, (wa, wa.isEmpty), (li, li.isEmpty)) = z ∧ rs8 = [] ∧ bd8 = true := by
          intro z hz hzb
          obtain ⟨p1, p2, p3, p4, a1, b1', d1, d2⟩ := hcanl z hz hzb
          refine ⟨?_, d2, p1⟩
          obtain ⟨zr, zs, ⟨zb, zbn⟩, zt, ⟨zw, zwn⟩, zl, zln⟩ := z
          have e1 := hz.1.2.2.1.2.2
          have e2 := hz.1.2.2.2.2.1.2.2
          have e3 := hz.1.2.2.2.2.2.2.2
          simp only at p2 p3 p4 a1 b1' d1 e1 e2 e3
          rw [e1, e2, e3, p2, p3, p4, a1, b1', d1]
        have hsG : Sub G H8 := fun x o hx => i98 _ _ (fun e => by rw [e, hGr] at hx; cases hx) (hs2 _ _ (hs1 _ _ hx))
        refine AW.hle (ds := cPcl (((n0 : Nat) : Int), sv, (as_, as_.isEmpty), tk, (wa, wa.isEmpty), (li, li.isEmpty))) i68 (by repeat (first | exact .nil | refine .cons (Vle.refl _) ?_ | refine .cons Vle.untag ?_ | refine .cons (Vle.aggL ?_) ?_ | refine .cons (Vle.slE ?_) ?_)) ?_
        generalize hH9 : hset H8 b5 _ = H9
        obtain ⟨h5, hk, _, _, hS⟩ := st_facts hH9 i68 (fun _ _ e => by cases e)
        have j13 : hget H9 br = some (.vars [.sl (bytesV rs8) nl .no, .bool bd8]) := hk _ _ (fun e => ne5 e.symm) i58
        have h27 := hk _ _ (fun e => ne52 e.symm) i88
        replace hsG := hS _ (none_sub (sub_trans hs1 hs2) hG5) hsG
        clear hS hk hH9
        generalize hvv : ((((n0 : Nat) : Int), sv, (as_, as_.isEmpty), tk, (wa, wa.isEmpty), (li, li.isEmpty)) : Pcl) = v at hv hcanz h5
        refine aw_sr rfl ?_  -- r17 @value.go:391
        simp only [go_sem, reduceIte, Nat.reduceEqDiff, Nat.reduceAdd, Nat.reduceMul, Nat.reduceSub, Nat.reduceLeDiff, Nat.reduceLT, reduceCtorEq, h5]
        refine goA_q (q_ParcelBytes v hv.ok) ?_
        simp only [go_sem, reduceIte, Nat.reduceEqDiff, Nat.reduceAdd, Nat.reduceMul, Nat.reduceSub, Nat.reduceLeDiff, Nat.reduceLT, reduceCtorEq]
        refine aw_seq fun K17 hK17 => ?_
        refine aw_sr rfl ?_  -- r18 @value.go:392
        simp only [go_sem, reduceIte, Nat.reduceEqDiff, Nat.reduceAdd, Nat.reduceMul, Nat.reduceSub, Nat.reduceLeDiff, Nat.reduceLT, reduceCtorEq, j13]
        refine aw_if rfl (fun h => ?_) (fun h => ?_)
        · refine aw_sr rfl ?_  -- r19 @value.go:393
          simp only [go_sem, reduceIte, Nat.reduceEqDiff, Nat.reduceAdd, Nat.reduceMul, Nat.reduceSub, Nat.reduceLeDiff, Nat.reduceLT, reduceCtorEq, h27]
          have h24 := hget_hset_self (y := .vars pcZ) h27
          refine aw_ret ⟨trivial, ?_⟩
          simp only [go_sem, reduceIte, Nat.reduceEqDiff, Nat.reduceAdd, Nat.reduceMul, Nat.reduceSub, Nat.reduceLeDiff, Nat.reduceLT, reduceCtorEq, resL, resOf, h24]
          refine ⟨_, rfl, ?_, sub_hset_fresh hb2 hsG⟩
          rw [readPF_no]
          · exact Vle.tupL (.cons (Vle.aggL (by repeat (first | exact .nil | refine .cons (Vle.refl _) ?_ | refine .cons Vle.untag ?_ | refine .cons (Vle.aggL ?_) ?_ | refine .cons (Vle.slE ?_) ?_))) (.cons (Vle.refl _) .nil))
          · intro x hx hxb
            obtain ⟨q1, q2, q3⟩ := hcanz x hx hxb
            subst q1
            refine absurd h ?_
            rw [parcelF, if_neg (by rw [hx.2]; simp)]
            simp [q2, q3, hxb]
        refine aw_skip (hK17 _ _ ?_)
        refine aw_sr rfl ?_  -- r20 @value.go:395
        simp only [go_sem, reduceIte, Nat.reduceEqDiff, Nat.reduceAdd, Nat.reduceMul, Nat.reduceSub, Nat.reduceLeDiff, Nat.reduceLT, reduceCtorEq, h27, h5]
        have h24 := hget_hset_self (y := .vars (cPcl v)) h27
        refine aw_ret ⟨trivial, ?_⟩
        simp only [go_sem, reduceIte, Nat.reduceEqDiff, Nat.reduceAdd, Nat.reduceMul, Nat.reduceSub, Nat.reduceLeDiff, Nat.reduceLT, reduceCtorEq, resL, resOf, h24]
        refine ⟨_, rfl, ?_, sub_hset_fresh hb2 hsG⟩
        have hd : bd8 = true ∧ rs8 = [] ∧ (parcelF v).2 = 0 ∧ (parcelF v).1.1 = b := by
          have hr : decide ((0 : Int) < ((rs8.length : Nat) : Int)) = decide (¬ rs8 = []) := by
            cases rs8 with
            | nil => rfl
            | cons x l => rw [decide_eq_true (p := (0 : Int) < (((x :: l).length : Nat) : Int)) (by rw [List.length_cons]; omega), decide_eq_true (p := ¬ x :: l = []) (by simp)]
          simp only [hr] at h
          by_cases g1 : bd8 = true <;> by_cases g2 : rs8 = [] <;> by_cases g3 : (parcelF v).2 = 0 <;> by_cases g4 : (parcelF v).1.1 = b <;> simp [g1, g2, g3, g4] at h ⊢
        obtain ⟨d1, d2, d3, d4⟩ := hd
        have hc : checkP v = 0 := by
          by_cases hc : checkP v = 0
          · exact hc
          · rw [parcelF, if_pos hc] at d3; exact absurd d3 hc
        rw [parcelF, if_neg (by rw [hc]; simp)] at d4
        rw [readPF_yes (v := v)]
        · exact Vle.refl _
        · exact ⟨hv, hc⟩
        · exact d4
        · intro x hx hxb
          exact (hcanz x hx hxb).1
end Go.Proofs.YtlgfffngojlffaaGreat

/- Parcels compared with themselves; the law ValueParcels. No conditions. -/
set_option linter.unusedSimpArgs false
set_option linter.unusedVariables false
namespace Go.Proofs.YtlgfffngojlffaaGreat
open Go.Proofs.YtlgfffngojlffaaGreatV
set_option maxHeartbeats 400000
set_option maxRecDepth 100000
theorem q_EqNos (xs ys : List Int) (n1 n2 : Bool) (t1 t2 : Tag) (hx : (xs.length : Int) ≤ 9223372036854775807) : Quiet Tryz.prog 38 [.sl (xs.map eNo) n1 t1, .sl (ys.map eNo) n2 t2] (.bool (decide (xs = ys))) := by
  intro G
  refine acall_body (rs := [.tmp 4]) Tryz.func38 rfl rfl Tryz.ntmps38 (by kernel_rfl) (Nat.le_of_ble_eq_true rfl) ?_
  refine aw_sr rfl ?_
  simp only [go_sem, reduceIte, Nat.reduceEqDiff, Nat.reduceAdd, Nat.reduceMul, Nat.reduceSub, Nat.reduceLeDiff, Nat.reduceLT, reduceCtorEq]
  refine aw_seq fun K2 hK2 => ?_
  refine aw_sr rfl ?_
  simp only [go_sem, reduceIte, Nat.reduceEqDiff, Nat.reduceAdd, Nat.reduceMul, Nat.reduceSub, Nat.reduceLeDiff, Nat.reduceLT, reduceCtorEq]
  refine aw_if rfl (fun h => ?_) (fun h => ?_)
  · refine aw_sr rfl ?_
    simp only [go_sem, reduceIte, Nat.reduceEqDiff, Nat.reduceAdd, Nat.reduceMul, Nat.reduceSub, Nat.reduceLeDiff, Nat.reduceLT, reduceCtorEq]
    refine aw_ret ⟨trivial, _, rfl, ?_⟩
    simp only [decide_eq_true_eq, ne_eq, Int.natCast_inj] at h
    refine ⟨?_, rfl⟩
    rw [decide_eq_false (fun e => h (by rw [e]))]
    rfl
  · refine aw_skip (hK2 _ _ ?_)
    have hl : xs.length = ys.length := by simpa [Int.natCast_inj] using h
    refine aw_seq fun K3 hK3 => ?_
    refine aw_sr rfl ?_
    simp only [go_sem, reduceIte, Nat.reduceEqDiff, Nat.reduceAdd, Nat.reduceMul, Nat.reduceSub, Nat.reduceLeDiff, Nat.reduceLT, reduceCtorEq]
    refine aw_range xs.length (S := Unit) (fun _ _ => [(0, .sl (xs.map eNo) n1 t1), (1, .sl (ys.map eNo) n2 t2)]) (fun _ _ => G) (fun i _ => xs.take i = ys.take i) () hx ?_ (fun _ _ h => h) rfl rfl (fun _ _ => rfl) ?_ ?_ (by decide)
    · simp only [go_sem, reduceIte, Nat.reduceEqDiff, Nat.reduceAdd, Nat.reduceMul, Nat.reduceSub, Nat.reduceLeDiff, Nat.reduceLT, reduceCtorEq]
    · intro i _ hi he
      refine aw_sr rfl ?_
      simp only [go_sem, reduceIte, Nat.reduceEqDiff, Nat.reduceAdd, Nat.reduceMul, Nat.reduceSub, Nat.reduceLeDiff, Nat.reduceLT, reduceCtorEq]
      refine aw_srd [(0,true),(1,true),(2,true),(3,true),(4,true),(5,true),(6,true),(7,true),(8,true)] mixed rfl (by kernel_rfl) ?_
      simp only [go_sem, reduceIte, Nat.reduceEqDiff, Nat.reduceAdd, Nat.reduceMul, Nat.reduceSub, Nat.reduceLeDiff, Nat.reduceLT, reduceCtorEq, getD_map hi, getD_map (hl ▸ hi), eNo]
      refine ⟨⟨by omega, by omega, wid_map (g := eNo) (fun _ => rfl) _⟩, ⟨by omega, by omega, wid_map (g := eNo) (fun _ => rfl) _⟩, ?_⟩
      refine aw_if rfl (fun h => ?_) (fun h => ?_)
      · refine aw_sr rfl ?_
        simp only [go_sem, reduceIte, Nat.reduceEqDiff, Nat.reduceAdd, Nat.reduceMul, Nat.reduceSub, Nat.reduceLeDiff, Nat.reduceLT, reduceCtorEq]
        refine aw_ret ⟨trivial, _, rfl, ?_⟩
        refine ⟨?_, rfl⟩
        have h : ¬ xs[i] = ys[i]'(hl ▸ hi) := by simpa using h
        rw [decide_eq_false (fun e => h (by subst e; rfl))]
        rfl
      · have h : xs[i] = ys[i]'(hl ▸ hi) := by simpa using h
        refine aw_skip ⟨(), ?_, ?_, fun _ _ h => h⟩
        · rw [List.take_succ_eq_append_getElem hi, List.take_succ_eq_append_getElem (hl ▸ hi), he, h]
        · simp only [go_sem, reduceIte, Nat.reduceEqDiff, Nat.reduceAdd, Nat.reduceMul, Nat.reduceSub, Nat.reduceLeDiff, Nat.reduceLT, reduceCtorEq]
    · intro _ he
      refine hK3 _ _ ?_
      refine aw_sr rfl ?_
      simp only [go_sem, reduceIte, Nat.reduceEqDiff, Nat.reduceAdd, Nat.reduceMul, Nat.reduceSub, Nat.reduceLeDiff, Nat.reduceLT, reduceCtorEq]
      refine aw_ret ⟨trivial, _, rfl, ?_⟩
      rw [List.take_length, hl, List.take_length] at he
      subst he
      rw [decide_eq_true rfl]
      exact ⟨rfl, rfl⟩
theorem q_EqLts (F : FuncId) (xs ys : List Lt) (n1 n2 : Bool) (t1 t2 : Tag) (hx : (xs.length : Int) ≤ 9223372036854775807) (hl : xs.length = ys.length)
    (hF : ∀ i (h1 : i < xs.length) (h2 : i < ys.length), Quiet Tryz.prog F [.agg (cLt xs[i]), .agg (cLt ys[i])] (.bool true)) :
    Quiet Tryz.prog 16 [.sl (xs.map eLt) n1 t1, .sl (ys.map eLt) n2 t2, .func (.func F) [] []] (.bool true) := by
  refine Quiet.weak fun G => ?_
  refine acall_body (rs := [.tmp 6]) Tryz.func16 rfl rfl Tryz.ntmps16 (by kernel_rfl) (Nat.le_of_ble_eq_true rfl) ?_
  refine aw_sr rfl ?_
  simp only [go_sem, reduceIte, Nat.reduceEqDiff, Nat.reduceAdd, Nat.reduceMul, Nat.reduceSub, Nat.reduceLeDiff, Nat.reduceLT, reduceCtorEq]
  refine aw_seq fun K1 hK1 => ?_
  refine aw_sr rfl ?_
  simp only [go_sem, reduceIte, Nat.reduceEqDiff, Nat.reduceAdd, Nat.reduceMul, Nat.reduceSub, Nat.reduceLeDiff, Nat.reduceLT, reduceCtorEq]
  refine aw_if rfl (fun h => ?_) (fun h => ?_)
  · have h : ¬ xs.length = ys.length := by simpa [Int.natCast_inj] using h
    exact absurd hl h
  · refine aw_skip (hK1 _ _ ?_)
    refine aw_seq fun K2 hK2 => ?_
    refine aw_sr rfl ?_
    simp only [go_sem, reduceIte, Nat.reduceEqDiff, Nat.reduceAdd, Nat.reduceMul, Nat.reduceSub, Nat.reduceLeDiff, Nat.reduceLT, reduceCtorEq]
    refine aw_range xs.length (S := Unit) (fun _ _ => [(15, .sl (xs.map eLt) n1 t1), (1, .sl (ys.map eLt) n2 t2), (2, .func (.func F) [] [])]) (fun _ _ => G) (fun i _ => True) () hx ?_ (fun _ _ h => h) trivial rfl (fun _ _ => rfl) ?_ ?_ (by decide)
    · simp only [go_sem, reduceIte, Nat.reduceEqDiff, Nat.reduceAdd, Nat.reduceMul, Nat.reduceSub, Nat.reduceLeDiff, Nat.reduceLT, reduceCtorEq, Int.natCast_zero]
    · intro i _ hi he
      have hi2 : i < ys.length := hl ▸ hi
      refine aw_sr rfl ?_
      simp only [go_sem, reduceIte, Nat.reduceEqDiff, Nat.reduceAdd, Nat.reduceMul, Nat.reduceSub, Nat.reduceLeDiff, Nat.reduceLT, reduceCtorEq, getD_map hi, getD_map hi2, eLt]
      refine ⟨⟨by omega, by omega, wid_map (g := eLt) (fun _ => by simp [eLt]) _⟩, fun b hb => ?_⟩
      refine aw_sr rfl ?_
      simp only [go_sem, reduceIte, Nat.reduceEqDiff, Nat.reduceAdd, Nat.reduceMul, Nat.reduceSub, Nat.reduceLeDiff, Nat.reduceLT, reduceCtorEq, getD_map hi, getD_map hi2, eLt]
      refine ⟨⟨by omega, by omega, wid_map (g := eLt) (fun _ => by simp [eLt]) _⟩, fun b2 hb2 => ?_⟩
      have hne : ¬ b2 = b := by intro e; subst e; rw [hget_cons, if_pos rfl] at hb2; cases hb2
      refine aw_sr rfl ?_
      simp only [go_sem, reduceIte, Nat.reduceEqDiff, Nat.reduceAdd, Nat.reduceMul, Nat.reduceSub, Nat.reduceLeDiff, Nat.reduceLT, reduceCtorEq, hget_cons, hne]
      have hq := hF i hi hi2
      refine goA_q hq ?_
      simp only [go_sem, reduceIte, Nat.reduceEqDiff, Nat.reduceAdd, Nat.reduceMul, Nat.reduceSub, Nat.reduceLeDiff, Nat.reduceLT, reduceCtorEq]
      refine aw_if rfl (fun h => ?_) (fun h => ?_)
      · simp at h
      · refine aw_skip ⟨(), ?_, fun b' o' h => hsub_at hb2 _ _ (hsub_at hb _ _ h)⟩
        simp only [go_sem, reduceIte, Nat.reduceEqDiff, Nat.reduceAdd, Nat.reduceMul, Nat.reduceSub, Nat.reduceLeDiff, Nat.reduceLT, reduceCtorEq]
    · intro _ he
      refine hK2 _ _ ?_
      refine aw_sr rfl ?_
      simp only [go_sem, reduceIte, Nat.reduceEqDiff, Nat.reduceAdd, Nat.reduceMul, Nat.reduceSub, Nat.reduceLeDiff, Nat.reduceLT, reduceCtorEq]
      refine aw_ret ⟨trivial, _, rfl, ?_, fun _ _ h => h⟩
      exact Vle.refl _
theorem q_sameParcel (x : Pcl) (h : FineP x) : Quiet Tryz.prog 13 [.agg (cPcl x), .agg (cPcl x)] (.bool true) := by
  obtain ⟨h1, h2, ⟨h3, h4, h5⟩, h6, ⟨h7, h8, h9⟩, h10, h11, h12⟩ := h
  have q1 := q_EqNos x.2.2.2.2.1.1 x.2.2.2.2.1.1 x.2.2.2.2.1.2 x.2.2.2.2.1.2 .no .no (by omega)
  have q2 := q_EqNos x.2.2.2.2.2.1 x.2.2.2.2.2.1 x.2.2.2.2.2.2 x.2.2.2.2.2.2 .no .no (by omega)
  rw [decide_eq_true rfl] at q1 q2
  refine Quiet.weak fun G => ?_
  refine acall_body (rs := [.tmp 4]) Tryz.func13 rfl rfl Tryz.ntmps13 (by kernel_rfl) (Nat.le_of_ble_eq_true rfl) ?_
  refine aw_sr rfl ?_  -- r0 @low.go:32
  simp only [go_sem, reduceIte, Nat.reduceEqDiff, Nat.reduceAdd, Nat.reduceMul, Nat.reduceSub, Nat.reduceLeDiff, Nat.reduceLT, reduceCtorEq]
  intro b2 hb2
  intro b3 hb3
  refine aw_box2 hb2 hb3 fun B1 hs1 h2' h3' _ _ => ?_
  have hsB := hs1
  refine aw_sr rfl ?_  -- r1 @low.go:33
  simp only [go_sem, reduceIte, Nat.reduceEqDiff, Nat.reduceAdd, Nat.reduceMul, Nat.reduceSub, Nat.reduceLeDiff, Nat.reduceLT, reduceCtorEq, h2', h3']
  refine goH_q (fun hg => q_sameS x.2.1 h2) ?_
  simp only [go_sem, reduceIte, Nat.reduceEqDiff, Nat.reduceAdd, Nat.reduceMul, Nat.reduceSub, Nat.reduceLeDiff, Nat.reduceLT, reduceCtorEq, h2', h3']
  refine goH_q (fun hg => q_EqLts 17 x.2.2.1.1 x.2.2.1.1 _ _ _ _ (by omega) rfl (fun i h1 _ => q_sameLetter _ (h3 _ (List.getElem_mem h1)).2.2.2.2.2.1.ok)) ?_
  simp only [go_sem, reduceIte, Nat.reduceEqDiff, Nat.reduceAdd, Nat.reduceMul, Nat.reduceSub, Nat.reduceLeDiff, Nat.reduceLT, reduceCtorEq, h2', h3']
  refine goH_q (fun hg => q1) ?_
  simp only [go_sem, reduceIte, Nat.reduceEqDiff, Nat.reduceAdd, Nat.reduceMul, Nat.reduceSub, Nat.reduceLeDiff, Nat.reduceLT, reduceCtorEq, h2', h3']
  refine goH_q (fun hg => q2) ?_
  simp only [go_sem, reduceIte, Nat.reduceEqDiff, Nat.reduceAdd, Nat.reduceMul, Nat.reduceSub, Nat.reduceLeDiff, Nat.reduceLT, reduceCtorEq, h2', h3']
  refine aw_ret ⟨trivial, _, rfl, ?_, hsB⟩
  exact Vle.refl _
namespace valueParcels
end valueParcels
end Go.Proofs.YtlgfffngojlffaaGreat

/- The parts that bytes begin with. No conditions. -/
set_option linter.unusedSimpArgs false
set_option linter.unusedVariables false
namespace Go.Proofs.YtlgfffngojlffaaGreat
open Go.Proofs.YtlgfffngojlffaaGreatV
set_option maxHeartbeats 400000
set_option maxRecDepth 100000
def ePn (nl : Bool) (p : List UInt8) : List V := [.sl (bytesV p) nl .no]
theorem wid_ePn (nl : Bool) (xs : List (List UInt8)) : wid 1 (xs.map (ePn nl)) := wid_map (g := ePn nl) (fun _ => rfl) _
def partsV (nl : Bool) : Option (List (List UInt8) × Bool) → V
  | none => .tup [.sl [] true .no, .bool false]
  | some (l, ok) => .tup [.sl (l.map (ePn nl)) l.isEmpty .no, .bool ok]
theorem shl_c {c : Nat} {k : Nat} (hc : c < 256) (hk : k ≤ 24) : IntKind.i64.wrap (IntKind.i64.wrap ((c : Nat) : Int) * 2 ^ k) = ((c * 2 ^ k : Nat) : Int) := by
  have hp : (2 : Nat) ^ k ≤ 2 ^ 24 := Nat.pow_le_pow_right (by decide) hk
  have h24 : (2 : Nat) ^ 24 = 16777216 := rfl
  have hm : c * 2 ^ k ≤ 255 * 2 ^ 24 := Nat.mul_le_mul (by omega) hp
  have hcast : ((c : Nat) : Int) * 2 ^ k = ((c * 2 ^ k : Nat) : Int) := by rw [Int.natCast_mul, Int.natCast_pow]; rfl
  rw [wrap64 (n := ((c : Nat) : Int)) (by omega) (by omega), hcast, wrap64 (by omega) (by omega)]
theorem wrap_c {c : Nat} (hc : c < 256) : IntKind.i64.wrap ((c : Nat) : Int) = ((c : Nat) : Int) := wrap64 (by omega) (by omega)
theorem getD_b {b : List UInt8} {i : Nat} (h : i < b.length) : (bytesV b).getD i [] = [V.int .u8 (((b.getD i 0).toNat : Nat) : Int)] := by
  rw [getD_bytes h, List.getD_eq_getElem?_getD, List.getElem?_eq_getElem h]; rfl
theorem q_parts (b : List UInt8) (nl : Bool) (k : Nat) (hb : b.length ≤ bulk) (hk : k ≤ 1000) : Quiet Tryz.prog 29 [.sl (bytesV b) nl .no, .int .i64 ((k : Nat) : Int)] (partsV nl (partsP b k)) := by
  have hbl : b.length ≤ 1048576 := hb
  refine Quiet.weak fun G => ?_
  refine acall_body (rs := [.tmp 4, .tmp 5]) Tryz.func29 rfl rfl Tryz.ntmps29 (by kernel_rfl) (Nat.le_of_ble_eq_true rfl) ?_
  refine aw_sr rfl ?_  -- r0 @store.go:133
  simp only [go_sem, reduceIte, Nat.reduceEqDiff, Nat.reduceAdd, Nat.reduceMul, Nat.reduceSub, Nat.reduceLeDiff, Nat.reduceLT, reduceCtorEq]
  refine aw_sr rfl ?_  -- r1 @store.go:134
  simp only [go_sem, reduceIte, Nat.reduceEqDiff, Nat.reduceAdd, Nat.reduceMul, Nat.reduceSub, Nat.reduceLeDiff, Nat.reduceLT, reduceCtorEq]
  refine aw_seq fun K1 hK1 => ?_
  refine aw_sr rfl ?_  -- r2 @store.go:135
  simp only [go_sem, reduceIte, Nat.reduceEqDiff, Nat.reduceAdd, Nat.reduceMul, Nat.reduceSub, Nat.reduceLeDiff, Nat.reduceLT, reduceCtorEq]
  refine aw_range k (S := List UInt8 × List (List UInt8) × Tag × Heap) (fun i s => [(0, .sl (bytesV s.1) nl .no), (6, .sl (s.2.1.map (ePn nl)) s.2.1.isEmpty s.2.2.1)]) (fun _ s => s.2.2.2)
    (fun i s => partsP b k = (partsP s.1 (k - i)).map (fun q => (s.2.1 ++ q.1, q.2)) ∧ s.1.length ≤ b.length ∧ s.2.1.length = i ∧ Rm G s.2.2.2 1 s.2.2.1 ∧ Sub G s.2.2.2) (b, [], .full, G) (by omega) ?_ (fun _ _ h => h)
    ⟨by cases partsP b k <;> simp, Nat.le_refl _, rfl, Rm.start _ _ _, sub_rfl⟩ rfl (fun _ _ => rfl) ?_ ?_ (by decide)
  · simp only [go_sem, reduceIte, Nat.reduceEqDiff, Nat.reduceAdd, Nat.reduceMul, Nat.reduceSub, Nat.reduceLeDiff, Nat.reduceLT, reduceCtorEq, Int.natCast_zero]
  · intro i ⟨rs, out, t, H⟩ hi ⟨i1, i2, i3, i4, i5⟩
    simp only at i1 i2 i3 i4 i5 ⊢
    rw [show k - i = (k - (i + 1)) + 1 by omega, partsP] at i1
    refine aw_seq fun K2 hK2 => ?_
    refine aw_sr rfl ?_  -- r4 @store.go:136
    simp only [go_sem, reduceIte, Nat.reduceEqDiff, Nat.reduceAdd, Nat.reduceMul, Nat.reduceSub, Nat.reduceLeDiff, Nat.reduceLT, reduceCtorEq]
    refine aw_if rfl (fun h => ?_) (fun h => ?_)
    · rw [if_pos (by rw [decide_eq_true_eq] at h; omega)] at i1
      refine aw_sr rfl ?_  -- r5 @store.go:137
      simp only [go_sem, reduceIte, Nat.reduceEqDiff, Nat.reduceAdd, Nat.reduceMul, Nat.reduceSub, Nat.reduceLeDiff, Nat.reduceLT, reduceCtorEq]
      refine aw_ret ⟨trivial, _, rfl, ?_, i5⟩
      rw [i1]
      exact Vle.tupL (.cons Vle.untag (.cons (Vle.refl _) .nil))
    have h4 : 4 ≤ rs.length := by rw [decide_eq_false_iff_not] at h; omega
    rw [if_neg (by omega)] at i1
    refine aw_skip (hK2 _ _ ?_)
    have h0 := (rs.getD 0 0).toNat_lt
    have h1 := (rs.getD 1 0).toNat_lt
    have h2 := (rs.getD 2 0).toNat_lt
    have h3 := (rs.getD 3 0).toNat_lt
    have hn4 := n4_lt rs
    refine aw_srd [(0,true),(1,true),(2,true),(3,true),(4,true),(5,true),(6,true),(7,true),(8,true),(9,true),(10,true),(11,true),(12,true),(13,true),(14,true),(15,true),(16,true),(17,true),(18,true),(19,true),(20,true),(21,true),(22,true)] mixed rfl (by kernel_rfl) ?_
    simp only [go_sem, reduceIte, Nat.reduceEqDiff, Nat.reduceAdd, Nat.reduceMul, Nat.reduceSub, Nat.reduceLeDiff, Nat.reduceLT, reduceCtorEq, Int.toNat_zero, toNat1, toNat2, show Int.toNat 3 = 3 from rfl, getD_b (show 0 < rs.length by omega), getD_b (show 1 < rs.length by omega), getD_b (show 2 < rs.length by omega), getD_b (show 3 < rs.length by omega)]
    refine ⟨⟨by omega, by omega, wid_bytes _⟩, by omega, ⟨by omega, by omega, wid_bytes _⟩, by omega, ⟨by omega, by omega, wid_bytes _⟩, by omega, ⟨by omega, by omega, wid_bytes _⟩, ?_⟩
    have hv : bits BinOp.or IntKind.i64 (bits BinOp.or IntKind.i64 (bits BinOp.or IntKind.i64 (IntKind.i64.wrap (IntKind.i64.wrap ((rs.getD 0 0).toNat : Int) * 2 ^ (Int.toNat 24).min 64)) (IntKind.i64.wrap (IntKind.i64.wrap ((rs.getD 1 0).toNat : Int) * 2 ^ (Int.toNat 16).min 64))) (IntKind.i64.wrap (IntKind.i64.wrap ((rs.getD 2 0).toNat : Int) * 2 ^ (Int.toNat 8).min 64))) (IntKind.i64.wrap ((rs.getD 3 0).toNat : Int)) = ((n4 rs : Nat) : Int) := by
      rw [show (Int.toNat 24).min 64 = 24 from rfl, show (Int.toNat 16).min 64 = 16 from rfl, show (Int.toNat 8).min 64 = 8 from rfl, shl_c h0 (by decide), shl_c h1 (by decide), shl_c h2 (by decide), wrap_c h3]
      exact n4_or rs
    rw [hv]
    refine aw_seq fun K3 hK3 => ?_
    refine aw_sr rfl ?_  -- r7 @store.go:140
    simp only [go_sem, reduceIte, Nat.reduceEqDiff, Nat.reduceAdd, Nat.reduceMul, Nat.reduceSub, Nat.reduceLeDiff, Nat.reduceLT, reduceCtorEq, show IntKind.i64.wrap ((rs.length : Int) - 4) = ((rs.length - 4 : Nat) : Int) by rw [wrap64 (by omega) (by omega)]; omega]
    refine aw_if rfl (fun h => ?_) (fun h => ?_)
    · rw [if_pos (by rw [decide_eq_true_eq] at h; omega)] at i1
      refine aw_sr rfl ?_  -- r8 @store.go:141
      simp only [go_sem, reduceIte, Nat.reduceEqDiff, Nat.reduceAdd, Nat.reduceMul, Nat.reduceSub, Nat.reduceLeDiff, Nat.reduceLT, reduceCtorEq]
      refine aw_ret ⟨trivial, _, rfl, ?_, i5⟩
      rw [i1]
      exact Vle.tupL (.cons Vle.untag (.cons (Vle.refl _) .nil))
    have hfit : ¬ rs.length - 4 < n4 rs := by rw [decide_eq_false_iff_not] at h; omega
    rw [if_neg hfit] at i1
    have hw2 : IntKind.i64.wrap (4 + ((n4 rs : Nat) : Int)) = ((4 + n4 rs : Nat) : Int) := by rw [wrap64 (by omega) (by omega)]; omega
    refine aw_skip (hK3 _ _ ?_)
    refine aw_sr rfl ?_  -- r9 @store.go:143
    simp only [go_sem, reduceIte, Nat.reduceEqDiff, Nat.reduceAdd, Nat.reduceMul, Nat.reduceSub, Nat.reduceLeDiff, Nat.reduceLT, reduceCtorEq, hw2, show Int.toNat 4 = 4 from rfl, take_bytesV, drop_bytesV, sliceTag_no]
    refine ⟨⟨⟨by omega, by omega, by omega⟩, wid_bytes _⟩, ?_⟩
    refine goP_rm i4 i5 ?_ fun t1 H1 hr1 hs1 hg1 => ?_
    · exact ⟨rfl, rfl, by decide, wid_ePn _ _, wid_one rfl, sca_one rfl, by simp; omega, by simp; omega⟩
    simp only [go_sem, reduceIte, Nat.reduceEqDiff, Nat.reduceAdd, Nat.reduceMul, Nat.reduceSub, Nat.reduceLeDiff, Nat.reduceLT, reduceCtorEq]
    refine aw_rg rfl ?_  -- r10 @store.go:144
    simp only [go_sem, reduceIte, Nat.reduceEqDiff, Nat.reduceAdd, Nat.reduceMul, Nat.reduceSub, Nat.reduceLeDiff, Nat.reduceLT, reduceCtorEq, hw2, List.take_length, drop_bytesV, sliceTag_no, show ((List.length rs : Nat) : Int).toNat = rs.length from rfl]
    refine ⟨⟨⟨by omega, by omega⟩, wid_bytes _⟩, ?_⟩
    refine ⟨(rs.drop (4 + n4 rs), out ++ [(rs.drop 4).take (n4 rs)], t1, H1), ⟨?_, by show (rs.drop _).length ≤ _; rw [List.length_drop]; omega, by show (out ++ [_]).length = _; rw [List.length_append, List.length_singleton, i3], hr1, hs1⟩, ?_, sub_rfl⟩
    · rw [i1]
      cases partsP (rs.drop (4 + n4 rs)) (k - (i + 1)) <;> simp
    · simp only [go_sem, reduceIte, Nat.reduceEqDiff, Nat.reduceAdd, Nat.reduceMul, Nat.reduceSub, Nat.reduceLeDiff, Nat.reduceLT, reduceCtorEq]
      rw [isEmpty_snoc, List.map_append, List.map_cons, List.map_nil, ePn, List.drop_take, Nat.add_sub_cancel_left]
      try simp
  intro ⟨rs, out, t, H⟩ ⟨i1, i2, i3, i4, i5⟩
  simp only at i1 i2 i3 i4 i5 ⊢
  rw [Nat.sub_self, partsP] at i1
  refine hK1 _ _ ?_
  refine aw_sr rfl ?_  -- r12 @store.go:146
  simp only [go_sem, reduceIte, Nat.reduceEqDiff, Nat.reduceAdd, Nat.reduceMul, Nat.reduceSub, Nat.reduceLeDiff, Nat.reduceLT, reduceCtorEq]
  refine aw_ret ⟨trivial, _, rfl, ?_, i5⟩
  rw [i1]
  simp only [Option.map_some, List.append_nil, partsV]
  have hd : decide (((rs.length : Nat) : Int) = 0) = decide (rs.length = 0) := by simp
  rw [← hd]
  exact Vle.tupL (.cons Vle.untag (.cons (Vle.refl _) .nil))
end Go.Proofs.YtlgfffngojlffaaGreat

/- A way that is read of a piece. No conditions. -/
set_option linter.unusedSimpArgs false
set_option linter.unusedVariables false
namespace Go.Proofs.YtlgfffngojlffaaGreat
open Go.Proofs.YtlgfffngojlffaaGreatV
set_option maxHeartbeats 400000
set_option maxRecDepth 100000
theorem scanL_mem : ∀ (n : Nat) (b : List UInt8), b.length ≤ n → ∀ x ∈ (scanL b).1, x.length ≤ b.length
  | n, [], _, x, hx => by simp [scanL] at hx
  | n, [a], _, x, hx => by simp [scanL] at hx
  | 0, a :: c :: r, h, x, hx => by simp at h
  | n + 1, a :: c :: r, h, x, hx => by
    rw [scanL] at hx
    simp only [List.length_cons] at h ⊢
    split at hx
    · simp at hx
    · rcases List.mem_cons.1 hx with rfl | hx
      · rw [List.length_take]; omega
      · have := scanL_mem n _ (by rw [List.length_drop]; omega) x hx
        rw [List.length_drop] at this
        omega
noncomputable def rdL (b : List UInt8) : Lt := (readLF b).1
abbrev wyZ : List V := [.int .i64 0, .int .i64 0, .sl [] true .full]
noncomputable def wayV (x : List UInt8) : V := match wayF x with
  | none => .tup [.agg [.int .i64 0, .int .i64 0, .sl [] true .no], .bool false]
  | some w => .tup [.agg (cWyt w), .bool (decide ((scanL (x.drop 2)).2 = x.length - 2))]
theorem all_next {A : Type} {q : A → Bool} {xs : List A} {i : Nat} (hi : i < xs.length) (h : (xs.take i).all q = true) (he : q xs[i] = true) : (xs.take (i + 1)).all q = true := by
  rw [List.take_succ_eq_append_getElem hi, List.all_append, h]
  simp [he]
theorem all_fail {A : Type} {q : A → Bool} {xs : List A} {i : Nat} (hi : i < xs.length) (he : q xs[i] = false) : ¬ xs.all q = true := by
  intro h
  rw [List.all_eq_true] at h
  rw [h _ (List.getElem_mem hi)] at he
  cases he
theorem q_readWay (x : List UInt8) (hb : x.length ≤ bulk) : Quiet Tryz.prog 31 [.sl (bytesV x) false .no] (wayV x) := by
  have hbl : x.length ≤ 1048576 := hb
  refine Quiet.weak fun G => ?_
  refine acall_body (rs := [.cell 2 52, .tmp 3]) Tryz.func31 rfl rfl Tryz.ntmps31 (by kernel_rfl) (Nat.le_of_ble_eq_true rfl) ?_
  refine aw_sr rfl ?_  -- r0 @store.go:150
  simp only [go_sem, reduceIte, Nat.reduceEqDiff, Nat.reduceAdd, Nat.reduceMul, Nat.reduceSub, Nat.reduceLeDiff, Nat.reduceLT, reduceCtorEq]
  intro b2 hb2
  refine aw_box1 hb2 fun B1 hs1 h2 => ?_
  have hsB := hs1
  refine aw_seq fun K4 hK4 => ?_
  refine aw_sr rfl ?_  -- r1 @store.go:151
  simp only [go_sem, reduceIte, Nat.reduceEqDiff, Nat.reduceAdd, Nat.reduceMul, Nat.reduceSub, Nat.reduceLeDiff, Nat.reduceLT, reduceCtorEq]
  refine aw_if rfl (fun h => ?_) (fun h => ?_)
  · have hlt : x.length < 2 := by rw [decide_eq_true_eq] at h; omega
    refine aw_sr rfl ?_  -- r2 @store.go:152
    simp only [go_sem, reduceIte, Nat.reduceEqDiff, Nat.reduceAdd, Nat.reduceMul, Nat.reduceSub, Nat.reduceLeDiff, Nat.reduceLT, reduceCtorEq, h2]
    have h24 := hget_hset_self (y := .vars wyZ) h2
    refine aw_ret ⟨trivial, ?_⟩
    simp only [go_sem, reduceIte, Nat.reduceEqDiff, Nat.reduceAdd, Nat.reduceMul, Nat.reduceSub, Nat.reduceLeDiff, Nat.reduceLT, reduceCtorEq, resL, resOf, h24]
    refine ⟨_, rfl, ?_, sub_hset_fresh hb2 hsB⟩
    rw [wayV, wayF, if_pos hlt]
    exact Vle.tupL (.cons (Vle.aggL (by repeat (first | exact .nil | refine .cons (Vle.refl _) ?_ | refine .cons Vle.untag ?_ | refine .cons (Vle.aggL ?_) ?_ | refine .cons (Vle.slE ?_) ?_))) (.cons (Vle.refl _) .nil))
  have hge : 2 ≤ x.length := by rw [decide_eq_false_iff_not] at h; omega
  refine aw_skip (hK4 _ _ ?_)
  have c0 := (x.getD 0 0).toNat_lt
  have c1 := (x.getD 1 0).toNat_lt
  refine aw_srd [(0,true),(1,true),(2,true),(3,true),(4,true),(5,true),(6,true),(7,true),(8,true),(9,false),(10,false)] mixed rfl (by kernel_rfl) ?_  -- r3 @store.go:154
  simp only [go_sem, reduceIte, Nat.reduceEqDiff, Nat.reduceAdd, Nat.reduceMul, Nat.reduceSub, Nat.reduceLeDiff, Nat.reduceLT, reduceCtorEq, Int.toNat_zero, toNat1, getD_b (show 0 < x.length by omega), getD_b (show 1 < x.length by omega), wrap_c c0, wrap_c c1]
  refine ⟨⟨by omega, by omega, wid_bytes _⟩, ⟨by omega, by omega, wid_bytes _⟩, ?_⟩
  intro b4 hb4
  have n24 : ¬ b2 = b4 := ne_fresh h2 hb4
  have hG4 : hget G b4 = none := none_sub hs1 hb4
  refine aw_box1 hb4 fun B2 hs2 h4 => ?_
  replace h2 := hs2 _ _ h2
  replace hsB := sub_trans hsB hs2
  refine aw_sr rfl ?_  -- r4 @store.go:155
  simp only [go_sem, reduceIte, Nat.reduceEqDiff, Nat.reduceAdd, Nat.reduceMul, Nat.reduceSub, Nat.reduceLeDiff, Nat.reduceLT, reduceCtorEq, toNat2, take_bytesV, drop_bytesV, List.take_length, sliceTag_no, show ((List.length x : Nat) : Int).toNat = x.length from rfl]
  refine ⟨⟨⟨by omega, by omega⟩, wid_bytes _⟩, ?_⟩
  refine goA_q (q_Scan (x.drop 2) false .no (by rw [List.length_drop]; omega) (fun e => by cases e)) ?_
  simp only [go_sem, reduceIte, Nat.reduceEqDiff, Nat.reduceAdd, Nat.reduceMul, Nat.reduceSub, Nat.reduceLeDiff, Nat.reduceLT, reduceCtorEq]
  have hmem := scanL_mem _ (x.drop 2) (Nat.le_refl _)
  have hlen := scanL_len (x.drop 2)
  rw [List.length_drop] at hmem hlen
  have hwF : wayF x = if (scanL (x.drop 2)).1.all okL = true then some (at0 x 0, at0 x 1, ((scanL (x.drop 2)).1.map rdL), (scanL (x.drop 2)).1.isEmpty) else none := by rw [wayF, if_neg (by omega)]; rfl
  have hwV : ∀ w, wayF x = some w → wayV x = .tup [.agg (cWyt w), .bool (decide ((scanL (x.drop 2)).2 = x.length - 2))] := fun w h => by rw [wayV, h]
  have hwN : wayF x = none → wayV x = .tup [.agg [.int .i64 0, .int .i64 0, .sl [] true .no], .bool false] := fun h => by rw [wayV, h]
  generalize hL : (scanL (x.drop 2)).1 = L at *
  generalize hM : (scanL (x.drop 2)).2 = m at *
  rw [show (L.map fun p => ePc (p, false)) = L.map (ePn false) from rfl]
  refine aw_seq fun K5 hK5 => ?_
  refine aw_sr rfl ?_  -- r5 @store.go:156
  simp only [go_sem, reduceIte, Nat.reduceEqDiff, Nat.reduceAdd, Nat.reduceMul, Nat.reduceSub, Nat.reduceLeDiff, Nat.reduceLT, reduceCtorEq]
  refine aw_range L.length (S := Tag × Heap) (fun i _ => [(0, .sl (bytesV x) false .no), (2, .ptr b2 0), (4, .ptr b4 0), (6, .int .i64 ((m : Nat) : Int)), (30, .sl (L.map (ePn false)) L.isEmpty .no)]) (fun _ s => s.2)
    (fun i s => (L.take i).all okL = true ∧ hget s.2 b2 = some (.vars wyZ) ∧ hget s.2 b4 = some (.vars [.int .i64 (at0 x 0), .int .i64 (at0 x 1), .sl (((L.take i).map rdL).map eLt) (L.take i).isEmpty s.1]) ∧ Rm G s.2 9 s.1 ∧ Sub G s.2) (.full, B2) (by omega) ?_ (fun _ _ h => h)
    ⟨rfl, h2, by simp only [List.take_zero, List.map_nil, List.isEmpty_nil]; exact h4, Rm.start _ _ _, hsB⟩ rfl (fun _ _ => rfl) ?_ ?_ (by decide)
  · simp only [go_sem, reduceIte, Nat.reduceEqDiff, Nat.reduceAdd, Nat.reduceMul, Nat.reduceSub, Nat.reduceLeDiff, Nat.reduceLT, reduceCtorEq, Int.natCast_zero]
  · intro i ⟨t, H⟩ hi ⟨i1, i2, i3, i4, i5⟩
    simp only at i1 i2 i3 i4 i5 ⊢
    refine aw_sr rfl ?_  -- r7 @store.go:156
    simp only [go_sem, reduceIte, Nat.reduceEqDiff, Nat.reduceAdd, Nat.reduceMul, Nat.reduceSub, Nat.reduceLeDiff, Nat.reduceLT, reduceCtorEq, getD_map hi, ePn]
    refine ⟨⟨by omega, by omega, wid_ePn _ _⟩, ?_⟩
    have hlb := hmem _ (List.getElem_mem hi)
    have hfin := readLF_fine L[i]
    refine aw_sr rfl ?_  -- r8 @store.go:157
    simp only [go_sem, reduceIte, Nat.reduceEqDiff, Nat.reduceAdd, Nat.reduceMul, Nat.reduceSub, Nat.reduceLeDiff, Nat.reduceLT, reduceCtorEq]
    refine goA_q (q_ReadLetter L[i] false (by show _ ≤ 1048576; omega)) ?_
    simp only [go_sem, reduceIte, Nat.reduceEqDiff, Nat.reduceAdd, Nat.reduceMul, Nat.reduceSub, Nat.reduceLeDiff, Nat.reduceLT, reduceCtorEq]
    intro b9 hb9
    have n94 : ¬ b4 = b9 := ne_fresh i3 hb9
    have n92 : ¬ b2 = b9 := ne_fresh i2 hb9
    refine aw_box1 hb9 fun B3 hs3 h9 => ?_
    replace i2 := hs3 _ _ i2
    replace i3 := hs3 _ _ i3
    replace i4 := i4.sub hs3
    replace i5 := sub_trans i5 hs3
    refine aw_seq fun K6 hK6 => ?_
    refine aw_sr rfl ?_  -- r9 @store.go:158
    simp only [go_sem, reduceIte, Nat.reduceEqDiff, Nat.reduceAdd, Nat.reduceMul, Nat.reduceSub, Nat.reduceLeDiff, Nat.reduceLT, reduceCtorEq]
    refine aw_if rfl (fun h => ?_) (fun h => ?_)
    · have hno : okL L[i] = false := by unfold okL; simpa using h
      refine aw_sr rfl ?_  -- r10 @store.go:159
      simp only [go_sem, reduceIte, Nat.reduceEqDiff, Nat.reduceAdd, Nat.reduceMul, Nat.reduceSub, Nat.reduceLeDiff, Nat.reduceLT, reduceCtorEq, i2]
      have h24 := hget_hset_self (y := .vars wyZ) i2
      refine aw_ret ⟨trivial, ?_⟩
      simp only [go_sem, reduceIte, Nat.reduceEqDiff, Nat.reduceAdd, Nat.reduceMul, Nat.reduceSub, Nat.reduceLeDiff, Nat.reduceLT, reduceCtorEq, resL, resOf, h24]
      refine ⟨_, rfl, ?_, sub_hset_fresh hb2 i5⟩
      rw [hwN (by rw [hwF, if_neg (all_fail hi hno)])]
      exact Vle.tupL (.cons (Vle.aggL (by repeat (first | exact .nil | refine .cons (Vle.refl _) ?_ | refine .cons Vle.untag ?_ | refine .cons (Vle.aggL ?_) ?_ | refine .cons (Vle.slE ?_) ?_))) (.cons (Vle.refl _) .nil))
    have hok : okL L[i] = true := by unfold okL; simpa using h
    refine aw_skip (hK6 _ _ ?_)
    refine aw_rg rfl ?_  -- r11 @store.go:161
    simp only [go_sem, reduceIte, Nat.reduceEqDiff, Nat.reduceAdd, Nat.reduceMul, Nat.reduceSub, Nat.reduceLeDiff, Nat.reduceLT, reduceCtorEq, i3, h9]
    refine goP_rm i4 i5 ?_ fun t1 H1 hr1 hs1 hg1 => ?_
    · exact ⟨rfl, rfl, by decide, wid_eLt _, wid_one rfl, sca_one rfl, by simp; omega, by simp; omega⟩
    have u2 := hg1.vars i2
    have u3 := hg1.vars i3
    simp only [go_sem, reduceIte, Nat.reduceEqDiff, Nat.reduceAdd, Nat.reduceMul, Nat.reduceSub, Nat.reduceLeDiff, Nat.reduceLT, reduceCtorEq, u3, Bool.and_false]
    have hsn : ((L.take i).map rdL).map eLt ++ [cLt (readLF L[i]).1] = ((L.take (i + 1)).map rdL).map eLt := by
      rw [List.take_succ_eq_append_getElem hi, List.map_append, List.map_append, List.map_cons, List.map_nil, List.map_cons, List.map_nil]; rfl
    have hie : (L.take (i + 1)).isEmpty = false := by rw [List.take_succ_eq_append_getElem hi]; exact isEmpty_snoc _ _
    rw [hsn]
    generalize hH3 : hset H1 b4 _ = H3
    obtain ⟨u5, hk, _, hRm, hS⟩ := st_facts hH3 u3 (fun _ _ e => by cases e)
    refine ⟨(t1, H3), ⟨all_next hi i1 hok, hk _ _ n24 u2, ?_, hRm _ _ _ hr1, hS _ hG4 hs1⟩, ?_, sub_rfl⟩
    · rw [hie]; exact u5
    · simp only [go_sem, reduceIte, Nat.reduceEqDiff, Nat.reduceAdd, Nat.reduceMul, Nat.reduceSub, Nat.reduceLeDiff, Nat.reduceLT, reduceCtorEq]
  intro ⟨t, H⟩ ⟨i1, i2, i3, i4, i5⟩
  simp only at i1 i2 i3 i4 i5 ⊢
  rw [List.take_length] at i1 i3
  refine hK5 _ _ ?_
  refine aw_sr rfl ?_  -- r13 @store.go:163
  simp only [go_sem, reduceIte, Nat.reduceEqDiff, Nat.reduceAdd, Nat.reduceMul, Nat.reduceSub, Nat.reduceLeDiff, Nat.reduceLT, reduceCtorEq, i3, i2, show IntKind.i64.wrap ((x.length : Int) - 2) = ((x.length - 2 : Nat) : Int) by rw [wrap64 (by omega) (by omega)]; omega]
  have h24 := hget_hset_self (y := .vars [.int .i64 (at0 x 0), .int .i64 (at0 x 1), .sl ((L.map rdL).map eLt) L.isEmpty t]) i2
  refine aw_ret ⟨trivial, ?_⟩
  simp only [go_sem, reduceIte, Nat.reduceEqDiff, Nat.reduceAdd, Nat.reduceMul, Nat.reduceSub, Nat.reduceLeDiff, Nat.reduceLT, reduceCtorEq, resL, resOf, h24]
  refine ⟨_, rfl, ?_, sub_hset_fresh hb2 i5⟩
  rw [hwV _ (by rw [hwF, if_pos i1])]
  have hd : decide (((m : Nat) : Int) = ((x.length - 2 : Nat) : Int)) = decide (m = x.length - 2) := by rw [Bool.eq_iff_iff, decide_eq_true_eq, decide_eq_true_eq]; omega
  rw [← hd]
  exact Vle.tupL (.cons (Vle.aggL (by repeat (first | exact .nil | refine .cons (Vle.refl _) ?_ | refine .cons Vle.untag ?_ | refine .cons (Vle.aggL ?_) ?_ | refine .cons (Vle.slE ?_) ?_))) (.cons (Vle.refl _) .nil))
end Go.Proofs.YtlgfffngojlffaaGreat
