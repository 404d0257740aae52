import Derived.Test.YtomjghlaoncpbaaValN
set_option linter.unusedSimpArgs false
set_option linter.unusedVariables false
namespace Go.Proofs.Ytomjghlaoncpbaa
open Go.Proofs.YtomjghlaoncpbaaV
set_option maxHeartbeats 400000
set_option maxRecDepth 100000
mutual
theorem encV_le {L : Nat} : ∀ v : Val, OkVal v → v.long ≤ L → (encV v).length ≤ v.sz * (31 + L)
  | .mk k n t ar nl, ho, h => by
    have hlong := long_eq (.mk k n t ar nl)
    have hnum := natB_numN ho.num
    have htx : t.length ≤ 1048576 := ho.text
    have har : ar.length ≤ 1048576 := ho.len
    have h1 := natB_len64 (n := t.length) (by omega)
    have h2 := natB_len64 (n := ar.length) (by omega)
    have ht : t.length ≤ L := by have : t.length ≤ (Val.mk k n t ar nl).long := by rw [hlong]; exact Nat.le_max_left _ _
                                 omega
    have hla : longs ar ≤ (Val.mk k n t ar nl).long := by rw [hlong]; exact Nat.le_max_right _ _
    have ih := encVs_le (L := L) ar (fun a ha => ho.arg ha) (by omega)
    simp only [encV, textB, List.length_cons, List.length_append, Val.sz, Nat.add_mul, Nat.one_mul]
    simp only [Val.num] at hnum
    omega
theorem encVs_le {L : Nat} : ∀ l : List Val, (∀ v ∈ l, OkVal v) → longs l ≤ L → (encVs l).length ≤ szs l * (31 + L)
  | [], _, _ => by simp [encVs]
  | v :: l, ho, h => by
    rw [longs] at h
    have h1 := encV_le v (ho v (by simp)) (Nat.le_trans (Nat.le_max_left _ _) h)
    have h2 := encVs_le l (fun a ha => ho a (by simp [ha])) (Nat.le_trans (Nat.le_max_right _ _) h)
    simp only [encVs, szs, List.length_append, Nat.add_mul]
    omega
end
theorem check_small {v : Val} (h : checkV v = 0) : v.sz ≤ 400 ∧ v.deep ≤ 40 ∧ v.long ≤ 4000 ∧ rightV v = true := by
  unfold checkV at h
  split at h
  · cases h
  · rename_i h1
    split at h
    · cases h
    · rename_i h2
      simp only [Bool.or_eq_true, decide_eq_true_eq] at h1
      exact ⟨by omega, by omega, by omega, by simpa using h2⟩
theorem enc_small {v : Val} (ho : OkVal v) (h : checkV v = 0) : (encV v).length ≤ 2000000 := by
  obtain ⟨h1, _, h3, _⟩ := check_small h
  have := encV_le (L := 4000) v ho h3
  have : v.sz * (31 + 4000) ≤ 400 * (31 + 4000) := Nat.mul_le_mul_right _ h1
  omega
theorem encV_ne (v : Val) : encV v ≠ [] := by rw [encV_eq]; simp
def bytesF (v : Val) : (List UInt8 × Bool) × Int := if checkV v ≠ 0 then (([], true), checkV v) else ((encV v, false), 0)
abbrev pairB (p : (List UInt8 × Bool) × Int) : V := .tup [.sl (bytesV p.1.1) p.1.2 .no, .int .i64 p.2]
theorem q_Bytes (v : Val) (ho : oVal v) : Quiet Try.prog 47 [.agg (cV v)] (pairB (bytesF v)) := by
  refine Quiet.weak fun G => ?_
  refine acall_body (rs := [.tmp 2, .tmp 3]) Try.func47 rfl rfl Try.ntmps47 (by kernel_rfl) (Nat.le_of_ble_eq_true rfl) ?_
  refine aw_sr rfl ?_
  simp only [go_sem, reduceIte, Nat.reduceEqDiff, Nat.reduceAdd, Nat.reduceMul, Nat.reduceSub, Nat.reduceLeDiff, Nat.reduceLT, reduceCtorEq]
  intro b1 hb1
  refine aw_seq fun K1 hK1 => ?_
  refine aw_sr rfl ?_
  simp only [go_sem, reduceIte, Nat.reduceEqDiff, Nat.reduceAdd, Nat.reduceMul, Nat.reduceSub, Nat.reduceLeDiff, Nat.reduceLT, reduceCtorEq]
  refine goA_q (q_valCheck v ho) ?_
  simp only [go_sem, reduceIte, Nat.reduceEqDiff, Nat.reduceAdd, Nat.reduceMul, Nat.reduceSub, Nat.reduceLeDiff, Nat.reduceLT, reduceCtorEq]
  refine aw_sr rfl ?_
  simp only [go_sem, reduceIte, Nat.reduceEqDiff, Nat.reduceAdd, Nat.reduceMul, Nat.reduceSub, Nat.reduceLeDiff, Nat.reduceLT, reduceCtorEq]
  refine aw_if rfl (fun h => ?_) (fun h => ?_)
  · refine aw_sr rfl ?_
    simp only [go_sem, reduceIte, Nat.reduceEqDiff, Nat.reduceAdd, Nat.reduceMul, Nat.reduceSub, Nat.reduceLeDiff, Nat.reduceLT, reduceCtorEq]
    refine aw_ret ⟨trivial, _, rfl, ?_, sub_tail hb1⟩
    rw [bytesF, if_pos (by simpa using h)]
    exact Vle.tupL (.cons Vle.untag (.cons (Vle.refl _) .nil))
  have hc : checkV v = 0 := by simpa using h
  have hlen := enc_small ho.1 hc
  refine aw_skip (hK1 _ _ ?_)
  refine aw_sr rfl ?_
  simp only [go_sem, reduceIte, Nat.reduceEqDiff, Nat.reduceAdd, Nat.reduceMul, Nat.reduceSub, Nat.reduceLeDiff, Nat.reduceLT, reduceCtorEq]
  intro b5 hb5
  refine aw_sr rfl ?_
  obtain ⟨n51, n5⟩ := fresh_cons hb5
  simp only [go_sem, reduceIte, Nat.reduceEqDiff, Nat.reduceAdd, Nat.reduceMul, Nat.reduceSub, Nat.reduceLeDiff, Nat.reduceLT, reduceCtorEq, n51]
  have w0 : WOk ((b1, .vars (cV v)) :: G) b5 1 (bytesV []) ((b5, .vars [.sl [] true .full]) :: (b1, .vars (cV v)) :: G) := ⟨hb5, true, .full, _, fun _ => rfl, Room.start _ _, sub_rfl⟩
  refine goA_by (a_value _ b5 v [] _ ho.1 (by simpa using Nat.le_trans hlen (by decide)) w0) fun y G2 w1 => ?_
  have hold := w1.old
  obtain ⟨h0, nl, t, H, hnl, hr, hsb⟩ := w1
  have hgw : hget G2 b5 = some (.vars [.sl (bytesV ([] ++ encV v)) nl t]) := hsb _ _ (hr.sub _ _ (hget_self _ _ _))
  rw [List.nil_append] at hgw hnl
  simp only [go_sem, reduceIte, Nat.reduceEqDiff, Nat.reduceAdd, Nat.reduceMul, Nat.reduceSub, Nat.reduceLeDiff, Nat.reduceLT, reduceCtorEq]
  have hnf : nl = false := by
    cases nl with
    | false => rfl
    | true => have e := congrArg List.length (hnl rfl); rw [length_bytesV] at e; exact absurd (List.eq_nil_of_length_eq_zero e) (encV_ne v)
  refine aw_sr rfl ?_
  simp only [go_sem, reduceIte, Nat.reduceEqDiff, Nat.reduceAdd, Nat.reduceMul, Nat.reduceSub, Nat.reduceLeDiff, Nat.reduceLT, reduceCtorEq, hgw]
  refine goA_q (q_Clone (encV v) nl t (by omega) (fun e => by rw [hnf] at e; cases e)) ?_
  simp only [go_sem, reduceIte, Nat.reduceEqDiff, Nat.reduceAdd, Nat.reduceMul, Nat.reduceSub, Nat.reduceLeDiff, Nat.reduceLT, reduceCtorEq]
  refine aw_ret ⟨trivial, _, rfl, ?_, sub_trans (sub_tail hb1) hold⟩
  rw [bytesF, if_neg (by simpa using hc), hnf]
  exact Vle.refl _
theorem q_live : Quiet Try.prog 46 [] (.bool true) := by
  have hv : oVal (.mk 2 1 [] [] true) := ⟨.mk (by decide) (by decide) (by decide) (fun _ => rfl) (by decide) (by simp), by decide⟩
  have hq := q_Bytes _ hv
  have hc : checkV (.mk 2 1 [] [] true) = 0 := by decide
  have he : encV (.mk 2 1 [] [] true) = [2, 2, 0, 0] := by
    simp only [encV, textB, encVs, natB_small (show numN 1 < 128 by decide), natB_small (show ([] : List UInt8).length < 128 by decide), natB_small (show ([] : List Val).length < 128 by decide)]
    rfl
  rw [bytesF, if_neg (by rw [hc]; simp), he] at hq
  have hq' : Quiet Try.prog 47 [.agg [.int .i64 2, .int .i64 1, .str [], .sl [] true .full]] (pairB (([2, 2, 0, 0], false), 0)) :=
    hq.args (.cons (Vle.aggL (.cons (Vle.refl _) (.cons (Vle.refl _) (.cons (Vle.refl _) (.cons Vle.untag .nil))))) .nil)
  intro G
  refine acall_body (rs := [.tmp 0]) Try.func46 rfl rfl Try.ntmps46 (by kernel_rfl) (Nat.le_of_ble_eq_true rfl) ?_
  refine aw_sr rfl ?_
  simp only [go_sem, reduceIte, Nat.reduceEqDiff, Nat.reduceAdd, Nat.reduceMul, Nat.reduceSub, Nat.reduceLeDiff, Nat.reduceLT, reduceCtorEq]
  refine aw_sr rfl ?_
  simp only [go_sem, reduceIte, Nat.reduceEqDiff, Nat.reduceAdd, Nat.reduceMul, Nat.reduceSub, Nat.reduceLeDiff, Nat.reduceLT, reduceCtorEq]
  refine goA_q hq' ?_
  simp only [go_sem, reduceIte, Nat.reduceEqDiff, Nat.reduceAdd, Nat.reduceMul, Nat.reduceSub, Nat.reduceLeDiff, Nat.reduceLT, reduceCtorEq]
  refine aw_sr rfl ?_
  simp only [go_sem, reduceIte, Nat.reduceEqDiff, Nat.reduceAdd, Nat.reduceMul, Nat.reduceSub, Nat.reduceLeDiff, Nat.reduceLT, reduceCtorEq]
  exact aw_ret ⟨trivial, _, rfl, rfl, rfl⟩
end Go.Proofs.Ytomjghlaoncpbaa
