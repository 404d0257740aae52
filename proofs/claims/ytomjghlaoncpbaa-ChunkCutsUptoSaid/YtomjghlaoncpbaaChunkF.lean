import Derived.Test.YtomjghlaoncpbaaChunkE
set_option linter.unusedSimpArgs false
set_option linter.unusedVariables false
namespace Go.Proofs.Ytomjghlaoncpbaa
open Go.Proofs.YtomjghlaoncpbaaV
set_option maxHeartbeats 400000
set_option maxRecDepth 100000
theorem cut_const : (cutL [97, 10, 98]).length = 2 := by
  rw [cut_same 3 _ (by decide)]
  decide
theorem map_pc (l : List (List UInt8)) (nl : Bool) : l.map (fun p => ePc (p, nl)) = (l.map fun p => (p, nl)).map ePc := by simp
theorem packV_eq (e : Bool) (o : Option (List UInt8)) : packV e o = .tup [.sl (bytesV (o.getD [])) (o.isNone || e) .no, .int .i64 (if o.isSome then 0 else 2)] := by cases o <;> simp [packV, bytesV]
theorem packV2_eq (o : Option (List UInt8)) : packV2 o = .tup [.sl (bytesV (o.getD [])) o.isNone (if o.isSome then .no else .full), .int .i64 (if o.isSome then 0 else 2)] := by cases o <;> simp [packV2, bytesV]
theorem cutL_len : ∀ b : List UInt8, (cutL b).length ≤ b.length := by
  have : ∀ n (b : List UInt8), b.length ≤ n → (cutL b).length ≤ b.length := by
    intro n
    induction n with
    | zero => intro b h; have : b = [] := List.eq_nil_of_length_eq_zero (by omega)
              subst this; simp [cutL]
    | succ n ih =>
      intro b h
      rw [cutL]
      by_cases hb : b = []
      · simp [hb]
      · have hp := cutAt_pos hb
        rw [dif_neg hb]
        have := ih (b.drop (cutAt b)) (by simp; omega)
        simp only [List.length_cons, List.length_drop] at this ⊢
        omega
  exact fun b => this _ b (Nat.le_refl _)
theorem scanL_len : ∀ b : List UInt8, (scanL b).1.length ≤ b.length := by
  have : ∀ n (b : List UInt8), b.length ≤ n → (scanL b).1.length ≤ b.length := by
    intro n
    induction n with
    | zero => intro b h; have : b = [] := List.eq_nil_of_length_eq_zero (by omega)
              subst this; simp [scanL]
    | succ n ih =>
      intro b h
      match b, h with
      | [], _ => simp [scanL]
      | [_], _ => simp [scanL]
      | x :: y :: r, h =>
        rw [scanL]
        split
        · simp
        · simp only [List.length_cons] at h ⊢
          have := ih (r.drop (x.toNat * 256 + y.toNat)) (by simp only [List.length_drop]; omega)
          simp only [List.length_drop] at this
          omega
  exact fun b => this _ b (Nat.le_refl _)
theorem q_law (b : List UInt8) (nb : Bool) (t1 : Tag) (xs : List (List UInt8 × Bool)) (nx : Bool) (t2 : Tag) (hb : b.length ≤ 1048576) (hnb : nb = true → b = []) (hx : xs.length ≤ 1048576) (hs : sumL (xs.map (·.1)) ≤ 140737488355328) :
    Quiet Try.prog 3 [.sl (bytesV b) nb t1, .sl (xs.map ePc) nx t2] (.bool true) := by
  have h1 : (List.map (fun x : List UInt8 × Bool => x.1) (List.map (fun p => (p, nb)) (cutL b))) = cutsR [] b := by rw [List.map_map, cut_same _ b (Nat.le_refl _)]; exact List.map_id _
  have h2 : (List.map (fun x : List UInt8 × Bool => x.1) (List.map (fun p => (p, nb)) (scanL b).1)) = (scanL b).1 := by rw [List.map_map]; exact List.map_id _
  intro G
  refine acall_body (rs := [.tmp 4]) Try.func3 rfl rfl Try.ntmps3 (by kernel_rfl) (Nat.le_of_ble_eq_true rfl) ?_
  refine aw_sr rfl ?_
  simp only [go_sem, reduceIte, Nat.reduceEqDiff, Nat.reduceAdd, Nat.reduceMul, Nat.reduceSub, Nat.reduceLeDiff, Nat.reduceLT, reduceCtorEq]
  refine aw_seq fun K hK => ?_
  refine aw_slit (bytesV [97, 10, 98]) rfl ty_sl22 ty_ze5 rfl rfl (by decide) ty_u822 rfl ?_
  simp only [go_sem, reduceIte, Nat.reduceEqDiff, Nat.reduceAdd, Nat.reduceMul, Nat.reduceSub, Nat.reduceLeDiff, Nat.reduceLT, reduceCtorEq]
  refine goA_q (q_Cut _ _ _ (by decide) (fun e => by cases e)) ?_
  simp only [go_sem, reduceIte, Nat.reduceEqDiff, Nat.reduceAdd, Nat.reduceMul, Nat.reduceSub, Nat.reduceLeDiff, Nat.reduceLT, reduceCtorEq]
  refine aw_sr rfl ?_
  simp only [go_sem, reduceIte, Nat.reduceEqDiff, Nat.reduceAdd, Nat.reduceMul, Nat.reduceSub, Nat.reduceLeDiff, Nat.reduceLT, reduceCtorEq]
  refine aw_if rfl (fun h => ?_) (fun h => ?_)
  · rw [cut_const] at h
    cases h
  refine aw_skip (hK _ _ ?_)
  refine aw_sr rfl ?_
  simp only [go_sem, reduceIte, Nat.reduceEqDiff, Nat.reduceAdd, Nat.reduceMul, Nat.reduceSub, Nat.reduceLeDiff, Nat.reduceLT, reduceCtorEq]
  refine goA_q (q_Pack _ _ _ hx hs) ?_
  simp only [go_sem, reduceIte, Nat.reduceEqDiff, Nat.reduceAdd, Nat.reduceMul, Nat.reduceSub, Nat.reduceLeDiff, Nat.reduceLT, reduceCtorEq, packV_eq]
  refine aw_sr rfl ?_
  simp only [go_sem, reduceIte, Nat.reduceEqDiff, Nat.reduceAdd, Nat.reduceMul, Nat.reduceSub, Nat.reduceLeDiff, Nat.reduceLT, reduceCtorEq]
  refine goA_q (q_Packed _ _ _ hx hs) ?_
  simp only [go_sem, reduceIte, Nat.reduceEqDiff, Nat.reduceAdd, Nat.reduceMul, Nat.reduceSub, Nat.reduceLeDiff, Nat.reduceLT, reduceCtorEq, packV2_eq]
  refine aw_sr rfl ?_
  simp only [go_sem, reduceIte, Nat.reduceEqDiff, Nat.reduceAdd, Nat.reduceMul, Nat.reduceSub, Nat.reduceLeDiff, Nat.reduceLT, reduceCtorEq]
  refine goA_q (q_Scan _ _ _ hb hnb) ?_
  simp only [go_sem, reduceIte, Nat.reduceEqDiff, Nat.reduceAdd, Nat.reduceMul, Nat.reduceSub, Nat.reduceLeDiff, Nat.reduceLT, reduceCtorEq]
  refine aw_sr rfl ?_
  simp only [go_sem, reduceIte, Nat.reduceEqDiff, Nat.reduceAdd, Nat.reduceMul, Nat.reduceSub, Nat.reduceLeDiff, Nat.reduceLT, reduceCtorEq]
  refine goA_q (q_Scanned _ _ _ hb) ?_
  simp only [go_sem, reduceIte, Nat.reduceEqDiff, Nat.reduceAdd, Nat.reduceMul, Nat.reduceSub, Nat.reduceLeDiff, Nat.reduceLT, reduceCtorEq]
  refine aw_sr rfl ?_
  simp only [go_sem, reduceIte, Nat.reduceEqDiff, Nat.reduceAdd, Nat.reduceMul, Nat.reduceSub, Nat.reduceLeDiff, Nat.reduceLT, reduceCtorEq]
  refine goA_q (q_Cut _ _ _ hb hnb) ?_
  simp only [go_sem, reduceIte, Nat.reduceEqDiff, Nat.reduceAdd, Nat.reduceMul, Nat.reduceSub, Nat.reduceLeDiff, Nat.reduceLT, reduceCtorEq]
  refine goA_q (q_Cuts _ _ _ hb) ?_
  simp only [go_sem, reduceIte, Nat.reduceEqDiff, Nat.reduceAdd, Nat.reduceMul, Nat.reduceSub, Nat.reduceLeDiff, Nat.reduceLT, reduceCtorEq, map_pc]
  refine goA_q (q_samePieces _ _ _ _ _ _ (by have := cutL_len b; simp; omega)) ?_
  simp only [go_sem, reduceIte, Nat.reduceEqDiff, Nat.reduceAdd, Nat.reduceMul, Nat.reduceSub, Nat.reduceLeDiff, Nat.reduceLT, reduceCtorEq, h1]
  refine goH_q (fun _ => q_sameBytes _ _ _ _ _ _) ?_
  simp only [go_sem, reduceIte, Nat.reduceEqDiff, Nat.reduceAdd, Nat.reduceMul, Nat.reduceSub, Nat.reduceLeDiff, Nat.reduceLT, reduceCtorEq, map_pc]
  refine goH_q (fun _ => q_samePieces _ _ _ _ _ _ (by have := scanL_len b; simp; omega)) ?_
  simp only [go_sem, reduceIte, Nat.reduceEqDiff, Nat.reduceAdd, Nat.reduceMul, Nat.reduceSub, Nat.reduceLeDiff, Nat.reduceLT, reduceCtorEq, h2]
  exact aw_ret ⟨trivial, _, rfl, rfl, rfl⟩
end Go.Proofs.Ytomjghlaoncpbaa
