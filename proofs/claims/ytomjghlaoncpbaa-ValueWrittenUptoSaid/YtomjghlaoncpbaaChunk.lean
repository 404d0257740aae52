import Derived.Test.YtomjghlaoncpbaaVq
import Derived.Test.YtomjghlaoncpbaaTy
set_option linter.unusedSimpArgs false
set_option linter.unusedVariables false
namespace Go.Proofs.Ytomjghlaoncpbaa
open Go.Proofs.YtomjghlaoncpbaaV
set_option maxHeartbeats 400000
set_option maxRecDepth 100000
theorem q_sameBytes (a b : List UInt8) (n1 n2 : Bool) (t1 t2 : Tag) : Quiet Try.prog 22 [.sl (bytesV a) n1 t1, .sl (bytesV b) n2 t2] (.bool (decide (a = b))) := by
  intro G
  refine acall_body (rs := [.tmp 4]) Try.func22 rfl rfl Try.ntmps22 (by kernel_rfl) (Nat.le_of_ble_eq_true rfl) ?_
  refine aw_sr rfl ?_
  simp only [go_sem, reduceIte, Nat.reduceEqDiff, Nat.reduceAdd, Nat.reduceMul, Nat.reduceSub, Nat.reduceLeDiff, Nat.reduceLT, reduceCtorEq]
  refine aw_sr rfl ?_
  simp only [go_sem, reduceIte, Nat.reduceEqDiff, Nat.reduceAdd, Nat.reduceMul, Nat.reduceSub, Nat.reduceLeDiff, Nat.reduceLT, reduceCtorEq]
  exact aw_ret ⟨trivial, _, rfl, rfl, rfl⟩
theorem q_samePiece (a s : List UInt8) (n1 : Bool) (t1 : Tag) : Quiet Try.prog 92 [.sl (bytesV a) n1 t1, .str s] (.bool (decide (a = s))) := by
  intro G
  refine acall_body (rs := [.tmp 4]) Try.func92 rfl rfl Try.ntmps92 (by kernel_rfl) (Nat.le_of_ble_eq_true rfl) ?_
  refine aw_sr rfl ?_
  simp only [go_sem, reduceIte, Nat.reduceEqDiff, Nat.reduceAdd, Nat.reduceMul, Nat.reduceSub, Nat.reduceLeDiff, Nat.reduceLT, reduceCtorEq]
  refine aw_sr rfl ?_
  simp only [go_sem, reduceIte, Nat.reduceEqDiff, Nat.reduceAdd, Nat.reduceMul, Nat.reduceSub, Nat.reduceLeDiff, Nat.reduceLT, reduceCtorEq]
  exact aw_ret ⟨trivial, _, rfl, rfl, rfl⟩
theorem q_IndexByte (l : List UInt8) (n1 : Bool) (t1 : Tag) (c : Int) : Quiet Try.prog 89 [.sl (bytesV l) n1 t1, .int .u8 c] (.int .i64 (Lib.indexByte l c.toNat.toUInt8)) := by
  intro G
  refine acall_body (rs := [.tmp 4]) Try.func89 rfl rfl Try.ntmps89 (by kernel_rfl) (Nat.le_of_ble_eq_true rfl) ?_
  refine aw_sr rfl ?_
  simp only [go_sem, reduceIte, Nat.reduceEqDiff, Nat.reduceAdd, Nat.reduceMul, Nat.reduceSub, Nat.reduceLeDiff, Nat.reduceLT, reduceCtorEq]
  refine aw_sr rfl ?_
  simp only [go_sem, reduceIte, Nat.reduceEqDiff, Nat.reduceAdd, Nat.reduceMul, Nat.reduceSub, Nat.reduceLeDiff, Nat.reduceLT, reduceCtorEq, List.nil_append, List.append_nil]
  refine goA_q (quiet_indexByte Try.func135 (by kernel_rfl) rfl (by kernel_rfl) (by kernel_rfl)) ?_
  simp only [go_sem, reduceIte, Nat.reduceEqDiff, Nat.reduceAdd, Nat.reduceMul, Nat.reduceSub, Nat.reduceLeDiff, Nat.reduceLT, reduceCtorEq]
  exact aw_ret ⟨trivial, _, rfl, rfl, rfl⟩
theorem q_Clone (l : List UInt8) (nl : Bool) (t : Tag) (hl : l.length ≤ 140737488355328) (hnl : nl = true → l = []) : Quiet Try.prog 90 [.sl (bytesV l) nl t] (.sl (bytesV l) nl .no) := by
  refine Quiet.weak fun G => ?_
  refine acall_body (rs := [.tmp 2]) Try.func90 rfl rfl Try.ntmps90 (by kernel_rfl) (Nat.le_of_ble_eq_true rfl) ?_
  refine aw_sr rfl ?_
  simp only [go_sem, reduceIte, Nat.reduceEqDiff, Nat.reduceAdd, Nat.reduceMul, Nat.reduceSub, Nat.reduceLeDiff, Nat.reduceLT, reduceCtorEq]
  refine aw_seq fun K hK => ?_
  refine aw_sr rfl ?_
  simp only [go_sem, reduceIte, Nat.reduceEqDiff, Nat.reduceAdd, Nat.reduceMul, Nat.reduceSub, Nat.reduceLeDiff, Nat.reduceLT, reduceCtorEq]
  refine aw_if rfl (fun h => ?_) (fun h => ?_)
  · refine aw_sr rfl ?_
    simp only [go_sem, reduceIte, Nat.reduceEqDiff, Nat.reduceAdd, Nat.reduceMul, Nat.reduceSub, Nat.reduceLeDiff, Nat.reduceLT, reduceCtorEq]
    refine aw_ret ⟨trivial, _, rfl, ?_, fun _ _ h => h⟩
    rw [h, hnl h]
    exact Vle.untag
  · refine aw_skip (hK _ _ ?_)
    refine aw_sr rfl ?_
    simp only [go_sem, reduceIte, Nat.reduceEqDiff, Nat.reduceAdd, Nat.reduceMul, Nat.reduceSub, Nat.reduceLeDiff, Nat.reduceLT, reduceCtorEq]
    refine goP_new ⟨rfl, rfl, by decide, by simp, wid_bytes _, sca_bytes _, by simpa using hl, by simp; omega⟩ fun t' H' hr => ?_
    simp only [go_sem, reduceIte, Nat.reduceEqDiff, Nat.reduceAdd, Nat.reduceMul, Nat.reduceSub, Nat.reduceLeDiff, Nat.reduceLT, reduceCtorEq]
    refine aw_ret ⟨trivial, _, rfl, ?_, hr.sub⟩
    rw [h]
    exact Vle.untag
/-- Pieces, as rows of bytes. -/
def ePc (p : List UInt8 × Bool) : List V := [.sl (bytesV p.1) p.2 .no]
def eStr (s : List UInt8) : List V := [.str s]
theorem q_EqualFunc (g : Nat) (p : List UInt8 → List UInt8 → Bool) (hg : ∀ a n t s, Quiet Try.prog g [.sl (bytesV a) n t, .str s] (.bool (p a s))) (xs : List (List UInt8 × Bool)) (ys : List (List UInt8)) (n1 n2 : Bool) (t1 t2 : Tag) (hx : (xs.length : Int) ≤ 9223372036854775807) :
    Quiet Try.prog 91 [.sl (xs.map ePc) n1 t1, .sl (ys.map eStr) n2 t2, .func (.func g) [] []] (.bool (decide (xs.length = ys.length) && ((xs.zip ys).all fun q => p q.1.1 q.2))) := by
  intro G
  refine acall_body (rs := [.tmp 6]) Try.func91 rfl rfl Try.ntmps91 (by kernel_rfl) (Nat.le_of_ble_eq_true rfl) ?_
  refine aw_sr rfl ?_
  simp only [go_sem, reduceIte, Nat.reduceEqDiff, Nat.reduceAdd, Nat.reduceMul, Nat.reduceSub, Nat.reduceLeDiff, Nat.reduceLT, reduceCtorEq]
  refine aw_seq fun K hK => ?_
  refine aw_sr rfl ?_
  simp only [go_sem, reduceIte, Nat.reduceEqDiff, Nat.reduceAdd, Nat.reduceMul, Nat.reduceSub, Nat.reduceLeDiff, Nat.reduceLT, reduceCtorEq]
  refine aw_if rfl (fun h => ?_) (fun h => ?_)
  · refine aw_sr rfl ?_
    simp only [go_sem, reduceIte, Nat.reduceEqDiff, Nat.reduceAdd, Nat.reduceMul, Nat.reduceSub, Nat.reduceLeDiff, Nat.reduceLT, reduceCtorEq]
    refine aw_ret ⟨trivial, _, rfl, ?_, rfl⟩
    simp only [decide_eq_true_eq, ne_eq, Int.natCast_inj] at h
    rw [decide_eq_false h]
    rfl
  · refine aw_skip (hK _ _ ?_)
    have hl : xs.length = ys.length := by simpa [Int.natCast_inj] using h
    refine aw_seq fun K3 hK3 => ?_
    refine aw_sr rfl ?_
    simp only [go_sem, reduceIte, Nat.reduceEqDiff, Nat.reduceAdd, Nat.reduceMul, Nat.reduceSub, Nat.reduceLeDiff, Nat.reduceLT, reduceCtorEq]
    refine aw_range xs.length (S := Unit) (fun _ _ => [(15, .sl (xs.map ePc) n1 t1), (1, .sl (ys.map eStr) n2 t2), (2, .func (.func g) [] [])]) (fun _ _ => G) (fun i _ => (((xs.take i).zip (ys.take i)).all fun q => p q.1.1 q.2) = true) () hx ?_ (fun _ _ h => h) rfl rfl (fun _ _ => rfl) ?_ ?_ (by decide)
    · simp only [go_sem, reduceIte, Nat.reduceEqDiff, Nat.reduceAdd, Nat.reduceMul, Nat.reduceSub, Nat.reduceLeDiff, Nat.reduceLT, reduceCtorEq]
    · intro i _ hi he
      have hi2 : i < ys.length := hl ▸ hi
      refine aw_sr rfl ?_
      simp only [go_sem, reduceIte, Nat.reduceEqDiff, Nat.reduceAdd, Nat.reduceMul, Nat.reduceSub, Nat.reduceLeDiff, Nat.reduceLT, reduceCtorEq, getD_map hi, ePc]
      refine ⟨⟨by omega, by omega, wid_map (g := ePc) (fun _ => rfl) _⟩, ?_⟩
      refine aw_sr rfl ?_
      simp only [go_sem, reduceIte, Nat.reduceEqDiff, Nat.reduceAdd, Nat.reduceMul, Nat.reduceSub, Nat.reduceLeDiff, Nat.reduceLT, reduceCtorEq, getD_map hi2, eStr]
      refine ⟨⟨by omega, by omega, wid_map (g := eStr) (fun _ => rfl) _⟩, ?_⟩
      refine aw_sr rfl ?_
      simp only [go_sem, reduceIte, Nat.reduceEqDiff, Nat.reduceAdd, Nat.reduceMul, Nat.reduceSub, Nat.reduceLeDiff, Nat.reduceLT, reduceCtorEq]
      refine goA_q (hg _ _ _ _) ?_
      simp only [go_sem, reduceIte, Nat.reduceEqDiff, Nat.reduceAdd, Nat.reduceMul, Nat.reduceSub, Nat.reduceLeDiff, Nat.reduceLT, reduceCtorEq]
      refine aw_if rfl (fun h => ?_) (fun h => ?_)
      · refine aw_sr rfl ?_
        simp only [go_sem, reduceIte, Nat.reduceEqDiff, Nat.reduceAdd, Nat.reduceMul, Nat.reduceSub, Nat.reduceLeDiff, Nat.reduceLT, reduceCtorEq]
        refine aw_ret ⟨trivial, _, rfl, ?_, rfl⟩
        have : p xs[i].1 ys[i] = false := by simpa using h
        rw [all_zip_not (q := fun q => p q.1.1 q.2) hi hi2 this, Bool.and_false]
        rfl
      · refine aw_skip ⟨(), all_zip_next he hi hi2 (by simpa using h), ?_, fun _ _ h => h⟩
        simp only [go_sem, reduceIte, Nat.reduceEqDiff, Nat.reduceAdd, Nat.reduceMul, Nat.reduceSub, Nat.reduceLeDiff, Nat.reduceLT, reduceCtorEq]
    · intro _ he
      refine hK3 _ _ ?_
      refine aw_sr rfl ?_
      simp only [go_sem, reduceIte, Nat.reduceEqDiff, Nat.reduceAdd, Nat.reduceMul, Nat.reduceSub, Nat.reduceLeDiff, Nat.reduceLT, reduceCtorEq]
      refine aw_ret ⟨trivial, _, rfl, ?_, rfl⟩
      rw [List.take_length, hl, List.take_length] at he
      rw [he, decide_eq_true hl]
      rfl
theorem q_samePieces (xs : List (List UInt8 × Bool)) (ys : List (List UInt8)) (n1 n2 : Bool) (t1 t2 : Tag) (hx : (xs.length : Int) ≤ 9223372036854775807) :
    Quiet Try.prog 20 [.sl (xs.map ePc) n1 t1, .sl (ys.map eStr) n2 t2] (.bool (decide (xs.map (·.1) = ys))) := by
  intro G
  refine acall_body (rs := [.tmp 4]) Try.func20 rfl rfl Try.ntmps20 (by kernel_rfl) (Nat.le_of_ble_eq_true rfl) ?_
  refine aw_sr rfl ?_
  simp only [go_sem, reduceIte, Nat.reduceEqDiff, Nat.reduceAdd, Nat.reduceMul, Nat.reduceSub, Nat.reduceLeDiff, Nat.reduceLT, reduceCtorEq]
  refine aw_sr rfl ?_
  simp only [go_sem, reduceIte, Nat.reduceEqDiff, Nat.reduceAdd, Nat.reduceMul, Nat.reduceSub, Nat.reduceLeDiff, Nat.reduceLT, reduceCtorEq]
  refine goA_q (q_EqualFunc _ (fun a s => decide (a = s)) (fun a n t s => q_samePiece a s n t) xs ys n1 n2 t1 t2 hx) ?_
  simp only [go_sem, reduceIte, Nat.reduceEqDiff, Nat.reduceAdd, Nat.reduceMul, Nat.reduceSub, Nat.reduceLeDiff, Nat.reduceLT, reduceCtorEq]
  refine aw_ret ⟨trivial, _, rfl, ?_, rfl⟩
  have key : ∀ (xs : List (List UInt8 × Bool)) (ys : List (List UInt8)), (decide (xs.length = ys.length) && (xs.zip ys).all fun q => decide (q.1.1 = q.2)) = decide (xs.map (·.1) = ys) := by
    intro xs
    induction xs with
    | nil => intro ys; cases ys <;> simp
    | cons x xs ih =>
      intro ys
      cases ys with
      | nil => simp
      | cons y ys =>
        have := ih ys
        simp only [List.length_cons, Nat.add_right_cancel_iff, List.zip_cons_cons, List.all_cons, List.map_cons, List.cons.injEq, Bool.decide_and]
        rw [← this, Bool.and_left_comm]
  exact congrArg V.bool (key xs ys)
end Go.Proofs.Ytomjghlaoncpbaa
