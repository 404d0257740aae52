import Derived.Test.YtomjghlaoncpbaaChunk
set_option linter.unusedSimpArgs false
set_option linter.unusedVariables false
namespace Go.Proofs.Ytomjghlaoncpbaa
open Go.Proofs.YtomjghlaoncpbaaV
set_option maxHeartbeats 400000
set_option maxRecDepth 100000
def packR : List (List UInt8) → Option (List UInt8)
  | [] => some []
  | b :: l => if 65535 < b.length then none else (packR l).map fun r => u8 ((b.length : Int) / 256) :: u8 b.length :: (b ++ r)
def packV (e : Bool) : Option (List UInt8) → V
  | some r => .tup [.sl (bytesV r) e .no, .int .i64 0]
  | none => .tup [.sl [] true .no, .int .i64 2]
def sumL (l : List (List UInt8)) : Nat := (l.map fun b => b.length + 2).sum
structure PackS where
  out : List UInt8
  ot : Tag
  H : Heap
theorem q_Pack (xs : List (List UInt8 × Bool)) (nl : Bool) (t : Tag) (hx : xs.length ≤ 1048576) (hs : sumL (xs.map (·.1)) ≤ 140737488355328) : Quiet Try.prog 16 [.sl (xs.map ePc) nl t] (packV xs.isEmpty (packR (xs.map (·.1)))) := by
  refine Quiet.weak fun G => ?_
  refine acall_body (rs := [.tmp 2, .tmp 3]) Try.func16 rfl rfl Try.ntmps16 (by kernel_rfl) (Nat.le_of_ble_eq_true rfl) ?_
  refine aw_sr rfl ?_
  simp only [go_sem, reduceIte, Nat.reduceEqDiff, Nat.reduceAdd, Nat.reduceMul, Nat.reduceSub, Nat.reduceLeDiff, Nat.reduceLT, reduceCtorEq]
  refine aw_sr rfl ?_
  simp only [go_sem, reduceIte, Nat.reduceEqDiff, Nat.reduceAdd, Nat.reduceMul, Nat.reduceSub, Nat.reduceLeDiff, Nat.reduceLT, reduceCtorEq]
  refine aw_seq fun K hK => ?_
  refine aw_sr rfl ?_
  simp only [go_sem, reduceIte, Nat.reduceEqDiff, Nat.reduceAdd, Nat.reduceMul, Nat.reduceSub, Nat.reduceLeDiff, Nat.reduceLT, reduceCtorEq]
  refine aw_range xs.length (S := PackS) (fun i s => [(7, .sl (xs.map ePc) nl t), (4, .sl (bytesV s.out) (decide (i = 0)) s.ot), (3, .int .i64 0)]) (fun i s => s.H) (fun i s => (packR ((xs.map (·.1)).drop i)).map (s.out ++ ·) = packR (xs.map (·.1)) ∧ Room G 1 s.ot s.H ∧ s.out.length + sumL ((xs.map (·.1)).drop i) = sumL (xs.map (·.1)) ∧ (i = 0 → s.out = [])) ⟨[], .full, G⟩ (by omega) ?_ (fun _ _ h => h) ⟨by simp, Room.start G 1, by simp, fun _ => rfl⟩ rfl (fun _ _ => rfl) ?_ ?_ (by decide)
  · simp only [go_sem, reduceIte, Nat.reduceEqDiff, Nat.reduceAdd, Nat.reduceMul, Nat.reduceSub, Nat.reduceLeDiff, Nat.reduceLT, reduceCtorEq, Int.natCast_zero]
    simp [bytesV]
  · rintro i ⟨out, ot, H⟩ hi ⟨i1, i2, i3, i4⟩
    simp only at i1 i2 i3 i4 ⊢
    have hi' : i < (xs.map (·.1)).length := by simpa using hi
    have hd : (xs.map (·.1)).drop i = xs[i].1 :: (xs.map (·.1)).drop (i + 1) := by rw [List.drop_eq_getElem_cons hi', List.getElem_map]
    rw [hd] at i1 i3
    have hsum : sumL (xs[i].1 :: (xs.map (·.1)).drop (i + 1)) = xs[i].1.length + 2 + sumL ((xs.map (·.1)).drop (i + 1)) := by simp [sumL]
    rw [hsum] at i3
    refine aw_sr rfl ?_
    simp only [go_sem, reduceIte, Nat.reduceEqDiff, Nat.reduceAdd, Nat.reduceMul, Nat.reduceSub, Nat.reduceLeDiff, Nat.reduceLT, reduceCtorEq, getD_map hi, ePc]
    refine ⟨⟨by omega, by omega, wid_map (g := ePc) (fun _ => rfl) _⟩, ?_⟩
    refine aw_seq fun K2 hK2 => ?_
    refine aw_sr rfl ?_
    simp only [go_sem, reduceIte, Nat.reduceEqDiff, Nat.reduceAdd, Nat.reduceMul, Nat.reduceSub, Nat.reduceLeDiff, Nat.reduceLT, reduceCtorEq]
    refine aw_if rfl (fun h => ?_) (fun h => ?_)
    · have hc : 65535 < xs[i].1.length := by
        have : (65535 : Int) < (xs[i].1.length : Int) := by simpa using h
        omega
      refine aw_sr rfl ?_
      simp only [go_sem, reduceIte, Nat.reduceEqDiff, Nat.reduceAdd, Nat.reduceMul, Nat.reduceSub, Nat.reduceLeDiff, Nat.reduceLT, reduceCtorEq]
      refine aw_ret ⟨trivial, _, rfl, ?_, i2.sub⟩
      rw [← i1, packR, if_pos hc]
      exact vle2 Vle.untag (Vle.refl _)
    · have hc : ¬ 65535 < xs[i].1.length := by
        have : (xs[i].1.length : Int) ≤ 65535 := by simpa using h
        omega
      refine aw_skip (hK2 _ _ ?_)
      refine aw_rg rfl ?_
      simp only [go_sem, reduceIte, Nat.reduceEqDiff, Nat.reduceAdd, Nat.reduceMul, Nat.reduceSub, Nat.reduceLeDiff, Nat.reduceLT, reduceCtorEq]
      refine ⟨by omega, ?_⟩
      refine goP_room i2 ?_ fun t' H' hr => ?_
      · exact ⟨rfl, rfl, by decide, wid_bytes _, wid_bytes _, sca_bytes _, by simp; omega, by simp; omega⟩
      simp only [go_sem, reduceIte, Nat.reduceEqDiff, Nat.reduceAdd, Nat.reduceMul, Nat.reduceSub, Nat.reduceLeDiff, Nat.reduceLT, reduceCtorEq, Bool.and_false]
      refine goP_room hr ?_ fun t2 H2 hr2 => ?_
      · exact ⟨rfl, rfl, by decide, wid_bytes _, wid_bytes _, sca_bytes _, by simp; omega, by simp; omega⟩
      simp only [go_sem, reduceIte, Nat.reduceEqDiff, Nat.reduceAdd, Nat.reduceMul, Nat.reduceSub, Nat.reduceLeDiff, Nat.reduceLT, reduceCtorEq, Bool.false_and]
      have h256 : (xs[i].1.length : Int).fdiv (2 ^ (Int.toNat 8).min 64) = (xs[i].1.length : Int) / 256 := by
        show Int.fdiv _ 256 = _
        rw [Int.fdiv_eq_ediv_of_nonneg _ (by decide)]
      refine ⟨⟨out ++ [u8 ((xs[i].1.length : Int) / 256), u8 xs[i].1.length] ++ xs[i].1, t2, H2⟩, ⟨?_, hr2, ?_, fun e => e.elim⟩, ?_, fun _ _ h => h⟩
      · rw [← i1, packR, if_neg hc]
        cases packR ((xs.map (·.1)).drop (i + 1)) with
        | none => rfl
        | some r => simp
      · simp only [List.length_append, List.length_cons, List.length_nil]; omega
      · simp only [go_sem, reduceIte, Nat.reduceEqDiff, Nat.reduceAdd, Nat.reduceMul, Nat.reduceSub, Nat.reduceLeDiff, Nat.reduceLT, reduceCtorEq, h256]
  · rintro ⟨out, ot, H⟩ ⟨i1, i2, i3, i4⟩
    simp only at i1 i2 i3 i4 ⊢
    refine hK _ _ ?_
    have he : decide (xs.length = 0) = xs.isEmpty := by cases xs <;> simp
    have h0 : sumL ([] : List (List UInt8)) = 0 := rfl
    have hd : (xs.map (·.1)).drop xs.length = [] := by rw [List.drop_eq_nil_iff]; simp
    rw [hd] at i1 i3
    rw [h0] at i3
    refine aw_sr rfl ?_
    simp only [go_sem, reduceIte, Nat.reduceEqDiff, Nat.reduceAdd, Nat.reduceMul, Nat.reduceSub, Nat.reduceLeDiff, Nat.reduceLT, reduceCtorEq, he]
    refine goA_q (q_Clone _ _ _ (by omega) (fun e => i4 (by simpa using e))) ?_
    simp only [go_sem, reduceIte, Nat.reduceEqDiff, Nat.reduceAdd, Nat.reduceMul, Nat.reduceSub, Nat.reduceLeDiff, Nat.reduceLT, reduceCtorEq]
    refine aw_ret ⟨trivial, _, rfl, ?_, i2.sub⟩
    rw [← i1]
    simp only [packR, Option.map_some, List.append_nil]
    exact vle2 Vle.untag (Vle.refl _)
def packV2 : Option (List UInt8) → V
  | some r => .tup [.sl (bytesV r) false .no, .int .i64 0]
  | none => .tup [.sl [] true .full, .int .i64 2]
theorem q_Packed (xs : List (List UInt8 × Bool)) (nl : Bool) (t : Tag) (hx : xs.length ≤ 1048576) (hs : sumL (xs.map (·.1)) ≤ 140737488355328) : Quiet Try.prog 17 [.sl (xs.map ePc) nl t] (packV2 (packR (xs.map (·.1)))) := by
  intro G
  refine acall_body (rs := [.tmp 2, .tmp 3]) Try.func17 rfl rfl Try.ntmps17 (by kernel_rfl) (Nat.le_of_ble_eq_true rfl) ?_
  refine aw_sr rfl ?_
  simp only [go_sem, reduceIte, Nat.reduceEqDiff, Nat.reduceAdd, Nat.reduceMul, Nat.reduceSub, Nat.reduceLeDiff, Nat.reduceLT, reduceCtorEq]
  refine aw_sr rfl ?_
  simp only [go_sem, reduceIte, Nat.reduceEqDiff, Nat.reduceAdd, Nat.reduceMul, Nat.reduceSub, Nat.reduceLeDiff, Nat.reduceLT, reduceCtorEq]
  refine aw_seq fun K hK => ?_
  refine aw_sr rfl ?_
  simp only [go_sem, reduceIte, Nat.reduceEqDiff, Nat.reduceAdd, Nat.reduceMul, Nat.reduceSub, Nat.reduceLeDiff, Nat.reduceLT, reduceCtorEq]
  refine aw_range xs.length (S := List UInt8) (fun i s => [(7, .sl (xs.map ePc) nl t), (4, .str s), (3, .int .i64 0)]) (fun i s => G) (fun i s => (packR ((xs.map (·.1)).drop i)).map (s ++ ·) = packR (xs.map (·.1)) ∧ s.length + sumL ((xs.map (·.1)).drop i) = sumL (xs.map (·.1))) [] (by omega) ?_ (fun _ _ h => h) ⟨by simp, by simp⟩ rfl (fun _ _ => rfl) ?_ ?_ (by decide)
  · simp only [go_sem, reduceIte, Nat.reduceEqDiff, Nat.reduceAdd, Nat.reduceMul, Nat.reduceSub, Nat.reduceLeDiff, Nat.reduceLT, reduceCtorEq, Int.natCast_zero]
  · rintro i out hi ⟨i1, i3⟩
    have hi' : i < (xs.map (·.1)).length := by simpa using hi
    have hd : (xs.map (·.1)).drop i = xs[i].1 :: (xs.map (·.1)).drop (i + 1) := by rw [List.drop_eq_getElem_cons hi', List.getElem_map]
    rw [hd] at i1 i3
    have hsum : sumL (xs[i].1 :: (xs.map (·.1)).drop (i + 1)) = xs[i].1.length + 2 + sumL ((xs.map (·.1)).drop (i + 1)) := by simp [sumL]
    rw [hsum] at i3
    refine aw_sr rfl ?_
    simp only [go_sem, reduceIte, Nat.reduceEqDiff, Nat.reduceAdd, Nat.reduceMul, Nat.reduceSub, Nat.reduceLeDiff, Nat.reduceLT, reduceCtorEq, getD_map hi, ePc]
    refine ⟨⟨by omega, by omega, wid_map (g := ePc) (fun _ => rfl) _⟩, ?_⟩
    refine aw_seq fun K2 hK2 => ?_
    refine aw_sr rfl ?_
    simp only [go_sem, reduceIte, Nat.reduceEqDiff, Nat.reduceAdd, Nat.reduceMul, Nat.reduceSub, Nat.reduceLeDiff, Nat.reduceLT, reduceCtorEq]
    refine aw_if rfl (fun h => ?_) (fun h => ?_)
    · have hc : 65535 < xs[i].1.length := by
        have : (65536 : Int) ≤ (xs[i].1.length : Int) := by simpa using h
        omega
      refine aw_sr rfl ?_
      simp only [go_sem, reduceIte, Nat.reduceEqDiff, Nat.reduceAdd, Nat.reduceMul, Nat.reduceSub, Nat.reduceLeDiff, Nat.reduceLT, reduceCtorEq]
      refine aw_ret ⟨trivial, _, rfl, ?_, rfl⟩
      rw [← i1, packR, if_pos hc]
      rfl
    · have hc : ¬ 65535 < xs[i].1.length := by
        have : (xs[i].1.length : Int) < 65536 := by simpa using h
        omega
      refine aw_skip (hK2 _ _ ?_)
      refine aw_rg rfl ?_
      simp only [go_sem, reduceIte, Nat.reduceEqDiff, Nat.reduceAdd, Nat.reduceMul, Nat.reduceSub, Nat.reduceLeDiff, Nat.reduceLT, reduceCtorEq]
      refine ⟨by decide, by decide, by omega, by omega, ?_⟩
      have hq : IntKind.i64.wrap ((xs[i].1.length : Int).tdiv 256) = (xs[i].1.length : Int) / 256 := by rw [Int.tdiv_eq_ediv_of_nonneg (by omega), wrap64 (by omega) (by omega)]
      have hm : u8 ((xs[i].1.length : Int).tmod 256) = u8 (xs[i].1.length : Int) := by rw [Int.tmod_eq_emod_of_nonneg (by omega), u8_mod]
      refine ⟨out ++ u8 ((xs[i].1.length : Int) / 256) :: u8 xs[i].1.length :: xs[i].1, ⟨?_, ?_⟩, ?_, fun _ _ h => h⟩
      · rw [← i1, packR, if_neg hc]
        cases packR ((xs.map (·.1)).drop (i + 1)) with
        | none => rfl
        | some r => simp
      · simp only [List.length_append, List.length_cons, List.length_nil]; omega
      · simp only [go_sem, reduceIte, Nat.reduceEqDiff, Nat.reduceAdd, Nat.reduceMul, Nat.reduceSub, Nat.reduceLeDiff, Nat.reduceLT, reduceCtorEq, hq, hm]
  · rintro out ⟨i1, i3⟩
    refine hK _ _ ?_
    have h0 : sumL ([] : List (List UInt8)) = 0 := rfl
    have hd : (xs.map (·.1)).drop xs.length = [] := by rw [List.drop_eq_nil_iff]; simp
    rw [hd] at i1 i3
    rw [h0] at i3
    refine aw_sr rfl ?_
    simp only [go_sem, reduceIte, Nat.reduceEqDiff, Nat.reduceAdd, Nat.reduceMul, Nat.reduceSub, Nat.reduceLeDiff, Nat.reduceLT, reduceCtorEq]
    refine aw_ret ⟨trivial, _, rfl, ?_, rfl⟩
    rw [← i1]
    simp only [packR, Option.map_some, List.append_nil]
    rfl
end Go.Proofs.Ytomjghlaoncpbaa
