import Derived.Test.YtomjghlaoncpbaaChunk
set_option linter.unusedSimpArgs false
set_option linter.unusedVariables false
namespace Go.Proofs.Ytomjghlaoncpbaa
open Go.Proofs.YtomjghlaoncpbaaV
set_option maxHeartbeats 400000
set_option maxRecDepth 100000
/-- How far a piece goes. -/
def cutAt (b : List UInt8) : Nat := let n := min b.length 32; let i := Lib.indexByte (b.take n) 10; if 0 ≤ i then i.toNat + 1 else n
theorem indexByte_bounds (l : List UInt8) (c : UInt8) : -1 ≤ Lib.indexByte l c ∧ Lib.indexByte l c < l.length ∨ Lib.indexByte l c = -1 := by
  induction l with
  | nil => right; rfl
  | cons b l ih =>
    simp only [Lib.indexByte, List.length_cons]
    split
    · left; constructor <;> omega
    · split
      · right; rfl
      · rename_i h; left
        rcases ih with ih | ih
        · constructor <;> omega
        · simp [ih] at h
theorem cutAt_pos {b : List UInt8} (h : b ≠ []) : 0 < cutAt b ∧ cutAt b ≤ b.length := by
  have hl : 0 < b.length := List.length_pos_iff.2 h
  have := indexByte_bounds (b.take (min b.length 32)) 10
  simp only [List.length_take] at this
  unfold cutAt
  simp only
  split <;> omega
def cutL (b : List UInt8) : List (List UInt8) := if h : b = [] then [] else b.take (cutAt b) :: cutL (b.drop (cutAt b))
termination_by b.length
decreasing_by have := cutAt_pos h; simp only [List.length_drop]; omega
structure CutS where
  rest : List UInt8
  t : Tag
  out : List (List UInt8)
  ot : Tag
  H : Heap
theorem q_Cut (b : List UInt8) (nl : Bool) (t : Tag) (hb : b.length ≤ 1048576) (hnl : nl = true → b = []) : Quiet Try.prog 15 [.sl (bytesV b) nl t] (.sl ((cutL b).map fun p => ePc (p, nl)) (cutL b).isEmpty .no) := by
  refine Quiet.weak fun G => ?_
  refine acall_body (rs := [.tmp 2]) Try.func15 rfl rfl Try.ntmps15 (by kernel_rfl) (Nat.le_of_ble_eq_true rfl) ?_
  refine aw_sr rfl ?_
  simp only [go_sem, reduceIte, Nat.reduceEqDiff, Nat.reduceAdd, Nat.reduceMul, Nat.reduceSub, Nat.reduceLeDiff, Nat.reduceLT, reduceCtorEq]
  refine aw_sr rfl ?_
  simp only [go_sem, reduceIte, Nat.reduceEqDiff, Nat.reduceAdd, Nat.reduceMul, Nat.reduceSub, Nat.reduceLeDiff, Nat.reduceLT, reduceCtorEq]
  refine aw_seq fun K hK => ?_
  refine aw_block ?_
  refine aw_lph (S := {s : CutS // s.out ++ cutL s.rest = cutL b ∧ Room G 1 s.ot s.H ∧ s.out.length + s.rest.length ≤ b.length ∧ (nl = true → s.rest = [])}) (fun s => [(0, .sl (bytesV s.1.rest) nl s.1.t), (3, .sl (s.1.out.map fun p => ePc (p, nl)) s.1.out.isEmpty s.1.ot)]) (fun s => s.1.H) (fun s => s.1.rest.length) ⟨⟨b, t, [], .full, G⟩, rfl, Room.start G 1, by simp, hnl⟩ ?_ (fun _ _ h => h) ?_
  · simp only [go_sem, reduceIte, Nat.reduceEqDiff, Nat.reduceAdd, Nat.reduceMul, Nat.reduceSub, Nat.reduceLeDiff, Nat.reduceLT, reduceCtorEq, List.map_nil]
  · intro ⟨⟨rest, tt, out, ot, H⟩, i1, i2, i3, i4⟩
    simp only at i1 i2 i3 i4 ⊢
    refine aw_seq fun K2 hK2 => ?_
    refine aw_sr rfl ?_
    simp only [go_sem, reduceIte, Nat.reduceEqDiff, Nat.reduceAdd, Nat.reduceMul, Nat.reduceSub, Nat.reduceLeDiff, Nat.reduceLT, reduceCtorEq]
    refine aw_if rfl (fun h => ?_) (fun h => ?_)
    · refine aw_skip (hK2 _ _ ?_)
      have hne : rest ≠ [] := by intro e; subst e; simp at h
      have hnf : nl = false := by cases nl with | false => rfl | true => exact absurd (i4 rfl) hne
      have hcut := cutAt_pos hne
      have hmin : (if 32 < (rest.length : Int) then 32 else (rest.length : Int)) = ((min rest.length 32 : Nat) : Int) := by split <;> omega
      have h10 : (10 : Int).toNat.toUInt8 = 10 := rfl
      refine aw_block ?_
      refine aw_sr rfl ?_
      simp only [go_sem, reduceIte, Nat.reduceEqDiff, Nat.reduceAdd, Nat.reduceMul, Nat.reduceSub, Nat.reduceLeDiff, Nat.reduceLT, reduceCtorEq, hmin]
      refine aw_mid (fun f' G' => FSub [(4, .int .i64 (cutAt rest)), (0, .sl (bytesV rest) nl tt), (3, .sl (out.map fun p => ePc (p, nl)) out.isEmpty ot)] f' ∧ G' = H) ?_ ?_
      · have hib := indexByte_bounds (rest.take (min rest.length 32)) 10
        rw [List.length_take] at hib
        refine aw_sr rfl ?_
        simp only [go_sem, reduceIte, Nat.reduceEqDiff, Nat.reduceAdd, Nat.reduceMul, Nat.reduceSub, Nat.reduceLeDiff, Nat.reduceLT, reduceCtorEq]
        refine ⟨⟨⟨by omega, by omega⟩, wid_bytes _⟩, ?_⟩
        refine goA_q (q_IndexByte _ _ _ _) ?_
        simp only [go_sem, reduceIte, Nat.reduceEqDiff, Nat.reduceAdd, Nat.reduceMul, Nat.reduceSub, Nat.reduceLeDiff, Nat.reduceLT, reduceCtorEq, h10]
        refine aw_sr rfl ?_
        simp only [go_sem, reduceIte, Nat.reduceEqDiff, Nat.reduceAdd, Nat.reduceMul, Nat.reduceSub, Nat.reduceLeDiff, Nat.reduceLT, reduceCtorEq]
        refine aw_if rfl (fun h => ?_) (fun h => ?_)
        · refine aw_rg rfl ?_
          simp only [go_sem, reduceIte, Nat.reduceEqDiff, Nat.reduceAdd, Nat.reduceMul, Nat.reduceSub, Nat.reduceLeDiff, Nat.reduceLT, reduceCtorEq]
          refine ⟨?_, rfl⟩
          have h0 : 0 ≤ Lib.indexByte (rest.take (min rest.length 32)) 10 := by simpa using h
          have hc : cutAt rest = (Lib.indexByte (rest.take (min rest.length 32)) 10).toNat + 1 := by unfold cutAt; simp only; rw [if_pos h0]
          simp only [go_sem, reduceIte, Nat.reduceEqDiff, Nat.reduceAdd, Nat.reduceMul, Nat.reduceSub, Nat.reduceLeDiff, Nat.reduceLT, reduceCtorEq, hc]
          rw [wrap64 (by omega) (by omega)]
          congr 1
          omega
        · refine aw_skip ⟨?_, rfl⟩
          have h0 : ¬ 0 ≤ Lib.indexByte (rest.take (min rest.length 32)) 10 := by simpa using h
          have hc : cutAt rest = min rest.length 32 := by unfold cutAt; simp only; rw [if_neg h0]
          simp only [go_sem, reduceIte, Nat.reduceEqDiff, Nat.reduceAdd, Nat.reduceMul, Nat.reduceSub, Nat.reduceLeDiff, Nat.reduceLT, reduceCtorEq, hc]
      · rintro f' _ ⟨hf, rfl⟩
        refine AW.of_fsub hf ?_
        refine aw_sr rfl ?_
        simp only [go_sem, reduceIte, Nat.reduceEqDiff, Nat.reduceAdd, Nat.reduceMul, Nat.reduceSub, Nat.reduceLeDiff, Nat.reduceLT, reduceCtorEq]
        refine ⟨⟨⟨by omega, by omega⟩, wid_bytes _⟩, ?_⟩
        refine goA_q (q_Clone _ _ _ (by rw [List.length_take]; omega) (fun e => by rw [hnf] at e; cases e)) ?_
        simp only [go_sem, reduceIte, Nat.reduceEqDiff, Nat.reduceAdd, Nat.reduceMul, Nat.reduceSub, Nat.reduceLeDiff, Nat.reduceLT, reduceCtorEq]
        refine goP_room i2 ?_ fun t' H' hr => ?_
        · exact ⟨rfl, rfl, by decide, wid_map (g := fun p => ePc (p, nl)) (fun _ => rfl) _, wid_one rfl, sca_one rfl, by simp; omega, by simp; omega⟩
        simp only [go_sem, reduceIte, Nat.reduceEqDiff, Nat.reduceAdd, Nat.reduceMul, Nat.reduceSub, Nat.reduceLeDiff, Nat.reduceLT, reduceCtorEq, Bool.and_false]
        refine aw_rg rfl ?_
        simp only [go_sem, reduceIte, Nat.reduceEqDiff, Nat.reduceAdd, Nat.reduceMul, Nat.reduceSub, Nat.reduceLeDiff, Nat.reduceLT, reduceCtorEq]
        refine ⟨⟨⟨by omega, by omega⟩, wid_bytes _⟩, ?_⟩
        refine ⟨⟨⟨rest.drop (cutAt rest), sliceTag tt 1 (cutAt rest) rest.length rest.length, out ++ [rest.take (cutAt rest)], t', H'⟩, ?_, hr, ?_, ?_⟩, ?_, ?_, fun _ _ h => h⟩
        · rw [cutL, dif_neg hne] at i1
          simpa using i1
        · simp only [List.length_append, List.length_drop, List.length_cons, List.length_nil]; omega
        · intro e; rw [hnf] at e; cases e
        · simp only [List.length_drop]; omega
        · simp only [go_sem, reduceIte, Nat.reduceEqDiff, Nat.reduceAdd, Nat.reduceMul, Nat.reduceSub, Nat.reduceLeDiff, Nat.reduceLT, reduceCtorEq, List.take_length]
          simp [ePc]
    · refine aw_exit ?_
      have : rest = [] := by simpa using h
      subst this
      refine hK _ _ ?_
      refine aw_sr rfl ?_
      simp only [go_sem, reduceIte, Nat.reduceEqDiff, Nat.reduceAdd, Nat.reduceMul, Nat.reduceSub, Nat.reduceLeDiff, Nat.reduceLT, reduceCtorEq]
      refine aw_ret ⟨trivial, _, rfl, ?_, i2.sub⟩
      have : out = cutL b := by rw [← i1, cutL]; simp
      subst this
      exact Vle.untag
def cutsR (now : List UInt8) : List UInt8 → List (List UInt8)
  | [] => if now = [] then [] else [now]
  | c :: b => if c = 10 ∨ (now ++ [c]).length = 32 then (now ++ [c]) :: cutsR [] b else cutsR (now ++ [c]) b
structure CutsS where
  out : List (List UInt8)
  now : List UInt8
  ot : Tag
  H : Heap
theorem q_Cuts (b : List UInt8) (nl : Bool) (t : Tag) (hb : b.length ≤ 1048576) : Quiet Try.prog 21 [.sl (bytesV b) nl t] (.sl ((cutsR [] b).map eStr) (cutsR [] b).isEmpty .no) := by
  refine Quiet.weak fun G => ?_
  refine acall_body (rs := [.tmp 2]) Try.func21 rfl rfl Try.ntmps21 (by kernel_rfl) (Nat.le_of_ble_eq_true rfl) ?_
  refine aw_sr rfl ?_
  simp only [go_sem, reduceIte, Nat.reduceEqDiff, Nat.reduceAdd, Nat.reduceMul, Nat.reduceSub, Nat.reduceLeDiff, Nat.reduceLT, reduceCtorEq]
  refine aw_sr rfl ?_
  simp only [go_sem, reduceIte, Nat.reduceEqDiff, Nat.reduceAdd, Nat.reduceMul, Nat.reduceSub, Nat.reduceLeDiff, Nat.reduceLT, reduceCtorEq]
  refine aw_sr rfl ?_
  simp only [go_sem, reduceIte, Nat.reduceEqDiff, Nat.reduceAdd, Nat.reduceMul, Nat.reduceSub, Nat.reduceLeDiff, Nat.reduceLT, reduceCtorEq]
  refine aw_seq fun K hK => ?_
  refine aw_sr rfl ?_
  simp only [go_sem, reduceIte, Nat.reduceEqDiff, Nat.reduceAdd, Nat.reduceMul, Nat.reduceSub, Nat.reduceLeDiff, Nat.reduceLT, reduceCtorEq]
  refine aw_range b.length (S := CutsS) (fun i s => [(7, .sl (bytesV b) nl t), (3, .sl (s.out.map eStr) s.out.isEmpty s.ot), (4, .str s.now)]) (fun i s => s.H) (fun i s => s.out ++ cutsR s.now (b.drop i) = cutsR [] b ∧ Room G 1 s.ot s.H ∧ s.out.length ≤ i ∧ s.now.length ≤ i) ⟨[], [], .full, G⟩ (by omega) ?_ (fun _ _ h => h) ⟨rfl, Room.start G 1, Nat.le_refl _, Nat.le_refl _⟩ rfl (fun _ _ => rfl) ?_ ?_ (by decide)
  · simp only [go_sem, reduceIte, Nat.reduceEqDiff, Nat.reduceAdd, Nat.reduceMul, Nat.reduceSub, Nat.reduceLeDiff, Nat.reduceLT, reduceCtorEq, List.map_nil, Int.natCast_zero]
  · rintro i ⟨out, now, ot, H⟩ hi ⟨i1, i2, i3, i4⟩
    simp only at i1 i2 i3 i4 ⊢
    rw [List.drop_eq_getElem_cons hi, cutsR] at i1
    refine aw_sr rfl ?_
    simp only [go_sem, reduceIte, Nat.reduceEqDiff, Nat.reduceAdd, Nat.reduceMul, Nat.reduceSub, Nat.reduceLeDiff, Nat.reduceLT, reduceCtorEq, getD_bytes hi]
    refine ⟨⟨by omega, by omega, wid_bytes _⟩, ?_⟩
    refine aw_sr rfl ?_
    simp only [go_sem, reduceIte, Nat.reduceEqDiff, Nat.reduceAdd, Nat.reduceMul, Nat.reduceSub, Nat.reduceLeDiff, Nat.reduceLT, reduceCtorEq]
    refine ⟨by omega, ?_⟩
    refine aw_sr rfl ?_
    simp only [go_sem, reduceIte, Nat.reduceEqDiff, Nat.reduceAdd, Nat.reduceMul, Nat.reduceSub, Nat.reduceLeDiff, Nat.reduceLT, reduceCtorEq]
    have hx : ((b[i].toNat : Int) = 10) ↔ b[i] = 10 := ⟨fun e => UInt8.toNat_inj.1 (show b[i].toNat = 10 by omega), fun e => by rw [e]; rfl⟩
    refine aw_if rfl (fun h => ?_) (fun h => ?_)
    · have hc : b[i] = 10 ∨ (now ++ [b[i]]).length = 32 := by
        simp only [Bool.or_eq_true, decide_eq_true_eq, hx] at h
        rcases h with h | h
        · exact .inl h
        · exact .inr (by omega)
      rw [if_pos hc] at i1
      refine aw_sr rfl ?_
      simp only [go_sem, reduceIte, Nat.reduceEqDiff, Nat.reduceAdd, Nat.reduceMul, Nat.reduceSub, Nat.reduceLeDiff, Nat.reduceLT, reduceCtorEq]
      refine goP_room i2 ?_ fun t' H' hr => ?_
      · exact ⟨rfl, rfl, by decide, wid_map (g := eStr) (fun _ => rfl) _, wid_one rfl, sca_one rfl, by simp; omega, by simp; omega⟩
      simp only [go_sem, reduceIte, Nat.reduceEqDiff, Nat.reduceAdd, Nat.reduceMul, Nat.reduceSub, Nat.reduceLeDiff, Nat.reduceLT, reduceCtorEq, Bool.and_false]
      refine aw_rg rfl ?_
      simp only [go_sem, reduceIte, Nat.reduceEqDiff, Nat.reduceAdd, Nat.reduceMul, Nat.reduceSub, Nat.reduceLeDiff, Nat.reduceLT, reduceCtorEq]
      refine ⟨⟨out ++ [now ++ [b[i]]], [], t', H'⟩, ⟨by simpa using i1, hr, by simp; omega, by simp⟩, ?_, fun _ _ h => h⟩
      simp only [go_sem, reduceIte, Nat.reduceEqDiff, Nat.reduceAdd, Nat.reduceMul, Nat.reduceSub, Nat.reduceLeDiff, Nat.reduceLT, reduceCtorEq]
      simp [eStr]
    · have hc : ¬ (b[i] = 10 ∨ (now ++ [b[i]]).length = 32) := by
        simp only [Bool.or_eq_false_iff, decide_eq_false_iff_not, hx] at h
        rintro (e | e)
        · exact h.1 e
        · exact h.2 (by omega)
      rw [if_neg hc] at i1
      refine aw_skip ⟨⟨out, now ++ [b[i]], ot, H⟩, ⟨i1, i2, by simp only; omega, by simp; omega⟩, ?_, fun _ _ h => h⟩
      simp only [go_sem, reduceIte, Nat.reduceEqDiff, Nat.reduceAdd, Nat.reduceMul, Nat.reduceSub, Nat.reduceLeDiff, Nat.reduceLT, reduceCtorEq]
  · rintro ⟨out, now, ot, H⟩ ⟨i1, i2, i3, i4⟩
    simp only at i1 i2 i3 ⊢
    rw [List.drop_length, cutsR] at i1
    refine hK _ _ ?_
    refine aw_mid (fun f' G' => ∃ ot', Room G 1 ot' G' ∧ FSub [(3, .sl ((cutsR [] b).map eStr) (cutsR [] b).isEmpty ot')] f') ?_ ?_
    · refine aw_sr rfl ?_
      simp only [go_sem, reduceIte, Nat.reduceEqDiff, Nat.reduceAdd, Nat.reduceMul, Nat.reduceSub, Nat.reduceLeDiff, Nat.reduceLT, reduceCtorEq]
      refine aw_if rfl (fun h => ?_) (fun h => ?_)
      · have hn : now ≠ [] := by simpa using h
        rw [if_neg hn] at i1
        refine aw_rg rfl ?_
        simp only [go_sem, reduceIte, Nat.reduceEqDiff, Nat.reduceAdd, Nat.reduceMul, Nat.reduceSub, Nat.reduceLeDiff, Nat.reduceLT, reduceCtorEq]
        refine goP_room i2 ?_ fun t' H' hr => ?_
        · exact ⟨rfl, rfl, by decide, wid_map (g := eStr) (fun _ => rfl) _, wid_one rfl, sca_one rfl, by simp; omega, by simp; omega⟩
        simp only [go_sem, reduceIte, Nat.reduceEqDiff, Nat.reduceAdd, Nat.reduceMul, Nat.reduceSub, Nat.reduceLeDiff, Nat.reduceLT, reduceCtorEq, Bool.and_false]
        refine ⟨t', hr, ?_⟩
        simp only [go_sem, reduceIte, Nat.reduceEqDiff, Nat.reduceAdd, Nat.reduceMul, Nat.reduceSub, Nat.reduceLeDiff, Nat.reduceLT, reduceCtorEq]
        simp [eStr, ← i1]
      · have hn : now = [] := by simpa using h
        rw [if_pos hn, List.append_nil] at i1
        refine aw_skip ⟨ot, i2, ?_⟩
        simp only [go_sem, reduceIte, Nat.reduceEqDiff, Nat.reduceAdd, Nat.reduceMul, Nat.reduceSub, Nat.reduceLeDiff, Nat.reduceLT, reduceCtorEq, i1]
    · rintro f' G' ⟨ot', hr, hf⟩
      refine AW.of_fsub hf ?_
      refine aw_sr rfl ?_
      simp only [go_sem, reduceIte, Nat.reduceEqDiff, Nat.reduceAdd, Nat.reduceMul, Nat.reduceSub, Nat.reduceLeDiff, Nat.reduceLT, reduceCtorEq]
      exact aw_ret ⟨trivial, _, rfl, Vle.untag, hr.sub⟩
end Go.Proofs.Ytomjghlaoncpbaa
