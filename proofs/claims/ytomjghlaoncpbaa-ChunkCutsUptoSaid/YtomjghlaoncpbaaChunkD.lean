import Derived.Test.YtomjghlaoncpbaaChunk
set_option linter.unusedSimpArgs false
set_option linter.unusedVariables false
namespace Go.Proofs.Ytomjghlaoncpbaa
open Go.Proofs.YtomjghlaoncpbaaV
set_option maxHeartbeats 400000
set_option maxRecDepth 100000
def scanL : List UInt8 → List (List UInt8) × Nat
  | x :: y :: r => if r.length < x.toNat * 256 + y.toNat then ([], 0) else (r.take (x.toNat * 256 + y.toNat) :: (scanL (r.drop (x.toNat * 256 + y.toNat))).1, 2 + (x.toNat * 256 + y.toNat) + (scanL (r.drop (x.toNat * 256 + y.toNat))).2)
  | _ => ([], 0)
termination_by l => l.length
decreasing_by all_goals (simp only [List.length_cons, List.length_drop]; omega)
structure ScanS where
  out : List (List UInt8)
  at' : Nat
  ot : Tag
  H : Heap
def ScanI (b : List UInt8) (out : List (List UInt8)) (at' : Nat) : Prop := out ++ (scanL (b.drop at')).1 = (scanL b).1 ∧ at' + (scanL (b.drop at')).2 = (scanL b).2 ∧ at' ≤ b.length ∧ out.length ≤ at'
theorem q_Scan (b : List UInt8) (nl : Bool) (t : Tag) (hb : b.length ≤ 1048576) (hnl : nl = true → b = []) : Quiet Try.prog 18 [.sl (bytesV b) nl t] (.tup [.sl ((scanL b).1.map fun p => ePc (p, nl)) (scanL b).1.isEmpty .no, .int .i64 (scanL b).2]) := by
  refine Quiet.weak fun G => ?_
  refine acall_body (rs := [.tmp 2, .tmp 3]) Try.func18 rfl rfl Try.ntmps18 (by kernel_rfl) (Nat.le_of_ble_eq_true rfl) ?_
  refine aw_sr rfl ?_
  simp only [go_sem, reduceIte, Nat.reduceEqDiff, Nat.reduceAdd, Nat.reduceMul, Nat.reduceSub, Nat.reduceLeDiff, Nat.reduceLT, reduceCtorEq]
  refine aw_sr rfl ?_
  simp only [go_sem, reduceIte, Nat.reduceEqDiff, Nat.reduceAdd, Nat.reduceMul, Nat.reduceSub, Nat.reduceLeDiff, Nat.reduceLT, reduceCtorEq]
  refine aw_sr rfl ?_
  simp only [go_sem, reduceIte, Nat.reduceEqDiff, Nat.reduceAdd, Nat.reduceMul, Nat.reduceSub, Nat.reduceLeDiff, Nat.reduceLT, reduceCtorEq]
  refine aw_mid (fun f' G' => ∃ ot, Room G 1 ot G' ∧ FSub [(4, .sl ((scanL b).1.map fun p => ePc (p, nl)) (scanL b).1.isEmpty ot), (5, .int .i64 (scanL b).2)] f') ?_ ?_
  · refine aw_block ?_
    refine aw_lph (S := {s : ScanS // ScanI b s.out s.at' ∧ Room G 1 s.ot s.H}) (fun s => [(0, .sl (bytesV b) nl t), (4, .sl (s.1.out.map fun p => ePc (p, nl)) s.1.out.isEmpty s.1.ot), (5, .int .i64 s.1.at')]) (fun s => s.1.H) (fun s => b.length - s.1.at') ⟨⟨[], 0, .full, G⟩, ⟨rfl, by simp, Nat.zero_le _, Nat.le_refl _⟩, Room.start G 1⟩ ?_ (fun _ _ h => h) ?_
    · simp only [go_sem, reduceIte, Nat.reduceEqDiff, Nat.reduceAdd, Nat.reduceMul, Nat.reduceSub, Nat.reduceLeDiff, Nat.reduceLT, reduceCtorEq, List.map_nil, Int.natCast_zero]
    · intro ⟨⟨out, at', ot, H⟩, ⟨i1, i2, i3, i4⟩, i5⟩
      simp only at i1 i2 i3 i4 i5 ⊢
      have hw : IntKind.i64.wrap ((b.length : Int) - at') = (b.length : Int) - at' := wrap64 (by omega) (by omega)
      refine aw_seq fun K2 hK2 => ?_
      refine aw_sr rfl ?_
      simp only [go_sem, reduceIte, Nat.reduceEqDiff, Nat.reduceAdd, Nat.reduceMul, Nat.reduceSub, Nat.reduceLeDiff, Nat.reduceLT, reduceCtorEq, hw]
      refine aw_if rfl (fun h => ?_) (fun h => ?_)
      · have hlt : at' + 2 ≤ b.length := by
          have : (2 : Int) ≤ (b.length : Int) - at' := by simpa using h
          omega
        refine aw_skip (hK2 _ _ ?_)
        have hw1 : IntKind.i64.wrap ((at' : Int) + 1) = ((at' + 1 : Nat) : Int) := by rw [wrap64 (by omega) (by omega)]; rfl
        refine aw_block ?_
        refine aw_srd [(0,true),(1,true),(2,true),(3,true),(4,true),(5,true),(6,true),(7,true),(8,true),(9,true),(10,true),(11,true),(12,true),(13,true)] mixed rfl (by kernel_rfl) ?_
        simp only [go_sem, reduceIte, Nat.reduceEqDiff, Nat.reduceAdd, Nat.reduceMul, Nat.reduceSub, Nat.reduceLeDiff, Nat.reduceLT, reduceCtorEq, hw1, getD_bytes (show at' < b.length by omega), getD_bytes (show at' + 1 < b.length by omega)]
        have hx := b[at'].toNat_lt
        have hy := b[at' + 1].toNat_lt
        have hor : bits BinOp.or IntKind.i64 (IntKind.i64.wrap (IntKind.i64.wrap (b[at'].toNat : Int) * 2 ^ (Int.toNat 8).min 64)) (IntKind.i64.wrap (b[at' + 1].toNat : Int)) = ((b[at'].toNat * 256 + b[at' + 1].toNat : Nat) : Int) := by
          have h256 : ((2 : Int) ^ (Int.toNat 8).min 64) = 256 := by decide
          rw [h256, wrap64 (n := (b[at'].toNat : Int)) (by omega) (by omega), wrap64 (n := (b[at' + 1].toNat : Int)) (by omega) (by omega), wrap64 (by omega) (by omega)]
          exact or_bytes (by omega) (by omega)
        rw [hor]
        have hd : b.drop at' = b[at'] :: b[at' + 1] :: b.drop (at' + 2) := by rw [List.drop_eq_getElem_cons (by omega), List.drop_eq_getElem_cons (by omega)]
        rw [hd, scanL] at i1 i2
        have hdl : (b.drop (at' + 2)).length = b.length - (at' + 2) := by simp
        generalize hn : b[at'].toNat * 256 + b[at' + 1].toNat = n at *
        refine ⟨⟨by omega, by omega, wid_bytes _⟩, by decide, ⟨by omega, by omega, wid_bytes _⟩, ?_⟩
        have hw2 : IntKind.i64.wrap ((b.length : Int) - at' - 2) = (b.length : Int) - at' - 2 := wrap64 (by omega) (by omega)
        refine aw_seq fun K3 hK3 => ?_
        refine aw_sr rfl ?_
        simp only [go_sem, reduceIte, Nat.reduceEqDiff, Nat.reduceAdd, Nat.reduceMul, Nat.reduceSub, Nat.reduceLeDiff, Nat.reduceLT, reduceCtorEq, hw, hw2]
        refine aw_if rfl (fun h => ?_) (fun h => ?_)
        · have hc : (b.drop (at' + 2)).length < n := by
            have : (b.length : Int) - at' - 2 < n := by simpa using h
            omega
          rw [if_pos hc] at i1 i2
          refine aw_exit ?_
          refine ⟨ot, i5, ?_⟩
          simp only [List.append_nil, Nat.add_zero] at i1 i2
          simp only [go_sem, reduceIte, Nat.reduceEqDiff, Nat.reduceAdd, Nat.reduceMul, Nat.reduceSub, Nat.reduceLeDiff, Nat.reduceLT, reduceCtorEq, i1, i2]
        · have hc : ¬ (b.drop (at' + 2)).length < n := by
            have : (n : Int) ≤ (b.length : Int) - at' - 2 := by simpa using h
            omega
          rw [if_neg hc] at i1 i2
          refine aw_skip (hK3 _ _ ?_)
          have hw3 : IntKind.i64.wrap ((at' : Int) + 2) = ((at' + 2 : Nat) : Int) := by rw [wrap64 (by omega) (by omega)]; rfl
          have hw4 : IntKind.i64.wrap (((at' + 2 : Nat) : Int) + n) = ((at' + 2 + n : Nat) : Int) := by rw [wrap64 (by omega) (by omega)]; rfl
          have hw5 : IntKind.i64.wrap (2 + (n : Int)) = ((2 + n : Nat) : Int) := by rw [wrap64 (by omega) (by omega)]; rfl
          have hw6 : IntKind.i64.wrap ((at' : Int) + ((2 + n : Nat) : Int)) = ((at' + (2 + n) : Nat) : Int) := by rw [wrap64 (by omega) (by omega)]; rfl
          refine aw_sr rfl ?_
          simp only [go_sem, reduceIte, Nat.reduceEqDiff, Nat.reduceAdd, Nat.reduceMul, Nat.reduceSub, Nat.reduceLeDiff, Nat.reduceLT, reduceCtorEq, hw3, hw4]
          refine ⟨⟨⟨by omega, by omega, by omega⟩, wid_bytes _⟩, ?_⟩
          refine goA_q (q_Clone _ _ _ (by simp; omega) (fun e => by rw [hnl e] at hlt; simp at hlt)) ?_
          simp only [go_sem, reduceIte, Nat.reduceEqDiff, Nat.reduceAdd, Nat.reduceMul, Nat.reduceSub, Nat.reduceLeDiff, Nat.reduceLT, reduceCtorEq]
          refine goP_room i5 ?_ fun t' H' hr => ?_
          · exact ⟨rfl, rfl, by decide, wid_map (g := fun p => ePc (p, nl)) (fun _ => rfl) _, wid_one rfl, sca_one rfl, by simp; omega, by simp; omega⟩
          simp only [go_sem, reduceIte, Nat.reduceEqDiff, Nat.reduceAdd, Nat.reduceMul, Nat.reduceSub, Nat.reduceLeDiff, Nat.reduceLT, reduceCtorEq, Bool.and_false]
          refine aw_rg rfl ?_
          simp only [go_sem, reduceIte, Nat.reduceEqDiff, Nat.reduceAdd, Nat.reduceMul, Nat.reduceSub, Nat.reduceLeDiff, Nat.reduceLT, reduceCtorEq, hw5, hw6]
          have hcut : (b.take (at' + 2 + n)).drop (at' + 2) = (b.drop (at' + 2)).take n := by rw [List.drop_take]; congr 1; omega
          have hdd : (b.drop (at' + 2)).drop n = b.drop (at' + (2 + n)) := by rw [List.drop_drop]; congr 1; omega
          rw [hdd] at i1 i2
          refine ⟨⟨⟨out ++ [(b.drop (at' + 2)).take n], at' + (2 + n), t', H'⟩, ⟨by simpa using i1, by simp only; omega, by simp only; omega, by simp; omega⟩, hr⟩, by simp only; omega, ?_, fun _ _ h => h⟩
          simp only [go_sem, reduceIte, Nat.reduceEqDiff, Nat.reduceAdd, Nat.reduceMul, Nat.reduceSub, Nat.reduceLeDiff, Nat.reduceLT, reduceCtorEq, hcut]
          simp [ePc]
      · have hge : ¬ at' + 2 ≤ b.length := by
          have : (b.length : Int) - at' < 2 := by simpa using h
          omega
        refine aw_exit ⟨ot, i5, ?_⟩
        have hs : scanL (b.drop at') = ([], 0) := by
          have hl : (b.drop at').length < 2 := by simp; omega
          match b.drop at', hl with
          | [], _ => simp [scanL]
          | [x], _ => simp [scanL]
        rw [hs] at i1 i2
        simp only [List.append_nil, Nat.add_zero] at i1 i2
        simp only [go_sem, reduceIte, Nat.reduceEqDiff, Nat.reduceAdd, Nat.reduceMul, Nat.reduceSub, Nat.reduceLeDiff, Nat.reduceLT, reduceCtorEq, i1, i2]
  · rintro f' G' ⟨ot, hr, hf⟩
    refine AW.of_fsub hf ?_
    refine aw_sr rfl ?_
    simp only [go_sem, reduceIte, Nat.reduceEqDiff, Nat.reduceAdd, Nat.reduceMul, Nat.reduceSub, Nat.reduceLeDiff, Nat.reduceLT, reduceCtorEq]
    exact aw_ret ⟨trivial, _, rfl, vle2 Vle.untag (Vle.refl _), hr.sub⟩
theorem q_Scanned (b : List UInt8) (nl : Bool) (t : Tag) (hb : b.length ≤ 1048576) : Quiet Try.prog 19 [.sl (bytesV b) nl t] (.tup [.sl ((scanL b).1.map eStr) (scanL b).1.isEmpty .no, .int .i64 (scanL b).2]) := by
  refine Quiet.weak fun G => ?_
  refine acall_body (rs := [.tmp 2, .tmp 3]) Try.func19 rfl rfl Try.ntmps19 (by kernel_rfl) (Nat.le_of_ble_eq_true rfl) ?_
  refine aw_sr rfl ?_
  simp only [go_sem, reduceIte, Nat.reduceEqDiff, Nat.reduceAdd, Nat.reduceMul, Nat.reduceSub, Nat.reduceLeDiff, Nat.reduceLT, reduceCtorEq]
  refine aw_sr rfl ?_
  simp only [go_sem, reduceIte, Nat.reduceEqDiff, Nat.reduceAdd, Nat.reduceMul, Nat.reduceSub, Nat.reduceLeDiff, Nat.reduceLT, reduceCtorEq]
  refine aw_sr rfl ?_
  simp only [go_sem, reduceIte, Nat.reduceEqDiff, Nat.reduceAdd, Nat.reduceMul, Nat.reduceSub, Nat.reduceLeDiff, Nat.reduceLT, reduceCtorEq]
  refine aw_mid (fun f' G' => ∃ ot, Room G 1 ot G' ∧ FSub [(4, .sl ((scanL b).1.map eStr) (scanL b).1.isEmpty ot), (5, .int .i64 (scanL b).2)] f') ?_ ?_
  · refine aw_block ?_
    refine aw_lph (S := {s : ScanS // ScanI b s.out s.at' ∧ Room G 1 s.ot s.H}) (fun s => [(0, .sl (bytesV b) nl t), (4, .sl (s.1.out.map eStr) s.1.out.isEmpty s.1.ot), (5, .int .i64 s.1.at')]) (fun s => s.1.H) (fun s => b.length - s.1.at') ⟨⟨[], 0, .full, G⟩, ⟨rfl, by simp, Nat.zero_le _, Nat.le_refl _⟩, Room.start G 1⟩ ?_ (fun _ _ h => h) ?_
    · simp only [go_sem, reduceIte, Nat.reduceEqDiff, Nat.reduceAdd, Nat.reduceMul, Nat.reduceSub, Nat.reduceLeDiff, Nat.reduceLT, reduceCtorEq, List.map_nil, Int.natCast_zero]
    · intro ⟨⟨out, at', ot, H⟩, ⟨i1, i2, i3, i4⟩, i5⟩
      simp only at i1 i2 i3 i4 i5 ⊢
      have hw3 : IntKind.i64.wrap ((at' : Int) + 2) = ((at' + 2 : Nat) : Int) := by rw [wrap64 (by omega) (by omega)]; rfl
      refine aw_seq fun K2 hK2 => ?_
      refine aw_sr rfl ?_
      simp only [go_sem, reduceIte, Nat.reduceEqDiff, Nat.reduceAdd, Nat.reduceMul, Nat.reduceSub, Nat.reduceLeDiff, Nat.reduceLT, reduceCtorEq, hw3]
      refine aw_if rfl (fun h => ?_) (fun h => ?_)
      · have hlt : at' + 2 ≤ b.length := by
          have : ((at' + 2 : Nat) : Int) ≤ (b.length : Int) := of_decide_eq_true h
          omega
        refine aw_skip (hK2 _ _ ?_)
        have hw1 : IntKind.i64.wrap ((at' : Int) + 1) = ((at' + 1 : Nat) : Int) := by rw [wrap64 (by omega) (by omega)]; rfl
        refine aw_block ?_
        refine aw_srd [(0,true),(1,true),(2,true),(3,true),(4,true),(5,true),(6,true),(7,true),(8,true),(9,true),(10,true),(11,true),(12,true),(13,true)] mixed rfl (by kernel_rfl) ?_
        simp only [go_sem, reduceIte, Nat.reduceEqDiff, Nat.reduceAdd, Nat.reduceMul, Nat.reduceSub, Nat.reduceLeDiff, Nat.reduceLT, reduceCtorEq, hw1, getD_bytes (show at' < b.length by omega), getD_bytes (show at' + 1 < b.length by omega)]
        have hx := b[at'].toNat_lt
        have hy := b[at' + 1].toNat_lt
        have hor : IntKind.i64.wrap (IntKind.i64.wrap (256 * IntKind.i64.wrap (b[at'].toNat : Int)) + IntKind.i64.wrap (b[at' + 1].toNat : Int)) = ((b[at'].toNat * 256 + b[at' + 1].toNat : Nat) : Int) := by
          rw [wrap64 (n := (b[at'].toNat : Int)) (by omega) (by omega), wrap64 (n := (b[at' + 1].toNat : Int)) (by omega) (by omega), wrap64 (n := 256 * (b[at'].toNat : Int)) (by omega) (by omega), wrap64 (by omega) (by omega)]
          omega
        have h65 : b[at'].toNat * 256 + b[at' + 1].toNat < 65536 := by omega
        rw [hor]
        have hd : b.drop at' = b[at'] :: b[at' + 1] :: b.drop (at' + 2) := by rw [List.drop_eq_getElem_cons (by omega), List.drop_eq_getElem_cons (by omega)]
        rw [hd, scanL] at i1 i2
        have hdl : (b.drop (at' + 2)).length = b.length - (at' + 2) := by simp
        generalize hn : b[at'].toNat * 256 + b[at' + 1].toNat = n at *
        refine ⟨⟨by omega, by omega, wid_bytes _⟩, ⟨by omega, by omega, wid_bytes _⟩, ?_⟩
        have hw4 : IntKind.i64.wrap (((at' + 2 : Nat) : Int) + n) = ((at' + 2 + n : Nat) : Int) := by rw [wrap64 (by omega) (by omega)]; rfl
        refine aw_seq fun K3 hK3 => ?_
        refine aw_sr rfl ?_
        simp only [go_sem, reduceIte, Nat.reduceEqDiff, Nat.reduceAdd, Nat.reduceMul, Nat.reduceSub, Nat.reduceLeDiff, Nat.reduceLT, reduceCtorEq, hw3, hw4]
        refine aw_if rfl (fun h => ?_) (fun h => ?_)
        · have hc : (b.drop (at' + 2)).length < n := by
            have : (b.length : Int) < ((at' + 2 + n : Nat) : Int) := of_decide_eq_true h
            omega
          rw [if_pos hc] at i1 i2
          refine aw_exit ?_
          refine ⟨ot, i5, ?_⟩
          simp only [List.append_nil, Nat.add_zero] at i1 i2
          simp only [go_sem, reduceIte, Nat.reduceEqDiff, Nat.reduceAdd, Nat.reduceMul, Nat.reduceSub, Nat.reduceLeDiff, Nat.reduceLT, reduceCtorEq, i1, i2]
        · have hc : ¬ (b.drop (at' + 2)).length < n := by
            have : ¬ (b.length : Int) < ((at' + 2 + n : Nat) : Int) := of_decide_eq_false h
            omega
          rw [if_neg hc] at i1 i2
          refine aw_skip (hK3 _ _ ?_)
          have hw5 : IntKind.i64.wrap (2 + (n : Int)) = ((2 + n : Nat) : Int) := by rw [wrap64 (by omega) (by omega)]; rfl
          have hw6 : IntKind.i64.wrap ((at' : Int) + ((2 + n : Nat) : Int)) = ((at' + (2 + n) : Nat) : Int) := by rw [wrap64 (by omega) (by omega)]; rfl
          refine aw_sr rfl ?_
          simp only [go_sem, reduceIte, Nat.reduceEqDiff, Nat.reduceAdd, Nat.reduceMul, Nat.reduceSub, Nat.reduceLeDiff, Nat.reduceLT, reduceCtorEq, hw3, hw4]
          refine ⟨⟨⟨by omega, by omega, by omega⟩, wid_bytes _⟩, ?_⟩
          refine goP_room i5 ?_ fun t' H' hr => ?_
          · exact ⟨rfl, rfl, by decide, wid_map (g := eStr) (fun _ => rfl) _, wid_one rfl, sca_one rfl, by simp; omega, by simp; omega⟩
          simp only [go_sem, reduceIte, Nat.reduceEqDiff, Nat.reduceAdd, Nat.reduceMul, Nat.reduceSub, Nat.reduceLeDiff, Nat.reduceLT, reduceCtorEq, Bool.and_false]
          refine aw_rg rfl ?_
          simp only [go_sem, reduceIte, Nat.reduceEqDiff, Nat.reduceAdd, Nat.reduceMul, Nat.reduceSub, Nat.reduceLeDiff, Nat.reduceLT, reduceCtorEq, hw5, hw6]
          have hcut : (b.take (at' + 2 + n)).drop (at' + 2) = (b.drop (at' + 2)).take n := by rw [List.drop_take]; congr 1; omega
          have hdd : (b.drop (at' + 2)).drop n = b.drop (at' + (2 + n)) := by rw [List.drop_drop]; congr 1; omega
          rw [hdd] at i1 i2
          refine ⟨⟨⟨out ++ [(b.drop (at' + 2)).take n], at' + (2 + n), t', H'⟩, ⟨by simpa using i1, by simp only; omega, by simp only; omega, by simp; omega⟩, hr⟩, by simp only; omega, ?_, fun _ _ h => h⟩
          simp only [go_sem, reduceIte, Nat.reduceEqDiff, Nat.reduceAdd, Nat.reduceMul, Nat.reduceSub, Nat.reduceLeDiff, Nat.reduceLT, reduceCtorEq, hcut]
          simp [eStr]
      · have hge : ¬ at' + 2 ≤ b.length := by
          have : ¬ ((at' + 2 : Nat) : Int) ≤ (b.length : Int) := of_decide_eq_false h
          omega
        refine aw_exit ⟨ot, i5, ?_⟩
        have hs : scanL (b.drop at') = ([], 0) := by
          have hl : (b.drop at').length < 2 := by simp; omega
          match b.drop at', hl with
          | [], _ => simp [scanL]
          | [x], _ => simp [scanL]
        rw [hs] at i1 i2
        simp only [List.append_nil, Nat.add_zero] at i1 i2
        simp only [go_sem, reduceIte, Nat.reduceEqDiff, Nat.reduceAdd, Nat.reduceMul, Nat.reduceSub, Nat.reduceLeDiff, Nat.reduceLT, reduceCtorEq, i1, i2]
  · rintro f' G' ⟨ot, hr, hf⟩
    refine AW.of_fsub hf ?_
    refine aw_sr rfl ?_
    simp only [go_sem, reduceIte, Nat.reduceEqDiff, Nat.reduceAdd, Nat.reduceMul, Nat.reduceSub, Nat.reduceLeDiff, Nat.reduceLT, reduceCtorEq]
    exact aw_ret ⟨trivial, _, rfl, vle2 Vle.untag (Vle.refl _), hr.sub⟩
end Go.Proofs.Ytomjghlaoncpbaa
