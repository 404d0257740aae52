import Derived.Test.YtomjghlaoncpbaaValO
set_option linter.unusedSimpArgs false
set_option linter.unusedVariables false
namespace Go.Proofs.Ytomjghlaoncpbaa
open Go.Proofs.YtomjghlaoncpbaaV
set_option maxHeartbeats 400000
set_option maxRecDepth 100000
theorem byte128 {n : Nat} (h : n < 2 ^ 64) : IntKind.u8.wrap (IntKind.u64.wrap ((n : Int).tmod 128 + 128)) = (((UInt8.ofNat (n % 128 + 128)).toNat : Nat) : Int) := by
  have e : (n : Int).tmod 128 = ((n % 128 : Nat) : Int) := by rw [Int.tmod_eq_emod_of_nonneg (by omega)]; omega
  rw [e, wrap_u64, wrap_u8, UInt8.toNat_ofNat']
  omega
theorem quo128 {n : Nat} (h : n < 2 ^ 64) : IntKind.u64.wrap ((n : Int).tdiv 128) = ((n / 128 : Nat) : Int) := by
  have e : (n : Int).tdiv 128 = ((n / 128 : Nat) : Int) := by rw [Int.tdiv_eq_ediv_of_nonneg (by omega)]; omega
  rw [e, wrap_u64]
  omega
theorem q_refnat (n : Nat) (hn : n < 2 ^ 64) : Quiet Try.prog 147 [.int .u64 n] (.str (natB n)) := by
  refine Quiet.weak fun G => ?_
  refine acall_body (rs := [.tmp 2]) Try.func147 rfl rfl Try.ntmps147 (by kernel_rfl) (Nat.le_of_ble_eq_true rfl) ?_
  refine aw_sr rfl ?_
  simp only [go_sem, reduceIte, Nat.reduceEqDiff, Nat.reduceAdd, Nat.reduceMul, Nat.reduceSub, Nat.reduceLeDiff, Nat.reduceLT, reduceCtorEq]
  refine aw_sr rfl ?_
  simp only [go_sem, reduceIte, Nat.reduceEqDiff, Nat.reduceAdd, Nat.reduceMul, Nat.reduceSub, Nat.reduceLeDiff, Nat.reduceLT, reduceCtorEq]
  refine aw_seq fun K2 hK2 => ?_
  refine aw_block ?_
  have h10 := natB_len64 hn
  refine aw_lph (S := {s : List UInt8 × Nat // s.1 ++ natB s.2 = natB n ∧ s.2 < 2 ^ 64}) (fun s => [(3, .str s.1.1), (0, .int .u64 s.1.2)]) (fun _ => G) (fun s => s.1.2) ⟨([], n), rfl, hn⟩ ?_ (fun _ _ h => h) ?_
  · simp only [go_sem, reduceIte, Nat.reduceEqDiff, Nat.reduceAdd, Nat.reduceMul, Nat.reduceSub, Nat.reduceLeDiff, Nat.reduceLT, reduceCtorEq]
  intro ⟨⟨o, k⟩, i1, i2⟩
  simp only at i1 i2 ⊢
  have hlo := congrArg List.length i1
  rw [List.length_append] at hlo
  refine aw_seq fun K3 hK3 => ?_
  refine aw_sr rfl ?_
  simp only [go_sem, reduceIte, Nat.reduceEqDiff, Nat.reduceAdd, Nat.reduceMul, Nat.reduceSub, Nat.reduceLeDiff, Nat.reduceLT, reduceCtorEq]
  refine aw_if rfl (fun h => ?_) (fun h => ?_)
  · have hk : ¬ k < 128 := by
      have : (127 : Int) < (k : Int) := by simpa using h
      omega
    refine aw_skip (hK3 _ _ ?_)
    refine aw_block ?_
    refine aw_sr rfl ?_
    simp only [go_sem, reduceIte, Nat.reduceEqDiff, Nat.reduceAdd, Nat.reduceMul, Nat.reduceSub, Nat.reduceLeDiff, Nat.reduceLT, reduceCtorEq, byte128 i2]
    refine ⟨by decide, by simp; omega, ?_⟩
    refine aw_rg rfl ?_
    simp only [go_sem, reduceIte, Nat.reduceEqDiff, Nat.reduceAdd, Nat.reduceMul, Nat.reduceSub, Nat.reduceLeDiff, Nat.reduceLT, reduceCtorEq, quo128 i2]
    refine ⟨by decide, ⟨⟨(o ++ [UInt8.ofNat (k % 128 + 128)], k / 128), ?_, ?_⟩, ?_, ?_, fun _ _ h => h⟩⟩
    · rw [← i1, natB_big hk]; simp
    · show k / 128 < 2 ^ 64; omega
    · show k / 128 < k; omega
    · simp only [go_sem, reduceIte, Nat.reduceEqDiff, Nat.reduceAdd, Nat.reduceMul, Nat.reduceSub, Nat.reduceLeDiff, Nat.reduceLT, reduceCtorEq]
  · have hk : k < 128 := by
      have : (k : Int) ≤ 127 := by simpa using h
      omega
    refine aw_exit ?_
    refine hK2 _ _ ?_
    refine aw_sr rfl ?_
    simp only [go_sem, reduceIte, Nat.reduceEqDiff, Nat.reduceAdd, Nat.reduceMul, Nat.reduceSub, Nat.reduceLeDiff, Nat.reduceLT, reduceCtorEq, byte_small hk]
    refine ⟨by simp; omega, ?_⟩
    refine aw_ret ⟨trivial, _, rfl, ?_, fun _ _ h => h⟩
    rw [← i1, natB_small hk]
    exact Vle.refl _
theorem q_refnum (n : Int) (hn : IntKind.i64.min ≤ n ∧ n ≤ IntKind.i64.max) : Quiet Try.prog 146 [.int .i64 n] (.str (natB (numN n))) := by
  have hr := i64_range hn
  have hlt := numN_lt hn
  intro G
  refine acall_body (rs := [.tmp 2]) Try.func146 rfl rfl Try.ntmps146 (by kernel_rfl) (Nat.le_of_ble_eq_true rfl) ?_
  refine aw_sr rfl ?_
  simp only [go_sem, reduceIte, Nat.reduceEqDiff, Nat.reduceAdd, Nat.reduceMul, Nat.reduceSub, Nat.reduceLeDiff, Nat.reduceLT, reduceCtorEq]
  refine aw_seq fun K1 hK1 => ?_
  refine aw_sr rfl ?_
  simp only [go_sem, reduceIte, Nat.reduceEqDiff, Nat.reduceAdd, Nat.reduceMul, Nat.reduceSub, Nat.reduceLeDiff, Nat.reduceLT, reduceCtorEq]
  refine aw_if rfl (fun h => ?_) (fun h => ?_)
  · have h : n < 0 := by simpa using h
    have e : IntKind.u64.wrap (IntKind.u64.wrap (2 * IntKind.u64.wrap (IntKind.i64.wrap (0 - IntKind.i64.wrap (n + 1)))) + 1) = ((numN n : Nat) : Int) := by
      rw [wrap64 (n := n + 1) (by omega) (by omega), wrap64 (by omega) (by omega), wrap_u64, wrap_u64, wrap_u64, numN, if_neg (by omega)]
      omega
    refine aw_sr rfl ?_
    simp only [go_sem, reduceIte, Nat.reduceEqDiff, Nat.reduceAdd, Nat.reduceMul, Nat.reduceSub, Nat.reduceLeDiff, Nat.reduceLT, reduceCtorEq, e]
    refine goA_q (q_refnat (numN n) hlt) ?_
    simp only [go_sem, reduceIte, Nat.reduceEqDiff, Nat.reduceAdd, Nat.reduceMul, Nat.reduceSub, Nat.reduceLeDiff, Nat.reduceLT, reduceCtorEq]
    exact aw_ret ⟨trivial, _, rfl, rfl, rfl⟩
  · have h : ¬ n < 0 := by simpa using h
    have e : IntKind.u64.wrap (2 * IntKind.u64.wrap n) = ((numN n : Nat) : Int) := by
      rw [wrap_u64, wrap_u64, numN, if_pos (by omega)]
      omega
    refine aw_skip (hK1 _ _ ?_)
    refine aw_sr rfl ?_
    simp only [go_sem, reduceIte, Nat.reduceEqDiff, Nat.reduceAdd, Nat.reduceMul, Nat.reduceSub, Nat.reduceLeDiff, Nat.reduceLT, reduceCtorEq, e]
    refine goA_q (q_refnat (numN n) hlt) ?_
    simp only [go_sem, reduceIte, Nat.reduceEqDiff, Nat.reduceAdd, Nat.reduceMul, Nat.reduceSub, Nat.reduceLeDiff, Nat.reduceLT, reduceCtorEq]
    exact aw_ret ⟨trivial, _, rfl, rfl, rfl⟩
theorem q_valueText0 : ∀ (n : Nat) (v : Val), v.sz ≤ n → OkVal v → (encV v).length ≤ 1099511627776 → Quiet Try.prog 106 [.agg (cV v)] (.str (encV v)) := by
  intro n
  induction n with
  | zero => intro v h; have := v.sz_eq; omega
  | succ n ih =>
    intro v hsz ho hl
    have hle := encV_eq v
    have hl' : 1 + ((natB (numN v.num)).length + ((natB v.text.length).length + v.text.length + ((natB v.args.length).length + (encVs v.args).length))) ≤ 1099511627776 := by
      rw [hle] at hl
      simp only [List.length_append, List.length_cons, textB] at hl
      omega
    have htx : v.text.length ≤ 1048576 := ho.text
    have hll : v.args.length ≤ 1048576 := ho.len
    refine Quiet.weak fun G => ?_
    refine acall_body (rs := [.tmp 2]) Try.func106 rfl rfl Try.ntmps106 (by kernel_rfl) (Nat.le_of_ble_eq_true rfl) ?_
    refine aw_sr rfl ?_
    simp only [go_sem, reduceIte, Nat.reduceEqDiff, Nat.reduceAdd, Nat.reduceMul, Nat.reduceSub, Nat.reduceLeDiff, Nat.reduceLT, reduceCtorEq]
    intro b1 hb1
    refine aw_srd [(0,true),(1,true),(2,true),(3,true),(4,true),(5,true),(6,true),(7,true),(8,true),(9,true),(10,true),(11,true),(12,true),(13,true),(14,true),(15,true),(16,true),(17,true),(18,true),(19,true),(20,true),(21,true),(22,true),(23,true),(24,true)] mixed rfl (by kernel_rfl) ?_
    simp only [go_sem, reduceIte, Nat.reduceEqDiff, Nat.reduceAdd, Nat.reduceMul, Nat.reduceSub, Nat.reduceLeDiff, Nat.reduceLT, reduceCtorEq, one_u8]
    refine goQ_by (q_refnum v.num ho.num) ?_
    simp only [go_sem, reduceIte, Nat.reduceEqDiff, Nat.reduceAdd, Nat.reduceMul, Nat.reduceSub, Nat.reduceLeDiff, Nat.reduceLT, reduceCtorEq, wrapN (by omega : v.text.length < 2 ^ 64)]
    refine ⟨by simp; omega, ?_⟩
    refine goQ_by (q_refnat v.text.length (by omega)) ?_
    simp only [go_sem, reduceIte, Nat.reduceEqDiff, Nat.reduceAdd, Nat.reduceMul, Nat.reduceSub, Nat.reduceLeDiff, Nat.reduceLT, reduceCtorEq, wrapN (by omega : v.args.length < 2 ^ 64)]
    refine ⟨by simp; omega, by simp; omega, ?_⟩
    refine goQ_by (q_refnat v.args.length (by omega)) ?_
    simp only [go_sem, reduceIte, Nat.reduceEqDiff, Nat.reduceAdd, Nat.reduceMul, Nat.reduceSub, Nat.reduceLeDiff, Nat.reduceLT, reduceCtorEq]
    refine ⟨by simp; omega, ?_⟩
    refine aw_seq fun K4 hK4 => ?_
    refine aw_sr rfl ?_
    simp only [go_sem, reduceIte, Nat.reduceEqDiff, Nat.reduceAdd, Nat.reduceMul, Nat.reduceSub, Nat.reduceLeDiff, Nat.reduceLT, reduceCtorEq]
    refine aw_range v.args.length (S := Unit) (fun i _ => [(31, .sl (v.args.map eVal) v.nl .no), (3, .str (([u8 v.kind] ++ natB (numN v.num) ++ natB v.text.length ++ v.text ++ natB v.args.length) ++ encVs (v.args.take i)))]) (fun _ _ => (b1, .vars (cV v)) :: G) (fun _ _ => True) () (by omega) ?_ (fun _ _ h => h) trivial rfl (fun _ _ => rfl) ?_ ?_ (by decide)
    · simp only [go_sem, reduceIte, Nat.reduceEqDiff, Nat.reduceAdd, Nat.reduceMul, Nat.reduceSub, Nat.reduceLeDiff, Nat.reduceLT, reduceCtorEq, Int.natCast_zero, List.take_zero, encVs]
    · intro i _ hi _
      have ha := List.getElem_mem hi
      have h1 := encVs_take_len v.args (i + 1)
      rw [encVs_succ hi, List.length_append] at h1
      refine aw_sr rfl ?_
      simp only [go_sem, reduceIte, Nat.reduceEqDiff, Nat.reduceAdd, Nat.reduceMul, Nat.reduceSub, Nat.reduceLeDiff, Nat.reduceLT, reduceCtorEq, getD_map hi, eC, cV]
      refine ⟨⟨by omega, by omega, wid_eVal _⟩, fun b5 hb5 => ?_⟩
      refine aw_rg rfl ?_
      simp only [go_sem, reduceIte, Nat.reduceEqDiff, Nat.reduceAdd, Nat.reduceMul, Nat.reduceSub, Nat.reduceLeDiff, Nat.reduceLT, reduceCtorEq]
      refine goA_q (ih v.args[i] (by have := Val.sz_args ha; omega) (ho.arg ha) (by omega)) ?_
      simp only [go_sem, reduceIte, Nat.reduceEqDiff, Nat.reduceAdd, Nat.reduceMul, Nat.reduceSub, Nat.reduceLeDiff, Nat.reduceLT, reduceCtorEq]
      refine ⟨by simp; omega, (), ?_, sub_tail hb5⟩
      rw [encVs_succ hi]
      simp only [go_sem, reduceIte, Nat.reduceEqDiff, Nat.reduceAdd, Nat.reduceMul, Nat.reduceSub, Nat.reduceLeDiff, Nat.reduceLT, reduceCtorEq, List.append_assoc]
    · intro _ _
      refine hK4 _ _ ?_
      refine aw_sr rfl ?_
      simp only [go_sem, reduceIte, Nat.reduceEqDiff, Nat.reduceAdd, Nat.reduceMul, Nat.reduceSub, Nat.reduceLeDiff, Nat.reduceLT, reduceCtorEq]
      refine aw_ret ⟨trivial, _, rfl, ?_, sub_tail hb1⟩
      have e : [u8 v.kind] ++ natB (numN v.num) ++ natB v.text.length ++ v.text ++ natB v.args.length ++ encVs (v.args.take v.args.length) = encV v := by
        rw [List.take_length, hle, textB]; simp
      rw [← e]
      exact Vle.refl _
end Go.Proofs.Ytomjghlaoncpbaa
