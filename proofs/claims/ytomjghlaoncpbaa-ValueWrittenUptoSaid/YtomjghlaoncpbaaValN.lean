import Derived.Test.YtomjghlaoncpbaaValM
import Derived.Test.YtomjghlaoncpbaaValC
import Derived.Test.YtomjghlaoncpbaaChunk
set_option linter.unusedSimpArgs false
set_option linter.unusedVariables false
namespace Go.Proofs.Ytomjghlaoncpbaa
open Go.Proofs.YtomjghlaoncpbaaV
set_option maxHeartbeats 400000
set_option maxRecDepth 100000
mutual
/-- How deep a value is; how long its longest text. -/
def Val.deep : Val → Nat | .mk _ _ _ ar _ => deeps ar + 1
def deeps : List Val → Nat | [] => 0 | v :: vs => max v.deep (deeps vs)
end
mutual
def Val.long : Val → Nat | .mk _ _ t ar _ => max t.length (longs ar)
def longs : List Val → Nat | [] => 0 | v :: vs => max v.long (longs vs)
end
theorem deep_eq (v : Val) : v.deep = deeps v.args + 1 := by cases v; rw [Val.deep]; rfl
theorem long_eq (v : Val) : v.long = max v.text.length (longs v.args) := by cases v; rw [Val.long]; rfl
theorem deeps_append : ∀ a b, deeps (a ++ b) = max (deeps a) (deeps b)
  | [], b => by simp [deeps]
  | v :: a, b => by rw [List.cons_append, deeps, deeps, deeps_append a b, Nat.max_assoc]
theorem longs_append : ∀ a b, longs (a ++ b) = max (longs a) (longs b)
  | [], b => by simp [longs]
  | v :: a, b => by rw [List.cons_append, longs, longs, longs_append a b, Nat.max_assoc]
theorem deeps_succ {l : List Val} {i : Nat} (h : i < l.length) : deeps (l.take (i + 1)) = max (deeps (l.take i)) l[i].deep := by
  rw [List.take_succ_eq_append_getElem h, deeps_append]; simp [deeps]
theorem longs_succ {l : List Val} {i : Nat} (h : i < l.length) : longs (l.take (i + 1)) = max (longs (l.take i)) l[i].long := by
  rw [List.take_succ_eq_append_getElem h, longs_append]; simp [longs]
theorem szs_succ {l : List Val} {i : Nat} (h : i < l.length) : szs (l.take (i + 1)) = szs (l.take i) + l[i].sz := by
  rw [List.take_succ_eq_append_getElem h, szs_append]; simp [szs]
mutual
theorem deep_le : ∀ v : Val, v.deep ≤ v.sz
  | .mk _ _ _ ar _ => by have := deeps_le ar; rw [Val.deep, Val.sz]; omega
theorem deeps_le : ∀ l, deeps l ≤ szs l
  | [] => by simp [deeps]
  | v :: l => by have := deep_le v; have := deeps_le l; rw [deeps, szs]; omega
end
theorem maxN (a b : Nat) : (if (b : Int) > (a : Int) then (b : Int) else (a : Int)) = ((max a b : Nat) : Int) := by split <;> omega
theorem OkVal.long_le {v : Val} (h : OkVal v) : v.long ≤ bulk := by
  induction h with
  | mk hk hn ht hnl hl ha ih =>
    rw [long_eq]
    have : ∀ l : List Val, (∀ a ∈ l, a.long ≤ bulk) → longs l ≤ bulk := by
      intro l
      induction l with
      | nil => intro _; simp [longs]
      | cons v l ih2 => intro h; rw [longs]; exact Nat.max_le.2 ⟨h v (by simp), ih2 fun a ha => h a (by simp [ha])⟩
    exact Nat.max_le.2 ⟨ht, this _ ih⟩
theorem q_size0 : ∀ (n : Nat) (v : Val), v.sz ≤ n → oVal v → Quiet Try.prog 107 [.agg (cV v)] (.tup [.int .i64 v.sz, .int .i64 v.deep, .int .i64 v.long]) := by
  intro n
  induction n with
  | zero => intro v h; have := v.sz_eq; omega
  | succ n ih =>
    intro v hsz ho
    have hb : v.sz ≤ 1048576 := ho.2
    have hll : v.args.length ≤ 1048576 := ho.1.len
    have hse := v.sz_eq
    have hdl := deep_le v
    have hde := deep_eq v
    refine Quiet.weak fun G => ?_
    refine acall_body (rs := [.tmp 2, .tmp 3, .tmp 4]) Try.func107 rfl rfl Try.ntmps107 (by kernel_rfl) (Nat.le_of_ble_eq_true rfl) ?_
    refine aw_sr rfl ?_
    simp only [go_sem, reduceIte, Nat.reduceEqDiff, Nat.reduceAdd, Nat.reduceMul, Nat.reduceSub, Nat.reduceLeDiff, Nat.reduceLT, reduceCtorEq]
    intro b1 hb1
    refine aw_srd [(0,true),(1,true),(2,true),(3,true),(4,true),(5,true)] mixed rfl (by kernel_rfl) ?_
    simp only [go_sem, reduceIte, Nat.reduceEqDiff, Nat.reduceAdd, Nat.reduceMul, Nat.reduceSub, Nat.reduceLeDiff, Nat.reduceLT, reduceCtorEq]
    refine aw_seq fun K1 hK1 => ?_
    refine aw_sr rfl ?_
    simp only [go_sem, reduceIte, Nat.reduceEqDiff, Nat.reduceAdd, Nat.reduceMul, Nat.reduceSub, Nat.reduceLeDiff, Nat.reduceLT, reduceCtorEq]
    refine aw_range v.args.length (S := Unit) (fun i _ => [(17, .sl (v.args.map eVal) v.nl .no), (5, .int .i64 ((1 + szs (v.args.take i) : Nat) : Int)), (6, .int .i64 (deeps (v.args.take i) : Nat)), (7, .int .i64 ((max v.text.length (longs (v.args.take i)) : Nat) : Int))]) (fun _ _ => (b1, .vars (cV v)) :: G) (fun _ _ => True) () (by omega) ?_ (fun _ _ h => h) trivial rfl (fun _ _ => rfl) ?_ ?_ (by decide)
    · simp only [go_sem, reduceIte, Nat.reduceEqDiff, Nat.reduceAdd, Nat.reduceMul, Nat.reduceSub, Nat.reduceLeDiff, Nat.reduceLT, reduceCtorEq, Int.natCast_zero, List.take_zero, szs, deeps, longs, Nat.max_zero, Nat.add_zero, Int.natCast_one]
    · intro i _ hi _
      have ha := List.getElem_mem hi
      have h1 := szs_take v.args (i + 1)
      rw [szs_succ hi] at h1
      refine aw_sr rfl ?_
      simp only [go_sem, reduceIte, Nat.reduceEqDiff, Nat.reduceAdd, Nat.reduceMul, Nat.reduceSub, Nat.reduceLeDiff, Nat.reduceLT, reduceCtorEq, getD_map hi, eC, cV]
      refine ⟨⟨by omega, by omega, wid_eVal _⟩, fun b9 hb9 => ?_⟩
      refine aw_sr rfl ?_
      simp only [go_sem, reduceIte, Nat.reduceEqDiff, Nat.reduceAdd, Nat.reduceMul, Nat.reduceSub, Nat.reduceLeDiff, Nat.reduceLT, reduceCtorEq]
      refine goA_q (ih v.args[i] (by have := Val.sz_args ha; omega) (ho.arg ha)) ?_
      simp only [go_sem, reduceIte, Nat.reduceEqDiff, Nat.reduceAdd, Nat.reduceMul, Nat.reduceSub, Nat.reduceLeDiff, Nat.reduceLT, reduceCtorEq]
      refine aw_rg rfl ?_
      have hw : IntKind.i64.wrap (((1 + szs (v.args.take i) : Nat) : Int) + (v.args[i].sz : Int)) = ((1 + szs (v.args.take (i + 1)) : Nat) : Int) := by
        rw [wrap64 (by omega) (by omega), szs_succ hi]; omega
      simp only [go_sem, reduceIte, Nat.reduceEqDiff, Nat.reduceAdd, Nat.reduceMul, Nat.reduceSub, Nat.reduceLeDiff, Nat.reduceLT, reduceCtorEq, hw, maxN]
      refine ⟨(), ?_, sub_tail hb9⟩
      simp only [go_sem, reduceIte, Nat.reduceEqDiff, Nat.reduceAdd, Nat.reduceMul, Nat.reduceSub, Nat.reduceLeDiff, Nat.reduceLT, reduceCtorEq, deeps_succ hi, longs_succ hi, Nat.max_assoc]
    · intro _ _
      refine hK1 _ _ ?_
      refine aw_sr rfl ?_
      have hw : IntKind.i64.wrap (((deeps (v.args.take v.args.length) : Nat) : Int) + 1) = (v.deep : Int) := by
        rw [List.take_length, wrap64 (by omega) (by omega)]; omega
      simp only [go_sem, reduceIte, Nat.reduceEqDiff, Nat.reduceAdd, Nat.reduceMul, Nat.reduceSub, Nat.reduceLeDiff, Nat.reduceLT, reduceCtorEq, hw]
      refine aw_ret ⟨trivial, _, rfl, ?_, sub_tail hb1⟩
      rw [List.take_length, long_eq, hse]
      exact Vle.refl _
/-- May a value be, but for those within it? -/
def nodeV (v : Val) : Bool :=
  if v.kind = 1 then decide (v.num = 0) && decide (v.text = []) && decide ((v.args.length : Int) = 0)
  else if v.kind = 2 ∨ v.kind = 6 then decide (v.text = []) && decide ((v.args.length : Int) = 0)
  else if v.kind = 3 then (decide (v.num = 0) || decide (v.num = 1)) && decide (v.text = []) && decide ((v.args.length : Int) = 0)
  else if v.kind = 4 then decide (v.num = 0) && decide ((v.args.length : Int) = 0)
  else if v.kind = 5 then decide (v.num = 0) && !decide (v.text = [])
  else if v.kind = 7 then true
  else if v.kind = 8 then decide (v.num = 0) && decide (v.text = []) && decide ((v.args.length : Int) ≤ 1)
  else false
theorem q_node (v : Val) : Quiet Try.prog 148 [.agg (cV v)] (.bool (nodeV v)) := by
  refine Quiet.weak fun G => ?_
  refine acall_body (rs := [.tmp 2]) Try.func148 rfl rfl Try.ntmps148 (by kernel_rfl) (Nat.le_of_ble_eq_true rfl) ?_
  refine aw_sr rfl ?_
  simp only [go_sem, reduceIte, Nat.reduceEqDiff, Nat.reduceAdd, Nat.reduceMul, Nat.reduceSub, Nat.reduceLeDiff, Nat.reduceLT, reduceCtorEq]
  intro b1 hb1
  refine aw_srd [(0,true),(1,true),(2,true),(3,true),(4,true),(5,true),(6,true),(7,true),(8,true),(9,true),(10,true),(11,true)] mixed rfl (by kernel_rfl) ?_
  simp only [go_sem, reduceIte, Nat.reduceEqDiff, Nat.reduceAdd, Nat.reduceMul, Nat.reduceSub, Nat.reduceLeDiff, Nat.reduceLT, reduceCtorEq]
  refine aw_seq fun K1 hK1 => ?_
  refine aw_sr rfl ?_
  simp only [go_sem, reduceIte, Nat.reduceEqDiff, Nat.reduceAdd, Nat.reduceMul, Nat.reduceSub, Nat.reduceLeDiff, Nat.reduceLT, reduceCtorEq]
  refine aw_block ?_
  refine aw_sr rfl ?_
  simp only [go_sem, reduceIte, Nat.reduceEqDiff, Nat.reduceAdd, Nat.reduceMul, Nat.reduceSub, Nat.reduceLeDiff, Nat.reduceLT, reduceCtorEq]
  refine aw_if rfl (fun h => ?_) (fun h => ?_)
  · have k1 : v.kind = 1 := by simpa using h
    refine aw_sr rfl ?_
    simp only [go_sem, reduceIte, Nat.reduceEqDiff, Nat.reduceAdd, Nat.reduceMul, Nat.reduceSub, Nat.reduceLeDiff, Nat.reduceLT, reduceCtorEq]
    refine aw_ret ⟨trivial, _, rfl, ?_, sub_tail hb1⟩
    rw [nodeV, if_pos k1]
    exact Vle.refl _
  have k1 : ¬ v.kind = 1 := by simpa using h
  refine aw_mid (fun f' G' => FSub [(27, .bool (decide (v.kind = 2) || decide (v.kind = 6))), (16, .int .i64 v.kind), (3, .bool (decide (v.num = 0))), (4, .bool (decide (v.text = []))), (5, .int .i64 v.args.length), (1, .ptr b1 0)] f' ∧ G' = (b1, .vars (cV v)) :: G) ?_ ?_
  · refine aw_sr rfl ?_
    simp only [go_sem, reduceIte, Nat.reduceEqDiff, Nat.reduceAdd, Nat.reduceMul, Nat.reduceSub, Nat.reduceLeDiff, Nat.reduceLT, reduceCtorEq]
    refine aw_if rfl (fun h => ?_) (fun h => ?_)
    · refine aw_skip ⟨?_, rfl⟩
      simp only [go_sem, reduceIte, Nat.reduceEqDiff, Nat.reduceAdd, Nat.reduceMul, Nat.reduceSub, Nat.reduceLeDiff, Nat.reduceLT, reduceCtorEq, h, Bool.true_or]
    · refine aw_rg rfl ?_
      simp only [go_sem, reduceIte, Nat.reduceEqDiff, Nat.reduceAdd, Nat.reduceMul, Nat.reduceSub, Nat.reduceLeDiff, Nat.reduceLT, reduceCtorEq, h, Bool.false_or]
      refine ⟨?_, rfl⟩
      simp only [go_sem, reduceIte, Nat.reduceEqDiff, Nat.reduceAdd, Nat.reduceMul, Nat.reduceSub, Nat.reduceLeDiff, Nat.reduceLT, reduceCtorEq]
  · rintro f' G' ⟨hf, rfl⟩
    refine AW.of_fsub hf ?_
    refine aw_if rfl (fun h => ?_) (fun h => ?_)
    · have k2 : v.kind = 2 ∨ v.kind = 6 := by simpa using h
      refine aw_sr rfl ?_
      simp only [go_sem, reduceIte, Nat.reduceEqDiff, Nat.reduceAdd, Nat.reduceMul, Nat.reduceSub, Nat.reduceLeDiff, Nat.reduceLT, reduceCtorEq]
      refine aw_ret ⟨trivial, _, rfl, ?_, sub_tail hb1⟩
      rw [nodeV, if_neg k1, if_pos k2]
      exact Vle.refl _
    have k2 : ¬ (v.kind = 2 ∨ v.kind = 6) := by
      intro e
      have h' : decide (v.kind = 2) = false ∧ decide (v.kind = 6) = false := by simpa using h
      simp only [decide_eq_false_iff_not] at h'
      omega
    refine aw_sr rfl ?_
    simp only [go_sem, reduceIte, Nat.reduceEqDiff, Nat.reduceAdd, Nat.reduceMul, Nat.reduceSub, Nat.reduceLeDiff, Nat.reduceLT, reduceCtorEq]
    refine aw_if rfl (fun h => ?_) (fun h => ?_)
    · have k3 : v.kind = 3 := by simpa using h
      refine aw_sr rfl ?_
      simp only [go_sem, reduceIte, Nat.reduceEqDiff, Nat.reduceAdd, Nat.reduceMul, Nat.reduceSub, Nat.reduceLeDiff, Nat.reduceLT, reduceCtorEq]
      refine aw_ret ⟨trivial, _, rfl, ?_, sub_tail hb1⟩
      rw [nodeV, if_neg k1, if_neg k2, if_pos k3]
      exact Vle.refl _
    have k3 : ¬ v.kind = 3 := by simpa using h
    refine aw_sr rfl ?_
    simp only [go_sem, reduceIte, Nat.reduceEqDiff, Nat.reduceAdd, Nat.reduceMul, Nat.reduceSub, Nat.reduceLeDiff, Nat.reduceLT, reduceCtorEq]
    refine aw_if rfl (fun h => ?_) (fun h => ?_)
    · have k4 : v.kind = 4 := by simpa using h
      refine aw_sr rfl ?_
      simp only [go_sem, reduceIte, Nat.reduceEqDiff, Nat.reduceAdd, Nat.reduceMul, Nat.reduceSub, Nat.reduceLeDiff, Nat.reduceLT, reduceCtorEq]
      refine aw_ret ⟨trivial, _, rfl, ?_, sub_tail hb1⟩
      rw [nodeV, if_neg k1, if_neg k2, if_neg k3, if_pos k4]
      exact Vle.refl _
    have k4 : ¬ v.kind = 4 := by simpa using h
    refine aw_sr rfl ?_
    simp only [go_sem, reduceIte, Nat.reduceEqDiff, Nat.reduceAdd, Nat.reduceMul, Nat.reduceSub, Nat.reduceLeDiff, Nat.reduceLT, reduceCtorEq]
    refine aw_if rfl (fun h => ?_) (fun h => ?_)
    · have k5 : v.kind = 5 := by simpa using h
      refine aw_sr rfl ?_
      simp only [go_sem, reduceIte, Nat.reduceEqDiff, Nat.reduceAdd, Nat.reduceMul, Nat.reduceSub, Nat.reduceLeDiff, Nat.reduceLT, reduceCtorEq]
      refine aw_ret ⟨trivial, _, rfl, ?_, sub_tail hb1⟩
      rw [nodeV, if_neg k1, if_neg k2, if_neg k3, if_neg k4, if_pos k5]
      exact Vle.refl _
    have k5 : ¬ v.kind = 5 := by simpa using h
    refine aw_sr rfl ?_
    simp only [go_sem, reduceIte, Nat.reduceEqDiff, Nat.reduceAdd, Nat.reduceMul, Nat.reduceSub, Nat.reduceLeDiff, Nat.reduceLT, reduceCtorEq]
    refine aw_if rfl (fun h => ?_) (fun h => ?_)
    · have k7 : v.kind = 7 := by simpa using h
      refine aw_sr rfl ?_
      simp only [go_sem, reduceIte, Nat.reduceEqDiff, Nat.reduceAdd, Nat.reduceMul, Nat.reduceSub, Nat.reduceLeDiff, Nat.reduceLT, reduceCtorEq]
      refine aw_ret ⟨trivial, _, rfl, ?_, sub_tail hb1⟩
      rw [nodeV, if_neg k1, if_neg k2, if_neg k3, if_neg k4, if_neg k5, if_pos k7]
      exact Vle.refl _
    have k7 : ¬ v.kind = 7 := by simpa using h
    refine aw_sr rfl ?_
    simp only [go_sem, reduceIte, Nat.reduceEqDiff, Nat.reduceAdd, Nat.reduceMul, Nat.reduceSub, Nat.reduceLeDiff, Nat.reduceLT, reduceCtorEq]
    refine aw_if rfl (fun h => ?_) (fun h => ?_)
    · have k8 : v.kind = 8 := by simpa using h
      refine aw_sr rfl ?_
      simp only [go_sem, reduceIte, Nat.reduceEqDiff, Nat.reduceAdd, Nat.reduceMul, Nat.reduceSub, Nat.reduceLeDiff, Nat.reduceLT, reduceCtorEq]
      refine aw_ret ⟨trivial, _, rfl, ?_, sub_tail hb1⟩
      rw [nodeV, if_neg k1, if_neg k2, if_neg k3, if_neg k4, if_neg k5, if_neg k7, if_pos k8]
      exact Vle.refl _
    have k8 : ¬ v.kind = 8 := by simpa using h
    refine aw_skip (hK1 _ _ ?_)
    refine aw_sr rfl ?_
    simp only [go_sem, reduceIte, Nat.reduceEqDiff, Nat.reduceAdd, Nat.reduceMul, Nat.reduceSub, Nat.reduceLeDiff, Nat.reduceLT, reduceCtorEq]
    refine aw_ret ⟨trivial, _, rfl, ?_, sub_tail hb1⟩
    rw [nodeV, if_neg k1, if_neg k2, if_neg k3, if_neg k4, if_neg k5, if_neg k7, if_neg k8]
    exact Vle.refl _
mutual
/-- May a value be, and all within it? -/
def rightV : Val → Bool | .mk k n t ar nl => nodeV (.mk k n t ar nl) && rightVs ar
def rightVs : List Val → Bool | [] => true | v :: vs => rightV v && rightVs vs
end
theorem rightVs_all : ∀ l, rightVs l = l.all rightV
  | [] => rfl
  | v :: l => by rw [rightVs, rightVs_all l, List.all_cons]
theorem rightV_eq (v : Val) : rightV v = (nodeV v && v.args.all rightV) := by cases v; rw [rightV, rightVs_all]; rfl
theorem q_right0 : ∀ (n : Nat) (v : Val), v.sz ≤ n → OkVal v → Quiet Try.prog 108 [.agg (cV v)] (.bool (rightV v)) := by
  intro n
  induction n with
  | zero => intro v h; have := v.sz_eq; omega
  | succ n ih =>
    intro v hsz ho
    have hll : v.args.length ≤ 1048576 := ho.len
    refine Quiet.weak fun G => ?_
    refine acall_body (rs := [.tmp 2]) Try.func108 rfl rfl Try.ntmps108 (by kernel_rfl) (Nat.le_of_ble_eq_true rfl) ?_
    refine aw_sr rfl ?_
    simp only [go_sem, reduceIte, Nat.reduceEqDiff, Nat.reduceAdd, Nat.reduceMul, Nat.reduceSub, Nat.reduceLeDiff, Nat.reduceLT, reduceCtorEq]
    intro b1 hb1
    refine aw_seq fun K1 hK1 => ?_
    refine aw_sr rfl ?_
    simp only [go_sem, reduceIte, Nat.reduceEqDiff, Nat.reduceAdd, Nat.reduceMul, Nat.reduceSub, Nat.reduceLeDiff, Nat.reduceLT, reduceCtorEq]
    refine goA_q (q_node v) ?_
    simp only [go_sem, reduceIte, Nat.reduceEqDiff, Nat.reduceAdd, Nat.reduceMul, Nat.reduceSub, Nat.reduceLeDiff, Nat.reduceLT, reduceCtorEq]
    refine aw_if rfl (fun h => ?_) (fun h => ?_)
    · refine aw_sr rfl ?_
      simp only [go_sem, reduceIte, Nat.reduceEqDiff, Nat.reduceAdd, Nat.reduceMul, Nat.reduceSub, Nat.reduceLeDiff, Nat.reduceLT, reduceCtorEq]
      refine aw_ret ⟨trivial, _, rfl, ?_, sub_tail hb1⟩
      have h : nodeV v = false := by simpa using h
      rw [rightV_eq, h]
      exact Vle.refl _
    have hnode : nodeV v = true := by simpa using h
    refine aw_skip (hK1 _ _ ?_)
    refine aw_seq fun K2 hK2 => ?_
    refine aw_sr rfl ?_
    simp only [go_sem, reduceIte, Nat.reduceEqDiff, Nat.reduceAdd, Nat.reduceMul, Nat.reduceSub, Nat.reduceLeDiff, Nat.reduceLT, reduceCtorEq]
    refine aw_range v.args.length (S := Unit) (fun _ _ => [(9, .sl (v.args.map eVal) v.nl .no)]) (fun _ _ => (b1, .vars (cV v)) :: G) (fun i _ => (v.args.take i).all rightV = true) () (by omega) ?_ (fun _ _ h => h) rfl rfl (fun _ _ => rfl) ?_ ?_ (by decide)
    · simp only [go_sem, reduceIte, Nat.reduceEqDiff, Nat.reduceAdd, Nat.reduceMul, Nat.reduceSub, Nat.reduceLeDiff, Nat.reduceLT, reduceCtorEq, Int.natCast_zero]
    · intro i _ hi he
      have ha := List.getElem_mem hi
      refine aw_sr rfl ?_
      simp only [go_sem, reduceIte, Nat.reduceEqDiff, Nat.reduceAdd, Nat.reduceMul, Nat.reduceSub, Nat.reduceLeDiff, Nat.reduceLT, reduceCtorEq, getD_map hi, eC, cV]
      refine ⟨⟨by omega, by omega, wid_eVal _⟩, fun b4 hb4 => ?_⟩
      refine aw_sr rfl ?_
      simp only [go_sem, reduceIte, Nat.reduceEqDiff, Nat.reduceAdd, Nat.reduceMul, Nat.reduceSub, Nat.reduceLeDiff, Nat.reduceLT, reduceCtorEq]
      refine goA_q (ih v.args[i] (by have := Val.sz_args ha; omega) (ho.arg ha)) ?_
      simp only [go_sem, reduceIte, Nat.reduceEqDiff, Nat.reduceAdd, Nat.reduceMul, Nat.reduceSub, Nat.reduceLeDiff, Nat.reduceLT, reduceCtorEq]
      refine aw_if rfl (fun h => ?_) (fun h => ?_)
      · refine aw_sr rfl ?_
        simp only [go_sem, reduceIte, Nat.reduceEqDiff, Nat.reduceAdd, Nat.reduceMul, Nat.reduceSub, Nat.reduceLeDiff, Nat.reduceLT, reduceCtorEq]
        refine aw_ret ⟨trivial, _, rfl, ?_, sub_fresh (sub_none (sub_tail hb1) hb4) (sub_tail hb1)⟩
        rw [rightV_eq, all_not hi (by simpa using h), Bool.and_false]
        exact Vle.refl _
      · refine aw_skip ⟨(), all_take_next he hi (by simpa using h), ?_, sub_tail hb4⟩
        simp only [go_sem, reduceIte, Nat.reduceEqDiff, Nat.reduceAdd, Nat.reduceMul, Nat.reduceSub, Nat.reduceLeDiff, Nat.reduceLT, reduceCtorEq]
    · intro _ he
      rw [List.take_length] at he
      refine hK2 _ _ ?_
      refine aw_sr rfl ?_
      simp only [go_sem, reduceIte, Nat.reduceEqDiff, Nat.reduceAdd, Nat.reduceMul, Nat.reduceSub, Nat.reduceLeDiff, Nat.reduceLT, reduceCtorEq]
      refine aw_ret ⟨trivial, _, rfl, ?_, sub_tail hb1⟩
      rw [rightV_eq, hnode, he]
      exact Vle.refl _
def checkV (v : Val) : Int := if ((decide (v.sz > 400) || decide (v.deep > 40)) || decide (v.long > 4000)) = true then 2 else if rightV v = false then 3 else 0
theorem q_valCheck (v : Val) (ho : oVal v) : Quiet Try.prog 49 [.agg (cV v)] (.int .i64 (checkV v)) := by
  have hq := q_size0 _ v (Nat.le_refl _) ho
  have hr := q_right0 _ v (Nat.le_refl _) ho.1
  refine Quiet.weak fun G => ?_
  refine acall_body (rs := [.tmp 2]) Try.func49 rfl rfl Try.ntmps49 (by kernel_rfl) (Nat.le_of_ble_eq_true rfl) ?_
  refine aw_sr rfl ?_
  simp only [go_sem, reduceIte, Nat.reduceEqDiff, Nat.reduceAdd, Nat.reduceMul, Nat.reduceSub, Nat.reduceLeDiff, Nat.reduceLT, reduceCtorEq]
  intro b1 hb1
  refine aw_seq fun K1 hK1 => ?_
  refine aw_sr rfl ?_
  simp only [go_sem, reduceIte, Nat.reduceEqDiff, Nat.reduceAdd, Nat.reduceMul, Nat.reduceSub, Nat.reduceLeDiff, Nat.reduceLT, reduceCtorEq]
  refine goA_q hq ?_
  simp only [go_sem, reduceIte, Nat.reduceEqDiff, Nat.reduceAdd, Nat.reduceMul, Nat.reduceSub, Nat.reduceLeDiff, Nat.reduceLT, reduceCtorEq]
  refine aw_sr rfl ?_
  simp only [go_sem, reduceIte, Nat.reduceEqDiff, Nat.reduceAdd, Nat.reduceMul, Nat.reduceSub, Nat.reduceLeDiff, Nat.reduceLT, reduceCtorEq]
  have hc : (decide ((400 : Int) < (v.sz : Int)) || decide ((40 : Int) < (v.deep : Int)) || decide ((4000 : Int) < (v.long : Int))) = ((decide (v.sz > 400) || decide (v.deep > 40)) || decide (v.long > 4000)) := by
    congr 1
    · congr 1
      · exact decide_eq_decide.2 (by omega)
      · exact decide_eq_decide.2 (by omega)
    · exact decide_eq_decide.2 (by omega)
  refine aw_if rfl (fun h => ?_) (fun h => ?_)
  · refine aw_sr rfl ?_
    simp only [go_sem, reduceIte, Nat.reduceEqDiff, Nat.reduceAdd, Nat.reduceMul, Nat.reduceSub, Nat.reduceLeDiff, Nat.reduceLT, reduceCtorEq]
    refine aw_ret ⟨trivial, _, rfl, ?_, sub_tail hb1⟩
    rw [checkV, if_pos (hc.symm.trans h)]
    exact Vle.refl _
  have h2 : ¬ ((decide (v.sz > 400) || decide (v.deep > 40)) || decide (v.long > 4000)) = true := by rw [← hc]; intro e; rw [e] at h; cases h
  refine aw_skip (hK1 _ _ ?_)
  refine aw_seq fun K2 hK2 => ?_
  refine aw_sr rfl ?_
  simp only [go_sem, reduceIte, Nat.reduceEqDiff, Nat.reduceAdd, Nat.reduceMul, Nat.reduceSub, Nat.reduceLeDiff, Nat.reduceLT, reduceCtorEq]
  refine goA_q hr ?_
  simp only [go_sem, reduceIte, Nat.reduceEqDiff, Nat.reduceAdd, Nat.reduceMul, Nat.reduceSub, Nat.reduceLeDiff, Nat.reduceLT, reduceCtorEq]
  refine aw_if rfl (fun h => ?_) (fun h => ?_)
  · refine aw_sr rfl ?_
    simp only [go_sem, reduceIte, Nat.reduceEqDiff, Nat.reduceAdd, Nat.reduceMul, Nat.reduceSub, Nat.reduceLeDiff, Nat.reduceLT, reduceCtorEq]
    refine aw_ret ⟨trivial, _, rfl, ?_, sub_tail hb1⟩
    rw [checkV, if_neg h2, if_pos (by simpa using h)]
    exact Vle.refl _
  · refine aw_skip (hK2 _ _ ?_)
    refine aw_sr rfl ?_
    simp only [go_sem, reduceIte, Nat.reduceEqDiff, Nat.reduceAdd, Nat.reduceMul, Nat.reduceSub, Nat.reduceLeDiff, Nat.reduceLT, reduceCtorEq]
    refine aw_ret ⟨trivial, _, rfl, ?_, sub_tail hb1⟩
    rw [checkV, if_neg h2, if_neg (by simpa using h)]
    exact Vle.refl _
end Go.Proofs.Ytomjghlaoncpbaa
