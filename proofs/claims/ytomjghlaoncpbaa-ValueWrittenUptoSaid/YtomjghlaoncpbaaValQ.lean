import Derived.Test.YtomjghlaoncpbaaValP
set_option linter.unusedSimpArgs false
set_option linter.unusedVariables false
namespace Go.Proofs.Ytomjghlaoncpbaa
open Go.Proofs.YtomjghlaoncpbaaV
set_option maxHeartbeats 400000
set_option maxRecDepth 100000
/-! ### slices.Contains of bytes -/
theorem q_IndexB (l : List UInt8) (nl : Bool) (t : Tag) (c : Int) (hl : l.length ≤ 1048576) : ∃ n : Int, (0 ≤ n ↔ l.any (fun b => decide (c = (b.toNat : Int))) = true) ∧ Quiet Try.prog 149 [.sl (bytesV l) nl t, .int .u8 c] (.int .i64 n) := by
  refine ⟨if l.any (fun b => decide (c = (b.toNat : Int))) = true then (l.findIdx (fun b => decide (c = (b.toNat : Int))) : Int) else -1, ?_, ?_⟩
  · split <;> rename_i h <;> simp [h] <;> omega
  intro G
  refine acall_body (rs := [.tmp 4]) Try.func149 rfl rfl Try.ntmps149 (by kernel_rfl) (Nat.le_of_ble_eq_true rfl) ?_
  refine aw_sr rfl ?_
  simp only [go_sem, reduceIte, Nat.reduceEqDiff, Nat.reduceAdd, Nat.reduceMul, Nat.reduceSub, Nat.reduceLeDiff, Nat.reduceLT, reduceCtorEq]
  refine aw_seq fun K5 hK5 => ?_
  refine aw_sr rfl ?_
  simp only [go_sem, reduceIte, Nat.reduceEqDiff, Nat.reduceAdd, Nat.reduceMul, Nat.reduceSub, Nat.reduceLeDiff, Nat.reduceLT, reduceCtorEq]
  refine aw_range l.length (S := {H : Heap // H = G}) (fun _ _ => [(0, .sl (bytesV l) nl t), (1, .int .u8 c)]) (fun _ s => s.1) (fun i _ => ∀ j (h : j < l.length), j < i → decide (c = (l[j].toNat : Int)) = false) ⟨G, rfl⟩ (by omega) ?_ (fun _ _ h => h) (fun j _ h => absurd h (by omega)) rfl (fun _ _ => rfl) ?_ ?_ (by decide)
  · simp only [go_sem, reduceIte, Nat.reduceEqDiff, Nat.reduceAdd, Nat.reduceMul, Nat.reduceSub, Nat.reduceLeDiff, Nat.reduceLT, reduceCtorEq, Int.natCast_zero]
  · intro i ⟨H, hH⟩ hi he
    subst hH
    refine aw_sr rfl ?_
    simp only [go_sem, reduceIte, Nat.reduceEqDiff, Nat.reduceAdd, Nat.reduceMul, Nat.reduceSub, Nat.reduceLeDiff, Nat.reduceLT, reduceCtorEq]
    refine aw_sr rfl ?_
    simp only [go_sem, reduceIte, Nat.reduceEqDiff, Nat.reduceAdd, Nat.reduceMul, Nat.reduceSub, Nat.reduceLeDiff, Nat.reduceLT, reduceCtorEq, getD_bytes hi]
    refine ⟨⟨by omega, by omega, wid_bytes _⟩, ?_⟩
    refine aw_if rfl (fun h => ?_) (fun h => ?_)
    · refine aw_sr rfl ?_
      simp only [go_sem, reduceIte, Nat.reduceEqDiff, Nat.reduceAdd, Nat.reduceMul, Nat.reduceSub, Nat.reduceLeDiff, Nat.reduceLT, reduceCtorEq]
      refine aw_ret ⟨trivial, _, rfl, ?_, rfl⟩
      have e : l.findIdx (fun b => decide (c = (b.toNat : Int))) = i := (List.findIdx_eq hi).2 ⟨h, fun j hj => he j (by omega) hj⟩
      have ha : l.any (fun b => decide (c = (b.toNat : Int))) = true := List.any_eq_true.2 ⟨_, List.getElem_mem hi, h⟩
      rw [if_pos ha, e]
      rfl
    · refine aw_skip ⟨⟨H, rfl⟩, fun j hj hlt => ?_, ?_, fun _ _ h => h⟩
      · by_cases e : j = i
        · subst e; exact h
        · exact he j hj (by omega)
      simp only [go_sem, reduceIte, Nat.reduceEqDiff, Nat.reduceAdd, Nat.reduceMul, Nat.reduceSub, Nat.reduceLeDiff, Nat.reduceLT, reduceCtorEq]
  · intro ⟨H, hH⟩ he
    subst hH
    refine hK5 _ _ ?_
    refine aw_sr rfl ?_
    simp only [go_sem, reduceIte, Nat.reduceEqDiff, Nat.reduceAdd, Nat.reduceMul, Nat.reduceSub, Nat.reduceLeDiff, Nat.reduceLT, reduceCtorEq]
    refine aw_ret ⟨trivial, _, rfl, ?_, rfl⟩
    have ha : ¬ l.any (fun b => decide (c = (b.toNat : Int))) = true := by
      rw [Bool.not_eq_true, List.any_eq_false]
      intro x hx
      obtain ⟨j, hj, rfl⟩ := List.getElem_of_mem hx
      rw [he j hj hj]; simp
    rw [if_neg ha]
    rfl
theorem q_ContainsB (l : List UInt8) (nl : Bool) (t : Tag) (c : Int) (hl : l.length ≤ 1048576) : Quiet Try.prog 109 [.sl (bytesV l) nl t, .int .u8 c] (.bool (l.any fun b => decide (c = (b.toNat : Int)))) := by
  obtain ⟨n, hn, hq⟩ := q_IndexB l nl t c hl
  intro G
  refine acall_body (rs := [.tmp 4]) Try.func109 rfl rfl Try.ntmps109 (by kernel_rfl) (Nat.le_of_ble_eq_true rfl) ?_
  refine aw_sr rfl ?_
  simp only [go_sem, reduceIte, Nat.reduceEqDiff, Nat.reduceAdd, Nat.reduceMul, Nat.reduceSub, Nat.reduceLeDiff, Nat.reduceLT, reduceCtorEq]
  refine aw_sr rfl ?_
  simp only [go_sem, reduceIte, Nat.reduceEqDiff, Nat.reduceAdd, Nat.reduceMul, Nat.reduceSub, Nat.reduceLeDiff, Nat.reduceLT, reduceCtorEq]
  refine goA_q hq ?_
  simp only [go_sem, reduceIte, Nat.reduceEqDiff, Nat.reduceAdd, Nat.reduceMul, Nat.reduceSub, Nat.reduceLeDiff, Nat.reduceLT, reduceCtorEq]
  refine aw_ret ⟨trivial, _, rfl, ?_, rfl⟩
  have e : decide (n ≥ 0) = l.any fun b => decide (c = (b.toNat : Int)) := by
    rw [Bool.eq_iff_iff, decide_eq_true_eq]; exact hn
  rw [← e]
  rfl
/-! ### what holds of all nodes -/
mutual
def allV (p : Val → Nat → Bool) : Val → Nat → Bool | .mk k n t ar nl, d => p (.mk k n t ar nl) d && allVs p ar (d + 1)
def allVs (p : Val → Nat → Bool) : List Val → Nat → Bool | [], _ => true | v :: vs, d => allV p v d && allVs p vs d
end
abbrev At := Val × Nat
def kids (x : At) : List At := x.1.args.map fun a => (a, x.2 + 1)
theorem allVs_kids (p : Val → Nat → Bool) : ∀ (l : List Val) (d : Nat), allVs p l d = (l.map fun a => (a, d)).all fun x => allV p x.1 x.2
  | [], _ => rfl
  | v :: l, d => by rw [allVs, allVs_kids p l d]; rfl
theorem allV_eq (p : Val → Nat → Bool) (x : At) : allV p x.1 x.2 = (p x.1 x.2 && (kids x).all fun y => allV p y.1 y.2) := by
  obtain ⟨v, d⟩ := x
  cases v
  rw [allV, allVs_kids]
  rfl
def lim (N a b : Nat) : Bool := !((decide (N > 400) || decide (a > 40)) || decide (b > 4000))
theorem lim_iff (N a b : Nat) : lim N a b = true ↔ N ≤ 400 ∧ a ≤ 40 ∧ b ≤ 4000 := by
  simp only [lim, Bool.not_eq_true', Bool.or_eq_false_iff, decide_eq_false_iff_not, Nat.not_lt, gt_iff_lt, and_assoc]
mutual
theorem all_large (N : Nat) : ∀ (v : Val) (d : Nat), allV (fun x d => lim N d x.text.length) v d = true ↔ lim N (d + v.deep - 1) v.long = true
  | .mk k n t ar nl, d => by
    have ih := alls_large N ar (d + 1)
    rw [allV, Bool.and_eq_true, ih, Val.deep, Val.long]
    rw [lim_iff, lim_iff]
    show (N ≤ 400 ∧ d ≤ 40 ∧ t.length ≤ 4000) ∧ _ ↔ _
    rw [lim_iff]
    cases ar with
    | nil => simp only [deeps, longs, true_or, and_true, Nat.max_le]; omega
    | cons a ar =>
      have : ¬ (a :: ar = []) := by simp
      simp only [this, false_or, Nat.max_le]
      have h1 : 1 ≤ deeps (a :: ar) := by rw [deeps, deep_eq]; omega
      omega
theorem alls_large (N : Nat) : ∀ (l : List Val) (d : Nat), allVs (fun x d => lim N d x.text.length) l d = true ↔ (l = [] ∨ lim N (d + deeps l - 1) (longs l) = true)
  | [], d => by simp [allVs]
  | v :: l, d => by
    have ih := alls_large N l d
    have ih1 := all_large N v d
    rw [allVs, Bool.and_eq_true, ih1, ih]
    have : ¬ (v :: l = []) := by simp
    simp only [this, false_or, deeps, longs]
    have h1 : 1 ≤ v.deep := by rw [deep_eq]; omega
    rw [lim_iff, lim_iff]
    cases l with
    | nil => simp only [deeps, longs, true_or, and_true, Nat.max_zero]; exact (lim_iff _ _ _).symm
    | cons u l =>
      have : ¬ (u :: l = []) := by simp
      simp only [this, false_or]
      rw [lim_iff, Nat.max_le]
      have h2 : 1 ≤ deeps (u :: l) := by rw [deeps, deep_eq]; omega
      omega
end
mutual
theorem all_node : ∀ (v : Val) (d : Nat), allV (fun x _ => nodeV x) v d = rightV v
  | .mk k n t ar nl, d => by rw [allV, rightV, alls_node ar]
theorem alls_node : ∀ (l : List Val) (d : Nat), allVs (fun x _ => nodeV x) l d = rightVs l
  | [], _ => rfl
  | v :: l, d => by rw [allVs, rightVs, all_node v, alls_node l]
end
end Go.Proofs.Ytomjghlaoncpbaa
