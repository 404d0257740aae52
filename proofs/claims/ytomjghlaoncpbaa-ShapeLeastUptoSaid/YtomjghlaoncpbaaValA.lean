import Derived.Test.YtomjghlaoncpbaaVal
import Derived.Test.YtomjghlaoncpbaaSolveC
set_option linter.unusedSimpArgs false
set_option linter.unusedVariables false
namespace Go.Proofs.Ytomjghlaoncpbaa
open Go.Proofs.YtomjghlaoncpbaaV
set_option maxHeartbeats 400000
set_option maxRecDepth 100000
abbrev cV (v : Val) : List V := [.int .i64 v.kind, .int .i64 v.num, .str v.text, .sl (v.args.map eVal) v.nl .no]
theorem eC (v : Val) : eVal v = cV v := eVal_eq v
theorem q_EqualFuncV (F : FuncId) (us ws : List V) (f : Val → Val → Bool) (xs ys : List Val) (n1 n2 : Bool) (t1 t2 : Tag) (hx : (xs.length : Int) ≤ 9223372036854775807)
    (hF : ∀ a ∈ xs, ∀ b ∈ ys, Quiet Try.prog F (us ++ [.agg (cV a), .agg (cV b)] ++ ws) (.bool (f a b))) :
    Quiet Try.prog 37 [.sl (xs.map eVal) n1 t1, .sl (ys.map eVal) n2 t2, .func (.func F) us ws] (.bool (eqF f xs ys)) := by
  refine Quiet.weak fun G => ?_
  refine acall_body (rs := [.tmp 6]) Try.func37 rfl rfl Try.ntmps37 (by kernel_rfl) (Nat.le_of_ble_eq_true rfl) ?_
  refine aw_sr rfl ?_
  simp only [go_sem, reduceIte, Nat.reduceEqDiff, Nat.reduceAdd, Nat.reduceMul, Nat.reduceSub, Nat.reduceLeDiff, Nat.reduceLT, reduceCtorEq]
  refine aw_seq fun K1 hK1 => ?_
  refine aw_sr rfl ?_
  simp only [go_sem, reduceIte, Nat.reduceEqDiff, Nat.reduceAdd, Nat.reduceMul, Nat.reduceSub, Nat.reduceLeDiff, Nat.reduceLT, reduceCtorEq]
  refine aw_if rfl (fun h => ?_) (fun h => ?_)
  · refine aw_sr rfl ?_
    simp only [go_sem, reduceIte, Nat.reduceEqDiff, Nat.reduceAdd, Nat.reduceMul, Nat.reduceSub, Nat.reduceLeDiff, Nat.reduceLT, reduceCtorEq]
    refine aw_ret ⟨trivial, _, rfl, ?_, fun _ _ h => h⟩
    have h : ¬ xs.length = ys.length := by simpa [Int.natCast_inj] using h
    rw [eqF, decide_eq_false h]
    exact Vle.refl _
  · refine aw_skip (hK1 _ _ ?_)
    have hl : xs.length = ys.length := by simpa [Int.natCast_inj] using h
    refine aw_seq fun K2 hK2 => ?_
    refine aw_sr rfl ?_
    simp only [go_sem, reduceIte, Nat.reduceEqDiff, Nat.reduceAdd, Nat.reduceMul, Nat.reduceSub, Nat.reduceLeDiff, Nat.reduceLT, reduceCtorEq]
    refine aw_range xs.length (S := Unit) (fun _ _ => [(15, .sl (xs.map eVal) n1 t1), (1, .sl (ys.map eVal) n2 t2), (2, .func (.func F) us ws)]) (fun _ _ => G) (fun i _ => ((xs.take i).zip (ys.take i)).all (fun p => f p.1 p.2) = true) () hx ?_ (fun _ _ h => h) rfl rfl (fun _ _ => rfl) ?_ ?_ (by decide)
    · simp only [go_sem, reduceIte, Nat.reduceEqDiff, Nat.reduceAdd, Nat.reduceMul, Nat.reduceSub, Nat.reduceLeDiff, Nat.reduceLT, reduceCtorEq, Int.natCast_zero]
    · intro i _ hi he
      have hi2 : i < ys.length := hl ▸ hi
      refine aw_sr rfl ?_
      simp only [go_sem, reduceIte, Nat.reduceEqDiff, Nat.reduceAdd, Nat.reduceMul, Nat.reduceSub, Nat.reduceLeDiff, Nat.reduceLT, reduceCtorEq, getD_map hi, getD_map hi2, eC, cV]
      refine ⟨⟨by omega, by omega, wid_map (g := eVal) (fun _ => by simp [eC, cV]) _⟩, fun b hb => ?_⟩
      refine aw_sr rfl ?_
      simp only [go_sem, reduceIte, Nat.reduceEqDiff, Nat.reduceAdd, Nat.reduceMul, Nat.reduceSub, Nat.reduceLeDiff, Nat.reduceLT, reduceCtorEq, getD_map hi, getD_map hi2, eC, cV]
      refine ⟨⟨by omega, by omega, wid_map (g := eVal) (fun _ => by simp [eC, cV]) _⟩, fun b2 hb2 => ?_⟩
      have hne : ¬ b2 = b := by intro e; subst e; rw [hget_cons, if_pos rfl] at hb2; cases hb2
      refine aw_sr rfl ?_
      simp only [go_sem, reduceIte, Nat.reduceEqDiff, Nat.reduceAdd, Nat.reduceMul, Nat.reduceSub, Nat.reduceLeDiff, Nat.reduceLT, reduceCtorEq, hget_cons, hne]
      have hq := hF _ (List.getElem_mem hi) _ (List.getElem_mem hi2)
      refine goA_q hq ?_
      simp only [go_sem, reduceIte, Nat.reduceEqDiff, Nat.reduceAdd, Nat.reduceMul, Nat.reduceSub, Nat.reduceLeDiff, Nat.reduceLT, reduceCtorEq]
      refine aw_if rfl (fun h => ?_) (fun h => ?_)
      · refine aw_sr rfl ?_
        simp only [go_sem, reduceIte, Nat.reduceEqDiff, Nat.reduceAdd, Nat.reduceMul, Nat.reduceSub, Nat.reduceLeDiff, Nat.reduceLT, reduceCtorEq]
        refine aw_ret ⟨trivial, _, rfl, ?_, fun b' o' h => hsub_cons hb2 _ _ (hsub_cons hb _ _ h)⟩
        rw [eqF, all_zip_not (q := fun p => f p.1 p.2) hi hi2 (by simpa using h), Bool.and_false]
        exact Vle.refl _
      · refine aw_skip ⟨(), all_zip_next (q := fun p => f p.1 p.2) he hi hi2 (by simpa using h), ?_, fun b' o' h => hsub_cons hb2 _ _ (hsub_cons hb _ _ h)⟩
        simp only [go_sem, reduceIte, Nat.reduceEqDiff, Nat.reduceAdd, Nat.reduceMul, Nat.reduceSub, Nat.reduceLeDiff, Nat.reduceLT, reduceCtorEq]
    · intro _ he
      refine hK2 _ _ ?_
      refine aw_sr rfl ?_
      simp only [go_sem, reduceIte, Nat.reduceEqDiff, Nat.reduceAdd, Nat.reduceMul, Nat.reduceSub, Nat.reduceLeDiff, Nat.reduceLT, reduceCtorEq]
      refine aw_ret ⟨trivial, _, rfl, ?_, fun _ _ h => h⟩
      rw [eqF, decide_eq_true hl, Bool.true_and]
      rw [List.take_length, hl, List.take_length] at he
      rw [he]
      exact Vle.refl _
theorem q_sameValue0 : ∀ (n : Nat) (a b : Val), a.sz ≤ n → OkVal a → Quiet Try.prog 38 [.agg (cV a), .agg (cV b)] (.bool (sameV a b)) := by
  intro n
  induction n with
  | zero => intro a b h; have := a.sz_eq; omega
  | succ n ih =>
    intro a b h ho
    have hq : Quiet Try.prog 37 [.sl (a.args.map eVal) a.nl .no, .sl (b.args.map eVal) b.nl .no, .func (.func 38) [] []] (.bool (eqF sameV a.args b.args)) :=
      q_EqualFuncV _ [] [] sameV a.args b.args _ _ _ _ (le_bulk ho.len) fun x hx y hy => ih x y (by have := Val.sz_args hx; omega) (ho.arg hx)
    refine Quiet.weak fun G => ?_
    refine acall_body (rs := [.tmp 4]) Try.func38 rfl rfl Try.ntmps38 (by kernel_rfl) (Nat.le_of_ble_eq_true rfl) ?_
    refine aw_sr rfl ?_
    simp only [go_sem, reduceIte, Nat.reduceEqDiff, Nat.reduceAdd, Nat.reduceMul, Nat.reduceSub, Nat.reduceLeDiff, Nat.reduceLT, reduceCtorEq]
    intro b1 hb b2 hb2
    have hne : ¬ b2 = b1 := by intro e; subst e; rw [hget_cons, if_pos rfl] at hb2; cases hb2
    refine aw_sr rfl ?_
    simp only [go_sem, reduceIte, Nat.reduceEqDiff, Nat.reduceAdd, Nat.reduceMul, Nat.reduceSub, Nat.reduceLeDiff, Nat.reduceLT, reduceCtorEq, hget_cons, hne]
    refine goH_q (fun hg => hq) ?_
    simp only [go_sem, reduceIte, Nat.reduceEqDiff, Nat.reduceAdd, Nat.reduceMul, Nat.reduceSub, Nat.reduceLeDiff, Nat.reduceLT, reduceCtorEq]
    refine aw_ret ⟨trivial, _, rfl, ?_, fun b' o' h => hsub_cons hb2 _ _ (hsub_cons hb _ _ h)⟩
    rw [sameV_eq]
    exact Vle.refl _
theorem q_sameValue (a b : Val) (h : OkVal a) : Quiet Try.prog 38 [.agg (cV a), .agg (cV b)] (.bool (sameV a b)) := q_sameValue0 _ a b (Nat.le_refl _) h
theorem q_sameValues (xs ys : List Val) (n1 n2 : Bool) (t1 t2 : Tag) (hx : (xs.length : Int) ≤ 9223372036854775807) (ho : ∀ a ∈ xs, OkVal a) :
    Quiet Try.prog 37 [.sl (xs.map eVal) n1 t1, .sl (ys.map eVal) n2 t2, .func (.func 38) [] []] (.bool (eqF sameV xs ys)) :=
  q_EqualFuncV _ [] [] sameV xs ys _ _ _ _ hx fun x hx y hy => q_sameValue x y (ho x hx)
/-- An input: its kind, its value. -/
abbrev Inp := Int × Val
abbrev cIn (x : Inp) : List V := .int .i64 x.1 :: cV x.2
def eIn (x : Inp) : List V := cIn x
theorem q_EqualFuncI (F : FuncId) (us ws : List V) (f : Inp → Inp → Bool) (xs ys : List Inp) (n1 n2 : Bool) (t1 t2 : Tag) (hx : (xs.length : Int) ≤ 9223372036854775807)
    (hF : ∀ a ∈ xs, ∀ b ∈ ys, Quiet Try.prog F (us ++ [.agg (cIn a), .agg (cIn b)] ++ ws) (.bool (f a b))) :
    Quiet Try.prog 96 [.sl (xs.map eIn) n1 t1, .sl (ys.map eIn) n2 t2, .func (.func F) us ws] (.bool (eqF f xs ys)) := by
  refine Quiet.weak fun G => ?_
  refine acall_body (rs := [.tmp 6]) Try.func96 rfl rfl Try.ntmps96 (by kernel_rfl) (Nat.le_of_ble_eq_true rfl) ?_
  refine aw_sr rfl ?_
  simp only [go_sem, reduceIte, Nat.reduceEqDiff, Nat.reduceAdd, Nat.reduceMul, Nat.reduceSub, Nat.reduceLeDiff, Nat.reduceLT, reduceCtorEq]
  refine aw_seq fun K1 hK1 => ?_
  refine aw_sr rfl ?_
  simp only [go_sem, reduceIte, Nat.reduceEqDiff, Nat.reduceAdd, Nat.reduceMul, Nat.reduceSub, Nat.reduceLeDiff, Nat.reduceLT, reduceCtorEq]
  refine aw_if rfl (fun h => ?_) (fun h => ?_)
  · refine aw_sr rfl ?_
    simp only [go_sem, reduceIte, Nat.reduceEqDiff, Nat.reduceAdd, Nat.reduceMul, Nat.reduceSub, Nat.reduceLeDiff, Nat.reduceLT, reduceCtorEq]
    refine aw_ret ⟨trivial, _, rfl, ?_, fun _ _ h => h⟩
    have h : ¬ xs.length = ys.length := by simpa [Int.natCast_inj] using h
    rw [eqF, decide_eq_false h]
    exact Vle.refl _
  · refine aw_skip (hK1 _ _ ?_)
    have hl : xs.length = ys.length := by simpa [Int.natCast_inj] using h
    refine aw_seq fun K2 hK2 => ?_
    refine aw_sr rfl ?_
    simp only [go_sem, reduceIte, Nat.reduceEqDiff, Nat.reduceAdd, Nat.reduceMul, Nat.reduceSub, Nat.reduceLeDiff, Nat.reduceLT, reduceCtorEq]
    refine aw_range xs.length (S := Unit) (fun _ _ => [(15, .sl (xs.map eIn) n1 t1), (1, .sl (ys.map eIn) n2 t2), (2, .func (.func F) us ws)]) (fun _ _ => G) (fun i _ => ((xs.take i).zip (ys.take i)).all (fun p => f p.1 p.2) = true) () hx ?_ (fun _ _ h => h) rfl rfl (fun _ _ => rfl) ?_ ?_ (by decide)
    · simp only [go_sem, reduceIte, Nat.reduceEqDiff, Nat.reduceAdd, Nat.reduceMul, Nat.reduceSub, Nat.reduceLeDiff, Nat.reduceLT, reduceCtorEq, Int.natCast_zero]
    · intro i _ hi he
      have hi2 : i < ys.length := hl ▸ hi
      refine aw_sr rfl ?_
      simp only [go_sem, reduceIte, Nat.reduceEqDiff, Nat.reduceAdd, Nat.reduceMul, Nat.reduceSub, Nat.reduceLeDiff, Nat.reduceLT, reduceCtorEq, getD_map hi, getD_map hi2, eIn, cIn, cV]
      refine ⟨⟨by omega, by omega, wid_map (g := eIn) (fun _ => by simp [eIn, cIn, cV]) _⟩, fun b hb => ?_⟩
      refine aw_sr rfl ?_
      simp only [go_sem, reduceIte, Nat.reduceEqDiff, Nat.reduceAdd, Nat.reduceMul, Nat.reduceSub, Nat.reduceLeDiff, Nat.reduceLT, reduceCtorEq, getD_map hi, getD_map hi2, eIn, cIn, cV]
      refine ⟨⟨by omega, by omega, wid_map (g := eIn) (fun _ => by simp [eIn, cIn, cV]) _⟩, fun b2 hb2 => ?_⟩
      have hne : ¬ b2 = b := by intro e; subst e; rw [hget_cons, if_pos rfl] at hb2; cases hb2
      refine aw_sr rfl ?_
      simp only [go_sem, reduceIte, Nat.reduceEqDiff, Nat.reduceAdd, Nat.reduceMul, Nat.reduceSub, Nat.reduceLeDiff, Nat.reduceLT, reduceCtorEq, hget_cons, hne]
      have hq := hF _ (List.getElem_mem hi) _ (List.getElem_mem hi2)
      refine goA_q hq ?_
      simp only [go_sem, reduceIte, Nat.reduceEqDiff, Nat.reduceAdd, Nat.reduceMul, Nat.reduceSub, Nat.reduceLeDiff, Nat.reduceLT, reduceCtorEq]
      refine aw_if rfl (fun h => ?_) (fun h => ?_)
      · refine aw_sr rfl ?_
        simp only [go_sem, reduceIte, Nat.reduceEqDiff, Nat.reduceAdd, Nat.reduceMul, Nat.reduceSub, Nat.reduceLeDiff, Nat.reduceLT, reduceCtorEq]
        refine aw_ret ⟨trivial, _, rfl, ?_, fun b' o' h => hsub_cons hb2 _ _ (hsub_cons hb _ _ h)⟩
        rw [eqF, all_zip_not (q := fun p => f p.1 p.2) hi hi2 (by simpa using h), Bool.and_false]
        exact Vle.refl _
      · refine aw_skip ⟨(), all_zip_next (q := fun p => f p.1 p.2) he hi hi2 (by simpa using h), ?_, fun b' o' h => hsub_cons hb2 _ _ (hsub_cons hb _ _ h)⟩
        simp only [go_sem, reduceIte, Nat.reduceEqDiff, Nat.reduceAdd, Nat.reduceMul, Nat.reduceSub, Nat.reduceLeDiff, Nat.reduceLT, reduceCtorEq]
    · intro _ he
      refine hK2 _ _ ?_
      refine aw_sr rfl ?_
      simp only [go_sem, reduceIte, Nat.reduceEqDiff, Nat.reduceAdd, Nat.reduceMul, Nat.reduceSub, Nat.reduceLeDiff, Nat.reduceLT, reduceCtorEq]
      refine aw_ret ⟨trivial, _, rfl, ?_, fun _ _ h => h⟩
      rw [eqF, decide_eq_true hl, Bool.true_and]
      rw [List.take_length, hl, List.take_length] at he
      rw [he]
      exact Vle.refl _
def sameI (a b : Inp) : Bool := decide (a.1 = b.1) && sameV a.2 b.2
theorem q_sameInput (a b : Inp) (h : OkVal a.2) : Quiet Try.prog 97 [.agg (cIn a), .agg (cIn b)] (.bool (sameI a b)) := by
  refine Quiet.weak fun G => ?_
  refine acall_body (rs := [.tmp 4]) Try.func97 rfl rfl Try.ntmps97 (by kernel_rfl) (Nat.le_of_ble_eq_true rfl) ?_
  refine aw_sr rfl ?_
  simp only [go_sem, reduceIte, Nat.reduceEqDiff, Nat.reduceAdd, Nat.reduceMul, Nat.reduceSub, Nat.reduceLeDiff, Nat.reduceLT, reduceCtorEq]
  intro b1 hb b2 hb2
  have hne : ¬ b2 = b1 := by intro e; subst e; rw [hget_cons, if_pos rfl] at hb2; cases hb2
  refine aw_sr rfl ?_
  simp only [go_sem, reduceIte, Nat.reduceEqDiff, Nat.reduceAdd, Nat.reduceMul, Nat.reduceSub, Nat.reduceLeDiff, Nat.reduceLT, reduceCtorEq, hget_cons, hne]
  refine goH_q (fun hg => q_sameValue a.2 b.2 h) ?_
  simp only [go_sem, reduceIte, Nat.reduceEqDiff, Nat.reduceAdd, Nat.reduceMul, Nat.reduceSub, Nat.reduceLeDiff, Nat.reduceLT, reduceCtorEq]
  exact aw_ret ⟨trivial, _, rfl, Vle.refl _, fun b' o' h => hsub_cons hb2 _ _ (hsub_cons hb _ _ h)⟩
/-- What is saved: an actor, its state, its inputs. -/
abbrev Sav := List UInt8 × (List Val × Bool) × (List Inp × Bool)
abbrev cSav (s : Sav) : List V := [.str s.1, .sl (s.2.1.1.map eVal) s.2.1.2 .no, .sl (s.2.2.1.map eIn) s.2.2.2 .no]
def sameSav (a b : Sav) : Bool := decide (a.1 = b.1) && eqF sameV a.2.1.1 b.2.1.1 && eqF sameI a.2.2.1 b.2.2.1
theorem q_sameSaved (a b : Sav) (h1 : (a.2.1.1.length : Int) ≤ 9223372036854775807) (h2 : (a.2.2.1.length : Int) ≤ 9223372036854775807) (ho1 : ∀ x ∈ a.2.1.1, OkVal x) (ho2 : ∀ x ∈ a.2.2.1, OkVal x.2) :
    Quiet Try.prog 28 [.agg (cSav a), .agg (cSav b)] (.bool (sameSav a b)) := by
  have hq1 := q_sameValues a.2.1.1 b.2.1.1 a.2.1.2 b.2.1.2 .no .no h1 ho1
  have hq2 := q_EqualFuncI 97 [] [] sameI a.2.2.1 b.2.2.1 a.2.2.2 b.2.2.2 .no .no h2 fun x hx y hy => q_sameInput x y (ho2 x hx)
  refine Quiet.weak fun G => ?_
  refine acall_body (rs := [.tmp 4]) Try.func28 rfl rfl Try.ntmps28 (by kernel_rfl) (Nat.le_of_ble_eq_true rfl) ?_
  refine aw_sr rfl ?_
  simp only [go_sem, reduceIte, Nat.reduceEqDiff, Nat.reduceAdd, Nat.reduceMul, Nat.reduceSub, Nat.reduceLeDiff, Nat.reduceLT, reduceCtorEq]
  intro b1 hb b2 hb2
  have hne : ¬ b2 = b1 := by intro e; subst e; rw [hget_cons, if_pos rfl] at hb2; cases hb2
  refine aw_sr rfl ?_
  simp only [go_sem, reduceIte, Nat.reduceEqDiff, Nat.reduceAdd, Nat.reduceMul, Nat.reduceSub, Nat.reduceLeDiff, Nat.reduceLT, reduceCtorEq, hget_cons, hne]
  refine goH_q (fun hg => hq1) ?_
  simp only [go_sem, reduceIte, Nat.reduceEqDiff, Nat.reduceAdd, Nat.reduceMul, Nat.reduceSub, Nat.reduceLeDiff, Nat.reduceLT, reduceCtorEq, hget_cons, hne]
  refine goH_q (fun hg => hq2) ?_
  simp only [go_sem, reduceIte, Nat.reduceEqDiff, Nat.reduceAdd, Nat.reduceMul, Nat.reduceSub, Nat.reduceLeDiff, Nat.reduceLT, reduceCtorEq]
  exact aw_ret ⟨trivial, _, rfl, Vle.refl _, fun b' o' h => hsub_cons hb2 _ _ (hsub_cons hb _ _ h)⟩
end Go.Proofs.Ytomjghlaoncpbaa
