import Derived.Test.YtomjghlaoncpbaaPrgC
import Derived.Test.YtomjghlaoncpbaaValA
set_option linter.unusedSimpArgs false
set_option linter.unusedVariables false
namespace Go.Proofs.Ytomjghlaoncpbaa
open Go.Proofs.YtomjghlaoncpbaaV
set_option maxHeartbeats 400000
set_option maxRecDepth 100000
abbrev Dat := D175
abbrev Mak := D177
theorem q_IndexStr (xs : List (List UInt8)) (nl : Bool) (t : Tag) (s : List UInt8) (hx : (xs.length : Int) ≤ 9223372036854775807) :
    Quiet Try.prog 73 [.sl (xs.map eNm) nl t, .str s] (.int .i64 (ixI (xs.findIdx? fun x => decide (s = x)))) := by
  refine Quiet.weak fun G => ?_
  refine acall_body (rs := [.tmp 4]) Try.func73 rfl rfl Try.ntmps73 (by kernel_rfl) (Nat.le_of_ble_eq_true rfl) ?_
  refine aw_sr rfl ?_
  simp only [go_sem, reduceIte, Nat.reduceEqDiff, Nat.reduceAdd, Nat.reduceMul, Nat.reduceSub, Nat.reduceLeDiff, Nat.reduceLT, reduceCtorEq]
  refine aw_seq fun K1 hK1 => ?_
  refine aw_sr rfl ?_
  simp only [go_sem, reduceIte, Nat.reduceEqDiff, Nat.reduceAdd, Nat.reduceMul, Nat.reduceSub, Nat.reduceLeDiff, Nat.reduceLT, reduceCtorEq]
  refine aw_range xs.length (S := Unit) (fun _ _ => [(0, .sl (xs.map eNm) nl t), (1, .str s)]) (fun _ _ => G) (fun i _ => ∀ j (h : j < xs.length), j < i → decide (s = xs[j]) = false) () hx ?_ (fun _ _ h => h) (fun j _ h => absurd h (by omega)) rfl (fun _ _ => rfl) ?_ ?_ (by decide)
  · simp only [go_sem, reduceIte, Nat.reduceEqDiff, Nat.reduceAdd, Nat.reduceMul, Nat.reduceSub, Nat.reduceLeDiff, Nat.reduceLT, reduceCtorEq, Int.natCast_zero]
  · intro i _ hi he
    refine aw_sr rfl ?_
    simp only [go_sem, reduceIte, Nat.reduceEqDiff, Nat.reduceAdd, Nat.reduceMul, Nat.reduceSub, Nat.reduceLeDiff, Nat.reduceLT, reduceCtorEq]
    refine aw_sr rfl ?_
    simp only [go_sem, reduceIte, Nat.reduceEqDiff, Nat.reduceAdd, Nat.reduceMul, Nat.reduceSub, Nat.reduceLeDiff, Nat.reduceLT, reduceCtorEq, getD_map hi, eNm]
    refine ⟨⟨by omega, by omega, wid_map (g := eNm) (fun _ => rfl) _⟩, ?_⟩
    refine aw_if rfl (fun h => ?_) (fun h => ?_)
    · refine aw_sr rfl ?_
      simp only [go_sem, reduceIte, Nat.reduceEqDiff, Nat.reduceAdd, Nat.reduceMul, Nat.reduceSub, Nat.reduceLeDiff, Nat.reduceLT, reduceCtorEq]
      refine aw_ret ⟨trivial, _, rfl, ?_, fun _ _ h => h⟩
      rw [ixI_at hi h (fun j hj => he j (by omega) hj)]
      exact Vle.refl _
    · refine aw_skip ⟨(), fun j hj hlt => ?_, ?_, fun _ _ h => h⟩
      · by_cases e : j = i
        · subst e; exact h
        · exact he j hj (by omega)
      simp only [go_sem, reduceIte, Nat.reduceEqDiff, Nat.reduceAdd, Nat.reduceMul, Nat.reduceSub, Nat.reduceLeDiff, Nat.reduceLT, reduceCtorEq]
  · intro _ he
    refine hK1 _ _ ?_
    refine aw_sr rfl ?_
    simp only [go_sem, reduceIte, Nat.reduceEqDiff, Nat.reduceAdd, Nat.reduceMul, Nat.reduceSub, Nat.reduceLeDiff, Nat.reduceLT, reduceCtorEq]
    refine aw_ret ⟨trivial, _, rfl, ?_, fun _ _ h => h⟩
    rw [ixI_none (fun j hj => he j hj hj)]
    exact Vle.refl _
theorem q_IndexDat (H0 : Heap) (F : FuncId) (us ws : List V) (f : Dat → Bool) (xs : List Dat) (nl : Bool) (t : Tag) (hx : (xs.length : Int) ≤ 9223372036854775807)
    (hF : ∀ a ∈ xs, QuietOn Try.prog H0 F (us ++ [.agg (eData a)] ++ ws) (.bool (f a))) :
    QuietOn Try.prog H0 171 [.sl (xs.map eData) nl t, .func (.func F) us ws] (.int .i64 (ixI (xs.findIdx? f))) := by
  intro G hG
  refine acall_body (rs := [.tmp 4]) Try.func171 rfl rfl Try.ntmps171 (by kernel_rfl) (Nat.le_of_ble_eq_true rfl) ?_
  refine aw_sr rfl ?_
  simp only [go_sem, reduceIte, Nat.reduceEqDiff, Nat.reduceAdd, Nat.reduceMul, Nat.reduceSub, Nat.reduceLeDiff, Nat.reduceLT, reduceCtorEq]
  refine aw_seq fun K1 hK1 => ?_
  refine aw_sr rfl ?_
  simp only [go_sem, reduceIte, Nat.reduceEqDiff, Nat.reduceAdd, Nat.reduceMul, Nat.reduceSub, Nat.reduceLeDiff, Nat.reduceLT, reduceCtorEq]
  refine aw_range xs.length (S := {H : Heap // H = G}) (fun _ _ => [(0, .sl (xs.map eData) nl t), (1, .func (.func F) us ws)]) (fun _ s => s.1) (fun i _ => ∀ j (h : j < xs.length), j < i → f xs[j] = false) ⟨G, rfl⟩ hx ?_ (fun _ _ h => h) (fun j _ h => absurd h (by omega)) rfl (fun _ _ => rfl) ?_ ?_ (by decide)
  · simp only [go_sem, reduceIte, Nat.reduceEqDiff, Nat.reduceAdd, Nat.reduceMul, Nat.reduceSub, Nat.reduceLeDiff, Nat.reduceLT, reduceCtorEq, Int.natCast_zero]
  · intro i ⟨H, hH⟩ hi he
    subst hH
    refine aw_sr rfl ?_
    simp only [go_sem, reduceIte, Nat.reduceEqDiff, Nat.reduceAdd, Nat.reduceMul, Nat.reduceSub, Nat.reduceLeDiff, Nat.reduceLT, reduceCtorEq]
    refine aw_sr rfl ?_
    simp only [go_sem, reduceIte, Nat.reduceEqDiff, Nat.reduceAdd, Nat.reduceMul, Nat.reduceSub, Nat.reduceLeDiff, Nat.reduceLT, reduceCtorEq, getD_map hi, e175]
    refine ⟨⟨by omega, by omega, wid_map (g := eData) (fun _ => by simp [e175]) _⟩, ?_⟩
    have hq := hF _ (List.getElem_mem hi)
    refine goA_on hq hG ?_
    simp only [go_sem, reduceIte, Nat.reduceEqDiff, Nat.reduceAdd, Nat.reduceMul, Nat.reduceSub, Nat.reduceLeDiff, Nat.reduceLT, reduceCtorEq]
    refine aw_if rfl (fun h => ?_) (fun h => ?_)
    · refine aw_sr rfl ?_
      simp only [go_sem, reduceIte, Nat.reduceEqDiff, Nat.reduceAdd, Nat.reduceMul, Nat.reduceSub, Nat.reduceLeDiff, Nat.reduceLT, reduceCtorEq]
      refine aw_ret ⟨trivial, _, rfl, ?_, rfl⟩
      rw [ixI_at hi h (fun j hj => he j (by omega) hj)]
      rfl
    · refine aw_skip ⟨⟨H, rfl⟩, fun j hj hlt => ?_, ?_, fun _ _ h => h⟩
      · by_cases e : j = i
        · subst e; exact h
        · exact he j hj (by omega)
      simp only [go_sem, reduceIte, Nat.reduceEqDiff, Nat.reduceAdd, Nat.reduceMul, Nat.reduceSub, Nat.reduceLeDiff, Nat.reduceLT, reduceCtorEq]
  · intro ⟨H, hH⟩ he
    subst hH
    refine hK1 _ _ ?_
    refine aw_sr rfl ?_
    simp only [go_sem, reduceIte, Nat.reduceEqDiff, Nat.reduceAdd, Nat.reduceMul, Nat.reduceSub, Nat.reduceLeDiff, Nat.reduceLT, reduceCtorEq]
    refine aw_ret ⟨trivial, _, rfl, ?_, rfl⟩
    rw [ixI_none (fun j hj => he j hj hj)]
    rfl
theorem q_IndexMak (H0 : Heap) (F : FuncId) (us ws : List V) (f : Mak → Bool) (xs : List Mak) (nl : Bool) (t : Tag) (hx : (xs.length : Int) ≤ 9223372036854775807)
    (hF : ∀ a ∈ xs, QuietOn Try.prog H0 F (us ++ [.agg (eMake a)] ++ ws) (.bool (f a))) :
    QuietOn Try.prog H0 168 [.sl (xs.map eMake) nl t, .func (.func F) us ws] (.int .i64 (ixI (xs.findIdx? f))) := by
  intro G hG
  refine acall_body (rs := [.tmp 4]) Try.func168 rfl rfl Try.ntmps168 (by kernel_rfl) (Nat.le_of_ble_eq_true rfl) ?_
  refine aw_sr rfl ?_
  simp only [go_sem, reduceIte, Nat.reduceEqDiff, Nat.reduceAdd, Nat.reduceMul, Nat.reduceSub, Nat.reduceLeDiff, Nat.reduceLT, reduceCtorEq]
  refine aw_seq fun K1 hK1 => ?_
  refine aw_sr rfl ?_
  simp only [go_sem, reduceIte, Nat.reduceEqDiff, Nat.reduceAdd, Nat.reduceMul, Nat.reduceSub, Nat.reduceLeDiff, Nat.reduceLT, reduceCtorEq]
  refine aw_range xs.length (S := {H : Heap // H = G}) (fun _ _ => [(0, .sl (xs.map eMake) nl t), (1, .func (.func F) us ws)]) (fun _ s => s.1) (fun i _ => ∀ j (h : j < xs.length), j < i → f xs[j] = false) ⟨G, rfl⟩ hx ?_ (fun _ _ h => h) (fun j _ h => absurd h (by omega)) rfl (fun _ _ => rfl) ?_ ?_ (by decide)
  · simp only [go_sem, reduceIte, Nat.reduceEqDiff, Nat.reduceAdd, Nat.reduceMul, Nat.reduceSub, Nat.reduceLeDiff, Nat.reduceLT, reduceCtorEq, Int.natCast_zero]
  · intro i ⟨H, hH⟩ hi he
    subst hH
    refine aw_sr rfl ?_
    simp only [go_sem, reduceIte, Nat.reduceEqDiff, Nat.reduceAdd, Nat.reduceMul, Nat.reduceSub, Nat.reduceLeDiff, Nat.reduceLT, reduceCtorEq]
    refine aw_sr rfl ?_
    simp only [go_sem, reduceIte, Nat.reduceEqDiff, Nat.reduceAdd, Nat.reduceMul, Nat.reduceSub, Nat.reduceLeDiff, Nat.reduceLT, reduceCtorEq, getD_map hi, e177]
    refine ⟨⟨by omega, by omega, wid_map (g := eMake) (fun _ => by simp [e177]) _⟩, ?_⟩
    have hq := hF _ (List.getElem_mem hi)
    refine goA_on hq hG ?_
    simp only [go_sem, reduceIte, Nat.reduceEqDiff, Nat.reduceAdd, Nat.reduceMul, Nat.reduceSub, Nat.reduceLeDiff, Nat.reduceLT, reduceCtorEq]
    refine aw_if rfl (fun h => ?_) (fun h => ?_)
    · refine aw_sr rfl ?_
      simp only [go_sem, reduceIte, Nat.reduceEqDiff, Nat.reduceAdd, Nat.reduceMul, Nat.reduceSub, Nat.reduceLeDiff, Nat.reduceLT, reduceCtorEq]
      refine aw_ret ⟨trivial, _, rfl, ?_, rfl⟩
      rw [ixI_at hi h (fun j hj => he j (by omega) hj)]
      rfl
    · refine aw_skip ⟨⟨H, rfl⟩, fun j hj hlt => ?_, ?_, fun _ _ h => h⟩
      · by_cases e : j = i
        · subst e; exact h
        · exact he j hj (by omega)
      simp only [go_sem, reduceIte, Nat.reduceEqDiff, Nat.reduceAdd, Nat.reduceMul, Nat.reduceSub, Nat.reduceLeDiff, Nat.reduceLT, reduceCtorEq]
  · intro ⟨H, hH⟩ he
    subst hH
    refine hK1 _ _ ?_
    refine aw_sr rfl ?_
    simp only [go_sem, reduceIte, Nat.reduceEqDiff, Nat.reduceAdd, Nat.reduceMul, Nat.reduceSub, Nat.reduceLeDiff, Nat.reduceLT, reduceCtorEq]
    refine aw_ret ⟨trivial, _, rfl, ?_, rfl⟩
    rw [ixI_none (fun j hj => he j hj hj)]
    rfl
theorem q_data1 (d : Dat) (b : Nat) (s : List UInt8) : QuietOn Try.prog [(b, .vars [.str s])] 172 ([] ++ [.agg (eData d)] ++ [.ptr b 0]) (.bool (decide (d.1 = s))) := by
  refine QuietOn.weak fun G hG => ?_
  have hg : hget G b = some (.vars [.str s]) := hG _ _ (hget_self _ _ _)
  refine acall_body (rs := [.tmp 3]) Try.func172 rfl rfl Try.ntmps172 (by kernel_rfl) (Nat.le_of_ble_eq_true rfl) ?_
  refine aw_sr rfl ?_
  simp only [go_sem, reduceIte, Nat.reduceEqDiff, Nat.reduceAdd, Nat.reduceMul, Nat.reduceSub, Nat.reduceLeDiff, Nat.reduceLT, reduceCtorEq, e175]
  intro b2 hb
  have hne : ¬ b2 = b := by intro e; subst e; rw [hg] at hb; cases hb
  refine aw_sr rfl ?_
  simp only [go_sem, reduceIte, Nat.reduceEqDiff, Nat.reduceAdd, Nat.reduceMul, Nat.reduceSub, Nat.reduceLeDiff, Nat.reduceLT, reduceCtorEq, hne, hg]
  exact aw_ret ⟨trivial, _, rfl, Vle.refl _, hsub_at hb⟩
/-- A program's data of a name. -/
def dataF (p : Prgm) (s : List UInt8) : Option Dat := p.2.2.2.1.1.find? fun d => decide (d.1 = s)
def zDat : Dat := ([], ([], true), ([], true))
theorem dataF_ix (p : Prgm) (s : List UInt8) : (dataF p s = none ∧ p.2.2.2.1.1.findIdx? (fun d => decide (d.1 = s)) = none) ∨ ∃ i, ∃ h : i < p.2.2.2.1.1.length, dataF p s = some p.2.2.2.1.1[i] ∧ p.2.2.2.1.1.findIdx? (fun d => decide (d.1 = s)) = some i := by
  unfold dataF
  cases h : p.2.2.2.1.1.findIdx? (fun d => decide (d.1 = s)) with
  | none => exact .inl ⟨List.find?_eq_none.2 fun x hx => by rw [List.findIdx?_eq_none_iff.1 h x hx]; simp, rfl⟩
  | some i =>
    obtain ⟨hi, h1, h2⟩ := List.findIdx?_eq_some_iff_getElem.1 h
    exact .inr ⟨i, hi, List.find?_eq_some_iff_getElem.2 ⟨h1, i, hi, rfl, fun j hj => by simpa using h2 j hj⟩, rfl⟩
theorem q_data (p : Prgm) (s : List UInt8) (hp : p.2.2.2.1.1.length ≤ bulk) : Quiet Try.prog 150 [.agg (cPrg p), .str s] (.tup [.agg (eData ((dataF p s).getD zDat)), .bool (dataF p s).isSome]) := by
  have hp' : p.2.2.2.1.1.length ≤ 1048576 := hp
  refine Quiet.weak fun G => ?_
  refine acall_body (rs := [.cell 4 175, .tmp 5]) Try.func150 rfl rfl Try.ntmps150 (by kernel_rfl) (Nat.le_of_ble_eq_true rfl) ?_
  refine aw_sr rfl ?_
  simp only [go_sem, reduceIte, Nat.reduceEqDiff, Nat.reduceAdd, Nat.reduceMul, Nat.reduceSub, Nat.reduceLeDiff, Nat.reduceLT, reduceCtorEq, e62]
  intro b2 hb2 b3 hb3 b4 hb4
  obtain ⟨n43, hb4'⟩ := fresh_cons hb4
  obtain ⟨n42, hb4''⟩ := fresh_cons hb4'
  obtain ⟨n32, hb3'⟩ := fresh_cons hb3
  refine aw_sr rfl ?_
  simp only [go_sem, reduceIte, Nat.reduceEqDiff, Nat.reduceAdd, Nat.reduceMul, Nat.reduceSub, Nat.reduceLeDiff, Nat.reduceLT, reduceCtorEq, n43, n42, n32]
  refine goA_on (q_IndexDat [(b3, .vars [.str s])] 172 [] [.ptr b3 0] (fun d => decide (d.1 = s)) p.2.2.2.1.1 p.2.2.2.1.2 .no (le_bulk hp) fun d _ => q_data1 d b3 s) (sub_one (by rw [hget_cons_ne n43, hget_self])) ?_
  simp only [go_sem, reduceIte, Nat.reduceEqDiff, Nat.reduceAdd, Nat.reduceMul, Nat.reduceSub, Nat.reduceLeDiff, Nat.reduceLT, reduceCtorEq]
  refine aw_seq fun K1 hK1 => ?_
  refine aw_sr rfl ?_
  simp only [go_sem, reduceIte, Nat.reduceEqDiff, Nat.reduceAdd, Nat.reduceMul, Nat.reduceSub, Nat.reduceLeDiff, Nat.reduceLT, reduceCtorEq]
  have hs : Sub G ((b4, .vars [.str [], .sl [] true .full, .sl [] true .full]) :: (b3, .vars [.str s]) :: (b2, .vars (cPrg p)) :: G) := sub_fresh hb4'' (sub_fresh hb3' (sub_tail hb2))
  rcases dataF_ix p s with ⟨e1, e2⟩ | ⟨i, hi, e1, e2⟩
  · rw [e1, e2]
    refine aw_if rfl (fun h => ?_) (fun h => by simp [ixI] at h)
    refine aw_sr rfl ?_
    simp only [go_sem, reduceIte, Nat.reduceEqDiff, Nat.reduceAdd, Nat.reduceMul, Nat.reduceSub, Nat.reduceLeDiff, Nat.reduceLT, reduceCtorEq]
    refine aw_ret ⟨trivial, [.agg [.str [], .sl [] true .full, .sl [] true .full], .bool false], ?_, ?_, sub_fresh hb4'' (sub_fresh hb3' (sub_tail hb2))⟩
    · simp only [go_sem, reduceIte, Nat.reduceEqDiff, Nat.reduceAdd, Nat.reduceMul, Nat.reduceSub, Nat.reduceLeDiff, Nat.reduceLT, reduceCtorEq, resL, resOf]
    · exact Vle.tupL (.cons (Vle.aggL (.cons (Vle.refl _) (.cons Vle.untag (.cons Vle.untag .nil)))) (.cons (Vle.refl _) .nil))
  · rw [e1, e2]
    have hneg : decide ((ixI (some i) : Int) < 0) = false := decide_eq_false (by simp only [ixI]; omega)
    rw [hneg]
    refine aw_if rfl (fun h => by cases h) (fun h => ?_)
    refine aw_skip (hK1 _ _ ?_)
    refine aw_sr rfl ?_
    simp only [go_sem, reduceIte, Nat.reduceEqDiff, Nat.reduceAdd, Nat.reduceMul, Nat.reduceSub, Nat.reduceLeDiff, Nat.reduceLT, reduceCtorEq, ixI, getD_map hi, n43, n42, n32, e175]
    refine ⟨⟨by omega, by omega, wid_map (g := eData) (fun _ => rfl) _⟩, ?_⟩
    refine aw_ret ⟨trivial, [.agg (eData p.2.2.2.1.1[i]), .bool true], ?_, ?_, sub_fresh hb4'' (sub_fresh hb3' (sub_tail hb2))⟩
    · simp only [go_sem, reduceIte, Nat.reduceEqDiff, Nat.reduceAdd, Nat.reduceMul, Nat.reduceSub, Nat.reduceLeDiff, Nat.reduceLT, reduceCtorEq, resL, resOf, e175]
    · rw [e1]; exact Vle.refl _
/-- The reference's place of a data. -/
theorem q_dataOf (p : Prgm) (s : List UInt8) (hp : p.2.2.2.1.1.length ≤ bulk) : Quiet Try.prog 121 [.agg (cPrg p), .str s] (.int .i64 (ixI (p.2.2.2.1.1.findIdx? fun d => decide (d.1 = s)))) := by
  have hp' : p.2.2.2.1.1.length ≤ 1048576 := hp
  refine Quiet.weak fun G => ?_
  refine acall_body (rs := [.tmp 4]) Try.func121 rfl rfl Try.ntmps121 (by kernel_rfl) (Nat.le_of_ble_eq_true rfl) ?_
  refine aw_sr rfl ?_
  simp only [go_sem, reduceIte, Nat.reduceEqDiff, Nat.reduceAdd, Nat.reduceMul, Nat.reduceSub, Nat.reduceLeDiff, Nat.reduceLT, reduceCtorEq, e62]
  intro b2 hb2
  refine aw_seq fun K1 hK1 => ?_
  refine aw_sr rfl ?_
  simp only [go_sem, reduceIte, Nat.reduceEqDiff, Nat.reduceAdd, Nat.reduceMul, Nat.reduceSub, Nat.reduceLeDiff, Nat.reduceLT, reduceCtorEq]
  refine aw_range p.2.2.2.1.1.length (S := Unit) (fun _ _ => [(8, .sl (p.2.2.2.1.1.map eData) p.2.2.2.1.2 .no), (1, .str s)]) (fun _ _ => G) (fun i _ => ∀ j (h : j < p.2.2.2.1.1.length), j < i → decide (p.2.2.2.1.1[j].1 = s) = false) () (by omega) ?_ (sub_tail hb2) (fun j _ h => absurd h (by omega)) rfl (fun _ _ => rfl) ?_ ?_ (by decide)
  · simp only [go_sem, reduceIte, Nat.reduceEqDiff, Nat.reduceAdd, Nat.reduceMul, Nat.reduceSub, Nat.reduceLeDiff, Nat.reduceLT, reduceCtorEq, Int.natCast_zero]
  · intro i _ hi he
    refine aw_sr rfl ?_
    simp only [go_sem, reduceIte, Nat.reduceEqDiff, Nat.reduceAdd, Nat.reduceMul, Nat.reduceSub, Nat.reduceLeDiff, Nat.reduceLT, reduceCtorEq, getD_map hi, e175]
    refine ⟨⟨by omega, by omega, wid_map (g := eData) (fun _ => rfl) _⟩, fun b6 hb6 => ?_⟩
    refine aw_sr rfl ?_
    simp only [go_sem, reduceIte, Nat.reduceEqDiff, Nat.reduceAdd, Nat.reduceMul, Nat.reduceSub, Nat.reduceLeDiff, Nat.reduceLT, reduceCtorEq]
    refine aw_if rfl (fun h => ?_) (fun h => ?_)
    · refine aw_sr rfl ?_
      simp only [go_sem, reduceIte, Nat.reduceEqDiff, Nat.reduceAdd, Nat.reduceMul, Nat.reduceSub, Nat.reduceLeDiff, Nat.reduceLT, reduceCtorEq]
      refine aw_ret ⟨trivial, _, rfl, ?_, sub_tail hb6⟩
      rw [ixI_at hi h (fun j hj => he j (by omega) hj)]
      exact Vle.refl _
    · refine aw_skip ⟨(), fun j hj hlt => ?_, ?_, sub_tail hb6⟩
      · by_cases e : j = i
        · subst e; exact h
        · exact he j hj (by omega)
      simp only [go_sem, reduceIte, Nat.reduceEqDiff, Nat.reduceAdd, Nat.reduceMul, Nat.reduceSub, Nat.reduceLeDiff, Nat.reduceLT, reduceCtorEq]
  · intro _ he
    refine hK1 _ _ ?_
    refine aw_sr rfl ?_
    simp only [go_sem, reduceIte, Nat.reduceEqDiff, Nat.reduceAdd, Nat.reduceMul, Nat.reduceSub, Nat.reduceLeDiff, Nat.reduceLT, reduceCtorEq]
    refine aw_ret ⟨trivial, _, rfl, ?_, fun _ _ h => h⟩
    rw [ixI_none (fun j hj => he j hj hj)]
    exact Vle.refl _
theorem q_parts1 (m : Mak) (b : Nat) (s : List UInt8) : QuietOn Try.prog [(b, .vars [.str s])] 169 ([] ++ [.agg (eMake m)] ++ [.ptr b 0]) (.bool (decide (m.1 = s))) := by
  refine QuietOn.weak fun G hG => ?_
  have hg : hget G b = some (.vars [.str s]) := hG _ _ (hget_self _ _ _)
  refine acall_body (rs := [.tmp 3]) Try.func169 rfl rfl Try.ntmps169 (by kernel_rfl) (Nat.le_of_ble_eq_true rfl) ?_
  refine aw_sr rfl ?_
  simp only [go_sem, reduceIte, Nat.reduceEqDiff, Nat.reduceAdd, Nat.reduceMul, Nat.reduceSub, Nat.reduceLeDiff, Nat.reduceLT, reduceCtorEq, e177]
  intro b2 hb
  have hne : ¬ b2 = b := by intro e; subst e; rw [hg] at hb; cases hb
  refine aw_sr rfl ?_
  simp only [go_sem, reduceIte, Nat.reduceEqDiff, Nat.reduceAdd, Nat.reduceMul, Nat.reduceSub, Nat.reduceLeDiff, Nat.reduceLT, reduceCtorEq, hne, hg]
  exact aw_ret ⟨trivial, _, rfl, Vle.refl _, hsub_at hb⟩
end Go.Proofs.Ytomjghlaoncpbaa
