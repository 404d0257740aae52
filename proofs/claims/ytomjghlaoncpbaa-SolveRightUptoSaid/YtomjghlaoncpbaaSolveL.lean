import Derived.Test.YtomjghlaoncpbaaSolveI
import Derived.Test.YtomjghlaoncpbaaValD
set_option linter.unusedSimpArgs false
set_option linter.unusedVariables false
namespace Go.Proofs.Ytomjghlaoncpbaa
open Go.Proofs.YtomjghlaoncpbaaV
set_option maxHeartbeats 400000
set_option maxRecDepth 100000
/-- A version that is picked. -/
abbrev Pk := List UInt8 × Int
abbrev cPk (p : Pk) : List V := [.str p.1, .int .i64 p.2]
def ePk (p : Pk) : List V := cPk p
abbrev aPk (p : Pk) : V := .agg (cPk p)
abbrev aMo (m : Mo) : V := .agg (eMo m)
theorem q_IndexFuncP (H0 : Heap) (F : FuncId) (us ws : List V) (f : Pk → Bool) (xs : List Pk) (nl : Bool) (t : Tag) (hx : (xs.length : Int) ≤ 9223372036854775807)
    (hF : ∀ a ∈ xs, QuietOn Try.prog H0 F (us ++ [aPk a] ++ ws) (.bool (f a))) :
    QuietOn Try.prog H0 128 [.sl (xs.map ePk) nl t, .func (.func F) us ws] (.int .i64 (idxF f xs)) := by
  intro G hG
  refine acall_body (rs := [.tmp 4]) Try.func128 rfl rfl Try.ntmps128 (by kernel_rfl) (Nat.le_of_ble_eq_true rfl) ?_
  refine aw_sr rfl ?_
  simp only [go_sem, reduceIte, Nat.reduceEqDiff, Nat.reduceAdd, Nat.reduceMul, Nat.reduceSub, Nat.reduceLeDiff, Nat.reduceLT, reduceCtorEq]
  refine aw_seq fun K1 hK1 => ?_
  refine aw_sr rfl ?_
  simp only [go_sem, reduceIte, Nat.reduceEqDiff, Nat.reduceAdd, Nat.reduceMul, Nat.reduceSub, Nat.reduceLeDiff, Nat.reduceLT, reduceCtorEq]
  refine aw_range xs.length (S := {H : Heap // H = G}) (fun _ _ => [(0, .sl (xs.map ePk) nl t), (1, .func (.func F) us ws)]) (fun _ s => s.1) (fun i _ => ∀ j (h : j < xs.length), j < i → f xs[j] = false) ⟨G, rfl⟩ hx ?_ (fun _ _ h => h) (fun j _ h => absurd h (by omega)) rfl (fun _ _ => rfl) ?_ ?_ (by decide)
  · simp only [go_sem, reduceIte, Nat.reduceEqDiff, Nat.reduceAdd, Nat.reduceMul, Nat.reduceSub, Nat.reduceLeDiff, Nat.reduceLT, reduceCtorEq, Int.natCast_zero]
  · intro i ⟨H, hH⟩ hi he
    subst hH
    refine aw_sr rfl ?_
    simp only [go_sem, reduceIte, Nat.reduceEqDiff, Nat.reduceAdd, Nat.reduceMul, Nat.reduceSub, Nat.reduceLeDiff, Nat.reduceLT, reduceCtorEq]
    refine aw_sr rfl ?_
    simp only [go_sem, reduceIte, Nat.reduceEqDiff, Nat.reduceAdd, Nat.reduceMul, Nat.reduceSub, Nat.reduceLeDiff, Nat.reduceLT, reduceCtorEq, getD_map hi, ePk, cPk]
    refine ⟨⟨by omega, by omega, wid_map (g := ePk) (fun _ => by simp [ePk, cPk]) _⟩, ?_⟩
    have hq := hF _ (List.getElem_mem hi)
    refine goA_on hq hG ?_
    simp only [go_sem, reduceIte, Nat.reduceEqDiff, Nat.reduceAdd, Nat.reduceMul, Nat.reduceSub, Nat.reduceLeDiff, Nat.reduceLT, reduceCtorEq]
    refine aw_if rfl (fun h => ?_) (fun h => ?_)
    · refine aw_sr rfl ?_
      simp only [go_sem, reduceIte, Nat.reduceEqDiff, Nat.reduceAdd, Nat.reduceMul, Nat.reduceSub, Nat.reduceLeDiff, Nat.reduceLT, reduceCtorEq]
      refine aw_ret ⟨trivial, _, rfl, ?_, rfl⟩
      rw [idxF_at hi h (fun j hj => he j (by omega) hj)]
      rfl
    · refine aw_skip ⟨⟨H, rfl⟩, fun j hj hlt => ?_, ?_, fun _ _ h => h⟩
      · by_cases e : j = i
        · subst e; exact h
        · exact he j hj (by omega)
      simp only [go_sem, reduceIte, Nat.reduceEqDiff, Nat.reduceAdd, Nat.reduceMul, Nat.reduceSub, Nat.reduceLeDiff, Nat.reduceLT, reduceCtorEq]
  · intro ⟨H, hH⟩ he
    subst hH
    refine hK1 _ _ ?_
    refine aw_sr rfl ?_
    simp only [go_sem, reduceIte, Nat.reduceEqDiff, Nat.reduceAdd, Nat.reduceMul, Nat.reduceSub, Nat.reduceLeDiff, Nat.reduceLT, reduceCtorEq]
    refine aw_ret ⟨trivial, _, rfl, ?_, rfl⟩
    rw [idxF_none (fun j hj => he j hj hj)]
    rfl
theorem q_IndexFuncMo (H0 : Heap) (F : FuncId) (us ws : List V) (f : Mo → Bool) (xs : List Mo) (nl : Bool) (t : Tag) (hx : (xs.length : Int) ≤ 9223372036854775807)
    (hF : ∀ a ∈ xs, QuietOn Try.prog H0 F (us ++ [aMo a] ++ ws) (.bool (f a))) :
    QuietOn Try.prog H0 159 [.sl (xs.map eMo) nl t, .func (.func F) us ws] (.int .i64 (idxF f xs)) := by
  intro G hG
  refine acall_body (rs := [.tmp 4]) Try.func159 rfl rfl Try.ntmps159 (by kernel_rfl) (Nat.le_of_ble_eq_true rfl) ?_
  refine aw_sr rfl ?_
  simp only [go_sem, reduceIte, Nat.reduceEqDiff, Nat.reduceAdd, Nat.reduceMul, Nat.reduceSub, Nat.reduceLeDiff, Nat.reduceLT, reduceCtorEq]
  refine aw_seq fun K1 hK1 => ?_
  refine aw_sr rfl ?_
  simp only [go_sem, reduceIte, Nat.reduceEqDiff, Nat.reduceAdd, Nat.reduceMul, Nat.reduceSub, Nat.reduceLeDiff, Nat.reduceLT, reduceCtorEq]
  refine aw_range xs.length (S := {H : Heap // H = G}) (fun _ _ => [(0, .sl (xs.map eMo) nl t), (1, .func (.func F) us ws)]) (fun _ s => s.1) (fun i _ => ∀ j (h : j < xs.length), j < i → f xs[j] = false) ⟨G, rfl⟩ hx ?_ (fun _ _ h => h) (fun j _ h => absurd h (by omega)) rfl (fun _ _ => rfl) ?_ ?_ (by decide)
  · simp only [go_sem, reduceIte, Nat.reduceEqDiff, Nat.reduceAdd, Nat.reduceMul, Nat.reduceSub, Nat.reduceLeDiff, Nat.reduceLT, reduceCtorEq, Int.natCast_zero]
  · intro i ⟨H, hH⟩ hi he
    subst hH
    refine aw_sr rfl ?_
    simp only [go_sem, reduceIte, Nat.reduceEqDiff, Nat.reduceAdd, Nat.reduceMul, Nat.reduceSub, Nat.reduceLeDiff, Nat.reduceLT, reduceCtorEq]
    refine aw_sr rfl ?_
    simp only [go_sem, reduceIte, Nat.reduceEqDiff, Nat.reduceAdd, Nat.reduceMul, Nat.reduceSub, Nat.reduceLeDiff, Nat.reduceLT, reduceCtorEq, getD_map hi, eMo]
    refine ⟨⟨by omega, by omega, wid_map (g := eMo) (fun _ => by simp [eMo]) _⟩, ?_⟩
    have hq := hF _ (List.getElem_mem hi)
    refine goA_on hq hG ?_
    simp only [go_sem, reduceIte, Nat.reduceEqDiff, Nat.reduceAdd, Nat.reduceMul, Nat.reduceSub, Nat.reduceLeDiff, Nat.reduceLT, reduceCtorEq]
    refine aw_if rfl (fun h => ?_) (fun h => ?_)
    · refine aw_sr rfl ?_
      simp only [go_sem, reduceIte, Nat.reduceEqDiff, Nat.reduceAdd, Nat.reduceMul, Nat.reduceSub, Nat.reduceLeDiff, Nat.reduceLT, reduceCtorEq]
      refine aw_ret ⟨trivial, _, rfl, ?_, rfl⟩
      rw [idxF_at hi h (fun j hj => he j (by omega) hj)]
      rfl
    · refine aw_skip ⟨⟨H, rfl⟩, fun j hj hlt => ?_, ?_, fun _ _ h => h⟩
      · by_cases e : j = i
        · subst e; exact h
        · exact he j hj (by omega)
      simp only [go_sem, reduceIte, Nat.reduceEqDiff, Nat.reduceAdd, Nat.reduceMul, Nat.reduceSub, Nat.reduceLeDiff, Nat.reduceLT, reduceCtorEq]
  · intro ⟨H, hH⟩ he
    subst hH
    refine hK1 _ _ ?_
    refine aw_sr rfl ?_
    simp only [go_sem, reduceIte, Nat.reduceEqDiff, Nat.reduceAdd, Nat.reduceMul, Nat.reduceSub, Nat.reduceLeDiff, Nat.reduceLT, reduceCtorEq]
    refine aw_ret ⟨trivial, _, rfl, ?_, rfl⟩
    rw [idxF_none (fun j hj => he j hj hj)]
    rfl
/-- A use: its name, low, high. -/
abbrev Us := List UInt8 × Int × Int
theorem q_right1 (p : Pk) (b : Nat) (u : Us) : QuietOn Try.prog [(b, .vars (eUse u))] 129 ([] ++ [aPk p] ++ [.ptr b 0]) (.bool (decide (p.1 = u.1))) := by
  refine QuietOn.weak fun G hG => ?_
  have hg : hget G b = some (.vars (eUse u)) := hG _ _ (hget_self _ _ _)
  refine acall_body (rs := [.tmp 3]) Try.func129 rfl rfl Try.ntmps129 (by kernel_rfl) (Nat.le_of_ble_eq_true rfl) ?_
  refine aw_sr rfl ?_
  simp only [go_sem, reduceIte, Nat.reduceEqDiff, Nat.reduceAdd, Nat.reduceMul, Nat.reduceSub, Nat.reduceLeDiff, Nat.reduceLT, reduceCtorEq]
  intro b2 hb
  have hne : ¬ b2 = b := by intro e; subst e; rw [hg] at hb; cases hb
  refine aw_sr rfl ?_
  simp only [go_sem, reduceIte, Nat.reduceEqDiff, Nat.reduceAdd, Nat.reduceMul, Nat.reduceSub, Nat.reduceLeDiff, Nat.reduceLT, reduceCtorEq, hne, hg, eUse]
  exact aw_ret ⟨trivial, _, rfl, Vle.refl _, hsub_cons hb⟩
theorem q_right2 (p q : Pk) : Quiet Try.prog 132 [aPk p, aPk q] (.int .i64 (Lib.compareBytes p.1 q.1)) := by
  refine Quiet.weak fun G => ?_
  refine acall_body (rs := [.tmp 4]) Try.func132 rfl rfl Try.ntmps132 (by kernel_rfl) (Nat.le_of_ble_eq_true rfl) ?_
  refine aw_sr rfl ?_
  simp only [go_sem, reduceIte, Nat.reduceEqDiff, Nat.reduceAdd, Nat.reduceMul, Nat.reduceSub, Nat.reduceLeDiff, Nat.reduceLT, reduceCtorEq]
  intro b2 hb2 b3 hb3
  obtain ⟨n32, n3⟩ := fresh_cons hb3
  refine aw_sr rfl ?_
  simp only [go_sem, reduceIte, Nat.reduceEqDiff, Nat.reduceAdd, Nat.reduceMul, Nat.reduceSub, Nat.reduceLeDiff, Nat.reduceLT, reduceCtorEq, n32]
  refine goA_q (q_strCompare _ _) ?_
  simp only [go_sem, reduceIte, Nat.reduceEqDiff, Nat.reduceAdd, Nat.reduceMul, Nat.reduceSub, Nat.reduceLeDiff, Nat.reduceLT, reduceCtorEq]
  exact aw_ret ⟨trivial, _, rfl, Vle.refl _, sub_fresh n3 (sub_tail hb2)⟩
theorem getD_at {A : Type} [Inhabited A] {xs : List A} {i : Nat} (h : i < xs.length) : xs.getD i default = xs[i] := by rw [List.getD_eq_getElem?_getD, List.getElem?_eq_getElem h]; rfl
/-- slices.IsSortedFunc: no pick stands below the one ahead of it. -/
def sortF (ps : List Pk) : Bool := (List.range (ps.length - 1)).all fun i => !decide (Lib.compareBytes (ps.getD (i + 1) default).1 (ps.getD i default).1 < 0)
theorem q_isSorted (ps : List Pk) (nl : Bool) (t : Tag) (hl : ps.length ≤ bulk) : Quiet Try.prog 131 [.sl (ps.map ePk) nl t, .func (.func 132) [] []] (.bool (sortF ps)) := by
  have hl' : ps.length ≤ 1048576 := hl
  refine Quiet.weak fun G => ?_
  refine acall_body (rs := [.tmp 4]) Try.func131 rfl rfl Try.ntmps131 (by kernel_rfl) (Nat.le_of_ble_eq_true rfl) ?_
  refine aw_sr rfl ?_
  simp only [go_sem, reduceIte, Nat.reduceEqDiff, Nat.reduceAdd, Nat.reduceMul, Nat.reduceSub, Nat.reduceLeDiff, Nat.reduceLT, reduceCtorEq]
  refine aw_seq fun K1 hK1 => ?_
  refine aw_sr rfl ?_
  have hw0 : IntKind.i64.wrap ((ps.length : Int) - 1) = (ps.length : Int) - 1 := by rw [wrap64 (by omega) (by omega)]
  simp only [go_sem, reduceIte, Nat.reduceEqDiff, Nat.reduceAdd, Nat.reduceMul, Nat.reduceSub, Nat.reduceLeDiff, Nat.reduceLT, reduceCtorEq, hw0]
  refine aw_block ?_
  refine aw_lph (S := {i : Int // -1 ≤ i ∧ i ≤ (ps.length : Int) - 1 ∧ ∀ j : Nat, i ≤ (j : Int) → j < ps.length - 1 → decide (Lib.compareBytes (ps.getD (j + 1) default).1 (ps.getD j default).1 < 0) = false}) (fun s => [(5, .int .i64 s.1), (1, .func (.func 132) [] []), (0, .sl (ps.map ePk) nl t)]) (fun _ => G) (fun s => s.1.toNat) ⟨(ps.length : Int) - 1, by omega, Int.le_refl _, fun j h1 h2 => by omega⟩ ?_ (fun _ _ h => h) ?_
  · simp only [go_sem, reduceIte, Nat.reduceEqDiff, Nat.reduceAdd, Nat.reduceMul, Nat.reduceSub, Nat.reduceLeDiff, Nat.reduceLT, reduceCtorEq]
  intro ⟨i, h1, h2, h3⟩
  simp only at h1 h2 h3 ⊢
  refine aw_seq fun K2 hK2 => ?_
  refine aw_sr rfl ?_
  simp only [go_sem, reduceIte, Nat.reduceEqDiff, Nat.reduceAdd, Nat.reduceMul, Nat.reduceSub, Nat.reduceLeDiff, Nat.reduceLT, reduceCtorEq]
  refine aw_if rfl (fun h => ?_) (fun h => ?_)
  · have hi : 0 < i := by simpa using h
    refine aw_skip (hK2 _ _ ?_)
    have hit : i.toNat < ps.length := by omega
    have hit2 : (i - 1).toNat < ps.length := by omega
    have hw : IntKind.i64.wrap (i - 1) = i - 1 := wrap64 (by omega) (by omega)
    refine aw_seq fun K3 hK3 => ?_
    refine aw_block ?_
    refine aw_srd [(0,true),(1,true),(2,true),(3,true),(4,true),(5,true),(6,true),(7,true),(8,true),(9,true),(10,true),(11,true)] mixed rfl (by kernel_rfl) ?_
    simp only [go_sem, reduceIte, Nat.reduceEqDiff, Nat.reduceAdd, Nat.reduceMul, Nat.reduceSub, Nat.reduceLeDiff, Nat.reduceLT, reduceCtorEq, hw, getD_map hit, getD_map hit2, ePk, cPk]
    refine ⟨⟨by omega, by omega, wid_map (g := ePk) (fun _ => rfl) _⟩, ⟨by omega, by omega, wid_map (g := ePk) (fun _ => rfl) _⟩, ?_⟩
    refine goQ_by (q_right2 ps[i.toNat] ps[(i - 1).toNat]) ?_
    simp only [go_sem, reduceIte, Nat.reduceEqDiff, Nat.reduceAdd, Nat.reduceMul, Nat.reduceSub, Nat.reduceLeDiff, Nat.reduceLT, reduceCtorEq]
    have e1 : ps.getD ((i - 1).toNat + 1) default = ps[i.toNat] := by
      have : (i - 1).toNat + 1 = i.toNat := by omega
      rw [this, getD_at hit]
    have e2 : ps.getD (i - 1).toNat default = ps[(i - 1).toNat] := getD_at hit2
    refine aw_if rfl (fun h => ?_) (fun h => ?_)
    · refine aw_sr rfl ?_
      simp only [go_sem, reduceIte, Nat.reduceEqDiff, Nat.reduceAdd, Nat.reduceMul, Nat.reduceSub, Nat.reduceLeDiff, Nat.reduceLT, reduceCtorEq]
      refine aw_ret ⟨trivial, _, rfl, ?_, fun _ _ h => h⟩
      have : sortF ps = false := by
        rw [sortF, List.all_eq_false]
        exact ⟨(i - 1).toNat, List.mem_range.2 (by omega), by rw [e1, e2, h]; simp⟩
      rw [this]
      exact Vle.refl _
    · refine aw_skip (hK3 _ _ ?_)
      refine aw_rg rfl ?_
      simp only [go_sem, reduceIte, Nat.reduceEqDiff, Nat.reduceAdd, Nat.reduceMul, Nat.reduceSub, Nat.reduceLeDiff, Nat.reduceLT, reduceCtorEq, hw]
      refine ⟨⟨i - 1, by omega, by omega, fun j g1 g2 => ?_⟩, ?_, ?_, fun _ _ h => h⟩
      · by_cases e : j = (i - 1).toNat
        · subst e; rw [e1, e2]; exact h
        · exact h3 j (by omega) g2
      · show (i - 1).toNat < i.toNat; omega
      · simp only [go_sem, reduceIte, Nat.reduceEqDiff, Nat.reduceAdd, Nat.reduceMul, Nat.reduceSub, Nat.reduceLeDiff, Nat.reduceLT, reduceCtorEq]
  · have hi : ¬ 0 < i := by simpa using h
    refine aw_exit ?_
    refine hK1 _ _ ?_
    refine aw_sr rfl ?_
    simp only [go_sem, reduceIte, Nat.reduceEqDiff, Nat.reduceAdd, Nat.reduceMul, Nat.reduceSub, Nat.reduceLeDiff, Nat.reduceLT, reduceCtorEq]
    refine aw_ret ⟨trivial, _, rfl, ?_, fun _ _ h => h⟩
    have : sortF ps = true := by
      rw [sortF, List.all_eq_true]
      intro j hj
      rw [h3 j (by omega) (List.mem_range.1 hj)]; rfl
    rw [this]
    exact Vle.refl _
def isPk (p : Pk) (m : Mo) : Bool := decide (m.1 = p.1) && decide (m.2.1 = p.2)
theorem q_findS1 (m : Mo) (b : Nat) (p : Pk) : QuietOn Try.prog [(b, .vars (cPk p))] 160 ([] ++ [aMo m] ++ [.ptr b 0]) (.bool (isPk p m)) := by
  refine QuietOn.weak fun G hG => ?_
  have hg : hget G b = some (.vars (cPk p)) := hG _ _ (hget_self _ _ _)
  refine acall_body (rs := [.tmp 3]) Try.func160 rfl rfl Try.ntmps160 (by kernel_rfl) (Nat.le_of_ble_eq_true rfl) ?_
  refine aw_sr rfl ?_
  simp only [go_sem, reduceIte, Nat.reduceEqDiff, Nat.reduceAdd, Nat.reduceMul, Nat.reduceSub, Nat.reduceLeDiff, Nat.reduceLT, reduceCtorEq, eMo]
  intro b2 hb
  have hne : ¬ b2 = b := by intro e; subst e; rw [hg] at hb; cases hb
  refine aw_sr rfl ?_
  simp only [go_sem, reduceIte, Nat.reduceEqDiff, Nat.reduceAdd, Nat.reduceMul, Nat.reduceSub, Nat.reduceLeDiff, Nat.reduceLT, reduceCtorEq, hne, hg]
  exact aw_ret ⟨trivial, _, rfl, Vle.refl _, hsub_cons hb⟩
def zMo : Mo := ([], 0, [], true)
theorem zMo_le : Vle (.agg [.str [], .int .i64 0, .sl [] true .full]) (.agg (eMo zMo)) := Vle.aggL (.cons (Vle.refl _) (.cons (Vle.refl _) (.cons Vle.untag .nil)))
def findM (l : List Mo) (p : Pk) : Option Mo := l.find? (isPk p)
theorem q_findS (l : List Mo) (nl : Bool) (t : Tag) (p : Pk) (hl : l.length ≤ bulk) : Quiet Try.prog 130 [.sl (l.map eMo) nl t, aPk p] (.tup [.agg (eMo ((findM l p).getD zMo)), .bool (findM l p).isSome]) := by
  refine Quiet.weak fun G => ?_
  refine acall_body (rs := [.cell 4 108, .tmp 5]) Try.func130 rfl rfl Try.ntmps130 (by kernel_rfl) (Nat.le_of_ble_eq_true rfl) ?_
  refine aw_sr rfl ?_
  simp only [go_sem, reduceIte, Nat.reduceEqDiff, Nat.reduceAdd, Nat.reduceMul, Nat.reduceSub, Nat.reduceLeDiff, Nat.reduceLT, reduceCtorEq]
  intro b3 hb3 b4 hb4
  obtain ⟨n43, n4⟩ := fresh_cons hb4
  refine aw_sr rfl ?_
  simp only [go_sem, reduceIte, Nat.reduceEqDiff, Nat.reduceAdd, Nat.reduceMul, Nat.reduceSub, Nat.reduceLeDiff, Nat.reduceLT, reduceCtorEq]
  refine goA_on (q_IndexFuncMo [(b3, .vars (cPk p))] 160 [] [.ptr b3 0] (isPk p) l nl t (le_bulk hl) fun m _ => q_findS1 m b3 p) (sub_one (by rw [hget_cons_ne n43, hget_self])) ?_
  simp only [go_sem, reduceIte, Nat.reduceEqDiff, Nat.reduceAdd, Nat.reduceMul, Nat.reduceSub, Nat.reduceLeDiff, Nat.reduceLT, reduceCtorEq]
  refine aw_seq fun K1 hK1 => ?_
  refine aw_sr rfl ?_
  simp only [go_sem, reduceIte, Nat.reduceEqDiff, Nat.reduceAdd, Nat.reduceMul, Nat.reduceSub, Nat.reduceLeDiff, Nat.reduceLT, reduceCtorEq]
  cases hfd : l.find? (isPk p) with
  | none =>
    have hi : idxF (isPk p) l = -1 := idxF_none fun j hj => by
      have := List.find?_eq_none.1 hfd _ (List.getElem_mem hj)
      simpa using this
    rw [hi]
    refine aw_if rfl (fun h => ?_) (fun h => by cases h)
    refine aw_sr rfl ?_
    simp only [go_sem, reduceIte, Nat.reduceEqDiff, Nat.reduceAdd, Nat.reduceMul, Nat.reduceSub, Nat.reduceLeDiff, Nat.reduceLT, reduceCtorEq]
    refine aw_ret ⟨trivial, [.agg [.str [], .int .i64 0, .sl [] true .full], .bool false], ?_, ?_, sub_fresh n4 (sub_tail hb3)⟩
    · simp only [go_sem, reduceIte, Nat.reduceEqDiff, Nat.reduceAdd, Nat.reduceMul, Nat.reduceSub, Nat.reduceLeDiff, Nat.reduceLT, reduceCtorEq, resL, resOf]
    · rw [show findM l p = none from hfd]
      exact Vle.tupL (.cons zMo_le (.cons (Vle.refl _) .nil))
  | some m =>
    obtain ⟨hp, i, hi, hmi, hbef⟩ := List.find?_eq_some_iff_getElem.1 hfd
    have hx : idxF (isPk p) l = (i : Int) := idxF_at hi (by rw [hmi]; exact hp) fun j hj => by simpa using hbef j hj
    rw [hx]
    have hneg : decide ((i : Int) < 0) = false := by simp
    rw [hneg]
    have hl' : l.length ≤ 1048576 := hl
    refine aw_if rfl (fun h => by cases h) (fun h => ?_)
    refine aw_skip (hK1 _ _ ?_)
    refine aw_sr rfl ?_
    simp only [go_sem, reduceIte, Nat.reduceEqDiff, Nat.reduceAdd, Nat.reduceMul, Nat.reduceSub, Nat.reduceLeDiff, Nat.reduceLT, reduceCtorEq, getD_map hi, hmi, eMo]
    refine ⟨⟨by omega, by omega, wid_map (g := eMo) (fun _ => rfl) _⟩, ?_⟩
    refine aw_ret ⟨trivial, [.agg (eMo m), .bool true], ?_, ?_, sub_fresh n4 (sub_tail hb3)⟩
    · simp only [go_sem, reduceIte, Nat.reduceEqDiff, Nat.reduceAdd, Nat.reduceMul, Nat.reduceSub, Nat.reduceLeDiff, Nat.reduceLT, reduceCtorEq, resL, resOf, eMo]
    · rw [show findM l p = some m from hfd]
      exact Vle.refl _
/-! ### sets and tables by name -/
abbrev kvT (s : List UInt8) : V × V := (.str s, .bool true)
abbrev kvP (p : Pk) : V × V := (.str p.1, .int .i64 p.2)
theorem mfind_in {s : List UInt8} : ∀ {S : List (List UInt8)} {i : Nat}, s ∈ S → ∃ j, mfind (.str s) (S.map kvT) i = some (some (j, .bool true))
  | s' :: S, i, h => by
    simp only [List.map_cons, mfind, keyEq]
    by_cases e : s = s'
    · rw [decide_eq_true e]; exact ⟨i, rfl⟩
    · rw [decide_eq_false e]
      exact mfind_in (S := S) ((List.mem_cons.1 h).resolve_left e)
theorem mfind_out {s : List UInt8} : ∀ {S : List (List UInt8)} {i : Nat}, ¬ s ∈ S → mfind (.str s) (S.map kvT) i = some none
  | [], i, h => rfl
  | s' :: S, i, h => by
    simp only [List.map_cons, mfind, keyEq]
    simp only [List.mem_cons, not_or] at h
    rw [decide_eq_false h.1]
    exact mfind_out h.2
theorem mfind_pick {s : List UInt8} : ∀ {S : List Pk} {i : Nat}, (S.find? (fun p => decide (p.1 = s)) = none ∧ mfind (.str s) (S.map kvP) i = some none) ∨ ∃ p j, S.find? (fun p => decide (p.1 = s)) = some p ∧ mfind (.str s) (S.map kvP) i = some (some (j, .int .i64 p.2))
  | [], i => .inl ⟨rfl, rfl⟩
  | p :: S, i => by
    simp only [List.map_cons, mfind, keyEq, List.find?_cons]
    by_cases e : s = p.1
    · rw [decide_eq_true e, decide_eq_true e.symm]; exact .inr ⟨p, i, rfl, rfl⟩
    · rw [decide_eq_false e, decide_eq_false (fun q => e q.symm)]
      exact mfind_pick (S := S)
end Go.Proofs.Ytomjghlaoncpbaa
