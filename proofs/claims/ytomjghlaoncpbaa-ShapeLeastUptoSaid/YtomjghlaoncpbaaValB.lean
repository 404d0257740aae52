import Derived.Test.YtomjghlaoncpbaaValA
import Derived.Test.YtomjghlaoncpbaaVs
set_option linter.unusedSimpArgs false
set_option linter.unusedVariables false
namespace Go.Proofs.Ytomjghlaoncpbaa
open Go.Proofs.YtomjghlaoncpbaaV
set_option maxHeartbeats 400000
set_option maxRecDepth 100000
def nextF (vs : List Val) : List Val := vs.flatMap Val.args
theorem szs_next : ∀ vs, szs (nextF vs) + vs.length = szs vs
  | [] => rfl
  | v :: vs => by
    have := szs_next vs
    have := v.sz_eq
    simp only [nextF, List.flatMap_cons, szs_append, szs, List.length_cons] at *
    omega
theorem szs_take (vs : List Val) (i : Nat) : szs (vs.take i) ≤ szs vs := by
  have := szs_append (vs.take i) (vs.drop i)
  rw [List.take_append_drop] at this
  omega
theorem nextF_take {vs : List Val} {i : Nat} (h : i < vs.length) : nextF (vs.take (i + 1)) = nextF (vs.take i) ++ vs[i].args := by
  rw [List.take_succ_eq_append_getElem h, nextF, List.flatMap_append]; simp [nextF]
theorem nextF_len (vs : List Val) (i : Nat) : (nextF (vs.take i)).length ≤ szs vs := by
  have := szs_len (nextF (vs.take i))
  have := szs_next (vs.take i)
  have := szs_take vs i
  omega
theorem wid_eVal (vs : List Val) : wid 4 (vs.map eVal) := wid_map (g := eVal) (fun _ => by rw [eC]; rfl) _
theorem sca_eVal (vs : List Val) : sca (vs.map eVal) := by
  intro e he x hx
  obtain ⟨u, _, rfl⟩ := List.mem_map.1 he
  rw [eC] at hx
  simp only [cV, List.mem_cons, List.not_mem_nil, or_false] at hx
  rcases hx with rfl | rfl | rfl | rfl <;> rfl
/-- Is a value small, level by level? -/
def smallL : Nat → List Val → Nat → Bool
  | 0, _, _ => false
  | k + 1, now, n => if now = [] then true else if k = 0 ∨ 3000 < n + now.length then false else smallL k (nextF now) (n + now.length)
structure SmS where
  now : List Val
  n : Nat
  deep : Nat
  nl : Bool
  t : Tag
def smallV (v : Val) : Bool := smallL 302 [v] 0
theorem q_ValueSmall (v : Val) (hv : v.sz ≤ bulk) : Quiet Try.prog 32 [.agg (cV v)] (.bool (smallV v)) := by
  refine Quiet.weak fun G => ?_
  refine acall_body (rs := [.tmp 2]) Try.func32 rfl rfl Try.ntmps32 (by kernel_rfl) (Nat.le_of_ble_eq_true rfl) ?_
  refine aw_sr rfl ?_
  simp only [go_sem, reduceIte, Nat.reduceEqDiff, Nat.reduceAdd, Nat.reduceMul, Nat.reduceSub, Nat.reduceLeDiff, Nat.reduceLT, reduceCtorEq]
  intro b hb
  refine aw_sr rfl ?_
  simp only [go_sem, reduceIte, Nat.reduceEqDiff, Nat.reduceAdd, Nat.reduceMul, Nat.reduceSub, Nat.reduceLeDiff, Nat.reduceLT, reduceCtorEq]
  refine aw_sr rfl ?_
  simp only [go_sem, reduceIte, Nat.reduceEqDiff, Nat.reduceAdd, Nat.reduceMul, Nat.reduceSub, Nat.reduceLeDiff, Nat.reduceLT, reduceCtorEq]
  refine aw_seq fun K1 hK1 => ?_
  refine aw_sr rfl ?_
  simp only [go_sem, reduceIte, Nat.reduceEqDiff, Nat.reduceAdd, Nat.reduceMul, Nat.reduceSub, Nat.reduceLeDiff, Nat.reduceLT, reduceCtorEq]
  refine aw_block ?_
  refine aw_lph (S := {s : SmS // szs s.now ≤ bulk ∧ s.n ≤ 3000 ∧ s.deep ≤ 301 ∧ smallL (302 - s.deep) s.now s.n = smallV v}) (fun s => [(3, .sl (s.1.now.map eVal) s.1.nl s.1.t), (4, .int .i64 s.1.n), (5, .int .i64 s.1.deep)]) (fun _ => G) (fun s => 302 - s.1.deep) ⟨⟨[v], 0, 0, false, .full⟩, by simpa [szs] using hv, by simp, by simp, rfl⟩ ?_ (hsub_cons hb) ?_
  · simp only [go_sem, reduceIte, Nat.reduceEqDiff, Nat.reduceAdd, Nat.reduceMul, Nat.reduceSub, Nat.reduceLeDiff, Nat.reduceLT, reduceCtorEq, List.map_cons, List.map_nil, eC, cV, Int.natCast_zero]
  · intro ⟨⟨now, n, deep, nl, tg⟩, i1, i2, i3, i4⟩
    simp only at i1 i2 i3 i4 ⊢
    have hk : 302 - deep = (301 - deep) + 1 := by omega
    rw [hk, smallL] at i4
    have hlen := szs_len now
    have hb1 : szs now ≤ 1048576 := i1
    refine aw_seq fun K2 hK2 => ?_
    refine aw_sr rfl ?_
    simp only [go_sem, reduceIte, Nat.reduceEqDiff, Nat.reduceAdd, Nat.reduceMul, Nat.reduceSub, Nat.reduceLeDiff, Nat.reduceLT, reduceCtorEq]
    refine aw_if rfl (fun h => ?_) (fun h => ?_)
    · have hne : ¬ now = [] := by intro e; subst e; simp at h
      rw [if_neg hne] at i4
      refine aw_skip (hK2 _ _ ?_)
      refine aw_seq fun K3 hK3 => ?_
      refine aw_block ?_
      refine aw_seq fun K4 hK4 => ?_
      refine aw_sr rfl ?_
      simp only [go_sem, reduceIte, Nat.reduceEqDiff, Nat.reduceAdd, Nat.reduceMul, Nat.reduceSub, Nat.reduceLeDiff, Nat.reduceLT, reduceCtorEq]
      have hw : IntKind.i64.wrap ((n : Int) + (now.length : Int)) = ((n + now.length : Nat) : Int) := by rw [wrap64 (by omega) (by omega)]; simp
      refine aw_sr rfl ?_
      simp only [go_sem, reduceIte, Nat.reduceEqDiff, Nat.reduceAdd, Nat.reduceMul, Nat.reduceSub, Nat.reduceLeDiff, Nat.reduceLT, reduceCtorEq, hw]
      refine aw_if rfl (fun h => ?_) (fun h => ?_)
      · refine aw_sr rfl ?_
        simp only [go_sem, reduceIte, Nat.reduceEqDiff, Nat.reduceAdd, Nat.reduceMul, Nat.reduceSub, Nat.reduceLeDiff, Nat.reduceLT, reduceCtorEq]
        refine aw_ret ⟨trivial, _, rfl, ?_, fun _ _ h => h⟩
        have : 301 - deep = 0 ∨ 3000 < n + now.length := by
          simp only [Bool.or_eq_true, decide_eq_true_eq] at h
          omega
        rw [if_pos this] at i4
        rw [← i4]
        exact Vle.refl _
      · have hc : ¬ (301 - deep = 0 ∨ 3000 < n + now.length) := by
          simp only [Bool.or_eq_false_iff, decide_eq_false_iff_not] at h
          omega
        rw [if_neg hc] at i4
        refine aw_skip (hK4 _ _ ?_)
        refine aw_sr rfl ?_
        simp only [go_sem, reduceIte, Nat.reduceEqDiff, Nat.reduceAdd, Nat.reduceMul, Nat.reduceSub, Nat.reduceLeDiff, Nat.reduceLT, reduceCtorEq]
        refine aw_seq fun K5 hK5 => ?_
        refine aw_sr rfl ?_
        simp only [go_sem, reduceIte, Nat.reduceEqDiff, Nat.reduceAdd, Nat.reduceMul, Nat.reduceSub, Nat.reduceLeDiff, Nat.reduceLT, reduceCtorEq]
        refine aw_range now.length (S := Bool × Tag × Heap) (fun i s => [(26, .sl (now.map eVal) nl tg), (6, .sl ((nextF (now.take i)).map eVal) s.1 s.2.1), (4, .int .i64 ((n + now.length : Nat) : Int)), (5, .int .i64 deep)]) (fun _ s => s.2.2) (fun i s => Room G 4 s.2.1 s.2.2) (true, .full, G) (by omega) ?_ (fun _ _ h => h) (Room.start G 4) rfl (fun _ _ => rfl) ?_ ?_ (by decide)
        · simp only [go_sem, reduceIte, Nat.reduceEqDiff, Nat.reduceAdd, Nat.reduceMul, Nat.reduceSub, Nat.reduceLeDiff, Nat.reduceLT, reduceCtorEq, Int.natCast_zero, List.take_zero, nextF, List.flatMap_nil, List.map_nil]
        · intro i ⟨nl2, t2, H⟩ hi he
          simp only at he ⊢
          refine aw_sr rfl ?_
          simp only [go_sem, reduceIte, Nat.reduceEqDiff, Nat.reduceAdd, Nat.reduceMul, Nat.reduceSub, Nat.reduceLeDiff, Nat.reduceLT, reduceCtorEq, getD_map hi, eC, cV]
          refine ⟨⟨by omega, by omega, wid_eVal _⟩, fun b2 hb2 => ?_⟩
          obtain ⟨H2, hr2, hs2⟩ := he.push (o := .vars (cV now[i])) hb2
          refine AW.of_hsub hs2 ?_
          have hb3 : hget H2 b2 = some (.vars (cV now[i])) := hr2.sub _ _ (hget_self _ _ _)
          refine aw_rg rfl ?_
          simp only [go_sem, reduceIte, Nat.reduceEqDiff, Nat.reduceAdd, Nat.reduceMul, Nat.reduceSub, Nat.reduceLeDiff, Nat.reduceLT, reduceCtorEq, hb3, cV]
          refine goP_room hr2 ?_ fun t' H' hr => ?_
          · have := nextF_len now (i + 1)
            rw [nextF_take hi, List.length_append] at this
            exact ⟨rfl, rfl, by decide, wid_eVal _, wid_eVal _, sca_eVal _, by simp; omega, by simp; omega⟩
          simp only [go_sem, reduceIte, Nat.reduceEqDiff, Nat.reduceAdd, Nat.reduceMul, Nat.reduceSub, Nat.reduceLeDiff, Nat.reduceLT, reduceCtorEq, ← List.map_append, ← nextF_take hi]
          obtain ⟨H3, hr3, hs3⟩ := hr.pop (he.sub_none hb2)
          refine ⟨(nl2 && (now[i].args.map eVal).isEmpty, t', H3), hr3, ?_, hs3⟩
          simp only [go_sem, reduceIte, Nat.reduceEqDiff, Nat.reduceAdd, Nat.reduceMul, Nat.reduceSub, Nat.reduceLeDiff, Nat.reduceLT, reduceCtorEq]
        · intro ⟨nl2, t2, H⟩ he
          simp only at he ⊢
          refine hK5 _ _ ?_
          refine aw_rg rfl ?_
          simp only [go_sem, reduceIte, Nat.reduceEqDiff, Nat.reduceAdd, Nat.reduceMul, Nat.reduceSub, Nat.reduceLeDiff, Nat.reduceLT, reduceCtorEq, List.take_length]
          refine hK3 _ _ ?_
          refine aw_rg rfl ?_
          have hw2 : IntKind.i64.wrap ((deep : Int) + 1) = ((deep + 1 : Nat) : Int) := by rw [wrap64 (by omega) (by omega)]; simp
          simp only [go_sem, reduceIte, Nat.reduceEqDiff, Nat.reduceAdd, Nat.reduceMul, Nat.reduceSub, Nat.reduceLeDiff, Nat.reduceLT, reduceCtorEq, hw2]
          refine ⟨⟨⟨nextF now, n + now.length, deep + 1, nl2, t2⟩, ?_, ?_, ?_, ?_⟩, ?_, ?_, he.sub⟩
          · have := szs_next now; show szs (nextF now) ≤ 1048576; omega
          · show n + now.length ≤ 3000; omega
          · show deep + 1 ≤ 301; omega
          · show smallL (302 - (deep + 1)) (nextF now) (n + now.length) = smallV v
            rw [← i4]; congr 1; omega
          · show 302 - (deep + 1) < 302 - deep; omega
          · simp only [go_sem, reduceIte, Nat.reduceEqDiff, Nat.reduceAdd, Nat.reduceMul, Nat.reduceSub, Nat.reduceLeDiff, Nat.reduceLT, reduceCtorEq]
    · have hne : now = [] := by simpa using h
      subst hne
      refine aw_exit ?_
      refine hK1 _ _ ?_
      refine aw_sr rfl ?_
      simp only [go_sem, reduceIte, Nat.reduceEqDiff, Nat.reduceAdd, Nat.reduceMul, Nat.reduceSub, Nat.reduceLeDiff, Nat.reduceLT, reduceCtorEq]
      refine aw_ret ⟨trivial, _, rfl, ?_, fun _ _ h => h⟩
      rw [if_pos rfl] at i4
      rw [← i4]
      exact Vle.refl _
end Go.Proofs.Ytomjghlaoncpbaa
