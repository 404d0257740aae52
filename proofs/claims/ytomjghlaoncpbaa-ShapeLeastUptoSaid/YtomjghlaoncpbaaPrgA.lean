import Derived.Test.YtomjghlaoncpbaaPrgD
import Derived.Test.YtomjghlaoncpbaaVt
set_option linter.unusedSimpArgs false
set_option linter.unusedVariables false
namespace Go.Proofs.Ytomjghlaoncpbaa
open Go.Proofs.YtomjghlaoncpbaaV
set_option maxHeartbeats 400000
set_option maxRecDepth 100000
def nextT (vs : List Typ) : List Typ := vs.flatMap Typ.args
theorem tszs_next : ∀ vs, tszs (nextT vs) + vs.length = tszs vs
  | [] => rfl
  | v :: vs => by
    have := tszs_next vs
    have := v.sz_eq
    simp only [nextT, List.flatMap_cons, tszs_append, tszs, List.length_cons] at *
    omega
theorem tszs_take (vs : List Typ) (i : Nat) : tszs (vs.take i) ≤ tszs vs := by
  have := tszs_append (vs.take i) (vs.drop i)
  rw [List.take_append_drop] at this
  omega
theorem nextT_take {vs : List Typ} {i : Nat} (h : i < vs.length) : nextT (vs.take (i + 1)) = nextT (vs.take i) ++ vs[i].args := by
  rw [List.take_succ_eq_append_getElem h, nextT, List.flatMap_append]; simp [nextT]
theorem nextT_len (vs : List Typ) (i : Nat) : (nextT (vs.take i)).length ≤ tszs vs := by
  have := tszs_len (nextT (vs.take i))
  have := tszs_next (vs.take i)
  have := tszs_take vs i
  omega
theorem wid_eTyp (vs : List Typ) : wid 3 (vs.map eTyp) := wid_map (g := eTyp) (fun _ => by rw [eTyp_eq]; rfl) _
theorem sca_eTyp (vs : List Typ) : sca (vs.map eTyp) := by
  intro e he x hx
  obtain ⟨u, _, rfl⟩ := List.mem_map.1 he
  rw [eTyp_eq] at hx
  simp only [cTyp, List.mem_cons, List.not_mem_nil, or_false] at hx
  rcases hx with rfl | rfl | rfl <;> rfl
structure SmT where
  now : List Typ
  n : Nat
  deep : Nat
  nl : Bool
  t : Tag
  H : Heap
theorem q_TypesSmall (l : List Typ) (ln : Bool) (tg0 : Tag) (hv : tszs l ≤ bulk) : QB Try.prog 31 [.sl (l.map eTyp) ln tg0] := by
  refine QB.weak fun G => ?_
  have hv' : tszs l ≤ 1048576 := hv
  have hll := tszs_len l
  refine acall_body (rs := [.tmp 2]) Try.func31 rfl rfl Try.ntmps31 (by kernel_rfl) (Nat.le_of_ble_eq_true rfl) ?_
  refine aw_sr rfl ?_
  simp only [go_sem, reduceIte, Nat.reduceEqDiff, Nat.reduceAdd, Nat.reduceMul, Nat.reduceSub, Nat.reduceLeDiff, Nat.reduceLT, reduceCtorEq]
  refine aw_sr rfl ?_
  simp only [go_sem, reduceIte, Nat.reduceEqDiff, Nat.reduceAdd, Nat.reduceMul, Nat.reduceSub, Nat.reduceLeDiff, Nat.reduceLT, reduceCtorEq]
  refine goP_room (Room.start _ 3) ⟨rfl, rfl, by decide, by simp, wid_eTyp _, sca_eTyp _, by simp; omega, by simp; omega⟩ fun t1 H1 hr1 => ?_
  simp only [go_sem, reduceIte, Nat.reduceEqDiff, Nat.reduceAdd, Nat.reduceMul, Nat.reduceSub, Nat.reduceLeDiff, Nat.reduceLT, reduceCtorEq]
  refine aw_sr rfl ?_
  simp only [go_sem, reduceIte, Nat.reduceEqDiff, Nat.reduceAdd, Nat.reduceMul, Nat.reduceSub, Nat.reduceLeDiff, Nat.reduceLT, reduceCtorEq]
  refine aw_seq fun K1 hK1 => ?_
  refine aw_sr rfl ?_
  simp only [go_sem, reduceIte, Nat.reduceEqDiff, Nat.reduceAdd, Nat.reduceMul, Nat.reduceSub, Nat.reduceLeDiff, Nat.reduceLT, reduceCtorEq]
  refine aw_block ?_
  refine aw_lph (S := {s : SmT // tszs s.now ≤ bulk ∧ s.n ≤ 1000 ∧ s.deep ≤ 101 ∧ Sub G s.H}) (fun s => [(3, .sl (s.1.now.map eTyp) s.1.nl s.1.t), (4, .int .i64 s.1.n), (5, .int .i64 s.1.deep)]) (fun s => s.1.H) (fun s => 102 - s.1.deep) ⟨⟨l, 0, 0, false && (l.map eTyp).isEmpty, t1, H1⟩, hv, by simp, by simp, hr1.sub⟩ ?_ (fun _ _ h => h) ?_
  · simp only [go_sem, reduceIte, Nat.reduceEqDiff, Nat.reduceAdd, Nat.reduceMul, Nat.reduceSub, Nat.reduceLeDiff, Nat.reduceLT, reduceCtorEq, Int.natCast_zero, List.nil_append]
  · intro ⟨⟨now, n, deep, nl, tg, H⟩, i1, i2, i3, i5⟩
    simp only at i1 i2 i3 i5 ⊢
    have hlen := tszs_len now
    have hb1 : tszs now ≤ 1048576 := i1
    refine aw_seq fun K2 hK2 => ?_
    refine aw_sr rfl ?_
    simp only [go_sem, reduceIte, Nat.reduceEqDiff, Nat.reduceAdd, Nat.reduceMul, Nat.reduceSub, Nat.reduceLeDiff, Nat.reduceLT, reduceCtorEq]
    refine aw_if rfl (fun h => ?_) (fun h => ?_)
    · refine aw_skip (hK2 _ _ ?_)
      refine aw_seq fun K3 hK3 => ?_
      refine aw_block ?_
      refine aw_seq fun K4 hK4 => ?_
      refine aw_sr rfl ?_
      simp only [go_sem, reduceIte, Nat.reduceEqDiff, Nat.reduceAdd, Nat.reduceMul, Nat.reduceSub, Nat.reduceLeDiff, Nat.reduceLT, reduceCtorEq]
      have hw : IntKind.i64.wrap ((n : Int) + (now.length : Int)) = ((n + now.length : Nat) : Int) := by rw [wrap64 (by omega) (by omega)]; simp
      refine aw_sr rfl ?_
      simp only [go_sem, reduceIte, Nat.reduceEqDiff, Nat.reduceAdd, Nat.reduceMul, Nat.reduceSub, Nat.reduceLeDiff, Nat.reduceLT, reduceCtorEq, hw]
      refine aw_if rfl (fun h => ?_) (fun h => ?_)
      · refine aw_sr rfl ?_
        simp only [go_sem, reduceIte, Nat.reduceEqDiff, Nat.reduceAdd, Nat.reduceMul, Nat.reduceSub, Nat.reduceLeDiff, Nat.reduceLT, reduceCtorEq]
        exact aw_ret ⟨trivial, _, rfl, ⟨_, Vle.refl _⟩, i5⟩
      · have hc : ¬ (100 < deep ∨ 1000 < n + now.length) := by
          simp only [Bool.or_eq_false_iff, decide_eq_false_iff_not] at h
          omega
        refine aw_skip (hK4 _ _ ?_)
        refine aw_sr rfl ?_
        simp only [go_sem, reduceIte, Nat.reduceEqDiff, Nat.reduceAdd, Nat.reduceMul, Nat.reduceSub, Nat.reduceLeDiff, Nat.reduceLT, reduceCtorEq]
        refine aw_seq fun K5 hK5 => ?_
        refine aw_sr rfl ?_
        simp only [go_sem, reduceIte, Nat.reduceEqDiff, Nat.reduceAdd, Nat.reduceMul, Nat.reduceSub, Nat.reduceLeDiff, Nat.reduceLT, reduceCtorEq]
        refine aw_range now.length (S := Bool × Tag × Heap) (fun i s => [(27, .sl (now.map eTyp) nl tg), (6, .sl ((nextT (now.take i)).map eTyp) s.1 s.2.1), (4, .int .i64 ((n + now.length : Nat) : Int)), (5, .int .i64 deep)]) (fun _ s => s.2.2) (fun i s => Room H 3 s.2.1 s.2.2) (true, .full, H) (by omega) ?_ (fun _ _ h => h) (Room.start H 3) rfl (fun _ _ => rfl) ?_ ?_ (by decide)
        · simp only [go_sem, reduceIte, Nat.reduceEqDiff, Nat.reduceAdd, Nat.reduceMul, Nat.reduceSub, Nat.reduceLeDiff, Nat.reduceLT, reduceCtorEq, Int.natCast_zero, List.take_zero, nextT, List.flatMap_nil, List.map_nil]
        · intro i ⟨nl2, t2, H2⟩ hi he
          simp only at he ⊢
          refine aw_sr rfl ?_
          simp only [go_sem, reduceIte, Nat.reduceEqDiff, Nat.reduceAdd, Nat.reduceMul, Nat.reduceSub, Nat.reduceLeDiff, Nat.reduceLT, reduceCtorEq, getD_map hi, eTyp_eq, cTyp]
          refine ⟨⟨by omega, by omega, wid_eTyp _⟩, fun b2 hb2 => ?_⟩
          obtain ⟨H3, hr2, hs2⟩ := he.push (o := .vars (cTyp now[i])) hb2
          refine AW.of_hsub hs2 ?_
          have hb3 : hget H3 b2 = some (.vars (cTyp now[i])) := hr2.sub _ _ (hget_self _ _ _)
          refine aw_rg rfl ?_
          simp only [go_sem, reduceIte, Nat.reduceEqDiff, Nat.reduceAdd, Nat.reduceMul, Nat.reduceSub, Nat.reduceLeDiff, Nat.reduceLT, reduceCtorEq, hb3, cTyp]
          refine goP_room hr2 ?_ fun t' H' hr => ?_
          · have := nextT_len now (i + 1)
            rw [nextT_take hi, List.length_append] at this
            exact ⟨rfl, rfl, by decide, wid_eTyp _, wid_eTyp _, sca_eTyp _, by simp; omega, by simp; omega⟩
          simp only [go_sem, reduceIte, Nat.reduceEqDiff, Nat.reduceAdd, Nat.reduceMul, Nat.reduceSub, Nat.reduceLeDiff, Nat.reduceLT, reduceCtorEq, ← List.map_append, ← nextT_take hi]
          obtain ⟨H4, hr3, hs3⟩ := hr.pop (he.sub_none hb2)
          refine ⟨(nl2 && (now[i].args.map eTyp).isEmpty, t', H4), hr3, ?_, hs3⟩
          simp only [go_sem, reduceIte, Nat.reduceEqDiff, Nat.reduceAdd, Nat.reduceMul, Nat.reduceSub, Nat.reduceLeDiff, Nat.reduceLT, reduceCtorEq]
        · intro ⟨nl2, t2, H2⟩ he
          simp only at he ⊢
          refine hK5 _ _ ?_
          refine aw_rg rfl ?_
          simp only [go_sem, reduceIte, Nat.reduceEqDiff, Nat.reduceAdd, Nat.reduceMul, Nat.reduceSub, Nat.reduceLeDiff, Nat.reduceLT, reduceCtorEq, List.take_length]
          refine hK3 _ _ ?_
          refine aw_rg rfl ?_
          have hw2 : IntKind.i64.wrap ((deep : Int) + 1) = ((deep + 1 : Nat) : Int) := by rw [wrap64 (by omega) (by omega)]; simp
          simp only [go_sem, reduceIte, Nat.reduceEqDiff, Nat.reduceAdd, Nat.reduceMul, Nat.reduceSub, Nat.reduceLeDiff, Nat.reduceLT, reduceCtorEq, hw2]
          refine ⟨⟨⟨nextT now, n + now.length, deep + 1, nl2, t2, H2⟩, ?_, ?_, ?_, sub_trans i5 he.sub⟩, ?_, ?_, fun _ _ h => h⟩
          · have := tszs_next now; show tszs (nextT now) ≤ 1048576; omega
          · show n + now.length ≤ 1000; omega
          · show deep + 1 ≤ 101; omega
          · show 102 - (deep + 1) < 102 - deep; omega
          · simp only [go_sem, reduceIte, Nat.reduceEqDiff, Nat.reduceAdd, Nat.reduceMul, Nat.reduceSub, Nat.reduceLeDiff, Nat.reduceLT, reduceCtorEq]
    · refine aw_exit ?_
      refine hK1 _ _ ?_
      refine aw_sr rfl ?_
      simp only [go_sem, reduceIte, Nat.reduceEqDiff, Nat.reduceAdd, Nat.reduceMul, Nat.reduceSub, Nat.reduceLeDiff, Nat.reduceLT, reduceCtorEq]
      exact aw_ret ⟨trivial, _, rfl, ⟨_, Vle.refl _⟩, i5⟩
end Go.Proofs.Ytomjghlaoncpbaa
