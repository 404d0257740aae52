import Derived.Test.YtomjghlaoncpbaaValJ
set_option linter.unusedSimpArgs false
set_option linter.unusedVariables false
namespace Go.Proofs.Ytomjghlaoncpbaa
open Go.Proofs.YtomjghlaoncpbaaV
set_option maxHeartbeats 400000
set_option maxRecDepth 100000
theorem zV_le : VleL [V.int .i64 0, V.int .i64 0, V.str [], V.sl [] true .full] (cV zV) := .cons (Vle.refl _) (.cons (Vle.refl _) (.cons (Vle.refl _) (.cons Vle.untag .nil)))
theorem map_range_succ (g : Nat → Val) (i : Nat) : ((List.range i).map g).map eVal ++ [cV (g i)] = ((List.range (i + 1)).map g).map eVal := by
  rw [List.range_succ, List.map_append, List.map_append, List.map_cons, List.map_cons, List.map_nil, List.map_nil, eC]
theorem q_refBack (s : Sav) (w : Wy) (rest : List Val) (rnl : Bool) (rt : Tag) (hw : w.1.length ≤ bulk) (hm : ∀ m ∈ w.1, m.2.2.1.1.length ≤ bulk ∧ m.2.2.2.1.length ≤ bulk) (hl : s.2.1.1.length ≤ bulk) (hr : rest.length ≤ bulk) :
    Quiet Try.prog 27 [.agg (cSav s), .agg (cWy w), .sl (rest.map eVal) rnl rt] (.tup [.agg (cSav (backF id List.isEmpty s rest (stF s w false)).1), .int .i64 (backF id List.isEmpty s rest (stF s w false)).2]) := by
  have hq := q_renewed s w false hw hm
  have hok := stF_ok (s := s) (w := w) (old := false)
  unfold backF
  generalize stF s w false = p at hq hok
  obtain ⟨m, e⟩ := p
  refine Quiet.weak fun G => ?_
  refine acall_body (rs := [.cell 6 40, .tmp 7]) Try.func27 rfl rfl Try.ntmps27 (by kernel_rfl) (Nat.le_of_ble_eq_true rfl) ?_
  refine aw_sr rfl ?_
  simp only [go_sem, reduceIte, Nat.reduceEqDiff, Nat.reduceAdd, Nat.reduceMul, Nat.reduceSub, Nat.reduceLeDiff, Nat.reduceLT, reduceCtorEq]
  intro b3 hb3 b4 hb4 b6 hb6
  obtain ⟨n64, hx⟩ := fresh_cons hb6
  obtain ⟨n63, n6⟩ := fresh_cons hx
  obtain ⟨n43, n4⟩ := fresh_cons hb4
  refine aw_sr rfl ?_
  simp only [go_sem, reduceIte, Nat.reduceEqDiff, Nat.reduceAdd, Nat.reduceMul, Nat.reduceSub, Nat.reduceLeDiff, Nat.reduceLT, reduceCtorEq, n64, n63, n43]
  refine goA_q hq ?_
  simp only [go_sem, reduceIte, Nat.reduceEqDiff, Nat.reduceAdd, Nat.reduceMul, Nat.reduceSub, Nat.reduceLeDiff, Nat.reduceLT, reduceCtorEq]
  intro b8 hb8
  obtain ⟨n86, hx⟩ := fresh_cons hb8
  obtain ⟨n84, hx⟩ := fresh_cons hx
  obtain ⟨n83, n8⟩ := fresh_cons hx
  refine aw_seq fun K1 hK1 => ?_
  refine aw_sr rfl ?_
  simp only [go_sem, reduceIte, Nat.reduceEqDiff, Nat.reduceAdd, Nat.reduceMul, Nat.reduceSub, Nat.reduceLeDiff, Nat.reduceLT, reduceCtorEq]
  refine aw_if rfl (fun h => ?_) (fun h => ?_)
  · refine aw_sr rfl ?_
    simp only [go_sem, reduceIte, Nat.reduceEqDiff, Nat.reduceAdd, Nat.reduceMul, Nat.reduceSub, Nat.reduceLeDiff, Nat.reduceLT, reduceCtorEq, n86, n84, n83, n64, n63, n43]
    refine aw_ret ⟨trivial, [.agg zSl, .int .i64 e], ?_, ?_, sub_fresh n8 (sub_fresh n6 (sub_fresh n4 (sub_fresh hb3 sub_rfl)))⟩
    · simp only [go_sem, reduceIte, Nat.reduceEqDiff, Nat.reduceAdd, Nat.reduceMul, Nat.reduceSub, Nat.reduceLeDiff, Nat.reduceLT, reduceCtorEq, resL, resOf, n86]
    · have h : e ≠ 0 := by simpa using h
      rw [if_pos h]
      exact Vle.tupL (.cons zS_le (.cons (Vle.refl _) .nil))
  have h : e = 0 := by simpa using h
  subst h
  obtain ⟨k1, k2, k3⟩ := hok rfl
  obtain ⟨f1, f2, f3⟩ := badM_facts k1
  simp only [needN, Bool.false_eq_true, if_false] at k1 k2 k3 f1 f2 f3
  have k2 : s.2.1.1.length = m.2.2.1.1.length := by omega
  have hfl : m.2.2.1.1.length ≤ 1048576 := (hm m k3).1
  have hll : m.2.2.2.1.length ≤ 1048576 := (hm m k3).2
  have hrl : rest.length ≤ 1048576 := hr
  have h0 : ¬ ((0 : Int) ≠ 0) := by simp
  refine aw_skip (hK1 _ _ ?_)
  refine aw_seq fun K2 hK2 => ?_
  refine aw_sr rfl ?_
  simp only [go_sem, reduceIte, Nat.reduceEqDiff, Nat.reduceAdd, Nat.reduceMul, Nat.reduceSub, Nat.reduceLeDiff, Nat.reduceLT, reduceCtorEq, n86, n84, n83, n64, n63, n43]
  refine aw_if rfl (fun h => ?_) (fun h => ?_)
  · refine aw_sr rfl ?_
    simp only [go_sem, reduceIte, Nat.reduceEqDiff, Nat.reduceAdd, Nat.reduceMul, Nat.reduceSub, Nat.reduceLeDiff, Nat.reduceLT, reduceCtorEq, n86, n84, n83, n64, n63, n43]
    refine aw_ret ⟨trivial, [.agg zSl, .int .i64 1], ?_, ?_, sub_fresh n8 (sub_fresh n6 (sub_fresh n4 (sub_fresh hb3 sub_rfl)))⟩
    · simp only [go_sem, reduceIte, Nat.reduceEqDiff, Nat.reduceAdd, Nat.reduceMul, Nat.reduceSub, Nat.reduceLeDiff, Nat.reduceLT, reduceCtorEq, resL, resOf, n86]
    · rw [if_neg h0, if_pos (by simpa using h)]
      exact Vle.tupL (.cons zS_le (.cons (Vle.refl _) .nil))
  have h1 : ¬ ((rest.length : Int) ≠ (m.2.2.2.1.length : Int)) := by simpa using h
  have hrr : rest.length = m.2.2.2.1.length := by omega
  have pfl := psF_len (m := m) k2
  have pll : (psL m rest).length = m.2.2.2.1.length := by simp [psL, hrr]
  refine aw_skip (hK2 _ _ ?_)
  refine aw_sr rfl ?_
  simp only [go_sem, reduceIte, Nat.reduceEqDiff, Nat.reduceAdd, Nat.reduceMul, Nat.reduceSub, Nat.reduceLeDiff, Nat.reduceLT, reduceCtorEq, n86, n84, n83, n64, n63, n43]
  intro b10 hb10
  obtain ⟨n108, hx⟩ := fresh_cons hb10
  obtain ⟨n106, hx⟩ := fresh_cons hx
  obtain ⟨n104, hx⟩ := fresh_cons hx
  obtain ⟨n103, n10⟩ := fresh_cons hx
  have hcl : m.2.1.toNat ≤ 1000 := by omega
  refine aw_seq fun K3 hK3 => ?_
  refine aw_sr rfl ?_
  simp only [go_sem, reduceIte, Nat.reduceEqDiff, Nat.reduceAdd, Nat.reduceMul, Nat.reduceSub, Nat.reduceLeDiff, Nat.reduceLT, reduceCtorEq]
  refine aw_block ?_
  refine aw_lph (S := {st : Nat × Bool × Tag × Heap // st.1 ≤ m.2.1.toNat ∧ Room ((b10, .vars [.str s.1, .sl (((List.range st.1).map fun i => vAt s m rest i).map eVal) st.2.1 st.2.2.1, .sl [] true .full]) :: (b8, .vars (cMov m)) :: (b6, .vars zSl) :: (b4, .vars (cWy w)) :: (b3, .vars (cSav s)) :: G) 4 st.2.2.1 st.2.2.2 ∧ st.2.1 = (List.range st.1).isEmpty})
    (fun st => [(11, .int .i64 st.1.1), (10, .ptr b10 0), (8, .ptr b8 0), (3, .ptr b3 0), (6, .ptr b6 0), (2, .sl (rest.map eVal) rnl rt)]) (fun st => st.1.2.2.2) (fun st => m.2.1.toNat - st.1.1) ⟨(0, true, .full, _), Nat.zero_le _, by simpa using Room.start _ 4, by simp⟩ ?_ (fun _ _ h => h) ?_
  · simp only [go_sem, reduceIte, Nat.reduceEqDiff, Nat.reduceAdd, Nat.reduceMul, Nat.reduceSub, Nat.reduceLeDiff, Nat.reduceLT, reduceCtorEq, Int.natCast_zero]
  intro ⟨⟨i, nl2, t2, H⟩, hi, he, hnl⟩
  simp only at hi he hnl ⊢
  have hg8 : hget H b8 = some (.vars (cMov m)) := he.sub _ _ (by rw [hget_cons_ne n108, hget_self])
  have hg3 : hget H b3 = some (.vars (cSav s)) := he.sub _ _ (by rw [hget_cons_ne n103, hget_cons_ne n83, hget_cons_ne n63, hget_cons_ne n43, hget_self])
  refine aw_seq fun K4 hK4 => ?_
  refine aw_sr rfl ?_
  simp only [go_sem, reduceIte, Nat.reduceEqDiff, Nat.reduceAdd, Nat.reduceMul, Nat.reduceSub, Nat.reduceLeDiff, Nat.reduceLT, reduceCtorEq, hg8]
  refine aw_if rfl (fun h => ?_) (fun h => ?_)
  · have hlt : (i : Int) < m.2.1 := by simpa using h
    refine aw_skip (hK4 _ _ ?_)
    refine aw_seq fun K5 hK5 => ?_
    refine aw_block ?_
    refine aw_sr rfl ?_
    simp only [go_sem, reduceIte, Nat.reduceEqDiff, Nat.reduceAdd, Nat.reduceMul, Nat.reduceSub, Nat.reduceLeDiff, Nat.reduceLT, reduceCtorEq]
    intro b12 hb12
    have hbase12 := he.sub_none hb12
    obtain ⟨n1210, hx⟩ := fresh_cons hbase12
    obtain ⟨n128, hx⟩ := fresh_cons hx
    obtain ⟨n126, hx⟩ := fresh_cons hx
    obtain ⟨n124, hx⟩ := fresh_cons hx
    obtain ⟨n123, n12⟩ := fresh_cons hx
    refine AW.vars_weak zV_le ?_
    refine aw_seq fun K6 hK6 => ?_
    refine aw_sr rfl ?_
    simp only [go_sem, reduceIte, Nat.reduceEqDiff, Nat.reduceAdd, Nat.reduceMul, Nat.reduceSub, Nat.reduceLeDiff, Nat.reduceLT, reduceCtorEq, n128, hg8]
    refine aw_range m.2.2.1.1.length (S := Unit) (fun _ _ => [(45, .sl (m.2.2.1.1.map eFld) m.2.2.1.2 .no), (11, .int .i64 i), (12, .ptr b12 0), (10, .ptr b10 0), (8, .ptr b8 0), (3, .ptr b3 0), (6, .ptr b6 0), (2, .sl (rest.map eVal) rnl rt)])
      (fun j _ => (b12, .vars (cV (upF ((psF s m).take j) i zV))) :: H) (fun _ _ => True) () (by omega) ?_ (by rw [List.take_zero]; exact sub_rfl) trivial rfl (fun _ _ => rfl) ?_ ?_ (by decide)
    · simp only [go_sem, reduceIte, Nat.reduceEqDiff, Nat.reduceAdd, Nat.reduceMul, Nat.reduceSub, Nat.reduceLeDiff, Nat.reduceLT, reduceCtorEq, Int.natCast_zero]
    · intro j _ hj _
      have hjs : j < s.2.1.1.length := by omega
      have hup := upF_succ (ps := psF s m) (by omega : j < (psF s m).length) i zV
      simp only [psF_get (by omega : j < (psF s m).length) hj hjs] at hup
      refine aw_sr rfl ?_
      simp only [go_sem, reduceIte, Nat.reduceEqDiff, Nat.reduceAdd, Nat.reduceMul, Nat.reduceSub, Nat.reduceLeDiff, Nat.reduceLT, reduceCtorEq, getD_map hj, eFld, cFld, cV]
      refine ⟨⟨by omega, by omega, wid_map (g := eFld) (fun _ => rfl) _⟩, fun b14 hb14 => ?_⟩
      obtain ⟨n1412, hx⟩ := fresh_cons hb14
      have hbase14 := he.sub_none hx
      obtain ⟨n1410, hx⟩ := fresh_cons hbase14
      obtain ⟨n148, hx⟩ := fresh_cons hx
      obtain ⟨n146, hx⟩ := fresh_cons hx
      obtain ⟨n144, hx⟩ := fresh_cons hx
      obtain ⟨n143, n14⟩ := fresh_cons hx
      refine aw_sr rfl ?_
      simp only [go_sem, reduceIte, Nat.reduceEqDiff, Nat.reduceAdd, Nat.reduceMul, Nat.reduceSub, Nat.reduceLeDiff, Nat.reduceLT, reduceCtorEq]
      refine aw_if rfl (fun h => ?_) (fun h => ?_)
      · have h : m.2.2.1.1[j].1 = (i : Int) := by simpa using h
        rw [if_pos h] at hup
        refine aw_rg rfl ?_
        simp only [go_sem, reduceIte, Nat.reduceEqDiff, Nat.reduceAdd, Nat.reduceMul, Nat.reduceSub, Nat.reduceLeDiff, Nat.reduceLT, reduceCtorEq, n143, n123, hg3, n1412, getD_map hjs, eC, cV]
        refine ⟨⟨by omega, by omega, wid_eVal _⟩, (), ?_, ?_⟩
        · simp only [go_sem, reduceIte, Nat.reduceEqDiff, Nat.reduceAdd, Nat.reduceMul, Nat.reduceSub, Nat.reduceLeDiff, Nat.reduceLT, reduceCtorEq]
        · rw [hup]
          exact sub_fresh (by rw [hget_cons_ne (fun e => n1412 e.symm)]; exact (fresh_cons hb14).2) sub_rfl
      · have h : ¬ m.2.2.1.1[j].1 = (i : Int) := by simpa using h
        rw [if_neg h] at hup
        refine aw_skip ⟨(), ?_, ?_⟩
        · simp only [go_sem, reduceIte, Nat.reduceEqDiff, Nat.reduceAdd, Nat.reduceMul, Nat.reduceSub, Nat.reduceLeDiff, Nat.reduceLT, reduceCtorEq]
        · rw [hup]; exact sub_fresh hb14 sub_rfl
    · intro _ _
      refine hK6 _ _ ?_
      have htk : (psF s m).take m.2.2.1.1.length = psF s m := List.take_of_length_le (by omega)
      rw [htk]
      refine aw_seq fun K7 hK7 => ?_
      refine aw_sr rfl ?_
      simp only [go_sem, reduceIte, Nat.reduceEqDiff, Nat.reduceAdd, Nat.reduceMul, Nat.reduceSub, Nat.reduceLeDiff, Nat.reduceLT, reduceCtorEq, n128, hg8]
      refine aw_range m.2.2.2.1.length (S := Unit) (fun _ _ => [(63, .sl (m.2.2.2.1.map eInt) m.2.2.2.2 .no), (11, .int .i64 i), (12, .ptr b12 0), (10, .ptr b10 0), (8, .ptr b8 0), (3, .ptr b3 0), (6, .ptr b6 0), (2, .sl (rest.map eVal) rnl rt)])
        (fun j _ => (b12, .vars (cV (upF ((psL m rest).take j) i (upF (psF s m) i zV)))) :: H) (fun _ _ => True) () (by omega) ?_ (by rw [List.take_zero]; exact sub_rfl) trivial rfl (fun _ _ => rfl) ?_ ?_ (by decide)
      · simp only [go_sem, reduceIte, Nat.reduceEqDiff, Nat.reduceAdd, Nat.reduceMul, Nat.reduceSub, Nat.reduceLeDiff, Nat.reduceLT, reduceCtorEq, Int.natCast_zero]
      · intro j _ hj _
        have hjs : j < rest.length := by omega
        have hup := upF_succ (ps := psL m rest) (by omega : j < (psL m rest).length) i (upF (psF s m) i zV)
        simp only [psL_get (by omega : j < (psL m rest).length) hj hjs] at hup
        refine aw_sr rfl ?_
        simp only [go_sem, reduceIte, Nat.reduceEqDiff, Nat.reduceAdd, Nat.reduceMul, Nat.reduceSub, Nat.reduceLeDiff, Nat.reduceLT, reduceCtorEq, getD_map hj, eInt]
        refine ⟨⟨by omega, by omega, wid_map (g := eInt) (fun _ => rfl) _⟩, ?_⟩
        refine aw_sr rfl ?_
        simp only [go_sem, reduceIte, Nat.reduceEqDiff, Nat.reduceAdd, Nat.reduceMul, Nat.reduceSub, Nat.reduceLeDiff, Nat.reduceLT, reduceCtorEq]
        refine aw_if rfl (fun h => ?_) (fun h => ?_)
        · have h : m.2.2.2.1[j] = (i : Int) := by simpa using h
          rw [if_pos h] at hup
          refine aw_rg rfl ?_
          simp only [go_sem, reduceIte, Nat.reduceEqDiff, Nat.reduceAdd, Nat.reduceMul, Nat.reduceSub, Nat.reduceLeDiff, Nat.reduceLT, reduceCtorEq, getD_map hjs, eC, cV]
          refine ⟨⟨by omega, by omega, wid_eVal _⟩, (), ?_, ?_⟩
          · simp only [go_sem, reduceIte, Nat.reduceEqDiff, Nat.reduceAdd, Nat.reduceMul, Nat.reduceSub, Nat.reduceLeDiff, Nat.reduceLT, reduceCtorEq]
          · rw [hup]; exact sub_rfl
        · have h : ¬ m.2.2.2.1[j] = (i : Int) := by simpa using h
          rw [if_neg h] at hup
          refine aw_skip ⟨(), ?_, ?_⟩
          · simp only [go_sem, reduceIte, Nat.reduceEqDiff, Nat.reduceAdd, Nat.reduceMul, Nat.reduceSub, Nat.reduceLeDiff, Nat.reduceLT, reduceCtorEq]
          · rw [hup]; exact sub_rfl
      · intro _ _
        refine hK7 _ _ ?_
        have htl : (psL m rest).take m.2.2.2.1.length = psL m rest := List.take_of_length_le (by omega)
        rw [htl]
        obtain ⟨H2, hr2, hs2⟩ := he.push (o := .vars (cV (vAt s m rest i))) hb12
        refine AW.of_hsub hs2 ?_
        have hg12 : hget H2 b12 = some (.vars (cV (vAt s m rest i))) := hr2.sub _ _ (hget_self _ _ _)
        have hg10 : hget H2 b10 = some (.vars [.str s.1, .sl (((List.range i).map fun i => vAt s m rest i).map eVal) nl2 t2, .sl [] true .full]) := hr2.sub _ _ (by rw [hget_cons_ne n1210, hget_self])
        have happ := map_range_succ (fun i => vAt s m rest i) i
        refine aw_rg rfl ?_
        simp only [go_sem, reduceIte, Nat.reduceEqDiff, Nat.reduceAdd, Nat.reduceMul, Nat.reduceSub, Nat.reduceLeDiff, Nat.reduceLT, reduceCtorEq, hg12, hg10]
        refine goP_room hr2 ?_ fun t' H' hr => ?_
        · exact ⟨rfl, rfl, by decide, wid_eVal _, wid_one rfl, sca_one rfl, by simp; omega, by simp; omega⟩
        have hg10' : hget H' b10 = some (.vars [.str s.1, .sl (((List.range i).map fun i => vAt s m rest i).map eVal) nl2 t2, .sl [] true .full]) := hr.sub _ _ (by rw [hget_cons_ne n1210, hget_self])
        simp only [go_sem, reduceIte, Nat.reduceEqDiff, Nat.reduceAdd, Nat.reduceMul, Nat.reduceSub, Nat.reduceLeDiff, Nat.reduceLT, reduceCtorEq, happ, hg10', Bool.and_false]
        obtain ⟨H5, hr5, hs5⟩ := hr.pop hbase12
        refine hK5 _ _ ?_
        refine aw_rg rfl ?_
        have hw2 : IntKind.i64.wrap ((i : Int) + 1) = ((i + 1 : Nat) : Int) := by rw [wrap64 (by omega) (by omega)]; simp
        simp only [go_sem, reduceIte, Nat.reduceEqDiff, Nat.reduceAdd, Nat.reduceMul, Nat.reduceSub, Nat.reduceLeDiff, Nat.reduceLT, reduceCtorEq, hw2]
        refine ⟨⟨(i + 1, false, t', hset H5 b10 (.vars [.str s.1, .sl (((List.range (i + 1)).map fun i => vAt s m rest i).map eVal) false t', .sl [] true .full])), by show i + 1 ≤ m.2.1.toNat; omega, hr5.put, by simp⟩, ?_, ?_, ?_⟩
        · show m.2.1.toNat - (i + 1) < m.2.1.toNat - i; omega
        · simp only [go_sem, reduceIte, Nat.reduceEqDiff, Nat.reduceAdd, Nat.reduceMul, Nat.reduceSub, Nat.reduceLeDiff, Nat.reduceLT, reduceCtorEq]
        · show Go.Proofs.YtomjghlaoncpbaaV.Sub (hset H5 b10 _) _
          rw [List.range_succ]; exact sub_hset hs5
  · have hge : i = m.2.1.toNat := by
      have : ¬ (i : Int) < m.2.1 := by simpa using h
      omega
    refine aw_exit ?_
    refine hK3 _ _ ?_
    rw [hge] at he hnl
    have hg10 : hget H b10 = some (.vars [.str s.1, .sl (((List.range m.2.1.toNat).map fun i => vAt s m rest i).map eVal) nl2 t2, .sl [] true .full]) := he.sub _ _ (hget_self _ _ _)
    have hg6 : hget H b6 = some (.vars zSl) := he.sub _ _ (by rw [hget_cons_ne n106, hget_cons_ne n86, hget_self])
    refine aw_sr rfl ?_
    simp only [go_sem, reduceIte, Nat.reduceEqDiff, Nat.reduceAdd, Nat.reduceMul, Nat.reduceSub, Nat.reduceLeDiff, Nat.reduceLT, reduceCtorEq, hg10, hg6]
    refine aw_ret ⟨trivial, [.agg [.str s.1, .sl (((List.range m.2.1.toNat).map fun i => vAt s m rest i).map eVal) nl2 t2, .sl [] true .full], .int .i64 0], ?_, ?_, sub_hset_fresh n6 fun b' o' h => he.sub _ _ (sub_fresh n10 (sub_fresh n8 (sub_fresh n6 (sub_fresh n4 (sub_fresh hb3 sub_rfl)))) _ _ h)⟩
    · simp only [go_sem, reduceIte, Nat.reduceEqDiff, Nat.reduceAdd, Nat.reduceMul, Nat.reduceSub, Nat.reduceLeDiff, Nat.reduceLT, reduceCtorEq, resL, resOf, hget_hset_self hg6]
    · rw [if_neg h0, if_neg h1, hnl]
      exact Vle.tupL (.cons (Vle.aggL (.cons (Vle.refl _) (.cons Vle.untag (.cons Vle.untag .nil)))) (.cons (Vle.refl _) .nil))
end Go.Proofs.Ytomjghlaoncpbaa
