import Derived.Test.YtomjghlaoncpbaaValH
set_option linter.unusedSimpArgs false
set_option linter.unusedVariables false
namespace Go.Proofs.Ytomjghlaoncpbaa
open Go.Proofs.YtomjghlaoncpbaaV
set_option maxHeartbeats 400000
set_option maxRecDepth 100000
abbrev cVs (x : List Val × Bool) : V := .sl (x.1.map eVal) x.2 .no
theorem q_Rest (s : Sav) (w : Wy) (hw : w.1.length ≤ bulk) (hm : ∀ m ∈ w.1, m.2.2.1.1.length ≤ bulk ∧ m.2.2.2.1.length ≤ bulk) (hl : s.2.1.1.length ≤ bulk) (hv : ∀ v ∈ s.2.1.1, v.sz ≤ bulk) :
    Quiet Try.prog 35 [.agg (cSav s), .agg (cWy w)] (.tup [cVs (restF cpV s (stF s w true)).1, .int .i64 (restF cpV s (stF s w true)).2]) := by
  have hq := q_start s w true hw hm
  have hok := stF_ok (s := s) (w := w) (old := true)
  unfold restF
  generalize stF s w true = p at hq hok
  obtain ⟨m, e⟩ := p
  refine Quiet.weak fun G => ?_
  refine acall_body (rs := [.tmp 4, .tmp 5]) Try.func35 rfl rfl Try.ntmps35 (by kernel_rfl) (Nat.le_of_ble_eq_true rfl) ?_
  refine aw_sr rfl ?_
  simp only [go_sem, reduceIte, Nat.reduceEqDiff, Nat.reduceAdd, Nat.reduceMul, Nat.reduceSub, Nat.reduceLeDiff, Nat.reduceLT, reduceCtorEq]
  intro b2 hb2 b3 hb3
  obtain ⟨n32, n3⟩ := fresh_cons hb3
  refine aw_sr rfl ?_
  simp only [go_sem, reduceIte, Nat.reduceEqDiff, Nat.reduceAdd, Nat.reduceMul, Nat.reduceSub, Nat.reduceLeDiff, Nat.reduceLT, reduceCtorEq, n32]
  refine goA_q hq ?_
  simp only [go_sem, reduceIte, Nat.reduceEqDiff, Nat.reduceAdd, Nat.reduceMul, Nat.reduceSub, Nat.reduceLeDiff, Nat.reduceLT, reduceCtorEq]
  intro b6 hb6
  obtain ⟨n63, hb6''⟩ := fresh_cons hb6
  obtain ⟨n62, n6⟩ := fresh_cons hb6''
  refine aw_seq fun K8 hK8 => ?_
  refine aw_sr rfl ?_
  simp only [go_sem, reduceIte, Nat.reduceEqDiff, Nat.reduceAdd, Nat.reduceMul, Nat.reduceSub, Nat.reduceLeDiff, Nat.reduceLT, reduceCtorEq]
  refine aw_if rfl (fun h => ?_) (fun h => ?_)
  · refine aw_sr rfl ?_
    simp only [go_sem, reduceIte, Nat.reduceEqDiff, Nat.reduceAdd, Nat.reduceMul, Nat.reduceSub, Nat.reduceLeDiff, Nat.reduceLT, reduceCtorEq]
    refine aw_ret ⟨trivial, _, rfl, ?_, sub_fresh n6 (sub_fresh n3 (sub_fresh hb2 sub_rfl))⟩
    rw [if_pos (by simpa using h)]
    exact Vle.tupL (.cons Vle.untag (.cons (Vle.refl _) .nil))
  · have h : e = 0 := by simpa using h
    subst h
    obtain ⟨k1, k2, k3⟩ := hok rfl
    obtain ⟨f1, f2, f3⟩ := badM_facts k1
    simp only [needN, if_true] at k1 k2 k3 f1 f2 f3
    have hfl : m.2.2.2.1.length ≤ 1048576 := (hm m k3).2
    have hl' : s.2.1.1.length ≤ 1048576 := hl
    have h0 : ¬ ((0 : Int) ≠ 0) := by simp
    refine aw_skip (hK8 _ _ ?_)
    refine aw_sr rfl ?_
    simp only [go_sem, reduceIte, Nat.reduceEqDiff, Nat.reduceAdd, Nat.reduceMul, Nat.reduceSub, Nat.reduceLeDiff, Nat.reduceLT, reduceCtorEq]
    refine aw_seq fun K9 hK9 => ?_
    refine aw_sr rfl ?_
    simp only [go_sem, reduceIte, Nat.reduceEqDiff, Nat.reduceAdd, Nat.reduceMul, Nat.reduceSub, Nat.reduceLeDiff, Nat.reduceLT, reduceCtorEq, n63, n62, n32]
    refine aw_range m.2.2.2.1.length (S := Bool × Tag × Heap) (fun i st => [(21, .sl (m.2.2.2.1.map eInt) m.2.2.2.2 .no), (2, .ptr b2 0), (8, .sl (((m.2.2.2.1.take i).map fun n => cpV (s.2.1.1.getD n.toNat default)).map eVal) st.1 st.2.1)]) (fun _ st => st.2.2)
      (fun i st => Room ((b6, .vars (cMov m)) :: (b3, .vars (cWy w)) :: (b2, .vars (cSav s)) :: G) 4 st.2.1 st.2.2 ∧ st.1 = (m.2.2.2.1.take i).isEmpty)
      (true, .full, _) (by omega) ?_ (fun _ _ h => h) ⟨Room.start _ 4, by simp⟩ rfl (fun _ _ => rfl) ?_ ?_ (by decide)
    · simp only [go_sem, reduceIte, Nat.reduceEqDiff, Nat.reduceAdd, Nat.reduceMul, Nat.reduceSub, Nat.reduceLeDiff, Nat.reduceLT, reduceCtorEq, Int.natCast_zero, List.take_zero, List.map_nil]
    · intro i ⟨nl2, t2, H⟩ hi ⟨he, hnl⟩
      simp only at he hnl ⊢
      have hfi := f2 _ (List.getElem_mem hi)
      have hlt : m.2.2.2.1[i].toNat < s.2.1.1.length := by omega
      have hg2 : hget H b2 = some (.vars (cSav s)) := he.sub _ _ (by rw [hget_cons_ne n62, hget_cons_ne n32, hget_self])
      refine aw_sr rfl ?_
      simp only [go_sem, reduceIte, Nat.reduceEqDiff, Nat.reduceAdd, Nat.reduceMul, Nat.reduceSub, Nat.reduceLeDiff, Nat.reduceLT, reduceCtorEq, getD_map hi, eInt]
      refine ⟨⟨by omega, by omega, wid_map (g := eInt) (fun _ => rfl) _⟩, ?_⟩
      refine aw_rg rfl ?_
      simp only [go_sem, reduceIte, Nat.reduceEqDiff, Nat.reduceAdd, Nat.reduceMul, Nat.reduceSub, Nat.reduceLeDiff, Nat.reduceLT, reduceCtorEq, hg2, getD_map hlt, eC, cV]
      refine ⟨⟨by omega, by omega, wid_eVal _⟩, ?_⟩
      refine goA_q (q_copied0 _ s.2.1.1[m.2.2.2.1[i].toNat] (Nat.le_refl _) (hv _ (List.getElem_mem hlt))) ?_
      simp only [go_sem, reduceIte, Nat.reduceEqDiff, Nat.reduceAdd, Nat.reduceMul, Nat.reduceSub, Nat.reduceLeDiff, Nat.reduceLT, reduceCtorEq]
      have happ := map_take_succ (fun n : Int => cpV (s.2.1.1.getD n.toNat default)) hi
      rw [getD_get hlt] at happ
      refine goP_room he ?_ fun t' H' hr => ?_
      · exact ⟨rfl, rfl, by decide, wid_eVal _, wid_one rfl, sca_one rfl, by simp; omega, by simp; omega⟩
      simp only [go_sem, reduceIte, Nat.reduceEqDiff, Nat.reduceAdd, Nat.reduceMul, Nat.reduceSub, Nat.reduceLeDiff, Nat.reduceLT, reduceCtorEq, happ, Bool.and_false]
      refine ⟨(false, t', H'), ⟨hr, isEmpty_take_succ hi⟩, ?_, fun _ _ h => h⟩
      simp only [go_sem, reduceIte, Nat.reduceEqDiff, Nat.reduceAdd, Nat.reduceMul, Nat.reduceSub, Nat.reduceLeDiff, Nat.reduceLT, reduceCtorEq]
    · intro ⟨nl2, t2, H⟩ ⟨he, hnl⟩
      simp only at he hnl ⊢
      refine hK9 _ _ ?_
      refine aw_sr rfl ?_
      simp only [go_sem, reduceIte, Nat.reduceEqDiff, Nat.reduceAdd, Nat.reduceMul, Nat.reduceSub, Nat.reduceLeDiff, Nat.reduceLT, reduceCtorEq]
      refine aw_ret ⟨trivial, _, rfl, ?_, fun b' o' h => he.sub _ _ (sub_fresh n6 (sub_fresh n3 (sub_fresh hb2 sub_rfl)) _ _ h)⟩
      rw [List.take_length] at hnl ⊢
      rw [if_neg h0, hnl]
      exact Vle.tupL (.cons Vle.untag (.cons (Vle.refl _) .nil))
theorem q_RenewTurn (s : Sav) (w : Wy) (hw : w.1.length ≤ bulk) (hm : ∀ m ∈ w.1, m.2.2.1.1.length ≤ bulk ∧ m.2.2.2.1.length ≤ bulk) (hl : s.2.1.1.length ≤ bulk) :
    Quiet Try.prog 36 [.agg (cSav s), .agg (cWy w)] (.tup [.agg (cSav (turnF id s (stF s w true)).1), cVs (restF id s (stF s w true)).1, .int .i64 (turnF id s (stF s w true)).2]) := by
  have hq := q_renewed s w true hw hm
  have hok := stF_ok (s := s) (w := w) (old := true)
  unfold turnF restF
  generalize stF s w true = p at hq hok
  obtain ⟨m, e⟩ := p
  refine Quiet.weak fun G => ?_
  refine acall_body (rs := [.cell 4 40, .tmp 5, .tmp 6]) Try.func36 rfl rfl Try.ntmps36 (by kernel_rfl) (Nat.le_of_ble_eq_true rfl) ?_
  refine aw_sr rfl ?_
  simp only [go_sem, reduceIte, Nat.reduceEqDiff, Nat.reduceAdd, Nat.reduceMul, Nat.reduceSub, Nat.reduceLeDiff, Nat.reduceLT, reduceCtorEq]
  intro b2 hb2 b3 hb3 b4 hb4
  obtain ⟨n43, hb4'⟩ := fresh_cons hb4
  obtain ⟨n42, n4⟩ := fresh_cons hb4'
  obtain ⟨n32, n3⟩ := fresh_cons hb3
  refine aw_sr rfl ?_
  simp only [go_sem, reduceIte, Nat.reduceEqDiff, Nat.reduceAdd, Nat.reduceMul, Nat.reduceSub, Nat.reduceLeDiff, Nat.reduceLT, reduceCtorEq, n43, n42, n32]
  refine goA_q hq ?_
  simp only [go_sem, reduceIte, Nat.reduceEqDiff, Nat.reduceAdd, Nat.reduceMul, Nat.reduceSub, Nat.reduceLeDiff, Nat.reduceLT, reduceCtorEq]
  intro b6 hb6
  obtain ⟨n64, hb6'⟩ := fresh_cons hb6
  obtain ⟨n63, hb6''⟩ := fresh_cons hb6'
  obtain ⟨n62, n6⟩ := fresh_cons hb6''
  refine aw_seq fun K8 hK8 => ?_
  refine aw_sr rfl ?_
  simp only [go_sem, reduceIte, Nat.reduceEqDiff, Nat.reduceAdd, Nat.reduceMul, Nat.reduceSub, Nat.reduceLeDiff, Nat.reduceLT, reduceCtorEq]
  refine aw_if rfl (fun h => ?_) (fun h => ?_)
  · refine aw_sr rfl ?_
    simp only [go_sem, reduceIte, Nat.reduceEqDiff, Nat.reduceAdd, Nat.reduceMul, Nat.reduceSub, Nat.reduceLeDiff, Nat.reduceLT, reduceCtorEq, n64, n63, n62, n43, n42, n32]
    refine aw_ret ⟨trivial, [.agg zSl, .sl [] true .full, .int .i64 e], ?_, ?_, sub_fresh n6 (sub_fresh n4 (sub_fresh n3 (sub_fresh hb2 sub_rfl)))⟩
    · simp only [go_sem, reduceIte, Nat.reduceEqDiff, Nat.reduceAdd, Nat.reduceMul, Nat.reduceSub, Nat.reduceLeDiff, Nat.reduceLT, reduceCtorEq, resL, resOf, n64]
    · have h : e ≠ 0 := by simpa using h
      rw [if_pos h, if_pos h]
      exact Vle.tupL (.cons zS_le (.cons Vle.untag (.cons (Vle.refl _) .nil)))
  · have h : e = 0 := by simpa using h
    subst h
    obtain ⟨k1, k2, k3⟩ := hok rfl
    obtain ⟨f1, f2, f3⟩ := badM_facts k1
    simp only [needN, if_true] at k1 k2 k3 f1 f2 f3
    have hfl : m.2.2.1.1.length ≤ 1048576 := (hm m k3).1
    have hll : m.2.2.2.1.length ≤ 1048576 := (hm m k3).2
    have hl' : s.2.1.1.length ≤ 1048576 := hl
    have h0 : ¬ ((0 : Int) ≠ 0) := by simp
    refine aw_skip (hK8 _ _ ?_)
    refine aw_sr rfl ?_
    simp only [go_sem, reduceIte, Nat.reduceEqDiff, Nat.reduceAdd, Nat.reduceMul, Nat.reduceSub, Nat.reduceLeDiff, Nat.reduceLT, reduceCtorEq, n64, n63, n62, n43, n42, n32]
    intro b8 hb8
    obtain ⟨n86, hb8'⟩ := fresh_cons hb8
    obtain ⟨n84, hb8''⟩ := fresh_cons hb8'
    obtain ⟨n83, hb8'''⟩ := fresh_cons hb8''
    obtain ⟨n82, n8⟩ := fresh_cons hb8'''
    refine aw_seq fun K9 hK9 => ?_
    refine aw_sr rfl ?_
    simp only [go_sem, reduceIte, Nat.reduceEqDiff, Nat.reduceAdd, Nat.reduceMul, Nat.reduceSub, Nat.reduceLeDiff, Nat.reduceLT, reduceCtorEq, n86, n84, n83, n82, n64, n63, n62, n43, n42, n32]
    refine aw_range m.2.2.1.1.length (S := Bool × Tag × Heap) (fun i st => [(29, .sl (m.2.2.1.1.map eFld) m.2.2.1.2 .no), (9, .ptr b8 0), (2, .ptr b2 0), (4, .ptr b4 0), (7, .ptr b6 0)]) (fun _ st => st.2.2)
      (fun i st => Room ((b8, .vars [.str s.1, .sl (((m.2.2.1.1.take i).map fun f => srcF s f).map eVal) st.1 st.2.1, .sl [] true .full]) :: (b6, .vars (cMov m)) :: (b4, .vars zSl) :: (b3, .vars (cWy w)) :: (b2, .vars (cSav s)) :: G) 4 st.2.1 st.2.2 ∧ st.1 = (m.2.2.1.1.take i).isEmpty)
      (true, .full, _) (by omega) ?_ (fun _ _ h => h) ⟨by simpa using Room.start _ 4, by simp⟩ rfl (fun _ _ => rfl) ?_ ?_ (by decide)
    · simp only [go_sem, reduceIte, Nat.reduceEqDiff, Nat.reduceAdd, Nat.reduceMul, Nat.reduceSub, Nat.reduceLeDiff, Nat.reduceLT, reduceCtorEq, Int.natCast_zero]
    · intro i ⟨nl2, t2, H⟩ hi ⟨he, hnl⟩
      simp only at he hnl ⊢
      have hfi := f3 _ (List.getElem_mem hi)
      refine aw_sr rfl ?_
      simp only [go_sem, reduceIte, Nat.reduceEqDiff, Nat.reduceAdd, Nat.reduceMul, Nat.reduceSub, Nat.reduceLeDiff, Nat.reduceLT, reduceCtorEq, getD_map hi, eFld, cFld, cV]
      refine ⟨⟨by omega, by omega, wid_map (g := eFld) (fun _ => rfl) _⟩, fun b10 hb10 => ?_⟩
      have hbase10 := he.sub_none hb10
      obtain ⟨m8, hx⟩ := fresh_cons hbase10
      obtain ⟨_, hx⟩ := fresh_cons hx
      obtain ⟨_, hx⟩ := fresh_cons hx
      obtain ⟨_, hx⟩ := fresh_cons hx
      obtain ⟨m2, n10⟩ := fresh_cons hx
      obtain ⟨H2, hr2, hs2⟩ := he.push (o := .vars (cFld m.2.2.1.1[i])) hb10
      refine AW.of_hsub hs2 ?_
      have hg10 : hget H2 b10 = some (.vars (cFld m.2.2.1.1[i])) := hr2.sub _ _ (hget_self _ _ _)
      have hg8 : hget H2 b8 = some (.vars [.str s.1, .sl (((m.2.2.1.1.take i).map fun f => srcF s f).map eVal) nl2 t2, .sl [] true .full]) := hr2.sub _ _ (by rw [hget_cons_ne m8, hget_self])
      have hg2 : hget H2 b2 = some (.vars (cSav s)) := hr2.sub _ _ (by rw [hget_cons_ne m2, hget_cons_ne n82, hget_cons_ne n62, hget_cons_ne n42, hget_cons_ne n32, hget_self])
      have happ := map_take_succ (fun f => srcF s f) hi
      refine aw_sr rfl ?_
      simp only [go_sem, reduceIte, Nat.reduceEqDiff, Nat.reduceAdd, Nat.reduceMul, Nat.reduceSub, Nat.reduceLeDiff, Nat.reduceLT, reduceCtorEq, hg10]
      refine aw_if rfl (fun h => ?_) (fun h => ?_)
      · have h : m.2.2.1.1[i].1 < 0 := by simpa using h
        have hsrc : srcF s m.2.2.1.1[i] = m.2.2.1.1[i].2 := by rw [srcF, if_neg (by omega)]
        rw [hsrc] at happ
        refine aw_rg rfl ?_
        simp only [go_sem, reduceIte, Nat.reduceEqDiff, Nat.reduceAdd, Nat.reduceMul, Nat.reduceSub, Nat.reduceLeDiff, Nat.reduceLT, reduceCtorEq, hg10, hg8]
        refine goP_room hr2 ?_ fun t' H' hr => ?_
        · exact ⟨rfl, rfl, by decide, wid_eVal _, wid_one rfl, sca_one rfl, by simp; omega, by simp; omega⟩
        have hg8'' : hget H' b8 = some (.vars [.str s.1, .sl (((m.2.2.1.1.take i).map fun f => srcF s f).map eVal) nl2 t2, .sl [] true .full]) := hr.sub _ _ (by rw [hget_cons_ne m8, hget_self])
        simp only [go_sem, reduceIte, Nat.reduceEqDiff, Nat.reduceAdd, Nat.reduceMul, Nat.reduceSub, Nat.reduceLeDiff, Nat.reduceLT, reduceCtorEq, happ, hg8'', Bool.and_false]
        obtain ⟨H5, hr5, hs5⟩ := hr.pop hbase10
        refine ⟨(false, t', hset H5 b8 (.vars [.str s.1, .sl (((m.2.2.1.1.take (i + 1)).map fun f => srcF s f).map eVal) false t', .sl [] true .full])), ⟨hr5.put, isEmpty_take_succ hi⟩, ?_, sub_hset hs5⟩
        simp only [go_sem, reduceIte, Nat.reduceEqDiff, Nat.reduceAdd, Nat.reduceMul, Nat.reduceSub, Nat.reduceLeDiff, Nat.reduceLT, reduceCtorEq]
      · have h : 0 ≤ m.2.2.1.1[i].1 := by simpa using h
        have hlt : m.2.2.1.1[i].1.toNat < s.2.1.1.length := by omega
        have hsrc : srcF s m.2.2.1.1[i] = s.2.1.1[m.2.2.1.1[i].1.toNat] := by rw [srcF, if_pos h, getD_get hlt]
        rw [hsrc] at happ
        refine aw_rgd [(0,true),(1,true),(2,true),(3,true),(4,true),(5,true),(6,true),(7,true),(8,true),(9,false),(10,true),(11,false)] mixed rfl (by kernel_rfl) ?_
        simp only [go_sem, reduceIte, Nat.reduceEqDiff, Nat.reduceAdd, Nat.reduceMul, Nat.reduceSub, Nat.reduceLeDiff, Nat.reduceLT, reduceCtorEq, hg10, hg8, hg2, getD_map hlt, eC, cV]
        refine ⟨⟨h, by omega, wid_eVal _⟩, ?_⟩
        refine goP_room hr2 ?_ fun t' H' hr => ?_
        · exact ⟨rfl, rfl, by decide, wid_eVal _, wid_one rfl, sca_one rfl, by simp; omega, by simp; omega⟩
        have hg8'' : hget H' b8 = some (.vars [.str s.1, .sl (((m.2.2.1.1.take i).map fun f => srcF s f).map eVal) nl2 t2, .sl [] true .full]) := hr.sub _ _ (by rw [hget_cons_ne m8, hget_self])
        simp only [go_sem, reduceIte, Nat.reduceEqDiff, Nat.reduceAdd, Nat.reduceMul, Nat.reduceSub, Nat.reduceLeDiff, Nat.reduceLT, reduceCtorEq, happ, hg8'', Bool.and_false]
        obtain ⟨H5, hr5, hs5⟩ := hr.pop hbase10
        refine ⟨(false, t', hset H5 b8 (.vars [.str s.1, .sl (((m.2.2.1.1.take (i + 1)).map fun f => srcF s f).map eVal) false t', .sl [] true .full])), ⟨hr5.put, isEmpty_take_succ hi⟩, ?_, sub_hset hs5⟩
        simp only [go_sem, reduceIte, Nat.reduceEqDiff, Nat.reduceAdd, Nat.reduceMul, Nat.reduceSub, Nat.reduceLeDiff, Nat.reduceLT, reduceCtorEq]
    · intro ⟨nl1, t1, H⟩ ⟨he, hnl1⟩
      simp only at he hnl1 ⊢
      refine hK9 _ _ ?_
      have he' : Sub ((b8, .vars [.str s.1, .sl ((m.2.2.1.1.map fun f => srcF s f).map eVal) nl1 t1, .sl [] true .full]) :: (b6, .vars (cMov m)) :: (b4, .vars zSl) :: (b3, .vars (cWy w)) :: (b2, .vars (cSav s)) :: G) H := by
        have := he.sub
        rwa [List.take_length] at this
      refine AW.of_hsub he' ?_
      refine aw_sr rfl ?_
      simp only [go_sem, reduceIte, Nat.reduceEqDiff, Nat.reduceAdd, Nat.reduceMul, Nat.reduceSub, Nat.reduceLeDiff, Nat.reduceLT, reduceCtorEq]
      refine aw_seq fun K10 hK10 => ?_
      refine aw_sr rfl ?_
      simp only [go_sem, reduceIte, Nat.reduceEqDiff, Nat.reduceAdd, Nat.reduceMul, Nat.reduceSub, Nat.reduceLeDiff, Nat.reduceLT, reduceCtorEq, n86]
      refine aw_range m.2.2.2.1.length (S := Bool × Tag × Heap) (fun i st => [(58, .sl (m.2.2.2.1.map eInt) m.2.2.2.2 .no), (2, .ptr b2 0), (4, .ptr b4 0), (9, .ptr b8 0), (12, .sl (((m.2.2.2.1.take i).map fun n => s.2.1.1.getD n.toNat default).map eVal) st.1 st.2.1)]) (fun _ st => st.2.2)
        (fun i st => Room ((b8, .vars [.str s.1, .sl ((m.2.2.1.1.map fun f => srcF s f).map eVal) nl1 t1, .sl [] true .full]) :: (b6, .vars (cMov m)) :: (b4, .vars zSl) :: (b3, .vars (cWy w)) :: (b2, .vars (cSav s)) :: G) 4 st.2.1 st.2.2 ∧ st.1 = (m.2.2.2.1.take i).isEmpty)
        (true, .full, _) (by omega) ?_ (fun _ _ h => h) ⟨Room.start _ 4, by simp⟩ rfl (fun _ _ => rfl) ?_ ?_ (by decide)
      · simp only [go_sem, reduceIte, Nat.reduceEqDiff, Nat.reduceAdd, Nat.reduceMul, Nat.reduceSub, Nat.reduceLeDiff, Nat.reduceLT, reduceCtorEq, Int.natCast_zero, List.take_zero, List.map_nil]
      · intro i ⟨nl2, t2, H⟩ hi ⟨he, hnl⟩
        simp only at he hnl ⊢
        have hfi := f2 _ (List.getElem_mem hi)
        have hlt : m.2.2.2.1[i].toNat < s.2.1.1.length := by omega
        have hg2 : hget H b2 = some (.vars (cSav s)) := he.sub _ _ (by rw [hget_cons_ne n82, hget_cons_ne n62, hget_cons_ne n42, hget_cons_ne n32, hget_self])
        refine aw_sr rfl ?_
        simp only [go_sem, reduceIte, Nat.reduceEqDiff, Nat.reduceAdd, Nat.reduceMul, Nat.reduceSub, Nat.reduceLeDiff, Nat.reduceLT, reduceCtorEq, getD_map hi, eInt]
        refine ⟨⟨by omega, by omega, wid_map (g := eInt) (fun _ => rfl) _⟩, ?_⟩
        refine aw_rg rfl ?_
        simp only [go_sem, reduceIte, Nat.reduceEqDiff, Nat.reduceAdd, Nat.reduceMul, Nat.reduceSub, Nat.reduceLeDiff, Nat.reduceLT, reduceCtorEq, hg2, getD_map hlt, eC, cV]
        refine ⟨⟨by omega, by omega, wid_eVal _⟩, ?_⟩
        have happ := map_take_succ (fun n : Int => s.2.1.1.getD n.toNat default) hi
        rw [getD_get hlt] at happ
        refine goP_room he ?_ fun t' H' hr => ?_
        · exact ⟨rfl, rfl, by decide, wid_eVal _, wid_one rfl, sca_one rfl, by simp; omega, by simp; omega⟩
        simp only [go_sem, reduceIte, Nat.reduceEqDiff, Nat.reduceAdd, Nat.reduceMul, Nat.reduceSub, Nat.reduceLeDiff, Nat.reduceLT, reduceCtorEq, happ, Bool.and_false]
        refine ⟨(false, t', H'), ⟨hr, isEmpty_take_succ hi⟩, ?_, fun _ _ h => h⟩
        simp only [go_sem, reduceIte, Nat.reduceEqDiff, Nat.reduceAdd, Nat.reduceMul, Nat.reduceSub, Nat.reduceLeDiff, Nat.reduceLT, reduceCtorEq]
      · intro ⟨nl2, t2, H⟩ ⟨he, hnl⟩
        simp only at he hnl ⊢
        refine hK10 _ _ ?_
        have hg8 : hget H b8 = some (.vars [.str s.1, .sl ((m.2.2.1.1.map fun f => srcF s f).map eVal) nl1 t1, .sl [] true .full]) := he.sub _ _ (hget_self _ _ _)
        have hg4 : hget H b4 = some (.vars zSl) := he.sub _ _ (by rw [hget_cons_ne n84, hget_cons_ne n64, hget_self])
        refine aw_sr rfl ?_
        simp only [go_sem, reduceIte, Nat.reduceEqDiff, Nat.reduceAdd, Nat.reduceMul, Nat.reduceSub, Nat.reduceLeDiff, Nat.reduceLT, reduceCtorEq, hg8, hg4]
        refine aw_ret ⟨trivial, [.agg [.str s.1, .sl ((m.2.2.1.1.map fun f => srcF s f).map eVal) nl1 t1, .sl [] true .full], .sl ((m.2.2.2.1.map fun n => s.2.1.1.getD n.toNat default).map eVal) nl2 t2, .int .i64 0], ?_, ?_, sub_hset_fresh n4 fun b' o' h => he.sub _ _ (sub_fresh n8 (sub_fresh n6 (sub_fresh n4 (sub_fresh n3 (sub_fresh hb2 sub_rfl)))) _ _ h)⟩
        · simp only [go_sem, reduceIte, Nat.reduceEqDiff, Nat.reduceAdd, Nat.reduceMul, Nat.reduceSub, Nat.reduceLeDiff, Nat.reduceLT, reduceCtorEq, resL, resOf, hget_hset_self hg4, List.take_length]
        · rw [List.take_length] at hnl hnl1
          rw [if_neg h0, if_neg h0, hnl, hnl1]
          exact Vle.tupL (.cons (Vle.aggL (.cons (Vle.refl _) (.cons Vle.untag (.cons Vle.untag .nil)))) (.cons Vle.untag (.cons (Vle.refl _) .nil)))
end Go.Proofs.Ytomjghlaoncpbaa
