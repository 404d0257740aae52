import Derived.Test.YtomjghlaoncpbaaValG
set_option linter.unusedSimpArgs false
set_option linter.unusedVariables false
namespace Go.Proofs.Ytomjghlaoncpbaa
open Go.Proofs.YtomjghlaoncpbaaV
set_option maxHeartbeats 400000
set_option maxRecDepth 100000
theorem stF_ok {s : Sav} {w : Wy} {old : Bool} (h : (stF s w old).2 = 0) : badM (stF s w old).1 = false ∧ (s.2.1.1.length : Int) = needN (stF s w old).1 old ∧ (stF s w old).1 ∈ w.1 := by
  unfold stF at h ⊢
  split at h
  · rename_i h1; exact absurd h h1
  · rename_i h1
    rw [if_neg h1]
    split at h
    · cases h
    · rename_i h2
      rw [if_neg h2]
      split at h
      · cases h
      · rename_i h3
        rw [if_neg h3]
        refine ⟨?_, by simpa using h2, ?_⟩
        · unfold findF at h1 ⊢
          cases hf : w.1.find? (fun m => decide (m.1 = s.1)) with
          | none => rw [hf] at h1; simp at h1
          | some m =>
            rw [hf] at h1
            simp only at h1 ⊢
            by_cases hb : badM m = true
            · rw [if_pos hb] at h1; simp at h1
            · rw [if_neg hb]; simpa using hb
        · unfold findF at h1 ⊢
          cases hf : w.1.find? (fun m => decide (m.1 = s.1)) with
          | none => rw [hf] at h1; simp at h1
          | some m =>
            rw [hf] at h1
            simp only at h1 ⊢
            by_cases hb : badM m = true
            · rw [if_pos hb] at h1; simp at h1
            · rw [if_neg hb]; exact List.mem_of_find?_eq_some hf
theorem badM_facts {m : Mov} (h : badM m = false) : (0 ≤ m.2.1 ∧ m.2.1 ≤ 1000) ∧ (∀ n ∈ m.2.2.2.1, 0 ≤ n ∧ n < m.2.1) ∧ ∀ f ∈ m.2.2.1.1, f.1 = -1 ∨ (0 ≤ f.1 ∧ f.1 < m.2.1) := by
  simp only [badM, Bool.or_eq_false_iff, decide_eq_false_iff_not, List.any_eq_false] at h
  obtain ⟨⟨⟨h1, h2⟩, h3⟩, h4⟩ := h
  refine ⟨by omega, fun n hn => ?_, fun f hf => ?_⟩
  · have := h3 n hn
    simp only [badN, Bool.or_eq_true, decide_eq_true_eq] at this
    omega
  · have := h4 f hf
    simp only [badF, badN, Bool.and_eq_true, Bool.or_eq_true, decide_eq_true_eq] at this
    omega
def srcF (s : Sav) (f : Fld) : Val := if 0 ≤ f.1 then s.2.1.1.getD f.1.toNat default else f.2
def zS : Sav := ([], ([], true), ([], true))
abbrev zSl : List V := [.str [], .sl [] true .full, .sl [] true .full]
theorem zS_le : Vle (.agg zSl) (.agg (cSav zS)) := Vle.aggL (.cons (Vle.refl _) (.cons Vle.untag (.cons Vle.untag .nil)))
def outS (g : Val → Val) (s : Sav) (m : Mov) : Sav := (s.1, (m.2.2.1.1.map fun f => g (srcF s f), m.2.2.1.1.isEmpty), ([], true))
def turnF (g : Val → Val) (s : Sav) (p : Mov × Int) : Sav × Int := if p.2 ≠ 0 then (zS, p.2) else (outS g s p.1, 0)
def lostF (g : Val → Val) (s : Sav) (m : Mov) : List Val := m.2.2.2.1.map fun n => g (s.2.1.1.getD n.toNat default)
def restF (g : Val → Val) (s : Sav) (p : Mov × Int) : (List Val × Bool) × Int := if p.2 ≠ 0 then (([], true), p.2) else ((lostF g s p.1, p.1.2.2.2.1.isEmpty), 0)
theorem isEmpty_take_succ {A : Type} {xs : List A} {i : Nat} (hi : i < xs.length) : false = (xs.take (i + 1)).isEmpty :=
  (List.isEmpty_eq_false_iff.2 fun e => by have e2 := congrArg List.length e; rw [List.length_take, List.length_nil] at e2; omega).symm
theorem map_take_succ {A : Type} {xs : List A} {i : Nat} (e : A → Val) (hi : i < xs.length) : ((xs.take i).map e).map eVal ++ [cV (e xs[i])] = ((xs.take (i + 1)).map e).map eVal := by
  rw [List.take_succ_eq_append_getElem hi, List.map_append, List.map_append, List.map_cons, List.map_cons, List.map_nil, List.map_nil, eC]
theorem getD_get {A : Type} [Inhabited A] {xs : List A} {i : Nat} (h : i < xs.length) : xs.getD i default = xs[i] := by rw [List.getD_eq_getElem?_getD, List.getElem?_eq_getElem h]; rfl
theorem q_Turn (s : Sav) (w : Wy) (hw : w.1.length ≤ bulk) (hm : ∀ m ∈ w.1, m.2.2.1.1.length ≤ bulk ∧ m.2.2.2.1.length ≤ bulk) (hl : s.2.1.1.length ≤ bulk) (hv : ∀ v ∈ s.2.1.1, v.sz ≤ bulk) (hf : ∀ m ∈ w.1, ∀ f ∈ m.2.2.1.1, f.2.sz ≤ bulk) :
    Quiet Try.prog 34 [.agg (cSav s), .agg (cWy w)] (.tup [.agg (cSav (turnF cpV s (stF s w true)).1), .int .i64 (turnF cpV s (stF s w true)).2]) := by
  have hq := q_start s w true hw hm
  have hok := stF_ok (s := s) (w := w) (old := true)
  unfold turnF
  generalize stF s w true = p at hq hok
  obtain ⟨m, e⟩ := p
  refine Quiet.weak fun G => ?_
  refine acall_body (rs := [.cell 4 40, .tmp 5]) Try.func34 rfl rfl Try.ntmps34 (by kernel_rfl) (Nat.le_of_ble_eq_true rfl) ?_
  refine aw_sr rfl ?_
  simp only [go_sem, reduceIte, Nat.reduceEqDiff, Nat.reduceAdd, Nat.reduceMul, Nat.reduceSub, Nat.reduceLeDiff, Nat.reduceLT, reduceCtorEq]
  intro b2 hb2 b3 hb3 b4 hb4
  obtain ⟨n43, hb4'⟩ := fresh_cons hb4
  obtain ⟨n42, n4⟩ := fresh_cons hb4'
  obtain ⟨n32, n3⟩ := fresh_cons hb3
  refine aw_sr rfl ?_
  simp only [go_sem, reduceIte, Nat.reduceEqDiff, Nat.reduceAdd, Nat.reduceMul, Nat.reduceSub, Nat.reduceLeDiff, Nat.reduceLT, reduceCtorEq, n43, n42, n32]
  refine goA_q hq ?_
  simp only [go_sem, reduceIte, Nat.reduceEqDiff, Nat.reduceAdd, Nat.reduceMul, Nat.reduceSub, Nat.reduceLeDiff, Nat.reduceLT, reduceCtorEq]
  intro b6 hb6
  obtain ⟨n64, hb6'⟩ := fresh_cons hb6
  obtain ⟨n63, hb6''⟩ := fresh_cons hb6'
  obtain ⟨n62, n6⟩ := fresh_cons hb6''
  refine aw_seq fun K8 hK8 => ?_
  refine aw_sr rfl ?_
  simp only [go_sem, reduceIte, Nat.reduceEqDiff, Nat.reduceAdd, Nat.reduceMul, Nat.reduceSub, Nat.reduceLeDiff, Nat.reduceLT, reduceCtorEq]
  refine aw_if rfl (fun h => ?_) (fun h => ?_)
  · refine aw_sr rfl ?_
    simp only [go_sem, reduceIte, Nat.reduceEqDiff, Nat.reduceAdd, Nat.reduceMul, Nat.reduceSub, Nat.reduceLeDiff, Nat.reduceLT, reduceCtorEq, n64, n63, n62, n43, n42, n32]
    refine aw_ret ⟨trivial, [.agg zSl, .int .i64 e], ?_, ?_, sub_fresh n6 (sub_fresh n4 (sub_fresh n3 (sub_fresh hb2 sub_rfl)))⟩
    · simp only [go_sem, reduceIte, Nat.reduceEqDiff, Nat.reduceAdd, Nat.reduceMul, Nat.reduceSub, Nat.reduceLeDiff, Nat.reduceLT, reduceCtorEq, resL, resOf, n64]
    · rw [if_pos (by simpa using h)]
      exact Vle.tupL (.cons zS_le (.cons (Vle.refl _) .nil))
  · have h : e = 0 := by simpa using h
    subst h
    obtain ⟨k1, k2, k3⟩ := hok rfl
    obtain ⟨f1, f2, f3⟩ := badM_facts k1
    simp only [needN, if_true] at k1 k2 k3 f1 f2 f3
    have hfl : m.2.2.1.1.length ≤ 1048576 := (hm m k3).1
    have hl' : s.2.1.1.length ≤ 1048576 := hl
    have h0 : ¬ ((0 : Int) ≠ 0) := by simp
    refine aw_skip (hK8 _ _ ?_)
    refine aw_sr rfl ?_
    simp only [go_sem, reduceIte, Nat.reduceEqDiff, Nat.reduceAdd, Nat.reduceMul, Nat.reduceSub, Nat.reduceLeDiff, Nat.reduceLT, reduceCtorEq, n64, n63, n62, n43, n42, n32]
    intro b8 hb8
    obtain ⟨n86, hb8'⟩ := fresh_cons hb8
    obtain ⟨n84, hb8''⟩ := fresh_cons hb8'
    obtain ⟨n83, hb8'''⟩ := fresh_cons hb8''
    obtain ⟨n82, n8⟩ := fresh_cons hb8'''
    refine aw_seq fun K9 hK9 => ?_
    refine aw_sr rfl ?_
    simp only [go_sem, reduceIte, Nat.reduceEqDiff, Nat.reduceAdd, Nat.reduceMul, Nat.reduceSub, Nat.reduceLeDiff, Nat.reduceLT, reduceCtorEq, n86, n84, n83, n82, n64, n63, n62, n43, n42, n32]
    refine aw_range m.2.2.1.1.length (S := Bool × Tag × Heap) (fun i st => [(26, .sl (m.2.2.1.1.map eFld) m.2.2.1.2 .no), (8, .ptr b8 0), (2, .ptr b2 0), (4, .ptr b4 0)]) (fun _ st => st.2.2)
      (fun i st => Room ((b8, .vars [.str s.1, .sl (((m.2.2.1.1.take i).map fun f => cpV (srcF s f)).map eVal) st.1 st.2.1, .sl [] true .full]) :: (b6, .vars (cMov m)) :: (b4, .vars zSl) :: (b3, .vars (cWy w)) :: (b2, .vars (cSav s)) :: G) 4 st.2.1 st.2.2 ∧ st.1 = (m.2.2.1.1.take i).isEmpty)
      (true, .full, _) (by omega) ?_ (fun _ _ h => h) ⟨by simpa using Room.start _ 4, by simp⟩ rfl (fun _ _ => rfl) ?_ ?_ (by decide)
    · simp only [go_sem, reduceIte, Nat.reduceEqDiff, Nat.reduceAdd, Nat.reduceMul, Nat.reduceSub, Nat.reduceLeDiff, Nat.reduceLT, reduceCtorEq, Int.natCast_zero]
    · intro i ⟨nl2, t2, H⟩ hi ⟨he, hnl⟩
      simp only at he hnl ⊢
      have hfi := f3 _ (List.getElem_mem hi)
      have hg8 : hget H b8 = some (.vars [.str s.1, .sl (((m.2.2.1.1.take i).map fun f => cpV (srcF s f)).map eVal) nl2 t2, .sl [] true .full]) := he.sub _ _ (hget_self _ _ _)
      have hg2 : hget H b2 = some (.vars (cSav s)) := he.sub _ _ (by rw [hget_cons_ne n82, hget_cons_ne n62, hget_cons_ne n42, hget_cons_ne n32, hget_self])
      refine aw_sr rfl ?_
      simp only [go_sem, reduceIte, Nat.reduceEqDiff, Nat.reduceAdd, Nat.reduceMul, Nat.reduceSub, Nat.reduceLeDiff, Nat.reduceLT, reduceCtorEq, getD_map hi, eFld, cFld, cV]
      refine ⟨⟨by omega, by omega, wid_map (g := eFld) (fun _ => rfl) _⟩, fun b10 hb10 => ?_⟩
      have hbase10 := he.sub_none hb10
      obtain ⟨m8, hx⟩ := fresh_cons hbase10
      obtain ⟨_, hx⟩ := fresh_cons hx
      obtain ⟨_, hx⟩ := fresh_cons hx
      obtain ⟨_, hx⟩ := fresh_cons hx
      obtain ⟨m2, n10⟩ := fresh_cons hx
      refine aw_sr rfl ?_
      simp only [go_sem, reduceIte, Nat.reduceEqDiff, Nat.reduceAdd, Nat.reduceMul, Nat.reduceSub, Nat.reduceLeDiff, Nat.reduceLT, reduceCtorEq]
      intro b11 hb11
      obtain ⟨n1110, hb11'⟩ := fresh_cons hb11
      have hbase11 := he.sub_none hb11'
      obtain ⟨l8, hx⟩ := fresh_cons hbase11
      obtain ⟨_, hx⟩ := fresh_cons hx
      obtain ⟨_, hx⟩ := fresh_cons hx
      obtain ⟨_, hx⟩ := fresh_cons hx
      obtain ⟨l2, n11⟩ := fresh_cons hx
      refine aw_mid (fun f' G' => FSub [(11, .ptr b11 0), (8, .ptr b8 0), (28, .int .i64 i), (27, .int .i64 m.2.2.1.1.length), (26, .sl (m.2.2.1.1.map eFld) m.2.2.1.2 .no), (2, .ptr b2 0), (4, .ptr b4 0)] f' ∧ G' = (b11, .vars (cV (srcF s m.2.2.1.1[i]))) :: (b10, .vars (cFld m.2.2.1.1[i])) :: H) ?_ ?_
      · refine aw_sr rfl ?_
        simp only [go_sem, reduceIte, Nat.reduceEqDiff, Nat.reduceAdd, Nat.reduceMul, Nat.reduceSub, Nat.reduceLeDiff, Nat.reduceLT, reduceCtorEq, n1110]
        refine aw_if rfl (fun h => ?_) (fun h => ?_)
        · have h : 0 ≤ m.2.2.1.1[i].1 := by simpa using h
          have hlt : m.2.2.1.1[i].1.toNat < s.2.1.1.length := by omega
          have hsrc : srcF s m.2.2.1.1[i] = s.2.1.1[m.2.2.1.1[i].1.toNat] := by rw [srcF, if_pos h, getD_get hlt]
          refine aw_rg rfl ?_
          simp only [go_sem, reduceIte, Nat.reduceEqDiff, Nat.reduceAdd, Nat.reduceMul, Nat.reduceSub, Nat.reduceLeDiff, Nat.reduceLT, reduceCtorEq, n1110, m2, l2, hg2, getD_map hlt, eC, cV]
          refine ⟨⟨h, by omega, wid_eVal _⟩, ?_, ?_⟩
          · simp only [go_sem, reduceIte, Nat.reduceEqDiff, Nat.reduceAdd, Nat.reduceMul, Nat.reduceSub, Nat.reduceLeDiff, Nat.reduceLT, reduceCtorEq]
          · rw [hsrc]
        · have h : ¬ 0 ≤ m.2.2.1.1[i].1 := by simpa using h
          refine aw_skip ⟨?_, ?_⟩
          · simp only [go_sem, reduceIte, Nat.reduceEqDiff, Nat.reduceAdd, Nat.reduceMul, Nat.reduceSub, Nat.reduceLeDiff, Nat.reduceLT, reduceCtorEq]
          · rw [srcF, if_neg h]
      · rintro f' G' ⟨hf', rfl⟩
        refine AW.of_fsub hf' ?_
        obtain ⟨H2, hr2, hs2⟩ := he.push (o := .vars (cFld m.2.2.1.1[i])) hb10
        have hb11H2 : hget H2 b11 = none := sub_none hs2 hb11
        obtain ⟨H3, hr3, hs3⟩ := hr2.push (o := .vars (cV (srcF s m.2.2.1.1[i]))) hb11H2
        refine AW.of_hsub (sub_trans hs3 (sub_both hs2)) ?_
        have hg11 : hget H3 b11 = some (.vars (cV (srcF s m.2.2.1.1[i]))) := hr3.sub _ _ (hget_self _ _ _)
        have hg8' : hget H3 b8 = some (.vars [.str s.1, .sl (((m.2.2.1.1.take i).map fun f => cpV (srcF s f)).map eVal) nl2 t2, .sl [] true .full]) := hr3.sub _ _ (by rw [hget_cons_ne l8, hget_cons_ne m8, hget_self])
        have hsz : (srcF s m.2.2.1.1[i]).sz ≤ bulk := by
          unfold srcF
          split
          · rename_i h
            have hlt : m.2.2.1.1[i].1.toNat < s.2.1.1.length := by omega
            rw [getD_get hlt]; exact hv _ (List.getElem_mem hlt)
          · exact hf m k3 _ (List.getElem_mem hi)
        refine aw_rgd [(0,true),(1,true),(2,true),(3,true),(4,true),(5,false),(6,true),(7,false)] mixed rfl (by kernel_rfl) ?_
        simp only [go_sem, reduceIte, Nat.reduceEqDiff, Nat.reduceAdd, Nat.reduceMul, Nat.reduceSub, Nat.reduceLeDiff, Nat.reduceLT, reduceCtorEq, hg11, hg8']
        refine goQ_by (q_copied0 _ (srcF s m.2.2.1.1[i]) (Nat.le_refl _) hsz) ?_
        simp only [go_sem, reduceIte, Nat.reduceEqDiff, Nat.reduceAdd, Nat.reduceMul, Nat.reduceSub, Nat.reduceLeDiff, Nat.reduceLT, reduceCtorEq]
        have happ := map_take_succ (fun f => cpV (srcF s f)) hi
        refine goP_room hr3 ?_ fun t' H' hr => ?_
        · exact ⟨rfl, rfl, by decide, wid_eVal _, wid_one rfl, sca_one rfl, by simp; omega, by simp; omega⟩
        have hg8'' : hget H' b8 = some (.vars [.str s.1, .sl (((m.2.2.1.1.take i).map fun f => cpV (srcF s f)).map eVal) nl2 t2, .sl [] true .full]) := hr.sub _ _ (by rw [hget_cons_ne l8, hget_cons_ne m8, hget_self])
        simp only [go_sem, reduceIte, Nat.reduceEqDiff, Nat.reduceAdd, Nat.reduceMul, Nat.reduceSub, Nat.reduceLeDiff, Nat.reduceLT, reduceCtorEq, happ, hg8'', Bool.and_false]
        obtain ⟨H4, hr4, hs4⟩ := hr.pop (o := .vars (cV (srcF s m.2.2.1.1[i]))) (by rw [hget_cons_ne (fun e => n1110 e.symm)]; exact hbase11)
        obtain ⟨H5, hr5, hs5⟩ := hr4.pop hbase10
        refine ⟨(false, t', hset H5 b8 (.vars [.str s.1, .sl (((m.2.2.1.1.take (i + 1)).map fun f => cpV (srcF s f)).map eVal) false t', .sl [] true .full])), ⟨hr5.put, isEmpty_take_succ hi⟩, ?_, sub_hset (sub_trans hs5 hs4)⟩
        simp only [go_sem, reduceIte, Nat.reduceEqDiff, Nat.reduceAdd, Nat.reduceMul, Nat.reduceSub, Nat.reduceLeDiff, Nat.reduceLT, reduceCtorEq]
    · intro ⟨nl2, t2, H⟩ ⟨he, hnl⟩
      simp only at he hnl ⊢
      refine hK9 _ _ ?_
      have hg8 : hget H b8 = some (.vars [.str s.1, .sl ((m.2.2.1.1.map fun f => cpV (srcF s f)).map eVal) nl2 t2, .sl [] true .full]) := by
        have := he.sub _ _ (hget_self _ _ _)
        rwa [List.take_length] at this
      have hg4 : hget H b4 = some (.vars zSl) := he.sub _ _ (by rw [hget_cons_ne n84, hget_cons_ne n64, hget_self])
      refine aw_sr rfl ?_
      simp only [go_sem, reduceIte, Nat.reduceEqDiff, Nat.reduceAdd, Nat.reduceMul, Nat.reduceSub, Nat.reduceLeDiff, Nat.reduceLT, reduceCtorEq, hg8, hg4]
      refine aw_ret ⟨trivial, [.agg [.str s.1, .sl ((m.2.2.1.1.map fun f => cpV (srcF s f)).map eVal) nl2 t2, .sl [] true .full], .int .i64 0], ?_, ?_, sub_hset_fresh n4 fun b' o' h => he.sub _ _ (sub_fresh n8 (sub_fresh n6 (sub_fresh n4 (sub_fresh n3 (sub_fresh hb2 sub_rfl)))) _ _ h)⟩
      · simp only [go_sem, reduceIte, Nat.reduceEqDiff, Nat.reduceAdd, Nat.reduceMul, Nat.reduceSub, Nat.reduceLeDiff, Nat.reduceLT, reduceCtorEq, resL, resOf, hget_hset_self hg4]
      · rw [List.take_length] at hnl
        rw [if_neg h0, hnl]
        exact Vle.tupL (.cons (Vle.aggL (.cons (Vle.refl _) (.cons Vle.untag (.cons Vle.untag .nil)))) (.cons (Vle.refl _) .nil))
end Go.Proofs.Ytomjghlaoncpbaa
