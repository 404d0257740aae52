import Derived.Test.YtomjghlaoncpbaaValI
set_option linter.unusedSimpArgs false
set_option linter.unusedVariables false
namespace Go.Proofs.Ytomjghlaoncpbaa
open Go.Proofs.YtomjghlaoncpbaaV
set_option maxHeartbeats 400000
set_option maxRecDepth 100000
/-- Who writes place i last. -/
def upF (ps : List (Int × Val)) (i : Nat) (v : Val) : Val := ps.foldl (fun v p => if p.1 = (i : Int) then p.2 else v) v
theorem upF_succ {ps : List (Int × Val)} {j : Nat} (h : j < ps.length) (i : Nat) (v : Val) : upF (ps.take (j + 1)) i v = if ps[j].1 = (i : Int) then ps[j].2 else upF (ps.take j) i v := by
  rw [List.take_succ_eq_append_getElem h, upF, List.foldl_append]; rfl
def zV : Val := .mk 0 0 [] [] true
def psF (s : Sav) (m : Mov) : List (Int × Val) := (m.2.2.1.1.zip s.2.1.1).map fun q => (q.1.1, q.2)
def psL (m : Mov) (rest : List Val) : List (Int × Val) := m.2.2.2.1.zip rest
def vAt (s : Sav) (m : Mov) (rest : List Val) (i : Nat) : Val := upF (psL m rest) i (upF (psF s m) i zV)
def backF (g : Val → Val) (nl : List Nat → Bool) (s : Sav) (rest : List Val) (p : Mov × Int) : Sav × Int :=
  if p.2 ≠ 0 then (zS, p.2) else if (rest.length : Int) ≠ (p.1.2.2.2.1.length : Int) then (zS, 1) else
  ((s.1, ((List.range p.1.2.1.toNat).map fun i => g (vAt s p.1 rest i), nl (List.range p.1.2.1.toNat)), ([], true)), 0)
theorem psF_len {s : Sav} {m : Mov} (h : s.2.1.1.length = m.2.2.1.1.length) : (psF s m).length = m.2.2.1.1.length := by simp [psF, h]
theorem psF_get {s : Sav} {m : Mov} {j : Nat} (h : j < (psF s m).length) (h1 : j < m.2.2.1.1.length) (h2 : j < s.2.1.1.length) : (psF s m)[j] = (m.2.2.1.1[j].1, s.2.1.1[j]) := by simp [psF]
theorem psL_get {m : Mov} {rest : List Val} {j : Nat} (h : j < (psL m rest).length) (h1 : j < m.2.2.2.1.length) (h2 : j < rest.length) : (psL m rest)[j] = (m.2.2.2.1[j], rest[j]) := by simp [psL]
theorem upF_cp (ps : List (Int × Val)) (i : Nat) (v : Val) : True := trivial
abbrev arrC (n : Nat) (g : Nat → Val) : List (List V) := (List.range n).map fun i => cV (g i)
theorem arrC_set (n k : Nat) (g : Nat → Val) (v : Val) : (arrC n g).set k (cV v) = arrC n (fun i => if i = k then v else g i) := by
  rw [arrC, map_range_set]
  refine List.map_congr_left fun j hj => ?_
  by_cases e : j = k <;> simp [e]
theorem wid_arrC (n : Nat) (g : Nat → Val) : wid 4 (arrC n g) := wid_map (g := fun i => cV (g i)) (fun _ => rfl) _
theorem arrC_store {n : Nat} {g : Nat → Val} {k : Nat} {v : Val} (hk : k < n) : setMany (arrC n g).flatten (k * 4) (cV v) = (arrC n (fun i => if i = k then v else g i)).flatten := by
  rw [setMany_flatten (wid_arrC n g) rfl (by simpa [arrC] using hk), arrC_set]
theorem arrC_len (n : Nat) (g : Nat → Val) : (arrC n g).flatten.length = n * 4 := by rw [flatten_length (n := 4) (wid_arrC n g)]; simp [arrC]
theorem q_Back (s : Sav) (w : Wy) (rest : List Val) (rnl : Bool) (rt : Tag) (hw : w.1.length ≤ bulk) (hm : ∀ m ∈ w.1, m.2.2.1.1.length ≤ bulk ∧ m.2.2.2.1.length ≤ bulk) (hl : s.2.1.1.length ≤ bulk) (hr : rest.length ≤ bulk) (hv : ∀ v ∈ s.2.1.1, v.sz ≤ bulk) (hrv : ∀ v ∈ rest, v.sz ≤ bulk) :
    Quiet Try.prog 23 [.agg (cSav s), .agg (cWy w), .sl (rest.map eVal) rnl rt] (.tup [.agg (cSav (backF cpV (fun _ => false) s rest (stF s w false)).1), .int .i64 (backF cpV (fun _ => false) s rest (stF s w false)).2]) := by
  have hq := q_start s w false hw hm
  have hok := stF_ok (s := s) (w := w) (old := false)
  unfold backF
  generalize stF s w false = p at hq hok
  obtain ⟨m, e⟩ := p
  refine Quiet.turn fun G => ?_
  refine acall_body (rs := [.cell 6 40, .tmp 7]) Try.func23 rfl rfl Try.ntmps23 (by kernel_rfl) (Nat.le_of_ble_eq_true rfl) ?_
  refine aw_sr rfl ?_
  simp only [go_sem, reduceIte, Nat.reduceEqDiff, Nat.reduceAdd, Nat.reduceMul, Nat.reduceSub, Nat.reduceLeDiff, Nat.reduceLT, reduceCtorEq]
  intro b3 hb3 b4 hb4 b6 hb6
  obtain ⟨n64, hx⟩ := fresh_cons hb6
  obtain ⟨n63, n6⟩ := fresh_cons hx
  obtain ⟨n43, n4⟩ := fresh_cons hb4
  refine aw_sr rfl ?_
  simp only [go_sem, reduceIte, Nat.reduceEqDiff, Nat.reduceAdd, Nat.reduceMul, Nat.reduceSub, Nat.reduceLeDiff, Nat.reduceLT, reduceCtorEq, n64, n63, n43]
  refine goA_q hq ?_
  simp only [go_sem, reduceIte, Nat.reduceEqDiff, Nat.reduceAdd, Nat.reduceMul, Nat.reduceSub, Nat.reduceLeDiff, Nat.reduceLT, reduceCtorEq]
  intro b8 hb8
  obtain ⟨n86, hx⟩ := fresh_cons hb8
  obtain ⟨n84, hx⟩ := fresh_cons hx
  obtain ⟨n83, n8⟩ := fresh_cons hx
  refine aw_seq fun K1 hK1 => ?_
  refine aw_sr rfl ?_
  simp only [go_sem, reduceIte, Nat.reduceEqDiff, Nat.reduceAdd, Nat.reduceMul, Nat.reduceSub, Nat.reduceLeDiff, Nat.reduceLT, reduceCtorEq]
  refine aw_if rfl (fun h => ?_) (fun h => ?_)
  · refine aw_sr rfl ?_
    simp only [go_sem, reduceIte, Nat.reduceEqDiff, Nat.reduceAdd, Nat.reduceMul, Nat.reduceSub, Nat.reduceLeDiff, Nat.reduceLT, reduceCtorEq, n86, n84, n83, n64, n63, n43]
    refine aw_ret ⟨trivial, [.agg zSl, .int .i64 e], ?_, _, _, Turn.refl _ _, ?_, sub_fresh n8 (sub_fresh n6 (sub_fresh n4 (sub_fresh hb3 sub_rfl)))⟩
    · simp only [go_sem, reduceIte, Nat.reduceEqDiff, Nat.reduceAdd, Nat.reduceMul, Nat.reduceSub, Nat.reduceLeDiff, Nat.reduceLT, reduceCtorEq, resL, resOf, n86]
    · have h : e ≠ 0 := by simpa using h
      rw [if_pos h]
      exact Vle.tupL (.cons zS_le (.cons (Vle.refl _) .nil))
  have h : e = 0 := by simpa using h
  subst h
  obtain ⟨k1, k2, k3⟩ := hok rfl
  obtain ⟨f1, f2, f3⟩ := badM_facts k1
  simp only [needN, Bool.false_eq_true, if_false] at k1 k2 k3 f1 f2 f3
  have k2 : s.2.1.1.length = m.2.2.1.1.length := by omega
  have hfl : m.2.2.1.1.length ≤ 1048576 := (hm m k3).1
  have hll : m.2.2.2.1.length ≤ 1048576 := (hm m k3).2
  have hrl : rest.length ≤ 1048576 := hr
  have h0 : ¬ ((0 : Int) ≠ 0) := by simp
  refine aw_skip (hK1 _ _ ?_)
  refine aw_seq fun K2 hK2 => ?_
  refine aw_sr rfl ?_
  simp only [go_sem, reduceIte, Nat.reduceEqDiff, Nat.reduceAdd, Nat.reduceMul, Nat.reduceSub, Nat.reduceLeDiff, Nat.reduceLT, reduceCtorEq, n86, n84, n83, n64, n63, n43]
  refine aw_if rfl (fun h => ?_) (fun h => ?_)
  · refine aw_sr rfl ?_
    simp only [go_sem, reduceIte, Nat.reduceEqDiff, Nat.reduceAdd, Nat.reduceMul, Nat.reduceSub, Nat.reduceLeDiff, Nat.reduceLT, reduceCtorEq, n86, n84, n83, n64, n63, n43]
    refine aw_ret ⟨trivial, [.agg zSl, .int .i64 1], ?_, _, _, Turn.refl _ _, ?_, sub_fresh n8 (sub_fresh n6 (sub_fresh n4 (sub_fresh hb3 sub_rfl)))⟩
    · simp only [go_sem, reduceIte, Nat.reduceEqDiff, Nat.reduceAdd, Nat.reduceMul, Nat.reduceSub, Nat.reduceLeDiff, Nat.reduceLT, reduceCtorEq, resL, resOf, n86]
    · rw [if_neg h0, if_pos (by simpa using h)]
      exact Vle.tupL (.cons zS_le (.cons (Vle.refl _) .nil))
  have h1 : ¬ ((rest.length : Int) ≠ (m.2.2.2.1.length : Int)) := by simpa using h
  have hrr : rest.length = m.2.2.2.1.length := by omega
  refine aw_skip (hK2 _ _ ?_)
  refine aw_sr rfl ?_
  simp only [go_sem, reduceIte, Nat.reduceEqDiff, Nat.reduceAdd, Nat.reduceMul, Nat.reduceSub, Nat.reduceLeDiff, Nat.reduceLT, reduceCtorEq, n86, n84, n83, n64, n63, n43]
  refine ⟨⟨f1.1, Int.le_refl _, by omega, by omega⟩, fun b10 hb10 => ?_⟩
  obtain ⟨n108, hx⟩ := fresh_cons hb10
  obtain ⟨n106, hx⟩ := fresh_cons hx
  obtain ⟨n104, hx⟩ := fresh_cons hx
  obtain ⟨n103, n10⟩ := fresh_cons hx
  have hcl : m.2.1.toNat ≤ 1000 := by omega
  have hrep : VleL (List.replicate (m.2.1).toNat [V.int .i64 0, V.int .i64 0, V.str [], V.sl [] true .full]).flatten (arrC m.2.1.toNat fun i => cpV (upF ((psF s m).take 0) i zV)).flatten := by
    have e : (arrC m.2.1.toNat fun i => cpV (upF ((psF s m).take 0) i zV)) = List.replicate m.2.1.toNat (cV (cpV zV)) := by
      have e2 : (fun i => cV (cpV (upF ((psF s m).take 0) i zV))) = fun _ => cV (cpV zV) := by funext i; rw [List.take_zero]; rfl
      rw [arrC, e2, List.map_const', List.length_range]
    rw [e]
    exact VleL.flat (VleLL.replicate (.cons (Vle.refl _) (.cons (Vle.refl _) (.cons (Vle.refl _) (.cons Vle.untag .nil)))) _)
  refine AW.vars_weak hrep ?_
  have hg_none : ∀ x6, hget ((b8, AObj.vars (cMov m)) :: (b6, x6) :: (b4, .vars (cWy w)) :: (b3, .vars (cSav s)) :: G) b10 = none := fun x6 => by
    rw [hget_cons_ne (fun e => n108 e.symm), hget_cons_ne (fun e => n106 e.symm), hget_cons_ne (fun e => n104 e.symm), hget_cons_ne (fun e => n103 e.symm)]; exact n10
  have pfl := psF_len (m := m) k2
  refine aw_seq fun K3 hK3 => ?_
  refine aw_sr rfl ?_
  simp only [go_sem, reduceIte, Nat.reduceEqDiff, Nat.reduceAdd, Nat.reduceMul, Nat.reduceSub, Nat.reduceLeDiff, Nat.reduceLT, reduceCtorEq, n108, n106, n104, n103, n86, n84, n83, n64, n63, n43]
  refine aw_range m.2.2.1.1.length (S := Unit) (fun _ _ => [(36, .sl (m.2.2.1.1.map eFld) m.2.2.1.2 .no), (10, .ms b10 0 m.2.1.toNat m.2.1.toNat), (3, .ptr b3 0), (8, .ptr b8 0), (6, .ptr b6 0), (2, .sl (rest.map eVal) rnl rt)])
    (fun j _ => (b10, .vars (arrC m.2.1.toNat fun i => cpV (upF ((psF s m).take j) i zV)).flatten) :: (b8, .vars (cMov m)) :: (b6, .vars zSl) :: (b4, .vars (cWy w)) :: (b3, .vars (cSav s)) :: G) (fun _ _ => True) () (by omega) ?_ (fun _ _ h => h) trivial rfl (fun _ _ => rfl) ?_ ?_ (by decide)
  · simp only [go_sem, reduceIte, Nat.reduceEqDiff, Nat.reduceAdd, Nat.reduceMul, Nat.reduceSub, Nat.reduceLeDiff, Nat.reduceLT, reduceCtorEq, Int.natCast_zero]
  · intro j _ hj _
    have hfj := f3 _ (List.getElem_mem hj)
    have hjs : j < s.2.1.1.length := by omega
    have hup := fun i => upF_succ (ps := psF s m) (by omega : j < (psF s m).length) i zV
    simp only [psF_get (by omega : j < (psF s m).length) hj hjs] at hup
    refine aw_sr rfl ?_
    simp only [go_sem, reduceIte, Nat.reduceEqDiff, Nat.reduceAdd, Nat.reduceMul, Nat.reduceSub, Nat.reduceLeDiff, Nat.reduceLT, reduceCtorEq, getD_map hj, eFld, cFld, cV]
    refine ⟨⟨by omega, by omega, wid_map (g := eFld) (fun _ => rfl) _⟩, fun b12 hb12 => ?_⟩
    obtain ⟨n1210, hx⟩ := fresh_cons hb12
    obtain ⟨n128, hx⟩ := fresh_cons hx
    obtain ⟨n126, hx⟩ := fresh_cons hx
    obtain ⟨n124, hx⟩ := fresh_cons hx
    obtain ⟨n123, n12⟩ := fresh_cons hx
    refine aw_sr rfl ?_
    simp only [go_sem, reduceIte, Nat.reduceEqDiff, Nat.reduceAdd, Nat.reduceMul, Nat.reduceSub, Nat.reduceLeDiff, Nat.reduceLT, reduceCtorEq]
    refine aw_if rfl (fun h => ?_) (fun h => ?_)
    · have h : 0 ≤ m.2.2.1.1[j].1 := by simpa using h
      have hlt : m.2.2.1.1[j].1.toNat < m.2.1.toNat := by omega
      refine aw_rgd [(0,true),(1,true),(2,true),(3,true),(4,true),(5,true),(6,true),(7,true),(8,true),(9,true),(10,false)] mixed rfl (by kernel_rfl) ?_
      simp only [go_sem, reduceIte, Nat.reduceEqDiff, Nat.reduceAdd, Nat.reduceMul, Nat.reduceSub, Nat.reduceLeDiff, Nat.reduceLT, reduceCtorEq, n1210, n128, n126, n124, n123, n108, n106, n104, n103, n86, n84, n83, n64, n63, n43, getD_map hjs, eC, cV]
      refine ⟨⟨by omega, by omega, wid_eVal _⟩, ?_⟩
      refine goQ_by (q_copied0 _ s.2.1.1[j] (Nat.le_refl _) (hv _ (List.getElem_mem hjs))) ?_
      simp only [go_sem, reduceIte, Nat.reduceEqDiff, Nat.reduceAdd, Nat.reduceMul, Nat.reduceSub, Nat.reduceLeDiff, Nat.reduceLT, reduceCtorEq, n1210]
      refine ⟨⟨h, by omega⟩, ⟨by rw [arrC_len]; omega, ?_⟩⟩
      have hst := arrC_store (g := fun i => cpV (upF ((psF s m).take j) i zV)) (v := cpV s.2.1.1[j]) hlt
      have hfun : (fun i => if i = m.2.2.1.1[j].1.toNat then cpV s.2.1.1[j] else cpV (upF ((psF s m).take j) i zV)) = fun i => cpV (upF ((psF s m).take (j + 1)) i zV) := by
        funext i
        rw [hup]
        by_cases e : i = m.2.2.1.1[j].1.toNat
        · rw [if_pos e, if_pos (by omega)]
        · rw [if_neg e, if_neg (by omega)]
      rw [hfun] at hst
      simp only [setMany, cV] at hst
      refine ⟨(), ?_, ?_⟩
      · simp only [go_sem, reduceIte, Nat.reduceEqDiff, Nat.reduceAdd, Nat.reduceMul, Nat.reduceSub, Nat.reduceLeDiff, Nat.reduceLT, reduceCtorEq]
      · rw [hst]
        exact sub_fresh (by rw [hget_cons_ne (fun e => n1210 e.symm), hget_cons_ne (fun e => n128 e.symm), hget_cons_ne (fun e => n126 e.symm), hget_cons_ne (fun e => n124 e.symm), hget_cons_ne (fun e => n123 e.symm)]; exact n12) sub_rfl
    · have h : ¬ 0 ≤ m.2.2.1.1[j].1 := by simpa using h
      have hfun : (fun i => cpV (upF ((psF s m).take (j + 1)) i zV)) = fun i => cpV (upF ((psF s m).take j) i zV) := by
        funext i
        rw [hup, if_neg (by omega)]
      refine aw_skip ⟨(), ?_, ?_⟩
      · simp only [go_sem, reduceIte, Nat.reduceEqDiff, Nat.reduceAdd, Nat.reduceMul, Nat.reduceSub, Nat.reduceLeDiff, Nat.reduceLT, reduceCtorEq]
      · rw [hfun]; exact sub_fresh hb12 sub_rfl
  · intro _ _
    refine hK3 _ _ ?_
    have htk : (psF s m).take m.2.2.1.1.length = psF s m := List.take_of_length_le (by omega)
    rw [htk]
    refine aw_seq fun K4 hK4 => ?_
    refine aw_sr rfl ?_
    simp only [go_sem, reduceIte, Nat.reduceEqDiff, Nat.reduceAdd, Nat.reduceMul, Nat.reduceSub, Nat.reduceLeDiff, Nat.reduceLT, reduceCtorEq, n108]
    refine aw_range m.2.2.2.1.length (S := Unit) (fun _ _ => [(58, .sl (m.2.2.2.1.map eInt) m.2.2.2.2 .no), (10, .ms b10 0 m.2.1.toNat m.2.1.toNat), (3, .ptr b3 0), (6, .ptr b6 0), (2, .sl (rest.map eVal) rnl rt)])
      (fun j _ => (b10, .vars (arrC m.2.1.toNat fun i => cpV (upF ((psL m rest).take j) i (upF (psF s m) i zV))).flatten) :: (b8, .vars (cMov m)) :: (b6, .vars zSl) :: (b4, .vars (cWy w)) :: (b3, .vars (cSav s)) :: G) (fun _ _ => True) () (by omega) ?_ (fun _ _ h => h) trivial rfl (fun _ _ => rfl) ?_ ?_ (by decide)
    · simp only [go_sem, reduceIte, Nat.reduceEqDiff, Nat.reduceAdd, Nat.reduceMul, Nat.reduceSub, Nat.reduceLeDiff, Nat.reduceLT, reduceCtorEq, Int.natCast_zero]
    · intro j _ hj _
      have hfj := f2 _ (List.getElem_mem hj)
      have hjs : j < rest.length := by omega
      have pll : (psL m rest).length = m.2.2.2.1.length := by simp [psL, hrr]
      have hup := fun i v => upF_succ (ps := psL m rest) (by omega : j < (psL m rest).length) i v
      simp only [psL_get (by omega : j < (psL m rest).length) hj hjs] at hup
      have hlt : m.2.2.2.1[j].toNat < m.2.1.toNat := by omega
      refine aw_sr rfl ?_
      simp only [go_sem, reduceIte, Nat.reduceEqDiff, Nat.reduceAdd, Nat.reduceMul, Nat.reduceSub, Nat.reduceLeDiff, Nat.reduceLT, reduceCtorEq, getD_map hj, eInt]
      refine ⟨⟨by omega, by omega, wid_map (g := eInt) (fun _ => rfl) _⟩, ?_⟩
      refine aw_rg rfl ?_
      simp only [go_sem, reduceIte, Nat.reduceEqDiff, Nat.reduceAdd, Nat.reduceMul, Nat.reduceSub, Nat.reduceLeDiff, Nat.reduceLT, reduceCtorEq, getD_map hjs, eC, cV]
      refine ⟨⟨by omega, by omega, wid_eVal _⟩, ?_⟩
      refine goA_q (q_copied0 _ rest[j] (Nat.le_refl _) (hrv _ (List.getElem_mem hjs))) ?_
      simp only [go_sem, reduceIte, Nat.reduceEqDiff, Nat.reduceAdd, Nat.reduceMul, Nat.reduceSub, Nat.reduceLeDiff, Nat.reduceLT, reduceCtorEq]
      refine ⟨⟨by omega, by omega⟩, ⟨by rw [arrC_len]; omega, ?_⟩⟩
      have hst := arrC_store (g := fun i => cpV (upF ((psL m rest).take j) i (upF (psF s m) i zV))) (v := cpV rest[j]) hlt
      have hfun : (fun i => if i = m.2.2.2.1[j].toNat then cpV rest[j] else cpV (upF ((psL m rest).take j) i (upF (psF s m) i zV))) = fun i => cpV (upF ((psL m rest).take (j + 1)) i (upF (psF s m) i zV)) := by
        funext i
        rw [hup]
        by_cases e : i = m.2.2.2.1[j].toNat
        · rw [if_pos e, if_pos (by omega)]
        · rw [if_neg e, if_neg (by omega)]
      rw [hfun] at hst
      simp only [setMany, cV] at hst
      refine ⟨(), ?_, ?_⟩
      · simp only [go_sem, reduceIte, Nat.reduceEqDiff, Nat.reduceAdd, Nat.reduceMul, Nat.reduceSub, Nat.reduceLeDiff, Nat.reduceLT, reduceCtorEq]
      · rw [hst]
        exact sub_rfl
    · intro _ _
      refine hK4 _ _ ?_
      have htl : (psL m rest).take m.2.2.2.1.length = psL m rest := List.take_of_length_le (by simp [psL]; omega)
      rw [htl]
      refine aw_sr rfl ?_
      simp only [go_sem, reduceIte, Nat.reduceEqDiff, Nat.reduceAdd, Nat.reduceMul, Nat.reduceSub, Nat.reduceLeDiff, Nat.reduceLT, reduceCtorEq, n103, n106, n108, n83, n86, n63, n43]
      refine aw_ret ⟨trivial, [.agg [.str s.1, .ms b10 0 m.2.1.toNat m.2.1.toNat, .sl [] true .full], .int .i64 0], ?_, .tup [.agg [.str s.1, .sl (arrC m.2.1.toNat fun i => cpV (vAt s m rest i)) false .no, .sl [] true .full], .int .i64 0], (b8, .vars (cMov m)) :: (b6, .vars [.str s.1, .ms b10 0 m.2.1.toNat m.2.1.toNat, .sl [] true .full]) :: (b4, .vars (cWy w)) :: (b3, .vars (cSav s)) :: G, ?_, ?_, ?_⟩
      · simp only [go_sem, reduceIte, Nat.reduceEqDiff, Nat.reduceAdd, Nat.reduceMul, Nat.reduceSub, Nat.reduceLeDiff, Nat.reduceLT, reduceCtorEq, resL, resOf, n106, n86]
      · exact (turn_ms (sz := 4) (hg_none _) (by simp [arrC]) (wid_arrC _ _) (.tup _ _ rfl fun i hi => match i, hi with
          | 0, _ => .agg _ _ rfl fun i hi => match i, hi with
            | 0, _ => .same _
            | 1, _ => .ms _ rfl
            | 2, _ => .same _
          | 1, _ => .same _))
      · rw [if_neg h0, if_neg h1]
        have e : (arrC m.2.1.toNat fun i => cpV (vAt s m rest i)) = ((List.range m.2.1.toNat).map fun i => cpV (vAt s m rest i)).map eVal := by
          rw [arrC, List.map_map]; exact List.map_congr_left fun i _ => (eC _).symm
        rw [e]
        exact Vle.tupL (.cons (Vle.aggL (.cons (Vle.refl _) (.cons (Vle.refl _) (.cons Vle.untag .nil)))) (.cons (Vle.refl _) .nil))
      · exact sub_fresh n8 (sub_fresh n6 (sub_fresh n4 (sub_fresh hb3 sub_rfl)))
end Go.Proofs.Ytomjghlaoncpbaa
